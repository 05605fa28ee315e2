import Derived.Test.YtgeieafnnlmfdaaGenJa
set_option linter.unusedVariables false
set_option linter.unusedSimpArgs false
set_option maxRecDepth 100000
set_option maxHeartbeats 4000000
namespace Go.Abs.GenJ
open Go.Abs Go.Proofs
mutual
def journal_Journal_scan.j1 : Nat → Int → Int → Bool → (List (List Int)) → Option (Unit × Int × journal_Journal × vdisk_Disk)
 | 0, _, _, _, _ => none
 | k + 1, x8, x9, x10, x1 => (rd x1 0).bind fun v11 => if (decide (0 ≤ 1 ∧ 1 ≤ (x1.length : Int) ∧ (x1.length : Int) ≤ (x1.length : Int))) = true then (none) else none
def journal_Journal_scan.l0 : Nat → (List (List Int)) → Int → journal_Journal → (List Int) → vdisk_Disk → Option (Unit × Int × journal_Journal × vdisk_Disk)
 | 0, _, _, _, _, _ => none
 | k + 1, x1, x2, p0, a1, p1 => if (decide (0 ≤ x2 ∧ x2 ≤ (a1.length : Int) ∧ (a1.length : Int) ≤ (a1.length : Int))) = true then ((journal_next.f k (sub a1 x2 (a1.length : Int))).bind fun r4 => if r4.2 = true then (if (decide (x1.length + ([r4.1] : List (List Int)).length ≤ 5864062014805)) = true then (journal_Journal_scan.l0 k (x1 ++ ([r4.1] : List (List Int))) (IntKind.i64.wrap (x2 + (IntKind.i64.wrap (8 + (r4.1.length : Int))))) p0 a1 p1) else none) else (if ((x1.length : Int) == 0) = true then (some ((), 72, (⟨(), p0.snap, p0.l, p0.stopped⟩ : journal_Journal), (⟨([] : List (ByteArray × vdisk_file)), p1.room, p1.used, (), p1.dead⟩ : vdisk_Disk))) else (if (decide (x2 < (a1.length : Int))) = true then ((vdisk_Disk_Truncate.f k (⟨([] : List (ByteArray × vdisk_file)), p1.room, p1.used, (), p1.dead⟩ : vdisk_Disk) (⟨#[106, 111, 117, 114, 110, 97, 108]⟩ : ByteArray) x2).bind fun r9 => if (r9.1 != 0) = true then (some ((), r9.1, (⟨(), p0.snap, p0.l, p0.stopped⟩ : journal_Journal), (⟨([] : List (ByteArray × vdisk_file)), r9.2.room, r9.2.used, (), r9.2.dead⟩ : vdisk_Disk))) else (journal_Journal_scan.j1 k r9.2.room r9.2.used r9.2.dead x1)) else (journal_Journal_scan.j1 k p1.room p1.used p1.dead x1)))) else none
end
def journal_Journal_scan.f (k : Nat) (p0 : journal_Journal) (a1 : List Int) (p1 : vdisk_Disk) : Option (Unit × Int × journal_Journal × vdisk_Disk) := journal_Journal_scan.l0 k ([] : List (List Int)) 0 p0 a1 p1
theorem journal_Journal_scan.meets (k : Nat) (p0 : journal_Journal) (a1 : List Int) (p1 : vdisk_Disk) (r : Unit × Int × journal_Journal × vdisk_Disk) (h : journal_Journal_scan.f k p0 a1 p1 = some r) : Meets Try.prog 33 [(D.one (C.ref 0 0)), (D.one (C.p false (.sl a1.length (a1.flatMap e_u8))))] [(some (AObj.cells false [(C.ref 1 0), (C.p false (.sl p0.snap.length (p0.snap.flatMap e_u8))), (C.own 2 0 p0.l.length 1), (C.p true (.v (.bool p0.stopped)))])), (some (AObj.cells false [(C.p true (.v (.map none))), (C.p true (.v (.int .i64 p1.room))), (C.p true (.v (.int .i64 p1.used))), (C.p true (.v (.pointer none))), (C.p true (.v (.bool p1.dead)))])), (some (AObj.cells false (rowC (e_sl e_u8) p0.l)))] (D.tup [(sc (.pointer none)), (sc (.int .i64 r.2.1))]) [(some (AObj.cells false [(C.ref 1 0), (C.p false (.sl r.2.2.1.snap.length (r.2.2.1.snap.flatMap e_u8))), (C.own 3 0 r.2.2.1.l.length 1), (C.p true (.v (.bool r.2.2.1.stopped)))])), (some (AObj.cells false [(C.p true (.v (.map none))), (C.p true (.v (.int .i64 r.2.2.2.room))), (C.p true (.v (.int .i64 r.2.2.2.used))), (C.p true (.v (.pointer none))), (C.p true (.v (.bool r.2.2.2.dead)))])), none, (some (AObj.cells false (rowC (e_sl e_u8) r.2.2.1.l)))] := by
 unfold journal_Journal_scan.f at h
 refine Meets.of_body (n := 57) Try.func33 rfl rfl (nl rfl) fun x hx => ?_
 replace hx : x.k = 3 := hx
 show AW _ x _ _ ⟨57, fr0 [(D.one (C.ref 0 0)), (D.one (C.p false (.sl a1.length (a1.flatMap e_u8))))], [(some (AObj.cells false [(C.ref 1 0), (C.p false (.sl p0.snap.length (p0.snap.flatMap e_u8))), (C.own 2 0 p0.l.length 1), (C.p true (.v (.bool p0.stopped)))])), (some (AObj.cells false [(C.p true (.v (.map none))), (C.p true (.v (.int .i64 p1.room))), (C.p true (.v (.int .i64 p1.used))), (C.p true (.v (.pointer none))), (C.p true (.v (.bool p1.dead)))])), (some (AObj.cells false (rowC (e_sl e_u8) p0.l)))]⟩
 refine AW.weak (st' := ⟨57, (upd 57 (upd 57 topF 0 (D.one (C.ref 0 0))) 1 (D.one (C.p false (.sl a1.length (a1.flatMap e_u8))))), [(some (AObj.cells false [(C.ref 1 0), (C.p false (.sl p0.snap.length (p0.snap.flatMap e_u8))), (C.own 3 0 p0.l.length 1), (C.p true (.v (.bool p0.stopped)))])), (some (AObj.cells false [(C.p true (.v (.map none))), (C.p true (.v (.int .i64 p1.room))), (C.p true (.v (.int .i64 p1.used))), (C.p true (.v (.pointer none))), (C.p true (.v (.bool p1.dead)))])), none, (some (AObj.cells false (rowC (e_sl e_u8) p0.l)))]⟩) (Weak.genL (kk := 3) [0, 1, 2, 2] [] hx rfl (by decide) rfl rfl rfl rfl (le_upd (le_upd (le_top _) (.t (.one (.ref rfl)))) (.t (.one .same))) (ac (.cells (fun h => h) (ac (.ref rfl) (ac .same (ac (.own rfl) (ac .sc an))))) (ac (.cells (fun h => h) (ac .sc (ac .sc (ac .sc (ac .sc (ac .sc an)))))) (ac (.none _) (ac (.cells (fun h => h) (all2_row _)) an))))) (AW.seq (AW.region ?_))
 refine s_assign (d := (sc (.pointer none))) rfl ?_
 refine s_assign (d := (sc (.int .i64 0))) rfl (AWops.nil (AW.seq (AW.region ?_)))
 refine s_assign (d := (sc (.slice none 0 0))) rfl (AWops.nil (AW.seq (AW.region ?_)))
 refine s_assign (d := (sc (.int .i64 0))) rfl (AWops.nil (AW.seq (AW.block ?_)))
 refine AW.loopw (st0 := ⟨57, (upd 57 (upd 57 (upd 57 (upd 57 topF 0 (D.one (C.ref 0 0))) 1 (D.one (C.p false (.sl a1.length (a1.flatMap e_u8))))) 6 (D.one (C.own 3 0 ([] : List (List Int)).length 1))) 7 (sc (.int .i64 0))), [(some (AObj.cells false [(C.ref 1 0), (C.p false (.sl p0.snap.length (p0.snap.flatMap e_u8))), (C.own 4 0 p0.l.length 1), (C.p true (.v (.bool p0.stopped)))])), (some (AObj.cells false [(C.p true (.v (.map none))), (C.p true (.v (.int .i64 p1.room))), (C.p true (.v (.int .i64 p1.used))), (C.p true (.v (.pointer none))), (C.p true (.v (.bool p1.dead)))])), none, (some (AObj.cells true (rowC (e_sl e_u8) ([] : List (List Int))))), (some (AObj.cells false (rowC (e_sl e_u8) p0.l)))]⟩) (fun kv st => kv ≤ k ∧ ∃ (x1 : List (List Int)) (x2 : Int), journal_Journal_scan.l0 kv x1 x2 p0 a1 p1 = some r ∧ st = ⟨57, (upd 57 (upd 57 (upd 57 (upd 57 topF 0 (D.one (C.ref 0 0))) 1 (D.one (C.p false (.sl a1.length (a1.flatMap e_u8))))) 6 (D.one (C.own 3 0 x1.length 1))) 7 (sc (.int .i64 x2))), [(some (AObj.cells false [(C.ref 1 0), (C.p false (.sl p0.snap.length (p0.snap.flatMap e_u8))), (C.own 4 0 p0.l.length 1), (C.p true (.v (.bool p0.stopped)))])), (some (AObj.cells false [(C.p true (.v (.map none))), (C.p true (.v (.int .i64 p1.room))), (C.p true (.v (.int .i64 p1.used))), (C.p true (.v (.pointer none))), (C.p true (.v (.bool p1.dead)))])), none, (some (AObj.cells true (rowC (e_sl e_u8) x1))), (some (AObj.cells false (rowC (e_sl e_u8) p0.l)))]⟩) (k := k) (Weak.trans (Weak.nil (sz := 1) (i := 6) rfl) (Weak.gen (kk := 3) [0, 1, 2, 4, 3] [] hx rfl (by decide) (by decide) rfl rfl rfl (le_upd (le_upd (le_upd (le_upd (le_top _) (.t (.one (.ref rfl)))) (.t (.one .same))) (.t (.one (.own rfl)))) (.t (.one .sc))) (ac (.cells (fun h => h) (ac (.ref rfl) (ac .same (ac (.own rfl) (ac .sc an))))) (ac (.cells (fun h => h) (ac .sc (ac .sc (ac .sc (ac .sc (ac .sc an)))))) (ac (.none _) (ac (.cells (fun _ => rfl) an) (ac (.cells (fun h => h) (all2_row _)) an))))))) ⟨Nat.le_refl _, ([] : List (List Int)), 0, h, rfl⟩ ?_
 rintro ql0 st ⟨hkl0, x1, x2, h, rfl⟩
 cases ql0 with
 | zero => exact absurd h (by simp [journal_Journal_scan.l0])
 | succ ql0 =>
  replace h := (journal_Journal_scan.l0.eq_2 _ _ _ _ _ _).symm.trans h
  refine AW.block (AW.seq (AW.region ?_))
  refine s_move (d := (D.one (C.p false (.sl a1.length (a1.flatMap e_u8))))) rfl ?_
  refine s_move (d := (sc (.int .i64 x2))) rfl ?_
  obtain ⟨c3, h⟩ := gdH h
  have dc3 := of_decide_eq_true c3
  refine t_sliceImm (a := x2) (b := (a1.length : Int)) F.u_22 F.sz_5 e_u8_len rfl (by omega) (by omega) (by omega) (.yes rfl (by omega) rfl) .no ?_
  obtain ⟨r4, er4, h⟩ := bnd h
  refine s_call2 (ρ := []) (br := false) (H2 := [(some (AObj.cells false [(C.ref 1 0), (C.p false (.sl p0.snap.length (p0.snap.flatMap e_u8))), (C.own 4 0 p0.l.length 1), (C.p true (.v (.bool p0.stopped)))])), (some (AObj.cells false [(C.p true (.v (.map none))), (C.p true (.v (.int .i64 p1.room))), (C.p true (.v (.int .i64 p1.used))), (C.p true (.v (.pointer none))), (C.p true (.v (.bool p1.dead)))])), none, (some (AObj.cells true (rowC (e_sl e_u8) x1))), (some (AObj.cells false (rowC (e_sl e_u8) p0.l)))]) (d := (D.tup [(D.one (C.p false (.sl r4.1.length (r4.1.flatMap e_u8)))), (sc (.bool r4.2))])) F.ca_60 rfl rfl (ac (.one .imm) an) an (by decide) rfl (journal_next.meets _ (sub a1 x2 (a1.length : Int)) r4 er4) (.inl rfl) rfl rfl ?_
  refine s_move (d := (D.tup [(D.one (C.p false (.sl r4.1.length (r4.1.flatMap e_u8)))), (sc (.bool r4.2))])) rfl ?_
  refine s_extract (d := (D.one (C.p false (.sl r4.1.length (r4.1.flatMap e_u8))))) rfl rfl ?_
  refine s_extract (d := (sc (.bool r4.2))) rfl rfl ?_
  refine s_assign (d := (D.one (C.p false (.sl r4.1.length (r4.1.flatMap e_u8))))) rfl ?_
  refine s_assign (d := (sc (.bool r4.2))) rfl (AWops.nil (AW.seq (AW.seq (AW.region ?_))))
  refine s_move (d := (sc (.bool r4.2))) rfl ?_
  refine s_not rfl (AWops.nil ?_)
  rcases itH h with ⟨c5, h⟩ | ⟨c5, h⟩
  ·refine AW.cond_no rfl (by rw [c5] <;> rfl) (AW.skip (AW.seq (AW.region ?_)))
   refine s_move (d := (D.one (C.own 3 0 x1.length 1))) rfl ?_
   refine s_move (d := (D.one (C.p false (.sl r4.1.length (r4.1.flatMap e_u8))))) rfl ?_
   refine s_buildSlice (n := 1) (ps := [(0, (D.one (C.p false (.sl r4.1.length (r4.1.flatMap e_u8)))))]) (cs := rowC (e_sl e_u8) ([r4.1] : List (List Int))) F.u_25 F.sz_22 F.z_22 rfl rfl (by decide) (by decide) rfl rfl ?_
   obtain ⟨c6, h⟩ := gdH h
   have dc6 := of_decide_eq_true c6
   refine t_append (xs := x1) (ys := ([r4.1] : List (List Int))) (zs := x1 ++ ([r4.1] : List (List Int))) (H' := [(some (AObj.cells false [(C.ref 1 0), (C.p false (.sl p0.snap.length (p0.snap.flatMap e_u8))), (C.own 4 0 p0.l.length 1), (C.p true (.v (.bool p0.stopped)))])), (some (AObj.cells false [(C.p true (.v (.map none))), (C.p true (.v (.int .i64 p1.room))), (C.p true (.v (.int .i64 p1.used))), (C.p true (.v (.pointer none))), (C.p true (.v (.bool p1.dead)))])), none, none, (some (AObj.cells false (rowC (e_sl e_u8) p0.l))), (some (AObj.cells true (rowC (e_sl e_u8) ([r4.1] : List (List Int))))), (some (AObj.cells true (rowC (e_sl e_u8) (x1 ++ ([r4.1] : List (List Int))))))]) F.u_25 F.in_22 rfl (e_sl_len _) (.own rfl rfl) (.own rfl rfl) F.u_25 (by omega) (by omega) rfl rfl ?_
   refine s_assign (d := (D.one (C.own 6 0 ((x1 ++ ([r4.1] : List (List Int))).length) 1))) rfl (AWops.nil (AW.region ?_))
   refine s_move (d := (sc (.int .i64 x2))) rfl ?_
   refine s_move (d := (D.one (C.p false (.sl r4.1.length (r4.1.flatMap e_u8))))) rfl ?_
   refine s_len (n := r4.1.length) F.u_22 rfl (.inr ⟨(fun _ _ h => by cases h), ⟨_, rfl⟩⟩) ?_
   refine s_binI (v := (.int .i64 (IntKind.i64.wrap (8 + (r4.1.length : Int))))) rfl rfl rfl ?_
   refine s_binI (v := (.int .i64 (IntKind.i64.wrap (x2 + (IntKind.i64.wrap (8 + (r4.1.length : Int))))))) rfl rfl rfl ?_
   refine s_assign (d := (sc (.int .i64 (IntKind.i64.wrap (x2 + (IntKind.i64.wrap (8 + (r4.1.length : Int)))))))) rfl (AWops.nil ?_)
   exact ⟨_, ⟨57, (upd 57 (upd 57 (upd 57 (upd 57 topF 0 (D.one (C.ref 0 0))) 1 (D.one (C.p false (.sl a1.length (a1.flatMap e_u8))))) 6 (D.one (C.own 3 0 (x1 ++ ([r4.1] : List (List Int))).length 1))) 7 (sc (.int .i64 (IntKind.i64.wrap (x2 + (IntKind.i64.wrap (8 + (r4.1.length : Int)))))))), [(some (AObj.cells false [(C.ref 1 0), (C.p false (.sl p0.snap.length (p0.snap.flatMap e_u8))), (C.own 4 0 p0.l.length 1), (C.p true (.v (.bool p0.stopped)))])), (some (AObj.cells false [(C.p true (.v (.map none))), (C.p true (.v (.int .i64 p1.room))), (C.p true (.v (.int .i64 p1.used))), (C.p true (.v (.pointer none))), (C.p true (.v (.bool p1.dead)))])), none, (some (AObj.cells true (rowC (e_sl e_u8) (x1 ++ ([r4.1] : List (List Int)))))), (some (AObj.cells false (rowC (e_sl e_u8) p0.l)))]⟩, by omega, (Weak.gen (kk := 3) [0, 1, 2, 6, 4] [] hx rfl (by decide) (by decide) rfl rfl rfl (le_upd (le_upd (le_upd (le_upd (le_top _) (.t (.one (.ref rfl)))) (.t (.one .same))) (.t (.one (.own rfl)))) (.t (.one .sc))) (ac (.cells (fun h => h) (ac (.ref rfl) (ac .same (ac (.own rfl) (ac .sc an))))) (ac (.cells (fun h => h) (ac .sc (ac .sc (ac .sc (ac .sc (ac .sc an)))))) (ac (.none _) (ac (.cells (fun _ => rfl) (all2_row _)) (ac (.cells (fun h => h) (all2_row _)) an)))))), by omega, x1 ++ ([r4.1] : List (List Int)), IntKind.i64.wrap (x2 + (IntKind.i64.wrap (8 + (r4.1.length : Int)))), h, rfl⟩
  ·refine AW.cond_yes rfl (by rw [c5] <;> rfl) (AW.exit (AW.seq (AW.seq (AW.region ?_))))
   refine s_move (d := (D.one (C.own 3 0 x1.length 1))) rfl ?_
   refine s_len (n := x1.length) F.u_25 rfl (.inr ⟨(fun _ _ h => by cases h), ⟨_, rfl⟩⟩) ?_
   refine s_binI (v := (.bool ((x1.length : Int) == 0))) rfl rfl rfl (AWops.nil ?_)
   rcases itH h with ⟨c7, h⟩ | ⟨c7, h⟩
   ·refine AW.cond_yes rfl c7 (AW.seq (AW.region ?_))
    refine s_assign (d := (sc (.pointer none))) rfl ?_
    refine s_assign (d := (sc (.int .i64 72))) rfl (AWops.nil (AW.ret ?_))
    obtain rfl := Option.some.inj h
    exact ⟨_, rfl, (Weak.gen (kk := 3) [0, 1, 2, 4] [] rfl rfl (by decide) (by decide) rfl rfl rfl (le_upd (le_top _) (DLe.tup (ac (TLe.one .sc) (ac (TLe.one .sc) an)))) (ac (.cells (fun h => h) (ac (.ref rfl) (ac .same (ac (.own rfl) (ac .sc an))))) (ac (.cells (fun h => h) (ac .sc (ac .sc (ac .sc (ac .sc (ac .sc an)))))) (ac (.none _) (ac (.cells (fun h => h) (all2_row _)) an)))))⟩
   ·refine AW.cond_no rfl c7 (AW.skip ?_)
    refine AW.seqJ (fun st => ∃ (x8 : Int) (x9 : Int) (x10 : Bool), journal_Journal_scan.j1 ql0 x8 x9 x10 x1 = some r ∧ st = ⟨57, (upd 57 (upd 57 topF 0 (D.one (C.ref 0 0))) 6 (D.one (C.own 3 0 x1.length 1))), [(some (AObj.cells false [(C.ref 1 0), (C.p false (.sl p0.snap.length (p0.snap.flatMap e_u8))), (C.own 4 0 p0.l.length 1), (C.p true (.v (.bool p0.stopped)))])), (some (AObj.cells false [(C.p true (.v (.map none))), (C.p true (.v (.int .i64 x8))), (C.p true (.v (.int .i64 x9))), (C.p true (.v (.pointer none))), (C.p true (.v (.bool x10)))])), none, (some (AObj.cells true (rowC (e_sl e_u8) x1))), (some (AObj.cells false (rowC (e_sl e_u8) p0.l)))]⟩) ?_ ?_
    ·refine AW.seq (AW.region ?_)
     refine s_move (d := (sc (.int .i64 x2))) rfl ?_
     refine s_move (d := (D.one (C.p false (.sl a1.length (a1.flatMap e_u8))))) rfl ?_
     refine s_len (n := a1.length) F.u_22 rfl (.inr ⟨(fun _ _ h => by cases h), ⟨_, rfl⟩⟩) ?_
     refine s_binI (v := (.bool (decide (x2 < (a1.length : Int))))) rfl rfl rfl (AWops.nil ?_)
     rcases itH h with ⟨c8, h⟩ | ⟨c8, h⟩
     ·refine AW.cond_yes rfl c8 (AW.seq (AW.region ?_))
      refine s_move (d := (D.one (C.ref 0 0))) rfl ?_
      refine s_nilCheck (d := (D.one (C.ref 0 0))) rfl (.inl ⟨_, _, rfl⟩) ?_
      refine s_fieldRef F.fo_27_0 (by decide) rfl ?_
      refine s_load1 (c' := (C.ref 1 0)) F.ag_24 rfl rfl ?_
      refine s_move (d := (sc (.int .i64 x2))) rfl ?_
      obtain ⟨r9, er9, h⟩ := bnd h
      refine s_call2 (ρ := [1]) (br := false) (H2 := [(some (AObj.cells false [(C.ref 1 0), (C.p false (.sl p0.snap.length (p0.snap.flatMap e_u8))), (C.own 4 0 p0.l.length 1), (C.p true (.v (.bool p0.stopped)))])), (some (AObj.cells false [(C.p true (.v (.map none))), (C.p true (.v (.int .i64 r9.2.room))), (C.p true (.v (.int .i64 r9.2.used))), (C.p true (.v (.pointer none))), (C.p true (.v (.bool r9.2.dead)))])), none, (some (AObj.cells true (rowC (e_sl e_u8) x1))), (some (AObj.cells false (rowC (e_sl e_u8) p0.l)))]) (d := (sc (.int .i64 r9.1))) F.ca_44 rfl rfl (ac (.one (.ref rfl)) (ac (.one .sc) (ac (.one .sc) an))) (ac (.cells (ac .sc (ac .sc (ac .sc (ac .sc (ac .sc an)))))) an) (by decide) rfl (vdisk_Disk_Truncate.meets _ (⟨([] : List (ByteArray × vdisk_file)), p1.room, p1.used, (), p1.dead⟩ : vdisk_Disk) (⟨#[106, 111, 117, 114, 110, 97, 108]⟩ : ByteArray) x2 r9 er9) (.inl rfl) rfl rfl ?_
      refine s_assign (d := (sc (.int .i64 r9.1))) rfl (AWops.nil (AW.seq (AW.region ?_)))
      refine s_move (d := (sc (.int .i64 r9.1))) rfl ?_
      refine s_binI (v := (.bool (r9.1 != 0))) rfl rfl rfl (AWops.nil ?_)
      rcases itH h with ⟨c10, h⟩ | ⟨c10, h⟩
      ·refine AW.cond_yes rfl c10 (AW.seq (AW.region ?_))
       refine s_move (d := (sc (.int .i64 r9.1))) rfl ?_
       refine s_assign (d := (sc (.pointer none))) rfl ?_
       refine s_assign (d := (sc (.int .i64 r9.1))) rfl (AWops.nil (AW.ret ?_))
       obtain rfl := Option.some.inj h
       exact ⟨_, rfl, (Weak.gen (kk := 3) [0, 1, 2, 4] [] rfl rfl (by decide) (by decide) rfl rfl rfl (le_upd (le_top _) (DLe.tup (ac (TLe.one .sc) (ac (TLe.one .sc) an)))) (ac (.cells (fun h => h) (ac (.ref rfl) (ac .same (ac (.own rfl) (ac .sc an))))) (ac (.cells (fun h => h) (ac .sc (ac .sc (ac .sc (ac .sc (ac .sc an)))))) (ac (.none _) (ac (.cells (fun h => h) (all2_row _)) an)))))⟩
      ·refine AW.cond_no rfl c10 (AW.skip ?_)
       exact ⟨⟨57, (upd 57 (upd 57 topF 0 (D.one (C.ref 0 0))) 6 (D.one (C.own 3 0 x1.length 1))), [(some (AObj.cells false [(C.ref 1 0), (C.p false (.sl p0.snap.length (p0.snap.flatMap e_u8))), (C.own 4 0 p0.l.length 1), (C.p true (.v (.bool p0.stopped)))])), (some (AObj.cells false [(C.p true (.v (.map none))), (C.p true (.v (.int .i64 r9.2.room))), (C.p true (.v (.int .i64 r9.2.used))), (C.p true (.v (.pointer none))), (C.p true (.v (.bool r9.2.dead)))])), none, (some (AObj.cells true (rowC (e_sl e_u8) x1))), (some (AObj.cells false (rowC (e_sl e_u8) p0.l)))]⟩, (Weak.gen (kk := 3) [0, 1, 2, 3, 4] [] hx rfl (by decide) (by decide) rfl rfl rfl (le_upd (le_upd (le_top _) (.t (.one (.ref rfl)))) (.t (.one (.own rfl)))) (ac (.cells (fun h => h) (ac (.ref rfl) (ac .same (ac (.own rfl) (ac .sc an))))) (ac (.cells (fun h => h) (ac .sc (ac .sc (ac .sc (ac .sc (ac .sc an)))))) (ac (.none _) (ac (.cells (fun _ => rfl) (all2_row _)) (ac (.cells (fun h => h) (all2_row _)) an)))))), r9.2.room, r9.2.used, r9.2.dead, h, rfl⟩
     ·refine AW.cond_no rfl c8 (AW.skip ?_)
      exact ⟨⟨57, (upd 57 (upd 57 topF 0 (D.one (C.ref 0 0))) 6 (D.one (C.own 3 0 x1.length 1))), [(some (AObj.cells false [(C.ref 1 0), (C.p false (.sl p0.snap.length (p0.snap.flatMap e_u8))), (C.own 4 0 p0.l.length 1), (C.p true (.v (.bool p0.stopped)))])), (some (AObj.cells false [(C.p true (.v (.map none))), (C.p true (.v (.int .i64 p1.room))), (C.p true (.v (.int .i64 p1.used))), (C.p true (.v (.pointer none))), (C.p true (.v (.bool p1.dead)))])), none, (some (AObj.cells true (rowC (e_sl e_u8) x1))), (some (AObj.cells false (rowC (e_sl e_u8) p0.l)))]⟩, (Weak.gen (kk := 3) [0, 1, 2, 3, 4] [] hx rfl (by decide) (by decide) rfl rfl rfl (le_upd (le_upd (le_top _) (.t (.one (.ref rfl)))) (.t (.one (.own rfl)))) (ac (.cells (fun h => h) (ac (.ref rfl) (ac .same (ac (.own rfl) (ac .sc an))))) (ac (.cells (fun h => h) (ac .sc (ac .sc (ac .sc (ac .sc (ac .sc an)))))) (ac (.none _) (ac (.cells (fun _ => rfl) (all2_row _)) (ac (.cells (fun h => h) (all2_row _)) an)))))), p1.room, p1.used, p1.dead, h, rfl⟩
    ·rintro st ⟨x8, x9, x10, h, rfl⟩
     cases ql0 with
     | zero => exact absurd h (by simp [journal_Journal_scan.j1])
     | succ qj1 =>
      replace h := (journal_Journal_scan.j1.eq_2 _ _ _ _ _).symm.trans h
      refine AW.seq ?_
      refine AW.weak (st' := ⟨57, (upd 57 (upd 57 topF 0 (D.one (C.ref 0 0))) 6 (D.one (C.p false (.sl x1.length (x1.flatMap (e_sl e_u8)))))), [(some (AObj.cells false [(C.ref 1 0), (C.p false (.sl p0.snap.length (p0.snap.flatMap e_u8))), (C.own 3 0 p0.l.length 1), (C.p true (.v (.bool p0.stopped)))])), (some (AObj.cells false [(C.p true (.v (.map none))), (C.p true (.v (.int .i64 x8))), (C.p true (.v (.int .i64 x9))), (C.p true (.v (.pointer none))), (C.p true (.v (.bool x10)))])), none, (some (AObj.cells false (rowC (e_sl e_u8) p0.l)))]⟩) (Weak.gen (kk := 3) [0, 1, 2, 4] [3] hx rfl (by decide) (by decide) rfl rfl rfl (le_upd (le_upd (le_top _) (.t (.one (.ref rfl)))) (.t (.one (CLe.frz (e_sl_len _) rfl rfl rfl)))) (ac (.cells (fun h => h) (ac (.ref rfl) (ac .same (ac (.own rfl) (ac .sc an))))) (ac (.cells (fun h => h) (ac .sc (ac .sc (ac .sc (ac .sc (ac .sc an)))))) (ac (.none _) (ac (.cells (fun h => h) (all2_row _)) an))))) ?_
      refine AW.weak (st' := ⟨57, (upd 57 (upd 57 topF 0 (D.one (C.ref 0 0))) 6 (D.one (C.p false (.sl x1.length (x1.flatMap (e_sl e_u8)))))), [(some (AObj.cells false [(C.ref 1 0), (C.p false (.sl p0.snap.length (p0.snap.flatMap e_u8))), (C.own 3 0 p0.l.length 1), (C.p true (.v (.bool p0.stopped)))])), (some (AObj.cells false [(C.p true (.v (.map none))), (C.p true (.v (.int .i64 x8))), (C.p true (.v (.int .i64 x9))), (C.p true (.v (.pointer none))), (C.p true (.v (.bool x10)))])), none, (some (AObj.cells false (rowC (e_sl e_u8) p0.l)))]⟩) (Weak.gen (kk := 3) [0, 1, 2, 3] [] hx rfl (by decide) (by decide) rfl rfl rfl (le_upd (le_upd (le_top _) (.t (.one (.ref rfl)))) (.t (.one .same))) (ac (.cells (fun h => h) (ac (.ref rfl) (ac .same (ac (.own rfl) (ac .sc an))))) (ac (.cells (fun h => h) (ac .sc (ac .sc (ac .sc (ac .sc (ac .sc an)))))) (ac (.none _) (ac (.cells (fun h => h) (all2_row _)) an))))) ?_
      obtain ⟨v11, ev11, h⟩ := bnd h
      obtain ⟨pv11, qv11, gv11⟩ := rd_some ev11
      obtain ⟨c12, h⟩ := gdH h
      have dc12 := of_decide_eq_true c12
      refine AW.draw (n := 57) (L := 4) [(0, ⟨some 45, (D.one (C.ref 0 0)), [(0, (D.one (C.ref 0 0)))], [], [], none⟩), (1, ⟨some 46, (D.one (C.ref 0 0)), [(0, (D.one (C.ref 0 0)))], [], [], none⟩), (2, ⟨some 47, (D.one (C.p false (.sl x1.length (x1.flatMap (e_sl e_u8))))), [(6, (D.one (C.p false (.sl x1.length (x1.flatMap (e_sl e_u8))))))], [], [], none⟩), (3, ⟨some 48, (D.one (C.peek false [P.sl v11.length (v11.flatMap e_u8)])), [(47, (D.one (C.p false (.sl x1.length (x1.flatMap (e_sl e_u8))))))], [], [], none⟩), (4, ⟨some 49, (D.one (C.p false (.sl v11.length (v11.flatMap e_u8)))), [(48, (D.one (C.peek false [P.sl v11.length (v11.flatMap e_u8)])))], [], [], none⟩), (5, ⟨some 50, (D.one (C.p false (.sl x1.length (x1.flatMap (e_sl e_u8))))), [(6, (D.one (C.p false (.sl x1.length (x1.flatMap (e_sl e_u8))))))], [], [], none⟩), (6, ⟨some 51, (D.one (C.p false (.sl (sub x1 1 (x1.length : Int)).length ((sub x1 1 (x1.length : Int)).flatMap (e_sl e_u8))))), [(50, (D.one (C.p false (.sl x1.length (x1.flatMap (e_sl e_u8))))))], [], [], none⟩), (7, ⟨some 52, (D.one (C.ref 0 0)), [(45, (D.one (C.ref 0 0)))], [], [], none⟩), (8, ⟨some 53, (D.one (C.ref 0 1)), [(52, (D.one (C.ref 0 0)))], [], [], none⟩), (9, ⟨none, (D.one C.top), [(49, (D.one (C.p false (.sl v11.length (v11.flatMap e_u8))))), (53, (D.one (C.ref 0 1)))], [(0, (some (AObj.cells false [(C.ref 1 0), (C.p false (.sl p0.snap.length (p0.snap.flatMap e_u8))), (C.own 3 0 p0.l.length 1), (C.p true (.v (.bool p0.stopped)))])))], [(0, (some (AObj.cells false [(C.ref 1 0), (C.p false (.sl v11.length (v11.flatMap e_u8))), (C.own 3 0 p0.l.length 1), (C.p true (.v (.bool p0.stopped)))])))], none⟩), (10, ⟨some 54, (D.one (C.ref 0 0)), [(46, (D.one (C.ref 0 0)))], [], [], none⟩), (11, ⟨some 55, (D.one (C.ref 0 2)), [(54, (D.one (C.ref 0 0)))], [], [], none⟩), (12, ⟨none, (D.one C.top), [(51, (D.one (C.p false (.sl (sub x1 1 (x1.length : Int)).length ((sub x1 1 (x1.length : Int)).flatMap (e_sl e_u8)))))), (55, (D.one (C.ref 0 2)))], [(0, (some (AObj.cells false [(C.ref 1 0), (C.p false (.sl v11.length (v11.flatMap e_u8))), (C.own 3 0 p0.l.length 1), (C.p true (.v (.bool p0.stopped)))])))], [(0, (some (AObj.cells false [(C.ref 1 0), (C.p false (.sl v11.length (v11.flatMap e_u8))), (C.p false (.sl (sub x1 1 (x1.length : Int)).length ((sub x1 1 (x1.length : Int)).flatMap (e_sl e_u8)))), (C.p true (.v (.bool p0.stopped)))])))], none⟩)] [[], [], [], [2], [2, 3], [], [5], [0, 2, 3, 4], [0, 2, 3, 4, 7], [0, 2, 3, 4, 7, 8], [0, 1, 2, 3, 4, 5, 6, 7, 8, 9], [0, 1, 2, 3, 4, 5, 6, 7, 8, 9, 10], [0, 1, 2, 3, 4, 5, 6, 7, 8, 9, 10, 11]] (nl rfl) [0, 6, 0, 1, 2, 0, 1, 3, 4, 5, 7, 8, 9] rfl (TK := []) rfl AllK.nil' (fC ⟨(sC rfl AllS.nil'), AllH.nil'⟩ (fC ⟨(sC rfl AllS.nil'), AllH.nil'⟩ (fC ⟨(sC rfl AllS.nil'), AllH.nil'⟩ (fC ⟨(sC rfl AllS.nil'), AllH.nil'⟩ (fC ⟨(sC rfl AllS.nil'), AllH.nil'⟩ (fC ⟨(sC rfl AllS.nil'), AllH.nil'⟩ (fC ⟨(sC rfl AllS.nil'), AllH.nil'⟩ (fC ⟨(sC rfl AllS.nil'), AllH.nil'⟩ (fC ⟨(sC rfl AllS.nil'), AllH.nil'⟩ (fC ⟨(sC rfl (sC rfl AllS.nil')), (hC rfl AllH.nil')⟩ (fC ⟨(sC rfl AllS.nil'), AllH.nil'⟩ (fC ⟨(sC rfl AllS.nil'), AllH.nil'⟩ (fC ⟨(sC rfl (sC rfl AllS.nil')), (hC rfl AllH.nil')⟩ AllF.nil'))))))))))))) ?_ ?_
      ·refine (pC ?_ (pC ?_ (pC ?_ (pC ?_ (pC ?_ (pC ?_ (pC ?_ (pC ?_ (pC ?_ (pC ?_ (pC ?_ (pC ?_ (pC ?_ AllStep.nil')))))))))))))
       ·intro K rest fr hv htk k
        show AWops _ x _ _ K ⟨57, (upd 57 fr 0 (D.one (C.ref 0 0))), _⟩
        refine s_move (d := (D.one (C.ref 0 0))) rfl k
       ·intro K rest fr hv htk k
        show AWops _ x _ _ K ⟨57, (upd 57 fr 0 (D.one (C.ref 0 0))), _⟩
        refine s_move (d := (D.one (C.ref 0 0))) rfl k
       ·intro K rest fr hv htk k
        show AWops _ x _ _ K ⟨57, (upd 57 fr 6 (D.one (C.p false (.sl x1.length (x1.flatMap (e_sl e_u8)))))), _⟩
        refine s_move (d := (D.one (C.p false (.sl x1.length (x1.flatMap (e_sl e_u8)))))) rfl k
       ·intro K rest fr hv htk k
        show AWops _ x _ _ K ⟨57, (upd 57 fr 47 (D.one (C.p false (.sl x1.length (x1.flatMap (e_sl e_u8)))))), [(hv 0), (hv 1), (hv 2), (hv 3)]⟩
        refine s_indexImm (ps := [P.sl v11.length (v11.flatMap e_u8)]) F.u_25 F.sz_22 rfl rfl pv11 qv11 (flat_at (e_sl_len _) gv11 (e_sl_eq _ v11)) k
       ·intro K rest fr hv htk k
        show AWops _ x _ _ K ⟨57, (upd 57 fr 48 (D.one (C.peek false [P.sl v11.length (v11.flatMap e_u8)]))), [(hv 0), (hv 1), (hv 2), (hv 3)]⟩
        refine s_load1 (c' := (C.p false (.sl v11.length (v11.flatMap e_u8)))) F.ag_22 rfl rfl k
       ·intro K rest fr hv htk k
        show AWops _ x _ _ K ⟨57, (upd 57 fr 6 (D.one (C.p false (.sl x1.length (x1.flatMap (e_sl e_u8)))))), _⟩
        refine s_move (d := (D.one (C.p false (.sl x1.length (x1.flatMap (e_sl e_u8)))))) rfl k
       ·intro K rest fr hv htk k
        show AWops _ x _ _ K ⟨57, (upd 57 fr 50 (D.one (C.p false (.sl x1.length (x1.flatMap (e_sl e_u8)))))), [(hv 0), (hv 1), (hv 2), (hv 3)]⟩
        refine t_sliceImm (a := 1) (b := (x1.length : Int)) F.u_25 F.sz_22 (e_sl_len _) rfl (by omega) (by omega) (by omega) (.yes rfl (by omega) rfl) .no k
       ·intro K rest fr hv htk k
        show AWops _ x _ _ K ⟨57, (upd 57 fr 45 (D.one (C.ref 0 0))), [(hv 0), (hv 1), (hv 2), (hv 3)]⟩
        refine s_nilCheck (d := (D.one (C.ref 0 0))) rfl (.inl ⟨_, _, rfl⟩) k
       ·intro K rest fr hv htk k
        show AWops _ x _ _ K ⟨57, (upd 57 fr 52 (D.one (C.ref 0 0))), [(hv 0), (hv 1), (hv 2), (hv 3)]⟩
        refine s_fieldRef F.fo_27_1 (by decide) rfl k
       ·intro K rest fr hv htk k
        show AWops _ x _ _ K ⟨57, (upd 57 (upd 57 fr 53 (D.one (C.ref 0 1))) 49 (D.one (C.p false (.sl v11.length (v11.flatMap e_u8))))), [(some (AObj.cells false [(C.ref 1 0), (C.p false (.sl p0.snap.length (p0.snap.flatMap e_u8))), (C.own 3 0 p0.l.length 1), (C.p true (.v (.bool p0.stopped)))])), (hv 1), (hv 2), (hv 3)]⟩
        refine s_store (cs' := [(C.ref 1 0), (C.p false (.sl v11.length (v11.flatMap e_u8))), (C.own 3 0 p0.l.length 1), (C.p true (.v (.bool p0.stopped)))]) rfl rfl rfl (List.cons_ne_nil _ _) rfl F.sz_22 (nl rfl) rfl k
       ·intro K rest fr hv htk k
        show AWops _ x _ _ K ⟨57, (upd 57 fr 46 (D.one (C.ref 0 0))), [(hv 0), (hv 1), (hv 2), (hv 3)]⟩
        refine s_nilCheck (d := (D.one (C.ref 0 0))) rfl (.inl ⟨_, _, rfl⟩) k
       ·intro K rest fr hv htk k
        show AWops _ x _ _ K ⟨57, (upd 57 fr 54 (D.one (C.ref 0 0))), [(hv 0), (hv 1), (hv 2), (hv 3)]⟩
        refine s_fieldRef F.fo_27_2 (by decide) rfl k
       ·intro K rest fr hv htk k
        show AWops _ x _ _ K ⟨57, (upd 57 (upd 57 fr 55 (D.one (C.ref 0 2))) 51 (D.one (C.p false (.sl (sub x1 1 (x1.length : Int)).length ((sub x1 1 (x1.length : Int)).flatMap (e_sl e_u8)))))), [(some (AObj.cells false [(C.ref 1 0), (C.p false (.sl v11.length (v11.flatMap e_u8))), (C.own 3 0 p0.l.length 1), (C.p true (.v (.bool p0.stopped)))])), (hv 1), (hv 2), (hv 3)]⟩
        refine s_store (cs' := [(C.ref 1 0), (C.p false (.sl v11.length (v11.flatMap e_u8))), (C.p false (.sl (sub x1 1 (x1.length : Int)).length ((sub x1 1 (x1.length : Int)).flatMap (e_sl e_u8)))), (C.p true (.v (.bool p0.stopped)))]) rfl rfl rfl (List.cons_ne_nil _ _) rfl F.sz_25 (nl rfl) rfl k
      ·refine AWops.weak (st' := ⟨57, (upd 57 topF 0 (D.one (C.ref 0 0))), [(some (AObj.cells false [(C.ref 1 0), (C.p false (.sl v11.length (v11.flatMap e_u8))), (C.p false (.sl (sub x1 1 (x1.length : Int)).length ((sub x1 1 (x1.length : Int)).flatMap (e_sl e_u8)))), (C.p true (.v (.bool p0.stopped)))])), (some (AObj.cells false [(C.p true (.v (.map none))), (C.p true (.v (.int .i64 x8))), (C.p true (.v (.int .i64 x9))), (C.p true (.v (.pointer none))), (C.p true (.v (.bool x10)))])), none]⟩) (Weak.gen (kk := 3) [0, 1, 2] [] hx rfl (by decide) (by decide) rfl rfl rfl (le_upd (le_top _) (.t (.one (.ref rfl)))) (ac (.cells (fun h => h) (ac (.ref rfl) (ac .same (ac .same (ac .sc an))))) (ac (.cells (fun h => h) (ac .sc (ac .sc (ac .sc (ac .sc (ac .sc an)))))) (ac (.none _) an)))) (AWops.nil (AW.seq (AW.region ?_)))
       refine s_move (d := (D.one (C.ref 0 0))) rfl ?_
       refine s_assign (d := (D.one (C.ref 0 0))) rfl ?_
       refine s_assign (d := (sc (.int .i64 0))) rfl (AWops.nil (AW.ret ?_))
       cases h
def vdisk_Disk_Append.f (k : Nat) (p0 : vdisk_Disk) (a1 : ByteArray) (a2 : List Int) : Option (Int × vdisk_Disk) := (vdisk_named.f k a1).bind fun r1 => (vdisk_Disk_change.f k (⟨([] : List (ByteArray × vdisk_file)), p0.room, p0.used, (), p0.dead⟩ : vdisk_Disk) r1 a1 true (a2.length : Int)).bind fun r2 => if (r2.1 == 0) = true then (none) else (some (r2.1, (⟨([] : List (ByteArray × vdisk_file)), r2.2.room, r2.2.used, (), r2.2.dead⟩ : vdisk_Disk)))
theorem vdisk_Disk_Append.meets (k : Nat) (p0 : vdisk_Disk) (a1 : ByteArray) (a2 : List Int) (r : Int × vdisk_Disk) (h : vdisk_Disk_Append.f k p0 a1 a2 = some r) : Meets Try.prog 25 [(D.one (C.ref 0 0)), (sc (.string a1)), (D.one (C.p false (.sl a2.length (a2.flatMap e_u8))))] [(some (AObj.cells false [(C.p true (.v (.map none))), (C.p true (.v (.int .i64 p0.room))), (C.p true (.v (.int .i64 p0.used))), (C.p true (.v (.pointer none))), (C.p true (.v (.bool p0.dead)))]))] (sc (.int .i64 r.1)) [(some (AObj.cells false [(C.p true (.v (.map none))), (C.p true (.v (.int .i64 r.2.room))), (C.p true (.v (.int .i64 r.2.used))), (C.p true (.v (.pointer none))), (C.p true (.v (.bool r.2.dead)))]))] := by
 unfold vdisk_Disk_Append.f at h
 refine Meets.of_body (n := 36) Try.func25 rfl rfl (nl rfl) fun x hx => ?_
 replace hx : x.k = 1 := hx
 show AW _ x _ _ ⟨36, fr0 [(D.one (C.ref 0 0)), (sc (.string a1)), (D.one (C.p false (.sl a2.length (a2.flatMap e_u8))))], [(some (AObj.cells false [(C.p true (.v (.map none))), (C.p true (.v (.int .i64 p0.room))), (C.p true (.v (.int .i64 p0.used))), (C.p true (.v (.pointer none))), (C.p true (.v (.bool p0.dead)))]))]⟩
 refine AW.seq (AW.region ?_)
 refine s_assign (d := (sc (.int .i64 0))) rfl (AWops.nil (AW.seq (AW.region ?_)))
 refine s_move (d := (D.one (C.ref 0 0))) rfl ?_
 refine s_move (d := (sc (.string a1))) rfl ?_
 obtain ⟨r1, er1, h⟩ := bnd h
 refine s_call2 (ρ := []) (br := false) (H2 := [(some (AObj.cells false [(C.p true (.v (.map none))), (C.p true (.v (.int .i64 p0.room))), (C.p true (.v (.int .i64 p0.used))), (C.p true (.v (.pointer none))), (C.p true (.v (.bool p0.dead)))]))]) (d := (sc (.bool r1))) F.ca_56 rfl rfl (ac (.one .sc) an) an (by decide) rfl (vdisk_named.meets _ a1 r1 er1) (.inl rfl) rfl rfl ?_
 refine s_move (d := (sc (.string a1))) rfl ?_
 refine s_move (d := (D.one (C.p false (.sl a2.length (a2.flatMap e_u8))))) rfl ?_
 refine s_len (n := a2.length) F.u_22 rfl (.inr ⟨(fun _ _ h => by cases h), ⟨_, rfl⟩⟩) ?_
 obtain ⟨r2, er2, h⟩ := bnd h
 refine s_call2 (ρ := [0]) (br := false) (H2 := [(some (AObj.cells false [(C.p true (.v (.map none))), (C.p true (.v (.int .i64 r2.2.room))), (C.p true (.v (.int .i64 r2.2.used))), (C.p true (.v (.pointer none))), (C.p true (.v (.bool r2.2.dead)))]))]) (d := (sc (.int .i64 r2.1))) F.ca_55 rfl rfl (ac (.one (.ref rfl)) (ac (.one .sc) (ac (.one .sc) (ac (.one .sc) (ac (.one .sc) an))))) (ac (.cells (ac .sc (ac .sc (ac .sc (ac .sc (ac .sc an)))))) an) (by decide) rfl (vdisk_Disk_change.meets _ (⟨([] : List (ByteArray × vdisk_file)), p0.room, p0.used, (), p0.dead⟩ : vdisk_Disk) r1 a1 true (a2.length : Int) r2 er2) (.inl rfl) rfl rfl ?_
 refine s_assign (d := (sc (.int .i64 r2.1))) rfl (AWops.nil (AW.seq (AW.seq (AW.region ?_))))
 refine s_move (d := (sc (.int .i64 r2.1))) rfl ?_
 refine s_binI (v := (.bool (r2.1 == 0))) rfl rfl rfl (AWops.nil ?_)
 rcases itH h with ⟨c3, h⟩ | ⟨c3, h⟩
 ·refine AW.cond_yes rfl c3 (AW.seq (AW.region ?_))
  refine s_move (d := (D.one (C.ref 0 0))) rfl ?_
  refine s_nilCheck (d := (D.one (C.ref 0 0))) rfl (.inl ⟨_, _, rfl⟩) ?_
  refine s_fieldRef F.fo_37_0 (by decide) rfl ?_
  refine s_load1 (c' := (C.p true (.v (.map none)))) F.ag_34 rfl rfl ?_
  refine s_move (d := (sc (.string a1))) rfl ?_
  cases h
 ·refine AW.cond_no rfl c3 (AW.skip (AW.seq (AW.region ?_)))
  refine s_move (d := (sc (.int .i64 r2.1))) rfl ?_
  refine s_assign (d := (sc (.int .i64 r2.1))) rfl (AWops.nil (AW.ret ?_))
  obtain rfl := Option.some.inj h
  exact ⟨_, rfl, (Weak.gen (kk := 1) [0] [] rfl rfl (by decide) (by decide) rfl rfl rfl (le_upd (le_top _) (.t (.one .sc))) (ac (.cells (fun h => h) (ac .sc (ac .sc (ac .sc (ac .sc (ac .sc an)))))) an))⟩
def vdisk_Disk_Sync.f (k : Nat) (p0 : vdisk_Disk) (a1 : ByteArray) : Option (Int × vdisk_Disk) := (vdisk_Disk_change.f k (⟨([] : List (ByteArray × vdisk_file)), p0.room, p0.used, (), p0.dead⟩ : vdisk_Disk) true a1 false 0).bind fun r1 => if (r1.1 == 0) = true then (none) else (some (r1.1, (⟨([] : List (ByteArray × vdisk_file)), r1.2.room, r1.2.used, (), r1.2.dead⟩ : vdisk_Disk)))
theorem vdisk_Disk_Sync.meets (k : Nat) (p0 : vdisk_Disk) (a1 : ByteArray) (r : Int × vdisk_Disk) (h : vdisk_Disk_Sync.f k p0 a1 = some r) : Meets Try.prog 27 [(D.one (C.ref 0 0)), (sc (.string a1))] [(some (AObj.cells false [(C.p true (.v (.map none))), (C.p true (.v (.int .i64 p0.room))), (C.p true (.v (.int .i64 p0.used))), (C.p true (.v (.pointer none))), (C.p true (.v (.bool p0.dead)))]))] (sc (.int .i64 r.1)) [(some (AObj.cells false [(C.p true (.v (.map none))), (C.p true (.v (.int .i64 r.2.room))), (C.p true (.v (.int .i64 r.2.used))), (C.p true (.v (.pointer none))), (C.p true (.v (.bool r.2.dead)))]))] := by
 unfold vdisk_Disk_Sync.f at h
 refine Meets.of_body (n := 27) Try.func27 rfl rfl (nl rfl) fun x hx => ?_
 replace hx : x.k = 1 := hx
 show AW _ x _ _ ⟨27, fr0 [(D.one (C.ref 0 0)), (sc (.string a1))], [(some (AObj.cells false [(C.p true (.v (.map none))), (C.p true (.v (.int .i64 p0.room))), (C.p true (.v (.int .i64 p0.used))), (C.p true (.v (.pointer none))), (C.p true (.v (.bool p0.dead)))]))]⟩
 refine AW.seq (AW.region ?_)
 refine s_assign (d := (sc (.int .i64 0))) rfl (AWops.nil (AW.seq (AW.region ?_)))
 refine s_move (d := (D.one (C.ref 0 0))) rfl ?_
 refine s_move (d := (sc (.string a1))) rfl ?_
 obtain ⟨r1, er1, h⟩ := bnd h
 refine s_call2 (ρ := [0]) (br := false) (H2 := [(some (AObj.cells false [(C.p true (.v (.map none))), (C.p true (.v (.int .i64 r1.2.room))), (C.p true (.v (.int .i64 r1.2.used))), (C.p true (.v (.pointer none))), (C.p true (.v (.bool r1.2.dead)))]))]) (d := (sc (.int .i64 r1.1))) F.ca_55 rfl rfl (ac (.one (.ref rfl)) (ac (.one .sc) (ac (.one .sc) (ac (.one .sc) (ac (.one .sc) an))))) (ac (.cells (ac .sc (ac .sc (ac .sc (ac .sc (ac .sc an)))))) an) (by decide) rfl (vdisk_Disk_change.meets _ (⟨([] : List (ByteArray × vdisk_file)), p0.room, p0.used, (), p0.dead⟩ : vdisk_Disk) true a1 false 0 r1 er1) (.inl rfl) rfl rfl ?_
 refine s_assign (d := (sc (.int .i64 r1.1))) rfl (AWops.nil (AW.seq (AW.seq (AW.region ?_))))
 refine s_move (d := (sc (.int .i64 r1.1))) rfl ?_
 refine s_binI (v := (.bool (r1.1 == 0))) rfl rfl rfl (AWops.nil ?_)
 rcases itH h with ⟨c2, h⟩ | ⟨c2, h⟩
 ·refine AW.cond_yes rfl c2 (AW.seq (AW.region ?_))
  refine s_move (d := (D.one (C.ref 0 0))) rfl ?_
  refine s_nilCheck (d := (D.one (C.ref 0 0))) rfl (.inl ⟨_, _, rfl⟩) ?_
  refine s_fieldRef F.fo_37_0 (by decide) rfl ?_
  refine s_load1 (c' := (C.p true (.v (.map none)))) F.ag_34 rfl rfl ?_
  refine s_move (d := (sc (.string a1))) rfl ?_
  cases h
 ·refine AW.cond_no rfl c2 (AW.skip (AW.seq (AW.region ?_)))
  refine s_move (d := (sc (.int .i64 r1.1))) rfl ?_
  refine s_assign (d := (sc (.int .i64 r1.1))) rfl (AWops.nil (AW.ret ?_))
  obtain rfl := Option.some.inj h
  exact ⟨_, rfl, (Weak.gen (kk := 1) [0] [] rfl rfl (by decide) (by decide) rfl rfl rfl (le_upd (le_top _) (.t (.one .sc))) (ac (.cells (fun h => h) (ac .sc (ac .sc (ac .sc (ac .sc (ac .sc an)))))) an))⟩
def vdisk_Disk_Rename.f (k : Nat) (p0 : vdisk_Disk) (a1 : ByteArray) (a2 : ByteArray) : Option (Int × vdisk_Disk) := (vdisk_named.f k a2).bind fun r1 => (vdisk_Disk_change.f k (⟨([] : List (ByteArray × vdisk_file)), p0.room, p0.used, (), p0.dead⟩ : vdisk_Disk) r1 a1 false 0).bind fun r2 => if (r2.1 == 0) = true then (if (a1.toList == a2.toList) = true then (some (r2.1, (⟨([] : List (ByteArray × vdisk_file)), r2.2.room, r2.2.used, (), r2.2.dead⟩ : vdisk_Disk))) else (none)) else (some (r2.1, (⟨([] : List (ByteArray × vdisk_file)), r2.2.room, r2.2.used, (), r2.2.dead⟩ : vdisk_Disk)))
theorem vdisk_Disk_Rename.meets (k : Nat) (p0 : vdisk_Disk) (a1 : ByteArray) (a2 : ByteArray) (r : Int × vdisk_Disk) (h : vdisk_Disk_Rename.f k p0 a1 a2 = some r) : Meets Try.prog 42 [(D.one (C.ref 0 0)), (sc (.string a1)), (sc (.string a2))] [(some (AObj.cells false [(C.p true (.v (.map none))), (C.p true (.v (.int .i64 p0.room))), (C.p true (.v (.int .i64 p0.used))), (C.p true (.v (.pointer none))), (C.p true (.v (.bool p0.dead)))]))] (sc (.int .i64 r.1)) [(some (AObj.cells false [(C.p true (.v (.map none))), (C.p true (.v (.int .i64 r.2.room))), (C.p true (.v (.int .i64 r.2.used))), (C.p true (.v (.pointer none))), (C.p true (.v (.bool r.2.dead)))]))] := by
 unfold vdisk_Disk_Rename.f at h
 refine Meets.of_body (n := 35) Try.func42 rfl rfl (nl rfl) fun x hx => ?_
 replace hx : x.k = 1 := hx
 show AW _ x _ _ ⟨35, fr0 [(D.one (C.ref 0 0)), (sc (.string a1)), (sc (.string a2))], [(some (AObj.cells false [(C.p true (.v (.map none))), (C.p true (.v (.int .i64 p0.room))), (C.p true (.v (.int .i64 p0.used))), (C.p true (.v (.pointer none))), (C.p true (.v (.bool p0.dead)))]))]⟩
 refine AW.seq (AW.region ?_)
 refine s_assign (d := (sc (.int .i64 0))) rfl (AWops.nil (AW.seq (AW.region ?_)))
 refine s_move (d := (D.one (C.ref 0 0))) rfl ?_
 refine s_move (d := (sc (.string a2))) rfl ?_
 obtain ⟨r1, er1, h⟩ := bnd h
 refine s_call2 (ρ := []) (br := false) (H2 := [(some (AObj.cells false [(C.p true (.v (.map none))), (C.p true (.v (.int .i64 p0.room))), (C.p true (.v (.int .i64 p0.used))), (C.p true (.v (.pointer none))), (C.p true (.v (.bool p0.dead)))]))]) (d := (sc (.bool r1))) F.ca_56 rfl rfl (ac (.one .sc) an) an (by decide) rfl (vdisk_named.meets _ a2 r1 er1) (.inl rfl) rfl rfl ?_
 refine s_move (d := (sc (.string a1))) rfl ?_
 obtain ⟨r2, er2, h⟩ := bnd h
 refine s_call2 (ρ := [0]) (br := false) (H2 := [(some (AObj.cells false [(C.p true (.v (.map none))), (C.p true (.v (.int .i64 r2.2.room))), (C.p true (.v (.int .i64 r2.2.used))), (C.p true (.v (.pointer none))), (C.p true (.v (.bool r2.2.dead)))]))]) (d := (sc (.int .i64 r2.1))) F.ca_55 rfl rfl (ac (.one (.ref rfl)) (ac (.one .sc) (ac (.one .sc) (ac (.one .sc) (ac (.one .sc) an))))) (ac (.cells (ac .sc (ac .sc (ac .sc (ac .sc (ac .sc an)))))) an) (by decide) rfl (vdisk_Disk_change.meets _ (⟨([] : List (ByteArray × vdisk_file)), p0.room, p0.used, (), p0.dead⟩ : vdisk_Disk) r1 a1 false 0 r2 er2) (.inl rfl) rfl rfl ?_
 refine s_assign (d := (sc (.int .i64 r2.1))) rfl (AWops.nil (AW.seq (AW.seq (AW.region ?_))))
 refine s_move (d := (sc (.int .i64 r2.1))) rfl ?_
 refine s_binI (v := (.bool (r2.1 == 0))) rfl rfl rfl ?_
 refine s_move (d := (sc (.bool (r2.1 == 0)))) rfl ?_
 rcases itH h with ⟨c3, h⟩ | ⟨c3, h⟩
 ·refine AWops.guard_yes rfl (nl rfl) rfl c3 ?_
  refine s_move (d := (sc (.string a1))) rfl ?_
  refine AWops.guard_yes rfl (nl rfl) rfl c3 ?_
  refine s_move (d := (sc (.string a2))) rfl ?_
  refine AWops.guard_yes rfl (nl rfl) rfl c3 ?_
  refine s_binS (v := (.bool (!(a1.toList == a2.toList)))) rfl rfl rfl ?_
  refine s_pick_yes (d := (sc (.bool (!(a1.toList == a2.toList))))) rfl c3 rfl (AWops.nil ?_)
  rcases itH h with ⟨c4, h⟩ | ⟨c4, h⟩
  ·refine AW.cond_no rfl (by rw [c4] <;> rfl) (AW.skip (AW.seq (AW.region ?_)))
   refine s_move (d := (sc (.int .i64 r2.1))) rfl ?_
   refine s_assign (d := (sc (.int .i64 r2.1))) rfl (AWops.nil (AW.ret ?_))
   obtain rfl := Option.some.inj h
   exact ⟨_, rfl, (Weak.gen (kk := 1) [0] [] rfl rfl (by decide) (by decide) rfl rfl rfl (le_upd (le_top _) (.t (.one .sc))) (ac (.cells (fun h => h) (ac .sc (ac .sc (ac .sc (ac .sc (ac .sc an)))))) an))⟩
  ·refine AW.cond_yes rfl (by rw [c4] <;> rfl) (AW.seq (AW.region ?_))
   refine s_move (d := (D.one (C.ref 0 0))) rfl ?_
   refine s_nilCheck (d := (D.one (C.ref 0 0))) rfl (.inl ⟨_, _, rfl⟩) ?_
   refine s_fieldRef F.fo_37_0 (by decide) rfl ?_
   refine s_load1 (c' := (C.p true (.v (.map none)))) F.ag_34 rfl rfl ?_
   refine s_move (d := (sc (.string a1))) rfl ?_
   cases h
 ·iterate 3 refine AWops.guard_no rfl (nl rfl) rfl c3 ?_
  refine s_pick_no (d := (sc (.bool false))) rfl c3 rfl (AWops.nil ?_)
  refine AW.cond_no rfl rfl (AW.skip (AW.seq (AW.region ?_)))
  refine s_move (d := (sc (.int .i64 r2.1))) rfl ?_
  refine s_assign (d := (sc (.int .i64 r2.1))) rfl (AWops.nil (AW.ret ?_))
  obtain rfl := Option.some.inj h
  exact ⟨_, rfl, (Weak.gen (kk := 1) [0] [] rfl rfl (by decide) (by decide) rfl rfl rfl (le_upd (le_top _) (.t (.one .sc))) (ac (.cells (fun h => h) (ac .sc (ac .sc (ac .sc (ac .sc (ac .sc an)))))) an))⟩
def journal_replace.f (k : Nat) (p0 : vdisk_Disk) (a1 : List Int) : Option (Int × vdisk_Disk) := (journal_frame.f k a1).bind fun r1 => (vdisk_Disk_Append.f k (⟨([] : List (ByteArray × vdisk_file)), p0.room, p0.used, (), p0.dead⟩ : vdisk_Disk) (⟨#[106, 111, 117, 114, 110, 97, 108, 46, 110, 101, 119]⟩ : ByteArray) r1).bind fun r2 => if (r2.1 == 0) = true then ((vdisk_Disk_Sync.f k (⟨([] : List (ByteArray × vdisk_file)), r2.2.room, r2.2.used, (), r2.2.dead⟩ : vdisk_Disk) (⟨#[106, 111, 117, 114, 110, 97, 108, 46, 110, 101, 119]⟩ : ByteArray)).bind fun r4 => if (r4.1 == 0) = true then ((vdisk_Disk_Rename.f k (⟨([] : List (ByteArray × vdisk_file)), r4.2.room, r4.2.used, (), r4.2.dead⟩ : vdisk_Disk) (⟨#[106, 111, 117, 114, 110, 97, 108, 46, 110, 101, 119]⟩ : ByteArray) (⟨#[106, 111, 117, 114, 110, 97, 108]⟩ : ByteArray)).bind fun r6 => some (r6.1, (⟨([] : List (ByteArray × vdisk_file)), r6.2.room, r6.2.used, (), r6.2.dead⟩ : vdisk_Disk))) else (some (r4.1, (⟨([] : List (ByteArray × vdisk_file)), r4.2.room, r4.2.used, (), r4.2.dead⟩ : vdisk_Disk)))) else (some (r2.1, (⟨([] : List (ByteArray × vdisk_file)), r2.2.room, r2.2.used, (), r2.2.dead⟩ : vdisk_Disk)))
theorem journal_replace.meets (k : Nat) (p0 : vdisk_Disk) (a1 : List Int) (r : Int × vdisk_Disk) (h : journal_replace.f k p0 a1 = some r) : Meets Try.prog 29 [(D.one (C.ref 0 0)), (D.one (C.p false (.sl a1.length (a1.flatMap e_u8))))] [(some (AObj.cells false [(C.p true (.v (.map none))), (C.p true (.v (.int .i64 p0.room))), (C.p true (.v (.int .i64 p0.used))), (C.p true (.v (.pointer none))), (C.p true (.v (.bool p0.dead)))]))] (sc (.int .i64 r.1)) [(some (AObj.cells false [(C.p true (.v (.map none))), (C.p true (.v (.int .i64 r.2.room))), (C.p true (.v (.int .i64 r.2.used))), (C.p true (.v (.pointer none))), (C.p true (.v (.bool r.2.dead)))]))] := by
 unfold journal_replace.f at h
 refine Meets.of_body (n := 19) Try.func29 rfl rfl (nl rfl) fun x hx => ?_
 replace hx : x.k = 1 := hx
 show AW _ x _ _ ⟨19, fr0 [(D.one (C.ref 0 0)), (D.one (C.p false (.sl a1.length (a1.flatMap e_u8))))], [(some (AObj.cells false [(C.p true (.v (.map none))), (C.p true (.v (.int .i64 p0.room))), (C.p true (.v (.int .i64 p0.used))), (C.p true (.v (.pointer none))), (C.p true (.v (.bool p0.dead)))]))]⟩
 refine AW.seq (AW.region ?_)
 refine s_assign (d := (sc (.int .i64 0))) rfl (AWops.nil (AW.seq (AW.region ?_)))
 refine s_move (d := (D.one (C.ref 0 0))) rfl ?_
 refine s_move (d := (D.one (C.p false (.sl a1.length (a1.flatMap e_u8))))) rfl ?_
 obtain ⟨r1, er1, h⟩ := bnd h
 refine s_call2 (ρ := []) (br := false) (H2 := [(some (AObj.cells false [(C.p true (.v (.map none))), (C.p true (.v (.int .i64 p0.room))), (C.p true (.v (.int .i64 p0.used))), (C.p true (.v (.pointer none))), (C.p true (.v (.bool p0.dead)))])), (some (AObj.cells true (rowC e_u8 r1)))]) (d := (D.one (C.own 1 0 r1.length 1))) F.ca_26 rfl rfl (ac (.one .imm) an) an (by decide) rfl (journal_frame.meets _ a1 r1 er1) (.inl rfl) (by first | rfl | (simp only [mergeH2, orF, Bool.false_or, Bool.or_false, Bool.true_or, Bool.or_true, mergeAt, mergeObj, renO, ren_row, List.drop_succ_cons, List.drop_zero, List.map_cons, List.map_nil, Option.map_some, Option.map_none, List.length_cons, List.length_nil, Nat.zero_add, List.append_assoc, List.cons_append, List.nil_append]; done) | (simp only [mergeH2, orF, Bool.false_or, Bool.or_false, Bool.true_or, Bool.or_true, mergeAt, mergeObj, renO, ren_row, List.drop_succ_cons, List.drop_zero, List.map_cons, List.map_nil, Option.map_some, Option.map_none, List.length_cons, List.length_nil, Nat.zero_add, List.append_assoc, List.cons_append, List.nil_append]; rfl)) rfl ?_
 obtain ⟨r2, er2, h⟩ := bnd h
 refine AWops.weak (st' := ⟨19, (upd 19 (upd 19 (upd 19 (upd 19 (upd 19 (upd 19 topF 0 (D.one (C.ref 0 0))) 1 (D.one (C.p false (.sl a1.length (a1.flatMap e_u8))))) 4 (sc (.int .i64 0))) 6 (D.one (C.ref 0 0))) 7 (D.one (C.p false (.sl a1.length (a1.flatMap e_u8))))) 8 (D.one (C.p false (.sl r1.length (r1.flatMap e_u8))))), [(some (AObj.cells false [(C.p true (.v (.map none))), (C.p true (.v (.int .i64 p0.room))), (C.p true (.v (.int .i64 p0.used))), (C.p true (.v (.pointer none))), (C.p true (.v (.bool p0.dead)))]))]⟩) (Weak.gen (kk := 1) [0] [1] hx rfl (by decide) (by decide) rfl rfl rfl (le_upd (le_upd (le_upd (le_upd (le_upd (le_upd (le_top _) (.t (.one (.ref rfl)))) (.t (.one .same))) (.t (.one .sc))) (.t (.one (.ref rfl)))) (.t (.one .same))) (.t (.one (CLe.frz e_u8_len rfl rfl rfl)))) (ac (.cells (fun h => h) (ac .sc (ac .sc (ac .sc (ac .sc (ac .sc an)))))) an)) ?_
 refine s_call2 (ρ := [0]) (br := false) (H2 := [(some (AObj.cells false [(C.p true (.v (.map none))), (C.p true (.v (.int .i64 r2.2.room))), (C.p true (.v (.int .i64 r2.2.used))), (C.p true (.v (.pointer none))), (C.p true (.v (.bool r2.2.dead)))]))]) (d := (sc (.int .i64 r2.1))) F.ca_25 rfl rfl (ac (.one (.ref rfl)) (ac (.one .sc) (ac (.one .imm) an))) (ac (.cells (ac .sc (ac .sc (ac .sc (ac .sc (ac .sc an)))))) an) (by decide) rfl (vdisk_Disk_Append.meets _ (⟨([] : List (ByteArray × vdisk_file)), p0.room, p0.used, (), p0.dead⟩ : vdisk_Disk) (⟨#[106, 111, 117, 114, 110, 97, 108, 46, 110, 101, 119]⟩ : ByteArray) r1 r2 er2) (.inl rfl) rfl rfl ?_
 refine s_assign (d := (sc (.int .i64 r2.1))) rfl (AWops.nil (AW.seq (AW.seq (AW.region ?_))))
 refine s_move (d := (sc (.int .i64 r2.1))) rfl ?_
 refine s_binI (v := (.bool (r2.1 == 0))) rfl rfl rfl (AWops.nil ?_)
 rcases itH h with ⟨c3, h⟩ | ⟨c3, h⟩
 ·refine AW.cond_yes rfl c3 (AW.region ?_)
  refine s_move (d := (D.one (C.ref 0 0))) rfl ?_
  obtain ⟨r4, er4, h⟩ := bnd h
  refine s_call2 (ρ := [0]) (br := false) (H2 := [(some (AObj.cells false [(C.p true (.v (.map none))), (C.p true (.v (.int .i64 r4.2.room))), (C.p true (.v (.int .i64 r4.2.used))), (C.p true (.v (.pointer none))), (C.p true (.v (.bool r4.2.dead)))]))]) (d := (sc (.int .i64 r4.1))) F.ca_27 rfl rfl (ac (.one (.ref rfl)) (ac (.one .sc) an)) (ac (.cells (ac .sc (ac .sc (ac .sc (ac .sc (ac .sc an)))))) an) (by decide) rfl (vdisk_Disk_Sync.meets _ (⟨([] : List (ByteArray × vdisk_file)), r2.2.room, r2.2.used, (), r2.2.dead⟩ : vdisk_Disk) (⟨#[106, 111, 117, 114, 110, 97, 108, 46, 110, 101, 119]⟩ : ByteArray) r4 er4) (.inl rfl) rfl rfl ?_
  refine s_assign (d := (sc (.int .i64 r4.1))) rfl (AWops.nil (AW.seq (AW.seq (AW.region ?_))))
  refine s_move (d := (sc (.int .i64 r4.1))) rfl ?_
  refine s_binI (v := (.bool (r4.1 == 0))) rfl rfl rfl (AWops.nil ?_)
  rcases itH h with ⟨c5, h⟩ | ⟨c5, h⟩
  ·refine AW.cond_yes rfl c5 (AW.region ?_)
   refine s_move (d := (D.one (C.ref 0 0))) rfl ?_
   obtain ⟨r6, er6, h⟩ := bnd h
   refine s_call2 (ρ := [0]) (br := false) (H2 := [(some (AObj.cells false [(C.p true (.v (.map none))), (C.p true (.v (.int .i64 r6.2.room))), (C.p true (.v (.int .i64 r6.2.used))), (C.p true (.v (.pointer none))), (C.p true (.v (.bool r6.2.dead)))]))]) (d := (sc (.int .i64 r6.1))) F.ca_42 rfl rfl (ac (.one (.ref rfl)) (ac (.one .sc) (ac (.one .sc) an))) (ac (.cells (ac .sc (ac .sc (ac .sc (ac .sc (ac .sc an)))))) an) (by decide) rfl (vdisk_Disk_Rename.meets _ (⟨([] : List (ByteArray × vdisk_file)), r4.2.room, r4.2.used, (), r4.2.dead⟩ : vdisk_Disk) (⟨#[106, 111, 117, 114, 110, 97, 108, 46, 110, 101, 119]⟩ : ByteArray) (⟨#[106, 111, 117, 114, 110, 97, 108]⟩ : ByteArray) r6 er6) (.inl rfl) rfl rfl ?_
   refine s_assign (d := (sc (.int .i64 r6.1))) rfl (AWops.nil (AW.seq (AW.region ?_)))
   refine s_move (d := (sc (.int .i64 r6.1))) rfl ?_
   refine s_assign (d := (sc (.int .i64 r6.1))) rfl (AWops.nil (AW.ret ?_))
   obtain rfl := Option.some.inj h
   exact ⟨_, rfl, (Weak.gen (kk := 1) [0] [] rfl rfl (by decide) (by decide) rfl rfl rfl (le_upd (le_top _) (.t (.one .sc))) (ac (.cells (fun h => h) (ac .sc (ac .sc (ac .sc (ac .sc (ac .sc an)))))) an))⟩
  ·refine AW.cond_no rfl c5 (AW.skip (AW.seq (AW.region ?_)))
   refine s_move (d := (sc (.int .i64 r4.1))) rfl ?_
   refine s_assign (d := (sc (.int .i64 r4.1))) rfl (AWops.nil (AW.ret ?_))
   obtain rfl := Option.some.inj h
   exact ⟨_, rfl, (Weak.gen (kk := 1) [0] [] rfl rfl (by decide) (by decide) rfl rfl rfl (le_upd (le_top _) (.t (.one .sc))) (ac (.cells (fun h => h) (ac .sc (ac .sc (ac .sc (ac .sc (ac .sc an)))))) an))⟩
 ·refine AW.cond_no rfl c3 (AW.skip (AW.seq (AW.seq (AW.region ?_))))
  refine s_move (d := (sc (.int .i64 r2.1))) rfl ?_
  refine s_binI (v := (.bool (r2.1 == 0))) rfl rfl rfl (AWops.nil ?_)
  refine AW.cond_no rfl c3 (AW.skip (AW.seq (AW.region ?_)))
  refine s_move (d := (sc (.int .i64 r2.1))) rfl ?_
  refine s_assign (d := (sc (.int .i64 r2.1))) rfl (AWops.nil (AW.ret ?_))
  obtain rfl := Option.some.inj h
  exact ⟨_, rfl, (Weak.gen (kk := 1) [0] [] rfl rfl (by decide) (by decide) rfl rfl rfl (le_upd (le_top _) (.t (.one .sc))) (ac (.cells (fun h => h) (ac .sc (ac .sc (ac .sc (ac .sc (ac .sc an)))))) an))⟩
mutual
def journal_Open.j0 : Nat → Bool → (List Int) → (Int × vdisk_Disk) → Option (Unit × Int × vdisk_Disk)
 | 0, _, _, _ => none
 | k + 1, x2, a1, r1 => if x2 = true then ((vdisk_Disk_Read.f k (⟨([] : List (ByteArray × vdisk_file)), r1.2.room, r1.2.used, (), r1.2.dead⟩ : vdisk_Disk) (⟨#[106, 111, 117, 114, 110, 97, 108]⟩ : ByteArray)).bind fun r4 => if (r4.2.1 == 0) = true then ((journal_Journal_scan.f k (⟨(), ([] : List Int), ([] : List (List Int)), false⟩ : journal_Journal) r4.1 (⟨([] : List (ByteArray × vdisk_file)), r4.2.2.room, r4.2.2.used, (), r4.2.2.dead⟩ : vdisk_Disk)).bind fun r6 => some ((), r6.2.1, (⟨([] : List (ByteArray × vdisk_file)), r6.2.2.2.room, r6.2.2.2.used, (), r6.2.2.2.dead⟩ : vdisk_Disk))) else (if (r4.2.1 != 33) = true then (some ((), r4.2.1, (⟨([] : List (ByteArray × vdisk_file)), r4.2.2.room, r4.2.2.used, (), r4.2.2.dead⟩ : vdisk_Disk))) else (if (decide ((a1.length : Int) > 4194304)) = true then (some ((), 1, (⟨([] : List (ByteArray × vdisk_file)), r4.2.2.room, r4.2.2.used, (), r4.2.2.dead⟩ : vdisk_Disk))) else ((journal_replace.f k (⟨([] : List (ByteArray × vdisk_file)), r4.2.2.room, r4.2.2.used, (), r4.2.2.dead⟩ : vdisk_Disk) a1).bind fun r9 => if (r9.1 != 0) = true then (some ((), r9.1, (⟨([] : List (ByteArray × vdisk_file)), r9.2.room, r9.2.used, (), r9.2.dead⟩ : vdisk_Disk))) else ((slices_Clone_byte_byte.f k a1).bind fun r11 => none))))) else (some ((), r1.1, (⟨([] : List (ByteArray × vdisk_file)), r1.2.room, r1.2.used, (), r1.2.dead⟩ : vdisk_Disk)))
end
def journal_Open.f (k : Nat) (p0 : vdisk_Disk) (a1 : List Int) : Option (Unit × Int × vdisk_Disk) := (vdisk_Disk_Remove.f k (⟨([] : List (ByteArray × vdisk_file)), p0.room, p0.used, (), p0.dead⟩ : vdisk_Disk) (⟨#[106, 111, 117, 114, 110, 97, 108, 46, 110, 101, 119]⟩ : ByteArray)).bind fun r1 => if (r1.1 == 0) = true then (journal_Open.j0 k (r1.1 == 0) a1 r1) else (journal_Open.j0 k (r1.1 == 33) a1 r1)
theorem journal_Open.meets (k : Nat) (p0 : vdisk_Disk) (a1 : List Int) (r : Unit × Int × vdisk_Disk) (h : journal_Open.f k p0 a1 = some r) : Meets Try.prog 12 [(D.one (C.ref 0 0)), (D.one (C.p false (.sl a1.length (a1.flatMap e_u8))))] [(some (AObj.cells false [(C.p true (.v (.map none))), (C.p true (.v (.int .i64 p0.room))), (C.p true (.v (.int .i64 p0.used))), (C.p true (.v (.pointer none))), (C.p true (.v (.bool p0.dead)))]))] (D.tup [(sc (.pointer none)), (sc (.int .i64 r.2.1))]) [(some (AObj.cells false [(C.p true (.v (.map none))), (C.p true (.v (.int .i64 r.2.2.room))), (C.p true (.v (.int .i64 r.2.2.used))), (C.p true (.v (.pointer none))), (C.p true (.v (.bool r.2.2.dead)))]))] := by
 unfold journal_Open.f at h
 refine Meets.of_body (n := 54) Try.func12 rfl rfl (nl rfl) fun x hx => ?_
 replace hx : x.k = 1 := hx
 show AW _ x _ _ ⟨54, fr0 [(D.one (C.ref 0 0)), (D.one (C.p false (.sl a1.length (a1.flatMap e_u8))))], [(some (AObj.cells false [(C.p true (.v (.map none))), (C.p true (.v (.int .i64 p0.room))), (C.p true (.v (.int .i64 p0.used))), (C.p true (.v (.pointer none))), (C.p true (.v (.bool p0.dead)))]))]⟩
 refine AW.seq (AW.region ?_)
 refine s_assign (d := (sc (.pointer none))) rfl ?_
 refine s_assign (d := (sc (.int .i64 0))) rfl (AWops.nil (AW.seq (AW.seq (AW.region ?_))))
 refine s_move (d := (D.one (C.ref 0 0))) rfl ?_
 obtain ⟨r1, er1, h⟩ := bnd h
 refine s_call2 (ρ := [0]) (br := false) (H2 := [(some (AObj.cells false [(C.p true (.v (.map none))), (C.p true (.v (.int .i64 r1.2.room))), (C.p true (.v (.int .i64 r1.2.used))), (C.p true (.v (.pointer none))), (C.p true (.v (.bool r1.2.dead)))]))]) (d := (sc (.int .i64 r1.1))) F.ca_31 rfl rfl (ac (.one (.ref rfl)) (ac (.one .sc) an)) (ac (.cells (ac .sc (ac .sc (ac .sc (ac .sc (ac .sc an)))))) an) (by decide) rfl (vdisk_Disk_Remove.meets _ (⟨([] : List (ByteArray × vdisk_file)), p0.room, p0.used, (), p0.dead⟩ : vdisk_Disk) (⟨#[106, 111, 117, 114, 110, 97, 108, 46, 110, 101, 119]⟩ : ByteArray) r1 er1) (.inl rfl) rfl rfl ?_
 refine s_assign (d := (sc (.int .i64 r1.1))) rfl (AWops.nil (AW.seq (AW.region ?_)))
 refine s_move (d := (sc (.int .i64 r1.1))) rfl (AWops.nil (AW.block ?_))
 refine AW.seqJ (fun st => ∃ (x2 : Bool), journal_Open.j0 k x2 a1 r1 = some r ∧ st = ⟨54, (upd 54 (upd 54 (upd 54 (upd 54 topF 0 (D.one (C.ref 0 0))) 1 (D.one (C.p false (.sl a1.length (a1.flatMap e_u8))))) 6 (sc (.int .i64 r1.1))) 15 (sc (.bool x2))), [(some (AObj.cells false [(C.p true (.v (.map none))), (C.p true (.v (.int .i64 r1.2.room))), (C.p true (.v (.int .i64 r1.2.used))), (C.p true (.v (.pointer none))), (C.p true (.v (.bool r1.2.dead)))]))]⟩) ?_ ?_
 ·refine AW.seq (AW.region ?_)
  refine s_binI (v := (.bool (r1.1 == 0))) rfl rfl rfl ?_
  refine s_assign (d := (sc (.bool (r1.1 == 0)))) rfl (AWops.nil ?_)
  rcases itH h with ⟨c2, h⟩ | ⟨c2, h⟩
  ·refine AW.cond_yes rfl c2 (AW.skip ?_)
   exact ⟨⟨54, (upd 54 (upd 54 (upd 54 (upd 54 topF 0 (D.one (C.ref 0 0))) 1 (D.one (C.p false (.sl a1.length (a1.flatMap e_u8))))) 6 (sc (.int .i64 r1.1))) 15 (sc (.bool (r1.1 == 0)))), [(some (AObj.cells false [(C.p true (.v (.map none))), (C.p true (.v (.int .i64 r1.2.room))), (C.p true (.v (.int .i64 r1.2.used))), (C.p true (.v (.pointer none))), (C.p true (.v (.bool r1.2.dead)))]))]⟩, (Weak.gen (kk := 1) [0] [] hx rfl (by decide) (by decide) rfl rfl rfl (le_upd (le_upd (le_upd (le_upd (le_top _) (.t (.one (.ref rfl)))) (.t (.one .same))) (.t (.one .sc))) (.t (.one .sc))) (ac (.cells (fun h => h) (ac .sc (ac .sc (ac .sc (ac .sc (ac .sc an)))))) an)), (r1.1 == 0), h, rfl⟩
  ·refine AW.cond_no rfl c2 (AW.region ?_)
   refine s_binI (v := (.bool (r1.1 == 33))) rfl rfl rfl ?_
   refine s_assign (d := (sc (.bool (r1.1 == 33)))) rfl (AWops.nil ?_)
   exact ⟨⟨54, (upd 54 (upd 54 (upd 54 (upd 54 topF 0 (D.one (C.ref 0 0))) 1 (D.one (C.p false (.sl a1.length (a1.flatMap e_u8))))) 6 (sc (.int .i64 r1.1))) 15 (sc (.bool (r1.1 == 33)))), [(some (AObj.cells false [(C.p true (.v (.map none))), (C.p true (.v (.int .i64 r1.2.room))), (C.p true (.v (.int .i64 r1.2.used))), (C.p true (.v (.pointer none))), (C.p true (.v (.bool r1.2.dead)))]))]⟩, (Weak.gen (kk := 1) [0] [] hx rfl (by decide) (by decide) rfl rfl rfl (le_upd (le_upd (le_upd (le_upd (le_top _) (.t (.one (.ref rfl)))) (.t (.one .same))) (.t (.one .sc))) (.t (.one .sc))) (ac (.cells (fun h => h) (ac .sc (ac .sc (ac .sc (ac .sc (ac .sc an)))))) an)), (r1.1 == 33), h, rfl⟩
 ·rintro st ⟨x2, h, rfl⟩
  cases k with
  | zero => exact absurd h (by simp [journal_Open.j0])
  | succ qj0 =>
   replace h := (journal_Open.j0.eq_2 _ _ _ _).symm.trans h
   rcases itH h with ⟨c3, h⟩ | ⟨c3, h⟩
   ·refine AW.cond_yes rfl c3 (AW.skip (AW.seq (AW.region ?_)))
    refine s_move (d := (D.one (C.ref 0 0))) rfl ?_
    refine s_build (ps := [(0, (D.one (C.ref 0 0)))]) (cs := [(C.ref 0 0), (C.p true (.v (.slice none 0 0))), (C.p true (.v (.slice none 0 0))), (C.p true (.v (.bool false)))]) F.z_27 rfl F.so_27 rfl rfl ?_
    refine s_box (cs := [(C.ref 0 0), (C.p true (.v (.slice none 0 0))), (C.p true (.v (.slice none 0 0))), (C.p true (.v (.bool false)))]) rfl (List.cons_ne_nil _ _) rfl ?_
    refine s_assign (d := (D.one (C.ref 1 0))) rfl (AWops.nil (AW.seq (AW.region ?_)))
    refine s_move (d := (D.one (C.ref 0 0))) rfl ?_
    obtain ⟨r4, er4, h⟩ := bnd h
    refine s_call2 (ρ := [0]) (br := false) (H2 := [(some (AObj.cells false [(C.p true (.v (.map none))), (C.p true (.v (.int .i64 r4.2.2.room))), (C.p true (.v (.int .i64 r4.2.2.used))), (C.p true (.v (.pointer none))), (C.p true (.v (.bool r4.2.2.dead)))])), (some (AObj.cells true [(C.ref 0 0), (C.p true (.v (.slice none 0 0))), (C.p true (.v (.slice none 0 0))), (C.p true (.v (.bool false)))]))]) (d := (D.tup [(D.one (C.p false (.sl r4.1.length (r4.1.flatMap e_u8)))), (sc (.int .i64 r4.2.1))])) F.ca_32 rfl rfl (ac (.one (.ref rfl)) (ac (.one .sc) an)) (ac (.cells (ac .sc (ac .sc (ac .sc (ac .sc (ac .sc an)))))) an) (by decide) rfl (vdisk_Disk_Read.meets _ (⟨([] : List (ByteArray × vdisk_file)), r1.2.room, r1.2.used, (), r1.2.dead⟩ : vdisk_Disk) (⟨#[106, 111, 117, 114, 110, 97, 108]⟩ : ByteArray) r4 er4) (.inl rfl) rfl rfl ?_
    refine s_move (d := (D.tup [(D.one (C.p false (.sl r4.1.length (r4.1.flatMap e_u8)))), (sc (.int .i64 r4.2.1))])) rfl ?_
    refine s_extract (d := (D.one (C.p false (.sl r4.1.length (r4.1.flatMap e_u8))))) rfl rfl ?_
    refine s_extract (d := (sc (.int .i64 r4.2.1))) rfl rfl ?_
    refine s_assign (d := (D.one (C.p false (.sl r4.1.length (r4.1.flatMap e_u8))))) rfl ?_
    refine s_assign (d := (sc (.int .i64 r4.2.1))) rfl (AWops.nil (AW.seq (AW.block (AW.seq (AW.region ?_)))))
    refine s_move (d := (sc (.int .i64 r4.2.1))) rfl ?_
    refine s_binI (v := (.bool (r4.2.1 == 0))) rfl rfl rfl ?_
    refine s_assign (d := (sc (.bool (r4.2.1 == 0)))) rfl (AWops.nil ?_)
    rcases itH h with ⟨c5, h⟩ | ⟨c5, h⟩
    ·refine AW.cond_yes rfl c5 (AW.seq (AW.region ?_))
     refine s_move (d := (D.one (C.ref 1 0))) rfl ?_
     refine s_move (d := (D.one (C.p false (.sl r4.1.length (r4.1.flatMap e_u8))))) rfl ?_
     obtain ⟨r6, er6, h⟩ := bnd h
     refine AWops.weak (Weak.nilC (t := 1) (j := 2) (sz := 1) rfl rfl rfl) ?_
     refine s_call2 (ρ := [1, 0, 2]) (br := false) (H2 := [(some (AObj.cells false [(C.p true (.v (.map none))), (C.p true (.v (.int .i64 r6.2.2.2.room))), (C.p true (.v (.int .i64 r6.2.2.2.used))), (C.p true (.v (.pointer none))), (C.p true (.v (.bool r6.2.2.2.dead)))])), (some (AObj.cells true [(C.ref 0 0), (C.p false (.sl r6.2.2.1.snap.length (r6.2.2.1.snap.flatMap e_u8))), (C.own 3 0 r6.2.2.1.l.length 1), (C.p true (.v (.bool r6.2.2.1.stopped)))])), none, (some (AObj.cells false (rowC (e_sl e_u8) r6.2.2.1.l)))]) (d := (D.tup [(sc (.pointer none)), (sc (.int .i64 r6.2.1))])) F.ca_33 rfl rfl (ac (.one (.ref rfl)) (ac (.one .imm) an)) (ac (.cells (ac (.ref rfl) (ac .nil (ac (.own rfl) (ac .sc an))))) (ac (.cells (ac .sc (ac .sc (ac .sc (ac .sc (ac .sc an)))))) (ac (.cells an) an))) (by decide) rfl (journal_Journal_scan.meets _ (⟨(), ([] : List Int), ([] : List (List Int)), false⟩ : journal_Journal) r4.1 (⟨([] : List (ByteArray × vdisk_file)), r4.2.2.room, r4.2.2.used, (), r4.2.2.dead⟩ : vdisk_Disk) r6 er6) (.inl rfl) (by first | rfl | (simp only [mergeH2, orF, Bool.false_or, Bool.or_false, Bool.true_or, Bool.or_true, mergeAt, mergeObj, renO, ren_row, List.drop_succ_cons, List.drop_zero, List.map_cons, List.map_nil, Option.map_some, Option.map_none, List.length_cons, List.length_nil, Nat.zero_add, List.append_assoc, List.cons_append, List.nil_append]; done) | (simp only [mergeH2, orF, Bool.false_or, Bool.or_false, Bool.true_or, Bool.or_true, mergeAt, mergeObj, renO, ren_row, List.drop_succ_cons, List.drop_zero, List.map_cons, List.map_nil, Option.map_some, Option.map_none, List.length_cons, List.length_nil, Nat.zero_add, List.append_assoc, List.cons_append, List.nil_append]; rfl)) rfl ?_
     refine s_extract (d := (sc (.pointer none))) rfl rfl ?_
     refine s_extract (d := (sc (.int .i64 r6.2.1))) rfl rfl ?_
     refine s_assign (d := (sc (.pointer none))) rfl ?_
     refine s_assign (d := (sc (.int .i64 r6.2.1))) rfl (AWops.nil (AW.ret ?_))
     obtain rfl := Option.some.inj h
     exact ⟨_, rfl, (Weak.gen (kk := 1) [0] [] rfl rfl (by decide) (by decide) rfl rfl rfl (le_upd (le_top _) (DLe.tup (ac (TLe.one .sc) (ac (TLe.one .sc) an)))) (ac (.cells (fun h => h) (ac .sc (ac .sc (ac .sc (ac .sc (ac .sc an)))))) an))⟩
    ·refine AW.cond_no rfl c5 (AW.seq (AW.region ?_))
     refine s_move (d := (sc (.int .i64 r4.2.1))) rfl ?_
     refine s_binI (v := (.bool (r4.2.1 != 33))) rfl rfl rfl ?_
     refine s_assign (d := (sc (.bool (r4.2.1 != 33)))) rfl (AWops.nil ?_)
     rcases itH h with ⟨c7, h⟩ | ⟨c7, h⟩
     ·refine AW.cond_yes rfl c7 (AW.seq (AW.region ?_))
      refine s_move (d := (sc (.int .i64 r4.2.1))) rfl ?_
      refine s_assign (d := (sc (.pointer none))) rfl ?_
      refine s_assign (d := (sc (.int .i64 r4.2.1))) rfl (AWops.nil (AW.ret ?_))
      obtain rfl := Option.some.inj h
      exact ⟨_, rfl, (Weak.gen (kk := 1) [0] [] rfl rfl (by decide) (by decide) rfl rfl rfl (le_upd (le_top _) (DLe.tup (ac (TLe.one .sc) (ac (TLe.one .sc) an)))) (ac (.cells (fun h => h) (ac .sc (ac .sc (ac .sc (ac .sc (ac .sc an)))))) an))⟩
     ·refine AW.cond_no rfl c7 (AW.seq (AW.region ?_))
      refine s_move (d := (D.one (C.p false (.sl a1.length (a1.flatMap e_u8))))) rfl ?_
      refine s_len (n := a1.length) F.u_22 rfl (.inr ⟨(fun _ _ h => by cases h), ⟨_, rfl⟩⟩) ?_
      refine s_binI (v := (.bool (decide ((a1.length : Int) > 4194304)))) rfl rfl rfl ?_
      refine s_assign (d := (sc (.bool (decide ((a1.length : Int) > 4194304))))) rfl (AWops.nil ?_)
      rcases itH h with ⟨c8, h⟩ | ⟨c8, h⟩
      ·refine AW.cond_yes rfl c8 (AW.seq (AW.region ?_))
       refine s_assign (d := (sc (.pointer none))) rfl ?_
       refine s_assign (d := (sc (.int .i64 1))) rfl (AWops.nil (AW.ret ?_))
       obtain rfl := Option.some.inj h
       exact ⟨_, rfl, (Weak.gen (kk := 1) [0] [] rfl rfl (by decide) (by decide) rfl rfl rfl (le_upd (le_top _) (DLe.tup (ac (TLe.one .sc) (ac (TLe.one .sc) an)))) (ac (.cells (fun h => h) (ac .sc (ac .sc (ac .sc (ac .sc (ac .sc an)))))) an))⟩
      ·refine AW.cond_no rfl c8 (AW.skip (AW.seq (AW.seq (AW.region ?_))))
       refine s_move (d := (D.one (C.ref 0 0))) rfl ?_
       refine s_move (d := (D.one (C.p false (.sl a1.length (a1.flatMap e_u8))))) rfl ?_
       obtain ⟨r9, er9, h⟩ := bnd h
       refine s_call2 (ρ := [0]) (br := false) (H2 := [(some (AObj.cells false [(C.p true (.v (.map none))), (C.p true (.v (.int .i64 r9.2.room))), (C.p true (.v (.int .i64 r9.2.used))), (C.p true (.v (.pointer none))), (C.p true (.v (.bool r9.2.dead)))])), (some (AObj.cells true [(C.ref 0 0), (C.p true (.v (.slice none 0 0))), (C.p true (.v (.slice none 0 0))), (C.p true (.v (.bool false)))]))]) (d := (sc (.int .i64 r9.1))) F.ca_29 rfl rfl (ac (.one (.ref rfl)) (ac (.one .imm) an)) (ac (.cells (ac .sc (ac .sc (ac .sc (ac .sc (ac .sc an)))))) an) (by decide) rfl (journal_replace.meets _ (⟨([] : List (ByteArray × vdisk_file)), r4.2.2.room, r4.2.2.used, (), r4.2.2.dead⟩ : vdisk_Disk) a1 r9 er9) (.inl rfl) rfl rfl ?_
       refine s_assign (d := (sc (.int .i64 r9.1))) rfl (AWops.nil (AW.seq (AW.region ?_)))
       refine s_move (d := (sc (.int .i64 r9.1))) rfl ?_
       refine s_binI (v := (.bool (r9.1 != 0))) rfl rfl rfl (AWops.nil ?_)
       rcases itH h with ⟨c10, h⟩ | ⟨c10, h⟩
       ·refine AW.cond_yes rfl c10 (AW.seq (AW.region ?_))
        refine s_move (d := (sc (.int .i64 r9.1))) rfl ?_
        refine s_assign (d := (sc (.pointer none))) rfl ?_
        refine s_assign (d := (sc (.int .i64 r9.1))) rfl (AWops.nil (AW.ret ?_))
        obtain rfl := Option.some.inj h
        exact ⟨_, rfl, (Weak.gen (kk := 1) [0] [] rfl rfl (by decide) (by decide) rfl rfl rfl (le_upd (le_top _) (DLe.tup (ac (TLe.one .sc) (ac (TLe.one .sc) an)))) (ac (.cells (fun h => h) (ac .sc (ac .sc (ac .sc (ac .sc (ac .sc an)))))) an))⟩
       ·refine AW.cond_no rfl c10 (AW.skip (AW.seq (AW.region ?_)))
        refine s_move (d := (D.one (C.ref 1 0))) rfl ?_
        refine s_move (d := (D.one (C.p false (.sl a1.length (a1.flatMap e_u8))))) rfl ?_
        obtain ⟨r11, er11, h⟩ := bnd h
        refine s_call2 (ρ := []) (br := false) (H2 := [(some (AObj.cells false [(C.p true (.v (.map none))), (C.p true (.v (.int .i64 r9.2.room))), (C.p true (.v (.int .i64 r9.2.used))), (C.p true (.v (.pointer none))), (C.p true (.v (.bool r9.2.dead)))])), (some (AObj.cells true [(C.ref 0 0), (C.p true (.v (.slice none 0 0))), (C.p true (.v (.slice none 0 0))), (C.p true (.v (.bool false)))])), (some (AObj.cells true (rowC e_u8 r11)))]) (d := (D.one (C.own 2 0 r11.length 1))) F.ca_28 rfl rfl (ac (.one .imm) an) an (by decide) rfl (slices_Clone_byte_byte.meets _ a1 r11 er11) (.inl rfl) (by first | rfl | (simp only [mergeH2, orF, Bool.false_or, Bool.or_false, Bool.true_or, Bool.or_true, mergeAt, mergeObj, renO, ren_row, List.drop_succ_cons, List.drop_zero, List.map_cons, List.map_nil, Option.map_some, Option.map_none, List.length_cons, List.length_nil, Nat.zero_add, List.append_assoc, List.cons_append, List.nil_append]; done) | (simp only [mergeH2, orF, Bool.false_or, Bool.or_false, Bool.true_or, Bool.or_true, mergeAt, mergeObj, renO, ren_row, List.drop_succ_cons, List.drop_zero, List.map_cons, List.map_nil, Option.map_some, Option.map_none, List.length_cons, List.length_nil, Nat.zero_add, List.append_assoc, List.cons_append, List.nil_append]; rfl)) rfl ?_
        refine s_nilCheck (d := (D.one (C.ref 1 0))) rfl (.inl ⟨_, _, rfl⟩) ?_
        refine s_fieldRef F.fo_27_1 (by decide) rfl ?_
        refine s_store (cs' := [(C.ref 0 0), (C.own 2 0 r11.length 1), (C.p true (.v (.slice none 0 0))), (C.p true (.v (.bool false)))]) rfl rfl rfl (List.cons_ne_nil _ _) rfl F.sz_22 (nl rfl) rfl (AWops.nil (AW.seq (AW.region ?_)))
        refine s_move (d := (D.one (C.ref 1 0))) rfl ?_
        refine s_assign (d := (D.one (C.ref 1 0))) rfl ?_
        refine s_assign (d := (sc (.int .i64 0))) rfl (AWops.nil (AW.ret ?_))
        cases h
   ·refine AW.cond_no rfl c3 (AW.seq (AW.region ?_))
    refine s_move (d := (sc (.int .i64 r1.1))) rfl ?_
    refine s_assign (d := (sc (.pointer none))) rfl ?_
    refine s_assign (d := (sc (.int .i64 r1.1))) rfl (AWops.nil (AW.ret ?_))
    obtain rfl := Option.some.inj h
    exact ⟨_, rfl, (Weak.gen (kk := 1) [0] [] rfl rfl (by decide) (by decide) rfl rfl rfl (le_upd (le_top _) (DLe.tup (ac (TLe.one .sc) (ac (TLe.one .sc) an)))) (ac (.cells (fun h => h) (ac .sc (ac .sc (ac .sc (ac .sc (ac .sc an)))))) an))⟩
def vdisk_New.f (k : Nat) (a0 : Int) : Option (vdisk_Disk × Int) := if (decide (a0 < 0)) = true then (none) else (if (decide (a0 > 4194304)) = true then (none) else (some ((⟨([] : List (ByteArray × vdisk_file)), a0, 0, (), false⟩ : vdisk_Disk), 0)))
theorem vdisk_New.meets (k : Nat) (a0 : Int) (r : vdisk_Disk × Int) (h : vdisk_New.f k a0 = some r) : Meets Try.prog 14 [(sc (.int .i64 a0))] [] (D.tup [(D.one (C.ref 0 0)), (sc (.int .i64 r.2))]) [(some (AObj.cells true [(C.mp 1), (C.p true (.v (.int .i64 r.1.room))), (C.p true (.v (.int .i64 r.1.used))), (C.p true (.v (.pointer none))), (C.p true (.v (.bool r.1.dead)))])), (some (AObj.map false (mapE true e_vdisk_file r.1.files)))] := by
 unfold vdisk_New.f at h
 refine Meets.of_body (n := 14) Try.func14 rfl rfl (nl rfl) fun x hx => ?_
 replace hx : x.k = 0 := hx
 show AW _ x _ _ ⟨14, fr0 [(sc (.int .i64 a0))], []⟩
 refine AW.seq (AW.region ?_)
 refine s_assign (d := (sc (.pointer none))) rfl ?_
 refine s_assign (d := (sc (.int .i64 0))) rfl (AWops.nil (AW.seq (AW.seq (AW.region ?_))))
 refine s_move (d := (sc (.int .i64 a0))) rfl ?_
 refine s_binI (v := (.bool (decide (a0 < 0)))) rfl rfl rfl ?_
 refine s_move (d := (sc (.bool (decide (a0 < 0))))) rfl ?_
 rcases itH h with ⟨c1, h⟩ | ⟨c1, h⟩
 ·refine AWops.guard_no rfl (nl rfl) rfl c1 ?_
  refine AWops.guard_no rfl (nl rfl) rfl c1 ?_
  refine s_pick_yes (d := (sc (.bool true))) rfl c1 rfl (AWops.nil ?_)
  refine AW.cond_yes rfl rfl (AW.seq (AW.region ?_))
  refine s_assign (d := (sc (.pointer none))) rfl ?_
  refine s_assign (d := (sc (.int .i64 1))) rfl (AWops.nil (AW.ret ?_))
  cases h
 ·refine AWops.guard_yes rfl (nl rfl) rfl c1 ?_
  refine s_move (d := (sc (.int .i64 a0))) rfl ?_
  refine AWops.guard_yes rfl (nl rfl) rfl c1 ?_
  refine s_binI (v := (.bool (decide (a0 > 4194304)))) rfl rfl rfl ?_
  refine s_pick_no (d := (sc (.bool (decide (a0 > 4194304))))) rfl c1 rfl (AWops.nil ?_)
  rcases itH h with ⟨c2, h⟩ | ⟨c2, h⟩
  ·refine AW.cond_yes rfl c2 (AW.seq (AW.region ?_))
   refine s_assign (d := (sc (.pointer none))) rfl ?_
   refine s_assign (d := (sc (.int .i64 1))) rfl (AWops.nil (AW.ret ?_))
   cases h
  ·refine AW.cond_no rfl c2 (AW.skip (AW.seq (AW.region ?_)))
   refine t_makeMap ?_
   refine s_move (d := (sc (.int .i64 a0))) rfl ?_
   refine s_build (ps := [(0, (D.one (C.mp 0))), (1, (sc (.int .i64 a0)))]) (cs := [(C.mp 0), (C.p true (.v (.int .i64 a0))), (C.p true (.v (.int .i64 0))), (C.p true (.v (.pointer none))), (C.p true (.v (.bool false)))]) F.z_37 rfl F.so_37 rfl rfl ?_
   refine s_box (cs := [(C.mp 0), (C.p true (.v (.int .i64 a0))), (C.p true (.v (.int .i64 0))), (C.p true (.v (.pointer none))), (C.p true (.v (.bool false)))]) rfl (List.cons_ne_nil _ _) rfl ?_
   refine s_assign (d := (D.one (C.ref 1 0))) rfl ?_
   refine s_assign (d := (sc (.int .i64 0))) rfl (AWops.nil (AW.ret ?_))
   obtain rfl := Option.some.inj h
   exact ⟨_, rfl, (Weak.gen (kk := 0) [1, 0] [] rfl rfl (by decide) (by decide) rfl rfl rfl (le_upd (le_top _) (DLe.tup (ac (TLe.one (.ref rfl)) (ac (TLe.one .sc) an)))) (ac (.cells (fun _ => rfl) (ac (.mp rfl) (ac .sc (ac .sc (ac .sc (ac .sc an)))))) (ac .map an)))⟩
def vdisk_Disk_none_34.f (k : Nat) (p0 : vdisk_Disk) : Option (Bool × vdisk_Disk) := some (false, p0)
theorem vdisk_Disk_none_34.meets (k : Nat) (p0 : vdisk_Disk) (r : Bool × vdisk_Disk) (h : vdisk_Disk_none_34.f k p0 = some r) : Meets Try.prog 34 [(D.one (C.ref 0 0))] [(some (AObj.cells false [(C.mp 1), (C.p true (.v (.int .i64 p0.room))), (C.p true (.v (.int .i64 p0.used))), (C.p true (.v (.pointer none))), (C.p true (.v (.bool p0.dead)))])), (some (AObj.map false (mapE true e_vdisk_file p0.files)))] (sc (.bool r.1)) [(some (AObj.cells false [(C.mp 2), (C.p true (.v (.int .i64 r.2.room))), (C.p true (.v (.int .i64 r.2.used))), (C.p true (.v (.pointer none))), (C.p true (.v (.bool r.2.dead)))])), none, (some (AObj.map false (mapE true e_vdisk_file r.2.files)))] := by
 unfold vdisk_Disk_none_34.f at h
 refine Meets.of_body (n := 12) Try.func34 rfl rfl (nl rfl) fun x hx => ?_
 replace hx : x.k = 2 := hx
 show AW _ x _ _ ⟨12, fr0 [(D.one (C.ref 0 0))], [(some (AObj.cells false [(C.mp 1), (C.p true (.v (.int .i64 p0.room))), (C.p true (.v (.int .i64 p0.used))), (C.p true (.v (.pointer none))), (C.p true (.v (.bool p0.dead)))])), (some (AObj.map false (mapE true e_vdisk_file p0.files)))]⟩
 refine AW.weak (st' := ⟨12, (upd 12 topF 0 (D.one (C.ref 0 0))), [(some (AObj.cells false [(C.mp 2), (C.p true (.v (.int .i64 p0.room))), (C.p true (.v (.int .i64 p0.used))), (C.p true (.v (.pointer none))), (C.p true (.v (.bool p0.dead)))])), none, (some (AObj.map false (mapE true e_vdisk_file p0.files)))]⟩) (Weak.genL (kk := 2) [0, 1, 1] [] hx rfl (by decide) rfl rfl rfl rfl (le_upd (le_top _) (.t (.one (.ref rfl)))) (ac (.cells (fun h => h) (ac (.mp rfl) (ac .sc (ac .sc (ac .sc (ac .sc an)))))) (ac (.none _) (ac .map an)))) (AW.seq (AW.region ?_))
 refine s_assign (d := (sc (.bool false))) rfl (AWops.nil (AW.seq (AW.region ?_)))
 refine s_move (d := (D.one (C.ref 0 0))) rfl ?_
 refine s_ptrNil (b := false) F.u_24 rfl (.inl ⟨⟨_, _, rfl⟩, rfl⟩) (.inl rfl) ?_
 refine s_move (d := (sc (.bool false))) rfl ?_
 refine AWops.guard_yes rfl (nl rfl) rfl rfl ?_
 refine s_move (d := (D.one (C.ref 0 0))) rfl ?_
 refine AWops.guard_yes rfl (nl rfl) rfl rfl ?_
 refine s_nilCheck (d := (D.one (C.ref 0 0))) rfl (.inl ⟨_, _, rfl⟩) ?_
 refine AWops.guard_yes rfl (nl rfl) rfl rfl ?_
 refine s_fieldRef F.fo_37_0 (by decide) rfl ?_
 refine AWops.guard_yes rfl (nl rfl) rfl rfl ?_
 refine s_load1 (c' := (C.mp 2)) F.ag_34 rfl rfl ?_
 refine AWops.guard_yes rfl (nl rfl) rfl rfl ?_
 refine s_mapNil (b := false) F.u_34 rfl (.inr ⟨rfl, _, rfl⟩) (.inl ⟨rfl, rfl⟩) ?_
 refine s_pick_no (d := (sc (.bool false))) rfl rfl rfl ?_
 refine s_assign (d := (sc (.bool false))) rfl (AWops.nil (AW.ret ?_))
 obtain rfl := Option.some.inj h
 exact ⟨_, rfl, (Weak.gen (kk := 2) [0, 1, 2] [] rfl rfl (by decide) (by decide) rfl rfl rfl (le_upd (le_top _) (.t (.one .sc))) (ac (.cells (fun h => h) (ac (.mp rfl) (ac .sc (ac .sc (ac .sc (ac .sc an)))))) (ac (.none _) (ac .map an))))⟩
def vdisk_Disk_change_55.f (k : Nat) (p0 : vdisk_Disk) (a1 : Bool) (a2 : ByteArray) (a3 : Bool) (a4 : Int) : Option (Int × vdisk_Disk) := (vdisk_Disk_none_34.f k p0).bind fun r1 => if r1.1 = true then (some (2, r1.2)) else (if a1 = true then (if r1.2.dead = true then (some (70, r1.2)) else (if ((mget a2 r1.2.files).isSome) = true then (if (decide (a4 > 0)) = true then (if (decide (a4 > (IntKind.i64.wrap (r1.2.room - r1.2.used)))) = true then (some (71, r1.2)) else (some (0, r1.2))) else (some (0, r1.2))) else (if a3 = true then (if (decide (a4 > 0)) = true then (if (decide (a4 > (IntKind.i64.wrap (r1.2.room - r1.2.used)))) = true then (some (71, r1.2)) else (some (0, r1.2))) else (some (0, r1.2))) else (some (33, r1.2))))) else (some (1, r1.2)))
theorem vdisk_Disk_change_55.meets (k : Nat) (p0 : vdisk_Disk) (a1 : Bool) (a2 : ByteArray) (a3 : Bool) (a4 : Int) (r : Int × vdisk_Disk) (h : vdisk_Disk_change_55.f k p0 a1 a2 a3 a4 = some r) : Meets Try.prog 55 [(D.one (C.ref 0 0)), (sc (.bool a1)), (sc (.string a2)), (sc (.bool a3)), (sc (.int .i64 a4))] [(some (AObj.cells false [(C.mp 1), (C.p true (.v (.int .i64 p0.room))), (C.p true (.v (.int .i64 p0.used))), (C.p true (.v (.pointer none))), (C.p true (.v (.bool p0.dead)))])), (some (AObj.map false (mapE true e_vdisk_file p0.files)))] (sc (.int .i64 r.1)) [(some (AObj.cells false [(C.mp 2), (C.p true (.v (.int .i64 r.2.room))), (C.p true (.v (.int .i64 r.2.used))), (C.p true (.v (.pointer none))), (C.p true (.v (.bool r.2.dead)))])), none, (some (AObj.map false (mapE true e_vdisk_file r.2.files)))] := by
 unfold vdisk_Disk_change_55.f at h
 refine Meets.of_body (n := 77) Try.func55 rfl rfl (nl rfl) fun x hx => ?_
 replace hx : x.k = 2 := hx
 show AW _ x _ _ ⟨77, fr0 [(D.one (C.ref 0 0)), (sc (.bool a1)), (sc (.string a2)), (sc (.bool a3)), (sc (.int .i64 a4))], [(some (AObj.cells false [(C.mp 1), (C.p true (.v (.int .i64 p0.room))), (C.p true (.v (.int .i64 p0.used))), (C.p true (.v (.pointer none))), (C.p true (.v (.bool p0.dead)))])), (some (AObj.map false (mapE true e_vdisk_file p0.files)))]⟩
 refine AW.weak (st' := ⟨77, (upd 77 (upd 77 (upd 77 (upd 77 (upd 77 topF 0 (D.one (C.ref 0 0))) 1 (sc (.bool a1))) 2 (sc (.string a2))) 3 (sc (.bool a3))) 4 (sc (.int .i64 a4))), [(some (AObj.cells false [(C.mp 2), (C.p true (.v (.int .i64 p0.room))), (C.p true (.v (.int .i64 p0.used))), (C.p true (.v (.pointer none))), (C.p true (.v (.bool p0.dead)))])), none, (some (AObj.map false (mapE true e_vdisk_file p0.files)))]⟩) (Weak.genL (kk := 2) [0, 1, 1] [] hx rfl (by decide) rfl rfl rfl rfl (le_upd (le_upd (le_upd (le_upd (le_upd (le_top _) (.t (.one (.ref rfl)))) (.t (.one .sc))) (.t (.one .sc))) (.t (.one .sc))) (.t (.one .sc))) (ac (.cells (fun h => h) (ac (.mp rfl) (ac .sc (ac .sc (ac .sc (ac .sc an)))))) (ac (.none _) (ac .map an)))) (AW.seq (AW.region ?_))
 refine s_assign (d := (sc (.int .i64 0))) rfl (AWops.nil (AW.seq (AW.block (AW.seq (AW.region ?_)))))
 refine s_move (d := (D.one (C.ref 0 0))) rfl ?_
 obtain ⟨r1, er1, h⟩ := bnd h
 refine s_call2 (ρ := [0, 2]) (br := false) (H2 := [(some (AObj.cells false [(C.mp 3), (C.p true (.v (.int .i64 r1.2.room))), (C.p true (.v (.int .i64 r1.2.used))), (C.p true (.v (.pointer none))), (C.p true (.v (.bool r1.2.dead)))])), none, none, (some (AObj.map false (mapE true e_vdisk_file r1.2.files)))]) (d := (sc (.bool r1.1))) F.ca_34 rfl rfl (ac (.one (.ref rfl)) an) (ac (.cells (ac (.mp rfl) (ac .sc (ac .sc (ac .sc (ac .sc an)))))) (ac .map an)) (by decide) rfl (vdisk_Disk_none_34.meets _ p0 r1 er1) (.inl rfl) rfl rfl ?_
 refine s_assign (d := (sc (.bool r1.1))) rfl (AWops.nil ?_)
 rcases itH h with ⟨c2, h⟩ | ⟨c2, h⟩
 ·refine AW.cond_yes rfl c2 (AW.seq (AW.region ?_))
  refine s_assign (d := (sc (.int .i64 2))) rfl (AWops.nil (AW.ret ?_))
  obtain rfl := Option.some.inj h
  exact ⟨_, rfl, (Weak.gen (kk := 2) [0, 1, 3] [] rfl rfl (by decide) (by decide) rfl rfl rfl (le_upd (le_top _) (.t (.one .sc))) (ac (.cells (fun h => h) (ac (.mp rfl) (ac .sc (ac .sc (ac .sc (ac .sc an)))))) (ac (.none _) (ac .map an))))⟩
 ·refine AW.cond_no rfl c2 (AW.seq (AW.region ?_))
  refine s_move (d := (sc (.bool a1))) rfl ?_
  refine s_not rfl ?_
  refine s_assign (d := (sc (.bool (!a1)))) rfl (AWops.nil ?_)
  rcases itH h with ⟨c3, h⟩ | ⟨c3, h⟩
  ·refine AW.cond_no rfl (by rw [c3] <;> rfl) (AW.seq (AW.region ?_))
   refine s_move (d := (D.one (C.ref 0 0))) rfl ?_
   refine s_nilCheck (d := (D.one (C.ref 0 0))) rfl (.inl ⟨_, _, rfl⟩) ?_
   refine s_fieldRef F.fo_37_4 (by decide) rfl ?_
   refine s_load1 (c' := (C.p true (.v (.bool r1.2.dead)))) F.ag_4 rfl rfl ?_
   refine s_assign (d := (sc (.bool r1.2.dead))) rfl (AWops.nil ?_)
   rcases itH h with ⟨c4, h⟩ | ⟨c4, h⟩
   ·refine AW.cond_yes rfl c4 (AW.seq (AW.region ?_))
    refine s_assign (d := (sc (.int .i64 70))) rfl (AWops.nil (AW.ret ?_))
    obtain rfl := Option.some.inj h
    exact ⟨_, rfl, (Weak.gen (kk := 2) [0, 1, 3] [] rfl rfl (by decide) (by decide) rfl rfl rfl (le_upd (le_top _) (.t (.one .sc))) (ac (.cells (fun h => h) (ac (.mp rfl) (ac .sc (ac .sc (ac .sc (ac .sc an)))))) (ac (.none _) (ac .map an))))⟩
   ·refine AW.cond_no rfl c4 (AW.skip (AW.seq (AW.seq (AW.region ?_))))
    refine s_move (d := (D.one (C.ref 0 0))) rfl ?_
    refine s_nilCheck (d := (D.one (C.ref 0 0))) rfl (.inl ⟨_, _, rfl⟩) ?_
    refine s_fieldRef F.fo_37_0 (by decide) rfl ?_
    refine s_load1 (c' := (C.mp 3)) F.ag_34 rfl rfl ?_
    refine s_move (d := (sc (.string a2))) rfl ?_
    refine t_lookupOk (b := true) F.u_34 F.u_9 F.z_79 (z := ((⟨([] : List Int), 0⟩ : vdisk_file) : vdisk_file)) (zs := [(.slice none 0 0), (.int .i64 0)]) rfl (fun h => by cases h) (ac ZRel.n (ac (ZRel.v _ rfl) an)) rfl rfl rfl rfl ?_
    refine s_move (d := (D.tup [(D.agg (c_vdisk_file ((mget a2 r1.2.files).getD ((⟨([] : List Int), 0⟩ : vdisk_file) : vdisk_file)))), (sc (.bool ((mget a2 r1.2.files).isSome)))])) rfl ?_
    refine s_extract (d := (D.agg (c_vdisk_file ((mget a2 r1.2.files).getD ((⟨([] : List Int), 0⟩ : vdisk_file) : vdisk_file))))) rfl rfl ?_
    refine s_extract (d := (sc (.bool ((mget a2 r1.2.files).isSome)))) rfl rfl ?_
    refine s_alloc (cs := [(C.p true (.v (.slice none 0 0))), (C.p true (.v (.int .i64 0)))]) F.z_79 rfl rfl ?_
    refine s_store (cs' := (c_vdisk_file ((mget a2 r1.2.files).getD ((⟨([] : List Int), 0⟩ : vdisk_file) : vdisk_file)))) rfl rfl rfl (List.cons_ne_nil _ _) rfl F.sz_79 (nl rfl) rfl ?_
    refine s_assign (d := (sc (.bool ((mget a2 r1.2.files).isSome)))) rfl (AWops.nil (AW.seq (AW.region ?_)))
    refine s_move (d := (sc (.bool ((mget a2 r1.2.files).isSome)))) rfl ?_
    refine s_not rfl ?_
    refine s_move (d := (sc (.bool (!((mget a2 r1.2.files).isSome))))) rfl ?_
    rcases itH h with ⟨c5, h⟩ | ⟨c5, h⟩
    ·refine AWops.guard_no rfl (nl rfl) rfl (by rw [c5] <;> rfl) ?_
     refine AWops.guard_no rfl (nl rfl) rfl (by rw [c5] <;> rfl) ?_
     refine s_pick_no (d := (sc (.bool false))) rfl (by rw [c5] <;> rfl) rfl (AWops.nil ?_)
     refine AW.cond_no rfl rfl (AW.skip (AW.seq (AW.seq ?_)))
     refine AW.weak (st' := ⟨77, (upd 77 (upd 77 topF 0 (D.one (C.ref 0 0))) 4 (sc (.int .i64 a4))), [(some (AObj.cells false [(C.mp 2), (C.p true (.v (.int .i64 r1.2.room))), (C.p true (.v (.int .i64 r1.2.used))), (C.p true (.v (.pointer none))), (C.p true (.v (.bool r1.2.dead)))])), none, (some (AObj.map false (mapE true e_vdisk_file r1.2.files)))]⟩) (Weak.gen (kk := 2) [0, 1, 3] [] hx rfl (by decide) (by decide) rfl rfl rfl (le_upd (le_upd (le_top _) (.t (.one (.ref rfl)))) (.t (.one .sc))) (ac (.cells (fun h => h) (ac (.mp rfl) (ac .sc (ac .sc (ac .sc (ac .sc an)))))) (ac (.none _) (ac .map an)))) ?_
     rcases itH h with ⟨c6, h⟩ | ⟨c6, h⟩
     ·refine AW.draw (n := 77) (L := 3) [(0, ⟨some 39, (sc (.int .i64 a4)), [(4, (sc (.int .i64 a4)))], [], [], none⟩), (1, ⟨some 40, (sc (.bool (decide (a4 > 0)))), [(39, (sc (.int .i64 a4)))], [], [], none⟩), (2, ⟨some 41, (sc (.bool (decide (a4 > 0)))), [(40, (sc (.bool (decide (a4 > 0)))))], [], [], none⟩), (3, ⟨some 42, (sc (.int .i64 a4)), [(4, (sc (.int .i64 a4))), (41, (sc (.bool (decide (a4 > 0)))))], [], [], none⟩), (4, ⟨some 43, (D.one (C.ref 0 0)), [(0, (D.one (C.ref 0 0))), (41, (sc (.bool (decide (a4 > 0)))))], [], [], none⟩), (5, ⟨some 44, (D.one (C.ref 0 0)), [(41, (sc (.bool (decide (a4 > 0))))), (43, (D.one (C.ref 0 0)))], [], [], none⟩), (6, ⟨some 45, (D.one (C.ref 0 1)), [(41, (sc (.bool (decide (a4 > 0))))), (44, (D.one (C.ref 0 0)))], [], [], none⟩), (7, ⟨some 46, (sc (.int .i64 r1.2.room)), [(41, (sc (.bool (decide (a4 > 0))))), (45, (D.one (C.ref 0 1)))], [(0, (some (AObj.cells false [(C.mp 2), (C.p true (.v (.int .i64 r1.2.room))), (C.p true (.v (.int .i64 r1.2.used))), (C.p true (.v (.pointer none))), (C.p true (.v (.bool r1.2.dead)))])))], [], none⟩), (8, ⟨some 47, (D.one (C.ref 0 0)), [(0, (D.one (C.ref 0 0))), (41, (sc (.bool (decide (a4 > 0)))))], [], [], none⟩), (9, ⟨some 48, (D.one (C.ref 0 0)), [(41, (sc (.bool (decide (a4 > 0))))), (47, (D.one (C.ref 0 0)))], [], [], none⟩), (10, ⟨some 49, (D.one (C.ref 0 2)), [(41, (sc (.bool (decide (a4 > 0))))), (48, (D.one (C.ref 0 0)))], [], [], none⟩), (11, ⟨some 50, (sc (.int .i64 r1.2.used)), [(41, (sc (.bool (decide (a4 > 0))))), (49, (D.one (C.ref 0 2)))], [(0, (some (AObj.cells false [(C.mp 2), (C.p true (.v (.int .i64 r1.2.room))), (C.p true (.v (.int .i64 r1.2.used))), (C.p true (.v (.pointer none))), (C.p true (.v (.bool r1.2.dead)))])))], [], none⟩), (12, ⟨some 51, (sc (.int .i64 (IntKind.i64.wrap (r1.2.room - r1.2.used)))), [(41, (sc (.bool (decide (a4 > 0))))), (46, (sc (.int .i64 r1.2.room))), (50, (sc (.int .i64 r1.2.used)))], [], [], none⟩), (13, ⟨some 52, (sc (.bool (decide (a4 > (IntKind.i64.wrap (r1.2.room - r1.2.used)))))), [(41, (sc (.bool (decide (a4 > 0))))), (42, (sc (.int .i64 a4))), (51, (sc (.int .i64 (IntKind.i64.wrap (r1.2.room - r1.2.used)))))], [], [], none⟩), (14, ⟨some 53, (sc (.bool (decide (a4 > (IntKind.i64.wrap (r1.2.room - r1.2.used)))))), [(41, (sc (.bool (decide (a4 > 0))))), (52, (sc (.bool (decide (a4 > (IntKind.i64.wrap (r1.2.room - r1.2.used)))))))], [], [], none⟩)] [[], [0], [0, 1], [0, 1, 2], [0, 1, 2], [0, 1, 2, 4], [0, 1, 2, 4, 5], [0, 1, 2, 4, 5, 6], [0, 1, 2], [0, 1, 2, 8], [0, 1, 2, 8, 9], [0, 1, 2, 8, 9, 10], [0, 1, 2, 4, 5, 6, 7, 8, 9, 10, 11], [0, 1, 2, 3, 4, 5, 6, 7, 8, 9, 10, 11, 12], [0, 1, 2, 3, 4, 5, 6, 7, 8, 9, 10, 11, 12, 13]] (nl rfl) [0, 1, 2, 3, 3, 4, 5, 6, 3, 4, 5, 6, 7, 8, 9] rfl (TK := []) rfl AllK.nil' (fC ⟨(sC rfl AllS.nil'), AllH.nil'⟩ (fC ⟨(sC rfl AllS.nil'), AllH.nil'⟩ (fC ⟨(sC rfl AllS.nil'), AllH.nil'⟩ (fC ⟨(sC rfl (sC rfl AllS.nil')), AllH.nil'⟩ (fC ⟨(sC rfl (sC rfl AllS.nil')), AllH.nil'⟩ (fC ⟨(sC rfl (sC rfl AllS.nil')), AllH.nil'⟩ (fC ⟨(sC rfl (sC rfl AllS.nil')), AllH.nil'⟩ (fC ⟨(sC rfl (sC rfl AllS.nil')), (hC rfl AllH.nil')⟩ (fC ⟨(sC rfl (sC rfl AllS.nil')), AllH.nil'⟩ (fC ⟨(sC rfl (sC rfl AllS.nil')), AllH.nil'⟩ (fC ⟨(sC rfl (sC rfl AllS.nil')), AllH.nil'⟩ (fC ⟨(sC rfl (sC rfl AllS.nil')), (hC rfl AllH.nil')⟩ (fC ⟨(sC rfl (sC rfl (sC rfl AllS.nil'))), AllH.nil'⟩ (fC ⟨(sC rfl (sC rfl (sC rfl AllS.nil'))), AllH.nil'⟩ (fC ⟨(sC rfl (sC rfl AllS.nil')), AllH.nil'⟩ AllF.nil'))))))))))))))) ?_ ?_
      ·refine (pC ?_ (pC ?_ (pC ?_ (pC ?_ (pC ?_ (pC ?_ (pC ?_ (pC ?_ (pC ?_ (pC ?_ (pC ?_ (pC ?_ (pC ?_ (pC ?_ (pC ?_ AllStep.nil')))))))))))))))
       ·intro K rest fr hv htk k
        show AWops _ x _ _ K ⟨77, (upd 77 fr 4 (sc (.int .i64 a4))), _⟩
        refine s_move (d := (sc (.int .i64 a4))) rfl k
       ·intro K rest fr hv htk k
        show AWops _ x _ _ K ⟨77, (upd 77 fr 39 (sc (.int .i64 a4))), _⟩
        refine s_binI (v := (.bool (decide (a4 > 0)))) rfl rfl rfl k
       ·intro K rest fr hv htk k
        show AWops _ x _ _ K ⟨77, (upd 77 fr 40 (sc (.bool (decide (a4 > 0))))), _⟩
        refine s_move (d := (sc (.bool (decide (a4 > 0))))) rfl k
       ·intro K rest fr hv htk k
        show AWops _ x _ _ K ⟨77, (upd 77 (upd 77 fr 41 (sc (.bool (decide (a4 > 0))))) 4 (sc (.int .i64 a4))), _⟩
        refine AWops.guard_yes rfl (nl rfl) rfl c6 ?_
        refine s_move (d := (sc (.int .i64 a4))) rfl k
       ·intro K rest fr hv htk k
        show AWops _ x _ _ K ⟨77, (upd 77 (upd 77 fr 41 (sc (.bool (decide (a4 > 0))))) 0 (D.one (C.ref 0 0))), _⟩
        refine AWops.guard_yes rfl (nl rfl) rfl c6 ?_
        refine s_move (d := (D.one (C.ref 0 0))) rfl k
       ·intro K rest fr hv htk k
        show AWops _ x _ _ K ⟨77, (upd 77 (upd 77 fr 43 (D.one (C.ref 0 0))) 41 (sc (.bool (decide (a4 > 0))))), [(hv 0), (hv 1), (hv 2)]⟩
        refine AWops.guard_yes rfl (nl rfl) rfl c6 ?_
        refine s_nilCheck (d := (D.one (C.ref 0 0))) rfl (.inl ⟨_, _, rfl⟩) k
       ·intro K rest fr hv htk k
        show AWops _ x _ _ K ⟨77, (upd 77 (upd 77 fr 44 (D.one (C.ref 0 0))) 41 (sc (.bool (decide (a4 > 0))))), [(hv 0), (hv 1), (hv 2)]⟩
        refine AWops.guard_yes rfl (nl rfl) rfl c6 ?_
        refine s_fieldRef F.fo_37_1 (by decide) rfl k
       ·intro K rest fr hv htk k
        show AWops _ x _ _ K ⟨77, (upd 77 (upd 77 fr 45 (D.one (C.ref 0 1))) 41 (sc (.bool (decide (a4 > 0))))), [(some (AObj.cells false [(C.mp 2), (C.p true (.v (.int .i64 r1.2.room))), (C.p true (.v (.int .i64 r1.2.used))), (C.p true (.v (.pointer none))), (C.p true (.v (.bool r1.2.dead)))])), (hv 1), (hv 2)]⟩
        refine AWops.guard_yes rfl (nl rfl) rfl c6 ?_
        refine s_load1 (c' := (C.p true (.v (.int .i64 r1.2.room)))) F.ag_3 rfl rfl k
       ·intro K rest fr hv htk k
        show AWops _ x _ _ K ⟨77, (upd 77 (upd 77 fr 41 (sc (.bool (decide (a4 > 0))))) 0 (D.one (C.ref 0 0))), _⟩
        refine AWops.guard_yes rfl (nl rfl) rfl c6 ?_
        refine s_move (d := (D.one (C.ref 0 0))) rfl k
       ·intro K rest fr hv htk k
        show AWops _ x _ _ K ⟨77, (upd 77 (upd 77 fr 47 (D.one (C.ref 0 0))) 41 (sc (.bool (decide (a4 > 0))))), [(hv 0), (hv 1), (hv 2)]⟩
        refine AWops.guard_yes rfl (nl rfl) rfl c6 ?_
        refine s_nilCheck (d := (D.one (C.ref 0 0))) rfl (.inl ⟨_, _, rfl⟩) k
       ·intro K rest fr hv htk k
        show AWops _ x _ _ K ⟨77, (upd 77 (upd 77 fr 48 (D.one (C.ref 0 0))) 41 (sc (.bool (decide (a4 > 0))))), [(hv 0), (hv 1), (hv 2)]⟩
        refine AWops.guard_yes rfl (nl rfl) rfl c6 ?_
        refine s_fieldRef F.fo_37_2 (by decide) rfl k
       ·intro K rest fr hv htk k
        show AWops _ x _ _ K ⟨77, (upd 77 (upd 77 fr 49 (D.one (C.ref 0 2))) 41 (sc (.bool (decide (a4 > 0))))), [(some (AObj.cells false [(C.mp 2), (C.p true (.v (.int .i64 r1.2.room))), (C.p true (.v (.int .i64 r1.2.used))), (C.p true (.v (.pointer none))), (C.p true (.v (.bool r1.2.dead)))])), (hv 1), (hv 2)]⟩
        refine AWops.guard_yes rfl (nl rfl) rfl c6 ?_
        refine s_load1 (c' := (C.p true (.v (.int .i64 r1.2.used)))) F.ag_3 rfl rfl k
       ·intro K rest fr hv htk k
        show AWops _ x _ _ K ⟨77, (upd 77 (upd 77 (upd 77 fr 50 (sc (.int .i64 r1.2.used))) 46 (sc (.int .i64 r1.2.room))) 41 (sc (.bool (decide (a4 > 0))))), _⟩
        refine AWops.guard_yes rfl (nl rfl) rfl c6 ?_
        refine s_binI (v := (.int .i64 (IntKind.i64.wrap (r1.2.room - r1.2.used)))) rfl rfl rfl k
       ·intro K rest fr hv htk k
        show AWops _ x _ _ K ⟨77, (upd 77 (upd 77 (upd 77 fr 51 (sc (.int .i64 (IntKind.i64.wrap (r1.2.room - r1.2.used))))) 42 (sc (.int .i64 a4))) 41 (sc (.bool (decide (a4 > 0))))), _⟩
        refine AWops.guard_yes rfl (nl rfl) rfl c6 ?_
        refine s_binI (v := (.bool (decide (a4 > (IntKind.i64.wrap (r1.2.room - r1.2.used)))))) rfl rfl rfl k
       ·intro K rest fr hv htk k
        show AWops _ x _ _ K ⟨77, (upd 77 (upd 77 fr 52 (sc (.bool (decide (a4 > (IntKind.i64.wrap (r1.2.room - r1.2.used))))))) 41 (sc (.bool (decide (a4 > 0))))), _⟩
        refine s_pick_yes (d := (sc (.bool (decide (a4 > (IntKind.i64.wrap (r1.2.room - r1.2.used))))))) rfl c6 rfl k
      ·refine AWops.weak (st' := ⟨77, (upd 77 (upd 77 topF 0 (D.one (C.ref 0 0))) 53 (sc (.bool (decide (a4 > (IntKind.i64.wrap (r1.2.room - r1.2.used))))))), [(some (AObj.cells false [(C.mp 2), (C.p true (.v (.int .i64 r1.2.room))), (C.p true (.v (.int .i64 r1.2.used))), (C.p true (.v (.pointer none))), (C.p true (.v (.bool r1.2.dead)))])), none, (some (AObj.map false (mapE true e_vdisk_file r1.2.files)))]⟩) (Weak.gen (kk := 2) [0, 1, 2] [] hx rfl (by decide) (by decide) rfl rfl rfl (le_upd (le_upd (le_top _) (.t (.one (.ref rfl)))) (.t (.one .sc))) (ac (.cells (fun h => h) (ac (.mp rfl) (ac .sc (ac .sc (ac .sc (ac .sc an)))))) (ac (.none _) (ac .map an)))) (AWops.nil ?_)
       rcases itH h with ⟨c7, h⟩ | ⟨c7, h⟩
       ·refine AW.cond_yes rfl c7 (AW.seq (AW.region ?_))
        refine s_assign (d := (sc (.int .i64 71))) rfl (AWops.nil (AW.ret ?_))
        obtain rfl := Option.some.inj h
        exact ⟨_, rfl, (Weak.gen (kk := 2) [0, 1, 2] [] rfl rfl (by decide) (by decide) rfl rfl rfl (le_upd (le_top _) (.t (.one .sc))) (ac (.cells (fun h => h) (ac (.mp rfl) (ac .sc (ac .sc (ac .sc (ac .sc an)))))) (ac (.none _) (ac .map an))))⟩
       ·refine AW.cond_no rfl c7 (AW.skip (AW.seq (AW.seq (AW.region ?_))))
        refine s_move (d := (D.one (C.ref 0 0))) rfl ?_
        refine s_nilCheck (d := (D.one (C.ref 0 0))) rfl (.inl ⟨_, _, rfl⟩) ?_
        refine s_fieldRef F.fo_37_3 (by decide) rfl ?_
        refine s_load1 (c' := (C.p true (.v (.pointer none)))) F.ag_35 rfl rfl ?_
        refine s_ptrNil (b := true) F.u_35 rfl (.inr ⟨⟨_, rfl⟩, rfl⟩) (.inr rfl) (AWops.nil ?_)
        refine AW.cond_no rfl rfl (AW.skip (AW.seq (AW.region ?_)))
        refine s_assign (d := (sc (.int .i64 0))) rfl (AWops.nil (AW.ret ?_))
        obtain rfl := Option.some.inj h
        exact ⟨_, rfl, (Weak.gen (kk := 2) [0, 1, 2] [] rfl rfl (by decide) (by decide) rfl rfl rfl (le_upd (le_top _) (.t (.one .sc))) (ac (.cells (fun h => h) (ac (.mp rfl) (ac .sc (ac .sc (ac .sc (ac .sc an)))))) (ac (.none _) (ac .map an))))⟩
     ·refine AW.draw (n := 77) (L := 3) [(0, ⟨some 39, (sc (.int .i64 a4)), [(4, (sc (.int .i64 a4)))], [], [], none⟩), (1, ⟨some 40, (sc (.bool (decide (a4 > 0)))), [(39, (sc (.int .i64 a4)))], [], [], none⟩), (2, ⟨some 41, (sc (.bool (decide (a4 > 0)))), [(40, (sc (.bool (decide (a4 > 0)))))], [], [], none⟩), (3, ⟨some 42, (D.tup []), [(4, (sc (.int .i64 a4))), (41, (sc (.bool (decide (a4 > 0)))))], [], [], none⟩), (4, ⟨some 43, (D.tup []), [(41, (sc (.bool (decide (a4 > 0)))))], [], [], none⟩), (5, ⟨some 44, (D.tup []), [(41, (sc (.bool (decide (a4 > 0)))))], [], [], none⟩), (6, ⟨some 45, (D.tup []), [(41, (sc (.bool (decide (a4 > 0)))))], [], [], none⟩), (7, ⟨some 46, (D.tup []), [(41, (sc (.bool (decide (a4 > 0)))))], [], [], none⟩), (8, ⟨some 47, (D.tup []), [(41, (sc (.bool (decide (a4 > 0)))))], [], [], none⟩), (9, ⟨some 48, (D.tup []), [(41, (sc (.bool (decide (a4 > 0)))))], [], [], none⟩), (10, ⟨some 49, (D.tup []), [(41, (sc (.bool (decide (a4 > 0)))))], [], [], none⟩), (11, ⟨some 50, (D.tup []), [(41, (sc (.bool (decide (a4 > 0)))))], [], [], none⟩), (12, ⟨some 51, (D.tup []), [(41, (sc (.bool (decide (a4 > 0)))))], [], [], none⟩), (13, ⟨some 52, (D.tup []), [(41, (sc (.bool (decide (a4 > 0)))))], [], [], none⟩), (14, ⟨some 53, (sc (.bool false)), [(41, (sc (.bool (decide (a4 > 0)))))], [], [], none⟩)] [[], [0], [0, 1], [0, 1, 2], [0, 1, 2], [0, 1, 2, 4], [0, 1, 2, 4, 5], [0, 1, 2, 4, 5, 6], [0, 1, 2], [0, 1, 2, 8], [0, 1, 2, 8, 9], [0, 1, 2, 8, 9, 10], [0, 1, 2, 4, 5, 6, 7, 8, 9, 10, 11], [0, 1, 2, 3, 4, 5, 6, 7, 8, 9, 10, 11, 12], [0, 1, 2, 3, 4, 5, 6, 7, 8, 9, 10, 11, 12, 13]] (nl rfl) [0, 1, 2, 3, 3, 4, 5, 6, 3, 4, 5, 6, 7, 8, 9] rfl (TK := []) rfl AllK.nil' (fC ⟨(sC rfl AllS.nil'), AllH.nil'⟩ (fC ⟨(sC rfl AllS.nil'), AllH.nil'⟩ (fC ⟨(sC rfl AllS.nil'), AllH.nil'⟩ (fC ⟨(sC rfl (sC rfl AllS.nil')), AllH.nil'⟩ (fC ⟨(sC rfl AllS.nil'), AllH.nil'⟩ (fC ⟨(sC rfl AllS.nil'), AllH.nil'⟩ (fC ⟨(sC rfl AllS.nil'), AllH.nil'⟩ (fC ⟨(sC rfl AllS.nil'), AllH.nil'⟩ (fC ⟨(sC rfl AllS.nil'), AllH.nil'⟩ (fC ⟨(sC rfl AllS.nil'), AllH.nil'⟩ (fC ⟨(sC rfl AllS.nil'), AllH.nil'⟩ (fC ⟨(sC rfl AllS.nil'), AllH.nil'⟩ (fC ⟨(sC rfl AllS.nil'), AllH.nil'⟩ (fC ⟨(sC rfl AllS.nil'), AllH.nil'⟩ (fC ⟨(sC rfl AllS.nil'), AllH.nil'⟩ AllF.nil'))))))))))))))) ?_ ?_
      ·refine (pC ?_ (pC ?_ (pC ?_ (pC ?_ (pC ?_ (pC ?_ (pC ?_ (pC ?_ (pC ?_ (pC ?_ (pC ?_ (pC ?_ (pC ?_ (pC ?_ (pC ?_ AllStep.nil')))))))))))))))
       ·intro K rest fr hv htk k
        show AWops _ x _ _ K ⟨77, (upd 77 fr 4 (sc (.int .i64 a4))), _⟩
        refine s_move (d := (sc (.int .i64 a4))) rfl k
       ·intro K rest fr hv htk k
        show AWops _ x _ _ K ⟨77, (upd 77 fr 39 (sc (.int .i64 a4))), _⟩
        refine s_binI (v := (.bool (decide (a4 > 0)))) rfl rfl rfl k
       ·intro K rest fr hv htk k
        show AWops _ x _ _ K ⟨77, (upd 77 fr 40 (sc (.bool (decide (a4 > 0))))), _⟩
        refine s_move (d := (sc (.bool (decide (a4 > 0))))) rfl k
       ·intro K rest fr hv htk k
        show AWops _ x _ _ K ⟨77, (upd 77 (upd 77 fr 41 (sc (.bool (decide (a4 > 0))))) 4 (sc (.int .i64 a4))), _⟩
        refine AWops.guard_no rfl (nl rfl) rfl c6 k
       ·intro K rest fr hv htk k
        show AWops _ x _ _ K ⟨77, (upd 77 fr 41 (sc (.bool (decide (a4 > 0))))), _⟩
        refine AWops.guard_no rfl (nl rfl) rfl c6 k
       ·intro K rest fr hv htk k
        show AWops _ x _ _ K ⟨77, (upd 77 fr 41 (sc (.bool (decide (a4 > 0))))), _⟩
        refine AWops.guard_no rfl (nl rfl) rfl c6 k
       ·intro K rest fr hv htk k
        show AWops _ x _ _ K ⟨77, (upd 77 fr 41 (sc (.bool (decide (a4 > 0))))), _⟩
        refine AWops.guard_no rfl (nl rfl) rfl c6 k
       ·intro K rest fr hv htk k
        show AWops _ x _ _ K ⟨77, (upd 77 fr 41 (sc (.bool (decide (a4 > 0))))), _⟩
        refine AWops.guard_no rfl (nl rfl) rfl c6 k
       ·intro K rest fr hv htk k
        show AWops _ x _ _ K ⟨77, (upd 77 fr 41 (sc (.bool (decide (a4 > 0))))), _⟩
        refine AWops.guard_no rfl (nl rfl) rfl c6 k
       ·intro K rest fr hv htk k
        show AWops _ x _ _ K ⟨77, (upd 77 fr 41 (sc (.bool (decide (a4 > 0))))), _⟩
        refine AWops.guard_no rfl (nl rfl) rfl c6 k
       ·intro K rest fr hv htk k
        show AWops _ x _ _ K ⟨77, (upd 77 fr 41 (sc (.bool (decide (a4 > 0))))), _⟩
        refine AWops.guard_no rfl (nl rfl) rfl c6 k
       ·intro K rest fr hv htk k
        show AWops _ x _ _ K ⟨77, (upd 77 fr 41 (sc (.bool (decide (a4 > 0))))), _⟩
        refine AWops.guard_no rfl (nl rfl) rfl c6 k
       ·intro K rest fr hv htk k
        show AWops _ x _ _ K ⟨77, (upd 77 fr 41 (sc (.bool (decide (a4 > 0))))), _⟩
        refine AWops.guard_no rfl (nl rfl) rfl c6 k
       ·intro K rest fr hv htk k
        show AWops _ x _ _ K ⟨77, (upd 77 fr 41 (sc (.bool (decide (a4 > 0))))), _⟩
        refine AWops.guard_no rfl (nl rfl) rfl c6 k
       ·intro K rest fr hv htk k
        show AWops _ x _ _ K ⟨77, (upd 77 fr 41 (sc (.bool (decide (a4 > 0))))), _⟩
        refine s_pick_no (d := (sc (.bool false))) rfl c6 rfl k
      ·refine AWops.weak (st' := ⟨77, (upd 77 (upd 77 topF 0 (D.one (C.ref 0 0))) 53 (sc (.bool false))), [(some (AObj.cells false [(C.mp 2), (C.p true (.v (.int .i64 r1.2.room))), (C.p true (.v (.int .i64 r1.2.used))), (C.p true (.v (.pointer none))), (C.p true (.v (.bool r1.2.dead)))])), none, (some (AObj.map false (mapE true e_vdisk_file r1.2.files)))]⟩) (Weak.gen (kk := 2) [0, 1, 2] [] hx rfl (by decide) (by decide) rfl rfl rfl (le_upd (le_upd (le_top _) (.t (.one (.ref rfl)))) (.t (.one .sc))) (ac (.cells (fun h => h) (ac (.mp rfl) (ac .sc (ac .sc (ac .sc (ac .sc an)))))) (ac (.none _) (ac .map an)))) (AWops.nil ?_)
       refine AW.cond_no rfl rfl (AW.skip (AW.seq (AW.seq (AW.region ?_))))
       refine s_move (d := (D.one (C.ref 0 0))) rfl ?_
       refine s_nilCheck (d := (D.one (C.ref 0 0))) rfl (.inl ⟨_, _, rfl⟩) ?_
       refine s_fieldRef F.fo_37_3 (by decide) rfl ?_
       refine s_load1 (c' := (C.p true (.v (.pointer none)))) F.ag_35 rfl rfl ?_
       refine s_ptrNil (b := true) F.u_35 rfl (.inr ⟨⟨_, rfl⟩, rfl⟩) (.inr rfl) (AWops.nil ?_)
       refine AW.cond_no rfl rfl (AW.skip (AW.seq (AW.region ?_)))
       refine s_assign (d := (sc (.int .i64 0))) rfl (AWops.nil (AW.ret ?_))
       obtain rfl := Option.some.inj h
       exact ⟨_, rfl, (Weak.gen (kk := 2) [0, 1, 2] [] rfl rfl (by decide) (by decide) rfl rfl rfl (le_upd (le_top _) (.t (.one .sc))) (ac (.cells (fun h => h) (ac (.mp rfl) (ac .sc (ac .sc (ac .sc (ac .sc an)))))) (ac (.none _) (ac .map an))))⟩
    ·refine AWops.guard_yes rfl (nl rfl) rfl (by rw [c5] <;> rfl) ?_
     refine s_move (d := (sc (.bool a3))) rfl ?_
     refine AWops.guard_yes rfl (nl rfl) rfl (by rw [c5] <;> rfl) ?_
     refine s_not rfl ?_
     refine s_pick_yes (d := (sc (.bool (!a3)))) rfl (by rw [c5] <;> rfl) rfl (AWops.nil ?_)
     rcases itH h with ⟨c8, h⟩ | ⟨c8, h⟩
     ·refine AW.cond_no rfl (by rw [c8] <;> rfl) (AW.skip (AW.seq (AW.seq ?_)))
      refine AW.weak (st' := ⟨77, (upd 77 (upd 77 topF 0 (D.one (C.ref 0 0))) 4 (sc (.int .i64 a4))), [(some (AObj.cells false [(C.mp 2), (C.p true (.v (.int .i64 r1.2.room))), (C.p true (.v (.int .i64 r1.2.used))), (C.p true (.v (.pointer none))), (C.p true (.v (.bool r1.2.dead)))])), none, (some (AObj.map false (mapE true e_vdisk_file r1.2.files)))]⟩) (Weak.gen (kk := 2) [0, 1, 3] [] hx rfl (by decide) (by decide) rfl rfl rfl (le_upd (le_upd (le_top _) (.t (.one (.ref rfl)))) (.t (.one .sc))) (ac (.cells (fun h => h) (ac (.mp rfl) (ac .sc (ac .sc (ac .sc (ac .sc an)))))) (ac (.none _) (ac .map an)))) ?_
      rcases itH h with ⟨c9, h⟩ | ⟨c9, h⟩
      ·refine AW.draw (n := 77) (L := 3) [(0, ⟨some 39, (sc (.int .i64 a4)), [(4, (sc (.int .i64 a4)))], [], [], none⟩), (1, ⟨some 40, (sc (.bool (decide (a4 > 0)))), [(39, (sc (.int .i64 a4)))], [], [], none⟩), (2, ⟨some 41, (sc (.bool (decide (a4 > 0)))), [(40, (sc (.bool (decide (a4 > 0)))))], [], [], none⟩), (3, ⟨some 42, (sc (.int .i64 a4)), [(4, (sc (.int .i64 a4))), (41, (sc (.bool (decide (a4 > 0)))))], [], [], none⟩), (4, ⟨some 43, (D.one (C.ref 0 0)), [(0, (D.one (C.ref 0 0))), (41, (sc (.bool (decide (a4 > 0)))))], [], [], none⟩), (5, ⟨some 44, (D.one (C.ref 0 0)), [(41, (sc (.bool (decide (a4 > 0))))), (43, (D.one (C.ref 0 0)))], [], [], none⟩), (6, ⟨some 45, (D.one (C.ref 0 1)), [(41, (sc (.bool (decide (a4 > 0))))), (44, (D.one (C.ref 0 0)))], [], [], none⟩), (7, ⟨some 46, (sc (.int .i64 r1.2.room)), [(41, (sc (.bool (decide (a4 > 0))))), (45, (D.one (C.ref 0 1)))], [(0, (some (AObj.cells false [(C.mp 2), (C.p true (.v (.int .i64 r1.2.room))), (C.p true (.v (.int .i64 r1.2.used))), (C.p true (.v (.pointer none))), (C.p true (.v (.bool r1.2.dead)))])))], [], none⟩), (8, ⟨some 47, (D.one (C.ref 0 0)), [(0, (D.one (C.ref 0 0))), (41, (sc (.bool (decide (a4 > 0)))))], [], [], none⟩), (9, ⟨some 48, (D.one (C.ref 0 0)), [(41, (sc (.bool (decide (a4 > 0))))), (47, (D.one (C.ref 0 0)))], [], [], none⟩), (10, ⟨some 49, (D.one (C.ref 0 2)), [(41, (sc (.bool (decide (a4 > 0))))), (48, (D.one (C.ref 0 0)))], [], [], none⟩), (11, ⟨some 50, (sc (.int .i64 r1.2.used)), [(41, (sc (.bool (decide (a4 > 0))))), (49, (D.one (C.ref 0 2)))], [(0, (some (AObj.cells false [(C.mp 2), (C.p true (.v (.int .i64 r1.2.room))), (C.p true (.v (.int .i64 r1.2.used))), (C.p true (.v (.pointer none))), (C.p true (.v (.bool r1.2.dead)))])))], [], none⟩), (12, ⟨some 51, (sc (.int .i64 (IntKind.i64.wrap (r1.2.room - r1.2.used)))), [(41, (sc (.bool (decide (a4 > 0))))), (46, (sc (.int .i64 r1.2.room))), (50, (sc (.int .i64 r1.2.used)))], [], [], none⟩), (13, ⟨some 52, (sc (.bool (decide (a4 > (IntKind.i64.wrap (r1.2.room - r1.2.used)))))), [(41, (sc (.bool (decide (a4 > 0))))), (42, (sc (.int .i64 a4))), (51, (sc (.int .i64 (IntKind.i64.wrap (r1.2.room - r1.2.used)))))], [], [], none⟩), (14, ⟨some 53, (sc (.bool (decide (a4 > (IntKind.i64.wrap (r1.2.room - r1.2.used)))))), [(41, (sc (.bool (decide (a4 > 0))))), (52, (sc (.bool (decide (a4 > (IntKind.i64.wrap (r1.2.room - r1.2.used)))))))], [], [], none⟩)] [[], [0], [0, 1], [0, 1, 2], [0, 1, 2], [0, 1, 2, 4], [0, 1, 2, 4, 5], [0, 1, 2, 4, 5, 6], [0, 1, 2], [0, 1, 2, 8], [0, 1, 2, 8, 9], [0, 1, 2, 8, 9, 10], [0, 1, 2, 4, 5, 6, 7, 8, 9, 10, 11], [0, 1, 2, 3, 4, 5, 6, 7, 8, 9, 10, 11, 12], [0, 1, 2, 3, 4, 5, 6, 7, 8, 9, 10, 11, 12, 13]] (nl rfl) [0, 1, 2, 3, 3, 4, 5, 6, 3, 4, 5, 6, 7, 8, 9] rfl (TK := []) rfl AllK.nil' (fC ⟨(sC rfl AllS.nil'), AllH.nil'⟩ (fC ⟨(sC rfl AllS.nil'), AllH.nil'⟩ (fC ⟨(sC rfl AllS.nil'), AllH.nil'⟩ (fC ⟨(sC rfl (sC rfl AllS.nil')), AllH.nil'⟩ (fC ⟨(sC rfl (sC rfl AllS.nil')), AllH.nil'⟩ (fC ⟨(sC rfl (sC rfl AllS.nil')), AllH.nil'⟩ (fC ⟨(sC rfl (sC rfl AllS.nil')), AllH.nil'⟩ (fC ⟨(sC rfl (sC rfl AllS.nil')), (hC rfl AllH.nil')⟩ (fC ⟨(sC rfl (sC rfl AllS.nil')), AllH.nil'⟩ (fC ⟨(sC rfl (sC rfl AllS.nil')), AllH.nil'⟩ (fC ⟨(sC rfl (sC rfl AllS.nil')), AllH.nil'⟩ (fC ⟨(sC rfl (sC rfl AllS.nil')), (hC rfl AllH.nil')⟩ (fC ⟨(sC rfl (sC rfl (sC rfl AllS.nil'))), AllH.nil'⟩ (fC ⟨(sC rfl (sC rfl (sC rfl AllS.nil'))), AllH.nil'⟩ (fC ⟨(sC rfl (sC rfl AllS.nil')), AllH.nil'⟩ AllF.nil'))))))))))))))) ?_ ?_
       ·refine (pC ?_ (pC ?_ (pC ?_ (pC ?_ (pC ?_ (pC ?_ (pC ?_ (pC ?_ (pC ?_ (pC ?_ (pC ?_ (pC ?_ (pC ?_ (pC ?_ (pC ?_ AllStep.nil')))))))))))))))
        ·intro K rest fr hv htk k
         show AWops _ x _ _ K ⟨77, (upd 77 fr 4 (sc (.int .i64 a4))), _⟩
         refine s_move (d := (sc (.int .i64 a4))) rfl k
        ·intro K rest fr hv htk k
         show AWops _ x _ _ K ⟨77, (upd 77 fr 39 (sc (.int .i64 a4))), _⟩
         refine s_binI (v := (.bool (decide (a4 > 0)))) rfl rfl rfl k
        ·intro K rest fr hv htk k
         show AWops _ x _ _ K ⟨77, (upd 77 fr 40 (sc (.bool (decide (a4 > 0))))), _⟩
         refine s_move (d := (sc (.bool (decide (a4 > 0))))) rfl k
        ·intro K rest fr hv htk k
         show AWops _ x _ _ K ⟨77, (upd 77 (upd 77 fr 41 (sc (.bool (decide (a4 > 0))))) 4 (sc (.int .i64 a4))), _⟩
         refine AWops.guard_yes rfl (nl rfl) rfl c9 ?_
         refine s_move (d := (sc (.int .i64 a4))) rfl k
        ·intro K rest fr hv htk k
         show AWops _ x _ _ K ⟨77, (upd 77 (upd 77 fr 41 (sc (.bool (decide (a4 > 0))))) 0 (D.one (C.ref 0 0))), _⟩
         refine AWops.guard_yes rfl (nl rfl) rfl c9 ?_
         refine s_move (d := (D.one (C.ref 0 0))) rfl k
        ·intro K rest fr hv htk k
         show AWops _ x _ _ K ⟨77, (upd 77 (upd 77 fr 43 (D.one (C.ref 0 0))) 41 (sc (.bool (decide (a4 > 0))))), [(hv 0), (hv 1), (hv 2)]⟩
         refine AWops.guard_yes rfl (nl rfl) rfl c9 ?_
         refine s_nilCheck (d := (D.one (C.ref 0 0))) rfl (.inl ⟨_, _, rfl⟩) k
        ·intro K rest fr hv htk k
         show AWops _ x _ _ K ⟨77, (upd 77 (upd 77 fr 44 (D.one (C.ref 0 0))) 41 (sc (.bool (decide (a4 > 0))))), [(hv 0), (hv 1), (hv 2)]⟩
         refine AWops.guard_yes rfl (nl rfl) rfl c9 ?_
         refine s_fieldRef F.fo_37_1 (by decide) rfl k
        ·intro K rest fr hv htk k
         show AWops _ x _ _ K ⟨77, (upd 77 (upd 77 fr 45 (D.one (C.ref 0 1))) 41 (sc (.bool (decide (a4 > 0))))), [(some (AObj.cells false [(C.mp 2), (C.p true (.v (.int .i64 r1.2.room))), (C.p true (.v (.int .i64 r1.2.used))), (C.p true (.v (.pointer none))), (C.p true (.v (.bool r1.2.dead)))])), (hv 1), (hv 2)]⟩
         refine AWops.guard_yes rfl (nl rfl) rfl c9 ?_
         refine s_load1 (c' := (C.p true (.v (.int .i64 r1.2.room)))) F.ag_3 rfl rfl k
        ·intro K rest fr hv htk k
         show AWops _ x _ _ K ⟨77, (upd 77 (upd 77 fr 41 (sc (.bool (decide (a4 > 0))))) 0 (D.one (C.ref 0 0))), _⟩
         refine AWops.guard_yes rfl (nl rfl) rfl c9 ?_
         refine s_move (d := (D.one (C.ref 0 0))) rfl k
        ·intro K rest fr hv htk k
         show AWops _ x _ _ K ⟨77, (upd 77 (upd 77 fr 47 (D.one (C.ref 0 0))) 41 (sc (.bool (decide (a4 > 0))))), [(hv 0), (hv 1), (hv 2)]⟩
         refine AWops.guard_yes rfl (nl rfl) rfl c9 ?_
         refine s_nilCheck (d := (D.one (C.ref 0 0))) rfl (.inl ⟨_, _, rfl⟩) k
        ·intro K rest fr hv htk k
         show AWops _ x _ _ K ⟨77, (upd 77 (upd 77 fr 48 (D.one (C.ref 0 0))) 41 (sc (.bool (decide (a4 > 0))))), [(hv 0), (hv 1), (hv 2)]⟩
         refine AWops.guard_yes rfl (nl rfl) rfl c9 ?_
         refine s_fieldRef F.fo_37_2 (by decide) rfl k
        ·intro K rest fr hv htk k
         show AWops _ x _ _ K ⟨77, (upd 77 (upd 77 fr 49 (D.one (C.ref 0 2))) 41 (sc (.bool (decide (a4 > 0))))), [(some (AObj.cells false [(C.mp 2), (C.p true (.v (.int .i64 r1.2.room))), (C.p true (.v (.int .i64 r1.2.used))), (C.p true (.v (.pointer none))), (C.p true (.v (.bool r1.2.dead)))])), (hv 1), (hv 2)]⟩
         refine AWops.guard_yes rfl (nl rfl) rfl c9 ?_
         refine s_load1 (c' := (C.p true (.v (.int .i64 r1.2.used)))) F.ag_3 rfl rfl k
        ·intro K rest fr hv htk k
         show AWops _ x _ _ K ⟨77, (upd 77 (upd 77 (upd 77 fr 50 (sc (.int .i64 r1.2.used))) 46 (sc (.int .i64 r1.2.room))) 41 (sc (.bool (decide (a4 > 0))))), _⟩
         refine AWops.guard_yes rfl (nl rfl) rfl c9 ?_
         refine s_binI (v := (.int .i64 (IntKind.i64.wrap (r1.2.room - r1.2.used)))) rfl rfl rfl k
        ·intro K rest fr hv htk k
         show AWops _ x _ _ K ⟨77, (upd 77 (upd 77 (upd 77 fr 51 (sc (.int .i64 (IntKind.i64.wrap (r1.2.room - r1.2.used))))) 42 (sc (.int .i64 a4))) 41 (sc (.bool (decide (a4 > 0))))), _⟩
         refine AWops.guard_yes rfl (nl rfl) rfl c9 ?_
         refine s_binI (v := (.bool (decide (a4 > (IntKind.i64.wrap (r1.2.room - r1.2.used)))))) rfl rfl rfl k
        ·intro K rest fr hv htk k
         show AWops _ x _ _ K ⟨77, (upd 77 (upd 77 fr 52 (sc (.bool (decide (a4 > (IntKind.i64.wrap (r1.2.room - r1.2.used))))))) 41 (sc (.bool (decide (a4 > 0))))), _⟩
         refine s_pick_yes (d := (sc (.bool (decide (a4 > (IntKind.i64.wrap (r1.2.room - r1.2.used))))))) rfl c9 rfl k
       ·refine AWops.weak (st' := ⟨77, (upd 77 (upd 77 topF 0 (D.one (C.ref 0 0))) 53 (sc (.bool (decide (a4 > (IntKind.i64.wrap (r1.2.room - r1.2.used))))))), [(some (AObj.cells false [(C.mp 2), (C.p true (.v (.int .i64 r1.2.room))), (C.p true (.v (.int .i64 r1.2.used))), (C.p true (.v (.pointer none))), (C.p true (.v (.bool r1.2.dead)))])), none, (some (AObj.map false (mapE true e_vdisk_file r1.2.files)))]⟩) (Weak.gen (kk := 2) [0, 1, 2] [] hx rfl (by decide) (by decide) rfl rfl rfl (le_upd (le_upd (le_top _) (.t (.one (.ref rfl)))) (.t (.one .sc))) (ac (.cells (fun h => h) (ac (.mp rfl) (ac .sc (ac .sc (ac .sc (ac .sc an)))))) (ac (.none _) (ac .map an)))) (AWops.nil ?_)
        rcases itH h with ⟨c10, h⟩ | ⟨c10, h⟩
        ·refine AW.cond_yes rfl c10 (AW.seq (AW.region ?_))
         refine s_assign (d := (sc (.int .i64 71))) rfl (AWops.nil (AW.ret ?_))
         obtain rfl := Option.some.inj h
         exact ⟨_, rfl, (Weak.gen (kk := 2) [0, 1, 2] [] rfl rfl (by decide) (by decide) rfl rfl rfl (le_upd (le_top _) (.t (.one .sc))) (ac (.cells (fun h => h) (ac (.mp rfl) (ac .sc (ac .sc (ac .sc (ac .sc an)))))) (ac (.none _) (ac .map an))))⟩
        ·refine AW.cond_no rfl c10 (AW.skip (AW.seq (AW.seq (AW.region ?_))))
         refine s_move (d := (D.one (C.ref 0 0))) rfl ?_
         refine s_nilCheck (d := (D.one (C.ref 0 0))) rfl (.inl ⟨_, _, rfl⟩) ?_
         refine s_fieldRef F.fo_37_3 (by decide) rfl ?_
         refine s_load1 (c' := (C.p true (.v (.pointer none)))) F.ag_35 rfl rfl ?_
         refine s_ptrNil (b := true) F.u_35 rfl (.inr ⟨⟨_, rfl⟩, rfl⟩) (.inr rfl) (AWops.nil ?_)
         refine AW.cond_no rfl rfl (AW.skip (AW.seq (AW.region ?_)))
         refine s_assign (d := (sc (.int .i64 0))) rfl (AWops.nil (AW.ret ?_))
         obtain rfl := Option.some.inj h
         exact ⟨_, rfl, (Weak.gen (kk := 2) [0, 1, 2] [] rfl rfl (by decide) (by decide) rfl rfl rfl (le_upd (le_top _) (.t (.one .sc))) (ac (.cells (fun h => h) (ac (.mp rfl) (ac .sc (ac .sc (ac .sc (ac .sc an)))))) (ac (.none _) (ac .map an))))⟩
      ·refine AW.draw (n := 77) (L := 3) [(0, ⟨some 39, (sc (.int .i64 a4)), [(4, (sc (.int .i64 a4)))], [], [], none⟩), (1, ⟨some 40, (sc (.bool (decide (a4 > 0)))), [(39, (sc (.int .i64 a4)))], [], [], none⟩), (2, ⟨some 41, (sc (.bool (decide (a4 > 0)))), [(40, (sc (.bool (decide (a4 > 0)))))], [], [], none⟩), (3, ⟨some 42, (D.tup []), [(4, (sc (.int .i64 a4))), (41, (sc (.bool (decide (a4 > 0)))))], [], [], none⟩), (4, ⟨some 43, (D.tup []), [(41, (sc (.bool (decide (a4 > 0)))))], [], [], none⟩), (5, ⟨some 44, (D.tup []), [(41, (sc (.bool (decide (a4 > 0)))))], [], [], none⟩), (6, ⟨some 45, (D.tup []), [(41, (sc (.bool (decide (a4 > 0)))))], [], [], none⟩), (7, ⟨some 46, (D.tup []), [(41, (sc (.bool (decide (a4 > 0)))))], [], [], none⟩), (8, ⟨some 47, (D.tup []), [(41, (sc (.bool (decide (a4 > 0)))))], [], [], none⟩), (9, ⟨some 48, (D.tup []), [(41, (sc (.bool (decide (a4 > 0)))))], [], [], none⟩), (10, ⟨some 49, (D.tup []), [(41, (sc (.bool (decide (a4 > 0)))))], [], [], none⟩), (11, ⟨some 50, (D.tup []), [(41, (sc (.bool (decide (a4 > 0)))))], [], [], none⟩), (12, ⟨some 51, (D.tup []), [(41, (sc (.bool (decide (a4 > 0)))))], [], [], none⟩), (13, ⟨some 52, (D.tup []), [(41, (sc (.bool (decide (a4 > 0)))))], [], [], none⟩), (14, ⟨some 53, (sc (.bool false)), [(41, (sc (.bool (decide (a4 > 0)))))], [], [], none⟩)] [[], [0], [0, 1], [0, 1, 2], [0, 1, 2], [0, 1, 2, 4], [0, 1, 2, 4, 5], [0, 1, 2, 4, 5, 6], [0, 1, 2], [0, 1, 2, 8], [0, 1, 2, 8, 9], [0, 1, 2, 8, 9, 10], [0, 1, 2, 4, 5, 6, 7, 8, 9, 10, 11], [0, 1, 2, 3, 4, 5, 6, 7, 8, 9, 10, 11, 12], [0, 1, 2, 3, 4, 5, 6, 7, 8, 9, 10, 11, 12, 13]] (nl rfl) [0, 1, 2, 3, 3, 4, 5, 6, 3, 4, 5, 6, 7, 8, 9] rfl (TK := []) rfl AllK.nil' (fC ⟨(sC rfl AllS.nil'), AllH.nil'⟩ (fC ⟨(sC rfl AllS.nil'), AllH.nil'⟩ (fC ⟨(sC rfl AllS.nil'), AllH.nil'⟩ (fC ⟨(sC rfl (sC rfl AllS.nil')), AllH.nil'⟩ (fC ⟨(sC rfl AllS.nil'), AllH.nil'⟩ (fC ⟨(sC rfl AllS.nil'), AllH.nil'⟩ (fC ⟨(sC rfl AllS.nil'), AllH.nil'⟩ (fC ⟨(sC rfl AllS.nil'), AllH.nil'⟩ (fC ⟨(sC rfl AllS.nil'), AllH.nil'⟩ (fC ⟨(sC rfl AllS.nil'), AllH.nil'⟩ (fC ⟨(sC rfl AllS.nil'), AllH.nil'⟩ (fC ⟨(sC rfl AllS.nil'), AllH.nil'⟩ (fC ⟨(sC rfl AllS.nil'), AllH.nil'⟩ (fC ⟨(sC rfl AllS.nil'), AllH.nil'⟩ (fC ⟨(sC rfl AllS.nil'), AllH.nil'⟩ AllF.nil'))))))))))))))) ?_ ?_
       ·refine (pC ?_ (pC ?_ (pC ?_ (pC ?_ (pC ?_ (pC ?_ (pC ?_ (pC ?_ (pC ?_ (pC ?_ (pC ?_ (pC ?_ (pC ?_ (pC ?_ (pC ?_ AllStep.nil')))))))))))))))
        ·intro K rest fr hv htk k
         show AWops _ x _ _ K ⟨77, (upd 77 fr 4 (sc (.int .i64 a4))), _⟩
         refine s_move (d := (sc (.int .i64 a4))) rfl k
        ·intro K rest fr hv htk k
         show AWops _ x _ _ K ⟨77, (upd 77 fr 39 (sc (.int .i64 a4))), _⟩
         refine s_binI (v := (.bool (decide (a4 > 0)))) rfl rfl rfl k
        ·intro K rest fr hv htk k
         show AWops _ x _ _ K ⟨77, (upd 77 fr 40 (sc (.bool (decide (a4 > 0))))), _⟩
         refine s_move (d := (sc (.bool (decide (a4 > 0))))) rfl k
        ·intro K rest fr hv htk k
         show AWops _ x _ _ K ⟨77, (upd 77 (upd 77 fr 41 (sc (.bool (decide (a4 > 0))))) 4 (sc (.int .i64 a4))), _⟩
         refine AWops.guard_no rfl (nl rfl) rfl c9 k
        ·intro K rest fr hv htk k
         show AWops _ x _ _ K ⟨77, (upd 77 fr 41 (sc (.bool (decide (a4 > 0))))), _⟩
         refine AWops.guard_no rfl (nl rfl) rfl c9 k
        ·intro K rest fr hv htk k
         show AWops _ x _ _ K ⟨77, (upd 77 fr 41 (sc (.bool (decide (a4 > 0))))), _⟩
         refine AWops.guard_no rfl (nl rfl) rfl c9 k
        ·intro K rest fr hv htk k
         show AWops _ x _ _ K ⟨77, (upd 77 fr 41 (sc (.bool (decide (a4 > 0))))), _⟩
         refine AWops.guard_no rfl (nl rfl) rfl c9 k
        ·intro K rest fr hv htk k
         show AWops _ x _ _ K ⟨77, (upd 77 fr 41 (sc (.bool (decide (a4 > 0))))), _⟩
         refine AWops.guard_no rfl (nl rfl) rfl c9 k
        ·intro K rest fr hv htk k
         show AWops _ x _ _ K ⟨77, (upd 77 fr 41 (sc (.bool (decide (a4 > 0))))), _⟩
         refine AWops.guard_no rfl (nl rfl) rfl c9 k
        ·intro K rest fr hv htk k
         show AWops _ x _ _ K ⟨77, (upd 77 fr 41 (sc (.bool (decide (a4 > 0))))), _⟩
         refine AWops.guard_no rfl (nl rfl) rfl c9 k
        ·intro K rest fr hv htk k
         show AWops _ x _ _ K ⟨77, (upd 77 fr 41 (sc (.bool (decide (a4 > 0))))), _⟩
         refine AWops.guard_no rfl (nl rfl) rfl c9 k
        ·intro K rest fr hv htk k
         show AWops _ x _ _ K ⟨77, (upd 77 fr 41 (sc (.bool (decide (a4 > 0))))), _⟩
         refine AWops.guard_no rfl (nl rfl) rfl c9 k
        ·intro K rest fr hv htk k
         show AWops _ x _ _ K ⟨77, (upd 77 fr 41 (sc (.bool (decide (a4 > 0))))), _⟩
         refine AWops.guard_no rfl (nl rfl) rfl c9 k
        ·intro K rest fr hv htk k
         show AWops _ x _ _ K ⟨77, (upd 77 fr 41 (sc (.bool (decide (a4 > 0))))), _⟩
         refine AWops.guard_no rfl (nl rfl) rfl c9 k
        ·intro K rest fr hv htk k
         show AWops _ x _ _ K ⟨77, (upd 77 fr 41 (sc (.bool (decide (a4 > 0))))), _⟩
         refine s_pick_no (d := (sc (.bool false))) rfl c9 rfl k
       ·refine AWops.weak (st' := ⟨77, (upd 77 (upd 77 topF 0 (D.one (C.ref 0 0))) 53 (sc (.bool false))), [(some (AObj.cells false [(C.mp 2), (C.p true (.v (.int .i64 r1.2.room))), (C.p true (.v (.int .i64 r1.2.used))), (C.p true (.v (.pointer none))), (C.p true (.v (.bool r1.2.dead)))])), none, (some (AObj.map false (mapE true e_vdisk_file r1.2.files)))]⟩) (Weak.gen (kk := 2) [0, 1, 2] [] hx rfl (by decide) (by decide) rfl rfl rfl (le_upd (le_upd (le_top _) (.t (.one (.ref rfl)))) (.t (.one .sc))) (ac (.cells (fun h => h) (ac (.mp rfl) (ac .sc (ac .sc (ac .sc (ac .sc an)))))) (ac (.none _) (ac .map an)))) (AWops.nil ?_)
        refine AW.cond_no rfl rfl (AW.skip (AW.seq (AW.seq (AW.region ?_))))
        refine s_move (d := (D.one (C.ref 0 0))) rfl ?_
        refine s_nilCheck (d := (D.one (C.ref 0 0))) rfl (.inl ⟨_, _, rfl⟩) ?_
        refine s_fieldRef F.fo_37_3 (by decide) rfl ?_
        refine s_load1 (c' := (C.p true (.v (.pointer none)))) F.ag_35 rfl rfl ?_
        refine s_ptrNil (b := true) F.u_35 rfl (.inr ⟨⟨_, rfl⟩, rfl⟩) (.inr rfl) (AWops.nil ?_)
        refine AW.cond_no rfl rfl (AW.skip (AW.seq (AW.region ?_)))
        refine s_assign (d := (sc (.int .i64 0))) rfl (AWops.nil (AW.ret ?_))
        obtain rfl := Option.some.inj h
        exact ⟨_, rfl, (Weak.gen (kk := 2) [0, 1, 2] [] rfl rfl (by decide) (by decide) rfl rfl rfl (le_upd (le_top _) (.t (.one .sc))) (ac (.cells (fun h => h) (ac (.mp rfl) (ac .sc (ac .sc (ac .sc (ac .sc an)))))) (ac (.none _) (ac .map an))))⟩
     ·refine AW.cond_yes rfl (by rw [c8] <;> rfl) (AW.seq (AW.region ?_))
      refine s_assign (d := (sc (.int .i64 33))) rfl (AWops.nil (AW.ret ?_))
      obtain rfl := Option.some.inj h
      exact ⟨_, rfl, (Weak.gen (kk := 2) [0, 1, 3] [] rfl rfl (by decide) (by decide) rfl rfl rfl (le_upd (le_top _) (.t (.one .sc))) (ac (.cells (fun h => h) (ac (.mp rfl) (ac .sc (ac .sc (ac .sc (ac .sc an)))))) (ac (.none _) (ac .map an))))⟩
  ·refine AW.cond_yes rfl (by rw [c3] <;> rfl) (AW.seq (AW.region ?_))
   refine s_assign (d := (sc (.int .i64 1))) rfl (AWops.nil (AW.ret ?_))
   obtain rfl := Option.some.inj h
   exact ⟨_, rfl, (Weak.gen (kk := 2) [0, 1, 3] [] rfl rfl (by decide) (by decide) rfl rfl rfl (le_upd (le_top _) (.t (.one .sc))) (ac (.cells (fun h => h) (ac (.mp rfl) (ac .sc (ac .sc (ac .sc (ac .sc an)))))) (ac (.none _) (ac .map an))))⟩
def vdisk_Disk_cut_59.f (k : Nat) (p0 : vdisk_Disk) (a1 : ByteArray) : Option vdisk_Disk := some (⟨mdel a1 p0.files, p0.room, IntKind.i64.wrap (p0.used - ((((mget a1 p0.files).getD ((⟨([] : List Int), 0⟩ : vdisk_file) : vdisk_file)).b).length : Int)), (), p0.dead⟩ : vdisk_Disk)
theorem vdisk_Disk_cut_59.meets (k : Nat) (p0 : vdisk_Disk) (a1 : ByteArray) (r : vdisk_Disk) (h : vdisk_Disk_cut_59.f k p0 a1 = some r) : Meets Try.prog 59 [(D.one (C.ref 0 0)), (sc (.string a1))] [(some (AObj.cells false [(C.mp 1), (C.p true (.v (.int .i64 p0.room))), (C.p true (.v (.int .i64 p0.used))), (C.p true (.v (.pointer none))), (C.p true (.v (.bool p0.dead)))])), (some (AObj.map false (mapE true e_vdisk_file p0.files)))] (D.tup []) [(some (AObj.cells false [(C.mp 2), (C.p true (.v (.int .i64 r.room))), (C.p true (.v (.int .i64 r.used))), (C.p true (.v (.pointer none))), (C.p true (.v (.bool r.dead)))])), none, (some (AObj.map false (mapE true e_vdisk_file r.files)))] := by
 unfold vdisk_Disk_cut_59.f at h
 refine Meets.of_body (n := 24) Try.func59 rfl rfl (nl rfl) fun x hx => ?_
 replace hx : x.k = 2 := hx
 show AW _ x _ _ ⟨24, fr0 [(D.one (C.ref 0 0)), (sc (.string a1))], [(some (AObj.cells false [(C.mp 1), (C.p true (.v (.int .i64 p0.room))), (C.p true (.v (.int .i64 p0.used))), (C.p true (.v (.pointer none))), (C.p true (.v (.bool p0.dead)))])), (some (AObj.map false (mapE true e_vdisk_file p0.files)))]⟩
 refine AW.weak (st' := ⟨24, (upd 24 (upd 24 topF 0 (D.one (C.ref 0 0))) 1 (sc (.string a1))), [(some (AObj.cells false [(C.mp 2), (C.p true (.v (.int .i64 p0.room))), (C.p true (.v (.int .i64 p0.used))), (C.p true (.v (.pointer none))), (C.p true (.v (.bool p0.dead)))])), none, (some (AObj.map false (mapE true e_vdisk_file p0.files)))]⟩) (Weak.genL (kk := 2) [0, 1, 1] [] hx rfl (by decide) rfl rfl rfl rfl (le_upd (le_upd (le_top _) (.t (.one (.ref rfl)))) (.t (.one .sc))) (ac (.cells (fun h => h) (ac (.mp rfl) (ac .sc (ac .sc (ac .sc (ac .sc an)))))) (ac (.none _) (ac .map an)))) (AW.seq ?_)
 refine AW.weak (st' := ⟨24, (upd 24 (upd 24 topF 0 (D.one (C.ref 0 0))) 1 (sc (.string a1))), [(some (AObj.cells false [(C.mp 2), (C.p true (.v (.int .i64 p0.room))), (C.p true (.v (.int .i64 p0.used))), (C.p true (.v (.pointer none))), (C.p true (.v (.bool p0.dead)))])), none, (some (AObj.map false (mapE true e_vdisk_file p0.files)))]⟩) (Weak.gen (kk := 2) [0, 1, 2] [] hx rfl (by decide) (by decide) rfl rfl rfl (le_upd (le_upd (le_top _) (.t (.one (.ref rfl)))) (.t (.one .sc))) (ac (.cells (fun h => h) (ac (.mp rfl) (ac .sc (ac .sc (ac .sc (ac .sc an)))))) (ac (.none _) (ac .map an)))) ?_
 refine AW.draw (n := 24) (L := 3) [(0, ⟨some 4, (D.one (C.ref 0 0)), [(0, (D.one (C.ref 0 0)))], [], [], none⟩), (1, ⟨some 5, (D.one (C.ref 0 0)), [(4, (D.one (C.ref 0 0)))], [], [], none⟩), (2, ⟨some 6, (D.one (C.ref 0 2)), [(5, (D.one (C.ref 0 0)))], [], [], none⟩), (3, ⟨some 7, (sc (.int .i64 p0.used)), [(6, (D.one (C.ref 0 2)))], [(0, (some (AObj.cells false [(C.mp 2), (C.p true (.v (.int .i64 p0.room))), (C.p true (.v (.int .i64 p0.used))), (C.p true (.v (.pointer none))), (C.p true (.v (.bool p0.dead)))])))], [], none⟩), (4, ⟨some 8, (D.one (C.ref 0 0)), [(0, (D.one (C.ref 0 0)))], [], [], none⟩), (5, ⟨some 9, (D.one (C.ref 0 0)), [(8, (D.one (C.ref 0 0)))], [], [], none⟩), (6, ⟨some 10, (D.one (C.ref 0 0)), [(9, (D.one (C.ref 0 0)))], [], [], none⟩), (7, ⟨some 11, (D.one (C.mp 2)), [(10, (D.one (C.ref 0 0)))], [(0, (some (AObj.cells false [(C.mp 2), (C.p true (.v (.int .i64 p0.room))), (C.p true (.v (.int .i64 p0.used))), (C.p true (.v (.pointer none))), (C.p true (.v (.bool p0.dead)))])))], [], none⟩), (8, ⟨some 12, (sc (.string a1)), [(1, (sc (.string a1)))], [], [], none⟩), (9, ⟨some 13, (D.agg (c_vdisk_file ((mget a1 p0.files).getD ((⟨([] : List Int), 0⟩ : vdisk_file) : vdisk_file)))), [(11, (D.one (C.mp 2))), (12, (sc (.string a1)))], [(2, (some (AObj.map false (mapE true e_vdisk_file p0.files))))], [], none⟩), (10, ⟨some 14, (D.one (C.p false (.sl (((mget a1 p0.files).getD ((⟨([] : List Int), 0⟩ : vdisk_file) : vdisk_file)).b).length ((((mget a1 p0.files).getD ((⟨([] : List Int), 0⟩ : vdisk_file) : vdisk_file)).b).flatMap e_u8)))), [(13, (D.agg (c_vdisk_file ((mget a1 p0.files).getD ((⟨([] : List Int), 0⟩ : vdisk_file) : vdisk_file)))))], [], [], none⟩), (11, ⟨some 15, (sc (.int .i64 ((((mget a1 p0.files).getD ((⟨([] : List Int), 0⟩ : vdisk_file) : vdisk_file)).b).length : Int))), [(14, (D.one (C.p false (.sl (((mget a1 p0.files).getD ((⟨([] : List Int), 0⟩ : vdisk_file) : vdisk_file)).b).length ((((mget a1 p0.files).getD ((⟨([] : List Int), 0⟩ : vdisk_file) : vdisk_file)).b).flatMap e_u8)))))], [], [], none⟩), (12, ⟨some 16, (sc (.int .i64 (IntKind.i64.wrap (p0.used - ((((mget a1 p0.files).getD ((⟨([] : List Int), 0⟩ : vdisk_file) : vdisk_file)).b).length : Int))))), [(7, (sc (.int .i64 p0.used))), (15, (sc (.int .i64 ((((mget a1 p0.files).getD ((⟨([] : List Int), 0⟩ : vdisk_file) : vdisk_file)).b).length : Int))))], [], [], none⟩), (13, ⟨some 17, (D.one (C.ref 0 0)), [(4, (D.one (C.ref 0 0)))], [], [], none⟩), (14, ⟨some 18, (D.one (C.ref 0 2)), [(17, (D.one (C.ref 0 0)))], [], [], none⟩), (15, ⟨none, (D.one C.top), [(16, (sc (.int .i64 (IntKind.i64.wrap (p0.used - ((((mget a1 p0.files).getD ((⟨([] : List Int), 0⟩ : vdisk_file) : vdisk_file)).b).length : Int)))))), (18, (D.one (C.ref 0 2)))], [(0, (some (AObj.cells false [(C.mp 2), (C.p true (.v (.int .i64 p0.room))), (C.p true (.v (.int .i64 p0.used))), (C.p true (.v (.pointer none))), (C.p true (.v (.bool p0.dead)))])))], [(0, (some (AObj.cells false [(C.mp 2), (C.p true (.v (.int .i64 p0.room))), (C.p true (.v (.int .i64 (IntKind.i64.wrap (p0.used - ((((mget a1 p0.files).getD ((⟨([] : List Int), 0⟩ : vdisk_file) : vdisk_file)).b).length : Int)))))), (C.p true (.v (.pointer none))), (C.p true (.v (.bool p0.dead)))])))], none⟩)] [[], [0], [0, 1], [0, 1, 2], [], [4], [4, 5], [4, 5, 6], [], [4, 5, 6, 7, 8], [4, 5, 6, 7, 8, 9], [4, 5, 6, 7, 8, 9, 10], [0, 1, 2, 3, 4, 5, 6, 7, 8, 9, 10, 11], [0, 1, 2, 3, 4, 5, 6, 7, 8, 9, 10, 11, 12], [0, 1, 2, 3, 4, 5, 6, 7, 8, 9, 10, 11, 12, 13], [0, 1, 2, 3, 4, 5, 6, 7, 8, 9, 10, 11, 12, 13, 14]] (nl rfl) [0, 1, 2, 3, 0, 1, 2, 3, 0, 4, 5, 6, 7, 8, 9, 10] rfl (TK := []) rfl AllK.nil' (fC ⟨(sC rfl AllS.nil'), AllH.nil'⟩ (fC ⟨(sC rfl AllS.nil'), AllH.nil'⟩ (fC ⟨(sC rfl AllS.nil'), AllH.nil'⟩ (fC ⟨(sC rfl AllS.nil'), (hC rfl AllH.nil')⟩ (fC ⟨(sC rfl AllS.nil'), AllH.nil'⟩ (fC ⟨(sC rfl AllS.nil'), AllH.nil'⟩ (fC ⟨(sC rfl AllS.nil'), AllH.nil'⟩ (fC ⟨(sC rfl AllS.nil'), (hC rfl AllH.nil')⟩ (fC ⟨(sC rfl AllS.nil'), AllH.nil'⟩ (fC ⟨(sC rfl (sC rfl AllS.nil')), (hC rfl AllH.nil')⟩ (fC ⟨(sC rfl AllS.nil'), AllH.nil'⟩ (fC ⟨(sC rfl AllS.nil'), AllH.nil'⟩ (fC ⟨(sC rfl (sC rfl AllS.nil')), AllH.nil'⟩ (fC ⟨(sC rfl AllS.nil'), AllH.nil'⟩ (fC ⟨(sC rfl AllS.nil'), AllH.nil'⟩ (fC ⟨(sC rfl (sC rfl AllS.nil')), (hC rfl AllH.nil')⟩ AllF.nil')))))))))))))))) ?_ ?_
 ·refine (pC ?_ (pC ?_ (pC ?_ (pC ?_ (pC ?_ (pC ?_ (pC ?_ (pC ?_ (pC ?_ (pC ?_ (pC ?_ (pC ?_ (pC ?_ (pC ?_ (pC ?_ (pC ?_ AllStep.nil'))))))))))))))))
  ·intro K rest fr hv htk k
   show AWops _ x _ _ K ⟨24, (upd 24 fr 0 (D.one (C.ref 0 0))), _⟩
   refine s_move (d := (D.one (C.ref 0 0))) rfl k
  ·intro K rest fr hv htk k
   show AWops _ x _ _ K ⟨24, (upd 24 fr 4 (D.one (C.ref 0 0))), [(hv 0), (hv 1), (hv 2)]⟩
   refine s_nilCheck (d := (D.one (C.ref 0 0))) rfl (.inl ⟨_, _, rfl⟩) k
  ·intro K rest fr hv htk k
   show AWops _ x _ _ K ⟨24, (upd 24 fr 5 (D.one (C.ref 0 0))), [(hv 0), (hv 1), (hv 2)]⟩
   refine s_fieldRef F.fo_37_2 (by decide) rfl k
  ·intro K rest fr hv htk k
   show AWops _ x _ _ K ⟨24, (upd 24 fr 6 (D.one (C.ref 0 2))), [(some (AObj.cells false [(C.mp 2), (C.p true (.v (.int .i64 p0.room))), (C.p true (.v (.int .i64 p0.used))), (C.p true (.v (.pointer none))), (C.p true (.v (.bool p0.dead)))])), (hv 1), (hv 2)]⟩
   refine s_load1 (c' := (C.p true (.v (.int .i64 p0.used)))) F.ag_3 rfl rfl k
  ·intro K rest fr hv htk k
   show AWops _ x _ _ K ⟨24, (upd 24 fr 0 (D.one (C.ref 0 0))), _⟩
   refine s_move (d := (D.one (C.ref 0 0))) rfl k
  ·intro K rest fr hv htk k
   show AWops _ x _ _ K ⟨24, (upd 24 fr 8 (D.one (C.ref 0 0))), [(hv 0), (hv 1), (hv 2)]⟩
   refine s_nilCheck (d := (D.one (C.ref 0 0))) rfl (.inl ⟨_, _, rfl⟩) k
  ·intro K rest fr hv htk k
   show AWops _ x _ _ K ⟨24, (upd 24 fr 9 (D.one (C.ref 0 0))), [(hv 0), (hv 1), (hv 2)]⟩
   refine s_fieldRef F.fo_37_0 (by decide) rfl k
  ·intro K rest fr hv htk k
   show AWops _ x _ _ K ⟨24, (upd 24 fr 10 (D.one (C.ref 0 0))), [(some (AObj.cells false [(C.mp 2), (C.p true (.v (.int .i64 p0.room))), (C.p true (.v (.int .i64 p0.used))), (C.p true (.v (.pointer none))), (C.p true (.v (.bool p0.dead)))])), (hv 1), (hv 2)]⟩
   refine s_load1 (c' := (C.mp 2)) F.ag_34 rfl rfl k
  ·intro K rest fr hv htk k
   show AWops _ x _ _ K ⟨24, (upd 24 fr 1 (sc (.string a1))), _⟩
   refine s_move (d := (sc (.string a1))) rfl k
  ·intro K rest fr hv htk k
   show AWops _ x _ _ K ⟨24, (upd 24 (upd 24 fr 12 (sc (.string a1))) 11 (D.one (C.mp 2))), [(hv 0), (hv 1), (some (AObj.map false (mapE true e_vdisk_file p0.files)))]⟩
   refine t_lookup (b := true) F.u_34 F.u_9 F.z_79 (z := ((⟨([] : List Int), 0⟩ : vdisk_file) : vdisk_file)) (zs := [(.slice none 0 0), (.int .i64 0)]) rfl (fun h => by cases h) (ac ZRel.n (ac (ZRel.v _ rfl) an)) rfl rfl rfl rfl k
  ·intro K rest fr hv htk k
   show AWops _ x _ _ K ⟨24, (upd 24 fr 13 (D.agg (c_vdisk_file ((mget a1 p0.files).getD ((⟨([] : List Int), 0⟩ : vdisk_file) : vdisk_file))))), [(hv 0), (hv 1), (hv 2)]⟩
   refine s_field1 (c := (C.p false (.sl (((mget a1 p0.files).getD ((⟨([] : List Int), 0⟩ : vdisk_file) : vdisk_file)).b).length ((((mget a1 p0.files).getD ((⟨([] : List Int), 0⟩ : vdisk_file) : vdisk_file)).b).flatMap e_u8)))) F.fo_79_0 rfl rfl k
  ·intro K rest fr hv htk k
   show AWops _ x _ _ K ⟨24, (upd 24 fr 14 (D.one (C.p false (.sl (((mget a1 p0.files).getD ((⟨([] : List Int), 0⟩ : vdisk_file) : vdisk_file)).b).length ((((mget a1 p0.files).getD ((⟨([] : List Int), 0⟩ : vdisk_file) : vdisk_file)).b).flatMap e_u8))))), [(hv 0), (hv 1), (hv 2)]⟩
   refine s_len (n := (((mget a1 p0.files).getD ((⟨([] : List Int), 0⟩ : vdisk_file) : vdisk_file)).b).length) F.u_22 rfl (.inr ⟨(fun _ _ h => by cases h), ⟨_, rfl⟩⟩) k
  ·intro K rest fr hv htk k
   show AWops _ x _ _ K ⟨24, (upd 24 (upd 24 fr 15 (sc (.int .i64 ((((mget a1 p0.files).getD ((⟨([] : List Int), 0⟩ : vdisk_file) : vdisk_file)).b).length : Int)))) 7 (sc (.int .i64 p0.used))), _⟩
   refine s_binI (v := (.int .i64 (IntKind.i64.wrap (p0.used - ((((mget a1 p0.files).getD ((⟨([] : List Int), 0⟩ : vdisk_file) : vdisk_file)).b).length : Int))))) rfl rfl rfl k
  ·intro K rest fr hv htk k
   show AWops _ x _ _ K ⟨24, (upd 24 fr 4 (D.one (C.ref 0 0))), [(hv 0), (hv 1), (hv 2)]⟩
   refine s_nilCheck (d := (D.one (C.ref 0 0))) rfl (.inl ⟨_, _, rfl⟩) k
  ·intro K rest fr hv htk k
   show AWops _ x _ _ K ⟨24, (upd 24 fr 17 (D.one (C.ref 0 0))), [(hv 0), (hv 1), (hv 2)]⟩
   refine s_fieldRef F.fo_37_2 (by decide) rfl k
  ·intro K rest fr hv htk k
   show AWops _ x _ _ K ⟨24, (upd 24 (upd 24 fr 18 (D.one (C.ref 0 2))) 16 (sc (.int .i64 (IntKind.i64.wrap (p0.used - ((((mget a1 p0.files).getD ((⟨([] : List Int), 0⟩ : vdisk_file) : vdisk_file)).b).length : Int)))))), [(some (AObj.cells false [(C.mp 2), (C.p true (.v (.int .i64 p0.room))), (C.p true (.v (.int .i64 p0.used))), (C.p true (.v (.pointer none))), (C.p true (.v (.bool p0.dead)))])), (hv 1), (hv 2)]⟩
   refine s_store (cs' := [(C.mp 2), (C.p true (.v (.int .i64 p0.room))), (C.p true (.v (.int .i64 (IntKind.i64.wrap (p0.used - ((((mget a1 p0.files).getD ((⟨([] : List Int), 0⟩ : vdisk_file) : vdisk_file)).b).length : Int)))))), (C.p true (.v (.pointer none))), (C.p true (.v (.bool p0.dead)))]) rfl rfl rfl (List.cons_ne_nil _ _) rfl F.sz_3 (nl rfl) rfl k
 ·refine AWops.weak (st' := ⟨24, (upd 24 (upd 24 topF 0 (D.one (C.ref 0 0))) 1 (sc (.string a1))), [(some (AObj.cells false [(C.mp 2), (C.p true (.v (.int .i64 p0.room))), (C.p true (.v (.int .i64 (IntKind.i64.wrap (p0.used - ((((mget a1 p0.files).getD ((⟨([] : List Int), 0⟩ : vdisk_file) : vdisk_file)).b).length : Int)))))), (C.p true (.v (.pointer none))), (C.p true (.v (.bool p0.dead)))])), none, (some (AObj.map false (mapE true e_vdisk_file p0.files)))]⟩) (Weak.gen (kk := 2) [0, 1, 2] [] hx rfl (by decide) (by decide) rfl rfl rfl (le_upd (le_upd (le_top _) (.t (.one (.ref rfl)))) (.t (.one .sc))) (ac (.cells (fun h => h) (ac (.mp rfl) (ac .sc (ac .sc (ac .sc (ac .sc an)))))) (ac (.none _) (ac .map an)))) (AWops.nil (AW.region ?_))
  refine s_move (d := (D.one (C.ref 0 0))) rfl ?_
  refine s_nilCheck (d := (D.one (C.ref 0 0))) rfl (.inl ⟨_, _, rfl⟩) ?_
  refine s_fieldRef F.fo_37_0 (by decide) rfl ?_
  refine s_load1 (c' := (C.mp 2)) F.ag_34 rfl rfl ?_
  refine s_move (d := (sc (.string a1))) rfl ?_
  refine t_mapDel F.u_34 F.u_9 rfl rfl rfl rfl rfl (AWops.nil ?_)
  obtain rfl := Option.some.inj h
  exact ⟨_, rfl, (Weak.gen (kk := 2) [0, 1, 2] [] rfl rfl (by decide) (by decide) rfl rfl rfl (le_upd (le_top _) (DLe.tup an)) (ac (.cells (fun h => h) (ac (.mp rfl) (ac .sc (ac .sc (ac .sc (ac .sc an)))))) (ac (.none _) (ac .map an))))⟩
def vdisk_Disk_Remove_31.f (k : Nat) (p0 : vdisk_Disk) (a1 : ByteArray) : Option (Int × vdisk_Disk) := (vdisk_Disk_change_55.f k p0 true a1 false 0).bind fun r1 => if (r1.1 == 0) = true then ((vdisk_Disk_cut_59.f k r1.2 a1).bind fun r3 => some (r1.1, r3)) else (some (r1.1, r1.2))
theorem vdisk_Disk_Remove_31.meets (k : Nat) (p0 : vdisk_Disk) (a1 : ByteArray) (r : Int × vdisk_Disk) (h : vdisk_Disk_Remove_31.f k p0 a1 = some r) : Meets Try.prog 31 [(D.one (C.ref 0 0)), (sc (.string a1))] [(some (AObj.cells false [(C.mp 1), (C.p true (.v (.int .i64 p0.room))), (C.p true (.v (.int .i64 p0.used))), (C.p true (.v (.pointer none))), (C.p true (.v (.bool p0.dead)))])), (some (AObj.map false (mapE true e_vdisk_file p0.files)))] (sc (.int .i64 r.1)) [(some (AObj.cells false [(C.mp 2), (C.p true (.v (.int .i64 r.2.room))), (C.p true (.v (.int .i64 r.2.used))), (C.p true (.v (.pointer none))), (C.p true (.v (.bool r.2.dead)))])), none, (some (AObj.map false (mapE true e_vdisk_file r.2.files)))] := by
 unfold vdisk_Disk_Remove_31.f at h
 refine Meets.of_body (n := 15) Try.func31 rfl rfl (nl rfl) fun x hx => ?_
 replace hx : x.k = 2 := hx
 show AW _ x _ _ ⟨15, fr0 [(D.one (C.ref 0 0)), (sc (.string a1))], [(some (AObj.cells false [(C.mp 1), (C.p true (.v (.int .i64 p0.room))), (C.p true (.v (.int .i64 p0.used))), (C.p true (.v (.pointer none))), (C.p true (.v (.bool p0.dead)))])), (some (AObj.map false (mapE true e_vdisk_file p0.files)))]⟩
 refine AW.weak (st' := ⟨15, (upd 15 (upd 15 topF 0 (D.one (C.ref 0 0))) 1 (sc (.string a1))), [(some (AObj.cells false [(C.mp 2), (C.p true (.v (.int .i64 p0.room))), (C.p true (.v (.int .i64 p0.used))), (C.p true (.v (.pointer none))), (C.p true (.v (.bool p0.dead)))])), none, (some (AObj.map false (mapE true e_vdisk_file p0.files)))]⟩) (Weak.genL (kk := 2) [0, 1, 1] [] hx rfl (by decide) rfl rfl rfl rfl (le_upd (le_upd (le_top _) (.t (.one (.ref rfl)))) (.t (.one .sc))) (ac (.cells (fun h => h) (ac (.mp rfl) (ac .sc (ac .sc (ac .sc (ac .sc an)))))) (ac (.none _) (ac .map an)))) (AW.seq (AW.region ?_))
 refine s_assign (d := (sc (.int .i64 0))) rfl (AWops.nil (AW.seq (AW.region ?_)))
 refine s_move (d := (D.one (C.ref 0 0))) rfl ?_
 refine s_move (d := (sc (.string a1))) rfl ?_
 obtain ⟨r1, er1, h⟩ := bnd h
 refine s_call2 (ρ := [0, 2]) (br := false) (H2 := [(some (AObj.cells false [(C.mp 3), (C.p true (.v (.int .i64 r1.2.room))), (C.p true (.v (.int .i64 r1.2.used))), (C.p true (.v (.pointer none))), (C.p true (.v (.bool r1.2.dead)))])), none, none, (some (AObj.map false (mapE true e_vdisk_file r1.2.files)))]) (d := (sc (.int .i64 r1.1))) F.ca_55 rfl rfl (ac (.one (.ref rfl)) (ac (.one .sc) (ac (.one .sc) (ac (.one .sc) (ac (.one .sc) an))))) (ac (.cells (ac (.mp rfl) (ac .sc (ac .sc (ac .sc (ac .sc an)))))) (ac .map an)) (by decide) rfl (vdisk_Disk_change_55.meets _ p0 true a1 false 0 r1 er1) (.inl rfl) rfl rfl ?_
 refine s_assign (d := (sc (.int .i64 r1.1))) rfl (AWops.nil (AW.seq (AW.seq (AW.region ?_))))
 refine s_move (d := (sc (.int .i64 r1.1))) rfl ?_
 refine s_binI (v := (.bool (r1.1 == 0))) rfl rfl rfl (AWops.nil ?_)
 rcases itH h with ⟨c2, h⟩ | ⟨c2, h⟩
 ·refine AW.cond_yes rfl c2 (AW.region ?_)
  refine s_move (d := (D.one (C.ref 0 0))) rfl ?_
  refine s_move (d := (sc (.string a1))) rfl ?_
  obtain ⟨r3, er3, h⟩ := bnd h
  refine s_call2 (ρ := [0, 3]) (br := false) (H2 := [(some (AObj.cells false [(C.mp 4), (C.p true (.v (.int .i64 r3.room))), (C.p true (.v (.int .i64 r3.used))), (C.p true (.v (.pointer none))), (C.p true (.v (.bool r3.dead)))])), none, none, none, (some (AObj.map false (mapE true e_vdisk_file r3.files)))]) (d := (D.tup [])) F.ca_59 rfl rfl (ac (.one (.ref rfl)) (ac (.one .sc) an)) (ac (.cells (ac (.mp rfl) (ac .sc (ac .sc (ac .sc (ac .sc an)))))) (ac .map an)) (by decide) rfl (vdisk_Disk_cut_59.meets _ r1.2 a1 r3 er3) (.inl rfl) rfl rfl (AWops.nil (AW.seq (AW.region ?_)))
  refine s_move (d := (sc (.int .i64 r1.1))) rfl ?_
  refine s_assign (d := (sc (.int .i64 r1.1))) rfl (AWops.nil (AW.ret ?_))
  obtain rfl := Option.some.inj h
  exact ⟨_, rfl, (Weak.gen (kk := 2) [0, 1, 4] [] rfl rfl (by decide) (by decide) rfl rfl rfl (le_upd (le_top _) (.t (.one .sc))) (ac (.cells (fun h => h) (ac (.mp rfl) (ac .sc (ac .sc (ac .sc (ac .sc an)))))) (ac (.none _) (ac .map an))))⟩
 ·refine AW.cond_no rfl c2 (AW.skip (AW.seq (AW.region ?_)))
  refine s_move (d := (sc (.int .i64 r1.1))) rfl ?_
  refine s_assign (d := (sc (.int .i64 r1.1))) rfl (AWops.nil (AW.ret ?_))
  obtain rfl := Option.some.inj h
  exact ⟨_, rfl, (Weak.gen (kk := 2) [0, 1, 3] [] rfl rfl (by decide) (by decide) rfl rfl rfl (le_upd (le_top _) (.t (.one .sc))) (ac (.cells (fun h => h) (ac (.mp rfl) (ac .sc (ac .sc (ac .sc (ac .sc an)))))) (ac (.none _) (ac .map an))))⟩
def vdisk_Disk_Read_32.f (k : Nat) (p0 : vdisk_Disk) (a1 : ByteArray) : Option ((List Int) × Int × vdisk_Disk) := (vdisk_Disk_none_34.f k p0).bind fun r1 => if r1.1 = true then (some (([] : List Int), 2, r1.2)) else (if r1.2.dead = true then (some (([] : List Int), 70, r1.2)) else (if ((mget a1 r1.2.files).isSome) = true then ((slices_Clone_byte_byte.f k (((mget a1 r1.2.files).getD ((⟨([] : List Int), 0⟩ : vdisk_file) : vdisk_file)).b)).bind fun r5 => some (r5, 0, r1.2)) else (some (([] : List Int), 33, r1.2))))
theorem vdisk_Disk_Read_32.meets (k : Nat) (p0 : vdisk_Disk) (a1 : ByteArray) (r : (List Int) × Int × vdisk_Disk) (h : vdisk_Disk_Read_32.f k p0 a1 = some r) : Meets Try.prog 32 [(D.one (C.ref 0 0)), (sc (.string a1))] [(some (AObj.cells false [(C.mp 1), (C.p true (.v (.int .i64 p0.room))), (C.p true (.v (.int .i64 p0.used))), (C.p true (.v (.pointer none))), (C.p true (.v (.bool p0.dead)))])), (some (AObj.map false (mapE true e_vdisk_file p0.files)))] (D.tup [(D.one (C.p false (.sl r.1.length (r.1.flatMap e_u8)))), (sc (.int .i64 r.2.1))]) [(some (AObj.cells false [(C.mp 2), (C.p true (.v (.int .i64 r.2.2.room))), (C.p true (.v (.int .i64 r.2.2.used))), (C.p true (.v (.pointer none))), (C.p true (.v (.bool r.2.2.dead)))])), none, (some (AObj.map false (mapE true e_vdisk_file r.2.2.files)))] := by
 unfold vdisk_Disk_Read_32.f at h
 refine Meets.of_body (n := 30) Try.func32 rfl rfl (nl rfl) fun x hx => ?_
 replace hx : x.k = 2 := hx
 show AW _ x _ _ ⟨30, fr0 [(D.one (C.ref 0 0)), (sc (.string a1))], [(some (AObj.cells false [(C.mp 1), (C.p true (.v (.int .i64 p0.room))), (C.p true (.v (.int .i64 p0.used))), (C.p true (.v (.pointer none))), (C.p true (.v (.bool p0.dead)))])), (some (AObj.map false (mapE true e_vdisk_file p0.files)))]⟩
 refine AW.weak (st' := ⟨30, (upd 30 (upd 30 topF 0 (D.one (C.ref 0 0))) 1 (sc (.string a1))), [(some (AObj.cells false [(C.mp 2), (C.p true (.v (.int .i64 p0.room))), (C.p true (.v (.int .i64 p0.used))), (C.p true (.v (.pointer none))), (C.p true (.v (.bool p0.dead)))])), none, (some (AObj.map false (mapE true e_vdisk_file p0.files)))]⟩) (Weak.genL (kk := 2) [0, 1, 1] [] hx rfl (by decide) rfl rfl rfl rfl (le_upd (le_upd (le_top _) (.t (.one (.ref rfl)))) (.t (.one .sc))) (ac (.cells (fun h => h) (ac (.mp rfl) (ac .sc (ac .sc (ac .sc (ac .sc an)))))) (ac (.none _) (ac .map an)))) (AW.seq (AW.region ?_))
 refine s_assign (d := (sc (.slice none 0 0))) rfl ?_
 refine s_assign (d := (sc (.int .i64 0))) rfl (AWops.nil (AW.seq (AW.block (AW.seq (AW.region ?_)))))
 refine s_move (d := (D.one (C.ref 0 0))) rfl ?_
 obtain ⟨r1, er1, h⟩ := bnd h
 refine s_call2 (ρ := [0, 2]) (br := false) (H2 := [(some (AObj.cells false [(C.mp 3), (C.p true (.v (.int .i64 r1.2.room))), (C.p true (.v (.int .i64 r1.2.used))), (C.p true (.v (.pointer none))), (C.p true (.v (.bool r1.2.dead)))])), none, none, (some (AObj.map false (mapE true e_vdisk_file r1.2.files)))]) (d := (sc (.bool r1.1))) F.ca_34 rfl rfl (ac (.one (.ref rfl)) an) (ac (.cells (ac (.mp rfl) (ac .sc (ac .sc (ac .sc (ac .sc an)))))) (ac .map an)) (by decide) rfl (vdisk_Disk_none_34.meets _ p0 r1 er1) (.inl rfl) rfl rfl ?_
 refine s_assign (d := (sc (.bool r1.1))) rfl (AWops.nil ?_)
 rcases itH h with ⟨c2, h⟩ | ⟨c2, h⟩
 ·refine AW.cond_yes rfl c2 (AW.seq (AW.region ?_))
  refine s_assign (d := (sc (.slice none 0 0))) rfl ?_
  refine s_assign (d := (sc (.int .i64 2))) rfl (AWops.nil (AW.ret ?_))
  obtain rfl := Option.some.inj h
  exact ⟨_, rfl, (Weak.gen (kk := 2) [0, 1, 3] [] rfl rfl (by decide) (by decide) rfl rfl rfl (le_upd (le_top _) (DLe.tup (ac (TLe.one .nil) (ac (TLe.one .sc) an)))) (ac (.cells (fun h => h) (ac (.mp rfl) (ac .sc (ac .sc (ac .sc (ac .sc an)))))) (ac (.none _) (ac .map an))))⟩
 ·refine AW.cond_no rfl c2 (AW.seq (AW.region ?_))
  refine s_move (d := (D.one (C.ref 0 0))) rfl ?_
  refine s_nilCheck (d := (D.one (C.ref 0 0))) rfl (.inl ⟨_, _, rfl⟩) ?_
  refine s_fieldRef F.fo_37_4 (by decide) rfl ?_
  refine s_load1 (c' := (C.p true (.v (.bool r1.2.dead)))) F.ag_4 rfl rfl ?_
  refine s_assign (d := (sc (.bool r1.2.dead))) rfl (AWops.nil ?_)
  rcases itH h with ⟨c3, h⟩ | ⟨c3, h⟩
  ·refine AW.cond_yes rfl c3 (AW.seq (AW.region ?_))
   refine s_assign (d := (sc (.slice none 0 0))) rfl ?_
   refine s_assign (d := (sc (.int .i64 70))) rfl (AWops.nil (AW.ret ?_))
   obtain rfl := Option.some.inj h
   exact ⟨_, rfl, (Weak.gen (kk := 2) [0, 1, 3] [] rfl rfl (by decide) (by decide) rfl rfl rfl (le_upd (le_top _) (DLe.tup (ac (TLe.one .nil) (ac (TLe.one .sc) an)))) (ac (.cells (fun h => h) (ac (.mp rfl) (ac .sc (ac .sc (ac .sc (ac .sc an)))))) (ac (.none _) (ac .map an))))⟩
  ·refine AW.cond_no rfl c3 (AW.skip (AW.seq (AW.region ?_)))
   refine s_move (d := (D.one (C.ref 0 0))) rfl ?_
   refine s_nilCheck (d := (D.one (C.ref 0 0))) rfl (.inl ⟨_, _, rfl⟩) ?_
   refine s_fieldRef F.fo_37_0 (by decide) rfl ?_
   refine s_load1 (c' := (C.mp 3)) F.ag_34 rfl rfl ?_
   refine s_move (d := (sc (.string a1))) rfl ?_
   refine t_lookupOk (b := true) F.u_34 F.u_9 F.z_79 (z := ((⟨([] : List Int), 0⟩ : vdisk_file) : vdisk_file)) (zs := [(.slice none 0 0), (.int .i64 0)]) rfl (fun h => by cases h) (ac ZRel.n (ac (ZRel.v _ rfl) an)) rfl rfl rfl rfl ?_
   refine s_move (d := (D.tup [(D.agg (c_vdisk_file ((mget a1 r1.2.files).getD ((⟨([] : List Int), 0⟩ : vdisk_file) : vdisk_file)))), (sc (.bool ((mget a1 r1.2.files).isSome)))])) rfl ?_
   refine s_extract (d := (D.agg (c_vdisk_file ((mget a1 r1.2.files).getD ((⟨([] : List Int), 0⟩ : vdisk_file) : vdisk_file))))) rfl rfl ?_
   refine s_extract (d := (sc (.bool ((mget a1 r1.2.files).isSome)))) rfl rfl ?_
   refine s_alloc (cs := [(C.p true (.v (.slice none 0 0))), (C.p true (.v (.int .i64 0)))]) F.z_79 rfl rfl ?_
   refine s_store (cs' := (c_vdisk_file ((mget a1 r1.2.files).getD ((⟨([] : List Int), 0⟩ : vdisk_file) : vdisk_file)))) rfl rfl rfl (List.cons_ne_nil _ _) rfl F.sz_79 (nl rfl) rfl ?_
   refine s_assign (d := (sc (.bool ((mget a1 r1.2.files).isSome)))) rfl (AWops.nil (AW.seq (AW.seq (AW.region ?_))))
   refine s_move (d := (sc (.bool ((mget a1 r1.2.files).isSome)))) rfl ?_
   refine s_not rfl (AWops.nil ?_)
   rcases itH h with ⟨c4, h⟩ | ⟨c4, h⟩
   ·refine AW.cond_no rfl (by rw [c4] <;> rfl) (AW.skip (AW.seq (AW.region ?_)))
    refine s_fieldRef F.fo_79_0 (by decide) rfl ?_
    refine s_load1 (c' := (C.p false (.sl (((mget a1 r1.2.files).getD ((⟨([] : List Int), 0⟩ : vdisk_file) : vdisk_file)).b).length ((((mget a1 r1.2.files).getD ((⟨([] : List Int), 0⟩ : vdisk_file) : vdisk_file)).b).flatMap e_u8)))) F.ag_22 rfl rfl ?_
    obtain ⟨r5, er5, h⟩ := bnd h
    refine s_call2 (ρ := []) (br := false) (H2 := [(some (AObj.cells false [(C.mp 3), (C.p true (.v (.int .i64 r1.2.room))), (C.p true (.v (.int .i64 r1.2.used))), (C.p true (.v (.pointer none))), (C.p true (.v (.bool r1.2.dead)))])), none, none, (some (AObj.map false (mapE true e_vdisk_file r1.2.files))), (some (AObj.cells true (c_vdisk_file ((mget a1 r1.2.files).getD ((⟨([] : List Int), 0⟩ : vdisk_file) : vdisk_file))))), (some (AObj.cells true (rowC e_u8 r5)))]) (d := (D.one (C.own 5 0 r5.length 1))) F.ca_28 rfl rfl (ac (.one .imm) an) an (by decide) rfl (slices_Clone_byte_byte.meets _ (((mget a1 r1.2.files).getD ((⟨([] : List Int), 0⟩ : vdisk_file) : vdisk_file)).b) r5 er5) (.inl rfl) (by first | rfl | (simp only [mergeH2, orF, Bool.false_or, Bool.or_false, Bool.true_or, Bool.or_true, mergeAt, mergeObj, renO, ren_row, List.drop_succ_cons, List.drop_zero, List.map_cons, List.map_nil, Option.map_some, Option.map_none, List.length_cons, List.length_nil, Nat.zero_add, List.append_assoc, List.cons_append, List.nil_append]; done) | (simp only [mergeH2, orF, Bool.false_or, Bool.or_false, Bool.true_or, Bool.or_true, mergeAt, mergeObj, renO, ren_row, List.drop_succ_cons, List.drop_zero, List.map_cons, List.map_nil, Option.map_some, Option.map_none, List.length_cons, List.length_nil, Nat.zero_add, List.append_assoc, List.cons_append, List.nil_append]; rfl)) rfl ?_
    refine s_assign (d := (D.one (C.own 5 0 r5.length 1))) rfl ?_
    refine s_assign (d := (sc (.int .i64 0))) rfl (AWops.nil (AW.ret ?_))
    obtain rfl := Option.some.inj h
    exact ⟨_, rfl, (Weak.gen (kk := 2) [0, 1, 3] [5] rfl rfl (by decide) (by decide) rfl rfl rfl (le_upd (le_top _) (DLe.tup (ac (TLe.one (CLe.frz e_u8_len rfl rfl rfl)) (ac (TLe.one .sc) an)))) (ac (.cells (fun h => h) (ac (.mp rfl) (ac .sc (ac .sc (ac .sc (ac .sc an)))))) (ac (.none _) (ac .map an))))⟩
   ·refine AW.cond_yes rfl (by rw [c4] <;> rfl) (AW.seq (AW.region ?_))
    refine s_assign (d := (sc (.slice none 0 0))) rfl ?_
    refine s_assign (d := (sc (.int .i64 33))) rfl (AWops.nil (AW.ret ?_))
    obtain rfl := Option.some.inj h
    exact ⟨_, rfl, (Weak.gen (kk := 2) [0, 1, 3] [] rfl rfl (by decide) (by decide) rfl rfl rfl (le_upd (le_top _) (DLe.tup (ac (TLe.one .nil) (ac (TLe.one .sc) an)))) (ac (.cells (fun h => h) (ac (.mp rfl) (ac .sc (ac .sc (ac .sc (ac .sc an)))))) (ac (.none _) (ac .map an))))⟩
def vdisk_Disk_set.f (k : Nat) (p0 : vdisk_Disk) (a1 : ByteArray) (a2 : vdisk_file) : Option vdisk_Disk := some (⟨mset a1 a2 p0.files, p0.room, IntKind.i64.wrap (p0.used + (IntKind.i64.wrap ((a2.b.length : Int) - ((((mget a1 p0.files).getD ((⟨([] : List Int), 0⟩ : vdisk_file) : vdisk_file)).b).length : Int)))), (), p0.dead⟩ : vdisk_Disk)
theorem vdisk_Disk_set.meets (k : Nat) (p0 : vdisk_Disk) (a1 : ByteArray) (a2 : vdisk_file) (r : vdisk_Disk) (h : vdisk_Disk_set.f k p0 a1 a2 = some r) : Meets Try.prog 36 [(D.one (C.ref 0 0)), (sc (.string a1)), (D.agg (c_vdisk_file a2))] [(some (AObj.cells false [(C.mp 1), (C.p true (.v (.int .i64 p0.room))), (C.p true (.v (.int .i64 p0.used))), (C.p true (.v (.pointer none))), (C.p true (.v (.bool p0.dead)))])), (some (AObj.map false (mapE true e_vdisk_file p0.files)))] (D.tup []) [(some (AObj.cells false [(C.mp 2), (C.p true (.v (.int .i64 r.room))), (C.p true (.v (.int .i64 r.used))), (C.p true (.v (.pointer none))), (C.p true (.v (.bool r.dead)))])), none, (some (AObj.map false (mapE true e_vdisk_file r.files)))] := by
 unfold vdisk_Disk_set.f at h
 refine Meets.of_body (n := 31) Try.func36 rfl rfl (nl rfl) fun x hx => ?_
 replace hx : x.k = 2 := hx
 show AW _ x _ _ ⟨31, fr0 [(D.one (C.ref 0 0)), (sc (.string a1)), (D.agg (c_vdisk_file a2))], [(some (AObj.cells false [(C.mp 1), (C.p true (.v (.int .i64 p0.room))), (C.p true (.v (.int .i64 p0.used))), (C.p true (.v (.pointer none))), (C.p true (.v (.bool p0.dead)))])), (some (AObj.map false (mapE true e_vdisk_file p0.files)))]⟩
 refine AW.weak (st' := ⟨31, (upd 31 (upd 31 (upd 31 topF 0 (D.one (C.ref 0 0))) 1 (sc (.string a1))) 2 (D.agg (c_vdisk_file a2))), [(some (AObj.cells false [(C.mp 2), (C.p true (.v (.int .i64 p0.room))), (C.p true (.v (.int .i64 p0.used))), (C.p true (.v (.pointer none))), (C.p true (.v (.bool p0.dead)))])), none, (some (AObj.map false (mapE true e_vdisk_file p0.files)))]⟩) (Weak.genL (kk := 2) [0, 1, 1] [] hx rfl (by decide) rfl rfl rfl rfl (le_upd (le_upd (le_upd (le_top _) (.t (.one (.ref rfl)))) (.t (.one .sc))) (.t (.agg (ac .same (ac .sc an))))) (ac (.cells (fun h => h) (ac (.mp rfl) (ac .sc (ac .sc (ac .sc (ac .sc an)))))) (ac (.none _) (ac .map an)))) (AW.seq (AW.region ?_))
 refine s_box (cs := (c_vdisk_file a2)) rfl (List.cons_ne_nil _ _) rfl (AWops.nil (AW.seq ?_))
 refine AW.weak (st' := ⟨31, (upd 31 (upd 31 (upd 31 topF 0 (D.one (C.ref 0 0))) 1 (sc (.string a1))) 5 (D.one (C.ref 2 0))), [(some (AObj.cells false [(C.mp 3), (C.p true (.v (.int .i64 p0.room))), (C.p true (.v (.int .i64 p0.used))), (C.p true (.v (.pointer none))), (C.p true (.v (.bool p0.dead)))])), none, (some (AObj.cells true (c_vdisk_file a2))), (some (AObj.map false (mapE true e_vdisk_file p0.files)))]⟩) (Weak.gen (kk := 2) [0, 1, 3, 2] [] hx rfl (by decide) (by decide) rfl rfl rfl (le_upd (le_upd (le_upd (le_top _) (.t (.one (.ref rfl)))) (.t (.one .sc))) (.t (.one (.ref rfl)))) (ac (.cells (fun h => h) (ac (.mp rfl) (ac .sc (ac .sc (ac .sc (ac .sc an)))))) (ac (.none _) (ac (.cells (fun _ => rfl) (ac .same (ac .sc an))) (ac .map an))))) ?_
 refine AW.draw (n := 31) (L := 4) [(0, ⟨some 6, (D.one (C.ref 0 0)), [(0, (D.one (C.ref 0 0)))], [], [], none⟩), (1, ⟨some 7, (D.one (C.ref 0 0)), [(6, (D.one (C.ref 0 0)))], [], [], none⟩), (2, ⟨some 8, (D.one (C.ref 0 2)), [(7, (D.one (C.ref 0 0)))], [], [], none⟩), (3, ⟨some 9, (sc (.int .i64 p0.used)), [(8, (D.one (C.ref 0 2)))], [(0, (some (AObj.cells false [(C.mp 3), (C.p true (.v (.int .i64 p0.room))), (C.p true (.v (.int .i64 p0.used))), (C.p true (.v (.pointer none))), (C.p true (.v (.bool p0.dead)))])))], [], none⟩), (4, ⟨some 10, (D.one (C.ref 2 0)), [(5, (D.one (C.ref 2 0)))], [], [], none⟩), (5, ⟨some 11, (D.one (C.p false (.sl a2.b.length (a2.b.flatMap e_u8)))), [(10, (D.one (C.ref 2 0)))], [(2, (some (AObj.cells true (c_vdisk_file a2))))], [], none⟩), (6, ⟨some 12, (sc (.int .i64 (a2.b.length : Int))), [(11, (D.one (C.p false (.sl a2.b.length (a2.b.flatMap e_u8)))))], [], [], none⟩), (7, ⟨some 13, (D.one (C.ref 0 0)), [(0, (D.one (C.ref 0 0)))], [], [], none⟩), (8, ⟨some 14, (D.one (C.ref 0 0)), [(13, (D.one (C.ref 0 0)))], [], [], none⟩), (9, ⟨some 15, (D.one (C.ref 0 0)), [(14, (D.one (C.ref 0 0)))], [], [], none⟩), (10, ⟨some 16, (D.one (C.mp 3)), [(15, (D.one (C.ref 0 0)))], [(0, (some (AObj.cells false [(C.mp 3), (C.p true (.v (.int .i64 p0.room))), (C.p true (.v (.int .i64 p0.used))), (C.p true (.v (.pointer none))), (C.p true (.v (.bool p0.dead)))])))], [], none⟩), (11, ⟨some 17, (sc (.string a1)), [(1, (sc (.string a1)))], [], [], none⟩), (12, ⟨some 18, (D.agg (c_vdisk_file ((mget a1 p0.files).getD ((⟨([] : List Int), 0⟩ : vdisk_file) : vdisk_file)))), [(16, (D.one (C.mp 3))), (17, (sc (.string a1)))], [(3, (some (AObj.map false (mapE true e_vdisk_file p0.files))))], [], none⟩), (13, ⟨some 19, (D.one (C.p false (.sl (((mget a1 p0.files).getD ((⟨([] : List Int), 0⟩ : vdisk_file) : vdisk_file)).b).length ((((mget a1 p0.files).getD ((⟨([] : List Int), 0⟩ : vdisk_file) : vdisk_file)).b).flatMap e_u8)))), [(18, (D.agg (c_vdisk_file ((mget a1 p0.files).getD ((⟨([] : List Int), 0⟩ : vdisk_file) : vdisk_file)))))], [], [], none⟩), (14, ⟨some 20, (sc (.int .i64 ((((mget a1 p0.files).getD ((⟨([] : List Int), 0⟩ : vdisk_file) : vdisk_file)).b).length : Int))), [(19, (D.one (C.p false (.sl (((mget a1 p0.files).getD ((⟨([] : List Int), 0⟩ : vdisk_file) : vdisk_file)).b).length ((((mget a1 p0.files).getD ((⟨([] : List Int), 0⟩ : vdisk_file) : vdisk_file)).b).flatMap e_u8)))))], [], [], none⟩), (15, ⟨some 21, (sc (.int .i64 (IntKind.i64.wrap ((a2.b.length : Int) - ((((mget a1 p0.files).getD ((⟨([] : List Int), 0⟩ : vdisk_file) : vdisk_file)).b).length : Int))))), [(12, (sc (.int .i64 (a2.b.length : Int)))), (20, (sc (.int .i64 ((((mget a1 p0.files).getD ((⟨([] : List Int), 0⟩ : vdisk_file) : vdisk_file)).b).length : Int))))], [], [], none⟩), (16, ⟨some 22, (sc (.int .i64 (IntKind.i64.wrap (p0.used + (IntKind.i64.wrap ((a2.b.length : Int) - ((((mget a1 p0.files).getD ((⟨([] : List Int), 0⟩ : vdisk_file) : vdisk_file)).b).length : Int))))))), [(9, (sc (.int .i64 p0.used))), (21, (sc (.int .i64 (IntKind.i64.wrap ((a2.b.length : Int) - ((((mget a1 p0.files).getD ((⟨([] : List Int), 0⟩ : vdisk_file) : vdisk_file)).b).length : Int))))))], [], [], none⟩), (17, ⟨some 23, (D.one (C.ref 0 0)), [(6, (D.one (C.ref 0 0)))], [], [], none⟩), (18, ⟨some 24, (D.one (C.ref 0 2)), [(23, (D.one (C.ref 0 0)))], [], [], none⟩), (19, ⟨none, (D.one C.top), [(22, (sc (.int .i64 (IntKind.i64.wrap (p0.used + (IntKind.i64.wrap ((a2.b.length : Int) - ((((mget a1 p0.files).getD ((⟨([] : List Int), 0⟩ : vdisk_file) : vdisk_file)).b).length : Int)))))))), (24, (D.one (C.ref 0 2)))], [(0, (some (AObj.cells false [(C.mp 3), (C.p true (.v (.int .i64 p0.room))), (C.p true (.v (.int .i64 p0.used))), (C.p true (.v (.pointer none))), (C.p true (.v (.bool p0.dead)))])))], [(0, (some (AObj.cells false [(C.mp 3), (C.p true (.v (.int .i64 p0.room))), (C.p true (.v (.int .i64 (IntKind.i64.wrap (p0.used + (IntKind.i64.wrap ((a2.b.length : Int) - ((((mget a1 p0.files).getD ((⟨([] : List Int), 0⟩ : vdisk_file) : vdisk_file)).b).length : Int)))))))), (C.p true (.v (.pointer none))), (C.p true (.v (.bool p0.dead)))])))], none⟩)] [[], [0], [0, 1], [0, 1, 2], [], [4], [4, 5], [], [7], [7, 8], [7, 8, 9], [], [7, 8, 9, 10, 11], [7, 8, 9, 10, 11, 12], [7, 8, 9, 10, 11, 12, 13], [4, 5, 6, 7, 8, 9, 10, 11, 12, 13, 14], [0, 1, 2, 3, 4, 5, 6, 7, 8, 9, 10, 11, 12, 13, 14, 15], [0, 1, 2, 3, 4, 5, 6, 7, 8, 9, 10, 11, 12, 13, 14, 15, 16], [0, 1, 2, 3, 4, 5, 6, 7, 8, 9, 10, 11, 12, 13, 14, 15, 16, 17], [0, 1, 2, 3, 4, 5, 6, 7, 8, 9, 10, 11, 12, 13, 14, 15, 16, 17, 18]] (nl rfl) [0, 1, 2, 3, 0, 1, 2, 0, 1, 2, 3, 0, 4, 5, 6, 7, 8, 9, 10, 11] rfl (TK := []) rfl AllK.nil' (fC ⟨(sC rfl AllS.nil'), AllH.nil'⟩ (fC ⟨(sC rfl AllS.nil'), AllH.nil'⟩ (fC ⟨(sC rfl AllS.nil'), AllH.nil'⟩ (fC ⟨(sC rfl AllS.nil'), (hC rfl AllH.nil')⟩ (fC ⟨(sC rfl AllS.nil'), AllH.nil'⟩ (fC ⟨(sC rfl AllS.nil'), (hC rfl AllH.nil')⟩ (fC ⟨(sC rfl AllS.nil'), AllH.nil'⟩ (fC ⟨(sC rfl AllS.nil'), AllH.nil'⟩ (fC ⟨(sC rfl AllS.nil'), AllH.nil'⟩ (fC ⟨(sC rfl AllS.nil'), AllH.nil'⟩ (fC ⟨(sC rfl AllS.nil'), (hC rfl AllH.nil')⟩ (fC ⟨(sC rfl AllS.nil'), AllH.nil'⟩ (fC ⟨(sC rfl (sC rfl AllS.nil')), (hC rfl AllH.nil')⟩ (fC ⟨(sC rfl AllS.nil'), AllH.nil'⟩ (fC ⟨(sC rfl AllS.nil'), AllH.nil'⟩ (fC ⟨(sC rfl (sC rfl AllS.nil')), AllH.nil'⟩ (fC ⟨(sC rfl (sC rfl AllS.nil')), AllH.nil'⟩ (fC ⟨(sC rfl AllS.nil'), AllH.nil'⟩ (fC ⟨(sC rfl AllS.nil'), AllH.nil'⟩ (fC ⟨(sC rfl (sC rfl AllS.nil')), (hC rfl AllH.nil')⟩ AllF.nil')))))))))))))))))))) ?_ ?_
 ·refine (pC ?_ (pC ?_ (pC ?_ (pC ?_ (pC ?_ (pC ?_ (pC ?_ (pC ?_ (pC ?_ (pC ?_ (pC ?_ (pC ?_ (pC ?_ (pC ?_ (pC ?_ (pC ?_ (pC ?_ (pC ?_ (pC ?_ (pC ?_ AllStep.nil'))))))))))))))))))))
  ·intro K rest fr hv htk k
   show AWops _ x _ _ K ⟨31, (upd 31 fr 0 (D.one (C.ref 0 0))), _⟩
   refine s_move (d := (D.one (C.ref 0 0))) rfl k
  ·intro K rest fr hv htk k
   show AWops _ x _ _ K ⟨31, (upd 31 fr 6 (D.one (C.ref 0 0))), [(hv 0), (hv 1), (hv 2), (hv 3)]⟩
   refine s_nilCheck (d := (D.one (C.ref 0 0))) rfl (.inl ⟨_, _, rfl⟩) k
  ·intro K rest fr hv htk k
   show AWops _ x _ _ K ⟨31, (upd 31 fr 7 (D.one (C.ref 0 0))), [(hv 0), (hv 1), (hv 2), (hv 3)]⟩
   refine s_fieldRef F.fo_37_2 (by decide) rfl k
  ·intro K rest fr hv htk k
   show AWops _ x _ _ K ⟨31, (upd 31 fr 8 (D.one (C.ref 0 2))), [(some (AObj.cells false [(C.mp 3), (C.p true (.v (.int .i64 p0.room))), (C.p true (.v (.int .i64 p0.used))), (C.p true (.v (.pointer none))), (C.p true (.v (.bool p0.dead)))])), (hv 1), (hv 2), (hv 3)]⟩
   refine s_load1 (c' := (C.p true (.v (.int .i64 p0.used)))) F.ag_3 rfl rfl k
  ·intro K rest fr hv htk k
   show AWops _ x _ _ K ⟨31, (upd 31 fr 5 (D.one (C.ref 2 0))), [(hv 0), (hv 1), (hv 2), (hv 3)]⟩
   refine s_fieldRef F.fo_79_0 (by decide) rfl k
  ·intro K rest fr hv htk k
   show AWops _ x _ _ K ⟨31, (upd 31 fr 10 (D.one (C.ref 2 0))), [(hv 0), (hv 1), (some (AObj.cells true (c_vdisk_file a2))), (hv 3)]⟩
   refine s_load1 (c' := (C.p false (.sl a2.b.length (a2.b.flatMap e_u8)))) F.ag_22 rfl rfl k
  ·intro K rest fr hv htk k
   show AWops _ x _ _ K ⟨31, (upd 31 fr 11 (D.one (C.p false (.sl a2.b.length (a2.b.flatMap e_u8))))), [(hv 0), (hv 1), (hv 2), (hv 3)]⟩
   refine s_len (n := a2.b.length) F.u_22 rfl (.inr ⟨(fun _ _ h => by cases h), ⟨_, rfl⟩⟩) k
  ·intro K rest fr hv htk k
   show AWops _ x _ _ K ⟨31, (upd 31 fr 0 (D.one (C.ref 0 0))), _⟩
   refine s_move (d := (D.one (C.ref 0 0))) rfl k
  ·intro K rest fr hv htk k
   show AWops _ x _ _ K ⟨31, (upd 31 fr 13 (D.one (C.ref 0 0))), [(hv 0), (hv 1), (hv 2), (hv 3)]⟩
   refine s_nilCheck (d := (D.one (C.ref 0 0))) rfl (.inl ⟨_, _, rfl⟩) k
  ·intro K rest fr hv htk k
   show AWops _ x _ _ K ⟨31, (upd 31 fr 14 (D.one (C.ref 0 0))), [(hv 0), (hv 1), (hv 2), (hv 3)]⟩
   refine s_fieldRef F.fo_37_0 (by decide) rfl k
  ·intro K rest fr hv htk k
   show AWops _ x _ _ K ⟨31, (upd 31 fr 15 (D.one (C.ref 0 0))), [(some (AObj.cells false [(C.mp 3), (C.p true (.v (.int .i64 p0.room))), (C.p true (.v (.int .i64 p0.used))), (C.p true (.v (.pointer none))), (C.p true (.v (.bool p0.dead)))])), (hv 1), (hv 2), (hv 3)]⟩
   refine s_load1 (c' := (C.mp 3)) F.ag_34 rfl rfl k
  ·intro K rest fr hv htk k
   show AWops _ x _ _ K ⟨31, (upd 31 fr 1 (sc (.string a1))), _⟩
   refine s_move (d := (sc (.string a1))) rfl k
  ·intro K rest fr hv htk k
   show AWops _ x _ _ K ⟨31, (upd 31 (upd 31 fr 17 (sc (.string a1))) 16 (D.one (C.mp 3))), [(hv 0), (hv 1), (hv 2), (some (AObj.map false (mapE true e_vdisk_file p0.files)))]⟩
   refine t_lookup (b := true) F.u_34 F.u_9 F.z_79 (z := ((⟨([] : List Int), 0⟩ : vdisk_file) : vdisk_file)) (zs := [(.slice none 0 0), (.int .i64 0)]) rfl (fun h => by cases h) (ac ZRel.n (ac (ZRel.v _ rfl) an)) rfl rfl rfl rfl k
  ·intro K rest fr hv htk k
   show AWops _ x _ _ K ⟨31, (upd 31 fr 18 (D.agg (c_vdisk_file ((mget a1 p0.files).getD ((⟨([] : List Int), 0⟩ : vdisk_file) : vdisk_file))))), [(hv 0), (hv 1), (hv 2), (hv 3)]⟩
   refine s_field1 (c := (C.p false (.sl (((mget a1 p0.files).getD ((⟨([] : List Int), 0⟩ : vdisk_file) : vdisk_file)).b).length ((((mget a1 p0.files).getD ((⟨([] : List Int), 0⟩ : vdisk_file) : vdisk_file)).b).flatMap e_u8)))) F.fo_79_0 rfl rfl k
  ·intro K rest fr hv htk k
   show AWops _ x _ _ K ⟨31, (upd 31 fr 19 (D.one (C.p false (.sl (((mget a1 p0.files).getD ((⟨([] : List Int), 0⟩ : vdisk_file) : vdisk_file)).b).length ((((mget a1 p0.files).getD ((⟨([] : List Int), 0⟩ : vdisk_file) : vdisk_file)).b).flatMap e_u8))))), [(hv 0), (hv 1), (hv 2), (hv 3)]⟩
   refine s_len (n := (((mget a1 p0.files).getD ((⟨([] : List Int), 0⟩ : vdisk_file) : vdisk_file)).b).length) F.u_22 rfl (.inr ⟨(fun _ _ h => by cases h), ⟨_, rfl⟩⟩) k
  ·intro K rest fr hv htk k
   show AWops _ x _ _ K ⟨31, (upd 31 (upd 31 fr 20 (sc (.int .i64 ((((mget a1 p0.files).getD ((⟨([] : List Int), 0⟩ : vdisk_file) : vdisk_file)).b).length : Int)))) 12 (sc (.int .i64 (a2.b.length : Int)))), _⟩
   refine s_binI (v := (.int .i64 (IntKind.i64.wrap ((a2.b.length : Int) - ((((mget a1 p0.files).getD ((⟨([] : List Int), 0⟩ : vdisk_file) : vdisk_file)).b).length : Int))))) rfl rfl rfl k
  ·intro K rest fr hv htk k
   show AWops _ x _ _ K ⟨31, (upd 31 (upd 31 fr 21 (sc (.int .i64 (IntKind.i64.wrap ((a2.b.length : Int) - ((((mget a1 p0.files).getD ((⟨([] : List Int), 0⟩ : vdisk_file) : vdisk_file)).b).length : Int)))))) 9 (sc (.int .i64 p0.used))), _⟩
   refine s_binI (v := (.int .i64 (IntKind.i64.wrap (p0.used + (IntKind.i64.wrap ((a2.b.length : Int) - ((((mget a1 p0.files).getD ((⟨([] : List Int), 0⟩ : vdisk_file) : vdisk_file)).b).length : Int))))))) rfl rfl rfl k
  ·intro K rest fr hv htk k
   show AWops _ x _ _ K ⟨31, (upd 31 fr 6 (D.one (C.ref 0 0))), [(hv 0), (hv 1), (hv 2), (hv 3)]⟩
   refine s_nilCheck (d := (D.one (C.ref 0 0))) rfl (.inl ⟨_, _, rfl⟩) k
  ·intro K rest fr hv htk k
   show AWops _ x _ _ K ⟨31, (upd 31 fr 23 (D.one (C.ref 0 0))), [(hv 0), (hv 1), (hv 2), (hv 3)]⟩
   refine s_fieldRef F.fo_37_2 (by decide) rfl k
  ·intro K rest fr hv htk k
   show AWops _ x _ _ K ⟨31, (upd 31 (upd 31 fr 24 (D.one (C.ref 0 2))) 22 (sc (.int .i64 (IntKind.i64.wrap (p0.used + (IntKind.i64.wrap ((a2.b.length : Int) - ((((mget a1 p0.files).getD ((⟨([] : List Int), 0⟩ : vdisk_file) : vdisk_file)).b).length : Int)))))))), [(some (AObj.cells false [(C.mp 3), (C.p true (.v (.int .i64 p0.room))), (C.p true (.v (.int .i64 p0.used))), (C.p true (.v (.pointer none))), (C.p true (.v (.bool p0.dead)))])), (hv 1), (hv 2), (hv 3)]⟩
   refine s_store (cs' := [(C.mp 3), (C.p true (.v (.int .i64 p0.room))), (C.p true (.v (.int .i64 (IntKind.i64.wrap (p0.used + (IntKind.i64.wrap ((a2.b.length : Int) - ((((mget a1 p0.files).getD ((⟨([] : List Int), 0⟩ : vdisk_file) : vdisk_file)).b).length : Int)))))))), (C.p true (.v (.pointer none))), (C.p true (.v (.bool p0.dead)))]) rfl rfl rfl (List.cons_ne_nil _ _) rfl F.sz_3 (nl rfl) rfl k
 ·refine AWops.weak (st' := ⟨31, (upd 31 (upd 31 (upd 31 topF 0 (D.one (C.ref 0 0))) 1 (sc (.string a1))) 5 (D.one (C.ref 2 0))), [(some (AObj.cells false [(C.mp 3), (C.p true (.v (.int .i64 p0.room))), (C.p true (.v (.int .i64 (IntKind.i64.wrap (p0.used + (IntKind.i64.wrap ((a2.b.length : Int) - ((((mget a1 p0.files).getD ((⟨([] : List Int), 0⟩ : vdisk_file) : vdisk_file)).b).length : Int)))))))), (C.p true (.v (.pointer none))), (C.p true (.v (.bool p0.dead)))])), none, (some (AObj.cells true (c_vdisk_file a2))), (some (AObj.map false (mapE true e_vdisk_file p0.files)))]⟩) (Weak.gen (kk := 2) [0, 1, 2, 3] [] hx rfl (by decide) (by decide) rfl rfl rfl (le_upd (le_upd (le_upd (le_top _) (.t (.one (.ref rfl)))) (.t (.one .sc))) (.t (.one (.ref rfl)))) (ac (.cells (fun h => h) (ac (.mp rfl) (ac .sc (ac .sc (ac .sc (ac .sc an)))))) (ac (.none _) (ac (.cells (fun _ => rfl) (ac .same (ac .sc an))) (ac .map an))))) (AWops.nil ?_)
  refine AW.weak (st' := ⟨31, (upd 31 (upd 31 (upd 31 topF 0 (D.one (C.ref 0 0))) 1 (sc (.string a1))) 5 (D.one (C.ref 2 0))), [(some (AObj.cells false [(C.mp 3), (C.p true (.v (.int .i64 p0.room))), (C.p true (.v (.int .i64 (IntKind.i64.wrap (p0.used + (IntKind.i64.wrap ((a2.b.length : Int) - ((((mget a1 p0.files).getD ((⟨([] : List Int), 0⟩ : vdisk_file) : vdisk_file)).b).length : Int)))))))), (C.p true (.v (.pointer none))), (C.p true (.v (.bool p0.dead)))])), none, (some (AObj.cells true (c_vdisk_file a2))), (some (AObj.map false (mapE true e_vdisk_file p0.files)))]⟩) (Weak.gen (kk := 2) [0, 1, 2, 3] [] hx rfl (by decide) (by decide) rfl rfl rfl (le_upd (le_upd (le_upd (le_top _) (.t (.one (.ref rfl)))) (.t (.one .sc))) (.t (.one (.ref rfl)))) (ac (.cells (fun h => h) (ac (.mp rfl) (ac .sc (ac .sc (ac .sc (ac .sc an)))))) (ac (.none _) (ac (.cells (fun _ => rfl) (ac .same (ac .sc an))) (ac .map an))))) ?_
  refine AW.draw (n := 31) (L := 4) [(0, ⟨some 25, (D.one (C.ref 0 0)), [(0, (D.one (C.ref 0 0)))], [], [], none⟩), (1, ⟨some 26, (D.one (C.ref 0 0)), [(25, (D.one (C.ref 0 0)))], [], [], none⟩), (2, ⟨some 27, (D.one (C.ref 0 0)), [(26, (D.one (C.ref 0 0)))], [], [], none⟩), (3, ⟨some 28, (D.one (C.mp 3)), [(27, (D.one (C.ref 0 0)))], [(0, (some (AObj.cells false [(C.mp 3), (C.p true (.v (.int .i64 p0.room))), (C.p true (.v (.int .i64 (IntKind.i64.wrap (p0.used + (IntKind.i64.wrap ((a2.b.length : Int) - ((((mget a1 p0.files).getD ((⟨([] : List Int), 0⟩ : vdisk_file) : vdisk_file)).b).length : Int)))))))), (C.p true (.v (.pointer none))), (C.p true (.v (.bool p0.dead)))])))], [], none⟩), (4, ⟨some 29, (sc (.string a1)), [(1, (sc (.string a1)))], [], [], none⟩), (5, ⟨some 30, (D.agg (c_vdisk_file a2)), [(5, (D.one (C.ref 2 0)))], [(2, (some (AObj.cells true (c_vdisk_file a2))))], [], none⟩), (6, ⟨none, (D.one C.top), [(28, (D.one (C.mp 3))), (29, (sc (.string a1))), (30, (D.agg (c_vdisk_file a2)))], [(3, (some (AObj.map false (mapE true e_vdisk_file p0.files))))], [(3, (some (AObj.map false (mapE true e_vdisk_file (mset a1 a2 p0.files)))))], none⟩)] [[], [0], [0, 1], [0, 1, 2], [], [], [0, 1, 2, 3, 4, 5]] (nl rfl) [0, 1, 2, 3, 0, 0, 4] rfl (TK := []) rfl AllK.nil' (fC ⟨(sC rfl AllS.nil'), AllH.nil'⟩ (fC ⟨(sC rfl AllS.nil'), AllH.nil'⟩ (fC ⟨(sC rfl AllS.nil'), AllH.nil'⟩ (fC ⟨(sC rfl AllS.nil'), (hC rfl AllH.nil')⟩ (fC ⟨(sC rfl AllS.nil'), AllH.nil'⟩ (fC ⟨(sC rfl AllS.nil'), (hC rfl AllH.nil')⟩ (fC ⟨(sC rfl (sC rfl (sC rfl AllS.nil'))), (hC rfl AllH.nil')⟩ AllF.nil'))))))) ?_ ?_
  ·refine (pC ?_ (pC ?_ (pC ?_ (pC ?_ (pC ?_ (pC ?_ (pC ?_ AllStep.nil')))))))
   ·intro K rest fr hv htk k
    show AWops _ x _ _ K ⟨31, (upd 31 fr 0 (D.one (C.ref 0 0))), _⟩
    refine s_move (d := (D.one (C.ref 0 0))) rfl k
   ·intro K rest fr hv htk k
    show AWops _ x _ _ K ⟨31, (upd 31 fr 25 (D.one (C.ref 0 0))), [(hv 0), (hv 1), (hv 2), (hv 3)]⟩
    refine s_nilCheck (d := (D.one (C.ref 0 0))) rfl (.inl ⟨_, _, rfl⟩) k
   ·intro K rest fr hv htk k
    show AWops _ x _ _ K ⟨31, (upd 31 fr 26 (D.one (C.ref 0 0))), [(hv 0), (hv 1), (hv 2), (hv 3)]⟩
    refine s_fieldRef F.fo_37_0 (by decide) rfl k
   ·intro K rest fr hv htk k
    show AWops _ x _ _ K ⟨31, (upd 31 fr 27 (D.one (C.ref 0 0))), [(some (AObj.cells false [(C.mp 3), (C.p true (.v (.int .i64 p0.room))), (C.p true (.v (.int .i64 (IntKind.i64.wrap (p0.used + (IntKind.i64.wrap ((a2.b.length : Int) - ((((mget a1 p0.files).getD ((⟨([] : List Int), 0⟩ : vdisk_file) : vdisk_file)).b).length : Int)))))))), (C.p true (.v (.pointer none))), (C.p true (.v (.bool p0.dead)))])), (hv 1), (hv 2), (hv 3)]⟩
    refine s_load1 (c' := (C.mp 3)) F.ag_34 rfl rfl k
   ·intro K rest fr hv htk k
    show AWops _ x _ _ K ⟨31, (upd 31 fr 1 (sc (.string a1))), _⟩
    refine s_move (d := (sc (.string a1))) rfl k
   ·intro K rest fr hv htk k
    show AWops _ x _ _ K ⟨31, (upd 31 fr 5 (D.one (C.ref 2 0))), [(hv 0), (hv 1), (some (AObj.cells true (c_vdisk_file a2))), (hv 3)]⟩
    refine s_loadN (ds := (c_vdisk_file a2)) F.ag_79 F.sz_79 rfl rfl rfl k
   ·intro K rest fr hv htk k
    show AWops _ x _ _ K ⟨31, (upd 31 (upd 31 (upd 31 fr 30 (D.agg (c_vdisk_file a2))) 29 (sc (.string a1))) 28 (D.one (C.mp 3))), [(hv 0), (hv 1), (hv 2), (some (AObj.map false (mapE true e_vdisk_file p0.files)))]⟩
    refine t_mapSet (b := true) (u := a2) F.u_34 F.u_9 (fun h => by cases h) rfl rfl rfl rfl rfl k
  ·refine AWops.weak (st' := ⟨31, topF, [(some (AObj.cells false [(C.mp 2), (C.p true (.v (.int .i64 p0.room))), (C.p true (.v (.int .i64 (IntKind.i64.wrap (p0.used + (IntKind.i64.wrap ((a2.b.length : Int) - ((((mget a1 p0.files).getD ((⟨([] : List Int), 0⟩ : vdisk_file) : vdisk_file)).b).length : Int)))))))), (C.p true (.v (.pointer none))), (C.p true (.v (.bool p0.dead)))])), none, (some (AObj.map false (mapE true e_vdisk_file (mset a1 a2 p0.files))))]⟩) (Weak.gen (kk := 2) [0, 1, 3] [] hx rfl (by decide) (by decide) rfl rfl rfl (le_top _) (ac (.cells (fun h => h) (ac (.mp rfl) (ac .sc (ac .sc (ac .sc (ac .sc an)))))) (ac (.none _) (ac .map an)))) (AWops.nil ?_)
   obtain rfl := Option.some.inj h
   exact ⟨_, rfl, (Weak.gen (kk := 2) [0, 1, 2] [] rfl rfl (by decide) (by decide) rfl rfl rfl (le_upd (le_top _) (DLe.tup an)) (ac (.cells (fun h => h) (ac (.mp rfl) (ac .sc (ac .sc (ac .sc (ac .sc an)))))) (ac (.none _) (ac .map an))))⟩
end Go.Abs.GenJ
