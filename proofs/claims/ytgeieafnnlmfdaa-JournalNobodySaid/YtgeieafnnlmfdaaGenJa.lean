import Derived.Test.YtgeieafnnlmfdaaAbsZ
import Derived.Test.YtgeieafnnlmfdaaProg
set_option linter.unusedVariables false
set_option linter.unusedSimpArgs false
set_option maxRecDepth 100000
set_option maxHeartbeats 4000000
namespace Go.Abs.GenJ
open Go.Abs Go.Proofs
structure journal_Journal where
 d : Unit
 snap : List Int
 l : List (List Int)
 stopped : Bool
structure vdisk_file where
 b : List Int
 sure : Int
abbrev c_vdisk_file (x : vdisk_file) : List C := [(C.p false (.sl x.b.length (x.b.flatMap e_u8))), (C.p true (.v (.int .i64 x.sure)))]
abbrev p_vdisk_file (x : vdisk_file) : List P := [P.sl x.b.length (x.b.flatMap e_u8), P.v (.int .i64 x.sure)]
def e_vdisk_file (x : vdisk_file) : List P := (e_sl e_u8) x.b ++ e_i64 x.sure
theorem e_vdisk_file_eq (x : vdisk_file) : e_vdisk_file x = [P.sl x.b.length (x.b.flatMap e_u8), P.v (.int .i64 x.sure)] := rfl
theorem e_vdisk_file_len (x : vdisk_file) : (e_vdisk_file x).length = 2 := by rw [e_vdisk_file_eq]; rfl
structure vdisk_Disk where
 files : List (ByteArray × vdisk_file)
 room : Int
 used : Int
 fuse : Unit
 dead : Bool
namespace F
theorem z_27 : zeroOf Try.prog 27 = some (.agg #[(.pointer none), (.slice none 0 0), (.slice none 0 0), (.bool false)]) := by kernel_rfl
theorem so_27 : structOk Try.prog 27 = true := by kernel_rfl
theorem u_23 : Try.prog.underlying 23 = some (.pointer 27) := by kernel_rfl
theorem ca_30 : callable Try.prog 30 = true := by kernel_rfl
theorem ca_24 : callable Try.prog 24 = true := by kernel_rfl
theorem u_22 : Try.prog.underlying 22 = some (.slice 5) := by kernel_rfl
theorem ca_11 : callable Try.prog 11 = true := by kernel_rfl
theorem u_25 : Try.prog.underlying 25 = some (.slice 22) := by kernel_rfl
theorem ca_10 : callable Try.prog 10 = true := by kernel_rfl
theorem ca_9 : callable Try.prog 9 = true := by kernel_rfl
theorem ca_8 : callable Try.prog 8 = true := by kernel_rfl
theorem ca_7 : callable Try.prog 7 = true := by kernel_rfl
theorem ag_23 : aggOf Try.prog 23 = some false := by kernel_rfl
theorem u_28 : Try.prog.underlying 28 = some (.slice 23) := by kernel_rfl
theorem sz_23 : szOf Try.prog 23 = some 1 := by kernel_rfl
theorem fo_27_0 : fieldOf Try.prog 27 0 = some (0, 1, false) := by kernel_rfl
theorem u_24 : Try.prog.underlying 24 = some (.pointer 37) := by kernel_rfl
theorem ag_24 : aggOf Try.prog 24 = some false := by kernel_rfl
theorem fo_27_3 : fieldOf Try.prog 27 3 = some (3, 1, false) := by kernel_rfl
theorem ag_4 : aggOf Try.prog 4 = some false := by kernel_rfl
theorem u_5 : Try.prog.underlying 5 = some (.int .u8) := by kernel_rfl
theorem u_120 : Try.prog.underlying 120 = some (.int .u32) := by kernel_rfl
theorem ag_5 : aggOf Try.prog 5 = some false := by kernel_rfl
theorem sz_5 : szOf Try.prog 5 = some 1 := by kernel_rfl
theorem u_3 : Try.prog.underlying 3 = some (.int .i64) := by kernel_rfl
theorem z_97 : zeroOf Try.prog 97 = some (.agg #[(.int .u8 0), (.int .u8 0), (.int .u8 0), (.int .u8 0), (.int .u8 0), (.int .u8 0), (.int .u8 0), (.int .u8 0)]) := by kernel_rfl
theorem u_97 : Try.prog.underlying 97 = some (.array 8 5) := by kernel_rfl
theorem ag_22 : aggOf Try.prog 22 = some false := by kernel_rfl
theorem sz_22 : szOf Try.prog 22 = some 1 := by kernel_rfl
theorem in_5 : infoQ Try.prog 5 = some (some (.int .u8 0), 1, 1) := by kernel_rfl
theorem ca_78 : callable Try.prog 78 = true := by kernel_rfl
theorem ca_57 : callable Try.prog 57 = true := by kernel_rfl
theorem z_22 : zeroOf Try.prog 22 = some (.slice none 0 0) := by kernel_rfl
theorem ca_58 : callable Try.prog 58 = true := by kernel_rfl
theorem ca_26 : callable Try.prog 26 = true := by kernel_rfl
theorem u_9 : Try.prog.underlying 9 = some (.string) := by kernel_rfl
theorem ca_34 : callable Try.prog 34 = true := by kernel_rfl
theorem ca_55 : callable Try.prog 55 = true := by kernel_rfl
theorem ca_56 : callable Try.prog 56 = true := by kernel_rfl
theorem ca_25 : callable Try.prog 25 = true := by kernel_rfl
theorem sz_4 : szOf Try.prog 4 = some 1 := by kernel_rfl
theorem ca_29 : callable Try.prog 29 = true := by kernel_rfl
theorem fo_27_1 : fieldOf Try.prog 27 1 = some (1, 1, false) := by kernel_rfl
theorem z_5 : zeroOf Try.prog 5 = some (.int .u8 0) := by kernel_rfl
theorem ca_28 : callable Try.prog 28 = true := by kernel_rfl
theorem fo_27_2 : fieldOf Try.prog 27 2 = some (2, 1, false) := by kernel_rfl
theorem in_22 : infoQ Try.prog 22 = some (some (.slice none 0 0), 1, 24) := by kernel_rfl
theorem ag_25 : aggOf Try.prog 25 = some false := by kernel_rfl
theorem z_37 : zeroOf Try.prog 37 = some (.agg #[(.map none), (.int .i64 0), (.int .i64 0), (.pointer none), (.bool false)]) := by kernel_rfl
theorem so_37 : structOk Try.prog 37 = true := by kernel_rfl
theorem ca_31 : callable Try.prog 31 = true := by kernel_rfl
theorem ca_12 : callable Try.prog 12 = true := by kernel_rfl
theorem u_38 : Try.prog.underlying 38 = some (.slice 24) := by kernel_rfl
theorem sz_24 : szOf Try.prog 24 = some 1 := by kernel_rfl
theorem fo_37_0 : fieldOf Try.prog 37 0 = some (0, 1, false) := by kernel_rfl
theorem u_34 : Try.prog.underlying 34 = some (.map 9 79) := by kernel_rfl
theorem ag_34 : aggOf Try.prog 34 = some false := by kernel_rfl
theorem fo_37_4 : fieldOf Try.prog 37 4 = some (4, 1, false) := by kernel_rfl
theorem fo_37_2 : fieldOf Try.prog 37 2 = some (2, 1, false) := by kernel_rfl
theorem ag_3 : aggOf Try.prog 3 = some false := by kernel_rfl
theorem ca_59 : callable Try.prog 59 = true := by kernel_rfl
theorem ca_79 : callable Try.prog 79 = true := by kernel_rfl
theorem ca_60 : callable Try.prog 60 = true := by kernel_rfl
theorem ca_44 : callable Try.prog 44 = true := by kernel_rfl
theorem sz_25 : szOf Try.prog 25 = some 1 := by kernel_rfl
theorem ca_33 : callable Try.prog 33 = true := by kernel_rfl
theorem ca_42 : callable Try.prog 42 = true := by kernel_rfl
theorem ca_27 : callable Try.prog 27 = true := by kernel_rfl
theorem ca_32 : callable Try.prog 32 = true := by kernel_rfl
theorem z_79 : zeroOf Try.prog 79 = some (.agg #[(.slice none 0 0), (.int .i64 0)]) := by kernel_rfl
theorem fo_37_1 : fieldOf Try.prog 37 1 = some (1, 1, false) := by kernel_rfl
theorem fo_37_3 : fieldOf Try.prog 37 3 = some (3, 1, false) := by kernel_rfl
theorem u_35 : Try.prog.underlying 35 = some (.pointer 3) := by kernel_rfl
theorem ag_35 : aggOf Try.prog 35 = some false := by kernel_rfl
theorem sz_79 : szOf Try.prog 79 = some 2 := by kernel_rfl
theorem fo_79_0 : fieldOf Try.prog 79 0 = some (0, 1, false) := by kernel_rfl
theorem sz_3 : szOf Try.prog 3 = some 1 := by kernel_rfl
theorem fo_79_1 : fieldOf Try.prog 79 1 = some (1, 1, false) := by kernel_rfl
theorem so_79 : structOk Try.prog 79 = true := by kernel_rfl
theorem ag_79 : aggOf Try.prog 79 = some true := by kernel_rfl
theorem ca_36 : callable Try.prog 36 = true := by kernel_rfl
theorem ca_14 : callable Try.prog 14 = true := by kernel_rfl
theorem ca_13 : callable Try.prog 13 = true := by kernel_rfl
theorem z_24 : zeroOf Try.prog 24 = some (.pointer none) := by kernel_rfl
theorem z_23 : zeroOf Try.prog 23 = some (.pointer none) := by kernel_rfl
end F
def journal_Journal_none_nil0.f (k : Nat) : Option Bool := some true
theorem journal_Journal_none_nil0.meets (k : Nat) (r : Bool) (h : journal_Journal_none_nil0.f k = some r) : Meets Try.prog 30 [(sc (.pointer none))] [] (sc (.bool r)) [] := by
 unfold journal_Journal_none_nil0.f at h
 refine Meets.of_body (n := 12) Try.func30 rfl rfl (nl rfl) fun x hx => ?_
 replace hx : x.k = 0 := hx
 show AW _ x _ _ ⟨12, fr0 [(sc (.pointer none))], []⟩
 refine AW.seq (AW.region ?_)
 refine s_assign (d := (sc (.bool false))) rfl (AWops.nil (AW.seq (AW.region ?_)))
 refine s_move (d := (sc (.pointer none))) rfl ?_
 refine s_ptrNil (b := true) F.u_23 rfl (.inr ⟨⟨_, rfl⟩, rfl⟩) (.inl rfl) ?_
 refine s_move (d := (sc (.bool true))) rfl ?_
 iterate 5 refine AWops.guard_no rfl (nl rfl) rfl rfl ?_
 refine s_pick_yes (d := (sc (.bool true))) rfl rfl rfl ?_
 refine s_assign (d := (sc (.bool true))) rfl (AWops.nil (AW.ret ?_))
 obtain rfl := Option.some.inj h
 exact ⟨_, rfl, (Weak.gen (kk := 0) [] [] rfl rfl (by decide) (by decide) rfl rfl rfl (le_upd (le_top _) (.t (.one .sc))) an)⟩
theorem journal_Journal_none_nil0.const {k : Nat} {r : Bool} (h : journal_Journal_none_nil0.f k = some r) : r = true := by
 unfold journal_Journal_none_nil0.f at h
 exact (Option.some.inj h).symm
def journal_Journal_may_nil0.f (k : Nat) (a1 : Bool) : Option Int := (journal_Journal_none_nil0.f k).bind fun r1 => some 2
theorem journal_Journal_may_nil0.meets (k : Nat) (a1 : Bool) (r : Int) (h : journal_Journal_may_nil0.f k a1 = some r) : Meets Try.prog 24 [(sc (.pointer none)), (sc (.bool a1))] [] (sc (.int .i64 r)) [] := by
 unfold journal_Journal_may_nil0.f at h
 refine Meets.of_body (n := 16) Try.func24 rfl rfl (nl rfl) fun x hx => ?_
 replace hx : x.k = 0 := hx
 show AW _ x _ _ ⟨16, fr0 [(sc (.pointer none)), (sc (.bool a1))], []⟩
 refine AW.seq (AW.region ?_)
 refine s_assign (d := (sc (.int .i64 0))) rfl (AWops.nil (AW.seq (AW.block (AW.seq (AW.region ?_)))))
 refine s_move (d := (sc (.pointer none))) rfl ?_
 obtain ⟨r1, er1, h⟩ := bnd h
 have kr1 := journal_Journal_none_nil0.const er1
 subst kr1
 refine s_call2 (ρ := []) (br := false) (H2 := []) (d := (sc (.bool true))) F.ca_30 rfl rfl (ac (.one .sc) an) an (by decide) rfl (journal_Journal_none_nil0.meets _  true er1) (.inl rfl) rfl rfl ?_
 refine s_assign (d := (sc (.bool true))) rfl (AWops.nil ?_)
 refine AW.cond_yes rfl rfl (AW.seq (AW.region ?_))
 refine s_assign (d := (sc (.int .i64 2))) rfl (AWops.nil (AW.ret ?_))
 obtain rfl := Option.some.inj h
 exact ⟨_, rfl, (Weak.gen (kk := 0) [] [] rfl rfl (by decide) (by decide) rfl rfl rfl (le_upd (le_top _) (.t (.one .sc))) an)⟩
theorem journal_Journal_may_nil0.const {k : Nat} {a1 : Bool} {r : Int} (h : journal_Journal_may_nil0.f k a1 = some r) : r = 2 := by
 unfold journal_Journal_may_nil0.f at h
 obtain ⟨_, _, h⟩ := bnd h
 exact (Option.some.inj h).symm
def journal_Journal_Append_nil0.f (k : Nat) (a1 : List Int) : Option Int := if (decide ((a1.length : Int) > 0)) = true then ((journal_Journal_may_nil0.f k (decide ((a1.length : Int) ≤ 4194304))).bind fun r2 => some 2) else ((journal_Journal_may_nil0.f k false).bind fun r3 => some 2)
theorem journal_Journal_Append_nil0.meets (k : Nat) (a1 : List Int) (r : Int) (h : journal_Journal_Append_nil0.f k a1 = some r) : Meets Try.prog 7 [(sc (.pointer none)), (D.one (C.p false (.sl a1.length (a1.flatMap e_u8))))] [] (sc (.int .i64 r)) [] := by
 unfold journal_Journal_Append_nil0.f at h
 refine Meets.of_body (n := 54) Try.func7 rfl rfl (nl rfl) fun x hx => ?_
 replace hx : x.k = 0 := hx
 show AW _ x _ _ ⟨54, fr0 [(sc (.pointer none)), (D.one (C.p false (.sl a1.length (a1.flatMap e_u8))))], []⟩
 refine AW.seq (AW.region ?_)
 refine s_assign (d := (sc (.int .i64 0))) rfl (AWops.nil (AW.seq (AW.seq (AW.region ?_))))
 refine s_move (d := (sc (.pointer none))) rfl ?_
 refine s_move (d := (D.one (C.p false (.sl a1.length (a1.flatMap e_u8))))) rfl ?_
 refine s_len (n := a1.length) F.u_22 rfl (.inr ⟨(fun _ _ h => by cases h), ⟨_, rfl⟩⟩) ?_
 refine s_binI (v := (.bool (decide ((a1.length : Int) > 0)))) rfl rfl rfl ?_
 refine s_move (d := (sc (.bool (decide ((a1.length : Int) > 0))))) rfl ?_
 rcases itH h with ⟨c1, h⟩ | ⟨c1, h⟩
 ·refine AWops.guard_yes rfl (nl rfl) rfl c1 ?_
  refine s_move (d := (D.one (C.p false (.sl a1.length (a1.flatMap e_u8))))) rfl ?_
  refine AWops.guard_yes rfl (nl rfl) rfl c1 ?_
  refine s_len (n := a1.length) F.u_22 rfl (.inr ⟨(fun _ _ h => by cases h), ⟨_, rfl⟩⟩) ?_
  refine AWops.guard_yes rfl (nl rfl) rfl c1 ?_
  refine s_binI (v := (.bool (decide ((a1.length : Int) ≤ 4194304)))) rfl rfl rfl ?_
  refine s_pick_yes (d := (sc (.bool (decide ((a1.length : Int) ≤ 4194304))))) rfl c1 rfl ?_
  obtain ⟨r2, er2, h⟩ := bnd h
  have kr2 := journal_Journal_may_nil0.const er2
  subst kr2
  refine s_call2 (ρ := []) (br := false) (H2 := []) (d := (sc (.int .i64 2))) F.ca_24 rfl rfl (ac (.one .sc) (ac (.one .sc) an)) an (by decide) rfl (journal_Journal_may_nil0.meets _ (decide ((a1.length : Int) ≤ 4194304)) 2 er2) (.inl rfl) rfl rfl ?_
  refine s_assign (d := (sc (.int .i64 2))) rfl (AWops.nil (AW.seq (AW.region ?_)))
  refine s_move (d := (sc (.int .i64 2))) rfl ?_
  refine s_binI (v := (.bool true)) rfl rfl rfl (AWops.nil ?_)
  refine AW.cond_yes rfl rfl (AW.seq (AW.region ?_))
  refine s_move (d := (sc (.int .i64 2))) rfl ?_
  refine s_assign (d := (sc (.int .i64 2))) rfl (AWops.nil (AW.ret ?_))
  obtain rfl := Option.some.inj h
  exact ⟨_, rfl, (Weak.gen (kk := 0) [] [] rfl rfl (by decide) (by decide) rfl rfl rfl (le_upd (le_top _) (.t (.one .sc))) an)⟩
 ·iterate 3 refine AWops.guard_no rfl (nl rfl) rfl c1 ?_
  refine s_pick_no (d := (sc (.bool false))) rfl c1 rfl ?_
  obtain ⟨r3, er3, h⟩ := bnd h
  have kr3 := journal_Journal_may_nil0.const er3
  subst kr3
  refine s_call2 (ρ := []) (br := false) (H2 := []) (d := (sc (.int .i64 2))) F.ca_24 rfl rfl (ac (.one .sc) (ac (.one .sc) an)) an (by decide) rfl (journal_Journal_may_nil0.meets _ false 2 er3) (.inl rfl) rfl rfl ?_
  refine s_assign (d := (sc (.int .i64 2))) rfl (AWops.nil (AW.seq (AW.region ?_)))
  refine s_move (d := (sc (.int .i64 2))) rfl ?_
  refine s_binI (v := (.bool true)) rfl rfl rfl (AWops.nil ?_)
  refine AW.cond_yes rfl rfl (AW.seq (AW.region ?_))
  refine s_move (d := (sc (.int .i64 2))) rfl ?_
  refine s_assign (d := (sc (.int .i64 2))) rfl (AWops.nil (AW.ret ?_))
  obtain rfl := Option.some.inj h
  exact ⟨_, rfl, (Weak.gen (kk := 0) [] [] rfl rfl (by decide) (by decide) rfl rfl rfl (le_upd (le_top _) (.t (.one .sc))) an)⟩
def journal_Journal_Compact_nil0.f (k : Nat) (a1 : List Int) : Option Int := (journal_Journal_may_nil0.f k (decide ((a1.length : Int) ≤ 4194304))).bind fun r1 => some 2
theorem journal_Journal_Compact_nil0.meets (k : Nat) (a1 : List Int) (r : Int) (h : journal_Journal_Compact_nil0.f k a1 = some r) : Meets Try.prog 8 [(sc (.pointer none)), (D.one (C.p false (.sl a1.length (a1.flatMap e_u8))))] [] (sc (.int .i64 r)) [] := by
 unfold journal_Journal_Compact_nil0.f at h
 refine Meets.of_body (n := 39) Try.func8 rfl rfl (nl rfl) fun x hx => ?_
 replace hx : x.k = 0 := hx
 show AW _ x _ _ ⟨39, fr0 [(sc (.pointer none)), (D.one (C.p false (.sl a1.length (a1.flatMap e_u8))))], []⟩
 refine AW.seq (AW.region ?_)
 refine s_assign (d := (sc (.int .i64 0))) rfl (AWops.nil (AW.seq (AW.seq (AW.region ?_))))
 refine s_move (d := (sc (.pointer none))) rfl ?_
 refine s_move (d := (D.one (C.p false (.sl a1.length (a1.flatMap e_u8))))) rfl ?_
 refine s_len (n := a1.length) F.u_22 rfl (.inr ⟨(fun _ _ h => by cases h), ⟨_, rfl⟩⟩) ?_
 refine s_binI (v := (.bool (decide ((a1.length : Int) ≤ 4194304)))) rfl rfl rfl ?_
 obtain ⟨r1, er1, h⟩ := bnd h
 have kr1 := journal_Journal_may_nil0.const er1
 subst kr1
 refine s_call2 (ρ := []) (br := false) (H2 := []) (d := (sc (.int .i64 2))) F.ca_24 rfl rfl (ac (.one .sc) (ac (.one .sc) an)) an (by decide) rfl (journal_Journal_may_nil0.meets _ (decide ((a1.length : Int) ≤ 4194304)) 2 er1) (.inl rfl) rfl rfl ?_
 refine s_assign (d := (sc (.int .i64 2))) rfl (AWops.nil (AW.seq (AW.region ?_)))
 refine s_move (d := (sc (.int .i64 2))) rfl ?_
 refine s_binI (v := (.bool true)) rfl rfl rfl (AWops.nil ?_)
 refine AW.cond_yes rfl rfl (AW.seq (AW.region ?_))
 refine s_move (d := (sc (.int .i64 2))) rfl ?_
 refine s_assign (d := (sc (.int .i64 2))) rfl (AWops.nil (AW.ret ?_))
 obtain rfl := Option.some.inj h
 exact ⟨_, rfl, (Weak.gen (kk := 0) [] [] rfl rfl (by decide) (by decide) rfl rfl rfl (le_upd (le_top _) (.t (.one .sc))) an)⟩
theorem journal_Journal_Compact_nil0.const {k : Nat} {a1 : List Int} {r : Int} (h : journal_Journal_Compact_nil0.f k a1 = some r) : r = 2 := by
 unfold journal_Journal_Compact_nil0.f at h
 obtain ⟨_, _, h⟩ := bnd h
 exact (Option.some.inj h).symm
def journal_Journal_Snapshot_nil0.f (k : Nat) : Option (List Int) := (journal_Journal_none_nil0.f k).bind fun r1 => some ([] : List Int)
theorem journal_Journal_Snapshot_nil0.meets (k : Nat) (r : (List Int)) (h : journal_Journal_Snapshot_nil0.f k = some r) : Meets Try.prog 9 [(sc (.pointer none))] [] (D.one (C.own 0 0 r.length 1)) [(some (AObj.cells true (rowC e_u8 r)))] := by
 unfold journal_Journal_Snapshot_nil0.f at h
 refine Meets.of_body (n := 10) Try.func9 rfl rfl (nl rfl) fun x hx => ?_
 replace hx : x.k = 0 := hx
 show AW _ x _ _ ⟨10, fr0 [(sc (.pointer none))], []⟩
 refine AW.seq (AW.region ?_)
 refine s_assign (d := (sc (.slice none 0 0))) rfl (AWops.nil (AW.seq (AW.seq (AW.region ?_))))
 refine s_move (d := (sc (.pointer none))) rfl ?_
 obtain ⟨r1, er1, h⟩ := bnd h
 have kr1 := journal_Journal_none_nil0.const er1
 subst kr1
 refine s_call2 (ρ := []) (br := false) (H2 := []) (d := (sc (.bool true))) F.ca_30 rfl rfl (ac (.one .sc) an) an (by decide) rfl (journal_Journal_none_nil0.meets _  true er1) (.inl rfl) rfl rfl (AWops.nil ?_)
 refine AW.cond_yes rfl rfl (AW.seq (AW.region ?_))
 refine s_assign (d := (sc (.slice none 0 0))) rfl (AWops.nil (AW.ret ?_))
 obtain rfl := Option.some.inj h
 exact ⟨_, rfl, (Weak.trans (Weak.nil (sz := 1) (i := 0) rfl) (Weak.gen (kk := 0) [0] [] rfl rfl (by decide) (by decide) rfl rfl rfl (le_upd (le_top _) (.t (.one (CLe.ownN rfl (by simp))))) (ac (.cells (fun _ => rfl) an) an)))⟩
def journal_Journal_Records_nil0.f (k : Nat) : Option (List (List Int)) := (journal_Journal_none_nil0.f k).bind fun r1 => some ([] : List (List Int))
theorem journal_Journal_Records_nil0.meets (k : Nat) (r : (List (List Int))) (h : journal_Journal_Records_nil0.f k = some r) : Meets Try.prog 10 [(sc (.pointer none))] [] (D.one (C.own 0 0 r.length 1)) [(some (AObj.cells true (rowC (e_sl e_u8) r)))] := by
 unfold journal_Journal_Records_nil0.f at h
 refine Meets.of_body (n := 24) Try.func10 rfl rfl (nl rfl) fun x hx => ?_
 replace hx : x.k = 0 := hx
 show AW _ x _ _ ⟨24, fr0 [(sc (.pointer none))], []⟩
 refine AW.seq (AW.region ?_)
 refine s_assign (d := (sc (.slice none 0 0))) rfl (AWops.nil (AW.seq (AW.seq (AW.region ?_))))
 refine s_move (d := (sc (.pointer none))) rfl ?_
 obtain ⟨r1, er1, h⟩ := bnd h
 have kr1 := journal_Journal_none_nil0.const er1
 subst kr1
 refine s_call2 (ρ := []) (br := false) (H2 := []) (d := (sc (.bool true))) F.ca_30 rfl rfl (ac (.one .sc) an) an (by decide) rfl (journal_Journal_none_nil0.meets _  true er1) (.inl rfl) rfl rfl (AWops.nil ?_)
 refine AW.cond_yes rfl rfl (AW.seq (AW.region ?_))
 refine s_assign (d := (sc (.slice none 0 0))) rfl (AWops.nil (AW.ret ?_))
 obtain rfl := Option.some.inj h
 exact ⟨_, rfl, (Weak.trans (Weak.nil (sz := 1) (i := 0) rfl) (Weak.gen (kk := 0) [0] [] rfl rfl (by decide) (by decide) rfl rfl rfl (le_upd (le_top _) (.t (.one (CLe.ownN rfl (by simp))))) (ac (.cells (fun _ => rfl) an) an)))⟩
def journal_Journal_Stopped_nil0.f (k : Nat) : Option Bool := (journal_Journal_none_nil0.f k).bind fun r1 => some true
theorem journal_Journal_Stopped_nil0.meets (k : Nat) (r : Bool) (h : journal_Journal_Stopped_nil0.f k = some r) : Meets Try.prog 11 [(sc (.pointer none))] [] (sc (.bool r)) [] := by
 unfold journal_Journal_Stopped_nil0.f at h
 refine Meets.of_body (n := 11) Try.func11 rfl rfl (nl rfl) fun x hx => ?_
 replace hx : x.k = 0 := hx
 show AW _ x _ _ ⟨11, fr0 [(sc (.pointer none))], []⟩
 refine AW.seq (AW.region ?_)
 refine s_assign (d := (sc (.bool false))) rfl (AWops.nil (AW.seq (AW.region ?_)))
 refine s_move (d := (sc (.pointer none))) rfl ?_
 obtain ⟨r1, er1, h⟩ := bnd h
 have kr1 := journal_Journal_none_nil0.const er1
 subst kr1
 refine s_call2 (ρ := []) (br := false) (H2 := []) (d := (sc (.bool true))) F.ca_30 rfl rfl (ac (.one .sc) an) an (by decide) rfl (journal_Journal_none_nil0.meets _  true er1) (.inl rfl) rfl rfl ?_
 refine s_move (d := (sc (.bool true))) rfl ?_
 iterate 4 refine AWops.guard_no rfl (nl rfl) rfl rfl ?_
 refine s_pick_yes (d := (sc (.bool true))) rfl rfl rfl ?_
 refine s_assign (d := (sc (.bool true))) rfl (AWops.nil (AW.ret ?_))
 obtain rfl := Option.some.inj h
 exact ⟨_, rfl, (Weak.gen (kk := 0) [] [] rfl rfl (by decide) (by decide) rfl rfl rfl (le_upd (le_top _) (.t (.one .sc))) an)⟩
theorem journal_Journal_Stopped_nil0.const {k : Nat} {r : Bool} (h : journal_Journal_Stopped_nil0.f k = some r) : r = true := by
 unfold journal_Journal_Stopped_nil0.f at h
 obtain ⟨_, _, h⟩ := bnd h
 exact (Option.some.inj h).symm
def journal_Journal_none.f (k : Nat) (p0 : journal_Journal) : Option (Bool × journal_Journal) := some (true, (⟨(), p0.snap, p0.l, p0.stopped⟩ : journal_Journal))
theorem journal_Journal_none.meets (k : Nat) (p0 : journal_Journal) (r : Bool × journal_Journal) (h : journal_Journal_none.f k p0 = some r) : Meets Try.prog 30 [(D.one (C.ref 0 0))] [(some (AObj.cells false [(C.p true (.v (.pointer none))), (C.p false (.sl p0.snap.length (p0.snap.flatMap e_u8))), (C.own 1 0 p0.l.length 1), (C.p true (.v (.bool p0.stopped)))])), (some (AObj.cells false (rowC (e_sl e_u8) p0.l)))] (sc (.bool r.1)) [(some (AObj.cells false [(C.p true (.v (.pointer none))), (C.p false (.sl r.2.snap.length (r.2.snap.flatMap e_u8))), (C.own 2 0 r.2.l.length 1), (C.p true (.v (.bool r.2.stopped)))])), none, (some (AObj.cells false (rowC (e_sl e_u8) r.2.l)))] := by
 unfold journal_Journal_none.f at h
 refine Meets.of_body (n := 12) Try.func30 rfl rfl (nl rfl) fun x hx => ?_
 replace hx : x.k = 2 := hx
 show AW _ x _ _ ⟨12, fr0 [(D.one (C.ref 0 0))], [(some (AObj.cells false [(C.p true (.v (.pointer none))), (C.p false (.sl p0.snap.length (p0.snap.flatMap e_u8))), (C.own 1 0 p0.l.length 1), (C.p true (.v (.bool p0.stopped)))])), (some (AObj.cells false (rowC (e_sl e_u8) p0.l)))]⟩
 refine AW.weak (st' := ⟨12, (upd 12 topF 0 (D.one (C.ref 0 0))), [(some (AObj.cells false [(C.p true (.v (.pointer none))), (C.p false (.sl p0.snap.length (p0.snap.flatMap e_u8))), (C.own 2 0 p0.l.length 1), (C.p true (.v (.bool p0.stopped)))])), none, (some (AObj.cells false (rowC (e_sl e_u8) p0.l)))]⟩) (Weak.genL (kk := 2) [0, 1, 1] [] hx rfl (by decide) rfl rfl rfl rfl (le_upd (le_top _) (.t (.one (.ref rfl)))) (ac (.cells (fun h => h) (ac .sc (ac .same (ac (.own rfl) (ac .sc an))))) (ac (.none _) (ac (.cells (fun h => h) (all2_row _)) an)))) (AW.seq (AW.region ?_))
 refine s_assign (d := (sc (.bool false))) rfl (AWops.nil (AW.seq (AW.region ?_)))
 refine s_move (d := (D.one (C.ref 0 0))) rfl ?_
 refine s_ptrNil (b := false) F.u_23 rfl (.inl ⟨⟨_, _, rfl⟩, rfl⟩) (.inl rfl) ?_
 refine s_move (d := (sc (.bool false))) rfl ?_
 refine AWops.guard_yes rfl (nl rfl) rfl rfl ?_
 refine s_move (d := (D.one (C.ref 0 0))) rfl ?_
 refine AWops.guard_yes rfl (nl rfl) rfl rfl ?_
 refine s_nilCheck (d := (D.one (C.ref 0 0))) rfl (.inl ⟨_, _, rfl⟩) ?_
 refine AWops.guard_yes rfl (nl rfl) rfl rfl ?_
 refine s_fieldRef F.fo_27_0 (by decide) rfl ?_
 refine AWops.guard_yes rfl (nl rfl) rfl rfl ?_
 refine s_load1 (c' := (C.p true (.v (.pointer none)))) F.ag_24 rfl rfl ?_
 refine AWops.guard_yes rfl (nl rfl) rfl rfl ?_
 refine s_ptrNil (b := true) F.u_24 rfl (.inr ⟨⟨_, rfl⟩, rfl⟩) (.inl rfl) ?_
 refine s_pick_no (d := (sc (.bool true))) rfl rfl rfl ?_
 refine s_assign (d := (sc (.bool true))) rfl (AWops.nil (AW.ret ?_))
 obtain rfl := Option.some.inj h
 exact ⟨_, rfl, (Weak.gen (kk := 2) [0, 1, 2] [] rfl rfl (by decide) (by decide) rfl rfl rfl (le_upd (le_top _) (.t (.one .sc))) (ac (.cells (fun h => h) (ac .sc (ac .same (ac (.own rfl) (ac .sc an))))) (ac (.none _) (ac (.cells (fun h => h) (all2_row _)) an))))⟩
def journal_Journal_may.f (k : Nat) (p0 : journal_Journal) (a1 : Bool) : Option (Int × journal_Journal) := (journal_Journal_none.f k (⟨(), p0.snap, p0.l, p0.stopped⟩ : journal_Journal)).bind fun r1 => if r1.1 = true then (some (2, (⟨(), r1.2.snap, r1.2.l, r1.2.stopped⟩ : journal_Journal))) else (if a1 = true then (if r1.2.stopped = true then (some (70, (⟨(), r1.2.snap, r1.2.l, r1.2.stopped⟩ : journal_Journal))) else (some (0, (⟨(), r1.2.snap, r1.2.l, r1.2.stopped⟩ : journal_Journal)))) else (some (1, (⟨(), r1.2.snap, r1.2.l, r1.2.stopped⟩ : journal_Journal))))
theorem journal_Journal_may.meets (k : Nat) (p0 : journal_Journal) (a1 : Bool) (r : Int × journal_Journal) (h : journal_Journal_may.f k p0 a1 = some r) : Meets Try.prog 24 [(D.one (C.ref 0 0)), (sc (.bool a1))] [(some (AObj.cells false [(C.p true (.v (.pointer none))), (C.p false (.sl p0.snap.length (p0.snap.flatMap e_u8))), (C.own 1 0 p0.l.length 1), (C.p true (.v (.bool p0.stopped)))])), (some (AObj.cells false (rowC (e_sl e_u8) p0.l)))] (sc (.int .i64 r.1)) [(some (AObj.cells false [(C.p true (.v (.pointer none))), (C.p false (.sl r.2.snap.length (r.2.snap.flatMap e_u8))), (C.own 2 0 r.2.l.length 1), (C.p true (.v (.bool r.2.stopped)))])), none, (some (AObj.cells false (rowC (e_sl e_u8) r.2.l)))] := by
 unfold journal_Journal_may.f at h
 refine Meets.of_body (n := 16) Try.func24 rfl rfl (nl rfl) fun x hx => ?_
 replace hx : x.k = 2 := hx
 show AW _ x _ _ ⟨16, fr0 [(D.one (C.ref 0 0)), (sc (.bool a1))], [(some (AObj.cells false [(C.p true (.v (.pointer none))), (C.p false (.sl p0.snap.length (p0.snap.flatMap e_u8))), (C.own 1 0 p0.l.length 1), (C.p true (.v (.bool p0.stopped)))])), (some (AObj.cells false (rowC (e_sl e_u8) p0.l)))]⟩
 refine AW.weak (st' := ⟨16, (upd 16 (upd 16 topF 0 (D.one (C.ref 0 0))) 1 (sc (.bool a1))), [(some (AObj.cells false [(C.p true (.v (.pointer none))), (C.p false (.sl p0.snap.length (p0.snap.flatMap e_u8))), (C.own 2 0 p0.l.length 1), (C.p true (.v (.bool p0.stopped)))])), none, (some (AObj.cells false (rowC (e_sl e_u8) p0.l)))]⟩) (Weak.genL (kk := 2) [0, 1, 1] [] hx rfl (by decide) rfl rfl rfl rfl (le_upd (le_upd (le_top _) (.t (.one (.ref rfl)))) (.t (.one .sc))) (ac (.cells (fun h => h) (ac .sc (ac .same (ac (.own rfl) (ac .sc an))))) (ac (.none _) (ac (.cells (fun h => h) (all2_row _)) an)))) (AW.seq (AW.region ?_))
 refine s_assign (d := (sc (.int .i64 0))) rfl (AWops.nil (AW.seq (AW.block (AW.seq (AW.region ?_)))))
 refine s_move (d := (D.one (C.ref 0 0))) rfl ?_
 obtain ⟨r1, er1, h⟩ := bnd h
 refine s_call2 (ρ := [0, 2]) (br := false) (H2 := [(some (AObj.cells false [(C.p true (.v (.pointer none))), (C.p false (.sl r1.2.snap.length (r1.2.snap.flatMap e_u8))), (C.own 3 0 r1.2.l.length 1), (C.p true (.v (.bool r1.2.stopped)))])), none, none, (some (AObj.cells false (rowC (e_sl e_u8) r1.2.l)))]) (d := (sc (.bool r1.1))) F.ca_30 rfl rfl (ac (.one (.ref rfl)) an) (ac (.cells (ac .sc (ac .imm (ac (.own rfl) (ac .sc an))))) (ac (.cells (lend_row _)) an)) (by decide) rfl (journal_Journal_none.meets _ (⟨(), p0.snap, p0.l, p0.stopped⟩ : journal_Journal) r1 er1) (.inl rfl) (by first | rfl | (simp only [mergeH2, orF, Bool.false_or, Bool.or_false, Bool.true_or, Bool.or_true, mergeAt, mergeObj, renO, ren_row, List.drop_succ_cons, List.drop_zero, List.map_cons, List.map_nil, Option.map_some, Option.map_none, List.length_cons, List.length_nil, Nat.zero_add, List.append_assoc, List.cons_append, List.nil_append]; done) | (simp only [mergeH2, orF, Bool.false_or, Bool.or_false, Bool.true_or, Bool.or_true, mergeAt, mergeObj, renO, ren_row, List.drop_succ_cons, List.drop_zero, List.map_cons, List.map_nil, Option.map_some, Option.map_none, List.length_cons, List.length_nil, Nat.zero_add, List.append_assoc, List.cons_append, List.nil_append]; rfl)) rfl ?_
 refine s_assign (d := (sc (.bool r1.1))) rfl (AWops.nil ?_)
 rcases itH h with ⟨c2, h⟩ | ⟨c2, h⟩
 ·refine AW.cond_yes rfl c2 (AW.seq (AW.region ?_))
  refine s_assign (d := (sc (.int .i64 2))) rfl (AWops.nil (AW.ret ?_))
  obtain rfl := Option.some.inj h
  exact ⟨_, rfl, (Weak.gen (kk := 2) [0, 1, 3] [] rfl rfl (by decide) (by decide) rfl rfl rfl (le_upd (le_top _) (.t (.one .sc))) (ac (.cells (fun h => h) (ac .sc (ac .same (ac (.own rfl) (ac .sc an))))) (ac (.none _) (ac (.cells (fun h => h) (all2_row _)) an))))⟩
 ·refine AW.cond_no rfl c2 (AW.seq (AW.region ?_))
  refine s_move (d := (sc (.bool a1))) rfl ?_
  refine s_not rfl ?_
  refine s_assign (d := (sc (.bool (!a1)))) rfl (AWops.nil ?_)
  rcases itH h with ⟨c3, h⟩ | ⟨c3, h⟩
  ·refine AW.cond_no rfl (by rw [c3] <;> rfl) (AW.seq (AW.region ?_))
   refine s_move (d := (D.one (C.ref 0 0))) rfl ?_
   refine s_nilCheck (d := (D.one (C.ref 0 0))) rfl (.inl ⟨_, _, rfl⟩) ?_
   refine s_fieldRef F.fo_27_3 (by decide) rfl ?_
   refine s_load1 (c' := (C.p true (.v (.bool r1.2.stopped)))) F.ag_4 rfl rfl ?_
   refine s_assign (d := (sc (.bool r1.2.stopped))) rfl (AWops.nil ?_)
   rcases itH h with ⟨c4, h⟩ | ⟨c4, h⟩
   ·refine AW.cond_yes rfl c4 (AW.seq (AW.region ?_))
    refine s_assign (d := (sc (.int .i64 70))) rfl (AWops.nil (AW.ret ?_))
    obtain rfl := Option.some.inj h
    exact ⟨_, rfl, (Weak.gen (kk := 2) [0, 1, 3] [] rfl rfl (by decide) (by decide) rfl rfl rfl (le_upd (le_top _) (.t (.one .sc))) (ac (.cells (fun h => h) (ac .sc (ac .same (ac (.own rfl) (ac .sc an))))) (ac (.none _) (ac (.cells (fun h => h) (all2_row _)) an))))⟩
   ·refine AW.cond_no rfl c4 (AW.skip (AW.seq (AW.region ?_)))
    refine s_assign (d := (sc (.int .i64 0))) rfl (AWops.nil (AW.ret ?_))
    obtain rfl := Option.some.inj h
    exact ⟨_, rfl, (Weak.gen (kk := 2) [0, 1, 3] [] rfl rfl (by decide) (by decide) rfl rfl rfl (le_upd (le_top _) (.t (.one .sc))) (ac (.cells (fun h => h) (ac .sc (ac .same (ac (.own rfl) (ac .sc an))))) (ac (.none _) (ac (.cells (fun h => h) (all2_row _)) an))))⟩
  ·refine AW.cond_yes rfl (by rw [c3] <;> rfl) (AW.seq (AW.region ?_))
   refine s_assign (d := (sc (.int .i64 1))) rfl (AWops.nil (AW.ret ?_))
   obtain rfl := Option.some.inj h
   exact ⟨_, rfl, (Weak.gen (kk := 2) [0, 1, 3] [] rfl rfl (by decide) (by decide) rfl rfl rfl (le_upd (le_top _) (.t (.one .sc))) (ac (.cells (fun h => h) (ac .sc (ac .same (ac (.own rfl) (ac .sc an))))) (ac (.none _) (ac (.cells (fun h => h) (all2_row _)) an))))⟩
mutual
def wire_Crc.l1 : Nat → Int → Int → (List Int) → Int → Option Int
 | 0, _, _, _, _ => none
 | k + 1, x5, x6, a0, x2 => if (decide (x6 < 8)) = true then (wire_Crc.l1 k (Go.bits .xor .u32 (Int.fdiv x5 (2 ^ 1)) (Go.bits .and .u32 3988292384 (IntKind.u32.wrap (0 - (Go.bits .and .u32 x5 1))))) (IntKind.i64.wrap (x6 + 1)) a0 x2) else (wire_Crc.l0 k x5 (IntKind.i64.wrap (x2 + 1)) a0)
def wire_Crc.l0 : Nat → Int → Int → (List Int) → Option Int
 | 0, _, _, _ => none
 | k + 1, x1, x2, a0 => if (decide (x2 < (a0.length : Int))) = true then ((rd a0 x2).bind fun v4 => wire_Crc.l1 k (Go.bits .xor .u32 x1 (IntKind.u32.wrap v4)) 0 a0 x2) else (some (IntKind.i64.wrap (Go.bits .xor .u32 4294967295 x1)))
end
def wire_Crc.f (k : Nat) (a0 : List Int) : Option Int := wire_Crc.l0 k 4294967295 0 a0
theorem wire_Crc.meets (k : Nat) (a0 : List Int) (r : Int) (h : wire_Crc.f k a0 = some r) : Meets Try.prog 58 [(D.one (C.p false (.sl a0.length (a0.flatMap e_u8))))] [] (sc (.int .i64 r)) [] := by
 unfold wire_Crc.f at h
 refine Meets.of_body (n := 30) Try.func58 rfl rfl (nl rfl) fun x hx => ?_
 replace hx : x.k = 0 := hx
 show AW _ x _ _ ⟨30, fr0 [(D.one (C.p false (.sl a0.length (a0.flatMap e_u8))))], []⟩
 refine AW.seq (AW.region ?_)
 refine s_assign (d := (sc (.int .i64 0))) rfl (AWops.nil (AW.seq (AW.region ?_)))
 refine s_assign (d := (sc (.int .u32 4294967295))) rfl (AWops.nil (AW.seq (AW.seq (AW.region ?_))))
 refine s_move (d := (D.one (C.p false (.sl a0.length (a0.flatMap e_u8))))) rfl ?_
 refine s_len (n := a0.length) F.u_22 rfl (.inr ⟨(fun _ _ h => by cases h), ⟨_, rfl⟩⟩) ?_
 refine s_move (d := (sc (.int .i64 0))) rfl (AWops.nil (AW.block ?_))
 refine AW.loopw (st0 := ⟨30, (upd 30 (upd 30 (upd 30 (upd 30 topF 3 (sc (.int .u32 4294967295))) 6 (D.one (C.p false (.sl a0.length (a0.flatMap e_u8))))) 7 (sc (.int .i64 (a0.length : Int)))) 8 (sc (.int .i64 0))), []⟩) (fun kv st => kv ≤ k ∧ ∃ (x1 : Int) (x2 : Int), wire_Crc.l0 kv x1 x2 a0 = some r ∧ st = ⟨30, (upd 30 (upd 30 (upd 30 (upd 30 topF 3 (sc (.int .u32 x1))) 6 (D.one (C.p false (.sl a0.length (a0.flatMap e_u8))))) 7 (sc (.int .i64 (a0.length : Int)))) 8 (sc (.int .i64 x2))), []⟩) (k := k) (Weak.gen (kk := 0) [] [] hx rfl (by decide) (by decide) rfl rfl rfl (le_upd (le_upd (le_upd (le_upd (le_top _) (.t (.one .sc))) (.t (.one .same))) (.t (.one .sc))) (.t (.one .sc))) an) ⟨Nat.le_refl _, 4294967295, 0, h, rfl⟩ ?_
 rintro ql0 st ⟨hkl0, x1, x2, h, rfl⟩
 cases ql0 with
 | zero => exact absurd h (by simp [wire_Crc.l0])
 | succ ql0 =>
  replace h := (wire_Crc.l0.eq_2 _ _ _ _).symm.trans h
  refine AW.seq (AW.region ?_)
  refine s_binI (v := (.bool (decide (x2 < (a0.length : Int))))) rfl rfl rfl (AWops.nil (AW.seq ?_))
  rcases itH h with ⟨c3, h⟩ | ⟨c3, h⟩
  ·refine AW.cond_yes rfl c3 (AW.skip (AW.seq (AW.block (AW.seq (AW.region ?_)))))
   obtain ⟨v4, ev4, h⟩ := bnd h
   obtain ⟨pv4, qv4, gv4⟩ := rd_some ev4
   refine s_indexImm (ps := [P.v (.int .u8 v4)]) F.u_22 F.sz_5 rfl rfl pv4 qv4 (flat_at e_u8_len gv4 (e_u8_eq v4)) ?_
   refine s_load1 (c' := (C.p true (.v (.int .u8 v4)))) F.ag_5 rfl rfl ?_
   refine s_assign (d := (sc (.int .u8 v4))) rfl (AWops.nil (AW.seq (AW.region ?_)))
   refine s_move (d := (sc (.int .u32 x1))) rfl ?_
   refine s_move (d := (sc (.int .u8 v4))) rfl ?_
   refine s_convI F.u_5 F.u_120 rfl ?_
   refine s_binI (v := (.int .u32 (Go.bits .xor .u32 x1 (IntKind.u32.wrap v4)))) rfl rfl rfl ?_
   refine s_assign (d := (sc (.int .u32 (Go.bits .xor .u32 x1 (IntKind.u32.wrap v4))))) rfl (AWops.nil (AW.seq (AW.region ?_)))
   refine s_move (d := (sc (.int .i64 0))) rfl (AWops.nil (AW.block ?_))
   refine AW.loopw (st0 := ⟨30, (upd 30 (upd 30 (upd 30 (upd 30 (upd 30 topF 3 (sc (.int .u32 (Go.bits .xor .u32 x1 (IntKind.u32.wrap v4))))) 6 (D.one (C.p false (.sl a0.length (a0.flatMap e_u8))))) 7 (sc (.int .i64 (a0.length : Int)))) 8 (sc (.int .i64 x2))) 16 (sc (.int .i64 0))), []⟩) (fun kv st => kv ≤ ql0 ∧ ∃ (x5 : Int) (x6 : Int), wire_Crc.l1 kv x5 x6 a0 x2 = some r ∧ st = ⟨30, (upd 30 (upd 30 (upd 30 (upd 30 (upd 30 topF 3 (sc (.int .u32 x5))) 6 (D.one (C.p false (.sl a0.length (a0.flatMap e_u8))))) 7 (sc (.int .i64 (a0.length : Int)))) 8 (sc (.int .i64 x2))) 16 (sc (.int .i64 x6))), []⟩) (k := ql0) (Weak.gen (kk := 0) [] [] hx rfl (by decide) (by decide) rfl rfl rfl (le_upd (le_upd (le_upd (le_upd (le_upd (le_top _) (.t (.one .sc))) (.t (.one .same))) (.t (.one .sc))) (.t (.one .sc))) (.t (.one .sc))) an) ⟨Nat.le_refl _, Go.bits .xor .u32 x1 (IntKind.u32.wrap v4), 0, h, rfl⟩ ?_
   rintro ql1 st ⟨hkl1, x5, x6, h, rfl⟩
   cases ql1 with
   | zero => exact absurd h (by simp [wire_Crc.l1])
   | succ ql1 =>
    replace h := (wire_Crc.l1.eq_2 _ _ _ _ _).symm.trans h
    refine AW.seq (AW.region ?_)
    refine s_binI (v := (.bool (decide (x6 < 8)))) rfl rfl rfl (AWops.nil (AW.seq ?_))
    rcases itH h with ⟨c7, h⟩ | ⟨c7, h⟩
    ·refine AW.cond_yes rfl c7 (AW.skip (AW.seq (AW.block (AW.region ?_))))
     refine s_move (d := (sc (.int .u32 x5))) rfl ?_
     refine s_shift (v := (.int .u32 (Int.fdiv x5 (2 ^ 1)))) rfl rfl rfl ?_
     refine s_move (d := (sc (.int .u32 x5))) rfl ?_
     refine s_binI (v := (.int .u32 (Go.bits .and .u32 x5 1))) rfl rfl rfl ?_
     refine s_unI (v := (.int .u32 (IntKind.u32.wrap (0 - (Go.bits .and .u32 x5 1))))) rfl rfl ?_
     refine s_binI (v := (.int .u32 (Go.bits .and .u32 3988292384 (IntKind.u32.wrap (0 - (Go.bits .and .u32 x5 1)))))) rfl rfl rfl ?_
     refine s_binI (v := (.int .u32 (Go.bits .xor .u32 (Int.fdiv x5 (2 ^ 1)) (Go.bits .and .u32 3988292384 (IntKind.u32.wrap (0 - (Go.bits .and .u32 x5 1))))))) rfl rfl rfl ?_
     refine s_assign (d := (sc (.int .u32 (Go.bits .xor .u32 (Int.fdiv x5 (2 ^ 1)) (Go.bits .and .u32 3988292384 (IntKind.u32.wrap (0 - (Go.bits .and .u32 x5 1)))))))) rfl (AWops.nil (AW.region ?_))
     refine s_binI (v := (.int .i64 (IntKind.i64.wrap (x6 + 1)))) rfl rfl rfl ?_
     refine s_move (d := (sc (.int .i64 (IntKind.i64.wrap (x6 + 1))))) rfl (AWops.nil ?_)
     exact ⟨_, ⟨30, (upd 30 (upd 30 (upd 30 (upd 30 (upd 30 topF 3 (sc (.int .u32 (Go.bits .xor .u32 (Int.fdiv x5 (2 ^ 1)) (Go.bits .and .u32 3988292384 (IntKind.u32.wrap (0 - (Go.bits .and .u32 x5 1)))))))) 6 (D.one (C.p false (.sl a0.length (a0.flatMap e_u8))))) 7 (sc (.int .i64 (a0.length : Int)))) 8 (sc (.int .i64 x2))) 16 (sc (.int .i64 (IntKind.i64.wrap (x6 + 1))))), []⟩, by omega, (Weak.gen (kk := 0) [] [] hx rfl (by decide) (by decide) rfl rfl rfl (le_upd (le_upd (le_upd (le_upd (le_upd (le_top _) (.t (.one .sc))) (.t (.one .same))) (.t (.one .sc))) (.t (.one .sc))) (.t (.one .sc))) an), by omega, Go.bits .xor .u32 (Int.fdiv x5 (2 ^ 1)) (Go.bits .and .u32 3988292384 (IntKind.u32.wrap (0 - (Go.bits .and .u32 x5 1)))), IntKind.i64.wrap (x6 + 1), h, rfl⟩
    ·refine AW.cond_no rfl c7 (AW.exit (AW.region ?_))
     refine s_binI (v := (.int .i64 (IntKind.i64.wrap (x2 + 1)))) rfl rfl rfl ?_
     refine s_move (d := (sc (.int .i64 (IntKind.i64.wrap (x2 + 1))))) rfl (AWops.nil ?_)
     exact ⟨_, ⟨30, (upd 30 (upd 30 (upd 30 (upd 30 topF 3 (sc (.int .u32 x5))) 6 (D.one (C.p false (.sl a0.length (a0.flatMap e_u8))))) 7 (sc (.int .i64 (a0.length : Int)))) 8 (sc (.int .i64 (IntKind.i64.wrap (x2 + 1))))), []⟩, by omega, (Weak.gen (kk := 0) [] [] hx rfl (by decide) (by decide) rfl rfl rfl (le_upd (le_upd (le_upd (le_upd (le_top _) (.t (.one .sc))) (.t (.one .same))) (.t (.one .sc))) (.t (.one .sc))) an), by omega, x5, IntKind.i64.wrap (x2 + 1), h, rfl⟩
  ·refine AW.cond_no rfl c3 (AW.exit (AW.seq (AW.region ?_)))
   refine s_move (d := (sc (.int .u32 x1))) rfl ?_
   refine s_unI (v := (.int .u32 (Go.bits .xor .u32 4294967295 x1))) rfl rfl ?_
   refine s_convI F.u_120 F.u_3 rfl ?_
   refine s_assign (d := (sc (.int .i64 (IntKind.i64.wrap (Go.bits .xor .u32 4294967295 x1))))) rfl (AWops.nil (AW.ret ?_))
   obtain rfl := Option.some.inj h
   exact ⟨_, rfl, (Weak.gen (kk := 0) [] [] rfl rfl (by decide) (by decide) rfl rfl rfl (le_upd (le_top _) (.t (.one .sc))) an)⟩
def slices_Grow_byte_byte_nil0.f (k : Nat) (a1 : Int) : Option (List Int) := if (decide (a1 < 0)) = true then (none) else (if (decide ((IntKind.i64.wrap (a1 - 0)) > 0)) = true then (if (decide (0 < (IntKind.i64.wrap (a1 - 0)) ∧ (IntKind.i64.wrap (a1 - 0)) ≤ 140737488355328)) = true then (some ([] : List Int)) else none) else (some ([] : List Int)))
theorem slices_Grow_byte_byte_nil0.meets (k : Nat) (a1 : Int) (r : (List Int)) (h : slices_Grow_byte_byte_nil0.f k a1 = some r) : Meets Try.prog 78 [(sc (.slice none 0 0)), (sc (.int .i64 a1))] [] (D.one (C.own 0 0 r.length 1)) [(some (AObj.cells true (rowC e_u8 r)))] := by
 unfold slices_Grow_byte_byte_nil0.f at h
 refine Meets.of_body (n := 27) Try.func78 rfl rfl (nl rfl) fun x hx => ?_
 replace hx : x.k = 0 := hx
 show AW _ x _ _ ⟨27, fr0 [(sc (.slice none 0 0)), (sc (.int .i64 a1))], []⟩
 refine AW.seq (AW.region ?_)
 refine s_assign (d := (sc (.slice none 0 0))) rfl (AWops.nil (AW.seq (AW.seq (AW.region ?_))))
 refine s_move (d := (sc (.int .i64 a1))) rfl ?_
 refine s_binI (v := (.bool (decide (a1 < 0)))) rfl rfl rfl (AWops.nil ?_)
 rcases itH h with ⟨c1, h⟩ | ⟨c1, h⟩
 ·refine AW.cond_yes rfl c1 (AW.region ?_)
  cases h
 ·refine AW.cond_no rfl c1 (AW.skip (AW.seq (AW.seq (AW.region ?_))))
  refine s_move (d := (sc (.int .i64 a1))) rfl ?_
  refine s_move (d := (sc (.slice none 0 0))) rfl ?_
  refine s_capNil F.u_22 rfl ?_
  refine s_move (d := (sc (.slice none 0 0))) rfl ?_
  refine s_len (n := 0) F.u_22 rfl (.inr ⟨(fun _ _ h => by cases h), ⟨_, rfl⟩⟩) ?_
  refine s_binI (v := (.int .i64 0)) rfl rfl (by rfl) ?_
  refine s_binI (v := (.int .i64 (IntKind.i64.wrap (a1 - 0)))) rfl rfl rfl ?_
  refine s_assign (d := (sc (.int .i64 (IntKind.i64.wrap (a1 - 0))))) rfl (AWops.nil (AW.seq (AW.region ?_)))
  refine s_move (d := (sc (.int .i64 (IntKind.i64.wrap (a1 - 0))))) rfl ?_
  refine s_binI (v := (.bool (decide ((IntKind.i64.wrap (a1 - 0)) > 0)))) rfl rfl rfl (AWops.nil ?_)
  rcases itH h with ⟨c2, h⟩ | ⟨c2, h⟩
  ·refine AW.cond_yes rfl c2 (AW.region ?_)
   refine s_move (d := (sc (.slice none 0 0))) rfl ?_
   refine s_move (d := (sc (.slice none 0 0))) rfl ?_
   refine s_capNil F.u_22 rfl ?_
   refine s_sliceNil F.u_22 F.sz_5 rfl rfl ?_
   refine s_move (d := (sc (.int .i64 (IntKind.i64.wrap (a1 - 0))))) rfl ?_
   obtain ⟨c3, h⟩ := gdH h
   have dc3 := of_decide_eq_true c3
   refine t_appendMake (f := e_u8) (a0 := (0 : Int)) F.u_22 F.u_3 F.in_5 rfl (by decide) rfl rfl rfl rfl (by omega) (by omega) (by omega) ?_
   refine s_move (d := (sc (.slice none 0 0))) rfl ?_
   refine s_len (n := 0) F.u_22 rfl (.inr ⟨(fun _ _ h => by cases h), ⟨_, rfl⟩⟩) ?_
   refine t_cut0 F.u_22 F.sz_5 rfl rfl rfl rfl ?_
   refine s_assign (d := (D.one (C.own 0 0 (([] : List Int).length) 1))) rfl (AWops.nil (AW.seq (AW.region ?_)))
   refine s_move (d := (D.one (C.own 0 0 (([] : List Int).length) 1))) rfl ?_
   refine s_assign (d := (D.one (C.own 0 0 (([] : List Int).length) 1))) rfl (AWops.nil (AW.ret ?_))
   obtain rfl := Option.some.inj h
   exact ⟨_, rfl, (Weak.gen (kk := 0) [0] [] rfl rfl (by decide) (by decide) rfl rfl rfl (le_upd (le_top _) (.t (.one (.own rfl)))) (ac (.cells (fun _ => rfl) an) an))⟩
  ·refine AW.cond_no rfl c2 (AW.skip (AW.seq (AW.region ?_)))
   refine s_move (d := (sc (.slice none 0 0))) rfl ?_
   refine s_assign (d := (sc (.slice none 0 0))) rfl (AWops.nil (AW.ret ?_))
   obtain rfl := Option.some.inj h
   exact ⟨_, rfl, (Weak.trans (Weak.nil (sz := 1) (i := 0) rfl) (Weak.gen (kk := 0) [0] [] rfl rfl (by decide) (by decide) rfl rfl rfl (le_upd (le_top _) (.t (.one (CLe.ownN rfl (by simp))))) (ac (.cells (fun _ => rfl) an) an)))⟩
mutual
def slices_Concat_byte_byte.l1 : Nat → (List Int) → Int → (List (List Int)) → Option (List Int)
 | 0, _, _, _ => none
 | k + 1, x7, x8, a0 => if (decide (x8 < (a0.length : Int))) = true then ((rd a0 x8).bind fun v10 => if (decide (x7.length + v10.length ≤ 140737488355328)) = true then (slices_Concat_byte_byte.l1 k (x7 ++ v10) (IntKind.i64.wrap (x8 + 1)) a0) else none) else (some x7)
def slices_Concat_byte_byte.l0 : Nat → Int → Int → (List (List Int)) → Option (List Int)
 | 0, _, _, _ => none
 | k + 1, x1, x2, a0 => if (decide (x2 < (a0.length : Int))) = true then ((rd a0 x2).bind fun v4 => if (decide ((IntKind.i64.wrap (x1 + (v4.length : Int))) < 0)) = true then (none) else (slices_Concat_byte_byte.l0 k (IntKind.i64.wrap (x1 + (v4.length : Int))) (IntKind.i64.wrap (x2 + 1)) a0)) else ((slices_Grow_byte_byte_nil0.f k x1).bind fun r6 => slices_Concat_byte_byte.l1 k r6 0 a0)
end
def slices_Concat_byte_byte.f (k : Nat) (a0 : List (List Int)) : Option (List Int) := slices_Concat_byte_byte.l0 k 0 0 a0
theorem slices_Concat_byte_byte.meets (k : Nat) (a0 : List (List Int)) (r : (List Int)) (h : slices_Concat_byte_byte.f k a0 = some r) : Meets Try.prog 57 [(D.one (C.p false (.sl a0.length (a0.flatMap (e_sl e_u8)))))] [] (D.one (C.own 0 0 r.length 1)) [(some (AObj.cells true (rowC e_u8 r)))] := by
 unfold slices_Concat_byte_byte.f at h
 refine Meets.of_body (n := 36) Try.func57 rfl rfl (nl rfl) fun x hx => ?_
 replace hx : x.k = 0 := hx
 show AW _ x _ _ ⟨36, fr0 [(D.one (C.p false (.sl a0.length (a0.flatMap (e_sl e_u8)))))], []⟩
 refine AW.seq (AW.region ?_)
 refine s_assign (d := (sc (.slice none 0 0))) rfl (AWops.nil (AW.seq (AW.region ?_)))
 refine s_assign (d := (sc (.int .i64 0))) rfl (AWops.nil (AW.seq (AW.seq (AW.region ?_))))
 refine s_move (d := (D.one (C.p false (.sl a0.length (a0.flatMap (e_sl e_u8)))))) rfl ?_
 refine s_len (n := a0.length) F.u_25 rfl (.inr ⟨(fun _ _ h => by cases h), ⟨_, rfl⟩⟩) ?_
 refine s_move (d := (sc (.int .i64 0))) rfl (AWops.nil (AW.block ?_))
 refine AW.loopw (st0 := ⟨36, (upd 36 (upd 36 (upd 36 (upd 36 (upd 36 topF 0 (D.one (C.p false (.sl a0.length (a0.flatMap (e_sl e_u8)))))) 3 (sc (.int .i64 0))) 9 (D.one (C.p false (.sl a0.length (a0.flatMap (e_sl e_u8)))))) 10 (sc (.int .i64 (a0.length : Int)))) 11 (sc (.int .i64 0))), []⟩) (fun kv st => kv ≤ k ∧ ∃ (x1 : Int) (x2 : Int), slices_Concat_byte_byte.l0 kv x1 x2 a0 = some r ∧ st = ⟨36, (upd 36 (upd 36 (upd 36 (upd 36 (upd 36 topF 0 (D.one (C.p false (.sl a0.length (a0.flatMap (e_sl e_u8)))))) 3 (sc (.int .i64 x1))) 9 (D.one (C.p false (.sl a0.length (a0.flatMap (e_sl e_u8)))))) 10 (sc (.int .i64 (a0.length : Int)))) 11 (sc (.int .i64 x2))), []⟩) (k := k) (Weak.gen (kk := 0) [] [] hx rfl (by decide) (by decide) rfl rfl rfl (le_upd (le_upd (le_upd (le_upd (le_upd (le_top _) (.t (.one .same))) (.t (.one .sc))) (.t (.one .same))) (.t (.one .sc))) (.t (.one .sc))) an) ⟨Nat.le_refl _, 0, 0, h, rfl⟩ ?_
 rintro ql0 st ⟨hkl0, x1, x2, h, rfl⟩
 cases ql0 with
 | zero => exact absurd h (by simp [slices_Concat_byte_byte.l0])
 | succ ql0 =>
  replace h := (slices_Concat_byte_byte.l0.eq_2 _ _ _ _).symm.trans h
  refine AW.seq (AW.region ?_)
  refine s_binI (v := (.bool (decide (x2 < (a0.length : Int))))) rfl rfl rfl (AWops.nil (AW.seq ?_))
  rcases itH h with ⟨c3, h⟩ | ⟨c3, h⟩
  ·refine AW.cond_yes rfl c3 (AW.skip (AW.seq (AW.block (AW.seq (AW.region ?_)))))
   obtain ⟨v4, ev4, h⟩ := bnd h
   obtain ⟨pv4, qv4, gv4⟩ := rd_some ev4
   refine s_indexImm (ps := [P.sl v4.length (v4.flatMap e_u8)]) F.u_25 F.sz_22 rfl rfl pv4 qv4 (flat_at (e_sl_len _) gv4 (e_sl_eq _ v4)) ?_
   refine s_load1 (c' := (C.p false (.sl v4.length (v4.flatMap e_u8)))) F.ag_22 rfl rfl ?_
   refine s_assign (d := (D.one (C.p false (.sl v4.length (v4.flatMap e_u8))))) rfl (AWops.nil (AW.seq (AW.region ?_)))
   refine s_move (d := (sc (.int .i64 x1))) rfl ?_
   refine s_move (d := (D.one (C.p false (.sl v4.length (v4.flatMap e_u8))))) rfl ?_
   refine s_len (n := v4.length) F.u_22 rfl (.inr ⟨(fun _ _ h => by cases h), ⟨_, rfl⟩⟩) ?_
   refine s_binI (v := (.int .i64 (IntKind.i64.wrap (x1 + (v4.length : Int))))) rfl rfl rfl ?_
   refine s_assign (d := (sc (.int .i64 (IntKind.i64.wrap (x1 + (v4.length : Int)))))) rfl (AWops.nil (AW.seq (AW.region ?_)))
   refine s_move (d := (sc (.int .i64 (IntKind.i64.wrap (x1 + (v4.length : Int)))))) rfl ?_
   refine s_binI (v := (.bool (decide ((IntKind.i64.wrap (x1 + (v4.length : Int))) < 0)))) rfl rfl rfl (AWops.nil ?_)
   rcases itH h with ⟨c5, h⟩ | ⟨c5, h⟩
   ·refine AW.cond_yes rfl c5 (AW.region ?_)
    cases h
   ·refine AW.cond_no rfl c5 (AW.skip (AW.region ?_))
    refine s_binI (v := (.int .i64 (IntKind.i64.wrap (x2 + 1)))) rfl rfl rfl ?_
    refine s_move (d := (sc (.int .i64 (IntKind.i64.wrap (x2 + 1))))) rfl (AWops.nil ?_)
    exact ⟨_, ⟨36, (upd 36 (upd 36 (upd 36 (upd 36 (upd 36 topF 0 (D.one (C.p false (.sl a0.length (a0.flatMap (e_sl e_u8)))))) 3 (sc (.int .i64 (IntKind.i64.wrap (x1 + (v4.length : Int)))))) 9 (D.one (C.p false (.sl a0.length (a0.flatMap (e_sl e_u8)))))) 10 (sc (.int .i64 (a0.length : Int)))) 11 (sc (.int .i64 (IntKind.i64.wrap (x2 + 1))))), []⟩, by omega, (Weak.gen (kk := 0) [] [] hx rfl (by decide) (by decide) rfl rfl rfl (le_upd (le_upd (le_upd (le_upd (le_upd (le_top _) (.t (.one .same))) (.t (.one .sc))) (.t (.one .same))) (.t (.one .sc))) (.t (.one .sc))) an), by omega, IntKind.i64.wrap (x1 + (v4.length : Int)), IntKind.i64.wrap (x2 + 1), h, rfl⟩
  ·refine AW.cond_no rfl c3 (AW.exit (AW.seq (AW.region ?_)))
   refine s_move (d := (sc (.int .i64 x1))) rfl ?_
   obtain ⟨r6, er6, h⟩ := bnd h
   refine s_call2 (ρ := []) (br := false) (H2 := [(some (AObj.cells true (rowC e_u8 r6)))]) (d := (D.one (C.own 0 0 r6.length 1))) F.ca_78 rfl rfl (ac (.one .sc) (ac (.one .sc) an)) an (by decide) rfl (slices_Grow_byte_byte_nil0.meets _ x1 r6 er6) (.inl rfl) (by first | rfl | (simp only [mergeH2, orF, Bool.false_or, Bool.or_false, Bool.true_or, Bool.or_true, mergeAt, mergeObj, renO, ren_row, List.drop_succ_cons, List.drop_zero, List.map_cons, List.map_nil, Option.map_some, Option.map_none, List.length_cons, List.length_nil, Nat.zero_add, List.append_assoc, List.cons_append, List.nil_append]; done) | (simp only [mergeH2, orF, Bool.false_or, Bool.or_false, Bool.true_or, Bool.or_true, mergeAt, mergeObj, renO, ren_row, List.drop_succ_cons, List.drop_zero, List.map_cons, List.map_nil, Option.map_some, Option.map_none, List.length_cons, List.length_nil, Nat.zero_add, List.append_assoc, List.cons_append, List.nil_append]; rfl)) rfl ?_
   refine s_assign (d := (D.one (C.own 0 0 r6.length 1))) rfl (AWops.nil (AW.seq (AW.seq (AW.region ?_))))
   refine s_move (d := (D.one (C.p false (.sl a0.length (a0.flatMap (e_sl e_u8)))))) rfl ?_
   refine s_len (n := a0.length) F.u_25 rfl (.inr ⟨(fun _ _ h => by cases h), ⟨_, rfl⟩⟩) ?_
   refine s_move (d := (sc (.int .i64 0))) rfl (AWops.nil (AW.block ?_))
   refine AW.loopw (st0 := ⟨36, (upd 36 (upd 36 (upd 36 (upd 36 topF 6 (D.one (C.own 0 0 r6.length 1))) 25 (D.one (C.p false (.sl a0.length (a0.flatMap (e_sl e_u8)))))) 26 (sc (.int .i64 (a0.length : Int)))) 27 (sc (.int .i64 0))), [(some (AObj.cells true (rowC e_u8 r6)))]⟩) (fun kv st => kv ≤ ql0 ∧ ∃ (x7 : List Int) (x8 : Int), slices_Concat_byte_byte.l1 kv x7 x8 a0 = some r ∧ st = ⟨36, (upd 36 (upd 36 (upd 36 (upd 36 topF 6 (D.one (C.own 0 0 x7.length 1))) 25 (D.one (C.p false (.sl a0.length (a0.flatMap (e_sl e_u8)))))) 26 (sc (.int .i64 (a0.length : Int)))) 27 (sc (.int .i64 x8))), [(some (AObj.cells true (rowC e_u8 x7)))]⟩) (k := ql0) (Weak.gen (kk := 0) [0] [] hx rfl (by decide) (by decide) rfl rfl rfl (le_upd (le_upd (le_upd (le_upd (le_top _) (.t (.one (.own rfl)))) (.t (.one .same))) (.t (.one .sc))) (.t (.one .sc))) (ac (.cells (fun _ => rfl) (all2_row _)) an)) ⟨Nat.le_refl _, r6, 0, h, rfl⟩ ?_
   rintro ql1 st ⟨hkl1, x7, x8, h, rfl⟩
   cases ql1 with
   | zero => exact absurd h (by simp [slices_Concat_byte_byte.l1])
   | succ ql1 =>
    replace h := (slices_Concat_byte_byte.l1.eq_2 _ _ _ _).symm.trans h
    refine AW.seq (AW.region ?_)
    refine s_binI (v := (.bool (decide (x8 < (a0.length : Int))))) rfl rfl rfl (AWops.nil (AW.seq ?_))
    rcases itH h with ⟨c9, h⟩ | ⟨c9, h⟩
    ·refine AW.cond_yes rfl c9 (AW.skip (AW.seq (AW.block (AW.seq (AW.region ?_)))))
     obtain ⟨v10, ev10, h⟩ := bnd h
     obtain ⟨pv10, qv10, gv10⟩ := rd_some ev10
     refine s_indexImm (ps := [P.sl v10.length (v10.flatMap e_u8)]) F.u_25 F.sz_22 rfl rfl pv10 qv10 (flat_at (e_sl_len _) gv10 (e_sl_eq _ v10)) ?_
     refine s_load1 (c' := (C.p false (.sl v10.length (v10.flatMap e_u8)))) F.ag_22 rfl rfl ?_
     refine s_assign (d := (D.one (C.p false (.sl v10.length (v10.flatMap e_u8))))) rfl (AWops.nil (AW.region ?_))
     refine s_move (d := (D.one (C.own 0 0 x7.length 1))) rfl ?_
     refine s_move (d := (D.one (C.p false (.sl v10.length (v10.flatMap e_u8))))) rfl ?_
     obtain ⟨c11, h⟩ := gdH h
     have dc11 := of_decide_eq_true c11
     refine t_append (xs := x7) (ys := v10) (zs := x7 ++ v10) (H' := [none, (some (AObj.cells true (rowC e_u8 (x7 ++ v10))))]) F.u_22 F.in_5 rfl e_u8_len (.own rfl rfl) .imm F.u_22 (by omega) (by omega) rfl rfl ?_
     refine s_assign (d := (D.one (C.own 1 0 ((x7 ++ v10).length) 1))) rfl (AWops.nil (AW.region ?_))
     refine s_binI (v := (.int .i64 (IntKind.i64.wrap (x8 + 1)))) rfl rfl rfl ?_
     refine s_move (d := (sc (.int .i64 (IntKind.i64.wrap (x8 + 1))))) rfl (AWops.nil ?_)
     exact ⟨_, ⟨36, (upd 36 (upd 36 (upd 36 (upd 36 topF 6 (D.one (C.own 0 0 (x7 ++ v10).length 1))) 25 (D.one (C.p false (.sl a0.length (a0.flatMap (e_sl e_u8)))))) 26 (sc (.int .i64 (a0.length : Int)))) 27 (sc (.int .i64 (IntKind.i64.wrap (x8 + 1))))), [(some (AObj.cells true (rowC e_u8 (x7 ++ v10))))]⟩, by omega, (Weak.gen (kk := 0) [1] [] hx rfl (by decide) (by decide) rfl rfl rfl (le_upd (le_upd (le_upd (le_upd (le_top _) (.t (.one (.own rfl)))) (.t (.one .same))) (.t (.one .sc))) (.t (.one .sc))) (ac (.cells (fun _ => rfl) (all2_row _)) an)), by omega, x7 ++ v10, IntKind.i64.wrap (x8 + 1), h, rfl⟩
    ·refine AW.cond_no rfl c9 (AW.exit (AW.seq (AW.region ?_)))
     refine s_move (d := (D.one (C.own 0 0 x7.length 1))) rfl ?_
     refine s_assign (d := (D.one (C.own 0 0 x7.length 1))) rfl (AWops.nil (AW.ret ?_))
     obtain rfl := Option.some.inj h
     exact ⟨_, rfl, (Weak.gen (kk := 0) [0] [] rfl rfl (by decide) (by decide) rfl rfl rfl (le_upd (le_top _) (.t (.one (.own rfl)))) (ac (.cells (fun _ => rfl) (all2_row _)) an))⟩
mutual
def journal_frame.l0 : Nat → (List Int) → Int → (List Int) → Int → Option (List Int)
 | 0, _, _, _, _ => none
 | k + 1, x2, x3, a0, r1 => if (decide (x3 < 4)) = true then (if (decide (0 ≤ (IntKind.i64.wrap (24 - (IntKind.i64.wrap (8 * x3)))))) = true then (if (decide (x3 < 8)) = true then ((rd x2 x3).bind fun v7 => if (decide ((IntKind.i64.wrap (4 + x3)) < 8)) = true then ((rd (x2.set x3.toNat (IntKind.u8.wrap (Int.fdiv (a0.length : Int) (2 ^ (min (IntKind.i64.wrap (24 - (IntKind.i64.wrap (8 * x3)))).toNat 64))))) (IntKind.i64.wrap (4 + x3))).bind fun v9 => journal_frame.l0 k ((x2.set x3.toNat (IntKind.u8.wrap (Int.fdiv (a0.length : Int) (2 ^ (min (IntKind.i64.wrap (24 - (IntKind.i64.wrap (8 * x3)))).toNat 64))))).set (IntKind.i64.wrap (4 + x3)).toNat (IntKind.u8.wrap (Int.fdiv r1 (2 ^ (min (IntKind.i64.wrap (24 - (IntKind.i64.wrap (8 * x3)))).toNat 64))))) (IntKind.i64.wrap (x3 + 1)) a0 r1) else none) else none) else none) else (if (decide (x2.length = 8)) = true then ((slices_Concat_byte_byte.f k ([x2, a0] : List (List Int))).bind fun r11 => some r11) else none)
end
def journal_frame.f (k : Nat) (a0 : List Int) : Option (List Int) := (wire_Crc.f k a0).bind fun r1 => journal_frame.l0 k (List.replicate 8 (0 : Int)) 0 a0 r1
theorem journal_frame.meets (k : Nat) (a0 : List Int) (r : (List Int)) (h : journal_frame.f k a0 = some r) : Meets Try.prog 26 [(D.one (C.p false (.sl a0.length (a0.flatMap e_u8))))] [] (D.one (C.own 0 0 r.length 1)) [(some (AObj.cells true (rowC e_u8 r)))] := by
 unfold journal_frame.f at h
 refine Meets.of_body (n := 36) Try.func26 rfl rfl (nl rfl) fun x hx => ?_
 replace hx : x.k = 0 := hx
 show AW _ x _ _ ⟨36, fr0 [(D.one (C.p false (.sl a0.length (a0.flatMap e_u8))))], []⟩
 refine AW.seq (AW.region ?_)
 refine s_assign (d := (sc (.slice none 0 0))) rfl (AWops.nil (AW.seq (AW.region ?_)))
 refine s_move (d := (D.one (C.p false (.sl a0.length (a0.flatMap e_u8))))) rfl ?_
 refine s_len (n := a0.length) F.u_22 rfl (.inr ⟨(fun _ _ h => by cases h), ⟨_, rfl⟩⟩) ?_
 refine s_move (d := (D.one (C.p false (.sl a0.length (a0.flatMap e_u8))))) rfl ?_
 obtain ⟨r1, er1, h⟩ := bnd h
 refine s_call2 (ρ := []) (br := false) (H2 := []) (d := (sc (.int .i64 r1))) F.ca_58 rfl rfl (ac (.one .imm) an) an (by decide) rfl (wire_Crc.meets _ a0 r1 er1) (.inl rfl) rfl rfl ?_
 refine s_assign (d := (sc (.int .i64 (a0.length : Int)))) rfl ?_
 refine s_assign (d := (sc (.int .i64 r1))) rfl (AWops.nil (AW.seq (AW.region ?_)))
 refine s_alloc (cs := rowC e_u8 (List.replicate 8 (0 : Int))) F.z_97 rfl rfl (AWops.nil (AW.seq (AW.seq (AW.region ?_))))
 refine s_move (d := (sc (.int .i64 0))) rfl (AWops.nil (AW.block ?_))
 refine AW.loopw (st0 := ⟨36, (upd 36 (upd 36 (upd 36 (upd 36 (upd 36 topF 0 (D.one (C.p false (.sl a0.length (a0.flatMap e_u8))))) 3 (sc (.int .i64 (a0.length : Int)))) 4 (sc (.int .i64 r1))) 5 (D.one (C.ref 0 0))) 11 (sc (.int .i64 0))), [(some (AObj.cells true (rowC e_u8 (List.replicate 8 (0 : Int)))))]⟩) (fun kv st => kv ≤ k ∧ ∃ (x2 : List Int) (x3 : Int), journal_frame.l0 kv x2 x3 a0 r1 = some r ∧ st = ⟨36, (upd 36 (upd 36 (upd 36 (upd 36 (upd 36 topF 0 (D.one (C.p false (.sl a0.length (a0.flatMap e_u8))))) 3 (sc (.int .i64 (a0.length : Int)))) 4 (sc (.int .i64 r1))) 5 (D.one (C.ref 0 0))) 11 (sc (.int .i64 x3))), [(some (AObj.cells true (rowC e_u8 x2)))]⟩) (k := k) (Weak.gen (kk := 0) [0] [] hx rfl (by decide) (by decide) rfl rfl rfl (le_upd (le_upd (le_upd (le_upd (le_upd (le_top _) (.t (.one .same))) (.t (.one .sc))) (.t (.one .sc))) (.t (.one (.ref rfl)))) (.t (.one .sc))) (ac (.cells (fun _ => rfl) (all2_row _)) an)) ⟨Nat.le_refl _, (List.replicate 8 (0 : Int)), 0, h, rfl⟩ ?_
 rintro ql0 st ⟨hkl0, x2, x3, h, rfl⟩
 cases ql0 with
 | zero => exact absurd h (by simp [journal_frame.l0])
 | succ ql0 =>
  replace h := (journal_frame.l0.eq_2 _ _ _ _ _).symm.trans h
  refine AW.seq (AW.region ?_)
  refine s_binI (v := (.bool (decide (x3 < 4)))) rfl rfl rfl (AWops.nil (AW.seq ?_))
  rcases itH h with ⟨c4, h⟩ | ⟨c4, h⟩
  ·refine AW.cond_yes rfl c4 (AW.skip (AW.seq (AW.block (AW.seq (AW.region ?_)))))
   refine s_move (d := (sc (.int .i64 x3))) rfl ?_
   refine s_assign (d := (sc (.int .i64 x3))) rfl (AWops.nil (AW.seq (AW.region ?_)))
   refine s_move (d := (sc (.int .i64 x3))) rfl ?_
   refine s_move (d := (sc (.int .i64 (a0.length : Int)))) rfl ?_
   refine s_move (d := (sc (.int .i64 x3))) rfl ?_
   refine s_binI (v := (.int .i64 (IntKind.i64.wrap (8 * x3)))) rfl rfl rfl ?_
   refine s_binI (v := (.int .i64 (IntKind.i64.wrap (24 - (IntKind.i64.wrap (8 * x3)))))) rfl rfl rfl ?_
   obtain ⟨c5, h⟩ := gdH h
   refine s_shift (v := (.int .i64 (Int.fdiv (a0.length : Int) (2 ^ (min (IntKind.i64.wrap (24 - (IntKind.i64.wrap (8 * x3)))).toNat 64))))) rfl rfl (if_neg (by have := of_decide_eq_true c5; omega)) ?_
   refine s_convI F.u_3 F.u_5 rfl ?_
   obtain ⟨c6, h⟩ := gdH h
   obtain ⟨v7, ev7, h⟩ := bnd h
   obtain ⟨pv7, qv7, gv7⟩ := rd_some ev7
   refine s_indexArr (n := 8) (d := (D.one (C.ref 0 (0 + x3.toNat * 1)))) F.u_97 F.sz_5 rfl rfl pv7 (of_decide_eq_true c6) rfl ?_
   refine s_store (cs' := rowC e_u8 (x2.set x3.toNat (IntKind.u8.wrap (Int.fdiv (a0.length : Int) (2 ^ (min (IntKind.i64.wrap (24 - (IntKind.i64.wrap (8 * x3)))).toNat 64)))))) rfl rfl rfl (List.cons_ne_nil _ _) rfl F.sz_5 (by rw [row_len e_u8_len]; have := (List.getElem?_eq_some_iff.mp gv7).1; show _ + 1 ≤ _; omega) (row_set (f := e_u8) (sz := 1) (o := 0) (ds := [P.v (.int .u8 (IntKind.u8.wrap (Int.fdiv (a0.length : Int) (2 ^ (min (IntKind.i64.wrap (24 - (IntKind.i64.wrap (8 * x3)))).toNat 64)))))]) e_u8_len gv7 rfl (nl rfl) rfl) ?_
   refine AWops.nil (AW.region ?_)
   refine s_move (d := (sc (.int .i64 x3))) rfl ?_
   refine s_binI (v := (.int .i64 (IntKind.i64.wrap (4 + x3)))) rfl rfl rfl ?_
   refine s_move (d := (sc (.int .i64 r1))) rfl ?_
   refine s_move (d := (sc (.int .i64 x3))) rfl ?_
   refine s_binI (v := (.int .i64 (IntKind.i64.wrap (8 * x3)))) rfl rfl rfl ?_
   refine s_binI (v := (.int .i64 (IntKind.i64.wrap (24 - (IntKind.i64.wrap (8 * x3)))))) rfl rfl rfl ?_
   refine s_shift (v := (.int .i64 (Int.fdiv r1 (2 ^ (min (IntKind.i64.wrap (24 - (IntKind.i64.wrap (8 * x3)))).toNat 64))))) rfl rfl (if_neg (by have := of_decide_eq_true c5; omega)) ?_
   refine s_convI F.u_3 F.u_5 rfl ?_
   obtain ⟨c8, h⟩ := gdH h
   obtain ⟨v9, ev9, h⟩ := bnd h
   obtain ⟨pv9, qv9, gv9⟩ := rd_some ev9
   refine s_indexArr (n := 8) (d := (D.one (C.ref 0 (0 + (IntKind.i64.wrap (4 + x3)).toNat * 1)))) F.u_97 F.sz_5 rfl rfl pv9 (of_decide_eq_true c8) rfl ?_
   refine s_store (cs' := rowC e_u8 ((x2.set x3.toNat (IntKind.u8.wrap (Int.fdiv (a0.length : Int) (2 ^ (min (IntKind.i64.wrap (24 - (IntKind.i64.wrap (8 * x3)))).toNat 64))))).set (IntKind.i64.wrap (4 + x3)).toNat (IntKind.u8.wrap (Int.fdiv r1 (2 ^ (min (IntKind.i64.wrap (24 - (IntKind.i64.wrap (8 * x3)))).toNat 64)))))) rfl rfl rfl (List.cons_ne_nil _ _) rfl F.sz_5 (by rw [row_len e_u8_len]; have := (List.getElem?_eq_some_iff.mp gv9).1; show _ + 1 ≤ _; omega) (row_set (f := e_u8) (sz := 1) (o := 0) (ds := [P.v (.int .u8 (IntKind.u8.wrap (Int.fdiv r1 (2 ^ (min (IntKind.i64.wrap (24 - (IntKind.i64.wrap (8 * x3)))).toNat 64)))))]) e_u8_len gv9 rfl (nl rfl) rfl) ?_
   refine AWops.nil (AW.region ?_)
   refine s_binI (v := (.int .i64 (IntKind.i64.wrap (x3 + 1)))) rfl rfl rfl ?_
   refine s_move (d := (sc (.int .i64 (IntKind.i64.wrap (x3 + 1))))) rfl (AWops.nil ?_)
   exact ⟨_, ⟨36, (upd 36 (upd 36 (upd 36 (upd 36 (upd 36 topF 0 (D.one (C.p false (.sl a0.length (a0.flatMap e_u8))))) 3 (sc (.int .i64 (a0.length : Int)))) 4 (sc (.int .i64 r1))) 5 (D.one (C.ref 0 0))) 11 (sc (.int .i64 (IntKind.i64.wrap (x3 + 1))))), [(some (AObj.cells true (rowC e_u8 ((x2.set x3.toNat (IntKind.u8.wrap (Int.fdiv (a0.length : Int) (2 ^ (min (IntKind.i64.wrap (24 - (IntKind.i64.wrap (8 * x3)))).toNat 64))))).set (IntKind.i64.wrap (4 + x3)).toNat (IntKind.u8.wrap (Int.fdiv r1 (2 ^ (min (IntKind.i64.wrap (24 - (IntKind.i64.wrap (8 * x3)))).toNat 64))))))))]⟩, by omega, (Weak.gen (kk := 0) [0] [] hx rfl (by decide) (by decide) rfl rfl rfl (le_upd (le_upd (le_upd (le_upd (le_upd (le_top _) (.t (.one .same))) (.t (.one .sc))) (.t (.one .sc))) (.t (.one (.ref rfl)))) (.t (.one .sc))) (ac (.cells (fun _ => rfl) (all2_row _)) an)), by omega, (x2.set x3.toNat (IntKind.u8.wrap (Int.fdiv (a0.length : Int) (2 ^ (min (IntKind.i64.wrap (24 - (IntKind.i64.wrap (8 * x3)))).toNat 64))))).set (IntKind.i64.wrap (4 + x3)).toNat (IntKind.u8.wrap (Int.fdiv r1 (2 ^ (min (IntKind.i64.wrap (24 - (IntKind.i64.wrap (8 * x3)))).toNat 64)))), IntKind.i64.wrap (x3 + 1), h, rfl⟩
  ·refine AW.cond_no rfl c4 (AW.exit (AW.seq (AW.region ?_)))
   obtain ⟨c10, h⟩ := gdH h
   have dc10 := of_decide_eq_true c10
   refine s_sliceArr (n := 8) (l := 0) (h := 8) (d := (D.one (C.own 0 0 x2.length 1))) F.u_97 F.sz_5 rfl rfl (by rw [row_len e_u8_len]; omega) .no .no (by omega) (Nat.le_refl _) (by omega) (by simp [dc10]) ?_
   refine s_move (d := (D.one (C.p false (.sl a0.length (a0.flatMap e_u8))))) rfl ?_
   refine AWops.weak (st' := ⟨36, (upd 36 (upd 36 (upd 36 (upd 36 (upd 36 (upd 36 (upd 36 topF 0 (D.one (C.p false (.sl a0.length (a0.flatMap e_u8))))) 3 (sc (.int .i64 (a0.length : Int)))) 4 (sc (.int .i64 r1))) 11 (sc (.int .i64 x3))) 12 (sc (.bool (decide (x3 < 4))))) 32 (D.one (C.p false (.sl x2.length (x2.flatMap e_u8))))) 33 (D.one (C.p false (.sl a0.length (a0.flatMap e_u8))))), []⟩) (Weak.gen (kk := 0) [] [0] hx rfl (by decide) (by decide) rfl rfl rfl (le_upd (le_upd (le_upd (le_upd (le_upd (le_upd (le_upd (le_top _) (.t (.one .same))) (.t (.one .sc))) (.t (.one .sc))) (.t (.one .sc))) (.t (.one .sc))) (.t (.one (CLe.frz e_u8_len rfl rfl rfl)))) (.t (.one .same))) an) ?_
   refine s_buildSlice (n := 2) (ps := [(0, (D.one (C.p false (.sl x2.length (x2.flatMap e_u8))))), (1, (D.one (C.p false (.sl a0.length (a0.flatMap e_u8)))))]) (cs := rowC (e_sl e_u8) ([x2, a0] : List (List Int))) F.u_25 F.sz_22 F.z_22 rfl rfl (by decide) (by decide) rfl rfl ?_
   obtain ⟨r11, er11, h⟩ := bnd h
   refine s_call2 (ρ := []) (br := true) (H2 := [(some (AObj.cells true (rowC (e_sl e_u8) ([x2, a0] : List (List Int))))), (some (AObj.cells true (rowC e_u8 r11)))]) (d := (D.one (C.own 1 0 r11.length 1))) F.ca_57 rfl rfl (ac (.one (LendC.bor (e_sl_len _) rfl rfl rfl)) an) an (by decide) rfl (slices_Concat_byte_byte.meets _ ([x2, a0] : List (List Int)) r11 er11) (.inr ⟨rfl, by simp [frH, frC, fr_row e_u8_fr]⟩) (by first | rfl | (simp only [mergeH2, orF, Bool.false_or, Bool.or_false, Bool.true_or, Bool.or_true, mergeAt, mergeObj, renO, ren_row, List.drop_succ_cons, List.drop_zero, List.map_cons, List.map_nil, Option.map_some, Option.map_none, List.length_cons, List.length_nil, Nat.zero_add, List.append_assoc, List.cons_append, List.nil_append]; done) | (simp only [mergeH2, orF, Bool.false_or, Bool.or_false, Bool.true_or, Bool.or_true, mergeAt, mergeObj, renO, ren_row, List.drop_succ_cons, List.drop_zero, List.map_cons, List.map_nil, Option.map_some, Option.map_none, List.length_cons, List.length_nil, Nat.zero_add, List.append_assoc, List.cons_append, List.nil_append]; rfl)) rfl ?_
   refine s_assign (d := (D.one (C.own 1 0 r11.length 1))) rfl (AWops.nil (AW.ret ?_))
   obtain rfl := Option.some.inj h
   exact ⟨_, rfl, (Weak.gen (kk := 0) [1] [] rfl rfl (by decide) (by decide) rfl rfl rfl (le_upd (le_top _) (.t (.one (.own rfl)))) (ac (.cells (fun _ => rfl) (all2_row _)) an))⟩
def vdisk_named.f (k : Nat) (a0 : ByteArray) : Option Bool := if (a0.toList == (⟨#[]⟩ : ByteArray).toList) = true then (some false) else (some (decide ((a0.size : Int) ≤ 64)))
theorem vdisk_named.meets (k : Nat) (a0 : ByteArray) (r : Bool) (h : vdisk_named.f k a0 = some r) : Meets Try.prog 56 [(sc (.string a0))] [] (sc (.bool r)) [] := by
 unfold vdisk_named.f at h
 refine Meets.of_body (n := 10) Try.func56 rfl rfl (nl rfl) fun x hx => ?_
 replace hx : x.k = 0 := hx
 show AW _ x _ _ ⟨10, fr0 [(sc (.string a0))], []⟩
 refine AW.seq (AW.region ?_)
 refine s_assign (d := (sc (.bool false))) rfl (AWops.nil (AW.seq (AW.region ?_)))
 refine s_move (d := (sc (.string a0))) rfl ?_
 refine s_binS (v := (.bool (!(a0.toList == (⟨#[]⟩ : ByteArray).toList)))) rfl rfl rfl ?_
 refine s_move (d := (sc (.bool (!(a0.toList == (⟨#[]⟩ : ByteArray).toList))))) rfl ?_
 rcases itH h with ⟨c1, h⟩ | ⟨c1, h⟩
 ·iterate 3 refine AWops.guard_no rfl (nl rfl) rfl (by rw [c1] <;> rfl) ?_
  refine s_pick_no (d := (sc (.bool false))) rfl (by rw [c1] <;> rfl) rfl ?_
  refine s_assign (d := (sc (.bool false))) rfl (AWops.nil (AW.ret ?_))
  obtain rfl := Option.some.inj h
  exact ⟨_, rfl, (Weak.gen (kk := 0) [] [] rfl rfl (by decide) (by decide) rfl rfl rfl (le_upd (le_top _) (.t (.one .sc))) an)⟩
 ·refine AWops.guard_yes rfl (nl rfl) rfl (by rw [c1] <;> rfl) ?_
  refine s_move (d := (sc (.string a0))) rfl ?_
  refine AWops.guard_yes rfl (nl rfl) rfl (by rw [c1] <;> rfl) ?_
  refine s_len (n := a0.size) F.u_9 rfl (.inl ⟨⟨_, _, rfl⟩, rfl⟩) ?_
  refine AWops.guard_yes rfl (nl rfl) rfl (by rw [c1] <;> rfl) ?_
  refine s_binI (v := (.bool (decide ((a0.size : Int) ≤ 64)))) rfl rfl rfl ?_
  refine s_pick_yes (d := (sc (.bool (decide ((a0.size : Int) ≤ 64))))) rfl (by rw [c1] <;> rfl) rfl ?_
  refine s_assign (d := (sc (.bool (decide ((a0.size : Int) ≤ 64))))) rfl (AWops.nil (AW.ret ?_))
  obtain rfl := Option.some.inj h
  exact ⟨_, rfl, (Weak.gen (kk := 0) [] [] rfl rfl (by decide) (by decide) rfl rfl rfl (le_upd (le_top _) (.t (.one .sc))) an)⟩
def vdisk_Disk_none_nil0.f (k : Nat) : Option Bool := some true
theorem vdisk_Disk_none_nil0.meets (k : Nat) (r : Bool) (h : vdisk_Disk_none_nil0.f k = some r) : Meets Try.prog 34 [(sc (.pointer none))] [] (sc (.bool r)) [] := by
 unfold vdisk_Disk_none_nil0.f at h
 refine Meets.of_body (n := 12) Try.func34 rfl rfl (nl rfl) fun x hx => ?_
 replace hx : x.k = 0 := hx
 show AW _ x _ _ ⟨12, fr0 [(sc (.pointer none))], []⟩
 refine AW.seq (AW.region ?_)
 refine s_assign (d := (sc (.bool false))) rfl (AWops.nil (AW.seq (AW.region ?_)))
 refine s_move (d := (sc (.pointer none))) rfl ?_
 refine s_ptrNil (b := true) F.u_24 rfl (.inr ⟨⟨_, rfl⟩, rfl⟩) (.inl rfl) ?_
 refine s_move (d := (sc (.bool true))) rfl ?_
 iterate 5 refine AWops.guard_no rfl (nl rfl) rfl rfl ?_
 refine s_pick_yes (d := (sc (.bool true))) rfl rfl rfl ?_
 refine s_assign (d := (sc (.bool true))) rfl (AWops.nil (AW.ret ?_))
 obtain rfl := Option.some.inj h
 exact ⟨_, rfl, (Weak.gen (kk := 0) [] [] rfl rfl (by decide) (by decide) rfl rfl rfl (le_upd (le_top _) (.t (.one .sc))) an)⟩
theorem vdisk_Disk_none_nil0.const {k : Nat} {r : Bool} (h : vdisk_Disk_none_nil0.f k = some r) : r = true := by
 unfold vdisk_Disk_none_nil0.f at h
 exact (Option.some.inj h).symm
def vdisk_Disk_change_nil0.f (k : Nat) (a1 : Bool) (a2 : ByteArray) (a3 : Bool) (a4 : Int) : Option Int := (vdisk_Disk_none_nil0.f k).bind fun r1 => some 2
theorem vdisk_Disk_change_nil0.meets (k : Nat) (a1 : Bool) (a2 : ByteArray) (a3 : Bool) (a4 : Int) (r : Int) (h : vdisk_Disk_change_nil0.f k a1 a2 a3 a4 = some r) : Meets Try.prog 55 [(sc (.pointer none)), (sc (.bool a1)), (sc (.string a2)), (sc (.bool a3)), (sc (.int .i64 a4))] [] (sc (.int .i64 r)) [] := by
 unfold vdisk_Disk_change_nil0.f at h
 refine Meets.of_body (n := 77) Try.func55 rfl rfl (nl rfl) fun x hx => ?_
 replace hx : x.k = 0 := hx
 show AW _ x _ _ ⟨77, fr0 [(sc (.pointer none)), (sc (.bool a1)), (sc (.string a2)), (sc (.bool a3)), (sc (.int .i64 a4))], []⟩
 refine AW.seq (AW.region ?_)
 refine s_assign (d := (sc (.int .i64 0))) rfl (AWops.nil (AW.seq (AW.block (AW.seq (AW.region ?_)))))
 refine s_move (d := (sc (.pointer none))) rfl ?_
 obtain ⟨r1, er1, h⟩ := bnd h
 have kr1 := vdisk_Disk_none_nil0.const er1
 subst kr1
 refine s_call2 (ρ := []) (br := false) (H2 := []) (d := (sc (.bool true))) F.ca_34 rfl rfl (ac (.one .sc) an) an (by decide) rfl (vdisk_Disk_none_nil0.meets _  true er1) (.inl rfl) rfl rfl ?_
 refine s_assign (d := (sc (.bool true))) rfl (AWops.nil ?_)
 refine AW.cond_yes rfl rfl (AW.seq (AW.region ?_))
 refine s_assign (d := (sc (.int .i64 2))) rfl (AWops.nil (AW.ret ?_))
 obtain rfl := Option.some.inj h
 exact ⟨_, rfl, (Weak.gen (kk := 0) [] [] rfl rfl (by decide) (by decide) rfl rfl rfl (le_upd (le_top _) (.t (.one .sc))) an)⟩
theorem vdisk_Disk_change_nil0.const {k : Nat} {a1 : Bool} {a2 : ByteArray} {a3 : Bool} {a4 : Int} {r : Int} (h : vdisk_Disk_change_nil0.f k a1 a2 a3 a4 = some r) : r = 2 := by
 unfold vdisk_Disk_change_nil0.f at h
 obtain ⟨_, _, h⟩ := bnd h
 exact (Option.some.inj h).symm
def vdisk_Disk_Append_nil0.f (k : Nat) (a1 : ByteArray) (a2 : List Int) : Option Int := (vdisk_named.f k a1).bind fun r1 => (vdisk_Disk_change_nil0.f k r1 a1 true (a2.length : Int)).bind fun r2 => some 2
theorem vdisk_Disk_Append_nil0.meets (k : Nat) (a1 : ByteArray) (a2 : List Int) (r : Int) (h : vdisk_Disk_Append_nil0.f k a1 a2 = some r) : Meets Try.prog 25 [(sc (.pointer none)), (sc (.string a1)), (D.one (C.p false (.sl a2.length (a2.flatMap e_u8))))] [] (sc (.int .i64 r)) [] := by
 unfold vdisk_Disk_Append_nil0.f at h
 refine Meets.of_body (n := 36) Try.func25 rfl rfl (nl rfl) fun x hx => ?_
 replace hx : x.k = 0 := hx
 show AW _ x _ _ ⟨36, fr0 [(sc (.pointer none)), (sc (.string a1)), (D.one (C.p false (.sl a2.length (a2.flatMap e_u8))))], []⟩
 refine AW.seq (AW.region ?_)
 refine s_assign (d := (sc (.int .i64 0))) rfl (AWops.nil (AW.seq (AW.region ?_)))
 refine s_move (d := (sc (.pointer none))) rfl ?_
 refine s_move (d := (sc (.string a1))) rfl ?_
 obtain ⟨r1, er1, h⟩ := bnd h
 refine s_call2 (ρ := []) (br := false) (H2 := []) (d := (sc (.bool r1))) F.ca_56 rfl rfl (ac (.one .sc) an) an (by decide) rfl (vdisk_named.meets _ a1 r1 er1) (.inl rfl) rfl rfl ?_
 refine s_move (d := (sc (.string a1))) rfl ?_
 refine s_move (d := (D.one (C.p false (.sl a2.length (a2.flatMap e_u8))))) rfl ?_
 refine s_len (n := a2.length) F.u_22 rfl (.inr ⟨(fun _ _ h => by cases h), ⟨_, rfl⟩⟩) ?_
 obtain ⟨r2, er2, h⟩ := bnd h
 have kr2 := vdisk_Disk_change_nil0.const er2
 subst kr2
 refine s_call2 (ρ := []) (br := false) (H2 := []) (d := (sc (.int .i64 2))) F.ca_55 rfl rfl (ac (.one .sc) (ac (.one .sc) (ac (.one .sc) (ac (.one .sc) (ac (.one .sc) an))))) an (by decide) rfl (vdisk_Disk_change_nil0.meets _ r1 a1 true (a2.length : Int) 2 er2) (.inl rfl) rfl rfl ?_
 refine s_assign (d := (sc (.int .i64 2))) rfl (AWops.nil (AW.seq (AW.seq (AW.region ?_))))
 refine s_move (d := (sc (.int .i64 2))) rfl ?_
 refine s_binI (v := (.bool false)) rfl rfl rfl (AWops.nil ?_)
 refine AW.cond_no rfl rfl (AW.skip (AW.seq (AW.region ?_)))
 refine s_move (d := (sc (.int .i64 2))) rfl ?_
 refine s_assign (d := (sc (.int .i64 2))) rfl (AWops.nil (AW.ret ?_))
 obtain rfl := Option.some.inj h
 exact ⟨_, rfl, (Weak.gen (kk := 0) [] [] rfl rfl (by decide) (by decide) rfl rfl rfl (le_upd (le_top _) (.t (.one .sc))) an)⟩
theorem vdisk_Disk_Append_nil0.const {k : Nat} {a1 : ByteArray} {a2 : List Int} {r : Int} (h : vdisk_Disk_Append_nil0.f k a1 a2 = some r) : r = 2 := by
 unfold vdisk_Disk_Append_nil0.f at h
 obtain ⟨_, _, h⟩ := bnd h
 obtain ⟨_, _, h⟩ := bnd h
 exact (Option.some.inj h).symm
def journal_Journal_Append.f (k : Nat) (p0 : journal_Journal) (a1 : List Int) : Option (Int × journal_Journal) := if (decide ((a1.length : Int) > 0)) = true then ((journal_Journal_may.f k (⟨(), p0.snap, p0.l, p0.stopped⟩ : journal_Journal) (decide ((a1.length : Int) ≤ 4194304))).bind fun r2 => if (r2.1 != 0) = true then (some (r2.1, (⟨(), r2.2.snap, r2.2.l, r2.2.stopped⟩ : journal_Journal))) else ((journal_frame.f k a1).bind fun r4 => (vdisk_Disk_Append_nil0.f k (⟨#[106, 111, 117, 114, 110, 97, 108]⟩ : ByteArray) r4).bind fun r5 => some (2, (⟨(), r2.2.snap, r2.2.l, true⟩ : journal_Journal)))) else ((journal_Journal_may.f k (⟨(), p0.snap, p0.l, p0.stopped⟩ : journal_Journal) false).bind fun r6 => if (r6.1 != 0) = true then (some (r6.1, (⟨(), r6.2.snap, r6.2.l, r6.2.stopped⟩ : journal_Journal))) else ((journal_frame.f k a1).bind fun r8 => (vdisk_Disk_Append_nil0.f k (⟨#[106, 111, 117, 114, 110, 97, 108]⟩ : ByteArray) r8).bind fun r9 => some (2, (⟨(), r6.2.snap, r6.2.l, true⟩ : journal_Journal))))
theorem journal_Journal_Append.meets (k : Nat) (p0 : journal_Journal) (a1 : List Int) (r : Int × journal_Journal) (h : journal_Journal_Append.f k p0 a1 = some r) : Meets Try.prog 7 [(D.one (C.ref 0 0)), (D.one (C.p false (.sl a1.length (a1.flatMap e_u8))))] [(some (AObj.cells false [(C.p true (.v (.pointer none))), (C.p false (.sl p0.snap.length (p0.snap.flatMap e_u8))), (C.own 1 0 p0.l.length 1), (C.p true (.v (.bool p0.stopped)))])), (some (AObj.cells false (rowC (e_sl e_u8) p0.l)))] (sc (.int .i64 r.1)) [(some (AObj.cells false [(C.p true (.v (.pointer none))), (C.p false (.sl r.2.snap.length (r.2.snap.flatMap e_u8))), (C.own 2 0 r.2.l.length 1), (C.p true (.v (.bool r.2.stopped)))])), none, (some (AObj.cells false (rowC (e_sl e_u8) r.2.l)))] := by
 unfold journal_Journal_Append.f at h
 refine Meets.of_body (n := 54) Try.func7 rfl rfl (nl rfl) fun x hx => ?_
 replace hx : x.k = 2 := hx
 show AW _ x _ _ ⟨54, fr0 [(D.one (C.ref 0 0)), (D.one (C.p false (.sl a1.length (a1.flatMap e_u8))))], [(some (AObj.cells false [(C.p true (.v (.pointer none))), (C.p false (.sl p0.snap.length (p0.snap.flatMap e_u8))), (C.own 1 0 p0.l.length 1), (C.p true (.v (.bool p0.stopped)))])), (some (AObj.cells false (rowC (e_sl e_u8) p0.l)))]⟩
 refine AW.weak (st' := ⟨54, (upd 54 (upd 54 topF 0 (D.one (C.ref 0 0))) 1 (D.one (C.p false (.sl a1.length (a1.flatMap e_u8))))), [(some (AObj.cells false [(C.p true (.v (.pointer none))), (C.p false (.sl p0.snap.length (p0.snap.flatMap e_u8))), (C.own 2 0 p0.l.length 1), (C.p true (.v (.bool p0.stopped)))])), none, (some (AObj.cells false (rowC (e_sl e_u8) p0.l)))]⟩) (Weak.genL (kk := 2) [0, 1, 1] [] hx rfl (by decide) rfl rfl rfl rfl (le_upd (le_upd (le_top _) (.t (.one (.ref rfl)))) (.t (.one .same))) (ac (.cells (fun h => h) (ac .sc (ac .same (ac (.own rfl) (ac .sc an))))) (ac (.none _) (ac (.cells (fun h => h) (all2_row _)) an)))) (AW.seq (AW.region ?_))
 refine s_assign (d := (sc (.int .i64 0))) rfl (AWops.nil (AW.seq (AW.seq (AW.region ?_))))
 refine s_move (d := (D.one (C.ref 0 0))) rfl ?_
 refine s_move (d := (D.one (C.p false (.sl a1.length (a1.flatMap e_u8))))) rfl ?_
 refine s_len (n := a1.length) F.u_22 rfl (.inr ⟨(fun _ _ h => by cases h), ⟨_, rfl⟩⟩) ?_
 refine s_binI (v := (.bool (decide ((a1.length : Int) > 0)))) rfl rfl rfl ?_
 refine s_move (d := (sc (.bool (decide ((a1.length : Int) > 0))))) rfl ?_
 rcases itH h with ⟨c1, h⟩ | ⟨c1, h⟩
 ·refine AWops.guard_yes rfl (nl rfl) rfl c1 ?_
  refine s_move (d := (D.one (C.p false (.sl a1.length (a1.flatMap e_u8))))) rfl ?_
  refine AWops.guard_yes rfl (nl rfl) rfl c1 ?_
  refine s_len (n := a1.length) F.u_22 rfl (.inr ⟨(fun _ _ h => by cases h), ⟨_, rfl⟩⟩) ?_
  refine AWops.guard_yes rfl (nl rfl) rfl c1 ?_
  refine s_binI (v := (.bool (decide ((a1.length : Int) ≤ 4194304)))) rfl rfl rfl ?_
  refine s_pick_yes (d := (sc (.bool (decide ((a1.length : Int) ≤ 4194304))))) rfl c1 rfl ?_
  obtain ⟨r2, er2, h⟩ := bnd h
  refine s_call2 (ρ := [0, 2]) (br := false) (H2 := [(some (AObj.cells false [(C.p true (.v (.pointer none))), (C.p false (.sl r2.2.snap.length (r2.2.snap.flatMap e_u8))), (C.own 3 0 r2.2.l.length 1), (C.p true (.v (.bool r2.2.stopped)))])), none, none, (some (AObj.cells false (rowC (e_sl e_u8) r2.2.l)))]) (d := (sc (.int .i64 r2.1))) F.ca_24 rfl rfl (ac (.one (.ref rfl)) (ac (.one .sc) an)) (ac (.cells (ac .sc (ac .imm (ac (.own rfl) (ac .sc an))))) (ac (.cells (lend_row _)) an)) (by decide) rfl (journal_Journal_may.meets _ (⟨(), p0.snap, p0.l, p0.stopped⟩ : journal_Journal) (decide ((a1.length : Int) ≤ 4194304)) r2 er2) (.inl rfl) (by first | rfl | (simp only [mergeH2, orF, Bool.false_or, Bool.or_false, Bool.true_or, Bool.or_true, mergeAt, mergeObj, renO, ren_row, List.drop_succ_cons, List.drop_zero, List.map_cons, List.map_nil, Option.map_some, Option.map_none, List.length_cons, List.length_nil, Nat.zero_add, List.append_assoc, List.cons_append, List.nil_append]; done) | (simp only [mergeH2, orF, Bool.false_or, Bool.or_false, Bool.true_or, Bool.or_true, mergeAt, mergeObj, renO, ren_row, List.drop_succ_cons, List.drop_zero, List.map_cons, List.map_nil, Option.map_some, Option.map_none, List.length_cons, List.length_nil, Nat.zero_add, List.append_assoc, List.cons_append, List.nil_append]; rfl)) rfl ?_
  refine s_assign (d := (sc (.int .i64 r2.1))) rfl (AWops.nil (AW.seq (AW.region ?_)))
  refine s_move (d := (sc (.int .i64 r2.1))) rfl ?_
  refine s_binI (v := (.bool (r2.1 != 0))) rfl rfl rfl (AWops.nil ?_)
  rcases itH h with ⟨c3, h⟩ | ⟨c3, h⟩
  ·refine AW.cond_yes rfl c3 (AW.seq (AW.region ?_))
   refine s_move (d := (sc (.int .i64 r2.1))) rfl ?_
   refine s_assign (d := (sc (.int .i64 r2.1))) rfl (AWops.nil (AW.ret ?_))
   obtain rfl := Option.some.inj h
   exact ⟨_, rfl, (Weak.gen (kk := 2) [0, 1, 3] [] rfl rfl (by decide) (by decide) rfl rfl rfl (le_upd (le_top _) (.t (.one .sc))) (ac (.cells (fun h => h) (ac .sc (ac .same (ac (.own rfl) (ac .sc an))))) (ac (.none _) (ac (.cells (fun h => h) (all2_row _)) an))))⟩
  ·refine AW.cond_no rfl c3 (AW.skip (AW.seq ?_))
   refine AW.weak (st' := ⟨54, (upd 54 (upd 54 topF 0 (D.one (C.ref 0 0))) 1 (D.one (C.p false (.sl a1.length (a1.flatMap e_u8))))), [(some (AObj.cells false [(C.p true (.v (.pointer none))), (C.p false (.sl r2.2.snap.length (r2.2.snap.flatMap e_u8))), (C.own 2 0 r2.2.l.length 1), (C.p true (.v (.bool r2.2.stopped)))])), none, (some (AObj.cells false (rowC (e_sl e_u8) r2.2.l)))]⟩) (Weak.gen (kk := 2) [0, 1, 3] [] hx rfl (by decide) (by decide) rfl rfl rfl (le_upd (le_upd (le_top _) (.t (.one (.ref rfl)))) (.t (.one .same))) (ac (.cells (fun h => h) (ac .sc (ac .same (ac (.own rfl) (ac .sc an))))) (ac (.none _) (ac (.cells (fun h => h) (all2_row _)) an)))) ?_
   obtain ⟨r4, er4, h⟩ := bnd h
   obtain ⟨r5, er5, h⟩ := bnd h
   have kr5 := vdisk_Disk_Append_nil0.const er5
   subst kr5
   refine AW.draw (n := 54) (L := 5) [(0, ⟨some 20, (D.one (C.ref 0 0)), [(0, (D.one (C.ref 0 0)))], [], [], none⟩), (1, ⟨some 21, (D.one (C.ref 0 0)), [(20, (D.one (C.ref 0 0)))], [], [], none⟩), (2, ⟨some 22, (D.one (C.ref 0 0)), [(21, (D.one (C.ref 0 0)))], [], [], none⟩), (3, ⟨some 23, (sc (.pointer none)), [(22, (D.one (C.ref 0 0)))], [(0, (some (AObj.cells false [(C.p true (.v (.pointer none))), (C.p false (.sl r2.2.snap.length (r2.2.snap.flatMap e_u8))), (C.own 2 0 r2.2.l.length 1), (C.p true (.v (.bool r2.2.stopped)))])))], [], none⟩), (4, ⟨some 24, (D.one (C.p false (.sl a1.length (a1.flatMap e_u8)))), [(1, (D.one (C.p false (.sl a1.length (a1.flatMap e_u8)))))], [], [], none⟩), (5, ⟨some 25, (D.one (C.own 3 0 r4.length 1)), [(24, (D.one (C.p false (.sl a1.length (a1.flatMap e_u8)))))], [], [(3, (some (AObj.cells true (rowC e_u8 r4))))], some 3⟩), (6, ⟨some 26, (sc (.int .i64 2)), [(23, (sc (.pointer none))), (25, (D.one (C.own 3 0 r4.length 1)))], [(3, (some (AObj.cells true (rowC e_u8 r4))))], [], none⟩), (7, ⟨some 6, (sc (.int .i64 2)), [(26, (sc (.int .i64 2)))], [], [], none⟩)] [[], [0], [0, 1], [0, 1, 2], [], [4], [0, 1, 2, 3, 4, 5], [0, 1, 2, 3, 4, 5, 6]] (nl rfl) [0, 1, 2, 3, 0, 1, 4, 5] rfl (TK := [(5, 3)]) rfl (AllK.cons' ⟨(tk_upd (tk_upd tk_top rfl) rfl), (tC rfl (tC rfl (tC (tkO_row _) AllT.nil'))), (fC (.inr rfl) (fC (.inr rfl) (fC (.inr rfl) (fC (.inr rfl) (fC (.inr rfl) (fC (.inl rfl) (fC (.inl rfl) (fC (.inl rfl) AllF.nil'))))))))⟩ AllK.nil') (fC ⟨(sC rfl AllS.nil'), AllH.nil'⟩ (fC ⟨(sC rfl AllS.nil'), AllH.nil'⟩ (fC ⟨(sC rfl AllS.nil'), AllH.nil'⟩ (fC ⟨(sC rfl AllS.nil'), (hC rfl AllH.nil')⟩ (fC ⟨(sC rfl AllS.nil'), AllH.nil'⟩ (fC ⟨(sC rfl AllS.nil'), AllH.nil'⟩ (fC ⟨(sC rfl (sC rfl AllS.nil')), (hC rfl AllH.nil')⟩ (fC ⟨(sC rfl AllS.nil'), AllH.nil'⟩ AllF.nil')))))))) ?_ ?_
   ·refine (pC ?_ (pC ?_ (pC ?_ (pC ?_ (pC ?_ (pC ?_ (pC ?_ (pC ?_ AllStep.nil'))))))))
    ·intro K rest fr hv htk k
     show AWops _ x _ _ K ⟨54, (upd 54 fr 0 (D.one (C.ref 0 0))), _⟩
     refine s_move (d := (D.one (C.ref 0 0))) rfl k
    ·intro K rest fr hv htk k
     show AWops _ x _ _ K ⟨54, (upd 54 fr 20 (D.one (C.ref 0 0))), [(hv 0), (hv 1), (hv 2), (hv 3), (hv 4)]⟩
     refine s_nilCheck (d := (D.one (C.ref 0 0))) rfl (.inl ⟨_, _, rfl⟩) k
    ·intro K rest fr hv htk k
     show AWops _ x _ _ K ⟨54, (upd 54 fr 21 (D.one (C.ref 0 0))), [(hv 0), (hv 1), (hv 2), (hv 3), (hv 4)]⟩
     refine s_fieldRef F.fo_27_0 (by decide) rfl k
    ·intro K rest fr hv htk k
     show AWops _ x _ _ K ⟨54, (upd 54 fr 22 (D.one (C.ref 0 0))), [(some (AObj.cells false [(C.p true (.v (.pointer none))), (C.p false (.sl r2.2.snap.length (r2.2.snap.flatMap e_u8))), (C.own 2 0 r2.2.l.length 1), (C.p true (.v (.bool r2.2.stopped)))])), (hv 1), (hv 2), (hv 3), (hv 4)]⟩
     refine s_load1 (c' := (C.p true (.v (.pointer none)))) F.ag_24 rfl rfl k
    ·intro K rest fr hv htk k
     show AWops _ x _ _ K ⟨54, (upd 54 fr 1 (D.one (C.p false (.sl a1.length (a1.flatMap e_u8))))), _⟩
     refine s_move (d := (D.one (C.p false (.sl a1.length (a1.flatMap e_u8))))) rfl k
    ·intro K rest fr hv htk k
     show AWops _ x _ _ K ⟨54, (upd 54 fr 24 (D.one (C.p false (.sl a1.length (a1.flatMap e_u8))))), [(hv 0), (hv 1), (hv 2), (hv 3), (hv 4)]⟩
     refine s_call2 (ρ := []) (br := false) (H2 := [(hv 0), (hv 1), (hv 2), (hv 3), (hv 4), (some (AObj.cells true (rowC e_u8 r4)))]) (d := (D.one (C.own 5 0 r4.length 1))) F.ca_26 rfl rfl (ac (.one .imm) an) an (by decide) rfl (journal_frame.meets _ a1 r4 er4) (.inl rfl) (by first | rfl | (simp only [mergeH2, orF, Bool.false_or, Bool.or_false, Bool.true_or, Bool.or_true, mergeAt, mergeObj, renO, ren_row, List.drop_succ_cons, List.drop_zero, List.map_cons, List.map_nil, Option.map_some, Option.map_none, List.length_cons, List.length_nil, Nat.zero_add, List.append_assoc, List.cons_append, List.nil_append]; done) | (simp only [mergeH2, orF, Bool.false_or, Bool.or_false, Bool.true_or, Bool.or_true, mergeAt, mergeObj, renO, ren_row, List.drop_succ_cons, List.drop_zero, List.map_cons, List.map_nil, Option.map_some, Option.map_none, List.length_cons, List.length_nil, Nat.zero_add, List.append_assoc, List.cons_append, List.nil_append]; rfl)) rfl ?_
     refine AWops.weak (st' := ⟨54, (upd 54 (upd 54 fr 24 (D.one (C.p false (.sl a1.length (a1.flatMap e_u8))))) 25 (D.one (C.own 3 0 r4.length 1))), [(hv 0), (hv 1), (hv 2), (some (AObj.cells true (rowC e_u8 r4))), (hv 4)]⟩) (Weak.gen (kk := 2) [0, 1, 2, 5, 4] [] hx rfl (by decide) (by decide) rfl rfl rfl (le_upd2 (le_ok (p := 3) (L := 5) rfl (htk 3 rfl).1) (.t (.one (.own rfl)))) (ac (ole_ok (p := 3) (L := 5) rfl ((htk 3 rfl).2 0)) (ac (ole_ok (p := 3) (L := 5) rfl ((htk 3 rfl).2 1)) (ac (ole_ok (p := 3) (L := 5) rfl ((htk 3 rfl).2 2)) (ac (.cells (fun _ => rfl) (all2_row _)) (ac (ole_ok (p := 3) (L := 5) rfl ((htk 3 rfl).2 4)) an)))))) k
    ·intro K rest fr hv htk k
     show AWops _ x _ _ K ⟨54, (upd 54 (upd 54 fr 25 (D.one (C.own 3 0 r4.length 1))) 23 (sc (.pointer none))), [(hv 0), (hv 1), (hv 2), (some (AObj.cells true (rowC e_u8 r4))), (hv 4)]⟩
     refine s_call2 (ρ := []) (br := true) (H2 := [(hv 0), (hv 1), (hv 2), (some (AObj.cells true (rowC e_u8 r4))), (hv 4)]) (d := (sc (.int .i64 2))) F.ca_25 rfl rfl (ac (.one .sc) (ac (.one .sc) (ac (.one (LendC.bor e_u8_len rfl rfl rfl)) an))) an (by decide) rfl (vdisk_Disk_Append_nil0.meets _ (⟨#[106, 111, 117, 114, 110, 97, 108]⟩ : ByteArray) r4 2 er5) (.inr ⟨rfl, rfl⟩) rfl rfl k
    ·intro K rest fr hv htk k
     show AWops _ x _ _ K ⟨54, (upd 54 fr 26 (sc (.int .i64 2))), _⟩
     refine s_assign (d := (sc (.int .i64 2))) rfl k
   ·refine AWops.weak (st' := ⟨54, (upd 54 (upd 54 (upd 54 topF 0 (D.one (C.ref 0 0))) 1 (D.one (C.p false (.sl a1.length (a1.flatMap e_u8))))) 6 (sc (.int .i64 2))), [(some (AObj.cells false [(C.p true (.v (.pointer none))), (C.p false (.sl r2.2.snap.length (r2.2.snap.flatMap e_u8))), (C.own 2 0 r2.2.l.length 1), (C.p true (.v (.bool r2.2.stopped)))])), none, (some (AObj.cells false (rowC (e_sl e_u8) r2.2.l)))]⟩) (Weak.gen (kk := 2) [0, 1, 2] [] hx rfl (by decide) (by decide) rfl rfl rfl (le_upd (le_upd (le_upd (le_top _) (.t (.one (.ref rfl)))) (.t (.one .same))) (.t (.one .sc))) (ac (.cells (fun h => h) (ac .sc (ac .same (ac (.own rfl) (ac .sc an))))) (ac (.none _) (ac (.cells (fun h => h) (all2_row _)) an)))) (AWops.nil (AW.seq (AW.seq (AW.region ?_))))
    refine s_move (d := (sc (.int .i64 2))) rfl ?_
    refine s_binI (v := (.bool false)) rfl rfl rfl (AWops.nil ?_)
    refine AW.cond_no rfl rfl (AW.skip (AW.seq (AW.seq (AW.region ?_))))
    refine s_move (d := (sc (.int .i64 2))) rfl ?_
    refine s_binI (v := (.bool false)) rfl rfl rfl (AWops.nil ?_)
    refine AW.cond_no rfl rfl (AW.skip (AW.seq (AW.seq (AW.region ?_))))
    refine s_move (d := (sc (.int .i64 2))) rfl ?_
    refine s_binI (v := (.bool true)) rfl rfl rfl (AWops.nil ?_)
    refine AW.cond_yes rfl rfl (AW.seq (AW.region ?_))
    refine s_move (d := (D.one (C.ref 0 0))) rfl ?_
    refine s_nilCheck (d := (D.one (C.ref 0 0))) rfl (.inl ⟨_, _, rfl⟩) ?_
    refine s_fieldRef F.fo_27_3 (by decide) rfl ?_
    refine s_store (cs' := [(C.p true (.v (.pointer none))), (C.p false (.sl r2.2.snap.length (r2.2.snap.flatMap e_u8))), (C.own 2 0 r2.2.l.length 1), (C.p true (.v (.bool true)))]) rfl rfl rfl (List.cons_ne_nil _ _) rfl F.sz_4 (nl rfl) rfl (AWops.nil (AW.seq (AW.region ?_)))
    refine s_move (d := (sc (.int .i64 2))) rfl ?_
    refine s_assign (d := (sc (.int .i64 2))) rfl (AWops.nil (AW.ret ?_))
    obtain rfl := Option.some.inj h
    exact ⟨_, rfl, (Weak.gen (kk := 2) [0, 1, 2] [] rfl rfl (by decide) (by decide) rfl rfl rfl (le_upd (le_top _) (.t (.one .sc))) (ac (.cells (fun h => h) (ac .sc (ac .same (ac (.own rfl) (ac .sc an))))) (ac (.none _) (ac (.cells (fun h => h) (all2_row _)) an))))⟩
 ·iterate 3 refine AWops.guard_no rfl (nl rfl) rfl c1 ?_
  refine s_pick_no (d := (sc (.bool false))) rfl c1 rfl ?_
  obtain ⟨r6, er6, h⟩ := bnd h
  refine s_call2 (ρ := [0, 2]) (br := false) (H2 := [(some (AObj.cells false [(C.p true (.v (.pointer none))), (C.p false (.sl r6.2.snap.length (r6.2.snap.flatMap e_u8))), (C.own 3 0 r6.2.l.length 1), (C.p true (.v (.bool r6.2.stopped)))])), none, none, (some (AObj.cells false (rowC (e_sl e_u8) r6.2.l)))]) (d := (sc (.int .i64 r6.1))) F.ca_24 rfl rfl (ac (.one (.ref rfl)) (ac (.one .sc) an)) (ac (.cells (ac .sc (ac .imm (ac (.own rfl) (ac .sc an))))) (ac (.cells (lend_row _)) an)) (by decide) rfl (journal_Journal_may.meets _ (⟨(), p0.snap, p0.l, p0.stopped⟩ : journal_Journal) false r6 er6) (.inl rfl) (by first | rfl | (simp only [mergeH2, orF, Bool.false_or, Bool.or_false, Bool.true_or, Bool.or_true, mergeAt, mergeObj, renO, ren_row, List.drop_succ_cons, List.drop_zero, List.map_cons, List.map_nil, Option.map_some, Option.map_none, List.length_cons, List.length_nil, Nat.zero_add, List.append_assoc, List.cons_append, List.nil_append]; done) | (simp only [mergeH2, orF, Bool.false_or, Bool.or_false, Bool.true_or, Bool.or_true, mergeAt, mergeObj, renO, ren_row, List.drop_succ_cons, List.drop_zero, List.map_cons, List.map_nil, Option.map_some, Option.map_none, List.length_cons, List.length_nil, Nat.zero_add, List.append_assoc, List.cons_append, List.nil_append]; rfl)) rfl ?_
  refine s_assign (d := (sc (.int .i64 r6.1))) rfl (AWops.nil (AW.seq (AW.region ?_)))
  refine s_move (d := (sc (.int .i64 r6.1))) rfl ?_
  refine s_binI (v := (.bool (r6.1 != 0))) rfl rfl rfl (AWops.nil ?_)
  rcases itH h with ⟨c7, h⟩ | ⟨c7, h⟩
  ·refine AW.cond_yes rfl c7 (AW.seq (AW.region ?_))
   refine s_move (d := (sc (.int .i64 r6.1))) rfl ?_
   refine s_assign (d := (sc (.int .i64 r6.1))) rfl (AWops.nil (AW.ret ?_))
   obtain rfl := Option.some.inj h
   exact ⟨_, rfl, (Weak.gen (kk := 2) [0, 1, 3] [] rfl rfl (by decide) (by decide) rfl rfl rfl (le_upd (le_top _) (.t (.one .sc))) (ac (.cells (fun h => h) (ac .sc (ac .same (ac (.own rfl) (ac .sc an))))) (ac (.none _) (ac (.cells (fun h => h) (all2_row _)) an))))⟩
  ·refine AW.cond_no rfl c7 (AW.skip (AW.seq ?_))
   refine AW.weak (st' := ⟨54, (upd 54 (upd 54 topF 0 (D.one (C.ref 0 0))) 1 (D.one (C.p false (.sl a1.length (a1.flatMap e_u8))))), [(some (AObj.cells false [(C.p true (.v (.pointer none))), (C.p false (.sl r6.2.snap.length (r6.2.snap.flatMap e_u8))), (C.own 2 0 r6.2.l.length 1), (C.p true (.v (.bool r6.2.stopped)))])), none, (some (AObj.cells false (rowC (e_sl e_u8) r6.2.l)))]⟩) (Weak.gen (kk := 2) [0, 1, 3] [] hx rfl (by decide) (by decide) rfl rfl rfl (le_upd (le_upd (le_top _) (.t (.one (.ref rfl)))) (.t (.one .same))) (ac (.cells (fun h => h) (ac .sc (ac .same (ac (.own rfl) (ac .sc an))))) (ac (.none _) (ac (.cells (fun h => h) (all2_row _)) an)))) ?_
   obtain ⟨r8, er8, h⟩ := bnd h
   obtain ⟨r9, er9, h⟩ := bnd h
   have kr9 := vdisk_Disk_Append_nil0.const er9
   subst kr9
   refine AW.draw (n := 54) (L := 5) [(0, ⟨some 20, (D.one (C.ref 0 0)), [(0, (D.one (C.ref 0 0)))], [], [], none⟩), (1, ⟨some 21, (D.one (C.ref 0 0)), [(20, (D.one (C.ref 0 0)))], [], [], none⟩), (2, ⟨some 22, (D.one (C.ref 0 0)), [(21, (D.one (C.ref 0 0)))], [], [], none⟩), (3, ⟨some 23, (sc (.pointer none)), [(22, (D.one (C.ref 0 0)))], [(0, (some (AObj.cells false [(C.p true (.v (.pointer none))), (C.p false (.sl r6.2.snap.length (r6.2.snap.flatMap e_u8))), (C.own 2 0 r6.2.l.length 1), (C.p true (.v (.bool r6.2.stopped)))])))], [], none⟩), (4, ⟨some 24, (D.one (C.p false (.sl a1.length (a1.flatMap e_u8)))), [(1, (D.one (C.p false (.sl a1.length (a1.flatMap e_u8)))))], [], [], none⟩), (5, ⟨some 25, (D.one (C.own 3 0 r8.length 1)), [(24, (D.one (C.p false (.sl a1.length (a1.flatMap e_u8)))))], [], [(3, (some (AObj.cells true (rowC e_u8 r8))))], some 3⟩), (6, ⟨some 26, (sc (.int .i64 2)), [(23, (sc (.pointer none))), (25, (D.one (C.own 3 0 r8.length 1)))], [(3, (some (AObj.cells true (rowC e_u8 r8))))], [], none⟩), (7, ⟨some 6, (sc (.int .i64 2)), [(26, (sc (.int .i64 2)))], [], [], none⟩)] [[], [0], [0, 1], [0, 1, 2], [], [4], [0, 1, 2, 3, 4, 5], [0, 1, 2, 3, 4, 5, 6]] (nl rfl) [0, 1, 2, 3, 0, 1, 4, 5] rfl (TK := [(5, 3)]) rfl (AllK.cons' ⟨(tk_upd (tk_upd tk_top rfl) rfl), (tC rfl (tC rfl (tC (tkO_row _) AllT.nil'))), (fC (.inr rfl) (fC (.inr rfl) (fC (.inr rfl) (fC (.inr rfl) (fC (.inr rfl) (fC (.inl rfl) (fC (.inl rfl) (fC (.inl rfl) AllF.nil'))))))))⟩ AllK.nil') (fC ⟨(sC rfl AllS.nil'), AllH.nil'⟩ (fC ⟨(sC rfl AllS.nil'), AllH.nil'⟩ (fC ⟨(sC rfl AllS.nil'), AllH.nil'⟩ (fC ⟨(sC rfl AllS.nil'), (hC rfl AllH.nil')⟩ (fC ⟨(sC rfl AllS.nil'), AllH.nil'⟩ (fC ⟨(sC rfl AllS.nil'), AllH.nil'⟩ (fC ⟨(sC rfl (sC rfl AllS.nil')), (hC rfl AllH.nil')⟩ (fC ⟨(sC rfl AllS.nil'), AllH.nil'⟩ AllF.nil')))))))) ?_ ?_
   ·refine (pC ?_ (pC ?_ (pC ?_ (pC ?_ (pC ?_ (pC ?_ (pC ?_ (pC ?_ AllStep.nil'))))))))
    ·intro K rest fr hv htk k
     show AWops _ x _ _ K ⟨54, (upd 54 fr 0 (D.one (C.ref 0 0))), _⟩
     refine s_move (d := (D.one (C.ref 0 0))) rfl k
    ·intro K rest fr hv htk k
     show AWops _ x _ _ K ⟨54, (upd 54 fr 20 (D.one (C.ref 0 0))), [(hv 0), (hv 1), (hv 2), (hv 3), (hv 4)]⟩
     refine s_nilCheck (d := (D.one (C.ref 0 0))) rfl (.inl ⟨_, _, rfl⟩) k
    ·intro K rest fr hv htk k
     show AWops _ x _ _ K ⟨54, (upd 54 fr 21 (D.one (C.ref 0 0))), [(hv 0), (hv 1), (hv 2), (hv 3), (hv 4)]⟩
     refine s_fieldRef F.fo_27_0 (by decide) rfl k
    ·intro K rest fr hv htk k
     show AWops _ x _ _ K ⟨54, (upd 54 fr 22 (D.one (C.ref 0 0))), [(some (AObj.cells false [(C.p true (.v (.pointer none))), (C.p false (.sl r6.2.snap.length (r6.2.snap.flatMap e_u8))), (C.own 2 0 r6.2.l.length 1), (C.p true (.v (.bool r6.2.stopped)))])), (hv 1), (hv 2), (hv 3), (hv 4)]⟩
     refine s_load1 (c' := (C.p true (.v (.pointer none)))) F.ag_24 rfl rfl k
    ·intro K rest fr hv htk k
     show AWops _ x _ _ K ⟨54, (upd 54 fr 1 (D.one (C.p false (.sl a1.length (a1.flatMap e_u8))))), _⟩
     refine s_move (d := (D.one (C.p false (.sl a1.length (a1.flatMap e_u8))))) rfl k
    ·intro K rest fr hv htk k
     show AWops _ x _ _ K ⟨54, (upd 54 fr 24 (D.one (C.p false (.sl a1.length (a1.flatMap e_u8))))), [(hv 0), (hv 1), (hv 2), (hv 3), (hv 4)]⟩
     refine s_call2 (ρ := []) (br := false) (H2 := [(hv 0), (hv 1), (hv 2), (hv 3), (hv 4), (some (AObj.cells true (rowC e_u8 r8)))]) (d := (D.one (C.own 5 0 r8.length 1))) F.ca_26 rfl rfl (ac (.one .imm) an) an (by decide) rfl (journal_frame.meets _ a1 r8 er8) (.inl rfl) (by first | rfl | (simp only [mergeH2, orF, Bool.false_or, Bool.or_false, Bool.true_or, Bool.or_true, mergeAt, mergeObj, renO, ren_row, List.drop_succ_cons, List.drop_zero, List.map_cons, List.map_nil, Option.map_some, Option.map_none, List.length_cons, List.length_nil, Nat.zero_add, List.append_assoc, List.cons_append, List.nil_append]; done) | (simp only [mergeH2, orF, Bool.false_or, Bool.or_false, Bool.true_or, Bool.or_true, mergeAt, mergeObj, renO, ren_row, List.drop_succ_cons, List.drop_zero, List.map_cons, List.map_nil, Option.map_some, Option.map_none, List.length_cons, List.length_nil, Nat.zero_add, List.append_assoc, List.cons_append, List.nil_append]; rfl)) rfl ?_
     refine AWops.weak (st' := ⟨54, (upd 54 (upd 54 fr 24 (D.one (C.p false (.sl a1.length (a1.flatMap e_u8))))) 25 (D.one (C.own 3 0 r8.length 1))), [(hv 0), (hv 1), (hv 2), (some (AObj.cells true (rowC e_u8 r8))), (hv 4)]⟩) (Weak.gen (kk := 2) [0, 1, 2, 5, 4] [] hx rfl (by decide) (by decide) rfl rfl rfl (le_upd2 (le_ok (p := 3) (L := 5) rfl (htk 3 rfl).1) (.t (.one (.own rfl)))) (ac (ole_ok (p := 3) (L := 5) rfl ((htk 3 rfl).2 0)) (ac (ole_ok (p := 3) (L := 5) rfl ((htk 3 rfl).2 1)) (ac (ole_ok (p := 3) (L := 5) rfl ((htk 3 rfl).2 2)) (ac (.cells (fun _ => rfl) (all2_row _)) (ac (ole_ok (p := 3) (L := 5) rfl ((htk 3 rfl).2 4)) an)))))) k
    ·intro K rest fr hv htk k
     show AWops _ x _ _ K ⟨54, (upd 54 (upd 54 fr 25 (D.one (C.own 3 0 r8.length 1))) 23 (sc (.pointer none))), [(hv 0), (hv 1), (hv 2), (some (AObj.cells true (rowC e_u8 r8))), (hv 4)]⟩
     refine s_call2 (ρ := []) (br := true) (H2 := [(hv 0), (hv 1), (hv 2), (some (AObj.cells true (rowC e_u8 r8))), (hv 4)]) (d := (sc (.int .i64 2))) F.ca_25 rfl rfl (ac (.one .sc) (ac (.one .sc) (ac (.one (LendC.bor e_u8_len rfl rfl rfl)) an))) an (by decide) rfl (vdisk_Disk_Append_nil0.meets _ (⟨#[106, 111, 117, 114, 110, 97, 108]⟩ : ByteArray) r8 2 er9) (.inr ⟨rfl, rfl⟩) rfl rfl k
    ·intro K rest fr hv htk k
     show AWops _ x _ _ K ⟨54, (upd 54 fr 26 (sc (.int .i64 2))), _⟩
     refine s_assign (d := (sc (.int .i64 2))) rfl k
   ·refine AWops.weak (st' := ⟨54, (upd 54 (upd 54 (upd 54 topF 0 (D.one (C.ref 0 0))) 1 (D.one (C.p false (.sl a1.length (a1.flatMap e_u8))))) 6 (sc (.int .i64 2))), [(some (AObj.cells false [(C.p true (.v (.pointer none))), (C.p false (.sl r6.2.snap.length (r6.2.snap.flatMap e_u8))), (C.own 2 0 r6.2.l.length 1), (C.p true (.v (.bool r6.2.stopped)))])), none, (some (AObj.cells false (rowC (e_sl e_u8) r6.2.l)))]⟩) (Weak.gen (kk := 2) [0, 1, 2] [] hx rfl (by decide) (by decide) rfl rfl rfl (le_upd (le_upd (le_upd (le_top _) (.t (.one (.ref rfl)))) (.t (.one .same))) (.t (.one .sc))) (ac (.cells (fun h => h) (ac .sc (ac .same (ac (.own rfl) (ac .sc an))))) (ac (.none _) (ac (.cells (fun h => h) (all2_row _)) an)))) (AWops.nil (AW.seq (AW.seq (AW.region ?_))))
    refine s_move (d := (sc (.int .i64 2))) rfl ?_
    refine s_binI (v := (.bool false)) rfl rfl rfl (AWops.nil ?_)
    refine AW.cond_no rfl rfl (AW.skip (AW.seq (AW.seq (AW.region ?_))))
    refine s_move (d := (sc (.int .i64 2))) rfl ?_
    refine s_binI (v := (.bool false)) rfl rfl rfl (AWops.nil ?_)
    refine AW.cond_no rfl rfl (AW.skip (AW.seq (AW.seq (AW.region ?_))))
    refine s_move (d := (sc (.int .i64 2))) rfl ?_
    refine s_binI (v := (.bool true)) rfl rfl rfl (AWops.nil ?_)
    refine AW.cond_yes rfl rfl (AW.seq (AW.region ?_))
    refine s_move (d := (D.one (C.ref 0 0))) rfl ?_
    refine s_nilCheck (d := (D.one (C.ref 0 0))) rfl (.inl ⟨_, _, rfl⟩) ?_
    refine s_fieldRef F.fo_27_3 (by decide) rfl ?_
    refine s_store (cs' := [(C.p true (.v (.pointer none))), (C.p false (.sl r6.2.snap.length (r6.2.snap.flatMap e_u8))), (C.own 2 0 r6.2.l.length 1), (C.p true (.v (.bool true)))]) rfl rfl rfl (List.cons_ne_nil _ _) rfl F.sz_4 (nl rfl) rfl (AWops.nil (AW.seq (AW.region ?_)))
    refine s_move (d := (sc (.int .i64 2))) rfl ?_
    refine s_assign (d := (sc (.int .i64 2))) rfl (AWops.nil (AW.ret ?_))
    obtain rfl := Option.some.inj h
    exact ⟨_, rfl, (Weak.gen (kk := 2) [0, 1, 2] [] rfl rfl (by decide) (by decide) rfl rfl rfl (le_upd (le_top _) (.t (.one .sc))) (ac (.cells (fun h => h) (ac .sc (ac .same (ac (.own rfl) (ac .sc an))))) (ac (.none _) (ac (.cells (fun h => h) (all2_row _)) an))))⟩
def journal_replace_nil0.f (k : Nat) (a1 : List Int) : Option Int := (journal_frame.f k a1).bind fun r1 => (vdisk_Disk_Append_nil0.f k (⟨#[106, 111, 117, 114, 110, 97, 108, 46, 110, 101, 119]⟩ : ByteArray) r1).bind fun r2 => some 2
theorem journal_replace_nil0.meets (k : Nat) (a1 : List Int) (r : Int) (h : journal_replace_nil0.f k a1 = some r) : Meets Try.prog 29 [(sc (.pointer none)), (D.one (C.p false (.sl a1.length (a1.flatMap e_u8))))] [] (sc (.int .i64 r)) [] := by
 unfold journal_replace_nil0.f at h
 refine Meets.of_body (n := 19) Try.func29 rfl rfl (nl rfl) fun x hx => ?_
 replace hx : x.k = 0 := hx
 show AW _ x _ _ ⟨19, fr0 [(sc (.pointer none)), (D.one (C.p false (.sl a1.length (a1.flatMap e_u8))))], []⟩
 refine AW.seq (AW.region ?_)
 refine s_assign (d := (sc (.int .i64 0))) rfl (AWops.nil (AW.seq (AW.region ?_)))
 refine s_move (d := (sc (.pointer none))) rfl ?_
 refine s_move (d := (D.one (C.p false (.sl a1.length (a1.flatMap e_u8))))) rfl ?_
 obtain ⟨r1, er1, h⟩ := bnd h
 refine s_call2 (ρ := []) (br := false) (H2 := [(some (AObj.cells true (rowC e_u8 r1)))]) (d := (D.one (C.own 0 0 r1.length 1))) F.ca_26 rfl rfl (ac (.one .imm) an) an (by decide) rfl (journal_frame.meets _ a1 r1 er1) (.inl rfl) (by first | rfl | (simp only [mergeH2, orF, Bool.false_or, Bool.or_false, Bool.true_or, Bool.or_true, mergeAt, mergeObj, renO, ren_row, List.drop_succ_cons, List.drop_zero, List.map_cons, List.map_nil, Option.map_some, Option.map_none, List.length_cons, List.length_nil, Nat.zero_add, List.append_assoc, List.cons_append, List.nil_append]; done) | (simp only [mergeH2, orF, Bool.false_or, Bool.or_false, Bool.true_or, Bool.or_true, mergeAt, mergeObj, renO, ren_row, List.drop_succ_cons, List.drop_zero, List.map_cons, List.map_nil, Option.map_some, Option.map_none, List.length_cons, List.length_nil, Nat.zero_add, List.append_assoc, List.cons_append, List.nil_append]; rfl)) rfl ?_
 obtain ⟨r2, er2, h⟩ := bnd h
 have kr2 := vdisk_Disk_Append_nil0.const er2
 subst kr2
 refine s_call2 (ρ := []) (br := true) (H2 := [(some (AObj.cells true (rowC e_u8 r1)))]) (d := (sc (.int .i64 2))) F.ca_25 rfl rfl (ac (.one .sc) (ac (.one .sc) (ac (.one (LendC.bor e_u8_len rfl rfl rfl)) an))) an (by decide) rfl (vdisk_Disk_Append_nil0.meets _ (⟨#[106, 111, 117, 114, 110, 97, 108, 46, 110, 101, 119]⟩ : ByteArray) r1 2 er2) (.inr ⟨rfl, rfl⟩) rfl rfl ?_
 refine s_assign (d := (sc (.int .i64 2))) rfl (AWops.nil (AW.seq (AW.seq (AW.region ?_))))
 refine s_move (d := (sc (.int .i64 2))) rfl ?_
 refine s_binI (v := (.bool false)) rfl rfl rfl (AWops.nil ?_)
 refine AW.cond_no rfl rfl (AW.skip (AW.seq (AW.seq (AW.region ?_))))
 refine s_move (d := (sc (.int .i64 2))) rfl ?_
 refine s_binI (v := (.bool false)) rfl rfl rfl (AWops.nil ?_)
 refine AW.cond_no rfl rfl (AW.skip (AW.seq (AW.region ?_)))
 refine s_move (d := (sc (.int .i64 2))) rfl ?_
 refine s_assign (d := (sc (.int .i64 2))) rfl (AWops.nil (AW.ret ?_))
 obtain rfl := Option.some.inj h
 exact ⟨_, rfl, (Weak.gen (kk := 0) [] [] rfl rfl (by decide) (by decide) rfl rfl rfl (le_upd (le_top _) (.t (.one .sc))) an)⟩
theorem journal_replace_nil0.const {k : Nat} {a1 : List Int} {r : Int} (h : journal_replace_nil0.f k a1 = some r) : r = 2 := by
 unfold journal_replace_nil0.f at h
 obtain ⟨_, _, h⟩ := bnd h
 obtain ⟨_, _, h⟩ := bnd h
 exact (Option.some.inj h).symm
def journal_Journal_Compact.f (k : Nat) (p0 : journal_Journal) (a1 : List Int) : Option (Int × journal_Journal) := (journal_Journal_may.f k (⟨(), p0.snap, p0.l, p0.stopped⟩ : journal_Journal) (decide ((a1.length : Int) ≤ 4194304))).bind fun r1 => if (r1.1 != 0) = true then (some (r1.1, (⟨(), r1.2.snap, r1.2.l, r1.2.stopped⟩ : journal_Journal))) else ((journal_replace_nil0.f k a1).bind fun r3 => some (2, (⟨(), r1.2.snap, r1.2.l, true⟩ : journal_Journal)))
theorem journal_Journal_Compact.meets (k : Nat) (p0 : journal_Journal) (a1 : List Int) (r : Int × journal_Journal) (h : journal_Journal_Compact.f k p0 a1 = some r) : Meets Try.prog 8 [(D.one (C.ref 0 0)), (D.one (C.p false (.sl a1.length (a1.flatMap e_u8))))] [(some (AObj.cells false [(C.p true (.v (.pointer none))), (C.p false (.sl p0.snap.length (p0.snap.flatMap e_u8))), (C.own 1 0 p0.l.length 1), (C.p true (.v (.bool p0.stopped)))])), (some (AObj.cells false (rowC (e_sl e_u8) p0.l)))] (sc (.int .i64 r.1)) [(some (AObj.cells false [(C.p true (.v (.pointer none))), (C.p false (.sl r.2.snap.length (r.2.snap.flatMap e_u8))), (C.own 2 0 r.2.l.length 1), (C.p true (.v (.bool r.2.stopped)))])), none, (some (AObj.cells false (rowC (e_sl e_u8) r.2.l)))] := by
 unfold journal_Journal_Compact.f at h
 refine Meets.of_body (n := 39) Try.func8 rfl rfl (nl rfl) fun x hx => ?_
 replace hx : x.k = 2 := hx
 show AW _ x _ _ ⟨39, fr0 [(D.one (C.ref 0 0)), (D.one (C.p false (.sl a1.length (a1.flatMap e_u8))))], [(some (AObj.cells false [(C.p true (.v (.pointer none))), (C.p false (.sl p0.snap.length (p0.snap.flatMap e_u8))), (C.own 1 0 p0.l.length 1), (C.p true (.v (.bool p0.stopped)))])), (some (AObj.cells false (rowC (e_sl e_u8) p0.l)))]⟩
 refine AW.weak (st' := ⟨39, (upd 39 (upd 39 topF 0 (D.one (C.ref 0 0))) 1 (D.one (C.p false (.sl a1.length (a1.flatMap e_u8))))), [(some (AObj.cells false [(C.p true (.v (.pointer none))), (C.p false (.sl p0.snap.length (p0.snap.flatMap e_u8))), (C.own 2 0 p0.l.length 1), (C.p true (.v (.bool p0.stopped)))])), none, (some (AObj.cells false (rowC (e_sl e_u8) p0.l)))]⟩) (Weak.genL (kk := 2) [0, 1, 1] [] hx rfl (by decide) rfl rfl rfl rfl (le_upd (le_upd (le_top _) (.t (.one (.ref rfl)))) (.t (.one .same))) (ac (.cells (fun h => h) (ac .sc (ac .same (ac (.own rfl) (ac .sc an))))) (ac (.none _) (ac (.cells (fun h => h) (all2_row _)) an)))) (AW.seq (AW.region ?_))
 refine s_assign (d := (sc (.int .i64 0))) rfl (AWops.nil (AW.seq (AW.seq (AW.region ?_))))
 refine s_move (d := (D.one (C.ref 0 0))) rfl ?_
 refine s_move (d := (D.one (C.p false (.sl a1.length (a1.flatMap e_u8))))) rfl ?_
 refine s_len (n := a1.length) F.u_22 rfl (.inr ⟨(fun _ _ h => by cases h), ⟨_, rfl⟩⟩) ?_
 refine s_binI (v := (.bool (decide ((a1.length : Int) ≤ 4194304)))) rfl rfl rfl ?_
 obtain ⟨r1, er1, h⟩ := bnd h
 refine s_call2 (ρ := [0, 2]) (br := false) (H2 := [(some (AObj.cells false [(C.p true (.v (.pointer none))), (C.p false (.sl r1.2.snap.length (r1.2.snap.flatMap e_u8))), (C.own 3 0 r1.2.l.length 1), (C.p true (.v (.bool r1.2.stopped)))])), none, none, (some (AObj.cells false (rowC (e_sl e_u8) r1.2.l)))]) (d := (sc (.int .i64 r1.1))) F.ca_24 rfl rfl (ac (.one (.ref rfl)) (ac (.one .sc) an)) (ac (.cells (ac .sc (ac .imm (ac (.own rfl) (ac .sc an))))) (ac (.cells (lend_row _)) an)) (by decide) rfl (journal_Journal_may.meets _ (⟨(), p0.snap, p0.l, p0.stopped⟩ : journal_Journal) (decide ((a1.length : Int) ≤ 4194304)) r1 er1) (.inl rfl) (by first | rfl | (simp only [mergeH2, orF, Bool.false_or, Bool.or_false, Bool.true_or, Bool.or_true, mergeAt, mergeObj, renO, ren_row, List.drop_succ_cons, List.drop_zero, List.map_cons, List.map_nil, Option.map_some, Option.map_none, List.length_cons, List.length_nil, Nat.zero_add, List.append_assoc, List.cons_append, List.nil_append]; done) | (simp only [mergeH2, orF, Bool.false_or, Bool.or_false, Bool.true_or, Bool.or_true, mergeAt, mergeObj, renO, ren_row, List.drop_succ_cons, List.drop_zero, List.map_cons, List.map_nil, Option.map_some, Option.map_none, List.length_cons, List.length_nil, Nat.zero_add, List.append_assoc, List.cons_append, List.nil_append]; rfl)) rfl ?_
 refine s_assign (d := (sc (.int .i64 r1.1))) rfl (AWops.nil (AW.seq (AW.region ?_)))
 refine s_move (d := (sc (.int .i64 r1.1))) rfl ?_
 refine s_binI (v := (.bool (r1.1 != 0))) rfl rfl rfl (AWops.nil ?_)
 rcases itH h with ⟨c2, h⟩ | ⟨c2, h⟩
 ·refine AW.cond_yes rfl c2 (AW.seq (AW.region ?_))
  refine s_move (d := (sc (.int .i64 r1.1))) rfl ?_
  refine s_assign (d := (sc (.int .i64 r1.1))) rfl (AWops.nil (AW.ret ?_))
  obtain rfl := Option.some.inj h
  exact ⟨_, rfl, (Weak.gen (kk := 2) [0, 1, 3] [] rfl rfl (by decide) (by decide) rfl rfl rfl (le_upd (le_top _) (.t (.one .sc))) (ac (.cells (fun h => h) (ac .sc (ac .same (ac (.own rfl) (ac .sc an))))) (ac (.none _) (ac (.cells (fun h => h) (all2_row _)) an))))⟩
 ·refine AW.cond_no rfl c2 (AW.skip (AW.seq (AW.region ?_)))
  refine s_move (d := (D.one (C.ref 0 0))) rfl ?_
  refine s_nilCheck (d := (D.one (C.ref 0 0))) rfl (.inl ⟨_, _, rfl⟩) ?_
  refine s_fieldRef F.fo_27_0 (by decide) rfl ?_
  refine s_load1 (c' := (C.p true (.v (.pointer none)))) F.ag_24 rfl rfl ?_
  refine s_move (d := (D.one (C.p false (.sl a1.length (a1.flatMap e_u8))))) rfl ?_
  obtain ⟨r3, er3, h⟩ := bnd h
  have kr3 := journal_replace_nil0.const er3
  subst kr3
  refine s_call2 (ρ := []) (br := false) (H2 := [(some (AObj.cells false [(C.p true (.v (.pointer none))), (C.p false (.sl r1.2.snap.length (r1.2.snap.flatMap e_u8))), (C.own 3 0 r1.2.l.length 1), (C.p true (.v (.bool r1.2.stopped)))])), none, none, (some (AObj.cells false (rowC (e_sl e_u8) r1.2.l)))]) (d := (sc (.int .i64 2))) F.ca_29 rfl rfl (ac (.one .sc) (ac (.one .imm) an)) an (by decide) rfl (journal_replace_nil0.meets _ a1 2 er3) (.inl rfl) rfl rfl ?_
  refine s_assign (d := (sc (.int .i64 2))) rfl (AWops.nil (AW.seq (AW.region ?_)))
  refine s_move (d := (sc (.int .i64 2))) rfl (AWops.nil (AW.block (AW.seq (AW.region ?_))))
  refine s_binI (v := (.bool false)) rfl rfl rfl ?_
  refine s_assign (d := (sc (.bool false))) rfl (AWops.nil ?_)
  refine AW.cond_no rfl rfl (AW.seq (AW.region ?_))
  refine s_binI (v := (.bool false)) rfl rfl rfl ?_
  refine s_assign (d := (sc (.bool false))) rfl (AWops.nil ?_)
  refine AW.cond_no rfl rfl (AW.seq (AW.region ?_))
  refine s_move (d := (D.one (C.ref 0 0))) rfl ?_
  refine s_nilCheck (d := (D.one (C.ref 0 0))) rfl (.inl ⟨_, _, rfl⟩) ?_
  refine s_fieldRef F.fo_27_3 (by decide) rfl ?_
  refine s_store (cs' := [(C.p true (.v (.pointer none))), (C.p false (.sl r1.2.snap.length (r1.2.snap.flatMap e_u8))), (C.own 3 0 r1.2.l.length 1), (C.p true (.v (.bool true)))]) rfl rfl rfl (List.cons_ne_nil _ _) rfl F.sz_4 (nl rfl) rfl (AWops.nil (AW.seq (AW.region ?_)))
  refine s_move (d := (sc (.int .i64 2))) rfl ?_
  refine s_assign (d := (sc (.int .i64 2))) rfl (AWops.nil (AW.ret ?_))
  obtain rfl := Option.some.inj h
  exact ⟨_, rfl, (Weak.gen (kk := 2) [0, 1, 3] [] rfl rfl (by decide) (by decide) rfl rfl rfl (le_upd (le_top _) (.t (.one .sc))) (ac (.cells (fun h => h) (ac .sc (ac .same (ac (.own rfl) (ac .sc an))))) (ac (.none _) (ac (.cells (fun h => h) (all2_row _)) an))))⟩
def slices_Clone_byte_byte.f (k : Nat) (a0 : List Int) : Option (List Int) := if (decide (([] : List Int).length + a0.length ≤ 140737488355328)) = true then (some a0) else none
theorem slices_Clone_byte_byte.meets (k : Nat) (a0 : List Int) (r : (List Int)) (h : slices_Clone_byte_byte.f k a0 = some r) : Meets Try.prog 28 [(D.one (C.p false (.sl a0.length (a0.flatMap e_u8))))] [] (D.one (C.own 0 0 r.length 1)) [(some (AObj.cells true (rowC e_u8 r)))] := by
 unfold slices_Clone_byte_byte.f at h
 refine Meets.of_body (n := 8) Try.func28 rfl rfl (nl rfl) fun x hx => ?_
 replace hx : x.k = 0 := hx
 show AW _ x _ _ ⟨8, fr0 [(D.one (C.p false (.sl a0.length (a0.flatMap e_u8))))], []⟩
 refine AW.seq (AW.region ?_)
 refine s_assign (d := (sc (.slice none 0 0))) rfl (AWops.nil (AW.seq (AW.seq (AW.region ?_))))
 refine s_move (d := (D.one (C.p false (.sl a0.length (a0.flatMap e_u8))))) rfl ?_
 refine s_eqNil (n := _) F.u_22 rfl (fun _ _ h => by cases h) rfl (.inl rfl) (fun b w => ?_)
 cases b with
 | false =>
  refine AWops.nil ?_
  refine AW.cond_no rfl rfl (AW.skip (AW.seq (AW.region ?_)))
  refine s_buildSlice (n := 0) (ps := []) (cs := rowC e_u8 ([] : List Int)) F.u_22 F.sz_5 F.z_5 rfl rfl (by decide) (by decide) rfl rfl ?_
  refine s_move (d := (D.one (C.p false (.sl a0.length (a0.flatMap e_u8))))) rfl ?_
  obtain ⟨c1, h⟩ := gdH h
  have dc1 := of_decide_eq_true c1
  refine t_append (xs := ([] : List Int)) (ys := a0) (zs := a0) (H' := [none, (some (AObj.cells true (rowC e_u8 a0)))]) F.u_22 F.in_5 rfl e_u8_len (.own rfl rfl) .imm F.u_22 (by omega) (by omega) rfl rfl ?_
  refine s_assign (d := (D.one (C.own 1 0 a0.length 1))) rfl (AWops.nil (AW.ret ?_))
  obtain rfl := Option.some.inj h
  exact ⟨_, rfl, (Weak.gen (kk := 0) [1] [] rfl rfl (by decide) (by decide) rfl rfl rfl (le_upd (le_top _) (.t (.one (.own rfl)))) (ac (.cells (fun _ => rfl) (all2_row _)) an))⟩
 | true =>
  obtain rfl : a0 = [] := by cases a0 with | nil => rfl | cons _ _ => exact absurd (w (by simp)) (by decide)
  replace h : (some ([] : List Int)) = some r := by simpa [bytesI] using h
  skip
  refine AWops.nil ?_
  refine AW.cond_yes rfl rfl (AW.seq (AW.region ?_))
  refine s_assign (d := (sc (.slice none 0 0))) rfl (AWops.nil (AW.ret ?_))
  obtain rfl := Option.some.inj h
  exact ⟨_, rfl, (Weak.trans (Weak.nil (sz := 1) (i := 0) rfl) (Weak.gen (kk := 0) [0] [] rfl rfl (by decide) (by decide) rfl rfl rfl (le_upd (le_top _) (.t (.one (CLe.ownN rfl (by simp))))) (ac (.cells (fun _ => rfl) an) an)))⟩
def journal_Journal_Snapshot.f (k : Nat) (p0 : journal_Journal) : Option ((List Int) × journal_Journal) := (journal_Journal_none.f k (⟨(), p0.snap, p0.l, p0.stopped⟩ : journal_Journal)).bind fun r1 => if r1.1 = true then (some (([] : List Int), (⟨(), r1.2.snap, r1.2.l, r1.2.stopped⟩ : journal_Journal))) else ((slices_Clone_byte_byte.f k r1.2.snap).bind fun r3 => some (r3, (⟨(), r1.2.snap, r1.2.l, r1.2.stopped⟩ : journal_Journal)))
theorem journal_Journal_Snapshot.meets (k : Nat) (p0 : journal_Journal) (r : (List Int) × journal_Journal) (h : journal_Journal_Snapshot.f k p0 = some r) : Meets Try.prog 9 [(D.one (C.ref 0 0))] [(some (AObj.cells false [(C.p true (.v (.pointer none))), (C.p false (.sl p0.snap.length (p0.snap.flatMap e_u8))), (C.own 1 0 p0.l.length 1), (C.p true (.v (.bool p0.stopped)))])), (some (AObj.cells false (rowC (e_sl e_u8) p0.l)))] (D.one (C.own 3 0 r.1.length 1)) [(some (AObj.cells false [(C.p true (.v (.pointer none))), (C.p false (.sl r.2.snap.length (r.2.snap.flatMap e_u8))), (C.own 2 0 r.2.l.length 1), (C.p true (.v (.bool r.2.stopped)))])), none, (some (AObj.cells false (rowC (e_sl e_u8) r.2.l))), (some (AObj.cells true (rowC e_u8 r.1)))] := by
 unfold journal_Journal_Snapshot.f at h
 refine Meets.of_body (n := 10) Try.func9 rfl rfl (nl rfl) fun x hx => ?_
 replace hx : x.k = 2 := hx
 show AW _ x _ _ ⟨10, fr0 [(D.one (C.ref 0 0))], [(some (AObj.cells false [(C.p true (.v (.pointer none))), (C.p false (.sl p0.snap.length (p0.snap.flatMap e_u8))), (C.own 1 0 p0.l.length 1), (C.p true (.v (.bool p0.stopped)))])), (some (AObj.cells false (rowC (e_sl e_u8) p0.l)))]⟩
 refine AW.weak (st' := ⟨10, (upd 10 topF 0 (D.one (C.ref 0 0))), [(some (AObj.cells false [(C.p true (.v (.pointer none))), (C.p false (.sl p0.snap.length (p0.snap.flatMap e_u8))), (C.own 2 0 p0.l.length 1), (C.p true (.v (.bool p0.stopped)))])), none, (some (AObj.cells false (rowC (e_sl e_u8) p0.l)))]⟩) (Weak.genL (kk := 2) [0, 1, 1] [] hx rfl (by decide) rfl rfl rfl rfl (le_upd (le_top _) (.t (.one (.ref rfl)))) (ac (.cells (fun h => h) (ac .sc (ac .same (ac (.own rfl) (ac .sc an))))) (ac (.none _) (ac (.cells (fun h => h) (all2_row _)) an)))) (AW.seq (AW.region ?_))
 refine s_assign (d := (sc (.slice none 0 0))) rfl (AWops.nil (AW.seq (AW.seq (AW.region ?_))))
 refine s_move (d := (D.one (C.ref 0 0))) rfl ?_
 obtain ⟨r1, er1, h⟩ := bnd h
 refine s_call2 (ρ := [0, 2]) (br := false) (H2 := [(some (AObj.cells false [(C.p true (.v (.pointer none))), (C.p false (.sl r1.2.snap.length (r1.2.snap.flatMap e_u8))), (C.own 3 0 r1.2.l.length 1), (C.p true (.v (.bool r1.2.stopped)))])), none, none, (some (AObj.cells false (rowC (e_sl e_u8) r1.2.l)))]) (d := (sc (.bool r1.1))) F.ca_30 rfl rfl (ac (.one (.ref rfl)) an) (ac (.cells (ac .sc (ac .imm (ac (.own rfl) (ac .sc an))))) (ac (.cells (lend_row _)) an)) (by decide) rfl (journal_Journal_none.meets _ (⟨(), p0.snap, p0.l, p0.stopped⟩ : journal_Journal) r1 er1) (.inl rfl) (by first | rfl | (simp only [mergeH2, orF, Bool.false_or, Bool.or_false, Bool.true_or, Bool.or_true, mergeAt, mergeObj, renO, ren_row, List.drop_succ_cons, List.drop_zero, List.map_cons, List.map_nil, Option.map_some, Option.map_none, List.length_cons, List.length_nil, Nat.zero_add, List.append_assoc, List.cons_append, List.nil_append]; done) | (simp only [mergeH2, orF, Bool.false_or, Bool.or_false, Bool.true_or, Bool.or_true, mergeAt, mergeObj, renO, ren_row, List.drop_succ_cons, List.drop_zero, List.map_cons, List.map_nil, Option.map_some, Option.map_none, List.length_cons, List.length_nil, Nat.zero_add, List.append_assoc, List.cons_append, List.nil_append]; rfl)) rfl (AWops.nil ?_)
 rcases itH h with ⟨c2, h⟩ | ⟨c2, h⟩
 ·refine AW.cond_yes rfl c2 (AW.seq (AW.region ?_))
  refine s_assign (d := (sc (.slice none 0 0))) rfl (AWops.nil (AW.ret ?_))
  obtain rfl := Option.some.inj h
  exact ⟨_, rfl, (Weak.trans (Weak.nil (sz := 1) (i := 0) rfl) (Weak.gen (kk := 2) [0, 1, 3, 4] [] rfl rfl (by decide) (by decide) rfl rfl rfl (le_upd (le_top _) (.t (.one (CLe.ownN rfl (by simp))))) (ac (.cells (fun h => h) (ac .sc (ac .same (ac (.own rfl) (ac .sc an))))) (ac (.none _) (ac (.cells (fun h => h) (all2_row _)) (ac (.cells (fun _ => rfl) an) an))))))⟩
 ·refine AW.cond_no rfl c2 (AW.skip (AW.seq (AW.region ?_)))
  refine s_move (d := (D.one (C.ref 0 0))) rfl ?_
  refine s_nilCheck (d := (D.one (C.ref 0 0))) rfl (.inl ⟨_, _, rfl⟩) ?_
  refine s_fieldRef F.fo_27_1 (by decide) rfl ?_
  refine s_load1 (c' := (C.p false (.sl r1.2.snap.length (r1.2.snap.flatMap e_u8)))) F.ag_22 rfl rfl ?_
  obtain ⟨r3, er3, h⟩ := bnd h
  refine s_call2 (ρ := []) (br := false) (H2 := [(some (AObj.cells false [(C.p true (.v (.pointer none))), (C.p false (.sl r1.2.snap.length (r1.2.snap.flatMap e_u8))), (C.own 3 0 r1.2.l.length 1), (C.p true (.v (.bool r1.2.stopped)))])), none, none, (some (AObj.cells false (rowC (e_sl e_u8) r1.2.l))), (some (AObj.cells true (rowC e_u8 r3)))]) (d := (D.one (C.own 4 0 r3.length 1))) F.ca_28 rfl rfl (ac (.one .imm) an) an (by decide) rfl (slices_Clone_byte_byte.meets _ r1.2.snap r3 er3) (.inl rfl) (by first | rfl | (simp only [mergeH2, orF, Bool.false_or, Bool.or_false, Bool.true_or, Bool.or_true, mergeAt, mergeObj, renO, ren_row, List.drop_succ_cons, List.drop_zero, List.map_cons, List.map_nil, Option.map_some, Option.map_none, List.length_cons, List.length_nil, Nat.zero_add, List.append_assoc, List.cons_append, List.nil_append]; done) | (simp only [mergeH2, orF, Bool.false_or, Bool.or_false, Bool.true_or, Bool.or_true, mergeAt, mergeObj, renO, ren_row, List.drop_succ_cons, List.drop_zero, List.map_cons, List.map_nil, Option.map_some, Option.map_none, List.length_cons, List.length_nil, Nat.zero_add, List.append_assoc, List.cons_append, List.nil_append]; rfl)) rfl ?_
  refine s_assign (d := (D.one (C.own 4 0 r3.length 1))) rfl (AWops.nil (AW.ret ?_))
  obtain rfl := Option.some.inj h
  exact ⟨_, rfl, (Weak.gen (kk := 2) [0, 1, 3, 4] [] rfl rfl (by decide) (by decide) rfl rfl rfl (le_upd (le_top _) (.t (.one (.own rfl)))) (ac (.cells (fun h => h) (ac .sc (ac .same (ac (.own rfl) (ac .sc an))))) (ac (.none _) (ac (.cells (fun h => h) (all2_row _)) (ac (.cells (fun _ => rfl) (all2_row _)) an)))))⟩
mutual
def journal_Journal_Records.l0 : Nat → (List (List Int)) → Int → (Bool × journal_Journal) → Option ((List (List Int)) × journal_Journal)
 | 0, _, _, _ => none
 | k + 1, x3, x4, r1 => if (decide (x4 < (r1.2.l.length : Int))) = true then ((rd r1.2.l x4).bind fun v6 => (slices_Clone_byte_byte.f k v6).bind fun r8 => if (decide (x3.length + ([r8] : List (List Int)).length ≤ 5864062014805)) = true then (journal_Journal_Records.l0 k (x3 ++ ([r8] : List (List Int))) (IntKind.i64.wrap (x4 + 1)) r1) else none) else (some (x3, (⟨(), r1.2.snap, r1.2.l, r1.2.stopped⟩ : journal_Journal)))
end
def journal_Journal_Records.f (k : Nat) (p0 : journal_Journal) : Option ((List (List Int)) × journal_Journal) := (journal_Journal_none.f k (⟨(), p0.snap, p0.l, p0.stopped⟩ : journal_Journal)).bind fun r1 => if r1.1 = true then (some (([] : List (List Int)), (⟨(), r1.2.snap, r1.2.l, r1.2.stopped⟩ : journal_Journal))) else (journal_Journal_Records.l0 k ([] : List (List Int)) 0 r1)
theorem journal_Journal_Records.meets (k : Nat) (p0 : journal_Journal) (r : (List (List Int)) × journal_Journal) (h : journal_Journal_Records.f k p0 = some r) : Meets Try.prog 10 [(D.one (C.ref 0 0))] [(some (AObj.cells false [(C.p true (.v (.pointer none))), (C.p false (.sl p0.snap.length (p0.snap.flatMap e_u8))), (C.own 1 0 p0.l.length 1), (C.p true (.v (.bool p0.stopped)))])), (some (AObj.cells false (rowC (e_sl e_u8) p0.l)))] (D.one (C.own 3 0 r.1.length 1)) [(some (AObj.cells false [(C.p true (.v (.pointer none))), (C.p false (.sl r.2.snap.length (r.2.snap.flatMap e_u8))), (C.own 2 0 r.2.l.length 1), (C.p true (.v (.bool r.2.stopped)))])), none, (some (AObj.cells false (rowC (e_sl e_u8) r.2.l))), (some (AObj.cells true (rowC (e_sl e_u8) r.1)))] := by
 unfold journal_Journal_Records.f at h
 refine Meets.of_body (n := 24) Try.func10 rfl rfl (nl rfl) fun x hx => ?_
 replace hx : x.k = 2 := hx
 show AW _ x _ _ ⟨24, fr0 [(D.one (C.ref 0 0))], [(some (AObj.cells false [(C.p true (.v (.pointer none))), (C.p false (.sl p0.snap.length (p0.snap.flatMap e_u8))), (C.own 1 0 p0.l.length 1), (C.p true (.v (.bool p0.stopped)))])), (some (AObj.cells false (rowC (e_sl e_u8) p0.l)))]⟩
 refine AW.weak (st' := ⟨24, (upd 24 topF 0 (D.one (C.ref 0 0))), [(some (AObj.cells false [(C.p true (.v (.pointer none))), (C.p false (.sl p0.snap.length (p0.snap.flatMap e_u8))), (C.own 2 0 p0.l.length 1), (C.p true (.v (.bool p0.stopped)))])), none, (some (AObj.cells false (rowC (e_sl e_u8) p0.l)))]⟩) (Weak.genL (kk := 2) [0, 1, 1] [] hx rfl (by decide) rfl rfl rfl rfl (le_upd (le_top _) (.t (.one (.ref rfl)))) (ac (.cells (fun h => h) (ac .sc (ac .same (ac (.own rfl) (ac .sc an))))) (ac (.none _) (ac (.cells (fun h => h) (all2_row _)) an)))) (AW.seq (AW.region ?_))
 refine s_assign (d := (sc (.slice none 0 0))) rfl (AWops.nil (AW.seq (AW.seq (AW.region ?_))))
 refine s_move (d := (D.one (C.ref 0 0))) rfl ?_
 obtain ⟨r1, er1, h⟩ := bnd h
 refine s_call2 (ρ := [0, 2]) (br := false) (H2 := [(some (AObj.cells false [(C.p true (.v (.pointer none))), (C.p false (.sl r1.2.snap.length (r1.2.snap.flatMap e_u8))), (C.own 3 0 r1.2.l.length 1), (C.p true (.v (.bool r1.2.stopped)))])), none, none, (some (AObj.cells false (rowC (e_sl e_u8) r1.2.l)))]) (d := (sc (.bool r1.1))) F.ca_30 rfl rfl (ac (.one (.ref rfl)) an) (ac (.cells (ac .sc (ac .imm (ac (.own rfl) (ac .sc an))))) (ac (.cells (lend_row _)) an)) (by decide) rfl (journal_Journal_none.meets _ (⟨(), p0.snap, p0.l, p0.stopped⟩ : journal_Journal) r1 er1) (.inl rfl) (by first | rfl | (simp only [mergeH2, orF, Bool.false_or, Bool.or_false, Bool.true_or, Bool.or_true, mergeAt, mergeObj, renO, ren_row, List.drop_succ_cons, List.drop_zero, List.map_cons, List.map_nil, Option.map_some, Option.map_none, List.length_cons, List.length_nil, Nat.zero_add, List.append_assoc, List.cons_append, List.nil_append]; done) | (simp only [mergeH2, orF, Bool.false_or, Bool.or_false, Bool.true_or, Bool.or_true, mergeAt, mergeObj, renO, ren_row, List.drop_succ_cons, List.drop_zero, List.map_cons, List.map_nil, Option.map_some, Option.map_none, List.length_cons, List.length_nil, Nat.zero_add, List.append_assoc, List.cons_append, List.nil_append]; rfl)) rfl (AWops.nil ?_)
 rcases itH h with ⟨c2, h⟩ | ⟨c2, h⟩
 ·refine AW.cond_yes rfl c2 (AW.seq (AW.region ?_))
  refine s_assign (d := (sc (.slice none 0 0))) rfl (AWops.nil (AW.ret ?_))
  obtain rfl := Option.some.inj h
  exact ⟨_, rfl, (Weak.trans (Weak.nil (sz := 1) (i := 0) rfl) (Weak.gen (kk := 2) [0, 1, 3, 4] [] rfl rfl (by decide) (by decide) rfl rfl rfl (le_upd (le_top _) (.t (.one (CLe.ownN rfl (by simp))))) (ac (.cells (fun h => h) (ac .sc (ac .same (ac (.own rfl) (ac .sc an))))) (ac (.none _) (ac (.cells (fun h => h) (all2_row _)) (ac (.cells (fun _ => rfl) an) an))))))⟩
 ·refine AW.cond_no rfl c2 (AW.skip (AW.seq (AW.region ?_)))
  refine s_assign (d := (sc (.slice none 0 0))) rfl (AWops.nil (AW.seq (AW.seq (AW.region ?_))))
  refine s_move (d := (D.one (C.ref 0 0))) rfl ?_
  refine s_nilCheck (d := (D.one (C.ref 0 0))) rfl (.inl ⟨_, _, rfl⟩) ?_
  refine s_fieldRef F.fo_27_2 (by decide) rfl ?_
  refine s_load1 (c' := (C.own 3 0 r1.2.l.length 1)) F.ag_25 rfl rfl ?_
  refine s_len (n := r1.2.l.length) F.u_25 rfl (.inr ⟨(fun _ _ h => by cases h), ⟨_, rfl⟩⟩) ?_
  refine s_move (d := (sc (.int .i64 0))) rfl (AWops.nil (AW.block ?_))
  refine AW.loopw (st0 := ⟨24, (upd 24 (upd 24 (upd 24 (upd 24 topF 3 (D.one (C.own 2 0 ([] : List (List Int)).length 1))) 11 (D.one (C.own 3 0 r1.2.l.length 1))) 12 (sc (.int .i64 (r1.2.l.length : Int)))) 13 (sc (.int .i64 0))), [(some (AObj.cells false [(C.p true (.v (.pointer none))), (C.p false (.sl r1.2.snap.length (r1.2.snap.flatMap e_u8))), (C.own 3 0 r1.2.l.length 1), (C.p true (.v (.bool r1.2.stopped)))])), none, (some (AObj.cells true (rowC (e_sl e_u8) ([] : List (List Int))))), (some (AObj.cells false (rowC (e_sl e_u8) r1.2.l)))]⟩) (fun kv st => kv ≤ k ∧ ∃ (x3 : List (List Int)) (x4 : Int), journal_Journal_Records.l0 kv x3 x4 r1 = some r ∧ st = ⟨24, (upd 24 (upd 24 (upd 24 (upd 24 topF 3 (D.one (C.own 2 0 x3.length 1))) 11 (D.one (C.own 3 0 r1.2.l.length 1))) 12 (sc (.int .i64 (r1.2.l.length : Int)))) 13 (sc (.int .i64 x4))), [(some (AObj.cells false [(C.p true (.v (.pointer none))), (C.p false (.sl r1.2.snap.length (r1.2.snap.flatMap e_u8))), (C.own 3 0 r1.2.l.length 1), (C.p true (.v (.bool r1.2.stopped)))])), none, (some (AObj.cells true (rowC (e_sl e_u8) x3))), (some (AObj.cells false (rowC (e_sl e_u8) r1.2.l)))]⟩) (k := k) (Weak.trans (Weak.nil (sz := 1) (i := 3) rfl) (Weak.gen (kk := 2) [0, 1, 4, 3] [] hx rfl (by decide) (by decide) rfl rfl rfl (le_upd (le_upd (le_upd (le_upd (le_top _) (.t (.one (.own rfl)))) (.t (.one (.own rfl)))) (.t (.one .sc))) (.t (.one .sc))) (ac (.cells (fun h => h) (ac .sc (ac .same (ac (.own rfl) (ac .sc an))))) (ac (.none _) (ac (.cells (fun _ => rfl) an) (ac (.cells (fun h => h) (all2_row _)) an)))))) ⟨Nat.le_refl _, ([] : List (List Int)), 0, h, rfl⟩ ?_
  rintro ql0 st ⟨hkl0, x3, x4, h, rfl⟩
  cases ql0 with
  | zero => exact absurd h (by simp [journal_Journal_Records.l0])
  | succ ql0 =>
   replace h := (journal_Journal_Records.l0.eq_2 _ _ _ _).symm.trans h
   refine AW.seq (AW.region ?_)
   refine s_binI (v := (.bool (decide (x4 < (r1.2.l.length : Int))))) rfl rfl rfl (AWops.nil (AW.seq ?_))
   rcases itH h with ⟨c5, h⟩ | ⟨c5, h⟩
   ·refine AW.cond_yes rfl c5 (AW.skip (AW.seq (AW.block (AW.seq (AW.region ?_)))))
    obtain ⟨v6, ev6, h⟩ := bnd h
    obtain ⟨pv6, qv6, gv6⟩ := rd_some ev6
    refine s_indexOwn (d := (D.one (C.ref 3 (0 + x4.toNat * 1)))) F.u_25 F.sz_22 rfl rfl pv6 qv6 rfl ?_
    obtain ⟨R7, hR7⟩ := row_at (f := (e_sl e_u8)) (sz := 1) (o := 0) (e_sl_len _) gv6 (e_sl_eq _ v6) (by decide)
    refine s_load1 (c' := (C.p false (.sl v6.length (v6.flatMap e_u8)))) F.ag_22 (congrArg some hR7) rfl ?_
    refine s_assign (d := (D.one (C.p false (.sl v6.length (v6.flatMap e_u8))))) rfl (AWops.nil (AW.region ?_))
    refine s_move (d := (D.one (C.own 2 0 x3.length 1))) rfl ?_
    refine s_move (d := (D.one (C.p false (.sl v6.length (v6.flatMap e_u8))))) rfl ?_
    obtain ⟨r8, er8, h⟩ := bnd h
    refine s_call2 (ρ := []) (br := false) (H2 := [(some (AObj.cells false [(C.p true (.v (.pointer none))), (C.p false (.sl r1.2.snap.length (r1.2.snap.flatMap e_u8))), (C.own 3 0 r1.2.l.length 1), (C.p true (.v (.bool r1.2.stopped)))])), none, (some (AObj.cells true (rowC (e_sl e_u8) x3))), (some (AObj.cells false (rowC (e_sl e_u8) r1.2.l))), (some (AObj.cells true (rowC e_u8 r8)))]) (d := (D.one (C.own 4 0 r8.length 1))) F.ca_28 rfl rfl (ac (.one .imm) an) an (by decide) rfl (slices_Clone_byte_byte.meets _ v6 r8 er8) (.inl rfl) (by first | rfl | (simp only [mergeH2, orF, Bool.false_or, Bool.or_false, Bool.true_or, Bool.or_true, mergeAt, mergeObj, renO, ren_row, List.drop_succ_cons, List.drop_zero, List.map_cons, List.map_nil, Option.map_some, Option.map_none, List.length_cons, List.length_nil, Nat.zero_add, List.append_assoc, List.cons_append, List.nil_append]; done) | (simp only [mergeH2, orF, Bool.false_or, Bool.or_false, Bool.true_or, Bool.or_true, mergeAt, mergeObj, renO, ren_row, List.drop_succ_cons, List.drop_zero, List.map_cons, List.map_nil, Option.map_some, Option.map_none, List.length_cons, List.length_nil, Nat.zero_add, List.append_assoc, List.cons_append, List.nil_append]; rfl)) rfl ?_
    refine AWops.weak (st' := ⟨24, (upd 24 (upd 24 (upd 24 (upd 24 (upd 24 (upd 24 (upd 24 (upd 24 (upd 24 (upd 24 (upd 24 topF 3 (D.one (C.own 2 0 x3.length 1))) 5 (D.one (C.p false (.sl v6.length (v6.flatMap e_u8))))) 11 (D.one (C.own 3 0 r1.2.l.length 1))) 12 (sc (.int .i64 (r1.2.l.length : Int)))) 13 (sc (.int .i64 x4))) 14 (sc (.bool (decide (x4 < (r1.2.l.length : Int)))))) 15 (D.one (C.ref 3 (0 + x4.toNat * 1)))) 16 (D.one (C.p false (.sl v6.length (v6.flatMap e_u8))))) 17 (D.one (C.own 2 0 x3.length 1))) 18 (D.one (C.p false (.sl v6.length (v6.flatMap e_u8))))) 19 (D.one (C.p false (.sl r8.length (r8.flatMap e_u8))))), [(some (AObj.cells false [(C.p true (.v (.pointer none))), (C.p false (.sl r1.2.snap.length (r1.2.snap.flatMap e_u8))), (C.own 3 0 r1.2.l.length 1), (C.p true (.v (.bool r1.2.stopped)))])), none, (some (AObj.cells true (rowC (e_sl e_u8) x3))), (some (AObj.cells false (rowC (e_sl e_u8) r1.2.l)))]⟩) (Weak.gen (kk := 2) [0, 1, 2, 3] [4] hx rfl (by decide) (by decide) rfl rfl rfl (le_upd (le_upd (le_upd (le_upd (le_upd (le_upd (le_upd (le_upd (le_upd (le_upd (le_upd (le_top _) (.t (.one (.own rfl)))) (.t (.one .same))) (.t (.one (.own rfl)))) (.t (.one .sc))) (.t (.one .sc))) (.t (.one .sc))) (.t (.one (.ref rfl)))) (.t (.one .same))) (.t (.one (.own rfl)))) (.t (.one .same))) (.t (.one (CLe.frz e_u8_len rfl rfl rfl)))) (ac (.cells (fun h => h) (ac .sc (ac .same (ac (.own rfl) (ac .sc an))))) (ac (.none _) (ac (.cells (fun _ => rfl) (all2_row _)) (ac (.cells (fun h => h) (all2_row _)) an))))) ?_
    refine s_buildSlice (n := 1) (ps := [(0, (D.one (C.p false (.sl r8.length (r8.flatMap e_u8)))))]) (cs := rowC (e_sl e_u8) ([r8] : List (List Int))) F.u_25 F.sz_22 F.z_22 rfl rfl (by decide) (by decide) rfl rfl ?_
    obtain ⟨c9, h⟩ := gdH h
    have dc9 := of_decide_eq_true c9
    refine t_append (xs := x3) (ys := ([r8] : List (List Int))) (zs := x3 ++ ([r8] : List (List Int))) (H' := [(some (AObj.cells false [(C.p true (.v (.pointer none))), (C.p false (.sl r1.2.snap.length (r1.2.snap.flatMap e_u8))), (C.own 3 0 r1.2.l.length 1), (C.p true (.v (.bool r1.2.stopped)))])), none, none, (some (AObj.cells false (rowC (e_sl e_u8) r1.2.l))), (some (AObj.cells true (rowC (e_sl e_u8) ([r8] : List (List Int))))), (some (AObj.cells true (rowC (e_sl e_u8) (x3 ++ ([r8] : List (List Int))))))]) F.u_25 F.in_22 rfl (e_sl_len _) (.own rfl rfl) (.own rfl rfl) F.u_25 (by omega) (by omega) rfl rfl ?_
    refine s_assign (d := (D.one (C.own 5 0 ((x3 ++ ([r8] : List (List Int))).length) 1))) rfl (AWops.nil (AW.region ?_))
    refine s_binI (v := (.int .i64 (IntKind.i64.wrap (x4 + 1)))) rfl rfl rfl ?_
    refine s_move (d := (sc (.int .i64 (IntKind.i64.wrap (x4 + 1))))) rfl (AWops.nil ?_)
    exact ⟨_, ⟨24, (upd 24 (upd 24 (upd 24 (upd 24 topF 3 (D.one (C.own 2 0 (x3 ++ ([r8] : List (List Int))).length 1))) 11 (D.one (C.own 3 0 r1.2.l.length 1))) 12 (sc (.int .i64 (r1.2.l.length : Int)))) 13 (sc (.int .i64 (IntKind.i64.wrap (x4 + 1))))), [(some (AObj.cells false [(C.p true (.v (.pointer none))), (C.p false (.sl r1.2.snap.length (r1.2.snap.flatMap e_u8))), (C.own 3 0 r1.2.l.length 1), (C.p true (.v (.bool r1.2.stopped)))])), none, (some (AObj.cells true (rowC (e_sl e_u8) (x3 ++ ([r8] : List (List Int)))))), (some (AObj.cells false (rowC (e_sl e_u8) r1.2.l)))]⟩, by omega, (Weak.gen (kk := 2) [0, 1, 5, 3] [] hx rfl (by decide) (by decide) rfl rfl rfl (le_upd (le_upd (le_upd (le_upd (le_top _) (.t (.one (.own rfl)))) (.t (.one (.own rfl)))) (.t (.one .sc))) (.t (.one .sc))) (ac (.cells (fun h => h) (ac .sc (ac .same (ac (.own rfl) (ac .sc an))))) (ac (.none _) (ac (.cells (fun _ => rfl) (all2_row _)) (ac (.cells (fun h => h) (all2_row _)) an))))), by omega, x3 ++ ([r8] : List (List Int)), IntKind.i64.wrap (x4 + 1), h, rfl⟩
   ·refine AW.cond_no rfl c5 (AW.exit (AW.seq (AW.region ?_)))
    refine s_move (d := (D.one (C.own 2 0 x3.length 1))) rfl ?_
    refine s_assign (d := (D.one (C.own 2 0 x3.length 1))) rfl (AWops.nil (AW.ret ?_))
    obtain rfl := Option.some.inj h
    exact ⟨_, rfl, (Weak.gen (kk := 2) [0, 1, 3, 2] [] rfl rfl (by decide) (by decide) rfl rfl rfl (le_upd (le_top _) (.t (.one (.own rfl)))) (ac (.cells (fun h => h) (ac .sc (ac .same (ac (.own rfl) (ac .sc an))))) (ac (.none _) (ac (.cells (fun h => h) (all2_row _)) (ac (.cells (fun _ => rfl) (all2_row _)) an)))))⟩
def journal_Journal_Stopped.f (k : Nat) (p0 : journal_Journal) : Option (Bool × journal_Journal) := (journal_Journal_none.f k (⟨(), p0.snap, p0.l, p0.stopped⟩ : journal_Journal)).bind fun r1 => if r1.1 = true then (some (true, (⟨(), r1.2.snap, r1.2.l, r1.2.stopped⟩ : journal_Journal))) else (some (r1.2.stopped, (⟨(), r1.2.snap, r1.2.l, r1.2.stopped⟩ : journal_Journal)))
theorem journal_Journal_Stopped.meets (k : Nat) (p0 : journal_Journal) (r : Bool × journal_Journal) (h : journal_Journal_Stopped.f k p0 = some r) : Meets Try.prog 11 [(D.one (C.ref 0 0))] [(some (AObj.cells false [(C.p true (.v (.pointer none))), (C.p false (.sl p0.snap.length (p0.snap.flatMap e_u8))), (C.own 1 0 p0.l.length 1), (C.p true (.v (.bool p0.stopped)))])), (some (AObj.cells false (rowC (e_sl e_u8) p0.l)))] (sc (.bool r.1)) [(some (AObj.cells false [(C.p true (.v (.pointer none))), (C.p false (.sl r.2.snap.length (r.2.snap.flatMap e_u8))), (C.own 2 0 r.2.l.length 1), (C.p true (.v (.bool r.2.stopped)))])), none, (some (AObj.cells false (rowC (e_sl e_u8) r.2.l)))] := by
 unfold journal_Journal_Stopped.f at h
 refine Meets.of_body (n := 11) Try.func11 rfl rfl (nl rfl) fun x hx => ?_
 replace hx : x.k = 2 := hx
 show AW _ x _ _ ⟨11, fr0 [(D.one (C.ref 0 0))], [(some (AObj.cells false [(C.p true (.v (.pointer none))), (C.p false (.sl p0.snap.length (p0.snap.flatMap e_u8))), (C.own 1 0 p0.l.length 1), (C.p true (.v (.bool p0.stopped)))])), (some (AObj.cells false (rowC (e_sl e_u8) p0.l)))]⟩
 refine AW.weak (st' := ⟨11, (upd 11 topF 0 (D.one (C.ref 0 0))), [(some (AObj.cells false [(C.p true (.v (.pointer none))), (C.p false (.sl p0.snap.length (p0.snap.flatMap e_u8))), (C.own 2 0 p0.l.length 1), (C.p true (.v (.bool p0.stopped)))])), none, (some (AObj.cells false (rowC (e_sl e_u8) p0.l)))]⟩) (Weak.genL (kk := 2) [0, 1, 1] [] hx rfl (by decide) rfl rfl rfl rfl (le_upd (le_top _) (.t (.one (.ref rfl)))) (ac (.cells (fun h => h) (ac .sc (ac .same (ac (.own rfl) (ac .sc an))))) (ac (.none _) (ac (.cells (fun h => h) (all2_row _)) an)))) (AW.seq (AW.region ?_))
 refine s_assign (d := (sc (.bool false))) rfl (AWops.nil (AW.seq (AW.region ?_)))
 refine s_move (d := (D.one (C.ref 0 0))) rfl ?_
 obtain ⟨r1, er1, h⟩ := bnd h
 refine s_call2 (ρ := [0, 2]) (br := false) (H2 := [(some (AObj.cells false [(C.p true (.v (.pointer none))), (C.p false (.sl r1.2.snap.length (r1.2.snap.flatMap e_u8))), (C.own 3 0 r1.2.l.length 1), (C.p true (.v (.bool r1.2.stopped)))])), none, none, (some (AObj.cells false (rowC (e_sl e_u8) r1.2.l)))]) (d := (sc (.bool r1.1))) F.ca_30 rfl rfl (ac (.one (.ref rfl)) an) (ac (.cells (ac .sc (ac .imm (ac (.own rfl) (ac .sc an))))) (ac (.cells (lend_row _)) an)) (by decide) rfl (journal_Journal_none.meets _ (⟨(), p0.snap, p0.l, p0.stopped⟩ : journal_Journal) r1 er1) (.inl rfl) (by first | rfl | (simp only [mergeH2, orF, Bool.false_or, Bool.or_false, Bool.true_or, Bool.or_true, mergeAt, mergeObj, renO, ren_row, List.drop_succ_cons, List.drop_zero, List.map_cons, List.map_nil, Option.map_some, Option.map_none, List.length_cons, List.length_nil, Nat.zero_add, List.append_assoc, List.cons_append, List.nil_append]; done) | (simp only [mergeH2, orF, Bool.false_or, Bool.or_false, Bool.true_or, Bool.or_true, mergeAt, mergeObj, renO, ren_row, List.drop_succ_cons, List.drop_zero, List.map_cons, List.map_nil, Option.map_some, Option.map_none, List.length_cons, List.length_nil, Nat.zero_add, List.append_assoc, List.cons_append, List.nil_append]; rfl)) rfl ?_
 refine s_move (d := (sc (.bool r1.1))) rfl ?_
 rcases itH h with ⟨c2, h⟩ | ⟨c2, h⟩
 ·iterate 4 refine AWops.guard_no rfl (nl rfl) rfl c2 ?_
  refine s_pick_yes (d := (sc (.bool true))) rfl c2 rfl ?_
  refine s_assign (d := (sc (.bool true))) rfl (AWops.nil (AW.ret ?_))
  obtain rfl := Option.some.inj h
  exact ⟨_, rfl, (Weak.gen (kk := 2) [0, 1, 3] [] rfl rfl (by decide) (by decide) rfl rfl rfl (le_upd (le_top _) (.t (.one .sc))) (ac (.cells (fun h => h) (ac .sc (ac .same (ac (.own rfl) (ac .sc an))))) (ac (.none _) (ac (.cells (fun h => h) (all2_row _)) an))))⟩
 ·refine AWops.guard_yes rfl (nl rfl) rfl c2 ?_
  refine s_move (d := (D.one (C.ref 0 0))) rfl ?_
  refine AWops.guard_yes rfl (nl rfl) rfl c2 ?_
  refine s_nilCheck (d := (D.one (C.ref 0 0))) rfl (.inl ⟨_, _, rfl⟩) ?_
  refine AWops.guard_yes rfl (nl rfl) rfl c2 ?_
  refine s_fieldRef F.fo_27_3 (by decide) rfl ?_
  refine AWops.guard_yes rfl (nl rfl) rfl c2 ?_
  refine s_load1 (c' := (C.p true (.v (.bool r1.2.stopped)))) F.ag_4 rfl rfl ?_
  refine s_pick_no (d := (sc (.bool r1.2.stopped))) rfl c2 rfl ?_
  refine s_assign (d := (sc (.bool r1.2.stopped))) rfl (AWops.nil (AW.ret ?_))
  obtain rfl := Option.some.inj h
  exact ⟨_, rfl, (Weak.gen (kk := 2) [0, 1, 3] [] rfl rfl (by decide) (by decide) rfl rfl rfl (le_upd (le_top _) (.t (.one .sc))) (ac (.cells (fun h => h) (ac .sc (ac .same (ac (.own rfl) (ac .sc an))))) (ac (.none _) (ac (.cells (fun h => h) (all2_row _)) an))))⟩
def vdisk_Disk_Remove_nil0.f (k : Nat) (a1 : ByteArray) : Option Int := (vdisk_Disk_change_nil0.f k true a1 false 0).bind fun r1 => some 2
theorem vdisk_Disk_Remove_nil0.meets (k : Nat) (a1 : ByteArray) (r : Int) (h : vdisk_Disk_Remove_nil0.f k a1 = some r) : Meets Try.prog 31 [(sc (.pointer none)), (sc (.string a1))] [] (sc (.int .i64 r)) [] := by
 unfold vdisk_Disk_Remove_nil0.f at h
 refine Meets.of_body (n := 15) Try.func31 rfl rfl (nl rfl) fun x hx => ?_
 replace hx : x.k = 0 := hx
 show AW _ x _ _ ⟨15, fr0 [(sc (.pointer none)), (sc (.string a1))], []⟩
 refine AW.seq (AW.region ?_)
 refine s_assign (d := (sc (.int .i64 0))) rfl (AWops.nil (AW.seq (AW.region ?_)))
 refine s_move (d := (sc (.pointer none))) rfl ?_
 refine s_move (d := (sc (.string a1))) rfl ?_
 obtain ⟨r1, er1, h⟩ := bnd h
 have kr1 := vdisk_Disk_change_nil0.const er1
 subst kr1
 refine s_call2 (ρ := []) (br := false) (H2 := []) (d := (sc (.int .i64 2))) F.ca_55 rfl rfl (ac (.one .sc) (ac (.one .sc) (ac (.one .sc) (ac (.one .sc) (ac (.one .sc) an))))) an (by decide) rfl (vdisk_Disk_change_nil0.meets _ true a1 false 0 2 er1) (.inl rfl) rfl rfl ?_
 refine s_assign (d := (sc (.int .i64 2))) rfl (AWops.nil (AW.seq (AW.seq (AW.region ?_))))
 refine s_move (d := (sc (.int .i64 2))) rfl ?_
 refine s_binI (v := (.bool false)) rfl rfl rfl (AWops.nil ?_)
 refine AW.cond_no rfl rfl (AW.skip (AW.seq (AW.region ?_)))
 refine s_move (d := (sc (.int .i64 2))) rfl ?_
 refine s_assign (d := (sc (.int .i64 2))) rfl (AWops.nil (AW.ret ?_))
 obtain rfl := Option.some.inj h
 exact ⟨_, rfl, (Weak.gen (kk := 0) [] [] rfl rfl (by decide) (by decide) rfl rfl rfl (le_upd (le_top _) (.t (.one .sc))) an)⟩
theorem vdisk_Disk_Remove_nil0.const {k : Nat} {a1 : ByteArray} {r : Int} (h : vdisk_Disk_Remove_nil0.f k a1 = some r) : r = 2 := by
 unfold vdisk_Disk_Remove_nil0.f at h
 obtain ⟨_, _, h⟩ := bnd h
 exact (Option.some.inj h).symm
def journal_Open_nil0.f (k : Nat) (a1 : List Int) : Option (Unit × Int) := (vdisk_Disk_Remove_nil0.f k (⟨#[106, 111, 117, 114, 110, 97, 108, 46, 110, 101, 119]⟩ : ByteArray)).bind fun r1 => some ((), 2)
theorem journal_Open_nil0.meets (k : Nat) (a1 : List Int) (r : Unit × Int) (h : journal_Open_nil0.f k a1 = some r) : Meets Try.prog 12 [(sc (.pointer none)), (D.one (C.p false (.sl a1.length (a1.flatMap e_u8))))] [] (D.tup [(sc (.pointer none)), (sc (.int .i64 r.2))]) [] := by
 unfold journal_Open_nil0.f at h
 refine Meets.of_body (n := 54) Try.func12 rfl rfl (nl rfl) fun x hx => ?_
 replace hx : x.k = 0 := hx
 show AW _ x _ _ ⟨54, fr0 [(sc (.pointer none)), (D.one (C.p false (.sl a1.length (a1.flatMap e_u8))))], []⟩
 refine AW.seq (AW.region ?_)
 refine s_assign (d := (sc (.pointer none))) rfl ?_
 refine s_assign (d := (sc (.int .i64 0))) rfl (AWops.nil (AW.seq (AW.seq (AW.region ?_))))
 refine s_move (d := (sc (.pointer none))) rfl ?_
 obtain ⟨r1, er1, h⟩ := bnd h
 have kr1 := vdisk_Disk_Remove_nil0.const er1
 subst kr1
 refine s_call2 (ρ := []) (br := false) (H2 := []) (d := (sc (.int .i64 2))) F.ca_31 rfl rfl (ac (.one .sc) (ac (.one .sc) an)) an (by decide) rfl (vdisk_Disk_Remove_nil0.meets _ (⟨#[106, 111, 117, 114, 110, 97, 108, 46, 110, 101, 119]⟩ : ByteArray) 2 er1) (.inl rfl) rfl rfl ?_
 refine s_assign (d := (sc (.int .i64 2))) rfl (AWops.nil (AW.seq (AW.region ?_)))
 refine s_move (d := (sc (.int .i64 2))) rfl (AWops.nil (AW.block (AW.seq (AW.seq (AW.region ?_)))))
 refine s_binI (v := (.bool false)) rfl rfl rfl ?_
 refine s_assign (d := (sc (.bool false))) rfl (AWops.nil ?_)
 refine AW.cond_no rfl rfl (AW.region ?_)
 refine s_binI (v := (.bool false)) rfl rfl rfl ?_
 refine s_assign (d := (sc (.bool false))) rfl (AWops.nil ?_)
 refine AW.cond_no rfl rfl (AW.seq (AW.region ?_))
 refine s_move (d := (sc (.int .i64 2))) rfl ?_
 refine s_assign (d := (sc (.pointer none))) rfl ?_
 refine s_assign (d := (sc (.int .i64 2))) rfl (AWops.nil (AW.ret ?_))
 obtain rfl := Option.some.inj h
 exact ⟨_, rfl, (Weak.gen (kk := 0) [] [] rfl rfl (by decide) (by decide) rfl rfl rfl (le_upd (le_top _) (DLe.tup (ac (TLe.one .sc) (ac (TLe.one .sc) an)))) an)⟩
def vdisk_Disk_none.f (k : Nat) (p0 : vdisk_Disk) : Option (Bool × vdisk_Disk) := some (true, (⟨([] : List (ByteArray × vdisk_file)), p0.room, p0.used, (), p0.dead⟩ : vdisk_Disk))
theorem vdisk_Disk_none.meets (k : Nat) (p0 : vdisk_Disk) (r : Bool × vdisk_Disk) (h : vdisk_Disk_none.f k p0 = some r) : Meets Try.prog 34 [(D.one (C.ref 0 0))] [(some (AObj.cells false [(C.p true (.v (.map none))), (C.p true (.v (.int .i64 p0.room))), (C.p true (.v (.int .i64 p0.used))), (C.p true (.v (.pointer none))), (C.p true (.v (.bool p0.dead)))]))] (sc (.bool r.1)) [(some (AObj.cells false [(C.p true (.v (.map none))), (C.p true (.v (.int .i64 r.2.room))), (C.p true (.v (.int .i64 r.2.used))), (C.p true (.v (.pointer none))), (C.p true (.v (.bool r.2.dead)))]))] := by
 unfold vdisk_Disk_none.f at h
 refine Meets.of_body (n := 12) Try.func34 rfl rfl (nl rfl) fun x hx => ?_
 replace hx : x.k = 1 := hx
 show AW _ x _ _ ⟨12, fr0 [(D.one (C.ref 0 0))], [(some (AObj.cells false [(C.p true (.v (.map none))), (C.p true (.v (.int .i64 p0.room))), (C.p true (.v (.int .i64 p0.used))), (C.p true (.v (.pointer none))), (C.p true (.v (.bool p0.dead)))]))]⟩
 refine AW.seq (AW.region ?_)
 refine s_assign (d := (sc (.bool false))) rfl (AWops.nil (AW.seq (AW.region ?_)))
 refine s_move (d := (D.one (C.ref 0 0))) rfl ?_
 refine s_ptrNil (b := false) F.u_24 rfl (.inl ⟨⟨_, _, rfl⟩, rfl⟩) (.inl rfl) ?_
 refine s_move (d := (sc (.bool false))) rfl ?_
 refine AWops.guard_yes rfl (nl rfl) rfl rfl ?_
 refine s_move (d := (D.one (C.ref 0 0))) rfl ?_
 refine AWops.guard_yes rfl (nl rfl) rfl rfl ?_
 refine s_nilCheck (d := (D.one (C.ref 0 0))) rfl (.inl ⟨_, _, rfl⟩) ?_
 refine AWops.guard_yes rfl (nl rfl) rfl rfl ?_
 refine s_fieldRef F.fo_37_0 (by decide) rfl ?_
 refine AWops.guard_yes rfl (nl rfl) rfl rfl ?_
 refine s_load1 (c' := (C.p true (.v (.map none)))) F.ag_34 rfl rfl ?_
 refine AWops.guard_yes rfl (nl rfl) rfl rfl ?_
 refine s_mapNil (b := true) F.u_34 rfl (.inl ⟨rfl, _, rfl⟩) (.inl ⟨rfl, rfl⟩) ?_
 refine s_pick_no (d := (sc (.bool true))) rfl rfl rfl ?_
 refine s_assign (d := (sc (.bool true))) rfl (AWops.nil (AW.ret ?_))
 obtain rfl := Option.some.inj h
 exact ⟨_, rfl, (Weak.gen (kk := 1) [0] [] rfl rfl (by decide) (by decide) rfl rfl rfl (le_upd (le_top _) (.t (.one .sc))) (ac (.cells (fun h => h) (ac .sc (ac .sc (ac .sc (ac .sc (ac .sc an)))))) an))⟩
def vdisk_Disk_change.f (k : Nat) (p0 : vdisk_Disk) (a1 : Bool) (a2 : ByteArray) (a3 : Bool) (a4 : Int) : Option (Int × vdisk_Disk) := (vdisk_Disk_none.f k (⟨([] : List (ByteArray × vdisk_file)), p0.room, p0.used, (), p0.dead⟩ : vdisk_Disk)).bind fun r1 => if r1.1 = true then (some (2, (⟨([] : List (ByteArray × vdisk_file)), r1.2.room, r1.2.used, (), r1.2.dead⟩ : vdisk_Disk))) else (if a1 = true then (if r1.2.dead = true then (some (70, (⟨([] : List (ByteArray × vdisk_file)), r1.2.room, r1.2.used, (), r1.2.dead⟩ : vdisk_Disk))) else (none)) else (some (1, (⟨([] : List (ByteArray × vdisk_file)), r1.2.room, r1.2.used, (), r1.2.dead⟩ : vdisk_Disk))))
theorem vdisk_Disk_change.meets (k : Nat) (p0 : vdisk_Disk) (a1 : Bool) (a2 : ByteArray) (a3 : Bool) (a4 : Int) (r : Int × vdisk_Disk) (h : vdisk_Disk_change.f k p0 a1 a2 a3 a4 = some r) : Meets Try.prog 55 [(D.one (C.ref 0 0)), (sc (.bool a1)), (sc (.string a2)), (sc (.bool a3)), (sc (.int .i64 a4))] [(some (AObj.cells false [(C.p true (.v (.map none))), (C.p true (.v (.int .i64 p0.room))), (C.p true (.v (.int .i64 p0.used))), (C.p true (.v (.pointer none))), (C.p true (.v (.bool p0.dead)))]))] (sc (.int .i64 r.1)) [(some (AObj.cells false [(C.p true (.v (.map none))), (C.p true (.v (.int .i64 r.2.room))), (C.p true (.v (.int .i64 r.2.used))), (C.p true (.v (.pointer none))), (C.p true (.v (.bool r.2.dead)))]))] := by
 unfold vdisk_Disk_change.f at h
 refine Meets.of_body (n := 77) Try.func55 rfl rfl (nl rfl) fun x hx => ?_
 replace hx : x.k = 1 := hx
 show AW _ x _ _ ⟨77, fr0 [(D.one (C.ref 0 0)), (sc (.bool a1)), (sc (.string a2)), (sc (.bool a3)), (sc (.int .i64 a4))], [(some (AObj.cells false [(C.p true (.v (.map none))), (C.p true (.v (.int .i64 p0.room))), (C.p true (.v (.int .i64 p0.used))), (C.p true (.v (.pointer none))), (C.p true (.v (.bool p0.dead)))]))]⟩
 refine AW.seq (AW.region ?_)
 refine s_assign (d := (sc (.int .i64 0))) rfl (AWops.nil (AW.seq (AW.block (AW.seq (AW.region ?_)))))
 refine s_move (d := (D.one (C.ref 0 0))) rfl ?_
 obtain ⟨r1, er1, h⟩ := bnd h
 refine s_call2 (ρ := [0]) (br := false) (H2 := [(some (AObj.cells false [(C.p true (.v (.map none))), (C.p true (.v (.int .i64 r1.2.room))), (C.p true (.v (.int .i64 r1.2.used))), (C.p true (.v (.pointer none))), (C.p true (.v (.bool r1.2.dead)))]))]) (d := (sc (.bool r1.1))) F.ca_34 rfl rfl (ac (.one (.ref rfl)) an) (ac (.cells (ac .sc (ac .sc (ac .sc (ac .sc (ac .sc an)))))) an) (by decide) rfl (vdisk_Disk_none.meets _ (⟨([] : List (ByteArray × vdisk_file)), p0.room, p0.used, (), p0.dead⟩ : vdisk_Disk) r1 er1) (.inl rfl) rfl rfl ?_
 refine s_assign (d := (sc (.bool r1.1))) rfl (AWops.nil ?_)
 rcases itH h with ⟨c2, h⟩ | ⟨c2, h⟩
 ·refine AW.cond_yes rfl c2 (AW.seq (AW.region ?_))
  refine s_assign (d := (sc (.int .i64 2))) rfl (AWops.nil (AW.ret ?_))
  obtain rfl := Option.some.inj h
  exact ⟨_, rfl, (Weak.gen (kk := 1) [0] [] rfl rfl (by decide) (by decide) rfl rfl rfl (le_upd (le_top _) (.t (.one .sc))) (ac (.cells (fun h => h) (ac .sc (ac .sc (ac .sc (ac .sc (ac .sc an)))))) an))⟩
 ·refine AW.cond_no rfl c2 (AW.seq (AW.region ?_))
  refine s_move (d := (sc (.bool a1))) rfl ?_
  refine s_not rfl ?_
  refine s_assign (d := (sc (.bool (!a1)))) rfl (AWops.nil ?_)
  rcases itH h with ⟨c3, h⟩ | ⟨c3, h⟩
  ·refine AW.cond_no rfl (by rw [c3] <;> rfl) (AW.seq (AW.region ?_))
   refine s_move (d := (D.one (C.ref 0 0))) rfl ?_
   refine s_nilCheck (d := (D.one (C.ref 0 0))) rfl (.inl ⟨_, _, rfl⟩) ?_
   refine s_fieldRef F.fo_37_4 (by decide) rfl ?_
   refine s_load1 (c' := (C.p true (.v (.bool r1.2.dead)))) F.ag_4 rfl rfl ?_
   refine s_assign (d := (sc (.bool r1.2.dead))) rfl (AWops.nil ?_)
   rcases itH h with ⟨c4, h⟩ | ⟨c4, h⟩
   ·refine AW.cond_yes rfl c4 (AW.seq (AW.region ?_))
    refine s_assign (d := (sc (.int .i64 70))) rfl (AWops.nil (AW.ret ?_))
    obtain rfl := Option.some.inj h
    exact ⟨_, rfl, (Weak.gen (kk := 1) [0] [] rfl rfl (by decide) (by decide) rfl rfl rfl (le_upd (le_top _) (.t (.one .sc))) (ac (.cells (fun h => h) (ac .sc (ac .sc (ac .sc (ac .sc (ac .sc an)))))) an))⟩
   ·refine AW.cond_no rfl c4 (AW.skip (AW.seq (AW.seq (AW.region ?_))))
    refine s_move (d := (D.one (C.ref 0 0))) rfl ?_
    refine s_nilCheck (d := (D.one (C.ref 0 0))) rfl (.inl ⟨_, _, rfl⟩) ?_
    refine s_fieldRef F.fo_37_0 (by decide) rfl ?_
    refine s_load1 (c' := (C.p true (.v (.map none)))) F.ag_34 rfl rfl ?_
    refine s_move (d := (sc (.string a2))) rfl ?_
    cases h
  ·refine AW.cond_yes rfl (by rw [c3] <;> rfl) (AW.seq (AW.region ?_))
   refine s_assign (d := (sc (.int .i64 1))) rfl (AWops.nil (AW.ret ?_))
   obtain rfl := Option.some.inj h
   exact ⟨_, rfl, (Weak.gen (kk := 1) [0] [] rfl rfl (by decide) (by decide) rfl rfl rfl (le_upd (le_top _) (.t (.one .sc))) (ac (.cells (fun h => h) (ac .sc (ac .sc (ac .sc (ac .sc (ac .sc an)))))) an))⟩
def vdisk_Disk_cut.f (k : Nat) (p0 : vdisk_Disk) (a1 : ByteArray) : Option vdisk_Disk := none
theorem vdisk_Disk_cut.meets (k : Nat) (p0 : vdisk_Disk) (a1 : ByteArray) (r : vdisk_Disk) (h : vdisk_Disk_cut.f k p0 a1 = some r) : Meets Try.prog 59 [(D.one (C.ref 0 0)), (sc (.string a1))] [(some (AObj.cells false [(C.p true (.v (.map none))), (C.p true (.v (.int .i64 p0.room))), (C.p true (.v (.int .i64 p0.used))), (C.p true (.v (.pointer none))), (C.p true (.v (.bool p0.dead)))]))] (D.tup []) [(some (AObj.cells false [(C.p true (.v (.map none))), (C.p true (.v (.int .i64 r.room))), (C.p true (.v (.int .i64 r.used))), (C.p true (.v (.pointer none))), (C.p true (.v (.bool r.dead)))]))] := by
 unfold vdisk_Disk_cut.f at h
 refine Meets.of_body (n := 24) Try.func59 rfl rfl (nl rfl) fun x hx => ?_
 replace hx : x.k = 1 := hx
 show AW _ x _ _ ⟨24, fr0 [(D.one (C.ref 0 0)), (sc (.string a1))], [(some (AObj.cells false [(C.p true (.v (.map none))), (C.p true (.v (.int .i64 p0.room))), (C.p true (.v (.int .i64 p0.used))), (C.p true (.v (.pointer none))), (C.p true (.v (.bool p0.dead)))]))]⟩
 refine AW.seq ?_
 refine AW.weak (st' := ⟨24, (upd 24 (upd 24 topF 0 (D.one (C.ref 0 0))) 1 (sc (.string a1))), [(some (AObj.cells false [(C.p true (.v (.map none))), (C.p true (.v (.int .i64 p0.room))), (C.p true (.v (.int .i64 p0.used))), (C.p true (.v (.pointer none))), (C.p true (.v (.bool p0.dead)))]))]⟩) (Weak.gen (kk := 1) [0] [] hx rfl (by decide) (by decide) rfl rfl rfl (le_upd (le_upd (le_top _) (.t (.one (.ref rfl)))) (.t (.one .sc))) (ac (.cells (fun h => h) (ac .sc (ac .sc (ac .sc (ac .sc (ac .sc an)))))) an)) ?_
 cases h
def vdisk_Disk_Remove.f (k : Nat) (p0 : vdisk_Disk) (a1 : ByteArray) : Option (Int × vdisk_Disk) := (vdisk_Disk_change.f k (⟨([] : List (ByteArray × vdisk_file)), p0.room, p0.used, (), p0.dead⟩ : vdisk_Disk) true a1 false 0).bind fun r1 => if (r1.1 == 0) = true then ((vdisk_Disk_cut.f k (⟨([] : List (ByteArray × vdisk_file)), r1.2.room, r1.2.used, (), r1.2.dead⟩ : vdisk_Disk) a1).bind fun r3 => some (r1.1, (⟨([] : List (ByteArray × vdisk_file)), r3.room, r3.used, (), r3.dead⟩ : vdisk_Disk))) else (some (r1.1, (⟨([] : List (ByteArray × vdisk_file)), r1.2.room, r1.2.used, (), r1.2.dead⟩ : vdisk_Disk)))
theorem vdisk_Disk_Remove.meets (k : Nat) (p0 : vdisk_Disk) (a1 : ByteArray) (r : Int × vdisk_Disk) (h : vdisk_Disk_Remove.f k p0 a1 = some r) : Meets Try.prog 31 [(D.one (C.ref 0 0)), (sc (.string a1))] [(some (AObj.cells false [(C.p true (.v (.map none))), (C.p true (.v (.int .i64 p0.room))), (C.p true (.v (.int .i64 p0.used))), (C.p true (.v (.pointer none))), (C.p true (.v (.bool p0.dead)))]))] (sc (.int .i64 r.1)) [(some (AObj.cells false [(C.p true (.v (.map none))), (C.p true (.v (.int .i64 r.2.room))), (C.p true (.v (.int .i64 r.2.used))), (C.p true (.v (.pointer none))), (C.p true (.v (.bool r.2.dead)))]))] := by
 unfold vdisk_Disk_Remove.f at h
 refine Meets.of_body (n := 15) Try.func31 rfl rfl (nl rfl) fun x hx => ?_
 replace hx : x.k = 1 := hx
 show AW _ x _ _ ⟨15, fr0 [(D.one (C.ref 0 0)), (sc (.string a1))], [(some (AObj.cells false [(C.p true (.v (.map none))), (C.p true (.v (.int .i64 p0.room))), (C.p true (.v (.int .i64 p0.used))), (C.p true (.v (.pointer none))), (C.p true (.v (.bool p0.dead)))]))]⟩
 refine AW.seq (AW.region ?_)
 refine s_assign (d := (sc (.int .i64 0))) rfl (AWops.nil (AW.seq (AW.region ?_)))
 refine s_move (d := (D.one (C.ref 0 0))) rfl ?_
 refine s_move (d := (sc (.string a1))) rfl ?_
 obtain ⟨r1, er1, h⟩ := bnd h
 refine s_call2 (ρ := [0]) (br := false) (H2 := [(some (AObj.cells false [(C.p true (.v (.map none))), (C.p true (.v (.int .i64 r1.2.room))), (C.p true (.v (.int .i64 r1.2.used))), (C.p true (.v (.pointer none))), (C.p true (.v (.bool r1.2.dead)))]))]) (d := (sc (.int .i64 r1.1))) F.ca_55 rfl rfl (ac (.one (.ref rfl)) (ac (.one .sc) (ac (.one .sc) (ac (.one .sc) (ac (.one .sc) an))))) (ac (.cells (ac .sc (ac .sc (ac .sc (ac .sc (ac .sc an)))))) an) (by decide) rfl (vdisk_Disk_change.meets _ (⟨([] : List (ByteArray × vdisk_file)), p0.room, p0.used, (), p0.dead⟩ : vdisk_Disk) true a1 false 0 r1 er1) (.inl rfl) rfl rfl ?_
 refine s_assign (d := (sc (.int .i64 r1.1))) rfl (AWops.nil (AW.seq (AW.seq (AW.region ?_))))
 refine s_move (d := (sc (.int .i64 r1.1))) rfl ?_
 refine s_binI (v := (.bool (r1.1 == 0))) rfl rfl rfl (AWops.nil ?_)
 rcases itH h with ⟨c2, h⟩ | ⟨c2, h⟩
 ·refine AW.cond_yes rfl c2 (AW.region ?_)
  refine s_move (d := (D.one (C.ref 0 0))) rfl ?_
  refine s_move (d := (sc (.string a1))) rfl ?_
  obtain ⟨r3, er3, h⟩ := bnd h
  refine s_call2 (ρ := [0]) (br := false) (H2 := [(some (AObj.cells false [(C.p true (.v (.map none))), (C.p true (.v (.int .i64 r3.room))), (C.p true (.v (.int .i64 r3.used))), (C.p true (.v (.pointer none))), (C.p true (.v (.bool r3.dead)))]))]) (d := (D.tup [])) F.ca_59 rfl rfl (ac (.one (.ref rfl)) (ac (.one .sc) an)) (ac (.cells (ac .sc (ac .sc (ac .sc (ac .sc (ac .sc an)))))) an) (by decide) rfl (vdisk_Disk_cut.meets _ (⟨([] : List (ByteArray × vdisk_file)), r1.2.room, r1.2.used, (), r1.2.dead⟩ : vdisk_Disk) a1 r3 er3) (.inl rfl) rfl rfl (AWops.nil (AW.seq (AW.region ?_)))
  refine s_move (d := (sc (.int .i64 r1.1))) rfl ?_
  refine s_assign (d := (sc (.int .i64 r1.1))) rfl (AWops.nil (AW.ret ?_))
  obtain rfl := Option.some.inj h
  exact ⟨_, rfl, (Weak.gen (kk := 1) [0] [] rfl rfl (by decide) (by decide) rfl rfl rfl (le_upd (le_top _) (.t (.one .sc))) (ac (.cells (fun h => h) (ac .sc (ac .sc (ac .sc (ac .sc (ac .sc an)))))) an))⟩
 ·refine AW.cond_no rfl c2 (AW.skip (AW.seq (AW.region ?_)))
  refine s_move (d := (sc (.int .i64 r1.1))) rfl ?_
  refine s_assign (d := (sc (.int .i64 r1.1))) rfl (AWops.nil (AW.ret ?_))
  obtain rfl := Option.some.inj h
  exact ⟨_, rfl, (Weak.gen (kk := 1) [0] [] rfl rfl (by decide) (by decide) rfl rfl rfl (le_upd (le_top _) (.t (.one .sc))) (ac (.cells (fun h => h) (ac .sc (ac .sc (ac .sc (ac .sc (ac .sc an)))))) an))⟩
def vdisk_Disk_Read.f (k : Nat) (p0 : vdisk_Disk) (a1 : ByteArray) : Option ((List Int) × Int × vdisk_Disk) := (vdisk_Disk_none.f k (⟨([] : List (ByteArray × vdisk_file)), p0.room, p0.used, (), p0.dead⟩ : vdisk_Disk)).bind fun r1 => if r1.1 = true then (some (([] : List Int), 2, (⟨([] : List (ByteArray × vdisk_file)), r1.2.room, r1.2.used, (), r1.2.dead⟩ : vdisk_Disk))) else (if r1.2.dead = true then (some (([] : List Int), 70, (⟨([] : List (ByteArray × vdisk_file)), r1.2.room, r1.2.used, (), r1.2.dead⟩ : vdisk_Disk))) else (none))
theorem vdisk_Disk_Read.meets (k : Nat) (p0 : vdisk_Disk) (a1 : ByteArray) (r : (List Int) × Int × vdisk_Disk) (h : vdisk_Disk_Read.f k p0 a1 = some r) : Meets Try.prog 32 [(D.one (C.ref 0 0)), (sc (.string a1))] [(some (AObj.cells false [(C.p true (.v (.map none))), (C.p true (.v (.int .i64 p0.room))), (C.p true (.v (.int .i64 p0.used))), (C.p true (.v (.pointer none))), (C.p true (.v (.bool p0.dead)))]))] (D.tup [(D.one (C.p false (.sl r.1.length (r.1.flatMap e_u8)))), (sc (.int .i64 r.2.1))]) [(some (AObj.cells false [(C.p true (.v (.map none))), (C.p true (.v (.int .i64 r.2.2.room))), (C.p true (.v (.int .i64 r.2.2.used))), (C.p true (.v (.pointer none))), (C.p true (.v (.bool r.2.2.dead)))]))] := by
 unfold vdisk_Disk_Read.f at h
 refine Meets.of_body (n := 30) Try.func32 rfl rfl (nl rfl) fun x hx => ?_
 replace hx : x.k = 1 := hx
 show AW _ x _ _ ⟨30, fr0 [(D.one (C.ref 0 0)), (sc (.string a1))], [(some (AObj.cells false [(C.p true (.v (.map none))), (C.p true (.v (.int .i64 p0.room))), (C.p true (.v (.int .i64 p0.used))), (C.p true (.v (.pointer none))), (C.p true (.v (.bool p0.dead)))]))]⟩
 refine AW.seq (AW.region ?_)
 refine s_assign (d := (sc (.slice none 0 0))) rfl ?_
 refine s_assign (d := (sc (.int .i64 0))) rfl (AWops.nil (AW.seq (AW.block (AW.seq (AW.region ?_)))))
 refine s_move (d := (D.one (C.ref 0 0))) rfl ?_
 obtain ⟨r1, er1, h⟩ := bnd h
 refine s_call2 (ρ := [0]) (br := false) (H2 := [(some (AObj.cells false [(C.p true (.v (.map none))), (C.p true (.v (.int .i64 r1.2.room))), (C.p true (.v (.int .i64 r1.2.used))), (C.p true (.v (.pointer none))), (C.p true (.v (.bool r1.2.dead)))]))]) (d := (sc (.bool r1.1))) F.ca_34 rfl rfl (ac (.one (.ref rfl)) an) (ac (.cells (ac .sc (ac .sc (ac .sc (ac .sc (ac .sc an)))))) an) (by decide) rfl (vdisk_Disk_none.meets _ (⟨([] : List (ByteArray × vdisk_file)), p0.room, p0.used, (), p0.dead⟩ : vdisk_Disk) r1 er1) (.inl rfl) rfl rfl ?_
 refine s_assign (d := (sc (.bool r1.1))) rfl (AWops.nil ?_)
 rcases itH h with ⟨c2, h⟩ | ⟨c2, h⟩
 ·refine AW.cond_yes rfl c2 (AW.seq (AW.region ?_))
  refine s_assign (d := (sc (.slice none 0 0))) rfl ?_
  refine s_assign (d := (sc (.int .i64 2))) rfl (AWops.nil (AW.ret ?_))
  obtain rfl := Option.some.inj h
  exact ⟨_, rfl, (Weak.gen (kk := 1) [0] [] rfl rfl (by decide) (by decide) rfl rfl rfl (le_upd (le_top _) (DLe.tup (ac (TLe.one .nil) (ac (TLe.one .sc) an)))) (ac (.cells (fun h => h) (ac .sc (ac .sc (ac .sc (ac .sc (ac .sc an)))))) an))⟩
 ·refine AW.cond_no rfl c2 (AW.seq (AW.region ?_))
  refine s_move (d := (D.one (C.ref 0 0))) rfl ?_
  refine s_nilCheck (d := (D.one (C.ref 0 0))) rfl (.inl ⟨_, _, rfl⟩) ?_
  refine s_fieldRef F.fo_37_4 (by decide) rfl ?_
  refine s_load1 (c' := (C.p true (.v (.bool r1.2.dead)))) F.ag_4 rfl rfl ?_
  refine s_assign (d := (sc (.bool r1.2.dead))) rfl (AWops.nil ?_)
  rcases itH h with ⟨c3, h⟩ | ⟨c3, h⟩
  ·refine AW.cond_yes rfl c3 (AW.seq (AW.region ?_))
   refine s_assign (d := (sc (.slice none 0 0))) rfl ?_
   refine s_assign (d := (sc (.int .i64 70))) rfl (AWops.nil (AW.ret ?_))
   obtain rfl := Option.some.inj h
   exact ⟨_, rfl, (Weak.gen (kk := 1) [0] [] rfl rfl (by decide) (by decide) rfl rfl rfl (le_upd (le_top _) (DLe.tup (ac (TLe.one .nil) (ac (TLe.one .sc) an)))) (ac (.cells (fun h => h) (ac .sc (ac .sc (ac .sc (ac .sc (ac .sc an)))))) an))⟩
  ·refine AW.cond_no rfl c3 (AW.skip (AW.seq (AW.region ?_)))
   refine s_move (d := (D.one (C.ref 0 0))) rfl ?_
   refine s_nilCheck (d := (D.one (C.ref 0 0))) rfl (.inl ⟨_, _, rfl⟩) ?_
   refine s_fieldRef F.fo_37_0 (by decide) rfl ?_
   refine s_load1 (c' := (C.p true (.v (.map none)))) F.ag_34 rfl rfl ?_
   refine s_move (d := (sc (.string a1))) rfl ?_
   cases h
mutual
def slices_Equal_byte_byte.l0 : Nat → Int → (List Int) → (List Int) → Option Bool
 | 0, _, _, _ => none
 | k + 1, x2, a0, a1 => if (decide (x2 < (a0.length : Int))) = true then ((rd a0 x2).bind fun v4 => (rd a1 x2).bind fun v5 => if (v4 != v5) = true then (some false) else (slices_Equal_byte_byte.l0 k (IntKind.i64.wrap (x2 + 1)) a0 a1)) else (some true)
end
def slices_Equal_byte_byte.f (k : Nat) (a0 : List Int) (a1 : List Int) : Option Bool := if ((a0.length : Int) != (a1.length : Int)) = true then (some false) else (slices_Equal_byte_byte.l0 k 0 a0 a1)
theorem slices_Equal_byte_byte.meets (k : Nat) (a0 : List Int) (a1 : List Int) (r : Bool) (h : slices_Equal_byte_byte.f k a0 a1 = some r) : Meets Try.prog 79 [(D.one (C.p false (.sl a0.length (a0.flatMap e_u8)))), (D.one (C.p false (.sl a1.length (a1.flatMap e_u8))))] [] (sc (.bool r)) [] := by
 unfold slices_Equal_byte_byte.f at h
 refine Meets.of_body (n := 26) Try.func79 rfl rfl (nl rfl) fun x hx => ?_
 replace hx : x.k = 0 := hx
 show AW _ x _ _ ⟨26, fr0 [(D.one (C.p false (.sl a0.length (a0.flatMap e_u8)))), (D.one (C.p false (.sl a1.length (a1.flatMap e_u8))))], []⟩
 refine AW.seq (AW.region ?_)
 refine s_assign (d := (sc (.bool false))) rfl (AWops.nil (AW.seq (AW.seq (AW.region ?_))))
 refine s_move (d := (D.one (C.p false (.sl a0.length (a0.flatMap e_u8))))) rfl ?_
 refine s_len (n := a0.length) F.u_22 rfl (.inr ⟨(fun _ _ h => by cases h), ⟨_, rfl⟩⟩) ?_
 refine s_move (d := (D.one (C.p false (.sl a1.length (a1.flatMap e_u8))))) rfl ?_
 refine s_len (n := a1.length) F.u_22 rfl (.inr ⟨(fun _ _ h => by cases h), ⟨_, rfl⟩⟩) ?_
 refine s_binI (v := (.bool ((a0.length : Int) != (a1.length : Int)))) rfl rfl rfl (AWops.nil ?_)
 rcases itH h with ⟨c1, h⟩ | ⟨c1, h⟩
 ·refine AW.cond_yes rfl c1 (AW.seq (AW.region ?_))
  refine s_assign (d := (sc (.bool false))) rfl (AWops.nil (AW.ret ?_))
  obtain rfl := Option.some.inj h
  exact ⟨_, rfl, (Weak.gen (kk := 0) [] [] rfl rfl (by decide) (by decide) rfl rfl rfl (le_upd (le_top _) (.t (.one .sc))) an)⟩
 ·refine AW.cond_no rfl c1 (AW.skip (AW.seq (AW.seq (AW.region ?_))))
  refine s_move (d := (D.one (C.p false (.sl a0.length (a0.flatMap e_u8))))) rfl ?_
  refine s_len (n := a0.length) F.u_22 rfl (.inr ⟨(fun _ _ h => by cases h), ⟨_, rfl⟩⟩) ?_
  refine s_move (d := (sc (.int .i64 0))) rfl (AWops.nil (AW.block ?_))
  refine AW.loopw (st0 := ⟨26, (upd 26 (upd 26 (upd 26 (upd 26 topF 0 (D.one (C.p false (.sl a0.length (a0.flatMap e_u8))))) 1 (D.one (C.p false (.sl a1.length (a1.flatMap e_u8))))) 12 (sc (.int .i64 (a0.length : Int)))) 13 (sc (.int .i64 0))), []⟩) (fun kv st => kv ≤ k ∧ ∃ (x2 : Int), slices_Equal_byte_byte.l0 kv x2 a0 a1 = some r ∧ st = ⟨26, (upd 26 (upd 26 (upd 26 (upd 26 topF 0 (D.one (C.p false (.sl a0.length (a0.flatMap e_u8))))) 1 (D.one (C.p false (.sl a1.length (a1.flatMap e_u8))))) 12 (sc (.int .i64 (a0.length : Int)))) 13 (sc (.int .i64 x2))), []⟩) (k := k) (Weak.gen (kk := 0) [] [] hx rfl (by decide) (by decide) rfl rfl rfl (le_upd (le_upd (le_upd (le_upd (le_top _) (.t (.one .same))) (.t (.one .same))) (.t (.one .sc))) (.t (.one .sc))) an) ⟨Nat.le_refl _, 0, h, rfl⟩ ?_
  rintro ql0 st ⟨hkl0, x2, h, rfl⟩
  cases ql0 with
  | zero => exact absurd h (by simp [slices_Equal_byte_byte.l0])
  | succ ql0 =>
   replace h := (slices_Equal_byte_byte.l0.eq_2 _ _ _ _).symm.trans h
   refine AW.seq (AW.region ?_)
   refine s_binI (v := (.bool (decide (x2 < (a0.length : Int))))) rfl rfl rfl (AWops.nil (AW.seq ?_))
   rcases itH h with ⟨c3, h⟩ | ⟨c3, h⟩
   ·refine AW.cond_yes rfl c3 (AW.skip (AW.seq (AW.block (AW.seq (AW.region ?_)))))
    refine s_move (d := (sc (.int .i64 x2))) rfl ?_
    refine s_assign (d := (sc (.int .i64 x2))) rfl (AWops.nil (AW.seq ?_))
    refine AW.weak (st' := ⟨26, (upd 26 (upd 26 (upd 26 (upd 26 (upd 26 topF 0 (D.one (C.p false (.sl a0.length (a0.flatMap e_u8))))) 1 (D.one (C.p false (.sl a1.length (a1.flatMap e_u8))))) 5 (sc (.int .i64 x2))) 12 (sc (.int .i64 (a0.length : Int)))) 13 (sc (.int .i64 x2))), []⟩) (Weak.gen (kk := 0) [] [] hx rfl (by decide) (by decide) rfl rfl rfl (le_upd (le_upd (le_upd (le_upd (le_upd (le_top _) (.t (.one .same))) (.t (.one .same))) (.t (.one .sc))) (.t (.one .sc))) (.t (.one .sc))) an) ?_
    obtain ⟨v4, ev4, h⟩ := bnd h
    obtain ⟨pv4, qv4, gv4⟩ := rd_some ev4
    obtain ⟨v5, ev5, h⟩ := bnd h
    obtain ⟨pv5, qv5, gv5⟩ := rd_some ev5
    refine AW.draw (n := 26) (L := 0) [(0, ⟨some 16, (D.one (C.p false (.sl a0.length (a0.flatMap e_u8)))), [(0, (D.one (C.p false (.sl a0.length (a0.flatMap e_u8)))))], [], [], none⟩), (1, ⟨some 17, (sc (.int .i64 x2)), [(5, (sc (.int .i64 x2)))], [], [], none⟩), (2, ⟨some 18, (D.one (C.peek false [P.v (.int .u8 v4)])), [(16, (D.one (C.p false (.sl a0.length (a0.flatMap e_u8))))), (17, (sc (.int .i64 x2)))], [], [], none⟩), (3, ⟨some 19, (sc (.int .u8 v4)), [(18, (D.one (C.peek false [P.v (.int .u8 v4)])))], [], [], none⟩), (4, ⟨some 20, (D.one (C.p false (.sl a1.length (a1.flatMap e_u8)))), [(1, (D.one (C.p false (.sl a1.length (a1.flatMap e_u8)))))], [], [], none⟩), (5, ⟨some 21, (sc (.int .i64 x2)), [(5, (sc (.int .i64 x2)))], [], [], none⟩), (6, ⟨some 22, (D.one (C.peek false [P.v (.int .u8 v5)])), [(20, (D.one (C.p false (.sl a1.length (a1.flatMap e_u8))))), (21, (sc (.int .i64 x2)))], [], [], none⟩), (7, ⟨some 23, (sc (.int .u8 v5)), [(22, (D.one (C.peek false [P.v (.int .u8 v5)])))], [], [], none⟩), (8, ⟨some 24, (sc (.bool (v4 != v5))), [(19, (sc (.int .u8 v4))), (23, (sc (.int .u8 v5)))], [], [], none⟩)] [[], [], [0, 1], [0, 1, 2], [], [], [4, 5], [4, 5, 6], [0, 1, 2, 3, 4, 5, 6, 7]] (nl rfl) [0, 0, 1, 2, 0, 0, 1, 2, 3] rfl (TK := []) rfl AllK.nil' (fC ⟨(sC rfl AllS.nil'), AllH.nil'⟩ (fC ⟨(sC rfl AllS.nil'), AllH.nil'⟩ (fC ⟨(sC rfl (sC rfl AllS.nil')), AllH.nil'⟩ (fC ⟨(sC rfl AllS.nil'), AllH.nil'⟩ (fC ⟨(sC rfl AllS.nil'), AllH.nil'⟩ (fC ⟨(sC rfl AllS.nil'), AllH.nil'⟩ (fC ⟨(sC rfl (sC rfl AllS.nil')), AllH.nil'⟩ (fC ⟨(sC rfl AllS.nil'), AllH.nil'⟩ (fC ⟨(sC rfl (sC rfl AllS.nil')), AllH.nil'⟩ AllF.nil'))))))))) ?_ ?_
    ·refine (pC ?_ (pC ?_ (pC ?_ (pC ?_ (pC ?_ (pC ?_ (pC ?_ (pC ?_ (pC ?_ AllStep.nil')))))))))
     ·intro K rest fr hv htk k
      show AWops _ x _ _ K ⟨26, (upd 26 fr 0 (D.one (C.p false (.sl a0.length (a0.flatMap e_u8))))), _⟩
      refine s_move (d := (D.one (C.p false (.sl a0.length (a0.flatMap e_u8))))) rfl k
     ·intro K rest fr hv htk k
      show AWops _ x _ _ K ⟨26, (upd 26 fr 5 (sc (.int .i64 x2))), _⟩
      refine s_move (d := (sc (.int .i64 x2))) rfl k
     ·intro K rest fr hv htk k
      show AWops _ x _ _ K ⟨26, (upd 26 (upd 26 fr 17 (sc (.int .i64 x2))) 16 (D.one (C.p false (.sl a0.length (a0.flatMap e_u8))))), []⟩
      refine s_indexImm (ps := [P.v (.int .u8 v4)]) F.u_22 F.sz_5 rfl rfl pv4 qv4 (flat_at e_u8_len gv4 (e_u8_eq v4)) k
     ·intro K rest fr hv htk k
      show AWops _ x _ _ K ⟨26, (upd 26 fr 18 (D.one (C.peek false [P.v (.int .u8 v4)]))), []⟩
      refine s_load1 (c' := (C.p true (.v (.int .u8 v4)))) F.ag_5 rfl rfl k
     ·intro K rest fr hv htk k
      show AWops _ x _ _ K ⟨26, (upd 26 fr 1 (D.one (C.p false (.sl a1.length (a1.flatMap e_u8))))), _⟩
      refine s_move (d := (D.one (C.p false (.sl a1.length (a1.flatMap e_u8))))) rfl k
     ·intro K rest fr hv htk k
      show AWops _ x _ _ K ⟨26, (upd 26 fr 5 (sc (.int .i64 x2))), _⟩
      refine s_move (d := (sc (.int .i64 x2))) rfl k
     ·intro K rest fr hv htk k
      show AWops _ x _ _ K ⟨26, (upd 26 (upd 26 fr 21 (sc (.int .i64 x2))) 20 (D.one (C.p false (.sl a1.length (a1.flatMap e_u8))))), []⟩
      refine s_indexImm (ps := [P.v (.int .u8 v5)]) F.u_22 F.sz_5 rfl rfl pv5 qv5 (flat_at e_u8_len gv5 (e_u8_eq v5)) k
     ·intro K rest fr hv htk k
      show AWops _ x _ _ K ⟨26, (upd 26 fr 22 (D.one (C.peek false [P.v (.int .u8 v5)]))), []⟩
      refine s_load1 (c' := (C.p true (.v (.int .u8 v5)))) F.ag_5 rfl rfl k
     ·intro K rest fr hv htk k
      show AWops _ x _ _ K ⟨26, (upd 26 (upd 26 fr 23 (sc (.int .u8 v5))) 19 (sc (.int .u8 v4))), _⟩
      refine s_binI (v := (.bool (v4 != v5))) rfl rfl rfl k
    ·refine AWops.weak (st' := ⟨26, (upd 26 (upd 26 (upd 26 (upd 26 (upd 26 topF 0 (D.one (C.p false (.sl a0.length (a0.flatMap e_u8))))) 1 (D.one (C.p false (.sl a1.length (a1.flatMap e_u8))))) 12 (sc (.int .i64 (a0.length : Int)))) 13 (sc (.int .i64 x2))) 24 (sc (.bool (v4 != v5)))), []⟩) (Weak.gen (kk := 0) [] [] hx rfl (by decide) (by decide) rfl rfl rfl (le_upd (le_upd (le_upd (le_upd (le_upd (le_top _) (.t (.one .same))) (.t (.one .same))) (.t (.one .sc))) (.t (.one .sc))) (.t (.one .sc))) an) (AWops.nil ?_)
     rcases itH h with ⟨c6, h⟩ | ⟨c6, h⟩
     ·refine AW.cond_yes rfl c6 (AW.seq (AW.region ?_))
      refine s_assign (d := (sc (.bool false))) rfl (AWops.nil (AW.ret ?_))
      obtain rfl := Option.some.inj h
      exact ⟨_, rfl, (Weak.gen (kk := 0) [] [] rfl rfl (by decide) (by decide) rfl rfl rfl (le_upd (le_top _) (.t (.one .sc))) an)⟩
     ·refine AW.cond_no rfl c6 (AW.skip (AW.region ?_))
      refine s_binI (v := (.int .i64 (IntKind.i64.wrap (x2 + 1)))) rfl rfl rfl ?_
      refine s_move (d := (sc (.int .i64 (IntKind.i64.wrap (x2 + 1))))) rfl (AWops.nil ?_)
      exact ⟨_, ⟨26, (upd 26 (upd 26 (upd 26 (upd 26 topF 0 (D.one (C.p false (.sl a0.length (a0.flatMap e_u8))))) 1 (D.one (C.p false (.sl a1.length (a1.flatMap e_u8))))) 12 (sc (.int .i64 (a0.length : Int)))) 13 (sc (.int .i64 (IntKind.i64.wrap (x2 + 1))))), []⟩, by omega, (Weak.gen (kk := 0) [] [] hx rfl (by decide) (by decide) rfl rfl rfl (le_upd (le_upd (le_upd (le_upd (le_top _) (.t (.one .same))) (.t (.one .same))) (.t (.one .sc))) (.t (.one .sc))) an), by omega, IntKind.i64.wrap (x2 + 1), h, rfl⟩
   ·refine AW.cond_no rfl c3 (AW.exit (AW.seq (AW.region ?_)))
    refine s_assign (d := (sc (.bool true))) rfl (AWops.nil (AW.ret ?_))
    obtain rfl := Option.some.inj h
    exact ⟨_, rfl, (Weak.gen (kk := 0) [] [] rfl rfl (by decide) (by decide) rfl rfl rfl (le_upd (le_top _) (.t (.one .sc))) an)⟩
mutual
def journal_next.l0 : Nat → Int → Int → (List Int) → Option ((List Int) × Bool)
 | 0, _, _, _ => none
 | k + 1, x3, x4, a0 => if (decide (x4 < ((sub a0 0 4).length : Int))) = true then ((rd (sub a0 0 4) x4).bind fun v6 => journal_next.l0 k (Go.bits .or .i64 (IntKind.i64.wrap (x3 * 2 ^ 8)) (IntKind.i64.wrap v6)) (IntKind.i64.wrap (x4 + 1)) a0) else (if (decide (x3 > (IntKind.i64.wrap ((a0.length : Int) - 8)))) = true then (some (([] : List Int), false)) else (if (decide (0 ≤ 8 ∧ 8 ≤ (IntKind.i64.wrap (8 + x3)) ∧ (IntKind.i64.wrap (8 + x3)) ≤ (a0.length : Int))) = true then ((slices_Clone_byte_byte.f k (sub a0 8 (IntKind.i64.wrap (8 + x3)))).bind fun r9 => (journal_frame.f k (sub a0 8 (IntKind.i64.wrap (8 + x3)))).bind fun r10 => if (decide (0 ≤ 0 ∧ 0 ≤ 8 ∧ 8 ≤ (r10.length : Int))) = true then (if (decide (0 ≤ 0 ∧ 0 ≤ 8 ∧ 8 ≤ (a0.length : Int))) = true then ((slices_Equal_byte_byte.f k (sub r10 0 8) (sub a0 0 8)).bind fun r13 => some (r9, r13)) else none) else none) else none))
end
def journal_next.f (k : Nat) (a0 : List Int) : Option ((List Int) × Bool) := if (decide ((a0.length : Int) < 8)) = true then (some (([] : List Int), false)) else (if (decide (0 ≤ 0 ∧ 0 ≤ 4 ∧ 4 ≤ (a0.length : Int))) = true then (journal_next.l0 k 0 0 a0) else none)
theorem journal_next.meets (k : Nat) (a0 : List Int) (r : (List Int) × Bool) (h : journal_next.f k a0 = some r) : Meets Try.prog 60 [(D.one (C.p false (.sl a0.length (a0.flatMap e_u8))))] [] (D.tup [(D.one (C.p false (.sl r.1.length (r.1.flatMap e_u8)))), (sc (.bool r.2))]) [] := by
 unfold journal_next.f at h
 refine Meets.of_body (n := 41) Try.func60 rfl rfl (nl rfl) fun x hx => ?_
 replace hx : x.k = 0 := hx
 show AW _ x _ _ ⟨41, fr0 [(D.one (C.p false (.sl a0.length (a0.flatMap e_u8))))], []⟩
 refine AW.seq (AW.region ?_)
 refine s_assign (d := (sc (.slice none 0 0))) rfl ?_
 refine s_assign (d := (sc (.bool false))) rfl (AWops.nil (AW.seq (AW.seq (AW.region ?_))))
 refine s_move (d := (D.one (C.p false (.sl a0.length (a0.flatMap e_u8))))) rfl ?_
 refine s_len (n := a0.length) F.u_22 rfl (.inr ⟨(fun _ _ h => by cases h), ⟨_, rfl⟩⟩) ?_
 refine s_binI (v := (.bool (decide ((a0.length : Int) < 8)))) rfl rfl rfl (AWops.nil ?_)
 rcases itH h with ⟨c1, h⟩ | ⟨c1, h⟩
 ·refine AW.cond_yes rfl c1 (AW.seq (AW.region ?_))
  refine s_assign (d := (sc (.slice none 0 0))) rfl ?_
  refine s_assign (d := (sc (.bool false))) rfl (AWops.nil (AW.ret ?_))
  obtain rfl := Option.some.inj h
  exact ⟨_, rfl, (Weak.gen (kk := 0) [] [] rfl rfl (by decide) (by decide) rfl rfl rfl (le_upd (le_top _) (DLe.tup (ac (TLe.one .nil) (ac (TLe.one .sc) an)))) an)⟩
 ·refine AW.cond_no rfl c1 (AW.skip (AW.seq (AW.region ?_)))
  refine s_assign (d := (sc (.int .i64 0))) rfl (AWops.nil (AW.seq (AW.seq (AW.region ?_))))
  refine s_move (d := (D.one (C.p false (.sl a0.length (a0.flatMap e_u8))))) rfl ?_
  obtain ⟨c2, h⟩ := gdH h
  have dc2 := of_decide_eq_true c2
  refine t_sliceImm (a := 0) (b := 4) F.u_22 F.sz_5 e_u8_len rfl (by omega) (by omega) (by omega) .no (.yes rfl (by omega) rfl) ?_
  refine s_len (n := (sub a0 0 4).length) F.u_22 rfl (.inr ⟨(fun _ _ h => by cases h), ⟨_, rfl⟩⟩) ?_
  refine s_move (d := (sc (.int .i64 0))) rfl (AWops.nil (AW.block ?_))
  refine AW.loopw (st0 := ⟨41, (upd 41 (upd 41 (upd 41 (upd 41 (upd 41 topF 0 (D.one (C.p false (.sl a0.length (a0.flatMap e_u8))))) 4 (sc (.int .i64 0))) 12 (D.one (C.p false (.sl (sub a0 0 4).length ((sub a0 0 4).flatMap e_u8))))) 13 (sc (.int .i64 ((sub a0 0 4).length : Int)))) 14 (sc (.int .i64 0))), []⟩) (fun kv st => kv ≤ k ∧ ∃ (x3 : Int) (x4 : Int), journal_next.l0 kv x3 x4 a0 = some r ∧ st = ⟨41, (upd 41 (upd 41 (upd 41 (upd 41 (upd 41 topF 0 (D.one (C.p false (.sl a0.length (a0.flatMap e_u8))))) 4 (sc (.int .i64 x3))) 12 (D.one (C.p false (.sl (sub a0 0 4).length ((sub a0 0 4).flatMap e_u8))))) 13 (sc (.int .i64 ((sub a0 0 4).length : Int)))) 14 (sc (.int .i64 x4))), []⟩) (k := k) (Weak.gen (kk := 0) [] [] hx rfl (by decide) (by decide) rfl rfl rfl (le_upd (le_upd (le_upd (le_upd (le_upd (le_top _) (.t (.one .same))) (.t (.one .sc))) (.t (.one .same))) (.t (.one .sc))) (.t (.one .sc))) an) ⟨Nat.le_refl _, 0, 0, h, rfl⟩ ?_
  rintro ql0 st ⟨hkl0, x3, x4, h, rfl⟩
  cases ql0 with
  | zero => exact absurd h (by simp [journal_next.l0])
  | succ ql0 =>
   replace h := (journal_next.l0.eq_2 _ _ _ _).symm.trans h
   refine AW.seq (AW.region ?_)
   refine s_binI (v := (.bool (decide (x4 < ((sub a0 0 4).length : Int))))) rfl rfl rfl (AWops.nil (AW.seq ?_))
   rcases itH h with ⟨c5, h⟩ | ⟨c5, h⟩
   ·refine AW.cond_yes rfl c5 (AW.skip (AW.seq (AW.block (AW.seq (AW.region ?_)))))
    obtain ⟨v6, ev6, h⟩ := bnd h
    obtain ⟨pv6, qv6, gv6⟩ := rd_some ev6
    refine s_indexImm (ps := [P.v (.int .u8 v6)]) F.u_22 F.sz_5 rfl rfl pv6 qv6 (flat_at e_u8_len gv6 (e_u8_eq v6)) ?_
    refine s_load1 (c' := (C.p true (.v (.int .u8 v6)))) F.ag_5 rfl rfl ?_
    refine s_assign (d := (sc (.int .u8 v6))) rfl (AWops.nil (AW.region ?_))
    refine s_move (d := (sc (.int .i64 x3))) rfl ?_
    refine s_shift (v := (.int .i64 (IntKind.i64.wrap (x3 * 2 ^ 8)))) rfl rfl rfl ?_
    refine s_move (d := (sc (.int .u8 v6))) rfl ?_
    refine s_convI F.u_5 F.u_3 rfl ?_
    refine s_binI (v := (.int .i64 (Go.bits .or .i64 (IntKind.i64.wrap (x3 * 2 ^ 8)) (IntKind.i64.wrap v6)))) rfl rfl rfl ?_
    refine s_assign (d := (sc (.int .i64 (Go.bits .or .i64 (IntKind.i64.wrap (x3 * 2 ^ 8)) (IntKind.i64.wrap v6))))) rfl (AWops.nil (AW.region ?_))
    refine s_binI (v := (.int .i64 (IntKind.i64.wrap (x4 + 1)))) rfl rfl rfl ?_
    refine s_move (d := (sc (.int .i64 (IntKind.i64.wrap (x4 + 1))))) rfl (AWops.nil ?_)
    exact ⟨_, ⟨41, (upd 41 (upd 41 (upd 41 (upd 41 (upd 41 topF 0 (D.one (C.p false (.sl a0.length (a0.flatMap e_u8))))) 4 (sc (.int .i64 (Go.bits .or .i64 (IntKind.i64.wrap (x3 * 2 ^ 8)) (IntKind.i64.wrap v6))))) 12 (D.one (C.p false (.sl (sub a0 0 4).length ((sub a0 0 4).flatMap e_u8))))) 13 (sc (.int .i64 ((sub a0 0 4).length : Int)))) 14 (sc (.int .i64 (IntKind.i64.wrap (x4 + 1))))), []⟩, by omega, (Weak.gen (kk := 0) [] [] hx rfl (by decide) (by decide) rfl rfl rfl (le_upd (le_upd (le_upd (le_upd (le_upd (le_top _) (.t (.one .same))) (.t (.one .sc))) (.t (.one .same))) (.t (.one .sc))) (.t (.one .sc))) an), by omega, Go.bits .or .i64 (IntKind.i64.wrap (x3 * 2 ^ 8)) (IntKind.i64.wrap v6), IntKind.i64.wrap (x4 + 1), h, rfl⟩
   ·refine AW.cond_no rfl c5 (AW.exit (AW.seq (AW.seq (AW.region ?_))))
    refine s_move (d := (sc (.int .i64 x3))) rfl ?_
    refine s_move (d := (D.one (C.p false (.sl a0.length (a0.flatMap e_u8))))) rfl ?_
    refine s_len (n := a0.length) F.u_22 rfl (.inr ⟨(fun _ _ h => by cases h), ⟨_, rfl⟩⟩) ?_
    refine s_binI (v := (.int .i64 (IntKind.i64.wrap ((a0.length : Int) - 8)))) rfl rfl rfl ?_
    refine s_binI (v := (.bool (decide (x3 > (IntKind.i64.wrap ((a0.length : Int) - 8)))))) rfl rfl rfl (AWops.nil ?_)
    rcases itH h with ⟨c7, h⟩ | ⟨c7, h⟩
    ·refine AW.cond_yes rfl c7 (AW.seq (AW.region ?_))
     refine s_assign (d := (sc (.slice none 0 0))) rfl ?_
     refine s_assign (d := (sc (.bool false))) rfl (AWops.nil (AW.ret ?_))
     obtain rfl := Option.some.inj h
     exact ⟨_, rfl, (Weak.gen (kk := 0) [] [] rfl rfl (by decide) (by decide) rfl rfl rfl (le_upd (le_top _) (DLe.tup (ac (TLe.one .nil) (ac (TLe.one .sc) an)))) an)⟩
    ·refine AW.cond_no rfl c7 (AW.skip (AW.seq (AW.region ?_)))
     refine s_move (d := (D.one (C.p false (.sl a0.length (a0.flatMap e_u8))))) rfl ?_
     refine s_move (d := (sc (.int .i64 x3))) rfl ?_
     refine s_binI (v := (.int .i64 (IntKind.i64.wrap (8 + x3)))) rfl rfl rfl ?_
     obtain ⟨c8, h⟩ := gdH h
     have dc8 := of_decide_eq_true c8
     refine t_sliceImm (a := 8) (b := IntKind.i64.wrap (8 + x3)) F.u_22 F.sz_5 e_u8_len rfl (by omega) (by omega) (by omega) (.yes rfl (by omega) rfl) (.yes rfl (by omega) rfl) ?_
     refine s_assign (d := (D.one (C.p false (.sl (sub a0 8 (IntKind.i64.wrap (8 + x3))).length ((sub a0 8 (IntKind.i64.wrap (8 + x3))).flatMap e_u8))))) rfl (AWops.nil (AW.seq ?_))
     refine AW.weak (st' := ⟨41, (upd 41 (upd 41 topF 0 (D.one (C.p false (.sl a0.length (a0.flatMap e_u8))))) 7 (D.one (C.p false (.sl (sub a0 8 (IntKind.i64.wrap (8 + x3))).length ((sub a0 8 (IntKind.i64.wrap (8 + x3))).flatMap e_u8))))), []⟩) (Weak.gen (kk := 0) [] [] hx rfl (by decide) (by decide) rfl rfl rfl (le_upd (le_upd (le_top _) (.t (.one .same))) (.t (.one .same))) an) ?_
     obtain ⟨r9, er9, h⟩ := bnd h
     obtain ⟨r10, er10, h⟩ := bnd h
     obtain ⟨c11, h⟩ := gdH h
     have dc11 := of_decide_eq_true c11
     obtain ⟨c12, h⟩ := gdH h
     have dc12 := of_decide_eq_true c12
     obtain ⟨r13, er13, h⟩ := bnd h
     refine AW.draw (n := 41) (L := 3) [(0, ⟨some 33, (D.one (C.p false (.sl (sub a0 8 (IntKind.i64.wrap (8 + x3))).length ((sub a0 8 (IntKind.i64.wrap (8 + x3))).flatMap e_u8)))), [(7, (D.one (C.p false (.sl (sub a0 8 (IntKind.i64.wrap (8 + x3))).length ((sub a0 8 (IntKind.i64.wrap (8 + x3))).flatMap e_u8)))))], [], [], none⟩), (1, ⟨some 34, (D.one (C.own 0 0 r9.length 1)), [(33, (D.one (C.p false (.sl (sub a0 8 (IntKind.i64.wrap (8 + x3))).length ((sub a0 8 (IntKind.i64.wrap (8 + x3))).flatMap e_u8)))))], [], [(0, (some (AObj.cells true (rowC e_u8 r9))))], some 0⟩), (2, ⟨some 35, (D.one (C.p false (.sl (sub a0 8 (IntKind.i64.wrap (8 + x3))).length ((sub a0 8 (IntKind.i64.wrap (8 + x3))).flatMap e_u8)))), [(7, (D.one (C.p false (.sl (sub a0 8 (IntKind.i64.wrap (8 + x3))).length ((sub a0 8 (IntKind.i64.wrap (8 + x3))).flatMap e_u8)))))], [], [], none⟩), (3, ⟨some 36, (D.one (C.p false (.sl r10.length (r10.flatMap e_u8)))), [(35, (D.one (C.p false (.sl (sub a0 8 (IntKind.i64.wrap (8 + x3))).length ((sub a0 8 (IntKind.i64.wrap (8 + x3))).flatMap e_u8)))))], [], [], some 1⟩), (4, ⟨some 37, (D.one (C.p false (.sl (sub r10 0 8).length ((sub r10 0 8).flatMap e_u8)))), [(36, (D.one (C.p false (.sl r10.length (r10.flatMap e_u8)))))], [], [], none⟩), (5, ⟨some 38, (D.one (C.p false (.sl a0.length (a0.flatMap e_u8)))), [(0, (D.one (C.p false (.sl a0.length (a0.flatMap e_u8)))))], [], [], none⟩), (6, ⟨some 39, (D.one (C.p false (.sl (sub a0 0 8).length ((sub a0 0 8).flatMap e_u8)))), [(38, (D.one (C.p false (.sl a0.length (a0.flatMap e_u8)))))], [], [], none⟩), (7, ⟨some 40, (sc (.bool r13)), [(37, (D.one (C.p false (.sl (sub r10 0 8).length ((sub r10 0 8).flatMap e_u8))))), (39, (D.one (C.p false (.sl (sub a0 0 8).length ((sub a0 0 8).flatMap e_u8)))))], [], [], none⟩), (8, ⟨some 2, (D.one (C.own 0 0 r9.length 1)), [(34, (D.one (C.own 0 0 r9.length 1)))], [], [], none⟩), (9, ⟨some 3, (sc (.bool r13)), [(40, (sc (.bool r13)))], [], [], none⟩)] [[], [0], [], [0, 1, 2], [0, 1, 2, 3], [], [5], [0, 1, 2, 3, 4, 5, 6], [0, 1, 2, 3, 4, 5, 6, 7], [0, 1, 2, 3, 4, 5, 6, 7, 8]] (nl rfl) [0, 1, 0, 2, 3, 0, 1, 4, 5, 6] rfl (TK := [(1, 0), (3, 1)]) rfl (AllK.cons' ⟨(tk_upd (tk_upd tk_top rfl) rfl), AllT.nil', (fC (.inr rfl) (fC (.inl rfl) (fC (.inr rfl) (fC (.inl rfl) (fC (.inl rfl) (fC (.inr rfl) (fC (.inr rfl) (fC (.inl rfl) (fC (.inl rfl) (fC (.inl rfl) AllF.nil'))))))))))⟩ (AllK.cons' ⟨(tk_upd (tk_upd tk_top rfl) rfl), AllT.nil', (fC (.inr rfl) (fC (.inr (by unfold tkFoot; simp only [List.all_cons, List.all_nil, tkO_row, Bool.and_true, Bool.true_and]; rfl)) (fC (.inr rfl) (fC (.inl rfl) (fC (.inl rfl) (fC (.inr rfl) (fC (.inr rfl) (fC (.inl rfl) (fC (.inl rfl) (fC (.inl rfl) AllF.nil'))))))))))⟩ AllK.nil')) (fC ⟨(sC rfl AllS.nil'), AllH.nil'⟩ (fC ⟨(sC rfl AllS.nil'), AllH.nil'⟩ (fC ⟨(sC rfl AllS.nil'), AllH.nil'⟩ (fC ⟨(sC rfl AllS.nil'), AllH.nil'⟩ (fC ⟨(sC rfl AllS.nil'), AllH.nil'⟩ (fC ⟨(sC rfl AllS.nil'), AllH.nil'⟩ (fC ⟨(sC rfl AllS.nil'), AllH.nil'⟩ (fC ⟨(sC rfl (sC rfl AllS.nil')), AllH.nil'⟩ (fC ⟨(sC rfl AllS.nil'), AllH.nil'⟩ (fC ⟨(sC rfl AllS.nil'), AllH.nil'⟩ AllF.nil')))))))))) ?_ ?_
     ·refine (pC ?_ (pC ?_ (pC ?_ (pC ?_ (pC ?_ (pC ?_ (pC ?_ (pC ?_ (pC ?_ (pC ?_ AllStep.nil'))))))))))
      ·intro K rest fr hv htk k
       show AWops _ x _ _ K ⟨41, (upd 41 fr 7 (D.one (C.p false (.sl (sub a0 8 (IntKind.i64.wrap (8 + x3))).length ((sub a0 8 (IntKind.i64.wrap (8 + x3))).flatMap e_u8))))), _⟩
       refine s_move (d := (D.one (C.p false (.sl (sub a0 8 (IntKind.i64.wrap (8 + x3))).length ((sub a0 8 (IntKind.i64.wrap (8 + x3))).flatMap e_u8))))) rfl k
      ·intro K rest fr hv htk k
       show AWops _ x _ _ K ⟨41, (upd 41 fr 33 (D.one (C.p false (.sl (sub a0 8 (IntKind.i64.wrap (8 + x3))).length ((sub a0 8 (IntKind.i64.wrap (8 + x3))).flatMap e_u8))))), [(hv 0), (hv 1), (hv 2)]⟩
       refine s_call2 (ρ := []) (br := false) (H2 := [(hv 0), (hv 1), (hv 2), (some (AObj.cells true (rowC e_u8 r9)))]) (d := (D.one (C.own 3 0 r9.length 1))) F.ca_28 rfl rfl (ac (.one .imm) an) an (by decide) rfl (slices_Clone_byte_byte.meets _ (sub a0 8 (IntKind.i64.wrap (8 + x3))) r9 er9) (.inl rfl) (by first | rfl | (simp only [mergeH2, orF, Bool.false_or, Bool.or_false, Bool.true_or, Bool.or_true, mergeAt, mergeObj, renO, ren_row, List.drop_succ_cons, List.drop_zero, List.map_cons, List.map_nil, Option.map_some, Option.map_none, List.length_cons, List.length_nil, Nat.zero_add, List.append_assoc, List.cons_append, List.nil_append]; done) | (simp only [mergeH2, orF, Bool.false_or, Bool.or_false, Bool.true_or, Bool.or_true, mergeAt, mergeObj, renO, ren_row, List.drop_succ_cons, List.drop_zero, List.map_cons, List.map_nil, Option.map_some, Option.map_none, List.length_cons, List.length_nil, Nat.zero_add, List.append_assoc, List.cons_append, List.nil_append]; rfl)) rfl ?_
       refine AWops.weak (st' := ⟨41, (upd 41 (upd 41 fr 33 (D.one (C.p false (.sl (sub a0 8 (IntKind.i64.wrap (8 + x3))).length ((sub a0 8 (IntKind.i64.wrap (8 + x3))).flatMap e_u8))))) 34 (D.one (C.own 0 0 r9.length 1))), [(some (AObj.cells true (rowC e_u8 r9))), (hv 1), (hv 2)]⟩) (Weak.gen (kk := 0) [3, 1, 2] [] hx rfl (by decide) (by decide) rfl rfl rfl (le_upd2 (le_ok (p := 0) (L := 3) rfl (htk 0 rfl).1) (.t (.one (.own rfl)))) (ac (.cells (fun _ => rfl) (all2_row _)) (ac (ole_ok (p := 0) (L := 3) rfl ((htk 0 rfl).2 1)) (ac (ole_ok (p := 0) (L := 3) rfl ((htk 0 rfl).2 2)) an)))) k
      ·intro K rest fr hv htk k
       show AWops _ x _ _ K ⟨41, (upd 41 fr 7 (D.one (C.p false (.sl (sub a0 8 (IntKind.i64.wrap (8 + x3))).length ((sub a0 8 (IntKind.i64.wrap (8 + x3))).flatMap e_u8))))), _⟩
       refine s_move (d := (D.one (C.p false (.sl (sub a0 8 (IntKind.i64.wrap (8 + x3))).length ((sub a0 8 (IntKind.i64.wrap (8 + x3))).flatMap e_u8))))) rfl k
      ·intro K rest fr hv htk k
       show AWops _ x _ _ K ⟨41, (upd 41 fr 35 (D.one (C.p false (.sl (sub a0 8 (IntKind.i64.wrap (8 + x3))).length ((sub a0 8 (IntKind.i64.wrap (8 + x3))).flatMap e_u8))))), [(hv 0), (hv 1), (hv 2)]⟩
       refine s_call2 (ρ := []) (br := false) (H2 := [(hv 0), (hv 1), (hv 2), (some (AObj.cells true (rowC e_u8 r10)))]) (d := (D.one (C.own 3 0 r10.length 1))) F.ca_26 rfl rfl (ac (.one .imm) an) an (by decide) rfl (journal_frame.meets _ (sub a0 8 (IntKind.i64.wrap (8 + x3))) r10 er10) (.inl rfl) (by first | rfl | (simp only [mergeH2, orF, Bool.false_or, Bool.or_false, Bool.true_or, Bool.or_true, mergeAt, mergeObj, renO, ren_row, List.drop_succ_cons, List.drop_zero, List.map_cons, List.map_nil, Option.map_some, Option.map_none, List.length_cons, List.length_nil, Nat.zero_add, List.append_assoc, List.cons_append, List.nil_append]; done) | (simp only [mergeH2, orF, Bool.false_or, Bool.or_false, Bool.true_or, Bool.or_true, mergeAt, mergeObj, renO, ren_row, List.drop_succ_cons, List.drop_zero, List.map_cons, List.map_nil, Option.map_some, Option.map_none, List.length_cons, List.length_nil, Nat.zero_add, List.append_assoc, List.cons_append, List.nil_append]; rfl)) rfl ?_
       refine AWops.weak (st' := ⟨41, (upd 41 (upd 41 fr 35 (D.one (C.p false (.sl (sub a0 8 (IntKind.i64.wrap (8 + x3))).length ((sub a0 8 (IntKind.i64.wrap (8 + x3))).flatMap e_u8))))) 36 (D.one (C.p false (.sl r10.length (r10.flatMap e_u8))))), [(hv 0), (hv 1), (hv 2)]⟩) (Weak.gen (kk := 0) [0, 1, 2] [3] hx rfl (by decide) (by decide) rfl rfl rfl (le_upd2 (le_ok (p := 1) (L := 3) rfl (htk 1 rfl).1) (.t (.one (CLe.frz e_u8_len rfl rfl rfl)))) (ac (ole_ok (p := 1) (L := 3) rfl ((htk 1 rfl).2 0)) (ac (ole_ok (p := 1) (L := 3) rfl ((htk 1 rfl).2 1)) (ac (ole_ok (p := 1) (L := 3) rfl ((htk 1 rfl).2 2)) an)))) k
      ·intro K rest fr hv htk k
       show AWops _ x _ _ K ⟨41, (upd 41 fr 36 (D.one (C.p false (.sl r10.length (r10.flatMap e_u8))))), [(hv 0), (hv 1), (hv 2)]⟩
       refine t_sliceImm (a := 0) (b := 8) F.u_22 F.sz_5 e_u8_len rfl (by omega) (by omega) (by omega) .no (.yes rfl (by omega) rfl) k
      ·intro K rest fr hv htk k
       show AWops _ x _ _ K ⟨41, (upd 41 fr 0 (D.one (C.p false (.sl a0.length (a0.flatMap e_u8))))), _⟩
       refine s_move (d := (D.one (C.p false (.sl a0.length (a0.flatMap e_u8))))) rfl k
      ·intro K rest fr hv htk k
       show AWops _ x _ _ K ⟨41, (upd 41 fr 38 (D.one (C.p false (.sl a0.length (a0.flatMap e_u8))))), [(hv 0), (hv 1), (hv 2)]⟩
       refine t_sliceImm (a := 0) (b := 8) F.u_22 F.sz_5 e_u8_len rfl (by omega) (by omega) (by omega) .no (.yes rfl (by omega) rfl) k
      ·intro K rest fr hv htk k
       show AWops _ x _ _ K ⟨41, (upd 41 (upd 41 fr 39 (D.one (C.p false (.sl (sub a0 0 8).length ((sub a0 0 8).flatMap e_u8))))) 37 (D.one (C.p false (.sl (sub r10 0 8).length ((sub r10 0 8).flatMap e_u8))))), [(hv 0), (hv 1), (hv 2)]⟩
       refine s_call2 (ρ := []) (br := false) (H2 := [(hv 0), (hv 1), (hv 2)]) (d := (sc (.bool r13))) F.ca_79 rfl rfl (ac (.one .imm) (ac (.one .imm) an)) an (by decide) rfl (slices_Equal_byte_byte.meets _ (sub r10 0 8) (sub a0 0 8) r13 er13) (.inl rfl) rfl rfl k
      ·intro K rest fr hv htk k
       show AWops _ x _ _ K ⟨41, (upd 41 fr 34 (D.one (C.own 0 0 r9.length 1))), _⟩
       refine s_assign (d := (D.one (C.own 0 0 r9.length 1))) rfl k
      ·intro K rest fr hv htk k
       show AWops _ x _ _ K ⟨41, (upd 41 fr 40 (sc (.bool r13))), _⟩
       refine s_assign (d := (sc (.bool r13))) rfl k
     ·refine AWops.weak (st' := ⟨41, (upd 41 (upd 41 topF 2 (D.one (C.own 0 0 r9.length 1))) 3 (sc (.bool r13))), [(some (AObj.cells true (rowC e_u8 r9)))]⟩) (Weak.gen (kk := 0) [0] [] hx rfl (by decide) (by decide) rfl rfl rfl (le_upd (le_upd (le_top _) (.t (.one (.own rfl)))) (.t (.one .sc))) (ac (.cells (fun _ => rfl) (all2_row _)) an)) (AWops.nil (AW.ret ?_))
      obtain rfl := Option.some.inj h
      exact ⟨_, rfl, (Weak.gen (kk := 0) [] [0] rfl rfl (by decide) (by decide) rfl rfl rfl (le_upd (le_top _) (DLe.tup (ac (TLe.one (CLe.frz e_u8_len rfl rfl rfl)) (ac (TLe.one .sc) an)))) an)⟩
def vdisk_Disk_Truncate.f (k : Nat) (p0 : vdisk_Disk) (a1 : ByteArray) (a2 : Int) : Option (Int × vdisk_Disk) := (vdisk_Disk_change.f k (⟨([] : List (ByteArray × vdisk_file)), p0.room, p0.used, (), p0.dead⟩ : vdisk_Disk) (decide (a2 ≥ 0)) a1 false 0).bind fun r1 => if (r1.1 == 0) = true then (none) else (some (r1.1, (⟨([] : List (ByteArray × vdisk_file)), r1.2.room, r1.2.used, (), r1.2.dead⟩ : vdisk_Disk)))
theorem vdisk_Disk_Truncate.meets (k : Nat) (p0 : vdisk_Disk) (a1 : ByteArray) (a2 : Int) (r : Int × vdisk_Disk) (h : vdisk_Disk_Truncate.f k p0 a1 a2 = some r) : Meets Try.prog 44 [(D.one (C.ref 0 0)), (sc (.string a1)), (sc (.int .i64 a2))] [(some (AObj.cells false [(C.p true (.v (.map none))), (C.p true (.v (.int .i64 p0.room))), (C.p true (.v (.int .i64 p0.used))), (C.p true (.v (.pointer none))), (C.p true (.v (.bool p0.dead)))]))] (sc (.int .i64 r.1)) [(some (AObj.cells false [(C.p true (.v (.map none))), (C.p true (.v (.int .i64 r.2.room))), (C.p true (.v (.int .i64 r.2.used))), (C.p true (.v (.pointer none))), (C.p true (.v (.bool r.2.dead)))]))] := by
 unfold vdisk_Disk_Truncate.f at h
 refine Meets.of_body (n := 41) Try.func44 rfl rfl (nl rfl) fun x hx => ?_
 replace hx : x.k = 1 := hx
 show AW _ x _ _ ⟨41, fr0 [(D.one (C.ref 0 0)), (sc (.string a1)), (sc (.int .i64 a2))], [(some (AObj.cells false [(C.p true (.v (.map none))), (C.p true (.v (.int .i64 p0.room))), (C.p true (.v (.int .i64 p0.used))), (C.p true (.v (.pointer none))), (C.p true (.v (.bool p0.dead)))]))]⟩
 refine AW.seq (AW.region ?_)
 refine s_assign (d := (sc (.int .i64 0))) rfl (AWops.nil (AW.seq (AW.region ?_)))
 refine s_move (d := (D.one (C.ref 0 0))) rfl ?_
 refine s_move (d := (sc (.int .i64 a2))) rfl ?_
 refine s_binI (v := (.bool (decide (a2 ≥ 0)))) rfl rfl rfl ?_
 refine s_move (d := (sc (.string a1))) rfl ?_
 obtain ⟨r1, er1, h⟩ := bnd h
 refine s_call2 (ρ := [0]) (br := false) (H2 := [(some (AObj.cells false [(C.p true (.v (.map none))), (C.p true (.v (.int .i64 r1.2.room))), (C.p true (.v (.int .i64 r1.2.used))), (C.p true (.v (.pointer none))), (C.p true (.v (.bool r1.2.dead)))]))]) (d := (sc (.int .i64 r1.1))) F.ca_55 rfl rfl (ac (.one (.ref rfl)) (ac (.one .sc) (ac (.one .sc) (ac (.one .sc) (ac (.one .sc) an))))) (ac (.cells (ac .sc (ac .sc (ac .sc (ac .sc (ac .sc an)))))) an) (by decide) rfl (vdisk_Disk_change.meets _ (⟨([] : List (ByteArray × vdisk_file)), p0.room, p0.used, (), p0.dead⟩ : vdisk_Disk) (decide (a2 ≥ 0)) a1 false 0 r1 er1) (.inl rfl) rfl rfl ?_
 refine s_assign (d := (sc (.int .i64 r1.1))) rfl (AWops.nil (AW.seq (AW.seq (AW.region ?_))))
 refine s_move (d := (sc (.int .i64 r1.1))) rfl ?_
 refine s_binI (v := (.bool (r1.1 == 0))) rfl rfl rfl (AWops.nil ?_)
 rcases itH h with ⟨c2, h⟩ | ⟨c2, h⟩
 ·refine AW.cond_yes rfl c2 (AW.seq (AW.region ?_))
  refine s_move (d := (D.one (C.ref 0 0))) rfl ?_
  refine s_nilCheck (d := (D.one (C.ref 0 0))) rfl (.inl ⟨_, _, rfl⟩) ?_
  refine s_fieldRef F.fo_37_0 (by decide) rfl ?_
  refine s_load1 (c' := (C.p true (.v (.map none)))) F.ag_34 rfl rfl ?_
  refine s_move (d := (sc (.string a1))) rfl ?_
  cases h
 ·refine AW.cond_no rfl c2 (AW.skip (AW.seq (AW.region ?_)))
  refine s_move (d := (sc (.int .i64 r1.1))) rfl ?_
  refine s_assign (d := (sc (.int .i64 r1.1))) rfl (AWops.nil (AW.ret ?_))
  obtain rfl := Option.some.inj h
  exact ⟨_, rfl, (Weak.gen (kk := 1) [0] [] rfl rfl (by decide) (by decide) rfl rfl rfl (le_upd (le_top _) (.t (.one .sc))) (ac (.cells (fun h => h) (ac .sc (ac .sc (ac .sc (ac .sc (ac .sc an)))))) an))⟩
end Go.Abs.GenJ
