import Derived.Test.YthdbbamkjmogfaaDoorAbsZ
import Derived.Test.YthdbbamkjmogfaaDoorProg
set_option linter.unusedVariables false
set_option linter.unusedSimpArgs false
set_option maxRecDepth 100000
set_option maxHeartbeats 4000000
namespace Go.Abs.GenS
open Go.Abs Go.Proofs
structure shape_piece where
 name : ByteArray
 number : Int
abbrev c_shape_piece (x : shape_piece) : List C := [(C.p true (.v (.string x.name))), (C.p true (.v (.int .i64 x.number)))]
abbrev p_shape_piece (x : shape_piece) : List P := [P.v (.string x.name), P.v (.int .i64 x.number)]
def e_shape_piece (x : shape_piece) : List P := e_str x.name ++ e_i64 x.number
theorem e_shape_piece_eq (x : shape_piece) : e_shape_piece x = [P.v (.string x.name), P.v (.int .i64 x.number)] := rfl
theorem e_shape_piece_fr (x : shape_piece) : ((e_shape_piece x).map mkC).all frC = true := rfl
theorem e_shape_piece_len (x : shape_piece) : (e_shape_piece x).length = 2 := by rw [e_shape_piece_eq]; rfl
namespace F
theorem ex_68 : ExtOK Tryd.prog 68 Extern.BytealgCount.count := ⟨_, Tryd.func68, by kernel_rfl, by kernel_rfl, by kernel_rfl, by kernel_rfl⟩
theorem u_9 : Tryd.prog.underlying 9 = some (.string) := by kernel_rfl
theorem ca_56 : callable Tryd.prog 56 = true := by kernel_rfl
theorem ex_78 : ExtOK Tryd.prog 78 Extern.BytealgIndexByte.indexByte := ⟨_, Tryd.func78, by kernel_rfl, by kernel_rfl, by kernel_rfl, by kernel_rfl⟩
theorem ca_73 : callable Tryd.prog 73 = true := by kernel_rfl
theorem ca_69 : callable Tryd.prog 69 = true := by kernel_rfl
theorem sz_9 : szOf Tryd.prog 9 = some 1 := by kernel_rfl
theorem u_25 : Tryd.prog.underlying 25 = some (.slice 9) := by kernel_rfl
theorem ca_57 : callable Tryd.prog 57 = true := by kernel_rfl
theorem in_9 : infoQ Tryd.prog 9 = some (some (.string ⟨#[]⟩), 1, 16) := by kernel_rfl
theorem ca_47 : callable Tryd.prog 47 = true := by kernel_rfl
theorem ca_43 : callable Tryd.prog 43 = true := by kernel_rfl
theorem u_59 : Tryd.prog.underlying 59 = some (.slice 5) := by kernel_rfl
theorem u_5 : Tryd.prog.underlying 5 = some (.int .u8) := by kernel_rfl
theorem u_73 : Tryd.prog.underlying 73 = some (.int .u64) := by kernel_rfl
theorem ag_5 : aggOf Tryd.prog 5 = some false := by kernel_rfl
theorem sz_5 : szOf Tryd.prog 5 = some 1 := by kernel_rfl
theorem u_3 : Tryd.prog.underlying 3 = some (.int .i64) := by kernel_rfl
theorem ca_77 : callable Tryd.prog 77 = true := by kernel_rfl
theorem ca_70 : callable Tryd.prog 70 = true := by kernel_rfl
theorem ca_71 : callable Tryd.prog 71 = true := by kernel_rfl
theorem ca_59 : callable Tryd.prog 59 = true := by kernel_rfl
theorem ca_58 : callable Tryd.prog 58 = true := by kernel_rfl
theorem ca_48 : callable Tryd.prog 48 = true := by kernel_rfl
theorem z_39 : zeroOf Tryd.prog 39 = some (.agg #[(.string ⟨#[]⟩), (.int .i64 0)]) := by kernel_rfl
theorem fo_39_0 : fieldOf Tryd.prog 39 0 = some (0, 1, false) := by kernel_rfl
theorem ag_9 : aggOf Tryd.prog 9 = some false := by kernel_rfl
theorem ex_44 : ExtOK Tryd.prog 44 Extern.BytealgCompare.compare := ⟨_, Tryd.func44, by kernel_rfl, by kernel_rfl, by kernel_rfl, by kernel_rfl⟩
theorem ca_32 : callable Tryd.prog 32 = true := by kernel_rfl
theorem ca_18 : callable Tryd.prog 18 = true := by kernel_rfl
theorem fo_39_1 : fieldOf Tryd.prog 39 1 = some (1, 1, false) := by kernel_rfl
theorem ag_3 : aggOf Tryd.prog 3 = some false := by kernel_rfl
theorem ca_33 : callable Tryd.prog 33 = true := by kernel_rfl
theorem ca_22 : callable Tryd.prog 22 = true := by kernel_rfl
theorem u_52 : Tryd.prog.underlying 52 = some (.slice 3) := by kernel_rfl
theorem sz_3 : szOf Tryd.prog 3 = some 1 := by kernel_rfl
theorem z_3 : zeroOf Tryd.prog 3 = some (.int .i64 0) := by kernel_rfl
theorem ca_21 : callable Tryd.prog 21 = true := by kernel_rfl
theorem ca_20 : callable Tryd.prog 20 = true := by kernel_rfl
theorem ag_39 : aggOf Tryd.prog 39 = some true := by kernel_rfl
theorem sz_39 : szOf Tryd.prog 39 = some 2 := by kernel_rfl
theorem u_34 : Tryd.prog.underlying 34 = some (.slice 39) := by kernel_rfl
theorem ca_19 : callable Tryd.prog 19 = true := by kernel_rfl
theorem ca_17 : callable Tryd.prog 17 = true := by kernel_rfl
theorem z_9 : zeroOf Tryd.prog 9 = some (.string ⟨#[]⟩) := by kernel_rfl
theorem ca_62 : callable Tryd.prog 62 = true := by kernel_rfl
theorem ca_63 : callable Tryd.prog 63 = true := by kernel_rfl
theorem ca_52 : callable Tryd.prog 52 = true := by kernel_rfl
theorem ca_51 : callable Tryd.prog 51 = true := by kernel_rfl
theorem z_5 : zeroOf Tryd.prog 5 = some (.int .u8 0) := by kernel_rfl
theorem ca_64 : callable Tryd.prog 64 = true := by kernel_rfl
theorem ca_65 : callable Tryd.prog 65 = true := by kernel_rfl
theorem ca_54 : callable Tryd.prog 54 = true := by kernel_rfl
theorem ca_53 : callable Tryd.prog 53 = true := by kernel_rfl
theorem ca_46 : callable Tryd.prog 46 = true := by kernel_rfl
theorem ca_45 : callable Tryd.prog 45 = true := by kernel_rfl
theorem ca_31 : callable Tryd.prog 31 = true := by kernel_rfl
theorem ca_35 : callable Tryd.prog 35 = true := by kernel_rfl
theorem ca_34 : callable Tryd.prog 34 = true := by kernel_rfl
theorem ca_29 : callable Tryd.prog 29 = true := by kernel_rfl
theorem ca_25 : callable Tryd.prog 25 = true := by kernel_rfl
theorem ca_24 : callable Tryd.prog 24 = true := by kernel_rfl
theorem ca_23 : callable Tryd.prog 23 = true := by kernel_rfl
theorem ca_9 : callable Tryd.prog 9 = true := by kernel_rfl
theorem u_4 : Tryd.prog.underlying 4 = some (.bool) := by kernel_rfl
theorem ca_6 : callable Tryd.prog 6 = true := by kernel_rfl
theorem ca_11 : callable Tryd.prog 11 = true := by kernel_rfl
theorem ca_8 : callable Tryd.prog 8 = true := by kernel_rfl
theorem ca_7 : callable Tryd.prog 7 = true := by kernel_rfl
theorem z_58 : zeroOf Tryd.prog 58 = some (.agg #[(.int .u8 0), (.int .u8 0), (.int .u8 0), (.int .u8 0), (.int .u8 0), (.int .u8 0), (.int .u8 0), (.int .u8 0), (.int .u8 0), (.int .u8 0), (.int .u8 0), (.int .u8 0), (.int .u8 0), (.int .u8 0), (.int .u8 0), (.int .u8 0), (.int .u8 0), (.int .u8 0), (.int .u8 0), (.int .u8 0)]) := by kernel_rfl
theorem u_58 : Tryd.prog.underlying 58 = some (.array 20 5) := by kernel_rfl
theorem ca_26 : callable Tryd.prog 26 = true := by kernel_rfl
theorem ca_10 : callable Tryd.prog 10 = true := by kernel_rfl
theorem ca_30 : callable Tryd.prog 30 = true := by kernel_rfl
theorem ca_16 : callable Tryd.prog 16 = true := by kernel_rfl
theorem ca_15 : callable Tryd.prog 15 = true := by kernel_rfl
theorem ca_14 : callable Tryd.prog 14 = true := by kernel_rfl
theorem ca_13 : callable Tryd.prog 13 = true := by kernel_rfl
theorem ca_12 : callable Tryd.prog 12 = true := by kernel_rfl
end F
def strings_Count_56.f (k : Nat) (a0 : ByteArray) : Option Int := some (cntS a0 46 : Int)
theorem strings_Count_56.meets (k : Nat) (a0 : ByteArray) (r : Int) (h : strings_Count_56.f k a0 = some r) : Meets Tryd.prog 56 [(st_ a0), (st_ (⟨#[46]⟩ : ByteArray))] [] (si r) [] := by
 unfold strings_Count_56.f at h
 refine Meets.of_body (n := 34) Tryd.func56 rfl rfl (nl rfl) fun x hx => ?_
 replace hx : x.k = 0 := hx
 show AW _ x _ _ ⟨34, fr0 [(st_ a0), (st_ (⟨#[46]⟩ : ByteArray))], []⟩
 refine AW.seq (AW.region ?_)
 refine s_assign (d := (si 0)) rfl (AWops.nil (AW.seq (AW.seq (AW.region ?_))))
 refine s_move (d := (st_ (⟨#[46]⟩ : ByteArray))) rfl (s_len (n := 1) F.u_9 rfl (.inl ⟨⟨_, _, rfl⟩, rfl⟩) (s_binI (v := (.bool false)) rfl rfl rfl (AWops.nil ?_)))
 refine AW.cond_no rfl rfl (AW.skip (AW.seq (AW.seq (AW.region ?_))))
 refine s_move (d := (st_ (⟨#[46]⟩ : ByteArray))) rfl (s_len (n := 1) F.u_9 rfl (.inl ⟨⟨_, _, rfl⟩, rfl⟩) (s_binI (v := (.bool true)) rfl rfl rfl (AWops.nil ?_)))
 refine AW.cond_yes rfl rfl (AW.seq (AW.region ?_))
 refine s_move (d := (st_ a0)) rfl (s_move (d := (st_ (⟨#[46]⟩ : ByteArray))) rfl (s_indexStr (c := 46) F.u_9 rfl rfl (by decide) rfl (s_ext2 F.ex_68 rfl rfl rfl (run_cnt _ _) (s_assign (d := (si (cntS a0 46 : Int))) rfl (AWops.nil (AW.ret ?_))))))
 obtain rfl := Option.some.inj h
 exact ⟨_, rfl, (wg 0 [] [] rfl (le_upd (le_top _) (o1 .sc)) an)⟩
def stringslite_IndexByte.f (k : Nat) (a0 : ByteArray) (a1 : Int) : Option Int := some (idxS a0 a1)
theorem stringslite_IndexByte.meets (k : Nat) (a0 : ByteArray) (a1 : Int) (r : Int) (h : stringslite_IndexByte.f k a0 a1 = some r) : Meets Tryd.prog 73 [(st_ a0), (sc (.int .u8 a1))] [] (si r) [] := by
 unfold stringslite_IndexByte.f at h
 refine Meets.of_body (n := 8) Tryd.func73 rfl rfl (nl rfl) fun x hx => ?_
 replace hx : x.k = 0 := hx
 show AW _ x _ _ ⟨8, fr0 [(st_ a0), (sc (.int .u8 a1))], []⟩
 refine AW.seq (AW.region ?_)
 refine s_assign (d := (si 0)) rfl (AWops.nil (AW.seq (AW.region ?_)))
 refine s_move (d := (st_ a0)) rfl (s_move (d := (sc (.int .u8 a1))) rfl (s_ext2 F.ex_78 rfl rfl rfl (run_idx _ _) (s_assign (d := (si (idxS a0 a1))) rfl (AWops.nil (AW.ret ?_)))))
 obtain rfl := Option.some.inj h
 exact ⟨_, rfl, (wg 0 [] [] rfl (le_upd (le_top _) (o1 .sc)) an)⟩
def stringslite_Index_69.f (k : Nat) (a0 : ByteArray) : Option Int := if ((⟨#[46]⟩ : ByteArray).toList == a0.toList) = true then (some 0) else ((stringslite_IndexByte.f k a0 46).bind fun r2 => some r2)
theorem stringslite_Index_69.meets (k : Nat) (a0 : ByteArray) (r : Int) (h : stringslite_Index_69.f k a0 = some r) : Meets Tryd.prog 69 [(st_ a0), (st_ (⟨#[46]⟩ : ByteArray))] [] (si r) [] := by
 unfold stringslite_Index_69.f at h
 refine Meets.of_body (n := 143) Tryd.func69 rfl rfl (nl rfl) fun x hx => ?_
 replace hx : x.k = 0 := hx
 show AW _ x _ _ ⟨143, fr0 [(st_ a0), (st_ (⟨#[46]⟩ : ByteArray))], []⟩
 refine AW.seq (AW.region ?_)
 refine s_assign (d := (si 0)) rfl (AWops.nil (AW.seq (AW.region ?_)))
 refine s_move (d := (st_ (⟨#[46]⟩ : ByteArray))) rfl (s_len (n := 1) F.u_9 rfl (.inl ⟨⟨_, _, rfl⟩, rfl⟩) (s_assign (d := (si 1)) rfl (AWops.nil (AW.seq (AW.block (AW.seq (AW.region (s_move (d := (si 1)) rfl (s_binI (v := (.bool false)) rfl rfl rfl (s_move (d := (sb false)) rfl ?_))))))))))
 refine AWops.guard_yes rfl (nl rfl) rfl rfl ?_
 refine s_move (d := (st_ (⟨#[46]⟩ : ByteArray))) rfl ?_
 refine AWops.guard_yes rfl (nl rfl) rfl rfl ?_
 refine s_move (d := (st_ a0)) rfl ?_
 refine AWops.guard_yes rfl (nl rfl) rfl rfl ?_
 refine s_binS (v := (.bool ((⟨#[46]⟩ : ByteArray).toList == a0.toList))) rfl rfl rfl (s_pick_no (d := (sb ((⟨#[46]⟩ : ByteArray).toList == a0.toList))) rfl rfl rfl (s_assign (d := (sb ((⟨#[46]⟩ : ByteArray).toList == a0.toList))) rfl (AWops.nil ?_)))
 rcases itH h with ⟨c1, h⟩ | ⟨c1, h⟩
 ·refine AW.cond_yes rfl c1 (AW.seq (AW.region ?_))
  refine s_assign (d := (si 0)) rfl (AWops.nil (AW.ret ?_))
  obtain rfl := Option.some.inj h
  exact ⟨_, rfl, (wg 0 [] [] rfl (le_upd (le_top _) (o1 .sc)) an)⟩
 ·refine AW.cond_no rfl c1 (AW.seq (AW.region ?_))
  refine s_move (d := (si 1)) rfl (s_binI (v := (.bool true)) rfl rfl rfl (s_assign (d := (sb true)) rfl (AWops.nil ?_)))
  refine AW.cond_yes rfl rfl (AW.seq (AW.region ?_))
  refine s_move (d := (st_ a0)) rfl (s_move (d := (st_ (⟨#[46]⟩ : ByteArray))) rfl (s_indexStr (c := 46) F.u_9 rfl rfl (by decide) rfl ?_))
  obtain ⟨r2, er2, h⟩ := bnd h
  refine cc [] [] (si r2) F.ca_73 rfl rfl (ac (.one .sc) (ac (.one .sc) an)) an (stringslite_IndexByte.meets _ a0 46 r2 er2) (s_assign (d := (si r2)) rfl (AWops.nil (AW.ret ?_)))
  obtain rfl := Option.some.inj h
  exact ⟨_, rfl, (wg 0 [] [] rfl (le_upd (le_top _) (o1 .sc)) an)⟩
def strings_Index_57.f (k : Nat) (a0 : ByteArray) : Option Int := (stringslite_Index_69.f k a0).bind fun r1 => some r1
theorem strings_Index_57.meets (k : Nat) (a0 : ByteArray) (r : Int) (h : strings_Index_57.f k a0 = some r) : Meets Tryd.prog 57 [(st_ a0), (st_ (⟨#[46]⟩ : ByteArray))] [] (si r) [] := by
 unfold strings_Index_57.f at h
 refine Meets.of_body (n := 8) Tryd.func57 rfl rfl (nl rfl) fun x hx => ?_
 replace hx : x.k = 0 := hx
 show AW _ x _ _ ⟨8, fr0 [(st_ a0), (st_ (⟨#[46]⟩ : ByteArray))], []⟩
 refine AW.seq (AW.region ?_)
 refine s_assign (d := (si 0)) rfl (AWops.nil (AW.seq (AW.region ?_)))
 refine s_move (d := (st_ a0)) rfl (s_move (d := (st_ (⟨#[46]⟩ : ByteArray))) rfl ?_)
 obtain ⟨r1, er1, h⟩ := bnd h
 refine cc [] [] (si r1) F.ca_69 rfl rfl (ac (.one .sc) (ac (.one .sc) an)) an (stringslite_Index_69.meets _ a0 r1 er1) (s_assign (d := (si r1)) rfl (AWops.nil (AW.ret ?_)))
 obtain rfl := Option.some.inj h
 exact ⟨_, rfl, (wg 0 [] [] rfl (le_upd (le_top _) (o1 .sc)) an)⟩
mutual
def strings_genSplit_47.l0 : Nat → (List ByteArray) → ByteArray → Int → ByteArray → Int → Option (List ByteArray)
 | 0, _, _, _, _, _ => none
 | k + 1, x4, x5, x6, a0, r2 => if (decide (x6 < (IntKind.i64.wrap ((if (IntKind.i64.wrap ((a0.size : Int) + 1)) < (IntKind.i64.wrap (r2 + 1)) then (IntKind.i64.wrap ((a0.size : Int) + 1)) else (IntKind.i64.wrap (r2 + 1))) - 1)))) = true then ((strings_Index_57.f k x5).bind fun r8 => if (decide (r8 < 0)) = true then ((rd x4 x6).bind fun v10 => if (decide (0 ≤ 0 ∧ 0 ≤ (IntKind.i64.wrap (x6 + 1)) ∧ (IntKind.i64.wrap (x6 + 1)) ≤ ((x4.set x6.toNat x5).length : Int))) = true then (some (sub (x4.set x6.toNat x5) 0 (IntKind.i64.wrap (x6 + 1)))) else none) else (if (decide (0 ≤ 0 ∧ 0 ≤ (IntKind.i64.wrap (r8 + 0)) ∧ (IntKind.i64.wrap (r8 + 0)) ≤ (x5.size : Int))) = true then ((rd x4 x6).bind fun v13 => if (decide (0 ≤ (IntKind.i64.wrap (r8 + 1)) ∧ (IntKind.i64.wrap (r8 + 1)) ≤ (x5.size : Int) ∧ (x5.size : Int) ≤ (x5.size : Int))) = true then (strings_genSplit_47.l0 k (x4.set x6.toNat (x5.extract 0 (IntKind.i64.wrap (r8 + 0)).toNat)) (x5.extract (IntKind.i64.wrap (r8 + 1)).toNat x5.size) (IntKind.i64.wrap (x6 + 1)) a0 r2) else none) else none)) else ((rd x4 x6).bind fun v15 => if (decide (0 ≤ 0 ∧ 0 ≤ (IntKind.i64.wrap (x6 + 1)) ∧ (IntKind.i64.wrap (x6 + 1)) ≤ ((x4.set x6.toNat x5).length : Int))) = true then (some (sub (x4.set x6.toNat x5) 0 (IntKind.i64.wrap (x6 + 1)))) else none)
end
def strings_genSplit_47.f (k : Nat) (a0 : ByteArray) : Option (List ByteArray) := (strings_Count_56.f k a0).bind fun r2 => if (decide (0 ≤ (if (IntKind.i64.wrap ((a0.size : Int) + 1)) < (IntKind.i64.wrap (r2 + 1)) then (IntKind.i64.wrap ((a0.size : Int) + 1)) else (IntKind.i64.wrap (r2 + 1))) ∧ (if (IntKind.i64.wrap ((a0.size : Int) + 1)) < (IntKind.i64.wrap (r2 + 1)) then (IntKind.i64.wrap ((a0.size : Int) + 1)) else (IntKind.i64.wrap (r2 + 1))) ≤ 8796093022208)) = true then (strings_genSplit_47.l0 k (List.replicate (if (IntKind.i64.wrap ((a0.size : Int) + 1)) < (IntKind.i64.wrap (r2 + 1)) then (IntKind.i64.wrap ((a0.size : Int) + 1)) else (IntKind.i64.wrap (r2 + 1))).toNat ((⟨#[]⟩ : ByteArray) : ByteArray)) a0 0 a0 r2) else none
theorem strings_genSplit_47.meets (k : Nat) (a0 : ByteArray) (r : (List ByteArray)) (h : strings_genSplit_47.f k a0 = some r) : Meets Tryd.prog 47 [(st_ a0), (st_ (⟨#[46]⟩ : ByteArray)), (si 0), (si (-1))] [] (D.one (C.p false (.sl r.length (r.flatMap e_str)))) [] := by
 unfold strings_genSplit_47.f at h
 refine Meets.of_body (n := 66) Tryd.func47 rfl rfl (nl rfl) fun x hx => ?_
 replace hx : x.k = 0 := hx
 show AW _ x _ _ ⟨66, fr0 [(st_ a0), (st_ (⟨#[46]⟩ : ByteArray)), (si 0), (si (-1))], []⟩
 refine AW.seq (AW.region ?_)
 refine s_assign (d := (sc (.slice none 0 0))) rfl (AWops.nil (AW.seq (AW.seq (AW.region ?_))))
 refine s_move (d := (si (-1))) rfl (s_binI (v := (.bool false)) rfl rfl rfl (AWops.nil ?_))
 refine AW.cond_no rfl rfl (AW.skip (AW.seq (AW.seq (AW.region ?_))))
 refine s_move (d := (st_ (⟨#[46]⟩ : ByteArray))) rfl (s_binS (v := (.bool false)) rfl rfl (lit_eq (by decide)) (AWops.nil ?_))
 refine AW.cond_no rfl rfl (AW.skip (AW.seq (AW.seq (AW.region ?_))))
 refine s_move (d := (si (-1))) rfl (s_binI (v := (.bool true)) rfl rfl rfl (AWops.nil ?_))
 refine AW.cond_yes rfl rfl (AW.region ?_)
 refine s_move (d := (st_ a0)) rfl (s_move (d := (st_ (⟨#[46]⟩ : ByteArray))) rfl ?_)
 obtain ⟨r2, er2, h⟩ := bnd h
 refine cc [] [] (si r2) F.ca_56 rfl rfl (ac (.one .sc) (ac (.one .sc) an)) an (strings_Count_56.meets _ a0 r2 er2) (s_binI (v := (.int .i64 (IntKind.i64.wrap (r2 + 1)))) rfl rfl rfl (s_assign (d := (si (IntKind.i64.wrap (r2 + 1)))) rfl (AWops.nil (AW.seq (AW.region (s_move (d := (si (IntKind.i64.wrap (r2 + 1)))) rfl (s_move (d := (st_ a0)) rfl (s_len (n := a0.size) F.u_9 rfl (.inl ⟨⟨_, _, rfl⟩, rfl⟩) ?_))))))))
 refine s_binI (v := (.int .i64 (IntKind.i64.wrap ((a0.size : Int) + 1)))) rfl rfl rfl (s_min2 (r := (if (IntKind.i64.wrap ((a0.size : Int) + 1)) < (IntKind.i64.wrap (r2 + 1)) then (IntKind.i64.wrap ((a0.size : Int) + 1)) else (IntKind.i64.wrap (r2 + 1)))) rfl rfl rfl (s_assign (d := (si (if (IntKind.i64.wrap ((a0.size : Int) + 1)) < (IntKind.i64.wrap (r2 + 1)) then (IntKind.i64.wrap ((a0.size : Int) + 1)) else (IntKind.i64.wrap (r2 + 1))))) rfl (AWops.nil (AW.seq (AW.region (s_move (d := (si (if (IntKind.i64.wrap ((a0.size : Int) + 1)) < (IntKind.i64.wrap (r2 + 1)) then (IntKind.i64.wrap ((a0.size : Int) + 1)) else (IntKind.i64.wrap (r2 + 1))))) rfl ?_))))))
 obtain ⟨c3, h⟩ := gdH h
 have dc3 := of_decide_eq_true c3
 refine t_make (f := e_str) (a0 := ((⟨#[]⟩ : ByteArray) : ByteArray)) F.u_25 F.in_9 rfl (by decide) rfl rfl rfl rfl (by omega) (by omega) (by omega) (s_assign (d := (D.one (C.own 0 0 ((List.replicate (if (IntKind.i64.wrap ((a0.size : Int) + 1)) < (IntKind.i64.wrap (r2 + 1)) then (IntKind.i64.wrap ((a0.size : Int) + 1)) else (IntKind.i64.wrap (r2 + 1))).toNat ((⟨#[]⟩ : ByteArray) : ByteArray)).length) 1))) rfl (AWops.nil (AW.seq (AW.region (s_move (d := (si (if (IntKind.i64.wrap ((a0.size : Int) + 1)) < (IntKind.i64.wrap (r2 + 1)) then (IntKind.i64.wrap ((a0.size : Int) + 1)) else (IntKind.i64.wrap (r2 + 1))))) rfl (s_binI (v := (.int .i64 (IntKind.i64.wrap ((if (IntKind.i64.wrap ((a0.size : Int) + 1)) < (IntKind.i64.wrap (r2 + 1)) then (IntKind.i64.wrap ((a0.size : Int) + 1)) else (IntKind.i64.wrap (r2 + 1))) - 1)))) rfl rfl rfl (s_assign (d := (si (IntKind.i64.wrap ((if (IntKind.i64.wrap ((a0.size : Int) + 1)) < (IntKind.i64.wrap (r2 + 1)) then (IntKind.i64.wrap ((a0.size : Int) + 1)) else (IntKind.i64.wrap (r2 + 1))) - 1)))) rfl (AWops.nil (AW.seq (AW.region (s_assign (d := (si 0)) rfl (AWops.nil (AW.seq (AW.block ?_))))))))))))))
 refine AW.loopw (st0 := ⟨66, (upd 66 (upd 66 (upd 66 (upd 66 (upd 66 (upd 66 topF 0 (st_ a0)) 1 (st_ (⟨#[46]⟩ : ByteArray))) 2 (si 0)) 3 (si (IntKind.i64.wrap ((if (IntKind.i64.wrap ((a0.size : Int) + 1)) < (IntKind.i64.wrap (r2 + 1)) then (IntKind.i64.wrap ((a0.size : Int) + 1)) else (IntKind.i64.wrap (r2 + 1))) - 1)))) 9 (D.one (C.own 0 0 (List.replicate (if (IntKind.i64.wrap ((a0.size : Int) + 1)) < (IntKind.i64.wrap (r2 + 1)) then (IntKind.i64.wrap ((a0.size : Int) + 1)) else (IntKind.i64.wrap (r2 + 1))).toNat ((⟨#[]⟩ : ByteArray) : ByteArray)).length 1))) 10 (si 0)), [(some (AObj.cells true (rowC e_str (List.replicate (if (IntKind.i64.wrap ((a0.size : Int) + 1)) < (IntKind.i64.wrap (r2 + 1)) then (IntKind.i64.wrap ((a0.size : Int) + 1)) else (IntKind.i64.wrap (r2 + 1))).toNat ((⟨#[]⟩ : ByteArray) : ByteArray)))))]⟩) (fun kv st => kv ≤ k ∧ ∃ (x4 : List ByteArray) (x5 : ByteArray) (x6 : Int), strings_genSplit_47.l0 kv x4 x5 x6 a0 r2 = some r ∧ st = ⟨66, (upd 66 (upd 66 (upd 66 (upd 66 (upd 66 (upd 66 topF 0 (st_ x5)) 1 (st_ (⟨#[46]⟩ : ByteArray))) 2 (si 0)) 3 (si (IntKind.i64.wrap ((if (IntKind.i64.wrap ((a0.size : Int) + 1)) < (IntKind.i64.wrap (r2 + 1)) then (IntKind.i64.wrap ((a0.size : Int) + 1)) else (IntKind.i64.wrap (r2 + 1))) - 1)))) 9 (D.one (C.own 0 0 x4.length 1))) 10 (si x6)), [(ow_ e_str x4)]⟩) (k := k) (wg 0 [0] [] hx (le_upd (le_upd (le_upd (le_upd (le_upd (le_upd (le_top _) (o1 .sc)) (o1 .sc)) (o1 .sc)) (o1 .sc)) (o1 (.own rfl))) (o1 .sc)) (ac (.cells (fun _ => rfl) (all2_row _)) an)) ⟨Nat.le_refl _, List.replicate (if (IntKind.i64.wrap ((a0.size : Int) + 1)) < (IntKind.i64.wrap (r2 + 1)) then (IntKind.i64.wrap ((a0.size : Int) + 1)) else (IntKind.i64.wrap (r2 + 1))).toNat ((⟨#[]⟩ : ByteArray) : ByteArray), a0, 0, h, rfl⟩ ?_
 rintro ql0 st ⟨hkl0, x4, x5, x6, h, rfl⟩
 cases ql0 with
 | zero => exact absurd h (by simp [strings_genSplit_47.l0])
 | succ ql0 =>
  replace h := (strings_genSplit_47.l0.eq_2 _ _ _ _ _ _).symm.trans h
  refine AW.seq (AW.seq (AW.region ?_))
  refine s_move (d := (si x6)) rfl (s_move (d := (si (IntKind.i64.wrap ((if (IntKind.i64.wrap ((a0.size : Int) + 1)) < (IntKind.i64.wrap (r2 + 1)) then (IntKind.i64.wrap ((a0.size : Int) + 1)) else (IntKind.i64.wrap (r2 + 1))) - 1)))) rfl (s_binI (v := (.bool (decide (x6 < (IntKind.i64.wrap ((if (IntKind.i64.wrap ((a0.size : Int) + 1)) < (IntKind.i64.wrap (r2 + 1)) then (IntKind.i64.wrap ((a0.size : Int) + 1)) else (IntKind.i64.wrap (r2 + 1))) - 1)))))) rfl rfl rfl (AWops.nil ?_)))
  rcases itH h with ⟨c7, h⟩ | ⟨c7, h⟩
  ·refine AW.cond_yes rfl c7 (AW.skip (AW.block (AW.seq (AW.region ?_))))
   refine s_move (d := (st_ x5)) rfl (s_move (d := (st_ (⟨#[46]⟩ : ByteArray))) rfl ?_)
   obtain ⟨r8, er8, h⟩ := bnd h
   refine cc [] [(ow_ e_str x4)] (si r8) F.ca_57 rfl rfl (ac (.one .sc) (ac (.one .sc) an)) an (strings_Index_57.meets _ x5 r8 er8) (s_assign (d := (si r8)) rfl (AWops.nil (AW.seq (AW.seq (AW.region (s_move (d := (si r8)) rfl (s_binI (v := (.bool (decide (r8 < 0)))) rfl rfl rfl (AWops.nil ?_))))))))
   rcases itH h with ⟨c9, h⟩ | ⟨c9, h⟩
   ·refine AW.cond_yes rfl c9 (AW.exit (AW.seq (AW.region ?_)))
    refine s_move (d := (D.one (C.own 0 0 x4.length 1))) rfl (s_move (d := (si x6)) rfl (s_move (d := (st_ x5)) rfl ?_))
    obtain ⟨v10, ev10, h⟩ := bnd h
    obtain ⟨pv10, qv10, gv10⟩ := rd_some ev10
    refine s_indexOwn (d := (D.one (C.ref 0 (0 + x6.toNat * 1)))) F.u_25 F.sz_9 rfl rfl pv10 qv10 rfl ?_
    refine s_store (cs' := rowC e_str (x4.set x6.toNat x5)) rfl rfl rfl (List.cons_ne_nil _ _) rfl F.sz_9 (by rw [row_len e_str_len]; have := (List.getElem?_eq_some_iff.mp gv10).1; show _ + 1 ≤ _; omega) (row_set (f := e_str) (sz := 1) (o := 0) (ds := [P.v (.string x5)]) e_str_len gv10 rfl (nl rfl) rfl) ?_
    refine AWops.nil (AW.seq (AW.region ?_))
    refine s_move (d := (D.one (C.own 0 0 x4.length 1))) rfl (s_move (d := (si x6)) rfl (s_binI (v := (.int .i64 (IntKind.i64.wrap (x6 + 1)))) rfl rfl rfl ?_))
    refine AWops.weak (st' := ⟨66, (upd 66 (upd 66 (upd 66 (upd 66 (upd 66 (upd 66 (upd 66 (upd 66 (upd 66 (upd 66 (upd 66 (upd 66 (upd 66 (upd 66 (upd 66 (upd 66 (upd 66 (upd 66 (upd 66 (upd 66 (upd 66 topF 0 (st_ x5)) 1 (st_ (⟨#[46]⟩ : ByteArray))) 2 (si 0)) 3 (si (IntKind.i64.wrap ((if (IntKind.i64.wrap ((a0.size : Int) + 1)) < (IntKind.i64.wrap (r2 + 1)) then (IntKind.i64.wrap ((a0.size : Int) + 1)) else (IntKind.i64.wrap (r2 + 1))) - 1)))) 9 (D.one (C.p false (.sl (x4.set x6.toNat x5).length ((x4.set x6.toNat x5).flatMap e_str))))) 10 (si x6)) 11 (si r8)) 34 (si x6)) 35 (si (IntKind.i64.wrap ((if (IntKind.i64.wrap ((a0.size : Int) + 1)) < (IntKind.i64.wrap (r2 + 1)) then (IntKind.i64.wrap ((a0.size : Int) + 1)) else (IntKind.i64.wrap (r2 + 1))) - 1)))) 36 (sb (decide (x6 < (IntKind.i64.wrap ((if (IntKind.i64.wrap ((a0.size : Int) + 1)) < (IntKind.i64.wrap (r2 + 1)) then (IntKind.i64.wrap ((a0.size : Int) + 1)) else (IntKind.i64.wrap (r2 + 1))) - 1)))))) 37 (st_ x5)) 38 (st_ (⟨#[46]⟩ : ByteArray))) 39 (si r8)) 40 (si r8)) 41 (sb (decide (r8 < 0)))) 58 (D.one (C.p false (.sl (x4.set x6.toNat x5).length ((x4.set x6.toNat x5).flatMap e_str))))) 59 (si x6)) 60 (st_ x5)) 62 (D.one (C.p false (.sl (x4.set x6.toNat x5).length ((x4.set x6.toNat x5).flatMap e_str))))) 63 (si x6)) 64 (si (IntKind.i64.wrap (x6 + 1)))), []⟩) (wg 0 [] [0] hx (le_upd (le_upd (le_upd (le_upd (le_upd (le_upd (le_upd (le_upd (le_upd (le_upd (le_upd (le_upd (le_upd (le_upd (le_upd (le_upd (le_upd (le_upd (le_upd (le_upd (le_upd (le_top _) (o1 .sc)) (o1 .sc)) (o1 .sc)) (o1 .sc)) (o1 (CLe.frz e_str_len rfl rfl (by simp)))) (o1 .sc)) (o1 .sc)) (o1 .sc)) (o1 .sc)) (o1 .sc)) (o1 .sc)) (o1 .sc)) (o1 .sc)) (o1 .sc)) (o1 .sc)) (o1 (CLe.frz e_str_len rfl rfl (by simp)))) (o1 .sc)) (o1 .sc)) (o1 (CLe.frz e_str_len rfl rfl (by simp)))) (o1 .sc)) (o1 .sc)) an) ?_
    obtain ⟨c11, h⟩ := gdH h
    have dc11 := of_decide_eq_true c11
    refine t_sliceImm (a := 0) (b := IntKind.i64.wrap (x6 + 1)) F.u_25 F.sz_9 e_str_len rfl (by omega) (by omega) (by omega) .no (.yes rfl (by omega) rfl) (s_assign (d := (D.one (C.p false (.sl (sub (x4.set x6.toNat x5) 0 (IntKind.i64.wrap (x6 + 1))).length ((sub (x4.set x6.toNat x5) 0 (IntKind.i64.wrap (x6 + 1))).flatMap e_str))))) rfl (AWops.nil (AW.ret ?_)))
    obtain rfl := Option.some.inj h
    exact ⟨_, rfl, (wg 0 [] [] rfl (le_upd (le_top _) (o1 .same)) an)⟩
   ·refine AW.cond_no rfl c9 (AW.skip (AW.seq (AW.region ?_)))
    refine s_move (d := (D.one (C.own 0 0 x4.length 1))) rfl (s_move (d := (si x6)) rfl (s_move (d := (st_ x5)) rfl (s_move (d := (si r8)) rfl (s_move (d := (si 0)) rfl (s_binI (v := (.int .i64 (IntKind.i64.wrap (r8 + 0)))) rfl rfl rfl ?_)))))
    obtain ⟨c12, h⟩ := gdH h
    have dc12 := of_decide_eq_true c12
    refine s_sliceStr F.u_9 rfl .no (.yes rfl (by omega) rfl) (by omega) (by omega) ?_
    obtain ⟨v13, ev13, h⟩ := bnd h
    obtain ⟨pv13, qv13, gv13⟩ := rd_some ev13
    refine s_indexOwn (d := (D.one (C.ref 0 (0 + x6.toNat * 1)))) F.u_25 F.sz_9 rfl rfl pv13 qv13 rfl ?_
    refine s_store (cs' := rowC e_str (x4.set x6.toNat (x5.extract 0 (IntKind.i64.wrap (r8 + 0)).toNat))) rfl rfl rfl (List.cons_ne_nil _ _) rfl F.sz_9 (by rw [row_len e_str_len]; have := (List.getElem?_eq_some_iff.mp gv13).1; show _ + 1 ≤ _; omega) (row_set (f := e_str) (sz := 1) (o := 0) (ds := [P.v (.string (x5.extract 0 (IntKind.i64.wrap (r8 + 0)).toNat))]) e_str_len gv13 rfl (nl rfl) rfl) ?_
    refine AWops.nil (AW.seq (AW.region ?_))
    refine s_move (d := (st_ x5)) rfl (s_move (d := (si r8)) rfl (s_move (d := (st_ (⟨#[46]⟩ : ByteArray))) rfl (s_len (n := 1) F.u_9 rfl (.inl ⟨⟨_, _, rfl⟩, rfl⟩) (s_binI (v := (.int .i64 (IntKind.i64.wrap (r8 + 1)))) rfl rfl rfl ?_))))
    obtain ⟨c14, h⟩ := gdH h
    have dc14 := of_decide_eq_true c14
    refine s_sliceStr F.u_9 rfl (.yes rfl (by omega) rfl) .no (by omega) (by omega) (s_assign (d := (st_ (x5.extract (IntKind.i64.wrap (r8 + 1)).toNat x5.size))) rfl (AWops.nil (AW.region (s_move (d := (si x6)) rfl (s_binI (v := (.int .i64 (IntKind.i64.wrap (x6 + 1)))) rfl rfl rfl (s_assign (d := (si (IntKind.i64.wrap (x6 + 1)))) rfl (AWops.nil ?_)))))))
    exact ⟨_, ⟨66, (upd 66 (upd 66 (upd 66 (upd 66 (upd 66 (upd 66 topF 0 (st_ (x5.extract (IntKind.i64.wrap (r8 + 1)).toNat x5.size))) 1 (st_ (⟨#[46]⟩ : ByteArray))) 2 (si 0)) 3 (si (IntKind.i64.wrap ((if (IntKind.i64.wrap ((a0.size : Int) + 1)) < (IntKind.i64.wrap (r2 + 1)) then (IntKind.i64.wrap ((a0.size : Int) + 1)) else (IntKind.i64.wrap (r2 + 1))) - 1)))) 9 (D.one (C.own 0 0 (x4.set x6.toNat (x5.extract 0 (IntKind.i64.wrap (r8 + 0)).toNat)).length 1))) 10 (si (IntKind.i64.wrap (x6 + 1)))), [(some (AObj.cells true (rowC e_str (x4.set x6.toNat (x5.extract 0 (IntKind.i64.wrap (r8 + 0)).toNat)))))]⟩, by omega, (wg 0 [0] [] hx (le_upd (le_upd (le_upd (le_upd (le_upd (le_upd (le_top _) (o1 .sc)) (o1 .sc)) (o1 .sc)) (o1 .sc)) (o1 (CLe.ownN rfl (by simp)))) (o1 .sc)) (ac (.cells (fun _ => rfl) (all2_row _)) an)), by omega, x4.set x6.toNat (x5.extract 0 (IntKind.i64.wrap (r8 + 0)).toNat), x5.extract (IntKind.i64.wrap (r8 + 1)).toNat x5.size, IntKind.i64.wrap (x6 + 1), h, rfl⟩
  ·refine AW.cond_no rfl c7 (AW.exit (AW.seq (AW.region ?_)))
   refine s_move (d := (D.one (C.own 0 0 x4.length 1))) rfl (s_move (d := (si x6)) rfl (s_move (d := (st_ x5)) rfl ?_))
   obtain ⟨v15, ev15, h⟩ := bnd h
   obtain ⟨pv15, qv15, gv15⟩ := rd_some ev15
   refine s_indexOwn (d := (D.one (C.ref 0 (0 + x6.toNat * 1)))) F.u_25 F.sz_9 rfl rfl pv15 qv15 rfl ?_
   refine s_store (cs' := rowC e_str (x4.set x6.toNat x5)) rfl rfl rfl (List.cons_ne_nil _ _) rfl F.sz_9 (by rw [row_len e_str_len]; have := (List.getElem?_eq_some_iff.mp gv15).1; show _ + 1 ≤ _; omega) (row_set (f := e_str) (sz := 1) (o := 0) (ds := [P.v (.string x5)]) e_str_len gv15 rfl (nl rfl) rfl) ?_
   refine AWops.nil (AW.seq (AW.region ?_))
   refine s_move (d := (D.one (C.own 0 0 x4.length 1))) rfl (s_move (d := (si x6)) rfl (s_binI (v := (.int .i64 (IntKind.i64.wrap (x6 + 1)))) rfl rfl rfl ?_))
   refine AWops.weak (st' := ⟨66, (upd 66 (upd 66 (upd 66 (upd 66 (upd 66 (upd 66 (upd 66 (upd 66 (upd 66 (upd 66 (upd 66 (upd 66 (upd 66 (upd 66 (upd 66 topF 0 (st_ x5)) 1 (st_ (⟨#[46]⟩ : ByteArray))) 2 (si 0)) 3 (si (IntKind.i64.wrap ((if (IntKind.i64.wrap ((a0.size : Int) + 1)) < (IntKind.i64.wrap (r2 + 1)) then (IntKind.i64.wrap ((a0.size : Int) + 1)) else (IntKind.i64.wrap (r2 + 1))) - 1)))) 9 (D.one (C.p false (.sl (x4.set x6.toNat x5).length ((x4.set x6.toNat x5).flatMap e_str))))) 10 (si x6)) 34 (si x6)) 35 (si (IntKind.i64.wrap ((if (IntKind.i64.wrap ((a0.size : Int) + 1)) < (IntKind.i64.wrap (r2 + 1)) then (IntKind.i64.wrap ((a0.size : Int) + 1)) else (IntKind.i64.wrap (r2 + 1))) - 1)))) 36 (sb (decide (x6 < (IntKind.i64.wrap ((if (IntKind.i64.wrap ((a0.size : Int) + 1)) < (IntKind.i64.wrap (r2 + 1)) then (IntKind.i64.wrap ((a0.size : Int) + 1)) else (IntKind.i64.wrap (r2 + 1))) - 1)))))) 58 (D.one (C.p false (.sl (x4.set x6.toNat x5).length ((x4.set x6.toNat x5).flatMap e_str))))) 59 (si x6)) 60 (st_ x5)) 62 (D.one (C.p false (.sl (x4.set x6.toNat x5).length ((x4.set x6.toNat x5).flatMap e_str))))) 63 (si x6)) 64 (si (IntKind.i64.wrap (x6 + 1)))), []⟩) (wg 0 [] [0] hx (le_upd (le_upd (le_upd (le_upd (le_upd (le_upd (le_upd (le_upd (le_upd (le_upd (le_upd (le_upd (le_upd (le_upd (le_upd (le_top _) (o1 .sc)) (o1 .sc)) (o1 .sc)) (o1 .sc)) (o1 (CLe.frz e_str_len rfl rfl (by simp)))) (o1 .sc)) (o1 .sc)) (o1 .sc)) (o1 .sc)) (o1 (CLe.frz e_str_len rfl rfl (by simp)))) (o1 .sc)) (o1 .sc)) (o1 (CLe.frz e_str_len rfl rfl (by simp)))) (o1 .sc)) (o1 .sc)) an) ?_
   obtain ⟨c16, h⟩ := gdH h
   have dc16 := of_decide_eq_true c16
   refine t_sliceImm (a := 0) (b := IntKind.i64.wrap (x6 + 1)) F.u_25 F.sz_9 e_str_len rfl (by omega) (by omega) (by omega) .no (.yes rfl (by omega) rfl) (s_assign (d := (D.one (C.p false (.sl (sub (x4.set x6.toNat x5) 0 (IntKind.i64.wrap (x6 + 1))).length ((sub (x4.set x6.toNat x5) 0 (IntKind.i64.wrap (x6 + 1))).flatMap e_str))))) rfl (AWops.nil (AW.ret ?_)))
   obtain rfl := Option.some.inj h
   exact ⟨_, rfl, (wg 0 [] [] rfl (le_upd (le_top _) (o1 .same)) an)⟩
def strings_Split.f (k : Nat) (a0 : ByteArray) : Option (List ByteArray) := (strings_genSplit_47.f k a0).bind fun r1 => some r1
theorem strings_Split.meets (k : Nat) (a0 : ByteArray) (r : (List ByteArray)) (h : strings_Split.f k a0 = some r) : Meets Tryd.prog 37 [(st_ a0), (st_ (⟨#[46]⟩ : ByteArray))] [] (D.one (C.p false (.sl r.length (r.flatMap e_str)))) [] := by
 unfold strings_Split.f at h
 refine Meets.of_body (n := 8) Tryd.func37 rfl rfl (nl rfl) fun x hx => ?_
 replace hx : x.k = 0 := hx
 show AW _ x _ _ ⟨8, fr0 [(st_ a0), (st_ (⟨#[46]⟩ : ByteArray))], []⟩
 refine AW.seq (AW.region ?_)
 refine s_assign (d := (sc (.slice none 0 0))) rfl (AWops.nil (AW.seq (AW.region ?_)))
 refine s_move (d := (st_ a0)) rfl (s_move (d := (st_ (⟨#[46]⟩ : ByteArray))) rfl ?_)
 obtain ⟨r1, er1, h⟩ := bnd h
 refine cc [] [] (D.one (C.p false (.sl r1.length (r1.flatMap e_str)))) F.ca_47 rfl rfl (ac (.one .sc) (ac (.one .sc) (ac (.one .sc) (ac (.one .sc) an)))) an (strings_genSplit_47.meets _ a0 r1 er1) (s_assign (d := (D.one (C.p false (.sl r1.length (r1.flatMap e_str))))) rfl (AWops.nil (AW.ret ?_)))
 obtain rfl := Option.some.inj h
 exact ⟨_, rfl, (wg 0 [] [] rfl (le_upd (le_top _) (o1 .same)) an)⟩
mutual
def bytealg_LastIndexByteString.l0 : Nat → Int → ByteArray → Int → Option Int
 | 0, _, _, _ => none
 | k + 1, x1, a0, a1 => if (decide (x1 ≥ 0)) = true then ((bt a0 x1).bind fun v3 => if (v3 == a1) = true then (some x1) else (bytealg_LastIndexByteString.l0 k (IntKind.i64.wrap (x1 - 1)) a0 a1)) else (some (-1))
end
def bytealg_LastIndexByteString.f (k : Nat) (a0 : ByteArray) (a1 : Int) : Option Int := bytealg_LastIndexByteString.l0 k (IntKind.i64.wrap ((a0.size : Int) - 1)) a0 a1
theorem bytealg_LastIndexByteString.meets (k : Nat) (a0 : ByteArray) (a1 : Int) (r : Int) (h : bytealg_LastIndexByteString.f k a0 a1 = some r) : Meets Tryd.prog 43 [(st_ a0), (sc (.int .u8 a1))] [] (si r) [] := by
 unfold bytealg_LastIndexByteString.f at h
 refine Meets.of_body (n := 19) Tryd.func43 rfl rfl (nl rfl) fun x hx => ?_
 replace hx : x.k = 0 := hx
 show AW _ x _ _ ⟨19, fr0 [(st_ a0), (sc (.int .u8 a1))], []⟩
 refine AW.seq (AW.region ?_)
 refine s_assign (d := (si 0)) rfl (AWops.nil (AW.seq (AW.seq (AW.region ?_))))
 refine s_move (d := (st_ a0)) rfl (s_len (n := a0.size) F.u_9 rfl (.inl ⟨⟨_, _, rfl⟩, rfl⟩) (s_binI (v := (.int .i64 (IntKind.i64.wrap ((a0.size : Int) - 1)))) rfl rfl rfl (s_assign (d := (si (IntKind.i64.wrap ((a0.size : Int) - 1)))) rfl (AWops.nil (AW.block ?_)))))
 refine AW.loopw (st0 := ⟨19, (upd 19 (upd 19 (upd 19 topF 0 (st_ a0)) 1 (sc (.int .u8 a1))) 5 (si (IntKind.i64.wrap ((a0.size : Int) - 1)))), []⟩) (fun kv st => kv ≤ k ∧ ∃ (x1 : Int), bytealg_LastIndexByteString.l0 kv x1 a0 a1 = some r ∧ st = ⟨19, (upd 19 (upd 19 (upd 19 topF 0 (st_ a0)) 1 (sc (.int .u8 a1))) 5 (si x1)), []⟩) (k := k) (wg 0 [] [] hx (le_upd (le_upd (le_upd (le_top _) (o1 .sc)) (o1 .sc)) (o1 .sc)) an) ⟨Nat.le_refl _, IntKind.i64.wrap ((a0.size : Int) - 1), h, rfl⟩ ?_
 rintro ql0 st ⟨hkl0, x1, h, rfl⟩
 cases ql0 with
 | zero => exact absurd h (by simp [bytealg_LastIndexByteString.l0])
 | succ ql0 =>
  replace h := (bytealg_LastIndexByteString.l0.eq_2 _ _ _ _).symm.trans h
  refine AW.seq (AW.seq (AW.region ?_))
  refine s_move (d := (si x1)) rfl (s_binI (v := (.bool (decide (x1 ≥ 0)))) rfl rfl rfl (AWops.nil ?_))
  rcases itH h with ⟨c2, h⟩ | ⟨c2, h⟩
  ·refine AW.cond_yes rfl c2 (AW.skip (AW.seq (AW.block (AW.seq (AW.region ?_)))))
   refine s_move (d := (st_ a0)) rfl (s_move (d := (si x1)) rfl ?_)
   obtain ⟨v3, ev3, h⟩ := bnd h
   obtain ⟨pv3, bv3, gv3, rfl⟩ := bt_some ev3
   refine s_indexStr F.u_9 rfl rfl pv3 gv3 ?_
   generalize hzv3 : ((bv3.toNat : Nat) : Int) = v3 at *
   refine s_move (d := (sc (.int .u8 a1))) rfl (s_binI (v := (.bool (v3 == a1))) rfl rfl rfl (AWops.nil ?_))
   rcases itH h with ⟨c4, h⟩ | ⟨c4, h⟩
   ·refine AW.cond_yes rfl c4 (AW.seq (AW.region ?_))
    refine s_move (d := (si x1)) rfl (s_assign (d := (si x1)) rfl (AWops.nil (AW.ret ?_)))
    obtain rfl := Option.some.inj h
    exact ⟨_, rfl, (wg 0 [] [] rfl (le_upd (le_top _) (o1 .sc)) an)⟩
   ·refine AW.cond_no rfl c4 (AW.skip (AW.region ?_))
    refine s_move (d := (si x1)) rfl (s_binI (v := (.int .i64 (IntKind.i64.wrap (x1 - 1)))) rfl rfl rfl (s_assign (d := (si (IntKind.i64.wrap (x1 - 1)))) rfl (AWops.nil ?_)))
    exact ⟨_, ⟨19, (upd 19 (upd 19 (upd 19 topF 0 (st_ a0)) 1 (sc (.int .u8 a1))) 5 (si (IntKind.i64.wrap (x1 - 1)))), []⟩, by omega, (wg 0 [] [] hx (le_upd (le_upd (le_upd (le_top _) (o1 .sc)) (o1 .sc)) (o1 .sc)) an), by omega, IntKind.i64.wrap (x1 - 1), h, rfl⟩
  ·refine AW.cond_no rfl c2 (AW.exit (AW.seq (AW.region ?_)))
   refine s_assign (d := (si (-1))) rfl (AWops.nil (AW.ret ?_))
   obtain rfl := Option.some.inj h
   exact ⟨_, rfl, (wg 0 [] [] rfl (le_upd (le_top _) (o1 .sc)) an)⟩
def strings_LastIndexByte.f (k : Nat) (a0 : ByteArray) (a1 : Int) : Option Int := (bytealg_LastIndexByteString.f k a0 a1).bind fun r1 => some r1
theorem strings_LastIndexByte.meets (k : Nat) (a0 : ByteArray) (a1 : Int) (r : Int) (h : strings_LastIndexByte.f k a0 a1 = some r) : Meets Tryd.prog 30 [(st_ a0), (sc (.int .u8 a1))] [] (si r) [] := by
 unfold strings_LastIndexByte.f at h
 refine Meets.of_body (n := 8) Tryd.func30 rfl rfl (nl rfl) fun x hx => ?_
 replace hx : x.k = 0 := hx
 show AW _ x _ _ ⟨8, fr0 [(st_ a0), (sc (.int .u8 a1))], []⟩
 refine AW.seq (AW.region ?_)
 refine s_assign (d := (si 0)) rfl (AWops.nil (AW.seq (AW.region ?_)))
 refine s_move (d := (st_ a0)) rfl (s_move (d := (sc (.int .u8 a1))) rfl ?_)
 obtain ⟨r1, er1, h⟩ := bnd h
 refine cc [] [] (si r1) F.ca_43 rfl rfl (ac (.one .sc) (ac (.one .sc) an)) an (bytealg_LastIndexByteString.meets _ a0 a1 r1 er1) (s_assign (d := (si r1)) rfl (AWops.nil (AW.ret ?_)))
 obtain rfl := Option.some.inj h
 exact ⟨_, rfl, (wg 0 [] [] rfl (le_upd (le_top _) (o1 .sc)) an)⟩
mutual
def chars_Number.j2 : Nat → Int → Int → ByteArray → Int → Option (Int × Int)
 | 0, _, _, _, _ => none
 | k + 1, x18, v2, x5, x10 => if (decide ((x5.size : Int) > 19)) = true then (some (0, 4)) else (if (decide (x10 > x18)) = true then (some (0, 4)) else (if (v2 == 45) = true then (some (IntKind.i64.wrap (0 - (IntKind.i64.wrap x10)), 0)) else (some (IntKind.i64.wrap x10, 0))))
def chars_Number.l1 : Nat → Int → Int → Int → ByteArray → Option (Int × Int)
 | 0, _, _, _, _ => none
 | k + 1, x10, x11, v2, x5 => if (decide (x11 < ((bytesI x5).length : Int))) = true then ((rd (bytesI x5) x11).bind fun v13 => if (decide (v13 < 48)) = true then (some (0, 5)) else (if (decide (v13 > 57)) = true then (some (0, 5)) else (if (decide ((x5.size : Int) > 19)) = true then (chars_Number.l1 k x10 (IntKind.i64.wrap (x11 + 1)) v2 x5) else (chars_Number.l1 k (IntKind.u64.wrap ((IntKind.u64.wrap (10 * x10)) + (IntKind.u64.wrap (IntKind.u8.wrap (v13 - 48))))) (IntKind.i64.wrap (x11 + 1)) v2 x5)))) else (if (v2 == 45) = true then (chars_Number.j2 k 9223372036854775808 v2 x5 x10) else (chars_Number.j2 k 9223372036854775807 v2 x5 x10))
def chars_Number.j4 : Nat → Int → Int → ByteArray → Int → Option (Int × Int)
 | 0, _, _, _, _ => none
 | k + 1, x30, v2, x5, x22 => if (decide ((x5.size : Int) > 19)) = true then (some (0, 4)) else (if (decide (x22 > x30)) = true then (some (0, 4)) else (if (v2 == 45) = true then (some (IntKind.i64.wrap (0 - (IntKind.i64.wrap x22)), 0)) else (some (IntKind.i64.wrap x22, 0))))
def chars_Number.l3 : Nat → Int → Int → Int → ByteArray → Option (Int × Int)
 | 0, _, _, _, _ => none
 | k + 1, x22, x23, v2, x5 => if (decide (x23 < ((bytesI x5).length : Int))) = true then ((rd (bytesI x5) x23).bind fun v25 => if (decide (v25 < 48)) = true then (some (0, 5)) else (if (decide (v25 > 57)) = true then (some (0, 5)) else (if (decide ((x5.size : Int) > 19)) = true then (chars_Number.l3 k x22 (IntKind.i64.wrap (x23 + 1)) v2 x5) else (chars_Number.l3 k (IntKind.u64.wrap ((IntKind.u64.wrap (10 * x22)) + (IntKind.u64.wrap (IntKind.u8.wrap (v25 - 48))))) (IntKind.i64.wrap (x23 + 1)) v2 x5)))) else (if (v2 == 45) = true then (chars_Number.j4 k 9223372036854775808 v2 x5 x22) else (chars_Number.j4 k 9223372036854775807 v2 x5 x22))
def chars_Number.j0 : Nat → ByteArray → ByteArray → Int → Option (Int × Int)
 | 0, _, _, _ => none
 | k + 1, x5, a0, v2 => if (x5.toList == (⟨#[]⟩ : ByteArray).toList) = true then (some (0, 5)) else ((bt x5 0).bind fun v7 => if (v7 == 48) = true then (if (decide ((a0.size : Int) > 1)) = true then (some (0, 5)) else (chars_Number.l1 k 0 0 v2 x5)) else (chars_Number.l3 k 0 0 v2 x5))
def chars_Number.l5 : Nat → Int → Int → ByteArray → Option (Int × Int)
 | 0, _, _, _ => none
 | k + 1, x38, x39, a0 => if (decide (x39 < ((bytesI a0).length : Int))) = true then ((rd (bytesI a0) x39).bind fun v41 => if (decide (v41 < 48)) = true then (some (0, 5)) else (if (decide (v41 > 57)) = true then (some (0, 5)) else (if (decide ((a0.size : Int) > 19)) = true then (chars_Number.l5 k x38 (IntKind.i64.wrap (x39 + 1)) a0) else (chars_Number.l5 k (IntKind.u64.wrap ((IntKind.u64.wrap (10 * x38)) + (IntKind.u64.wrap (IntKind.u8.wrap (v41 - 48))))) (IntKind.i64.wrap (x39 + 1)) a0)))) else (if (decide ((a0.size : Int) > 19)) = true then (some (0, 4)) else (if (decide (x38 > 9223372036854775807)) = true then (some (0, 4)) else (some (IntKind.i64.wrap x38, 0))))
def chars_Number.l6 : Nat → Int → Int → ByteArray → Option (Int × Int)
 | 0, _, _, _ => none
 | k + 1, x47, x48, a0 => if (decide (x48 < ((bytesI a0).length : Int))) = true then ((rd (bytesI a0) x48).bind fun v50 => if (decide (v50 < 48)) = true then (some (0, 5)) else (if (decide (v50 > 57)) = true then (some (0, 5)) else (if (decide ((a0.size : Int) > 19)) = true then (chars_Number.l6 k x47 (IntKind.i64.wrap (x48 + 1)) a0) else (chars_Number.l6 k (IntKind.u64.wrap ((IntKind.u64.wrap (10 * x47)) + (IntKind.u64.wrap (IntKind.u8.wrap (v50 - 48))))) (IntKind.i64.wrap (x48 + 1)) a0)))) else (if (decide ((a0.size : Int) > 19)) = true then (some (0, 4)) else (if (decide (x47 > 9223372036854775807)) = true then (some (0, 4)) else (some (IntKind.i64.wrap x47, 0))))
end
def chars_Number.f (k : Nat) (a0 : ByteArray) : Option (Int × Int) := if (decide ((a0.size : Int) > 0)) = true then ((bt a0 0).bind fun v2 => if (v2 == 45) = true then (if (decide (0 ≤ 1 ∧ 1 ≤ (a0.size : Int) ∧ (a0.size : Int) ≤ (a0.size : Int))) = true then (chars_Number.j0 k (a0.extract 1 a0.size) a0 v2) else none) else (chars_Number.j0 k a0 a0 v2)) else (if (a0.toList == (⟨#[]⟩ : ByteArray).toList) = true then (some (0, 5)) else ((bt a0 0).bind fun v35 => if (v35 == 48) = true then (if (decide ((a0.size : Int) > 1)) = true then (some (0, 5)) else (chars_Number.l5 k 0 0 a0)) else (chars_Number.l6 k 0 0 a0)))
theorem chars_Number.meets (k : Nat) (a0 : ByteArray) (r : Int × Int) (h : chars_Number.f k a0 = some r) : Meets Tryd.prog 38 [(st_ a0)] [] (D.tup [(si r.1), (si r.2)]) [] := by
 unfold chars_Number.f at h
 refine Meets.of_body (n := 78) Tryd.func38 rfl rfl (nl rfl) fun x hx => ?_
 replace hx : x.k = 0 := hx
 show AW _ x _ _ ⟨78, fr0 [(st_ a0)], []⟩
 refine AW.seq (AW.region ?_)
 refine s_assign (d := (si 0)) rfl (s_assign (d := (si 0)) rfl (AWops.nil (AW.seq (AW.region (s_move (d := (st_ a0)) rfl (s_len (n := a0.size) F.u_9 rfl (.inl ⟨⟨_, _, rfl⟩, rfl⟩) (s_binI (v := (.bool (decide ((a0.size : Int) > 0)))) rfl rfl rfl (s_move (d := (sb (decide ((a0.size : Int) > 0)))) rfl ?_))))))))
 rcases itH h with ⟨c1, h⟩ | ⟨c1, h⟩
 ·refine AWops.guard_yes rfl (nl rfl) rfl c1 ?_
  refine s_move (d := (st_ a0)) rfl ?_
  refine AWops.guard_yes rfl (nl rfl) rfl c1 ?_
  obtain ⟨v2, ev2, h⟩ := bnd h
  obtain ⟨pv2, bv2, gv2, rfl⟩ := bt_some ev2
  refine s_indexStr F.u_9 rfl rfl pv2 gv2 ?_
  generalize hzv2 : ((bv2.toNat : Nat) : Int) = v2 at *
  refine AWops.guard_yes rfl (nl rfl) rfl c1 ?_
  refine s_binI (v := (.bool (v2 == 45))) rfl rfl rfl (s_pick_yes (d := (sb (v2 == 45))) rfl c1 rfl (s_assign (d := (sb (v2 == 45))) rfl (AWops.nil (AW.seq (AW.region (s_move (d := (st_ a0)) rfl (s_assign (d := (st_ a0)) rfl (AWops.nil ?_))))))))
  refine AW.seqJ (fun st => ∃ (x5 : ByteArray), chars_Number.j0 k x5 a0 v2 = some r ∧ st = ⟨78, (upd 78 (upd 78 (upd 78 topF 0 (st_ a0)) 4 (sb (v2 == 45))) 5 (st_ x5)), []⟩) ?_ ?_
  ·refine AW.seq (AW.region ?_)
   refine s_move (d := (sb (v2 == 45))) rfl (AWops.nil ?_)
   rcases itH h with ⟨c3, h⟩ | ⟨c3, h⟩
   ·refine AW.cond_yes rfl c3 (AW.region ?_)
    refine s_move (d := (st_ a0)) rfl ?_
    obtain ⟨c4, h⟩ := gdH h
    have dc4 := of_decide_eq_true c4
    refine s_sliceStr F.u_9 rfl (.yes rfl (by omega) rfl) .no (by omega) (by omega) (s_assign (d := (st_ (a0.extract 1 a0.size))) rfl (AWops.nil ?_))
    exact ⟨⟨78, (upd 78 (upd 78 (upd 78 topF 0 (st_ a0)) 4 (sb (v2 == 45))) 5 (st_ (a0.extract 1 a0.size))), []⟩, (wg 0 [] [] hx (le_upd (le_upd (le_upd (le_top _) (o1 .sc)) (o1 .sc)) (o1 .sc)) an), a0.extract 1 a0.size, h, rfl⟩
   ·refine AW.cond_no rfl c3 (AW.skip ?_)
    exact ⟨⟨78, (upd 78 (upd 78 (upd 78 topF 0 (st_ a0)) 4 (sb (v2 == 45))) 5 (st_ a0)), []⟩, (wg 0 [] [] hx (le_upd (le_upd (le_upd (le_top _) (o1 .sc)) (o1 .sc)) (o1 .sc)) an), a0, h, rfl⟩
  ·rintro st ⟨x5, h, rfl⟩
   cases k with
   | zero => exact absurd h (by simp [chars_Number.j0])
   | succ qj0 =>
    replace h := (chars_Number.j0.eq_2 _ _ _ _).symm.trans h
    refine AW.seq (AW.seq (AW.region ?_))
    refine s_move (d := (st_ x5)) rfl (s_binS (v := (.bool (x5.toList == (⟨#[]⟩ : ByteArray).toList))) rfl rfl rfl (s_move (d := (sb (x5.toList == (⟨#[]⟩ : ByteArray).toList))) rfl ?_))
    rcases itH h with ⟨c6, h⟩ | ⟨c6, h⟩
    ·iterate 4 refine AWops.guard_no rfl (nl rfl) rfl c6 ?_
     iterate 3 refine AWops.guard_undef rfl rfl ?_
     refine AWops.guard_no rfl (nl rfl) rfl c6 ?_
     refine s_pick_yes (d := (sb true)) rfl c6 rfl (AWops.nil ?_)
     refine AW.cond_yes rfl rfl (AW.seq (AW.region ?_))
     refine s_assign (d := (si 0)) rfl (s_assign (d := (si 5)) rfl (AWops.nil (AW.ret ?_)))
     obtain rfl := Option.some.inj h
     exact ⟨_, rfl, (wg 0 [] [] rfl (le_upd (le_top _) (DLe.tup (ac (TLe.one .sc) (ac (TLe.one .sc) an)))) an)⟩
    ·refine AWops.guard_yes rfl (nl rfl) rfl c6 ?_
     refine s_move (d := (st_ x5)) rfl ?_
     refine AWops.guard_yes rfl (nl rfl) rfl c6 ?_
     obtain ⟨v7, ev7, h⟩ := bnd h
     obtain ⟨pv7, bv7, gv7, rfl⟩ := bt_some ev7
     refine s_indexStr F.u_9 rfl rfl pv7 gv7 ?_
     generalize hzv7 : ((bv7.toNat : Nat) : Int) = v7 at *
     refine AWops.guard_yes rfl (nl rfl) rfl c6 ?_
     refine s_binI (v := (.bool (v7 == 48))) rfl rfl rfl ?_
     refine AWops.guard_yes rfl (nl rfl) rfl c6 ?_
     refine s_move (d := (sb (v7 == 48))) rfl ?_
     rcases itH h with ⟨c8, h⟩ | ⟨c8, h⟩
     ·refine AWops.guard_yes rfl (nl rfl) rfl c8 ?_
      refine s_move (d := (st_ a0)) rfl ?_
      refine AWops.guard_yes rfl (nl rfl) rfl c8 ?_
      refine s_len (n := a0.size) F.u_9 rfl (.inl ⟨⟨_, _, rfl⟩, rfl⟩) ?_
      refine AWops.guard_yes rfl (nl rfl) rfl c8 ?_
      refine s_binI (v := (.bool (decide ((a0.size : Int) > 1)))) rfl rfl rfl ?_
      refine AWops.guard_yes rfl (nl rfl) rfl c6 ?_
      refine s_pick_yes (d := (sb (decide ((a0.size : Int) > 1)))) rfl c8 rfl (s_pick_no (d := (sb (decide ((a0.size : Int) > 1)))) rfl c6 rfl (AWops.nil ?_))
      rcases itH h with ⟨c9, h⟩ | ⟨c9, h⟩
      ·refine AW.cond_yes rfl c9 (AW.seq (AW.region ?_))
       refine s_assign (d := (si 0)) rfl (s_assign (d := (si 5)) rfl (AWops.nil (AW.ret ?_)))
       obtain rfl := Option.some.inj h
       exact ⟨_, rfl, (wg 0 [] [] rfl (le_upd (le_top _) (DLe.tup (ac (TLe.one .sc) (ac (TLe.one .sc) an)))) an)⟩
      ·refine AW.cond_no rfl c9 (AW.skip (AW.seq (AW.region ?_)))
       refine s_assign (d := (sc (.int .u64 0))) rfl (AWops.nil (AW.seq (AW.region ?_)))
       refine s_move (d := (st_ x5)) rfl (s_len (n := x5.size) F.u_9 rfl (.inl ⟨⟨_, _, rfl⟩, rfl⟩) (s_binI (v := (.bool (decide ((x5.size : Int) > 19)))) rfl rfl rfl (s_assign (d := (sb (decide ((x5.size : Int) > 19)))) rfl (AWops.nil (AW.seq (AW.seq (AW.region (s_move (d := (st_ x5)) rfl (t_ofStr F.u_9 F.u_59 F.u_5 rfl ?_)))))))))
       refine s_len (n := (bytesI x5).length) F.u_59 rfl (.inr ⟨(fun _ _ h => by cases h), ⟨_, rfl⟩⟩) (s_move (d := (si 0)) rfl (AWops.nil (AW.block ?_)))
       refine AW.loopw (st0 := ⟨78, (upd 78 (upd 78 (upd 78 (upd 78 (upd 78 (upd 78 topF 4 (sb (v2 == 45))) 6 (sc (.int .u64 0))) 7 (sb (decide ((x5.size : Int) > 19)))) 39 (D.one (C.p false (.sl (bytesI x5).length ((bytesI x5).flatMap e_u8))))) 40 (si ((bytesI x5).length : Int))) 41 (si 0)), []⟩) (fun kv st => kv ≤ qj0 ∧ ∃ (x10 : Int) (x11 : Int), chars_Number.l1 kv x10 x11 v2 x5 = some r ∧ st = ⟨78, (upd 78 (upd 78 (upd 78 (upd 78 (upd 78 (upd 78 topF 4 (sb (v2 == 45))) 6 (sc (.int .u64 x10))) 7 (sb (decide ((x5.size : Int) > 19)))) 39 (D.one (C.p false (.sl (bytesI x5).length ((bytesI x5).flatMap e_u8))))) 40 (si ((bytesI x5).length : Int))) 41 (si x11)), []⟩) (k := qj0) (wg 0 [] [] hx (le_upd (le_upd (le_upd (le_upd (le_upd (le_upd (le_top _) (o1 .sc)) (o1 .sc)) (o1 .sc)) (o1 .same)) (o1 .sc)) (o1 .sc)) an) ⟨Nat.le_refl _, 0, 0, h, rfl⟩ ?_
       rintro ql1 st ⟨hkl1, x10, x11, h, rfl⟩
       cases ql1 with
       | zero => exact absurd h (by simp [chars_Number.l1])
       | succ ql1 =>
        replace h := (chars_Number.l1.eq_2 _ _ _ _ _).symm.trans h
        refine AW.seq (AW.region ?_)
        refine s_binI (v := (.bool (decide (x11 < ((bytesI x5).length : Int))))) rfl rfl rfl (AWops.nil (AW.seq ?_))
        rcases itH h with ⟨c12, h⟩ | ⟨c12, h⟩
        ·refine AW.cond_yes rfl c12 (AW.skip (AW.seq (AW.block (AW.seq (AW.region ?_)))))
         obtain ⟨v13, ev13, h⟩ := bnd h
         obtain ⟨pv13, qv13, gv13⟩ := rd_some ev13
         refine s_indexImm (ps := [P.v (.int .u8 v13)]) F.u_59 F.sz_5 rfl rfl pv13 qv13 (flat_at e_u8_len gv13 (e_u8_eq v13)) (s_load1 (c' := (C.p true (.v (.int .u8 v13)))) F.ag_5 rfl rfl (s_assign (d := (sc (.int .u8 v13))) rfl (AWops.nil (AW.seq (AW.seq (AW.region (s_move (d := (sc (.int .u8 v13))) rfl (s_binI (v := (.bool (decide (v13 < 48)))) rfl rfl rfl (s_move (d := (sb (decide (v13 < 48)))) rfl ?_)))))))))
         rcases itH h with ⟨c14, h⟩ | ⟨c14, h⟩
         ·refine AWops.guard_no rfl (nl rfl) rfl c14 ?_
          refine AWops.guard_no rfl (nl rfl) rfl c14 ?_
          refine s_pick_yes (d := (sb true)) rfl c14 rfl (AWops.nil ?_)
          refine AW.cond_yes rfl rfl (AW.seq (AW.region ?_))
          refine s_assign (d := (si 0)) rfl (s_assign (d := (si 5)) rfl (AWops.nil (AW.ret ?_)))
          obtain rfl := Option.some.inj h
          exact ⟨_, rfl, (wg 0 [] [] rfl (le_upd (le_top _) (DLe.tup (ac (TLe.one .sc) (ac (TLe.one .sc) an)))) an)⟩
         ·refine AWops.guard_yes rfl (nl rfl) rfl c14 ?_
          refine s_move (d := (sc (.int .u8 v13))) rfl ?_
          refine AWops.guard_yes rfl (nl rfl) rfl c14 ?_
          refine s_binI (v := (.bool (decide (v13 > 57)))) rfl rfl rfl (s_pick_no (d := (sb (decide (v13 > 57)))) rfl c14 rfl (AWops.nil ?_))
          rcases itH h with ⟨c15, h⟩ | ⟨c15, h⟩
          ·refine AW.cond_yes rfl c15 (AW.seq (AW.region ?_))
           refine s_assign (d := (si 0)) rfl (s_assign (d := (si 5)) rfl (AWops.nil (AW.ret ?_)))
           obtain rfl := Option.some.inj h
           exact ⟨_, rfl, (wg 0 [] [] rfl (le_upd (le_top _) (DLe.tup (ac (TLe.one .sc) (ac (TLe.one .sc) an)))) an)⟩
          ·refine AW.cond_no rfl c15 (AW.skip (AW.seq (AW.region ?_)))
           refine s_move (d := (sb (decide ((x5.size : Int) > 19)))) rfl (s_not rfl (AWops.nil ?_))
           rcases itH h with ⟨c16, h⟩ | ⟨c16, h⟩
           ·refine AW.cond_no rfl (by rw [c16] <;> rfl) (AW.skip (AW.region ?_))
            refine s_binI (v := (.int .i64 (IntKind.i64.wrap (x11 + 1)))) rfl rfl rfl (s_move (d := (si (IntKind.i64.wrap (x11 + 1)))) rfl (AWops.nil ?_))
            exact ⟨_, ⟨78, (upd 78 (upd 78 (upd 78 (upd 78 (upd 78 (upd 78 topF 4 (sb (v2 == 45))) 6 (sc (.int .u64 x10))) 7 (sb (decide ((x5.size : Int) > 19)))) 39 (D.one (C.p false (.sl (bytesI x5).length ((bytesI x5).flatMap e_u8))))) 40 (si ((bytesI x5).length : Int))) 41 (si (IntKind.i64.wrap (x11 + 1)))), []⟩, by omega, (wg 0 [] [] hx (le_upd (le_upd (le_upd (le_upd (le_upd (le_upd (le_top _) (o1 .sc)) (o1 .sc)) (o1 .sc)) (o1 .same)) (o1 .sc)) (o1 .sc)) an), by omega, x10, IntKind.i64.wrap (x11 + 1), h, rfl⟩
           ·refine AW.cond_yes rfl (by rw [c16] <;> rfl) (AW.region ?_)
            refine s_move (d := (sc (.int .u64 x10))) rfl (s_binI (v := (.int .u64 (IntKind.u64.wrap (10 * x10)))) rfl rfl rfl (s_move (d := (sc (.int .u8 v13))) rfl (s_binI (v := (.int .u8 (IntKind.u8.wrap (v13 - 48)))) rfl rfl rfl (s_convI F.u_5 F.u_73 rfl (s_binI (v := (.int .u64 (IntKind.u64.wrap ((IntKind.u64.wrap (10 * x10)) + (IntKind.u64.wrap (IntKind.u8.wrap (v13 - 48))))))) rfl rfl rfl ?_)))))
            refine s_assign (d := (sc (.int .u64 (IntKind.u64.wrap ((IntKind.u64.wrap (10 * x10)) + (IntKind.u64.wrap (IntKind.u8.wrap (v13 - 48)))))))) rfl (AWops.nil (AW.region ?_))
            refine s_binI (v := (.int .i64 (IntKind.i64.wrap (x11 + 1)))) rfl rfl rfl (s_move (d := (si (IntKind.i64.wrap (x11 + 1)))) rfl (AWops.nil ?_))
            exact ⟨_, ⟨78, (upd 78 (upd 78 (upd 78 (upd 78 (upd 78 (upd 78 topF 4 (sb (v2 == 45))) 6 (sc (.int .u64 (IntKind.u64.wrap ((IntKind.u64.wrap (10 * x10)) + (IntKind.u64.wrap (IntKind.u8.wrap (v13 - 48)))))))) 7 (sb (decide ((x5.size : Int) > 19)))) 39 (D.one (C.p false (.sl (bytesI x5).length ((bytesI x5).flatMap e_u8))))) 40 (si ((bytesI x5).length : Int))) 41 (si (IntKind.i64.wrap (x11 + 1)))), []⟩, by omega, (wg 0 [] [] hx (le_upd (le_upd (le_upd (le_upd (le_upd (le_upd (le_top _) (o1 .sc)) (o1 .sc)) (o1 .sc)) (o1 .same)) (o1 .sc)) (o1 .sc)) an), by omega, IntKind.u64.wrap ((IntKind.u64.wrap (10 * x10)) + (IntKind.u64.wrap (IntKind.u8.wrap (v13 - 48)))), IntKind.i64.wrap (x11 + 1), h, rfl⟩
        ·refine AW.cond_no rfl c12 (AW.exit (AW.seq (AW.region ?_)))
         refine s_assign (d := (sc (.int .u64 9223372036854775808))) rfl (AWops.nil ?_)
         refine AW.seqJ (fun st => ∃ (x18 : Int), chars_Number.j2 ql1 x18 v2 x5 x10 = some r ∧ st = ⟨78, (upd 78 (upd 78 (upd 78 (upd 78 topF 4 (sb (v2 == 45))) 6 (sc (.int .u64 x10))) 7 (sb (decide ((x5.size : Int) > 19)))) 10 (sc (.int .u64 x18))), []⟩) ?_ ?_
         ·refine AW.seq (AW.region ?_)
          refine s_move (d := (sb (v2 == 45))) rfl (s_not rfl (AWops.nil ?_))
          rcases itH h with ⟨c17, h⟩ | ⟨c17, h⟩
          ·refine AW.cond_no rfl (by rw [c17] <;> rfl) (AW.skip ?_)
           exact ⟨⟨78, (upd 78 (upd 78 (upd 78 (upd 78 topF 4 (sb (v2 == 45))) 6 (sc (.int .u64 x10))) 7 (sb (decide ((x5.size : Int) > 19)))) 10 (sc (.int .u64 9223372036854775808))), []⟩, (wg 0 [] [] hx (le_upd (le_upd (le_upd (le_upd (le_top _) (o1 .sc)) (o1 .sc)) (o1 .sc)) (o1 .sc)) an), 9223372036854775808, h, rfl⟩
          ·refine AW.cond_yes rfl (by rw [c17] <;> rfl) (AW.region ?_)
           refine s_move (d := (sc (.int .u64 9223372036854775808))) rfl (s_binI (v := (.int .u64 9223372036854775807)) rfl rfl (by rfl) (s_assign (d := (sc (.int .u64 9223372036854775807))) rfl (AWops.nil ?_)))
           exact ⟨⟨78, (upd 78 (upd 78 (upd 78 (upd 78 topF 4 (sb (v2 == 45))) 6 (sc (.int .u64 x10))) 7 (sb (decide ((x5.size : Int) > 19)))) 10 (sc (.int .u64 9223372036854775807))), []⟩, (wg 0 [] [] hx (le_upd (le_upd (le_upd (le_upd (le_top _) (o1 .sc)) (o1 .sc)) (o1 .sc)) (o1 .sc)) an), 9223372036854775807, h, rfl⟩
         ·rintro st ⟨x18, h, rfl⟩
          cases ql1 with
          | zero => exact absurd h (by simp [chars_Number.j2])
          | succ qj2 =>
           replace h := (chars_Number.j2.eq_2 _ _ _ _ _).symm.trans h
           refine AW.seq (AW.block (AW.seq (AW.region ?_)))
           refine s_move (d := (sb (decide ((x5.size : Int) > 19)))) rfl (s_move (d := (sb (decide ((x5.size : Int) > 19)))) rfl ?_)
           rcases itH h with ⟨c19, h⟩ | ⟨c19, h⟩
           ·iterate 3 refine AWops.guard_no rfl (nl rfl) rfl c19 ?_
            refine s_pick_yes (d := (sb true)) rfl c19 rfl (s_assign (d := (sb true)) rfl (AWops.nil ?_))
            refine AW.cond_yes rfl rfl (AW.seq (AW.region ?_))
            refine s_assign (d := (si 0)) rfl (s_assign (d := (si 4)) rfl (AWops.nil (AW.ret ?_)))
            obtain rfl := Option.some.inj h
            exact ⟨_, rfl, (wg 0 [] [] rfl (le_upd (le_top _) (DLe.tup (ac (TLe.one .sc) (ac (TLe.one .sc) an)))) an)⟩
           ·refine AWops.guard_yes rfl (nl rfl) rfl c19 ?_
            refine s_move (d := (sc (.int .u64 x10))) rfl ?_
            refine AWops.guard_yes rfl (nl rfl) rfl c19 ?_
            refine s_move (d := (sc (.int .u64 x18))) rfl ?_
            refine AWops.guard_yes rfl (nl rfl) rfl c19 ?_
            refine s_binI (v := (.bool (decide (x10 > x18)))) rfl rfl rfl (s_pick_no (d := (sb (decide (x10 > x18)))) rfl c19 rfl (s_assign (d := (sb (decide (x10 > x18)))) rfl (AWops.nil ?_)))
            rcases itH h with ⟨c20, h⟩ | ⟨c20, h⟩
            ·refine AW.cond_yes rfl c20 (AW.seq (AW.region ?_))
             refine s_assign (d := (si 0)) rfl (s_assign (d := (si 4)) rfl (AWops.nil (AW.ret ?_)))
             obtain rfl := Option.some.inj h
             exact ⟨_, rfl, (wg 0 [] [] rfl (le_upd (le_top _) (DLe.tup (ac (TLe.one .sc) (ac (TLe.one .sc) an)))) an)⟩
            ·refine AW.cond_no rfl c20 (AW.seq (AW.region ?_))
             refine s_move (d := (sb (v2 == 45))) rfl (s_assign (d := (sb (v2 == 45))) rfl (AWops.nil ?_))
             rcases itH h with ⟨c21, h⟩ | ⟨c21, h⟩
             ·refine AW.cond_yes rfl c21 (AW.seq (AW.region ?_))
              refine s_move (d := (sc (.int .u64 x10))) rfl (s_convI F.u_73 F.u_3 rfl (s_unI (v := (.int .i64 (IntKind.i64.wrap (0 - (IntKind.i64.wrap x10))))) rfl rfl (s_assign (d := (si (IntKind.i64.wrap (0 - (IntKind.i64.wrap x10))))) rfl (s_assign (d := (si 0)) rfl (AWops.nil (AW.ret ?_))))))
              obtain rfl := Option.some.inj h
              exact ⟨_, rfl, (wg 0 [] [] rfl (le_upd (le_top _) (DLe.tup (ac (TLe.one .sc) (ac (TLe.one .sc) an)))) an)⟩
             ·refine AW.cond_no rfl c21 (AW.skip (AW.seq (AW.region ?_)))
              refine s_move (d := (sc (.int .u64 x10))) rfl (s_convI F.u_73 F.u_3 rfl (s_assign (d := (si (IntKind.i64.wrap x10))) rfl (s_assign (d := (si 0)) rfl (AWops.nil (AW.ret ?_)))))
              obtain rfl := Option.some.inj h
              exact ⟨_, rfl, (wg 0 [] [] rfl (le_upd (le_top _) (DLe.tup (ac (TLe.one .sc) (ac (TLe.one .sc) an)))) an)⟩
     ·iterate 3 refine AWops.guard_no rfl (nl rfl) rfl c8 ?_
      refine AWops.guard_yes rfl (nl rfl) rfl c6 ?_
      refine s_pick_no (d := (sb false)) rfl c8 rfl (s_pick_no (d := (sb false)) rfl c6 rfl (AWops.nil ?_))
      refine AW.cond_no rfl rfl (AW.skip (AW.seq (AW.region ?_)))
      refine s_assign (d := (sc (.int .u64 0))) rfl (AWops.nil (AW.seq (AW.region ?_)))
      refine s_move (d := (st_ x5)) rfl (s_len (n := x5.size) F.u_9 rfl (.inl ⟨⟨_, _, rfl⟩, rfl⟩) (s_binI (v := (.bool (decide ((x5.size : Int) > 19)))) rfl rfl rfl (s_assign (d := (sb (decide ((x5.size : Int) > 19)))) rfl (AWops.nil (AW.seq (AW.seq (AW.region (s_move (d := (st_ x5)) rfl (t_ofStr F.u_9 F.u_59 F.u_5 rfl ?_)))))))))
      refine s_len (n := (bytesI x5).length) F.u_59 rfl (.inr ⟨(fun _ _ h => by cases h), ⟨_, rfl⟩⟩) (s_move (d := (si 0)) rfl (AWops.nil (AW.block ?_)))
      refine AW.loopw (st0 := ⟨78, (upd 78 (upd 78 (upd 78 (upd 78 (upd 78 (upd 78 topF 4 (sb (v2 == 45))) 6 (sc (.int .u64 0))) 7 (sb (decide ((x5.size : Int) > 19)))) 39 (D.one (C.p false (.sl (bytesI x5).length ((bytesI x5).flatMap e_u8))))) 40 (si ((bytesI x5).length : Int))) 41 (si 0)), []⟩) (fun kv st => kv ≤ qj0 ∧ ∃ (x22 : Int) (x23 : Int), chars_Number.l3 kv x22 x23 v2 x5 = some r ∧ st = ⟨78, (upd 78 (upd 78 (upd 78 (upd 78 (upd 78 (upd 78 topF 4 (sb (v2 == 45))) 6 (sc (.int .u64 x22))) 7 (sb (decide ((x5.size : Int) > 19)))) 39 (D.one (C.p false (.sl (bytesI x5).length ((bytesI x5).flatMap e_u8))))) 40 (si ((bytesI x5).length : Int))) 41 (si x23)), []⟩) (k := qj0) (wg 0 [] [] hx (le_upd (le_upd (le_upd (le_upd (le_upd (le_upd (le_top _) (o1 .sc)) (o1 .sc)) (o1 .sc)) (o1 .same)) (o1 .sc)) (o1 .sc)) an) ⟨Nat.le_refl _, 0, 0, h, rfl⟩ ?_
      rintro ql3 st ⟨hkl3, x22, x23, h, rfl⟩
      cases ql3 with
      | zero => exact absurd h (by simp [chars_Number.l3])
      | succ ql3 =>
       replace h := (chars_Number.l3.eq_2 _ _ _ _ _).symm.trans h
       refine AW.seq (AW.region ?_)
       refine s_binI (v := (.bool (decide (x23 < ((bytesI x5).length : Int))))) rfl rfl rfl (AWops.nil (AW.seq ?_))
       rcases itH h with ⟨c24, h⟩ | ⟨c24, h⟩
       ·refine AW.cond_yes rfl c24 (AW.skip (AW.seq (AW.block (AW.seq (AW.region ?_)))))
        obtain ⟨v25, ev25, h⟩ := bnd h
        obtain ⟨pv25, qv25, gv25⟩ := rd_some ev25
        refine s_indexImm (ps := [P.v (.int .u8 v25)]) F.u_59 F.sz_5 rfl rfl pv25 qv25 (flat_at e_u8_len gv25 (e_u8_eq v25)) (s_load1 (c' := (C.p true (.v (.int .u8 v25)))) F.ag_5 rfl rfl (s_assign (d := (sc (.int .u8 v25))) rfl (AWops.nil (AW.seq (AW.seq (AW.region (s_move (d := (sc (.int .u8 v25))) rfl (s_binI (v := (.bool (decide (v25 < 48)))) rfl rfl rfl (s_move (d := (sb (decide (v25 < 48)))) rfl ?_)))))))))
        rcases itH h with ⟨c26, h⟩ | ⟨c26, h⟩
        ·refine AWops.guard_no rfl (nl rfl) rfl c26 ?_
         refine AWops.guard_no rfl (nl rfl) rfl c26 ?_
         refine s_pick_yes (d := (sb true)) rfl c26 rfl (AWops.nil ?_)
         refine AW.cond_yes rfl rfl (AW.seq (AW.region ?_))
         refine s_assign (d := (si 0)) rfl (s_assign (d := (si 5)) rfl (AWops.nil (AW.ret ?_)))
         obtain rfl := Option.some.inj h
         exact ⟨_, rfl, (wg 0 [] [] rfl (le_upd (le_top _) (DLe.tup (ac (TLe.one .sc) (ac (TLe.one .sc) an)))) an)⟩
        ·refine AWops.guard_yes rfl (nl rfl) rfl c26 ?_
         refine s_move (d := (sc (.int .u8 v25))) rfl ?_
         refine AWops.guard_yes rfl (nl rfl) rfl c26 ?_
         refine s_binI (v := (.bool (decide (v25 > 57)))) rfl rfl rfl (s_pick_no (d := (sb (decide (v25 > 57)))) rfl c26 rfl (AWops.nil ?_))
         rcases itH h with ⟨c27, h⟩ | ⟨c27, h⟩
         ·refine AW.cond_yes rfl c27 (AW.seq (AW.region ?_))
          refine s_assign (d := (si 0)) rfl (s_assign (d := (si 5)) rfl (AWops.nil (AW.ret ?_)))
          obtain rfl := Option.some.inj h
          exact ⟨_, rfl, (wg 0 [] [] rfl (le_upd (le_top _) (DLe.tup (ac (TLe.one .sc) (ac (TLe.one .sc) an)))) an)⟩
         ·refine AW.cond_no rfl c27 (AW.skip (AW.seq (AW.region ?_)))
          refine s_move (d := (sb (decide ((x5.size : Int) > 19)))) rfl (s_not rfl (AWops.nil ?_))
          rcases itH h with ⟨c28, h⟩ | ⟨c28, h⟩
          ·refine AW.cond_no rfl (by rw [c28] <;> rfl) (AW.skip (AW.region ?_))
           refine s_binI (v := (.int .i64 (IntKind.i64.wrap (x23 + 1)))) rfl rfl rfl (s_move (d := (si (IntKind.i64.wrap (x23 + 1)))) rfl (AWops.nil ?_))
           exact ⟨_, ⟨78, (upd 78 (upd 78 (upd 78 (upd 78 (upd 78 (upd 78 topF 4 (sb (v2 == 45))) 6 (sc (.int .u64 x22))) 7 (sb (decide ((x5.size : Int) > 19)))) 39 (D.one (C.p false (.sl (bytesI x5).length ((bytesI x5).flatMap e_u8))))) 40 (si ((bytesI x5).length : Int))) 41 (si (IntKind.i64.wrap (x23 + 1)))), []⟩, by omega, (wg 0 [] [] hx (le_upd (le_upd (le_upd (le_upd (le_upd (le_upd (le_top _) (o1 .sc)) (o1 .sc)) (o1 .sc)) (o1 .same)) (o1 .sc)) (o1 .sc)) an), by omega, x22, IntKind.i64.wrap (x23 + 1), h, rfl⟩
          ·refine AW.cond_yes rfl (by rw [c28] <;> rfl) (AW.region ?_)
           refine s_move (d := (sc (.int .u64 x22))) rfl (s_binI (v := (.int .u64 (IntKind.u64.wrap (10 * x22)))) rfl rfl rfl (s_move (d := (sc (.int .u8 v25))) rfl (s_binI (v := (.int .u8 (IntKind.u8.wrap (v25 - 48)))) rfl rfl rfl (s_convI F.u_5 F.u_73 rfl (s_binI (v := (.int .u64 (IntKind.u64.wrap ((IntKind.u64.wrap (10 * x22)) + (IntKind.u64.wrap (IntKind.u8.wrap (v25 - 48))))))) rfl rfl rfl ?_)))))
           refine s_assign (d := (sc (.int .u64 (IntKind.u64.wrap ((IntKind.u64.wrap (10 * x22)) + (IntKind.u64.wrap (IntKind.u8.wrap (v25 - 48)))))))) rfl (AWops.nil (AW.region ?_))
           refine s_binI (v := (.int .i64 (IntKind.i64.wrap (x23 + 1)))) rfl rfl rfl (s_move (d := (si (IntKind.i64.wrap (x23 + 1)))) rfl (AWops.nil ?_))
           exact ⟨_, ⟨78, (upd 78 (upd 78 (upd 78 (upd 78 (upd 78 (upd 78 topF 4 (sb (v2 == 45))) 6 (sc (.int .u64 (IntKind.u64.wrap ((IntKind.u64.wrap (10 * x22)) + (IntKind.u64.wrap (IntKind.u8.wrap (v25 - 48)))))))) 7 (sb (decide ((x5.size : Int) > 19)))) 39 (D.one (C.p false (.sl (bytesI x5).length ((bytesI x5).flatMap e_u8))))) 40 (si ((bytesI x5).length : Int))) 41 (si (IntKind.i64.wrap (x23 + 1)))), []⟩, by omega, (wg 0 [] [] hx (le_upd (le_upd (le_upd (le_upd (le_upd (le_upd (le_top _) (o1 .sc)) (o1 .sc)) (o1 .sc)) (o1 .same)) (o1 .sc)) (o1 .sc)) an), by omega, IntKind.u64.wrap ((IntKind.u64.wrap (10 * x22)) + (IntKind.u64.wrap (IntKind.u8.wrap (v25 - 48)))), IntKind.i64.wrap (x23 + 1), h, rfl⟩
       ·refine AW.cond_no rfl c24 (AW.exit (AW.seq (AW.region ?_)))
        refine s_assign (d := (sc (.int .u64 9223372036854775808))) rfl (AWops.nil ?_)
        refine AW.seqJ (fun st => ∃ (x30 : Int), chars_Number.j4 ql3 x30 v2 x5 x22 = some r ∧ st = ⟨78, (upd 78 (upd 78 (upd 78 (upd 78 topF 4 (sb (v2 == 45))) 6 (sc (.int .u64 x22))) 7 (sb (decide ((x5.size : Int) > 19)))) 10 (sc (.int .u64 x30))), []⟩) ?_ ?_
        ·refine AW.seq (AW.region ?_)
         refine s_move (d := (sb (v2 == 45))) rfl (s_not rfl (AWops.nil ?_))
         rcases itH h with ⟨c29, h⟩ | ⟨c29, h⟩
         ·refine AW.cond_no rfl (by rw [c29] <;> rfl) (AW.skip ?_)
          exact ⟨⟨78, (upd 78 (upd 78 (upd 78 (upd 78 topF 4 (sb (v2 == 45))) 6 (sc (.int .u64 x22))) 7 (sb (decide ((x5.size : Int) > 19)))) 10 (sc (.int .u64 9223372036854775808))), []⟩, (wg 0 [] [] hx (le_upd (le_upd (le_upd (le_upd (le_top _) (o1 .sc)) (o1 .sc)) (o1 .sc)) (o1 .sc)) an), 9223372036854775808, h, rfl⟩
         ·refine AW.cond_yes rfl (by rw [c29] <;> rfl) (AW.region ?_)
          refine s_move (d := (sc (.int .u64 9223372036854775808))) rfl (s_binI (v := (.int .u64 9223372036854775807)) rfl rfl (by rfl) (s_assign (d := (sc (.int .u64 9223372036854775807))) rfl (AWops.nil ?_)))
          exact ⟨⟨78, (upd 78 (upd 78 (upd 78 (upd 78 topF 4 (sb (v2 == 45))) 6 (sc (.int .u64 x22))) 7 (sb (decide ((x5.size : Int) > 19)))) 10 (sc (.int .u64 9223372036854775807))), []⟩, (wg 0 [] [] hx (le_upd (le_upd (le_upd (le_upd (le_top _) (o1 .sc)) (o1 .sc)) (o1 .sc)) (o1 .sc)) an), 9223372036854775807, h, rfl⟩
        ·rintro st ⟨x30, h, rfl⟩
         cases ql3 with
         | zero => exact absurd h (by simp [chars_Number.j4])
         | succ qj4 =>
          replace h := (chars_Number.j4.eq_2 _ _ _ _ _).symm.trans h
          refine AW.seq (AW.block (AW.seq (AW.region ?_)))
          refine s_move (d := (sb (decide ((x5.size : Int) > 19)))) rfl (s_move (d := (sb (decide ((x5.size : Int) > 19)))) rfl ?_)
          rcases itH h with ⟨c31, h⟩ | ⟨c31, h⟩
          ·iterate 3 refine AWops.guard_no rfl (nl rfl) rfl c31 ?_
           refine s_pick_yes (d := (sb true)) rfl c31 rfl (s_assign (d := (sb true)) rfl (AWops.nil ?_))
           refine AW.cond_yes rfl rfl (AW.seq (AW.region ?_))
           refine s_assign (d := (si 0)) rfl (s_assign (d := (si 4)) rfl (AWops.nil (AW.ret ?_)))
           obtain rfl := Option.some.inj h
           exact ⟨_, rfl, (wg 0 [] [] rfl (le_upd (le_top _) (DLe.tup (ac (TLe.one .sc) (ac (TLe.one .sc) an)))) an)⟩
          ·refine AWops.guard_yes rfl (nl rfl) rfl c31 ?_
           refine s_move (d := (sc (.int .u64 x22))) rfl ?_
           refine AWops.guard_yes rfl (nl rfl) rfl c31 ?_
           refine s_move (d := (sc (.int .u64 x30))) rfl ?_
           refine AWops.guard_yes rfl (nl rfl) rfl c31 ?_
           refine s_binI (v := (.bool (decide (x22 > x30)))) rfl rfl rfl (s_pick_no (d := (sb (decide (x22 > x30)))) rfl c31 rfl (s_assign (d := (sb (decide (x22 > x30)))) rfl (AWops.nil ?_)))
           rcases itH h with ⟨c32, h⟩ | ⟨c32, h⟩
           ·refine AW.cond_yes rfl c32 (AW.seq (AW.region ?_))
            refine s_assign (d := (si 0)) rfl (s_assign (d := (si 4)) rfl (AWops.nil (AW.ret ?_)))
            obtain rfl := Option.some.inj h
            exact ⟨_, rfl, (wg 0 [] [] rfl (le_upd (le_top _) (DLe.tup (ac (TLe.one .sc) (ac (TLe.one .sc) an)))) an)⟩
           ·refine AW.cond_no rfl c32 (AW.seq (AW.region ?_))
            refine s_move (d := (sb (v2 == 45))) rfl (s_assign (d := (sb (v2 == 45))) rfl (AWops.nil ?_))
            rcases itH h with ⟨c33, h⟩ | ⟨c33, h⟩
            ·refine AW.cond_yes rfl c33 (AW.seq (AW.region ?_))
             refine s_move (d := (sc (.int .u64 x22))) rfl (s_convI F.u_73 F.u_3 rfl (s_unI (v := (.int .i64 (IntKind.i64.wrap (0 - (IntKind.i64.wrap x22))))) rfl rfl (s_assign (d := (si (IntKind.i64.wrap (0 - (IntKind.i64.wrap x22))))) rfl (s_assign (d := (si 0)) rfl (AWops.nil (AW.ret ?_))))))
             obtain rfl := Option.some.inj h
             exact ⟨_, rfl, (wg 0 [] [] rfl (le_upd (le_top _) (DLe.tup (ac (TLe.one .sc) (ac (TLe.one .sc) an)))) an)⟩
            ·refine AW.cond_no rfl c33 (AW.skip (AW.seq (AW.region ?_)))
             refine s_move (d := (sc (.int .u64 x22))) rfl (s_convI F.u_73 F.u_3 rfl (s_assign (d := (si (IntKind.i64.wrap x22))) rfl (s_assign (d := (si 0)) rfl (AWops.nil (AW.ret ?_)))))
             obtain rfl := Option.some.inj h
             exact ⟨_, rfl, (wg 0 [] [] rfl (le_upd (le_top _) (DLe.tup (ac (TLe.one .sc) (ac (TLe.one .sc) an)))) an)⟩
 ·iterate 3 refine AWops.guard_no rfl (nl rfl) rfl c1 ?_
  refine s_pick_no (d := (sb false)) rfl c1 rfl (s_assign (d := (sb false)) rfl (AWops.nil (AW.seq (AW.region (s_move (d := (st_ a0)) rfl (s_assign (d := (st_ a0)) rfl (AWops.nil (AW.seq (AW.seq (AW.region (s_move (d := (sb false)) rfl (AWops.nil ?_))))))))))))
  refine AW.cond_no rfl rfl (AW.skip (AW.seq (AW.seq (AW.region ?_))))
  refine s_move (d := (st_ a0)) rfl (s_binS (v := (.bool (a0.toList == (⟨#[]⟩ : ByteArray).toList))) rfl rfl rfl (s_move (d := (sb (a0.toList == (⟨#[]⟩ : ByteArray).toList))) rfl ?_))
  rcases itH h with ⟨c34, h⟩ | ⟨c34, h⟩
  ·iterate 4 refine AWops.guard_no rfl (nl rfl) rfl c34 ?_
   iterate 3 refine AWops.guard_undef rfl rfl ?_
   refine AWops.guard_no rfl (nl rfl) rfl c34 ?_
   refine s_pick_yes (d := (sb true)) rfl c34 rfl (AWops.nil ?_)
   refine AW.cond_yes rfl rfl (AW.seq (AW.region ?_))
   refine s_assign (d := (si 0)) rfl (s_assign (d := (si 5)) rfl (AWops.nil (AW.ret ?_)))
   obtain rfl := Option.some.inj h
   exact ⟨_, rfl, (wg 0 [] [] rfl (le_upd (le_top _) (DLe.tup (ac (TLe.one .sc) (ac (TLe.one .sc) an)))) an)⟩
  ·refine AWops.guard_yes rfl (nl rfl) rfl c34 ?_
   refine s_move (d := (st_ a0)) rfl ?_
   refine AWops.guard_yes rfl (nl rfl) rfl c34 ?_
   obtain ⟨v35, ev35, h⟩ := bnd h
   obtain ⟨pv35, bv35, gv35, rfl⟩ := bt_some ev35
   refine s_indexStr F.u_9 rfl rfl pv35 gv35 ?_
   generalize hzv35 : ((bv35.toNat : Nat) : Int) = v35 at *
   refine AWops.guard_yes rfl (nl rfl) rfl c34 ?_
   refine s_binI (v := (.bool (v35 == 48))) rfl rfl rfl ?_
   refine AWops.guard_yes rfl (nl rfl) rfl c34 ?_
   refine s_move (d := (sb (v35 == 48))) rfl ?_
   rcases itH h with ⟨c36, h⟩ | ⟨c36, h⟩
   ·refine AWops.guard_yes rfl (nl rfl) rfl c36 ?_
    refine s_move (d := (st_ a0)) rfl ?_
    refine AWops.guard_yes rfl (nl rfl) rfl c36 ?_
    refine s_len (n := a0.size) F.u_9 rfl (.inl ⟨⟨_, _, rfl⟩, rfl⟩) ?_
    refine AWops.guard_yes rfl (nl rfl) rfl c36 ?_
    refine s_binI (v := (.bool (decide ((a0.size : Int) > 1)))) rfl rfl rfl ?_
    refine AWops.guard_yes rfl (nl rfl) rfl c34 ?_
    refine s_pick_yes (d := (sb (decide ((a0.size : Int) > 1)))) rfl c36 rfl (s_pick_no (d := (sb (decide ((a0.size : Int) > 1)))) rfl c34 rfl (AWops.nil ?_))
    rcases itH h with ⟨c37, h⟩ | ⟨c37, h⟩
    ·refine AW.cond_yes rfl c37 (AW.seq (AW.region ?_))
     refine s_assign (d := (si 0)) rfl (s_assign (d := (si 5)) rfl (AWops.nil (AW.ret ?_)))
     obtain rfl := Option.some.inj h
     exact ⟨_, rfl, (wg 0 [] [] rfl (le_upd (le_top _) (DLe.tup (ac (TLe.one .sc) (ac (TLe.one .sc) an)))) an)⟩
    ·refine AW.cond_no rfl c37 (AW.skip (AW.seq (AW.region ?_)))
     refine s_assign (d := (sc (.int .u64 0))) rfl (AWops.nil (AW.seq (AW.region ?_)))
     refine s_move (d := (st_ a0)) rfl (s_len (n := a0.size) F.u_9 rfl (.inl ⟨⟨_, _, rfl⟩, rfl⟩) (s_binI (v := (.bool (decide ((a0.size : Int) > 19)))) rfl rfl rfl (s_assign (d := (sb (decide ((a0.size : Int) > 19)))) rfl (AWops.nil (AW.seq (AW.seq (AW.region (s_move (d := (st_ a0)) rfl (t_ofStr F.u_9 F.u_59 F.u_5 rfl ?_)))))))))
     refine s_len (n := (bytesI a0).length) F.u_59 rfl (.inr ⟨(fun _ _ h => by cases h), ⟨_, rfl⟩⟩) (s_move (d := (si 0)) rfl (AWops.nil (AW.block ?_)))
     refine AW.loopw (st0 := ⟨78, (upd 78 (upd 78 (upd 78 (upd 78 (upd 78 (upd 78 topF 4 (sb false)) 6 (sc (.int .u64 0))) 7 (sb (decide ((a0.size : Int) > 19)))) 39 (D.one (C.p false (.sl (bytesI a0).length ((bytesI a0).flatMap e_u8))))) 40 (si ((bytesI a0).length : Int))) 41 (si 0)), []⟩) (fun kv st => kv ≤ k ∧ ∃ (x38 : Int) (x39 : Int), chars_Number.l5 kv x38 x39 a0 = some r ∧ st = ⟨78, (upd 78 (upd 78 (upd 78 (upd 78 (upd 78 (upd 78 topF 4 (sb false)) 6 (sc (.int .u64 x38))) 7 (sb (decide ((a0.size : Int) > 19)))) 39 (D.one (C.p false (.sl (bytesI a0).length ((bytesI a0).flatMap e_u8))))) 40 (si ((bytesI a0).length : Int))) 41 (si x39)), []⟩) (k := k) (wg 0 [] [] hx (le_upd (le_upd (le_upd (le_upd (le_upd (le_upd (le_top _) (o1 .sc)) (o1 .sc)) (o1 .sc)) (o1 .same)) (o1 .sc)) (o1 .sc)) an) ⟨Nat.le_refl _, 0, 0, h, rfl⟩ ?_
     rintro ql5 st ⟨hkl5, x38, x39, h, rfl⟩
     cases ql5 with
     | zero => exact absurd h (by simp [chars_Number.l5])
     | succ ql5 =>
      replace h := (chars_Number.l5.eq_2 _ _ _ _).symm.trans h
      refine AW.seq (AW.region ?_)
      refine s_binI (v := (.bool (decide (x39 < ((bytesI a0).length : Int))))) rfl rfl rfl (AWops.nil (AW.seq ?_))
      rcases itH h with ⟨c40, h⟩ | ⟨c40, h⟩
      ·refine AW.cond_yes rfl c40 (AW.skip (AW.seq (AW.block (AW.seq (AW.region ?_)))))
       obtain ⟨v41, ev41, h⟩ := bnd h
       obtain ⟨pv41, qv41, gv41⟩ := rd_some ev41
       refine s_indexImm (ps := [P.v (.int .u8 v41)]) F.u_59 F.sz_5 rfl rfl pv41 qv41 (flat_at e_u8_len gv41 (e_u8_eq v41)) (s_load1 (c' := (C.p true (.v (.int .u8 v41)))) F.ag_5 rfl rfl (s_assign (d := (sc (.int .u8 v41))) rfl (AWops.nil (AW.seq (AW.seq (AW.region (s_move (d := (sc (.int .u8 v41))) rfl (s_binI (v := (.bool (decide (v41 < 48)))) rfl rfl rfl (s_move (d := (sb (decide (v41 < 48)))) rfl ?_)))))))))
       rcases itH h with ⟨c42, h⟩ | ⟨c42, h⟩
       ·refine AWops.guard_no rfl (nl rfl) rfl c42 ?_
        refine AWops.guard_no rfl (nl rfl) rfl c42 ?_
        refine s_pick_yes (d := (sb true)) rfl c42 rfl (AWops.nil ?_)
        refine AW.cond_yes rfl rfl (AW.seq (AW.region ?_))
        refine s_assign (d := (si 0)) rfl (s_assign (d := (si 5)) rfl (AWops.nil (AW.ret ?_)))
        obtain rfl := Option.some.inj h
        exact ⟨_, rfl, (wg 0 [] [] rfl (le_upd (le_top _) (DLe.tup (ac (TLe.one .sc) (ac (TLe.one .sc) an)))) an)⟩
       ·refine AWops.guard_yes rfl (nl rfl) rfl c42 ?_
        refine s_move (d := (sc (.int .u8 v41))) rfl ?_
        refine AWops.guard_yes rfl (nl rfl) rfl c42 ?_
        refine s_binI (v := (.bool (decide (v41 > 57)))) rfl rfl rfl (s_pick_no (d := (sb (decide (v41 > 57)))) rfl c42 rfl (AWops.nil ?_))
        rcases itH h with ⟨c43, h⟩ | ⟨c43, h⟩
        ·refine AW.cond_yes rfl c43 (AW.seq (AW.region ?_))
         refine s_assign (d := (si 0)) rfl (s_assign (d := (si 5)) rfl (AWops.nil (AW.ret ?_)))
         obtain rfl := Option.some.inj h
         exact ⟨_, rfl, (wg 0 [] [] rfl (le_upd (le_top _) (DLe.tup (ac (TLe.one .sc) (ac (TLe.one .sc) an)))) an)⟩
        ·refine AW.cond_no rfl c43 (AW.skip (AW.seq (AW.region ?_)))
         refine s_move (d := (sb (decide ((a0.size : Int) > 19)))) rfl (s_not rfl (AWops.nil ?_))
         rcases itH h with ⟨c44, h⟩ | ⟨c44, h⟩
         ·refine AW.cond_no rfl (by rw [c44] <;> rfl) (AW.skip (AW.region ?_))
          refine s_binI (v := (.int .i64 (IntKind.i64.wrap (x39 + 1)))) rfl rfl rfl (s_move (d := (si (IntKind.i64.wrap (x39 + 1)))) rfl (AWops.nil ?_))
          exact ⟨_, ⟨78, (upd 78 (upd 78 (upd 78 (upd 78 (upd 78 (upd 78 topF 4 (sb false)) 6 (sc (.int .u64 x38))) 7 (sb (decide ((a0.size : Int) > 19)))) 39 (D.one (C.p false (.sl (bytesI a0).length ((bytesI a0).flatMap e_u8))))) 40 (si ((bytesI a0).length : Int))) 41 (si (IntKind.i64.wrap (x39 + 1)))), []⟩, by omega, (wg 0 [] [] hx (le_upd (le_upd (le_upd (le_upd (le_upd (le_upd (le_top _) (o1 .sc)) (o1 .sc)) (o1 .sc)) (o1 .same)) (o1 .sc)) (o1 .sc)) an), by omega, x38, IntKind.i64.wrap (x39 + 1), h, rfl⟩
         ·refine AW.cond_yes rfl (by rw [c44] <;> rfl) (AW.region ?_)
          refine s_move (d := (sc (.int .u64 x38))) rfl (s_binI (v := (.int .u64 (IntKind.u64.wrap (10 * x38)))) rfl rfl rfl (s_move (d := (sc (.int .u8 v41))) rfl (s_binI (v := (.int .u8 (IntKind.u8.wrap (v41 - 48)))) rfl rfl rfl (s_convI F.u_5 F.u_73 rfl (s_binI (v := (.int .u64 (IntKind.u64.wrap ((IntKind.u64.wrap (10 * x38)) + (IntKind.u64.wrap (IntKind.u8.wrap (v41 - 48))))))) rfl rfl rfl ?_)))))
          refine s_assign (d := (sc (.int .u64 (IntKind.u64.wrap ((IntKind.u64.wrap (10 * x38)) + (IntKind.u64.wrap (IntKind.u8.wrap (v41 - 48)))))))) rfl (AWops.nil (AW.region ?_))
          refine s_binI (v := (.int .i64 (IntKind.i64.wrap (x39 + 1)))) rfl rfl rfl (s_move (d := (si (IntKind.i64.wrap (x39 + 1)))) rfl (AWops.nil ?_))
          exact ⟨_, ⟨78, (upd 78 (upd 78 (upd 78 (upd 78 (upd 78 (upd 78 topF 4 (sb false)) 6 (sc (.int .u64 (IntKind.u64.wrap ((IntKind.u64.wrap (10 * x38)) + (IntKind.u64.wrap (IntKind.u8.wrap (v41 - 48)))))))) 7 (sb (decide ((a0.size : Int) > 19)))) 39 (D.one (C.p false (.sl (bytesI a0).length ((bytesI a0).flatMap e_u8))))) 40 (si ((bytesI a0).length : Int))) 41 (si (IntKind.i64.wrap (x39 + 1)))), []⟩, by omega, (wg 0 [] [] hx (le_upd (le_upd (le_upd (le_upd (le_upd (le_upd (le_top _) (o1 .sc)) (o1 .sc)) (o1 .sc)) (o1 .same)) (o1 .sc)) (o1 .sc)) an), by omega, IntKind.u64.wrap ((IntKind.u64.wrap (10 * x38)) + (IntKind.u64.wrap (IntKind.u8.wrap (v41 - 48)))), IntKind.i64.wrap (x39 + 1), h, rfl⟩
      ·refine AW.cond_no rfl c40 (AW.exit (AW.seq (AW.region ?_)))
       refine s_assign (d := (sc (.int .u64 9223372036854775808))) rfl (AWops.nil (AW.seq (AW.seq (AW.region ?_))))
       refine s_move (d := (sb false)) rfl (s_not rfl (AWops.nil ?_))
       refine AW.cond_yes rfl rfl (AW.region ?_)
       refine s_move (d := (sc (.int .u64 9223372036854775808))) rfl (s_binI (v := (.int .u64 9223372036854775807)) rfl rfl (by rfl) (s_assign (d := (sc (.int .u64 9223372036854775807))) rfl (AWops.nil (AW.seq (AW.block (AW.seq (AW.region (s_move (d := (sb (decide ((a0.size : Int) > 19)))) rfl (s_move (d := (sb (decide ((a0.size : Int) > 19)))) rfl ?_)))))))))
       rcases itH h with ⟨c45, h⟩ | ⟨c45, h⟩
       ·iterate 3 refine AWops.guard_no rfl (nl rfl) rfl c45 ?_
        refine s_pick_yes (d := (sb true)) rfl c45 rfl (s_assign (d := (sb true)) rfl (AWops.nil ?_))
        refine AW.cond_yes rfl rfl (AW.seq (AW.region ?_))
        refine s_assign (d := (si 0)) rfl (s_assign (d := (si 4)) rfl (AWops.nil (AW.ret ?_)))
        obtain rfl := Option.some.inj h
        exact ⟨_, rfl, (wg 0 [] [] rfl (le_upd (le_top _) (DLe.tup (ac (TLe.one .sc) (ac (TLe.one .sc) an)))) an)⟩
       ·refine AWops.guard_yes rfl (nl rfl) rfl c45 ?_
        refine s_move (d := (sc (.int .u64 x38))) rfl ?_
        refine AWops.guard_yes rfl (nl rfl) rfl c45 ?_
        refine s_move (d := (sc (.int .u64 9223372036854775807))) rfl ?_
        refine AWops.guard_yes rfl (nl rfl) rfl c45 ?_
        refine s_binI (v := (.bool (decide (x38 > 9223372036854775807)))) rfl rfl rfl (s_pick_no (d := (sb (decide (x38 > 9223372036854775807)))) rfl c45 rfl (s_assign (d := (sb (decide (x38 > 9223372036854775807)))) rfl (AWops.nil ?_)))
        rcases itH h with ⟨c46, h⟩ | ⟨c46, h⟩
        ·refine AW.cond_yes rfl c46 (AW.seq (AW.region ?_))
         refine s_assign (d := (si 0)) rfl (s_assign (d := (si 4)) rfl (AWops.nil (AW.ret ?_)))
         obtain rfl := Option.some.inj h
         exact ⟨_, rfl, (wg 0 [] [] rfl (le_upd (le_top _) (DLe.tup (ac (TLe.one .sc) (ac (TLe.one .sc) an)))) an)⟩
        ·refine AW.cond_no rfl c46 (AW.seq (AW.region ?_))
         refine s_move (d := (sb false)) rfl (s_assign (d := (sb false)) rfl (AWops.nil ?_))
         refine AW.cond_no rfl rfl (AW.skip (AW.seq (AW.region ?_)))
         refine s_move (d := (sc (.int .u64 x38))) rfl (s_convI F.u_73 F.u_3 rfl (s_assign (d := (si (IntKind.i64.wrap x38))) rfl (s_assign (d := (si 0)) rfl (AWops.nil (AW.ret ?_)))))
         obtain rfl := Option.some.inj h
         exact ⟨_, rfl, (wg 0 [] [] rfl (le_upd (le_top _) (DLe.tup (ac (TLe.one .sc) (ac (TLe.one .sc) an)))) an)⟩
   ·iterate 3 refine AWops.guard_no rfl (nl rfl) rfl c36 ?_
    refine AWops.guard_yes rfl (nl rfl) rfl c34 ?_
    refine s_pick_no (d := (sb false)) rfl c36 rfl (s_pick_no (d := (sb false)) rfl c34 rfl (AWops.nil ?_))
    refine AW.cond_no rfl rfl (AW.skip (AW.seq (AW.region ?_)))
    refine s_assign (d := (sc (.int .u64 0))) rfl (AWops.nil (AW.seq (AW.region ?_)))
    refine s_move (d := (st_ a0)) rfl (s_len (n := a0.size) F.u_9 rfl (.inl ⟨⟨_, _, rfl⟩, rfl⟩) (s_binI (v := (.bool (decide ((a0.size : Int) > 19)))) rfl rfl rfl (s_assign (d := (sb (decide ((a0.size : Int) > 19)))) rfl (AWops.nil (AW.seq (AW.seq (AW.region (s_move (d := (st_ a0)) rfl (t_ofStr F.u_9 F.u_59 F.u_5 rfl ?_)))))))))
    refine s_len (n := (bytesI a0).length) F.u_59 rfl (.inr ⟨(fun _ _ h => by cases h), ⟨_, rfl⟩⟩) (s_move (d := (si 0)) rfl (AWops.nil (AW.block ?_)))
    refine AW.loopw (st0 := ⟨78, (upd 78 (upd 78 (upd 78 (upd 78 (upd 78 (upd 78 topF 4 (sb false)) 6 (sc (.int .u64 0))) 7 (sb (decide ((a0.size : Int) > 19)))) 39 (D.one (C.p false (.sl (bytesI a0).length ((bytesI a0).flatMap e_u8))))) 40 (si ((bytesI a0).length : Int))) 41 (si 0)), []⟩) (fun kv st => kv ≤ k ∧ ∃ (x47 : Int) (x48 : Int), chars_Number.l6 kv x47 x48 a0 = some r ∧ st = ⟨78, (upd 78 (upd 78 (upd 78 (upd 78 (upd 78 (upd 78 topF 4 (sb false)) 6 (sc (.int .u64 x47))) 7 (sb (decide ((a0.size : Int) > 19)))) 39 (D.one (C.p false (.sl (bytesI a0).length ((bytesI a0).flatMap e_u8))))) 40 (si ((bytesI a0).length : Int))) 41 (si x48)), []⟩) (k := k) (wg 0 [] [] hx (le_upd (le_upd (le_upd (le_upd (le_upd (le_upd (le_top _) (o1 .sc)) (o1 .sc)) (o1 .sc)) (o1 .same)) (o1 .sc)) (o1 .sc)) an) ⟨Nat.le_refl _, 0, 0, h, rfl⟩ ?_
    rintro ql6 st ⟨hkl6, x47, x48, h, rfl⟩
    cases ql6 with
    | zero => exact absurd h (by simp [chars_Number.l6])
    | succ ql6 =>
     replace h := (chars_Number.l6.eq_2 _ _ _ _).symm.trans h
     refine AW.seq (AW.region ?_)
     refine s_binI (v := (.bool (decide (x48 < ((bytesI a0).length : Int))))) rfl rfl rfl (AWops.nil (AW.seq ?_))
     rcases itH h with ⟨c49, h⟩ | ⟨c49, h⟩
     ·refine AW.cond_yes rfl c49 (AW.skip (AW.seq (AW.block (AW.seq (AW.region ?_)))))
      obtain ⟨v50, ev50, h⟩ := bnd h
      obtain ⟨pv50, qv50, gv50⟩ := rd_some ev50
      refine s_indexImm (ps := [P.v (.int .u8 v50)]) F.u_59 F.sz_5 rfl rfl pv50 qv50 (flat_at e_u8_len gv50 (e_u8_eq v50)) (s_load1 (c' := (C.p true (.v (.int .u8 v50)))) F.ag_5 rfl rfl (s_assign (d := (sc (.int .u8 v50))) rfl (AWops.nil (AW.seq (AW.seq (AW.region (s_move (d := (sc (.int .u8 v50))) rfl (s_binI (v := (.bool (decide (v50 < 48)))) rfl rfl rfl (s_move (d := (sb (decide (v50 < 48)))) rfl ?_)))))))))
      rcases itH h with ⟨c51, h⟩ | ⟨c51, h⟩
      ·refine AWops.guard_no rfl (nl rfl) rfl c51 ?_
       refine AWops.guard_no rfl (nl rfl) rfl c51 ?_
       refine s_pick_yes (d := (sb true)) rfl c51 rfl (AWops.nil ?_)
       refine AW.cond_yes rfl rfl (AW.seq (AW.region ?_))
       refine s_assign (d := (si 0)) rfl (s_assign (d := (si 5)) rfl (AWops.nil (AW.ret ?_)))
       obtain rfl := Option.some.inj h
       exact ⟨_, rfl, (wg 0 [] [] rfl (le_upd (le_top _) (DLe.tup (ac (TLe.one .sc) (ac (TLe.one .sc) an)))) an)⟩
      ·refine AWops.guard_yes rfl (nl rfl) rfl c51 ?_
       refine s_move (d := (sc (.int .u8 v50))) rfl ?_
       refine AWops.guard_yes rfl (nl rfl) rfl c51 ?_
       refine s_binI (v := (.bool (decide (v50 > 57)))) rfl rfl rfl (s_pick_no (d := (sb (decide (v50 > 57)))) rfl c51 rfl (AWops.nil ?_))
       rcases itH h with ⟨c52, h⟩ | ⟨c52, h⟩
       ·refine AW.cond_yes rfl c52 (AW.seq (AW.region ?_))
        refine s_assign (d := (si 0)) rfl (s_assign (d := (si 5)) rfl (AWops.nil (AW.ret ?_)))
        obtain rfl := Option.some.inj h
        exact ⟨_, rfl, (wg 0 [] [] rfl (le_upd (le_top _) (DLe.tup (ac (TLe.one .sc) (ac (TLe.one .sc) an)))) an)⟩
       ·refine AW.cond_no rfl c52 (AW.skip (AW.seq (AW.region ?_)))
        refine s_move (d := (sb (decide ((a0.size : Int) > 19)))) rfl (s_not rfl (AWops.nil ?_))
        rcases itH h with ⟨c53, h⟩ | ⟨c53, h⟩
        ·refine AW.cond_no rfl (by rw [c53] <;> rfl) (AW.skip (AW.region ?_))
         refine s_binI (v := (.int .i64 (IntKind.i64.wrap (x48 + 1)))) rfl rfl rfl (s_move (d := (si (IntKind.i64.wrap (x48 + 1)))) rfl (AWops.nil ?_))
         exact ⟨_, ⟨78, (upd 78 (upd 78 (upd 78 (upd 78 (upd 78 (upd 78 topF 4 (sb false)) 6 (sc (.int .u64 x47))) 7 (sb (decide ((a0.size : Int) > 19)))) 39 (D.one (C.p false (.sl (bytesI a0).length ((bytesI a0).flatMap e_u8))))) 40 (si ((bytesI a0).length : Int))) 41 (si (IntKind.i64.wrap (x48 + 1)))), []⟩, by omega, (wg 0 [] [] hx (le_upd (le_upd (le_upd (le_upd (le_upd (le_upd (le_top _) (o1 .sc)) (o1 .sc)) (o1 .sc)) (o1 .same)) (o1 .sc)) (o1 .sc)) an), by omega, x47, IntKind.i64.wrap (x48 + 1), h, rfl⟩
        ·refine AW.cond_yes rfl (by rw [c53] <;> rfl) (AW.region ?_)
         refine s_move (d := (sc (.int .u64 x47))) rfl (s_binI (v := (.int .u64 (IntKind.u64.wrap (10 * x47)))) rfl rfl rfl (s_move (d := (sc (.int .u8 v50))) rfl (s_binI (v := (.int .u8 (IntKind.u8.wrap (v50 - 48)))) rfl rfl rfl (s_convI F.u_5 F.u_73 rfl (s_binI (v := (.int .u64 (IntKind.u64.wrap ((IntKind.u64.wrap (10 * x47)) + (IntKind.u64.wrap (IntKind.u8.wrap (v50 - 48))))))) rfl rfl rfl ?_)))))
         refine s_assign (d := (sc (.int .u64 (IntKind.u64.wrap ((IntKind.u64.wrap (10 * x47)) + (IntKind.u64.wrap (IntKind.u8.wrap (v50 - 48)))))))) rfl (AWops.nil (AW.region ?_))
         refine s_binI (v := (.int .i64 (IntKind.i64.wrap (x48 + 1)))) rfl rfl rfl (s_move (d := (si (IntKind.i64.wrap (x48 + 1)))) rfl (AWops.nil ?_))
         exact ⟨_, ⟨78, (upd 78 (upd 78 (upd 78 (upd 78 (upd 78 (upd 78 topF 4 (sb false)) 6 (sc (.int .u64 (IntKind.u64.wrap ((IntKind.u64.wrap (10 * x47)) + (IntKind.u64.wrap (IntKind.u8.wrap (v50 - 48)))))))) 7 (sb (decide ((a0.size : Int) > 19)))) 39 (D.one (C.p false (.sl (bytesI a0).length ((bytesI a0).flatMap e_u8))))) 40 (si ((bytesI a0).length : Int))) 41 (si (IntKind.i64.wrap (x48 + 1)))), []⟩, by omega, (wg 0 [] [] hx (le_upd (le_upd (le_upd (le_upd (le_upd (le_upd (le_top _) (o1 .sc)) (o1 .sc)) (o1 .sc)) (o1 .same)) (o1 .sc)) (o1 .sc)) an), by omega, IntKind.u64.wrap ((IntKind.u64.wrap (10 * x47)) + (IntKind.u64.wrap (IntKind.u8.wrap (v50 - 48)))), IntKind.i64.wrap (x48 + 1), h, rfl⟩
     ·refine AW.cond_no rfl c49 (AW.exit (AW.seq (AW.region ?_)))
      refine s_assign (d := (sc (.int .u64 9223372036854775808))) rfl (AWops.nil (AW.seq (AW.seq (AW.region ?_))))
      refine s_move (d := (sb false)) rfl (s_not rfl (AWops.nil ?_))
      refine AW.cond_yes rfl rfl (AW.region ?_)
      refine s_move (d := (sc (.int .u64 9223372036854775808))) rfl (s_binI (v := (.int .u64 9223372036854775807)) rfl rfl (by rfl) (s_assign (d := (sc (.int .u64 9223372036854775807))) rfl (AWops.nil (AW.seq (AW.block (AW.seq (AW.region (s_move (d := (sb (decide ((a0.size : Int) > 19)))) rfl (s_move (d := (sb (decide ((a0.size : Int) > 19)))) rfl ?_)))))))))
      rcases itH h with ⟨c54, h⟩ | ⟨c54, h⟩
      ·iterate 3 refine AWops.guard_no rfl (nl rfl) rfl c54 ?_
       refine s_pick_yes (d := (sb true)) rfl c54 rfl (s_assign (d := (sb true)) rfl (AWops.nil ?_))
       refine AW.cond_yes rfl rfl (AW.seq (AW.region ?_))
       refine s_assign (d := (si 0)) rfl (s_assign (d := (si 4)) rfl (AWops.nil (AW.ret ?_)))
       obtain rfl := Option.some.inj h
       exact ⟨_, rfl, (wg 0 [] [] rfl (le_upd (le_top _) (DLe.tup (ac (TLe.one .sc) (ac (TLe.one .sc) an)))) an)⟩
      ·refine AWops.guard_yes rfl (nl rfl) rfl c54 ?_
       refine s_move (d := (sc (.int .u64 x47))) rfl ?_
       refine AWops.guard_yes rfl (nl rfl) rfl c54 ?_
       refine s_move (d := (sc (.int .u64 9223372036854775807))) rfl ?_
       refine AWops.guard_yes rfl (nl rfl) rfl c54 ?_
       refine s_binI (v := (.bool (decide (x47 > 9223372036854775807)))) rfl rfl rfl (s_pick_no (d := (sb (decide (x47 > 9223372036854775807)))) rfl c54 rfl (s_assign (d := (sb (decide (x47 > 9223372036854775807)))) rfl (AWops.nil ?_)))
       rcases itH h with ⟨c55, h⟩ | ⟨c55, h⟩
       ·refine AW.cond_yes rfl c55 (AW.seq (AW.region ?_))
        refine s_assign (d := (si 0)) rfl (s_assign (d := (si 4)) rfl (AWops.nil (AW.ret ?_)))
        obtain rfl := Option.some.inj h
        exact ⟨_, rfl, (wg 0 [] [] rfl (le_upd (le_top _) (DLe.tup (ac (TLe.one .sc) (ac (TLe.one .sc) an)))) an)⟩
       ·refine AW.cond_no rfl c55 (AW.seq (AW.region ?_))
        refine s_move (d := (sb false)) rfl (s_assign (d := (sb false)) rfl (AWops.nil ?_))
        refine AW.cond_no rfl rfl (AW.skip (AW.seq (AW.region ?_)))
        refine s_move (d := (sc (.int .u64 x47))) rfl (s_convI F.u_73 F.u_3 rfl (s_assign (d := (si (IntKind.i64.wrap x47))) rfl (s_assign (d := (si 0)) rfl (AWops.nil (AW.ret ?_)))))
        obtain rfl := Option.some.inj h
        exact ⟨_, rfl, (wg 0 [] [] rfl (le_upd (le_top _) (DLe.tup (ac (TLe.one .sc) (ac (TLe.one .sc) an)))) an)⟩
def strings_IndexByte.f (k : Nat) (a0 : ByteArray) (a1 : Int) : Option Int := (stringslite_IndexByte.f k a0 a1).bind fun r1 => some r1
theorem strings_IndexByte.meets (k : Nat) (a0 : ByteArray) (a1 : Int) (r : Int) (h : strings_IndexByte.f k a0 a1 = some r) : Meets Tryd.prog 77 [(st_ a0), (sc (.int .u8 a1))] [] (si r) [] := by
 unfold strings_IndexByte.f at h
 refine Meets.of_body (n := 8) Tryd.func77 rfl rfl (nl rfl) fun x hx => ?_
 replace hx : x.k = 0 := hx
 show AW _ x _ _ ⟨8, fr0 [(st_ a0), (sc (.int .u8 a1))], []⟩
 refine AW.seq (AW.region ?_)
 refine s_assign (d := (si 0)) rfl (AWops.nil (AW.seq (AW.region ?_)))
 refine s_move (d := (st_ a0)) rfl (s_move (d := (sc (.int .u8 a1))) rfl ?_)
 obtain ⟨r1, er1, h⟩ := bnd h
 refine cc [] [] (si r1) F.ca_73 rfl rfl (ac (.one .sc) (ac (.one .sc) an)) an (stringslite_IndexByte.meets _ a0 a1 r1 er1) (s_assign (d := (si r1)) rfl (AWops.nil (AW.ret ?_)))
 obtain rfl := Option.some.inj h
 exact ⟨_, rfl, (wg 0 [] [] rfl (le_upd (le_top _) (o1 .sc)) an)⟩
def lexer_is.f (k : Nat) (a0 : Int) (a1 : ByteArray) : Option Bool := (strings_IndexByte.f k a1 a0).bind fun r1 => some (decide (r1 ≥ 0))
theorem lexer_is.meets (k : Nat) (a0 : Int) (a1 : ByteArray) (r : Bool) (h : lexer_is.f k a0 a1 = some r) : Meets Tryd.prog 70 [(sc (.int .u8 a0)), (st_ a1)] [] (sb r) [] := by
 unfold lexer_is.f at h
 refine Meets.of_body (n := 9) Tryd.func70 rfl rfl (nl rfl) fun x hx => ?_
 replace hx : x.k = 0 := hx
 show AW _ x _ _ ⟨9, fr0 [(sc (.int .u8 a0)), (st_ a1)], []⟩
 refine AW.seq (AW.region ?_)
 refine s_assign (d := (sb false)) rfl (AWops.nil (AW.seq (AW.region ?_)))
 refine s_move (d := (st_ a1)) rfl (s_move (d := (sc (.int .u8 a0))) rfl ?_)
 obtain ⟨r1, er1, h⟩ := bnd h
 refine cc [] [] (si r1) F.ca_77 rfl rfl (ac (.one .sc) (ac (.one .sc) an)) an (strings_IndexByte.meets _ a1 a0 r1 er1) (s_binI (v := (.bool (decide (r1 ≥ 0)))) rfl rfl rfl (s_assign (d := (sb (decide (r1 ≥ 0)))) rfl (AWops.nil (AW.ret ?_))))
 obtain rfl := Option.some.inj h
 exact ⟨_, rfl, (wg 0 [] [] rfl (le_upd (le_top _) (o1 .sc)) an)⟩
mutual
def lexer_run.l0 : Nat → Int → ByteArray → ByteArray → Option ByteArray
 | 0, _, _, _ => none
 | k + 1, x1, a0, a1 => if (decide (x1 < (a0.size : Int))) = true then ((bt a0 x1).bind fun v3 => (lexer_is.f k v3 a1).bind fun r4 => if r4 = true then (lexer_run.l0 k (IntKind.i64.wrap (x1 + 1)) a0 a1) else (if (decide (0 ≤ 0 ∧ 0 ≤ x1 ∧ x1 ≤ (a0.size : Int))) = true then (some (a0.extract 0 x1.toNat)) else none)) else (if (decide (0 ≤ 0 ∧ 0 ≤ x1 ∧ x1 ≤ (a0.size : Int))) = true then (some (a0.extract 0 x1.toNat)) else none)
end
def lexer_run.f (k : Nat) (a0 : ByteArray) (a1 : ByteArray) : Option ByteArray := lexer_run.l0 k 0 a0 a1
theorem lexer_run.meets (k : Nat) (a0 : ByteArray) (a1 : ByteArray) (r : ByteArray) (h : lexer_run.f k a0 a1 = some r) : Meets Tryd.prog 71 [(st_ a0), (st_ a1)] [] (st_ r) [] := by
 unfold lexer_run.f at h
 refine Meets.of_body (n := 22) Tryd.func71 rfl rfl (nl rfl) fun x hx => ?_
 replace hx : x.k = 0 := hx
 show AW _ x _ _ ⟨22, fr0 [(st_ a0), (st_ a1)], []⟩
 refine AW.seq (AW.region ?_)
 refine s_assign (d := (st_ (⟨#[]⟩ : ByteArray))) rfl (AWops.nil (AW.seq (AW.region ?_)))
 refine s_assign (d := (si 0)) rfl (AWops.nil (AW.seq (AW.block ?_)))
 refine AW.loopw (st0 := ⟨22, (upd 22 (upd 22 (upd 22 topF 0 (st_ a0)) 1 (st_ a1)) 5 (si 0)), []⟩) (fun kv st => kv ≤ k ∧ ∃ (x1 : Int), lexer_run.l0 kv x1 a0 a1 = some r ∧ st = ⟨22, (upd 22 (upd 22 (upd 22 topF 0 (st_ a0)) 1 (st_ a1)) 5 (si x1)), []⟩) (k := k) (wg 0 [] [] hx (le_upd (le_upd (le_upd (le_top _) (o1 .sc)) (o1 .sc)) (o1 .sc)) an) ⟨Nat.le_refl _, 0, h, rfl⟩ ?_
 rintro ql0 st ⟨hkl0, x1, h, rfl⟩
 cases ql0 with
 | zero => exact absurd h (by simp [lexer_run.l0])
 | succ ql0 =>
  replace h := (lexer_run.l0.eq_2 _ _ _ _).symm.trans h
  refine AW.seq (AW.seq (AW.region ?_))
  refine s_move (d := (si x1)) rfl (s_move (d := (st_ a0)) rfl (s_len (n := a0.size) F.u_9 rfl (.inl ⟨⟨_, _, rfl⟩, rfl⟩) (s_binI (v := (.bool (decide (x1 < (a0.size : Int))))) rfl rfl rfl (s_move (d := (sb (decide (x1 < (a0.size : Int))))) rfl ?_))))
  rcases itH h with ⟨c2, h⟩ | ⟨c2, h⟩
  ·refine AWops.guard_yes rfl (nl rfl) rfl c2 ?_
   refine s_move (d := (st_ a0)) rfl ?_
   refine AWops.guard_yes rfl (nl rfl) rfl c2 ?_
   refine s_move (d := (si x1)) rfl ?_
   refine AWops.guard_yes rfl (nl rfl) rfl c2 ?_
   obtain ⟨v3, ev3, h⟩ := bnd h
   obtain ⟨pv3, bv3, gv3, rfl⟩ := bt_some ev3
   refine s_indexStr F.u_9 rfl rfl pv3 gv3 ?_
   generalize hzv3 : ((bv3.toNat : Nat) : Int) = v3 at *
   refine AWops.guard_yes rfl (nl rfl) rfl c2 ?_
   refine s_move (d := (st_ a1)) rfl ?_
   refine AWops.guard_yes rfl (nl rfl) rfl c2 ?_
   obtain ⟨r4, er4, h⟩ := bnd h
   refine cc [] [] (sb r4) F.ca_70 rfl rfl (ac (.one .sc) (ac (.one .sc) an)) an (lexer_is.meets _ v3 a1 r4 er4) (s_pick_yes (d := (sb r4)) rfl c2 rfl (AWops.nil ?_))
   rcases itH h with ⟨c5, h⟩ | ⟨c5, h⟩
   ·refine AW.cond_yes rfl c5 (AW.skip (AW.block (AW.region ?_)))
    refine s_move (d := (si x1)) rfl (s_binI (v := (.int .i64 (IntKind.i64.wrap (x1 + 1)))) rfl rfl rfl (s_assign (d := (si (IntKind.i64.wrap (x1 + 1)))) rfl (AWops.nil ?_)))
    exact ⟨_, ⟨22, (upd 22 (upd 22 (upd 22 topF 0 (st_ a0)) 1 (st_ a1)) 5 (si (IntKind.i64.wrap (x1 + 1)))), []⟩, by omega, (wg 0 [] [] hx (le_upd (le_upd (le_upd (le_top _) (o1 .sc)) (o1 .sc)) (o1 .sc)) an), by omega, IntKind.i64.wrap (x1 + 1), h, rfl⟩
   ·refine AW.cond_no rfl c5 (AW.exit (AW.seq (AW.region ?_)))
    refine s_move (d := (st_ a0)) rfl (s_move (d := (si x1)) rfl ?_)
    obtain ⟨c6, h⟩ := gdH h
    have dc6 := of_decide_eq_true c6
    refine s_sliceStr F.u_9 rfl .no (.yes rfl (by omega) rfl) (by omega) (by omega) (s_assign (d := (st_ (a0.extract 0 x1.toNat))) rfl (AWops.nil (AW.ret ?_)))
    obtain rfl := Option.some.inj h
    exact ⟨_, rfl, (wg 0 [] [] rfl (le_upd (le_top _) (o1 .sc)) an)⟩
  ·iterate 5 refine AWops.guard_no rfl (nl rfl) rfl c2 ?_
   refine s_pick_no (d := (sb false)) rfl c2 rfl (AWops.nil ?_)
   refine AW.cond_no rfl rfl (AW.exit (AW.seq (AW.region ?_)))
   refine s_move (d := (st_ a0)) rfl (s_move (d := (si x1)) rfl ?_)
   obtain ⟨c7, h⟩ := gdH h
   have dc7 := of_decide_eq_true c7
   refine s_sliceStr F.u_9 rfl .no (.yes rfl (by omega) rfl) (by omega) (by omega) (s_assign (d := (st_ (a0.extract 0 x1.toNat))) rfl (AWops.nil (AW.ret ?_)))
   obtain rfl := Option.some.inj h
   exact ⟨_, rfl, (wg 0 [] [] rfl (le_upd (le_top _) (o1 .sc)) an)⟩
def lexer_Plain.f (k : Nat) (a0 : ByteArray) : Option Bool := if (a0.toList == (⟨#[]⟩ : ByteArray).toList) = true then (some false) else ((bt a0 0).bind fun v2 => (lexer_is.f k v2 (⟨#[65, 66, 67, 68, 69, 70, 71, 72, 73, 74, 75, 76, 77, 78, 79, 80, 81, 82, 83, 84, 85, 86, 87, 88, 89, 90, 97, 98, 99, 100, 101, 102, 103, 104, 105, 106, 107, 108, 109, 110, 111, 112, 113, 114, 115, 116, 117, 118, 119, 120, 121, 122, 95]⟩ : ByteArray)).bind fun r3 => if r3 = true then ((lexer_run.f k a0 (⟨#[65, 66, 67, 68, 69, 70, 71, 72, 73, 74, 75, 76, 77, 78, 79, 80, 81, 82, 83, 84, 85, 86, 87, 88, 89, 90, 97, 98, 99, 100, 101, 102, 103, 104, 105, 106, 107, 108, 109, 110, 111, 112, 113, 114, 115, 116, 117, 118, 119, 120, 121, 122, 95, 48, 49, 50, 51, 52, 53, 54, 55, 56, 57]⟩ : ByteArray)).bind fun r5 => some ((r5.size : Int) == (a0.size : Int))) else (some false))
theorem lexer_Plain.meets (k : Nat) (a0 : ByteArray) (r : Bool) (h : lexer_Plain.f k a0 = some r) : Meets Tryd.prog 58 [(st_ a0)] [] (sb r) [] := by
 unfold lexer_Plain.f at h
 refine Meets.of_body (n := 18) Tryd.func58 rfl rfl (nl rfl) fun x hx => ?_
 replace hx : x.k = 0 := hx
 show AW _ x _ _ ⟨18, fr0 [(st_ a0)], []⟩
 refine AW.seq (AW.region ?_)
 refine s_assign (d := (sb false)) rfl (AWops.nil (AW.seq (AW.region ?_)))
 refine s_move (d := (st_ a0)) rfl (s_binS (v := (.bool (!(a0.toList == (⟨#[]⟩ : ByteArray).toList)))) rfl rfl rfl (s_move (d := (sb (!(a0.toList == (⟨#[]⟩ : ByteArray).toList)))) rfl ?_))
 rcases itH h with ⟨c1, h⟩ | ⟨c1, h⟩
 ·iterate 3 refine AWops.guard_no rfl (nl rfl) rfl (by rw [c1] <;> rfl) ?_
  refine s_pick_no (d := (sb false)) rfl (by rw [c1] <;> rfl) rfl (s_move (d := (sb false)) rfl ?_)
  iterate 6 refine AWops.guard_no rfl (nl rfl) rfl rfl ?_
  refine s_pick_no (d := (sb false)) rfl rfl rfl (s_assign (d := (sb false)) rfl (AWops.nil (AW.ret ?_)))
  obtain rfl := Option.some.inj h
  exact ⟨_, rfl, (wg 0 [] [] rfl (le_upd (le_top _) (o1 .sc)) an)⟩
 ·refine AWops.guard_yes rfl (nl rfl) rfl (by rw [c1] <;> rfl) ?_
  refine s_move (d := (st_ a0)) rfl ?_
  refine AWops.guard_yes rfl (nl rfl) rfl (by rw [c1] <;> rfl) ?_
  obtain ⟨v2, ev2, h⟩ := bnd h
  obtain ⟨pv2, bv2, gv2, rfl⟩ := bt_some ev2
  refine s_indexStr F.u_9 rfl rfl pv2 gv2 ?_
  generalize hzv2 : ((bv2.toNat : Nat) : Int) = v2 at *
  refine AWops.guard_yes rfl (nl rfl) rfl (by rw [c1] <;> rfl) ?_
  obtain ⟨r3, er3, h⟩ := bnd h
  refine cc [] [] (sb r3) F.ca_70 rfl rfl (ac (.one .sc) (ac (.one .sc) an)) an (lexer_is.meets _ v2 (⟨#[65, 66, 67, 68, 69, 70, 71, 72, 73, 74, 75, 76, 77, 78, 79, 80, 81, 82, 83, 84, 85, 86, 87, 88, 89, 90, 97, 98, 99, 100, 101, 102, 103, 104, 105, 106, 107, 108, 109, 110, 111, 112, 113, 114, 115, 116, 117, 118, 119, 120, 121, 122, 95]⟩ : ByteArray) r3 er3) (s_pick_yes (d := (sb r3)) rfl (by rw [c1] <;> rfl) rfl (s_move (d := (sb r3)) rfl ?_))
  rcases itH h with ⟨c4, h⟩ | ⟨c4, h⟩
  ·refine AWops.guard_yes rfl (nl rfl) rfl c4 ?_
   refine s_move (d := (st_ a0)) rfl ?_
   refine AWops.guard_yes rfl (nl rfl) rfl c4 ?_
   obtain ⟨r5, er5, h⟩ := bnd h
   refine cc [] [] (st_ r5) F.ca_71 rfl rfl (ac (.one .sc) (ac (.one .sc) an)) an (lexer_run.meets _ a0 (⟨#[65, 66, 67, 68, 69, 70, 71, 72, 73, 74, 75, 76, 77, 78, 79, 80, 81, 82, 83, 84, 85, 86, 87, 88, 89, 90, 97, 98, 99, 100, 101, 102, 103, 104, 105, 106, 107, 108, 109, 110, 111, 112, 113, 114, 115, 116, 117, 118, 119, 120, 121, 122, 95, 48, 49, 50, 51, 52, 53, 54, 55, 56, 57]⟩ : ByteArray) r5 er5) ?_
   refine AWops.guard_yes rfl (nl rfl) rfl c4 ?_
   refine s_len (n := r5.size) F.u_9 rfl (.inl ⟨⟨_, _, rfl⟩, rfl⟩) ?_
   refine AWops.guard_yes rfl (nl rfl) rfl c4 ?_
   refine s_move (d := (st_ a0)) rfl ?_
   refine AWops.guard_yes rfl (nl rfl) rfl c4 ?_
   refine s_len (n := a0.size) F.u_9 rfl (.inl ⟨⟨_, _, rfl⟩, rfl⟩) ?_
   refine AWops.guard_yes rfl (nl rfl) rfl c4 ?_
   refine s_binI (v := (.bool ((r5.size : Int) == (a0.size : Int)))) rfl rfl rfl (s_pick_yes (d := (sb ((r5.size : Int) == (a0.size : Int)))) rfl c4 rfl (s_assign (d := (sb ((r5.size : Int) == (a0.size : Int)))) rfl (AWops.nil (AW.ret ?_))))
   obtain rfl := Option.some.inj h
   exact ⟨_, rfl, (wg 0 [] [] rfl (le_upd (le_top _) (o1 .sc)) an)⟩
  ·iterate 6 refine AWops.guard_no rfl (nl rfl) rfl c4 ?_
   refine s_pick_no (d := (sb false)) rfl c4 rfl (s_assign (d := (sb false)) rfl (AWops.nil (AW.ret ?_)))
   obtain rfl := Option.some.inj h
   exact ⟨_, rfl, (wg 0 [] [] rfl (le_upd (le_top _) (o1 .sc)) an)⟩
def expr_Keyword.f (k : Nat) (a0 : ByteArray) : Option Bool := if (a0.toList == (⟨#[97, 110, 100]⟩ : ByteArray).toList) = true then (some true) else (if (a0.toList == (⟨#[111, 114]⟩ : ByteArray).toList) = true then (some true) else (if (a0.toList == (⟨#[110, 111, 116]⟩ : ByteArray).toList) = true then (some true) else (if (a0.toList == (⟨#[116, 114, 117, 101]⟩ : ByteArray).toList) = true then (some true) else (if (a0.toList == (⟨#[102, 97, 108, 115, 101]⟩ : ByteArray).toList) = true then (some true) else (if (a0.toList == (⟨#[99, 111, 117, 110, 116]⟩ : ByteArray).toList) = true then (some true) else (if (a0.toList == (⟨#[110, 117, 109, 98, 101, 114]⟩ : ByteArray).toList) = true then (some true) else (some false)))))))
theorem expr_Keyword.meets (k : Nat) (a0 : ByteArray) (r : Bool) (h : expr_Keyword.f k a0 = some r) : Meets Tryd.prog 59 [(st_ a0)] [] (sb r) [] := by
 unfold expr_Keyword.f at h
 refine Meets.of_body (n := 12) Tryd.func59 rfl rfl (nl rfl) fun x hx => ?_
 replace hx : x.k = 0 := hx
 show AW _ x _ _ ⟨12, fr0 [(st_ a0)], []⟩
 refine AW.seq (AW.region ?_)
 refine s_assign (d := (sb false)) rfl (AWops.nil (AW.seq (AW.seq (AW.region ?_))))
 refine s_move (d := (st_ a0)) rfl (AWops.nil (AW.block (AW.seq (AW.seq (AW.region ?_)))))
 refine s_binS (v := (.bool (a0.toList == (⟨#[97, 110, 100]⟩ : ByteArray).toList))) rfl rfl rfl (s_assign (d := (sb (a0.toList == (⟨#[97, 110, 100]⟩ : ByteArray).toList))) rfl (AWops.nil ?_))
 rcases itH h with ⟨c1, h⟩ | ⟨c1, h⟩
 ·refine AW.cond_yes rfl c1 (AW.skip ?_)
  refine AW.cond_yes rfl c1 (AW.seq (AW.region ?_))
  refine s_assign (d := (sb true)) rfl (AWops.nil (AW.ret ?_))
  obtain rfl := Option.some.inj h
  exact ⟨_, rfl, (wg 0 [] [] rfl (le_upd (le_top _) (o1 .sc)) an)⟩
 ·refine AW.cond_no rfl c1 (AW.seq (AW.region ?_))
  refine s_binS (v := (.bool (a0.toList == (⟨#[111, 114]⟩ : ByteArray).toList))) rfl rfl rfl (s_assign (d := (sb (a0.toList == (⟨#[111, 114]⟩ : ByteArray).toList))) rfl (AWops.nil ?_))
  rcases itH h with ⟨c2, h⟩ | ⟨c2, h⟩
  ·refine AW.cond_yes rfl c2 (AW.skip ?_)
   refine AW.cond_yes rfl c2 (AW.seq (AW.region ?_))
   refine s_assign (d := (sb true)) rfl (AWops.nil (AW.ret ?_))
   obtain rfl := Option.some.inj h
   exact ⟨_, rfl, (wg 0 [] [] rfl (le_upd (le_top _) (o1 .sc)) an)⟩
  ·refine AW.cond_no rfl c2 (AW.seq (AW.region ?_))
   refine s_binS (v := (.bool (a0.toList == (⟨#[110, 111, 116]⟩ : ByteArray).toList))) rfl rfl rfl (s_assign (d := (sb (a0.toList == (⟨#[110, 111, 116]⟩ : ByteArray).toList))) rfl (AWops.nil ?_))
   rcases itH h with ⟨c3, h⟩ | ⟨c3, h⟩
   ·refine AW.cond_yes rfl c3 (AW.skip ?_)
    refine AW.cond_yes rfl c3 (AW.seq (AW.region ?_))
    refine s_assign (d := (sb true)) rfl (AWops.nil (AW.ret ?_))
    obtain rfl := Option.some.inj h
    exact ⟨_, rfl, (wg 0 [] [] rfl (le_upd (le_top _) (o1 .sc)) an)⟩
   ·refine AW.cond_no rfl c3 (AW.seq (AW.region ?_))
    refine s_binS (v := (.bool (a0.toList == (⟨#[116, 114, 117, 101]⟩ : ByteArray).toList))) rfl rfl rfl (s_assign (d := (sb (a0.toList == (⟨#[116, 114, 117, 101]⟩ : ByteArray).toList))) rfl (AWops.nil ?_))
    rcases itH h with ⟨c4, h⟩ | ⟨c4, h⟩
    ·refine AW.cond_yes rfl c4 (AW.skip ?_)
     refine AW.cond_yes rfl c4 (AW.seq (AW.region ?_))
     refine s_assign (d := (sb true)) rfl (AWops.nil (AW.ret ?_))
     obtain rfl := Option.some.inj h
     exact ⟨_, rfl, (wg 0 [] [] rfl (le_upd (le_top _) (o1 .sc)) an)⟩
    ·refine AW.cond_no rfl c4 (AW.seq (AW.region ?_))
     refine s_binS (v := (.bool (a0.toList == (⟨#[102, 97, 108, 115, 101]⟩ : ByteArray).toList))) rfl rfl rfl (s_assign (d := (sb (a0.toList == (⟨#[102, 97, 108, 115, 101]⟩ : ByteArray).toList))) rfl (AWops.nil ?_))
     rcases itH h with ⟨c5, h⟩ | ⟨c5, h⟩
     ·refine AW.cond_yes rfl c5 (AW.skip ?_)
      refine AW.cond_yes rfl c5 (AW.seq (AW.region ?_))
      refine s_assign (d := (sb true)) rfl (AWops.nil (AW.ret ?_))
      obtain rfl := Option.some.inj h
      exact ⟨_, rfl, (wg 0 [] [] rfl (le_upd (le_top _) (o1 .sc)) an)⟩
     ·refine AW.cond_no rfl c5 (AW.seq (AW.region ?_))
      refine s_binS (v := (.bool (a0.toList == (⟨#[99, 111, 117, 110, 116]⟩ : ByteArray).toList))) rfl rfl rfl (s_assign (d := (sb (a0.toList == (⟨#[99, 111, 117, 110, 116]⟩ : ByteArray).toList))) rfl (AWops.nil ?_))
      rcases itH h with ⟨c6, h⟩ | ⟨c6, h⟩
      ·refine AW.cond_yes rfl c6 (AW.skip ?_)
       refine AW.cond_yes rfl c6 (AW.seq (AW.region ?_))
       refine s_assign (d := (sb true)) rfl (AWops.nil (AW.ret ?_))
       obtain rfl := Option.some.inj h
       exact ⟨_, rfl, (wg 0 [] [] rfl (le_upd (le_top _) (o1 .sc)) an)⟩
      ·refine AW.cond_no rfl c6 (AW.region ?_)
       refine s_binS (v := (.bool (a0.toList == (⟨#[110, 117, 109, 98, 101, 114]⟩ : ByteArray).toList))) rfl rfl rfl (s_assign (d := (sb (a0.toList == (⟨#[110, 117, 109, 98, 101, 114]⟩ : ByteArray).toList))) rfl (AWops.nil ?_))
       rcases itH h with ⟨c7, h⟩ | ⟨c7, h⟩
       ·refine AW.cond_yes rfl c7 (AW.seq (AW.region ?_))
        refine s_assign (d := (sb true)) rfl (AWops.nil (AW.ret ?_))
        obtain rfl := Option.some.inj h
        exact ⟨_, rfl, (wg 0 [] [] rfl (le_upd (le_top _) (o1 .sc)) an)⟩
       ·refine AW.cond_no rfl c7 (AW.skip (AW.seq (AW.region ?_)))
        refine s_assign (d := (sb false)) rfl (AWops.nil (AW.ret ?_))
        obtain rfl := Option.some.inj h
        exact ⟨_, rfl, (wg 0 [] [] rfl (le_upd (le_top _) (o1 .sc)) an)⟩
def expr_Named.f (k : Nat) (a0 : ByteArray) : Option Bool := (lexer_Plain.f k a0).bind fun r1 => if r1 = true then ((expr_Keyword.f k a0).bind fun r3 => some (!r3)) else (some false)
theorem expr_Named.meets (k : Nat) (a0 : ByteArray) (r : Bool) (h : expr_Named.f k a0 = some r) : Meets Tryd.prog 48 [(st_ a0)] [] (sb r) [] := by
 unfold expr_Named.f at h
 refine Meets.of_body (n := 10) Tryd.func48 rfl rfl (nl rfl) fun x hx => ?_
 replace hx : x.k = 0 := hx
 show AW _ x _ _ ⟨10, fr0 [(st_ a0)], []⟩
 refine AW.seq (AW.region ?_)
 refine s_assign (d := (sb false)) rfl (AWops.nil (AW.seq (AW.region ?_)))
 refine s_move (d := (st_ a0)) rfl ?_
 obtain ⟨r1, er1, h⟩ := bnd h
 refine cc [] [] (sb r1) F.ca_58 rfl rfl (ac (.one .sc) an) an (lexer_Plain.meets _ a0 r1 er1) (s_move (d := (sb r1)) rfl ?_)
 rcases itH h with ⟨c2, h⟩ | ⟨c2, h⟩
 ·refine AWops.guard_yes rfl (nl rfl) rfl c2 ?_
  refine s_move (d := (st_ a0)) rfl ?_
  refine AWops.guard_yes rfl (nl rfl) rfl c2 ?_
  obtain ⟨r3, er3, h⟩ := bnd h
  refine cc [] [] (sb r3) F.ca_59 rfl rfl (ac (.one .sc) an) an (expr_Keyword.meets _ a0 r3 er3) ?_
  refine AWops.guard_yes rfl (nl rfl) rfl c2 ?_
  refine s_not rfl (s_pick_yes (d := (sb (!r3))) rfl c2 rfl (s_assign (d := (sb (!r3))) rfl (AWops.nil (AW.ret ?_))))
  obtain rfl := Option.some.inj h
  exact ⟨_, rfl, (wg 0 [] [] rfl (le_upd (le_top _) (o1 .sc)) an)⟩
 ·iterate 3 refine AWops.guard_no rfl (nl rfl) rfl c2 ?_
  refine s_pick_no (d := (sb false)) rfl c2 rfl (s_assign (d := (sb false)) rfl (AWops.nil (AW.ret ?_)))
  obtain rfl := Option.some.inj h
  exact ⟨_, rfl, (wg 0 [] [] rfl (le_upd (le_top _) (o1 .sc)) an)⟩
def shape_Fits.f (k : Nat) (a0 : ByteArray) : Option Bool := if (decide ((a0.size : Int) ≤ 64)) = true then ((expr_Named.f k a0).bind fun r2 => some r2) else (some false)
theorem shape_Fits.meets (k : Nat) (a0 : ByteArray) (r : Bool) (h : shape_Fits.f k a0 = some r) : Meets Tryd.prog 39 [(st_ a0)] [] (sb r) [] := by
 unfold shape_Fits.f at h
 refine Meets.of_body (n := 10) Tryd.func39 rfl rfl (nl rfl) fun x hx => ?_
 replace hx : x.k = 0 := hx
 show AW _ x _ _ ⟨10, fr0 [(st_ a0)], []⟩
 refine AW.seq (AW.region ?_)
 refine s_assign (d := (sb false)) rfl (AWops.nil (AW.seq (AW.region ?_)))
 refine s_move (d := (st_ a0)) rfl (s_len (n := a0.size) F.u_9 rfl (.inl ⟨⟨_, _, rfl⟩, rfl⟩) (s_binI (v := (.bool (decide ((a0.size : Int) ≤ 64)))) rfl rfl rfl (s_move (d := (sb (decide ((a0.size : Int) ≤ 64)))) rfl ?_)))
 rcases itH h with ⟨c1, h⟩ | ⟨c1, h⟩
 ·refine AWops.guard_yes rfl (nl rfl) rfl c1 ?_
  refine s_move (d := (st_ a0)) rfl ?_
  refine AWops.guard_yes rfl (nl rfl) rfl c1 ?_
  obtain ⟨r2, er2, h⟩ := bnd h
  refine cc [] [] (sb r2) F.ca_48 rfl rfl (ac (.one .sc) an) an (expr_Named.meets _ a0 r2 er2) (s_pick_yes (d := (sb r2)) rfl c1 rfl (s_assign (d := (sb r2)) rfl (AWops.nil (AW.ret ?_))))
  obtain rfl := Option.some.inj h
  exact ⟨_, rfl, (wg 0 [] [] rfl (le_upd (le_top _) (o1 .sc)) an)⟩
 ·refine AWops.guard_no rfl (nl rfl) rfl c1 ?_
  refine AWops.guard_no rfl (nl rfl) rfl c1 ?_
  refine s_pick_no (d := (sb false)) rfl c1 rfl (s_assign (d := (sb false)) rfl (AWops.nil (AW.ret ?_)))
  obtain rfl := Option.some.inj h
  exact ⟨_, rfl, (wg 0 [] [] rfl (le_upd (le_top _) (o1 .sc)) an)⟩
end Go.Abs.GenS
