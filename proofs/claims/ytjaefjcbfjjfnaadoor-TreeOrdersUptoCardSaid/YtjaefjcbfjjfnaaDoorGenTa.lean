import Derived.Test.YtjaefjcbfjjfnaaDoorAbsY
import Derived.Test.YtjaefjcbfjjfnaaDoorProg
set_option linter.unusedVariables false
set_option linter.unusedSimpArgs false
set_option maxRecDepth 100000
set_option maxHeartbeats 4000000
namespace Go.Abs.GenT
open Go.Abs Go.Proofs
namespace F
theorem ex_96 : ExtOK Tryd.prog 96 Extern.BytealgCount.count := ⟨_, Tryd.func96, by kernel_rfl, by kernel_rfl, by kernel_rfl, by kernel_rfl⟩
theorem u_9 : Tryd.prog.underlying 9 = some (.string) := by kernel_rfl
theorem ca_85 : callable Tryd.prog 85 = true := by kernel_rfl
theorem ex_118 : ExtOK Tryd.prog 118 Extern.BytealgIndexByte.indexByte := ⟨_, Tryd.func118, by kernel_rfl, by kernel_rfl, by kernel_rfl, by kernel_rfl⟩
theorem ca_108 : callable Tryd.prog 108 = true := by kernel_rfl
theorem ca_97 : callable Tryd.prog 97 = true := by kernel_rfl
theorem sz_9 : szOf Tryd.prog 9 = some 1 := by kernel_rfl
theorem u_26 : Tryd.prog.underlying 26 = some (.slice 9) := by kernel_rfl
theorem ca_86 : callable Tryd.prog 86 = true := by kernel_rfl
theorem in_9 : infoQ Tryd.prog 9 = some (some (.string ⟨#[]⟩), 1, 16) := by kernel_rfl
theorem ca_65 : callable Tryd.prog 65 = true := by kernel_rfl
theorem ca_77 : callable Tryd.prog 77 = true := by kernel_rfl
theorem u_89 : Tryd.prog.underlying 89 = some (.slice 5) := by kernel_rfl
theorem u_5 : Tryd.prog.underlying 5 = some (.int .u8) := by kernel_rfl
theorem u_106 : Tryd.prog.underlying 106 = some (.int .u64) := by kernel_rfl
theorem ag_5 : aggOf Tryd.prog 5 = some false := by kernel_rfl
theorem sz_5 : szOf Tryd.prog 5 = some 1 := by kernel_rfl
theorem u_3 : Tryd.prog.underlying 3 = some (.int .i64) := by kernel_rfl
theorem ca_66 : callable Tryd.prog 66 = true := by kernel_rfl
theorem ca_54 : callable Tryd.prog 54 = true := by kernel_rfl
theorem ex_87 : ExtOK Tryd.prog 87 Extern.BytealgCompare.compare := ⟨_, Tryd.func87, by kernel_rfl, by kernel_rfl, by kernel_rfl, by kernel_rfl⟩
theorem ca_67 : callable Tryd.prog 67 = true := by kernel_rfl
theorem ca_68 : callable Tryd.prog 68 = true := by kernel_rfl
theorem ag_3 : aggOf Tryd.prog 3 = some false := by kernel_rfl
theorem u_38 : Tryd.prog.underlying 38 = some (.slice 3) := by kernel_rfl
theorem sz_3 : szOf Tryd.prog 3 = some 1 := by kernel_rfl
theorem ca_36 : callable Tryd.prog 36 = true := by kernel_rfl
theorem z_3 : zeroOf Tryd.prog 3 = some (.int .i64 0) := by kernel_rfl
theorem ca_37 : callable Tryd.prog 37 = true := by kernel_rfl
theorem ca_38 : callable Tryd.prog 38 = true := by kernel_rfl
theorem ca_35 : callable Tryd.prog 35 = true := by kernel_rfl
theorem ca_34 : callable Tryd.prog 34 = true := by kernel_rfl
theorem ag_9 : aggOf Tryd.prog 9 = some false := by kernel_rfl
theorem ca_32 : callable Tryd.prog 32 = true := by kernel_rfl
theorem ca_33 : callable Tryd.prog 33 = true := by kernel_rfl
theorem z_9 : zeroOf Tryd.prog 9 = some (.string ⟨#[]⟩) := by kernel_rfl
theorem ca_55 : callable Tryd.prog 55 = true := by kernel_rfl
theorem ca_70 : callable Tryd.prog 70 = true := by kernel_rfl
theorem ca_69 : callable Tryd.prog 69 = true := by kernel_rfl
theorem ca_41 : callable Tryd.prog 41 = true := by kernel_rfl
theorem ca_40 : callable Tryd.prog 40 = true := by kernel_rfl
theorem ca_39 : callable Tryd.prog 39 = true := by kernel_rfl
theorem u_4 : Tryd.prog.underlying 4 = some (.bool) := by kernel_rfl
theorem z_88 : zeroOf Tryd.prog 88 = some (.agg #[(.int .u8 0), (.int .u8 0), (.int .u8 0), (.int .u8 0), (.int .u8 0), (.int .u8 0), (.int .u8 0), (.int .u8 0), (.int .u8 0), (.int .u8 0), (.int .u8 0), (.int .u8 0), (.int .u8 0), (.int .u8 0), (.int .u8 0), (.int .u8 0), (.int .u8 0), (.int .u8 0), (.int .u8 0), (.int .u8 0)]) := by kernel_rfl
theorem u_88 : Tryd.prog.underlying 88 = some (.array 20 5) := by kernel_rfl
theorem ca_50 : callable Tryd.prog 50 = true := by kernel_rfl
theorem ca_43 : callable Tryd.prog 43 = true := by kernel_rfl
theorem ca_42 : callable Tryd.prog 42 = true := by kernel_rfl
theorem ca_11 : callable Tryd.prog 11 = true := by kernel_rfl
theorem ca_9 : callable Tryd.prog 9 = true := by kernel_rfl
theorem ca_10 : callable Tryd.prog 10 = true := by kernel_rfl
end F
def strings_Count_85.f (k : Nat) (a0 : ByteArray) : Option Int := some (cntS a0 47 : Int)
theorem strings_Count_85.meets (k : Nat) (a0 : ByteArray) (r : Int) (h : strings_Count_85.f k a0 = some r) : Meets Tryd.prog 85 [(sc (.string a0)), (sc (.string (⟨#[47]⟩ : ByteArray)))] [] (sc (.int .i64 r)) [] := by
 unfold strings_Count_85.f at h
 refine Meets.of_body (n := 34) Tryd.func85 rfl rfl (nl rfl) fun x hx => ?_
 replace hx : x.k = 0 := hx
 show AW _ x _ _ ⟨34, fr0 [(sc (.string a0)), (sc (.string (⟨#[47]⟩ : ByteArray)))], []⟩
 refine AW.seq (AW.region ?_)
 refine s_assign (d := (sc (.int .i64 0))) rfl (AWops.nil (AW.seq (AW.seq (AW.region ?_))))
 refine s_move (d := (sc (.string (⟨#[47]⟩ : ByteArray)))) rfl ?_
 refine s_len (n := 1) F.u_9 rfl (.inl ⟨⟨_, _, rfl⟩, rfl⟩) ?_
 refine s_binI (v := (.bool false)) rfl rfl rfl (AWops.nil ?_)
 refine AW.cond_no rfl rfl (AW.skip (AW.seq (AW.seq (AW.region ?_))))
 refine s_move (d := (sc (.string (⟨#[47]⟩ : ByteArray)))) rfl ?_
 refine s_len (n := 1) F.u_9 rfl (.inl ⟨⟨_, _, rfl⟩, rfl⟩) ?_
 refine s_binI (v := (.bool true)) rfl rfl rfl (AWops.nil ?_)
 refine AW.cond_yes rfl rfl (AW.seq (AW.region ?_))
 refine s_move (d := (sc (.string a0))) rfl ?_
 refine s_move (d := (sc (.string (⟨#[47]⟩ : ByteArray)))) rfl ?_
 refine s_indexStr (c := 47) F.u_9 rfl rfl (by decide) rfl ?_
 refine s_ext2 F.ex_96 rfl rfl rfl (run_cnt _ _) ?_
 refine s_assign (d := (sc (.int .i64 (cntS a0 47 : Int)))) rfl (AWops.nil (AW.ret ?_))
 obtain rfl := Option.some.inj h
 exact ⟨_, rfl, (Weak.gen (kk := 0) [] [] rfl rfl (by decide) (by decide) rfl rfl rfl (le_upd (le_top _) (.t (.one .sc))) an)⟩
def stringslite_IndexByte.f (k : Nat) (a0 : ByteArray) (a1 : Int) : Option Int := some (idxS a0 a1)
theorem stringslite_IndexByte.meets (k : Nat) (a0 : ByteArray) (a1 : Int) (r : Int) (h : stringslite_IndexByte.f k a0 a1 = some r) : Meets Tryd.prog 108 [(sc (.string a0)), (sc (.int .u8 a1))] [] (sc (.int .i64 r)) [] := by
 unfold stringslite_IndexByte.f at h
 refine Meets.of_body (n := 8) Tryd.func108 rfl rfl (nl rfl) fun x hx => ?_
 replace hx : x.k = 0 := hx
 show AW _ x _ _ ⟨8, fr0 [(sc (.string a0)), (sc (.int .u8 a1))], []⟩
 refine AW.seq (AW.region ?_)
 refine s_assign (d := (sc (.int .i64 0))) rfl (AWops.nil (AW.seq (AW.region ?_)))
 refine s_move (d := (sc (.string a0))) rfl ?_
 refine s_move (d := (sc (.int .u8 a1))) rfl ?_
 refine s_ext2 F.ex_118 rfl rfl rfl (run_idx _ _) ?_
 refine s_assign (d := (sc (.int .i64 (idxS a0 a1)))) rfl (AWops.nil (AW.ret ?_))
 obtain rfl := Option.some.inj h
 exact ⟨_, rfl, (Weak.gen (kk := 0) [] [] rfl rfl (by decide) (by decide) rfl rfl rfl (le_upd (le_top _) (.t (.one .sc))) an)⟩
def stringslite_Index_97.f (k : Nat) (a0 : ByteArray) : Option Int := if ((⟨#[47]⟩ : ByteArray).toList == a0.toList) = true then (some 0) else ((stringslite_IndexByte.f k a0 47).bind fun r2 => some r2)
theorem stringslite_Index_97.meets (k : Nat) (a0 : ByteArray) (r : Int) (h : stringslite_Index_97.f k a0 = some r) : Meets Tryd.prog 97 [(sc (.string a0)), (sc (.string (⟨#[47]⟩ : ByteArray)))] [] (sc (.int .i64 r)) [] := by
 unfold stringslite_Index_97.f at h
 refine Meets.of_body (n := 143) Tryd.func97 rfl rfl (nl rfl) fun x hx => ?_
 replace hx : x.k = 0 := hx
 show AW _ x _ _ ⟨143, fr0 [(sc (.string a0)), (sc (.string (⟨#[47]⟩ : ByteArray)))], []⟩
 refine AW.seq (AW.region ?_)
 refine s_assign (d := (sc (.int .i64 0))) rfl (AWops.nil (AW.seq (AW.region ?_)))
 refine s_move (d := (sc (.string (⟨#[47]⟩ : ByteArray)))) rfl ?_
 refine s_len (n := 1) F.u_9 rfl (.inl ⟨⟨_, _, rfl⟩, rfl⟩) ?_
 refine s_assign (d := (sc (.int .i64 1))) rfl (AWops.nil (AW.seq (AW.block (AW.seq (AW.region ?_)))))
 refine s_move (d := (sc (.int .i64 1))) rfl ?_
 refine s_binI (v := (.bool false)) rfl rfl rfl ?_
 refine s_move (d := (sc (.bool false))) rfl ?_
 refine AWops.guard_yes rfl (nl rfl) rfl rfl ?_
 refine s_move (d := (sc (.string (⟨#[47]⟩ : ByteArray)))) rfl ?_
 refine AWops.guard_yes rfl (nl rfl) rfl rfl ?_
 refine s_move (d := (sc (.string a0))) rfl ?_
 refine AWops.guard_yes rfl (nl rfl) rfl rfl ?_
 refine s_binS (v := (.bool ((⟨#[47]⟩ : ByteArray).toList == a0.toList))) rfl rfl rfl ?_
 refine s_pick_no (d := (sc (.bool ((⟨#[47]⟩ : ByteArray).toList == a0.toList)))) rfl rfl rfl ?_
 refine s_assign (d := (sc (.bool ((⟨#[47]⟩ : ByteArray).toList == a0.toList)))) rfl (AWops.nil ?_)
 rcases itH h with ⟨c1, h⟩ | ⟨c1, h⟩
 ·refine AW.cond_yes rfl c1 (AW.seq (AW.region ?_))
  refine s_assign (d := (sc (.int .i64 0))) rfl (AWops.nil (AW.ret ?_))
  obtain rfl := Option.some.inj h
  exact ⟨_, rfl, (Weak.gen (kk := 0) [] [] rfl rfl (by decide) (by decide) rfl rfl rfl (le_upd (le_top _) (.t (.one .sc))) an)⟩
 ·refine AW.cond_no rfl c1 (AW.seq (AW.region ?_))
  refine s_move (d := (sc (.int .i64 1))) rfl ?_
  refine s_binI (v := (.bool true)) rfl rfl rfl ?_
  refine s_assign (d := (sc (.bool true))) rfl (AWops.nil ?_)
  refine AW.cond_yes rfl rfl (AW.seq (AW.region ?_))
  refine s_move (d := (sc (.string a0))) rfl ?_
  refine s_move (d := (sc (.string (⟨#[47]⟩ : ByteArray)))) rfl ?_
  refine s_indexStr (c := 47) F.u_9 rfl rfl (by decide) rfl ?_
  obtain ⟨r2, er2, h⟩ := bnd h
  refine s_call2 (ρ := []) (br := false) (H2 := []) (d := (sc (.int .i64 r2))) F.ca_108 rfl rfl (ac (.one .sc) (ac (.one .sc) an)) an (by decide) rfl (stringslite_IndexByte.meets _ a0 47 r2 er2) (.inl rfl) rfl rfl ?_
  refine s_assign (d := (sc (.int .i64 r2))) rfl (AWops.nil (AW.ret ?_))
  obtain rfl := Option.some.inj h
  exact ⟨_, rfl, (Weak.gen (kk := 0) [] [] rfl rfl (by decide) (by decide) rfl rfl rfl (le_upd (le_top _) (.t (.one .sc))) an)⟩
def strings_Index_86.f (k : Nat) (a0 : ByteArray) : Option Int := (stringslite_Index_97.f k a0).bind fun r1 => some r1
theorem strings_Index_86.meets (k : Nat) (a0 : ByteArray) (r : Int) (h : strings_Index_86.f k a0 = some r) : Meets Tryd.prog 86 [(sc (.string a0)), (sc (.string (⟨#[47]⟩ : ByteArray)))] [] (sc (.int .i64 r)) [] := by
 unfold strings_Index_86.f at h
 refine Meets.of_body (n := 8) Tryd.func86 rfl rfl (nl rfl) fun x hx => ?_
 replace hx : x.k = 0 := hx
 show AW _ x _ _ ⟨8, fr0 [(sc (.string a0)), (sc (.string (⟨#[47]⟩ : ByteArray)))], []⟩
 refine AW.seq (AW.region ?_)
 refine s_assign (d := (sc (.int .i64 0))) rfl (AWops.nil (AW.seq (AW.region ?_)))
 refine s_move (d := (sc (.string a0))) rfl ?_
 refine s_move (d := (sc (.string (⟨#[47]⟩ : ByteArray)))) rfl ?_
 obtain ⟨r1, er1, h⟩ := bnd h
 refine s_call2 (ρ := []) (br := false) (H2 := []) (d := (sc (.int .i64 r1))) F.ca_97 rfl rfl (ac (.one .sc) (ac (.one .sc) an)) an (by decide) rfl (stringslite_Index_97.meets _ a0 r1 er1) (.inl rfl) rfl rfl ?_
 refine s_assign (d := (sc (.int .i64 r1))) rfl (AWops.nil (AW.ret ?_))
 obtain rfl := Option.some.inj h
 exact ⟨_, rfl, (Weak.gen (kk := 0) [] [] rfl rfl (by decide) (by decide) rfl rfl rfl (le_upd (le_top _) (.t (.one .sc))) an)⟩
mutual
def strings_genSplit_65x.l0 : Nat → (List ByteArray) → ByteArray → Int → ByteArray → Int → Option (List ByteArray)
 | 0, _, _, _, _, _ => none
 | k + 1, x3, x4, x5, a0, r1 => if (decide (x5 < (IntKind.i64.wrap ((if (IntKind.i64.wrap ((a0.size : Int) + 1)) < (IntKind.i64.wrap (r1 + 1)) then (IntKind.i64.wrap ((a0.size : Int) + 1)) else (IntKind.i64.wrap (r1 + 1))) - 1)))) = true then ((strings_Index_86.f k x4).bind fun r7 => if (decide (r7 < 0)) = true then ((rd x3 x5).bind fun v9 => if (decide (0 ≤ 0 ∧ 0 ≤ (IntKind.i64.wrap (x5 + 1)) ∧ (IntKind.i64.wrap (x5 + 1)) ≤ ((x3.set x5.toNat x4).length : Int))) = true then (some (sub (x3.set x5.toNat x4) 0 (IntKind.i64.wrap (x5 + 1)))) else none) else (if (decide (0 ≤ 0 ∧ 0 ≤ (IntKind.i64.wrap (r7 + 0)) ∧ (IntKind.i64.wrap (r7 + 0)) ≤ (x4.size : Int))) = true then ((rd x3 x5).bind fun v12 => if (decide (0 ≤ (IntKind.i64.wrap (r7 + 1)) ∧ (IntKind.i64.wrap (r7 + 1)) ≤ (x4.size : Int) ∧ (x4.size : Int) ≤ (x4.size : Int))) = true then (strings_genSplit_65x.l0 k (x3.set x5.toNat (x4.extract 0 (IntKind.i64.wrap (r7 + 0)).toNat)) (x4.extract (IntKind.i64.wrap (r7 + 1)).toNat x4.size) (IntKind.i64.wrap (x5 + 1)) a0 r1) else none) else none)) else ((rd x3 x5).bind fun v14 => if (decide (0 ≤ 0 ∧ 0 ≤ (IntKind.i64.wrap (x5 + 1)) ∧ (IntKind.i64.wrap (x5 + 1)) ≤ ((x3.set x5.toNat x4).length : Int))) = true then (some (sub (x3.set x5.toNat x4) 0 (IntKind.i64.wrap (x5 + 1)))) else none)
end
def strings_genSplit_65x.f (k : Nat) (a0 : ByteArray) : Option (List ByteArray) := (strings_Count_85.f k a0).bind fun r1 => if (decide (0 ≤ (if (IntKind.i64.wrap ((a0.size : Int) + 1)) < (IntKind.i64.wrap (r1 + 1)) then (IntKind.i64.wrap ((a0.size : Int) + 1)) else (IntKind.i64.wrap (r1 + 1))) ∧ (if (IntKind.i64.wrap ((a0.size : Int) + 1)) < (IntKind.i64.wrap (r1 + 1)) then (IntKind.i64.wrap ((a0.size : Int) + 1)) else (IntKind.i64.wrap (r1 + 1))) ≤ 8796093022208)) = true then (strings_genSplit_65x.l0 k (List.replicate (if (IntKind.i64.wrap ((a0.size : Int) + 1)) < (IntKind.i64.wrap (r1 + 1)) then (IntKind.i64.wrap ((a0.size : Int) + 1)) else (IntKind.i64.wrap (r1 + 1))).toNat ((⟨#[]⟩ : ByteArray) : ByteArray)) a0 0 a0 r1) else none
theorem strings_genSplit_65x.meets (k : Nat) (a0 : ByteArray) (r : (List ByteArray)) (h : strings_genSplit_65x.f k a0 = some r) : Meets Tryd.prog 65 [(sc (.string a0)), (sc (.string (⟨#[47]⟩ : ByteArray))), (sc (.int .i64 0)), (sc (.int .i64 (-1)))] [] (D.one (C.p false (.sl r.length (r.flatMap e_str)))) [] := by
 unfold strings_genSplit_65x.f at h
 refine Meets.of_body (n := 66) Tryd.func65 rfl rfl (nl rfl) fun x hx => ?_
 replace hx : x.k = 0 := hx
 show AW _ x _ _ ⟨66, fr0 [(sc (.string a0)), (sc (.string (⟨#[47]⟩ : ByteArray))), (sc (.int .i64 0)), (sc (.int .i64 (-1)))], []⟩
 refine AW.seq (AW.region ?_)
 refine s_assign (d := (sc (.slice none 0 0))) rfl (AWops.nil (AW.seq (AW.seq (AW.region ?_))))
 refine s_move (d := (sc (.int .i64 (-1)))) rfl ?_
 refine s_binI (v := (.bool false)) rfl rfl rfl (AWops.nil ?_)
 refine AW.cond_no rfl rfl (AW.skip (AW.seq (AW.seq (AW.region ?_))))
 refine s_move (d := (sc (.string (⟨#[47]⟩ : ByteArray)))) rfl ?_
 refine s_binS (v := (.bool false)) rfl rfl (lit_eq (by decide)) (AWops.nil ?_)
 refine AW.cond_no rfl rfl (AW.skip (AW.seq (AW.seq (AW.region ?_))))
 refine s_move (d := (sc (.int .i64 (-1)))) rfl ?_
 refine s_binI (v := (.bool true)) rfl rfl rfl (AWops.nil ?_)
 refine AW.cond_yes rfl rfl (AW.region ?_)
 refine s_move (d := (sc (.string a0))) rfl ?_
 refine s_move (d := (sc (.string (⟨#[47]⟩ : ByteArray)))) rfl ?_
 obtain ⟨r1, er1, h⟩ := bnd h
 refine s_call2 (ρ := []) (br := false) (H2 := []) (d := (sc (.int .i64 r1))) F.ca_85 rfl rfl (ac (.one .sc) (ac (.one .sc) an)) an (by decide) rfl (strings_Count_85.meets _ a0 r1 er1) (.inl rfl) rfl rfl ?_
 refine s_binI (v := (.int .i64 (IntKind.i64.wrap (r1 + 1)))) rfl rfl rfl ?_
 refine s_assign (d := (sc (.int .i64 (IntKind.i64.wrap (r1 + 1))))) rfl (AWops.nil (AW.seq (AW.region ?_)))
 refine s_move (d := (sc (.int .i64 (IntKind.i64.wrap (r1 + 1))))) rfl ?_
 refine s_move (d := (sc (.string a0))) rfl ?_
 refine s_len (n := a0.size) F.u_9 rfl (.inl ⟨⟨_, _, rfl⟩, rfl⟩) ?_
 refine s_binI (v := (.int .i64 (IntKind.i64.wrap ((a0.size : Int) + 1)))) rfl rfl rfl ?_
 refine s_min2 (r := (if (IntKind.i64.wrap ((a0.size : Int) + 1)) < (IntKind.i64.wrap (r1 + 1)) then (IntKind.i64.wrap ((a0.size : Int) + 1)) else (IntKind.i64.wrap (r1 + 1)))) rfl rfl rfl ?_
 refine s_assign (d := (sc (.int .i64 (if (IntKind.i64.wrap ((a0.size : Int) + 1)) < (IntKind.i64.wrap (r1 + 1)) then (IntKind.i64.wrap ((a0.size : Int) + 1)) else (IntKind.i64.wrap (r1 + 1)))))) rfl (AWops.nil (AW.seq (AW.region ?_)))
 refine s_move (d := (sc (.int .i64 (if (IntKind.i64.wrap ((a0.size : Int) + 1)) < (IntKind.i64.wrap (r1 + 1)) then (IntKind.i64.wrap ((a0.size : Int) + 1)) else (IntKind.i64.wrap (r1 + 1)))))) rfl ?_
 obtain ⟨c2, h⟩ := gdH h
 have dc2 := of_decide_eq_true c2
 refine t_make (f := e_str) (a0 := ((⟨#[]⟩ : ByteArray) : ByteArray)) F.u_26 F.in_9 rfl (by decide) rfl rfl rfl rfl (by omega) (by omega) (by omega) ?_
 refine s_assign (d := (D.one (C.own 0 0 ((List.replicate (if (IntKind.i64.wrap ((a0.size : Int) + 1)) < (IntKind.i64.wrap (r1 + 1)) then (IntKind.i64.wrap ((a0.size : Int) + 1)) else (IntKind.i64.wrap (r1 + 1))).toNat ((⟨#[]⟩ : ByteArray) : ByteArray)).length) 1))) rfl (AWops.nil (AW.seq (AW.region ?_)))
 refine s_move (d := (sc (.int .i64 (if (IntKind.i64.wrap ((a0.size : Int) + 1)) < (IntKind.i64.wrap (r1 + 1)) then (IntKind.i64.wrap ((a0.size : Int) + 1)) else (IntKind.i64.wrap (r1 + 1)))))) rfl ?_
 refine s_binI (v := (.int .i64 (IntKind.i64.wrap ((if (IntKind.i64.wrap ((a0.size : Int) + 1)) < (IntKind.i64.wrap (r1 + 1)) then (IntKind.i64.wrap ((a0.size : Int) + 1)) else (IntKind.i64.wrap (r1 + 1))) - 1)))) rfl rfl rfl ?_
 refine s_assign (d := (sc (.int .i64 (IntKind.i64.wrap ((if (IntKind.i64.wrap ((a0.size : Int) + 1)) < (IntKind.i64.wrap (r1 + 1)) then (IntKind.i64.wrap ((a0.size : Int) + 1)) else (IntKind.i64.wrap (r1 + 1))) - 1))))) rfl (AWops.nil (AW.seq (AW.region ?_)))
 refine s_assign (d := (sc (.int .i64 0))) rfl (AWops.nil (AW.seq (AW.block ?_)))
 refine AW.loopw (st0 := ⟨66, (upd 66 (upd 66 (upd 66 (upd 66 (upd 66 (upd 66 topF 0 (sc (.string a0))) 1 (sc (.string (⟨#[47]⟩ : ByteArray)))) 2 (sc (.int .i64 0))) 3 (sc (.int .i64 (IntKind.i64.wrap ((if (IntKind.i64.wrap ((a0.size : Int) + 1)) < (IntKind.i64.wrap (r1 + 1)) then (IntKind.i64.wrap ((a0.size : Int) + 1)) else (IntKind.i64.wrap (r1 + 1))) - 1))))) 9 (D.one (C.own 0 0 (List.replicate (if (IntKind.i64.wrap ((a0.size : Int) + 1)) < (IntKind.i64.wrap (r1 + 1)) then (IntKind.i64.wrap ((a0.size : Int) + 1)) else (IntKind.i64.wrap (r1 + 1))).toNat ((⟨#[]⟩ : ByteArray) : ByteArray)).length 1))) 10 (sc (.int .i64 0))), [(some (AObj.cells true (rowC e_str (List.replicate (if (IntKind.i64.wrap ((a0.size : Int) + 1)) < (IntKind.i64.wrap (r1 + 1)) then (IntKind.i64.wrap ((a0.size : Int) + 1)) else (IntKind.i64.wrap (r1 + 1))).toNat ((⟨#[]⟩ : ByteArray) : ByteArray)))))]⟩) (fun kv st => kv ≤ k ∧ ∃ (x3 : List ByteArray) (x4 : ByteArray) (x5 : Int), strings_genSplit_65x.l0 kv x3 x4 x5 a0 r1 = some r ∧ st = ⟨66, (upd 66 (upd 66 (upd 66 (upd 66 (upd 66 (upd 66 topF 0 (sc (.string x4))) 1 (sc (.string (⟨#[47]⟩ : ByteArray)))) 2 (sc (.int .i64 0))) 3 (sc (.int .i64 (IntKind.i64.wrap ((if (IntKind.i64.wrap ((a0.size : Int) + 1)) < (IntKind.i64.wrap (r1 + 1)) then (IntKind.i64.wrap ((a0.size : Int) + 1)) else (IntKind.i64.wrap (r1 + 1))) - 1))))) 9 (D.one (C.own 0 0 x3.length 1))) 10 (sc (.int .i64 x5))), [(some (AObj.cells true (rowC e_str x3)))]⟩) (k := k) (Weak.gen (kk := 0) [0] [] hx rfl (by decide) (by decide) rfl rfl rfl (le_upd (le_upd (le_upd (le_upd (le_upd (le_upd (le_top _) (.t (.one .sc))) (.t (.one .sc))) (.t (.one .sc))) (.t (.one .sc))) (.t (.one (.own rfl)))) (.t (.one .sc))) (ac (.cells (fun h => h) (all2_row _)) an)) ⟨Nat.le_refl _, List.replicate (if (IntKind.i64.wrap ((a0.size : Int) + 1)) < (IntKind.i64.wrap (r1 + 1)) then (IntKind.i64.wrap ((a0.size : Int) + 1)) else (IntKind.i64.wrap (r1 + 1))).toNat ((⟨#[]⟩ : ByteArray) : ByteArray), a0, 0, h, rfl⟩ ?_
 rintro ql0 st ⟨hkl0, x3, x4, x5, h, rfl⟩
 cases ql0 with
 | zero => exact absurd h (by simp [strings_genSplit_65x.l0])
 | succ ql0 =>
  replace h := (strings_genSplit_65x.l0.eq_2 _ _ _ _ _ _).symm.trans h
  refine AW.seq (AW.seq (AW.region ?_))
  refine s_move (d := (sc (.int .i64 x5))) rfl ?_
  refine s_move (d := (sc (.int .i64 (IntKind.i64.wrap ((if (IntKind.i64.wrap ((a0.size : Int) + 1)) < (IntKind.i64.wrap (r1 + 1)) then (IntKind.i64.wrap ((a0.size : Int) + 1)) else (IntKind.i64.wrap (r1 + 1))) - 1))))) rfl ?_
  refine s_binI (v := (.bool (decide (x5 < (IntKind.i64.wrap ((if (IntKind.i64.wrap ((a0.size : Int) + 1)) < (IntKind.i64.wrap (r1 + 1)) then (IntKind.i64.wrap ((a0.size : Int) + 1)) else (IntKind.i64.wrap (r1 + 1))) - 1)))))) rfl rfl rfl (AWops.nil ?_)
  rcases itH h with ⟨c6, h⟩ | ⟨c6, h⟩
  ·refine AW.cond_yes rfl c6 (AW.skip (AW.block (AW.seq (AW.region ?_))))
   refine s_move (d := (sc (.string x4))) rfl ?_
   refine s_move (d := (sc (.string (⟨#[47]⟩ : ByteArray)))) rfl ?_
   obtain ⟨r7, er7, h⟩ := bnd h
   refine s_call2 (ρ := []) (br := false) (H2 := [(some (AObj.cells true (rowC e_str x3)))]) (d := (sc (.int .i64 r7))) F.ca_86 rfl rfl (ac (.one .sc) (ac (.one .sc) an)) an (by decide) rfl (strings_Index_86.meets _ x4 r7 er7) (.inl rfl) rfl rfl ?_
   refine s_assign (d := (sc (.int .i64 r7))) rfl (AWops.nil (AW.seq (AW.seq (AW.region ?_))))
   refine s_move (d := (sc (.int .i64 r7))) rfl ?_
   refine s_binI (v := (.bool (decide (r7 < 0)))) rfl rfl rfl (AWops.nil ?_)
   rcases itH h with ⟨c8, h⟩ | ⟨c8, h⟩
   ·refine AW.cond_yes rfl c8 (AW.exit (AW.seq (AW.region ?_)))
    refine s_move (d := (D.one (C.own 0 0 x3.length 1))) rfl ?_
    refine s_move (d := (sc (.int .i64 x5))) rfl ?_
    refine s_move (d := (sc (.string x4))) rfl ?_
    obtain ⟨v9, ev9, h⟩ := bnd h
    obtain ⟨pv9, qv9, gv9⟩ := rd_some ev9
    refine s_indexOwn (d := (D.one (C.ref 0 (0 + x5.toNat * 1)))) F.u_26 F.sz_9 rfl rfl pv9 qv9 rfl ?_
    refine s_store (cs' := rowC e_str (x3.set x5.toNat x4)) rfl rfl rfl (List.cons_ne_nil _ _) rfl F.sz_9 (by rw [row_len e_str_len]; have := (List.getElem?_eq_some_iff.mp gv9).1; show _ + 1 ≤ _; omega) (row_set (f := e_str) (sz := 1) (o := 0) (ds := [P.v (.string x4)]) e_str_len gv9 rfl (nl rfl) rfl) ?_
    refine AWops.nil (AW.seq (AW.region ?_))
    refine s_move (d := (D.one (C.own 0 0 x3.length 1))) rfl ?_
    refine s_move (d := (sc (.int .i64 x5))) rfl ?_
    refine s_binI (v := (.int .i64 (IntKind.i64.wrap (x5 + 1)))) rfl rfl rfl ?_
    refine AWops.weak (st' := ⟨66, (upd 66 (upd 66 (upd 66 (upd 66 (upd 66 (upd 66 (upd 66 (upd 66 (upd 66 (upd 66 (upd 66 (upd 66 (upd 66 (upd 66 (upd 66 (upd 66 (upd 66 (upd 66 (upd 66 (upd 66 (upd 66 topF 0 (sc (.string x4))) 1 (sc (.string (⟨#[47]⟩ : ByteArray)))) 2 (sc (.int .i64 0))) 3 (sc (.int .i64 (IntKind.i64.wrap ((if (IntKind.i64.wrap ((a0.size : Int) + 1)) < (IntKind.i64.wrap (r1 + 1)) then (IntKind.i64.wrap ((a0.size : Int) + 1)) else (IntKind.i64.wrap (r1 + 1))) - 1))))) 9 (D.one (C.p false (.sl (x3.set x5.toNat x4).length ((x3.set x5.toNat x4).flatMap e_str))))) 10 (sc (.int .i64 x5))) 11 (sc (.int .i64 r7))) 34 (sc (.int .i64 x5))) 35 (sc (.int .i64 (IntKind.i64.wrap ((if (IntKind.i64.wrap ((a0.size : Int) + 1)) < (IntKind.i64.wrap (r1 + 1)) then (IntKind.i64.wrap ((a0.size : Int) + 1)) else (IntKind.i64.wrap (r1 + 1))) - 1))))) 36 (sc (.bool (decide (x5 < (IntKind.i64.wrap ((if (IntKind.i64.wrap ((a0.size : Int) + 1)) < (IntKind.i64.wrap (r1 + 1)) then (IntKind.i64.wrap ((a0.size : Int) + 1)) else (IntKind.i64.wrap (r1 + 1))) - 1))))))) 37 (sc (.string x4))) 38 (sc (.string (⟨#[47]⟩ : ByteArray)))) 39 (sc (.int .i64 r7))) 40 (sc (.int .i64 r7))) 41 (sc (.bool (decide (r7 < 0))))) 58 (D.one (C.p false (.sl (x3.set x5.toNat x4).length ((x3.set x5.toNat x4).flatMap e_str))))) 59 (sc (.int .i64 x5))) 60 (sc (.string x4))) 62 (D.one (C.p false (.sl (x3.set x5.toNat x4).length ((x3.set x5.toNat x4).flatMap e_str))))) 63 (sc (.int .i64 x5))) 64 (sc (.int .i64 (IntKind.i64.wrap (x5 + 1))))), []⟩) (Weak.gen (kk := 0) [] [0] hx rfl (by decide) (by decide) rfl rfl rfl (le_upd (le_upd (le_upd (le_upd (le_upd (le_upd (le_upd (le_upd (le_upd (le_upd (le_upd (le_upd (le_upd (le_upd (le_upd (le_upd (le_upd (le_upd (le_upd (le_upd (le_upd (le_top _) (.t (.one .sc))) (.t (.one .sc))) (.t (.one .sc))) (.t (.one .sc))) (.t (.one (CLe.frz e_str_len rfl rfl (by simp))))) (.t (.one .sc))) (.t (.one .sc))) (.t (.one .sc))) (.t (.one .sc))) (.t (.one .sc))) (.t (.one .sc))) (.t (.one .sc))) (.t (.one .sc))) (.t (.one .sc))) (.t (.one .sc))) (.t (.one (CLe.frz e_str_len rfl rfl (by simp))))) (.t (.one .sc))) (.t (.one .sc))) (.t (.one (CLe.frz e_str_len rfl rfl (by simp))))) (.t (.one .sc))) (.t (.one .sc))) an) ?_
    obtain ⟨c10, h⟩ := gdH h
    have dc10 := of_decide_eq_true c10
    refine t_sliceImm (a := 0) (b := IntKind.i64.wrap (x5 + 1)) F.u_26 F.sz_9 e_str_len rfl (by omega) (by omega) (by omega) .no (.yes rfl (by omega) rfl) ?_
    refine s_assign (d := (D.one (C.p false (.sl (sub (x3.set x5.toNat x4) 0 (IntKind.i64.wrap (x5 + 1))).length ((sub (x3.set x5.toNat x4) 0 (IntKind.i64.wrap (x5 + 1))).flatMap e_str))))) rfl (AWops.nil (AW.ret ?_))
    obtain rfl := Option.some.inj h
    exact ⟨_, rfl, (Weak.gen (kk := 0) [] [] rfl rfl (by decide) (by decide) rfl rfl rfl (le_upd (le_top _) (.t (.one .same))) an)⟩
   ·refine AW.cond_no rfl c8 (AW.skip (AW.seq (AW.region ?_)))
    refine s_move (d := (D.one (C.own 0 0 x3.length 1))) rfl ?_
    refine s_move (d := (sc (.int .i64 x5))) rfl ?_
    refine s_move (d := (sc (.string x4))) rfl ?_
    refine s_move (d := (sc (.int .i64 r7))) rfl ?_
    refine s_move (d := (sc (.int .i64 0))) rfl ?_
    refine s_binI (v := (.int .i64 (IntKind.i64.wrap (r7 + 0)))) rfl rfl rfl ?_
    obtain ⟨c11, h⟩ := gdH h
    have dc11 := of_decide_eq_true c11
    refine s_sliceStr F.u_9 rfl .no (.yes rfl (by omega) rfl) (by omega) (by omega) ?_
    obtain ⟨v12, ev12, h⟩ := bnd h
    obtain ⟨pv12, qv12, gv12⟩ := rd_some ev12
    refine s_indexOwn (d := (D.one (C.ref 0 (0 + x5.toNat * 1)))) F.u_26 F.sz_9 rfl rfl pv12 qv12 rfl ?_
    refine s_store (cs' := rowC e_str (x3.set x5.toNat (x4.extract 0 (IntKind.i64.wrap (r7 + 0)).toNat))) rfl rfl rfl (List.cons_ne_nil _ _) rfl F.sz_9 (by rw [row_len e_str_len]; have := (List.getElem?_eq_some_iff.mp gv12).1; show _ + 1 ≤ _; omega) (row_set (f := e_str) (sz := 1) (o := 0) (ds := [P.v (.string (x4.extract 0 (IntKind.i64.wrap (r7 + 0)).toNat))]) e_str_len gv12 rfl (nl rfl) rfl) ?_
    refine AWops.nil (AW.seq (AW.region ?_))
    refine s_move (d := (sc (.string x4))) rfl ?_
    refine s_move (d := (sc (.int .i64 r7))) rfl ?_
    refine s_move (d := (sc (.string (⟨#[47]⟩ : ByteArray)))) rfl ?_
    refine s_len (n := 1) F.u_9 rfl (.inl ⟨⟨_, _, rfl⟩, rfl⟩) ?_
    refine s_binI (v := (.int .i64 (IntKind.i64.wrap (r7 + 1)))) rfl rfl rfl ?_
    obtain ⟨c13, h⟩ := gdH h
    have dc13 := of_decide_eq_true c13
    refine s_sliceStr F.u_9 rfl (.yes rfl (by omega) rfl) .no (by omega) (by omega) ?_
    refine s_assign (d := (sc (.string (x4.extract (IntKind.i64.wrap (r7 + 1)).toNat x4.size)))) rfl (AWops.nil (AW.region ?_))
    refine s_move (d := (sc (.int .i64 x5))) rfl ?_
    refine s_binI (v := (.int .i64 (IntKind.i64.wrap (x5 + 1)))) rfl rfl rfl ?_
    refine s_assign (d := (sc (.int .i64 (IntKind.i64.wrap (x5 + 1))))) rfl (AWops.nil ?_)
    exact ⟨_, ⟨66, (upd 66 (upd 66 (upd 66 (upd 66 (upd 66 (upd 66 topF 0 (sc (.string (x4.extract (IntKind.i64.wrap (r7 + 1)).toNat x4.size)))) 1 (sc (.string (⟨#[47]⟩ : ByteArray)))) 2 (sc (.int .i64 0))) 3 (sc (.int .i64 (IntKind.i64.wrap ((if (IntKind.i64.wrap ((a0.size : Int) + 1)) < (IntKind.i64.wrap (r1 + 1)) then (IntKind.i64.wrap ((a0.size : Int) + 1)) else (IntKind.i64.wrap (r1 + 1))) - 1))))) 9 (D.one (C.own 0 0 (x3.set x5.toNat (x4.extract 0 (IntKind.i64.wrap (r7 + 0)).toNat)).length 1))) 10 (sc (.int .i64 (IntKind.i64.wrap (x5 + 1))))), [(some (AObj.cells true (rowC e_str (x3.set x5.toNat (x4.extract 0 (IntKind.i64.wrap (r7 + 0)).toNat)))))]⟩, by omega, (Weak.gen (kk := 0) [0] [] hx rfl (by decide) (by decide) rfl rfl rfl (le_upd (le_upd (le_upd (le_upd (le_upd (le_upd (le_top _) (.t (.one .sc))) (.t (.one .sc))) (.t (.one .sc))) (.t (.one .sc))) (.t (.one (CLe.ownN rfl (by simp))))) (.t (.one .sc))) (ac (.cells (fun h => h) (all2_row _)) an)), by omega, x3.set x5.toNat (x4.extract 0 (IntKind.i64.wrap (r7 + 0)).toNat), x4.extract (IntKind.i64.wrap (r7 + 1)).toNat x4.size, IntKind.i64.wrap (x5 + 1), h, rfl⟩
  ·refine AW.cond_no rfl c6 (AW.exit (AW.seq (AW.region ?_)))
   refine s_move (d := (D.one (C.own 0 0 x3.length 1))) rfl ?_
   refine s_move (d := (sc (.int .i64 x5))) rfl ?_
   refine s_move (d := (sc (.string x4))) rfl ?_
   obtain ⟨v14, ev14, h⟩ := bnd h
   obtain ⟨pv14, qv14, gv14⟩ := rd_some ev14
   refine s_indexOwn (d := (D.one (C.ref 0 (0 + x5.toNat * 1)))) F.u_26 F.sz_9 rfl rfl pv14 qv14 rfl ?_
   refine s_store (cs' := rowC e_str (x3.set x5.toNat x4)) rfl rfl rfl (List.cons_ne_nil _ _) rfl F.sz_9 (by rw [row_len e_str_len]; have := (List.getElem?_eq_some_iff.mp gv14).1; show _ + 1 ≤ _; omega) (row_set (f := e_str) (sz := 1) (o := 0) (ds := [P.v (.string x4)]) e_str_len gv14 rfl (nl rfl) rfl) ?_
   refine AWops.nil (AW.seq (AW.region ?_))
   refine s_move (d := (D.one (C.own 0 0 x3.length 1))) rfl ?_
   refine s_move (d := (sc (.int .i64 x5))) rfl ?_
   refine s_binI (v := (.int .i64 (IntKind.i64.wrap (x5 + 1)))) rfl rfl rfl ?_
   refine AWops.weak (st' := ⟨66, (upd 66 (upd 66 (upd 66 (upd 66 (upd 66 (upd 66 (upd 66 (upd 66 (upd 66 (upd 66 (upd 66 (upd 66 (upd 66 (upd 66 (upd 66 topF 0 (sc (.string x4))) 1 (sc (.string (⟨#[47]⟩ : ByteArray)))) 2 (sc (.int .i64 0))) 3 (sc (.int .i64 (IntKind.i64.wrap ((if (IntKind.i64.wrap ((a0.size : Int) + 1)) < (IntKind.i64.wrap (r1 + 1)) then (IntKind.i64.wrap ((a0.size : Int) + 1)) else (IntKind.i64.wrap (r1 + 1))) - 1))))) 9 (D.one (C.p false (.sl (x3.set x5.toNat x4).length ((x3.set x5.toNat x4).flatMap e_str))))) 10 (sc (.int .i64 x5))) 34 (sc (.int .i64 x5))) 35 (sc (.int .i64 (IntKind.i64.wrap ((if (IntKind.i64.wrap ((a0.size : Int) + 1)) < (IntKind.i64.wrap (r1 + 1)) then (IntKind.i64.wrap ((a0.size : Int) + 1)) else (IntKind.i64.wrap (r1 + 1))) - 1))))) 36 (sc (.bool (decide (x5 < (IntKind.i64.wrap ((if (IntKind.i64.wrap ((a0.size : Int) + 1)) < (IntKind.i64.wrap (r1 + 1)) then (IntKind.i64.wrap ((a0.size : Int) + 1)) else (IntKind.i64.wrap (r1 + 1))) - 1))))))) 58 (D.one (C.p false (.sl (x3.set x5.toNat x4).length ((x3.set x5.toNat x4).flatMap e_str))))) 59 (sc (.int .i64 x5))) 60 (sc (.string x4))) 62 (D.one (C.p false (.sl (x3.set x5.toNat x4).length ((x3.set x5.toNat x4).flatMap e_str))))) 63 (sc (.int .i64 x5))) 64 (sc (.int .i64 (IntKind.i64.wrap (x5 + 1))))), []⟩) (Weak.gen (kk := 0) [] [0] hx rfl (by decide) (by decide) rfl rfl rfl (le_upd (le_upd (le_upd (le_upd (le_upd (le_upd (le_upd (le_upd (le_upd (le_upd (le_upd (le_upd (le_upd (le_upd (le_upd (le_top _) (.t (.one .sc))) (.t (.one .sc))) (.t (.one .sc))) (.t (.one .sc))) (.t (.one (CLe.frz e_str_len rfl rfl (by simp))))) (.t (.one .sc))) (.t (.one .sc))) (.t (.one .sc))) (.t (.one .sc))) (.t (.one (CLe.frz e_str_len rfl rfl (by simp))))) (.t (.one .sc))) (.t (.one .sc))) (.t (.one (CLe.frz e_str_len rfl rfl (by simp))))) (.t (.one .sc))) (.t (.one .sc))) an) ?_
   obtain ⟨c15, h⟩ := gdH h
   have dc15 := of_decide_eq_true c15
   refine t_sliceImm (a := 0) (b := IntKind.i64.wrap (x5 + 1)) F.u_26 F.sz_9 e_str_len rfl (by omega) (by omega) (by omega) .no (.yes rfl (by omega) rfl) ?_
   refine s_assign (d := (D.one (C.p false (.sl (sub (x3.set x5.toNat x4) 0 (IntKind.i64.wrap (x5 + 1))).length ((sub (x3.set x5.toNat x4) 0 (IntKind.i64.wrap (x5 + 1))).flatMap e_str))))) rfl (AWops.nil (AW.ret ?_))
   obtain rfl := Option.some.inj h
   exact ⟨_, rfl, (Weak.gen (kk := 0) [] [] rfl rfl (by decide) (by decide) rfl rfl rfl (le_upd (le_top _) (.t (.one .same))) an)⟩
def strings_Split_33.f (k : Nat) (a0 : ByteArray) : Option (List ByteArray) := (strings_genSplit_65x.f k a0).bind fun r1 => some r1
theorem strings_Split_33.meets (k : Nat) (a0 : ByteArray) (r : (List ByteArray)) (h : strings_Split_33.f k a0 = some r) : Meets Tryd.prog 33 [(sc (.string a0)), (sc (.string (⟨#[47]⟩ : ByteArray)))] [] (D.one (C.p false (.sl r.length (r.flatMap e_str)))) [] := by
 unfold strings_Split_33.f at h
 refine Meets.of_body (n := 8) Tryd.func33 rfl rfl (nl rfl) fun x hx => ?_
 replace hx : x.k = 0 := hx
 show AW _ x _ _ ⟨8, fr0 [(sc (.string a0)), (sc (.string (⟨#[47]⟩ : ByteArray)))], []⟩
 refine AW.seq (AW.region ?_)
 refine s_assign (d := (sc (.slice none 0 0))) rfl (AWops.nil (AW.seq (AW.region ?_)))
 refine s_move (d := (sc (.string a0))) rfl ?_
 refine s_move (d := (sc (.string (⟨#[47]⟩ : ByteArray)))) rfl ?_
 obtain ⟨r1, er1, h⟩ := bnd h
 refine s_call2 (ρ := []) (br := false) (H2 := []) (d := (D.one (C.p false (.sl r1.length (r1.flatMap e_str))))) F.ca_65 rfl rfl (ac (.one .sc) (ac (.one .sc) (ac (.one .sc) (ac (.one .sc) an)))) an (by decide) rfl (strings_genSplit_65x.meets _ a0 r1 er1) (.inl rfl) rfl rfl ?_
 refine s_assign (d := (D.one (C.p false (.sl r1.length (r1.flatMap e_str))))) rfl (AWops.nil (AW.ret ?_))
 obtain rfl := Option.some.inj h
 exact ⟨_, rfl, (Weak.gen (kk := 0) [] [] rfl rfl (by decide) (by decide) rfl rfl rfl (le_upd (le_top _) (.t (.one .same))) an)⟩
mutual
def bytealg_LastIndexByteString.l0 : Nat → Int → ByteArray → Int → Option Int
 | 0, _, _, _ => none
 | k + 1, x1, a0, a1 => if (decide (x1 ≥ 0)) = true then ((bt a0 x1).bind fun v3 => if (v3 == a1) = true then (some x1) else (bytealg_LastIndexByteString.l0 k (IntKind.i64.wrap (x1 - 1)) a0 a1)) else (some (-1))
end
def bytealg_LastIndexByteString.f (k : Nat) (a0 : ByteArray) (a1 : Int) : Option Int := bytealg_LastIndexByteString.l0 k (IntKind.i64.wrap ((a0.size : Int) - 1)) a0 a1
theorem bytealg_LastIndexByteString.meets (k : Nat) (a0 : ByteArray) (a1 : Int) (r : Int) (h : bytealg_LastIndexByteString.f k a0 a1 = some r) : Meets Tryd.prog 77 [(sc (.string a0)), (sc (.int .u8 a1))] [] (sc (.int .i64 r)) [] := by
 unfold bytealg_LastIndexByteString.f at h
 refine Meets.of_body (n := 19) Tryd.func77 rfl rfl (nl rfl) fun x hx => ?_
 replace hx : x.k = 0 := hx
 show AW _ x _ _ ⟨19, fr0 [(sc (.string a0)), (sc (.int .u8 a1))], []⟩
 refine AW.seq (AW.region ?_)
 refine s_assign (d := (sc (.int .i64 0))) rfl (AWops.nil (AW.seq (AW.seq (AW.region ?_))))
 refine s_move (d := (sc (.string a0))) rfl ?_
 refine s_len (n := a0.size) F.u_9 rfl (.inl ⟨⟨_, _, rfl⟩, rfl⟩) ?_
 refine s_binI (v := (.int .i64 (IntKind.i64.wrap ((a0.size : Int) - 1)))) rfl rfl rfl ?_
 refine s_assign (d := (sc (.int .i64 (IntKind.i64.wrap ((a0.size : Int) - 1))))) rfl (AWops.nil (AW.block ?_))
 refine AW.loopw (st0 := ⟨19, (upd 19 (upd 19 (upd 19 topF 0 (sc (.string a0))) 1 (sc (.int .u8 a1))) 5 (sc (.int .i64 (IntKind.i64.wrap ((a0.size : Int) - 1))))), []⟩) (fun kv st => kv ≤ k ∧ ∃ (x1 : Int), bytealg_LastIndexByteString.l0 kv x1 a0 a1 = some r ∧ st = ⟨19, (upd 19 (upd 19 (upd 19 topF 0 (sc (.string a0))) 1 (sc (.int .u8 a1))) 5 (sc (.int .i64 x1))), []⟩) (k := k) (Weak.gen (kk := 0) [] [] hx rfl (by decide) (by decide) rfl rfl rfl (le_upd (le_upd (le_upd (le_top _) (.t (.one .sc))) (.t (.one .sc))) (.t (.one .sc))) an) ⟨Nat.le_refl _, IntKind.i64.wrap ((a0.size : Int) - 1), h, rfl⟩ ?_
 rintro ql0 st ⟨hkl0, x1, h, rfl⟩
 cases ql0 with
 | zero => exact absurd h (by simp [bytealg_LastIndexByteString.l0])
 | succ ql0 =>
  replace h := (bytealg_LastIndexByteString.l0.eq_2 _ _ _ _).symm.trans h
  refine AW.seq (AW.seq (AW.region ?_))
  refine s_move (d := (sc (.int .i64 x1))) rfl ?_
  refine s_binI (v := (.bool (decide (x1 ≥ 0)))) rfl rfl rfl (AWops.nil ?_)
  rcases itH h with ⟨c2, h⟩ | ⟨c2, h⟩
  ·refine AW.cond_yes rfl c2 (AW.skip (AW.seq (AW.block (AW.seq (AW.region ?_)))))
   refine s_move (d := (sc (.string a0))) rfl ?_
   refine s_move (d := (sc (.int .i64 x1))) rfl ?_
   obtain ⟨v3, ev3, h⟩ := bnd h
   obtain ⟨pv3, bv3, gv3, rfl⟩ := bt_some ev3
   refine s_indexStr F.u_9 rfl rfl pv3 gv3 ?_
   generalize hzv3 : ((bv3.toNat : Nat) : Int) = v3 at *
   refine s_move (d := (sc (.int .u8 a1))) rfl ?_
   refine s_binI (v := (.bool (v3 == a1))) rfl rfl rfl (AWops.nil ?_)
   rcases itH h with ⟨c4, h⟩ | ⟨c4, h⟩
   ·refine AW.cond_yes rfl c4 (AW.seq (AW.region ?_))
    refine s_move (d := (sc (.int .i64 x1))) rfl ?_
    refine s_assign (d := (sc (.int .i64 x1))) rfl (AWops.nil (AW.ret ?_))
    obtain rfl := Option.some.inj h
    exact ⟨_, rfl, (Weak.gen (kk := 0) [] [] rfl rfl (by decide) (by decide) rfl rfl rfl (le_upd (le_top _) (.t (.one .sc))) an)⟩
   ·refine AW.cond_no rfl c4 (AW.skip (AW.region ?_))
    refine s_move (d := (sc (.int .i64 x1))) rfl ?_
    refine s_binI (v := (.int .i64 (IntKind.i64.wrap (x1 - 1)))) rfl rfl rfl ?_
    refine s_assign (d := (sc (.int .i64 (IntKind.i64.wrap (x1 - 1))))) rfl (AWops.nil ?_)
    exact ⟨_, ⟨19, (upd 19 (upd 19 (upd 19 topF 0 (sc (.string a0))) 1 (sc (.int .u8 a1))) 5 (sc (.int .i64 (IntKind.i64.wrap (x1 - 1))))), []⟩, by omega, (Weak.gen (kk := 0) [] [] hx rfl (by decide) (by decide) rfl rfl rfl (le_upd (le_upd (le_upd (le_top _) (.t (.one .sc))) (.t (.one .sc))) (.t (.one .sc))) an), by omega, IntKind.i64.wrap (x1 - 1), h, rfl⟩
  ·refine AW.cond_no rfl c2 (AW.exit (AW.seq (AW.region ?_)))
   refine s_assign (d := (sc (.int .i64 (-1)))) rfl (AWops.nil (AW.ret ?_))
   obtain rfl := Option.some.inj h
   exact ⟨_, rfl, (Weak.gen (kk := 0) [] [] rfl rfl (by decide) (by decide) rfl rfl rfl (le_upd (le_top _) (.t (.one .sc))) an)⟩
def strings_LastIndexByte.f (k : Nat) (a0 : ByteArray) (a1 : Int) : Option Int := (bytealg_LastIndexByteString.f k a0 a1).bind fun r1 => some r1
theorem strings_LastIndexByte.meets (k : Nat) (a0 : ByteArray) (a1 : Int) (r : Int) (h : strings_LastIndexByte.f k a0 a1 = some r) : Meets Tryd.prog 54 [(sc (.string a0)), (sc (.int .u8 a1))] [] (sc (.int .i64 r)) [] := by
 unfold strings_LastIndexByte.f at h
 refine Meets.of_body (n := 8) Tryd.func54 rfl rfl (nl rfl) fun x hx => ?_
 replace hx : x.k = 0 := hx
 show AW _ x _ _ ⟨8, fr0 [(sc (.string a0)), (sc (.int .u8 a1))], []⟩
 refine AW.seq (AW.region ?_)
 refine s_assign (d := (sc (.int .i64 0))) rfl (AWops.nil (AW.seq (AW.region ?_)))
 refine s_move (d := (sc (.string a0))) rfl ?_
 refine s_move (d := (sc (.int .u8 a1))) rfl ?_
 obtain ⟨r1, er1, h⟩ := bnd h
 refine s_call2 (ρ := []) (br := false) (H2 := []) (d := (sc (.int .i64 r1))) F.ca_77 rfl rfl (ac (.one .sc) (ac (.one .sc) an)) an (by decide) rfl (bytealg_LastIndexByteString.meets _ a0 a1 r1 er1) (.inl rfl) rfl rfl ?_
 refine s_assign (d := (sc (.int .i64 r1))) rfl (AWops.nil (AW.ret ?_))
 obtain rfl := Option.some.inj h
 exact ⟨_, rfl, (Weak.gen (kk := 0) [] [] rfl rfl (by decide) (by decide) rfl rfl rfl (le_upd (le_top _) (.t (.one .sc))) an)⟩
mutual
def chars_Number.j2 : Nat → Int → Int → ByteArray → Int → Option (Int × Int)
 | 0, _, _, _, _ => none
 | k + 1, x15, v2, x3, x8 => if (decide ((x3.size : Int) > 19)) = true then (some (0, 4)) else (if (decide (x8 > x15)) = true then (some (0, 4)) else (if (v2 == 45) = true then (some (IntKind.i64.wrap (0 - (IntKind.i64.wrap x8)), 0)) else (some (IntKind.i64.wrap x8, 0))))
def chars_Number.l1 : Nat → Int → Int → Int → ByteArray → Option (Int × Int)
 | 0, _, _, _, _ => none
 | k + 1, x8, x9, v2, x3 => if (decide (x9 < ((bytesI x3).length : Int))) = true then ((rd (bytesI x3) x9).bind fun v11 => if (decide (v11 < 48)) = true then (some (0, 5)) else (if (decide (v11 > 57)) = true then (some (0, 5)) else (if (decide ((x3.size : Int) > 19)) = true then (chars_Number.l1 k x8 (IntKind.i64.wrap (x9 + 1)) v2 x3) else (chars_Number.l1 k (IntKind.u64.wrap ((IntKind.u64.wrap (10 * x8)) + (IntKind.u64.wrap (IntKind.u8.wrap (v11 - 48))))) (IntKind.i64.wrap (x9 + 1)) v2 x3)))) else (if (v2 == 45) = true then (chars_Number.j2 k 9223372036854775808 v2 x3 x8) else (chars_Number.j2 k 9223372036854775807 v2 x3 x8))
def chars_Number.j4 : Nat → Int → Int → ByteArray → Int → Option (Int × Int)
 | 0, _, _, _, _ => none
 | k + 1, x26, v2, x3, x19 => if (decide ((x3.size : Int) > 19)) = true then (some (0, 4)) else (if (decide (x19 > x26)) = true then (some (0, 4)) else (if (v2 == 45) = true then (some (IntKind.i64.wrap (0 - (IntKind.i64.wrap x19)), 0)) else (some (IntKind.i64.wrap x19, 0))))
def chars_Number.l3 : Nat → Int → Int → Int → ByteArray → Option (Int × Int)
 | 0, _, _, _, _ => none
 | k + 1, x19, x20, v2, x3 => if (decide (x20 < ((bytesI x3).length : Int))) = true then ((rd (bytesI x3) x20).bind fun v22 => if (decide (v22 < 48)) = true then (some (0, 5)) else (if (decide (v22 > 57)) = true then (some (0, 5)) else (if (decide ((x3.size : Int) > 19)) = true then (chars_Number.l3 k x19 (IntKind.i64.wrap (x20 + 1)) v2 x3) else (chars_Number.l3 k (IntKind.u64.wrap ((IntKind.u64.wrap (10 * x19)) + (IntKind.u64.wrap (IntKind.u8.wrap (v22 - 48))))) (IntKind.i64.wrap (x20 + 1)) v2 x3)))) else (if (v2 == 45) = true then (chars_Number.j4 k 9223372036854775808 v2 x3 x19) else (chars_Number.j4 k 9223372036854775807 v2 x3 x19))
def chars_Number.j0 : Nat → ByteArray → ByteArray → Int → Option (Int × Int)
 | 0, _, _, _ => none
 | k + 1, x3, a0, v2 => if (x3.toList == (⟨#[]⟩ : ByteArray).toList) = true then (some (0, 5)) else ((bt x3 0).bind fun v5 => if (v5 == 48) = true then (if (decide ((a0.size : Int) > 1)) = true then (some (0, 5)) else (chars_Number.l1 k 0 0 v2 x3)) else (chars_Number.l3 k 0 0 v2 x3))
def chars_Number.l5 : Nat → Int → Int → ByteArray → Option (Int × Int)
 | 0, _, _, _ => none
 | k + 1, x34, x35, a0 => if (decide (x35 < ((bytesI a0).length : Int))) = true then ((rd (bytesI a0) x35).bind fun v37 => if (decide (v37 < 48)) = true then (some (0, 5)) else (if (decide (v37 > 57)) = true then (some (0, 5)) else (if (decide ((a0.size : Int) > 19)) = true then (chars_Number.l5 k x34 (IntKind.i64.wrap (x35 + 1)) a0) else (chars_Number.l5 k (IntKind.u64.wrap ((IntKind.u64.wrap (10 * x34)) + (IntKind.u64.wrap (IntKind.u8.wrap (v37 - 48))))) (IntKind.i64.wrap (x35 + 1)) a0)))) else (if (decide ((a0.size : Int) > 19)) = true then (some (0, 4)) else (if (decide (x34 > 9223372036854775807)) = true then (some (0, 4)) else (some (IntKind.i64.wrap x34, 0))))
def chars_Number.l6 : Nat → Int → Int → ByteArray → Option (Int × Int)
 | 0, _, _, _ => none
 | k + 1, x43, x44, a0 => if (decide (x44 < ((bytesI a0).length : Int))) = true then ((rd (bytesI a0) x44).bind fun v46 => if (decide (v46 < 48)) = true then (some (0, 5)) else (if (decide (v46 > 57)) = true then (some (0, 5)) else (if (decide ((a0.size : Int) > 19)) = true then (chars_Number.l6 k x43 (IntKind.i64.wrap (x44 + 1)) a0) else (chars_Number.l6 k (IntKind.u64.wrap ((IntKind.u64.wrap (10 * x43)) + (IntKind.u64.wrap (IntKind.u8.wrap (v46 - 48))))) (IntKind.i64.wrap (x44 + 1)) a0)))) else (if (decide ((a0.size : Int) > 19)) = true then (some (0, 4)) else (if (decide (x43 > 9223372036854775807)) = true then (some (0, 4)) else (some (IntKind.i64.wrap x43, 0))))
end
def chars_Number.f (k : Nat) (a0 : ByteArray) : Option (Int × Int) := if (decide ((a0.size : Int) > 0)) = true then ((bt a0 0).bind fun v2 => if (v2 == 45) = true then (if (decide (0 ≤ 1 ∧ 1 ≤ (a0.size : Int) ∧ (a0.size : Int) ≤ (a0.size : Int))) = true then (chars_Number.j0 k (a0.extract 1 a0.size) a0 v2) else none) else (chars_Number.j0 k a0 a0 v2)) else (if (a0.toList == (⟨#[]⟩ : ByteArray).toList) = true then (some (0, 5)) else ((bt a0 0).bind fun v31 => if (v31 == 48) = true then (if (decide ((a0.size : Int) > 1)) = true then (some (0, 5)) else (chars_Number.l5 k 0 0 a0)) else (chars_Number.l6 k 0 0 a0)))
theorem chars_Number.meets (k : Nat) (a0 : ByteArray) (r : Int × Int) (h : chars_Number.f k a0 = some r) : Meets Tryd.prog 66 [(sc (.string a0))] [] (D.tup [(sc (.int .i64 r.1)), (sc (.int .i64 r.2))]) [] := by
 unfold chars_Number.f at h
 refine Meets.of_body (n := 78) Tryd.func66 rfl rfl (nl rfl) fun x hx => ?_
 replace hx : x.k = 0 := hx
 show AW _ x _ _ ⟨78, fr0 [(sc (.string a0))], []⟩
 refine AW.seq (AW.region ?_)
 refine s_assign (d := (sc (.int .i64 0))) rfl ?_
 refine s_assign (d := (sc (.int .i64 0))) rfl (AWops.nil (AW.seq (AW.region ?_)))
 refine s_move (d := (sc (.string a0))) rfl ?_
 refine s_len (n := a0.size) F.u_9 rfl (.inl ⟨⟨_, _, rfl⟩, rfl⟩) ?_
 refine s_binI (v := (.bool (decide ((a0.size : Int) > 0)))) rfl rfl rfl ?_
 refine s_move (d := (sc (.bool (decide ((a0.size : Int) > 0))))) rfl ?_
 rcases itH h with ⟨c1, h⟩ | ⟨c1, h⟩
 ·refine AWops.guard_yes rfl (nl rfl) rfl c1 ?_
  refine s_move (d := (sc (.string a0))) rfl ?_
  refine AWops.guard_yes rfl (nl rfl) rfl c1 ?_
  obtain ⟨v2, ev2, h⟩ := bnd h
  obtain ⟨pv2, bv2, gv2, rfl⟩ := bt_some ev2
  refine s_indexStr F.u_9 rfl rfl pv2 gv2 ?_
  generalize hzv2 : ((bv2.toNat : Nat) : Int) = v2 at *
  refine AWops.guard_yes rfl (nl rfl) rfl c1 ?_
  refine s_binI (v := (.bool (v2 == 45))) rfl rfl rfl ?_
  refine s_pick_yes (d := (sc (.bool (v2 == 45)))) rfl c1 rfl ?_
  refine s_assign (d := (sc (.bool (v2 == 45)))) rfl (AWops.nil (AW.seq (AW.region ?_)))
  refine s_move (d := (sc (.string a0))) rfl ?_
  refine s_assign (d := (sc (.string a0))) rfl (AWops.nil ?_)
  refine AW.seqJ (fun st => ∃ (x3 : ByteArray), chars_Number.j0 k x3 a0 v2 = some r ∧ st = ⟨78, (upd 78 (upd 78 (upd 78 topF 0 (sc (.string a0))) 4 (sc (.bool (v2 == 45)))) 5 (sc (.string x3))), []⟩) ?_ ?_
  ·refine AW.seq (AW.region ?_)
   refine s_move (d := (sc (.bool (v2 == 45)))) rfl (AWops.nil ?_)
   rcases itH h with ⟨c3, h⟩ | ⟨c3, h⟩
   ·refine AW.cond_yes rfl c3 (AW.region ?_)
    refine s_move (d := (sc (.string a0))) rfl ?_
    obtain ⟨c4, h⟩ := gdH h
    have dc4 := of_decide_eq_true c4
    refine s_sliceStr F.u_9 rfl (.yes rfl (by omega) rfl) .no (by omega) (by omega) ?_
    refine s_assign (d := (sc (.string (a0.extract 1 a0.size)))) rfl (AWops.nil ?_)
    exact ⟨⟨78, (upd 78 (upd 78 (upd 78 topF 0 (sc (.string a0))) 4 (sc (.bool (v2 == 45)))) 5 (sc (.string (a0.extract 1 a0.size)))), []⟩, (Weak.gen (kk := 0) [] [] hx rfl (by decide) (by decide) rfl rfl rfl (le_upd (le_upd (le_upd (le_top _) (.t (.one .sc))) (.t (.one .sc))) (.t (.one .sc))) an), a0.extract 1 a0.size, h, rfl⟩
   ·refine AW.cond_no rfl c3 (AW.skip ?_)
    exact ⟨⟨78, (upd 78 (upd 78 (upd 78 topF 0 (sc (.string a0))) 4 (sc (.bool (v2 == 45)))) 5 (sc (.string a0))), []⟩, (Weak.gen (kk := 0) [] [] hx rfl (by decide) (by decide) rfl rfl rfl (le_upd (le_upd (le_upd (le_top _) (.t (.one .sc))) (.t (.one .sc))) (.t (.one .sc))) an), a0, h, rfl⟩
  ·rintro st ⟨x3, h, rfl⟩
   cases k with
   | zero => exact absurd h (by simp [chars_Number.j0])
   | succ qj0 =>
    replace h := (chars_Number.j0.eq_2 _ _ _ _).symm.trans h
    refine AW.seq (AW.seq (AW.region ?_))
    refine s_move (d := (sc (.string x3))) rfl ?_
    refine s_binS (v := (.bool (x3.toList == (⟨#[]⟩ : ByteArray).toList))) rfl rfl rfl ?_
    refine s_move (d := (sc (.bool (x3.toList == (⟨#[]⟩ : ByteArray).toList)))) rfl ?_
    rcases itH h with ⟨c4, h⟩ | ⟨c4, h⟩
    ·iterate 4 refine AWops.guard_no rfl (nl rfl) rfl c4 ?_
     iterate 3 refine AWops.guard_undef rfl rfl ?_
     refine AWops.guard_no rfl (nl rfl) rfl c4 ?_
     refine s_pick_yes (d := (sc (.bool true))) rfl c4 rfl (AWops.nil ?_)
     refine AW.cond_yes rfl rfl (AW.seq (AW.region ?_))
     refine s_assign (d := (sc (.int .i64 0))) rfl ?_
     refine s_assign (d := (sc (.int .i64 5))) rfl (AWops.nil (AW.ret ?_))
     obtain rfl := Option.some.inj h
     exact ⟨_, rfl, (Weak.gen (kk := 0) [] [] rfl rfl (by decide) (by decide) rfl rfl rfl (le_upd (le_top _) (DLe.tup (ac (TLe.one .sc) (ac (TLe.one .sc) an)))) an)⟩
    ·refine AWops.guard_yes rfl (nl rfl) rfl c4 ?_
     refine s_move (d := (sc (.string x3))) rfl ?_
     refine AWops.guard_yes rfl (nl rfl) rfl c4 ?_
     obtain ⟨v5, ev5, h⟩ := bnd h
     obtain ⟨pv5, bv5, gv5, rfl⟩ := bt_some ev5
     refine s_indexStr F.u_9 rfl rfl pv5 gv5 ?_
     generalize hzv5 : ((bv5.toNat : Nat) : Int) = v5 at *
     refine AWops.guard_yes rfl (nl rfl) rfl c4 ?_
     refine s_binI (v := (.bool (v5 == 48))) rfl rfl rfl ?_
     refine AWops.guard_yes rfl (nl rfl) rfl c4 ?_
     refine s_move (d := (sc (.bool (v5 == 48)))) rfl ?_
     rcases itH h with ⟨c6, h⟩ | ⟨c6, h⟩
     ·refine AWops.guard_yes rfl (nl rfl) rfl c6 ?_
      refine s_move (d := (sc (.string a0))) rfl ?_
      refine AWops.guard_yes rfl (nl rfl) rfl c6 ?_
      refine s_len (n := a0.size) F.u_9 rfl (.inl ⟨⟨_, _, rfl⟩, rfl⟩) ?_
      refine AWops.guard_yes rfl (nl rfl) rfl c6 ?_
      refine s_binI (v := (.bool (decide ((a0.size : Int) > 1)))) rfl rfl rfl ?_
      refine AWops.guard_yes rfl (nl rfl) rfl c4 ?_
      refine s_pick_yes (d := (sc (.bool (decide ((a0.size : Int) > 1))))) rfl c6 rfl ?_
      refine s_pick_no (d := (sc (.bool (decide ((a0.size : Int) > 1))))) rfl c4 rfl (AWops.nil ?_)
      rcases itH h with ⟨c7, h⟩ | ⟨c7, h⟩
      ·refine AW.cond_yes rfl c7 (AW.seq (AW.region ?_))
       refine s_assign (d := (sc (.int .i64 0))) rfl ?_
       refine s_assign (d := (sc (.int .i64 5))) rfl (AWops.nil (AW.ret ?_))
       obtain rfl := Option.some.inj h
       exact ⟨_, rfl, (Weak.gen (kk := 0) [] [] rfl rfl (by decide) (by decide) rfl rfl rfl (le_upd (le_top _) (DLe.tup (ac (TLe.one .sc) (ac (TLe.one .sc) an)))) an)⟩
      ·refine AW.cond_no rfl c7 (AW.skip (AW.seq (AW.region ?_)))
       refine s_assign (d := (sc (.int .u64 0))) rfl (AWops.nil (AW.seq (AW.region ?_)))
       refine s_move (d := (sc (.string x3))) rfl ?_
       refine s_len (n := x3.size) F.u_9 rfl (.inl ⟨⟨_, _, rfl⟩, rfl⟩) ?_
       refine s_binI (v := (.bool (decide ((x3.size : Int) > 19)))) rfl rfl rfl ?_
       refine s_assign (d := (sc (.bool (decide ((x3.size : Int) > 19))))) rfl (AWops.nil (AW.seq (AW.seq (AW.region ?_))))
       refine s_move (d := (sc (.string x3))) rfl ?_
       refine t_ofStr F.u_9 F.u_89 F.u_5 rfl ?_
       refine s_len (n := (bytesI x3).length) F.u_89 rfl (.inr ⟨(fun _ _ h => by cases h), ⟨_, rfl⟩⟩) ?_
       refine s_move (d := (sc (.int .i64 0))) rfl (AWops.nil (AW.block ?_))
       refine AW.loopw (st0 := ⟨78, (upd 78 (upd 78 (upd 78 (upd 78 (upd 78 (upd 78 topF 4 (sc (.bool (v2 == 45)))) 6 (sc (.int .u64 0))) 7 (sc (.bool (decide ((x3.size : Int) > 19))))) 39 (D.one (C.p false (.sl (bytesI x3).length ((bytesI x3).flatMap e_u8))))) 40 (sc (.int .i64 ((bytesI x3).length : Int)))) 41 (sc (.int .i64 0))), []⟩) (fun kv st => kv ≤ qj0 ∧ ∃ (x8 : Int) (x9 : Int), chars_Number.l1 kv x8 x9 v2 x3 = some r ∧ st = ⟨78, (upd 78 (upd 78 (upd 78 (upd 78 (upd 78 (upd 78 topF 4 (sc (.bool (v2 == 45)))) 6 (sc (.int .u64 x8))) 7 (sc (.bool (decide ((x3.size : Int) > 19))))) 39 (D.one (C.p false (.sl (bytesI x3).length ((bytesI x3).flatMap e_u8))))) 40 (sc (.int .i64 ((bytesI x3).length : Int)))) 41 (sc (.int .i64 x9))), []⟩) (k := qj0) (Weak.gen (kk := 0) [] [] hx rfl (by decide) (by decide) rfl rfl rfl (le_upd (le_upd (le_upd (le_upd (le_upd (le_upd (le_top _) (.t (.one .sc))) (.t (.one .sc))) (.t (.one .sc))) (.t (.one .same))) (.t (.one .sc))) (.t (.one .sc))) an) ⟨Nat.le_refl _, 0, 0, h, rfl⟩ ?_
       rintro ql1 st ⟨hkl1, x8, x9, h, rfl⟩
       cases ql1 with
       | zero => exact absurd h (by simp [chars_Number.l1])
       | succ ql1 =>
        replace h := (chars_Number.l1.eq_2 _ _ _ _ _).symm.trans h
        refine AW.seq (AW.region ?_)
        refine s_binI (v := (.bool (decide (x9 < ((bytesI x3).length : Int))))) rfl rfl rfl (AWops.nil (AW.seq ?_))
        rcases itH h with ⟨c10, h⟩ | ⟨c10, h⟩
        ·refine AW.cond_yes rfl c10 (AW.skip (AW.seq (AW.block (AW.seq (AW.region ?_)))))
         obtain ⟨v11, ev11, h⟩ := bnd h
         obtain ⟨pv11, qv11, gv11⟩ := rd_some ev11
         refine s_indexImm (ps := [P.v (.int .u8 v11)]) F.u_89 F.sz_5 rfl rfl pv11 qv11 (flat_at e_u8_len gv11 (e_u8_eq v11)) ?_
         refine s_load1 (c' := (C.p true (.v (.int .u8 v11)))) F.ag_5 rfl rfl ?_
         refine s_assign (d := (sc (.int .u8 v11))) rfl (AWops.nil (AW.seq (AW.seq (AW.region ?_))))
         refine s_move (d := (sc (.int .u8 v11))) rfl ?_
         refine s_binI (v := (.bool (decide (v11 < 48)))) rfl rfl rfl ?_
         refine s_move (d := (sc (.bool (decide (v11 < 48))))) rfl ?_
         rcases itH h with ⟨c12, h⟩ | ⟨c12, h⟩
         ·refine AWops.guard_no rfl (nl rfl) rfl c12 ?_
          refine AWops.guard_no rfl (nl rfl) rfl c12 ?_
          refine s_pick_yes (d := (sc (.bool true))) rfl c12 rfl (AWops.nil ?_)
          refine AW.cond_yes rfl rfl (AW.seq (AW.region ?_))
          refine s_assign (d := (sc (.int .i64 0))) rfl ?_
          refine s_assign (d := (sc (.int .i64 5))) rfl (AWops.nil (AW.ret ?_))
          obtain rfl := Option.some.inj h
          exact ⟨_, rfl, (Weak.gen (kk := 0) [] [] rfl rfl (by decide) (by decide) rfl rfl rfl (le_upd (le_top _) (DLe.tup (ac (TLe.one .sc) (ac (TLe.one .sc) an)))) an)⟩
         ·refine AWops.guard_yes rfl (nl rfl) rfl c12 ?_
          refine s_move (d := (sc (.int .u8 v11))) rfl ?_
          refine AWops.guard_yes rfl (nl rfl) rfl c12 ?_
          refine s_binI (v := (.bool (decide (v11 > 57)))) rfl rfl rfl ?_
          refine s_pick_no (d := (sc (.bool (decide (v11 > 57))))) rfl c12 rfl (AWops.nil ?_)
          rcases itH h with ⟨c13, h⟩ | ⟨c13, h⟩
          ·refine AW.cond_yes rfl c13 (AW.seq (AW.region ?_))
           refine s_assign (d := (sc (.int .i64 0))) rfl ?_
           refine s_assign (d := (sc (.int .i64 5))) rfl (AWops.nil (AW.ret ?_))
           obtain rfl := Option.some.inj h
           exact ⟨_, rfl, (Weak.gen (kk := 0) [] [] rfl rfl (by decide) (by decide) rfl rfl rfl (le_upd (le_top _) (DLe.tup (ac (TLe.one .sc) (ac (TLe.one .sc) an)))) an)⟩
          ·refine AW.cond_no rfl c13 (AW.skip (AW.seq (AW.region ?_)))
           refine s_move (d := (sc (.bool (decide ((x3.size : Int) > 19))))) rfl ?_
           refine s_not rfl (AWops.nil ?_)
           rcases itH h with ⟨c14, h⟩ | ⟨c14, h⟩
           ·refine AW.cond_no rfl (by rw [c14] <;> rfl) (AW.skip (AW.region ?_))
            refine s_binI (v := (.int .i64 (IntKind.i64.wrap (x9 + 1)))) rfl rfl rfl ?_
            refine s_move (d := (sc (.int .i64 (IntKind.i64.wrap (x9 + 1))))) rfl (AWops.nil ?_)
            exact ⟨_, ⟨78, (upd 78 (upd 78 (upd 78 (upd 78 (upd 78 (upd 78 topF 4 (sc (.bool (v2 == 45)))) 6 (sc (.int .u64 x8))) 7 (sc (.bool (decide ((x3.size : Int) > 19))))) 39 (D.one (C.p false (.sl (bytesI x3).length ((bytesI x3).flatMap e_u8))))) 40 (sc (.int .i64 ((bytesI x3).length : Int)))) 41 (sc (.int .i64 (IntKind.i64.wrap (x9 + 1))))), []⟩, by omega, (Weak.gen (kk := 0) [] [] hx rfl (by decide) (by decide) rfl rfl rfl (le_upd (le_upd (le_upd (le_upd (le_upd (le_upd (le_top _) (.t (.one .sc))) (.t (.one .sc))) (.t (.one .sc))) (.t (.one .same))) (.t (.one .sc))) (.t (.one .sc))) an), by omega, x8, IntKind.i64.wrap (x9 + 1), h, rfl⟩
           ·refine AW.cond_yes rfl (by rw [c14] <;> rfl) (AW.region ?_)
            refine s_move (d := (sc (.int .u64 x8))) rfl ?_
            refine s_binI (v := (.int .u64 (IntKind.u64.wrap (10 * x8)))) rfl rfl rfl ?_
            refine s_move (d := (sc (.int .u8 v11))) rfl ?_
            refine s_binI (v := (.int .u8 (IntKind.u8.wrap (v11 - 48)))) rfl rfl rfl ?_
            refine s_convI F.u_5 F.u_106 rfl ?_
            refine s_binI (v := (.int .u64 (IntKind.u64.wrap ((IntKind.u64.wrap (10 * x8)) + (IntKind.u64.wrap (IntKind.u8.wrap (v11 - 48))))))) rfl rfl rfl ?_
            refine s_assign (d := (sc (.int .u64 (IntKind.u64.wrap ((IntKind.u64.wrap (10 * x8)) + (IntKind.u64.wrap (IntKind.u8.wrap (v11 - 48)))))))) rfl (AWops.nil (AW.region ?_))
            refine s_binI (v := (.int .i64 (IntKind.i64.wrap (x9 + 1)))) rfl rfl rfl ?_
            refine s_move (d := (sc (.int .i64 (IntKind.i64.wrap (x9 + 1))))) rfl (AWops.nil ?_)
            exact ⟨_, ⟨78, (upd 78 (upd 78 (upd 78 (upd 78 (upd 78 (upd 78 topF 4 (sc (.bool (v2 == 45)))) 6 (sc (.int .u64 (IntKind.u64.wrap ((IntKind.u64.wrap (10 * x8)) + (IntKind.u64.wrap (IntKind.u8.wrap (v11 - 48)))))))) 7 (sc (.bool (decide ((x3.size : Int) > 19))))) 39 (D.one (C.p false (.sl (bytesI x3).length ((bytesI x3).flatMap e_u8))))) 40 (sc (.int .i64 ((bytesI x3).length : Int)))) 41 (sc (.int .i64 (IntKind.i64.wrap (x9 + 1))))), []⟩, by omega, (Weak.gen (kk := 0) [] [] hx rfl (by decide) (by decide) rfl rfl rfl (le_upd (le_upd (le_upd (le_upd (le_upd (le_upd (le_top _) (.t (.one .sc))) (.t (.one .sc))) (.t (.one .sc))) (.t (.one .same))) (.t (.one .sc))) (.t (.one .sc))) an), by omega, IntKind.u64.wrap ((IntKind.u64.wrap (10 * x8)) + (IntKind.u64.wrap (IntKind.u8.wrap (v11 - 48)))), IntKind.i64.wrap (x9 + 1), h, rfl⟩
        ·refine AW.cond_no rfl c10 (AW.exit (AW.seq (AW.region ?_)))
         refine s_assign (d := (sc (.int .u64 9223372036854775808))) rfl (AWops.nil ?_)
         refine AW.seqJ (fun st => ∃ (x15 : Int), chars_Number.j2 ql1 x15 v2 x3 x8 = some r ∧ st = ⟨78, (upd 78 (upd 78 (upd 78 (upd 78 topF 4 (sc (.bool (v2 == 45)))) 6 (sc (.int .u64 x8))) 7 (sc (.bool (decide ((x3.size : Int) > 19))))) 10 (sc (.int .u64 x15))), []⟩) ?_ ?_
         ·refine AW.seq (AW.region ?_)
          refine s_move (d := (sc (.bool (v2 == 45)))) rfl ?_
          refine s_not rfl (AWops.nil ?_)
          rcases itH h with ⟨c15, h⟩ | ⟨c15, h⟩
          ·refine AW.cond_no rfl (by rw [c15] <;> rfl) (AW.skip ?_)
           exact ⟨⟨78, (upd 78 (upd 78 (upd 78 (upd 78 topF 4 (sc (.bool (v2 == 45)))) 6 (sc (.int .u64 x8))) 7 (sc (.bool (decide ((x3.size : Int) > 19))))) 10 (sc (.int .u64 9223372036854775808))), []⟩, (Weak.gen (kk := 0) [] [] hx rfl (by decide) (by decide) rfl rfl rfl (le_upd (le_upd (le_upd (le_upd (le_top _) (.t (.one .sc))) (.t (.one .sc))) (.t (.one .sc))) (.t (.one .sc))) an), 9223372036854775808, h, rfl⟩
          ·refine AW.cond_yes rfl (by rw [c15] <;> rfl) (AW.region ?_)
           refine s_move (d := (sc (.int .u64 9223372036854775808))) rfl ?_
           refine s_binI (v := (.int .u64 9223372036854775807)) rfl rfl (by rfl) ?_
           refine s_assign (d := (sc (.int .u64 9223372036854775807))) rfl (AWops.nil ?_)
           exact ⟨⟨78, (upd 78 (upd 78 (upd 78 (upd 78 topF 4 (sc (.bool (v2 == 45)))) 6 (sc (.int .u64 x8))) 7 (sc (.bool (decide ((x3.size : Int) > 19))))) 10 (sc (.int .u64 9223372036854775807))), []⟩, (Weak.gen (kk := 0) [] [] hx rfl (by decide) (by decide) rfl rfl rfl (le_upd (le_upd (le_upd (le_upd (le_top _) (.t (.one .sc))) (.t (.one .sc))) (.t (.one .sc))) (.t (.one .sc))) an), 9223372036854775807, h, rfl⟩
         ·rintro st ⟨x15, h, rfl⟩
          cases ql1 with
          | zero => exact absurd h (by simp [chars_Number.j2])
          | succ qj2 =>
           replace h := (chars_Number.j2.eq_2 _ _ _ _ _).symm.trans h
           refine AW.seq (AW.block (AW.seq (AW.region ?_)))
           refine s_move (d := (sc (.bool (decide ((x3.size : Int) > 19))))) rfl ?_
           refine s_move (d := (sc (.bool (decide ((x3.size : Int) > 19))))) rfl ?_
           rcases itH h with ⟨c16, h⟩ | ⟨c16, h⟩
           ·iterate 3 refine AWops.guard_no rfl (nl rfl) rfl c16 ?_
            refine s_pick_yes (d := (sc (.bool true))) rfl c16 rfl ?_
            refine s_assign (d := (sc (.bool true))) rfl (AWops.nil ?_)
            refine AW.cond_yes rfl rfl (AW.seq (AW.region ?_))
            refine s_assign (d := (sc (.int .i64 0))) rfl ?_
            refine s_assign (d := (sc (.int .i64 4))) rfl (AWops.nil (AW.ret ?_))
            obtain rfl := Option.some.inj h
            exact ⟨_, rfl, (Weak.gen (kk := 0) [] [] rfl rfl (by decide) (by decide) rfl rfl rfl (le_upd (le_top _) (DLe.tup (ac (TLe.one .sc) (ac (TLe.one .sc) an)))) an)⟩
           ·refine AWops.guard_yes rfl (nl rfl) rfl c16 ?_
            refine s_move (d := (sc (.int .u64 x8))) rfl ?_
            refine AWops.guard_yes rfl (nl rfl) rfl c16 ?_
            refine s_move (d := (sc (.int .u64 x15))) rfl ?_
            refine AWops.guard_yes rfl (nl rfl) rfl c16 ?_
            refine s_binI (v := (.bool (decide (x8 > x15)))) rfl rfl rfl ?_
            refine s_pick_no (d := (sc (.bool (decide (x8 > x15))))) rfl c16 rfl ?_
            refine s_assign (d := (sc (.bool (decide (x8 > x15))))) rfl (AWops.nil ?_)
            rcases itH h with ⟨c17, h⟩ | ⟨c17, h⟩
            ·refine AW.cond_yes rfl c17 (AW.seq (AW.region ?_))
             refine s_assign (d := (sc (.int .i64 0))) rfl ?_
             refine s_assign (d := (sc (.int .i64 4))) rfl (AWops.nil (AW.ret ?_))
             obtain rfl := Option.some.inj h
             exact ⟨_, rfl, (Weak.gen (kk := 0) [] [] rfl rfl (by decide) (by decide) rfl rfl rfl (le_upd (le_top _) (DLe.tup (ac (TLe.one .sc) (ac (TLe.one .sc) an)))) an)⟩
            ·refine AW.cond_no rfl c17 (AW.seq (AW.region ?_))
             refine s_move (d := (sc (.bool (v2 == 45)))) rfl ?_
             refine s_assign (d := (sc (.bool (v2 == 45)))) rfl (AWops.nil ?_)
             rcases itH h with ⟨c18, h⟩ | ⟨c18, h⟩
             ·refine AW.cond_yes rfl c18 (AW.seq (AW.region ?_))
              refine s_move (d := (sc (.int .u64 x8))) rfl ?_
              refine s_convI F.u_106 F.u_3 rfl ?_
              refine s_unI (v := (.int .i64 (IntKind.i64.wrap (0 - (IntKind.i64.wrap x8))))) rfl rfl ?_
              refine s_assign (d := (sc (.int .i64 (IntKind.i64.wrap (0 - (IntKind.i64.wrap x8)))))) rfl ?_
              refine s_assign (d := (sc (.int .i64 0))) rfl (AWops.nil (AW.ret ?_))
              obtain rfl := Option.some.inj h
              exact ⟨_, rfl, (Weak.gen (kk := 0) [] [] rfl rfl (by decide) (by decide) rfl rfl rfl (le_upd (le_top _) (DLe.tup (ac (TLe.one .sc) (ac (TLe.one .sc) an)))) an)⟩
             ·refine AW.cond_no rfl c18 (AW.skip (AW.seq (AW.region ?_)))
              refine s_move (d := (sc (.int .u64 x8))) rfl ?_
              refine s_convI F.u_106 F.u_3 rfl ?_
              refine s_assign (d := (sc (.int .i64 (IntKind.i64.wrap x8)))) rfl ?_
              refine s_assign (d := (sc (.int .i64 0))) rfl (AWops.nil (AW.ret ?_))
              obtain rfl := Option.some.inj h
              exact ⟨_, rfl, (Weak.gen (kk := 0) [] [] rfl rfl (by decide) (by decide) rfl rfl rfl (le_upd (le_top _) (DLe.tup (ac (TLe.one .sc) (ac (TLe.one .sc) an)))) an)⟩
     ·iterate 3 refine AWops.guard_no rfl (nl rfl) rfl c6 ?_
      refine AWops.guard_yes rfl (nl rfl) rfl c4 ?_
      refine s_pick_no (d := (sc (.bool false))) rfl c6 rfl ?_
      refine s_pick_no (d := (sc (.bool false))) rfl c4 rfl (AWops.nil ?_)
      refine AW.cond_no rfl rfl (AW.skip (AW.seq (AW.region ?_)))
      refine s_assign (d := (sc (.int .u64 0))) rfl (AWops.nil (AW.seq (AW.region ?_)))
      refine s_move (d := (sc (.string x3))) rfl ?_
      refine s_len (n := x3.size) F.u_9 rfl (.inl ⟨⟨_, _, rfl⟩, rfl⟩) ?_
      refine s_binI (v := (.bool (decide ((x3.size : Int) > 19)))) rfl rfl rfl ?_
      refine s_assign (d := (sc (.bool (decide ((x3.size : Int) > 19))))) rfl (AWops.nil (AW.seq (AW.seq (AW.region ?_))))
      refine s_move (d := (sc (.string x3))) rfl ?_
      refine t_ofStr F.u_9 F.u_89 F.u_5 rfl ?_
      refine s_len (n := (bytesI x3).length) F.u_89 rfl (.inr ⟨(fun _ _ h => by cases h), ⟨_, rfl⟩⟩) ?_
      refine s_move (d := (sc (.int .i64 0))) rfl (AWops.nil (AW.block ?_))
      refine AW.loopw (st0 := ⟨78, (upd 78 (upd 78 (upd 78 (upd 78 (upd 78 (upd 78 topF 4 (sc (.bool (v2 == 45)))) 6 (sc (.int .u64 0))) 7 (sc (.bool (decide ((x3.size : Int) > 19))))) 39 (D.one (C.p false (.sl (bytesI x3).length ((bytesI x3).flatMap e_u8))))) 40 (sc (.int .i64 ((bytesI x3).length : Int)))) 41 (sc (.int .i64 0))), []⟩) (fun kv st => kv ≤ qj0 ∧ ∃ (x19 : Int) (x20 : Int), chars_Number.l3 kv x19 x20 v2 x3 = some r ∧ st = ⟨78, (upd 78 (upd 78 (upd 78 (upd 78 (upd 78 (upd 78 topF 4 (sc (.bool (v2 == 45)))) 6 (sc (.int .u64 x19))) 7 (sc (.bool (decide ((x3.size : Int) > 19))))) 39 (D.one (C.p false (.sl (bytesI x3).length ((bytesI x3).flatMap e_u8))))) 40 (sc (.int .i64 ((bytesI x3).length : Int)))) 41 (sc (.int .i64 x20))), []⟩) (k := qj0) (Weak.gen (kk := 0) [] [] hx rfl (by decide) (by decide) rfl rfl rfl (le_upd (le_upd (le_upd (le_upd (le_upd (le_upd (le_top _) (.t (.one .sc))) (.t (.one .sc))) (.t (.one .sc))) (.t (.one .same))) (.t (.one .sc))) (.t (.one .sc))) an) ⟨Nat.le_refl _, 0, 0, h, rfl⟩ ?_
      rintro ql3 st ⟨hkl3, x19, x20, h, rfl⟩
      cases ql3 with
      | zero => exact absurd h (by simp [chars_Number.l3])
      | succ ql3 =>
       replace h := (chars_Number.l3.eq_2 _ _ _ _ _).symm.trans h
       refine AW.seq (AW.region ?_)
       refine s_binI (v := (.bool (decide (x20 < ((bytesI x3).length : Int))))) rfl rfl rfl (AWops.nil (AW.seq ?_))
       rcases itH h with ⟨c21, h⟩ | ⟨c21, h⟩
       ·refine AW.cond_yes rfl c21 (AW.skip (AW.seq (AW.block (AW.seq (AW.region ?_)))))
        obtain ⟨v22, ev22, h⟩ := bnd h
        obtain ⟨pv22, qv22, gv22⟩ := rd_some ev22
        refine s_indexImm (ps := [P.v (.int .u8 v22)]) F.u_89 F.sz_5 rfl rfl pv22 qv22 (flat_at e_u8_len gv22 (e_u8_eq v22)) ?_
        refine s_load1 (c' := (C.p true (.v (.int .u8 v22)))) F.ag_5 rfl rfl ?_
        refine s_assign (d := (sc (.int .u8 v22))) rfl (AWops.nil (AW.seq (AW.seq (AW.region ?_))))
        refine s_move (d := (sc (.int .u8 v22))) rfl ?_
        refine s_binI (v := (.bool (decide (v22 < 48)))) rfl rfl rfl ?_
        refine s_move (d := (sc (.bool (decide (v22 < 48))))) rfl ?_
        rcases itH h with ⟨c23, h⟩ | ⟨c23, h⟩
        ·refine AWops.guard_no rfl (nl rfl) rfl c23 ?_
         refine AWops.guard_no rfl (nl rfl) rfl c23 ?_
         refine s_pick_yes (d := (sc (.bool true))) rfl c23 rfl (AWops.nil ?_)
         refine AW.cond_yes rfl rfl (AW.seq (AW.region ?_))
         refine s_assign (d := (sc (.int .i64 0))) rfl ?_
         refine s_assign (d := (sc (.int .i64 5))) rfl (AWops.nil (AW.ret ?_))
         obtain rfl := Option.some.inj h
         exact ⟨_, rfl, (Weak.gen (kk := 0) [] [] rfl rfl (by decide) (by decide) rfl rfl rfl (le_upd (le_top _) (DLe.tup (ac (TLe.one .sc) (ac (TLe.one .sc) an)))) an)⟩
        ·refine AWops.guard_yes rfl (nl rfl) rfl c23 ?_
         refine s_move (d := (sc (.int .u8 v22))) rfl ?_
         refine AWops.guard_yes rfl (nl rfl) rfl c23 ?_
         refine s_binI (v := (.bool (decide (v22 > 57)))) rfl rfl rfl ?_
         refine s_pick_no (d := (sc (.bool (decide (v22 > 57))))) rfl c23 rfl (AWops.nil ?_)
         rcases itH h with ⟨c24, h⟩ | ⟨c24, h⟩
         ·refine AW.cond_yes rfl c24 (AW.seq (AW.region ?_))
          refine s_assign (d := (sc (.int .i64 0))) rfl ?_
          refine s_assign (d := (sc (.int .i64 5))) rfl (AWops.nil (AW.ret ?_))
          obtain rfl := Option.some.inj h
          exact ⟨_, rfl, (Weak.gen (kk := 0) [] [] rfl rfl (by decide) (by decide) rfl rfl rfl (le_upd (le_top _) (DLe.tup (ac (TLe.one .sc) (ac (TLe.one .sc) an)))) an)⟩
         ·refine AW.cond_no rfl c24 (AW.skip (AW.seq (AW.region ?_)))
          refine s_move (d := (sc (.bool (decide ((x3.size : Int) > 19))))) rfl ?_
          refine s_not rfl (AWops.nil ?_)
          rcases itH h with ⟨c25, h⟩ | ⟨c25, h⟩
          ·refine AW.cond_no rfl (by rw [c25] <;> rfl) (AW.skip (AW.region ?_))
           refine s_binI (v := (.int .i64 (IntKind.i64.wrap (x20 + 1)))) rfl rfl rfl ?_
           refine s_move (d := (sc (.int .i64 (IntKind.i64.wrap (x20 + 1))))) rfl (AWops.nil ?_)
           exact ⟨_, ⟨78, (upd 78 (upd 78 (upd 78 (upd 78 (upd 78 (upd 78 topF 4 (sc (.bool (v2 == 45)))) 6 (sc (.int .u64 x19))) 7 (sc (.bool (decide ((x3.size : Int) > 19))))) 39 (D.one (C.p false (.sl (bytesI x3).length ((bytesI x3).flatMap e_u8))))) 40 (sc (.int .i64 ((bytesI x3).length : Int)))) 41 (sc (.int .i64 (IntKind.i64.wrap (x20 + 1))))), []⟩, by omega, (Weak.gen (kk := 0) [] [] hx rfl (by decide) (by decide) rfl rfl rfl (le_upd (le_upd (le_upd (le_upd (le_upd (le_upd (le_top _) (.t (.one .sc))) (.t (.one .sc))) (.t (.one .sc))) (.t (.one .same))) (.t (.one .sc))) (.t (.one .sc))) an), by omega, x19, IntKind.i64.wrap (x20 + 1), h, rfl⟩
          ·refine AW.cond_yes rfl (by rw [c25] <;> rfl) (AW.region ?_)
           refine s_move (d := (sc (.int .u64 x19))) rfl ?_
           refine s_binI (v := (.int .u64 (IntKind.u64.wrap (10 * x19)))) rfl rfl rfl ?_
           refine s_move (d := (sc (.int .u8 v22))) rfl ?_
           refine s_binI (v := (.int .u8 (IntKind.u8.wrap (v22 - 48)))) rfl rfl rfl ?_
           refine s_convI F.u_5 F.u_106 rfl ?_
           refine s_binI (v := (.int .u64 (IntKind.u64.wrap ((IntKind.u64.wrap (10 * x19)) + (IntKind.u64.wrap (IntKind.u8.wrap (v22 - 48))))))) rfl rfl rfl ?_
           refine s_assign (d := (sc (.int .u64 (IntKind.u64.wrap ((IntKind.u64.wrap (10 * x19)) + (IntKind.u64.wrap (IntKind.u8.wrap (v22 - 48)))))))) rfl (AWops.nil (AW.region ?_))
           refine s_binI (v := (.int .i64 (IntKind.i64.wrap (x20 + 1)))) rfl rfl rfl ?_
           refine s_move (d := (sc (.int .i64 (IntKind.i64.wrap (x20 + 1))))) rfl (AWops.nil ?_)
           exact ⟨_, ⟨78, (upd 78 (upd 78 (upd 78 (upd 78 (upd 78 (upd 78 topF 4 (sc (.bool (v2 == 45)))) 6 (sc (.int .u64 (IntKind.u64.wrap ((IntKind.u64.wrap (10 * x19)) + (IntKind.u64.wrap (IntKind.u8.wrap (v22 - 48)))))))) 7 (sc (.bool (decide ((x3.size : Int) > 19))))) 39 (D.one (C.p false (.sl (bytesI x3).length ((bytesI x3).flatMap e_u8))))) 40 (sc (.int .i64 ((bytesI x3).length : Int)))) 41 (sc (.int .i64 (IntKind.i64.wrap (x20 + 1))))), []⟩, by omega, (Weak.gen (kk := 0) [] [] hx rfl (by decide) (by decide) rfl rfl rfl (le_upd (le_upd (le_upd (le_upd (le_upd (le_upd (le_top _) (.t (.one .sc))) (.t (.one .sc))) (.t (.one .sc))) (.t (.one .same))) (.t (.one .sc))) (.t (.one .sc))) an), by omega, IntKind.u64.wrap ((IntKind.u64.wrap (10 * x19)) + (IntKind.u64.wrap (IntKind.u8.wrap (v22 - 48)))), IntKind.i64.wrap (x20 + 1), h, rfl⟩
       ·refine AW.cond_no rfl c21 (AW.exit (AW.seq (AW.region ?_)))
        refine s_assign (d := (sc (.int .u64 9223372036854775808))) rfl (AWops.nil ?_)
        refine AW.seqJ (fun st => ∃ (x26 : Int), chars_Number.j4 ql3 x26 v2 x3 x19 = some r ∧ st = ⟨78, (upd 78 (upd 78 (upd 78 (upd 78 topF 4 (sc (.bool (v2 == 45)))) 6 (sc (.int .u64 x19))) 7 (sc (.bool (decide ((x3.size : Int) > 19))))) 10 (sc (.int .u64 x26))), []⟩) ?_ ?_
        ·refine AW.seq (AW.region ?_)
         refine s_move (d := (sc (.bool (v2 == 45)))) rfl ?_
         refine s_not rfl (AWops.nil ?_)
         rcases itH h with ⟨c26, h⟩ | ⟨c26, h⟩
         ·refine AW.cond_no rfl (by rw [c26] <;> rfl) (AW.skip ?_)
          exact ⟨⟨78, (upd 78 (upd 78 (upd 78 (upd 78 topF 4 (sc (.bool (v2 == 45)))) 6 (sc (.int .u64 x19))) 7 (sc (.bool (decide ((x3.size : Int) > 19))))) 10 (sc (.int .u64 9223372036854775808))), []⟩, (Weak.gen (kk := 0) [] [] hx rfl (by decide) (by decide) rfl rfl rfl (le_upd (le_upd (le_upd (le_upd (le_top _) (.t (.one .sc))) (.t (.one .sc))) (.t (.one .sc))) (.t (.one .sc))) an), 9223372036854775808, h, rfl⟩
         ·refine AW.cond_yes rfl (by rw [c26] <;> rfl) (AW.region ?_)
          refine s_move (d := (sc (.int .u64 9223372036854775808))) rfl ?_
          refine s_binI (v := (.int .u64 9223372036854775807)) rfl rfl (by rfl) ?_
          refine s_assign (d := (sc (.int .u64 9223372036854775807))) rfl (AWops.nil ?_)
          exact ⟨⟨78, (upd 78 (upd 78 (upd 78 (upd 78 topF 4 (sc (.bool (v2 == 45)))) 6 (sc (.int .u64 x19))) 7 (sc (.bool (decide ((x3.size : Int) > 19))))) 10 (sc (.int .u64 9223372036854775807))), []⟩, (Weak.gen (kk := 0) [] [] hx rfl (by decide) (by decide) rfl rfl rfl (le_upd (le_upd (le_upd (le_upd (le_top _) (.t (.one .sc))) (.t (.one .sc))) (.t (.one .sc))) (.t (.one .sc))) an), 9223372036854775807, h, rfl⟩
        ·rintro st ⟨x26, h, rfl⟩
         cases ql3 with
         | zero => exact absurd h (by simp [chars_Number.j4])
         | succ qj4 =>
          replace h := (chars_Number.j4.eq_2 _ _ _ _ _).symm.trans h
          refine AW.seq (AW.block (AW.seq (AW.region ?_)))
          refine s_move (d := (sc (.bool (decide ((x3.size : Int) > 19))))) rfl ?_
          refine s_move (d := (sc (.bool (decide ((x3.size : Int) > 19))))) rfl ?_
          rcases itH h with ⟨c27, h⟩ | ⟨c27, h⟩
          ·iterate 3 refine AWops.guard_no rfl (nl rfl) rfl c27 ?_
           refine s_pick_yes (d := (sc (.bool true))) rfl c27 rfl ?_
           refine s_assign (d := (sc (.bool true))) rfl (AWops.nil ?_)
           refine AW.cond_yes rfl rfl (AW.seq (AW.region ?_))
           refine s_assign (d := (sc (.int .i64 0))) rfl ?_
           refine s_assign (d := (sc (.int .i64 4))) rfl (AWops.nil (AW.ret ?_))
           obtain rfl := Option.some.inj h
           exact ⟨_, rfl, (Weak.gen (kk := 0) [] [] rfl rfl (by decide) (by decide) rfl rfl rfl (le_upd (le_top _) (DLe.tup (ac (TLe.one .sc) (ac (TLe.one .sc) an)))) an)⟩
          ·refine AWops.guard_yes rfl (nl rfl) rfl c27 ?_
           refine s_move (d := (sc (.int .u64 x19))) rfl ?_
           refine AWops.guard_yes rfl (nl rfl) rfl c27 ?_
           refine s_move (d := (sc (.int .u64 x26))) rfl ?_
           refine AWops.guard_yes rfl (nl rfl) rfl c27 ?_
           refine s_binI (v := (.bool (decide (x19 > x26)))) rfl rfl rfl ?_
           refine s_pick_no (d := (sc (.bool (decide (x19 > x26))))) rfl c27 rfl ?_
           refine s_assign (d := (sc (.bool (decide (x19 > x26))))) rfl (AWops.nil ?_)
           rcases itH h with ⟨c28, h⟩ | ⟨c28, h⟩
           ·refine AW.cond_yes rfl c28 (AW.seq (AW.region ?_))
            refine s_assign (d := (sc (.int .i64 0))) rfl ?_
            refine s_assign (d := (sc (.int .i64 4))) rfl (AWops.nil (AW.ret ?_))
            obtain rfl := Option.some.inj h
            exact ⟨_, rfl, (Weak.gen (kk := 0) [] [] rfl rfl (by decide) (by decide) rfl rfl rfl (le_upd (le_top _) (DLe.tup (ac (TLe.one .sc) (ac (TLe.one .sc) an)))) an)⟩
           ·refine AW.cond_no rfl c28 (AW.seq (AW.region ?_))
            refine s_move (d := (sc (.bool (v2 == 45)))) rfl ?_
            refine s_assign (d := (sc (.bool (v2 == 45)))) rfl (AWops.nil ?_)
            rcases itH h with ⟨c29, h⟩ | ⟨c29, h⟩
            ·refine AW.cond_yes rfl c29 (AW.seq (AW.region ?_))
             refine s_move (d := (sc (.int .u64 x19))) rfl ?_
             refine s_convI F.u_106 F.u_3 rfl ?_
             refine s_unI (v := (.int .i64 (IntKind.i64.wrap (0 - (IntKind.i64.wrap x19))))) rfl rfl ?_
             refine s_assign (d := (sc (.int .i64 (IntKind.i64.wrap (0 - (IntKind.i64.wrap x19)))))) rfl ?_
             refine s_assign (d := (sc (.int .i64 0))) rfl (AWops.nil (AW.ret ?_))
             obtain rfl := Option.some.inj h
             exact ⟨_, rfl, (Weak.gen (kk := 0) [] [] rfl rfl (by decide) (by decide) rfl rfl rfl (le_upd (le_top _) (DLe.tup (ac (TLe.one .sc) (ac (TLe.one .sc) an)))) an)⟩
            ·refine AW.cond_no rfl c29 (AW.skip (AW.seq (AW.region ?_)))
             refine s_move (d := (sc (.int .u64 x19))) rfl ?_
             refine s_convI F.u_106 F.u_3 rfl ?_
             refine s_assign (d := (sc (.int .i64 (IntKind.i64.wrap x19)))) rfl ?_
             refine s_assign (d := (sc (.int .i64 0))) rfl (AWops.nil (AW.ret ?_))
             obtain rfl := Option.some.inj h
             exact ⟨_, rfl, (Weak.gen (kk := 0) [] [] rfl rfl (by decide) (by decide) rfl rfl rfl (le_upd (le_top _) (DLe.tup (ac (TLe.one .sc) (ac (TLe.one .sc) an)))) an)⟩
 ·iterate 3 refine AWops.guard_no rfl (nl rfl) rfl c1 ?_
  refine s_pick_no (d := (sc (.bool false))) rfl c1 rfl ?_
  refine s_assign (d := (sc (.bool false))) rfl (AWops.nil (AW.seq (AW.region ?_)))
  refine s_move (d := (sc (.string a0))) rfl ?_
  refine s_assign (d := (sc (.string a0))) rfl (AWops.nil (AW.seq (AW.seq (AW.region ?_))))
  refine s_move (d := (sc (.bool false))) rfl (AWops.nil ?_)
  refine AW.cond_no rfl rfl (AW.skip (AW.seq (AW.seq (AW.region ?_))))
  refine s_move (d := (sc (.string a0))) rfl ?_
  refine s_binS (v := (.bool (a0.toList == (⟨#[]⟩ : ByteArray).toList))) rfl rfl rfl ?_
  refine s_move (d := (sc (.bool (a0.toList == (⟨#[]⟩ : ByteArray).toList)))) rfl ?_
  rcases itH h with ⟨c30, h⟩ | ⟨c30, h⟩
  ·iterate 4 refine AWops.guard_no rfl (nl rfl) rfl c30 ?_
   iterate 3 refine AWops.guard_undef rfl rfl ?_
   refine AWops.guard_no rfl (nl rfl) rfl c30 ?_
   refine s_pick_yes (d := (sc (.bool true))) rfl c30 rfl (AWops.nil ?_)
   refine AW.cond_yes rfl rfl (AW.seq (AW.region ?_))
   refine s_assign (d := (sc (.int .i64 0))) rfl ?_
   refine s_assign (d := (sc (.int .i64 5))) rfl (AWops.nil (AW.ret ?_))
   obtain rfl := Option.some.inj h
   exact ⟨_, rfl, (Weak.gen (kk := 0) [] [] rfl rfl (by decide) (by decide) rfl rfl rfl (le_upd (le_top _) (DLe.tup (ac (TLe.one .sc) (ac (TLe.one .sc) an)))) an)⟩
  ·refine AWops.guard_yes rfl (nl rfl) rfl c30 ?_
   refine s_move (d := (sc (.string a0))) rfl ?_
   refine AWops.guard_yes rfl (nl rfl) rfl c30 ?_
   obtain ⟨v31, ev31, h⟩ := bnd h
   obtain ⟨pv31, bv31, gv31, rfl⟩ := bt_some ev31
   refine s_indexStr F.u_9 rfl rfl pv31 gv31 ?_
   generalize hzv31 : ((bv31.toNat : Nat) : Int) = v31 at *
   refine AWops.guard_yes rfl (nl rfl) rfl c30 ?_
   refine s_binI (v := (.bool (v31 == 48))) rfl rfl rfl ?_
   refine AWops.guard_yes rfl (nl rfl) rfl c30 ?_
   refine s_move (d := (sc (.bool (v31 == 48)))) rfl ?_
   rcases itH h with ⟨c32, h⟩ | ⟨c32, h⟩
   ·refine AWops.guard_yes rfl (nl rfl) rfl c32 ?_
    refine s_move (d := (sc (.string a0))) rfl ?_
    refine AWops.guard_yes rfl (nl rfl) rfl c32 ?_
    refine s_len (n := a0.size) F.u_9 rfl (.inl ⟨⟨_, _, rfl⟩, rfl⟩) ?_
    refine AWops.guard_yes rfl (nl rfl) rfl c32 ?_
    refine s_binI (v := (.bool (decide ((a0.size : Int) > 1)))) rfl rfl rfl ?_
    refine AWops.guard_yes rfl (nl rfl) rfl c30 ?_
    refine s_pick_yes (d := (sc (.bool (decide ((a0.size : Int) > 1))))) rfl c32 rfl ?_
    refine s_pick_no (d := (sc (.bool (decide ((a0.size : Int) > 1))))) rfl c30 rfl (AWops.nil ?_)
    rcases itH h with ⟨c33, h⟩ | ⟨c33, h⟩
    ·refine AW.cond_yes rfl c33 (AW.seq (AW.region ?_))
     refine s_assign (d := (sc (.int .i64 0))) rfl ?_
     refine s_assign (d := (sc (.int .i64 5))) rfl (AWops.nil (AW.ret ?_))
     obtain rfl := Option.some.inj h
     exact ⟨_, rfl, (Weak.gen (kk := 0) [] [] rfl rfl (by decide) (by decide) rfl rfl rfl (le_upd (le_top _) (DLe.tup (ac (TLe.one .sc) (ac (TLe.one .sc) an)))) an)⟩
    ·refine AW.cond_no rfl c33 (AW.skip (AW.seq (AW.region ?_)))
     refine s_assign (d := (sc (.int .u64 0))) rfl (AWops.nil (AW.seq (AW.region ?_)))
     refine s_move (d := (sc (.string a0))) rfl ?_
     refine s_len (n := a0.size) F.u_9 rfl (.inl ⟨⟨_, _, rfl⟩, rfl⟩) ?_
     refine s_binI (v := (.bool (decide ((a0.size : Int) > 19)))) rfl rfl rfl ?_
     refine s_assign (d := (sc (.bool (decide ((a0.size : Int) > 19))))) rfl (AWops.nil (AW.seq (AW.seq (AW.region ?_))))
     refine s_move (d := (sc (.string a0))) rfl ?_
     refine t_ofStr F.u_9 F.u_89 F.u_5 rfl ?_
     refine s_len (n := (bytesI a0).length) F.u_89 rfl (.inr ⟨(fun _ _ h => by cases h), ⟨_, rfl⟩⟩) ?_
     refine s_move (d := (sc (.int .i64 0))) rfl (AWops.nil (AW.block ?_))
     refine AW.loopw (st0 := ⟨78, (upd 78 (upd 78 (upd 78 (upd 78 (upd 78 (upd 78 topF 4 (sc (.bool false))) 6 (sc (.int .u64 0))) 7 (sc (.bool (decide ((a0.size : Int) > 19))))) 39 (D.one (C.p false (.sl (bytesI a0).length ((bytesI a0).flatMap e_u8))))) 40 (sc (.int .i64 ((bytesI a0).length : Int)))) 41 (sc (.int .i64 0))), []⟩) (fun kv st => kv ≤ k ∧ ∃ (x34 : Int) (x35 : Int), chars_Number.l5 kv x34 x35 a0 = some r ∧ st = ⟨78, (upd 78 (upd 78 (upd 78 (upd 78 (upd 78 (upd 78 topF 4 (sc (.bool false))) 6 (sc (.int .u64 x34))) 7 (sc (.bool (decide ((a0.size : Int) > 19))))) 39 (D.one (C.p false (.sl (bytesI a0).length ((bytesI a0).flatMap e_u8))))) 40 (sc (.int .i64 ((bytesI a0).length : Int)))) 41 (sc (.int .i64 x35))), []⟩) (k := k) (Weak.gen (kk := 0) [] [] hx rfl (by decide) (by decide) rfl rfl rfl (le_upd (le_upd (le_upd (le_upd (le_upd (le_upd (le_top _) (.t (.one .sc))) (.t (.one .sc))) (.t (.one .sc))) (.t (.one .same))) (.t (.one .sc))) (.t (.one .sc))) an) ⟨Nat.le_refl _, 0, 0, h, rfl⟩ ?_
     rintro ql5 st ⟨hkl5, x34, x35, h, rfl⟩
     cases ql5 with
     | zero => exact absurd h (by simp [chars_Number.l5])
     | succ ql5 =>
      replace h := (chars_Number.l5.eq_2 _ _ _ _).symm.trans h
      refine AW.seq (AW.region ?_)
      refine s_binI (v := (.bool (decide (x35 < ((bytesI a0).length : Int))))) rfl rfl rfl (AWops.nil (AW.seq ?_))
      rcases itH h with ⟨c36, h⟩ | ⟨c36, h⟩
      ·refine AW.cond_yes rfl c36 (AW.skip (AW.seq (AW.block (AW.seq (AW.region ?_)))))
       obtain ⟨v37, ev37, h⟩ := bnd h
       obtain ⟨pv37, qv37, gv37⟩ := rd_some ev37
       refine s_indexImm (ps := [P.v (.int .u8 v37)]) F.u_89 F.sz_5 rfl rfl pv37 qv37 (flat_at e_u8_len gv37 (e_u8_eq v37)) ?_
       refine s_load1 (c' := (C.p true (.v (.int .u8 v37)))) F.ag_5 rfl rfl ?_
       refine s_assign (d := (sc (.int .u8 v37))) rfl (AWops.nil (AW.seq (AW.seq (AW.region ?_))))
       refine s_move (d := (sc (.int .u8 v37))) rfl ?_
       refine s_binI (v := (.bool (decide (v37 < 48)))) rfl rfl rfl ?_
       refine s_move (d := (sc (.bool (decide (v37 < 48))))) rfl ?_
       rcases itH h with ⟨c38, h⟩ | ⟨c38, h⟩
       ·refine AWops.guard_no rfl (nl rfl) rfl c38 ?_
        refine AWops.guard_no rfl (nl rfl) rfl c38 ?_
        refine s_pick_yes (d := (sc (.bool true))) rfl c38 rfl (AWops.nil ?_)
        refine AW.cond_yes rfl rfl (AW.seq (AW.region ?_))
        refine s_assign (d := (sc (.int .i64 0))) rfl ?_
        refine s_assign (d := (sc (.int .i64 5))) rfl (AWops.nil (AW.ret ?_))
        obtain rfl := Option.some.inj h
        exact ⟨_, rfl, (Weak.gen (kk := 0) [] [] rfl rfl (by decide) (by decide) rfl rfl rfl (le_upd (le_top _) (DLe.tup (ac (TLe.one .sc) (ac (TLe.one .sc) an)))) an)⟩
       ·refine AWops.guard_yes rfl (nl rfl) rfl c38 ?_
        refine s_move (d := (sc (.int .u8 v37))) rfl ?_
        refine AWops.guard_yes rfl (nl rfl) rfl c38 ?_
        refine s_binI (v := (.bool (decide (v37 > 57)))) rfl rfl rfl ?_
        refine s_pick_no (d := (sc (.bool (decide (v37 > 57))))) rfl c38 rfl (AWops.nil ?_)
        rcases itH h with ⟨c39, h⟩ | ⟨c39, h⟩
        ·refine AW.cond_yes rfl c39 (AW.seq (AW.region ?_))
         refine s_assign (d := (sc (.int .i64 0))) rfl ?_
         refine s_assign (d := (sc (.int .i64 5))) rfl (AWops.nil (AW.ret ?_))
         obtain rfl := Option.some.inj h
         exact ⟨_, rfl, (Weak.gen (kk := 0) [] [] rfl rfl (by decide) (by decide) rfl rfl rfl (le_upd (le_top _) (DLe.tup (ac (TLe.one .sc) (ac (TLe.one .sc) an)))) an)⟩
        ·refine AW.cond_no rfl c39 (AW.skip (AW.seq (AW.region ?_)))
         refine s_move (d := (sc (.bool (decide ((a0.size : Int) > 19))))) rfl ?_
         refine s_not rfl (AWops.nil ?_)
         rcases itH h with ⟨c40, h⟩ | ⟨c40, h⟩
         ·refine AW.cond_no rfl (by rw [c40] <;> rfl) (AW.skip (AW.region ?_))
          refine s_binI (v := (.int .i64 (IntKind.i64.wrap (x35 + 1)))) rfl rfl rfl ?_
          refine s_move (d := (sc (.int .i64 (IntKind.i64.wrap (x35 + 1))))) rfl (AWops.nil ?_)
          exact ⟨_, ⟨78, (upd 78 (upd 78 (upd 78 (upd 78 (upd 78 (upd 78 topF 4 (sc (.bool false))) 6 (sc (.int .u64 x34))) 7 (sc (.bool (decide ((a0.size : Int) > 19))))) 39 (D.one (C.p false (.sl (bytesI a0).length ((bytesI a0).flatMap e_u8))))) 40 (sc (.int .i64 ((bytesI a0).length : Int)))) 41 (sc (.int .i64 (IntKind.i64.wrap (x35 + 1))))), []⟩, by omega, (Weak.gen (kk := 0) [] [] hx rfl (by decide) (by decide) rfl rfl rfl (le_upd (le_upd (le_upd (le_upd (le_upd (le_upd (le_top _) (.t (.one .sc))) (.t (.one .sc))) (.t (.one .sc))) (.t (.one .same))) (.t (.one .sc))) (.t (.one .sc))) an), by omega, x34, IntKind.i64.wrap (x35 + 1), h, rfl⟩
         ·refine AW.cond_yes rfl (by rw [c40] <;> rfl) (AW.region ?_)
          refine s_move (d := (sc (.int .u64 x34))) rfl ?_
          refine s_binI (v := (.int .u64 (IntKind.u64.wrap (10 * x34)))) rfl rfl rfl ?_
          refine s_move (d := (sc (.int .u8 v37))) rfl ?_
          refine s_binI (v := (.int .u8 (IntKind.u8.wrap (v37 - 48)))) rfl rfl rfl ?_
          refine s_convI F.u_5 F.u_106 rfl ?_
          refine s_binI (v := (.int .u64 (IntKind.u64.wrap ((IntKind.u64.wrap (10 * x34)) + (IntKind.u64.wrap (IntKind.u8.wrap (v37 - 48))))))) rfl rfl rfl ?_
          refine s_assign (d := (sc (.int .u64 (IntKind.u64.wrap ((IntKind.u64.wrap (10 * x34)) + (IntKind.u64.wrap (IntKind.u8.wrap (v37 - 48)))))))) rfl (AWops.nil (AW.region ?_))
          refine s_binI (v := (.int .i64 (IntKind.i64.wrap (x35 + 1)))) rfl rfl rfl ?_
          refine s_move (d := (sc (.int .i64 (IntKind.i64.wrap (x35 + 1))))) rfl (AWops.nil ?_)
          exact ⟨_, ⟨78, (upd 78 (upd 78 (upd 78 (upd 78 (upd 78 (upd 78 topF 4 (sc (.bool false))) 6 (sc (.int .u64 (IntKind.u64.wrap ((IntKind.u64.wrap (10 * x34)) + (IntKind.u64.wrap (IntKind.u8.wrap (v37 - 48)))))))) 7 (sc (.bool (decide ((a0.size : Int) > 19))))) 39 (D.one (C.p false (.sl (bytesI a0).length ((bytesI a0).flatMap e_u8))))) 40 (sc (.int .i64 ((bytesI a0).length : Int)))) 41 (sc (.int .i64 (IntKind.i64.wrap (x35 + 1))))), []⟩, by omega, (Weak.gen (kk := 0) [] [] hx rfl (by decide) (by decide) rfl rfl rfl (le_upd (le_upd (le_upd (le_upd (le_upd (le_upd (le_top _) (.t (.one .sc))) (.t (.one .sc))) (.t (.one .sc))) (.t (.one .same))) (.t (.one .sc))) (.t (.one .sc))) an), by omega, IntKind.u64.wrap ((IntKind.u64.wrap (10 * x34)) + (IntKind.u64.wrap (IntKind.u8.wrap (v37 - 48)))), IntKind.i64.wrap (x35 + 1), h, rfl⟩
      ·refine AW.cond_no rfl c36 (AW.exit (AW.seq (AW.region ?_)))
       refine s_assign (d := (sc (.int .u64 9223372036854775808))) rfl (AWops.nil (AW.seq (AW.seq (AW.region ?_))))
       refine s_move (d := (sc (.bool false))) rfl ?_
       refine s_not rfl (AWops.nil ?_)
       refine AW.cond_yes rfl rfl (AW.region ?_)
       refine s_move (d := (sc (.int .u64 9223372036854775808))) rfl ?_
       refine s_binI (v := (.int .u64 9223372036854775807)) rfl rfl (by rfl) ?_
       refine s_assign (d := (sc (.int .u64 9223372036854775807))) rfl (AWops.nil (AW.seq (AW.block (AW.seq (AW.region ?_)))))
       refine s_move (d := (sc (.bool (decide ((a0.size : Int) > 19))))) rfl ?_
       refine s_move (d := (sc (.bool (decide ((a0.size : Int) > 19))))) rfl ?_
       rcases itH h with ⟨c41, h⟩ | ⟨c41, h⟩
       ·iterate 3 refine AWops.guard_no rfl (nl rfl) rfl c41 ?_
        refine s_pick_yes (d := (sc (.bool true))) rfl c41 rfl ?_
        refine s_assign (d := (sc (.bool true))) rfl (AWops.nil ?_)
        refine AW.cond_yes rfl rfl (AW.seq (AW.region ?_))
        refine s_assign (d := (sc (.int .i64 0))) rfl ?_
        refine s_assign (d := (sc (.int .i64 4))) rfl (AWops.nil (AW.ret ?_))
        obtain rfl := Option.some.inj h
        exact ⟨_, rfl, (Weak.gen (kk := 0) [] [] rfl rfl (by decide) (by decide) rfl rfl rfl (le_upd (le_top _) (DLe.tup (ac (TLe.one .sc) (ac (TLe.one .sc) an)))) an)⟩
       ·refine AWops.guard_yes rfl (nl rfl) rfl c41 ?_
        refine s_move (d := (sc (.int .u64 x34))) rfl ?_
        refine AWops.guard_yes rfl (nl rfl) rfl c41 ?_
        refine s_move (d := (sc (.int .u64 9223372036854775807))) rfl ?_
        refine AWops.guard_yes rfl (nl rfl) rfl c41 ?_
        refine s_binI (v := (.bool (decide (x34 > 9223372036854775807)))) rfl rfl rfl ?_
        refine s_pick_no (d := (sc (.bool (decide (x34 > 9223372036854775807))))) rfl c41 rfl ?_
        refine s_assign (d := (sc (.bool (decide (x34 > 9223372036854775807))))) rfl (AWops.nil ?_)
        rcases itH h with ⟨c42, h⟩ | ⟨c42, h⟩
        ·refine AW.cond_yes rfl c42 (AW.seq (AW.region ?_))
         refine s_assign (d := (sc (.int .i64 0))) rfl ?_
         refine s_assign (d := (sc (.int .i64 4))) rfl (AWops.nil (AW.ret ?_))
         obtain rfl := Option.some.inj h
         exact ⟨_, rfl, (Weak.gen (kk := 0) [] [] rfl rfl (by decide) (by decide) rfl rfl rfl (le_upd (le_top _) (DLe.tup (ac (TLe.one .sc) (ac (TLe.one .sc) an)))) an)⟩
        ·refine AW.cond_no rfl c42 (AW.seq (AW.region ?_))
         refine s_move (d := (sc (.bool false))) rfl ?_
         refine s_assign (d := (sc (.bool false))) rfl (AWops.nil ?_)
         refine AW.cond_no rfl rfl (AW.skip (AW.seq (AW.region ?_)))
         refine s_move (d := (sc (.int .u64 x34))) rfl ?_
         refine s_convI F.u_106 F.u_3 rfl ?_
         refine s_assign (d := (sc (.int .i64 (IntKind.i64.wrap x34)))) rfl ?_
         refine s_assign (d := (sc (.int .i64 0))) rfl (AWops.nil (AW.ret ?_))
         obtain rfl := Option.some.inj h
         exact ⟨_, rfl, (Weak.gen (kk := 0) [] [] rfl rfl (by decide) (by decide) rfl rfl rfl (le_upd (le_top _) (DLe.tup (ac (TLe.one .sc) (ac (TLe.one .sc) an)))) an)⟩
   ·iterate 3 refine AWops.guard_no rfl (nl rfl) rfl c32 ?_
    refine AWops.guard_yes rfl (nl rfl) rfl c30 ?_
    refine s_pick_no (d := (sc (.bool false))) rfl c32 rfl ?_
    refine s_pick_no (d := (sc (.bool false))) rfl c30 rfl (AWops.nil ?_)
    refine AW.cond_no rfl rfl (AW.skip (AW.seq (AW.region ?_)))
    refine s_assign (d := (sc (.int .u64 0))) rfl (AWops.nil (AW.seq (AW.region ?_)))
    refine s_move (d := (sc (.string a0))) rfl ?_
    refine s_len (n := a0.size) F.u_9 rfl (.inl ⟨⟨_, _, rfl⟩, rfl⟩) ?_
    refine s_binI (v := (.bool (decide ((a0.size : Int) > 19)))) rfl rfl rfl ?_
    refine s_assign (d := (sc (.bool (decide ((a0.size : Int) > 19))))) rfl (AWops.nil (AW.seq (AW.seq (AW.region ?_))))
    refine s_move (d := (sc (.string a0))) rfl ?_
    refine t_ofStr F.u_9 F.u_89 F.u_5 rfl ?_
    refine s_len (n := (bytesI a0).length) F.u_89 rfl (.inr ⟨(fun _ _ h => by cases h), ⟨_, rfl⟩⟩) ?_
    refine s_move (d := (sc (.int .i64 0))) rfl (AWops.nil (AW.block ?_))
    refine AW.loopw (st0 := ⟨78, (upd 78 (upd 78 (upd 78 (upd 78 (upd 78 (upd 78 topF 4 (sc (.bool false))) 6 (sc (.int .u64 0))) 7 (sc (.bool (decide ((a0.size : Int) > 19))))) 39 (D.one (C.p false (.sl (bytesI a0).length ((bytesI a0).flatMap e_u8))))) 40 (sc (.int .i64 ((bytesI a0).length : Int)))) 41 (sc (.int .i64 0))), []⟩) (fun kv st => kv ≤ k ∧ ∃ (x43 : Int) (x44 : Int), chars_Number.l6 kv x43 x44 a0 = some r ∧ st = ⟨78, (upd 78 (upd 78 (upd 78 (upd 78 (upd 78 (upd 78 topF 4 (sc (.bool false))) 6 (sc (.int .u64 x43))) 7 (sc (.bool (decide ((a0.size : Int) > 19))))) 39 (D.one (C.p false (.sl (bytesI a0).length ((bytesI a0).flatMap e_u8))))) 40 (sc (.int .i64 ((bytesI a0).length : Int)))) 41 (sc (.int .i64 x44))), []⟩) (k := k) (Weak.gen (kk := 0) [] [] hx rfl (by decide) (by decide) rfl rfl rfl (le_upd (le_upd (le_upd (le_upd (le_upd (le_upd (le_top _) (.t (.one .sc))) (.t (.one .sc))) (.t (.one .sc))) (.t (.one .same))) (.t (.one .sc))) (.t (.one .sc))) an) ⟨Nat.le_refl _, 0, 0, h, rfl⟩ ?_
    rintro ql6 st ⟨hkl6, x43, x44, h, rfl⟩
    cases ql6 with
    | zero => exact absurd h (by simp [chars_Number.l6])
    | succ ql6 =>
     replace h := (chars_Number.l6.eq_2 _ _ _ _).symm.trans h
     refine AW.seq (AW.region ?_)
     refine s_binI (v := (.bool (decide (x44 < ((bytesI a0).length : Int))))) rfl rfl rfl (AWops.nil (AW.seq ?_))
     rcases itH h with ⟨c45, h⟩ | ⟨c45, h⟩
     ·refine AW.cond_yes rfl c45 (AW.skip (AW.seq (AW.block (AW.seq (AW.region ?_)))))
      obtain ⟨v46, ev46, h⟩ := bnd h
      obtain ⟨pv46, qv46, gv46⟩ := rd_some ev46
      refine s_indexImm (ps := [P.v (.int .u8 v46)]) F.u_89 F.sz_5 rfl rfl pv46 qv46 (flat_at e_u8_len gv46 (e_u8_eq v46)) ?_
      refine s_load1 (c' := (C.p true (.v (.int .u8 v46)))) F.ag_5 rfl rfl ?_
      refine s_assign (d := (sc (.int .u8 v46))) rfl (AWops.nil (AW.seq (AW.seq (AW.region ?_))))
      refine s_move (d := (sc (.int .u8 v46))) rfl ?_
      refine s_binI (v := (.bool (decide (v46 < 48)))) rfl rfl rfl ?_
      refine s_move (d := (sc (.bool (decide (v46 < 48))))) rfl ?_
      rcases itH h with ⟨c47, h⟩ | ⟨c47, h⟩
      ·refine AWops.guard_no rfl (nl rfl) rfl c47 ?_
       refine AWops.guard_no rfl (nl rfl) rfl c47 ?_
       refine s_pick_yes (d := (sc (.bool true))) rfl c47 rfl (AWops.nil ?_)
       refine AW.cond_yes rfl rfl (AW.seq (AW.region ?_))
       refine s_assign (d := (sc (.int .i64 0))) rfl ?_
       refine s_assign (d := (sc (.int .i64 5))) rfl (AWops.nil (AW.ret ?_))
       obtain rfl := Option.some.inj h
       exact ⟨_, rfl, (Weak.gen (kk := 0) [] [] rfl rfl (by decide) (by decide) rfl rfl rfl (le_upd (le_top _) (DLe.tup (ac (TLe.one .sc) (ac (TLe.one .sc) an)))) an)⟩
      ·refine AWops.guard_yes rfl (nl rfl) rfl c47 ?_
       refine s_move (d := (sc (.int .u8 v46))) rfl ?_
       refine AWops.guard_yes rfl (nl rfl) rfl c47 ?_
       refine s_binI (v := (.bool (decide (v46 > 57)))) rfl rfl rfl ?_
       refine s_pick_no (d := (sc (.bool (decide (v46 > 57))))) rfl c47 rfl (AWops.nil ?_)
       rcases itH h with ⟨c48, h⟩ | ⟨c48, h⟩
       ·refine AW.cond_yes rfl c48 (AW.seq (AW.region ?_))
        refine s_assign (d := (sc (.int .i64 0))) rfl ?_
        refine s_assign (d := (sc (.int .i64 5))) rfl (AWops.nil (AW.ret ?_))
        obtain rfl := Option.some.inj h
        exact ⟨_, rfl, (Weak.gen (kk := 0) [] [] rfl rfl (by decide) (by decide) rfl rfl rfl (le_upd (le_top _) (DLe.tup (ac (TLe.one .sc) (ac (TLe.one .sc) an)))) an)⟩
       ·refine AW.cond_no rfl c48 (AW.skip (AW.seq (AW.region ?_)))
        refine s_move (d := (sc (.bool (decide ((a0.size : Int) > 19))))) rfl ?_
        refine s_not rfl (AWops.nil ?_)
        rcases itH h with ⟨c49, h⟩ | ⟨c49, h⟩
        ·refine AW.cond_no rfl (by rw [c49] <;> rfl) (AW.skip (AW.region ?_))
         refine s_binI (v := (.int .i64 (IntKind.i64.wrap (x44 + 1)))) rfl rfl rfl ?_
         refine s_move (d := (sc (.int .i64 (IntKind.i64.wrap (x44 + 1))))) rfl (AWops.nil ?_)
         exact ⟨_, ⟨78, (upd 78 (upd 78 (upd 78 (upd 78 (upd 78 (upd 78 topF 4 (sc (.bool false))) 6 (sc (.int .u64 x43))) 7 (sc (.bool (decide ((a0.size : Int) > 19))))) 39 (D.one (C.p false (.sl (bytesI a0).length ((bytesI a0).flatMap e_u8))))) 40 (sc (.int .i64 ((bytesI a0).length : Int)))) 41 (sc (.int .i64 (IntKind.i64.wrap (x44 + 1))))), []⟩, by omega, (Weak.gen (kk := 0) [] [] hx rfl (by decide) (by decide) rfl rfl rfl (le_upd (le_upd (le_upd (le_upd (le_upd (le_upd (le_top _) (.t (.one .sc))) (.t (.one .sc))) (.t (.one .sc))) (.t (.one .same))) (.t (.one .sc))) (.t (.one .sc))) an), by omega, x43, IntKind.i64.wrap (x44 + 1), h, rfl⟩
        ·refine AW.cond_yes rfl (by rw [c49] <;> rfl) (AW.region ?_)
         refine s_move (d := (sc (.int .u64 x43))) rfl ?_
         refine s_binI (v := (.int .u64 (IntKind.u64.wrap (10 * x43)))) rfl rfl rfl ?_
         refine s_move (d := (sc (.int .u8 v46))) rfl ?_
         refine s_binI (v := (.int .u8 (IntKind.u8.wrap (v46 - 48)))) rfl rfl rfl ?_
         refine s_convI F.u_5 F.u_106 rfl ?_
         refine s_binI (v := (.int .u64 (IntKind.u64.wrap ((IntKind.u64.wrap (10 * x43)) + (IntKind.u64.wrap (IntKind.u8.wrap (v46 - 48))))))) rfl rfl rfl ?_
         refine s_assign (d := (sc (.int .u64 (IntKind.u64.wrap ((IntKind.u64.wrap (10 * x43)) + (IntKind.u64.wrap (IntKind.u8.wrap (v46 - 48)))))))) rfl (AWops.nil (AW.region ?_))
         refine s_binI (v := (.int .i64 (IntKind.i64.wrap (x44 + 1)))) rfl rfl rfl ?_
         refine s_move (d := (sc (.int .i64 (IntKind.i64.wrap (x44 + 1))))) rfl (AWops.nil ?_)
         exact ⟨_, ⟨78, (upd 78 (upd 78 (upd 78 (upd 78 (upd 78 (upd 78 topF 4 (sc (.bool false))) 6 (sc (.int .u64 (IntKind.u64.wrap ((IntKind.u64.wrap (10 * x43)) + (IntKind.u64.wrap (IntKind.u8.wrap (v46 - 48)))))))) 7 (sc (.bool (decide ((a0.size : Int) > 19))))) 39 (D.one (C.p false (.sl (bytesI a0).length ((bytesI a0).flatMap e_u8))))) 40 (sc (.int .i64 ((bytesI a0).length : Int)))) 41 (sc (.int .i64 (IntKind.i64.wrap (x44 + 1))))), []⟩, by omega, (Weak.gen (kk := 0) [] [] hx rfl (by decide) (by decide) rfl rfl rfl (le_upd (le_upd (le_upd (le_upd (le_upd (le_upd (le_top _) (.t (.one .sc))) (.t (.one .sc))) (.t (.one .sc))) (.t (.one .same))) (.t (.one .sc))) (.t (.one .sc))) an), by omega, IntKind.u64.wrap ((IntKind.u64.wrap (10 * x43)) + (IntKind.u64.wrap (IntKind.u8.wrap (v46 - 48)))), IntKind.i64.wrap (x44 + 1), h, rfl⟩
     ·refine AW.cond_no rfl c45 (AW.exit (AW.seq (AW.region ?_)))
      refine s_assign (d := (sc (.int .u64 9223372036854775808))) rfl (AWops.nil (AW.seq (AW.seq (AW.region ?_))))
      refine s_move (d := (sc (.bool false))) rfl ?_
      refine s_not rfl (AWops.nil ?_)
      refine AW.cond_yes rfl rfl (AW.region ?_)
      refine s_move (d := (sc (.int .u64 9223372036854775808))) rfl ?_
      refine s_binI (v := (.int .u64 9223372036854775807)) rfl rfl (by rfl) ?_
      refine s_assign (d := (sc (.int .u64 9223372036854775807))) rfl (AWops.nil (AW.seq (AW.block (AW.seq (AW.region ?_)))))
      refine s_move (d := (sc (.bool (decide ((a0.size : Int) > 19))))) rfl ?_
      refine s_move (d := (sc (.bool (decide ((a0.size : Int) > 19))))) rfl ?_
      rcases itH h with ⟨c50, h⟩ | ⟨c50, h⟩
      ·iterate 3 refine AWops.guard_no rfl (nl rfl) rfl c50 ?_
       refine s_pick_yes (d := (sc (.bool true))) rfl c50 rfl ?_
       refine s_assign (d := (sc (.bool true))) rfl (AWops.nil ?_)
       refine AW.cond_yes rfl rfl (AW.seq (AW.region ?_))
       refine s_assign (d := (sc (.int .i64 0))) rfl ?_
       refine s_assign (d := (sc (.int .i64 4))) rfl (AWops.nil (AW.ret ?_))
       obtain rfl := Option.some.inj h
       exact ⟨_, rfl, (Weak.gen (kk := 0) [] [] rfl rfl (by decide) (by decide) rfl rfl rfl (le_upd (le_top _) (DLe.tup (ac (TLe.one .sc) (ac (TLe.one .sc) an)))) an)⟩
      ·refine AWops.guard_yes rfl (nl rfl) rfl c50 ?_
       refine s_move (d := (sc (.int .u64 x43))) rfl ?_
       refine AWops.guard_yes rfl (nl rfl) rfl c50 ?_
       refine s_move (d := (sc (.int .u64 9223372036854775807))) rfl ?_
       refine AWops.guard_yes rfl (nl rfl) rfl c50 ?_
       refine s_binI (v := (.bool (decide (x43 > 9223372036854775807)))) rfl rfl rfl ?_
       refine s_pick_no (d := (sc (.bool (decide (x43 > 9223372036854775807))))) rfl c50 rfl ?_
       refine s_assign (d := (sc (.bool (decide (x43 > 9223372036854775807))))) rfl (AWops.nil ?_)
       rcases itH h with ⟨c51, h⟩ | ⟨c51, h⟩
       ·refine AW.cond_yes rfl c51 (AW.seq (AW.region ?_))
        refine s_assign (d := (sc (.int .i64 0))) rfl ?_
        refine s_assign (d := (sc (.int .i64 4))) rfl (AWops.nil (AW.ret ?_))
        obtain rfl := Option.some.inj h
        exact ⟨_, rfl, (Weak.gen (kk := 0) [] [] rfl rfl (by decide) (by decide) rfl rfl rfl (le_upd (le_top _) (DLe.tup (ac (TLe.one .sc) (ac (TLe.one .sc) an)))) an)⟩
       ·refine AW.cond_no rfl c51 (AW.seq (AW.region ?_))
        refine s_move (d := (sc (.bool false))) rfl ?_
        refine s_assign (d := (sc (.bool false))) rfl (AWops.nil ?_)
        refine AW.cond_no rfl rfl (AW.skip (AW.seq (AW.region ?_)))
        refine s_move (d := (sc (.int .u64 x43))) rfl ?_
        refine s_convI F.u_106 F.u_3 rfl ?_
        refine s_assign (d := (sc (.int .i64 (IntKind.i64.wrap x43)))) rfl ?_
        refine s_assign (d := (sc (.int .i64 0))) rfl (AWops.nil (AW.ret ?_))
        obtain rfl := Option.some.inj h
        exact ⟨_, rfl, (Weak.gen (kk := 0) [] [] rfl rfl (by decide) (by decide) rfl rfl rfl (le_upd (le_top _) (DLe.tup (ac (TLe.one .sc) (ac (TLe.one .sc) an)))) an)⟩
def tree_part.f (k : Nat) (a0 : ByteArray) : Option (ByteArray × Int) := (strings_LastIndexByte.f k a0 46).bind fun r1 => if (decide (r1 < 1)) = true then (some ((⟨#[]⟩ : ByteArray), 0)) else (if (decide (0 ≤ (IntKind.i64.wrap (r1 + 1)) ∧ (IntKind.i64.wrap (r1 + 1)) ≤ (a0.size : Int) ∧ (a0.size : Int) ≤ (a0.size : Int))) = true then ((chars_Number.f k (a0.extract (IntKind.i64.wrap (r1 + 1)).toNat a0.size)).bind fun r4 => if (r4.2 != 0) = true then (some ((⟨#[]⟩ : ByteArray), 0)) else (if (decide (r4.1 < 1)) = true then (some ((⟨#[]⟩ : ByteArray), 0)) else (if (decide (0 ≤ 0 ∧ 0 ≤ r1 ∧ r1 ≤ (a0.size : Int))) = true then (some (a0.extract 0 r1.toNat, r4.1)) else none))) else none)
theorem tree_part.meets (k : Nat) (a0 : ByteArray) (r : ByteArray × Int) (h : tree_part.f k a0 = some r) : Meets Tryd.prog 35 [(sc (.string a0))] [] (D.tup [(sc (.string r.1)), (sc (.int .i64 r.2))]) [] := by
 unfold tree_part.f at h
 refine Meets.of_body (n := 29) Tryd.func35 rfl rfl (nl rfl) fun x hx => ?_
 replace hx : x.k = 0 := hx
 show AW _ x _ _ ⟨29, fr0 [(sc (.string a0))], []⟩
 refine AW.seq (AW.region ?_)
 refine s_assign (d := (sc (.string (⟨#[]⟩ : ByteArray)))) rfl ?_
 refine s_assign (d := (sc (.int .i64 0))) rfl (AWops.nil (AW.seq (AW.region ?_)))
 refine s_move (d := (sc (.string a0))) rfl ?_
 obtain ⟨r1, er1, h⟩ := bnd h
 refine s_call2 (ρ := []) (br := false) (H2 := []) (d := (sc (.int .i64 r1))) F.ca_54 rfl rfl (ac (.one .sc) (ac (.one .sc) an)) an (by decide) rfl (strings_LastIndexByte.meets _ a0 46 r1 er1) (.inl rfl) rfl rfl ?_
 refine s_assign (d := (sc (.int .i64 r1))) rfl (AWops.nil (AW.seq (AW.seq (AW.region ?_))))
 refine s_move (d := (sc (.int .i64 r1))) rfl ?_
 refine s_binI (v := (.bool (decide (r1 < 1)))) rfl rfl rfl (AWops.nil ?_)
 rcases itH h with ⟨c2, h⟩ | ⟨c2, h⟩
 ·refine AW.cond_yes rfl c2 (AW.seq (AW.region ?_))
  refine s_assign (d := (sc (.string (⟨#[]⟩ : ByteArray)))) rfl ?_
  refine s_assign (d := (sc (.int .i64 0))) rfl (AWops.nil (AW.ret ?_))
  obtain rfl := Option.some.inj h
  exact ⟨_, rfl, (Weak.gen (kk := 0) [] [] rfl rfl (by decide) (by decide) rfl rfl rfl (le_upd (le_top _) (DLe.tup (ac (TLe.one .sc) (ac (TLe.one .sc) an)))) an)⟩
 ·refine AW.cond_no rfl c2 (AW.skip (AW.seq (AW.region ?_)))
  refine s_move (d := (sc (.string a0))) rfl ?_
  refine s_move (d := (sc (.int .i64 r1))) rfl ?_
  refine s_binI (v := (.int .i64 (IntKind.i64.wrap (r1 + 1)))) rfl rfl rfl ?_
  obtain ⟨c3, h⟩ := gdH h
  have dc3 := of_decide_eq_true c3
  refine s_sliceStr F.u_9 rfl (.yes rfl (by omega) rfl) .no (by omega) (by omega) ?_
  obtain ⟨r4, er4, h⟩ := bnd h
  refine s_call2 (ρ := []) (br := false) (H2 := []) (d := (D.tup [(sc (.int .i64 r4.1)), (sc (.int .i64 r4.2))])) F.ca_66 rfl rfl (ac (.one .sc) an) an (by decide) rfl (chars_Number.meets _ (a0.extract (IntKind.i64.wrap (r1 + 1)).toNat a0.size) r4 er4) (.inl rfl) rfl rfl ?_
  refine s_move (d := (D.tup [(sc (.int .i64 r4.1)), (sc (.int .i64 r4.2))])) rfl ?_
  refine s_extract (d := (sc (.int .i64 r4.1))) rfl rfl ?_
  refine s_extract (d := (sc (.int .i64 r4.2))) rfl rfl ?_
  refine s_assign (d := (sc (.int .i64 r4.1))) rfl ?_
  refine s_assign (d := (sc (.int .i64 r4.2))) rfl (AWops.nil (AW.seq (AW.seq (AW.region ?_))))
  refine s_move (d := (sc (.int .i64 r4.2))) rfl ?_
  refine s_binI (v := (.bool (r4.2 != 0))) rfl rfl rfl ?_
  refine s_move (d := (sc (.bool (r4.2 != 0)))) rfl ?_
  rcases itH h with ⟨c5, h⟩ | ⟨c5, h⟩
  ·refine AWops.guard_no rfl (nl rfl) rfl c5 ?_
   refine AWops.guard_no rfl (nl rfl) rfl c5 ?_
   refine s_pick_yes (d := (sc (.bool true))) rfl c5 rfl (AWops.nil ?_)
   refine AW.cond_yes rfl rfl (AW.seq (AW.region ?_))
   refine s_assign (d := (sc (.string (⟨#[]⟩ : ByteArray)))) rfl ?_
   refine s_assign (d := (sc (.int .i64 0))) rfl (AWops.nil (AW.ret ?_))
   obtain rfl := Option.some.inj h
   exact ⟨_, rfl, (Weak.gen (kk := 0) [] [] rfl rfl (by decide) (by decide) rfl rfl rfl (le_upd (le_top _) (DLe.tup (ac (TLe.one .sc) (ac (TLe.one .sc) an)))) an)⟩
  ·refine AWops.guard_yes rfl (nl rfl) rfl c5 ?_
   refine s_move (d := (sc (.int .i64 r4.1))) rfl ?_
   refine AWops.guard_yes rfl (nl rfl) rfl c5 ?_
   refine s_binI (v := (.bool (decide (r4.1 < 1)))) rfl rfl rfl ?_
   refine s_pick_no (d := (sc (.bool (decide (r4.1 < 1))))) rfl c5 rfl (AWops.nil ?_)
   rcases itH h with ⟨c6, h⟩ | ⟨c6, h⟩
   ·refine AW.cond_yes rfl c6 (AW.seq (AW.region ?_))
    refine s_assign (d := (sc (.string (⟨#[]⟩ : ByteArray)))) rfl ?_
    refine s_assign (d := (sc (.int .i64 0))) rfl (AWops.nil (AW.ret ?_))
    obtain rfl := Option.some.inj h
    exact ⟨_, rfl, (Weak.gen (kk := 0) [] [] rfl rfl (by decide) (by decide) rfl rfl rfl (le_upd (le_top _) (DLe.tup (ac (TLe.one .sc) (ac (TLe.one .sc) an)))) an)⟩
   ·refine AW.cond_no rfl c6 (AW.skip (AW.seq (AW.region ?_)))
    refine s_move (d := (sc (.string a0))) rfl ?_
    refine s_move (d := (sc (.int .i64 r1))) rfl ?_
    obtain ⟨c7, h⟩ := gdH h
    have dc7 := of_decide_eq_true c7
    refine s_sliceStr F.u_9 rfl .no (.yes rfl (by omega) rfl) (by omega) (by omega) ?_
    refine s_move (d := (sc (.int .i64 r4.1))) rfl ?_
    refine s_assign (d := (sc (.string (a0.extract 0 r1.toNat)))) rfl ?_
    refine s_assign (d := (sc (.int .i64 r4.1))) rfl (AWops.nil (AW.ret ?_))
    obtain rfl := Option.some.inj h
    exact ⟨_, rfl, (Weak.gen (kk := 0) [] [] rfl rfl (by decide) (by decide) rfl rfl rfl (le_upd (le_top _) (DLe.tup (ac (TLe.one .sc) (ac (TLe.one .sc) an)))) an)⟩
def bytealg_CompareString.f (k : Nat) (a0 : ByteArray) (a1 : ByteArray) : Option Int := some (cmpS a0 a1)
theorem bytealg_CompareString.meets (k : Nat) (a0 : ByteArray) (a1 : ByteArray) (r : Int) (h : bytealg_CompareString.f k a0 a1 = some r) : Meets Tryd.prog 67 [(sc (.string a0)), (sc (.string a1))] [] (sc (.int .i64 r)) [] := by
 unfold bytealg_CompareString.f at h
 refine Meets.of_body (n := 8) Tryd.func67 rfl rfl (nl rfl) fun x hx => ?_
 replace hx : x.k = 0 := hx
 show AW _ x _ _ ⟨8, fr0 [(sc (.string a0)), (sc (.string a1))], []⟩
 refine AW.seq (AW.region ?_)
 refine s_assign (d := (sc (.int .i64 0))) rfl (AWops.nil (AW.seq (AW.region ?_)))
 refine s_move (d := (sc (.string a0))) rfl ?_
 refine s_move (d := (sc (.string a1))) rfl ?_
 refine s_ext2 F.ex_87 rfl rfl rfl (run_cmp _ _) ?_
 refine s_assign (d := (sc (.int .i64 (cmpS a0 a1)))) rfl (AWops.nil (AW.ret ?_))
 obtain rfl := Option.some.inj h
 exact ⟨_, rfl, (Weak.gen (kk := 0) [] [] rfl rfl (by decide) (by decide) rfl rfl rfl (le_upd (le_top _) (.t (.one .sc))) an)⟩
def strings_Compare.f (k : Nat) (a0 : ByteArray) (a1 : ByteArray) : Option Int := (bytealg_CompareString.f k a0 a1).bind fun r1 => some r1
theorem strings_Compare.meets (k : Nat) (a0 : ByteArray) (a1 : ByteArray) (r : Int) (h : strings_Compare.f k a0 a1 = some r) : Meets Tryd.prog 37 [(sc (.string a0)), (sc (.string a1))] [] (sc (.int .i64 r)) [] := by
 unfold strings_Compare.f at h
 refine Meets.of_body (n := 8) Tryd.func37 rfl rfl (nl rfl) fun x hx => ?_
 replace hx : x.k = 0 := hx
 show AW _ x _ _ ⟨8, fr0 [(sc (.string a0)), (sc (.string a1))], []⟩
 refine AW.seq (AW.region ?_)
 refine s_assign (d := (sc (.int .i64 0))) rfl (AWops.nil (AW.seq (AW.region ?_)))
 refine s_move (d := (sc (.string a0))) rfl ?_
 refine s_move (d := (sc (.string a1))) rfl ?_
 obtain ⟨r1, er1, h⟩ := bnd h
 refine s_call2 (ρ := []) (br := false) (H2 := []) (d := (sc (.int .i64 r1))) F.ca_67 rfl rfl (ac (.one .sc) (ac (.one .sc) an)) an (by decide) rfl (bytealg_CompareString.meets _ a0 a1 r1 er1) (.inl rfl) rfl rfl ?_
 refine s_assign (d := (sc (.int .i64 r1))) rfl (AWops.nil (AW.ret ?_))
 obtain rfl := Option.some.inj h
 exact ⟨_, rfl, (Weak.gen (kk := 0) [] [] rfl rfl (by decide) (by decide) rfl rfl rfl (le_upd (le_top _) (.t (.one .sc))) an)⟩
def cmp_isNaN_int.f (k : Nat) (a0 : Int) : Option Bool := some (a0 != a0)
theorem cmp_isNaN_int.meets (k : Nat) (a0 : Int) (r : Bool) (h : cmp_isNaN_int.f k a0 = some r) : Meets Tryd.prog 68 [(sc (.int .i64 a0))] [] (sc (.bool r)) [] := by
 unfold cmp_isNaN_int.f at h
 refine Meets.of_body (n := 6) Tryd.func68 rfl rfl (nl rfl) fun x hx => ?_
 replace hx : x.k = 0 := hx
 show AW _ x _ _ ⟨6, fr0 [(sc (.int .i64 a0))], []⟩
 refine AW.seq (AW.region ?_)
 refine s_assign (d := (sc (.bool false))) rfl (AWops.nil (AW.seq (AW.region ?_)))
 refine s_move (d := (sc (.int .i64 a0))) rfl ?_
 refine s_move (d := (sc (.int .i64 a0))) rfl ?_
 refine s_binI (v := (.bool (a0 != a0))) rfl rfl rfl ?_
 refine s_assign (d := (sc (.bool (a0 != a0)))) rfl (AWops.nil (AW.ret ?_))
 obtain rfl := Option.some.inj h
 exact ⟨_, rfl, (Weak.gen (kk := 0) [] [] rfl rfl (by decide) (by decide) rfl rfl rfl (le_upd (le_top _) (.t (.one .sc))) an)⟩
def cmp_Compare_int.f (k : Nat) (a0 : Int) (a1 : Int) : Option Int := (cmp_isNaN_int.f k a0).bind fun r1 => (cmp_isNaN_int.f k a1).bind fun r2 => if r1 = true then (if r2 = true then (some 0) else (some (-1))) else (if r2 = true then (some 1) else (if (decide (a0 < a1)) = true then (some (-1)) else (if (decide (a0 > a1)) = true then (some 1) else (some 0))))
theorem cmp_Compare_int.meets (k : Nat) (a0 : Int) (a1 : Int) (r : Int) (h : cmp_Compare_int.f k a0 a1 = some r) : Meets Tryd.prog 38 [(sc (.int .i64 a0)), (sc (.int .i64 a1))] [] (sc (.int .i64 r)) [] := by
 unfold cmp_Compare_int.f at h
 refine Meets.of_body (n := 20) Tryd.func38 rfl rfl (nl rfl) fun x hx => ?_
 replace hx : x.k = 0 := hx
 show AW _ x _ _ ⟨20, fr0 [(sc (.int .i64 a0)), (sc (.int .i64 a1))], []⟩
 refine AW.seq (AW.region ?_)
 refine s_assign (d := (sc (.int .i64 0))) rfl (AWops.nil (AW.seq (AW.region ?_)))
 refine s_move (d := (sc (.int .i64 a0))) rfl ?_
 obtain ⟨r1, er1, h⟩ := bnd h
 refine s_call2 (ρ := []) (br := false) (H2 := []) (d := (sc (.bool r1))) F.ca_68 rfl rfl (ac (.one .sc) an) an (by decide) rfl (cmp_isNaN_int.meets _ a0 r1 er1) (.inl rfl) rfl rfl ?_
 refine s_assign (d := (sc (.bool r1))) rfl (AWops.nil (AW.seq (AW.region ?_)))
 refine s_move (d := (sc (.int .i64 a1))) rfl ?_
 obtain ⟨r2, er2, h⟩ := bnd h
 refine s_call2 (ρ := []) (br := false) (H2 := []) (d := (sc (.bool r2))) F.ca_68 rfl rfl (ac (.one .sc) an) an (by decide) rfl (cmp_isNaN_int.meets _ a1 r2 er2) (.inl rfl) rfl rfl ?_
 refine s_assign (d := (sc (.bool r2))) rfl (AWops.nil (AW.seq (AW.seq (AW.region ?_))))
 refine s_move (d := (sc (.bool r1))) rfl (AWops.nil ?_)
 rcases itH h with ⟨c3, h⟩ | ⟨c3, h⟩
 ·refine AW.cond_yes rfl c3 (AW.seq (AW.seq (AW.region ?_)))
  refine s_move (d := (sc (.bool r2))) rfl (AWops.nil ?_)
  rcases itH h with ⟨c4, h⟩ | ⟨c4, h⟩
  ·refine AW.cond_yes rfl c4 (AW.seq (AW.region ?_))
   refine s_assign (d := (sc (.int .i64 0))) rfl (AWops.nil (AW.ret ?_))
   obtain rfl := Option.some.inj h
   exact ⟨_, rfl, (Weak.gen (kk := 0) [] [] rfl rfl (by decide) (by decide) rfl rfl rfl (le_upd (le_top _) (.t (.one .sc))) an)⟩
  ·refine AW.cond_no rfl c4 (AW.skip (AW.seq (AW.region ?_)))
   refine s_assign (d := (sc (.int .i64 (-1)))) rfl (AWops.nil (AW.ret ?_))
   obtain rfl := Option.some.inj h
   exact ⟨_, rfl, (Weak.gen (kk := 0) [] [] rfl rfl (by decide) (by decide) rfl rfl rfl (le_upd (le_top _) (.t (.one .sc))) an)⟩
 ·refine AW.cond_no rfl c3 (AW.skip (AW.seq (AW.seq (AW.region ?_))))
  refine s_move (d := (sc (.bool r2))) rfl (AWops.nil ?_)
  rcases itH h with ⟨c5, h⟩ | ⟨c5, h⟩
  ·refine AW.cond_yes rfl c5 (AW.seq (AW.region ?_))
   refine s_assign (d := (sc (.int .i64 1))) rfl (AWops.nil (AW.ret ?_))
   obtain rfl := Option.some.inj h
   exact ⟨_, rfl, (Weak.gen (kk := 0) [] [] rfl rfl (by decide) (by decide) rfl rfl rfl (le_upd (le_top _) (.t (.one .sc))) an)⟩
  ·refine AW.cond_no rfl c5 (AW.skip (AW.seq (AW.seq (AW.region ?_))))
   refine s_move (d := (sc (.int .i64 a0))) rfl ?_
   refine s_move (d := (sc (.int .i64 a1))) rfl ?_
   refine s_binI (v := (.bool (decide (a0 < a1)))) rfl rfl rfl (AWops.nil ?_)
   rcases itH h with ⟨c6, h⟩ | ⟨c6, h⟩
   ·refine AW.cond_yes rfl c6 (AW.seq (AW.region ?_))
    refine s_assign (d := (sc (.int .i64 (-1)))) rfl (AWops.nil (AW.ret ?_))
    obtain rfl := Option.some.inj h
    exact ⟨_, rfl, (Weak.gen (kk := 0) [] [] rfl rfl (by decide) (by decide) rfl rfl rfl (le_upd (le_top _) (.t (.one .sc))) an)⟩
   ·refine AW.cond_no rfl c6 (AW.skip (AW.seq (AW.seq (AW.region ?_))))
    refine s_move (d := (sc (.int .i64 a0))) rfl ?_
    refine s_move (d := (sc (.int .i64 a1))) rfl ?_
    refine s_binI (v := (.bool (decide (a0 > a1)))) rfl rfl rfl (AWops.nil ?_)
    rcases itH h with ⟨c7, h⟩ | ⟨c7, h⟩
    ·refine AW.cond_yes rfl c7 (AW.seq (AW.region ?_))
     refine s_assign (d := (sc (.int .i64 1))) rfl (AWops.nil (AW.ret ?_))
     obtain rfl := Option.some.inj h
     exact ⟨_, rfl, (Weak.gen (kk := 0) [] [] rfl rfl (by decide) (by decide) rfl rfl rfl (le_upd (le_top _) (.t (.one .sc))) an)⟩
    ·refine AW.cond_no rfl c7 (AW.skip (AW.seq (AW.region ?_)))
     refine s_assign (d := (sc (.int .i64 0))) rfl (AWops.nil (AW.ret ?_))
     obtain rfl := Option.some.inj h
     exact ⟨_, rfl, (Weak.gen (kk := 0) [] [] rfl rfl (by decide) (by decide) rfl rfl rfl (le_upd (le_top _) (.t (.one .sc))) an)⟩
mutual
def cmp_Or_int.l0 : Nat → Int → (List Int) → Option Int
 | 0, _, _ => none
 | k + 1, x1, a0 => if (decide (x1 < (a0.length : Int))) = true then ((rd a0 x1).bind fun v3 => if (v3 != 0) = true then (some v3) else (cmp_Or_int.l0 k (IntKind.i64.wrap (x1 + 1)) a0)) else (some 0)
end
def cmp_Or_int.f (k : Nat) (a0 : List Int) : Option Int := cmp_Or_int.l0 k 0 a0
theorem cmp_Or_int.meets (k : Nat) (a0 : List Int) (r : Int) (h : cmp_Or_int.f k a0 = some r) : Meets Tryd.prog 36 [(D.one (C.p false (.sl a0.length (a0.flatMap e_i64))))] [] (sc (.int .i64 r)) [] := by
 unfold cmp_Or_int.f at h
 refine Meets.of_body (n := 18) Tryd.func36 rfl rfl (nl rfl) fun x hx => ?_
 replace hx : x.k = 0 := hx
 show AW _ x _ _ ⟨18, fr0 [(D.one (C.p false (.sl a0.length (a0.flatMap e_i64))))], []⟩
 refine AW.seq (AW.region ?_)
 refine s_assign (d := (sc (.int .i64 0))) rfl (AWops.nil (AW.seq (AW.region ?_)))
 refine s_assign (d := (sc (.int .i64 0))) rfl (AWops.nil (AW.seq (AW.seq (AW.region ?_))))
 refine s_move (d := (D.one (C.p false (.sl a0.length (a0.flatMap e_i64))))) rfl ?_
 refine s_len (n := a0.length) F.u_38 rfl (.inr ⟨(fun _ _ h => by cases h), ⟨_, rfl⟩⟩) ?_
 refine s_move (d := (sc (.int .i64 0))) rfl (AWops.nil (AW.block ?_))
 refine AW.loopw (st0 := ⟨18, (upd 18 (upd 18 (upd 18 (upd 18 topF 3 (sc (.int .i64 0))) 6 (D.one (C.p false (.sl a0.length (a0.flatMap e_i64))))) 7 (sc (.int .i64 (a0.length : Int)))) 8 (sc (.int .i64 0))), []⟩) (fun kv st => kv ≤ k ∧ ∃ (x1 : Int), cmp_Or_int.l0 kv x1 a0 = some r ∧ st = ⟨18, (upd 18 (upd 18 (upd 18 (upd 18 topF 3 (sc (.int .i64 0))) 6 (D.one (C.p false (.sl a0.length (a0.flatMap e_i64))))) 7 (sc (.int .i64 (a0.length : Int)))) 8 (sc (.int .i64 x1))), []⟩) (k := k) (Weak.gen (kk := 0) [] [] hx rfl (by decide) (by decide) rfl rfl rfl (le_upd (le_upd (le_upd (le_upd (le_top _) (.t (.one .sc))) (.t (.one .same))) (.t (.one .sc))) (.t (.one .sc))) an) ⟨Nat.le_refl _, 0, h, rfl⟩ ?_
 rintro ql0 st ⟨hkl0, x1, h, rfl⟩
 cases ql0 with
 | zero => exact absurd h (by simp [cmp_Or_int.l0])
 | succ ql0 =>
  replace h := (cmp_Or_int.l0.eq_2 _ _ _).symm.trans h
  refine AW.seq (AW.region ?_)
  refine s_binI (v := (.bool (decide (x1 < (a0.length : Int))))) rfl rfl rfl (AWops.nil (AW.seq ?_))
  rcases itH h with ⟨c2, h⟩ | ⟨c2, h⟩
  ·refine AW.cond_yes rfl c2 (AW.skip (AW.seq (AW.block (AW.seq (AW.region ?_)))))
   obtain ⟨v3, ev3, h⟩ := bnd h
   obtain ⟨pv3, qv3, gv3⟩ := rd_some ev3
   refine s_indexImm (ps := [P.v (.int .i64 v3)]) F.u_38 F.sz_3 rfl rfl pv3 qv3 (flat_at e_i64_len gv3 (e_i64_eq v3)) ?_
   refine s_load1 (c' := (C.p true (.v (.int .i64 v3)))) F.ag_3 rfl rfl ?_
   refine s_assign (d := (sc (.int .i64 v3))) rfl (AWops.nil (AW.seq (AW.region ?_)))
   refine s_move (d := (sc (.int .i64 v3))) rfl ?_
   refine s_move (d := (sc (.int .i64 0))) rfl ?_
   refine s_binI (v := (.bool (v3 != 0))) rfl rfl rfl (AWops.nil ?_)
   rcases itH h with ⟨c4, h⟩ | ⟨c4, h⟩
   ·refine AW.cond_yes rfl c4 (AW.seq (AW.region ?_))
    refine s_move (d := (sc (.int .i64 v3))) rfl ?_
    refine s_assign (d := (sc (.int .i64 v3))) rfl (AWops.nil (AW.ret ?_))
    obtain rfl := Option.some.inj h
    exact ⟨_, rfl, (Weak.gen (kk := 0) [] [] rfl rfl (by decide) (by decide) rfl rfl rfl (le_upd (le_top _) (.t (.one .sc))) an)⟩
   ·refine AW.cond_no rfl c4 (AW.skip (AW.region ?_))
    refine s_binI (v := (.int .i64 (IntKind.i64.wrap (x1 + 1)))) rfl rfl rfl ?_
    refine s_move (d := (sc (.int .i64 (IntKind.i64.wrap (x1 + 1))))) rfl (AWops.nil ?_)
    exact ⟨_, ⟨18, (upd 18 (upd 18 (upd 18 (upd 18 topF 3 (sc (.int .i64 0))) 6 (D.one (C.p false (.sl a0.length (a0.flatMap e_i64))))) 7 (sc (.int .i64 (a0.length : Int)))) 8 (sc (.int .i64 (IntKind.i64.wrap (x1 + 1))))), []⟩, by omega, (Weak.gen (kk := 0) [] [] hx rfl (by decide) (by decide) rfl rfl rfl (le_upd (le_upd (le_upd (le_upd (le_top _) (.t (.one .sc))) (.t (.one .same))) (.t (.one .sc))) (.t (.one .sc))) an), by omega, IntKind.i64.wrap (x1 + 1), h, rfl⟩
  ·refine AW.cond_no rfl c2 (AW.exit (AW.seq (AW.region ?_)))
   refine s_move (d := (sc (.int .i64 0))) rfl ?_
   refine s_assign (d := (sc (.int .i64 0))) rfl (AWops.nil (AW.ret ?_))
   obtain rfl := Option.some.inj h
   exact ⟨_, rfl, (Weak.gen (kk := 0) [] [] rfl rfl (by decide) (by decide) rfl rfl rfl (le_upd (le_top _) (.t (.one .sc))) an)⟩
def tree_Order_1.f (k : Nat) (a0 : ByteArray) (a1 : ByteArray) : Option Int := (tree_part.f k a0).bind fun r1 => (tree_part.f k a1).bind fun r2 => (strings_Compare.f k r1.1 r2.1).bind fun r3 => (cmp_Compare_int.f k r1.2 r2.2).bind fun r4 => (strings_Compare.f k a0 a1).bind fun r5 => (cmp_Or_int.f k ([r3, r4, r5] : List Int)).bind fun r6 => some r6
theorem tree_Order_1.meets (k : Nat) (a0 : ByteArray) (a1 : ByteArray) (r : Int) (h : tree_Order_1.f k a0 a1 = some r) : Meets Tryd.prog 34 [(sc (.string a0)), (sc (.string a1))] [] (sc (.int .i64 r)) [] := by
 unfold tree_Order_1.f at h
 refine Meets.of_body (n := 30) Tryd.func34 rfl rfl (nl rfl) fun x hx => ?_
 replace hx : x.k = 0 := hx
 show AW _ x _ _ ⟨30, fr0 [(sc (.string a0)), (sc (.string a1))], []⟩
 refine AW.seq (AW.region ?_)
 refine s_assign (d := (sc (.int .i64 0))) rfl (AWops.nil (AW.seq (AW.region ?_)))
 refine s_move (d := (sc (.string a0))) rfl ?_
 obtain ⟨r1, er1, h⟩ := bnd h
 refine s_call2 (ρ := []) (br := false) (H2 := []) (d := (D.tup [(sc (.string r1.1)), (sc (.int .i64 r1.2))])) F.ca_35 rfl rfl (ac (.one .sc) an) an (by decide) rfl (tree_part.meets _ a0 r1 er1) (.inl rfl) rfl rfl ?_
 refine s_move (d := (D.tup [(sc (.string r1.1)), (sc (.int .i64 r1.2))])) rfl ?_
 refine s_extract (d := (sc (.string r1.1))) rfl rfl ?_
 refine s_extract (d := (sc (.int .i64 r1.2))) rfl rfl ?_
 refine s_assign (d := (sc (.string r1.1))) rfl ?_
 refine s_assign (d := (sc (.int .i64 r1.2))) rfl (AWops.nil (AW.seq (AW.region ?_)))
 refine s_move (d := (sc (.string a1))) rfl ?_
 obtain ⟨r2, er2, h⟩ := bnd h
 refine s_call2 (ρ := []) (br := false) (H2 := []) (d := (D.tup [(sc (.string r2.1)), (sc (.int .i64 r2.2))])) F.ca_35 rfl rfl (ac (.one .sc) an) an (by decide) rfl (tree_part.meets _ a1 r2 er2) (.inl rfl) rfl rfl ?_
 refine s_move (d := (D.tup [(sc (.string r2.1)), (sc (.int .i64 r2.2))])) rfl ?_
 refine s_extract (d := (sc (.string r2.1))) rfl rfl ?_
 refine s_extract (d := (sc (.int .i64 r2.2))) rfl rfl ?_
 refine s_assign (d := (sc (.string r2.1))) rfl ?_
 refine s_assign (d := (sc (.int .i64 r2.2))) rfl (AWops.nil (AW.seq (AW.region ?_)))
 refine s_move (d := (sc (.string r1.1))) rfl ?_
 refine s_move (d := (sc (.string r2.1))) rfl ?_
 obtain ⟨r3, er3, h⟩ := bnd h
 refine s_call2 (ρ := []) (br := false) (H2 := []) (d := (sc (.int .i64 r3))) F.ca_37 rfl rfl (ac (.one .sc) (ac (.one .sc) an)) an (by decide) rfl (strings_Compare.meets _ r1.1 r2.1 r3 er3) (.inl rfl) rfl rfl ?_
 refine s_move (d := (sc (.int .i64 r1.2))) rfl ?_
 refine s_move (d := (sc (.int .i64 r2.2))) rfl ?_
 obtain ⟨r4, er4, h⟩ := bnd h
 refine s_call2 (ρ := []) (br := false) (H2 := []) (d := (sc (.int .i64 r4))) F.ca_38 rfl rfl (ac (.one .sc) (ac (.one .sc) an)) an (by decide) rfl (cmp_Compare_int.meets _ r1.2 r2.2 r4 er4) (.inl rfl) rfl rfl ?_
 refine s_move (d := (sc (.string a0))) rfl ?_
 refine s_move (d := (sc (.string a1))) rfl ?_
 obtain ⟨r5, er5, h⟩ := bnd h
 refine s_call2 (ρ := []) (br := false) (H2 := []) (d := (sc (.int .i64 r5))) F.ca_37 rfl rfl (ac (.one .sc) (ac (.one .sc) an)) an (by decide) rfl (strings_Compare.meets _ a0 a1 r5 er5) (.inl rfl) rfl rfl ?_
 refine s_buildSlice (n := 3) (ps := [(0, (sc (.int .i64 r3))), (1, (sc (.int .i64 r4))), (2, (sc (.int .i64 r5)))]) (cs := rowC e_i64 ([r3, r4, r5] : List Int)) F.u_38 F.sz_3 F.z_3 rfl rfl (by decide) (by decide) rfl rfl ?_
 obtain ⟨r6, er6, h⟩ := bnd h
 refine s_call2 (ρ := []) (br := true) (H2 := [(some (AObj.cells true (rowC e_i64 ([r3, r4, r5] : List Int))))]) (d := (sc (.int .i64 r6))) F.ca_36 rfl rfl (ac (.one (LendC.bor e_i64_len rfl rfl rfl)) an) an (by decide) rfl (cmp_Or_int.meets _ ([r3, r4, r5] : List Int) r6 er6) (.inr ⟨rfl, rfl⟩) rfl rfl ?_
 refine s_assign (d := (sc (.int .i64 r6))) rfl (AWops.nil (AW.ret ?_))
 obtain rfl := Option.some.inj h
 exact ⟨_, rfl, (Weak.gen (kk := 0) [] [] rfl rfl (by decide) (by decide) rfl rfl rfl (le_upd (le_top _) (.t (.one .sc))) an)⟩
mutual
def slices_CompareFunc_string__string_string_string.l0 : Nat → Int → (List ByteArray) → (List ByteArray) → Option Int
 | 0, _, _, _ => none
 | k + 1, x1, a0, a1 => if (decide (x1 < (a0.length : Int))) = true then ((rd a0 x1).bind fun v3 => if (decide (x1 ≥ (a1.length : Int))) = true then (some 1) else ((rd a1 x1).bind fun v5 => (tree_Order_1.f k v3 v5).bind fun r6 => if (r6 != 0) = true then (some r6) else (slices_CompareFunc_string__string_string_string.l0 k (IntKind.i64.wrap (x1 + 1)) a0 a1))) else (if (decide ((a0.length : Int) < (a1.length : Int))) = true then (some (-1)) else (some 0))
end
def slices_CompareFunc_string__string_string_string.f (k : Nat) (a0 : List ByteArray) (a1 : List ByteArray) : Option Int := slices_CompareFunc_string__string_string_string.l0 k 0 a0 a1
theorem slices_CompareFunc_string__string_string_string.meets (k : Nat) (a0 : List ByteArray) (a1 : List ByteArray) (r : Int) (h : slices_CompareFunc_string__string_string_string.f k a0 a1 = some r) : Meets Tryd.prog 32 [(D.one (C.p false (.sl a0.length (a0.flatMap e_str)))), (D.one (C.p false (.sl a1.length (a1.flatMap e_str)))), (D.one (C.clo 34 []))] [] (sc (.int .i64 r)) [] := by
 unfold slices_CompareFunc_string__string_string_string.f at h
 refine Meets.of_body (n := 39) Tryd.func32 rfl rfl (nl rfl) fun x hx => ?_
 replace hx : x.k = 0 := hx
 show AW _ x _ _ ⟨39, fr0 [(D.one (C.p false (.sl a0.length (a0.flatMap e_str)))), (D.one (C.p false (.sl a1.length (a1.flatMap e_str)))), (D.one (C.clo 34 []))], []⟩
 refine AW.seq (AW.region ?_)
 refine s_assign (d := (sc (.int .i64 0))) rfl (AWops.nil (AW.seq (AW.seq (AW.region ?_))))
 refine s_move (d := (D.one (C.p false (.sl a0.length (a0.flatMap e_str))))) rfl ?_
 refine s_len (n := a0.length) F.u_26 rfl (.inr ⟨(fun _ _ h => by cases h), ⟨_, rfl⟩⟩) ?_
 refine s_move (d := (sc (.int .i64 0))) rfl (AWops.nil (AW.block ?_))
 refine AW.loopw (st0 := ⟨39, (upd 39 (upd 39 (upd 39 (upd 39 (upd 39 (upd 39 topF 0 (D.one (C.p false (.sl a0.length (a0.flatMap e_str))))) 1 (D.one (C.p false (.sl a1.length (a1.flatMap e_str))))) 2 (D.one (C.clo 34 []))) 11 (D.one (C.p false (.sl a0.length (a0.flatMap e_str))))) 12 (sc (.int .i64 (a0.length : Int)))) 13 (sc (.int .i64 0))), []⟩) (fun kv st => kv ≤ k ∧ ∃ (x1 : Int), slices_CompareFunc_string__string_string_string.l0 kv x1 a0 a1 = some r ∧ st = ⟨39, (upd 39 (upd 39 (upd 39 (upd 39 (upd 39 (upd 39 topF 0 (D.one (C.p false (.sl a0.length (a0.flatMap e_str))))) 1 (D.one (C.p false (.sl a1.length (a1.flatMap e_str))))) 2 (D.one (C.clo 34 []))) 11 (D.one (C.p false (.sl a0.length (a0.flatMap e_str))))) 12 (sc (.int .i64 (a0.length : Int)))) 13 (sc (.int .i64 x1))), []⟩) (k := k) (Weak.gen (kk := 0) [] [] hx rfl (by decide) (by decide) rfl rfl rfl (le_upd (le_upd (le_upd (le_upd (le_upd (le_upd (le_top _) (.t (.one .same))) (.t (.one .same))) (.t (.one (CLe.cloL an)))) (.t (.one .same))) (.t (.one .sc))) (.t (.one .sc))) an) ⟨Nat.le_refl _, 0, h, rfl⟩ ?_
 rintro ql0 st ⟨hkl0, x1, h, rfl⟩
 cases ql0 with
 | zero => exact absurd h (by simp [slices_CompareFunc_string__string_string_string.l0])
 | succ ql0 =>
  replace h := (slices_CompareFunc_string__string_string_string.l0.eq_2 _ _ _ _).symm.trans h
  refine AW.seq (AW.region ?_)
  refine s_binI (v := (.bool (decide (x1 < (a0.length : Int))))) rfl rfl rfl (AWops.nil (AW.seq ?_))
  rcases itH h with ⟨c2, h⟩ | ⟨c2, h⟩
  ·refine AW.cond_yes rfl c2 (AW.skip (AW.seq (AW.block (AW.seq (AW.region ?_)))))
   refine s_move (d := (sc (.int .i64 x1))) rfl ?_
   obtain ⟨v3, ev3, h⟩ := bnd h
   obtain ⟨pv3, qv3, gv3⟩ := rd_some ev3
   refine s_indexImm (ps := [P.v (.string v3)]) F.u_26 F.sz_9 rfl rfl pv3 qv3 (flat_at e_str_len gv3 (e_str_eq v3)) ?_
   refine s_load1 (c' := (C.p true (.v (.string v3)))) F.ag_9 rfl rfl ?_
   refine s_assign (d := (sc (.int .i64 x1))) rfl ?_
   refine s_assign (d := (sc (.string v3))) rfl (AWops.nil (AW.seq (AW.seq (AW.region ?_))))
   refine s_move (d := (sc (.int .i64 x1))) rfl ?_
   refine s_move (d := (D.one (C.p false (.sl a1.length (a1.flatMap e_str))))) rfl ?_
   refine s_len (n := a1.length) F.u_26 rfl (.inr ⟨(fun _ _ h => by cases h), ⟨_, rfl⟩⟩) ?_
   refine s_binI (v := (.bool (decide (x1 ≥ (a1.length : Int))))) rfl rfl rfl (AWops.nil ?_)
   rcases itH h with ⟨c4, h⟩ | ⟨c4, h⟩
   ·refine AW.cond_yes rfl c4 (AW.seq (AW.region ?_))
    refine s_assign (d := (sc (.int .i64 1))) rfl (AWops.nil (AW.ret ?_))
    obtain rfl := Option.some.inj h
    exact ⟨_, rfl, (Weak.gen (kk := 0) [] [] rfl rfl (by decide) (by decide) rfl rfl rfl (le_upd (le_top _) (.t (.one .sc))) an)⟩
   ·refine AW.cond_no rfl c4 (AW.skip (AW.seq (AW.region ?_)))
    refine s_move (d := (D.one (C.p false (.sl a1.length (a1.flatMap e_str))))) rfl ?_
    refine s_move (d := (sc (.int .i64 x1))) rfl ?_
    obtain ⟨v5, ev5, h⟩ := bnd h
    obtain ⟨pv5, qv5, gv5⟩ := rd_some ev5
    refine s_indexImm (ps := [P.v (.string v5)]) F.u_26 F.sz_9 rfl rfl pv5 qv5 (flat_at e_str_len gv5 (e_str_eq v5)) ?_
    refine s_load1 (c' := (C.p true (.v (.string v5)))) F.ag_9 rfl rfl ?_
    refine s_assign (d := (sc (.string v5))) rfl (AWops.nil (AW.seq (AW.region ?_)))
    refine s_move (d := (D.one (C.clo 34 []))) rfl ?_
    refine s_move (d := (sc (.string v3))) rfl ?_
    refine s_move (d := (sc (.string v5))) rfl ?_
    obtain ⟨r6, er6, h⟩ := bnd h
    refine s_call2 (ρ := []) (br := false) (H2 := []) (d := (sc (.int .i64 r6))) F.ca_34 rfl rfl (ac (.one .sc) (ac (.one .sc) an)) an (by decide) rfl (tree_Order_1.meets _ v3 v5 r6 er6) (.inl rfl) rfl rfl ?_
    refine s_assign (d := (sc (.int .i64 r6))) rfl (AWops.nil (AW.seq (AW.region ?_)))
    refine s_move (d := (sc (.int .i64 r6))) rfl ?_
    refine s_binI (v := (.bool (r6 != 0))) rfl rfl rfl (AWops.nil ?_)
    rcases itH h with ⟨c7, h⟩ | ⟨c7, h⟩
    ·refine AW.cond_yes rfl c7 (AW.seq (AW.region ?_))
     refine s_move (d := (sc (.int .i64 r6))) rfl ?_
     refine s_assign (d := (sc (.int .i64 r6))) rfl (AWops.nil (AW.ret ?_))
     obtain rfl := Option.some.inj h
     exact ⟨_, rfl, (Weak.gen (kk := 0) [] [] rfl rfl (by decide) (by decide) rfl rfl rfl (le_upd (le_top _) (.t (.one .sc))) an)⟩
    ·refine AW.cond_no rfl c7 (AW.skip (AW.region ?_))
     refine s_binI (v := (.int .i64 (IntKind.i64.wrap (x1 + 1)))) rfl rfl rfl ?_
     refine s_move (d := (sc (.int .i64 (IntKind.i64.wrap (x1 + 1))))) rfl (AWops.nil ?_)
     exact ⟨_, ⟨39, (upd 39 (upd 39 (upd 39 (upd 39 (upd 39 (upd 39 topF 0 (D.one (C.p false (.sl a0.length (a0.flatMap e_str))))) 1 (D.one (C.p false (.sl a1.length (a1.flatMap e_str))))) 2 (D.one (C.clo 34 []))) 11 (D.one (C.p false (.sl a0.length (a0.flatMap e_str))))) 12 (sc (.int .i64 (a0.length : Int)))) 13 (sc (.int .i64 (IntKind.i64.wrap (x1 + 1))))), []⟩, by omega, (Weak.gen (kk := 0) [] [] hx rfl (by decide) (by decide) rfl rfl rfl (le_upd (le_upd (le_upd (le_upd (le_upd (le_upd (le_top _) (.t (.one .same))) (.t (.one .same))) (.t (.one (CLe.cloL an)))) (.t (.one .same))) (.t (.one .sc))) (.t (.one .sc))) an), by omega, IntKind.i64.wrap (x1 + 1), h, rfl⟩
  ·refine AW.cond_no rfl c2 (AW.exit (AW.seq (AW.seq (AW.region ?_))))
   refine s_move (d := (D.one (C.p false (.sl a0.length (a0.flatMap e_str))))) rfl ?_
   refine s_len (n := a0.length) F.u_26 rfl (.inr ⟨(fun _ _ h => by cases h), ⟨_, rfl⟩⟩) ?_
   refine s_move (d := (D.one (C.p false (.sl a1.length (a1.flatMap e_str))))) rfl ?_
   refine s_len (n := a1.length) F.u_26 rfl (.inr ⟨(fun _ _ h => by cases h), ⟨_, rfl⟩⟩) ?_
   refine s_binI (v := (.bool (decide ((a0.length : Int) < (a1.length : Int))))) rfl rfl rfl (AWops.nil ?_)
   rcases itH h with ⟨c8, h⟩ | ⟨c8, h⟩
   ·refine AW.cond_yes rfl c8 (AW.seq (AW.region ?_))
    refine s_assign (d := (sc (.int .i64 (-1)))) rfl (AWops.nil (AW.ret ?_))
    obtain rfl := Option.some.inj h
    exact ⟨_, rfl, (Weak.gen (kk := 0) [] [] rfl rfl (by decide) (by decide) rfl rfl rfl (le_upd (le_top _) (.t (.one .sc))) an)⟩
   ·refine AW.cond_no rfl c8 (AW.skip (AW.seq (AW.region ?_)))
    refine s_assign (d := (sc (.int .i64 0))) rfl (AWops.nil (AW.ret ?_))
    obtain rfl := Option.some.inj h
    exact ⟨_, rfl, (Weak.gen (kk := 0) [] [] rfl rfl (by decide) (by decide) rfl rfl rfl (le_upd (le_top _) (.t (.one .sc))) an)⟩
def tree_Order.f (k : Nat) (a0 : ByteArray) (a1 : ByteArray) : Option Int := (strings_Split_33.f k a0).bind fun r1 => (strings_Split_33.f k a1).bind fun r2 => (slices_CompareFunc_string__string_string_string.f k r1 r2).bind fun r3 => some r3
theorem tree_Order.meets (k : Nat) (a0 : ByteArray) (a1 : ByteArray) (r : Int) (h : tree_Order.f k a0 a1 = some r) : Meets Tryd.prog 9 [(sc (.string a0)), (sc (.string a1))] [] (sc (.int .i64 r)) [] := by
 unfold tree_Order.f at h
 refine Meets.of_body (n := 10) Tryd.func9 rfl rfl (nl rfl) fun x hx => ?_
 replace hx : x.k = 0 := hx
 show AW _ x _ _ ⟨10, fr0 [(sc (.string a0)), (sc (.string a1))], []⟩
 refine AW.seq (AW.region ?_)
 refine s_assign (d := (sc (.int .i64 0))) rfl (AWops.nil (AW.seq (AW.region ?_)))
 refine s_move (d := (sc (.string a0))) rfl ?_
 obtain ⟨r1, er1, h⟩ := bnd h
 refine s_call2 (ρ := []) (br := false) (H2 := []) (d := (D.one (C.p false (.sl r1.length (r1.flatMap e_str))))) F.ca_33 rfl rfl (ac (.one .sc) (ac (.one .sc) an)) an (by decide) rfl (strings_Split_33.meets _ a0 r1 er1) (.inl rfl) rfl rfl ?_
 refine s_move (d := (sc (.string a1))) rfl ?_
 obtain ⟨r2, er2, h⟩ := bnd h
 refine s_call2 (ρ := []) (br := false) (H2 := []) (d := (D.one (C.p false (.sl r2.length (r2.flatMap e_str))))) F.ca_33 rfl rfl (ac (.one .sc) (ac (.one .sc) an)) an (by decide) rfl (strings_Split_33.meets _ a1 r2 er2) (.inl rfl) rfl rfl ?_
 obtain ⟨r3, er3, h⟩ := bnd h
 refine s_call2 (ρ := []) (br := false) (H2 := []) (d := (sc (.int .i64 r3))) F.ca_32 rfl rfl (ac (.one .imm) (ac (.one .imm) (ac (.one (LendC.cloL an)) an))) an (by decide) rfl (slices_CompareFunc_string__string_string_string.meets _ r1 r2 r3 er3) (.inl rfl) rfl rfl ?_
 refine s_assign (d := (sc (.int .i64 r3))) rfl (AWops.nil (AW.ret ?_))
 obtain rfl := Option.some.inj h
 exact ⟨_, rfl, (Weak.gen (kk := 0) [] [] rfl rfl (by decide) (by decide) rfl rfl rfl (le_upd (le_top _) (.t (.one .sc))) an)⟩
mutual
def dossierref18_parts.l0 : Nat → (List ByteArray) → Int → Int → ByteArray → Option (List ByteArray)
 | 0, _, _, _, _ => none
 | k + 1, x1, x2, x3, a0 => if (decide (x3 < (IntKind.i64.wrap ((a0.size : Int) + 1)))) = true then (if (x3 == (a0.size : Int)) = true then (if (decide (0 ≤ x2 ∧ x2 ≤ x3 ∧ x3 ≤ (a0.size : Int))) = true then (if (decide (x1.length + ([a0.extract x2.toNat x3.toNat] : List ByteArray).length ≤ 8796093022208)) = true then (dossierref18_parts.l0 k (x1 ++ ([a0.extract x2.toNat x3.toNat] : List ByteArray)) (IntKind.i64.wrap (x3 + 1)) (IntKind.i64.wrap (x3 + 1)) a0) else none) else none) else ((bt a0 x3).bind fun v8 => if (v8 == 47) = true then (if (decide (0 ≤ x2 ∧ x2 ≤ x3 ∧ x3 ≤ (a0.size : Int))) = true then (if (decide (x1.length + ([a0.extract x2.toNat x3.toNat] : List ByteArray).length ≤ 8796093022208)) = true then (dossierref18_parts.l0 k (x1 ++ ([a0.extract x2.toNat x3.toNat] : List ByteArray)) (IntKind.i64.wrap (x3 + 1)) (IntKind.i64.wrap (x3 + 1)) a0) else none) else none) else (dossierref18_parts.l0 k x1 x2 (IntKind.i64.wrap (x3 + 1)) a0))) else (some x1)
end
def dossierref18_parts.f (k : Nat) (a0 : ByteArray) : Option (List ByteArray) := dossierref18_parts.l0 k ([] : List ByteArray) 0 0 a0
theorem dossierref18_parts.meets (k : Nat) (a0 : ByteArray) (r : (List ByteArray)) (h : dossierref18_parts.f k a0 = some r) : Meets Tryd.prog 39 [(sc (.string a0))] [] (D.one (C.own 0 0 r.length 1)) [(some (AObj.cells true (rowC e_str r)))] := by
 unfold dossierref18_parts.f at h
 refine Meets.of_body (n := 33) Tryd.func39 rfl rfl (nl rfl) fun x hx => ?_
 replace hx : x.k = 0 := hx
 show AW _ x _ _ ⟨33, fr0 [(sc (.string a0))], []⟩
 refine AW.seq (AW.region ?_)
 refine s_assign (d := (sc (.slice none 0 0))) rfl (AWops.nil (AW.seq (AW.region ?_)))
 refine s_assign (d := (sc (.slice none 0 0))) rfl (AWops.nil (AW.seq (AW.region ?_)))
 refine s_assign (d := (sc (.int .i64 0))) rfl (AWops.nil (AW.seq (AW.seq (AW.region ?_))))
 refine s_move (d := (sc (.string a0))) rfl ?_
 refine s_len (n := a0.size) F.u_9 rfl (.inl ⟨⟨_, _, rfl⟩, rfl⟩) ?_
 refine s_binI (v := (.int .i64 (IntKind.i64.wrap ((a0.size : Int) + 1)))) rfl rfl rfl ?_
 refine s_move (d := (sc (.int .i64 0))) rfl (AWops.nil (AW.block ?_))
 refine AW.loopw (st0 := ⟨33, (upd 33 (upd 33 (upd 33 (upd 33 (upd 33 topF 0 (sc (.string a0))) 3 (D.one (C.own 0 0 ([] : List ByteArray).length 1))) 4 (sc (.int .i64 0))) 8 (sc (.int .i64 (IntKind.i64.wrap ((a0.size : Int) + 1))))) 9 (sc (.int .i64 0))), [(some (AObj.cells true (rowC e_str ([] : List ByteArray))))]⟩) (fun kv st => kv ≤ k ∧ ∃ (x1 : List ByteArray) (x2 : Int) (x3 : Int), dossierref18_parts.l0 kv x1 x2 x3 a0 = some r ∧ st = ⟨33, (upd 33 (upd 33 (upd 33 (upd 33 (upd 33 topF 0 (sc (.string a0))) 3 (D.one (C.own 0 0 x1.length 1))) 4 (sc (.int .i64 x2))) 8 (sc (.int .i64 (IntKind.i64.wrap ((a0.size : Int) + 1))))) 9 (sc (.int .i64 x3))), [(some (AObj.cells true (rowC e_str x1)))]⟩) (k := k) (Weak.trans (Weak.nil (sz := 1) (i := 3) rfl) (Weak.gen (kk := 0) [0] [] hx rfl (by decide) (by decide) rfl rfl rfl (le_upd (le_upd (le_upd (le_upd (le_upd (le_top _) (.t (.one .sc))) (.t (.one (.own rfl)))) (.t (.one .sc))) (.t (.one .sc))) (.t (.one .sc))) (ac (.cells (fun h => h) an) an))) ⟨Nat.le_refl _, ([] : List ByteArray), 0, 0, h, rfl⟩ ?_
 rintro ql0 st ⟨hkl0, x1, x2, x3, h, rfl⟩
 cases ql0 with
 | zero => exact absurd h (by simp [dossierref18_parts.l0])
 | succ ql0 =>
  replace h := (dossierref18_parts.l0.eq_2 _ _ _ _ _).symm.trans h
  refine AW.seq (AW.region ?_)
  refine s_binI (v := (.bool (decide (x3 < (IntKind.i64.wrap ((a0.size : Int) + 1)))))) rfl rfl rfl (AWops.nil (AW.seq ?_))
  rcases itH h with ⟨c4, h⟩ | ⟨c4, h⟩
  ·refine AW.cond_yes rfl c4 (AW.skip (AW.seq (AW.block (AW.seq (AW.region ?_)))))
   refine s_move (d := (sc (.int .i64 x3))) rfl ?_
   refine s_assign (d := (sc (.int .i64 x3))) rfl (AWops.nil (AW.seq (AW.region ?_)))
   refine s_move (d := (sc (.int .i64 x3))) rfl ?_
   refine s_move (d := (sc (.string a0))) rfl ?_
   refine s_len (n := a0.size) F.u_9 rfl (.inl ⟨⟨_, _, rfl⟩, rfl⟩) ?_
   refine s_binI (v := (.bool (x3 == (a0.size : Int)))) rfl rfl rfl ?_
   refine s_move (d := (sc (.bool (x3 == (a0.size : Int))))) rfl ?_
   rcases itH h with ⟨c5, h⟩ | ⟨c5, h⟩
   ·iterate 4 refine AWops.guard_no rfl (nl rfl) rfl c5 ?_
    refine s_pick_yes (d := (sc (.bool true))) rfl c5 rfl (AWops.nil ?_)
    refine AW.cond_yes rfl rfl (AW.seq (AW.region ?_))
    refine s_move (d := (D.one (C.own 0 0 x1.length 1))) rfl ?_
    refine s_move (d := (sc (.string a0))) rfl ?_
    refine s_move (d := (sc (.int .i64 x2))) rfl ?_
    refine s_move (d := (sc (.int .i64 x3))) rfl ?_
    obtain ⟨c6, h⟩ := gdH h
    have dc6 := of_decide_eq_true c6
    refine s_sliceStr F.u_9 rfl (.yes rfl (by omega) rfl) (.yes rfl (by omega) rfl) (by omega) (by omega) ?_
    refine s_buildSlice (n := 1) (ps := [(0, (sc (.string (a0.extract x2.toNat x3.toNat))))]) (cs := rowC e_str ([a0.extract x2.toNat x3.toNat] : List ByteArray)) F.u_26 F.sz_9 F.z_9 rfl rfl (by decide) (by decide) rfl rfl ?_
    obtain ⟨c7, h⟩ := gdH h
    have dc7 := of_decide_eq_true c7
    refine t_append (xs := x1) (ys := ([a0.extract x2.toNat x3.toNat] : List ByteArray)) (zs := x1 ++ ([a0.extract x2.toNat x3.toNat] : List ByteArray)) (H' := [none, (some (AObj.cells true (rowC e_str ([a0.extract x2.toNat x3.toNat] : List ByteArray)))), (some (AObj.cells true (rowC e_str (x1 ++ ([a0.extract x2.toNat x3.toNat] : List ByteArray)))))]) F.u_26 F.in_9 rfl e_str_len (.own rfl rfl) (.own rfl rfl) F.u_26 (by omega) (by omega) rfl rfl ?_
    refine s_assign (d := (D.one (C.own 2 0 ((x1 ++ ([a0.extract x2.toNat x3.toNat] : List ByteArray)).length) 1))) rfl (AWops.nil (AW.region ?_))
    refine s_move (d := (sc (.int .i64 x3))) rfl ?_
    refine s_binI (v := (.int .i64 (IntKind.i64.wrap (x3 + 1)))) rfl rfl rfl ?_
    refine s_assign (d := (sc (.int .i64 (IntKind.i64.wrap (x3 + 1))))) rfl (AWops.nil (AW.region ?_))
    refine s_binI (v := (.int .i64 (IntKind.i64.wrap (x3 + 1)))) rfl rfl rfl ?_
    refine s_move (d := (sc (.int .i64 (IntKind.i64.wrap (x3 + 1))))) rfl (AWops.nil ?_)
    exact ⟨_, ⟨33, (upd 33 (upd 33 (upd 33 (upd 33 (upd 33 topF 0 (sc (.string a0))) 3 (D.one (C.own 0 0 (x1 ++ ([a0.extract x2.toNat x3.toNat] : List ByteArray)).length 1))) 4 (sc (.int .i64 (IntKind.i64.wrap (x3 + 1))))) 8 (sc (.int .i64 (IntKind.i64.wrap ((a0.size : Int) + 1))))) 9 (sc (.int .i64 (IntKind.i64.wrap (x3 + 1))))), [(some (AObj.cells true (rowC e_str (x1 ++ ([a0.extract x2.toNat x3.toNat] : List ByteArray)))))]⟩, by omega, (Weak.gen (kk := 0) [2] [] hx rfl (by decide) (by decide) rfl rfl rfl (le_upd (le_upd (le_upd (le_upd (le_upd (le_top _) (.t (.one .sc))) (.t (.one (.own rfl)))) (.t (.one .sc))) (.t (.one .sc))) (.t (.one .sc))) (ac (.cells (fun h => h) (all2_row _)) an)), by omega, x1 ++ ([a0.extract x2.toNat x3.toNat] : List ByteArray), IntKind.i64.wrap (x3 + 1), IntKind.i64.wrap (x3 + 1), h, rfl⟩
   ·refine AWops.guard_yes rfl (nl rfl) rfl c5 ?_
    refine s_move (d := (sc (.string a0))) rfl ?_
    refine AWops.guard_yes rfl (nl rfl) rfl c5 ?_
    refine s_move (d := (sc (.int .i64 x3))) rfl ?_
    refine AWops.guard_yes rfl (nl rfl) rfl c5 ?_
    obtain ⟨v8, ev8, h⟩ := bnd h
    obtain ⟨pv8, bv8, gv8, rfl⟩ := bt_some ev8
    refine s_indexStr F.u_9 rfl rfl pv8 gv8 ?_
    generalize hzv8 : ((bv8.toNat : Nat) : Int) = v8 at *
    refine AWops.guard_yes rfl (nl rfl) rfl c5 ?_
    refine s_binI (v := (.bool (v8 == 47))) rfl rfl rfl ?_
    refine s_pick_no (d := (sc (.bool (v8 == 47)))) rfl c5 rfl (AWops.nil ?_)
    rcases itH h with ⟨c9, h⟩ | ⟨c9, h⟩
    ·refine AW.cond_yes rfl c9 (AW.seq (AW.region ?_))
     refine s_move (d := (D.one (C.own 0 0 x1.length 1))) rfl ?_
     refine s_move (d := (sc (.string a0))) rfl ?_
     refine s_move (d := (sc (.int .i64 x2))) rfl ?_
     refine s_move (d := (sc (.int .i64 x3))) rfl ?_
     obtain ⟨c10, h⟩ := gdH h
     have dc10 := of_decide_eq_true c10
     refine s_sliceStr F.u_9 rfl (.yes rfl (by omega) rfl) (.yes rfl (by omega) rfl) (by omega) (by omega) ?_
     refine s_buildSlice (n := 1) (ps := [(0, (sc (.string (a0.extract x2.toNat x3.toNat))))]) (cs := rowC e_str ([a0.extract x2.toNat x3.toNat] : List ByteArray)) F.u_26 F.sz_9 F.z_9 rfl rfl (by decide) (by decide) rfl rfl ?_
     obtain ⟨c11, h⟩ := gdH h
     have dc11 := of_decide_eq_true c11
     refine t_append (xs := x1) (ys := ([a0.extract x2.toNat x3.toNat] : List ByteArray)) (zs := x1 ++ ([a0.extract x2.toNat x3.toNat] : List ByteArray)) (H' := [none, (some (AObj.cells true (rowC e_str ([a0.extract x2.toNat x3.toNat] : List ByteArray)))), (some (AObj.cells true (rowC e_str (x1 ++ ([a0.extract x2.toNat x3.toNat] : List ByteArray)))))]) F.u_26 F.in_9 rfl e_str_len (.own rfl rfl) (.own rfl rfl) F.u_26 (by omega) (by omega) rfl rfl ?_
     refine s_assign (d := (D.one (C.own 2 0 ((x1 ++ ([a0.extract x2.toNat x3.toNat] : List ByteArray)).length) 1))) rfl (AWops.nil (AW.region ?_))
     refine s_move (d := (sc (.int .i64 x3))) rfl ?_
     refine s_binI (v := (.int .i64 (IntKind.i64.wrap (x3 + 1)))) rfl rfl rfl ?_
     refine s_assign (d := (sc (.int .i64 (IntKind.i64.wrap (x3 + 1))))) rfl (AWops.nil (AW.region ?_))
     refine s_binI (v := (.int .i64 (IntKind.i64.wrap (x3 + 1)))) rfl rfl rfl ?_
     refine s_move (d := (sc (.int .i64 (IntKind.i64.wrap (x3 + 1))))) rfl (AWops.nil ?_)
     exact ⟨_, ⟨33, (upd 33 (upd 33 (upd 33 (upd 33 (upd 33 topF 0 (sc (.string a0))) 3 (D.one (C.own 0 0 (x1 ++ ([a0.extract x2.toNat x3.toNat] : List ByteArray)).length 1))) 4 (sc (.int .i64 (IntKind.i64.wrap (x3 + 1))))) 8 (sc (.int .i64 (IntKind.i64.wrap ((a0.size : Int) + 1))))) 9 (sc (.int .i64 (IntKind.i64.wrap (x3 + 1))))), [(some (AObj.cells true (rowC e_str (x1 ++ ([a0.extract x2.toNat x3.toNat] : List ByteArray)))))]⟩, by omega, (Weak.gen (kk := 0) [2] [] hx rfl (by decide) (by decide) rfl rfl rfl (le_upd (le_upd (le_upd (le_upd (le_upd (le_top _) (.t (.one .sc))) (.t (.one (.own rfl)))) (.t (.one .sc))) (.t (.one .sc))) (.t (.one .sc))) (ac (.cells (fun h => h) (all2_row _)) an)), by omega, x1 ++ ([a0.extract x2.toNat x3.toNat] : List ByteArray), IntKind.i64.wrap (x3 + 1), IntKind.i64.wrap (x3 + 1), h, rfl⟩
    ·refine AW.cond_no rfl c9 (AW.skip (AW.region ?_))
     refine s_binI (v := (.int .i64 (IntKind.i64.wrap (x3 + 1)))) rfl rfl rfl ?_
     refine s_move (d := (sc (.int .i64 (IntKind.i64.wrap (x3 + 1))))) rfl (AWops.nil ?_)
     exact ⟨_, ⟨33, (upd 33 (upd 33 (upd 33 (upd 33 (upd 33 topF 0 (sc (.string a0))) 3 (D.one (C.own 0 0 x1.length 1))) 4 (sc (.int .i64 x2))) 8 (sc (.int .i64 (IntKind.i64.wrap ((a0.size : Int) + 1))))) 9 (sc (.int .i64 (IntKind.i64.wrap (x3 + 1))))), [(some (AObj.cells true (rowC e_str x1)))]⟩, by omega, (Weak.gen (kk := 0) [0] [] hx rfl (by decide) (by decide) rfl rfl rfl (le_upd (le_upd (le_upd (le_upd (le_upd (le_top _) (.t (.one .sc))) (.t (.one (.own rfl)))) (.t (.one .sc))) (.t (.one .sc))) (.t (.one .sc))) (ac (.cells (fun h => h) (all2_row _)) an)), by omega, x1, x2, IntKind.i64.wrap (x3 + 1), h, rfl⟩
  ·refine AW.cond_no rfl c4 (AW.exit (AW.seq (AW.region ?_)))
   refine s_move (d := (D.one (C.own 0 0 x1.length 1))) rfl ?_
   refine s_assign (d := (D.one (C.own 0 0 x1.length 1))) rfl (AWops.nil (AW.ret ?_))
   obtain rfl := Option.some.inj h
   exact ⟨_, rfl, (Weak.gen (kk := 0) [0] [] rfl rfl (by decide) (by decide) rfl rfl rfl (le_upd (le_top _) (.t (.one (.own rfl)))) (ac (.cells (fun h => h) (all2_row _)) an))⟩
mutual
def dossierref18_last.l0 : Nat → Int → ByteArray → Int → Option Int
 | 0, _, _, _ => none
 | k + 1, x1, a0, a1 => if (decide (x1 ≥ 0)) = true then ((bt a0 x1).bind fun v3 => if (v3 == a1) = true then (some x1) else (dossierref18_last.l0 k (IntKind.i64.wrap (x1 - 1)) a0 a1)) else (some (-1))
end
def dossierref18_last.f (k : Nat) (a0 : ByteArray) (a1 : Int) : Option Int := dossierref18_last.l0 k (IntKind.i64.wrap ((a0.size : Int) - 1)) a0 a1
theorem dossierref18_last.meets (k : Nat) (a0 : ByteArray) (a1 : Int) (r : Int) (h : dossierref18_last.f k a0 a1 = some r) : Meets Tryd.prog 69 [(sc (.string a0)), (sc (.int .u8 a1))] [] (sc (.int .i64 r)) [] := by
 unfold dossierref18_last.f at h
 refine Meets.of_body (n := 19) Tryd.func69 rfl rfl (nl rfl) fun x hx => ?_
 replace hx : x.k = 0 := hx
 show AW _ x _ _ ⟨19, fr0 [(sc (.string a0)), (sc (.int .u8 a1))], []⟩
 refine AW.seq (AW.region ?_)
 refine s_assign (d := (sc (.int .i64 0))) rfl (AWops.nil (AW.seq (AW.seq (AW.region ?_))))
 refine s_move (d := (sc (.string a0))) rfl ?_
 refine s_len (n := a0.size) F.u_9 rfl (.inl ⟨⟨_, _, rfl⟩, rfl⟩) ?_
 refine s_binI (v := (.int .i64 (IntKind.i64.wrap ((a0.size : Int) - 1)))) rfl rfl rfl ?_
 refine s_assign (d := (sc (.int .i64 (IntKind.i64.wrap ((a0.size : Int) - 1))))) rfl (AWops.nil (AW.block ?_))
 refine AW.loopw (st0 := ⟨19, (upd 19 (upd 19 (upd 19 topF 0 (sc (.string a0))) 1 (sc (.int .u8 a1))) 5 (sc (.int .i64 (IntKind.i64.wrap ((a0.size : Int) - 1))))), []⟩) (fun kv st => kv ≤ k ∧ ∃ (x1 : Int), dossierref18_last.l0 kv x1 a0 a1 = some r ∧ st = ⟨19, (upd 19 (upd 19 (upd 19 topF 0 (sc (.string a0))) 1 (sc (.int .u8 a1))) 5 (sc (.int .i64 x1))), []⟩) (k := k) (Weak.gen (kk := 0) [] [] hx rfl (by decide) (by decide) rfl rfl rfl (le_upd (le_upd (le_upd (le_top _) (.t (.one .sc))) (.t (.one .sc))) (.t (.one .sc))) an) ⟨Nat.le_refl _, IntKind.i64.wrap ((a0.size : Int) - 1), h, rfl⟩ ?_
 rintro ql0 st ⟨hkl0, x1, h, rfl⟩
 cases ql0 with
 | zero => exact absurd h (by simp [dossierref18_last.l0])
 | succ ql0 =>
  replace h := (dossierref18_last.l0.eq_2 _ _ _ _).symm.trans h
  refine AW.seq (AW.seq (AW.region ?_))
  refine s_move (d := (sc (.int .i64 x1))) rfl ?_
  refine s_binI (v := (.bool (decide (x1 ≥ 0)))) rfl rfl rfl (AWops.nil ?_)
  rcases itH h with ⟨c2, h⟩ | ⟨c2, h⟩
  ·refine AW.cond_yes rfl c2 (AW.skip (AW.seq (AW.block (AW.seq (AW.region ?_)))))
   refine s_move (d := (sc (.string a0))) rfl ?_
   refine s_move (d := (sc (.int .i64 x1))) rfl ?_
   obtain ⟨v3, ev3, h⟩ := bnd h
   obtain ⟨pv3, bv3, gv3, rfl⟩ := bt_some ev3
   refine s_indexStr F.u_9 rfl rfl pv3 gv3 ?_
   generalize hzv3 : ((bv3.toNat : Nat) : Int) = v3 at *
   refine s_move (d := (sc (.int .u8 a1))) rfl ?_
   refine s_binI (v := (.bool (v3 == a1))) rfl rfl rfl (AWops.nil ?_)
   rcases itH h with ⟨c4, h⟩ | ⟨c4, h⟩
   ·refine AW.cond_yes rfl c4 (AW.seq (AW.region ?_))
    refine s_move (d := (sc (.int .i64 x1))) rfl ?_
    refine s_assign (d := (sc (.int .i64 x1))) rfl (AWops.nil (AW.ret ?_))
    obtain rfl := Option.some.inj h
    exact ⟨_, rfl, (Weak.gen (kk := 0) [] [] rfl rfl (by decide) (by decide) rfl rfl rfl (le_upd (le_top _) (.t (.one .sc))) an)⟩
   ·refine AW.cond_no rfl c4 (AW.skip (AW.region ?_))
    refine s_move (d := (sc (.int .i64 x1))) rfl ?_
    refine s_binI (v := (.int .i64 (IntKind.i64.wrap (x1 - 1)))) rfl rfl rfl ?_
    refine s_assign (d := (sc (.int .i64 (IntKind.i64.wrap (x1 - 1))))) rfl (AWops.nil ?_)
    exact ⟨_, ⟨19, (upd 19 (upd 19 (upd 19 topF 0 (sc (.string a0))) 1 (sc (.int .u8 a1))) 5 (sc (.int .i64 (IntKind.i64.wrap (x1 - 1))))), []⟩, by omega, (Weak.gen (kk := 0) [] [] hx rfl (by decide) (by decide) rfl rfl rfl (le_upd (le_upd (le_upd (le_top _) (.t (.one .sc))) (.t (.one .sc))) (.t (.one .sc))) an), by omega, IntKind.i64.wrap (x1 - 1), h, rfl⟩
  ·refine AW.cond_no rfl c2 (AW.exit (AW.seq (AW.region ?_)))
   refine s_assign (d := (sc (.int .i64 (-1)))) rfl (AWops.nil (AW.ret ?_))
   obtain rfl := Option.some.inj h
   exact ⟨_, rfl, (Weak.gen (kk := 0) [] [] rfl rfl (by decide) (by decide) rfl rfl rfl (le_upd (le_top _) (.t (.one .sc))) an)⟩
mutual
def dossierref01_Text.f : Nat → Int → Option ByteArray
 | 0, _ => none
 | k + 1, a0 => if (decide (a0 < 0)) = true then (if (decide (a0 > (-10))) = true then ((dossierref01_Text.f k (IntKind.i64.wrap (0 - a0))).bind fun r3 => if (decide ((⟨#[45]⟩ : ByteArray).size + r3.size ≤ 9223372036854775807)) = true then (some ((⟨#[45]⟩ : ByteArray) ++ r3)) else none) else ((dossierref01_Text.f k (IntKind.i64.wrap (Int.tdiv a0 10))).bind fun r5 => (dossierref01_Text.f k (IntKind.i64.wrap (0 - (Int.tmod a0 10)))).bind fun r6 => if (decide (r5.size + r6.size ≤ 9223372036854775807)) = true then (some (r5 ++ r6)) else none)) else (if (decide (a0 < 10)) = true then (if (decide (0 ≤ a0 ∧ a0 ≤ (IntKind.i64.wrap (a0 + 1)) ∧ (IntKind.i64.wrap (a0 + 1)) ≤ ((⟨#[48, 49, 50, 51, 52, 53, 54, 55, 56, 57]⟩ : ByteArray).size : Int))) = true then (some ((⟨#[48, 49, 50, 51, 52, 53, 54, 55, 56, 57]⟩ : ByteArray).extract a0.toNat (IntKind.i64.wrap (a0 + 1)).toNat)) else none) else ((dossierref01_Text.f k (IntKind.i64.wrap (Int.tdiv a0 10))).bind fun r10 => (dossierref01_Text.f k (Int.tmod a0 10)).bind fun r11 => if (decide (r10.size + r11.size ≤ 9223372036854775807)) = true then (some (r10 ++ r11)) else none))
end
theorem dossierref01_Text.meets (k : Nat) : ∀ (a0 : Int) (r : ByteArray), dossierref01_Text.f k a0 = some r → Meets Tryd.prog 55 [(sc (.int .i64 a0))] [] (sc (.string r)) [] := by
 induction k using Nat.strongRecOn with
 | _ k ih =>
  cases k with
  | zero =>
   ·intro a0 r h; exact absurd h (by simp [dossierref01_Text.f])
  | succ k =>
   ·intro a0 r h
    replace h := (dossierref01_Text.f.eq_2 _ _).symm.trans h
    refine Meets.of_body (n := 32) Tryd.func55 rfl rfl (nl rfl) fun x hx => ?_
    replace hx : x.k = 0 := hx
    show AW _ x _ _ ⟨32, fr0 [(sc (.int .i64 a0))], []⟩
    refine AW.seq (AW.region ?_)
    refine s_assign (d := (sc (.string (⟨#[]⟩ : ByteArray)))) rfl (AWops.nil (AW.seq (AW.seq (AW.region ?_))))
    refine s_move (d := (sc (.int .i64 a0))) rfl ?_
    refine s_binI (v := (.bool (decide (a0 < 0)))) rfl rfl rfl (AWops.nil ?_)
    rcases itH h with ⟨c1, h⟩ | ⟨c1, h⟩
    ·refine AW.cond_yes rfl c1 (AW.seq (AW.seq (AW.region ?_)))
     refine s_move (d := (sc (.int .i64 a0))) rfl ?_
     refine s_binI (v := (.bool (decide (a0 > (-10))))) rfl rfl rfl (AWops.nil ?_)
     rcases itH h with ⟨c2, h⟩ | ⟨c2, h⟩
     ·refine AW.cond_yes rfl c2 (AW.seq (AW.region ?_))
      refine s_move (d := (sc (.int .i64 a0))) rfl ?_
      refine s_unI (v := (.int .i64 (IntKind.i64.wrap (0 - a0)))) rfl rfl ?_
      obtain ⟨r3, er3, h⟩ := bnd h
      refine s_call2 (ρ := []) (br := false) (H2 := []) (d := (sc (.string r3))) F.ca_55 rfl rfl (ac (.one .sc) an) an (by decide) rfl (ih _ (by omega) (IntKind.i64.wrap (0 - a0)) r3 er3) (.inl rfl) rfl rfl ?_
      obtain ⟨c4, h⟩ := gdH h
      refine s_binS (v := (.string ((⟨#[45]⟩ : ByteArray) ++ r3))) rfl rfl (if_neg (by have := of_decide_eq_true c4; omega)) ?_
      refine s_assign (d := (sc (.string ((⟨#[45]⟩ : ByteArray) ++ r3)))) rfl (AWops.nil (AW.ret ?_))
      obtain rfl := Option.some.inj h
      exact ⟨_, rfl, (Weak.gen (kk := 0) [] [] rfl rfl (by decide) (by decide) rfl rfl rfl (le_upd (le_top _) (.t (.one .sc))) an)⟩
     ·refine AW.cond_no rfl c2 (AW.skip (AW.seq (AW.region ?_)))
      refine s_move (d := (sc (.int .i64 a0))) rfl ?_
      refine s_binI (v := (.int .i64 (IntKind.i64.wrap (Int.tdiv a0 10)))) rfl rfl rfl ?_
      obtain ⟨r5, er5, h⟩ := bnd h
      refine s_call2 (ρ := []) (br := false) (H2 := []) (d := (sc (.string r5))) F.ca_55 rfl rfl (ac (.one .sc) an) an (by decide) rfl (ih _ (by omega) (IntKind.i64.wrap (Int.tdiv a0 10)) r5 er5) (.inl rfl) rfl rfl ?_
      refine s_move (d := (sc (.int .i64 a0))) rfl ?_
      refine s_binI (v := (.int .i64 (Int.tmod a0 10))) rfl rfl rfl ?_
      refine s_unI (v := (.int .i64 (IntKind.i64.wrap (0 - (Int.tmod a0 10))))) rfl rfl ?_
      obtain ⟨r6, er6, h⟩ := bnd h
      refine s_call2 (ρ := []) (br := false) (H2 := []) (d := (sc (.string r6))) F.ca_55 rfl rfl (ac (.one .sc) an) an (by decide) rfl (ih _ (by omega) (IntKind.i64.wrap (0 - (Int.tmod a0 10))) r6 er6) (.inl rfl) rfl rfl ?_
      obtain ⟨c7, h⟩ := gdH h
      refine s_binS (v := (.string (r5 ++ r6))) rfl rfl (if_neg (by have := of_decide_eq_true c7; omega)) ?_
      refine s_assign (d := (sc (.string (r5 ++ r6)))) rfl (AWops.nil (AW.ret ?_))
      obtain rfl := Option.some.inj h
      exact ⟨_, rfl, (Weak.gen (kk := 0) [] [] rfl rfl (by decide) (by decide) rfl rfl rfl (le_upd (le_top _) (.t (.one .sc))) an)⟩
    ·refine AW.cond_no rfl c1 (AW.skip (AW.seq (AW.seq (AW.region ?_))))
     refine s_move (d := (sc (.int .i64 a0))) rfl ?_
     refine s_binI (v := (.bool (decide (a0 < 10)))) rfl rfl rfl (AWops.nil ?_)
     rcases itH h with ⟨c8, h⟩ | ⟨c8, h⟩
     ·refine AW.cond_yes rfl c8 (AW.seq (AW.region ?_))
      refine s_move (d := (sc (.int .i64 a0))) rfl ?_
      refine s_move (d := (sc (.int .i64 a0))) rfl ?_
      refine s_binI (v := (.int .i64 (IntKind.i64.wrap (a0 + 1)))) rfl rfl rfl ?_
      obtain ⟨c9, h⟩ := gdH h
      have dc9 := of_decide_eq_true c9
      refine s_sliceStr F.u_9 rfl (.yes rfl (by omega) rfl) (.yes rfl (by omega) rfl) (by omega) (by omega) ?_
      refine s_assign (d := (sc (.string ((⟨#[48, 49, 50, 51, 52, 53, 54, 55, 56, 57]⟩ : ByteArray).extract a0.toNat (IntKind.i64.wrap (a0 + 1)).toNat)))) rfl (AWops.nil (AW.ret ?_))
      obtain rfl := Option.some.inj h
      exact ⟨_, rfl, (Weak.gen (kk := 0) [] [] rfl rfl (by decide) (by decide) rfl rfl rfl (le_upd (le_top _) (.t (.one .sc))) an)⟩
     ·refine AW.cond_no rfl c8 (AW.skip (AW.seq (AW.region ?_)))
      refine s_move (d := (sc (.int .i64 a0))) rfl ?_
      refine s_binI (v := (.int .i64 (IntKind.i64.wrap (Int.tdiv a0 10)))) rfl rfl rfl ?_
      obtain ⟨r10, er10, h⟩ := bnd h
      refine s_call2 (ρ := []) (br := false) (H2 := []) (d := (sc (.string r10))) F.ca_55 rfl rfl (ac (.one .sc) an) an (by decide) rfl (ih _ (by omega) (IntKind.i64.wrap (Int.tdiv a0 10)) r10 er10) (.inl rfl) rfl rfl ?_
      refine s_move (d := (sc (.int .i64 a0))) rfl ?_
      refine s_binI (v := (.int .i64 (Int.tmod a0 10))) rfl rfl rfl ?_
      obtain ⟨r11, er11, h⟩ := bnd h
      refine s_call2 (ρ := []) (br := false) (H2 := []) (d := (sc (.string r11))) F.ca_55 rfl rfl (ac (.one .sc) an) an (by decide) rfl (ih _ (by omega) (Int.tmod a0 10) r11 er11) (.inl rfl) rfl rfl ?_
      obtain ⟨c12, h⟩ := gdH h
      refine s_binS (v := (.string (r10 ++ r11))) rfl rfl (if_neg (by have := of_decide_eq_true c12; omega)) ?_
      refine s_assign (d := (sc (.string (r10 ++ r11)))) rfl (AWops.nil (AW.ret ?_))
      obtain rfl := Option.some.inj h
      exact ⟨_, rfl, (Weak.gen (kk := 0) [] [] rfl rfl (by decide) (by decide) rfl rfl rfl (le_upd (le_top _) (.t (.one .sc))) an)⟩
end Go.Abs.GenT
