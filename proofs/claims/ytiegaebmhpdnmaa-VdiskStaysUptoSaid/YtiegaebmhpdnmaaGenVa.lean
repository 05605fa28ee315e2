import Derived.Test.YtiegaebmhpdnmaaAbsZ
import Derived.Test.YtiegaebmhpdnmaaAbsSK
import Derived.Test.YtiegaebmhpdnmaaProg
set_option linter.unusedVariables false
set_option linter.unusedSimpArgs false
set_option maxRecDepth 100000
set_option maxHeartbeats 4000000
namespace Go.Abs.GenV
open Go.Abs Go.Proofs
structure vdisk_file where
 b : List Int
 sure : Int
abbrev c_vdisk_file (x : vdisk_file) : List C := [(C.p false (.sl x.b.length (x.b.flatMap e_u8))), (C.p true (.v (.int .i64 x.sure)))]
abbrev p_vdisk_file (x : vdisk_file) : List P := [P.sl x.b.length (x.b.flatMap e_u8), P.v (.int .i64 x.sure)]
def e_vdisk_file (x : vdisk_file) : List P := (e_sl e_u8) x.b ++ e_i64 x.sure
theorem e_vdisk_file_eq (x : vdisk_file) : e_vdisk_file x = [P.sl x.b.length (x.b.flatMap e_u8), P.v (.int .i64 x.sure)] := rfl
theorem e_vdisk_file_len (x : vdisk_file) : (e_vdisk_file x).length = 2 := by rw [e_vdisk_file_eq]; rfl
structure vdisk_Disk where
 files : List (ByteArray × vdisk_file)
 room : Int
 used : Int
 fuse : Unit
 dead : Bool
namespace F
theorem z_50 : zeroOf Try.prog 50 = some (.agg #[(.map none), (.int .i64 0), (.int .i64 0), (.pointer none), (.bool false)]) := by kernel_rfl
theorem so_50 : structOk Try.prog 50 = true := by kernel_rfl
theorem u_9 : Try.prog.underlying 9 = some (.string) := by kernel_rfl
theorem u_25 : Try.prog.underlying 25 = some (.pointer 50) := by kernel_rfl
theorem fo_50_0 : fieldOf Try.prog 50 0 = some (0, 1, false) := by kernel_rfl
theorem u_47 : Try.prog.underlying 47 = some (.map 9 65) := by kernel_rfl
theorem ag_47 : aggOf Try.prog 47 = some false := by kernel_rfl
theorem fo_50_4 : fieldOf Try.prog 50 4 = some (4, 1, false) := by kernel_rfl
theorem z_65 : zeroOf Try.prog 65 = some (.agg #[(.slice none 0 0), (.int .i64 0)]) := by kernel_rfl
theorem fo_50_1 : fieldOf Try.prog 50 1 = some (1, 1, false) := by kernel_rfl
theorem ag_3 : aggOf Try.prog 3 = some false := by kernel_rfl
theorem fo_50_2 : fieldOf Try.prog 50 2 = some (2, 1, false) := by kernel_rfl
theorem fo_50_3 : fieldOf Try.prog 50 3 = some (3, 1, false) := by kernel_rfl
theorem u_48 : Try.prog.underlying 48 = some (.pointer 3) := by kernel_rfl
theorem ag_48 : aggOf Try.prog 48 = some false := by kernel_rfl
theorem sz_65 : szOf Try.prog 65 = some 2 := by kernel_rfl
theorem ag_4 : aggOf Try.prog 4 = some false := by kernel_rfl
theorem ca_35 : callable Try.prog 35 = true := by kernel_rfl
theorem fo_65_0 : fieldOf Try.prog 65 0 = some (0, 1, false) := by kernel_rfl
theorem ag_22 : aggOf Try.prog 22 = some false := by kernel_rfl
theorem u_23 : Try.prog.underlying 23 = some (.slice 22) := by kernel_rfl
theorem sz_22 : szOf Try.prog 22 = some 1 := by kernel_rfl
theorem z_22 : zeroOf Try.prog 22 = some (.slice none 0 0) := by kernel_rfl
theorem u_22 : Try.prog.underlying 22 = some (.slice 5) := by kernel_rfl
theorem sz_5 : szOf Try.prog 5 = some 1 := by kernel_rfl
theorem u_3 : Try.prog.underlying 3 = some (.int .i64) := by kernel_rfl
theorem in_5 : infoQ Try.prog 5 = some (some (.int .u8 0), 1, 1) := by kernel_rfl
theorem ca_54 : callable Try.prog 54 = true := by kernel_rfl
theorem ca_34 : callable Try.prog 34 = true := by kernel_rfl
theorem fo_65_1 : fieldOf Try.prog 65 1 = some (1, 1, false) := by kernel_rfl
theorem so_65 : structOk Try.prog 65 = true := by kernel_rfl
theorem sz_3 : szOf Try.prog 3 = some 1 := by kernel_rfl
theorem ag_65 : aggOf Try.prog 65 = some true := by kernel_rfl
theorem ca_33 : callable Try.prog 33 = true := by kernel_rfl
theorem ca_31 : callable Try.prog 31 = true := by kernel_rfl
theorem ca_32 : callable Try.prog 32 = true := by kernel_rfl
theorem ca_9 : callable Try.prog 9 = true := by kernel_rfl
theorem ca_47 : callable Try.prog 47 = true := by kernel_rfl
theorem ca_48 : callable Try.prog 48 = true := by kernel_rfl
theorem u_24 : Try.prog.underlying 24 = some (.slice 3) := by kernel_rfl
theorem ag_9 : aggOf Try.prog 9 = some false := by kernel_rfl
theorem u_55 : Try.prog.underlying 55 = some (.slice 9) := by kernel_rfl
theorem sz_9 : szOf Try.prog 9 = some 1 := by kernel_rfl
theorem sz_48 : szOf Try.prog 48 = some 1 := by kernel_rfl
theorem sz_4 : szOf Try.prog 4 = some 1 := by kernel_rfl
theorem ca_24 : callable Try.prog 24 = true := by kernel_rfl
theorem z_5 : zeroOf Try.prog 5 = some (.int .u8 0) := by kernel_rfl
theorem ca_36 : callable Try.prog 36 = true := by kernel_rfl
theorem u_5 : Try.prog.underlying 5 = some (.int .u8) := by kernel_rfl
theorem ca_28 : callable Try.prog 28 = true := by kernel_rfl
theorem ca_12 : callable Try.prog 12 = true := by kernel_rfl
theorem ca_11 : callable Try.prog 11 = true := by kernel_rfl
theorem z_3 : zeroOf Try.prog 3 = some (.int .i64 0) := by kernel_rfl
theorem ca_8 : callable Try.prog 8 = true := by kernel_rfl
theorem ca_14 : callable Try.prog 14 = true := by kernel_rfl
theorem ca_13 : callable Try.prog 13 = true := by kernel_rfl
theorem ca_10 : callable Try.prog 10 = true := by kernel_rfl
end F
def vdisk_New_8.f (k : Nat) : Option (vdisk_Disk × Int) := some ((⟨([] : List (ByteArray × vdisk_file)), 10000, 0, (), false⟩ : vdisk_Disk), 0)
theorem vdisk_New_8.meets (k : Nat) (r : vdisk_Disk × Int) (h : vdisk_New_8.f k = some r) : Meets Try.prog 8 [(sc (.int .i64 10000))] [] (D.tup [(D.one (C.ref 0 0)), (sc (.int .i64 r.2))]) [(some (AObj.cells true [(C.mp 1), (C.p true (.v (.int .i64 r.1.room))), (C.p true (.v (.int .i64 r.1.used))), (C.p true (.v (.pointer none))), (C.p true (.v (.bool r.1.dead)))])), (some (AObj.map false (mapE true e_vdisk_file r.1.files)))] := by
 unfold vdisk_New_8.f at h
 refine Meets.of_body (n := 14) Try.func8 rfl rfl (nl rfl) fun x hx => ?_
 replace hx : x.k = 0 := hx
 show AW _ x _ _ ⟨14, fr0 [(sc (.int .i64 10000))], []⟩
 refine AW.seq (AW.region ?_)
 refine s_assign (d := (sc (.pointer none))) rfl ?_
 refine s_assign (d := (sc (.int .i64 0))) rfl (AWops.nil (AW.seq (AW.seq (AW.region ?_))))
 refine s_move (d := (sc (.int .i64 10000))) rfl ?_
 refine s_binI (v := (.bool false)) rfl rfl rfl ?_
 refine s_move (d := (sc (.bool false))) rfl ?_
 refine AWops.guard_yes rfl (nl rfl) rfl rfl ?_
 refine s_move (d := (sc (.int .i64 10000))) rfl ?_
 refine AWops.guard_yes rfl (nl rfl) rfl rfl ?_
 refine s_binI (v := (.bool false)) rfl rfl rfl ?_
 refine s_pick_no (d := (sc (.bool false))) rfl rfl rfl (AWops.nil ?_)
 refine AW.cond_no rfl rfl (AW.skip (AW.seq (AW.region ?_)))
 refine t_makeMap ?_
 refine s_move (d := (sc (.int .i64 10000))) rfl ?_
 refine s_build (ps := [(0, (D.one (C.mp 0))), (1, (sc (.int .i64 10000)))]) (cs := [(C.mp 0), (C.p true (.v (.int .i64 10000))), (C.p true (.v (.int .i64 0))), (C.p true (.v (.pointer none))), (C.p true (.v (.bool false)))]) F.z_50 rfl F.so_50 rfl rfl ?_
 refine s_box (cs := [(C.mp 0), (C.p true (.v (.int .i64 10000))), (C.p true (.v (.int .i64 0))), (C.p true (.v (.pointer none))), (C.p true (.v (.bool false)))]) rfl (List.cons_ne_nil _ _) rfl ?_
 refine s_assign (d := (D.one (C.ref 1 0))) rfl ?_
 refine s_assign (d := (sc (.int .i64 0))) rfl (AWops.nil (AW.ret ?_))
 obtain rfl := Option.some.inj h
 exact ⟨_, rfl, (Weak.gen (kk := 0) [1, 0] [] rfl rfl (by decide) (by decide) rfl rfl rfl (le_upd (le_top _) (DLe.tup (ac (TLe.one (.ref rfl)) (ac (TLe.one .sc) an)))) (ac (.cells (fun h => h) (ac (.mp rfl) (ac .sc (ac .sc (ac .sc (ac .sc an)))))) (ac .map an)))⟩
def vdisk_named.f (k : Nat) (a0 : ByteArray) : Option Bool := if (a0.toList == (⟨#[]⟩ : ByteArray).toList) = true then (some false) else (some (decide ((a0.size : Int) ≤ 64)))
theorem vdisk_named.meets (k : Nat) (a0 : ByteArray) (r : Bool) (h : vdisk_named.f k a0 = some r) : Meets Try.prog 32 [(sc (.string a0))] [] (sc (.bool r)) [] := by
 unfold vdisk_named.f at h
 refine Meets.of_body (n := 10) Try.func32 rfl rfl (nl rfl) fun x hx => ?_
 replace hx : x.k = 0 := hx
 show AW _ x _ _ ⟨10, fr0 [(sc (.string a0))], []⟩
 refine AW.seq (AW.region ?_)
 refine s_assign (d := (sc (.bool false))) rfl (AWops.nil (AW.seq (AW.region ?_)))
 refine s_move (d := (sc (.string a0))) rfl ?_
 refine s_binS (v := (.bool (!(a0.toList == (⟨#[]⟩ : ByteArray).toList)))) rfl rfl rfl ?_
 refine s_move (d := (sc (.bool (!(a0.toList == (⟨#[]⟩ : ByteArray).toList))))) rfl ?_
 rcases itH h with ⟨c1, h⟩ | ⟨c1, h⟩
 ·iterate 3 refine AWops.guard_no rfl (nl rfl) rfl (by rw [c1] <;> rfl) ?_
  refine s_pick_no (d := (sc (.bool false))) rfl (by rw [c1] <;> rfl) rfl ?_
  refine s_assign (d := (sc (.bool false))) rfl (AWops.nil (AW.ret ?_))
  obtain rfl := Option.some.inj h
  exact ⟨_, rfl, (Weak.gen (kk := 0) [] [] rfl rfl (by decide) (by decide) rfl rfl rfl (le_upd (le_top _) (.t (.one .sc))) an)⟩
 ·refine AWops.guard_yes rfl (nl rfl) rfl (by rw [c1] <;> rfl) ?_
  refine s_move (d := (sc (.string a0))) rfl ?_
  refine AWops.guard_yes rfl (nl rfl) rfl (by rw [c1] <;> rfl) ?_
  refine s_len (n := a0.size) F.u_9 rfl (.inl ⟨⟨_, _, rfl⟩, rfl⟩) ?_
  refine AWops.guard_yes rfl (nl rfl) rfl (by rw [c1] <;> rfl) ?_
  refine s_binI (v := (.bool (decide ((a0.size : Int) ≤ 64)))) rfl rfl rfl ?_
  refine s_pick_yes (d := (sc (.bool (decide ((a0.size : Int) ≤ 64))))) rfl (by rw [c1] <;> rfl) rfl ?_
  refine s_assign (d := (sc (.bool (decide ((a0.size : Int) ≤ 64))))) rfl (AWops.nil (AW.ret ?_))
  obtain rfl := Option.some.inj h
  exact ⟨_, rfl, (Weak.gen (kk := 0) [] [] rfl rfl (by decide) (by decide) rfl rfl rfl (le_upd (le_top _) (.t (.one .sc))) an)⟩
def vdisk_Disk_none.f (k : Nat) (p0 : vdisk_Disk) : Option (Bool × vdisk_Disk) := some (false, p0)
theorem vdisk_Disk_none.meets (k : Nat) (p0 : vdisk_Disk) (r : Bool × vdisk_Disk) (h : vdisk_Disk_none.f k p0 = some r) : Meets Try.prog 35 [(D.one (C.ref 0 0))] [(some (AObj.cells false [(C.mp 1), (C.p true (.v (.int .i64 p0.room))), (C.p true (.v (.int .i64 p0.used))), (C.p true (.v (.pointer none))), (C.p true (.v (.bool p0.dead)))])), (some (AObj.map false (mapE true e_vdisk_file p0.files)))] (sc (.bool r.1)) [(some (AObj.cells false [(C.mp 2), (C.p true (.v (.int .i64 r.2.room))), (C.p true (.v (.int .i64 r.2.used))), (C.p true (.v (.pointer none))), (C.p true (.v (.bool r.2.dead)))])), none, (some (AObj.map false (mapE true e_vdisk_file r.2.files)))] := by
 unfold vdisk_Disk_none.f at h
 refine Meets.of_body (n := 12) Try.func35 rfl rfl (nl rfl) fun x hx => ?_
 replace hx : x.k = 2 := hx
 show AW _ x _ _ ⟨12, fr0 [(D.one (C.ref 0 0))], [(some (AObj.cells false [(C.mp 1), (C.p true (.v (.int .i64 p0.room))), (C.p true (.v (.int .i64 p0.used))), (C.p true (.v (.pointer none))), (C.p true (.v (.bool p0.dead)))])), (some (AObj.map false (mapE true e_vdisk_file p0.files)))]⟩
 refine AW.weak (st' := ⟨12, (upd 12 topF 0 (D.one (C.ref 0 0))), [(some (AObj.cells false [(C.mp 2), (C.p true (.v (.int .i64 p0.room))), (C.p true (.v (.int .i64 p0.used))), (C.p true (.v (.pointer none))), (C.p true (.v (.bool p0.dead)))])), none, (some (AObj.map false (mapE true e_vdisk_file p0.files)))]⟩) (Weak.genL (kk := 2) [0, 1, 1] [] hx rfl (by decide) rfl rfl rfl rfl (le_upd (le_top _) (.t (.one (.ref rfl)))) (ac (.cells (fun h => h) (ac (.mp rfl) (ac .sc (ac .sc (ac .sc (ac .sc an)))))) (ac (.none _) (ac .map an)))) (AW.seq (AW.region ?_))
 refine s_assign (d := (sc (.bool false))) rfl (AWops.nil (AW.seq (AW.region ?_)))
 refine s_move (d := (D.one (C.ref 0 0))) rfl ?_
 refine s_ptrNil (b := false) F.u_25 rfl (.inl ⟨⟨_, _, rfl⟩, rfl⟩) (.inl rfl) ?_
 refine s_move (d := (sc (.bool false))) rfl ?_
 refine AWops.guard_yes rfl (nl rfl) rfl rfl ?_
 refine s_move (d := (D.one (C.ref 0 0))) rfl ?_
 refine AWops.guard_yes rfl (nl rfl) rfl rfl ?_
 refine s_nilCheck (d := (D.one (C.ref 0 0))) rfl (.inl ⟨_, _, rfl⟩) ?_
 refine AWops.guard_yes rfl (nl rfl) rfl rfl ?_
 refine s_fieldRef F.fo_50_0 (by decide) rfl ?_
 refine AWops.guard_yes rfl (nl rfl) rfl rfl ?_
 refine s_load1 (c' := (C.mp 2)) F.ag_47 rfl rfl ?_
 refine AWops.guard_yes rfl (nl rfl) rfl rfl ?_
 refine s_mapNil (b := false) F.u_47 rfl (.inr ⟨rfl, _, rfl⟩) (.inl ⟨rfl, rfl⟩) ?_
 refine s_pick_no (d := (sc (.bool false))) rfl rfl rfl ?_
 refine s_assign (d := (sc (.bool false))) rfl (AWops.nil (AW.ret ?_))
 obtain rfl := Option.some.inj h
 exact ⟨_, rfl, (Weak.gen (kk := 2) [0, 1, 2] [] rfl rfl (by decide) (by decide) rfl rfl rfl (le_upd (le_top _) (.t (.one .sc))) (ac (.cells (fun h => h) (ac (.mp rfl) (ac .sc (ac .sc (ac .sc (ac .sc an)))))) (ac (.none _) (ac .map an))))⟩
def vdisk_Disk_change.f (k : Nat) (p0 : vdisk_Disk) (a1 : Bool) (a2 : ByteArray) (a3 : Bool) (a4 : Int) : Option (Int × vdisk_Disk) := (vdisk_Disk_none.f k p0).bind fun r1 => if r1.1 = true then (some (2, r1.2)) else (if a1 = true then (if r1.2.dead = true then (some (70, r1.2)) else (if ((mget a2 r1.2.files).isSome) = true then (if (decide (a4 > 0)) = true then (if (decide (a4 > (IntKind.i64.wrap (r1.2.room - r1.2.used)))) = true then (some (71, r1.2)) else (some (0, r1.2))) else (some (0, r1.2))) else (if a3 = true then (if (decide (a4 > 0)) = true then (if (decide (a4 > (IntKind.i64.wrap (r1.2.room - r1.2.used)))) = true then (some (71, r1.2)) else (some (0, r1.2))) else (some (0, r1.2))) else (some (33, r1.2))))) else (some (1, r1.2)))
theorem vdisk_Disk_change.meets (k : Nat) (p0 : vdisk_Disk) (a1 : Bool) (a2 : ByteArray) (a3 : Bool) (a4 : Int) (r : Int × vdisk_Disk) (h : vdisk_Disk_change.f k p0 a1 a2 a3 a4 = some r) : Meets Try.prog 31 [(D.one (C.ref 0 0)), (sc (.bool a1)), (sc (.string a2)), (sc (.bool a3)), (sc (.int .i64 a4))] [(some (AObj.cells false [(C.mp 1), (C.p true (.v (.int .i64 p0.room))), (C.p true (.v (.int .i64 p0.used))), (C.p true (.v (.pointer none))), (C.p true (.v (.bool p0.dead)))])), (some (AObj.map false (mapE true e_vdisk_file p0.files)))] (sc (.int .i64 r.1)) [(some (AObj.cells false [(C.mp 2), (C.p true (.v (.int .i64 r.2.room))), (C.p true (.v (.int .i64 r.2.used))), (C.p true (.v (.pointer none))), (C.p true (.v (.bool r.2.dead)))])), none, (some (AObj.map false (mapE true e_vdisk_file r.2.files)))] := by
 unfold vdisk_Disk_change.f at h
 refine Meets.of_body (n := 77) Try.func31 rfl rfl (nl rfl) fun x hx => ?_
 replace hx : x.k = 2 := hx
 show AW _ x _ _ ⟨77, fr0 [(D.one (C.ref 0 0)), (sc (.bool a1)), (sc (.string a2)), (sc (.bool a3)), (sc (.int .i64 a4))], [(some (AObj.cells false [(C.mp 1), (C.p true (.v (.int .i64 p0.room))), (C.p true (.v (.int .i64 p0.used))), (C.p true (.v (.pointer none))), (C.p true (.v (.bool p0.dead)))])), (some (AObj.map false (mapE true e_vdisk_file p0.files)))]⟩
 refine AW.weak (st' := ⟨77, (upd 77 (upd 77 (upd 77 (upd 77 (upd 77 topF 0 (D.one (C.ref 0 0))) 1 (sc (.bool a1))) 2 (sc (.string a2))) 3 (sc (.bool a3))) 4 (sc (.int .i64 a4))), [(some (AObj.cells false [(C.mp 2), (C.p true (.v (.int .i64 p0.room))), (C.p true (.v (.int .i64 p0.used))), (C.p true (.v (.pointer none))), (C.p true (.v (.bool p0.dead)))])), none, (some (AObj.map false (mapE true e_vdisk_file p0.files)))]⟩) (Weak.genL (kk := 2) [0, 1, 1] [] hx rfl (by decide) rfl rfl rfl rfl (le_upd (le_upd (le_upd (le_upd (le_upd (le_top _) (.t (.one (.ref rfl)))) (.t (.one .sc))) (.t (.one .sc))) (.t (.one .sc))) (.t (.one .sc))) (ac (.cells (fun h => h) (ac (.mp rfl) (ac .sc (ac .sc (ac .sc (ac .sc an)))))) (ac (.none _) (ac .map an)))) (AW.seq (AW.region ?_))
 refine s_assign (d := (sc (.int .i64 0))) rfl (AWops.nil (AW.seq (AW.block (AW.seq (AW.region ?_)))))
 refine s_move (d := (D.one (C.ref 0 0))) rfl ?_
 obtain ⟨r1, er1, h⟩ := bnd h
 refine s_call2 (ρ := [0, 2]) (br := false) (H2 := [(some (AObj.cells false [(C.mp 3), (C.p true (.v (.int .i64 r1.2.room))), (C.p true (.v (.int .i64 r1.2.used))), (C.p true (.v (.pointer none))), (C.p true (.v (.bool r1.2.dead)))])), none, none, (some (AObj.map false (mapE true e_vdisk_file r1.2.files)))]) (d := (sc (.bool r1.1))) F.ca_35 rfl rfl (ac (.one (.ref rfl)) an) (ac (.cells (ac (.mp rfl) (ac .sc (ac .sc (ac .sc (ac .sc an)))))) (ac .map an)) (by decide) rfl (vdisk_Disk_none.meets _ p0 r1 er1) (.inl rfl) rfl rfl ?_
 refine s_assign (d := (sc (.bool r1.1))) rfl (AWops.nil ?_)
 rcases itH h with ⟨c2, h⟩ | ⟨c2, h⟩
 ·refine AW.cond_yes rfl c2 (AW.seq (AW.region ?_))
  refine s_assign (d := (sc (.int .i64 2))) rfl (AWops.nil (AW.ret ?_))
  obtain rfl := Option.some.inj h
  exact ⟨_, rfl, (Weak.gen (kk := 2) [0, 1, 3] [] rfl rfl (by decide) (by decide) rfl rfl rfl (le_upd (le_top _) (.t (.one .sc))) (ac (.cells (fun h => h) (ac (.mp rfl) (ac .sc (ac .sc (ac .sc (ac .sc an)))))) (ac (.none _) (ac .map an))))⟩
 ·refine AW.cond_no rfl c2 (AW.seq (AW.region ?_))
  refine s_move (d := (sc (.bool a1))) rfl ?_
  refine s_not rfl ?_
  refine s_assign (d := (sc (.bool (!a1)))) rfl (AWops.nil ?_)
  rcases itH h with ⟨c3, h⟩ | ⟨c3, h⟩
  ·refine AW.cond_no rfl (by rw [c3] <;> rfl) (AW.seq (AW.region ?_))
   refine s_move (d := (D.one (C.ref 0 0))) rfl ?_
   refine s_nilCheck (d := (D.one (C.ref 0 0))) rfl (.inl ⟨_, _, rfl⟩) ?_
   refine s_fieldRef F.fo_50_4 (by decide) rfl ?_
   refine s_load1 (c' := (C.p true (.v (.bool r1.2.dead)))) F.ag_4 rfl rfl ?_
   refine s_assign (d := (sc (.bool r1.2.dead))) rfl (AWops.nil ?_)
   rcases itH h with ⟨c4, h⟩ | ⟨c4, h⟩
   ·refine AW.cond_yes rfl c4 (AW.seq (AW.region ?_))
    refine s_assign (d := (sc (.int .i64 70))) rfl (AWops.nil (AW.ret ?_))
    obtain rfl := Option.some.inj h
    exact ⟨_, rfl, (Weak.gen (kk := 2) [0, 1, 3] [] rfl rfl (by decide) (by decide) rfl rfl rfl (le_upd (le_top _) (.t (.one .sc))) (ac (.cells (fun h => h) (ac (.mp rfl) (ac .sc (ac .sc (ac .sc (ac .sc an)))))) (ac (.none _) (ac .map an))))⟩
   ·refine AW.cond_no rfl c4 (AW.skip (AW.seq (AW.seq (AW.region ?_))))
    refine s_move (d := (D.one (C.ref 0 0))) rfl ?_
    refine s_nilCheck (d := (D.one (C.ref 0 0))) rfl (.inl ⟨_, _, rfl⟩) ?_
    refine s_fieldRef F.fo_50_0 (by decide) rfl ?_
    refine s_load1 (c' := (C.mp 3)) F.ag_47 rfl rfl ?_
    refine s_move (d := (sc (.string a2))) rfl ?_
    refine t_lookupOk (b := true) F.u_47 F.u_9 F.z_65 (z := ((⟨([] : List Int), 0⟩ : vdisk_file) : vdisk_file)) (zs := [(.slice none 0 0), (.int .i64 0)]) rfl (fun h => by cases h) (ac ZRel.n (ac (ZRel.v _ rfl) an)) rfl rfl rfl rfl ?_
    refine s_move (d := (D.tup [(D.agg (c_vdisk_file ((mget a2 r1.2.files).getD ((⟨([] : List Int), 0⟩ : vdisk_file) : vdisk_file)))), (sc (.bool ((mget a2 r1.2.files).isSome)))])) rfl ?_
    refine s_extract (d := (D.agg (c_vdisk_file ((mget a2 r1.2.files).getD ((⟨([] : List Int), 0⟩ : vdisk_file) : vdisk_file))))) rfl rfl ?_
    refine s_extract (d := (sc (.bool ((mget a2 r1.2.files).isSome)))) rfl rfl ?_
    refine s_alloc (cs := [(C.p true (.v (.slice none 0 0))), (C.p true (.v (.int .i64 0)))]) F.z_65 rfl rfl ?_
    refine s_store (cs' := (c_vdisk_file ((mget a2 r1.2.files).getD ((⟨([] : List Int), 0⟩ : vdisk_file) : vdisk_file)))) rfl rfl rfl (List.cons_ne_nil _ _) rfl F.sz_65 (nl rfl) rfl ?_
    refine s_assign (d := (sc (.bool ((mget a2 r1.2.files).isSome)))) rfl (AWops.nil (AW.seq (AW.region ?_)))
    refine s_move (d := (sc (.bool ((mget a2 r1.2.files).isSome)))) rfl ?_
    refine s_not rfl ?_
    refine s_move (d := (sc (.bool (!((mget a2 r1.2.files).isSome))))) rfl ?_
    rcases itH h with ⟨c5, h⟩ | ⟨c5, h⟩
    ·refine AWops.guard_no rfl (nl rfl) rfl (by rw [c5] <;> rfl) ?_
     refine AWops.guard_no rfl (nl rfl) rfl (by rw [c5] <;> rfl) ?_
     refine s_pick_no (d := (sc (.bool false))) rfl (by rw [c5] <;> rfl) rfl (AWops.nil ?_)
     refine AW.cond_no rfl rfl (AW.skip (AW.seq (AW.seq ?_)))
     refine AW.weak (st' := ⟨77, (upd 77 (upd 77 topF 0 (D.one (C.ref 0 0))) 4 (sc (.int .i64 a4))), [(some (AObj.cells false [(C.mp 2), (C.p true (.v (.int .i64 r1.2.room))), (C.p true (.v (.int .i64 r1.2.used))), (C.p true (.v (.pointer none))), (C.p true (.v (.bool r1.2.dead)))])), none, (some (AObj.map false (mapE true e_vdisk_file r1.2.files)))]⟩) (Weak.gen (kk := 2) [0, 1, 3] [] hx rfl (by decide) (by decide) rfl rfl rfl (le_upd (le_upd (le_top _) (.t (.one (.ref rfl)))) (.t (.one .sc))) (ac (.cells (fun h => h) (ac (.mp rfl) (ac .sc (ac .sc (ac .sc (ac .sc an)))))) (ac (.none _) (ac .map an)))) ?_
     rcases itH h with ⟨c6, h⟩ | ⟨c6, h⟩
     ·refine AW.draw (n := 77) (L := 3) [(0, ⟨some 39, (sc (.int .i64 a4)), [(4, (sc (.int .i64 a4)))], [], [], none⟩), (1, ⟨some 40, (sc (.bool (decide (a4 > 0)))), [(39, (sc (.int .i64 a4)))], [], [], none⟩), (2, ⟨some 41, (sc (.bool (decide (a4 > 0)))), [(40, (sc (.bool (decide (a4 > 0)))))], [], [], none⟩), (3, ⟨some 42, (sc (.int .i64 a4)), [(4, (sc (.int .i64 a4))), (41, (sc (.bool (decide (a4 > 0)))))], [], [], none⟩), (4, ⟨some 43, (D.one (C.ref 0 0)), [(0, (D.one (C.ref 0 0))), (41, (sc (.bool (decide (a4 > 0)))))], [], [], none⟩), (5, ⟨some 44, (D.one (C.ref 0 0)), [(41, (sc (.bool (decide (a4 > 0))))), (43, (D.one (C.ref 0 0)))], [], [], none⟩), (6, ⟨some 45, (D.one (C.ref 0 1)), [(41, (sc (.bool (decide (a4 > 0))))), (44, (D.one (C.ref 0 0)))], [], [], none⟩), (7, ⟨some 46, (sc (.int .i64 r1.2.room)), [(41, (sc (.bool (decide (a4 > 0))))), (45, (D.one (C.ref 0 1)))], [(0, (some (AObj.cells false [(C.mp 2), (C.p true (.v (.int .i64 r1.2.room))), (C.p true (.v (.int .i64 r1.2.used))), (C.p true (.v (.pointer none))), (C.p true (.v (.bool r1.2.dead)))])))], [], none⟩), (8, ⟨some 47, (D.one (C.ref 0 0)), [(0, (D.one (C.ref 0 0))), (41, (sc (.bool (decide (a4 > 0)))))], [], [], none⟩), (9, ⟨some 48, (D.one (C.ref 0 0)), [(41, (sc (.bool (decide (a4 > 0))))), (47, (D.one (C.ref 0 0)))], [], [], none⟩), (10, ⟨some 49, (D.one (C.ref 0 2)), [(41, (sc (.bool (decide (a4 > 0))))), (48, (D.one (C.ref 0 0)))], [], [], none⟩), (11, ⟨some 50, (sc (.int .i64 r1.2.used)), [(41, (sc (.bool (decide (a4 > 0))))), (49, (D.one (C.ref 0 2)))], [(0, (some (AObj.cells false [(C.mp 2), (C.p true (.v (.int .i64 r1.2.room))), (C.p true (.v (.int .i64 r1.2.used))), (C.p true (.v (.pointer none))), (C.p true (.v (.bool r1.2.dead)))])))], [], none⟩), (12, ⟨some 51, (sc (.int .i64 (IntKind.i64.wrap (r1.2.room - r1.2.used)))), [(41, (sc (.bool (decide (a4 > 0))))), (46, (sc (.int .i64 r1.2.room))), (50, (sc (.int .i64 r1.2.used)))], [], [], none⟩), (13, ⟨some 52, (sc (.bool (decide (a4 > (IntKind.i64.wrap (r1.2.room - r1.2.used)))))), [(41, (sc (.bool (decide (a4 > 0))))), (42, (sc (.int .i64 a4))), (51, (sc (.int .i64 (IntKind.i64.wrap (r1.2.room - r1.2.used)))))], [], [], none⟩), (14, ⟨some 53, (sc (.bool (decide (a4 > (IntKind.i64.wrap (r1.2.room - r1.2.used)))))), [(41, (sc (.bool (decide (a4 > 0))))), (52, (sc (.bool (decide (a4 > (IntKind.i64.wrap (r1.2.room - r1.2.used)))))))], [], [], none⟩)] [[], [0], [0, 1], [0, 1, 2], [0, 1, 2], [0, 1, 2, 4], [0, 1, 2, 4, 5], [0, 1, 2, 4, 5, 6], [0, 1, 2], [0, 1, 2, 8], [0, 1, 2, 8, 9], [0, 1, 2, 8, 9, 10], [0, 1, 2, 4, 5, 6, 7, 8, 9, 10, 11], [0, 1, 2, 3, 4, 5, 6, 7, 8, 9, 10, 11, 12], [0, 1, 2, 3, 4, 5, 6, 7, 8, 9, 10, 11, 12, 13]] (nl rfl) [0, 1, 2, 3, 3, 4, 5, 6, 3, 4, 5, 6, 7, 8, 9] rfl (TK := []) rfl AllK.nil' (fC ⟨(sC rfl AllS.nil'), AllH.nil'⟩ (fC ⟨(sC rfl AllS.nil'), AllH.nil'⟩ (fC ⟨(sC rfl AllS.nil'), AllH.nil'⟩ (fC ⟨(sC rfl (sC rfl AllS.nil')), AllH.nil'⟩ (fC ⟨(sC rfl (sC rfl AllS.nil')), AllH.nil'⟩ (fC ⟨(sC rfl (sC rfl AllS.nil')), AllH.nil'⟩ (fC ⟨(sC rfl (sC rfl AllS.nil')), AllH.nil'⟩ (fC ⟨(sC rfl (sC rfl AllS.nil')), (hC rfl AllH.nil')⟩ (fC ⟨(sC rfl (sC rfl AllS.nil')), AllH.nil'⟩ (fC ⟨(sC rfl (sC rfl AllS.nil')), AllH.nil'⟩ (fC ⟨(sC rfl (sC rfl AllS.nil')), AllH.nil'⟩ (fC ⟨(sC rfl (sC rfl AllS.nil')), (hC rfl AllH.nil')⟩ (fC ⟨(sC rfl (sC rfl (sC rfl AllS.nil'))), AllH.nil'⟩ (fC ⟨(sC rfl (sC rfl (sC rfl AllS.nil'))), AllH.nil'⟩ (fC ⟨(sC rfl (sC rfl AllS.nil')), AllH.nil'⟩ AllF.nil'))))))))))))))) ?_ ?_
      ·refine (pC ?_ (pC ?_ (pC ?_ (pC ?_ (pC ?_ (pC ?_ (pC ?_ (pC ?_ (pC ?_ (pC ?_ (pC ?_ (pC ?_ (pC ?_ (pC ?_ (pC ?_ AllStep.nil')))))))))))))))
       ·intro K rest fr hv htk k
        show AWops _ x _ _ K ⟨77, (upd 77 fr 4 (sc (.int .i64 a4))), _⟩
        refine s_move (d := (sc (.int .i64 a4))) rfl k
       ·intro K rest fr hv htk k
        show AWops _ x _ _ K ⟨77, (upd 77 fr 39 (sc (.int .i64 a4))), _⟩
        refine s_binI (v := (.bool (decide (a4 > 0)))) rfl rfl rfl k
       ·intro K rest fr hv htk k
        show AWops _ x _ _ K ⟨77, (upd 77 fr 40 (sc (.bool (decide (a4 > 0))))), _⟩
        refine s_move (d := (sc (.bool (decide (a4 > 0))))) rfl k
       ·intro K rest fr hv htk k
        show AWops _ x _ _ K ⟨77, (upd 77 (upd 77 fr 41 (sc (.bool (decide (a4 > 0))))) 4 (sc (.int .i64 a4))), _⟩
        refine AWops.guard_yes rfl (nl rfl) rfl c6 ?_
        refine s_move (d := (sc (.int .i64 a4))) rfl k
       ·intro K rest fr hv htk k
        show AWops _ x _ _ K ⟨77, (upd 77 (upd 77 fr 41 (sc (.bool (decide (a4 > 0))))) 0 (D.one (C.ref 0 0))), _⟩
        refine AWops.guard_yes rfl (nl rfl) rfl c6 ?_
        refine s_move (d := (D.one (C.ref 0 0))) rfl k
       ·intro K rest fr hv htk k
        show AWops _ x _ _ K ⟨77, (upd 77 (upd 77 fr 43 (D.one (C.ref 0 0))) 41 (sc (.bool (decide (a4 > 0))))), [(hv 0), (hv 1), (hv 2)]⟩
        refine AWops.guard_yes rfl (nl rfl) rfl c6 ?_
        refine s_nilCheck (d := (D.one (C.ref 0 0))) rfl (.inl ⟨_, _, rfl⟩) k
       ·intro K rest fr hv htk k
        show AWops _ x _ _ K ⟨77, (upd 77 (upd 77 fr 44 (D.one (C.ref 0 0))) 41 (sc (.bool (decide (a4 > 0))))), [(hv 0), (hv 1), (hv 2)]⟩
        refine AWops.guard_yes rfl (nl rfl) rfl c6 ?_
        refine s_fieldRef F.fo_50_1 (by decide) rfl k
       ·intro K rest fr hv htk k
        show AWops _ x _ _ K ⟨77, (upd 77 (upd 77 fr 45 (D.one (C.ref 0 1))) 41 (sc (.bool (decide (a4 > 0))))), [(some (AObj.cells false [(C.mp 2), (C.p true (.v (.int .i64 r1.2.room))), (C.p true (.v (.int .i64 r1.2.used))), (C.p true (.v (.pointer none))), (C.p true (.v (.bool r1.2.dead)))])), (hv 1), (hv 2)]⟩
        refine AWops.guard_yes rfl (nl rfl) rfl c6 ?_
        refine s_load1 (c' := (C.p true (.v (.int .i64 r1.2.room)))) F.ag_3 rfl rfl k
       ·intro K rest fr hv htk k
        show AWops _ x _ _ K ⟨77, (upd 77 (upd 77 fr 41 (sc (.bool (decide (a4 > 0))))) 0 (D.one (C.ref 0 0))), _⟩
        refine AWops.guard_yes rfl (nl rfl) rfl c6 ?_
        refine s_move (d := (D.one (C.ref 0 0))) rfl k
       ·intro K rest fr hv htk k
        show AWops _ x _ _ K ⟨77, (upd 77 (upd 77 fr 47 (D.one (C.ref 0 0))) 41 (sc (.bool (decide (a4 > 0))))), [(hv 0), (hv 1), (hv 2)]⟩
        refine AWops.guard_yes rfl (nl rfl) rfl c6 ?_
        refine s_nilCheck (d := (D.one (C.ref 0 0))) rfl (.inl ⟨_, _, rfl⟩) k
       ·intro K rest fr hv htk k
        show AWops _ x _ _ K ⟨77, (upd 77 (upd 77 fr 48 (D.one (C.ref 0 0))) 41 (sc (.bool (decide (a4 > 0))))), [(hv 0), (hv 1), (hv 2)]⟩
        refine AWops.guard_yes rfl (nl rfl) rfl c6 ?_
        refine s_fieldRef F.fo_50_2 (by decide) rfl k
       ·intro K rest fr hv htk k
        show AWops _ x _ _ K ⟨77, (upd 77 (upd 77 fr 49 (D.one (C.ref 0 2))) 41 (sc (.bool (decide (a4 > 0))))), [(some (AObj.cells false [(C.mp 2), (C.p true (.v (.int .i64 r1.2.room))), (C.p true (.v (.int .i64 r1.2.used))), (C.p true (.v (.pointer none))), (C.p true (.v (.bool r1.2.dead)))])), (hv 1), (hv 2)]⟩
        refine AWops.guard_yes rfl (nl rfl) rfl c6 ?_
        refine s_load1 (c' := (C.p true (.v (.int .i64 r1.2.used)))) F.ag_3 rfl rfl k
       ·intro K rest fr hv htk k
        show AWops _ x _ _ K ⟨77, (upd 77 (upd 77 (upd 77 fr 50 (sc (.int .i64 r1.2.used))) 46 (sc (.int .i64 r1.2.room))) 41 (sc (.bool (decide (a4 > 0))))), _⟩
        refine AWops.guard_yes rfl (nl rfl) rfl c6 ?_
        refine s_binI (v := (.int .i64 (IntKind.i64.wrap (r1.2.room - r1.2.used)))) rfl rfl rfl k
       ·intro K rest fr hv htk k
        show AWops _ x _ _ K ⟨77, (upd 77 (upd 77 (upd 77 fr 51 (sc (.int .i64 (IntKind.i64.wrap (r1.2.room - r1.2.used))))) 42 (sc (.int .i64 a4))) 41 (sc (.bool (decide (a4 > 0))))), _⟩
        refine AWops.guard_yes rfl (nl rfl) rfl c6 ?_
        refine s_binI (v := (.bool (decide (a4 > (IntKind.i64.wrap (r1.2.room - r1.2.used)))))) rfl rfl rfl k
       ·intro K rest fr hv htk k
        show AWops _ x _ _ K ⟨77, (upd 77 (upd 77 fr 52 (sc (.bool (decide (a4 > (IntKind.i64.wrap (r1.2.room - r1.2.used))))))) 41 (sc (.bool (decide (a4 > 0))))), _⟩
        refine s_pick_yes (d := (sc (.bool (decide (a4 > (IntKind.i64.wrap (r1.2.room - r1.2.used))))))) rfl c6 rfl k
      ·refine AWops.weak (st' := ⟨77, (upd 77 (upd 77 topF 0 (D.one (C.ref 0 0))) 53 (sc (.bool (decide (a4 > (IntKind.i64.wrap (r1.2.room - r1.2.used))))))), [(some (AObj.cells false [(C.mp 2), (C.p true (.v (.int .i64 r1.2.room))), (C.p true (.v (.int .i64 r1.2.used))), (C.p true (.v (.pointer none))), (C.p true (.v (.bool r1.2.dead)))])), none, (some (AObj.map false (mapE true e_vdisk_file r1.2.files)))]⟩) (Weak.gen (kk := 2) [0, 1, 2] [] hx rfl (by decide) (by decide) rfl rfl rfl (le_upd (le_upd (le_top _) (.t (.one (.ref rfl)))) (.t (.one .sc))) (ac (.cells (fun h => h) (ac (.mp rfl) (ac .sc (ac .sc (ac .sc (ac .sc an)))))) (ac (.none _) (ac .map an)))) (AWops.nil ?_)
       rcases itH h with ⟨c7, h⟩ | ⟨c7, h⟩
       ·refine AW.cond_yes rfl c7 (AW.seq (AW.region ?_))
        refine s_assign (d := (sc (.int .i64 71))) rfl (AWops.nil (AW.ret ?_))
        obtain rfl := Option.some.inj h
        exact ⟨_, rfl, (Weak.gen (kk := 2) [0, 1, 2] [] rfl rfl (by decide) (by decide) rfl rfl rfl (le_upd (le_top _) (.t (.one .sc))) (ac (.cells (fun h => h) (ac (.mp rfl) (ac .sc (ac .sc (ac .sc (ac .sc an)))))) (ac (.none _) (ac .map an))))⟩
       ·refine AW.cond_no rfl c7 (AW.skip (AW.seq (AW.seq (AW.region ?_))))
        refine s_move (d := (D.one (C.ref 0 0))) rfl ?_
        refine s_nilCheck (d := (D.one (C.ref 0 0))) rfl (.inl ⟨_, _, rfl⟩) ?_
        refine s_fieldRef F.fo_50_3 (by decide) rfl ?_
        refine s_load1 (c' := (C.p true (.v (.pointer none)))) F.ag_48 rfl rfl ?_
        refine s_ptrNil (b := true) F.u_48 rfl (.inr ⟨⟨_, rfl⟩, rfl⟩) (.inr rfl) (AWops.nil ?_)
        refine AW.cond_no rfl rfl (AW.skip (AW.seq (AW.region ?_)))
        refine s_assign (d := (sc (.int .i64 0))) rfl (AWops.nil (AW.ret ?_))
        obtain rfl := Option.some.inj h
        exact ⟨_, rfl, (Weak.gen (kk := 2) [0, 1, 2] [] rfl rfl (by decide) (by decide) rfl rfl rfl (le_upd (le_top _) (.t (.one .sc))) (ac (.cells (fun h => h) (ac (.mp rfl) (ac .sc (ac .sc (ac .sc (ac .sc an)))))) (ac (.none _) (ac .map an))))⟩
     ·refine AW.draw (n := 77) (L := 3) [(0, ⟨some 39, (sc (.int .i64 a4)), [(4, (sc (.int .i64 a4)))], [], [], none⟩), (1, ⟨some 40, (sc (.bool (decide (a4 > 0)))), [(39, (sc (.int .i64 a4)))], [], [], none⟩), (2, ⟨some 41, (sc (.bool (decide (a4 > 0)))), [(40, (sc (.bool (decide (a4 > 0)))))], [], [], none⟩), (3, ⟨some 42, (D.tup []), [(4, (sc (.int .i64 a4))), (41, (sc (.bool (decide (a4 > 0)))))], [], [], none⟩), (4, ⟨some 43, (D.tup []), [(41, (sc (.bool (decide (a4 > 0)))))], [], [], none⟩), (5, ⟨some 44, (D.tup []), [(41, (sc (.bool (decide (a4 > 0)))))], [], [], none⟩), (6, ⟨some 45, (D.tup []), [(41, (sc (.bool (decide (a4 > 0)))))], [], [], none⟩), (7, ⟨some 46, (D.tup []), [(41, (sc (.bool (decide (a4 > 0)))))], [], [], none⟩), (8, ⟨some 47, (D.tup []), [(41, (sc (.bool (decide (a4 > 0)))))], [], [], none⟩), (9, ⟨some 48, (D.tup []), [(41, (sc (.bool (decide (a4 > 0)))))], [], [], none⟩), (10, ⟨some 49, (D.tup []), [(41, (sc (.bool (decide (a4 > 0)))))], [], [], none⟩), (11, ⟨some 50, (D.tup []), [(41, (sc (.bool (decide (a4 > 0)))))], [], [], none⟩), (12, ⟨some 51, (D.tup []), [(41, (sc (.bool (decide (a4 > 0)))))], [], [], none⟩), (13, ⟨some 52, (D.tup []), [(41, (sc (.bool (decide (a4 > 0)))))], [], [], none⟩), (14, ⟨some 53, (sc (.bool false)), [(41, (sc (.bool (decide (a4 > 0)))))], [], [], none⟩)] [[], [0], [0, 1], [0, 1, 2], [0, 1, 2], [0, 1, 2, 4], [0, 1, 2, 4, 5], [0, 1, 2, 4, 5, 6], [0, 1, 2], [0, 1, 2, 8], [0, 1, 2, 8, 9], [0, 1, 2, 8, 9, 10], [0, 1, 2, 4, 5, 6, 7, 8, 9, 10, 11], [0, 1, 2, 3, 4, 5, 6, 7, 8, 9, 10, 11, 12], [0, 1, 2, 3, 4, 5, 6, 7, 8, 9, 10, 11, 12, 13]] (nl rfl) [0, 1, 2, 3, 3, 4, 5, 6, 3, 4, 5, 6, 7, 8, 9] rfl (TK := []) rfl AllK.nil' (fC ⟨(sC rfl AllS.nil'), AllH.nil'⟩ (fC ⟨(sC rfl AllS.nil'), AllH.nil'⟩ (fC ⟨(sC rfl AllS.nil'), AllH.nil'⟩ (fC ⟨(sC rfl (sC rfl AllS.nil')), AllH.nil'⟩ (fC ⟨(sC rfl AllS.nil'), AllH.nil'⟩ (fC ⟨(sC rfl AllS.nil'), AllH.nil'⟩ (fC ⟨(sC rfl AllS.nil'), AllH.nil'⟩ (fC ⟨(sC rfl AllS.nil'), AllH.nil'⟩ (fC ⟨(sC rfl AllS.nil'), AllH.nil'⟩ (fC ⟨(sC rfl AllS.nil'), AllH.nil'⟩ (fC ⟨(sC rfl AllS.nil'), AllH.nil'⟩ (fC ⟨(sC rfl AllS.nil'), AllH.nil'⟩ (fC ⟨(sC rfl AllS.nil'), AllH.nil'⟩ (fC ⟨(sC rfl AllS.nil'), AllH.nil'⟩ (fC ⟨(sC rfl AllS.nil'), AllH.nil'⟩ AllF.nil'))))))))))))))) ?_ ?_
      ·refine (pC ?_ (pC ?_ (pC ?_ (pC ?_ (pC ?_ (pC ?_ (pC ?_ (pC ?_ (pC ?_ (pC ?_ (pC ?_ (pC ?_ (pC ?_ (pC ?_ (pC ?_ AllStep.nil')))))))))))))))
       ·intro K rest fr hv htk k
        show AWops _ x _ _ K ⟨77, (upd 77 fr 4 (sc (.int .i64 a4))), _⟩
        refine s_move (d := (sc (.int .i64 a4))) rfl k
       ·intro K rest fr hv htk k
        show AWops _ x _ _ K ⟨77, (upd 77 fr 39 (sc (.int .i64 a4))), _⟩
        refine s_binI (v := (.bool (decide (a4 > 0)))) rfl rfl rfl k
       ·intro K rest fr hv htk k
        show AWops _ x _ _ K ⟨77, (upd 77 fr 40 (sc (.bool (decide (a4 > 0))))), _⟩
        refine s_move (d := (sc (.bool (decide (a4 > 0))))) rfl k
       ·intro K rest fr hv htk k
        show AWops _ x _ _ K ⟨77, (upd 77 (upd 77 fr 41 (sc (.bool (decide (a4 > 0))))) 4 (sc (.int .i64 a4))), _⟩
        refine AWops.guard_no rfl (nl rfl) rfl c6 k
       ·intro K rest fr hv htk k
        show AWops _ x _ _ K ⟨77, (upd 77 fr 41 (sc (.bool (decide (a4 > 0))))), _⟩
        refine AWops.guard_no rfl (nl rfl) rfl c6 k
       ·intro K rest fr hv htk k
        show AWops _ x _ _ K ⟨77, (upd 77 fr 41 (sc (.bool (decide (a4 > 0))))), _⟩
        refine AWops.guard_no rfl (nl rfl) rfl c6 k
       ·intro K rest fr hv htk k
        show AWops _ x _ _ K ⟨77, (upd 77 fr 41 (sc (.bool (decide (a4 > 0))))), _⟩
        refine AWops.guard_no rfl (nl rfl) rfl c6 k
       ·intro K rest fr hv htk k
        show AWops _ x _ _ K ⟨77, (upd 77 fr 41 (sc (.bool (decide (a4 > 0))))), _⟩
        refine AWops.guard_no rfl (nl rfl) rfl c6 k
       ·intro K rest fr hv htk k
        show AWops _ x _ _ K ⟨77, (upd 77 fr 41 (sc (.bool (decide (a4 > 0))))), _⟩
        refine AWops.guard_no rfl (nl rfl) rfl c6 k
       ·intro K rest fr hv htk k
        show AWops _ x _ _ K ⟨77, (upd 77 fr 41 (sc (.bool (decide (a4 > 0))))), _⟩
        refine AWops.guard_no rfl (nl rfl) rfl c6 k
       ·intro K rest fr hv htk k
        show AWops _ x _ _ K ⟨77, (upd 77 fr 41 (sc (.bool (decide (a4 > 0))))), _⟩
        refine AWops.guard_no rfl (nl rfl) rfl c6 k
       ·intro K rest fr hv htk k
        show AWops _ x _ _ K ⟨77, (upd 77 fr 41 (sc (.bool (decide (a4 > 0))))), _⟩
        refine AWops.guard_no rfl (nl rfl) rfl c6 k
       ·intro K rest fr hv htk k
        show AWops _ x _ _ K ⟨77, (upd 77 fr 41 (sc (.bool (decide (a4 > 0))))), _⟩
        refine AWops.guard_no rfl (nl rfl) rfl c6 k
       ·intro K rest fr hv htk k
        show AWops _ x _ _ K ⟨77, (upd 77 fr 41 (sc (.bool (decide (a4 > 0))))), _⟩
        refine AWops.guard_no rfl (nl rfl) rfl c6 k
       ·intro K rest fr hv htk k
        show AWops _ x _ _ K ⟨77, (upd 77 fr 41 (sc (.bool (decide (a4 > 0))))), _⟩
        refine s_pick_no (d := (sc (.bool false))) rfl c6 rfl k
      ·refine AWops.weak (st' := ⟨77, (upd 77 (upd 77 topF 0 (D.one (C.ref 0 0))) 53 (sc (.bool false))), [(some (AObj.cells false [(C.mp 2), (C.p true (.v (.int .i64 r1.2.room))), (C.p true (.v (.int .i64 r1.2.used))), (C.p true (.v (.pointer none))), (C.p true (.v (.bool r1.2.dead)))])), none, (some (AObj.map false (mapE true e_vdisk_file r1.2.files)))]⟩) (Weak.gen (kk := 2) [0, 1, 2] [] hx rfl (by decide) (by decide) rfl rfl rfl (le_upd (le_upd (le_top _) (.t (.one (.ref rfl)))) (.t (.one .sc))) (ac (.cells (fun h => h) (ac (.mp rfl) (ac .sc (ac .sc (ac .sc (ac .sc an)))))) (ac (.none _) (ac .map an)))) (AWops.nil ?_)
       refine AW.cond_no rfl rfl (AW.skip (AW.seq (AW.seq (AW.region ?_))))
       refine s_move (d := (D.one (C.ref 0 0))) rfl ?_
       refine s_nilCheck (d := (D.one (C.ref 0 0))) rfl (.inl ⟨_, _, rfl⟩) ?_
       refine s_fieldRef F.fo_50_3 (by decide) rfl ?_
       refine s_load1 (c' := (C.p true (.v (.pointer none)))) F.ag_48 rfl rfl ?_
       refine s_ptrNil (b := true) F.u_48 rfl (.inr ⟨⟨_, rfl⟩, rfl⟩) (.inr rfl) (AWops.nil ?_)
       refine AW.cond_no rfl rfl (AW.skip (AW.seq (AW.region ?_)))
       refine s_assign (d := (sc (.int .i64 0))) rfl (AWops.nil (AW.ret ?_))
       obtain rfl := Option.some.inj h
       exact ⟨_, rfl, (Weak.gen (kk := 2) [0, 1, 2] [] rfl rfl (by decide) (by decide) rfl rfl rfl (le_upd (le_top _) (.t (.one .sc))) (ac (.cells (fun h => h) (ac (.mp rfl) (ac .sc (ac .sc (ac .sc (ac .sc an)))))) (ac (.none _) (ac .map an))))⟩
    ·refine AWops.guard_yes rfl (nl rfl) rfl (by rw [c5] <;> rfl) ?_
     refine s_move (d := (sc (.bool a3))) rfl ?_
     refine AWops.guard_yes rfl (nl rfl) rfl (by rw [c5] <;> rfl) ?_
     refine s_not rfl ?_
     refine s_pick_yes (d := (sc (.bool (!a3)))) rfl (by rw [c5] <;> rfl) rfl (AWops.nil ?_)
     rcases itH h with ⟨c8, h⟩ | ⟨c8, h⟩
     ·refine AW.cond_no rfl (by rw [c8] <;> rfl) (AW.skip (AW.seq (AW.seq ?_)))
      refine AW.weak (st' := ⟨77, (upd 77 (upd 77 topF 0 (D.one (C.ref 0 0))) 4 (sc (.int .i64 a4))), [(some (AObj.cells false [(C.mp 2), (C.p true (.v (.int .i64 r1.2.room))), (C.p true (.v (.int .i64 r1.2.used))), (C.p true (.v (.pointer none))), (C.p true (.v (.bool r1.2.dead)))])), none, (some (AObj.map false (mapE true e_vdisk_file r1.2.files)))]⟩) (Weak.gen (kk := 2) [0, 1, 3] [] hx rfl (by decide) (by decide) rfl rfl rfl (le_upd (le_upd (le_top _) (.t (.one (.ref rfl)))) (.t (.one .sc))) (ac (.cells (fun h => h) (ac (.mp rfl) (ac .sc (ac .sc (ac .sc (ac .sc an)))))) (ac (.none _) (ac .map an)))) ?_
      rcases itH h with ⟨c9, h⟩ | ⟨c9, h⟩
      ·refine AW.draw (n := 77) (L := 3) [(0, ⟨some 39, (sc (.int .i64 a4)), [(4, (sc (.int .i64 a4)))], [], [], none⟩), (1, ⟨some 40, (sc (.bool (decide (a4 > 0)))), [(39, (sc (.int .i64 a4)))], [], [], none⟩), (2, ⟨some 41, (sc (.bool (decide (a4 > 0)))), [(40, (sc (.bool (decide (a4 > 0)))))], [], [], none⟩), (3, ⟨some 42, (sc (.int .i64 a4)), [(4, (sc (.int .i64 a4))), (41, (sc (.bool (decide (a4 > 0)))))], [], [], none⟩), (4, ⟨some 43, (D.one (C.ref 0 0)), [(0, (D.one (C.ref 0 0))), (41, (sc (.bool (decide (a4 > 0)))))], [], [], none⟩), (5, ⟨some 44, (D.one (C.ref 0 0)), [(41, (sc (.bool (decide (a4 > 0))))), (43, (D.one (C.ref 0 0)))], [], [], none⟩), (6, ⟨some 45, (D.one (C.ref 0 1)), [(41, (sc (.bool (decide (a4 > 0))))), (44, (D.one (C.ref 0 0)))], [], [], none⟩), (7, ⟨some 46, (sc (.int .i64 r1.2.room)), [(41, (sc (.bool (decide (a4 > 0))))), (45, (D.one (C.ref 0 1)))], [(0, (some (AObj.cells false [(C.mp 2), (C.p true (.v (.int .i64 r1.2.room))), (C.p true (.v (.int .i64 r1.2.used))), (C.p true (.v (.pointer none))), (C.p true (.v (.bool r1.2.dead)))])))], [], none⟩), (8, ⟨some 47, (D.one (C.ref 0 0)), [(0, (D.one (C.ref 0 0))), (41, (sc (.bool (decide (a4 > 0)))))], [], [], none⟩), (9, ⟨some 48, (D.one (C.ref 0 0)), [(41, (sc (.bool (decide (a4 > 0))))), (47, (D.one (C.ref 0 0)))], [], [], none⟩), (10, ⟨some 49, (D.one (C.ref 0 2)), [(41, (sc (.bool (decide (a4 > 0))))), (48, (D.one (C.ref 0 0)))], [], [], none⟩), (11, ⟨some 50, (sc (.int .i64 r1.2.used)), [(41, (sc (.bool (decide (a4 > 0))))), (49, (D.one (C.ref 0 2)))], [(0, (some (AObj.cells false [(C.mp 2), (C.p true (.v (.int .i64 r1.2.room))), (C.p true (.v (.int .i64 r1.2.used))), (C.p true (.v (.pointer none))), (C.p true (.v (.bool r1.2.dead)))])))], [], none⟩), (12, ⟨some 51, (sc (.int .i64 (IntKind.i64.wrap (r1.2.room - r1.2.used)))), [(41, (sc (.bool (decide (a4 > 0))))), (46, (sc (.int .i64 r1.2.room))), (50, (sc (.int .i64 r1.2.used)))], [], [], none⟩), (13, ⟨some 52, (sc (.bool (decide (a4 > (IntKind.i64.wrap (r1.2.room - r1.2.used)))))), [(41, (sc (.bool (decide (a4 > 0))))), (42, (sc (.int .i64 a4))), (51, (sc (.int .i64 (IntKind.i64.wrap (r1.2.room - r1.2.used)))))], [], [], none⟩), (14, ⟨some 53, (sc (.bool (decide (a4 > (IntKind.i64.wrap (r1.2.room - r1.2.used)))))), [(41, (sc (.bool (decide (a4 > 0))))), (52, (sc (.bool (decide (a4 > (IntKind.i64.wrap (r1.2.room - r1.2.used)))))))], [], [], none⟩)] [[], [0], [0, 1], [0, 1, 2], [0, 1, 2], [0, 1, 2, 4], [0, 1, 2, 4, 5], [0, 1, 2, 4, 5, 6], [0, 1, 2], [0, 1, 2, 8], [0, 1, 2, 8, 9], [0, 1, 2, 8, 9, 10], [0, 1, 2, 4, 5, 6, 7, 8, 9, 10, 11], [0, 1, 2, 3, 4, 5, 6, 7, 8, 9, 10, 11, 12], [0, 1, 2, 3, 4, 5, 6, 7, 8, 9, 10, 11, 12, 13]] (nl rfl) [0, 1, 2, 3, 3, 4, 5, 6, 3, 4, 5, 6, 7, 8, 9] rfl (TK := []) rfl AllK.nil' (fC ⟨(sC rfl AllS.nil'), AllH.nil'⟩ (fC ⟨(sC rfl AllS.nil'), AllH.nil'⟩ (fC ⟨(sC rfl AllS.nil'), AllH.nil'⟩ (fC ⟨(sC rfl (sC rfl AllS.nil')), AllH.nil'⟩ (fC ⟨(sC rfl (sC rfl AllS.nil')), AllH.nil'⟩ (fC ⟨(sC rfl (sC rfl AllS.nil')), AllH.nil'⟩ (fC ⟨(sC rfl (sC rfl AllS.nil')), AllH.nil'⟩ (fC ⟨(sC rfl (sC rfl AllS.nil')), (hC rfl AllH.nil')⟩ (fC ⟨(sC rfl (sC rfl AllS.nil')), AllH.nil'⟩ (fC ⟨(sC rfl (sC rfl AllS.nil')), AllH.nil'⟩ (fC ⟨(sC rfl (sC rfl AllS.nil')), AllH.nil'⟩ (fC ⟨(sC rfl (sC rfl AllS.nil')), (hC rfl AllH.nil')⟩ (fC ⟨(sC rfl (sC rfl (sC rfl AllS.nil'))), AllH.nil'⟩ (fC ⟨(sC rfl (sC rfl (sC rfl AllS.nil'))), AllH.nil'⟩ (fC ⟨(sC rfl (sC rfl AllS.nil')), AllH.nil'⟩ AllF.nil'))))))))))))))) ?_ ?_
       ·refine (pC ?_ (pC ?_ (pC ?_ (pC ?_ (pC ?_ (pC ?_ (pC ?_ (pC ?_ (pC ?_ (pC ?_ (pC ?_ (pC ?_ (pC ?_ (pC ?_ (pC ?_ AllStep.nil')))))))))))))))
        ·intro K rest fr hv htk k
         show AWops _ x _ _ K ⟨77, (upd 77 fr 4 (sc (.int .i64 a4))), _⟩
         refine s_move (d := (sc (.int .i64 a4))) rfl k
        ·intro K rest fr hv htk k
         show AWops _ x _ _ K ⟨77, (upd 77 fr 39 (sc (.int .i64 a4))), _⟩
         refine s_binI (v := (.bool (decide (a4 > 0)))) rfl rfl rfl k
        ·intro K rest fr hv htk k
         show AWops _ x _ _ K ⟨77, (upd 77 fr 40 (sc (.bool (decide (a4 > 0))))), _⟩
         refine s_move (d := (sc (.bool (decide (a4 > 0))))) rfl k
        ·intro K rest fr hv htk k
         show AWops _ x _ _ K ⟨77, (upd 77 (upd 77 fr 41 (sc (.bool (decide (a4 > 0))))) 4 (sc (.int .i64 a4))), _⟩
         refine AWops.guard_yes rfl (nl rfl) rfl c9 ?_
         refine s_move (d := (sc (.int .i64 a4))) rfl k
        ·intro K rest fr hv htk k
         show AWops _ x _ _ K ⟨77, (upd 77 (upd 77 fr 41 (sc (.bool (decide (a4 > 0))))) 0 (D.one (C.ref 0 0))), _⟩
         refine AWops.guard_yes rfl (nl rfl) rfl c9 ?_
         refine s_move (d := (D.one (C.ref 0 0))) rfl k
        ·intro K rest fr hv htk k
         show AWops _ x _ _ K ⟨77, (upd 77 (upd 77 fr 43 (D.one (C.ref 0 0))) 41 (sc (.bool (decide (a4 > 0))))), [(hv 0), (hv 1), (hv 2)]⟩
         refine AWops.guard_yes rfl (nl rfl) rfl c9 ?_
         refine s_nilCheck (d := (D.one (C.ref 0 0))) rfl (.inl ⟨_, _, rfl⟩) k
        ·intro K rest fr hv htk k
         show AWops _ x _ _ K ⟨77, (upd 77 (upd 77 fr 44 (D.one (C.ref 0 0))) 41 (sc (.bool (decide (a4 > 0))))), [(hv 0), (hv 1), (hv 2)]⟩
         refine AWops.guard_yes rfl (nl rfl) rfl c9 ?_
         refine s_fieldRef F.fo_50_1 (by decide) rfl k
        ·intro K rest fr hv htk k
         show AWops _ x _ _ K ⟨77, (upd 77 (upd 77 fr 45 (D.one (C.ref 0 1))) 41 (sc (.bool (decide (a4 > 0))))), [(some (AObj.cells false [(C.mp 2), (C.p true (.v (.int .i64 r1.2.room))), (C.p true (.v (.int .i64 r1.2.used))), (C.p true (.v (.pointer none))), (C.p true (.v (.bool r1.2.dead)))])), (hv 1), (hv 2)]⟩
         refine AWops.guard_yes rfl (nl rfl) rfl c9 ?_
         refine s_load1 (c' := (C.p true (.v (.int .i64 r1.2.room)))) F.ag_3 rfl rfl k
        ·intro K rest fr hv htk k
         show AWops _ x _ _ K ⟨77, (upd 77 (upd 77 fr 41 (sc (.bool (decide (a4 > 0))))) 0 (D.one (C.ref 0 0))), _⟩
         refine AWops.guard_yes rfl (nl rfl) rfl c9 ?_
         refine s_move (d := (D.one (C.ref 0 0))) rfl k
        ·intro K rest fr hv htk k
         show AWops _ x _ _ K ⟨77, (upd 77 (upd 77 fr 47 (D.one (C.ref 0 0))) 41 (sc (.bool (decide (a4 > 0))))), [(hv 0), (hv 1), (hv 2)]⟩
         refine AWops.guard_yes rfl (nl rfl) rfl c9 ?_
         refine s_nilCheck (d := (D.one (C.ref 0 0))) rfl (.inl ⟨_, _, rfl⟩) k
        ·intro K rest fr hv htk k
         show AWops _ x _ _ K ⟨77, (upd 77 (upd 77 fr 48 (D.one (C.ref 0 0))) 41 (sc (.bool (decide (a4 > 0))))), [(hv 0), (hv 1), (hv 2)]⟩
         refine AWops.guard_yes rfl (nl rfl) rfl c9 ?_
         refine s_fieldRef F.fo_50_2 (by decide) rfl k
        ·intro K rest fr hv htk k
         show AWops _ x _ _ K ⟨77, (upd 77 (upd 77 fr 49 (D.one (C.ref 0 2))) 41 (sc (.bool (decide (a4 > 0))))), [(some (AObj.cells false [(C.mp 2), (C.p true (.v (.int .i64 r1.2.room))), (C.p true (.v (.int .i64 r1.2.used))), (C.p true (.v (.pointer none))), (C.p true (.v (.bool r1.2.dead)))])), (hv 1), (hv 2)]⟩
         refine AWops.guard_yes rfl (nl rfl) rfl c9 ?_
         refine s_load1 (c' := (C.p true (.v (.int .i64 r1.2.used)))) F.ag_3 rfl rfl k
        ·intro K rest fr hv htk k
         show AWops _ x _ _ K ⟨77, (upd 77 (upd 77 (upd 77 fr 50 (sc (.int .i64 r1.2.used))) 46 (sc (.int .i64 r1.2.room))) 41 (sc (.bool (decide (a4 > 0))))), _⟩
         refine AWops.guard_yes rfl (nl rfl) rfl c9 ?_
         refine s_binI (v := (.int .i64 (IntKind.i64.wrap (r1.2.room - r1.2.used)))) rfl rfl rfl k
        ·intro K rest fr hv htk k
         show AWops _ x _ _ K ⟨77, (upd 77 (upd 77 (upd 77 fr 51 (sc (.int .i64 (IntKind.i64.wrap (r1.2.room - r1.2.used))))) 42 (sc (.int .i64 a4))) 41 (sc (.bool (decide (a4 > 0))))), _⟩
         refine AWops.guard_yes rfl (nl rfl) rfl c9 ?_
         refine s_binI (v := (.bool (decide (a4 > (IntKind.i64.wrap (r1.2.room - r1.2.used)))))) rfl rfl rfl k
        ·intro K rest fr hv htk k
         show AWops _ x _ _ K ⟨77, (upd 77 (upd 77 fr 52 (sc (.bool (decide (a4 > (IntKind.i64.wrap (r1.2.room - r1.2.used))))))) 41 (sc (.bool (decide (a4 > 0))))), _⟩
         refine s_pick_yes (d := (sc (.bool (decide (a4 > (IntKind.i64.wrap (r1.2.room - r1.2.used))))))) rfl c9 rfl k
       ·refine AWops.weak (st' := ⟨77, (upd 77 (upd 77 topF 0 (D.one (C.ref 0 0))) 53 (sc (.bool (decide (a4 > (IntKind.i64.wrap (r1.2.room - r1.2.used))))))), [(some (AObj.cells false [(C.mp 2), (C.p true (.v (.int .i64 r1.2.room))), (C.p true (.v (.int .i64 r1.2.used))), (C.p true (.v (.pointer none))), (C.p true (.v (.bool r1.2.dead)))])), none, (some (AObj.map false (mapE true e_vdisk_file r1.2.files)))]⟩) (Weak.gen (kk := 2) [0, 1, 2] [] hx rfl (by decide) (by decide) rfl rfl rfl (le_upd (le_upd (le_top _) (.t (.one (.ref rfl)))) (.t (.one .sc))) (ac (.cells (fun h => h) (ac (.mp rfl) (ac .sc (ac .sc (ac .sc (ac .sc an)))))) (ac (.none _) (ac .map an)))) (AWops.nil ?_)
        rcases itH h with ⟨c10, h⟩ | ⟨c10, h⟩
        ·refine AW.cond_yes rfl c10 (AW.seq (AW.region ?_))
         refine s_assign (d := (sc (.int .i64 71))) rfl (AWops.nil (AW.ret ?_))
         obtain rfl := Option.some.inj h
         exact ⟨_, rfl, (Weak.gen (kk := 2) [0, 1, 2] [] rfl rfl (by decide) (by decide) rfl rfl rfl (le_upd (le_top _) (.t (.one .sc))) (ac (.cells (fun h => h) (ac (.mp rfl) (ac .sc (ac .sc (ac .sc (ac .sc an)))))) (ac (.none _) (ac .map an))))⟩
        ·refine AW.cond_no rfl c10 (AW.skip (AW.seq (AW.seq (AW.region ?_))))
         refine s_move (d := (D.one (C.ref 0 0))) rfl ?_
         refine s_nilCheck (d := (D.one (C.ref 0 0))) rfl (.inl ⟨_, _, rfl⟩) ?_
         refine s_fieldRef F.fo_50_3 (by decide) rfl ?_
         refine s_load1 (c' := (C.p true (.v (.pointer none)))) F.ag_48 rfl rfl ?_
         refine s_ptrNil (b := true) F.u_48 rfl (.inr ⟨⟨_, rfl⟩, rfl⟩) (.inr rfl) (AWops.nil ?_)
         refine AW.cond_no rfl rfl (AW.skip (AW.seq (AW.region ?_)))
         refine s_assign (d := (sc (.int .i64 0))) rfl (AWops.nil (AW.ret ?_))
         obtain rfl := Option.some.inj h
         exact ⟨_, rfl, (Weak.gen (kk := 2) [0, 1, 2] [] rfl rfl (by decide) (by decide) rfl rfl rfl (le_upd (le_top _) (.t (.one .sc))) (ac (.cells (fun h => h) (ac (.mp rfl) (ac .sc (ac .sc (ac .sc (ac .sc an)))))) (ac (.none _) (ac .map an))))⟩
      ·refine AW.draw (n := 77) (L := 3) [(0, ⟨some 39, (sc (.int .i64 a4)), [(4, (sc (.int .i64 a4)))], [], [], none⟩), (1, ⟨some 40, (sc (.bool (decide (a4 > 0)))), [(39, (sc (.int .i64 a4)))], [], [], none⟩), (2, ⟨some 41, (sc (.bool (decide (a4 > 0)))), [(40, (sc (.bool (decide (a4 > 0)))))], [], [], none⟩), (3, ⟨some 42, (D.tup []), [(4, (sc (.int .i64 a4))), (41, (sc (.bool (decide (a4 > 0)))))], [], [], none⟩), (4, ⟨some 43, (D.tup []), [(41, (sc (.bool (decide (a4 > 0)))))], [], [], none⟩), (5, ⟨some 44, (D.tup []), [(41, (sc (.bool (decide (a4 > 0)))))], [], [], none⟩), (6, ⟨some 45, (D.tup []), [(41, (sc (.bool (decide (a4 > 0)))))], [], [], none⟩), (7, ⟨some 46, (D.tup []), [(41, (sc (.bool (decide (a4 > 0)))))], [], [], none⟩), (8, ⟨some 47, (D.tup []), [(41, (sc (.bool (decide (a4 > 0)))))], [], [], none⟩), (9, ⟨some 48, (D.tup []), [(41, (sc (.bool (decide (a4 > 0)))))], [], [], none⟩), (10, ⟨some 49, (D.tup []), [(41, (sc (.bool (decide (a4 > 0)))))], [], [], none⟩), (11, ⟨some 50, (D.tup []), [(41, (sc (.bool (decide (a4 > 0)))))], [], [], none⟩), (12, ⟨some 51, (D.tup []), [(41, (sc (.bool (decide (a4 > 0)))))], [], [], none⟩), (13, ⟨some 52, (D.tup []), [(41, (sc (.bool (decide (a4 > 0)))))], [], [], none⟩), (14, ⟨some 53, (sc (.bool false)), [(41, (sc (.bool (decide (a4 > 0)))))], [], [], none⟩)] [[], [0], [0, 1], [0, 1, 2], [0, 1, 2], [0, 1, 2, 4], [0, 1, 2, 4, 5], [0, 1, 2, 4, 5, 6], [0, 1, 2], [0, 1, 2, 8], [0, 1, 2, 8, 9], [0, 1, 2, 8, 9, 10], [0, 1, 2, 4, 5, 6, 7, 8, 9, 10, 11], [0, 1, 2, 3, 4, 5, 6, 7, 8, 9, 10, 11, 12], [0, 1, 2, 3, 4, 5, 6, 7, 8, 9, 10, 11, 12, 13]] (nl rfl) [0, 1, 2, 3, 3, 4, 5, 6, 3, 4, 5, 6, 7, 8, 9] rfl (TK := []) rfl AllK.nil' (fC ⟨(sC rfl AllS.nil'), AllH.nil'⟩ (fC ⟨(sC rfl AllS.nil'), AllH.nil'⟩ (fC ⟨(sC rfl AllS.nil'), AllH.nil'⟩ (fC ⟨(sC rfl (sC rfl AllS.nil')), AllH.nil'⟩ (fC ⟨(sC rfl AllS.nil'), AllH.nil'⟩ (fC ⟨(sC rfl AllS.nil'), AllH.nil'⟩ (fC ⟨(sC rfl AllS.nil'), AllH.nil'⟩ (fC ⟨(sC rfl AllS.nil'), AllH.nil'⟩ (fC ⟨(sC rfl AllS.nil'), AllH.nil'⟩ (fC ⟨(sC rfl AllS.nil'), AllH.nil'⟩ (fC ⟨(sC rfl AllS.nil'), AllH.nil'⟩ (fC ⟨(sC rfl AllS.nil'), AllH.nil'⟩ (fC ⟨(sC rfl AllS.nil'), AllH.nil'⟩ (fC ⟨(sC rfl AllS.nil'), AllH.nil'⟩ (fC ⟨(sC rfl AllS.nil'), AllH.nil'⟩ AllF.nil'))))))))))))))) ?_ ?_
       ·refine (pC ?_ (pC ?_ (pC ?_ (pC ?_ (pC ?_ (pC ?_ (pC ?_ (pC ?_ (pC ?_ (pC ?_ (pC ?_ (pC ?_ (pC ?_ (pC ?_ (pC ?_ AllStep.nil')))))))))))))))
        ·intro K rest fr hv htk k
         show AWops _ x _ _ K ⟨77, (upd 77 fr 4 (sc (.int .i64 a4))), _⟩
         refine s_move (d := (sc (.int .i64 a4))) rfl k
        ·intro K rest fr hv htk k
         show AWops _ x _ _ K ⟨77, (upd 77 fr 39 (sc (.int .i64 a4))), _⟩
         refine s_binI (v := (.bool (decide (a4 > 0)))) rfl rfl rfl k
        ·intro K rest fr hv htk k
         show AWops _ x _ _ K ⟨77, (upd 77 fr 40 (sc (.bool (decide (a4 > 0))))), _⟩
         refine s_move (d := (sc (.bool (decide (a4 > 0))))) rfl k
        ·intro K rest fr hv htk k
         show AWops _ x _ _ K ⟨77, (upd 77 (upd 77 fr 41 (sc (.bool (decide (a4 > 0))))) 4 (sc (.int .i64 a4))), _⟩
         refine AWops.guard_no rfl (nl rfl) rfl c9 k
        ·intro K rest fr hv htk k
         show AWops _ x _ _ K ⟨77, (upd 77 fr 41 (sc (.bool (decide (a4 > 0))))), _⟩
         refine AWops.guard_no rfl (nl rfl) rfl c9 k
        ·intro K rest fr hv htk k
         show AWops _ x _ _ K ⟨77, (upd 77 fr 41 (sc (.bool (decide (a4 > 0))))), _⟩
         refine AWops.guard_no rfl (nl rfl) rfl c9 k
        ·intro K rest fr hv htk k
         show AWops _ x _ _ K ⟨77, (upd 77 fr 41 (sc (.bool (decide (a4 > 0))))), _⟩
         refine AWops.guard_no rfl (nl rfl) rfl c9 k
        ·intro K rest fr hv htk k
         show AWops _ x _ _ K ⟨77, (upd 77 fr 41 (sc (.bool (decide (a4 > 0))))), _⟩
         refine AWops.guard_no rfl (nl rfl) rfl c9 k
        ·intro K rest fr hv htk k
         show AWops _ x _ _ K ⟨77, (upd 77 fr 41 (sc (.bool (decide (a4 > 0))))), _⟩
         refine AWops.guard_no rfl (nl rfl) rfl c9 k
        ·intro K rest fr hv htk k
         show AWops _ x _ _ K ⟨77, (upd 77 fr 41 (sc (.bool (decide (a4 > 0))))), _⟩
         refine AWops.guard_no rfl (nl rfl) rfl c9 k
        ·intro K rest fr hv htk k
         show AWops _ x _ _ K ⟨77, (upd 77 fr 41 (sc (.bool (decide (a4 > 0))))), _⟩
         refine AWops.guard_no rfl (nl rfl) rfl c9 k
        ·intro K rest fr hv htk k
         show AWops _ x _ _ K ⟨77, (upd 77 fr 41 (sc (.bool (decide (a4 > 0))))), _⟩
         refine AWops.guard_no rfl (nl rfl) rfl c9 k
        ·intro K rest fr hv htk k
         show AWops _ x _ _ K ⟨77, (upd 77 fr 41 (sc (.bool (decide (a4 > 0))))), _⟩
         refine AWops.guard_no rfl (nl rfl) rfl c9 k
        ·intro K rest fr hv htk k
         show AWops _ x _ _ K ⟨77, (upd 77 fr 41 (sc (.bool (decide (a4 > 0))))), _⟩
         refine AWops.guard_no rfl (nl rfl) rfl c9 k
        ·intro K rest fr hv htk k
         show AWops _ x _ _ K ⟨77, (upd 77 fr 41 (sc (.bool (decide (a4 > 0))))), _⟩
         refine s_pick_no (d := (sc (.bool false))) rfl c9 rfl k
       ·refine AWops.weak (st' := ⟨77, (upd 77 (upd 77 topF 0 (D.one (C.ref 0 0))) 53 (sc (.bool false))), [(some (AObj.cells false [(C.mp 2), (C.p true (.v (.int .i64 r1.2.room))), (C.p true (.v (.int .i64 r1.2.used))), (C.p true (.v (.pointer none))), (C.p true (.v (.bool r1.2.dead)))])), none, (some (AObj.map false (mapE true e_vdisk_file r1.2.files)))]⟩) (Weak.gen (kk := 2) [0, 1, 2] [] hx rfl (by decide) (by decide) rfl rfl rfl (le_upd (le_upd (le_top _) (.t (.one (.ref rfl)))) (.t (.one .sc))) (ac (.cells (fun h => h) (ac (.mp rfl) (ac .sc (ac .sc (ac .sc (ac .sc an)))))) (ac (.none _) (ac .map an)))) (AWops.nil ?_)
        refine AW.cond_no rfl rfl (AW.skip (AW.seq (AW.seq (AW.region ?_))))
        refine s_move (d := (D.one (C.ref 0 0))) rfl ?_
        refine s_nilCheck (d := (D.one (C.ref 0 0))) rfl (.inl ⟨_, _, rfl⟩) ?_
        refine s_fieldRef F.fo_50_3 (by decide) rfl ?_
        refine s_load1 (c' := (C.p true (.v (.pointer none)))) F.ag_48 rfl rfl ?_
        refine s_ptrNil (b := true) F.u_48 rfl (.inr ⟨⟨_, rfl⟩, rfl⟩) (.inr rfl) (AWops.nil ?_)
        refine AW.cond_no rfl rfl (AW.skip (AW.seq (AW.region ?_)))
        refine s_assign (d := (sc (.int .i64 0))) rfl (AWops.nil (AW.ret ?_))
        obtain rfl := Option.some.inj h
        exact ⟨_, rfl, (Weak.gen (kk := 2) [0, 1, 2] [] rfl rfl (by decide) (by decide) rfl rfl rfl (le_upd (le_top _) (.t (.one .sc))) (ac (.cells (fun h => h) (ac (.mp rfl) (ac .sc (ac .sc (ac .sc (ac .sc an)))))) (ac (.none _) (ac .map an))))⟩
     ·refine AW.cond_yes rfl (by rw [c8] <;> rfl) (AW.seq (AW.region ?_))
      refine s_assign (d := (sc (.int .i64 33))) rfl (AWops.nil (AW.ret ?_))
      obtain rfl := Option.some.inj h
      exact ⟨_, rfl, (Weak.gen (kk := 2) [0, 1, 3] [] rfl rfl (by decide) (by decide) rfl rfl rfl (le_upd (le_top _) (.t (.one .sc))) (ac (.cells (fun h => h) (ac (.mp rfl) (ac .sc (ac .sc (ac .sc (ac .sc an)))))) (ac (.none _) (ac .map an))))⟩
  ·refine AW.cond_yes rfl (by rw [c3] <;> rfl) (AW.seq (AW.region ?_))
   refine s_assign (d := (sc (.int .i64 1))) rfl (AWops.nil (AW.ret ?_))
   obtain rfl := Option.some.inj h
   exact ⟨_, rfl, (Weak.gen (kk := 2) [0, 1, 3] [] rfl rfl (by decide) (by decide) rfl rfl rfl (le_upd (le_top _) (.t (.one .sc))) (ac (.cells (fun h => h) (ac (.mp rfl) (ac .sc (ac .sc (ac .sc (ac .sc an)))))) (ac (.none _) (ac .map an))))⟩
def slices_Grow_byte_byte_nil0.f (k : Nat) (a1 : Int) : Option (List Int) := if (decide (a1 < 0)) = true then (none) else (if (decide ((IntKind.i64.wrap (a1 - 0)) > 0)) = true then (if (decide (0 < (IntKind.i64.wrap (a1 - 0)) ∧ (IntKind.i64.wrap (a1 - 0)) ≤ 140737488355328)) = true then (some ([] : List Int)) else none) else (some ([] : List Int)))
theorem slices_Grow_byte_byte_nil0.meets (k : Nat) (a1 : Int) (r : (List Int)) (h : slices_Grow_byte_byte_nil0.f k a1 = some r) : Meets Try.prog 54 [(sc (.slice none 0 0)), (sc (.int .i64 a1))] [] (D.one (C.own 0 0 r.length 1)) [(some (AObj.cells true (rowC e_u8 r)))] := by
 unfold slices_Grow_byte_byte_nil0.f at h
 refine Meets.of_body (n := 27) Try.func54 rfl rfl (nl rfl) fun x hx => ?_
 replace hx : x.k = 0 := hx
 show AW _ x _ _ ⟨27, fr0 [(sc (.slice none 0 0)), (sc (.int .i64 a1))], []⟩
 refine AW.seq (AW.region ?_)
 refine s_assign (d := (sc (.slice none 0 0))) rfl (AWops.nil (AW.seq (AW.seq (AW.region ?_))))
 refine s_move (d := (sc (.int .i64 a1))) rfl ?_
 refine s_binI (v := (.bool (decide (a1 < 0)))) rfl rfl rfl (AWops.nil ?_)
 rcases itH h with ⟨c1, h⟩ | ⟨c1, h⟩
 ·refine AW.cond_yes rfl c1 (AW.region ?_)
  cases h
 ·refine AW.cond_no rfl c1 (AW.skip (AW.seq (AW.seq (AW.region ?_))))
  refine s_move (d := (sc (.int .i64 a1))) rfl ?_
  refine s_move (d := (sc (.slice none 0 0))) rfl ?_
  refine s_capNil F.u_22 rfl ?_
  refine s_move (d := (sc (.slice none 0 0))) rfl ?_
  refine s_len (n := 0) F.u_22 rfl (.inr ⟨(fun _ _ h => by cases h), ⟨_, rfl⟩⟩) ?_
  refine s_binI (v := (.int .i64 0)) rfl rfl (by rfl) ?_
  refine s_binI (v := (.int .i64 (IntKind.i64.wrap (a1 - 0)))) rfl rfl rfl ?_
  refine s_assign (d := (sc (.int .i64 (IntKind.i64.wrap (a1 - 0))))) rfl (AWops.nil (AW.seq (AW.region ?_)))
  refine s_move (d := (sc (.int .i64 (IntKind.i64.wrap (a1 - 0))))) rfl ?_
  refine s_binI (v := (.bool (decide ((IntKind.i64.wrap (a1 - 0)) > 0)))) rfl rfl rfl (AWops.nil ?_)
  rcases itH h with ⟨c2, h⟩ | ⟨c2, h⟩
  ·refine AW.cond_yes rfl c2 (AW.region ?_)
   refine s_move (d := (sc (.slice none 0 0))) rfl ?_
   refine s_move (d := (sc (.slice none 0 0))) rfl ?_
   refine s_capNil F.u_22 rfl ?_
   refine s_sliceNil F.u_22 F.sz_5 rfl rfl ?_
   refine s_move (d := (sc (.int .i64 (IntKind.i64.wrap (a1 - 0))))) rfl ?_
   obtain ⟨c3, h⟩ := gdH h
   have dc3 := of_decide_eq_true c3
   refine t_appendMake (f := e_u8) (a0 := (0 : Int)) F.u_22 F.u_3 F.in_5 rfl (by decide) rfl rfl rfl rfl (by omega) (by omega) (by omega) ?_
   refine s_move (d := (sc (.slice none 0 0))) rfl ?_
   refine s_len (n := 0) F.u_22 rfl (.inr ⟨(fun _ _ h => by cases h), ⟨_, rfl⟩⟩) ?_
   refine t_cut0 F.u_22 F.sz_5 rfl rfl rfl rfl ?_
   refine s_assign (d := (D.one (C.own 0 0 (([] : List Int).length) 1))) rfl (AWops.nil (AW.seq (AW.region ?_)))
   refine s_move (d := (D.one (C.own 0 0 (([] : List Int).length) 1))) rfl ?_
   refine s_assign (d := (D.one (C.own 0 0 (([] : List Int).length) 1))) rfl (AWops.nil (AW.ret ?_))
   obtain rfl := Option.some.inj h
   exact ⟨_, rfl, (Weak.gen (kk := 0) [0] [] rfl rfl (by decide) (by decide) rfl rfl rfl (le_upd (le_top _) (.t (.one (.own rfl)))) (ac (.cells (fun h => h) an) an))⟩
  ·refine AW.cond_no rfl c2 (AW.skip (AW.seq (AW.region ?_)))
   refine s_move (d := (sc (.slice none 0 0))) rfl ?_
   refine s_assign (d := (sc (.slice none 0 0))) rfl (AWops.nil (AW.ret ?_))
   obtain rfl := Option.some.inj h
   exact ⟨_, rfl, (Weak.trans (Weak.nil (sz := 1) (i := 0) rfl) (Weak.gen (kk := 0) [0] [] rfl rfl (by decide) (by decide) rfl rfl rfl (le_upd (le_top _) (.t (.one (CLe.ownN rfl (by simp))))) (ac (.cells (fun h => h) an) an)))⟩
mutual
def slices_Concat_byte_byte.l1 : Nat → (List Int) → Int → (List (List Int)) → Option (List Int)
 | 0, _, _, _ => none
 | k + 1, x7, x8, a0 => if (decide (x8 < (a0.length : Int))) = true then ((rd a0 x8).bind fun v10 => if (decide (x7.length + v10.length ≤ 140737488355328)) = true then (slices_Concat_byte_byte.l1 k (x7 ++ v10) (IntKind.i64.wrap (x8 + 1)) a0) else none) else (some x7)
def slices_Concat_byte_byte.l0 : Nat → Int → Int → (List (List Int)) → Option (List Int)
 | 0, _, _, _ => none
 | k + 1, x1, x2, a0 => if (decide (x2 < (a0.length : Int))) = true then ((rd a0 x2).bind fun v4 => if (decide ((IntKind.i64.wrap (x1 + (v4.length : Int))) < 0)) = true then (none) else (slices_Concat_byte_byte.l0 k (IntKind.i64.wrap (x1 + (v4.length : Int))) (IntKind.i64.wrap (x2 + 1)) a0)) else ((slices_Grow_byte_byte_nil0.f k x1).bind fun r6 => slices_Concat_byte_byte.l1 k r6 0 a0)
end
def slices_Concat_byte_byte.f (k : Nat) (a0 : List (List Int)) : Option (List Int) := slices_Concat_byte_byte.l0 k 0 0 a0
theorem slices_Concat_byte_byte.meets (k : Nat) (a0 : List (List Int)) (r : (List Int)) (h : slices_Concat_byte_byte.f k a0 = some r) : Meets Try.prog 34 [(D.one (C.p false (.sl a0.length (a0.flatMap (e_sl e_u8)))))] [] (D.one (C.own 0 0 r.length 1)) [(some (AObj.cells true (rowC e_u8 r)))] := by
 unfold slices_Concat_byte_byte.f at h
 refine Meets.of_body (n := 36) Try.func34 rfl rfl (nl rfl) fun x hx => ?_
 replace hx : x.k = 0 := hx
 show AW _ x _ _ ⟨36, fr0 [(D.one (C.p false (.sl a0.length (a0.flatMap (e_sl e_u8)))))], []⟩
 refine AW.seq (AW.region ?_)
 refine s_assign (d := (sc (.slice none 0 0))) rfl (AWops.nil (AW.seq (AW.region ?_)))
 refine s_assign (d := (sc (.int .i64 0))) rfl (AWops.nil (AW.seq (AW.seq (AW.region ?_))))
 refine s_move (d := (D.one (C.p false (.sl a0.length (a0.flatMap (e_sl e_u8)))))) rfl ?_
 refine s_len (n := a0.length) F.u_23 rfl (.inr ⟨(fun _ _ h => by cases h), ⟨_, rfl⟩⟩) ?_
 refine s_move (d := (sc (.int .i64 0))) rfl (AWops.nil (AW.block ?_))
 refine AW.loopw (st0 := ⟨36, (upd 36 (upd 36 (upd 36 (upd 36 (upd 36 topF 0 (D.one (C.p false (.sl a0.length (a0.flatMap (e_sl e_u8)))))) 3 (sc (.int .i64 0))) 9 (D.one (C.p false (.sl a0.length (a0.flatMap (e_sl e_u8)))))) 10 (sc (.int .i64 (a0.length : Int)))) 11 (sc (.int .i64 0))), []⟩) (fun kv st => kv ≤ k ∧ ∃ (x1 : Int) (x2 : Int), slices_Concat_byte_byte.l0 kv x1 x2 a0 = some r ∧ st = ⟨36, (upd 36 (upd 36 (upd 36 (upd 36 (upd 36 topF 0 (D.one (C.p false (.sl a0.length (a0.flatMap (e_sl e_u8)))))) 3 (sc (.int .i64 x1))) 9 (D.one (C.p false (.sl a0.length (a0.flatMap (e_sl e_u8)))))) 10 (sc (.int .i64 (a0.length : Int)))) 11 (sc (.int .i64 x2))), []⟩) (k := k) (Weak.gen (kk := 0) [] [] hx rfl (by decide) (by decide) rfl rfl rfl (le_upd (le_upd (le_upd (le_upd (le_upd (le_top _) (.t (.one .same))) (.t (.one .sc))) (.t (.one .same))) (.t (.one .sc))) (.t (.one .sc))) an) ⟨Nat.le_refl _, 0, 0, h, rfl⟩ ?_
 rintro ql0 st ⟨hkl0, x1, x2, h, rfl⟩
 cases ql0 with
 | zero => exact absurd h (by simp [slices_Concat_byte_byte.l0])
 | succ ql0 =>
  replace h := (slices_Concat_byte_byte.l0.eq_2 _ _ _ _).symm.trans h
  refine AW.seq (AW.region ?_)
  refine s_binI (v := (.bool (decide (x2 < (a0.length : Int))))) rfl rfl rfl (AWops.nil (AW.seq ?_))
  rcases itH h with ⟨c3, h⟩ | ⟨c3, h⟩
  ·refine AW.cond_yes rfl c3 (AW.skip (AW.seq (AW.block (AW.seq (AW.region ?_)))))
   obtain ⟨v4, ev4, h⟩ := bnd h
   obtain ⟨pv4, qv4, gv4⟩ := rd_some ev4
   refine s_indexImm (ps := [P.sl v4.length (v4.flatMap e_u8)]) F.u_23 F.sz_22 rfl rfl pv4 qv4 (flat_at (e_sl_len _) gv4 (e_sl_eq _ v4)) ?_
   refine s_load1 (c' := (C.p false (.sl v4.length (v4.flatMap e_u8)))) F.ag_22 rfl rfl ?_
   refine s_assign (d := (D.one (C.p false (.sl v4.length (v4.flatMap e_u8))))) rfl (AWops.nil (AW.seq (AW.region ?_)))
   refine s_move (d := (sc (.int .i64 x1))) rfl ?_
   refine s_move (d := (D.one (C.p false (.sl v4.length (v4.flatMap e_u8))))) rfl ?_
   refine s_len (n := v4.length) F.u_22 rfl (.inr ⟨(fun _ _ h => by cases h), ⟨_, rfl⟩⟩) ?_
   refine s_binI (v := (.int .i64 (IntKind.i64.wrap (x1 + (v4.length : Int))))) rfl rfl rfl ?_
   refine s_assign (d := (sc (.int .i64 (IntKind.i64.wrap (x1 + (v4.length : Int)))))) rfl (AWops.nil (AW.seq (AW.region ?_)))
   refine s_move (d := (sc (.int .i64 (IntKind.i64.wrap (x1 + (v4.length : Int)))))) rfl ?_
   refine s_binI (v := (.bool (decide ((IntKind.i64.wrap (x1 + (v4.length : Int))) < 0)))) rfl rfl rfl (AWops.nil ?_)
   rcases itH h with ⟨c5, h⟩ | ⟨c5, h⟩
   ·refine AW.cond_yes rfl c5 (AW.region ?_)
    cases h
   ·refine AW.cond_no rfl c5 (AW.skip (AW.region ?_))
    refine s_binI (v := (.int .i64 (IntKind.i64.wrap (x2 + 1)))) rfl rfl rfl ?_
    refine s_move (d := (sc (.int .i64 (IntKind.i64.wrap (x2 + 1))))) rfl (AWops.nil ?_)
    exact ⟨_, ⟨36, (upd 36 (upd 36 (upd 36 (upd 36 (upd 36 topF 0 (D.one (C.p false (.sl a0.length (a0.flatMap (e_sl e_u8)))))) 3 (sc (.int .i64 (IntKind.i64.wrap (x1 + (v4.length : Int)))))) 9 (D.one (C.p false (.sl a0.length (a0.flatMap (e_sl e_u8)))))) 10 (sc (.int .i64 (a0.length : Int)))) 11 (sc (.int .i64 (IntKind.i64.wrap (x2 + 1))))), []⟩, by omega, (Weak.gen (kk := 0) [] [] hx rfl (by decide) (by decide) rfl rfl rfl (le_upd (le_upd (le_upd (le_upd (le_upd (le_top _) (.t (.one .same))) (.t (.one .sc))) (.t (.one .same))) (.t (.one .sc))) (.t (.one .sc))) an), by omega, IntKind.i64.wrap (x1 + (v4.length : Int)), IntKind.i64.wrap (x2 + 1), h, rfl⟩
  ·refine AW.cond_no rfl c3 (AW.exit (AW.seq (AW.region ?_)))
   refine s_move (d := (sc (.int .i64 x1))) rfl ?_
   obtain ⟨r6, er6, h⟩ := bnd h
   refine s_call2 (ρ := []) (br := false) (H2 := [(some (AObj.cells true (rowC e_u8 r6)))]) (d := (D.one (C.own 0 0 r6.length 1))) F.ca_54 rfl rfl (ac (.one .sc) (ac (.one .sc) an)) an (by decide) rfl (slices_Grow_byte_byte_nil0.meets _ x1 r6 er6) (.inl rfl) (by first | rfl | (simp only [mergeH2, orF, Bool.false_or, Bool.or_false, Bool.true_or, Bool.or_true, mergeAt, mergeObj, renO, ren_row, List.drop_succ_cons, List.drop_zero, List.map_cons, List.map_nil, Option.map_some, Option.map_none, List.length_cons, List.length_nil, Nat.zero_add, List.append_assoc, List.cons_append, List.nil_append]; done) | (simp only [mergeH2, orF, Bool.false_or, Bool.or_false, Bool.true_or, Bool.or_true, mergeAt, mergeObj, renO, ren_row, List.drop_succ_cons, List.drop_zero, List.map_cons, List.map_nil, Option.map_some, Option.map_none, List.length_cons, List.length_nil, Nat.zero_add, List.append_assoc, List.cons_append, List.nil_append]; rfl)) rfl ?_
   refine s_assign (d := (D.one (C.own 0 0 r6.length 1))) rfl (AWops.nil (AW.seq (AW.seq (AW.region ?_))))
   refine s_move (d := (D.one (C.p false (.sl a0.length (a0.flatMap (e_sl e_u8)))))) rfl ?_
   refine s_len (n := a0.length) F.u_23 rfl (.inr ⟨(fun _ _ h => by cases h), ⟨_, rfl⟩⟩) ?_
   refine s_move (d := (sc (.int .i64 0))) rfl (AWops.nil (AW.block ?_))
   refine AW.loopw (st0 := ⟨36, (upd 36 (upd 36 (upd 36 (upd 36 topF 6 (D.one (C.own 0 0 r6.length 1))) 25 (D.one (C.p false (.sl a0.length (a0.flatMap (e_sl e_u8)))))) 26 (sc (.int .i64 (a0.length : Int)))) 27 (sc (.int .i64 0))), [(some (AObj.cells true (rowC e_u8 r6)))]⟩) (fun kv st => kv ≤ ql0 ∧ ∃ (x7 : List Int) (x8 : Int), slices_Concat_byte_byte.l1 kv x7 x8 a0 = some r ∧ st = ⟨36, (upd 36 (upd 36 (upd 36 (upd 36 topF 6 (D.one (C.own 0 0 x7.length 1))) 25 (D.one (C.p false (.sl a0.length (a0.flatMap (e_sl e_u8)))))) 26 (sc (.int .i64 (a0.length : Int)))) 27 (sc (.int .i64 x8))), [(some (AObj.cells true (rowC e_u8 x7)))]⟩) (k := ql0) (Weak.gen (kk := 0) [0] [] hx rfl (by decide) (by decide) rfl rfl rfl (le_upd (le_upd (le_upd (le_upd (le_top _) (.t (.one (.own rfl)))) (.t (.one .same))) (.t (.one .sc))) (.t (.one .sc))) (ac (.cells (fun h => h) (all2_row _)) an)) ⟨Nat.le_refl _, r6, 0, h, rfl⟩ ?_
   rintro ql1 st ⟨hkl1, x7, x8, h, rfl⟩
   cases ql1 with
   | zero => exact absurd h (by simp [slices_Concat_byte_byte.l1])
   | succ ql1 =>
    replace h := (slices_Concat_byte_byte.l1.eq_2 _ _ _ _).symm.trans h
    refine AW.seq (AW.region ?_)
    refine s_binI (v := (.bool (decide (x8 < (a0.length : Int))))) rfl rfl rfl (AWops.nil (AW.seq ?_))
    rcases itH h with ⟨c9, h⟩ | ⟨c9, h⟩
    ·refine AW.cond_yes rfl c9 (AW.skip (AW.seq (AW.block (AW.seq (AW.region ?_)))))
     obtain ⟨v10, ev10, h⟩ := bnd h
     obtain ⟨pv10, qv10, gv10⟩ := rd_some ev10
     refine s_indexImm (ps := [P.sl v10.length (v10.flatMap e_u8)]) F.u_23 F.sz_22 rfl rfl pv10 qv10 (flat_at (e_sl_len _) gv10 (e_sl_eq _ v10)) ?_
     refine s_load1 (c' := (C.p false (.sl v10.length (v10.flatMap e_u8)))) F.ag_22 rfl rfl ?_
     refine s_assign (d := (D.one (C.p false (.sl v10.length (v10.flatMap e_u8))))) rfl (AWops.nil (AW.region ?_))
     refine s_move (d := (D.one (C.own 0 0 x7.length 1))) rfl ?_
     refine s_move (d := (D.one (C.p false (.sl v10.length (v10.flatMap e_u8))))) rfl ?_
     obtain ⟨c11, h⟩ := gdH h
     have dc11 := of_decide_eq_true c11
     refine t_append (xs := x7) (ys := v10) (zs := x7 ++ v10) (H' := [none, (some (AObj.cells true (rowC e_u8 (x7 ++ v10))))]) F.u_22 F.in_5 rfl e_u8_len (.own rfl rfl) .imm F.u_22 (by omega) (by omega) rfl rfl ?_
     refine s_assign (d := (D.one (C.own 1 0 ((x7 ++ v10).length) 1))) rfl (AWops.nil (AW.region ?_))
     refine s_binI (v := (.int .i64 (IntKind.i64.wrap (x8 + 1)))) rfl rfl rfl ?_
     refine s_move (d := (sc (.int .i64 (IntKind.i64.wrap (x8 + 1))))) rfl (AWops.nil ?_)
     exact ⟨_, ⟨36, (upd 36 (upd 36 (upd 36 (upd 36 topF 6 (D.one (C.own 0 0 (x7 ++ v10).length 1))) 25 (D.one (C.p false (.sl a0.length (a0.flatMap (e_sl e_u8)))))) 26 (sc (.int .i64 (a0.length : Int)))) 27 (sc (.int .i64 (IntKind.i64.wrap (x8 + 1))))), [(some (AObj.cells true (rowC e_u8 (x7 ++ v10))))]⟩, by omega, (Weak.gen (kk := 0) [1] [] hx rfl (by decide) (by decide) rfl rfl rfl (le_upd (le_upd (le_upd (le_upd (le_top _) (.t (.one (.own rfl)))) (.t (.one .same))) (.t (.one .sc))) (.t (.one .sc))) (ac (.cells (fun h => h) (all2_row _)) an)), by omega, x7 ++ v10, IntKind.i64.wrap (x8 + 1), h, rfl⟩
    ·refine AW.cond_no rfl c9 (AW.exit (AW.seq (AW.region ?_)))
     refine s_move (d := (D.one (C.own 0 0 x7.length 1))) rfl ?_
     refine s_assign (d := (D.one (C.own 0 0 x7.length 1))) rfl (AWops.nil (AW.ret ?_))
     obtain rfl := Option.some.inj h
     exact ⟨_, rfl, (Weak.gen (kk := 0) [0] [] rfl rfl (by decide) (by decide) rfl rfl rfl (le_upd (le_top _) (.t (.one (.own rfl)))) (ac (.cells (fun h => h) (all2_row _)) an))⟩
def vdisk_Disk_set.f (k : Nat) (p0 : vdisk_Disk) (a1 : ByteArray) (a2 : vdisk_file) : Option vdisk_Disk := some (⟨mset a1 a2 p0.files, p0.room, IntKind.i64.wrap (p0.used + (IntKind.i64.wrap ((a2.b.length : Int) - ((((mget a1 p0.files).getD ((⟨([] : List Int), 0⟩ : vdisk_file) : vdisk_file)).b).length : Int)))), (), p0.dead⟩ : vdisk_Disk)
theorem vdisk_Disk_set.meets (k : Nat) (p0 : vdisk_Disk) (a1 : ByteArray) (a2 : vdisk_file) (r : vdisk_Disk) (h : vdisk_Disk_set.f k p0 a1 a2 = some r) : Meets Try.prog 33 [(D.one (C.ref 0 0)), (sc (.string a1)), (D.agg (c_vdisk_file a2))] [(some (AObj.cells false [(C.mp 1), (C.p true (.v (.int .i64 p0.room))), (C.p true (.v (.int .i64 p0.used))), (C.p true (.v (.pointer none))), (C.p true (.v (.bool p0.dead)))])), (some (AObj.map false (mapE true e_vdisk_file p0.files)))] (D.tup []) [(some (AObj.cells false [(C.mp 2), (C.p true (.v (.int .i64 r.room))), (C.p true (.v (.int .i64 r.used))), (C.p true (.v (.pointer none))), (C.p true (.v (.bool r.dead)))])), none, (some (AObj.map false (mapE true e_vdisk_file r.files)))] := by
 unfold vdisk_Disk_set.f at h
 refine Meets.of_body (n := 31) Try.func33 rfl rfl (nl rfl) fun x hx => ?_
 replace hx : x.k = 2 := hx
 show AW _ x _ _ ⟨31, fr0 [(D.one (C.ref 0 0)), (sc (.string a1)), (D.agg (c_vdisk_file a2))], [(some (AObj.cells false [(C.mp 1), (C.p true (.v (.int .i64 p0.room))), (C.p true (.v (.int .i64 p0.used))), (C.p true (.v (.pointer none))), (C.p true (.v (.bool p0.dead)))])), (some (AObj.map false (mapE true e_vdisk_file p0.files)))]⟩
 refine AW.weak (st' := ⟨31, (upd 31 (upd 31 (upd 31 topF 0 (D.one (C.ref 0 0))) 1 (sc (.string a1))) 2 (D.agg (c_vdisk_file a2))), [(some (AObj.cells false [(C.mp 2), (C.p true (.v (.int .i64 p0.room))), (C.p true (.v (.int .i64 p0.used))), (C.p true (.v (.pointer none))), (C.p true (.v (.bool p0.dead)))])), none, (some (AObj.map false (mapE true e_vdisk_file p0.files)))]⟩) (Weak.genL (kk := 2) [0, 1, 1] [] hx rfl (by decide) rfl rfl rfl rfl (le_upd (le_upd (le_upd (le_top _) (.t (.one (.ref rfl)))) (.t (.one .sc))) (.t (.agg (ac .same (ac .sc an))))) (ac (.cells (fun h => h) (ac (.mp rfl) (ac .sc (ac .sc (ac .sc (ac .sc an)))))) (ac (.none _) (ac .map an)))) (AW.seq (AW.region ?_))
 refine s_box (cs := (c_vdisk_file a2)) rfl (List.cons_ne_nil _ _) rfl (AWops.nil (AW.seq ?_))
 refine AW.weak (st' := ⟨31, (upd 31 (upd 31 (upd 31 topF 0 (D.one (C.ref 0 0))) 1 (sc (.string a1))) 5 (D.one (C.ref 2 0))), [(some (AObj.cells false [(C.mp 3), (C.p true (.v (.int .i64 p0.room))), (C.p true (.v (.int .i64 p0.used))), (C.p true (.v (.pointer none))), (C.p true (.v (.bool p0.dead)))])), none, (some (AObj.cells true (c_vdisk_file a2))), (some (AObj.map false (mapE true e_vdisk_file p0.files)))]⟩) (Weak.gen (kk := 2) [0, 1, 3, 2] [] hx rfl (by decide) (by decide) rfl rfl rfl (le_upd (le_upd (le_upd (le_top _) (.t (.one (.ref rfl)))) (.t (.one .sc))) (.t (.one (.ref rfl)))) (ac (.cells (fun h => h) (ac (.mp rfl) (ac .sc (ac .sc (ac .sc (ac .sc an)))))) (ac (.none _) (ac (.cells (fun h => h) (ac .same (ac .sc an))) (ac .map an))))) ?_
 refine AW.draw (n := 31) (L := 4) [(0, ⟨some 6, (D.one (C.ref 0 0)), [(0, (D.one (C.ref 0 0)))], [], [], none⟩), (1, ⟨some 7, (D.one (C.ref 0 0)), [(6, (D.one (C.ref 0 0)))], [], [], none⟩), (2, ⟨some 8, (D.one (C.ref 0 2)), [(7, (D.one (C.ref 0 0)))], [], [], none⟩), (3, ⟨some 9, (sc (.int .i64 p0.used)), [(8, (D.one (C.ref 0 2)))], [(0, (some (AObj.cells false [(C.mp 3), (C.p true (.v (.int .i64 p0.room))), (C.p true (.v (.int .i64 p0.used))), (C.p true (.v (.pointer none))), (C.p true (.v (.bool p0.dead)))])))], [], none⟩), (4, ⟨some 10, (D.one (C.ref 2 0)), [(5, (D.one (C.ref 2 0)))], [], [], none⟩), (5, ⟨some 11, (D.one (C.p false (.sl a2.b.length (a2.b.flatMap e_u8)))), [(10, (D.one (C.ref 2 0)))], [(2, (some (AObj.cells true (c_vdisk_file a2))))], [], none⟩), (6, ⟨some 12, (sc (.int .i64 (a2.b.length : Int))), [(11, (D.one (C.p false (.sl a2.b.length (a2.b.flatMap e_u8)))))], [], [], none⟩), (7, ⟨some 13, (D.one (C.ref 0 0)), [(0, (D.one (C.ref 0 0)))], [], [], none⟩), (8, ⟨some 14, (D.one (C.ref 0 0)), [(13, (D.one (C.ref 0 0)))], [], [], none⟩), (9, ⟨some 15, (D.one (C.ref 0 0)), [(14, (D.one (C.ref 0 0)))], [], [], none⟩), (10, ⟨some 16, (D.one (C.mp 3)), [(15, (D.one (C.ref 0 0)))], [(0, (some (AObj.cells false [(C.mp 3), (C.p true (.v (.int .i64 p0.room))), (C.p true (.v (.int .i64 p0.used))), (C.p true (.v (.pointer none))), (C.p true (.v (.bool p0.dead)))])))], [], none⟩), (11, ⟨some 17, (sc (.string a1)), [(1, (sc (.string a1)))], [], [], none⟩), (12, ⟨some 18, (D.agg (c_vdisk_file ((mget a1 p0.files).getD ((⟨([] : List Int), 0⟩ : vdisk_file) : vdisk_file)))), [(16, (D.one (C.mp 3))), (17, (sc (.string a1)))], [(3, (some (AObj.map false (mapE true e_vdisk_file p0.files))))], [], none⟩), (13, ⟨some 19, (D.one (C.p false (.sl (((mget a1 p0.files).getD ((⟨([] : List Int), 0⟩ : vdisk_file) : vdisk_file)).b).length ((((mget a1 p0.files).getD ((⟨([] : List Int), 0⟩ : vdisk_file) : vdisk_file)).b).flatMap e_u8)))), [(18, (D.agg (c_vdisk_file ((mget a1 p0.files).getD ((⟨([] : List Int), 0⟩ : vdisk_file) : vdisk_file)))))], [], [], none⟩), (14, ⟨some 20, (sc (.int .i64 ((((mget a1 p0.files).getD ((⟨([] : List Int), 0⟩ : vdisk_file) : vdisk_file)).b).length : Int))), [(19, (D.one (C.p false (.sl (((mget a1 p0.files).getD ((⟨([] : List Int), 0⟩ : vdisk_file) : vdisk_file)).b).length ((((mget a1 p0.files).getD ((⟨([] : List Int), 0⟩ : vdisk_file) : vdisk_file)).b).flatMap e_u8)))))], [], [], none⟩), (15, ⟨some 21, (sc (.int .i64 (IntKind.i64.wrap ((a2.b.length : Int) - ((((mget a1 p0.files).getD ((⟨([] : List Int), 0⟩ : vdisk_file) : vdisk_file)).b).length : Int))))), [(12, (sc (.int .i64 (a2.b.length : Int)))), (20, (sc (.int .i64 ((((mget a1 p0.files).getD ((⟨([] : List Int), 0⟩ : vdisk_file) : vdisk_file)).b).length : Int))))], [], [], none⟩), (16, ⟨some 22, (sc (.int .i64 (IntKind.i64.wrap (p0.used + (IntKind.i64.wrap ((a2.b.length : Int) - ((((mget a1 p0.files).getD ((⟨([] : List Int), 0⟩ : vdisk_file) : vdisk_file)).b).length : Int))))))), [(9, (sc (.int .i64 p0.used))), (21, (sc (.int .i64 (IntKind.i64.wrap ((a2.b.length : Int) - ((((mget a1 p0.files).getD ((⟨([] : List Int), 0⟩ : vdisk_file) : vdisk_file)).b).length : Int))))))], [], [], none⟩), (17, ⟨some 23, (D.one (C.ref 0 0)), [(6, (D.one (C.ref 0 0)))], [], [], none⟩), (18, ⟨some 24, (D.one (C.ref 0 2)), [(23, (D.one (C.ref 0 0)))], [], [], none⟩), (19, ⟨none, (D.one C.top), [(22, (sc (.int .i64 (IntKind.i64.wrap (p0.used + (IntKind.i64.wrap ((a2.b.length : Int) - ((((mget a1 p0.files).getD ((⟨([] : List Int), 0⟩ : vdisk_file) : vdisk_file)).b).length : Int)))))))), (24, (D.one (C.ref 0 2)))], [(0, (some (AObj.cells false [(C.mp 3), (C.p true (.v (.int .i64 p0.room))), (C.p true (.v (.int .i64 p0.used))), (C.p true (.v (.pointer none))), (C.p true (.v (.bool p0.dead)))])))], [(0, (some (AObj.cells false [(C.mp 3), (C.p true (.v (.int .i64 p0.room))), (C.p true (.v (.int .i64 (IntKind.i64.wrap (p0.used + (IntKind.i64.wrap ((a2.b.length : Int) - ((((mget a1 p0.files).getD ((⟨([] : List Int), 0⟩ : vdisk_file) : vdisk_file)).b).length : Int)))))))), (C.p true (.v (.pointer none))), (C.p true (.v (.bool p0.dead)))])))], none⟩)] [[], [0], [0, 1], [0, 1, 2], [], [4], [4, 5], [], [7], [7, 8], [7, 8, 9], [], [7, 8, 9, 10, 11], [7, 8, 9, 10, 11, 12], [7, 8, 9, 10, 11, 12, 13], [4, 5, 6, 7, 8, 9, 10, 11, 12, 13, 14], [0, 1, 2, 3, 4, 5, 6, 7, 8, 9, 10, 11, 12, 13, 14, 15], [0, 1, 2, 3, 4, 5, 6, 7, 8, 9, 10, 11, 12, 13, 14, 15, 16], [0, 1, 2, 3, 4, 5, 6, 7, 8, 9, 10, 11, 12, 13, 14, 15, 16, 17], [0, 1, 2, 3, 4, 5, 6, 7, 8, 9, 10, 11, 12, 13, 14, 15, 16, 17, 18]] (nl rfl) [0, 1, 2, 3, 0, 1, 2, 0, 1, 2, 3, 0, 4, 5, 6, 7, 8, 9, 10, 11] rfl (TK := []) rfl AllK.nil' (fC ⟨(sC rfl AllS.nil'), AllH.nil'⟩ (fC ⟨(sC rfl AllS.nil'), AllH.nil'⟩ (fC ⟨(sC rfl AllS.nil'), AllH.nil'⟩ (fC ⟨(sC rfl AllS.nil'), (hC rfl AllH.nil')⟩ (fC ⟨(sC rfl AllS.nil'), AllH.nil'⟩ (fC ⟨(sC rfl AllS.nil'), (hC rfl AllH.nil')⟩ (fC ⟨(sC rfl AllS.nil'), AllH.nil'⟩ (fC ⟨(sC rfl AllS.nil'), AllH.nil'⟩ (fC ⟨(sC rfl AllS.nil'), AllH.nil'⟩ (fC ⟨(sC rfl AllS.nil'), AllH.nil'⟩ (fC ⟨(sC rfl AllS.nil'), (hC rfl AllH.nil')⟩ (fC ⟨(sC rfl AllS.nil'), AllH.nil'⟩ (fC ⟨(sC rfl (sC rfl AllS.nil')), (hC rfl AllH.nil')⟩ (fC ⟨(sC rfl AllS.nil'), AllH.nil'⟩ (fC ⟨(sC rfl AllS.nil'), AllH.nil'⟩ (fC ⟨(sC rfl (sC rfl AllS.nil')), AllH.nil'⟩ (fC ⟨(sC rfl (sC rfl AllS.nil')), AllH.nil'⟩ (fC ⟨(sC rfl AllS.nil'), AllH.nil'⟩ (fC ⟨(sC rfl AllS.nil'), AllH.nil'⟩ (fC ⟨(sC rfl (sC rfl AllS.nil')), (hC rfl AllH.nil')⟩ AllF.nil')))))))))))))))))))) ?_ ?_
 ·refine (pC ?_ (pC ?_ (pC ?_ (pC ?_ (pC ?_ (pC ?_ (pC ?_ (pC ?_ (pC ?_ (pC ?_ (pC ?_ (pC ?_ (pC ?_ (pC ?_ (pC ?_ (pC ?_ (pC ?_ (pC ?_ (pC ?_ (pC ?_ AllStep.nil'))))))))))))))))))))
  ·intro K rest fr hv htk k
   show AWops _ x _ _ K ⟨31, (upd 31 fr 0 (D.one (C.ref 0 0))), _⟩
   refine s_move (d := (D.one (C.ref 0 0))) rfl k
  ·intro K rest fr hv htk k
   show AWops _ x _ _ K ⟨31, (upd 31 fr 6 (D.one (C.ref 0 0))), [(hv 0), (hv 1), (hv 2), (hv 3)]⟩
   refine s_nilCheck (d := (D.one (C.ref 0 0))) rfl (.inl ⟨_, _, rfl⟩) k
  ·intro K rest fr hv htk k
   show AWops _ x _ _ K ⟨31, (upd 31 fr 7 (D.one (C.ref 0 0))), [(hv 0), (hv 1), (hv 2), (hv 3)]⟩
   refine s_fieldRef F.fo_50_2 (by decide) rfl k
  ·intro K rest fr hv htk k
   show AWops _ x _ _ K ⟨31, (upd 31 fr 8 (D.one (C.ref 0 2))), [(some (AObj.cells false [(C.mp 3), (C.p true (.v (.int .i64 p0.room))), (C.p true (.v (.int .i64 p0.used))), (C.p true (.v (.pointer none))), (C.p true (.v (.bool p0.dead)))])), (hv 1), (hv 2), (hv 3)]⟩
   refine s_load1 (c' := (C.p true (.v (.int .i64 p0.used)))) F.ag_3 rfl rfl k
  ·intro K rest fr hv htk k
   show AWops _ x _ _ K ⟨31, (upd 31 fr 5 (D.one (C.ref 2 0))), [(hv 0), (hv 1), (hv 2), (hv 3)]⟩
   refine s_fieldRef F.fo_65_0 (by decide) rfl k
  ·intro K rest fr hv htk k
   show AWops _ x _ _ K ⟨31, (upd 31 fr 10 (D.one (C.ref 2 0))), [(hv 0), (hv 1), (some (AObj.cells true (c_vdisk_file a2))), (hv 3)]⟩
   refine s_load1 (c' := (C.p false (.sl a2.b.length (a2.b.flatMap e_u8)))) F.ag_22 rfl rfl k
  ·intro K rest fr hv htk k
   show AWops _ x _ _ K ⟨31, (upd 31 fr 11 (D.one (C.p false (.sl a2.b.length (a2.b.flatMap e_u8))))), [(hv 0), (hv 1), (hv 2), (hv 3)]⟩
   refine s_len (n := a2.b.length) F.u_22 rfl (.inr ⟨(fun _ _ h => by cases h), ⟨_, rfl⟩⟩) k
  ·intro K rest fr hv htk k
   show AWops _ x _ _ K ⟨31, (upd 31 fr 0 (D.one (C.ref 0 0))), _⟩
   refine s_move (d := (D.one (C.ref 0 0))) rfl k
  ·intro K rest fr hv htk k
   show AWops _ x _ _ K ⟨31, (upd 31 fr 13 (D.one (C.ref 0 0))), [(hv 0), (hv 1), (hv 2), (hv 3)]⟩
   refine s_nilCheck (d := (D.one (C.ref 0 0))) rfl (.inl ⟨_, _, rfl⟩) k
  ·intro K rest fr hv htk k
   show AWops _ x _ _ K ⟨31, (upd 31 fr 14 (D.one (C.ref 0 0))), [(hv 0), (hv 1), (hv 2), (hv 3)]⟩
   refine s_fieldRef F.fo_50_0 (by decide) rfl k
  ·intro K rest fr hv htk k
   show AWops _ x _ _ K ⟨31, (upd 31 fr 15 (D.one (C.ref 0 0))), [(some (AObj.cells false [(C.mp 3), (C.p true (.v (.int .i64 p0.room))), (C.p true (.v (.int .i64 p0.used))), (C.p true (.v (.pointer none))), (C.p true (.v (.bool p0.dead)))])), (hv 1), (hv 2), (hv 3)]⟩
   refine s_load1 (c' := (C.mp 3)) F.ag_47 rfl rfl k
  ·intro K rest fr hv htk k
   show AWops _ x _ _ K ⟨31, (upd 31 fr 1 (sc (.string a1))), _⟩
   refine s_move (d := (sc (.string a1))) rfl k
  ·intro K rest fr hv htk k
   show AWops _ x _ _ K ⟨31, (upd 31 (upd 31 fr 17 (sc (.string a1))) 16 (D.one (C.mp 3))), [(hv 0), (hv 1), (hv 2), (some (AObj.map false (mapE true e_vdisk_file p0.files)))]⟩
   refine t_lookup (b := true) F.u_47 F.u_9 F.z_65 (z := ((⟨([] : List Int), 0⟩ : vdisk_file) : vdisk_file)) (zs := [(.slice none 0 0), (.int .i64 0)]) rfl (fun h => by cases h) (ac ZRel.n (ac (ZRel.v _ rfl) an)) rfl rfl rfl rfl k
  ·intro K rest fr hv htk k
   show AWops _ x _ _ K ⟨31, (upd 31 fr 18 (D.agg (c_vdisk_file ((mget a1 p0.files).getD ((⟨([] : List Int), 0⟩ : vdisk_file) : vdisk_file))))), [(hv 0), (hv 1), (hv 2), (hv 3)]⟩
   refine s_field1 (c := (C.p false (.sl (((mget a1 p0.files).getD ((⟨([] : List Int), 0⟩ : vdisk_file) : vdisk_file)).b).length ((((mget a1 p0.files).getD ((⟨([] : List Int), 0⟩ : vdisk_file) : vdisk_file)).b).flatMap e_u8)))) F.fo_65_0 rfl rfl k
  ·intro K rest fr hv htk k
   show AWops _ x _ _ K ⟨31, (upd 31 fr 19 (D.one (C.p false (.sl (((mget a1 p0.files).getD ((⟨([] : List Int), 0⟩ : vdisk_file) : vdisk_file)).b).length ((((mget a1 p0.files).getD ((⟨([] : List Int), 0⟩ : vdisk_file) : vdisk_file)).b).flatMap e_u8))))), [(hv 0), (hv 1), (hv 2), (hv 3)]⟩
   refine s_len (n := (((mget a1 p0.files).getD ((⟨([] : List Int), 0⟩ : vdisk_file) : vdisk_file)).b).length) F.u_22 rfl (.inr ⟨(fun _ _ h => by cases h), ⟨_, rfl⟩⟩) k
  ·intro K rest fr hv htk k
   show AWops _ x _ _ K ⟨31, (upd 31 (upd 31 fr 20 (sc (.int .i64 ((((mget a1 p0.files).getD ((⟨([] : List Int), 0⟩ : vdisk_file) : vdisk_file)).b).length : Int)))) 12 (sc (.int .i64 (a2.b.length : Int)))), _⟩
   refine s_binI (v := (.int .i64 (IntKind.i64.wrap ((a2.b.length : Int) - ((((mget a1 p0.files).getD ((⟨([] : List Int), 0⟩ : vdisk_file) : vdisk_file)).b).length : Int))))) rfl rfl rfl k
  ·intro K rest fr hv htk k
   show AWops _ x _ _ K ⟨31, (upd 31 (upd 31 fr 21 (sc (.int .i64 (IntKind.i64.wrap ((a2.b.length : Int) - ((((mget a1 p0.files).getD ((⟨([] : List Int), 0⟩ : vdisk_file) : vdisk_file)).b).length : Int)))))) 9 (sc (.int .i64 p0.used))), _⟩
   refine s_binI (v := (.int .i64 (IntKind.i64.wrap (p0.used + (IntKind.i64.wrap ((a2.b.length : Int) - ((((mget a1 p0.files).getD ((⟨([] : List Int), 0⟩ : vdisk_file) : vdisk_file)).b).length : Int))))))) rfl rfl rfl k
  ·intro K rest fr hv htk k
   show AWops _ x _ _ K ⟨31, (upd 31 fr 6 (D.one (C.ref 0 0))), [(hv 0), (hv 1), (hv 2), (hv 3)]⟩
   refine s_nilCheck (d := (D.one (C.ref 0 0))) rfl (.inl ⟨_, _, rfl⟩) k
  ·intro K rest fr hv htk k
   show AWops _ x _ _ K ⟨31, (upd 31 fr 23 (D.one (C.ref 0 0))), [(hv 0), (hv 1), (hv 2), (hv 3)]⟩
   refine s_fieldRef F.fo_50_2 (by decide) rfl k
  ·intro K rest fr hv htk k
   show AWops _ x _ _ K ⟨31, (upd 31 (upd 31 fr 24 (D.one (C.ref 0 2))) 22 (sc (.int .i64 (IntKind.i64.wrap (p0.used + (IntKind.i64.wrap ((a2.b.length : Int) - ((((mget a1 p0.files).getD ((⟨([] : List Int), 0⟩ : vdisk_file) : vdisk_file)).b).length : Int)))))))), [(some (AObj.cells false [(C.mp 3), (C.p true (.v (.int .i64 p0.room))), (C.p true (.v (.int .i64 p0.used))), (C.p true (.v (.pointer none))), (C.p true (.v (.bool p0.dead)))])), (hv 1), (hv 2), (hv 3)]⟩
   refine s_store (cs' := [(C.mp 3), (C.p true (.v (.int .i64 p0.room))), (C.p true (.v (.int .i64 (IntKind.i64.wrap (p0.used + (IntKind.i64.wrap ((a2.b.length : Int) - ((((mget a1 p0.files).getD ((⟨([] : List Int), 0⟩ : vdisk_file) : vdisk_file)).b).length : Int)))))))), (C.p true (.v (.pointer none))), (C.p true (.v (.bool p0.dead)))]) rfl rfl rfl (List.cons_ne_nil _ _) rfl F.sz_3 (nl rfl) rfl k
 ·refine AWops.weak (st' := ⟨31, (upd 31 (upd 31 (upd 31 topF 0 (D.one (C.ref 0 0))) 1 (sc (.string a1))) 5 (D.one (C.ref 2 0))), [(some (AObj.cells false [(C.mp 3), (C.p true (.v (.int .i64 p0.room))), (C.p true (.v (.int .i64 (IntKind.i64.wrap (p0.used + (IntKind.i64.wrap ((a2.b.length : Int) - ((((mget a1 p0.files).getD ((⟨([] : List Int), 0⟩ : vdisk_file) : vdisk_file)).b).length : Int)))))))), (C.p true (.v (.pointer none))), (C.p true (.v (.bool p0.dead)))])), none, (some (AObj.cells true (c_vdisk_file a2))), (some (AObj.map false (mapE true e_vdisk_file p0.files)))]⟩) (Weak.gen (kk := 2) [0, 1, 2, 3] [] hx rfl (by decide) (by decide) rfl rfl rfl (le_upd (le_upd (le_upd (le_top _) (.t (.one (.ref rfl)))) (.t (.one .sc))) (.t (.one (.ref rfl)))) (ac (.cells (fun h => h) (ac (.mp rfl) (ac .sc (ac .sc (ac .sc (ac .sc an)))))) (ac (.none _) (ac (.cells (fun h => h) (ac .same (ac .sc an))) (ac .map an))))) (AWops.nil ?_)
  refine AW.weak (st' := ⟨31, (upd 31 (upd 31 (upd 31 topF 0 (D.one (C.ref 0 0))) 1 (sc (.string a1))) 5 (D.one (C.ref 2 0))), [(some (AObj.cells false [(C.mp 3), (C.p true (.v (.int .i64 p0.room))), (C.p true (.v (.int .i64 (IntKind.i64.wrap (p0.used + (IntKind.i64.wrap ((a2.b.length : Int) - ((((mget a1 p0.files).getD ((⟨([] : List Int), 0⟩ : vdisk_file) : vdisk_file)).b).length : Int)))))))), (C.p true (.v (.pointer none))), (C.p true (.v (.bool p0.dead)))])), none, (some (AObj.cells true (c_vdisk_file a2))), (some (AObj.map false (mapE true e_vdisk_file p0.files)))]⟩) (Weak.gen (kk := 2) [0, 1, 2, 3] [] hx rfl (by decide) (by decide) rfl rfl rfl (le_upd (le_upd (le_upd (le_top _) (.t (.one (.ref rfl)))) (.t (.one .sc))) (.t (.one (.ref rfl)))) (ac (.cells (fun h => h) (ac (.mp rfl) (ac .sc (ac .sc (ac .sc (ac .sc an)))))) (ac (.none _) (ac (.cells (fun h => h) (ac .same (ac .sc an))) (ac .map an))))) ?_
  refine AW.draw (n := 31) (L := 4) [(0, ⟨some 25, (D.one (C.ref 0 0)), [(0, (D.one (C.ref 0 0)))], [], [], none⟩), (1, ⟨some 26, (D.one (C.ref 0 0)), [(25, (D.one (C.ref 0 0)))], [], [], none⟩), (2, ⟨some 27, (D.one (C.ref 0 0)), [(26, (D.one (C.ref 0 0)))], [], [], none⟩), (3, ⟨some 28, (D.one (C.mp 3)), [(27, (D.one (C.ref 0 0)))], [(0, (some (AObj.cells false [(C.mp 3), (C.p true (.v (.int .i64 p0.room))), (C.p true (.v (.int .i64 (IntKind.i64.wrap (p0.used + (IntKind.i64.wrap ((a2.b.length : Int) - ((((mget a1 p0.files).getD ((⟨([] : List Int), 0⟩ : vdisk_file) : vdisk_file)).b).length : Int)))))))), (C.p true (.v (.pointer none))), (C.p true (.v (.bool p0.dead)))])))], [], none⟩), (4, ⟨some 29, (sc (.string a1)), [(1, (sc (.string a1)))], [], [], none⟩), (5, ⟨some 30, (D.agg (c_vdisk_file a2)), [(5, (D.one (C.ref 2 0)))], [(2, (some (AObj.cells true (c_vdisk_file a2))))], [], none⟩), (6, ⟨none, (D.one C.top), [(28, (D.one (C.mp 3))), (29, (sc (.string a1))), (30, (D.agg (c_vdisk_file a2)))], [(3, (some (AObj.map false (mapE true e_vdisk_file p0.files))))], [(3, (some (AObj.map false (mapE true e_vdisk_file (mset a1 a2 p0.files)))))], none⟩)] [[], [0], [0, 1], [0, 1, 2], [], [], [0, 1, 2, 3, 4, 5]] (nl rfl) [0, 1, 2, 3, 0, 0, 4] rfl (TK := []) rfl AllK.nil' (fC ⟨(sC rfl AllS.nil'), AllH.nil'⟩ (fC ⟨(sC rfl AllS.nil'), AllH.nil'⟩ (fC ⟨(sC rfl AllS.nil'), AllH.nil'⟩ (fC ⟨(sC rfl AllS.nil'), (hC rfl AllH.nil')⟩ (fC ⟨(sC rfl AllS.nil'), AllH.nil'⟩ (fC ⟨(sC rfl AllS.nil'), (hC rfl AllH.nil')⟩ (fC ⟨(sC rfl (sC rfl (sC rfl AllS.nil'))), (hC rfl AllH.nil')⟩ AllF.nil'))))))) ?_ ?_
  ·refine (pC ?_ (pC ?_ (pC ?_ (pC ?_ (pC ?_ (pC ?_ (pC ?_ AllStep.nil')))))))
   ·intro K rest fr hv htk k
    show AWops _ x _ _ K ⟨31, (upd 31 fr 0 (D.one (C.ref 0 0))), _⟩
    refine s_move (d := (D.one (C.ref 0 0))) rfl k
   ·intro K rest fr hv htk k
    show AWops _ x _ _ K ⟨31, (upd 31 fr 25 (D.one (C.ref 0 0))), [(hv 0), (hv 1), (hv 2), (hv 3)]⟩
    refine s_nilCheck (d := (D.one (C.ref 0 0))) rfl (.inl ⟨_, _, rfl⟩) k
   ·intro K rest fr hv htk k
    show AWops _ x _ _ K ⟨31, (upd 31 fr 26 (D.one (C.ref 0 0))), [(hv 0), (hv 1), (hv 2), (hv 3)]⟩
    refine s_fieldRef F.fo_50_0 (by decide) rfl k
   ·intro K rest fr hv htk k
    show AWops _ x _ _ K ⟨31, (upd 31 fr 27 (D.one (C.ref 0 0))), [(some (AObj.cells false [(C.mp 3), (C.p true (.v (.int .i64 p0.room))), (C.p true (.v (.int .i64 (IntKind.i64.wrap (p0.used + (IntKind.i64.wrap ((a2.b.length : Int) - ((((mget a1 p0.files).getD ((⟨([] : List Int), 0⟩ : vdisk_file) : vdisk_file)).b).length : Int)))))))), (C.p true (.v (.pointer none))), (C.p true (.v (.bool p0.dead)))])), (hv 1), (hv 2), (hv 3)]⟩
    refine s_load1 (c' := (C.mp 3)) F.ag_47 rfl rfl k
   ·intro K rest fr hv htk k
    show AWops _ x _ _ K ⟨31, (upd 31 fr 1 (sc (.string a1))), _⟩
    refine s_move (d := (sc (.string a1))) rfl k
   ·intro K rest fr hv htk k
    show AWops _ x _ _ K ⟨31, (upd 31 fr 5 (D.one (C.ref 2 0))), [(hv 0), (hv 1), (some (AObj.cells true (c_vdisk_file a2))), (hv 3)]⟩
    refine s_loadN (ds := (c_vdisk_file a2)) F.ag_65 F.sz_65 rfl rfl rfl k
   ·intro K rest fr hv htk k
    show AWops _ x _ _ K ⟨31, (upd 31 (upd 31 (upd 31 fr 30 (D.agg (c_vdisk_file a2))) 29 (sc (.string a1))) 28 (D.one (C.mp 3))), [(hv 0), (hv 1), (hv 2), (some (AObj.map false (mapE true e_vdisk_file p0.files)))]⟩
    refine t_mapSet (b := true) (u := a2) F.u_47 F.u_9 (fun h => by cases h) rfl rfl rfl rfl rfl k
  ·refine AWops.weak (st' := ⟨31, topF, [(some (AObj.cells false [(C.mp 2), (C.p true (.v (.int .i64 p0.room))), (C.p true (.v (.int .i64 (IntKind.i64.wrap (p0.used + (IntKind.i64.wrap ((a2.b.length : Int) - ((((mget a1 p0.files).getD ((⟨([] : List Int), 0⟩ : vdisk_file) : vdisk_file)).b).length : Int)))))))), (C.p true (.v (.pointer none))), (C.p true (.v (.bool p0.dead)))])), none, (some (AObj.map false (mapE true e_vdisk_file (mset a1 a2 p0.files))))]⟩) (Weak.gen (kk := 2) [0, 1, 3] [] hx rfl (by decide) (by decide) rfl rfl rfl (le_top _) (ac (.cells (fun h => h) (ac (.mp rfl) (ac .sc (ac .sc (ac .sc (ac .sc an)))))) (ac (.none _) (ac .map an)))) (AWops.nil ?_)
   obtain rfl := Option.some.inj h
   exact ⟨_, rfl, (Weak.gen (kk := 2) [0, 1, 2] [] rfl rfl (by decide) (by decide) rfl rfl rfl (le_upd (le_top _) (DLe.tup an)) (ac (.cells (fun h => h) (ac (.mp rfl) (ac .sc (ac .sc (ac .sc (ac .sc an)))))) (ac (.none _) (ac .map an))))⟩
def vdisk_Disk_Append.f (k : Nat) (p0 : vdisk_Disk) (a1 : ByteArray) (a2 : List Int) : Option (Int × vdisk_Disk) := (vdisk_named.f k a1).bind fun r1 => (vdisk_Disk_change.f k p0 r1 a1 true (a2.length : Int)).bind fun r2 => if (r2.1 == 0) = true then ((slices_Concat_byte_byte.f k ([((mget a1 r2.2.files).getD ((⟨([] : List Int), 0⟩ : vdisk_file) : vdisk_file)).b, a2] : List (List Int))).bind fun r4 => (vdisk_Disk_set.f k r2.2 a1 (⟨r4, ((mget a1 r2.2.files).getD ((⟨([] : List Int), 0⟩ : vdisk_file) : vdisk_file)).sure⟩ : vdisk_file)).bind fun r5 => some (r2.1, r5)) else (some (r2.1, r2.2))
theorem vdisk_Disk_Append.meets (k : Nat) (p0 : vdisk_Disk) (a1 : ByteArray) (a2 : List Int) (r : Int × vdisk_Disk) (h : vdisk_Disk_Append.f k p0 a1 a2 = some r) : Meets Try.prog 9 [(D.one (C.ref 0 0)), (sc (.string a1)), (D.one (C.p false (.sl a2.length (a2.flatMap e_u8))))] [(some (AObj.cells false [(C.mp 1), (C.p true (.v (.int .i64 p0.room))), (C.p true (.v (.int .i64 p0.used))), (C.p true (.v (.pointer none))), (C.p true (.v (.bool p0.dead)))])), (some (AObj.map false (mapE true e_vdisk_file p0.files)))] (sc (.int .i64 r.1)) [(some (AObj.cells false [(C.mp 2), (C.p true (.v (.int .i64 r.2.room))), (C.p true (.v (.int .i64 r.2.used))), (C.p true (.v (.pointer none))), (C.p true (.v (.bool r.2.dead)))])), none, (some (AObj.map false (mapE true e_vdisk_file r.2.files)))] := by
 unfold vdisk_Disk_Append.f at h
 refine Meets.of_body (n := 36) Try.func9 rfl rfl (nl rfl) fun x hx => ?_
 replace hx : x.k = 2 := hx
 show AW _ x _ _ ⟨36, fr0 [(D.one (C.ref 0 0)), (sc (.string a1)), (D.one (C.p false (.sl a2.length (a2.flatMap e_u8))))], [(some (AObj.cells false [(C.mp 1), (C.p true (.v (.int .i64 p0.room))), (C.p true (.v (.int .i64 p0.used))), (C.p true (.v (.pointer none))), (C.p true (.v (.bool p0.dead)))])), (some (AObj.map false (mapE true e_vdisk_file p0.files)))]⟩
 refine AW.weak (st' := ⟨36, (upd 36 (upd 36 (upd 36 topF 0 (D.one (C.ref 0 0))) 1 (sc (.string a1))) 2 (D.one (C.p false (.sl a2.length (a2.flatMap e_u8))))), [(some (AObj.cells false [(C.mp 2), (C.p true (.v (.int .i64 p0.room))), (C.p true (.v (.int .i64 p0.used))), (C.p true (.v (.pointer none))), (C.p true (.v (.bool p0.dead)))])), none, (some (AObj.map false (mapE true e_vdisk_file p0.files)))]⟩) (Weak.genL (kk := 2) [0, 1, 1] [] hx rfl (by decide) rfl rfl rfl rfl (le_upd (le_upd (le_upd (le_top _) (.t (.one (.ref rfl)))) (.t (.one .sc))) (.t (.one .same))) (ac (.cells (fun h => h) (ac (.mp rfl) (ac .sc (ac .sc (ac .sc (ac .sc an)))))) (ac (.none _) (ac .map an)))) (AW.seq (AW.region ?_))
 refine s_assign (d := (sc (.int .i64 0))) rfl (AWops.nil (AW.seq (AW.region ?_)))
 refine s_move (d := (D.one (C.ref 0 0))) rfl ?_
 refine s_move (d := (sc (.string a1))) rfl ?_
 obtain ⟨r1, er1, h⟩ := bnd h
 refine s_call2 (ρ := []) (br := false) (H2 := [(some (AObj.cells false [(C.mp 2), (C.p true (.v (.int .i64 p0.room))), (C.p true (.v (.int .i64 p0.used))), (C.p true (.v (.pointer none))), (C.p true (.v (.bool p0.dead)))])), none, (some (AObj.map false (mapE true e_vdisk_file p0.files)))]) (d := (sc (.bool r1))) F.ca_32 rfl rfl (ac (.one .sc) an) an (by decide) rfl (vdisk_named.meets _ a1 r1 er1) (.inl rfl) rfl rfl ?_
 refine s_move (d := (sc (.string a1))) rfl ?_
 refine s_move (d := (D.one (C.p false (.sl a2.length (a2.flatMap e_u8))))) rfl ?_
 refine s_len (n := a2.length) F.u_22 rfl (.inr ⟨(fun _ _ h => by cases h), ⟨_, rfl⟩⟩) ?_
 obtain ⟨r2, er2, h⟩ := bnd h
 refine s_call2 (ρ := [0, 2]) (br := false) (H2 := [(some (AObj.cells false [(C.mp 3), (C.p true (.v (.int .i64 r2.2.room))), (C.p true (.v (.int .i64 r2.2.used))), (C.p true (.v (.pointer none))), (C.p true (.v (.bool r2.2.dead)))])), none, none, (some (AObj.map false (mapE true e_vdisk_file r2.2.files)))]) (d := (sc (.int .i64 r2.1))) F.ca_31 rfl rfl (ac (.one (.ref rfl)) (ac (.one .sc) (ac (.one .sc) (ac (.one .sc) (ac (.one .sc) an))))) (ac (.cells (ac (.mp rfl) (ac .sc (ac .sc (ac .sc (ac .sc an)))))) (ac .map an)) (by decide) rfl (vdisk_Disk_change.meets _ p0 r1 a1 true (a2.length : Int) r2 er2) (.inl rfl) rfl rfl ?_
 refine s_assign (d := (sc (.int .i64 r2.1))) rfl (AWops.nil (AW.seq (AW.seq (AW.region ?_))))
 refine s_move (d := (sc (.int .i64 r2.1))) rfl ?_
 refine s_binI (v := (.bool (r2.1 == 0))) rfl rfl rfl (AWops.nil ?_)
 rcases itH h with ⟨c3, h⟩ | ⟨c3, h⟩
 ·refine AW.cond_yes rfl c3 (AW.seq (AW.region ?_))
  refine s_move (d := (D.one (C.ref 0 0))) rfl ?_
  refine s_nilCheck (d := (D.one (C.ref 0 0))) rfl (.inl ⟨_, _, rfl⟩) ?_
  refine s_fieldRef F.fo_50_0 (by decide) rfl ?_
  refine s_load1 (c' := (C.mp 3)) F.ag_47 rfl rfl ?_
  refine s_move (d := (sc (.string a1))) rfl ?_
  refine t_lookup (b := true) F.u_47 F.u_9 F.z_65 (z := ((⟨([] : List Int), 0⟩ : vdisk_file) : vdisk_file)) (zs := [(.slice none 0 0), (.int .i64 0)]) rfl (fun h => by cases h) (ac ZRel.n (ac (ZRel.v _ rfl) an)) rfl rfl rfl rfl ?_
  refine s_alloc (cs := [(C.p true (.v (.slice none 0 0))), (C.p true (.v (.int .i64 0)))]) F.z_65 rfl rfl ?_
  refine s_store (cs' := (c_vdisk_file ((mget a1 r2.2.files).getD ((⟨([] : List Int), 0⟩ : vdisk_file) : vdisk_file)))) rfl rfl rfl (List.cons_ne_nil _ _) rfl F.sz_65 (nl rfl) rfl (AWops.nil ?_)
  refine AW.weak (st' := ⟨36, (upd 36 (upd 36 (upd 36 (upd 36 (upd 36 topF 0 (D.one (C.ref 0 0))) 1 (sc (.string a1))) 2 (D.one (C.p false (.sl a2.length (a2.flatMap e_u8))))) 7 (sc (.int .i64 r2.1))) 8 (D.one (C.ref 2 0))), [(some (AObj.cells false [(C.mp 3), (C.p true (.v (.int .i64 r2.2.room))), (C.p true (.v (.int .i64 r2.2.used))), (C.p true (.v (.pointer none))), (C.p true (.v (.bool r2.2.dead)))])), none, (some (AObj.cells true (c_vdisk_file ((mget a1 r2.2.files).getD ((⟨([] : List Int), 0⟩ : vdisk_file) : vdisk_file))))), (some (AObj.map false (mapE true e_vdisk_file r2.2.files)))]⟩) (Weak.gen (kk := 2) [0, 1, 4, 3] [] hx rfl (by decide) (by decide) rfl rfl rfl (le_upd (le_upd (le_upd (le_upd (le_upd (le_top _) (.t (.one (.ref rfl)))) (.t (.one .sc))) (.t (.one .same))) (.t (.one .sc))) (.t (.one (.ref rfl)))) (ac (.cells (fun h => h) (ac (.mp rfl) (ac .sc (ac .sc (ac .sc (ac .sc an)))))) (ac (.none _) (ac (.cells (fun h => h) (ac .same (ac .sc an))) (ac .map an))))) ?_
  obtain ⟨r4, er4, h⟩ := bnd h
  obtain ⟨r5, er5, h⟩ := bnd h
  refine AW.draw (n := 36) (L := 7) [(0, ⟨some 24, (D.one (C.ref 0 0)), [(0, (D.one (C.ref 0 0)))], [], [], none⟩), (1, ⟨some 25, (sc (.string a1)), [(1, (sc (.string a1)))], [], [], none⟩), (2, ⟨some 26, (D.one (C.ref 2 0)), [(8, (D.one (C.ref 2 0)))], [], [], none⟩), (3, ⟨some 27, (D.one (C.p false (.sl (((mget a1 r2.2.files).getD ((⟨([] : List Int), 0⟩ : vdisk_file) : vdisk_file)).b).length ((((mget a1 r2.2.files).getD ((⟨([] : List Int), 0⟩ : vdisk_file) : vdisk_file)).b).flatMap e_u8)))), [(26, (D.one (C.ref 2 0)))], [(2, (some (AObj.cells true (c_vdisk_file ((mget a1 r2.2.files).getD ((⟨([] : List Int), 0⟩ : vdisk_file) : vdisk_file))))))], [], none⟩), (4, ⟨some 28, (D.one (C.p false (.sl a2.length (a2.flatMap e_u8)))), [(2, (D.one (C.p false (.sl a2.length (a2.flatMap e_u8)))))], [], [], none⟩), (5, ⟨some 29, (D.one (C.own 4 0 (([((mget a1 r2.2.files).getD ((⟨([] : List Int), 0⟩ : vdisk_file) : vdisk_file)).b, a2] : List (List Int)).length) 1)), [(27, (D.one (C.p false (.sl (((mget a1 r2.2.files).getD ((⟨([] : List Int), 0⟩ : vdisk_file) : vdisk_file)).b).length ((((mget a1 r2.2.files).getD ((⟨([] : List Int), 0⟩ : vdisk_file) : vdisk_file)).b).flatMap e_u8))))), (28, (D.one (C.p false (.sl a2.length (a2.flatMap e_u8)))))], [], [(4, (some (AObj.cells true (rowC (e_sl e_u8) ([((mget a1 r2.2.files).getD ((⟨([] : List Int), 0⟩ : vdisk_file) : vdisk_file)).b, a2] : List (List Int))))))], some 4⟩), (6, ⟨some 30, (D.one (C.p false (.sl r4.length (r4.flatMap e_u8)))), [(29, (D.one (C.own 4 0 (([((mget a1 r2.2.files).getD ((⟨([] : List Int), 0⟩ : vdisk_file) : vdisk_file)).b, a2] : List (List Int)).length) 1)))], [(4, (some (AObj.cells true (rowC (e_sl e_u8) ([((mget a1 r2.2.files).getD ((⟨([] : List Int), 0⟩ : vdisk_file) : vdisk_file)).b, a2] : List (List Int))))))], [], some 5⟩), (7, ⟨some 31, (D.one (C.ref 2 1)), [(8, (D.one (C.ref 2 0)))], [], [], none⟩), (8, ⟨some 32, (sc (.int .i64 (((mget a1 r2.2.files).getD ((⟨([] : List Int), 0⟩ : vdisk_file) : vdisk_file)).sure))), [(31, (D.one (C.ref 2 1)))], [(2, (some (AObj.cells true (c_vdisk_file ((mget a1 r2.2.files).getD ((⟨([] : List Int), 0⟩ : vdisk_file) : vdisk_file))))))], [], none⟩), (9, ⟨some 33, (D.agg [(C.p false (.sl r4.length (r4.flatMap e_u8))), (C.p true (.v (.int .i64 (((mget a1 r2.2.files).getD ((⟨([] : List Int), 0⟩ : vdisk_file) : vdisk_file)).sure))))]), [(30, (D.one (C.p false (.sl r4.length (r4.flatMap e_u8))))), (32, (sc (.int .i64 (((mget a1 r2.2.files).getD ((⟨([] : List Int), 0⟩ : vdisk_file) : vdisk_file)).sure))))], [], [], none⟩), (10, ⟨some 34, (D.tup []), [(24, (D.one (C.ref 0 0))), (25, (sc (.string a1))), (33, (D.agg [(C.p false (.sl r4.length (r4.flatMap e_u8))), (C.p true (.v (.int .i64 (((mget a1 r2.2.files).getD ((⟨([] : List Int), 0⟩ : vdisk_file) : vdisk_file)).sure))))]))], [(0, (some (AObj.cells false [(C.mp 3), (C.p true (.v (.int .i64 r2.2.room))), (C.p true (.v (.int .i64 r2.2.used))), (C.p true (.v (.pointer none))), (C.p true (.v (.bool r2.2.dead)))]))), (3, (some (AObj.map false (mapE true e_vdisk_file r2.2.files))))], [(0, (some (AObj.cells false [(C.mp 6), (C.p true (.v (.int .i64 r5.room))), (C.p true (.v (.int .i64 r5.used))), (C.p true (.v (.pointer none))), (C.p true (.v (.bool r5.dead)))]))), (3, none), (6, (some (AObj.map false (mapE true e_vdisk_file r5.files))))], some 6⟩)] [[], [], [], [2], [], [2, 3, 4], [2, 3, 4, 5], [], [7], [2, 3, 4, 5, 6, 7, 8], [0, 1, 2, 3, 4, 5, 6, 7, 8, 9]] (nl rfl) [0, 0, 0, 1, 0, 2, 3, 0, 1, 4, 5] rfl (TK := [(5, 4), (6, 5), (10, 6)]) rfl (AllK.cons' ⟨(tk_upd (tk_upd (tk_upd (tk_upd (tk_upd tk_top rfl) rfl) rfl) rfl) rfl), (tC rfl (tC rfl (tC rfl (tC rfl AllT.nil')))), (fC (.inr rfl) (fC (.inr rfl) (fC (.inr rfl) (fC (.inr rfl) (fC (.inr rfl) (fC (.inl rfl) (fC (.inl rfl) (fC (.inr rfl) (fC (.inr rfl) (fC (.inl rfl) (fC (.inl rfl) AllF.nil')))))))))))⟩ (AllK.cons' ⟨(tk_upd (tk_upd (tk_upd (tk_upd (tk_upd tk_top rfl) rfl) rfl) rfl) rfl), (tC rfl (tC rfl (tC rfl (tC rfl AllT.nil')))), (fC (.inr rfl) (fC (.inr rfl) (fC (.inr rfl) (fC (.inr rfl) (fC (.inr rfl) (fC (.inr (by unfold tkFoot; simp only [List.all_cons, List.all_nil, tkO_row, Bool.and_true, Bool.true_and]; rfl)) (fC (.inl rfl) (fC (.inr rfl) (fC (.inr rfl) (fC (.inl rfl) (fC (.inl rfl) AllF.nil')))))))))))⟩ (AllK.cons' ⟨(tk_upd (tk_upd (tk_upd (tk_upd (tk_upd tk_top rfl) rfl) rfl) rfl) rfl), (tC rfl (tC rfl (tC rfl (tC rfl AllT.nil')))), (fC (.inr rfl) (fC (.inr rfl) (fC (.inr rfl) (fC (.inr rfl) (fC (.inr rfl) (fC (.inr (by unfold tkFoot; simp only [List.all_cons, List.all_nil, tkO_row, Bool.and_true, Bool.true_and]; rfl)) (fC (.inr rfl) (fC (.inr rfl) (fC (.inr rfl) (fC (.inr rfl) (fC (.inl rfl) AllF.nil')))))))))))⟩ AllK.nil'))) (fC ⟨(sC rfl AllS.nil'), AllH.nil'⟩ (fC ⟨(sC rfl AllS.nil'), AllH.nil'⟩ (fC ⟨(sC rfl AllS.nil'), AllH.nil'⟩ (fC ⟨(sC rfl AllS.nil'), (hC rfl AllH.nil')⟩ (fC ⟨(sC rfl AllS.nil'), AllH.nil'⟩ (fC ⟨(sC rfl (sC rfl AllS.nil')), AllH.nil'⟩ (fC ⟨(sC rfl AllS.nil'), (hC rfl AllH.nil')⟩ (fC ⟨(sC rfl AllS.nil'), AllH.nil'⟩ (fC ⟨(sC rfl AllS.nil'), (hC rfl AllH.nil')⟩ (fC ⟨(sC rfl (sC rfl AllS.nil')), AllH.nil'⟩ (fC ⟨(sC rfl (sC rfl (sC rfl AllS.nil'))), (hC rfl (hC rfl AllH.nil'))⟩ AllF.nil'))))))))))) ?_ ?_
  ·refine (pC ?_ (pC ?_ (pC ?_ (pC ?_ (pC ?_ (pC ?_ (pC ?_ (pC ?_ (pC ?_ (pC ?_ (pC ?_ AllStep.nil')))))))))))
   ·intro K rest fr hv htk k
    show AWops _ x _ _ K ⟨36, (upd 36 fr 0 (D.one (C.ref 0 0))), _⟩
    refine s_move (d := (D.one (C.ref 0 0))) rfl k
   ·intro K rest fr hv htk k
    show AWops _ x _ _ K ⟨36, (upd 36 fr 1 (sc (.string a1))), _⟩
    refine s_move (d := (sc (.string a1))) rfl k
   ·intro K rest fr hv htk k
    show AWops _ x _ _ K ⟨36, (upd 36 fr 8 (D.one (C.ref 2 0))), [(hv 0), (hv 1), (hv 2), (hv 3), (hv 4), (hv 5), (hv 6)]⟩
    refine s_fieldRef F.fo_65_0 (by decide) rfl k
   ·intro K rest fr hv htk k
    show AWops _ x _ _ K ⟨36, (upd 36 fr 26 (D.one (C.ref 2 0))), [(hv 0), (hv 1), (some (AObj.cells true (c_vdisk_file ((mget a1 r2.2.files).getD ((⟨([] : List Int), 0⟩ : vdisk_file) : vdisk_file))))), (hv 3), (hv 4), (hv 5), (hv 6)]⟩
    refine s_load1 (c' := (C.p false (.sl (((mget a1 r2.2.files).getD ((⟨([] : List Int), 0⟩ : vdisk_file) : vdisk_file)).b).length ((((mget a1 r2.2.files).getD ((⟨([] : List Int), 0⟩ : vdisk_file) : vdisk_file)).b).flatMap e_u8)))) F.ag_22 rfl rfl k
   ·intro K rest fr hv htk k
    show AWops _ x _ _ K ⟨36, (upd 36 fr 2 (D.one (C.p false (.sl a2.length (a2.flatMap e_u8))))), _⟩
    refine s_move (d := (D.one (C.p false (.sl a2.length (a2.flatMap e_u8))))) rfl k
   ·intro K rest fr hv htk k
    show AWops _ x _ _ K ⟨36, (upd 36 (upd 36 fr 28 (D.one (C.p false (.sl a2.length (a2.flatMap e_u8))))) 27 (D.one (C.p false (.sl (((mget a1 r2.2.files).getD ((⟨([] : List Int), 0⟩ : vdisk_file) : vdisk_file)).b).length ((((mget a1 r2.2.files).getD ((⟨([] : List Int), 0⟩ : vdisk_file) : vdisk_file)).b).flatMap e_u8))))), [(hv 0), (hv 1), (hv 2), (hv 3), (hv 4), (hv 5), (hv 6)]⟩
    refine s_buildSlice (n := 2) (ps := [(0, (D.one (C.p false (.sl (((mget a1 r2.2.files).getD ((⟨([] : List Int), 0⟩ : vdisk_file) : vdisk_file)).b).length ((((mget a1 r2.2.files).getD ((⟨([] : List Int), 0⟩ : vdisk_file) : vdisk_file)).b).flatMap e_u8))))), (1, (D.one (C.p false (.sl a2.length (a2.flatMap e_u8)))))]) (cs := rowC (e_sl e_u8) ([((mget a1 r2.2.files).getD ((⟨([] : List Int), 0⟩ : vdisk_file) : vdisk_file)).b, a2] : List (List Int))) F.u_23 F.sz_22 F.z_22 rfl rfl (by decide) (by decide) rfl rfl ?_
    refine AWops.weak (st' := ⟨36, (upd 36 (upd 36 (upd 36 fr 28 (D.one (C.p false (.sl a2.length (a2.flatMap e_u8))))) 27 (D.one (C.p false (.sl (((mget a1 r2.2.files).getD ((⟨([] : List Int), 0⟩ : vdisk_file) : vdisk_file)).b).length ((((mget a1 r2.2.files).getD ((⟨([] : List Int), 0⟩ : vdisk_file) : vdisk_file)).b).flatMap e_u8))))) 29 (D.one (C.own 4 0 (([((mget a1 r2.2.files).getD ((⟨([] : List Int), 0⟩ : vdisk_file) : vdisk_file)).b, a2] : List (List Int)).length) 1))), [(hv 0), (hv 1), (hv 2), (hv 3), (some (AObj.cells true (rowC (e_sl e_u8) ([((mget a1 r2.2.files).getD ((⟨([] : List Int), 0⟩ : vdisk_file) : vdisk_file)).b, a2] : List (List Int))))), (hv 5), (hv 6)]⟩) (Weak.gen (kk := 2) [0, 1, 2, 3, 7, 5, 6] [] hx rfl (by decide) (by decide) rfl rfl rfl (le_upd2 (le_ok (p := 4) (L := 7) rfl (htk 4 rfl).1) (.t (.one (.own rfl)))) (ac (ole_ok (p := 4) (L := 7) rfl ((htk 4 rfl).2 0)) (ac (ole_ok (p := 4) (L := 7) rfl ((htk 4 rfl).2 1)) (ac (ole_ok (p := 4) (L := 7) rfl ((htk 4 rfl).2 2)) (ac (ole_ok (p := 4) (L := 7) rfl ((htk 4 rfl).2 3)) (ac (.cells (fun h => h) (all2_row _)) (ac (ole_ok (p := 4) (L := 7) rfl ((htk 4 rfl).2 5)) (ac (ole_ok (p := 4) (L := 7) rfl ((htk 4 rfl).2 6)) an)))))))) k
   ·intro K rest fr hv htk k
    show AWops _ x _ _ K ⟨36, (upd 36 fr 29 (D.one (C.own 4 0 (([((mget a1 r2.2.files).getD ((⟨([] : List Int), 0⟩ : vdisk_file) : vdisk_file)).b, a2] : List (List Int)).length) 1))), [(hv 0), (hv 1), (hv 2), (hv 3), (some (AObj.cells true (rowC (e_sl e_u8) ([((mget a1 r2.2.files).getD ((⟨([] : List Int), 0⟩ : vdisk_file) : vdisk_file)).b, a2] : List (List Int))))), (hv 5), (hv 6)]⟩
    refine s_call2 (ρ := []) (br := true) (H2 := [(hv 0), (hv 1), (hv 2), (hv 3), (some (AObj.cells true (rowC (e_sl e_u8) ([((mget a1 r2.2.files).getD ((⟨([] : List Int), 0⟩ : vdisk_file) : vdisk_file)).b, a2] : List (List Int))))), (hv 5), (hv 6), (some (AObj.cells true (rowC e_u8 r4)))]) (d := (D.one (C.own 7 0 r4.length 1))) F.ca_34 rfl rfl (ac (.one (LendC.bor (e_sl_len _) rfl rfl rfl)) an) an (by decide) rfl (slices_Concat_byte_byte.meets _ ([((mget a1 r2.2.files).getD ((⟨([] : List Int), 0⟩ : vdisk_file) : vdisk_file)).b, a2] : List (List Int)) r4 er4) (.inr ⟨rfl, by simp [frH, frC, fr_row e_u8_fr]⟩) (by first | rfl | (simp only [mergeH2, orF, Bool.false_or, Bool.or_false, Bool.true_or, Bool.or_true, mergeAt, mergeObj, renO, ren_row, List.drop_succ_cons, List.drop_zero, List.map_cons, List.map_nil, Option.map_some, Option.map_none, List.length_cons, List.length_nil, Nat.zero_add, List.append_assoc, List.cons_append, List.nil_append]; done) | (simp only [mergeH2, orF, Bool.false_or, Bool.or_false, Bool.true_or, Bool.or_true, mergeAt, mergeObj, renO, ren_row, List.drop_succ_cons, List.drop_zero, List.map_cons, List.map_nil, Option.map_some, Option.map_none, List.length_cons, List.length_nil, Nat.zero_add, List.append_assoc, List.cons_append, List.nil_append]; rfl)) rfl ?_
    refine AWops.weak (st' := ⟨36, (upd 36 (upd 36 fr 29 (D.one (C.own 4 0 (([((mget a1 r2.2.files).getD ((⟨([] : List Int), 0⟩ : vdisk_file) : vdisk_file)).b, a2] : List (List Int)).length) 1))) 30 (D.one (C.p false (.sl r4.length (r4.flatMap e_u8))))), [(hv 0), (hv 1), (hv 2), (hv 3), (some (AObj.cells true (rowC (e_sl e_u8) ([((mget a1 r2.2.files).getD ((⟨([] : List Int), 0⟩ : vdisk_file) : vdisk_file)).b, a2] : List (List Int))))), (hv 5), (hv 6)]⟩) (Weak.gen (kk := 2) [0, 1, 2, 3, 4, 5, 6] [7] hx rfl (by decide) (by decide) rfl rfl rfl (le_upd2 (le_ok (p := 5) (L := 7) rfl (htk 5 rfl).1) (.t (.one (CLe.frz e_u8_len rfl rfl rfl)))) (ac (ole_ok (p := 5) (L := 7) rfl ((htk 5 rfl).2 0)) (ac (ole_ok (p := 5) (L := 7) rfl ((htk 5 rfl).2 1)) (ac (ole_ok (p := 5) (L := 7) rfl ((htk 5 rfl).2 2)) (ac (ole_ok (p := 5) (L := 7) rfl ((htk 5 rfl).2 3)) (ac (.cells (fun h => h) (all2_row _)) (ac (ole_ok (p := 5) (L := 7) rfl ((htk 5 rfl).2 5)) (ac (ole_ok (p := 5) (L := 7) rfl ((htk 5 rfl).2 6)) an)))))))) k
   ·intro K rest fr hv htk k
    show AWops _ x _ _ K ⟨36, (upd 36 fr 8 (D.one (C.ref 2 0))), [(hv 0), (hv 1), (hv 2), (hv 3), (hv 4), (hv 5), (hv 6)]⟩
    refine s_fieldRef F.fo_65_1 (by decide) rfl k
   ·intro K rest fr hv htk k
    show AWops _ x _ _ K ⟨36, (upd 36 fr 31 (D.one (C.ref 2 1))), [(hv 0), (hv 1), (some (AObj.cells true (c_vdisk_file ((mget a1 r2.2.files).getD ((⟨([] : List Int), 0⟩ : vdisk_file) : vdisk_file))))), (hv 3), (hv 4), (hv 5), (hv 6)]⟩
    refine s_load1 (c' := (C.p true (.v (.int .i64 (((mget a1 r2.2.files).getD ((⟨([] : List Int), 0⟩ : vdisk_file) : vdisk_file)).sure))))) F.ag_3 rfl rfl k
   ·intro K rest fr hv htk k
    show AWops _ x _ _ K ⟨36, (upd 36 (upd 36 fr 32 (sc (.int .i64 (((mget a1 r2.2.files).getD ((⟨([] : List Int), 0⟩ : vdisk_file) : vdisk_file)).sure)))) 30 (D.one (C.p false (.sl r4.length (r4.flatMap e_u8))))), [(hv 0), (hv 1), (hv 2), (hv 3), (hv 4), (hv 5), (hv 6)]⟩
    refine s_build (ps := [(0, (D.one (C.p false (.sl r4.length (r4.flatMap e_u8))))), (1, (sc (.int .i64 (((mget a1 r2.2.files).getD ((⟨([] : List Int), 0⟩ : vdisk_file) : vdisk_file)).sure))))]) (cs := [(C.p false (.sl r4.length (r4.flatMap e_u8))), (C.p true (.v (.int .i64 (((mget a1 r2.2.files).getD ((⟨([] : List Int), 0⟩ : vdisk_file) : vdisk_file)).sure))))]) F.z_65 rfl F.so_65 rfl rfl k
   ·intro K rest fr hv htk k
    show AWops _ x _ _ K ⟨36, (upd 36 (upd 36 (upd 36 fr 33 (D.agg [(C.p false (.sl r4.length (r4.flatMap e_u8))), (C.p true (.v (.int .i64 (((mget a1 r2.2.files).getD ((⟨([] : List Int), 0⟩ : vdisk_file) : vdisk_file)).sure))))])) 25 (sc (.string a1))) 24 (D.one (C.ref 0 0))), [(some (AObj.cells false [(C.mp 3), (C.p true (.v (.int .i64 r2.2.room))), (C.p true (.v (.int .i64 r2.2.used))), (C.p true (.v (.pointer none))), (C.p true (.v (.bool r2.2.dead)))])), (hv 1), (hv 2), (some (AObj.map false (mapE true e_vdisk_file r2.2.files))), (hv 4), (hv 5), (hv 6)]⟩
    refine s_call2 (ρ := [0, 3]) (br := false) (H2 := [(some (AObj.cells false [(C.mp 7), (C.p true (.v (.int .i64 r5.room))), (C.p true (.v (.int .i64 r5.used))), (C.p true (.v (.pointer none))), (C.p true (.v (.bool r5.dead)))])), (hv 1), (hv 2), none, (hv 4), (hv 5), (hv 6), (some (AObj.map false (mapE true e_vdisk_file r5.files)))]) (d := (D.tup [])) F.ca_33 rfl rfl (ac (.one (.ref rfl)) (ac (.one .sc) (ac (LendT.aggL (ac .imm (ac .sc an))) an))) (ac (.cells (ac (.mp rfl) (ac .sc (ac .sc (ac .sc (ac .sc an)))))) (ac .map an)) (by decide) rfl (vdisk_Disk_set.meets _ r2.2 a1 (⟨r4, ((mget a1 r2.2.files).getD ((⟨([] : List Int), 0⟩ : vdisk_file) : vdisk_file)).sure⟩ : vdisk_file) r5 er5) (.inl rfl) rfl rfl ?_
    refine AWops.weak (st' := ⟨36, (upd 36 (upd 36 (upd 36 (upd 36 fr 33 (D.agg [(C.p false (.sl r4.length (r4.flatMap e_u8))), (C.p true (.v (.int .i64 (((mget a1 r2.2.files).getD ((⟨([] : List Int), 0⟩ : vdisk_file) : vdisk_file)).sure))))])) 25 (sc (.string a1))) 24 (D.one (C.ref 0 0))) 34 (D.tup [])), [(some (AObj.cells false [(C.mp 6), (C.p true (.v (.int .i64 r5.room))), (C.p true (.v (.int .i64 r5.used))), (C.p true (.v (.pointer none))), (C.p true (.v (.bool r5.dead)))])), (hv 1), (hv 2), none, (hv 4), (hv 5), (some (AObj.map false (mapE true e_vdisk_file r5.files)))]⟩) (Weak.gen (kk := 2) [0, 1, 2, 3, 4, 5, 7] [] hx rfl (by decide) (by decide) rfl rfl rfl (le_upd2 (le_ok (p := 6) (L := 7) rfl (htk 6 rfl).1) (DLe.tup an)) (ac (.cells (fun h => h) (ac (.mp rfl) (ac .sc (ac .sc (ac .sc (ac .sc an)))))) (ac (ole_ok (p := 6) (L := 7) rfl ((htk 6 rfl).2 1)) (ac (ole_ok (p := 6) (L := 7) rfl ((htk 6 rfl).2 2)) (ac (.none _) (ac (ole_ok (p := 6) (L := 7) rfl ((htk 6 rfl).2 4)) (ac (ole_ok (p := 6) (L := 7) rfl ((htk 6 rfl).2 5)) (ac .map an)))))))) k
  ·refine AWops.weak (st' := ⟨36, (upd 36 topF 7 (sc (.int .i64 r2.1))), [(some (AObj.cells false [(C.mp 2), (C.p true (.v (.int .i64 r5.room))), (C.p true (.v (.int .i64 r5.used))), (C.p true (.v (.pointer none))), (C.p true (.v (.bool r5.dead)))])), none, (some (AObj.map false (mapE true e_vdisk_file r5.files)))]⟩) (Weak.gen (kk := 2) [0, 1, 6] [] hx rfl (by decide) (by decide) rfl rfl rfl (le_upd (le_top _) (.t (.one .sc))) (ac (.cells (fun h => h) (ac (.mp rfl) (ac .sc (ac .sc (ac .sc (ac .sc an)))))) (ac (.none _) (ac .map an)))) (AWops.nil (AW.seq (AW.region ?_)))
   refine s_move (d := (sc (.int .i64 r2.1))) rfl ?_
   refine s_assign (d := (sc (.int .i64 r2.1))) rfl (AWops.nil (AW.ret ?_))
   obtain rfl := Option.some.inj h
   exact ⟨_, rfl, (Weak.gen (kk := 2) [0, 1, 2] [] rfl rfl (by decide) (by decide) rfl rfl rfl (le_upd (le_top _) (.t (.one .sc))) (ac (.cells (fun h => h) (ac (.mp rfl) (ac .sc (ac .sc (ac .sc (ac .sc an)))))) (ac (.none _) (ac .map an))))⟩
 ·refine AW.cond_no rfl c3 (AW.skip (AW.seq (AW.region ?_)))
  refine s_move (d := (sc (.int .i64 r2.1))) rfl ?_
  refine s_assign (d := (sc (.int .i64 r2.1))) rfl (AWops.nil (AW.ret ?_))
  obtain rfl := Option.some.inj h
  exact ⟨_, rfl, (Weak.gen (kk := 2) [0, 1, 3] [] rfl rfl (by decide) (by decide) rfl rfl rfl (le_upd (le_top _) (.t (.one .sc))) (ac (.cells (fun h => h) (ac (.mp rfl) (ac .sc (ac .sc (ac .sc (ac .sc an)))))) (ac (.none _) (ac .map an))))⟩
def vdisk_Disk_Sync.f (k : Nat) (p0 : vdisk_Disk) (a1 : ByteArray) : Option (Int × vdisk_Disk) := (vdisk_Disk_change.f k p0 true a1 false 0).bind fun r1 => if (r1.1 == 0) = true then ((vdisk_Disk_set.f k r1.2 a1 (⟨((mget a1 r1.2.files).getD ((⟨([] : List Int), 0⟩ : vdisk_file) : vdisk_file)).b, ((((mget a1 r1.2.files).getD ((⟨([] : List Int), 0⟩ : vdisk_file) : vdisk_file)).b).length : Int)⟩ : vdisk_file)).bind fun r3 => some (r1.1, r3)) else (some (r1.1, r1.2))
theorem vdisk_Disk_Sync.meets (k : Nat) (p0 : vdisk_Disk) (a1 : ByteArray) (r : Int × vdisk_Disk) (h : vdisk_Disk_Sync.f k p0 a1 = some r) : Meets Try.prog 10 [(D.one (C.ref 0 0)), (sc (.string a1))] [(some (AObj.cells false [(C.mp 1), (C.p true (.v (.int .i64 p0.room))), (C.p true (.v (.int .i64 p0.used))), (C.p true (.v (.pointer none))), (C.p true (.v (.bool p0.dead)))])), (some (AObj.map false (mapE true e_vdisk_file p0.files)))] (sc (.int .i64 r.1)) [(some (AObj.cells false [(C.mp 2), (C.p true (.v (.int .i64 r.2.room))), (C.p true (.v (.int .i64 r.2.used))), (C.p true (.v (.pointer none))), (C.p true (.v (.bool r.2.dead)))])), none, (some (AObj.map false (mapE true e_vdisk_file r.2.files)))] := by
 unfold vdisk_Disk_Sync.f at h
 refine Meets.of_body (n := 27) Try.func10 rfl rfl (nl rfl) fun x hx => ?_
 replace hx : x.k = 2 := hx
 show AW _ x _ _ ⟨27, fr0 [(D.one (C.ref 0 0)), (sc (.string a1))], [(some (AObj.cells false [(C.mp 1), (C.p true (.v (.int .i64 p0.room))), (C.p true (.v (.int .i64 p0.used))), (C.p true (.v (.pointer none))), (C.p true (.v (.bool p0.dead)))])), (some (AObj.map false (mapE true e_vdisk_file p0.files)))]⟩
 refine AW.weak (st' := ⟨27, (upd 27 (upd 27 topF 0 (D.one (C.ref 0 0))) 1 (sc (.string a1))), [(some (AObj.cells false [(C.mp 2), (C.p true (.v (.int .i64 p0.room))), (C.p true (.v (.int .i64 p0.used))), (C.p true (.v (.pointer none))), (C.p true (.v (.bool p0.dead)))])), none, (some (AObj.map false (mapE true e_vdisk_file p0.files)))]⟩) (Weak.genL (kk := 2) [0, 1, 1] [] hx rfl (by decide) rfl rfl rfl rfl (le_upd (le_upd (le_top _) (.t (.one (.ref rfl)))) (.t (.one .sc))) (ac (.cells (fun h => h) (ac (.mp rfl) (ac .sc (ac .sc (ac .sc (ac .sc an)))))) (ac (.none _) (ac .map an)))) (AW.seq (AW.region ?_))
 refine s_assign (d := (sc (.int .i64 0))) rfl (AWops.nil (AW.seq (AW.region ?_)))
 refine s_move (d := (D.one (C.ref 0 0))) rfl ?_
 refine s_move (d := (sc (.string a1))) rfl ?_
 obtain ⟨r1, er1, h⟩ := bnd h
 refine s_call2 (ρ := [0, 2]) (br := false) (H2 := [(some (AObj.cells false [(C.mp 3), (C.p true (.v (.int .i64 r1.2.room))), (C.p true (.v (.int .i64 r1.2.used))), (C.p true (.v (.pointer none))), (C.p true (.v (.bool r1.2.dead)))])), none, none, (some (AObj.map false (mapE true e_vdisk_file r1.2.files)))]) (d := (sc (.int .i64 r1.1))) F.ca_31 rfl rfl (ac (.one (.ref rfl)) (ac (.one .sc) (ac (.one .sc) (ac (.one .sc) (ac (.one .sc) an))))) (ac (.cells (ac (.mp rfl) (ac .sc (ac .sc (ac .sc (ac .sc an)))))) (ac .map an)) (by decide) rfl (vdisk_Disk_change.meets _ p0 true a1 false 0 r1 er1) (.inl rfl) rfl rfl ?_
 refine s_assign (d := (sc (.int .i64 r1.1))) rfl (AWops.nil (AW.seq (AW.seq (AW.region ?_))))
 refine s_move (d := (sc (.int .i64 r1.1))) rfl ?_
 refine s_binI (v := (.bool (r1.1 == 0))) rfl rfl rfl (AWops.nil ?_)
 rcases itH h with ⟨c2, h⟩ | ⟨c2, h⟩
 ·refine AW.cond_yes rfl c2 (AW.seq (AW.region ?_))
  refine s_move (d := (D.one (C.ref 0 0))) rfl ?_
  refine s_nilCheck (d := (D.one (C.ref 0 0))) rfl (.inl ⟨_, _, rfl⟩) ?_
  refine s_fieldRef F.fo_50_0 (by decide) rfl ?_
  refine s_load1 (c' := (C.mp 3)) F.ag_47 rfl rfl ?_
  refine s_move (d := (sc (.string a1))) rfl ?_
  refine t_lookup (b := true) F.u_47 F.u_9 F.z_65 (z := ((⟨([] : List Int), 0⟩ : vdisk_file) : vdisk_file)) (zs := [(.slice none 0 0), (.int .i64 0)]) rfl (fun h => by cases h) (ac ZRel.n (ac (ZRel.v _ rfl) an)) rfl rfl rfl rfl ?_
  refine s_field1 (c := (C.p false (.sl (((mget a1 r1.2.files).getD ((⟨([] : List Int), 0⟩ : vdisk_file) : vdisk_file)).b).length ((((mget a1 r1.2.files).getD ((⟨([] : List Int), 0⟩ : vdisk_file) : vdisk_file)).b).flatMap e_u8)))) F.fo_65_0 rfl rfl ?_
  refine s_assign (d := (D.one (C.p false (.sl (((mget a1 r1.2.files).getD ((⟨([] : List Int), 0⟩ : vdisk_file) : vdisk_file)).b).length ((((mget a1 r1.2.files).getD ((⟨([] : List Int), 0⟩ : vdisk_file) : vdisk_file)).b).flatMap e_u8))))) rfl (AWops.nil (AW.region ?_))
  refine s_move (d := (D.one (C.ref 0 0))) rfl ?_
  refine s_move (d := (sc (.string a1))) rfl ?_
  refine s_move (d := (D.one (C.p false (.sl (((mget a1 r1.2.files).getD ((⟨([] : List Int), 0⟩ : vdisk_file) : vdisk_file)).b).length ((((mget a1 r1.2.files).getD ((⟨([] : List Int), 0⟩ : vdisk_file) : vdisk_file)).b).flatMap e_u8))))) rfl ?_
  refine s_move (d := (D.one (C.p false (.sl (((mget a1 r1.2.files).getD ((⟨([] : List Int), 0⟩ : vdisk_file) : vdisk_file)).b).length ((((mget a1 r1.2.files).getD ((⟨([] : List Int), 0⟩ : vdisk_file) : vdisk_file)).b).flatMap e_u8))))) rfl ?_
  refine s_len (n := (((mget a1 r1.2.files).getD ((⟨([] : List Int), 0⟩ : vdisk_file) : vdisk_file)).b).length) F.u_22 rfl (.inr ⟨(fun _ _ h => by cases h), ⟨_, rfl⟩⟩) ?_
  refine s_build (ps := [(0, (D.one (C.p false (.sl (((mget a1 r1.2.files).getD ((⟨([] : List Int), 0⟩ : vdisk_file) : vdisk_file)).b).length ((((mget a1 r1.2.files).getD ((⟨([] : List Int), 0⟩ : vdisk_file) : vdisk_file)).b).flatMap e_u8))))), (1, (sc (.int .i64 ((((mget a1 r1.2.files).getD ((⟨([] : List Int), 0⟩ : vdisk_file) : vdisk_file)).b).length : Int))))]) (cs := [(C.p false (.sl (((mget a1 r1.2.files).getD ((⟨([] : List Int), 0⟩ : vdisk_file) : vdisk_file)).b).length ((((mget a1 r1.2.files).getD ((⟨([] : List Int), 0⟩ : vdisk_file) : vdisk_file)).b).flatMap e_u8))), (C.p true (.v (.int .i64 ((((mget a1 r1.2.files).getD ((⟨([] : List Int), 0⟩ : vdisk_file) : vdisk_file)).b).length : Int))))]) F.z_65 rfl F.so_65 rfl rfl ?_
  obtain ⟨r3, er3, h⟩ := bnd h
  refine s_call2 (ρ := [0, 3]) (br := false) (H2 := [(some (AObj.cells false [(C.mp 4), (C.p true (.v (.int .i64 r3.room))), (C.p true (.v (.int .i64 r3.used))), (C.p true (.v (.pointer none))), (C.p true (.v (.bool r3.dead)))])), none, none, none, (some (AObj.map false (mapE true e_vdisk_file r3.files)))]) (d := (D.tup [])) F.ca_33 rfl rfl (ac (.one (.ref rfl)) (ac (.one .sc) (ac (LendT.aggL (ac .imm (ac .sc an))) an))) (ac (.cells (ac (.mp rfl) (ac .sc (ac .sc (ac .sc (ac .sc an)))))) (ac .map an)) (by decide) rfl (vdisk_Disk_set.meets _ r1.2 a1 (⟨((mget a1 r1.2.files).getD ((⟨([] : List Int), 0⟩ : vdisk_file) : vdisk_file)).b, ((((mget a1 r1.2.files).getD ((⟨([] : List Int), 0⟩ : vdisk_file) : vdisk_file)).b).length : Int)⟩ : vdisk_file) r3 er3) (.inl rfl) rfl rfl (AWops.nil (AW.seq (AW.region ?_)))
  refine s_move (d := (sc (.int .i64 r1.1))) rfl ?_
  refine s_assign (d := (sc (.int .i64 r1.1))) rfl (AWops.nil (AW.ret ?_))
  obtain rfl := Option.some.inj h
  exact ⟨_, rfl, (Weak.gen (kk := 2) [0, 1, 4] [] rfl rfl (by decide) (by decide) rfl rfl rfl (le_upd (le_top _) (.t (.one .sc))) (ac (.cells (fun h => h) (ac (.mp rfl) (ac .sc (ac .sc (ac .sc (ac .sc an)))))) (ac (.none _) (ac .map an))))⟩
 ·refine AW.cond_no rfl c2 (AW.skip (AW.seq (AW.region ?_)))
  refine s_move (d := (sc (.int .i64 r1.1))) rfl ?_
  refine s_assign (d := (sc (.int .i64 r1.1))) rfl (AWops.nil (AW.ret ?_))
  obtain rfl := Option.some.inj h
  exact ⟨_, rfl, (Weak.gen (kk := 2) [0, 1, 3] [] rfl rfl (by decide) (by decide) rfl rfl rfl (le_upd (le_top _) (.t (.one .sc))) (ac (.cells (fun h => h) (ac (.mp rfl) (ac .sc (ac .sc (ac .sc (ac .sc an)))))) (ac (.none _) (ac .map an))))⟩
def vdisk_Disk_Names.f (k : Nat) (p0 : vdisk_Disk) : Option ((List ByteArray) × vdisk_Disk) := (vdisk_Disk_none.f k p0).bind fun r1 => if r1.1 = true then (some (([] : List ByteArray), r1.2)) else (if (okK r1.2.files) = true then (some (sortK r1.2.files, r1.2)) else none)
theorem vdisk_Disk_Names.meets (k : Nat) (p0 : vdisk_Disk) (r : (List ByteArray) × vdisk_Disk) (h : vdisk_Disk_Names.f k p0 = some r) : Meets Try.prog 24 [(D.one (C.ref 0 0))] [(some (AObj.cells false [(C.mp 1), (C.p true (.v (.int .i64 p0.room))), (C.p true (.v (.int .i64 p0.used))), (C.p true (.v (.pointer none))), (C.p true (.v (.bool p0.dead)))])), (some (AObj.map false (mapE true e_vdisk_file p0.files)))] (D.one (C.own 3 0 r.1.length 1)) [(some (AObj.cells false [(C.mp 2), (C.p true (.v (.int .i64 r.2.room))), (C.p true (.v (.int .i64 r.2.used))), (C.p true (.v (.pointer none))), (C.p true (.v (.bool r.2.dead)))])), none, (some (AObj.map false (mapE true e_vdisk_file r.2.files))), (some (AObj.cells true (rowC e_str r.1)))] := by
 unfold vdisk_Disk_Names.f at h
 refine Meets.of_body (n := 11) Try.func24 rfl rfl (nl rfl) fun x hx => ?_
 replace hx : x.k = 2 := hx
 show AW _ x _ _ ⟨11, fr0 [(D.one (C.ref 0 0))], [(some (AObj.cells false [(C.mp 1), (C.p true (.v (.int .i64 p0.room))), (C.p true (.v (.int .i64 p0.used))), (C.p true (.v (.pointer none))), (C.p true (.v (.bool p0.dead)))])), (some (AObj.map false (mapE true e_vdisk_file p0.files)))]⟩
 refine AW.weak (st' := ⟨11, (upd 11 topF 0 (D.one (C.ref 0 0))), [(some (AObj.cells false [(C.mp 2), (C.p true (.v (.int .i64 p0.room))), (C.p true (.v (.int .i64 p0.used))), (C.p true (.v (.pointer none))), (C.p true (.v (.bool p0.dead)))])), none, (some (AObj.map false (mapE true e_vdisk_file p0.files)))]⟩) (Weak.genL (kk := 2) [0, 1, 1] [] hx rfl (by decide) rfl rfl rfl rfl (le_upd (le_top _) (.t (.one (.ref rfl)))) (ac (.cells (fun h => h) (ac (.mp rfl) (ac .sc (ac .sc (ac .sc (ac .sc an)))))) (ac (.none _) (ac .map an)))) (AW.seq (AW.region ?_))
 refine s_assign (d := (sc (.slice none 0 0))) rfl (AWops.nil (AW.seq (AW.seq (AW.region ?_))))
 refine s_move (d := (D.one (C.ref 0 0))) rfl ?_
 obtain ⟨r1, er1, h⟩ := bnd h
 refine s_call2 (ρ := [0, 2]) (br := false) (H2 := [(some (AObj.cells false [(C.mp 3), (C.p true (.v (.int .i64 r1.2.room))), (C.p true (.v (.int .i64 r1.2.used))), (C.p true (.v (.pointer none))), (C.p true (.v (.bool r1.2.dead)))])), none, none, (some (AObj.map false (mapE true e_vdisk_file r1.2.files)))]) (d := (sc (.bool r1.1))) F.ca_35 rfl rfl (ac (.one (.ref rfl)) an) (ac (.cells (ac (.mp rfl) (ac .sc (ac .sc (ac .sc (ac .sc an)))))) (ac .map an)) (by decide) rfl (vdisk_Disk_none.meets _ p0 r1 er1) (.inl rfl) rfl rfl (AWops.nil ?_)
 rcases itH h with ⟨c2, h⟩ | ⟨c2, h⟩
 ·refine AW.cond_yes rfl c2 (AW.seq (AW.region ?_))
  refine s_assign (d := (sc (.slice none 0 0))) rfl (AWops.nil (AW.ret ?_))
  obtain rfl := Option.some.inj h
  exact ⟨_, rfl, (Weak.trans (Weak.nil (sz := 1) (i := 0) rfl) (Weak.gen (kk := 2) [0, 1, 3, 4] [] rfl rfl (by decide) (by decide) rfl rfl rfl (le_upd (le_top _) (.t (.one (CLe.ownN rfl (by simp))))) (ac (.cells (fun h => h) (ac (.mp rfl) (ac .sc (ac .sc (ac .sc (ac .sc an)))))) (ac (.none _) (ac .map (ac (.cells (fun h => h) an) an))))))⟩
 ·refine AW.cond_no rfl c2 (AW.skip (AW.seq (AW.region ?_)))
  refine s_move (d := (D.one (C.ref 0 0))) rfl ?_
  refine s_nilCheck (d := (D.one (C.ref 0 0))) rfl (.inl ⟨_, _, rfl⟩) ?_
  refine s_fieldRef F.fo_50_0 (by decide) rfl ?_
  refine s_load1 (c' := (C.mp 3)) F.ag_47 rfl rfl ?_
  refine s_call2 (ρ := [3]) (br := false) (H2 := [(some (AObj.cells false [(C.mp 3), (C.p true (.v (.int .i64 r1.2.room))), (C.p true (.v (.int .i64 r1.2.used))), (C.p true (.v (.pointer none))), (C.p true (.v (.bool r1.2.dead)))])), none, none, (some (AObj.map false (mapE true e_vdisk_file r1.2.files))), (some (AObj.cells true [(C.mp 3)]))]) (d := (D.one (C.clo 62 [(C.ref 4 0)]))) F.ca_48 rfl rfl (ac (.one (.mp rfl)) an) (ac .map an) (by decide) rfl (SK.keys _) (.inl rfl) rfl rfl ?_
  obtain ⟨c3, h⟩ := gdH h
  refine s_call2 (ρ := [4, 3]) (br := false) (H2 := [(some (AObj.cells false [(C.mp 3), (C.p true (.v (.int .i64 r1.2.room))), (C.p true (.v (.int .i64 r1.2.used))), (C.p true (.v (.pointer none))), (C.p true (.v (.bool r1.2.dead)))])), none, none, (some (AObj.map false (mapE true e_vdisk_file r1.2.files))), (some (AObj.cells true [(C.mp 3)])), (some (AObj.cells true (rowC e_str (sortK r1.2.files))))]) (d := (D.one (C.own 5 0 ((sortK r1.2.files).length) 1))) F.ca_47 rfl rfl (ac (.one (LendC.cloL (ac (.ref rfl) an))) an) (ac (.cells (ac (.mp rfl) an)) (ac .map an)) (by decide) rfl (SK.sorted (b := true) (f := e_vdisk_file) c3) (.inl rfl) (by first | rfl | (simp only [mergeH2, orF, Bool.false_or, Bool.or_false, Bool.true_or, Bool.or_true, mergeAt, mergeObj, renO, ren_row, List.drop_succ_cons, List.drop_zero, List.map_cons, List.map_nil, Option.map_some, Option.map_none, List.length_cons, List.length_nil, Nat.zero_add, List.append_assoc, List.cons_append, List.nil_append]; done) | (simp only [mergeH2, orF, Bool.false_or, Bool.or_false, Bool.true_or, Bool.or_true, mergeAt, mergeObj, renO, ren_row, List.drop_succ_cons, List.drop_zero, List.map_cons, List.map_nil, Option.map_some, Option.map_none, List.length_cons, List.length_nil, Nat.zero_add, List.append_assoc, List.cons_append, List.nil_append]; rfl)) rfl ?_
  refine s_assign (d := (D.one (C.own 5 0 ((sortK r1.2.files).length) 1))) rfl (AWops.nil (AW.ret ?_))
  obtain rfl := Option.some.inj h
  exact ⟨_, rfl, (Weak.gen (kk := 2) [0, 1, 3, 5] [] rfl rfl (by decide) (by decide) rfl rfl rfl (le_upd (le_top _) (.t (.one (.own rfl)))) (ac (.cells (fun h => h) (ac (.mp rfl) (ac .sc (ac .sc (ac .sc (ac .sc an)))))) (ac (.none _) (ac .map (ac (.cells (fun h => h) (all2_row _)) an)))))⟩
mutual
def vdisk_Disk_Crash.l0 : Nat → Int → Int → Bool → (List (ByteArray × vdisk_file)) → Int → (List Int) → ((List ByteArray) × vdisk_Disk) → Option (Int × vdisk_Disk)
 | 0, _, _, _, _, _, _, _ => none
 | k + 1, x4, x5, x6, x7, x8, a1, r3 => if (decide (x8 < (r3.1.length : Int))) = true then ((rd r3.1 x8).bind fun v10 => if (decide (x8 < (a1.length : Int))) = true then ((rd a1 x8).bind fun v13 => if (decide (v13 > 0)) = true then ((rd a1 x8).bind fun v15 => if (decide (0 ≤ (IntKind.i64.wrap ((((mget v10 x7).getD ((⟨([] : List Int), 0⟩ : vdisk_file) : vdisk_file)).sure) + (if (IntKind.i64.wrap (((((mget v10 x7).getD ((⟨([] : List Int), 0⟩ : vdisk_file) : vdisk_file)).b).length : Int) - (((mget v10 x7).getD ((⟨([] : List Int), 0⟩ : vdisk_file) : vdisk_file)).sure))) < v15 then (IntKind.i64.wrap (((((mget v10 x7).getD ((⟨([] : List Int), 0⟩ : vdisk_file) : vdisk_file)).b).length : Int) - (((mget v10 x7).getD ((⟨([] : List Int), 0⟩ : vdisk_file) : vdisk_file)).sure))) else v15))) ∧ (IntKind.i64.wrap ((((mget v10 x7).getD ((⟨([] : List Int), 0⟩ : vdisk_file) : vdisk_file)).sure) + (if (IntKind.i64.wrap (((((mget v10 x7).getD ((⟨([] : List Int), 0⟩ : vdisk_file) : vdisk_file)).b).length : Int) - (((mget v10 x7).getD ((⟨([] : List Int), 0⟩ : vdisk_file) : vdisk_file)).sure))) < v15 then (IntKind.i64.wrap (((((mget v10 x7).getD ((⟨([] : List Int), 0⟩ : vdisk_file) : vdisk_file)).b).length : Int) - (((mget v10 x7).getD ((⟨([] : List Int), 0⟩ : vdisk_file) : vdisk_file)).sure))) else v15))) ≤ ((((mget v10 x7).getD ((⟨([] : List Int), 0⟩ : vdisk_file) : vdisk_file)).b).length : Int))) = true then ((vdisk_Disk_set.f k (⟨x7, x4, x5, (), x6⟩ : vdisk_Disk) v10 (⟨sub (((mget v10 x7).getD ((⟨([] : List Int), 0⟩ : vdisk_file) : vdisk_file)).b) 0 (IntKind.i64.wrap ((((mget v10 x7).getD ((⟨([] : List Int), 0⟩ : vdisk_file) : vdisk_file)).sure) + (if (IntKind.i64.wrap (((((mget v10 x7).getD ((⟨([] : List Int), 0⟩ : vdisk_file) : vdisk_file)).b).length : Int) - (((mget v10 x7).getD ((⟨([] : List Int), 0⟩ : vdisk_file) : vdisk_file)).sure))) < v15 then (IntKind.i64.wrap (((((mget v10 x7).getD ((⟨([] : List Int), 0⟩ : vdisk_file) : vdisk_file)).b).length : Int) - (((mget v10 x7).getD ((⟨([] : List Int), 0⟩ : vdisk_file) : vdisk_file)).sure))) else v15))), IntKind.i64.wrap ((((mget v10 x7).getD ((⟨([] : List Int), 0⟩ : vdisk_file) : vdisk_file)).sure) + (if (IntKind.i64.wrap (((((mget v10 x7).getD ((⟨([] : List Int), 0⟩ : vdisk_file) : vdisk_file)).b).length : Int) - (((mget v10 x7).getD ((⟨([] : List Int), 0⟩ : vdisk_file) : vdisk_file)).sure))) < v15 then (IntKind.i64.wrap (((((mget v10 x7).getD ((⟨([] : List Int), 0⟩ : vdisk_file) : vdisk_file)).b).length : Int) - (((mget v10 x7).getD ((⟨([] : List Int), 0⟩ : vdisk_file) : vdisk_file)).sure))) else v15))⟩ : vdisk_file)).bind fun r17 => vdisk_Disk_Crash.l0 k r17.room r17.used r17.dead r17.files (IntKind.i64.wrap (x8 + 1)) a1 r3) else none) else (if (decide (0 ≤ (((mget v10 x7).getD ((⟨([] : List Int), 0⟩ : vdisk_file) : vdisk_file)).sure) ∧ (((mget v10 x7).getD ((⟨([] : List Int), 0⟩ : vdisk_file) : vdisk_file)).sure) ≤ ((((mget v10 x7).getD ((⟨([] : List Int), 0⟩ : vdisk_file) : vdisk_file)).b).length : Int))) = true then ((vdisk_Disk_set.f k (⟨x7, x4, x5, (), x6⟩ : vdisk_Disk) v10 (⟨sub (((mget v10 x7).getD ((⟨([] : List Int), 0⟩ : vdisk_file) : vdisk_file)).b) 0 (((mget v10 x7).getD ((⟨([] : List Int), 0⟩ : vdisk_file) : vdisk_file)).sure), ((mget v10 x7).getD ((⟨([] : List Int), 0⟩ : vdisk_file) : vdisk_file)).sure⟩ : vdisk_file)).bind fun r19 => vdisk_Disk_Crash.l0 k r19.room r19.used r19.dead r19.files (IntKind.i64.wrap (x8 + 1)) a1 r3) else none)) else (if (decide (0 ≤ (((mget v10 x7).getD ((⟨([] : List Int), 0⟩ : vdisk_file) : vdisk_file)).sure) ∧ (((mget v10 x7).getD ((⟨([] : List Int), 0⟩ : vdisk_file) : vdisk_file)).sure) ≤ ((((mget v10 x7).getD ((⟨([] : List Int), 0⟩ : vdisk_file) : vdisk_file)).b).length : Int))) = true then ((vdisk_Disk_set.f k (⟨x7, x4, x5, (), x6⟩ : vdisk_Disk) v10 (⟨sub (((mget v10 x7).getD ((⟨([] : List Int), 0⟩ : vdisk_file) : vdisk_file)).b) 0 (((mget v10 x7).getD ((⟨([] : List Int), 0⟩ : vdisk_file) : vdisk_file)).sure), ((mget v10 x7).getD ((⟨([] : List Int), 0⟩ : vdisk_file) : vdisk_file)).sure⟩ : vdisk_file)).bind fun r21 => vdisk_Disk_Crash.l0 k r21.room r21.used r21.dead r21.files (IntKind.i64.wrap (x8 + 1)) a1 r3) else none)) else (some (0, (⟨x7, x4, x5, (), false⟩ : vdisk_Disk)))
end
def vdisk_Disk_Crash.f (k : Nat) (p0 : vdisk_Disk) (a1 : List Int) : Option (Int × vdisk_Disk) := (vdisk_Disk_none.f k p0).bind fun r1 => if r1.1 = true then (some (2, r1.2)) else ((vdisk_Disk_Names.f k r1.2).bind fun r3 => vdisk_Disk_Crash.l0 k r3.2.room r3.2.used r3.2.dead r3.2.files 0 a1 r3)
theorem vdisk_Disk_Crash.meets (k : Nat) (p0 : vdisk_Disk) (a1 : List Int) (r : Int × vdisk_Disk) (h : vdisk_Disk_Crash.f k p0 a1 = some r) : Meets Try.prog 11 [(D.one (C.ref 0 0)), (D.one (C.p false (.sl a1.length (a1.flatMap e_i64))))] [(some (AObj.cells false [(C.mp 1), (C.p true (.v (.int .i64 p0.room))), (C.p true (.v (.int .i64 p0.used))), (C.p true (.v (.pointer none))), (C.p true (.v (.bool p0.dead)))])), (some (AObj.map false (mapE true e_vdisk_file p0.files)))] (sc (.int .i64 r.1)) [(some (AObj.cells false [(C.mp 2), (C.p true (.v (.int .i64 r.2.room))), (C.p true (.v (.int .i64 r.2.used))), (C.p true (.v (.pointer none))), (C.p true (.v (.bool r.2.dead)))])), none, (some (AObj.map false (mapE true e_vdisk_file r.2.files)))] := by
 unfold vdisk_Disk_Crash.f at h
 refine Meets.of_body (n := 69) Try.func11 rfl rfl (nl rfl) fun x hx => ?_
 replace hx : x.k = 2 := hx
 show AW _ x _ _ ⟨69, fr0 [(D.one (C.ref 0 0)), (D.one (C.p false (.sl a1.length (a1.flatMap e_i64))))], [(some (AObj.cells false [(C.mp 1), (C.p true (.v (.int .i64 p0.room))), (C.p true (.v (.int .i64 p0.used))), (C.p true (.v (.pointer none))), (C.p true (.v (.bool p0.dead)))])), (some (AObj.map false (mapE true e_vdisk_file p0.files)))]⟩
 refine AW.weak (st' := ⟨69, (upd 69 (upd 69 topF 0 (D.one (C.ref 0 0))) 1 (D.one (C.p false (.sl a1.length (a1.flatMap e_i64))))), [(some (AObj.cells false [(C.mp 2), (C.p true (.v (.int .i64 p0.room))), (C.p true (.v (.int .i64 p0.used))), (C.p true (.v (.pointer none))), (C.p true (.v (.bool p0.dead)))])), none, (some (AObj.map false (mapE true e_vdisk_file p0.files)))]⟩) (Weak.genL (kk := 2) [0, 1, 1] [] hx rfl (by decide) rfl rfl rfl rfl (le_upd (le_upd (le_top _) (.t (.one (.ref rfl)))) (.t (.one .same))) (ac (.cells (fun h => h) (ac (.mp rfl) (ac .sc (ac .sc (ac .sc (ac .sc an)))))) (ac (.none _) (ac .map an)))) (AW.seq (AW.region ?_))
 refine s_assign (d := (sc (.int .i64 0))) rfl (AWops.nil (AW.seq (AW.seq (AW.region ?_))))
 refine s_move (d := (D.one (C.ref 0 0))) rfl ?_
 obtain ⟨r1, er1, h⟩ := bnd h
 refine s_call2 (ρ := [0, 2]) (br := false) (H2 := [(some (AObj.cells false [(C.mp 3), (C.p true (.v (.int .i64 r1.2.room))), (C.p true (.v (.int .i64 r1.2.used))), (C.p true (.v (.pointer none))), (C.p true (.v (.bool r1.2.dead)))])), none, none, (some (AObj.map false (mapE true e_vdisk_file r1.2.files)))]) (d := (sc (.bool r1.1))) F.ca_35 rfl rfl (ac (.one (.ref rfl)) an) (ac (.cells (ac (.mp rfl) (ac .sc (ac .sc (ac .sc (ac .sc an)))))) (ac .map an)) (by decide) rfl (vdisk_Disk_none.meets _ p0 r1 er1) (.inl rfl) rfl rfl (AWops.nil ?_)
 rcases itH h with ⟨c2, h⟩ | ⟨c2, h⟩
 ·refine AW.cond_yes rfl c2 (AW.seq (AW.region ?_))
  refine s_assign (d := (sc (.int .i64 2))) rfl (AWops.nil (AW.ret ?_))
  obtain rfl := Option.some.inj h
  exact ⟨_, rfl, (Weak.gen (kk := 2) [0, 1, 3] [] rfl rfl (by decide) (by decide) rfl rfl rfl (le_upd (le_top _) (.t (.one .sc))) (ac (.cells (fun h => h) (ac (.mp rfl) (ac .sc (ac .sc (ac .sc (ac .sc an)))))) (ac (.none _) (ac .map an))))⟩
 ·refine AW.cond_no rfl c2 (AW.skip (AW.seq (AW.seq (AW.region ?_))))
  refine s_move (d := (D.one (C.ref 0 0))) rfl ?_
  obtain ⟨r3, er3, h⟩ := bnd h
  refine s_call2 (ρ := [0, 3]) (br := false) (H2 := [(some (AObj.cells false [(C.mp 4), (C.p true (.v (.int .i64 r3.2.room))), (C.p true (.v (.int .i64 r3.2.used))), (C.p true (.v (.pointer none))), (C.p true (.v (.bool r3.2.dead)))])), none, none, none, (some (AObj.map false (mapE true e_vdisk_file r3.2.files))), (some (AObj.cells true (rowC e_str r3.1)))]) (d := (D.one (C.own 5 0 r3.1.length 1))) F.ca_24 rfl rfl (ac (.one (.ref rfl)) an) (ac (.cells (ac (.mp rfl) (ac .sc (ac .sc (ac .sc (ac .sc an)))))) (ac .map an)) (by decide) rfl (vdisk_Disk_Names.meets _ r1.2 r3 er3) (.inl rfl) (by first | rfl | (simp only [mergeH2, orF, Bool.false_or, Bool.or_false, Bool.true_or, Bool.or_true, mergeAt, mergeObj, renO, ren_row, List.drop_succ_cons, List.drop_zero, List.map_cons, List.map_nil, Option.map_some, Option.map_none, List.length_cons, List.length_nil, Nat.zero_add, List.append_assoc, List.cons_append, List.nil_append]; done) | (simp only [mergeH2, orF, Bool.false_or, Bool.or_false, Bool.true_or, Bool.or_true, mergeAt, mergeObj, renO, ren_row, List.drop_succ_cons, List.drop_zero, List.map_cons, List.map_nil, Option.map_some, Option.map_none, List.length_cons, List.length_nil, Nat.zero_add, List.append_assoc, List.cons_append, List.nil_append]; rfl)) rfl ?_
  refine s_len (n := r3.1.length) F.u_55 rfl (.inr ⟨(fun _ _ h => by cases h), ⟨_, rfl⟩⟩) ?_
  refine s_move (d := (sc (.int .i64 0))) rfl (AWops.nil (AW.block ?_))
  refine AW.loopw (st0 := ⟨69, (upd 69 (upd 69 (upd 69 (upd 69 (upd 69 topF 0 (D.one (C.ref 0 0))) 1 (D.one (C.p false (.sl a1.length (a1.flatMap e_i64))))) 12 (D.one (C.own 2 0 r3.1.length 1))) 13 (sc (.int .i64 (r3.1.length : Int)))) 14 (sc (.int .i64 0))), [(some (AObj.cells false [(C.mp 3), (C.p true (.v (.int .i64 r3.2.room))), (C.p true (.v (.int .i64 r3.2.used))), (C.p true (.v (.pointer none))), (C.p true (.v (.bool r3.2.dead)))])), none, (some (AObj.cells true (rowC e_str r3.1))), (some (AObj.map false (mapE true e_vdisk_file r3.2.files)))]⟩) (fun kv st => kv ≤ k ∧ ∃ (x4 : Int) (x5 : Int) (x6 : Bool) (x7 : List (ByteArray × vdisk_file)) (x8 : Int), vdisk_Disk_Crash.l0 kv x4 x5 x6 x7 x8 a1 r3 = some r ∧ st = ⟨69, (upd 69 (upd 69 (upd 69 (upd 69 (upd 69 topF 0 (D.one (C.ref 0 0))) 1 (D.one (C.p false (.sl a1.length (a1.flatMap e_i64))))) 12 (D.one (C.own 2 0 r3.1.length 1))) 13 (sc (.int .i64 (r3.1.length : Int)))) 14 (sc (.int .i64 x8))), [(some (AObj.cells false [(C.mp 3), (C.p true (.v (.int .i64 x4))), (C.p true (.v (.int .i64 x5))), (C.p true (.v (.pointer none))), (C.p true (.v (.bool x6)))])), none, (some (AObj.cells true (rowC e_str r3.1))), (some (AObj.map false (mapE true e_vdisk_file x7)))]⟩) (k := k) (Weak.gen (kk := 2) [0, 1, 5, 4] [] hx rfl (by decide) (by decide) rfl rfl rfl (le_upd (le_upd (le_upd (le_upd (le_upd (le_top _) (.t (.one (.ref rfl)))) (.t (.one .same))) (.t (.one (.own rfl)))) (.t (.one .sc))) (.t (.one .sc))) (ac (.cells (fun h => h) (ac (.mp rfl) (ac .sc (ac .sc (ac .sc (ac .sc an)))))) (ac (.none _) (ac (.cells (fun h => h) (all2_row _)) (ac .map an))))) ⟨Nat.le_refl _, r3.2.room, r3.2.used, r3.2.dead, r3.2.files, 0, h, rfl⟩ ?_
  rintro ql0 st ⟨hkl0, x4, x5, x6, x7, x8, h, rfl⟩
  cases ql0 with
  | zero => exact absurd h (by simp [vdisk_Disk_Crash.l0])
  | succ ql0 =>
   replace h := (vdisk_Disk_Crash.l0.eq_2 _ _ _ _ _ _ _ _).symm.trans h
   refine AW.seq (AW.region ?_)
   refine s_binI (v := (.bool (decide (x8 < (r3.1.length : Int))))) rfl rfl rfl (AWops.nil (AW.seq ?_))
   rcases itH h with ⟨c9, h⟩ | ⟨c9, h⟩
   ·refine AW.cond_yes rfl c9 (AW.skip (AW.seq (AW.block (AW.seq (AW.region ?_)))))
    refine s_move (d := (sc (.int .i64 x8))) rfl ?_
    obtain ⟨v10, ev10, h⟩ := bnd h
    obtain ⟨pv10, qv10, gv10⟩ := rd_some ev10
    refine s_indexOwn (d := (D.one (C.ref 2 (0 + x8.toNat * 1)))) F.u_55 F.sz_9 rfl rfl pv10 qv10 rfl ?_
    obtain ⟨R11, hR11⟩ := row_at (f := e_str) (sz := 1) (o := 0) e_str_len gv10 (e_str_eq v10) (by decide)
    refine s_load1 (c' := (C.p true (.v (.string v10)))) F.ag_9 (congrArg some hR11) rfl ?_
    refine s_assign (d := (sc (.int .i64 x8))) rfl ?_
    refine s_assign (d := (sc (.string v10))) rfl (AWops.nil (AW.seq (AW.region ?_)))
    refine s_move (d := (D.one (C.ref 0 0))) rfl ?_
    refine s_nilCheck (d := (D.one (C.ref 0 0))) rfl (.inl ⟨_, _, rfl⟩) ?_
    refine s_fieldRef F.fo_50_0 (by decide) rfl ?_
    refine s_load1 (c' := (C.mp 3)) F.ag_47 rfl rfl ?_
    refine s_move (d := (sc (.string v10))) rfl ?_
    refine t_lookup (b := true) F.u_47 F.u_9 F.z_65 (z := ((⟨([] : List Int), 0⟩ : vdisk_file) : vdisk_file)) (zs := [(.slice none 0 0), (.int .i64 0)]) rfl (fun h => by cases h) (ac ZRel.n (ac (ZRel.v _ rfl) an)) rfl rfl rfl rfl ?_
    refine s_alloc (cs := [(C.p true (.v (.slice none 0 0))), (C.p true (.v (.int .i64 0)))]) F.z_65 rfl rfl ?_
    refine s_store (cs' := (c_vdisk_file ((mget v10 x7).getD ((⟨([] : List Int), 0⟩ : vdisk_file) : vdisk_file)))) rfl rfl rfl (List.cons_ne_nil _ _) rfl F.sz_65 (nl rfl) rfl (AWops.nil (AW.seq (AW.region ?_)))
    refine s_fieldRef F.fo_65_1 (by decide) rfl ?_
    refine s_load1 (c' := (C.p true (.v (.int .i64 (((mget v10 x7).getD ((⟨([] : List Int), 0⟩ : vdisk_file) : vdisk_file)).sure))))) F.ag_3 rfl rfl ?_
    refine s_assign (d := (sc (.int .i64 (((mget v10 x7).getD ((⟨([] : List Int), 0⟩ : vdisk_file) : vdisk_file)).sure)))) rfl (AWops.nil (AW.seq (AW.seq (AW.region ?_))))
    refine s_move (d := (sc (.int .i64 x8))) rfl ?_
    refine s_move (d := (D.one (C.p false (.sl a1.length (a1.flatMap e_i64))))) rfl ?_
    refine s_len (n := a1.length) F.u_24 rfl (.inr ⟨(fun _ _ h => by cases h), ⟨_, rfl⟩⟩) ?_
    refine s_binI (v := (.bool (decide (x8 < (a1.length : Int))))) rfl rfl rfl ?_
    refine s_move (d := (sc (.bool (decide (x8 < (a1.length : Int)))))) rfl ?_
    rcases itH h with ⟨c12, h⟩ | ⟨c12, h⟩
    ·refine AWops.guard_yes rfl (nl rfl) rfl c12 ?_
     refine s_move (d := (D.one (C.p false (.sl a1.length (a1.flatMap e_i64))))) rfl ?_
     refine AWops.guard_yes rfl (nl rfl) rfl c12 ?_
     refine s_move (d := (sc (.int .i64 x8))) rfl ?_
     refine AWops.guard_yes rfl (nl rfl) rfl c12 ?_
     obtain ⟨v13, ev13, h⟩ := bnd h
     obtain ⟨pv13, qv13, gv13⟩ := rd_some ev13
     refine s_indexImm (ps := [P.v (.int .i64 v13)]) F.u_24 F.sz_3 rfl rfl pv13 qv13 (flat_at e_i64_len gv13 (e_i64_eq v13)) ?_
     refine AWops.guard_yes rfl (nl rfl) rfl c12 ?_
     refine s_load1 (c' := (C.p true (.v (.int .i64 v13)))) F.ag_3 rfl rfl ?_
     refine AWops.guard_yes rfl (nl rfl) rfl c12 ?_
     refine s_binI (v := (.bool (decide (v13 > 0)))) rfl rfl rfl ?_
     refine s_pick_yes (d := (sc (.bool (decide (v13 > 0))))) rfl c12 rfl (AWops.nil ?_)
     rcases itH h with ⟨c14, h⟩ | ⟨c14, h⟩
     ·refine AW.cond_yes rfl c14 ?_
      refine AW.weak (st' := ⟨69, (upd 69 (upd 69 (upd 69 (upd 69 (upd 69 (upd 69 (upd 69 (upd 69 (upd 69 (upd 69 (upd 69 (upd 69 (upd 69 (upd 69 topF 0 (D.one (C.ref 0 0))) 1 (D.one (C.p false (.sl a1.length (a1.flatMap e_i64))))) 5 (sc (.int .i64 x8))) 6 (sc (.string v10))) 7 (D.one (C.ref 2 0))) 8 (sc (.int .i64 (((mget v10 x7).getD ((⟨([] : List Int), 0⟩ : vdisk_file) : vdisk_file)).sure)))) 12 (D.one (C.own 3 0 r3.1.length 1))) 13 (sc (.int .i64 (r3.1.length : Int)))) 14 (sc (.int .i64 x8))) 32 (D.one (C.p false (.sl a1.length (a1.flatMap e_i64))))) 33 (sc (.int .i64 x8))) 34 (D.one (C.peek false [P.v (.int .i64 v13)]))) 35 (sc (.int .i64 v13))) 36 (sc (.bool (decide (v13 > 0))))), [(some (AObj.cells false [(C.mp 4), (C.p true (.v (.int .i64 x4))), (C.p true (.v (.int .i64 x5))), (C.p true (.v (.pointer none))), (C.p true (.v (.bool x6)))])), none, (some (AObj.cells true (c_vdisk_file ((mget v10 x7).getD ((⟨([] : List Int), 0⟩ : vdisk_file) : vdisk_file))))), (some (AObj.cells true (rowC e_str r3.1))), (some (AObj.map false (mapE true e_vdisk_file x7)))]⟩) (Weak.gen (kk := 2) [0, 1, 4, 2, 3] [] hx rfl (by decide) (by decide) rfl rfl rfl (le_upd (le_upd (le_upd (le_upd (le_upd (le_upd (le_upd (le_upd (le_upd (le_upd (le_upd (le_upd (le_upd (le_upd (le_top _) (.t (.one (.ref rfl)))) (.t (.one .same))) (.t (.one .sc))) (.t (.one .sc))) (.t (.one (.ref rfl)))) (.t (.one .sc))) (.t (.one (.own rfl)))) (.t (.one .sc))) (.t (.one .sc))) (.t (.one .same))) (.t (.one .sc))) (.t (.one .peek))) (.t (.one .sc))) (.t (.one .sc))) (ac (.cells (fun h => h) (ac (.mp rfl) (ac .sc (ac .sc (ac .sc (ac .sc an)))))) (ac (.none _) (ac (.cells (fun h => h) (ac .same (ac .sc an))) (ac (.cells (fun h => h) (all2_row _)) (ac .map an)))))) ?_
      obtain ⟨v15, ev15, h⟩ := bnd h
      obtain ⟨pv15, qv15, gv15⟩ := rd_some ev15
      refine AW.draw (n := 69) (L := 5) [(0, ⟨some 38, (D.one (C.ref 2 1)), [(7, (D.one (C.ref 2 0)))], [], [], none⟩), (1, ⟨some 39, (sc (.int .i64 (((mget v10 x7).getD ((⟨([] : List Int), 0⟩ : vdisk_file) : vdisk_file)).sure))), [(38, (D.one (C.ref 2 1)))], [(2, (some (AObj.cells true (c_vdisk_file ((mget v10 x7).getD ((⟨([] : List Int), 0⟩ : vdisk_file) : vdisk_file))))))], [], none⟩), (2, ⟨some 40, (D.one (C.p false (.sl a1.length (a1.flatMap e_i64)))), [(1, (D.one (C.p false (.sl a1.length (a1.flatMap e_i64)))))], [], [], none⟩), (3, ⟨some 41, (sc (.int .i64 x8)), [(5, (sc (.int .i64 x8)))], [], [], none⟩), (4, ⟨some 42, (D.one (C.peek false [P.v (.int .i64 v15)])), [(40, (D.one (C.p false (.sl a1.length (a1.flatMap e_i64))))), (41, (sc (.int .i64 x8)))], [], [], none⟩), (5, ⟨some 43, (sc (.int .i64 v15)), [(42, (D.one (C.peek false [P.v (.int .i64 v15)])))], [], [], none⟩), (6, ⟨some 44, (D.one (C.ref 2 0)), [(7, (D.one (C.ref 2 0)))], [], [], none⟩), (7, ⟨some 45, (D.one (C.p false (.sl (((mget v10 x7).getD ((⟨([] : List Int), 0⟩ : vdisk_file) : vdisk_file)).b).length ((((mget v10 x7).getD ((⟨([] : List Int), 0⟩ : vdisk_file) : vdisk_file)).b).flatMap e_u8)))), [(44, (D.one (C.ref 2 0)))], [(2, (some (AObj.cells true (c_vdisk_file ((mget v10 x7).getD ((⟨([] : List Int), 0⟩ : vdisk_file) : vdisk_file))))))], [], none⟩), (8, ⟨some 46, (sc (.int .i64 ((((mget v10 x7).getD ((⟨([] : List Int), 0⟩ : vdisk_file) : vdisk_file)).b).length : Int))), [(45, (D.one (C.p false (.sl (((mget v10 x7).getD ((⟨([] : List Int), 0⟩ : vdisk_file) : vdisk_file)).b).length ((((mget v10 x7).getD ((⟨([] : List Int), 0⟩ : vdisk_file) : vdisk_file)).b).flatMap e_u8)))))], [], [], none⟩), (9, ⟨some 47, (D.one (C.ref 2 1)), [(7, (D.one (C.ref 2 0)))], [], [], none⟩), (10, ⟨some 48, (sc (.int .i64 (((mget v10 x7).getD ((⟨([] : List Int), 0⟩ : vdisk_file) : vdisk_file)).sure))), [(47, (D.one (C.ref 2 1)))], [(2, (some (AObj.cells true (c_vdisk_file ((mget v10 x7).getD ((⟨([] : List Int), 0⟩ : vdisk_file) : vdisk_file))))))], [], none⟩), (11, ⟨some 49, (sc (.int .i64 (IntKind.i64.wrap (((((mget v10 x7).getD ((⟨([] : List Int), 0⟩ : vdisk_file) : vdisk_file)).b).length : Int) - (((mget v10 x7).getD ((⟨([] : List Int), 0⟩ : vdisk_file) : vdisk_file)).sure))))), [(46, (sc (.int .i64 ((((mget v10 x7).getD ((⟨([] : List Int), 0⟩ : vdisk_file) : vdisk_file)).b).length : Int)))), (48, (sc (.int .i64 (((mget v10 x7).getD ((⟨([] : List Int), 0⟩ : vdisk_file) : vdisk_file)).sure))))], [], [], none⟩), (12, ⟨some 50, (sc (.int .i64 (if (IntKind.i64.wrap (((((mget v10 x7).getD ((⟨([] : List Int), 0⟩ : vdisk_file) : vdisk_file)).b).length : Int) - (((mget v10 x7).getD ((⟨([] : List Int), 0⟩ : vdisk_file) : vdisk_file)).sure))) < v15 then (IntKind.i64.wrap (((((mget v10 x7).getD ((⟨([] : List Int), 0⟩ : vdisk_file) : vdisk_file)).b).length : Int) - (((mget v10 x7).getD ((⟨([] : List Int), 0⟩ : vdisk_file) : vdisk_file)).sure))) else v15))), [(43, (sc (.int .i64 v15))), (49, (sc (.int .i64 (IntKind.i64.wrap (((((mget v10 x7).getD ((⟨([] : List Int), 0⟩ : vdisk_file) : vdisk_file)).b).length : Int) - (((mget v10 x7).getD ((⟨([] : List Int), 0⟩ : vdisk_file) : vdisk_file)).sure))))))], [], [], none⟩), (13, ⟨some 51, (sc (.int .i64 (IntKind.i64.wrap ((((mget v10 x7).getD ((⟨([] : List Int), 0⟩ : vdisk_file) : vdisk_file)).sure) + (if (IntKind.i64.wrap (((((mget v10 x7).getD ((⟨([] : List Int), 0⟩ : vdisk_file) : vdisk_file)).b).length : Int) - (((mget v10 x7).getD ((⟨([] : List Int), 0⟩ : vdisk_file) : vdisk_file)).sure))) < v15 then (IntKind.i64.wrap (((((mget v10 x7).getD ((⟨([] : List Int), 0⟩ : vdisk_file) : vdisk_file)).b).length : Int) - (((mget v10 x7).getD ((⟨([] : List Int), 0⟩ : vdisk_file) : vdisk_file)).sure))) else v15))))), [(39, (sc (.int .i64 (((mget v10 x7).getD ((⟨([] : List Int), 0⟩ : vdisk_file) : vdisk_file)).sure)))), (50, (sc (.int .i64 (if (IntKind.i64.wrap (((((mget v10 x7).getD ((⟨([] : List Int), 0⟩ : vdisk_file) : vdisk_file)).b).length : Int) - (((mget v10 x7).getD ((⟨([] : List Int), 0⟩ : vdisk_file) : vdisk_file)).sure))) < v15 then (IntKind.i64.wrap (((((mget v10 x7).getD ((⟨([] : List Int), 0⟩ : vdisk_file) : vdisk_file)).b).length : Int) - (((mget v10 x7).getD ((⟨([] : List Int), 0⟩ : vdisk_file) : vdisk_file)).sure))) else v15))))], [], [], none⟩), (14, ⟨some 8, (sc (.int .i64 (IntKind.i64.wrap ((((mget v10 x7).getD ((⟨([] : List Int), 0⟩ : vdisk_file) : vdisk_file)).sure) + (if (IntKind.i64.wrap (((((mget v10 x7).getD ((⟨([] : List Int), 0⟩ : vdisk_file) : vdisk_file)).b).length : Int) - (((mget v10 x7).getD ((⟨([] : List Int), 0⟩ : vdisk_file) : vdisk_file)).sure))) < v15 then (IntKind.i64.wrap (((((mget v10 x7).getD ((⟨([] : List Int), 0⟩ : vdisk_file) : vdisk_file)).b).length : Int) - (((mget v10 x7).getD ((⟨([] : List Int), 0⟩ : vdisk_file) : vdisk_file)).sure))) else v15))))), [(51, (sc (.int .i64 (IntKind.i64.wrap ((((mget v10 x7).getD ((⟨([] : List Int), 0⟩ : vdisk_file) : vdisk_file)).sure) + (if (IntKind.i64.wrap (((((mget v10 x7).getD ((⟨([] : List Int), 0⟩ : vdisk_file) : vdisk_file)).b).length : Int) - (((mget v10 x7).getD ((⟨([] : List Int), 0⟩ : vdisk_file) : vdisk_file)).sure))) < v15 then (IntKind.i64.wrap (((((mget v10 x7).getD ((⟨([] : List Int), 0⟩ : vdisk_file) : vdisk_file)).b).length : Int) - (((mget v10 x7).getD ((⟨([] : List Int), 0⟩ : vdisk_file) : vdisk_file)).sure))) else v15))))))], [], [], none⟩)] [[], [0], [], [], [2, 3], [2, 3, 4], [], [6], [6, 7], [], [9], [6, 7, 8, 9, 10], [2, 3, 4, 5, 6, 7, 8, 9, 10, 11], [0, 1, 2, 3, 4, 5, 6, 7, 8, 9, 10, 11, 12], [0, 1, 2, 3, 4, 5, 6, 7, 8, 9, 10, 11, 12, 13]] (nl rfl) [0, 1, 0, 0, 1, 2, 0, 1, 2, 0, 1, 3, 4, 5, 6] rfl (TK := []) rfl AllK.nil' (fC ⟨(sC rfl AllS.nil'), AllH.nil'⟩ (fC ⟨(sC rfl AllS.nil'), (hC rfl AllH.nil')⟩ (fC ⟨(sC rfl AllS.nil'), AllH.nil'⟩ (fC ⟨(sC rfl AllS.nil'), AllH.nil'⟩ (fC ⟨(sC rfl (sC rfl AllS.nil')), AllH.nil'⟩ (fC ⟨(sC rfl AllS.nil'), AllH.nil'⟩ (fC ⟨(sC rfl AllS.nil'), AllH.nil'⟩ (fC ⟨(sC rfl AllS.nil'), (hC rfl AllH.nil')⟩ (fC ⟨(sC rfl AllS.nil'), AllH.nil'⟩ (fC ⟨(sC rfl AllS.nil'), AllH.nil'⟩ (fC ⟨(sC rfl AllS.nil'), (hC rfl AllH.nil')⟩ (fC ⟨(sC rfl (sC rfl AllS.nil')), AllH.nil'⟩ (fC ⟨(sC rfl (sC rfl AllS.nil')), AllH.nil'⟩ (fC ⟨(sC rfl (sC rfl AllS.nil')), AllH.nil'⟩ (fC ⟨(sC rfl AllS.nil'), AllH.nil'⟩ AllF.nil'))))))))))))))) ?_ ?_
      ·refine (pC ?_ (pC ?_ (pC ?_ (pC ?_ (pC ?_ (pC ?_ (pC ?_ (pC ?_ (pC ?_ (pC ?_ (pC ?_ (pC ?_ (pC ?_ (pC ?_ (pC ?_ AllStep.nil')))))))))))))))
       ·intro K rest fr hv htk k
        show AWops _ x _ _ K ⟨69, (upd 69 fr 7 (D.one (C.ref 2 0))), [(hv 0), (hv 1), (hv 2), (hv 3), (hv 4)]⟩
        refine s_fieldRef F.fo_65_1 (by decide) rfl k
       ·intro K rest fr hv htk k
        show AWops _ x _ _ K ⟨69, (upd 69 fr 38 (D.one (C.ref 2 1))), [(hv 0), (hv 1), (some (AObj.cells true (c_vdisk_file ((mget v10 x7).getD ((⟨([] : List Int), 0⟩ : vdisk_file) : vdisk_file))))), (hv 3), (hv 4)]⟩
        refine s_load1 (c' := (C.p true (.v (.int .i64 (((mget v10 x7).getD ((⟨([] : List Int), 0⟩ : vdisk_file) : vdisk_file)).sure))))) F.ag_3 rfl rfl k
       ·intro K rest fr hv htk k
        show AWops _ x _ _ K ⟨69, (upd 69 fr 1 (D.one (C.p false (.sl a1.length (a1.flatMap e_i64))))), _⟩
        refine s_move (d := (D.one (C.p false (.sl a1.length (a1.flatMap e_i64))))) rfl k
       ·intro K rest fr hv htk k
        show AWops _ x _ _ K ⟨69, (upd 69 fr 5 (sc (.int .i64 x8))), _⟩
        refine s_move (d := (sc (.int .i64 x8))) rfl k
       ·intro K rest fr hv htk k
        show AWops _ x _ _ K ⟨69, (upd 69 (upd 69 fr 41 (sc (.int .i64 x8))) 40 (D.one (C.p false (.sl a1.length (a1.flatMap e_i64))))), [(hv 0), (hv 1), (hv 2), (hv 3), (hv 4)]⟩
        refine s_indexImm (ps := [P.v (.int .i64 v15)]) F.u_24 F.sz_3 rfl rfl pv15 qv15 (flat_at e_i64_len gv15 (e_i64_eq v15)) k
       ·intro K rest fr hv htk k
        show AWops _ x _ _ K ⟨69, (upd 69 fr 42 (D.one (C.peek false [P.v (.int .i64 v15)]))), [(hv 0), (hv 1), (hv 2), (hv 3), (hv 4)]⟩
        refine s_load1 (c' := (C.p true (.v (.int .i64 v15)))) F.ag_3 rfl rfl k
       ·intro K rest fr hv htk k
        show AWops _ x _ _ K ⟨69, (upd 69 fr 7 (D.one (C.ref 2 0))), [(hv 0), (hv 1), (hv 2), (hv 3), (hv 4)]⟩
        refine s_fieldRef F.fo_65_0 (by decide) rfl k
       ·intro K rest fr hv htk k
        show AWops _ x _ _ K ⟨69, (upd 69 fr 44 (D.one (C.ref 2 0))), [(hv 0), (hv 1), (some (AObj.cells true (c_vdisk_file ((mget v10 x7).getD ((⟨([] : List Int), 0⟩ : vdisk_file) : vdisk_file))))), (hv 3), (hv 4)]⟩
        refine s_load1 (c' := (C.p false (.sl (((mget v10 x7).getD ((⟨([] : List Int), 0⟩ : vdisk_file) : vdisk_file)).b).length ((((mget v10 x7).getD ((⟨([] : List Int), 0⟩ : vdisk_file) : vdisk_file)).b).flatMap e_u8)))) F.ag_22 rfl rfl k
       ·intro K rest fr hv htk k
        show AWops _ x _ _ K ⟨69, (upd 69 fr 45 (D.one (C.p false (.sl (((mget v10 x7).getD ((⟨([] : List Int), 0⟩ : vdisk_file) : vdisk_file)).b).length ((((mget v10 x7).getD ((⟨([] : List Int), 0⟩ : vdisk_file) : vdisk_file)).b).flatMap e_u8))))), [(hv 0), (hv 1), (hv 2), (hv 3), (hv 4)]⟩
        refine s_len (n := (((mget v10 x7).getD ((⟨([] : List Int), 0⟩ : vdisk_file) : vdisk_file)).b).length) F.u_22 rfl (.inr ⟨(fun _ _ h => by cases h), ⟨_, rfl⟩⟩) k
       ·intro K rest fr hv htk k
        show AWops _ x _ _ K ⟨69, (upd 69 fr 7 (D.one (C.ref 2 0))), [(hv 0), (hv 1), (hv 2), (hv 3), (hv 4)]⟩
        refine s_fieldRef F.fo_65_1 (by decide) rfl k
       ·intro K rest fr hv htk k
        show AWops _ x _ _ K ⟨69, (upd 69 fr 47 (D.one (C.ref 2 1))), [(hv 0), (hv 1), (some (AObj.cells true (c_vdisk_file ((mget v10 x7).getD ((⟨([] : List Int), 0⟩ : vdisk_file) : vdisk_file))))), (hv 3), (hv 4)]⟩
        refine s_load1 (c' := (C.p true (.v (.int .i64 (((mget v10 x7).getD ((⟨([] : List Int), 0⟩ : vdisk_file) : vdisk_file)).sure))))) F.ag_3 rfl rfl k
       ·intro K rest fr hv htk k
        show AWops _ x _ _ K ⟨69, (upd 69 (upd 69 fr 48 (sc (.int .i64 (((mget v10 x7).getD ((⟨([] : List Int), 0⟩ : vdisk_file) : vdisk_file)).sure)))) 46 (sc (.int .i64 ((((mget v10 x7).getD ((⟨([] : List Int), 0⟩ : vdisk_file) : vdisk_file)).b).length : Int)))), _⟩
        refine s_binI (v := (.int .i64 (IntKind.i64.wrap (((((mget v10 x7).getD ((⟨([] : List Int), 0⟩ : vdisk_file) : vdisk_file)).b).length : Int) - (((mget v10 x7).getD ((⟨([] : List Int), 0⟩ : vdisk_file) : vdisk_file)).sure))))) rfl rfl rfl k
       ·intro K rest fr hv htk k
        show AWops _ x _ _ K ⟨69, (upd 69 (upd 69 fr 49 (sc (.int .i64 (IntKind.i64.wrap (((((mget v10 x7).getD ((⟨([] : List Int), 0⟩ : vdisk_file) : vdisk_file)).b).length : Int) - (((mget v10 x7).getD ((⟨([] : List Int), 0⟩ : vdisk_file) : vdisk_file)).sure)))))) 43 (sc (.int .i64 v15))), [(hv 0), (hv 1), (hv 2), (hv 3), (hv 4)]⟩
        refine s_min2 (r := (if (IntKind.i64.wrap (((((mget v10 x7).getD ((⟨([] : List Int), 0⟩ : vdisk_file) : vdisk_file)).b).length : Int) - (((mget v10 x7).getD ((⟨([] : List Int), 0⟩ : vdisk_file) : vdisk_file)).sure))) < v15 then (IntKind.i64.wrap (((((mget v10 x7).getD ((⟨([] : List Int), 0⟩ : vdisk_file) : vdisk_file)).b).length : Int) - (((mget v10 x7).getD ((⟨([] : List Int), 0⟩ : vdisk_file) : vdisk_file)).sure))) else v15)) rfl rfl rfl k
       ·intro K rest fr hv htk k
        show AWops _ x _ _ K ⟨69, (upd 69 (upd 69 fr 50 (sc (.int .i64 (if (IntKind.i64.wrap (((((mget v10 x7).getD ((⟨([] : List Int), 0⟩ : vdisk_file) : vdisk_file)).b).length : Int) - (((mget v10 x7).getD ((⟨([] : List Int), 0⟩ : vdisk_file) : vdisk_file)).sure))) < v15 then (IntKind.i64.wrap (((((mget v10 x7).getD ((⟨([] : List Int), 0⟩ : vdisk_file) : vdisk_file)).b).length : Int) - (((mget v10 x7).getD ((⟨([] : List Int), 0⟩ : vdisk_file) : vdisk_file)).sure))) else v15)))) 39 (sc (.int .i64 (((mget v10 x7).getD ((⟨([] : List Int), 0⟩ : vdisk_file) : vdisk_file)).sure)))), _⟩
        refine s_binI (v := (.int .i64 (IntKind.i64.wrap ((((mget v10 x7).getD ((⟨([] : List Int), 0⟩ : vdisk_file) : vdisk_file)).sure) + (if (IntKind.i64.wrap (((((mget v10 x7).getD ((⟨([] : List Int), 0⟩ : vdisk_file) : vdisk_file)).b).length : Int) - (((mget v10 x7).getD ((⟨([] : List Int), 0⟩ : vdisk_file) : vdisk_file)).sure))) < v15 then (IntKind.i64.wrap (((((mget v10 x7).getD ((⟨([] : List Int), 0⟩ : vdisk_file) : vdisk_file)).b).length : Int) - (((mget v10 x7).getD ((⟨([] : List Int), 0⟩ : vdisk_file) : vdisk_file)).sure))) else v15))))) rfl rfl rfl k
       ·intro K rest fr hv htk k
        show AWops _ x _ _ K ⟨69, (upd 69 fr 51 (sc (.int .i64 (IntKind.i64.wrap ((((mget v10 x7).getD ((⟨([] : List Int), 0⟩ : vdisk_file) : vdisk_file)).sure) + (if (IntKind.i64.wrap (((((mget v10 x7).getD ((⟨([] : List Int), 0⟩ : vdisk_file) : vdisk_file)).b).length : Int) - (((mget v10 x7).getD ((⟨([] : List Int), 0⟩ : vdisk_file) : vdisk_file)).sure))) < v15 then (IntKind.i64.wrap (((((mget v10 x7).getD ((⟨([] : List Int), 0⟩ : vdisk_file) : vdisk_file)).b).length : Int) - (((mget v10 x7).getD ((⟨([] : List Int), 0⟩ : vdisk_file) : vdisk_file)).sure))) else v15)))))), _⟩
        refine s_assign (d := (sc (.int .i64 (IntKind.i64.wrap ((((mget v10 x7).getD ((⟨([] : List Int), 0⟩ : vdisk_file) : vdisk_file)).sure) + (if (IntKind.i64.wrap (((((mget v10 x7).getD ((⟨([] : List Int), 0⟩ : vdisk_file) : vdisk_file)).b).length : Int) - (((mget v10 x7).getD ((⟨([] : List Int), 0⟩ : vdisk_file) : vdisk_file)).sure))) < v15 then (IntKind.i64.wrap (((((mget v10 x7).getD ((⟨([] : List Int), 0⟩ : vdisk_file) : vdisk_file)).b).length : Int) - (((mget v10 x7).getD ((⟨([] : List Int), 0⟩ : vdisk_file) : vdisk_file)).sure))) else v15)))))) rfl k
      ·refine AWops.weak (st' := ⟨69, (upd 69 (upd 69 (upd 69 (upd 69 (upd 69 (upd 69 (upd 69 (upd 69 (upd 69 (upd 69 (upd 69 (upd 69 (upd 69 topF 0 (D.one (C.ref 0 0))) 1 (D.one (C.p false (.sl a1.length (a1.flatMap e_i64))))) 6 (sc (.string v10))) 7 (D.one (C.ref 2 0))) 8 (sc (.int .i64 (IntKind.i64.wrap ((((mget v10 x7).getD ((⟨([] : List Int), 0⟩ : vdisk_file) : vdisk_file)).sure) + (if (IntKind.i64.wrap (((((mget v10 x7).getD ((⟨([] : List Int), 0⟩ : vdisk_file) : vdisk_file)).b).length : Int) - (((mget v10 x7).getD ((⟨([] : List Int), 0⟩ : vdisk_file) : vdisk_file)).sure))) < v15 then (IntKind.i64.wrap (((((mget v10 x7).getD ((⟨([] : List Int), 0⟩ : vdisk_file) : vdisk_file)).b).length : Int) - (((mget v10 x7).getD ((⟨([] : List Int), 0⟩ : vdisk_file) : vdisk_file)).sure))) else v15)))))) 12 (D.one (C.own 3 0 r3.1.length 1))) 13 (sc (.int .i64 (r3.1.length : Int)))) 14 (sc (.int .i64 x8))) 32 (D.one (C.p false (.sl a1.length (a1.flatMap e_i64))))) 33 (sc (.int .i64 x8))) 34 (D.one (C.peek false [P.v (.int .i64 v13)]))) 35 (sc (.int .i64 v13))) 36 (sc (.bool (decide (v13 > 0))))), [(some (AObj.cells false [(C.mp 4), (C.p true (.v (.int .i64 x4))), (C.p true (.v (.int .i64 x5))), (C.p true (.v (.pointer none))), (C.p true (.v (.bool x6)))])), none, (some (AObj.cells true (c_vdisk_file ((mget v10 x7).getD ((⟨([] : List Int), 0⟩ : vdisk_file) : vdisk_file))))), (some (AObj.cells true (rowC e_str r3.1))), (some (AObj.map false (mapE true e_vdisk_file x7)))]⟩) (Weak.gen (kk := 2) [0, 1, 2, 3, 4] [] hx rfl (by decide) (by decide) rfl rfl rfl (le_upd (le_upd (le_upd (le_upd (le_upd (le_upd (le_upd (le_upd (le_upd (le_upd (le_upd (le_upd (le_upd (le_top _) (.t (.one (.ref rfl)))) (.t (.one .same))) (.t (.one .sc))) (.t (.one (.ref rfl)))) (.t (.one .sc))) (.t (.one (.own rfl)))) (.t (.one .sc))) (.t (.one .sc))) (.t (.one .same))) (.t (.one .sc))) (.t (.one .peek))) (.t (.one .sc))) (.t (.one .sc))) (ac (.cells (fun h => h) (ac (.mp rfl) (ac .sc (ac .sc (ac .sc (ac .sc an)))))) (ac (.none _) (ac (.cells (fun h => h) (ac .same (ac .sc an))) (ac (.cells (fun h => h) (all2_row _)) (ac .map an)))))) (AWops.nil (AW.region ?_))
       refine s_move (d := (D.one (C.ref 0 0))) rfl ?_
       refine s_move (d := (sc (.string v10))) rfl ?_
       refine s_fieldRef F.fo_65_0 (by decide) rfl ?_
       refine s_load1 (c' := (C.p false (.sl (((mget v10 x7).getD ((⟨([] : List Int), 0⟩ : vdisk_file) : vdisk_file)).b).length ((((mget v10 x7).getD ((⟨([] : List Int), 0⟩ : vdisk_file) : vdisk_file)).b).flatMap e_u8)))) F.ag_22 rfl rfl ?_
       refine s_move (d := (sc (.int .i64 (IntKind.i64.wrap ((((mget v10 x7).getD ((⟨([] : List Int), 0⟩ : vdisk_file) : vdisk_file)).sure) + (if (IntKind.i64.wrap (((((mget v10 x7).getD ((⟨([] : List Int), 0⟩ : vdisk_file) : vdisk_file)).b).length : Int) - (((mget v10 x7).getD ((⟨([] : List Int), 0⟩ : vdisk_file) : vdisk_file)).sure))) < v15 then (IntKind.i64.wrap (((((mget v10 x7).getD ((⟨([] : List Int), 0⟩ : vdisk_file) : vdisk_file)).b).length : Int) - (((mget v10 x7).getD ((⟨([] : List Int), 0⟩ : vdisk_file) : vdisk_file)).sure))) else v15)))))) rfl ?_
       refine s_move (d := (sc (.int .i64 (IntKind.i64.wrap ((((mget v10 x7).getD ((⟨([] : List Int), 0⟩ : vdisk_file) : vdisk_file)).sure) + (if (IntKind.i64.wrap (((((mget v10 x7).getD ((⟨([] : List Int), 0⟩ : vdisk_file) : vdisk_file)).b).length : Int) - (((mget v10 x7).getD ((⟨([] : List Int), 0⟩ : vdisk_file) : vdisk_file)).sure))) < v15 then (IntKind.i64.wrap (((((mget v10 x7).getD ((⟨([] : List Int), 0⟩ : vdisk_file) : vdisk_file)).b).length : Int) - (((mget v10 x7).getD ((⟨([] : List Int), 0⟩ : vdisk_file) : vdisk_file)).sure))) else v15)))))) rfl ?_
       obtain ⟨c16, h⟩ := gdH h
       have dc16 := of_decide_eq_true c16
       refine t_slice3Imm F.u_22 F.sz_5 e_u8_len rfl rfl rfl (by omega) (by omega) ?_
       refine s_move (d := (sc (.int .i64 (IntKind.i64.wrap ((((mget v10 x7).getD ((⟨([] : List Int), 0⟩ : vdisk_file) : vdisk_file)).sure) + (if (IntKind.i64.wrap (((((mget v10 x7).getD ((⟨([] : List Int), 0⟩ : vdisk_file) : vdisk_file)).b).length : Int) - (((mget v10 x7).getD ((⟨([] : List Int), 0⟩ : vdisk_file) : vdisk_file)).sure))) < v15 then (IntKind.i64.wrap (((((mget v10 x7).getD ((⟨([] : List Int), 0⟩ : vdisk_file) : vdisk_file)).b).length : Int) - (((mget v10 x7).getD ((⟨([] : List Int), 0⟩ : vdisk_file) : vdisk_file)).sure))) else v15)))))) rfl ?_
       refine s_build (ps := [(0, (D.one (C.p false (.sl (sub (((mget v10 x7).getD ((⟨([] : List Int), 0⟩ : vdisk_file) : vdisk_file)).b) 0 (IntKind.i64.wrap ((((mget v10 x7).getD ((⟨([] : List Int), 0⟩ : vdisk_file) : vdisk_file)).sure) + (if (IntKind.i64.wrap (((((mget v10 x7).getD ((⟨([] : List Int), 0⟩ : vdisk_file) : vdisk_file)).b).length : Int) - (((mget v10 x7).getD ((⟨([] : List Int), 0⟩ : vdisk_file) : vdisk_file)).sure))) < v15 then (IntKind.i64.wrap (((((mget v10 x7).getD ((⟨([] : List Int), 0⟩ : vdisk_file) : vdisk_file)).b).length : Int) - (((mget v10 x7).getD ((⟨([] : List Int), 0⟩ : vdisk_file) : vdisk_file)).sure))) else v15)))).length ((sub (((mget v10 x7).getD ((⟨([] : List Int), 0⟩ : vdisk_file) : vdisk_file)).b) 0 (IntKind.i64.wrap ((((mget v10 x7).getD ((⟨([] : List Int), 0⟩ : vdisk_file) : vdisk_file)).sure) + (if (IntKind.i64.wrap (((((mget v10 x7).getD ((⟨([] : List Int), 0⟩ : vdisk_file) : vdisk_file)).b).length : Int) - (((mget v10 x7).getD ((⟨([] : List Int), 0⟩ : vdisk_file) : vdisk_file)).sure))) < v15 then (IntKind.i64.wrap (((((mget v10 x7).getD ((⟨([] : List Int), 0⟩ : vdisk_file) : vdisk_file)).b).length : Int) - (((mget v10 x7).getD ((⟨([] : List Int), 0⟩ : vdisk_file) : vdisk_file)).sure))) else v15)))).flatMap e_u8))))), (1, (sc (.int .i64 (IntKind.i64.wrap ((((mget v10 x7).getD ((⟨([] : List Int), 0⟩ : vdisk_file) : vdisk_file)).sure) + (if (IntKind.i64.wrap (((((mget v10 x7).getD ((⟨([] : List Int), 0⟩ : vdisk_file) : vdisk_file)).b).length : Int) - (((mget v10 x7).getD ((⟨([] : List Int), 0⟩ : vdisk_file) : vdisk_file)).sure))) < v15 then (IntKind.i64.wrap (((((mget v10 x7).getD ((⟨([] : List Int), 0⟩ : vdisk_file) : vdisk_file)).b).length : Int) - (((mget v10 x7).getD ((⟨([] : List Int), 0⟩ : vdisk_file) : vdisk_file)).sure))) else v15))))))]) (cs := [(C.p false (.sl (sub (((mget v10 x7).getD ((⟨([] : List Int), 0⟩ : vdisk_file) : vdisk_file)).b) 0 (IntKind.i64.wrap ((((mget v10 x7).getD ((⟨([] : List Int), 0⟩ : vdisk_file) : vdisk_file)).sure) + (if (IntKind.i64.wrap (((((mget v10 x7).getD ((⟨([] : List Int), 0⟩ : vdisk_file) : vdisk_file)).b).length : Int) - (((mget v10 x7).getD ((⟨([] : List Int), 0⟩ : vdisk_file) : vdisk_file)).sure))) < v15 then (IntKind.i64.wrap (((((mget v10 x7).getD ((⟨([] : List Int), 0⟩ : vdisk_file) : vdisk_file)).b).length : Int) - (((mget v10 x7).getD ((⟨([] : List Int), 0⟩ : vdisk_file) : vdisk_file)).sure))) else v15)))).length ((sub (((mget v10 x7).getD ((⟨([] : List Int), 0⟩ : vdisk_file) : vdisk_file)).b) 0 (IntKind.i64.wrap ((((mget v10 x7).getD ((⟨([] : List Int), 0⟩ : vdisk_file) : vdisk_file)).sure) + (if (IntKind.i64.wrap (((((mget v10 x7).getD ((⟨([] : List Int), 0⟩ : vdisk_file) : vdisk_file)).b).length : Int) - (((mget v10 x7).getD ((⟨([] : List Int), 0⟩ : vdisk_file) : vdisk_file)).sure))) < v15 then (IntKind.i64.wrap (((((mget v10 x7).getD ((⟨([] : List Int), 0⟩ : vdisk_file) : vdisk_file)).b).length : Int) - (((mget v10 x7).getD ((⟨([] : List Int), 0⟩ : vdisk_file) : vdisk_file)).sure))) else v15)))).flatMap e_u8))), (C.p true (.v (.int .i64 (IntKind.i64.wrap ((((mget v10 x7).getD ((⟨([] : List Int), 0⟩ : vdisk_file) : vdisk_file)).sure) + (if (IntKind.i64.wrap (((((mget v10 x7).getD ((⟨([] : List Int), 0⟩ : vdisk_file) : vdisk_file)).b).length : Int) - (((mget v10 x7).getD ((⟨([] : List Int), 0⟩ : vdisk_file) : vdisk_file)).sure))) < v15 then (IntKind.i64.wrap (((((mget v10 x7).getD ((⟨([] : List Int), 0⟩ : vdisk_file) : vdisk_file)).b).length : Int) - (((mget v10 x7).getD ((⟨([] : List Int), 0⟩ : vdisk_file) : vdisk_file)).sure))) else v15))))))]) F.z_65 rfl F.so_65 rfl rfl ?_
       obtain ⟨r17, er17, h⟩ := bnd h
       refine s_call2 (ρ := [0, 4]) (br := false) (H2 := [(some (AObj.cells false [(C.mp 5), (C.p true (.v (.int .i64 r17.room))), (C.p true (.v (.int .i64 r17.used))), (C.p true (.v (.pointer none))), (C.p true (.v (.bool r17.dead)))])), none, (some (AObj.cells true (c_vdisk_file ((mget v10 x7).getD ((⟨([] : List Int), 0⟩ : vdisk_file) : vdisk_file))))), (some (AObj.cells true (rowC e_str r3.1))), none, (some (AObj.map false (mapE true e_vdisk_file r17.files)))]) (d := (D.tup [])) F.ca_33 rfl rfl (ac (.one (.ref rfl)) (ac (.one .sc) (ac (LendT.aggL (ac .imm (ac .sc an))) an))) (ac (.cells (ac (.mp rfl) (ac .sc (ac .sc (ac .sc (ac .sc an)))))) (ac .map an)) (by decide) rfl (vdisk_Disk_set.meets _ (⟨x7, x4, x5, (), x6⟩ : vdisk_Disk) v10 (⟨sub (((mget v10 x7).getD ((⟨([] : List Int), 0⟩ : vdisk_file) : vdisk_file)).b) 0 (IntKind.i64.wrap ((((mget v10 x7).getD ((⟨([] : List Int), 0⟩ : vdisk_file) : vdisk_file)).sure) + (if (IntKind.i64.wrap (((((mget v10 x7).getD ((⟨([] : List Int), 0⟩ : vdisk_file) : vdisk_file)).b).length : Int) - (((mget v10 x7).getD ((⟨([] : List Int), 0⟩ : vdisk_file) : vdisk_file)).sure))) < v15 then (IntKind.i64.wrap (((((mget v10 x7).getD ((⟨([] : List Int), 0⟩ : vdisk_file) : vdisk_file)).b).length : Int) - (((mget v10 x7).getD ((⟨([] : List Int), 0⟩ : vdisk_file) : vdisk_file)).sure))) else v15))), IntKind.i64.wrap ((((mget v10 x7).getD ((⟨([] : List Int), 0⟩ : vdisk_file) : vdisk_file)).sure) + (if (IntKind.i64.wrap (((((mget v10 x7).getD ((⟨([] : List Int), 0⟩ : vdisk_file) : vdisk_file)).b).length : Int) - (((mget v10 x7).getD ((⟨([] : List Int), 0⟩ : vdisk_file) : vdisk_file)).sure))) < v15 then (IntKind.i64.wrap (((((mget v10 x7).getD ((⟨([] : List Int), 0⟩ : vdisk_file) : vdisk_file)).b).length : Int) - (((mget v10 x7).getD ((⟨([] : List Int), 0⟩ : vdisk_file) : vdisk_file)).sure))) else v15))⟩ : vdisk_file) r17 er17) (.inl rfl) rfl rfl (AWops.nil (AW.region ?_))
       refine s_binI (v := (.int .i64 (IntKind.i64.wrap (x8 + 1)))) rfl rfl rfl ?_
       refine s_move (d := (sc (.int .i64 (IntKind.i64.wrap (x8 + 1))))) rfl (AWops.nil ?_)
       exact ⟨_, ⟨69, (upd 69 (upd 69 (upd 69 (upd 69 (upd 69 topF 0 (D.one (C.ref 0 0))) 1 (D.one (C.p false (.sl a1.length (a1.flatMap e_i64))))) 12 (D.one (C.own 2 0 r3.1.length 1))) 13 (sc (.int .i64 (r3.1.length : Int)))) 14 (sc (.int .i64 (IntKind.i64.wrap (x8 + 1))))), [(some (AObj.cells false [(C.mp 3), (C.p true (.v (.int .i64 r17.room))), (C.p true (.v (.int .i64 r17.used))), (C.p true (.v (.pointer none))), (C.p true (.v (.bool r17.dead)))])), none, (some (AObj.cells true (rowC e_str r3.1))), (some (AObj.map false (mapE true e_vdisk_file r17.files)))]⟩, by omega, (Weak.gen (kk := 2) [0, 1, 3, 5] [] hx rfl (by decide) (by decide) rfl rfl rfl (le_upd (le_upd (le_upd (le_upd (le_upd (le_top _) (.t (.one (.ref rfl)))) (.t (.one .same))) (.t (.one (.own rfl)))) (.t (.one .sc))) (.t (.one .sc))) (ac (.cells (fun h => h) (ac (.mp rfl) (ac .sc (ac .sc (ac .sc (ac .sc an)))))) (ac (.none _) (ac (.cells (fun h => h) (all2_row _)) (ac .map an))))), by omega, r17.room, r17.used, r17.dead, r17.files, IntKind.i64.wrap (x8 + 1), h, rfl⟩
     ·refine AW.cond_no rfl c14 (AW.skip (AW.region ?_))
      refine s_move (d := (D.one (C.ref 0 0))) rfl ?_
      refine s_move (d := (sc (.string v10))) rfl ?_
      refine s_fieldRef F.fo_65_0 (by decide) rfl ?_
      refine s_load1 (c' := (C.p false (.sl (((mget v10 x7).getD ((⟨([] : List Int), 0⟩ : vdisk_file) : vdisk_file)).b).length ((((mget v10 x7).getD ((⟨([] : List Int), 0⟩ : vdisk_file) : vdisk_file)).b).flatMap e_u8)))) F.ag_22 rfl rfl ?_
      refine s_move (d := (sc (.int .i64 (((mget v10 x7).getD ((⟨([] : List Int), 0⟩ : vdisk_file) : vdisk_file)).sure)))) rfl ?_
      refine s_move (d := (sc (.int .i64 (((mget v10 x7).getD ((⟨([] : List Int), 0⟩ : vdisk_file) : vdisk_file)).sure)))) rfl ?_
      obtain ⟨c18, h⟩ := gdH h
      have dc18 := of_decide_eq_true c18
      refine t_slice3Imm F.u_22 F.sz_5 e_u8_len rfl rfl rfl (by omega) (by omega) ?_
      refine s_move (d := (sc (.int .i64 (((mget v10 x7).getD ((⟨([] : List Int), 0⟩ : vdisk_file) : vdisk_file)).sure)))) rfl ?_
      refine s_build (ps := [(0, (D.one (C.p false (.sl (sub (((mget v10 x7).getD ((⟨([] : List Int), 0⟩ : vdisk_file) : vdisk_file)).b) 0 (((mget v10 x7).getD ((⟨([] : List Int), 0⟩ : vdisk_file) : vdisk_file)).sure)).length ((sub (((mget v10 x7).getD ((⟨([] : List Int), 0⟩ : vdisk_file) : vdisk_file)).b) 0 (((mget v10 x7).getD ((⟨([] : List Int), 0⟩ : vdisk_file) : vdisk_file)).sure)).flatMap e_u8))))), (1, (sc (.int .i64 (((mget v10 x7).getD ((⟨([] : List Int), 0⟩ : vdisk_file) : vdisk_file)).sure))))]) (cs := [(C.p false (.sl (sub (((mget v10 x7).getD ((⟨([] : List Int), 0⟩ : vdisk_file) : vdisk_file)).b) 0 (((mget v10 x7).getD ((⟨([] : List Int), 0⟩ : vdisk_file) : vdisk_file)).sure)).length ((sub (((mget v10 x7).getD ((⟨([] : List Int), 0⟩ : vdisk_file) : vdisk_file)).b) 0 (((mget v10 x7).getD ((⟨([] : List Int), 0⟩ : vdisk_file) : vdisk_file)).sure)).flatMap e_u8))), (C.p true (.v (.int .i64 (((mget v10 x7).getD ((⟨([] : List Int), 0⟩ : vdisk_file) : vdisk_file)).sure))))]) F.z_65 rfl F.so_65 rfl rfl ?_
      obtain ⟨r19, er19, h⟩ := bnd h
      refine s_call2 (ρ := [0, 3]) (br := false) (H2 := [(some (AObj.cells false [(C.mp 5), (C.p true (.v (.int .i64 r19.room))), (C.p true (.v (.int .i64 r19.used))), (C.p true (.v (.pointer none))), (C.p true (.v (.bool r19.dead)))])), none, (some (AObj.cells true (rowC e_str r3.1))), none, (some (AObj.cells true (c_vdisk_file ((mget v10 x7).getD ((⟨([] : List Int), 0⟩ : vdisk_file) : vdisk_file))))), (some (AObj.map false (mapE true e_vdisk_file r19.files)))]) (d := (D.tup [])) F.ca_33 rfl rfl (ac (.one (.ref rfl)) (ac (.one .sc) (ac (LendT.aggL (ac .imm (ac .sc an))) an))) (ac (.cells (ac (.mp rfl) (ac .sc (ac .sc (ac .sc (ac .sc an)))))) (ac .map an)) (by decide) rfl (vdisk_Disk_set.meets _ (⟨x7, x4, x5, (), x6⟩ : vdisk_Disk) v10 (⟨sub (((mget v10 x7).getD ((⟨([] : List Int), 0⟩ : vdisk_file) : vdisk_file)).b) 0 (((mget v10 x7).getD ((⟨([] : List Int), 0⟩ : vdisk_file) : vdisk_file)).sure), ((mget v10 x7).getD ((⟨([] : List Int), 0⟩ : vdisk_file) : vdisk_file)).sure⟩ : vdisk_file) r19 er19) (.inl rfl) rfl rfl (AWops.nil (AW.region ?_))
      refine s_binI (v := (.int .i64 (IntKind.i64.wrap (x8 + 1)))) rfl rfl rfl ?_
      refine s_move (d := (sc (.int .i64 (IntKind.i64.wrap (x8 + 1))))) rfl (AWops.nil ?_)
      exact ⟨_, ⟨69, (upd 69 (upd 69 (upd 69 (upd 69 (upd 69 topF 0 (D.one (C.ref 0 0))) 1 (D.one (C.p false (.sl a1.length (a1.flatMap e_i64))))) 12 (D.one (C.own 2 0 r3.1.length 1))) 13 (sc (.int .i64 (r3.1.length : Int)))) 14 (sc (.int .i64 (IntKind.i64.wrap (x8 + 1))))), [(some (AObj.cells false [(C.mp 3), (C.p true (.v (.int .i64 r19.room))), (C.p true (.v (.int .i64 r19.used))), (C.p true (.v (.pointer none))), (C.p true (.v (.bool r19.dead)))])), none, (some (AObj.cells true (rowC e_str r3.1))), (some (AObj.map false (mapE true e_vdisk_file r19.files)))]⟩, by omega, (Weak.gen (kk := 2) [0, 1, 2, 5] [] hx rfl (by decide) (by decide) rfl rfl rfl (le_upd (le_upd (le_upd (le_upd (le_upd (le_top _) (.t (.one (.ref rfl)))) (.t (.one .same))) (.t (.one (.own rfl)))) (.t (.one .sc))) (.t (.one .sc))) (ac (.cells (fun h => h) (ac (.mp rfl) (ac .sc (ac .sc (ac .sc (ac .sc an)))))) (ac (.none _) (ac (.cells (fun h => h) (all2_row _)) (ac .map an))))), by omega, r19.room, r19.used, r19.dead, r19.files, IntKind.i64.wrap (x8 + 1), h, rfl⟩
    ·iterate 5 refine AWops.guard_no rfl (nl rfl) rfl c12 ?_
     refine s_pick_no (d := (sc (.bool false))) rfl c12 rfl (AWops.nil ?_)
     refine AW.cond_no rfl rfl (AW.skip (AW.region ?_))
     refine s_move (d := (D.one (C.ref 0 0))) rfl ?_
     refine s_move (d := (sc (.string v10))) rfl ?_
     refine s_fieldRef F.fo_65_0 (by decide) rfl ?_
     refine s_load1 (c' := (C.p false (.sl (((mget v10 x7).getD ((⟨([] : List Int), 0⟩ : vdisk_file) : vdisk_file)).b).length ((((mget v10 x7).getD ((⟨([] : List Int), 0⟩ : vdisk_file) : vdisk_file)).b).flatMap e_u8)))) F.ag_22 rfl rfl ?_
     refine s_move (d := (sc (.int .i64 (((mget v10 x7).getD ((⟨([] : List Int), 0⟩ : vdisk_file) : vdisk_file)).sure)))) rfl ?_
     refine s_move (d := (sc (.int .i64 (((mget v10 x7).getD ((⟨([] : List Int), 0⟩ : vdisk_file) : vdisk_file)).sure)))) rfl ?_
     obtain ⟨c20, h⟩ := gdH h
     have dc20 := of_decide_eq_true c20
     refine t_slice3Imm F.u_22 F.sz_5 e_u8_len rfl rfl rfl (by omega) (by omega) ?_
     refine s_move (d := (sc (.int .i64 (((mget v10 x7).getD ((⟨([] : List Int), 0⟩ : vdisk_file) : vdisk_file)).sure)))) rfl ?_
     refine s_build (ps := [(0, (D.one (C.p false (.sl (sub (((mget v10 x7).getD ((⟨([] : List Int), 0⟩ : vdisk_file) : vdisk_file)).b) 0 (((mget v10 x7).getD ((⟨([] : List Int), 0⟩ : vdisk_file) : vdisk_file)).sure)).length ((sub (((mget v10 x7).getD ((⟨([] : List Int), 0⟩ : vdisk_file) : vdisk_file)).b) 0 (((mget v10 x7).getD ((⟨([] : List Int), 0⟩ : vdisk_file) : vdisk_file)).sure)).flatMap e_u8))))), (1, (sc (.int .i64 (((mget v10 x7).getD ((⟨([] : List Int), 0⟩ : vdisk_file) : vdisk_file)).sure))))]) (cs := [(C.p false (.sl (sub (((mget v10 x7).getD ((⟨([] : List Int), 0⟩ : vdisk_file) : vdisk_file)).b) 0 (((mget v10 x7).getD ((⟨([] : List Int), 0⟩ : vdisk_file) : vdisk_file)).sure)).length ((sub (((mget v10 x7).getD ((⟨([] : List Int), 0⟩ : vdisk_file) : vdisk_file)).b) 0 (((mget v10 x7).getD ((⟨([] : List Int), 0⟩ : vdisk_file) : vdisk_file)).sure)).flatMap e_u8))), (C.p true (.v (.int .i64 (((mget v10 x7).getD ((⟨([] : List Int), 0⟩ : vdisk_file) : vdisk_file)).sure))))]) F.z_65 rfl F.so_65 rfl rfl ?_
     obtain ⟨r21, er21, h⟩ := bnd h
     refine s_call2 (ρ := [0, 3]) (br := false) (H2 := [(some (AObj.cells false [(C.mp 5), (C.p true (.v (.int .i64 r21.room))), (C.p true (.v (.int .i64 r21.used))), (C.p true (.v (.pointer none))), (C.p true (.v (.bool r21.dead)))])), none, (some (AObj.cells true (rowC e_str r3.1))), none, (some (AObj.cells true (c_vdisk_file ((mget v10 x7).getD ((⟨([] : List Int), 0⟩ : vdisk_file) : vdisk_file))))), (some (AObj.map false (mapE true e_vdisk_file r21.files)))]) (d := (D.tup [])) F.ca_33 rfl rfl (ac (.one (.ref rfl)) (ac (.one .sc) (ac (LendT.aggL (ac .imm (ac .sc an))) an))) (ac (.cells (ac (.mp rfl) (ac .sc (ac .sc (ac .sc (ac .sc an)))))) (ac .map an)) (by decide) rfl (vdisk_Disk_set.meets _ (⟨x7, x4, x5, (), x6⟩ : vdisk_Disk) v10 (⟨sub (((mget v10 x7).getD ((⟨([] : List Int), 0⟩ : vdisk_file) : vdisk_file)).b) 0 (((mget v10 x7).getD ((⟨([] : List Int), 0⟩ : vdisk_file) : vdisk_file)).sure), ((mget v10 x7).getD ((⟨([] : List Int), 0⟩ : vdisk_file) : vdisk_file)).sure⟩ : vdisk_file) r21 er21) (.inl rfl) rfl rfl (AWops.nil (AW.region ?_))
     refine s_binI (v := (.int .i64 (IntKind.i64.wrap (x8 + 1)))) rfl rfl rfl ?_
     refine s_move (d := (sc (.int .i64 (IntKind.i64.wrap (x8 + 1))))) rfl (AWops.nil ?_)
     exact ⟨_, ⟨69, (upd 69 (upd 69 (upd 69 (upd 69 (upd 69 topF 0 (D.one (C.ref 0 0))) 1 (D.one (C.p false (.sl a1.length (a1.flatMap e_i64))))) 12 (D.one (C.own 2 0 r3.1.length 1))) 13 (sc (.int .i64 (r3.1.length : Int)))) 14 (sc (.int .i64 (IntKind.i64.wrap (x8 + 1))))), [(some (AObj.cells false [(C.mp 3), (C.p true (.v (.int .i64 r21.room))), (C.p true (.v (.int .i64 r21.used))), (C.p true (.v (.pointer none))), (C.p true (.v (.bool r21.dead)))])), none, (some (AObj.cells true (rowC e_str r3.1))), (some (AObj.map false (mapE true e_vdisk_file r21.files)))]⟩, by omega, (Weak.gen (kk := 2) [0, 1, 2, 5] [] hx rfl (by decide) (by decide) rfl rfl rfl (le_upd (le_upd (le_upd (le_upd (le_upd (le_top _) (.t (.one (.ref rfl)))) (.t (.one .same))) (.t (.one (.own rfl)))) (.t (.one .sc))) (.t (.one .sc))) (ac (.cells (fun h => h) (ac (.mp rfl) (ac .sc (ac .sc (ac .sc (ac .sc an)))))) (ac (.none _) (ac (.cells (fun h => h) (all2_row _)) (ac .map an))))), by omega, r21.room, r21.used, r21.dead, r21.files, IntKind.i64.wrap (x8 + 1), h, rfl⟩
   ·refine AW.cond_no rfl c9 (AW.exit (AW.seq (AW.region ?_)))
    refine s_move (d := (D.one (C.ref 0 0))) rfl ?_
    refine s_move (d := (D.one (C.ref 0 0))) rfl ?_
    refine s_nilCheck (d := (D.one (C.ref 0 0))) rfl (.inl ⟨_, _, rfl⟩) ?_
    refine s_fieldRef F.fo_50_4 (by decide) rfl ?_
    refine s_store (cs' := [(C.mp 3), (C.p true (.v (.int .i64 x4))), (C.p true (.v (.int .i64 x5))), (C.p true (.v (.pointer none))), (C.p true (.v (.bool false)))]) rfl rfl rfl (List.cons_ne_nil _ _) rfl F.sz_4 (nl rfl) rfl ?_
    refine s_nilCheck (d := (D.one (C.ref 0 0))) rfl (.inl ⟨_, _, rfl⟩) ?_
    refine s_fieldRef F.fo_50_3 (by decide) rfl ?_
    refine s_store (cs' := [(C.mp 3), (C.p true (.v (.int .i64 x4))), (C.p true (.v (.int .i64 x5))), (C.p true (.v (.pointer none))), (C.p true (.v (.bool false)))]) rfl rfl rfl (List.cons_ne_nil _ _) rfl F.sz_48 (nl rfl) rfl (AWops.nil (AW.seq (AW.region ?_)))
    refine s_assign (d := (sc (.int .i64 0))) rfl (AWops.nil (AW.ret ?_))
    obtain rfl := Option.some.inj h
    exact ⟨_, rfl, (Weak.gen (kk := 2) [0, 1, 3] [] rfl rfl (by decide) (by decide) rfl rfl rfl (le_upd (le_top _) (.t (.one .sc))) (ac (.cells (fun h => h) (ac (.mp rfl) (ac .sc (ac .sc (ac .sc (ac .sc an)))))) (ac (.none _) (ac .map an))))⟩
def slices_Clone_byte_byte.f (k : Nat) (a0 : List Int) : Option (List Int) := if (decide (([] : List Int).length + a0.length ≤ 140737488355328)) = true then (some a0) else none
theorem slices_Clone_byte_byte.meets (k : Nat) (a0 : List Int) (r : (List Int)) (h : slices_Clone_byte_byte.f k a0 = some r) : Meets Try.prog 36 [(D.one (C.p false (.sl a0.length (a0.flatMap e_u8))))] [] (D.one (C.own 0 0 r.length 1)) [(some (AObj.cells true (rowC e_u8 r)))] := by
 unfold slices_Clone_byte_byte.f at h
 refine Meets.of_body (n := 8) Try.func36 rfl rfl (nl rfl) fun x hx => ?_
 replace hx : x.k = 0 := hx
 show AW _ x _ _ ⟨8, fr0 [(D.one (C.p false (.sl a0.length (a0.flatMap e_u8))))], []⟩
 refine AW.seq (AW.region ?_)
 refine s_assign (d := (sc (.slice none 0 0))) rfl (AWops.nil (AW.seq (AW.seq (AW.region ?_))))
 refine s_move (d := (D.one (C.p false (.sl a0.length (a0.flatMap e_u8))))) rfl ?_
 refine s_eqNil (n := _) F.u_22 rfl (fun _ _ h => by cases h) rfl (.inl rfl) (fun b w => ?_)
 cases b with
 | false =>
  refine AWops.nil ?_
  refine AW.cond_no rfl rfl (AW.skip (AW.seq (AW.region ?_)))
  refine s_buildSlice (n := 0) (ps := []) (cs := rowC e_u8 ([] : List Int)) F.u_22 F.sz_5 F.z_5 rfl rfl (by decide) (by decide) rfl rfl ?_
  refine s_move (d := (D.one (C.p false (.sl a0.length (a0.flatMap e_u8))))) rfl ?_
  obtain ⟨c1, h⟩ := gdH h
  have dc1 := of_decide_eq_true c1
  refine t_append (xs := ([] : List Int)) (ys := a0) (zs := a0) (H' := [none, (some (AObj.cells true (rowC e_u8 a0)))]) F.u_22 F.in_5 rfl e_u8_len (.own rfl rfl) .imm F.u_22 (by omega) (by omega) rfl rfl ?_
  refine s_assign (d := (D.one (C.own 1 0 a0.length 1))) rfl (AWops.nil (AW.ret ?_))
  obtain rfl := Option.some.inj h
  exact ⟨_, rfl, (Weak.gen (kk := 0) [1] [] rfl rfl (by decide) (by decide) rfl rfl rfl (le_upd (le_top _) (.t (.one (.own rfl)))) (ac (.cells (fun h => h) (all2_row _)) an))⟩
 | true =>
  obtain rfl : a0 = [] := by cases a0 with | nil => rfl | cons _ _ => exact absurd (w (by simp)) (by decide)
  replace h : (some ([] : List Int)) = some r := by simpa [bytesI] using h
  skip
  refine AWops.nil ?_
  refine AW.cond_yes rfl rfl (AW.seq (AW.region ?_))
  refine s_assign (d := (sc (.slice none 0 0))) rfl (AWops.nil (AW.ret ?_))
  obtain rfl := Option.some.inj h
  exact ⟨_, rfl, (Weak.trans (Weak.nil (sz := 1) (i := 0) rfl) (Weak.gen (kk := 0) [0] [] rfl rfl (by decide) (by decide) rfl rfl rfl (le_upd (le_top _) (.t (.one (CLe.ownN rfl (by simp))))) (ac (.cells (fun h => h) an) an)))⟩
def vdisk_Disk_Read.f (k : Nat) (p0 : vdisk_Disk) (a1 : ByteArray) : Option ((List Int) × Int × vdisk_Disk) := (vdisk_Disk_none.f k p0).bind fun r1 => if r1.1 = true then (some (([] : List Int), 2, r1.2)) else (if r1.2.dead = true then (some (([] : List Int), 70, r1.2)) else (if ((mget a1 r1.2.files).isSome) = true then ((slices_Clone_byte_byte.f k (((mget a1 r1.2.files).getD ((⟨([] : List Int), 0⟩ : vdisk_file) : vdisk_file)).b)).bind fun r5 => some (r5, 0, r1.2)) else (some (([] : List Int), 33, r1.2))))
theorem vdisk_Disk_Read.meets (k : Nat) (p0 : vdisk_Disk) (a1 : ByteArray) (r : (List Int) × Int × vdisk_Disk) (h : vdisk_Disk_Read.f k p0 a1 = some r) : Meets Try.prog 12 [(D.one (C.ref 0 0)), (sc (.string a1))] [(some (AObj.cells false [(C.mp 1), (C.p true (.v (.int .i64 p0.room))), (C.p true (.v (.int .i64 p0.used))), (C.p true (.v (.pointer none))), (C.p true (.v (.bool p0.dead)))])), (some (AObj.map false (mapE true e_vdisk_file p0.files)))] (D.tup [(D.one (C.p false (.sl r.1.length (r.1.flatMap e_u8)))), (sc (.int .i64 r.2.1))]) [(some (AObj.cells false [(C.mp 2), (C.p true (.v (.int .i64 r.2.2.room))), (C.p true (.v (.int .i64 r.2.2.used))), (C.p true (.v (.pointer none))), (C.p true (.v (.bool r.2.2.dead)))])), none, (some (AObj.map false (mapE true e_vdisk_file r.2.2.files)))] := by
 unfold vdisk_Disk_Read.f at h
 refine Meets.of_body (n := 30) Try.func12 rfl rfl (nl rfl) fun x hx => ?_
 replace hx : x.k = 2 := hx
 show AW _ x _ _ ⟨30, fr0 [(D.one (C.ref 0 0)), (sc (.string a1))], [(some (AObj.cells false [(C.mp 1), (C.p true (.v (.int .i64 p0.room))), (C.p true (.v (.int .i64 p0.used))), (C.p true (.v (.pointer none))), (C.p true (.v (.bool p0.dead)))])), (some (AObj.map false (mapE true e_vdisk_file p0.files)))]⟩
 refine AW.weak (st' := ⟨30, (upd 30 (upd 30 topF 0 (D.one (C.ref 0 0))) 1 (sc (.string a1))), [(some (AObj.cells false [(C.mp 2), (C.p true (.v (.int .i64 p0.room))), (C.p true (.v (.int .i64 p0.used))), (C.p true (.v (.pointer none))), (C.p true (.v (.bool p0.dead)))])), none, (some (AObj.map false (mapE true e_vdisk_file p0.files)))]⟩) (Weak.genL (kk := 2) [0, 1, 1] [] hx rfl (by decide) rfl rfl rfl rfl (le_upd (le_upd (le_top _) (.t (.one (.ref rfl)))) (.t (.one .sc))) (ac (.cells (fun h => h) (ac (.mp rfl) (ac .sc (ac .sc (ac .sc (ac .sc an)))))) (ac (.none _) (ac .map an)))) (AW.seq (AW.region ?_))
 refine s_assign (d := (sc (.slice none 0 0))) rfl ?_
 refine s_assign (d := (sc (.int .i64 0))) rfl (AWops.nil (AW.seq (AW.block (AW.seq (AW.region ?_)))))
 refine s_move (d := (D.one (C.ref 0 0))) rfl ?_
 obtain ⟨r1, er1, h⟩ := bnd h
 refine s_call2 (ρ := [0, 2]) (br := false) (H2 := [(some (AObj.cells false [(C.mp 3), (C.p true (.v (.int .i64 r1.2.room))), (C.p true (.v (.int .i64 r1.2.used))), (C.p true (.v (.pointer none))), (C.p true (.v (.bool r1.2.dead)))])), none, none, (some (AObj.map false (mapE true e_vdisk_file r1.2.files)))]) (d := (sc (.bool r1.1))) F.ca_35 rfl rfl (ac (.one (.ref rfl)) an) (ac (.cells (ac (.mp rfl) (ac .sc (ac .sc (ac .sc (ac .sc an)))))) (ac .map an)) (by decide) rfl (vdisk_Disk_none.meets _ p0 r1 er1) (.inl rfl) rfl rfl ?_
 refine s_assign (d := (sc (.bool r1.1))) rfl (AWops.nil ?_)
 rcases itH h with ⟨c2, h⟩ | ⟨c2, h⟩
 ·refine AW.cond_yes rfl c2 (AW.seq (AW.region ?_))
  refine s_assign (d := (sc (.slice none 0 0))) rfl ?_
  refine s_assign (d := (sc (.int .i64 2))) rfl (AWops.nil (AW.ret ?_))
  obtain rfl := Option.some.inj h
  exact ⟨_, rfl, (Weak.gen (kk := 2) [0, 1, 3] [] rfl rfl (by decide) (by decide) rfl rfl rfl (le_upd (le_top _) (DLe.tup (ac (TLe.one .nil) (ac (TLe.one .sc) an)))) (ac (.cells (fun h => h) (ac (.mp rfl) (ac .sc (ac .sc (ac .sc (ac .sc an)))))) (ac (.none _) (ac .map an))))⟩
 ·refine AW.cond_no rfl c2 (AW.seq (AW.region ?_))
  refine s_move (d := (D.one (C.ref 0 0))) rfl ?_
  refine s_nilCheck (d := (D.one (C.ref 0 0))) rfl (.inl ⟨_, _, rfl⟩) ?_
  refine s_fieldRef F.fo_50_4 (by decide) rfl ?_
  refine s_load1 (c' := (C.p true (.v (.bool r1.2.dead)))) F.ag_4 rfl rfl ?_
  refine s_assign (d := (sc (.bool r1.2.dead))) rfl (AWops.nil ?_)
  rcases itH h with ⟨c3, h⟩ | ⟨c3, h⟩
  ·refine AW.cond_yes rfl c3 (AW.seq (AW.region ?_))
   refine s_assign (d := (sc (.slice none 0 0))) rfl ?_
   refine s_assign (d := (sc (.int .i64 70))) rfl (AWops.nil (AW.ret ?_))
   obtain rfl := Option.some.inj h
   exact ⟨_, rfl, (Weak.gen (kk := 2) [0, 1, 3] [] rfl rfl (by decide) (by decide) rfl rfl rfl (le_upd (le_top _) (DLe.tup (ac (TLe.one .nil) (ac (TLe.one .sc) an)))) (ac (.cells (fun h => h) (ac (.mp rfl) (ac .sc (ac .sc (ac .sc (ac .sc an)))))) (ac (.none _) (ac .map an))))⟩
  ·refine AW.cond_no rfl c3 (AW.skip (AW.seq (AW.region ?_)))
   refine s_move (d := (D.one (C.ref 0 0))) rfl ?_
   refine s_nilCheck (d := (D.one (C.ref 0 0))) rfl (.inl ⟨_, _, rfl⟩) ?_
   refine s_fieldRef F.fo_50_0 (by decide) rfl ?_
   refine s_load1 (c' := (C.mp 3)) F.ag_47 rfl rfl ?_
   refine s_move (d := (sc (.string a1))) rfl ?_
   refine t_lookupOk (b := true) F.u_47 F.u_9 F.z_65 (z := ((⟨([] : List Int), 0⟩ : vdisk_file) : vdisk_file)) (zs := [(.slice none 0 0), (.int .i64 0)]) rfl (fun h => by cases h) (ac ZRel.n (ac (ZRel.v _ rfl) an)) rfl rfl rfl rfl ?_
   refine s_move (d := (D.tup [(D.agg (c_vdisk_file ((mget a1 r1.2.files).getD ((⟨([] : List Int), 0⟩ : vdisk_file) : vdisk_file)))), (sc (.bool ((mget a1 r1.2.files).isSome)))])) rfl ?_
   refine s_extract (d := (D.agg (c_vdisk_file ((mget a1 r1.2.files).getD ((⟨([] : List Int), 0⟩ : vdisk_file) : vdisk_file))))) rfl rfl ?_
   refine s_extract (d := (sc (.bool ((mget a1 r1.2.files).isSome)))) rfl rfl ?_
   refine s_alloc (cs := [(C.p true (.v (.slice none 0 0))), (C.p true (.v (.int .i64 0)))]) F.z_65 rfl rfl ?_
   refine s_store (cs' := (c_vdisk_file ((mget a1 r1.2.files).getD ((⟨([] : List Int), 0⟩ : vdisk_file) : vdisk_file)))) rfl rfl rfl (List.cons_ne_nil _ _) rfl F.sz_65 (nl rfl) rfl ?_
   refine s_assign (d := (sc (.bool ((mget a1 r1.2.files).isSome)))) rfl (AWops.nil (AW.seq (AW.seq (AW.region ?_))))
   refine s_move (d := (sc (.bool ((mget a1 r1.2.files).isSome)))) rfl ?_
   refine s_not rfl (AWops.nil ?_)
   rcases itH h with ⟨c4, h⟩ | ⟨c4, h⟩
   ·refine AW.cond_no rfl (by rw [c4] <;> rfl) (AW.skip (AW.seq (AW.region ?_)))
    refine s_fieldRef F.fo_65_0 (by decide) rfl ?_
    refine s_load1 (c' := (C.p false (.sl (((mget a1 r1.2.files).getD ((⟨([] : List Int), 0⟩ : vdisk_file) : vdisk_file)).b).length ((((mget a1 r1.2.files).getD ((⟨([] : List Int), 0⟩ : vdisk_file) : vdisk_file)).b).flatMap e_u8)))) F.ag_22 rfl rfl ?_
    obtain ⟨r5, er5, h⟩ := bnd h
    refine s_call2 (ρ := []) (br := false) (H2 := [(some (AObj.cells false [(C.mp 3), (C.p true (.v (.int .i64 r1.2.room))), (C.p true (.v (.int .i64 r1.2.used))), (C.p true (.v (.pointer none))), (C.p true (.v (.bool r1.2.dead)))])), none, none, (some (AObj.map false (mapE true e_vdisk_file r1.2.files))), (some (AObj.cells true (c_vdisk_file ((mget a1 r1.2.files).getD ((⟨([] : List Int), 0⟩ : vdisk_file) : vdisk_file))))), (some (AObj.cells true (rowC e_u8 r5)))]) (d := (D.one (C.own 5 0 r5.length 1))) F.ca_36 rfl rfl (ac (.one .imm) an) an (by decide) rfl (slices_Clone_byte_byte.meets _ (((mget a1 r1.2.files).getD ((⟨([] : List Int), 0⟩ : vdisk_file) : vdisk_file)).b) r5 er5) (.inl rfl) (by first | rfl | (simp only [mergeH2, orF, Bool.false_or, Bool.or_false, Bool.true_or, Bool.or_true, mergeAt, mergeObj, renO, ren_row, List.drop_succ_cons, List.drop_zero, List.map_cons, List.map_nil, Option.map_some, Option.map_none, List.length_cons, List.length_nil, Nat.zero_add, List.append_assoc, List.cons_append, List.nil_append]; done) | (simp only [mergeH2, orF, Bool.false_or, Bool.or_false, Bool.true_or, Bool.or_true, mergeAt, mergeObj, renO, ren_row, List.drop_succ_cons, List.drop_zero, List.map_cons, List.map_nil, Option.map_some, Option.map_none, List.length_cons, List.length_nil, Nat.zero_add, List.append_assoc, List.cons_append, List.nil_append]; rfl)) rfl ?_
    refine s_assign (d := (D.one (C.own 5 0 r5.length 1))) rfl ?_
    refine s_assign (d := (sc (.int .i64 0))) rfl (AWops.nil (AW.ret ?_))
    obtain rfl := Option.some.inj h
    exact ⟨_, rfl, (Weak.gen (kk := 2) [0, 1, 3] [5] rfl rfl (by decide) (by decide) rfl rfl rfl (le_upd (le_top _) (DLe.tup (ac (TLe.one (CLe.frz e_u8_len rfl rfl rfl)) (ac (TLe.one .sc) an)))) (ac (.cells (fun h => h) (ac (.mp rfl) (ac .sc (ac .sc (ac .sc (ac .sc an)))))) (ac (.none _) (ac .map an))))⟩
   ·refine AW.cond_yes rfl (by rw [c4] <;> rfl) (AW.seq (AW.region ?_))
    refine s_assign (d := (sc (.slice none 0 0))) rfl ?_
    refine s_assign (d := (sc (.int .i64 33))) rfl (AWops.nil (AW.ret ?_))
    obtain rfl := Option.some.inj h
    exact ⟨_, rfl, (Weak.gen (kk := 2) [0, 1, 3] [] rfl rfl (by decide) (by decide) rfl rfl rfl (le_upd (le_top _) (DLe.tup (ac (TLe.one .nil) (ac (TLe.one .sc) an)))) (ac (.cells (fun h => h) (ac (.mp rfl) (ac .sc (ac .sc (ac .sc (ac .sc an)))))) (ac (.none _) (ac .map an))))⟩
def bytes_Equal.f (k : Nat) (a0 : List Int) (a1 : List Int) : Option Bool := some ((ofNums a0).toList == (ofNums a1).toList)
theorem bytes_Equal.meets (k : Nat) (a0 : List Int) (a1 : List Int) (r : Bool) (h : bytes_Equal.f k a0 a1 = some r) : Meets Try.prog 28 [(D.one (C.p false (.sl a0.length (a0.flatMap e_u8)))), (D.one (C.p false (.sl a1.length (a1.flatMap e_u8))))] [] (sc (.bool r)) [] := by
 unfold bytes_Equal.f at h
 refine Meets.of_body (n := 10) Try.func28 rfl rfl (nl rfl) fun x hx => ?_
 replace hx : x.k = 0 := hx
 show AW _ x _ _ ⟨10, fr0 [(D.one (C.p false (.sl a0.length (a0.flatMap e_u8)))), (D.one (C.p false (.sl a1.length (a1.flatMap e_u8))))], []⟩
 refine AW.seq (AW.region ?_)
 refine s_assign (d := (sc (.bool false))) rfl (AWops.nil (AW.seq (AW.region ?_)))
 refine s_move (d := (D.one (C.p false (.sl a0.length (a0.flatMap e_u8))))) rfl ?_
 refine t_toStr (xs := a0) F.u_22 F.u_5 F.u_9 .imm ?_
 refine s_move (d := (D.one (C.p false (.sl a1.length (a1.flatMap e_u8))))) rfl ?_
 refine t_toStr (xs := a1) F.u_22 F.u_5 F.u_9 .imm ?_
 refine s_binS (v := (.bool ((ofNums a0).toList == (ofNums a1).toList))) rfl rfl rfl ?_
 refine s_assign (d := (sc (.bool ((ofNums a0).toList == (ofNums a1).toList)))) rfl (AWops.nil (AW.ret ?_))
 obtain rfl := Option.some.inj h
 exact ⟨_, rfl, (Weak.gen (kk := 0) [] [] rfl rfl (by decide) (by decide) rfl rfl rfl (le_upd (le_top _) (.t (.one .sc))) an)⟩
def bytes_HasPrefix.f (k : Nat) (a0 : List Int) (a1 : List Int) : Option Bool := if (decide ((a0.length : Int) ≥ (a1.length : Int))) = true then (if (decide (0 ≤ 0 ∧ 0 ≤ (a1.length : Int) ∧ (a1.length : Int) ≤ (a0.length : Int))) = true then ((bytes_Equal.f k (sub a0 0 (a1.length : Int)) a1).bind fun r3 => some r3) else none) else (some false)
theorem bytes_HasPrefix.meets (k : Nat) (a0 : List Int) (a1 : List Int) (r : Bool) (h : bytes_HasPrefix.f k a0 a1 = some r) : Meets Try.prog 13 [(D.one (C.p false (.sl a0.length (a0.flatMap e_u8)))), (D.one (C.p false (.sl a1.length (a1.flatMap e_u8))))] [] (sc (.bool r)) [] := by
 unfold bytes_HasPrefix.f at h
 refine Meets.of_body (n := 18) Try.func13 rfl rfl (nl rfl) fun x hx => ?_
 replace hx : x.k = 0 := hx
 show AW _ x _ _ ⟨18, fr0 [(D.one (C.p false (.sl a0.length (a0.flatMap e_u8)))), (D.one (C.p false (.sl a1.length (a1.flatMap e_u8))))], []⟩
 refine AW.seq (AW.region ?_)
 refine s_assign (d := (sc (.bool false))) rfl (AWops.nil (AW.seq (AW.region ?_)))
 refine s_move (d := (D.one (C.p false (.sl a0.length (a0.flatMap e_u8))))) rfl ?_
 refine s_len (n := a0.length) F.u_22 rfl (.inr ⟨(fun _ _ h => by cases h), ⟨_, rfl⟩⟩) ?_
 refine s_move (d := (D.one (C.p false (.sl a1.length (a1.flatMap e_u8))))) rfl ?_
 refine s_len (n := a1.length) F.u_22 rfl (.inr ⟨(fun _ _ h => by cases h), ⟨_, rfl⟩⟩) ?_
 refine s_binI (v := (.bool (decide ((a0.length : Int) ≥ (a1.length : Int))))) rfl rfl rfl ?_
 refine s_move (d := (sc (.bool (decide ((a0.length : Int) ≥ (a1.length : Int)))))) rfl ?_
 rcases itH h with ⟨c1, h⟩ | ⟨c1, h⟩
 ·refine AWops.guard_yes rfl (nl rfl) rfl c1 ?_
  refine s_move (d := (D.one (C.p false (.sl a0.length (a0.flatMap e_u8))))) rfl ?_
  refine AWops.guard_yes rfl (nl rfl) rfl c1 ?_
  refine s_move (d := (D.one (C.p false (.sl a1.length (a1.flatMap e_u8))))) rfl ?_
  refine AWops.guard_yes rfl (nl rfl) rfl c1 ?_
  refine s_len (n := a1.length) F.u_22 rfl (.inr ⟨(fun _ _ h => by cases h), ⟨_, rfl⟩⟩) ?_
  refine AWops.guard_yes rfl (nl rfl) rfl c1 ?_
  obtain ⟨c2, h⟩ := gdH h
  have dc2 := of_decide_eq_true c2
  refine t_sliceImm (a := 0) (b := (a1.length : Int)) F.u_22 F.sz_5 e_u8_len rfl (by omega) (by omega) (by omega) .no (.yes rfl (by omega) rfl) ?_
  refine AWops.guard_yes rfl (nl rfl) rfl c1 ?_
  refine s_move (d := (D.one (C.p false (.sl a1.length (a1.flatMap e_u8))))) rfl ?_
  refine AWops.guard_yes rfl (nl rfl) rfl c1 ?_
  obtain ⟨r3, er3, h⟩ := bnd h
  refine s_call2 (ρ := []) (br := false) (H2 := []) (d := (sc (.bool r3))) F.ca_28 rfl rfl (ac (.one .imm) (ac (.one .imm) an)) an (by decide) rfl (bytes_Equal.meets _ (sub a0 0 (a1.length : Int)) a1 r3 er3) (.inl rfl) rfl rfl ?_
  refine s_pick_yes (d := (sc (.bool r3))) rfl c1 rfl ?_
  refine s_assign (d := (sc (.bool r3))) rfl (AWops.nil (AW.ret ?_))
  obtain rfl := Option.some.inj h
  exact ⟨_, rfl, (Weak.gen (kk := 0) [] [] rfl rfl (by decide) (by decide) rfl rfl rfl (le_upd (le_top _) (.t (.one .sc))) an)⟩
 ·iterate 6 refine AWops.guard_no rfl (nl rfl) rfl c1 ?_
  refine s_pick_no (d := (sc (.bool false))) rfl c1 rfl ?_
  refine s_assign (d := (sc (.bool false))) rfl (AWops.nil (AW.ret ?_))
  obtain rfl := Option.some.inj h
  exact ⟨_, rfl, (Weak.gen (kk := 0) [] [] rfl rfl (by decide) (by decide) rfl rfl rfl (le_upd (le_top _) (.t (.one .sc))) an)⟩
def vdisk_New_8x.f (k : Nat) : Option (vdisk_Disk × Int) := some ((⟨([] : List (ByteArray × vdisk_file)), 9, 0, (), false⟩ : vdisk_Disk), 0)
theorem vdisk_New_8x.meets (k : Nat) (r : vdisk_Disk × Int) (h : vdisk_New_8x.f k = some r) : Meets Try.prog 8 [(sc (.int .i64 9))] [] (D.tup [(D.one (C.ref 0 0)), (sc (.int .i64 r.2))]) [(some (AObj.cells true [(C.mp 1), (C.p true (.v (.int .i64 r.1.room))), (C.p true (.v (.int .i64 r.1.used))), (C.p true (.v (.pointer none))), (C.p true (.v (.bool r.1.dead)))])), (some (AObj.map false (mapE true e_vdisk_file r.1.files)))] := by
 unfold vdisk_New_8x.f at h
 refine Meets.of_body (n := 14) Try.func8 rfl rfl (nl rfl) fun x hx => ?_
 replace hx : x.k = 0 := hx
 show AW _ x _ _ ⟨14, fr0 [(sc (.int .i64 9))], []⟩
 refine AW.seq (AW.region ?_)
 refine s_assign (d := (sc (.pointer none))) rfl ?_
 refine s_assign (d := (sc (.int .i64 0))) rfl (AWops.nil (AW.seq (AW.seq (AW.region ?_))))
 refine s_move (d := (sc (.int .i64 9))) rfl ?_
 refine s_binI (v := (.bool false)) rfl rfl rfl ?_
 refine s_move (d := (sc (.bool false))) rfl ?_
 refine AWops.guard_yes rfl (nl rfl) rfl rfl ?_
 refine s_move (d := (sc (.int .i64 9))) rfl ?_
 refine AWops.guard_yes rfl (nl rfl) rfl rfl ?_
 refine s_binI (v := (.bool false)) rfl rfl rfl ?_
 refine s_pick_no (d := (sc (.bool false))) rfl rfl rfl (AWops.nil ?_)
 refine AW.cond_no rfl rfl (AW.skip (AW.seq (AW.region ?_)))
 refine t_makeMap ?_
 refine s_move (d := (sc (.int .i64 9))) rfl ?_
 refine s_build (ps := [(0, (D.one (C.mp 0))), (1, (sc (.int .i64 9)))]) (cs := [(C.mp 0), (C.p true (.v (.int .i64 9))), (C.p true (.v (.int .i64 0))), (C.p true (.v (.pointer none))), (C.p true (.v (.bool false)))]) F.z_50 rfl F.so_50 rfl rfl ?_
 refine s_box (cs := [(C.mp 0), (C.p true (.v (.int .i64 9))), (C.p true (.v (.int .i64 0))), (C.p true (.v (.pointer none))), (C.p true (.v (.bool false)))]) rfl (List.cons_ne_nil _ _) rfl ?_
 refine s_assign (d := (D.one (C.ref 1 0))) rfl ?_
 refine s_assign (d := (sc (.int .i64 0))) rfl (AWops.nil (AW.ret ?_))
 obtain rfl := Option.some.inj h
 exact ⟨_, rfl, (Weak.gen (kk := 0) [1, 0] [] rfl rfl (by decide) (by decide) rfl rfl rfl (le_upd (le_top _) (DLe.tup (ac (TLe.one (.ref rfl)) (ac (TLe.one .sc) an)))) (ac (.cells (fun h => h) (ac (.mp rfl) (ac .sc (ac .sc (ac .sc (ac .sc an)))))) (ac .map an)))⟩
end Go.Abs.GenV
