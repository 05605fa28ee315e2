import Derived.Test.YtgeieafnnlmfdaaAbsZ
import Derived.Test.YtgeieafnnlmfdaaAbsSK
import Derived.Test.YtgeieafnnlmfdaaProg
set_option linter.unusedVariables false
set_option linter.unusedSimpArgs false
set_option maxRecDepth 100000
set_option maxHeartbeats 4000000
namespace Go.Abs.GenK
open Go.Abs Go.Proofs
structure vdisk_file where
 b : List Int
 sure : Int
abbrev c_vdisk_file (x : vdisk_file) : List C := [(C.p false (.sl x.b.length (x.b.flatMap e_u8))), (C.p true (.v (.int .i64 x.sure)))]
abbrev p_vdisk_file (x : vdisk_file) : List P := [P.sl x.b.length (x.b.flatMap e_u8), P.v (.int .i64 x.sure)]
def e_vdisk_file (x : vdisk_file) : List P := (e_sl e_u8) x.b ++ e_i64 x.sure
theorem e_vdisk_file_eq (x : vdisk_file) : e_vdisk_file x = [P.sl x.b.length (x.b.flatMap e_u8), P.v (.int .i64 x.sure)] := rfl
theorem e_vdisk_file_len (x : vdisk_file) : (e_vdisk_file x).length = 2 := by rw [e_vdisk_file_eq]; rfl
structure vdisk_Disk where
 files : List (ByteArray × vdisk_file)
 room : Int
 used : Int
 fuse : Unit
 dead : Bool
structure journal_Journal where
 d : Unit
 snap : List Int
 l : List (List Int)
 stopped : Bool
abbrev lk_vdisk_file (k : ByteArray) (m : List (ByteArray × vdisk_file)) : vdisk_file := (mget k m).getD ((⟨([] : List Int), 0⟩ : vdisk_file) : vdisk_file)
abbrev o_vdisk_Disk_03 (fr : Bool) (c0 c3 : C) (x : vdisk_Disk) : Option AObj := some (AObj.cells fr [c0, (C.p true (.v (.int .i64 x.room))), (C.p true (.v (.int .i64 x.used))), c3, (C.p true (.v (.bool x.dead)))])
abbrev o_journal_Journal_02 (fr : Bool) (c0 c2 : C) (x : journal_Journal) : Option AObj := some (AObj.cells fr [c0, (C.p false (.sl x.snap.length (x.snap.flatMap e_u8))), c2, (C.p true (.v (.bool x.stopped)))])
abbrev o_journal_Journal_0 (fr : Bool) (c0 : C) (x : journal_Journal) : Option AObj := some (AObj.cells fr [c0, (C.p false (.sl x.snap.length (x.snap.flatMap e_u8))), (C.p false (.sl x.l.length (x.l.flatMap (e_sl e_u8)))), (C.p true (.v (.bool x.stopped)))])
namespace F
theorem z_37 : zeroOf Try.prog 37 = some (.agg #[(.map none), (.int .i64 0), (.int .i64 0), (.pointer none), (.bool false)]) := by kernel_rfl
theorem so_37 : structOk Try.prog 37 = true := by kernel_rfl
theorem u_24 : Try.prog.underlying 24 = some (.pointer 37) := by kernel_rfl
theorem fo_37_0 : fieldOf Try.prog 37 0 = some (0, 1, false) := by kernel_rfl
theorem u_34 : Try.prog.underlying 34 = some (.map 9 79) := by kernel_rfl
theorem ag_34 : aggOf Try.prog 34 = some false := by kernel_rfl
theorem fo_37_4 : fieldOf Try.prog 37 4 = some (4, 1, false) := by kernel_rfl
theorem u_9 : Try.prog.underlying 9 = some (.string) := by kernel_rfl
theorem z_79 : zeroOf Try.prog 79 = some (.agg #[(.slice none 0 0), (.int .i64 0)]) := by kernel_rfl
theorem fo_37_1 : fieldOf Try.prog 37 1 = some (1, 1, false) := by kernel_rfl
theorem ag_3 : aggOf Try.prog 3 = some false := by kernel_rfl
theorem fo_37_2 : fieldOf Try.prog 37 2 = some (2, 1, false) := by kernel_rfl
theorem fo_37_3 : fieldOf Try.prog 37 3 = some (3, 1, false) := by kernel_rfl
theorem u_35 : Try.prog.underlying 35 = some (.pointer 3) := by kernel_rfl
theorem ag_35 : aggOf Try.prog 35 = some false := by kernel_rfl
theorem sz_79 : szOf Try.prog 79 = some 2 := by kernel_rfl
theorem ag_4 : aggOf Try.prog 4 = some false := by kernel_rfl
theorem ca_34 : callable Try.prog 34 = true := by kernel_rfl
theorem fo_79_0 : fieldOf Try.prog 79 0 = some (0, 1, false) := by kernel_rfl
theorem u_22 : Try.prog.underlying 22 = some (.slice 5) := by kernel_rfl
theorem sz_3 : szOf Try.prog 3 = some 1 := by kernel_rfl
theorem ca_59 : callable Try.prog 59 = true := by kernel_rfl
theorem ca_55 : callable Try.prog 55 = true := by kernel_rfl
theorem z_27 : zeroOf Try.prog 27 = some (.agg #[(.pointer none), (.slice none 0 0), (.slice none 0 0), (.bool false)]) := by kernel_rfl
theorem so_27 : structOk Try.prog 27 = true := by kernel_rfl
theorem in_5 : infoQ Try.prog 5 = some (some (.int .u8 0), 1, 1) := by kernel_rfl
theorem sz_5 : szOf Try.prog 5 = some 1 := by kernel_rfl
theorem z_5 : zeroOf Try.prog 5 = some (.int .u8 0) := by kernel_rfl
theorem ca_28 : callable Try.prog 28 = true := by kernel_rfl
theorem ag_22 : aggOf Try.prog 22 = some false := by kernel_rfl
theorem u_5 : Try.prog.underlying 5 = some (.int .u8) := by kernel_rfl
theorem u_120 : Try.prog.underlying 120 = some (.int .u32) := by kernel_rfl
theorem ag_5 : aggOf Try.prog 5 = some false := by kernel_rfl
theorem u_3 : Try.prog.underlying 3 = some (.int .i64) := by kernel_rfl
theorem z_97 : zeroOf Try.prog 97 = some (.agg #[(.int .u8 0), (.int .u8 0), (.int .u8 0), (.int .u8 0), (.int .u8 0), (.int .u8 0), (.int .u8 0), (.int .u8 0)]) := by kernel_rfl
theorem u_97 : Try.prog.underlying 97 = some (.array 8 5) := by kernel_rfl
theorem u_25 : Try.prog.underlying 25 = some (.slice 22) := by kernel_rfl
theorem sz_22 : szOf Try.prog 22 = some 1 := by kernel_rfl
theorem ca_78 : callable Try.prog 78 = true := by kernel_rfl
theorem ca_57 : callable Try.prog 57 = true := by kernel_rfl
theorem z_22 : zeroOf Try.prog 22 = some (.slice none 0 0) := by kernel_rfl
theorem ca_58 : callable Try.prog 58 = true := by kernel_rfl
theorem fo_79_1 : fieldOf Try.prog 79 1 = some (1, 1, false) := by kernel_rfl
theorem so_79 : structOk Try.prog 79 = true := by kernel_rfl
theorem ag_79 : aggOf Try.prog 79 = some true := by kernel_rfl
theorem ca_36 : callable Try.prog 36 = true := by kernel_rfl
theorem ca_56 : callable Try.prog 56 = true := by kernel_rfl
theorem ca_42 : callable Try.prog 42 = true := by kernel_rfl
theorem ca_27 : callable Try.prog 27 = true := by kernel_rfl
theorem ca_25 : callable Try.prog 25 = true := by kernel_rfl
theorem ca_26 : callable Try.prog 26 = true := by kernel_rfl
theorem fo_27_1 : fieldOf Try.prog 27 1 = some (1, 1, false) := by kernel_rfl
theorem ca_29 : callable Try.prog 29 = true := by kernel_rfl
theorem ca_32 : callable Try.prog 32 = true := by kernel_rfl
theorem ca_31 : callable Try.prog 31 = true := by kernel_rfl
theorem u_23 : Try.prog.underlying 23 = some (.pointer 27) := by kernel_rfl
theorem fo_27_0 : fieldOf Try.prog 27 0 = some (0, 1, false) := by kernel_rfl
theorem ag_24 : aggOf Try.prog 24 = some false := by kernel_rfl
theorem fo_27_3 : fieldOf Try.prog 27 3 = some (3, 1, false) := by kernel_rfl
theorem ca_30 : callable Try.prog 30 = true := by kernel_rfl
theorem sz_4 : szOf Try.prog 4 = some 1 := by kernel_rfl
theorem fo_27_2 : fieldOf Try.prog 27 2 = some (2, 1, false) := by kernel_rfl
theorem ag_25 : aggOf Try.prog 25 = some false := by kernel_rfl
theorem in_22 : infoQ Try.prog 22 = some (some (.slice none 0 0), 1, 24) := by kernel_rfl
theorem sz_25 : szOf Try.prog 25 = some 1 := by kernel_rfl
theorem ca_24 : callable Try.prog 24 = true := by kernel_rfl
theorem ca_7 : callable Try.prog 7 = true := by kernel_rfl
theorem u_46 : Try.prog.underlying 46 = some (.int .u64) := by kernel_rfl
theorem sz_35 : szOf Try.prog 35 = some 1 := by kernel_rfl
theorem ca_8 : callable Try.prog 8 = true := by kernel_rfl
theorem ca_61 : callable Try.prog 61 = true := by kernel_rfl
theorem ca_62 : callable Try.prog 62 = true := by kernel_rfl
theorem u_42 : Try.prog.underlying 42 = some (.slice 3) := by kernel_rfl
theorem ag_9 : aggOf Try.prog 9 = some false := by kernel_rfl
theorem u_76 : Try.prog.underlying 76 = some (.slice 9) := by kernel_rfl
theorem sz_9 : szOf Try.prog 9 = some 1 := by kernel_rfl
theorem ca_35 : callable Try.prog 35 = true := by kernel_rfl
theorem ca_79 : callable Try.prog 79 = true := by kernel_rfl
theorem ca_60 : callable Try.prog 60 = true := by kernel_rfl
theorem ca_44 : callable Try.prog 44 = true := by kernel_rfl
theorem ca_33 : callable Try.prog 33 = true := by kernel_rfl
theorem ca_17 : callable Try.prog 17 = true := by kernel_rfl
theorem ca_37 : callable Try.prog 37 = true := by kernel_rfl
theorem ca_9 : callable Try.prog 9 = true := by kernel_rfl
theorem ca_10 : callable Try.prog 10 = true := by kernel_rfl
theorem ca_12 : callable Try.prog 12 = true := by kernel_rfl
theorem ca_14 : callable Try.prog 14 = true := by kernel_rfl
theorem ca_13 : callable Try.prog 13 = true := by kernel_rfl
theorem ca_18 : callable Try.prog 18 = true := by kernel_rfl
theorem ca_16 : callable Try.prog 16 = true := by kernel_rfl
theorem ca_15 : callable Try.prog 15 = true := by kernel_rfl
end F
def vdisk_New.f (k : Nat) (a0 : Int) : Option (vdisk_Disk × Int) := if (decide (a0 < 0)) = true then (none) else (if (decide (a0 > 4194304)) = true then (none) else (some ((⟨([] : List (ByteArray × vdisk_file)), a0, 0, (), false⟩ : vdisk_Disk), 0)))
theorem vdisk_New.meets (k : Nat) (a0 : Int) (r : vdisk_Disk × Int) (h : vdisk_New.f k a0 = some r) : Meets Try.prog 14 [(si a0)] [] (D.tup [(rf 0 0), (si r.2)]) [(o_vdisk_Disk_03 true (C.mp 1) np r.1), (om_ e_vdisk_file r.1.files)] := by
 unfold vdisk_New.f at h
 refine Meets.of_body (n := 14) Try.func14 rfl rfl (nl rfl) fun x hx => ?_
 replace hx : x.k = 0 := hx
 show AW _ x _ _ ⟨14, fr0 [(si a0)], []⟩
 refine AW.seq (AW.region ?_)
 refine s_assign (d := (sc (.pointer none))) rfl (s_assign (d := (si 0)) rfl (AWops.nil (AW.seq (AW.seq (AW.region (s_move (d := (si a0)) rfl (s_binI (v := (.bool (decide (a0 < 0)))) rfl rfl rfl (s_move (d := (sb (decide (a0 < 0)))) rfl ?_))))))))
 rcases itH h with ⟨c1, h⟩ | ⟨c1, h⟩
 ·refine AWops.guard_no rfl (nl rfl) rfl c1 ?_
  refine AWops.guard_no rfl (nl rfl) rfl c1 ?_
  refine s_pick_yes (d := (sb true)) rfl c1 rfl (AWops.nil ?_)
  refine AW.cond_yes rfl rfl (AW.seq (AW.region ?_))
  refine s_assign (d := (sc (.pointer none))) rfl (s_assign (d := (si 1)) rfl (AWops.nil (AW.ret ?_)))
  cases h
 ·refine AWops.guard_yes rfl (nl rfl) rfl c1 ?_
  refine s_move (d := (si a0)) rfl ?_
  refine AWops.guard_yes rfl (nl rfl) rfl c1 ?_
  refine s_binI (v := (.bool (decide (a0 > 4194304)))) rfl rfl rfl (s_pick_no (d := (sb (decide (a0 > 4194304)))) rfl c1 rfl (AWops.nil ?_))
  rcases itH h with ⟨c2, h⟩ | ⟨c2, h⟩
  ·refine AW.cond_yes rfl c2 (AW.seq (AW.region ?_))
   refine s_assign (d := (sc (.pointer none))) rfl (s_assign (d := (si 1)) rfl (AWops.nil (AW.ret ?_)))
   cases h
  ·refine AW.cond_no rfl c2 (AW.skip (AW.seq (AW.region ?_)))
   refine t_makeMap (s_move (d := (si a0)) rfl (s_build (ps := [(0, (D.one (C.mp 0))), (1, (si a0))]) (cs := [(C.mp 0), (ci a0), (ci 0), np, (cb false)]) F.z_37 rfl F.so_37 rfl rfl (s_box (cs := [(C.mp 0), (ci a0), (ci 0), np, (cb false)]) rfl (List.cons_ne_nil _ _) rfl (s_assign (d := (rf 1 0)) rfl (s_assign (d := (si 0)) rfl (AWops.nil (AW.ret ?_)))))))
   obtain rfl := Option.some.inj h
   exact ⟨_, rfl, (wg 0 [1, 0] [] rfl (le_upd (le_top _) (DLe.tup (ac (TLe.one (.ref rfl)) (ac (TLe.one .sc) an)))) (ac (.cells (fun _ => rfl) (ac (.mp rfl) (ac .sc (ac .sc (ac .sc (ac .sc an)))))) (ac .map an)))⟩
def vdisk_Disk_none.f (k : Nat) (p0 : vdisk_Disk) : Option Bool := some false
theorem vdisk_Disk_none.meets (k : Nat) (p0 : vdisk_Disk) (r : Bool) (h : vdisk_Disk_none.f k p0 = some r) : Meets Try.prog 34 [(rf 0 0)] [(o_vdisk_Disk_03 false (C.mp 1) np p0), (om_ e_vdisk_file p0.files)] (sb r) [(o_vdisk_Disk_03 false (C.mp 1) np p0), (om_ e_vdisk_file p0.files)] := by
 unfold vdisk_Disk_none.f at h
 refine Meets.of_body (n := 12) Try.func34 rfl rfl (nl rfl) fun x hx => ?_
 replace hx : x.k = 2 := hx
 show AW _ x _ _ ⟨12, fr0 [(rf 0 0)], [(o_vdisk_Disk_03 false (C.mp 1) np p0), (om_ e_vdisk_file p0.files)]⟩
 refine AW.seq (AW.region ?_)
 refine s_assign (d := (sb false)) rfl (AWops.nil (AW.seq (AW.region ?_)))
 refine s_move (d := (rf 0 0)) rfl (s_ptrNil (b := false) F.u_24 rfl (.inl ⟨⟨_, _, rfl⟩, rfl⟩) (.inl rfl) (s_move (d := (sb false)) rfl ?_))
 refine AWops.guard_yes rfl (nl rfl) rfl rfl ?_
 refine s_move (d := (rf 0 0)) rfl ?_
 refine AWops.guard_yes rfl (nl rfl) rfl rfl ?_
 refine s_nilCheck (d := (rf 0 0)) rfl (.inl ⟨_, _, rfl⟩) ?_
 refine AWops.guard_yes rfl (nl rfl) rfl rfl ?_
 refine s_fieldRef F.fo_37_0 (by decide) rfl ?_
 refine AWops.guard_yes rfl (nl rfl) rfl rfl ?_
 refine s_load1 (c' := (C.mp 1)) F.ag_34 rfl rfl ?_
 refine AWops.guard_yes rfl (nl rfl) rfl rfl ?_
 refine s_mapNil (b := false) F.u_34 rfl (.inr ⟨rfl, _, rfl⟩) (.inl ⟨rfl, rfl⟩) (s_pick_no (d := (sb false)) rfl rfl rfl (s_assign (d := (sb false)) rfl (AWops.nil (AW.ret ?_))))
 obtain rfl := Option.some.inj h
 exact ⟨_, rfl, (wg 2 [0, 1] [] rfl (le_upd (le_top _) (o1 .sc)) (ac (qs rfl) (ac .map an)))⟩
theorem vdisk_Disk_none.const {k : Nat} {p0 : vdisk_Disk} {r : Bool} (h : vdisk_Disk_none.f k p0 = some r) : r = false := by
 unfold vdisk_Disk_none.f at h
 exact (Option.some.inj h).symm
def vdisk_Disk_change.f (k : Nat) (p0 : vdisk_Disk) (a1 : Bool) (a2 : ByteArray) (a3 : Bool) (a4 : Int) : Option Int := (vdisk_Disk_none.f k p0).bind fun r1 => if a1 = true then (if p0.dead = true then (some 70) else (if ((mget a2 p0.files).isSome) = true then (if (decide (a4 > 0)) = true then (if (decide (a4 > (IntKind.i64.wrap (p0.room - p0.used)))) = true then (some 71) else (some 0)) else (some 0)) else (if a3 = true then (if (decide (a4 > 0)) = true then (if (decide (a4 > (IntKind.i64.wrap (p0.room - p0.used)))) = true then (some 71) else (some 0)) else (some 0)) else (some 33)))) else (some 1)
theorem vdisk_Disk_change.meets (k : Nat) (p0 : vdisk_Disk) (a1 : Bool) (a2 : ByteArray) (a3 : Bool) (a4 : Int) (r : Int) (h : vdisk_Disk_change.f k p0 a1 a2 a3 a4 = some r) : Meets Try.prog 55 [(rf 0 0), (sb a1), (st_ a2), (sb a3), (si a4)] [(o_vdisk_Disk_03 false (C.mp 1) np p0), (om_ e_vdisk_file p0.files)] (si r) [(o_vdisk_Disk_03 false (C.mp 1) np p0), (om_ e_vdisk_file p0.files)] := by
 unfold vdisk_Disk_change.f at h
 refine Meets.of_body (n := 77) Try.func55 rfl rfl (nl rfl) fun x hx => ?_
 replace hx : x.k = 2 := hx
 show AW _ x _ _ ⟨77, fr0 [(rf 0 0), (sb a1), (st_ a2), (sb a3), (si a4)], [(o_vdisk_Disk_03 false (C.mp 1) np p0), (om_ e_vdisk_file p0.files)]⟩
 refine AW.seq (AW.region ?_)
 refine s_assign (d := (si 0)) rfl (AWops.nil (AW.seq (AW.block (AW.seq (AW.region ?_)))))
 refine s_move (d := (rf 0 0)) rfl ?_
 obtain ⟨r1, er1, h⟩ := bnd h
 have kr1 := vdisk_Disk_none.const er1
 subst kr1
 refine cc [0, 1] [(o_vdisk_Disk_03 false (C.mp 1) np p0), (om_ e_vdisk_file p0.files)] (sb false) F.ca_34 rfl rfl (ac (.one (.ref rfl)) an) (ac (.cells (ac (.mp rfl) (ac .sc (ac .sc (ac .sc (ac .sc an)))))) (ac .map an)) (vdisk_Disk_none.meets _ p0 false er1) (s_assign (d := (sb false)) rfl (AWops.nil ?_))
 refine AW.cond_no rfl rfl (AW.seq (AW.region ?_))
 refine s_move (d := (sb a1)) rfl (s_not rfl (s_assign (d := (sb (!a1))) rfl (AWops.nil ?_)))
 rcases itH h with ⟨c2, h⟩ | ⟨c2, h⟩
 ·refine AW.cond_no rfl (by rw [c2] <;> rfl) (AW.seq (AW.region ?_))
  refine s_move (d := (rf 0 0)) rfl (s_nilCheck (d := (rf 0 0)) rfl (.inl ⟨_, _, rfl⟩) (s_fieldRef F.fo_37_4 (by decide) rfl (s_load1 (c' := (cb p0.dead)) F.ag_4 rfl rfl (s_assign (d := (sb p0.dead)) rfl (AWops.nil ?_)))))
  rcases itH h with ⟨c3, h⟩ | ⟨c3, h⟩
  ·refine AW.cond_yes rfl c3 (AW.seq (AW.region ?_))
   refine s_assign (d := (si 70)) rfl (AWops.nil (AW.ret ?_))
   obtain rfl := Option.some.inj h
   exact ⟨_, rfl, (wg 2 [0, 1] [] rfl (le_upd (le_top _) (o1 .sc)) (ac (qs rfl) (ac .map an)))⟩
  ·refine AW.cond_no rfl c3 (AW.skip (AW.seq (AW.seq (AW.region ?_))))
   refine s_move (d := (rf 0 0)) rfl (s_nilCheck (d := (rf 0 0)) rfl (.inl ⟨_, _, rfl⟩) (s_fieldRef F.fo_37_0 (by decide) rfl (s_load1 (c' := (C.mp 1)) F.ag_34 rfl rfl (s_move (d := (st_ a2)) rfl (t_lookupOk (b := true) F.u_34 F.u_9 F.z_79 (z := ((⟨([] : List Int), 0⟩ : vdisk_file) : vdisk_file)) (zs := [(.slice none 0 0), (.int .i64 0)]) rfl (fun h => by cases h) (ac ZRel.n (ac (ZRel.v _ rfl) an)) rfl rfl rfl rfl ?_)))))
   refine s_move (d := (D.tup [(D.agg (c_vdisk_file (lk_vdisk_file a2 p0.files))), (sb ((mget a2 p0.files).isSome))])) rfl (s_extract (d := (D.agg (c_vdisk_file (lk_vdisk_file a2 p0.files)))) rfl rfl (s_extract (d := (sb ((mget a2 p0.files).isSome))) rfl rfl (s_alloc (cs := [(C.p true (.v (.slice none 0 0))), (ci 0)]) F.z_79 rfl rfl (s_store (cs' := (c_vdisk_file (lk_vdisk_file a2 p0.files))) rfl rfl rfl (List.cons_ne_nil _ _) rfl F.sz_79 (nl rfl) rfl (s_assign (d := (sb ((mget a2 p0.files).isSome))) rfl (AWops.nil (AW.seq (AW.region ?_))))))))
   refine s_move (d := (sb ((mget a2 p0.files).isSome))) rfl (s_not rfl (s_move (d := (sb (!((mget a2 p0.files).isSome)))) rfl ?_))
   rcases itH h with ⟨c4, h⟩ | ⟨c4, h⟩
   ·refine AWops.guard_no rfl (nl rfl) rfl (by rw [c4] <;> rfl) ?_
    refine AWops.guard_no rfl (nl rfl) rfl (by rw [c4] <;> rfl) ?_
    refine s_pick_no (d := (sb false)) rfl (by rw [c4] <;> rfl) rfl (AWops.nil ?_)
    refine AW.cond_no rfl rfl (AW.skip (AW.seq (AW.seq ?_)))
    refine AW.weak (st' := ⟨77, (upd 77 (upd 77 topF 0 (rf 0 0)) 4 (si a4)), [(o_vdisk_Disk_03 false (C.mp 1) np p0), (om_ e_vdisk_file p0.files)]⟩) (wg 2 [0, 1] [] hx (le_upd (le_upd (le_top _) (o1 (.ref rfl))) (o1 .sc)) (ac (qs rfl) (ac .map an))) ?_
    rcases itH h with ⟨c5, h⟩ | ⟨c5, h⟩
    ·refine AW.draw (n := 77) (L := 2) [(ft 0 39 (si a4) [(4, (si a4))]), (ft 1 40 (sb (decide (a4 > 0))) [(39, (si a4))]), (ft 2 41 (sb (decide (a4 > 0))) [(40, (sb (decide (a4 > 0))))]), (ft 3 42 (si a4) [(4, (si a4)), (41, (sb (decide (a4 > 0))))]), (ft 4 43 (rf 0 0) [(0, (rf 0 0)), (41, (sb (decide (a4 > 0))))]), (ft 5 44 (rf 0 0) [(41, (sb (decide (a4 > 0)))), (43, (rf 0 0))]), (ft 6 45 (rf 0 1) [(41, (sb (decide (a4 > 0)))), (44, (rf 0 0))]), (7, ⟨some 46, (si p0.room), [(41, (sb (decide (a4 > 0)))), (45, (rf 0 1))], [(0, (o_vdisk_Disk_03 false (C.mp 1) np p0))], [], none⟩), (ft 8 47 (rf 0 0) [(0, (rf 0 0)), (41, (sb (decide (a4 > 0))))]), (ft 9 48 (rf 0 0) [(41, (sb (decide (a4 > 0)))), (47, (rf 0 0))]), (ft 10 49 (rf 0 2) [(41, (sb (decide (a4 > 0)))), (48, (rf 0 0))]), (11, ⟨some 50, (si p0.used), [(41, (sb (decide (a4 > 0)))), (49, (rf 0 2))], [(0, (o_vdisk_Disk_03 false (C.mp 1) np p0))], [], none⟩), (ft 12 51 (si (IntKind.i64.wrap (p0.room - p0.used))) [(41, (sb (decide (a4 > 0)))), (46, (si p0.room)), (50, (si p0.used))]), (ft 13 52 (sb (decide (a4 > (IntKind.i64.wrap (p0.room - p0.used))))) [(41, (sb (decide (a4 > 0)))), (42, (si a4)), (51, (si (IntKind.i64.wrap (p0.room - p0.used))))]), (ft 14 53 (sb (decide (a4 > (IntKind.i64.wrap (p0.room - p0.used))))) [(41, (sb (decide (a4 > 0)))), (52, (sb (decide (a4 > (IntKind.i64.wrap (p0.room - p0.used))))))])] [[], [0], [0, 1], [0, 1, 2], [0, 1, 2], [0, 1, 2, 4], [0, 1, 2, 4, 5], [0, 1, 2, 4, 5, 6], [0, 1, 2], [0, 1, 2, 8], [0, 1, 2, 8, 9], [0, 1, 2, 8, 9, 10], [0, 1, 2, 4, 5, 6, 7, 8, 9, 10, 11], (.range 13), (.range 14)] (nl rfl) [0, 1, 2, 3, 3, 4, 5, 6, 3, 4, 5, 6, 7, 8, 9] rfl (TK := []) rfl AllK.nil' (by repeat (first | refine fC ⟨?_, ?_⟩ ?_ | refine sC rfl ?_ | refine hC rfl ?_ | trivial)) ?_ ?_
     ·refine y8 ?_ ?_ ?_ ?_ ?_ ?_ ?_ ?_ (y4 ?_ ?_ ?_ ?_ (y2 ?_ ?_ (pC ?_ yN)))
      ·intro K _ f w u k
       show Wp K ⟨77, (upd 77 f 4 (si a4)), _⟩
       refine s_move (d := (si a4)) rfl k
      ·intro K _ f w u k
       show Wp K ⟨77, (upd 77 f 39 (si a4)), _⟩
       refine s_binI (v := (.bool (decide (a4 > 0)))) rfl rfl rfl k
      ·intro K _ f w u k
       show Wp K ⟨77, (upd 77 f 40 (sb (decide (a4 > 0)))), _⟩
       refine s_move (d := (sb (decide (a4 > 0)))) rfl k
      ·intro K _ f w u k
       show Wp K ⟨77, (upd 77 (upd 77 f 41 (sb (decide (a4 > 0)))) 4 (si a4)), _⟩
       refine AWops.guard_yes rfl (nl rfl) rfl c5 ?_
       refine s_move (d := (si a4)) rfl k
      ·intro K _ f w u k
       show Wp K ⟨77, (upd 77 (upd 77 f 41 (sb (decide (a4 > 0)))) 0 (rf 0 0)), _⟩
       refine AWops.guard_yes rfl (nl rfl) rfl c5 ?_
       refine s_move (d := (rf 0 0)) rfl k
      ·intro K _ f w u k
       show Wp K ⟨77, (upd 77 (upd 77 f 43 (rf 0 0)) 41 (sb (decide (a4 > 0)))), [_, _]⟩
       refine AWops.guard_yes rfl (nl rfl) rfl c5 ?_
       refine s_nilCheck (d := (rf 0 0)) rfl (.inl ⟨_, _, rfl⟩) k
      ·intro K _ f w u k
       show Wp K ⟨77, (upd 77 (upd 77 f 44 (rf 0 0)) 41 (sb (decide (a4 > 0)))), [_, _]⟩
       refine AWops.guard_yes rfl (nl rfl) rfl c5 ?_
       refine s_fieldRef F.fo_37_1 (by decide) rfl k
      ·intro K _ f w u k
       show Wp K ⟨77, (upd 77 (upd 77 f 45 (rf 0 1)) 41 (sb (decide (a4 > 0)))), [(o_vdisk_Disk_03 false (C.mp 1) np p0), _]⟩
       refine AWops.guard_yes rfl (nl rfl) rfl c5 ?_
       refine s_load1 (c' := (ci p0.room)) F.ag_3 rfl rfl k
      ·intro K _ f w u k
       show Wp K ⟨77, (upd 77 (upd 77 f 41 (sb (decide (a4 > 0)))) 0 (rf 0 0)), _⟩
       refine AWops.guard_yes rfl (nl rfl) rfl c5 ?_
       refine s_move (d := (rf 0 0)) rfl k
      ·intro K _ f w u k
       show Wp K ⟨77, (upd 77 (upd 77 f 47 (rf 0 0)) 41 (sb (decide (a4 > 0)))), [_, _]⟩
       refine AWops.guard_yes rfl (nl rfl) rfl c5 ?_
       refine s_nilCheck (d := (rf 0 0)) rfl (.inl ⟨_, _, rfl⟩) k
      ·intro K _ f w u k
       show Wp K ⟨77, (upd 77 (upd 77 f 48 (rf 0 0)) 41 (sb (decide (a4 > 0)))), [_, _]⟩
       refine AWops.guard_yes rfl (nl rfl) rfl c5 ?_
       refine s_fieldRef F.fo_37_2 (by decide) rfl k
      ·intro K _ f w u k
       show Wp K ⟨77, (upd 77 (upd 77 f 49 (rf 0 2)) 41 (sb (decide (a4 > 0)))), [(o_vdisk_Disk_03 false (C.mp 1) np p0), _]⟩
       refine AWops.guard_yes rfl (nl rfl) rfl c5 ?_
       refine s_load1 (c' := (ci p0.used)) F.ag_3 rfl rfl k
      ·intro K _ f w u k
       show Wp K ⟨77, (upd 77 (upd 77 (upd 77 f 50 (si p0.used)) 46 (si p0.room)) 41 (sb (decide (a4 > 0)))), _⟩
       refine AWops.guard_yes rfl (nl rfl) rfl c5 ?_
       refine s_binI (v := (.int .i64 (IntKind.i64.wrap (p0.room - p0.used)))) rfl rfl rfl k
      ·intro K _ f w u k
       show Wp K ⟨77, (upd 77 (upd 77 (upd 77 f 51 (si (IntKind.i64.wrap (p0.room - p0.used)))) 42 (si a4)) 41 (sb (decide (a4 > 0)))), _⟩
       refine AWops.guard_yes rfl (nl rfl) rfl c5 ?_
       refine s_binI (v := (.bool (decide (a4 > (IntKind.i64.wrap (p0.room - p0.used)))))) rfl rfl rfl k
      ·intro K _ f w u k
       show Wp K ⟨77, (upd 77 (upd 77 f 52 (sb (decide (a4 > (IntKind.i64.wrap (p0.room - p0.used)))))) 41 (sb (decide (a4 > 0)))), _⟩
       refine s_pick_yes (d := (sb (decide (a4 > (IntKind.i64.wrap (p0.room - p0.used)))))) rfl c5 rfl k
     ·refine AWops.weak (st' := ⟨77, (upd 77 (upd 77 topF 0 (rf 0 0)) 53 (sb (decide (a4 > (IntKind.i64.wrap (p0.room - p0.used)))))), [(o_vdisk_Disk_03 false (C.mp 1) np p0), (om_ e_vdisk_file p0.files)]⟩) (wg 2 [0, 1] [] hx (le_upd (le_upd (le_top _) (o1 (.ref rfl))) (o1 .sc)) (ac (qs rfl) (ac .map an))) (AWops.nil ?_)
      rcases itH h with ⟨c6, h⟩ | ⟨c6, h⟩
      ·refine AW.cond_yes rfl c6 (AW.seq (AW.region ?_))
       refine s_assign (d := (si 71)) rfl (AWops.nil (AW.ret ?_))
       obtain rfl := Option.some.inj h
       exact ⟨_, rfl, (wg 2 [0, 1] [] rfl (le_upd (le_top _) (o1 .sc)) (ac (qs rfl) (ac .map an)))⟩
      ·refine AW.cond_no rfl c6 (AW.skip (AW.seq (AW.seq (AW.region ?_))))
       refine s_move (d := (rf 0 0)) rfl (s_nilCheck (d := (rf 0 0)) rfl (.inl ⟨_, _, rfl⟩) (s_fieldRef F.fo_37_3 (by decide) rfl (s_load1 (c' := np) F.ag_35 rfl rfl (s_ptrNil (b := true) F.u_35 rfl (.inr ⟨⟨_, rfl⟩, rfl⟩) (.inr rfl) (AWops.nil ?_)))))
       refine AW.cond_no rfl rfl (AW.skip (AW.seq (AW.region ?_)))
       refine s_assign (d := (si 0)) rfl (AWops.nil (AW.ret ?_))
       obtain rfl := Option.some.inj h
       exact ⟨_, rfl, (wg 2 [0, 1] [] rfl (le_upd (le_top _) (o1 .sc)) (ac (qs rfl) (ac .map an)))⟩
    ·refine AW.draw (n := 77) (L := 2) [(ft 0 39 (si a4) [(4, (si a4))]), (ft 1 40 (sb (decide (a4 > 0))) [(39, (si a4))]), (ft 2 41 (sb (decide (a4 > 0))) [(40, (sb (decide (a4 > 0))))]), (ft 3 42 (D.tup []) [(4, (si a4)), (41, (sb (decide (a4 > 0))))]), (ft 4 43 (D.tup []) [(41, (sb (decide (a4 > 0))))]), (ft 5 44 (D.tup []) [(41, (sb (decide (a4 > 0))))]), (ft 6 45 (D.tup []) [(41, (sb (decide (a4 > 0))))]), (ft 7 46 (D.tup []) [(41, (sb (decide (a4 > 0))))]), (ft 8 47 (D.tup []) [(41, (sb (decide (a4 > 0))))]), (ft 9 48 (D.tup []) [(41, (sb (decide (a4 > 0))))]), (ft 10 49 (D.tup []) [(41, (sb (decide (a4 > 0))))]), (ft 11 50 (D.tup []) [(41, (sb (decide (a4 > 0))))]), (ft 12 51 (D.tup []) [(41, (sb (decide (a4 > 0))))]), (ft 13 52 (D.tup []) [(41, (sb (decide (a4 > 0))))]), (ft 14 53 (sb false) [(41, (sb (decide (a4 > 0))))])] [[], [0], [0, 1], [0, 1, 2], [0, 1, 2], [0, 1, 2, 4], [0, 1, 2, 4, 5], [0, 1, 2, 4, 5, 6], [0, 1, 2], [0, 1, 2, 8], [0, 1, 2, 8, 9], [0, 1, 2, 8, 9, 10], [0, 1, 2, 4, 5, 6, 7, 8, 9, 10, 11], (.range 13), (.range 14)] (nl rfl) [0, 1, 2, 3, 3, 4, 5, 6, 3, 4, 5, 6, 7, 8, 9] rfl (TK := []) rfl AllK.nil' (by repeat (first | refine fC ⟨?_, ?_⟩ ?_ | refine sC rfl ?_ | refine hC rfl ?_ | trivial)) ?_ ?_
     ·refine y8 ?_ ?_ ?_ ?_ ?_ ?_ ?_ ?_ (y4 ?_ ?_ ?_ ?_ (y2 ?_ ?_ (pC ?_ yN)))
      ·intro K _ f w u k
       show Wp K ⟨77, (upd 77 f 4 (si a4)), _⟩
       refine s_move (d := (si a4)) rfl k
      ·intro K _ f w u k
       show Wp K ⟨77, (upd 77 f 39 (si a4)), _⟩
       refine s_binI (v := (.bool (decide (a4 > 0)))) rfl rfl rfl k
      ·intro K _ f w u k
       show Wp K ⟨77, (upd 77 f 40 (sb (decide (a4 > 0)))), _⟩
       refine s_move (d := (sb (decide (a4 > 0)))) rfl k
      ·intro K _ f w u k
       show Wp K ⟨77, (upd 77 (upd 77 f 41 (sb (decide (a4 > 0)))) 4 (si a4)), _⟩
       refine AWops.guard_no rfl (nl rfl) rfl c5 k
      ·intro K _ f w u k
       show Wp K ⟨77, (upd 77 f 41 (sb (decide (a4 > 0)))), _⟩
       refine AWops.guard_no rfl (nl rfl) rfl c5 k
      ·intro K _ f w u k
       show Wp K ⟨77, (upd 77 f 41 (sb (decide (a4 > 0)))), _⟩
       refine AWops.guard_no rfl (nl rfl) rfl c5 k
      ·intro K _ f w u k
       show Wp K ⟨77, (upd 77 f 41 (sb (decide (a4 > 0)))), _⟩
       refine AWops.guard_no rfl (nl rfl) rfl c5 k
      ·intro K _ f w u k
       show Wp K ⟨77, (upd 77 f 41 (sb (decide (a4 > 0)))), _⟩
       refine AWops.guard_no rfl (nl rfl) rfl c5 k
      ·intro K _ f w u k
       show Wp K ⟨77, (upd 77 f 41 (sb (decide (a4 > 0)))), _⟩
       refine AWops.guard_no rfl (nl rfl) rfl c5 k
      ·intro K _ f w u k
       show Wp K ⟨77, (upd 77 f 41 (sb (decide (a4 > 0)))), _⟩
       refine AWops.guard_no rfl (nl rfl) rfl c5 k
      ·intro K _ f w u k
       show Wp K ⟨77, (upd 77 f 41 (sb (decide (a4 > 0)))), _⟩
       refine AWops.guard_no rfl (nl rfl) rfl c5 k
      ·intro K _ f w u k
       show Wp K ⟨77, (upd 77 f 41 (sb (decide (a4 > 0)))), _⟩
       refine AWops.guard_no rfl (nl rfl) rfl c5 k
      ·intro K _ f w u k
       show Wp K ⟨77, (upd 77 f 41 (sb (decide (a4 > 0)))), _⟩
       refine AWops.guard_no rfl (nl rfl) rfl c5 k
      ·intro K _ f w u k
       show Wp K ⟨77, (upd 77 f 41 (sb (decide (a4 > 0)))), _⟩
       refine AWops.guard_no rfl (nl rfl) rfl c5 k
      ·intro K _ f w u k
       show Wp K ⟨77, (upd 77 f 41 (sb (decide (a4 > 0)))), _⟩
       refine s_pick_no (d := (sb false)) rfl c5 rfl k
     ·refine AWops.weak (st' := ⟨77, (upd 77 (upd 77 topF 0 (rf 0 0)) 53 (sb false)), [(o_vdisk_Disk_03 false (C.mp 1) np p0), (om_ e_vdisk_file p0.files)]⟩) (wg 2 [0, 1] [] hx (le_upd (le_upd (le_top _) (o1 (.ref rfl))) (o1 .sc)) (ac (qs rfl) (ac .map an))) (AWops.nil ?_)
      refine AW.cond_no rfl rfl (AW.skip (AW.seq (AW.seq (AW.region ?_))))
      refine s_move (d := (rf 0 0)) rfl (s_nilCheck (d := (rf 0 0)) rfl (.inl ⟨_, _, rfl⟩) (s_fieldRef F.fo_37_3 (by decide) rfl (s_load1 (c' := np) F.ag_35 rfl rfl (s_ptrNil (b := true) F.u_35 rfl (.inr ⟨⟨_, rfl⟩, rfl⟩) (.inr rfl) (AWops.nil ?_)))))
      refine AW.cond_no rfl rfl (AW.skip (AW.seq (AW.region ?_)))
      refine s_assign (d := (si 0)) rfl (AWops.nil (AW.ret ?_))
      obtain rfl := Option.some.inj h
      exact ⟨_, rfl, (wg 2 [0, 1] [] rfl (le_upd (le_top _) (o1 .sc)) (ac (qs rfl) (ac .map an)))⟩
   ·refine AWops.guard_yes rfl (nl rfl) rfl (by rw [c4] <;> rfl) ?_
    refine s_move (d := (sb a3)) rfl ?_
    refine AWops.guard_yes rfl (nl rfl) rfl (by rw [c4] <;> rfl) ?_
    refine s_not rfl (s_pick_yes (d := (sb (!a3))) rfl (by rw [c4] <;> rfl) rfl (AWops.nil ?_))
    rcases itH h with ⟨c7, h⟩ | ⟨c7, h⟩
    ·refine AW.cond_no rfl (by rw [c7] <;> rfl) (AW.skip (AW.seq (AW.seq ?_)))
     refine AW.weak (st' := ⟨77, (upd 77 (upd 77 topF 0 (rf 0 0)) 4 (si a4)), [(o_vdisk_Disk_03 false (C.mp 1) np p0), (om_ e_vdisk_file p0.files)]⟩) (wg 2 [0, 1] [] hx (le_upd (le_upd (le_top _) (o1 (.ref rfl))) (o1 .sc)) (ac (qs rfl) (ac .map an))) ?_
     rcases itH h with ⟨c8, h⟩ | ⟨c8, h⟩
     ·refine AW.draw (n := 77) (L := 2) [(ft 0 39 (si a4) [(4, (si a4))]), (ft 1 40 (sb (decide (a4 > 0))) [(39, (si a4))]), (ft 2 41 (sb (decide (a4 > 0))) [(40, (sb (decide (a4 > 0))))]), (ft 3 42 (si a4) [(4, (si a4)), (41, (sb (decide (a4 > 0))))]), (ft 4 43 (rf 0 0) [(0, (rf 0 0)), (41, (sb (decide (a4 > 0))))]), (ft 5 44 (rf 0 0) [(41, (sb (decide (a4 > 0)))), (43, (rf 0 0))]), (ft 6 45 (rf 0 1) [(41, (sb (decide (a4 > 0)))), (44, (rf 0 0))]), (7, ⟨some 46, (si p0.room), [(41, (sb (decide (a4 > 0)))), (45, (rf 0 1))], [(0, (o_vdisk_Disk_03 false (C.mp 1) np p0))], [], none⟩), (ft 8 47 (rf 0 0) [(0, (rf 0 0)), (41, (sb (decide (a4 > 0))))]), (ft 9 48 (rf 0 0) [(41, (sb (decide (a4 > 0)))), (47, (rf 0 0))]), (ft 10 49 (rf 0 2) [(41, (sb (decide (a4 > 0)))), (48, (rf 0 0))]), (11, ⟨some 50, (si p0.used), [(41, (sb (decide (a4 > 0)))), (49, (rf 0 2))], [(0, (o_vdisk_Disk_03 false (C.mp 1) np p0))], [], none⟩), (ft 12 51 (si (IntKind.i64.wrap (p0.room - p0.used))) [(41, (sb (decide (a4 > 0)))), (46, (si p0.room)), (50, (si p0.used))]), (ft 13 52 (sb (decide (a4 > (IntKind.i64.wrap (p0.room - p0.used))))) [(41, (sb (decide (a4 > 0)))), (42, (si a4)), (51, (si (IntKind.i64.wrap (p0.room - p0.used))))]), (ft 14 53 (sb (decide (a4 > (IntKind.i64.wrap (p0.room - p0.used))))) [(41, (sb (decide (a4 > 0)))), (52, (sb (decide (a4 > (IntKind.i64.wrap (p0.room - p0.used))))))])] [[], [0], [0, 1], [0, 1, 2], [0, 1, 2], [0, 1, 2, 4], [0, 1, 2, 4, 5], [0, 1, 2, 4, 5, 6], [0, 1, 2], [0, 1, 2, 8], [0, 1, 2, 8, 9], [0, 1, 2, 8, 9, 10], [0, 1, 2, 4, 5, 6, 7, 8, 9, 10, 11], (.range 13), (.range 14)] (nl rfl) [0, 1, 2, 3, 3, 4, 5, 6, 3, 4, 5, 6, 7, 8, 9] rfl (TK := []) rfl AllK.nil' (by repeat (first | refine fC ⟨?_, ?_⟩ ?_ | refine sC rfl ?_ | refine hC rfl ?_ | trivial)) ?_ ?_
      ·refine y8 ?_ ?_ ?_ ?_ ?_ ?_ ?_ ?_ (y4 ?_ ?_ ?_ ?_ (y2 ?_ ?_ (pC ?_ yN)))
       ·intro K _ f w u k
        show Wp K ⟨77, (upd 77 f 4 (si a4)), _⟩
        refine s_move (d := (si a4)) rfl k
       ·intro K _ f w u k
        show Wp K ⟨77, (upd 77 f 39 (si a4)), _⟩
        refine s_binI (v := (.bool (decide (a4 > 0)))) rfl rfl rfl k
       ·intro K _ f w u k
        show Wp K ⟨77, (upd 77 f 40 (sb (decide (a4 > 0)))), _⟩
        refine s_move (d := (sb (decide (a4 > 0)))) rfl k
       ·intro K _ f w u k
        show Wp K ⟨77, (upd 77 (upd 77 f 41 (sb (decide (a4 > 0)))) 4 (si a4)), _⟩
        refine AWops.guard_yes rfl (nl rfl) rfl c8 ?_
        refine s_move (d := (si a4)) rfl k
       ·intro K _ f w u k
        show Wp K ⟨77, (upd 77 (upd 77 f 41 (sb (decide (a4 > 0)))) 0 (rf 0 0)), _⟩
        refine AWops.guard_yes rfl (nl rfl) rfl c8 ?_
        refine s_move (d := (rf 0 0)) rfl k
       ·intro K _ f w u k
        show Wp K ⟨77, (upd 77 (upd 77 f 43 (rf 0 0)) 41 (sb (decide (a4 > 0)))), [_, _]⟩
        refine AWops.guard_yes rfl (nl rfl) rfl c8 ?_
        refine s_nilCheck (d := (rf 0 0)) rfl (.inl ⟨_, _, rfl⟩) k
       ·intro K _ f w u k
        show Wp K ⟨77, (upd 77 (upd 77 f 44 (rf 0 0)) 41 (sb (decide (a4 > 0)))), [_, _]⟩
        refine AWops.guard_yes rfl (nl rfl) rfl c8 ?_
        refine s_fieldRef F.fo_37_1 (by decide) rfl k
       ·intro K _ f w u k
        show Wp K ⟨77, (upd 77 (upd 77 f 45 (rf 0 1)) 41 (sb (decide (a4 > 0)))), [(o_vdisk_Disk_03 false (C.mp 1) np p0), _]⟩
        refine AWops.guard_yes rfl (nl rfl) rfl c8 ?_
        refine s_load1 (c' := (ci p0.room)) F.ag_3 rfl rfl k
       ·intro K _ f w u k
        show Wp K ⟨77, (upd 77 (upd 77 f 41 (sb (decide (a4 > 0)))) 0 (rf 0 0)), _⟩
        refine AWops.guard_yes rfl (nl rfl) rfl c8 ?_
        refine s_move (d := (rf 0 0)) rfl k
       ·intro K _ f w u k
        show Wp K ⟨77, (upd 77 (upd 77 f 47 (rf 0 0)) 41 (sb (decide (a4 > 0)))), [_, _]⟩
        refine AWops.guard_yes rfl (nl rfl) rfl c8 ?_
        refine s_nilCheck (d := (rf 0 0)) rfl (.inl ⟨_, _, rfl⟩) k
       ·intro K _ f w u k
        show Wp K ⟨77, (upd 77 (upd 77 f 48 (rf 0 0)) 41 (sb (decide (a4 > 0)))), [_, _]⟩
        refine AWops.guard_yes rfl (nl rfl) rfl c8 ?_
        refine s_fieldRef F.fo_37_2 (by decide) rfl k
       ·intro K _ f w u k
        show Wp K ⟨77, (upd 77 (upd 77 f 49 (rf 0 2)) 41 (sb (decide (a4 > 0)))), [(o_vdisk_Disk_03 false (C.mp 1) np p0), _]⟩
        refine AWops.guard_yes rfl (nl rfl) rfl c8 ?_
        refine s_load1 (c' := (ci p0.used)) F.ag_3 rfl rfl k
       ·intro K _ f w u k
        show Wp K ⟨77, (upd 77 (upd 77 (upd 77 f 50 (si p0.used)) 46 (si p0.room)) 41 (sb (decide (a4 > 0)))), _⟩
        refine AWops.guard_yes rfl (nl rfl) rfl c8 ?_
        refine s_binI (v := (.int .i64 (IntKind.i64.wrap (p0.room - p0.used)))) rfl rfl rfl k
       ·intro K _ f w u k
        show Wp K ⟨77, (upd 77 (upd 77 (upd 77 f 51 (si (IntKind.i64.wrap (p0.room - p0.used)))) 42 (si a4)) 41 (sb (decide (a4 > 0)))), _⟩
        refine AWops.guard_yes rfl (nl rfl) rfl c8 ?_
        refine s_binI (v := (.bool (decide (a4 > (IntKind.i64.wrap (p0.room - p0.used)))))) rfl rfl rfl k
       ·intro K _ f w u k
        show Wp K ⟨77, (upd 77 (upd 77 f 52 (sb (decide (a4 > (IntKind.i64.wrap (p0.room - p0.used)))))) 41 (sb (decide (a4 > 0)))), _⟩
        refine s_pick_yes (d := (sb (decide (a4 > (IntKind.i64.wrap (p0.room - p0.used)))))) rfl c8 rfl k
      ·refine AWops.weak (st' := ⟨77, (upd 77 (upd 77 topF 0 (rf 0 0)) 53 (sb (decide (a4 > (IntKind.i64.wrap (p0.room - p0.used)))))), [(o_vdisk_Disk_03 false (C.mp 1) np p0), (om_ e_vdisk_file p0.files)]⟩) (wg 2 [0, 1] [] hx (le_upd (le_upd (le_top _) (o1 (.ref rfl))) (o1 .sc)) (ac (qs rfl) (ac .map an))) (AWops.nil ?_)
       rcases itH h with ⟨c9, h⟩ | ⟨c9, h⟩
       ·refine AW.cond_yes rfl c9 (AW.seq (AW.region ?_))
        refine s_assign (d := (si 71)) rfl (AWops.nil (AW.ret ?_))
        obtain rfl := Option.some.inj h
        exact ⟨_, rfl, (wg 2 [0, 1] [] rfl (le_upd (le_top _) (o1 .sc)) (ac (qs rfl) (ac .map an)))⟩
       ·refine AW.cond_no rfl c9 (AW.skip (AW.seq (AW.seq (AW.region ?_))))
        refine s_move (d := (rf 0 0)) rfl (s_nilCheck (d := (rf 0 0)) rfl (.inl ⟨_, _, rfl⟩) (s_fieldRef F.fo_37_3 (by decide) rfl (s_load1 (c' := np) F.ag_35 rfl rfl (s_ptrNil (b := true) F.u_35 rfl (.inr ⟨⟨_, rfl⟩, rfl⟩) (.inr rfl) (AWops.nil ?_)))))
        refine AW.cond_no rfl rfl (AW.skip (AW.seq (AW.region ?_)))
        refine s_assign (d := (si 0)) rfl (AWops.nil (AW.ret ?_))
        obtain rfl := Option.some.inj h
        exact ⟨_, rfl, (wg 2 [0, 1] [] rfl (le_upd (le_top _) (o1 .sc)) (ac (qs rfl) (ac .map an)))⟩
     ·refine AW.draw (n := 77) (L := 2) [(ft 0 39 (si a4) [(4, (si a4))]), (ft 1 40 (sb (decide (a4 > 0))) [(39, (si a4))]), (ft 2 41 (sb (decide (a4 > 0))) [(40, (sb (decide (a4 > 0))))]), (ft 3 42 (D.tup []) [(4, (si a4)), (41, (sb (decide (a4 > 0))))]), (ft 4 43 (D.tup []) [(41, (sb (decide (a4 > 0))))]), (ft 5 44 (D.tup []) [(41, (sb (decide (a4 > 0))))]), (ft 6 45 (D.tup []) [(41, (sb (decide (a4 > 0))))]), (ft 7 46 (D.tup []) [(41, (sb (decide (a4 > 0))))]), (ft 8 47 (D.tup []) [(41, (sb (decide (a4 > 0))))]), (ft 9 48 (D.tup []) [(41, (sb (decide (a4 > 0))))]), (ft 10 49 (D.tup []) [(41, (sb (decide (a4 > 0))))]), (ft 11 50 (D.tup []) [(41, (sb (decide (a4 > 0))))]), (ft 12 51 (D.tup []) [(41, (sb (decide (a4 > 0))))]), (ft 13 52 (D.tup []) [(41, (sb (decide (a4 > 0))))]), (ft 14 53 (sb false) [(41, (sb (decide (a4 > 0))))])] [[], [0], [0, 1], [0, 1, 2], [0, 1, 2], [0, 1, 2, 4], [0, 1, 2, 4, 5], [0, 1, 2, 4, 5, 6], [0, 1, 2], [0, 1, 2, 8], [0, 1, 2, 8, 9], [0, 1, 2, 8, 9, 10], [0, 1, 2, 4, 5, 6, 7, 8, 9, 10, 11], (.range 13), (.range 14)] (nl rfl) [0, 1, 2, 3, 3, 4, 5, 6, 3, 4, 5, 6, 7, 8, 9] rfl (TK := []) rfl AllK.nil' (by repeat (first | refine fC ⟨?_, ?_⟩ ?_ | refine sC rfl ?_ | refine hC rfl ?_ | trivial)) ?_ ?_
      ·refine y8 ?_ ?_ ?_ ?_ ?_ ?_ ?_ ?_ (y4 ?_ ?_ ?_ ?_ (y2 ?_ ?_ (pC ?_ yN)))
       ·intro K _ f w u k
        show Wp K ⟨77, (upd 77 f 4 (si a4)), _⟩
        refine s_move (d := (si a4)) rfl k
       ·intro K _ f w u k
        show Wp K ⟨77, (upd 77 f 39 (si a4)), _⟩
        refine s_binI (v := (.bool (decide (a4 > 0)))) rfl rfl rfl k
       ·intro K _ f w u k
        show Wp K ⟨77, (upd 77 f 40 (sb (decide (a4 > 0)))), _⟩
        refine s_move (d := (sb (decide (a4 > 0)))) rfl k
       ·intro K _ f w u k
        show Wp K ⟨77, (upd 77 (upd 77 f 41 (sb (decide (a4 > 0)))) 4 (si a4)), _⟩
        refine AWops.guard_no rfl (nl rfl) rfl c8 k
       ·intro K _ f w u k
        show Wp K ⟨77, (upd 77 f 41 (sb (decide (a4 > 0)))), _⟩
        refine AWops.guard_no rfl (nl rfl) rfl c8 k
       ·intro K _ f w u k
        show Wp K ⟨77, (upd 77 f 41 (sb (decide (a4 > 0)))), _⟩
        refine AWops.guard_no rfl (nl rfl) rfl c8 k
       ·intro K _ f w u k
        show Wp K ⟨77, (upd 77 f 41 (sb (decide (a4 > 0)))), _⟩
        refine AWops.guard_no rfl (nl rfl) rfl c8 k
       ·intro K _ f w u k
        show Wp K ⟨77, (upd 77 f 41 (sb (decide (a4 > 0)))), _⟩
        refine AWops.guard_no rfl (nl rfl) rfl c8 k
       ·intro K _ f w u k
        show Wp K ⟨77, (upd 77 f 41 (sb (decide (a4 > 0)))), _⟩
        refine AWops.guard_no rfl (nl rfl) rfl c8 k
       ·intro K _ f w u k
        show Wp K ⟨77, (upd 77 f 41 (sb (decide (a4 > 0)))), _⟩
        refine AWops.guard_no rfl (nl rfl) rfl c8 k
       ·intro K _ f w u k
        show Wp K ⟨77, (upd 77 f 41 (sb (decide (a4 > 0)))), _⟩
        refine AWops.guard_no rfl (nl rfl) rfl c8 k
       ·intro K _ f w u k
        show Wp K ⟨77, (upd 77 f 41 (sb (decide (a4 > 0)))), _⟩
        refine AWops.guard_no rfl (nl rfl) rfl c8 k
       ·intro K _ f w u k
        show Wp K ⟨77, (upd 77 f 41 (sb (decide (a4 > 0)))), _⟩
        refine AWops.guard_no rfl (nl rfl) rfl c8 k
       ·intro K _ f w u k
        show Wp K ⟨77, (upd 77 f 41 (sb (decide (a4 > 0)))), _⟩
        refine AWops.guard_no rfl (nl rfl) rfl c8 k
       ·intro K _ f w u k
        show Wp K ⟨77, (upd 77 f 41 (sb (decide (a4 > 0)))), _⟩
        refine s_pick_no (d := (sb false)) rfl c8 rfl k
      ·refine AWops.weak (st' := ⟨77, (upd 77 (upd 77 topF 0 (rf 0 0)) 53 (sb false)), [(o_vdisk_Disk_03 false (C.mp 1) np p0), (om_ e_vdisk_file p0.files)]⟩) (wg 2 [0, 1] [] hx (le_upd (le_upd (le_top _) (o1 (.ref rfl))) (o1 .sc)) (ac (qs rfl) (ac .map an))) (AWops.nil ?_)
       refine AW.cond_no rfl rfl (AW.skip (AW.seq (AW.seq (AW.region ?_))))
       refine s_move (d := (rf 0 0)) rfl (s_nilCheck (d := (rf 0 0)) rfl (.inl ⟨_, _, rfl⟩) (s_fieldRef F.fo_37_3 (by decide) rfl (s_load1 (c' := np) F.ag_35 rfl rfl (s_ptrNil (b := true) F.u_35 rfl (.inr ⟨⟨_, rfl⟩, rfl⟩) (.inr rfl) (AWops.nil ?_)))))
       refine AW.cond_no rfl rfl (AW.skip (AW.seq (AW.region ?_)))
       refine s_assign (d := (si 0)) rfl (AWops.nil (AW.ret ?_))
       obtain rfl := Option.some.inj h
       exact ⟨_, rfl, (wg 2 [0, 1] [] rfl (le_upd (le_top _) (o1 .sc)) (ac (qs rfl) (ac .map an)))⟩
    ·refine AW.cond_yes rfl (by rw [c7] <;> rfl) (AW.seq (AW.region ?_))
     refine s_assign (d := (si 33)) rfl (AWops.nil (AW.ret ?_))
     obtain rfl := Option.some.inj h
     exact ⟨_, rfl, (wg 2 [0, 1] [] rfl (le_upd (le_top _) (o1 .sc)) (ac (qs rfl) (ac .map an)))⟩
 ·refine AW.cond_yes rfl (by rw [c2] <;> rfl) (AW.seq (AW.region ?_))
  refine s_assign (d := (si 1)) rfl (AWops.nil (AW.ret ?_))
  obtain rfl := Option.some.inj h
  exact ⟨_, rfl, (wg 2 [0, 1] [] rfl (le_upd (le_top _) (o1 .sc)) (ac (qs rfl) (ac .map an)))⟩
def vdisk_Disk_cut.f (k : Nat) (p0 : vdisk_Disk) (a1 : ByteArray) : Option vdisk_Disk := some (⟨mdel a1 p0.files, p0.room, IntKind.i64.wrap (p0.used - (((lk_vdisk_file a1 p0.files).b).length : Int)), (), p0.dead⟩ : vdisk_Disk)
theorem vdisk_Disk_cut.meets (k : Nat) (p0 : vdisk_Disk) (a1 : ByteArray) (r : vdisk_Disk) (h : vdisk_Disk_cut.f k p0 a1 = some r) : Meets Try.prog 59 [(rf 0 0), (st_ a1)] [(o_vdisk_Disk_03 false (C.mp 1) np p0), (om_ e_vdisk_file p0.files)] (D.tup []) [(o_vdisk_Disk_03 false (C.mp 1) np r), (om_ e_vdisk_file r.files)] := by
 unfold vdisk_Disk_cut.f at h
 refine Meets.of_body (n := 24) Try.func59 rfl rfl (nl rfl) fun x hx => ?_
 replace hx : x.k = 2 := hx
 show AW _ x _ _ ⟨24, fr0 [(rf 0 0), (st_ a1)], [(o_vdisk_Disk_03 false (C.mp 1) np p0), (om_ e_vdisk_file p0.files)]⟩
 refine AW.seq ?_
 refine AW.weak (st' := ⟨24, (upd 24 (upd 24 topF 0 (rf 0 0)) 1 (st_ a1)), [(o_vdisk_Disk_03 false (C.mp 1) np p0), (om_ e_vdisk_file p0.files)]⟩) (wg 2 [0, 1] [] hx (le_upd (le_upd (le_top _) (o1 (.ref rfl))) (o1 .sc)) (ac (qs rfl) (ac .map an))) ?_
 refine AW.draw (n := 24) (L := 2) [(ft 0 4 (rf 0 0) [(0, (rf 0 0))]), (ft 1 5 (rf 0 0) [(4, (rf 0 0))]), (ft 2 6 (rf 0 2) [(5, (rf 0 0))]), (3, ⟨some 7, (si p0.used), [(6, (rf 0 2))], [(0, (o_vdisk_Disk_03 false (C.mp 1) np p0))], [], none⟩), (ft 4 8 (rf 0 0) [(0, (rf 0 0))]), (ft 5 9 (rf 0 0) [(8, (rf 0 0))]), (ft 6 10 (rf 0 0) [(9, (rf 0 0))]), (7, ⟨some 11, (D.one (C.mp 1)), [(10, (rf 0 0))], [(0, (o_vdisk_Disk_03 false (C.mp 1) np p0))], [], none⟩), (ft 8 12 (st_ a1) [(1, (st_ a1))]), (9, ⟨some 13, (D.agg (c_vdisk_file (lk_vdisk_file a1 p0.files))), [(11, (D.one (C.mp 1))), (12, (st_ a1))], [(1, (om_ e_vdisk_file p0.files))], [], none⟩), (ft 10 14 (D.one (C.p false (.sl ((lk_vdisk_file a1 p0.files).b).length (((lk_vdisk_file a1 p0.files).b).flatMap e_u8)))) [(13, (D.agg (c_vdisk_file (lk_vdisk_file a1 p0.files))))]), (ft 11 15 (si (((lk_vdisk_file a1 p0.files).b).length : Int)) [(14, (D.one (C.p false (.sl ((lk_vdisk_file a1 p0.files).b).length (((lk_vdisk_file a1 p0.files).b).flatMap e_u8)))))]), (ft 12 16 (si (IntKind.i64.wrap (p0.used - (((lk_vdisk_file a1 p0.files).b).length : Int)))) [(7, (si p0.used)), (15, (si (((lk_vdisk_file a1 p0.files).b).length : Int)))]), (ft 13 17 (rf 0 0) [(4, (rf 0 0))]), (ft 14 18 (rf 0 2) [(17, (rf 0 0))]), (15, ⟨none, (D.one C.top), [(16, (si (IntKind.i64.wrap (p0.used - (((lk_vdisk_file a1 p0.files).b).length : Int))))), (18, (rf 0 2))], [(0, (o_vdisk_Disk_03 false (C.mp 1) np p0))], [(0, (some (AObj.cells false [(C.mp 1), (ci p0.room), (ci (IntKind.i64.wrap (p0.used - (((lk_vdisk_file a1 p0.files).b).length : Int)))), np, (cb p0.dead)])))], none⟩)] [[], [0], [0, 1], [0, 1, 2], [], [4], [4, 5], [4, 5, 6], [], [4, 5, 6, 7, 8], [4, 5, 6, 7, 8, 9], [4, 5, 6, 7, 8, 9, 10], (.range 12), (.range 13), (.range 14), (.range 15)] (nl rfl) [0, 1, 2, 3, 0, 1, 2, 3, 0, 4, 5, 6, 7, 8, 9, 10] rfl (TK := []) rfl AllK.nil' (by repeat (first | refine fC ⟨?_, ?_⟩ ?_ | refine sC rfl ?_ | refine hC rfl ?_ | trivial)) ?_ ?_
 ·refine y8 ?_ ?_ ?_ ?_ ?_ ?_ ?_ ?_ (y8 ?_ ?_ ?_ ?_ ?_ ?_ ?_ ?_ yN)
  ·intro K _ f w u k
   show Wp K ⟨24, (upd 24 f 0 (rf 0 0)), _⟩
   refine s_move (d := (rf 0 0)) rfl k
  ·intro K _ f w u k
   show Wp K ⟨24, (upd 24 f 4 (rf 0 0)), [_, _]⟩
   refine s_nilCheck (d := (rf 0 0)) rfl (.inl ⟨_, _, rfl⟩) k
  ·intro K _ f w u k
   show Wp K ⟨24, (upd 24 f 5 (rf 0 0)), [_, _]⟩
   refine s_fieldRef F.fo_37_2 (by decide) rfl k
  ·intro K _ f w u k
   show Wp K ⟨24, (upd 24 f 6 (rf 0 2)), [(o_vdisk_Disk_03 false (C.mp 1) np p0), _]⟩
   refine s_load1 (c' := (ci p0.used)) F.ag_3 rfl rfl k
  ·intro K _ f w u k
   show Wp K ⟨24, (upd 24 f 0 (rf 0 0)), _⟩
   refine s_move (d := (rf 0 0)) rfl k
  ·intro K _ f w u k
   show Wp K ⟨24, (upd 24 f 8 (rf 0 0)), [_, _]⟩
   refine s_nilCheck (d := (rf 0 0)) rfl (.inl ⟨_, _, rfl⟩) k
  ·intro K _ f w u k
   show Wp K ⟨24, (upd 24 f 9 (rf 0 0)), [_, _]⟩
   refine s_fieldRef F.fo_37_0 (by decide) rfl k
  ·intro K _ f w u k
   show Wp K ⟨24, (upd 24 f 10 (rf 0 0)), [(o_vdisk_Disk_03 false (C.mp 1) np p0), _]⟩
   refine s_load1 (c' := (C.mp 1)) F.ag_34 rfl rfl k
  ·intro K _ f w u k
   show Wp K ⟨24, (upd 24 f 1 (st_ a1)), _⟩
   refine s_move (d := (st_ a1)) rfl k
  ·intro K _ f w u k
   show Wp K ⟨24, (upd 24 (upd 24 f 12 (st_ a1)) 11 (D.one (C.mp 1))), [_, (om_ e_vdisk_file p0.files)]⟩
   refine t_lookup (b := true) F.u_34 F.u_9 F.z_79 (z := ((⟨([] : List Int), 0⟩ : vdisk_file) : vdisk_file)) (zs := [(.slice none 0 0), (.int .i64 0)]) rfl (fun h => by cases h) (ac ZRel.n (ac (ZRel.v _ rfl) an)) rfl rfl rfl rfl k
  ·intro K _ f w u k
   show Wp K ⟨24, (upd 24 f 13 (D.agg (c_vdisk_file (lk_vdisk_file a1 p0.files)))), [_, _]⟩
   refine s_field1 (c := (C.p false (.sl ((lk_vdisk_file a1 p0.files).b).length (((lk_vdisk_file a1 p0.files).b).flatMap e_u8)))) F.fo_79_0 rfl rfl k
  ·intro K _ f w u k
   show Wp K ⟨24, (upd 24 f 14 (D.one (C.p false (.sl ((lk_vdisk_file a1 p0.files).b).length (((lk_vdisk_file a1 p0.files).b).flatMap e_u8))))), [_, _]⟩
   refine s_len (n := ((lk_vdisk_file a1 p0.files).b).length) F.u_22 rfl (.inr ⟨(fun _ _ h => by cases h), ⟨_, rfl⟩⟩) k
  ·intro K _ f w u k
   show Wp K ⟨24, (upd 24 (upd 24 f 15 (si (((lk_vdisk_file a1 p0.files).b).length : Int))) 7 (si p0.used)), _⟩
   refine s_binI (v := (.int .i64 (IntKind.i64.wrap (p0.used - (((lk_vdisk_file a1 p0.files).b).length : Int))))) rfl rfl rfl k
  ·intro K _ f w u k
   show Wp K ⟨24, (upd 24 f 4 (rf 0 0)), [_, _]⟩
   refine s_nilCheck (d := (rf 0 0)) rfl (.inl ⟨_, _, rfl⟩) k
  ·intro K _ f w u k
   show Wp K ⟨24, (upd 24 f 17 (rf 0 0)), [_, _]⟩
   refine s_fieldRef F.fo_37_2 (by decide) rfl k
  ·intro K _ f w u k
   show Wp K ⟨24, (upd 24 (upd 24 f 18 (rf 0 2)) 16 (si (IntKind.i64.wrap (p0.used - (((lk_vdisk_file a1 p0.files).b).length : Int))))), [(o_vdisk_Disk_03 false (C.mp 1) np p0), _]⟩
   refine s_store (cs' := [(C.mp 1), (ci p0.room), (ci (IntKind.i64.wrap (p0.used - (((lk_vdisk_file a1 p0.files).b).length : Int)))), np, (cb p0.dead)]) rfl rfl rfl (List.cons_ne_nil _ _) rfl F.sz_3 (nl rfl) rfl k
 ·refine AWops.weak (st' := ⟨24, (upd 24 (upd 24 topF 0 (rf 0 0)) 1 (st_ a1)), [(some (AObj.cells false [(C.mp 1), (ci p0.room), (ci (IntKind.i64.wrap (p0.used - (((lk_vdisk_file a1 p0.files).b).length : Int)))), np, (cb p0.dead)])), (om_ e_vdisk_file p0.files)]⟩) (wg 2 [0, 1] [] hx (le_upd (le_upd (le_top _) (o1 (.ref rfl))) (o1 .sc)) (ac (qs rfl) (ac .map an))) (AWops.nil (AW.region ?_))
  refine s_move (d := (rf 0 0)) rfl (s_nilCheck (d := (rf 0 0)) rfl (.inl ⟨_, _, rfl⟩) (s_fieldRef F.fo_37_0 (by decide) rfl (s_load1 (c' := (C.mp 1)) F.ag_34 rfl rfl (s_move (d := (st_ a1)) rfl (t_mapDel F.u_34 F.u_9 rfl rfl rfl rfl rfl (AWops.nil ?_))))))
  obtain rfl := Option.some.inj h
  exact ⟨_, rfl, (wg 2 [0, 1] [] rfl (le_upd (le_top _) (DLe.tup an)) (ac (qs rfl) (ac .map an)))⟩
def vdisk_Disk_Remove.f (k : Nat) (p0 : vdisk_Disk) (a1 : ByteArray) : Option (Int × vdisk_Disk) := (vdisk_Disk_change.f k p0 true a1 false 0).bind fun r1 => if (r1 == 0) = true then ((vdisk_Disk_cut.f k p0 a1).bind fun r3 => some (r1, r3)) else (some (r1, p0))
theorem vdisk_Disk_Remove.meets (k : Nat) (p0 : vdisk_Disk) (a1 : ByteArray) (r : Int × vdisk_Disk) (h : vdisk_Disk_Remove.f k p0 a1 = some r) : Meets Try.prog 31 [(rf 0 0), (st_ a1)] [(o_vdisk_Disk_03 false (C.mp 1) np p0), (om_ e_vdisk_file p0.files)] (si r.1) [(o_vdisk_Disk_03 false (C.mp 1) np r.2), (om_ e_vdisk_file r.2.files)] := by
 unfold vdisk_Disk_Remove.f at h
 refine Meets.of_body (n := 15) Try.func31 rfl rfl (nl rfl) fun x hx => ?_
 replace hx : x.k = 2 := hx
 show AW _ x _ _ ⟨15, fr0 [(rf 0 0), (st_ a1)], [(o_vdisk_Disk_03 false (C.mp 1) np p0), (om_ e_vdisk_file p0.files)]⟩
 refine AW.seq (AW.region ?_)
 refine s_assign (d := (si 0)) rfl (AWops.nil (AW.seq (AW.region ?_)))
 refine s_move (d := (rf 0 0)) rfl (s_move (d := (st_ a1)) rfl ?_)
 obtain ⟨r1, er1, h⟩ := bnd h
 refine cc [0, 1] [(o_vdisk_Disk_03 false (C.mp 1) np p0), (om_ e_vdisk_file p0.files)] (si r1) F.ca_55 rfl rfl (ac (.one (.ref rfl)) (ac (.one .sc) (ac (.one .sc) (ac (.one .sc) (ac (.one .sc) an))))) (ac (.cells (ac (.mp rfl) (ac .sc (ac .sc (ac .sc (ac .sc an)))))) (ac .map an)) (vdisk_Disk_change.meets _ p0 true a1 false 0 r1 er1) (s_assign (d := (si r1)) rfl (AWops.nil (AW.seq (AW.seq (AW.region (s_move (d := (si r1)) rfl (s_binI (v := (.bool (r1 == 0))) rfl rfl rfl (AWops.nil ?_))))))))
 rcases itH h with ⟨c2, h⟩ | ⟨c2, h⟩
 ·refine AW.cond_yes rfl c2 (AW.region ?_)
  refine s_move (d := (rf 0 0)) rfl (s_move (d := (st_ a1)) rfl ?_)
  obtain ⟨r3, er3, h⟩ := bnd h
  refine cc [0, 1] [(o_vdisk_Disk_03 false (C.mp 1) np r3), (om_ e_vdisk_file r3.files)] (D.tup []) F.ca_59 rfl rfl (ac (.one (.ref rfl)) (ac (.one .sc) an)) (ac (.cells (ac (.mp rfl) (ac .sc (ac .sc (ac .sc (ac .sc an)))))) (ac .map an)) (vdisk_Disk_cut.meets _ p0 a1 r3 er3) (AWops.nil (AW.seq (AW.region ?_)))
  refine s_move (d := (si r1)) rfl (s_assign (d := (si r1)) rfl (AWops.nil (AW.ret ?_)))
  obtain rfl := Option.some.inj h
  exact ⟨_, rfl, (wg 2 [0, 1] [] rfl (le_upd (le_top _) (o1 .sc)) (ac (qs rfl) (ac .map an)))⟩
 ·refine AW.cond_no rfl c2 (AW.skip (AW.seq (AW.region ?_)))
  refine s_move (d := (si r1)) rfl (s_assign (d := (si r1)) rfl (AWops.nil (AW.ret ?_)))
  obtain rfl := Option.some.inj h
  exact ⟨_, rfl, (wg 2 [0, 1] [] rfl (le_upd (le_top _) (o1 .sc)) (ac (qs rfl) (ac .map an)))⟩
def slices_Clone_byte_byte.f (k : Nat) (a0 : List Int) : Option (List Int) := if (decide (([] : List Int).length + a0.length ≤ 140737488355328)) = true then (some a0) else none
theorem slices_Clone_byte_byte.meets (k : Nat) (a0 : List Int) (r : (List Int)) (h : slices_Clone_byte_byte.f k a0 = some r) : Meets Try.prog 28 [(ds_ e_u8 a0)] [] (D.one (C.own 0 0 r.length 1)) [(ow_ e_u8 r)] := by
 unfold slices_Clone_byte_byte.f at h
 refine Meets.of_body (n := 8) Try.func28 rfl rfl (nl rfl) fun x hx => ?_
 replace hx : x.k = 0 := hx
 show AW _ x _ _ ⟨8, fr0 [(ds_ e_u8 a0)], []⟩
 refine AW.seq (AW.region ?_)
 refine s_assign (d := (sc (.slice none 0 0))) rfl (AWops.nil (AW.seq (AW.seq (AW.region ?_))))
 refine s_move (d := (ds_ e_u8 a0)) rfl (s_eqNil (n := _) F.u_22 rfl (fun _ _ h => by cases h) rfl (.inl rfl) (fun b w => ?_))
 cases b with
 | false =>
  refine AWops.nil ?_
  refine AW.cond_no rfl rfl (AW.skip (AW.seq (AW.region ?_)))
  refine s_buildSlice (n := 0) (ps := []) (cs := rowC e_u8 ([] : List Int)) F.u_22 F.sz_5 F.z_5 rfl rfl (by decide) (by decide) rfl rfl (s_move (d := (ds_ e_u8 a0)) rfl ?_)
  obtain ⟨c1, h⟩ := gdH h
  have dc1 := of_decide_eq_true c1
  refine t_append (xs := ([] : List Int)) (ys := a0) (zs := a0) (H' := [none, (ow_ e_u8 a0)]) F.u_22 F.in_5 rfl e_u8_len (.own rfl rfl) .imm F.u_22 (by omega) (by omega) rfl rfl (s_assign (d := (D.one (C.own 1 0 a0.length 1))) rfl (AWops.nil (AW.ret ?_)))
  obtain rfl := Option.some.inj h
  exact ⟨_, rfl, (wg 0 [1] [] rfl (le_upd (le_top _) (o1 (.own rfl))) (ac (.cells (fun _ => rfl) (all2_row _)) an))⟩
 | true =>
  obtain rfl : a0 = [] := by cases a0 with | nil => rfl | cons _ _ => exact absurd (w (by simp)) (by decide)
  replace h : (some ([] : List Int)) = some r := by simpa [bytesI] using h
  skip
  refine AWops.nil ?_
  refine AW.cond_yes rfl rfl (AW.seq (AW.region ?_))
  refine s_assign (d := (sc (.slice none 0 0))) rfl (AWops.nil (AW.ret ?_))
  obtain rfl := Option.some.inj h
  exact ⟨_, rfl, (Weak.trans (Weak.nil (sz := 1) (i := 0) rfl) (wg 0 [0] [] rfl (le_upd (le_top _) (o1 (CLe.ownN rfl (by simp)))) (ac (.cells (fun _ => rfl) an) an)))⟩
def vdisk_Disk_Read.f (k : Nat) (p0 : vdisk_Disk) (a1 : ByteArray) : Option ((List Int) × Int) := (vdisk_Disk_none.f k p0).bind fun r1 => if p0.dead = true then (some (([] : List Int), 70)) else (if ((mget a1 p0.files).isSome) = true then ((slices_Clone_byte_byte.f k ((lk_vdisk_file a1 p0.files).b)).bind fun r4 => some (r4, 0)) else (some (([] : List Int), 33)))
theorem vdisk_Disk_Read.meets (k : Nat) (p0 : vdisk_Disk) (a1 : ByteArray) (r : (List Int) × Int) (h : vdisk_Disk_Read.f k p0 a1 = some r) : Meets Try.prog 32 [(rf 0 0), (st_ a1)] [(o_vdisk_Disk_03 false (C.mp 1) np p0), (om_ e_vdisk_file p0.files)] (D.tup [(ds_ e_u8 r.1), (si r.2)]) [(o_vdisk_Disk_03 false (C.mp 1) np p0), (om_ e_vdisk_file p0.files)] := by
 unfold vdisk_Disk_Read.f at h
 refine Meets.of_body (n := 30) Try.func32 rfl rfl (nl rfl) fun x hx => ?_
 replace hx : x.k = 2 := hx
 show AW _ x _ _ ⟨30, fr0 [(rf 0 0), (st_ a1)], [(o_vdisk_Disk_03 false (C.mp 1) np p0), (om_ e_vdisk_file p0.files)]⟩
 refine AW.seq (AW.region ?_)
 refine s_assign (d := (sc (.slice none 0 0))) rfl (s_assign (d := (si 0)) rfl (AWops.nil (AW.seq (AW.block (AW.seq (AW.region (s_move (d := (rf 0 0)) rfl ?_)))))))
 obtain ⟨r1, er1, h⟩ := bnd h
 have kr1 := vdisk_Disk_none.const er1
 subst kr1
 refine cc [0, 1] [(o_vdisk_Disk_03 false (C.mp 1) np p0), (om_ e_vdisk_file p0.files)] (sb false) F.ca_34 rfl rfl (ac (.one (.ref rfl)) an) (ac (.cells (ac (.mp rfl) (ac .sc (ac .sc (ac .sc (ac .sc an)))))) (ac .map an)) (vdisk_Disk_none.meets _ p0 false er1) (s_assign (d := (sb false)) rfl (AWops.nil ?_))
 refine AW.cond_no rfl rfl (AW.seq (AW.region ?_))
 refine s_move (d := (rf 0 0)) rfl (s_nilCheck (d := (rf 0 0)) rfl (.inl ⟨_, _, rfl⟩) (s_fieldRef F.fo_37_4 (by decide) rfl (s_load1 (c' := (cb p0.dead)) F.ag_4 rfl rfl (s_assign (d := (sb p0.dead)) rfl (AWops.nil ?_)))))
 rcases itH h with ⟨c2, h⟩ | ⟨c2, h⟩
 ·refine AW.cond_yes rfl c2 (AW.seq (AW.region ?_))
  refine s_assign (d := (sc (.slice none 0 0))) rfl (s_assign (d := (si 70)) rfl (AWops.nil (AW.ret ?_)))
  obtain rfl := Option.some.inj h
  exact ⟨_, rfl, (wg 2 [0, 1] [] rfl (le_upd (le_top _) (DLe.tup (ac (TLe.one .nil) (ac (TLe.one .sc) an)))) (ac (qs rfl) (ac .map an)))⟩
 ·refine AW.cond_no rfl c2 (AW.skip (AW.seq (AW.region ?_)))
  refine s_move (d := (rf 0 0)) rfl (s_nilCheck (d := (rf 0 0)) rfl (.inl ⟨_, _, rfl⟩) (s_fieldRef F.fo_37_0 (by decide) rfl (s_load1 (c' := (C.mp 1)) F.ag_34 rfl rfl (s_move (d := (st_ a1)) rfl (t_lookupOk (b := true) F.u_34 F.u_9 F.z_79 (z := ((⟨([] : List Int), 0⟩ : vdisk_file) : vdisk_file)) (zs := [(.slice none 0 0), (.int .i64 0)]) rfl (fun h => by cases h) (ac ZRel.n (ac (ZRel.v _ rfl) an)) rfl rfl rfl rfl ?_)))))
  refine s_move (d := (D.tup [(D.agg (c_vdisk_file (lk_vdisk_file a1 p0.files))), (sb ((mget a1 p0.files).isSome))])) rfl (s_extract (d := (D.agg (c_vdisk_file (lk_vdisk_file a1 p0.files)))) rfl rfl (s_extract (d := (sb ((mget a1 p0.files).isSome))) rfl rfl (s_alloc (cs := [(C.p true (.v (.slice none 0 0))), (ci 0)]) F.z_79 rfl rfl (s_store (cs' := (c_vdisk_file (lk_vdisk_file a1 p0.files))) rfl rfl rfl (List.cons_ne_nil _ _) rfl F.sz_79 (nl rfl) rfl (s_assign (d := (sb ((mget a1 p0.files).isSome))) rfl (AWops.nil (AW.seq (AW.seq (AW.region ?_)))))))))
  refine s_move (d := (sb ((mget a1 p0.files).isSome))) rfl (s_not rfl (AWops.nil ?_))
  rcases itH h with ⟨c3, h⟩ | ⟨c3, h⟩
  ·refine AW.cond_no rfl (by rw [c3] <;> rfl) (AW.skip (AW.seq (AW.region ?_)))
   refine s_fieldRef F.fo_79_0 (by decide) rfl (s_load1 (c' := (C.p false (.sl ((lk_vdisk_file a1 p0.files).b).length (((lk_vdisk_file a1 p0.files).b).flatMap e_u8)))) F.ag_22 rfl rfl ?_)
   obtain ⟨r4, er4, h⟩ := bnd h
   refine cc [] [(o_vdisk_Disk_03 false (C.mp 1) np p0), (om_ e_vdisk_file p0.files), (some (AObj.cells true (c_vdisk_file (lk_vdisk_file a1 p0.files)))), (ow_ e_u8 r4)] (D.one (C.own 3 0 r4.length 1)) F.ca_28 rfl rfl (ac (.one .imm) an) an (slices_Clone_byte_byte.meets _ ((lk_vdisk_file a1 p0.files).b) r4 er4) (s_assign (d := (D.one (C.own 3 0 r4.length 1))) rfl (s_assign (d := (si 0)) rfl (AWops.nil (AW.ret ?_))))
   obtain rfl := Option.some.inj h
   exact ⟨_, rfl, (wg 2 [0, 1] [3] rfl (le_upd (le_top _) (DLe.tup (ac (TLe.one (CLe.frz e_u8_len rfl rfl rfl)) (ac (TLe.one .sc) an)))) (ac (qs rfl) (ac .map an)))⟩
  ·refine AW.cond_yes rfl (by rw [c3] <;> rfl) (AW.seq (AW.region ?_))
   refine s_assign (d := (sc (.slice none 0 0))) rfl (s_assign (d := (si 33)) rfl (AWops.nil (AW.ret ?_)))
   obtain rfl := Option.some.inj h
   exact ⟨_, rfl, (wg 2 [0, 1] [] rfl (le_upd (le_top _) (DLe.tup (ac (TLe.one .nil) (ac (TLe.one .sc) an)))) (ac (qs rfl) (ac .map an)))⟩
mutual
def wire_Crc.l1 : Nat → Int → Int → (List Int) → Int → Option Int
 | 0, _, _, _, _ => none
 | k + 1, x5, x6, a0, x2 => if (decide (x6 < 8)) = true then (wire_Crc.l1 k (Go.bits .xor .u32 (Int.fdiv x5 (2 ^ 1)) (Go.bits .and .u32 3988292384 (IntKind.u32.wrap (0 - (Go.bits .and .u32 x5 1))))) (IntKind.i64.wrap (x6 + 1)) a0 x2) else (wire_Crc.l0 k x5 (IntKind.i64.wrap (x2 + 1)) a0)
def wire_Crc.l0 : Nat → Int → Int → (List Int) → Option Int
 | 0, _, _, _ => none
 | k + 1, x1, x2, a0 => if (decide (x2 < (a0.length : Int))) = true then ((rd a0 x2).bind fun v4 => wire_Crc.l1 k (Go.bits .xor .u32 x1 (IntKind.u32.wrap v4)) 0 a0 x2) else (some (IntKind.i64.wrap (Go.bits .xor .u32 4294967295 x1)))
end
def wire_Crc.f (k : Nat) (a0 : List Int) : Option Int := wire_Crc.l0 k 4294967295 0 a0
theorem wire_Crc.meets (k : Nat) (a0 : List Int) (r : Int) (h : wire_Crc.f k a0 = some r) : Meets Try.prog 58 [(ds_ e_u8 a0)] [] (si r) [] := by
 unfold wire_Crc.f at h
 refine Meets.of_body (n := 30) Try.func58 rfl rfl (nl rfl) fun x hx => ?_
 replace hx : x.k = 0 := hx
 show AW _ x _ _ ⟨30, fr0 [(ds_ e_u8 a0)], []⟩
 refine AW.seq (AW.region ?_)
 refine s_assign (d := (si 0)) rfl (AWops.nil (AW.seq (AW.region ?_)))
 refine s_assign (d := (sc (.int .u32 4294967295))) rfl (AWops.nil (AW.seq (AW.seq (AW.region ?_))))
 refine s_move (d := (ds_ e_u8 a0)) rfl (s_len (n := a0.length) F.u_22 rfl (.inr ⟨(fun _ _ h => by cases h), ⟨_, rfl⟩⟩) (s_move (d := (si 0)) rfl (AWops.nil (AW.block ?_))))
 refine AW.loopw (st0 := ⟨30, (upd 30 (upd 30 (upd 30 (upd 30 topF 3 (sc (.int .u32 4294967295))) 6 (ds_ e_u8 a0)) 7 (si (a0.length : Int))) 8 (si 0)), []⟩) (fun kv st => kv ≤ k ∧ ∃ (x1 : Int) (x2 : Int), wire_Crc.l0 kv x1 x2 a0 = some r ∧ st = ⟨30, (upd 30 (upd 30 (upd 30 (upd 30 topF 3 (sc (.int .u32 x1))) 6 (ds_ e_u8 a0)) 7 (si (a0.length : Int))) 8 (si x2)), []⟩) (k := k) (wg 0 [] [] hx (le_upd (le_upd (le_upd (le_upd (le_top _) (o1 .sc)) (o1 .same)) (o1 .sc)) (o1 .sc)) an) ⟨Nat.le_refl _, 4294967295, 0, h, rfl⟩ ?_
 rintro ql0 st ⟨hkl0, x1, x2, h, rfl⟩
 cases ql0 with
 | zero => exact absurd h (by simp [wire_Crc.l0])
 | succ ql0 =>
  replace h := (wire_Crc.l0.eq_2 _ _ _ _).symm.trans h
  refine AW.seq (AW.region ?_)
  refine s_binI (v := (.bool (decide (x2 < (a0.length : Int))))) rfl rfl rfl (AWops.nil (AW.seq ?_))
  rcases itH h with ⟨c3, h⟩ | ⟨c3, h⟩
  ·refine AW.cond_yes rfl c3 (AW.skip (AW.seq (AW.block (AW.seq (AW.region ?_)))))
   obtain ⟨v4, ev4, h⟩ := bnd h
   obtain ⟨pv4, qv4, gv4⟩ := rd_some ev4
   refine s_indexImm (ps := [P.v (.int .u8 v4)]) F.u_22 F.sz_5 rfl rfl pv4 qv4 (flat_at e_u8_len gv4 (e_u8_eq v4)) (s_load1 (c' := (C.p true (.v (.int .u8 v4)))) F.ag_5 rfl rfl (s_assign (d := (sc (.int .u8 v4))) rfl (AWops.nil (AW.seq (AW.region (s_move (d := (sc (.int .u32 x1))) rfl (s_move (d := (sc (.int .u8 v4))) rfl (s_convI F.u_5 F.u_120 rfl ?_))))))))
   refine s_binI (v := (.int .u32 (Go.bits .xor .u32 x1 (IntKind.u32.wrap v4)))) rfl rfl rfl (s_assign (d := (sc (.int .u32 (Go.bits .xor .u32 x1 (IntKind.u32.wrap v4))))) rfl (AWops.nil (AW.seq (AW.region (s_move (d := (si 0)) rfl (AWops.nil (AW.block ?_)))))))
   refine AW.loopw (st0 := ⟨30, (upd 30 (upd 30 (upd 30 (upd 30 (upd 30 topF 3 (sc (.int .u32 (Go.bits .xor .u32 x1 (IntKind.u32.wrap v4))))) 6 (ds_ e_u8 a0)) 7 (si (a0.length : Int))) 8 (si x2)) 16 (si 0)), []⟩) (fun kv st => kv ≤ ql0 ∧ ∃ (x5 : Int) (x6 : Int), wire_Crc.l1 kv x5 x6 a0 x2 = some r ∧ st = ⟨30, (upd 30 (upd 30 (upd 30 (upd 30 (upd 30 topF 3 (sc (.int .u32 x5))) 6 (ds_ e_u8 a0)) 7 (si (a0.length : Int))) 8 (si x2)) 16 (si x6)), []⟩) (k := ql0) (wg 0 [] [] hx (le_upd (le_upd (le_upd (le_upd (le_upd (le_top _) (o1 .sc)) (o1 .same)) (o1 .sc)) (o1 .sc)) (o1 .sc)) an) ⟨Nat.le_refl _, Go.bits .xor .u32 x1 (IntKind.u32.wrap v4), 0, h, rfl⟩ ?_
   rintro ql1 st ⟨hkl1, x5, x6, h, rfl⟩
   cases ql1 with
   | zero => exact absurd h (by simp [wire_Crc.l1])
   | succ ql1 =>
    replace h := (wire_Crc.l1.eq_2 _ _ _ _ _).symm.trans h
    refine AW.seq (AW.region ?_)
    refine s_binI (v := (.bool (decide (x6 < 8)))) rfl rfl rfl (AWops.nil (AW.seq ?_))
    rcases itH h with ⟨c7, h⟩ | ⟨c7, h⟩
    ·refine AW.cond_yes rfl c7 (AW.skip (AW.seq (AW.block (AW.region ?_))))
     refine s_move (d := (sc (.int .u32 x5))) rfl (s_shift (v := (.int .u32 (Int.fdiv x5 (2 ^ 1)))) rfl rfl rfl (s_move (d := (sc (.int .u32 x5))) rfl (s_binI (v := (.int .u32 (Go.bits .and .u32 x5 1))) rfl rfl rfl (s_unI (v := (.int .u32 (IntKind.u32.wrap (0 - (Go.bits .and .u32 x5 1))))) rfl rfl (s_binI (v := (.int .u32 (Go.bits .and .u32 3988292384 (IntKind.u32.wrap (0 - (Go.bits .and .u32 x5 1)))))) rfl rfl rfl ?_)))))
     refine s_binI (v := (.int .u32 (Go.bits .xor .u32 (Int.fdiv x5 (2 ^ 1)) (Go.bits .and .u32 3988292384 (IntKind.u32.wrap (0 - (Go.bits .and .u32 x5 1))))))) rfl rfl rfl (s_assign (d := (sc (.int .u32 (Go.bits .xor .u32 (Int.fdiv x5 (2 ^ 1)) (Go.bits .and .u32 3988292384 (IntKind.u32.wrap (0 - (Go.bits .and .u32 x5 1)))))))) rfl (AWops.nil (AW.region (s_binI (v := (.int .i64 (IntKind.i64.wrap (x6 + 1)))) rfl rfl rfl (s_move (d := (si (IntKind.i64.wrap (x6 + 1)))) rfl (AWops.nil ?_))))))
     exact ⟨_, ⟨30, (upd 30 (upd 30 (upd 30 (upd 30 (upd 30 topF 3 (sc (.int .u32 (Go.bits .xor .u32 (Int.fdiv x5 (2 ^ 1)) (Go.bits .and .u32 3988292384 (IntKind.u32.wrap (0 - (Go.bits .and .u32 x5 1)))))))) 6 (ds_ e_u8 a0)) 7 (si (a0.length : Int))) 8 (si x2)) 16 (si (IntKind.i64.wrap (x6 + 1)))), []⟩, by omega, (wg 0 [] [] hx (le_upd (le_upd (le_upd (le_upd (le_upd (le_top _) (o1 .sc)) (o1 .same)) (o1 .sc)) (o1 .sc)) (o1 .sc)) an), by omega, Go.bits .xor .u32 (Int.fdiv x5 (2 ^ 1)) (Go.bits .and .u32 3988292384 (IntKind.u32.wrap (0 - (Go.bits .and .u32 x5 1)))), IntKind.i64.wrap (x6 + 1), h, rfl⟩
    ·refine AW.cond_no rfl c7 (AW.exit (AW.region ?_))
     refine s_binI (v := (.int .i64 (IntKind.i64.wrap (x2 + 1)))) rfl rfl rfl (s_move (d := (si (IntKind.i64.wrap (x2 + 1)))) rfl (AWops.nil ?_))
     exact ⟨_, ⟨30, (upd 30 (upd 30 (upd 30 (upd 30 topF 3 (sc (.int .u32 x5))) 6 (ds_ e_u8 a0)) 7 (si (a0.length : Int))) 8 (si (IntKind.i64.wrap (x2 + 1)))), []⟩, by omega, (wg 0 [] [] hx (le_upd (le_upd (le_upd (le_upd (le_top _) (o1 .sc)) (o1 .same)) (o1 .sc)) (o1 .sc)) an), by omega, x5, IntKind.i64.wrap (x2 + 1), h, rfl⟩
  ·refine AW.cond_no rfl c3 (AW.exit (AW.seq (AW.region ?_)))
   refine s_move (d := (sc (.int .u32 x1))) rfl (s_unI (v := (.int .u32 (Go.bits .xor .u32 4294967295 x1))) rfl rfl (s_convI F.u_120 F.u_3 rfl (s_assign (d := (si (IntKind.i64.wrap (Go.bits .xor .u32 4294967295 x1)))) rfl (AWops.nil (AW.ret ?_)))))
   obtain rfl := Option.some.inj h
   exact ⟨_, rfl, (wg 0 [] [] rfl (le_upd (le_top _) (o1 .sc)) an)⟩
def slices_Grow_byte_byte_nil0.f (k : Nat) (a1 : Int) : Option (List Int) := if (decide (a1 < 0)) = true then (none) else (if (decide ((IntKind.i64.wrap (a1 - 0)) > 0)) = true then (if (decide (0 < (IntKind.i64.wrap (a1 - 0)) ∧ (IntKind.i64.wrap (a1 - 0)) ≤ 140737488355328)) = true then (some ([] : List Int)) else none) else (some ([] : List Int)))
theorem slices_Grow_byte_byte_nil0.meets (k : Nat) (a1 : Int) (r : (List Int)) (h : slices_Grow_byte_byte_nil0.f k a1 = some r) : Meets Try.prog 78 [(sc (.slice none 0 0)), (si a1)] [] (D.one (C.own 0 0 r.length 1)) [(ow_ e_u8 r)] := by
 unfold slices_Grow_byte_byte_nil0.f at h
 refine Meets.of_body (n := 27) Try.func78 rfl rfl (nl rfl) fun x hx => ?_
 replace hx : x.k = 0 := hx
 show AW _ x _ _ ⟨27, fr0 [(sc (.slice none 0 0)), (si a1)], []⟩
 refine AW.seq (AW.region ?_)
 refine s_assign (d := (sc (.slice none 0 0))) rfl (AWops.nil (AW.seq (AW.seq (AW.region ?_))))
 refine s_move (d := (si a1)) rfl (s_binI (v := (.bool (decide (a1 < 0)))) rfl rfl rfl (AWops.nil ?_))
 rcases itH h with ⟨c2, h⟩ | ⟨c2, h⟩
 ·refine AW.cond_yes rfl c2 (AW.region ?_)
  cases h
 ·refine AW.cond_no rfl c2 (AW.skip (AW.seq (AW.seq (AW.region ?_))))
  refine s_move (d := (si a1)) rfl (s_move (d := (sc (.slice none 0 0))) rfl (s_capNil F.u_22 rfl (s_move (d := (sc (.slice none 0 0))) rfl (s_len (n := 0) F.u_22 rfl (.inr ⟨(fun _ _ h => by cases h), ⟨_, rfl⟩⟩) (s_binI (v := (.int .i64 0)) rfl rfl (by rfl) ?_)))))
  refine s_binI (v := (.int .i64 (IntKind.i64.wrap (a1 - 0)))) rfl rfl rfl (s_assign (d := (si (IntKind.i64.wrap (a1 - 0)))) rfl (AWops.nil (AW.seq (AW.region (s_move (d := (si (IntKind.i64.wrap (a1 - 0)))) rfl (s_binI (v := (.bool (decide ((IntKind.i64.wrap (a1 - 0)) > 0)))) rfl rfl rfl (AWops.nil ?_)))))))
  rcases itH h with ⟨c3, h⟩ | ⟨c3, h⟩
  ·refine AW.cond_yes rfl c3 (AW.region ?_)
   refine s_move (d := (sc (.slice none 0 0))) rfl (s_move (d := (sc (.slice none 0 0))) rfl (s_capNil F.u_22 rfl (s_sliceNil F.u_22 F.sz_5 rfl rfl (s_move (d := (si (IntKind.i64.wrap (a1 - 0)))) rfl ?_))))
   obtain ⟨c4, h⟩ := gdH h
   have dc4 := of_decide_eq_true c4
   refine t_appendMake (f := e_u8) (a0 := (0 : Int)) F.u_22 F.u_3 F.in_5 rfl (by decide) rfl rfl rfl rfl (by omega) (by omega) (by omega) (s_move (d := (sc (.slice none 0 0))) rfl (s_len (n := 0) F.u_22 rfl (.inr ⟨(fun _ _ h => by cases h), ⟨_, rfl⟩⟩) (t_cut0 F.u_22 F.sz_5 rfl rfl rfl rfl (s_assign (d := (D.one (C.own 0 0 (([] : List Int).length) 1))) rfl (AWops.nil (AW.seq (AW.region (s_move (d := (D.one (C.own 0 0 (([] : List Int).length) 1))) rfl ?_))))))))
   refine s_assign (d := (D.one (C.own 0 0 (([] : List Int).length) 1))) rfl (AWops.nil (AW.ret ?_))
   obtain rfl := Option.some.inj h
   exact ⟨_, rfl, (wg 0 [0] [] rfl (le_upd (le_top _) (o1 (.own rfl))) (ac (.cells (fun _ => rfl) an) an))⟩
  ·refine AW.cond_no rfl c3 (AW.skip (AW.seq (AW.region ?_)))
   refine s_move (d := (sc (.slice none 0 0))) rfl (s_assign (d := (sc (.slice none 0 0))) rfl (AWops.nil (AW.ret ?_)))
   obtain rfl := Option.some.inj h
   exact ⟨_, rfl, (Weak.trans (Weak.nil (sz := 1) (i := 0) rfl) (wg 0 [0] [] rfl (le_upd (le_top _) (o1 (CLe.ownN rfl (by simp)))) (ac (.cells (fun _ => rfl) an) an)))⟩
mutual
def slices_Concat_byte_byte.l1 : Nat → (List Int) → Int → (List (List Int)) → Option (List Int)
 | 0, _, _, _ => none
 | k + 1, x7, x8, a0 => if (decide (x8 < (a0.length : Int))) = true then ((rd a0 x8).bind fun v10 => if (decide (x7.length + v10.length ≤ 140737488355328)) = true then (slices_Concat_byte_byte.l1 k (x7 ++ v10) (IntKind.i64.wrap (x8 + 1)) a0) else none) else (some x7)
def slices_Concat_byte_byte.l0 : Nat → Int → Int → (List (List Int)) → Option (List Int)
 | 0, _, _, _ => none
 | k + 1, x1, x2, a0 => if (decide (x2 < (a0.length : Int))) = true then ((rd a0 x2).bind fun v4 => if (decide ((IntKind.i64.wrap (x1 + (v4.length : Int))) < 0)) = true then (none) else (slices_Concat_byte_byte.l0 k (IntKind.i64.wrap (x1 + (v4.length : Int))) (IntKind.i64.wrap (x2 + 1)) a0)) else ((slices_Grow_byte_byte_nil0.f k x1).bind fun r6 => slices_Concat_byte_byte.l1 k r6 0 a0)
end
def slices_Concat_byte_byte.f (k : Nat) (a0 : List (List Int)) : Option (List Int) := slices_Concat_byte_byte.l0 k 0 0 a0
theorem slices_Concat_byte_byte.meets (k : Nat) (a0 : List (List Int)) (r : (List Int)) (h : slices_Concat_byte_byte.f k a0 = some r) : Meets Try.prog 57 [(D.one (C.p false (.sl a0.length (a0.flatMap (e_sl e_u8)))))] [] (D.one (C.own 0 0 r.length 1)) [(ow_ e_u8 r)] := by
 unfold slices_Concat_byte_byte.f at h
 refine Meets.of_body (n := 36) Try.func57 rfl rfl (nl rfl) fun x hx => ?_
 replace hx : x.k = 0 := hx
 show AW _ x _ _ ⟨36, fr0 [(D.one (C.p false (.sl a0.length (a0.flatMap (e_sl e_u8)))))], []⟩
 refine AW.seq (AW.region ?_)
 refine s_assign (d := (sc (.slice none 0 0))) rfl (AWops.nil (AW.seq (AW.region ?_)))
 refine s_assign (d := (si 0)) rfl (AWops.nil (AW.seq (AW.seq (AW.region ?_))))
 refine s_move (d := (D.one (C.p false (.sl a0.length (a0.flatMap (e_sl e_u8)))))) rfl (s_len (n := a0.length) F.u_25 rfl (.inr ⟨(fun _ _ h => by cases h), ⟨_, rfl⟩⟩) (s_move (d := (si 0)) rfl (AWops.nil (AW.block ?_))))
 refine AW.loopw (st0 := ⟨36, (upd 36 (upd 36 (upd 36 (upd 36 (upd 36 topF 0 (D.one (C.p false (.sl a0.length (a0.flatMap (e_sl e_u8)))))) 3 (si 0)) 9 (D.one (C.p false (.sl a0.length (a0.flatMap (e_sl e_u8)))))) 10 (si (a0.length : Int))) 11 (si 0)), []⟩) (fun kv st => kv ≤ k ∧ ∃ (x1 : Int) (x2 : Int), slices_Concat_byte_byte.l0 kv x1 x2 a0 = some r ∧ st = ⟨36, (upd 36 (upd 36 (upd 36 (upd 36 (upd 36 topF 0 (D.one (C.p false (.sl a0.length (a0.flatMap (e_sl e_u8)))))) 3 (si x1)) 9 (D.one (C.p false (.sl a0.length (a0.flatMap (e_sl e_u8)))))) 10 (si (a0.length : Int))) 11 (si x2)), []⟩) (k := k) (wg 0 [] [] hx (le_upd (le_upd (le_upd (le_upd (le_upd (le_top _) (o1 .same)) (o1 .sc)) (o1 .same)) (o1 .sc)) (o1 .sc)) an) ⟨Nat.le_refl _, 0, 0, h, rfl⟩ ?_
 rintro ql0 st ⟨hkl0, x1, x2, h, rfl⟩
 cases ql0 with
 | zero => exact absurd h (by simp [slices_Concat_byte_byte.l0])
 | succ ql0 =>
  replace h := (slices_Concat_byte_byte.l0.eq_2 _ _ _ _).symm.trans h
  refine AW.seq (AW.region ?_)
  refine s_binI (v := (.bool (decide (x2 < (a0.length : Int))))) rfl rfl rfl (AWops.nil (AW.seq ?_))
  rcases itH h with ⟨c3, h⟩ | ⟨c3, h⟩
  ·refine AW.cond_yes rfl c3 (AW.skip (AW.seq (AW.block (AW.seq (AW.region ?_)))))
   obtain ⟨v4, ev4, h⟩ := bnd h
   obtain ⟨pv4, qv4, gv4⟩ := rd_some ev4
   refine s_indexImm (ps := [P.sl v4.length (v4.flatMap e_u8)]) F.u_25 F.sz_22 rfl rfl pv4 qv4 (flat_at (e_sl_len _) gv4 (e_sl_eq _ v4)) (s_load1 (c' := (cl_ e_u8 v4)) F.ag_22 rfl rfl (s_assign (d := (ds_ e_u8 v4)) rfl (AWops.nil (AW.seq (AW.region (s_move (d := (si x1)) rfl (s_move (d := (ds_ e_u8 v4)) rfl (s_len (n := v4.length) F.u_22 rfl (.inr ⟨(fun _ _ h => by cases h), ⟨_, rfl⟩⟩) ?_))))))))
   refine s_binI (v := (.int .i64 (IntKind.i64.wrap (x1 + (v4.length : Int))))) rfl rfl rfl (s_assign (d := (si (IntKind.i64.wrap (x1 + (v4.length : Int))))) rfl (AWops.nil (AW.seq (AW.region (s_move (d := (si (IntKind.i64.wrap (x1 + (v4.length : Int))))) rfl (s_binI (v := (.bool (decide ((IntKind.i64.wrap (x1 + (v4.length : Int))) < 0)))) rfl rfl rfl (AWops.nil ?_)))))))
   rcases itH h with ⟨c5, h⟩ | ⟨c5, h⟩
   ·refine AW.cond_yes rfl c5 (AW.region ?_)
    cases h
   ·refine AW.cond_no rfl c5 (AW.skip (AW.region ?_))
    refine s_binI (v := (.int .i64 (IntKind.i64.wrap (x2 + 1)))) rfl rfl rfl (s_move (d := (si (IntKind.i64.wrap (x2 + 1)))) rfl (AWops.nil ?_))
    exact ⟨_, ⟨36, (upd 36 (upd 36 (upd 36 (upd 36 (upd 36 topF 0 (D.one (C.p false (.sl a0.length (a0.flatMap (e_sl e_u8)))))) 3 (si (IntKind.i64.wrap (x1 + (v4.length : Int))))) 9 (D.one (C.p false (.sl a0.length (a0.flatMap (e_sl e_u8)))))) 10 (si (a0.length : Int))) 11 (si (IntKind.i64.wrap (x2 + 1)))), []⟩, by omega, (wg 0 [] [] hx (le_upd (le_upd (le_upd (le_upd (le_upd (le_top _) (o1 .same)) (o1 .sc)) (o1 .same)) (o1 .sc)) (o1 .sc)) an), by omega, IntKind.i64.wrap (x1 + (v4.length : Int)), IntKind.i64.wrap (x2 + 1), h, rfl⟩
  ·refine AW.cond_no rfl c3 (AW.exit (AW.seq (AW.region ?_)))
   refine s_move (d := (si x1)) rfl ?_
   obtain ⟨r6, er6, h⟩ := bnd h
   refine cc [] [(ow_ e_u8 r6)] (D.one (C.own 0 0 r6.length 1)) F.ca_78 rfl rfl (ac (.one .sc) (ac (.one .sc) an)) an (slices_Grow_byte_byte_nil0.meets _ x1 r6 er6) (s_assign (d := (D.one (C.own 0 0 r6.length 1))) rfl (AWops.nil (AW.seq (AW.seq (AW.region (s_move (d := (D.one (C.p false (.sl a0.length (a0.flatMap (e_sl e_u8)))))) rfl (s_len (n := a0.length) F.u_25 rfl (.inr ⟨(fun _ _ h => by cases h), ⟨_, rfl⟩⟩) (s_move (d := (si 0)) rfl (AWops.nil (AW.block ?_))))))))))
   refine AW.loopw (st0 := ⟨36, (upd 36 (upd 36 (upd 36 (upd 36 topF 6 (D.one (C.own 0 0 r6.length 1))) 25 (D.one (C.p false (.sl a0.length (a0.flatMap (e_sl e_u8)))))) 26 (si (a0.length : Int))) 27 (si 0)), [(ow_ e_u8 r6)]⟩) (fun kv st => kv ≤ ql0 ∧ ∃ (x7 : List Int) (x8 : Int), slices_Concat_byte_byte.l1 kv x7 x8 a0 = some r ∧ st = ⟨36, (upd 36 (upd 36 (upd 36 (upd 36 topF 6 (D.one (C.own 0 0 x7.length 1))) 25 (D.one (C.p false (.sl a0.length (a0.flatMap (e_sl e_u8)))))) 26 (si (a0.length : Int))) 27 (si x8)), [(ow_ e_u8 x7)]⟩) (k := ql0) (wg 0 [0] [] hx (le_upd (le_upd (le_upd (le_upd (le_top _) (o1 (.own rfl))) (o1 .same)) (o1 .sc)) (o1 .sc)) (ac (.cells (fun _ => rfl) (all2_row _)) an)) ⟨Nat.le_refl _, r6, 0, h, rfl⟩ ?_
   rintro ql1 st ⟨hkl1, x7, x8, h, rfl⟩
   cases ql1 with
   | zero => exact absurd h (by simp [slices_Concat_byte_byte.l1])
   | succ ql1 =>
    replace h := (slices_Concat_byte_byte.l1.eq_2 _ _ _ _).symm.trans h
    refine AW.seq (AW.region ?_)
    refine s_binI (v := (.bool (decide (x8 < (a0.length : Int))))) rfl rfl rfl (AWops.nil (AW.seq ?_))
    rcases itH h with ⟨c9, h⟩ | ⟨c9, h⟩
    ·refine AW.cond_yes rfl c9 (AW.skip (AW.seq (AW.block (AW.seq (AW.region ?_)))))
     obtain ⟨v10, ev10, h⟩ := bnd h
     obtain ⟨pv10, qv10, gv10⟩ := rd_some ev10
     refine s_indexImm (ps := [P.sl v10.length (v10.flatMap e_u8)]) F.u_25 F.sz_22 rfl rfl pv10 qv10 (flat_at (e_sl_len _) gv10 (e_sl_eq _ v10)) (s_load1 (c' := (cl_ e_u8 v10)) F.ag_22 rfl rfl (s_assign (d := (ds_ e_u8 v10)) rfl (AWops.nil (AW.region (s_move (d := (D.one (C.own 0 0 x7.length 1))) rfl (s_move (d := (ds_ e_u8 v10)) rfl ?_))))))
     obtain ⟨c11, h⟩ := gdH h
     have dc11 := of_decide_eq_true c11
     refine t_append (xs := x7) (ys := v10) (zs := x7 ++ v10) (H' := [none, (some (AObj.cells true (rowC e_u8 (x7 ++ v10))))]) F.u_22 F.in_5 rfl e_u8_len (.own rfl rfl) .imm F.u_22 (by omega) (by omega) rfl rfl (s_assign (d := (D.one (C.own 1 0 ((x7 ++ v10).length) 1))) rfl (AWops.nil (AW.region (s_binI (v := (.int .i64 (IntKind.i64.wrap (x8 + 1)))) rfl rfl rfl (s_move (d := (si (IntKind.i64.wrap (x8 + 1)))) rfl (AWops.nil ?_))))))
     exact ⟨_, ⟨36, (upd 36 (upd 36 (upd 36 (upd 36 topF 6 (D.one (C.own 0 0 (x7 ++ v10).length 1))) 25 (D.one (C.p false (.sl a0.length (a0.flatMap (e_sl e_u8)))))) 26 (si (a0.length : Int))) 27 (si (IntKind.i64.wrap (x8 + 1)))), [(some (AObj.cells true (rowC e_u8 (x7 ++ v10))))]⟩, by omega, (wg 0 [1] [] hx (le_upd (le_upd (le_upd (le_upd (le_top _) (o1 (.own rfl))) (o1 .same)) (o1 .sc)) (o1 .sc)) (ac (.cells (fun _ => rfl) (all2_row _)) an)), by omega, x7 ++ v10, IntKind.i64.wrap (x8 + 1), h, rfl⟩
    ·refine AW.cond_no rfl c9 (AW.exit (AW.seq (AW.region ?_)))
     refine s_move (d := (D.one (C.own 0 0 x7.length 1))) rfl (s_assign (d := (D.one (C.own 0 0 x7.length 1))) rfl (AWops.nil (AW.ret ?_)))
     obtain rfl := Option.some.inj h
     exact ⟨_, rfl, (wg 0 [0] [] rfl (le_upd (le_top _) (o1 (.own rfl))) (ac (.cells (fun _ => rfl) (all2_row _)) an))⟩
mutual
def journal_frame.l0 : Nat → (List Int) → Int → (List Int) → Int → Option (List Int)
 | 0, _, _, _, _ => none
 | k + 1, x2, x3, a0, r1 => if (decide (x3 < 4)) = true then (if (decide (0 ≤ (IntKind.i64.wrap (24 - (IntKind.i64.wrap (8 * x3)))))) = true then (if (decide (x3 < 8)) = true then ((rd x2 x3).bind fun v7 => if (decide ((IntKind.i64.wrap (4 + x3)) < 8)) = true then ((rd (x2.set x3.toNat (IntKind.u8.wrap (Int.fdiv (a0.length : Int) (2 ^ (min (IntKind.i64.wrap (24 - (IntKind.i64.wrap (8 * x3)))).toNat 64))))) (IntKind.i64.wrap (4 + x3))).bind fun v9 => journal_frame.l0 k ((x2.set x3.toNat (IntKind.u8.wrap (Int.fdiv (a0.length : Int) (2 ^ (min (IntKind.i64.wrap (24 - (IntKind.i64.wrap (8 * x3)))).toNat 64))))).set (IntKind.i64.wrap (4 + x3)).toNat (IntKind.u8.wrap (Int.fdiv r1 (2 ^ (min (IntKind.i64.wrap (24 - (IntKind.i64.wrap (8 * x3)))).toNat 64))))) (IntKind.i64.wrap (x3 + 1)) a0 r1) else none) else none) else none) else (if (decide (x2.length = 8)) = true then ((slices_Concat_byte_byte.f k ([x2, a0] : List (List Int))).bind fun r11 => some r11) else none)
end
def journal_frame.f (k : Nat) (a0 : List Int) : Option (List Int) := (wire_Crc.f k a0).bind fun r1 => journal_frame.l0 k (List.replicate 8 (0 : Int)) 0 a0 r1
theorem journal_frame.meets (k : Nat) (a0 : List Int) (r : (List Int)) (h : journal_frame.f k a0 = some r) : Meets Try.prog 26 [(ds_ e_u8 a0)] [] (D.one (C.own 0 0 r.length 1)) [(ow_ e_u8 r)] := by
 unfold journal_frame.f at h
 refine Meets.of_body (n := 36) Try.func26 rfl rfl (nl rfl) fun x hx => ?_
 replace hx : x.k = 0 := hx
 show AW _ x _ _ ⟨36, fr0 [(ds_ e_u8 a0)], []⟩
 refine AW.seq (AW.region ?_)
 refine s_assign (d := (sc (.slice none 0 0))) rfl (AWops.nil (AW.seq (AW.region ?_)))
 refine s_move (d := (ds_ e_u8 a0)) rfl (s_len (n := a0.length) F.u_22 rfl (.inr ⟨(fun _ _ h => by cases h), ⟨_, rfl⟩⟩) (s_move (d := (ds_ e_u8 a0)) rfl ?_))
 obtain ⟨r1, er1, h⟩ := bnd h
 refine cc [] [] (si r1) F.ca_58 rfl rfl (ac (.one .imm) an) an (wire_Crc.meets _ a0 r1 er1) (s_assign (d := (si (a0.length : Int))) rfl (s_assign (d := (si r1)) rfl (AWops.nil (AW.seq (AW.region (s_alloc (cs := rowC e_u8 (List.replicate 8 (0 : Int))) F.z_97 rfl rfl (AWops.nil (AW.seq (AW.seq (AW.region (s_move (d := (si 0)) rfl (AWops.nil (AW.block ?_)))))))))))))
 refine AW.loopw (st0 := ⟨36, (upd 36 (upd 36 (upd 36 (upd 36 (upd 36 topF 0 (ds_ e_u8 a0)) 3 (si (a0.length : Int))) 4 (si r1)) 5 (rf 0 0)) 11 (si 0)), [(some (AObj.cells true (rowC e_u8 (List.replicate 8 (0 : Int)))))]⟩) (fun kv st => kv ≤ k ∧ ∃ (x2 : List Int) (x3 : Int), journal_frame.l0 kv x2 x3 a0 r1 = some r ∧ st = ⟨36, (upd 36 (upd 36 (upd 36 (upd 36 (upd 36 topF 0 (ds_ e_u8 a0)) 3 (si (a0.length : Int))) 4 (si r1)) 5 (rf 0 0)) 11 (si x3)), [(ow_ e_u8 x2)]⟩) (k := k) (wg 0 [0] [] hx (le_upd (le_upd (le_upd (le_upd (le_upd (le_top _) (o1 .same)) (o1 .sc)) (o1 .sc)) (o1 (.ref rfl))) (o1 .sc)) (ac (.cells (fun _ => rfl) (all2_row _)) an)) ⟨Nat.le_refl _, (List.replicate 8 (0 : Int)), 0, h, rfl⟩ ?_
 rintro ql0 st ⟨hkl0, x2, x3, h, rfl⟩
 cases ql0 with
 | zero => exact absurd h (by simp [journal_frame.l0])
 | succ ql0 =>
  replace h := (journal_frame.l0.eq_2 _ _ _ _ _).symm.trans h
  refine AW.seq (AW.region ?_)
  refine s_binI (v := (.bool (decide (x3 < 4)))) rfl rfl rfl (AWops.nil (AW.seq ?_))
  rcases itH h with ⟨c4, h⟩ | ⟨c4, h⟩
  ·refine AW.cond_yes rfl c4 (AW.skip (AW.seq (AW.block (AW.seq (AW.region ?_)))))
   refine s_move (d := (si x3)) rfl (s_assign (d := (si x3)) rfl (AWops.nil (AW.seq (AW.region (s_move (d := (si x3)) rfl (s_move (d := (si (a0.length : Int))) rfl (s_move (d := (si x3)) rfl (s_binI (v := (.int .i64 (IntKind.i64.wrap (8 * x3)))) rfl rfl rfl ?_))))))))
   refine s_binI (v := (.int .i64 (IntKind.i64.wrap (24 - (IntKind.i64.wrap (8 * x3)))))) rfl rfl rfl ?_
   obtain ⟨c5, h⟩ := gdH h
   refine s_shift (v := (.int .i64 (Int.fdiv (a0.length : Int) (2 ^ (min (IntKind.i64.wrap (24 - (IntKind.i64.wrap (8 * x3)))).toNat 64))))) rfl rfl (if_neg (by have := of_decide_eq_true c5; omega)) (s_convI F.u_3 F.u_5 rfl ?_)
   obtain ⟨c6, h⟩ := gdH h
   obtain ⟨v7, ev7, h⟩ := bnd h
   obtain ⟨pv7, qv7, gv7⟩ := rd_some ev7
   refine s_indexArr (n := 8) (d := (D.one (C.ref 0 (0 + x3.toNat * 1)))) F.u_97 F.sz_5 rfl rfl pv7 (of_decide_eq_true c6) rfl ?_
   refine s_store (cs' := rowC e_u8 (x2.set x3.toNat (IntKind.u8.wrap (Int.fdiv (a0.length : Int) (2 ^ (min (IntKind.i64.wrap (24 - (IntKind.i64.wrap (8 * x3)))).toNat 64)))))) rfl rfl rfl (List.cons_ne_nil _ _) rfl F.sz_5 (by rw [row_len e_u8_len]; have := (List.getElem?_eq_some_iff.mp gv7).1; show _ + 1 ≤ _; omega) (row_set (f := e_u8) (sz := 1) (o := 0) (ds := [P.v (.int .u8 (IntKind.u8.wrap (Int.fdiv (a0.length : Int) (2 ^ (min (IntKind.i64.wrap (24 - (IntKind.i64.wrap (8 * x3)))).toNat 64)))))]) e_u8_len gv7 rfl (nl rfl) rfl) ?_
   refine AWops.nil (AW.region ?_)
   refine s_move (d := (si x3)) rfl (s_binI (v := (.int .i64 (IntKind.i64.wrap (4 + x3)))) rfl rfl rfl (s_move (d := (si r1)) rfl (s_move (d := (si x3)) rfl (s_binI (v := (.int .i64 (IntKind.i64.wrap (8 * x3)))) rfl rfl rfl (s_binI (v := (.int .i64 (IntKind.i64.wrap (24 - (IntKind.i64.wrap (8 * x3)))))) rfl rfl rfl ?_)))))
   refine s_shift (v := (.int .i64 (Int.fdiv r1 (2 ^ (min (IntKind.i64.wrap (24 - (IntKind.i64.wrap (8 * x3)))).toNat 64))))) rfl rfl (if_neg (by have := of_decide_eq_true c5; omega)) (s_convI F.u_3 F.u_5 rfl ?_)
   obtain ⟨c8, h⟩ := gdH h
   obtain ⟨v9, ev9, h⟩ := bnd h
   obtain ⟨pv9, qv9, gv9⟩ := rd_some ev9
   refine s_indexArr (n := 8) (d := (D.one (C.ref 0 (0 + (IntKind.i64.wrap (4 + x3)).toNat * 1)))) F.u_97 F.sz_5 rfl rfl pv9 (of_decide_eq_true c8) rfl ?_
   refine s_store (cs' := rowC e_u8 ((x2.set x3.toNat (IntKind.u8.wrap (Int.fdiv (a0.length : Int) (2 ^ (min (IntKind.i64.wrap (24 - (IntKind.i64.wrap (8 * x3)))).toNat 64))))).set (IntKind.i64.wrap (4 + x3)).toNat (IntKind.u8.wrap (Int.fdiv r1 (2 ^ (min (IntKind.i64.wrap (24 - (IntKind.i64.wrap (8 * x3)))).toNat 64)))))) rfl rfl rfl (List.cons_ne_nil _ _) rfl F.sz_5 (by rw [row_len e_u8_len]; have := (List.getElem?_eq_some_iff.mp gv9).1; show _ + 1 ≤ _; omega) (row_set (f := e_u8) (sz := 1) (o := 0) (ds := [P.v (.int .u8 (IntKind.u8.wrap (Int.fdiv r1 (2 ^ (min (IntKind.i64.wrap (24 - (IntKind.i64.wrap (8 * x3)))).toNat 64)))))]) e_u8_len gv9 rfl (nl rfl) rfl) ?_
   refine AWops.nil (AW.region ?_)
   refine s_binI (v := (.int .i64 (IntKind.i64.wrap (x3 + 1)))) rfl rfl rfl (s_move (d := (si (IntKind.i64.wrap (x3 + 1)))) rfl (AWops.nil ?_))
   exact ⟨_, ⟨36, (upd 36 (upd 36 (upd 36 (upd 36 (upd 36 topF 0 (ds_ e_u8 a0)) 3 (si (a0.length : Int))) 4 (si r1)) 5 (rf 0 0)) 11 (si (IntKind.i64.wrap (x3 + 1)))), [(some (AObj.cells true (rowC e_u8 ((x2.set x3.toNat (IntKind.u8.wrap (Int.fdiv (a0.length : Int) (2 ^ (min (IntKind.i64.wrap (24 - (IntKind.i64.wrap (8 * x3)))).toNat 64))))).set (IntKind.i64.wrap (4 + x3)).toNat (IntKind.u8.wrap (Int.fdiv r1 (2 ^ (min (IntKind.i64.wrap (24 - (IntKind.i64.wrap (8 * x3)))).toNat 64))))))))]⟩, by omega, (wg 0 [0] [] hx (le_upd (le_upd (le_upd (le_upd (le_upd (le_top _) (o1 .same)) (o1 .sc)) (o1 .sc)) (o1 (.ref rfl))) (o1 .sc)) (ac (.cells (fun _ => rfl) (all2_row _)) an)), by omega, (x2.set x3.toNat (IntKind.u8.wrap (Int.fdiv (a0.length : Int) (2 ^ (min (IntKind.i64.wrap (24 - (IntKind.i64.wrap (8 * x3)))).toNat 64))))).set (IntKind.i64.wrap (4 + x3)).toNat (IntKind.u8.wrap (Int.fdiv r1 (2 ^ (min (IntKind.i64.wrap (24 - (IntKind.i64.wrap (8 * x3)))).toNat 64)))), IntKind.i64.wrap (x3 + 1), h, rfl⟩
  ·refine AW.cond_no rfl c4 (AW.exit (AW.seq (AW.region ?_)))
   obtain ⟨c10, h⟩ := gdH h
   have dc10 := of_decide_eq_true c10
   refine s_sliceArr (n := 8) (l := 0) (h := 8) (d := (D.one (C.own 0 0 x2.length 1))) F.u_97 F.sz_5 rfl rfl (by rw [row_len e_u8_len]; omega) .no .no (by omega) (Nat.le_refl _) (by omega) (by simp [dc10]) (s_move (d := (ds_ e_u8 a0)) rfl ?_)
   refine AWops.weak (st' := ⟨36, (upd 36 (upd 36 (upd 36 (upd 36 (upd 36 (upd 36 (upd 36 topF 0 (ds_ e_u8 a0)) 3 (si (a0.length : Int))) 4 (si r1)) 11 (si x3)) 12 (sb (decide (x3 < 4)))) 32 (ds_ e_u8 x2)) 33 (ds_ e_u8 a0)), []⟩) (wg 0 [] [0] hx (le_upd (le_upd (le_upd (le_upd (le_upd (le_upd (le_upd (le_top _) (o1 .same)) (o1 .sc)) (o1 .sc)) (o1 .sc)) (o1 .sc)) (o1 (CLe.frz e_u8_len rfl rfl rfl))) (o1 .same)) an) ?_
   refine s_buildSlice (n := 2) (ps := [(0, (ds_ e_u8 x2)), (1, (ds_ e_u8 a0))]) (cs := rowC (e_sl e_u8) ([x2, a0] : List (List Int))) F.u_25 F.sz_22 F.z_22 rfl rfl (by decide) (by decide) rfl rfl ?_
   obtain ⟨r11, er11, h⟩ := bnd h
   refine s_call2 (ρ := []) (br := true) (H2 := [(some (AObj.cells true (rowC (e_sl e_u8) ([x2, a0] : List (List Int))))), (ow_ e_u8 r11)]) (d := (D.one (C.own 1 0 r11.length 1))) F.ca_57 rfl rfl (ac (.one (LendC.bor (e_sl_len _) rfl rfl rfl)) an) an (by decide) rfl (slices_Concat_byte_byte.meets _ ([x2, a0] : List (List Int)) r11 er11) (.inr ⟨rfl, by simp [frH, frC, fr_row e_u8_fr]⟩) (by first | rfl | (simp only [mS]; done) | (simp only [mS]; rfl)) rfl (s_assign (d := (D.one (C.own 1 0 r11.length 1))) rfl (AWops.nil (AW.ret ?_)))
   obtain rfl := Option.some.inj h
   exact ⟨_, rfl, (wg 0 [1] [] rfl (le_upd (le_top _) (o1 (.own rfl))) (ac (.cells (fun _ => rfl) (all2_row _)) an))⟩
def vdisk_named.f (k : Nat) (a0 : ByteArray) : Option Bool := if (a0.toList == (⟨#[]⟩ : ByteArray).toList) = true then (some false) else (some (decide ((a0.size : Int) ≤ 64)))
theorem vdisk_named.meets (k : Nat) (a0 : ByteArray) (r : Bool) (h : vdisk_named.f k a0 = some r) : Meets Try.prog 56 [(st_ a0)] [] (sb r) [] := by
 unfold vdisk_named.f at h
 refine Meets.of_body (n := 10) Try.func56 rfl rfl (nl rfl) fun x hx => ?_
 replace hx : x.k = 0 := hx
 show AW _ x _ _ ⟨10, fr0 [(st_ a0)], []⟩
 refine AW.seq (AW.region ?_)
 refine s_assign (d := (sb false)) rfl (AWops.nil (AW.seq (AW.region ?_)))
 refine s_move (d := (st_ a0)) rfl (s_binS (v := (.bool (!(a0.toList == (⟨#[]⟩ : ByteArray).toList)))) rfl rfl rfl (s_move (d := (sb (!(a0.toList == (⟨#[]⟩ : ByteArray).toList)))) rfl ?_))
 rcases itH h with ⟨c1, h⟩ | ⟨c1, h⟩
 ·iterate 3 refine AWops.guard_no rfl (nl rfl) rfl (by rw [c1] <;> rfl) ?_
  refine s_pick_no (d := (sb false)) rfl (by rw [c1] <;> rfl) rfl (s_assign (d := (sb false)) rfl (AWops.nil (AW.ret ?_)))
  obtain rfl := Option.some.inj h
  exact ⟨_, rfl, (wg 0 [] [] rfl (le_upd (le_top _) (o1 .sc)) an)⟩
 ·refine AWops.guard_yes rfl (nl rfl) rfl (by rw [c1] <;> rfl) ?_
  refine s_move (d := (st_ a0)) rfl ?_
  refine AWops.guard_yes rfl (nl rfl) rfl (by rw [c1] <;> rfl) ?_
  refine s_len (n := a0.size) F.u_9 rfl (.inl ⟨⟨_, _, rfl⟩, rfl⟩) ?_
  refine AWops.guard_yes rfl (nl rfl) rfl (by rw [c1] <;> rfl) ?_
  refine s_binI (v := (.bool (decide ((a0.size : Int) ≤ 64)))) rfl rfl rfl (s_pick_yes (d := (sb (decide ((a0.size : Int) ≤ 64)))) rfl (by rw [c1] <;> rfl) rfl (s_assign (d := (sb (decide ((a0.size : Int) ≤ 64)))) rfl (AWops.nil (AW.ret ?_))))
  obtain rfl := Option.some.inj h
  exact ⟨_, rfl, (wg 0 [] [] rfl (le_upd (le_top _) (o1 .sc)) an)⟩
def slices_Concat_byte_byte_57.f (k : Nat) (p0 : List Int) (p1 : List Int) : Option (List Int) := if (decide ((IntKind.i64.wrap (0 + (p0.length : Int))) < 0)) = true then (none) else (if (decide ((IntKind.i64.wrap ((IntKind.i64.wrap (0 + (p0.length : Int))) + (p1.length : Int))) < 0)) = true then (none) else ((slices_Grow_byte_byte_nil0.f k (IntKind.i64.wrap ((IntKind.i64.wrap (0 + (p0.length : Int))) + (p1.length : Int)))).bind fun r5 => if (decide (r5.length + p0.length ≤ 140737488355328)) = true then (if (decide ((r5 ++ p0).length + p1.length ≤ 140737488355328)) = true then (some ((r5 ++ p0) ++ p1)) else none) else none))
theorem slices_Concat_byte_byte_57.meets (k : Nat) (p0 : List Int) (p1 : List Int) (r : (List Int)) (h : slices_Concat_byte_byte_57.f k p0 p1 = some r) : Meets Try.prog 57 [(D.one (C.own 0 0 2 1))] [(some (AObj.cells false [(cl_ e_u8 p0), (C.own 1 0 p1.length 1)])), (or_ e_u8 p1)] (D.one (C.own 2 0 r.length 1)) [(some (AObj.cells false [(cl_ e_u8 p0), (C.own 1 0 p1.length 1)])), (or_ e_u8 p1), (ow_ e_u8 r)] := by
 unfold slices_Concat_byte_byte_57.f at h
 refine Meets.of_body (n := 36) Try.func57 rfl rfl (nl rfl) fun x hx => ?_
 replace hx : x.k = 2 := hx
 show AW _ x _ _ ⟨36, fr0 [(D.one (C.own 0 0 2 1))], [(some (AObj.cells false [(cl_ e_u8 p0), (C.own 1 0 p1.length 1)])), (or_ e_u8 p1)]⟩
 refine AW.seq (AW.region ?_)
 refine s_assign (d := (sc (.slice none 0 0))) rfl (AWops.nil (AW.seq (AW.region ?_)))
 refine s_assign (d := (si 0)) rfl (AWops.nil (AW.seq (AW.seq (AW.region ?_))))
 refine s_move (d := (D.one (C.own 0 0 2 1))) rfl (s_len (n := 2) F.u_25 rfl (.inr ⟨(fun _ _ h => by cases h), ⟨_, rfl⟩⟩) (s_move (d := (si 0)) rfl (AWops.nil (AW.block ?_))))
 refine AW.unroll 9 ?_
 refine U.step (AW.seq (AW.region ?_))
 refine s_binI (v := (.bool true)) rfl rfl rfl (AWops.nil (AW.seq ?_))
 refine AW.cond_yes rfl rfl (AW.skip (AW.seq (AW.block (AW.seq (AW.region ?_)))))
 refine s_indexOwn (d := (rf 0 0)) F.u_25 F.sz_22 rfl rfl (by decide) (by decide) rfl (s_load1 (c' := (cl_ e_u8 p0)) F.ag_22 rfl rfl (s_assign (d := (ds_ e_u8 p0)) rfl (AWops.nil (AW.seq (AW.region (s_move (d := (si 0)) rfl (s_move (d := (ds_ e_u8 p0)) rfl (s_len (n := p0.length) F.u_22 rfl (.inr ⟨(fun _ _ h => by cases h), ⟨_, rfl⟩⟩) ?_))))))))
 refine s_binI (v := (.int .i64 (IntKind.i64.wrap (0 + (p0.length : Int))))) rfl rfl rfl (s_assign (d := (si (IntKind.i64.wrap (0 + (p0.length : Int))))) rfl (AWops.nil (AW.seq (AW.region (s_move (d := (si (IntKind.i64.wrap (0 + (p0.length : Int))))) rfl (s_binI (v := (.bool (decide ((IntKind.i64.wrap (0 + (p0.length : Int))) < 0)))) rfl rfl rfl (AWops.nil ?_)))))))
 rcases itH h with ⟨c2, h⟩ | ⟨c2, h⟩
 ·refine AW.cond_yes rfl c2 (AW.region ?_)
  cases h
 ·refine AW.cond_no rfl c2 (AW.skip (AW.region ?_))
  refine s_binI (v := (.int .i64 1)) rfl rfl (by rfl) (s_move (d := (si 1)) rfl (AWops.nil ?_))
  refine U.step (AW.seq (AW.region ?_))
  refine s_binI (v := (.bool true)) rfl rfl rfl (AWops.nil (AW.seq ?_))
  refine AW.cond_yes rfl rfl (AW.skip (AW.seq (AW.block (AW.seq (AW.region ?_)))))
  refine s_indexOwn (d := (rf 0 1)) F.u_25 F.sz_22 rfl rfl (by decide) (by decide) rfl (s_load1 (c' := (C.own 1 0 p1.length 1)) F.ag_22 rfl rfl (s_assign (d := (D.one (C.own 1 0 p1.length 1))) rfl (AWops.nil (AW.seq (AW.region (s_move (d := (si (IntKind.i64.wrap (0 + (p0.length : Int))))) rfl (s_move (d := (D.one (C.own 1 0 p1.length 1))) rfl (s_len (n := p1.length) F.u_22 rfl (.inr ⟨(fun _ _ h => by cases h), ⟨_, rfl⟩⟩) ?_))))))))
  refine s_binI (v := (.int .i64 (IntKind.i64.wrap ((IntKind.i64.wrap (0 + (p0.length : Int))) + (p1.length : Int))))) rfl rfl rfl (s_assign (d := (si (IntKind.i64.wrap ((IntKind.i64.wrap (0 + (p0.length : Int))) + (p1.length : Int))))) rfl (AWops.nil (AW.seq (AW.region (s_move (d := (si (IntKind.i64.wrap ((IntKind.i64.wrap (0 + (p0.length : Int))) + (p1.length : Int))))) rfl (s_binI (v := (.bool (decide ((IntKind.i64.wrap ((IntKind.i64.wrap (0 + (p0.length : Int))) + (p1.length : Int))) < 0)))) rfl rfl rfl (AWops.nil ?_)))))))
  rcases itH h with ⟨c4, h⟩ | ⟨c4, h⟩
  ·refine AW.cond_yes rfl c4 (AW.region ?_)
   cases h
  ·refine AW.cond_no rfl c4 (AW.skip (AW.region ?_))
   refine s_binI (v := (.int .i64 2)) rfl rfl (by rfl) (s_move (d := (si 2)) rfl (AWops.nil ?_))
   refine U.step (AW.seq (AW.region ?_))
   refine s_binI (v := (.bool false)) rfl rfl rfl (AWops.nil (AW.seq ?_))
   refine AW.cond_no rfl rfl (AW.exit (AW.seq (AW.region ?_)))
   refine s_move (d := (si (IntKind.i64.wrap ((IntKind.i64.wrap (0 + (p0.length : Int))) + (p1.length : Int))))) rfl ?_
   obtain ⟨r5, er5, h⟩ := bnd h
   refine cc [] [(some (AObj.cells false [(cl_ e_u8 p0), (C.own 1 0 p1.length 1)])), (or_ e_u8 p1), (ow_ e_u8 r5)] (D.one (C.own 2 0 r5.length 1)) F.ca_78 rfl rfl (ac (.one .sc) (ac (.one .sc) an)) an (slices_Grow_byte_byte_nil0.meets _ (IntKind.i64.wrap ((IntKind.i64.wrap (0 + (p0.length : Int))) + (p1.length : Int))) r5 er5) (s_assign (d := (D.one (C.own 2 0 r5.length 1))) rfl (AWops.nil (AW.seq (AW.seq (AW.region (s_move (d := (D.one (C.own 0 0 2 1))) rfl (s_len (n := 2) F.u_25 rfl (.inr ⟨(fun _ _ h => by cases h), ⟨_, rfl⟩⟩) (s_move (d := (si 0)) rfl (AWops.nil (AW.block ?_))))))))))
   refine AW.unroll 9 ?_
   refine U.step (AW.seq (AW.region ?_))
   refine s_binI (v := (.bool true)) rfl rfl rfl (AWops.nil (AW.seq ?_))
   refine AW.cond_yes rfl rfl (AW.skip (AW.seq (AW.block (AW.seq (AW.region ?_)))))
   refine s_indexOwn (d := (rf 0 0)) F.u_25 F.sz_22 rfl rfl (by decide) (by decide) rfl (s_load1 (c' := (cl_ e_u8 p0)) F.ag_22 rfl rfl (s_assign (d := (ds_ e_u8 p0)) rfl (AWops.nil (AW.region (s_move (d := (D.one (C.own 2 0 r5.length 1))) rfl (s_move (d := (ds_ e_u8 p0)) rfl ?_))))))
   obtain ⟨c6, h⟩ := gdH h
   have dc6 := of_decide_eq_true c6
   refine t_append (xs := r5) (ys := p0) (zs := r5 ++ p0) (H' := [(some (AObj.cells false [(cl_ e_u8 p0), (C.own 1 0 p1.length 1)])), (or_ e_u8 p1), none, (some (AObj.cells true (rowC e_u8 (r5 ++ p0))))]) F.u_22 F.in_5 rfl e_u8_len (.own rfl rfl) .imm F.u_22 (by omega) (by omega) rfl rfl (s_assign (d := (D.one (C.own 3 0 ((r5 ++ p0).length) 1))) rfl (AWops.nil (AW.region (s_binI (v := (.int .i64 1)) rfl rfl (by rfl) (s_move (d := (si 1)) rfl (AWops.nil ?_))))))
   refine U.step (AW.seq (AW.region ?_))
   refine s_binI (v := (.bool true)) rfl rfl rfl (AWops.nil (AW.seq ?_))
   refine AW.cond_yes rfl rfl (AW.skip (AW.seq (AW.block (AW.seq (AW.region ?_)))))
   refine s_indexOwn (d := (rf 0 1)) F.u_25 F.sz_22 rfl rfl (by decide) (by decide) rfl (s_load1 (c' := (C.own 1 0 p1.length 1)) F.ag_22 rfl rfl (s_assign (d := (D.one (C.own 1 0 p1.length 1))) rfl (AWops.nil (AW.region (s_move (d := (D.one (C.own 3 0 ((r5 ++ p0).length) 1))) rfl (s_move (d := (D.one (C.own 1 0 p1.length 1))) rfl ?_))))))
   obtain ⟨c7, h⟩ := gdH h
   have dc7 := of_decide_eq_true c7
   refine t_append (xs := r5 ++ p0) (ys := p1) (zs := (r5 ++ p0) ++ p1) (H' := [(some (AObj.cells false [(cl_ e_u8 p0), (C.own 1 0 p1.length 1)])), (or_ e_u8 p1), none, none, (some (AObj.cells true (rowC e_u8 ((r5 ++ p0) ++ p1))))]) F.u_22 F.in_5 rfl e_u8_len (.own rfl rfl) (.own rfl rfl) F.u_22 (by omega) (by omega) rfl rfl (s_assign (d := (D.one (C.own 4 0 (((r5 ++ p0) ++ p1).length) 1))) rfl (AWops.nil (AW.region (s_binI (v := (.int .i64 2)) rfl rfl (by rfl) (s_move (d := (si 2)) rfl (AWops.nil ?_))))))
   refine U.step (AW.seq (AW.region ?_))
   refine s_binI (v := (.bool false)) rfl rfl rfl (AWops.nil (AW.seq ?_))
   refine AW.cond_no rfl rfl (AW.exit (AW.seq (AW.region ?_)))
   refine s_move (d := (D.one (C.own 4 0 (((r5 ++ p0) ++ p1).length) 1))) rfl (s_assign (d := (D.one (C.own 4 0 (((r5 ++ p0) ++ p1).length) 1))) rfl (AWops.nil (AW.ret ?_)))
   obtain rfl := Option.some.inj h
   exact ⟨_, rfl, (wg 2 [0, 1, 4] [] rfl (le_upd (le_top _) (o1 (.own rfl))) (ac (.cells id (ac .same (ac (.own rfl) an))) (ac (.cells id (all2_row _)) (ac (.cells (fun _ => rfl) (all2_row _)) an))))⟩
def vdisk_Disk_set.f (k : Nat) (p0 : vdisk_Disk) (a1 : ByteArray) (a2 : vdisk_file) : Option vdisk_Disk := some (⟨mset a1 a2 p0.files, p0.room, IntKind.i64.wrap (p0.used + (IntKind.i64.wrap ((a2.b.length : Int) - (((lk_vdisk_file a1 p0.files).b).length : Int)))), (), p0.dead⟩ : vdisk_Disk)
theorem vdisk_Disk_set.meets (k : Nat) (p0 : vdisk_Disk) (a1 : ByteArray) (a2 : vdisk_file) (r : vdisk_Disk) (h : vdisk_Disk_set.f k p0 a1 a2 = some r) : Meets Try.prog 36 [(rf 0 0), (st_ a1), (D.agg (c_vdisk_file a2))] [(o_vdisk_Disk_03 false (C.mp 1) np p0), (om_ e_vdisk_file p0.files)] (D.tup []) [(o_vdisk_Disk_03 false (C.mp 1) np r), (om_ e_vdisk_file r.files)] := by
 unfold vdisk_Disk_set.f at h
 refine Meets.of_body (n := 31) Try.func36 rfl rfl (nl rfl) fun x hx => ?_
 replace hx : x.k = 2 := hx
 show AW _ x _ _ ⟨31, fr0 [(rf 0 0), (st_ a1), (D.agg (c_vdisk_file a2))], [(o_vdisk_Disk_03 false (C.mp 1) np p0), (om_ e_vdisk_file p0.files)]⟩
 refine AW.seq (AW.region ?_)
 refine s_box (cs := (c_vdisk_file a2)) rfl (List.cons_ne_nil _ _) rfl (AWops.nil (AW.seq ?_))
 refine AW.weak (st' := ⟨31, (upd 31 (upd 31 (upd 31 topF 0 (rf 0 0)) 1 (st_ a1)) 5 (rf 2 0)), [(o_vdisk_Disk_03 false (C.mp 1) np p0), (om_ e_vdisk_file p0.files), (some (AObj.cells true (c_vdisk_file a2)))]⟩) (wg 2 [0, 1, 2] [] hx (le_upd (le_upd (le_upd (le_top _) (o1 (.ref rfl))) (o1 .sc)) (o1 (.ref rfl))) (ac (qs rfl) (ac .map (ac (.cells (fun _ => rfl) (ac .same (ac .sc an))) an)))) ?_
 refine AW.draw (n := 31) (L := 3) [(ft 0 6 (rf 0 0) [(0, (rf 0 0))]), (ft 1 7 (rf 0 0) [(6, (rf 0 0))]), (ft 2 8 (rf 0 2) [(7, (rf 0 0))]), (3, ⟨some 9, (si p0.used), [(8, (rf 0 2))], [(0, (o_vdisk_Disk_03 false (C.mp 1) np p0))], [], none⟩), (ft 4 10 (rf 2 0) [(5, (rf 2 0))]), (5, ⟨some 11, (ds_ e_u8 a2.b), [(10, (rf 2 0))], [(2, (some (AObj.cells true (c_vdisk_file a2))))], [], none⟩), (ft 6 12 (si (a2.b.length : Int)) [(11, (ds_ e_u8 a2.b))]), (ft 7 13 (rf 0 0) [(0, (rf 0 0))]), (ft 8 14 (rf 0 0) [(13, (rf 0 0))]), (ft 9 15 (rf 0 0) [(14, (rf 0 0))]), (10, ⟨some 16, (D.one (C.mp 1)), [(15, (rf 0 0))], [(0, (o_vdisk_Disk_03 false (C.mp 1) np p0))], [], none⟩), (ft 11 17 (st_ a1) [(1, (st_ a1))]), (12, ⟨some 18, (D.agg (c_vdisk_file (lk_vdisk_file a1 p0.files))), [(16, (D.one (C.mp 1))), (17, (st_ a1))], [(1, (om_ e_vdisk_file p0.files))], [], none⟩), (ft 13 19 (D.one (C.p false (.sl ((lk_vdisk_file a1 p0.files).b).length (((lk_vdisk_file a1 p0.files).b).flatMap e_u8)))) [(18, (D.agg (c_vdisk_file (lk_vdisk_file a1 p0.files))))]), (ft 14 20 (si (((lk_vdisk_file a1 p0.files).b).length : Int)) [(19, (D.one (C.p false (.sl ((lk_vdisk_file a1 p0.files).b).length (((lk_vdisk_file a1 p0.files).b).flatMap e_u8)))))]), (ft 15 21 (si (IntKind.i64.wrap ((a2.b.length : Int) - (((lk_vdisk_file a1 p0.files).b).length : Int)))) [(12, (si (a2.b.length : Int))), (20, (si (((lk_vdisk_file a1 p0.files).b).length : Int)))]), (ft 16 22 (si (IntKind.i64.wrap (p0.used + (IntKind.i64.wrap ((a2.b.length : Int) - (((lk_vdisk_file a1 p0.files).b).length : Int)))))) [(9, (si p0.used)), (21, (si (IntKind.i64.wrap ((a2.b.length : Int) - (((lk_vdisk_file a1 p0.files).b).length : Int)))))]), (ft 17 23 (rf 0 0) [(6, (rf 0 0))]), (ft 18 24 (rf 0 2) [(23, (rf 0 0))]), (19, ⟨none, (D.one C.top), [(22, (si (IntKind.i64.wrap (p0.used + (IntKind.i64.wrap ((a2.b.length : Int) - (((lk_vdisk_file a1 p0.files).b).length : Int))))))), (24, (rf 0 2))], [(0, (o_vdisk_Disk_03 false (C.mp 1) np p0))], [(0, (some (AObj.cells false [(C.mp 1), (ci p0.room), (ci (IntKind.i64.wrap (p0.used + (IntKind.i64.wrap ((a2.b.length : Int) - (((lk_vdisk_file a1 p0.files).b).length : Int)))))), np, (cb p0.dead)])))], none⟩)] [[], [0], [0, 1], [0, 1, 2], [], [4], [4, 5], [], [7], [7, 8], [7, 8, 9], [], [7, 8, 9, 10, 11], [7, 8, 9, 10, 11, 12], [7, 8, 9, 10, 11, 12, 13], [4, 5, 6, 7, 8, 9, 10, 11, 12, 13, 14], (.range 16), (.range 17), (.range 18), (.range 19)] (nl rfl) [0, 1, 2, 3, 0, 1, 2, 0, 1, 2, 3, 0, 4, 5, 6, 7, 8, 9, 10, 11] rfl (TK := []) rfl AllK.nil' (by repeat (first | refine fC ⟨?_, ?_⟩ ?_ | refine sC rfl ?_ | refine hC rfl ?_ | trivial)) ?_ ?_
 ·refine y8 ?_ ?_ ?_ ?_ ?_ ?_ ?_ ?_ (y8 ?_ ?_ ?_ ?_ ?_ ?_ ?_ ?_ (y4 ?_ ?_ ?_ ?_ yN))
  ·intro K _ f w u k
   show Wp K ⟨31, (upd 31 f 0 (rf 0 0)), _⟩
   refine s_move (d := (rf 0 0)) rfl k
  ·intro K _ f w u k
   show Wp K ⟨31, (upd 31 f 6 (rf 0 0)), [_, _, _]⟩
   refine s_nilCheck (d := (rf 0 0)) rfl (.inl ⟨_, _, rfl⟩) k
  ·intro K _ f w u k
   show Wp K ⟨31, (upd 31 f 7 (rf 0 0)), [_, _, _]⟩
   refine s_fieldRef F.fo_37_2 (by decide) rfl k
  ·intro K _ f w u k
   show Wp K ⟨31, (upd 31 f 8 (rf 0 2)), [(o_vdisk_Disk_03 false (C.mp 1) np p0), _, _]⟩
   refine s_load1 (c' := (ci p0.used)) F.ag_3 rfl rfl k
  ·intro K _ f w u k
   show Wp K ⟨31, (upd 31 f 5 (rf 2 0)), [_, _, _]⟩
   refine s_fieldRef F.fo_79_0 (by decide) rfl k
  ·intro K _ f w u k
   show Wp K ⟨31, (upd 31 f 10 (rf 2 0)), [_, _, (some (AObj.cells true (c_vdisk_file a2)))]⟩
   refine s_load1 (c' := (cl_ e_u8 a2.b)) F.ag_22 rfl rfl k
  ·intro K _ f w u k
   show Wp K ⟨31, (upd 31 f 11 (ds_ e_u8 a2.b)), [_, _, _]⟩
   refine s_len (n := a2.b.length) F.u_22 rfl (.inr ⟨(fun _ _ h => by cases h), ⟨_, rfl⟩⟩) k
  ·intro K _ f w u k
   show Wp K ⟨31, (upd 31 f 0 (rf 0 0)), _⟩
   refine s_move (d := (rf 0 0)) rfl k
  ·intro K _ f w u k
   show Wp K ⟨31, (upd 31 f 13 (rf 0 0)), [_, _, _]⟩
   refine s_nilCheck (d := (rf 0 0)) rfl (.inl ⟨_, _, rfl⟩) k
  ·intro K _ f w u k
   show Wp K ⟨31, (upd 31 f 14 (rf 0 0)), [_, _, _]⟩
   refine s_fieldRef F.fo_37_0 (by decide) rfl k
  ·intro K _ f w u k
   show Wp K ⟨31, (upd 31 f 15 (rf 0 0)), [(o_vdisk_Disk_03 false (C.mp 1) np p0), _, _]⟩
   refine s_load1 (c' := (C.mp 1)) F.ag_34 rfl rfl k
  ·intro K _ f w u k
   show Wp K ⟨31, (upd 31 f 1 (st_ a1)), _⟩
   refine s_move (d := (st_ a1)) rfl k
  ·intro K _ f w u k
   show Wp K ⟨31, (upd 31 (upd 31 f 17 (st_ a1)) 16 (D.one (C.mp 1))), [_, (om_ e_vdisk_file p0.files), _]⟩
   refine t_lookup (b := true) F.u_34 F.u_9 F.z_79 (z := ((⟨([] : List Int), 0⟩ : vdisk_file) : vdisk_file)) (zs := [(.slice none 0 0), (.int .i64 0)]) rfl (fun h => by cases h) (ac ZRel.n (ac (ZRel.v _ rfl) an)) rfl rfl rfl rfl k
  ·intro K _ f w u k
   show Wp K ⟨31, (upd 31 f 18 (D.agg (c_vdisk_file (lk_vdisk_file a1 p0.files)))), [_, _, _]⟩
   refine s_field1 (c := (C.p false (.sl ((lk_vdisk_file a1 p0.files).b).length (((lk_vdisk_file a1 p0.files).b).flatMap e_u8)))) F.fo_79_0 rfl rfl k
  ·intro K _ f w u k
   show Wp K ⟨31, (upd 31 f 19 (D.one (C.p false (.sl ((lk_vdisk_file a1 p0.files).b).length (((lk_vdisk_file a1 p0.files).b).flatMap e_u8))))), [_, _, _]⟩
   refine s_len (n := ((lk_vdisk_file a1 p0.files).b).length) F.u_22 rfl (.inr ⟨(fun _ _ h => by cases h), ⟨_, rfl⟩⟩) k
  ·intro K _ f w u k
   show Wp K ⟨31, (upd 31 (upd 31 f 20 (si (((lk_vdisk_file a1 p0.files).b).length : Int))) 12 (si (a2.b.length : Int))), _⟩
   refine s_binI (v := (.int .i64 (IntKind.i64.wrap ((a2.b.length : Int) - (((lk_vdisk_file a1 p0.files).b).length : Int))))) rfl rfl rfl k
  ·intro K _ f w u k
   show Wp K ⟨31, (upd 31 (upd 31 f 21 (si (IntKind.i64.wrap ((a2.b.length : Int) - (((lk_vdisk_file a1 p0.files).b).length : Int))))) 9 (si p0.used)), _⟩
   refine s_binI (v := (.int .i64 (IntKind.i64.wrap (p0.used + (IntKind.i64.wrap ((a2.b.length : Int) - (((lk_vdisk_file a1 p0.files).b).length : Int))))))) rfl rfl rfl k
  ·intro K _ f w u k
   show Wp K ⟨31, (upd 31 f 6 (rf 0 0)), [_, _, _]⟩
   refine s_nilCheck (d := (rf 0 0)) rfl (.inl ⟨_, _, rfl⟩) k
  ·intro K _ f w u k
   show Wp K ⟨31, (upd 31 f 23 (rf 0 0)), [_, _, _]⟩
   refine s_fieldRef F.fo_37_2 (by decide) rfl k
  ·intro K _ f w u k
   show Wp K ⟨31, (upd 31 (upd 31 f 24 (rf 0 2)) 22 (si (IntKind.i64.wrap (p0.used + (IntKind.i64.wrap ((a2.b.length : Int) - (((lk_vdisk_file a1 p0.files).b).length : Int))))))), [(o_vdisk_Disk_03 false (C.mp 1) np p0), _, _]⟩
   refine s_store (cs' := [(C.mp 1), (ci p0.room), (ci (IntKind.i64.wrap (p0.used + (IntKind.i64.wrap ((a2.b.length : Int) - (((lk_vdisk_file a1 p0.files).b).length : Int)))))), np, (cb p0.dead)]) rfl rfl rfl (List.cons_ne_nil _ _) rfl F.sz_3 (nl rfl) rfl k
 ·refine AWops.weak (st' := ⟨31, (upd 31 (upd 31 (upd 31 topF 0 (rf 0 0)) 1 (st_ a1)) 5 (rf 2 0)), [(some (AObj.cells false [(C.mp 1), (ci p0.room), (ci (IntKind.i64.wrap (p0.used + (IntKind.i64.wrap ((a2.b.length : Int) - (((lk_vdisk_file a1 p0.files).b).length : Int)))))), np, (cb p0.dead)])), (om_ e_vdisk_file p0.files), (some (AObj.cells true (c_vdisk_file a2)))]⟩) (wg 2 [0, 1, 2] [] hx (le_upd (le_upd (le_upd (le_top _) (o1 (.ref rfl))) (o1 .sc)) (o1 (.ref rfl))) (ac (qs rfl) (ac .map (ac (.cells (fun _ => rfl) (ac .same (ac .sc an))) an)))) (AWops.nil ?_)
  refine AW.weak (st' := ⟨31, (upd 31 (upd 31 (upd 31 topF 0 (rf 0 0)) 1 (st_ a1)) 5 (rf 2 0)), [(some (AObj.cells false [(C.mp 1), (ci p0.room), (ci (IntKind.i64.wrap (p0.used + (IntKind.i64.wrap ((a2.b.length : Int) - (((lk_vdisk_file a1 p0.files).b).length : Int)))))), np, (cb p0.dead)])), (om_ e_vdisk_file p0.files), (some (AObj.cells true (c_vdisk_file a2)))]⟩) (wg 2 [0, 1, 2] [] hx (le_upd (le_upd (le_upd (le_top _) (o1 (.ref rfl))) (o1 .sc)) (o1 (.ref rfl))) (ac (qs rfl) (ac .map (ac (.cells (fun _ => rfl) (ac .same (ac .sc an))) an)))) ?_
  refine AW.draw (n := 31) (L := 3) [(ft 0 25 (rf 0 0) [(0, (rf 0 0))]), (ft 1 26 (rf 0 0) [(25, (rf 0 0))]), (ft 2 27 (rf 0 0) [(26, (rf 0 0))]), (3, ⟨some 28, (D.one (C.mp 1)), [(27, (rf 0 0))], [(0, (some (AObj.cells false [(C.mp 1), (ci p0.room), (ci (IntKind.i64.wrap (p0.used + (IntKind.i64.wrap ((a2.b.length : Int) - (((lk_vdisk_file a1 p0.files).b).length : Int)))))), np, (cb p0.dead)])))], [], none⟩), (ft 4 29 (st_ a1) [(1, (st_ a1))]), (5, ⟨some 30, (D.agg (c_vdisk_file a2)), [(5, (rf 2 0))], [(2, (some (AObj.cells true (c_vdisk_file a2))))], [], none⟩), (6, ⟨none, (D.one C.top), [(28, (D.one (C.mp 1))), (29, (st_ a1)), (30, (D.agg (c_vdisk_file a2)))], [(1, (om_ e_vdisk_file p0.files))], [(1, (some (AObj.map false (mapE true e_vdisk_file (mset a1 a2 p0.files)))))], none⟩)] [[], [0], [0, 1], [0, 1, 2], [], [], (.range 6)] (nl rfl) [0, 1, 2, 3, 0, 0, 4] rfl (TK := []) rfl AllK.nil' (by repeat (first | refine fC ⟨?_, ?_⟩ ?_ | refine sC rfl ?_ | refine hC rfl ?_ | trivial)) ?_ ?_
  ·refine y4 ?_ ?_ ?_ ?_ (y2 ?_ ?_ (pC ?_ yN))
   ·intro K _ f w u k
    show Wp K ⟨31, (upd 31 f 0 (rf 0 0)), _⟩
    refine s_move (d := (rf 0 0)) rfl k
   ·intro K _ f w u k
    show Wp K ⟨31, (upd 31 f 25 (rf 0 0)), [_, _, _]⟩
    refine s_nilCheck (d := (rf 0 0)) rfl (.inl ⟨_, _, rfl⟩) k
   ·intro K _ f w u k
    show Wp K ⟨31, (upd 31 f 26 (rf 0 0)), [_, _, _]⟩
    refine s_fieldRef F.fo_37_0 (by decide) rfl k
   ·intro K _ f w u k
    show Wp K ⟨31, (upd 31 f 27 (rf 0 0)), [(some (AObj.cells false [(C.mp 1), (ci p0.room), (ci (IntKind.i64.wrap (p0.used + (IntKind.i64.wrap ((a2.b.length : Int) - (((lk_vdisk_file a1 p0.files).b).length : Int)))))), np, (cb p0.dead)])), _, _]⟩
    refine s_load1 (c' := (C.mp 1)) F.ag_34 rfl rfl k
   ·intro K _ f w u k
    show Wp K ⟨31, (upd 31 f 1 (st_ a1)), _⟩
    refine s_move (d := (st_ a1)) rfl k
   ·intro K _ f w u k
    show Wp K ⟨31, (upd 31 f 5 (rf 2 0)), [_, _, (some (AObj.cells true (c_vdisk_file a2)))]⟩
    refine s_loadN (ds := (c_vdisk_file a2)) F.ag_79 F.sz_79 rfl rfl rfl k
   ·intro K _ f w u k
    show Wp K ⟨31, (upd 31 (upd 31 (upd 31 f 30 (D.agg (c_vdisk_file a2))) 29 (st_ a1)) 28 (D.one (C.mp 1))), [_, (om_ e_vdisk_file p0.files), _]⟩
    refine t_mapSet (b := true) (u := a2) F.u_34 F.u_9 (fun h => by cases h) rfl rfl rfl rfl rfl k
  ·refine AWops.weak (st' := ⟨31, topF, [(some (AObj.cells false [(C.mp 1), (ci p0.room), (ci (IntKind.i64.wrap (p0.used + (IntKind.i64.wrap ((a2.b.length : Int) - (((lk_vdisk_file a1 p0.files).b).length : Int)))))), np, (cb p0.dead)])), (some (AObj.map false (mapE true e_vdisk_file (mset a1 a2 p0.files))))]⟩) (wg 2 [0, 1] [] hx (le_top _) (ac (qs rfl) (ac .map an))) (AWops.nil ?_)
   obtain rfl := Option.some.inj h
   exact ⟨_, rfl, (wg 2 [0, 1] [] rfl (le_upd (le_top _) (DLe.tup an)) (ac (qs rfl) (ac .map an)))⟩
def vdisk_Disk_Append.f (k : Nat) (p0 : vdisk_Disk) (a1 : ByteArray) (p1 : List Int) : Option (Int × vdisk_Disk) := (vdisk_named.f k a1).bind fun r1 => (vdisk_Disk_change.f k p0 r1 a1 true (p1.length : Int)).bind fun r2 => if (r2 == 0) = true then ((slices_Concat_byte_byte_57.f k ((lk_vdisk_file a1 p0.files).b) p1).bind fun r4 => (vdisk_Disk_set.f k p0 a1 (⟨r4, (lk_vdisk_file a1 p0.files).sure⟩ : vdisk_file)).bind fun r5 => some (r2, r5)) else (some (r2, p0))
theorem vdisk_Disk_Append.meets (k : Nat) (p0 : vdisk_Disk) (a1 : ByteArray) (p1 : List Int) (r : Int × vdisk_Disk) (h : vdisk_Disk_Append.f k p0 a1 p1 = some r) : Meets Try.prog 25 [(rf 0 0), (st_ a1), (D.one (C.own 1 0 p1.length 1))] [(o_vdisk_Disk_03 false (C.mp 2) np p0), (or_ e_u8 p1), (om_ e_vdisk_file p0.files)] (si r.1) [(o_vdisk_Disk_03 false (C.mp 2) np r.2), (or_ e_u8 p1), (om_ e_vdisk_file r.2.files)] := by
 unfold vdisk_Disk_Append.f at h
 refine Meets.of_body (n := 36) Try.func25 rfl rfl (nl rfl) fun x hx => ?_
 replace hx : x.k = 3 := hx
 show AW _ x _ _ ⟨36, fr0 [(rf 0 0), (st_ a1), (D.one (C.own 1 0 p1.length 1))], [(o_vdisk_Disk_03 false (C.mp 2) np p0), (or_ e_u8 p1), (om_ e_vdisk_file p0.files)]⟩
 refine AW.seq (AW.region ?_)
 refine s_assign (d := (si 0)) rfl (AWops.nil (AW.seq (AW.region ?_)))
 refine s_move (d := (rf 0 0)) rfl (s_move (d := (st_ a1)) rfl ?_)
 obtain ⟨r1, er1, h⟩ := bnd h
 refine cc [] [(o_vdisk_Disk_03 false (C.mp 2) np p0), (or_ e_u8 p1), (om_ e_vdisk_file p0.files)] (sb r1) F.ca_56 rfl rfl (ac (.one .sc) an) an (vdisk_named.meets _ a1 r1 er1) (s_move (d := (st_ a1)) rfl (s_move (d := (D.one (C.own 1 0 p1.length 1))) rfl (s_len (n := p1.length) F.u_22 rfl (.inr ⟨(fun _ _ h => by cases h), ⟨_, rfl⟩⟩) ?_)))
 obtain ⟨r2, er2, h⟩ := bnd h
 refine cc [0, 2] [(o_vdisk_Disk_03 false (C.mp 2) np p0), (or_ e_u8 p1), (om_ e_vdisk_file p0.files)] (si r2) F.ca_55 rfl rfl (ac (.one (.ref rfl)) (ac (.one .sc) (ac (.one .sc) (ac (.one .sc) (ac (.one .sc) an))))) (ac (.cells (ac (.mp rfl) (ac .sc (ac .sc (ac .sc (ac .sc an)))))) (ac .map an)) (vdisk_Disk_change.meets _ p0 r1 a1 true (p1.length : Int) r2 er2) (s_assign (d := (si r2)) rfl (AWops.nil (AW.seq (AW.seq (AW.region (s_move (d := (si r2)) rfl (s_binI (v := (.bool (r2 == 0))) rfl rfl rfl (AWops.nil ?_))))))))
 rcases itH h with ⟨c3, h⟩ | ⟨c3, h⟩
 ·refine AW.cond_yes rfl c3 (AW.seq (AW.region ?_))
  refine s_move (d := (rf 0 0)) rfl (s_nilCheck (d := (rf 0 0)) rfl (.inl ⟨_, _, rfl⟩) (s_fieldRef F.fo_37_0 (by decide) rfl (s_load1 (c' := (C.mp 2)) F.ag_34 rfl rfl (s_move (d := (st_ a1)) rfl (t_lookup (b := true) F.u_34 F.u_9 F.z_79 (z := ((⟨([] : List Int), 0⟩ : vdisk_file) : vdisk_file)) (zs := [(.slice none 0 0), (.int .i64 0)]) rfl (fun h => by cases h) (ac ZRel.n (ac (ZRel.v _ rfl) an)) rfl rfl rfl rfl ?_)))))
  refine s_alloc (cs := [(C.p true (.v (.slice none 0 0))), (ci 0)]) F.z_79 rfl rfl (s_store (cs' := (c_vdisk_file (lk_vdisk_file a1 p0.files))) rfl rfl rfl (List.cons_ne_nil _ _) rfl F.sz_79 (nl rfl) rfl (AWops.nil ?_))
  refine AW.weak (st' := ⟨36, (upd 36 (upd 36 (upd 36 (upd 36 (upd 36 topF 0 (rf 0 0)) 1 (st_ a1)) 2 (D.one (C.own 1 0 p1.length 1))) 7 (si r2)) 8 (rf 3 0)), [(o_vdisk_Disk_03 false (C.mp 2) np p0), (or_ e_u8 p1), (om_ e_vdisk_file p0.files), (some (AObj.cells true (c_vdisk_file (lk_vdisk_file a1 p0.files))))]⟩) (wg 3 [0, 1, 2, 3] [] hx (le_upd (le_upd (le_upd (le_upd (le_upd (le_top _) (o1 (.ref rfl))) (o1 .sc)) (o1 (.own rfl))) (o1 .sc)) (o1 (.ref rfl))) (ac (qs rfl) (ac (.cells id (all2_row _)) (ac .map (ac (.cells (fun _ => rfl) (ac .same (ac .sc an))) an))))) ?_
  obtain ⟨r4, er4, h⟩ := bnd h
  obtain ⟨r5, er5, h⟩ := bnd h
  refine AW.draw (n := 36) (L := 7) [(ft 0 24 (rf 0 0) [(0, (rf 0 0))]), (ft 1 25 (st_ a1) [(1, (st_ a1))]), (ft 2 26 (rf 3 0) [(8, (rf 3 0))]), (3, ⟨some 27, (D.one (C.p false (.sl ((lk_vdisk_file a1 p0.files).b).length (((lk_vdisk_file a1 p0.files).b).flatMap e_u8)))), [(26, (rf 3 0))], [(3, (some (AObj.cells true (c_vdisk_file (lk_vdisk_file a1 p0.files)))))], [], none⟩), (ft 4 28 (D.one (C.own 1 0 p1.length 1)) [(2, (D.one (C.own 1 0 p1.length 1)))]), (5, ⟨some 29, (D.one (C.own 4 0 2 1)), [(27, (D.one (C.p false (.sl ((lk_vdisk_file a1 p0.files).b).length (((lk_vdisk_file a1 p0.files).b).flatMap e_u8))))), (28, (D.one (C.own 1 0 p1.length 1)))], [], [(4, (some (AObj.cells true [(C.p false (.sl ((lk_vdisk_file a1 p0.files).b).length (((lk_vdisk_file a1 p0.files).b).flatMap e_u8))), (C.own 1 0 p1.length 1)])))], some 4⟩), (6, ⟨some 30, (ds_ e_u8 r4), [(29, (D.one (C.own 4 0 2 1)))], [(1, (or_ e_u8 p1)), (4, (some (AObj.cells true [(C.p false (.sl ((lk_vdisk_file a1 p0.files).b).length (((lk_vdisk_file a1 p0.files).b).flatMap e_u8))), (C.own 1 0 p1.length 1)])))], [(4, (some (AObj.cells true [(C.p false (.sl ((lk_vdisk_file a1 p0.files).b).length (((lk_vdisk_file a1 p0.files).b).flatMap e_u8))), (C.own 1 0 p1.length 1)])))], some 5⟩), (ft 7 31 (rf 3 1) [(8, (rf 3 0))]), (8, ⟨some 32, (si ((lk_vdisk_file a1 p0.files).sure)), [(31, (rf 3 1))], [(3, (some (AObj.cells true (c_vdisk_file (lk_vdisk_file a1 p0.files)))))], [], none⟩), (ft 9 33 (D.agg [(cl_ e_u8 r4), (ci ((lk_vdisk_file a1 p0.files).sure))]) [(30, (ds_ e_u8 r4)), (32, (si ((lk_vdisk_file a1 p0.files).sure)))]), (10, ⟨some 34, (D.tup []), [(24, (rf 0 0)), (25, (st_ a1)), (33, (D.agg [(cl_ e_u8 r4), (ci ((lk_vdisk_file a1 p0.files).sure))]))], [(0, (o_vdisk_Disk_03 false (C.mp 2) np p0)), (2, (om_ e_vdisk_file p0.files))], [(0, (o_vdisk_Disk_03 false (C.mp 2) np r5)), (2, (om_ e_vdisk_file r5.files))], none⟩)] [[], [], [], [2], [], [2, 3, 4], [2, 3, 4, 5], [], [7], [2, 3, 4, 5, 6, 7, 8], (.range 10)] (nl rfl) [0, 0, 0, 1, 0, 2, 3, 0, 1, 4, 5] rfl (TK := [(5, 4), (6, 5)]) rfl (AllK.cons' ⟨(tk_upd (tk_upd (tk_upd (tk_upd (tk_upd tk_top rfl) rfl) rfl) rfl) rfl), (tC rfl (tC (tkO_row _) (tC rfl (tC rfl AllT.nil')))), (fC (.inr rfl) (fC (.inr rfl) (fC (.inr rfl) (fC (.inr rfl) (fC (.inr rfl) (fC (.inl rfl) (fC (.inl rfl) (fC (.inr rfl) (fC (.inr rfl) (fC (.inl rfl) (fC (.inl rfl) AllF.nil')))))))))))⟩ (AllK.cons' ⟨(tk_upd (tk_upd (tk_upd (tk_upd (tk_upd tk_top rfl) rfl) rfl) rfl) rfl), (tC rfl (tC (tkO_row _) (tC rfl (tC rfl AllT.nil')))), (fC (.inr rfl) (fC (.inr rfl) (fC (.inr rfl) (fC (.inr rfl) (fC (.inr rfl) (fC (.inr rfl) (fC (.inl rfl) (fC (.inr rfl) (fC (.inr rfl) (fC (.inl rfl) (fC (.inl rfl) AllF.nil')))))))))))⟩ AllK.nil')) (by repeat (first | refine fC ⟨?_, ?_⟩ ?_ | refine sC rfl ?_ | refine hC rfl ?_ | trivial)) ?_ ?_
  ·refine y8 ?_ ?_ ?_ ?_ ?_ ?_ ?_ ?_ (y2 ?_ ?_ (pC ?_ yN))
   ·intro K _ f w u k
    show Wp K ⟨36, (upd 36 f 0 (rf 0 0)), _⟩
    refine s_move (d := (rf 0 0)) rfl k
   ·intro K _ f w u k
    show Wp K ⟨36, (upd 36 f 1 (st_ a1)), _⟩
    refine s_move (d := (st_ a1)) rfl k
   ·intro K _ f w u k
    show Wp K ⟨36, (upd 36 f 8 (rf 3 0)), [_, _, _, _, _, _, _]⟩
    refine s_fieldRef F.fo_79_0 (by decide) rfl k
   ·intro K _ f w u k
    show Wp K ⟨36, (upd 36 f 26 (rf 3 0)), [_, _, _, (some (AObj.cells true (c_vdisk_file (lk_vdisk_file a1 p0.files)))), _, _, _]⟩
    refine s_load1 (c' := (C.p false (.sl ((lk_vdisk_file a1 p0.files).b).length (((lk_vdisk_file a1 p0.files).b).flatMap e_u8)))) F.ag_22 rfl rfl k
   ·intro K _ f w u k
    show Wp K ⟨36, (upd 36 f 2 (D.one (C.own 1 0 p1.length 1))), _⟩
    refine s_move (d := (D.one (C.own 1 0 p1.length 1))) rfl k
   ·intro K _ f w u k
    show Wp K ⟨36, (upd 36 (upd 36 f 28 (D.one (C.own 1 0 p1.length 1))) 27 (D.one (C.p false (.sl ((lk_vdisk_file a1 p0.files).b).length (((lk_vdisk_file a1 p0.files).b).flatMap e_u8))))), [_, _, _, _, _, _, _]⟩
    refine s_buildSlice (n := 2) (ps := [(0, (D.one (C.p false (.sl ((lk_vdisk_file a1 p0.files).b).length (((lk_vdisk_file a1 p0.files).b).flatMap e_u8))))), (1, (D.one (C.own 1 0 p1.length 1)))]) (cs := [(C.p false (.sl ((lk_vdisk_file a1 p0.files).b).length (((lk_vdisk_file a1 p0.files).b).flatMap e_u8))), (C.own 1 0 p1.length 1)]) F.u_25 F.sz_22 F.z_22 rfl rfl (by decide) (by decide) rfl rfl ?_
    refine AWops.weak (st' := ⟨36, (upd 36 (upd 36 (upd 36 f 28 (D.one (C.own 1 0 p1.length 1))) 27 (D.one (C.p false (.sl ((lk_vdisk_file a1 p0.files).b).length (((lk_vdisk_file a1 p0.files).b).flatMap e_u8))))) 29 (D.one (C.own 4 0 2 1))), [(w 0), (w 1), (w 2), (w 3), (some (AObj.cells true [(C.p false (.sl ((lk_vdisk_file a1 p0.files).b).length (((lk_vdisk_file a1 p0.files).b).flatMap e_u8))), (C.own 1 0 p1.length 1)])), (w 5), (w 6)]⟩) (wg 3 [0, 1, 2, 3, 7, 5, 6] [] hx (le_upd2 (le_ok (p := 4) (L := 7) rfl (u 4 rfl).1) (o1 (.own rfl))) (ac (oq 4 7 (u 4 rfl) 0) (ac (oq 4 7 (u 4 rfl) 1) (ac (oq 4 7 (u 4 rfl) 2) (ac (oq 4 7 (u 4 rfl) 3) (ac (.cells (fun _ => rfl) (ac .same (ac (.own rfl) an))) (ac (oq 4 7 (u 4 rfl) 5) (ac (oq 4 7 (u 4 rfl) 6) an)))))))) k
   ·intro K _ f w u k
    show Wp K ⟨36, (upd 36 f 29 (D.one (C.own 4 0 2 1))), [_, (or_ e_u8 p1), _, _, (some (AObj.cells true [(C.p false (.sl ((lk_vdisk_file a1 p0.files).b).length (((lk_vdisk_file a1 p0.files).b).flatMap e_u8))), (C.own 1 0 p1.length 1)])), _, _]⟩
    refine cc [4, 1] [(w 0), (or_ e_u8 p1), (w 2), (w 3), (some (AObj.cells true [(C.p false (.sl ((lk_vdisk_file a1 p0.files).b).length (((lk_vdisk_file a1 p0.files).b).flatMap e_u8))), (C.own 1 0 p1.length 1)])), (w 5), (w 6), (ow_ e_u8 r4)] (D.one (C.own 7 0 r4.length 1)) F.ca_57 rfl rfl (ac (.one (.own rfl)) an) (ac (.cells (ac .imm (ac (.own rfl) an))) (ac (.cells (lend_row _)) an)) (slices_Concat_byte_byte_57.meets _ ((lk_vdisk_file a1 p0.files).b) p1 r4 er4) ?_
    refine AWops.weak (st' := ⟨36, (upd 36 (upd 36 f 29 (D.one (C.own 4 0 2 1))) 30 (ds_ e_u8 r4)), [(w 0), (or_ e_u8 p1), (w 2), (w 3), (some (AObj.cells true [(C.p false (.sl ((lk_vdisk_file a1 p0.files).b).length (((lk_vdisk_file a1 p0.files).b).flatMap e_u8))), (C.own 1 0 p1.length 1)])), (w 5), (w 6)]⟩) (wg 3 [0, 1, 2, 3, 4, 5, 6] [7] hx (le_upd2 (le_ok (p := 5) (L := 7) rfl (u 5 rfl).1) (o1 (CLe.frz e_u8_len rfl rfl rfl))) (ac (oq 5 7 (u 5 rfl) 0) (ac (.cells id (all2_row _)) (ac (oq 5 7 (u 5 rfl) 2) (ac (oq 5 7 (u 5 rfl) 3) (ac (.cells (fun _ => rfl) (ac .same (ac (.own rfl) an))) (ac (oq 5 7 (u 5 rfl) 5) (ac (oq 5 7 (u 5 rfl) 6) an)))))))) k
   ·intro K _ f w u k
    show Wp K ⟨36, (upd 36 f 8 (rf 3 0)), [_, _, _, _, _, _, _]⟩
    refine s_fieldRef F.fo_79_1 (by decide) rfl k
   ·intro K _ f w u k
    show Wp K ⟨36, (upd 36 f 31 (rf 3 1)), [_, _, _, (some (AObj.cells true (c_vdisk_file (lk_vdisk_file a1 p0.files)))), _, _, _]⟩
    refine s_load1 (c' := (ci ((lk_vdisk_file a1 p0.files).sure))) F.ag_3 rfl rfl k
   ·intro K _ f w u k
    show Wp K ⟨36, (upd 36 (upd 36 f 32 (si ((lk_vdisk_file a1 p0.files).sure))) 30 (ds_ e_u8 r4)), [_, _, _, _, _, _, _]⟩
    refine s_build (ps := [(0, (ds_ e_u8 r4)), (1, (si ((lk_vdisk_file a1 p0.files).sure)))]) (cs := [(cl_ e_u8 r4), (ci ((lk_vdisk_file a1 p0.files).sure))]) F.z_79 rfl F.so_79 rfl rfl k
   ·intro K _ f w u k
    show Wp K ⟨36, (upd 36 (upd 36 (upd 36 f 33 (D.agg [(cl_ e_u8 r4), (ci ((lk_vdisk_file a1 p0.files).sure))])) 25 (st_ a1)) 24 (rf 0 0)), [(o_vdisk_Disk_03 false (C.mp 2) np p0), _, (om_ e_vdisk_file p0.files), _, _, _, _]⟩
    refine cc [0, 2] [(o_vdisk_Disk_03 false (C.mp 2) np r5), (w 1), (om_ e_vdisk_file r5.files), (w 3), (w 4), (w 5), (w 6)] (D.tup []) F.ca_36 rfl rfl (ac (.one (.ref rfl)) (ac (.one .sc) (ac (LendT.aggL (ac .imm (ac .sc an))) an))) (ac (.cells (ac (.mp rfl) (ac .sc (ac .sc (ac .sc (ac .sc an)))))) (ac .map an)) (vdisk_Disk_set.meets _ p0 a1 (⟨r4, (lk_vdisk_file a1 p0.files).sure⟩ : vdisk_file) r5 er5) k
  ·refine AWops.weak (st' := ⟨36, (upd 36 topF 7 (si r2)), [(o_vdisk_Disk_03 false (C.mp 2) np r5), (or_ e_u8 p1), (om_ e_vdisk_file r5.files)]⟩) (wg 3 [0, 1, 2] [] hx (le_upd (le_top _) (o1 .sc)) (ac (qs rfl) (ac (.cells id (all2_row _)) (ac .map an)))) (AWops.nil (AW.seq (AW.region ?_)))
   refine s_move (d := (si r2)) rfl (s_assign (d := (si r2)) rfl (AWops.nil (AW.ret ?_)))
   obtain rfl := Option.some.inj h
   exact ⟨_, rfl, (wg 3 [0, 1, 2] [] rfl (le_upd (le_top _) (o1 .sc)) (ac (qs rfl) (ac (.cells id (all2_row _)) (ac .map an))))⟩
 ·refine AW.cond_no rfl c3 (AW.skip (AW.seq (AW.region ?_)))
  refine s_move (d := (si r2)) rfl (s_assign (d := (si r2)) rfl (AWops.nil (AW.ret ?_)))
  obtain rfl := Option.some.inj h
  exact ⟨_, rfl, (wg 3 [0, 1, 2] [] rfl (le_upd (le_top _) (o1 .sc)) (ac (qs rfl) (ac (.cells id (all2_row _)) (ac .map an))))⟩
def vdisk_Disk_Sync.f (k : Nat) (p0 : vdisk_Disk) (a1 : ByteArray) : Option (Int × vdisk_Disk) := (vdisk_Disk_change.f k p0 true a1 false 0).bind fun r1 => if (r1 == 0) = true then ((vdisk_Disk_set.f k p0 a1 (⟨(lk_vdisk_file a1 p0.files).b, (((lk_vdisk_file a1 p0.files).b).length : Int)⟩ : vdisk_file)).bind fun r3 => some (r1, r3)) else (some (r1, p0))
theorem vdisk_Disk_Sync.meets (k : Nat) (p0 : vdisk_Disk) (a1 : ByteArray) (r : Int × vdisk_Disk) (h : vdisk_Disk_Sync.f k p0 a1 = some r) : Meets Try.prog 27 [(rf 0 0), (st_ a1)] [(o_vdisk_Disk_03 false (C.mp 1) np p0), (om_ e_vdisk_file p0.files)] (si r.1) [(o_vdisk_Disk_03 false (C.mp 1) np r.2), (om_ e_vdisk_file r.2.files)] := by
 unfold vdisk_Disk_Sync.f at h
 refine Meets.of_body (n := 27) Try.func27 rfl rfl (nl rfl) fun x hx => ?_
 replace hx : x.k = 2 := hx
 show AW _ x _ _ ⟨27, fr0 [(rf 0 0), (st_ a1)], [(o_vdisk_Disk_03 false (C.mp 1) np p0), (om_ e_vdisk_file p0.files)]⟩
 refine AW.seq (AW.region ?_)
 refine s_assign (d := (si 0)) rfl (AWops.nil (AW.seq (AW.region ?_)))
 refine s_move (d := (rf 0 0)) rfl (s_move (d := (st_ a1)) rfl ?_)
 obtain ⟨r1, er1, h⟩ := bnd h
 refine cc [0, 1] [(o_vdisk_Disk_03 false (C.mp 1) np p0), (om_ e_vdisk_file p0.files)] (si r1) F.ca_55 rfl rfl (ac (.one (.ref rfl)) (ac (.one .sc) (ac (.one .sc) (ac (.one .sc) (ac (.one .sc) an))))) (ac (.cells (ac (.mp rfl) (ac .sc (ac .sc (ac .sc (ac .sc an)))))) (ac .map an)) (vdisk_Disk_change.meets _ p0 true a1 false 0 r1 er1) (s_assign (d := (si r1)) rfl (AWops.nil (AW.seq (AW.seq (AW.region (s_move (d := (si r1)) rfl (s_binI (v := (.bool (r1 == 0))) rfl rfl rfl (AWops.nil ?_))))))))
 rcases itH h with ⟨c2, h⟩ | ⟨c2, h⟩
 ·refine AW.cond_yes rfl c2 (AW.seq (AW.region ?_))
  refine s_move (d := (rf 0 0)) rfl (s_nilCheck (d := (rf 0 0)) rfl (.inl ⟨_, _, rfl⟩) (s_fieldRef F.fo_37_0 (by decide) rfl (s_load1 (c' := (C.mp 1)) F.ag_34 rfl rfl (s_move (d := (st_ a1)) rfl (t_lookup (b := true) F.u_34 F.u_9 F.z_79 (z := ((⟨([] : List Int), 0⟩ : vdisk_file) : vdisk_file)) (zs := [(.slice none 0 0), (.int .i64 0)]) rfl (fun h => by cases h) (ac ZRel.n (ac (ZRel.v _ rfl) an)) rfl rfl rfl rfl ?_)))))
  refine s_field1 (c := (C.p false (.sl ((lk_vdisk_file a1 p0.files).b).length (((lk_vdisk_file a1 p0.files).b).flatMap e_u8)))) F.fo_79_0 rfl rfl (s_assign (d := (D.one (C.p false (.sl ((lk_vdisk_file a1 p0.files).b).length (((lk_vdisk_file a1 p0.files).b).flatMap e_u8))))) rfl (AWops.nil (AW.region (s_move (d := (rf 0 0)) rfl (s_move (d := (st_ a1)) rfl (s_move (d := (D.one (C.p false (.sl ((lk_vdisk_file a1 p0.files).b).length (((lk_vdisk_file a1 p0.files).b).flatMap e_u8))))) rfl (s_move (d := (D.one (C.p false (.sl ((lk_vdisk_file a1 p0.files).b).length (((lk_vdisk_file a1 p0.files).b).flatMap e_u8))))) rfl ?_)))))))
  refine s_len (n := ((lk_vdisk_file a1 p0.files).b).length) F.u_22 rfl (.inr ⟨(fun _ _ h => by cases h), ⟨_, rfl⟩⟩) (s_build (ps := [(0, (D.one (C.p false (.sl ((lk_vdisk_file a1 p0.files).b).length (((lk_vdisk_file a1 p0.files).b).flatMap e_u8))))), (1, (si (((lk_vdisk_file a1 p0.files).b).length : Int)))]) (cs := [(C.p false (.sl ((lk_vdisk_file a1 p0.files).b).length (((lk_vdisk_file a1 p0.files).b).flatMap e_u8))), (ci (((lk_vdisk_file a1 p0.files).b).length : Int))]) F.z_79 rfl F.so_79 rfl rfl ?_)
  obtain ⟨r3, er3, h⟩ := bnd h
  refine cc [0, 1] [(o_vdisk_Disk_03 false (C.mp 1) np r3), (om_ e_vdisk_file r3.files)] (D.tup []) F.ca_36 rfl rfl (ac (.one (.ref rfl)) (ac (.one .sc) (ac (LendT.aggL (ac .imm (ac .sc an))) an))) (ac (.cells (ac (.mp rfl) (ac .sc (ac .sc (ac .sc (ac .sc an)))))) (ac .map an)) (vdisk_Disk_set.meets _ p0 a1 (⟨(lk_vdisk_file a1 p0.files).b, (((lk_vdisk_file a1 p0.files).b).length : Int)⟩ : vdisk_file) r3 er3) (AWops.nil (AW.seq (AW.region ?_)))
  refine s_move (d := (si r1)) rfl (s_assign (d := (si r1)) rfl (AWops.nil (AW.ret ?_)))
  obtain rfl := Option.some.inj h
  exact ⟨_, rfl, (wg 2 [0, 1] [] rfl (le_upd (le_top _) (o1 .sc)) (ac (qs rfl) (ac .map an)))⟩
 ·refine AW.cond_no rfl c2 (AW.skip (AW.seq (AW.region ?_)))
  refine s_move (d := (si r1)) rfl (s_assign (d := (si r1)) rfl (AWops.nil (AW.ret ?_)))
  obtain rfl := Option.some.inj h
  exact ⟨_, rfl, (wg 2 [0, 1] [] rfl (le_upd (le_top _) (o1 .sc)) (ac (qs rfl) (ac .map an)))⟩
def vdisk_Disk_Rename.f (k : Nat) (p0 : vdisk_Disk) (a1 : ByteArray) (a2 : ByteArray) : Option (Int × vdisk_Disk) := (vdisk_named.f k a2).bind fun r1 => (vdisk_Disk_change.f k p0 r1 a1 false 0).bind fun r2 => if (r2 == 0) = true then (if (a1.toList == a2.toList) = true then (some (r2, p0)) else ((vdisk_Disk_cut.f k p0 a1).bind fun r5 => (vdisk_Disk_set.f k r5 a2 (lk_vdisk_file a1 p0.files)).bind fun r6 => some (r2, r6))) else (some (r2, p0))
theorem vdisk_Disk_Rename.meets (k : Nat) (p0 : vdisk_Disk) (a1 : ByteArray) (a2 : ByteArray) (r : Int × vdisk_Disk) (h : vdisk_Disk_Rename.f k p0 a1 a2 = some r) : Meets Try.prog 42 [(rf 0 0), (st_ a1), (st_ a2)] [(o_vdisk_Disk_03 false (C.mp 1) np p0), (om_ e_vdisk_file p0.files)] (si r.1) [(o_vdisk_Disk_03 false (C.mp 1) np r.2), (om_ e_vdisk_file r.2.files)] := by
 unfold vdisk_Disk_Rename.f at h
 refine Meets.of_body (n := 35) Try.func42 rfl rfl (nl rfl) fun x hx => ?_
 replace hx : x.k = 2 := hx
 show AW _ x _ _ ⟨35, fr0 [(rf 0 0), (st_ a1), (st_ a2)], [(o_vdisk_Disk_03 false (C.mp 1) np p0), (om_ e_vdisk_file p0.files)]⟩
 refine AW.seq (AW.region ?_)
 refine s_assign (d := (si 0)) rfl (AWops.nil (AW.seq (AW.region ?_)))
 refine s_move (d := (rf 0 0)) rfl (s_move (d := (st_ a2)) rfl ?_)
 obtain ⟨r1, er1, h⟩ := bnd h
 refine cc [] [(o_vdisk_Disk_03 false (C.mp 1) np p0), (om_ e_vdisk_file p0.files)] (sb r1) F.ca_56 rfl rfl (ac (.one .sc) an) an (vdisk_named.meets _ a2 r1 er1) (s_move (d := (st_ a1)) rfl ?_)
 obtain ⟨r2, er2, h⟩ := bnd h
 refine cc [0, 1] [(o_vdisk_Disk_03 false (C.mp 1) np p0), (om_ e_vdisk_file p0.files)] (si r2) F.ca_55 rfl rfl (ac (.one (.ref rfl)) (ac (.one .sc) (ac (.one .sc) (ac (.one .sc) (ac (.one .sc) an))))) (ac (.cells (ac (.mp rfl) (ac .sc (ac .sc (ac .sc (ac .sc an)))))) (ac .map an)) (vdisk_Disk_change.meets _ p0 r1 a1 false 0 r2 er2) (s_assign (d := (si r2)) rfl (AWops.nil (AW.seq (AW.seq (AW.region (s_move (d := (si r2)) rfl (s_binI (v := (.bool (r2 == 0))) rfl rfl rfl (s_move (d := (sb (r2 == 0))) rfl ?_))))))))
 rcases itH h with ⟨c3, h⟩ | ⟨c3, h⟩
 ·refine AWops.guard_yes rfl (nl rfl) rfl c3 ?_
  refine s_move (d := (st_ a1)) rfl ?_
  refine AWops.guard_yes rfl (nl rfl) rfl c3 ?_
  refine s_move (d := (st_ a2)) rfl ?_
  refine AWops.guard_yes rfl (nl rfl) rfl c3 ?_
  refine s_binS (v := (.bool (!(a1.toList == a2.toList)))) rfl rfl rfl (s_pick_yes (d := (sb (!(a1.toList == a2.toList)))) rfl c3 rfl (AWops.nil ?_))
  rcases itH h with ⟨c4, h⟩ | ⟨c4, h⟩
  ·refine AW.cond_no rfl (by rw [c4] <;> rfl) (AW.skip (AW.seq (AW.region ?_)))
   refine s_move (d := (si r2)) rfl (s_assign (d := (si r2)) rfl (AWops.nil (AW.ret ?_)))
   obtain rfl := Option.some.inj h
   exact ⟨_, rfl, (wg 2 [0, 1] [] rfl (le_upd (le_top _) (o1 .sc)) (ac (qs rfl) (ac .map an)))⟩
  ·refine AW.cond_yes rfl (by rw [c4] <;> rfl) (AW.seq (AW.region ?_))
   refine s_move (d := (rf 0 0)) rfl (s_nilCheck (d := (rf 0 0)) rfl (.inl ⟨_, _, rfl⟩) (s_fieldRef F.fo_37_0 (by decide) rfl (s_load1 (c' := (C.mp 1)) F.ag_34 rfl rfl (s_move (d := (st_ a1)) rfl (t_lookup (b := true) F.u_34 F.u_9 F.z_79 (z := ((⟨([] : List Int), 0⟩ : vdisk_file) : vdisk_file)) (zs := [(.slice none 0 0), (.int .i64 0)]) rfl (fun h => by cases h) (ac ZRel.n (ac (ZRel.v _ rfl) an)) rfl rfl rfl rfl ?_)))))
   refine s_alloc (cs := [(C.p true (.v (.slice none 0 0))), (ci 0)]) F.z_79 rfl rfl (s_store (cs' := (c_vdisk_file (lk_vdisk_file a1 p0.files))) rfl rfl rfl (List.cons_ne_nil _ _) rfl F.sz_79 (nl rfl) rfl (AWops.nil (AW.seq (AW.region (s_move (d := (rf 0 0)) rfl (s_move (d := (st_ a1)) rfl ?_))))))
   obtain ⟨r5, er5, h⟩ := bnd h
   refine cc [0, 1] [(o_vdisk_Disk_03 false (C.mp 1) np r5), (om_ e_vdisk_file r5.files), (some (AObj.cells true (c_vdisk_file (lk_vdisk_file a1 p0.files))))] (D.tup []) F.ca_59 rfl rfl (ac (.one (.ref rfl)) (ac (.one .sc) an)) (ac (.cells (ac (.mp rfl) (ac .sc (ac .sc (ac .sc (ac .sc an)))))) (ac .map an)) (vdisk_Disk_cut.meets _ p0 a1 r5 er5) (AWops.nil (AW.region ?_))
   refine s_move (d := (rf 0 0)) rfl (s_move (d := (st_ a2)) rfl (s_loadN (ds := (c_vdisk_file (lk_vdisk_file a1 p0.files))) F.ag_79 F.sz_79 rfl rfl rfl ?_))
   obtain ⟨r6, er6, h⟩ := bnd h
   refine cc [0, 1] [(o_vdisk_Disk_03 false (C.mp 1) np r6), (om_ e_vdisk_file r6.files), (some (AObj.cells true (c_vdisk_file (lk_vdisk_file a1 p0.files))))] (D.tup []) F.ca_36 rfl rfl (ac (.one (.ref rfl)) (ac (.one .sc) (ac (LendT.aggL (ac .imm (ac .sc an))) an))) (ac (.cells (ac (.mp rfl) (ac .sc (ac .sc (ac .sc (ac .sc an)))))) (ac .map an)) (vdisk_Disk_set.meets _ r5 a2 (lk_vdisk_file a1 p0.files) r6 er6) (AWops.nil (AW.seq (AW.region ?_)))
   refine s_move (d := (si r2)) rfl (s_assign (d := (si r2)) rfl (AWops.nil (AW.ret ?_)))
   obtain rfl := Option.some.inj h
   exact ⟨_, rfl, (wg 2 [0, 1] [] rfl (le_upd (le_top _) (o1 .sc)) (ac (qs rfl) (ac .map an)))⟩
 ·iterate 3 refine AWops.guard_no rfl (nl rfl) rfl c3 ?_
  refine s_pick_no (d := (sb false)) rfl c3 rfl (AWops.nil ?_)
  refine AW.cond_no rfl rfl (AW.skip (AW.seq (AW.region ?_)))
  refine s_move (d := (si r2)) rfl (s_assign (d := (si r2)) rfl (AWops.nil (AW.ret ?_)))
  obtain rfl := Option.some.inj h
  exact ⟨_, rfl, (wg 2 [0, 1] [] rfl (le_upd (le_top _) (o1 .sc)) (ac (qs rfl) (ac .map an)))⟩
def journal_replace.f (k : Nat) (p0 : vdisk_Disk) (a1 : List Int) : Option (Int × vdisk_Disk) := (journal_frame.f k a1).bind fun r1 => (vdisk_Disk_Append.f k p0 (⟨#[106, 111, 117, 114, 110, 97, 108, 46, 110, 101, 119]⟩ : ByteArray) r1).bind fun r2 => if (r2.1 == 0) = true then ((vdisk_Disk_Sync.f k r2.2 (⟨#[106, 111, 117, 114, 110, 97, 108, 46, 110, 101, 119]⟩ : ByteArray)).bind fun r4 => if (r4.1 == 0) = true then ((vdisk_Disk_Rename.f k r4.2 (⟨#[106, 111, 117, 114, 110, 97, 108, 46, 110, 101, 119]⟩ : ByteArray) (⟨#[106, 111, 117, 114, 110, 97, 108]⟩ : ByteArray)).bind fun r6 => some (r6.1, r6.2)) else (some (r4.1, r4.2))) else (some (r2.1, r2.2))
theorem journal_replace.meets (k : Nat) (p0 : vdisk_Disk) (a1 : List Int) (r : Int × vdisk_Disk) (h : journal_replace.f k p0 a1 = some r) : Meets Try.prog 29 [(rf 0 0), (ds_ e_u8 a1)] [(o_vdisk_Disk_03 false (C.mp 1) np p0), (om_ e_vdisk_file p0.files)] (si r.1) [(o_vdisk_Disk_03 false (C.mp 1) np r.2), (om_ e_vdisk_file r.2.files)] := by
 unfold journal_replace.f at h
 refine Meets.of_body (n := 19) Try.func29 rfl rfl (nl rfl) fun x hx => ?_
 replace hx : x.k = 2 := hx
 show AW _ x _ _ ⟨19, fr0 [(rf 0 0), (ds_ e_u8 a1)], [(o_vdisk_Disk_03 false (C.mp 1) np p0), (om_ e_vdisk_file p0.files)]⟩
 refine AW.seq (AW.region ?_)
 refine s_assign (d := (si 0)) rfl (AWops.nil (AW.seq (AW.region ?_)))
 refine s_move (d := (rf 0 0)) rfl (s_move (d := (ds_ e_u8 a1)) rfl ?_)
 obtain ⟨r1, er1, h⟩ := bnd h
 refine cc [] [(o_vdisk_Disk_03 false (C.mp 1) np p0), (om_ e_vdisk_file p0.files), (ow_ e_u8 r1)] (D.one (C.own 2 0 r1.length 1)) F.ca_26 rfl rfl (ac (.one .imm) an) an (journal_frame.meets _ a1 r1 er1) ?_
 obtain ⟨r2, er2, h⟩ := bnd h
 refine cc [0, 2, 1] [(o_vdisk_Disk_03 false (C.mp 1) np r2.2), (om_ e_vdisk_file r2.2.files), (ow_ e_u8 r1)] (si r2.1) F.ca_25 rfl rfl (ac (.one (.ref rfl)) (ac (.one .sc) (ac (.one (.own rfl)) an))) (ac (.cells (ac (.mp rfl) (ac .sc (ac .sc (ac .sc (ac .sc an)))))) (ac (.cells (lend_row _)) (ac .map an))) (vdisk_Disk_Append.meets _ p0 (⟨#[106, 111, 117, 114, 110, 97, 108, 46, 110, 101, 119]⟩ : ByteArray) r1 r2 er2) (s_assign (d := (si r2.1)) rfl (AWops.nil (AW.seq (AW.seq (AW.region (s_move (d := (si r2.1)) rfl (s_binI (v := (.bool (r2.1 == 0))) rfl rfl rfl (AWops.nil ?_))))))))
 rcases itH h with ⟨c3, h⟩ | ⟨c3, h⟩
 ·refine AW.cond_yes rfl c3 (AW.region ?_)
  refine s_move (d := (rf 0 0)) rfl ?_
  obtain ⟨r4, er4, h⟩ := bnd h
  refine cc [0, 1] [(o_vdisk_Disk_03 false (C.mp 1) np r4.2), (om_ e_vdisk_file r4.2.files), (ow_ e_u8 r1)] (si r4.1) F.ca_27 rfl rfl (ac (.one (.ref rfl)) (ac (.one .sc) an)) (ac (.cells (ac (.mp rfl) (ac .sc (ac .sc (ac .sc (ac .sc an)))))) (ac .map an)) (vdisk_Disk_Sync.meets _ r2.2 (⟨#[106, 111, 117, 114, 110, 97, 108, 46, 110, 101, 119]⟩ : ByteArray) r4 er4) (s_assign (d := (si r4.1)) rfl (AWops.nil (AW.seq (AW.seq (AW.region (s_move (d := (si r4.1)) rfl (s_binI (v := (.bool (r4.1 == 0))) rfl rfl rfl (AWops.nil ?_))))))))
  rcases itH h with ⟨c5, h⟩ | ⟨c5, h⟩
  ·refine AW.cond_yes rfl c5 (AW.region ?_)
   refine s_move (d := (rf 0 0)) rfl ?_
   obtain ⟨r6, er6, h⟩ := bnd h
   refine cc [0, 1] [(o_vdisk_Disk_03 false (C.mp 1) np r6.2), (om_ e_vdisk_file r6.2.files), (ow_ e_u8 r1)] (si r6.1) F.ca_42 rfl rfl (ac (.one (.ref rfl)) (ac (.one .sc) (ac (.one .sc) an))) (ac (.cells (ac (.mp rfl) (ac .sc (ac .sc (ac .sc (ac .sc an)))))) (ac .map an)) (vdisk_Disk_Rename.meets _ r4.2 (⟨#[106, 111, 117, 114, 110, 97, 108, 46, 110, 101, 119]⟩ : ByteArray) (⟨#[106, 111, 117, 114, 110, 97, 108]⟩ : ByteArray) r6 er6) (s_assign (d := (si r6.1)) rfl (AWops.nil (AW.seq (AW.region (s_move (d := (si r6.1)) rfl (s_assign (d := (si r6.1)) rfl (AWops.nil (AW.ret ?_))))))))
   obtain rfl := Option.some.inj h
   exact ⟨_, rfl, (wg 2 [0, 1] [] rfl (le_upd (le_top _) (o1 .sc)) (ac (qs rfl) (ac .map an)))⟩
  ·refine AW.cond_no rfl c5 (AW.skip (AW.seq (AW.region ?_)))
   refine s_move (d := (si r4.1)) rfl (s_assign (d := (si r4.1)) rfl (AWops.nil (AW.ret ?_)))
   obtain rfl := Option.some.inj h
   exact ⟨_, rfl, (wg 2 [0, 1] [] rfl (le_upd (le_top _) (o1 .sc)) (ac (qs rfl) (ac .map an)))⟩
 ·refine AW.cond_no rfl c3 (AW.skip (AW.seq (AW.seq (AW.region ?_))))
  refine s_move (d := (si r2.1)) rfl (s_binI (v := (.bool (r2.1 == 0))) rfl rfl rfl (AWops.nil ?_))
  refine AW.cond_no rfl c3 (AW.skip (AW.seq (AW.region ?_)))
  refine s_move (d := (si r2.1)) rfl (s_assign (d := (si r2.1)) rfl (AWops.nil (AW.ret ?_)))
  obtain rfl := Option.some.inj h
  exact ⟨_, rfl, (wg 2 [0, 1] [] rfl (le_upd (le_top _) (o1 .sc)) (ac (qs rfl) (ac .map an)))⟩
mutual
def journal_Open_fresh.j0 : Nat → Bool → (List Int) → (Int × vdisk_Disk) → Option (journal_Journal × Int × vdisk_Disk)
 | 0, _, _, _ => none
 | k + 1, x3, a1, r1 => if x3 = true then ((vdisk_Disk_Read.f k r1.2 (⟨#[106, 111, 117, 114, 110, 97, 108]⟩ : ByteArray)).bind fun r5 => if (r5.2 == 0) = true then (none) else (if (r5.2 != 33) = true then (none) else (if (decide ((a1.length : Int) > 4194304)) = true then (none) else ((journal_replace.f k r1.2 a1).bind fun r9 => if (r9.1 != 0) = true then (none) else ((slices_Clone_byte_byte.f k a1).bind fun r11 => some ((⟨(), r11, ([] : List (List Int)), false⟩ : journal_Journal), 0, r9.2)))))) else (none)
end
def journal_Open_fresh.f (k : Nat) (p0 : vdisk_Disk) (a1 : List Int) : Option (journal_Journal × Int × vdisk_Disk) := (vdisk_Disk_Remove.f k p0 (⟨#[106, 111, 117, 114, 110, 97, 108, 46, 110, 101, 119]⟩ : ByteArray)).bind fun r1 => if (r1.1 == 0) = true then (journal_Open_fresh.j0 k (r1.1 == 0) a1 r1) else (journal_Open_fresh.j0 k (r1.1 == 33) a1 r1)
theorem journal_Open_fresh.meets (k : Nat) (p0 : vdisk_Disk) (a1 : List Int) (r : journal_Journal × Int × vdisk_Disk) (h : journal_Open_fresh.f k p0 a1 = some r) : Meets Try.prog 12 [(rf 0 0), (ds_ e_u8 a1)] [(o_vdisk_Disk_03 false (C.mp 1) np p0), (om_ e_vdisk_file p0.files)] (D.tup [(rf 2 0), (si r.2.1)]) [(o_vdisk_Disk_03 false (C.mp 1) np r.2.2), (om_ e_vdisk_file r.2.2.files), (o_journal_Journal_02 true (C.ref 0 0) (C.own 3 0 r.1.l.length 1) r.1), (some (AObj.cells false (rowC (e_sl e_u8) r.1.l)))] := by
 unfold journal_Open_fresh.f at h
 refine Meets.of_body (n := 54) Try.func12 rfl rfl (nl rfl) fun x hx => ?_
 replace hx : x.k = 2 := hx
 show AW _ x _ _ ⟨54, fr0 [(rf 0 0), (ds_ e_u8 a1)], [(o_vdisk_Disk_03 false (C.mp 1) np p0), (om_ e_vdisk_file p0.files)]⟩
 refine AW.seq (AW.region ?_)
 refine s_assign (d := (sc (.pointer none))) rfl (s_assign (d := (si 0)) rfl (AWops.nil (AW.seq (AW.seq (AW.region (s_move (d := (rf 0 0)) rfl ?_))))))
 obtain ⟨r1, er1, h⟩ := bnd h
 refine cc [0, 1] [(o_vdisk_Disk_03 false (C.mp 1) np r1.2), (om_ e_vdisk_file r1.2.files)] (si r1.1) F.ca_31 rfl rfl (ac (.one (.ref rfl)) (ac (.one .sc) an)) (ac (.cells (ac (.mp rfl) (ac .sc (ac .sc (ac .sc (ac .sc an)))))) (ac .map an)) (vdisk_Disk_Remove.meets _ p0 (⟨#[106, 111, 117, 114, 110, 97, 108, 46, 110, 101, 119]⟩ : ByteArray) r1 er1) (s_assign (d := (si r1.1)) rfl (AWops.nil (AW.seq (AW.region (s_move (d := (si r1.1)) rfl (AWops.nil (AW.block ?_)))))))
 refine AW.seqJ (fun st => ∃ (x3 : Bool), journal_Open_fresh.j0 k x3 a1 r1 = some r ∧ st = ⟨54, (upd 54 (upd 54 (upd 54 (upd 54 topF 0 (rf 0 0)) 1 (ds_ e_u8 a1)) 6 (si r1.1)) 15 (sb x3)), [(o_vdisk_Disk_03 false (C.mp 1) np r1.2), (om_ e_vdisk_file r1.2.files)]⟩) ?_ ?_
 ·refine AW.seq (AW.region ?_)
  refine s_binI (v := (.bool (r1.1 == 0))) rfl rfl rfl (s_assign (d := (sb (r1.1 == 0))) rfl (AWops.nil ?_))
  rcases itH h with ⟨c2, h⟩ | ⟨c2, h⟩
  ·refine AW.cond_yes rfl c2 (AW.skip ?_)
   exact ⟨⟨54, (upd 54 (upd 54 (upd 54 (upd 54 topF 0 (rf 0 0)) 1 (ds_ e_u8 a1)) 6 (si r1.1)) 15 (sb (r1.1 == 0))), [(o_vdisk_Disk_03 false (C.mp 1) np r1.2), (om_ e_vdisk_file r1.2.files)]⟩, (wg 2 [0, 1] [] hx (le_upd (le_upd (le_upd (le_upd (le_top _) (o1 (.ref rfl))) (o1 .same)) (o1 .sc)) (o1 .sc)) (ac (qs rfl) (ac .map an))), (r1.1 == 0), h, rfl⟩
  ·refine AW.cond_no rfl c2 (AW.region ?_)
   refine s_binI (v := (.bool (r1.1 == 33))) rfl rfl rfl (s_assign (d := (sb (r1.1 == 33))) rfl (AWops.nil ?_))
   exact ⟨⟨54, (upd 54 (upd 54 (upd 54 (upd 54 topF 0 (rf 0 0)) 1 (ds_ e_u8 a1)) 6 (si r1.1)) 15 (sb (r1.1 == 33))), [(o_vdisk_Disk_03 false (C.mp 1) np r1.2), (om_ e_vdisk_file r1.2.files)]⟩, (wg 2 [0, 1] [] hx (le_upd (le_upd (le_upd (le_upd (le_top _) (o1 (.ref rfl))) (o1 .same)) (o1 .sc)) (o1 .sc)) (ac (qs rfl) (ac .map an))), (r1.1 == 33), h, rfl⟩
 ·rintro st ⟨x3, h, rfl⟩
  cases k with
  | zero => exact absurd h (by simp [journal_Open_fresh.j0])
  | succ qj0 =>
   replace h := (journal_Open_fresh.j0.eq_2 _ _ _ _).symm.trans h
   rcases itH h with ⟨c4, h⟩ | ⟨c4, h⟩
   ·refine AW.cond_yes rfl c4 (AW.skip (AW.seq (AW.region ?_)))
    refine s_move (d := (rf 0 0)) rfl (s_build (ps := [(0, (rf 0 0))]) (cs := [(C.ref 0 0), (C.p true (.v (.slice none 0 0))), (C.p true (.v (.slice none 0 0))), (cb false)]) F.z_27 rfl F.so_27 rfl rfl (s_box (cs := [(C.ref 0 0), (C.p true (.v (.slice none 0 0))), (C.p true (.v (.slice none 0 0))), (cb false)]) rfl (List.cons_ne_nil _ _) rfl (s_assign (d := (rf 2 0)) rfl (AWops.nil (AW.seq (AW.region (s_move (d := (rf 0 0)) rfl ?_)))))))
    obtain ⟨r5, er5, h⟩ := bnd h
    refine cc [0, 1] [(o_vdisk_Disk_03 false (C.mp 1) np r1.2), (om_ e_vdisk_file r1.2.files), (some (AObj.cells true [(C.ref 0 0), (C.p true (.v (.slice none 0 0))), (C.p true (.v (.slice none 0 0))), (cb false)]))] (D.tup [(ds_ e_u8 r5.1), (si r5.2)]) F.ca_32 rfl rfl (ac (.one (.ref rfl)) (ac (.one .sc) an)) (ac (.cells (ac (.mp rfl) (ac .sc (ac .sc (ac .sc (ac .sc an)))))) (ac .map an)) (vdisk_Disk_Read.meets _ r1.2 (⟨#[106, 111, 117, 114, 110, 97, 108]⟩ : ByteArray) r5 er5) (s_move (d := (D.tup [(ds_ e_u8 r5.1), (si r5.2)])) rfl (s_extract (d := (ds_ e_u8 r5.1)) rfl rfl (s_extract (d := (si r5.2)) rfl rfl (s_assign (d := (ds_ e_u8 r5.1)) rfl (s_assign (d := (si r5.2)) rfl (AWops.nil (AW.seq (AW.block (AW.seq (AW.region ?_))))))))))
    refine s_move (d := (si r5.2)) rfl (s_binI (v := (.bool (r5.2 == 0))) rfl rfl rfl (s_assign (d := (sb (r5.2 == 0))) rfl (AWops.nil ?_)))
    rcases itH h with ⟨c6, h⟩ | ⟨c6, h⟩
    ·refine AW.cond_yes rfl c6 (AW.seq (AW.region ?_))
     refine s_move (d := (rf 2 0)) rfl (s_move (d := (ds_ e_u8 r5.1)) rfl ?_)
     cases h
    ·refine AW.cond_no rfl c6 (AW.seq (AW.region ?_))
     refine s_move (d := (si r5.2)) rfl (s_binI (v := (.bool (r5.2 != 33))) rfl rfl rfl (s_assign (d := (sb (r5.2 != 33))) rfl (AWops.nil ?_)))
     rcases itH h with ⟨c7, h⟩ | ⟨c7, h⟩
     ·refine AW.cond_yes rfl c7 (AW.seq (AW.region ?_))
      refine s_move (d := (si r5.2)) rfl (s_assign (d := (sc (.pointer none))) rfl (s_assign (d := (si r5.2)) rfl (AWops.nil (AW.ret ?_))))
      cases h
     ·refine AW.cond_no rfl c7 (AW.seq (AW.region ?_))
      refine s_move (d := (ds_ e_u8 a1)) rfl (s_len (n := a1.length) F.u_22 rfl (.inr ⟨(fun _ _ h => by cases h), ⟨_, rfl⟩⟩) (s_binI (v := (.bool (decide ((a1.length : Int) > 4194304)))) rfl rfl rfl (s_assign (d := (sb (decide ((a1.length : Int) > 4194304)))) rfl (AWops.nil ?_))))
      rcases itH h with ⟨c8, h⟩ | ⟨c8, h⟩
      ·refine AW.cond_yes rfl c8 (AW.seq (AW.region ?_))
       refine s_assign (d := (sc (.pointer none))) rfl (s_assign (d := (si 1)) rfl (AWops.nil (AW.ret ?_)))
       cases h
      ·refine AW.cond_no rfl c8 (AW.skip (AW.seq (AW.seq (AW.region ?_))))
       refine s_move (d := (rf 0 0)) rfl (s_move (d := (ds_ e_u8 a1)) rfl ?_)
       obtain ⟨r9, er9, h⟩ := bnd h
       refine cc [0, 1] [(o_vdisk_Disk_03 false (C.mp 1) np r9.2), (om_ e_vdisk_file r9.2.files), (some (AObj.cells true [(C.ref 0 0), (C.p true (.v (.slice none 0 0))), (C.p true (.v (.slice none 0 0))), (cb false)]))] (si r9.1) F.ca_29 rfl rfl (ac (.one (.ref rfl)) (ac (.one .imm) an)) (ac (.cells (ac (.mp rfl) (ac .sc (ac .sc (ac .sc (ac .sc an)))))) (ac .map an)) (journal_replace.meets _ r1.2 a1 r9 er9) (s_assign (d := (si r9.1)) rfl (AWops.nil (AW.seq (AW.region (s_move (d := (si r9.1)) rfl (s_binI (v := (.bool (r9.1 != 0))) rfl rfl rfl (AWops.nil ?_)))))))
       rcases itH h with ⟨c10, h⟩ | ⟨c10, h⟩
       ·refine AW.cond_yes rfl c10 (AW.seq (AW.region ?_))
        refine s_move (d := (si r9.1)) rfl (s_assign (d := (sc (.pointer none))) rfl (s_assign (d := (si r9.1)) rfl (AWops.nil (AW.ret ?_))))
        cases h
       ·refine AW.cond_no rfl c10 (AW.skip (AW.seq (AW.region ?_)))
        refine s_move (d := (rf 2 0)) rfl (s_move (d := (ds_ e_u8 a1)) rfl ?_)
        obtain ⟨r11, er11, h⟩ := bnd h
        refine cc [] [(o_vdisk_Disk_03 false (C.mp 1) np r9.2), (om_ e_vdisk_file r9.2.files), (some (AObj.cells true [(C.ref 0 0), (C.p true (.v (.slice none 0 0))), (C.p true (.v (.slice none 0 0))), (cb false)])), (ow_ e_u8 r11)] (D.one (C.own 3 0 r11.length 1)) F.ca_28 rfl rfl (ac (.one .imm) an) an (slices_Clone_byte_byte.meets _ a1 r11 er11) (s_nilCheck (d := (rf 2 0)) rfl (.inl ⟨_, _, rfl⟩) (s_fieldRef F.fo_27_1 (by decide) rfl (s_store (cs' := [(C.ref 0 0), (C.own 3 0 r11.length 1), (C.p true (.v (.slice none 0 0))), (cb false)]) rfl rfl rfl (List.cons_ne_nil _ _) rfl F.sz_22 (nl rfl) rfl (AWops.nil (AW.seq (AW.region (s_move (d := (rf 2 0)) rfl (s_assign (d := (rf 2 0)) rfl ?_))))))))
        refine s_assign (d := (si 0)) rfl (AWops.nil (AW.ret ?_))
        obtain rfl := Option.some.inj h
        exact ⟨_, rfl, (Weak.trans (Weak.nilC (t := 2) (j := 2) (sz := 1) rfl rfl rfl) (wg 2 [0, 1, 2, 4] [3] rfl (le_upd (le_top _) (DLe.tup (ac (TLe.one (.ref rfl)) (ac (TLe.one .sc) an)))) (ac (qs rfl) (ac .map (ac (.cells (fun _ => rfl) (ac (.ref rfl) (ac (CLe.frz e_u8_len rfl rfl rfl) (ac (.own rfl) (ac .sc an))))) (ac (.cells (fun _ => rfl) an) an))))))⟩
   ·refine AW.cond_no rfl c4 (AW.seq (AW.region ?_))
    refine s_move (d := (si r1.1)) rfl (s_assign (d := (sc (.pointer none))) rfl (s_assign (d := (si r1.1)) rfl (AWops.nil (AW.ret ?_))))
    cases h
def journal_Journal_none_fresh.f (k : Nat) (p0 : journal_Journal) (p1 : vdisk_Disk) : Option (Bool × journal_Journal) := some (false, (⟨(), p0.snap, p0.l, p0.stopped⟩ : journal_Journal))
theorem journal_Journal_none_fresh.meets (k : Nat) (p0 : journal_Journal) (p1 : vdisk_Disk) (r : Bool × journal_Journal) (h : journal_Journal_none_fresh.f k p0 p1 = some r) : Meets Try.prog 30 [(rf 0 0)] [(o_journal_Journal_02 false (C.ref 1 0) (C.own 2 0 p0.l.length 1) p0), (o_vdisk_Disk_03 false (C.mp 3) np p1), (some (AObj.cells false (rowC (e_sl e_u8) p0.l))), (om_ e_vdisk_file p1.files)] (sb r.1) [(o_journal_Journal_02 false (C.ref 1 0) (C.own 2 0 r.2.l.length 1) r.2), (o_vdisk_Disk_03 false (C.mp 3) np p1), (some (AObj.cells false (rowC (e_sl e_u8) r.2.l))), (om_ e_vdisk_file p1.files)] := by
 unfold journal_Journal_none_fresh.f at h
 refine Meets.of_body (n := 12) Try.func30 rfl rfl (nl rfl) fun x hx => ?_
 replace hx : x.k = 4 := hx
 show AW _ x _ _ ⟨12, fr0 [(rf 0 0)], [(o_journal_Journal_02 false (C.ref 1 0) (C.own 2 0 p0.l.length 1) p0), (o_vdisk_Disk_03 false (C.mp 3) np p1), (some (AObj.cells false (rowC (e_sl e_u8) p0.l))), (om_ e_vdisk_file p1.files)]⟩
 refine AW.seq (AW.region ?_)
 refine s_assign (d := (sb false)) rfl (AWops.nil (AW.seq (AW.region ?_)))
 refine s_move (d := (rf 0 0)) rfl (s_ptrNil (b := false) F.u_23 rfl (.inl ⟨⟨_, _, rfl⟩, rfl⟩) (.inl rfl) (s_move (d := (sb false)) rfl ?_))
 refine AWops.guard_yes rfl (nl rfl) rfl rfl ?_
 refine s_move (d := (rf 0 0)) rfl ?_
 refine AWops.guard_yes rfl (nl rfl) rfl rfl ?_
 refine s_nilCheck (d := (rf 0 0)) rfl (.inl ⟨_, _, rfl⟩) ?_
 refine AWops.guard_yes rfl (nl rfl) rfl rfl ?_
 refine s_fieldRef F.fo_27_0 (by decide) rfl ?_
 refine AWops.guard_yes rfl (nl rfl) rfl rfl ?_
 refine s_load1 (c' := (C.ref 1 0)) F.ag_24 rfl rfl ?_
 refine AWops.guard_yes rfl (nl rfl) rfl rfl ?_
 refine s_ptrNil (b := false) F.u_24 rfl (.inl ⟨⟨_, _, rfl⟩, rfl⟩) (.inl rfl) (s_pick_no (d := (sb false)) rfl rfl rfl (s_assign (d := (sb false)) rfl (AWops.nil (AW.ret ?_))))
 obtain rfl := Option.some.inj h
 exact ⟨_, rfl, (wg 4 [0, 1, 2, 3] [] rfl (le_upd (le_top _) (o1 .sc)) (ac (.cells id (ac (.ref rfl) (ac .same (ac (.own rfl) (ac .sc an))))) (ac (qs rfl) (ac (.cells id (all2_row _)) (ac .map an)))))⟩
def journal_Journal_may_fresh.f (k : Nat) (p0 : journal_Journal) (a1 : Bool) (p1 : vdisk_Disk) : Option (Int × journal_Journal) := (journal_Journal_none_fresh.f k (⟨(), p0.snap, p0.l, p0.stopped⟩ : journal_Journal) p1).bind fun r1 => if r1.1 = true then (some (2, (⟨(), r1.2.snap, r1.2.l, r1.2.stopped⟩ : journal_Journal))) else (if a1 = true then (if r1.2.stopped = true then (some (70, (⟨(), r1.2.snap, r1.2.l, r1.2.stopped⟩ : journal_Journal))) else (some (0, (⟨(), r1.2.snap, r1.2.l, r1.2.stopped⟩ : journal_Journal)))) else (some (1, (⟨(), r1.2.snap, r1.2.l, r1.2.stopped⟩ : journal_Journal))))
theorem journal_Journal_may_fresh.meets (k : Nat) (p0 : journal_Journal) (a1 : Bool) (p1 : vdisk_Disk) (r : Int × journal_Journal) (h : journal_Journal_may_fresh.f k p0 a1 p1 = some r) : Meets Try.prog 24 [(rf 0 0), (sb a1)] [(o_journal_Journal_02 false (C.ref 1 0) (C.own 2 0 p0.l.length 1) p0), (o_vdisk_Disk_03 false (C.mp 3) np p1), (some (AObj.cells false (rowC (e_sl e_u8) p0.l))), (om_ e_vdisk_file p1.files)] (si r.1) [(o_journal_Journal_02 false (C.ref 1 0) (C.own 2 0 r.2.l.length 1) r.2), (o_vdisk_Disk_03 false (C.mp 3) np p1), (some (AObj.cells false (rowC (e_sl e_u8) r.2.l))), (om_ e_vdisk_file p1.files)] := by
 unfold journal_Journal_may_fresh.f at h
 refine Meets.of_body (n := 16) Try.func24 rfl rfl (nl rfl) fun x hx => ?_
 replace hx : x.k = 4 := hx
 show AW _ x _ _ ⟨16, fr0 [(rf 0 0), (sb a1)], [(o_journal_Journal_02 false (C.ref 1 0) (C.own 2 0 p0.l.length 1) p0), (o_vdisk_Disk_03 false (C.mp 3) np p1), (some (AObj.cells false (rowC (e_sl e_u8) p0.l))), (om_ e_vdisk_file p1.files)]⟩
 refine AW.seq (AW.region ?_)
 refine s_assign (d := (si 0)) rfl (AWops.nil (AW.seq (AW.block (AW.seq (AW.region ?_)))))
 refine s_move (d := (rf 0 0)) rfl ?_
 obtain ⟨r1, er1, h⟩ := bnd h
 refine cc [0, 1, 2, 3] [(o_journal_Journal_02 false (C.ref 1 0) (C.own 2 0 r1.2.l.length 1) r1.2), (o_vdisk_Disk_03 false (C.mp 3) np p1), (some (AObj.cells false (rowC (e_sl e_u8) r1.2.l))), (om_ e_vdisk_file p1.files)] (sb r1.1) F.ca_30 rfl rfl (ac (.one (.ref rfl)) an) (ac (.cells (ac (.ref rfl) (ac .imm (ac (.own rfl) (ac .sc an))))) (ac (.cells (ac (.mp rfl) (ac .sc (ac .sc (ac .sc (ac .sc an)))))) (ac (.cells (lend_row _)) (ac .map an)))) (journal_Journal_none_fresh.meets _ (⟨(), p0.snap, p0.l, p0.stopped⟩ : journal_Journal) p1 r1 er1) (s_assign (d := (sb r1.1)) rfl (AWops.nil ?_))
 rcases itH h with ⟨c2, h⟩ | ⟨c2, h⟩
 ·refine AW.cond_yes rfl c2 (AW.seq (AW.region ?_))
  refine s_assign (d := (si 2)) rfl (AWops.nil (AW.ret ?_))
  obtain rfl := Option.some.inj h
  exact ⟨_, rfl, (wg 4 [0, 1, 2, 3] [] rfl (le_upd (le_top _) (o1 .sc)) (ac (.cells id (ac (.ref rfl) (ac .same (ac (.own rfl) (ac .sc an))))) (ac (qs rfl) (ac (.cells id (all2_row _)) (ac .map an)))))⟩
 ·refine AW.cond_no rfl c2 (AW.seq (AW.region ?_))
  refine s_move (d := (sb a1)) rfl (s_not rfl (s_assign (d := (sb (!a1))) rfl (AWops.nil ?_)))
  rcases itH h with ⟨c3, h⟩ | ⟨c3, h⟩
  ·refine AW.cond_no rfl (by rw [c3] <;> rfl) (AW.seq (AW.region ?_))
   refine s_move (d := (rf 0 0)) rfl (s_nilCheck (d := (rf 0 0)) rfl (.inl ⟨_, _, rfl⟩) (s_fieldRef F.fo_27_3 (by decide) rfl (s_load1 (c' := (cb r1.2.stopped)) F.ag_4 rfl rfl (s_assign (d := (sb r1.2.stopped)) rfl (AWops.nil ?_)))))
   rcases itH h with ⟨c4, h⟩ | ⟨c4, h⟩
   ·refine AW.cond_yes rfl c4 (AW.seq (AW.region ?_))
    refine s_assign (d := (si 70)) rfl (AWops.nil (AW.ret ?_))
    obtain rfl := Option.some.inj h
    exact ⟨_, rfl, (wg 4 [0, 1, 2, 3] [] rfl (le_upd (le_top _) (o1 .sc)) (ac (.cells id (ac (.ref rfl) (ac .same (ac (.own rfl) (ac .sc an))))) (ac (qs rfl) (ac (.cells id (all2_row _)) (ac .map an)))))⟩
   ·refine AW.cond_no rfl c4 (AW.skip (AW.seq (AW.region ?_)))
    refine s_assign (d := (si 0)) rfl (AWops.nil (AW.ret ?_))
    obtain rfl := Option.some.inj h
    exact ⟨_, rfl, (wg 4 [0, 1, 2, 3] [] rfl (le_upd (le_top _) (o1 .sc)) (ac (.cells id (ac (.ref rfl) (ac .same (ac (.own rfl) (ac .sc an))))) (ac (qs rfl) (ac (.cells id (all2_row _)) (ac .map an)))))⟩
  ·refine AW.cond_yes rfl (by rw [c3] <;> rfl) (AW.seq (AW.region ?_))
   refine s_assign (d := (si 1)) rfl (AWops.nil (AW.ret ?_))
   obtain rfl := Option.some.inj h
   exact ⟨_, rfl, (wg 4 [0, 1, 2, 3] [] rfl (le_upd (le_top _) (o1 .sc)) (ac (.cells id (ac (.ref rfl) (ac .same (ac (.own rfl) (ac .sc an))))) (ac (qs rfl) (ac (.cells id (all2_row _)) (ac .map an)))))⟩
end Go.Abs.GenK
