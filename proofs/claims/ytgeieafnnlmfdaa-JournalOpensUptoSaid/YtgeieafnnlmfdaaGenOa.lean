import Derived.Test.YtgeieafnnlmfdaaAbsZ
import Derived.Test.YtgeieafnnlmfdaaAbsSK
import Derived.Test.YtgeieafnnlmfdaaProg
set_option linter.unusedVariables false
set_option linter.unusedSimpArgs false
set_option maxRecDepth 100000
set_option maxHeartbeats 4000000
namespace Go.Abs.GenO
open Go.Abs Go.Proofs
structure vdisk_file where
 b : List Int
 sure : Int
abbrev c_vdisk_file (x : vdisk_file) : List C := [(C.p false (.sl x.b.length (x.b.flatMap e_u8))), (C.p true (.v (.int .i64 x.sure)))]
abbrev p_vdisk_file (x : vdisk_file) : List P := [P.sl x.b.length (x.b.flatMap e_u8), P.v (.int .i64 x.sure)]
def e_vdisk_file (x : vdisk_file) : List P := (e_sl e_u8) x.b ++ e_i64 x.sure
theorem e_vdisk_file_eq (x : vdisk_file) : e_vdisk_file x = [P.sl x.b.length (x.b.flatMap e_u8), P.v (.int .i64 x.sure)] := rfl
theorem e_vdisk_file_len (x : vdisk_file) : (e_vdisk_file x).length = 2 := by rw [e_vdisk_file_eq]; rfl
structure vdisk_Disk where
 files : List (ByteArray × vdisk_file)
 room : Int
 used : Int
 fuse : Unit
 dead : Bool
structure dossierref03_File where
 Name : ByteArray
 B : List Int
 Sure : Int
abbrev c_dossierref03_File (x : dossierref03_File) : List C := [(C.p true (.v (.string x.Name))), (C.p false (.sl x.B.length (x.B.flatMap e_u8))), (C.p true (.v (.int .i64 x.Sure)))]
abbrev p_dossierref03_File (x : dossierref03_File) : List P := [P.v (.string x.Name), P.sl x.B.length (x.B.flatMap e_u8), P.v (.int .i64 x.Sure)]
def e_dossierref03_File (x : dossierref03_File) : List P := e_str x.Name ++ (e_sl e_u8) x.B ++ e_i64 x.Sure
theorem e_dossierref03_File_eq (x : dossierref03_File) : e_dossierref03_File x = [P.v (.string x.Name), P.sl x.B.length (x.B.flatMap e_u8), P.v (.int .i64 x.Sure)] := rfl
theorem e_dossierref03_File_len (x : dossierref03_File) : (e_dossierref03_File x).length = 3 := by rw [e_dossierref03_File_eq]; rfl
structure dossierref03_Disk where
 L : List dossierref03_File
 Most : Int
 Burns : Int
 Off : Bool
abbrev c_dossierref03_Disk (x : dossierref03_Disk) : List C := [(C.p false (.sl x.L.length (x.L.flatMap e_dossierref03_File))), (C.p true (.v (.int .i64 x.Most))), (C.p true (.v (.int .i64 x.Burns))), (C.p true (.v (.bool x.Off)))]
abbrev p_dossierref03_Disk (x : dossierref03_Disk) : List P := [P.sl x.L.length (x.L.flatMap e_dossierref03_File), P.v (.int .i64 x.Most), P.v (.int .i64 x.Burns), P.v (.bool x.Off)]
def e_dossierref03_Disk (x : dossierref03_Disk) : List P := (e_sl e_dossierref03_File) x.L ++ e_i64 x.Most ++ e_i64 x.Burns ++ e_bool x.Off
theorem e_dossierref03_Disk_eq (x : dossierref03_Disk) : e_dossierref03_Disk x = [P.sl x.L.length (x.L.flatMap e_dossierref03_File), P.v (.int .i64 x.Most), P.v (.int .i64 x.Burns), P.v (.bool x.Off)] := rfl
theorem e_dossierref03_Disk_len (x : dossierref03_Disk) : (e_dossierref03_Disk x).length = 4 := by rw [e_dossierref03_Disk_eq]; rfl
structure dossierplain_Step where
 Op : Int
 N : Int
 Name : ByteArray
 To : ByteArray
 B : List Int
 Keeps : List Int
abbrev c_dossierplain_Step (x : dossierplain_Step) : List C := [(C.p true (.v (.int .i64 x.Op))), (C.p true (.v (.int .i64 x.N))), (C.p true (.v (.string x.Name))), (C.p true (.v (.string x.To))), (C.p false (.sl x.B.length (x.B.flatMap e_u8))), (C.p false (.sl x.Keeps.length (x.Keeps.flatMap e_i64)))]
abbrev p_dossierplain_Step (x : dossierplain_Step) : List P := [P.v (.int .i64 x.Op), P.v (.int .i64 x.N), P.v (.string x.Name), P.v (.string x.To), P.sl x.B.length (x.B.flatMap e_u8), P.sl x.Keeps.length (x.Keeps.flatMap e_i64)]
def e_dossierplain_Step (x : dossierplain_Step) : List P := e_i64 x.Op ++ e_i64 x.N ++ e_str x.Name ++ e_str x.To ++ (e_sl e_u8) x.B ++ (e_sl e_i64) x.Keeps
theorem e_dossierplain_Step_eq (x : dossierplain_Step) : e_dossierplain_Step x = [P.v (.int .i64 x.Op), P.v (.int .i64 x.N), P.v (.string x.Name), P.v (.string x.To), P.sl x.B.length (x.B.flatMap e_u8), P.sl x.Keeps.length (x.Keeps.flatMap e_i64)] := rfl
theorem e_dossierplain_Step_len (x : dossierplain_Step) : (e_dossierplain_Step x).length = 6 := by rw [e_dossierplain_Step_eq]; rfl
structure dossierlaw04_pair where
 j : Unit
 x : Unit
 d : Unit
 y : Unit
structure journal_Journal where
 d : Unit
 snap : List Int
 l : List (List Int)
 stopped : Bool
structure dossierref04_Journal where
 D : Unit
 Snap : List Int
 L : List (List Int)
 Stop : Bool
abbrev W1 (a b c d : Int) : Int := IntKind.i64.wrap ((IntKind.i64.wrap ((IntKind.i64.wrap ((IntKind.i64.wrap ((IntKind.i64.wrap a) * 2 ^ 24)) + (IntKind.i64.wrap ((IntKind.i64.wrap b) * 2 ^ 16)))) + (IntKind.i64.wrap ((IntKind.i64.wrap c) * 2 ^ 8)))) + (IntKind.i64.wrap d))
abbrev lk_vdisk_file (k : ByteArray) (m : List (ByteArray × vdisk_file)) : vdisk_file := (mget k m).getD ((⟨([] : List Int), 0⟩ : vdisk_file) : vdisk_file)
abbrev o_vdisk_Disk_03 (fr : Bool) (c0 c3 : C) (x : vdisk_Disk) : Option AObj := some (AObj.cells fr [c0, (C.p true (.v (.int .i64 x.room))), (C.p true (.v (.int .i64 x.used))), c3, (C.p true (.v (.bool x.dead)))])
abbrev o_dossierref03_Disk_0 (fr : Bool) (c0 : C) (x : dossierref03_Disk) : Option AObj := some (AObj.cells fr [c0, (C.p true (.v (.int .i64 x.Most))), (C.p true (.v (.int .i64 x.Burns))), (C.p true (.v (.bool x.Off)))])
abbrev o_journal_Journal_0 (fr : Bool) (c0 : C) (x : journal_Journal) : Option AObj := some (AObj.cells fr [c0, (C.p false (.sl x.snap.length (x.snap.flatMap e_u8))), (C.p false (.sl x.l.length (x.l.flatMap (e_sl e_u8)))), (C.p true (.v (.bool x.stopped)))])
abbrev o_dossierref04_Journal_0 (fr : Bool) (c0 : C) (x : dossierref04_Journal) : Option AObj := some (AObj.cells fr [c0, (C.p false (.sl x.Snap.length (x.Snap.flatMap e_u8))), (C.p false (.sl x.L.length (x.L.flatMap (e_sl e_u8)))), (C.p true (.v (.bool x.Stop)))])
abbrev o_journal_Journal_02 (fr : Bool) (c0 c2 : C) (x : journal_Journal) : Option AObj := some (AObj.cells fr [c0, (C.p false (.sl x.snap.length (x.snap.flatMap e_u8))), c2, (C.p true (.v (.bool x.stopped)))])
namespace F
theorem z_37 : zeroOf Try.prog 37 = some (.agg #[(.map none), (.int .i64 0), (.int .i64 0), (.pointer none), (.bool false)]) := by kernel_rfl
theorem so_37 : structOk Try.prog 37 = true := by kernel_rfl
theorem z_84 : zeroOf Try.prog 84 = some (.agg #[(.slice none 0 0), (.int .i64 0), (.int .i64 0), (.bool false)]) := by kernel_rfl
theorem so_84 : structOk Try.prog 84 = true := by kernel_rfl
theorem u_24 : Try.prog.underlying 24 = some (.pointer 37) := by kernel_rfl
theorem z_57 : zeroOf Try.prog 57 = some (.agg #[(.pointer none), (.pointer none), (.pointer none), (.pointer none)]) := by kernel_rfl
theorem so_57 : structOk Try.prog 57 = true := by kernel_rfl
theorem z_59 : zeroOf Try.prog 59 = some (.agg #[(.int .i64 0), (.int .i64 0), (.string ⟨#[]⟩), (.string ⟨#[]⟩), (.slice none 0 0), (.slice none 0 0)]) := by kernel_rfl
theorem so_59 : structOk Try.prog 59 = true := by kernel_rfl
theorem fo_59_4 : fieldOf Try.prog 59 4 = some (4, 1, false) := by kernel_rfl
theorem fo_59_0 : fieldOf Try.prog 59 0 = some (0, 1, false) := by kernel_rfl
theorem u_3 : Try.prog.underlying 3 = some (.int .i64) := by kernel_rfl
theorem u_46 : Try.prog.underlying 46 = some (.int .u64) := by kernel_rfl
theorem u_22 : Try.prog.underlying 22 = some (.slice 5) := by kernel_rfl
theorem in_5 : infoQ Try.prog 5 = some (some (.int .u8 0), 1, 1) := by kernel_rfl
theorem sz_5 : szOf Try.prog 5 = some 1 := by kernel_rfl
theorem z_5 : zeroOf Try.prog 5 = some (.int .u8 0) := by kernel_rfl
theorem fo_59_2 : fieldOf Try.prog 59 2 = some (2, 1, false) := by kernel_rfl
theorem u_9 : Try.prog.underlying 9 = some (.string) := by kernel_rfl
theorem fo_37_0 : fieldOf Try.prog 37 0 = some (0, 1, false) := by kernel_rfl
theorem u_34 : Try.prog.underlying 34 = some (.map 9 79) := by kernel_rfl
theorem ag_34 : aggOf Try.prog 34 = some false := by kernel_rfl
theorem fo_37_4 : fieldOf Try.prog 37 4 = some (4, 1, false) := by kernel_rfl
theorem z_79 : zeroOf Try.prog 79 = some (.agg #[(.slice none 0 0), (.int .i64 0)]) := by kernel_rfl
theorem fo_37_1 : fieldOf Try.prog 37 1 = some (1, 1, false) := by kernel_rfl
theorem ag_3 : aggOf Try.prog 3 = some false := by kernel_rfl
theorem fo_37_2 : fieldOf Try.prog 37 2 = some (2, 1, false) := by kernel_rfl
theorem fo_37_3 : fieldOf Try.prog 37 3 = some (3, 1, false) := by kernel_rfl
theorem u_35 : Try.prog.underlying 35 = some (.pointer 3) := by kernel_rfl
theorem ag_35 : aggOf Try.prog 35 = some false := by kernel_rfl
theorem sz_79 : szOf Try.prog 79 = some 2 := by kernel_rfl
theorem ag_4 : aggOf Try.prog 4 = some false := by kernel_rfl
theorem ca_34 : callable Try.prog 34 = true := by kernel_rfl
theorem fo_79_0 : fieldOf Try.prog 79 0 = some (0, 1, false) := by kernel_rfl
theorem ag_22 : aggOf Try.prog 22 = some false := by kernel_rfl
theorem u_25 : Try.prog.underlying 25 = some (.slice 22) := by kernel_rfl
theorem sz_22 : szOf Try.prog 22 = some 1 := by kernel_rfl
theorem z_22 : zeroOf Try.prog 22 = some (.slice none 0 0) := by kernel_rfl
theorem ca_78 : callable Try.prog 78 = true := by kernel_rfl
theorem ca_57 : callable Try.prog 57 = true := by kernel_rfl
theorem fo_79_1 : fieldOf Try.prog 79 1 = some (1, 1, false) := by kernel_rfl
theorem so_79 : structOk Try.prog 79 = true := by kernel_rfl
theorem sz_3 : szOf Try.prog 3 = some 1 := by kernel_rfl
theorem ag_79 : aggOf Try.prog 79 = some true := by kernel_rfl
theorem ca_36 : callable Try.prog 36 = true := by kernel_rfl
theorem ca_55 : callable Try.prog 55 = true := by kernel_rfl
theorem ca_56 : callable Try.prog 56 = true := by kernel_rfl
theorem ag_5 : aggOf Try.prog 5 = some false := by kernel_rfl
theorem fo_84_3 : fieldOf Try.prog 84 3 = some (3, 1, false) := by kernel_rfl
theorem fo_84_1 : fieldOf Try.prog 84 1 = some (1, 1, false) := by kernel_rfl
theorem fo_84_0 : fieldOf Try.prog 84 0 = some (0, 1, false) := by kernel_rfl
theorem z_109 : zeroOf Try.prog 109 = some (.agg #[(.string ⟨#[]⟩), (.slice none 0 0), (.int .i64 0)]) := by kernel_rfl
theorem fo_109_1 : fieldOf Try.prog 109 1 = some (1, 1, false) := by kernel_rfl
theorem sz_109 : szOf Try.prog 109 = some 3 := by kernel_rfl
theorem ag_109 : aggOf Try.prog 109 = some true := by kernel_rfl
theorem u_82 : Try.prog.underlying 82 = some (.slice 109) := by kernel_rfl
theorem ag_82 : aggOf Try.prog 82 = some false := by kernel_rfl
theorem ca_64 : callable Try.prog 64 = true := by kernel_rfl
theorem fo_84_2 : fieldOf Try.prog 84 2 = some (2, 1, false) := by kernel_rfl
theorem sz_4 : szOf Try.prog 4 = some 1 := by kernel_rfl
theorem so_109 : structOk Try.prog 109 = true := by kernel_rfl
theorem fo_109_0 : fieldOf Try.prog 109 0 = some (0, 1, false) := by kernel_rfl
theorem ag_9 : aggOf Try.prog 9 = some false := by kernel_rfl
theorem ca_66 : callable Try.prog 66 = true := by kernel_rfl
theorem in_109 : infoQ Try.prog 109 = some (some (.agg #[(.string ⟨#[]⟩), (.slice none 0 0), (.int .i64 0)]), 3, 48) := by kernel_rfl
theorem sz_82 : szOf Try.prog 82 = some 1 := by kernel_rfl
theorem ca_67 : callable Try.prog 67 = true := by kernel_rfl
theorem ca_65 : callable Try.prog 65 = true := by kernel_rfl
theorem ca_63 : callable Try.prog 63 = true := by kernel_rfl
theorem ca_40 : callable Try.prog 40 = true := by kernel_rfl
theorem ca_39 : callable Try.prog 39 = true := by kernel_rfl
theorem ca_25 : callable Try.prog 25 = true := by kernel_rfl
theorem ca_38 : callable Try.prog 38 = true := by kernel_rfl
theorem ca_20 : callable Try.prog 20 = true := by kernel_rfl
theorem ag_59 : aggOf Try.prog 59 = some true := by kernel_rfl
theorem sz_59 : szOf Try.prog 59 = some 6 := by kernel_rfl
theorem u_60 : Try.prog.underlying 60 = some (.slice 59) := by kernel_rfl
theorem fo_57_2 : fieldOf Try.prog 57 2 = some (2, 1, false) := by kernel_rfl
theorem ca_59 : callable Try.prog 59 = true := by kernel_rfl
theorem z_27 : zeroOf Try.prog 27 = some (.agg #[(.pointer none), (.slice none 0 0), (.slice none 0 0), (.bool false)]) := by kernel_rfl
theorem so_27 : structOk Try.prog 27 = true := by kernel_rfl
theorem ca_28 : callable Try.prog 28 = true := by kernel_rfl
theorem u_5 : Try.prog.underlying 5 = some (.int .u8) := by kernel_rfl
theorem u_120 : Try.prog.underlying 120 = some (.int .u32) := by kernel_rfl
theorem z_97 : zeroOf Try.prog 97 = some (.agg #[(.int .u8 0), (.int .u8 0), (.int .u8 0), (.int .u8 0), (.int .u8 0), (.int .u8 0), (.int .u8 0), (.int .u8 0)]) := by kernel_rfl
theorem u_97 : Try.prog.underlying 97 = some (.array 8 5) := by kernel_rfl
theorem ca_58 : callable Try.prog 58 = true := by kernel_rfl
theorem ca_26 : callable Try.prog 26 = true := by kernel_rfl
theorem ca_79 : callable Try.prog 79 = true := by kernel_rfl
theorem in_22 : infoQ Try.prog 22 = some (some (.slice none 0 0), 1, 24) := by kernel_rfl
theorem ca_60 : callable Try.prog 60 = true := by kernel_rfl
theorem fo_27_0 : fieldOf Try.prog 27 0 = some (0, 1, false) := by kernel_rfl
theorem ca_44 : callable Try.prog 44 = true := by kernel_rfl
theorem ag_24 : aggOf Try.prog 24 = some false := by kernel_rfl
theorem fo_27_1 : fieldOf Try.prog 27 1 = some (1, 1, false) := by kernel_rfl
theorem fo_27_2 : fieldOf Try.prog 27 2 = some (2, 1, false) := by kernel_rfl
theorem sz_25 : szOf Try.prog 25 = some 1 := by kernel_rfl
theorem ca_33 : callable Try.prog 33 = true := by kernel_rfl
theorem ca_42 : callable Try.prog 42 = true := by kernel_rfl
theorem ca_27 : callable Try.prog 27 = true := by kernel_rfl
theorem ca_29 : callable Try.prog 29 = true := by kernel_rfl
theorem ca_32 : callable Try.prog 32 = true := by kernel_rfl
theorem ca_31 : callable Try.prog 31 = true := by kernel_rfl
theorem fo_57_3 : fieldOf Try.prog 57 3 = some (3, 1, false) := by kernel_rfl
theorem ca_68 : callable Try.prog 68 = true := by kernel_rfl
theorem ca_69 : callable Try.prog 69 = true := by kernel_rfl
theorem ca_46 : callable Try.prog 46 = true := by kernel_rfl
theorem ca_70 : callable Try.prog 70 = true := by kernel_rfl
theorem ca_83 : callable Try.prog 83 = true := by kernel_rfl
theorem ca_84 : callable Try.prog 84 = true := by kernel_rfl
theorem fo_109_2 : fieldOf Try.prog 109 2 = some (2, 1, false) := by kernel_rfl
theorem sz_9 : szOf Try.prog 9 = some 1 := by kernel_rfl
theorem ca_43 : callable Try.prog 43 = true := by kernel_rfl
theorem ca_41 : callable Try.prog 41 = true := by kernel_rfl
theorem ca_77 : callable Try.prog 77 = true := by kernel_rfl
theorem z_92 : zeroOf Try.prog 92 = some (.agg #[(.pointer none), (.slice none 0 0), (.slice none 0 0), (.bool false)]) := by kernel_rfl
theorem so_92 : structOk Try.prog 92 = true := by kernel_rfl
theorem ca_71 : callable Try.prog 71 = true := by kernel_rfl
theorem ca_45 : callable Try.prog 45 = true := by kernel_rfl
theorem ca_72 : callable Try.prog 72 = true := by kernel_rfl
theorem fo_57_0 : fieldOf Try.prog 57 0 = some (0, 1, false) := by kernel_rfl
theorem fo_57_1 : fieldOf Try.prog 57 1 = some (1, 1, false) := by kernel_rfl
theorem sz_55 : szOf Try.prog 55 = some 1 := by kernel_rfl
theorem sz_23 : szOf Try.prog 23 = some 1 := by kernel_rfl
theorem ca_51 : callable Try.prog 51 = true := by kernel_rfl
theorem ag_51 : aggOf Try.prog 51 = some false := by kernel_rfl
theorem ca_12 : callable Try.prog 12 = true := by kernel_rfl
theorem ca_61 : callable Try.prog 61 = true := by kernel_rfl
theorem ca_62 : callable Try.prog 62 = true := by kernel_rfl
theorem ca_35 : callable Try.prog 35 = true := by kernel_rfl
theorem u_76 : Try.prog.underlying 76 = some (.slice 9) := by kernel_rfl
theorem in_9 : infoQ Try.prog 9 = some (some (.string ⟨#[]⟩), 1, 16) := by kernel_rfl
theorem z_9 : zeroOf Try.prog 9 = some (.string ⟨#[]⟩) := by kernel_rfl
theorem ca_74 : callable Try.prog 74 = true := by kernel_rfl
theorem ca_73 : callable Try.prog 73 = true := by kernel_rfl
theorem ca_75 : callable Try.prog 75 = true := by kernel_rfl
theorem ca_76 : callable Try.prog 76 = true := by kernel_rfl
theorem u_4 : Try.prog.underlying 4 = some (.bool) := by kernel_rfl
theorem ca_17 : callable Try.prog 17 = true := by kernel_rfl
theorem ca_52 : callable Try.prog 52 = true := by kernel_rfl
theorem ag_23 : aggOf Try.prog 23 = some false := by kernel_rfl
theorem u_23 : Try.prog.underlying 23 = some (.pointer 27) := by kernel_rfl
theorem ag_55 : aggOf Try.prog 55 = some false := by kernel_rfl
theorem u_55 : Try.prog.underlying 55 = some (.pointer 92) := by kernel_rfl
theorem fo_27_3 : fieldOf Try.prog 27 3 = some (3, 1, false) := by kernel_rfl
theorem ca_30 : callable Try.prog 30 = true := by kernel_rfl
theorem ag_25 : aggOf Try.prog 25 = some false := by kernel_rfl
theorem ca_24 : callable Try.prog 24 = true := by kernel_rfl
theorem ca_9 : callable Try.prog 9 = true := by kernel_rfl
theorem ca_10 : callable Try.prog 10 = true := by kernel_rfl
theorem ca_7 : callable Try.prog 7 = true := by kernel_rfl
theorem ca_14 : callable Try.prog 14 = true := by kernel_rfl
theorem ca_13 : callable Try.prog 13 = true := by kernel_rfl
theorem ca_22 : callable Try.prog 22 = true := by kernel_rfl
theorem ca_21 : callable Try.prog 21 = true := by kernel_rfl
theorem fo_92_1 : fieldOf Try.prog 92 1 = some (1, 1, false) := by kernel_rfl
theorem fo_92_2 : fieldOf Try.prog 92 2 = some (2, 1, false) := by kernel_rfl
theorem ca_37 : callable Try.prog 37 = true := by kernel_rfl
theorem ca_18 : callable Try.prog 18 = true := by kernel_rfl
theorem ca_11 : callable Try.prog 11 = true := by kernel_rfl
theorem fo_92_3 : fieldOf Try.prog 92 3 = some (3, 1, false) := by kernel_rfl
theorem ca_19 : callable Try.prog 19 = true := by kernel_rfl
end F
def vdisk_New.f (k : Nat) (a0 : Int) : Option (vdisk_Disk × Int) := if (decide (a0 < 0)) = true then (none) else (if (decide (a0 > 4194304)) = true then (none) else (some ((⟨([] : List (ByteArray × vdisk_file)), a0, 0, (), false⟩ : vdisk_Disk), 0)))
theorem vdisk_New.meets (k : Nat) (a0 : Int) (r : vdisk_Disk × Int) (h : vdisk_New.f k a0 = some r) : Meets Try.prog 14 [(si a0)] [] (D.tup [(rf 0 0), (si r.2)]) [(o_vdisk_Disk_03 true (C.mp 1) np r.1), (om_ e_vdisk_file r.1.files)] := by
 unfold vdisk_New.f at h
 refine Meets.of_body (n := 14) Try.func14 rfl rfl (nl rfl) fun x hx => ?_
 replace hx : x.k = 0 := hx
 show AW _ x _ _ ⟨14, fr0 [(si a0)], []⟩
 refine AW.seq (AW.region ?_)
 refine s_assign (d := (sc (.pointer none))) rfl (s_assign (d := (si 0)) rfl (AWops.nil (AW.seq (AW.seq (AW.region (s_move (d := (si a0)) rfl (s_binI (v := (.bool (decide (a0 < 0)))) rfl rfl rfl (s_move (d := (sb (decide (a0 < 0)))) rfl ?_))))))))
 rcases itH h with ⟨c1, h⟩ | ⟨c1, h⟩
 ·refine AWops.guard_no rfl (nl rfl) rfl c1 ?_
  refine AWops.guard_no rfl (nl rfl) rfl c1 ?_
  refine s_pick_yes (d := (sb true)) rfl c1 rfl (AWops.nil ?_)
  refine AW.cond_yes rfl rfl (AW.seq (AW.region ?_))
  refine s_assign (d := (sc (.pointer none))) rfl (s_assign (d := (si 1)) rfl (AWops.nil (AW.ret ?_)))
  cases h
 ·refine AWops.guard_yes rfl (nl rfl) rfl c1 ?_
  refine s_move (d := (si a0)) rfl ?_
  refine AWops.guard_yes rfl (nl rfl) rfl c1 ?_
  refine s_binI (v := (.bool (decide (a0 > 4194304)))) rfl rfl rfl (s_pick_no (d := (sb (decide (a0 > 4194304)))) rfl c1 rfl (AWops.nil ?_))
  rcases itH h with ⟨c2, h⟩ | ⟨c2, h⟩
  ·refine AW.cond_yes rfl c2 (AW.seq (AW.region ?_))
   refine s_assign (d := (sc (.pointer none))) rfl (s_assign (d := (si 1)) rfl (AWops.nil (AW.ret ?_)))
   cases h
  ·refine AW.cond_no rfl c2 (AW.skip (AW.seq (AW.region ?_)))
   refine t_makeMap (s_move (d := (si a0)) rfl (s_build (ps := [(0, (D.one (C.mp 0))), (1, (si a0))]) (cs := [(C.mp 0), (ci a0), (ci 0), np, (cb false)]) F.z_37 rfl F.so_37 rfl rfl (s_box (cs := [(C.mp 0), (ci a0), (ci 0), np, (cb false)]) rfl (List.cons_ne_nil _ _) rfl (s_assign (d := (rf 1 0)) rfl (s_assign (d := (si 0)) rfl (AWops.nil (AW.ret ?_)))))))
   obtain rfl := Option.some.inj h
   exact ⟨_, rfl, (wg 0 [1, 0] [] rfl (le_upd (le_top _) (DLe.tup (ac (TLe.one (.ref rfl)) (ac (TLe.one .sc) an)))) (ac (.cells (fun _ => rfl) (ac (.mp rfl) (ac .sc (ac .sc (ac .sc (ac .sc an)))))) (ac .map an)))⟩
def dossierref03_New.f (k : Nat) (a0 : Int) : Option (dossierref03_Disk × Int) := if (decide (a0 < 0)) = true then (none) else (if (decide (a0 > 4194304)) = true then (none) else (some ((⟨([] : List dossierref03_File), a0, (-1), false⟩ : dossierref03_Disk), 0)))
theorem dossierref03_New.meets (k : Nat) (a0 : Int) (r : dossierref03_Disk × Int) (h : dossierref03_New.f k a0 = some r) : Meets Try.prog 19 [(si a0)] [] (D.tup [(rf 0 0), (si r.2)]) [(o_dossierref03_Disk_0 true (C.own 1 0 r.1.L.length 3) r.1), (or_ e_dossierref03_File r.1.L)] := by
 unfold dossierref03_New.f at h
 refine Meets.of_body (n := 13) Try.func19 rfl rfl (nl rfl) fun x hx => ?_
 replace hx : x.k = 0 := hx
 show AW _ x _ _ ⟨13, fr0 [(si a0)], []⟩
 refine AW.seq (AW.region ?_)
 refine s_assign (d := (sc (.pointer none))) rfl (s_assign (d := (si 0)) rfl (AWops.nil (AW.seq (AW.seq (AW.region (s_move (d := (si a0)) rfl (s_binI (v := (.bool (decide (a0 < 0)))) rfl rfl rfl (s_move (d := (sb (decide (a0 < 0)))) rfl ?_))))))))
 rcases itH h with ⟨c1, h⟩ | ⟨c1, h⟩
 ·refine AWops.guard_no rfl (nl rfl) rfl c1 ?_
  refine AWops.guard_no rfl (nl rfl) rfl c1 ?_
  refine s_pick_yes (d := (sb true)) rfl c1 rfl (AWops.nil ?_)
  refine AW.cond_yes rfl rfl (AW.seq (AW.region ?_))
  refine s_assign (d := (sc (.pointer none))) rfl (s_assign (d := (si 1)) rfl (AWops.nil (AW.ret ?_)))
  cases h
 ·refine AWops.guard_yes rfl (nl rfl) rfl c1 ?_
  refine s_move (d := (si a0)) rfl ?_
  refine AWops.guard_yes rfl (nl rfl) rfl c1 ?_
  refine s_binI (v := (.bool (decide (a0 > 4194304)))) rfl rfl rfl (s_pick_no (d := (sb (decide (a0 > 4194304)))) rfl c1 rfl (AWops.nil ?_))
  rcases itH h with ⟨c2, h⟩ | ⟨c2, h⟩
  ·refine AW.cond_yes rfl c2 (AW.seq (AW.region ?_))
   refine s_assign (d := (sc (.pointer none))) rfl (s_assign (d := (si 1)) rfl (AWops.nil (AW.ret ?_)))
   cases h
  ·refine AW.cond_no rfl c2 (AW.skip (AW.seq (AW.region ?_)))
   refine s_move (d := (si a0)) rfl (s_build (ps := [(1, (si a0)), (2, (si (-1)))]) (cs := [(C.p true (.v (.slice none 0 0))), (ci a0), (ci (-1)), (cb false)]) F.z_84 rfl F.so_84 rfl rfl (s_box (cs := [(C.p true (.v (.slice none 0 0))), (ci a0), (ci (-1)), (cb false)]) rfl (List.cons_ne_nil _ _) rfl (s_assign (d := (rf 0 0)) rfl (s_assign (d := (si 0)) rfl (AWops.nil (AW.ret ?_))))))
   obtain rfl := Option.some.inj h
   exact ⟨_, rfl, (Weak.trans (Weak.nilC (t := 0) (j := 0) (sz := 3) rfl rfl rfl) (wg 0 [0, 1] [] rfl (le_upd (le_top _) (DLe.tup (ac (TLe.one (.ref rfl)) (ac (TLe.one .sc) an)))) (ac (.cells (fun _ => rfl) (ac (.own rfl) (ac .sc (ac .sc (ac .sc an))))) (ac (.cells (fun _ => rfl) an) an))))⟩
def bytes_Clone.f (k : Nat) (a0 : List Int) : Option (List Int) := if (decide (([] : List Int).length + a0.length ≤ 140737488355328)) = true then (some a0) else none
theorem bytes_Clone.meets (k : Nat) (a0 : List Int) (r : (List Int)) (h : bytes_Clone.f k a0 = some r) : Meets Try.prog 38 [(ds_ e_u8 a0)] [] (D.one (C.own 0 0 r.length 1)) [(ow_ e_u8 r)] := by
 unfold bytes_Clone.f at h
 refine Meets.of_body (n := 8) Try.func38 rfl rfl (nl rfl) fun x hx => ?_
 replace hx : x.k = 0 := hx
 show AW _ x _ _ ⟨8, fr0 [(ds_ e_u8 a0)], []⟩
 refine AW.seq (AW.region ?_)
 refine s_assign (d := (sc (.slice none 0 0))) rfl (AWops.nil (AW.seq (AW.seq (AW.region ?_))))
 refine s_move (d := (ds_ e_u8 a0)) rfl (s_eqNil (n := _) F.u_22 rfl (fun _ _ h => by cases h) rfl (.inl rfl) (fun b w => ?_))
 cases b with
 | false =>
  refine AWops.nil ?_
  refine AW.cond_no rfl rfl (AW.skip (AW.seq (AW.region ?_)))
  refine s_buildSlice (n := 0) (ps := []) (cs := rowC e_u8 ([] : List Int)) F.u_22 F.sz_5 F.z_5 rfl rfl (by decide) (by decide) rfl rfl (s_move (d := (ds_ e_u8 a0)) rfl ?_)
  obtain ⟨c1, h⟩ := gdH h
  have dc1 := of_decide_eq_true c1
  refine t_append (xs := ([] : List Int)) (ys := a0) (zs := a0) (H' := [none, (ow_ e_u8 a0)]) F.u_22 F.in_5 rfl e_u8_len (.own rfl rfl) .imm F.u_22 (by omega) (by omega) rfl rfl (s_assign (d := (D.one (C.own 1 0 a0.length 1))) rfl (AWops.nil (AW.ret ?_)))
  obtain rfl := Option.some.inj h
  exact ⟨_, rfl, (wg 0 [1] [] rfl (le_upd (le_top _) (o1 (.own rfl))) (ac (.cells (fun _ => rfl) (all2_row _)) an))⟩
 | true =>
  obtain rfl : a0 = [] := by cases a0 with | nil => rfl | cons _ _ => exact absurd (w (by simp)) (by decide)
  replace h : (some ([] : List Int)) = some r := by simpa [bytesI] using h
  skip
  refine AWops.nil ?_
  refine AW.cond_yes rfl rfl (AW.seq (AW.region ?_))
  refine s_assign (d := (sc (.slice none 0 0))) rfl (AWops.nil (AW.ret ?_))
  obtain rfl := Option.some.inj h
  exact ⟨_, rfl, (Weak.trans (Weak.nil (sz := 1) (i := 0) rfl) (wg 0 [0] [] rfl (le_upd (le_top _) (o1 (CLe.ownN rfl (by simp)))) (ac (.cells (fun _ => rfl) an) an)))⟩
def vdisk_named.f (k : Nat) (a0 : ByteArray) : Option Bool := if (a0.toList == (⟨#[]⟩ : ByteArray).toList) = true then (some false) else (some (decide ((a0.size : Int) ≤ 64)))
theorem vdisk_named.meets (k : Nat) (a0 : ByteArray) (r : Bool) (h : vdisk_named.f k a0 = some r) : Meets Try.prog 56 [(st_ a0)] [] (sb r) [] := by
 unfold vdisk_named.f at h
 refine Meets.of_body (n := 10) Try.func56 rfl rfl (nl rfl) fun x hx => ?_
 replace hx : x.k = 0 := hx
 show AW _ x _ _ ⟨10, fr0 [(st_ a0)], []⟩
 refine AW.seq (AW.region ?_)
 refine s_assign (d := (sb false)) rfl (AWops.nil (AW.seq (AW.region ?_)))
 refine s_move (d := (st_ a0)) rfl (s_binS (v := (.bool (!(a0.toList == (⟨#[]⟩ : ByteArray).toList)))) rfl rfl rfl (s_move (d := (sb (!(a0.toList == (⟨#[]⟩ : ByteArray).toList)))) rfl ?_))
 rcases itH h with ⟨c1, h⟩ | ⟨c1, h⟩
 ·iterate 3 refine AWops.guard_no rfl (nl rfl) rfl (by rw [c1] <;> rfl) ?_
  refine s_pick_no (d := (sb false)) rfl (by rw [c1] <;> rfl) rfl (s_assign (d := (sb false)) rfl (AWops.nil (AW.ret ?_)))
  obtain rfl := Option.some.inj h
  exact ⟨_, rfl, (wg 0 [] [] rfl (le_upd (le_top _) (o1 .sc)) an)⟩
 ·refine AWops.guard_yes rfl (nl rfl) rfl (by rw [c1] <;> rfl) ?_
  refine s_move (d := (st_ a0)) rfl ?_
  refine AWops.guard_yes rfl (nl rfl) rfl (by rw [c1] <;> rfl) ?_
  refine s_len (n := a0.size) F.u_9 rfl (.inl ⟨⟨_, _, rfl⟩, rfl⟩) ?_
  refine AWops.guard_yes rfl (nl rfl) rfl (by rw [c1] <;> rfl) ?_
  refine s_binI (v := (.bool (decide ((a0.size : Int) ≤ 64)))) rfl rfl rfl (s_pick_yes (d := (sb (decide ((a0.size : Int) ≤ 64)))) rfl (by rw [c1] <;> rfl) rfl (s_assign (d := (sb (decide ((a0.size : Int) ≤ 64)))) rfl (AWops.nil (AW.ret ?_))))
  obtain rfl := Option.some.inj h
  exact ⟨_, rfl, (wg 0 [] [] rfl (le_upd (le_top _) (o1 .sc)) an)⟩
def vdisk_Disk_none.f (k : Nat) (p0 : vdisk_Disk) : Option Bool := some false
theorem vdisk_Disk_none.meets (k : Nat) (p0 : vdisk_Disk) (r : Bool) (h : vdisk_Disk_none.f k p0 = some r) : Meets Try.prog 34 [(rf 0 0)] [(o_vdisk_Disk_03 false (C.mp 1) np p0), (om_ e_vdisk_file p0.files)] (sb r) [(o_vdisk_Disk_03 false (C.mp 1) np p0), (om_ e_vdisk_file p0.files)] := by
 unfold vdisk_Disk_none.f at h
 refine Meets.of_body (n := 12) Try.func34 rfl rfl (nl rfl) fun x hx => ?_
 replace hx : x.k = 2 := hx
 show AW _ x _ _ ⟨12, fr0 [(rf 0 0)], [(o_vdisk_Disk_03 false (C.mp 1) np p0), (om_ e_vdisk_file p0.files)]⟩
 refine AW.seq (AW.region ?_)
 refine s_assign (d := (sb false)) rfl (AWops.nil (AW.seq (AW.region ?_)))
 refine s_move (d := (rf 0 0)) rfl (s_ptrNil (b := false) F.u_24 rfl (.inl ⟨⟨_, _, rfl⟩, rfl⟩) (.inl rfl) (s_move (d := (sb false)) rfl ?_))
 refine AWops.guard_yes rfl (nl rfl) rfl rfl ?_
 refine s_move (d := (rf 0 0)) rfl ?_
 refine AWops.guard_yes rfl (nl rfl) rfl rfl ?_
 refine s_nilCheck (d := (rf 0 0)) rfl (.inl ⟨_, _, rfl⟩) ?_
 refine AWops.guard_yes rfl (nl rfl) rfl rfl ?_
 refine s_fieldRef F.fo_37_0 (by decide) rfl ?_
 refine AWops.guard_yes rfl (nl rfl) rfl rfl ?_
 refine s_load1 (c' := (C.mp 1)) F.ag_34 rfl rfl ?_
 refine AWops.guard_yes rfl (nl rfl) rfl rfl ?_
 refine s_mapNil (b := false) F.u_34 rfl (.inr ⟨rfl, _, rfl⟩) (.inl ⟨rfl, rfl⟩) (s_pick_no (d := (sb false)) rfl rfl rfl (s_assign (d := (sb false)) rfl (AWops.nil (AW.ret ?_))))
 obtain rfl := Option.some.inj h
 exact ⟨_, rfl, (wg 2 [0, 1] [] rfl (le_upd (le_top _) (o1 .sc)) (ac (qs rfl) (ac .map an)))⟩
theorem vdisk_Disk_none.const {k : Nat} {p0 : vdisk_Disk} {r : Bool} (h : vdisk_Disk_none.f k p0 = some r) : r = false := by
 unfold vdisk_Disk_none.f at h
 exact (Option.some.inj h).symm
def vdisk_Disk_change.f (k : Nat) (p0 : vdisk_Disk) (a1 : Bool) (a2 : ByteArray) (a3 : Bool) (a4 : Int) : Option Int := (vdisk_Disk_none.f k p0).bind fun r1 => if a1 = true then (if p0.dead = true then (some 70) else (if ((mget a2 p0.files).isSome) = true then (if (decide (a4 > 0)) = true then (if (decide (a4 > (IntKind.i64.wrap (p0.room - p0.used)))) = true then (some 71) else (some 0)) else (some 0)) else (if a3 = true then (if (decide (a4 > 0)) = true then (if (decide (a4 > (IntKind.i64.wrap (p0.room - p0.used)))) = true then (some 71) else (some 0)) else (some 0)) else (some 33)))) else (some 1)
theorem vdisk_Disk_change.meets (k : Nat) (p0 : vdisk_Disk) (a1 : Bool) (a2 : ByteArray) (a3 : Bool) (a4 : Int) (r : Int) (h : vdisk_Disk_change.f k p0 a1 a2 a3 a4 = some r) : Meets Try.prog 55 [(rf 0 0), (sb a1), (st_ a2), (sb a3), (si a4)] [(o_vdisk_Disk_03 false (C.mp 1) np p0), (om_ e_vdisk_file p0.files)] (si r) [(o_vdisk_Disk_03 false (C.mp 1) np p0), (om_ e_vdisk_file p0.files)] := by
 unfold vdisk_Disk_change.f at h
 refine Meets.of_body (n := 77) Try.func55 rfl rfl (nl rfl) fun x hx => ?_
 replace hx : x.k = 2 := hx
 show AW _ x _ _ ⟨77, fr0 [(rf 0 0), (sb a1), (st_ a2), (sb a3), (si a4)], [(o_vdisk_Disk_03 false (C.mp 1) np p0), (om_ e_vdisk_file p0.files)]⟩
 refine AW.seq (AW.region ?_)
 refine s_assign (d := (si 0)) rfl (AWops.nil (AW.seq (AW.block (AW.seq (AW.region ?_)))))
 refine s_move (d := (rf 0 0)) rfl ?_
 obtain ⟨r1, er1, h⟩ := bnd h
 have kr1 := vdisk_Disk_none.const er1
 subst kr1
 refine cc [0, 1] [(o_vdisk_Disk_03 false (C.mp 1) np p0), (om_ e_vdisk_file p0.files)] (sb false) F.ca_34 rfl rfl (ac (.one (.ref rfl)) an) (ac (.cells (ac (.mp rfl) (ac .sc (ac .sc (ac .sc (ac .sc an)))))) (ac .map an)) (vdisk_Disk_none.meets _ p0 false er1) (s_assign (d := (sb false)) rfl (AWops.nil ?_))
 refine AW.cond_no rfl rfl (AW.seq (AW.region ?_))
 refine s_move (d := (sb a1)) rfl (s_not rfl (s_assign (d := (sb (!a1))) rfl (AWops.nil ?_)))
 rcases itH h with ⟨c2, h⟩ | ⟨c2, h⟩
 ·refine AW.cond_no rfl (by rw [c2] <;> rfl) (AW.seq (AW.region ?_))
  refine s_move (d := (rf 0 0)) rfl (s_nilCheck (d := (rf 0 0)) rfl (.inl ⟨_, _, rfl⟩) (s_fieldRef F.fo_37_4 (by decide) rfl (s_load1 (c' := (cb p0.dead)) F.ag_4 rfl rfl (s_assign (d := (sb p0.dead)) rfl (AWops.nil ?_)))))
  rcases itH h with ⟨c3, h⟩ | ⟨c3, h⟩
  ·refine AW.cond_yes rfl c3 (AW.seq (AW.region ?_))
   refine s_assign (d := (si 70)) rfl (AWops.nil (AW.ret ?_))
   obtain rfl := Option.some.inj h
   exact ⟨_, rfl, (wg 2 [0, 1] [] rfl (le_upd (le_top _) (o1 .sc)) (ac (qs rfl) (ac .map an)))⟩
  ·refine AW.cond_no rfl c3 (AW.skip (AW.seq (AW.seq (AW.region ?_))))
   refine s_move (d := (rf 0 0)) rfl (s_nilCheck (d := (rf 0 0)) rfl (.inl ⟨_, _, rfl⟩) (s_fieldRef F.fo_37_0 (by decide) rfl (s_load1 (c' := (C.mp 1)) F.ag_34 rfl rfl (s_move (d := (st_ a2)) rfl (t_lookupOk (b := true) F.u_34 F.u_9 F.z_79 (z := ((⟨([] : List Int), 0⟩ : vdisk_file) : vdisk_file)) (zs := [(.slice none 0 0), (.int .i64 0)]) rfl (fun h => by cases h) (ac ZRel.n (ac (ZRel.v _ rfl) an)) rfl rfl rfl rfl ?_)))))
   refine s_move (d := (D.tup [(D.agg (c_vdisk_file (lk_vdisk_file a2 p0.files))), (sb ((mget a2 p0.files).isSome))])) rfl (s_extract (d := (D.agg (c_vdisk_file (lk_vdisk_file a2 p0.files)))) rfl rfl (s_extract (d := (sb ((mget a2 p0.files).isSome))) rfl rfl (s_alloc (cs := [(C.p true (.v (.slice none 0 0))), (ci 0)]) F.z_79 rfl rfl (s_store (cs' := (c_vdisk_file (lk_vdisk_file a2 p0.files))) rfl rfl rfl (List.cons_ne_nil _ _) rfl F.sz_79 (nl rfl) rfl (s_assign (d := (sb ((mget a2 p0.files).isSome))) rfl (AWops.nil (AW.seq (AW.region ?_))))))))
   refine s_move (d := (sb ((mget a2 p0.files).isSome))) rfl (s_not rfl (s_move (d := (sb (!((mget a2 p0.files).isSome)))) rfl ?_))
   rcases itH h with ⟨c4, h⟩ | ⟨c4, h⟩
   ·refine AWops.guard_no rfl (nl rfl) rfl (by rw [c4] <;> rfl) ?_
    refine AWops.guard_no rfl (nl rfl) rfl (by rw [c4] <;> rfl) ?_
    refine s_pick_no (d := (sb false)) rfl (by rw [c4] <;> rfl) rfl (AWops.nil ?_)
    refine AW.cond_no rfl rfl (AW.skip (AW.seq (AW.seq ?_)))
    refine AW.weak (st' := ⟨77, (upd 77 (upd 77 topF 0 (rf 0 0)) 4 (si a4)), [(o_vdisk_Disk_03 false (C.mp 1) np p0), (om_ e_vdisk_file p0.files)]⟩) (wg 2 [0, 1] [] hx (le_upd (le_upd (le_top _) (o1 (.ref rfl))) (o1 .sc)) (ac (qs rfl) (ac .map an))) ?_
    rcases itH h with ⟨c5, h⟩ | ⟨c5, h⟩
    ·refine AW.draw (n := 77) (L := 2) [(ft 0 39 (si a4) [(4, (si a4))]), (ft 1 40 (sb (decide (a4 > 0))) [(39, (si a4))]), (ft 2 41 (sb (decide (a4 > 0))) [(40, (sb (decide (a4 > 0))))]), (ft 3 42 (si a4) [(4, (si a4)), (41, (sb (decide (a4 > 0))))]), (ft 4 43 (rf 0 0) [(0, (rf 0 0)), (41, (sb (decide (a4 > 0))))]), (ft 5 44 (rf 0 0) [(41, (sb (decide (a4 > 0)))), (43, (rf 0 0))]), (ft 6 45 (rf 0 1) [(41, (sb (decide (a4 > 0)))), (44, (rf 0 0))]), (7, ⟨some 46, (si p0.room), [(41, (sb (decide (a4 > 0)))), (45, (rf 0 1))], [(0, (o_vdisk_Disk_03 false (C.mp 1) np p0))], [], none⟩), (ft 8 47 (rf 0 0) [(0, (rf 0 0)), (41, (sb (decide (a4 > 0))))]), (ft 9 48 (rf 0 0) [(41, (sb (decide (a4 > 0)))), (47, (rf 0 0))]), (ft 10 49 (rf 0 2) [(41, (sb (decide (a4 > 0)))), (48, (rf 0 0))]), (11, ⟨some 50, (si p0.used), [(41, (sb (decide (a4 > 0)))), (49, (rf 0 2))], [(0, (o_vdisk_Disk_03 false (C.mp 1) np p0))], [], none⟩), (ft 12 51 (si (IntKind.i64.wrap (p0.room - p0.used))) [(41, (sb (decide (a4 > 0)))), (46, (si p0.room)), (50, (si p0.used))]), (ft 13 52 (sb (decide (a4 > (IntKind.i64.wrap (p0.room - p0.used))))) [(41, (sb (decide (a4 > 0)))), (42, (si a4)), (51, (si (IntKind.i64.wrap (p0.room - p0.used))))]), (ft 14 53 (sb (decide (a4 > (IntKind.i64.wrap (p0.room - p0.used))))) [(41, (sb (decide (a4 > 0)))), (52, (sb (decide (a4 > (IntKind.i64.wrap (p0.room - p0.used))))))])] [[], [0], [0, 1], [0, 1, 2], [0, 1, 2], [0, 1, 2, 4], [0, 1, 2, 4, 5], [0, 1, 2, 4, 5, 6], [0, 1, 2], [0, 1, 2, 8], [0, 1, 2, 8, 9], [0, 1, 2, 8, 9, 10], [0, 1, 2, 4, 5, 6, 7, 8, 9, 10, 11], (.range 13), (.range 14)] (nl rfl) [0, 1, 2, 3, 3, 4, 5, 6, 3, 4, 5, 6, 7, 8, 9] rfl (TK := []) rfl AllK.nil' (by repeat (first | refine fC ⟨?_, ?_⟩ ?_ | refine sC rfl ?_ | refine hC rfl ?_ | trivial)) ?_ ?_
     ·refine y8 ?_ ?_ ?_ ?_ ?_ ?_ ?_ ?_ (y4 ?_ ?_ ?_ ?_ (y2 ?_ ?_ (pC ?_ yN)))
      ·intro K _ f w u k
       show Wp K ⟨77, (upd 77 f 4 (si a4)), _⟩
       refine s_move (d := (si a4)) rfl k
      ·intro K _ f w u k
       show Wp K ⟨77, (upd 77 f 39 (si a4)), _⟩
       refine s_binI (v := (.bool (decide (a4 > 0)))) rfl rfl rfl k
      ·intro K _ f w u k
       show Wp K ⟨77, (upd 77 f 40 (sb (decide (a4 > 0)))), _⟩
       refine s_move (d := (sb (decide (a4 > 0)))) rfl k
      ·intro K _ f w u k
       show Wp K ⟨77, (upd 77 (upd 77 f 41 (sb (decide (a4 > 0)))) 4 (si a4)), _⟩
       refine AWops.guard_yes rfl (nl rfl) rfl c5 ?_
       refine s_move (d := (si a4)) rfl k
      ·intro K _ f w u k
       show Wp K ⟨77, (upd 77 (upd 77 f 41 (sb (decide (a4 > 0)))) 0 (rf 0 0)), _⟩
       refine AWops.guard_yes rfl (nl rfl) rfl c5 ?_
       refine s_move (d := (rf 0 0)) rfl k
      ·intro K _ f w u k
       show Wp K ⟨77, (upd 77 (upd 77 f 43 (rf 0 0)) 41 (sb (decide (a4 > 0)))), [_, _]⟩
       refine AWops.guard_yes rfl (nl rfl) rfl c5 ?_
       refine s_nilCheck (d := (rf 0 0)) rfl (.inl ⟨_, _, rfl⟩) k
      ·intro K _ f w u k
       show Wp K ⟨77, (upd 77 (upd 77 f 44 (rf 0 0)) 41 (sb (decide (a4 > 0)))), [_, _]⟩
       refine AWops.guard_yes rfl (nl rfl) rfl c5 ?_
       refine s_fieldRef F.fo_37_1 (by decide) rfl k
      ·intro K _ f w u k
       show Wp K ⟨77, (upd 77 (upd 77 f 45 (rf 0 1)) 41 (sb (decide (a4 > 0)))), [(o_vdisk_Disk_03 false (C.mp 1) np p0), _]⟩
       refine AWops.guard_yes rfl (nl rfl) rfl c5 ?_
       refine s_load1 (c' := (ci p0.room)) F.ag_3 rfl rfl k
      ·intro K _ f w u k
       show Wp K ⟨77, (upd 77 (upd 77 f 41 (sb (decide (a4 > 0)))) 0 (rf 0 0)), _⟩
       refine AWops.guard_yes rfl (nl rfl) rfl c5 ?_
       refine s_move (d := (rf 0 0)) rfl k
      ·intro K _ f w u k
       show Wp K ⟨77, (upd 77 (upd 77 f 47 (rf 0 0)) 41 (sb (decide (a4 > 0)))), [_, _]⟩
       refine AWops.guard_yes rfl (nl rfl) rfl c5 ?_
       refine s_nilCheck (d := (rf 0 0)) rfl (.inl ⟨_, _, rfl⟩) k
      ·intro K _ f w u k
       show Wp K ⟨77, (upd 77 (upd 77 f 48 (rf 0 0)) 41 (sb (decide (a4 > 0)))), [_, _]⟩
       refine AWops.guard_yes rfl (nl rfl) rfl c5 ?_
       refine s_fieldRef F.fo_37_2 (by decide) rfl k
      ·intro K _ f w u k
       show Wp K ⟨77, (upd 77 (upd 77 f 49 (rf 0 2)) 41 (sb (decide (a4 > 0)))), [(o_vdisk_Disk_03 false (C.mp 1) np p0), _]⟩
       refine AWops.guard_yes rfl (nl rfl) rfl c5 ?_
       refine s_load1 (c' := (ci p0.used)) F.ag_3 rfl rfl k
      ·intro K _ f w u k
       show Wp K ⟨77, (upd 77 (upd 77 (upd 77 f 50 (si p0.used)) 46 (si p0.room)) 41 (sb (decide (a4 > 0)))), _⟩
       refine AWops.guard_yes rfl (nl rfl) rfl c5 ?_
       refine s_binI (v := (.int .i64 (IntKind.i64.wrap (p0.room - p0.used)))) rfl rfl rfl k
      ·intro K _ f w u k
       show Wp K ⟨77, (upd 77 (upd 77 (upd 77 f 51 (si (IntKind.i64.wrap (p0.room - p0.used)))) 42 (si a4)) 41 (sb (decide (a4 > 0)))), _⟩
       refine AWops.guard_yes rfl (nl rfl) rfl c5 ?_
       refine s_binI (v := (.bool (decide (a4 > (IntKind.i64.wrap (p0.room - p0.used)))))) rfl rfl rfl k
      ·intro K _ f w u k
       show Wp K ⟨77, (upd 77 (upd 77 f 52 (sb (decide (a4 > (IntKind.i64.wrap (p0.room - p0.used)))))) 41 (sb (decide (a4 > 0)))), _⟩
       refine s_pick_yes (d := (sb (decide (a4 > (IntKind.i64.wrap (p0.room - p0.used)))))) rfl c5 rfl k
     ·refine AWops.weak (st' := ⟨77, (upd 77 (upd 77 topF 0 (rf 0 0)) 53 (sb (decide (a4 > (IntKind.i64.wrap (p0.room - p0.used)))))), [(o_vdisk_Disk_03 false (C.mp 1) np p0), (om_ e_vdisk_file p0.files)]⟩) (wg 2 [0, 1] [] hx (le_upd (le_upd (le_top _) (o1 (.ref rfl))) (o1 .sc)) (ac (qs rfl) (ac .map an))) (AWops.nil ?_)
      rcases itH h with ⟨c6, h⟩ | ⟨c6, h⟩
      ·refine AW.cond_yes rfl c6 (AW.seq (AW.region ?_))
       refine s_assign (d := (si 71)) rfl (AWops.nil (AW.ret ?_))
       obtain rfl := Option.some.inj h
       exact ⟨_, rfl, (wg 2 [0, 1] [] rfl (le_upd (le_top _) (o1 .sc)) (ac (qs rfl) (ac .map an)))⟩
      ·refine AW.cond_no rfl c6 (AW.skip (AW.seq (AW.seq (AW.region ?_))))
       refine s_move (d := (rf 0 0)) rfl (s_nilCheck (d := (rf 0 0)) rfl (.inl ⟨_, _, rfl⟩) (s_fieldRef F.fo_37_3 (by decide) rfl (s_load1 (c' := np) F.ag_35 rfl rfl (s_ptrNil (b := true) F.u_35 rfl (.inr ⟨⟨_, rfl⟩, rfl⟩) (.inr rfl) (AWops.nil ?_)))))
       refine AW.cond_no rfl rfl (AW.skip (AW.seq (AW.region ?_)))
       refine s_assign (d := (si 0)) rfl (AWops.nil (AW.ret ?_))
       obtain rfl := Option.some.inj h
       exact ⟨_, rfl, (wg 2 [0, 1] [] rfl (le_upd (le_top _) (o1 .sc)) (ac (qs rfl) (ac .map an)))⟩
    ·refine AW.draw (n := 77) (L := 2) [(ft 0 39 (si a4) [(4, (si a4))]), (ft 1 40 (sb (decide (a4 > 0))) [(39, (si a4))]), (ft 2 41 (sb (decide (a4 > 0))) [(40, (sb (decide (a4 > 0))))]), (ft 3 42 (D.tup []) [(4, (si a4)), (41, (sb (decide (a4 > 0))))]), (ft 4 43 (D.tup []) [(41, (sb (decide (a4 > 0))))]), (ft 5 44 (D.tup []) [(41, (sb (decide (a4 > 0))))]), (ft 6 45 (D.tup []) [(41, (sb (decide (a4 > 0))))]), (ft 7 46 (D.tup []) [(41, (sb (decide (a4 > 0))))]), (ft 8 47 (D.tup []) [(41, (sb (decide (a4 > 0))))]), (ft 9 48 (D.tup []) [(41, (sb (decide (a4 > 0))))]), (ft 10 49 (D.tup []) [(41, (sb (decide (a4 > 0))))]), (ft 11 50 (D.tup []) [(41, (sb (decide (a4 > 0))))]), (ft 12 51 (D.tup []) [(41, (sb (decide (a4 > 0))))]), (ft 13 52 (D.tup []) [(41, (sb (decide (a4 > 0))))]), (ft 14 53 (sb false) [(41, (sb (decide (a4 > 0))))])] [[], [0], [0, 1], [0, 1, 2], [0, 1, 2], [0, 1, 2, 4], [0, 1, 2, 4, 5], [0, 1, 2, 4, 5, 6], [0, 1, 2], [0, 1, 2, 8], [0, 1, 2, 8, 9], [0, 1, 2, 8, 9, 10], [0, 1, 2, 4, 5, 6, 7, 8, 9, 10, 11], (.range 13), (.range 14)] (nl rfl) [0, 1, 2, 3, 3, 4, 5, 6, 3, 4, 5, 6, 7, 8, 9] rfl (TK := []) rfl AllK.nil' (by repeat (first | refine fC ⟨?_, ?_⟩ ?_ | refine sC rfl ?_ | refine hC rfl ?_ | trivial)) ?_ ?_
     ·refine y8 ?_ ?_ ?_ ?_ ?_ ?_ ?_ ?_ (y4 ?_ ?_ ?_ ?_ (y2 ?_ ?_ (pC ?_ yN)))
      ·intro K _ f w u k
       show Wp K ⟨77, (upd 77 f 4 (si a4)), _⟩
       refine s_move (d := (si a4)) rfl k
      ·intro K _ f w u k
       show Wp K ⟨77, (upd 77 f 39 (si a4)), _⟩
       refine s_binI (v := (.bool (decide (a4 > 0)))) rfl rfl rfl k
      ·intro K _ f w u k
       show Wp K ⟨77, (upd 77 f 40 (sb (decide (a4 > 0)))), _⟩
       refine s_move (d := (sb (decide (a4 > 0)))) rfl k
      ·intro K _ f w u k
       show Wp K ⟨77, (upd 77 (upd 77 f 41 (sb (decide (a4 > 0)))) 4 (si a4)), _⟩
       refine AWops.guard_no rfl (nl rfl) rfl c5 k
      ·intro K _ f w u k
       show Wp K ⟨77, (upd 77 f 41 (sb (decide (a4 > 0)))), _⟩
       refine AWops.guard_no rfl (nl rfl) rfl c5 k
      ·intro K _ f w u k
       show Wp K ⟨77, (upd 77 f 41 (sb (decide (a4 > 0)))), _⟩
       refine AWops.guard_no rfl (nl rfl) rfl c5 k
      ·intro K _ f w u k
       show Wp K ⟨77, (upd 77 f 41 (sb (decide (a4 > 0)))), _⟩
       refine AWops.guard_no rfl (nl rfl) rfl c5 k
      ·intro K _ f w u k
       show Wp K ⟨77, (upd 77 f 41 (sb (decide (a4 > 0)))), _⟩
       refine AWops.guard_no rfl (nl rfl) rfl c5 k
      ·intro K _ f w u k
       show Wp K ⟨77, (upd 77 f 41 (sb (decide (a4 > 0)))), _⟩
       refine AWops.guard_no rfl (nl rfl) rfl c5 k
      ·intro K _ f w u k
       show Wp K ⟨77, (upd 77 f 41 (sb (decide (a4 > 0)))), _⟩
       refine AWops.guard_no rfl (nl rfl) rfl c5 k
      ·intro K _ f w u k
       show Wp K ⟨77, (upd 77 f 41 (sb (decide (a4 > 0)))), _⟩
       refine AWops.guard_no rfl (nl rfl) rfl c5 k
      ·intro K _ f w u k
       show Wp K ⟨77, (upd 77 f 41 (sb (decide (a4 > 0)))), _⟩
       refine AWops.guard_no rfl (nl rfl) rfl c5 k
      ·intro K _ f w u k
       show Wp K ⟨77, (upd 77 f 41 (sb (decide (a4 > 0)))), _⟩
       refine AWops.guard_no rfl (nl rfl) rfl c5 k
      ·intro K _ f w u k
       show Wp K ⟨77, (upd 77 f 41 (sb (decide (a4 > 0)))), _⟩
       refine AWops.guard_no rfl (nl rfl) rfl c5 k
      ·intro K _ f w u k
       show Wp K ⟨77, (upd 77 f 41 (sb (decide (a4 > 0)))), _⟩
       refine s_pick_no (d := (sb false)) rfl c5 rfl k
     ·refine AWops.weak (st' := ⟨77, (upd 77 (upd 77 topF 0 (rf 0 0)) 53 (sb false)), [(o_vdisk_Disk_03 false (C.mp 1) np p0), (om_ e_vdisk_file p0.files)]⟩) (wg 2 [0, 1] [] hx (le_upd (le_upd (le_top _) (o1 (.ref rfl))) (o1 .sc)) (ac (qs rfl) (ac .map an))) (AWops.nil ?_)
      refine AW.cond_no rfl rfl (AW.skip (AW.seq (AW.seq (AW.region ?_))))
      refine s_move (d := (rf 0 0)) rfl (s_nilCheck (d := (rf 0 0)) rfl (.inl ⟨_, _, rfl⟩) (s_fieldRef F.fo_37_3 (by decide) rfl (s_load1 (c' := np) F.ag_35 rfl rfl (s_ptrNil (b := true) F.u_35 rfl (.inr ⟨⟨_, rfl⟩, rfl⟩) (.inr rfl) (AWops.nil ?_)))))
      refine AW.cond_no rfl rfl (AW.skip (AW.seq (AW.region ?_)))
      refine s_assign (d := (si 0)) rfl (AWops.nil (AW.ret ?_))
      obtain rfl := Option.some.inj h
      exact ⟨_, rfl, (wg 2 [0, 1] [] rfl (le_upd (le_top _) (o1 .sc)) (ac (qs rfl) (ac .map an)))⟩
   ·refine AWops.guard_yes rfl (nl rfl) rfl (by rw [c4] <;> rfl) ?_
    refine s_move (d := (sb a3)) rfl ?_
    refine AWops.guard_yes rfl (nl rfl) rfl (by rw [c4] <;> rfl) ?_
    refine s_not rfl (s_pick_yes (d := (sb (!a3))) rfl (by rw [c4] <;> rfl) rfl (AWops.nil ?_))
    rcases itH h with ⟨c7, h⟩ | ⟨c7, h⟩
    ·refine AW.cond_no rfl (by rw [c7] <;> rfl) (AW.skip (AW.seq (AW.seq ?_)))
     refine AW.weak (st' := ⟨77, (upd 77 (upd 77 topF 0 (rf 0 0)) 4 (si a4)), [(o_vdisk_Disk_03 false (C.mp 1) np p0), (om_ e_vdisk_file p0.files)]⟩) (wg 2 [0, 1] [] hx (le_upd (le_upd (le_top _) (o1 (.ref rfl))) (o1 .sc)) (ac (qs rfl) (ac .map an))) ?_
     rcases itH h with ⟨c8, h⟩ | ⟨c8, h⟩
     ·refine AW.draw (n := 77) (L := 2) [(ft 0 39 (si a4) [(4, (si a4))]), (ft 1 40 (sb (decide (a4 > 0))) [(39, (si a4))]), (ft 2 41 (sb (decide (a4 > 0))) [(40, (sb (decide (a4 > 0))))]), (ft 3 42 (si a4) [(4, (si a4)), (41, (sb (decide (a4 > 0))))]), (ft 4 43 (rf 0 0) [(0, (rf 0 0)), (41, (sb (decide (a4 > 0))))]), (ft 5 44 (rf 0 0) [(41, (sb (decide (a4 > 0)))), (43, (rf 0 0))]), (ft 6 45 (rf 0 1) [(41, (sb (decide (a4 > 0)))), (44, (rf 0 0))]), (7, ⟨some 46, (si p0.room), [(41, (sb (decide (a4 > 0)))), (45, (rf 0 1))], [(0, (o_vdisk_Disk_03 false (C.mp 1) np p0))], [], none⟩), (ft 8 47 (rf 0 0) [(0, (rf 0 0)), (41, (sb (decide (a4 > 0))))]), (ft 9 48 (rf 0 0) [(41, (sb (decide (a4 > 0)))), (47, (rf 0 0))]), (ft 10 49 (rf 0 2) [(41, (sb (decide (a4 > 0)))), (48, (rf 0 0))]), (11, ⟨some 50, (si p0.used), [(41, (sb (decide (a4 > 0)))), (49, (rf 0 2))], [(0, (o_vdisk_Disk_03 false (C.mp 1) np p0))], [], none⟩), (ft 12 51 (si (IntKind.i64.wrap (p0.room - p0.used))) [(41, (sb (decide (a4 > 0)))), (46, (si p0.room)), (50, (si p0.used))]), (ft 13 52 (sb (decide (a4 > (IntKind.i64.wrap (p0.room - p0.used))))) [(41, (sb (decide (a4 > 0)))), (42, (si a4)), (51, (si (IntKind.i64.wrap (p0.room - p0.used))))]), (ft 14 53 (sb (decide (a4 > (IntKind.i64.wrap (p0.room - p0.used))))) [(41, (sb (decide (a4 > 0)))), (52, (sb (decide (a4 > (IntKind.i64.wrap (p0.room - p0.used))))))])] [[], [0], [0, 1], [0, 1, 2], [0, 1, 2], [0, 1, 2, 4], [0, 1, 2, 4, 5], [0, 1, 2, 4, 5, 6], [0, 1, 2], [0, 1, 2, 8], [0, 1, 2, 8, 9], [0, 1, 2, 8, 9, 10], [0, 1, 2, 4, 5, 6, 7, 8, 9, 10, 11], (.range 13), (.range 14)] (nl rfl) [0, 1, 2, 3, 3, 4, 5, 6, 3, 4, 5, 6, 7, 8, 9] rfl (TK := []) rfl AllK.nil' (by repeat (first | refine fC ⟨?_, ?_⟩ ?_ | refine sC rfl ?_ | refine hC rfl ?_ | trivial)) ?_ ?_
      ·refine y8 ?_ ?_ ?_ ?_ ?_ ?_ ?_ ?_ (y4 ?_ ?_ ?_ ?_ (y2 ?_ ?_ (pC ?_ yN)))
       ·intro K _ f w u k
        show Wp K ⟨77, (upd 77 f 4 (si a4)), _⟩
        refine s_move (d := (si a4)) rfl k
       ·intro K _ f w u k
        show Wp K ⟨77, (upd 77 f 39 (si a4)), _⟩
        refine s_binI (v := (.bool (decide (a4 > 0)))) rfl rfl rfl k
       ·intro K _ f w u k
        show Wp K ⟨77, (upd 77 f 40 (sb (decide (a4 > 0)))), _⟩
        refine s_move (d := (sb (decide (a4 > 0)))) rfl k
       ·intro K _ f w u k
        show Wp K ⟨77, (upd 77 (upd 77 f 41 (sb (decide (a4 > 0)))) 4 (si a4)), _⟩
        refine AWops.guard_yes rfl (nl rfl) rfl c8 ?_
        refine s_move (d := (si a4)) rfl k
       ·intro K _ f w u k
        show Wp K ⟨77, (upd 77 (upd 77 f 41 (sb (decide (a4 > 0)))) 0 (rf 0 0)), _⟩
        refine AWops.guard_yes rfl (nl rfl) rfl c8 ?_
        refine s_move (d := (rf 0 0)) rfl k
       ·intro K _ f w u k
        show Wp K ⟨77, (upd 77 (upd 77 f 43 (rf 0 0)) 41 (sb (decide (a4 > 0)))), [_, _]⟩
        refine AWops.guard_yes rfl (nl rfl) rfl c8 ?_
        refine s_nilCheck (d := (rf 0 0)) rfl (.inl ⟨_, _, rfl⟩) k
       ·intro K _ f w u k
        show Wp K ⟨77, (upd 77 (upd 77 f 44 (rf 0 0)) 41 (sb (decide (a4 > 0)))), [_, _]⟩
        refine AWops.guard_yes rfl (nl rfl) rfl c8 ?_
        refine s_fieldRef F.fo_37_1 (by decide) rfl k
       ·intro K _ f w u k
        show Wp K ⟨77, (upd 77 (upd 77 f 45 (rf 0 1)) 41 (sb (decide (a4 > 0)))), [(o_vdisk_Disk_03 false (C.mp 1) np p0), _]⟩
        refine AWops.guard_yes rfl (nl rfl) rfl c8 ?_
        refine s_load1 (c' := (ci p0.room)) F.ag_3 rfl rfl k
       ·intro K _ f w u k
        show Wp K ⟨77, (upd 77 (upd 77 f 41 (sb (decide (a4 > 0)))) 0 (rf 0 0)), _⟩
        refine AWops.guard_yes rfl (nl rfl) rfl c8 ?_
        refine s_move (d := (rf 0 0)) rfl k
       ·intro K _ f w u k
        show Wp K ⟨77, (upd 77 (upd 77 f 47 (rf 0 0)) 41 (sb (decide (a4 > 0)))), [_, _]⟩
        refine AWops.guard_yes rfl (nl rfl) rfl c8 ?_
        refine s_nilCheck (d := (rf 0 0)) rfl (.inl ⟨_, _, rfl⟩) k
       ·intro K _ f w u k
        show Wp K ⟨77, (upd 77 (upd 77 f 48 (rf 0 0)) 41 (sb (decide (a4 > 0)))), [_, _]⟩
        refine AWops.guard_yes rfl (nl rfl) rfl c8 ?_
        refine s_fieldRef F.fo_37_2 (by decide) rfl k
       ·intro K _ f w u k
        show Wp K ⟨77, (upd 77 (upd 77 f 49 (rf 0 2)) 41 (sb (decide (a4 > 0)))), [(o_vdisk_Disk_03 false (C.mp 1) np p0), _]⟩
        refine AWops.guard_yes rfl (nl rfl) rfl c8 ?_
        refine s_load1 (c' := (ci p0.used)) F.ag_3 rfl rfl k
       ·intro K _ f w u k
        show Wp K ⟨77, (upd 77 (upd 77 (upd 77 f 50 (si p0.used)) 46 (si p0.room)) 41 (sb (decide (a4 > 0)))), _⟩
        refine AWops.guard_yes rfl (nl rfl) rfl c8 ?_
        refine s_binI (v := (.int .i64 (IntKind.i64.wrap (p0.room - p0.used)))) rfl rfl rfl k
       ·intro K _ f w u k
        show Wp K ⟨77, (upd 77 (upd 77 (upd 77 f 51 (si (IntKind.i64.wrap (p0.room - p0.used)))) 42 (si a4)) 41 (sb (decide (a4 > 0)))), _⟩
        refine AWops.guard_yes rfl (nl rfl) rfl c8 ?_
        refine s_binI (v := (.bool (decide (a4 > (IntKind.i64.wrap (p0.room - p0.used)))))) rfl rfl rfl k
       ·intro K _ f w u k
        show Wp K ⟨77, (upd 77 (upd 77 f 52 (sb (decide (a4 > (IntKind.i64.wrap (p0.room - p0.used)))))) 41 (sb (decide (a4 > 0)))), _⟩
        refine s_pick_yes (d := (sb (decide (a4 > (IntKind.i64.wrap (p0.room - p0.used)))))) rfl c8 rfl k
      ·refine AWops.weak (st' := ⟨77, (upd 77 (upd 77 topF 0 (rf 0 0)) 53 (sb (decide (a4 > (IntKind.i64.wrap (p0.room - p0.used)))))), [(o_vdisk_Disk_03 false (C.mp 1) np p0), (om_ e_vdisk_file p0.files)]⟩) (wg 2 [0, 1] [] hx (le_upd (le_upd (le_top _) (o1 (.ref rfl))) (o1 .sc)) (ac (qs rfl) (ac .map an))) (AWops.nil ?_)
       rcases itH h with ⟨c9, h⟩ | ⟨c9, h⟩
       ·refine AW.cond_yes rfl c9 (AW.seq (AW.region ?_))
        refine s_assign (d := (si 71)) rfl (AWops.nil (AW.ret ?_))
        obtain rfl := Option.some.inj h
        exact ⟨_, rfl, (wg 2 [0, 1] [] rfl (le_upd (le_top _) (o1 .sc)) (ac (qs rfl) (ac .map an)))⟩
       ·refine AW.cond_no rfl c9 (AW.skip (AW.seq (AW.seq (AW.region ?_))))
        refine s_move (d := (rf 0 0)) rfl (s_nilCheck (d := (rf 0 0)) rfl (.inl ⟨_, _, rfl⟩) (s_fieldRef F.fo_37_3 (by decide) rfl (s_load1 (c' := np) F.ag_35 rfl rfl (s_ptrNil (b := true) F.u_35 rfl (.inr ⟨⟨_, rfl⟩, rfl⟩) (.inr rfl) (AWops.nil ?_)))))
        refine AW.cond_no rfl rfl (AW.skip (AW.seq (AW.region ?_)))
        refine s_assign (d := (si 0)) rfl (AWops.nil (AW.ret ?_))
        obtain rfl := Option.some.inj h
        exact ⟨_, rfl, (wg 2 [0, 1] [] rfl (le_upd (le_top _) (o1 .sc)) (ac (qs rfl) (ac .map an)))⟩
     ·refine AW.draw (n := 77) (L := 2) [(ft 0 39 (si a4) [(4, (si a4))]), (ft 1 40 (sb (decide (a4 > 0))) [(39, (si a4))]), (ft 2 41 (sb (decide (a4 > 0))) [(40, (sb (decide (a4 > 0))))]), (ft 3 42 (D.tup []) [(4, (si a4)), (41, (sb (decide (a4 > 0))))]), (ft 4 43 (D.tup []) [(41, (sb (decide (a4 > 0))))]), (ft 5 44 (D.tup []) [(41, (sb (decide (a4 > 0))))]), (ft 6 45 (D.tup []) [(41, (sb (decide (a4 > 0))))]), (ft 7 46 (D.tup []) [(41, (sb (decide (a4 > 0))))]), (ft 8 47 (D.tup []) [(41, (sb (decide (a4 > 0))))]), (ft 9 48 (D.tup []) [(41, (sb (decide (a4 > 0))))]), (ft 10 49 (D.tup []) [(41, (sb (decide (a4 > 0))))]), (ft 11 50 (D.tup []) [(41, (sb (decide (a4 > 0))))]), (ft 12 51 (D.tup []) [(41, (sb (decide (a4 > 0))))]), (ft 13 52 (D.tup []) [(41, (sb (decide (a4 > 0))))]), (ft 14 53 (sb false) [(41, (sb (decide (a4 > 0))))])] [[], [0], [0, 1], [0, 1, 2], [0, 1, 2], [0, 1, 2, 4], [0, 1, 2, 4, 5], [0, 1, 2, 4, 5, 6], [0, 1, 2], [0, 1, 2, 8], [0, 1, 2, 8, 9], [0, 1, 2, 8, 9, 10], [0, 1, 2, 4, 5, 6, 7, 8, 9, 10, 11], (.range 13), (.range 14)] (nl rfl) [0, 1, 2, 3, 3, 4, 5, 6, 3, 4, 5, 6, 7, 8, 9] rfl (TK := []) rfl AllK.nil' (by repeat (first | refine fC ⟨?_, ?_⟩ ?_ | refine sC rfl ?_ | refine hC rfl ?_ | trivial)) ?_ ?_
      ·refine y8 ?_ ?_ ?_ ?_ ?_ ?_ ?_ ?_ (y4 ?_ ?_ ?_ ?_ (y2 ?_ ?_ (pC ?_ yN)))
       ·intro K _ f w u k
        show Wp K ⟨77, (upd 77 f 4 (si a4)), _⟩
        refine s_move (d := (si a4)) rfl k
       ·intro K _ f w u k
        show Wp K ⟨77, (upd 77 f 39 (si a4)), _⟩
        refine s_binI (v := (.bool (decide (a4 > 0)))) rfl rfl rfl k
       ·intro K _ f w u k
        show Wp K ⟨77, (upd 77 f 40 (sb (decide (a4 > 0)))), _⟩
        refine s_move (d := (sb (decide (a4 > 0)))) rfl k
       ·intro K _ f w u k
        show Wp K ⟨77, (upd 77 (upd 77 f 41 (sb (decide (a4 > 0)))) 4 (si a4)), _⟩
        refine AWops.guard_no rfl (nl rfl) rfl c8 k
       ·intro K _ f w u k
        show Wp K ⟨77, (upd 77 f 41 (sb (decide (a4 > 0)))), _⟩
        refine AWops.guard_no rfl (nl rfl) rfl c8 k
       ·intro K _ f w u k
        show Wp K ⟨77, (upd 77 f 41 (sb (decide (a4 > 0)))), _⟩
        refine AWops.guard_no rfl (nl rfl) rfl c8 k
       ·intro K _ f w u k
        show Wp K ⟨77, (upd 77 f 41 (sb (decide (a4 > 0)))), _⟩
        refine AWops.guard_no rfl (nl rfl) rfl c8 k
       ·intro K _ f w u k
        show Wp K ⟨77, (upd 77 f 41 (sb (decide (a4 > 0)))), _⟩
        refine AWops.guard_no rfl (nl rfl) rfl c8 k
       ·intro K _ f w u k
        show Wp K ⟨77, (upd 77 f 41 (sb (decide (a4 > 0)))), _⟩
        refine AWops.guard_no rfl (nl rfl) rfl c8 k
       ·intro K _ f w u k
        show Wp K ⟨77, (upd 77 f 41 (sb (decide (a4 > 0)))), _⟩
        refine AWops.guard_no rfl (nl rfl) rfl c8 k
       ·intro K _ f w u k
        show Wp K ⟨77, (upd 77 f 41 (sb (decide (a4 > 0)))), _⟩
        refine AWops.guard_no rfl (nl rfl) rfl c8 k
       ·intro K _ f w u k
        show Wp K ⟨77, (upd 77 f 41 (sb (decide (a4 > 0)))), _⟩
        refine AWops.guard_no rfl (nl rfl) rfl c8 k
       ·intro K _ f w u k
        show Wp K ⟨77, (upd 77 f 41 (sb (decide (a4 > 0)))), _⟩
        refine AWops.guard_no rfl (nl rfl) rfl c8 k
       ·intro K _ f w u k
        show Wp K ⟨77, (upd 77 f 41 (sb (decide (a4 > 0)))), _⟩
        refine AWops.guard_no rfl (nl rfl) rfl c8 k
       ·intro K _ f w u k
        show Wp K ⟨77, (upd 77 f 41 (sb (decide (a4 > 0)))), _⟩
        refine s_pick_no (d := (sb false)) rfl c8 rfl k
      ·refine AWops.weak (st' := ⟨77, (upd 77 (upd 77 topF 0 (rf 0 0)) 53 (sb false)), [(o_vdisk_Disk_03 false (C.mp 1) np p0), (om_ e_vdisk_file p0.files)]⟩) (wg 2 [0, 1] [] hx (le_upd (le_upd (le_top _) (o1 (.ref rfl))) (o1 .sc)) (ac (qs rfl) (ac .map an))) (AWops.nil ?_)
       refine AW.cond_no rfl rfl (AW.skip (AW.seq (AW.seq (AW.region ?_))))
       refine s_move (d := (rf 0 0)) rfl (s_nilCheck (d := (rf 0 0)) rfl (.inl ⟨_, _, rfl⟩) (s_fieldRef F.fo_37_3 (by decide) rfl (s_load1 (c' := np) F.ag_35 rfl rfl (s_ptrNil (b := true) F.u_35 rfl (.inr ⟨⟨_, rfl⟩, rfl⟩) (.inr rfl) (AWops.nil ?_)))))
       refine AW.cond_no rfl rfl (AW.skip (AW.seq (AW.region ?_)))
       refine s_assign (d := (si 0)) rfl (AWops.nil (AW.ret ?_))
       obtain rfl := Option.some.inj h
       exact ⟨_, rfl, (wg 2 [0, 1] [] rfl (le_upd (le_top _) (o1 .sc)) (ac (qs rfl) (ac .map an)))⟩
    ·refine AW.cond_yes rfl (by rw [c7] <;> rfl) (AW.seq (AW.region ?_))
     refine s_assign (d := (si 33)) rfl (AWops.nil (AW.ret ?_))
     obtain rfl := Option.some.inj h
     exact ⟨_, rfl, (wg 2 [0, 1] [] rfl (le_upd (le_top _) (o1 .sc)) (ac (qs rfl) (ac .map an)))⟩
 ·refine AW.cond_yes rfl (by rw [c2] <;> rfl) (AW.seq (AW.region ?_))
  refine s_assign (d := (si 1)) rfl (AWops.nil (AW.ret ?_))
  obtain rfl := Option.some.inj h
  exact ⟨_, rfl, (wg 2 [0, 1] [] rfl (le_upd (le_top _) (o1 .sc)) (ac (qs rfl) (ac .map an)))⟩
def slices_Grow_byte_byte_nil0.f (k : Nat) (a1 : Int) : Option (List Int) := if (decide (a1 < 0)) = true then (none) else (if (decide ((IntKind.i64.wrap (a1 - 0)) > 0)) = true then (if (decide (0 < (IntKind.i64.wrap (a1 - 0)) ∧ (IntKind.i64.wrap (a1 - 0)) ≤ 140737488355328)) = true then (some ([] : List Int)) else none) else (some ([] : List Int)))
theorem slices_Grow_byte_byte_nil0.meets (k : Nat) (a1 : Int) (r : (List Int)) (h : slices_Grow_byte_byte_nil0.f k a1 = some r) : Meets Try.prog 78 [(sc (.slice none 0 0)), (si a1)] [] (D.one (C.own 0 0 r.length 1)) [(ow_ e_u8 r)] := by
 unfold slices_Grow_byte_byte_nil0.f at h
 refine Meets.of_body (n := 27) Try.func78 rfl rfl (nl rfl) fun x hx => ?_
 replace hx : x.k = 0 := hx
 show AW _ x _ _ ⟨27, fr0 [(sc (.slice none 0 0)), (si a1)], []⟩
 refine AW.seq (AW.region ?_)
 refine s_assign (d := (sc (.slice none 0 0))) rfl (AWops.nil (AW.seq (AW.seq (AW.region ?_))))
 refine s_move (d := (si a1)) rfl (s_binI (v := (.bool (decide (a1 < 0)))) rfl rfl rfl (AWops.nil ?_))
 rcases itH h with ⟨c2, h⟩ | ⟨c2, h⟩
 ·refine AW.cond_yes rfl c2 (AW.region ?_)
  cases h
 ·refine AW.cond_no rfl c2 (AW.skip (AW.seq (AW.seq (AW.region ?_))))
  refine s_move (d := (si a1)) rfl (s_move (d := (sc (.slice none 0 0))) rfl (s_capNil F.u_22 rfl (s_move (d := (sc (.slice none 0 0))) rfl (s_len (n := 0) F.u_22 rfl (.inr ⟨(fun _ _ h => by cases h), ⟨_, rfl⟩⟩) (s_binI (v := (.int .i64 0)) rfl rfl (by rfl) ?_)))))
  refine s_binI (v := (.int .i64 (IntKind.i64.wrap (a1 - 0)))) rfl rfl rfl (s_assign (d := (si (IntKind.i64.wrap (a1 - 0)))) rfl (AWops.nil (AW.seq (AW.region (s_move (d := (si (IntKind.i64.wrap (a1 - 0)))) rfl (s_binI (v := (.bool (decide ((IntKind.i64.wrap (a1 - 0)) > 0)))) rfl rfl rfl (AWops.nil ?_)))))))
  rcases itH h with ⟨c3, h⟩ | ⟨c3, h⟩
  ·refine AW.cond_yes rfl c3 (AW.region ?_)
   refine s_move (d := (sc (.slice none 0 0))) rfl (s_move (d := (sc (.slice none 0 0))) rfl (s_capNil F.u_22 rfl (s_sliceNil F.u_22 F.sz_5 rfl rfl (s_move (d := (si (IntKind.i64.wrap (a1 - 0)))) rfl ?_))))
   obtain ⟨c4, h⟩ := gdH h
   have dc4 := of_decide_eq_true c4
   refine t_appendMake (f := e_u8) (a0 := (0 : Int)) F.u_22 F.u_3 F.in_5 rfl (by decide) rfl rfl rfl rfl (by omega) (by omega) (by omega) (s_move (d := (sc (.slice none 0 0))) rfl (s_len (n := 0) F.u_22 rfl (.inr ⟨(fun _ _ h => by cases h), ⟨_, rfl⟩⟩) (t_cut0 F.u_22 F.sz_5 rfl rfl rfl rfl (s_assign (d := (D.one (C.own 0 0 (([] : List Int).length) 1))) rfl (AWops.nil (AW.seq (AW.region (s_move (d := (D.one (C.own 0 0 (([] : List Int).length) 1))) rfl ?_))))))))
   refine s_assign (d := (D.one (C.own 0 0 (([] : List Int).length) 1))) rfl (AWops.nil (AW.ret ?_))
   obtain rfl := Option.some.inj h
   exact ⟨_, rfl, (wg 0 [0] [] rfl (le_upd (le_top _) (o1 (.own rfl))) (ac (.cells (fun _ => rfl) an) an))⟩
  ·refine AW.cond_no rfl c3 (AW.skip (AW.seq (AW.region ?_)))
   refine s_move (d := (sc (.slice none 0 0))) rfl (s_assign (d := (sc (.slice none 0 0))) rfl (AWops.nil (AW.ret ?_)))
   obtain rfl := Option.some.inj h
   exact ⟨_, rfl, (Weak.trans (Weak.nil (sz := 1) (i := 0) rfl) (wg 0 [0] [] rfl (le_upd (le_top _) (o1 (CLe.ownN rfl (by simp)))) (ac (.cells (fun _ => rfl) an) an)))⟩
def slices_Concat_byte_byte.f (k : Nat) (p0 : List Int) (p1 : List Int) : Option (List Int) := if (decide ((IntKind.i64.wrap (0 + (p0.length : Int))) < 0)) = true then (none) else (if (decide ((IntKind.i64.wrap ((IntKind.i64.wrap (0 + (p0.length : Int))) + (p1.length : Int))) < 0)) = true then (none) else ((slices_Grow_byte_byte_nil0.f k (IntKind.i64.wrap ((IntKind.i64.wrap (0 + (p0.length : Int))) + (p1.length : Int)))).bind fun r5 => if (decide (r5.length + p0.length ≤ 140737488355328)) = true then (if (decide ((r5 ++ p0).length + p1.length ≤ 140737488355328)) = true then (some ((r5 ++ p0) ++ p1)) else none) else none))
theorem slices_Concat_byte_byte.meets (k : Nat) (p0 : List Int) (p1 : List Int) (r : (List Int)) (h : slices_Concat_byte_byte.f k p0 p1 = some r) : Meets Try.prog 57 [(D.one (C.own 0 0 2 1))] [(some (AObj.cells false [(cl_ e_u8 p0), (C.own 1 0 p1.length 1)])), (or_ e_u8 p1)] (D.one (C.own 2 0 r.length 1)) [(some (AObj.cells false [(cl_ e_u8 p0), (C.own 1 0 p1.length 1)])), (or_ e_u8 p1), (ow_ e_u8 r)] := by
 unfold slices_Concat_byte_byte.f at h
 refine Meets.of_body (n := 36) Try.func57 rfl rfl (nl rfl) fun x hx => ?_
 replace hx : x.k = 2 := hx
 show AW _ x _ _ ⟨36, fr0 [(D.one (C.own 0 0 2 1))], [(some (AObj.cells false [(cl_ e_u8 p0), (C.own 1 0 p1.length 1)])), (or_ e_u8 p1)]⟩
 refine AW.seq (AW.region ?_)
 refine s_assign (d := (sc (.slice none 0 0))) rfl (AWops.nil (AW.seq (AW.region ?_)))
 refine s_assign (d := (si 0)) rfl (AWops.nil (AW.seq (AW.seq (AW.region ?_))))
 refine s_move (d := (D.one (C.own 0 0 2 1))) rfl (s_len (n := 2) F.u_25 rfl (.inr ⟨(fun _ _ h => by cases h), ⟨_, rfl⟩⟩) (s_move (d := (si 0)) rfl (AWops.nil (AW.block ?_))))
 refine AW.unroll 9 ?_
 refine U.step (AW.seq (AW.region ?_))
 refine s_binI (v := (.bool true)) rfl rfl rfl (AWops.nil (AW.seq ?_))
 refine AW.cond_yes rfl rfl (AW.skip (AW.seq (AW.block (AW.seq (AW.region ?_)))))
 refine s_indexOwn (d := (rf 0 0)) F.u_25 F.sz_22 rfl rfl (by decide) (by decide) rfl (s_load1 (c' := (cl_ e_u8 p0)) F.ag_22 rfl rfl (s_assign (d := (ds_ e_u8 p0)) rfl (AWops.nil (AW.seq (AW.region (s_move (d := (si 0)) rfl (s_move (d := (ds_ e_u8 p0)) rfl (s_len (n := p0.length) F.u_22 rfl (.inr ⟨(fun _ _ h => by cases h), ⟨_, rfl⟩⟩) ?_))))))))
 refine s_binI (v := (.int .i64 (IntKind.i64.wrap (0 + (p0.length : Int))))) rfl rfl rfl (s_assign (d := (si (IntKind.i64.wrap (0 + (p0.length : Int))))) rfl (AWops.nil (AW.seq (AW.region (s_move (d := (si (IntKind.i64.wrap (0 + (p0.length : Int))))) rfl (s_binI (v := (.bool (decide ((IntKind.i64.wrap (0 + (p0.length : Int))) < 0)))) rfl rfl rfl (AWops.nil ?_)))))))
 rcases itH h with ⟨c2, h⟩ | ⟨c2, h⟩
 ·refine AW.cond_yes rfl c2 (AW.region ?_)
  cases h
 ·refine AW.cond_no rfl c2 (AW.skip (AW.region ?_))
  refine s_binI (v := (.int .i64 1)) rfl rfl (by rfl) (s_move (d := (si 1)) rfl (AWops.nil ?_))
  refine U.step (AW.seq (AW.region ?_))
  refine s_binI (v := (.bool true)) rfl rfl rfl (AWops.nil (AW.seq ?_))
  refine AW.cond_yes rfl rfl (AW.skip (AW.seq (AW.block (AW.seq (AW.region ?_)))))
  refine s_indexOwn (d := (rf 0 1)) F.u_25 F.sz_22 rfl rfl (by decide) (by decide) rfl (s_load1 (c' := (C.own 1 0 p1.length 1)) F.ag_22 rfl rfl (s_assign (d := (D.one (C.own 1 0 p1.length 1))) rfl (AWops.nil (AW.seq (AW.region (s_move (d := (si (IntKind.i64.wrap (0 + (p0.length : Int))))) rfl (s_move (d := (D.one (C.own 1 0 p1.length 1))) rfl (s_len (n := p1.length) F.u_22 rfl (.inr ⟨(fun _ _ h => by cases h), ⟨_, rfl⟩⟩) ?_))))))))
  refine s_binI (v := (.int .i64 (IntKind.i64.wrap ((IntKind.i64.wrap (0 + (p0.length : Int))) + (p1.length : Int))))) rfl rfl rfl (s_assign (d := (si (IntKind.i64.wrap ((IntKind.i64.wrap (0 + (p0.length : Int))) + (p1.length : Int))))) rfl (AWops.nil (AW.seq (AW.region (s_move (d := (si (IntKind.i64.wrap ((IntKind.i64.wrap (0 + (p0.length : Int))) + (p1.length : Int))))) rfl (s_binI (v := (.bool (decide ((IntKind.i64.wrap ((IntKind.i64.wrap (0 + (p0.length : Int))) + (p1.length : Int))) < 0)))) rfl rfl rfl (AWops.nil ?_)))))))
  rcases itH h with ⟨c4, h⟩ | ⟨c4, h⟩
  ·refine AW.cond_yes rfl c4 (AW.region ?_)
   cases h
  ·refine AW.cond_no rfl c4 (AW.skip (AW.region ?_))
   refine s_binI (v := (.int .i64 2)) rfl rfl (by rfl) (s_move (d := (si 2)) rfl (AWops.nil ?_))
   refine U.step (AW.seq (AW.region ?_))
   refine s_binI (v := (.bool false)) rfl rfl rfl (AWops.nil (AW.seq ?_))
   refine AW.cond_no rfl rfl (AW.exit (AW.seq (AW.region ?_)))
   refine s_move (d := (si (IntKind.i64.wrap ((IntKind.i64.wrap (0 + (p0.length : Int))) + (p1.length : Int))))) rfl ?_
   obtain ⟨r5, er5, h⟩ := bnd h
   refine cc [] [(some (AObj.cells false [(cl_ e_u8 p0), (C.own 1 0 p1.length 1)])), (or_ e_u8 p1), (ow_ e_u8 r5)] (D.one (C.own 2 0 r5.length 1)) F.ca_78 rfl rfl (ac (.one .sc) (ac (.one .sc) an)) an (slices_Grow_byte_byte_nil0.meets _ (IntKind.i64.wrap ((IntKind.i64.wrap (0 + (p0.length : Int))) + (p1.length : Int))) r5 er5) (s_assign (d := (D.one (C.own 2 0 r5.length 1))) rfl (AWops.nil (AW.seq (AW.seq (AW.region (s_move (d := (D.one (C.own 0 0 2 1))) rfl (s_len (n := 2) F.u_25 rfl (.inr ⟨(fun _ _ h => by cases h), ⟨_, rfl⟩⟩) (s_move (d := (si 0)) rfl (AWops.nil (AW.block ?_))))))))))
   refine AW.unroll 9 ?_
   refine U.step (AW.seq (AW.region ?_))
   refine s_binI (v := (.bool true)) rfl rfl rfl (AWops.nil (AW.seq ?_))
   refine AW.cond_yes rfl rfl (AW.skip (AW.seq (AW.block (AW.seq (AW.region ?_)))))
   refine s_indexOwn (d := (rf 0 0)) F.u_25 F.sz_22 rfl rfl (by decide) (by decide) rfl (s_load1 (c' := (cl_ e_u8 p0)) F.ag_22 rfl rfl (s_assign (d := (ds_ e_u8 p0)) rfl (AWops.nil (AW.region (s_move (d := (D.one (C.own 2 0 r5.length 1))) rfl (s_move (d := (ds_ e_u8 p0)) rfl ?_))))))
   obtain ⟨c6, h⟩ := gdH h
   have dc6 := of_decide_eq_true c6
   refine t_append (xs := r5) (ys := p0) (zs := r5 ++ p0) (H' := [(some (AObj.cells false [(cl_ e_u8 p0), (C.own 1 0 p1.length 1)])), (or_ e_u8 p1), none, (some (AObj.cells true (rowC e_u8 (r5 ++ p0))))]) F.u_22 F.in_5 rfl e_u8_len (.own rfl rfl) .imm F.u_22 (by omega) (by omega) rfl rfl (s_assign (d := (D.one (C.own 3 0 ((r5 ++ p0).length) 1))) rfl (AWops.nil (AW.region (s_binI (v := (.int .i64 1)) rfl rfl (by rfl) (s_move (d := (si 1)) rfl (AWops.nil ?_))))))
   refine U.step (AW.seq (AW.region ?_))
   refine s_binI (v := (.bool true)) rfl rfl rfl (AWops.nil (AW.seq ?_))
   refine AW.cond_yes rfl rfl (AW.skip (AW.seq (AW.block (AW.seq (AW.region ?_)))))
   refine s_indexOwn (d := (rf 0 1)) F.u_25 F.sz_22 rfl rfl (by decide) (by decide) rfl (s_load1 (c' := (C.own 1 0 p1.length 1)) F.ag_22 rfl rfl (s_assign (d := (D.one (C.own 1 0 p1.length 1))) rfl (AWops.nil (AW.region (s_move (d := (D.one (C.own 3 0 ((r5 ++ p0).length) 1))) rfl (s_move (d := (D.one (C.own 1 0 p1.length 1))) rfl ?_))))))
   obtain ⟨c7, h⟩ := gdH h
   have dc7 := of_decide_eq_true c7
   refine t_append (xs := r5 ++ p0) (ys := p1) (zs := (r5 ++ p0) ++ p1) (H' := [(some (AObj.cells false [(cl_ e_u8 p0), (C.own 1 0 p1.length 1)])), (or_ e_u8 p1), none, none, (some (AObj.cells true (rowC e_u8 ((r5 ++ p0) ++ p1))))]) F.u_22 F.in_5 rfl e_u8_len (.own rfl rfl) (.own rfl rfl) F.u_22 (by omega) (by omega) rfl rfl (s_assign (d := (D.one (C.own 4 0 (((r5 ++ p0) ++ p1).length) 1))) rfl (AWops.nil (AW.region (s_binI (v := (.int .i64 2)) rfl rfl (by rfl) (s_move (d := (si 2)) rfl (AWops.nil ?_))))))
   refine U.step (AW.seq (AW.region ?_))
   refine s_binI (v := (.bool false)) rfl rfl rfl (AWops.nil (AW.seq ?_))
   refine AW.cond_no rfl rfl (AW.exit (AW.seq (AW.region ?_)))
   refine s_move (d := (D.one (C.own 4 0 (((r5 ++ p0) ++ p1).length) 1))) rfl (s_assign (d := (D.one (C.own 4 0 (((r5 ++ p0) ++ p1).length) 1))) rfl (AWops.nil (AW.ret ?_)))
   obtain rfl := Option.some.inj h
   exact ⟨_, rfl, (wg 2 [0, 1, 4] [] rfl (le_upd (le_top _) (o1 (.own rfl))) (ac (.cells id (ac .same (ac (.own rfl) an))) (ac (.cells id (all2_row _)) (ac (.cells (fun _ => rfl) (all2_row _)) an))))⟩
def vdisk_Disk_set.f (k : Nat) (p0 : vdisk_Disk) (a1 : ByteArray) (a2 : vdisk_file) : Option vdisk_Disk := some (⟨mset a1 a2 p0.files, p0.room, IntKind.i64.wrap (p0.used + (IntKind.i64.wrap ((a2.b.length : Int) - (((lk_vdisk_file a1 p0.files).b).length : Int)))), (), p0.dead⟩ : vdisk_Disk)
theorem vdisk_Disk_set.meets (k : Nat) (p0 : vdisk_Disk) (a1 : ByteArray) (a2 : vdisk_file) (r : vdisk_Disk) (h : vdisk_Disk_set.f k p0 a1 a2 = some r) : Meets Try.prog 36 [(rf 0 0), (st_ a1), (D.agg (c_vdisk_file a2))] [(o_vdisk_Disk_03 false (C.mp 1) np p0), (om_ e_vdisk_file p0.files)] (D.tup []) [(o_vdisk_Disk_03 false (C.mp 1) np r), (om_ e_vdisk_file r.files)] := by
 unfold vdisk_Disk_set.f at h
 refine Meets.of_body (n := 31) Try.func36 rfl rfl (nl rfl) fun x hx => ?_
 replace hx : x.k = 2 := hx
 show AW _ x _ _ ⟨31, fr0 [(rf 0 0), (st_ a1), (D.agg (c_vdisk_file a2))], [(o_vdisk_Disk_03 false (C.mp 1) np p0), (om_ e_vdisk_file p0.files)]⟩
 refine AW.seq (AW.region ?_)
 refine s_box (cs := (c_vdisk_file a2)) rfl (List.cons_ne_nil _ _) rfl (AWops.nil (AW.seq ?_))
 refine AW.weak (st' := ⟨31, (upd 31 (upd 31 (upd 31 topF 0 (rf 0 0)) 1 (st_ a1)) 5 (rf 2 0)), [(o_vdisk_Disk_03 false (C.mp 1) np p0), (om_ e_vdisk_file p0.files), (some (AObj.cells true (c_vdisk_file a2)))]⟩) (wg 2 [0, 1, 2] [] hx (le_upd (le_upd (le_upd (le_top _) (o1 (.ref rfl))) (o1 .sc)) (o1 (.ref rfl))) (ac (qs rfl) (ac .map (ac (.cells (fun _ => rfl) (ac .same (ac .sc an))) an)))) ?_
 refine AW.draw (n := 31) (L := 3) [(ft 0 6 (rf 0 0) [(0, (rf 0 0))]), (ft 1 7 (rf 0 0) [(6, (rf 0 0))]), (ft 2 8 (rf 0 2) [(7, (rf 0 0))]), (3, ⟨some 9, (si p0.used), [(8, (rf 0 2))], [(0, (o_vdisk_Disk_03 false (C.mp 1) np p0))], [], none⟩), (ft 4 10 (rf 2 0) [(5, (rf 2 0))]), (5, ⟨some 11, (ds_ e_u8 a2.b), [(10, (rf 2 0))], [(2, (some (AObj.cells true (c_vdisk_file a2))))], [], none⟩), (ft 6 12 (si (a2.b.length : Int)) [(11, (ds_ e_u8 a2.b))]), (ft 7 13 (rf 0 0) [(0, (rf 0 0))]), (ft 8 14 (rf 0 0) [(13, (rf 0 0))]), (ft 9 15 (rf 0 0) [(14, (rf 0 0))]), (10, ⟨some 16, (D.one (C.mp 1)), [(15, (rf 0 0))], [(0, (o_vdisk_Disk_03 false (C.mp 1) np p0))], [], none⟩), (ft 11 17 (st_ a1) [(1, (st_ a1))]), (12, ⟨some 18, (D.agg (c_vdisk_file (lk_vdisk_file a1 p0.files))), [(16, (D.one (C.mp 1))), (17, (st_ a1))], [(1, (om_ e_vdisk_file p0.files))], [], none⟩), (ft 13 19 (D.one (C.p false (.sl ((lk_vdisk_file a1 p0.files).b).length (((lk_vdisk_file a1 p0.files).b).flatMap e_u8)))) [(18, (D.agg (c_vdisk_file (lk_vdisk_file a1 p0.files))))]), (ft 14 20 (si (((lk_vdisk_file a1 p0.files).b).length : Int)) [(19, (D.one (C.p false (.sl ((lk_vdisk_file a1 p0.files).b).length (((lk_vdisk_file a1 p0.files).b).flatMap e_u8)))))]), (ft 15 21 (si (IntKind.i64.wrap ((a2.b.length : Int) - (((lk_vdisk_file a1 p0.files).b).length : Int)))) [(12, (si (a2.b.length : Int))), (20, (si (((lk_vdisk_file a1 p0.files).b).length : Int)))]), (ft 16 22 (si (IntKind.i64.wrap (p0.used + (IntKind.i64.wrap ((a2.b.length : Int) - (((lk_vdisk_file a1 p0.files).b).length : Int)))))) [(9, (si p0.used)), (21, (si (IntKind.i64.wrap ((a2.b.length : Int) - (((lk_vdisk_file a1 p0.files).b).length : Int)))))]), (ft 17 23 (rf 0 0) [(6, (rf 0 0))]), (ft 18 24 (rf 0 2) [(23, (rf 0 0))]), (19, ⟨none, (D.one C.top), [(22, (si (IntKind.i64.wrap (p0.used + (IntKind.i64.wrap ((a2.b.length : Int) - (((lk_vdisk_file a1 p0.files).b).length : Int))))))), (24, (rf 0 2))], [(0, (o_vdisk_Disk_03 false (C.mp 1) np p0))], [(0, (some (AObj.cells false [(C.mp 1), (ci p0.room), (ci (IntKind.i64.wrap (p0.used + (IntKind.i64.wrap ((a2.b.length : Int) - (((lk_vdisk_file a1 p0.files).b).length : Int)))))), np, (cb p0.dead)])))], none⟩)] [[], [0], [0, 1], [0, 1, 2], [], [4], [4, 5], [], [7], [7, 8], [7, 8, 9], [], [7, 8, 9, 10, 11], [7, 8, 9, 10, 11, 12], [7, 8, 9, 10, 11, 12, 13], [4, 5, 6, 7, 8, 9, 10, 11, 12, 13, 14], (.range 16), (.range 17), (.range 18), (.range 19)] (nl rfl) [0, 1, 2, 3, 0, 1, 2, 0, 1, 2, 3, 0, 4, 5, 6, 7, 8, 9, 10, 11] rfl (TK := []) rfl AllK.nil' (by repeat (first | refine fC ⟨?_, ?_⟩ ?_ | refine sC rfl ?_ | refine hC rfl ?_ | trivial)) ?_ ?_
 ·refine y8 ?_ ?_ ?_ ?_ ?_ ?_ ?_ ?_ (y8 ?_ ?_ ?_ ?_ ?_ ?_ ?_ ?_ (y4 ?_ ?_ ?_ ?_ yN))
  ·intro K _ f w u k
   show Wp K ⟨31, (upd 31 f 0 (rf 0 0)), _⟩
   refine s_move (d := (rf 0 0)) rfl k
  ·intro K _ f w u k
   show Wp K ⟨31, (upd 31 f 6 (rf 0 0)), [_, _, _]⟩
   refine s_nilCheck (d := (rf 0 0)) rfl (.inl ⟨_, _, rfl⟩) k
  ·intro K _ f w u k
   show Wp K ⟨31, (upd 31 f 7 (rf 0 0)), [_, _, _]⟩
   refine s_fieldRef F.fo_37_2 (by decide) rfl k
  ·intro K _ f w u k
   show Wp K ⟨31, (upd 31 f 8 (rf 0 2)), [(o_vdisk_Disk_03 false (C.mp 1) np p0), _, _]⟩
   refine s_load1 (c' := (ci p0.used)) F.ag_3 rfl rfl k
  ·intro K _ f w u k
   show Wp K ⟨31, (upd 31 f 5 (rf 2 0)), [_, _, _]⟩
   refine s_fieldRef F.fo_79_0 (by decide) rfl k
  ·intro K _ f w u k
   show Wp K ⟨31, (upd 31 f 10 (rf 2 0)), [_, _, (some (AObj.cells true (c_vdisk_file a2)))]⟩
   refine s_load1 (c' := (cl_ e_u8 a2.b)) F.ag_22 rfl rfl k
  ·intro K _ f w u k
   show Wp K ⟨31, (upd 31 f 11 (ds_ e_u8 a2.b)), [_, _, _]⟩
   refine s_len (n := a2.b.length) F.u_22 rfl (.inr ⟨(fun _ _ h => by cases h), ⟨_, rfl⟩⟩) k
  ·intro K _ f w u k
   show Wp K ⟨31, (upd 31 f 0 (rf 0 0)), _⟩
   refine s_move (d := (rf 0 0)) rfl k
  ·intro K _ f w u k
   show Wp K ⟨31, (upd 31 f 13 (rf 0 0)), [_, _, _]⟩
   refine s_nilCheck (d := (rf 0 0)) rfl (.inl ⟨_, _, rfl⟩) k
  ·intro K _ f w u k
   show Wp K ⟨31, (upd 31 f 14 (rf 0 0)), [_, _, _]⟩
   refine s_fieldRef F.fo_37_0 (by decide) rfl k
  ·intro K _ f w u k
   show Wp K ⟨31, (upd 31 f 15 (rf 0 0)), [(o_vdisk_Disk_03 false (C.mp 1) np p0), _, _]⟩
   refine s_load1 (c' := (C.mp 1)) F.ag_34 rfl rfl k
  ·intro K _ f w u k
   show Wp K ⟨31, (upd 31 f 1 (st_ a1)), _⟩
   refine s_move (d := (st_ a1)) rfl k
  ·intro K _ f w u k
   show Wp K ⟨31, (upd 31 (upd 31 f 17 (st_ a1)) 16 (D.one (C.mp 1))), [_, (om_ e_vdisk_file p0.files), _]⟩
   refine t_lookup (b := true) F.u_34 F.u_9 F.z_79 (z := ((⟨([] : List Int), 0⟩ : vdisk_file) : vdisk_file)) (zs := [(.slice none 0 0), (.int .i64 0)]) rfl (fun h => by cases h) (ac ZRel.n (ac (ZRel.v _ rfl) an)) rfl rfl rfl rfl k
  ·intro K _ f w u k
   show Wp K ⟨31, (upd 31 f 18 (D.agg (c_vdisk_file (lk_vdisk_file a1 p0.files)))), [_, _, _]⟩
   refine s_field1 (c := (C.p false (.sl ((lk_vdisk_file a1 p0.files).b).length (((lk_vdisk_file a1 p0.files).b).flatMap e_u8)))) F.fo_79_0 rfl rfl k
  ·intro K _ f w u k
   show Wp K ⟨31, (upd 31 f 19 (D.one (C.p false (.sl ((lk_vdisk_file a1 p0.files).b).length (((lk_vdisk_file a1 p0.files).b).flatMap e_u8))))), [_, _, _]⟩
   refine s_len (n := ((lk_vdisk_file a1 p0.files).b).length) F.u_22 rfl (.inr ⟨(fun _ _ h => by cases h), ⟨_, rfl⟩⟩) k
  ·intro K _ f w u k
   show Wp K ⟨31, (upd 31 (upd 31 f 20 (si (((lk_vdisk_file a1 p0.files).b).length : Int))) 12 (si (a2.b.length : Int))), _⟩
   refine s_binI (v := (.int .i64 (IntKind.i64.wrap ((a2.b.length : Int) - (((lk_vdisk_file a1 p0.files).b).length : Int))))) rfl rfl rfl k
  ·intro K _ f w u k
   show Wp K ⟨31, (upd 31 (upd 31 f 21 (si (IntKind.i64.wrap ((a2.b.length : Int) - (((lk_vdisk_file a1 p0.files).b).length : Int))))) 9 (si p0.used)), _⟩
   refine s_binI (v := (.int .i64 (IntKind.i64.wrap (p0.used + (IntKind.i64.wrap ((a2.b.length : Int) - (((lk_vdisk_file a1 p0.files).b).length : Int))))))) rfl rfl rfl k
  ·intro K _ f w u k
   show Wp K ⟨31, (upd 31 f 6 (rf 0 0)), [_, _, _]⟩
   refine s_nilCheck (d := (rf 0 0)) rfl (.inl ⟨_, _, rfl⟩) k
  ·intro K _ f w u k
   show Wp K ⟨31, (upd 31 f 23 (rf 0 0)), [_, _, _]⟩
   refine s_fieldRef F.fo_37_2 (by decide) rfl k
  ·intro K _ f w u k
   show Wp K ⟨31, (upd 31 (upd 31 f 24 (rf 0 2)) 22 (si (IntKind.i64.wrap (p0.used + (IntKind.i64.wrap ((a2.b.length : Int) - (((lk_vdisk_file a1 p0.files).b).length : Int))))))), [(o_vdisk_Disk_03 false (C.mp 1) np p0), _, _]⟩
   refine s_store (cs' := [(C.mp 1), (ci p0.room), (ci (IntKind.i64.wrap (p0.used + (IntKind.i64.wrap ((a2.b.length : Int) - (((lk_vdisk_file a1 p0.files).b).length : Int)))))), np, (cb p0.dead)]) rfl rfl rfl (List.cons_ne_nil _ _) rfl F.sz_3 (nl rfl) rfl k
 ·refine AWops.weak (st' := ⟨31, (upd 31 (upd 31 (upd 31 topF 0 (rf 0 0)) 1 (st_ a1)) 5 (rf 2 0)), [(some (AObj.cells false [(C.mp 1), (ci p0.room), (ci (IntKind.i64.wrap (p0.used + (IntKind.i64.wrap ((a2.b.length : Int) - (((lk_vdisk_file a1 p0.files).b).length : Int)))))), np, (cb p0.dead)])), (om_ e_vdisk_file p0.files), (some (AObj.cells true (c_vdisk_file a2)))]⟩) (wg 2 [0, 1, 2] [] hx (le_upd (le_upd (le_upd (le_top _) (o1 (.ref rfl))) (o1 .sc)) (o1 (.ref rfl))) (ac (qs rfl) (ac .map (ac (.cells (fun _ => rfl) (ac .same (ac .sc an))) an)))) (AWops.nil ?_)
  refine AW.weak (st' := ⟨31, (upd 31 (upd 31 (upd 31 topF 0 (rf 0 0)) 1 (st_ a1)) 5 (rf 2 0)), [(some (AObj.cells false [(C.mp 1), (ci p0.room), (ci (IntKind.i64.wrap (p0.used + (IntKind.i64.wrap ((a2.b.length : Int) - (((lk_vdisk_file a1 p0.files).b).length : Int)))))), np, (cb p0.dead)])), (om_ e_vdisk_file p0.files), (some (AObj.cells true (c_vdisk_file a2)))]⟩) (wg 2 [0, 1, 2] [] hx (le_upd (le_upd (le_upd (le_top _) (o1 (.ref rfl))) (o1 .sc)) (o1 (.ref rfl))) (ac (qs rfl) (ac .map (ac (.cells (fun _ => rfl) (ac .same (ac .sc an))) an)))) ?_
  refine AW.draw (n := 31) (L := 3) [(ft 0 25 (rf 0 0) [(0, (rf 0 0))]), (ft 1 26 (rf 0 0) [(25, (rf 0 0))]), (ft 2 27 (rf 0 0) [(26, (rf 0 0))]), (3, ⟨some 28, (D.one (C.mp 1)), [(27, (rf 0 0))], [(0, (some (AObj.cells false [(C.mp 1), (ci p0.room), (ci (IntKind.i64.wrap (p0.used + (IntKind.i64.wrap ((a2.b.length : Int) - (((lk_vdisk_file a1 p0.files).b).length : Int)))))), np, (cb p0.dead)])))], [], none⟩), (ft 4 29 (st_ a1) [(1, (st_ a1))]), (5, ⟨some 30, (D.agg (c_vdisk_file a2)), [(5, (rf 2 0))], [(2, (some (AObj.cells true (c_vdisk_file a2))))], [], none⟩), (6, ⟨none, (D.one C.top), [(28, (D.one (C.mp 1))), (29, (st_ a1)), (30, (D.agg (c_vdisk_file a2)))], [(1, (om_ e_vdisk_file p0.files))], [(1, (some (AObj.map false (mapE true e_vdisk_file (mset a1 a2 p0.files)))))], none⟩)] [[], [0], [0, 1], [0, 1, 2], [], [], (.range 6)] (nl rfl) [0, 1, 2, 3, 0, 0, 4] rfl (TK := []) rfl AllK.nil' (by repeat (first | refine fC ⟨?_, ?_⟩ ?_ | refine sC rfl ?_ | refine hC rfl ?_ | trivial)) ?_ ?_
  ·refine y4 ?_ ?_ ?_ ?_ (y2 ?_ ?_ (pC ?_ yN))
   ·intro K _ f w u k
    show Wp K ⟨31, (upd 31 f 0 (rf 0 0)), _⟩
    refine s_move (d := (rf 0 0)) rfl k
   ·intro K _ f w u k
    show Wp K ⟨31, (upd 31 f 25 (rf 0 0)), [_, _, _]⟩
    refine s_nilCheck (d := (rf 0 0)) rfl (.inl ⟨_, _, rfl⟩) k
   ·intro K _ f w u k
    show Wp K ⟨31, (upd 31 f 26 (rf 0 0)), [_, _, _]⟩
    refine s_fieldRef F.fo_37_0 (by decide) rfl k
   ·intro K _ f w u k
    show Wp K ⟨31, (upd 31 f 27 (rf 0 0)), [(some (AObj.cells false [(C.mp 1), (ci p0.room), (ci (IntKind.i64.wrap (p0.used + (IntKind.i64.wrap ((a2.b.length : Int) - (((lk_vdisk_file a1 p0.files).b).length : Int)))))), np, (cb p0.dead)])), _, _]⟩
    refine s_load1 (c' := (C.mp 1)) F.ag_34 rfl rfl k
   ·intro K _ f w u k
    show Wp K ⟨31, (upd 31 f 1 (st_ a1)), _⟩
    refine s_move (d := (st_ a1)) rfl k
   ·intro K _ f w u k
    show Wp K ⟨31, (upd 31 f 5 (rf 2 0)), [_, _, (some (AObj.cells true (c_vdisk_file a2)))]⟩
    refine s_loadN (ds := (c_vdisk_file a2)) F.ag_79 F.sz_79 rfl rfl rfl k
   ·intro K _ f w u k
    show Wp K ⟨31, (upd 31 (upd 31 (upd 31 f 30 (D.agg (c_vdisk_file a2))) 29 (st_ a1)) 28 (D.one (C.mp 1))), [_, (om_ e_vdisk_file p0.files), _]⟩
    refine t_mapSet (b := true) (u := a2) F.u_34 F.u_9 (fun h => by cases h) rfl rfl rfl rfl rfl k
  ·refine AWops.weak (st' := ⟨31, topF, [(some (AObj.cells false [(C.mp 1), (ci p0.room), (ci (IntKind.i64.wrap (p0.used + (IntKind.i64.wrap ((a2.b.length : Int) - (((lk_vdisk_file a1 p0.files).b).length : Int)))))), np, (cb p0.dead)])), (some (AObj.map false (mapE true e_vdisk_file (mset a1 a2 p0.files))))]⟩) (wg 2 [0, 1] [] hx (le_top _) (ac (qs rfl) (ac .map an))) (AWops.nil ?_)
   obtain rfl := Option.some.inj h
   exact ⟨_, rfl, (wg 2 [0, 1] [] rfl (le_upd (le_top _) (DLe.tup an)) (ac (qs rfl) (ac .map an)))⟩
def vdisk_Disk_Append.f (k : Nat) (p0 : vdisk_Disk) (a1 : ByteArray) (p1 : List Int) : Option (Int × vdisk_Disk) := (vdisk_named.f k a1).bind fun r1 => (vdisk_Disk_change.f k p0 r1 a1 true (p1.length : Int)).bind fun r2 => if (r2 == 0) = true then ((slices_Concat_byte_byte.f k ((lk_vdisk_file a1 p0.files).b) p1).bind fun r4 => (vdisk_Disk_set.f k p0 a1 (⟨r4, (lk_vdisk_file a1 p0.files).sure⟩ : vdisk_file)).bind fun r5 => some (r2, r5)) else (some (r2, p0))
theorem vdisk_Disk_Append.meets (k : Nat) (p0 : vdisk_Disk) (a1 : ByteArray) (p1 : List Int) (r : Int × vdisk_Disk) (h : vdisk_Disk_Append.f k p0 a1 p1 = some r) : Meets Try.prog 25 [(rf 0 0), (st_ a1), (D.one (C.own 1 0 p1.length 1))] [(o_vdisk_Disk_03 false (C.mp 2) np p0), (or_ e_u8 p1), (om_ e_vdisk_file p0.files)] (si r.1) [(o_vdisk_Disk_03 false (C.mp 2) np r.2), (or_ e_u8 p1), (om_ e_vdisk_file r.2.files)] := by
 unfold vdisk_Disk_Append.f at h
 refine Meets.of_body (n := 36) Try.func25 rfl rfl (nl rfl) fun x hx => ?_
 replace hx : x.k = 3 := hx
 show AW _ x _ _ ⟨36, fr0 [(rf 0 0), (st_ a1), (D.one (C.own 1 0 p1.length 1))], [(o_vdisk_Disk_03 false (C.mp 2) np p0), (or_ e_u8 p1), (om_ e_vdisk_file p0.files)]⟩
 refine AW.seq (AW.region ?_)
 refine s_assign (d := (si 0)) rfl (AWops.nil (AW.seq (AW.region ?_)))
 refine s_move (d := (rf 0 0)) rfl (s_move (d := (st_ a1)) rfl ?_)
 obtain ⟨r1, er1, h⟩ := bnd h
 refine cc [] [(o_vdisk_Disk_03 false (C.mp 2) np p0), (or_ e_u8 p1), (om_ e_vdisk_file p0.files)] (sb r1) F.ca_56 rfl rfl (ac (.one .sc) an) an (vdisk_named.meets _ a1 r1 er1) (s_move (d := (st_ a1)) rfl (s_move (d := (D.one (C.own 1 0 p1.length 1))) rfl (s_len (n := p1.length) F.u_22 rfl (.inr ⟨(fun _ _ h => by cases h), ⟨_, rfl⟩⟩) ?_)))
 obtain ⟨r2, er2, h⟩ := bnd h
 refine cc [0, 2] [(o_vdisk_Disk_03 false (C.mp 2) np p0), (or_ e_u8 p1), (om_ e_vdisk_file p0.files)] (si r2) F.ca_55 rfl rfl (ac (.one (.ref rfl)) (ac (.one .sc) (ac (.one .sc) (ac (.one .sc) (ac (.one .sc) an))))) (ac (.cells (ac (.mp rfl) (ac .sc (ac .sc (ac .sc (ac .sc an)))))) (ac .map an)) (vdisk_Disk_change.meets _ p0 r1 a1 true (p1.length : Int) r2 er2) (s_assign (d := (si r2)) rfl (AWops.nil (AW.seq (AW.seq (AW.region (s_move (d := (si r2)) rfl (s_binI (v := (.bool (r2 == 0))) rfl rfl rfl (AWops.nil ?_))))))))
 rcases itH h with ⟨c3, h⟩ | ⟨c3, h⟩
 ·refine AW.cond_yes rfl c3 (AW.seq (AW.region ?_))
  refine s_move (d := (rf 0 0)) rfl (s_nilCheck (d := (rf 0 0)) rfl (.inl ⟨_, _, rfl⟩) (s_fieldRef F.fo_37_0 (by decide) rfl (s_load1 (c' := (C.mp 2)) F.ag_34 rfl rfl (s_move (d := (st_ a1)) rfl (t_lookup (b := true) F.u_34 F.u_9 F.z_79 (z := ((⟨([] : List Int), 0⟩ : vdisk_file) : vdisk_file)) (zs := [(.slice none 0 0), (.int .i64 0)]) rfl (fun h => by cases h) (ac ZRel.n (ac (ZRel.v _ rfl) an)) rfl rfl rfl rfl ?_)))))
  refine s_alloc (cs := [(C.p true (.v (.slice none 0 0))), (ci 0)]) F.z_79 rfl rfl (s_store (cs' := (c_vdisk_file (lk_vdisk_file a1 p0.files))) rfl rfl rfl (List.cons_ne_nil _ _) rfl F.sz_79 (nl rfl) rfl (AWops.nil ?_))
  refine AW.weak (st' := ⟨36, (upd 36 (upd 36 (upd 36 (upd 36 (upd 36 topF 0 (rf 0 0)) 1 (st_ a1)) 2 (D.one (C.own 1 0 p1.length 1))) 7 (si r2)) 8 (rf 3 0)), [(o_vdisk_Disk_03 false (C.mp 2) np p0), (or_ e_u8 p1), (om_ e_vdisk_file p0.files), (some (AObj.cells true (c_vdisk_file (lk_vdisk_file a1 p0.files))))]⟩) (wg 3 [0, 1, 2, 3] [] hx (le_upd (le_upd (le_upd (le_upd (le_upd (le_top _) (o1 (.ref rfl))) (o1 .sc)) (o1 (.own rfl))) (o1 .sc)) (o1 (.ref rfl))) (ac (qs rfl) (ac (.cells id (all2_row _)) (ac .map (ac (.cells (fun _ => rfl) (ac .same (ac .sc an))) an))))) ?_
  obtain ⟨r4, er4, h⟩ := bnd h
  obtain ⟨r5, er5, h⟩ := bnd h
  refine AW.draw (n := 36) (L := 7) [(ft 0 24 (rf 0 0) [(0, (rf 0 0))]), (ft 1 25 (st_ a1) [(1, (st_ a1))]), (ft 2 26 (rf 3 0) [(8, (rf 3 0))]), (3, ⟨some 27, (D.one (C.p false (.sl ((lk_vdisk_file a1 p0.files).b).length (((lk_vdisk_file a1 p0.files).b).flatMap e_u8)))), [(26, (rf 3 0))], [(3, (some (AObj.cells true (c_vdisk_file (lk_vdisk_file a1 p0.files)))))], [], none⟩), (ft 4 28 (D.one (C.own 1 0 p1.length 1)) [(2, (D.one (C.own 1 0 p1.length 1)))]), (5, ⟨some 29, (D.one (C.own 4 0 2 1)), [(27, (D.one (C.p false (.sl ((lk_vdisk_file a1 p0.files).b).length (((lk_vdisk_file a1 p0.files).b).flatMap e_u8))))), (28, (D.one (C.own 1 0 p1.length 1)))], [], [(4, (some (AObj.cells true [(C.p false (.sl ((lk_vdisk_file a1 p0.files).b).length (((lk_vdisk_file a1 p0.files).b).flatMap e_u8))), (C.own 1 0 p1.length 1)])))], some 4⟩), (6, ⟨some 30, (ds_ e_u8 r4), [(29, (D.one (C.own 4 0 2 1)))], [(1, (or_ e_u8 p1)), (4, (some (AObj.cells true [(C.p false (.sl ((lk_vdisk_file a1 p0.files).b).length (((lk_vdisk_file a1 p0.files).b).flatMap e_u8))), (C.own 1 0 p1.length 1)])))], [(4, (some (AObj.cells true [(C.p false (.sl ((lk_vdisk_file a1 p0.files).b).length (((lk_vdisk_file a1 p0.files).b).flatMap e_u8))), (C.own 1 0 p1.length 1)])))], some 5⟩), (ft 7 31 (rf 3 1) [(8, (rf 3 0))]), (8, ⟨some 32, (si ((lk_vdisk_file a1 p0.files).sure)), [(31, (rf 3 1))], [(3, (some (AObj.cells true (c_vdisk_file (lk_vdisk_file a1 p0.files)))))], [], none⟩), (ft 9 33 (D.agg [(cl_ e_u8 r4), (ci ((lk_vdisk_file a1 p0.files).sure))]) [(30, (ds_ e_u8 r4)), (32, (si ((lk_vdisk_file a1 p0.files).sure)))]), (10, ⟨some 34, (D.tup []), [(24, (rf 0 0)), (25, (st_ a1)), (33, (D.agg [(cl_ e_u8 r4), (ci ((lk_vdisk_file a1 p0.files).sure))]))], [(0, (o_vdisk_Disk_03 false (C.mp 2) np p0)), (2, (om_ e_vdisk_file p0.files))], [(0, (o_vdisk_Disk_03 false (C.mp 2) np r5)), (2, (om_ e_vdisk_file r5.files))], none⟩)] [[], [], [], [2], [], [2, 3, 4], [2, 3, 4, 5], [], [7], [2, 3, 4, 5, 6, 7, 8], (.range 10)] (nl rfl) [0, 0, 0, 1, 0, 2, 3, 0, 1, 4, 5] rfl (TK := [(5, 4), (6, 5)]) rfl (AllK.cons' ⟨(tk_upd (tk_upd (tk_upd (tk_upd (tk_upd tk_top rfl) rfl) rfl) rfl) rfl), (tC rfl (tC (tkO_row _) (tC rfl (tC rfl AllT.nil')))), (fC (.inr rfl) (fC (.inr rfl) (fC (.inr rfl) (fC (.inr rfl) (fC (.inr rfl) (fC (.inl rfl) (fC (.inl rfl) (fC (.inr rfl) (fC (.inr rfl) (fC (.inl rfl) (fC (.inl rfl) AllF.nil')))))))))))⟩ (AllK.cons' ⟨(tk_upd (tk_upd (tk_upd (tk_upd (tk_upd tk_top rfl) rfl) rfl) rfl) rfl), (tC rfl (tC (tkO_row _) (tC rfl (tC rfl AllT.nil')))), (fC (.inr rfl) (fC (.inr rfl) (fC (.inr rfl) (fC (.inr rfl) (fC (.inr rfl) (fC (.inr rfl) (fC (.inl rfl) (fC (.inr rfl) (fC (.inr rfl) (fC (.inl rfl) (fC (.inl rfl) AllF.nil')))))))))))⟩ AllK.nil')) (by repeat (first | refine fC ⟨?_, ?_⟩ ?_ | refine sC rfl ?_ | refine hC rfl ?_ | trivial)) ?_ ?_
  ·refine y8 ?_ ?_ ?_ ?_ ?_ ?_ ?_ ?_ (y2 ?_ ?_ (pC ?_ yN))
   ·intro K _ f w u k
    show Wp K ⟨36, (upd 36 f 0 (rf 0 0)), _⟩
    refine s_move (d := (rf 0 0)) rfl k
   ·intro K _ f w u k
    show Wp K ⟨36, (upd 36 f 1 (st_ a1)), _⟩
    refine s_move (d := (st_ a1)) rfl k
   ·intro K _ f w u k
    show Wp K ⟨36, (upd 36 f 8 (rf 3 0)), [_, _, _, _, _, _, _]⟩
    refine s_fieldRef F.fo_79_0 (by decide) rfl k
   ·intro K _ f w u k
    show Wp K ⟨36, (upd 36 f 26 (rf 3 0)), [_, _, _, (some (AObj.cells true (c_vdisk_file (lk_vdisk_file a1 p0.files)))), _, _, _]⟩
    refine s_load1 (c' := (C.p false (.sl ((lk_vdisk_file a1 p0.files).b).length (((lk_vdisk_file a1 p0.files).b).flatMap e_u8)))) F.ag_22 rfl rfl k
   ·intro K _ f w u k
    show Wp K ⟨36, (upd 36 f 2 (D.one (C.own 1 0 p1.length 1))), _⟩
    refine s_move (d := (D.one (C.own 1 0 p1.length 1))) rfl k
   ·intro K _ f w u k
    show Wp K ⟨36, (upd 36 (upd 36 f 28 (D.one (C.own 1 0 p1.length 1))) 27 (D.one (C.p false (.sl ((lk_vdisk_file a1 p0.files).b).length (((lk_vdisk_file a1 p0.files).b).flatMap e_u8))))), [_, _, _, _, _, _, _]⟩
    refine s_buildSlice (n := 2) (ps := [(0, (D.one (C.p false (.sl ((lk_vdisk_file a1 p0.files).b).length (((lk_vdisk_file a1 p0.files).b).flatMap e_u8))))), (1, (D.one (C.own 1 0 p1.length 1)))]) (cs := [(C.p false (.sl ((lk_vdisk_file a1 p0.files).b).length (((lk_vdisk_file a1 p0.files).b).flatMap e_u8))), (C.own 1 0 p1.length 1)]) F.u_25 F.sz_22 F.z_22 rfl rfl (by decide) (by decide) rfl rfl ?_
    refine AWops.weak (st' := ⟨36, (upd 36 (upd 36 (upd 36 f 28 (D.one (C.own 1 0 p1.length 1))) 27 (D.one (C.p false (.sl ((lk_vdisk_file a1 p0.files).b).length (((lk_vdisk_file a1 p0.files).b).flatMap e_u8))))) 29 (D.one (C.own 4 0 2 1))), [(w 0), (w 1), (w 2), (w 3), (some (AObj.cells true [(C.p false (.sl ((lk_vdisk_file a1 p0.files).b).length (((lk_vdisk_file a1 p0.files).b).flatMap e_u8))), (C.own 1 0 p1.length 1)])), (w 5), (w 6)]⟩) (wg 3 [0, 1, 2, 3, 7, 5, 6] [] hx (le_upd2 (le_ok (p := 4) (L := 7) rfl (u 4 rfl).1) (o1 (.own rfl))) (ac (oq 4 7 (u 4 rfl) 0) (ac (oq 4 7 (u 4 rfl) 1) (ac (oq 4 7 (u 4 rfl) 2) (ac (oq 4 7 (u 4 rfl) 3) (ac (.cells (fun _ => rfl) (ac .same (ac (.own rfl) an))) (ac (oq 4 7 (u 4 rfl) 5) (ac (oq 4 7 (u 4 rfl) 6) an)))))))) k
   ·intro K _ f w u k
    show Wp K ⟨36, (upd 36 f 29 (D.one (C.own 4 0 2 1))), [_, (or_ e_u8 p1), _, _, (some (AObj.cells true [(C.p false (.sl ((lk_vdisk_file a1 p0.files).b).length (((lk_vdisk_file a1 p0.files).b).flatMap e_u8))), (C.own 1 0 p1.length 1)])), _, _]⟩
    refine cc [4, 1] [(w 0), (or_ e_u8 p1), (w 2), (w 3), (some (AObj.cells true [(C.p false (.sl ((lk_vdisk_file a1 p0.files).b).length (((lk_vdisk_file a1 p0.files).b).flatMap e_u8))), (C.own 1 0 p1.length 1)])), (w 5), (w 6), (ow_ e_u8 r4)] (D.one (C.own 7 0 r4.length 1)) F.ca_57 rfl rfl (ac (.one (.own rfl)) an) (ac (.cells (ac .imm (ac (.own rfl) an))) (ac (.cells (lend_row _)) an)) (slices_Concat_byte_byte.meets _ ((lk_vdisk_file a1 p0.files).b) p1 r4 er4) ?_
    refine AWops.weak (st' := ⟨36, (upd 36 (upd 36 f 29 (D.one (C.own 4 0 2 1))) 30 (ds_ e_u8 r4)), [(w 0), (or_ e_u8 p1), (w 2), (w 3), (some (AObj.cells true [(C.p false (.sl ((lk_vdisk_file a1 p0.files).b).length (((lk_vdisk_file a1 p0.files).b).flatMap e_u8))), (C.own 1 0 p1.length 1)])), (w 5), (w 6)]⟩) (wg 3 [0, 1, 2, 3, 4, 5, 6] [7] hx (le_upd2 (le_ok (p := 5) (L := 7) rfl (u 5 rfl).1) (o1 (CLe.frz e_u8_len rfl rfl rfl))) (ac (oq 5 7 (u 5 rfl) 0) (ac (.cells id (all2_row _)) (ac (oq 5 7 (u 5 rfl) 2) (ac (oq 5 7 (u 5 rfl) 3) (ac (.cells (fun _ => rfl) (ac .same (ac (.own rfl) an))) (ac (oq 5 7 (u 5 rfl) 5) (ac (oq 5 7 (u 5 rfl) 6) an)))))))) k
   ·intro K _ f w u k
    show Wp K ⟨36, (upd 36 f 8 (rf 3 0)), [_, _, _, _, _, _, _]⟩
    refine s_fieldRef F.fo_79_1 (by decide) rfl k
   ·intro K _ f w u k
    show Wp K ⟨36, (upd 36 f 31 (rf 3 1)), [_, _, _, (some (AObj.cells true (c_vdisk_file (lk_vdisk_file a1 p0.files)))), _, _, _]⟩
    refine s_load1 (c' := (ci ((lk_vdisk_file a1 p0.files).sure))) F.ag_3 rfl rfl k
   ·intro K _ f w u k
    show Wp K ⟨36, (upd 36 (upd 36 f 32 (si ((lk_vdisk_file a1 p0.files).sure))) 30 (ds_ e_u8 r4)), [_, _, _, _, _, _, _]⟩
    refine s_build (ps := [(0, (ds_ e_u8 r4)), (1, (si ((lk_vdisk_file a1 p0.files).sure)))]) (cs := [(cl_ e_u8 r4), (ci ((lk_vdisk_file a1 p0.files).sure))]) F.z_79 rfl F.so_79 rfl rfl k
   ·intro K _ f w u k
    show Wp K ⟨36, (upd 36 (upd 36 (upd 36 f 33 (D.agg [(cl_ e_u8 r4), (ci ((lk_vdisk_file a1 p0.files).sure))])) 25 (st_ a1)) 24 (rf 0 0)), [(o_vdisk_Disk_03 false (C.mp 2) np p0), _, (om_ e_vdisk_file p0.files), _, _, _, _]⟩
    refine cc [0, 2] [(o_vdisk_Disk_03 false (C.mp 2) np r5), (w 1), (om_ e_vdisk_file r5.files), (w 3), (w 4), (w 5), (w 6)] (D.tup []) F.ca_36 rfl rfl (ac (.one (.ref rfl)) (ac (.one .sc) (ac (LendT.aggL (ac .imm (ac .sc an))) an))) (ac (.cells (ac (.mp rfl) (ac .sc (ac .sc (ac .sc (ac .sc an)))))) (ac .map an)) (vdisk_Disk_set.meets _ p0 a1 (⟨r4, (lk_vdisk_file a1 p0.files).sure⟩ : vdisk_file) r5 er5) k
  ·refine AWops.weak (st' := ⟨36, (upd 36 topF 7 (si r2)), [(o_vdisk_Disk_03 false (C.mp 2) np r5), (or_ e_u8 p1), (om_ e_vdisk_file r5.files)]⟩) (wg 3 [0, 1, 2] [] hx (le_upd (le_top _) (o1 .sc)) (ac (qs rfl) (ac (.cells id (all2_row _)) (ac .map an)))) (AWops.nil (AW.seq (AW.region ?_)))
   refine s_move (d := (si r2)) rfl (s_assign (d := (si r2)) rfl (AWops.nil (AW.ret ?_)))
   obtain rfl := Option.some.inj h
   exact ⟨_, rfl, (wg 3 [0, 1, 2] [] rfl (le_upd (le_top _) (o1 .sc)) (ac (qs rfl) (ac (.cells id (all2_row _)) (ac .map an))))⟩
 ·refine AW.cond_no rfl c3 (AW.skip (AW.seq (AW.region ?_)))
  refine s_move (d := (si r2)) rfl (s_assign (d := (si r2)) rfl (AWops.nil (AW.ret ?_)))
  obtain rfl := Option.some.inj h
  exact ⟨_, rfl, (wg 3 [0, 1, 2] [] rfl (le_upd (le_top _) (o1 .sc)) (ac (qs rfl) (ac (.cells id (all2_row _)) (ac .map an))))⟩
mutual
def dossierplain_Spoil.l0 : Nat → (List Int) → Int → (List Int) → Option (List Int)
 | 0, _, _, _ => none
 | k + 1, x1, x2, p1 => if (decide (x2 < (p1.length : Int))) = true then ((rd x1 x2).bind fun v4 => (rd x1 x2).bind fun v6 => dossierplain_Spoil.l0 k (x1.set x2.toNat (Go.bits .xor .u8 v4 255)) (IntKind.i64.wrap (x2 + 1)) p1) else (some x1)
end
def dossierplain_Spoil.f (k : Nat) (p0 : Unit) (p1 : List Int) : Option (List Int) := dossierplain_Spoil.l0 k p1 0 p1
theorem dossierplain_Spoil.meets (k : Nat) (p0 : Unit) (p1 : List Int) (r : (List Int)) (h : dossierplain_Spoil.f k p0 p1 = some r) : Meets Try.prog 39 [(D.one (C.own 0 0 1 1))] [(some (AObj.cells false [(C.own 1 0 p1.length 1)])), (or_ e_u8 p1)] (D.tup []) [(some (AObj.cells false [(C.own 1 0 r.length 1)])), (or_ e_u8 r)] := by
 unfold dossierplain_Spoil.f at h
 refine Meets.of_body (n := 24) Try.func39 rfl rfl (nl rfl) fun x hx => ?_
 replace hx : x.k = 2 := hx
 show AW _ x _ _ ⟨24, fr0 [(D.one (C.own 0 0 1 1))], [(some (AObj.cells false [(C.own 1 0 p1.length 1)])), (or_ e_u8 p1)]⟩
 refine AW.seq (AW.region ?_)
 refine s_move (d := (D.one (C.own 0 0 1 1))) rfl (s_len (n := 1) F.u_25 rfl (.inr ⟨(fun _ _ h => by cases h), ⟨_, rfl⟩⟩) (s_move (d := (si 0)) rfl (AWops.nil (AW.block ?_))))
 refine AW.unroll 9 ?_
 refine U.step (AW.seq (AW.region ?_))
 refine s_binI (v := (.bool true)) rfl rfl rfl (AWops.nil (AW.seq ?_))
 refine AW.cond_yes rfl rfl (AW.skip (AW.seq (AW.block (AW.seq (AW.region ?_)))))
 refine s_indexOwn (d := (rf 0 0)) F.u_25 F.sz_22 rfl rfl (by decide) (by decide) rfl (s_load1 (c' := (C.own 1 0 p1.length 1)) F.ag_22 rfl rfl (s_assign (d := (D.one (C.own 1 0 p1.length 1))) rfl (AWops.nil (AW.seq (AW.region (s_move (d := (D.one (C.own 1 0 p1.length 1))) rfl (s_len (n := p1.length) F.u_22 rfl (.inr ⟨(fun _ _ h => by cases h), ⟨_, rfl⟩⟩) (s_move (d := (si 0)) rfl (AWops.nil (AW.block ?_))))))))))
 refine AW.loopw (st0 := ⟨24, (upd 24 (upd 24 (upd 24 (upd 24 (upd 24 (upd 24 topF 3 (D.one (C.own 1 0 p1.length 1))) 5 (D.one (C.own 0 0 1 1))) 6 (si 1)) 7 (si 0)) 12 (si (p1.length : Int))) 13 (si 0)), [(some (AObj.cells false [(C.own 1 0 p1.length 1)])), (or_ e_u8 p1)]⟩) (fun kv st => kv ≤ k ∧ ∃ (x1 : List Int) (x2 : Int), dossierplain_Spoil.l0 kv x1 x2 p1 = some r ∧ st = ⟨24, (upd 24 (upd 24 (upd 24 (upd 24 (upd 24 (upd 24 topF 3 (D.one (C.own 1 0 x1.length 1))) 5 (D.one (C.own 0 0 1 1))) 6 (si 1)) 7 (si 0)) 12 (si (p1.length : Int))) 13 (si x2)), [(some (AObj.cells false [(C.own 1 0 x1.length 1)])), (or_ e_u8 x1)]⟩) (k := k) (wg 2 [0, 1] [] hx (le_upd (le_upd (le_upd (le_upd (le_upd (le_upd (le_top _) (o1 (.own rfl))) (o1 (.own rfl))) (o1 .sc)) (o1 .sc)) (o1 .sc)) (o1 .sc)) (ac (.cells id (ac (.own rfl) an)) (ac (.cells id (all2_row _)) an))) ⟨Nat.le_refl _, p1, 0, h, rfl⟩ ?_
 rintro ql0 st ⟨hkl0, x1, x2, h, rfl⟩
 cases ql0 with
 | zero => exact absurd h (by simp [dossierplain_Spoil.l0])
 | succ ql0 =>
  replace h := (dossierplain_Spoil.l0.eq_2 _ _ _ _).symm.trans h
  refine AW.seq (AW.region ?_)
  refine s_binI (v := (.bool (decide (x2 < (p1.length : Int))))) rfl rfl rfl (AWops.nil (AW.seq ?_))
  rcases itH h with ⟨c3, h⟩ | ⟨c3, h⟩
  ·refine AW.cond_yes rfl c3 (AW.skip (AW.seq (AW.block (AW.seq (AW.region ?_)))))
   refine s_move (d := (si x2)) rfl (s_assign (d := (si x2)) rfl (AWops.nil (AW.region (s_move (d := (D.one (C.own 1 0 x1.length 1))) rfl (s_move (d := (si x2)) rfl ?_)))))
   obtain ⟨v4, ev4, h⟩ := bnd h
   obtain ⟨pv4, qv4, gv4⟩ := rd_some ev4
   refine s_indexOwn (d := (D.one (C.ref 1 (0 + x2.toNat * 1)))) F.u_22 F.sz_5 rfl rfl pv4 qv4 rfl ?_
   obtain ⟨R5, hR5⟩ := row_at (f := e_u8) (sz := 1) (o := 0) e_u8_len gv4 (e_u8_eq v4) (by decide)
   refine s_load1 (c' := (C.p true (.v (.int .u8 v4)))) F.ag_5 (congrArg some hR5) rfl (s_binI (v := (.int .u8 (Go.bits .xor .u8 v4 255))) rfl rfl rfl ?_)
   obtain ⟨v6, ev6, h⟩ := bnd h
   obtain ⟨pv6, qv6, gv6⟩ := rd_some ev6
   refine s_indexOwn (d := (D.one (C.ref 1 (0 + x2.toNat * 1)))) F.u_22 F.sz_5 rfl rfl pv6 qv6 rfl ?_
   refine s_store (cs' := rowC e_u8 (x1.set x2.toNat (Go.bits .xor .u8 v4 255))) rfl rfl rfl (List.cons_ne_nil _ _) rfl F.sz_5 (by rw [row_len e_u8_len]; have := (List.getElem?_eq_some_iff.mp gv6).1; show _ + 1 ≤ _; omega) (row_set (f := e_u8) (sz := 1) (o := 0) (ds := [P.v (.int .u8 (Go.bits .xor .u8 v4 255))]) e_u8_len gv6 rfl (nl rfl) rfl) ?_
   refine AWops.nil (AW.region ?_)
   refine s_binI (v := (.int .i64 (IntKind.i64.wrap (x2 + 1)))) rfl rfl rfl (s_move (d := (si (IntKind.i64.wrap (x2 + 1)))) rfl (AWops.nil ?_))
   exact ⟨_, ⟨24, (upd 24 (upd 24 (upd 24 (upd 24 (upd 24 (upd 24 topF 3 (D.one (C.own 1 0 (x1.set x2.toNat (Go.bits .xor .u8 v4 255)).length 1))) 5 (D.one (C.own 0 0 1 1))) 6 (si 1)) 7 (si 0)) 12 (si (p1.length : Int))) 13 (si (IntKind.i64.wrap (x2 + 1)))), [(some (AObj.cells false [(C.own 1 0 (x1.set x2.toNat (Go.bits .xor .u8 v4 255)).length 1)])), (some (AObj.cells false (rowC e_u8 (x1.set x2.toNat (Go.bits .xor .u8 v4 255)))))]⟩, by omega, (wg 2 [0, 1] [] hx (le_upd (le_upd (le_upd (le_upd (le_upd (le_upd (le_top _) (o1 (CLe.ownN rfl (by simp)))) (o1 (.own rfl))) (o1 .sc)) (o1 .sc)) (o1 .sc)) (o1 .sc)) (ac (.cells id (ac (CLe.ownN rfl (by simp)) an)) (ac (.cells id (all2_row _)) an))), by omega, x1.set x2.toNat (Go.bits .xor .u8 v4 255), IntKind.i64.wrap (x2 + 1), h, rfl⟩
  ·refine AW.cond_no rfl c3 (AW.exit (AW.region ?_))
   refine s_binI (v := (.int .i64 1)) rfl rfl (by rfl) (s_move (d := (si 1)) rfl (AWops.nil ?_))
   refine U.step (AW.seq (AW.region ?_))
   refine s_binI (v := (.bool false)) rfl rfl rfl (AWops.nil (AW.seq ?_))
   refine AW.cond_no rfl rfl (AW.exit ?_)
   obtain rfl := Option.some.inj h
   exact ⟨_, rfl, (wg 2 [0, 1] [] rfl (le_upd (le_top _) (DLe.tup an)) (ac (.cells id (ac (.own rfl) an)) (ac (.cells id (all2_row _)) an)))⟩
def dossierref03_named.f (k : Nat) (a0 : ByteArray) : Option Bool := if (decide ((a0.size : Int) ≥ 1)) = true then (some (decide ((a0.size : Int) ≤ 64))) else (some false)
theorem dossierref03_named.meets (k : Nat) (a0 : ByteArray) (r : Bool) (h : dossierref03_named.f k a0 = some r) : Meets Try.prog 63 [(st_ a0)] [] (sb r) [] := by
 unfold dossierref03_named.f at h
 refine Meets.of_body (n := 11) Try.func63 rfl rfl (nl rfl) fun x hx => ?_
 replace hx : x.k = 0 := hx
 show AW _ x _ _ ⟨11, fr0 [(st_ a0)], []⟩
 refine AW.seq (AW.region ?_)
 refine s_assign (d := (sb false)) rfl (AWops.nil (AW.seq (AW.region ?_)))
 refine s_move (d := (st_ a0)) rfl (s_len (n := a0.size) F.u_9 rfl (.inl ⟨⟨_, _, rfl⟩, rfl⟩) (s_binI (v := (.bool (decide ((a0.size : Int) ≥ 1)))) rfl rfl rfl (s_move (d := (sb (decide ((a0.size : Int) ≥ 1)))) rfl ?_)))
 rcases itH h with ⟨c1, h⟩ | ⟨c1, h⟩
 ·refine AWops.guard_yes rfl (nl rfl) rfl c1 ?_
  refine s_move (d := (st_ a0)) rfl ?_
  refine AWops.guard_yes rfl (nl rfl) rfl c1 ?_
  refine s_len (n := a0.size) F.u_9 rfl (.inl ⟨⟨_, _, rfl⟩, rfl⟩) ?_
  refine AWops.guard_yes rfl (nl rfl) rfl c1 ?_
  refine s_binI (v := (.bool (decide ((a0.size : Int) ≤ 64)))) rfl rfl rfl (s_pick_yes (d := (sb (decide ((a0.size : Int) ≤ 64)))) rfl c1 rfl (s_assign (d := (sb (decide ((a0.size : Int) ≤ 64)))) rfl (AWops.nil (AW.ret ?_))))
  obtain rfl := Option.some.inj h
  exact ⟨_, rfl, (wg 0 [] [] rfl (le_upd (le_top _) (o1 .sc)) an)⟩
 ·iterate 3 refine AWops.guard_no rfl (nl rfl) rfl c1 ?_
  refine s_pick_no (d := (sb false)) rfl c1 rfl (s_assign (d := (sb false)) rfl (AWops.nil (AW.ret ?_)))
  obtain rfl := Option.some.inj h
  exact ⟨_, rfl, (wg 0 [] [] rfl (le_upd (le_top _) (o1 .sc)) an)⟩
mutual
def dossierref03_Disk_Used.l0 : Nat → Int → Int → dossierref03_Disk → Option Int
 | 0, _, _, _ => none
 | k + 1, x1, x2, p0 => if (decide (x2 < (p0.L.length : Int))) = true then ((rd p0.L x2).bind fun v4 => dossierref03_Disk_Used.l0 k (IntKind.i64.wrap (x1 + (v4.B.length : Int))) (IntKind.i64.wrap (x2 + 1)) p0) else (some x1)
end
def dossierref03_Disk_Used.f (k : Nat) (p0 : dossierref03_Disk) : Option Int := dossierref03_Disk_Used.l0 k 0 0 p0
theorem dossierref03_Disk_Used.meets (k : Nat) (p0 : dossierref03_Disk) (r : Int) (h : dossierref03_Disk_Used.f k p0 = some r) : Meets Try.prog 64 [(rf 0 0)] [(o_dossierref03_Disk_0 false (C.own 1 0 p0.L.length 3) p0), (or_ e_dossierref03_File p0.L)] (si r) [(o_dossierref03_Disk_0 false (C.own 1 0 p0.L.length 3) p0), (or_ e_dossierref03_File p0.L)] := by
 unfold dossierref03_Disk_Used.f at h
 refine Meets.of_body (n := 22) Try.func64 rfl rfl (nl rfl) fun x hx => ?_
 replace hx : x.k = 2 := hx
 show AW _ x _ _ ⟨22, fr0 [(rf 0 0)], [(o_dossierref03_Disk_0 false (C.own 1 0 p0.L.length 3) p0), (or_ e_dossierref03_File p0.L)]⟩
 refine AW.seq (AW.region ?_)
 refine s_assign (d := (si 0)) rfl (AWops.nil (AW.seq (AW.region ?_)))
 refine s_assign (d := (si 0)) rfl (AWops.nil (AW.seq (AW.seq (AW.region ?_))))
 refine s_move (d := (rf 0 0)) rfl (s_nilCheck (d := (rf 0 0)) rfl (.inl ⟨_, _, rfl⟩) (s_fieldRef F.fo_84_0 (by decide) rfl (s_load1 (c' := (C.own 1 0 p0.L.length 3)) F.ag_82 rfl rfl (s_len (n := p0.L.length) F.u_82 rfl (.inr ⟨(fun _ _ h => by cases h), ⟨_, rfl⟩⟩) (s_move (d := (si 0)) rfl (AWops.nil (AW.block ?_)))))))
 refine AW.loopw (st0 := ⟨22, (upd 22 (upd 22 (upd 22 (upd 22 topF 3 (si 0)) 9 (D.one (C.own 1 0 p0.L.length 3))) 10 (si (p0.L.length : Int))) 11 (si 0)), [(o_dossierref03_Disk_0 false (C.own 1 0 p0.L.length 3) p0), (or_ e_dossierref03_File p0.L)]⟩) (fun kv st => kv ≤ k ∧ ∃ (x1 : Int) (x2 : Int), dossierref03_Disk_Used.l0 kv x1 x2 p0 = some r ∧ st = ⟨22, (upd 22 (upd 22 (upd 22 (upd 22 topF 3 (si x1)) 9 (D.one (C.own 1 0 p0.L.length 3))) 10 (si (p0.L.length : Int))) 11 (si x2)), [(o_dossierref03_Disk_0 false (C.own 1 0 p0.L.length 3) p0), (or_ e_dossierref03_File p0.L)]⟩) (k := k) (wg 2 [0, 1] [] hx (le_upd (le_upd (le_upd (le_upd (le_top _) (o1 .sc)) (o1 (.own rfl))) (o1 .sc)) (o1 .sc)) (ac (qo rfl) (ac (.cells id (all2_row _)) an))) ⟨Nat.le_refl _, 0, 0, h, rfl⟩ ?_
 rintro ql0 st ⟨hkl0, x1, x2, h, rfl⟩
 cases ql0 with
 | zero => exact absurd h (by simp [dossierref03_Disk_Used.l0])
 | succ ql0 =>
  replace h := (dossierref03_Disk_Used.l0.eq_2 _ _ _ _).symm.trans h
  refine AW.seq (AW.region ?_)
  refine s_binI (v := (.bool (decide (x2 < (p0.L.length : Int))))) rfl rfl rfl (AWops.nil (AW.seq ?_))
  rcases itH h with ⟨c3, h⟩ | ⟨c3, h⟩
  ·refine AW.cond_yes rfl c3 (AW.skip (AW.seq (AW.block (AW.seq (AW.region ?_)))))
   obtain ⟨v4, ev4, h⟩ := bnd h
   obtain ⟨pv4, qv4, gv4⟩ := rd_some ev4
   refine s_indexOwn (d := (D.one (C.ref 1 (0 + x2.toNat * 3)))) F.u_82 F.sz_109 rfl rfl pv4 qv4 rfl ?_
   obtain ⟨R5, hR5⟩ := row_at (f := e_dossierref03_File) (sz := 3) (o := 0) e_dossierref03_File_len gv4 (e_dossierref03_File_eq v4) (by decide)
   refine s_loadN (ds := (c_dossierref03_File v4)) F.ag_109 F.sz_109 (congrArg some hR5) rfl rfl (s_alloc (cs := [(ct (⟨#[]⟩ : ByteArray)), (C.p true (.v (.slice none 0 0))), (ci 0)]) F.z_109 rfl rfl (s_store (cs' := (c_dossierref03_File v4)) rfl rfl rfl (List.cons_ne_nil _ _) rfl F.sz_109 (nl rfl) rfl (AWops.nil (AW.region (s_move (d := (si x1)) rfl (s_fieldRef F.fo_109_1 (by decide) rfl (s_load1 (c' := (cl_ e_u8 v4.B)) F.ag_22 rfl rfl ?_)))))))
   refine s_len (n := v4.B.length) F.u_22 rfl (.inr ⟨(fun _ _ h => by cases h), ⟨_, rfl⟩⟩) (s_binI (v := (.int .i64 (IntKind.i64.wrap (x1 + (v4.B.length : Int))))) rfl rfl rfl (s_assign (d := (si (IntKind.i64.wrap (x1 + (v4.B.length : Int))))) rfl (AWops.nil (AW.region (s_binI (v := (.int .i64 (IntKind.i64.wrap (x2 + 1)))) rfl rfl rfl (s_move (d := (si (IntKind.i64.wrap (x2 + 1)))) rfl (AWops.nil ?_)))))))
   exact ⟨_, ⟨22, (upd 22 (upd 22 (upd 22 (upd 22 topF 3 (si (IntKind.i64.wrap (x1 + (v4.B.length : Int))))) 9 (D.one (C.own 1 0 p0.L.length 3))) 10 (si (p0.L.length : Int))) 11 (si (IntKind.i64.wrap (x2 + 1)))), [(o_dossierref03_Disk_0 false (C.own 1 0 p0.L.length 3) p0), (or_ e_dossierref03_File p0.L)]⟩, by omega, (wg 2 [0, 1] [] hx (le_upd (le_upd (le_upd (le_upd (le_top _) (o1 .sc)) (o1 (.own rfl))) (o1 .sc)) (o1 .sc)) (ac (qo rfl) (ac (.cells id (all2_row _)) an))), by omega, IntKind.i64.wrap (x1 + (v4.B.length : Int)), IntKind.i64.wrap (x2 + 1), h, rfl⟩
  ·refine AW.cond_no rfl c3 (AW.exit (AW.seq (AW.region ?_)))
   refine s_move (d := (si x1)) rfl (s_assign (d := (si x1)) rfl (AWops.nil (AW.ret ?_)))
   obtain rfl := Option.some.inj h
   exact ⟨_, rfl, (wg 2 [0, 1] [] rfl (le_upd (le_top _) (o1 .sc)) (ac (qo rfl) (ac (.cells id (all2_row _)) an)))⟩
def dossierref03_Disk_burn.f (k : Nat) (p0 : dossierref03_Disk) : Option (Int × dossierref03_Disk) := if (p0.Burns == 0) = true then (some (70, (⟨p0.L, p0.Most, p0.Burns, true⟩ : dossierref03_Disk))) else (if (decide (p0.Burns > 0)) = true then (some (0, (⟨p0.L, p0.Most, IntKind.i64.wrap (p0.Burns - 1), p0.Off⟩ : dossierref03_Disk))) else (some (0, p0)))
theorem dossierref03_Disk_burn.meets (k : Nat) (p0 : dossierref03_Disk) (r : Int × dossierref03_Disk) (h : dossierref03_Disk_burn.f k p0 = some r) : Meets Try.prog 65 [(rf 0 0)] [(o_dossierref03_Disk_0 false (C.own 1 0 p0.L.length 3) p0), (or_ e_dossierref03_File p0.L)] (si r.1) [(o_dossierref03_Disk_0 false (C.own 1 0 r.2.L.length 3) r.2), (or_ e_dossierref03_File r.2.L)] := by
 unfold dossierref03_Disk_burn.f at h
 refine Meets.of_body (n := 23) Try.func65 rfl rfl (nl rfl) fun x hx => ?_
 replace hx : x.k = 2 := hx
 show AW _ x _ _ ⟨23, fr0 [(rf 0 0)], [(o_dossierref03_Disk_0 false (C.own 1 0 p0.L.length 3) p0), (or_ e_dossierref03_File p0.L)]⟩
 refine AW.seq (AW.region ?_)
 refine s_assign (d := (si 0)) rfl (AWops.nil (AW.seq (AW.seq (AW.region ?_))))
 refine s_move (d := (rf 0 0)) rfl (s_nilCheck (d := (rf 0 0)) rfl (.inl ⟨_, _, rfl⟩) (s_fieldRef F.fo_84_2 (by decide) rfl (s_load1 (c' := (ci p0.Burns)) F.ag_3 rfl rfl (s_binI (v := (.bool (p0.Burns == 0))) rfl rfl rfl (AWops.nil ?_)))))
 rcases itH h with ⟨c1, h⟩ | ⟨c1, h⟩
 ·refine AW.cond_yes rfl c1 (AW.seq (AW.region ?_))
  refine s_move (d := (rf 0 0)) rfl (s_nilCheck (d := (rf 0 0)) rfl (.inl ⟨_, _, rfl⟩) (s_fieldRef F.fo_84_3 (by decide) rfl (s_store (cs' := [(C.own 1 0 p0.L.length 3), (ci p0.Most), (ci p0.Burns), (cb true)]) rfl rfl rfl (List.cons_ne_nil _ _) rfl F.sz_4 (nl rfl) rfl (AWops.nil (AW.seq (AW.region (s_assign (d := (si 70)) rfl (AWops.nil (AW.ret ?_)))))))))
  obtain rfl := Option.some.inj h
  exact ⟨_, rfl, (wg 2 [0, 1] [] rfl (le_upd (le_top _) (o1 .sc)) (ac (qo rfl) (ac (.cells id (all2_row _)) an)))⟩
 ·refine AW.cond_no rfl c1 (AW.skip (AW.seq (AW.seq (AW.region ?_))))
  refine s_move (d := (rf 0 0)) rfl (s_nilCheck (d := (rf 0 0)) rfl (.inl ⟨_, _, rfl⟩) (s_fieldRef F.fo_84_2 (by decide) rfl (s_load1 (c' := (ci p0.Burns)) F.ag_3 rfl rfl (s_binI (v := (.bool (decide (p0.Burns > 0)))) rfl rfl rfl (AWops.nil ?_)))))
  rcases itH h with ⟨c2, h⟩ | ⟨c2, h⟩
  ·refine AW.cond_yes rfl c2 (AW.region ?_)
   refine s_move (d := (rf 0 0)) rfl (s_nilCheck (d := (rf 0 0)) rfl (.inl ⟨_, _, rfl⟩) (s_fieldRef F.fo_84_2 (by decide) rfl (s_load1 (c' := (ci p0.Burns)) F.ag_3 rfl rfl (s_binI (v := (.int .i64 (IntKind.i64.wrap (p0.Burns - 1)))) rfl rfl rfl (s_nilCheck (d := (rf 0 0)) rfl (.inl ⟨_, _, rfl⟩) ?_)))))
   refine s_fieldRef F.fo_84_2 (by decide) rfl (s_store (cs' := [(C.own 1 0 p0.L.length 3), (ci p0.Most), (ci (IntKind.i64.wrap (p0.Burns - 1))), (cb p0.Off)]) rfl rfl rfl (List.cons_ne_nil _ _) rfl F.sz_3 (nl rfl) rfl (AWops.nil (AW.seq (AW.region (s_assign (d := (si 0)) rfl (AWops.nil (AW.ret ?_)))))))
   obtain rfl := Option.some.inj h
   exact ⟨_, rfl, (wg 2 [0, 1] [] rfl (le_upd (le_top _) (o1 .sc)) (ac (qo rfl) (ac (.cells id (all2_row _)) an)))⟩
  ·refine AW.cond_no rfl c2 (AW.skip (AW.seq (AW.region ?_)))
   refine s_assign (d := (si 0)) rfl (AWops.nil (AW.ret ?_))
   obtain rfl := Option.some.inj h
   exact ⟨_, rfl, (wg 2 [0, 1] [] rfl (le_upd (le_top _) (o1 .sc)) (ac (qo rfl) (ac (.cells id (all2_row _)) an)))⟩
mutual
def dossierref03_Disk_place.l0 : Nat → Int → dossierref03_Disk → ByteArray → Option (Int × Bool)
 | 0, _, _, _ => none
 | k + 1, x1, p0, a1 => if (decide (x1 < (p0.L.length : Int))) = true then ((rd p0.L x1).bind fun v3 => if (Op.bytesLess v3.Name.toList a1.toList) = true then (dossierref03_Disk_place.l0 k (IntKind.i64.wrap (x1 + 1)) p0 a1) else ((rd p0.L x1).bind fun v6 => some (x1, (v6.Name.toList == a1.toList)))) else (some (x1, false))
end
def dossierref03_Disk_place.f (k : Nat) (p0 : dossierref03_Disk) (a1 : ByteArray) : Option (Int × Bool) := dossierref03_Disk_place.l0 k 0 p0 a1
theorem dossierref03_Disk_place.meets (k : Nat) (p0 : dossierref03_Disk) (a1 : ByteArray) (r : Int × Bool) (h : dossierref03_Disk_place.f k p0 a1 = some r) : Meets Try.prog 66 [(rf 0 0), (st_ a1)] [(o_dossierref03_Disk_0 false (C.own 1 0 p0.L.length 3) p0), (or_ e_dossierref03_File p0.L)] (D.tup [(si r.1), (sb r.2)]) [(o_dossierref03_Disk_0 false (C.own 1 0 p0.L.length 3) p0), (or_ e_dossierref03_File p0.L)] := by
 unfold dossierref03_Disk_place.f at h
 refine Meets.of_body (n := 48) Try.func66 rfl rfl (nl rfl) fun x hx => ?_
 replace hx : x.k = 2 := hx
 show AW _ x _ _ ⟨48, fr0 [(rf 0 0), (st_ a1)], [(o_dossierref03_Disk_0 false (C.own 1 0 p0.L.length 3) p0), (or_ e_dossierref03_File p0.L)]⟩
 refine AW.seq (AW.region ?_)
 refine s_assign (d := (si 0)) rfl (s_assign (d := (sb false)) rfl (AWops.nil (AW.seq (AW.region (s_assign (d := (si 0)) rfl (AWops.nil (AW.seq (AW.block ?_))))))))
 refine AW.loopw (st0 := ⟨48, (upd 48 (upd 48 (upd 48 topF 0 (rf 0 0)) 1 (st_ a1)) 6 (si 0)), [(o_dossierref03_Disk_0 false (C.own 1 0 p0.L.length 3) p0), (or_ e_dossierref03_File p0.L)]⟩) (fun kv st => kv ≤ k ∧ ∃ (x1 : Int), dossierref03_Disk_place.l0 kv x1 p0 a1 = some r ∧ st = ⟨48, (upd 48 (upd 48 (upd 48 topF 0 (rf 0 0)) 1 (st_ a1)) 6 (si x1)), [(o_dossierref03_Disk_0 false (C.own 1 0 p0.L.length 3) p0), (or_ e_dossierref03_File p0.L)]⟩) (k := k) (wg 2 [0, 1] [] hx (le_upd (le_upd (le_upd (le_top _) (o1 (.ref rfl))) (o1 .sc)) (o1 .sc)) (ac (qo rfl) (ac (.cells id (all2_row _)) an))) ⟨Nat.le_refl _, 0, h, rfl⟩ ?_
 rintro ql0 st ⟨hkl0, x1, h, rfl⟩
 cases ql0 with
 | zero => exact absurd h (by simp [dossierref03_Disk_place.l0])
 | succ ql0 =>
  replace h := (dossierref03_Disk_place.l0.eq_2 _ _ _ _).symm.trans h
  refine AW.seq (AW.seq (AW.region ?_))
  refine s_move (d := (si x1)) rfl (s_move (d := (rf 0 0)) rfl (s_nilCheck (d := (rf 0 0)) rfl (.inl ⟨_, _, rfl⟩) (s_fieldRef F.fo_84_0 (by decide) rfl (s_load1 (c' := (C.own 1 0 p0.L.length 3)) F.ag_82 rfl rfl (s_len (n := p0.L.length) F.u_82 rfl (.inr ⟨(fun _ _ h => by cases h), ⟨_, rfl⟩⟩) ?_)))))
  refine s_binI (v := (.bool (decide (x1 < (p0.L.length : Int))))) rfl rfl rfl (s_move (d := (sb (decide (x1 < (p0.L.length : Int))))) rfl ?_)
  rcases itH h with ⟨c2, h⟩ | ⟨c2, h⟩
  ·refine AWops.guard_yes rfl (nl rfl) rfl c2 ?_
   refine s_move (d := (rf 0 0)) rfl ?_
   refine AWops.guard_yes rfl (nl rfl) rfl c2 ?_
   refine s_nilCheck (d := (rf 0 0)) rfl (.inl ⟨_, _, rfl⟩) ?_
   refine AWops.guard_yes rfl (nl rfl) rfl c2 ?_
   refine s_fieldRef F.fo_84_0 (by decide) rfl ?_
   refine AWops.guard_yes rfl (nl rfl) rfl c2 ?_
   refine s_load1 (c' := (C.own 1 0 p0.L.length 3)) F.ag_82 rfl rfl ?_
   refine AWops.guard_yes rfl (nl rfl) rfl c2 ?_
   refine s_move (d := (si x1)) rfl ?_
   refine AWops.guard_yes rfl (nl rfl) rfl c2 ?_
   obtain ⟨v3, ev3, h⟩ := bnd h
   obtain ⟨pv3, qv3, gv3⟩ := rd_some ev3
   refine s_indexOwn (d := (D.one (C.ref 1 (0 + x1.toNat * 3)))) F.u_82 F.sz_109 rfl rfl pv3 qv3 rfl ?_
   refine AWops.guard_yes rfl (nl rfl) rfl c2 ?_
   refine s_fieldRef F.fo_109_0 (by decide) rfl ?_
   refine AWops.guard_yes rfl (nl rfl) rfl c2 ?_
   obtain ⟨R4, hR4⟩ := row_at (f := e_dossierref03_File) (sz := 3) (o := 0) e_dossierref03_File_len gv3 (e_dossierref03_File_eq v3) (by decide)
   refine s_load1 (c' := (ct v3.Name)) F.ag_9 (congrArg some hR4) rfl ?_
   refine AWops.guard_yes rfl (nl rfl) rfl c2 ?_
   refine s_move (d := (st_ a1)) rfl ?_
   refine AWops.guard_yes rfl (nl rfl) rfl c2 ?_
   refine s_binS (v := (.bool (Op.bytesLess v3.Name.toList a1.toList))) rfl rfl rfl (s_pick_yes (d := (sb (Op.bytesLess v3.Name.toList a1.toList))) rfl c2 rfl (AWops.nil ?_))
   rcases itH h with ⟨c5, h⟩ | ⟨c5, h⟩
   ·refine AW.cond_yes rfl c5 (AW.skip (AW.block (AW.region ?_)))
    refine s_move (d := (si x1)) rfl (s_binI (v := (.int .i64 (IntKind.i64.wrap (x1 + 1)))) rfl rfl rfl (s_assign (d := (si (IntKind.i64.wrap (x1 + 1)))) rfl (AWops.nil ?_)))
    exact ⟨_, ⟨48, (upd 48 (upd 48 (upd 48 topF 0 (rf 0 0)) 1 (st_ a1)) 6 (si (IntKind.i64.wrap (x1 + 1)))), [(o_dossierref03_Disk_0 false (C.own 1 0 p0.L.length 3) p0), (or_ e_dossierref03_File p0.L)]⟩, by omega, (wg 2 [0, 1] [] hx (le_upd (le_upd (le_upd (le_top _) (o1 (.ref rfl))) (o1 .sc)) (o1 .sc)) (ac (qo rfl) (ac (.cells id (all2_row _)) an))), by omega, IntKind.i64.wrap (x1 + 1), h, rfl⟩
   ·refine AW.cond_no rfl c5 (AW.exit (AW.seq ?_))
    refine AW.weak (st' := ⟨48, (upd 48 (upd 48 (upd 48 topF 0 (rf 0 0)) 1 (st_ a1)) 6 (si x1)), [(o_dossierref03_Disk_0 false (C.own 1 0 p0.L.length 3) p0), (or_ e_dossierref03_File p0.L)]⟩) (wg 2 [0, 1] [] hx (le_upd (le_upd (le_upd (le_top _) (o1 (.ref rfl))) (o1 .sc)) (o1 .sc)) (ac (qo rfl) (ac (.cells id (all2_row _)) an))) ?_
    obtain ⟨v6, ev6, h⟩ := bnd h
    obtain ⟨pv6, qv6, gv6⟩ := rd_some ev6
    obtain ⟨R7, hR7⟩ := row_at (f := e_dossierref03_File) (sz := 3) (o := 0) e_dossierref03_File_len gv6 (e_dossierref03_File_eq v6) (by decide)
    refine AW.draw (n := 48) (L := 2) [(ft 0 28 (si x1) [(6, (si x1))]), (ft 1 29 (si x1) [(6, (si x1))]), (ft 2 30 (rf 0 0) [(0, (rf 0 0))]), (ft 3 31 (rf 0 0) [(30, (rf 0 0))]), (ft 4 32 (rf 0 0) [(31, (rf 0 0))]), (5, ⟨some 33, (D.one (C.own 1 0 p0.L.length 3)), [(32, (rf 0 0))], [(0, (o_dossierref03_Disk_0 false (C.own 1 0 p0.L.length 3) p0))], [], none⟩), (ft 6 34 (si (p0.L.length : Int)) [(33, (D.one (C.own 1 0 p0.L.length 3)))]), (ft 7 35 (sb (decide (x1 < (p0.L.length : Int)))) [(29, (si x1)), (34, (si (p0.L.length : Int)))]), (ft 8 36 (sb (decide (x1 < (p0.L.length : Int)))) [(35, (sb (decide (x1 < (p0.L.length : Int)))))]), (ft 9 37 (rf 0 0) [(0, (rf 0 0)), (36, (sb (decide (x1 < (p0.L.length : Int)))))]), (ft 10 38 (rf 0 0) [(36, (sb (decide (x1 < (p0.L.length : Int))))), (37, (rf 0 0))]), (ft 11 39 (rf 0 0) [(36, (sb (decide (x1 < (p0.L.length : Int))))), (38, (rf 0 0))]), (12, ⟨some 40, (D.one (C.own 1 0 p0.L.length 3)), [(36, (sb (decide (x1 < (p0.L.length : Int))))), (39, (rf 0 0))], [(0, (o_dossierref03_Disk_0 false (C.own 1 0 p0.L.length 3) p0))], [], none⟩), (ft 13 41 (si x1) [(6, (si x1)), (36, (sb (decide (x1 < (p0.L.length : Int)))))]), (14, ⟨some 42, (D.one (C.ref 1 (0 + x1.toNat * 3))), [(36, (sb (decide (x1 < (p0.L.length : Int))))), (40, (D.one (C.own 1 0 p0.L.length 3))), (41, (si x1))], [(1, (or_ e_dossierref03_File p0.L))], [], none⟩), (ft 15 43 (D.one (C.ref 1 (0 + x1.toNat * 3 + 0))) [(36, (sb (decide (x1 < (p0.L.length : Int))))), (42, (D.one (C.ref 1 (0 + x1.toNat * 3))))]), (16, ⟨some 44, (st_ v6.Name), [(36, (sb (decide (x1 < (p0.L.length : Int))))), (43, (D.one (C.ref 1 (0 + x1.toNat * 3 + 0))))], [(1, (or_ e_dossierref03_File p0.L))], [], none⟩), (ft 17 45 (st_ a1) [(1, (st_ a1)), (36, (sb (decide (x1 < (p0.L.length : Int)))))]), (ft 18 46 (sb (v6.Name.toList == a1.toList)) [(36, (sb (decide (x1 < (p0.L.length : Int))))), (44, (st_ v6.Name)), (45, (st_ a1))]), (ft 19 47 (sb (v6.Name.toList == a1.toList)) [(36, (sb (decide (x1 < (p0.L.length : Int))))), (46, (sb (v6.Name.toList == a1.toList)))]), (ft 20 4 (si x1) [(28, (si x1))]), (ft 21 5 (sb (v6.Name.toList == a1.toList)) [(47, (sb (v6.Name.toList == a1.toList)))])] [[], [], [], [2], [2, 3], [2, 3, 4], [2, 3, 4, 5], [1, 2, 3, 4, 5, 6], [1, 2, 3, 4, 5, 6, 7], [1, 2, 3, 4, 5, 6, 7, 8], [1, 2, 3, 4, 5, 6, 7, 8, 9], [1, 2, 3, 4, 5, 6, 7, 8, 9, 10], [1, 2, 3, 4, 5, 6, 7, 8, 9, 10, 11], [1, 2, 3, 4, 5, 6, 7, 8], [1, 2, 3, 4, 5, 6, 7, 8, 9, 10, 11, 12, 13], [1, 2, 3, 4, 5, 6, 7, 8, 9, 10, 11, 12, 13, 14], [1, 2, 3, 4, 5, 6, 7, 8, 9, 10, 11, 12, 13, 14, 15], [1, 2, 3, 4, 5, 6, 7, 8], [1, 2, 3, 4, 5, 6, 7, 8, 9, 10, 11, 12, 13, 14, 15, 16, 17], [1, 2, 3, 4, 5, 6, 7, 8, 9, 10, 11, 12, 13, 14, 15, 16, 17, 18], (.range 9), (.range 21)] (nl rfl) [0, 0, 0, 1, 2, 3, 4, 5, 6, 8, 9, 10, 11, 8, 12, 13, 14, 8, 15, 16, 7, 17] rfl (TK := []) rfl AllK.nil' (by repeat (first | refine fC ⟨?_, ?_⟩ ?_ | refine sC rfl ?_ | refine hC rfl ?_ | trivial)) ?_ ?_
    ·refine y8 ?_ ?_ ?_ ?_ ?_ ?_ ?_ ?_ (y8 ?_ ?_ ?_ ?_ ?_ ?_ ?_ ?_ (y4 ?_ ?_ ?_ ?_ (y2 ?_ ?_ yN)))
     ·intro K _ f w u k
      show Wp K ⟨48, (upd 48 f 6 (si x1)), _⟩
      refine s_move (d := (si x1)) rfl k
     ·intro K _ f w u k
      show Wp K ⟨48, (upd 48 f 6 (si x1)), _⟩
      refine s_move (d := (si x1)) rfl k
     ·intro K _ f w u k
      show Wp K ⟨48, (upd 48 f 0 (rf 0 0)), _⟩
      refine s_move (d := (rf 0 0)) rfl k
     ·intro K _ f w u k
      show Wp K ⟨48, (upd 48 f 30 (rf 0 0)), [_, _]⟩
      refine s_nilCheck (d := (rf 0 0)) rfl (.inl ⟨_, _, rfl⟩) k
     ·intro K _ f w u k
      show Wp K ⟨48, (upd 48 f 31 (rf 0 0)), [_, _]⟩
      refine s_fieldRef F.fo_84_0 (by decide) rfl k
     ·intro K _ f w u k
      show Wp K ⟨48, (upd 48 f 32 (rf 0 0)), [(o_dossierref03_Disk_0 false (C.own 1 0 p0.L.length 3) p0), _]⟩
      refine s_load1 (c' := (C.own 1 0 p0.L.length 3)) F.ag_82 rfl rfl k
     ·intro K _ f w u k
      show Wp K ⟨48, (upd 48 f 33 (D.one (C.own 1 0 p0.L.length 3))), [_, _]⟩
      refine s_len (n := p0.L.length) F.u_82 rfl (.inr ⟨(fun _ _ h => by cases h), ⟨_, rfl⟩⟩) k
     ·intro K _ f w u k
      show Wp K ⟨48, (upd 48 (upd 48 f 34 (si (p0.L.length : Int))) 29 (si x1)), _⟩
      refine s_binI (v := (.bool (decide (x1 < (p0.L.length : Int))))) rfl rfl rfl k
     ·intro K _ f w u k
      show Wp K ⟨48, (upd 48 f 35 (sb (decide (x1 < (p0.L.length : Int))))), _⟩
      refine s_move (d := (sb (decide (x1 < (p0.L.length : Int))))) rfl k
     ·intro K _ f w u k
      show Wp K ⟨48, (upd 48 (upd 48 f 36 (sb (decide (x1 < (p0.L.length : Int))))) 0 (rf 0 0)), _⟩
      refine AWops.guard_yes rfl (nl rfl) rfl c2 ?_
      refine s_move (d := (rf 0 0)) rfl k
     ·intro K _ f w u k
      show Wp K ⟨48, (upd 48 (upd 48 f 37 (rf 0 0)) 36 (sb (decide (x1 < (p0.L.length : Int))))), [_, _]⟩
      refine AWops.guard_yes rfl (nl rfl) rfl c2 ?_
      refine s_nilCheck (d := (rf 0 0)) rfl (.inl ⟨_, _, rfl⟩) k
     ·intro K _ f w u k
      show Wp K ⟨48, (upd 48 (upd 48 f 38 (rf 0 0)) 36 (sb (decide (x1 < (p0.L.length : Int))))), [_, _]⟩
      refine AWops.guard_yes rfl (nl rfl) rfl c2 ?_
      refine s_fieldRef F.fo_84_0 (by decide) rfl k
     ·intro K _ f w u k
      show Wp K ⟨48, (upd 48 (upd 48 f 39 (rf 0 0)) 36 (sb (decide (x1 < (p0.L.length : Int))))), [(o_dossierref03_Disk_0 false (C.own 1 0 p0.L.length 3) p0), _]⟩
      refine AWops.guard_yes rfl (nl rfl) rfl c2 ?_
      refine s_load1 (c' := (C.own 1 0 p0.L.length 3)) F.ag_82 rfl rfl k
     ·intro K _ f w u k
      show Wp K ⟨48, (upd 48 (upd 48 f 36 (sb (decide (x1 < (p0.L.length : Int))))) 6 (si x1)), _⟩
      refine AWops.guard_yes rfl (nl rfl) rfl c2 ?_
      refine s_move (d := (si x1)) rfl k
     ·intro K _ f w u k
      show Wp K ⟨48, (upd 48 (upd 48 (upd 48 f 41 (si x1)) 40 (D.one (C.own 1 0 p0.L.length 3))) 36 (sb (decide (x1 < (p0.L.length : Int))))), [_, (or_ e_dossierref03_File p0.L)]⟩
      refine AWops.guard_yes rfl (nl rfl) rfl c2 ?_
      refine s_indexOwn (d := (D.one (C.ref 1 (0 + x1.toNat * 3)))) F.u_82 F.sz_109 rfl rfl pv6 qv6 rfl k
     ·intro K _ f w u k
      show Wp K ⟨48, (upd 48 (upd 48 f 42 (D.one (C.ref 1 (0 + x1.toNat * 3)))) 36 (sb (decide (x1 < (p0.L.length : Int))))), [_, _]⟩
      refine AWops.guard_yes rfl (nl rfl) rfl c2 ?_
      refine s_fieldRef F.fo_109_0 (by decide) rfl k
     ·intro K _ f w u k
      show Wp K ⟨48, (upd 48 (upd 48 f 43 (D.one (C.ref 1 (0 + x1.toNat * 3 + 0)))) 36 (sb (decide (x1 < (p0.L.length : Int))))), [_, (or_ e_dossierref03_File p0.L)]⟩
      refine AWops.guard_yes rfl (nl rfl) rfl c2 ?_
      refine s_load1 (c' := (ct v6.Name)) F.ag_9 (congrArg some hR7) rfl k
     ·intro K _ f w u k
      show Wp K ⟨48, (upd 48 (upd 48 f 36 (sb (decide (x1 < (p0.L.length : Int))))) 1 (st_ a1)), _⟩
      refine AWops.guard_yes rfl (nl rfl) rfl c2 ?_
      refine s_move (d := (st_ a1)) rfl k
     ·intro K _ f w u k
      show Wp K ⟨48, (upd 48 (upd 48 (upd 48 f 45 (st_ a1)) 44 (st_ v6.Name)) 36 (sb (decide (x1 < (p0.L.length : Int))))), [_, _]⟩
      refine AWops.guard_yes rfl (nl rfl) rfl c2 ?_
      refine s_binS (v := (.bool (v6.Name.toList == a1.toList))) rfl rfl rfl k
     ·intro K _ f w u k
      show Wp K ⟨48, (upd 48 (upd 48 f 46 (sb (v6.Name.toList == a1.toList))) 36 (sb (decide (x1 < (p0.L.length : Int))))), _⟩
      refine s_pick_yes (d := (sb (v6.Name.toList == a1.toList))) rfl c2 rfl k
     ·intro K _ f w u k
      show Wp K ⟨48, (upd 48 f 28 (si x1)), _⟩
      refine s_assign (d := (si x1)) rfl k
     ·intro K _ f w u k
      show Wp K ⟨48, (upd 48 f 47 (sb (v6.Name.toList == a1.toList))), _⟩
      refine s_assign (d := (sb (v6.Name.toList == a1.toList))) rfl k
    ·refine AWops.weak (st' := ⟨48, (upd 48 (upd 48 topF 4 (si x1)) 5 (sb (v6.Name.toList == a1.toList))), [(o_dossierref03_Disk_0 false (C.own 1 0 p0.L.length 3) p0), (or_ e_dossierref03_File p0.L)]⟩) (wg 2 [0, 1] [] hx (le_upd (le_upd (le_top _) (o1 .sc)) (o1 .sc)) (ac (qo rfl) (ac (.cells id (all2_row _)) an))) (AWops.nil (AW.ret ?_))
     obtain rfl := Option.some.inj h
     exact ⟨_, rfl, (wg 2 [0, 1] [] rfl (le_upd (le_top _) (DLe.tup (ac (TLe.one .sc) (ac (TLe.one .sc) an)))) (ac (qo rfl) (ac (.cells id (all2_row _)) an)))⟩
  ·iterate 10 refine AWops.guard_no rfl (nl rfl) rfl c2 ?_
   refine s_pick_no (d := (sb false)) rfl c2 rfl (AWops.nil ?_)
   refine AW.cond_no rfl rfl (AW.exit (AW.seq ?_))
   refine AW.weak (st' := ⟨48, (upd 48 (upd 48 (upd 48 topF 0 (rf 0 0)) 1 (st_ a1)) 6 (si x1)), [(o_dossierref03_Disk_0 false (C.own 1 0 p0.L.length 3) p0), (or_ e_dossierref03_File p0.L)]⟩) (wg 2 [0, 1] [] hx (le_upd (le_upd (le_upd (le_top _) (o1 (.ref rfl))) (o1 .sc)) (o1 .sc)) (ac (qo rfl) (ac (.cells id (all2_row _)) an))) ?_
   refine AW.draw (n := 48) (L := 2) [(ft 0 28 (si x1) [(6, (si x1))]), (ft 1 29 (si x1) [(6, (si x1))]), (ft 2 30 (rf 0 0) [(0, (rf 0 0))]), (ft 3 31 (rf 0 0) [(30, (rf 0 0))]), (ft 4 32 (rf 0 0) [(31, (rf 0 0))]), (5, ⟨some 33, (D.one (C.own 1 0 p0.L.length 3)), [(32, (rf 0 0))], [(0, (o_dossierref03_Disk_0 false (C.own 1 0 p0.L.length 3) p0))], [], none⟩), (ft 6 34 (si (p0.L.length : Int)) [(33, (D.one (C.own 1 0 p0.L.length 3)))]), (ft 7 35 (sb (decide (x1 < (p0.L.length : Int)))) [(29, (si x1)), (34, (si (p0.L.length : Int)))]), (ft 8 36 (sb (decide (x1 < (p0.L.length : Int)))) [(35, (sb (decide (x1 < (p0.L.length : Int)))))]), (ft 9 37 (D.tup []) [(36, (sb (decide (x1 < (p0.L.length : Int)))))]), (ft 10 38 (D.tup []) [(36, (sb (decide (x1 < (p0.L.length : Int)))))]), (ft 11 39 (D.tup []) [(36, (sb (decide (x1 < (p0.L.length : Int)))))]), (ft 12 40 (D.tup []) [(36, (sb (decide (x1 < (p0.L.length : Int)))))]), (ft 13 41 (D.tup []) [(36, (sb (decide (x1 < (p0.L.length : Int)))))]), (ft 14 42 (D.tup []) [(36, (sb (decide (x1 < (p0.L.length : Int)))))]), (ft 15 43 (D.tup []) [(36, (sb (decide (x1 < (p0.L.length : Int)))))]), (ft 16 44 (D.tup []) [(36, (sb (decide (x1 < (p0.L.length : Int)))))]), (ft 17 45 (D.tup []) [(36, (sb (decide (x1 < (p0.L.length : Int)))))]), (ft 18 46 (D.tup []) [(36, (sb (decide (x1 < (p0.L.length : Int)))))]), (ft 19 47 (sb false) [(36, (sb (decide (x1 < (p0.L.length : Int)))))]), (ft 20 4 (si x1) [(28, (si x1))]), (ft 21 5 (sb false) [(47, (sb false))])] [[], [], [], [2], [2, 3], [2, 3, 4], [2, 3, 4, 5], [1, 2, 3, 4, 5, 6], [1, 2, 3, 4, 5, 6, 7], [1, 2, 3, 4, 5, 6, 7, 8], [1, 2, 3, 4, 5, 6, 7, 8, 9], [1, 2, 3, 4, 5, 6, 7, 8, 9, 10], [1, 2, 3, 4, 5, 6, 7, 8, 9, 10, 11], [1, 2, 3, 4, 5, 6, 7, 8], [1, 2, 3, 4, 5, 6, 7, 8, 9, 10, 11, 12, 13], [1, 2, 3, 4, 5, 6, 7, 8, 9, 10, 11, 12, 13, 14], [1, 2, 3, 4, 5, 6, 7, 8, 9, 10, 11, 12, 13, 14, 15], [1, 2, 3, 4, 5, 6, 7, 8], [1, 2, 3, 4, 5, 6, 7, 8, 9, 10, 11, 12, 13, 14, 15, 16, 17], [1, 2, 3, 4, 5, 6, 7, 8, 9, 10, 11, 12, 13, 14, 15, 16, 17, 18], (.range 9), (.range 21)] (nl rfl) [0, 0, 0, 1, 2, 3, 4, 5, 6, 8, 9, 10, 11, 8, 12, 13, 14, 8, 15, 16, 7, 17] rfl (TK := []) rfl AllK.nil' (by repeat (first | refine fC ⟨?_, ?_⟩ ?_ | refine sC rfl ?_ | refine hC rfl ?_ | trivial)) ?_ ?_
   ·refine y8 ?_ ?_ ?_ ?_ ?_ ?_ ?_ ?_ (y8 ?_ ?_ ?_ ?_ ?_ ?_ ?_ ?_ (y4 ?_ ?_ ?_ ?_ (y2 ?_ ?_ yN)))
    ·intro K _ f w u k
     show Wp K ⟨48, (upd 48 f 6 (si x1)), _⟩
     refine s_move (d := (si x1)) rfl k
    ·intro K _ f w u k
     show Wp K ⟨48, (upd 48 f 6 (si x1)), _⟩
     refine s_move (d := (si x1)) rfl k
    ·intro K _ f w u k
     show Wp K ⟨48, (upd 48 f 0 (rf 0 0)), _⟩
     refine s_move (d := (rf 0 0)) rfl k
    ·intro K _ f w u k
     show Wp K ⟨48, (upd 48 f 30 (rf 0 0)), [_, _]⟩
     refine s_nilCheck (d := (rf 0 0)) rfl (.inl ⟨_, _, rfl⟩) k
    ·intro K _ f w u k
     show Wp K ⟨48, (upd 48 f 31 (rf 0 0)), [_, _]⟩
     refine s_fieldRef F.fo_84_0 (by decide) rfl k
    ·intro K _ f w u k
     show Wp K ⟨48, (upd 48 f 32 (rf 0 0)), [(o_dossierref03_Disk_0 false (C.own 1 0 p0.L.length 3) p0), _]⟩
     refine s_load1 (c' := (C.own 1 0 p0.L.length 3)) F.ag_82 rfl rfl k
    ·intro K _ f w u k
     show Wp K ⟨48, (upd 48 f 33 (D.one (C.own 1 0 p0.L.length 3))), [_, _]⟩
     refine s_len (n := p0.L.length) F.u_82 rfl (.inr ⟨(fun _ _ h => by cases h), ⟨_, rfl⟩⟩) k
    ·intro K _ f w u k
     show Wp K ⟨48, (upd 48 (upd 48 f 34 (si (p0.L.length : Int))) 29 (si x1)), _⟩
     refine s_binI (v := (.bool (decide (x1 < (p0.L.length : Int))))) rfl rfl rfl k
    ·intro K _ f w u k
     show Wp K ⟨48, (upd 48 f 35 (sb (decide (x1 < (p0.L.length : Int))))), _⟩
     refine s_move (d := (sb (decide (x1 < (p0.L.length : Int))))) rfl k
    ·intro K _ f w u k
     show Wp K ⟨48, (upd 48 f 36 (sb (decide (x1 < (p0.L.length : Int))))), _⟩
     refine AWops.guard_no rfl (nl rfl) rfl c2 k
    ·intro K _ f w u k
     show Wp K ⟨48, (upd 48 f 36 (sb (decide (x1 < (p0.L.length : Int))))), _⟩
     refine AWops.guard_no rfl (nl rfl) rfl c2 k
    ·intro K _ f w u k
     show Wp K ⟨48, (upd 48 f 36 (sb (decide (x1 < (p0.L.length : Int))))), _⟩
     refine AWops.guard_no rfl (nl rfl) rfl c2 k
    ·intro K _ f w u k
     show Wp K ⟨48, (upd 48 f 36 (sb (decide (x1 < (p0.L.length : Int))))), _⟩
     refine AWops.guard_no rfl (nl rfl) rfl c2 k
    ·intro K _ f w u k
     show Wp K ⟨48, (upd 48 f 36 (sb (decide (x1 < (p0.L.length : Int))))), _⟩
     refine AWops.guard_no rfl (nl rfl) rfl c2 k
    ·intro K _ f w u k
     show Wp K ⟨48, (upd 48 f 36 (sb (decide (x1 < (p0.L.length : Int))))), _⟩
     refine AWops.guard_no rfl (nl rfl) rfl c2 k
    ·intro K _ f w u k
     show Wp K ⟨48, (upd 48 f 36 (sb (decide (x1 < (p0.L.length : Int))))), _⟩
     refine AWops.guard_no rfl (nl rfl) rfl c2 k
    ·intro K _ f w u k
     show Wp K ⟨48, (upd 48 f 36 (sb (decide (x1 < (p0.L.length : Int))))), _⟩
     refine AWops.guard_no rfl (nl rfl) rfl c2 k
    ·intro K _ f w u k
     show Wp K ⟨48, (upd 48 f 36 (sb (decide (x1 < (p0.L.length : Int))))), _⟩
     refine AWops.guard_no rfl (nl rfl) rfl c2 k
    ·intro K _ f w u k
     show Wp K ⟨48, (upd 48 f 36 (sb (decide (x1 < (p0.L.length : Int))))), _⟩
     refine AWops.guard_no rfl (nl rfl) rfl c2 k
    ·intro K _ f w u k
     show Wp K ⟨48, (upd 48 f 36 (sb (decide (x1 < (p0.L.length : Int))))), _⟩
     refine s_pick_no (d := (sb false)) rfl c2 rfl k
    ·intro K _ f w u k
     show Wp K ⟨48, (upd 48 f 28 (si x1)), _⟩
     refine s_assign (d := (si x1)) rfl k
    ·intro K _ f w u k
     show Wp K ⟨48, (upd 48 f 47 (sb false)), _⟩
     refine s_assign (d := (sb false)) rfl k
   ·refine AWops.weak (st' := ⟨48, (upd 48 (upd 48 topF 4 (si x1)) 5 (sb false)), [(o_dossierref03_Disk_0 false (C.own 1 0 p0.L.length 3) p0), (or_ e_dossierref03_File p0.L)]⟩) (wg 2 [0, 1] [] hx (le_upd (le_upd (le_top _) (o1 .sc)) (o1 .sc)) (ac (qo rfl) (ac (.cells id (all2_row _)) an))) (AWops.nil (AW.ret ?_))
    obtain rfl := Option.some.inj h
    exact ⟨_, rfl, (wg 2 [0, 1] [] rfl (le_upd (le_top _) (DLe.tup (ac (TLe.one .sc) (ac (TLe.one .sc) an)))) (ac (qo rfl) (ac (.cells id (all2_row _)) an)))⟩
def dossierref03_Disk_set_67.f (k : Nat) (p0 : dossierref03_Disk) (a1 : dossierref03_File) : Option dossierref03_Disk := (dossierref03_Disk_place.f k p0 a1.Name).bind fun r1 => if r1.2 = true then ((rd p0.L r1.1).bind fun v3 => some (⟨p0.L.set r1.1.toNat a1, p0.Most, p0.Burns, p0.Off⟩ : dossierref03_Disk)) else (if (decide (0 ≤ 0 ∧ 0 ≤ r1.1 ∧ r1.1 ≤ (p0.L.length : Int))) = true then (if (decide (([] : List dossierref03_File).length + (sub p0.L 0 r1.1).length ≤ 2932031007402)) = true then (if (decide ((sub p0.L 0 r1.1).length + ([a1] : List dossierref03_File).length ≤ 2932031007402)) = true then (if (decide (0 ≤ r1.1 ∧ r1.1 ≤ (p0.L.length : Int) ∧ (p0.L.length : Int) ≤ (p0.L.length : Int))) = true then (if (decide (((sub p0.L 0 r1.1) ++ ([a1] : List dossierref03_File)).length + (sub p0.L r1.1 (p0.L.length : Int)).length ≤ 2932031007402)) = true then (some (⟨((sub p0.L 0 r1.1) ++ ([a1] : List dossierref03_File)) ++ (sub p0.L r1.1 (p0.L.length : Int)), p0.Most, p0.Burns, p0.Off⟩ : dossierref03_Disk)) else none) else none) else none) else none) else none)
theorem dossierref03_Disk_set_67.meets (k : Nat) (p0 : dossierref03_Disk) (a1 : dossierref03_File) (r : dossierref03_Disk) (h : dossierref03_Disk_set_67.f k p0 a1 = some r) : Meets Try.prog 67 [(rf 0 0), (D.agg (c_dossierref03_File a1))] [(o_dossierref03_Disk_0 false (C.own 1 0 p0.L.length 3) p0), (or_ e_dossierref03_File p0.L)] (D.tup []) [(o_dossierref03_Disk_0 false (C.own 2 0 r.L.length 3) r), none, (or_ e_dossierref03_File r.L)] := by
 unfold dossierref03_Disk_set_67.f at h
 refine Meets.of_body (n := 42) Try.func67 rfl rfl (nl rfl) fun x hx => ?_
 replace hx : x.k = 2 := hx
 show AW _ x _ _ ⟨42, fr0 [(rf 0 0), (D.agg (c_dossierref03_File a1))], [(o_dossierref03_Disk_0 false (C.own 1 0 p0.L.length 3) p0), (or_ e_dossierref03_File p0.L)]⟩
 refine AW.weak (st' := ⟨42, (upd 42 (upd 42 topF 0 (rf 0 0)) 1 (D.agg (c_dossierref03_File a1))), [(o_dossierref03_Disk_0 false (C.own 2 0 p0.L.length 3) p0), none, (or_ e_dossierref03_File p0.L)]⟩) (Weak.genL (kk := 2) [0, 1, 1] [] hx rfl (by decide) rfl rfl rfl rfl (le_upd (le_upd (le_top _) (o1 (.ref rfl))) (.t (.agg (ac .sc (ac .same (ac .sc an)))))) (ac (qo rfl) (ac (.none _) (ac (.cells id (all2_row _)) an)))) (AW.seq (AW.region ?_))
 refine s_box (cs := (c_dossierref03_File a1)) rfl (List.cons_ne_nil _ _) rfl (AWops.nil (AW.seq (AW.region ?_)))
 refine s_move (d := (rf 0 0)) rfl (s_fieldRef F.fo_109_0 (by decide) rfl (s_load1 (c' := (ct a1.Name)) F.ag_9 rfl rfl ?_))
 obtain ⟨r1, er1, h⟩ := bnd h
 refine cc [0, 2] [(o_dossierref03_Disk_0 false (C.own 2 0 p0.L.length 3) p0), none, (or_ e_dossierref03_File p0.L), (some (AObj.cells true (c_dossierref03_File a1)))] (D.tup [(si r1.1), (sb r1.2)]) F.ca_66 rfl rfl (ac (.one (.ref rfl)) (ac (.one .sc) an)) (ac (.cells (ac (.own rfl) (ac .sc (ac .sc (ac .sc an))))) (ac (.cells (lend_row _)) an)) (dossierref03_Disk_place.meets _ p0 a1.Name r1 er1) (s_move (d := (D.tup [(si r1.1), (sb r1.2)])) rfl (s_extract (d := (si r1.1)) rfl rfl (s_extract (d := (sb r1.2)) rfl rfl (s_assign (d := (si r1.1)) rfl (s_assign (d := (sb r1.2)) rfl (AWops.nil (AW.seq (AW.seq (AW.region ?_)))))))))
 refine s_move (d := (sb r1.2)) rfl (AWops.nil ?_)
 rcases itH h with ⟨c2, h⟩ | ⟨c2, h⟩
 ·refine AW.cond_yes rfl c2 (AW.seq ?_)
  refine AW.weak (st' := ⟨42, (upd 42 (upd 42 (upd 42 topF 0 (rf 0 0)) 3 (rf 2 0)) 4 (si r1.1)), [(o_dossierref03_Disk_0 false (C.own 3 0 p0.L.length 3) p0), none, (some (AObj.cells true (c_dossierref03_File a1))), (or_ e_dossierref03_File p0.L)]⟩) (wg 2 [0, 1, 3, 2] [] hx (le_upd (le_upd (le_upd (le_top _) (o1 (.ref rfl))) (o1 (.ref rfl))) (o1 .sc)) (ac (qo rfl) (ac (.none _) (ac (.cells (fun _ => rfl) (ac .sc (ac .same (ac .sc an)))) (ac (.cells id (all2_row _)) an))))) ?_
  obtain ⟨v3, ev3, h⟩ := bnd h
  obtain ⟨pv3, qv3, gv3⟩ := rd_some ev3
  refine AW.draw (n := 42) (L := 4) [(ft 0 14 (rf 0 0) [(0, (rf 0 0))]), (ft 1 15 (rf 0 0) [(14, (rf 0 0))]), (ft 2 16 (rf 0 0) [(15, (rf 0 0))]), (3, ⟨some 17, (D.one (C.own 3 0 p0.L.length 3)), [(16, (rf 0 0))], [(0, (o_dossierref03_Disk_0 false (C.own 3 0 p0.L.length 3) p0))], [], none⟩), (ft 4 18 (si r1.1) [(4, (si r1.1))]), (5, ⟨some 19, (D.agg (c_dossierref03_File a1)), [(3, (rf 2 0))], [(2, (some (AObj.cells true (c_dossierref03_File a1))))], [], none⟩), (6, ⟨some 20, (D.one (C.ref 3 (0 + r1.1.toNat * 3))), [(17, (D.one (C.own 3 0 p0.L.length 3))), (18, (si r1.1))], [(3, (or_ e_dossierref03_File p0.L))], [], none⟩), (7, ⟨none, (D.one C.top), [(19, (D.agg (c_dossierref03_File a1))), (20, (D.one (C.ref 3 (0 + r1.1.toNat * 3))))], [(3, (or_ e_dossierref03_File p0.L))], [(3, (some (AObj.cells false (rowC e_dossierref03_File (p0.L.set r1.1.toNat a1)))))], none⟩)] [[], [0], [0, 1], [0, 1, 2], [], [], (.range 6), (.range 7)] (nl rfl) [0, 1, 2, 3, 0, 0, 4, 5] rfl (TK := []) rfl AllK.nil' (by repeat (first | refine fC ⟨?_, ?_⟩ ?_ | refine sC rfl ?_ | refine hC rfl ?_ | trivial)) ?_ ?_
  ·refine y8 ?_ ?_ ?_ ?_ ?_ ?_ ?_ ?_ yN
   ·intro K _ f w u k
    show Wp K ⟨42, (upd 42 f 0 (rf 0 0)), _⟩
    refine s_move (d := (rf 0 0)) rfl k
   ·intro K _ f w u k
    show Wp K ⟨42, (upd 42 f 14 (rf 0 0)), [_, _, _, _]⟩
    refine s_nilCheck (d := (rf 0 0)) rfl (.inl ⟨_, _, rfl⟩) k
   ·intro K _ f w u k
    show Wp K ⟨42, (upd 42 f 15 (rf 0 0)), [_, _, _, _]⟩
    refine s_fieldRef F.fo_84_0 (by decide) rfl k
   ·intro K _ f w u k
    show Wp K ⟨42, (upd 42 f 16 (rf 0 0)), [(o_dossierref03_Disk_0 false (C.own 3 0 p0.L.length 3) p0), _, _, _]⟩
    refine s_load1 (c' := (C.own 3 0 p0.L.length 3)) F.ag_82 rfl rfl k
   ·intro K _ f w u k
    show Wp K ⟨42, (upd 42 f 4 (si r1.1)), _⟩
    refine s_move (d := (si r1.1)) rfl k
   ·intro K _ f w u k
    show Wp K ⟨42, (upd 42 f 3 (rf 2 0)), [_, _, (some (AObj.cells true (c_dossierref03_File a1))), _]⟩
    refine s_loadN (ds := (c_dossierref03_File a1)) F.ag_109 F.sz_109 rfl rfl rfl k
   ·intro K _ f w u k
    show Wp K ⟨42, (upd 42 (upd 42 f 18 (si r1.1)) 17 (D.one (C.own 3 0 p0.L.length 3))), [_, _, _, (or_ e_dossierref03_File p0.L)]⟩
    refine s_indexOwn (d := (D.one (C.ref 3 (0 + r1.1.toNat * 3)))) F.u_82 F.sz_109 rfl rfl pv3 qv3 rfl k
   ·intro K _ f w u k
    show Wp K ⟨42, (upd 42 (upd 42 f 20 (D.one (C.ref 3 (0 + r1.1.toNat * 3)))) 19 (D.agg (c_dossierref03_File a1))), [_, _, _, (or_ e_dossierref03_File p0.L)]⟩
    refine s_store (cs' := rowC e_dossierref03_File (p0.L.set r1.1.toNat a1)) rfl rfl rfl (List.cons_ne_nil _ _) rfl F.sz_109 (by rw [row_len e_dossierref03_File_len]; have := (List.getElem?_eq_some_iff.mp gv3).1; show _ + 3 ≤ _; omega) (row_set (f := e_dossierref03_File) (sz := 3) (o := 0) (ds := (p_dossierref03_File a1)) e_dossierref03_File_len gv3 rfl (nl rfl) rfl) ?_
    exact k
  ·refine AWops.weak (st' := ⟨42, topF, [(o_dossierref03_Disk_0 false (C.own 2 0 p0.L.length 3) p0), none, (some (AObj.cells false (rowC e_dossierref03_File (p0.L.set r1.1.toNat a1))))]⟩) (wg 2 [0, 1, 3] [] hx (le_top _) (ac (.cells id (ac (CLe.ownN rfl (by simp)) (ac .sc (ac .sc (ac .sc an))))) (ac (.none _) (ac (.cells id (all2_row _)) an)))) (AWops.nil (AW.ret ?_))
   obtain rfl := Option.some.inj h
   exact ⟨_, rfl, (wg 2 [0, 1, 2] [] rfl (le_upd (le_top _) (DLe.tup an)) (ac (.cells id (ac (CLe.ownN rfl (by simp)) (ac .sc (ac .sc (ac .sc an))))) (ac (.none _) (ac (.cells id (all2_row _)) an))))⟩
 ·refine AW.cond_no rfl c2 (AW.skip ?_)
  refine AW.weak (st' := ⟨42, (upd 42 (upd 42 (upd 42 (upd 42 (upd 42 (upd 42 (upd 42 (upd 42 (upd 42 (upd 42 (upd 42 (upd 42 (upd 42 topF 0 (rf 0 0)) 1 (D.agg (c_dossierref03_File a1))) 3 (rf 2 0)) 4 (si r1.1)) 5 (sb r1.2)) 6 (D.tup [(si r1.1), (sb r1.2)])) 7 (rf 0 0)) 8 (rf 2 0)) 9 (st_ a1.Name)) 10 (D.tup [(si r1.1), (sb r1.2)])) 11 (si r1.1)) 12 (sb r1.2)) 13 (sb r1.2)), [(some (AObj.cells false (c_dossierref03_Disk p0))), none, (some (AObj.cells true (c_dossierref03_File a1)))]⟩) (wg 2 [0, 1, 3] [2] hx (le_upd (le_upd (le_upd (le_upd (le_upd (le_upd (le_upd (le_upd (le_upd (le_upd (le_upd (le_upd (le_upd (le_top _) (o1 (.ref rfl))) (.t (.agg (ac .sc (ac .same (ac .sc an)))))) (o1 (.ref rfl))) (o1 .sc)) (o1 .sc)) (DLe.tup (ac (TLe.one .sc) (ac (TLe.one .sc) an)))) (o1 (.ref rfl))) (o1 (.ref rfl))) (o1 .sc)) (DLe.tup (ac (TLe.one .sc) (ac (TLe.one .sc) an)))) (o1 .sc)) (o1 .sc)) (o1 .sc)) (ac (.cells id (ac (CLe.frz e_dossierref03_File_len rfl rfl rfl) (ac .sc (ac .sc (ac .sc an))))) (ac (.none _) (ac (.cells (fun _ => rfl) (ac .sc (ac .same (ac .sc an)))) an)))) ?_
  refine AW.weak (st' := ⟨42, (upd 42 (upd 42 (upd 42 topF 0 (rf 0 0)) 3 (rf 2 0)) 4 (si r1.1)), [(some (AObj.cells false (c_dossierref03_Disk p0))), none, (some (AObj.cells true (c_dossierref03_File a1)))]⟩) (wg 2 [0, 1, 2] [] hx (le_upd (le_upd (le_upd (le_top _) (o1 (.ref rfl))) (o1 (.ref rfl))) (o1 .sc)) (ac (.cells id (ac .same (ac .sc (ac .sc (ac .sc an))))) (ac (.none _) (ac (.cells (fun _ => rfl) (ac .sc (ac .same (ac .sc an)))) an)))) ?_
  obtain ⟨c4, h⟩ := gdH h
  have dc4 := of_decide_eq_true c4
  obtain ⟨c5, h⟩ := gdH h
  have dc5 := of_decide_eq_true c5
  obtain ⟨c6, h⟩ := gdH h
  have dc6 := of_decide_eq_true c6
  obtain ⟨c7, h⟩ := gdH h
  have dc7 := of_decide_eq_true c7
  obtain ⟨c8, h⟩ := gdH h
  have dc8 := of_decide_eq_true c8
  refine AW.draw (n := 42) (L := 8) [(ft 0 21 (rf 0 0) [(0, (rf 0 0))]), (1, ⟨some 22, (D.one (C.own 3 0 (([] : List dossierref03_File).length) 3)), [], [], [(3, (some (AObj.cells true (rowC e_dossierref03_File ([] : List dossierref03_File)))))], some 3⟩), (ft 2 23 (rf 0 0) [(0, (rf 0 0))]), (ft 3 24 (rf 0 0) [(23, (rf 0 0))]), (ft 4 25 (rf 0 0) [(24, (rf 0 0))]), (5, ⟨some 26, (ds_ e_dossierref03_File p0.L), [(25, (rf 0 0))], [(0, (some (AObj.cells false (c_dossierref03_Disk p0))))], [], none⟩), (ft 6 27 (si r1.1) [(4, (si r1.1))]), (ft 7 28 (D.one (C.p false (.sl (sub p0.L 0 r1.1).length ((sub p0.L 0 r1.1).flatMap e_dossierref03_File)))) [(26, (ds_ e_dossierref03_File p0.L)), (27, (si r1.1))]), (8, ⟨some 29, (D.one (C.own 4 0 ((sub p0.L 0 r1.1).length) 3)), [(22, (D.one (C.own 3 0 (([] : List dossierref03_File).length) 3))), (28, (D.one (C.p false (.sl (sub p0.L 0 r1.1).length ((sub p0.L 0 r1.1).flatMap e_dossierref03_File)))))], [(3, (some (AObj.cells true (rowC e_dossierref03_File ([] : List dossierref03_File)))))], [(3, none), (4, (some (AObj.cells true (rowC e_dossierref03_File (sub p0.L 0 r1.1)))))], some 4⟩), (9, ⟨some 30, (D.agg (c_dossierref03_File a1)), [(3, (rf 2 0))], [(2, (some (AObj.cells true (c_dossierref03_File a1))))], [], none⟩), (10, ⟨some 31, (D.one (C.own 5 0 (([a1] : List dossierref03_File).length) 3)), [(30, (D.agg (c_dossierref03_File a1)))], [], [(5, (some (AObj.cells true (rowC e_dossierref03_File ([a1] : List dossierref03_File)))))], some 5⟩), (11, ⟨some 32, (D.one (C.own 6 0 (((sub p0.L 0 r1.1) ++ ([a1] : List dossierref03_File)).length) 3)), [(29, (D.one (C.own 4 0 ((sub p0.L 0 r1.1).length) 3))), (31, (D.one (C.own 5 0 (([a1] : List dossierref03_File).length) 3)))], [(4, (some (AObj.cells true (rowC e_dossierref03_File (sub p0.L 0 r1.1))))), (5, (some (AObj.cells true (rowC e_dossierref03_File ([a1] : List dossierref03_File)))))], [(4, none), (6, (some (AObj.cells true (rowC e_dossierref03_File ((sub p0.L 0 r1.1) ++ ([a1] : List dossierref03_File))))))], some 6⟩), (ft 12 33 (rf 0 0) [(0, (rf 0 0))]), (ft 13 34 (rf 0 0) [(33, (rf 0 0))]), (ft 14 35 (rf 0 0) [(34, (rf 0 0))]), (15, ⟨some 36, (ds_ e_dossierref03_File p0.L), [(35, (rf 0 0))], [(0, (some (AObj.cells false (c_dossierref03_Disk p0))))], [], none⟩), (ft 16 37 (si r1.1) [(4, (si r1.1))]), (ft 17 38 (D.one (C.p false (.sl (sub p0.L r1.1 (p0.L.length : Int)).length ((sub p0.L r1.1 (p0.L.length : Int)).flatMap e_dossierref03_File)))) [(36, (ds_ e_dossierref03_File p0.L)), (37, (si r1.1))]), (18, ⟨some 39, (D.one (C.own 7 0 ((((sub p0.L 0 r1.1) ++ ([a1] : List dossierref03_File)) ++ (sub p0.L r1.1 (p0.L.length : Int))).length) 3)), [(32, (D.one (C.own 6 0 (((sub p0.L 0 r1.1) ++ ([a1] : List dossierref03_File)).length) 3))), (38, (D.one (C.p false (.sl (sub p0.L r1.1 (p0.L.length : Int)).length ((sub p0.L r1.1 (p0.L.length : Int)).flatMap e_dossierref03_File)))))], [(6, (some (AObj.cells true (rowC e_dossierref03_File ((sub p0.L 0 r1.1) ++ ([a1] : List dossierref03_File))))))], [(6, none), (7, (some (AObj.cells true (rowC e_dossierref03_File (((sub p0.L 0 r1.1) ++ ([a1] : List dossierref03_File)) ++ (sub p0.L r1.1 (p0.L.length : Int)))))))], some 7⟩), (ft 19 40 (rf 0 0) [(21, (rf 0 0))]), (ft 20 41 (rf 0 0) [(40, (rf 0 0))]), (21, ⟨none, (D.one C.top), [(39, (D.one (C.own 7 0 ((((sub p0.L 0 r1.1) ++ ([a1] : List dossierref03_File)) ++ (sub p0.L r1.1 (p0.L.length : Int))).length) 3))), (41, (rf 0 0))], [(0, (some (AObj.cells false (c_dossierref03_Disk p0))))], [(0, (o_dossierref03_Disk_0 false (C.own 7 0 ((((sub p0.L 0 r1.1) ++ ([a1] : List dossierref03_File)) ++ (sub p0.L r1.1 (p0.L.length : Int))).length) 3) p0))], none⟩)] [[], [], [], [2], [2, 3], [2, 3, 4], [], [2, 3, 4, 5, 6], [1, 2, 3, 4, 5, 6, 7], [], [9], [1, 2, 3, 4, 5, 6, 7, 8, 9, 10], [], [12], [12, 13], [12, 13, 14], [], [12, 13, 14, 15, 16], [1, 2, 3, 4, 5, 6, 7, 8, 9, 10, 11, 12, 13, 14, 15, 16, 17], (.range 19), (.range 20), (.range 21)] (nl rfl) [0, 0, 0, 1, 2, 3, 0, 4, 5, 0, 1, 6, 0, 1, 2, 3, 0, 4, 7, 8, 9, 10] rfl (TK := [(1, 3), (8, 4), (10, 5), (11, 6), (18, 7)]) rfl (AllK.cons' ⟨(tk_upd (tk_upd (tk_upd tk_top rfl) rfl) rfl), (tC rfl (tC rfl (tC rfl AllT.nil'))), (by repeat (first | refine fC (.inl rfl) ?_ | refine fC (.inr rfl) ?_ | refine fC (.inr (by unfold tkFoot; simp only [List.all_cons, List.all_nil, tkO_row, Bool.and_true, Bool.true_and]; rfl)) ?_ | trivial))⟩ (AllK.cons' ⟨(tk_upd (tk_upd (tk_upd tk_top rfl) rfl) rfl), (tC rfl (tC rfl (tC rfl AllT.nil'))), (by repeat (first | refine fC (.inl rfl) ?_ | refine fC (.inr rfl) ?_ | refine fC (.inr (by unfold tkFoot; simp only [List.all_cons, List.all_nil, tkO_row, Bool.and_true, Bool.true_and]; rfl)) ?_ | trivial))⟩ (AllK.cons' ⟨(tk_upd (tk_upd (tk_upd tk_top rfl) rfl) rfl), (tC rfl (tC rfl (tC rfl AllT.nil'))), (by repeat (first | refine fC (.inl rfl) ?_ | refine fC (.inr rfl) ?_ | refine fC (.inr (by unfold tkFoot; simp only [List.all_cons, List.all_nil, tkO_row, Bool.and_true, Bool.true_and]; rfl)) ?_ | trivial))⟩ (AllK.cons' ⟨(tk_upd (tk_upd (tk_upd tk_top rfl) rfl) rfl), (tC rfl (tC rfl (tC rfl AllT.nil'))), (by repeat (first | refine fC (.inl rfl) ?_ | refine fC (.inr rfl) ?_ | refine fC (.inr (by unfold tkFoot; simp only [List.all_cons, List.all_nil, tkO_row, Bool.and_true, Bool.true_and]; rfl)) ?_ | trivial))⟩ (AllK.cons' ⟨(tk_upd (tk_upd (tk_upd tk_top rfl) rfl) rfl), (tC rfl (tC rfl (tC rfl AllT.nil'))), (by repeat (first | refine fC (.inl rfl) ?_ | refine fC (.inr rfl) ?_ | refine fC (.inr (by unfold tkFoot; simp only [List.all_cons, List.all_nil, tkO_row, Bool.and_true, Bool.true_and]; rfl)) ?_ | trivial))⟩ AllK.nil'))))) (by repeat (first | refine fC ⟨?_, ?_⟩ ?_ | refine sC rfl ?_ | refine hC rfl ?_ | trivial)) ?_ ?_
  ·refine y8 ?_ ?_ ?_ ?_ ?_ ?_ ?_ ?_ (y8 ?_ ?_ ?_ ?_ ?_ ?_ ?_ ?_ (y4 ?_ ?_ ?_ ?_ (y2 ?_ ?_ yN)))
   ·intro K _ f w u k
    show Wp K ⟨42, (upd 42 f 0 (rf 0 0)), _⟩
    refine s_move (d := (rf 0 0)) rfl k
   ·intro K _ f w u k
    show Wp K ⟨42, f, [_, _, _, _, _, _, _, _]⟩
    refine s_buildSlice (n := 0) (ps := []) (cs := rowC e_dossierref03_File ([] : List dossierref03_File)) F.u_82 F.sz_109 F.z_109 rfl rfl (by decide) (by decide) rfl rfl ?_
    refine AWops.weak (st' := ⟨42, (upd 42 f 22 (D.one (C.own 3 0 (([] : List dossierref03_File).length) 3))), [(w 0), (w 1), (w 2), (some (AObj.cells true (rowC e_dossierref03_File ([] : List dossierref03_File)))), (w 4), (w 5), (w 6), (w 7)]⟩) (wg 2 [0, 1, 2, 8, 4, 5, 6, 7] [] hx (le_upd2 (le_ok (p := 3) (L := 8) rfl (u 3 rfl).1) (o1 (.own rfl))) (ac (oq 3 8 (u 3 rfl) 0) (ac (oq 3 8 (u 3 rfl) 1) (ac (oq 3 8 (u 3 rfl) 2) (ac (.cells (fun _ => rfl) (all2_row _)) (ac (oq 3 8 (u 3 rfl) 4) (ac (oq 3 8 (u 3 rfl) 5) (ac (oq 3 8 (u 3 rfl) 6) (ac (oq 3 8 (u 3 rfl) 7) an))))))))) k
   ·intro K _ f w u k
    show Wp K ⟨42, (upd 42 f 0 (rf 0 0)), _⟩
    refine s_move (d := (rf 0 0)) rfl k
   ·intro K _ f w u k
    show Wp K ⟨42, (upd 42 f 23 (rf 0 0)), [_, _, _, _, _, _, _, _]⟩
    refine s_nilCheck (d := (rf 0 0)) rfl (.inl ⟨_, _, rfl⟩) k
   ·intro K _ f w u k
    show Wp K ⟨42, (upd 42 f 24 (rf 0 0)), [_, _, _, _, _, _, _, _]⟩
    refine s_fieldRef F.fo_84_0 (by decide) rfl k
   ·intro K _ f w u k
    show Wp K ⟨42, (upd 42 f 25 (rf 0 0)), [(some (AObj.cells false (c_dossierref03_Disk p0))), _, _, _, _, _, _, _]⟩
    refine s_load1 (c' := (cl_ e_dossierref03_File p0.L)) F.ag_82 rfl rfl k
   ·intro K _ f w u k
    show Wp K ⟨42, (upd 42 f 4 (si r1.1)), _⟩
    refine s_move (d := (si r1.1)) rfl k
   ·intro K _ f w u k
    show Wp K ⟨42, (upd 42 (upd 42 f 27 (si r1.1)) 26 (ds_ e_dossierref03_File p0.L)), [_, _, _, _, _, _, _, _]⟩
    refine t_sliceImm (a := 0) (b := r1.1) F.u_82 F.sz_109 e_dossierref03_File_len rfl (by omega) (by omega) (by omega) .no (.yes rfl (by omega) rfl) k
   ·intro K _ f w u k
    show Wp K ⟨42, (upd 42 (upd 42 f 28 (D.one (C.p false (.sl (sub p0.L 0 r1.1).length ((sub p0.L 0 r1.1).flatMap e_dossierref03_File))))) 22 (D.one (C.own 3 0 (([] : List dossierref03_File).length) 3))), [_, _, _, (some (AObj.cells true (rowC e_dossierref03_File ([] : List dossierref03_File)))), _, _, _, _]⟩
    refine t_append (xs := ([] : List dossierref03_File)) (ys := sub p0.L 0 r1.1) (zs := sub p0.L 0 r1.1) (H' := [(w 0), (w 1), (w 2), none, (w 4), (w 5), (w 6), (w 7), (some (AObj.cells true (rowC e_dossierref03_File (sub p0.L 0 r1.1))))]) F.u_82 F.in_109 rfl e_dossierref03_File_len (.own rfl rfl) .imm F.u_82 (by omega) (by omega) rfl rfl ?_
    refine AWops.weak (st' := ⟨42, (upd 42 (upd 42 (upd 42 f 28 (D.one (C.p false (.sl (sub p0.L 0 r1.1).length ((sub p0.L 0 r1.1).flatMap e_dossierref03_File))))) 22 (D.one (C.own 3 0 (([] : List dossierref03_File).length) 3))) 29 (D.one (C.own 4 0 ((sub p0.L 0 r1.1).length) 3))), [(w 0), (w 1), (w 2), none, (some (AObj.cells true (rowC e_dossierref03_File (sub p0.L 0 r1.1)))), (w 5), (w 6), (w 7)]⟩) (wg 2 [0, 1, 2, 3, 8, 5, 6, 7] [] hx (le_upd2 (le_ok (p := 4) (L := 8) rfl (u 4 rfl).1) (o1 (.own rfl))) (ac (oq 4 8 (u 4 rfl) 0) (ac (oq 4 8 (u 4 rfl) 1) (ac (oq 4 8 (u 4 rfl) 2) (ac (.none _) (ac (.cells (fun _ => rfl) (all2_row _)) (ac (oq 4 8 (u 4 rfl) 5) (ac (oq 4 8 (u 4 rfl) 6) (ac (oq 4 8 (u 4 rfl) 7) an))))))))) k
   ·intro K _ f w u k
    show Wp K ⟨42, (upd 42 f 3 (rf 2 0)), [_, _, (some (AObj.cells true (c_dossierref03_File a1))), _, _, _, _, _]⟩
    refine s_loadN (ds := (c_dossierref03_File a1)) F.ag_109 F.sz_109 rfl rfl rfl k
   ·intro K _ f w u k
    show Wp K ⟨42, (upd 42 f 30 (D.agg (c_dossierref03_File a1))), [_, _, _, _, _, _, _, _]⟩
    refine s_buildSlice (n := 1) (ps := [(0, (D.agg (c_dossierref03_File a1)))]) (cs := rowC e_dossierref03_File ([a1] : List dossierref03_File)) F.u_82 F.sz_109 F.z_109 rfl rfl (by decide) (by decide) rfl rfl ?_
    refine AWops.weak (st' := ⟨42, (upd 42 (upd 42 f 30 (D.agg (c_dossierref03_File a1))) 31 (D.one (C.own 5 0 (([a1] : List dossierref03_File).length) 3))), [(w 0), (w 1), (w 2), (w 3), (w 4), (some (AObj.cells true (rowC e_dossierref03_File ([a1] : List dossierref03_File)))), (w 6), (w 7)]⟩) (wg 2 [0, 1, 2, 3, 4, 8, 6, 7] [] hx (le_upd2 (le_ok (p := 5) (L := 8) rfl (u 5 rfl).1) (o1 (.own rfl))) (ac (oq 5 8 (u 5 rfl) 0) (ac (oq 5 8 (u 5 rfl) 1) (ac (oq 5 8 (u 5 rfl) 2) (ac (oq 5 8 (u 5 rfl) 3) (ac (oq 5 8 (u 5 rfl) 4) (ac (.cells (fun _ => rfl) (all2_row _)) (ac (oq 5 8 (u 5 rfl) 6) (ac (oq 5 8 (u 5 rfl) 7) an))))))))) k
   ·intro K _ f w u k
    show Wp K ⟨42, (upd 42 (upd 42 f 31 (D.one (C.own 5 0 (([a1] : List dossierref03_File).length) 3))) 29 (D.one (C.own 4 0 ((sub p0.L 0 r1.1).length) 3))), [_, _, _, _, (some (AObj.cells true (rowC e_dossierref03_File (sub p0.L 0 r1.1)))), (some (AObj.cells true (rowC e_dossierref03_File ([a1] : List dossierref03_File)))), _, _]⟩
    refine t_append (xs := sub p0.L 0 r1.1) (ys := ([a1] : List dossierref03_File)) (zs := (sub p0.L 0 r1.1) ++ ([a1] : List dossierref03_File)) (H' := [(w 0), (w 1), (w 2), (w 3), none, (some (AObj.cells true (rowC e_dossierref03_File ([a1] : List dossierref03_File)))), (w 6), (w 7), (some (AObj.cells true (rowC e_dossierref03_File ((sub p0.L 0 r1.1) ++ ([a1] : List dossierref03_File)))))]) F.u_82 F.in_109 rfl e_dossierref03_File_len (.own rfl rfl) (.own rfl rfl) F.u_82 (by omega) (by omega) rfl rfl ?_
    refine AWops.weak (st' := ⟨42, (upd 42 (upd 42 (upd 42 f 31 (D.one (C.own 5 0 (([a1] : List dossierref03_File).length) 3))) 29 (D.one (C.own 4 0 ((sub p0.L 0 r1.1).length) 3))) 32 (D.one (C.own 6 0 (((sub p0.L 0 r1.1) ++ ([a1] : List dossierref03_File)).length) 3))), [(w 0), (w 1), (w 2), (w 3), none, (some (AObj.cells true (rowC e_dossierref03_File ([a1] : List dossierref03_File)))), (some (AObj.cells true (rowC e_dossierref03_File ((sub p0.L 0 r1.1) ++ ([a1] : List dossierref03_File))))), (w 7)]⟩) (wg 2 [0, 1, 2, 3, 4, 5, 8, 7] [] hx (le_upd2 (le_ok (p := 6) (L := 8) rfl (u 6 rfl).1) (o1 (.own rfl))) (ac (oq 6 8 (u 6 rfl) 0) (ac (oq 6 8 (u 6 rfl) 1) (ac (oq 6 8 (u 6 rfl) 2) (ac (oq 6 8 (u 6 rfl) 3) (ac (.none _) (ac (.cells (fun _ => rfl) (all2_row _)) (ac (.cells (fun _ => rfl) (all2_row _)) (ac (oq 6 8 (u 6 rfl) 7) an))))))))) k
   ·intro K _ f w u k
    show Wp K ⟨42, (upd 42 f 0 (rf 0 0)), _⟩
    refine s_move (d := (rf 0 0)) rfl k
   ·intro K _ f w u k
    show Wp K ⟨42, (upd 42 f 33 (rf 0 0)), [_, _, _, _, _, _, _, _]⟩
    refine s_nilCheck (d := (rf 0 0)) rfl (.inl ⟨_, _, rfl⟩) k
   ·intro K _ f w u k
    show Wp K ⟨42, (upd 42 f 34 (rf 0 0)), [_, _, _, _, _, _, _, _]⟩
    refine s_fieldRef F.fo_84_0 (by decide) rfl k
   ·intro K _ f w u k
    show Wp K ⟨42, (upd 42 f 35 (rf 0 0)), [(some (AObj.cells false (c_dossierref03_Disk p0))), _, _, _, _, _, _, _]⟩
    refine s_load1 (c' := (cl_ e_dossierref03_File p0.L)) F.ag_82 rfl rfl k
   ·intro K _ f w u k
    show Wp K ⟨42, (upd 42 f 4 (si r1.1)), _⟩
    refine s_move (d := (si r1.1)) rfl k
   ·intro K _ f w u k
    show Wp K ⟨42, (upd 42 (upd 42 f 37 (si r1.1)) 36 (ds_ e_dossierref03_File p0.L)), [_, _, _, _, _, _, _, _]⟩
    refine t_sliceImm (a := r1.1) (b := (p0.L.length : Int)) F.u_82 F.sz_109 e_dossierref03_File_len rfl (by omega) (by omega) (by omega) (.yes rfl (by omega) rfl) .no k
   ·intro K _ f w u k
    show Wp K ⟨42, (upd 42 (upd 42 f 38 (D.one (C.p false (.sl (sub p0.L r1.1 (p0.L.length : Int)).length ((sub p0.L r1.1 (p0.L.length : Int)).flatMap e_dossierref03_File))))) 32 (D.one (C.own 6 0 (((sub p0.L 0 r1.1) ++ ([a1] : List dossierref03_File)).length) 3))), [_, _, _, _, _, _, (some (AObj.cells true (rowC e_dossierref03_File ((sub p0.L 0 r1.1) ++ ([a1] : List dossierref03_File))))), _]⟩
    refine t_append (xs := (sub p0.L 0 r1.1) ++ ([a1] : List dossierref03_File)) (ys := sub p0.L r1.1 (p0.L.length : Int)) (zs := ((sub p0.L 0 r1.1) ++ ([a1] : List dossierref03_File)) ++ (sub p0.L r1.1 (p0.L.length : Int))) (H' := [(w 0), (w 1), (w 2), (w 3), (w 4), (w 5), none, (w 7), (some (AObj.cells true (rowC e_dossierref03_File (((sub p0.L 0 r1.1) ++ ([a1] : List dossierref03_File)) ++ (sub p0.L r1.1 (p0.L.length : Int))))))]) F.u_82 F.in_109 rfl e_dossierref03_File_len (.own rfl rfl) .imm F.u_82 (by omega) (by omega) rfl rfl ?_
    refine AWops.weak (st' := ⟨42, (upd 42 (upd 42 (upd 42 f 38 (D.one (C.p false (.sl (sub p0.L r1.1 (p0.L.length : Int)).length ((sub p0.L r1.1 (p0.L.length : Int)).flatMap e_dossierref03_File))))) 32 (D.one (C.own 6 0 (((sub p0.L 0 r1.1) ++ ([a1] : List dossierref03_File)).length) 3))) 39 (D.one (C.own 7 0 ((((sub p0.L 0 r1.1) ++ ([a1] : List dossierref03_File)) ++ (sub p0.L r1.1 (p0.L.length : Int))).length) 3))), [(w 0), (w 1), (w 2), (w 3), (w 4), (w 5), none, (some (AObj.cells true (rowC e_dossierref03_File (((sub p0.L 0 r1.1) ++ ([a1] : List dossierref03_File)) ++ (sub p0.L r1.1 (p0.L.length : Int))))))]⟩) (wg 2 [0, 1, 2, 3, 4, 5, 6, 8] [] hx (le_upd2 (le_ok (p := 7) (L := 8) rfl (u 7 rfl).1) (o1 (.own rfl))) (ac (oq 7 8 (u 7 rfl) 0) (ac (oq 7 8 (u 7 rfl) 1) (ac (oq 7 8 (u 7 rfl) 2) (ac (oq 7 8 (u 7 rfl) 3) (ac (oq 7 8 (u 7 rfl) 4) (ac (oq 7 8 (u 7 rfl) 5) (ac (.none _) (ac (.cells (fun _ => rfl) (all2_row _)) an))))))))) k
   ·intro K _ f w u k
    show Wp K ⟨42, (upd 42 f 21 (rf 0 0)), [_, _, _, _, _, _, _, _]⟩
    refine s_nilCheck (d := (rf 0 0)) rfl (.inl ⟨_, _, rfl⟩) k
   ·intro K _ f w u k
    show Wp K ⟨42, (upd 42 f 40 (rf 0 0)), [_, _, _, _, _, _, _, _]⟩
    refine s_fieldRef F.fo_84_0 (by decide) rfl k
   ·intro K _ f w u k
    show Wp K ⟨42, (upd 42 (upd 42 f 41 (rf 0 0)) 39 (D.one (C.own 7 0 ((((sub p0.L 0 r1.1) ++ ([a1] : List dossierref03_File)) ++ (sub p0.L r1.1 (p0.L.length : Int))).length) 3))), [(some (AObj.cells false (c_dossierref03_Disk p0))), _, _, _, _, _, _, _]⟩
    refine s_store (cs' := [(C.own 7 0 ((((sub p0.L 0 r1.1) ++ ([a1] : List dossierref03_File)) ++ (sub p0.L r1.1 (p0.L.length : Int))).length) 3), (ci p0.Most), (ci p0.Burns), (cb p0.Off)]) rfl rfl rfl (List.cons_ne_nil _ _) rfl F.sz_82 (nl rfl) rfl k
  ·refine AWops.weak (st' := ⟨42, topF, [(o_dossierref03_Disk_0 false (C.own 2 0 ((((sub p0.L 0 r1.1) ++ ([a1] : List dossierref03_File)) ++ (sub p0.L r1.1 (p0.L.length : Int))).length) 3) p0), none, (some (AObj.cells true (rowC e_dossierref03_File (((sub p0.L 0 r1.1) ++ ([a1] : List dossierref03_File)) ++ (sub p0.L r1.1 (p0.L.length : Int))))))]⟩) (wg 2 [0, 1, 7] [] hx (le_top _) (ac (qo rfl) (ac (.none _) (ac (.cells (fun _ => rfl) (all2_row _)) an)))) (AWops.nil ?_)
   obtain rfl := Option.some.inj h
   exact ⟨_, rfl, (wg 2 [0, 1, 2] [] rfl (le_upd (le_top _) (DLe.tup an)) (ac (qo rfl) (ac (.none _) (ac (.cells (fun _ => rfl) (all2_row _)) an))))⟩
end Go.Abs.GenO
