import Derived.Test.YtdpakmmkponfmaaAbsZ
import Derived.Test.YtdpakmmkponfmaaAbsQD
import Derived.Test.YtdpakmmkponfmaaAbsOP
import Derived.Test.YtdpakmmkponfmaaAbsAP
import Derived.Test.YtdpakmmkponfmaaAbsSK
import Derived.Test.YtdpakmmkponfmaaProg
set_option linter.unusedVariables false
set_option linter.unusedSimpArgs false
set_option maxRecDepth 100000
set_option maxHeartbeats 4000000
namespace Go.Abs.GenZ
open Go.Abs Go.Proofs
structure dossierplain_Step where
 Op : Int
 N : Int
 Name : ByteArray
 To : ByteArray
 B : List Int
 Keeps : List Int
deriving Inhabited
abbrev c_dossierplain_Step (x : dossierplain_Step) : List C := [(C.p true (.v (.int .i64 x.Op))), (C.p true (.v (.int .i64 x.N))), (C.p true (.v (.string x.Name))), (C.p true (.v (.string x.To))), (C.p false (.sl x.B.length (x.B.flatMap e_u8))), (C.p false (.sl x.Keeps.length (x.Keeps.flatMap e_i64)))]
abbrev p_dossierplain_Step (x : dossierplain_Step) : List P := [P.v (.int .i64 x.Op), P.v (.int .i64 x.N), P.v (.string x.Name), P.v (.string x.To), P.sl x.B.length (x.B.flatMap e_u8), P.sl x.Keeps.length (x.Keeps.flatMap e_i64)]
def e_dossierplain_Step (x : dossierplain_Step) : List P := e_i64 x.Op ++ e_i64 x.N ++ e_str x.Name ++ e_str x.To ++ (e_sl e_u8) x.B ++ (e_sl e_i64) x.Keeps
theorem e_dossierplain_Step_eq (x : dossierplain_Step) : e_dossierplain_Step x = [P.v (.int .i64 x.Op), P.v (.int .i64 x.N), P.v (.string x.Name), P.v (.string x.To), P.sl x.B.length (x.B.flatMap e_u8), P.sl x.Keeps.length (x.Keeps.flatMap e_i64)] := rfl
theorem e_dossierplain_Step_len (x : dossierplain_Step) : (e_dossierplain_Step x).length = 6 := by rw [e_dossierplain_Step_eq]; rfl
structure dossierlaw04_Do where
 Op : Int
 B : List Int
 Step : dossierplain_Step
deriving Inhabited
abbrev c_dossierlaw04_Do (x : dossierlaw04_Do) : List C := [(C.p true (.v (.int .i64 x.Op))), (C.p false (.sl x.B.length (x.B.flatMap e_u8))), (C.p true (.v (.int .i64 x.Step.Op))), (C.p true (.v (.int .i64 x.Step.N))), (C.p true (.v (.string x.Step.Name))), (C.p true (.v (.string x.Step.To))), (C.p false (.sl x.Step.B.length (x.Step.B.flatMap e_u8))), (C.p false (.sl x.Step.Keeps.length (x.Step.Keeps.flatMap e_i64)))]
abbrev p_dossierlaw04_Do (x : dossierlaw04_Do) : List P := [P.v (.int .i64 x.Op), P.sl x.B.length (x.B.flatMap e_u8), P.v (.int .i64 x.Step.Op), P.v (.int .i64 x.Step.N), P.v (.string x.Step.Name), P.v (.string x.Step.To), P.sl x.Step.B.length (x.Step.B.flatMap e_u8), P.sl x.Step.Keeps.length (x.Step.Keeps.flatMap e_i64)]
def e_dossierlaw04_Do (x : dossierlaw04_Do) : List P := e_i64 x.Op ++ (e_sl e_u8) x.B ++ e_dossierplain_Step x.Step
theorem e_dossierlaw04_Do_eq (x : dossierlaw04_Do) : e_dossierlaw04_Do x = [P.v (.int .i64 x.Op), P.sl x.B.length (x.B.flatMap e_u8), P.v (.int .i64 x.Step.Op), P.v (.int .i64 x.Step.N), P.v (.string x.Step.Name), P.v (.string x.Step.To), P.sl x.Step.B.length (x.Step.B.flatMap e_u8), P.sl x.Step.Keeps.length (x.Step.Keeps.flatMap e_i64)] := by
 simp only [e_dossierlaw04_Do, e_dossierplain_Step_eq]
 rfl
theorem e_dossierlaw04_Do_len (x : dossierlaw04_Do) : (e_dossierlaw04_Do x).length = 8 := by rw [e_dossierlaw04_Do_eq]; rfl
structure vdisk_file where
 b : List Int
 sure : Int
deriving Inhabited
abbrev c_vdisk_file (x : vdisk_file) : List C := [(C.p false (.sl x.b.length (x.b.flatMap e_u8))), (C.p true (.v (.int .i64 x.sure)))]
abbrev p_vdisk_file (x : vdisk_file) : List P := [P.sl x.b.length (x.b.flatMap e_u8), P.v (.int .i64 x.sure)]
def e_vdisk_file (x : vdisk_file) : List P := (e_sl e_u8) x.b ++ e_i64 x.sure
theorem e_vdisk_file_eq (x : vdisk_file) : e_vdisk_file x = [P.sl x.b.length (x.b.flatMap e_u8), P.v (.int .i64 x.sure)] := rfl
theorem e_vdisk_file_len (x : vdisk_file) : (e_vdisk_file x).length = 2 := by rw [e_vdisk_file_eq]; rfl
structure vdisk_Disk where
 files : List (ByteArray × vdisk_file)
 room : Int
 used : Int
 fuse : Option Int
 dead : Bool
deriving Inhabited
structure dossierref03_File where
 Name : ByteArray
 B : List Int
 Sure : Int
deriving Inhabited
abbrev c_dossierref03_File (x : dossierref03_File) : List C := [(C.p true (.v (.string x.Name))), (C.p false (.sl x.B.length (x.B.flatMap e_u8))), (C.p true (.v (.int .i64 x.Sure)))]
abbrev p_dossierref03_File (x : dossierref03_File) : List P := [P.v (.string x.Name), P.sl x.B.length (x.B.flatMap e_u8), P.v (.int .i64 x.Sure)]
def e_dossierref03_File (x : dossierref03_File) : List P := e_str x.Name ++ (e_sl e_u8) x.B ++ e_i64 x.Sure
theorem e_dossierref03_File_eq (x : dossierref03_File) : e_dossierref03_File x = [P.v (.string x.Name), P.sl x.B.length (x.B.flatMap e_u8), P.v (.int .i64 x.Sure)] := rfl
theorem e_dossierref03_File_len (x : dossierref03_File) : (e_dossierref03_File x).length = 3 := by rw [e_dossierref03_File_eq]; rfl
structure dossierref03_Disk where
 L : List dossierref03_File
 Most : Int
 Burns : Int
 Off : Bool
deriving Inhabited
abbrev c_dossierref03_Disk (x : dossierref03_Disk) : List C := [(C.p false (.sl x.L.length (x.L.flatMap e_dossierref03_File))), (C.p true (.v (.int .i64 x.Most))), (C.p true (.v (.int .i64 x.Burns))), (C.p true (.v (.bool x.Off)))]
abbrev p_dossierref03_Disk (x : dossierref03_Disk) : List P := [P.sl x.L.length (x.L.flatMap e_dossierref03_File), P.v (.int .i64 x.Most), P.v (.int .i64 x.Burns), P.v (.bool x.Off)]
def e_dossierref03_Disk (x : dossierref03_Disk) : List P := (e_sl e_dossierref03_File) x.L ++ e_i64 x.Most ++ e_i64 x.Burns ++ e_bool x.Off
theorem e_dossierref03_Disk_eq (x : dossierref03_Disk) : e_dossierref03_Disk x = [P.sl x.L.length (x.L.flatMap e_dossierref03_File), P.v (.int .i64 x.Most), P.v (.int .i64 x.Burns), P.v (.bool x.Off)] := rfl
theorem e_dossierref03_Disk_len (x : dossierref03_Disk) : (e_dossierref03_Disk x).length = 4 := by rw [e_dossierref03_Disk_eq]; rfl
structure journal_Journal where
 d : Unit
 snap : List Int
 l : List (List Int)
 stopped : Bool
deriving Inhabited
structure dossierref04_Journal where
 D : Unit
 Snap : List Int
 L : List (List Int)
 Stop : Bool
deriving Inhabited
structure dossierlaw04_pair where
 j : Option journal_Journal
 x : Option dossierref04_Journal
 d : Unit
 y : Unit
deriving Inhabited
abbrev W1 (a b c d : Int) : Int := IntKind.i64.wrap ((IntKind.i64.wrap ((IntKind.i64.wrap ((IntKind.i64.wrap ((IntKind.i64.wrap a) * 2 ^ 24)) + (IntKind.i64.wrap ((IntKind.i64.wrap b) * 2 ^ 16)))) + (IntKind.i64.wrap ((IntKind.i64.wrap c) * 2 ^ 8)))) + (IntKind.i64.wrap d))
abbrev lk_vdisk_file (k : ByteArray) (m : List (ByteArray × vdisk_file)) : vdisk_file := (mget k m).getD ((⟨([] : List Int), 0⟩ : vdisk_file) : vdisk_file)
abbrev o_vdisk_Disk_03 (fr : Bool) (c0 c3 : C) (x : vdisk_Disk) : Option AObj := some (AObj.cells fr [c0, (C.p true (.v (.int .i64 x.room))), (C.p true (.v (.int .i64 x.used))), c3, (C.p true (.v (.bool x.dead)))])
abbrev o_dossierref03_Disk_0 (fr : Bool) (c0 : C) (x : dossierref03_Disk) : Option AObj := some (AObj.cells fr [c0, (C.p true (.v (.int .i64 x.Most))), (C.p true (.v (.int .i64 x.Burns))), (C.p true (.v (.bool x.Off)))])
abbrev o_journal_Journal_02 (fr : Bool) (c0 c2 : C) (x : journal_Journal) : Option AObj := some (AObj.cells fr [c0, (C.p false (.sl x.snap.length (x.snap.flatMap e_u8))), c2, (C.p true (.v (.bool x.stopped)))])
abbrev o_dossierref04_Journal_02 (fr : Bool) (c0 c2 : C) (x : dossierref04_Journal) : Option AObj := some (AObj.cells fr [c0, (C.p false (.sl x.Snap.length (x.Snap.flatMap e_u8))), c2, (C.p true (.v (.bool x.Stop)))])
namespace F
theorem u_3 : Try.prog.underlying 3 = some (.int .i64) := by kernel_rfl
theorem u_24 : Try.prog.underlying 24 = some (.int .u64) := by kernel_rfl
theorem z_49 : zeroOf Try.prog 49 = some (.agg #[(.map none), (.int .i64 0), (.int .i64 0), (.pointer none), (.bool false)]) := by kernel_rfl
theorem so_49 : structOk Try.prog 49 = true := by kernel_rfl
theorem z_52 : zeroOf Try.prog 52 = some (.agg #[(.slice none 0 0), (.int .i64 0), (.int .i64 0), (.bool false)]) := by kernel_rfl
theorem so_52 : structOk Try.prog 52 = true := by kernel_rfl
theorem u_25 : Try.prog.underlying 25 = some (.pointer 49) := by kernel_rfl
theorem z_36 : zeroOf Try.prog 36 = some (.agg #[(.pointer none), (.pointer none), (.pointer none), (.pointer none)]) := by kernel_rfl
theorem so_36 : structOk Try.prog 36 = true := by kernel_rfl
theorem fo_36_2 : fieldOf Try.prog 36 2 = some (2, 1, false) := by kernel_rfl
theorem fo_49_0 : fieldOf Try.prog 49 0 = some (0, 1, false) := by kernel_rfl
theorem u_46 : Try.prog.underlying 46 = some (.map 9 95) := by kernel_rfl
theorem ag_46 : aggOf Try.prog 46 = some false := by kernel_rfl
theorem fo_49_4 : fieldOf Try.prog 49 4 = some (4, 1, false) := by kernel_rfl
theorem u_9 : Try.prog.underlying 9 = some (.string) := by kernel_rfl
theorem z_95 : zeroOf Try.prog 95 = some (.agg #[(.slice none 0 0), (.int .i64 0)]) := by kernel_rfl
theorem fo_49_1 : fieldOf Try.prog 49 1 = some (1, 1, false) := by kernel_rfl
theorem ag_3 : aggOf Try.prog 3 = some false := by kernel_rfl
theorem fo_49_2 : fieldOf Try.prog 49 2 = some (2, 1, false) := by kernel_rfl
theorem fo_49_3 : fieldOf Try.prog 49 3 = some (3, 1, false) := by kernel_rfl
theorem u_47 : Try.prog.underlying 47 = some (.pointer 3) := by kernel_rfl
theorem sz_4 : szOf Try.prog 4 = some 1 := by kernel_rfl
theorem sz_3 : szOf Try.prog 3 = some 1 := by kernel_rfl
theorem ag_47 : aggOf Try.prog 47 = some false := by kernel_rfl
theorem sz_95 : szOf Try.prog 95 = some 2 := by kernel_rfl
theorem ag_4 : aggOf Try.prog 4 = some false := by kernel_rfl
theorem ca_61 : callable Try.prog 61 = true := by kernel_rfl
theorem fo_95_0 : fieldOf Try.prog 95 0 = some (0, 1, false) := by kernel_rfl
theorem u_22 : Try.prog.underlying 22 = some (.slice 5) := by kernel_rfl
theorem ca_60 : callable Try.prog 60 = true := by kernel_rfl
theorem ca_59 : callable Try.prog 59 = true := by kernel_rfl
theorem z_68 : zeroOf Try.prog 68 = some (.agg #[(.pointer none), (.slice none 0 0), (.slice none 0 0), (.bool false)]) := by kernel_rfl
theorem so_68 : structOk Try.prog 68 = true := by kernel_rfl
theorem in_5 : infoQ Try.prog 5 = some (some (.int .u8 0), 1, 1) := by kernel_rfl
theorem sz_5 : szOf Try.prog 5 = some 1 := by kernel_rfl
theorem z_5 : zeroOf Try.prog 5 = some (.int .u8 0) := by kernel_rfl
theorem ca_27 : callable Try.prog 27 = true := by kernel_rfl
theorem ag_22 : aggOf Try.prog 22 = some false := by kernel_rfl
theorem u_5 : Try.prog.underlying 5 = some (.int .u8) := by kernel_rfl
theorem ag_5 : aggOf Try.prog 5 = some false := by kernel_rfl
theorem u_116 : Try.prog.underlying 116 = some (.int .u32) := by kernel_rfl
theorem z_109 : zeroOf Try.prog 109 = some (.agg #[(.int .u8 0), (.int .u8 0), (.int .u8 0), (.int .u8 0), (.int .u8 0), (.int .u8 0), (.int .u8 0), (.int .u8 0)]) := by kernel_rfl
theorem u_109 : Try.prog.underlying 109 = some (.array 8 5) := by kernel_rfl
theorem u_61 : Try.prog.underlying 61 = some (.slice 22) := by kernel_rfl
theorem sz_22 : szOf Try.prog 22 = some 1 := by kernel_rfl
theorem ca_78 : callable Try.prog 78 = true := by kernel_rfl
theorem ca_69 : callable Try.prog 69 = true := by kernel_rfl
theorem z_22 : zeroOf Try.prog 22 = some (.slice none 0 0) := by kernel_rfl
theorem ca_72 : callable Try.prog 72 = true := by kernel_rfl
theorem ca_49 : callable Try.prog 49 = true := by kernel_rfl
theorem ca_77 : callable Try.prog 77 = true := by kernel_rfl
theorem in_22 : infoQ Try.prog 22 = some (some (.slice none 0 0), 1, 24) := by kernel_rfl
theorem ca_62 : callable Try.prog 62 = true := by kernel_rfl
theorem fo_68_0 : fieldOf Try.prog 68 0 = some (0, 1, false) := by kernel_rfl
theorem fo_95_1 : fieldOf Try.prog 95 1 = some (1, 1, false) := by kernel_rfl
theorem so_95 : structOk Try.prog 95 = true := by kernel_rfl
theorem ag_95 : aggOf Try.prog 95 = some true := by kernel_rfl
theorem ca_68 : callable Try.prog 68 = true := by kernel_rfl
theorem ca_41 : callable Try.prog 41 = true := by kernel_rfl
theorem ag_25 : aggOf Try.prog 25 = some false := by kernel_rfl
theorem fo_68_1 : fieldOf Try.prog 68 1 = some (1, 1, false) := by kernel_rfl
theorem fo_68_2 : fieldOf Try.prog 68 2 = some (2, 1, false) := by kernel_rfl
theorem sz_61 : szOf Try.prog 61 = some 1 := by kernel_rfl
theorem ca_25 : callable Try.prog 25 = true := by kernel_rfl
theorem ca_67 : callable Try.prog 67 = true := by kernel_rfl
theorem ca_39 : callable Try.prog 39 = true := by kernel_rfl
theorem ca_37 : callable Try.prog 37 = true := by kernel_rfl
theorem ca_34 : callable Try.prog 34 = true := by kernel_rfl
theorem ca_26 : callable Try.prog 26 = true := by kernel_rfl
theorem ca_24 : callable Try.prog 24 = true := by kernel_rfl
theorem ca_23 : callable Try.prog 23 = true := by kernel_rfl
theorem fo_36_3 : fieldOf Try.prog 36 3 = some (3, 1, false) := by kernel_rfl
theorem fo_52_3 : fieldOf Try.prog 52 3 = some (3, 1, false) := by kernel_rfl
theorem z_90 : zeroOf Try.prog 90 = some (.agg #[(.string ⟨#[]⟩), (.slice none 0 0), (.int .i64 0)]) := by kernel_rfl
theorem so_90 : structOk Try.prog 90 = true := by kernel_rfl
theorem sz_90 : szOf Try.prog 90 = some 3 := by kernel_rfl
theorem fo_52_0 : fieldOf Try.prog 52 0 = some (0, 1, false) := by kernel_rfl
theorem fo_90_0 : fieldOf Try.prog 90 0 = some (0, 1, false) := by kernel_rfl
theorem ag_9 : aggOf Try.prog 9 = some false := by kernel_rfl
theorem u_50 : Try.prog.underlying 50 = some (.slice 90) := by kernel_rfl
theorem ag_50 : aggOf Try.prog 50 = some false := by kernel_rfl
theorem ag_90 : aggOf Try.prog 90 = some true := by kernel_rfl
theorem ca_71 : callable Try.prog 71 = true := by kernel_rfl
theorem fo_90_1 : fieldOf Try.prog 90 1 = some (1, 1, false) := by kernel_rfl
theorem ca_63 : callable Try.prog 63 = true := by kernel_rfl
theorem fo_52_2 : fieldOf Try.prog 52 2 = some (2, 1, false) := by kernel_rfl
theorem in_90 : infoQ Try.prog 90 = some (some (.agg #[(.string ⟨#[]⟩), (.slice none 0 0), (.int .i64 0)]), 3, 48) := by kernel_rfl
theorem sz_50 : szOf Try.prog 50 = some 1 := by kernel_rfl
theorem ca_65 : callable Try.prog 65 = true := by kernel_rfl
theorem ca_64 : callable Try.prog 64 = true := by kernel_rfl
theorem ca_29 : callable Try.prog 29 = true := by kernel_rfl
theorem ca_28 : callable Try.prog 28 = true := by kernel_rfl
theorem ca_73 : callable Try.prog 73 = true := by kernel_rfl
theorem ca_74 : callable Try.prog 74 = true := by kernel_rfl
theorem fo_52_1 : fieldOf Try.prog 52 1 = some (1, 1, false) := by kernel_rfl
theorem ca_55 : callable Try.prog 55 = true := by kernel_rfl
theorem ca_66 : callable Try.prog 66 = true := by kernel_rfl
theorem ca_70 : callable Try.prog 70 = true := by kernel_rfl
theorem fo_90_2 : fieldOf Try.prog 90 2 = some (2, 1, false) := by kernel_rfl
theorem sz_9 : szOf Try.prog 9 = some 1 := by kernel_rfl
theorem ca_40 : callable Try.prog 40 = true := by kernel_rfl
theorem ca_38 : callable Try.prog 38 = true := by kernel_rfl
theorem ca_36 : callable Try.prog 36 = true := by kernel_rfl
theorem ca_50 : callable Try.prog 50 = true := by kernel_rfl
theorem z_63 : zeroOf Try.prog 63 = some (.agg #[(.pointer none), (.slice none 0 0), (.slice none 0 0), (.bool false)]) := by kernel_rfl
theorem so_63 : structOk Try.prog 63 = true := by kernel_rfl
theorem ca_30 : callable Try.prog 30 = true := by kernel_rfl
theorem ca_32 : callable Try.prog 32 = true := by kernel_rfl
theorem ca_31 : callable Try.prog 31 = true := by kernel_rfl
theorem fo_36_0 : fieldOf Try.prog 36 0 = some (0, 1, false) := by kernel_rfl
theorem fo_36_1 : fieldOf Try.prog 36 1 = some (1, 1, false) := by kernel_rfl
theorem sz_34 : szOf Try.prog 34 = some 1 := by kernel_rfl
theorem sz_33 : szOf Try.prog 33 = some 1 := by kernel_rfl
theorem ca_11 : callable Try.prog 11 = true := by kernel_rfl
theorem ag_29 : aggOf Try.prog 29 = some false := by kernel_rfl
theorem ca_10 : callable Try.prog 10 = true := by kernel_rfl
theorem z_42 : zeroOf Try.prog 42 = some (.agg #[(.int .i64 0), (.slice none 0 0), (.int .i64 0), (.int .i64 0), (.string ⟨#[]⟩), (.string ⟨#[]⟩), (.slice none 0 0), (.slice none 0 0)]) := by kernel_rfl
theorem fo_42_0 : fieldOf Try.prog 42 0 = some (0, 1, false) := by kernel_rfl
theorem fo_42_2 : fieldOf Try.prog 42 2 = some (2, 6, true) := by kernel_rfl
theorem ag_40 : aggOf Try.prog 40 = some true := by kernel_rfl
theorem sz_40 : szOf Try.prog 40 = some 6 := by kernel_rfl
theorem fo_40_0 : fieldOf Try.prog 40 0 = some (0, 1, false) := by kernel_rfl
theorem fo_40_4 : fieldOf Try.prog 40 4 = some (4, 1, false) := by kernel_rfl
theorem fo_40_2 : fieldOf Try.prog 40 2 = some (2, 1, false) := by kernel_rfl
theorem ca_35 : callable Try.prog 35 = true := by kernel_rfl
theorem ca_33 : callable Try.prog 33 = true := by kernel_rfl
theorem fo_40_3 : fieldOf Try.prog 40 3 = some (3, 1, false) := by kernel_rfl
theorem fo_40_1 : fieldOf Try.prog 40 1 = some (1, 1, false) := by kernel_rfl
theorem sz_47 : szOf Try.prog 47 = some 1 := by kernel_rfl
theorem ca_42 : callable Try.prog 42 = true := by kernel_rfl
theorem ca_43 : callable Try.prog 43 = true := by kernel_rfl
theorem fo_40_5 : fieldOf Try.prog 40 5 = some (5, 1, false) := by kernel_rfl
theorem u_38 : Try.prog.underlying 38 = some (.slice 3) := by kernel_rfl
theorem ca_75 : callable Try.prog 75 = true := by kernel_rfl
theorem ca_76 : callable Try.prog 76 = true := by kernel_rfl
theorem u_86 : Try.prog.underlying 86 = some (.slice 9) := by kernel_rfl
theorem ca_52 : callable Try.prog 52 = true := by kernel_rfl
theorem ca_45 : callable Try.prog 45 = true := by kernel_rfl
theorem ag_38 : aggOf Try.prog 38 = some false := by kernel_rfl
theorem ca_44 : callable Try.prog 44 = true := by kernel_rfl
theorem ca_46 : callable Try.prog 46 = true := by kernel_rfl
theorem ca_47 : callable Try.prog 47 = true := by kernel_rfl
theorem ca_12 : callable Try.prog 12 = true := by kernel_rfl
theorem fo_42_1 : fieldOf Try.prog 42 1 = some (1, 1, false) := by kernel_rfl
theorem ca_6 : callable Try.prog 6 = true := by kernel_rfl
theorem u_34 : Try.prog.underlying 34 = some (.pointer 63) := by kernel_rfl
theorem ag_33 : aggOf Try.prog 33 = some false := by kernel_rfl
theorem u_33 : Try.prog.underlying 33 = some (.pointer 68) := by kernel_rfl
theorem fo_68_3 : fieldOf Try.prog 68 3 = some (3, 1, false) := by kernel_rfl
theorem ca_57 : callable Try.prog 57 = true := by kernel_rfl
theorem ca_48 : callable Try.prog 48 = true := by kernel_rfl
theorem ca_13 : callable Try.prog 13 = true := by kernel_rfl
theorem ag_34 : aggOf Try.prog 34 = some false := by kernel_rfl
theorem fo_63_3 : fieldOf Try.prog 63 3 = some (3, 1, false) := by kernel_rfl
theorem fo_63_0 : fieldOf Try.prog 63 0 = some (0, 1, false) := by kernel_rfl
theorem fo_63_1 : fieldOf Try.prog 63 1 = some (1, 1, false) := by kernel_rfl
theorem fo_63_2 : fieldOf Try.prog 63 2 = some (2, 1, false) := by kernel_rfl
theorem ca_14 : callable Try.prog 14 = true := by kernel_rfl
theorem ag_61 : aggOf Try.prog 61 = some false := by kernel_rfl
theorem ca_15 : callable Try.prog 15 = true := by kernel_rfl
theorem ca_16 : callable Try.prog 16 = true := by kernel_rfl
theorem in_9 : infoQ Try.prog 9 = some (some (.string ⟨#[]⟩), 1, 16) := by kernel_rfl
theorem z_9 : zeroOf Try.prog 9 = some (.string ⟨#[]⟩) := by kernel_rfl
theorem ca_53 : callable Try.prog 53 = true := by kernel_rfl
theorem ca_51 : callable Try.prog 51 = true := by kernel_rfl
theorem ca_54 : callable Try.prog 54 = true := by kernel_rfl
theorem ca_56 : callable Try.prog 56 = true := by kernel_rfl
theorem u_4 : Try.prog.underlying 4 = some (.bool) := by kernel_rfl
theorem ca_18 : callable Try.prog 18 = true := by kernel_rfl
theorem ca_17 : callable Try.prog 17 = true := by kernel_rfl
theorem ca_19 : callable Try.prog 19 = true := by kernel_rfl
theorem ca_21 : callable Try.prog 21 = true := by kernel_rfl
theorem ca_58 : callable Try.prog 58 = true := by kernel_rfl
theorem ca_20 : callable Try.prog 20 = true := by kernel_rfl
theorem ca_22 : callable Try.prog 22 = true := by kernel_rfl
theorem ca_8 : callable Try.prog 8 = true := by kernel_rfl
theorem ca_7 : callable Try.prog 7 = true := by kernel_rfl
theorem ag_42 : aggOf Try.prog 42 = some true := by kernel_rfl
theorem sz_42 : szOf Try.prog 42 = some 8 := by kernel_rfl
theorem u_23 : Try.prog.underlying 23 = some (.slice 42) := by kernel_rfl
theorem ca_4 : callable Try.prog 4 = true := by kernel_rfl
theorem ca_9 : callable Try.prog 9 = true := by kernel_rfl
theorem ca_5 : callable Try.prog 5 = true := by kernel_rfl
end F
def vdisk_New.f (k : Nat) (a0 : Int) : Option (vdisk_Disk × Int) := if (decide (a0 < 0)) = true then (none) else (if (decide (a0 > 4194304)) = true then (none) else (some ((⟨([] : List (ByteArray × vdisk_file)), a0, 0, (none : Option Int), false⟩ : vdisk_Disk), 0)))
theorem vdisk_New.meets (k : Nat) (a0 : Int) (r : vdisk_Disk × Int) (h : vdisk_New.f k a0 = some r) : Meets Try.prog 4 [(si a0)] [] (D.tup [(rf 0 0), (si r.2)]) [(o_vdisk_Disk_03 true (C.mp 1) (C.opt r.1.fuse.isSome 2 0) r.1), (om_ e_vdisk_file r.1.files), (some (AObj.cells false [(ci (r.1.fuse.getD default))]))] := by
 unfold vdisk_New.f at h
 refine Meets.of_body (n := 14) Try.func4 rfl rfl (nl rfl) fun x hx => ?_
 replace hx : x.k = 0 := hx
 show AW _ x _ _ ⟨14, fr0 [(si a0)], []⟩
 refine AW.seq (AW.region ?_)
 refine s_assign (d := (sc (.pointer none))) rfl (s_assign (d := (si 0)) rfl (AWops.nil (AW.seq (AW.seq (AW.region (s_move (d := (si a0)) rfl (s_binI (v := (.bool (decide (a0 < 0)))) rfl rfl rfl (s_move (d := (sb (decide (a0 < 0)))) rfl ?_))))))))
 rcases itH h with ⟨c1, h⟩ | ⟨c1, h⟩
 ·refine AWops.guard_no rfl (nl rfl) rfl c1 ?_
  refine AWops.guard_no rfl (nl rfl) rfl c1 ?_
  refine s_pick_yes (d := (sb true)) rfl c1 rfl (AWops.nil ?_)
  refine AW.cond_yes rfl rfl (AW.seq (AW.region ?_))
  refine s_assign (d := (sc (.pointer none))) rfl (s_assign (d := (si 1)) rfl (AWops.nil (AW.ret ?_)))
  cases h
 ·refine AWops.guard_yes rfl (nl rfl) rfl c1 ?_
  refine s_move (d := (si a0)) rfl ?_
  refine AWops.guard_yes rfl (nl rfl) rfl c1 ?_
  refine s_binI (v := (.bool (decide (a0 > 4194304)))) rfl rfl rfl (s_pick_no (d := (sb (decide (a0 > 4194304)))) rfl c1 rfl (AWops.nil ?_))
  rcases itH h with ⟨c2, h⟩ | ⟨c2, h⟩
  ·refine AW.cond_yes rfl c2 (AW.seq (AW.region ?_))
   refine s_assign (d := (sc (.pointer none))) rfl (s_assign (d := (si 1)) rfl (AWops.nil (AW.ret ?_)))
   cases h
  ·refine AW.cond_no rfl c2 (AW.skip (AW.seq (AW.region ?_)))
   refine t_makeMap (s_move (d := (si a0)) rfl (s_build (ps := [(0, (D.one (C.mp 0))), (1, (si a0))]) (cs := [(C.mp 0), (ci a0), (ci 0), (C.p true (.v (.pointer none))), (cb false)]) F.z_49 rfl F.so_49 rfl rfl (s_box (cs := [(C.mp 0), (ci a0), (ci 0), (C.p true (.v (.pointer none))), (cb false)]) rfl (List.cons_ne_nil _ _) rfl (s_assign (d := (rf 1 0)) rfl (s_assign (d := (si 0)) rfl (AWops.nil (AW.ret ?_)))))))
   obtain rfl := Option.some.inj h
   exact ⟨_, rfl, (Weak.trans (Weak.virt true [(ci (default : Int))]) (wG 0 [1, 0, 2] []))⟩
def dossierref03_New.f (k : Nat) (a0 : Int) : Option (dossierref03_Disk × Int) := if (decide (a0 < 0)) = true then (none) else (if (decide (a0 > 4194304)) = true then (none) else (some ((⟨([] : List dossierref03_File), a0, (-1), false⟩ : dossierref03_Disk), 0)))
theorem dossierref03_New.meets (k : Nat) (a0 : Int) (r : dossierref03_Disk × Int) (h : dossierref03_New.f k a0 = some r) : Meets Try.prog 5 [(si a0)] [] (D.tup [(rf 0 0), (si r.2)]) [(o_dossierref03_Disk_0 true (C.own 1 0 r.1.L.length 3) r.1), (or_ e_dossierref03_File r.1.L)] := by
 unfold dossierref03_New.f at h
 refine Meets.of_body (n := 13) Try.func5 rfl rfl (nl rfl) fun x hx => ?_
 replace hx : x.k = 0 := hx
 show AW _ x _ _ ⟨13, fr0 [(si a0)], []⟩
 refine AW.seq (AW.region ?_)
 refine s_assign (d := (sc (.pointer none))) rfl (s_assign (d := (si 0)) rfl (AWops.nil (AW.seq (AW.seq (AW.region (s_move (d := (si a0)) rfl (s_binI (v := (.bool (decide (a0 < 0)))) rfl rfl rfl (s_move (d := (sb (decide (a0 < 0)))) rfl ?_))))))))
 rcases itH h with ⟨c1, h⟩ | ⟨c1, h⟩
 ·refine AWops.guard_no rfl (nl rfl) rfl c1 ?_
  refine AWops.guard_no rfl (nl rfl) rfl c1 ?_
  refine s_pick_yes (d := (sb true)) rfl c1 rfl (AWops.nil ?_)
  refine AW.cond_yes rfl rfl (AW.seq (AW.region ?_))
  refine s_assign (d := (sc (.pointer none))) rfl (s_assign (d := (si 1)) rfl (AWops.nil (AW.ret ?_)))
  cases h
 ·refine AWops.guard_yes rfl (nl rfl) rfl c1 ?_
  refine s_move (d := (si a0)) rfl ?_
  refine AWops.guard_yes rfl (nl rfl) rfl c1 ?_
  refine s_binI (v := (.bool (decide (a0 > 4194304)))) rfl rfl rfl (s_pick_no (d := (sb (decide (a0 > 4194304)))) rfl c1 rfl (AWops.nil ?_))
  rcases itH h with ⟨c2, h⟩ | ⟨c2, h⟩
  ·refine AW.cond_yes rfl c2 (AW.seq (AW.region ?_))
   refine s_assign (d := (sc (.pointer none))) rfl (s_assign (d := (si 1)) rfl (AWops.nil (AW.ret ?_)))
   cases h
  ·refine AW.cond_no rfl c2 (AW.skip (AW.seq (AW.region ?_)))
   refine s_move (d := (si a0)) rfl (s_build (ps := [(1, (si a0)), (2, (si (-1)))]) (cs := [(C.p true (.v (.slice none 0 0))), (ci a0), (ci (-1)), (cb false)]) F.z_52 rfl F.so_52 rfl rfl (s_box (cs := [(C.p true (.v (.slice none 0 0))), (ci a0), (ci (-1)), (cb false)]) rfl (List.cons_ne_nil _ _) rfl (s_assign (d := (rf 0 0)) rfl (s_assign (d := (si 0)) rfl (AWops.nil (AW.ret ?_))))))
   obtain rfl := Option.some.inj h
   exact ⟨_, rfl, (Weak.trans (Weak.nilC (t := 0) (j := 0) (sz := 3) rfl rfl rfl) (wG 0 [0, 1] []))⟩
def vdisk_Disk_none.f (k : Nat) (p0 : vdisk_Disk) : Option Bool := some false
theorem vdisk_Disk_none.meets (k : Nat) (p0 : vdisk_Disk) (r : Bool) (h : vdisk_Disk_none.f k p0 = some r) : Meets Try.prog 61 [(rf 0 0)] [(o_vdisk_Disk_03 false (C.mp 1) (C.opt p0.fuse.isSome 2 0) p0), (om_ e_vdisk_file p0.files), (some (AObj.cells false [(ci (p0.fuse.getD default))]))] (sb r) [(o_vdisk_Disk_03 false (C.mp 1) (C.opt p0.fuse.isSome 3 0) p0), (om_ e_vdisk_file p0.files), none, (some (AObj.cells false [(ci (p0.fuse.getD default))]))] := by
 unfold vdisk_Disk_none.f at h
 refine Meets.of_body (n := 12) Try.func61 rfl rfl (nl rfl) fun x hx => ?_
 replace hx : x.k = 3 := hx
 show AW _ x _ _ ⟨12, fr0 [(rf 0 0)], [(o_vdisk_Disk_03 false (C.mp 1) (C.opt p0.fuse.isSome 2 0) p0), (om_ e_vdisk_file p0.files), (some (AObj.cells false [(ci (p0.fuse.getD default))]))]⟩
 refine AW.weak (st' := ⟨12, (upd 12 topF 0 (rf 0 0)), [(o_vdisk_Disk_03 false (C.mp 1) (C.opt p0.fuse.isSome 3 0) p0), (om_ e_vdisk_file p0.files), none, (some (AObj.cells false [(ci (p0.fuse.getD default))]))]⟩) (Weak.genL (kk := 3) [0, 1, 2, 2] [] hx rfl (by decide) rfl rfl rfl rfl (le_upd (le_top _) (o1 (.ref rfl))) (ac (.cells id (ac (.mp rfl) (ac .sc (ac .sc (ac (.opt rfl) (ac .sc an)))))) (ac .map (ac (.none _) (ac (.cells id (ac .sc an)) an))))) (AW.seq (AW.region ?_))
 refine s_assign (d := (sb false)) rfl (AWops.nil (AW.seq (AW.region ?_)))
 refine s_move (d := (rf 0 0)) rfl (s_ptrNil (b := false) F.u_25 rfl (.inl ⟨⟨_, _, rfl⟩, rfl⟩) (.inl rfl) (s_move (d := (sb false)) rfl ?_))
 refine AWops.guard_yes rfl (nl rfl) rfl rfl ?_
 refine s_move (d := (rf 0 0)) rfl ?_
 refine AWops.guard_yes rfl (nl rfl) rfl rfl ?_
 refine s_nilCheck (d := (rf 0 0)) rfl (.inl ⟨_, _, rfl⟩) ?_
 refine AWops.guard_yes rfl (nl rfl) rfl rfl ?_
 refine s_fieldRef F.fo_49_0 (by decide) rfl ?_
 refine AWops.guard_yes rfl (nl rfl) rfl rfl ?_
 refine s_load1 (c' := (C.mp 1)) F.ag_46 rfl rfl ?_
 refine AWops.guard_yes rfl (nl rfl) rfl rfl ?_
 refine s_mapNil (b := false) F.u_46 rfl (.inr ⟨rfl, _, rfl⟩) (.inl ⟨rfl, rfl⟩) (s_pick_no (d := (sb false)) rfl rfl rfl (s_assign (d := (sb false)) rfl (AWops.nil (AW.ret ?_))))
 obtain rfl := Option.some.inj h
 exact ⟨_, rfl, (wG 3 [0, 1, 2, 3] [])⟩
theorem vdisk_Disk_none.const {k : Nat} {p0 : vdisk_Disk} {r : Bool} (h : vdisk_Disk_none.f k p0 = some r) : r = false := by
 unfold vdisk_Disk_none.f at h
 exact (Option.some.inj h).symm
def vdisk_Disk_change.f (k : Nat) (p0 : vdisk_Disk) (a1 : Bool) (a2 : ByteArray) (a3 : Bool) (a4 : Int) : Option (Int × vdisk_Disk) := (vdisk_Disk_none.f k p0).bind fun r1 => if a1 = true then (if p0.dead = true then (some (70, p0)) else (if ((mget a2 p0.files).isSome) = true then (if (decide (a4 > 0)) = true then (if (decide (a4 > (IntKind.i64.wrap (p0.room - p0.used)))) = true then (some (71, p0)) else (if p0.fuse.isSome = true then (if ((p0.fuse.getD default) == 0) = true then (some (70, (⟨p0.files, p0.room, p0.used, (some (p0.fuse.getD default)), true⟩ : vdisk_Disk))) else (some (0, (⟨p0.files, p0.room, p0.used, (some (IntKind.i64.wrap ((p0.fuse.getD default) - 1))), p0.dead⟩ : vdisk_Disk)))) else (some (0, p0)))) else (if p0.fuse.isSome = true then (if ((p0.fuse.getD default) == 0) = true then (some (70, (⟨p0.files, p0.room, p0.used, (some (p0.fuse.getD default)), true⟩ : vdisk_Disk))) else (some (0, (⟨p0.files, p0.room, p0.used, (some (IntKind.i64.wrap ((p0.fuse.getD default) - 1))), p0.dead⟩ : vdisk_Disk)))) else (some (0, p0)))) else (if a3 = true then (if (decide (a4 > 0)) = true then (if (decide (a4 > (IntKind.i64.wrap (p0.room - p0.used)))) = true then (some (71, p0)) else (if p0.fuse.isSome = true then (if ((p0.fuse.getD default) == 0) = true then (some (70, (⟨p0.files, p0.room, p0.used, (some (p0.fuse.getD default)), true⟩ : vdisk_Disk))) else (some (0, (⟨p0.files, p0.room, p0.used, (some (IntKind.i64.wrap ((p0.fuse.getD default) - 1))), p0.dead⟩ : vdisk_Disk)))) else (some (0, p0)))) else (if p0.fuse.isSome = true then (if ((p0.fuse.getD default) == 0) = true then (some (70, (⟨p0.files, p0.room, p0.used, (some (p0.fuse.getD default)), true⟩ : vdisk_Disk))) else (some (0, (⟨p0.files, p0.room, p0.used, (some (IntKind.i64.wrap ((p0.fuse.getD default) - 1))), p0.dead⟩ : vdisk_Disk)))) else (some (0, p0)))) else (some (33, p0))))) else (some (1, p0))
theorem vdisk_Disk_change.meets (k : Nat) (p0 : vdisk_Disk) (a1 : Bool) (a2 : ByteArray) (a3 : Bool) (a4 : Int) (r : Int × vdisk_Disk) (h : vdisk_Disk_change.f k p0 a1 a2 a3 a4 = some r) : Meets Try.prog 59 [(rf 0 0), (sb a1), (st_ a2), (sb a3), (si a4)] [(o_vdisk_Disk_03 false (C.mp 1) (C.opt p0.fuse.isSome 2 0) p0), (om_ e_vdisk_file p0.files), (some (AObj.cells false [(ci (p0.fuse.getD default))]))] (si r.1) [(o_vdisk_Disk_03 false (C.mp 1) (C.opt r.2.fuse.isSome 3 0) r.2), (om_ e_vdisk_file r.2.files), none, (some (AObj.cells false [(ci (r.2.fuse.getD default))]))] := by
 unfold vdisk_Disk_change.f at h
 refine Meets.of_body (n := 77) Try.func59 rfl rfl (nl rfl) fun x hx => ?_
 replace hx : x.k = 3 := hx
 show AW _ x _ _ ⟨77, fr0 [(rf 0 0), (sb a1), (st_ a2), (sb a3), (si a4)], [(o_vdisk_Disk_03 false (C.mp 1) (C.opt p0.fuse.isSome 2 0) p0), (om_ e_vdisk_file p0.files), (some (AObj.cells false [(ci (p0.fuse.getD default))]))]⟩
 refine AW.weak (st' := ⟨77, (upd 77 (upd 77 (upd 77 (upd 77 (upd 77 topF 0 (rf 0 0)) 1 (sb a1)) 2 (st_ a2)) 3 (sb a3)) 4 (si a4)), [(o_vdisk_Disk_03 false (C.mp 1) (C.opt p0.fuse.isSome 3 0) p0), (om_ e_vdisk_file p0.files), none, (some (AObj.cells false [(ci (p0.fuse.getD default))]))]⟩) (Weak.genL (kk := 3) [0, 1, 2, 2] [] hx rfl (by decide) rfl rfl rfl rfl (le_upd (le_upd (le_upd (le_upd (le_upd (le_top _) (o1 (.ref rfl))) (o1 .sc)) (o1 .sc)) (o1 .sc)) (o1 .sc)) (ac (.cells id (ac (.mp rfl) (ac .sc (ac .sc (ac (.opt rfl) (ac .sc an)))))) (ac .map (ac (.none _) (ac (.cells id (ac .sc an)) an))))) (AW.seq (AW.region ?_))
 refine s_assign (d := (si 0)) rfl (AWops.nil (AW.seq (AW.block (AW.seq (AW.region ?_)))))
 refine s_move (d := (rf 0 0)) rfl ?_
 obtain ⟨r1, er1, h⟩ := bnd h
 have kr1 := vdisk_Disk_none.const er1
 subst kr1
 refine cc [0, 1, 3] [(o_vdisk_Disk_03 false (C.mp 1) (C.opt p0.fuse.isSome 4 0) p0), (om_ e_vdisk_file p0.files), none, none, (some (AObj.cells false [(ci (p0.fuse.getD default))]))] (sb false) F.ca_61 rfl rfl (ac (.one (.ref rfl)) an) (ac (.cells (ac (.mp rfl) (ac .sc (ac .sc (ac (.opt rfl) (ac .sc an)))))) (ac .map (ac (.cells (ac .sc an)) an))) (vdisk_Disk_none.meets _ p0 false er1) (s_assign (d := (sb false)) rfl (AWops.nil ?_))
 refine AW.cond_no rfl rfl (AW.seq (AW.region ?_))
 refine s_move (d := (sb a1)) rfl (s_not rfl (s_assign (d := (sb (!a1))) rfl (AWops.nil ?_)))
 rcases itH h with ⟨c2, h⟩ | ⟨c2, h⟩
 ·refine AW.cond_no rfl (by rw [c2] <;> rfl) (AW.seq (AW.region ?_))
  refine s_move (d := (rf 0 0)) rfl (s_nilCheck (d := (rf 0 0)) rfl (.inl ⟨_, _, rfl⟩) (s_fieldRef F.fo_49_4 (by decide) rfl (s_load1 (c' := (cb p0.dead)) F.ag_4 rfl rfl (s_assign (d := (sb p0.dead)) rfl (AWops.nil ?_)))))
  rcases itH h with ⟨c3, h⟩ | ⟨c3, h⟩
  ·refine AW.cond_yes rfl c3 (AW.seq (AW.region ?_))
   refine s_assign (d := (si 70)) rfl (AWops.nil (AW.ret ?_))
   obtain rfl := Option.some.inj h
   exact ⟨_, rfl, (wG 3 [0, 1, 2, 4] [])⟩
  ·refine AW.cond_no rfl c3 (AW.skip (AW.seq (AW.seq (AW.region ?_))))
   refine s_move (d := (rf 0 0)) rfl (s_nilCheck (d := (rf 0 0)) rfl (.inl ⟨_, _, rfl⟩) (s_fieldRef F.fo_49_0 (by decide) rfl (s_load1 (c' := (C.mp 1)) F.ag_46 rfl rfl (s_move (d := (st_ a2)) rfl (t_lookupOk (b := true) F.u_46 F.u_9 F.z_95 (z := ((⟨([] : List Int), 0⟩ : vdisk_file) : vdisk_file)) (zs := [(.slice none 0 0), (.int .i64 0)]) rfl (fun h => by cases h) (ac ZRel.n (ac (ZRel.v _ rfl) an)) rfl rfl rfl rfl ?_)))))
   refine s_move (d := (D.tup [(D.agg (c_vdisk_file (lk_vdisk_file a2 p0.files))), (sb ((mget a2 p0.files).isSome))])) rfl (s_extract (d := (D.agg (c_vdisk_file (lk_vdisk_file a2 p0.files)))) rfl rfl (s_extract (d := (sb ((mget a2 p0.files).isSome))) rfl rfl (s_alloc (cs := [(C.p true (.v (.slice none 0 0))), (ci 0)]) F.z_95 rfl rfl (s_store (cs' := (c_vdisk_file (lk_vdisk_file a2 p0.files))) rfl rfl rfl (List.cons_ne_nil _ _) rfl F.sz_95 (nl rfl) rfl (s_assign (d := (sb ((mget a2 p0.files).isSome))) rfl (AWops.nil (AW.seq (AW.region ?_))))))))
   refine s_move (d := (sb ((mget a2 p0.files).isSome))) rfl (s_not rfl (s_move (d := (sb (!((mget a2 p0.files).isSome)))) rfl ?_))
   rcases itH h with ⟨c4, h⟩ | ⟨c4, h⟩
   ·refine AWops.guard_no rfl (nl rfl) rfl (by rw [c4] <;> rfl) ?_
    refine AWops.guard_no rfl (nl rfl) rfl (by rw [c4] <;> rfl) ?_
    refine s_pick_no (d := (sb false)) rfl (by rw [c4] <;> rfl) rfl (AWops.nil ?_)
    refine AW.cond_no rfl rfl (AW.skip (AW.seq (AW.seq ?_)))
    refine AW.weak (st' := ⟨77, (upd 77 (upd 77 topF 0 (rf 0 0)) 4 (si a4)), [(o_vdisk_Disk_03 false (C.mp 1) (C.opt p0.fuse.isSome 3 0) p0), (om_ e_vdisk_file p0.files), none, (some (AObj.cells false [(ci (p0.fuse.getD default))]))]⟩) (wG 3 [0, 1, 2, 4] []) ?_
    rcases itH h with ⟨c5, h⟩ | ⟨c5, h⟩
    ·refine AW.draw2 4 [kf 39 (si a4) [4], kf 40 (sb (decide (a4 > 0))) [39], kf 41 (sb (decide (a4 > 0))) [40], kf 42 (si a4) [4, 41], kf 43 (rf 0 0) [0, 41], kf 44 (rf 0 0) [41, 43], kf 45 (rf 0 1) [41, 44], ⟨some 46, (si p0.room), [41, 45], [0], [], none⟩, kf 47 (rf 0 0) [0, 41], kf 48 (rf 0 0) [41, 47], kf 49 (rf 0 2) [41, 48], ⟨some 50, (si p0.used), [41, 49], [0], [], none⟩, kf 51 (si (IntKind.i64.wrap (p0.room - p0.used))) [41, 46, 50], kf 52 (sb (decide (a4 > (IntKind.i64.wrap (p0.room - p0.used))))) [41, 42, 51], kf 53 (sb (decide (a4 > (IntKind.i64.wrap (p0.room - p0.used))))) [41, 52]] ⟨?_, ?_⟩
     ·refine (pA (pA (pA (pY c5 (pY c5 (pY c5 (pYE c5 F.fo_49_1 (pYE c5 F.ag_3 (pY c5 (pY c5 (pYE c5 F.fo_49_2 (pYE c5 F.ag_3 (pY c5 (pY c5 (pC ?_ AllStep.nil')))))))))))))))
      ·intro K rest fr hv htk k
       refine s_pick_yes (d := (sb (decide (a4 > (IntKind.i64.wrap (p0.room - p0.used)))))) rfl c5 rfl k
     ·refine AWops.weak (st' := ⟨77, (upd 77 (upd 77 topF 0 (rf 0 0)) 53 (sb (decide (a4 > (IntKind.i64.wrap (p0.room - p0.used)))))), [(o_vdisk_Disk_03 false (C.mp 1) (C.opt p0.fuse.isSome 3 0) p0), (om_ e_vdisk_file p0.files), none, (some (AObj.cells false [(ci (p0.fuse.getD default))]))]⟩) (wG 3 [0, 1, 2, 3] []) (AWops.nil ?_)
      rcases itH h with ⟨c6, h⟩ | ⟨c6, h⟩
      ·refine AW.cond_yes rfl c6 (AW.seq (AW.region ?_))
       refine s_assign (d := (si 71)) rfl (AWops.nil (AW.ret ?_))
       obtain rfl := Option.some.inj h
       exact ⟨_, rfl, (wG 3 [0, 1, 2, 3] [])⟩
      ·refine AW.cond_no rfl c6 (AW.skip (AW.seq (AW.seq (AW.region ?_))))
       refine s_move (d := (rf 0 0)) rfl (s_nilCheck (d := (rf 0 0)) rfl (.inl ⟨_, _, rfl⟩) (s_fieldRef F.fo_49_3 (by decide) rfl (s_load1 (c' := (C.opt p0.fuse.isSome 3 0)) F.ag_47 rfl rfl (s_optNeq F.u_47 rfl rfl (AWops.nil ?_)))))
       rcases itH h with ⟨c7, h⟩ | ⟨c7, h⟩
       ·refine AW.cond_yes rfl c7 (AW.seq (AW.seq (AW.region ?_)))
        refine s_move (d := (rf 0 0)) rfl (s_nilCheck (d := (rf 0 0)) rfl (.inl ⟨_, _, rfl⟩) (s_fieldRef F.fo_49_3 (by decide) rfl (s_load1 (c' := (C.opt p0.fuse.isSome 3 0)) F.ag_47 rfl rfl ?_)))
        refine AWops.weak (Weak.optS (i := 57) c7 rfl) ?_
        refine AWops.weak (Weak.optS (i := 62) c7 rfl) ?_
        refine AWops.weak (Weak.unOpt (p := 0) (j := 3) c7 rfl rfl rfl) ?_
        refine s_nilCheck (d := (rf 3 0)) rfl (.inl ⟨_, _, rfl⟩) (s_load1 (c' := (ci (p0.fuse.getD default))) F.ag_3 rfl rfl (s_binI (v := (.bool ((p0.fuse.getD default) == 0))) rfl rfl rfl (AWops.nil ?_)))
        rcases itH h with ⟨c8, h⟩ | ⟨c8, h⟩
        ·refine AW.cond_yes rfl c8 (AW.seq (AW.region ?_))
         refine s_move (d := (rf 0 0)) rfl (s_nilCheck (d := (rf 0 0)) rfl (.inl ⟨_, _, rfl⟩) (s_fieldRef F.fo_49_4 (by decide) rfl (s_store (cs' := [(C.mp 1), (ci p0.room), (ci p0.used), (C.ref 3 0), (cb true)]) rfl rfl rfl (List.cons_ne_nil _ _) rfl F.sz_4 (nl rfl) rfl (AWops.nil (AW.seq (AW.region (s_assign (d := (si 70)) rfl (AWops.nil (AW.ret ?_)))))))))
         obtain rfl := Option.some.inj h
         exact ⟨_, rfl, (wG 3 [0, 1, 2, 3] [])⟩
        ·refine AW.cond_no rfl c8 (AW.skip (AW.region ?_))
         refine s_move (d := (rf 0 0)) rfl (s_nilCheck (d := (rf 0 0)) rfl (.inl ⟨_, _, rfl⟩) (s_fieldRef F.fo_49_3 (by decide) rfl (s_load1 (c' := (C.ref 3 0)) F.ag_47 rfl rfl (s_nilCheck (d := (rf 3 0)) rfl (.inl ⟨_, _, rfl⟩) (s_load1 (c' := (ci (p0.fuse.getD default))) F.ag_3 rfl rfl ?_)))))
         refine s_binI (v := (.int .i64 (IntKind.i64.wrap ((p0.fuse.getD default) - 1)))) rfl rfl rfl (s_nilCheck (d := (rf 3 0)) rfl (.inl ⟨_, _, rfl⟩) (s_store (cs' := [(ci (IntKind.i64.wrap ((p0.fuse.getD default) - 1)))]) rfl rfl rfl (List.cons_ne_nil _ _) rfl F.sz_3 (nl rfl) rfl (AWops.nil (AW.seq (AW.region (s_assign (d := (si 0)) rfl (AWops.nil (AW.ret ?_))))))))
         obtain rfl := Option.some.inj h
         exact ⟨_, rfl, (wG 3 [0, 1, 2, 3] [])⟩
       ·refine AW.cond_no rfl c7 (AW.skip (AW.seq (AW.region ?_)))
        refine s_assign (d := (si 0)) rfl (AWops.nil (AW.ret ?_))
        obtain rfl := Option.some.inj h
        exact ⟨_, rfl, (wG 3 [0, 1, 2, 3] [])⟩
    ·refine AW.draw2 4 [kf 39 (si a4) [4], kf 40 (sb (decide (a4 > 0))) [39], kf 41 (sb (decide (a4 > 0))) [40], kf 42 (D.tup []) [4, 41], kf 43 (D.tup []) [41], kf 44 (D.tup []) [41], kf 45 (D.tup []) [41], kf 46 (D.tup []) [41], kf 47 (D.tup []) [41], kf 48 (D.tup []) [41], kf 49 (D.tup []) [41], kf 50 (D.tup []) [41], kf 51 (D.tup []) [41], kf 52 (D.tup []) [41], kf 53 (sb false) [41]] ⟨?_, ?_⟩
     ·refine (pA (pA (pA (pN c5 (pN c5 (pN c5 (pN c5 (pN c5 (pN c5 (pN c5 (pN c5 (pN c5 (pN c5 (pN c5 (pC ?_ AllStep.nil')))))))))))))))
      ·intro K rest fr hv htk k
       refine s_pick_no (d := (sb false)) rfl c5 rfl k
     ·refine AWops.weak (st' := ⟨77, (upd 77 (upd 77 topF 0 (rf 0 0)) 53 (sb false)), [(o_vdisk_Disk_03 false (C.mp 1) (C.opt p0.fuse.isSome 3 0) p0), (om_ e_vdisk_file p0.files), none, (some (AObj.cells false [(ci (p0.fuse.getD default))]))]⟩) (wG 3 [0, 1, 2, 3] []) (AWops.nil ?_)
      refine AW.cond_no rfl rfl (AW.skip (AW.seq (AW.seq (AW.region ?_))))
      refine s_move (d := (rf 0 0)) rfl (s_nilCheck (d := (rf 0 0)) rfl (.inl ⟨_, _, rfl⟩) (s_fieldRef F.fo_49_3 (by decide) rfl (s_load1 (c' := (C.opt p0.fuse.isSome 3 0)) F.ag_47 rfl rfl (s_optNeq F.u_47 rfl rfl (AWops.nil ?_)))))
      rcases itH h with ⟨c9, h⟩ | ⟨c9, h⟩
      ·refine AW.cond_yes rfl c9 (AW.seq (AW.seq (AW.region ?_)))
       refine s_move (d := (rf 0 0)) rfl (s_nilCheck (d := (rf 0 0)) rfl (.inl ⟨_, _, rfl⟩) (s_fieldRef F.fo_49_3 (by decide) rfl (s_load1 (c' := (C.opt p0.fuse.isSome 3 0)) F.ag_47 rfl rfl ?_)))
       refine AWops.weak (Weak.optS (i := 57) c9 rfl) ?_
       refine AWops.weak (Weak.optS (i := 62) c9 rfl) ?_
       refine AWops.weak (Weak.unOpt (p := 0) (j := 3) c9 rfl rfl rfl) ?_
       refine s_nilCheck (d := (rf 3 0)) rfl (.inl ⟨_, _, rfl⟩) (s_load1 (c' := (ci (p0.fuse.getD default))) F.ag_3 rfl rfl (s_binI (v := (.bool ((p0.fuse.getD default) == 0))) rfl rfl rfl (AWops.nil ?_)))
       rcases itH h with ⟨c10, h⟩ | ⟨c10, h⟩
       ·refine AW.cond_yes rfl c10 (AW.seq (AW.region ?_))
        refine s_move (d := (rf 0 0)) rfl (s_nilCheck (d := (rf 0 0)) rfl (.inl ⟨_, _, rfl⟩) (s_fieldRef F.fo_49_4 (by decide) rfl (s_store (cs' := [(C.mp 1), (ci p0.room), (ci p0.used), (C.ref 3 0), (cb true)]) rfl rfl rfl (List.cons_ne_nil _ _) rfl F.sz_4 (nl rfl) rfl (AWops.nil (AW.seq (AW.region (s_assign (d := (si 70)) rfl (AWops.nil (AW.ret ?_)))))))))
        obtain rfl := Option.some.inj h
        exact ⟨_, rfl, (wG 3 [0, 1, 2, 3] [])⟩
       ·refine AW.cond_no rfl c10 (AW.skip (AW.region ?_))
        refine s_move (d := (rf 0 0)) rfl (s_nilCheck (d := (rf 0 0)) rfl (.inl ⟨_, _, rfl⟩) (s_fieldRef F.fo_49_3 (by decide) rfl (s_load1 (c' := (C.ref 3 0)) F.ag_47 rfl rfl (s_nilCheck (d := (rf 3 0)) rfl (.inl ⟨_, _, rfl⟩) (s_load1 (c' := (ci (p0.fuse.getD default))) F.ag_3 rfl rfl ?_)))))
        refine s_binI (v := (.int .i64 (IntKind.i64.wrap ((p0.fuse.getD default) - 1)))) rfl rfl rfl (s_nilCheck (d := (rf 3 0)) rfl (.inl ⟨_, _, rfl⟩) (s_store (cs' := [(ci (IntKind.i64.wrap ((p0.fuse.getD default) - 1)))]) rfl rfl rfl (List.cons_ne_nil _ _) rfl F.sz_3 (nl rfl) rfl (AWops.nil (AW.seq (AW.region (s_assign (d := (si 0)) rfl (AWops.nil (AW.ret ?_))))))))
        obtain rfl := Option.some.inj h
        exact ⟨_, rfl, (wG 3 [0, 1, 2, 3] [])⟩
      ·refine AW.cond_no rfl c9 (AW.skip (AW.seq (AW.region ?_)))
       refine s_assign (d := (si 0)) rfl (AWops.nil (AW.ret ?_))
       obtain rfl := Option.some.inj h
       exact ⟨_, rfl, (wG 3 [0, 1, 2, 3] [])⟩
   ·refine AWops.guard_yes rfl (nl rfl) rfl (by rw [c4] <;> rfl) ?_
    refine s_move (d := (sb a3)) rfl ?_
    refine AWops.guard_yes rfl (nl rfl) rfl (by rw [c4] <;> rfl) ?_
    refine s_not rfl (s_pick_yes (d := (sb (!a3))) rfl (by rw [c4] <;> rfl) rfl (AWops.nil ?_))
    rcases itH h with ⟨c11, h⟩ | ⟨c11, h⟩
    ·refine AW.cond_no rfl (by rw [c11] <;> rfl) (AW.skip (AW.seq (AW.seq ?_)))
     refine AW.weak (st' := ⟨77, (upd 77 (upd 77 topF 0 (rf 0 0)) 4 (si a4)), [(o_vdisk_Disk_03 false (C.mp 1) (C.opt p0.fuse.isSome 3 0) p0), (om_ e_vdisk_file p0.files), none, (some (AObj.cells false [(ci (p0.fuse.getD default))]))]⟩) (wG 3 [0, 1, 2, 4] []) ?_
     rcases itH h with ⟨c12, h⟩ | ⟨c12, h⟩
     ·refine AW.draw2 4 [kf 39 (si a4) [4], kf 40 (sb (decide (a4 > 0))) [39], kf 41 (sb (decide (a4 > 0))) [40], kf 42 (si a4) [4, 41], kf 43 (rf 0 0) [0, 41], kf 44 (rf 0 0) [41, 43], kf 45 (rf 0 1) [41, 44], ⟨some 46, (si p0.room), [41, 45], [0], [], none⟩, kf 47 (rf 0 0) [0, 41], kf 48 (rf 0 0) [41, 47], kf 49 (rf 0 2) [41, 48], ⟨some 50, (si p0.used), [41, 49], [0], [], none⟩, kf 51 (si (IntKind.i64.wrap (p0.room - p0.used))) [41, 46, 50], kf 52 (sb (decide (a4 > (IntKind.i64.wrap (p0.room - p0.used))))) [41, 42, 51], kf 53 (sb (decide (a4 > (IntKind.i64.wrap (p0.room - p0.used))))) [41, 52]] ⟨?_, ?_⟩
      ·refine (pA (pA (pA (pY c12 (pY c12 (pY c12 (pYE c12 F.fo_49_1 (pYE c12 F.ag_3 (pY c12 (pY c12 (pYE c12 F.fo_49_2 (pYE c12 F.ag_3 (pY c12 (pY c12 (pC ?_ AllStep.nil')))))))))))))))
       ·intro K rest fr hv htk k
        refine s_pick_yes (d := (sb (decide (a4 > (IntKind.i64.wrap (p0.room - p0.used)))))) rfl c12 rfl k
      ·refine AWops.weak (st' := ⟨77, (upd 77 (upd 77 topF 0 (rf 0 0)) 53 (sb (decide (a4 > (IntKind.i64.wrap (p0.room - p0.used)))))), [(o_vdisk_Disk_03 false (C.mp 1) (C.opt p0.fuse.isSome 3 0) p0), (om_ e_vdisk_file p0.files), none, (some (AObj.cells false [(ci (p0.fuse.getD default))]))]⟩) (wG 3 [0, 1, 2, 3] []) (AWops.nil ?_)
       rcases itH h with ⟨c13, h⟩ | ⟨c13, h⟩
       ·refine AW.cond_yes rfl c13 (AW.seq (AW.region ?_))
        refine s_assign (d := (si 71)) rfl (AWops.nil (AW.ret ?_))
        obtain rfl := Option.some.inj h
        exact ⟨_, rfl, (wG 3 [0, 1, 2, 3] [])⟩
       ·refine AW.cond_no rfl c13 (AW.skip (AW.seq (AW.seq (AW.region ?_))))
        refine s_move (d := (rf 0 0)) rfl (s_nilCheck (d := (rf 0 0)) rfl (.inl ⟨_, _, rfl⟩) (s_fieldRef F.fo_49_3 (by decide) rfl (s_load1 (c' := (C.opt p0.fuse.isSome 3 0)) F.ag_47 rfl rfl (s_optNeq F.u_47 rfl rfl (AWops.nil ?_)))))
        rcases itH h with ⟨c14, h⟩ | ⟨c14, h⟩
        ·refine AW.cond_yes rfl c14 (AW.seq (AW.seq (AW.region ?_)))
         refine s_move (d := (rf 0 0)) rfl (s_nilCheck (d := (rf 0 0)) rfl (.inl ⟨_, _, rfl⟩) (s_fieldRef F.fo_49_3 (by decide) rfl (s_load1 (c' := (C.opt p0.fuse.isSome 3 0)) F.ag_47 rfl rfl ?_)))
         refine AWops.weak (Weak.optS (i := 57) c14 rfl) ?_
         refine AWops.weak (Weak.optS (i := 62) c14 rfl) ?_
         refine AWops.weak (Weak.unOpt (p := 0) (j := 3) c14 rfl rfl rfl) ?_
         refine s_nilCheck (d := (rf 3 0)) rfl (.inl ⟨_, _, rfl⟩) (s_load1 (c' := (ci (p0.fuse.getD default))) F.ag_3 rfl rfl (s_binI (v := (.bool ((p0.fuse.getD default) == 0))) rfl rfl rfl (AWops.nil ?_)))
         rcases itH h with ⟨c15, h⟩ | ⟨c15, h⟩
         ·refine AW.cond_yes rfl c15 (AW.seq (AW.region ?_))
          refine s_move (d := (rf 0 0)) rfl (s_nilCheck (d := (rf 0 0)) rfl (.inl ⟨_, _, rfl⟩) (s_fieldRef F.fo_49_4 (by decide) rfl (s_store (cs' := [(C.mp 1), (ci p0.room), (ci p0.used), (C.ref 3 0), (cb true)]) rfl rfl rfl (List.cons_ne_nil _ _) rfl F.sz_4 (nl rfl) rfl (AWops.nil (AW.seq (AW.region (s_assign (d := (si 70)) rfl (AWops.nil (AW.ret ?_)))))))))
          obtain rfl := Option.some.inj h
          exact ⟨_, rfl, (wG 3 [0, 1, 2, 3] [])⟩
         ·refine AW.cond_no rfl c15 (AW.skip (AW.region ?_))
          refine s_move (d := (rf 0 0)) rfl (s_nilCheck (d := (rf 0 0)) rfl (.inl ⟨_, _, rfl⟩) (s_fieldRef F.fo_49_3 (by decide) rfl (s_load1 (c' := (C.ref 3 0)) F.ag_47 rfl rfl (s_nilCheck (d := (rf 3 0)) rfl (.inl ⟨_, _, rfl⟩) (s_load1 (c' := (ci (p0.fuse.getD default))) F.ag_3 rfl rfl ?_)))))
          refine s_binI (v := (.int .i64 (IntKind.i64.wrap ((p0.fuse.getD default) - 1)))) rfl rfl rfl (s_nilCheck (d := (rf 3 0)) rfl (.inl ⟨_, _, rfl⟩) (s_store (cs' := [(ci (IntKind.i64.wrap ((p0.fuse.getD default) - 1)))]) rfl rfl rfl (List.cons_ne_nil _ _) rfl F.sz_3 (nl rfl) rfl (AWops.nil (AW.seq (AW.region (s_assign (d := (si 0)) rfl (AWops.nil (AW.ret ?_))))))))
          obtain rfl := Option.some.inj h
          exact ⟨_, rfl, (wG 3 [0, 1, 2, 3] [])⟩
        ·refine AW.cond_no rfl c14 (AW.skip (AW.seq (AW.region ?_)))
         refine s_assign (d := (si 0)) rfl (AWops.nil (AW.ret ?_))
         obtain rfl := Option.some.inj h
         exact ⟨_, rfl, (wG 3 [0, 1, 2, 3] [])⟩
     ·refine AW.draw2 4 [kf 39 (si a4) [4], kf 40 (sb (decide (a4 > 0))) [39], kf 41 (sb (decide (a4 > 0))) [40], kf 42 (D.tup []) [4, 41], kf 43 (D.tup []) [41], kf 44 (D.tup []) [41], kf 45 (D.tup []) [41], kf 46 (D.tup []) [41], kf 47 (D.tup []) [41], kf 48 (D.tup []) [41], kf 49 (D.tup []) [41], kf 50 (D.tup []) [41], kf 51 (D.tup []) [41], kf 52 (D.tup []) [41], kf 53 (sb false) [41]] ⟨?_, ?_⟩
      ·refine (pA (pA (pA (pN c12 (pN c12 (pN c12 (pN c12 (pN c12 (pN c12 (pN c12 (pN c12 (pN c12 (pN c12 (pN c12 (pC ?_ AllStep.nil')))))))))))))))
       ·intro K rest fr hv htk k
        refine s_pick_no (d := (sb false)) rfl c12 rfl k
      ·refine AWops.weak (st' := ⟨77, (upd 77 (upd 77 topF 0 (rf 0 0)) 53 (sb false)), [(o_vdisk_Disk_03 false (C.mp 1) (C.opt p0.fuse.isSome 3 0) p0), (om_ e_vdisk_file p0.files), none, (some (AObj.cells false [(ci (p0.fuse.getD default))]))]⟩) (wG 3 [0, 1, 2, 3] []) (AWops.nil ?_)
       refine AW.cond_no rfl rfl (AW.skip (AW.seq (AW.seq (AW.region ?_))))
       refine s_move (d := (rf 0 0)) rfl (s_nilCheck (d := (rf 0 0)) rfl (.inl ⟨_, _, rfl⟩) (s_fieldRef F.fo_49_3 (by decide) rfl (s_load1 (c' := (C.opt p0.fuse.isSome 3 0)) F.ag_47 rfl rfl (s_optNeq F.u_47 rfl rfl (AWops.nil ?_)))))
       rcases itH h with ⟨c16, h⟩ | ⟨c16, h⟩
       ·refine AW.cond_yes rfl c16 (AW.seq (AW.seq (AW.region ?_)))
        refine s_move (d := (rf 0 0)) rfl (s_nilCheck (d := (rf 0 0)) rfl (.inl ⟨_, _, rfl⟩) (s_fieldRef F.fo_49_3 (by decide) rfl (s_load1 (c' := (C.opt p0.fuse.isSome 3 0)) F.ag_47 rfl rfl ?_)))
        refine AWops.weak (Weak.optS (i := 57) c16 rfl) ?_
        refine AWops.weak (Weak.optS (i := 62) c16 rfl) ?_
        refine AWops.weak (Weak.unOpt (p := 0) (j := 3) c16 rfl rfl rfl) ?_
        refine s_nilCheck (d := (rf 3 0)) rfl (.inl ⟨_, _, rfl⟩) (s_load1 (c' := (ci (p0.fuse.getD default))) F.ag_3 rfl rfl (s_binI (v := (.bool ((p0.fuse.getD default) == 0))) rfl rfl rfl (AWops.nil ?_)))
        rcases itH h with ⟨c17, h⟩ | ⟨c17, h⟩
        ·refine AW.cond_yes rfl c17 (AW.seq (AW.region ?_))
         refine s_move (d := (rf 0 0)) rfl (s_nilCheck (d := (rf 0 0)) rfl (.inl ⟨_, _, rfl⟩) (s_fieldRef F.fo_49_4 (by decide) rfl (s_store (cs' := [(C.mp 1), (ci p0.room), (ci p0.used), (C.ref 3 0), (cb true)]) rfl rfl rfl (List.cons_ne_nil _ _) rfl F.sz_4 (nl rfl) rfl (AWops.nil (AW.seq (AW.region (s_assign (d := (si 70)) rfl (AWops.nil (AW.ret ?_)))))))))
         obtain rfl := Option.some.inj h
         exact ⟨_, rfl, (wG 3 [0, 1, 2, 3] [])⟩
        ·refine AW.cond_no rfl c17 (AW.skip (AW.region ?_))
         refine s_move (d := (rf 0 0)) rfl (s_nilCheck (d := (rf 0 0)) rfl (.inl ⟨_, _, rfl⟩) (s_fieldRef F.fo_49_3 (by decide) rfl (s_load1 (c' := (C.ref 3 0)) F.ag_47 rfl rfl (s_nilCheck (d := (rf 3 0)) rfl (.inl ⟨_, _, rfl⟩) (s_load1 (c' := (ci (p0.fuse.getD default))) F.ag_3 rfl rfl ?_)))))
         refine s_binI (v := (.int .i64 (IntKind.i64.wrap ((p0.fuse.getD default) - 1)))) rfl rfl rfl (s_nilCheck (d := (rf 3 0)) rfl (.inl ⟨_, _, rfl⟩) (s_store (cs' := [(ci (IntKind.i64.wrap ((p0.fuse.getD default) - 1)))]) rfl rfl rfl (List.cons_ne_nil _ _) rfl F.sz_3 (nl rfl) rfl (AWops.nil (AW.seq (AW.region (s_assign (d := (si 0)) rfl (AWops.nil (AW.ret ?_))))))))
         obtain rfl := Option.some.inj h
         exact ⟨_, rfl, (wG 3 [0, 1, 2, 3] [])⟩
       ·refine AW.cond_no rfl c16 (AW.skip (AW.seq (AW.region ?_)))
        refine s_assign (d := (si 0)) rfl (AWops.nil (AW.ret ?_))
        obtain rfl := Option.some.inj h
        exact ⟨_, rfl, (wG 3 [0, 1, 2, 3] [])⟩
    ·refine AW.cond_yes rfl (by rw [c11] <;> rfl) (AW.seq (AW.region ?_))
     refine s_assign (d := (si 33)) rfl (AWops.nil (AW.ret ?_))
     obtain rfl := Option.some.inj h
     exact ⟨_, rfl, (wG 3 [0, 1, 2, 4] [])⟩
 ·refine AW.cond_yes rfl (by rw [c2] <;> rfl) (AW.seq (AW.region ?_))
  refine s_assign (d := (si 1)) rfl (AWops.nil (AW.ret ?_))
  obtain rfl := Option.some.inj h
  exact ⟨_, rfl, (wG 3 [0, 1, 2, 4] [])⟩
def vdisk_Disk_cut.f (k : Nat) (p0 : vdisk_Disk) (a1 : ByteArray) : Option vdisk_Disk := some (⟨mdel a1 p0.files, p0.room, IntKind.i64.wrap (p0.used - (((lk_vdisk_file a1 p0.files).b).length : Int)), p0.fuse, p0.dead⟩ : vdisk_Disk)
theorem vdisk_Disk_cut.meets (k : Nat) (p0 : vdisk_Disk) (a1 : ByteArray) (r : vdisk_Disk) (h : vdisk_Disk_cut.f k p0 a1 = some r) : Meets Try.prog 60 [(rf 0 0), (st_ a1)] [(o_vdisk_Disk_03 false (C.mp 1) (C.opt p0.fuse.isSome 2 0) p0), (om_ e_vdisk_file p0.files), (some (AObj.cells false [(ci (p0.fuse.getD default))]))] (D.tup []) [(o_vdisk_Disk_03 false (C.mp 1) (C.opt r.fuse.isSome 3 0) r), (om_ e_vdisk_file r.files), none, (some (AObj.cells false [(ci (r.fuse.getD default))]))] := by
 unfold vdisk_Disk_cut.f at h
 refine Meets.of_body (n := 24) Try.func60 rfl rfl (nl rfl) fun x hx => ?_
 replace hx : x.k = 3 := hx
 show AW _ x _ _ ⟨24, fr0 [(rf 0 0), (st_ a1)], [(o_vdisk_Disk_03 false (C.mp 1) (C.opt p0.fuse.isSome 2 0) p0), (om_ e_vdisk_file p0.files), (some (AObj.cells false [(ci (p0.fuse.getD default))]))]⟩
 refine AW.weak (st' := ⟨24, (upd 24 (upd 24 topF 0 (rf 0 0)) 1 (st_ a1)), [(o_vdisk_Disk_03 false (C.mp 1) (C.opt p0.fuse.isSome 3 0) p0), (om_ e_vdisk_file p0.files), none, (some (AObj.cells false [(ci (p0.fuse.getD default))]))]⟩) (Weak.genL (kk := 3) [0, 1, 2, 2] [] hx rfl (by decide) rfl rfl rfl rfl (le_upd (le_upd (le_top _) (o1 (.ref rfl))) (o1 .sc)) (ac (.cells id (ac (.mp rfl) (ac .sc (ac .sc (ac (.opt rfl) (ac .sc an)))))) (ac .map (ac (.none _) (ac (.cells id (ac .sc an)) an))))) (AW.seq ?_)
 refine AW.weak (st' := ⟨24, (upd 24 (upd 24 topF 0 (rf 0 0)) 1 (st_ a1)), [(o_vdisk_Disk_03 false (C.mp 1) (C.opt p0.fuse.isSome 3 0) p0), (om_ e_vdisk_file p0.files), none, (some (AObj.cells false [(ci (p0.fuse.getD default))]))]⟩) (wG 3 [0, 1, 2, 3] []) ?_
 refine AW.draw2 4 [kf 4 (rf 0 0) [0], kf 5 (rf 0 0) [4], kf 6 (rf 0 2) [5], ⟨some 7, (si p0.used), [6], [0], [], none⟩, kf 8 (rf 0 0) [0], kf 9 (rf 0 0) [8], kf 10 (rf 0 0) [9], ⟨some 11, (D.one (C.mp 1)), [10], [0], [], none⟩, kf 12 (st_ a1) [1], ⟨some 13, (D.agg (c_vdisk_file (lk_vdisk_file a1 p0.files))), [11, 12], [1], [], none⟩, kf 14 (D.one (C.p false (.sl ((lk_vdisk_file a1 p0.files).b).length (((lk_vdisk_file a1 p0.files).b).flatMap e_u8)))) [13], kf 15 (si (((lk_vdisk_file a1 p0.files).b).length : Int)) [14], kf 16 (si (IntKind.i64.wrap (p0.used - (((lk_vdisk_file a1 p0.files).b).length : Int)))) [7, 15], kf 17 (rf 0 0) [4], kf 18 (rf 0 2) [17], ⟨none, (D.one C.top), [16, 18], [0], [(0, (some (AObj.cells false [(C.mp 1), (ci p0.room), (ci (IntKind.i64.wrap (p0.used - (((lk_vdisk_file a1 p0.files).b).length : Int)))), (C.opt p0.fuse.isSome 3 0), (cb p0.dead)])))], none⟩] ⟨?_, ?_⟩
 ·refine (pA (pA (pE F.fo_49_2 (pE F.ag_3 (pA (pA (pE F.fo_49_0 (pE F.ag_46 (pA (pC ?_ (pC ?_ (pC ?_ (pA (pA (pE F.fo_49_2 (pC ?_ AllStep.nil'))))))))))))))))
  ·intro K rest fr hv htk k
   refine t_lookup (b := true) F.u_46 F.u_9 F.z_95 (z := ((⟨([] : List Int), 0⟩ : vdisk_file) : vdisk_file)) (zs := [(.slice none 0 0), (.int .i64 0)]) rfl (fun h => by cases h) (ac ZRel.n (ac (ZRel.v _ rfl) an)) rfl rfl rfl rfl k
  ·intro K rest fr hv htk k
   refine s_field1 (c := (C.p false (.sl ((lk_vdisk_file a1 p0.files).b).length (((lk_vdisk_file a1 p0.files).b).flatMap e_u8)))) F.fo_95_0 rfl rfl k
  ·intro K rest fr hv htk k
   refine s_len (n := ((lk_vdisk_file a1 p0.files).b).length) F.u_22 rfl (.inr ⟨(fun _ _ h => by cases h), ⟨_, rfl⟩⟩) k
  ·intro K rest fr hv htk k
   refine s_store (cs' := [(C.mp 1), (ci p0.room), (ci (IntKind.i64.wrap (p0.used - (((lk_vdisk_file a1 p0.files).b).length : Int)))), (C.opt p0.fuse.isSome 3 0), (cb p0.dead)]) rfl rfl rfl (List.cons_ne_nil _ _) rfl F.sz_3 (nl rfl) rfl k
 ·refine AWops.weak (st' := ⟨24, (upd 24 (upd 24 topF 0 (rf 0 0)) 1 (st_ a1)), [(some (AObj.cells false [(C.mp 1), (ci p0.room), (ci (IntKind.i64.wrap (p0.used - (((lk_vdisk_file a1 p0.files).b).length : Int)))), (C.opt p0.fuse.isSome 3 0), (cb p0.dead)])), (om_ e_vdisk_file p0.files), none, (some (AObj.cells false [(ci (p0.fuse.getD default))]))]⟩) (wG 3 [0, 1, 2, 3] []) (AWops.nil (AW.region ?_))
  refine s_move (d := (rf 0 0)) rfl (s_nilCheck (d := (rf 0 0)) rfl (.inl ⟨_, _, rfl⟩) (s_fieldRef F.fo_49_0 (by decide) rfl (s_load1 (c' := (C.mp 1)) F.ag_46 rfl rfl (s_move (d := (st_ a1)) rfl (t_mapDel F.u_46 F.u_9 rfl rfl rfl rfl rfl (AWops.nil ?_))))))
  obtain rfl := Option.some.inj h
  exact ⟨_, rfl, (wG 3 [0, 1, 2, 3] [])⟩
def vdisk_Disk_Remove.f (k : Nat) (p0 : vdisk_Disk) (a1 : ByteArray) : Option (Int × vdisk_Disk) := (vdisk_Disk_change.f k p0 true a1 false 0).bind fun r1 => if (r1.1 == 0) = true then ((vdisk_Disk_cut.f k r1.2 a1).bind fun r3 => some (r1.1, r3)) else (some (r1.1, r1.2))
theorem vdisk_Disk_Remove.meets (k : Nat) (p0 : vdisk_Disk) (a1 : ByteArray) (r : Int × vdisk_Disk) (h : vdisk_Disk_Remove.f k p0 a1 = some r) : Meets Try.prog 23 [(rf 0 0), (st_ a1)] [(o_vdisk_Disk_03 false (C.mp 1) (C.opt p0.fuse.isSome 2 0) p0), (om_ e_vdisk_file p0.files), (some (AObj.cells false [(ci (p0.fuse.getD default))]))] (si r.1) [(o_vdisk_Disk_03 false (C.mp 1) (C.opt r.2.fuse.isSome 3 0) r.2), (om_ e_vdisk_file r.2.files), none, (some (AObj.cells false [(ci (r.2.fuse.getD default))]))] := by
 unfold vdisk_Disk_Remove.f at h
 refine Meets.of_body (n := 15) Try.func23 rfl rfl (nl rfl) fun x hx => ?_
 replace hx : x.k = 3 := hx
 show AW _ x _ _ ⟨15, fr0 [(rf 0 0), (st_ a1)], [(o_vdisk_Disk_03 false (C.mp 1) (C.opt p0.fuse.isSome 2 0) p0), (om_ e_vdisk_file p0.files), (some (AObj.cells false [(ci (p0.fuse.getD default))]))]⟩
 refine AW.weak (st' := ⟨15, (upd 15 (upd 15 topF 0 (rf 0 0)) 1 (st_ a1)), [(o_vdisk_Disk_03 false (C.mp 1) (C.opt p0.fuse.isSome 3 0) p0), (om_ e_vdisk_file p0.files), none, (some (AObj.cells false [(ci (p0.fuse.getD default))]))]⟩) (Weak.genL (kk := 3) [0, 1, 2, 2] [] hx rfl (by decide) rfl rfl rfl rfl (le_upd (le_upd (le_top _) (o1 (.ref rfl))) (o1 .sc)) (ac (.cells id (ac (.mp rfl) (ac .sc (ac .sc (ac (.opt rfl) (ac .sc an)))))) (ac .map (ac (.none _) (ac (.cells id (ac .sc an)) an))))) (AW.seq (AW.region ?_))
 refine s_assign (d := (si 0)) rfl (AWops.nil (AW.seq (AW.region ?_)))
 refine s_move (d := (rf 0 0)) rfl (s_move (d := (st_ a1)) rfl ?_)
 obtain ⟨r1, er1, h⟩ := bnd h
 refine cc [0, 1, 3] [(o_vdisk_Disk_03 false (C.mp 1) (C.opt r1.2.fuse.isSome 4 0) r1.2), (om_ e_vdisk_file r1.2.files), none, none, (some (AObj.cells false [(ci (r1.2.fuse.getD default))]))] (si r1.1) F.ca_59 rfl rfl (ac (.one (.ref rfl)) (ac (.one .sc) (ac (.one .sc) (ac (.one .sc) (ac (.one .sc) an))))) (ac (.cells (ac (.mp rfl) (ac .sc (ac .sc (ac (.opt rfl) (ac .sc an)))))) (ac .map (ac (.cells (ac .sc an)) an))) (vdisk_Disk_change.meets _ p0 true a1 false 0 r1 er1) (s_assign (d := (si r1.1)) rfl (AWops.nil (AW.seq (AW.seq (AW.region (s_move (d := (si r1.1)) rfl (s_binI (v := (.bool (r1.1 == 0))) rfl rfl rfl (AWops.nil ?_))))))))
 rcases itH h with ⟨c2, h⟩ | ⟨c2, h⟩
 ·refine AW.cond_yes rfl c2 (AW.region ?_)
  refine s_move (d := (rf 0 0)) rfl (s_move (d := (st_ a1)) rfl ?_)
  obtain ⟨r3, er3, h⟩ := bnd h
  refine cc [0, 1, 4] [(o_vdisk_Disk_03 false (C.mp 1) (C.opt r3.fuse.isSome 5 0) r3), (om_ e_vdisk_file r3.files), none, none, none, (some (AObj.cells false [(ci (r3.fuse.getD default))]))] (D.tup []) F.ca_60 rfl rfl (ac (.one (.ref rfl)) (ac (.one .sc) an)) (ac (.cells (ac (.mp rfl) (ac .sc (ac .sc (ac (.opt rfl) (ac .sc an)))))) (ac .map (ac (.cells (ac .sc an)) an))) (vdisk_Disk_cut.meets _ r1.2 a1 r3 er3) (AWops.nil (AW.seq (AW.region ?_)))
  refine s_move (d := (si r1.1)) rfl (s_assign (d := (si r1.1)) rfl (AWops.nil (AW.ret ?_)))
  obtain rfl := Option.some.inj h
  exact ⟨_, rfl, (wG 3 [0, 1, 2, 5] [])⟩
 ·refine AW.cond_no rfl c2 (AW.skip (AW.seq (AW.region ?_)))
  refine s_move (d := (si r1.1)) rfl (s_assign (d := (si r1.1)) rfl (AWops.nil (AW.ret ?_)))
  obtain rfl := Option.some.inj h
  exact ⟨_, rfl, (wG 3 [0, 1, 2, 4] [])⟩
def slices_Clone_byte_byte.f (k : Nat) (a0 : List Int) : Option (List Int) := if (decide (([] : List Int).length + a0.length ≤ 140737488355328)) = true then (some a0) else none
theorem slices_Clone_byte_byte.meets (k : Nat) (a0 : List Int) (r : (List Int)) (h : slices_Clone_byte_byte.f k a0 = some r) : Meets Try.prog 27 [(D.one (C.p false (.sl a0.length (a0.flatMap e_u8))))] [] (D.one (C.own 0 0 r.length 1)) [(ow_ e_u8 r)] := by
 unfold slices_Clone_byte_byte.f at h
 refine Meets.of_body (n := 8) Try.func27 rfl rfl (nl rfl) fun x hx => ?_
 replace hx : x.k = 0 := hx
 show AW _ x _ _ ⟨8, fr0 [(D.one (C.p false (.sl a0.length (a0.flatMap e_u8))))], []⟩
 refine AW.seq (AW.region ?_)
 refine s_assign (d := (sc (.slice none 0 0))) rfl (AWops.nil (AW.seq (AW.seq (AW.region ?_))))
 refine s_move (d := (D.one (C.p false (.sl a0.length (a0.flatMap e_u8))))) rfl (s_eqNil (n := _) F.u_22 rfl (fun _ _ h => by cases h) rfl (.inl rfl) (fun b w => ?_))
 cases b with
 | false =>
  refine AWops.nil ?_
  refine AW.cond_no rfl rfl (AW.skip (AW.seq (AW.region ?_)))
  refine s_buildSlice (n := 0) (ps := []) (cs := rowC e_u8 ([] : List Int)) F.u_22 F.sz_5 F.z_5 rfl rfl (by decide) (by decide) rfl rfl (s_move (d := (D.one (C.p false (.sl a0.length (a0.flatMap e_u8))))) rfl ?_)
  obtain ⟨c1, h⟩ := gdH h
  have dc1 := of_decide_eq_true c1
  refine t_append (xs := ([] : List Int)) (ys := a0) (zs := a0) (H' := [none, (ow_ e_u8 a0)]) F.u_22 F.in_5 rfl e_u8_len (.own rfl rfl) .imm F.u_22 (by omega) (by omega) rfl rfl (s_assign (d := (D.one (C.own 1 0 a0.length 1))) rfl (AWops.nil (AW.ret ?_)))
  obtain rfl := Option.some.inj h
  exact ⟨_, rfl, (wG 0 [1] [])⟩
 | true =>
  obtain rfl : a0 = [] := by cases a0 with | nil => rfl | cons _ _ => exact absurd (w (by simp)) (by decide)
  replace h : (some ([] : List Int)) = some r := by simpa [bytesI] using h
  skip
  refine AWops.nil ?_
  refine AW.cond_yes rfl rfl (AW.seq (AW.region ?_))
  refine s_assign (d := (sc (.slice none 0 0))) rfl (AWops.nil (AW.ret ?_))
  obtain rfl := Option.some.inj h
  exact ⟨_, rfl, (Weak.trans (Weak.nil (sz := 1) (i := 0) rfl) (wG 0 [0] []))⟩
def vdisk_Disk_Read.f (k : Nat) (p0 : vdisk_Disk) (a1 : ByteArray) : Option ((List Int) × Int) := (vdisk_Disk_none.f k p0).bind fun r1 => if p0.dead = true then (some (([] : List Int), 70)) else (if ((mget a1 p0.files).isSome) = true then ((slices_Clone_byte_byte.f k ((lk_vdisk_file a1 p0.files).b)).bind fun r4 => some (r4, 0)) else (some (([] : List Int), 33)))
theorem vdisk_Disk_Read.meets (k : Nat) (p0 : vdisk_Disk) (a1 : ByteArray) (r : (List Int) × Int) (h : vdisk_Disk_Read.f k p0 a1 = some r) : Meets Try.prog 24 [(rf 0 0), (st_ a1)] [(o_vdisk_Disk_03 false (C.mp 1) (C.opt p0.fuse.isSome 2 0) p0), (om_ e_vdisk_file p0.files), (some (AObj.cells false [(ci (p0.fuse.getD default))]))] (D.tup [(D.one (C.p false (.sl r.1.length (r.1.flatMap e_u8)))), (si r.2)]) [(o_vdisk_Disk_03 false (C.mp 1) (C.opt p0.fuse.isSome 3 0) p0), (om_ e_vdisk_file p0.files), none, (some (AObj.cells false [(ci (p0.fuse.getD default))]))] := by
 unfold vdisk_Disk_Read.f at h
 refine Meets.of_body (n := 30) Try.func24 rfl rfl (nl rfl) fun x hx => ?_
 replace hx : x.k = 3 := hx
 show AW _ x _ _ ⟨30, fr0 [(rf 0 0), (st_ a1)], [(o_vdisk_Disk_03 false (C.mp 1) (C.opt p0.fuse.isSome 2 0) p0), (om_ e_vdisk_file p0.files), (some (AObj.cells false [(ci (p0.fuse.getD default))]))]⟩
 refine AW.weak (st' := ⟨30, (upd 30 (upd 30 topF 0 (rf 0 0)) 1 (st_ a1)), [(o_vdisk_Disk_03 false (C.mp 1) (C.opt p0.fuse.isSome 3 0) p0), (om_ e_vdisk_file p0.files), none, (some (AObj.cells false [(ci (p0.fuse.getD default))]))]⟩) (Weak.genL (kk := 3) [0, 1, 2, 2] [] hx rfl (by decide) rfl rfl rfl rfl (le_upd (le_upd (le_top _) (o1 (.ref rfl))) (o1 .sc)) (ac (.cells id (ac (.mp rfl) (ac .sc (ac .sc (ac (.opt rfl) (ac .sc an)))))) (ac .map (ac (.none _) (ac (.cells id (ac .sc an)) an))))) (AW.seq (AW.region ?_))
 refine s_assign (d := (sc (.slice none 0 0))) rfl (s_assign (d := (si 0)) rfl (AWops.nil (AW.seq (AW.block (AW.seq (AW.region (s_move (d := (rf 0 0)) rfl ?_)))))))
 obtain ⟨r1, er1, h⟩ := bnd h
 have kr1 := vdisk_Disk_none.const er1
 subst kr1
 refine cc [0, 1, 3] [(o_vdisk_Disk_03 false (C.mp 1) (C.opt p0.fuse.isSome 4 0) p0), (om_ e_vdisk_file p0.files), none, none, (some (AObj.cells false [(ci (p0.fuse.getD default))]))] (sb false) F.ca_61 rfl rfl (ac (.one (.ref rfl)) an) (ac (.cells (ac (.mp rfl) (ac .sc (ac .sc (ac (.opt rfl) (ac .sc an)))))) (ac .map (ac (.cells (ac .sc an)) an))) (vdisk_Disk_none.meets _ p0 false er1) (s_assign (d := (sb false)) rfl (AWops.nil ?_))
 refine AW.cond_no rfl rfl (AW.seq (AW.region ?_))
 refine s_move (d := (rf 0 0)) rfl (s_nilCheck (d := (rf 0 0)) rfl (.inl ⟨_, _, rfl⟩) (s_fieldRef F.fo_49_4 (by decide) rfl (s_load1 (c' := (cb p0.dead)) F.ag_4 rfl rfl (s_assign (d := (sb p0.dead)) rfl (AWops.nil ?_)))))
 rcases itH h with ⟨c2, h⟩ | ⟨c2, h⟩
 ·refine AW.cond_yes rfl c2 (AW.seq (AW.region ?_))
  refine s_assign (d := (sc (.slice none 0 0))) rfl (s_assign (d := (si 70)) rfl (AWops.nil (AW.ret ?_)))
  obtain rfl := Option.some.inj h
  exact ⟨_, rfl, (wG 3 [0, 1, 2, 4] [])⟩
 ·refine AW.cond_no rfl c2 (AW.skip (AW.seq (AW.region ?_)))
  refine s_move (d := (rf 0 0)) rfl (s_nilCheck (d := (rf 0 0)) rfl (.inl ⟨_, _, rfl⟩) (s_fieldRef F.fo_49_0 (by decide) rfl (s_load1 (c' := (C.mp 1)) F.ag_46 rfl rfl (s_move (d := (st_ a1)) rfl (t_lookupOk (b := true) F.u_46 F.u_9 F.z_95 (z := ((⟨([] : List Int), 0⟩ : vdisk_file) : vdisk_file)) (zs := [(.slice none 0 0), (.int .i64 0)]) rfl (fun h => by cases h) (ac ZRel.n (ac (ZRel.v _ rfl) an)) rfl rfl rfl rfl ?_)))))
  refine s_move (d := (D.tup [(D.agg (c_vdisk_file (lk_vdisk_file a1 p0.files))), (sb ((mget a1 p0.files).isSome))])) rfl (s_extract (d := (D.agg (c_vdisk_file (lk_vdisk_file a1 p0.files)))) rfl rfl (s_extract (d := (sb ((mget a1 p0.files).isSome))) rfl rfl (s_alloc (cs := [(C.p true (.v (.slice none 0 0))), (ci 0)]) F.z_95 rfl rfl (s_store (cs' := (c_vdisk_file (lk_vdisk_file a1 p0.files))) rfl rfl rfl (List.cons_ne_nil _ _) rfl F.sz_95 (nl rfl) rfl (s_assign (d := (sb ((mget a1 p0.files).isSome))) rfl (AWops.nil (AW.seq (AW.seq (AW.region ?_)))))))))
  refine s_move (d := (sb ((mget a1 p0.files).isSome))) rfl (s_not rfl (AWops.nil ?_))
  rcases itH h with ⟨c3, h⟩ | ⟨c3, h⟩
  ·refine AW.cond_no rfl (by rw [c3] <;> rfl) (AW.skip (AW.seq (AW.region ?_)))
   refine s_fieldRef F.fo_95_0 (by decide) rfl (s_load1 (c' := (C.p false (.sl ((lk_vdisk_file a1 p0.files).b).length (((lk_vdisk_file a1 p0.files).b).flatMap e_u8)))) F.ag_22 rfl rfl ?_)
   obtain ⟨r4, er4, h⟩ := bnd h
   refine cc [] [(o_vdisk_Disk_03 false (C.mp 1) (C.opt p0.fuse.isSome 4 0) p0), (om_ e_vdisk_file p0.files), none, none, (some (AObj.cells false [(ci (p0.fuse.getD default))])), (some (AObj.cells true (c_vdisk_file (lk_vdisk_file a1 p0.files)))), (ow_ e_u8 r4)] (D.one (C.own 6 0 r4.length 1)) F.ca_27 rfl rfl (ac (.one .imm) an) an (slices_Clone_byte_byte.meets _ ((lk_vdisk_file a1 p0.files).b) r4 er4) (s_assign (d := (D.one (C.own 6 0 r4.length 1))) rfl (s_assign (d := (si 0)) rfl (AWops.nil (AW.ret ?_))))
   obtain rfl := Option.some.inj h
   exact ⟨_, rfl, (wG 3 [0, 1, 2, 4] [6])⟩
  ·refine AW.cond_yes rfl (by rw [c3] <;> rfl) (AW.seq (AW.region ?_))
   refine s_assign (d := (sc (.slice none 0 0))) rfl (s_assign (d := (si 33)) rfl (AWops.nil (AW.ret ?_)))
   obtain rfl := Option.some.inj h
   exact ⟨_, rfl, (wG 3 [0, 1, 2, 4] [])⟩
mutual
def wire_Crc.l1 : Nat → Int → Int → (List Int) → Int → Option Int
 | 0, _, _, _, _ => none
 | k + 1, x5, x6, a0, x2 => if (decide (x6 < 8)) = true then (wire_Crc.l1 k (Go.bits .xor .u32 (Int.fdiv x5 (2 ^ 1)) (Go.bits .and .u32 3988292384 (IntKind.u32.wrap (0 - (Go.bits .and .u32 x5 1))))) (IntKind.i64.wrap (x6 + 1)) a0 x2) else (wire_Crc.l0 k x5 (IntKind.i64.wrap (x2 + 1)) a0)
def wire_Crc.l0 : Nat → Int → Int → (List Int) → Option Int
 | 0, _, _, _ => none
 | k + 1, x1, x2, a0 => if (decide (x2 < (a0.length : Int))) = true then ((rd a0 x2).bind fun v4 => wire_Crc.l1 k (Go.bits .xor .u32 x1 (IntKind.u32.wrap v4)) 0 a0 x2) else (some (IntKind.i64.wrap (Go.bits .xor .u32 4294967295 x1)))
end
def wire_Crc.f (k : Nat) (a0 : List Int) : Option Int := wire_Crc.l0 k 4294967295 0 a0
theorem wire_Crc.meets (k : Nat) (a0 : List Int) (r : Int) (h : wire_Crc.f k a0 = some r) : Meets Try.prog 72 [(D.one (C.p false (.sl a0.length (a0.flatMap e_u8))))] [] (si r) [] := by
 unfold wire_Crc.f at h
 refine Meets.of_body (n := 30) Try.func72 rfl rfl (nl rfl) fun x hx => ?_
 replace hx : x.k = 0 := hx
 show AW _ x _ _ ⟨30, fr0 [(D.one (C.p false (.sl a0.length (a0.flatMap e_u8))))], []⟩
 refine AW.seq (AW.region ?_)
 refine s_assign (d := (si 0)) rfl (AWops.nil (AW.seq (AW.region ?_)))
 refine s_assign (d := (sc (.int .u32 4294967295))) rfl (AWops.nil (AW.seq (AW.seq (AW.region ?_))))
 refine s_move (d := (D.one (C.p false (.sl a0.length (a0.flatMap e_u8))))) rfl (s_len (n := a0.length) F.u_22 rfl (.inr ⟨(fun _ _ h => by cases h), ⟨_, rfl⟩⟩) (s_move (d := (si 0)) rfl (AWops.nil (AW.block ?_))))
 refine AW.loopw (st0 := ⟨30, (upd 30 (upd 30 (upd 30 (upd 30 topF 3 (sc (.int .u32 4294967295))) 6 (D.one (C.p false (.sl a0.length (a0.flatMap e_u8))))) 7 (si (a0.length : Int))) 8 (si 0)), []⟩) (fun kv st => kv ≤ k ∧ ∃ (x1 : Int) (x2 : Int), wire_Crc.l0 kv x1 x2 a0 = some r ∧ st = ⟨30, (upd 30 (upd 30 (upd 30 (upd 30 topF 3 (sc (.int .u32 x1))) 6 (D.one (C.p false (.sl a0.length (a0.flatMap e_u8))))) 7 (si (a0.length : Int))) 8 (si x2)), []⟩) (k := k) (wG 0 [] []) ⟨Nat.le_refl _, 4294967295, 0, h, rfl⟩ ?_
 rintro ql0 st ⟨hkl0, x1, x2, h, rfl⟩
 cases ql0 with
 | zero => exact absurd h (by simp [wire_Crc.l0])
 | succ ql0 =>
  replace h := (wire_Crc.l0.eq_2 _ _ _ _).symm.trans h
  refine AW.seq (AW.region ?_)
  refine s_binI (v := (.bool (decide (x2 < (a0.length : Int))))) rfl rfl rfl (AWops.nil (AW.seq ?_))
  rcases itH h with ⟨c3, h⟩ | ⟨c3, h⟩
  ·refine AW.cond_yes rfl c3 (AW.skip (AW.seq (AW.block (AW.seq (AW.region ?_)))))
   obtain ⟨v4, ev4, h⟩ := bnd h
   obtain ⟨pv4, qv4, gv4⟩ := rd_some ev4
   refine s_indexImm (ps := [P.v (.int .u8 v4)]) F.u_22 F.sz_5 rfl rfl pv4 qv4 (flat_at e_u8_len gv4 (e_u8_eq v4)) (s_load1 (c' := (C.p true (.v (.int .u8 v4)))) F.ag_5 rfl rfl (s_assign (d := (sc (.int .u8 v4))) rfl (AWops.nil (AW.seq (AW.region (s_move (d := (sc (.int .u32 x1))) rfl (s_move (d := (sc (.int .u8 v4))) rfl (s_convI F.u_5 F.u_116 rfl ?_))))))))
   refine s_binI (v := (.int .u32 (Go.bits .xor .u32 x1 (IntKind.u32.wrap v4)))) rfl rfl rfl (s_assign (d := (sc (.int .u32 (Go.bits .xor .u32 x1 (IntKind.u32.wrap v4))))) rfl (AWops.nil (AW.seq (AW.region (s_move (d := (si 0)) rfl (AWops.nil (AW.block ?_)))))))
   refine AW.loopw (st0 := ⟨30, (upd 30 (upd 30 (upd 30 (upd 30 (upd 30 topF 3 (sc (.int .u32 (Go.bits .xor .u32 x1 (IntKind.u32.wrap v4))))) 6 (D.one (C.p false (.sl a0.length (a0.flatMap e_u8))))) 7 (si (a0.length : Int))) 8 (si x2)) 16 (si 0)), []⟩) (fun kv st => kv ≤ ql0 ∧ ∃ (x5 : Int) (x6 : Int), wire_Crc.l1 kv x5 x6 a0 x2 = some r ∧ st = ⟨30, (upd 30 (upd 30 (upd 30 (upd 30 (upd 30 topF 3 (sc (.int .u32 x5))) 6 (D.one (C.p false (.sl a0.length (a0.flatMap e_u8))))) 7 (si (a0.length : Int))) 8 (si x2)) 16 (si x6)), []⟩) (k := ql0) (wG 0 [] []) ⟨Nat.le_refl _, Go.bits .xor .u32 x1 (IntKind.u32.wrap v4), 0, h, rfl⟩ ?_
   rintro ql1 st ⟨hkl1, x5, x6, h, rfl⟩
   cases ql1 with
   | zero => exact absurd h (by simp [wire_Crc.l1])
   | succ ql1 =>
    replace h := (wire_Crc.l1.eq_2 _ _ _ _ _).symm.trans h
    refine AW.seq (AW.region ?_)
    refine s_binI (v := (.bool (decide (x6 < 8)))) rfl rfl rfl (AWops.nil (AW.seq ?_))
    rcases itH h with ⟨c7, h⟩ | ⟨c7, h⟩
    ·refine AW.cond_yes rfl c7 (AW.skip (AW.seq (AW.block (AW.region ?_))))
     refine s_move (d := (sc (.int .u32 x5))) rfl (s_shift (v := (.int .u32 (Int.fdiv x5 (2 ^ 1)))) rfl rfl rfl (s_move (d := (sc (.int .u32 x5))) rfl (s_binI (v := (.int .u32 (Go.bits .and .u32 x5 1))) rfl rfl rfl (s_unI (v := (.int .u32 (IntKind.u32.wrap (0 - (Go.bits .and .u32 x5 1))))) rfl rfl (s_binI (v := (.int .u32 (Go.bits .and .u32 3988292384 (IntKind.u32.wrap (0 - (Go.bits .and .u32 x5 1)))))) rfl rfl rfl ?_)))))
     refine s_binI (v := (.int .u32 (Go.bits .xor .u32 (Int.fdiv x5 (2 ^ 1)) (Go.bits .and .u32 3988292384 (IntKind.u32.wrap (0 - (Go.bits .and .u32 x5 1))))))) rfl rfl rfl (s_assign (d := (sc (.int .u32 (Go.bits .xor .u32 (Int.fdiv x5 (2 ^ 1)) (Go.bits .and .u32 3988292384 (IntKind.u32.wrap (0 - (Go.bits .and .u32 x5 1)))))))) rfl (AWops.nil (AW.region (s_binI (v := (.int .i64 (IntKind.i64.wrap (x6 + 1)))) rfl rfl rfl (s_move (d := (si (IntKind.i64.wrap (x6 + 1)))) rfl (AWops.nil ?_))))))
     exact ⟨_, ⟨30, (upd 30 (upd 30 (upd 30 (upd 30 (upd 30 topF 3 (sc (.int .u32 (Go.bits .xor .u32 (Int.fdiv x5 (2 ^ 1)) (Go.bits .and .u32 3988292384 (IntKind.u32.wrap (0 - (Go.bits .and .u32 x5 1)))))))) 6 (D.one (C.p false (.sl a0.length (a0.flatMap e_u8))))) 7 (si (a0.length : Int))) 8 (si x2)) 16 (si (IntKind.i64.wrap (x6 + 1)))), []⟩, by omega, (wG 0 [] []), by omega, Go.bits .xor .u32 (Int.fdiv x5 (2 ^ 1)) (Go.bits .and .u32 3988292384 (IntKind.u32.wrap (0 - (Go.bits .and .u32 x5 1)))), IntKind.i64.wrap (x6 + 1), h, rfl⟩
    ·refine AW.cond_no rfl c7 (AW.exit (AW.region ?_))
     refine s_binI (v := (.int .i64 (IntKind.i64.wrap (x2 + 1)))) rfl rfl rfl (s_move (d := (si (IntKind.i64.wrap (x2 + 1)))) rfl (AWops.nil ?_))
     exact ⟨_, ⟨30, (upd 30 (upd 30 (upd 30 (upd 30 topF 3 (sc (.int .u32 x5))) 6 (D.one (C.p false (.sl a0.length (a0.flatMap e_u8))))) 7 (si (a0.length : Int))) 8 (si (IntKind.i64.wrap (x2 + 1)))), []⟩, by omega, (wG 0 [] []), by omega, x5, IntKind.i64.wrap (x2 + 1), h, rfl⟩
  ·refine AW.cond_no rfl c3 (AW.exit (AW.seq (AW.region ?_)))
   refine s_move (d := (sc (.int .u32 x1))) rfl (s_unI (v := (.int .u32 (Go.bits .xor .u32 4294967295 x1))) rfl rfl (s_convI F.u_116 F.u_3 rfl (s_assign (d := (si (IntKind.i64.wrap (Go.bits .xor .u32 4294967295 x1)))) rfl (AWops.nil (AW.ret ?_)))))
   obtain rfl := Option.some.inj h
   exact ⟨_, rfl, (wG 0 [] [])⟩
def slices_Grow_byte_byte_nil0.f (k : Nat) (a1 : Int) : Option (List Int) := if (decide (a1 < 0)) = true then (none) else (if (decide ((IntKind.i64.wrap (a1 - 0)) > 0)) = true then (if (decide (0 < (IntKind.i64.wrap (a1 - 0)) ∧ (IntKind.i64.wrap (a1 - 0)) ≤ 140737488355328)) = true then (some ([] : List Int)) else none) else (some ([] : List Int)))
theorem slices_Grow_byte_byte_nil0.meets (k : Nat) (a1 : Int) (r : (List Int)) (h : slices_Grow_byte_byte_nil0.f k a1 = some r) : Meets Try.prog 78 [(sc (.slice none 0 0)), (si a1)] [] (D.one (C.own 0 0 r.length 1)) [(ow_ e_u8 r)] := by
 unfold slices_Grow_byte_byte_nil0.f at h
 refine Meets.of_body (n := 27) Try.func78 rfl rfl (nl rfl) fun x hx => ?_
 replace hx : x.k = 0 := hx
 show AW _ x _ _ ⟨27, fr0 [(sc (.slice none 0 0)), (si a1)], []⟩
 refine AW.seq (AW.region ?_)
 refine s_assign (d := (sc (.slice none 0 0))) rfl (AWops.nil (AW.seq (AW.seq (AW.region ?_))))
 refine s_move (d := (si a1)) rfl (s_binI (v := (.bool (decide (a1 < 0)))) rfl rfl rfl (AWops.nil ?_))
 rcases itH h with ⟨c2, h⟩ | ⟨c2, h⟩
 ·refine AW.cond_yes rfl c2 (AW.region ?_)
  cases h
 ·refine AW.cond_no rfl c2 (AW.skip (AW.seq (AW.seq (AW.region ?_))))
  refine s_move (d := (si a1)) rfl (s_move (d := (sc (.slice none 0 0))) rfl (s_capNil F.u_22 rfl (s_move (d := (sc (.slice none 0 0))) rfl (s_len (n := 0) F.u_22 rfl (.inr ⟨(fun _ _ h => by cases h), ⟨_, rfl⟩⟩) (s_binI (v := (.int .i64 0)) rfl rfl (by rfl) ?_)))))
  refine s_binI (v := (.int .i64 (IntKind.i64.wrap (a1 - 0)))) rfl rfl rfl (s_assign (d := (si (IntKind.i64.wrap (a1 - 0)))) rfl (AWops.nil (AW.seq (AW.region (s_move (d := (si (IntKind.i64.wrap (a1 - 0)))) rfl (s_binI (v := (.bool (decide ((IntKind.i64.wrap (a1 - 0)) > 0)))) rfl rfl rfl (AWops.nil ?_)))))))
  rcases itH h with ⟨c3, h⟩ | ⟨c3, h⟩
  ·refine AW.cond_yes rfl c3 (AW.region ?_)
   refine s_move (d := (sc (.slice none 0 0))) rfl (s_move (d := (sc (.slice none 0 0))) rfl (s_capNil F.u_22 rfl (s_sliceNil F.u_22 F.sz_5 rfl rfl (s_move (d := (si (IntKind.i64.wrap (a1 - 0)))) rfl ?_))))
   obtain ⟨c4, h⟩ := gdH h
   have dc4 := of_decide_eq_true c4
   refine t_appendMake (f := e_u8) (a0 := (0 : Int)) F.u_22 F.u_3 F.in_5 rfl (by decide) rfl rfl rfl rfl (by omega) (by omega) (by omega) (s_move (d := (sc (.slice none 0 0))) rfl (s_len (n := 0) F.u_22 rfl (.inr ⟨(fun _ _ h => by cases h), ⟨_, rfl⟩⟩) (t_cut0 F.u_22 F.sz_5 rfl rfl rfl rfl (s_assign (d := (D.one (C.own 0 0 (([] : List Int).length) 1))) rfl (AWops.nil (AW.seq (AW.region (s_move (d := (D.one (C.own 0 0 (([] : List Int).length) 1))) rfl ?_))))))))
   refine s_assign (d := (D.one (C.own 0 0 (([] : List Int).length) 1))) rfl (AWops.nil (AW.ret ?_))
   obtain rfl := Option.some.inj h
   exact ⟨_, rfl, (wG 0 [0] [])⟩
  ·refine AW.cond_no rfl c3 (AW.skip (AW.seq (AW.region ?_)))
   refine s_move (d := (sc (.slice none 0 0))) rfl (s_assign (d := (sc (.slice none 0 0))) rfl (AWops.nil (AW.ret ?_)))
   obtain rfl := Option.some.inj h
   exact ⟨_, rfl, (Weak.trans (Weak.nil (sz := 1) (i := 0) rfl) (wG 0 [0] []))⟩
mutual
def slices_Concat_byte_byte.l1 : Nat → (List Int) → Int → (List (List Int)) → Option (List Int)
 | 0, _, _, _ => none
 | k + 1, x7, x8, a0 => if (decide (x8 < (a0.length : Int))) = true then ((rd a0 x8).bind fun v10 => if (decide (x7.length + v10.length ≤ 140737488355328)) = true then (slices_Concat_byte_byte.l1 k (x7 ++ v10) (IntKind.i64.wrap (x8 + 1)) a0) else none) else (some x7)
def slices_Concat_byte_byte.l0 : Nat → Int → Int → (List (List Int)) → Option (List Int)
 | 0, _, _, _ => none
 | k + 1, x1, x2, a0 => if (decide (x2 < (a0.length : Int))) = true then ((rd a0 x2).bind fun v4 => if (decide ((IntKind.i64.wrap (x1 + (v4.length : Int))) < 0)) = true then (none) else (slices_Concat_byte_byte.l0 k (IntKind.i64.wrap (x1 + (v4.length : Int))) (IntKind.i64.wrap (x2 + 1)) a0)) else ((slices_Grow_byte_byte_nil0.f k x1).bind fun r6 => slices_Concat_byte_byte.l1 k r6 0 a0)
end
def slices_Concat_byte_byte.f (k : Nat) (a0 : List (List Int)) : Option (List Int) := slices_Concat_byte_byte.l0 k 0 0 a0
theorem slices_Concat_byte_byte.meets (k : Nat) (a0 : List (List Int)) (r : (List Int)) (h : slices_Concat_byte_byte.f k a0 = some r) : Meets Try.prog 69 [(D.one (C.p false (.sl a0.length (a0.flatMap (e_sl e_u8)))))] [] (D.one (C.own 0 0 r.length 1)) [(ow_ e_u8 r)] := by
 unfold slices_Concat_byte_byte.f at h
 refine Meets.of_body (n := 36) Try.func69 rfl rfl (nl rfl) fun x hx => ?_
 replace hx : x.k = 0 := hx
 show AW _ x _ _ ⟨36, fr0 [(D.one (C.p false (.sl a0.length (a0.flatMap (e_sl e_u8)))))], []⟩
 refine AW.seq (AW.region ?_)
 refine s_assign (d := (sc (.slice none 0 0))) rfl (AWops.nil (AW.seq (AW.region ?_)))
 refine s_assign (d := (si 0)) rfl (AWops.nil (AW.seq (AW.seq (AW.region ?_))))
 refine s_move (d := (D.one (C.p false (.sl a0.length (a0.flatMap (e_sl e_u8)))))) rfl (s_len (n := a0.length) F.u_61 rfl (.inr ⟨(fun _ _ h => by cases h), ⟨_, rfl⟩⟩) (s_move (d := (si 0)) rfl (AWops.nil (AW.block ?_))))
 refine AW.loopw (st0 := ⟨36, (upd 36 (upd 36 (upd 36 (upd 36 (upd 36 topF 0 (D.one (C.p false (.sl a0.length (a0.flatMap (e_sl e_u8)))))) 3 (si 0)) 9 (D.one (C.p false (.sl a0.length (a0.flatMap (e_sl e_u8)))))) 10 (si (a0.length : Int))) 11 (si 0)), []⟩) (fun kv st => kv ≤ k ∧ ∃ (x1 : Int) (x2 : Int), slices_Concat_byte_byte.l0 kv x1 x2 a0 = some r ∧ st = ⟨36, (upd 36 (upd 36 (upd 36 (upd 36 (upd 36 topF 0 (D.one (C.p false (.sl a0.length (a0.flatMap (e_sl e_u8)))))) 3 (si x1)) 9 (D.one (C.p false (.sl a0.length (a0.flatMap (e_sl e_u8)))))) 10 (si (a0.length : Int))) 11 (si x2)), []⟩) (k := k) (wG 0 [] []) ⟨Nat.le_refl _, 0, 0, h, rfl⟩ ?_
 rintro ql0 st ⟨hkl0, x1, x2, h, rfl⟩
 cases ql0 with
 | zero => exact absurd h (by simp [slices_Concat_byte_byte.l0])
 | succ ql0 =>
  replace h := (slices_Concat_byte_byte.l0.eq_2 _ _ _ _).symm.trans h
  refine AW.seq (AW.region ?_)
  refine s_binI (v := (.bool (decide (x2 < (a0.length : Int))))) rfl rfl rfl (AWops.nil (AW.seq ?_))
  rcases itH h with ⟨c3, h⟩ | ⟨c3, h⟩
  ·refine AW.cond_yes rfl c3 (AW.skip (AW.seq (AW.block (AW.seq (AW.region ?_)))))
   obtain ⟨v4, ev4, h⟩ := bnd h
   obtain ⟨pv4, qv4, gv4⟩ := rd_some ev4
   refine s_indexImm (ps := [P.sl v4.length (v4.flatMap e_u8)]) F.u_61 F.sz_22 rfl rfl pv4 qv4 (flat_at (e_sl_len _) gv4 (e_sl_eq _ v4)) (s_load1 (c' := (C.p false (.sl v4.length (v4.flatMap e_u8)))) F.ag_22 rfl rfl (s_assign (d := (D.one (C.p false (.sl v4.length (v4.flatMap e_u8))))) rfl (AWops.nil (AW.seq (AW.region (s_move (d := (si x1)) rfl (s_move (d := (D.one (C.p false (.sl v4.length (v4.flatMap e_u8))))) rfl (s_len (n := v4.length) F.u_22 rfl (.inr ⟨(fun _ _ h => by cases h), ⟨_, rfl⟩⟩) ?_))))))))
   refine s_binI (v := (.int .i64 (IntKind.i64.wrap (x1 + (v4.length : Int))))) rfl rfl rfl (s_assign (d := (si (IntKind.i64.wrap (x1 + (v4.length : Int))))) rfl (AWops.nil (AW.seq (AW.region (s_move (d := (si (IntKind.i64.wrap (x1 + (v4.length : Int))))) rfl (s_binI (v := (.bool (decide ((IntKind.i64.wrap (x1 + (v4.length : Int))) < 0)))) rfl rfl rfl (AWops.nil ?_)))))))
   rcases itH h with ⟨c5, h⟩ | ⟨c5, h⟩
   ·refine AW.cond_yes rfl c5 (AW.region ?_)
    cases h
   ·refine AW.cond_no rfl c5 (AW.skip (AW.region ?_))
    refine s_binI (v := (.int .i64 (IntKind.i64.wrap (x2 + 1)))) rfl rfl rfl (s_move (d := (si (IntKind.i64.wrap (x2 + 1)))) rfl (AWops.nil ?_))
    exact ⟨_, ⟨36, (upd 36 (upd 36 (upd 36 (upd 36 (upd 36 topF 0 (D.one (C.p false (.sl a0.length (a0.flatMap (e_sl e_u8)))))) 3 (si (IntKind.i64.wrap (x1 + (v4.length : Int))))) 9 (D.one (C.p false (.sl a0.length (a0.flatMap (e_sl e_u8)))))) 10 (si (a0.length : Int))) 11 (si (IntKind.i64.wrap (x2 + 1)))), []⟩, by omega, (wG 0 [] []), by omega, IntKind.i64.wrap (x1 + (v4.length : Int)), IntKind.i64.wrap (x2 + 1), h, rfl⟩
  ·refine AW.cond_no rfl c3 (AW.exit (AW.seq (AW.region ?_)))
   refine s_move (d := (si x1)) rfl ?_
   obtain ⟨r6, er6, h⟩ := bnd h
   refine cc [] [(ow_ e_u8 r6)] (D.one (C.own 0 0 r6.length 1)) F.ca_78 rfl rfl (ac (.one .sc) (ac (.one .sc) an)) an (slices_Grow_byte_byte_nil0.meets _ x1 r6 er6) (s_assign (d := (D.one (C.own 0 0 r6.length 1))) rfl (AWops.nil (AW.seq (AW.seq (AW.region (s_move (d := (D.one (C.p false (.sl a0.length (a0.flatMap (e_sl e_u8)))))) rfl (s_len (n := a0.length) F.u_61 rfl (.inr ⟨(fun _ _ h => by cases h), ⟨_, rfl⟩⟩) (s_move (d := (si 0)) rfl (AWops.nil (AW.block ?_))))))))))
   refine AW.loopw (st0 := ⟨36, (upd 36 (upd 36 (upd 36 (upd 36 topF 6 (D.one (C.own 0 0 r6.length 1))) 25 (D.one (C.p false (.sl a0.length (a0.flatMap (e_sl e_u8)))))) 26 (si (a0.length : Int))) 27 (si 0)), [(ow_ e_u8 r6)]⟩) (fun kv st => kv ≤ ql0 ∧ ∃ (x7 : List Int) (x8 : Int), slices_Concat_byte_byte.l1 kv x7 x8 a0 = some r ∧ st = ⟨36, (upd 36 (upd 36 (upd 36 (upd 36 topF 6 (D.one (C.own 0 0 x7.length 1))) 25 (D.one (C.p false (.sl a0.length (a0.flatMap (e_sl e_u8)))))) 26 (si (a0.length : Int))) 27 (si x8)), [(ow_ e_u8 x7)]⟩) (k := ql0) (wG 0 [0] []) ⟨Nat.le_refl _, r6, 0, h, rfl⟩ ?_
   rintro ql1 st ⟨hkl1, x7, x8, h, rfl⟩
   cases ql1 with
   | zero => exact absurd h (by simp [slices_Concat_byte_byte.l1])
   | succ ql1 =>
    replace h := (slices_Concat_byte_byte.l1.eq_2 _ _ _ _).symm.trans h
    refine AW.seq (AW.region ?_)
    refine s_binI (v := (.bool (decide (x8 < (a0.length : Int))))) rfl rfl rfl (AWops.nil (AW.seq ?_))
    rcases itH h with ⟨c9, h⟩ | ⟨c9, h⟩
    ·refine AW.cond_yes rfl c9 (AW.skip (AW.seq (AW.block (AW.seq (AW.region ?_)))))
     obtain ⟨v10, ev10, h⟩ := bnd h
     obtain ⟨pv10, qv10, gv10⟩ := rd_some ev10
     refine s_indexImm (ps := [P.sl v10.length (v10.flatMap e_u8)]) F.u_61 F.sz_22 rfl rfl pv10 qv10 (flat_at (e_sl_len _) gv10 (e_sl_eq _ v10)) (s_load1 (c' := (C.p false (.sl v10.length (v10.flatMap e_u8)))) F.ag_22 rfl rfl (s_assign (d := (D.one (C.p false (.sl v10.length (v10.flatMap e_u8))))) rfl (AWops.nil (AW.region (s_move (d := (D.one (C.own 0 0 x7.length 1))) rfl (s_move (d := (D.one (C.p false (.sl v10.length (v10.flatMap e_u8))))) rfl ?_))))))
     obtain ⟨c11, h⟩ := gdH h
     have dc11 := of_decide_eq_true c11
     refine t_append (xs := x7) (ys := v10) (zs := x7 ++ v10) (H' := [none, (some (AObj.cells true (rowC e_u8 (x7 ++ v10))))]) F.u_22 F.in_5 rfl e_u8_len (.own rfl rfl) .imm F.u_22 (by omega) (by omega) rfl rfl (s_assign (d := (D.one (C.own 1 0 ((x7 ++ v10).length) 1))) rfl (AWops.nil (AW.region (s_binI (v := (.int .i64 (IntKind.i64.wrap (x8 + 1)))) rfl rfl rfl (s_move (d := (si (IntKind.i64.wrap (x8 + 1)))) rfl (AWops.nil ?_))))))
     exact ⟨_, ⟨36, (upd 36 (upd 36 (upd 36 (upd 36 topF 6 (D.one (C.own 0 0 (x7 ++ v10).length 1))) 25 (D.one (C.p false (.sl a0.length (a0.flatMap (e_sl e_u8)))))) 26 (si (a0.length : Int))) 27 (si (IntKind.i64.wrap (x8 + 1)))), [(some (AObj.cells true (rowC e_u8 (x7 ++ v10))))]⟩, by omega, (wG 0 [1] []), by omega, x7 ++ v10, IntKind.i64.wrap (x8 + 1), h, rfl⟩
    ·refine AW.cond_no rfl c9 (AW.exit (AW.seq (AW.region ?_)))
     refine s_move (d := (D.one (C.own 0 0 x7.length 1))) rfl (s_assign (d := (D.one (C.own 0 0 x7.length 1))) rfl (AWops.nil (AW.ret ?_)))
     obtain rfl := Option.some.inj h
     exact ⟨_, rfl, (wG 0 [0] [])⟩
mutual
def journal_frame.l0 : Nat → (List Int) → Int → (List Int) → Int → Option (List Int)
 | 0, _, _, _, _ => none
 | k + 1, x2, x3, a0, r1 => if (decide (x3 < 4)) = true then (if (decide (0 ≤ (IntKind.i64.wrap (24 - (IntKind.i64.wrap (8 * x3)))))) = true then (if (decide (x3 < 8)) = true then ((rd x2 x3).bind fun v7 => if (decide ((IntKind.i64.wrap (4 + x3)) < 8)) = true then ((rd (x2.set x3.toNat (IntKind.u8.wrap (Int.fdiv (a0.length : Int) (2 ^ (min (IntKind.i64.wrap (24 - (IntKind.i64.wrap (8 * x3)))).toNat 64))))) (IntKind.i64.wrap (4 + x3))).bind fun v9 => journal_frame.l0 k ((x2.set x3.toNat (IntKind.u8.wrap (Int.fdiv (a0.length : Int) (2 ^ (min (IntKind.i64.wrap (24 - (IntKind.i64.wrap (8 * x3)))).toNat 64))))).set (IntKind.i64.wrap (4 + x3)).toNat (IntKind.u8.wrap (Int.fdiv r1 (2 ^ (min (IntKind.i64.wrap (24 - (IntKind.i64.wrap (8 * x3)))).toNat 64))))) (IntKind.i64.wrap (x3 + 1)) a0 r1) else none) else none) else none) else (if (decide (x2.length = 8)) = true then ((slices_Concat_byte_byte.f k ([x2, a0] : List (List Int))).bind fun r11 => some r11) else none)
end
def journal_frame.f (k : Nat) (a0 : List Int) : Option (List Int) := (wire_Crc.f k a0).bind fun r1 => journal_frame.l0 k (List.replicate 8 (0 : Int)) 0 a0 r1
theorem journal_frame.meets (k : Nat) (a0 : List Int) (r : (List Int)) (h : journal_frame.f k a0 = some r) : Meets Try.prog 49 [(D.one (C.p false (.sl a0.length (a0.flatMap e_u8))))] [] (D.one (C.own 0 0 r.length 1)) [(ow_ e_u8 r)] := by
 unfold journal_frame.f at h
 refine Meets.of_body (n := 36) Try.func49 rfl rfl (nl rfl) fun x hx => ?_
 replace hx : x.k = 0 := hx
 show AW _ x _ _ ⟨36, fr0 [(D.one (C.p false (.sl a0.length (a0.flatMap e_u8))))], []⟩
 refine AW.seq (AW.region ?_)
 refine s_assign (d := (sc (.slice none 0 0))) rfl (AWops.nil (AW.seq (AW.region ?_)))
 refine s_move (d := (D.one (C.p false (.sl a0.length (a0.flatMap e_u8))))) rfl (s_len (n := a0.length) F.u_22 rfl (.inr ⟨(fun _ _ h => by cases h), ⟨_, rfl⟩⟩) (s_move (d := (D.one (C.p false (.sl a0.length (a0.flatMap e_u8))))) rfl ?_))
 obtain ⟨r1, er1, h⟩ := bnd h
 refine cc [] [] (si r1) F.ca_72 rfl rfl (ac (.one .imm) an) an (wire_Crc.meets _ a0 r1 er1) (s_assign (d := (si (a0.length : Int))) rfl (s_assign (d := (si r1)) rfl (AWops.nil (AW.seq (AW.region (s_alloc (cs := rowC e_u8 (List.replicate 8 (0 : Int))) F.z_109 rfl rfl (AWops.nil (AW.seq (AW.seq (AW.region (s_move (d := (si 0)) rfl (AWops.nil (AW.block ?_)))))))))))))
 refine AW.loopw (st0 := ⟨36, (upd 36 (upd 36 (upd 36 (upd 36 (upd 36 topF 0 (D.one (C.p false (.sl a0.length (a0.flatMap e_u8))))) 3 (si (a0.length : Int))) 4 (si r1)) 5 (rf 0 0)) 11 (si 0)), [(some (AObj.cells true (rowC e_u8 (List.replicate 8 (0 : Int)))))]⟩) (fun kv st => kv ≤ k ∧ ∃ (x2 : List Int) (x3 : Int), journal_frame.l0 kv x2 x3 a0 r1 = some r ∧ st = ⟨36, (upd 36 (upd 36 (upd 36 (upd 36 (upd 36 topF 0 (D.one (C.p false (.sl a0.length (a0.flatMap e_u8))))) 3 (si (a0.length : Int))) 4 (si r1)) 5 (rf 0 0)) 11 (si x3)), [(ow_ e_u8 x2)]⟩) (k := k) (wG 0 [0] []) ⟨Nat.le_refl _, (List.replicate 8 (0 : Int)), 0, h, rfl⟩ ?_
 rintro ql0 st ⟨hkl0, x2, x3, h, rfl⟩
 cases ql0 with
 | zero => exact absurd h (by simp [journal_frame.l0])
 | succ ql0 =>
  replace h := (journal_frame.l0.eq_2 _ _ _ _ _).symm.trans h
  refine AW.seq (AW.region ?_)
  refine s_binI (v := (.bool (decide (x3 < 4)))) rfl rfl rfl (AWops.nil (AW.seq ?_))
  rcases itH h with ⟨c4, h⟩ | ⟨c4, h⟩
  ·refine AW.cond_yes rfl c4 (AW.skip (AW.seq (AW.block (AW.seq (AW.region ?_)))))
   refine s_move (d := (si x3)) rfl (s_assign (d := (si x3)) rfl (AWops.nil (AW.seq (AW.region (s_move (d := (si x3)) rfl (s_move (d := (si (a0.length : Int))) rfl (s_move (d := (si x3)) rfl (s_binI (v := (.int .i64 (IntKind.i64.wrap (8 * x3)))) rfl rfl rfl ?_))))))))
   refine s_binI (v := (.int .i64 (IntKind.i64.wrap (24 - (IntKind.i64.wrap (8 * x3)))))) rfl rfl rfl ?_
   obtain ⟨c5, h⟩ := gdH h
   refine s_shift (v := (.int .i64 (Int.fdiv (a0.length : Int) (2 ^ (min (IntKind.i64.wrap (24 - (IntKind.i64.wrap (8 * x3)))).toNat 64))))) rfl rfl (if_neg (by have := of_decide_eq_true c5; omega)) (s_convI F.u_3 F.u_5 rfl ?_)
   obtain ⟨c6, h⟩ := gdH h
   obtain ⟨v7, ev7, h⟩ := bnd h
   obtain ⟨pv7, qv7, gv7⟩ := rd_some ev7
   refine s_indexArr (n := 8) (d := (D.one (C.ref 0 (0 + x3.toNat * 1)))) F.u_109 F.sz_5 rfl rfl pv7 (of_decide_eq_true c6) rfl ?_
   refine s_store (cs' := rowC e_u8 (x2.set x3.toNat (IntKind.u8.wrap (Int.fdiv (a0.length : Int) (2 ^ (min (IntKind.i64.wrap (24 - (IntKind.i64.wrap (8 * x3)))).toNat 64)))))) rfl rfl rfl (List.cons_ne_nil _ _) rfl F.sz_5 (by rw [row_len e_u8_len]; have := (List.getElem?_eq_some_iff.mp gv7).1; show _ + 1 ≤ _; omega) (row_set (f := e_u8) (sz := 1) (o := 0) (ds := [P.v (.int .u8 (IntKind.u8.wrap (Int.fdiv (a0.length : Int) (2 ^ (min (IntKind.i64.wrap (24 - (IntKind.i64.wrap (8 * x3)))).toNat 64)))))]) e_u8_len gv7 rfl (nl rfl) rfl) ?_
   refine AWops.nil (AW.region ?_)
   refine s_move (d := (si x3)) rfl (s_binI (v := (.int .i64 (IntKind.i64.wrap (4 + x3)))) rfl rfl rfl (s_move (d := (si r1)) rfl (s_move (d := (si x3)) rfl (s_binI (v := (.int .i64 (IntKind.i64.wrap (8 * x3)))) rfl rfl rfl (s_binI (v := (.int .i64 (IntKind.i64.wrap (24 - (IntKind.i64.wrap (8 * x3)))))) rfl rfl rfl ?_)))))
   refine s_shift (v := (.int .i64 (Int.fdiv r1 (2 ^ (min (IntKind.i64.wrap (24 - (IntKind.i64.wrap (8 * x3)))).toNat 64))))) rfl rfl (if_neg (by have := of_decide_eq_true c5; omega)) (s_convI F.u_3 F.u_5 rfl ?_)
   obtain ⟨c8, h⟩ := gdH h
   obtain ⟨v9, ev9, h⟩ := bnd h
   obtain ⟨pv9, qv9, gv9⟩ := rd_some ev9
   refine s_indexArr (n := 8) (d := (D.one (C.ref 0 (0 + (IntKind.i64.wrap (4 + x3)).toNat * 1)))) F.u_109 F.sz_5 rfl rfl pv9 (of_decide_eq_true c8) rfl ?_
   refine s_store (cs' := rowC e_u8 ((x2.set x3.toNat (IntKind.u8.wrap (Int.fdiv (a0.length : Int) (2 ^ (min (IntKind.i64.wrap (24 - (IntKind.i64.wrap (8 * x3)))).toNat 64))))).set (IntKind.i64.wrap (4 + x3)).toNat (IntKind.u8.wrap (Int.fdiv r1 (2 ^ (min (IntKind.i64.wrap (24 - (IntKind.i64.wrap (8 * x3)))).toNat 64)))))) rfl rfl rfl (List.cons_ne_nil _ _) rfl F.sz_5 (by rw [row_len e_u8_len]; have := (List.getElem?_eq_some_iff.mp gv9).1; show _ + 1 ≤ _; omega) (row_set (f := e_u8) (sz := 1) (o := 0) (ds := [P.v (.int .u8 (IntKind.u8.wrap (Int.fdiv r1 (2 ^ (min (IntKind.i64.wrap (24 - (IntKind.i64.wrap (8 * x3)))).toNat 64)))))]) e_u8_len gv9 rfl (nl rfl) rfl) ?_
   refine AWops.nil (AW.region ?_)
   refine s_binI (v := (.int .i64 (IntKind.i64.wrap (x3 + 1)))) rfl rfl rfl (s_move (d := (si (IntKind.i64.wrap (x3 + 1)))) rfl (AWops.nil ?_))
   exact ⟨_, ⟨36, (upd 36 (upd 36 (upd 36 (upd 36 (upd 36 topF 0 (D.one (C.p false (.sl a0.length (a0.flatMap e_u8))))) 3 (si (a0.length : Int))) 4 (si r1)) 5 (rf 0 0)) 11 (si (IntKind.i64.wrap (x3 + 1)))), [(some (AObj.cells true (rowC e_u8 ((x2.set x3.toNat (IntKind.u8.wrap (Int.fdiv (a0.length : Int) (2 ^ (min (IntKind.i64.wrap (24 - (IntKind.i64.wrap (8 * x3)))).toNat 64))))).set (IntKind.i64.wrap (4 + x3)).toNat (IntKind.u8.wrap (Int.fdiv r1 (2 ^ (min (IntKind.i64.wrap (24 - (IntKind.i64.wrap (8 * x3)))).toNat 64))))))))]⟩, by omega, (wG 0 [0] []), by omega, (x2.set x3.toNat (IntKind.u8.wrap (Int.fdiv (a0.length : Int) (2 ^ (min (IntKind.i64.wrap (24 - (IntKind.i64.wrap (8 * x3)))).toNat 64))))).set (IntKind.i64.wrap (4 + x3)).toNat (IntKind.u8.wrap (Int.fdiv r1 (2 ^ (min (IntKind.i64.wrap (24 - (IntKind.i64.wrap (8 * x3)))).toNat 64)))), IntKind.i64.wrap (x3 + 1), h, rfl⟩
  ·refine AW.cond_no rfl c4 (AW.exit (AW.seq (AW.region ?_)))
   obtain ⟨c10, h⟩ := gdH h
   have dc10 := of_decide_eq_true c10
   refine s_sliceArr (n := 8) (l := 0) (h := 8) (d := (D.one (C.own 0 0 x2.length 1))) F.u_109 F.sz_5 rfl rfl (by rw [row_len e_u8_len]; omega) .no .no (by omega) (Nat.le_refl _) (by omega) (by simp [dc10]) (s_move (d := (D.one (C.p false (.sl a0.length (a0.flatMap e_u8))))) rfl ?_)
   refine AWops.weak (st' := ⟨36, (upd 36 (upd 36 (upd 36 (upd 36 (upd 36 (upd 36 (upd 36 topF 0 (D.one (C.p false (.sl a0.length (a0.flatMap e_u8))))) 3 (si (a0.length : Int))) 4 (si r1)) 11 (si x3)) 12 (sb (decide (x3 < 4)))) 32 (D.one (C.p false (.sl x2.length (x2.flatMap e_u8))))) 33 (D.one (C.p false (.sl a0.length (a0.flatMap e_u8))))), []⟩) (wG 0 [] [0]) ?_
   refine s_buildSlice (n := 2) (ps := [(0, (D.one (C.p false (.sl x2.length (x2.flatMap e_u8))))), (1, (D.one (C.p false (.sl a0.length (a0.flatMap e_u8)))))]) (cs := rowC (e_sl e_u8) ([x2, a0] : List (List Int))) F.u_61 F.sz_22 F.z_22 rfl rfl (by decide) (by decide) rfl rfl ?_
   obtain ⟨r11, er11, h⟩ := bnd h
   refine s_call2 (ρ := []) (br := true) (H2 := [(some (AObj.cells true (rowC (e_sl e_u8) ([x2, a0] : List (List Int))))), (ow_ e_u8 r11)]) (d := (D.one (C.own 1 0 r11.length 1))) F.ca_69 rfl rfl (ac (.one (LendC.bor (e_sl_len _) rfl rfl rfl)) an) an (by decide) rfl (slices_Concat_byte_byte.meets _ ([x2, a0] : List (List Int)) r11 er11) (.inr ⟨rfl, by simp [frH, frC, fr_row e_u8_fr]⟩) (by first | rfl | (simp only [mS]; done) | (simp only [mS]; rfl)) rfl (s_assign (d := (D.one (C.own 1 0 r11.length 1))) rfl (AWops.nil (AW.ret ?_)))
   obtain rfl := Option.some.inj h
   exact ⟨_, rfl, (wG 0 [1] [])⟩
mutual
def slices_Equal_byte_byte.l0 : Nat → Int → (List Int) → (List Int) → Option Bool
 | 0, _, _, _ => none
 | k + 1, x2, a0, a1 => if (decide (x2 < (a0.length : Int))) = true then ((rd a0 x2).bind fun v4 => (rd a1 x2).bind fun v5 => if (v4 != v5) = true then (some false) else (slices_Equal_byte_byte.l0 k (IntKind.i64.wrap (x2 + 1)) a0 a1)) else (some true)
end
def slices_Equal_byte_byte.f (k : Nat) (a0 : List Int) (a1 : List Int) : Option Bool := if ((a0.length : Int) != (a1.length : Int)) = true then (some false) else (slices_Equal_byte_byte.l0 k 0 a0 a1)
theorem slices_Equal_byte_byte.meets (k : Nat) (a0 : List Int) (a1 : List Int) (r : Bool) (h : slices_Equal_byte_byte.f k a0 a1 = some r) : Meets Try.prog 77 [(D.one (C.p false (.sl a0.length (a0.flatMap e_u8)))), (D.one (C.p false (.sl a1.length (a1.flatMap e_u8))))] [] (sb r) [] := by
 unfold slices_Equal_byte_byte.f at h
 refine Meets.of_body (n := 26) Try.func77 rfl rfl (nl rfl) fun x hx => ?_
 replace hx : x.k = 0 := hx
 show AW _ x _ _ ⟨26, fr0 [(D.one (C.p false (.sl a0.length (a0.flatMap e_u8)))), (D.one (C.p false (.sl a1.length (a1.flatMap e_u8))))], []⟩
 refine AW.seq (AW.region ?_)
 refine s_assign (d := (sb false)) rfl (AWops.nil (AW.seq (AW.seq (AW.region ?_))))
 refine s_move (d := (D.one (C.p false (.sl a0.length (a0.flatMap e_u8))))) rfl (s_len (n := a0.length) F.u_22 rfl (.inr ⟨(fun _ _ h => by cases h), ⟨_, rfl⟩⟩) (s_move (d := (D.one (C.p false (.sl a1.length (a1.flatMap e_u8))))) rfl (s_len (n := a1.length) F.u_22 rfl (.inr ⟨(fun _ _ h => by cases h), ⟨_, rfl⟩⟩) (s_binI (v := (.bool ((a0.length : Int) != (a1.length : Int)))) rfl rfl rfl (AWops.nil ?_)))))
 rcases itH h with ⟨c1, h⟩ | ⟨c1, h⟩
 ·refine AW.cond_yes rfl c1 (AW.seq (AW.region ?_))
  refine s_assign (d := (sb false)) rfl (AWops.nil (AW.ret ?_))
  obtain rfl := Option.some.inj h
  exact ⟨_, rfl, (wG 0 [] [])⟩
 ·refine AW.cond_no rfl c1 (AW.skip (AW.seq (AW.seq (AW.region ?_))))
  refine s_move (d := (D.one (C.p false (.sl a0.length (a0.flatMap e_u8))))) rfl (s_len (n := a0.length) F.u_22 rfl (.inr ⟨(fun _ _ h => by cases h), ⟨_, rfl⟩⟩) (s_move (d := (si 0)) rfl (AWops.nil (AW.block ?_))))
  refine AW.loopw (st0 := ⟨26, (upd 26 (upd 26 (upd 26 (upd 26 topF 0 (D.one (C.p false (.sl a0.length (a0.flatMap e_u8))))) 1 (D.one (C.p false (.sl a1.length (a1.flatMap e_u8))))) 12 (si (a0.length : Int))) 13 (si 0)), []⟩) (fun kv st => kv ≤ k ∧ ∃ (x2 : Int), slices_Equal_byte_byte.l0 kv x2 a0 a1 = some r ∧ st = ⟨26, (upd 26 (upd 26 (upd 26 (upd 26 topF 0 (D.one (C.p false (.sl a0.length (a0.flatMap e_u8))))) 1 (D.one (C.p false (.sl a1.length (a1.flatMap e_u8))))) 12 (si (a0.length : Int))) 13 (si x2)), []⟩) (k := k) (wG 0 [] []) ⟨Nat.le_refl _, 0, h, rfl⟩ ?_
  rintro ql0 st ⟨hkl0, x2, h, rfl⟩
  cases ql0 with
  | zero => exact absurd h (by simp [slices_Equal_byte_byte.l0])
  | succ ql0 =>
   replace h := (slices_Equal_byte_byte.l0.eq_2 _ _ _ _).symm.trans h
   refine AW.seq (AW.region ?_)
   refine s_binI (v := (.bool (decide (x2 < (a0.length : Int))))) rfl rfl rfl (AWops.nil (AW.seq ?_))
   rcases itH h with ⟨c3, h⟩ | ⟨c3, h⟩
   ·refine AW.cond_yes rfl c3 (AW.skip (AW.seq (AW.block (AW.seq (AW.region ?_)))))
    refine s_move (d := (si x2)) rfl (s_assign (d := (si x2)) rfl (AWops.nil (AW.seq ?_)))
    refine AW.weak (st' := ⟨26, (upd 26 (upd 26 (upd 26 (upd 26 (upd 26 topF 0 (D.one (C.p false (.sl a0.length (a0.flatMap e_u8))))) 1 (D.one (C.p false (.sl a1.length (a1.flatMap e_u8))))) 5 (si x2)) 12 (si (a0.length : Int))) 13 (si x2)), []⟩) (wG 0 [] []) ?_
    obtain ⟨v4, ev4, h⟩ := bnd h
    obtain ⟨pv4, qv4, gv4⟩ := rd_some ev4
    obtain ⟨v5, ev5, h⟩ := bnd h
    obtain ⟨pv5, qv5, gv5⟩ := rd_some ev5
    refine AW.draw2 0 [kf 16 (D.one (C.p false (.sl a0.length (a0.flatMap e_u8)))) [0], kf 17 (si x2) [5], kf 18 (D.one (C.peek false [P.v (.int .u8 v4)])) [16, 17], kf 19 (sc (.int .u8 v4)) [18], kf 20 (D.one (C.p false (.sl a1.length (a1.flatMap e_u8)))) [1], kf 21 (si x2) [5], kf 22 (D.one (C.peek false [P.v (.int .u8 v5)])) [20, 21], kf 23 (sc (.int .u8 v5)) [22], kf 24 (sb (v4 != v5)) [19, 23]] ⟨?_, ?_⟩
    ·refine (pA (pA (pC ?_ (pE F.ag_5 (pA (pA (pC ?_ (pE F.ag_5 (pA AllStep.nil')))))))))
     ·intro K rest fr hv htk k
      refine s_indexImm (ps := [P.v (.int .u8 v4)]) F.u_22 F.sz_5 rfl rfl pv4 qv4 (flat_at e_u8_len gv4 (e_u8_eq v4)) k
     ·intro K rest fr hv htk k
      refine s_indexImm (ps := [P.v (.int .u8 v5)]) F.u_22 F.sz_5 rfl rfl pv5 qv5 (flat_at e_u8_len gv5 (e_u8_eq v5)) k
    ·refine AWops.weak (st' := ⟨26, (upd 26 (upd 26 (upd 26 (upd 26 (upd 26 topF 0 (D.one (C.p false (.sl a0.length (a0.flatMap e_u8))))) 1 (D.one (C.p false (.sl a1.length (a1.flatMap e_u8))))) 12 (si (a0.length : Int))) 13 (si x2)) 24 (sb (v4 != v5))), []⟩) (wG 0 [] []) (AWops.nil ?_)
     rcases itH h with ⟨c6, h⟩ | ⟨c6, h⟩
     ·refine AW.cond_yes rfl c6 (AW.seq (AW.region ?_))
      refine s_assign (d := (sb false)) rfl (AWops.nil (AW.ret ?_))
      obtain rfl := Option.some.inj h
      exact ⟨_, rfl, (wG 0 [] [])⟩
     ·refine AW.cond_no rfl c6 (AW.skip (AW.region ?_))
      refine s_binI (v := (.int .i64 (IntKind.i64.wrap (x2 + 1)))) rfl rfl rfl (s_move (d := (si (IntKind.i64.wrap (x2 + 1)))) rfl (AWops.nil ?_))
      exact ⟨_, ⟨26, (upd 26 (upd 26 (upd 26 (upd 26 topF 0 (D.one (C.p false (.sl a0.length (a0.flatMap e_u8))))) 1 (D.one (C.p false (.sl a1.length (a1.flatMap e_u8))))) 12 (si (a0.length : Int))) 13 (si (IntKind.i64.wrap (x2 + 1)))), []⟩, by omega, (wG 0 [] []), by omega, IntKind.i64.wrap (x2 + 1), h, rfl⟩
   ·refine AW.cond_no rfl c3 (AW.exit (AW.seq (AW.region ?_)))
    refine s_assign (d := (sb true)) rfl (AWops.nil (AW.ret ?_))
    obtain rfl := Option.some.inj h
    exact ⟨_, rfl, (wG 0 [] [])⟩
mutual
def journal_next.l0 : Nat → Int → Int → (List Int) → Option ((List Int) × Bool)
 | 0, _, _, _ => none
 | k + 1, x3, x4, a0 => if (decide (x4 < ((sub a0 0 4).length : Int))) = true then ((rd (sub a0 0 4) x4).bind fun v6 => journal_next.l0 k (Go.bits .or .i64 (IntKind.i64.wrap (x3 * 2 ^ 8)) (IntKind.i64.wrap v6)) (IntKind.i64.wrap (x4 + 1)) a0) else (if (decide (x3 > (IntKind.i64.wrap ((a0.length : Int) - 8)))) = true then (some (([] : List Int), false)) else (if (decide (0 ≤ 8 ∧ 8 ≤ (IntKind.i64.wrap (8 + x3)) ∧ (IntKind.i64.wrap (8 + x3)) ≤ (a0.length : Int))) = true then ((slices_Clone_byte_byte.f k (sub a0 8 (IntKind.i64.wrap (8 + x3)))).bind fun r9 => (journal_frame.f k (sub a0 8 (IntKind.i64.wrap (8 + x3)))).bind fun r10 => if (decide (0 ≤ 0 ∧ 0 ≤ 8 ∧ 8 ≤ (r10.length : Int))) = true then (if (decide (0 ≤ 0 ∧ 0 ≤ 8 ∧ 8 ≤ (a0.length : Int))) = true then ((slices_Equal_byte_byte.f k (sub r10 0 8) (sub a0 0 8)).bind fun r13 => some (r9, r13)) else none) else none) else none))
end
def journal_next.f (k : Nat) (a0 : List Int) : Option ((List Int) × Bool) := if (decide ((a0.length : Int) < 8)) = true then (some (([] : List Int), false)) else (if (decide (0 ≤ 0 ∧ 0 ≤ 4 ∧ 4 ≤ (a0.length : Int))) = true then (journal_next.l0 k 0 0 a0) else none)
theorem journal_next.meets (k : Nat) (a0 : List Int) (r : (List Int) × Bool) (h : journal_next.f k a0 = some r) : Meets Try.prog 62 [(D.one (C.p false (.sl a0.length (a0.flatMap e_u8))))] [] (D.tup [(D.one (C.p false (.sl r.1.length (r.1.flatMap e_u8)))), (sb r.2)]) [] := by
 unfold journal_next.f at h
 refine Meets.of_body (n := 41) Try.func62 rfl rfl (nl rfl) fun x hx => ?_
 replace hx : x.k = 0 := hx
 show AW _ x _ _ ⟨41, fr0 [(D.one (C.p false (.sl a0.length (a0.flatMap e_u8))))], []⟩
 refine AW.seq (AW.region ?_)
 refine s_assign (d := (sc (.slice none 0 0))) rfl (s_assign (d := (sb false)) rfl (AWops.nil (AW.seq (AW.seq (AW.region (s_move (d := (D.one (C.p false (.sl a0.length (a0.flatMap e_u8))))) rfl (s_len (n := a0.length) F.u_22 rfl (.inr ⟨(fun _ _ h => by cases h), ⟨_, rfl⟩⟩) (s_binI (v := (.bool (decide ((a0.length : Int) < 8)))) rfl rfl rfl (AWops.nil ?_)))))))))
 rcases itH h with ⟨c1, h⟩ | ⟨c1, h⟩
 ·refine AW.cond_yes rfl c1 (AW.seq (AW.region ?_))
  refine s_assign (d := (sc (.slice none 0 0))) rfl (s_assign (d := (sb false)) rfl (AWops.nil (AW.ret ?_)))
  obtain rfl := Option.some.inj h
  exact ⟨_, rfl, (wG 0 [] [])⟩
 ·refine AW.cond_no rfl c1 (AW.skip (AW.seq (AW.region ?_)))
  refine s_assign (d := (si 0)) rfl (AWops.nil (AW.seq (AW.seq (AW.region ?_))))
  refine s_move (d := (D.one (C.p false (.sl a0.length (a0.flatMap e_u8))))) rfl ?_
  obtain ⟨c2, h⟩ := gdH h
  have dc2 := of_decide_eq_true c2
  refine t_sliceImm (a := 0) (b := 4) F.u_22 F.sz_5 e_u8_len rfl (by omega) (by omega) (by omega) .no (.yes rfl (by omega) rfl) (s_len (n := (sub a0 0 4).length) F.u_22 rfl (.inr ⟨(fun _ _ h => by cases h), ⟨_, rfl⟩⟩) (s_move (d := (si 0)) rfl (AWops.nil (AW.block ?_))))
  refine AW.loopw (st0 := ⟨41, (upd 41 (upd 41 (upd 41 (upd 41 (upd 41 topF 0 (D.one (C.p false (.sl a0.length (a0.flatMap e_u8))))) 4 (si 0)) 12 (D.one (C.p false (.sl (sub a0 0 4).length ((sub a0 0 4).flatMap e_u8))))) 13 (si ((sub a0 0 4).length : Int))) 14 (si 0)), []⟩) (fun kv st => kv ≤ k ∧ ∃ (x3 : Int) (x4 : Int), journal_next.l0 kv x3 x4 a0 = some r ∧ st = ⟨41, (upd 41 (upd 41 (upd 41 (upd 41 (upd 41 topF 0 (D.one (C.p false (.sl a0.length (a0.flatMap e_u8))))) 4 (si x3)) 12 (D.one (C.p false (.sl (sub a0 0 4).length ((sub a0 0 4).flatMap e_u8))))) 13 (si ((sub a0 0 4).length : Int))) 14 (si x4)), []⟩) (k := k) (wG 0 [] []) ⟨Nat.le_refl _, 0, 0, h, rfl⟩ ?_
  rintro ql0 st ⟨hkl0, x3, x4, h, rfl⟩
  cases ql0 with
  | zero => exact absurd h (by simp [journal_next.l0])
  | succ ql0 =>
   replace h := (journal_next.l0.eq_2 _ _ _ _).symm.trans h
   refine AW.seq (AW.region ?_)
   refine s_binI (v := (.bool (decide (x4 < ((sub a0 0 4).length : Int))))) rfl rfl rfl (AWops.nil (AW.seq ?_))
   rcases itH h with ⟨c5, h⟩ | ⟨c5, h⟩
   ·refine AW.cond_yes rfl c5 (AW.skip (AW.seq (AW.block (AW.seq (AW.region ?_)))))
    obtain ⟨v6, ev6, h⟩ := bnd h
    obtain ⟨pv6, qv6, gv6⟩ := rd_some ev6
    refine s_indexImm (ps := [P.v (.int .u8 v6)]) F.u_22 F.sz_5 rfl rfl pv6 qv6 (flat_at e_u8_len gv6 (e_u8_eq v6)) (s_load1 (c' := (C.p true (.v (.int .u8 v6)))) F.ag_5 rfl rfl (s_assign (d := (sc (.int .u8 v6))) rfl (AWops.nil (AW.region (s_move (d := (si x3)) rfl (s_shift (v := (.int .i64 (IntKind.i64.wrap (x3 * 2 ^ 8)))) rfl rfl rfl (s_move (d := (sc (.int .u8 v6))) rfl ?_)))))))
    refine s_convI F.u_5 F.u_3 rfl (s_binI (v := (.int .i64 (Go.bits .or .i64 (IntKind.i64.wrap (x3 * 2 ^ 8)) (IntKind.i64.wrap v6)))) rfl rfl rfl (s_assign (d := (si (Go.bits .or .i64 (IntKind.i64.wrap (x3 * 2 ^ 8)) (IntKind.i64.wrap v6)))) rfl (AWops.nil (AW.region (s_binI (v := (.int .i64 (IntKind.i64.wrap (x4 + 1)))) rfl rfl rfl (s_move (d := (si (IntKind.i64.wrap (x4 + 1)))) rfl (AWops.nil ?_)))))))
    exact ⟨_, ⟨41, (upd 41 (upd 41 (upd 41 (upd 41 (upd 41 topF 0 (D.one (C.p false (.sl a0.length (a0.flatMap e_u8))))) 4 (si (Go.bits .or .i64 (IntKind.i64.wrap (x3 * 2 ^ 8)) (IntKind.i64.wrap v6)))) 12 (D.one (C.p false (.sl (sub a0 0 4).length ((sub a0 0 4).flatMap e_u8))))) 13 (si ((sub a0 0 4).length : Int))) 14 (si (IntKind.i64.wrap (x4 + 1)))), []⟩, by omega, (wG 0 [] []), by omega, Go.bits .or .i64 (IntKind.i64.wrap (x3 * 2 ^ 8)) (IntKind.i64.wrap v6), IntKind.i64.wrap (x4 + 1), h, rfl⟩
   ·refine AW.cond_no rfl c5 (AW.exit (AW.seq (AW.seq (AW.region ?_))))
    refine s_move (d := (si x3)) rfl (s_move (d := (D.one (C.p false (.sl a0.length (a0.flatMap e_u8))))) rfl (s_len (n := a0.length) F.u_22 rfl (.inr ⟨(fun _ _ h => by cases h), ⟨_, rfl⟩⟩) (s_binI (v := (.int .i64 (IntKind.i64.wrap ((a0.length : Int) - 8)))) rfl rfl rfl (s_binI (v := (.bool (decide (x3 > (IntKind.i64.wrap ((a0.length : Int) - 8)))))) rfl rfl rfl (AWops.nil ?_)))))
    rcases itH h with ⟨c7, h⟩ | ⟨c7, h⟩
    ·refine AW.cond_yes rfl c7 (AW.seq (AW.region ?_))
     refine s_assign (d := (sc (.slice none 0 0))) rfl (s_assign (d := (sb false)) rfl (AWops.nil (AW.ret ?_)))
     obtain rfl := Option.some.inj h
     exact ⟨_, rfl, (wG 0 [] [])⟩
    ·refine AW.cond_no rfl c7 (AW.skip (AW.seq (AW.region ?_)))
     refine s_move (d := (D.one (C.p false (.sl a0.length (a0.flatMap e_u8))))) rfl (s_move (d := (si x3)) rfl (s_binI (v := (.int .i64 (IntKind.i64.wrap (8 + x3)))) rfl rfl rfl ?_))
     obtain ⟨c8, h⟩ := gdH h
     have dc8 := of_decide_eq_true c8
     refine t_sliceImm (a := 8) (b := IntKind.i64.wrap (8 + x3)) F.u_22 F.sz_5 e_u8_len rfl (by omega) (by omega) (by omega) (.yes rfl (by omega) rfl) (.yes rfl (by omega) rfl) (s_assign (d := (D.one (C.p false (.sl (sub a0 8 (IntKind.i64.wrap (8 + x3))).length ((sub a0 8 (IntKind.i64.wrap (8 + x3))).flatMap e_u8))))) rfl (AWops.nil (AW.seq ?_)))
     refine AW.weak (st' := ⟨41, (upd 41 (upd 41 topF 0 (D.one (C.p false (.sl a0.length (a0.flatMap e_u8))))) 7 (D.one (C.p false (.sl (sub a0 8 (IntKind.i64.wrap (8 + x3))).length ((sub a0 8 (IntKind.i64.wrap (8 + x3))).flatMap e_u8))))), []⟩) (wG 0 [] []) ?_
     obtain ⟨r9, er9, h⟩ := bnd h
     obtain ⟨r10, er10, h⟩ := bnd h
     obtain ⟨c11, h⟩ := gdH h
     have dc11 := of_decide_eq_true c11
     obtain ⟨c12, h⟩ := gdH h
     have dc12 := of_decide_eq_true c12
     obtain ⟨r13, er13, h⟩ := bnd h
     refine AW.draw2 3 [kf 33 (D.one (C.p false (.sl (sub a0 8 (IntKind.i64.wrap (8 + x3))).length ((sub a0 8 (IntKind.i64.wrap (8 + x3))).flatMap e_u8)))) [7], ⟨some 34, (D.one (C.own 0 0 r9.length 1)), [33], [], [(0, (ow_ e_u8 r9))], some (0, 1)⟩, kf 35 (D.one (C.p false (.sl (sub a0 8 (IntKind.i64.wrap (8 + x3))).length ((sub a0 8 (IntKind.i64.wrap (8 + x3))).flatMap e_u8)))) [7], ⟨some 36, (D.one (C.p false (.sl r10.length (r10.flatMap e_u8)))), [35], [], [], some (1, 1)⟩, kf 37 (D.one (C.p false (.sl (sub r10 0 8).length ((sub r10 0 8).flatMap e_u8)))) [36], kf 38 (D.one (C.p false (.sl a0.length (a0.flatMap e_u8)))) [0], kf 39 (D.one (C.p false (.sl (sub a0 0 8).length ((sub a0 0 8).flatMap e_u8)))) [38], kf 40 (sb r13) [37, 39], kf 2 (D.one (C.own 0 0 r9.length 1)) [34], kf 3 (sb r13) [40]] ⟨?_, ?_⟩
     ·refine (pA (pC ?_ (pA (pC ?_ (pC ?_ (pA (pC ?_ (pC ?_ (pA (pA AllStep.nil'))))))))))
      ·intro K rest fr hv htk k
       show AWops _ x _ _ K ⟨41, (upd 41 fr 33 (D.one (C.p false (.sl (sub a0 8 (IntKind.i64.wrap (8 + x3))).length ((sub a0 8 (IntKind.i64.wrap (8 + x3))).flatMap e_u8))))), [(hv 0), (hv 1), (hv 2)]⟩
       refine cc [] [(hv 0), (hv 1), (hv 2), (ow_ e_u8 r9)] (D.one (C.own 3 0 r9.length 1)) F.ca_27 rfl rfl (ac (.one .imm) an) an (slices_Clone_byte_byte.meets _ (sub a0 8 (IntKind.i64.wrap (8 + x3))) r9 er9) ?_
       refine AWops.weak (wD 0 (0, 1) 3 [3, 1, 2] [] (htk (0, 1) rfl)) k
      ·intro K rest fr hv htk k
       show AWops _ x _ _ K ⟨41, (upd 41 fr 35 (D.one (C.p false (.sl (sub a0 8 (IntKind.i64.wrap (8 + x3))).length ((sub a0 8 (IntKind.i64.wrap (8 + x3))).flatMap e_u8))))), [(hv 0), (hv 1), (hv 2)]⟩
       refine cc [] [(hv 0), (hv 1), (hv 2), (ow_ e_u8 r10)] (D.one (C.own 3 0 r10.length 1)) F.ca_49 rfl rfl (ac (.one .imm) an) an (journal_frame.meets _ (sub a0 8 (IntKind.i64.wrap (8 + x3))) r10 er10) ?_
       refine AWops.weak (wD 0 (1, 1) 3 [0, 1, 2] [3] (htk (1, 1) rfl)) k
      ·intro K rest fr hv htk k
       refine t_sliceImm (a := 0) (b := 8) F.u_22 F.sz_5 e_u8_len rfl (by omega) (by omega) (by omega) .no (.yes rfl (by omega) rfl) k
      ·intro K rest fr hv htk k
       refine t_sliceImm (a := 0) (b := 8) F.u_22 F.sz_5 e_u8_len rfl (by omega) (by omega) (by omega) .no (.yes rfl (by omega) rfl) k
      ·intro K rest fr hv htk k
       refine cc [] [(hv 0), (hv 1), (hv 2)] (sb r13) F.ca_77 rfl rfl (ac (.one .imm) (ac (.one .imm) an)) an (slices_Equal_byte_byte.meets _ (sub r10 0 8) (sub a0 0 8) r13 er13) k
     ·refine AWops.weak (st' := ⟨41, (upd 41 (upd 41 topF 2 (D.one (C.own 0 0 r9.length 1))) 3 (sb r13)), [(ow_ e_u8 r9)]⟩) (wG 0 [0] []) (AWops.nil (AW.ret ?_))
      obtain rfl := Option.some.inj h
      exact ⟨_, rfl, (wG 0 [] [0])⟩
def vdisk_Disk_set.f (k : Nat) (p0 : vdisk_Disk) (a1 : ByteArray) (a2 : vdisk_file) : Option vdisk_Disk := some (⟨mset a1 a2 p0.files, p0.room, IntKind.i64.wrap (p0.used + (IntKind.i64.wrap ((a2.b.length : Int) - (((lk_vdisk_file a1 p0.files).b).length : Int)))), p0.fuse, p0.dead⟩ : vdisk_Disk)
theorem vdisk_Disk_set.meets (k : Nat) (p0 : vdisk_Disk) (a1 : ByteArray) (a2 : vdisk_file) (r : vdisk_Disk) (h : vdisk_Disk_set.f k p0 a1 a2 = some r) : Meets Try.prog 68 [(rf 0 0), (st_ a1), (D.agg (c_vdisk_file a2))] [(o_vdisk_Disk_03 false (C.mp 1) (C.opt p0.fuse.isSome 2 0) p0), (om_ e_vdisk_file p0.files), (some (AObj.cells false [(ci (p0.fuse.getD default))]))] (D.tup []) [(o_vdisk_Disk_03 false (C.mp 1) (C.opt r.fuse.isSome 3 0) r), (om_ e_vdisk_file r.files), none, (some (AObj.cells false [(ci (r.fuse.getD default))]))] := by
 unfold vdisk_Disk_set.f at h
 refine Meets.of_body (n := 31) Try.func68 rfl rfl (nl rfl) fun x hx => ?_
 replace hx : x.k = 3 := hx
 show AW _ x _ _ ⟨31, fr0 [(rf 0 0), (st_ a1), (D.agg (c_vdisk_file a2))], [(o_vdisk_Disk_03 false (C.mp 1) (C.opt p0.fuse.isSome 2 0) p0), (om_ e_vdisk_file p0.files), (some (AObj.cells false [(ci (p0.fuse.getD default))]))]⟩
 refine AW.weak (st' := ⟨31, (upd 31 (upd 31 (upd 31 topF 0 (rf 0 0)) 1 (st_ a1)) 2 (D.agg (c_vdisk_file a2))), [(o_vdisk_Disk_03 false (C.mp 1) (C.opt p0.fuse.isSome 3 0) p0), (om_ e_vdisk_file p0.files), none, (some (AObj.cells false [(ci (p0.fuse.getD default))]))]⟩) (Weak.genL (kk := 3) [0, 1, 2, 2] [] hx rfl (by decide) rfl rfl rfl rfl (le_upd (le_upd (le_upd (le_top _) (o1 (.ref rfl))) (o1 .sc)) (.t (.agg (ac .same (ac .sc an))))) (ac (.cells id (ac (.mp rfl) (ac .sc (ac .sc (ac (.opt rfl) (ac .sc an)))))) (ac .map (ac (.none _) (ac (.cells id (ac .sc an)) an))))) (AW.seq (AW.region ?_))
 refine s_box (cs := (c_vdisk_file a2)) rfl (List.cons_ne_nil _ _) rfl (AWops.nil (AW.seq ?_))
 refine AW.weak (st' := ⟨31, (upd 31 (upd 31 (upd 31 topF 0 (rf 0 0)) 1 (st_ a1)) 5 (rf 3 0)), [(o_vdisk_Disk_03 false (C.mp 1) (C.opt p0.fuse.isSome 4 0) p0), (om_ e_vdisk_file p0.files), none, (some (AObj.cells true (c_vdisk_file a2))), (some (AObj.cells false [(ci (p0.fuse.getD default))]))]⟩) (wG 3 [0, 1, 2, 4, 3] []) ?_
 refine AW.draw2 5 [kf 6 (rf 0 0) [0], kf 7 (rf 0 0) [6], kf 8 (rf 0 2) [7], ⟨some 9, (si p0.used), [8], [0], [], none⟩, kf 10 (rf 3 0) [5], ⟨some 11, (D.one (C.p false (.sl a2.b.length (a2.b.flatMap e_u8)))), [10], [3], [], none⟩, kf 12 (si (a2.b.length : Int)) [11], kf 13 (rf 0 0) [0], kf 14 (rf 0 0) [13], kf 15 (rf 0 0) [14], ⟨some 16, (D.one (C.mp 1)), [15], [0], [], none⟩, kf 17 (st_ a1) [1], ⟨some 18, (D.agg (c_vdisk_file (lk_vdisk_file a1 p0.files))), [16, 17], [1], [], none⟩, kf 19 (D.one (C.p false (.sl ((lk_vdisk_file a1 p0.files).b).length (((lk_vdisk_file a1 p0.files).b).flatMap e_u8)))) [18], kf 20 (si (((lk_vdisk_file a1 p0.files).b).length : Int)) [19], kf 21 (si (IntKind.i64.wrap ((a2.b.length : Int) - (((lk_vdisk_file a1 p0.files).b).length : Int)))) [12, 20], kf 22 (si (IntKind.i64.wrap (p0.used + (IntKind.i64.wrap ((a2.b.length : Int) - (((lk_vdisk_file a1 p0.files).b).length : Int)))))) [9, 21], kf 23 (rf 0 0) [6], kf 24 (rf 0 2) [23], ⟨none, (D.one C.top), [22, 24], [0], [(0, (some (AObj.cells false [(C.mp 1), (ci p0.room), (ci (IntKind.i64.wrap (p0.used + (IntKind.i64.wrap ((a2.b.length : Int) - (((lk_vdisk_file a1 p0.files).b).length : Int)))))), (C.opt p0.fuse.isSome 4 0), (cb p0.dead)])))], none⟩] ⟨?_, ?_⟩
 ·refine (pA (pA (pE F.fo_49_2 (pE F.ag_3 (pE F.fo_95_0 (pE F.ag_22 (pC ?_ (pA (pA (pE F.fo_49_0 (pE F.ag_46 (pA (pC ?_ (pC ?_ (pC ?_ (pA (pA (pA (pE F.fo_49_2 (pC ?_ AllStep.nil'))))))))))))))))))))
  ·intro K rest fr hv htk k
   refine s_len (n := a2.b.length) F.u_22 rfl (.inr ⟨(fun _ _ h => by cases h), ⟨_, rfl⟩⟩) k
  ·intro K rest fr hv htk k
   refine t_lookup (b := true) F.u_46 F.u_9 F.z_95 (z := ((⟨([] : List Int), 0⟩ : vdisk_file) : vdisk_file)) (zs := [(.slice none 0 0), (.int .i64 0)]) rfl (fun h => by cases h) (ac ZRel.n (ac (ZRel.v _ rfl) an)) rfl rfl rfl rfl k
  ·intro K rest fr hv htk k
   refine s_field1 (c := (C.p false (.sl ((lk_vdisk_file a1 p0.files).b).length (((lk_vdisk_file a1 p0.files).b).flatMap e_u8)))) F.fo_95_0 rfl rfl k
  ·intro K rest fr hv htk k
   refine s_len (n := ((lk_vdisk_file a1 p0.files).b).length) F.u_22 rfl (.inr ⟨(fun _ _ h => by cases h), ⟨_, rfl⟩⟩) k
  ·intro K rest fr hv htk k
   refine s_store (cs' := [(C.mp 1), (ci p0.room), (ci (IntKind.i64.wrap (p0.used + (IntKind.i64.wrap ((a2.b.length : Int) - (((lk_vdisk_file a1 p0.files).b).length : Int)))))), (C.opt p0.fuse.isSome 4 0), (cb p0.dead)]) rfl rfl rfl (List.cons_ne_nil _ _) rfl F.sz_3 (nl rfl) rfl k
 ·refine AWops.weak (st' := ⟨31, (upd 31 (upd 31 (upd 31 topF 0 (rf 0 0)) 1 (st_ a1)) 5 (rf 3 0)), [(some (AObj.cells false [(C.mp 1), (ci p0.room), (ci (IntKind.i64.wrap (p0.used + (IntKind.i64.wrap ((a2.b.length : Int) - (((lk_vdisk_file a1 p0.files).b).length : Int)))))), (C.opt p0.fuse.isSome 4 0), (cb p0.dead)])), (om_ e_vdisk_file p0.files), none, (some (AObj.cells true (c_vdisk_file a2))), (some (AObj.cells false [(ci (p0.fuse.getD default))]))]⟩) (wG 3 [0, 1, 2, 3, 4] []) (AWops.nil ?_)
  refine AW.weak (st' := ⟨31, (upd 31 (upd 31 (upd 31 topF 0 (rf 0 0)) 1 (st_ a1)) 5 (rf 3 0)), [(some (AObj.cells false [(C.mp 1), (ci p0.room), (ci (IntKind.i64.wrap (p0.used + (IntKind.i64.wrap ((a2.b.length : Int) - (((lk_vdisk_file a1 p0.files).b).length : Int)))))), (C.opt p0.fuse.isSome 4 0), (cb p0.dead)])), (om_ e_vdisk_file p0.files), none, (some (AObj.cells true (c_vdisk_file a2))), (some (AObj.cells false [(ci (p0.fuse.getD default))]))]⟩) (wG 3 [0, 1, 2, 3, 4] []) ?_
  refine AW.draw2 5 [kf 25 (rf 0 0) [0], kf 26 (rf 0 0) [25], kf 27 (rf 0 0) [26], ⟨some 28, (D.one (C.mp 1)), [27], [0], [], none⟩, kf 29 (st_ a1) [1], ⟨some 30, (D.agg (c_vdisk_file a2)), [5], [3], [], none⟩, ⟨none, (D.one C.top), [28, 29, 30], [1], [(1, (some (AObj.map false (mapE true e_vdisk_file (mset a1 a2 p0.files)))))], none⟩] ⟨?_, ?_⟩
  ·refine (pA (pA (pE F.fo_49_0 (pE F.ag_46 (pA (pC ?_ (pC ?_ AllStep.nil')))))))
   ·intro K rest fr hv htk k
    refine s_loadN (ds := (c_vdisk_file a2)) F.ag_95 F.sz_95 rfl rfl rfl k
   ·intro K rest fr hv htk k
    refine t_mapSet (b := true) (u := a2) F.u_46 F.u_9 (fun h => by cases h) rfl rfl rfl rfl rfl k
  ·refine AWops.weak (st' := ⟨31, topF, [(some (AObj.cells false [(C.mp 1), (ci p0.room), (ci (IntKind.i64.wrap (p0.used + (IntKind.i64.wrap ((a2.b.length : Int) - (((lk_vdisk_file a1 p0.files).b).length : Int)))))), (C.opt p0.fuse.isSome 3 0), (cb p0.dead)])), (some (AObj.map false (mapE true e_vdisk_file (mset a1 a2 p0.files)))), none, (some (AObj.cells false [(ci (p0.fuse.getD default))]))]⟩) (wG 3 [0, 1, 2, 4] []) (AWops.nil ?_)
   obtain rfl := Option.some.inj h
   exact ⟨_, rfl, (wG 3 [0, 1, 2, 3] [])⟩
def vdisk_Disk_Truncate.f (k : Nat) (p0 : vdisk_Disk) (a1 : ByteArray) (a2 : Int) : Option (Int × vdisk_Disk) := (vdisk_Disk_change.f k p0 (decide (a2 ≥ 0)) a1 false 0).bind fun r1 => if (r1.1 == 0) = true then (if (decide (0 ≤ (if (((lk_vdisk_file a1 r1.2.files).b).length : Int) < a2 then (((lk_vdisk_file a1 r1.2.files).b).length : Int) else a2) ∧ (if (((lk_vdisk_file a1 r1.2.files).b).length : Int) < a2 then (((lk_vdisk_file a1 r1.2.files).b).length : Int) else a2) ≤ (((lk_vdisk_file a1 r1.2.files).b).length : Int))) = true then ((vdisk_Disk_set.f k r1.2 a1 (⟨sub ((lk_vdisk_file a1 r1.2.files).b) 0 (if (((lk_vdisk_file a1 r1.2.files).b).length : Int) < a2 then (((lk_vdisk_file a1 r1.2.files).b).length : Int) else a2), (if ((lk_vdisk_file a1 r1.2.files).sure) < (if (((lk_vdisk_file a1 r1.2.files).b).length : Int) < a2 then (((lk_vdisk_file a1 r1.2.files).b).length : Int) else a2) then ((lk_vdisk_file a1 r1.2.files).sure) else (if (((lk_vdisk_file a1 r1.2.files).b).length : Int) < a2 then (((lk_vdisk_file a1 r1.2.files).b).length : Int) else a2))⟩ : vdisk_file)).bind fun r4 => some (r1.1, r4)) else none) else (some (r1.1, r1.2))
theorem vdisk_Disk_Truncate.meets (k : Nat) (p0 : vdisk_Disk) (a1 : ByteArray) (a2 : Int) (r : Int × vdisk_Disk) (h : vdisk_Disk_Truncate.f k p0 a1 a2 = some r) : Meets Try.prog 41 [(rf 0 0), (st_ a1), (si a2)] [(o_vdisk_Disk_03 false (C.mp 1) (C.opt p0.fuse.isSome 2 0) p0), (om_ e_vdisk_file p0.files), (some (AObj.cells false [(ci (p0.fuse.getD default))]))] (si r.1) [(o_vdisk_Disk_03 false (C.mp 1) (C.opt r.2.fuse.isSome 3 0) r.2), (om_ e_vdisk_file r.2.files), none, (some (AObj.cells false [(ci (r.2.fuse.getD default))]))] := by
 unfold vdisk_Disk_Truncate.f at h
 refine Meets.of_body (n := 41) Try.func41 rfl rfl (nl rfl) fun x hx => ?_
 replace hx : x.k = 3 := hx
 show AW _ x _ _ ⟨41, fr0 [(rf 0 0), (st_ a1), (si a2)], [(o_vdisk_Disk_03 false (C.mp 1) (C.opt p0.fuse.isSome 2 0) p0), (om_ e_vdisk_file p0.files), (some (AObj.cells false [(ci (p0.fuse.getD default))]))]⟩
 refine AW.weak (st' := ⟨41, (upd 41 (upd 41 (upd 41 topF 0 (rf 0 0)) 1 (st_ a1)) 2 (si a2)), [(o_vdisk_Disk_03 false (C.mp 1) (C.opt p0.fuse.isSome 3 0) p0), (om_ e_vdisk_file p0.files), none, (some (AObj.cells false [(ci (p0.fuse.getD default))]))]⟩) (Weak.genL (kk := 3) [0, 1, 2, 2] [] hx rfl (by decide) rfl rfl rfl rfl (le_upd (le_upd (le_upd (le_top _) (o1 (.ref rfl))) (o1 .sc)) (o1 .sc)) (ac (.cells id (ac (.mp rfl) (ac .sc (ac .sc (ac (.opt rfl) (ac .sc an)))))) (ac .map (ac (.none _) (ac (.cells id (ac .sc an)) an))))) (AW.seq (AW.region ?_))
 refine s_assign (d := (si 0)) rfl (AWops.nil (AW.seq (AW.region ?_)))
 refine s_move (d := (rf 0 0)) rfl (s_move (d := (si a2)) rfl (s_binI (v := (.bool (decide (a2 ≥ 0)))) rfl rfl rfl (s_move (d := (st_ a1)) rfl ?_)))
 obtain ⟨r1, er1, h⟩ := bnd h
 refine cc [0, 1, 3] [(o_vdisk_Disk_03 false (C.mp 1) (C.opt r1.2.fuse.isSome 4 0) r1.2), (om_ e_vdisk_file r1.2.files), none, none, (some (AObj.cells false [(ci (r1.2.fuse.getD default))]))] (si r1.1) F.ca_59 rfl rfl (ac (.one (.ref rfl)) (ac (.one .sc) (ac (.one .sc) (ac (.one .sc) (ac (.one .sc) an))))) (ac (.cells (ac (.mp rfl) (ac .sc (ac .sc (ac (.opt rfl) (ac .sc an)))))) (ac .map (ac (.cells (ac .sc an)) an))) (vdisk_Disk_change.meets _ p0 (decide (a2 ≥ 0)) a1 false 0 r1 er1) (s_assign (d := (si r1.1)) rfl (AWops.nil (AW.seq (AW.seq (AW.region (s_move (d := (si r1.1)) rfl (s_binI (v := (.bool (r1.1 == 0))) rfl rfl rfl (AWops.nil ?_))))))))
 rcases itH h with ⟨c2, h⟩ | ⟨c2, h⟩
 ·refine AW.cond_yes rfl c2 (AW.seq (AW.region ?_))
  refine s_move (d := (rf 0 0)) rfl (s_nilCheck (d := (rf 0 0)) rfl (.inl ⟨_, _, rfl⟩) (s_fieldRef F.fo_49_0 (by decide) rfl (s_load1 (c' := (C.mp 1)) F.ag_46 rfl rfl (s_move (d := (st_ a1)) rfl (t_lookup (b := true) F.u_46 F.u_9 F.z_95 (z := ((⟨([] : List Int), 0⟩ : vdisk_file) : vdisk_file)) (zs := [(.slice none 0 0), (.int .i64 0)]) rfl (fun h => by cases h) (ac ZRel.n (ac (ZRel.v _ rfl) an)) rfl rfl rfl rfl ?_)))))
  refine s_alloc (cs := [(C.p true (.v (.slice none 0 0))), (ci 0)]) F.z_95 rfl rfl (s_store (cs' := (c_vdisk_file (lk_vdisk_file a1 r1.2.files))) rfl rfl rfl (List.cons_ne_nil _ _) rfl F.sz_95 (nl rfl) rfl (AWops.nil (AW.seq (AW.region (s_move (d := (si a2)) rfl (s_fieldRef F.fo_95_0 (by decide) rfl (s_load1 (c' := (C.p false (.sl ((lk_vdisk_file a1 r1.2.files).b).length (((lk_vdisk_file a1 r1.2.files).b).flatMap e_u8)))) F.ag_22 rfl rfl (s_len (n := ((lk_vdisk_file a1 r1.2.files).b).length) F.u_22 rfl (.inr ⟨(fun _ _ h => by cases h), ⟨_, rfl⟩⟩) ?_))))))))
  refine s_min2 (r := (if (((lk_vdisk_file a1 r1.2.files).b).length : Int) < a2 then (((lk_vdisk_file a1 r1.2.files).b).length : Int) else a2)) rfl rfl rfl (s_assign (d := (si (if (((lk_vdisk_file a1 r1.2.files).b).length : Int) < a2 then (((lk_vdisk_file a1 r1.2.files).b).length : Int) else a2))) rfl (AWops.nil ?_))
  refine AW.weak (st' := ⟨41, (upd 41 (upd 41 (upd 41 (upd 41 (upd 41 topF 0 (rf 0 0)) 1 (st_ a1)) 2 (si (if (((lk_vdisk_file a1 r1.2.files).b).length : Int) < a2 then (((lk_vdisk_file a1 r1.2.files).b).length : Int) else a2))) 7 (si r1.1)) 8 (rf 3 0)), [(o_vdisk_Disk_03 false (C.mp 1) (C.opt r1.2.fuse.isSome 4 0) r1.2), (om_ e_vdisk_file r1.2.files), none, (some (AObj.cells true (c_vdisk_file (lk_vdisk_file a1 r1.2.files)))), (some (AObj.cells false [(ci (r1.2.fuse.getD default))]))]⟩) (wG 3 [0, 1, 2, 5, 4] []) ?_
  obtain ⟨c3, h⟩ := gdH h
  have dc3 := of_decide_eq_true c3
  obtain ⟨r4, er4, h⟩ := bnd h
  refine AW.draw2 6 [kf 27 (rf 0 0) [0], kf 28 (st_ a1) [1], kf 29 (rf 3 0) [8], ⟨some 30, (D.one (C.p false (.sl ((lk_vdisk_file a1 r1.2.files).b).length (((lk_vdisk_file a1 r1.2.files).b).flatMap e_u8)))), [29], [3], [], none⟩, kf 31 (si (if (((lk_vdisk_file a1 r1.2.files).b).length : Int) < a2 then (((lk_vdisk_file a1 r1.2.files).b).length : Int) else a2)) [2], kf 32 (si (if (((lk_vdisk_file a1 r1.2.files).b).length : Int) < a2 then (((lk_vdisk_file a1 r1.2.files).b).length : Int) else a2)) [2], kf 33 (D.one (C.p false (.sl (sub ((lk_vdisk_file a1 r1.2.files).b) 0 (if (((lk_vdisk_file a1 r1.2.files).b).length : Int) < a2 then (((lk_vdisk_file a1 r1.2.files).b).length : Int) else a2)).length ((sub ((lk_vdisk_file a1 r1.2.files).b) 0 (if (((lk_vdisk_file a1 r1.2.files).b).length : Int) < a2 then (((lk_vdisk_file a1 r1.2.files).b).length : Int) else a2)).flatMap e_u8)))) [30, 31, 32], kf 34 (si (if (((lk_vdisk_file a1 r1.2.files).b).length : Int) < a2 then (((lk_vdisk_file a1 r1.2.files).b).length : Int) else a2)) [2], kf 35 (rf 3 1) [8], ⟨some 36, (si ((lk_vdisk_file a1 r1.2.files).sure)), [35], [3], [], none⟩, kf 37 (si (if ((lk_vdisk_file a1 r1.2.files).sure) < (if (((lk_vdisk_file a1 r1.2.files).b).length : Int) < a2 then (((lk_vdisk_file a1 r1.2.files).b).length : Int) else a2) then ((lk_vdisk_file a1 r1.2.files).sure) else (if (((lk_vdisk_file a1 r1.2.files).b).length : Int) < a2 then (((lk_vdisk_file a1 r1.2.files).b).length : Int) else a2))) [34, 36], kf 38 (D.agg [(C.p false (.sl (sub ((lk_vdisk_file a1 r1.2.files).b) 0 (if (((lk_vdisk_file a1 r1.2.files).b).length : Int) < a2 then (((lk_vdisk_file a1 r1.2.files).b).length : Int) else a2)).length ((sub ((lk_vdisk_file a1 r1.2.files).b) 0 (if (((lk_vdisk_file a1 r1.2.files).b).length : Int) < a2 then (((lk_vdisk_file a1 r1.2.files).b).length : Int) else a2)).flatMap e_u8))), (ci (if ((lk_vdisk_file a1 r1.2.files).sure) < (if (((lk_vdisk_file a1 r1.2.files).b).length : Int) < a2 then (((lk_vdisk_file a1 r1.2.files).b).length : Int) else a2) then ((lk_vdisk_file a1 r1.2.files).sure) else (if (((lk_vdisk_file a1 r1.2.files).b).length : Int) < a2 then (((lk_vdisk_file a1 r1.2.files).b).length : Int) else a2)))]) [33, 37], ⟨some 39, (D.tup []), [27, 28, 38], [0, 1, 4], [(0, (o_vdisk_Disk_03 false (C.mp 1) (C.opt r4.fuse.isSome 5 0) r4)), (1, (om_ e_vdisk_file r4.files)), (4, none), (5, (some (AObj.cells false [(ci (r4.fuse.getD default))])))], some (5, 1)⟩] ⟨?_, ?_⟩
  ·refine (pA (pA (pE F.fo_95_0 (pE F.ag_22 (pA (pA (pC ?_ (pA (pE F.fo_95_1 (pE F.ag_3 (pC ?_ (pC ?_ (pC ?_ AllStep.nil')))))))))))))
   ·intro K rest fr hv htk k
    refine t_slice3Imm F.u_22 F.sz_5 e_u8_len rfl rfl rfl (by omega) (by omega) k
   ·intro K rest fr hv htk k
    refine s_min2 (r := (if ((lk_vdisk_file a1 r1.2.files).sure) < (if (((lk_vdisk_file a1 r1.2.files).b).length : Int) < a2 then (((lk_vdisk_file a1 r1.2.files).b).length : Int) else a2) then ((lk_vdisk_file a1 r1.2.files).sure) else (if (((lk_vdisk_file a1 r1.2.files).b).length : Int) < a2 then (((lk_vdisk_file a1 r1.2.files).b).length : Int) else a2))) rfl rfl rfl k
   ·intro K rest fr hv htk k
    refine s_build (ps := [(0, (D.one (C.p false (.sl (sub ((lk_vdisk_file a1 r1.2.files).b) 0 (if (((lk_vdisk_file a1 r1.2.files).b).length : Int) < a2 then (((lk_vdisk_file a1 r1.2.files).b).length : Int) else a2)).length ((sub ((lk_vdisk_file a1 r1.2.files).b) 0 (if (((lk_vdisk_file a1 r1.2.files).b).length : Int) < a2 then (((lk_vdisk_file a1 r1.2.files).b).length : Int) else a2)).flatMap e_u8))))), (1, (si (if ((lk_vdisk_file a1 r1.2.files).sure) < (if (((lk_vdisk_file a1 r1.2.files).b).length : Int) < a2 then (((lk_vdisk_file a1 r1.2.files).b).length : Int) else a2) then ((lk_vdisk_file a1 r1.2.files).sure) else (if (((lk_vdisk_file a1 r1.2.files).b).length : Int) < a2 then (((lk_vdisk_file a1 r1.2.files).b).length : Int) else a2))))]) (cs := [(C.p false (.sl (sub ((lk_vdisk_file a1 r1.2.files).b) 0 (if (((lk_vdisk_file a1 r1.2.files).b).length : Int) < a2 then (((lk_vdisk_file a1 r1.2.files).b).length : Int) else a2)).length ((sub ((lk_vdisk_file a1 r1.2.files).b) 0 (if (((lk_vdisk_file a1 r1.2.files).b).length : Int) < a2 then (((lk_vdisk_file a1 r1.2.files).b).length : Int) else a2)).flatMap e_u8))), (ci (if ((lk_vdisk_file a1 r1.2.files).sure) < (if (((lk_vdisk_file a1 r1.2.files).b).length : Int) < a2 then (((lk_vdisk_file a1 r1.2.files).b).length : Int) else a2) then ((lk_vdisk_file a1 r1.2.files).sure) else (if (((lk_vdisk_file a1 r1.2.files).b).length : Int) < a2 then (((lk_vdisk_file a1 r1.2.files).b).length : Int) else a2)))]) F.z_95 rfl F.so_95 rfl rfl k
   ·intro K rest fr hv htk k
    refine cc [0, 1, 4] [(o_vdisk_Disk_03 false (C.mp 1) (C.opt r4.fuse.isSome 6 0) r4), (om_ e_vdisk_file r4.files), (hv 2), (hv 3), none, (hv 5), (some (AObj.cells false [(ci (r4.fuse.getD default))]))] (D.tup []) F.ca_68 rfl rfl (ac (.one (.ref rfl)) (ac (.one .sc) (ac (LendT.aggL (ac .imm (ac .sc an))) an))) (ac (.cells (ac (.mp rfl) (ac .sc (ac .sc (ac (.opt rfl) (ac .sc an)))))) (ac .map (ac (.cells (ac .sc an)) an))) (vdisk_Disk_set.meets _ r1.2 a1 (⟨sub ((lk_vdisk_file a1 r1.2.files).b) 0 (if (((lk_vdisk_file a1 r1.2.files).b).length : Int) < a2 then (((lk_vdisk_file a1 r1.2.files).b).length : Int) else a2), (if ((lk_vdisk_file a1 r1.2.files).sure) < (if (((lk_vdisk_file a1 r1.2.files).b).length : Int) < a2 then (((lk_vdisk_file a1 r1.2.files).b).length : Int) else a2) then ((lk_vdisk_file a1 r1.2.files).sure) else (if (((lk_vdisk_file a1 r1.2.files).b).length : Int) < a2 then (((lk_vdisk_file a1 r1.2.files).b).length : Int) else a2))⟩ : vdisk_file) r4 er4) ?_
    refine AWops.weak (wD 3 (5, 1) 6 [0, 1, 2, 3, 4, 6] [] (htk (5, 1) rfl)) k
  ·refine AWops.weak (st' := ⟨41, (upd 41 topF 7 (si r1.1)), [(o_vdisk_Disk_03 false (C.mp 1) (C.opt r4.fuse.isSome 3 0) r4), (om_ e_vdisk_file r4.files), none, (some (AObj.cells false [(ci (r4.fuse.getD default))]))]⟩) (wG 3 [0, 1, 2, 5] []) (AWops.nil (AW.seq (AW.region ?_)))
   refine s_move (d := (si r1.1)) rfl (s_assign (d := (si r1.1)) rfl (AWops.nil (AW.ret ?_)))
   obtain rfl := Option.some.inj h
   exact ⟨_, rfl, (wG 3 [0, 1, 2, 3] [])⟩
 ·refine AW.cond_no rfl c2 (AW.skip (AW.seq (AW.region ?_)))
  refine s_move (d := (si r1.1)) rfl (s_assign (d := (si r1.1)) rfl (AWops.nil (AW.ret ?_)))
  obtain rfl := Option.some.inj h
  exact ⟨_, rfl, (wG 3 [0, 1, 2, 4] [])⟩
end Go.Abs.GenZ
