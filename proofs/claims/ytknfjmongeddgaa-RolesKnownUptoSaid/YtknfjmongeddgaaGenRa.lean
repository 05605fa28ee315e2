import Derived.Test.YtknfjmongeddgaaAbsS
import Derived.Test.YtknfjmongeddgaaProg
set_option linter.unusedVariables false
set_option linter.unusedSimpArgs false
set_option maxRecDepth 100000
set_option maxHeartbeats 4000000
namespace Go.Abs.GenR
open Go.Abs Go.Proofs
structure api_FileItem where
  Name : ByteArray
  Kind : Int
  Multi : Int
  Kids : List api_FileItem
  Refs : List ByteArray
mutual
def e_api_FileItem : api_FileItem → List P
  | ⟨Name, Kind, Multi, Kids, Refs⟩ => e_str Name ++ e_i64 Kind ++ e_i64 Multi ++ [.sl Kids.length (es_api_FileItem Kids)] ++ (e_sl e_str) Refs
def es_api_FileItem : List api_FileItem → List P
  | [] => []
  | x :: xs => e_api_FileItem x ++ es_api_FileItem xs
end
theorem es_api_FileItem_eq : ∀ xs : List api_FileItem, es_api_FileItem xs = xs.flatMap e_api_FileItem
  | [] => rfl
  | x :: xs => by rw [es_api_FileItem, es_api_FileItem_eq xs]; rfl
abbrev c_api_FileItem (x : api_FileItem) : List C := [(C.p true (.v (.string x.Name))), (C.p true (.v (.int .i64 x.Kind))), (C.p true (.v (.int .i64 x.Multi))), (C.p false (.sl x.Kids.length (x.Kids.flatMap e_api_FileItem))), (C.p false (.sl x.Refs.length (x.Refs.flatMap e_str)))]
abbrev p_api_FileItem (x : api_FileItem) : List P := [P.v (.string x.Name), P.v (.int .i64 x.Kind), P.v (.int .i64 x.Multi), P.sl x.Kids.length (x.Kids.flatMap e_api_FileItem), P.sl x.Refs.length (x.Refs.flatMap e_str)]
theorem e_api_FileItem_eq (x : api_FileItem) : e_api_FileItem x = [P.v (.string x.Name), P.v (.int .i64 x.Kind), P.v (.int .i64 x.Multi), P.sl x.Kids.length (x.Kids.flatMap e_api_FileItem), P.sl x.Refs.length (x.Refs.flatMap e_str)] := by
  cases x
  simp only [e_api_FileItem, es_api_FileItem_eq]
  rfl
theorem e_api_FileItem_len (x : api_FileItem) : (e_api_FileItem x).length = 5 := by rw [e_api_FileItem_eq]; rfl
structure api_OnPart where
  Item : ByteArray
  File : ByteArray
  Event : Int
abbrev c_api_OnPart (x : api_OnPart) : List C := [(C.p true (.v (.string x.Item))), (C.p true (.v (.string x.File))), (C.p true (.v (.int .i64 x.Event)))]
abbrev p_api_OnPart (x : api_OnPart) : List P := [P.v (.string x.Item), P.v (.string x.File), P.v (.int .i64 x.Event)]
def e_api_OnPart (x : api_OnPart) : List P := e_str x.Item ++ e_str x.File ++ e_i64 x.Event
theorem e_api_OnPart_eq (x : api_OnPart) : e_api_OnPart x = [P.v (.string x.Item), P.v (.string x.File), P.v (.int .i64 x.Event)] := rfl
theorem e_api_OnPart_fr (x : api_OnPart) : ((e_api_OnPart x).map mkC).all frC = true := rfl
theorem e_api_OnPart_len (x : api_OnPart) : (e_api_OnPart x).length = 3 := by rw [e_api_OnPart_eq]; rfl
structure api_Sentry where
  On : List api_OnPart
  If : ByteArray
abbrev c_api_Sentry (x : api_Sentry) : List C := [(C.p false (.sl x.On.length (x.On.flatMap e_api_OnPart))), (C.p true (.v (.string x.If)))]
abbrev p_api_Sentry (x : api_Sentry) : List P := [P.sl x.On.length (x.On.flatMap e_api_OnPart), P.v (.string x.If)]
def e_api_Sentry (x : api_Sentry) : List P := (e_sl e_api_OnPart) x.On ++ e_str x.If
theorem e_api_Sentry_eq (x : api_Sentry) : e_api_Sentry x = [P.sl x.On.length (x.On.flatMap e_api_OnPart), P.v (.string x.If)] := rfl
theorem e_api_Sentry_len (x : api_Sentry) : (e_api_Sentry x).length = 2 := by rw [e_api_Sentry_eq]; rfl
structure api_Item where
  ID : ByteArray
  Name : ByteArray
  Kind : Int
  Entry : List api_Sentry
  Exit : List api_Sentry
  Manual : ByteArray
  Required : ByteArray
  Repeat : ByteArray
  Auto : Bool
  Free : Bool
  After : Int
  Roles : List ByteArray
  Kids : List api_Item
  Table : List api_Item
mutual
def e_api_Item : api_Item → List P
  | ⟨ID, Name, Kind, Entry, Exit, Manual, Required, Repeat, Auto, Free, After, Roles, Kids, Table⟩ => e_str ID ++ e_str Name ++ e_i64 Kind ++ (e_sl e_api_Sentry) Entry ++ (e_sl e_api_Sentry) Exit ++ e_str Manual ++ e_str Required ++ e_str Repeat ++ e_bool Auto ++ e_bool Free ++ e_i64 After ++ (e_sl e_str) Roles ++ [.sl Kids.length (es_api_Item Kids)] ++ [.sl Table.length (es_api_Item Table)]
def es_api_Item : List api_Item → List P
  | [] => []
  | x :: xs => e_api_Item x ++ es_api_Item xs
end
theorem es_api_Item_eq : ∀ xs : List api_Item, es_api_Item xs = xs.flatMap e_api_Item
  | [] => rfl
  | x :: xs => by rw [es_api_Item, es_api_Item_eq xs]; rfl
abbrev c_api_Item (x : api_Item) : List C := [(C.p true (.v (.string x.ID))), (C.p true (.v (.string x.Name))), (C.p true (.v (.int .i64 x.Kind))), (C.p false (.sl x.Entry.length (x.Entry.flatMap e_api_Sentry))), (C.p false (.sl x.Exit.length (x.Exit.flatMap e_api_Sentry))), (C.p true (.v (.string x.Manual))), (C.p true (.v (.string x.Required))), (C.p true (.v (.string x.Repeat))), (C.p true (.v (.bool x.Auto))), (C.p true (.v (.bool x.Free))), (C.p true (.v (.int .i64 x.After))), (C.p false (.sl x.Roles.length (x.Roles.flatMap e_str))), (C.p false (.sl x.Kids.length (x.Kids.flatMap e_api_Item))), (C.p false (.sl x.Table.length (x.Table.flatMap e_api_Item)))]
abbrev p_api_Item (x : api_Item) : List P := [P.v (.string x.ID), P.v (.string x.Name), P.v (.int .i64 x.Kind), P.sl x.Entry.length (x.Entry.flatMap e_api_Sentry), P.sl x.Exit.length (x.Exit.flatMap e_api_Sentry), P.v (.string x.Manual), P.v (.string x.Required), P.v (.string x.Repeat), P.v (.bool x.Auto), P.v (.bool x.Free), P.v (.int .i64 x.After), P.sl x.Roles.length (x.Roles.flatMap e_str), P.sl x.Kids.length (x.Kids.flatMap e_api_Item), P.sl x.Table.length (x.Table.flatMap e_api_Item)]
theorem e_api_Item_eq (x : api_Item) : e_api_Item x = [P.v (.string x.ID), P.v (.string x.Name), P.v (.int .i64 x.Kind), P.sl x.Entry.length (x.Entry.flatMap e_api_Sentry), P.sl x.Exit.length (x.Exit.flatMap e_api_Sentry), P.v (.string x.Manual), P.v (.string x.Required), P.v (.string x.Repeat), P.v (.bool x.Auto), P.v (.bool x.Free), P.v (.int .i64 x.After), P.sl x.Roles.length (x.Roles.flatMap e_str), P.sl x.Kids.length (x.Kids.flatMap e_api_Item), P.sl x.Table.length (x.Table.flatMap e_api_Item)] := by
  cases x
  simp only [e_api_Item, es_api_Item_eq]
  rfl
theorem e_api_Item_len (x : api_Item) : (e_api_Item x).length = 14 := by rw [e_api_Item_eq]; rfl
structure api_Model where
  ID : ByteArray
  Name : ByteArray
  Roles : List ByteArray
  Files : List api_FileItem
  Plan : api_Item
abbrev c_api_Model (x : api_Model) : List C := [(C.p true (.v (.string x.ID))), (C.p true (.v (.string x.Name))), (C.p false (.sl x.Roles.length (x.Roles.flatMap e_str))), (C.p false (.sl x.Files.length (x.Files.flatMap e_api_FileItem))), (C.p true (.v (.string x.Plan.ID))), (C.p true (.v (.string x.Plan.Name))), (C.p true (.v (.int .i64 x.Plan.Kind))), (C.p false (.sl x.Plan.Entry.length (x.Plan.Entry.flatMap e_api_Sentry))), (C.p false (.sl x.Plan.Exit.length (x.Plan.Exit.flatMap e_api_Sentry))), (C.p true (.v (.string x.Plan.Manual))), (C.p true (.v (.string x.Plan.Required))), (C.p true (.v (.string x.Plan.Repeat))), (C.p true (.v (.bool x.Plan.Auto))), (C.p true (.v (.bool x.Plan.Free))), (C.p true (.v (.int .i64 x.Plan.After))), (C.p false (.sl x.Plan.Roles.length (x.Plan.Roles.flatMap e_str))), (C.p false (.sl x.Plan.Kids.length (x.Plan.Kids.flatMap e_api_Item))), (C.p false (.sl x.Plan.Table.length (x.Plan.Table.flatMap e_api_Item)))]
abbrev p_api_Model (x : api_Model) : List P := [P.v (.string x.ID), P.v (.string x.Name), P.sl x.Roles.length (x.Roles.flatMap e_str), P.sl x.Files.length (x.Files.flatMap e_api_FileItem), P.v (.string x.Plan.ID), P.v (.string x.Plan.Name), P.v (.int .i64 x.Plan.Kind), P.sl x.Plan.Entry.length (x.Plan.Entry.flatMap e_api_Sentry), P.sl x.Plan.Exit.length (x.Plan.Exit.flatMap e_api_Sentry), P.v (.string x.Plan.Manual), P.v (.string x.Plan.Required), P.v (.string x.Plan.Repeat), P.v (.bool x.Plan.Auto), P.v (.bool x.Plan.Free), P.v (.int .i64 x.Plan.After), P.sl x.Plan.Roles.length (x.Plan.Roles.flatMap e_str), P.sl x.Plan.Kids.length (x.Plan.Kids.flatMap e_api_Item), P.sl x.Plan.Table.length (x.Plan.Table.flatMap e_api_Item)]
def e_api_Model (x : api_Model) : List P := e_str x.ID ++ e_str x.Name ++ (e_sl e_str) x.Roles ++ (e_sl e_api_FileItem) x.Files ++ e_api_Item x.Plan
theorem e_api_Model_eq (x : api_Model) : e_api_Model x = [P.v (.string x.ID), P.v (.string x.Name), P.sl x.Roles.length (x.Roles.flatMap e_str), P.sl x.Files.length (x.Files.flatMap e_api_FileItem), P.v (.string x.Plan.ID), P.v (.string x.Plan.Name), P.v (.int .i64 x.Plan.Kind), P.sl x.Plan.Entry.length (x.Plan.Entry.flatMap e_api_Sentry), P.sl x.Plan.Exit.length (x.Plan.Exit.flatMap e_api_Sentry), P.v (.string x.Plan.Manual), P.v (.string x.Plan.Required), P.v (.string x.Plan.Repeat), P.v (.bool x.Plan.Auto), P.v (.bool x.Plan.Free), P.v (.int .i64 x.Plan.After), P.sl x.Plan.Roles.length (x.Plan.Roles.flatMap e_str), P.sl x.Plan.Kids.length (x.Plan.Kids.flatMap e_api_Item), P.sl x.Plan.Table.length (x.Plan.Table.flatMap e_api_Item)] := by
  simp only [e_api_Model, e_api_Item_eq]
  rfl
theorem e_api_Model_len (x : api_Model) : (e_api_Model x).length = 18 := by rw [e_api_Model_eq]; rfl
namespace F
theorem fo_38_4 : fieldOf Try.prog 38 4 = some (4, 14, true) := by kernel_rfl
theorem z_3 : zeroOf Try.prog 3 = some (.int .i64 0) := by kernel_rfl
theorem ag_3 : aggOf Try.prog 3 = some false := by kernel_rfl
theorem fo_36_3 : fieldOf Try.prog 36 3 = some (3, 1, false) := by kernel_rfl
theorem ag_33 : aggOf Try.prog 33 = some false := by kernel_rfl
theorem u_33 : Try.prog.underlying 33 = some (.slice 83) := by kernel_rfl
theorem fo_36_4 : fieldOf Try.prog 36 4 = some (4, 1, false) := by kernel_rfl
theorem sz_3 : szOf Try.prog 3 = some 1 := by kernel_rfl
theorem fo_36_11 : fieldOf Try.prog 36 11 = some (11, 1, false) := by kernel_rfl
theorem z_83 : zeroOf Try.prog 83 = some (.agg #[(.slice none 0 0), (.string ⟨#[]⟩)]) := by kernel_rfl
theorem fo_83_0 : fieldOf Try.prog 83 0 = some (0, 1, false) := by kernel_rfl
theorem u_81 : Try.prog.underlying 81 = some (.slice 89) := by kernel_rfl
theorem ag_81 : aggOf Try.prog 81 = some false := by kernel_rfl
theorem sz_83 : szOf Try.prog 83 = some 2 := by kernel_rfl
theorem ag_83 : aggOf Try.prog 83 = some true := by kernel_rfl
theorem u_80 : Try.prog.underlying 80 = some (.slice 33) := by kernel_rfl
theorem sz_33 : szOf Try.prog 33 = some 1 := by kernel_rfl
theorem fo_36_12 : fieldOf Try.prog 36 12 = some (12, 1, false) := by kernel_rfl
theorem fo_36_13 : fieldOf Try.prog 36 13 = some (13, 1, false) := by kernel_rfl
theorem z_36 : zeroOf Try.prog 36 = some (.agg #[(.string ⟨#[]⟩), (.string ⟨#[]⟩), (.int .i64 0), (.slice none 0 0), (.slice none 0 0), (.string ⟨#[]⟩), (.string ⟨#[]⟩), (.string ⟨#[]⟩), (.bool false), (.bool false), (.int .i64 0), (.slice none 0 0), (.slice none 0 0), (.slice none 0 0)]) := by kernel_rfl
theorem ca_50 : callable Try.prog 50 = true := by kernel_rfl
theorem ag_36 : aggOf Try.prog 36 = some true := by kernel_rfl
theorem sz_36 : szOf Try.prog 36 = some 14 := by kernel_rfl
theorem u_34 : Try.prog.underlying 34 = some (.slice 36) := by kernel_rfl
theorem ag_34 : aggOf Try.prog 34 = some false := by kernel_rfl
theorem u_84 : Try.prog.underlying 84 = some (.slice 34) := by kernel_rfl
theorem sz_34 : szOf Try.prog 34 = some 1 := by kernel_rfl
theorem z_34 : zeroOf Try.prog 34 = some (.slice none 0 0) := by kernel_rfl
theorem z_33 : zeroOf Try.prog 33 = some (.slice none 0 0) := by kernel_rfl
theorem u_31 : Try.prog.underlying 31 = some (.slice 9) := by kernel_rfl
theorem ag_31 : aggOf Try.prog 31 = some false := by kernel_rfl
theorem fo_38_3 : fieldOf Try.prog 38 3 = some (3, 1, false) := by kernel_rfl
theorem z_86 : zeroOf Try.prog 86 = some (.agg #[(.string ⟨#[]⟩), (.int .i64 0), (.int .i64 0), (.slice none 0 0), (.slice none 0 0)]) := by kernel_rfl
theorem fo_86_4 : fieldOf Try.prog 86 4 = some (4, 1, false) := by kernel_rfl
theorem fo_86_3 : fieldOf Try.prog 86 3 = some (3, 1, false) := by kernel_rfl
theorem ca_51 : callable Try.prog 51 = true := by kernel_rfl
theorem ag_32 : aggOf Try.prog 32 = some false := by kernel_rfl
theorem sz_86 : szOf Try.prog 86 = some 5 := by kernel_rfl
theorem ag_86 : aggOf Try.prog 86 = some true := by kernel_rfl
theorem u_32 : Try.prog.underlying 32 = some (.slice 86) := by kernel_rfl
theorem fo_38_2 : fieldOf Try.prog 38 2 = some (2, 1, false) := by kernel_rfl
theorem ca_40 : callable Try.prog 40 = true := by kernel_rfl
theorem ca_39 : callable Try.prog 39 = true := by kernel_rfl
theorem in_36 : infoQ Try.prog 36 = some (some (.agg #[(.string ⟨#[]⟩), (.string ⟨#[]⟩), (.int .i64 0), (.slice none 0 0), (.slice none 0 0), (.string ⟨#[]⟩), (.string ⟨#[]⟩), (.string ⟨#[]⟩), (.bool false), (.bool false), (.int .i64 0), (.slice none 0 0), (.slice none 0 0), (.slice none 0 0)]), 14, 224) := by kernel_rfl
theorem ca_52 : callable Try.prog 52 = true := by kernel_rfl
theorem fo_36_0 : fieldOf Try.prog 36 0 = some (0, 1, false) := by kernel_rfl
theorem ag_9 : aggOf Try.prog 9 = some false := by kernel_rfl
theorem so_36 : structOk Try.prog 36 = true := by kernel_rfl
theorem ca_41 : callable Try.prog 41 = true := by kernel_rfl
theorem ag_38 : aggOf Try.prog 38 = some true := by kernel_rfl
theorem sz_38 : szOf Try.prog 38 = some 18 := by kernel_rfl
theorem z_31 : zeroOf Try.prog 31 = some (.slice none 0 0) := by kernel_rfl
theorem z_4 : zeroOf Try.prog 4 = some (.bool false) := by kernel_rfl
theorem ag_4 : aggOf Try.prog 4 = some false := by kernel_rfl
theorem sz_4 : szOf Try.prog 4 = some 1 := by kernel_rfl
theorem sz_31 : szOf Try.prog 31 = some 1 := by kernel_rfl
theorem in_9 : infoQ Try.prog 9 = some (some (.string ⟨#[]⟩), 1, 16) := by kernel_rfl
theorem sz_9 : szOf Try.prog 9 = some 1 := by kernel_rfl
theorem z_9 : zeroOf Try.prog 9 = some (.string ⟨#[]⟩) := by kernel_rfl
theorem ca_61 : callable Try.prog 61 = true := by kernel_rfl
theorem u_93 : Try.prog.underlying 93 = some (.array 2 34) := by kernel_rfl
theorem z_93 : zeroOf Try.prog 93 = some (.agg #[(.slice none 0 0), (.slice none 0 0)]) := by kernel_rfl
theorem ca_55 : callable Try.prog 55 = true := by kernel_rfl
theorem ca_57 : callable Try.prog 57 = true := by kernel_rfl
theorem in_89 : infoQ Try.prog 89 = some (some (.agg #[(.string ⟨#[]⟩), (.string ⟨#[]⟩), (.int .i64 0)]), 3, 40) := by kernel_rfl
theorem sz_89 : szOf Try.prog 89 = some 3 := by kernel_rfl
theorem z_89 : zeroOf Try.prog 89 = some (.agg #[(.string ⟨#[]⟩), (.string ⟨#[]⟩), (.int .i64 0)]) := by kernel_rfl
theorem ca_59 : callable Try.prog 59 = true := by kernel_rfl
theorem fo_83_1 : fieldOf Try.prog 83 1 = some (1, 1, false) := by kernel_rfl
theorem so_83 : structOk Try.prog 83 = true := by kernel_rfl
theorem in_83 : infoQ Try.prog 83 = some (some (.agg #[(.slice none 0 0), (.string ⟨#[]⟩)]), 2, 40) := by kernel_rfl
theorem ca_58 : callable Try.prog 58 = true := by kernel_rfl
theorem ca_54 : callable Try.prog 54 = true := by kernel_rfl
theorem ca_60 : callable Try.prog 60 = true := by kernel_rfl
theorem ca_53 : callable Try.prog 53 = true := by kernel_rfl
theorem ca_44 : callable Try.prog 44 = true := by kernel_rfl
theorem ca_25 : callable Try.prog 25 = true := by kernel_rfl
theorem ca_43 : callable Try.prog 43 = true := by kernel_rfl
theorem ca_42 : callable Try.prog 42 = true := by kernel_rfl
theorem ca_24 : callable Try.prog 24 = true := by kernel_rfl
theorem z_38 : zeroOf Try.prog 38 = some (.agg #[(.string ⟨#[]⟩), (.string ⟨#[]⟩), (.slice none 0 0), (.slice none 0 0), (.string ⟨#[]⟩), (.string ⟨#[]⟩), (.int .i64 0), (.slice none 0 0), (.slice none 0 0), (.string ⟨#[]⟩), (.string ⟨#[]⟩), (.string ⟨#[]⟩), (.bool false), (.bool false), (.int .i64 0), (.slice none 0 0), (.slice none 0 0), (.slice none 0 0)]) := by kernel_rfl
theorem so_38 : structOk Try.prog 38 = true := by kernel_rfl
theorem ca_23 : callable Try.prog 23 = true := by kernel_rfl
theorem ca_21 : callable Try.prog 21 = true := by kernel_rfl
theorem ca_22 : callable Try.prog 22 = true := by kernel_rfl
theorem ca_20 : callable Try.prog 20 = true := by kernel_rfl
theorem ca_56 : callable Try.prog 56 = true := by kernel_rfl
theorem ca_48 : callable Try.prog 48 = true := by kernel_rfl
theorem ca_33 : callable Try.prog 33 = true := by kernel_rfl
theorem ca_49 : callable Try.prog 49 = true := by kernel_rfl
theorem ca_35 : callable Try.prog 35 = true := by kernel_rfl
theorem ca_34 : callable Try.prog 34 = true := by kernel_rfl
theorem u_4 : Try.prog.underlying 4 = some (.bool) := by kernel_rfl
theorem ca_37 : callable Try.prog 37 = true := by kernel_rfl
theorem ca_36 : callable Try.prog 36 = true := by kernel_rfl
end F
mutual
def dossierplain_item.f : Nat → api_Item → Int → Int → Option (Bool × Int)
  | 0, _, _, _ => none
  | k + 1, a0, a1, p0 => if (decide (a1 > 40)) = true then (some (false, IntKind.i64.wrap (p0 - (IntKind.i64.wrap (1 + (IntKind.i64.wrap (Int.tdiv (IntKind.i64.wrap ((a0.Entry.length : Int) + (a0.Exit.length : Int))) 4))))))) else (if (decide ((IntKind.i64.wrap (p0 - (IntKind.i64.wrap (1 + (IntKind.i64.wrap (Int.tdiv (IntKind.i64.wrap ((a0.Entry.length : Int) + (a0.Exit.length : Int))) 4)))))) < 0)) = true then (some (false, IntKind.i64.wrap (p0 - (IntKind.i64.wrap (1 + (IntKind.i64.wrap (Int.tdiv (IntKind.i64.wrap ((a0.Entry.length : Int) + (a0.Exit.length : Int))) 4))))))) else (if (decide ((a0.Entry.length : Int) > 20)) = true then (some (false, IntKind.i64.wrap (p0 - (IntKind.i64.wrap (1 + (IntKind.i64.wrap (Int.tdiv (IntKind.i64.wrap ((a0.Entry.length : Int) + (a0.Exit.length : Int))) 4))))))) else (if (decide ((a0.Exit.length : Int) > 20)) = true then (some (false, IntKind.i64.wrap (p0 - (IntKind.i64.wrap (1 + (IntKind.i64.wrap (Int.tdiv (IntKind.i64.wrap ((a0.Entry.length : Int) + (a0.Exit.length : Int))) 4))))))) else (if (decide ((a0.Roles.length : Int) > 40)) = true then (some (false, IntKind.i64.wrap (p0 - (IntKind.i64.wrap (1 + (IntKind.i64.wrap (Int.tdiv (IntKind.i64.wrap ((a0.Entry.length : Int) + (a0.Exit.length : Int))) 4))))))) else (dossierplain_item.l0 k 0 a0 a1 p0)))))
def dossierplain_item.l1 : Nat → Int → api_Item → Int → Int → Int → (List api_Sentry) → Option (Bool × Int)
  | 0, _, _, _, _, _, _ => none
  | k + 1, x10, a0, a1, p0, x6, v8 => if (decide (x10 < (v8.length : Int))) = true then ((rd v8 x10).bind fun v12 => if (decide ((v12.On.length : Int) > 20)) = true then (some (false, IntKind.i64.wrap (p0 - (IntKind.i64.wrap (1 + (IntKind.i64.wrap (Int.tdiv (IntKind.i64.wrap ((a0.Entry.length : Int) + (a0.Exit.length : Int))) 4))))))) else (dossierplain_item.l1 k (IntKind.i64.wrap (x10 + 1)) a0 a1 p0 x6 v8)) else (dossierplain_item.l0 k (IntKind.i64.wrap (x6 + 1)) a0 a1 p0)
def dossierplain_item.l3 : Nat → Int → Int → api_Item → Int → Int → (List api_Item) → Option (Bool × Int)
  | 0, _, _, _, _, _, _ => none
  | k + 1, x19, x20, a0, a1, x15, v17 => if (decide (x20 < (v17.length : Int))) = true then ((rd v17 x20).bind fun v22 => (dossierplain_item.f k v22 (IntKind.i64.wrap (a1 + 1)) x19).bind fun r23 => if r23.1 = true then (dossierplain_item.l3 k r23.2 (IntKind.i64.wrap (x20 + 1)) a0 a1 x15 v17) else (some (false, r23.2))) else (dossierplain_item.l2 k x19 (IntKind.i64.wrap (x15 + 1)) a0 a1)
def dossierplain_item.l2 : Nat → Int → Int → api_Item → Int → Option (Bool × Int)
  | 0, _, _, _, _ => none
  | k + 1, x14, x15, a0, a1 => if (decide (x15 < (([a0.Kids, a0.Table] : List (List api_Item)).length : Int))) = true then ((rd ([a0.Kids, a0.Table] : List (List api_Item)) x15).bind fun v17 => dossierplain_item.l3 k x14 0 a0 a1 x15 v17) else (some (true, x14))
def dossierplain_item.l0 : Nat → Int → api_Item → Int → Int → Option (Bool × Int)
  | 0, _, _, _, _ => none
  | k + 1, x6, a0, a1, p0 => if (decide (x6 < (([a0.Entry, a0.Exit] : List (List api_Sentry)).length : Int))) = true then ((rd ([a0.Entry, a0.Exit] : List (List api_Sentry)) x6).bind fun v8 => dossierplain_item.l1 k 0 a0 a1 p0 x6 v8) else (dossierplain_item.l2 k (IntKind.i64.wrap (p0 - (IntKind.i64.wrap (1 + (IntKind.i64.wrap (Int.tdiv (IntKind.i64.wrap ((a0.Entry.length : Int) + (a0.Exit.length : Int))) 4)))))) 0 a0 a1)
end
theorem dossierplain_item.meets (k : Nat) : ∀ (a0 : api_Item) (a1 : Int) (p0 : Int) (r : Bool × Int), dossierplain_item.f k a0 a1 p0 = some r → Meets Try.prog 50 [(D.agg (c_api_Item a0)), (sc (.int .i64 a1)), (D.one (C.ref 0 0))] [(some (AObj.cells false [(C.p true (.v (.int .i64 p0)))]))] (sc (.bool r.1)) [(some (AObj.cells false [(C.p true (.v (.int .i64 r.2)))]))] := by
  induction k using Nat.strongRecOn with
  | _ k ih =>
    cases k with
    | zero =>
      · intro a0 a1 p0 r h; exact absurd h (by simp [dossierplain_item.f])
    | succ k =>
      · intro a0 a1 p0 r h
        replace h := (dossierplain_item.f.eq_2 _ _ _ _).symm.trans h
        refine Meets.of_body (n := 101) Try.func50 rfl rfl (Nat.le_of_ble_eq_true rfl) fun x hx => ?_
        replace hx : x.k = 1 := hx
        show AW _ x _ _ ⟨101, fr0 [(D.agg (c_api_Item a0)), (sc (.int .i64 a1)), (D.one (C.ref 0 0))], [(some (AObj.cells false [(C.p true (.v (.int .i64 p0)))]))]⟩
        refine AW.seq ?_
        refine AW.region ?_
        refine s_box (cs := (c_api_Item a0)) rfl (List.cons_ne_nil _ _) rfl ?_
        refine s_assign (d := (sc (.bool false))) rfl ?_
        refine AWops.nil ?_
        refine AW.seq ?_
        refine AW.weak (st' := ⟨101, (upd 101 (upd 101 (upd 101 topF 1 (sc (.int .i64 a1))) 2 (D.one (C.ref 0 0))) 3 (D.one (C.ref 1 0))), [(some (AObj.cells false [(C.p true (.v (.int .i64 p0)))])), (some (AObj.cells true (c_api_Item a0)))]⟩) (Weak.gen (kk := 1) [0, 1] [] hx rfl (by decide) (by decide) rfl rfl rfl (le_upd (le_upd (le_upd (le_top _) (.t (.one .sc))) (.t (.one (.ref rfl)))) (.t (.one (.ref rfl)))) (All2.cons (.cells (fun h => h) (All2.cons .sc All2.nil)) (All2.cons (.cells (fun h => h) (All2.cons .sc (All2.cons .sc (All2.cons .sc (All2.cons .same (All2.cons .same (All2.cons .sc (All2.cons .sc (All2.cons .sc (All2.cons .sc (All2.cons .sc (All2.cons .sc (All2.cons .same (All2.cons .same (All2.cons .same All2.nil))))))))))))))) All2.nil))) ?_
        refine AW.draw (n := 101) (L := 2) [(0, ⟨some 15, (D.one (C.ref 0 0)), [(2, (D.one (C.ref 0 0)))], [], [], none⟩), (1, ⟨some 16, (D.one (C.ref 0 0)), [(15, (D.one (C.ref 0 0)))], [], [], none⟩), (2, ⟨some 17, (sc (.int .i64 p0)), [(16, (D.one (C.ref 0 0)))], [(0, (some (AObj.cells false [(C.p true (.v (.int .i64 p0)))])))], [], none⟩), (3, ⟨some 18, (D.one (C.ref 1 3)), [(3, (D.one (C.ref 1 0)))], [], [], none⟩), (4, ⟨some 19, (D.one (C.p false (.sl a0.Entry.length (a0.Entry.flatMap e_api_Sentry)))), [(18, (D.one (C.ref 1 3)))], [(1, (some (AObj.cells true (c_api_Item a0))))], [], none⟩), (5, ⟨some 20, (sc (.int .i64 (a0.Entry.length : Int))), [(19, (D.one (C.p false (.sl a0.Entry.length (a0.Entry.flatMap e_api_Sentry)))))], [], [], none⟩), (6, ⟨some 21, (D.one (C.ref 1 4)), [(3, (D.one (C.ref 1 0)))], [], [], none⟩), (7, ⟨some 22, (D.one (C.p false (.sl a0.Exit.length (a0.Exit.flatMap e_api_Sentry)))), [(21, (D.one (C.ref 1 4)))], [(1, (some (AObj.cells true (c_api_Item a0))))], [], none⟩), (8, ⟨some 23, (sc (.int .i64 (a0.Exit.length : Int))), [(22, (D.one (C.p false (.sl a0.Exit.length (a0.Exit.flatMap e_api_Sentry)))))], [], [], none⟩), (9, ⟨some 24, (sc (.int .i64 (IntKind.i64.wrap ((a0.Entry.length : Int) + (a0.Exit.length : Int))))), [(20, (sc (.int .i64 (a0.Entry.length : Int)))), (23, (sc (.int .i64 (a0.Exit.length : Int))))], [], [], none⟩), (10, ⟨some 25, (sc (.int .i64 (IntKind.i64.wrap (Int.tdiv (IntKind.i64.wrap ((a0.Entry.length : Int) + (a0.Exit.length : Int))) 4)))), [(24, (sc (.int .i64 (IntKind.i64.wrap ((a0.Entry.length : Int) + (a0.Exit.length : Int))))))], [], [], none⟩), (11, ⟨some 26, (sc (.int .i64 (IntKind.i64.wrap (1 + (IntKind.i64.wrap (Int.tdiv (IntKind.i64.wrap ((a0.Entry.length : Int) + (a0.Exit.length : Int))) 4)))))), [(25, (sc (.int .i64 (IntKind.i64.wrap (Int.tdiv (IntKind.i64.wrap ((a0.Entry.length : Int) + (a0.Exit.length : Int))) 4)))))], [], [], none⟩), (12, ⟨some 27, (sc (.int .i64 (IntKind.i64.wrap (p0 - (IntKind.i64.wrap (1 + (IntKind.i64.wrap (Int.tdiv (IntKind.i64.wrap ((a0.Entry.length : Int) + (a0.Exit.length : Int))) 4)))))))), [(17, (sc (.int .i64 p0))), (26, (sc (.int .i64 (IntKind.i64.wrap (1 + (IntKind.i64.wrap (Int.tdiv (IntKind.i64.wrap ((a0.Entry.length : Int) + (a0.Exit.length : Int))) 4)))))))], [], [], none⟩), (13, ⟨some 28, (D.one (C.ref 0 0)), [(15, (D.one (C.ref 0 0)))], [], [], none⟩), (14, ⟨none, (D.one C.top), [(27, (sc (.int .i64 (IntKind.i64.wrap (p0 - (IntKind.i64.wrap (1 + (IntKind.i64.wrap (Int.tdiv (IntKind.i64.wrap ((a0.Entry.length : Int) + (a0.Exit.length : Int))) 4))))))))), (28, (D.one (C.ref 0 0)))], [(0, (some (AObj.cells false [(C.p true (.v (.int .i64 p0)))])))], [(0, (some (AObj.cells false [(C.p true (.v (.int .i64 (IntKind.i64.wrap (p0 - (IntKind.i64.wrap (1 + (IntKind.i64.wrap (Int.tdiv (IntKind.i64.wrap ((a0.Entry.length : Int) + (a0.Exit.length : Int))) 4)))))))))])))], none⟩)] [[], [0], [0, 1], [], [3], [3, 4], [], [6], [6, 7], [3, 4, 5, 6, 7, 8], [3, 4, 5, 6, 7, 8, 9], [3, 4, 5, 6, 7, 8, 9, 10], [0, 1, 2, 3, 4, 5, 6, 7, 8, 9, 10, 11], [0, 1, 2, 3, 4, 5, 6, 7, 8, 9, 10, 11, 12], [0, 1, 2, 3, 4, 5, 6, 7, 8, 9, 10, 11, 12, 13]] (Nat.le_of_ble_eq_true rfl) [0, 1, 2, 0, 1, 2, 0, 1, 2, 3, 4, 5, 6, 7, 8] rfl (TK := []) rfl AllK.nil' (AllF.cons' ⟨(AllS.cons' rfl AllS.nil'), AllH.nil'⟩ (AllF.cons' ⟨(AllS.cons' rfl AllS.nil'), AllH.nil'⟩ (AllF.cons' ⟨(AllS.cons' rfl AllS.nil'), (AllH.cons' rfl AllH.nil')⟩ (AllF.cons' ⟨(AllS.cons' rfl AllS.nil'), AllH.nil'⟩ (AllF.cons' ⟨(AllS.cons' rfl AllS.nil'), (AllH.cons' rfl AllH.nil')⟩ (AllF.cons' ⟨(AllS.cons' rfl AllS.nil'), AllH.nil'⟩ (AllF.cons' ⟨(AllS.cons' rfl AllS.nil'), AllH.nil'⟩ (AllF.cons' ⟨(AllS.cons' rfl AllS.nil'), (AllH.cons' rfl AllH.nil')⟩ (AllF.cons' ⟨(AllS.cons' rfl AllS.nil'), AllH.nil'⟩ (AllF.cons' ⟨(AllS.cons' rfl (AllS.cons' rfl AllS.nil')), AllH.nil'⟩ (AllF.cons' ⟨(AllS.cons' rfl AllS.nil'), AllH.nil'⟩ (AllF.cons' ⟨(AllS.cons' rfl AllS.nil'), AllH.nil'⟩ (AllF.cons' ⟨(AllS.cons' rfl (AllS.cons' rfl AllS.nil')), AllH.nil'⟩ (AllF.cons' ⟨(AllS.cons' rfl AllS.nil'), AllH.nil'⟩ (AllF.cons' ⟨(AllS.cons' rfl (AllS.cons' rfl AllS.nil')), (AllH.cons' rfl AllH.nil')⟩ AllF.nil'))))))))))))))) ?_ ?_
        · refine (AllStep.cons' ?_ (AllStep.cons' ?_ (AllStep.cons' ?_ (AllStep.cons' ?_ (AllStep.cons' ?_ (AllStep.cons' ?_ (AllStep.cons' ?_ (AllStep.cons' ?_ (AllStep.cons' ?_ (AllStep.cons' ?_ (AllStep.cons' ?_ (AllStep.cons' ?_ (AllStep.cons' ?_ (AllStep.cons' ?_ (AllStep.cons' ?_ AllStep.nil')))))))))))))))
          · intro K rest fr hv htk k
            show AWops _ x _ _ K ⟨101, (upd 101 fr 2 (D.one (C.ref 0 0))), [(hv 0), (hv 1)]⟩
            refine s_move (d := (D.one (C.ref 0 0))) rfl ?_
            exact k
          · intro K rest fr hv htk k
            show AWops _ x _ _ K ⟨101, (upd 101 fr 15 (D.one (C.ref 0 0))), [(hv 0), (hv 1)]⟩
            refine s_nilCheck (d := (D.one (C.ref 0 0))) rfl (.inl ⟨_, _, rfl⟩) ?_
            exact k
          · intro K rest fr hv htk k
            show AWops _ x _ _ K ⟨101, (upd 101 fr 16 (D.one (C.ref 0 0))), [(some (AObj.cells false [(C.p true (.v (.int .i64 p0)))])), (hv 1)]⟩
            refine s_load1 (c' := (C.p true (.v (.int .i64 p0)))) F.ag_3 rfl rfl ?_
            exact k
          · intro K rest fr hv htk k
            show AWops _ x _ _ K ⟨101, (upd 101 fr 3 (D.one (C.ref 1 0))), [(hv 0), (hv 1)]⟩
            refine s_fieldRef F.fo_36_3 (by decide) rfl ?_
            exact k
          · intro K rest fr hv htk k
            show AWops _ x _ _ K ⟨101, (upd 101 fr 18 (D.one (C.ref 1 3))), [(hv 0), (some (AObj.cells true (c_api_Item a0)))]⟩
            refine s_load1 (c' := (C.p false (.sl a0.Entry.length (a0.Entry.flatMap e_api_Sentry)))) F.ag_33 rfl rfl ?_
            exact k
          · intro K rest fr hv htk k
            show AWops _ x _ _ K ⟨101, (upd 101 fr 19 (D.one (C.p false (.sl a0.Entry.length (a0.Entry.flatMap e_api_Sentry))))), [(hv 0), (hv 1)]⟩
            refine s_len (n := a0.Entry.length) F.u_33 rfl (.inr ⟨(fun _ _ h => by cases h), ⟨_, rfl⟩⟩) ?_
            exact k
          · intro K rest fr hv htk k
            show AWops _ x _ _ K ⟨101, (upd 101 fr 3 (D.one (C.ref 1 0))), [(hv 0), (hv 1)]⟩
            refine s_fieldRef F.fo_36_4 (by decide) rfl ?_
            exact k
          · intro K rest fr hv htk k
            show AWops _ x _ _ K ⟨101, (upd 101 fr 21 (D.one (C.ref 1 4))), [(hv 0), (some (AObj.cells true (c_api_Item a0)))]⟩
            refine s_load1 (c' := (C.p false (.sl a0.Exit.length (a0.Exit.flatMap e_api_Sentry)))) F.ag_33 rfl rfl ?_
            exact k
          · intro K rest fr hv htk k
            show AWops _ x _ _ K ⟨101, (upd 101 fr 22 (D.one (C.p false (.sl a0.Exit.length (a0.Exit.flatMap e_api_Sentry))))), [(hv 0), (hv 1)]⟩
            refine s_len (n := a0.Exit.length) F.u_33 rfl (.inr ⟨(fun _ _ h => by cases h), ⟨_, rfl⟩⟩) ?_
            exact k
          · intro K rest fr hv htk k
            show AWops _ x _ _ K ⟨101, (upd 101 (upd 101 fr 23 (sc (.int .i64 (a0.Exit.length : Int)))) 20 (sc (.int .i64 (a0.Entry.length : Int)))), [(hv 0), (hv 1)]⟩
            refine s_binI (v := (.int .i64 (IntKind.i64.wrap ((a0.Entry.length : Int) + (a0.Exit.length : Int))))) rfl rfl rfl ?_
            exact k
          · intro K rest fr hv htk k
            show AWops _ x _ _ K ⟨101, (upd 101 fr 24 (sc (.int .i64 (IntKind.i64.wrap ((a0.Entry.length : Int) + (a0.Exit.length : Int)))))), [(hv 0), (hv 1)]⟩
            refine s_binI (v := (.int .i64 (IntKind.i64.wrap (Int.tdiv (IntKind.i64.wrap ((a0.Entry.length : Int) + (a0.Exit.length : Int))) 4)))) rfl rfl rfl ?_
            exact k
          · intro K rest fr hv htk k
            show AWops _ x _ _ K ⟨101, (upd 101 fr 25 (sc (.int .i64 (IntKind.i64.wrap (Int.tdiv (IntKind.i64.wrap ((a0.Entry.length : Int) + (a0.Exit.length : Int))) 4))))), [(hv 0), (hv 1)]⟩
            refine s_binI (v := (.int .i64 (IntKind.i64.wrap (1 + (IntKind.i64.wrap (Int.tdiv (IntKind.i64.wrap ((a0.Entry.length : Int) + (a0.Exit.length : Int))) 4)))))) rfl rfl rfl ?_
            exact k
          · intro K rest fr hv htk k
            show AWops _ x _ _ K ⟨101, (upd 101 (upd 101 fr 26 (sc (.int .i64 (IntKind.i64.wrap (1 + (IntKind.i64.wrap (Int.tdiv (IntKind.i64.wrap ((a0.Entry.length : Int) + (a0.Exit.length : Int))) 4))))))) 17 (sc (.int .i64 p0))), [(hv 0), (hv 1)]⟩
            refine s_binI (v := (.int .i64 (IntKind.i64.wrap (p0 - (IntKind.i64.wrap (1 + (IntKind.i64.wrap (Int.tdiv (IntKind.i64.wrap ((a0.Entry.length : Int) + (a0.Exit.length : Int))) 4)))))))) rfl rfl rfl ?_
            exact k
          · intro K rest fr hv htk k
            show AWops _ x _ _ K ⟨101, (upd 101 fr 15 (D.one (C.ref 0 0))), [(hv 0), (hv 1)]⟩
            refine s_nilCheck (d := (D.one (C.ref 0 0))) rfl (.inl ⟨_, _, rfl⟩) ?_
            exact k
          · intro K rest fr hv htk k
            show AWops _ x _ _ K ⟨101, (upd 101 (upd 101 fr 28 (D.one (C.ref 0 0))) 27 (sc (.int .i64 (IntKind.i64.wrap (p0 - (IntKind.i64.wrap (1 + (IntKind.i64.wrap (Int.tdiv (IntKind.i64.wrap ((a0.Entry.length : Int) + (a0.Exit.length : Int))) 4))))))))), [(some (AObj.cells false [(C.p true (.v (.int .i64 p0)))])), (hv 1)]⟩
            refine s_store (cs' := [(C.p true (.v (.int .i64 (IntKind.i64.wrap (p0 - (IntKind.i64.wrap (1 + (IntKind.i64.wrap (Int.tdiv (IntKind.i64.wrap ((a0.Entry.length : Int) + (a0.Exit.length : Int))) 4)))))))))]) rfl rfl rfl (List.cons_ne_nil _ _) rfl F.sz_3 (Nat.le_of_ble_eq_true rfl) rfl ?_
            exact k
        · refine AWops.weak (st' := ⟨101, (upd 101 (upd 101 (upd 101 topF 1 (sc (.int .i64 a1))) 2 (D.one (C.ref 0 0))) 3 (D.one (C.ref 1 0))), [(some (AObj.cells false [(C.p true (.v (.int .i64 (IntKind.i64.wrap (p0 - (IntKind.i64.wrap (1 + (IntKind.i64.wrap (Int.tdiv (IntKind.i64.wrap ((a0.Entry.length : Int) + (a0.Exit.length : Int))) 4)))))))))])), (some (AObj.cells true (c_api_Item a0)))]⟩) (Weak.gen (kk := 1) [0, 1] [] hx rfl (by decide) (by decide) rfl rfl rfl (le_upd (le_upd (le_upd (le_top _) (.t (.one .sc))) (.t (.one (.ref rfl)))) (.t (.one (.ref rfl)))) (All2.cons (.cells (fun h => h) (All2.cons .sc All2.nil)) (All2.cons (.cells (fun h => h) (All2.cons .sc (All2.cons .sc (All2.cons .sc (All2.cons .same (All2.cons .same (All2.cons .sc (All2.cons .sc (All2.cons .sc (All2.cons .sc (All2.cons .sc (All2.cons .sc (All2.cons .same (All2.cons .same (All2.cons .same All2.nil))))))))))))))) All2.nil))) ?_
          refine AWops.nil ?_
          refine AW.seq ?_
          refine AW.seq ?_
          refine AW.region ?_
          refine s_move (d := (sc (.int .i64 a1))) rfl ?_
          refine s_binI (v := (.bool (decide (a1 > 40)))) rfl rfl rfl ?_
          refine s_move (d := (sc (.bool (decide (a1 > 40))))) rfl ?_
          by_cases c1 : (decide (a1 > 40)) = true
          · replace h := (if_pos c1).symm.trans h
            refine AWops.guard_no rfl (Nat.le_of_ble_eq_true rfl) rfl c1 ?_
            refine AWops.guard_no rfl (Nat.le_of_ble_eq_true rfl) rfl c1 ?_
            refine AWops.guard_no rfl (Nat.le_of_ble_eq_true rfl) rfl c1 ?_
            refine AWops.guard_no rfl (Nat.le_of_ble_eq_true rfl) rfl c1 ?_
            refine s_pick_yes (d := (sc (.bool true))) rfl c1 rfl ?_
            refine s_move (d := (sc (.bool true))) rfl ?_
            refine AWops.guard_no rfl (Nat.le_of_ble_eq_true rfl) rfl rfl ?_
            refine AWops.guard_no rfl (Nat.le_of_ble_eq_true rfl) rfl rfl ?_
            refine AWops.guard_no rfl (Nat.le_of_ble_eq_true rfl) rfl rfl ?_
            refine AWops.guard_no rfl (Nat.le_of_ble_eq_true rfl) rfl rfl ?_
            refine s_pick_yes (d := (sc (.bool true))) rfl rfl rfl ?_
            refine s_move (d := (sc (.bool true))) rfl ?_
            refine AWops.guard_no rfl (Nat.le_of_ble_eq_true rfl) rfl rfl ?_
            refine AWops.guard_no rfl (Nat.le_of_ble_eq_true rfl) rfl rfl ?_
            refine AWops.guard_no rfl (Nat.le_of_ble_eq_true rfl) rfl rfl ?_
            refine AWops.guard_no rfl (Nat.le_of_ble_eq_true rfl) rfl rfl ?_
            refine s_pick_yes (d := (sc (.bool true))) rfl rfl rfl ?_
            refine s_move (d := (sc (.bool true))) rfl ?_
            refine AWops.guard_no rfl (Nat.le_of_ble_eq_true rfl) rfl rfl ?_
            refine AWops.guard_no rfl (Nat.le_of_ble_eq_true rfl) rfl rfl ?_
            refine AWops.guard_no rfl (Nat.le_of_ble_eq_true rfl) rfl rfl ?_
            refine AWops.guard_no rfl (Nat.le_of_ble_eq_true rfl) rfl rfl ?_
            refine s_pick_yes (d := (sc (.bool true))) rfl rfl rfl ?_
            refine AWops.nil ?_
            refine AW.cond_yes rfl rfl ?_
            refine AW.seq ?_
            refine AW.region ?_
            refine s_assign (d := (sc (.bool false))) rfl ?_
            refine AWops.nil ?_
            refine AW.ret ?_
            obtain rfl := Option.some.inj h
            exact ⟨_, rfl, (Weak.gen (kk := 1) [0] [] rfl rfl (by decide) (by decide) rfl rfl rfl (le_upd (le_top _) (.t (.one .sc))) (All2.cons (.cells (fun h => h) (All2.cons .sc All2.nil)) All2.nil))⟩
          · replace h := (if_neg c1).symm.trans h
            replace c1 := Bool.eq_false_iff.mpr c1
            refine AWops.guard_yes rfl (Nat.le_of_ble_eq_true rfl) rfl c1 ?_
            refine s_move (d := (D.one (C.ref 0 0))) rfl ?_
            refine AWops.guard_yes rfl (Nat.le_of_ble_eq_true rfl) rfl c1 ?_
            refine s_nilCheck (d := (D.one (C.ref 0 0))) rfl (.inl ⟨_, _, rfl⟩) ?_
            refine AWops.guard_yes rfl (Nat.le_of_ble_eq_true rfl) rfl c1 ?_
            refine s_load1 (c' := (C.p true (.v (.int .i64 (IntKind.i64.wrap (p0 - (IntKind.i64.wrap (1 + (IntKind.i64.wrap (Int.tdiv (IntKind.i64.wrap ((a0.Entry.length : Int) + (a0.Exit.length : Int))) 4)))))))))) F.ag_3 rfl rfl ?_
            refine AWops.guard_yes rfl (Nat.le_of_ble_eq_true rfl) rfl c1 ?_
            refine s_binI (v := (.bool (decide ((IntKind.i64.wrap (p0 - (IntKind.i64.wrap (1 + (IntKind.i64.wrap (Int.tdiv (IntKind.i64.wrap ((a0.Entry.length : Int) + (a0.Exit.length : Int))) 4)))))) < 0)))) rfl rfl rfl ?_
            refine s_pick_no (d := (sc (.bool (decide ((IntKind.i64.wrap (p0 - (IntKind.i64.wrap (1 + (IntKind.i64.wrap (Int.tdiv (IntKind.i64.wrap ((a0.Entry.length : Int) + (a0.Exit.length : Int))) 4)))))) < 0))))) rfl c1 rfl ?_
            refine s_move (d := (sc (.bool (decide ((IntKind.i64.wrap (p0 - (IntKind.i64.wrap (1 + (IntKind.i64.wrap (Int.tdiv (IntKind.i64.wrap ((a0.Entry.length : Int) + (a0.Exit.length : Int))) 4)))))) < 0))))) rfl ?_
            by_cases c2 : (decide ((IntKind.i64.wrap (p0 - (IntKind.i64.wrap (1 + (IntKind.i64.wrap (Int.tdiv (IntKind.i64.wrap ((a0.Entry.length : Int) + (a0.Exit.length : Int))) 4)))))) < 0)) = true
            · replace h := (if_pos c2).symm.trans h
              refine AWops.guard_no rfl (Nat.le_of_ble_eq_true rfl) rfl c2 ?_
              refine AWops.guard_no rfl (Nat.le_of_ble_eq_true rfl) rfl c2 ?_
              refine AWops.guard_no rfl (Nat.le_of_ble_eq_true rfl) rfl c2 ?_
              refine AWops.guard_no rfl (Nat.le_of_ble_eq_true rfl) rfl c2 ?_
              refine s_pick_yes (d := (sc (.bool true))) rfl c2 rfl ?_
              refine s_move (d := (sc (.bool true))) rfl ?_
              refine AWops.guard_no rfl (Nat.le_of_ble_eq_true rfl) rfl rfl ?_
              refine AWops.guard_no rfl (Nat.le_of_ble_eq_true rfl) rfl rfl ?_
              refine AWops.guard_no rfl (Nat.le_of_ble_eq_true rfl) rfl rfl ?_
              refine AWops.guard_no rfl (Nat.le_of_ble_eq_true rfl) rfl rfl ?_
              refine s_pick_yes (d := (sc (.bool true))) rfl rfl rfl ?_
              refine s_move (d := (sc (.bool true))) rfl ?_
              refine AWops.guard_no rfl (Nat.le_of_ble_eq_true rfl) rfl rfl ?_
              refine AWops.guard_no rfl (Nat.le_of_ble_eq_true rfl) rfl rfl ?_
              refine AWops.guard_no rfl (Nat.le_of_ble_eq_true rfl) rfl rfl ?_
              refine AWops.guard_no rfl (Nat.le_of_ble_eq_true rfl) rfl rfl ?_
              refine s_pick_yes (d := (sc (.bool true))) rfl rfl rfl ?_
              refine AWops.nil ?_
              refine AW.cond_yes rfl rfl ?_
              refine AW.seq ?_
              refine AW.region ?_
              refine s_assign (d := (sc (.bool false))) rfl ?_
              refine AWops.nil ?_
              refine AW.ret ?_
              obtain rfl := Option.some.inj h
              exact ⟨_, rfl, (Weak.gen (kk := 1) [0] [] rfl rfl (by decide) (by decide) rfl rfl rfl (le_upd (le_top _) (.t (.one .sc))) (All2.cons (.cells (fun h => h) (All2.cons .sc All2.nil)) All2.nil))⟩
            · replace h := (if_neg c2).symm.trans h
              replace c2 := Bool.eq_false_iff.mpr c2
              refine AWops.guard_yes rfl (Nat.le_of_ble_eq_true rfl) rfl c2 ?_
              refine s_fieldRef F.fo_36_3 (by decide) rfl ?_
              refine AWops.guard_yes rfl (Nat.le_of_ble_eq_true rfl) rfl c2 ?_
              refine s_load1 (c' := (C.p false (.sl a0.Entry.length (a0.Entry.flatMap e_api_Sentry)))) F.ag_33 rfl rfl ?_
              refine AWops.guard_yes rfl (Nat.le_of_ble_eq_true rfl) rfl c2 ?_
              refine s_len (n := a0.Entry.length) F.u_33 rfl (.inr ⟨(fun _ _ h => by cases h), ⟨_, rfl⟩⟩) ?_
              refine AWops.guard_yes rfl (Nat.le_of_ble_eq_true rfl) rfl c2 ?_
              refine s_binI (v := (.bool (decide ((a0.Entry.length : Int) > 20)))) rfl rfl rfl ?_
              refine s_pick_no (d := (sc (.bool (decide ((a0.Entry.length : Int) > 20))))) rfl c2 rfl ?_
              refine s_move (d := (sc (.bool (decide ((a0.Entry.length : Int) > 20))))) rfl ?_
              by_cases c3 : (decide ((a0.Entry.length : Int) > 20)) = true
              · replace h := (if_pos c3).symm.trans h
                refine AWops.guard_no rfl (Nat.le_of_ble_eq_true rfl) rfl c3 ?_
                refine AWops.guard_no rfl (Nat.le_of_ble_eq_true rfl) rfl c3 ?_
                refine AWops.guard_no rfl (Nat.le_of_ble_eq_true rfl) rfl c3 ?_
                refine AWops.guard_no rfl (Nat.le_of_ble_eq_true rfl) rfl c3 ?_
                refine s_pick_yes (d := (sc (.bool true))) rfl c3 rfl ?_
                refine s_move (d := (sc (.bool true))) rfl ?_
                refine AWops.guard_no rfl (Nat.le_of_ble_eq_true rfl) rfl rfl ?_
                refine AWops.guard_no rfl (Nat.le_of_ble_eq_true rfl) rfl rfl ?_
                refine AWops.guard_no rfl (Nat.le_of_ble_eq_true rfl) rfl rfl ?_
                refine AWops.guard_no rfl (Nat.le_of_ble_eq_true rfl) rfl rfl ?_
                refine s_pick_yes (d := (sc (.bool true))) rfl rfl rfl ?_
                refine AWops.nil ?_
                refine AW.cond_yes rfl rfl ?_
                refine AW.seq ?_
                refine AW.region ?_
                refine s_assign (d := (sc (.bool false))) rfl ?_
                refine AWops.nil ?_
                refine AW.ret ?_
                obtain rfl := Option.some.inj h
                exact ⟨_, rfl, (Weak.gen (kk := 1) [0] [] rfl rfl (by decide) (by decide) rfl rfl rfl (le_upd (le_top _) (.t (.one .sc))) (All2.cons (.cells (fun h => h) (All2.cons .sc All2.nil)) All2.nil))⟩
              · replace h := (if_neg c3).symm.trans h
                replace c3 := Bool.eq_false_iff.mpr c3
                refine AWops.guard_yes rfl (Nat.le_of_ble_eq_true rfl) rfl c3 ?_
                refine s_fieldRef F.fo_36_4 (by decide) rfl ?_
                refine AWops.guard_yes rfl (Nat.le_of_ble_eq_true rfl) rfl c3 ?_
                refine s_load1 (c' := (C.p false (.sl a0.Exit.length (a0.Exit.flatMap e_api_Sentry)))) F.ag_33 rfl rfl ?_
                refine AWops.guard_yes rfl (Nat.le_of_ble_eq_true rfl) rfl c3 ?_
                refine s_len (n := a0.Exit.length) F.u_33 rfl (.inr ⟨(fun _ _ h => by cases h), ⟨_, rfl⟩⟩) ?_
                refine AWops.guard_yes rfl (Nat.le_of_ble_eq_true rfl) rfl c3 ?_
                refine s_binI (v := (.bool (decide ((a0.Exit.length : Int) > 20)))) rfl rfl rfl ?_
                refine s_pick_no (d := (sc (.bool (decide ((a0.Exit.length : Int) > 20))))) rfl c3 rfl ?_
                refine s_move (d := (sc (.bool (decide ((a0.Exit.length : Int) > 20))))) rfl ?_
                by_cases c4 : (decide ((a0.Exit.length : Int) > 20)) = true
                · replace h := (if_pos c4).symm.trans h
                  refine AWops.guard_no rfl (Nat.le_of_ble_eq_true rfl) rfl c4 ?_
                  refine AWops.guard_no rfl (Nat.le_of_ble_eq_true rfl) rfl c4 ?_
                  refine AWops.guard_no rfl (Nat.le_of_ble_eq_true rfl) rfl c4 ?_
                  refine AWops.guard_no rfl (Nat.le_of_ble_eq_true rfl) rfl c4 ?_
                  refine s_pick_yes (d := (sc (.bool true))) rfl c4 rfl ?_
                  refine AWops.nil ?_
                  refine AW.cond_yes rfl rfl ?_
                  refine AW.seq ?_
                  refine AW.region ?_
                  refine s_assign (d := (sc (.bool false))) rfl ?_
                  refine AWops.nil ?_
                  refine AW.ret ?_
                  obtain rfl := Option.some.inj h
                  exact ⟨_, rfl, (Weak.gen (kk := 1) [0] [] rfl rfl (by decide) (by decide) rfl rfl rfl (le_upd (le_top _) (.t (.one .sc))) (All2.cons (.cells (fun h => h) (All2.cons .sc All2.nil)) All2.nil))⟩
                · replace h := (if_neg c4).symm.trans h
                  replace c4 := Bool.eq_false_iff.mpr c4
                  refine AWops.guard_yes rfl (Nat.le_of_ble_eq_true rfl) rfl c4 ?_
                  refine s_fieldRef F.fo_36_11 (by decide) rfl ?_
                  refine AWops.guard_yes rfl (Nat.le_of_ble_eq_true rfl) rfl c4 ?_
                  refine s_load1 (c' := (C.p false (.sl a0.Roles.length (a0.Roles.flatMap e_str)))) F.ag_31 rfl rfl ?_
                  refine AWops.guard_yes rfl (Nat.le_of_ble_eq_true rfl) rfl c4 ?_
                  refine s_len (n := a0.Roles.length) F.u_31 rfl (.inr ⟨(fun _ _ h => by cases h), ⟨_, rfl⟩⟩) ?_
                  refine AWops.guard_yes rfl (Nat.le_of_ble_eq_true rfl) rfl c4 ?_
                  refine s_binI (v := (.bool (decide ((a0.Roles.length : Int) > 40)))) rfl rfl rfl ?_
                  refine s_pick_no (d := (sc (.bool (decide ((a0.Roles.length : Int) > 40))))) rfl c4 rfl ?_
                  refine AWops.nil ?_
                  by_cases c5 : (decide ((a0.Roles.length : Int) > 40)) = true
                  · replace h := (if_pos c5).symm.trans h
                    refine AW.cond_yes rfl c5 ?_
                    refine AW.seq ?_
                    refine AW.region ?_
                    refine s_assign (d := (sc (.bool false))) rfl ?_
                    refine AWops.nil ?_
                    refine AW.ret ?_
                    obtain rfl := Option.some.inj h
                    exact ⟨_, rfl, (Weak.gen (kk := 1) [0] [] rfl rfl (by decide) (by decide) rfl rfl rfl (le_upd (le_top _) (.t (.one .sc))) (All2.cons (.cells (fun h => h) (All2.cons .sc All2.nil)) All2.nil))⟩
                  · replace h := (if_neg c5).symm.trans h
                    replace c5 := Bool.eq_false_iff.mpr c5
                    refine AW.cond_no rfl c5 ?_
                    refine AW.skip ?_
                    refine AW.seq ?_
                    refine AW.seq ?_
                    refine AW.region ?_
                    refine s_fieldRef F.fo_36_3 (by decide) rfl ?_
                    refine s_load1 (c' := (C.p false (.sl a0.Entry.length (a0.Entry.flatMap e_api_Sentry)))) F.ag_33 rfl rfl ?_
                    refine s_fieldRef F.fo_36_4 (by decide) rfl ?_
                    refine s_load1 (c' := (C.p false (.sl a0.Exit.length (a0.Exit.flatMap e_api_Sentry)))) F.ag_33 rfl rfl ?_
                    refine s_buildSlice (n := 2) (ps := [(0, (D.one (C.p false (.sl a0.Entry.length (a0.Entry.flatMap e_api_Sentry))))), (1, (D.one (C.p false (.sl a0.Exit.length (a0.Exit.flatMap e_api_Sentry)))))]) (cs := rowC (e_sl e_api_Sentry) ([a0.Entry, a0.Exit] : List (List api_Sentry))) F.u_80 F.sz_33 F.z_33 rfl rfl (by decide) (by decide) rfl rfl ?_
                    refine s_len (n := ([a0.Entry, a0.Exit] : List (List api_Sentry)).length) F.u_80 rfl (.inr ⟨(fun _ _ h => by cases h), ⟨_, rfl⟩⟩) ?_
                    refine s_move (d := (sc (.int .i64 0))) rfl ?_
                    refine AWops.nil ?_
                    refine AW.block ?_
                    refine AW.loopw (st0 := ⟨101, (upd 101 (upd 101 (upd 101 (upd 101 (upd 101 (upd 101 topF 1 (sc (.int .i64 a1))) 2 (D.one (C.ref 0 0))) 3 (D.one (C.ref 1 0))) 59 (D.one (C.own 2 0 (([a0.Entry, a0.Exit] : List (List api_Sentry)).length) 1))) 60 (sc (.int .i64 (([a0.Entry, a0.Exit] : List (List api_Sentry)).length : Int)))) 61 (sc (.int .i64 0))), [(some (AObj.cells false [(C.p true (.v (.int .i64 (IntKind.i64.wrap (p0 - (IntKind.i64.wrap (1 + (IntKind.i64.wrap (Int.tdiv (IntKind.i64.wrap ((a0.Entry.length : Int) + (a0.Exit.length : Int))) 4)))))))))])), (some (AObj.cells true (c_api_Item a0))), (some (AObj.cells true (rowC (e_sl e_api_Sentry) ([a0.Entry, a0.Exit] : List (List api_Sentry)))))]⟩) (fun kv st => kv ≤ k ∧ ∃ (x6 : Int), dossierplain_item.l0 kv x6 a0 a1 p0 = some r ∧ st = ⟨101, (upd 101 (upd 101 (upd 101 (upd 101 (upd 101 (upd 101 topF 1 (sc (.int .i64 a1))) 2 (D.one (C.ref 0 0))) 3 (D.one (C.ref 1 0))) 59 (D.one (C.own 2 0 (([a0.Entry, a0.Exit] : List (List api_Sentry)).length) 1))) 60 (sc (.int .i64 (([a0.Entry, a0.Exit] : List (List api_Sentry)).length : Int)))) 61 (sc (.int .i64 x6))), [(some (AObj.cells false [(C.p true (.v (.int .i64 (IntKind.i64.wrap (p0 - (IntKind.i64.wrap (1 + (IntKind.i64.wrap (Int.tdiv (IntKind.i64.wrap ((a0.Entry.length : Int) + (a0.Exit.length : Int))) 4)))))))))])), (some (AObj.cells true (c_api_Item a0))), (some (AObj.cells true (rowC (e_sl e_api_Sentry) ([a0.Entry, a0.Exit] : List (List api_Sentry)))))]⟩) (k := k) (Weak.gen (kk := 1) [0, 1, 2] [] hx rfl (by decide) (by decide) rfl rfl rfl (le_upd (le_upd (le_upd (le_upd (le_upd (le_upd (le_top _) (.t (.one .sc))) (.t (.one (.ref rfl)))) (.t (.one (.ref rfl)))) (.t (.one (.own rfl)))) (.t (.one .sc))) (.t (.one .sc))) (All2.cons (.cells (fun h => h) (All2.cons .sc All2.nil)) (All2.cons (.cells (fun h => h) (All2.cons .sc (All2.cons .sc (All2.cons .sc (All2.cons .same (All2.cons .same (All2.cons .sc (All2.cons .sc (All2.cons .sc (All2.cons .sc (All2.cons .sc (All2.cons .sc (All2.cons .same (All2.cons .same (All2.cons .same All2.nil))))))))))))))) (All2.cons (.cells (fun h => h) (all2_row _)) All2.nil)))) ⟨Nat.le_refl _, 0, h, rfl⟩ ?_
                    rintro ql0 st ⟨hkl0, x6, h, rfl⟩
                    cases ql0 with
                    | zero => exact absurd h (by simp [dossierplain_item.l0])
                    | succ ql0 =>
                      replace h := (dossierplain_item.l0.eq_2 _ _ _ _ _).symm.trans h
                      refine AW.seq ?_
                      refine AW.region ?_
                      refine s_binI (v := (.bool (decide (x6 < (([a0.Entry, a0.Exit] : List (List api_Sentry)).length : Int))))) rfl rfl rfl ?_
                      refine AWops.nil ?_
                      refine AW.seq ?_
                      by_cases c7 : (decide (x6 < (([a0.Entry, a0.Exit] : List (List api_Sentry)).length : Int))) = true
                      · replace h := (if_pos c7).symm.trans h
                        refine AW.cond_yes rfl c7 ?_
                        refine AW.skip ?_
                        refine AW.seq ?_
                        refine AW.block ?_
                        refine AW.seq ?_
                        refine AW.region ?_
                        obtain ⟨v8, ev8, h⟩ := Option.bind_eq_some_iff.mp h
                        obtain ⟨pv8, qv8, gv8⟩ := rd_some ev8
                        refine s_indexOwn (d := (D.one (C.ref 2 (0 + x6.toNat * 1)))) F.u_80 F.sz_33 rfl rfl pv8 qv8 rfl ?_
                        obtain ⟨R9, hR9⟩ := row_at (f := (e_sl e_api_Sentry)) (sz := 1) (o := 0) (e_sl_len _) gv8 (e_sl_eq _ v8) (by decide)
                        refine s_load1 (c' := (C.p false (.sl v8.length (v8.flatMap e_api_Sentry)))) F.ag_33 (congrArg some hR9) rfl ?_
                        refine s_assign (d := (D.one (C.p false (.sl v8.length (v8.flatMap e_api_Sentry))))) rfl ?_
                        refine AWops.nil ?_
                        refine AW.seq ?_
                        refine AW.region ?_
                        refine s_move (d := (D.one (C.p false (.sl v8.length (v8.flatMap e_api_Sentry))))) rfl ?_
                        refine s_len (n := v8.length) F.u_33 rfl (.inr ⟨(fun _ _ h => by cases h), ⟨_, rfl⟩⟩) ?_
                        refine s_move (d := (sc (.int .i64 0))) rfl ?_
                        refine AWops.nil ?_
                        refine AW.block ?_
                        refine AW.loopw (st0 := ⟨101, (upd 101 (upd 101 (upd 101 (upd 101 (upd 101 (upd 101 (upd 101 (upd 101 (upd 101 topF 1 (sc (.int .i64 a1))) 2 (D.one (C.ref 0 0))) 3 (D.one (C.ref 1 0))) 59 (D.one (C.own 2 0 (([a0.Entry, a0.Exit] : List (List api_Sentry)).length) 1))) 60 (sc (.int .i64 (([a0.Entry, a0.Exit] : List (List api_Sentry)).length : Int)))) 61 (sc (.int .i64 x6))) 65 (D.one (C.p false (.sl v8.length (v8.flatMap e_api_Sentry))))) 66 (sc (.int .i64 (v8.length : Int)))) 67 (sc (.int .i64 0))), [(some (AObj.cells false [(C.p true (.v (.int .i64 (IntKind.i64.wrap (p0 - (IntKind.i64.wrap (1 + (IntKind.i64.wrap (Int.tdiv (IntKind.i64.wrap ((a0.Entry.length : Int) + (a0.Exit.length : Int))) 4)))))))))])), (some (AObj.cells true (c_api_Item a0))), (some (AObj.cells true (rowC (e_sl e_api_Sentry) ([a0.Entry, a0.Exit] : List (List api_Sentry)))))]⟩) (fun kv st => kv ≤ ql0 ∧ ∃ (x10 : Int), dossierplain_item.l1 kv x10 a0 a1 p0 x6 v8 = some r ∧ st = ⟨101, (upd 101 (upd 101 (upd 101 (upd 101 (upd 101 (upd 101 (upd 101 (upd 101 (upd 101 topF 1 (sc (.int .i64 a1))) 2 (D.one (C.ref 0 0))) 3 (D.one (C.ref 1 0))) 59 (D.one (C.own 2 0 (([a0.Entry, a0.Exit] : List (List api_Sentry)).length) 1))) 60 (sc (.int .i64 (([a0.Entry, a0.Exit] : List (List api_Sentry)).length : Int)))) 61 (sc (.int .i64 x6))) 65 (D.one (C.p false (.sl v8.length (v8.flatMap e_api_Sentry))))) 66 (sc (.int .i64 (v8.length : Int)))) 67 (sc (.int .i64 x10))), [(some (AObj.cells false [(C.p true (.v (.int .i64 (IntKind.i64.wrap (p0 - (IntKind.i64.wrap (1 + (IntKind.i64.wrap (Int.tdiv (IntKind.i64.wrap ((a0.Entry.length : Int) + (a0.Exit.length : Int))) 4)))))))))])), (some (AObj.cells true (c_api_Item a0))), (some (AObj.cells true (rowC (e_sl e_api_Sentry) ([a0.Entry, a0.Exit] : List (List api_Sentry)))))]⟩) (k := ql0) (Weak.gen (kk := 1) [0, 1, 2] [] hx rfl (by decide) (by decide) rfl rfl rfl (le_upd (le_upd (le_upd (le_upd (le_upd (le_upd (le_upd (le_upd (le_upd (le_top _) (.t (.one .sc))) (.t (.one (.ref rfl)))) (.t (.one (.ref rfl)))) (.t (.one (.own rfl)))) (.t (.one .sc))) (.t (.one .sc))) (.t (.one .same))) (.t (.one .sc))) (.t (.one .sc))) (All2.cons (.cells (fun h => h) (All2.cons .sc All2.nil)) (All2.cons (.cells (fun h => h) (All2.cons .sc (All2.cons .sc (All2.cons .sc (All2.cons .same (All2.cons .same (All2.cons .sc (All2.cons .sc (All2.cons .sc (All2.cons .sc (All2.cons .sc (All2.cons .sc (All2.cons .same (All2.cons .same (All2.cons .same All2.nil))))))))))))))) (All2.cons (.cells (fun h => h) (all2_row _)) All2.nil)))) ⟨Nat.le_refl _, 0, h, rfl⟩ ?_
                        rintro ql1 st ⟨hkl1, x10, h, rfl⟩
                        cases ql1 with
                        | zero => exact absurd h (by simp [dossierplain_item.l1])
                        | succ ql1 =>
                          replace h := (dossierplain_item.l1.eq_2 _ _ _ _ _ _ _).symm.trans h
                          refine AW.seq ?_
                          refine AW.region ?_
                          refine s_binI (v := (.bool (decide (x10 < (v8.length : Int))))) rfl rfl rfl ?_
                          refine AWops.nil ?_
                          refine AW.seq ?_
                          by_cases c11 : (decide (x10 < (v8.length : Int))) = true
                          · replace h := (if_pos c11).symm.trans h
                            refine AW.cond_yes rfl c11 ?_
                            refine AW.skip ?_
                            refine AW.seq ?_
                            refine AW.block ?_
                            refine AW.seq ?_
                            refine AW.region ?_
                            obtain ⟨v12, ev12, h⟩ := Option.bind_eq_some_iff.mp h
                            obtain ⟨pv12, qv12, gv12⟩ := rd_some ev12
                            refine s_indexImm (ps := (p_api_Sentry v12)) F.u_33 F.sz_83 rfl rfl pv12 qv12 (flat_at e_api_Sentry_len gv12 (e_api_Sentry_eq v12)) ?_
                            refine s_loadN (ds := (c_api_Sentry v12)) F.ag_83 F.sz_83 rfl rfl rfl ?_
                            refine s_alloc (cs := [(C.p true (.v (.slice none 0 0))), (C.p true (.v (.string (⟨#[]⟩ : ByteArray))))]) F.z_83 rfl rfl ?_
                            refine s_store (cs' := (c_api_Sentry v12)) rfl rfl rfl (List.cons_ne_nil _ _) rfl F.sz_83 (Nat.le_of_ble_eq_true rfl) rfl ?_
                            refine AWops.nil ?_
                            refine AW.seq ?_
                            refine AW.region ?_
                            refine s_fieldRef F.fo_83_0 (by decide) rfl ?_
                            refine s_load1 (c' := (C.p false (.sl v12.On.length (v12.On.flatMap e_api_OnPart)))) F.ag_81 rfl rfl ?_
                            refine s_len (n := v12.On.length) F.u_81 rfl (.inr ⟨(fun _ _ h => by cases h), ⟨_, rfl⟩⟩) ?_
                            refine s_binI (v := (.bool (decide ((v12.On.length : Int) > 20)))) rfl rfl rfl ?_
                            refine AWops.nil ?_
                            by_cases c13 : (decide ((v12.On.length : Int) > 20)) = true
                            · replace h := (if_pos c13).symm.trans h
                              refine AW.cond_yes rfl c13 ?_
                              refine AW.seq ?_
                              refine AW.region ?_
                              refine s_assign (d := (sc (.bool false))) rfl ?_
                              refine AWops.nil ?_
                              refine AW.ret ?_
                              obtain rfl := Option.some.inj h
                              exact ⟨_, rfl, (Weak.gen (kk := 1) [0] [] rfl rfl (by decide) (by decide) rfl rfl rfl (le_upd (le_top _) (.t (.one .sc))) (All2.cons (.cells (fun h => h) (All2.cons .sc All2.nil)) All2.nil))⟩
                            · replace h := (if_neg c13).symm.trans h
                              replace c13 := Bool.eq_false_iff.mpr c13
                              refine AW.cond_no rfl c13 ?_
                              refine AW.skip ?_
                              refine AW.region ?_
                              refine s_binI (v := (.int .i64 (IntKind.i64.wrap (x10 + 1)))) rfl rfl rfl ?_
                              refine s_move (d := (sc (.int .i64 (IntKind.i64.wrap (x10 + 1))))) rfl ?_
                              refine AWops.nil ?_
                              exact ⟨_, ⟨101, (upd 101 (upd 101 (upd 101 (upd 101 (upd 101 (upd 101 (upd 101 (upd 101 (upd 101 topF 1 (sc (.int .i64 a1))) 2 (D.one (C.ref 0 0))) 3 (D.one (C.ref 1 0))) 59 (D.one (C.own 2 0 (([a0.Entry, a0.Exit] : List (List api_Sentry)).length) 1))) 60 (sc (.int .i64 (([a0.Entry, a0.Exit] : List (List api_Sentry)).length : Int)))) 61 (sc (.int .i64 x6))) 65 (D.one (C.p false (.sl v8.length (v8.flatMap e_api_Sentry))))) 66 (sc (.int .i64 (v8.length : Int)))) 67 (sc (.int .i64 (IntKind.i64.wrap (x10 + 1))))), [(some (AObj.cells false [(C.p true (.v (.int .i64 (IntKind.i64.wrap (p0 - (IntKind.i64.wrap (1 + (IntKind.i64.wrap (Int.tdiv (IntKind.i64.wrap ((a0.Entry.length : Int) + (a0.Exit.length : Int))) 4)))))))))])), (some (AObj.cells true (c_api_Item a0))), (some (AObj.cells true (rowC (e_sl e_api_Sentry) ([a0.Entry, a0.Exit] : List (List api_Sentry)))))]⟩, by omega, (Weak.gen (kk := 1) [0, 1, 2] [] hx rfl (by decide) (by decide) rfl rfl rfl (le_upd (le_upd (le_upd (le_upd (le_upd (le_upd (le_upd (le_upd (le_upd (le_top _) (.t (.one .sc))) (.t (.one (.ref rfl)))) (.t (.one (.ref rfl)))) (.t (.one (.own rfl)))) (.t (.one .sc))) (.t (.one .sc))) (.t (.one .same))) (.t (.one .sc))) (.t (.one .sc))) (All2.cons (.cells (fun h => h) (All2.cons .sc All2.nil)) (All2.cons (.cells (fun h => h) (All2.cons .sc (All2.cons .sc (All2.cons .sc (All2.cons .same (All2.cons .same (All2.cons .sc (All2.cons .sc (All2.cons .sc (All2.cons .sc (All2.cons .sc (All2.cons .sc (All2.cons .same (All2.cons .same (All2.cons .same All2.nil))))))))))))))) (All2.cons (.cells (fun h => h) (all2_row _)) All2.nil)))), by omega, IntKind.i64.wrap (x10 + 1), h, rfl⟩
                          · replace h := (if_neg c11).symm.trans h
                            replace c11 := Bool.eq_false_iff.mpr c11
                            refine AW.cond_no rfl c11 ?_
                            refine AW.exit ?_
                            refine AW.region ?_
                            refine s_binI (v := (.int .i64 (IntKind.i64.wrap (x6 + 1)))) rfl rfl rfl ?_
                            refine s_move (d := (sc (.int .i64 (IntKind.i64.wrap (x6 + 1))))) rfl ?_
                            refine AWops.nil ?_
                            exact ⟨_, ⟨101, (upd 101 (upd 101 (upd 101 (upd 101 (upd 101 (upd 101 topF 1 (sc (.int .i64 a1))) 2 (D.one (C.ref 0 0))) 3 (D.one (C.ref 1 0))) 59 (D.one (C.own 2 0 (([a0.Entry, a0.Exit] : List (List api_Sentry)).length) 1))) 60 (sc (.int .i64 (([a0.Entry, a0.Exit] : List (List api_Sentry)).length : Int)))) 61 (sc (.int .i64 (IntKind.i64.wrap (x6 + 1))))), [(some (AObj.cells false [(C.p true (.v (.int .i64 (IntKind.i64.wrap (p0 - (IntKind.i64.wrap (1 + (IntKind.i64.wrap (Int.tdiv (IntKind.i64.wrap ((a0.Entry.length : Int) + (a0.Exit.length : Int))) 4)))))))))])), (some (AObj.cells true (c_api_Item a0))), (some (AObj.cells true (rowC (e_sl e_api_Sentry) ([a0.Entry, a0.Exit] : List (List api_Sentry)))))]⟩, by omega, (Weak.gen (kk := 1) [0, 1, 2] [] hx rfl (by decide) (by decide) rfl rfl rfl (le_upd (le_upd (le_upd (le_upd (le_upd (le_upd (le_top _) (.t (.one .sc))) (.t (.one (.ref rfl)))) (.t (.one (.ref rfl)))) (.t (.one (.own rfl)))) (.t (.one .sc))) (.t (.one .sc))) (All2.cons (.cells (fun h => h) (All2.cons .sc All2.nil)) (All2.cons (.cells (fun h => h) (All2.cons .sc (All2.cons .sc (All2.cons .sc (All2.cons .same (All2.cons .same (All2.cons .sc (All2.cons .sc (All2.cons .sc (All2.cons .sc (All2.cons .sc (All2.cons .sc (All2.cons .same (All2.cons .same (All2.cons .same All2.nil))))))))))))))) (All2.cons (.cells (fun h => h) (all2_row _)) All2.nil)))), by omega, IntKind.i64.wrap (x6 + 1), h, rfl⟩
                      · replace h := (if_neg c7).symm.trans h
                        replace c7 := Bool.eq_false_iff.mpr c7
                        refine AW.cond_no rfl c7 ?_
                        refine AW.exit ?_
                        refine AW.seq ?_
                        refine AW.seq ?_
                        refine AW.region ?_
                        refine s_fieldRef F.fo_36_12 (by decide) rfl ?_
                        refine s_load1 (c' := (C.p false (.sl a0.Kids.length (a0.Kids.flatMap e_api_Item)))) F.ag_34 rfl rfl ?_
                        refine s_fieldRef F.fo_36_13 (by decide) rfl ?_
                        refine s_load1 (c' := (C.p false (.sl a0.Table.length (a0.Table.flatMap e_api_Item)))) F.ag_34 rfl rfl ?_
                        refine s_buildSlice (n := 2) (ps := [(0, (D.one (C.p false (.sl a0.Kids.length (a0.Kids.flatMap e_api_Item))))), (1, (D.one (C.p false (.sl a0.Table.length (a0.Table.flatMap e_api_Item)))))]) (cs := rowC (e_sl e_api_Item) ([a0.Kids, a0.Table] : List (List api_Item))) F.u_84 F.sz_34 F.z_34 rfl rfl (by decide) (by decide) rfl rfl ?_
                        refine s_len (n := ([a0.Kids, a0.Table] : List (List api_Item)).length) F.u_84 rfl (.inr ⟨(fun _ _ h => by cases h), ⟨_, rfl⟩⟩) ?_
                        refine s_move (d := (sc (.int .i64 0))) rfl ?_
                        refine AWops.nil ?_
                        refine AW.block ?_
                        refine AW.loopw (st0 := ⟨101, (upd 101 (upd 101 (upd 101 (upd 101 (upd 101 topF 1 (sc (.int .i64 a1))) 2 (D.one (C.ref 0 0))) 81 (D.one (C.own 1 0 (([a0.Kids, a0.Table] : List (List api_Item)).length) 1))) 82 (sc (.int .i64 (([a0.Kids, a0.Table] : List (List api_Item)).length : Int)))) 83 (sc (.int .i64 0))), [(some (AObj.cells false [(C.p true (.v (.int .i64 (IntKind.i64.wrap (p0 - (IntKind.i64.wrap (1 + (IntKind.i64.wrap (Int.tdiv (IntKind.i64.wrap ((a0.Entry.length : Int) + (a0.Exit.length : Int))) 4)))))))))])), (some (AObj.cells true (rowC (e_sl e_api_Item) ([a0.Kids, a0.Table] : List (List api_Item)))))]⟩) (fun kv st => kv ≤ ql0 ∧ ∃ (x14 : Int) (x15 : Int), dossierplain_item.l2 kv x14 x15 a0 a1 = some r ∧ st = ⟨101, (upd 101 (upd 101 (upd 101 (upd 101 (upd 101 topF 1 (sc (.int .i64 a1))) 2 (D.one (C.ref 0 0))) 81 (D.one (C.own 1 0 (([a0.Kids, a0.Table] : List (List api_Item)).length) 1))) 82 (sc (.int .i64 (([a0.Kids, a0.Table] : List (List api_Item)).length : Int)))) 83 (sc (.int .i64 x15))), [(some (AObj.cells false [(C.p true (.v (.int .i64 x14)))])), (some (AObj.cells true (rowC (e_sl e_api_Item) ([a0.Kids, a0.Table] : List (List api_Item)))))]⟩) (k := ql0) (Weak.gen (kk := 1) [0, 3] [] hx rfl (by decide) (by decide) rfl rfl rfl (le_upd (le_upd (le_upd (le_upd (le_upd (le_top _) (.t (.one .sc))) (.t (.one (.ref rfl)))) (.t (.one (.own rfl)))) (.t (.one .sc))) (.t (.one .sc))) (All2.cons (.cells (fun h => h) (All2.cons .sc All2.nil)) (All2.cons (.cells (fun h => h) (all2_row _)) All2.nil))) ⟨Nat.le_refl _, IntKind.i64.wrap (p0 - (IntKind.i64.wrap (1 + (IntKind.i64.wrap (Int.tdiv (IntKind.i64.wrap ((a0.Entry.length : Int) + (a0.Exit.length : Int))) 4))))), 0, h, rfl⟩ ?_
                        rintro ql2 st ⟨hkl2, x14, x15, h, rfl⟩
                        cases ql2 with
                        | zero => exact absurd h (by simp [dossierplain_item.l2])
                        | succ ql2 =>
                          replace h := (dossierplain_item.l2.eq_2 _ _ _ _ _).symm.trans h
                          refine AW.seq ?_
                          refine AW.region ?_
                          refine s_binI (v := (.bool (decide (x15 < (([a0.Kids, a0.Table] : List (List api_Item)).length : Int))))) rfl rfl rfl ?_
                          refine AWops.nil ?_
                          refine AW.seq ?_
                          by_cases c16 : (decide (x15 < (([a0.Kids, a0.Table] : List (List api_Item)).length : Int))) = true
                          · replace h := (if_pos c16).symm.trans h
                            refine AW.cond_yes rfl c16 ?_
                            refine AW.skip ?_
                            refine AW.seq ?_
                            refine AW.block ?_
                            refine AW.seq ?_
                            refine AW.region ?_
                            obtain ⟨v17, ev17, h⟩ := Option.bind_eq_some_iff.mp h
                            obtain ⟨pv17, qv17, gv17⟩ := rd_some ev17
                            refine s_indexOwn (d := (D.one (C.ref 1 (0 + x15.toNat * 1)))) F.u_84 F.sz_34 rfl rfl pv17 qv17 rfl ?_
                            obtain ⟨R18, hR18⟩ := row_at (f := (e_sl e_api_Item)) (sz := 1) (o := 0) (e_sl_len _) gv17 (e_sl_eq _ v17) (by decide)
                            refine s_load1 (c' := (C.p false (.sl v17.length (v17.flatMap e_api_Item)))) F.ag_34 (congrArg some hR18) rfl ?_
                            refine s_assign (d := (D.one (C.p false (.sl v17.length (v17.flatMap e_api_Item))))) rfl ?_
                            refine AWops.nil ?_
                            refine AW.seq ?_
                            refine AW.region ?_
                            refine s_move (d := (D.one (C.p false (.sl v17.length (v17.flatMap e_api_Item))))) rfl ?_
                            refine s_len (n := v17.length) F.u_34 rfl (.inr ⟨(fun _ _ h => by cases h), ⟨_, rfl⟩⟩) ?_
                            refine s_move (d := (sc (.int .i64 0))) rfl ?_
                            refine AWops.nil ?_
                            refine AW.block ?_
                            refine AW.loopw (st0 := ⟨101, (upd 101 (upd 101 (upd 101 (upd 101 (upd 101 (upd 101 (upd 101 (upd 101 topF 1 (sc (.int .i64 a1))) 2 (D.one (C.ref 0 0))) 81 (D.one (C.own 1 0 (([a0.Kids, a0.Table] : List (List api_Item)).length) 1))) 82 (sc (.int .i64 (([a0.Kids, a0.Table] : List (List api_Item)).length : Int)))) 83 (sc (.int .i64 x15))) 87 (D.one (C.p false (.sl v17.length (v17.flatMap e_api_Item))))) 88 (sc (.int .i64 (v17.length : Int)))) 89 (sc (.int .i64 0))), [(some (AObj.cells false [(C.p true (.v (.int .i64 x14)))])), (some (AObj.cells true (rowC (e_sl e_api_Item) ([a0.Kids, a0.Table] : List (List api_Item)))))]⟩) (fun kv st => kv ≤ ql2 ∧ ∃ (x19 : Int) (x20 : Int), dossierplain_item.l3 kv x19 x20 a0 a1 x15 v17 = some r ∧ st = ⟨101, (upd 101 (upd 101 (upd 101 (upd 101 (upd 101 (upd 101 (upd 101 (upd 101 topF 1 (sc (.int .i64 a1))) 2 (D.one (C.ref 0 0))) 81 (D.one (C.own 1 0 (([a0.Kids, a0.Table] : List (List api_Item)).length) 1))) 82 (sc (.int .i64 (([a0.Kids, a0.Table] : List (List api_Item)).length : Int)))) 83 (sc (.int .i64 x15))) 87 (D.one (C.p false (.sl v17.length (v17.flatMap e_api_Item))))) 88 (sc (.int .i64 (v17.length : Int)))) 89 (sc (.int .i64 x20))), [(some (AObj.cells false [(C.p true (.v (.int .i64 x19)))])), (some (AObj.cells true (rowC (e_sl e_api_Item) ([a0.Kids, a0.Table] : List (List api_Item)))))]⟩) (k := ql2) (Weak.gen (kk := 1) [0, 1] [] hx rfl (by decide) (by decide) rfl rfl rfl (le_upd (le_upd (le_upd (le_upd (le_upd (le_upd (le_upd (le_upd (le_top _) (.t (.one .sc))) (.t (.one (.ref rfl)))) (.t (.one (.own rfl)))) (.t (.one .sc))) (.t (.one .sc))) (.t (.one .same))) (.t (.one .sc))) (.t (.one .sc))) (All2.cons (.cells (fun h => h) (All2.cons .sc All2.nil)) (All2.cons (.cells (fun h => h) (all2_row _)) All2.nil))) ⟨Nat.le_refl _, x14, 0, h, rfl⟩ ?_
                            rintro ql3 st ⟨hkl3, x19, x20, h, rfl⟩
                            cases ql3 with
                            | zero => exact absurd h (by simp [dossierplain_item.l3])
                            | succ ql3 =>
                              replace h := (dossierplain_item.l3.eq_2 _ _ _ _ _ _ _).symm.trans h
                              refine AW.seq ?_
                              refine AW.region ?_
                              refine s_binI (v := (.bool (decide (x20 < (v17.length : Int))))) rfl rfl rfl ?_
                              refine AWops.nil ?_
                              refine AW.seq ?_
                              by_cases c21 : (decide (x20 < (v17.length : Int))) = true
                              · replace h := (if_pos c21).symm.trans h
                                refine AW.cond_yes rfl c21 ?_
                                refine AW.skip ?_
                                refine AW.seq ?_
                                refine AW.block ?_
                                refine AW.seq ?_
                                refine AW.region ?_
                                obtain ⟨v22, ev22, h⟩ := Option.bind_eq_some_iff.mp h
                                obtain ⟨pv22, qv22, gv22⟩ := rd_some ev22
                                refine s_indexImm (ps := (p_api_Item v22)) F.u_34 F.sz_36 rfl rfl pv22 qv22 (flat_at e_api_Item_len gv22 (e_api_Item_eq v22)) ?_
                                refine s_loadN (ds := (c_api_Item v22)) F.ag_36 F.sz_36 rfl rfl rfl ?_
                                refine s_alloc (cs := [(C.p true (.v (.string (⟨#[]⟩ : ByteArray)))), (C.p true (.v (.string (⟨#[]⟩ : ByteArray)))), (C.p true (.v (.int .i64 0))), (C.p true (.v (.slice none 0 0))), (C.p true (.v (.slice none 0 0))), (C.p true (.v (.string (⟨#[]⟩ : ByteArray)))), (C.p true (.v (.string (⟨#[]⟩ : ByteArray)))), (C.p true (.v (.string (⟨#[]⟩ : ByteArray)))), (C.p true (.v (.bool false))), (C.p true (.v (.bool false))), (C.p true (.v (.int .i64 0))), (C.p true (.v (.slice none 0 0))), (C.p true (.v (.slice none 0 0))), (C.p true (.v (.slice none 0 0)))]) F.z_36 rfl rfl ?_
                                refine s_store (cs' := (c_api_Item v22)) rfl rfl rfl (List.cons_ne_nil _ _) rfl F.sz_36 (Nat.le_of_ble_eq_true rfl) rfl ?_
                                refine AWops.nil ?_
                                refine AW.seq ?_
                                refine AW.region ?_
                                refine s_loadN (ds := (c_api_Item v22)) F.ag_36 F.sz_36 rfl rfl rfl ?_
                                refine s_move (d := (sc (.int .i64 a1))) rfl ?_
                                refine s_binI (v := (.int .i64 (IntKind.i64.wrap (a1 + 1)))) rfl rfl rfl ?_
                                refine s_move (d := (D.one (C.ref 0 0))) rfl ?_
                                obtain ⟨r23, er23, h⟩ := Option.bind_eq_some_iff.mp h
                                refine s_call2 (ρ := [0]) (br := false) (H2 := [(some (AObj.cells false [(C.p true (.v (.int .i64 r23.2)))])), (some (AObj.cells true (rowC (e_sl e_api_Item) ([a0.Kids, a0.Table] : List (List api_Item))))), (some (AObj.cells true (c_api_Item v22)))]) (d := (sc (.bool r23.1))) F.ca_50 rfl rfl (All2.cons (LendT.aggL (All2.cons .sc (All2.cons .sc (All2.cons .sc (All2.cons .imm (All2.cons .imm (All2.cons .sc (All2.cons .sc (All2.cons .sc (All2.cons .sc (All2.cons .sc (All2.cons .sc (All2.cons .imm (All2.cons .imm (All2.cons .imm All2.nil))))))))))))))) (All2.cons (.one .sc) (All2.cons (.one (.ref rfl)) All2.nil))) (All2.cons (.cells (All2.cons .sc All2.nil)) All2.nil) (by decide) rfl (ih _ (by omega) v22 (IntKind.i64.wrap (a1 + 1)) x19 r23 er23) (.inl rfl) rfl rfl ?_
                                refine s_not rfl ?_
                                refine AWops.nil ?_
                                by_cases c24 : r23.1 = true
                                · replace h := (if_pos c24).symm.trans h
                                  refine AW.cond_no rfl (by rw [c24] <;> rfl) ?_
                                  refine AW.skip ?_
                                  refine AW.region ?_
                                  refine s_binI (v := (.int .i64 (IntKind.i64.wrap (x20 + 1)))) rfl rfl rfl ?_
                                  refine s_move (d := (sc (.int .i64 (IntKind.i64.wrap (x20 + 1))))) rfl ?_
                                  refine AWops.nil ?_
                                  exact ⟨_, ⟨101, (upd 101 (upd 101 (upd 101 (upd 101 (upd 101 (upd 101 (upd 101 (upd 101 topF 1 (sc (.int .i64 a1))) 2 (D.one (C.ref 0 0))) 81 (D.one (C.own 1 0 (([a0.Kids, a0.Table] : List (List api_Item)).length) 1))) 82 (sc (.int .i64 (([a0.Kids, a0.Table] : List (List api_Item)).length : Int)))) 83 (sc (.int .i64 x15))) 87 (D.one (C.p false (.sl v17.length (v17.flatMap e_api_Item))))) 88 (sc (.int .i64 (v17.length : Int)))) 89 (sc (.int .i64 (IntKind.i64.wrap (x20 + 1))))), [(some (AObj.cells false [(C.p true (.v (.int .i64 r23.2)))])), (some (AObj.cells true (rowC (e_sl e_api_Item) ([a0.Kids, a0.Table] : List (List api_Item)))))]⟩, by omega, (Weak.gen (kk := 1) [0, 1] [] hx rfl (by decide) (by decide) rfl rfl rfl (le_upd (le_upd (le_upd (le_upd (le_upd (le_upd (le_upd (le_upd (le_top _) (.t (.one .sc))) (.t (.one (.ref rfl)))) (.t (.one (.own rfl)))) (.t (.one .sc))) (.t (.one .sc))) (.t (.one .same))) (.t (.one .sc))) (.t (.one .sc))) (All2.cons (.cells (fun h => h) (All2.cons .sc All2.nil)) (All2.cons (.cells (fun h => h) (all2_row _)) All2.nil))), by omega, r23.2, IntKind.i64.wrap (x20 + 1), h, rfl⟩
                                · replace h := (if_neg c24).symm.trans h
                                  replace c24 := Bool.eq_false_iff.mpr c24
                                  refine AW.cond_yes rfl (by rw [c24] <;> rfl) ?_
                                  refine AW.seq ?_
                                  refine AW.region ?_
                                  refine s_assign (d := (sc (.bool false))) rfl ?_
                                  refine AWops.nil ?_
                                  refine AW.ret ?_
                                  obtain rfl := Option.some.inj h
                                  exact ⟨_, rfl, (Weak.gen (kk := 1) [0] [] rfl rfl (by decide) (by decide) rfl rfl rfl (le_upd (le_top _) (.t (.one .sc))) (All2.cons (.cells (fun h => h) (All2.cons .sc All2.nil)) All2.nil))⟩
                              · replace h := (if_neg c21).symm.trans h
                                replace c21 := Bool.eq_false_iff.mpr c21
                                refine AW.cond_no rfl c21 ?_
                                refine AW.exit ?_
                                refine AW.region ?_
                                refine s_binI (v := (.int .i64 (IntKind.i64.wrap (x15 + 1)))) rfl rfl rfl ?_
                                refine s_move (d := (sc (.int .i64 (IntKind.i64.wrap (x15 + 1))))) rfl ?_
                                refine AWops.nil ?_
                                exact ⟨_, ⟨101, (upd 101 (upd 101 (upd 101 (upd 101 (upd 101 topF 1 (sc (.int .i64 a1))) 2 (D.one (C.ref 0 0))) 81 (D.one (C.own 1 0 (([a0.Kids, a0.Table] : List (List api_Item)).length) 1))) 82 (sc (.int .i64 (([a0.Kids, a0.Table] : List (List api_Item)).length : Int)))) 83 (sc (.int .i64 (IntKind.i64.wrap (x15 + 1))))), [(some (AObj.cells false [(C.p true (.v (.int .i64 x19)))])), (some (AObj.cells true (rowC (e_sl e_api_Item) ([a0.Kids, a0.Table] : List (List api_Item)))))]⟩, by omega, (Weak.gen (kk := 1) [0, 1] [] hx rfl (by decide) (by decide) rfl rfl rfl (le_upd (le_upd (le_upd (le_upd (le_upd (le_top _) (.t (.one .sc))) (.t (.one (.ref rfl)))) (.t (.one (.own rfl)))) (.t (.one .sc))) (.t (.one .sc))) (All2.cons (.cells (fun h => h) (All2.cons .sc All2.nil)) (All2.cons (.cells (fun h => h) (all2_row _)) All2.nil))), by omega, x19, IntKind.i64.wrap (x15 + 1), h, rfl⟩
                          · replace h := (if_neg c16).symm.trans h
                            replace c16 := Bool.eq_false_iff.mpr c16
                            refine AW.cond_no rfl c16 ?_
                            refine AW.exit ?_
                            refine AW.seq ?_
                            refine AW.region ?_
                            refine s_assign (d := (sc (.bool true))) rfl ?_
                            refine AWops.nil ?_
                            refine AW.ret ?_
                            obtain rfl := Option.some.inj h
                            exact ⟨_, rfl, (Weak.gen (kk := 1) [0] [] rfl rfl (by decide) (by decide) rfl rfl rfl (le_upd (le_top _) (.t (.one .sc))) (All2.cons (.cells (fun h => h) (All2.cons .sc All2.nil)) All2.nil))⟩
def dossierplain_Item.f (k : Nat) (a0 : api_Item) : Option Bool := (dossierplain_item.f k a0 0 260).bind fun r1 => some r1.1
theorem dossierplain_Item.meets (k : Nat) (a0 : api_Item) (r : Bool) (h : dossierplain_Item.f k a0 = some r) : Meets Try.prog 39 [(D.agg (c_api_Item a0))] [] (sc (.bool r)) [] := by
  unfold dossierplain_Item.f at h
  refine Meets.of_body (n := 6) Try.func39 rfl rfl (Nat.le_of_ble_eq_true rfl) fun x hx => ?_
  replace hx : x.k = 0 := hx
  show AW _ x _ _ ⟨6, fr0 [(D.agg (c_api_Item a0))], []⟩
  refine AW.seq ?_
  refine AW.region ?_
  refine s_box (cs := (c_api_Item a0)) rfl (List.cons_ne_nil _ _) rfl ?_
  refine s_assign (d := (sc (.bool false))) rfl ?_
  refine AWops.nil ?_
  refine AW.seq ?_
  refine AW.region ?_
  refine s_alloc (cs := [(C.p true (.v (.int .i64 0)))]) F.z_3 rfl rfl ?_
  refine s_store (cs' := [(C.p true (.v (.int .i64 260)))]) rfl rfl rfl (List.cons_ne_nil _ _) rfl F.sz_3 (Nat.le_of_ble_eq_true rfl) rfl ?_
  refine AWops.nil ?_
  refine AW.seq ?_
  refine AW.region ?_
  refine s_loadN (ds := (c_api_Item a0)) F.ag_36 F.sz_36 rfl rfl rfl ?_
  obtain ⟨r1, er1, h⟩ := Option.bind_eq_some_iff.mp h
  refine s_call2 (ρ := [1]) (br := false) (H2 := [(some (AObj.cells true (c_api_Item a0))), (some (AObj.cells true [(C.p true (.v (.int .i64 r1.2)))]))]) (d := (sc (.bool r1.1))) F.ca_50 rfl rfl (All2.cons (LendT.aggL (All2.cons .sc (All2.cons .sc (All2.cons .sc (All2.cons .imm (All2.cons .imm (All2.cons .sc (All2.cons .sc (All2.cons .sc (All2.cons .sc (All2.cons .sc (All2.cons .sc (All2.cons .imm (All2.cons .imm (All2.cons .imm All2.nil))))))))))))))) (All2.cons (.one .sc) (All2.cons (.one (.ref rfl)) All2.nil))) (All2.cons (.cells (All2.cons .sc All2.nil)) All2.nil) (by decide) rfl (dossierplain_item.meets _ a0 0 260 r1 er1) (.inl rfl) rfl rfl ?_
  refine s_assign (d := (sc (.bool r1.1))) rfl ?_
  refine AWops.nil ?_
  refine AW.ret ?_
  obtain rfl := Option.some.inj h
  exact ⟨_, rfl, (Weak.gen (kk := 0) [] [] rfl rfl (by decide) (by decide) rfl rfl rfl (le_upd (le_top _) (.t (.one .sc))) All2.nil)⟩
mutual
def dossierplain_files.f : Nat → (List api_FileItem) → Int → Int → Option (Bool × Int)
  | 0, _, _, _ => none
  | k + 1, a0, a1, p0 => if (decide (a1 > 40)) = true then (some (false, p0)) else (dossierplain_files.l0 k p0 0 a0 a1)
def dossierplain_files.l0 : Nat → Int → Int → (List api_FileItem) → Int → Option (Bool × Int)
  | 0, _, _, _, _ => none
  | k + 1, x2, x3, a0, a1 => if (decide (x3 < (a0.length : Int))) = true then ((rd a0 x3).bind fun v5 => if (decide ((IntKind.i64.wrap (x2 - 1)) < 0)) = true then (some (false, IntKind.i64.wrap (x2 - 1))) else (if (decide ((v5.Refs.length : Int) > 20)) = true then (some (false, IntKind.i64.wrap (x2 - 1))) else ((dossierplain_files.f k v5.Kids (IntKind.i64.wrap (a1 + 1)) (IntKind.i64.wrap (x2 - 1))).bind fun r8 => if r8.1 = true then (dossierplain_files.l0 k r8.2 (IntKind.i64.wrap (x3 + 1)) a0 a1) else (some (false, r8.2))))) else (some (true, x2))
end
theorem dossierplain_files.meets (k : Nat) : ∀ (a0 : List api_FileItem) (a1 : Int) (p0 : Int) (r : Bool × Int), dossierplain_files.f k a0 a1 p0 = some r → Meets Try.prog 51 [(D.one (C.p false (.sl a0.length (a0.flatMap e_api_FileItem)))), (sc (.int .i64 a1)), (D.one (C.ref 0 0))] [(some (AObj.cells false [(C.p true (.v (.int .i64 p0)))]))] (sc (.bool r.1)) [(some (AObj.cells false [(C.p true (.v (.int .i64 r.2)))]))] := by
  induction k using Nat.strongRecOn with
  | _ k ih =>
    cases k with
    | zero =>
      · intro a0 a1 p0 r h; exact absurd h (by simp [dossierplain_files.f])
    | succ k =>
      · intro a0 a1 p0 r h
        replace h := (dossierplain_files.f.eq_2 _ _ _ _).symm.trans h
        refine Meets.of_body (n := 42) Try.func51 rfl rfl (Nat.le_of_ble_eq_true rfl) fun x hx => ?_
        replace hx : x.k = 1 := hx
        show AW _ x _ _ ⟨42, fr0 [(D.one (C.p false (.sl a0.length (a0.flatMap e_api_FileItem)))), (sc (.int .i64 a1)), (D.one (C.ref 0 0))], [(some (AObj.cells false [(C.p true (.v (.int .i64 p0)))]))]⟩
        refine AW.seq ?_
        refine AW.region ?_
        refine s_assign (d := (sc (.bool false))) rfl ?_
        refine AWops.nil ?_
        refine AW.seq ?_
        refine AW.seq ?_
        refine AW.region ?_
        refine s_move (d := (sc (.int .i64 a1))) rfl ?_
        refine s_binI (v := (.bool (decide (a1 > 40)))) rfl rfl rfl ?_
        refine AWops.nil ?_
        by_cases c1 : (decide (a1 > 40)) = true
        · replace h := (if_pos c1).symm.trans h
          refine AW.cond_yes rfl c1 ?_
          refine AW.seq ?_
          refine AW.region ?_
          refine s_assign (d := (sc (.bool false))) rfl ?_
          refine AWops.nil ?_
          refine AW.ret ?_
          obtain rfl := Option.some.inj h
          exact ⟨_, rfl, (Weak.gen (kk := 1) [0] [] rfl rfl (by decide) (by decide) rfl rfl rfl (le_upd (le_top _) (.t (.one .sc))) (All2.cons (.cells (fun h => h) (All2.cons .sc All2.nil)) All2.nil))⟩
        · replace h := (if_neg c1).symm.trans h
          replace c1 := Bool.eq_false_iff.mpr c1
          refine AW.cond_no rfl c1 ?_
          refine AW.skip ?_
          refine AW.seq ?_
          refine AW.seq ?_
          refine AW.region ?_
          refine s_move (d := (D.one (C.p false (.sl a0.length (a0.flatMap e_api_FileItem))))) rfl ?_
          refine s_len (n := a0.length) F.u_32 rfl (.inr ⟨(fun _ _ h => by cases h), ⟨_, rfl⟩⟩) ?_
          refine s_move (d := (sc (.int .i64 0))) rfl ?_
          refine AWops.nil ?_
          refine AW.block ?_
          refine AW.loopw (st0 := ⟨42, (upd 42 (upd 42 (upd 42 (upd 42 (upd 42 topF 1 (sc (.int .i64 a1))) 2 (D.one (C.ref 0 0))) 11 (D.one (C.p false (.sl a0.length (a0.flatMap e_api_FileItem))))) 12 (sc (.int .i64 (a0.length : Int)))) 13 (sc (.int .i64 0))), [(some (AObj.cells false [(C.p true (.v (.int .i64 p0)))]))]⟩) (fun kv st => kv ≤ k ∧ ∃ (x2 : Int) (x3 : Int), dossierplain_files.l0 kv x2 x3 a0 a1 = some r ∧ st = ⟨42, (upd 42 (upd 42 (upd 42 (upd 42 (upd 42 topF 1 (sc (.int .i64 a1))) 2 (D.one (C.ref 0 0))) 11 (D.one (C.p false (.sl a0.length (a0.flatMap e_api_FileItem))))) 12 (sc (.int .i64 (a0.length : Int)))) 13 (sc (.int .i64 x3))), [(some (AObj.cells false [(C.p true (.v (.int .i64 x2)))]))]⟩) (k := k) (Weak.gen (kk := 1) [0] [] hx rfl (by decide) (by decide) rfl rfl rfl (le_upd (le_upd (le_upd (le_upd (le_upd (le_top _) (.t (.one .sc))) (.t (.one (.ref rfl)))) (.t (.one .same))) (.t (.one .sc))) (.t (.one .sc))) (All2.cons (.cells (fun h => h) (All2.cons .sc All2.nil)) All2.nil)) ⟨Nat.le_refl _, p0, 0, h, rfl⟩ ?_
          rintro ql0 st ⟨hkl0, x2, x3, h, rfl⟩
          cases ql0 with
          | zero => exact absurd h (by simp [dossierplain_files.l0])
          | succ ql0 =>
            replace h := (dossierplain_files.l0.eq_2 _ _ _ _ _).symm.trans h
            refine AW.seq ?_
            refine AW.region ?_
            refine s_binI (v := (.bool (decide (x3 < (a0.length : Int))))) rfl rfl rfl ?_
            refine AWops.nil ?_
            refine AW.seq ?_
            by_cases c4 : (decide (x3 < (a0.length : Int))) = true
            · replace h := (if_pos c4).symm.trans h
              refine AW.cond_yes rfl c4 ?_
              refine AW.skip ?_
              refine AW.seq ?_
              refine AW.block ?_
              refine AW.seq ?_
              refine AW.region ?_
              obtain ⟨v5, ev5, h⟩ := Option.bind_eq_some_iff.mp h
              obtain ⟨pv5, qv5, gv5⟩ := rd_some ev5
              refine s_indexImm (ps := (p_api_FileItem v5)) F.u_32 F.sz_86 rfl rfl pv5 qv5 (flat_at e_api_FileItem_len gv5 (e_api_FileItem_eq v5)) ?_
              refine s_loadN (ds := (c_api_FileItem v5)) F.ag_86 F.sz_86 rfl rfl rfl ?_
              refine s_alloc (cs := [(C.p true (.v (.string (⟨#[]⟩ : ByteArray)))), (C.p true (.v (.int .i64 0))), (C.p true (.v (.int .i64 0))), (C.p true (.v (.slice none 0 0))), (C.p true (.v (.slice none 0 0)))]) F.z_86 rfl rfl ?_
              refine s_store (cs' := (c_api_FileItem v5)) rfl rfl rfl (List.cons_ne_nil _ _) rfl F.sz_86 (Nat.le_of_ble_eq_true rfl) rfl ?_
              refine AWops.nil ?_
              refine AW.seq ?_
              refine AW.region ?_
              refine s_move (d := (D.one (C.ref 0 0))) rfl ?_
              refine s_nilCheck (d := (D.one (C.ref 0 0))) rfl (.inl ⟨_, _, rfl⟩) ?_
              refine s_load1 (c' := (C.p true (.v (.int .i64 x2)))) F.ag_3 rfl rfl ?_
              refine s_binI (v := (.int .i64 (IntKind.i64.wrap (x2 - 1)))) rfl rfl rfl ?_
              refine s_nilCheck (d := (D.one (C.ref 0 0))) rfl (.inl ⟨_, _, rfl⟩) ?_
              refine s_store (cs' := [(C.p true (.v (.int .i64 (IntKind.i64.wrap (x2 - 1)))))]) rfl rfl rfl (List.cons_ne_nil _ _) rfl F.sz_3 (Nat.le_of_ble_eq_true rfl) rfl ?_
              refine AWops.nil ?_
              refine AW.seq ?_
              refine AW.region ?_
              refine s_move (d := (D.one (C.ref 0 0))) rfl ?_
              refine s_nilCheck (d := (D.one (C.ref 0 0))) rfl (.inl ⟨_, _, rfl⟩) ?_
              refine s_load1 (c' := (C.p true (.v (.int .i64 (IntKind.i64.wrap (x2 - 1)))))) F.ag_3 rfl rfl ?_
              refine s_binI (v := (.bool (decide ((IntKind.i64.wrap (x2 - 1)) < 0)))) rfl rfl rfl ?_
              refine s_move (d := (sc (.bool (decide ((IntKind.i64.wrap (x2 - 1)) < 0))))) rfl ?_
              by_cases c6 : (decide ((IntKind.i64.wrap (x2 - 1)) < 0)) = true
              · replace h := (if_pos c6).symm.trans h
                refine AWops.guard_no rfl (Nat.le_of_ble_eq_true rfl) rfl c6 ?_
                refine AWops.guard_no rfl (Nat.le_of_ble_eq_true rfl) rfl c6 ?_
                refine AWops.guard_no rfl (Nat.le_of_ble_eq_true rfl) rfl c6 ?_
                refine AWops.guard_no rfl (Nat.le_of_ble_eq_true rfl) rfl c6 ?_
                refine s_pick_yes (d := (sc (.bool true))) rfl c6 rfl ?_
                refine s_move (d := (sc (.bool true))) rfl ?_
                refine AWops.guard_no rfl (Nat.le_of_ble_eq_true rfl) rfl rfl ?_
                refine AWops.guard_no rfl (Nat.le_of_ble_eq_true rfl) rfl rfl ?_
                refine AWops.guard_no rfl (Nat.le_of_ble_eq_true rfl) rfl rfl ?_
                refine AWops.guard_no rfl (Nat.le_of_ble_eq_true rfl) rfl rfl ?_
                refine AWops.guard_no rfl (Nat.le_of_ble_eq_true rfl) rfl rfl ?_
                refine AWops.guard_no rfl (Nat.le_of_ble_eq_true rfl) rfl rfl ?_
                refine AWops.guard_no rfl (Nat.le_of_ble_eq_true rfl) rfl rfl ?_
                refine s_pick_yes (d := (sc (.bool true))) rfl rfl rfl ?_
                refine AWops.nil ?_
                refine AW.cond_yes rfl rfl ?_
                refine AW.seq ?_
                refine AW.region ?_
                refine s_assign (d := (sc (.bool false))) rfl ?_
                refine AWops.nil ?_
                refine AW.ret ?_
                obtain rfl := Option.some.inj h
                exact ⟨_, rfl, (Weak.gen (kk := 1) [0] [] rfl rfl (by decide) (by decide) rfl rfl rfl (le_upd (le_top _) (.t (.one .sc))) (All2.cons (.cells (fun h => h) (All2.cons .sc All2.nil)) All2.nil))⟩
              · replace h := (if_neg c6).symm.trans h
                replace c6 := Bool.eq_false_iff.mpr c6
                refine AWops.guard_yes rfl (Nat.le_of_ble_eq_true rfl) rfl c6 ?_
                refine s_fieldRef F.fo_86_4 (by decide) rfl ?_
                refine AWops.guard_yes rfl (Nat.le_of_ble_eq_true rfl) rfl c6 ?_
                refine s_load1 (c' := (C.p false (.sl v5.Refs.length (v5.Refs.flatMap e_str)))) F.ag_31 rfl rfl ?_
                refine AWops.guard_yes rfl (Nat.le_of_ble_eq_true rfl) rfl c6 ?_
                refine s_len (n := v5.Refs.length) F.u_31 rfl (.inr ⟨(fun _ _ h => by cases h), ⟨_, rfl⟩⟩) ?_
                refine AWops.guard_yes rfl (Nat.le_of_ble_eq_true rfl) rfl c6 ?_
                refine s_binI (v := (.bool (decide ((v5.Refs.length : Int) > 20)))) rfl rfl rfl ?_
                refine s_pick_no (d := (sc (.bool (decide ((v5.Refs.length : Int) > 20))))) rfl c6 rfl ?_
                refine s_move (d := (sc (.bool (decide ((v5.Refs.length : Int) > 20))))) rfl ?_
                by_cases c7 : (decide ((v5.Refs.length : Int) > 20)) = true
                · replace h := (if_pos c7).symm.trans h
                  refine AWops.guard_no rfl (Nat.le_of_ble_eq_true rfl) rfl c7 ?_
                  refine AWops.guard_no rfl (Nat.le_of_ble_eq_true rfl) rfl c7 ?_
                  refine AWops.guard_no rfl (Nat.le_of_ble_eq_true rfl) rfl c7 ?_
                  refine AWops.guard_no rfl (Nat.le_of_ble_eq_true rfl) rfl c7 ?_
                  refine AWops.guard_no rfl (Nat.le_of_ble_eq_true rfl) rfl c7 ?_
                  refine AWops.guard_no rfl (Nat.le_of_ble_eq_true rfl) rfl c7 ?_
                  refine AWops.guard_no rfl (Nat.le_of_ble_eq_true rfl) rfl c7 ?_
                  refine s_pick_yes (d := (sc (.bool true))) rfl c7 rfl ?_
                  refine AWops.nil ?_
                  refine AW.cond_yes rfl rfl ?_
                  refine AW.seq ?_
                  refine AW.region ?_
                  refine s_assign (d := (sc (.bool false))) rfl ?_
                  refine AWops.nil ?_
                  refine AW.ret ?_
                  obtain rfl := Option.some.inj h
                  exact ⟨_, rfl, (Weak.gen (kk := 1) [0] [] rfl rfl (by decide) (by decide) rfl rfl rfl (le_upd (le_top _) (.t (.one .sc))) (All2.cons (.cells (fun h => h) (All2.cons .sc All2.nil)) All2.nil))⟩
                · replace h := (if_neg c7).symm.trans h
                  replace c7 := Bool.eq_false_iff.mpr c7
                  refine AWops.guard_yes rfl (Nat.le_of_ble_eq_true rfl) rfl c7 ?_
                  refine s_fieldRef F.fo_86_3 (by decide) rfl ?_
                  refine AWops.guard_yes rfl (Nat.le_of_ble_eq_true rfl) rfl c7 ?_
                  refine s_load1 (c' := (C.p false (.sl v5.Kids.length (v5.Kids.flatMap e_api_FileItem)))) F.ag_32 rfl rfl ?_
                  refine AWops.guard_yes rfl (Nat.le_of_ble_eq_true rfl) rfl c7 ?_
                  refine s_move (d := (sc (.int .i64 a1))) rfl ?_
                  refine AWops.guard_yes rfl (Nat.le_of_ble_eq_true rfl) rfl c7 ?_
                  refine s_binI (v := (.int .i64 (IntKind.i64.wrap (a1 + 1)))) rfl rfl rfl ?_
                  refine AWops.guard_yes rfl (Nat.le_of_ble_eq_true rfl) rfl c7 ?_
                  refine s_move (d := (D.one (C.ref 0 0))) rfl ?_
                  refine AWops.guard_yes rfl (Nat.le_of_ble_eq_true rfl) rfl c7 ?_
                  obtain ⟨r8, er8, h⟩ := Option.bind_eq_some_iff.mp h
                  refine s_call2 (ρ := [0]) (br := false) (H2 := [(some (AObj.cells false [(C.p true (.v (.int .i64 r8.2)))])), (some (AObj.cells true (c_api_FileItem v5)))]) (d := (sc (.bool r8.1))) F.ca_51 rfl rfl (All2.cons (.one .imm) (All2.cons (.one .sc) (All2.cons (.one (.ref rfl)) All2.nil))) (All2.cons (.cells (All2.cons .sc All2.nil)) All2.nil) (by decide) rfl (ih _ (by omega) v5.Kids (IntKind.i64.wrap (a1 + 1)) (IntKind.i64.wrap (x2 - 1)) r8 er8) (.inl rfl) rfl rfl ?_
                  refine AWops.guard_yes rfl (Nat.le_of_ble_eq_true rfl) rfl c7 ?_
                  refine s_not rfl ?_
                  refine s_pick_no (d := (sc (.bool (!r8.1)))) rfl c7 rfl ?_
                  refine AWops.nil ?_
                  by_cases c9 : r8.1 = true
                  · replace h := (if_pos c9).symm.trans h
                    refine AW.cond_no rfl (by rw [c9] <;> rfl) ?_
                    refine AW.skip ?_
                    refine AW.region ?_
                    refine s_binI (v := (.int .i64 (IntKind.i64.wrap (x3 + 1)))) rfl rfl rfl ?_
                    refine s_move (d := (sc (.int .i64 (IntKind.i64.wrap (x3 + 1))))) rfl ?_
                    refine AWops.nil ?_
                    exact ⟨_, ⟨42, (upd 42 (upd 42 (upd 42 (upd 42 (upd 42 topF 1 (sc (.int .i64 a1))) 2 (D.one (C.ref 0 0))) 11 (D.one (C.p false (.sl a0.length (a0.flatMap e_api_FileItem))))) 12 (sc (.int .i64 (a0.length : Int)))) 13 (sc (.int .i64 (IntKind.i64.wrap (x3 + 1))))), [(some (AObj.cells false [(C.p true (.v (.int .i64 r8.2)))]))]⟩, by omega, (Weak.gen (kk := 1) [0] [] hx rfl (by decide) (by decide) rfl rfl rfl (le_upd (le_upd (le_upd (le_upd (le_upd (le_top _) (.t (.one .sc))) (.t (.one (.ref rfl)))) (.t (.one .same))) (.t (.one .sc))) (.t (.one .sc))) (All2.cons (.cells (fun h => h) (All2.cons .sc All2.nil)) All2.nil)), by omega, r8.2, IntKind.i64.wrap (x3 + 1), h, rfl⟩
                  · replace h := (if_neg c9).symm.trans h
                    replace c9 := Bool.eq_false_iff.mpr c9
                    refine AW.cond_yes rfl (by rw [c9] <;> rfl) ?_
                    refine AW.seq ?_
                    refine AW.region ?_
                    refine s_assign (d := (sc (.bool false))) rfl ?_
                    refine AWops.nil ?_
                    refine AW.ret ?_
                    obtain rfl := Option.some.inj h
                    exact ⟨_, rfl, (Weak.gen (kk := 1) [0] [] rfl rfl (by decide) (by decide) rfl rfl rfl (le_upd (le_top _) (.t (.one .sc))) (All2.cons (.cells (fun h => h) (All2.cons .sc All2.nil)) All2.nil))⟩
            · replace h := (if_neg c4).symm.trans h
              replace c4 := Bool.eq_false_iff.mpr c4
              refine AW.cond_no rfl c4 ?_
              refine AW.exit ?_
              refine AW.seq ?_
              refine AW.region ?_
              refine s_assign (d := (sc (.bool true))) rfl ?_
              refine AWops.nil ?_
              refine AW.ret ?_
              obtain rfl := Option.some.inj h
              exact ⟨_, rfl, (Weak.gen (kk := 1) [0] [] rfl rfl (by decide) (by decide) rfl rfl rfl (le_upd (le_top _) (.t (.one .sc))) (All2.cons (.cells (fun h => h) (All2.cons .sc All2.nil)) All2.nil))⟩
def dossierplain_Files.f (k : Nat) (a0 : List api_FileItem) : Option Bool := (dossierplain_files.f k a0 0 120).bind fun r1 => some r1.1
theorem dossierplain_Files.meets (k : Nat) (a0 : List api_FileItem) (r : Bool) (h : dossierplain_Files.f k a0 = some r) : Meets Try.prog 40 [(D.one (C.p false (.sl a0.length (a0.flatMap e_api_FileItem))))] [] (sc (.bool r)) [] := by
  unfold dossierplain_Files.f at h
  refine Meets.of_body (n := 6) Try.func40 rfl rfl (Nat.le_of_ble_eq_true rfl) fun x hx => ?_
  replace hx : x.k = 0 := hx
  show AW _ x _ _ ⟨6, fr0 [(D.one (C.p false (.sl a0.length (a0.flatMap e_api_FileItem))))], []⟩
  refine AW.seq ?_
  refine AW.region ?_
  refine s_assign (d := (sc (.bool false))) rfl ?_
  refine AWops.nil ?_
  refine AW.seq ?_
  refine AW.region ?_
  refine s_alloc (cs := [(C.p true (.v (.int .i64 0)))]) F.z_3 rfl rfl ?_
  refine s_store (cs' := [(C.p true (.v (.int .i64 120)))]) rfl rfl rfl (List.cons_ne_nil _ _) rfl F.sz_3 (Nat.le_of_ble_eq_true rfl) rfl ?_
  refine AWops.nil ?_
  refine AW.seq ?_
  refine AW.region ?_
  refine s_move (d := (D.one (C.p false (.sl a0.length (a0.flatMap e_api_FileItem))))) rfl ?_
  obtain ⟨r1, er1, h⟩ := Option.bind_eq_some_iff.mp h
  refine s_call2 (ρ := [0]) (br := false) (H2 := [(some (AObj.cells true [(C.p true (.v (.int .i64 r1.2)))]))]) (d := (sc (.bool r1.1))) F.ca_51 rfl rfl (All2.cons (.one .imm) (All2.cons (.one .sc) (All2.cons (.one (.ref rfl)) All2.nil))) (All2.cons (.cells (All2.cons .sc All2.nil)) All2.nil) (by decide) rfl (dossierplain_files.meets _ a0 0 120 r1 er1) (.inl rfl) rfl rfl ?_
  refine s_assign (d := (sc (.bool r1.1))) rfl ?_
  refine AWops.nil ?_
  refine AW.ret ?_
  obtain rfl := Option.some.inj h
  exact ⟨_, rfl, (Weak.gen (kk := 0) [] [] rfl rfl (by decide) (by decide) rfl rfl rfl (le_upd (le_top _) (.t (.one .sc))) All2.nil)⟩
def dossierplain_Model.f (k : Nat) (a0 : api_Model) : Option Bool := (dossierplain_Item.f k a0.Plan).bind fun r1 => if r1 = true then ((dossierplain_Files.f k a0.Files).bind fun r3 => if r3 = true then (some (decide ((a0.Roles.length : Int) ≤ 40))) else (some false)) else (some false)
theorem dossierplain_Model.meets (k : Nat) (a0 : api_Model) (r : Bool) (h : dossierplain_Model.f k a0 = some r) : Meets Try.prog 20 [(D.agg (c_api_Model a0))] [] (sc (.bool r)) [] := by
  unfold dossierplain_Model.f at h
  refine Meets.of_body (n := 17) Try.func20 rfl rfl (Nat.le_of_ble_eq_true rfl) fun x hx => ?_
  replace hx : x.k = 0 := hx
  show AW _ x _ _ ⟨17, fr0 [(D.agg (c_api_Model a0))], []⟩
  refine AW.seq ?_
  refine AW.region ?_
  refine s_box (cs := (c_api_Model a0)) rfl (List.cons_ne_nil _ _) rfl ?_
  refine s_assign (d := (sc (.bool false))) rfl ?_
  refine AWops.nil ?_
  refine AW.seq ?_
  refine AW.region ?_
  refine s_fieldRef F.fo_38_4 (by decide) rfl ?_
  refine s_loadN (ds := (c_api_Item a0.Plan)) F.ag_36 F.sz_36 rfl rfl rfl ?_
  obtain ⟨r1, er1, h⟩ := Option.bind_eq_some_iff.mp h
  refine s_call2 (ρ := []) (br := false) (H2 := [(some (AObj.cells true (c_api_Model a0)))]) (d := (sc (.bool r1))) F.ca_39 rfl rfl (All2.cons (LendT.aggL (All2.cons .sc (All2.cons .sc (All2.cons .sc (All2.cons .imm (All2.cons .imm (All2.cons .sc (All2.cons .sc (All2.cons .sc (All2.cons .sc (All2.cons .sc (All2.cons .sc (All2.cons .imm (All2.cons .imm (All2.cons .imm All2.nil))))))))))))))) All2.nil) All2.nil (by decide) rfl (dossierplain_Item.meets _ a0.Plan r1 er1) (.inl rfl) rfl rfl ?_
  refine s_move (d := (sc (.bool r1))) rfl ?_
  by_cases c2 : r1 = true
  · replace h := (if_pos c2).symm.trans h
    refine AWops.guard_yes rfl (Nat.le_of_ble_eq_true rfl) rfl c2 ?_
    refine s_fieldRef F.fo_38_3 (by decide) rfl ?_
    refine AWops.guard_yes rfl (Nat.le_of_ble_eq_true rfl) rfl c2 ?_
    refine s_load1 (c' := (C.p false (.sl a0.Files.length (a0.Files.flatMap e_api_FileItem)))) F.ag_32 rfl rfl ?_
    refine AWops.guard_yes rfl (Nat.le_of_ble_eq_true rfl) rfl c2 ?_
    obtain ⟨r3, er3, h⟩ := Option.bind_eq_some_iff.mp h
    refine s_call2 (ρ := []) (br := false) (H2 := [(some (AObj.cells true (c_api_Model a0)))]) (d := (sc (.bool r3))) F.ca_40 rfl rfl (All2.cons (.one .imm) All2.nil) All2.nil (by decide) rfl (dossierplain_Files.meets _ a0.Files r3 er3) (.inl rfl) rfl rfl ?_
    refine s_pick_yes (d := (sc (.bool r3))) rfl c2 rfl ?_
    refine s_move (d := (sc (.bool r3))) rfl ?_
    by_cases c4 : r3 = true
    · replace h := (if_pos c4).symm.trans h
      refine AWops.guard_yes rfl (Nat.le_of_ble_eq_true rfl) rfl c4 ?_
      refine s_fieldRef F.fo_38_2 (by decide) rfl ?_
      refine AWops.guard_yes rfl (Nat.le_of_ble_eq_true rfl) rfl c4 ?_
      refine s_load1 (c' := (C.p false (.sl a0.Roles.length (a0.Roles.flatMap e_str)))) F.ag_31 rfl rfl ?_
      refine AWops.guard_yes rfl (Nat.le_of_ble_eq_true rfl) rfl c4 ?_
      refine s_len (n := a0.Roles.length) F.u_31 rfl (.inr ⟨(fun _ _ h => by cases h), ⟨_, rfl⟩⟩) ?_
      refine AWops.guard_yes rfl (Nat.le_of_ble_eq_true rfl) rfl c4 ?_
      refine s_binI (v := (.bool (decide ((a0.Roles.length : Int) ≤ 40)))) rfl rfl rfl ?_
      refine s_pick_yes (d := (sc (.bool (decide ((a0.Roles.length : Int) ≤ 40))))) rfl c4 rfl ?_
      refine s_assign (d := (sc (.bool (decide ((a0.Roles.length : Int) ≤ 40))))) rfl ?_
      refine AWops.nil ?_
      refine AW.ret ?_
      obtain rfl := Option.some.inj h
      exact ⟨_, rfl, (Weak.gen (kk := 0) [] [] rfl rfl (by decide) (by decide) rfl rfl rfl (le_upd (le_top _) (.t (.one .sc))) All2.nil)⟩
    · replace h := (if_neg c4).symm.trans h
      replace c4 := Bool.eq_false_iff.mpr c4
      refine AWops.guard_no rfl (Nat.le_of_ble_eq_true rfl) rfl c4 ?_
      refine AWops.guard_no rfl (Nat.le_of_ble_eq_true rfl) rfl c4 ?_
      refine AWops.guard_no rfl (Nat.le_of_ble_eq_true rfl) rfl c4 ?_
      refine AWops.guard_no rfl (Nat.le_of_ble_eq_true rfl) rfl c4 ?_
      refine s_pick_no (d := (sc (.bool false))) rfl c4 rfl ?_
      refine s_assign (d := (sc (.bool false))) rfl ?_
      refine AWops.nil ?_
      refine AW.ret ?_
      obtain rfl := Option.some.inj h
      exact ⟨_, rfl, (Weak.gen (kk := 0) [] [] rfl rfl (by decide) (by decide) rfl rfl rfl (le_upd (le_top _) (.t (.one .sc))) All2.nil)⟩
  · replace h := (if_neg c2).symm.trans h
    replace c2 := Bool.eq_false_iff.mpr c2
    refine AWops.guard_no rfl (Nat.le_of_ble_eq_true rfl) rfl c2 ?_
    refine AWops.guard_no rfl (Nat.le_of_ble_eq_true rfl) rfl c2 ?_
    refine AWops.guard_no rfl (Nat.le_of_ble_eq_true rfl) rfl c2 ?_
    refine s_pick_no (d := (sc (.bool false))) rfl c2 rfl ?_
    refine s_move (d := (sc (.bool false))) rfl ?_
    refine AWops.guard_no rfl (Nat.le_of_ble_eq_true rfl) rfl rfl ?_
    refine AWops.guard_no rfl (Nat.le_of_ble_eq_true rfl) rfl rfl ?_
    refine AWops.guard_no rfl (Nat.le_of_ble_eq_true rfl) rfl rfl ?_
    refine AWops.guard_no rfl (Nat.le_of_ble_eq_true rfl) rfl rfl ?_
    refine s_pick_no (d := (sc (.bool false))) rfl rfl rfl ?_
    refine s_assign (d := (sc (.bool false))) rfl ?_
    refine AWops.nil ?_
    refine AW.ret ?_
    obtain rfl := Option.some.inj h
    exact ⟨_, rfl, (Weak.gen (kk := 0) [] [] rfl rfl (by decide) (by decide) rfl rfl rfl (le_upd (le_top _) (.t (.one .sc))) All2.nil)⟩
mutual
def dossierref13_items.f : Nat → api_Item → Option (List api_Item)
  | 0, _ => none
  | k + 1, a0 => dossierref13_items.l0 k ([a0] : List api_Item) 0 a0
def dossierref13_items.l1 : Nat → (List api_Item) → Int → api_Item → Option (List api_Item)
  | 0, _, _, _ => none
  | k + 1, x7, x8, a0 => if (decide (x8 < (a0.Table.length : Int))) = true then ((rd a0.Table x8).bind fun v10 => (dossierref13_items.f k v10).bind fun r11 => if (decide (x7.length + r11.length ≤ 628292358729)) = true then (dossierref13_items.l1 k (x7 ++ r11) (IntKind.i64.wrap (x8 + 1)) a0) else none) else (some x7)
def dossierref13_items.l0 : Nat → (List api_Item) → Int → api_Item → Option (List api_Item)
  | 0, _, _, _ => none
  | k + 1, x1, x2, a0 => if (decide (x2 < (a0.Kids.length : Int))) = true then ((rd a0.Kids x2).bind fun v4 => (dossierref13_items.f k v4).bind fun r5 => if (decide (x1.length + r5.length ≤ 628292358729)) = true then (dossierref13_items.l0 k (x1 ++ r5) (IntKind.i64.wrap (x2 + 1)) a0) else none) else (dossierref13_items.l1 k x1 0 a0)
end
theorem dossierref13_items.meets (k : Nat) : ∀ (a0 : api_Item) (r : (List api_Item)), dossierref13_items.f k a0 = some r → Meets Try.prog 52 [(D.agg (c_api_Item a0))] [] (D.one (C.own 0 0 r.length 14)) [(some (AObj.cells true (rowC e_api_Item r)))] := by
  induction k using Nat.strongRecOn with
  | _ k ih =>
    cases k with
    | zero =>
      · intro a0 r h; exact absurd h (by simp [dossierref13_items.f])
    | succ k =>
      · intro a0 r h
        replace h := (dossierref13_items.f.eq_2 _ _).symm.trans h
        refine Meets.of_body (n := 35) Try.func52 rfl rfl (Nat.le_of_ble_eq_true rfl) fun x hx => ?_
        replace hx : x.k = 0 := hx
        show AW _ x _ _ ⟨35, fr0 [(D.agg (c_api_Item a0))], []⟩
        refine AW.seq ?_
        refine AW.region ?_
        refine s_box (cs := (c_api_Item a0)) rfl (List.cons_ne_nil _ _) rfl ?_
        refine s_assign (d := (sc (.slice none 0 0))) rfl ?_
        refine AWops.nil ?_
        refine AW.seq ?_
        refine AW.region ?_
        refine s_loadN (ds := (c_api_Item a0)) F.ag_36 F.sz_36 rfl rfl rfl ?_
        refine s_buildSlice (n := 1) (ps := [(0, (D.agg (c_api_Item a0)))]) (cs := rowC e_api_Item ([a0] : List api_Item)) F.u_34 F.sz_36 F.z_36 rfl rfl (by decide) (by decide) rfl (by simp only [rowC, List.flatMap_cons, List.flatMap_nil, List.append_nil, List.cons_append, List.nil_append, List.map_cons, List.map_nil, e_api_Item_eq]; rfl) ?_
        refine s_assign (d := (D.one (C.own 1 0 (([a0] : List api_Item).length) 14))) rfl ?_
        refine AWops.nil ?_
        refine AW.seq ?_
        refine AW.seq ?_
        refine AW.region ?_
        refine s_fieldRef F.fo_36_12 (by decide) rfl ?_
        refine s_load1 (c' := (C.p false (.sl a0.Kids.length (a0.Kids.flatMap e_api_Item)))) F.ag_34 rfl rfl ?_
        refine s_len (n := a0.Kids.length) F.u_34 rfl (.inr ⟨(fun _ _ h => by cases h), ⟨_, rfl⟩⟩) ?_
        refine s_move (d := (sc (.int .i64 0))) rfl ?_
        refine AWops.nil ?_
        refine AW.block ?_
        refine AW.loopw (st0 := ⟨35, (upd 35 (upd 35 (upd 35 (upd 35 (upd 35 topF 1 (D.one (C.ref 0 0))) 3 (D.one (C.own 1 0 ([a0] : List api_Item).length 14))) 11 (D.one (C.p false (.sl a0.Kids.length (a0.Kids.flatMap e_api_Item))))) 12 (sc (.int .i64 (a0.Kids.length : Int)))) 13 (sc (.int .i64 0))), [(some (AObj.cells true (c_api_Item a0))), (some (AObj.cells true (rowC e_api_Item ([a0] : List api_Item))))]⟩) (fun kv st => kv ≤ k ∧ ∃ (x1 : List api_Item) (x2 : Int), dossierref13_items.l0 kv x1 x2 a0 = some r ∧ st = ⟨35, (upd 35 (upd 35 (upd 35 (upd 35 (upd 35 topF 1 (D.one (C.ref 0 0))) 3 (D.one (C.own 1 0 x1.length 14))) 11 (D.one (C.p false (.sl a0.Kids.length (a0.Kids.flatMap e_api_Item))))) 12 (sc (.int .i64 (a0.Kids.length : Int)))) 13 (sc (.int .i64 x2))), [(some (AObj.cells true (c_api_Item a0))), (some (AObj.cells true (rowC e_api_Item x1)))]⟩) (k := k) (Weak.gen (kk := 0) [0, 1] [] hx rfl (by decide) (by decide) rfl rfl rfl (le_upd (le_upd (le_upd (le_upd (le_upd (le_top _) (.t (.one (.ref rfl)))) (.t (.one (.own rfl)))) (.t (.one .same))) (.t (.one .sc))) (.t (.one .sc))) (All2.cons (.cells (fun h => h) (All2.cons .sc (All2.cons .sc (All2.cons .sc (All2.cons .same (All2.cons .same (All2.cons .sc (All2.cons .sc (All2.cons .sc (All2.cons .sc (All2.cons .sc (All2.cons .sc (All2.cons .same (All2.cons .same (All2.cons .same All2.nil))))))))))))))) (All2.cons (.cells (fun h => h) (all2_row _)) All2.nil))) ⟨Nat.le_refl _, ([a0] : List api_Item), 0, h, rfl⟩ ?_
        rintro ql0 st ⟨hkl0, x1, x2, h, rfl⟩
        cases ql0 with
        | zero => exact absurd h (by simp [dossierref13_items.l0])
        | succ ql0 =>
          replace h := (dossierref13_items.l0.eq_2 _ _ _ _).symm.trans h
          refine AW.seq ?_
          refine AW.region ?_
          refine s_binI (v := (.bool (decide (x2 < (a0.Kids.length : Int))))) rfl rfl rfl ?_
          refine AWops.nil ?_
          refine AW.seq ?_
          by_cases c3 : (decide (x2 < (a0.Kids.length : Int))) = true
          · replace h := (if_pos c3).symm.trans h
            refine AW.cond_yes rfl c3 ?_
            refine AW.skip ?_
            refine AW.seq ?_
            refine AW.block ?_
            refine AW.seq ?_
            refine AW.region ?_
            obtain ⟨v4, ev4, h⟩ := Option.bind_eq_some_iff.mp h
            obtain ⟨pv4, qv4, gv4⟩ := rd_some ev4
            refine s_indexImm (ps := (p_api_Item v4)) F.u_34 F.sz_36 rfl rfl pv4 qv4 (flat_at e_api_Item_len gv4 (e_api_Item_eq v4)) ?_
            refine s_loadN (ds := (c_api_Item v4)) F.ag_36 F.sz_36 rfl rfl rfl ?_
            refine s_alloc (cs := [(C.p true (.v (.string (⟨#[]⟩ : ByteArray)))), (C.p true (.v (.string (⟨#[]⟩ : ByteArray)))), (C.p true (.v (.int .i64 0))), (C.p true (.v (.slice none 0 0))), (C.p true (.v (.slice none 0 0))), (C.p true (.v (.string (⟨#[]⟩ : ByteArray)))), (C.p true (.v (.string (⟨#[]⟩ : ByteArray)))), (C.p true (.v (.string (⟨#[]⟩ : ByteArray)))), (C.p true (.v (.bool false))), (C.p true (.v (.bool false))), (C.p true (.v (.int .i64 0))), (C.p true (.v (.slice none 0 0))), (C.p true (.v (.slice none 0 0))), (C.p true (.v (.slice none 0 0)))]) F.z_36 rfl rfl ?_
            refine s_store (cs' := (c_api_Item v4)) rfl rfl rfl (List.cons_ne_nil _ _) rfl F.sz_36 (Nat.le_of_ble_eq_true rfl) rfl ?_
            refine AWops.nil ?_
            refine AW.region ?_
            refine s_move (d := (D.one (C.own 1 0 x1.length 14))) rfl ?_
            refine s_loadN (ds := (c_api_Item v4)) F.ag_36 F.sz_36 rfl rfl rfl ?_
            obtain ⟨r5, er5, h⟩ := Option.bind_eq_some_iff.mp h
            refine s_call2 (ρ := []) (br := false) (H2 := [(some (AObj.cells true (c_api_Item a0))), (some (AObj.cells true (rowC e_api_Item x1))), (some (AObj.cells true (c_api_Item v4))), (some (AObj.cells true (rowC e_api_Item r5)))]) (d := (D.one (C.own 3 0 r5.length 14))) F.ca_52 rfl rfl (All2.cons (LendT.aggL (All2.cons .sc (All2.cons .sc (All2.cons .sc (All2.cons .imm (All2.cons .imm (All2.cons .sc (All2.cons .sc (All2.cons .sc (All2.cons .sc (All2.cons .sc (All2.cons .sc (All2.cons .imm (All2.cons .imm (All2.cons .imm All2.nil))))))))))))))) All2.nil) All2.nil (by decide) rfl (ih _ (by omega) v4 r5 er5) (.inl rfl) (by first | rfl | (simp only [mergeH2, orF, Bool.false_or, Bool.or_false, Bool.true_or, Bool.or_true, mergeAt, mergeObj, renO, ren_row, List.drop_succ_cons, List.drop_zero, List.map_cons, List.map_nil, Option.map_some, Option.map_none, List.length_cons, List.length_nil, Nat.zero_add, List.append_assoc, List.cons_append, List.nil_append]; done) | (simp only [mergeH2, orF, Bool.false_or, Bool.or_false, Bool.true_or, Bool.or_true, mergeAt, mergeObj, renO, ren_row, List.drop_succ_cons, List.drop_zero, List.map_cons, List.map_nil, Option.map_some, Option.map_none, List.length_cons, List.length_nil, Nat.zero_add, List.append_assoc, List.cons_append, List.nil_append]; rfl)) rfl ?_
            by_cases c6 : (decide (x1.length + r5.length ≤ 628292358729)) = true
            · replace h := (if_pos c6).symm.trans h
              have dc6 := of_decide_eq_true c6
              refine t_append (xs := x1) (ys := r5) (zs := x1 ++ r5) (H' := [(some (AObj.cells true (c_api_Item a0))), none, (some (AObj.cells true (c_api_Item v4))), (some (AObj.cells true (rowC e_api_Item r5))), (some (AObj.cells true (rowC e_api_Item (x1 ++ r5))))]) F.u_34 F.in_36 rfl e_api_Item_len (.own rfl rfl) (.own rfl rfl) F.u_34 (by omega) (by omega) rfl rfl ?_
              refine s_assign (d := (D.one (C.own 4 0 ((x1 ++ r5).length) 14))) rfl ?_
              refine AWops.nil ?_
              refine AW.region ?_
              refine s_binI (v := (.int .i64 (IntKind.i64.wrap (x2 + 1)))) rfl rfl rfl ?_
              refine s_move (d := (sc (.int .i64 (IntKind.i64.wrap (x2 + 1))))) rfl ?_
              refine AWops.nil ?_
              exact ⟨_, ⟨35, (upd 35 (upd 35 (upd 35 (upd 35 (upd 35 topF 1 (D.one (C.ref 0 0))) 3 (D.one (C.own 1 0 (x1 ++ r5).length 14))) 11 (D.one (C.p false (.sl a0.Kids.length (a0.Kids.flatMap e_api_Item))))) 12 (sc (.int .i64 (a0.Kids.length : Int)))) 13 (sc (.int .i64 (IntKind.i64.wrap (x2 + 1))))), [(some (AObj.cells true (c_api_Item a0))), (some (AObj.cells true (rowC e_api_Item (x1 ++ r5))))]⟩, by omega, (Weak.gen (kk := 0) [0, 4] [] hx rfl (by decide) (by decide) rfl rfl rfl (le_upd (le_upd (le_upd (le_upd (le_upd (le_top _) (.t (.one (.ref rfl)))) (.t (.one (.own rfl)))) (.t (.one .same))) (.t (.one .sc))) (.t (.one .sc))) (All2.cons (.cells (fun h => h) (All2.cons .sc (All2.cons .sc (All2.cons .sc (All2.cons .same (All2.cons .same (All2.cons .sc (All2.cons .sc (All2.cons .sc (All2.cons .sc (All2.cons .sc (All2.cons .sc (All2.cons .same (All2.cons .same (All2.cons .same All2.nil))))))))))))))) (All2.cons (.cells (fun h => h) (all2_row _)) All2.nil))), by omega, x1 ++ r5, IntKind.i64.wrap (x2 + 1), h, rfl⟩
            · replace h := (if_neg c6).symm.trans h
              cases h
          · replace h := (if_neg c3).symm.trans h
            replace c3 := Bool.eq_false_iff.mpr c3
            refine AW.cond_no rfl c3 ?_
            refine AW.exit ?_
            refine AW.seq ?_
            refine AW.seq ?_
            refine AW.region ?_
            refine s_fieldRef F.fo_36_13 (by decide) rfl ?_
            refine s_load1 (c' := (C.p false (.sl a0.Table.length (a0.Table.flatMap e_api_Item)))) F.ag_34 rfl rfl ?_
            refine s_len (n := a0.Table.length) F.u_34 rfl (.inr ⟨(fun _ _ h => by cases h), ⟨_, rfl⟩⟩) ?_
            refine s_move (d := (sc (.int .i64 0))) rfl ?_
            refine AWops.nil ?_
            refine AW.block ?_
            refine AW.loopw (st0 := ⟨35, (upd 35 (upd 35 (upd 35 (upd 35 topF 3 (D.one (C.own 0 0 x1.length 14))) 23 (D.one (C.p false (.sl a0.Table.length (a0.Table.flatMap e_api_Item))))) 24 (sc (.int .i64 (a0.Table.length : Int)))) 25 (sc (.int .i64 0))), [(some (AObj.cells true (rowC e_api_Item x1)))]⟩) (fun kv st => kv ≤ ql0 ∧ ∃ (x7 : List api_Item) (x8 : Int), dossierref13_items.l1 kv x7 x8 a0 = some r ∧ st = ⟨35, (upd 35 (upd 35 (upd 35 (upd 35 topF 3 (D.one (C.own 0 0 x7.length 14))) 23 (D.one (C.p false (.sl a0.Table.length (a0.Table.flatMap e_api_Item))))) 24 (sc (.int .i64 (a0.Table.length : Int)))) 25 (sc (.int .i64 x8))), [(some (AObj.cells true (rowC e_api_Item x7)))]⟩) (k := ql0) (Weak.gen (kk := 0) [1] [] hx rfl (by decide) (by decide) rfl rfl rfl (le_upd (le_upd (le_upd (le_upd (le_top _) (.t (.one (.own rfl)))) (.t (.one .same))) (.t (.one .sc))) (.t (.one .sc))) (All2.cons (.cells (fun h => h) (all2_row _)) All2.nil)) ⟨Nat.le_refl _, x1, 0, h, rfl⟩ ?_
            rintro ql1 st ⟨hkl1, x7, x8, h, rfl⟩
            cases ql1 with
            | zero => exact absurd h (by simp [dossierref13_items.l1])
            | succ ql1 =>
              replace h := (dossierref13_items.l1.eq_2 _ _ _ _).symm.trans h
              refine AW.seq ?_
              refine AW.region ?_
              refine s_binI (v := (.bool (decide (x8 < (a0.Table.length : Int))))) rfl rfl rfl ?_
              refine AWops.nil ?_
              refine AW.seq ?_
              by_cases c9 : (decide (x8 < (a0.Table.length : Int))) = true
              · replace h := (if_pos c9).symm.trans h
                refine AW.cond_yes rfl c9 ?_
                refine AW.skip ?_
                refine AW.seq ?_
                refine AW.block ?_
                refine AW.seq ?_
                refine AW.region ?_
                obtain ⟨v10, ev10, h⟩ := Option.bind_eq_some_iff.mp h
                obtain ⟨pv10, qv10, gv10⟩ := rd_some ev10
                refine s_indexImm (ps := (p_api_Item v10)) F.u_34 F.sz_36 rfl rfl pv10 qv10 (flat_at e_api_Item_len gv10 (e_api_Item_eq v10)) ?_
                refine s_loadN (ds := (c_api_Item v10)) F.ag_36 F.sz_36 rfl rfl rfl ?_
                refine s_alloc (cs := [(C.p true (.v (.string (⟨#[]⟩ : ByteArray)))), (C.p true (.v (.string (⟨#[]⟩ : ByteArray)))), (C.p true (.v (.int .i64 0))), (C.p true (.v (.slice none 0 0))), (C.p true (.v (.slice none 0 0))), (C.p true (.v (.string (⟨#[]⟩ : ByteArray)))), (C.p true (.v (.string (⟨#[]⟩ : ByteArray)))), (C.p true (.v (.string (⟨#[]⟩ : ByteArray)))), (C.p true (.v (.bool false))), (C.p true (.v (.bool false))), (C.p true (.v (.int .i64 0))), (C.p true (.v (.slice none 0 0))), (C.p true (.v (.slice none 0 0))), (C.p true (.v (.slice none 0 0)))]) F.z_36 rfl rfl ?_
                refine s_store (cs' := (c_api_Item v10)) rfl rfl rfl (List.cons_ne_nil _ _) rfl F.sz_36 (Nat.le_of_ble_eq_true rfl) rfl ?_
                refine AWops.nil ?_
                refine AW.region ?_
                refine s_move (d := (D.one (C.own 0 0 x7.length 14))) rfl ?_
                refine s_loadN (ds := (c_api_Item v10)) F.ag_36 F.sz_36 rfl rfl rfl ?_
                obtain ⟨r11, er11, h⟩ := Option.bind_eq_some_iff.mp h
                refine s_call2 (ρ := []) (br := false) (H2 := [(some (AObj.cells true (rowC e_api_Item x7))), (some (AObj.cells true (c_api_Item v10))), (some (AObj.cells true (rowC e_api_Item r11)))]) (d := (D.one (C.own 2 0 r11.length 14))) F.ca_52 rfl rfl (All2.cons (LendT.aggL (All2.cons .sc (All2.cons .sc (All2.cons .sc (All2.cons .imm (All2.cons .imm (All2.cons .sc (All2.cons .sc (All2.cons .sc (All2.cons .sc (All2.cons .sc (All2.cons .sc (All2.cons .imm (All2.cons .imm (All2.cons .imm All2.nil))))))))))))))) All2.nil) All2.nil (by decide) rfl (ih _ (by omega) v10 r11 er11) (.inl rfl) (by first | rfl | (simp only [mergeH2, orF, Bool.false_or, Bool.or_false, Bool.true_or, Bool.or_true, mergeAt, mergeObj, renO, ren_row, List.drop_succ_cons, List.drop_zero, List.map_cons, List.map_nil, Option.map_some, Option.map_none, List.length_cons, List.length_nil, Nat.zero_add, List.append_assoc, List.cons_append, List.nil_append]; done) | (simp only [mergeH2, orF, Bool.false_or, Bool.or_false, Bool.true_or, Bool.or_true, mergeAt, mergeObj, renO, ren_row, List.drop_succ_cons, List.drop_zero, List.map_cons, List.map_nil, Option.map_some, Option.map_none, List.length_cons, List.length_nil, Nat.zero_add, List.append_assoc, List.cons_append, List.nil_append]; rfl)) rfl ?_
                by_cases c12 : (decide (x7.length + r11.length ≤ 628292358729)) = true
                · replace h := (if_pos c12).symm.trans h
                  have dc12 := of_decide_eq_true c12
                  refine t_append (xs := x7) (ys := r11) (zs := x7 ++ r11) (H' := [none, (some (AObj.cells true (c_api_Item v10))), (some (AObj.cells true (rowC e_api_Item r11))), (some (AObj.cells true (rowC e_api_Item (x7 ++ r11))))]) F.u_34 F.in_36 rfl e_api_Item_len (.own rfl rfl) (.own rfl rfl) F.u_34 (by omega) (by omega) rfl rfl ?_
                  refine s_assign (d := (D.one (C.own 3 0 ((x7 ++ r11).length) 14))) rfl ?_
                  refine AWops.nil ?_
                  refine AW.region ?_
                  refine s_binI (v := (.int .i64 (IntKind.i64.wrap (x8 + 1)))) rfl rfl rfl ?_
                  refine s_move (d := (sc (.int .i64 (IntKind.i64.wrap (x8 + 1))))) rfl ?_
                  refine AWops.nil ?_
                  exact ⟨_, ⟨35, (upd 35 (upd 35 (upd 35 (upd 35 topF 3 (D.one (C.own 0 0 (x7 ++ r11).length 14))) 23 (D.one (C.p false (.sl a0.Table.length (a0.Table.flatMap e_api_Item))))) 24 (sc (.int .i64 (a0.Table.length : Int)))) 25 (sc (.int .i64 (IntKind.i64.wrap (x8 + 1))))), [(some (AObj.cells true (rowC e_api_Item (x7 ++ r11))))]⟩, by omega, (Weak.gen (kk := 0) [3] [] hx rfl (by decide) (by decide) rfl rfl rfl (le_upd (le_upd (le_upd (le_upd (le_top _) (.t (.one (.own rfl)))) (.t (.one .same))) (.t (.one .sc))) (.t (.one .sc))) (All2.cons (.cells (fun h => h) (all2_row _)) All2.nil)), by omega, x7 ++ r11, IntKind.i64.wrap (x8 + 1), h, rfl⟩
                · replace h := (if_neg c12).symm.trans h
                  cases h
              · replace h := (if_neg c9).symm.trans h
                replace c9 := Bool.eq_false_iff.mpr c9
                refine AW.cond_no rfl c9 ?_
                refine AW.exit ?_
                refine AW.seq ?_
                refine AW.region ?_
                refine s_move (d := (D.one (C.own 0 0 x7.length 14))) rfl ?_
                refine s_assign (d := (D.one (C.own 0 0 x7.length 14))) rfl ?_
                refine AWops.nil ?_
                refine AW.ret ?_
                obtain rfl := Option.some.inj h
                exact ⟨_, rfl, (Weak.gen (kk := 0) [0] [] rfl rfl (by decide) (by decide) rfl rfl rfl (le_upd (le_top _) (.t (.one (.own rfl)))) (All2.cons (.cells (fun h => h) (all2_row _)) All2.nil))⟩
def dossierref13_Items.f (k : Nat) (a0 : api_Model) : Option (List api_Item) := (dossierref13_items.f k a0.Plan).bind fun r1 => some r1
theorem dossierref13_Items.meets (k : Nat) (a0 : api_Model) (r : (List api_Item)) (h : dossierref13_Items.f k a0 = some r) : Meets Try.prog 41 [(D.agg (c_api_Model a0))] [] (D.one (C.own 0 0 r.length 14)) [(some (AObj.cells true (rowC e_api_Item r)))] := by
  unfold dossierref13_Items.f at h
  refine Meets.of_body (n := 6) Try.func41 rfl rfl (Nat.le_of_ble_eq_true rfl) fun x hx => ?_
  replace hx : x.k = 0 := hx
  show AW _ x _ _ ⟨6, fr0 [(D.agg (c_api_Model a0))], []⟩
  refine AW.seq ?_
  refine AW.region ?_
  refine s_box (cs := (c_api_Model a0)) rfl (List.cons_ne_nil _ _) rfl ?_
  refine s_assign (d := (sc (.slice none 0 0))) rfl ?_
  refine AWops.nil ?_
  refine AW.seq ?_
  refine AW.region ?_
  refine s_fieldRef F.fo_38_4 (by decide) rfl ?_
  refine s_loadN (ds := (c_api_Item a0.Plan)) F.ag_36 F.sz_36 rfl rfl rfl ?_
  obtain ⟨r1, er1, h⟩ := Option.bind_eq_some_iff.mp h
  refine s_call2 (ρ := []) (br := false) (H2 := [(some (AObj.cells true (c_api_Model a0))), (some (AObj.cells true (rowC e_api_Item r1)))]) (d := (D.one (C.own 1 0 r1.length 14))) F.ca_52 rfl rfl (All2.cons (LendT.aggL (All2.cons .sc (All2.cons .sc (All2.cons .sc (All2.cons .imm (All2.cons .imm (All2.cons .sc (All2.cons .sc (All2.cons .sc (All2.cons .sc (All2.cons .sc (All2.cons .sc (All2.cons .imm (All2.cons .imm (All2.cons .imm All2.nil))))))))))))))) All2.nil) All2.nil (by decide) rfl (dossierref13_items.meets _ a0.Plan r1 er1) (.inl rfl) (by first | rfl | (simp only [mergeH2, orF, Bool.false_or, Bool.or_false, Bool.true_or, Bool.or_true, mergeAt, mergeObj, renO, ren_row, List.drop_succ_cons, List.drop_zero, List.map_cons, List.map_nil, Option.map_some, Option.map_none, List.length_cons, List.length_nil, Nat.zero_add, List.append_assoc, List.cons_append, List.nil_append]; done) | (simp only [mergeH2, orF, Bool.false_or, Bool.or_false, Bool.true_or, Bool.or_true, mergeAt, mergeObj, renO, ren_row, List.drop_succ_cons, List.drop_zero, List.map_cons, List.map_nil, Option.map_some, Option.map_none, List.length_cons, List.length_nil, Nat.zero_add, List.append_assoc, List.cons_append, List.nil_append]; rfl)) rfl ?_
  refine s_assign (d := (D.one (C.own 1 0 r1.length 14))) rfl ?_
  refine AWops.nil ?_
  refine AW.ret ?_
  obtain rfl := Option.some.inj h
  exact ⟨_, rfl, (Weak.gen (kk := 0) [1] [] rfl rfl (by decide) (by decide) rfl rfl rfl (le_upd (le_top _) (.t (.one (.own rfl)))) (All2.cons (.cells (fun h => h) (all2_row _)) All2.nil))⟩
mutual
def dossierref13_Find.l0 : Nat → Int → ByteArray → (List api_Item) → Option (api_Item × Bool)
  | 0, _, _, _ => none
  | k + 1, x2, a1, r1 => if (decide (x2 < (r1.length : Int))) = true then ((rd r1 x2).bind fun v4 => if (v4.ID.toList == a1.toList) = true then (some (v4, true)) else (dossierref13_Find.l0 k (IntKind.i64.wrap (x2 + 1)) a1 r1)) else (some ((⟨(⟨#[]⟩ : ByteArray), (⟨#[]⟩ : ByteArray), 0, ([] : List api_Sentry), ([] : List api_Sentry), (⟨#[]⟩ : ByteArray), (⟨#[]⟩ : ByteArray), (⟨#[]⟩ : ByteArray), false, false, 0, ([] : List ByteArray), ([] : List api_Item), ([] : List api_Item)⟩ : api_Item), false))
end
def dossierref13_Find.f (k : Nat) (a0 : api_Model) (a1 : ByteArray) : Option (api_Item × Bool) := (dossierref13_Items.f k a0).bind fun r1 => dossierref13_Find.l0 k 0 a1 r1
theorem dossierref13_Find.meets (k : Nat) (a0 : api_Model) (a1 : ByteArray) (r : api_Item × Bool) (h : dossierref13_Find.f k a0 a1 = some r) : Meets Try.prog 22 [(D.agg (c_api_Model a0)), (sc (.string a1))] [] (D.tup [(D.agg (c_api_Item r.1)), (sc (.bool r.2))]) [] := by
  unfold dossierref13_Find.f at h
  refine Meets.of_body (n := 22) Try.func22 rfl rfl (Nat.le_of_ble_eq_true rfl) fun x hx => ?_
  replace hx : x.k = 0 := hx
  show AW _ x _ _ ⟨22, fr0 [(D.agg (c_api_Model a0)), (sc (.string a1))], []⟩
  refine AW.seq ?_
  refine AW.region ?_
  refine s_box (cs := (c_api_Model a0)) rfl (List.cons_ne_nil _ _) rfl ?_
  refine s_alloc (cs := [(C.p true (.v (.string (⟨#[]⟩ : ByteArray)))), (C.p true (.v (.string (⟨#[]⟩ : ByteArray)))), (C.p true (.v (.int .i64 0))), (C.p true (.v (.slice none 0 0))), (C.p true (.v (.slice none 0 0))), (C.p true (.v (.string (⟨#[]⟩ : ByteArray)))), (C.p true (.v (.string (⟨#[]⟩ : ByteArray)))), (C.p true (.v (.string (⟨#[]⟩ : ByteArray)))), (C.p true (.v (.bool false))), (C.p true (.v (.bool false))), (C.p true (.v (.int .i64 0))), (C.p true (.v (.slice none 0 0))), (C.p true (.v (.slice none 0 0))), (C.p true (.v (.slice none 0 0)))]) F.z_36 rfl rfl ?_
  refine s_assign (d := (sc (.bool false))) rfl ?_
  refine AWops.nil ?_
  refine AW.seq ?_
  refine AW.seq ?_
  refine AW.region ?_
  refine s_loadN (ds := (c_api_Model a0)) F.ag_38 F.sz_38 rfl rfl rfl ?_
  obtain ⟨r1, er1, h⟩ := Option.bind_eq_some_iff.mp h
  refine s_call2 (ρ := []) (br := false) (H2 := [(some (AObj.cells true (c_api_Model a0))), (some (AObj.cells true [(C.p true (.v (.string (⟨#[]⟩ : ByteArray)))), (C.p true (.v (.string (⟨#[]⟩ : ByteArray)))), (C.p true (.v (.int .i64 0))), (C.p true (.v (.slice none 0 0))), (C.p true (.v (.slice none 0 0))), (C.p true (.v (.string (⟨#[]⟩ : ByteArray)))), (C.p true (.v (.string (⟨#[]⟩ : ByteArray)))), (C.p true (.v (.string (⟨#[]⟩ : ByteArray)))), (C.p true (.v (.bool false))), (C.p true (.v (.bool false))), (C.p true (.v (.int .i64 0))), (C.p true (.v (.slice none 0 0))), (C.p true (.v (.slice none 0 0))), (C.p true (.v (.slice none 0 0)))])), (some (AObj.cells true (rowC e_api_Item r1)))]) (d := (D.one (C.own 2 0 r1.length 14))) F.ca_41 rfl rfl (All2.cons (LendT.aggL (All2.cons .sc (All2.cons .sc (All2.cons .imm (All2.cons .imm (All2.cons .sc (All2.cons .sc (All2.cons .sc (All2.cons .imm (All2.cons .imm (All2.cons .sc (All2.cons .sc (All2.cons .sc (All2.cons .sc (All2.cons .sc (All2.cons .sc (All2.cons .imm (All2.cons .imm (All2.cons .imm All2.nil))))))))))))))))))) All2.nil) All2.nil (by decide) rfl (dossierref13_Items.meets _ a0 r1 er1) (.inl rfl) (by first | rfl | (simp only [mergeH2, orF, Bool.false_or, Bool.or_false, Bool.true_or, Bool.or_true, mergeAt, mergeObj, renO, ren_row, List.drop_succ_cons, List.drop_zero, List.map_cons, List.map_nil, Option.map_some, Option.map_none, List.length_cons, List.length_nil, Nat.zero_add, List.append_assoc, List.cons_append, List.nil_append]; done) | (simp only [mergeH2, orF, Bool.false_or, Bool.or_false, Bool.true_or, Bool.or_true, mergeAt, mergeObj, renO, ren_row, List.drop_succ_cons, List.drop_zero, List.map_cons, List.map_nil, Option.map_some, Option.map_none, List.length_cons, List.length_nil, Nat.zero_add, List.append_assoc, List.cons_append, List.nil_append]; rfl)) rfl ?_
  refine s_len (n := r1.length) F.u_34 rfl (.inr ⟨(fun _ _ h => by cases h), ⟨_, rfl⟩⟩) ?_
  refine s_move (d := (sc (.int .i64 0))) rfl ?_
  refine AWops.nil ?_
  refine AW.block ?_
  refine AW.loopw (st0 := ⟨22, (upd 22 (upd 22 (upd 22 (upd 22 (upd 22 topF 1 (sc (.string a1))) 4 (D.one (C.ref 0 0))) 9 (D.one (C.own 1 0 r1.length 14))) 10 (sc (.int .i64 (r1.length : Int)))) 11 (sc (.int .i64 0))), [(some (AObj.cells true [(C.p true (.v (.string (⟨#[]⟩ : ByteArray)))), (C.p true (.v (.string (⟨#[]⟩ : ByteArray)))), (C.p true (.v (.int .i64 0))), (C.p true (.v (.slice none 0 0))), (C.p true (.v (.slice none 0 0))), (C.p true (.v (.string (⟨#[]⟩ : ByteArray)))), (C.p true (.v (.string (⟨#[]⟩ : ByteArray)))), (C.p true (.v (.string (⟨#[]⟩ : ByteArray)))), (C.p true (.v (.bool false))), (C.p true (.v (.bool false))), (C.p true (.v (.int .i64 0))), (C.p true (.v (.slice none 0 0))), (C.p true (.v (.slice none 0 0))), (C.p true (.v (.slice none 0 0)))])), (some (AObj.cells true (rowC e_api_Item r1)))]⟩) (fun kv st => kv ≤ k ∧ ∃ (x2 : Int), dossierref13_Find.l0 kv x2 a1 r1 = some r ∧ st = ⟨22, (upd 22 (upd 22 (upd 22 (upd 22 (upd 22 topF 1 (sc (.string a1))) 4 (D.one (C.ref 0 0))) 9 (D.one (C.own 1 0 r1.length 14))) 10 (sc (.int .i64 (r1.length : Int)))) 11 (sc (.int .i64 x2))), [(some (AObj.cells true [(C.p true (.v (.string (⟨#[]⟩ : ByteArray)))), (C.p true (.v (.string (⟨#[]⟩ : ByteArray)))), (C.p true (.v (.int .i64 0))), (C.p true (.v (.slice none 0 0))), (C.p true (.v (.slice none 0 0))), (C.p true (.v (.string (⟨#[]⟩ : ByteArray)))), (C.p true (.v (.string (⟨#[]⟩ : ByteArray)))), (C.p true (.v (.string (⟨#[]⟩ : ByteArray)))), (C.p true (.v (.bool false))), (C.p true (.v (.bool false))), (C.p true (.v (.int .i64 0))), (C.p true (.v (.slice none 0 0))), (C.p true (.v (.slice none 0 0))), (C.p true (.v (.slice none 0 0)))])), (some (AObj.cells true (rowC e_api_Item r1)))]⟩) (k := k) (Weak.gen (kk := 0) [1, 2] [] hx rfl (by decide) (by decide) rfl rfl rfl (le_upd (le_upd (le_upd (le_upd (le_upd (le_top _) (.t (.one .sc))) (.t (.one (.ref rfl)))) (.t (.one (.own rfl)))) (.t (.one .sc))) (.t (.one .sc))) (All2.cons (.cells (fun h => h) (All2.cons .sc (All2.cons .sc (All2.cons .sc (All2.cons .sc (All2.cons .sc (All2.cons .sc (All2.cons .sc (All2.cons .sc (All2.cons .sc (All2.cons .sc (All2.cons .sc (All2.cons .sc (All2.cons .sc (All2.cons .sc All2.nil))))))))))))))) (All2.cons (.cells (fun h => h) (all2_row _)) All2.nil))) ⟨Nat.le_refl _, 0, h, rfl⟩ ?_
  rintro ql0 st ⟨hkl0, x2, h, rfl⟩
  cases ql0 with
  | zero => exact absurd h (by simp [dossierref13_Find.l0])
  | succ ql0 =>
    replace h := (dossierref13_Find.l0.eq_2 _ _ _ _).symm.trans h
    refine AW.seq ?_
    refine AW.region ?_
    refine s_binI (v := (.bool (decide (x2 < (r1.length : Int))))) rfl rfl rfl ?_
    refine AWops.nil ?_
    refine AW.seq ?_
    by_cases c3 : (decide (x2 < (r1.length : Int))) = true
    · replace h := (if_pos c3).symm.trans h
      refine AW.cond_yes rfl c3 ?_
      refine AW.skip ?_
      refine AW.seq ?_
      refine AW.block ?_
      refine AW.seq ?_
      refine AW.region ?_
      obtain ⟨v4, ev4, h⟩ := Option.bind_eq_some_iff.mp h
      obtain ⟨pv4, qv4, gv4⟩ := rd_some ev4
      refine s_indexOwn (d := (D.one (C.ref 1 (0 + x2.toNat * 14)))) F.u_34 F.sz_36 rfl rfl pv4 qv4 rfl ?_
      obtain ⟨R5, hR5⟩ := row_at (f := e_api_Item) (sz := 14) (o := 0) e_api_Item_len gv4 (e_api_Item_eq v4) (by decide)
      refine s_loadN (ds := (c_api_Item v4)) F.ag_36 F.sz_36 (congrArg some hR5) rfl rfl ?_
      refine s_alloc (cs := [(C.p true (.v (.string (⟨#[]⟩ : ByteArray)))), (C.p true (.v (.string (⟨#[]⟩ : ByteArray)))), (C.p true (.v (.int .i64 0))), (C.p true (.v (.slice none 0 0))), (C.p true (.v (.slice none 0 0))), (C.p true (.v (.string (⟨#[]⟩ : ByteArray)))), (C.p true (.v (.string (⟨#[]⟩ : ByteArray)))), (C.p true (.v (.string (⟨#[]⟩ : ByteArray)))), (C.p true (.v (.bool false))), (C.p true (.v (.bool false))), (C.p true (.v (.int .i64 0))), (C.p true (.v (.slice none 0 0))), (C.p true (.v (.slice none 0 0))), (C.p true (.v (.slice none 0 0)))]) F.z_36 rfl rfl ?_
      refine s_store (cs' := (c_api_Item v4)) rfl rfl rfl (List.cons_ne_nil _ _) rfl F.sz_36 (Nat.le_of_ble_eq_true rfl) rfl ?_
      refine AWops.nil ?_
      refine AW.seq ?_
      refine AW.region ?_
      refine s_fieldRef F.fo_36_0 (by decide) rfl ?_
      refine s_load1 (c' := (C.p true (.v (.string v4.ID)))) F.ag_9 rfl rfl ?_
      refine s_move (d := (sc (.string a1))) rfl ?_
      refine s_binS (v := (.bool (v4.ID.toList == a1.toList))) rfl rfl rfl ?_
      refine AWops.nil ?_
      by_cases c6 : (v4.ID.toList == a1.toList) = true
      · replace h := (if_pos c6).symm.trans h
        refine AW.cond_yes rfl c6 ?_
        refine AW.seq ?_
        refine AW.region ?_
        refine s_loadN (ds := (c_api_Item v4)) F.ag_36 F.sz_36 rfl rfl rfl ?_
        refine s_store (cs' := (c_api_Item v4)) rfl rfl rfl (List.cons_ne_nil _ _) rfl F.sz_36 (Nat.le_of_ble_eq_true rfl) rfl ?_
        refine s_assign (d := (sc (.bool true))) rfl ?_
        refine AWops.nil ?_
        refine AW.ret ?_
        obtain rfl := Option.some.inj h
        exact ⟨_, rfl, (Weak.gen (kk := 0) [] [] rfl rfl (by decide) (by decide) rfl rfl rfl (le_upd (le_top _) (DLe.tup (All2.cons (TLe.agg (All2.cons .sc (All2.cons .sc (All2.cons .sc (All2.cons .same (All2.cons .same (All2.cons .sc (All2.cons .sc (All2.cons .sc (All2.cons .sc (All2.cons .sc (All2.cons .sc (All2.cons .same (All2.cons .same (All2.cons .same All2.nil))))))))))))))) (All2.cons (TLe.one .sc) All2.nil)))) All2.nil)⟩
      · replace h := (if_neg c6).symm.trans h
        replace c6 := Bool.eq_false_iff.mpr c6
        refine AW.cond_no rfl c6 ?_
        refine AW.skip ?_
        refine AW.region ?_
        refine s_binI (v := (.int .i64 (IntKind.i64.wrap (x2 + 1)))) rfl rfl rfl ?_
        refine s_move (d := (sc (.int .i64 (IntKind.i64.wrap (x2 + 1))))) rfl ?_
        refine AWops.nil ?_
        exact ⟨_, ⟨22, (upd 22 (upd 22 (upd 22 (upd 22 (upd 22 topF 1 (sc (.string a1))) 4 (D.one (C.ref 0 0))) 9 (D.one (C.own 1 0 r1.length 14))) 10 (sc (.int .i64 (r1.length : Int)))) 11 (sc (.int .i64 (IntKind.i64.wrap (x2 + 1))))), [(some (AObj.cells true [(C.p true (.v (.string (⟨#[]⟩ : ByteArray)))), (C.p true (.v (.string (⟨#[]⟩ : ByteArray)))), (C.p true (.v (.int .i64 0))), (C.p true (.v (.slice none 0 0))), (C.p true (.v (.slice none 0 0))), (C.p true (.v (.string (⟨#[]⟩ : ByteArray)))), (C.p true (.v (.string (⟨#[]⟩ : ByteArray)))), (C.p true (.v (.string (⟨#[]⟩ : ByteArray)))), (C.p true (.v (.bool false))), (C.p true (.v (.bool false))), (C.p true (.v (.int .i64 0))), (C.p true (.v (.slice none 0 0))), (C.p true (.v (.slice none 0 0))), (C.p true (.v (.slice none 0 0)))])), (some (AObj.cells true (rowC e_api_Item r1)))]⟩, by omega, (Weak.gen (kk := 0) [0, 1] [] hx rfl (by decide) (by decide) rfl rfl rfl (le_upd (le_upd (le_upd (le_upd (le_upd (le_top _) (.t (.one .sc))) (.t (.one (.ref rfl)))) (.t (.one (.own rfl)))) (.t (.one .sc))) (.t (.one .sc))) (All2.cons (.cells (fun h => h) (All2.cons .sc (All2.cons .sc (All2.cons .sc (All2.cons .sc (All2.cons .sc (All2.cons .sc (All2.cons .sc (All2.cons .sc (All2.cons .sc (All2.cons .sc (All2.cons .sc (All2.cons .sc (All2.cons .sc (All2.cons .sc All2.nil))))))))))))))) (All2.cons (.cells (fun h => h) (all2_row _)) All2.nil))), by omega, IntKind.i64.wrap (x2 + 1), h, rfl⟩
    · replace h := (if_neg c3).symm.trans h
      replace c3 := Bool.eq_false_iff.mpr c3
      refine AW.cond_no rfl c3 ?_
      refine AW.exit ?_
      refine AW.seq ?_
      refine AW.region ?_
      refine s_build (ps := []) (cs := [(C.p true (.v (.string (⟨#[]⟩ : ByteArray)))), (C.p true (.v (.string (⟨#[]⟩ : ByteArray)))), (C.p true (.v (.int .i64 0))), (C.p true (.v (.slice none 0 0))), (C.p true (.v (.slice none 0 0))), (C.p true (.v (.string (⟨#[]⟩ : ByteArray)))), (C.p true (.v (.string (⟨#[]⟩ : ByteArray)))), (C.p true (.v (.string (⟨#[]⟩ : ByteArray)))), (C.p true (.v (.bool false))), (C.p true (.v (.bool false))), (C.p true (.v (.int .i64 0))), (C.p true (.v (.slice none 0 0))), (C.p true (.v (.slice none 0 0))), (C.p true (.v (.slice none 0 0)))]) F.z_36 rfl F.so_36 rfl rfl ?_
      refine s_store (cs' := [(C.p true (.v (.string (⟨#[]⟩ : ByteArray)))), (C.p true (.v (.string (⟨#[]⟩ : ByteArray)))), (C.p true (.v (.int .i64 0))), (C.p true (.v (.slice none 0 0))), (C.p true (.v (.slice none 0 0))), (C.p true (.v (.string (⟨#[]⟩ : ByteArray)))), (C.p true (.v (.string (⟨#[]⟩ : ByteArray)))), (C.p true (.v (.string (⟨#[]⟩ : ByteArray)))), (C.p true (.v (.bool false))), (C.p true (.v (.bool false))), (C.p true (.v (.int .i64 0))), (C.p true (.v (.slice none 0 0))), (C.p true (.v (.slice none 0 0))), (C.p true (.v (.slice none 0 0)))]) rfl rfl rfl (List.cons_ne_nil _ _) rfl F.sz_36 (Nat.le_of_ble_eq_true rfl) rfl ?_
      refine s_assign (d := (sc (.bool false))) rfl ?_
      refine AWops.nil ?_
      refine AW.ret ?_
      obtain rfl := Option.some.inj h
      exact ⟨_, rfl, (Weak.gen (kk := 0) [] [] rfl rfl (by decide) (by decide) rfl rfl rfl (le_upd (le_top _) (DLe.tup (All2.cons (TLe.agg (All2.cons .sc (All2.cons .sc (All2.cons .sc (All2.cons .nil (All2.cons .nil (All2.cons .sc (All2.cons .sc (All2.cons .sc (All2.cons .sc (All2.cons .sc (All2.cons .sc (All2.cons .nil (All2.cons .nil (All2.cons .nil All2.nil))))))))))))))) (All2.cons (TLe.one .sc) All2.nil)))) All2.nil)⟩
def model_look_1_57.f (k : Nat) (a0 : api_Item) (a1 : List ByteArray) (p0 : ByteArray) (p1 : api_Item) (p2 : List ByteArray) (p3 : Bool) : Option (Bool × ByteArray × api_Item × (List ByteArray) × Bool) := if (a0.ID.toList == p0.toList) = true then (some (false, p0, a0, a1, true)) else (some ((!p3), p0, p1, p2, p3))
theorem model_look_1_57.meets (k : Nat) (a0 : api_Item) (a1 : List ByteArray) (p0 : ByteArray) (p1 : api_Item) (p2 : List ByteArray) (p3 : Bool) (r : Bool × ByteArray × api_Item × (List ByteArray) × Bool) (h : model_look_1_57.f k a0 a1 p0 p1 p2 p3 = some r) : Meets Try.prog 57 [(D.agg (c_api_Item a0)), (D.one (C.p false (.sl a1.length (a1.flatMap e_str)))), (D.one (C.ref 0 0)), (D.one (C.ref 1 0)), (D.one (C.ref 2 0)), (D.one (C.ref 3 0))] [(some (AObj.cells false [(C.p true (.v (.string p0)))])), (some (AObj.cells false (c_api_Item p1))), (some (AObj.cells false [(C.p false (.sl p2.length (p2.flatMap e_str)))])), (some (AObj.cells false [(C.p true (.v (.bool p3)))]))] (sc (.bool r.1)) [(some (AObj.cells false [(C.p true (.v (.string r.2.1)))])), (some (AObj.cells false (c_api_Item r.2.2.1))), (some (AObj.cells false [(C.p false (.sl r.2.2.2.1.length (r.2.2.2.1.flatMap e_str)))])), (some (AObj.cells false [(C.p true (.v (.bool r.2.2.2.2)))]))] := by
  unfold model_look_1_57.f at h
  refine Meets.of_body (n := 17) Try.func57 rfl rfl (Nat.le_of_ble_eq_true rfl) fun x hx => ?_
  replace hx : x.k = 4 := hx
  show AW _ x _ _ ⟨17, fr0 [(D.agg (c_api_Item a0)), (D.one (C.p false (.sl a1.length (a1.flatMap e_str)))), (D.one (C.ref 0 0)), (D.one (C.ref 1 0)), (D.one (C.ref 2 0)), (D.one (C.ref 3 0))], [(some (AObj.cells false [(C.p true (.v (.string p0)))])), (some (AObj.cells false (c_api_Item p1))), (some (AObj.cells false [(C.p false (.sl p2.length (p2.flatMap e_str)))])), (some (AObj.cells false [(C.p true (.v (.bool p3)))]))]⟩
  refine AW.seq ?_
  refine AW.region ?_
  refine s_box (cs := (c_api_Item a0)) rfl (List.cons_ne_nil _ _) rfl ?_
  refine s_assign (d := (sc (.bool false))) rfl ?_
  refine AWops.nil ?_
  refine AW.seq ?_
  refine AW.seq ?_
  refine AW.region ?_
  refine s_fieldRef F.fo_36_0 (by decide) rfl ?_
  refine s_load1 (c' := (C.p true (.v (.string a0.ID)))) F.ag_9 rfl rfl ?_
  refine s_load1 (c' := (C.p true (.v (.string p0)))) F.ag_9 rfl rfl ?_
  refine s_binS (v := (.bool (a0.ID.toList == p0.toList))) rfl rfl rfl ?_
  refine AWops.nil ?_
  by_cases c1 : (a0.ID.toList == p0.toList) = true
  · replace h := (if_pos c1).symm.trans h
    refine AW.cond_yes rfl c1 ?_
    refine AW.region ?_
    refine s_loadN (ds := (c_api_Item a0)) F.ag_36 F.sz_36 rfl rfl rfl ?_
    refine s_move (d := (D.one (C.p false (.sl a1.length (a1.flatMap e_str))))) rfl ?_
    refine s_store (cs' := (c_api_Item a0)) rfl rfl rfl (List.cons_ne_nil _ _) rfl F.sz_36 (Nat.le_of_ble_eq_true rfl) rfl ?_
    refine s_store (cs' := [(C.p false (.sl a1.length (a1.flatMap e_str)))]) rfl rfl rfl (List.cons_ne_nil _ _) rfl F.sz_31 (Nat.le_of_ble_eq_true rfl) rfl ?_
    refine s_store (cs' := [(C.p true (.v (.bool true)))]) rfl rfl rfl (List.cons_ne_nil _ _) rfl F.sz_4 (Nat.le_of_ble_eq_true rfl) rfl ?_
    refine AWops.nil ?_
    refine AW.seq ?_
    refine AW.region ?_
    refine s_load1 (c' := (C.p true (.v (.bool true)))) F.ag_4 rfl rfl ?_
    refine s_not rfl ?_
    refine s_assign (d := (sc (.bool false))) rfl ?_
    refine AWops.nil ?_
    refine AW.ret ?_
    obtain rfl := Option.some.inj h
    exact ⟨_, rfl, (Weak.gen (kk := 4) [0, 1, 2, 3] [] rfl rfl (by decide) (by decide) rfl rfl rfl (le_upd (le_top _) (.t (.one .sc))) (All2.cons (.cells (fun h => h) (All2.cons .sc All2.nil)) (All2.cons (.cells (fun h => h) (All2.cons .sc (All2.cons .sc (All2.cons .sc (All2.cons .same (All2.cons .same (All2.cons .sc (All2.cons .sc (All2.cons .sc (All2.cons .sc (All2.cons .sc (All2.cons .sc (All2.cons .same (All2.cons .same (All2.cons .same All2.nil))))))))))))))) (All2.cons (.cells (fun h => h) (All2.cons .same All2.nil)) (All2.cons (.cells (fun h => h) (All2.cons .sc All2.nil)) All2.nil)))))⟩
  · replace h := (if_neg c1).symm.trans h
    replace c1 := Bool.eq_false_iff.mpr c1
    refine AW.cond_no rfl c1 ?_
    refine AW.skip ?_
    refine AW.seq ?_
    refine AW.region ?_
    refine s_load1 (c' := (C.p true (.v (.bool p3)))) F.ag_4 rfl rfl ?_
    refine s_not rfl ?_
    refine s_assign (d := (sc (.bool (!p3)))) rfl ?_
    refine AWops.nil ?_
    refine AW.ret ?_
    obtain rfl := Option.some.inj h
    exact ⟨_, rfl, (Weak.gen (kk := 4) [0, 1, 2, 3] [] rfl rfl (by decide) (by decide) rfl rfl rfl (le_upd (le_top _) (.t (.one .sc))) (All2.cons (.cells (fun h => h) (All2.cons .sc All2.nil)) (All2.cons (.cells (fun h => h) (All2.cons .sc (All2.cons .sc (All2.cons .sc (All2.cons .same (All2.cons .same (All2.cons .sc (All2.cons .sc (All2.cons .sc (All2.cons .sc (All2.cons .sc (All2.cons .sc (All2.cons .same (All2.cons .same (All2.cons .same All2.nil))))))))))))))) (All2.cons (.cells (fun h => h) (All2.cons .same All2.nil)) (All2.cons (.cells (fun h => h) (All2.cons .sc All2.nil)) All2.nil)))))⟩
def slices_Clone_string_string.f (k : Nat) (a0 : List ByteArray) : Option (List ByteArray) := if (decide (([] : List ByteArray).length + a0.length ≤ 8796093022208)) = true then (some a0) else none
theorem slices_Clone_string_string.meets (k : Nat) (a0 : List ByteArray) (r : (List ByteArray)) (h : slices_Clone_string_string.f k a0 = some r) : Meets Try.prog 61 [(D.one (C.p false (.sl a0.length (a0.flatMap e_str))))] [] (D.one (C.own 0 0 r.length 1)) [(some (AObj.cells true (rowC e_str r)))] := by
  unfold slices_Clone_string_string.f at h
  refine Meets.of_body (n := 8) Try.func61 rfl rfl (Nat.le_of_ble_eq_true rfl) fun x hx => ?_
  replace hx : x.k = 0 := hx
  show AW _ x _ _ ⟨8, fr0 [(D.one (C.p false (.sl a0.length (a0.flatMap e_str))))], []⟩
  refine AW.seq ?_
  refine AW.region ?_
  refine s_assign (d := (sc (.slice none 0 0))) rfl ?_
  refine AWops.nil ?_
  refine AW.seq ?_
  refine AW.seq ?_
  refine AW.region ?_
  refine s_move (d := (D.one (C.p false (.sl a0.length (a0.flatMap e_str))))) rfl ?_
  refine s_eqNil (n := _) F.u_31 rfl (fun _ _ h => by cases h) rfl (.inl rfl) (fun b w => ?_)
  cases b with
  | false =>
    refine AWops.nil ?_
    refine AW.cond_no rfl rfl ?_
    refine AW.skip ?_
    refine AW.seq ?_
    refine AW.region ?_
    refine s_buildSlice (n := 0) (ps := []) (cs := rowC e_str ([] : List ByteArray)) F.u_31 F.sz_9 F.z_9 rfl rfl (by decide) (by decide) rfl rfl ?_
    refine s_move (d := (D.one (C.p false (.sl a0.length (a0.flatMap e_str))))) rfl ?_
    by_cases c1 : (decide (([] : List ByteArray).length + a0.length ≤ 8796093022208)) = true
    · replace h := (if_pos c1).symm.trans h
      have dc1 := of_decide_eq_true c1
      refine t_append (xs := ([] : List ByteArray)) (ys := a0) (zs := a0) (H' := [none, (some (AObj.cells true (rowC e_str a0)))]) F.u_31 F.in_9 rfl e_str_len (.own rfl rfl) .imm F.u_31 (by omega) (by omega) rfl rfl ?_
      refine s_assign (d := (D.one (C.own 1 0 a0.length 1))) rfl ?_
      refine AWops.nil ?_
      refine AW.ret ?_
      obtain rfl := Option.some.inj h
      exact ⟨_, rfl, (Weak.gen (kk := 0) [1] [] rfl rfl (by decide) (by decide) rfl rfl rfl (le_upd (le_top _) (.t (.one (.own rfl)))) (All2.cons (.cells (fun h => h) (all2_row _)) All2.nil))⟩
    · replace h := (if_neg c1).symm.trans h
      cases h
  | true =>
    obtain rfl : a0 = [] := by cases a0 with | nil => rfl | cons _ _ => exact absurd (w (by simp)) (by decide)
    replace h : (some ([] : List ByteArray)) = some r := by simpa [bytesI] using h
    skip
    refine AWops.nil ?_
    refine AW.cond_yes rfl rfl ?_
    refine AW.seq ?_
    refine AW.region ?_
    refine s_assign (d := (sc (.slice none 0 0))) rfl ?_
    refine AWops.nil ?_
    refine AW.ret ?_
    obtain rfl := Option.some.inj h
    exact ⟨_, rfl, (Weak.trans (Weak.nil (sz := 1) (i := 0) rfl) (Weak.gen (kk := 0) [0] [] rfl rfl (by decide) (by decide) rfl rfl rfl (le_upd (le_top _) (.t (.one (CLe.ownN rfl (by simp))))) (All2.cons (.cells (fun h => h) All2.nil) All2.nil)))⟩
mutual
def model_walk_55.f : Nat → api_Item → (List ByteArray) → ByteArray → api_Item → (List ByteArray) → Bool → Option (Bool × ByteArray × api_Item × (List ByteArray) × Bool)
  | 0, _, _, _, _, _, _ => none
  | k + 1, a0, a1, p0, p1, p2, p3 => (model_look_1_57.f k a0 a1 p0 p1 p2 p3).bind fun r1 => if r1.1 = true then ((slices_Clone_string_string.f k a1).bind fun r3 => if (decide (r3.length + ([a0.ID] : List ByteArray).length ≤ 8796093022208)) = true then (model_walk_55.l0 k r1.2.1 r1.2.2.1 r1.2.2.2.1 r1.2.2.2.2 0 a0 r3) else none) else (some (false, r1.2.1, r1.2.2.1, r1.2.2.2.1, r1.2.2.2.2))
def model_walk_55.l1 : Nat → ByteArray → api_Item → (List ByteArray) → Bool → Int → api_Item → (List ByteArray) → Int → Option (Bool × ByteArray × api_Item × (List ByteArray) × Bool)
  | 0, _, _, _, _, _, _, _, _ => none
  | k + 1, x12, x13, x14, x15, x16, a0, r3, x9 => if (decide (x16 < (a0.Kids.length : Int))) = true then ((rd a0.Kids x16).bind fun v18 => (model_walk_55.f k v18 (r3 ++ ([a0.ID] : List ByteArray)) x12 x13 x14 x15).bind fun r19 => if r19.1 = true then (model_walk_55.l1 k r19.2.1 r19.2.2.1 r19.2.2.2.1 r19.2.2.2.2 (IntKind.i64.wrap (x16 + 1)) a0 r3 x9) else (some (false, r19.2.1, r19.2.2.1, r19.2.2.2.1, r19.2.2.2.2))) else (model_walk_55.l0 k x12 x13 x14 x15 (IntKind.i64.wrap (x9 + 1)) a0 r3)
def model_walk_55.l2 : Nat → ByteArray → api_Item → (List ByteArray) → Bool → Int → api_Item → (List ByteArray) → Int → Option (Bool × ByteArray × api_Item × (List ByteArray) × Bool)
  | 0, _, _, _, _, _, _, _, _ => none
  | k + 1, x22, x23, x24, x25, x26, a0, r3, x9 => if (decide (x26 < (a0.Table.length : Int))) = true then ((rd a0.Table x26).bind fun v28 => (model_walk_55.f k v28 (r3 ++ ([a0.ID] : List ByteArray)) x22 x23 x24 x25).bind fun r29 => if r29.1 = true then (model_walk_55.l2 k r29.2.1 r29.2.2.1 r29.2.2.2.1 r29.2.2.2.2 (IntKind.i64.wrap (x26 + 1)) a0 r3 x9) else (some (false, r29.2.1, r29.2.2.1, r29.2.2.2.1, r29.2.2.2.2))) else (model_walk_55.l0 k x22 x23 x24 x25 (IntKind.i64.wrap (x9 + 1)) a0 r3)
def model_walk_55.l0 : Nat → ByteArray → api_Item → (List ByteArray) → Bool → Int → api_Item → (List ByteArray) → Option (Bool × ByteArray × api_Item × (List ByteArray) × Bool)
  | 0, _, _, _, _, _, _, _ => none
  | k + 1, x5, x6, x7, x8, x9, a0, r3 => if (decide (x9 < 2)) = true then (if (x9 == 0) = true then (model_walk_55.l1 k x5 x6 x7 x8 0 a0 r3 x9) else (if (x9 == 1) = true then (model_walk_55.l2 k x5 x6 x7 x8 0 a0 r3 x9) else (none))) else (some (true, x5, x6, x7, x8))
end
theorem model_walk_55.meets (k : Nat) : ∀ (a0 : api_Item) (a1 : List ByteArray) (p0 : ByteArray) (p1 : api_Item) (p2 : List ByteArray) (p3 : Bool) (r : Bool × ByteArray × api_Item × (List ByteArray) × Bool), model_walk_55.f k a0 a1 p0 p1 p2 p3 = some r → Meets Try.prog 55 [(D.agg (c_api_Item a0)), (D.one (C.p false (.sl a1.length (a1.flatMap e_str)))), (D.one (C.clo 57 [(C.ref 0 0), (C.ref 1 0), (C.ref 2 0), (C.ref 3 0)]))] [(some (AObj.cells false [(C.p true (.v (.string p0)))])), (some (AObj.cells false (c_api_Item p1))), (some (AObj.cells false [(C.p false (.sl p2.length (p2.flatMap e_str)))])), (some (AObj.cells false [(C.p true (.v (.bool p3)))]))] (sc (.bool r.1)) [(some (AObj.cells false [(C.p true (.v (.string r.2.1)))])), (some (AObj.cells false (c_api_Item r.2.2.1))), (some (AObj.cells false [(C.p false (.sl r.2.2.2.1.length (r.2.2.2.1.flatMap e_str)))])), (some (AObj.cells false [(C.p true (.v (.bool r.2.2.2.2)))]))] := by
  induction k using Nat.strongRecOn with
  | _ k ih =>
    cases k with
    | zero =>
      · intro a0 a1 p0 p1 p2 p3 r h; exact absurd h (by simp [model_walk_55.f])
    | succ k =>
      · intro a0 a1 p0 p1 p2 p3 r h
        replace h := (model_walk_55.f.eq_2 _ _ _ _ _ _ _).symm.trans h
        refine Meets.of_body (n := 44) Try.func55 rfl rfl (Nat.le_of_ble_eq_true rfl) fun x hx => ?_
        replace hx : x.k = 4 := hx
        show AW _ x _ _ ⟨44, fr0 [(D.agg (c_api_Item a0)), (D.one (C.p false (.sl a1.length (a1.flatMap e_str)))), (D.one (C.clo 57 [(C.ref 0 0), (C.ref 1 0), (C.ref 2 0), (C.ref 3 0)]))], [(some (AObj.cells false [(C.p true (.v (.string p0)))])), (some (AObj.cells false (c_api_Item p1))), (some (AObj.cells false [(C.p false (.sl p2.length (p2.flatMap e_str)))])), (some (AObj.cells false [(C.p true (.v (.bool p3)))]))]⟩
        refine AW.seq ?_
        refine AW.region ?_
        refine s_box (cs := (c_api_Item a0)) rfl (List.cons_ne_nil _ _) rfl ?_
        refine s_assign (d := (sc (.bool false))) rfl ?_
        refine AWops.nil ?_
        refine AW.seq ?_
        refine AW.seq ?_
        refine AW.region ?_
        refine s_move (d := (D.one (C.clo 57 [(C.ref 0 0), (C.ref 1 0), (C.ref 2 0), (C.ref 3 0)]))) rfl ?_
        refine s_loadN (ds := (c_api_Item a0)) F.ag_36 F.sz_36 rfl rfl rfl ?_
        refine s_move (d := (D.one (C.p false (.sl a1.length (a1.flatMap e_str))))) rfl ?_
        obtain ⟨r1, er1, h⟩ := Option.bind_eq_some_iff.mp h
        refine s_call2 (ρ := [0, 1, 2, 3]) (br := false) (H2 := [(some (AObj.cells false [(C.p true (.v (.string r1.2.1)))])), (some (AObj.cells false (c_api_Item r1.2.2.1))), (some (AObj.cells false [(C.p false (.sl r1.2.2.2.1.length (r1.2.2.2.1.flatMap e_str)))])), (some (AObj.cells false [(C.p true (.v (.bool r1.2.2.2.2)))])), (some (AObj.cells true (c_api_Item a0)))]) (d := (sc (.bool r1.1))) F.ca_57 rfl rfl (All2.cons (LendT.aggL (All2.cons .sc (All2.cons .sc (All2.cons .sc (All2.cons .imm (All2.cons .imm (All2.cons .sc (All2.cons .sc (All2.cons .sc (All2.cons .sc (All2.cons .sc (All2.cons .sc (All2.cons .imm (All2.cons .imm (All2.cons .imm All2.nil))))))))))))))) (All2.cons (.one .imm) (All2.cons (.one (.ref rfl)) (All2.cons (.one (.ref rfl)) (All2.cons (.one (.ref rfl)) (All2.cons (.one (.ref rfl)) All2.nil)))))) (All2.cons (.cells (All2.cons .sc All2.nil)) (All2.cons (.cells (All2.cons .sc (All2.cons .sc (All2.cons .sc (All2.cons .imm (All2.cons .imm (All2.cons .sc (All2.cons .sc (All2.cons .sc (All2.cons .sc (All2.cons .sc (All2.cons .sc (All2.cons .imm (All2.cons .imm (All2.cons .imm All2.nil))))))))))))))) (All2.cons (.cells (All2.cons .imm All2.nil)) (All2.cons (.cells (All2.cons .sc All2.nil)) All2.nil)))) (by decide) rfl (model_look_1_57.meets _ a0 a1 p0 p1 p2 p3 r1 er1) (.inl rfl) rfl rfl ?_
        refine s_not rfl ?_
        refine AWops.nil ?_
        by_cases c2 : r1.1 = true
        · replace h := (if_pos c2).symm.trans h
          refine AW.cond_no rfl (by rw [c2] <;> rfl) ?_
          refine AW.skip ?_
          refine AW.seq ?_
          refine AW.weak (st' := ⟨44, (upd 44 (upd 44 (upd 44 topF 1 (D.one (C.p false (.sl a1.length (a1.flatMap e_str))))) 2 (D.one (C.clo 57 [(C.ref 0 0), (C.ref 1 0), (C.ref 2 0), (C.ref 3 0)]))) 3 (D.one (C.ref 4 0))), [(some (AObj.cells false [(C.p true (.v (.string r1.2.1)))])), (some (AObj.cells false (c_api_Item r1.2.2.1))), (some (AObj.cells false [(C.p false (.sl r1.2.2.2.1.length (r1.2.2.2.1.flatMap e_str)))])), (some (AObj.cells false [(C.p true (.v (.bool r1.2.2.2.2)))])), (some (AObj.cells true (c_api_Item a0)))]⟩) (Weak.gen (kk := 4) [0, 1, 2, 3, 4] [] hx rfl (by decide) (by decide) rfl rfl rfl (le_upd (le_upd (le_upd (le_top _) (.t (.one .same))) (.t (.one (CLe.cloL (All2.cons (.ref rfl) (All2.cons (.ref rfl) (All2.cons (.ref rfl) (All2.cons (.ref rfl) All2.nil)))))))) (.t (.one (.ref rfl)))) (All2.cons (.cells (fun h => h) (All2.cons .sc All2.nil)) (All2.cons (.cells (fun h => h) (All2.cons .sc (All2.cons .sc (All2.cons .sc (All2.cons .same (All2.cons .same (All2.cons .sc (All2.cons .sc (All2.cons .sc (All2.cons .sc (All2.cons .sc (All2.cons .sc (All2.cons .same (All2.cons .same (All2.cons .same All2.nil))))))))))))))) (All2.cons (.cells (fun h => h) (All2.cons .same All2.nil)) (All2.cons (.cells (fun h => h) (All2.cons .sc All2.nil)) (All2.cons (.cells (fun h => h) (All2.cons .sc (All2.cons .sc (All2.cons .sc (All2.cons .same (All2.cons .same (All2.cons .sc (All2.cons .sc (All2.cons .sc (All2.cons .sc (All2.cons .sc (All2.cons .sc (All2.cons .same (All2.cons .same (All2.cons .same All2.nil))))))))))))))) All2.nil)))))) ?_
          obtain ⟨r3, er3, h⟩ := Option.bind_eq_some_iff.mp h
          by_cases c4 : (decide (r3.length + ([a0.ID] : List ByteArray).length ≤ 8796093022208)) = true
          · replace h := (if_pos c4).symm.trans h
            have dc4 := of_decide_eq_true c4
            refine AW.draw (n := 44) (L := 8) [(0, ⟨some 17, (D.one (C.p false (.sl a1.length (a1.flatMap e_str)))), [(1, (D.one (C.p false (.sl a1.length (a1.flatMap e_str)))))], [], [], none⟩), (1, ⟨some 18, (D.one (C.own 5 0 r3.length 1)), [(17, (D.one (C.p false (.sl a1.length (a1.flatMap e_str)))))], [], [(5, (some (AObj.cells true (rowC e_str r3))))], some 5⟩), (2, ⟨some 19, (D.one (C.ref 4 0)), [(3, (D.one (C.ref 4 0)))], [], [], none⟩), (3, ⟨some 20, (sc (.string a0.ID)), [(19, (D.one (C.ref 4 0)))], [(4, (some (AObj.cells true (c_api_Item a0))))], [], none⟩), (4, ⟨some 21, (D.one (C.own 6 0 (([a0.ID] : List ByteArray).length) 1)), [(20, (sc (.string a0.ID)))], [], [(6, (some (AObj.cells true (rowC e_str ([a0.ID] : List ByteArray)))))], some 6⟩), (5, ⟨some 22, (D.one (C.own 7 0 ((r3 ++ ([a0.ID] : List ByteArray)).length) 1)), [(18, (D.one (C.own 5 0 r3.length 1))), (21, (D.one (C.own 6 0 (([a0.ID] : List ByteArray).length) 1)))], [(5, (some (AObj.cells true (rowC e_str r3)))), (6, (some (AObj.cells true (rowC e_str ([a0.ID] : List ByteArray)))))], [(5, none), (7, (some (AObj.cells true (rowC e_str (r3 ++ ([a0.ID] : List ByteArray))))))], some 7⟩), (6, ⟨some 7, (D.one (C.own 7 0 ((r3 ++ ([a0.ID] : List ByteArray)).length) 1)), [(22, (D.one (C.own 7 0 ((r3 ++ ([a0.ID] : List ByteArray)).length) 1)))], [], [], none⟩)] [[], [0], [], [2], [2, 3], [0, 1, 2, 3, 4], [0, 1, 2, 3, 4, 5]] (Nat.le_of_ble_eq_true rfl) [0, 1, 0, 1, 2, 3, 4] rfl (TK := [(1, 5), (4, 6), (5, 7)]) rfl (AllK.cons' ⟨(tk_upd (tk_upd (tk_upd tk_top rfl) rfl) rfl), (AllT.cons' rfl (AllT.cons' rfl (AllT.cons' rfl (AllT.cons' rfl (AllT.cons' rfl AllT.nil'))))), (AllF.cons' (.inr rfl) (AllF.cons' (.inl rfl) (AllF.cons' (.inr rfl) (AllF.cons' (.inr rfl) (AllF.cons' (.inr (by unfold tkFoot; simp only [List.all_cons, List.all_nil, tkO_row, Bool.and_true, Bool.true_and]; rfl)) (AllF.cons' (.inl rfl) (AllF.cons' (.inl rfl) AllF.nil')))))))⟩ (AllK.cons' ⟨(tk_upd (tk_upd (tk_upd tk_top rfl) rfl) rfl), (AllT.cons' rfl (AllT.cons' rfl (AllT.cons' rfl (AllT.cons' rfl (AllT.cons' rfl AllT.nil'))))), (AllF.cons' (.inr rfl) (AllF.cons' (.inr (by unfold tkFoot; simp only [List.all_cons, List.all_nil, tkO_row, Bool.and_true, Bool.true_and]; rfl)) (AllF.cons' (.inr rfl) (AllF.cons' (.inr rfl) (AllF.cons' (.inl rfl) (AllF.cons' (.inl rfl) (AllF.cons' (.inl rfl) AllF.nil')))))))⟩ (AllK.cons' ⟨(tk_upd (tk_upd (tk_upd tk_top rfl) rfl) rfl), (AllT.cons' rfl (AllT.cons' rfl (AllT.cons' rfl (AllT.cons' rfl (AllT.cons' rfl AllT.nil'))))), (AllF.cons' (.inr rfl) (AllF.cons' (.inr (by unfold tkFoot; simp only [List.all_cons, List.all_nil, tkO_row, Bool.and_true, Bool.true_and]; rfl)) (AllF.cons' (.inr rfl) (AllF.cons' (.inr rfl) (AllF.cons' (.inr (by unfold tkFoot; simp only [List.all_cons, List.all_nil, tkO_row, Bool.and_true, Bool.true_and]; rfl)) (AllF.cons' (.inl rfl) (AllF.cons' (.inl rfl) AllF.nil')))))))⟩ AllK.nil'))) (AllF.cons' ⟨(AllS.cons' rfl AllS.nil'), AllH.nil'⟩ (AllF.cons' ⟨(AllS.cons' rfl AllS.nil'), AllH.nil'⟩ (AllF.cons' ⟨(AllS.cons' rfl AllS.nil'), AllH.nil'⟩ (AllF.cons' ⟨(AllS.cons' rfl AllS.nil'), (AllH.cons' rfl AllH.nil')⟩ (AllF.cons' ⟨(AllS.cons' rfl AllS.nil'), AllH.nil'⟩ (AllF.cons' ⟨(AllS.cons' rfl (AllS.cons' rfl AllS.nil')), (AllH.cons' rfl (AllH.cons' rfl AllH.nil'))⟩ (AllF.cons' ⟨(AllS.cons' rfl AllS.nil'), AllH.nil'⟩ AllF.nil'))))))) ?_ ?_
            · refine (AllStep.cons' ?_ (AllStep.cons' ?_ (AllStep.cons' ?_ (AllStep.cons' ?_ (AllStep.cons' ?_ (AllStep.cons' ?_ (AllStep.cons' ?_ AllStep.nil')))))))
              · intro K rest fr hv htk k
                show AWops _ x _ _ K ⟨44, (upd 44 fr 1 (D.one (C.p false (.sl a1.length (a1.flatMap e_str))))), [(hv 0), (hv 1), (hv 2), (hv 3), (hv 4), (hv 5), (hv 6), (hv 7)]⟩
                refine s_move (d := (D.one (C.p false (.sl a1.length (a1.flatMap e_str))))) rfl ?_
                exact k
              · intro K rest fr hv htk k
                show AWops _ x _ _ K ⟨44, (upd 44 fr 17 (D.one (C.p false (.sl a1.length (a1.flatMap e_str))))), [(hv 0), (hv 1), (hv 2), (hv 3), (hv 4), (hv 5), (hv 6), (hv 7)]⟩
                refine s_call2 (ρ := []) (br := false) (H2 := [(hv 0), (hv 1), (hv 2), (hv 3), (hv 4), (hv 5), (hv 6), (hv 7), (some (AObj.cells true (rowC e_str r3)))]) (d := (D.one (C.own 8 0 r3.length 1))) F.ca_61 rfl rfl (All2.cons (.one .imm) All2.nil) All2.nil (by decide) rfl (slices_Clone_string_string.meets _ a1 r3 er3) (.inl rfl) (by first | rfl | (simp only [mergeH2, orF, Bool.false_or, Bool.or_false, Bool.true_or, Bool.or_true, mergeAt, mergeObj, renO, ren_row, List.drop_succ_cons, List.drop_zero, List.map_cons, List.map_nil, Option.map_some, Option.map_none, List.length_cons, List.length_nil, Nat.zero_add, List.append_assoc, List.cons_append, List.nil_append]; done) | (simp only [mergeH2, orF, Bool.false_or, Bool.or_false, Bool.true_or, Bool.or_true, mergeAt, mergeObj, renO, ren_row, List.drop_succ_cons, List.drop_zero, List.map_cons, List.map_nil, Option.map_some, Option.map_none, List.length_cons, List.length_nil, Nat.zero_add, List.append_assoc, List.cons_append, List.nil_append]; rfl)) rfl ?_
                refine AWops.weak (st' := ⟨44, (upd 44 (upd 44 fr 17 (D.one (C.p false (.sl a1.length (a1.flatMap e_str))))) 18 (D.one (C.own 5 0 r3.length 1))), [(hv 0), (hv 1), (hv 2), (hv 3), (hv 4), (some (AObj.cells true (rowC e_str r3))), (hv 6), (hv 7)]⟩) (Weak.gen (kk := 4) [0, 1, 2, 3, 4, 8, 6, 7] [] hx rfl (by decide) (by decide) rfl rfl rfl (le_upd2 (le_ok (p := 5) (L := 8) rfl (htk 5 rfl).1) (.t (.one (.own rfl)))) (All2.cons (ole_ok (p := 5) (L := 8) rfl ((htk 5 rfl).2 0)) (All2.cons (ole_ok (p := 5) (L := 8) rfl ((htk 5 rfl).2 1)) (All2.cons (ole_ok (p := 5) (L := 8) rfl ((htk 5 rfl).2 2)) (All2.cons (ole_ok (p := 5) (L := 8) rfl ((htk 5 rfl).2 3)) (All2.cons (ole_ok (p := 5) (L := 8) rfl ((htk 5 rfl).2 4)) (All2.cons (.cells (fun h => h) (all2_row _)) (All2.cons (ole_ok (p := 5) (L := 8) rfl ((htk 5 rfl).2 6)) (All2.cons (ole_ok (p := 5) (L := 8) rfl ((htk 5 rfl).2 7)) All2.nil))))))))) ?_
                exact k
              · intro K rest fr hv htk k
                show AWops _ x _ _ K ⟨44, (upd 44 fr 3 (D.one (C.ref 4 0))), [(hv 0), (hv 1), (hv 2), (hv 3), (hv 4), (hv 5), (hv 6), (hv 7)]⟩
                refine s_fieldRef F.fo_36_0 (by decide) rfl ?_
                exact k
              · intro K rest fr hv htk k
                show AWops _ x _ _ K ⟨44, (upd 44 fr 19 (D.one (C.ref 4 0))), [(hv 0), (hv 1), (hv 2), (hv 3), (some (AObj.cells true (c_api_Item a0))), (hv 5), (hv 6), (hv 7)]⟩
                refine s_load1 (c' := (C.p true (.v (.string a0.ID)))) F.ag_9 rfl rfl ?_
                exact k
              · intro K rest fr hv htk k
                show AWops _ x _ _ K ⟨44, (upd 44 fr 20 (sc (.string a0.ID))), [(hv 0), (hv 1), (hv 2), (hv 3), (hv 4), (hv 5), (hv 6), (hv 7)]⟩
                refine s_buildSlice (n := 1) (ps := [(0, (sc (.string a0.ID)))]) (cs := rowC e_str ([a0.ID] : List ByteArray)) F.u_31 F.sz_9 F.z_9 rfl rfl (by decide) (by decide) rfl rfl ?_
                refine AWops.weak (st' := ⟨44, (upd 44 (upd 44 fr 20 (sc (.string a0.ID))) 21 (D.one (C.own 6 0 (([a0.ID] : List ByteArray).length) 1))), [(hv 0), (hv 1), (hv 2), (hv 3), (hv 4), (hv 5), (some (AObj.cells true (rowC e_str ([a0.ID] : List ByteArray)))), (hv 7)]⟩) (Weak.gen (kk := 4) [0, 1, 2, 3, 4, 5, 8, 7] [] hx rfl (by decide) (by decide) rfl rfl rfl (le_upd2 (le_ok (p := 6) (L := 8) rfl (htk 6 rfl).1) (.t (.one (.own rfl)))) (All2.cons (ole_ok (p := 6) (L := 8) rfl ((htk 6 rfl).2 0)) (All2.cons (ole_ok (p := 6) (L := 8) rfl ((htk 6 rfl).2 1)) (All2.cons (ole_ok (p := 6) (L := 8) rfl ((htk 6 rfl).2 2)) (All2.cons (ole_ok (p := 6) (L := 8) rfl ((htk 6 rfl).2 3)) (All2.cons (ole_ok (p := 6) (L := 8) rfl ((htk 6 rfl).2 4)) (All2.cons (ole_ok (p := 6) (L := 8) rfl ((htk 6 rfl).2 5)) (All2.cons (.cells (fun h => h) (all2_row _)) (All2.cons (ole_ok (p := 6) (L := 8) rfl ((htk 6 rfl).2 7)) All2.nil))))))))) ?_
                exact k
              · intro K rest fr hv htk k
                show AWops _ x _ _ K ⟨44, (upd 44 (upd 44 fr 21 (D.one (C.own 6 0 (([a0.ID] : List ByteArray).length) 1))) 18 (D.one (C.own 5 0 r3.length 1))), [(hv 0), (hv 1), (hv 2), (hv 3), (hv 4), (some (AObj.cells true (rowC e_str r3))), (some (AObj.cells true (rowC e_str ([a0.ID] : List ByteArray)))), (hv 7)]⟩
                refine t_append (xs := r3) (ys := ([a0.ID] : List ByteArray)) (zs := r3 ++ ([a0.ID] : List ByteArray)) (H' := [(hv 0), (hv 1), (hv 2), (hv 3), (hv 4), none, (some (AObj.cells true (rowC e_str ([a0.ID] : List ByteArray)))), (hv 7), (some (AObj.cells true (rowC e_str (r3 ++ ([a0.ID] : List ByteArray)))))]) F.u_31 F.in_9 rfl e_str_len (.own rfl rfl) (.own rfl rfl) F.u_31 (by omega) (by omega) rfl rfl ?_
                refine AWops.weak (st' := ⟨44, (upd 44 (upd 44 (upd 44 fr 21 (D.one (C.own 6 0 (([a0.ID] : List ByteArray).length) 1))) 18 (D.one (C.own 5 0 r3.length 1))) 22 (D.one (C.own 7 0 ((r3 ++ ([a0.ID] : List ByteArray)).length) 1))), [(hv 0), (hv 1), (hv 2), (hv 3), (hv 4), none, (some (AObj.cells true (rowC e_str ([a0.ID] : List ByteArray)))), (some (AObj.cells true (rowC e_str (r3 ++ ([a0.ID] : List ByteArray)))))]⟩) (Weak.gen (kk := 4) [0, 1, 2, 3, 4, 5, 6, 8] [] hx rfl (by decide) (by decide) rfl rfl rfl (le_upd2 (le_ok (p := 7) (L := 8) rfl (htk 7 rfl).1) (.t (.one (.own rfl)))) (All2.cons (ole_ok (p := 7) (L := 8) rfl ((htk 7 rfl).2 0)) (All2.cons (ole_ok (p := 7) (L := 8) rfl ((htk 7 rfl).2 1)) (All2.cons (ole_ok (p := 7) (L := 8) rfl ((htk 7 rfl).2 2)) (All2.cons (ole_ok (p := 7) (L := 8) rfl ((htk 7 rfl).2 3)) (All2.cons (ole_ok (p := 7) (L := 8) rfl ((htk 7 rfl).2 4)) (All2.cons (.none _) (All2.cons (.cells (fun h => h) (all2_row _)) (All2.cons (.cells (fun h => h) (all2_row _)) All2.nil))))))))) ?_
                exact k
              · intro K rest fr hv htk k
                show AWops _ x _ _ K ⟨44, (upd 44 fr 22 (D.one (C.own 7 0 ((r3 ++ ([a0.ID] : List ByteArray)).length) 1))), [(hv 0), (hv 1), (hv 2), (hv 3), (hv 4), (hv 5), (hv 6), (hv 7)]⟩
                refine s_assign (d := (D.one (C.own 7 0 ((r3 ++ ([a0.ID] : List ByteArray)).length) 1))) rfl ?_
                exact k
            · refine AWops.weak (st' := ⟨44, (upd 44 (upd 44 (upd 44 topF 2 (D.one (C.clo 57 [(C.ref 0 0), (C.ref 1 0), (C.ref 2 0), (C.ref 3 0)]))) 3 (D.one (C.ref 4 0))) 7 (D.one (C.own 5 0 ((r3 ++ ([a0.ID] : List ByteArray)).length) 1))), [(some (AObj.cells false [(C.p true (.v (.string r1.2.1)))])), (some (AObj.cells false (c_api_Item r1.2.2.1))), (some (AObj.cells false [(C.p false (.sl r1.2.2.2.1.length (r1.2.2.2.1.flatMap e_str)))])), (some (AObj.cells false [(C.p true (.v (.bool r1.2.2.2.2)))])), (some (AObj.cells true (c_api_Item a0))), (some (AObj.cells true (rowC e_str (r3 ++ ([a0.ID] : List ByteArray)))))]⟩) (Weak.gen (kk := 4) [0, 1, 2, 3, 4, 7] [] hx rfl (by decide) (by decide) rfl rfl rfl (le_upd (le_upd (le_upd (le_top _) (.t (.one (CLe.cloL (All2.cons (.ref rfl) (All2.cons (.ref rfl) (All2.cons (.ref rfl) (All2.cons (.ref rfl) All2.nil)))))))) (.t (.one (.ref rfl)))) (.t (.one (.own rfl)))) (All2.cons (.cells (fun h => h) (All2.cons .sc All2.nil)) (All2.cons (.cells (fun h => h) (All2.cons .sc (All2.cons .sc (All2.cons .sc (All2.cons .same (All2.cons .same (All2.cons .sc (All2.cons .sc (All2.cons .sc (All2.cons .sc (All2.cons .sc (All2.cons .sc (All2.cons .same (All2.cons .same (All2.cons .same All2.nil))))))))))))))) (All2.cons (.cells (fun h => h) (All2.cons .same All2.nil)) (All2.cons (.cells (fun h => h) (All2.cons .sc All2.nil)) (All2.cons (.cells (fun h => h) (All2.cons .sc (All2.cons .sc (All2.cons .sc (All2.cons .same (All2.cons .same (All2.cons .sc (All2.cons .sc (All2.cons .sc (All2.cons .sc (All2.cons .sc (All2.cons .sc (All2.cons .same (All2.cons .same (All2.cons .same All2.nil))))))))))))))) (All2.cons (.cells (fun h => h) (all2_row _)) All2.nil))))))) ?_
              refine AWops.nil ?_
              refine AW.seq ?_
              refine AW.seq ?_
              refine AW.region ?_
              refine s_fieldRef F.fo_36_12 (by decide) rfl ?_
              refine s_load1 (c' := (C.p false (.sl a0.Kids.length (a0.Kids.flatMap e_api_Item)))) F.ag_34 rfl rfl ?_
              refine s_fieldRef F.fo_36_13 (by decide) rfl ?_
              refine s_load1 (c' := (C.p false (.sl a0.Table.length (a0.Table.flatMap e_api_Item)))) F.ag_34 rfl rfl ?_
              refine s_buildArr (ps := [(0, (D.one (C.p false (.sl a0.Kids.length (a0.Kids.flatMap e_api_Item))))), (1, (D.one (C.p false (.sl a0.Table.length (a0.Table.flatMap e_api_Item)))))]) (cs := [(C.p false (.sl a0.Kids.length (a0.Kids.flatMap e_api_Item))), (C.p false (.sl a0.Table.length (a0.Table.flatMap e_api_Item)))]) F.u_93 F.sz_34 F.z_93 rfl rfl rfl ?_
              refine s_move (d := (sc (.int .i64 0))) rfl ?_
              refine AWops.nil ?_
              refine AW.block ?_
              refine AW.loopw (st0 := ⟨44, (upd 44 (upd 44 (upd 44 (upd 44 topF 2 (D.one (C.clo 57 [(C.ref 0 0), (C.ref 1 0), (C.ref 2 0), (C.ref 3 0)]))) 7 (D.one (C.p false (.sl (r3 ++ ([a0.ID] : List ByteArray)).length ((r3 ++ ([a0.ID] : List ByteArray)).flatMap e_str))))) 27 (D.agg [(C.p false (.sl a0.Kids.length (a0.Kids.flatMap e_api_Item))), (C.p false (.sl a0.Table.length (a0.Table.flatMap e_api_Item)))])) 28 (sc (.int .i64 0))), [(some (AObj.cells false [(C.p true (.v (.string r1.2.1)))])), (some (AObj.cells false (c_api_Item r1.2.2.1))), (some (AObj.cells false [(C.p false (.sl r1.2.2.2.1.length (r1.2.2.2.1.flatMap e_str)))])), (some (AObj.cells false [(C.p true (.v (.bool r1.2.2.2.2)))]))]⟩) (fun kv st => kv ≤ k ∧ ∃ (x5 : ByteArray) (x6 : api_Item) (x7 : List ByteArray) (x8 : Bool) (x9 : Int), model_walk_55.l0 kv x5 x6 x7 x8 x9 a0 r3 = some r ∧ st = ⟨44, (upd 44 (upd 44 (upd 44 (upd 44 topF 2 (D.one (C.clo 57 [(C.ref 0 0), (C.ref 1 0), (C.ref 2 0), (C.ref 3 0)]))) 7 (D.one (C.p false (.sl (r3 ++ ([a0.ID] : List ByteArray)).length ((r3 ++ ([a0.ID] : List ByteArray)).flatMap e_str))))) 27 (D.agg [(C.p false (.sl a0.Kids.length (a0.Kids.flatMap e_api_Item))), (C.p false (.sl a0.Table.length (a0.Table.flatMap e_api_Item)))])) 28 (sc (.int .i64 x9))), [(some (AObj.cells false [(C.p true (.v (.string x5)))])), (some (AObj.cells false (c_api_Item x6))), (some (AObj.cells false [(C.p false (.sl x7.length (x7.flatMap e_str)))])), (some (AObj.cells false [(C.p true (.v (.bool x8)))]))]⟩) (k := k) (Weak.gen (kk := 4) [0, 1, 2, 3] [5] hx rfl (by decide) (by decide) rfl rfl rfl (le_upd (le_upd (le_upd (le_upd (le_top _) (.t (.one (CLe.cloL (All2.cons (.ref rfl) (All2.cons (.ref rfl) (All2.cons (.ref rfl) (All2.cons (.ref rfl) All2.nil)))))))) (.t (.one (CLe.frz e_str_len rfl rfl rfl)))) (.t (.agg (All2.cons .same (All2.cons .same All2.nil))))) (.t (.one .sc))) (All2.cons (.cells (fun h => h) (All2.cons .sc All2.nil)) (All2.cons (.cells (fun h => h) (All2.cons .sc (All2.cons .sc (All2.cons .sc (All2.cons .same (All2.cons .same (All2.cons .sc (All2.cons .sc (All2.cons .sc (All2.cons .sc (All2.cons .sc (All2.cons .sc (All2.cons .same (All2.cons .same (All2.cons .same All2.nil))))))))))))))) (All2.cons (.cells (fun h => h) (All2.cons .same All2.nil)) (All2.cons (.cells (fun h => h) (All2.cons .sc All2.nil)) All2.nil))))) ⟨Nat.le_refl _, r1.2.1, r1.2.2.1, r1.2.2.2.1, r1.2.2.2.2, 0, h, rfl⟩ ?_
              rintro ql0 st ⟨hkl0, x5, x6, x7, x8, x9, h, rfl⟩
              cases ql0 with
              | zero => exact absurd h (by simp [model_walk_55.l0])
              | succ ql0 =>
                replace h := (model_walk_55.l0.eq_2 _ _ _ _ _ _ _ _).symm.trans h
                refine AW.seq ?_
                refine AW.region ?_
                refine s_binI (v := (.bool (decide (x9 < 2)))) rfl rfl rfl ?_
                refine AWops.nil ?_
                refine AW.seq ?_
                by_cases c10 : (decide (x9 < 2)) = true
                · replace h := (if_pos c10).symm.trans h
                  refine AW.cond_yes rfl c10 ?_
                  refine AW.skip ?_
                  refine AW.seq ?_
                  refine AW.block ?_
                  refine AW.seq ?_
                  refine AW.region ?_
                  by_cases c11 : (x9 == 0) = true
                  · replace h := (if_pos c11).symm.trans h
                    have ic11 : x9 = 0 := by simpa using c11
                    refine s_indexAgg1 (c := (C.p false (.sl a0.Kids.length (a0.Kids.flatMap e_api_Item)))) F.u_93 F.sz_34 F.ag_34 rfl rfl (by omega) (by omega) (by rw [ic11]; rfl) ?_
                    refine s_assign (d := (D.one (C.p false (.sl a0.Kids.length (a0.Kids.flatMap e_api_Item))))) rfl ?_
                    refine AWops.nil ?_
                    refine AW.seq ?_
                    refine AW.region ?_
                    refine s_move (d := (D.one (C.p false (.sl a0.Kids.length (a0.Kids.flatMap e_api_Item))))) rfl ?_
                    refine s_len (n := a0.Kids.length) F.u_34 rfl (.inr ⟨(fun _ _ h => by cases h), ⟨_, rfl⟩⟩) ?_
                    refine s_move (d := (sc (.int .i64 0))) rfl ?_
                    refine AWops.nil ?_
                    refine AW.block ?_
                    refine AW.loopw (st0 := ⟨44, (upd 44 (upd 44 (upd 44 (upd 44 (upd 44 (upd 44 (upd 44 topF 2 (D.one (C.clo 57 [(C.ref 0 0), (C.ref 1 0), (C.ref 2 0), (C.ref 3 0)]))) 7 (D.one (C.p false (.sl (r3 ++ ([a0.ID] : List ByteArray)).length ((r3 ++ ([a0.ID] : List ByteArray)).flatMap e_str))))) 27 (D.agg [(C.p false (.sl a0.Kids.length (a0.Kids.flatMap e_api_Item))), (C.p false (.sl a0.Table.length (a0.Table.flatMap e_api_Item)))])) 28 (sc (.int .i64 x9))) 31 (D.one (C.p false (.sl a0.Kids.length (a0.Kids.flatMap e_api_Item))))) 32 (sc (.int .i64 (a0.Kids.length : Int)))) 33 (sc (.int .i64 0))), [(some (AObj.cells false [(C.p true (.v (.string x5)))])), (some (AObj.cells false (c_api_Item x6))), (some (AObj.cells false [(C.p false (.sl x7.length (x7.flatMap e_str)))])), (some (AObj.cells false [(C.p true (.v (.bool x8)))]))]⟩) (fun kv st => kv ≤ ql0 ∧ ∃ (x12 : ByteArray) (x13 : api_Item) (x14 : List ByteArray) (x15 : Bool) (x16 : Int), model_walk_55.l1 kv x12 x13 x14 x15 x16 a0 r3 x9 = some r ∧ st = ⟨44, (upd 44 (upd 44 (upd 44 (upd 44 (upd 44 (upd 44 (upd 44 topF 2 (D.one (C.clo 57 [(C.ref 0 0), (C.ref 1 0), (C.ref 2 0), (C.ref 3 0)]))) 7 (D.one (C.p false (.sl (r3 ++ ([a0.ID] : List ByteArray)).length ((r3 ++ ([a0.ID] : List ByteArray)).flatMap e_str))))) 27 (D.agg [(C.p false (.sl a0.Kids.length (a0.Kids.flatMap e_api_Item))), (C.p false (.sl a0.Table.length (a0.Table.flatMap e_api_Item)))])) 28 (sc (.int .i64 x9))) 31 (D.one (C.p false (.sl a0.Kids.length (a0.Kids.flatMap e_api_Item))))) 32 (sc (.int .i64 (a0.Kids.length : Int)))) 33 (sc (.int .i64 x16))), [(some (AObj.cells false [(C.p true (.v (.string x12)))])), (some (AObj.cells false (c_api_Item x13))), (some (AObj.cells false [(C.p false (.sl x14.length (x14.flatMap e_str)))])), (some (AObj.cells false [(C.p true (.v (.bool x15)))]))]⟩) (k := ql0) (Weak.gen (kk := 4) [0, 1, 2, 3] [] hx rfl (by decide) (by decide) rfl rfl rfl (le_upd (le_upd (le_upd (le_upd (le_upd (le_upd (le_upd (le_top _) (.t (.one (CLe.cloL (All2.cons (.ref rfl) (All2.cons (.ref rfl) (All2.cons (.ref rfl) (All2.cons (.ref rfl) All2.nil)))))))) (.t (.one .same))) (.t (.agg (All2.cons .same (All2.cons .same All2.nil))))) (.t (.one .sc))) (.t (.one .same))) (.t (.one .sc))) (.t (.one .sc))) (All2.cons (.cells (fun h => h) (All2.cons .sc All2.nil)) (All2.cons (.cells (fun h => h) (All2.cons .sc (All2.cons .sc (All2.cons .sc (All2.cons .same (All2.cons .same (All2.cons .sc (All2.cons .sc (All2.cons .sc (All2.cons .sc (All2.cons .sc (All2.cons .sc (All2.cons .same (All2.cons .same (All2.cons .same All2.nil))))))))))))))) (All2.cons (.cells (fun h => h) (All2.cons .same All2.nil)) (All2.cons (.cells (fun h => h) (All2.cons .sc All2.nil)) All2.nil))))) ⟨Nat.le_refl _, x5, x6, x7, x8, 0, h, rfl⟩ ?_
                    rintro ql1 st ⟨hkl1, x12, x13, x14, x15, x16, h, rfl⟩
                    cases ql1 with
                    | zero => exact absurd h (by simp [model_walk_55.l1])
                    | succ ql1 =>
                      replace h := (model_walk_55.l1.eq_2 _ _ _ _ _ _ _ _ _).symm.trans h
                      refine AW.seq ?_
                      refine AW.region ?_
                      refine s_binI (v := (.bool (decide (x16 < (a0.Kids.length : Int))))) rfl rfl rfl ?_
                      refine AWops.nil ?_
                      refine AW.seq ?_
                      by_cases c17 : (decide (x16 < (a0.Kids.length : Int))) = true
                      · replace h := (if_pos c17).symm.trans h
                        refine AW.cond_yes rfl c17 ?_
                        refine AW.skip ?_
                        refine AW.seq ?_
                        refine AW.block ?_
                        refine AW.seq ?_
                        refine AW.region ?_
                        obtain ⟨v18, ev18, h⟩ := Option.bind_eq_some_iff.mp h
                        obtain ⟨pv18, qv18, gv18⟩ := rd_some ev18
                        refine s_indexImm (ps := (p_api_Item v18)) F.u_34 F.sz_36 rfl rfl pv18 qv18 (flat_at e_api_Item_len gv18 (e_api_Item_eq v18)) ?_
                        refine s_loadN (ds := (c_api_Item v18)) F.ag_36 F.sz_36 rfl rfl rfl ?_
                        refine s_alloc (cs := [(C.p true (.v (.string (⟨#[]⟩ : ByteArray)))), (C.p true (.v (.string (⟨#[]⟩ : ByteArray)))), (C.p true (.v (.int .i64 0))), (C.p true (.v (.slice none 0 0))), (C.p true (.v (.slice none 0 0))), (C.p true (.v (.string (⟨#[]⟩ : ByteArray)))), (C.p true (.v (.string (⟨#[]⟩ : ByteArray)))), (C.p true (.v (.string (⟨#[]⟩ : ByteArray)))), (C.p true (.v (.bool false))), (C.p true (.v (.bool false))), (C.p true (.v (.int .i64 0))), (C.p true (.v (.slice none 0 0))), (C.p true (.v (.slice none 0 0))), (C.p true (.v (.slice none 0 0)))]) F.z_36 rfl rfl ?_
                        refine s_store (cs' := (c_api_Item v18)) rfl rfl rfl (List.cons_ne_nil _ _) rfl F.sz_36 (Nat.le_of_ble_eq_true rfl) rfl ?_
                        refine AWops.nil ?_
                        refine AW.seq ?_
                        refine AW.region ?_
                        refine s_loadN (ds := (c_api_Item v18)) F.ag_36 F.sz_36 rfl rfl rfl ?_
                        refine s_move (d := (D.one (C.p false (.sl (r3 ++ ([a0.ID] : List ByteArray)).length ((r3 ++ ([a0.ID] : List ByteArray)).flatMap e_str))))) rfl ?_
                        refine s_move (d := (D.one (C.clo 57 [(C.ref 0 0), (C.ref 1 0), (C.ref 2 0), (C.ref 3 0)]))) rfl ?_
                        obtain ⟨r19, er19, h⟩ := Option.bind_eq_some_iff.mp h
                        refine s_call2 (ρ := [0, 1, 2, 3]) (br := false) (H2 := [(some (AObj.cells false [(C.p true (.v (.string r19.2.1)))])), (some (AObj.cells false (c_api_Item r19.2.2.1))), (some (AObj.cells false [(C.p false (.sl r19.2.2.2.1.length (r19.2.2.2.1.flatMap e_str)))])), (some (AObj.cells false [(C.p true (.v (.bool r19.2.2.2.2)))])), (some (AObj.cells true (c_api_Item v18)))]) (d := (sc (.bool r19.1))) F.ca_55 rfl rfl (All2.cons (LendT.aggL (All2.cons .sc (All2.cons .sc (All2.cons .sc (All2.cons .imm (All2.cons .imm (All2.cons .sc (All2.cons .sc (All2.cons .sc (All2.cons .sc (All2.cons .sc (All2.cons .sc (All2.cons .imm (All2.cons .imm (All2.cons .imm All2.nil))))))))))))))) (All2.cons (.one .imm) (All2.cons (.one (LendC.cloL (All2.cons (.ref rfl) (All2.cons (.ref rfl) (All2.cons (.ref rfl) (All2.cons (.ref rfl) All2.nil)))))) All2.nil))) (All2.cons (.cells (All2.cons .sc All2.nil)) (All2.cons (.cells (All2.cons .sc (All2.cons .sc (All2.cons .sc (All2.cons .imm (All2.cons .imm (All2.cons .sc (All2.cons .sc (All2.cons .sc (All2.cons .sc (All2.cons .sc (All2.cons .sc (All2.cons .imm (All2.cons .imm (All2.cons .imm All2.nil))))))))))))))) (All2.cons (.cells (All2.cons .imm All2.nil)) (All2.cons (.cells (All2.cons .sc All2.nil)) All2.nil)))) (by decide) rfl (ih _ (by omega) v18 (r3 ++ ([a0.ID] : List ByteArray)) x12 x13 x14 x15 r19 er19) (.inl rfl) rfl rfl ?_
                        refine s_not rfl ?_
                        refine AWops.nil ?_
                        by_cases c20 : r19.1 = true
                        · replace h := (if_pos c20).symm.trans h
                          refine AW.cond_no rfl (by rw [c20] <;> rfl) ?_
                          refine AW.skip ?_
                          refine AW.region ?_
                          refine s_binI (v := (.int .i64 (IntKind.i64.wrap (x16 + 1)))) rfl rfl rfl ?_
                          refine s_move (d := (sc (.int .i64 (IntKind.i64.wrap (x16 + 1))))) rfl ?_
                          refine AWops.nil ?_
                          exact ⟨_, ⟨44, (upd 44 (upd 44 (upd 44 (upd 44 (upd 44 (upd 44 (upd 44 topF 2 (D.one (C.clo 57 [(C.ref 0 0), (C.ref 1 0), (C.ref 2 0), (C.ref 3 0)]))) 7 (D.one (C.p false (.sl (r3 ++ ([a0.ID] : List ByteArray)).length ((r3 ++ ([a0.ID] : List ByteArray)).flatMap e_str))))) 27 (D.agg [(C.p false (.sl a0.Kids.length (a0.Kids.flatMap e_api_Item))), (C.p false (.sl a0.Table.length (a0.Table.flatMap e_api_Item)))])) 28 (sc (.int .i64 x9))) 31 (D.one (C.p false (.sl a0.Kids.length (a0.Kids.flatMap e_api_Item))))) 32 (sc (.int .i64 (a0.Kids.length : Int)))) 33 (sc (.int .i64 (IntKind.i64.wrap (x16 + 1))))), [(some (AObj.cells false [(C.p true (.v (.string r19.2.1)))])), (some (AObj.cells false (c_api_Item r19.2.2.1))), (some (AObj.cells false [(C.p false (.sl r19.2.2.2.1.length (r19.2.2.2.1.flatMap e_str)))])), (some (AObj.cells false [(C.p true (.v (.bool r19.2.2.2.2)))]))]⟩, by omega, (Weak.gen (kk := 4) [0, 1, 2, 3] [] hx rfl (by decide) (by decide) rfl rfl rfl (le_upd (le_upd (le_upd (le_upd (le_upd (le_upd (le_upd (le_top _) (.t (.one (CLe.cloL (All2.cons (.ref rfl) (All2.cons (.ref rfl) (All2.cons (.ref rfl) (All2.cons (.ref rfl) All2.nil)))))))) (.t (.one .same))) (.t (.agg (All2.cons .same (All2.cons .same All2.nil))))) (.t (.one .sc))) (.t (.one .same))) (.t (.one .sc))) (.t (.one .sc))) (All2.cons (.cells (fun h => h) (All2.cons .sc All2.nil)) (All2.cons (.cells (fun h => h) (All2.cons .sc (All2.cons .sc (All2.cons .sc (All2.cons .same (All2.cons .same (All2.cons .sc (All2.cons .sc (All2.cons .sc (All2.cons .sc (All2.cons .sc (All2.cons .sc (All2.cons .same (All2.cons .same (All2.cons .same All2.nil))))))))))))))) (All2.cons (.cells (fun h => h) (All2.cons .same All2.nil)) (All2.cons (.cells (fun h => h) (All2.cons .sc All2.nil)) All2.nil))))), by omega, r19.2.1, r19.2.2.1, r19.2.2.2.1, r19.2.2.2.2, IntKind.i64.wrap (x16 + 1), h, rfl⟩
                        · replace h := (if_neg c20).symm.trans h
                          replace c20 := Bool.eq_false_iff.mpr c20
                          refine AW.cond_yes rfl (by rw [c20] <;> rfl) ?_
                          refine AW.seq ?_
                          refine AW.region ?_
                          refine s_assign (d := (sc (.bool false))) rfl ?_
                          refine AWops.nil ?_
                          refine AW.ret ?_
                          obtain rfl := Option.some.inj h
                          exact ⟨_, rfl, (Weak.gen (kk := 4) [0, 1, 2, 3] [] rfl rfl (by decide) (by decide) rfl rfl rfl (le_upd (le_top _) (.t (.one .sc))) (All2.cons (.cells (fun h => h) (All2.cons .sc All2.nil)) (All2.cons (.cells (fun h => h) (All2.cons .sc (All2.cons .sc (All2.cons .sc (All2.cons .same (All2.cons .same (All2.cons .sc (All2.cons .sc (All2.cons .sc (All2.cons .sc (All2.cons .sc (All2.cons .sc (All2.cons .same (All2.cons .same (All2.cons .same All2.nil))))))))))))))) (All2.cons (.cells (fun h => h) (All2.cons .same All2.nil)) (All2.cons (.cells (fun h => h) (All2.cons .sc All2.nil)) All2.nil)))))⟩
                      · replace h := (if_neg c17).symm.trans h
                        replace c17 := Bool.eq_false_iff.mpr c17
                        refine AW.cond_no rfl c17 ?_
                        refine AW.exit ?_
                        refine AW.region ?_
                        refine s_binI (v := (.int .i64 (IntKind.i64.wrap (x9 + 1)))) rfl rfl rfl ?_
                        refine s_move (d := (sc (.int .i64 (IntKind.i64.wrap (x9 + 1))))) rfl ?_
                        refine AWops.nil ?_
                        exact ⟨_, ⟨44, (upd 44 (upd 44 (upd 44 (upd 44 topF 2 (D.one (C.clo 57 [(C.ref 0 0), (C.ref 1 0), (C.ref 2 0), (C.ref 3 0)]))) 7 (D.one (C.p false (.sl (r3 ++ ([a0.ID] : List ByteArray)).length ((r3 ++ ([a0.ID] : List ByteArray)).flatMap e_str))))) 27 (D.agg [(C.p false (.sl a0.Kids.length (a0.Kids.flatMap e_api_Item))), (C.p false (.sl a0.Table.length (a0.Table.flatMap e_api_Item)))])) 28 (sc (.int .i64 (IntKind.i64.wrap (x9 + 1))))), [(some (AObj.cells false [(C.p true (.v (.string x12)))])), (some (AObj.cells false (c_api_Item x13))), (some (AObj.cells false [(C.p false (.sl x14.length (x14.flatMap e_str)))])), (some (AObj.cells false [(C.p true (.v (.bool x15)))]))]⟩, by omega, (Weak.gen (kk := 4) [0, 1, 2, 3] [] hx rfl (by decide) (by decide) rfl rfl rfl (le_upd (le_upd (le_upd (le_upd (le_top _) (.t (.one (CLe.cloL (All2.cons (.ref rfl) (All2.cons (.ref rfl) (All2.cons (.ref rfl) (All2.cons (.ref rfl) All2.nil)))))))) (.t (.one .same))) (.t (.agg (All2.cons .same (All2.cons .same All2.nil))))) (.t (.one .sc))) (All2.cons (.cells (fun h => h) (All2.cons .sc All2.nil)) (All2.cons (.cells (fun h => h) (All2.cons .sc (All2.cons .sc (All2.cons .sc (All2.cons .same (All2.cons .same (All2.cons .sc (All2.cons .sc (All2.cons .sc (All2.cons .sc (All2.cons .sc (All2.cons .sc (All2.cons .same (All2.cons .same (All2.cons .same All2.nil))))))))))))))) (All2.cons (.cells (fun h => h) (All2.cons .same All2.nil)) (All2.cons (.cells (fun h => h) (All2.cons .sc All2.nil)) All2.nil))))), by omega, x12, x13, x14, x15, IntKind.i64.wrap (x9 + 1), h, rfl⟩
                  · replace h := (if_neg c11).symm.trans h
                    replace c11 := Bool.eq_false_iff.mpr c11
                    by_cases c21 : (x9 == 1) = true
                    · replace h := (if_pos c21).symm.trans h
                      have ic21 : x9 = 1 := by simpa using c21
                      refine s_indexAgg1 (c := (C.p false (.sl a0.Table.length (a0.Table.flatMap e_api_Item)))) F.u_93 F.sz_34 F.ag_34 rfl rfl (by omega) (by omega) (by rw [ic21]; rfl) ?_
                      refine s_assign (d := (D.one (C.p false (.sl a0.Table.length (a0.Table.flatMap e_api_Item))))) rfl ?_
                      refine AWops.nil ?_
                      refine AW.seq ?_
                      refine AW.region ?_
                      refine s_move (d := (D.one (C.p false (.sl a0.Table.length (a0.Table.flatMap e_api_Item))))) rfl ?_
                      refine s_len (n := a0.Table.length) F.u_34 rfl (.inr ⟨(fun _ _ h => by cases h), ⟨_, rfl⟩⟩) ?_
                      refine s_move (d := (sc (.int .i64 0))) rfl ?_
                      refine AWops.nil ?_
                      refine AW.block ?_
                      refine AW.loopw (st0 := ⟨44, (upd 44 (upd 44 (upd 44 (upd 44 (upd 44 (upd 44 (upd 44 topF 2 (D.one (C.clo 57 [(C.ref 0 0), (C.ref 1 0), (C.ref 2 0), (C.ref 3 0)]))) 7 (D.one (C.p false (.sl (r3 ++ ([a0.ID] : List ByteArray)).length ((r3 ++ ([a0.ID] : List ByteArray)).flatMap e_str))))) 27 (D.agg [(C.p false (.sl a0.Kids.length (a0.Kids.flatMap e_api_Item))), (C.p false (.sl a0.Table.length (a0.Table.flatMap e_api_Item)))])) 28 (sc (.int .i64 x9))) 31 (D.one (C.p false (.sl a0.Table.length (a0.Table.flatMap e_api_Item))))) 32 (sc (.int .i64 (a0.Table.length : Int)))) 33 (sc (.int .i64 0))), [(some (AObj.cells false [(C.p true (.v (.string x5)))])), (some (AObj.cells false (c_api_Item x6))), (some (AObj.cells false [(C.p false (.sl x7.length (x7.flatMap e_str)))])), (some (AObj.cells false [(C.p true (.v (.bool x8)))]))]⟩) (fun kv st => kv ≤ ql0 ∧ ∃ (x22 : ByteArray) (x23 : api_Item) (x24 : List ByteArray) (x25 : Bool) (x26 : Int), model_walk_55.l2 kv x22 x23 x24 x25 x26 a0 r3 x9 = some r ∧ st = ⟨44, (upd 44 (upd 44 (upd 44 (upd 44 (upd 44 (upd 44 (upd 44 topF 2 (D.one (C.clo 57 [(C.ref 0 0), (C.ref 1 0), (C.ref 2 0), (C.ref 3 0)]))) 7 (D.one (C.p false (.sl (r3 ++ ([a0.ID] : List ByteArray)).length ((r3 ++ ([a0.ID] : List ByteArray)).flatMap e_str))))) 27 (D.agg [(C.p false (.sl a0.Kids.length (a0.Kids.flatMap e_api_Item))), (C.p false (.sl a0.Table.length (a0.Table.flatMap e_api_Item)))])) 28 (sc (.int .i64 x9))) 31 (D.one (C.p false (.sl a0.Table.length (a0.Table.flatMap e_api_Item))))) 32 (sc (.int .i64 (a0.Table.length : Int)))) 33 (sc (.int .i64 x26))), [(some (AObj.cells false [(C.p true (.v (.string x22)))])), (some (AObj.cells false (c_api_Item x23))), (some (AObj.cells false [(C.p false (.sl x24.length (x24.flatMap e_str)))])), (some (AObj.cells false [(C.p true (.v (.bool x25)))]))]⟩) (k := ql0) (Weak.gen (kk := 4) [0, 1, 2, 3] [] hx rfl (by decide) (by decide) rfl rfl rfl (le_upd (le_upd (le_upd (le_upd (le_upd (le_upd (le_upd (le_top _) (.t (.one (CLe.cloL (All2.cons (.ref rfl) (All2.cons (.ref rfl) (All2.cons (.ref rfl) (All2.cons (.ref rfl) All2.nil)))))))) (.t (.one .same))) (.t (.agg (All2.cons .same (All2.cons .same All2.nil))))) (.t (.one .sc))) (.t (.one .same))) (.t (.one .sc))) (.t (.one .sc))) (All2.cons (.cells (fun h => h) (All2.cons .sc All2.nil)) (All2.cons (.cells (fun h => h) (All2.cons .sc (All2.cons .sc (All2.cons .sc (All2.cons .same (All2.cons .same (All2.cons .sc (All2.cons .sc (All2.cons .sc (All2.cons .sc (All2.cons .sc (All2.cons .sc (All2.cons .same (All2.cons .same (All2.cons .same All2.nil))))))))))))))) (All2.cons (.cells (fun h => h) (All2.cons .same All2.nil)) (All2.cons (.cells (fun h => h) (All2.cons .sc All2.nil)) All2.nil))))) ⟨Nat.le_refl _, x5, x6, x7, x8, 0, h, rfl⟩ ?_
                      rintro ql2 st ⟨hkl2, x22, x23, x24, x25, x26, h, rfl⟩
                      cases ql2 with
                      | zero => exact absurd h (by simp [model_walk_55.l2])
                      | succ ql2 =>
                        replace h := (model_walk_55.l2.eq_2 _ _ _ _ _ _ _ _ _).symm.trans h
                        refine AW.seq ?_
                        refine AW.region ?_
                        refine s_binI (v := (.bool (decide (x26 < (a0.Table.length : Int))))) rfl rfl rfl ?_
                        refine AWops.nil ?_
                        refine AW.seq ?_
                        by_cases c27 : (decide (x26 < (a0.Table.length : Int))) = true
                        · replace h := (if_pos c27).symm.trans h
                          refine AW.cond_yes rfl c27 ?_
                          refine AW.skip ?_
                          refine AW.seq ?_
                          refine AW.block ?_
                          refine AW.seq ?_
                          refine AW.region ?_
                          obtain ⟨v28, ev28, h⟩ := Option.bind_eq_some_iff.mp h
                          obtain ⟨pv28, qv28, gv28⟩ := rd_some ev28
                          refine s_indexImm (ps := (p_api_Item v28)) F.u_34 F.sz_36 rfl rfl pv28 qv28 (flat_at e_api_Item_len gv28 (e_api_Item_eq v28)) ?_
                          refine s_loadN (ds := (c_api_Item v28)) F.ag_36 F.sz_36 rfl rfl rfl ?_
                          refine s_alloc (cs := [(C.p true (.v (.string (⟨#[]⟩ : ByteArray)))), (C.p true (.v (.string (⟨#[]⟩ : ByteArray)))), (C.p true (.v (.int .i64 0))), (C.p true (.v (.slice none 0 0))), (C.p true (.v (.slice none 0 0))), (C.p true (.v (.string (⟨#[]⟩ : ByteArray)))), (C.p true (.v (.string (⟨#[]⟩ : ByteArray)))), (C.p true (.v (.string (⟨#[]⟩ : ByteArray)))), (C.p true (.v (.bool false))), (C.p true (.v (.bool false))), (C.p true (.v (.int .i64 0))), (C.p true (.v (.slice none 0 0))), (C.p true (.v (.slice none 0 0))), (C.p true (.v (.slice none 0 0)))]) F.z_36 rfl rfl ?_
                          refine s_store (cs' := (c_api_Item v28)) rfl rfl rfl (List.cons_ne_nil _ _) rfl F.sz_36 (Nat.le_of_ble_eq_true rfl) rfl ?_
                          refine AWops.nil ?_
                          refine AW.seq ?_
                          refine AW.region ?_
                          refine s_loadN (ds := (c_api_Item v28)) F.ag_36 F.sz_36 rfl rfl rfl ?_
                          refine s_move (d := (D.one (C.p false (.sl (r3 ++ ([a0.ID] : List ByteArray)).length ((r3 ++ ([a0.ID] : List ByteArray)).flatMap e_str))))) rfl ?_
                          refine s_move (d := (D.one (C.clo 57 [(C.ref 0 0), (C.ref 1 0), (C.ref 2 0), (C.ref 3 0)]))) rfl ?_
                          obtain ⟨r29, er29, h⟩ := Option.bind_eq_some_iff.mp h
                          refine s_call2 (ρ := [0, 1, 2, 3]) (br := false) (H2 := [(some (AObj.cells false [(C.p true (.v (.string r29.2.1)))])), (some (AObj.cells false (c_api_Item r29.2.2.1))), (some (AObj.cells false [(C.p false (.sl r29.2.2.2.1.length (r29.2.2.2.1.flatMap e_str)))])), (some (AObj.cells false [(C.p true (.v (.bool r29.2.2.2.2)))])), (some (AObj.cells true (c_api_Item v28)))]) (d := (sc (.bool r29.1))) F.ca_55 rfl rfl (All2.cons (LendT.aggL (All2.cons .sc (All2.cons .sc (All2.cons .sc (All2.cons .imm (All2.cons .imm (All2.cons .sc (All2.cons .sc (All2.cons .sc (All2.cons .sc (All2.cons .sc (All2.cons .sc (All2.cons .imm (All2.cons .imm (All2.cons .imm All2.nil))))))))))))))) (All2.cons (.one .imm) (All2.cons (.one (LendC.cloL (All2.cons (.ref rfl) (All2.cons (.ref rfl) (All2.cons (.ref rfl) (All2.cons (.ref rfl) All2.nil)))))) All2.nil))) (All2.cons (.cells (All2.cons .sc All2.nil)) (All2.cons (.cells (All2.cons .sc (All2.cons .sc (All2.cons .sc (All2.cons .imm (All2.cons .imm (All2.cons .sc (All2.cons .sc (All2.cons .sc (All2.cons .sc (All2.cons .sc (All2.cons .sc (All2.cons .imm (All2.cons .imm (All2.cons .imm All2.nil))))))))))))))) (All2.cons (.cells (All2.cons .imm All2.nil)) (All2.cons (.cells (All2.cons .sc All2.nil)) All2.nil)))) (by decide) rfl (ih _ (by omega) v28 (r3 ++ ([a0.ID] : List ByteArray)) x22 x23 x24 x25 r29 er29) (.inl rfl) rfl rfl ?_
                          refine s_not rfl ?_
                          refine AWops.nil ?_
                          by_cases c30 : r29.1 = true
                          · replace h := (if_pos c30).symm.trans h
                            refine AW.cond_no rfl (by rw [c30] <;> rfl) ?_
                            refine AW.skip ?_
                            refine AW.region ?_
                            refine s_binI (v := (.int .i64 (IntKind.i64.wrap (x26 + 1)))) rfl rfl rfl ?_
                            refine s_move (d := (sc (.int .i64 (IntKind.i64.wrap (x26 + 1))))) rfl ?_
                            refine AWops.nil ?_
                            exact ⟨_, ⟨44, (upd 44 (upd 44 (upd 44 (upd 44 (upd 44 (upd 44 (upd 44 topF 2 (D.one (C.clo 57 [(C.ref 0 0), (C.ref 1 0), (C.ref 2 0), (C.ref 3 0)]))) 7 (D.one (C.p false (.sl (r3 ++ ([a0.ID] : List ByteArray)).length ((r3 ++ ([a0.ID] : List ByteArray)).flatMap e_str))))) 27 (D.agg [(C.p false (.sl a0.Kids.length (a0.Kids.flatMap e_api_Item))), (C.p false (.sl a0.Table.length (a0.Table.flatMap e_api_Item)))])) 28 (sc (.int .i64 x9))) 31 (D.one (C.p false (.sl a0.Table.length (a0.Table.flatMap e_api_Item))))) 32 (sc (.int .i64 (a0.Table.length : Int)))) 33 (sc (.int .i64 (IntKind.i64.wrap (x26 + 1))))), [(some (AObj.cells false [(C.p true (.v (.string r29.2.1)))])), (some (AObj.cells false (c_api_Item r29.2.2.1))), (some (AObj.cells false [(C.p false (.sl r29.2.2.2.1.length (r29.2.2.2.1.flatMap e_str)))])), (some (AObj.cells false [(C.p true (.v (.bool r29.2.2.2.2)))]))]⟩, by omega, (Weak.gen (kk := 4) [0, 1, 2, 3] [] hx rfl (by decide) (by decide) rfl rfl rfl (le_upd (le_upd (le_upd (le_upd (le_upd (le_upd (le_upd (le_top _) (.t (.one (CLe.cloL (All2.cons (.ref rfl) (All2.cons (.ref rfl) (All2.cons (.ref rfl) (All2.cons (.ref rfl) All2.nil)))))))) (.t (.one .same))) (.t (.agg (All2.cons .same (All2.cons .same All2.nil))))) (.t (.one .sc))) (.t (.one .same))) (.t (.one .sc))) (.t (.one .sc))) (All2.cons (.cells (fun h => h) (All2.cons .sc All2.nil)) (All2.cons (.cells (fun h => h) (All2.cons .sc (All2.cons .sc (All2.cons .sc (All2.cons .same (All2.cons .same (All2.cons .sc (All2.cons .sc (All2.cons .sc (All2.cons .sc (All2.cons .sc (All2.cons .sc (All2.cons .same (All2.cons .same (All2.cons .same All2.nil))))))))))))))) (All2.cons (.cells (fun h => h) (All2.cons .same All2.nil)) (All2.cons (.cells (fun h => h) (All2.cons .sc All2.nil)) All2.nil))))), by omega, r29.2.1, r29.2.2.1, r29.2.2.2.1, r29.2.2.2.2, IntKind.i64.wrap (x26 + 1), h, rfl⟩
                          · replace h := (if_neg c30).symm.trans h
                            replace c30 := Bool.eq_false_iff.mpr c30
                            refine AW.cond_yes rfl (by rw [c30] <;> rfl) ?_
                            refine AW.seq ?_
                            refine AW.region ?_
                            refine s_assign (d := (sc (.bool false))) rfl ?_
                            refine AWops.nil ?_
                            refine AW.ret ?_
                            obtain rfl := Option.some.inj h
                            exact ⟨_, rfl, (Weak.gen (kk := 4) [0, 1, 2, 3] [] rfl rfl (by decide) (by decide) rfl rfl rfl (le_upd (le_top _) (.t (.one .sc))) (All2.cons (.cells (fun h => h) (All2.cons .sc All2.nil)) (All2.cons (.cells (fun h => h) (All2.cons .sc (All2.cons .sc (All2.cons .sc (All2.cons .same (All2.cons .same (All2.cons .sc (All2.cons .sc (All2.cons .sc (All2.cons .sc (All2.cons .sc (All2.cons .sc (All2.cons .same (All2.cons .same (All2.cons .same All2.nil))))))))))))))) (All2.cons (.cells (fun h => h) (All2.cons .same All2.nil)) (All2.cons (.cells (fun h => h) (All2.cons .sc All2.nil)) All2.nil)))))⟩
                        · replace h := (if_neg c27).symm.trans h
                          replace c27 := Bool.eq_false_iff.mpr c27
                          refine AW.cond_no rfl c27 ?_
                          refine AW.exit ?_
                          refine AW.region ?_
                          refine s_binI (v := (.int .i64 (IntKind.i64.wrap (x9 + 1)))) rfl rfl rfl ?_
                          refine s_move (d := (sc (.int .i64 (IntKind.i64.wrap (x9 + 1))))) rfl ?_
                          refine AWops.nil ?_
                          exact ⟨_, ⟨44, (upd 44 (upd 44 (upd 44 (upd 44 topF 2 (D.one (C.clo 57 [(C.ref 0 0), (C.ref 1 0), (C.ref 2 0), (C.ref 3 0)]))) 7 (D.one (C.p false (.sl (r3 ++ ([a0.ID] : List ByteArray)).length ((r3 ++ ([a0.ID] : List ByteArray)).flatMap e_str))))) 27 (D.agg [(C.p false (.sl a0.Kids.length (a0.Kids.flatMap e_api_Item))), (C.p false (.sl a0.Table.length (a0.Table.flatMap e_api_Item)))])) 28 (sc (.int .i64 (IntKind.i64.wrap (x9 + 1))))), [(some (AObj.cells false [(C.p true (.v (.string x22)))])), (some (AObj.cells false (c_api_Item x23))), (some (AObj.cells false [(C.p false (.sl x24.length (x24.flatMap e_str)))])), (some (AObj.cells false [(C.p true (.v (.bool x25)))]))]⟩, by omega, (Weak.gen (kk := 4) [0, 1, 2, 3] [] hx rfl (by decide) (by decide) rfl rfl rfl (le_upd (le_upd (le_upd (le_upd (le_top _) (.t (.one (CLe.cloL (All2.cons (.ref rfl) (All2.cons (.ref rfl) (All2.cons (.ref rfl) (All2.cons (.ref rfl) All2.nil)))))))) (.t (.one .same))) (.t (.agg (All2.cons .same (All2.cons .same All2.nil))))) (.t (.one .sc))) (All2.cons (.cells (fun h => h) (All2.cons .sc All2.nil)) (All2.cons (.cells (fun h => h) (All2.cons .sc (All2.cons .sc (All2.cons .sc (All2.cons .same (All2.cons .same (All2.cons .sc (All2.cons .sc (All2.cons .sc (All2.cons .sc (All2.cons .sc (All2.cons .sc (All2.cons .same (All2.cons .same (All2.cons .same All2.nil))))))))))))))) (All2.cons (.cells (fun h => h) (All2.cons .same All2.nil)) (All2.cons (.cells (fun h => h) (All2.cons .sc All2.nil)) All2.nil))))), by omega, x22, x23, x24, x25, IntKind.i64.wrap (x9 + 1), h, rfl⟩
                    · replace h := (if_neg c21).symm.trans h
                      replace c21 := Bool.eq_false_iff.mpr c21
                      cases h
                · replace h := (if_neg c10).symm.trans h
                  replace c10 := Bool.eq_false_iff.mpr c10
                  refine AW.cond_no rfl c10 ?_
                  refine AW.exit ?_
                  refine AW.seq ?_
                  refine AW.region ?_
                  refine s_assign (d := (sc (.bool true))) rfl ?_
                  refine AWops.nil ?_
                  refine AW.ret ?_
                  obtain rfl := Option.some.inj h
                  exact ⟨_, rfl, (Weak.gen (kk := 4) [0, 1, 2, 3] [] rfl rfl (by decide) (by decide) rfl rfl rfl (le_upd (le_top _) (.t (.one .sc))) (All2.cons (.cells (fun h => h) (All2.cons .sc All2.nil)) (All2.cons (.cells (fun h => h) (All2.cons .sc (All2.cons .sc (All2.cons .sc (All2.cons .same (All2.cons .same (All2.cons .sc (All2.cons .sc (All2.cons .sc (All2.cons .sc (All2.cons .sc (All2.cons .sc (All2.cons .same (All2.cons .same (All2.cons .same All2.nil))))))))))))))) (All2.cons (.cells (fun h => h) (All2.cons .same All2.nil)) (All2.cons (.cells (fun h => h) (All2.cons .sc All2.nil)) All2.nil)))))⟩
          · replace h := (if_neg c4).symm.trans h
            cases h
        · replace h := (if_neg c2).symm.trans h
          replace c2 := Bool.eq_false_iff.mpr c2
          refine AW.cond_yes rfl (by rw [c2] <;> rfl) ?_
          refine AW.seq ?_
          refine AW.region ?_
          refine s_assign (d := (sc (.bool false))) rfl ?_
          refine AWops.nil ?_
          refine AW.ret ?_
          obtain rfl := Option.some.inj h
          exact ⟨_, rfl, (Weak.gen (kk := 4) [0, 1, 2, 3] [] rfl rfl (by decide) (by decide) rfl rfl rfl (le_upd (le_top _) (.t (.one .sc))) (All2.cons (.cells (fun h => h) (All2.cons .sc All2.nil)) (All2.cons (.cells (fun h => h) (All2.cons .sc (All2.cons .sc (All2.cons .sc (All2.cons .same (All2.cons .same (All2.cons .sc (All2.cons .sc (All2.cons .sc (All2.cons .sc (All2.cons .sc (All2.cons .sc (All2.cons .same (All2.cons .same (All2.cons .same All2.nil))))))))))))))) (All2.cons (.cells (fun h => h) (All2.cons .same All2.nil)) (All2.cons (.cells (fun h => h) (All2.cons .sc All2.nil)) All2.nil)))))⟩
def model_look.f (k : Nat) (a0 : api_Model) (a1 : ByteArray) : Option (api_Item × (List ByteArray) × Bool) := (model_walk_55.f k a0.Plan ([] : List ByteArray) a1 (⟨(⟨#[]⟩ : ByteArray), (⟨#[]⟩ : ByteArray), 0, ([] : List api_Sentry), ([] : List api_Sentry), (⟨#[]⟩ : ByteArray), (⟨#[]⟩ : ByteArray), (⟨#[]⟩ : ByteArray), false, false, 0, ([] : List ByteArray), ([] : List api_Item), ([] : List api_Item)⟩ : api_Item) ([] : List ByteArray) false).bind fun r1 => some (r1.2.2.1, r1.2.2.2.1, r1.2.2.2.2)
theorem model_look.meets (k : Nat) (a0 : api_Model) (a1 : ByteArray) (r : api_Item × (List ByteArray) × Bool) (h : model_look.f k a0 a1 = some r) : Meets Try.prog 53 [(D.agg (c_api_Model a0)), (sc (.string a1))] [] (D.tup [(D.agg (c_api_Item r.1)), (D.one (C.p false (.sl r.2.1.length (r.2.1.flatMap e_str)))), (sc (.bool r.2.2))]) [] := by
  unfold model_look.f at h
  refine Meets.of_body (n := 14) Try.func53 rfl rfl (Nat.le_of_ble_eq_true rfl) fun x hx => ?_
  replace hx : x.k = 0 := hx
  show AW _ x _ _ ⟨14, fr0 [(D.agg (c_api_Model a0)), (sc (.string a1))], []⟩
  refine AW.seq ?_
  refine AW.region ?_
  refine s_box (cs := (c_api_Model a0)) rfl (List.cons_ne_nil _ _) rfl ?_
  refine s_box (cs := [(C.p true (.v (.string a1)))]) rfl (List.cons_ne_nil _ _) rfl ?_
  refine s_alloc (cs := [(C.p true (.v (.string (⟨#[]⟩ : ByteArray)))), (C.p true (.v (.string (⟨#[]⟩ : ByteArray)))), (C.p true (.v (.int .i64 0))), (C.p true (.v (.slice none 0 0))), (C.p true (.v (.slice none 0 0))), (C.p true (.v (.string (⟨#[]⟩ : ByteArray)))), (C.p true (.v (.string (⟨#[]⟩ : ByteArray)))), (C.p true (.v (.string (⟨#[]⟩ : ByteArray)))), (C.p true (.v (.bool false))), (C.p true (.v (.bool false))), (C.p true (.v (.int .i64 0))), (C.p true (.v (.slice none 0 0))), (C.p true (.v (.slice none 0 0))), (C.p true (.v (.slice none 0 0)))]) F.z_36 rfl rfl ?_
  refine s_alloc (cs := [(C.p true (.v (.slice none 0 0)))]) F.z_31 rfl rfl ?_
  refine s_alloc (cs := [(C.p true (.v (.bool false)))]) F.z_4 rfl rfl ?_
  refine AWops.nil ?_
  refine AW.seq ?_
  refine AW.region ?_
  refine s_fieldRef F.fo_38_4 (by decide) rfl ?_
  refine s_loadN (ds := (c_api_Item a0.Plan)) F.ag_36 F.sz_36 rfl rfl rfl ?_
  refine s_func (cs := [(C.ref 1 0), (C.ref 2 0), (C.ref 3 0), (C.ref 4 0)]) rfl ?_
  obtain ⟨r1, er1, h⟩ := Option.bind_eq_some_iff.mp h
  refine s_call2 (ρ := [1, 2, 3, 4]) (br := false) (H2 := [(some (AObj.cells true (c_api_Model a0))), (some (AObj.cells true [(C.p true (.v (.string r1.2.1)))])), (some (AObj.cells true (c_api_Item r1.2.2.1))), (some (AObj.cells true [(C.p false (.sl r1.2.2.2.1.length (r1.2.2.2.1.flatMap e_str)))])), (some (AObj.cells true [(C.p true (.v (.bool r1.2.2.2.2)))]))]) (d := (sc (.bool r1.1))) F.ca_55 rfl rfl (All2.cons (LendT.aggL (All2.cons .sc (All2.cons .sc (All2.cons .sc (All2.cons .imm (All2.cons .imm (All2.cons .sc (All2.cons .sc (All2.cons .sc (All2.cons .sc (All2.cons .sc (All2.cons .sc (All2.cons .imm (All2.cons .imm (All2.cons .imm All2.nil))))))))))))))) (All2.cons (.one .nil) (All2.cons (.one (LendC.cloL (All2.cons (.ref rfl) (All2.cons (.ref rfl) (All2.cons (.ref rfl) (All2.cons (.ref rfl) All2.nil)))))) All2.nil))) (All2.cons (.cells (All2.cons .sc All2.nil)) (All2.cons (.cells (All2.cons .sc (All2.cons .sc (All2.cons .sc (All2.cons .nil (All2.cons .nil (All2.cons .sc (All2.cons .sc (All2.cons .sc (All2.cons .sc (All2.cons .sc (All2.cons .sc (All2.cons .nil (All2.cons .nil (All2.cons .nil All2.nil))))))))))))))) (All2.cons (.cells (All2.cons .nil All2.nil)) (All2.cons (.cells (All2.cons .sc All2.nil)) All2.nil)))) (by decide) rfl (model_walk_55.meets _ a0.Plan ([] : List ByteArray) a1 (⟨(⟨#[]⟩ : ByteArray), (⟨#[]⟩ : ByteArray), 0, ([] : List api_Sentry), ([] : List api_Sentry), (⟨#[]⟩ : ByteArray), (⟨#[]⟩ : ByteArray), (⟨#[]⟩ : ByteArray), false, false, 0, ([] : List ByteArray), ([] : List api_Item), ([] : List api_Item)⟩ : api_Item) ([] : List ByteArray) false r1 er1) (.inl rfl) rfl rfl ?_
  refine AWops.nil ?_
  refine AW.seq ?_
  refine AW.weak (st' := ⟨14, (upd 14 (upd 14 (upd 14 topF 4 (D.one (C.ref 0 0))) 5 (D.one (C.ref 1 0))) 6 (D.one (C.ref 2 0))), [(some (AObj.cells true (c_api_Item r1.2.2.1))), (some (AObj.cells true [(C.p false (.sl r1.2.2.2.1.length (r1.2.2.2.1.flatMap e_str)))])), (some (AObj.cells true [(C.p true (.v (.bool r1.2.2.2.2)))]))]⟩) (Weak.gen (kk := 0) [2, 3, 4] [] hx rfl (by decide) (by decide) rfl rfl rfl (le_upd (le_upd (le_upd (le_top _) (.t (.one (.ref rfl)))) (.t (.one (.ref rfl)))) (.t (.one (.ref rfl)))) (All2.cons (.cells (fun h => h) (All2.cons .sc (All2.cons .sc (All2.cons .sc (All2.cons .same (All2.cons .same (All2.cons .sc (All2.cons .sc (All2.cons .sc (All2.cons .sc (All2.cons .sc (All2.cons .sc (All2.cons .same (All2.cons .same (All2.cons .same All2.nil))))))))))))))) (All2.cons (.cells (fun h => h) (All2.cons .same All2.nil)) (All2.cons (.cells (fun h => h) (All2.cons .sc All2.nil)) All2.nil)))) ?_
  refine AW.draw (n := 14) (L := 3) [(0, ⟨some 11, (D.agg (c_api_Item r1.2.2.1)), [(4, (D.one (C.ref 0 0)))], [(0, (some (AObj.cells true (c_api_Item r1.2.2.1))))], [], none⟩), (1, ⟨some 12, (D.one (C.p false (.sl r1.2.2.2.1.length (r1.2.2.2.1.flatMap e_str)))), [(5, (D.one (C.ref 1 0)))], [(1, (some (AObj.cells true [(C.p false (.sl r1.2.2.2.1.length (r1.2.2.2.1.flatMap e_str)))])))], [], none⟩), (2, ⟨some 13, (sc (.bool r1.2.2.2.2)), [(6, (D.one (C.ref 2 0)))], [(2, (some (AObj.cells true [(C.p true (.v (.bool r1.2.2.2.2)))])))], [], none⟩), (3, ⟨none, (D.one C.top), [(4, (D.one (C.ref 0 0))), (11, (D.agg (c_api_Item r1.2.2.1)))], [(0, (some (AObj.cells true (c_api_Item r1.2.2.1))))], [(0, (some (AObj.cells true (c_api_Item r1.2.2.1))))], none⟩), (4, ⟨none, (D.one C.top), [(5, (D.one (C.ref 1 0))), (12, (D.one (C.p false (.sl r1.2.2.2.1.length (r1.2.2.2.1.flatMap e_str)))))], [(1, (some (AObj.cells true [(C.p false (.sl r1.2.2.2.1.length (r1.2.2.2.1.flatMap e_str)))])))], [(1, (some (AObj.cells true [(C.p false (.sl r1.2.2.2.1.length (r1.2.2.2.1.flatMap e_str)))])))], none⟩), (5, ⟨none, (D.one C.top), [(6, (D.one (C.ref 2 0))), (13, (sc (.bool r1.2.2.2.2)))], [(2, (some (AObj.cells true [(C.p true (.v (.bool r1.2.2.2.2)))])))], [(2, (some (AObj.cells true [(C.p true (.v (.bool r1.2.2.2.2)))])))], none⟩)] [[], [], [], [0], [0, 1, 3], [0, 1, 2, 3, 4]] (Nat.le_of_ble_eq_true rfl) [0, 0, 0, 1, 2, 3] rfl (TK := []) rfl AllK.nil' (AllF.cons' ⟨(AllS.cons' rfl AllS.nil'), (AllH.cons' rfl AllH.nil')⟩ (AllF.cons' ⟨(AllS.cons' rfl AllS.nil'), (AllH.cons' rfl AllH.nil')⟩ (AllF.cons' ⟨(AllS.cons' rfl AllS.nil'), (AllH.cons' rfl AllH.nil')⟩ (AllF.cons' ⟨(AllS.cons' rfl (AllS.cons' rfl AllS.nil')), (AllH.cons' rfl AllH.nil')⟩ (AllF.cons' ⟨(AllS.cons' rfl (AllS.cons' rfl AllS.nil')), (AllH.cons' rfl AllH.nil')⟩ (AllF.cons' ⟨(AllS.cons' rfl (AllS.cons' rfl AllS.nil')), (AllH.cons' rfl AllH.nil')⟩ AllF.nil')))))) ?_ ?_
  · refine (AllStep.cons' ?_ (AllStep.cons' ?_ (AllStep.cons' ?_ (AllStep.cons' ?_ (AllStep.cons' ?_ (AllStep.cons' ?_ AllStep.nil'))))))
    · intro K rest fr hv htk k
      show AWops _ x _ _ K ⟨14, (upd 14 fr 4 (D.one (C.ref 0 0))), [(some (AObj.cells true (c_api_Item r1.2.2.1))), (hv 1), (hv 2)]⟩
      refine s_loadN (ds := (c_api_Item r1.2.2.1)) F.ag_36 F.sz_36 rfl rfl rfl ?_
      exact k
    · intro K rest fr hv htk k
      show AWops _ x _ _ K ⟨14, (upd 14 fr 5 (D.one (C.ref 1 0))), [(hv 0), (some (AObj.cells true [(C.p false (.sl r1.2.2.2.1.length (r1.2.2.2.1.flatMap e_str)))])), (hv 2)]⟩
      refine s_load1 (c' := (C.p false (.sl r1.2.2.2.1.length (r1.2.2.2.1.flatMap e_str)))) F.ag_31 rfl rfl ?_
      exact k
    · intro K rest fr hv htk k
      show AWops _ x _ _ K ⟨14, (upd 14 fr 6 (D.one (C.ref 2 0))), [(hv 0), (hv 1), (some (AObj.cells true [(C.p true (.v (.bool r1.2.2.2.2)))]))]⟩
      refine s_load1 (c' := (C.p true (.v (.bool r1.2.2.2.2)))) F.ag_4 rfl rfl ?_
      exact k
    · intro K rest fr hv htk k
      show AWops _ x _ _ K ⟨14, (upd 14 (upd 14 fr 11 (D.agg (c_api_Item r1.2.2.1))) 4 (D.one (C.ref 0 0))), [(some (AObj.cells true (c_api_Item r1.2.2.1))), (hv 1), (hv 2)]⟩
      refine s_store (cs' := (c_api_Item r1.2.2.1)) rfl rfl rfl (List.cons_ne_nil _ _) rfl F.sz_36 (Nat.le_of_ble_eq_true rfl) rfl ?_
      exact k
    · intro K rest fr hv htk k
      show AWops _ x _ _ K ⟨14, (upd 14 (upd 14 fr 12 (D.one (C.p false (.sl r1.2.2.2.1.length (r1.2.2.2.1.flatMap e_str))))) 5 (D.one (C.ref 1 0))), [(hv 0), (some (AObj.cells true [(C.p false (.sl r1.2.2.2.1.length (r1.2.2.2.1.flatMap e_str)))])), (hv 2)]⟩
      refine s_store (cs' := [(C.p false (.sl r1.2.2.2.1.length (r1.2.2.2.1.flatMap e_str)))]) rfl rfl rfl (List.cons_ne_nil _ _) rfl F.sz_31 (Nat.le_of_ble_eq_true rfl) rfl ?_
      exact k
    · intro K rest fr hv htk k
      show AWops _ x _ _ K ⟨14, (upd 14 (upd 14 fr 13 (sc (.bool r1.2.2.2.2))) 6 (D.one (C.ref 2 0))), [(hv 0), (hv 1), (some (AObj.cells true [(C.p true (.v (.bool r1.2.2.2.2)))]))]⟩
      refine s_store (cs' := [(C.p true (.v (.bool r1.2.2.2.2)))]) rfl rfl rfl (List.cons_ne_nil _ _) rfl F.sz_4 (Nat.le_of_ble_eq_true rfl) rfl ?_
      exact k
  · refine AWops.weak (st' := ⟨14, (upd 14 (upd 14 (upd 14 topF 4 (D.one (C.ref 0 0))) 5 (D.one (C.ref 1 0))) 6 (D.one (C.ref 2 0))), [(some (AObj.cells true (c_api_Item r1.2.2.1))), (some (AObj.cells true [(C.p false (.sl r1.2.2.2.1.length (r1.2.2.2.1.flatMap e_str)))])), (some (AObj.cells true [(C.p true (.v (.bool r1.2.2.2.2)))]))]⟩) (Weak.gen (kk := 0) [0, 1, 2] [] hx rfl (by decide) (by decide) rfl rfl rfl (le_upd (le_upd (le_upd (le_top _) (.t (.one (.ref rfl)))) (.t (.one (.ref rfl)))) (.t (.one (.ref rfl)))) (All2.cons (.cells (fun h => h) (All2.cons .sc (All2.cons .sc (All2.cons .sc (All2.cons .same (All2.cons .same (All2.cons .sc (All2.cons .sc (All2.cons .sc (All2.cons .sc (All2.cons .sc (All2.cons .sc (All2.cons .same (All2.cons .same (All2.cons .same All2.nil))))))))))))))) (All2.cons (.cells (fun h => h) (All2.cons .same All2.nil)) (All2.cons (.cells (fun h => h) (All2.cons .sc All2.nil)) All2.nil)))) ?_
    refine AWops.nil ?_
    refine AW.ret ?_
    obtain rfl := Option.some.inj h
    exact ⟨_, rfl, (Weak.gen (kk := 0) [] [] rfl rfl (by decide) (by decide) rfl rfl rfl (le_upd (le_top _) (DLe.tup (All2.cons (TLe.agg (All2.cons .sc (All2.cons .sc (All2.cons .sc (All2.cons .same (All2.cons .same (All2.cons .sc (All2.cons .sc (All2.cons .sc (All2.cons .sc (All2.cons .sc (All2.cons .sc (All2.cons .same (All2.cons .same (All2.cons .same All2.nil))))))))))))))) (All2.cons (TLe.one .same) (All2.cons (TLe.one .sc) All2.nil))))) All2.nil)⟩
def slices_Clone_api_OnPart_api_OnPart.f (k : Nat) (a0 : List api_OnPart) : Option (List api_OnPart) := if (decide (([] : List api_OnPart).length + a0.length ≤ 3518437208883)) = true then (some a0) else none
theorem slices_Clone_api_OnPart_api_OnPart.meets (k : Nat) (a0 : List api_OnPart) (r : (List api_OnPart)) (h : slices_Clone_api_OnPart_api_OnPart.f k a0 = some r) : Meets Try.prog 59 [(D.one (C.p false (.sl a0.length (a0.flatMap e_api_OnPart))))] [] (D.one (C.own 0 0 r.length 3)) [(some (AObj.cells true (rowC e_api_OnPart r)))] := by
  unfold slices_Clone_api_OnPart_api_OnPart.f at h
  refine Meets.of_body (n := 8) Try.func59 rfl rfl (Nat.le_of_ble_eq_true rfl) fun x hx => ?_
  replace hx : x.k = 0 := hx
  show AW _ x _ _ ⟨8, fr0 [(D.one (C.p false (.sl a0.length (a0.flatMap e_api_OnPart))))], []⟩
  refine AW.seq ?_
  refine AW.region ?_
  refine s_assign (d := (sc (.slice none 0 0))) rfl ?_
  refine AWops.nil ?_
  refine AW.seq ?_
  refine AW.seq ?_
  refine AW.region ?_
  refine s_move (d := (D.one (C.p false (.sl a0.length (a0.flatMap e_api_OnPart))))) rfl ?_
  refine s_eqNil (n := _) F.u_81 rfl (fun _ _ h => by cases h) rfl (.inl rfl) (fun b w => ?_)
  cases b with
  | false =>
    refine AWops.nil ?_
    refine AW.cond_no rfl rfl ?_
    refine AW.skip ?_
    refine AW.seq ?_
    refine AW.region ?_
    refine s_buildSlice (n := 0) (ps := []) (cs := rowC e_api_OnPart ([] : List api_OnPart)) F.u_81 F.sz_89 F.z_89 rfl rfl (by decide) (by decide) rfl rfl ?_
    refine s_move (d := (D.one (C.p false (.sl a0.length (a0.flatMap e_api_OnPart))))) rfl ?_
    by_cases c1 : (decide (([] : List api_OnPart).length + a0.length ≤ 3518437208883)) = true
    · replace h := (if_pos c1).symm.trans h
      have dc1 := of_decide_eq_true c1
      refine t_append (xs := ([] : List api_OnPart)) (ys := a0) (zs := a0) (H' := [none, (some (AObj.cells true (rowC e_api_OnPart a0)))]) F.u_81 F.in_89 rfl e_api_OnPart_len (.own rfl rfl) .imm F.u_81 (by omega) (by omega) rfl rfl ?_
      refine s_assign (d := (D.one (C.own 1 0 a0.length 3))) rfl ?_
      refine AWops.nil ?_
      refine AW.ret ?_
      obtain rfl := Option.some.inj h
      exact ⟨_, rfl, (Weak.gen (kk := 0) [1] [] rfl rfl (by decide) (by decide) rfl rfl rfl (le_upd (le_top _) (.t (.one (.own rfl)))) (All2.cons (.cells (fun h => h) (all2_row _)) All2.nil))⟩
    · replace h := (if_neg c1).symm.trans h
      cases h
  | true =>
    obtain rfl : a0 = [] := by cases a0 with | nil => rfl | cons _ _ => exact absurd (w (by simp)) (by decide)
    replace h : (some ([] : List api_OnPart)) = some r := by simpa [bytesI] using h
    skip
    refine AWops.nil ?_
    refine AW.cond_yes rfl rfl ?_
    refine AW.seq ?_
    refine AW.region ?_
    refine s_assign (d := (sc (.slice none 0 0))) rfl ?_
    refine AWops.nil ?_
    refine AW.ret ?_
    obtain rfl := Option.some.inj h
    exact ⟨_, rfl, (Weak.trans (Weak.nil (sz := 3) (i := 0) rfl) (Weak.gen (kk := 0) [0] [] rfl rfl (by decide) (by decide) rfl rfl rfl (le_upd (le_top _) (.t (.one (CLe.ownN rfl (by simp))))) (All2.cons (.cells (fun h => h) All2.nil) All2.nil)))⟩
mutual
def model_own_1.l0 : Nat → (List api_Sentry) → Int → (List api_Sentry) → Option (List api_Sentry)
  | 0, _, _, _ => none
  | k + 1, x1, x2, a0 => if (decide (x2 < (a0.length : Int))) = true then ((rd a0 x2).bind fun v4 => (slices_Clone_api_OnPart_api_OnPart.f k v4.On).bind fun r5 => if (decide (x1.length + ([(⟨r5, v4.If⟩ : api_Sentry)] : List api_Sentry).length ≤ 3518437208883)) = true then (model_own_1.l0 k (x1 ++ ([(⟨r5, v4.If⟩ : api_Sentry)] : List api_Sentry)) (IntKind.i64.wrap (x2 + 1)) a0) else none) else (some x1)
end
def model_own_1.f (k : Nat) (a0 : List api_Sentry) : Option (List api_Sentry) := model_own_1.l0 k ([] : List api_Sentry) 0 a0
theorem model_own_1.meets (k : Nat) (a0 : List api_Sentry) (r : (List api_Sentry)) (h : model_own_1.f k a0 = some r) : Meets Try.prog 58 [(D.one (C.p false (.sl a0.length (a0.flatMap e_api_Sentry))))] [] (D.one (C.own 0 0 r.length 2)) [(some (AObj.cells true (rowC e_api_Sentry r)))] := by
  unfold model_own_1.f at h
  refine Meets.of_body (n := 23) Try.func58 rfl rfl (Nat.le_of_ble_eq_true rfl) fun x hx => ?_
  replace hx : x.k = 0 := hx
  show AW _ x _ _ ⟨23, fr0 [(D.one (C.p false (.sl a0.length (a0.flatMap e_api_Sentry))))], []⟩
  refine AW.seq ?_
  refine AW.region ?_
  refine s_assign (d := (sc (.slice none 0 0))) rfl ?_
  refine AWops.nil ?_
  refine AW.seq ?_
  refine AW.region ?_
  refine s_assign (d := (sc (.slice none 0 0))) rfl ?_
  refine AWops.nil ?_
  refine AW.seq ?_
  refine AW.seq ?_
  refine AW.region ?_
  refine s_move (d := (D.one (C.p false (.sl a0.length (a0.flatMap e_api_Sentry))))) rfl ?_
  refine s_len (n := a0.length) F.u_33 rfl (.inr ⟨(fun _ _ h => by cases h), ⟨_, rfl⟩⟩) ?_
  refine s_move (d := (sc (.int .i64 0))) rfl ?_
  refine AWops.nil ?_
  refine AW.block ?_
  refine AW.loopw (st0 := ⟨23, (upd 23 (upd 23 (upd 23 (upd 23 topF 3 (D.one (C.own 0 0 ([] : List api_Sentry).length 2))) 6 (D.one (C.p false (.sl a0.length (a0.flatMap e_api_Sentry))))) 7 (sc (.int .i64 (a0.length : Int)))) 8 (sc (.int .i64 0))), [(some (AObj.cells true (rowC e_api_Sentry ([] : List api_Sentry))))]⟩) (fun kv st => kv ≤ k ∧ ∃ (x1 : List api_Sentry) (x2 : Int), model_own_1.l0 kv x1 x2 a0 = some r ∧ st = ⟨23, (upd 23 (upd 23 (upd 23 (upd 23 topF 3 (D.one (C.own 0 0 x1.length 2))) 6 (D.one (C.p false (.sl a0.length (a0.flatMap e_api_Sentry))))) 7 (sc (.int .i64 (a0.length : Int)))) 8 (sc (.int .i64 x2))), [(some (AObj.cells true (rowC e_api_Sentry x1)))]⟩) (k := k) (Weak.trans (Weak.nil (sz := 2) (i := 3) rfl) (Weak.gen (kk := 0) [0] [] hx rfl (by decide) (by decide) rfl rfl rfl (le_upd (le_upd (le_upd (le_upd (le_top _) (.t (.one (.own rfl)))) (.t (.one .same))) (.t (.one .sc))) (.t (.one .sc))) (All2.cons (.cells (fun h => h) All2.nil) All2.nil))) ⟨Nat.le_refl _, ([] : List api_Sentry), 0, h, rfl⟩ ?_
  rintro ql0 st ⟨hkl0, x1, x2, h, rfl⟩
  cases ql0 with
  | zero => exact absurd h (by simp [model_own_1.l0])
  | succ ql0 =>
    replace h := (model_own_1.l0.eq_2 _ _ _ _).symm.trans h
    refine AW.seq ?_
    refine AW.region ?_
    refine s_binI (v := (.bool (decide (x2 < (a0.length : Int))))) rfl rfl rfl ?_
    refine AWops.nil ?_
    refine AW.seq ?_
    by_cases c3 : (decide (x2 < (a0.length : Int))) = true
    · replace h := (if_pos c3).symm.trans h
      refine AW.cond_yes rfl c3 ?_
      refine AW.skip ?_
      refine AW.seq ?_
      refine AW.block ?_
      refine AW.seq ?_
      refine AW.region ?_
      obtain ⟨v4, ev4, h⟩ := Option.bind_eq_some_iff.mp h
      obtain ⟨pv4, qv4, gv4⟩ := rd_some ev4
      refine s_indexImm (ps := (p_api_Sentry v4)) F.u_33 F.sz_83 rfl rfl pv4 qv4 (flat_at e_api_Sentry_len gv4 (e_api_Sentry_eq v4)) ?_
      refine s_loadN (ds := (c_api_Sentry v4)) F.ag_83 F.sz_83 rfl rfl rfl ?_
      refine s_alloc (cs := [(C.p true (.v (.slice none 0 0))), (C.p true (.v (.string (⟨#[]⟩ : ByteArray))))]) F.z_83 rfl rfl ?_
      refine s_store (cs' := (c_api_Sentry v4)) rfl rfl rfl (List.cons_ne_nil _ _) rfl F.sz_83 (Nat.le_of_ble_eq_true rfl) rfl ?_
      refine AWops.nil ?_
      refine AW.weak (st' := ⟨23, (upd 23 (upd 23 (upd 23 (upd 23 (upd 23 topF 3 (D.one (C.own 0 0 x1.length 2))) 5 (D.one (C.ref 1 0))) 6 (D.one (C.p false (.sl a0.length (a0.flatMap e_api_Sentry))))) 7 (sc (.int .i64 (a0.length : Int)))) 8 (sc (.int .i64 x2))), [(some (AObj.cells true (rowC e_api_Sentry x1))), (some (AObj.cells true (c_api_Sentry v4)))]⟩) (Weak.gen (kk := 0) [0, 1] [] hx rfl (by decide) (by decide) rfl rfl rfl (le_upd (le_upd (le_upd (le_upd (le_upd (le_top _) (.t (.one (.own rfl)))) (.t (.one (.ref rfl)))) (.t (.one .same))) (.t (.one .sc))) (.t (.one .sc))) (All2.cons (.cells (fun h => h) (all2_row _)) (All2.cons (.cells (fun h => h) (All2.cons .same (All2.cons .sc All2.nil))) All2.nil))) ?_
      obtain ⟨r5, er5, h⟩ := Option.bind_eq_some_iff.mp h
      by_cases c6 : (decide (x1.length + ([(⟨r5, v4.If⟩ : api_Sentry)] : List api_Sentry).length ≤ 3518437208883)) = true
      · replace h := (if_pos c6).symm.trans h
        have dc6 := of_decide_eq_true c6
        refine AW.draw (n := 23) (L := 5) [(0, ⟨some 12, (D.one (C.own 0 0 x1.length 2)), [(3, (D.one (C.own 0 0 x1.length 2)))], [], [], none⟩), (1, ⟨some 13, (D.one (C.ref 1 0)), [(5, (D.one (C.ref 1 0)))], [], [], none⟩), (2, ⟨some 14, (D.one (C.p false (.sl v4.On.length (v4.On.flatMap e_api_OnPart)))), [(13, (D.one (C.ref 1 0)))], [(1, (some (AObj.cells true (c_api_Sentry v4))))], [], none⟩), (3, ⟨some 15, (D.one (C.p false (.sl r5.length (r5.flatMap e_api_OnPart)))), [(14, (D.one (C.p false (.sl v4.On.length (v4.On.flatMap e_api_OnPart)))))], [], [], some 2⟩), (4, ⟨some 16, (D.one (C.ref 1 1)), [(5, (D.one (C.ref 1 0)))], [], [], none⟩), (5, ⟨some 17, (sc (.string v4.If)), [(16, (D.one (C.ref 1 1)))], [(1, (some (AObj.cells true (c_api_Sentry v4))))], [], none⟩), (6, ⟨some 18, (D.agg [(C.p false (.sl r5.length (r5.flatMap e_api_OnPart))), (C.p true (.v (.string v4.If)))]), [(15, (D.one (C.p false (.sl r5.length (r5.flatMap e_api_OnPart))))), (17, (sc (.string v4.If)))], [], [], none⟩), (7, ⟨some 19, (D.one (C.own 3 0 (([(⟨r5, v4.If⟩ : api_Sentry)] : List api_Sentry).length) 2)), [(18, (D.agg [(C.p false (.sl r5.length (r5.flatMap e_api_OnPart))), (C.p true (.v (.string v4.If)))]))], [], [(3, (some (AObj.cells true (rowC e_api_Sentry ([(⟨r5, v4.If⟩ : api_Sentry)] : List api_Sentry)))))], some 3⟩), (8, ⟨some 20, (D.one (C.own 4 0 ((x1 ++ ([(⟨r5, v4.If⟩ : api_Sentry)] : List api_Sentry)).length) 2)), [(12, (D.one (C.own 0 0 x1.length 2))), (19, (D.one (C.own 3 0 (([(⟨r5, v4.If⟩ : api_Sentry)] : List api_Sentry).length) 2)))], [(0, (some (AObj.cells true (rowC e_api_Sentry x1)))), (3, (some (AObj.cells true (rowC e_api_Sentry ([(⟨r5, v4.If⟩ : api_Sentry)] : List api_Sentry)))))], [(0, none), (4, (some (AObj.cells true (rowC e_api_Sentry (x1 ++ ([(⟨r5, v4.If⟩ : api_Sentry)] : List api_Sentry))))))], some 4⟩), (9, ⟨some 3, (D.one (C.own 4 0 ((x1 ++ ([(⟨r5, v4.If⟩ : api_Sentry)] : List api_Sentry)).length) 2)), [(20, (D.one (C.own 4 0 ((x1 ++ ([(⟨r5, v4.If⟩ : api_Sentry)] : List api_Sentry)).length) 2)))], [], [], none⟩)] [[], [], [1], [1, 2], [], [4], [1, 2, 3, 4, 5], [1, 2, 3, 4, 5, 6], [0, 1, 2, 3, 4, 5, 6, 7], [0, 1, 2, 3, 4, 5, 6, 7, 8]] (Nat.le_of_ble_eq_true rfl) [0, 0, 1, 2, 0, 1, 3, 4, 5, 6] rfl (TK := [(3, 2), (7, 3), (8, 4)]) rfl (AllK.cons' ⟨(tk_upd (tk_upd (tk_upd (tk_upd (tk_upd tk_top rfl) rfl) rfl) rfl) rfl), (AllT.cons' (tkO_row _) (AllT.cons' rfl AllT.nil')), (AllF.cons' (.inr rfl) (AllF.cons' (.inr rfl) (AllF.cons' (.inr rfl) (AllF.cons' (.inl rfl) (AllF.cons' (.inr rfl) (AllF.cons' (.inr rfl) (AllF.cons' (.inl rfl) (AllF.cons' (.inl rfl) (AllF.cons' (.inl rfl) (AllF.cons' (.inl rfl) AllF.nil'))))))))))⟩ (AllK.cons' ⟨(tk_upd (tk_upd (tk_upd (tk_upd (tk_upd tk_top rfl) rfl) rfl) rfl) rfl), (AllT.cons' (tkO_row _) (AllT.cons' rfl AllT.nil')), (AllF.cons' (.inr rfl) (AllF.cons' (.inr rfl) (AllF.cons' (.inr rfl) (AllF.cons' (.inr rfl) (AllF.cons' (.inr rfl) (AllF.cons' (.inr rfl) (AllF.cons' (.inr rfl) (AllF.cons' (.inl rfl) (AllF.cons' (.inl rfl) (AllF.cons' (.inl rfl) AllF.nil'))))))))))⟩ (AllK.cons' ⟨(tk_upd (tk_upd (tk_upd (tk_upd (tk_upd tk_top rfl) rfl) rfl) rfl) rfl), (AllT.cons' (tkO_row _) (AllT.cons' rfl AllT.nil')), (AllF.cons' (.inr rfl) (AllF.cons' (.inr rfl) (AllF.cons' (.inr rfl) (AllF.cons' (.inr rfl) (AllF.cons' (.inr rfl) (AllF.cons' (.inr rfl) (AllF.cons' (.inr rfl) (AllF.cons' (.inr (by unfold tkFoot; simp only [List.all_cons, List.all_nil, tkO_row, Bool.and_true, Bool.true_and]; rfl)) (AllF.cons' (.inl rfl) (AllF.cons' (.inl rfl) AllF.nil'))))))))))⟩ AllK.nil'))) (AllF.cons' ⟨(AllS.cons' rfl AllS.nil'), AllH.nil'⟩ (AllF.cons' ⟨(AllS.cons' rfl AllS.nil'), AllH.nil'⟩ (AllF.cons' ⟨(AllS.cons' rfl AllS.nil'), (AllH.cons' rfl AllH.nil')⟩ (AllF.cons' ⟨(AllS.cons' rfl AllS.nil'), AllH.nil'⟩ (AllF.cons' ⟨(AllS.cons' rfl AllS.nil'), AllH.nil'⟩ (AllF.cons' ⟨(AllS.cons' rfl AllS.nil'), (AllH.cons' rfl AllH.nil')⟩ (AllF.cons' ⟨(AllS.cons' rfl (AllS.cons' rfl AllS.nil')), AllH.nil'⟩ (AllF.cons' ⟨(AllS.cons' rfl AllS.nil'), AllH.nil'⟩ (AllF.cons' ⟨(AllS.cons' rfl (AllS.cons' rfl AllS.nil')), (AllH.cons' rfl (AllH.cons' rfl AllH.nil'))⟩ (AllF.cons' ⟨(AllS.cons' rfl AllS.nil'), AllH.nil'⟩ AllF.nil')))))))))) ?_ ?_
        · refine (AllStep.cons' ?_ (AllStep.cons' ?_ (AllStep.cons' ?_ (AllStep.cons' ?_ (AllStep.cons' ?_ (AllStep.cons' ?_ (AllStep.cons' ?_ (AllStep.cons' ?_ (AllStep.cons' ?_ (AllStep.cons' ?_ AllStep.nil'))))))))))
          · intro K rest fr hv htk k
            show AWops _ x _ _ K ⟨23, (upd 23 fr 3 (D.one (C.own 0 0 x1.length 2))), [(hv 0), (hv 1), (hv 2), (hv 3), (hv 4)]⟩
            refine s_move (d := (D.one (C.own 0 0 x1.length 2))) rfl ?_
            exact k
          · intro K rest fr hv htk k
            show AWops _ x _ _ K ⟨23, (upd 23 fr 5 (D.one (C.ref 1 0))), [(hv 0), (hv 1), (hv 2), (hv 3), (hv 4)]⟩
            refine s_fieldRef F.fo_83_0 (by decide) rfl ?_
            exact k
          · intro K rest fr hv htk k
            show AWops _ x _ _ K ⟨23, (upd 23 fr 13 (D.one (C.ref 1 0))), [(hv 0), (some (AObj.cells true (c_api_Sentry v4))), (hv 2), (hv 3), (hv 4)]⟩
            refine s_load1 (c' := (C.p false (.sl v4.On.length (v4.On.flatMap e_api_OnPart)))) F.ag_81 rfl rfl ?_
            exact k
          · intro K rest fr hv htk k
            show AWops _ x _ _ K ⟨23, (upd 23 fr 14 (D.one (C.p false (.sl v4.On.length (v4.On.flatMap e_api_OnPart))))), [(hv 0), (hv 1), (hv 2), (hv 3), (hv 4)]⟩
            refine s_call2 (ρ := []) (br := false) (H2 := [(hv 0), (hv 1), (hv 2), (hv 3), (hv 4), (some (AObj.cells true (rowC e_api_OnPart r5)))]) (d := (D.one (C.own 5 0 r5.length 3))) F.ca_59 rfl rfl (All2.cons (.one .imm) All2.nil) All2.nil (by decide) rfl (slices_Clone_api_OnPart_api_OnPart.meets _ v4.On r5 er5) (.inl rfl) (by first | rfl | (simp only [mergeH2, orF, Bool.false_or, Bool.or_false, Bool.true_or, Bool.or_true, mergeAt, mergeObj, renO, ren_row, List.drop_succ_cons, List.drop_zero, List.map_cons, List.map_nil, Option.map_some, Option.map_none, List.length_cons, List.length_nil, Nat.zero_add, List.append_assoc, List.cons_append, List.nil_append]; done) | (simp only [mergeH2, orF, Bool.false_or, Bool.or_false, Bool.true_or, Bool.or_true, mergeAt, mergeObj, renO, ren_row, List.drop_succ_cons, List.drop_zero, List.map_cons, List.map_nil, Option.map_some, Option.map_none, List.length_cons, List.length_nil, Nat.zero_add, List.append_assoc, List.cons_append, List.nil_append]; rfl)) rfl ?_
            refine AWops.weak (st' := ⟨23, (upd 23 (upd 23 fr 14 (D.one (C.p false (.sl v4.On.length (v4.On.flatMap e_api_OnPart))))) 15 (D.one (C.p false (.sl r5.length (r5.flatMap e_api_OnPart))))), [(hv 0), (hv 1), (hv 2), (hv 3), (hv 4)]⟩) (Weak.gen (kk := 0) [0, 1, 2, 3, 4] [5] hx rfl (by decide) (by decide) rfl rfl rfl (le_upd2 (le_ok (p := 2) (L := 5) rfl (htk 2 rfl).1) (.t (.one (CLe.frz e_api_OnPart_len rfl rfl rfl)))) (All2.cons (ole_ok (p := 2) (L := 5) rfl ((htk 2 rfl).2 0)) (All2.cons (ole_ok (p := 2) (L := 5) rfl ((htk 2 rfl).2 1)) (All2.cons (ole_ok (p := 2) (L := 5) rfl ((htk 2 rfl).2 2)) (All2.cons (ole_ok (p := 2) (L := 5) rfl ((htk 2 rfl).2 3)) (All2.cons (ole_ok (p := 2) (L := 5) rfl ((htk 2 rfl).2 4)) All2.nil)))))) ?_
            exact k
          · intro K rest fr hv htk k
            show AWops _ x _ _ K ⟨23, (upd 23 fr 5 (D.one (C.ref 1 0))), [(hv 0), (hv 1), (hv 2), (hv 3), (hv 4)]⟩
            refine s_fieldRef F.fo_83_1 (by decide) rfl ?_
            exact k
          · intro K rest fr hv htk k
            show AWops _ x _ _ K ⟨23, (upd 23 fr 16 (D.one (C.ref 1 1))), [(hv 0), (some (AObj.cells true (c_api_Sentry v4))), (hv 2), (hv 3), (hv 4)]⟩
            refine s_load1 (c' := (C.p true (.v (.string v4.If)))) F.ag_9 rfl rfl ?_
            exact k
          · intro K rest fr hv htk k
            show AWops _ x _ _ K ⟨23, (upd 23 (upd 23 fr 17 (sc (.string v4.If))) 15 (D.one (C.p false (.sl r5.length (r5.flatMap e_api_OnPart))))), [(hv 0), (hv 1), (hv 2), (hv 3), (hv 4)]⟩
            refine s_build (ps := [(0, (D.one (C.p false (.sl r5.length (r5.flatMap e_api_OnPart))))), (1, (sc (.string v4.If)))]) (cs := [(C.p false (.sl r5.length (r5.flatMap e_api_OnPart))), (C.p true (.v (.string v4.If)))]) F.z_83 rfl F.so_83 rfl rfl ?_
            exact k
          · intro K rest fr hv htk k
            show AWops _ x _ _ K ⟨23, (upd 23 fr 18 (D.agg [(C.p false (.sl r5.length (r5.flatMap e_api_OnPart))), (C.p true (.v (.string v4.If)))])), [(hv 0), (hv 1), (hv 2), (hv 3), (hv 4)]⟩
            refine s_buildSlice (n := 1) (ps := [(0, (D.agg [(C.p false (.sl r5.length (r5.flatMap e_api_OnPart))), (C.p true (.v (.string v4.If)))]))]) (cs := rowC e_api_Sentry ([(⟨r5, v4.If⟩ : api_Sentry)] : List api_Sentry)) F.u_33 F.sz_83 F.z_83 rfl rfl (by decide) (by decide) rfl rfl ?_
            refine AWops.weak (st' := ⟨23, (upd 23 (upd 23 fr 18 (D.agg [(C.p false (.sl r5.length (r5.flatMap e_api_OnPart))), (C.p true (.v (.string v4.If)))])) 19 (D.one (C.own 3 0 (([(⟨r5, v4.If⟩ : api_Sentry)] : List api_Sentry).length) 2))), [(hv 0), (hv 1), (hv 2), (some (AObj.cells true (rowC e_api_Sentry ([(⟨r5, v4.If⟩ : api_Sentry)] : List api_Sentry)))), (hv 4)]⟩) (Weak.gen (kk := 0) [0, 1, 2, 5, 4] [] hx rfl (by decide) (by decide) rfl rfl rfl (le_upd2 (le_ok (p := 3) (L := 5) rfl (htk 3 rfl).1) (.t (.one (.own rfl)))) (All2.cons (ole_ok (p := 3) (L := 5) rfl ((htk 3 rfl).2 0)) (All2.cons (ole_ok (p := 3) (L := 5) rfl ((htk 3 rfl).2 1)) (All2.cons (ole_ok (p := 3) (L := 5) rfl ((htk 3 rfl).2 2)) (All2.cons (.cells (fun h => h) (all2_row _)) (All2.cons (ole_ok (p := 3) (L := 5) rfl ((htk 3 rfl).2 4)) All2.nil)))))) ?_
            exact k
          · intro K rest fr hv htk k
            show AWops _ x _ _ K ⟨23, (upd 23 (upd 23 fr 19 (D.one (C.own 3 0 (([(⟨r5, v4.If⟩ : api_Sentry)] : List api_Sentry).length) 2))) 12 (D.one (C.own 0 0 x1.length 2))), [(some (AObj.cells true (rowC e_api_Sentry x1))), (hv 1), (hv 2), (some (AObj.cells true (rowC e_api_Sentry ([(⟨r5, v4.If⟩ : api_Sentry)] : List api_Sentry)))), (hv 4)]⟩
            refine t_append (xs := x1) (ys := ([(⟨r5, v4.If⟩ : api_Sentry)] : List api_Sentry)) (zs := x1 ++ ([(⟨r5, v4.If⟩ : api_Sentry)] : List api_Sentry)) (H' := [none, (hv 1), (hv 2), (some (AObj.cells true (rowC e_api_Sentry ([(⟨r5, v4.If⟩ : api_Sentry)] : List api_Sentry)))), (hv 4), (some (AObj.cells true (rowC e_api_Sentry (x1 ++ ([(⟨r5, v4.If⟩ : api_Sentry)] : List api_Sentry)))))]) F.u_33 F.in_83 rfl e_api_Sentry_len (.own rfl rfl) (.own rfl rfl) F.u_33 (by omega) (by omega) rfl rfl ?_
            refine AWops.weak (st' := ⟨23, (upd 23 (upd 23 (upd 23 fr 19 (D.one (C.own 3 0 (([(⟨r5, v4.If⟩ : api_Sentry)] : List api_Sentry).length) 2))) 12 (D.one (C.own 0 0 x1.length 2))) 20 (D.one (C.own 4 0 ((x1 ++ ([(⟨r5, v4.If⟩ : api_Sentry)] : List api_Sentry)).length) 2))), [none, (hv 1), (hv 2), (some (AObj.cells true (rowC e_api_Sentry ([(⟨r5, v4.If⟩ : api_Sentry)] : List api_Sentry)))), (some (AObj.cells true (rowC e_api_Sentry (x1 ++ ([(⟨r5, v4.If⟩ : api_Sentry)] : List api_Sentry)))))]⟩) (Weak.gen (kk := 0) [0, 1, 2, 3, 5] [] hx rfl (by decide) (by decide) rfl rfl rfl (le_upd2 (le_ok (p := 4) (L := 5) rfl (htk 4 rfl).1) (.t (.one (.own rfl)))) (All2.cons (.none _) (All2.cons (ole_ok (p := 4) (L := 5) rfl ((htk 4 rfl).2 1)) (All2.cons (ole_ok (p := 4) (L := 5) rfl ((htk 4 rfl).2 2)) (All2.cons (.cells (fun h => h) (all2_row _)) (All2.cons (.cells (fun h => h) (all2_row _)) All2.nil)))))) ?_
            exact k
          · intro K rest fr hv htk k
            show AWops _ x _ _ K ⟨23, (upd 23 fr 20 (D.one (C.own 4 0 ((x1 ++ ([(⟨r5, v4.If⟩ : api_Sentry)] : List api_Sentry)).length) 2))), [(hv 0), (hv 1), (hv 2), (hv 3), (hv 4)]⟩
            refine s_assign (d := (D.one (C.own 4 0 ((x1 ++ ([(⟨r5, v4.If⟩ : api_Sentry)] : List api_Sentry)).length) 2))) rfl ?_
            exact k
        · refine AWops.weak (st' := ⟨23, (upd 23 (upd 23 (upd 23 (upd 23 topF 3 (D.one (C.own 0 0 ((x1 ++ ([(⟨r5, v4.If⟩ : api_Sentry)] : List api_Sentry)).length) 2))) 6 (D.one (C.p false (.sl a0.length (a0.flatMap e_api_Sentry))))) 7 (sc (.int .i64 (a0.length : Int)))) 8 (sc (.int .i64 x2))), [(some (AObj.cells true (rowC e_api_Sentry (x1 ++ ([(⟨r5, v4.If⟩ : api_Sentry)] : List api_Sentry)))))]⟩) (Weak.gen (kk := 0) [4] [] hx rfl (by decide) (by decide) rfl rfl rfl (le_upd (le_upd (le_upd (le_upd (le_top _) (.t (.one (.own rfl)))) (.t (.one .same))) (.t (.one .sc))) (.t (.one .sc))) (All2.cons (.cells (fun h => h) (all2_row _)) All2.nil)) ?_
          refine AWops.nil ?_
          refine AW.region ?_
          refine s_binI (v := (.int .i64 (IntKind.i64.wrap (x2 + 1)))) rfl rfl rfl ?_
          refine s_move (d := (sc (.int .i64 (IntKind.i64.wrap (x2 + 1))))) rfl ?_
          refine AWops.nil ?_
          exact ⟨_, ⟨23, (upd 23 (upd 23 (upd 23 (upd 23 topF 3 (D.one (C.own 0 0 (x1 ++ ([(⟨r5, v4.If⟩ : api_Sentry)] : List api_Sentry)).length 2))) 6 (D.one (C.p false (.sl a0.length (a0.flatMap e_api_Sentry))))) 7 (sc (.int .i64 (a0.length : Int)))) 8 (sc (.int .i64 (IntKind.i64.wrap (x2 + 1))))), [(some (AObj.cells true (rowC e_api_Sentry (x1 ++ ([(⟨r5, v4.If⟩ : api_Sentry)] : List api_Sentry)))))]⟩, by omega, (Weak.gen (kk := 0) [0] [] hx rfl (by decide) (by decide) rfl rfl rfl (le_upd (le_upd (le_upd (le_upd (le_top _) (.t (.one (.own rfl)))) (.t (.one .same))) (.t (.one .sc))) (.t (.one .sc))) (All2.cons (.cells (fun h => h) (all2_row _)) All2.nil)), by omega, x1 ++ ([(⟨r5, v4.If⟩ : api_Sentry)] : List api_Sentry), IntKind.i64.wrap (x2 + 1), h, rfl⟩
      · replace h := (if_neg c6).symm.trans h
        cases h
    · replace h := (if_neg c3).symm.trans h
      replace c3 := Bool.eq_false_iff.mpr c3
      refine AW.cond_no rfl c3 ?_
      refine AW.exit ?_
      refine AW.seq ?_
      refine AW.region ?_
      refine s_move (d := (D.one (C.own 0 0 x1.length 2))) rfl ?_
      refine s_assign (d := (D.one (C.own 0 0 x1.length 2))) rfl ?_
      refine AWops.nil ?_
      refine AW.ret ?_
      obtain rfl := Option.some.inj h
      exact ⟨_, rfl, (Weak.gen (kk := 0) [0] [] rfl rfl (by decide) (by decide) rfl rfl rfl (le_upd (le_top _) (.t (.one (.own rfl)))) (All2.cons (.cells (fun h => h) (all2_row _)) All2.nil))⟩
end Go.Abs.GenR
