import Derived.Test.YtfejiankcfifpaaDoorAbsZ
import Derived.Test.YtfejiankcfifpaaDoorAbsKZ
import Derived.Test.YtfejiankcfifpaaDoorProg
set_option linter.unusedVariables false
set_option linter.unusedSimpArgs false
set_option maxRecDepth 100000
set_option maxHeartbeats 4000000
namespace Go.Abs.GenI
open Go.Abs Go.Proofs
structure api_Inst where
 Path : ByteArray
 Item : ByteArray
 State : Int
 Before : Int
 Latches : List Int
 Due : Int
abbrev c_api_Inst (x : api_Inst) : List C := [(C.p true (.v (.string x.Path))), (C.p true (.v (.string x.Item))), (C.p true (.v (.int .i64 x.State))), (C.p true (.v (.int .i64 x.Before))), (C.p false (.sl x.Latches.length (x.Latches.flatMap e_i64))), (C.p true (.v (.int .i64 x.Due)))]
abbrev p_api_Inst (x : api_Inst) : List P := [P.v (.string x.Path), P.v (.string x.Item), P.v (.int .i64 x.State), P.v (.int .i64 x.Before), P.sl x.Latches.length (x.Latches.flatMap e_i64), P.v (.int .i64 x.Due)]
def e_api_Inst (x : api_Inst) : List P := e_str x.Path ++ e_str x.Item ++ e_i64 x.State ++ e_i64 x.Before ++ (e_sl e_i64) x.Latches ++ e_i64 x.Due
theorem e_api_Inst_eq (x : api_Inst) : e_api_Inst x = [P.v (.string x.Path), P.v (.string x.Item), P.v (.int .i64 x.State), P.v (.int .i64 x.Before), P.sl x.Latches.length (x.Latches.flatMap e_i64), P.v (.int .i64 x.Due)] := rfl
theorem e_api_Inst_len (x : api_Inst) : (e_api_Inst x).length = 6 := by rw [e_api_Inst_eq]; rfl
structure api_Value where
 Kind : Int
 Int : Int
 Bool : Bool
 Text : ByteArray
abbrev c_api_Value (x : api_Value) : List C := [(C.p true (.v (.int .i64 x.Kind))), (C.p true (.v (.int .i64 x.Int))), (C.p true (.v (.bool x.Bool))), (C.p true (.v (.string x.Text)))]
abbrev p_api_Value (x : api_Value) : List P := [P.v (.int .i64 x.Kind), P.v (.int .i64 x.Int), P.v (.bool x.Bool), P.v (.string x.Text)]
def e_api_Value (x : api_Value) : List P := e_i64 x.Kind ++ e_i64 x.Int ++ e_bool x.Bool ++ e_str x.Text
theorem e_api_Value_eq (x : api_Value) : e_api_Value x = [P.v (.int .i64 x.Kind), P.v (.int .i64 x.Int), P.v (.bool x.Bool), P.v (.string x.Text)] := rfl
theorem e_api_Value_fr (x : api_Value) : ((e_api_Value x).map mkC).all frC = true := rfl
theorem e_api_Value_len (x : api_Value) : (e_api_Value x).length = 4 := by rw [e_api_Value_eq]; rfl
structure api_Doc where
 Path : ByteArray
 Value : api_Value
 Refs : List ByteArray
abbrev c_api_Doc (x : api_Doc) : List C := [(C.p true (.v (.string x.Path))), (C.p true (.v (.int .i64 x.Value.Kind))), (C.p true (.v (.int .i64 x.Value.Int))), (C.p true (.v (.bool x.Value.Bool))), (C.p true (.v (.string x.Value.Text))), (C.p false (.sl x.Refs.length (x.Refs.flatMap e_str)))]
abbrev p_api_Doc (x : api_Doc) : List P := [P.v (.string x.Path), P.v (.int .i64 x.Value.Kind), P.v (.int .i64 x.Value.Int), P.v (.bool x.Value.Bool), P.v (.string x.Value.Text), P.sl x.Refs.length (x.Refs.flatMap e_str)]
def e_api_Doc (x : api_Doc) : List P := e_str x.Path ++ e_api_Value x.Value ++ (e_sl e_str) x.Refs
theorem e_api_Doc_eq (x : api_Doc) : e_api_Doc x = [P.v (.string x.Path), P.v (.int .i64 x.Value.Kind), P.v (.int .i64 x.Value.Int), P.v (.bool x.Value.Bool), P.v (.string x.Value.Text), P.sl x.Refs.length (x.Refs.flatMap e_str)] := by
 simp only [e_api_Doc, e_api_Value_eq]
 rfl
theorem e_api_Doc_len (x : api_Doc) : (e_api_Doc x).length = 6 := by rw [e_api_Doc_eq]; rfl
structure api_Case where
 ID : Int
 Model : ByteArray
 Insts : List api_Inst
 Docs : List api_Doc
 Clock : Int
abbrev c_api_Case (x : api_Case) : List C := [(C.p true (.v (.int .i64 x.ID))), (C.p true (.v (.string x.Model))), (C.p false (.sl x.Insts.length (x.Insts.flatMap e_api_Inst))), (C.p false (.sl x.Docs.length (x.Docs.flatMap e_api_Doc))), (C.p true (.v (.int .i64 x.Clock)))]
abbrev p_api_Case (x : api_Case) : List P := [P.v (.int .i64 x.ID), P.v (.string x.Model), P.sl x.Insts.length (x.Insts.flatMap e_api_Inst), P.sl x.Docs.length (x.Docs.flatMap e_api_Doc), P.v (.int .i64 x.Clock)]
def e_api_Case (x : api_Case) : List P := e_i64 x.ID ++ e_str x.Model ++ (e_sl e_api_Inst) x.Insts ++ (e_sl e_api_Doc) x.Docs ++ e_i64 x.Clock
theorem e_api_Case_eq (x : api_Case) : e_api_Case x = [P.v (.int .i64 x.ID), P.v (.string x.Model), P.sl x.Insts.length (x.Insts.flatMap e_api_Inst), P.sl x.Docs.length (x.Docs.flatMap e_api_Doc), P.v (.int .i64 x.Clock)] := rfl
theorem e_api_Case_len (x : api_Case) : (e_api_Case x).length = 5 := by rw [e_api_Case_eq]; rfl
structure api_Event where
 Path : ByteArray
 File : Bool
 Event : Int
abbrev c_api_Event (x : api_Event) : List C := [(C.p true (.v (.string x.Path))), (C.p true (.v (.bool x.File))), (C.p true (.v (.int .i64 x.Event)))]
abbrev p_api_Event (x : api_Event) : List P := [P.v (.string x.Path), P.v (.bool x.File), P.v (.int .i64 x.Event)]
def e_api_Event (x : api_Event) : List P := e_str x.Path ++ e_bool x.File ++ e_i64 x.Event
theorem e_api_Event_eq (x : api_Event) : e_api_Event x = [P.v (.string x.Path), P.v (.bool x.File), P.v (.int .i64 x.Event)] := rfl
theorem e_api_Event_fr (x : api_Event) : ((e_api_Event x).map mkC).all frC = true := rfl
theorem e_api_Event_len (x : api_Event) : (e_api_Event x).length = 3 := by rw [e_api_Event_eq]; rfl
structure api_Hook where
 Item : ByteArray
 Entry : Bool
 Sentry : Int
 Part : Int
abbrev c_api_Hook (x : api_Hook) : List C := [(C.p true (.v (.string x.Item))), (C.p true (.v (.bool x.Entry))), (C.p true (.v (.int .i64 x.Sentry))), (C.p true (.v (.int .i64 x.Part)))]
abbrev p_api_Hook (x : api_Hook) : List P := [P.v (.string x.Item), P.v (.bool x.Entry), P.v (.int .i64 x.Sentry), P.v (.int .i64 x.Part)]
def e_api_Hook (x : api_Hook) : List P := e_str x.Item ++ e_bool x.Entry ++ e_i64 x.Sentry ++ e_i64 x.Part
theorem e_api_Hook_eq (x : api_Hook) : e_api_Hook x = [P.v (.string x.Item), P.v (.bool x.Entry), P.v (.int .i64 x.Sentry), P.v (.int .i64 x.Part)] := rfl
theorem e_api_Hook_fr (x : api_Hook) : ((e_api_Hook x).map mkC).all frC = true := rfl
theorem e_api_Hook_len (x : api_Hook) : (e_api_Hook x).length = 4 := by rw [e_api_Hook_eq]; rfl
structure api_FileItem where
 Name : ByteArray
 Kind : Int
 Multi : Int
 Kids : List api_FileItem
 Refs : List ByteArray
mutual
def e_api_FileItem : api_FileItem → List P
 | ⟨Name, Kind, Multi, Kids, Refs⟩ => e_str Name ++ e_i64 Kind ++ e_i64 Multi ++ [.sl Kids.length (es_api_FileItem Kids)] ++ (e_sl e_str) Refs
def es_api_FileItem : List api_FileItem → List P
 | [] => []
 | x :: xs => e_api_FileItem x ++ es_api_FileItem xs
end
theorem es_api_FileItem_eq : ∀ xs : List api_FileItem, es_api_FileItem xs = xs.flatMap e_api_FileItem
 | [] => rfl
 | x :: xs => by rw [es_api_FileItem, es_api_FileItem_eq xs]; rfl
abbrev c_api_FileItem (x : api_FileItem) : List C := [(C.p true (.v (.string x.Name))), (C.p true (.v (.int .i64 x.Kind))), (C.p true (.v (.int .i64 x.Multi))), (C.p false (.sl x.Kids.length (x.Kids.flatMap e_api_FileItem))), (C.p false (.sl x.Refs.length (x.Refs.flatMap e_str)))]
abbrev p_api_FileItem (x : api_FileItem) : List P := [P.v (.string x.Name), P.v (.int .i64 x.Kind), P.v (.int .i64 x.Multi), P.sl x.Kids.length (x.Kids.flatMap e_api_FileItem), P.sl x.Refs.length (x.Refs.flatMap e_str)]
theorem e_api_FileItem_eq (x : api_FileItem) : e_api_FileItem x = [P.v (.string x.Name), P.v (.int .i64 x.Kind), P.v (.int .i64 x.Multi), P.sl x.Kids.length (x.Kids.flatMap e_api_FileItem), P.sl x.Refs.length (x.Refs.flatMap e_str)] := by
 cases x
 simp only [e_api_FileItem, es_api_FileItem_eq]
 rfl
theorem e_api_FileItem_len (x : api_FileItem) : (e_api_FileItem x).length = 5 := by rw [e_api_FileItem_eq]; rfl
structure api_OnPart where
 Item : ByteArray
 File : ByteArray
 Event : Int
abbrev c_api_OnPart (x : api_OnPart) : List C := [(C.p true (.v (.string x.Item))), (C.p true (.v (.string x.File))), (C.p true (.v (.int .i64 x.Event)))]
abbrev p_api_OnPart (x : api_OnPart) : List P := [P.v (.string x.Item), P.v (.string x.File), P.v (.int .i64 x.Event)]
def e_api_OnPart (x : api_OnPart) : List P := e_str x.Item ++ e_str x.File ++ e_i64 x.Event
theorem e_api_OnPart_eq (x : api_OnPart) : e_api_OnPart x = [P.v (.string x.Item), P.v (.string x.File), P.v (.int .i64 x.Event)] := rfl
theorem e_api_OnPart_fr (x : api_OnPart) : ((e_api_OnPart x).map mkC).all frC = true := rfl
theorem e_api_OnPart_len (x : api_OnPart) : (e_api_OnPart x).length = 3 := by rw [e_api_OnPart_eq]; rfl
structure api_Sentry where
 On : List api_OnPart
 If : ByteArray
abbrev c_api_Sentry (x : api_Sentry) : List C := [(C.p false (.sl x.On.length (x.On.flatMap e_api_OnPart))), (C.p true (.v (.string x.If)))]
abbrev p_api_Sentry (x : api_Sentry) : List P := [P.sl x.On.length (x.On.flatMap e_api_OnPart), P.v (.string x.If)]
def e_api_Sentry (x : api_Sentry) : List P := (e_sl e_api_OnPart) x.On ++ e_str x.If
theorem e_api_Sentry_eq (x : api_Sentry) : e_api_Sentry x = [P.sl x.On.length (x.On.flatMap e_api_OnPart), P.v (.string x.If)] := rfl
theorem e_api_Sentry_len (x : api_Sentry) : (e_api_Sentry x).length = 2 := by rw [e_api_Sentry_eq]; rfl
structure api_Item where
 ID : ByteArray
 Name : ByteArray
 Kind : Int
 Entry : List api_Sentry
 Exit : List api_Sentry
 Manual : ByteArray
 Required : ByteArray
 Repeat : ByteArray
 Auto : Bool
 Free : Bool
 After : Int
 Roles : List ByteArray
 Kids : List api_Item
 Table : List api_Item
mutual
def e_api_Item : api_Item → List P
 | ⟨ID, Name, Kind, Entry, Exit, Manual, Required, Repeat, Auto, Free, After, Roles, Kids, Table⟩ => e_str ID ++ e_str Name ++ e_i64 Kind ++ (e_sl e_api_Sentry) Entry ++ (e_sl e_api_Sentry) Exit ++ e_str Manual ++ e_str Required ++ e_str Repeat ++ e_bool Auto ++ e_bool Free ++ e_i64 After ++ (e_sl e_str) Roles ++ [.sl Kids.length (es_api_Item Kids)] ++ [.sl Table.length (es_api_Item Table)]
def es_api_Item : List api_Item → List P
 | [] => []
 | x :: xs => e_api_Item x ++ es_api_Item xs
end
theorem es_api_Item_eq : ∀ xs : List api_Item, es_api_Item xs = xs.flatMap e_api_Item
 | [] => rfl
 | x :: xs => by rw [es_api_Item, es_api_Item_eq xs]; rfl
abbrev c_api_Item (x : api_Item) : List C := [(C.p true (.v (.string x.ID))), (C.p true (.v (.string x.Name))), (C.p true (.v (.int .i64 x.Kind))), (C.p false (.sl x.Entry.length (x.Entry.flatMap e_api_Sentry))), (C.p false (.sl x.Exit.length (x.Exit.flatMap e_api_Sentry))), (C.p true (.v (.string x.Manual))), (C.p true (.v (.string x.Required))), (C.p true (.v (.string x.Repeat))), (C.p true (.v (.bool x.Auto))), (C.p true (.v (.bool x.Free))), (C.p true (.v (.int .i64 x.After))), (C.p false (.sl x.Roles.length (x.Roles.flatMap e_str))), (C.p false (.sl x.Kids.length (x.Kids.flatMap e_api_Item))), (C.p false (.sl x.Table.length (x.Table.flatMap e_api_Item)))]
abbrev p_api_Item (x : api_Item) : List P := [P.v (.string x.ID), P.v (.string x.Name), P.v (.int .i64 x.Kind), P.sl x.Entry.length (x.Entry.flatMap e_api_Sentry), P.sl x.Exit.length (x.Exit.flatMap e_api_Sentry), P.v (.string x.Manual), P.v (.string x.Required), P.v (.string x.Repeat), P.v (.bool x.Auto), P.v (.bool x.Free), P.v (.int .i64 x.After), P.sl x.Roles.length (x.Roles.flatMap e_str), P.sl x.Kids.length (x.Kids.flatMap e_api_Item), P.sl x.Table.length (x.Table.flatMap e_api_Item)]
theorem e_api_Item_eq (x : api_Item) : e_api_Item x = [P.v (.string x.ID), P.v (.string x.Name), P.v (.int .i64 x.Kind), P.sl x.Entry.length (x.Entry.flatMap e_api_Sentry), P.sl x.Exit.length (x.Exit.flatMap e_api_Sentry), P.v (.string x.Manual), P.v (.string x.Required), P.v (.string x.Repeat), P.v (.bool x.Auto), P.v (.bool x.Free), P.v (.int .i64 x.After), P.sl x.Roles.length (x.Roles.flatMap e_str), P.sl x.Kids.length (x.Kids.flatMap e_api_Item), P.sl x.Table.length (x.Table.flatMap e_api_Item)] := by
 cases x
 simp only [e_api_Item, es_api_Item_eq]
 rfl
theorem e_api_Item_len (x : api_Item) : (e_api_Item x).length = 14 := by rw [e_api_Item_eq]; rfl
structure api_Model where
 ID : ByteArray
 Name : ByteArray
 Roles : List ByteArray
 Files : List api_FileItem
 Plan : api_Item
abbrev c_api_Model (x : api_Model) : List C := [(C.p true (.v (.string x.ID))), (C.p true (.v (.string x.Name))), (C.p false (.sl x.Roles.length (x.Roles.flatMap e_str))), (C.p false (.sl x.Files.length (x.Files.flatMap e_api_FileItem))), (C.p true (.v (.string x.Plan.ID))), (C.p true (.v (.string x.Plan.Name))), (C.p true (.v (.int .i64 x.Plan.Kind))), (C.p false (.sl x.Plan.Entry.length (x.Plan.Entry.flatMap e_api_Sentry))), (C.p false (.sl x.Plan.Exit.length (x.Plan.Exit.flatMap e_api_Sentry))), (C.p true (.v (.string x.Plan.Manual))), (C.p true (.v (.string x.Plan.Required))), (C.p true (.v (.string x.Plan.Repeat))), (C.p true (.v (.bool x.Plan.Auto))), (C.p true (.v (.bool x.Plan.Free))), (C.p true (.v (.int .i64 x.Plan.After))), (C.p false (.sl x.Plan.Roles.length (x.Plan.Roles.flatMap e_str))), (C.p false (.sl x.Plan.Kids.length (x.Plan.Kids.flatMap e_api_Item))), (C.p false (.sl x.Plan.Table.length (x.Plan.Table.flatMap e_api_Item)))]
abbrev p_api_Model (x : api_Model) : List P := [P.v (.string x.ID), P.v (.string x.Name), P.sl x.Roles.length (x.Roles.flatMap e_str), P.sl x.Files.length (x.Files.flatMap e_api_FileItem), P.v (.string x.Plan.ID), P.v (.string x.Plan.Name), P.v (.int .i64 x.Plan.Kind), P.sl x.Plan.Entry.length (x.Plan.Entry.flatMap e_api_Sentry), P.sl x.Plan.Exit.length (x.Plan.Exit.flatMap e_api_Sentry), P.v (.string x.Plan.Manual), P.v (.string x.Plan.Required), P.v (.string x.Plan.Repeat), P.v (.bool x.Plan.Auto), P.v (.bool x.Plan.Free), P.v (.int .i64 x.Plan.After), P.sl x.Plan.Roles.length (x.Plan.Roles.flatMap e_str), P.sl x.Plan.Kids.length (x.Plan.Kids.flatMap e_api_Item), P.sl x.Plan.Table.length (x.Plan.Table.flatMap e_api_Item)]
def e_api_Model (x : api_Model) : List P := e_str x.ID ++ e_str x.Name ++ (e_sl e_str) x.Roles ++ (e_sl e_api_FileItem) x.Files ++ e_api_Item x.Plan
theorem e_api_Model_eq (x : api_Model) : e_api_Model x = [P.v (.string x.ID), P.v (.string x.Name), P.sl x.Roles.length (x.Roles.flatMap e_str), P.sl x.Files.length (x.Files.flatMap e_api_FileItem), P.v (.string x.Plan.ID), P.v (.string x.Plan.Name), P.v (.int .i64 x.Plan.Kind), P.sl x.Plan.Entry.length (x.Plan.Entry.flatMap e_api_Sentry), P.sl x.Plan.Exit.length (x.Plan.Exit.flatMap e_api_Sentry), P.v (.string x.Plan.Manual), P.v (.string x.Plan.Required), P.v (.string x.Plan.Repeat), P.v (.bool x.Plan.Auto), P.v (.bool x.Plan.Free), P.v (.int .i64 x.Plan.After), P.sl x.Plan.Roles.length (x.Plan.Roles.flatMap e_str), P.sl x.Plan.Kids.length (x.Plan.Kids.flatMap e_api_Item), P.sl x.Plan.Table.length (x.Plan.Table.flatMap e_api_Item)] := by
 simp only [e_api_Model, e_api_Item_eq]
 rfl
theorem e_api_Model_len (x : api_Model) : (e_api_Model x).length = 18 := by rw [e_api_Model_eq]; rfl
structure index_source where
 name : ByteArray
 file : Bool
 event : Int
abbrev c_index_source (x : index_source) : List C := [(C.p true (.v (.string x.name))), (C.p true (.v (.bool x.file))), (C.p true (.v (.int .i64 x.event)))]
abbrev p_index_source (x : index_source) : List P := [P.v (.string x.name), P.v (.bool x.file), P.v (.int .i64 x.event)]
def e_index_source (x : index_source) : List P := e_str x.name ++ e_bool x.file ++ e_i64 x.event
theorem e_index_source_eq (x : index_source) : e_index_source x = [P.v (.string x.name), P.v (.bool x.file), P.v (.int .i64 x.event)] := rfl
theorem e_index_source_fr (x : index_source) : ((e_index_source x).map mkC).all frC = true := rfl
theorem e_index_source_len (x : index_source) : (e_index_source x).length = 3 := by rw [e_index_source_eq]; rfl
structure index_Index where
 m : api_Model
 hooks : List (index_source × List api_Hook)
instance : DecidableEq index_source := fun a b => decidable_of_iff (a.name = b.name ∧ a.file = b.file ∧ a.event = b.event) (by cases a; cases b; simp)
def ok_index_source (k : index_source) : Bool := decide (k.name.size ≤ maxLen) && (Lit.int .i64 k.event).wf
theorem hp_index_source (k : index_source) : ∀ p ∈ e_index_source k, ∃ y, p = .v y := by
 rw [e_index_source_eq]
 intro p hp
 simp only [List.mem_cons, List.mem_nil_iff, or_false] at hp
 rcases hp with rfl | rfl | rfl <;> exact ⟨_, rfl⟩
theorem Kindex_source (k : index_source) (h : ok_index_source k = true) : ∃ l, keyOf Tryd.prog 75 (kvs e_index_source k) = some l := by
 simp only [ok_index_source, Bool.and_eq_true, decide_eq_true_eq] at h
 obtain ⟨d, hd⟩ : ∃ d, Tryd.prog.types.size = d + 1 := ⟨Tryd.prog.types.size - 1, by
  have := Nat.le_of_ble_eq_true (by kernel_rfl : Nat.ble 1 Tryd.prog.types.size = true)
  omega⟩
 refine keyOf_struct (fs := fsOf Tryd.prog 75) (fl := [(9, 0), (4, 1), (3, 2)]) (vs := [.string k.name, .bool k.file, .int .i64 k.event]) (D := d + 1) (ls := [[.string k.name.data.toList], [.bool k.file], [.int .i64 k.event]]) (by kernel_rfl) (by kernel_rfl) (by kernel_rfl) (by kernel_rfl) (by kernel_rfl) hd ?_
 have c0 : Tryd.prog.cellsOf 9 = 1 := by kernel_rfl
 have u0 : Tryd.prog.underlying 9 = some .string := by kernel_rfl
 have l0 := keyLits_str (d := d) u0 k.name h.1
 have c1 : Tryd.prog.cellsOf 4 = 1 := by kernel_rfl
 have u1 : Tryd.prog.underlying 4 = some .bool := by kernel_rfl
 have l1 := keyLits_bool (d := d) u1 k.file
 have c2 : Tryd.prog.cellsOf 3 = 1 := by kernel_rfl
 have u2 : Tryd.prog.underlying 3 = some (.int .i64) := by kernel_rfl
 have l2 := keyLits_int (d := d) u2 k.event h.2
 simp only [List.mapM_cons, List.mapM_nil, c0, c1, c2, List.drop_zero, List.drop_succ_cons, List.take_succ_cons, List.take_zero, l0, l1, l2]
 rfl
theorem kok_index_source : KOK Tryd.prog 75 e_index_source ok_index_source where
 law := deep_law (m := 3) (by decide) (by kernel_rfl) (by kernel_rfl) (by kernel_rfl)
 key := fun k h => Kindex_source k h
 inj := fun a b h => by
  unfold kvs at h
  rw [e_index_source_eq, e_index_source_eq] at h
  simp only [List.map_cons, List.map_nil, pv] at h
  cases a; cases b
  simp at h
  simp [h]
abbrev o_api_Case_23 (fr : Bool) (c2 c3 : C) (x : api_Case) : Option AObj := some (AObj.cells fr [(C.p true (.v (.int .i64 x.ID))), (C.p true (.v (.string x.Model))), c2, c3, (C.p true (.v (.int .i64 x.Clock)))])
abbrev o_api_Item_34 (fr : Bool) (c3 c4 : C) (x : api_Item) : Option AObj := some (AObj.cells fr [(C.p true (.v (.string x.ID))), (C.p true (.v (.string x.Name))), (C.p true (.v (.int .i64 x.Kind))), c3, c4, (C.p true (.v (.string x.Manual))), (C.p true (.v (.string x.Required))), (C.p true (.v (.string x.Repeat))), (C.p true (.v (.bool x.Auto))), (C.p true (.v (.bool x.Free))), (C.p true (.v (.int .i64 x.After))), (C.p false (.sl x.Roles.length (x.Roles.flatMap e_str))), (C.p false (.sl x.Kids.length (x.Kids.flatMap e_api_Item))), (C.p false (.sl x.Table.length (x.Table.flatMap e_api_Item)))])
abbrev o_api_Item_3411 (fr : Bool) (c3 c4 c11 : C) (x : api_Item) : Option AObj := some (AObj.cells fr [(C.p true (.v (.string x.ID))), (C.p true (.v (.string x.Name))), (C.p true (.v (.int .i64 x.Kind))), c3, c4, (C.p true (.v (.string x.Manual))), (C.p true (.v (.string x.Required))), (C.p true (.v (.string x.Repeat))), (C.p true (.v (.bool x.Auto))), (C.p true (.v (.bool x.Free))), (C.p true (.v (.int .i64 x.After))), c11, (C.p false (.sl x.Kids.length (x.Kids.flatMap e_api_Item))), (C.p false (.sl x.Table.length (x.Table.flatMap e_api_Item)))])
abbrev o_api_Item_34111213 (fr : Bool) (c3 c4 c11 c12 c13 : C) (x : api_Item) : Option AObj := some (AObj.cells fr [(C.p true (.v (.string x.ID))), (C.p true (.v (.string x.Name))), (C.p true (.v (.int .i64 x.Kind))), c3, c4, (C.p true (.v (.string x.Manual))), (C.p true (.v (.string x.Required))), (C.p true (.v (.string x.Repeat))), (C.p true (.v (.bool x.Auto))), (C.p true (.v (.bool x.Free))), (C.p true (.v (.int .i64 x.After))), c11, c12, c13])
abbrev o_api_Item_341112 (fr : Bool) (c3 c4 c11 c12 : C) (x : api_Item) : Option AObj := some (AObj.cells fr [(C.p true (.v (.string x.ID))), (C.p true (.v (.string x.Name))), (C.p true (.v (.int .i64 x.Kind))), c3, c4, (C.p true (.v (.string x.Manual))), (C.p true (.v (.string x.Required))), (C.p true (.v (.string x.Repeat))), (C.p true (.v (.bool x.Auto))), (C.p true (.v (.bool x.Free))), (C.p true (.v (.int .i64 x.After))), c11, c12, (C.p false (.sl x.Table.length (x.Table.flatMap e_api_Item)))])
abbrev o_api_Item_3 (fr : Bool) (c3 : C) (x : api_Item) : Option AObj := some (AObj.cells fr [(C.p true (.v (.string x.ID))), (C.p true (.v (.string x.Name))), (C.p true (.v (.int .i64 x.Kind))), c3, (C.p false (.sl x.Exit.length (x.Exit.flatMap e_api_Sentry))), (C.p true (.v (.string x.Manual))), (C.p true (.v (.string x.Required))), (C.p true (.v (.string x.Repeat))), (C.p true (.v (.bool x.Auto))), (C.p true (.v (.bool x.Free))), (C.p true (.v (.int .i64 x.After))), (C.p false (.sl x.Roles.length (x.Roles.flatMap e_str))), (C.p false (.sl x.Kids.length (x.Kids.flatMap e_api_Item))), (C.p false (.sl x.Table.length (x.Table.flatMap e_api_Item)))])
namespace F
theorem fo_25_2 : fieldOf Tryd.prog 25 2 = some (2, 1, false) := by kernel_rfl
theorem z_51 : zeroOf Tryd.prog 51 = some (.agg #[(.string ⟨#[]⟩), (.string ⟨#[]⟩), (.int .i64 0), (.int .i64 0), (.slice none 0 0), (.int .i64 0)]) := by kernel_rfl
theorem fo_51_0 : fieldOf Tryd.prog 51 0 = some (0, 1, false) := by kernel_rfl
theorem fo_51_4 : fieldOf Tryd.prog 51 4 = some (4, 1, false) := by kernel_rfl
theorem u_49 : Tryd.prog.underlying 49 = some (.slice 3) := by kernel_rfl
theorem ag_49 : aggOf Tryd.prog 49 = some false := by kernel_rfl
theorem u_9 : Tryd.prog.underlying 9 = some (.string) := by kernel_rfl
theorem ag_9 : aggOf Tryd.prog 9 = some false := by kernel_rfl
theorem sz_51 : szOf Tryd.prog 51 = some 6 := by kernel_rfl
theorem ag_51 : aggOf Tryd.prog 51 = some true := by kernel_rfl
theorem u_22 : Tryd.prog.underlying 22 = some (.slice 51) := by kernel_rfl
theorem fo_25_3 : fieldOf Tryd.prog 25 3 = some (3, 1, false) := by kernel_rfl
theorem z_55 : zeroOf Tryd.prog 55 = some (.agg #[(.string ⟨#[]⟩), (.int .i64 0), (.int .i64 0), (.bool false), (.string ⟨#[]⟩), (.slice none 0 0)]) := by kernel_rfl
theorem fo_55_0 : fieldOf Tryd.prog 55 0 = some (0, 1, false) := by kernel_rfl
theorem fo_55_2 : fieldOf Tryd.prog 55 2 = some (5, 1, false) := by kernel_rfl
theorem u_31 : Tryd.prog.underlying 31 = some (.slice 9) := by kernel_rfl
theorem ag_31 : aggOf Tryd.prog 31 = some false := by kernel_rfl
theorem sz_55 : szOf Tryd.prog 55 = some 6 := by kernel_rfl
theorem ag_55 : aggOf Tryd.prog 55 = some true := by kernel_rfl
theorem u_23 : Tryd.prog.underlying 23 = some (.slice 55) := by kernel_rfl
theorem ag_23 : aggOf Tryd.prog 23 = some false := by kernel_rfl
theorem ag_22 : aggOf Tryd.prog 22 = some false := by kernel_rfl
theorem z_41 : zeroOf Tryd.prog 41 = some (.agg #[(.string ⟨#[]⟩), (.string ⟨#[]⟩), (.slice none 0 0), (.slice none 0 0), (.string ⟨#[]⟩), (.string ⟨#[]⟩), (.int .i64 0), (.slice none 0 0), (.slice none 0 0), (.string ⟨#[]⟩), (.string ⟨#[]⟩), (.string ⟨#[]⟩), (.bool false), (.bool false), (.int .i64 0), (.slice none 0 0), (.slice none 0 0), (.slice none 0 0), (.map none)]) := by kernel_rfl
theorem so_41 : structOk Tryd.prog 41 = true := by kernel_rfl
theorem z_25 : zeroOf Tryd.prog 25 = some (.agg #[(.int .i64 0), (.string ⟨#[]⟩), (.slice none 0 0), (.slice none 0 0), (.int .i64 0)]) := by kernel_rfl
theorem in_3 : infoQ Tryd.prog 3 = some (some (.int .i64 0), 1, 8) := by kernel_rfl
theorem sz_3 : szOf Tryd.prog 3 = some 1 := by kernel_rfl
theorem z_3 : zeroOf Tryd.prog 3 = some (.int .i64 0) := by kernel_rfl
theorem sz_49 : szOf Tryd.prog 49 = some 1 := by kernel_rfl
theorem ca_38 : callable Tryd.prog 38 = true := by kernel_rfl
theorem ca_23 : callable Tryd.prog 23 = true := by kernel_rfl
theorem in_51 : infoQ Tryd.prog 51 = some (some (.agg #[(.string ⟨#[]⟩), (.string ⟨#[]⟩), (.int .i64 0), (.int .i64 0), (.slice none 0 0), (.int .i64 0)]), 6, 80) := by kernel_rfl
theorem sz_22 : szOf Tryd.prog 22 = some 1 := by kernel_rfl
theorem in_9 : infoQ Tryd.prog 9 = some (some (.string ⟨#[]⟩), 1, 16) := by kernel_rfl
theorem sz_9 : szOf Tryd.prog 9 = some 1 := by kernel_rfl
theorem z_9 : zeroOf Tryd.prog 9 = some (.string ⟨#[]⟩) := by kernel_rfl
theorem sz_23 : szOf Tryd.prog 23 = some 1 := by kernel_rfl
theorem in_55 : infoQ Tryd.prog 55 = some (some (.agg #[(.string ⟨#[]⟩), (.int .i64 0), (.int .i64 0), (.bool false), (.string ⟨#[]⟩), (.slice none 0 0)]), 6, 80) := by kernel_rfl
theorem sz_31 : szOf Tryd.prog 31 = some 1 := by kernel_rfl
theorem ca_24 : callable Tryd.prog 24 = true := by kernel_rfl
theorem sz_25 : szOf Tryd.prog 25 = some 5 := by kernel_rfl
theorem ag_25 : aggOf Tryd.prog 25 = some true := by kernel_rfl
theorem u_30 : Tryd.prog.underlying 30 = some (.pointer 41) := by kernel_rfl
theorem ca_11 : callable Tryd.prog 11 = true := by kernel_rfl
theorem ca_10 : callable Tryd.prog 10 = true := by kernel_rfl
theorem fo_25_0 : fieldOf Tryd.prog 25 0 = some (0, 1, false) := by kernel_rfl
theorem fo_25_1 : fieldOf Tryd.prog 25 1 = some (1, 1, false) := by kernel_rfl
theorem fo_25_4 : fieldOf Tryd.prog 25 4 = some (4, 1, false) := by kernel_rfl
theorem fo_55_1 : fieldOf Tryd.prog 55 1 = some (1, 4, true) := by kernel_rfl
theorem ag_53 : aggOf Tryd.prog 53 = some true := by kernel_rfl
theorem sz_53 : szOf Tryd.prog 53 = some 4 := by kernel_rfl
theorem ff_53 : flatFs Tryd.prog 53 = some [(0, .int .i64), (1, .int .i64), (2, .bool), (3, .string)] := by kernel_rfl
theorem ca_34 : callable Tryd.prog 34 = true := by kernel_rfl
theorem fo_51_1 : fieldOf Tryd.prog 51 1 = some (1, 1, false) := by kernel_rfl
theorem fo_51_2 : fieldOf Tryd.prog 51 2 = some (2, 1, false) := by kernel_rfl
theorem fo_51_3 : fieldOf Tryd.prog 51 3 = some (3, 1, false) := by kernel_rfl
theorem fo_51_5 : fieldOf Tryd.prog 51 5 = some (5, 1, false) := by kernel_rfl
theorem ag_3 : aggOf Tryd.prog 3 = some false := by kernel_rfl
theorem ca_20 : callable Tryd.prog 20 = true := by kernel_rfl
theorem ca_19 : callable Tryd.prog 19 = true := by kernel_rfl
theorem ca_8 : callable Tryd.prog 8 = true := by kernel_rfl
theorem u_45 : Tryd.prog.underlying 45 = some (.slice 63) := by kernel_rfl
theorem ca_7 : callable Tryd.prog 7 = true := by kernel_rfl
theorem ag_27 : aggOf Tryd.prog 27 = some true := by kernel_rfl
theorem sz_27 : szOf Tryd.prog 27 = some 3 := by kernel_rfl
theorem ca_6 : callable Tryd.prog 6 = true := by kernel_rfl
theorem ag_30 : aggOf Tryd.prog 30 = some false := by kernel_rfl
theorem u_42 : Tryd.prog.underlying 42 = some (.slice 30) := by kernel_rfl
theorem sz_30 : szOf Tryd.prog 30 = some 1 := by kernel_rfl
theorem fo_41_1 : fieldOf Tryd.prog 41 1 = some (18, 1, false) := by kernel_rfl
theorem u_39 : Tryd.prog.underlying 39 = some (.map 75 45) := by kernel_rfl
theorem ag_39 : aggOf Tryd.prog 39 = some false := by kernel_rfl
theorem fo_27_1 : fieldOf Tryd.prog 27 1 = some (1, 1, false) := by kernel_rfl
theorem fo_27_0 : fieldOf Tryd.prog 27 0 = some (0, 1, false) := by kernel_rfl
theorem ca_50 : callable Tryd.prog 50 = true := by kernel_rfl
theorem u_115 : Tryd.prog.underlying 115 = some (.slice 5) := by kernel_rfl
theorem u_5 : Tryd.prog.underlying 5 = some (.int .u8) := by kernel_rfl
theorem u_129 : Tryd.prog.underlying 129 = some (.int .u64) := by kernel_rfl
theorem ag_5 : aggOf Tryd.prog 5 = some false := by kernel_rfl
theorem sz_5 : szOf Tryd.prog 5 = some 1 := by kernel_rfl
theorem u_3 : Tryd.prog.underlying 3 = some (.int .i64) := by kernel_rfl
theorem ca_45 : callable Tryd.prog 45 = true := by kernel_rfl
theorem ca_33 : callable Tryd.prog 33 = true := by kernel_rfl
theorem ca_32 : callable Tryd.prog 32 = true := by kernel_rfl
theorem fo_27_2 : fieldOf Tryd.prog 27 2 = some (2, 1, false) := by kernel_rfl
theorem z_75 : zeroOf Tryd.prog 75 = some (.agg #[(.string ⟨#[]⟩), (.bool false), (.int .i64 0)]) := by kernel_rfl
theorem so_75 : structOk Tryd.prog 75 = true := by kernel_rfl
theorem ca_18 : callable Tryd.prog 18 = true := by kernel_rfl
theorem ag_4 : aggOf Tryd.prog 4 = some false := by kernel_rfl
theorem fo_41_0 : fieldOf Tryd.prog 41 0 = some (0, 18, true) := by kernel_rfl
theorem ag_38 : aggOf Tryd.prog 38 = some true := by kernel_rfl
theorem sz_38 : szOf Tryd.prog 38 = some 18 := by kernel_rfl
theorem z_57 : zeroOf Tryd.prog 57 = some (.agg #[(.string ⟨#[]⟩), (.string ⟨#[]⟩), (.int .i64 0)]) := by kernel_rfl
theorem so_57 : structOk Tryd.prog 57 = true := by kernel_rfl
theorem z_60 : zeroOf Tryd.prog 60 = some (.agg #[(.slice none 0 0), (.string ⟨#[]⟩)]) := by kernel_rfl
theorem so_60 : structOk Tryd.prog 60 = true := by kernel_rfl
theorem z_36 : zeroOf Tryd.prog 36 = some (.agg #[(.string ⟨#[]⟩), (.string ⟨#[]⟩), (.int .i64 0), (.slice none 0 0), (.slice none 0 0), (.string ⟨#[]⟩), (.string ⟨#[]⟩), (.string ⟨#[]⟩), (.bool false), (.bool false), (.int .i64 0), (.slice none 0 0), (.slice none 0 0), (.slice none 0 0)]) := by kernel_rfl
theorem so_36 : structOk Tryd.prog 36 = true := by kernel_rfl
theorem z_38 : zeroOf Tryd.prog 38 = some (.agg #[(.string ⟨#[]⟩), (.string ⟨#[]⟩), (.slice none 0 0), (.slice none 0 0), (.string ⟨#[]⟩), (.string ⟨#[]⟩), (.int .i64 0), (.slice none 0 0), (.slice none 0 0), (.string ⟨#[]⟩), (.string ⟨#[]⟩), (.string ⟨#[]⟩), (.bool false), (.bool false), (.int .i64 0), (.slice none 0 0), (.slice none 0 0), (.slice none 0 0)]) := by kernel_rfl
theorem so_38 : structOk Tryd.prog 38 = true := by kernel_rfl
theorem z_34 : zeroOf Tryd.prog 34 = some (.slice none 0 0) := by kernel_rfl
theorem fo_38_4 : fieldOf Tryd.prog 38 4 = some (4, 14, true) := by kernel_rfl
theorem ag_34 : aggOf Tryd.prog 34 = some false := by kernel_rfl
theorem ag_36 : aggOf Tryd.prog 36 = some true := by kernel_rfl
theorem sz_36 : szOf Tryd.prog 36 = some 14 := by kernel_rfl
theorem fo_36_3 : fieldOf Tryd.prog 36 3 = some (3, 1, false) := by kernel_rfl
theorem ag_33 : aggOf Tryd.prog 33 = some false := by kernel_rfl
theorem fo_60_0 : fieldOf Tryd.prog 60 0 = some (0, 1, false) := by kernel_rfl
theorem ag_58 : aggOf Tryd.prog 58 = some false := by kernel_rfl
theorem u_58 : Tryd.prog.underlying 58 = some (.slice 57) := by kernel_rfl
theorem in_57 : infoQ Tryd.prog 57 = some (some (.agg #[(.string ⟨#[]⟩), (.string ⟨#[]⟩), (.int .i64 0)]), 3, 40) := by kernel_rfl
theorem sz_57 : szOf Tryd.prog 57 = some 3 := by kernel_rfl
theorem ca_52 : callable Tryd.prog 52 = true := by kernel_rfl
theorem fo_60_1 : fieldOf Tryd.prog 60 1 = some (1, 1, false) := by kernel_rfl
theorem u_33 : Tryd.prog.underlying 33 = some (.slice 60) := by kernel_rfl
theorem sz_60 : szOf Tryd.prog 60 = some 2 := by kernel_rfl
theorem in_60 : infoQ Tryd.prog 60 = some (some (.agg #[(.slice none 0 0), (.string ⟨#[]⟩)]), 2, 40) := by kernel_rfl
theorem ag_60 : aggOf Tryd.prog 60 = some true := by kernel_rfl
theorem ca_51 : callable Tryd.prog 51 = true := by kernel_rfl
theorem fo_36_4 : fieldOf Tryd.prog 36 4 = some (4, 1, false) := by kernel_rfl
theorem sz_33 : szOf Tryd.prog 33 = some 1 := by kernel_rfl
theorem fo_36_11 : fieldOf Tryd.prog 36 11 = some (11, 1, false) := by kernel_rfl
theorem fo_36_12 : fieldOf Tryd.prog 36 12 = some (12, 1, false) := by kernel_rfl
theorem u_34 : Tryd.prog.underlying 34 = some (.slice 36) := by kernel_rfl
theorem in_36 : infoQ Tryd.prog 36 = some (some (.agg #[(.string ⟨#[]⟩), (.string ⟨#[]⟩), (.int .i64 0), (.slice none 0 0), (.slice none 0 0), (.string ⟨#[]⟩), (.string ⟨#[]⟩), (.string ⟨#[]⟩), (.bool false), (.bool false), (.int .i64 0), (.slice none 0 0), (.slice none 0 0), (.slice none 0 0)]), 14, 224) := by kernel_rfl
theorem ca_37 : callable Tryd.prog 37 = true := by kernel_rfl
theorem ca_53 : callable Tryd.prog 53 = true := by kernel_rfl
theorem fo_36_13 : fieldOf Tryd.prog 36 13 = some (13, 1, false) := by kernel_rfl
theorem sz_34 : szOf Tryd.prog 34 = some 1 := by kernel_rfl
theorem fo_36_0 : fieldOf Tryd.prog 36 0 = some (0, 1, false) := by kernel_rfl
theorem u_124 : Tryd.prog.underlying 124 = some (.array 2 34) := by kernel_rfl
theorem z_124 : zeroOf Tryd.prog 124 = some (.agg #[(.slice none 0 0), (.slice none 0 0)]) := by kernel_rfl
theorem ca_35 : callable Tryd.prog 35 = true := by kernel_rfl
theorem ca_36 : callable Tryd.prog 36 = true := by kernel_rfl
theorem fo_57_0 : fieldOf Tryd.prog 57 0 = some (0, 1, false) := by kernel_rfl
theorem fo_57_2 : fieldOf Tryd.prog 57 2 = some (2, 1, false) := by kernel_rfl
theorem fo_57_1 : fieldOf Tryd.prog 57 1 = some (1, 1, false) := by kernel_rfl
theorem sz_75 : szOf Tryd.prog 75 = some 3 := by kernel_rfl
theorem ag_75 : aggOf Tryd.prog 75 = some true := by kernel_rfl
theorem z_63 : zeroOf Tryd.prog 63 = some (.agg #[(.string ⟨#[]⟩), (.bool false), (.int .i64 0), (.int .i64 0)]) := by kernel_rfl
theorem so_63 : structOk Tryd.prog 63 = true := by kernel_rfl
theorem sz_63 : szOf Tryd.prog 63 = some 4 := by kernel_rfl
theorem z_45 : zeroOf Tryd.prog 45 = some (.slice none 0 0) := by kernel_rfl
theorem in_63 : infoQ Tryd.prog 63 = some (some (.agg #[(.string ⟨#[]⟩), (.bool false), (.int .i64 0), (.int .i64 0)]), 4, 40) := by kernel_rfl
theorem ag_57 : aggOf Tryd.prog 57 = some true := by kernel_rfl
theorem ca_22 : callable Tryd.prog 22 = true := by kernel_rfl
theorem ca_21 : callable Tryd.prog 21 = true := by kernel_rfl
theorem z_27 : zeroOf Tryd.prog 27 = some (.agg #[(.string ⟨#[]⟩), (.bool false), (.int .i64 0)]) := by kernel_rfl
theorem so_27 : structOk Tryd.prog 27 = true := by kernel_rfl
theorem ca_17 : callable Tryd.prog 17 = true := by kernel_rfl
theorem fo_63_0 : fieldOf Tryd.prog 63 0 = some (0, 1, false) := by kernel_rfl
theorem fo_63_1 : fieldOf Tryd.prog 63 1 = some (1, 1, false) := by kernel_rfl
theorem ca_9 : callable Tryd.prog 9 = true := by kernel_rfl
theorem ca_5 : callable Tryd.prog 5 = true := by kernel_rfl
theorem z_30 : zeroOf Tryd.prog 30 = some (.pointer none) := by kernel_rfl
theorem ca_4 : callable Tryd.prog 4 = true := by kernel_rfl
end F
mutual
def dossierplain_Case.l1 : Nat → Int → api_Case → Option Bool
 | 0, _, _ => none
 | k + 1, x6, a0 => if (decide (x6 < (a0.Docs.length : Int))) = true then ((rd a0.Docs x6).bind fun v8 => if (decide ((v8.Path.size : Int) > 400)) = true then (some false) else (if (decide ((v8.Refs.length : Int) > 40)) = true then (some false) else (dossierplain_Case.l1 k (IntKind.i64.wrap (x6 + 1)) a0))) else (if (decide ((a0.Insts.length : Int) ≤ 40)) = true then (some (decide ((a0.Docs.length : Int) ≤ 30))) else (some false))
def dossierplain_Case.l0 : Nat → Int → api_Case → Option Bool
 | 0, _, _ => none
 | k + 1, x1, a0 => if (decide (x1 < (a0.Insts.length : Int))) = true then ((rd a0.Insts x1).bind fun v3 => if (decide ((v3.Path.size : Int) > 400)) = true then (some false) else (if (decide ((v3.Latches.length : Int) > 40)) = true then (some false) else (dossierplain_Case.l0 k (IntKind.i64.wrap (x1 + 1)) a0))) else (dossierplain_Case.l1 k 0 a0)
end
def dossierplain_Case.f (k : Nat) (a0 : api_Case) : Option Bool := dossierplain_Case.l0 k 0 a0
theorem dossierplain_Case.meets (k : Nat) (a0 : api_Case) (r : Bool) (h : dossierplain_Case.f k a0 = some r) : Meets Tryd.prog 4 [(D.agg (c_api_Case a0))] [] (sb r) [] := by
 unfold dossierplain_Case.f at h
 refine Meets.of_body (n := 53) Tryd.func4 rfl rfl (nl rfl) fun x hx => ?_
 replace hx : x.k = 0 := hx
 show AW _ x _ _ ⟨53, fr0 [(D.agg (c_api_Case a0))], []⟩
 refine AW.seq (AW.region ?_)
 refine s_box (cs := (c_api_Case a0)) rfl (List.cons_ne_nil _ _) rfl (s_assign (d := (sb false)) rfl (AWops.nil (AW.seq (AW.seq (AW.region (s_fieldRef F.fo_25_2 (by decide) rfl (s_load1 (c' := (C.p false (.sl a0.Insts.length (a0.Insts.flatMap e_api_Inst)))) F.ag_22 rfl rfl (s_len (n := a0.Insts.length) F.u_22 rfl (.inr ⟨(fun _ _ h => by cases h), ⟨_, rfl⟩⟩) (s_move (d := (si 0)) rfl (AWops.nil (AW.block ?_)))))))))))
 refine AW.loopw (st0 := ⟨53, (upd 53 (upd 53 (upd 53 (upd 53 topF 1 (rf 0 0)) 8 (D.one (C.p false (.sl a0.Insts.length (a0.Insts.flatMap e_api_Inst))))) 9 (si (a0.Insts.length : Int))) 10 (si 0)), [(some (AObj.cells true (c_api_Case a0)))]⟩) (fun kv st => kv ≤ k ∧ ∃ (x1 : Int), dossierplain_Case.l0 kv x1 a0 = some r ∧ st = ⟨53, (upd 53 (upd 53 (upd 53 (upd 53 topF 1 (rf 0 0)) 8 (D.one (C.p false (.sl a0.Insts.length (a0.Insts.flatMap e_api_Inst))))) 9 (si (a0.Insts.length : Int))) 10 (si x1)), [(some (AObj.cells true (c_api_Case a0)))]⟩) (k := k) (wg 0 [0] [] hx (le_upd (le_upd (le_upd (le_upd (le_top _) (o1 (.ref rfl))) (o1 .same)) (o1 .sc)) (o1 .sc)) (ac (.cells (fun _ => rfl) (ac .sc (ac .sc (ac .same (ac .same (ac .sc an)))))) an)) ⟨Nat.le_refl _, 0, h, rfl⟩ ?_
 rintro ql0 st ⟨hkl0, x1, h, rfl⟩
 cases ql0 with
 | zero => exact absurd h (by simp [dossierplain_Case.l0])
 | succ ql0 =>
  replace h := (dossierplain_Case.l0.eq_2 _ _ _).symm.trans h
  refine AW.seq (AW.region ?_)
  refine s_binI (v := (.bool (decide (x1 < (a0.Insts.length : Int))))) rfl rfl rfl (AWops.nil (AW.seq ?_))
  rcases itH h with ⟨c2, h⟩ | ⟨c2, h⟩
  ·refine AW.cond_yes rfl c2 (AW.skip (AW.seq (AW.block (AW.seq (AW.region ?_)))))
   obtain ⟨v3, ev3, h⟩ := bnd h
   obtain ⟨pv3, qv3, gv3⟩ := rd_some ev3
   refine s_indexImm (ps := (p_api_Inst v3)) F.u_22 F.sz_51 rfl rfl pv3 qv3 (flat_at e_api_Inst_len gv3 (e_api_Inst_eq v3)) (s_loadN (ds := (c_api_Inst v3)) F.ag_51 F.sz_51 rfl rfl rfl (s_alloc (cs := [(ct (⟨#[]⟩ : ByteArray)), (ct (⟨#[]⟩ : ByteArray)), (ci 0), (ci 0), (C.p true (.v (.slice none 0 0))), (ci 0)]) F.z_51 rfl rfl (s_store (cs' := (c_api_Inst v3)) rfl rfl rfl (List.cons_ne_nil _ _) rfl F.sz_51 (nl rfl) rfl (AWops.nil (AW.seq (AW.region (s_fieldRef F.fo_51_0 (by decide) rfl (s_load1 (c' := (ct v3.Path)) F.ag_9 rfl rfl ?_))))))))
   refine s_len (n := v3.Path.size) F.u_9 rfl (.inl ⟨⟨_, _, rfl⟩, rfl⟩) (s_binI (v := (.bool (decide ((v3.Path.size : Int) > 400)))) rfl rfl rfl (s_move (d := (sb (decide ((v3.Path.size : Int) > 400)))) rfl ?_))
   rcases itH h with ⟨c4, h⟩ | ⟨c4, h⟩
   ·iterate 4 refine AWops.guard_no rfl (nl rfl) rfl c4 ?_
    refine s_pick_yes (d := (sb true)) rfl c4 rfl (AWops.nil ?_)
    refine AW.cond_yes rfl rfl (AW.seq (AW.region ?_))
    refine s_assign (d := (sb false)) rfl (AWops.nil (AW.ret ?_))
    obtain rfl := Option.some.inj h
    exact ⟨_, rfl, (wg 0 [] [] rfl (le_upd (le_top _) (o1 .sc)) an)⟩
   ·refine AWops.guard_yes rfl (nl rfl) rfl c4 ?_
    refine s_fieldRef F.fo_51_4 (by decide) rfl ?_
    refine AWops.guard_yes rfl (nl rfl) rfl c4 ?_
    refine s_load1 (c' := (C.p false (.sl v3.Latches.length (v3.Latches.flatMap e_i64)))) F.ag_49 rfl rfl ?_
    refine AWops.guard_yes rfl (nl rfl) rfl c4 ?_
    refine s_len (n := v3.Latches.length) F.u_49 rfl (.inr ⟨(fun _ _ h => by cases h), ⟨_, rfl⟩⟩) ?_
    refine AWops.guard_yes rfl (nl rfl) rfl c4 ?_
    refine s_binI (v := (.bool (decide ((v3.Latches.length : Int) > 40)))) rfl rfl rfl (s_pick_no (d := (sb (decide ((v3.Latches.length : Int) > 40)))) rfl c4 rfl (AWops.nil ?_))
    rcases itH h with ⟨c5, h⟩ | ⟨c5, h⟩
    ·refine AW.cond_yes rfl c5 (AW.seq (AW.region ?_))
     refine s_assign (d := (sb false)) rfl (AWops.nil (AW.ret ?_))
     obtain rfl := Option.some.inj h
     exact ⟨_, rfl, (wg 0 [] [] rfl (le_upd (le_top _) (o1 .sc)) an)⟩
    ·refine AW.cond_no rfl c5 (AW.skip (AW.region ?_))
     refine s_binI (v := (.int .i64 (IntKind.i64.wrap (x1 + 1)))) rfl rfl rfl (s_move (d := (si (IntKind.i64.wrap (x1 + 1)))) rfl (AWops.nil ?_))
     exact ⟨_, ⟨53, (upd 53 (upd 53 (upd 53 (upd 53 topF 1 (rf 0 0)) 8 (D.one (C.p false (.sl a0.Insts.length (a0.Insts.flatMap e_api_Inst))))) 9 (si (a0.Insts.length : Int))) 10 (si (IntKind.i64.wrap (x1 + 1)))), [(some (AObj.cells true (c_api_Case a0)))]⟩, by omega, (wg 0 [0] [] hx (le_upd (le_upd (le_upd (le_upd (le_top _) (o1 (.ref rfl))) (o1 .same)) (o1 .sc)) (o1 .sc)) (ac (.cells (fun _ => rfl) (ac .sc (ac .sc (ac .same (ac .same (ac .sc an)))))) an)), by omega, IntKind.i64.wrap (x1 + 1), h, rfl⟩
  ·refine AW.cond_no rfl c2 (AW.exit (AW.seq (AW.seq (AW.region ?_))))
   refine s_fieldRef F.fo_25_3 (by decide) rfl (s_load1 (c' := (C.p false (.sl a0.Docs.length (a0.Docs.flatMap e_api_Doc)))) F.ag_23 rfl rfl (s_len (n := a0.Docs.length) F.u_23 rfl (.inr ⟨(fun _ _ h => by cases h), ⟨_, rfl⟩⟩) (s_move (d := (si 0)) rfl (AWops.nil (AW.block ?_)))))
   refine AW.loopw (st0 := ⟨53, (upd 53 (upd 53 (upd 53 (upd 53 topF 1 (rf 0 0)) 26 (D.one (C.p false (.sl a0.Docs.length (a0.Docs.flatMap e_api_Doc))))) 27 (si (a0.Docs.length : Int))) 28 (si 0)), [(some (AObj.cells true (c_api_Case a0)))]⟩) (fun kv st => kv ≤ ql0 ∧ ∃ (x6 : Int), dossierplain_Case.l1 kv x6 a0 = some r ∧ st = ⟨53, (upd 53 (upd 53 (upd 53 (upd 53 topF 1 (rf 0 0)) 26 (D.one (C.p false (.sl a0.Docs.length (a0.Docs.flatMap e_api_Doc))))) 27 (si (a0.Docs.length : Int))) 28 (si x6)), [(some (AObj.cells true (c_api_Case a0)))]⟩) (k := ql0) (wg 0 [0] [] hx (le_upd (le_upd (le_upd (le_upd (le_top _) (o1 (.ref rfl))) (o1 .same)) (o1 .sc)) (o1 .sc)) (ac (.cells (fun _ => rfl) (ac .sc (ac .sc (ac .same (ac .same (ac .sc an)))))) an)) ⟨Nat.le_refl _, 0, h, rfl⟩ ?_
   rintro ql1 st ⟨hkl1, x6, h, rfl⟩
   cases ql1 with
   | zero => exact absurd h (by simp [dossierplain_Case.l1])
   | succ ql1 =>
    replace h := (dossierplain_Case.l1.eq_2 _ _ _).symm.trans h
    refine AW.seq (AW.region ?_)
    refine s_binI (v := (.bool (decide (x6 < (a0.Docs.length : Int))))) rfl rfl rfl (AWops.nil (AW.seq ?_))
    rcases itH h with ⟨c7, h⟩ | ⟨c7, h⟩
    ·refine AW.cond_yes rfl c7 (AW.skip (AW.seq (AW.block (AW.seq (AW.region ?_)))))
     obtain ⟨v8, ev8, h⟩ := bnd h
     obtain ⟨pv8, qv8, gv8⟩ := rd_some ev8
     refine s_indexImm (ps := (p_api_Doc v8)) F.u_23 F.sz_55 rfl rfl pv8 qv8 (flat_at e_api_Doc_len gv8 (e_api_Doc_eq v8)) (s_loadN (ds := (c_api_Doc v8)) F.ag_55 F.sz_55 rfl rfl rfl (s_alloc (cs := [(ct (⟨#[]⟩ : ByteArray)), (ci 0), (ci 0), (cb false), (ct (⟨#[]⟩ : ByteArray)), (C.p true (.v (.slice none 0 0)))]) F.z_55 rfl rfl (s_store (cs' := (c_api_Doc v8)) rfl rfl rfl (List.cons_ne_nil _ _) rfl F.sz_55 (nl rfl) rfl (AWops.nil (AW.seq (AW.region (s_fieldRef F.fo_55_0 (by decide) rfl (s_load1 (c' := (ct v8.Path)) F.ag_9 rfl rfl ?_))))))))
     refine s_len (n := v8.Path.size) F.u_9 rfl (.inl ⟨⟨_, _, rfl⟩, rfl⟩) (s_binI (v := (.bool (decide ((v8.Path.size : Int) > 400)))) rfl rfl rfl (s_move (d := (sb (decide ((v8.Path.size : Int) > 400)))) rfl ?_))
     rcases itH h with ⟨c9, h⟩ | ⟨c9, h⟩
     ·iterate 4 refine AWops.guard_no rfl (nl rfl) rfl c9 ?_
      refine s_pick_yes (d := (sb true)) rfl c9 rfl (AWops.nil ?_)
      refine AW.cond_yes rfl rfl (AW.seq (AW.region ?_))
      refine s_assign (d := (sb false)) rfl (AWops.nil (AW.ret ?_))
      obtain rfl := Option.some.inj h
      exact ⟨_, rfl, (wg 0 [] [] rfl (le_upd (le_top _) (o1 .sc)) an)⟩
     ·refine AWops.guard_yes rfl (nl rfl) rfl c9 ?_
      refine s_fieldRef F.fo_55_2 (by decide) rfl ?_
      refine AWops.guard_yes rfl (nl rfl) rfl c9 ?_
      refine s_load1 (c' := (C.p false (.sl v8.Refs.length (v8.Refs.flatMap e_str)))) F.ag_31 rfl rfl ?_
      refine AWops.guard_yes rfl (nl rfl) rfl c9 ?_
      refine s_len (n := v8.Refs.length) F.u_31 rfl (.inr ⟨(fun _ _ h => by cases h), ⟨_, rfl⟩⟩) ?_
      refine AWops.guard_yes rfl (nl rfl) rfl c9 ?_
      refine s_binI (v := (.bool (decide ((v8.Refs.length : Int) > 40)))) rfl rfl rfl (s_pick_no (d := (sb (decide ((v8.Refs.length : Int) > 40)))) rfl c9 rfl (AWops.nil ?_))
      rcases itH h with ⟨c10, h⟩ | ⟨c10, h⟩
      ·refine AW.cond_yes rfl c10 (AW.seq (AW.region ?_))
       refine s_assign (d := (sb false)) rfl (AWops.nil (AW.ret ?_))
       obtain rfl := Option.some.inj h
       exact ⟨_, rfl, (wg 0 [] [] rfl (le_upd (le_top _) (o1 .sc)) an)⟩
      ·refine AW.cond_no rfl c10 (AW.skip (AW.region ?_))
       refine s_binI (v := (.int .i64 (IntKind.i64.wrap (x6 + 1)))) rfl rfl rfl (s_move (d := (si (IntKind.i64.wrap (x6 + 1)))) rfl (AWops.nil ?_))
       exact ⟨_, ⟨53, (upd 53 (upd 53 (upd 53 (upd 53 topF 1 (rf 0 0)) 26 (D.one (C.p false (.sl a0.Docs.length (a0.Docs.flatMap e_api_Doc))))) 27 (si (a0.Docs.length : Int))) 28 (si (IntKind.i64.wrap (x6 + 1)))), [(some (AObj.cells true (c_api_Case a0)))]⟩, by omega, (wg 0 [0] [] hx (le_upd (le_upd (le_upd (le_upd (le_top _) (o1 (.ref rfl))) (o1 .same)) (o1 .sc)) (o1 .sc)) (ac (.cells (fun _ => rfl) (ac .sc (ac .sc (ac .same (ac .same (ac .sc an)))))) an)), by omega, IntKind.i64.wrap (x6 + 1), h, rfl⟩
    ·refine AW.cond_no rfl c7 (AW.exit (AW.seq (AW.region ?_)))
     refine s_fieldRef F.fo_25_2 (by decide) rfl (s_load1 (c' := (C.p false (.sl a0.Insts.length (a0.Insts.flatMap e_api_Inst)))) F.ag_22 rfl rfl (s_len (n := a0.Insts.length) F.u_22 rfl (.inr ⟨(fun _ _ h => by cases h), ⟨_, rfl⟩⟩) (s_binI (v := (.bool (decide ((a0.Insts.length : Int) ≤ 40)))) rfl rfl rfl (s_move (d := (sb (decide ((a0.Insts.length : Int) ≤ 40)))) rfl ?_))))
     rcases itH h with ⟨c11, h⟩ | ⟨c11, h⟩
     ·refine AWops.guard_yes rfl (nl rfl) rfl c11 ?_
      refine s_fieldRef F.fo_25_3 (by decide) rfl ?_
      refine AWops.guard_yes rfl (nl rfl) rfl c11 ?_
      refine s_load1 (c' := (C.p false (.sl a0.Docs.length (a0.Docs.flatMap e_api_Doc)))) F.ag_23 rfl rfl ?_
      refine AWops.guard_yes rfl (nl rfl) rfl c11 ?_
      refine s_len (n := a0.Docs.length) F.u_23 rfl (.inr ⟨(fun _ _ h => by cases h), ⟨_, rfl⟩⟩) ?_
      refine AWops.guard_yes rfl (nl rfl) rfl c11 ?_
      refine s_binI (v := (.bool (decide ((a0.Docs.length : Int) ≤ 30)))) rfl rfl rfl (s_pick_yes (d := (sb (decide ((a0.Docs.length : Int) ≤ 30)))) rfl c11 rfl (s_assign (d := (sb (decide ((a0.Docs.length : Int) ≤ 30)))) rfl (AWops.nil (AW.ret ?_))))
      obtain rfl := Option.some.inj h
      exact ⟨_, rfl, (wg 0 [] [] rfl (le_upd (le_top _) (o1 .sc)) an)⟩
     ·iterate 4 refine AWops.guard_no rfl (nl rfl) rfl c11 ?_
      refine s_pick_no (d := (sb false)) rfl c11 rfl (s_assign (d := (sb false)) rfl (AWops.nil (AW.ret ?_)))
      obtain rfl := Option.some.inj h
      exact ⟨_, rfl, (wg 0 [] [] rfl (le_upd (le_top _) (o1 .sc)) an)⟩
def slices_Clone_int_int.f (k : Nat) (a0 : List Int) : Option (List Int) := if (decide (([] : List Int).length + a0.length ≤ 17592186044416)) = true then (some a0) else none
theorem slices_Clone_int_int.meets (k : Nat) (a0 : List Int) (r : (List Int)) (h : slices_Clone_int_int.f k a0 = some r) : Meets Tryd.prog 38 [(D.one (C.p false (.sl a0.length (a0.flatMap e_i64))))] [] (D.one (C.own 0 0 r.length 1)) [(ow_ e_i64 r)] := by
 unfold slices_Clone_int_int.f at h
 refine Meets.of_body (n := 8) Tryd.func38 rfl rfl (nl rfl) fun x hx => ?_
 replace hx : x.k = 0 := hx
 show AW _ x _ _ ⟨8, fr0 [(D.one (C.p false (.sl a0.length (a0.flatMap e_i64))))], []⟩
 refine AW.seq (AW.region ?_)
 refine s_assign (d := (sc (.slice none 0 0))) rfl (AWops.nil (AW.seq (AW.seq (AW.region ?_))))
 refine s_move (d := (D.one (C.p false (.sl a0.length (a0.flatMap e_i64))))) rfl (s_eqNil (n := _) F.u_49 rfl (fun _ _ h => by cases h) rfl (.inl rfl) (fun b w => ?_))
 cases b with
 | false =>
  refine AWops.nil ?_
  refine AW.cond_no rfl rfl (AW.skip (AW.seq (AW.region ?_)))
  refine s_buildSlice (n := 0) (ps := []) (cs := rowC e_i64 ([] : List Int)) F.u_49 F.sz_3 F.z_3 rfl rfl (by decide) (by decide) rfl rfl (s_move (d := (D.one (C.p false (.sl a0.length (a0.flatMap e_i64))))) rfl ?_)
  obtain ⟨c1, h⟩ := gdH h
  have dc1 := of_decide_eq_true c1
  refine t_append (xs := ([] : List Int)) (ys := a0) (zs := a0) (H' := [none, (ow_ e_i64 a0)]) F.u_49 F.in_3 rfl e_i64_len (.own rfl rfl) .imm F.u_49 (by omega) (by omega) rfl rfl (s_assign (d := (D.one (C.own 1 0 a0.length 1))) rfl (AWops.nil (AW.ret ?_)))
  obtain rfl := Option.some.inj h
  exact ⟨_, rfl, (wg 0 [1] [] rfl (le_upd (le_top _) (o1 (.own rfl))) (ac (.cells (fun _ => rfl) (all2_row _)) an))⟩
 | true =>
  obtain rfl : a0 = [] := by cases a0 with | nil => rfl | cons _ _ => exact absurd (w (by simp)) (by decide)
  replace h : (some ([] : List Int)) = some r := by simpa [bytesI] using h
  skip
  refine AWops.nil ?_
  refine AW.cond_yes rfl rfl (AW.seq (AW.region ?_))
  refine s_assign (d := (sc (.slice none 0 0))) rfl (AWops.nil (AW.ret ?_))
  obtain rfl := Option.some.inj h
  exact ⟨_, rfl, (Weak.trans (Weak.nil (sz := 1) (i := 0) rfl) (wg 0 [0] [] rfl (le_upd (le_top _) (o1 (CLe.ownN rfl (by simp)))) (ac (.cells (fun _ => rfl) an) an)))⟩
def tree_own.f (k : Nat) (a0 : api_Inst) : Option api_Inst := (slices_Clone_int_int.f k a0.Latches).bind fun r1 => some (⟨a0.Path, a0.Item, a0.State, a0.Before, r1, a0.Due⟩ : api_Inst)
theorem tree_own.meets (k : Nat) (a0 : api_Inst) (r : api_Inst) (h : tree_own.f k a0 = some r) : Meets Tryd.prog 23 [(D.agg (c_api_Inst a0))] [] (D.agg (c_api_Inst r)) [] := by
 unfold tree_own.f at h
 refine Meets.of_body (n := 8) Tryd.func23 rfl rfl (nl rfl) fun x hx => ?_
 replace hx : x.k = 0 := hx
 show AW _ x _ _ ⟨8, fr0 [(D.agg (c_api_Inst a0))], []⟩
 refine AW.seq (AW.region ?_)
 refine s_box (cs := (c_api_Inst a0)) rfl (List.cons_ne_nil _ _) rfl (s_alloc (cs := [(ct (⟨#[]⟩ : ByteArray)), (ct (⟨#[]⟩ : ByteArray)), (ci 0), (ci 0), (C.p true (.v (.slice none 0 0))), (ci 0)]) F.z_51 rfl rfl (AWops.nil (AW.seq (AW.region (s_fieldRef F.fo_51_4 (by decide) rfl (s_load1 (c' := (C.p false (.sl a0.Latches.length (a0.Latches.flatMap e_i64)))) F.ag_49 rfl rfl ?_))))))
 obtain ⟨r1, er1, h⟩ := bnd h
 refine cc [] [(some (AObj.cells true (c_api_Inst a0))), (some (AObj.cells true [(ct (⟨#[]⟩ : ByteArray)), (ct (⟨#[]⟩ : ByteArray)), (ci 0), (ci 0), (C.p true (.v (.slice none 0 0))), (ci 0)])), (ow_ e_i64 r1)] (D.one (C.own 2 0 r1.length 1)) F.ca_38 rfl rfl (ac (.one .imm) an) an (slices_Clone_int_int.meets _ a0.Latches r1 er1) (s_fieldRef F.fo_51_4 (by decide) rfl (s_store (cs' := [(ct a0.Path), (ct a0.Item), (ci a0.State), (ci a0.Before), (C.own 2 0 r1.length 1), (ci a0.Due)]) rfl rfl rfl (List.cons_ne_nil _ _) rfl F.sz_49 (nl rfl) rfl (AWops.nil (AW.seq (AW.region (s_loadN (ds := [(ct a0.Path), (ct a0.Item), (ci a0.State), (ci a0.Before), (C.own 2 0 r1.length 1), (ci a0.Due)]) F.ag_51 F.sz_51 rfl rfl rfl (s_store (cs' := [(ct a0.Path), (ct a0.Item), (ci a0.State), (ci a0.Before), (C.own 2 0 r1.length 1), (ci a0.Due)]) rfl rfl rfl (List.cons_ne_nil _ _) rfl F.sz_51 (nl rfl) rfl (AWops.nil (AW.ret ?_)))))))))
 obtain rfl := Option.some.inj h
 exact ⟨_, rfl, (wg 0 [] [2] rfl (le_upd (le_top _) (.t (.agg (ac .sc (ac .sc (ac .sc (ac .sc (ac (CLe.frz e_i64_len rfl rfl rfl) (ac .sc an))))))))) an)⟩
def slices_Clone_string_string.f (k : Nat) (a0 : List ByteArray) : Option (List ByteArray) := if (decide (([] : List ByteArray).length + a0.length ≤ 8796093022208)) = true then (some a0) else none
theorem slices_Clone_string_string.meets (k : Nat) (a0 : List ByteArray) (r : (List ByteArray)) (h : slices_Clone_string_string.f k a0 = some r) : Meets Tryd.prog 24 [(D.one (C.p false (.sl a0.length (a0.flatMap e_str))))] [] (D.one (C.own 0 0 r.length 1)) [(ow_ e_str r)] := by
 unfold slices_Clone_string_string.f at h
 refine Meets.of_body (n := 8) Tryd.func24 rfl rfl (nl rfl) fun x hx => ?_
 replace hx : x.k = 0 := hx
 show AW _ x _ _ ⟨8, fr0 [(D.one (C.p false (.sl a0.length (a0.flatMap e_str))))], []⟩
 refine AW.seq (AW.region ?_)
 refine s_assign (d := (sc (.slice none 0 0))) rfl (AWops.nil (AW.seq (AW.seq (AW.region ?_))))
 refine s_move (d := (D.one (C.p false (.sl a0.length (a0.flatMap e_str))))) rfl (s_eqNil (n := _) F.u_31 rfl (fun _ _ h => by cases h) rfl (.inl rfl) (fun b w => ?_))
 cases b with
 | false =>
  refine AWops.nil ?_
  refine AW.cond_no rfl rfl (AW.skip (AW.seq (AW.region ?_)))
  refine s_buildSlice (n := 0) (ps := []) (cs := rowC e_str ([] : List ByteArray)) F.u_31 F.sz_9 F.z_9 rfl rfl (by decide) (by decide) rfl rfl (s_move (d := (D.one (C.p false (.sl a0.length (a0.flatMap e_str))))) rfl ?_)
  obtain ⟨c1, h⟩ := gdH h
  have dc1 := of_decide_eq_true c1
  refine t_append (xs := ([] : List ByteArray)) (ys := a0) (zs := a0) (H' := [none, (ow_ e_str a0)]) F.u_31 F.in_9 rfl e_str_len (.own rfl rfl) .imm F.u_31 (by omega) (by omega) rfl rfl (s_assign (d := (D.one (C.own 1 0 a0.length 1))) rfl (AWops.nil (AW.ret ?_)))
  obtain rfl := Option.some.inj h
  exact ⟨_, rfl, (wg 0 [1] [] rfl (le_upd (le_top _) (o1 (.own rfl))) (ac (.cells (fun _ => rfl) (all2_row _)) an))⟩
 | true =>
  obtain rfl : a0 = [] := by cases a0 with | nil => rfl | cons _ _ => exact absurd (w (by simp)) (by decide)
  replace h : (some ([] : List ByteArray)) = some r := by simpa [bytesI] using h
  skip
  refine AWops.nil ?_
  refine AW.cond_yes rfl rfl (AW.seq (AW.region ?_))
  refine s_assign (d := (sc (.slice none 0 0))) rfl (AWops.nil (AW.ret ?_))
  obtain rfl := Option.some.inj h
  exact ⟨_, rfl, (Weak.trans (Weak.nil (sz := 1) (i := 0) rfl) (wg 0 [0] [] rfl (le_upd (le_top _) (o1 (CLe.ownN rfl (by simp)))) (ac (.cells (fun _ => rfl) an) an)))⟩
mutual
def tree_Copy.l1 : Nat → (List api_Doc) → Int → api_Case → (List api_Inst) → Option api_Case
 | 0, _, _, _, _ => none
 | k + 1, x7, x8, a0, x1 => if (decide (x8 < (a0.Docs.length : Int))) = true then ((rd a0.Docs x8).bind fun v10 => (slices_Clone_string_string.f k v10.Refs).bind fun r11 => if (decide (x7.length + ([(⟨v10.Path, v10.Value, r11⟩ : api_Doc)] : List api_Doc).length ≤ 1759218604441)) = true then (tree_Copy.l1 k (x7 ++ ([(⟨v10.Path, v10.Value, r11⟩ : api_Doc)] : List api_Doc)) (IntKind.i64.wrap (x8 + 1)) a0 x1) else none) else (some (⟨a0.ID, a0.Model, x1, x7, a0.Clock⟩ : api_Case))
def tree_Copy.l0 : Nat → (List api_Inst) → Int → api_Case → Option api_Case
 | 0, _, _, _ => none
 | k + 1, x1, x2, a0 => if (decide (x2 < (a0.Insts.length : Int))) = true then ((rd a0.Insts x2).bind fun v4 => (tree_own.f k v4).bind fun r5 => if (decide (x1.length + ([r5] : List api_Inst).length ≤ 1759218604441)) = true then (tree_Copy.l0 k (x1 ++ ([r5] : List api_Inst)) (IntKind.i64.wrap (x2 + 1)) a0) else none) else (tree_Copy.l1 k ([] : List api_Doc) 0 a0 x1)
end
def tree_Copy.f (k : Nat) (a0 : api_Case) : Option api_Case := tree_Copy.l0 k ([] : List api_Inst) 0 a0
theorem tree_Copy.meets (k : Nat) (a0 : api_Case) (r : api_Case) (h : tree_Copy.f k a0 = some r) : Meets Tryd.prog 10 [(D.agg (c_api_Case a0))] [] (D.agg (c_api_Case r)) [] := by
 unfold tree_Copy.f at h
 refine Meets.of_body (n := 47) Tryd.func10 rfl rfl (nl rfl) fun x hx => ?_
 replace hx : x.k = 0 := hx
 show AW _ x _ _ ⟨47, fr0 [(D.agg (c_api_Case a0))], []⟩
 refine AW.seq (AW.region ?_)
 refine s_box (cs := (c_api_Case a0)) rfl (List.cons_ne_nil _ _) rfl (s_alloc (cs := [(ci 0), (ct (⟨#[]⟩ : ByteArray)), (C.p true (.v (.slice none 0 0))), (C.p true (.v (.slice none 0 0))), (ci 0)]) F.z_25 rfl rfl (AWops.nil (AW.seq ?_)))
 refine AW.weak (st' := ⟨47, (upd 47 (upd 47 topF 1 (rf 0 0)) 2 (rf 1 0)), [(some (AObj.cells true (c_api_Case a0))), (some (AObj.cells true [(ci 0), (ct (⟨#[]⟩ : ByteArray)), (C.p true (.v (.slice none 0 0))), (C.p true (.v (.slice none 0 0))), (ci 0)]))]⟩) (wg 0 [0, 1] [] hx (le_upd (le_upd (le_top _) (o1 (.ref rfl))) (o1 (.ref rfl))) (ac (.cells (fun _ => rfl) (ac .sc (ac .sc (ac .same (ac .same (ac .sc an)))))) (ac (.cells (fun _ => rfl) (ac .sc (ac .sc (ac .sc (ac .sc (ac .sc an)))))) an))) ?_
 refine AW.draw (n := 47) (L := 2) [(ft 0 9 (rf 0 2) [(1, (rf 0 0))]), (1, ⟨some 10, (D.one (C.p false (.sl a0.Insts.length (a0.Insts.flatMap e_api_Inst)))), [(9, (rf 0 2))], [(0, (some (AObj.cells true (c_api_Case a0))))], [], none⟩), (ft 2 11 (rf 0 3) [(1, (rf 0 0))]), (3, ⟨some 12, (D.one (C.p false (.sl a0.Docs.length (a0.Docs.flatMap e_api_Doc)))), [(11, (rf 0 3))], [(0, (some (AObj.cells true (c_api_Case a0))))], [], none⟩), (ft 4 3 (D.one (C.p false (.sl a0.Insts.length (a0.Insts.flatMap e_api_Inst)))) [(10, (D.one (C.p false (.sl a0.Insts.length (a0.Insts.flatMap e_api_Inst)))))]), (ft 5 4 (D.one (C.p false (.sl a0.Docs.length (a0.Docs.flatMap e_api_Doc)))) [(12, (D.one (C.p false (.sl a0.Docs.length (a0.Docs.flatMap e_api_Doc)))))])] [[], [0], [], [2], [0, 1], (.range 5)] (nl rfl) [0, 1, 3, 4, 2, 5] rfl (TK := []) rfl AllK.nil' (by repeat (first | refine fC ⟨?_, ?_⟩ ?_ | refine sC rfl ?_ | refine hC rfl ?_ | trivial)) ?_ ?_
 ·refine (pC ?_ (pC ?_ (pC ?_ (pC ?_ (pC ?_ (pC ?_ AllStep.nil'))))))
  ·intro K rest fr hv htk k
   show AWops _ x _ _ K ⟨47, (upd 47 fr 1 (rf 0 0)), [(hv 0), (hv 1)]⟩
   refine s_fieldRef F.fo_25_2 (by decide) rfl k
  ·intro K rest fr hv htk k
   show AWops _ x _ _ K ⟨47, (upd 47 fr 9 (rf 0 2)), [(some (AObj.cells true (c_api_Case a0))), (hv 1)]⟩
   refine s_load1 (c' := (C.p false (.sl a0.Insts.length (a0.Insts.flatMap e_api_Inst)))) F.ag_22 rfl rfl k
  ·intro K rest fr hv htk k
   show AWops _ x _ _ K ⟨47, (upd 47 fr 1 (rf 0 0)), [(hv 0), (hv 1)]⟩
   refine s_fieldRef F.fo_25_3 (by decide) rfl k
  ·intro K rest fr hv htk k
   show AWops _ x _ _ K ⟨47, (upd 47 fr 11 (rf 0 3)), [(some (AObj.cells true (c_api_Case a0))), (hv 1)]⟩
   refine s_load1 (c' := (C.p false (.sl a0.Docs.length (a0.Docs.flatMap e_api_Doc)))) F.ag_23 rfl rfl k
  ·intro K rest fr hv htk k
   show AWops _ x _ _ K ⟨47, (upd 47 fr 10 (D.one (C.p false (.sl a0.Insts.length (a0.Insts.flatMap e_api_Inst))))), _⟩
   refine s_assign (d := (D.one (C.p false (.sl a0.Insts.length (a0.Insts.flatMap e_api_Inst))))) rfl k
  ·intro K rest fr hv htk k
   show AWops _ x _ _ K ⟨47, (upd 47 fr 12 (D.one (C.p false (.sl a0.Docs.length (a0.Docs.flatMap e_api_Doc))))), _⟩
   refine s_assign (d := (D.one (C.p false (.sl a0.Docs.length (a0.Docs.flatMap e_api_Doc))))) rfl k
 ·refine AWops.weak (st' := ⟨47, (upd 47 (upd 47 (upd 47 (upd 47 topF 1 (rf 0 0)) 2 (rf 1 0)) 3 (D.one (C.p false (.sl a0.Insts.length (a0.Insts.flatMap e_api_Inst))))) 4 (D.one (C.p false (.sl a0.Docs.length (a0.Docs.flatMap e_api_Doc))))), [(some (AObj.cells true (c_api_Case a0))), (some (AObj.cells true [(ci 0), (ct (⟨#[]⟩ : ByteArray)), (C.p true (.v (.slice none 0 0))), (C.p true (.v (.slice none 0 0))), (ci 0)]))]⟩) (wg 0 [0, 1] [] hx (le_upd (le_upd (le_upd (le_upd (le_top _) (o1 (.ref rfl))) (o1 (.ref rfl))) (o1 .same)) (o1 .same)) (ac (.cells (fun _ => rfl) (ac .sc (ac .sc (ac .same (ac .same (ac .sc an)))))) (ac (.cells (fun _ => rfl) (ac .sc (ac .sc (ac .sc (ac .sc (ac .sc an)))))) an))) (AWops.nil (AW.seq (AW.region ?_)))
  refine s_fieldRef F.fo_25_2 (by decide) rfl (s_store (cs' := [(ci a0.ID), (ct a0.Model), (C.p true (.v (.slice none 0 0))), (C.p false (.sl a0.Docs.length (a0.Docs.flatMap e_api_Doc))), (ci a0.Clock)]) rfl rfl rfl (List.cons_ne_nil _ _) rfl F.sz_22 (nl rfl) rfl (s_fieldRef F.fo_25_3 (by decide) rfl (s_store (cs' := [(ci a0.ID), (ct a0.Model), (C.p true (.v (.slice none 0 0))), (C.p true (.v (.slice none 0 0))), (ci a0.Clock)]) rfl rfl rfl (List.cons_ne_nil _ _) rfl F.sz_23 (nl rfl) rfl (AWops.nil (AW.seq (AW.seq (AW.region (s_move (d := (D.one (C.p false (.sl a0.Insts.length (a0.Insts.flatMap e_api_Inst))))) rfl (s_len (n := a0.Insts.length) F.u_22 rfl (.inr ⟨(fun _ _ h => by cases h), ⟨_, rfl⟩⟩) ?_)))))))))
  refine s_move (d := (si 0)) rfl (AWops.nil (AW.block ?_))
  refine AW.loopw (st0 := ⟨47, (upd 47 (upd 47 (upd 47 (upd 47 (upd 47 (upd 47 topF 1 (rf 0 0)) 2 (rf 1 0)) 4 (D.one (C.p false (.sl a0.Docs.length (a0.Docs.flatMap e_api_Doc))))) 15 (D.one (C.p false (.sl a0.Insts.length (a0.Insts.flatMap e_api_Inst))))) 16 (si (a0.Insts.length : Int))) 17 (si 0)), [(o_api_Case_23 true (C.own 2 0 ([] : List api_Inst).length 6) (C.p true (.v (.slice none 0 0))) a0), (some (AObj.cells true [(ci 0), (ct (⟨#[]⟩ : ByteArray)), (C.p true (.v (.slice none 0 0))), (C.p true (.v (.slice none 0 0))), (ci 0)])), (some (AObj.cells true (rowC e_api_Inst ([] : List api_Inst))))]⟩) (fun kv st => kv ≤ k ∧ ∃ (x1 : List api_Inst) (x2 : Int), tree_Copy.l0 kv x1 x2 a0 = some r ∧ st = ⟨47, (upd 47 (upd 47 (upd 47 (upd 47 (upd 47 (upd 47 topF 1 (rf 0 0)) 2 (rf 1 0)) 4 (D.one (C.p false (.sl a0.Docs.length (a0.Docs.flatMap e_api_Doc))))) 15 (D.one (C.p false (.sl a0.Insts.length (a0.Insts.flatMap e_api_Inst))))) 16 (si (a0.Insts.length : Int))) 17 (si x2)), [(o_api_Case_23 true (C.own 2 0 x1.length 6) (C.p true (.v (.slice none 0 0))) a0), (some (AObj.cells true [(ci 0), (ct (⟨#[]⟩ : ByteArray)), (C.p true (.v (.slice none 0 0))), (C.p true (.v (.slice none 0 0))), (ci 0)])), (ow_ e_api_Inst x1)]⟩) (k := k) (Weak.trans (Weak.nilC (t := 0) (j := 2) (sz := 6) rfl rfl rfl) (wg 0 [0, 1, 2] [] hx (le_upd (le_upd (le_upd (le_upd (le_upd (le_upd (le_top _) (o1 (.ref rfl))) (o1 (.ref rfl))) (o1 .same)) (o1 .same)) (o1 .sc)) (o1 .sc)) (ac (.cells (fun _ => rfl) (ac .sc (ac .sc (ac (.own rfl) (ac .sc (ac .sc an)))))) (ac (.cells (fun _ => rfl) (ac .sc (ac .sc (ac .sc (ac .sc (ac .sc an)))))) (ac (.cells (fun _ => rfl) an) an))))) ⟨Nat.le_refl _, ([] : List api_Inst), 0, h, rfl⟩ ?_
  rintro ql0 st ⟨hkl0, x1, x2, h, rfl⟩
  cases ql0 with
  | zero => exact absurd h (by simp [tree_Copy.l0])
  | succ ql0 =>
   replace h := (tree_Copy.l0.eq_2 _ _ _ _).symm.trans h
   refine AW.seq (AW.region ?_)
   refine s_binI (v := (.bool (decide (x2 < (a0.Insts.length : Int))))) rfl rfl rfl (AWops.nil (AW.seq ?_))
   rcases itH h with ⟨c3, h⟩ | ⟨c3, h⟩
   ·refine AW.cond_yes rfl c3 (AW.skip (AW.seq (AW.block (AW.seq (AW.region ?_)))))
    obtain ⟨v4, ev4, h⟩ := bnd h
    obtain ⟨pv4, qv4, gv4⟩ := rd_some ev4
    refine s_indexImm (ps := (p_api_Inst v4)) F.u_22 F.sz_51 rfl rfl pv4 qv4 (flat_at e_api_Inst_len gv4 (e_api_Inst_eq v4)) (s_loadN (ds := (c_api_Inst v4)) F.ag_51 F.sz_51 rfl rfl rfl (s_alloc (cs := [(ct (⟨#[]⟩ : ByteArray)), (ct (⟨#[]⟩ : ByteArray)), (ci 0), (ci 0), (C.p true (.v (.slice none 0 0))), (ci 0)]) F.z_51 rfl rfl (s_store (cs' := (c_api_Inst v4)) rfl rfl rfl (List.cons_ne_nil _ _) rfl F.sz_51 (nl rfl) rfl (AWops.nil ?_))))
    refine AW.weak (st' := ⟨47, (upd 47 (upd 47 (upd 47 (upd 47 (upd 47 (upd 47 (upd 47 topF 1 (rf 0 0)) 2 (rf 1 0)) 4 (D.one (C.p false (.sl a0.Docs.length (a0.Docs.flatMap e_api_Doc))))) 6 (rf 2 0)) 15 (D.one (C.p false (.sl a0.Insts.length (a0.Insts.flatMap e_api_Inst))))) 16 (si (a0.Insts.length : Int))) 17 (si x2)), [(o_api_Case_23 true (C.own 3 0 x1.length 6) (C.p true (.v (.slice none 0 0))) a0), (some (AObj.cells true [(ci 0), (ct (⟨#[]⟩ : ByteArray)), (C.p true (.v (.slice none 0 0))), (C.p true (.v (.slice none 0 0))), (ci 0)])), (some (AObj.cells true (c_api_Inst v4))), (ow_ e_api_Inst x1)]⟩) (wg 0 [0, 1, 3, 2] [] hx (le_upd (le_upd (le_upd (le_upd (le_upd (le_upd (le_upd (le_top _) (o1 (.ref rfl))) (o1 (.ref rfl))) (o1 .same)) (o1 (.ref rfl))) (o1 .same)) (o1 .sc)) (o1 .sc)) (ac (.cells (fun _ => rfl) (ac .sc (ac .sc (ac (.own rfl) (ac .sc (ac .sc an)))))) (ac (.cells (fun _ => rfl) (ac .sc (ac .sc (ac .sc (ac .sc (ac .sc an)))))) (ac (.cells (fun _ => rfl) (ac .sc (ac .sc (ac .sc (ac .sc (ac .same (ac .sc an))))))) (ac (.cells (fun _ => rfl) (all2_row _)) an))))) ?_
    obtain ⟨r5, er5, h⟩ := bnd h
    obtain ⟨c6, h⟩ := gdH h
    have dc6 := of_decide_eq_true c6
    refine AW.draw (n := 47) (L := 7) [(ft 0 21 (rf 0 2) [(1, (rf 0 0))]), (1, ⟨some 22, (D.one (C.own 3 0 x1.length 6)), [(21, (rf 0 2))], [(0, (o_api_Case_23 true (C.own 3 0 x1.length 6) (C.p true (.v (.slice none 0 0))) a0))], [], none⟩), (2, ⟨some 23, (D.agg (c_api_Inst v4)), [(6, (rf 2 0))], [(2, (some (AObj.cells true (c_api_Inst v4))))], [], none⟩), (ft 3 24 (D.agg (c_api_Inst r5)) [(23, (D.agg (c_api_Inst v4)))]), (4, ⟨some 25, (D.one (C.own 5 0 (([r5] : List api_Inst).length) 6)), [(24, (D.agg (c_api_Inst r5)))], [], [(5, (some (AObj.cells true (rowC e_api_Inst ([r5] : List api_Inst)))))], some 5⟩), (5, ⟨some 26, (D.one (C.own 6 0 ((x1 ++ ([r5] : List api_Inst)).length) 6)), [(22, (D.one (C.own 3 0 x1.length 6))), (25, (D.one (C.own 5 0 (([r5] : List api_Inst).length) 6)))], [(3, (ow_ e_api_Inst x1)), (5, (some (AObj.cells true (rowC e_api_Inst ([r5] : List api_Inst)))))], [(3, none), (6, (some (AObj.cells true (rowC e_api_Inst (x1 ++ ([r5] : List api_Inst))))))], some 6⟩), (ft 6 27 (rf 0 2) [(1, (rf 0 0))]), (7, ⟨none, (D.one C.top), [(26, (D.one (C.own 6 0 ((x1 ++ ([r5] : List api_Inst)).length) 6))), (27, (rf 0 2))], [(0, (o_api_Case_23 true (C.own 3 0 x1.length 6) (C.p true (.v (.slice none 0 0))) a0))], [(0, (o_api_Case_23 true (C.own 6 0 ((x1 ++ ([r5] : List api_Inst)).length) 6) (C.p true (.v (.slice none 0 0))) a0))], none⟩)] [[], [0], [], [2], [2, 3], (.range 5), (.range 6), (.range 7)] (nl rfl) [0, 1, 0, 1, 2, 3, 4, 5] rfl (TK := [(4, 5), (5, 6)]) rfl (AllK.cons' ⟨(tk_upd (tk_upd (tk_upd (tk_upd (tk_upd (tk_upd (tk_upd tk_top rfl) rfl) rfl) rfl) rfl) rfl) rfl), (tC rfl (tC rfl (tC rfl (tC (tkO_row _) AllT.nil')))), (fC (.inr rfl) (fC (.inr rfl) (fC (.inr rfl) (fC (.inr rfl) (fC (.inl rfl) (fC (.inl rfl) (fC (.inl rfl) (fC (.inl rfl) AllF.nil'))))))))⟩ (AllK.cons' ⟨(tk_upd (tk_upd (tk_upd (tk_upd (tk_upd (tk_upd (tk_upd tk_top rfl) rfl) rfl) rfl) rfl) rfl) rfl), (tC rfl (tC rfl (tC rfl (tC (tkO_row _) AllT.nil')))), (by repeat (first | refine fC (.inl rfl) ?_ | refine fC (.inr rfl) ?_ | refine fC (.inr (by unfold tkFoot; simp only [List.all_cons, List.all_nil, tkO_row, Bool.and_true, Bool.true_and]; rfl)) ?_ | trivial))⟩ AllK.nil')) (by repeat (first | refine fC ⟨?_, ?_⟩ ?_ | refine sC rfl ?_ | refine hC rfl ?_ | trivial)) ?_ ?_
    ·refine (pC ?_ (pC ?_ (pC ?_ (pC ?_ (pC ?_ (pC ?_ (pC ?_ (pC ?_ AllStep.nil'))))))))
     ·intro K rest fr hv htk k
      show AWops _ x _ _ K ⟨47, (upd 47 fr 1 (rf 0 0)), [(hv 0), (hv 1), (hv 2), (hv 3), (hv 4), (hv 5), (hv 6)]⟩
      refine s_fieldRef F.fo_25_2 (by decide) rfl k
     ·intro K rest fr hv htk k
      show AWops _ x _ _ K ⟨47, (upd 47 fr 21 (rf 0 2)), [(o_api_Case_23 true (C.own 3 0 x1.length 6) (C.p true (.v (.slice none 0 0))) a0), (hv 1), (hv 2), (hv 3), (hv 4), (hv 5), (hv 6)]⟩
      refine s_load1 (c' := (C.own 3 0 x1.length 6)) F.ag_22 rfl rfl k
     ·intro K rest fr hv htk k
      show AWops _ x _ _ K ⟨47, (upd 47 fr 6 (rf 2 0)), [(hv 0), (hv 1), (some (AObj.cells true (c_api_Inst v4))), (hv 3), (hv 4), (hv 5), (hv 6)]⟩
      refine s_loadN (ds := (c_api_Inst v4)) F.ag_51 F.sz_51 rfl rfl rfl k
     ·intro K rest fr hv htk k
      show AWops _ x _ _ K ⟨47, (upd 47 fr 23 (D.agg (c_api_Inst v4))), [(hv 0), (hv 1), (hv 2), (hv 3), (hv 4), (hv 5), (hv 6)]⟩
      refine cc [] [(hv 0), (hv 1), (hv 2), (hv 3), (hv 4), (hv 5), (hv 6)] (D.agg (c_api_Inst r5)) F.ca_23 rfl rfl (ac (LendT.aggL (ac .sc (ac .sc (ac .sc (ac .sc (ac .imm (ac .sc an))))))) an) an (tree_own.meets _ v4 r5 er5) k
     ·intro K rest fr hv htk k
      show AWops _ x _ _ K ⟨47, (upd 47 fr 24 (D.agg (c_api_Inst r5))), [(hv 0), (hv 1), (hv 2), (hv 3), (hv 4), (hv 5), (hv 6)]⟩
      refine s_buildSlice (n := 1) (ps := [(0, (D.agg (c_api_Inst r5)))]) (cs := rowC e_api_Inst ([r5] : List api_Inst)) F.u_22 F.sz_51 F.z_51 rfl rfl (by decide) (by decide) rfl rfl ?_
      refine AWops.weak (st' := ⟨47, (upd 47 (upd 47 fr 24 (D.agg (c_api_Inst r5))) 25 (D.one (C.own 5 0 (([r5] : List api_Inst).length) 6))), [(hv 0), (hv 1), (hv 2), (hv 3), (hv 4), (some (AObj.cells true (rowC e_api_Inst ([r5] : List api_Inst)))), (hv 6)]⟩) (wg 0 [0, 1, 2, 3, 4, 7, 6] [] hx (le_upd2 (le_ok (p := 5) (L := 7) rfl (htk 5 rfl).1) (o1 (.own rfl))) (ac (oq 5 7 (htk 5 rfl) 0) (ac (oq 5 7 (htk 5 rfl) 1) (ac (oq 5 7 (htk 5 rfl) 2) (ac (oq 5 7 (htk 5 rfl) 3) (ac (oq 5 7 (htk 5 rfl) 4) (ac (.cells (fun _ => rfl) (all2_row _)) (ac (oq 5 7 (htk 5 rfl) 6) an)))))))) k
     ·intro K rest fr hv htk k
      show AWops _ x _ _ K ⟨47, (upd 47 (upd 47 fr 25 (D.one (C.own 5 0 (([r5] : List api_Inst).length) 6))) 22 (D.one (C.own 3 0 x1.length 6))), [(hv 0), (hv 1), (hv 2), (ow_ e_api_Inst x1), (hv 4), (some (AObj.cells true (rowC e_api_Inst ([r5] : List api_Inst)))), (hv 6)]⟩
      refine t_append (xs := x1) (ys := ([r5] : List api_Inst)) (zs := x1 ++ ([r5] : List api_Inst)) (H' := [(hv 0), (hv 1), (hv 2), none, (hv 4), (some (AObj.cells true (rowC e_api_Inst ([r5] : List api_Inst)))), (hv 6), (some (AObj.cells true (rowC e_api_Inst (x1 ++ ([r5] : List api_Inst)))))]) F.u_22 F.in_51 rfl e_api_Inst_len (.own rfl rfl) (.own rfl rfl) F.u_22 (by omega) (by omega) rfl rfl ?_
      refine AWops.weak (st' := ⟨47, (upd 47 (upd 47 (upd 47 fr 25 (D.one (C.own 5 0 (([r5] : List api_Inst).length) 6))) 22 (D.one (C.own 3 0 x1.length 6))) 26 (D.one (C.own 6 0 ((x1 ++ ([r5] : List api_Inst)).length) 6))), [(hv 0), (hv 1), (hv 2), none, (hv 4), (some (AObj.cells true (rowC e_api_Inst ([r5] : List api_Inst)))), (some (AObj.cells true (rowC e_api_Inst (x1 ++ ([r5] : List api_Inst)))))]⟩) (wg 0 [0, 1, 2, 3, 4, 5, 7] [] hx (le_upd2 (le_ok (p := 6) (L := 7) rfl (htk 6 rfl).1) (o1 (.own rfl))) (ac (oq 6 7 (htk 6 rfl) 0) (ac (oq 6 7 (htk 6 rfl) 1) (ac (oq 6 7 (htk 6 rfl) 2) (ac (.none _) (ac (oq 6 7 (htk 6 rfl) 4) (ac (.cells (fun _ => rfl) (all2_row _)) (ac (.cells (fun _ => rfl) (all2_row _)) an)))))))) k
     ·intro K rest fr hv htk k
      show AWops _ x _ _ K ⟨47, (upd 47 fr 1 (rf 0 0)), [(hv 0), (hv 1), (hv 2), (hv 3), (hv 4), (hv 5), (hv 6)]⟩
      refine s_fieldRef F.fo_25_2 (by decide) rfl k
     ·intro K rest fr hv htk k
      show AWops _ x _ _ K ⟨47, (upd 47 (upd 47 fr 27 (rf 0 2)) 26 (D.one (C.own 6 0 ((x1 ++ ([r5] : List api_Inst)).length) 6))), [(o_api_Case_23 true (C.own 3 0 x1.length 6) (C.p true (.v (.slice none 0 0))) a0), (hv 1), (hv 2), (hv 3), (hv 4), (hv 5), (hv 6)]⟩
      refine s_store (cs' := [(ci a0.ID), (ct a0.Model), (C.own 6 0 ((x1 ++ ([r5] : List api_Inst)).length) 6), (C.p true (.v (.slice none 0 0))), (ci a0.Clock)]) rfl rfl rfl (List.cons_ne_nil _ _) rfl F.sz_22 (nl rfl) rfl k
    ·refine AWops.weak (st' := ⟨47, (upd 47 (upd 47 (upd 47 (upd 47 (upd 47 (upd 47 topF 1 (rf 0 0)) 2 (rf 1 0)) 4 (D.one (C.p false (.sl a0.Docs.length (a0.Docs.flatMap e_api_Doc))))) 15 (D.one (C.p false (.sl a0.Insts.length (a0.Insts.flatMap e_api_Inst))))) 16 (si (a0.Insts.length : Int))) 17 (si x2)), [(o_api_Case_23 true (C.own 2 0 ((x1 ++ ([r5] : List api_Inst)).length) 6) (C.p true (.v (.slice none 0 0))) a0), (some (AObj.cells true [(ci 0), (ct (⟨#[]⟩ : ByteArray)), (C.p true (.v (.slice none 0 0))), (C.p true (.v (.slice none 0 0))), (ci 0)])), (some (AObj.cells true (rowC e_api_Inst (x1 ++ ([r5] : List api_Inst)))))]⟩) (wg 0 [0, 1, 6] [] hx (le_upd (le_upd (le_upd (le_upd (le_upd (le_upd (le_top _) (o1 (.ref rfl))) (o1 (.ref rfl))) (o1 .same)) (o1 .same)) (o1 .sc)) (o1 .sc)) (ac (.cells (fun _ => rfl) (ac .sc (ac .sc (ac (.own rfl) (ac .sc (ac .sc an)))))) (ac (.cells (fun _ => rfl) (ac .sc (ac .sc (ac .sc (ac .sc (ac .sc an)))))) (ac (.cells (fun _ => rfl) (all2_row _)) an)))) (AWops.nil (AW.region ?_))
     refine s_binI (v := (.int .i64 (IntKind.i64.wrap (x2 + 1)))) rfl rfl rfl (s_move (d := (si (IntKind.i64.wrap (x2 + 1)))) rfl (AWops.nil ?_))
     exact ⟨_, ⟨47, (upd 47 (upd 47 (upd 47 (upd 47 (upd 47 (upd 47 topF 1 (rf 0 0)) 2 (rf 1 0)) 4 (D.one (C.p false (.sl a0.Docs.length (a0.Docs.flatMap e_api_Doc))))) 15 (D.one (C.p false (.sl a0.Insts.length (a0.Insts.flatMap e_api_Inst))))) 16 (si (a0.Insts.length : Int))) 17 (si (IntKind.i64.wrap (x2 + 1)))), [(o_api_Case_23 true (C.own 2 0 (x1 ++ ([r5] : List api_Inst)).length 6) (C.p true (.v (.slice none 0 0))) a0), (some (AObj.cells true [(ci 0), (ct (⟨#[]⟩ : ByteArray)), (C.p true (.v (.slice none 0 0))), (C.p true (.v (.slice none 0 0))), (ci 0)])), (some (AObj.cells true (rowC e_api_Inst (x1 ++ ([r5] : List api_Inst)))))]⟩, by omega, (wg 0 [0, 1, 2] [] hx (le_upd (le_upd (le_upd (le_upd (le_upd (le_upd (le_top _) (o1 (.ref rfl))) (o1 (.ref rfl))) (o1 .same)) (o1 .same)) (o1 .sc)) (o1 .sc)) (ac (.cells (fun _ => rfl) (ac .sc (ac .sc (ac (.own rfl) (ac .sc (ac .sc an)))))) (ac (.cells (fun _ => rfl) (ac .sc (ac .sc (ac .sc (ac .sc (ac .sc an)))))) (ac (.cells (fun _ => rfl) (all2_row _)) an)))), by omega, x1 ++ ([r5] : List api_Inst), IntKind.i64.wrap (x2 + 1), h, rfl⟩
   ·refine AW.cond_no rfl c3 (AW.exit (AW.seq (AW.seq (AW.region ?_))))
    refine s_move (d := (D.one (C.p false (.sl a0.Docs.length (a0.Docs.flatMap e_api_Doc))))) rfl (s_len (n := a0.Docs.length) F.u_23 rfl (.inr ⟨(fun _ _ h => by cases h), ⟨_, rfl⟩⟩) (s_move (d := (si 0)) rfl (AWops.nil (AW.block ?_))))
    refine AW.loopw (st0 := ⟨47, (upd 47 (upd 47 (upd 47 (upd 47 (upd 47 topF 1 (rf 0 0)) 2 (rf 1 0)) 29 (D.one (C.p false (.sl a0.Docs.length (a0.Docs.flatMap e_api_Doc))))) 30 (si (a0.Docs.length : Int))) 31 (si 0)), [(o_api_Case_23 true (C.own 2 0 x1.length 6) (C.own 3 0 ([] : List api_Doc).length 6) a0), (some (AObj.cells true [(ci 0), (ct (⟨#[]⟩ : ByteArray)), (C.p true (.v (.slice none 0 0))), (C.p true (.v (.slice none 0 0))), (ci 0)])), (ow_ e_api_Inst x1), (some (AObj.cells true (rowC e_api_Doc ([] : List api_Doc))))]⟩) (fun kv st => kv ≤ ql0 ∧ ∃ (x7 : List api_Doc) (x8 : Int), tree_Copy.l1 kv x7 x8 a0 x1 = some r ∧ st = ⟨47, (upd 47 (upd 47 (upd 47 (upd 47 (upd 47 topF 1 (rf 0 0)) 2 (rf 1 0)) 29 (D.one (C.p false (.sl a0.Docs.length (a0.Docs.flatMap e_api_Doc))))) 30 (si (a0.Docs.length : Int))) 31 (si x8)), [(o_api_Case_23 true (C.own 2 0 x1.length 6) (C.own 3 0 x7.length 6) a0), (some (AObj.cells true [(ci 0), (ct (⟨#[]⟩ : ByteArray)), (C.p true (.v (.slice none 0 0))), (C.p true (.v (.slice none 0 0))), (ci 0)])), (ow_ e_api_Inst x1), (ow_ e_api_Doc x7)]⟩) (k := ql0) (Weak.trans (Weak.nilC (t := 0) (j := 3) (sz := 6) rfl rfl rfl) (wg 0 [0, 1, 2, 3] [] hx (le_upd (le_upd (le_upd (le_upd (le_upd (le_top _) (o1 (.ref rfl))) (o1 (.ref rfl))) (o1 .same)) (o1 .sc)) (o1 .sc)) (ac (.cells (fun _ => rfl) (ac .sc (ac .sc (ac (.own rfl) (ac (.own rfl) (ac .sc an)))))) (ac (.cells (fun _ => rfl) (ac .sc (ac .sc (ac .sc (ac .sc (ac .sc an)))))) (ac (.cells (fun _ => rfl) (all2_row _)) (ac (.cells (fun _ => rfl) an) an)))))) ⟨Nat.le_refl _, ([] : List api_Doc), 0, h, rfl⟩ ?_
    rintro ql1 st ⟨hkl1, x7, x8, h, rfl⟩
    cases ql1 with
    | zero => exact absurd h (by simp [tree_Copy.l1])
    | succ ql1 =>
     replace h := (tree_Copy.l1.eq_2 _ _ _ _ _).symm.trans h
     refine AW.seq (AW.region ?_)
     refine s_binI (v := (.bool (decide (x8 < (a0.Docs.length : Int))))) rfl rfl rfl (AWops.nil (AW.seq ?_))
     rcases itH h with ⟨c9, h⟩ | ⟨c9, h⟩
     ·refine AW.cond_yes rfl c9 (AW.skip (AW.seq (AW.block (AW.seq (AW.region ?_)))))
      obtain ⟨v10, ev10, h⟩ := bnd h
      obtain ⟨pv10, qv10, gv10⟩ := rd_some ev10
      refine s_indexImm (ps := (p_api_Doc v10)) F.u_23 F.sz_55 rfl rfl pv10 qv10 (flat_at e_api_Doc_len gv10 (e_api_Doc_eq v10)) (s_loadN (ds := (c_api_Doc v10)) F.ag_55 F.sz_55 rfl rfl rfl (s_alloc (cs := [(ct (⟨#[]⟩ : ByteArray)), (ci 0), (ci 0), (cb false), (ct (⟨#[]⟩ : ByteArray)), (C.p true (.v (.slice none 0 0)))]) F.z_55 rfl rfl (s_store (cs' := (c_api_Doc v10)) rfl rfl rfl (List.cons_ne_nil _ _) rfl F.sz_55 (nl rfl) rfl (AWops.nil (AW.seq (AW.region (s_fieldRef F.fo_55_2 (by decide) rfl (s_load1 (c' := (C.p false (.sl v10.Refs.length (v10.Refs.flatMap e_str)))) F.ag_31 rfl rfl ?_))))))))
      obtain ⟨r11, er11, h⟩ := bnd h
      refine cc [] [(o_api_Case_23 true (C.own 2 0 x1.length 6) (C.own 3 0 x7.length 6) a0), (some (AObj.cells true [(ci 0), (ct (⟨#[]⟩ : ByteArray)), (C.p true (.v (.slice none 0 0))), (C.p true (.v (.slice none 0 0))), (ci 0)])), (ow_ e_api_Inst x1), (ow_ e_api_Doc x7), (some (AObj.cells true (c_api_Doc v10))), (ow_ e_str r11)] (D.one (C.own 5 0 r11.length 1)) F.ca_24 rfl rfl (ac (.one .imm) an) an (slices_Clone_string_string.meets _ v10.Refs r11 er11) (s_fieldRef F.fo_55_2 (by decide) rfl (s_store (cs' := [(ct v10.Path), (ci v10.Value.Kind), (ci v10.Value.Int), (cb v10.Value.Bool), (ct v10.Value.Text), (C.own 5 0 r11.length 1)]) rfl rfl rfl (List.cons_ne_nil _ _) rfl F.sz_31 (nl rfl) rfl (AWops.nil (AW.region (s_fieldRef F.fo_25_3 (by decide) rfl (s_load1 (c' := (C.own 3 0 x7.length 6)) F.ag_23 rfl rfl (s_loadN (ds := [(ct v10.Path), (ci v10.Value.Kind), (ci v10.Value.Int), (cb v10.Value.Bool), (ct v10.Value.Text), (C.own 5 0 r11.length 1)]) F.ag_55 F.sz_55 rfl rfl rfl ?_)))))))
      refine AWops.weak (st' := ⟨47, (upd 47 (upd 47 (upd 47 (upd 47 (upd 47 (upd 47 (upd 47 (upd 47 (upd 47 (upd 47 (upd 47 (upd 47 (upd 47 (upd 47 (upd 47 (upd 47 topF 1 (rf 0 0)) 2 (rf 1 0)) 8 (rf 2 0)) 29 (D.one (C.p false (.sl a0.Docs.length (a0.Docs.flatMap e_api_Doc))))) 30 (si (a0.Docs.length : Int))) 31 (si x8)) 32 (sb (decide (x8 < (a0.Docs.length : Int))))) 33 (D.one (C.peek false (p_api_Doc v10)))) 34 (D.agg (c_api_Doc v10))) 35 (rf 2 5)) 36 (D.one (C.p false (.sl v10.Refs.length (v10.Refs.flatMap e_str))))) 37 (D.one (C.p false (.sl r11.length (r11.flatMap e_str))))) 38 (rf 2 5)) 39 (rf 0 3)) 40 (D.one (C.own 3 0 x7.length 6))) 41 (D.agg [(ct v10.Path), (ci v10.Value.Kind), (ci v10.Value.Int), (cb v10.Value.Bool), (ct v10.Value.Text), (C.p false (.sl r11.length (r11.flatMap e_str)))])), [(o_api_Case_23 true (C.own 4 0 x1.length 6) (C.own 3 0 x7.length 6) a0), (some (AObj.cells true [(ci 0), (ct (⟨#[]⟩ : ByteArray)), (C.p true (.v (.slice none 0 0))), (C.p true (.v (.slice none 0 0))), (ci 0)])), (some (AObj.cells true [(ct v10.Path), (ci v10.Value.Kind), (ci v10.Value.Int), (cb v10.Value.Bool), (ct v10.Value.Text), (C.p false (.sl r11.length (r11.flatMap e_str)))])), (ow_ e_api_Doc x7), (ow_ e_api_Inst x1)]⟩) (wg 0 [0, 1, 4, 3, 2] [5] hx (le_upd (le_upd (le_upd (le_upd (le_upd (le_upd (le_upd (le_upd (le_upd (le_upd (le_upd (le_upd (le_upd (le_upd (le_upd (le_upd (le_top _) (o1 (.ref rfl))) (o1 (.ref rfl))) (o1 (.ref rfl))) (o1 .same)) (o1 .sc)) (o1 .sc)) (o1 .sc)) (o1 .peek)) (.t (.agg (ac .sc (ac .sc (ac .sc (ac .sc (ac .sc (ac .same an))))))))) (o1 (.ref rfl))) (o1 .same)) (o1 (CLe.frz e_str_len rfl rfl rfl))) (o1 (.ref rfl))) (o1 (.ref rfl))) (o1 (.own rfl))) (.t (.agg (ac .sc (ac .sc (ac .sc (ac .sc (ac .sc (ac (CLe.frz e_str_len rfl rfl rfl) an))))))))) (ac (.cells (fun _ => rfl) (ac .sc (ac .sc (ac (.own rfl) (ac (.own rfl) (ac .sc an)))))) (ac (.cells (fun _ => rfl) (ac .sc (ac .sc (ac .sc (ac .sc (ac .sc an)))))) (ac (.cells (fun _ => rfl) (ac .sc (ac .sc (ac .sc (ac .sc (ac .sc (ac (CLe.frz e_str_len rfl rfl rfl) an))))))) (ac (.cells (fun _ => rfl) (all2_row _)) (ac (.cells (fun _ => rfl) (all2_row _)) an)))))) ?_
      refine s_buildSlice (n := 1) (ps := [(0, (D.agg [(ct v10.Path), (ci v10.Value.Kind), (ci v10.Value.Int), (cb v10.Value.Bool), (ct v10.Value.Text), (C.p false (.sl r11.length (r11.flatMap e_str)))]))]) (cs := rowC e_api_Doc ([(⟨v10.Path, v10.Value, r11⟩ : api_Doc)] : List api_Doc)) F.u_23 F.sz_55 F.z_55 rfl rfl (by decide) (by decide) rfl rfl ?_
      obtain ⟨c12, h⟩ := gdH h
      have dc12 := of_decide_eq_true c12
      refine t_append (xs := x7) (ys := ([(⟨v10.Path, v10.Value, r11⟩ : api_Doc)] : List api_Doc)) (zs := x7 ++ ([(⟨v10.Path, v10.Value, r11⟩ : api_Doc)] : List api_Doc)) (H' := [(o_api_Case_23 true (C.own 4 0 x1.length 6) (C.own 3 0 x7.length 6) a0), (some (AObj.cells true [(ci 0), (ct (⟨#[]⟩ : ByteArray)), (C.p true (.v (.slice none 0 0))), (C.p true (.v (.slice none 0 0))), (ci 0)])), (some (AObj.cells true [(ct v10.Path), (ci v10.Value.Kind), (ci v10.Value.Int), (cb v10.Value.Bool), (ct v10.Value.Text), (C.p false (.sl r11.length (r11.flatMap e_str)))])), none, (ow_ e_api_Inst x1), (some (AObj.cells true (rowC e_api_Doc ([(⟨v10.Path, v10.Value, r11⟩ : api_Doc)] : List api_Doc)))), (some (AObj.cells true (rowC e_api_Doc (x7 ++ ([(⟨v10.Path, v10.Value, r11⟩ : api_Doc)] : List api_Doc)))))]) F.u_23 F.in_55 rfl e_api_Doc_len (.own rfl rfl) (.own rfl rfl) F.u_23 (by omega) (by omega) rfl rfl (s_fieldRef F.fo_25_3 (by decide) rfl (s_store (cs' := [(ci a0.ID), (ct a0.Model), (C.own 4 0 x1.length 6), (C.own 6 0 ((x7 ++ ([(⟨v10.Path, v10.Value, r11⟩ : api_Doc)] : List api_Doc)).length) 6), (ci a0.Clock)]) rfl rfl rfl (List.cons_ne_nil _ _) rfl F.sz_23 (nl rfl) rfl (AWops.nil (AW.region (s_binI (v := (.int .i64 (IntKind.i64.wrap (x8 + 1)))) rfl rfl rfl (s_move (d := (si (IntKind.i64.wrap (x8 + 1)))) rfl (AWops.nil ?_)))))))
      exact ⟨_, ⟨47, (upd 47 (upd 47 (upd 47 (upd 47 (upd 47 topF 1 (rf 0 0)) 2 (rf 1 0)) 29 (D.one (C.p false (.sl a0.Docs.length (a0.Docs.flatMap e_api_Doc))))) 30 (si (a0.Docs.length : Int))) 31 (si (IntKind.i64.wrap (x8 + 1)))), [(o_api_Case_23 true (C.own 2 0 x1.length 6) (C.own 3 0 (x7 ++ ([(⟨v10.Path, v10.Value, r11⟩ : api_Doc)] : List api_Doc)).length 6) a0), (some (AObj.cells true [(ci 0), (ct (⟨#[]⟩ : ByteArray)), (C.p true (.v (.slice none 0 0))), (C.p true (.v (.slice none 0 0))), (ci 0)])), (ow_ e_api_Inst x1), (some (AObj.cells true (rowC e_api_Doc (x7 ++ ([(⟨v10.Path, v10.Value, r11⟩ : api_Doc)] : List api_Doc)))))]⟩, by omega, (wg 0 [0, 1, 4, 6] [] hx (le_upd (le_upd (le_upd (le_upd (le_upd (le_top _) (o1 (.ref rfl))) (o1 (.ref rfl))) (o1 .same)) (o1 .sc)) (o1 .sc)) (ac (.cells (fun _ => rfl) (ac .sc (ac .sc (ac (.own rfl) (ac (.own rfl) (ac .sc an)))))) (ac (.cells (fun _ => rfl) (ac .sc (ac .sc (ac .sc (ac .sc (ac .sc an)))))) (ac (.cells (fun _ => rfl) (all2_row _)) (ac (.cells (fun _ => rfl) (all2_row _)) an))))), by omega, x7 ++ ([(⟨v10.Path, v10.Value, r11⟩ : api_Doc)] : List api_Doc), IntKind.i64.wrap (x8 + 1), h, rfl⟩
     ·refine AW.cond_no rfl c9 (AW.exit (AW.seq (AW.region ?_)))
      refine s_loadN (ds := [(ci a0.ID), (ct a0.Model), (C.own 2 0 x1.length 6), (C.own 3 0 x7.length 6), (ci a0.Clock)]) F.ag_25 F.sz_25 rfl rfl rfl (s_store (cs' := [(ci a0.ID), (ct a0.Model), (C.own 2 0 x1.length 6), (C.own 3 0 x7.length 6), (ci a0.Clock)]) rfl rfl rfl (List.cons_ne_nil _ _) rfl F.sz_25 (nl rfl) rfl (AWops.nil (AW.ret ?_)))
      obtain rfl := Option.some.inj h
      exact ⟨_, rfl, (wg 0 [] [2, 3] rfl (le_upd (le_top _) (.t (.agg (ac .sc (ac .sc (ac (CLe.frz e_api_Inst_len rfl rfl rfl) (ac (CLe.frz e_api_Doc_len rfl rfl rfl) (ac .sc an)))))))) an)⟩
def index_Index_none_nil0.f (k : Nat) : Option Bool := some true
theorem index_Index_none_nil0.meets (k : Nat) (r : Bool) (h : index_Index_none_nil0.f k = some r) : Meets Tryd.prog 11 [(sc (.pointer none))] [] (sb r) [] := by
 unfold index_Index_none_nil0.f at h
 refine Meets.of_body (n := 12) Tryd.func11 rfl rfl (nl rfl) fun x hx => ?_
 replace hx : x.k = 0 := hx
 show AW _ x _ _ ⟨12, fr0 [(sc (.pointer none))], []⟩
 refine AW.seq (AW.region ?_)
 refine s_assign (d := (sb false)) rfl (AWops.nil (AW.seq (AW.region ?_)))
 refine s_move (d := (sc (.pointer none))) rfl (s_ptrNil (b := true) F.u_30 rfl (.inr ⟨⟨_, rfl⟩, rfl⟩) (.inl rfl) (s_move (d := (sb true)) rfl ?_))
 iterate 5 refine AWops.guard_no rfl (nl rfl) rfl rfl ?_
 refine s_pick_yes (d := (sb true)) rfl rfl rfl (s_assign (d := (sb true)) rfl (AWops.nil (AW.ret ?_)))
 obtain rfl := Option.some.inj h
 exact ⟨_, rfl, (wg 0 [] [] rfl (le_upd (le_top _) (o1 .sc)) an)⟩
theorem index_Index_none_nil0.const {k : Nat} {r : Bool} (h : index_Index_none_nil0.f k = some r) : r = true := by
 unfold index_Index_none_nil0.f at h
 exact (Option.some.inj h).symm
def index_Index_Latch_nil0.f (k : Nat) (a1 : api_Case) (a2 : api_Event) : Option (api_Case × (List ByteArray)) := (tree_Copy.f k a1).bind fun r1 => (index_Index_none_nil0.f k).bind fun r2 => some (r1, ([] : List ByteArray))
theorem index_Index_Latch_nil0.meets (k : Nat) (a1 : api_Case) (a2 : api_Event) (r : api_Case × (List ByteArray)) (h : index_Index_Latch_nil0.f k a1 a2 = some r) : Meets Tryd.prog 6 [(sc (.pointer none)), (D.agg (c_api_Case a1)), (D.agg (c_api_Event a2))] [] (D.tup [(D.agg (c_api_Case r.1)), (D.one (C.p false (.sl r.2.length (r.2.flatMap e_str))))]) [] := by
 unfold index_Index_Latch_nil0.f at h
 refine Meets.of_body (n := 104) Tryd.func6 rfl rfl (nl rfl) fun x hx => ?_
 replace hx : x.k = 0 := hx
 show AW _ x _ _ ⟨104, fr0 [(sc (.pointer none)), (D.agg (c_api_Case a1)), (D.agg (c_api_Event a2))], []⟩
 refine AW.seq (AW.region ?_)
 refine s_box (cs := (c_api_Case a1)) rfl (List.cons_ne_nil _ _) rfl (s_box (cs := (c_api_Event a2)) rfl (List.cons_ne_nil _ _) rfl (s_alloc (cs := [(ci 0), (ct (⟨#[]⟩ : ByteArray)), (C.p true (.v (.slice none 0 0))), (C.p true (.v (.slice none 0 0))), (ci 0)]) F.z_25 rfl rfl (s_assign (d := (sc (.slice none 0 0))) rfl (AWops.nil (AW.seq (AW.region (s_loadN (ds := (c_api_Case a1)) F.ag_25 F.sz_25 rfl rfl rfl ?_)))))))
 obtain ⟨r1, er1, h⟩ := bnd h
 refine cc [] [(some (AObj.cells true (c_api_Case a1))), (some (AObj.cells true (c_api_Event a2))), (some (AObj.cells true [(ci 0), (ct (⟨#[]⟩ : ByteArray)), (C.p true (.v (.slice none 0 0))), (C.p true (.v (.slice none 0 0))), (ci 0)]))] (D.agg (c_api_Case r1)) F.ca_10 rfl rfl (ac (LendT.aggL (ac .sc (ac .sc (ac .imm (ac .imm (ac .sc an)))))) an) an (tree_Copy.meets _ a1 r1 er1) (s_store (cs' := (c_api_Case r1)) rfl rfl rfl (List.cons_ne_nil _ _) rfl F.sz_25 (nl rfl) rfl (AWops.nil (AW.seq (AW.seq (AW.region (s_move (d := (sc (.pointer none))) rfl ?_))))))
 obtain ⟨r2, er2, h⟩ := bnd h
 have kr2 := index_Index_none_nil0.const er2
 subst kr2
 refine cc [] [(some (AObj.cells true (c_api_Case r1))), (some (AObj.cells true (c_api_Event a2))), (some (AObj.cells true [(ci 0), (ct (⟨#[]⟩ : ByteArray)), (C.p true (.v (.slice none 0 0))), (C.p true (.v (.slice none 0 0))), (ci 0)]))] (sb true) F.ca_11 rfl rfl (ac (.one .sc) an) an (index_Index_none_nil0.meets _  true er2) (AWops.nil ?_)
 refine AW.cond_yes rfl rfl (AW.seq (AW.region ?_))
 refine s_loadN (ds := (c_api_Case r1)) F.ag_25 F.sz_25 rfl rfl rfl (s_store (cs' := (c_api_Case r1)) rfl rfl rfl (List.cons_ne_nil _ _) rfl F.sz_25 (nl rfl) rfl (s_assign (d := (sc (.slice none 0 0))) rfl (AWops.nil (AW.ret ?_))))
 obtain rfl := Option.some.inj h
 exact ⟨_, rfl, (wg 0 [] [] rfl (le_upd (le_top _) (DLe.tup (ac (TLe.agg (ac .sc (ac .sc (ac .same (ac .same (ac .sc an)))))) (ac (TLe.one .nil) an)))) an)⟩
def index_Index_For_nil0.f (k : Nat) (a1 : api_Event) : Option (List api_Hook) := (index_Index_none_nil0.f k).bind fun r1 => some ([] : List api_Hook)
theorem index_Index_For_nil0.meets (k : Nat) (a1 : api_Event) (r : (List api_Hook)) (h : index_Index_For_nil0.f k a1 = some r) : Meets Tryd.prog 7 [(sc (.pointer none)), (D.agg (c_api_Event a1))] [] (D.one (C.own 0 0 r.length 4)) [(ow_ e_api_Hook r)] := by
 unfold index_Index_For_nil0.f at h
 refine Meets.of_body (n := 49) Tryd.func7 rfl rfl (nl rfl) fun x hx => ?_
 replace hx : x.k = 0 := hx
 show AW _ x _ _ ⟨49, fr0 [(sc (.pointer none)), (D.agg (c_api_Event a1))], []⟩
 refine AW.seq (AW.region ?_)
 refine s_box (cs := (c_api_Event a1)) rfl (List.cons_ne_nil _ _) rfl (s_assign (d := (sc (.slice none 0 0))) rfl (AWops.nil (AW.seq (AW.seq (AW.region (s_move (d := (sc (.pointer none))) rfl ?_))))))
 obtain ⟨r1, er1, h⟩ := bnd h
 have kr1 := index_Index_none_nil0.const er1
 subst kr1
 refine cc [] [(some (AObj.cells true (c_api_Event a1)))] (sb true) F.ca_11 rfl rfl (ac (.one .sc) an) an (index_Index_none_nil0.meets _  true er1) (AWops.nil ?_)
 refine AW.cond_yes rfl rfl (AW.seq (AW.region ?_))
 refine s_assign (d := (sc (.slice none 0 0))) rfl (AWops.nil (AW.ret ?_))
 obtain rfl := Option.some.inj h
 exact ⟨_, rfl, (Weak.trans (Weak.nil (sz := 4) (i := 0) rfl) (wg 0 [1] [] rfl (le_upd (le_top _) (o1 (CLe.ownN rfl (by simp)))) (ac (.cells (fun _ => rfl) an) an)))⟩
mutual
def dossierref12_SameTexts.l0 : Nat → Int → (List ByteArray) → (List ByteArray) → Option Bool
 | 0, _, _, _ => none
 | k + 1, x2, a0, a1 => if (decide (x2 < (a0.length : Int))) = true then ((rd a0 x2).bind fun v4 => (rd a1 x2).bind fun v5 => if (v4.toList == v5.toList) = true then (dossierref12_SameTexts.l0 k (IntKind.i64.wrap (x2 + 1)) a0 a1) else (some false)) else (some true)
end
def dossierref12_SameTexts.f (k : Nat) (a0 : List ByteArray) (a1 : List ByteArray) : Option Bool := if ((a0.length : Int) != (a1.length : Int)) = true then (some false) else (dossierref12_SameTexts.l0 k 0 a0 a1)
theorem dossierref12_SameTexts.meets (k : Nat) (a0 : List ByteArray) (a1 : List ByteArray) (r : Bool) (h : dossierref12_SameTexts.f k a0 a1 = some r) : Meets Tryd.prog 34 [(D.one (C.p false (.sl a0.length (a0.flatMap e_str)))), (D.one (C.p false (.sl a1.length (a1.flatMap e_str))))] [] (sb r) [] := by
 unfold dossierref12_SameTexts.f at h
 refine Meets.of_body (n := 26) Tryd.func34 rfl rfl (nl rfl) fun x hx => ?_
 replace hx : x.k = 0 := hx
 show AW _ x _ _ ⟨26, fr0 [(D.one (C.p false (.sl a0.length (a0.flatMap e_str)))), (D.one (C.p false (.sl a1.length (a1.flatMap e_str))))], []⟩
 refine AW.seq (AW.region ?_)
 refine s_assign (d := (sb false)) rfl (AWops.nil (AW.seq (AW.seq (AW.region ?_))))
 refine s_move (d := (D.one (C.p false (.sl a0.length (a0.flatMap e_str))))) rfl (s_len (n := a0.length) F.u_31 rfl (.inr ⟨(fun _ _ h => by cases h), ⟨_, rfl⟩⟩) (s_move (d := (D.one (C.p false (.sl a1.length (a1.flatMap e_str))))) rfl (s_len (n := a1.length) F.u_31 rfl (.inr ⟨(fun _ _ h => by cases h), ⟨_, rfl⟩⟩) (s_binI (v := (.bool ((a0.length : Int) != (a1.length : Int)))) rfl rfl rfl (AWops.nil ?_)))))
 rcases itH h with ⟨c1, h⟩ | ⟨c1, h⟩
 ·refine AW.cond_yes rfl c1 (AW.seq (AW.region ?_))
  refine s_assign (d := (sb false)) rfl (AWops.nil (AW.ret ?_))
  obtain rfl := Option.some.inj h
  exact ⟨_, rfl, (wg 0 [] [] rfl (le_upd (le_top _) (o1 .sc)) an)⟩
 ·refine AW.cond_no rfl c1 (AW.skip (AW.seq (AW.seq (AW.region ?_))))
  refine s_move (d := (D.one (C.p false (.sl a0.length (a0.flatMap e_str))))) rfl (s_len (n := a0.length) F.u_31 rfl (.inr ⟨(fun _ _ h => by cases h), ⟨_, rfl⟩⟩) (s_move (d := (si 0)) rfl (AWops.nil (AW.block ?_))))
  refine AW.loopw (st0 := ⟨26, (upd 26 (upd 26 (upd 26 (upd 26 topF 0 (D.one (C.p false (.sl a0.length (a0.flatMap e_str))))) 1 (D.one (C.p false (.sl a1.length (a1.flatMap e_str))))) 12 (si (a0.length : Int))) 13 (si 0)), []⟩) (fun kv st => kv ≤ k ∧ ∃ (x2 : Int), dossierref12_SameTexts.l0 kv x2 a0 a1 = some r ∧ st = ⟨26, (upd 26 (upd 26 (upd 26 (upd 26 topF 0 (D.one (C.p false (.sl a0.length (a0.flatMap e_str))))) 1 (D.one (C.p false (.sl a1.length (a1.flatMap e_str))))) 12 (si (a0.length : Int))) 13 (si x2)), []⟩) (k := k) (wg 0 [] [] hx (le_upd (le_upd (le_upd (le_upd (le_top _) (o1 .same)) (o1 .same)) (o1 .sc)) (o1 .sc)) an) ⟨Nat.le_refl _, 0, h, rfl⟩ ?_
  rintro ql0 st ⟨hkl0, x2, h, rfl⟩
  cases ql0 with
  | zero => exact absurd h (by simp [dossierref12_SameTexts.l0])
  | succ ql0 =>
   replace h := (dossierref12_SameTexts.l0.eq_2 _ _ _ _).symm.trans h
   refine AW.seq (AW.region ?_)
   refine s_binI (v := (.bool (decide (x2 < (a0.length : Int))))) rfl rfl rfl (AWops.nil (AW.seq ?_))
   rcases itH h with ⟨c3, h⟩ | ⟨c3, h⟩
   ·refine AW.cond_yes rfl c3 (AW.skip (AW.seq (AW.block (AW.seq (AW.region ?_)))))
    refine s_move (d := (si x2)) rfl (s_assign (d := (si x2)) rfl (AWops.nil (AW.seq ?_)))
    refine AW.weak (st' := ⟨26, (upd 26 (upd 26 (upd 26 (upd 26 (upd 26 topF 0 (D.one (C.p false (.sl a0.length (a0.flatMap e_str))))) 1 (D.one (C.p false (.sl a1.length (a1.flatMap e_str))))) 5 (si x2)) 12 (si (a0.length : Int))) 13 (si x2)), []⟩) (wg 0 [] [] hx (le_upd (le_upd (le_upd (le_upd (le_upd (le_top _) (o1 .same)) (o1 .same)) (o1 .sc)) (o1 .sc)) (o1 .sc)) an) ?_
    obtain ⟨v4, ev4, h⟩ := bnd h
    obtain ⟨pv4, qv4, gv4⟩ := rd_some ev4
    obtain ⟨v5, ev5, h⟩ := bnd h
    obtain ⟨pv5, qv5, gv5⟩ := rd_some ev5
    refine AW.draw (n := 26) (L := 0) [(ft 0 16 (D.one (C.p false (.sl a0.length (a0.flatMap e_str)))) [(0, (D.one (C.p false (.sl a0.length (a0.flatMap e_str)))))]), (ft 1 17 (si x2) [(5, (si x2))]), (ft 2 18 (D.one (C.peek false [P.v (.string v4)])) [(16, (D.one (C.p false (.sl a0.length (a0.flatMap e_str))))), (17, (si x2))]), (ft 3 19 (st_ v4) [(18, (D.one (C.peek false [P.v (.string v4)])))]), (ft 4 20 (D.one (C.p false (.sl a1.length (a1.flatMap e_str)))) [(1, (D.one (C.p false (.sl a1.length (a1.flatMap e_str)))))]), (ft 5 21 (si x2) [(5, (si x2))]), (ft 6 22 (D.one (C.peek false [P.v (.string v5)])) [(20, (D.one (C.p false (.sl a1.length (a1.flatMap e_str))))), (21, (si x2))]), (ft 7 23 (st_ v5) [(22, (D.one (C.peek false [P.v (.string v5)])))]), (ft 8 24 (sb (!(v4.toList == v5.toList))) [(19, (st_ v4)), (23, (st_ v5))])] [[], [], [0, 1], [0, 1, 2], [], [], [4, 5], [4, 5, 6], (.range 8)] (nl rfl) [0, 0, 1, 2, 0, 0, 1, 2, 3] rfl (TK := []) rfl AllK.nil' (by repeat (first | refine fC ⟨?_, ?_⟩ ?_ | refine sC rfl ?_ | refine hC rfl ?_ | trivial)) ?_ ?_
    ·refine (pC ?_ (pC ?_ (pC ?_ (pC ?_ (pC ?_ (pC ?_ (pC ?_ (pC ?_ (pC ?_ AllStep.nil')))))))))
     ·intro K rest fr hv htk k
      show AWops _ x _ _ K ⟨26, (upd 26 fr 0 (D.one (C.p false (.sl a0.length (a0.flatMap e_str))))), _⟩
      refine s_move (d := (D.one (C.p false (.sl a0.length (a0.flatMap e_str))))) rfl k
     ·intro K rest fr hv htk k
      show AWops _ x _ _ K ⟨26, (upd 26 fr 5 (si x2)), _⟩
      refine s_move (d := (si x2)) rfl k
     ·intro K rest fr hv htk k
      show AWops _ x _ _ K ⟨26, (upd 26 (upd 26 fr 17 (si x2)) 16 (D.one (C.p false (.sl a0.length (a0.flatMap e_str))))), []⟩
      refine s_indexImm (ps := [P.v (.string v4)]) F.u_31 F.sz_9 rfl rfl pv4 qv4 (flat_at e_str_len gv4 (e_str_eq v4)) k
     ·intro K rest fr hv htk k
      show AWops _ x _ _ K ⟨26, (upd 26 fr 18 (D.one (C.peek false [P.v (.string v4)]))), []⟩
      refine s_load1 (c' := (ct v4)) F.ag_9 rfl rfl k
     ·intro K rest fr hv htk k
      show AWops _ x _ _ K ⟨26, (upd 26 fr 1 (D.one (C.p false (.sl a1.length (a1.flatMap e_str))))), _⟩
      refine s_move (d := (D.one (C.p false (.sl a1.length (a1.flatMap e_str))))) rfl k
     ·intro K rest fr hv htk k
      show AWops _ x _ _ K ⟨26, (upd 26 fr 5 (si x2)), _⟩
      refine s_move (d := (si x2)) rfl k
     ·intro K rest fr hv htk k
      show AWops _ x _ _ K ⟨26, (upd 26 (upd 26 fr 21 (si x2)) 20 (D.one (C.p false (.sl a1.length (a1.flatMap e_str))))), []⟩
      refine s_indexImm (ps := [P.v (.string v5)]) F.u_31 F.sz_9 rfl rfl pv5 qv5 (flat_at e_str_len gv5 (e_str_eq v5)) k
     ·intro K rest fr hv htk k
      show AWops _ x _ _ K ⟨26, (upd 26 fr 22 (D.one (C.peek false [P.v (.string v5)]))), []⟩
      refine s_load1 (c' := (ct v5)) F.ag_9 rfl rfl k
     ·intro K rest fr hv htk k
      show AWops _ x _ _ K ⟨26, (upd 26 (upd 26 fr 23 (st_ v5)) 19 (st_ v4)), []⟩
      refine s_binS (v := (.bool (!(v4.toList == v5.toList)))) rfl rfl rfl k
    ·refine AWops.weak (st' := ⟨26, (upd 26 (upd 26 (upd 26 (upd 26 (upd 26 topF 0 (D.one (C.p false (.sl a0.length (a0.flatMap e_str))))) 1 (D.one (C.p false (.sl a1.length (a1.flatMap e_str))))) 12 (si (a0.length : Int))) 13 (si x2)) 24 (sb (!(v4.toList == v5.toList)))), []⟩) (wg 0 [] [] hx (le_upd (le_upd (le_upd (le_upd (le_upd (le_top _) (o1 .same)) (o1 .same)) (o1 .sc)) (o1 .sc)) (o1 .sc)) an) (AWops.nil ?_)
     rcases itH h with ⟨c6, h⟩ | ⟨c6, h⟩
     ·refine AW.cond_no rfl (by rw [c6] <;> rfl) (AW.skip (AW.region ?_))
      refine s_binI (v := (.int .i64 (IntKind.i64.wrap (x2 + 1)))) rfl rfl rfl (s_move (d := (si (IntKind.i64.wrap (x2 + 1)))) rfl (AWops.nil ?_))
      exact ⟨_, ⟨26, (upd 26 (upd 26 (upd 26 (upd 26 topF 0 (D.one (C.p false (.sl a0.length (a0.flatMap e_str))))) 1 (D.one (C.p false (.sl a1.length (a1.flatMap e_str))))) 12 (si (a0.length : Int))) 13 (si (IntKind.i64.wrap (x2 + 1)))), []⟩, by omega, (wg 0 [] [] hx (le_upd (le_upd (le_upd (le_upd (le_top _) (o1 .same)) (o1 .same)) (o1 .sc)) (o1 .sc)) an), by omega, IntKind.i64.wrap (x2 + 1), h, rfl⟩
     ·refine AW.cond_yes rfl (by rw [c6] <;> rfl) (AW.seq (AW.region ?_))
      refine s_assign (d := (sb false)) rfl (AWops.nil (AW.ret ?_))
      obtain rfl := Option.some.inj h
      exact ⟨_, rfl, (wg 0 [] [] rfl (le_upd (le_top _) (o1 .sc)) an)⟩
   ·refine AW.cond_no rfl c3 (AW.exit (AW.seq (AW.region ?_)))
    refine s_assign (d := (sb true)) rfl (AWops.nil (AW.ret ?_))
    obtain rfl := Option.some.inj h
    exact ⟨_, rfl, (wg 0 [] [] rfl (le_upd (le_top _) (o1 .sc)) an)⟩
mutual
def dossierref16_Same.l0 : Nat → Int → (List api_Doc) → (List api_Doc) → Option Bool
 | 0, _, _, _ => none
 | k + 1, x2, a0, a1 => if (decide (x2 < (a0.length : Int))) = true then ((rd a0 x2).bind fun v4 => (rd a1 x2).bind fun v5 => if (v4.Path.toList == v5.Path.toList) = true then ((rd a0 x2).bind fun v7 => (rd a1 x2).bind fun v8 => if ((v7.Value.Kind == v8.Value.Kind) && ((v7.Value.Int == v8.Value.Int) && ((v7.Value.Bool == v8.Value.Bool) && ((v7.Value.Text.toList == v8.Value.Text.toList) && true)))) = true then ((rd a0 x2).bind fun v10 => (rd a1 x2).bind fun v11 => (dossierref12_SameTexts.f k v10.Refs v11.Refs).bind fun r12 => if r12 = true then (dossierref16_Same.l0 k (IntKind.i64.wrap (x2 + 1)) a0 a1) else (some false)) else (some false)) else (some false)) else (some true)
end
def dossierref16_Same.f (k : Nat) (a0 : List api_Doc) (a1 : List api_Doc) : Option Bool := if ((a0.length : Int) != (a1.length : Int)) = true then (some false) else (dossierref16_Same.l0 k 0 a0 a1)
theorem dossierref16_Same.meets (k : Nat) (a0 : List api_Doc) (a1 : List api_Doc) (r : Bool) (h : dossierref16_Same.f k a0 a1 = some r) : Meets Tryd.prog 19 [(D.one (C.p false (.sl a0.length (a0.flatMap e_api_Doc)))), (D.one (C.p false (.sl a1.length (a1.flatMap e_api_Doc))))] [] (sb r) [] := by
 unfold dossierref16_Same.f at h
 refine Meets.of_body (n := 55) Tryd.func19 rfl rfl (nl rfl) fun x hx => ?_
 replace hx : x.k = 0 := hx
 show AW _ x _ _ ⟨55, fr0 [(D.one (C.p false (.sl a0.length (a0.flatMap e_api_Doc)))), (D.one (C.p false (.sl a1.length (a1.flatMap e_api_Doc))))], []⟩
 refine AW.seq (AW.region ?_)
 refine s_assign (d := (sb false)) rfl (AWops.nil (AW.seq (AW.seq (AW.region ?_))))
 refine s_move (d := (D.one (C.p false (.sl a0.length (a0.flatMap e_api_Doc))))) rfl (s_len (n := a0.length) F.u_23 rfl (.inr ⟨(fun _ _ h => by cases h), ⟨_, rfl⟩⟩) (s_move (d := (D.one (C.p false (.sl a1.length (a1.flatMap e_api_Doc))))) rfl (s_len (n := a1.length) F.u_23 rfl (.inr ⟨(fun _ _ h => by cases h), ⟨_, rfl⟩⟩) (s_binI (v := (.bool ((a0.length : Int) != (a1.length : Int)))) rfl rfl rfl (AWops.nil ?_)))))
 rcases itH h with ⟨c1, h⟩ | ⟨c1, h⟩
 ·refine AW.cond_yes rfl c1 (AW.seq (AW.region ?_))
  refine s_assign (d := (sb false)) rfl (AWops.nil (AW.ret ?_))
  obtain rfl := Option.some.inj h
  exact ⟨_, rfl, (wg 0 [] [] rfl (le_upd (le_top _) (o1 .sc)) an)⟩
 ·refine AW.cond_no rfl c1 (AW.skip (AW.seq (AW.seq (AW.region ?_))))
  refine s_move (d := (D.one (C.p false (.sl a0.length (a0.flatMap e_api_Doc))))) rfl (s_len (n := a0.length) F.u_23 rfl (.inr ⟨(fun _ _ h => by cases h), ⟨_, rfl⟩⟩) (s_move (d := (si 0)) rfl (AWops.nil (AW.block ?_))))
  refine AW.loopw (st0 := ⟨55, (upd 55 (upd 55 (upd 55 (upd 55 topF 0 (D.one (C.p false (.sl a0.length (a0.flatMap e_api_Doc))))) 1 (D.one (C.p false (.sl a1.length (a1.flatMap e_api_Doc))))) 12 (si (a0.length : Int))) 13 (si 0)), []⟩) (fun kv st => kv ≤ k ∧ ∃ (x2 : Int), dossierref16_Same.l0 kv x2 a0 a1 = some r ∧ st = ⟨55, (upd 55 (upd 55 (upd 55 (upd 55 topF 0 (D.one (C.p false (.sl a0.length (a0.flatMap e_api_Doc))))) 1 (D.one (C.p false (.sl a1.length (a1.flatMap e_api_Doc))))) 12 (si (a0.length : Int))) 13 (si x2)), []⟩) (k := k) (wg 0 [] [] hx (le_upd (le_upd (le_upd (le_upd (le_top _) (o1 .same)) (o1 .same)) (o1 .sc)) (o1 .sc)) an) ⟨Nat.le_refl _, 0, h, rfl⟩ ?_
  rintro ql0 st ⟨hkl0, x2, h, rfl⟩
  cases ql0 with
  | zero => exact absurd h (by simp [dossierref16_Same.l0])
  | succ ql0 =>
   replace h := (dossierref16_Same.l0.eq_2 _ _ _ _).symm.trans h
   refine AW.seq (AW.region ?_)
   refine s_binI (v := (.bool (decide (x2 < (a0.length : Int))))) rfl rfl rfl (AWops.nil (AW.seq ?_))
   rcases itH h with ⟨c3, h⟩ | ⟨c3, h⟩
   ·refine AW.cond_yes rfl c3 (AW.skip (AW.seq (AW.block (AW.seq (AW.region ?_)))))
    refine s_move (d := (si x2)) rfl (s_assign (d := (si x2)) rfl (AWops.nil (AW.seq ?_)))
    refine AW.weak (st' := ⟨55, (upd 55 (upd 55 (upd 55 (upd 55 (upd 55 topF 0 (D.one (C.p false (.sl a0.length (a0.flatMap e_api_Doc))))) 1 (D.one (C.p false (.sl a1.length (a1.flatMap e_api_Doc))))) 5 (si x2)) 12 (si (a0.length : Int))) 13 (si x2)), []⟩) (wg 0 [] [] hx (le_upd (le_upd (le_upd (le_upd (le_upd (le_top _) (o1 .same)) (o1 .same)) (o1 .sc)) (o1 .sc)) (o1 .sc)) an) ?_
    obtain ⟨v4, ev4, h⟩ := bnd h
    obtain ⟨pv4, qv4, gv4⟩ := rd_some ev4
    obtain ⟨v5, ev5, h⟩ := bnd h
    obtain ⟨pv5, qv5, gv5⟩ := rd_some ev5
    rcases itH h with ⟨c6, h⟩ | ⟨c6, h⟩
    ·obtain ⟨v7, ev7, h⟩ := bnd h
     obtain ⟨pv7, qv7, gv7⟩ := rd_some ev7
     obtain ⟨v8, ev8, h⟩ := bnd h
     obtain ⟨pv8, qv8, gv8⟩ := rd_some ev8
     rcases itH h with ⟨c9, h⟩ | ⟨c9, h⟩
     ·obtain ⟨v10, ev10, h⟩ := bnd h
      obtain ⟨pv10, qv10, gv10⟩ := rd_some ev10
      obtain ⟨v11, ev11, h⟩ := bnd h
      obtain ⟨pv11, qv11, gv11⟩ := rd_some ev11
      obtain ⟨r12, er12, h⟩ := bnd h
      refine AW.draw (n := 55) (L := 1) [(ft 0 16 (D.one (C.p false (.sl a0.length (a0.flatMap e_api_Doc)))) [(0, (D.one (C.p false (.sl a0.length (a0.flatMap e_api_Doc)))))]), (ft 1 17 (si x2) [(5, (si x2))]), (ft 2 18 (D.one (C.peek false (p_api_Doc v4))) [(16, (D.one (C.p false (.sl a0.length (a0.flatMap e_api_Doc))))), (17, (si x2))]), (ft 3 19 (D.one (C.peek false (p_api_Doc v4))) [(18, (D.one (C.peek false (p_api_Doc v4))))]), (ft 4 20 (st_ v4.Path) [(19, (D.one (C.peek false (p_api_Doc v4))))]), (ft 5 21 (D.one (C.p false (.sl a1.length (a1.flatMap e_api_Doc)))) [(1, (D.one (C.p false (.sl a1.length (a1.flatMap e_api_Doc)))))]), (ft 6 22 (si x2) [(5, (si x2))]), (ft 7 23 (D.one (C.peek false (p_api_Doc v5))) [(21, (D.one (C.p false (.sl a1.length (a1.flatMap e_api_Doc))))), (22, (si x2))]), (ft 8 24 (D.one (C.peek false (p_api_Doc v5))) [(23, (D.one (C.peek false (p_api_Doc v5))))]), (ft 9 25 (st_ v5.Path) [(24, (D.one (C.peek false (p_api_Doc v5))))]), (ft 10 26 (sb (!(v4.Path.toList == v5.Path.toList))) [(20, (st_ v4.Path)), (25, (st_ v5.Path))]), (ft 11 27 (sb (!(v4.Path.toList == v5.Path.toList))) [(26, (sb (!(v4.Path.toList == v5.Path.toList))))]), (ft 12 28 (D.one (C.p false (.sl a0.length (a0.flatMap e_api_Doc)))) [(0, (D.one (C.p false (.sl a0.length (a0.flatMap e_api_Doc))))), (27, (sb (!(v4.Path.toList == v5.Path.toList))))]), (ft 13 29 (si x2) [(5, (si x2)), (27, (sb (!(v4.Path.toList == v5.Path.toList))))]), (ft 14 30 (D.one (C.peek false (p_api_Doc v7))) [(27, (sb (!(v4.Path.toList == v5.Path.toList)))), (28, (D.one (C.p false (.sl a0.length (a0.flatMap e_api_Doc))))), (29, (si x2))]), (ft 15 31 (D.one (C.peek false [P.v (.int .i64 v7.Value.Kind), P.v (.int .i64 v7.Value.Int), P.v (.bool v7.Value.Bool), P.v (.string v7.Value.Text), P.sl v7.Refs.length (v7.Refs.flatMap e_str)])) [(27, (sb (!(v4.Path.toList == v5.Path.toList)))), (30, (D.one (C.peek false (p_api_Doc v7))))]), (ft 16 32 (D.agg (c_api_Value v7.Value)) [(27, (sb (!(v4.Path.toList == v5.Path.toList)))), (31, (D.one (C.peek false [P.v (.int .i64 v7.Value.Kind), P.v (.int .i64 v7.Value.Int), P.v (.bool v7.Value.Bool), P.v (.string v7.Value.Text), P.sl v7.Refs.length (v7.Refs.flatMap e_str)])))]), (ft 17 33 (D.one (C.p false (.sl a1.length (a1.flatMap e_api_Doc)))) [(1, (D.one (C.p false (.sl a1.length (a1.flatMap e_api_Doc))))), (27, (sb (!(v4.Path.toList == v5.Path.toList))))]), (ft 18 34 (si x2) [(5, (si x2)), (27, (sb (!(v4.Path.toList == v5.Path.toList))))]), (ft 19 35 (D.one (C.peek false (p_api_Doc v8))) [(27, (sb (!(v4.Path.toList == v5.Path.toList)))), (33, (D.one (C.p false (.sl a1.length (a1.flatMap e_api_Doc))))), (34, (si x2))]), (ft 20 36 (D.one (C.peek false [P.v (.int .i64 v8.Value.Kind), P.v (.int .i64 v8.Value.Int), P.v (.bool v8.Value.Bool), P.v (.string v8.Value.Text), P.sl v8.Refs.length (v8.Refs.flatMap e_str)])) [(27, (sb (!(v4.Path.toList == v5.Path.toList)))), (35, (D.one (C.peek false (p_api_Doc v8))))]), (ft 21 37 (D.agg (c_api_Value v8.Value)) [(27, (sb (!(v4.Path.toList == v5.Path.toList)))), (36, (D.one (C.peek false [P.v (.int .i64 v8.Value.Kind), P.v (.int .i64 v8.Value.Int), P.v (.bool v8.Value.Bool), P.v (.string v8.Value.Text), P.sl v8.Refs.length (v8.Refs.flatMap e_str)])))]), (ft 22 38 (sb (!((v7.Value.Kind == v8.Value.Kind) && ((v7.Value.Int == v8.Value.Int) && ((v7.Value.Bool == v8.Value.Bool) && ((v7.Value.Text.toList == v8.Value.Text.toList) && true)))))) [(27, (sb (!(v4.Path.toList == v5.Path.toList)))), (32, (D.agg (c_api_Value v7.Value))), (37, (D.agg (c_api_Value v8.Value)))]), (ft 23 39 (sb (!((v7.Value.Kind == v8.Value.Kind) && ((v7.Value.Int == v8.Value.Int) && ((v7.Value.Bool == v8.Value.Bool) && ((v7.Value.Text.toList == v8.Value.Text.toList) && true)))))) [(27, (sb (!(v4.Path.toList == v5.Path.toList)))), (38, (sb (!((v7.Value.Kind == v8.Value.Kind) && ((v7.Value.Int == v8.Value.Int) && ((v7.Value.Bool == v8.Value.Bool) && ((v7.Value.Text.toList == v8.Value.Text.toList) && true)))))))]), (ft 24 40 (sb (!((v7.Value.Kind == v8.Value.Kind) && ((v7.Value.Int == v8.Value.Int) && ((v7.Value.Bool == v8.Value.Bool) && ((v7.Value.Text.toList == v8.Value.Text.toList) && true)))))) [(39, (sb (!((v7.Value.Kind == v8.Value.Kind) && ((v7.Value.Int == v8.Value.Int) && ((v7.Value.Bool == v8.Value.Bool) && ((v7.Value.Text.toList == v8.Value.Text.toList) && true)))))))]), (ft 25 41 (D.one (C.p false (.sl a0.length (a0.flatMap e_api_Doc)))) [(0, (D.one (C.p false (.sl a0.length (a0.flatMap e_api_Doc))))), (40, (sb (!((v7.Value.Kind == v8.Value.Kind) && ((v7.Value.Int == v8.Value.Int) && ((v7.Value.Bool == v8.Value.Bool) && ((v7.Value.Text.toList == v8.Value.Text.toList) && true)))))))]), (ft 26 42 (si x2) [(5, (si x2)), (40, (sb (!((v7.Value.Kind == v8.Value.Kind) && ((v7.Value.Int == v8.Value.Int) && ((v7.Value.Bool == v8.Value.Bool) && ((v7.Value.Text.toList == v8.Value.Text.toList) && true)))))))]), (ft 27 43 (D.one (C.peek false (p_api_Doc v10))) [(40, (sb (!((v7.Value.Kind == v8.Value.Kind) && ((v7.Value.Int == v8.Value.Int) && ((v7.Value.Bool == v8.Value.Bool) && ((v7.Value.Text.toList == v8.Value.Text.toList) && true))))))), (41, (D.one (C.p false (.sl a0.length (a0.flatMap e_api_Doc))))), (42, (si x2))]), (ft 28 44 (D.one (C.peek false [P.sl v10.Refs.length (v10.Refs.flatMap e_str)])) [(40, (sb (!((v7.Value.Kind == v8.Value.Kind) && ((v7.Value.Int == v8.Value.Int) && ((v7.Value.Bool == v8.Value.Bool) && ((v7.Value.Text.toList == v8.Value.Text.toList) && true))))))), (43, (D.one (C.peek false (p_api_Doc v10))))]), (ft 29 45 (D.one (C.p false (.sl v10.Refs.length (v10.Refs.flatMap e_str)))) [(40, (sb (!((v7.Value.Kind == v8.Value.Kind) && ((v7.Value.Int == v8.Value.Int) && ((v7.Value.Bool == v8.Value.Bool) && ((v7.Value.Text.toList == v8.Value.Text.toList) && true))))))), (44, (D.one (C.peek false [P.sl v10.Refs.length (v10.Refs.flatMap e_str)])))]), (ft 30 46 (D.one (C.p false (.sl a1.length (a1.flatMap e_api_Doc)))) [(1, (D.one (C.p false (.sl a1.length (a1.flatMap e_api_Doc))))), (40, (sb (!((v7.Value.Kind == v8.Value.Kind) && ((v7.Value.Int == v8.Value.Int) && ((v7.Value.Bool == v8.Value.Bool) && ((v7.Value.Text.toList == v8.Value.Text.toList) && true)))))))]), (ft 31 47 (si x2) [(5, (si x2)), (40, (sb (!((v7.Value.Kind == v8.Value.Kind) && ((v7.Value.Int == v8.Value.Int) && ((v7.Value.Bool == v8.Value.Bool) && ((v7.Value.Text.toList == v8.Value.Text.toList) && true)))))))]), (ft 32 48 (D.one (C.peek false (p_api_Doc v11))) [(40, (sb (!((v7.Value.Kind == v8.Value.Kind) && ((v7.Value.Int == v8.Value.Int) && ((v7.Value.Bool == v8.Value.Bool) && ((v7.Value.Text.toList == v8.Value.Text.toList) && true))))))), (46, (D.one (C.p false (.sl a1.length (a1.flatMap e_api_Doc))))), (47, (si x2))]), (ft 33 49 (D.one (C.peek false [P.sl v11.Refs.length (v11.Refs.flatMap e_str)])) [(40, (sb (!((v7.Value.Kind == v8.Value.Kind) && ((v7.Value.Int == v8.Value.Int) && ((v7.Value.Bool == v8.Value.Bool) && ((v7.Value.Text.toList == v8.Value.Text.toList) && true))))))), (48, (D.one (C.peek false (p_api_Doc v11))))]), (ft 34 50 (D.one (C.p false (.sl v11.Refs.length (v11.Refs.flatMap e_str)))) [(40, (sb (!((v7.Value.Kind == v8.Value.Kind) && ((v7.Value.Int == v8.Value.Int) && ((v7.Value.Bool == v8.Value.Bool) && ((v7.Value.Text.toList == v8.Value.Text.toList) && true))))))), (49, (D.one (C.peek false [P.sl v11.Refs.length (v11.Refs.flatMap e_str)])))]), (ft 35 51 (sb r12) [(40, (sb (!((v7.Value.Kind == v8.Value.Kind) && ((v7.Value.Int == v8.Value.Int) && ((v7.Value.Bool == v8.Value.Bool) && ((v7.Value.Text.toList == v8.Value.Text.toList) && true))))))), (45, (D.one (C.p false (.sl v10.Refs.length (v10.Refs.flatMap e_str))))), (50, (D.one (C.p false (.sl v11.Refs.length (v11.Refs.flatMap e_str)))))]), (ft 36 52 (sb (!r12)) [(40, (sb (!((v7.Value.Kind == v8.Value.Kind) && ((v7.Value.Int == v8.Value.Int) && ((v7.Value.Bool == v8.Value.Bool) && ((v7.Value.Text.toList == v8.Value.Text.toList) && true))))))), (51, (sb r12))]), (ft 37 53 (sb (!r12)) [(40, (sb (!((v7.Value.Kind == v8.Value.Kind) && ((v7.Value.Int == v8.Value.Int) && ((v7.Value.Bool == v8.Value.Bool) && ((v7.Value.Text.toList == v8.Value.Text.toList) && true))))))), (52, (sb (!r12)))])] [[], [], [0, 1], [0, 1, 2], [0, 1, 2, 3], [], [], [5, 6], [5, 6, 7], [5, 6, 7, 8], (.range 10), (.range 11), (.range 12), (.range 12), (.range 14), (.range 15), (.range 16), (.range 12), (.range 12), (.range 12 ++ [17, 18]), (.range 12 ++ [17, 18, 19]), (.range 12 ++ [17, 18, 19, 20]), (.range 22), (.range 23), (.range 24), (.range 25), (.range 25), (.range 27), (.range 28), (.range 29), (.range 25), (.range 25), (.range 25 ++ [30, 31]), (.range 25 ++ [30, 31, 32]), (.range 25 ++ [30, 31, 32, 33]), (.range 35), (.range 36), (.range 37)] (nl rfl) [0, 0, 1, 2, 3, 0, 0, 1, 2, 3, 4, 5, 6, 6, 7, 8, 9, 6, 6, 7, 8, 9, 10, 11, 12, 13, 13, 14, 15, 16, 13, 13, 14, 15, 16, 17, 18, 19] rfl (TK := []) rfl AllK.nil' (by repeat (first | refine fC ⟨?_, ?_⟩ ?_ | refine sC rfl ?_ | refine hC rfl ?_ | trivial)) ?_ ?_
      ·refine (pC ?_ (pC ?_ (pC ?_ (pC ?_ (pC ?_ (pC ?_ (pC ?_ (pC ?_ (pC ?_ (pC ?_ (pC ?_ (pC ?_ (pC ?_ (pC ?_ (pC ?_ (pC ?_ (pC ?_ (pC ?_ (pC ?_ (pC ?_ (pC ?_ (pC ?_ (pC ?_ (pC ?_ (pC ?_ (pC ?_ (pC ?_ (pC ?_ (pC ?_ (pC ?_ (pC ?_ (pC ?_ (pC ?_ (pC ?_ (pC ?_ (pC ?_ (pC ?_ (pC ?_ AllStep.nil'))))))))))))))))))))))))))))))))))))))
       ·intro K rest fr hv htk k
        show AWops _ x _ _ K ⟨55, (upd 55 fr 0 (D.one (C.p false (.sl a0.length (a0.flatMap e_api_Doc))))), _⟩
        refine s_move (d := (D.one (C.p false (.sl a0.length (a0.flatMap e_api_Doc))))) rfl k
       ·intro K rest fr hv htk k
        show AWops _ x _ _ K ⟨55, (upd 55 fr 5 (si x2)), _⟩
        refine s_move (d := (si x2)) rfl k
       ·intro K rest fr hv htk k
        show AWops _ x _ _ K ⟨55, (upd 55 (upd 55 fr 17 (si x2)) 16 (D.one (C.p false (.sl a0.length (a0.flatMap e_api_Doc))))), [(hv 0)]⟩
        refine s_indexImm (ps := (p_api_Doc v4)) F.u_23 F.sz_55 rfl rfl pv4 qv4 (flat_at e_api_Doc_len gv4 (e_api_Doc_eq v4)) k
       ·intro K rest fr hv htk k
        show AWops _ x _ _ K ⟨55, (upd 55 fr 18 (D.one (C.peek false (p_api_Doc v4)))), [(hv 0)]⟩
        refine s_fieldPeek (qs := (p_api_Doc v4)) F.fo_55_0 (by decide) rfl rfl k
       ·intro K rest fr hv htk k
        show AWops _ x _ _ K ⟨55, (upd 55 fr 19 (D.one (C.peek false (p_api_Doc v4)))), [(hv 0)]⟩
        refine s_load1 (c' := (ct v4.Path)) F.ag_9 rfl rfl k
       ·intro K rest fr hv htk k
        show AWops _ x _ _ K ⟨55, (upd 55 fr 1 (D.one (C.p false (.sl a1.length (a1.flatMap e_api_Doc))))), _⟩
        refine s_move (d := (D.one (C.p false (.sl a1.length (a1.flatMap e_api_Doc))))) rfl k
       ·intro K rest fr hv htk k
        show AWops _ x _ _ K ⟨55, (upd 55 fr 5 (si x2)), _⟩
        refine s_move (d := (si x2)) rfl k
       ·intro K rest fr hv htk k
        show AWops _ x _ _ K ⟨55, (upd 55 (upd 55 fr 22 (si x2)) 21 (D.one (C.p false (.sl a1.length (a1.flatMap e_api_Doc))))), [(hv 0)]⟩
        refine s_indexImm (ps := (p_api_Doc v5)) F.u_23 F.sz_55 rfl rfl pv5 qv5 (flat_at e_api_Doc_len gv5 (e_api_Doc_eq v5)) k
       ·intro K rest fr hv htk k
        show AWops _ x _ _ K ⟨55, (upd 55 fr 23 (D.one (C.peek false (p_api_Doc v5)))), [(hv 0)]⟩
        refine s_fieldPeek (qs := (p_api_Doc v5)) F.fo_55_0 (by decide) rfl rfl k
       ·intro K rest fr hv htk k
        show AWops _ x _ _ K ⟨55, (upd 55 fr 24 (D.one (C.peek false (p_api_Doc v5)))), [(hv 0)]⟩
        refine s_load1 (c' := (ct v5.Path)) F.ag_9 rfl rfl k
       ·intro K rest fr hv htk k
        show AWops _ x _ _ K ⟨55, (upd 55 (upd 55 fr 25 (st_ v5.Path)) 20 (st_ v4.Path)), [(hv 0)]⟩
        refine s_binS (v := (.bool (!(v4.Path.toList == v5.Path.toList)))) rfl rfl rfl k
       ·intro K rest fr hv htk k
        show AWops _ x _ _ K ⟨55, (upd 55 fr 26 (sb (!(v4.Path.toList == v5.Path.toList)))), _⟩
        refine s_move (d := (sb (!(v4.Path.toList == v5.Path.toList)))) rfl k
       ·intro K rest fr hv htk k
        show AWops _ x _ _ K ⟨55, (upd 55 (upd 55 fr 27 (sb (!(v4.Path.toList == v5.Path.toList)))) 0 (D.one (C.p false (.sl a0.length (a0.flatMap e_api_Doc))))), _⟩
        refine AWops.guard_yes rfl (nl rfl) rfl (by rw [c6] <;> rfl) ?_
        refine s_move (d := (D.one (C.p false (.sl a0.length (a0.flatMap e_api_Doc))))) rfl k
       ·intro K rest fr hv htk k
        show AWops _ x _ _ K ⟨55, (upd 55 (upd 55 fr 27 (sb (!(v4.Path.toList == v5.Path.toList)))) 5 (si x2)), _⟩
        refine AWops.guard_yes rfl (nl rfl) rfl (by rw [c6] <;> rfl) ?_
        refine s_move (d := (si x2)) rfl k
       ·intro K rest fr hv htk k
        show AWops _ x _ _ K ⟨55, (upd 55 (upd 55 (upd 55 fr 29 (si x2)) 28 (D.one (C.p false (.sl a0.length (a0.flatMap e_api_Doc))))) 27 (sb (!(v4.Path.toList == v5.Path.toList)))), [(hv 0)]⟩
        refine AWops.guard_yes rfl (nl rfl) rfl (by rw [c6] <;> rfl) ?_
        refine s_indexImm (ps := (p_api_Doc v7)) F.u_23 F.sz_55 rfl rfl pv7 qv7 (flat_at e_api_Doc_len gv7 (e_api_Doc_eq v7)) k
       ·intro K rest fr hv htk k
        show AWops _ x _ _ K ⟨55, (upd 55 (upd 55 fr 30 (D.one (C.peek false (p_api_Doc v7)))) 27 (sb (!(v4.Path.toList == v5.Path.toList)))), [(hv 0)]⟩
        refine AWops.guard_yes rfl (nl rfl) rfl (by rw [c6] <;> rfl) ?_
        refine s_fieldPeek (qs := [P.v (.int .i64 v7.Value.Kind), P.v (.int .i64 v7.Value.Int), P.v (.bool v7.Value.Bool), P.v (.string v7.Value.Text), P.sl v7.Refs.length (v7.Refs.flatMap e_str)]) F.fo_55_1 (by decide) rfl rfl k
       ·intro K rest fr hv htk k
        show AWops _ x _ _ K ⟨55, (upd 55 (upd 55 fr 31 (D.one (C.peek false [P.v (.int .i64 v7.Value.Kind), P.v (.int .i64 v7.Value.Int), P.v (.bool v7.Value.Bool), P.v (.string v7.Value.Text), P.sl v7.Refs.length (v7.Refs.flatMap e_str)]))) 27 (sb (!(v4.Path.toList == v5.Path.toList)))), [(hv 0)]⟩
        refine AWops.guard_yes rfl (nl rfl) rfl (by rw [c6] <;> rfl) ?_
        refine s_loadN (ds := (c_api_Value v7.Value)) F.ag_53 F.sz_53 rfl rfl rfl k
       ·intro K rest fr hv htk k
        show AWops _ x _ _ K ⟨55, (upd 55 (upd 55 fr 27 (sb (!(v4.Path.toList == v5.Path.toList)))) 1 (D.one (C.p false (.sl a1.length (a1.flatMap e_api_Doc))))), _⟩
        refine AWops.guard_yes rfl (nl rfl) rfl (by rw [c6] <;> rfl) ?_
        refine s_move (d := (D.one (C.p false (.sl a1.length (a1.flatMap e_api_Doc))))) rfl k
       ·intro K rest fr hv htk k
        show AWops _ x _ _ K ⟨55, (upd 55 (upd 55 fr 27 (sb (!(v4.Path.toList == v5.Path.toList)))) 5 (si x2)), _⟩
        refine AWops.guard_yes rfl (nl rfl) rfl (by rw [c6] <;> rfl) ?_
        refine s_move (d := (si x2)) rfl k
       ·intro K rest fr hv htk k
        show AWops _ x _ _ K ⟨55, (upd 55 (upd 55 (upd 55 fr 34 (si x2)) 33 (D.one (C.p false (.sl a1.length (a1.flatMap e_api_Doc))))) 27 (sb (!(v4.Path.toList == v5.Path.toList)))), [(hv 0)]⟩
        refine AWops.guard_yes rfl (nl rfl) rfl (by rw [c6] <;> rfl) ?_
        refine s_indexImm (ps := (p_api_Doc v8)) F.u_23 F.sz_55 rfl rfl pv8 qv8 (flat_at e_api_Doc_len gv8 (e_api_Doc_eq v8)) k
       ·intro K rest fr hv htk k
        show AWops _ x _ _ K ⟨55, (upd 55 (upd 55 fr 35 (D.one (C.peek false (p_api_Doc v8)))) 27 (sb (!(v4.Path.toList == v5.Path.toList)))), [(hv 0)]⟩
        refine AWops.guard_yes rfl (nl rfl) rfl (by rw [c6] <;> rfl) ?_
        refine s_fieldPeek (qs := [P.v (.int .i64 v8.Value.Kind), P.v (.int .i64 v8.Value.Int), P.v (.bool v8.Value.Bool), P.v (.string v8.Value.Text), P.sl v8.Refs.length (v8.Refs.flatMap e_str)]) F.fo_55_1 (by decide) rfl rfl k
       ·intro K rest fr hv htk k
        show AWops _ x _ _ K ⟨55, (upd 55 (upd 55 fr 36 (D.one (C.peek false [P.v (.int .i64 v8.Value.Kind), P.v (.int .i64 v8.Value.Int), P.v (.bool v8.Value.Bool), P.v (.string v8.Value.Text), P.sl v8.Refs.length (v8.Refs.flatMap e_str)]))) 27 (sb (!(v4.Path.toList == v5.Path.toList)))), [(hv 0)]⟩
        refine AWops.guard_yes rfl (nl rfl) rfl (by rw [c6] <;> rfl) ?_
        refine s_loadN (ds := (c_api_Value v8.Value)) F.ag_53 F.sz_53 rfl rfl rfl k
       ·intro K rest fr hv htk k
        show AWops _ x _ _ K ⟨55, (upd 55 (upd 55 (upd 55 fr 37 (D.agg (c_api_Value v8.Value))) 32 (D.agg (c_api_Value v7.Value))) 27 (sb (!(v4.Path.toList == v5.Path.toList)))), [(hv 0)]⟩
        refine AWops.guard_yes rfl (nl rfl) rfl (by rw [c6] <;> rfl) ?_
        refine s_binA (b := ((v7.Value.Kind == v8.Value.Kind) && ((v7.Value.Int == v8.Value.Int) && ((v7.Value.Bool == v8.Value.Bool) && ((v7.Value.Text.toList == v8.Value.Text.toList) && true))))) F.ff_53 rfl rfl rfl (.inr rfl) k
       ·intro K rest fr hv htk k
        show AWops _ x _ _ K ⟨55, (upd 55 (upd 55 fr 38 (sb (!((v7.Value.Kind == v8.Value.Kind) && ((v7.Value.Int == v8.Value.Int) && ((v7.Value.Bool == v8.Value.Bool) && ((v7.Value.Text.toList == v8.Value.Text.toList) && true))))))) 27 (sb (!(v4.Path.toList == v5.Path.toList)))), _⟩
        refine s_pick_no (d := (sb (!((v7.Value.Kind == v8.Value.Kind) && ((v7.Value.Int == v8.Value.Int) && ((v7.Value.Bool == v8.Value.Bool) && ((v7.Value.Text.toList == v8.Value.Text.toList) && true))))))) rfl (by rw [c6] <;> rfl) rfl k
       ·intro K rest fr hv htk k
        show AWops _ x _ _ K ⟨55, (upd 55 fr 39 (sb (!((v7.Value.Kind == v8.Value.Kind) && ((v7.Value.Int == v8.Value.Int) && ((v7.Value.Bool == v8.Value.Bool) && ((v7.Value.Text.toList == v8.Value.Text.toList) && true))))))), _⟩
        refine s_move (d := (sb (!((v7.Value.Kind == v8.Value.Kind) && ((v7.Value.Int == v8.Value.Int) && ((v7.Value.Bool == v8.Value.Bool) && ((v7.Value.Text.toList == v8.Value.Text.toList) && true))))))) rfl k
       ·intro K rest fr hv htk k
        show AWops _ x _ _ K ⟨55, (upd 55 (upd 55 fr 40 (sb (!((v7.Value.Kind == v8.Value.Kind) && ((v7.Value.Int == v8.Value.Int) && ((v7.Value.Bool == v8.Value.Bool) && ((v7.Value.Text.toList == v8.Value.Text.toList) && true))))))) 0 (D.one (C.p false (.sl a0.length (a0.flatMap e_api_Doc))))), _⟩
        refine AWops.guard_yes rfl (nl rfl) rfl (by rw [c9] <;> rfl) ?_
        refine s_move (d := (D.one (C.p false (.sl a0.length (a0.flatMap e_api_Doc))))) rfl k
       ·intro K rest fr hv htk k
        show AWops _ x _ _ K ⟨55, (upd 55 (upd 55 fr 40 (sb (!((v7.Value.Kind == v8.Value.Kind) && ((v7.Value.Int == v8.Value.Int) && ((v7.Value.Bool == v8.Value.Bool) && ((v7.Value.Text.toList == v8.Value.Text.toList) && true))))))) 5 (si x2)), _⟩
        refine AWops.guard_yes rfl (nl rfl) rfl (by rw [c9] <;> rfl) ?_
        refine s_move (d := (si x2)) rfl k
       ·intro K rest fr hv htk k
        show AWops _ x _ _ K ⟨55, (upd 55 (upd 55 (upd 55 fr 42 (si x2)) 41 (D.one (C.p false (.sl a0.length (a0.flatMap e_api_Doc))))) 40 (sb (!((v7.Value.Kind == v8.Value.Kind) && ((v7.Value.Int == v8.Value.Int) && ((v7.Value.Bool == v8.Value.Bool) && ((v7.Value.Text.toList == v8.Value.Text.toList) && true))))))), [(hv 0)]⟩
        refine AWops.guard_yes rfl (nl rfl) rfl (by rw [c9] <;> rfl) ?_
        refine s_indexImm (ps := (p_api_Doc v10)) F.u_23 F.sz_55 rfl rfl pv10 qv10 (flat_at e_api_Doc_len gv10 (e_api_Doc_eq v10)) k
       ·intro K rest fr hv htk k
        show AWops _ x _ _ K ⟨55, (upd 55 (upd 55 fr 43 (D.one (C.peek false (p_api_Doc v10)))) 40 (sb (!((v7.Value.Kind == v8.Value.Kind) && ((v7.Value.Int == v8.Value.Int) && ((v7.Value.Bool == v8.Value.Bool) && ((v7.Value.Text.toList == v8.Value.Text.toList) && true))))))), [(hv 0)]⟩
        refine AWops.guard_yes rfl (nl rfl) rfl (by rw [c9] <;> rfl) ?_
        refine s_fieldPeek (qs := [P.sl v10.Refs.length (v10.Refs.flatMap e_str)]) F.fo_55_2 (by decide) rfl rfl k
       ·intro K rest fr hv htk k
        show AWops _ x _ _ K ⟨55, (upd 55 (upd 55 fr 44 (D.one (C.peek false [P.sl v10.Refs.length (v10.Refs.flatMap e_str)]))) 40 (sb (!((v7.Value.Kind == v8.Value.Kind) && ((v7.Value.Int == v8.Value.Int) && ((v7.Value.Bool == v8.Value.Bool) && ((v7.Value.Text.toList == v8.Value.Text.toList) && true))))))), [(hv 0)]⟩
        refine AWops.guard_yes rfl (nl rfl) rfl (by rw [c9] <;> rfl) ?_
        refine s_load1 (c' := (C.p false (.sl v10.Refs.length (v10.Refs.flatMap e_str)))) F.ag_31 rfl rfl k
       ·intro K rest fr hv htk k
        show AWops _ x _ _ K ⟨55, (upd 55 (upd 55 fr 40 (sb (!((v7.Value.Kind == v8.Value.Kind) && ((v7.Value.Int == v8.Value.Int) && ((v7.Value.Bool == v8.Value.Bool) && ((v7.Value.Text.toList == v8.Value.Text.toList) && true))))))) 1 (D.one (C.p false (.sl a1.length (a1.flatMap e_api_Doc))))), _⟩
        refine AWops.guard_yes rfl (nl rfl) rfl (by rw [c9] <;> rfl) ?_
        refine s_move (d := (D.one (C.p false (.sl a1.length (a1.flatMap e_api_Doc))))) rfl k
       ·intro K rest fr hv htk k
        show AWops _ x _ _ K ⟨55, (upd 55 (upd 55 fr 40 (sb (!((v7.Value.Kind == v8.Value.Kind) && ((v7.Value.Int == v8.Value.Int) && ((v7.Value.Bool == v8.Value.Bool) && ((v7.Value.Text.toList == v8.Value.Text.toList) && true))))))) 5 (si x2)), _⟩
        refine AWops.guard_yes rfl (nl rfl) rfl (by rw [c9] <;> rfl) ?_
        refine s_move (d := (si x2)) rfl k
       ·intro K rest fr hv htk k
        show AWops _ x _ _ K ⟨55, (upd 55 (upd 55 (upd 55 fr 47 (si x2)) 46 (D.one (C.p false (.sl a1.length (a1.flatMap e_api_Doc))))) 40 (sb (!((v7.Value.Kind == v8.Value.Kind) && ((v7.Value.Int == v8.Value.Int) && ((v7.Value.Bool == v8.Value.Bool) && ((v7.Value.Text.toList == v8.Value.Text.toList) && true))))))), [(hv 0)]⟩
        refine AWops.guard_yes rfl (nl rfl) rfl (by rw [c9] <;> rfl) ?_
        refine s_indexImm (ps := (p_api_Doc v11)) F.u_23 F.sz_55 rfl rfl pv11 qv11 (flat_at e_api_Doc_len gv11 (e_api_Doc_eq v11)) k
       ·intro K rest fr hv htk k
        show AWops _ x _ _ K ⟨55, (upd 55 (upd 55 fr 48 (D.one (C.peek false (p_api_Doc v11)))) 40 (sb (!((v7.Value.Kind == v8.Value.Kind) && ((v7.Value.Int == v8.Value.Int) && ((v7.Value.Bool == v8.Value.Bool) && ((v7.Value.Text.toList == v8.Value.Text.toList) && true))))))), [(hv 0)]⟩
        refine AWops.guard_yes rfl (nl rfl) rfl (by rw [c9] <;> rfl) ?_
        refine s_fieldPeek (qs := [P.sl v11.Refs.length (v11.Refs.flatMap e_str)]) F.fo_55_2 (by decide) rfl rfl k
       ·intro K rest fr hv htk k
        show AWops _ x _ _ K ⟨55, (upd 55 (upd 55 fr 49 (D.one (C.peek false [P.sl v11.Refs.length (v11.Refs.flatMap e_str)]))) 40 (sb (!((v7.Value.Kind == v8.Value.Kind) && ((v7.Value.Int == v8.Value.Int) && ((v7.Value.Bool == v8.Value.Bool) && ((v7.Value.Text.toList == v8.Value.Text.toList) && true))))))), [(hv 0)]⟩
        refine AWops.guard_yes rfl (nl rfl) rfl (by rw [c9] <;> rfl) ?_
        refine s_load1 (c' := (C.p false (.sl v11.Refs.length (v11.Refs.flatMap e_str)))) F.ag_31 rfl rfl k
       ·intro K rest fr hv htk k
        show AWops _ x _ _ K ⟨55, (upd 55 (upd 55 (upd 55 fr 50 (D.one (C.p false (.sl v11.Refs.length (v11.Refs.flatMap e_str))))) 45 (D.one (C.p false (.sl v10.Refs.length (v10.Refs.flatMap e_str))))) 40 (sb (!((v7.Value.Kind == v8.Value.Kind) && ((v7.Value.Int == v8.Value.Int) && ((v7.Value.Bool == v8.Value.Bool) && ((v7.Value.Text.toList == v8.Value.Text.toList) && true))))))), [(hv 0)]⟩
        refine AWops.guard_yes rfl (nl rfl) rfl (by rw [c9] <;> rfl) ?_
        refine cc [] [(hv 0)] (sb r12) F.ca_34 rfl rfl (ac (.one .imm) (ac (.one .imm) an)) an (dossierref12_SameTexts.meets _ v10.Refs v11.Refs r12 er12) k
       ·intro K rest fr hv htk k
        show AWops _ x _ _ K ⟨55, (upd 55 (upd 55 fr 51 (sb r12)) 40 (sb (!((v7.Value.Kind == v8.Value.Kind) && ((v7.Value.Int == v8.Value.Int) && ((v7.Value.Bool == v8.Value.Bool) && ((v7.Value.Text.toList == v8.Value.Text.toList) && true))))))), [(hv 0)]⟩
        refine AWops.guard_yes rfl (nl rfl) rfl (by rw [c9] <;> rfl) ?_
        refine s_not rfl k
       ·intro K rest fr hv htk k
        show AWops _ x _ _ K ⟨55, (upd 55 (upd 55 fr 52 (sb (!r12))) 40 (sb (!((v7.Value.Kind == v8.Value.Kind) && ((v7.Value.Int == v8.Value.Int) && ((v7.Value.Bool == v8.Value.Bool) && ((v7.Value.Text.toList == v8.Value.Text.toList) && true))))))), _⟩
        refine s_pick_no (d := (sb (!r12))) rfl (by rw [c9] <;> rfl) rfl k
      ·refine AWops.weak (st' := ⟨55, (upd 55 (upd 55 (upd 55 (upd 55 (upd 55 (upd 55 (upd 55 (upd 55 (upd 55 (upd 55 (upd 55 (upd 55 (upd 55 (upd 55 (upd 55 (upd 55 (upd 55 (upd 55 (upd 55 (upd 55 (upd 55 (upd 55 (upd 55 (upd 55 (upd 55 (upd 55 (upd 55 (upd 55 topF 0 (D.one (C.p false (.sl a0.length (a0.flatMap e_api_Doc))))) 1 (D.one (C.p false (.sl a1.length (a1.flatMap e_api_Doc))))) 12 (si (a0.length : Int))) 13 (si x2)) 28 (D.one (C.p false (.sl a0.length (a0.flatMap e_api_Doc))))) 29 (si x2)) 30 (D.one (C.peek false (p_api_Doc v7)))) 31 (D.one (C.peek false [P.v (.int .i64 v7.Value.Kind), P.v (.int .i64 v7.Value.Int), P.v (.bool v7.Value.Bool), P.v (.string v7.Value.Text), P.sl v7.Refs.length (v7.Refs.flatMap e_str)]))) 32 (D.agg (c_api_Value v7.Value))) 33 (D.one (C.p false (.sl a1.length (a1.flatMap e_api_Doc))))) 34 (si x2)) 35 (D.one (C.peek false (p_api_Doc v8)))) 36 (D.one (C.peek false [P.v (.int .i64 v8.Value.Kind), P.v (.int .i64 v8.Value.Int), P.v (.bool v8.Value.Bool), P.v (.string v8.Value.Text), P.sl v8.Refs.length (v8.Refs.flatMap e_str)]))) 37 (D.agg (c_api_Value v8.Value))) 38 (sb (!((v7.Value.Kind == v8.Value.Kind) && ((v7.Value.Int == v8.Value.Int) && ((v7.Value.Bool == v8.Value.Bool) && ((v7.Value.Text.toList == v8.Value.Text.toList) && true))))))) 41 (D.one (C.p false (.sl a0.length (a0.flatMap e_api_Doc))))) 42 (si x2)) 43 (D.one (C.peek false (p_api_Doc v10)))) 44 (D.one (C.peek false [P.sl v10.Refs.length (v10.Refs.flatMap e_str)]))) 45 (D.one (C.p false (.sl v10.Refs.length (v10.Refs.flatMap e_str))))) 46 (D.one (C.p false (.sl a1.length (a1.flatMap e_api_Doc))))) 47 (si x2)) 48 (D.one (C.peek false (p_api_Doc v11)))) 49 (D.one (C.peek false [P.sl v11.Refs.length (v11.Refs.flatMap e_str)]))) 50 (D.one (C.p false (.sl v11.Refs.length (v11.Refs.flatMap e_str))))) 51 (sb r12)) 52 (sb (!r12))) 53 (sb (!r12))), []⟩) (wg 0 [] [] hx (le_upd (le_upd (le_upd (le_upd (le_upd (le_upd (le_upd (le_upd (le_upd (le_upd (le_upd (le_upd (le_upd (le_upd (le_upd (le_upd (le_upd (le_upd (le_upd (le_upd (le_upd (le_upd (le_upd (le_upd (le_upd (le_upd (le_upd (le_upd (le_top _) (o1 .same)) (o1 .same)) (o1 .sc)) (o1 .sc)) (o1 .same)) (o1 .sc)) (o1 .peek)) (o1 .peek)) (.t (.agg (ac .sc (ac .sc (ac .sc (ac .sc an))))))) (o1 .same)) (o1 .sc)) (o1 .peek)) (o1 .peek)) (.t (.agg (ac .sc (ac .sc (ac .sc (ac .sc an))))))) (o1 .sc)) (o1 .same)) (o1 .sc)) (o1 .peek)) (o1 .peek)) (o1 .same)) (o1 .same)) (o1 .sc)) (o1 .peek)) (o1 .peek)) (o1 .same)) (o1 .sc)) (o1 .sc)) (o1 .sc)) an) (AWops.nil ?_)
       rcases itH h with ⟨c13, h⟩ | ⟨c13, h⟩
       ·refine AW.cond_no rfl (by rw [c13] <;> rfl) (AW.skip (AW.region ?_))
        refine s_binI (v := (.int .i64 (IntKind.i64.wrap (x2 + 1)))) rfl rfl rfl (s_move (d := (si (IntKind.i64.wrap (x2 + 1)))) rfl (AWops.nil ?_))
        exact ⟨_, ⟨55, (upd 55 (upd 55 (upd 55 (upd 55 topF 0 (D.one (C.p false (.sl a0.length (a0.flatMap e_api_Doc))))) 1 (D.one (C.p false (.sl a1.length (a1.flatMap e_api_Doc))))) 12 (si (a0.length : Int))) 13 (si (IntKind.i64.wrap (x2 + 1)))), []⟩, by omega, (wg 0 [] [] hx (le_upd (le_upd (le_upd (le_upd (le_top _) (o1 .same)) (o1 .same)) (o1 .sc)) (o1 .sc)) an), by omega, IntKind.i64.wrap (x2 + 1), h, rfl⟩
       ·refine AW.cond_yes rfl (by rw [c13] <;> rfl) (AW.seq (AW.region ?_))
        refine s_assign (d := (sb false)) rfl (AWops.nil (AW.ret ?_))
        obtain rfl := Option.some.inj h
        exact ⟨_, rfl, (wg 0 [] [] rfl (le_upd (le_top _) (o1 .sc)) an)⟩
     ·refine AW.draw (n := 55) (L := 1) [(ft 0 16 (D.one (C.p false (.sl a0.length (a0.flatMap e_api_Doc)))) [(0, (D.one (C.p false (.sl a0.length (a0.flatMap e_api_Doc)))))]), (ft 1 17 (si x2) [(5, (si x2))]), (ft 2 18 (D.one (C.peek false (p_api_Doc v4))) [(16, (D.one (C.p false (.sl a0.length (a0.flatMap e_api_Doc))))), (17, (si x2))]), (ft 3 19 (D.one (C.peek false (p_api_Doc v4))) [(18, (D.one (C.peek false (p_api_Doc v4))))]), (ft 4 20 (st_ v4.Path) [(19, (D.one (C.peek false (p_api_Doc v4))))]), (ft 5 21 (D.one (C.p false (.sl a1.length (a1.flatMap e_api_Doc)))) [(1, (D.one (C.p false (.sl a1.length (a1.flatMap e_api_Doc)))))]), (ft 6 22 (si x2) [(5, (si x2))]), (ft 7 23 (D.one (C.peek false (p_api_Doc v5))) [(21, (D.one (C.p false (.sl a1.length (a1.flatMap e_api_Doc))))), (22, (si x2))]), (ft 8 24 (D.one (C.peek false (p_api_Doc v5))) [(23, (D.one (C.peek false (p_api_Doc v5))))]), (ft 9 25 (st_ v5.Path) [(24, (D.one (C.peek false (p_api_Doc v5))))]), (ft 10 26 (sb (!(v4.Path.toList == v5.Path.toList))) [(20, (st_ v4.Path)), (25, (st_ v5.Path))]), (ft 11 27 (sb (!(v4.Path.toList == v5.Path.toList))) [(26, (sb (!(v4.Path.toList == v5.Path.toList))))]), (ft 12 28 (D.one (C.p false (.sl a0.length (a0.flatMap e_api_Doc)))) [(0, (D.one (C.p false (.sl a0.length (a0.flatMap e_api_Doc))))), (27, (sb (!(v4.Path.toList == v5.Path.toList))))]), (ft 13 29 (si x2) [(5, (si x2)), (27, (sb (!(v4.Path.toList == v5.Path.toList))))]), (ft 14 30 (D.one (C.peek false (p_api_Doc v7))) [(27, (sb (!(v4.Path.toList == v5.Path.toList)))), (28, (D.one (C.p false (.sl a0.length (a0.flatMap e_api_Doc))))), (29, (si x2))]), (ft 15 31 (D.one (C.peek false [P.v (.int .i64 v7.Value.Kind), P.v (.int .i64 v7.Value.Int), P.v (.bool v7.Value.Bool), P.v (.string v7.Value.Text), P.sl v7.Refs.length (v7.Refs.flatMap e_str)])) [(27, (sb (!(v4.Path.toList == v5.Path.toList)))), (30, (D.one (C.peek false (p_api_Doc v7))))]), (ft 16 32 (D.agg (c_api_Value v7.Value)) [(27, (sb (!(v4.Path.toList == v5.Path.toList)))), (31, (D.one (C.peek false [P.v (.int .i64 v7.Value.Kind), P.v (.int .i64 v7.Value.Int), P.v (.bool v7.Value.Bool), P.v (.string v7.Value.Text), P.sl v7.Refs.length (v7.Refs.flatMap e_str)])))]), (ft 17 33 (D.one (C.p false (.sl a1.length (a1.flatMap e_api_Doc)))) [(1, (D.one (C.p false (.sl a1.length (a1.flatMap e_api_Doc))))), (27, (sb (!(v4.Path.toList == v5.Path.toList))))]), (ft 18 34 (si x2) [(5, (si x2)), (27, (sb (!(v4.Path.toList == v5.Path.toList))))]), (ft 19 35 (D.one (C.peek false (p_api_Doc v8))) [(27, (sb (!(v4.Path.toList == v5.Path.toList)))), (33, (D.one (C.p false (.sl a1.length (a1.flatMap e_api_Doc))))), (34, (si x2))]), (ft 20 36 (D.one (C.peek false [P.v (.int .i64 v8.Value.Kind), P.v (.int .i64 v8.Value.Int), P.v (.bool v8.Value.Bool), P.v (.string v8.Value.Text), P.sl v8.Refs.length (v8.Refs.flatMap e_str)])) [(27, (sb (!(v4.Path.toList == v5.Path.toList)))), (35, (D.one (C.peek false (p_api_Doc v8))))]), (ft 21 37 (D.agg (c_api_Value v8.Value)) [(27, (sb (!(v4.Path.toList == v5.Path.toList)))), (36, (D.one (C.peek false [P.v (.int .i64 v8.Value.Kind), P.v (.int .i64 v8.Value.Int), P.v (.bool v8.Value.Bool), P.v (.string v8.Value.Text), P.sl v8.Refs.length (v8.Refs.flatMap e_str)])))]), (ft 22 38 (sb (!((v7.Value.Kind == v8.Value.Kind) && ((v7.Value.Int == v8.Value.Int) && ((v7.Value.Bool == v8.Value.Bool) && ((v7.Value.Text.toList == v8.Value.Text.toList) && true)))))) [(27, (sb (!(v4.Path.toList == v5.Path.toList)))), (32, (D.agg (c_api_Value v7.Value))), (37, (D.agg (c_api_Value v8.Value)))]), (ft 23 39 (sb (!((v7.Value.Kind == v8.Value.Kind) && ((v7.Value.Int == v8.Value.Int) && ((v7.Value.Bool == v8.Value.Bool) && ((v7.Value.Text.toList == v8.Value.Text.toList) && true)))))) [(27, (sb (!(v4.Path.toList == v5.Path.toList)))), (38, (sb (!((v7.Value.Kind == v8.Value.Kind) && ((v7.Value.Int == v8.Value.Int) && ((v7.Value.Bool == v8.Value.Bool) && ((v7.Value.Text.toList == v8.Value.Text.toList) && true)))))))]), (ft 24 40 (sb (!((v7.Value.Kind == v8.Value.Kind) && ((v7.Value.Int == v8.Value.Int) && ((v7.Value.Bool == v8.Value.Bool) && ((v7.Value.Text.toList == v8.Value.Text.toList) && true)))))) [(39, (sb (!((v7.Value.Kind == v8.Value.Kind) && ((v7.Value.Int == v8.Value.Int) && ((v7.Value.Bool == v8.Value.Bool) && ((v7.Value.Text.toList == v8.Value.Text.toList) && true)))))))]), (ft 25 41 (D.tup []) [(0, (D.one (C.p false (.sl a0.length (a0.flatMap e_api_Doc))))), (40, (sb (!((v7.Value.Kind == v8.Value.Kind) && ((v7.Value.Int == v8.Value.Int) && ((v7.Value.Bool == v8.Value.Bool) && ((v7.Value.Text.toList == v8.Value.Text.toList) && true)))))))]), (ft 26 42 (D.tup []) [(40, (sb (!((v7.Value.Kind == v8.Value.Kind) && ((v7.Value.Int == v8.Value.Int) && ((v7.Value.Bool == v8.Value.Bool) && ((v7.Value.Text.toList == v8.Value.Text.toList) && true)))))))]), (ft 27 43 (D.tup []) [(40, (sb (!((v7.Value.Kind == v8.Value.Kind) && ((v7.Value.Int == v8.Value.Int) && ((v7.Value.Bool == v8.Value.Bool) && ((v7.Value.Text.toList == v8.Value.Text.toList) && true)))))))]), (ft 28 44 (D.tup []) [(40, (sb (!((v7.Value.Kind == v8.Value.Kind) && ((v7.Value.Int == v8.Value.Int) && ((v7.Value.Bool == v8.Value.Bool) && ((v7.Value.Text.toList == v8.Value.Text.toList) && true)))))))]), (ft 29 45 (D.tup []) [(40, (sb (!((v7.Value.Kind == v8.Value.Kind) && ((v7.Value.Int == v8.Value.Int) && ((v7.Value.Bool == v8.Value.Bool) && ((v7.Value.Text.toList == v8.Value.Text.toList) && true)))))))]), (ft 30 46 (D.tup []) [(40, (sb (!((v7.Value.Kind == v8.Value.Kind) && ((v7.Value.Int == v8.Value.Int) && ((v7.Value.Bool == v8.Value.Bool) && ((v7.Value.Text.toList == v8.Value.Text.toList) && true)))))))]), (ft 31 47 (D.tup []) [(40, (sb (!((v7.Value.Kind == v8.Value.Kind) && ((v7.Value.Int == v8.Value.Int) && ((v7.Value.Bool == v8.Value.Bool) && ((v7.Value.Text.toList == v8.Value.Text.toList) && true)))))))]), (ft 32 48 (D.tup []) [(40, (sb (!((v7.Value.Kind == v8.Value.Kind) && ((v7.Value.Int == v8.Value.Int) && ((v7.Value.Bool == v8.Value.Bool) && ((v7.Value.Text.toList == v8.Value.Text.toList) && true)))))))]), (ft 33 49 (D.tup []) [(40, (sb (!((v7.Value.Kind == v8.Value.Kind) && ((v7.Value.Int == v8.Value.Int) && ((v7.Value.Bool == v8.Value.Bool) && ((v7.Value.Text.toList == v8.Value.Text.toList) && true)))))))]), (ft 34 50 (D.tup []) [(40, (sb (!((v7.Value.Kind == v8.Value.Kind) && ((v7.Value.Int == v8.Value.Int) && ((v7.Value.Bool == v8.Value.Bool) && ((v7.Value.Text.toList == v8.Value.Text.toList) && true)))))))]), (ft 35 51 (D.tup []) [(40, (sb (!((v7.Value.Kind == v8.Value.Kind) && ((v7.Value.Int == v8.Value.Int) && ((v7.Value.Bool == v8.Value.Bool) && ((v7.Value.Text.toList == v8.Value.Text.toList) && true)))))))]), (ft 36 52 (D.tup []) [(40, (sb (!((v7.Value.Kind == v8.Value.Kind) && ((v7.Value.Int == v8.Value.Int) && ((v7.Value.Bool == v8.Value.Bool) && ((v7.Value.Text.toList == v8.Value.Text.toList) && true)))))))]), (ft 37 53 (sb true) [(40, (sb (!((v7.Value.Kind == v8.Value.Kind) && ((v7.Value.Int == v8.Value.Int) && ((v7.Value.Bool == v8.Value.Bool) && ((v7.Value.Text.toList == v8.Value.Text.toList) && true)))))))])] [[], [], [0, 1], [0, 1, 2], [0, 1, 2, 3], [], [], [5, 6], [5, 6, 7], [5, 6, 7, 8], (.range 10), (.range 11), (.range 12), (.range 12), (.range 14), (.range 15), (.range 16), (.range 12), (.range 12), (.range 12 ++ [17, 18]), (.range 12 ++ [17, 18, 19]), (.range 12 ++ [17, 18, 19, 20]), (.range 22), (.range 23), (.range 24), (.range 25), (.range 25), (.range 27), (.range 28), (.range 29), (.range 25), (.range 25), (.range 25 ++ [30, 31]), (.range 25 ++ [30, 31, 32]), (.range 25 ++ [30, 31, 32, 33]), (.range 35), (.range 36), (.range 37)] (nl rfl) [0, 0, 1, 2, 3, 0, 0, 1, 2, 3, 4, 5, 6, 6, 7, 8, 9, 6, 6, 7, 8, 9, 10, 11, 12, 13, 13, 14, 15, 16, 13, 13, 14, 15, 16, 17, 18, 19] rfl (TK := []) rfl AllK.nil' (by repeat (first | refine fC ⟨?_, ?_⟩ ?_ | refine sC rfl ?_ | refine hC rfl ?_ | trivial)) ?_ ?_
      ·refine (pC ?_ (pC ?_ (pC ?_ (pC ?_ (pC ?_ (pC ?_ (pC ?_ (pC ?_ (pC ?_ (pC ?_ (pC ?_ (pC ?_ (pC ?_ (pC ?_ (pC ?_ (pC ?_ (pC ?_ (pC ?_ (pC ?_ (pC ?_ (pC ?_ (pC ?_ (pC ?_ (pC ?_ (pC ?_ (pC ?_ (pC ?_ (pC ?_ (pC ?_ (pC ?_ (pC ?_ (pC ?_ (pC ?_ (pC ?_ (pC ?_ (pC ?_ (pC ?_ (pC ?_ AllStep.nil'))))))))))))))))))))))))))))))))))))))
       ·intro K rest fr hv htk k
        show AWops _ x _ _ K ⟨55, (upd 55 fr 0 (D.one (C.p false (.sl a0.length (a0.flatMap e_api_Doc))))), _⟩
        refine s_move (d := (D.one (C.p false (.sl a0.length (a0.flatMap e_api_Doc))))) rfl k
       ·intro K rest fr hv htk k
        show AWops _ x _ _ K ⟨55, (upd 55 fr 5 (si x2)), _⟩
        refine s_move (d := (si x2)) rfl k
       ·intro K rest fr hv htk k
        show AWops _ x _ _ K ⟨55, (upd 55 (upd 55 fr 17 (si x2)) 16 (D.one (C.p false (.sl a0.length (a0.flatMap e_api_Doc))))), [(hv 0)]⟩
        refine s_indexImm (ps := (p_api_Doc v4)) F.u_23 F.sz_55 rfl rfl pv4 qv4 (flat_at e_api_Doc_len gv4 (e_api_Doc_eq v4)) k
       ·intro K rest fr hv htk k
        show AWops _ x _ _ K ⟨55, (upd 55 fr 18 (D.one (C.peek false (p_api_Doc v4)))), [(hv 0)]⟩
        refine s_fieldPeek (qs := (p_api_Doc v4)) F.fo_55_0 (by decide) rfl rfl k
       ·intro K rest fr hv htk k
        show AWops _ x _ _ K ⟨55, (upd 55 fr 19 (D.one (C.peek false (p_api_Doc v4)))), [(hv 0)]⟩
        refine s_load1 (c' := (ct v4.Path)) F.ag_9 rfl rfl k
       ·intro K rest fr hv htk k
        show AWops _ x _ _ K ⟨55, (upd 55 fr 1 (D.one (C.p false (.sl a1.length (a1.flatMap e_api_Doc))))), _⟩
        refine s_move (d := (D.one (C.p false (.sl a1.length (a1.flatMap e_api_Doc))))) rfl k
       ·intro K rest fr hv htk k
        show AWops _ x _ _ K ⟨55, (upd 55 fr 5 (si x2)), _⟩
        refine s_move (d := (si x2)) rfl k
       ·intro K rest fr hv htk k
        show AWops _ x _ _ K ⟨55, (upd 55 (upd 55 fr 22 (si x2)) 21 (D.one (C.p false (.sl a1.length (a1.flatMap e_api_Doc))))), [(hv 0)]⟩
        refine s_indexImm (ps := (p_api_Doc v5)) F.u_23 F.sz_55 rfl rfl pv5 qv5 (flat_at e_api_Doc_len gv5 (e_api_Doc_eq v5)) k
       ·intro K rest fr hv htk k
        show AWops _ x _ _ K ⟨55, (upd 55 fr 23 (D.one (C.peek false (p_api_Doc v5)))), [(hv 0)]⟩
        refine s_fieldPeek (qs := (p_api_Doc v5)) F.fo_55_0 (by decide) rfl rfl k
       ·intro K rest fr hv htk k
        show AWops _ x _ _ K ⟨55, (upd 55 fr 24 (D.one (C.peek false (p_api_Doc v5)))), [(hv 0)]⟩
        refine s_load1 (c' := (ct v5.Path)) F.ag_9 rfl rfl k
       ·intro K rest fr hv htk k
        show AWops _ x _ _ K ⟨55, (upd 55 (upd 55 fr 25 (st_ v5.Path)) 20 (st_ v4.Path)), [(hv 0)]⟩
        refine s_binS (v := (.bool (!(v4.Path.toList == v5.Path.toList)))) rfl rfl rfl k
       ·intro K rest fr hv htk k
        show AWops _ x _ _ K ⟨55, (upd 55 fr 26 (sb (!(v4.Path.toList == v5.Path.toList)))), _⟩
        refine s_move (d := (sb (!(v4.Path.toList == v5.Path.toList)))) rfl k
       ·intro K rest fr hv htk k
        show AWops _ x _ _ K ⟨55, (upd 55 (upd 55 fr 27 (sb (!(v4.Path.toList == v5.Path.toList)))) 0 (D.one (C.p false (.sl a0.length (a0.flatMap e_api_Doc))))), _⟩
        refine AWops.guard_yes rfl (nl rfl) rfl (by rw [c6] <;> rfl) ?_
        refine s_move (d := (D.one (C.p false (.sl a0.length (a0.flatMap e_api_Doc))))) rfl k
       ·intro K rest fr hv htk k
        show AWops _ x _ _ K ⟨55, (upd 55 (upd 55 fr 27 (sb (!(v4.Path.toList == v5.Path.toList)))) 5 (si x2)), _⟩
        refine AWops.guard_yes rfl (nl rfl) rfl (by rw [c6] <;> rfl) ?_
        refine s_move (d := (si x2)) rfl k
       ·intro K rest fr hv htk k
        show AWops _ x _ _ K ⟨55, (upd 55 (upd 55 (upd 55 fr 29 (si x2)) 28 (D.one (C.p false (.sl a0.length (a0.flatMap e_api_Doc))))) 27 (sb (!(v4.Path.toList == v5.Path.toList)))), [(hv 0)]⟩
        refine AWops.guard_yes rfl (nl rfl) rfl (by rw [c6] <;> rfl) ?_
        refine s_indexImm (ps := (p_api_Doc v7)) F.u_23 F.sz_55 rfl rfl pv7 qv7 (flat_at e_api_Doc_len gv7 (e_api_Doc_eq v7)) k
       ·intro K rest fr hv htk k
        show AWops _ x _ _ K ⟨55, (upd 55 (upd 55 fr 30 (D.one (C.peek false (p_api_Doc v7)))) 27 (sb (!(v4.Path.toList == v5.Path.toList)))), [(hv 0)]⟩
        refine AWops.guard_yes rfl (nl rfl) rfl (by rw [c6] <;> rfl) ?_
        refine s_fieldPeek (qs := [P.v (.int .i64 v7.Value.Kind), P.v (.int .i64 v7.Value.Int), P.v (.bool v7.Value.Bool), P.v (.string v7.Value.Text), P.sl v7.Refs.length (v7.Refs.flatMap e_str)]) F.fo_55_1 (by decide) rfl rfl k
       ·intro K rest fr hv htk k
        show AWops _ x _ _ K ⟨55, (upd 55 (upd 55 fr 31 (D.one (C.peek false [P.v (.int .i64 v7.Value.Kind), P.v (.int .i64 v7.Value.Int), P.v (.bool v7.Value.Bool), P.v (.string v7.Value.Text), P.sl v7.Refs.length (v7.Refs.flatMap e_str)]))) 27 (sb (!(v4.Path.toList == v5.Path.toList)))), [(hv 0)]⟩
        refine AWops.guard_yes rfl (nl rfl) rfl (by rw [c6] <;> rfl) ?_
        refine s_loadN (ds := (c_api_Value v7.Value)) F.ag_53 F.sz_53 rfl rfl rfl k
       ·intro K rest fr hv htk k
        show AWops _ x _ _ K ⟨55, (upd 55 (upd 55 fr 27 (sb (!(v4.Path.toList == v5.Path.toList)))) 1 (D.one (C.p false (.sl a1.length (a1.flatMap e_api_Doc))))), _⟩
        refine AWops.guard_yes rfl (nl rfl) rfl (by rw [c6] <;> rfl) ?_
        refine s_move (d := (D.one (C.p false (.sl a1.length (a1.flatMap e_api_Doc))))) rfl k
       ·intro K rest fr hv htk k
        show AWops _ x _ _ K ⟨55, (upd 55 (upd 55 fr 27 (sb (!(v4.Path.toList == v5.Path.toList)))) 5 (si x2)), _⟩
        refine AWops.guard_yes rfl (nl rfl) rfl (by rw [c6] <;> rfl) ?_
        refine s_move (d := (si x2)) rfl k
       ·intro K rest fr hv htk k
        show AWops _ x _ _ K ⟨55, (upd 55 (upd 55 (upd 55 fr 34 (si x2)) 33 (D.one (C.p false (.sl a1.length (a1.flatMap e_api_Doc))))) 27 (sb (!(v4.Path.toList == v5.Path.toList)))), [(hv 0)]⟩
        refine AWops.guard_yes rfl (nl rfl) rfl (by rw [c6] <;> rfl) ?_
        refine s_indexImm (ps := (p_api_Doc v8)) F.u_23 F.sz_55 rfl rfl pv8 qv8 (flat_at e_api_Doc_len gv8 (e_api_Doc_eq v8)) k
       ·intro K rest fr hv htk k
        show AWops _ x _ _ K ⟨55, (upd 55 (upd 55 fr 35 (D.one (C.peek false (p_api_Doc v8)))) 27 (sb (!(v4.Path.toList == v5.Path.toList)))), [(hv 0)]⟩
        refine AWops.guard_yes rfl (nl rfl) rfl (by rw [c6] <;> rfl) ?_
        refine s_fieldPeek (qs := [P.v (.int .i64 v8.Value.Kind), P.v (.int .i64 v8.Value.Int), P.v (.bool v8.Value.Bool), P.v (.string v8.Value.Text), P.sl v8.Refs.length (v8.Refs.flatMap e_str)]) F.fo_55_1 (by decide) rfl rfl k
       ·intro K rest fr hv htk k
        show AWops _ x _ _ K ⟨55, (upd 55 (upd 55 fr 36 (D.one (C.peek false [P.v (.int .i64 v8.Value.Kind), P.v (.int .i64 v8.Value.Int), P.v (.bool v8.Value.Bool), P.v (.string v8.Value.Text), P.sl v8.Refs.length (v8.Refs.flatMap e_str)]))) 27 (sb (!(v4.Path.toList == v5.Path.toList)))), [(hv 0)]⟩
        refine AWops.guard_yes rfl (nl rfl) rfl (by rw [c6] <;> rfl) ?_
        refine s_loadN (ds := (c_api_Value v8.Value)) F.ag_53 F.sz_53 rfl rfl rfl k
       ·intro K rest fr hv htk k
        show AWops _ x _ _ K ⟨55, (upd 55 (upd 55 (upd 55 fr 37 (D.agg (c_api_Value v8.Value))) 32 (D.agg (c_api_Value v7.Value))) 27 (sb (!(v4.Path.toList == v5.Path.toList)))), [(hv 0)]⟩
        refine AWops.guard_yes rfl (nl rfl) rfl (by rw [c6] <;> rfl) ?_
        refine s_binA (b := ((v7.Value.Kind == v8.Value.Kind) && ((v7.Value.Int == v8.Value.Int) && ((v7.Value.Bool == v8.Value.Bool) && ((v7.Value.Text.toList == v8.Value.Text.toList) && true))))) F.ff_53 rfl rfl rfl (.inr rfl) k
       ·intro K rest fr hv htk k
        show AWops _ x _ _ K ⟨55, (upd 55 (upd 55 fr 38 (sb (!((v7.Value.Kind == v8.Value.Kind) && ((v7.Value.Int == v8.Value.Int) && ((v7.Value.Bool == v8.Value.Bool) && ((v7.Value.Text.toList == v8.Value.Text.toList) && true))))))) 27 (sb (!(v4.Path.toList == v5.Path.toList)))), _⟩
        refine s_pick_no (d := (sb (!((v7.Value.Kind == v8.Value.Kind) && ((v7.Value.Int == v8.Value.Int) && ((v7.Value.Bool == v8.Value.Bool) && ((v7.Value.Text.toList == v8.Value.Text.toList) && true))))))) rfl (by rw [c6] <;> rfl) rfl k
       ·intro K rest fr hv htk k
        show AWops _ x _ _ K ⟨55, (upd 55 fr 39 (sb (!((v7.Value.Kind == v8.Value.Kind) && ((v7.Value.Int == v8.Value.Int) && ((v7.Value.Bool == v8.Value.Bool) && ((v7.Value.Text.toList == v8.Value.Text.toList) && true))))))), _⟩
        refine s_move (d := (sb (!((v7.Value.Kind == v8.Value.Kind) && ((v7.Value.Int == v8.Value.Int) && ((v7.Value.Bool == v8.Value.Bool) && ((v7.Value.Text.toList == v8.Value.Text.toList) && true))))))) rfl k
       ·intro K rest fr hv htk k
        show AWops _ x _ _ K ⟨55, (upd 55 (upd 55 fr 40 (sb (!((v7.Value.Kind == v8.Value.Kind) && ((v7.Value.Int == v8.Value.Int) && ((v7.Value.Bool == v8.Value.Bool) && ((v7.Value.Text.toList == v8.Value.Text.toList) && true))))))) 0 (D.one (C.p false (.sl a0.length (a0.flatMap e_api_Doc))))), _⟩
        refine AWops.guard_no rfl (nl rfl) rfl (by rw [c9] <;> rfl) k
       ·intro K rest fr hv htk k
        show AWops _ x _ _ K ⟨55, (upd 55 fr 40 (sb (!((v7.Value.Kind == v8.Value.Kind) && ((v7.Value.Int == v8.Value.Int) && ((v7.Value.Bool == v8.Value.Bool) && ((v7.Value.Text.toList == v8.Value.Text.toList) && true))))))), _⟩
        refine AWops.guard_no rfl (nl rfl) rfl (by rw [c9] <;> rfl) k
       ·intro K rest fr hv htk k
        show AWops _ x _ _ K ⟨55, (upd 55 fr 40 (sb (!((v7.Value.Kind == v8.Value.Kind) && ((v7.Value.Int == v8.Value.Int) && ((v7.Value.Bool == v8.Value.Bool) && ((v7.Value.Text.toList == v8.Value.Text.toList) && true))))))), _⟩
        refine AWops.guard_no rfl (nl rfl) rfl (by rw [c9] <;> rfl) k
       ·intro K rest fr hv htk k
        show AWops _ x _ _ K ⟨55, (upd 55 fr 40 (sb (!((v7.Value.Kind == v8.Value.Kind) && ((v7.Value.Int == v8.Value.Int) && ((v7.Value.Bool == v8.Value.Bool) && ((v7.Value.Text.toList == v8.Value.Text.toList) && true))))))), _⟩
        refine AWops.guard_no rfl (nl rfl) rfl (by rw [c9] <;> rfl) k
       ·intro K rest fr hv htk k
        show AWops _ x _ _ K ⟨55, (upd 55 fr 40 (sb (!((v7.Value.Kind == v8.Value.Kind) && ((v7.Value.Int == v8.Value.Int) && ((v7.Value.Bool == v8.Value.Bool) && ((v7.Value.Text.toList == v8.Value.Text.toList) && true))))))), _⟩
        refine AWops.guard_no rfl (nl rfl) rfl (by rw [c9] <;> rfl) k
       ·intro K rest fr hv htk k
        show AWops _ x _ _ K ⟨55, (upd 55 fr 40 (sb (!((v7.Value.Kind == v8.Value.Kind) && ((v7.Value.Int == v8.Value.Int) && ((v7.Value.Bool == v8.Value.Bool) && ((v7.Value.Text.toList == v8.Value.Text.toList) && true))))))), _⟩
        refine AWops.guard_no rfl (nl rfl) rfl (by rw [c9] <;> rfl) k
       ·intro K rest fr hv htk k
        show AWops _ x _ _ K ⟨55, (upd 55 fr 40 (sb (!((v7.Value.Kind == v8.Value.Kind) && ((v7.Value.Int == v8.Value.Int) && ((v7.Value.Bool == v8.Value.Bool) && ((v7.Value.Text.toList == v8.Value.Text.toList) && true))))))), _⟩
        refine AWops.guard_no rfl (nl rfl) rfl (by rw [c9] <;> rfl) k
       ·intro K rest fr hv htk k
        show AWops _ x _ _ K ⟨55, (upd 55 fr 40 (sb (!((v7.Value.Kind == v8.Value.Kind) && ((v7.Value.Int == v8.Value.Int) && ((v7.Value.Bool == v8.Value.Bool) && ((v7.Value.Text.toList == v8.Value.Text.toList) && true))))))), _⟩
        refine AWops.guard_no rfl (nl rfl) rfl (by rw [c9] <;> rfl) k
       ·intro K rest fr hv htk k
        show AWops _ x _ _ K ⟨55, (upd 55 fr 40 (sb (!((v7.Value.Kind == v8.Value.Kind) && ((v7.Value.Int == v8.Value.Int) && ((v7.Value.Bool == v8.Value.Bool) && ((v7.Value.Text.toList == v8.Value.Text.toList) && true))))))), _⟩
        refine AWops.guard_no rfl (nl rfl) rfl (by rw [c9] <;> rfl) k
       ·intro K rest fr hv htk k
        show AWops _ x _ _ K ⟨55, (upd 55 fr 40 (sb (!((v7.Value.Kind == v8.Value.Kind) && ((v7.Value.Int == v8.Value.Int) && ((v7.Value.Bool == v8.Value.Bool) && ((v7.Value.Text.toList == v8.Value.Text.toList) && true))))))), _⟩
        refine AWops.guard_no rfl (nl rfl) rfl (by rw [c9] <;> rfl) k
       ·intro K rest fr hv htk k
        show AWops _ x _ _ K ⟨55, (upd 55 fr 40 (sb (!((v7.Value.Kind == v8.Value.Kind) && ((v7.Value.Int == v8.Value.Int) && ((v7.Value.Bool == v8.Value.Bool) && ((v7.Value.Text.toList == v8.Value.Text.toList) && true))))))), _⟩
        refine AWops.guard_no rfl (nl rfl) rfl (by rw [c9] <;> rfl) k
       ·intro K rest fr hv htk k
        show AWops _ x _ _ K ⟨55, (upd 55 fr 40 (sb (!((v7.Value.Kind == v8.Value.Kind) && ((v7.Value.Int == v8.Value.Int) && ((v7.Value.Bool == v8.Value.Bool) && ((v7.Value.Text.toList == v8.Value.Text.toList) && true))))))), _⟩
        refine AWops.guard_no rfl (nl rfl) rfl (by rw [c9] <;> rfl) k
       ·intro K rest fr hv htk k
        show AWops _ x _ _ K ⟨55, (upd 55 fr 40 (sb (!((v7.Value.Kind == v8.Value.Kind) && ((v7.Value.Int == v8.Value.Int) && ((v7.Value.Bool == v8.Value.Bool) && ((v7.Value.Text.toList == v8.Value.Text.toList) && true))))))), _⟩
        refine s_pick_yes (d := (sb true)) rfl (by rw [c9] <;> rfl) rfl k
      ·refine AWops.weak (st' := ⟨55, (upd 55 (upd 55 (upd 55 (upd 55 (upd 55 (upd 55 (upd 55 (upd 55 (upd 55 (upd 55 (upd 55 (upd 55 (upd 55 (upd 55 (upd 55 (upd 55 (upd 55 (upd 55 (upd 55 (upd 55 (upd 55 (upd 55 (upd 55 (upd 55 (upd 55 (upd 55 (upd 55 (upd 55 topF 0 (D.one (C.p false (.sl a0.length (a0.flatMap e_api_Doc))))) 1 (D.one (C.p false (.sl a1.length (a1.flatMap e_api_Doc))))) 12 (si (a0.length : Int))) 13 (si x2)) 28 (D.one (C.p false (.sl a0.length (a0.flatMap e_api_Doc))))) 29 (si x2)) 30 (D.one (C.peek false (p_api_Doc v7)))) 31 (D.one (C.peek false [P.v (.int .i64 v7.Value.Kind), P.v (.int .i64 v7.Value.Int), P.v (.bool v7.Value.Bool), P.v (.string v7.Value.Text), P.sl v7.Refs.length (v7.Refs.flatMap e_str)]))) 32 (D.agg (c_api_Value v7.Value))) 33 (D.one (C.p false (.sl a1.length (a1.flatMap e_api_Doc))))) 34 (si x2)) 35 (D.one (C.peek false (p_api_Doc v8)))) 36 (D.one (C.peek false [P.v (.int .i64 v8.Value.Kind), P.v (.int .i64 v8.Value.Int), P.v (.bool v8.Value.Bool), P.v (.string v8.Value.Text), P.sl v8.Refs.length (v8.Refs.flatMap e_str)]))) 37 (D.agg (c_api_Value v8.Value))) 38 (sb (!((v7.Value.Kind == v8.Value.Kind) && ((v7.Value.Int == v8.Value.Int) && ((v7.Value.Bool == v8.Value.Bool) && ((v7.Value.Text.toList == v8.Value.Text.toList) && true))))))) 41 (D.tup [])) 42 (D.tup [])) 43 (D.tup [])) 44 (D.tup [])) 45 (D.tup [])) 46 (D.tup [])) 47 (D.tup [])) 48 (D.tup [])) 49 (D.tup [])) 50 (D.tup [])) 51 (D.tup [])) 52 (D.tup [])) 53 (sb true)), []⟩) (wg 0 [] [] hx (le_upd (le_upd (le_upd (le_upd (le_upd (le_upd (le_upd (le_upd (le_upd (le_upd (le_upd (le_upd (le_upd (le_upd (le_upd (le_upd (le_upd (le_upd (le_upd (le_upd (le_upd (le_upd (le_upd (le_upd (le_upd (le_upd (le_upd (le_upd (le_top _) (o1 .same)) (o1 .same)) (o1 .sc)) (o1 .sc)) (o1 .same)) (o1 .sc)) (o1 .peek)) (o1 .peek)) (.t (.agg (ac .sc (ac .sc (ac .sc (ac .sc an))))))) (o1 .same)) (o1 .sc)) (o1 .peek)) (o1 .peek)) (.t (.agg (ac .sc (ac .sc (ac .sc (ac .sc an))))))) (o1 .sc)) (DLe.tup an)) (DLe.tup an)) (DLe.tup an)) (DLe.tup an)) (DLe.tup an)) (DLe.tup an)) (DLe.tup an)) (DLe.tup an)) (DLe.tup an)) (DLe.tup an)) (DLe.tup an)) (DLe.tup an)) (o1 .sc)) an) (AWops.nil ?_)
       refine AW.cond_yes rfl rfl (AW.seq (AW.region ?_))
       refine s_assign (d := (sb false)) rfl (AWops.nil (AW.ret ?_))
       obtain rfl := Option.some.inj h
       exact ⟨_, rfl, (wg 0 [] [] rfl (le_upd (le_top _) (o1 .sc)) an)⟩
    ·refine AW.draw (n := 55) (L := 1) [(ft 0 16 (D.one (C.p false (.sl a0.length (a0.flatMap e_api_Doc)))) [(0, (D.one (C.p false (.sl a0.length (a0.flatMap e_api_Doc)))))]), (ft 1 17 (si x2) [(5, (si x2))]), (ft 2 18 (D.one (C.peek false (p_api_Doc v4))) [(16, (D.one (C.p false (.sl a0.length (a0.flatMap e_api_Doc))))), (17, (si x2))]), (ft 3 19 (D.one (C.peek false (p_api_Doc v4))) [(18, (D.one (C.peek false (p_api_Doc v4))))]), (ft 4 20 (st_ v4.Path) [(19, (D.one (C.peek false (p_api_Doc v4))))]), (ft 5 21 (D.one (C.p false (.sl a1.length (a1.flatMap e_api_Doc)))) [(1, (D.one (C.p false (.sl a1.length (a1.flatMap e_api_Doc)))))]), (ft 6 22 (si x2) [(5, (si x2))]), (ft 7 23 (D.one (C.peek false (p_api_Doc v5))) [(21, (D.one (C.p false (.sl a1.length (a1.flatMap e_api_Doc))))), (22, (si x2))]), (ft 8 24 (D.one (C.peek false (p_api_Doc v5))) [(23, (D.one (C.peek false (p_api_Doc v5))))]), (ft 9 25 (st_ v5.Path) [(24, (D.one (C.peek false (p_api_Doc v5))))]), (ft 10 26 (sb (!(v4.Path.toList == v5.Path.toList))) [(20, (st_ v4.Path)), (25, (st_ v5.Path))]), (ft 11 27 (sb (!(v4.Path.toList == v5.Path.toList))) [(26, (sb (!(v4.Path.toList == v5.Path.toList))))]), (ft 12 28 (D.tup []) [(0, (D.one (C.p false (.sl a0.length (a0.flatMap e_api_Doc))))), (27, (sb (!(v4.Path.toList == v5.Path.toList))))]), (ft 13 29 (D.tup []) [(27, (sb (!(v4.Path.toList == v5.Path.toList))))]), (ft 14 30 (D.tup []) [(27, (sb (!(v4.Path.toList == v5.Path.toList))))]), (ft 15 31 (D.tup []) [(27, (sb (!(v4.Path.toList == v5.Path.toList))))]), (ft 16 32 (D.tup []) [(27, (sb (!(v4.Path.toList == v5.Path.toList))))]), (ft 17 33 (D.tup []) [(27, (sb (!(v4.Path.toList == v5.Path.toList))))]), (ft 18 34 (D.tup []) [(27, (sb (!(v4.Path.toList == v5.Path.toList))))]), (ft 19 35 (D.tup []) [(27, (sb (!(v4.Path.toList == v5.Path.toList))))]), (ft 20 36 (D.tup []) [(27, (sb (!(v4.Path.toList == v5.Path.toList))))]), (ft 21 37 (D.tup []) [(27, (sb (!(v4.Path.toList == v5.Path.toList))))]), (ft 22 38 (D.tup []) [(27, (sb (!(v4.Path.toList == v5.Path.toList))))]), (ft 23 39 (sb true) [(27, (sb (!(v4.Path.toList == v5.Path.toList))))]), (ft 24 40 (sb true) [(39, (sb true))]), (ft 25 41 (D.tup []) [(40, (sb true))]), (ft 26 42 (D.tup []) [(40, (sb true))]), (ft 27 43 (D.tup []) [(40, (sb true))]), (ft 28 44 (D.tup []) [(40, (sb true))]), (ft 29 45 (D.tup []) [(40, (sb true))]), (ft 30 46 (D.tup []) [(40, (sb true))]), (ft 31 47 (D.tup []) [(40, (sb true))]), (ft 32 48 (D.tup []) [(40, (sb true))]), (ft 33 49 (D.tup []) [(40, (sb true))]), (ft 34 50 (D.tup []) [(40, (sb true))]), (ft 35 51 (D.tup []) [(40, (sb true))]), (ft 36 52 (D.tup []) [(40, (sb true))]), (ft 37 53 (sb true) [(40, (sb true))])] [[], [], [0, 1], [0, 1, 2], [0, 1, 2, 3], [], [], [5, 6], [5, 6, 7], [5, 6, 7, 8], (.range 10), (.range 11), (.range 12), (.range 12), (.range 14), (.range 15), (.range 16), (.range 12), (.range 12), (.range 12 ++ [17, 18]), (.range 12 ++ [17, 18, 19]), (.range 12 ++ [17, 18, 19, 20]), (.range 22), (.range 23), (.range 24), (.range 25), (.range 25), (.range 27), (.range 28), (.range 29), (.range 25), (.range 25), (.range 25 ++ [30, 31]), (.range 25 ++ [30, 31, 32]), (.range 25 ++ [30, 31, 32, 33]), (.range 35), (.range 36), (.range 37)] (nl rfl) [0, 0, 1, 2, 3, 0, 0, 1, 2, 3, 4, 5, 6, 6, 7, 8, 9, 6, 6, 7, 8, 9, 10, 11, 12, 13, 13, 14, 15, 16, 13, 13, 14, 15, 16, 17, 18, 19] rfl (TK := []) rfl AllK.nil' (by repeat (first | refine fC ⟨?_, ?_⟩ ?_ | refine sC rfl ?_ | refine hC rfl ?_ | trivial)) ?_ ?_
     ·refine (pC ?_ (pC ?_ (pC ?_ (pC ?_ (pC ?_ (pC ?_ (pC ?_ (pC ?_ (pC ?_ (pC ?_ (pC ?_ (pC ?_ (pC ?_ (pC ?_ (pC ?_ (pC ?_ (pC ?_ (pC ?_ (pC ?_ (pC ?_ (pC ?_ (pC ?_ (pC ?_ (pC ?_ (pC ?_ (pC ?_ (pC ?_ (pC ?_ (pC ?_ (pC ?_ (pC ?_ (pC ?_ (pC ?_ (pC ?_ (pC ?_ (pC ?_ (pC ?_ (pC ?_ AllStep.nil'))))))))))))))))))))))))))))))))))))))
      ·intro K rest fr hv htk k
       show AWops _ x _ _ K ⟨55, (upd 55 fr 0 (D.one (C.p false (.sl a0.length (a0.flatMap e_api_Doc))))), _⟩
       refine s_move (d := (D.one (C.p false (.sl a0.length (a0.flatMap e_api_Doc))))) rfl k
      ·intro K rest fr hv htk k
       show AWops _ x _ _ K ⟨55, (upd 55 fr 5 (si x2)), _⟩
       refine s_move (d := (si x2)) rfl k
      ·intro K rest fr hv htk k
       show AWops _ x _ _ K ⟨55, (upd 55 (upd 55 fr 17 (si x2)) 16 (D.one (C.p false (.sl a0.length (a0.flatMap e_api_Doc))))), [(hv 0)]⟩
       refine s_indexImm (ps := (p_api_Doc v4)) F.u_23 F.sz_55 rfl rfl pv4 qv4 (flat_at e_api_Doc_len gv4 (e_api_Doc_eq v4)) k
      ·intro K rest fr hv htk k
       show AWops _ x _ _ K ⟨55, (upd 55 fr 18 (D.one (C.peek false (p_api_Doc v4)))), [(hv 0)]⟩
       refine s_fieldPeek (qs := (p_api_Doc v4)) F.fo_55_0 (by decide) rfl rfl k
      ·intro K rest fr hv htk k
       show AWops _ x _ _ K ⟨55, (upd 55 fr 19 (D.one (C.peek false (p_api_Doc v4)))), [(hv 0)]⟩
       refine s_load1 (c' := (ct v4.Path)) F.ag_9 rfl rfl k
      ·intro K rest fr hv htk k
       show AWops _ x _ _ K ⟨55, (upd 55 fr 1 (D.one (C.p false (.sl a1.length (a1.flatMap e_api_Doc))))), _⟩
       refine s_move (d := (D.one (C.p false (.sl a1.length (a1.flatMap e_api_Doc))))) rfl k
      ·intro K rest fr hv htk k
       show AWops _ x _ _ K ⟨55, (upd 55 fr 5 (si x2)), _⟩
       refine s_move (d := (si x2)) rfl k
      ·intro K rest fr hv htk k
       show AWops _ x _ _ K ⟨55, (upd 55 (upd 55 fr 22 (si x2)) 21 (D.one (C.p false (.sl a1.length (a1.flatMap e_api_Doc))))), [(hv 0)]⟩
       refine s_indexImm (ps := (p_api_Doc v5)) F.u_23 F.sz_55 rfl rfl pv5 qv5 (flat_at e_api_Doc_len gv5 (e_api_Doc_eq v5)) k
      ·intro K rest fr hv htk k
       show AWops _ x _ _ K ⟨55, (upd 55 fr 23 (D.one (C.peek false (p_api_Doc v5)))), [(hv 0)]⟩
       refine s_fieldPeek (qs := (p_api_Doc v5)) F.fo_55_0 (by decide) rfl rfl k
      ·intro K rest fr hv htk k
       show AWops _ x _ _ K ⟨55, (upd 55 fr 24 (D.one (C.peek false (p_api_Doc v5)))), [(hv 0)]⟩
       refine s_load1 (c' := (ct v5.Path)) F.ag_9 rfl rfl k
      ·intro K rest fr hv htk k
       show AWops _ x _ _ K ⟨55, (upd 55 (upd 55 fr 25 (st_ v5.Path)) 20 (st_ v4.Path)), [(hv 0)]⟩
       refine s_binS (v := (.bool (!(v4.Path.toList == v5.Path.toList)))) rfl rfl rfl k
      ·intro K rest fr hv htk k
       show AWops _ x _ _ K ⟨55, (upd 55 fr 26 (sb (!(v4.Path.toList == v5.Path.toList)))), _⟩
       refine s_move (d := (sb (!(v4.Path.toList == v5.Path.toList)))) rfl k
      ·intro K rest fr hv htk k
       show AWops _ x _ _ K ⟨55, (upd 55 (upd 55 fr 27 (sb (!(v4.Path.toList == v5.Path.toList)))) 0 (D.one (C.p false (.sl a0.length (a0.flatMap e_api_Doc))))), _⟩
       refine AWops.guard_no rfl (nl rfl) rfl (by rw [c6] <;> rfl) k
      ·intro K rest fr hv htk k
       show AWops _ x _ _ K ⟨55, (upd 55 fr 27 (sb (!(v4.Path.toList == v5.Path.toList)))), _⟩
       refine AWops.guard_no rfl (nl rfl) rfl (by rw [c6] <;> rfl) k
      ·intro K rest fr hv htk k
       show AWops _ x _ _ K ⟨55, (upd 55 fr 27 (sb (!(v4.Path.toList == v5.Path.toList)))), _⟩
       refine AWops.guard_no rfl (nl rfl) rfl (by rw [c6] <;> rfl) k
      ·intro K rest fr hv htk k
       show AWops _ x _ _ K ⟨55, (upd 55 fr 27 (sb (!(v4.Path.toList == v5.Path.toList)))), _⟩
       refine AWops.guard_no rfl (nl rfl) rfl (by rw [c6] <;> rfl) k
      ·intro K rest fr hv htk k
       show AWops _ x _ _ K ⟨55, (upd 55 fr 27 (sb (!(v4.Path.toList == v5.Path.toList)))), _⟩
       refine AWops.guard_no rfl (nl rfl) rfl (by rw [c6] <;> rfl) k
      ·intro K rest fr hv htk k
       show AWops _ x _ _ K ⟨55, (upd 55 fr 27 (sb (!(v4.Path.toList == v5.Path.toList)))), _⟩
       refine AWops.guard_no rfl (nl rfl) rfl (by rw [c6] <;> rfl) k
      ·intro K rest fr hv htk k
       show AWops _ x _ _ K ⟨55, (upd 55 fr 27 (sb (!(v4.Path.toList == v5.Path.toList)))), _⟩
       refine AWops.guard_no rfl (nl rfl) rfl (by rw [c6] <;> rfl) k
      ·intro K rest fr hv htk k
       show AWops _ x _ _ K ⟨55, (upd 55 fr 27 (sb (!(v4.Path.toList == v5.Path.toList)))), _⟩
       refine AWops.guard_no rfl (nl rfl) rfl (by rw [c6] <;> rfl) k
      ·intro K rest fr hv htk k
       show AWops _ x _ _ K ⟨55, (upd 55 fr 27 (sb (!(v4.Path.toList == v5.Path.toList)))), _⟩
       refine AWops.guard_no rfl (nl rfl) rfl (by rw [c6] <;> rfl) k
      ·intro K rest fr hv htk k
       show AWops _ x _ _ K ⟨55, (upd 55 fr 27 (sb (!(v4.Path.toList == v5.Path.toList)))), _⟩
       refine AWops.guard_no rfl (nl rfl) rfl (by rw [c6] <;> rfl) k
      ·intro K rest fr hv htk k
       show AWops _ x _ _ K ⟨55, (upd 55 fr 27 (sb (!(v4.Path.toList == v5.Path.toList)))), _⟩
       refine AWops.guard_no rfl (nl rfl) rfl (by rw [c6] <;> rfl) k
      ·intro K rest fr hv htk k
       show AWops _ x _ _ K ⟨55, (upd 55 fr 27 (sb (!(v4.Path.toList == v5.Path.toList)))), _⟩
       refine s_pick_yes (d := (sb true)) rfl (by rw [c6] <;> rfl) rfl k
      ·intro K rest fr hv htk k
       show AWops _ x _ _ K ⟨55, (upd 55 fr 39 (sb true)), _⟩
       refine s_move (d := (sb true)) rfl k
      ·intro K rest fr hv htk k
       show AWops _ x _ _ K ⟨55, (upd 55 fr 40 (sb true)), _⟩
       refine AWops.guard_no rfl (nl rfl) rfl rfl k
      ·intro K rest fr hv htk k
       show AWops _ x _ _ K ⟨55, (upd 55 fr 40 (sb true)), _⟩
       refine AWops.guard_no rfl (nl rfl) rfl rfl k
      ·intro K rest fr hv htk k
       show AWops _ x _ _ K ⟨55, (upd 55 fr 40 (sb true)), _⟩
       refine AWops.guard_no rfl (nl rfl) rfl rfl k
      ·intro K rest fr hv htk k
       show AWops _ x _ _ K ⟨55, (upd 55 fr 40 (sb true)), _⟩
       refine AWops.guard_no rfl (nl rfl) rfl rfl k
      ·intro K rest fr hv htk k
       show AWops _ x _ _ K ⟨55, (upd 55 fr 40 (sb true)), _⟩
       refine AWops.guard_no rfl (nl rfl) rfl rfl k
      ·intro K rest fr hv htk k
       show AWops _ x _ _ K ⟨55, (upd 55 fr 40 (sb true)), _⟩
       refine AWops.guard_no rfl (nl rfl) rfl rfl k
      ·intro K rest fr hv htk k
       show AWops _ x _ _ K ⟨55, (upd 55 fr 40 (sb true)), _⟩
       refine AWops.guard_no rfl (nl rfl) rfl rfl k
      ·intro K rest fr hv htk k
       show AWops _ x _ _ K ⟨55, (upd 55 fr 40 (sb true)), _⟩
       refine AWops.guard_no rfl (nl rfl) rfl rfl k
      ·intro K rest fr hv htk k
       show AWops _ x _ _ K ⟨55, (upd 55 fr 40 (sb true)), _⟩
       refine AWops.guard_no rfl (nl rfl) rfl rfl k
      ·intro K rest fr hv htk k
       show AWops _ x _ _ K ⟨55, (upd 55 fr 40 (sb true)), _⟩
       refine AWops.guard_no rfl (nl rfl) rfl rfl k
      ·intro K rest fr hv htk k
       show AWops _ x _ _ K ⟨55, (upd 55 fr 40 (sb true)), _⟩
       refine AWops.guard_no rfl (nl rfl) rfl rfl k
      ·intro K rest fr hv htk k
       show AWops _ x _ _ K ⟨55, (upd 55 fr 40 (sb true)), _⟩
       refine AWops.guard_no rfl (nl rfl) rfl rfl k
      ·intro K rest fr hv htk k
       show AWops _ x _ _ K ⟨55, (upd 55 fr 40 (sb true)), _⟩
       refine s_pick_yes (d := (sb true)) rfl rfl rfl k
     ·refine AWops.weak (st' := ⟨55, (upd 55 (upd 55 (upd 55 (upd 55 (upd 55 (upd 55 (upd 55 (upd 55 (upd 55 (upd 55 (upd 55 (upd 55 (upd 55 (upd 55 (upd 55 (upd 55 (upd 55 (upd 55 (upd 55 (upd 55 (upd 55 (upd 55 (upd 55 (upd 55 (upd 55 (upd 55 (upd 55 (upd 55 topF 0 (D.one (C.p false (.sl a0.length (a0.flatMap e_api_Doc))))) 1 (D.one (C.p false (.sl a1.length (a1.flatMap e_api_Doc))))) 12 (si (a0.length : Int))) 13 (si x2)) 28 (D.tup [])) 29 (D.tup [])) 30 (D.tup [])) 31 (D.tup [])) 32 (D.tup [])) 33 (D.tup [])) 34 (D.tup [])) 35 (D.tup [])) 36 (D.tup [])) 37 (D.tup [])) 38 (D.tup [])) 41 (D.tup [])) 42 (D.tup [])) 43 (D.tup [])) 44 (D.tup [])) 45 (D.tup [])) 46 (D.tup [])) 47 (D.tup [])) 48 (D.tup [])) 49 (D.tup [])) 50 (D.tup [])) 51 (D.tup [])) 52 (D.tup [])) 53 (sb true)), []⟩) (wg 0 [] [] hx (le_upd (le_upd (le_upd (le_upd (le_upd (le_upd (le_upd (le_upd (le_upd (le_upd (le_upd (le_upd (le_upd (le_upd (le_upd (le_upd (le_upd (le_upd (le_upd (le_upd (le_upd (le_upd (le_upd (le_upd (le_upd (le_upd (le_upd (le_upd (le_top _) (o1 .same)) (o1 .same)) (o1 .sc)) (o1 .sc)) (DLe.tup an)) (DLe.tup an)) (DLe.tup an)) (DLe.tup an)) (DLe.tup an)) (DLe.tup an)) (DLe.tup an)) (DLe.tup an)) (DLe.tup an)) (DLe.tup an)) (DLe.tup an)) (DLe.tup an)) (DLe.tup an)) (DLe.tup an)) (DLe.tup an)) (DLe.tup an)) (DLe.tup an)) (DLe.tup an)) (DLe.tup an)) (DLe.tup an)) (DLe.tup an)) (DLe.tup an)) (DLe.tup an)) (o1 .sc)) an) (AWops.nil ?_)
      refine AW.cond_yes rfl rfl (AW.seq (AW.region ?_))
      refine s_assign (d := (sb false)) rfl (AWops.nil (AW.ret ?_))
      obtain rfl := Option.some.inj h
      exact ⟨_, rfl, (wg 0 [] [] rfl (le_upd (le_top _) (o1 .sc)) an)⟩
   ·refine AW.cond_no rfl c3 (AW.exit (AW.seq (AW.region ?_)))
    refine s_assign (d := (sb true)) rfl (AWops.nil (AW.ret ?_))
    obtain rfl := Option.some.inj h
    exact ⟨_, rfl, (wg 0 [] [] rfl (le_upd (le_top _) (o1 .sc)) an)⟩
end Go.Abs.GenI
