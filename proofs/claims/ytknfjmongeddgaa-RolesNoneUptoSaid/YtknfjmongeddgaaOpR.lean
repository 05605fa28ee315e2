import Derived.Test.YtknfjmongeddgaaAbsM
import Derived.Test.YtknfjmongeddgaaGenRa
import Derived.Test.YtknfjmongeddgaaRows
set_option linter.unusedVariables false
set_option linter.unusedSimpArgs false
set_option maxRecDepth 100000
namespace Go.Abs.GenR
open Go.Proofs Go.Proofs.Ytknfjmongeddgaa Go.ChangeShapes Go.WideShapes Go.ChangeAt Go.RowKit Go.Abs
theorem c9 : Try.prog.cellsOf 9 = 1 := by kernel_rfl
theorem O9 : Opens Try.prog 9 1 e_str wfS bkS := .str c9 Try.underlying9
theorem c31 : Try.prog.cellsOf 31 = 1 := by kernel_rfl
theorem O31 : Opens Try.prog 31 1 (e_sl e_str) (wfL wfS) (bkL bkS) := .slice O9 c31 Try.underlying31
theorem c3 : Try.prog.cellsOf 3 = 1 := by kernel_rfl
theorem O3 : Opens Try.prog 3 1 e_i64 (wfI .i64) bk1 := .int .i64 _ e_i64_eq c3 Try.underlying3
mutual
def wf_api_FileItem : api_FileItem → Prop
  | ⟨Name, Kind, Multi, Kids, Refs⟩ => wfS Name ∧ (wfI .i64) Kind ∧ (wfI .i64) Multi ∧ wfs_api_FileItem Kids ∧ (wfL wfS) Refs ∧ True
def wfs_api_FileItem : List api_FileItem → Prop
  | [] => True
  | x :: xs => wf_api_FileItem x ∧ wfs_api_FileItem xs
end
mutual
def bk_api_FileItem : api_FileItem → Nat
  | ⟨Name, Kind, Multi, Kids, Refs⟩ => bkS Name + bk1 Kind + bk1 Multi + bks_api_FileItem Kids + (bkL bkS) Refs + 1
def bks_api_FileItem : List api_FileItem → Nat
  | [] => 1
  | x :: xs => bk_api_FileItem x + bks_api_FileItem xs
end
theorem wfs_api_FileItem_eq : ∀ xs : List api_FileItem, wfs_api_FileItem xs = wfL wf_api_FileItem xs
  | [] => by simp [wfs_api_FileItem, wfL]
  | x :: xs => by simp [wfs_api_FileItem, wfL, wfs_api_FileItem_eq xs]
theorem bks_api_FileItem_eq : ∀ xs : List api_FileItem, bks_api_FileItem xs = bkL bk_api_FileItem xs
  | [] => by simp [bks_api_FileItem, bkL]
  | x :: xs => by simp [bks_api_FileItem, bkL, bks_api_FileItem_eq xs]; omega
theorem c86 : Try.prog.cellsOf 86 = 5 := by kernel_rfl
theorem O86 : Opens Try.prog 86 5 e_api_FileItem wf_api_FileItem bk_api_FileItem := by
  intro m
  induction m with
  | zero => exact .zero c86 (by decide) e_api_FileItem_len
  | succ m ih =>
    have Q32 : OpensB Try.prog 32 1 (e_sl e_api_FileItem) (wfL wf_api_FileItem) (bkL bk_api_FileItem) m := (OpensB.slice ih (by kernel_rfl) Try.underlying32).mono (by omega)
    refine ⟨c86, by decide, e_api_FileItem_len, ?_⟩
    intro H enc w fuel cs x h hb
    obtain ⟨xs, n, _, rfl, hl, hlen, hf⟩ := DataW.trod_struct Try.underlying86 h
    match xs, hlen, hf, hb with
    | [y0, y1, y2, y3, y4], _, hf, hb =>
      simp only [List.map_cons, List.map_nil, Rows.uptoBulk, Rows.uptoBulkAll] at hb ⊢
      obtain ⟨a0, r0, w0, b0⟩ := (O9 m).fld (hf 0 _ rfl) (by omega)
      obtain ⟨a1, r1, w1, b1⟩ := (O3 m).fld (hf 1 _ rfl) (by omega)
      obtain ⟨a2, r2, w2, b2⟩ := (O3 m).fld (hf 2 _ rfl) (by omega)
      obtain ⟨a3, r3, w3, b3⟩ := Q32.fld (hf 3 _ rfl) (by omega)
      obtain ⟨a4, r4, w4, b4⟩ := (O31 m).fld (hf 4 _ rfl) (by omega)
      refine ⟨⟨a0, a1, a2, a3, a4⟩, by rw [hl]; exact c86, ?_, ?_, ?_⟩
      · have g0 : CellsRel w (cs.take 1) (e_str a0) := r0
        have g1 : CellsRel w (cs.take (1 + 1)) (e_str a0 ++ e_i64 a1) := g0.app (by simp only [List.length_append, e_str_len]) r1
        have g2 : CellsRel w (cs.take (2 + 1)) (e_str a0 ++ e_i64 a1 ++ e_i64 a2) := g1.app (by simp only [List.length_append, e_i64_len, e_str_len]) r2
        have g3 : CellsRel w (cs.take (3 + 1)) (e_str a0 ++ e_i64 a1 ++ e_i64 a2 ++ (e_sl e_api_FileItem) a3) := g2.app (by simp only [List.length_append, e_i64_len, e_str_len]) r3
        have g4 : CellsRel w (cs.take (4 + 1)) (e_str a0 ++ e_i64 a1 ++ e_i64 a2 ++ (e_sl e_api_FileItem) a3 ++ (e_sl e_str) a4) := g3.app (by simp only [List.length_append, e_i64_len, e_sl_len, e_str_len]) r4
        simpa only [e_api_FileItem, es_api_FileItem_eq, e_sl] using g4.all (hl.trans c86)
      · simp only [wf_api_FileItem, wfs_api_FileItem_eq]; exact ⟨w0, w1, w2, w3, w4, trivial⟩
      · simp only [bk_api_FileItem, bks_api_FileItem_eq]; omega
theorem c32 : Try.prog.cellsOf 32 = 1 := by kernel_rfl
theorem O32 : Opens Try.prog 32 1 (e_sl e_api_FileItem) (wfL wf_api_FileItem) (bkL bk_api_FileItem) := .slice O86 c32 Try.underlying32
def wf_api_OnPart (x : api_OnPart) : Prop := wfS x.Item ∧ wfS x.File ∧ (wfI .i64) x.Event ∧ True
def bk_api_OnPart (x : api_OnPart) : Nat := bkS x.Item + bkS x.File + bk1 x.Event + 1
theorem c89 : Try.prog.cellsOf 89 = 3 := by kernel_rfl
theorem O89 : Opens Try.prog 89 3 e_api_OnPart wf_api_OnPart bk_api_OnPart := by
  intro m
  induction m with
  | zero => exact .zero c89 (by decide) e_api_OnPart_len
  | succ m ih =>
    refine ⟨c89, by decide, e_api_OnPart_len, ?_⟩
    intro H enc w fuel cs x h hb
    obtain ⟨xs, n, _, rfl, hl, hlen, hf⟩ := DataW.trod_struct Try.underlying89 h
    match xs, hlen, hf, hb with
    | [y0, y1, y2], _, hf, hb =>
      simp only [List.map_cons, List.map_nil, Rows.uptoBulk, Rows.uptoBulkAll] at hb ⊢
      obtain ⟨a0, r0, w0, b0⟩ := (O9 m).fld (hf 0 _ rfl) (by omega)
      obtain ⟨a1, r1, w1, b1⟩ := (O9 m).fld (hf 1 _ rfl) (by omega)
      obtain ⟨a2, r2, w2, b2⟩ := (O3 m).fld (hf 2 _ rfl) (by omega)
      refine ⟨⟨a0, a1, a2⟩, by rw [hl]; exact c89, ?_, ?_, ?_⟩
      · have g0 : CellsRel w (cs.take 1) (e_str a0) := r0
        have g1 : CellsRel w (cs.take (1 + 1)) (e_str a0 ++ e_str a1) := g0.app (by simp only [List.length_append, e_str_len]) r1
        have g2 : CellsRel w (cs.take (2 + 1)) (e_str a0 ++ e_str a1 ++ e_i64 a2) := g1.app (by simp only [List.length_append, e_str_len]) r2
        exact g2.all (hl.trans c89)
      · exact ⟨w0, w1, w2, trivial⟩
      · simp only [bk_api_OnPart]; omega
theorem c81 : Try.prog.cellsOf 81 = 1 := by kernel_rfl
theorem O81 : Opens Try.prog 81 1 (e_sl e_api_OnPart) (wfL wf_api_OnPart) (bkL bk_api_OnPart) := .slice O89 c81 Try.underlying81
def wf_api_Sentry (x : api_Sentry) : Prop := (wfL wf_api_OnPart) x.On ∧ wfS x.If ∧ True
def bk_api_Sentry (x : api_Sentry) : Nat := (bkL bk_api_OnPart) x.On + bkS x.If + 1
theorem c83 : Try.prog.cellsOf 83 = 2 := by kernel_rfl
theorem O83 : Opens Try.prog 83 2 e_api_Sentry wf_api_Sentry bk_api_Sentry := by
  intro m
  induction m with
  | zero => exact .zero c83 (by decide) e_api_Sentry_len
  | succ m ih =>
    refine ⟨c83, by decide, e_api_Sentry_len, ?_⟩
    intro H enc w fuel cs x h hb
    obtain ⟨xs, n, _, rfl, hl, hlen, hf⟩ := DataW.trod_struct Try.underlying83 h
    match xs, hlen, hf, hb with
    | [y0, y1], _, hf, hb =>
      simp only [List.map_cons, List.map_nil, Rows.uptoBulk, Rows.uptoBulkAll] at hb ⊢
      obtain ⟨a0, r0, w0, b0⟩ := (O81 m).fld (hf 0 _ rfl) (by omega)
      obtain ⟨a1, r1, w1, b1⟩ := (O9 m).fld (hf 1 _ rfl) (by omega)
      refine ⟨⟨a0, a1⟩, by rw [hl]; exact c83, ?_, ?_, ?_⟩
      · have g0 : CellsRel w (cs.take 1) ((e_sl e_api_OnPart) a0) := r0
        have g1 : CellsRel w (cs.take (1 + 1)) ((e_sl e_api_OnPart) a0 ++ e_str a1) := g0.app (by simp only [List.length_append, e_sl_len]) r1
        exact g1.all (hl.trans c83)
      · exact ⟨w0, w1, trivial⟩
      · simp only [bk_api_Sentry]; omega
theorem c33 : Try.prog.cellsOf 33 = 1 := by kernel_rfl
theorem O33 : Opens Try.prog 33 1 (e_sl e_api_Sentry) (wfL wf_api_Sentry) (bkL bk_api_Sentry) := .slice O83 c33 Try.underlying33
theorem c4 : Try.prog.cellsOf 4 = 1 := by kernel_rfl
theorem O4 : Opens Try.prog 4 1 e_bool wfB bk1 := .bool c4 Try.underlying4
mutual
def wf_api_Item : api_Item → Prop
  | ⟨ID, Name, Kind, Entry, Exit, Manual, Required, Repeat, Auto, Free, After, Roles, Kids, Table⟩ => wfS ID ∧ wfS Name ∧ (wfI .i64) Kind ∧ (wfL wf_api_Sentry) Entry ∧ (wfL wf_api_Sentry) Exit ∧ wfS Manual ∧ wfS Required ∧ wfS Repeat ∧ wfB Auto ∧ wfB Free ∧ (wfI .i64) After ∧ (wfL wfS) Roles ∧ wfs_api_Item Kids ∧ wfs_api_Item Table ∧ True
def wfs_api_Item : List api_Item → Prop
  | [] => True
  | x :: xs => wf_api_Item x ∧ wfs_api_Item xs
end
mutual
def bk_api_Item : api_Item → Nat
  | ⟨ID, Name, Kind, Entry, Exit, Manual, Required, Repeat, Auto, Free, After, Roles, Kids, Table⟩ => bkS ID + bkS Name + bk1 Kind + (bkL bk_api_Sentry) Entry + (bkL bk_api_Sentry) Exit + bkS Manual + bkS Required + bkS Repeat + bk1 Auto + bk1 Free + bk1 After + (bkL bkS) Roles + bks_api_Item Kids + bks_api_Item Table + 1
def bks_api_Item : List api_Item → Nat
  | [] => 1
  | x :: xs => bk_api_Item x + bks_api_Item xs
end
theorem wfs_api_Item_eq : ∀ xs : List api_Item, wfs_api_Item xs = wfL wf_api_Item xs
  | [] => by simp [wfs_api_Item, wfL]
  | x :: xs => by simp [wfs_api_Item, wfL, wfs_api_Item_eq xs]
theorem bks_api_Item_eq : ∀ xs : List api_Item, bks_api_Item xs = bkL bk_api_Item xs
  | [] => by simp [bks_api_Item, bkL]
  | x :: xs => by simp [bks_api_Item, bkL, bks_api_Item_eq xs]; omega
theorem c36 : Try.prog.cellsOf 36 = 14 := by kernel_rfl
theorem O36 : Opens Try.prog 36 14 e_api_Item wf_api_Item bk_api_Item := by
  intro m
  induction m with
  | zero => exact .zero c36 (by decide) e_api_Item_len
  | succ m ih =>
    have Q34 : OpensB Try.prog 34 1 (e_sl e_api_Item) (wfL wf_api_Item) (bkL bk_api_Item) m := (OpensB.slice ih (by kernel_rfl) Try.underlying34).mono (by omega)
    refine ⟨c36, by decide, e_api_Item_len, ?_⟩
    intro H enc w fuel cs x h hb
    obtain ⟨xs, n, _, rfl, hl, hlen, hf⟩ := DataW.trod_struct Try.underlying36 h
    match xs, hlen, hf, hb with
    | [y0, y1, y2, y3, y4, y5, y6, y7, y8, y9, y10, y11, y12, y13], _, hf, hb =>
      simp only [List.map_cons, List.map_nil, Rows.uptoBulk, Rows.uptoBulkAll] at hb ⊢
      obtain ⟨a0, r0, w0, b0⟩ := (O9 m).fld (hf 0 _ rfl) (by omega)
      obtain ⟨a1, r1, w1, b1⟩ := (O9 m).fld (hf 1 _ rfl) (by omega)
      obtain ⟨a2, r2, w2, b2⟩ := (O3 m).fld (hf 2 _ rfl) (by omega)
      obtain ⟨a3, r3, w3, b3⟩ := (O33 m).fld (hf 3 _ rfl) (by omega)
      obtain ⟨a4, r4, w4, b4⟩ := (O33 m).fld (hf 4 _ rfl) (by omega)
      obtain ⟨a5, r5, w5, b5⟩ := (O9 m).fld (hf 5 _ rfl) (by omega)
      obtain ⟨a6, r6, w6, b6⟩ := (O9 m).fld (hf 6 _ rfl) (by omega)
      obtain ⟨a7, r7, w7, b7⟩ := (O9 m).fld (hf 7 _ rfl) (by omega)
      obtain ⟨a8, r8, w8, b8⟩ := (O4 m).fld (hf 8 _ rfl) (by omega)
      obtain ⟨a9, r9, w9, b9⟩ := (O4 m).fld (hf 9 _ rfl) (by omega)
      obtain ⟨a10, r10, w10, b10⟩ := (O3 m).fld (hf 10 _ rfl) (by omega)
      obtain ⟨a11, r11, w11, b11⟩ := (O31 m).fld (hf 11 _ rfl) (by omega)
      obtain ⟨a12, r12, w12, b12⟩ := Q34.fld (hf 12 _ rfl) (by omega)
      obtain ⟨a13, r13, w13, b13⟩ := Q34.fld (hf 13 _ rfl) (by omega)
      refine ⟨⟨a0, a1, a2, a3, a4, a5, a6, a7, a8, a9, a10, a11, a12, a13⟩, by rw [hl]; exact c36, ?_, ?_, ?_⟩
      · have g0 : CellsRel w (cs.take 1) (e_str a0) := r0
        have g1 : CellsRel w (cs.take (1 + 1)) (e_str a0 ++ e_str a1) := g0.app (by simp only [List.length_append, e_str_len]) r1
        have g2 : CellsRel w (cs.take (2 + 1)) (e_str a0 ++ e_str a1 ++ e_i64 a2) := g1.app (by simp only [List.length_append, e_str_len]) r2
        have g3 : CellsRel w (cs.take (3 + 1)) (e_str a0 ++ e_str a1 ++ e_i64 a2 ++ (e_sl e_api_Sentry) a3) := g2.app (by simp only [List.length_append, e_i64_len, e_str_len]) r3
        have g4 : CellsRel w (cs.take (4 + 1)) (e_str a0 ++ e_str a1 ++ e_i64 a2 ++ (e_sl e_api_Sentry) a3 ++ (e_sl e_api_Sentry) a4) := g3.app (by simp only [List.length_append, e_i64_len, e_sl_len, e_str_len]) r4
        have g5 : CellsRel w (cs.take (5 + 1)) (e_str a0 ++ e_str a1 ++ e_i64 a2 ++ (e_sl e_api_Sentry) a3 ++ (e_sl e_api_Sentry) a4 ++ e_str a5) := g4.app (by simp only [List.length_append, e_i64_len, e_sl_len, e_str_len]) r5
        have g6 : CellsRel w (cs.take (6 + 1)) (e_str a0 ++ e_str a1 ++ e_i64 a2 ++ (e_sl e_api_Sentry) a3 ++ (e_sl e_api_Sentry) a4 ++ e_str a5 ++ e_str a6) := g5.app (by simp only [List.length_append, e_i64_len, e_sl_len, e_str_len]) r6
        have g7 : CellsRel w (cs.take (7 + 1)) (e_str a0 ++ e_str a1 ++ e_i64 a2 ++ (e_sl e_api_Sentry) a3 ++ (e_sl e_api_Sentry) a4 ++ e_str a5 ++ e_str a6 ++ e_str a7) := g6.app (by simp only [List.length_append, e_i64_len, e_sl_len, e_str_len]) r7
        have g8 : CellsRel w (cs.take (8 + 1)) (e_str a0 ++ e_str a1 ++ e_i64 a2 ++ (e_sl e_api_Sentry) a3 ++ (e_sl e_api_Sentry) a4 ++ e_str a5 ++ e_str a6 ++ e_str a7 ++ e_bool a8) := g7.app (by simp only [List.length_append, e_i64_len, e_sl_len, e_str_len]) r8
        have g9 : CellsRel w (cs.take (9 + 1)) (e_str a0 ++ e_str a1 ++ e_i64 a2 ++ (e_sl e_api_Sentry) a3 ++ (e_sl e_api_Sentry) a4 ++ e_str a5 ++ e_str a6 ++ e_str a7 ++ e_bool a8 ++ e_bool a9) := g8.app (by simp only [List.length_append, e_bool_len, e_i64_len, e_sl_len, e_str_len]) r9
        have g10 : CellsRel w (cs.take (10 + 1)) (e_str a0 ++ e_str a1 ++ e_i64 a2 ++ (e_sl e_api_Sentry) a3 ++ (e_sl e_api_Sentry) a4 ++ e_str a5 ++ e_str a6 ++ e_str a7 ++ e_bool a8 ++ e_bool a9 ++ e_i64 a10) := g9.app (by simp only [List.length_append, e_bool_len, e_i64_len, e_sl_len, e_str_len]) r10
        have g11 : CellsRel w (cs.take (11 + 1)) (e_str a0 ++ e_str a1 ++ e_i64 a2 ++ (e_sl e_api_Sentry) a3 ++ (e_sl e_api_Sentry) a4 ++ e_str a5 ++ e_str a6 ++ e_str a7 ++ e_bool a8 ++ e_bool a9 ++ e_i64 a10 ++ (e_sl e_str) a11) := g10.app (by simp only [List.length_append, e_bool_len, e_i64_len, e_sl_len, e_str_len]) r11
        have g12 : CellsRel w (cs.take (12 + 1)) (e_str a0 ++ e_str a1 ++ e_i64 a2 ++ (e_sl e_api_Sentry) a3 ++ (e_sl e_api_Sentry) a4 ++ e_str a5 ++ e_str a6 ++ e_str a7 ++ e_bool a8 ++ e_bool a9 ++ e_i64 a10 ++ (e_sl e_str) a11 ++ (e_sl e_api_Item) a12) := g11.app (by simp only [List.length_append, e_bool_len, e_i64_len, e_sl_len, e_str_len]) r12
        have g13 : CellsRel w (cs.take (13 + 1)) (e_str a0 ++ e_str a1 ++ e_i64 a2 ++ (e_sl e_api_Sentry) a3 ++ (e_sl e_api_Sentry) a4 ++ e_str a5 ++ e_str a6 ++ e_str a7 ++ e_bool a8 ++ e_bool a9 ++ e_i64 a10 ++ (e_sl e_str) a11 ++ (e_sl e_api_Item) a12 ++ (e_sl e_api_Item) a13) := g12.app (by simp only [List.length_append, e_bool_len, e_i64_len, e_sl_len, e_str_len]) r13
        simpa only [e_api_Item, es_api_Item_eq, e_sl] using g13.all (hl.trans c36)
      · simp only [wf_api_Item, wfs_api_Item_eq]; exact ⟨w0, w1, w2, w3, w4, w5, w6, w7, w8, w9, w10, w11, w12, w13, trivial⟩
      · simp only [bk_api_Item, bks_api_Item_eq]; omega
def wf_api_Model (x : api_Model) : Prop := wfS x.ID ∧ wfS x.Name ∧ (wfL wfS) x.Roles ∧ (wfL wf_api_FileItem) x.Files ∧ wf_api_Item x.Plan ∧ True
def bk_api_Model (x : api_Model) : Nat := bkS x.ID + bkS x.Name + (bkL bkS) x.Roles + (bkL bk_api_FileItem) x.Files + bk_api_Item x.Plan + 1
theorem c38 : Try.prog.cellsOf 38 = 18 := by kernel_rfl
theorem O38 : Opens Try.prog 38 18 e_api_Model wf_api_Model bk_api_Model := by
  intro m
  induction m with
  | zero => exact .zero c38 (by decide) e_api_Model_len
  | succ m ih =>
    refine ⟨c38, by decide, e_api_Model_len, ?_⟩
    intro H enc w fuel cs x h hb
    obtain ⟨xs, n, _, rfl, hl, hlen, hf⟩ := DataW.trod_struct Try.underlying38 h
    match xs, hlen, hf, hb with
    | [y0, y1, y2, y3, y4], _, hf, hb =>
      simp only [List.map_cons, List.map_nil, Rows.uptoBulk, Rows.uptoBulkAll] at hb ⊢
      obtain ⟨a0, r0, w0, b0⟩ := (O9 m).fld (hf 0 _ rfl) (by omega)
      obtain ⟨a1, r1, w1, b1⟩ := (O9 m).fld (hf 1 _ rfl) (by omega)
      obtain ⟨a2, r2, w2, b2⟩ := (O31 m).fld (hf 2 _ rfl) (by omega)
      obtain ⟨a3, r3, w3, b3⟩ := (O32 m).fld (hf 3 _ rfl) (by omega)
      obtain ⟨a4, r4, w4, b4⟩ := (O36 m).fld (hf 4 _ rfl) (by omega)
      refine ⟨⟨a0, a1, a2, a3, a4⟩, by rw [hl]; exact c38, ?_, ?_, ?_⟩
      · have g0 : CellsRel w (cs.take 1) (e_str a0) := r0
        have g1 : CellsRel w (cs.take (1 + 1)) (e_str a0 ++ e_str a1) := g0.app (by simp only [List.length_append, e_str_len]) r1
        have g2 : CellsRel w (cs.take (2 + 1)) (e_str a0 ++ e_str a1 ++ (e_sl e_str) a2) := g1.app (by simp only [List.length_append, e_str_len]) r2
        have g3 : CellsRel w (cs.take (3 + 1)) (e_str a0 ++ e_str a1 ++ (e_sl e_str) a2 ++ (e_sl e_api_FileItem) a3) := g2.app (by simp only [List.length_append, e_sl_len, e_str_len]) r3
        have g4 : CellsRel w (cs.take (4 + 14)) (e_str a0 ++ e_str a1 ++ (e_sl e_str) a2 ++ (e_sl e_api_FileItem) a3 ++ e_api_Item a4) := g3.app (by simp only [List.length_append, e_sl_len, e_str_len]) r4
        exact g4.all (hl.trans c38)
      · exact ⟨w0, w1, w2, w3, w4, trivial⟩
      · simp only [bk_api_Model]; omega
end Go.Abs.GenR
