import Derived.Test.YtkcaljadkfpefaaDoorAbsM
import Derived.Test.YtkcaljadkfpefaaDoorGenQa
import Derived.Test.YtkcaljadkfpefaaDoorRows
set_option linter.unusedVariables false
set_option linter.unusedSimpArgs false
set_option maxRecDepth 100000
namespace Go.Abs.GenQ
open Go.Proofs Go.Proofs.YtkcaljadkfpefaaDoor Go.ChangeShapes Go.WideShapes Go.ChangeAt Go.RowKit Go.Abs
theorem c3 : Tryd.prog.cellsOf 3 = 1 := by kernel_rfl
theorem O3 : Opens Tryd.prog 3 1 e_i64 (wfI .i64) bk1 := .int .i64 _ e_i64_eq c3 Tryd.underlying3
theorem c9 : Tryd.prog.cellsOf 9 = 1 := by kernel_rfl
theorem O9 : Opens Tryd.prog 9 1 e_str wfS bkS := .str c9 Tryd.underlying9
theorem c26 : Tryd.prog.cellsOf 26 = 1 := by kernel_rfl
theorem O26 : Opens Tryd.prog 26 1 (e_sl e_i64) (wfL (wfI .i64)) (bkL bk1) := .slice O3 c26 Tryd.underlying26
def wf_api_Inst (x : api_Inst) : Prop := wfS x.Path ∧ wfS x.Item ∧ (wfI .i64) x.State ∧ (wfI .i64) x.Before ∧ (wfL (wfI .i64)) x.Latches ∧ (wfI .i64) x.Due ∧ True
def bk_api_Inst (x : api_Inst) : Nat := bkS x.Path + bkS x.Item + bk1 x.State + bk1 x.Before + (bkL bk1) x.Latches + bk1 x.Due + 1
theorem c28 : Tryd.prog.cellsOf 28 = 6 := by kernel_rfl
theorem O28 : Opens Tryd.prog 28 6 e_api_Inst wf_api_Inst bk_api_Inst := by
  intro m
  induction m with
  | zero => exact .zero c28 (by decide) e_api_Inst_len
  | succ m ih =>
    refine ⟨c28, by decide, e_api_Inst_len, ?_⟩
    intro H enc w fuel cs x h hb
    obtain ⟨xs, n, _, rfl, hl, hlen, hf⟩ := DataW.trod_struct Tryd.underlying28 h
    match xs, hlen, hf, hb with
    | [y0, y1, y2, y3, y4, y5], _, hf, hb =>
      simp only [List.map_cons, List.map_nil, Rows.uptoBulk, Rows.uptoBulkAll] at hb ⊢
      obtain ⟨a0, r0, w0, b0⟩ := (O9 m).fld (hf 0 _ rfl) (by omega)
      obtain ⟨a1, r1, w1, b1⟩ := (O9 m).fld (hf 1 _ rfl) (by omega)
      obtain ⟨a2, r2, w2, b2⟩ := (O3 m).fld (hf 2 _ rfl) (by omega)
      obtain ⟨a3, r3, w3, b3⟩ := (O3 m).fld (hf 3 _ rfl) (by omega)
      obtain ⟨a4, r4, w4, b4⟩ := (O26 m).fld (hf 4 _ rfl) (by omega)
      obtain ⟨a5, r5, w5, b5⟩ := (O3 m).fld (hf 5 _ rfl) (by omega)
      refine ⟨⟨a0, a1, a2, a3, a4, a5⟩, by rw [hl]; exact c28, ?_, ?_, ?_⟩
      · have g0 : CellsRel w (cs.take 1) (e_str a0) := r0
        have g1 : CellsRel w (cs.take (1 + 1)) (e_str a0 ++ e_str a1) := g0.app (by simp only [List.length_append, e_str_len]) r1
        have g2 : CellsRel w (cs.take (2 + 1)) (e_str a0 ++ e_str a1 ++ e_i64 a2) := g1.app (by simp only [List.length_append, e_str_len]) r2
        have g3 : CellsRel w (cs.take (3 + 1)) (e_str a0 ++ e_str a1 ++ e_i64 a2 ++ e_i64 a3) := g2.app (by simp only [List.length_append, e_i64_len, e_str_len]) r3
        have g4 : CellsRel w (cs.take (4 + 1)) (e_str a0 ++ e_str a1 ++ e_i64 a2 ++ e_i64 a3 ++ (e_sl e_i64) a4) := g3.app (by simp only [List.length_append, e_i64_len, e_str_len]) r4
        have g5 : CellsRel w (cs.take (5 + 1)) (e_str a0 ++ e_str a1 ++ e_i64 a2 ++ e_i64 a3 ++ (e_sl e_i64) a4 ++ e_i64 a5) := g4.app (by simp only [List.length_append, e_i64_len, e_sl_len, e_str_len]) r5
        exact g5.all (hl.trans c28)
      · exact ⟨w0, w1, w2, w3, w4, w5, trivial⟩
      · simp only [bk_api_Inst]; omega
theorem c22 : Tryd.prog.cellsOf 22 = 1 := by kernel_rfl
theorem O22 : Opens Tryd.prog 22 1 (e_sl e_api_Inst) (wfL wf_api_Inst) (bkL bk_api_Inst) := .slice O28 c22 Tryd.underlying22
theorem c4 : Tryd.prog.cellsOf 4 = 1 := by kernel_rfl
theorem O4 : Opens Tryd.prog 4 1 e_bool wfB bk1 := .bool c4 Tryd.underlying4
def wf_api_Value (x : api_Value) : Prop := (wfI .i64) x.Kind ∧ (wfI .i64) x.Int ∧ wfB x.Bool ∧ wfS x.Text ∧ True
def bk_api_Value (x : api_Value) : Nat := bk1 x.Kind + bk1 x.Int + bk1 x.Bool + bkS x.Text + 1
theorem c36 : Tryd.prog.cellsOf 36 = 4 := by kernel_rfl
theorem O36 : Opens Tryd.prog 36 4 e_api_Value wf_api_Value bk_api_Value := by
  intro m
  induction m with
  | zero => exact .zero c36 (by decide) e_api_Value_len
  | succ m ih =>
    refine ⟨c36, by decide, e_api_Value_len, ?_⟩
    intro H enc w fuel cs x h hb
    obtain ⟨xs, n, _, rfl, hl, hlen, hf⟩ := DataW.trod_struct Tryd.underlying36 h
    match xs, hlen, hf, hb with
    | [y0, y1, y2, y3], _, hf, hb =>
      simp only [List.map_cons, List.map_nil, Rows.uptoBulk, Rows.uptoBulkAll] at hb ⊢
      obtain ⟨a0, r0, w0, b0⟩ := (O3 m).fld (hf 0 _ rfl) (by omega)
      obtain ⟨a1, r1, w1, b1⟩ := (O3 m).fld (hf 1 _ rfl) (by omega)
      obtain ⟨a2, r2, w2, b2⟩ := (O4 m).fld (hf 2 _ rfl) (by omega)
      obtain ⟨a3, r3, w3, b3⟩ := (O9 m).fld (hf 3 _ rfl) (by omega)
      refine ⟨⟨a0, a1, a2, a3⟩, by rw [hl]; exact c36, ?_, ?_, ?_⟩
      · have g0 : CellsRel w (cs.take 1) (e_i64 a0) := r0
        have g1 : CellsRel w (cs.take (1 + 1)) (e_i64 a0 ++ e_i64 a1) := g0.app (by simp only [List.length_append, e_i64_len]) r1
        have g2 : CellsRel w (cs.take (2 + 1)) (e_i64 a0 ++ e_i64 a1 ++ e_bool a2) := g1.app (by simp only [List.length_append, e_i64_len]) r2
        have g3 : CellsRel w (cs.take (3 + 1)) (e_i64 a0 ++ e_i64 a1 ++ e_bool a2 ++ e_str a3) := g2.app (by simp only [List.length_append, e_bool_len, e_i64_len]) r3
        exact g3.all (hl.trans c36)
      · exact ⟨w0, w1, w2, w3, trivial⟩
      · simp only [bk_api_Value]; omega
theorem c37 : Tryd.prog.cellsOf 37 = 1 := by kernel_rfl
theorem O37 : Opens Tryd.prog 37 1 (e_sl e_str) (wfL wfS) (bkL bkS) := .slice O9 c37 Tryd.underlying37
def wf_api_Doc (x : api_Doc) : Prop := wfS x.Path ∧ wf_api_Value x.Value ∧ (wfL wfS) x.Refs ∧ True
def bk_api_Doc (x : api_Doc) : Nat := bkS x.Path + bk_api_Value x.Value + (bkL bkS) x.Refs + 1
theorem c39 : Tryd.prog.cellsOf 39 = 6 := by kernel_rfl
theorem O39 : Opens Tryd.prog 39 6 e_api_Doc wf_api_Doc bk_api_Doc := by
  intro m
  induction m with
  | zero => exact .zero c39 (by decide) e_api_Doc_len
  | succ m ih =>
    refine ⟨c39, by decide, e_api_Doc_len, ?_⟩
    intro H enc w fuel cs x h hb
    obtain ⟨xs, n, _, rfl, hl, hlen, hf⟩ := DataW.trod_struct Tryd.underlying39 h
    match xs, hlen, hf, hb with
    | [y0, y1, y2], _, hf, hb =>
      simp only [List.map_cons, List.map_nil, Rows.uptoBulk, Rows.uptoBulkAll] at hb ⊢
      obtain ⟨a0, r0, w0, b0⟩ := (O9 m).fld (hf 0 _ rfl) (by omega)
      obtain ⟨a1, r1, w1, b1⟩ := (O36 m).fld (hf 1 _ rfl) (by omega)
      obtain ⟨a2, r2, w2, b2⟩ := (O37 m).fld (hf 2 _ rfl) (by omega)
      refine ⟨⟨a0, a1, a2⟩, by rw [hl]; exact c39, ?_, ?_, ?_⟩
      · have g0 : CellsRel w (cs.take 1) (e_str a0) := r0
        have g1 : CellsRel w (cs.take (1 + 4)) (e_str a0 ++ e_api_Value a1) := g0.app (by simp only [List.length_append, e_str_len]) r1
        have g2 : CellsRel w (cs.take (5 + 1)) (e_str a0 ++ e_api_Value a1 ++ (e_sl e_str) a2) := g1.app (by simp only [List.length_append, e_api_Value_len, e_str_len]) r2
        exact g2.all (hl.trans c39)
      · exact ⟨w0, w1, w2, trivial⟩
      · simp only [bk_api_Doc]; omega
theorem c23 : Tryd.prog.cellsOf 23 = 1 := by kernel_rfl
theorem O23 : Opens Tryd.prog 23 1 (e_sl e_api_Doc) (wfL wf_api_Doc) (bkL bk_api_Doc) := .slice O39 c23 Tryd.underlying23
def wf_api_Case (x : api_Case) : Prop := (wfI .i64) x.ID ∧ wfS x.Model ∧ (wfL wf_api_Inst) x.Insts ∧ (wfL wf_api_Doc) x.Docs ∧ (wfI .i64) x.Clock ∧ True
def bk_api_Case (x : api_Case) : Nat := bk1 x.ID + bkS x.Model + (bkL bk_api_Inst) x.Insts + (bkL bk_api_Doc) x.Docs + bk1 x.Clock + 1
theorem c25 : Tryd.prog.cellsOf 25 = 5 := by kernel_rfl
theorem O25 : Opens Tryd.prog 25 5 e_api_Case wf_api_Case bk_api_Case := by
  intro m
  induction m with
  | zero => exact .zero c25 (by decide) e_api_Case_len
  | succ m ih =>
    refine ⟨c25, by decide, e_api_Case_len, ?_⟩
    intro H enc w fuel cs x h hb
    obtain ⟨xs, n, _, rfl, hl, hlen, hf⟩ := DataW.trod_struct Tryd.underlying25 h
    match xs, hlen, hf, hb with
    | [y0, y1, y2, y3, y4], _, hf, hb =>
      simp only [List.map_cons, List.map_nil, Rows.uptoBulk, Rows.uptoBulkAll] at hb ⊢
      obtain ⟨a0, r0, w0, b0⟩ := (O3 m).fld (hf 0 _ rfl) (by omega)
      obtain ⟨a1, r1, w1, b1⟩ := (O9 m).fld (hf 1 _ rfl) (by omega)
      obtain ⟨a2, r2, w2, b2⟩ := (O22 m).fld (hf 2 _ rfl) (by omega)
      obtain ⟨a3, r3, w3, b3⟩ := (O23 m).fld (hf 3 _ rfl) (by omega)
      obtain ⟨a4, r4, w4, b4⟩ := (O3 m).fld (hf 4 _ rfl) (by omega)
      refine ⟨⟨a0, a1, a2, a3, a4⟩, by rw [hl]; exact c25, ?_, ?_, ?_⟩
      · have g0 : CellsRel w (cs.take 1) (e_i64 a0) := r0
        have g1 : CellsRel w (cs.take (1 + 1)) (e_i64 a0 ++ e_str a1) := g0.app (by simp only [List.length_append, e_i64_len]) r1
        have g2 : CellsRel w (cs.take (2 + 1)) (e_i64 a0 ++ e_str a1 ++ (e_sl e_api_Inst) a2) := g1.app (by simp only [List.length_append, e_i64_len, e_str_len]) r2
        have g3 : CellsRel w (cs.take (3 + 1)) (e_i64 a0 ++ e_str a1 ++ (e_sl e_api_Inst) a2 ++ (e_sl e_api_Doc) a3) := g2.app (by simp only [List.length_append, e_i64_len, e_sl_len, e_str_len]) r3
        have g4 : CellsRel w (cs.take (4 + 1)) (e_i64 a0 ++ e_str a1 ++ (e_sl e_api_Inst) a2 ++ (e_sl e_api_Doc) a3 ++ e_i64 a4) := g3.app (by simp only [List.length_append, e_i64_len, e_sl_len, e_str_len]) r4
        exact g4.all (hl.trans c25)
      · exact ⟨w0, w1, w2, w3, w4, trivial⟩
      · simp only [bk_api_Case]; omega
end Go.Abs.GenQ
