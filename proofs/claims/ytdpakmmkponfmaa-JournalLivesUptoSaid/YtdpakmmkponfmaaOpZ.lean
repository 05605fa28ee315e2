import Derived.Test.YtdpakmmkponfmaaAbsM
import Derived.Test.YtdpakmmkponfmaaGenZg
import Derived.Test.YtdpakmmkponfmaaRows
set_option linter.unusedVariables false
set_option linter.unusedSimpArgs false
set_option maxRecDepth 100000
namespace Go.Abs.GenZ
open Go.Proofs Go.Proofs.Ytdpakmmkponfmaa Go.ChangeShapes Go.WideShapes Go.ChangeAt Go.RowKit Go.Abs
theorem c3 : Try.prog.cellsOf 3 = 1 := by kernel_rfl
theorem O3 : Opens Try.prog 3 1 e_i64 (wfI .i64) bk1 := .int .i64 _ e_i64_eq c3 Try.underlying3
theorem c5 : Try.prog.cellsOf 5 = 1 := by kernel_rfl
theorem O5 : Opens Try.prog 5 1 e_u8 (wfI .u8) bk1 := .int .u8 _ e_u8_eq c5 Try.underlying5
theorem c22 : Try.prog.cellsOf 22 = 1 := by kernel_rfl
theorem O22 : Opens Try.prog 22 1 (e_sl e_u8) (wfL (wfI .u8)) (bkL bk1) := .slice O5 c22 Try.underlying22
theorem c9 : Try.prog.cellsOf 9 = 1 := by kernel_rfl
theorem O9 : Opens Try.prog 9 1 e_str wfS bkS := .str c9 Try.underlying9
theorem c38 : Try.prog.cellsOf 38 = 1 := by kernel_rfl
theorem O38 : Opens Try.prog 38 1 (e_sl e_i64) (wfL (wfI .i64)) (bkL bk1) := .slice O3 c38 Try.underlying38
def wf_dossierplain_Step (x : dossierplain_Step) : Prop := (wfI .i64) x.Op ∧ (wfI .i64) x.N ∧ wfS x.Name ∧ wfS x.To ∧ (wfL (wfI .u8)) x.B ∧ (wfL (wfI .i64)) x.Keeps ∧ True
def bk_dossierplain_Step (x : dossierplain_Step) : Nat := bk1 x.Op + bk1 x.N + bkS x.Name + bkS x.To + (bkL bk1) x.B + (bkL bk1) x.Keeps + 1
theorem c40 : Try.prog.cellsOf 40 = 6 := by kernel_rfl
theorem O40 : Opens Try.prog 40 6 e_dossierplain_Step wf_dossierplain_Step bk_dossierplain_Step := by
  intro m
  induction m with
  | zero => exact .zero c40 (by decide) e_dossierplain_Step_len
  | succ m ih =>
    refine ⟨c40, by decide, e_dossierplain_Step_len, ?_⟩
    intro H enc w fuel cs x h hb
    obtain ⟨xs, n, _, rfl, hl, hlen, hf⟩ := DataW.trod_struct Try.underlying40 h
    match xs, hlen, hf, hb with
    | [y0, y1, y2, y3, y4, y5], _, hf, hb =>
      simp only [List.map_cons, List.map_nil, Rows.uptoBulk, Rows.uptoBulkAll] at hb ⊢
      obtain ⟨a0, r0, w0, b0⟩ := (O3 m).fld (hf 0 _ rfl) (by omega)
      obtain ⟨a1, r1, w1, b1⟩ := (O3 m).fld (hf 1 _ rfl) (by omega)
      obtain ⟨a2, r2, w2, b2⟩ := (O9 m).fld (hf 2 _ rfl) (by omega)
      obtain ⟨a3, r3, w3, b3⟩ := (O9 m).fld (hf 3 _ rfl) (by omega)
      obtain ⟨a4, r4, w4, b4⟩ := (O22 m).fld (hf 4 _ rfl) (by omega)
      obtain ⟨a5, r5, w5, b5⟩ := (O38 m).fld (hf 5 _ rfl) (by omega)
      refine ⟨⟨a0, a1, a2, a3, a4, a5⟩, by rw [hl]; exact c40, ?_, ?_, ?_⟩
      · have g0 : CellsRel w (cs.take 1) (e_i64 a0) := r0
        have g1 : CellsRel w (cs.take (1 + 1)) (e_i64 a0 ++ e_i64 a1) := g0.app (by simp only [List.length_append, e_i64_len]) r1
        have g2 : CellsRel w (cs.take (2 + 1)) (e_i64 a0 ++ e_i64 a1 ++ e_str a2) := g1.app (by simp only [List.length_append, e_i64_len]) r2
        have g3 : CellsRel w (cs.take (3 + 1)) (e_i64 a0 ++ e_i64 a1 ++ e_str a2 ++ e_str a3) := g2.app (by simp only [List.length_append, e_i64_len, e_str_len]) r3
        have g4 : CellsRel w (cs.take (4 + 1)) (e_i64 a0 ++ e_i64 a1 ++ e_str a2 ++ e_str a3 ++ (e_sl e_u8) a4) := g3.app (by simp only [List.length_append, e_i64_len, e_str_len]) r4
        have g5 : CellsRel w (cs.take (5 + 1)) (e_i64 a0 ++ e_i64 a1 ++ e_str a2 ++ e_str a3 ++ (e_sl e_u8) a4 ++ (e_sl e_i64) a5) := g4.app (by simp only [List.length_append, e_i64_len, e_sl_len, e_str_len]) r5
        exact g5.all (hl.trans c40)
      · exact ⟨w0, w1, w2, w3, w4, w5, trivial⟩
      · simp only [bk_dossierplain_Step]; omega
def wf_dossierlaw04_Do (x : dossierlaw04_Do) : Prop := (wfI .i64) x.Op ∧ (wfL (wfI .u8)) x.B ∧ wf_dossierplain_Step x.Step ∧ True
def bk_dossierlaw04_Do (x : dossierlaw04_Do) : Nat := bk1 x.Op + (bkL bk1) x.B + bk_dossierplain_Step x.Step + 1
theorem c42 : Try.prog.cellsOf 42 = 8 := by kernel_rfl
theorem O42 : Opens Try.prog 42 8 e_dossierlaw04_Do wf_dossierlaw04_Do bk_dossierlaw04_Do := by
  intro m
  induction m with
  | zero => exact .zero c42 (by decide) e_dossierlaw04_Do_len
  | succ m ih =>
    refine ⟨c42, by decide, e_dossierlaw04_Do_len, ?_⟩
    intro H enc w fuel cs x h hb
    obtain ⟨xs, n, _, rfl, hl, hlen, hf⟩ := DataW.trod_struct Try.underlying42 h
    match xs, hlen, hf, hb with
    | [y0, y1, y2], _, hf, hb =>
      simp only [List.map_cons, List.map_nil, Rows.uptoBulk, Rows.uptoBulkAll] at hb ⊢
      obtain ⟨a0, r0, w0, b0⟩ := (O3 m).fld (hf 0 _ rfl) (by omega)
      obtain ⟨a1, r1, w1, b1⟩ := (O22 m).fld (hf 1 _ rfl) (by omega)
      obtain ⟨a2, r2, w2, b2⟩ := (O40 m).fld (hf 2 _ rfl) (by omega)
      refine ⟨⟨a0, a1, a2⟩, by rw [hl]; exact c42, ?_, ?_, ?_⟩
      · have g0 : CellsRel w (cs.take 1) (e_i64 a0) := r0
        have g1 : CellsRel w (cs.take (1 + 1)) (e_i64 a0 ++ (e_sl e_u8) a1) := g0.app (by simp only [List.length_append, e_i64_len]) r1
        have g2 : CellsRel w (cs.take (2 + 6)) (e_i64 a0 ++ (e_sl e_u8) a1 ++ e_dossierplain_Step a2) := g1.app (by simp only [List.length_append, e_i64_len, e_sl_len]) r2
        exact g2.all (hl.trans c42)
      · exact ⟨w0, w1, w2, trivial⟩
      · simp only [bk_dossierlaw04_Do]; omega
theorem c23 : Try.prog.cellsOf 23 = 1 := by kernel_rfl
theorem O23 : Opens Try.prog 23 1 (e_sl e_dossierlaw04_Do) (wfL wf_dossierlaw04_Do) (bkL bk_dossierlaw04_Do) := .slice O42 c23 Try.underlying23
end Go.Abs.GenZ
