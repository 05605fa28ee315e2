/- Proves Rows.JournalLivesUptoSaid: at every input of bulk at most 1048576 the law JournalLives returns true and leaves its arguments as they were. -/
import Derived.Test.YtdpakmmkponfmaaPlZN
import Derived.Test.YtdpakmmkponfmaaOpZ
import Derived.Test.YtdpakmmkponfmaaAbsM
namespace Go.Proofs.Ytdpakmmkponfmaa.journalLivesLaw
open Go.ChangeShapes Go.WideShapes Go.ChangeAt Go.RowKit Go.Abs Go.Abs.GenZ
set_option linter.unusedVariables false
set_option maxRecDepth 100000
theorem own : ownKnob Try.prog.godebug = none := by kernel_rfl
theorem laidOut : laidOutB Try.prog = true := by kernel_rfl
theorem contract (H : Type) (enc : TypeId × Value → H) (W : World) (base : Nat) (args : Array Value) (ds gs : List (DataW H)) (before : List MemPlace)
    (hval : ∀ (j : Nat) t v, Try.f3.params[j]? = some t → args[j]? = some v → Value.okWide Try.prog W .any base t v)
    (hW : DataW.Whole enc Try.prog Try.f3.params.toList Rows.journalLivesSpec.vars false W args.toList ds gs before) (hk : Rows.uptoSmall H (ds ++ gs) = true) :
    Calls Try.prog 3 args W fun e W' => ∃ v, e = .returned v ∧ Rows.journalLivesSpec.post enc Try.prog Try.f3 false true false false W args v W' := by
  have hW' := hW
  obtain ⟨p, q, hA0, hV, rfl, hfz, hnd⟩ := hW
  have hA : DataW.TrodAll enc Try.prog W 0 (fun _ => true) true Try.f3.params.toList args.toList ds p := hA0
  rw [Try.params3] at hA hval
  obtain ⟨v0, vs0, d0, ds0, p0, q0, hargs, rfl, rfl, h0, r0⟩ := trodAll_cons hA
  obtain ⟨v1, vs1, d1, ds1, p1, q1, rfl, rfl, rfl, h1, r1⟩ := trodAll_cons r0
  obtain ⟨v2, vs2, d2, ds2, p2, q2, rfl, rfl, rfl, h2, r2⟩ := trodAll_cons r1
  obtain ⟨rfl, rfl, rfl⟩ := trodAll_nil r2
  obtain rfl : args = #[v0, v1, v2] := by cases args; simp_all
  obtain ⟨rfl, rfl⟩ := trodVars_none hV
  have s0 : v0.cells.toList = [v0] := by obtain ⟨_, rfl⟩ := okWide_int Try.underlying3 (hval 0 3 v0 rfl rfl); rfl
  have s1 : v1.cells.toList = [v1] := by obtain ⟨_, _, _, rfl⟩ := okWide_slice Try.underlying22 (hval 1 22 v1 rfl rfl); rfl
  have s2 : v2.cells.toList = [v2] := by obtain ⟨_, _, _, rfl⟩ := okWide_slice Try.underlying23 (hval 2 23 v2 rfl rfl); rfl
  obtain ⟨a0, g0, w0, b0⟩ := arg_sc (base := W.heap.size) (g := fun _ => none) O3 (fun x => .int .i64 x) e_i64_eq s0 h0
  obtain ⟨a1, g1, w1, b1⟩ := arg_sl (base := W.heap.size) (g := fun _ => none) O22 s1 h1
  obtain ⟨a2, g2, w2, b2⟩ := arg_sl (base := W.heap.size) (g := fun _ => none) O23 s2 h2
  have hbk : Rows.uptoBulkAll ([d0, d1, d2] ++ []) ≤ 1048576 := of_decide_eq_true hk
  simp only [List.append_nil, Rows.uptoBulkAll] at hbk
  have hplain : ∃ k, Go.Abs.GenZ.dossierlaw04_JournalLives.f k a0 a1 a2 = some true := by
    have key : ∀ (a : List Int), wfL (wfI .u8) a → Go.Abs.U8s a := by
      intro a w s hs
      have h2 := w s hs
      simp [wfI, Lit.wf, IntKind.min, IntKind.max, IntKind.bits, IntKind.signed] at h2
      omega
    have ge : ∀ s, 1 ≤ bk_dossierlaw04_Do s := fun s => by simp only [bk_dossierlaw04_Do]; omega
    have l1 := bkL_len bk1_ge a1
    have l2 := bkL_len ge a2
    refine Go.Abs.GenZ.lives_true a0 a1 a2 (key a1 w1) (by omega) (by omega) (fun s hs => ?_)
    have h1 := bkL_mem bk_dossierlaw04_Do hs
    have h2 := w2 s hs
    have h6 := h2.2.2.1
    have l3 := bkL_len bk1_ge s.B
    have l4 := bkL_len bk1_ge s.Step.B
    have l5 := bkL_len bk1_ge s.Step.Keeps
    have h3 : s.Step.N ≤ 9223372036854775807 := by have := h6.2.1; simp [wfI, Lit.wf, IntKind.min, IntKind.max, IntKind.bits, IntKind.signed] at this; omega
    simp only [bk_dossierlaw04_Do, bk_dossierplain_Step] at h1
    exact ⟨by omega, key s.B h2.2.1, ⟨by omega, key s.Step.B h6.2.2.2.2.1, by omega, h3⟩⟩
  obtain ⟨k, hk'⟩ := hplain
  have hgl : GlobOK W (fun b => b < W.heap.size) := by
    intro b ps h; cases h
  have hc := call_true (Go.Abs.GenZ.dossierlaw04_JournalLives.meets k a0 a1 a2 true hk') [v0, v1, v2] W hgl rfl (by
    intro i h h'
    match i, h with
    | 0, _ => exact g0
    | 1, _ => exact g1
    | 2, _ => exact g2)
  refine Calls.mono hc fun e W' ⟨he, bel⟩ => ?_
  subst he
  exact ⟨_, rfl, close_true hW' rfl rfl rfl Try.underlying4 laidOut (by kernel_rfl) bel⟩
theorem lifted (os : Os) (started : os.Started) (H : Type) (enc : TypeId × Value → H) (F : Stop.Interp) :
    ReturnsInHanded {} Try.checked os 3 .any ((Rows.OpenSpec.upto Rows.journalLivesSpec).pre6 enc Try.prog Try.f3 Rows.journalLivesUptoRow.domain false) (((Rows.OpenSpec.upto Rows.journalLivesSpec).at F).post enc Try.prog Try.f3 false true false false) := by
  refine returnsInHanded_of_cond (C := Try.checked) (s := Rows.OpenSpec.upto Rows.journalLivesSpec) (k := Rows.uptoSmall) rfl own started (by kernel_rfl) Try.func3
    (OpenSpec.witness (enc := enc) (C := Try.checked) (s := Rows.OpenSpec.upto Rows.journalLivesSpec) (k := Rows.uptoSmall) rfl false ⟨#[], #[.int .i64 0, .slice none 0 0, .slice none 0 0], []⟩ 8 (by kernel_rfl) (by kernel_rfl) (by kernel_rfl)
      (x := ([.lit (.int .i64 0), .nil, .nil], [], [])) (by kernel_rfl) rfl (by kernel_rfl)) ?_
  intro W base args ds gs before hval hW _ hk _
  exact contract H enc W base args ds gs before hval hW hk
theorem proved : Rows.JournalLivesUptoSaid :=
  OpenClaim.holds_of_cond 3 Try.f3 rfl rfl rfl rfl rfl rfl rfl ⟨rfl, rfl, rfl, rfl, rfl⟩ rfl rfl rfl rfl rfl (by kernel_rfl) Try.func3 (by kernel_rfl)
    (of_decide_eq_true (by kernel_rfl)) (by unfold Func.isWrapper; first | (rw [if_pos (by decide +kernel)]; kernel_rfl) | (rw [if_neg (by decide +kernel)]; exact ⟨rfl, rfl⟩))
    (fun os started H enc _ F => lifted os started H enc F)
end Go.Proofs.Ytdpakmmkponfmaa.journalLivesLaw
