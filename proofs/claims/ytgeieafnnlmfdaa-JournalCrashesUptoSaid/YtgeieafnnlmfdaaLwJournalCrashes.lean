/- Proves Rows.JournalCrashesUptoSaid: at every input of bulk at most 1048576 the law JournalCrashes returns true and leaves its arguments as they were. -/
import Derived.Test.YtgeieafnnlmfdaaPlKK
import Derived.Test.YtgeieafnnlmfdaaOpK
import Derived.Test.YtgeieafnnlmfdaaAbsM
namespace Go.Proofs.Ytgeieafnnlmfdaa.journalCrashesLaw
open Go.ChangeShapes Go.WideShapes Go.ChangeAt Go.RowKit Go.Abs Go.Abs.GenK
set_option linter.unusedVariables false
set_option maxRecDepth 100000
theorem own : ownKnob Try.prog.godebug = none := by kernel_rfl
theorem laidOut : laidOutB Try.prog = true := by kernel_rfl
theorem contract (H : Type) (enc : TypeId × Value → H) (W : World) (base : Nat) (args : Array Value) (ds gs : List (DataW H)) (before : List MemPlace)
    (hval : ∀ (j : Nat) t v, Try.f4.params[j]? = some t → args[j]? = some v → Value.okWide Try.prog W .any base t v)
    (hW : DataW.Whole enc Try.prog Try.f4.params.toList Rows.journalCrashesSpec.vars false W args.toList ds gs before) (hk : Rows.uptoSmall H (ds ++ gs) = true) :
    Calls Try.prog 4 args W fun e W' => ∃ v, e = .returned v ∧ Rows.journalCrashesSpec.post enc Try.prog Try.f4 false true false false W args v W' := by
  have hW' := hW
  obtain ⟨p, q, hA0, hV, rfl, hfz, hnd⟩ := hW
  have hA : DataW.TrodAll enc Try.prog W 0 (fun _ => true) true Try.f4.params.toList args.toList ds p := hA0
  rw [Try.params4] at hA hval
  obtain ⟨v0, vs0, d0, ds0, p0, q0, hargs, rfl, rfl, h0, r0⟩ := trodAll_cons hA
  obtain ⟨v1, vs1, d1, ds1, p1, q1, rfl, rfl, rfl, h1, r1⟩ := trodAll_cons r0
  obtain ⟨v2, vs2, d2, ds2, p2, q2, rfl, rfl, rfl, h2, r2⟩ := trodAll_cons r1
  obtain ⟨v3, vs3, d3, ds3, p3, q3, rfl, rfl, rfl, h3, r3⟩ := trodAll_cons r2
  obtain ⟨v4, vs4, d4, ds4, p4, q4, rfl, rfl, rfl, h4, r4⟩ := trodAll_cons r3
  obtain ⟨v5, vs5, d5, ds5, p5, q5, rfl, rfl, rfl, h5, r5⟩ := trodAll_cons r4
  obtain ⟨v6, vs6, d6, ds6, p6, q6, rfl, rfl, rfl, h6, r6⟩ := trodAll_cons r5
  obtain ⟨rfl, rfl, rfl⟩ := trodAll_nil r6
  obtain rfl : args = #[v0, v1, v2, v3, v4, v5, v6] := by cases args; simp_all
  obtain ⟨rfl, rfl⟩ := trodVars_none hV
  have s0 : v0.cells.toList = [v0] := by obtain ⟨_, _, _, rfl⟩ := okWide_slice Try.underlying25 (hval 0 25 v0 rfl rfl); rfl
  have s1 : v1.cells.toList = [v1] := by obtain ⟨_, _, _, rfl⟩ := okWide_slice Try.underlying22 (hval 1 22 v1 rfl rfl); rfl
  have s2 : v2.cells.toList = [v2] := by obtain ⟨_, rfl⟩ := okWide_bool Try.underlying4 (hval 2 4 v2 rfl rfl); rfl
  have s3 : v3.cells.toList = [v3] := by obtain ⟨_, rfl⟩ := okWide_int Try.underlying3 (hval 3 3 v3 rfl rfl); rfl
  have s4 : v4.cells.toList = [v4] := by obtain ⟨_, _, _, rfl⟩ := okWide_slice Try.underlying42 (hval 4 42 v4 rfl rfl); rfl
  have s5 : v5.cells.toList = [v5] := by obtain ⟨_, rfl⟩ := okWide_int Try.underlying3 (hval 5 3 v5 rfl rfl); rfl
  have s6 : v6.cells.toList = [v6] := by obtain ⟨_, _, _, rfl⟩ := okWide_slice Try.underlying42 (hval 6 42 v6 rfl rfl); rfl
  obtain ⟨a0, g0, w0, b0⟩ := arg_sl (base := W.heap.size) (g := fun _ => none) O25 s0 h0
  obtain ⟨a1, g1, w1, b1⟩ := arg_sl (base := W.heap.size) (g := fun _ => none) O22 s1 h1
  obtain ⟨a2, g2, w2, b2⟩ := arg_sc (base := W.heap.size) (g := fun _ => none) O4 (fun x => .bool x) e_bool_eq s2 h2
  obtain ⟨a3, g3, w3, b3⟩ := arg_sc (base := W.heap.size) (g := fun _ => none) O3 (fun x => .int .i64 x) e_i64_eq s3 h3
  obtain ⟨a4, g4, w4, b4⟩ := arg_sl (base := W.heap.size) (g := fun _ => none) O42 s4 h4
  obtain ⟨a5, g5, w5, b5⟩ := arg_sc (base := W.heap.size) (g := fun _ => none) O3 (fun x => .int .i64 x) e_i64_eq s5 h5
  obtain ⟨a6, g6, w6, b6⟩ := arg_sl (base := W.heap.size) (g := fun _ => none) O42 s6 h6
  have hbk : Rows.uptoBulkAll ([d0, d1, d2, d3, d4, d5, d6] ++ []) ≤ 1048576 := of_decide_eq_true hk
  simp only [List.append_nil, Rows.uptoBulkAll] at hbk
  have hplain : ∃ k, Go.Abs.GenK.dossierlaw04_JournalCrashes.f k a0 a1 a2 a3 a4 a5 a6 = some true := by
    have key : ∀ (a : List Int), wfL (wfI .u8) a → Go.Abs.U8s a := by
      intro a w s hs
      have h2 := w s hs
      simp [wfI, Lit.wf, IntKind.min, IntKind.max, IntKind.bits, IntKind.signed] at h2
      omega
    have l0 := bkL_len (bk := bkL bk1) (fun x => bkL_ge x) a0
    exact Go.Abs.GenK.crashes_true a0 a1 a2 a3 a4 a5 a6 (fun a ha => key a (w0 a ha)) (by omega) (key a1 w1)
  obtain ⟨k, hk'⟩ := hplain
  have hgl : GlobOK W (fun b => b < W.heap.size) := by
    intro b ps h; cases h
  have hc := call_true (Go.Abs.GenK.dossierlaw04_JournalCrashes.meets k a0 a1 a2 a3 a4 a5 a6 true hk') [v0, v1, v2, v3, v4, v5, v6] W hgl rfl (by
    intro i h h'
    match i, h with
    | 0, _ => exact g0
    | 1, _ => exact g1
    | 2, _ => exact g2
    | 3, _ => exact g3
    | 4, _ => exact g4
    | 5, _ => exact g5
    | 6, _ => exact g6)
  refine Calls.mono hc fun e W' ⟨he, bel⟩ => ?_
  subst he
  exact ⟨_, rfl, close_true hW' rfl rfl rfl Try.underlying4 laidOut (by kernel_rfl) bel⟩
theorem lifted (os : Os) (started : os.Started) (H : Type) (enc : TypeId × Value → H) (F : Stop.Interp) :
    ReturnsInHanded {} Try.checked os 4 .any ((Rows.OpenSpec.upto Rows.journalCrashesSpec).pre6 enc Try.prog Try.f4 Rows.journalCrashesUptoRow.domain false) (((Rows.OpenSpec.upto Rows.journalCrashesSpec).at F).post enc Try.prog Try.f4 false true false false) := by
  refine returnsInHanded_of_cond (C := Try.checked) (s := Rows.OpenSpec.upto Rows.journalCrashesSpec) (k := Rows.uptoSmall) rfl own started (by kernel_rfl) Try.func4
    (OpenSpec.witness (enc := enc) (C := Try.checked) (s := Rows.OpenSpec.upto Rows.journalCrashesSpec) (k := Rows.uptoSmall) rfl false ⟨#[], #[.slice none 0 0, .slice none 0 0, .bool false, .int .i64 0, .slice none 0 0, .int .i64 0, .slice none 0 0], []⟩ 8 (by kernel_rfl) (by kernel_rfl) (by kernel_rfl)
      (x := ([.nil, .nil, .lit (.bool false), .lit (.int .i64 0), .nil, .lit (.int .i64 0), .nil], [], [])) (by kernel_rfl) rfl (by kernel_rfl)) ?_
  intro W base args ds gs before hval hW _ hk _
  exact contract H enc W base args ds gs before hval hW hk
theorem proved : Rows.JournalCrashesUptoSaid :=
  OpenClaim.holds_of_cond 4 Try.f4 rfl rfl rfl rfl rfl rfl rfl ⟨rfl, rfl, rfl, rfl, rfl⟩ rfl rfl rfl rfl rfl (by kernel_rfl) Try.func4 (by kernel_rfl)
    (of_decide_eq_true (by kernel_rfl)) (by unfold Func.isWrapper; first | (rw [if_pos (by decide +kernel)]; kernel_rfl) | (rw [if_neg (by decide +kernel)]; exact ⟨rfl, rfl⟩))
    (fun os started H enc _ F => lifted os started H enc F)
end Go.Proofs.Ytgeieafnnlmfdaa.journalCrashesLaw
