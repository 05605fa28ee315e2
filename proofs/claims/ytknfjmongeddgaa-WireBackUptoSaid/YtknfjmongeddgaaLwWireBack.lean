/- Proves Rows.WireBackUptoSaid: at every input of bulk at most 1048576 the law WireBack returns true and leaves its arguments as they were. -/
import Derived.Test.YtknfjmongeddgaaPlBack2
import Derived.Test.YtknfjmongeddgaaAbsM
namespace Go.Proofs.Ytknfjmongeddgaa.wireBackLaw
open Go.ChangeShapes Go.WideShapes Go.ChangeAt Go.RowKit Go.Abs
set_option linter.unusedVariables false
set_option maxRecDepth 100000
theorem own : ownKnob Try.prog.godebug = none := by kernel_rfl
theorem laidOut : laidOutB Try.prog = true := by kernel_rfl
theorem c3 : Try.prog.cellsOf 3 = 1 := by kernel_rfl
theorem O3 : Opens Try.prog 3 1 e_i64 (wfI .i64) bk1 := .int .i64 _ e_i64_eq c3 Try.underlying3
theorem c9 : Try.prog.cellsOf 9 = 1 := by kernel_rfl
theorem O9 : Opens Try.prog 9 1 e_str wfS bkS := .str c9 Try.underlying9
theorem c4 : Try.prog.cellsOf 4 = 1 := by kernel_rfl
theorem O4 : Opens Try.prog 4 1 e_bool wfB bk1 := .bool c4 Try.underlying4
theorem c5 : Try.prog.cellsOf 5 = 1 := by kernel_rfl
theorem O5 : Opens Try.prog 5 1 e_u8 (wfI .u8) bk1 := .int .u8 _ e_u8_eq c5 Try.underlying5
theorem c22 : Try.prog.cellsOf 22 = 1 := by kernel_rfl
theorem O22 : Opens Try.prog 22 1 (e_sl e_u8) (wfL (wfI .u8)) (bkL bk1) := .slice O5 c22 Try.underlying22
theorem contract (H : Type) (enc : TypeId × Value → H) (W : World) (base : Nat) (args : Array Value) (ds gs : List (DataW H)) (before : List MemPlace)
    (hval : ∀ (j : Nat) t v, Try.f6.params[j]? = some t → args[j]? = some v → Value.okWide Try.prog W .any base t v)
    (hW : DataW.Whole enc Try.prog Try.f6.params.toList Rows.wireBackSpec.vars false W args.toList ds gs before) (hk : Rows.uptoSmall H (ds ++ gs) = true) :
    Calls Try.prog 6 args W fun e W' => ∃ v, e = .returned v ∧ Rows.wireBackSpec.post enc Try.prog Try.f6 false true false false W args v W' := by
  have hW' := hW
  obtain ⟨p, q, hA0, hV, rfl, hfz, hnd⟩ := hW
  have hA : DataW.TrodAll enc Try.prog W 0 (fun _ => true) true Try.f6.params.toList args.toList ds p := hA0
  rw [Try.params6] at hA hval
  obtain ⟨v0, vs0, d0, ds0, p0, q0, hargs, rfl, rfl, h0, r0⟩ := trodAll_cons hA
  obtain ⟨v1, vs1, d1, ds1, p1, q1, rfl, rfl, rfl, h1, r1⟩ := trodAll_cons r0
  obtain ⟨v2, vs2, d2, ds2, p2, q2, rfl, rfl, rfl, h2, r2⟩ := trodAll_cons r1
  obtain ⟨v3, vs3, d3, ds3, p3, q3, rfl, rfl, rfl, h3, r3⟩ := trodAll_cons r2
  obtain ⟨rfl, rfl, rfl⟩ := trodAll_nil r3
  obtain rfl : args = #[v0, v1, v2, v3] := by cases args; simp_all
  obtain ⟨rfl, rfl⟩ := trodVars_none hV
  have s0 : v0.cells.toList = [v0] := by obtain ⟨_, rfl⟩ := okWide_int Try.underlying3 (hval 0 3 v0 rfl rfl); rfl
  have s1 : v1.cells.toList = [v1] := by obtain ⟨_, rfl⟩ := okWide_string Try.underlying9 (hval 1 9 v1 rfl rfl); rfl
  have s2 : v2.cells.toList = [v2] := by obtain ⟨_, rfl⟩ := okWide_bool Try.underlying4 (hval 2 4 v2 rfl rfl); rfl
  have s3 : v3.cells.toList = [v3] := by obtain ⟨_, _, _, rfl⟩ := okWide_slice Try.underlying22 (hval 3 22 v3 rfl rfl); rfl
  obtain ⟨a0, g0, w0, b0⟩ := arg_sc (base := W.heap.size) (g := fun _ => none) O3 (fun x => .int .i64 x) e_i64_eq s0 h0
  obtain ⟨a1, g1, w1, b1⟩ := arg_sc (base := W.heap.size) (g := fun _ => none) O9 (fun x => .string x) e_str_eq s1 h1
  obtain ⟨a2, g2, w2, b2⟩ := arg_sc (base := W.heap.size) (g := fun _ => none) O4 (fun x => .bool x) e_bool_eq s2 h2
  obtain ⟨a3, g3, w3, b3⟩ := arg_sl (base := W.heap.size) (g := fun _ => none) O22 s3 h3
  have hbk : Rows.uptoBulkAll ([d0, d1, d2, d3] ++ []) ≤ 1048576 := of_decide_eq_true hk
  simp only [List.append_nil, Rows.uptoBulkAll] at hbk
  have hplain : ∃ k, Go.Abs.GenA.dossierlaw02_WireBack.f k a0 a1 a2 a3 = some true := by
    have l3 := sum_le bk1 bk1_ge a3
    simp only [bkL] at b3
    simp only [bkS] at b1
    refine ⟨40, Go.Abs.GenA.wireBack_true a0 a1 a2 a3 ?_ (by omega) (by unfold Go.Abs.GenA.Lim; omega) ?_ (by omega)⟩
    · simp [wfI, Lit.wf, IntKind.min, IntKind.max, IntKind.signed, IntKind.bits] at w0; unfold Go.Abs.GenA.I64; omega
    · intro b hb
      have := w3 b hb
      simp [wfI, Lit.wf, IntKind.min, IntKind.max, IntKind.signed, IntKind.bits] at this; omega
  obtain ⟨k, hk'⟩ := hplain
  have hc := call_true (Go.Abs.GenA.dossierlaw02_WireBack.meets k a0 a1 a2 a3 true hk') [v0, v1, v2, v3] W rfl (by
    intro i h h'
    match i, h with
    | 0, _ => exact g0
    | 1, _ => exact g1
    | 2, _ => exact g2
    | 3, _ => exact g3)
  refine Calls.mono hc fun e W' ⟨he, bel⟩ => ?_
  subst he
  exact ⟨_, rfl, close_true hW' rfl rfl rfl Try.underlying4 laidOut (by kernel_rfl) bel⟩
theorem lifted (os : Os) (started : os.Started) (H : Type) (enc : TypeId × Value → H) (F : Stop.Interp) :
    ReturnsInHanded {} Try.checked os 6 .any ((Rows.OpenSpec.upto Rows.wireBackSpec).pre6 enc Try.prog Try.f6 Rows.wireBackUptoRow.domain false) (((Rows.OpenSpec.upto Rows.wireBackSpec).at F).post enc Try.prog Try.f6 false true false false) := by
  refine returnsInHanded_of_cond (C := Try.checked) (s := Rows.OpenSpec.upto Rows.wireBackSpec) (k := Rows.uptoSmall) rfl own started (by kernel_rfl) Try.func6
    (OpenSpec.witness (enc := enc) (C := Try.checked) (s := Rows.OpenSpec.upto Rows.wireBackSpec) (k := Rows.uptoSmall) rfl false ⟨#[], #[.int .i64 0, .string .empty, .bool false, .slice none 0 0], []⟩ 8 (by kernel_rfl) (by kernel_rfl) (by kernel_rfl)
      (x := ([.lit (.int .i64 0), .lit (.string []), .lit (.bool false), .nil], [], [])) (by kernel_rfl) rfl (by kernel_rfl)) ?_
  intro W base args ds gs before hval hW _ hk _
  exact contract H enc W base args ds gs before hval hW hk
theorem proved : Rows.WireBackUptoSaid :=
  OpenClaim.holds_of_cond 6 Try.f6 rfl rfl rfl rfl rfl rfl rfl ⟨rfl, rfl, rfl, rfl, rfl⟩ rfl rfl rfl rfl rfl (by kernel_rfl) Try.func6 (by kernel_rfl)
    (of_decide_eq_true (by kernel_rfl)) (by unfold Func.isWrapper; first | (rw [if_pos (by decide +kernel)]; kernel_rfl) | (rw [if_neg (by decide +kernel)]; exact ⟨rfl, rfl⟩))
    (fun os started H enc _ F => lifted os started H enc F)
end Go.Proofs.Ytknfjmongeddgaa.wireBackLaw
