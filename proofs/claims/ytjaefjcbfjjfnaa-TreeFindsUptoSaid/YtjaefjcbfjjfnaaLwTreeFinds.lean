/- Proves Rows.TreeFindsUptoSaid: at every input of bulk at most 1048576 the law TreeFinds returns true and leaves its arguments as they were. -/
import Derived.Test.YtjaefjcbfjjfnaaPlTreeC
import Derived.Test.YtjaefjcbfjjfnaaOpG
import Derived.Test.YtjaefjcbfjjfnaaAbsM
namespace Go.Proofs.Ytjaefjcbfjjfnaa.treeFindsLaw
open Go.ChangeShapes Go.WideShapes Go.ChangeAt Go.RowKit Go.Abs Go.Abs.GenG
set_option linter.unusedVariables false
set_option maxRecDepth 100000
theorem own : ownKnob Try.prog.godebug = none := by kernel_rfl
theorem laidOut : laidOutB Try.prog = true := by kernel_rfl
theorem contract (H : Type) (enc : TypeId × Value → H) (W : World) (base : Nat) (args : Array Value) (ds gs : List (DataW H)) (before : List MemPlace)
    (hval : ∀ (j : Nat) t v, Try.f3.params[j]? = some t → args[j]? = some v → Value.okWide Try.prog W .any base t v)
    (hW : DataW.Whole enc Try.prog Try.f3.params.toList Rows.treeFindsSpec.vars false W args.toList ds gs before) (hk : Rows.uptoSmall H (ds ++ gs) = true) :
    Calls Try.prog 3 args W fun e W' => ∃ v, e = .returned v ∧ Rows.treeFindsSpec.post enc Try.prog Try.f3 false true false false W args v W' := by
  have hW' := hW
  obtain ⟨p, q, hA0, hV, rfl, hfz, hnd⟩ := hW
  have hA : DataW.TrodAll enc Try.prog W 0 (fun _ => true) true Try.f3.params.toList args.toList ds p := hA0
  rw [Try.params3] at hA hval
  obtain ⟨v0, vs0, d0, ds0, p0, q0, hargs, rfl, rfl, h0, r0⟩ := trodAll_cons hA
  obtain ⟨v1, vs1, d1, ds1, p1, q1, rfl, rfl, rfl, h1, r1⟩ := trodAll_cons r0
  obtain ⟨v2, vs2, d2, ds2, p2, q2, rfl, rfl, rfl, h2, r2⟩ := trodAll_cons r1
  obtain ⟨v3, vs3, d3, ds3, p3, q3, rfl, rfl, rfl, h3, r3⟩ := trodAll_cons r2
  obtain ⟨rfl, rfl, rfl⟩ := trodAll_nil r3
  obtain rfl : args = #[v0, v1, v2, v3] := by cases args; simp_all
  obtain ⟨rfl, rfl⟩ := trodVars_none hV
  obtain ⟨s0, z0, _⟩ := okWide_struct Try.underlying25 (hval 0 25 v0 rfl rfl)
  obtain ⟨s1, z1, _⟩ := okWide_struct Try.underlying25 (hval 1 25 v1 rfl rfl)
  have s2 : v2.cells.toList = [v2] := by obtain ⟨_, rfl⟩ := okWide_string Try.underlying9 (hval 2 9 v2 rfl rfl); rfl
  have s3 : v3.cells.toList = [v3] := by obtain ⟨_, rfl⟩ := okWide_string Try.underlying9 (hval 3 9 v3 rfl rfl); rfl
  obtain ⟨a0, g0, w0, b0⟩ := arg_agg (base := W.heap.size) (g := fun _ => none) O25 z0 h0
  rw [e_api_Case_eq] at g0
  obtain ⟨a1, g1, w1, b1⟩ := arg_agg (base := W.heap.size) (g := fun _ => none) O25 z1 h1
  rw [e_api_Case_eq] at g1
  obtain ⟨a2, g2, w2, b2⟩ := arg_sc (base := W.heap.size) (g := fun _ => none) O9 (fun x => .string x) e_str_eq s2 h2
  obtain ⟨a3, g3, w3, b3⟩ := arg_sc (base := W.heap.size) (g := fun _ => none) O9 (fun x => .string x) e_str_eq s3 h3
  have hbk : Rows.uptoBulkAll ([d0, d1, d2, d3] ++ []) ≤ 1048576 := of_decide_eq_true hk
  simp only [List.append_nil, Rows.uptoBulkAll] at hbk
  have hplain : ∃ k, Go.Abs.GenG.dossierlaw18_TreeFinds.f k a0 a1 a2 a3 = some true := by
    exact Go.Abs.GenG.treeFinds_true a0 a1 a2 a3 (by omega)
  obtain ⟨k, hk'⟩ := hplain
  have hgl : GlobOK W (fun b => b < W.heap.size) := by
    intro b ps h; cases h
  have hc := call_true (Go.Abs.GenG.dossierlaw18_TreeFinds.meets k a0 a1 a2 a3 true hk') [v0, v1, v2, v3] W hgl rfl (by
    intro i h h'
    match i, h with
    | 0, _ => exact g0
    | 1, _ => exact g1
    | 2, _ => exact g2
    | 3, _ => exact g3)
  refine Calls.mono hc fun e W' ⟨he, bel⟩ => ?_
  subst he
  exact ⟨_, rfl, close_true hW' rfl rfl rfl Try.underlying4 laidOut (by kernel_rfl) bel⟩
theorem lifted (os : Os) (started : os.Started) (H : Type) (enc : TypeId × Value → H) (F : Stop.Interp) :
    ReturnsInHanded {} Try.checked os 3 .any ((Rows.OpenSpec.upto Rows.treeFindsSpec).pre6 enc Try.prog Try.f3 Rows.treeFindsUptoRow.domain false) (((Rows.OpenSpec.upto Rows.treeFindsSpec).at F).post enc Try.prog Try.f3 false true false false) := by
  refine returnsInHanded_of_cond (C := Try.checked) (s := Rows.OpenSpec.upto Rows.treeFindsSpec) (k := Rows.uptoSmall) rfl own started (by kernel_rfl) Try.func3
    (OpenSpec.witness (enc := enc) (C := Try.checked) (s := Rows.OpenSpec.upto Rows.treeFindsSpec) (k := Rows.uptoSmall) rfl false ⟨#[], #[.agg #[.int .i64 0, .string .empty, .slice none 0 0, .slice none 0 0, .int .i64 0], .agg #[.int .i64 0, .string .empty, .slice none 0 0, .slice none 0 0, .int .i64 0], .string .empty, .string .empty], []⟩ 8 (by kernel_rfl) (by kernel_rfl) (by kernel_rfl)
      (x := ([.agg [.lit (.int .i64 0), .lit (.string []), .nil, .nil, .lit (.int .i64 0)], .agg [.lit (.int .i64 0), .lit (.string []), .nil, .nil, .lit (.int .i64 0)], .lit (.string []), .lit (.string [])], [], [])) (by kernel_rfl) rfl (by kernel_rfl)) ?_
  intro W base args ds gs before hval hW _ hk _
  exact contract H enc W base args ds gs before hval hW hk
theorem proved : Rows.TreeFindsUptoSaid :=
  OpenClaim.holds_of_cond 3 Try.f3 rfl rfl rfl rfl rfl rfl rfl ⟨rfl, rfl, rfl, rfl, rfl⟩ rfl rfl rfl rfl rfl (by kernel_rfl) Try.func3 (by kernel_rfl)
    (of_decide_eq_true (by kernel_rfl)) (by unfold Func.isWrapper; first | (rw [if_pos (by decide +kernel)]; kernel_rfl) | (rw [if_neg (by decide +kernel)]; exact ⟨rfl, rfl⟩))
    (fun os started H enc _ F => lifted os started H enc F)
end Go.Proofs.Ytjaefjcbfjjfnaa.treeFindsLaw
