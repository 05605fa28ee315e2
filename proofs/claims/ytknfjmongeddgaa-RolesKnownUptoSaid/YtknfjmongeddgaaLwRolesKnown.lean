/- Proves Rows.RolesKnownUptoSaid: at every input of bulk at most 1048576 the law RolesKnown returns true and leaves its arguments as they were. -/
import Derived.Test.YtknfjmongeddgaaPlRolesD
import Derived.Test.YtknfjmongeddgaaAbsM
namespace Go.Proofs.Ytknfjmongeddgaa.rolesKnownLaw
open Go.ChangeShapes Go.WideShapes Go.ChangeAt Go.RowKit Go.Abs Go.Abs.GenR
set_option linter.unusedVariables false
set_option maxRecDepth 100000
theorem own : ownKnob Try.prog.godebug = none := by kernel_rfl
theorem laidOut : laidOutB Try.prog = true := by kernel_rfl
theorem contract (H : Type) (enc : TypeId × Value → H) (W : World) (base : Nat) (args : Array Value) (ds gs : List (DataW H)) (before : List MemPlace)
    (hval : ∀ (j : Nat) t v, Try.f7.params[j]? = some t → args[j]? = some v → Value.okWide Try.prog W .any base t v)
    (hW : DataW.Whole enc Try.prog Try.f7.params.toList Rows.rolesKnownSpec.vars false W args.toList ds gs before) (hk : Rows.uptoSmall H (ds ++ gs) = true) :
    Calls Try.prog 7 args W fun e W' => ∃ v, e = .returned v ∧ Rows.rolesKnownSpec.post enc Try.prog Try.f7 false true false false W args v W' := by
  have hW' := hW
  obtain ⟨p, q, hA0, hV, rfl, hfz, hnd⟩ := hW
  have hA : DataW.TrodAll enc Try.prog W 0 (fun _ => true) true Try.f7.params.toList args.toList ds p := hA0
  rw [Try.params7] at hA hval
  obtain ⟨v0, vs0, d0, ds0, p0, q0, hargs, rfl, rfl, h0, r0⟩ := trodAll_cons hA
  obtain ⟨v1, vs1, d1, ds1, p1, q1, rfl, rfl, rfl, h1, r1⟩ := trodAll_cons r0
  obtain ⟨v2, vs2, d2, ds2, p2, q2, rfl, rfl, rfl, h2, r2⟩ := trodAll_cons r1
  obtain ⟨rfl, rfl, rfl⟩ := trodAll_nil r2
  obtain rfl : args = #[v0, v1, v2] := by cases args; simp_all
  obtain ⟨rfl, rfl⟩ := trodVars_none hV
  obtain ⟨s0, z0, _⟩ := okWide_struct Try.underlying38 (hval 0 38 v0 rfl rfl)
  have s1 : v1.cells.toList = [v1] := by obtain ⟨_, rfl⟩ := okWide_string Try.underlying9 (hval 1 9 v1 rfl rfl); rfl
  have s2 : v2.cells.toList = [v2] := by obtain ⟨_, rfl⟩ := okWide_string Try.underlying9 (hval 2 9 v2 rfl rfl); rfl
  obtain ⟨a0, g0, w0, b0⟩ := arg_agg (base := W.heap.size) (g := fun _ => none) O38 z0 h0
  rw [e_api_Model_eq] at g0
  obtain ⟨a1, g1, w1, b1⟩ := arg_sc (base := W.heap.size) (g := fun _ => none) O9 (fun x => .string x) e_str_eq s1 h1
  obtain ⟨a2, g2, w2, b2⟩ := arg_sc (base := W.heap.size) (g := fun _ => none) O9 (fun x => .string x) e_str_eq s2 h2
  have hbk : Rows.uptoBulkAll ([d0, d1, d2] ++ []) ≤ 1048576 := of_decide_eq_true hk
  simp only [List.append_nil, Rows.uptoBulkAll] at hbk
  have hplain : ∃ k, Go.Abs.GenR.dossierlaw27_RolesKnown.f k a0 a1 a2 = some true := by
    exact Go.Abs.GenR.rolesKnown_true a0 a1 a2 (by omega)
  obtain ⟨k, hk'⟩ := hplain
  have hgl : GlobOK W (fun b => b < W.heap.size) := by
    intro b ps h; cases h
  have hc := call_true (Go.Abs.GenR.dossierlaw27_RolesKnown.meets k a0 a1 a2 true hk') [v0, v1, v2] W hgl rfl (by
    intro i h h'
    match i, h with
    | 0, _ => exact g0
    | 1, _ => exact g1
    | 2, _ => exact g2)
  refine Calls.mono hc fun e W' ⟨he, bel⟩ => ?_
  subst he
  exact ⟨_, rfl, close_true hW' rfl rfl rfl Try.underlying4 laidOut (by kernel_rfl) bel⟩
theorem lifted (os : Os) (started : os.Started) (H : Type) (enc : TypeId × Value → H) (F : Stop.Interp) :
    ReturnsInHanded {} Try.checked os 7 .any ((Rows.OpenSpec.upto Rows.rolesKnownSpec).pre6 enc Try.prog Try.f7 Rows.rolesKnownUptoRow.domain false) (((Rows.OpenSpec.upto Rows.rolesKnownSpec).at F).post enc Try.prog Try.f7 false true false false) := by
  refine returnsInHanded_of_cond (C := Try.checked) (s := Rows.OpenSpec.upto Rows.rolesKnownSpec) (k := Rows.uptoSmall) rfl own started (by kernel_rfl) Try.func7
    (OpenSpec.witness (enc := enc) (C := Try.checked) (s := Rows.OpenSpec.upto Rows.rolesKnownSpec) (k := Rows.uptoSmall) rfl false ⟨#[], #[.agg #[.string .empty, .string .empty, .slice none 0 0, .slice none 0 0, .string .empty, .string .empty, .int .i64 0, .slice none 0 0, .slice none 0 0, .string .empty, .string .empty, .string .empty, .bool false, .bool false, .int .i64 0, .slice none 0 0, .slice none 0 0, .slice none 0 0], .string .empty, .string .empty], []⟩ 8 (by kernel_rfl) (by kernel_rfl) (by kernel_rfl)
      (x := ([.agg [.lit (.string []), .lit (.string []), .nil, .nil, .agg [.lit (.string []), .lit (.string []), .lit (.int .i64 0), .nil, .nil, .lit (.string []), .lit (.string []), .lit (.string []), .lit (.bool false), .lit (.bool false), .lit (.int .i64 0), .nil, .nil, .nil]], .lit (.string []), .lit (.string [])], [], [])) (by kernel_rfl) rfl (by kernel_rfl)) ?_
  intro W base args ds gs before hval hW _ hk _
  exact contract H enc W base args ds gs before hval hW hk
theorem proved : Rows.RolesKnownUptoSaid :=
  OpenClaim.holds_of_cond 7 Try.f7 rfl rfl rfl rfl rfl rfl rfl ⟨rfl, rfl, rfl, rfl, rfl⟩ rfl rfl rfl rfl rfl (by kernel_rfl) Try.func7 (by kernel_rfl)
    (of_decide_eq_true (by kernel_rfl)) (by unfold Func.isWrapper; first | (rw [if_pos (by decide +kernel)]; kernel_rfl) | (rw [if_neg (by decide +kernel)]; exact ⟨rfl, rfl⟩))
    (fun os started H enc _ F => lifted os started H enc F)
end Go.Proofs.Ytknfjmongeddgaa.rolesKnownLaw
