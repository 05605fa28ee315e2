/- Proves Rows.VdiskRoomUptoSaid: at every input of bulk at most 1048576 the law VdiskRoom returns true and leaves its arguments as they were. -/
import Derived.Test.YtiegaebmhpdnmaaPlRmH
import Derived.Test.YtiegaebmhpdnmaaOpRm
import Derived.Test.YtiegaebmhpdnmaaAbsM
namespace Go.Proofs.Ytiegaebmhpdnmaa.vdiskRoomLaw
open Go.ChangeShapes Go.WideShapes Go.ChangeAt Go.RowKit Go.Abs Go.Abs.GenRm
set_option linter.unusedVariables false
set_option maxRecDepth 100000
theorem own : ownKnob Try.prog.godebug = none := by kernel_rfl
theorem laidOut : laidOutB Try.prog = true := by kernel_rfl
theorem contract (H : Type) (enc : TypeId × Value → H) (W : World) (base : Nat) (args : Array Value) (ds gs : List (DataW H)) (before : List MemPlace)
    (hval : ∀ (j : Nat) t v, Try.f4.params[j]? = some t → args[j]? = some v → Value.okWide Try.prog W .any base t v)
    (hW : DataW.Whole enc Try.prog Try.f4.params.toList Rows.vdiskRoomSpec.vars false W args.toList ds gs before) (hk : Rows.uptoSmall H (ds ++ gs) = true) :
    Calls Try.prog 4 args W fun e W' => ∃ v, e = .returned v ∧ Rows.vdiskRoomSpec.post enc Try.prog Try.f4 false true false false W args v W' := by
  have hW' := hW
  obtain ⟨p, q, hA0, hV, rfl, hfz, hnd⟩ := hW
  have hA : DataW.TrodAll enc Try.prog W 0 (fun _ => true) true Try.f4.params.toList args.toList ds p := hA0
  rw [Try.params4] at hA hval
  obtain ⟨v0, vs0, d0, ds0, p0, q0, hargs, rfl, rfl, h0, r0⟩ := trodAll_cons hA
  obtain ⟨v1, vs1, d1, ds1, p1, q1, rfl, rfl, rfl, h1, r1⟩ := trodAll_cons r0
  obtain ⟨rfl, rfl, rfl⟩ := trodAll_nil r1
  obtain rfl : args = #[v0, v1] := by cases args; simp_all
  obtain ⟨rfl, rfl⟩ := trodVars_none hV
  have s0 : v0.cells.toList = [v0] := by obtain ⟨_, rfl⟩ := okWide_int Try.underlying3 (hval 0 3 v0 rfl rfl); rfl
  have s1 : v1.cells.toList = [v1] := by obtain ⟨_, _, _, rfl⟩ := okWide_slice Try.underlying37 (hval 1 37 v1 rfl rfl); rfl
  obtain ⟨a0, g0, w0, b0⟩ := arg_sc (base := W.heap.size) (g := fun _ => none) O3 (fun x => .int .i64 x) e_i64_eq s0 h0
  obtain ⟨a1, g1, w1, b1⟩ := arg_sl (base := W.heap.size) (g := fun _ => none) O37 s1 h1
  have hbk : Rows.uptoBulkAll ([d0, d1] ++ []) ≤ 1048576 := of_decide_eq_true hk
  simp only [List.append_nil, Rows.uptoBulkAll] at hbk
  have hplain : ∃ k, Go.Abs.GenRm.dossierlaw03_VdiskRoom.f k a0 a1 = some true := by
    have ge : ∀ s, 1 ≤ bk_dossierplain_Step s := fun s => by simp only [bk_dossierplain_Step]; omega
    have l1 := bkL_len ge a1
    refine Go.Abs.GenRm.room_true a0 a1 (by omega) (fun s hs => ?_)
    have h1 := bkL_mem bk_dossierplain_Step hs
    have h2 := w1 s hs
    have l2 := bkL_len bk1_ge s.B
    have l3 := bkL_len bk1_ge s.Keeps
    have h3 : s.N ≤ 9223372036854775807 := by have := h2.2.1; simp [wfI, Lit.wf, IntKind.min, IntKind.max, IntKind.bits, IntKind.signed] at this; omega
    simp only [bk_dossierplain_Step] at h1
    exact ⟨by omega, by omega, h3⟩
  obtain ⟨k, hk'⟩ := hplain
  have hgl : GlobOK W (fun b => b < W.heap.size) := by
    intro b ps h; cases h
  have hc := call_true (Go.Abs.GenRm.dossierlaw03_VdiskRoom.meets k a0 a1 true hk') [v0, v1] W hgl rfl (by
    intro i h h'
    match i, h with
    | 0, _ => exact g0
    | 1, _ => exact g1)
  refine Calls.mono hc fun e W' ⟨he, bel⟩ => ?_
  subst he
  exact ⟨_, rfl, close_true hW' rfl rfl rfl Try.underlying4 laidOut (by kernel_rfl) bel⟩
theorem lifted (os : Os) (started : os.Started) (H : Type) (enc : TypeId × Value → H) (F : Stop.Interp) :
    ReturnsInHanded {} Try.checked os 4 .any ((Rows.OpenSpec.upto Rows.vdiskRoomSpec).pre6 enc Try.prog Try.f4 Rows.vdiskRoomUptoRow.domain false) (((Rows.OpenSpec.upto Rows.vdiskRoomSpec).at F).post enc Try.prog Try.f4 false true false false) := by
  refine returnsInHanded_of_cond (C := Try.checked) (s := Rows.OpenSpec.upto Rows.vdiskRoomSpec) (k := Rows.uptoSmall) rfl own started (by kernel_rfl) Try.func4
    (OpenSpec.witness (enc := enc) (C := Try.checked) (s := Rows.OpenSpec.upto Rows.vdiskRoomSpec) (k := Rows.uptoSmall) rfl false ⟨#[], #[.int .i64 0, .slice none 0 0], []⟩ 8 (by kernel_rfl) (by kernel_rfl) (by kernel_rfl)
      (x := ([.lit (.int .i64 0), .nil], [], [])) (by kernel_rfl) rfl (by kernel_rfl)) ?_
  intro W base args ds gs before hval hW _ hk _
  exact contract H enc W base args ds gs before hval hW hk
theorem proved : Rows.VdiskRoomUptoSaid :=
  OpenClaim.holds_of_cond 4 Try.f4 rfl rfl rfl rfl rfl rfl rfl ⟨rfl, rfl, rfl, rfl, rfl⟩ rfl rfl rfl rfl rfl (by kernel_rfl) Try.func4 (by kernel_rfl)
    (of_decide_eq_true (by kernel_rfl)) (by unfold Func.isWrapper; first | (rw [if_pos (by decide +kernel)]; kernel_rfl) | (rw [if_neg (by decide +kernel)]; exact ⟨rfl, rfl⟩))
    (fun os started H enc _ F => lifted os started H enc F)
end Go.Proofs.Ytiegaebmhpdnmaa.vdiskRoomLaw
