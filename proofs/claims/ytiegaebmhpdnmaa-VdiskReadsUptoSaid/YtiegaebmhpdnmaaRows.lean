/-
  No cell of these rows narrows 'for every input' (looked for: loops, veiled, ifaces, maps, wideKeys, modest, calm, conditions, laid).
  DERIVED. THE GIVEN ROWS OF THIS SEAT. 5 by the template 'for every input the law returns true; each argument reads behind the call as it read before'; 0 by the template 'total and deterministic' (their statements: YtiegaebmhpdnmaaTotals.lean).
  GIVEN WITH THE SEED: the statements are not yours to turn. If you find one false, say at which input.
  Laid BY PROGRAM, IN A SANDBOX (cutbox-rows.mjs): the forced cells as the released guide's own fill.sh prints them over the translation c6e21860db730190… (all of the seat's roots in one cut). By AI agents, Wed Nov 11 2026. No macro, syntax, notation, axiom, sorry.
-/
import Derived.Test.YtiegaebmhpdnmaaChecked
import GoSem.Claim
import GoSem.ClaimJoined
import GoSem.ClaimMapViews
import Derived.JoinedTies
import Derived.KernelRfl
namespace Go.Proofs.Ytiegaebmhpdnmaa
/- THE CELL 'sum', in the pinned program and in every row, IS THE sha256 OF THE DUMP (.gsa) THAT YtiegaebmhpdnmaaProg.lean LOADS. Nothing in Lean hashes anything: it is a label: what it is worth is what the hold of that sum in a sandbox is worth. -/
noncomputable def Try.pinned : Pinned := { name := "ytiegaebmhpdnmaa", sum := "c6e21860db730190cbbf423c9946e2b19679b9ce7f70ac5b789ee8867f839262", checked := Try.checked }
namespace Rows
def none {H : Type} : Left H := { results := [], args := [] }

/-- 'dossierlaw03.VdiskStays': WHATEVER THE INPUT: true; the input reads as it did. -/
def vdiskStaysSpec : ChangeSpec := { name := "vdiskStays", fn := fun _ => fun
  | [d1, d2, d3] => { results := [.lit (.bool true)], args := [d1, d2, d3] }
  | _ => none }
def vdiskStaysRow : OpenClaim := { program := "ytiegaebmhpdnmaa", sum := "c6e21860db730190cbbf423c9946e2b19679b9ce7f70ac5b789ee8867f839262", func := "dossier/dossierlaw03.VdiskStays", spec := "vdiskStays", unfollowed := true, recurses := true, apart := false }
def VdiskStaysSaid : Prop := vdiskStaysRow.holds Try.pinned (OpenSpec.ofChange vdiskStaysSpec)

/-- ITS FALSE NEIGHBOUR: 'it returns false'. Refute it at one input. -/
def vdiskStaysWrong : ChangeSpec := { name := "vdiskStays", fn := fun _ => fun
  | [d1, d2, d3] => { results := [.lit (.bool false)], args := [d1, d2, d3] }
  | _ => none }
def VdiskStaysWrongFalsely : Prop := vdiskStaysRow.holds Try.pinned (OpenSpec.ofChange vdiskStaysWrong)

/-- 'dossierlaw03.VdiskRoom': WHATEVER THE INPUT: true; the input reads as it did. -/
def vdiskRoomSpec : ChangeSpec := { name := "vdiskRoom", fn := fun _ => fun
  | [d1, d2] => { results := [.lit (.bool true)], args := [d1, d2] }
  | _ => none }
def vdiskRoomRow : OpenClaim := { program := "ytiegaebmhpdnmaa", sum := "c6e21860db730190cbbf423c9946e2b19679b9ce7f70ac5b789ee8867f839262", func := "dossier/dossierlaw03.VdiskRoom", spec := "vdiskRoom", unfollowed := true, recurses := true, apart := false }
def VdiskRoomSaid : Prop := vdiskRoomRow.holds Try.pinned (OpenSpec.ofChange vdiskRoomSpec)

/-- ITS FALSE NEIGHBOUR: 'it returns false'. Refute it at one input. -/
def vdiskRoomWrong : ChangeSpec := { name := "vdiskRoom", fn := fun _ => fun
  | [d1, d2] => { results := [.lit (.bool false)], args := [d1, d2] }
  | _ => none }
def VdiskRoomWrongFalsely : Prop := vdiskRoomRow.holds Try.pinned (OpenSpec.ofChange vdiskRoomWrong)

/-- 'dossierlaw03.VdiskNobody': WHATEVER THE INPUT: true; the input reads as it did. -/
def vdiskNobodySpec : ChangeSpec := { name := "vdiskNobody", fn := fun _ => fun
  | [d] => { results := [.lit (.bool true)], args := [d] }
  | _ => none }
def vdiskNobodyRow : OpenClaim := { program := "ytiegaebmhpdnmaa", sum := "c6e21860db730190cbbf423c9946e2b19679b9ce7f70ac5b789ee8867f839262", func := "dossier/dossierlaw03.VdiskNobody", spec := "vdiskNobody", inPlace := ["maps.clone"], unfollowed := true, recurses := true, apart := false }
def VdiskNobodySaid : Prop := vdiskNobodyRow.holds Try.pinned (OpenSpec.ofChange vdiskNobodySpec)

/-- ITS FALSE NEIGHBOUR: 'it returns false'. Refute it at one input. -/
def vdiskNobodyWrong : ChangeSpec := { name := "vdiskNobody", fn := fun _ => fun
  | [d] => { results := [.lit (.bool false)], args := [d] }
  | _ => none }
def VdiskNobodyWrongFalsely : Prop := vdiskNobodyRow.holds Try.pinned (OpenSpec.ofChange vdiskNobodyWrong)

/-- 'dossierlaw03.VdiskLives': WHATEVER THE INPUT: true; the input reads as it did. -/
def vdiskLivesSpec : ChangeSpec := { name := "vdiskLives", fn := fun _ => fun
  | [d1, d2] => { results := [.lit (.bool true)], args := [d1, d2] }
  | _ => none }
def vdiskLivesRow : OpenClaim := { program := "ytiegaebmhpdnmaa", sum := "c6e21860db730190cbbf423c9946e2b19679b9ce7f70ac5b789ee8867f839262", func := "dossier/dossierlaw03.VdiskLives", spec := "vdiskLives", unfollowed := true, recurses := true, apart := false }
def VdiskLivesSaid : Prop := vdiskLivesRow.holds Try.pinned (OpenSpec.ofChange vdiskLivesSpec)

/-- ITS FALSE NEIGHBOUR: 'it returns false'. Refute it at one input. -/
def vdiskLivesWrong : ChangeSpec := { name := "vdiskLives", fn := fun _ => fun
  | [d1, d2] => { results := [.lit (.bool false)], args := [d1, d2] }
  | _ => none }
def VdiskLivesWrongFalsely : Prop := vdiskLivesRow.holds Try.pinned (OpenSpec.ofChange vdiskLivesWrong)

/-- 'dossierlaw03.VdiskReads': WHATEVER THE INPUT: true; the input reads as it did. -/
def vdiskReadsSpec : ChangeSpec := { name := "vdiskReads", fn := fun _ => fun
  | [d1, d2, d3] => { results := [.lit (.bool true)], args := [d1, d2, d3] }
  | _ => none }
def vdiskReadsRow : OpenClaim := { program := "ytiegaebmhpdnmaa", sum := "c6e21860db730190cbbf423c9946e2b19679b9ce7f70ac5b789ee8867f839262", func := "dossier/dossierlaw03.VdiskReads", spec := "vdiskReads", inPlace := ["maps.clone"], unfollowed := true, recurses := true, apart := false }
def VdiskReadsSaid : Prop := vdiskReadsRow.holds Try.pinned (OpenSpec.ofChange vdiskReadsSpec)

/-- ITS FALSE NEIGHBOUR: 'it returns false'. Refute it at one input. -/
def vdiskReadsWrong : ChangeSpec := { name := "vdiskReads", fn := fun _ => fun
  | [d1, d2, d3] => { results := [.lit (.bool false)], args := [d1, d2, d3] }
  | _ => none }
def VdiskReadsWrongFalsely : Prop := vdiskReadsRow.holds Try.pinned (OpenSpec.ofChange vdiskReadsWrong)

/- THE SECOND FORM. 'bulk': how many values and letters a reading holds, each counted each time it is reached (what is shared counts as often as it is met; a slice's spare places count too). A statement '..UptoSaid' is the law's where the arguments, and the package variables that the reading takes, are together of bulk at most 1048576: NARROWER than '..Said'. Prove '..Said' where nothing that the law and all that it calls make is longer than what came in: it says more and counts as full. Else prove '..UptoSaid'. A law counts once. -/
mutual
def uptoBulk {H : Type} : DataW H → Nat
  | .lit (.string bytes) => bytes.length + 1
  | .lit _ => 1
  | .nil => 1
  | .ptr d => uptoBulk d + 1
  | .slice elems spare => uptoBulkAll elems + uptoBulkAll spare + 1
  | .agg parts => uptoBulkAll parts + 1
  | .iface _ d => uptoBulk d + 1
  | .map entries => uptoBulkEntries entries + 1
  | .held _ => 1
def uptoBulkAll {H : Type} : List (DataW H) → Nat
  | [] => 0
  | d :: r => uptoBulk d + uptoBulkAll r
def uptoBulkEntries {H : Type} : List (Lit × DataW H) → Nat
  | [] => 0
  | x :: r => uptoBulkEntry x + uptoBulkEntries r
def uptoBulkEntry {H : Type} : Lit × DataW H → Nat
  | (.string bytes, d) => bytes.length + uptoBulk d + 1
  | (_, d) => uptoBulk d + 1
 end
def uptoSmall : (H : Type) → List (DataW H) → Bool := fun _ ds => decide (uptoBulkAll ds ≤ 1048576)
def OpenSpec.upto (s : _root_.Go.ChangeSpec) : _root_.Go.OpenSpec := { _root_.Go.OpenSpec.ofChange s with cond := some uptoSmall }

/-- 'dossierlaw03.VdiskStays', WHERE WHAT IT READS IS OF BULK AT MOST 1048576: true; the input reads as it did. -/
def vdiskStaysUptoRow : OpenClaim := { program := "ytiegaebmhpdnmaa", sum := "c6e21860db730190cbbf423c9946e2b19679b9ce7f70ac5b789ee8867f839262", func := "dossier/dossierlaw03.VdiskStays", spec := "vdiskStays", unfollowed := true, recurses := true, apart := false, narrowed := true }
def VdiskStaysUptoSaid : Prop := vdiskStaysUptoRow.holds Try.pinned (OpenSpec.upto vdiskStaysSpec)

/-- 'dossierlaw03.VdiskRoom', WHERE WHAT IT READS IS OF BULK AT MOST 1048576: true; the input reads as it did. -/
def vdiskRoomUptoRow : OpenClaim := { program := "ytiegaebmhpdnmaa", sum := "c6e21860db730190cbbf423c9946e2b19679b9ce7f70ac5b789ee8867f839262", func := "dossier/dossierlaw03.VdiskRoom", spec := "vdiskRoom", unfollowed := true, recurses := true, apart := false, narrowed := true }
def VdiskRoomUptoSaid : Prop := vdiskRoomUptoRow.holds Try.pinned (OpenSpec.upto vdiskRoomSpec)

/-- 'dossierlaw03.VdiskNobody', WHERE WHAT IT READS IS OF BULK AT MOST 1048576: true; the input reads as it did. -/
def vdiskNobodyUptoRow : OpenClaim := { program := "ytiegaebmhpdnmaa", sum := "c6e21860db730190cbbf423c9946e2b19679b9ce7f70ac5b789ee8867f839262", func := "dossier/dossierlaw03.VdiskNobody", spec := "vdiskNobody", inPlace := ["maps.clone"], unfollowed := true, recurses := true, apart := false, narrowed := true }
def VdiskNobodyUptoSaid : Prop := vdiskNobodyUptoRow.holds Try.pinned (OpenSpec.upto vdiskNobodySpec)

/-- 'dossierlaw03.VdiskLives', WHERE WHAT IT READS IS OF BULK AT MOST 1048576: true; the input reads as it did. -/
def vdiskLivesUptoRow : OpenClaim := { program := "ytiegaebmhpdnmaa", sum := "c6e21860db730190cbbf423c9946e2b19679b9ce7f70ac5b789ee8867f839262", func := "dossier/dossierlaw03.VdiskLives", spec := "vdiskLives", unfollowed := true, recurses := true, apart := false, narrowed := true }
def VdiskLivesUptoSaid : Prop := vdiskLivesUptoRow.holds Try.pinned (OpenSpec.upto vdiskLivesSpec)

/-- 'dossierlaw03.VdiskReads', WHERE WHAT IT READS IS OF BULK AT MOST 1048576: true; the input reads as it did. -/
def vdiskReadsUptoRow : OpenClaim := { program := "ytiegaebmhpdnmaa", sum := "c6e21860db730190cbbf423c9946e2b19679b9ce7f70ac5b789ee8867f839262", func := "dossier/dossierlaw03.VdiskReads", spec := "vdiskReads", inPlace := ["maps.clone"], unfollowed := true, recurses := true, apart := false, narrowed := true }
def VdiskReadsUptoSaid : Prop := vdiskReadsUptoRow.holds Try.pinned (OpenSpec.upto vdiskReadsSpec)

end Rows
end Go.Proofs.Ytiegaebmhpdnmaa
