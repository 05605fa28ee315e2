/-
  NARROWER THAN 'FOR EVERY INPUT', by the rows' own cells (each row's printed sentence says how): RolesNone: loops · RolesKnown: loops · RolesCheck: loops.
  DERIVED. THE GIVEN ROWS OF THIS SEAT. 6 by the template 'for every input the law returns true; each argument reads behind the call as it read before'; 0 by the template 'total and deterministic' (their statements: YtknfjmongeddgaaTotals.lean).
  GIVEN WITH THE SEED: the statements are not yours to turn. If you find one false, say at which input.
  Laid BY PROGRAM, IN A SANDBOX (cutbox-rows.mjs): the forced cells as the released guide's own fill.sh prints them over the translation 031e7263230951d6… (all of the seat's roots in one cut). By AI agents, Wed Nov 11 2026. No macro, syntax, notation, axiom, sorry.
-/
import Derived.Test.YtknfjmongeddgaaChecked
import GoSem.Claim
import GoSem.ClaimJoined
import GoSem.ClaimMapViews
import Derived.JoinedTies
import Derived.KernelRfl
namespace Go.Proofs.Ytknfjmongeddgaa
/- THE CELL 'sum', in the pinned program and in every row, IS THE sha256 OF THE DUMP (.gsa) THAT YtknfjmongeddgaaProg.lean LOADS. Nothing in Lean hashes anything: it is a label: what it is worth is what the hold of that sum in a sandbox is worth. -/
noncomputable def Try.pinned : Pinned := { name := "ytknfjmongeddgaa", sum := "031e7263230951d6afb44fe02fb0f346f574c9616adafe593e7fa52a9e61c55c", checked := Try.checked }
namespace Rows
def none {H : Type} : Left H := { results := [], args := [] }

/-- 'dossierlaw02.WirePuts': WHATEVER THE INPUT: true; the input reads as it did. -/
def wirePutsSpec : ChangeSpec := { name := "wirePuts", fn := fun _ => fun
  | [d1, d2, d3, d4] => { results := [.lit (.bool true)], args := [d1, d2, d3, d4] }
  | _ => none }
def wirePutsRow : OpenClaim := { program := "ytknfjmongeddgaa", sum := "031e7263230951d6afb44fe02fb0f346f574c9616adafe593e7fa52a9e61c55c", func := "dossier/dossierlaw02.WirePuts", spec := "wirePuts", apart := false }
def WirePutsSaid : Prop := wirePutsRow.holds Try.pinned (OpenSpec.ofChange wirePutsSpec)

/-- ITS FALSE NEIGHBOUR: 'it returns false'. Refute it at one input. -/
def wirePutsWrong : ChangeSpec := { name := "wirePuts", fn := fun _ => fun
  | [d1, d2, d3, d4] => { results := [.lit (.bool false)], args := [d1, d2, d3, d4] }
  | _ => none }
def WirePutsWrongFalsely : Prop := wirePutsRow.holds Try.pinned (OpenSpec.ofChange wirePutsWrong)

/-- 'dossierlaw27.RolesNone': WHATEVER THE INPUT: true; the input reads as it did. -/
def rolesNoneSpec : ChangeSpec := { name := "rolesNone", fn := fun _ => fun
  | [d1, d2, d3] => { results := [.lit (.bool true)], args := [d1, d2, d3] }
  | _ => none }
def rolesNoneRow : OpenClaim := { program := "ytknfjmongeddgaa", sum := "031e7263230951d6afb44fe02fb0f346f574c9616adafe593e7fa52a9e61c55c", func := "dossier/dossierlaw27.RolesNone", spec := "rolesNone", unfollowed := true, recurses := true, loops := true, apart := false }
def RolesNoneSaid : Prop := rolesNoneRow.holds Try.pinned (OpenSpec.ofChange rolesNoneSpec)

/-- ITS FALSE NEIGHBOUR: 'it returns false'. Refute it at one input. -/
def rolesNoneWrong : ChangeSpec := { name := "rolesNone", fn := fun _ => fun
  | [d1, d2, d3] => { results := [.lit (.bool false)], args := [d1, d2, d3] }
  | _ => none }
def RolesNoneWrongFalsely : Prop := rolesNoneRow.holds Try.pinned (OpenSpec.ofChange rolesNoneWrong)

/-- 'dossierlaw02.WireNobody': WHATEVER THE INPUT: true; the input reads as it did. -/
def wireNobodySpec : ChangeSpec := { name := "wireNobody", fn := fun _ => fun
  | [d] => { results := [.lit (.bool true)], args := [d] }
  | _ => none }
def wireNobodyRow : OpenClaim := { program := "ytknfjmongeddgaa", sum := "031e7263230951d6afb44fe02fb0f346f574c9616adafe593e7fa52a9e61c55c", func := "dossier/dossierlaw02.WireNobody", spec := "wireNobody", apart := false }
def WireNobodySaid : Prop := wireNobodyRow.holds Try.pinned (OpenSpec.ofChange wireNobodySpec)

/-- ITS FALSE NEIGHBOUR: 'it returns false'. Refute it at one input. -/
def wireNobodyWrong : ChangeSpec := { name := "wireNobody", fn := fun _ => fun
  | [d] => { results := [.lit (.bool false)], args := [d] }
  | _ => none }
def WireNobodyWrongFalsely : Prop := wireNobodyRow.holds Try.pinned (OpenSpec.ofChange wireNobodyWrong)

/-- 'dossierlaw02.WireBack': WHATEVER THE INPUT: true; the input reads as it did. -/
def wireBackSpec : ChangeSpec := { name := "wireBack", fn := fun _ => fun
  | [d1, d2, d3, d4] => { results := [.lit (.bool true)], args := [d1, d2, d3, d4] }
  | _ => none }
def wireBackRow : OpenClaim := { program := "ytknfjmongeddgaa", sum := "031e7263230951d6afb44fe02fb0f346f574c9616adafe593e7fa52a9e61c55c", func := "dossier/dossierlaw02.WireBack", spec := "wireBack", apart := false }
def WireBackSaid : Prop := wireBackRow.holds Try.pinned (OpenSpec.ofChange wireBackSpec)

/-- ITS FALSE NEIGHBOUR: 'it returns false'. Refute it at one input. -/
def wireBackWrong : ChangeSpec := { name := "wireBack", fn := fun _ => fun
  | [d1, d2, d3, d4] => { results := [.lit (.bool false)], args := [d1, d2, d3, d4] }
  | _ => none }
def WireBackWrongFalsely : Prop := wireBackRow.holds Try.pinned (OpenSpec.ofChange wireBackWrong)

/-- 'dossierlaw27.RolesKnown': WHATEVER THE INPUT: true; the input reads as it did. -/
def rolesKnownSpec : ChangeSpec := { name := "rolesKnown", fn := fun _ => fun
  | [d1, d2, d3] => { results := [.lit (.bool true)], args := [d1, d2, d3] }
  | _ => none }
def rolesKnownRow : OpenClaim := { program := "ytknfjmongeddgaa", sum := "031e7263230951d6afb44fe02fb0f346f574c9616adafe593e7fa52a9e61c55c", func := "dossier/dossierlaw27.RolesKnown", spec := "rolesKnown", unfollowed := true, recurses := true, loops := true, apart := false }
def RolesKnownSaid : Prop := rolesKnownRow.holds Try.pinned (OpenSpec.ofChange rolesKnownSpec)

/-- ITS FALSE NEIGHBOUR: 'it returns false'. Refute it at one input. -/
def rolesKnownWrong : ChangeSpec := { name := "rolesKnown", fn := fun _ => fun
  | [d1, d2, d3] => { results := [.lit (.bool false)], args := [d1, d2, d3] }
  | _ => none }
def RolesKnownWrongFalsely : Prop := rolesKnownRow.holds Try.pinned (OpenSpec.ofChange rolesKnownWrong)

/-- 'dossierlaw27.RolesCheck': WHATEVER THE INPUT: true; the input reads as it did. -/
def rolesCheckSpec : ChangeSpec := { name := "rolesCheck", fn := fun _ => fun
  | [d1, d2, d3] => { results := [.lit (.bool true)], args := [d1, d2, d3] }
  | _ => none }
def rolesCheckRow : OpenClaim := { program := "ytknfjmongeddgaa", sum := "031e7263230951d6afb44fe02fb0f346f574c9616adafe593e7fa52a9e61c55c", func := "dossier/dossierlaw27.RolesCheck", spec := "rolesCheck", unfollowed := true, recurses := true, loops := true, apart := false }
def RolesCheckSaid : Prop := rolesCheckRow.holds Try.pinned (OpenSpec.ofChange rolesCheckSpec)

/-- ITS FALSE NEIGHBOUR: 'it returns false'. Refute it at one input. -/
def rolesCheckWrong : ChangeSpec := { name := "rolesCheck", fn := fun _ => fun
  | [d1, d2, d3] => { results := [.lit (.bool false)], args := [d1, d2, d3] }
  | _ => none }
def RolesCheckWrongFalsely : Prop := rolesCheckRow.holds Try.pinned (OpenSpec.ofChange rolesCheckWrong)

/- THE SECOND FORM. 'bulk': how many values and letters a reading holds, each counted each time it is reached (what is shared counts as often as it is met; a slice's spare places count too). A statement '..UptoSaid' is the law's where the arguments, and the package variables that the reading takes, are together of bulk at most 1048576: NARROWER than '..Said'. Prove '..Said' where nothing that the law and all that it calls make is longer than what came in: it says more and counts as full. Else prove '..UptoSaid'. A law counts once. -/
mutual
def uptoBulk {H : Type} : DataW H → Nat
  | .lit (.string bytes) => bytes.length + 1
  | .lit _ => 1
  | .nil => 1
  | .ptr d => uptoBulk d + 1
  | .slice elems spare => uptoBulkAll elems + uptoBulkAll spare + 1
  | .agg parts => uptoBulkAll parts + 1
  | .iface _ d => uptoBulk d + 1
  | .map entries => uptoBulkEntries entries + 1
  | .held _ => 1
def uptoBulkAll {H : Type} : List (DataW H) → Nat
  | [] => 0
  | d :: r => uptoBulk d + uptoBulkAll r
def uptoBulkEntries {H : Type} : List (Lit × DataW H) → Nat
  | [] => 0
  | x :: r => uptoBulkEntry x + uptoBulkEntries r
def uptoBulkEntry {H : Type} : Lit × DataW H → Nat
  | (.string bytes, d) => bytes.length + uptoBulk d + 1
  | (_, d) => uptoBulk d + 1
 end
def uptoSmall : (H : Type) → List (DataW H) → Bool := fun _ ds => decide (uptoBulkAll ds ≤ 1048576)
def OpenSpec.upto (s : _root_.Go.ChangeSpec) : _root_.Go.OpenSpec := { _root_.Go.OpenSpec.ofChange s with cond := some uptoSmall }

/-- 'dossierlaw02.WirePuts', WHERE WHAT IT READS IS OF BULK AT MOST 1048576: true; the input reads as it did. -/
def wirePutsUptoRow : OpenClaim := { program := "ytknfjmongeddgaa", sum := "031e7263230951d6afb44fe02fb0f346f574c9616adafe593e7fa52a9e61c55c", func := "dossier/dossierlaw02.WirePuts", spec := "wirePuts", apart := false, narrowed := true }
def WirePutsUptoSaid : Prop := wirePutsUptoRow.holds Try.pinned (OpenSpec.upto wirePutsSpec)

/-- 'dossierlaw27.RolesNone', WHERE WHAT IT READS IS OF BULK AT MOST 1048576: true; the input reads as it did. -/
def rolesNoneUptoRow : OpenClaim := { program := "ytknfjmongeddgaa", sum := "031e7263230951d6afb44fe02fb0f346f574c9616adafe593e7fa52a9e61c55c", func := "dossier/dossierlaw27.RolesNone", spec := "rolesNone", unfollowed := true, recurses := true, loops := true, apart := false, narrowed := true }
def RolesNoneUptoSaid : Prop := rolesNoneUptoRow.holds Try.pinned (OpenSpec.upto rolesNoneSpec)

/-- 'dossierlaw02.WireNobody', WHERE WHAT IT READS IS OF BULK AT MOST 1048576: true; the input reads as it did. -/
def wireNobodyUptoRow : OpenClaim := { program := "ytknfjmongeddgaa", sum := "031e7263230951d6afb44fe02fb0f346f574c9616adafe593e7fa52a9e61c55c", func := "dossier/dossierlaw02.WireNobody", spec := "wireNobody", apart := false, narrowed := true }
def WireNobodyUptoSaid : Prop := wireNobodyUptoRow.holds Try.pinned (OpenSpec.upto wireNobodySpec)

/-- 'dossierlaw02.WireBack', WHERE WHAT IT READS IS OF BULK AT MOST 1048576: true; the input reads as it did. -/
def wireBackUptoRow : OpenClaim := { program := "ytknfjmongeddgaa", sum := "031e7263230951d6afb44fe02fb0f346f574c9616adafe593e7fa52a9e61c55c", func := "dossier/dossierlaw02.WireBack", spec := "wireBack", apart := false, narrowed := true }
def WireBackUptoSaid : Prop := wireBackUptoRow.holds Try.pinned (OpenSpec.upto wireBackSpec)

/-- 'dossierlaw27.RolesKnown', WHERE WHAT IT READS IS OF BULK AT MOST 1048576: true; the input reads as it did. -/
def rolesKnownUptoRow : OpenClaim := { program := "ytknfjmongeddgaa", sum := "031e7263230951d6afb44fe02fb0f346f574c9616adafe593e7fa52a9e61c55c", func := "dossier/dossierlaw27.RolesKnown", spec := "rolesKnown", unfollowed := true, recurses := true, loops := true, apart := false, narrowed := true }
def RolesKnownUptoSaid : Prop := rolesKnownUptoRow.holds Try.pinned (OpenSpec.upto rolesKnownSpec)

/-- 'dossierlaw27.RolesCheck', WHERE WHAT IT READS IS OF BULK AT MOST 1048576: true; the input reads as it did. -/
def rolesCheckUptoRow : OpenClaim := { program := "ytknfjmongeddgaa", sum := "031e7263230951d6afb44fe02fb0f346f574c9616adafe593e7fa52a9e61c55c", func := "dossier/dossierlaw27.RolesCheck", spec := "rolesCheck", unfollowed := true, recurses := true, loops := true, apart := false, narrowed := true }
def RolesCheckUptoSaid : Prop := rolesCheckUptoRow.holds Try.pinned (OpenSpec.upto rolesCheckSpec)

end Rows
end Go.Proofs.Ytknfjmongeddgaa
