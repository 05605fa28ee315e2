/-
  DERIVED. GIVEN WITH THE SEED: THE CARDS: each row of YtlkogjcdiabjpaaDoorRows.lean that lists a variable, with what it lists TIED to the program's text (the seventh form; the later family's looks); each row that meets fmt, with fmt's text TOLD by the authors' own Lean function (tested against real Go, not proved from fmt's source: count such statements apart). THE CARD IS WHAT COUNTS. Prove the row's statement (the work); the ties are given (YtlkogjcdiabjpaaDoorTie.lean); close each card by the builder's one call (the guide's Derived/Test/ToyasCard.lean, 'card_holds'). Laid BY PROGRAM, IN A SANDBOX (cutbox-door.mjs). By AI agents, Wed Nov 11 2026. No macro, syntax, notation, axiom, sorry.
-/
import Derived.Test.YtlkogjcdiabjpaaDoorRows
import GoSem.ClaimSeven
namespace Go.Proofs.YtlkogjcdiabjpaaDoor
namespace Rows

/-- THE TIED CARD OF 'dossierlaw18.TreeOrdered'. -/
def treeOrderedCard : Claim7 := { stood := { row := treeOrderedRow, standIns := [], harness := (true, "ed26de7504de4f67798f9a38b80bbb35394f3ecd071e94494ab1f724410acbc8"), looks := false }, kinds := [], alts := [], laidByText := true, laidKinds := [.data, .pinned], laidTests := true, laidLooks := .later }
def TreeOrderedCardSaid : Prop := Claim7.holds Tryd.pinned (.plain (OpenSpec.ofChange treeOrderedSpec)) treeOrderedCard

/-- THE SECOND FORM's CARD OF 'dossierlaw18.TreeOrdered'. -/
def treeOrderedUptoCard : Claim7 := { stood := { row := treeOrderedUptoRow, standIns := [], harness := (true, "ed26de7504de4f67798f9a38b80bbb35394f3ecd071e94494ab1f724410acbc8"), looks := false }, kinds := [], alts := [], laidByText := true, laidKinds := [.data, .pinned], laidTests := true, laidLooks := .later }
def TreeOrderedUptoCardSaid : Prop := Claim7.holds Tryd.pinned (.plain (OpenSpec.upto treeOrderedSpec)) treeOrderedUptoCard
end Rows
end Go.Proofs.YtlkogjcdiabjpaaDoor
