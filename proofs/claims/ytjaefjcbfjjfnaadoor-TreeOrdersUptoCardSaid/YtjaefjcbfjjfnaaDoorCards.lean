/-
  DERIVED. GIVEN WITH THE SEED: THE CARDS: each row of YtjaefjcbfjjfnaaDoorRows.lean that lists a variable, with what it lists TIED to the program's text (the seventh form; the later family's looks); each row that meets fmt, with fmt's text TOLD by the authors' own Lean function (tested against real Go, not proved from fmt's source: count such statements apart). THE CARD IS WHAT COUNTS. Prove the row's statement (the work); the ties are given (YtjaefjcbfjjfnaaDoorTie.lean); close each card by the builder's one call (the guide's Derived/Test/ToyasCard.lean, 'card_holds'). Laid BY PROGRAM, IN A SANDBOX (cutbox-door.mjs). By AI agents, Wed Nov 11 2026. No macro, syntax, notation, axiom, sorry.
-/
import Derived.Test.YtjaefjcbfjjfnaaDoorRows
import GoSem.ClaimSeven
namespace Go.Proofs.YtjaefjcbfjjfnaaDoor
namespace Rows

/-- THE TIED CARD OF 'dossierlaw18.TreeOrders'. -/
def treeOrdersCard : Claim7 := { stood := { row := treeOrdersRow, standIns := [], harness := (true, "90accec58817f77e4e92a838fa5d95d109bd8eb828ecdcd4a568cfd2eb2579f5"), looks := false }, kinds := [], alts := [], laidByText := true, laidKinds := [.data, .pinned], laidTests := true, laidLooks := .later }
def TreeOrdersCardSaid : Prop := Claim7.holds Tryd.pinned (.plain (OpenSpec.ofChange treeOrdersSpec)) treeOrdersCard

/-- THE TIED CARD OF 'dossierlaw12.ShapeOrders'. -/
def shapeOrdersCard : Claim7 := { stood := { row := shapeOrdersRow, standIns := [], harness := (true, "90accec58817f77e4e92a838fa5d95d109bd8eb828ecdcd4a568cfd2eb2579f5"), looks := false }, kinds := [], alts := [], laidByText := true, laidKinds := [.data, .pinned], laidTests := true, laidLooks := .later }
def ShapeOrdersCardSaid : Prop := Claim7.holds Tryd.pinned (.plain (OpenSpec.ofChange shapeOrdersSpec)) shapeOrdersCard

/-- THE TIED CARD OF 'dossierlaw12.ShapeWay'. -/
def shapeWayCard : Claim7 := { stood := { row := shapeWayRow, standIns := [], harness := (true, "90accec58817f77e4e92a838fa5d95d109bd8eb828ecdcd4a568cfd2eb2579f5"), looks := false }, kinds := [], alts := [], laidByText := true, laidKinds := [.data, .pinned], laidTests := true, laidLooks := .later }
def ShapeWayCardSaid : Prop := Claim7.holds Tryd.pinned (.plain (OpenSpec.ofChange shapeWaySpec)) shapeWayCard

/-- THE TIED CARD OF 'dossierlaw12.ShapePaths'. -/
def shapePathsCard : Claim7 := { stood := { row := shapePathsRow, standIns := [], harness := (true, "90accec58817f77e4e92a838fa5d95d109bd8eb828ecdcd4a568cfd2eb2579f5"), looks := false }, kinds := [], alts := [], laidByText := true, laidKinds := [.data, .pinned], laidTests := true, laidLooks := .later }
def ShapePathsCardSaid : Prop := Claim7.holds Tryd.pinned (.plain (OpenSpec.ofChange shapePathsSpec)) shapePathsCard

/-- THE TIED CARD OF 'dossierlaw18.TreePuts'. -/
def treePutsCard : Claim7 := { stood := { row := treePutsRow, standIns := [], harness := (true, "90accec58817f77e4e92a838fa5d95d109bd8eb828ecdcd4a568cfd2eb2579f5"), looks := false }, kinds := [], alts := [], laidByText := true, laidKinds := [.data, .pinned], laidTests := true, laidLooks := .later }
def TreePutsCardSaid : Prop := Claim7.holds Tryd.pinned (.plain (OpenSpec.ofChange treePutsSpec)) treePutsCard

/-- THE TIED CARD OF 'dossierlaw18.TreeOrdered'. -/
def treeOrderedCard : Claim7 := { stood := { row := treeOrderedRow, standIns := [], harness := (true, "90accec58817f77e4e92a838fa5d95d109bd8eb828ecdcd4a568cfd2eb2579f5"), looks := false }, kinds := [], alts := [], laidByText := true, laidKinds := [.data, .pinned], laidTests := true, laidLooks := .later }
def TreeOrderedCardSaid : Prop := Claim7.holds Tryd.pinned (.plain (OpenSpec.ofChange treeOrderedSpec)) treeOrderedCard

/-- THE SECOND FORM's CARD OF 'dossierlaw18.TreeOrders'. -/
def treeOrdersUptoCard : Claim7 := { stood := { row := treeOrdersUptoRow, standIns := [], harness := (true, "90accec58817f77e4e92a838fa5d95d109bd8eb828ecdcd4a568cfd2eb2579f5"), looks := false }, kinds := [], alts := [], laidByText := true, laidKinds := [.data, .pinned], laidTests := true, laidLooks := .later }
def TreeOrdersUptoCardSaid : Prop := Claim7.holds Tryd.pinned (.plain (OpenSpec.upto treeOrdersSpec)) treeOrdersUptoCard

/-- THE SECOND FORM's CARD OF 'dossierlaw12.ShapeOrders'. -/
def shapeOrdersUptoCard : Claim7 := { stood := { row := shapeOrdersUptoRow, standIns := [], harness := (true, "90accec58817f77e4e92a838fa5d95d109bd8eb828ecdcd4a568cfd2eb2579f5"), looks := false }, kinds := [], alts := [], laidByText := true, laidKinds := [.data, .pinned], laidTests := true, laidLooks := .later }
def ShapeOrdersUptoCardSaid : Prop := Claim7.holds Tryd.pinned (.plain (OpenSpec.upto shapeOrdersSpec)) shapeOrdersUptoCard

/-- THE SECOND FORM's CARD OF 'dossierlaw12.ShapeWay'. -/
def shapeWayUptoCard : Claim7 := { stood := { row := shapeWayUptoRow, standIns := [], harness := (true, "90accec58817f77e4e92a838fa5d95d109bd8eb828ecdcd4a568cfd2eb2579f5"), looks := false }, kinds := [], alts := [], laidByText := true, laidKinds := [.data, .pinned], laidTests := true, laidLooks := .later }
def ShapeWayUptoCardSaid : Prop := Claim7.holds Tryd.pinned (.plain (OpenSpec.upto shapeWaySpec)) shapeWayUptoCard

/-- THE SECOND FORM's CARD OF 'dossierlaw12.ShapePaths'. -/
def shapePathsUptoCard : Claim7 := { stood := { row := shapePathsUptoRow, standIns := [], harness := (true, "90accec58817f77e4e92a838fa5d95d109bd8eb828ecdcd4a568cfd2eb2579f5"), looks := false }, kinds := [], alts := [], laidByText := true, laidKinds := [.data, .pinned], laidTests := true, laidLooks := .later }
def ShapePathsUptoCardSaid : Prop := Claim7.holds Tryd.pinned (.plain (OpenSpec.upto shapePathsSpec)) shapePathsUptoCard

/-- THE SECOND FORM's CARD OF 'dossierlaw18.TreePuts'. -/
def treePutsUptoCard : Claim7 := { stood := { row := treePutsUptoRow, standIns := [], harness := (true, "90accec58817f77e4e92a838fa5d95d109bd8eb828ecdcd4a568cfd2eb2579f5"), looks := false }, kinds := [], alts := [], laidByText := true, laidKinds := [.data, .pinned], laidTests := true, laidLooks := .later }
def TreePutsUptoCardSaid : Prop := Claim7.holds Tryd.pinned (.plain (OpenSpec.upto treePutsSpec)) treePutsUptoCard

/-- THE SECOND FORM's CARD OF 'dossierlaw18.TreeOrdered'. -/
def treeOrderedUptoCard : Claim7 := { stood := { row := treeOrderedUptoRow, standIns := [], harness := (true, "90accec58817f77e4e92a838fa5d95d109bd8eb828ecdcd4a568cfd2eb2579f5"), looks := false }, kinds := [], alts := [], laidByText := true, laidKinds := [.data, .pinned], laidTests := true, laidLooks := .later }
def TreeOrderedUptoCardSaid : Prop := Claim7.holds Tryd.pinned (.plain (OpenSpec.upto treeOrderedSpec)) treeOrderedUptoCard
end Rows
end Go.Proofs.YtjaefjcbfjjfnaaDoor
