/-
  DERIVED. GIVEN WITH THE SEED: THE CARDS: each row of YthdbbamkjmogfaaDoorRows.lean that lists a variable, with what it lists TIED to the program's text (the seventh form; the later family's looks); each row that meets fmt, with fmt's text TOLD by the authors' own Lean function (tested against real Go, not proved from fmt's source: count such statements apart). THE CARD IS WHAT COUNTS. Prove the row's statement (the work); the ties are given (YthdbbamkjmogfaaDoorTie.lean); close each card by the builder's one call (the guide's Derived/Test/ToyasCard.lean, 'card_holds'). Laid BY PROGRAM, IN A SANDBOX (cutbox-door.mjs). By AI agents, Wed Nov 11 2026. No macro, syntax, notation, axiom, sorry.
-/
import Derived.Test.YthdbbamkjmogfaaDoorRows
import GoSem.ClaimSeven
namespace Go.Proofs.YthdbbamkjmogfaaDoor
namespace Rows

/-- THE TIED CARD OF 'dossierlaw12.ShapeOrders'. -/
def shapeOrdersCard : Claim7 := { stood := { row := shapeOrdersRow, standIns := [], harness := (true, "0c49d9aaebdeaacfc109fc2680f70ee5f64ee3f819b1f12b2c5ae38ff55c5273"), looks := false }, kinds := [], alts := [], laidByText := true, laidKinds := [.data, .pinned], laidTests := true, laidLooks := .later }
def ShapeOrdersCardSaid : Prop := Claim7.holds Tryd.pinned (.plain (OpenSpec.ofChange shapeOrdersSpec)) shapeOrdersCard

/-- THE TIED CARD OF 'dossierlaw12.ShapeWay'. -/
def shapeWayCard : Claim7 := { stood := { row := shapeWayRow, standIns := [], harness := (true, "0c49d9aaebdeaacfc109fc2680f70ee5f64ee3f819b1f12b2c5ae38ff55c5273"), looks := false }, kinds := [], alts := [], laidByText := true, laidKinds := [.data, .pinned], laidTests := true, laidLooks := .later }
def ShapeWayCardSaid : Prop := Claim7.holds Tryd.pinned (.plain (OpenSpec.ofChange shapeWaySpec)) shapeWayCard

/-- THE TIED CARD OF 'dossierlaw12.ShapePaths'. -/
def shapePathsCard : Claim7 := { stood := { row := shapePathsRow, standIns := [], harness := (true, "0c49d9aaebdeaacfc109fc2680f70ee5f64ee3f819b1f12b2c5ae38ff55c5273"), looks := false }, kinds := [], alts := [], laidByText := true, laidKinds := [.data, .pinned], laidTests := true, laidLooks := .later }
def ShapePathsCardSaid : Prop := Claim7.holds Tryd.pinned (.plain (OpenSpec.ofChange shapePathsSpec)) shapePathsCard

/-- THE SECOND FORM's CARD OF 'dossierlaw12.ShapeOrders'. -/
def shapeOrdersUptoCard : Claim7 := { stood := { row := shapeOrdersUptoRow, standIns := [], harness := (true, "0c49d9aaebdeaacfc109fc2680f70ee5f64ee3f819b1f12b2c5ae38ff55c5273"), looks := false }, kinds := [], alts := [], laidByText := true, laidKinds := [.data, .pinned], laidTests := true, laidLooks := .later }
def ShapeOrdersUptoCardSaid : Prop := Claim7.holds Tryd.pinned (.plain (OpenSpec.upto shapeOrdersSpec)) shapeOrdersUptoCard

/-- THE SECOND FORM's CARD OF 'dossierlaw12.ShapeWay'. -/
def shapeWayUptoCard : Claim7 := { stood := { row := shapeWayUptoRow, standIns := [], harness := (true, "0c49d9aaebdeaacfc109fc2680f70ee5f64ee3f819b1f12b2c5ae38ff55c5273"), looks := false }, kinds := [], alts := [], laidByText := true, laidKinds := [.data, .pinned], laidTests := true, laidLooks := .later }
def ShapeWayUptoCardSaid : Prop := Claim7.holds Tryd.pinned (.plain (OpenSpec.upto shapeWaySpec)) shapeWayUptoCard

/-- THE SECOND FORM's CARD OF 'dossierlaw12.ShapePaths'. -/
def shapePathsUptoCard : Claim7 := { stood := { row := shapePathsUptoRow, standIns := [], harness := (true, "0c49d9aaebdeaacfc109fc2680f70ee5f64ee3f819b1f12b2c5ae38ff55c5273"), looks := false }, kinds := [], alts := [], laidByText := true, laidKinds := [.data, .pinned], laidTests := true, laidLooks := .later }
def ShapePathsUptoCardSaid : Prop := Claim7.holds Tryd.pinned (.plain (OpenSpec.upto shapePathsSpec)) shapePathsUptoCard
end Rows
end Go.Proofs.YthdbbamkjmogfaaDoor
