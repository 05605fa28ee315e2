/-
  DERIVED. GIVEN WITH THE SEED: THE CARDS: each row of YtfejiankcfifpaaDoorRows.lean that lists a variable, with what it lists TIED to the program's text (the seventh form; the later family's looks); each row that meets fmt, with fmt's text TOLD by the authors' own Lean function (tested against real Go, not proved from fmt's source: count such statements apart). THE CARD IS WHAT COUNTS. Prove the row's statement (the work); the ties are given (YtfejiankcfifpaaDoorTie.lean); close each card by the builder's one call (the guide's Derived/Test/ToyasCard.lean, 'card_holds'). Laid BY PROGRAM, IN A SANDBOX (cutbox-door.mjs). By AI agents, Wed Nov 11 2026. No macro, syntax, notation, axiom, sorry.
-/
import Derived.Test.YtfejiankcfifpaaDoorRows
import GoSem.ClaimSeven
namespace Go.Proofs.YtfejiankcfifpaaDoor
namespace Rows

/-- THE TIED CARD OF 'dossierlaw21.IndexNobody'. -/
def indexNobodyCard : Claim7 := { stood := { row := indexNobodyRow, standIns := [], harness := (true, "f1bc2bd7b173c02db502464f6b5c15b4ecbe1b89b1be0e2638d903b665f61557"), looks := false }, kinds := [], alts := [], laidByText := true, laidKinds := [.data, .pinned], laidTests := true, laidLooks := .later }
def IndexNobodyCardSaid : Prop := Claim7.holds Tryd.pinned (.plain (OpenSpec.ofChange indexNobodySpec)) indexNobodyCard

/-- THE SECOND FORM's CARD OF 'dossierlaw21.IndexNobody'. -/
def indexNobodyUptoCard : Claim7 := { stood := { row := indexNobodyUptoRow, standIns := [], harness := (true, "f1bc2bd7b173c02db502464f6b5c15b4ecbe1b89b1be0e2638d903b665f61557"), looks := false }, kinds := [], alts := [], laidByText := true, laidKinds := [.data, .pinned], laidTests := true, laidLooks := .later }
def IndexNobodyUptoCardSaid : Prop := Claim7.holds Tryd.pinned (.plain (OpenSpec.upto indexNobodySpec)) indexNobodyUptoCard
end Rows
end Go.Proofs.YtfejiankcfifpaaDoor
