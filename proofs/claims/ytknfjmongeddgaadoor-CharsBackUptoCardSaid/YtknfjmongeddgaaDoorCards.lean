/-
  DERIVED. GIVEN WITH THE SEED: THE CARDS: each row of YtknfjmongeddgaaDoorRows.lean that lists a variable, with what it lists TIED to the program's text (the seventh form; the later family's looks); each row that meets fmt, with fmt's text TOLD by the authors' own Lean function (tested against real Go, not proved from fmt's source: count such statements apart). THE CARD IS WHAT COUNTS. Prove the row's statement (the work); the ties are given (YtknfjmongeddgaaDoorTie.lean); close each card by the builder's one call (the guide's Derived/Test/ToyasCard.lean, 'card_holds'). Laid BY PROGRAM, IN A SANDBOX (cutbox-door.mjs). By AI agents, Wed Nov 11 2026. No macro, syntax, notation, axiom, sorry.
-/
import Derived.Test.YtknfjmongeddgaaDoorRows
import GoSem.ClaimSeven
namespace Go.Proofs.YtknfjmongeddgaaDoor
namespace Rows

/-- THE TIED CARD OF 'dossierlaw01.CharsNames'. -/
def charsNamesCard : Claim7 := { stood := { row := charsNamesRow, standIns := [], harness := (true, "660f7b114b9166af1f188d50e6dc65a08801c7b41d8eea646b3c73ddfbffbf26"), looks := false }, kinds := [], alts := [], laidByText := true, laidKinds := [.data, .pinned], laidTests := true, laidLooks := .later }
def CharsNamesCardSaid : Prop := Claim7.holds Tryd.pinned (.plain (OpenSpec.ofChange charsNamesSpec)) charsNamesCard

/-- THE TIED CARD OF 'dossierlaw01.CharsNumbers'. -/
def charsNumbersCard : Claim7 := { stood := { row := charsNumbersRow, standIns := [], harness := (true, "660f7b114b9166af1f188d50e6dc65a08801c7b41d8eea646b3c73ddfbffbf26"), looks := false }, kinds := [], alts := [], laidByText := true, laidKinds := [.data, .pinned], laidTests := true, laidLooks := .later }
def CharsNumbersCardSaid : Prop := Claim7.holds Tryd.pinned (.plain (OpenSpec.ofChange charsNumbersSpec)) charsNumbersCard

/-- THE TIED CARD OF 'dossierlaw01.CharsDecode'. -/
def charsDecodeCard : Claim7 := { stood := { row := charsDecodeRow, standIns := [], harness := (true, "660f7b114b9166af1f188d50e6dc65a08801c7b41d8eea646b3c73ddfbffbf26"), looks := false }, kinds := [], alts := [], laidByText := true, laidKinds := [.data, .pinned], laidTests := true, laidLooks := .later }
def CharsDecodeCardSaid : Prop := Claim7.holds Tryd.pinned (.plain (OpenSpec.ofChange charsDecodeSpec)) charsDecodeCard

/-- THE TIED CARD OF 'dossierlaw01.CharsBack'. -/
def charsBackCard : Claim7 := { stood := { row := charsBackRow, standIns := [], harness := (true, "660f7b114b9166af1f188d50e6dc65a08801c7b41d8eea646b3c73ddfbffbf26"), looks := false }, kinds := [], alts := [], laidByText := true, laidKinds := [.data, .pinned], laidTests := true, laidLooks := .later }
def CharsBackCardSaid : Prop := Claim7.holds Tryd.pinned (.plain (OpenSpec.ofChange charsBackSpec)) charsBackCard

/-- THE SECOND FORM's CARD OF 'dossierlaw01.CharsNames'. -/
def charsNamesUptoCard : Claim7 := { stood := { row := charsNamesUptoRow, standIns := [], harness := (true, "660f7b114b9166af1f188d50e6dc65a08801c7b41d8eea646b3c73ddfbffbf26"), looks := false }, kinds := [], alts := [], laidByText := true, laidKinds := [.data, .pinned], laidTests := true, laidLooks := .later }
def CharsNamesUptoCardSaid : Prop := Claim7.holds Tryd.pinned (.plain (OpenSpec.upto charsNamesSpec)) charsNamesUptoCard

/-- THE SECOND FORM's CARD OF 'dossierlaw01.CharsNumbers'. -/
def charsNumbersUptoCard : Claim7 := { stood := { row := charsNumbersUptoRow, standIns := [], harness := (true, "660f7b114b9166af1f188d50e6dc65a08801c7b41d8eea646b3c73ddfbffbf26"), looks := false }, kinds := [], alts := [], laidByText := true, laidKinds := [.data, .pinned], laidTests := true, laidLooks := .later }
def CharsNumbersUptoCardSaid : Prop := Claim7.holds Tryd.pinned (.plain (OpenSpec.upto charsNumbersSpec)) charsNumbersUptoCard

/-- THE SECOND FORM's CARD OF 'dossierlaw01.CharsDecode'. -/
def charsDecodeUptoCard : Claim7 := { stood := { row := charsDecodeUptoRow, standIns := [], harness := (true, "660f7b114b9166af1f188d50e6dc65a08801c7b41d8eea646b3c73ddfbffbf26"), looks := false }, kinds := [], alts := [], laidByText := true, laidKinds := [.data, .pinned], laidTests := true, laidLooks := .later }
def CharsDecodeUptoCardSaid : Prop := Claim7.holds Tryd.pinned (.plain (OpenSpec.upto charsDecodeSpec)) charsDecodeUptoCard

/-- THE SECOND FORM's CARD OF 'dossierlaw01.CharsBack'. -/
def charsBackUptoCard : Claim7 := { stood := { row := charsBackUptoRow, standIns := [], harness := (true, "660f7b114b9166af1f188d50e6dc65a08801c7b41d8eea646b3c73ddfbffbf26"), looks := false }, kinds := [], alts := [], laidByText := true, laidKinds := [.data, .pinned], laidTests := true, laidLooks := .later }
def CharsBackUptoCardSaid : Prop := Claim7.holds Tryd.pinned (.plain (OpenSpec.upto charsBackSpec)) charsBackUptoCard
end Rows
end Go.Proofs.YtknfjmongeddgaaDoor
