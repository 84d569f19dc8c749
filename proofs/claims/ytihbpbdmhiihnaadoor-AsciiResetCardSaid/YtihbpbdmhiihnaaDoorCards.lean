/-
  DERIVED. GIVEN WITH THE SEED: THE CARDS: each row of YtihbpbdmhiihnaaDoorRows.lean that lists a variable, with what it lists TIED to the program's text (the seventh form; the later family's looks); each row that meets fmt, with fmt's text TOLD by the authors' own Lean function (tested against real Go, not proved from fmt's source: count such statements apart). THE CARD IS WHAT COUNTS. Prove the row's statement (the work); the ties are given (YtihbpbdmhiihnaaDoorTie.lean); close each card by the builder's one call (the guide's Derived/Test/ToyasCard.lean, 'card_holds'). Laid BY PROGRAM, IN A SANDBOX (cutbox-door.mjs). By AI agents, Wed Nov 11 2026. No macro, syntax, notation, axiom, sorry.
-/
import Derived.Test.YtihbpbdmhiihnaaDoorRows
import GoSem.ClaimSeven
namespace Go.Proofs.YtihbpbdmhiihnaaDoor
namespace Rows

/-- THE TIED CARD OF 'spiritlevellaw07.AsciiRaws'. -/
def asciiRawsCard : Claim7 := { stood := { row := asciiRawsRow, standIns := [], harness := (true, "c136b6ce96892a5fbb406ffda3834694272a3b7048d92624374dc243a7d4ab05"), looks := true }, kinds := [], alts := [], laidByText := true, laidKinds := [.data, .data, .data], laidTests := true, laidLooks := .later }
def AsciiRawsCardSaid : Prop := Claim7.holds Tryd.pinned (.plain (OpenSpec.ofChange asciiRawsSpec)) asciiRawsCard

/-- THE TIED CARD OF 'spiritlevellaw07.AsciiTexts'. -/
def asciiTextsCard : Claim7 := { stood := { row := asciiTextsRow, standIns := [], harness := (true, "c136b6ce96892a5fbb406ffda3834694272a3b7048d92624374dc243a7d4ab05"), looks := true }, kinds := [], alts := [], laidByText := true, laidKinds := [.data, .data, .data], laidTests := true, laidLooks := .later }
def AsciiTextsCardSaid : Prop := Claim7.holds Tryd.pinned (.plain (OpenSpec.ofChange asciiTextsSpec)) asciiTextsCard

/-- THE TIED CARD OF 'spiritlevellaw07.AsciiOne'. -/
def asciiOneCard : Claim7 := { stood := { row := asciiOneRow, standIns := [], harness := (true, "c136b6ce96892a5fbb406ffda3834694272a3b7048d92624374dc243a7d4ab05"), looks := true }, kinds := [], alts := [], laidByText := true, laidKinds := [.data, .data, .data], laidTests := true, laidLooks := .later }
def AsciiOneCardSaid : Prop := Claim7.holds Tryd.pinned (.plain (OpenSpec.ofChange asciiOneSpec)) asciiOneCard

/-- THE TIED CARD OF 'spiritlevellaw07.AsciiSame'. -/
def asciiSameCard : Claim7 := { stood := { row := asciiSameRow, standIns := [], harness := (true, "c136b6ce96892a5fbb406ffda3834694272a3b7048d92624374dc243a7d4ab05"), looks := true }, kinds := [], alts := [], laidByText := true, laidKinds := [.data, .data, .data], laidTests := true, laidLooks := .later }
def AsciiSameCardSaid : Prop := Claim7.holds Tryd.pinned (.plain (OpenSpec.ofChange asciiSameSpec)) asciiSameCard

/-- THE TIED CARD OF 'spiritlevellaw07.AsciiReset'. -/
def asciiResetCard : Claim7 := { stood := { row := asciiResetRow, standIns := [], harness := (true, "c136b6ce96892a5fbb406ffda3834694272a3b7048d92624374dc243a7d4ab05"), looks := true }, kinds := [], alts := [], laidByText := true, laidKinds := [.data, .data, .data], laidTests := true, laidLooks := .later }
def AsciiResetCardSaid : Prop := Claim7.holds Tryd.pinned (.plain (OpenSpec.ofChange asciiResetSpec)) asciiResetCard

/-- THE TIED CARD OF 'spiritlevellaw07.AsciiLines'. -/
def asciiLinesCard : Claim7 := { stood := { row := asciiLinesRow, standIns := [], harness := (true, "c136b6ce96892a5fbb406ffda3834694272a3b7048d92624374dc243a7d4ab05"), looks := true }, kinds := [], alts := [], laidByText := true, laidKinds := [.data, .data, .data], laidTests := true, laidLooks := .later }
def AsciiLinesCardSaid : Prop := Claim7.holds Tryd.pinned (.plain (OpenSpec.ofChange asciiLinesSpec)) asciiLinesCard

/-- THE SECOND FORM's CARD OF 'spiritlevellaw07.AsciiRaws'. -/
def asciiRawsUptoCard : Claim7 := { stood := { row := asciiRawsUptoRow, standIns := [], harness := (true, "c136b6ce96892a5fbb406ffda3834694272a3b7048d92624374dc243a7d4ab05"), looks := true }, kinds := [], alts := [], laidByText := true, laidKinds := [.data, .data, .data], laidTests := true, laidLooks := .later }
def AsciiRawsUptoCardSaid : Prop := Claim7.holds Tryd.pinned (.plain (OpenSpec.upto asciiRawsSpec)) asciiRawsUptoCard

/-- THE SECOND FORM's CARD OF 'spiritlevellaw07.AsciiTexts'. -/
def asciiTextsUptoCard : Claim7 := { stood := { row := asciiTextsUptoRow, standIns := [], harness := (true, "c136b6ce96892a5fbb406ffda3834694272a3b7048d92624374dc243a7d4ab05"), looks := true }, kinds := [], alts := [], laidByText := true, laidKinds := [.data, .data, .data], laidTests := true, laidLooks := .later }
def AsciiTextsUptoCardSaid : Prop := Claim7.holds Tryd.pinned (.plain (OpenSpec.upto asciiTextsSpec)) asciiTextsUptoCard

/-- THE SECOND FORM's CARD OF 'spiritlevellaw07.AsciiOne'. -/
def asciiOneUptoCard : Claim7 := { stood := { row := asciiOneUptoRow, standIns := [], harness := (true, "c136b6ce96892a5fbb406ffda3834694272a3b7048d92624374dc243a7d4ab05"), looks := true }, kinds := [], alts := [], laidByText := true, laidKinds := [.data, .data, .data], laidTests := true, laidLooks := .later }
def AsciiOneUptoCardSaid : Prop := Claim7.holds Tryd.pinned (.plain (OpenSpec.upto asciiOneSpec)) asciiOneUptoCard

/-- THE SECOND FORM's CARD OF 'spiritlevellaw07.AsciiSame'. -/
def asciiSameUptoCard : Claim7 := { stood := { row := asciiSameUptoRow, standIns := [], harness := (true, "c136b6ce96892a5fbb406ffda3834694272a3b7048d92624374dc243a7d4ab05"), looks := true }, kinds := [], alts := [], laidByText := true, laidKinds := [.data, .data, .data], laidTests := true, laidLooks := .later }
def AsciiSameUptoCardSaid : Prop := Claim7.holds Tryd.pinned (.plain (OpenSpec.upto asciiSameSpec)) asciiSameUptoCard

/-- THE SECOND FORM's CARD OF 'spiritlevellaw07.AsciiReset'. -/
def asciiResetUptoCard : Claim7 := { stood := { row := asciiResetUptoRow, standIns := [], harness := (true, "c136b6ce96892a5fbb406ffda3834694272a3b7048d92624374dc243a7d4ab05"), looks := true }, kinds := [], alts := [], laidByText := true, laidKinds := [.data, .data, .data], laidTests := true, laidLooks := .later }
def AsciiResetUptoCardSaid : Prop := Claim7.holds Tryd.pinned (.plain (OpenSpec.upto asciiResetSpec)) asciiResetUptoCard

/-- THE SECOND FORM's CARD OF 'spiritlevellaw07.AsciiLines'. -/
def asciiLinesUptoCard : Claim7 := { stood := { row := asciiLinesUptoRow, standIns := [], harness := (true, "c136b6ce96892a5fbb406ffda3834694272a3b7048d92624374dc243a7d4ab05"), looks := true }, kinds := [], alts := [], laidByText := true, laidKinds := [.data, .data, .data], laidTests := true, laidLooks := .later }
def AsciiLinesUptoCardSaid : Prop := Claim7.holds Tryd.pinned (.plain (OpenSpec.upto asciiLinesSpec)) asciiLinesUptoCard
end Rows
end Go.Proofs.YtihbpbdmhiihnaaDoor
