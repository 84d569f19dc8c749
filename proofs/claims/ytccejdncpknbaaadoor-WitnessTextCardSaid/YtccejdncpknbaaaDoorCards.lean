/-
  DERIVED. GIVEN WITH THE SEED: THE CARDS: each row of YtccejdncpknbaaaDoorRows.lean that lists a variable, with what it lists TIED to the program's text (the seventh form; the later family's looks); each row that meets fmt, with fmt's text TOLD by the authors' own Lean function (tested against real Go, not proved from fmt's source: count such statements apart). THE CARD IS WHAT COUNTS. Prove the row's statement (the work); the ties are given (YtccejdncpknbaaaDoorTie.lean); close each card by the builder's one call (the guide's Derived/Test/ToyasCard.lean, 'card_holds'). Laid BY PROGRAM, IN A SANDBOX (cutbox-door.mjs). By AI agents, Wed Nov 11 2026. No macro, syntax, notation, axiom, sorry.
-/
import Derived.Test.YtccejdncpknbaaaDoorRows
import GoSem.ClaimSeven
namespace Go.Proofs.YtccejdncpknbaaaDoor
namespace Rows

/-- THE TIED CARD OF 'spiritlevellaw11.WitnessWrites'. -/
def witnessWritesCard : Claim7 := { stood := { row := witnessWritesRow, standIns := [], harness := (true, "01e64508cbc8e0ad8fe8bf9f0f4f432c1f08aa96a9ce31ff62a7a6db8a9be0d3"), looks := true }, kinds := [], alts := [], laidByText := true, laidKinds := [.data, .data, .data], laidTests := true, laidLooks := .later }
def WitnessWritesCardSaid : Prop := Claim7.holds Tryd.pinned (.plain (OpenSpec.ofChange witnessWritesSpec)) witnessWritesCard

/-- THE TIED CARD OF 'spiritlevellaw11.WitnessText'. -/
def witnessTextCard : Claim7 := { stood := { row := witnessTextRow, standIns := [], harness := (true, "01e64508cbc8e0ad8fe8bf9f0f4f432c1f08aa96a9ce31ff62a7a6db8a9be0d3"), looks := true }, kinds := [], alts := [], laidByText := true, laidKinds := [.data, .data, .data, .data, .sentinel, .sentinel, .pinned], laidTests := true, laidLooks := .later }
def WitnessTextCardSaid : Prop := Claim7.holds Tryd.pinned (.plain (OpenSpec.ofChange witnessTextSpec)) witnessTextCard

/-- THE TIED CARD OF 'spiritlevellaw11.WitnessOnce'. -/
def witnessOnceCard : Claim7 := { stood := { row := witnessOnceRow, standIns := [], harness := (true, "01e64508cbc8e0ad8fe8bf9f0f4f432c1f08aa96a9ce31ff62a7a6db8a9be0d3"), looks := true }, kinds := [], alts := [], laidByText := true, laidKinds := [.data, .data, .data, .data, .sentinel, .sentinel, .pinned], laidTests := true, laidLooks := .later }
def WitnessOnceCardSaid : Prop := Claim7.holds Tryd.pinned (.plain (OpenSpec.ofChange witnessOnceSpec)) witnessOnceCard

/-- THE TIED CARD OF 'spiritlevellaw10.BinaryWrites'. -/
def binaryWritesCard : Claim7 := { stood := { row := binaryWritesRow, standIns := [], harness := (true, "01e64508cbc8e0ad8fe8bf9f0f4f432c1f08aa96a9ce31ff62a7a6db8a9be0d3"), looks := true }, kinds := [], alts := [], laidByText := true, laidKinds := [.data, .data, .data], laidTests := true, laidLooks := .later }
def BinaryWritesCardSaid : Prop := Claim7.holds Tryd.pinned (.plain (OpenSpec.ofChange binaryWritesSpec)) binaryWritesCard

/-- THE SECOND FORM's CARD OF 'spiritlevellaw11.WitnessWrites'. -/
def witnessWritesUptoCard : Claim7 := { stood := { row := witnessWritesUptoRow, standIns := [], harness := (true, "01e64508cbc8e0ad8fe8bf9f0f4f432c1f08aa96a9ce31ff62a7a6db8a9be0d3"), looks := true }, kinds := [], alts := [], laidByText := true, laidKinds := [.data, .data, .data], laidTests := true, laidLooks := .later }
def WitnessWritesUptoCardSaid : Prop := Claim7.holds Tryd.pinned (.plain (OpenSpec.upto witnessWritesSpec)) witnessWritesUptoCard

/-- THE SECOND FORM's CARD OF 'spiritlevellaw11.WitnessText'. -/
def witnessTextUptoCard : Claim7 := { stood := { row := witnessTextUptoRow, standIns := [], harness := (true, "01e64508cbc8e0ad8fe8bf9f0f4f432c1f08aa96a9ce31ff62a7a6db8a9be0d3"), looks := true }, kinds := [], alts := [], laidByText := true, laidKinds := [.data, .data, .data, .data, .sentinel, .sentinel, .pinned], laidTests := true, laidLooks := .later }
def WitnessTextUptoCardSaid : Prop := Claim7.holds Tryd.pinned (.plain (OpenSpec.upto witnessTextSpec)) witnessTextUptoCard

/-- THE SECOND FORM's CARD OF 'spiritlevellaw11.WitnessOnce'. -/
def witnessOnceUptoCard : Claim7 := { stood := { row := witnessOnceUptoRow, standIns := [], harness := (true, "01e64508cbc8e0ad8fe8bf9f0f4f432c1f08aa96a9ce31ff62a7a6db8a9be0d3"), looks := true }, kinds := [], alts := [], laidByText := true, laidKinds := [.data, .data, .data, .data, .sentinel, .sentinel, .pinned], laidTests := true, laidLooks := .later }
def WitnessOnceUptoCardSaid : Prop := Claim7.holds Tryd.pinned (.plain (OpenSpec.upto witnessOnceSpec)) witnessOnceUptoCard

/-- THE SECOND FORM's CARD OF 'spiritlevellaw10.BinaryWrites'. -/
def binaryWritesUptoCard : Claim7 := { stood := { row := binaryWritesUptoRow, standIns := [], harness := (true, "01e64508cbc8e0ad8fe8bf9f0f4f432c1f08aa96a9ce31ff62a7a6db8a9be0d3"), looks := true }, kinds := [], alts := [], laidByText := true, laidKinds := [.data, .data, .data], laidTests := true, laidLooks := .later }
def BinaryWritesUptoCardSaid : Prop := Claim7.holds Tryd.pinned (.plain (OpenSpec.upto binaryWritesSpec)) binaryWritesUptoCard
end Rows
end Go.Proofs.YtccejdncpknbaaaDoor
