/-
  DERIVED. GIVEN WITH THE SEED: THE CARDS: each row of YtccejdncpknbaaaGreatDoorRows.lean that lists a variable, with what it lists TIED to the program's text (the seventh form; the later family's looks); each row that meets fmt, with fmt's text TOLD by the authors' own Lean function (tested against real Go, not proved from fmt's source: count such statements apart). THE CARD IS WHAT COUNTS. Prove the row's statement (the work); the ties are given (YtccejdncpknbaaaGreatDoorTie.lean); close each card by the builder's one call (the guide's Derived/Test/ToyasCard.lean, 'card_holds'). Laid BY PROGRAM, IN A SANDBOX (cutbox-door.mjs). By AI agents, Wed Nov 11 2026. No macro, syntax, notation, axiom, sorry.
-/
import Derived.Test.YtccejdncpknbaaaGreatDoorRows
import GoSem.ClaimSeven
namespace Go.Proofs.YtccejdncpknbaaaGreatDoor
namespace Rows

/-- THE TIED CARD OF 'spiritlevellaw11.WitnessReads'. -/
def witnessReadsCard : Claim7 := { stood := { row := witnessReadsRow, standIns := [], harness := (true, "193f439f67d624c536cc7965709240a3b6796ce69c5c5b5e77caed2ceb7784ad"), looks := true }, kinds := [], alts := [], laidByText := true, laidKinds := [.data, .data, .data, .data, .sentinel, .sentinel, .pinned], laidTests := true, laidLooks := .later }
def WitnessReadsCardSaid : Prop := Claim7.holds Tryz.pinned (.plain (OpenSpec.ofChange witnessReadsSpec)) witnessReadsCard

/-- THE TIED CARD OF 'spiritlevellaw11.WitnessBack'. -/
def witnessBackCard : Claim7 := { stood := { row := witnessBackRow, standIns := [], harness := (true, "193f439f67d624c536cc7965709240a3b6796ce69c5c5b5e77caed2ceb7784ad"), looks := true }, kinds := [], alts := [], laidByText := true, laidKinds := [.data, .data, .data, .data, .sentinel, .sentinel, .pinned], laidTests := true, laidLooks := .later }
def WitnessBackCardSaid : Prop := Claim7.holds Tryz.pinned (.plain (OpenSpec.ofChange witnessBackSpec)) witnessBackCard

/-- THE TIED CARD OF 'spiritlevellaw11.WitnessFirst'. -/
def witnessFirstCard : Claim7 := { stood := { row := witnessFirstRow, standIns := [], harness := (true, "193f439f67d624c536cc7965709240a3b6796ce69c5c5b5e77caed2ceb7784ad"), looks := true }, kinds := [], alts := [], laidByText := true, laidKinds := [.data, .data, .data, .data, .sentinel, .sentinel, .pinned], laidTests := true, laidLooks := .later }
def WitnessFirstCardSaid : Prop := Claim7.holds Tryz.pinned (.plain (OpenSpec.ofChange witnessFirstSpec)) witnessFirstCard

/-- THE SECOND FORM's CARD OF 'spiritlevellaw11.WitnessReads'. -/
def witnessReadsUptoCard : Claim7 := { stood := { row := witnessReadsUptoRow, standIns := [], harness := (true, "193f439f67d624c536cc7965709240a3b6796ce69c5c5b5e77caed2ceb7784ad"), looks := true }, kinds := [], alts := [], laidByText := true, laidKinds := [.data, .data, .data, .data, .sentinel, .sentinel, .pinned], laidTests := true, laidLooks := .later }
def WitnessReadsUptoCardSaid : Prop := Claim7.holds Tryz.pinned (.plain (OpenSpec.upto witnessReadsSpec)) witnessReadsUptoCard

/-- THE SECOND FORM's CARD OF 'spiritlevellaw11.WitnessBack'. -/
def witnessBackUptoCard : Claim7 := { stood := { row := witnessBackUptoRow, standIns := [], harness := (true, "193f439f67d624c536cc7965709240a3b6796ce69c5c5b5e77caed2ceb7784ad"), looks := true }, kinds := [], alts := [], laidByText := true, laidKinds := [.data, .data, .data, .data, .sentinel, .sentinel, .pinned], laidTests := true, laidLooks := .later }
def WitnessBackUptoCardSaid : Prop := Claim7.holds Tryz.pinned (.plain (OpenSpec.upto witnessBackSpec)) witnessBackUptoCard

/-- THE SECOND FORM's CARD OF 'spiritlevellaw11.WitnessFirst'. -/
def witnessFirstUptoCard : Claim7 := { stood := { row := witnessFirstUptoRow, standIns := [], harness := (true, "193f439f67d624c536cc7965709240a3b6796ce69c5c5b5e77caed2ceb7784ad"), looks := true }, kinds := [], alts := [], laidByText := true, laidKinds := [.data, .data, .data, .data, .sentinel, .sentinel, .pinned], laidTests := true, laidLooks := .later }
def WitnessFirstUptoCardSaid : Prop := Claim7.holds Tryz.pinned (.plain (OpenSpec.upto witnessFirstSpec)) witnessFirstUptoCard
end Rows
end Go.Proofs.YtccejdncpknbaaaGreatDoor
