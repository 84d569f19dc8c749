/-
  DERIVED. GIVEN WITH THE SEED: THE CARDS: each row of YtbamhlgkoimjoaaDoorRows.lean that lists a variable, with what it lists TIED to the program's text (the seventh form; the later family's looks); each row that meets fmt, with fmt's text TOLD by the authors' own Lean function (tested against real Go, not proved from fmt's source: count such statements apart). THE CARD IS WHAT COUNTS. Prove the row's statement (the work); the ties are given (YtbamhlgkoimjoaaDoorTie.lean); close each card by the builder's one call (the guide's Derived/Test/ToyasCard.lean, 'card_holds'). Laid BY PROGRAM, IN A SANDBOX (cutbox-door.mjs). By AI agents, Wed Nov 11 2026. No macro, syntax, notation, axiom, sorry.
-/
import Derived.Test.YtbamhlgkoimjoaaDoorRows
import GoSem.ClaimSeven
namespace Go.Proofs.YtbamhlgkoimjoaaDoor
namespace Rows

/-- THE TIED CARD OF 'spiritlevellaw11.WitnessNames'. -/
def witnessNamesCard : Claim7 := { stood := { row := witnessNamesRow, standIns := [], harness := (true, "9716a6cda396669117d5f87cab01e944d3b48ad22610a0363c0bf88b38e50579"), looks := true }, kinds := [], alts := [], laidByText := true, laidKinds := [.data, .data, .data, .data, .sentinel, .sentinel, .pinned], laidTests := true, laidLooks := .later }
def WitnessNamesCardSaid : Prop := Claim7.holds Tryd.pinned (.plain (OpenSpec.ofChange witnessNamesSpec)) witnessNamesCard

/-- THE SECOND FORM's CARD OF 'spiritlevellaw11.WitnessNames'. -/
def witnessNamesUptoCard : Claim7 := { stood := { row := witnessNamesUptoRow, standIns := [], harness := (true, "9716a6cda396669117d5f87cab01e944d3b48ad22610a0363c0bf88b38e50579"), looks := true }, kinds := [], alts := [], laidByText := true, laidKinds := [.data, .data, .data, .data, .sentinel, .sentinel, .pinned], laidTests := true, laidLooks := .later }
def WitnessNamesUptoCardSaid : Prop := Claim7.holds Tryd.pinned (.plain (OpenSpec.upto witnessNamesSpec)) witnessNamesUptoCard
end Rows
end Go.Proofs.YtbamhlgkoimjoaaDoor
