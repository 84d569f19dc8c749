/-
  No cell of these rows narrows 'for every input' (looked for: loops, veiled, ifaces, maps, wideKeys, modest, calm, conditions, laid).
  DERIVED. THE GIVEN ROWS OF THIS SEAT. 7 by the template 'for every input the law returns true; each argument reads behind the call as it read before'; 0 by the template 'total and deterministic' (their statements: YtamapbbfabkglaaTotals.lean).
  GIVEN WITH THE SEED: the statements are not yours to turn. If you find one false, say at which input.
  Laid BY PROGRAM, IN A SANDBOX (cutbox-rows.mjs): the forced cells as the released guide's own fill.sh prints them over the translation e2076a277424c821… (all of the seat's roots in one cut). By AI agents, Wed Nov 11 2026. No macro, syntax, notation, axiom, sorry.
-/
import Derived.Test.YtamapbbfabkglaaChecked
import GoSem.Claim
import GoSem.ClaimJoined
import GoSem.ClaimMapViews
import Derived.JoinedTies
import Derived.KernelRfl
namespace Go.Proofs.Ytamapbbfabkglaa
/- THE CELL 'sum', in the pinned program and in every row, IS THE sha256 OF THE DUMP (.gsa) THAT YtamapbbfabkglaaProg.lean LOADS. Nothing in Lean hashes anything: it is a label: what it is worth is what the hold of that sum in a sandbox is worth. -/
noncomputable def Try.pinned : Pinned := { name := "ytamapbbfabkglaa", sum := "e2076a277424c8216431fd8e07380e1cca124ee2fa5f2df2a62a51ce706aab58", checked := Try.checked }
namespace Rows
def none {H : Type} : Left H := { results := [], args := [] }

/-- 'spiritlevellaw09.DeltasNumbers': WHATEVER THE INPUT: true; the input reads as it did. -/
def deltasNumbersSpec : ChangeSpec := { name := "deltasNumbers", fn := fun _ => fun
  | [d1, d2] => { results := [.lit (.bool true)], args := [d1, d2] }
  | _ => none }
def deltasNumbersRow : OpenClaim := { program := "ytamapbbfabkglaa", sum := "e2076a277424c8216431fd8e07380e1cca124ee2fa5f2df2a62a51ce706aab58", func := "spiritlevel/spiritlevellaw09.DeltasNumbers", spec := "deltasNumbers", recurses := true, apart := false }
def DeltasNumbersSaid : Prop := deltasNumbersRow.holds Try.pinned (OpenSpec.ofChange deltasNumbersSpec)

/-- ITS FALSE NEIGHBOUR: 'it returns false'. Refute it at one input. -/
def deltasNumbersWrong : ChangeSpec := { name := "deltasNumbers", fn := fun _ => fun
  | [d1, d2] => { results := [.lit (.bool false)], args := [d1, d2] }
  | _ => none }
def DeltasNumbersWrongFalsely : Prop := deltasNumbersRow.holds Try.pinned (OpenSpec.ofChange deltasNumbersWrong)

/-- 'spiritlevellaw09.DeltasNames': WHATEVER THE INPUT: true; the input reads as it did. -/
def deltasNamesSpec : ChangeSpec := { name := "deltasNames", fn := fun _ => fun
  | [] => { results := [.lit (.bool true)], args := [] }
  | _ => none }
def deltasNamesRow : OpenClaim := { program := "ytamapbbfabkglaa", sum := "e2076a277424c8216431fd8e07380e1cca124ee2fa5f2df2a62a51ce706aab58", func := "spiritlevel/spiritlevellaw09.DeltasNames", spec := "deltasNames", apart := false }
def DeltasNamesSaid : Prop := deltasNamesRow.holds Try.pinned (OpenSpec.ofChange deltasNamesSpec)

/-- ITS FALSE NEIGHBOUR: 'it returns false'. Refute it at one input. -/
def deltasNamesWrong : ChangeSpec := { name := "deltasNames", fn := fun _ => fun
  | [] => { results := [.lit (.bool false)], args := [] }
  | _ => none }
def DeltasNamesWrongFalsely : Prop := deltasNamesRow.holds Try.pinned (OpenSpec.ofChange deltasNamesWrong)

/-- 'spiritlevellaw09.DeltasGates': WHATEVER THE INPUT: true; the input reads as it did. -/
def deltasGatesSpec : ChangeSpec := { name := "deltasGates", fn := fun _ => fun
  | [d1, d2, d3, d4] => { results := [.lit (.bool true)], args := [d1, d2, d3, d4] }
  | _ => none }
def deltasGatesRow : OpenClaim := { program := "ytamapbbfabkglaa", sum := "e2076a277424c8216431fd8e07380e1cca124ee2fa5f2df2a62a51ce706aab58", func := "spiritlevel/spiritlevellaw09.DeltasGates", spec := "deltasGates", recurses := true, apart := false }
def DeltasGatesSaid : Prop := deltasGatesRow.holds Try.pinned (OpenSpec.ofChange deltasGatesSpec)

/-- ITS FALSE NEIGHBOUR: 'it returns false'. Refute it at one input. -/
def deltasGatesWrong : ChangeSpec := { name := "deltasGates", fn := fun _ => fun
  | [d1, d2, d3, d4] => { results := [.lit (.bool false)], args := [d1, d2, d3, d4] }
  | _ => none }
def DeltasGatesWrongFalsely : Prop := deltasGatesRow.holds Try.pinned (OpenSpec.ofChange deltasGatesWrong)

/-- 'spiritlevellaw09.DeltasOne': WHATEVER THE INPUT: true; the input reads as it did. -/
def deltasOneSpec : ChangeSpec := { name := "deltasOne", fn := fun _ => fun
  | [d1, d2] => { results := [.lit (.bool true)], args := [d1, d2] }
  | _ => none }
def deltasOneRow : OpenClaim := { program := "ytamapbbfabkglaa", sum := "e2076a277424c8216431fd8e07380e1cca124ee2fa5f2df2a62a51ce706aab58", func := "spiritlevel/spiritlevellaw09.DeltasOne", spec := "deltasOne", apart := false }
def DeltasOneSaid : Prop := deltasOneRow.holds Try.pinned (OpenSpec.ofChange deltasOneSpec)

/-- ITS FALSE NEIGHBOUR: 'it returns false'. Refute it at one input. -/
def deltasOneWrong : ChangeSpec := { name := "deltasOne", fn := fun _ => fun
  | [d1, d2] => { results := [.lit (.bool false)], args := [d1, d2] }
  | _ => none }
def DeltasOneWrongFalsely : Prop := deltasOneRow.holds Try.pinned (OpenSpec.ofChange deltasOneWrong)

/-- 'spiritlevellaw09.DeltasBack': WHATEVER THE INPUT: true; the input reads as it did. -/
def deltasBackSpec : ChangeSpec := { name := "deltasBack", fn := fun _ => fun
  | [d1, d2, d3, d4] => { results := [.lit (.bool true)], args := [d1, d2, d3, d4] }
  | _ => none }
def deltasBackRow : OpenClaim := { program := "ytamapbbfabkglaa", sum := "e2076a277424c8216431fd8e07380e1cca124ee2fa5f2df2a62a51ce706aab58", func := "spiritlevel/spiritlevellaw09.DeltasBack", spec := "deltasBack", apart := false }
def DeltasBackSaid : Prop := deltasBackRow.holds Try.pinned (OpenSpec.ofChange deltasBackSpec)

/-- ITS FALSE NEIGHBOUR: 'it returns false'. Refute it at one input. -/
def deltasBackWrong : ChangeSpec := { name := "deltasBack", fn := fun _ => fun
  | [d1, d2, d3, d4] => { results := [.lit (.bool false)], args := [d1, d2, d3, d4] }
  | _ => none }
def DeltasBackWrongFalsely : Prop := deltasBackRow.holds Try.pinned (OpenSpec.ofChange deltasBackWrong)

/-- 'spiritlevellaw09.DeltasRight': WHATEVER THE INPUT: true; the input reads as it did. -/
def deltasRightSpec : ChangeSpec := { name := "deltasRight", fn := fun _ => fun
  | [d1, d2, d3] => { results := [.lit (.bool true)], args := [d1, d2, d3] }
  | _ => none }
def deltasRightRow : OpenClaim := { program := "ytamapbbfabkglaa", sum := "e2076a277424c8216431fd8e07380e1cca124ee2fa5f2df2a62a51ce706aab58", func := "spiritlevel/spiritlevellaw09.DeltasRight", spec := "deltasRight", apart := false }
def DeltasRightSaid : Prop := deltasRightRow.holds Try.pinned (OpenSpec.ofChange deltasRightSpec)

/-- ITS FALSE NEIGHBOUR: 'it returns false'. Refute it at one input. -/
def deltasRightWrong : ChangeSpec := { name := "deltasRight", fn := fun _ => fun
  | [d1, d2, d3] => { results := [.lit (.bool false)], args := [d1, d2, d3] }
  | _ => none }
def DeltasRightWrongFalsely : Prop := deltasRightRow.holds Try.pinned (OpenSpec.ofChange deltasRightWrong)

/-- 'spiritlevellaw09.DeltasMore': WHATEVER THE INPUT: true; the input reads as it did. -/
def deltasMoreSpec : ChangeSpec := { name := "deltasMore", fn := fun _ => fun
  | [d1, d2] => { results := [.lit (.bool true)], args := [d1, d2] }
  | _ => none }
def deltasMoreRow : OpenClaim := { program := "ytamapbbfabkglaa", sum := "e2076a277424c8216431fd8e07380e1cca124ee2fa5f2df2a62a51ce706aab58", func := "spiritlevel/spiritlevellaw09.DeltasMore", spec := "deltasMore", apart := false }
def DeltasMoreSaid : Prop := deltasMoreRow.holds Try.pinned (OpenSpec.ofChange deltasMoreSpec)

/-- ITS FALSE NEIGHBOUR: 'it returns false'. Refute it at one input. -/
def deltasMoreWrong : ChangeSpec := { name := "deltasMore", fn := fun _ => fun
  | [d1, d2] => { results := [.lit (.bool false)], args := [d1, d2] }
  | _ => none }
def DeltasMoreWrongFalsely : Prop := deltasMoreRow.holds Try.pinned (OpenSpec.ofChange deltasMoreWrong)

/- THE SECOND FORM. 'bulk': how many values and letters a reading holds, each counted each time it is reached (what is shared counts as often as it is met; a slice's spare places count too). A statement '..UptoSaid' is the law's where the arguments, and the package variables that the reading takes, are together of bulk at most 1048576: NARROWER than '..Said'. Prove '..Said' where nothing that the law and all that it calls make is longer than what came in: it says more and counts as full. Else prove '..UptoSaid'. A law counts once. -/
mutual
def uptoBulk {H : Type} : DataW H → Nat
  | .lit (.string bytes) => bytes.length + 1
  | .lit _ => 1
  | .nil => 1
  | .ptr d => uptoBulk d + 1
  | .slice elems spare => uptoBulkAll elems + uptoBulkAll spare + 1
  | .agg parts => uptoBulkAll parts + 1
  | .iface _ d => uptoBulk d + 1
  | .map entries => uptoBulkEntries entries + 1
  | .held _ => 1
def uptoBulkAll {H : Type} : List (DataW H) → Nat
  | [] => 0
  | d :: r => uptoBulk d + uptoBulkAll r
def uptoBulkEntries {H : Type} : List (Lit × DataW H) → Nat
  | [] => 0
  | x :: r => uptoBulkEntry x + uptoBulkEntries r
def uptoBulkEntry {H : Type} : Lit × DataW H → Nat
  | (.string bytes, d) => bytes.length + uptoBulk d + 1
  | (_, d) => uptoBulk d + 1
 end
def uptoSmall : (H : Type) → List (DataW H) → Bool := fun _ ds => decide (uptoBulkAll ds ≤ 1048576)
def OpenSpec.upto (s : _root_.Go.ChangeSpec) : _root_.Go.OpenSpec := { _root_.Go.OpenSpec.ofChange s with cond := some uptoSmall }

/-- 'spiritlevellaw09.DeltasNumbers', WHERE WHAT IT READS IS OF BULK AT MOST 1048576: true; the input reads as it did. -/
def deltasNumbersUptoRow : OpenClaim := { program := "ytamapbbfabkglaa", sum := "e2076a277424c8216431fd8e07380e1cca124ee2fa5f2df2a62a51ce706aab58", func := "spiritlevel/spiritlevellaw09.DeltasNumbers", spec := "deltasNumbers", recurses := true, apart := false, narrowed := true }
def DeltasNumbersUptoSaid : Prop := deltasNumbersUptoRow.holds Try.pinned (OpenSpec.upto deltasNumbersSpec)

/-- 'spiritlevellaw09.DeltasNames', WHERE WHAT IT READS IS OF BULK AT MOST 1048576: true; the input reads as it did. -/
def deltasNamesUptoRow : OpenClaim := { program := "ytamapbbfabkglaa", sum := "e2076a277424c8216431fd8e07380e1cca124ee2fa5f2df2a62a51ce706aab58", func := "spiritlevel/spiritlevellaw09.DeltasNames", spec := "deltasNames", apart := false, narrowed := true }
def DeltasNamesUptoSaid : Prop := deltasNamesUptoRow.holds Try.pinned (OpenSpec.upto deltasNamesSpec)

/-- 'spiritlevellaw09.DeltasGates', WHERE WHAT IT READS IS OF BULK AT MOST 1048576: true; the input reads as it did. -/
def deltasGatesUptoRow : OpenClaim := { program := "ytamapbbfabkglaa", sum := "e2076a277424c8216431fd8e07380e1cca124ee2fa5f2df2a62a51ce706aab58", func := "spiritlevel/spiritlevellaw09.DeltasGates", spec := "deltasGates", recurses := true, apart := false, narrowed := true }
def DeltasGatesUptoSaid : Prop := deltasGatesUptoRow.holds Try.pinned (OpenSpec.upto deltasGatesSpec)

/-- 'spiritlevellaw09.DeltasOne', WHERE WHAT IT READS IS OF BULK AT MOST 1048576: true; the input reads as it did. -/
def deltasOneUptoRow : OpenClaim := { program := "ytamapbbfabkglaa", sum := "e2076a277424c8216431fd8e07380e1cca124ee2fa5f2df2a62a51ce706aab58", func := "spiritlevel/spiritlevellaw09.DeltasOne", spec := "deltasOne", apart := false, narrowed := true }
def DeltasOneUptoSaid : Prop := deltasOneUptoRow.holds Try.pinned (OpenSpec.upto deltasOneSpec)

/-- 'spiritlevellaw09.DeltasBack', WHERE WHAT IT READS IS OF BULK AT MOST 1048576: true; the input reads as it did. -/
def deltasBackUptoRow : OpenClaim := { program := "ytamapbbfabkglaa", sum := "e2076a277424c8216431fd8e07380e1cca124ee2fa5f2df2a62a51ce706aab58", func := "spiritlevel/spiritlevellaw09.DeltasBack", spec := "deltasBack", apart := false, narrowed := true }
def DeltasBackUptoSaid : Prop := deltasBackUptoRow.holds Try.pinned (OpenSpec.upto deltasBackSpec)

/-- 'spiritlevellaw09.DeltasRight', WHERE WHAT IT READS IS OF BULK AT MOST 1048576: true; the input reads as it did. -/
def deltasRightUptoRow : OpenClaim := { program := "ytamapbbfabkglaa", sum := "e2076a277424c8216431fd8e07380e1cca124ee2fa5f2df2a62a51ce706aab58", func := "spiritlevel/spiritlevellaw09.DeltasRight", spec := "deltasRight", apart := false, narrowed := true }
def DeltasRightUptoSaid : Prop := deltasRightUptoRow.holds Try.pinned (OpenSpec.upto deltasRightSpec)

/-- 'spiritlevellaw09.DeltasMore', WHERE WHAT IT READS IS OF BULK AT MOST 1048576: true; the input reads as it did. -/
def deltasMoreUptoRow : OpenClaim := { program := "ytamapbbfabkglaa", sum := "e2076a277424c8216431fd8e07380e1cca124ee2fa5f2df2a62a51ce706aab58", func := "spiritlevel/spiritlevellaw09.DeltasMore", spec := "deltasMore", apart := false, narrowed := true }
def DeltasMoreUptoSaid : Prop := deltasMoreUptoRow.holds Try.pinned (OpenSpec.upto deltasMoreSpec)

end Rows
end Go.Proofs.Ytamapbbfabkglaa
