/-
  No cell of these rows narrows 'for every input' (looked for: loops, veiled, ifaces, maps, wideKeys, modest, calm, conditions, laid).
  DERIVED. THE GIVEN ROWS OF THIS SEAT. 4 by the template 'for every input the law returns true; each argument reads behind the call as it read before'; 0 by the template 'total and deterministic' (their statements: YtbbefbgomdmldaaTotals.lean).
  GIVEN WITH THE SEED: the statements are not yours to turn. If you find one false, say at which input.
  Laid BY PROGRAM, IN A SANDBOX (cutbox-rows.mjs): the forced cells as the released guide's own fill.sh prints them over the translation 806ef5889a6aa862… (all of the seat's roots in one cut). By AI agents, Wed Nov 11 2026. No macro, syntax, notation, axiom, sorry.
-/
import Derived.Test.YtbbefbgomdmldaaChecked
import GoSem.Claim
import GoSem.ClaimJoined
import GoSem.ClaimMapViews
import Derived.JoinedTies
import Derived.KernelRfl
namespace Go.Proofs.Ytbbefbgomdmldaa
/- THE CELL 'sum', in the pinned program and in every row, IS THE sha256 OF THE DUMP (.gsa) THAT YtbbefbgomdmldaaProg.lean LOADS. Nothing in Lean hashes anything: it is a label: what it is worth is what the hold of that sum in a sandbox is worth. -/
noncomputable def Try.pinned : Pinned := { name := "ytbbefbgomdmldaa", sum := "806ef5889a6aa8627ad7846c90ab6d89b4d3ea4f842216fa271cab1c41857fa2", checked := Try.checked }
namespace Rows
def none {H : Type} : Left H := { results := [], args := [] }

/-- 'spiritlevellaw03.OrderMoved': WHATEVER THE INPUT: true; the input reads as it did. -/
def orderMovedSpec : ChangeSpec := { name := "orderMoved", fn := fun _ => fun
  | [d1, d2] => { results := [.lit (.bool true)], args := [d1, d2] }
  | _ => none }
def orderMovedRow : OpenClaim := { program := "ytbbefbgomdmldaa", sum := "806ef5889a6aa8627ad7846c90ab6d89b4d3ea4f842216fa271cab1c41857fa2", func := "spiritlevel/spiritlevellaw03.OrderMoved", spec := "orderMoved", unfollowed := true, recurses := true, apart := false }
def OrderMovedSaid : Prop := orderMovedRow.holds Try.pinned (OpenSpec.ofChange orderMovedSpec)

/-- ITS FALSE NEIGHBOUR: 'it returns false'. Refute it at one input. -/
def orderMovedWrong : ChangeSpec := { name := "orderMoved", fn := fun _ => fun
  | [d1, d2] => { results := [.lit (.bool false)], args := [d1, d2] }
  | _ => none }
def OrderMovedWrongFalsely : Prop := orderMovedRow.holds Try.pinned (OpenSpec.ofChange orderMovedWrong)

/-- 'spiritlevellaw03.OrderBefore': WHATEVER THE INPUT: true; the input reads as it did. -/
def orderBeforeSpec : ChangeSpec := { name := "orderBefore", fn := fun _ => fun
  | [d] => { results := [.lit (.bool true)], args := [d] }
  | _ => none }
def orderBeforeRow : OpenClaim := { program := "ytbbefbgomdmldaa", sum := "806ef5889a6aa8627ad7846c90ab6d89b4d3ea4f842216fa271cab1c41857fa2", func := "spiritlevel/spiritlevellaw03.OrderBefore", spec := "orderBefore", unfollowed := true, recurses := true, apart := false }
def OrderBeforeSaid : Prop := orderBeforeRow.holds Try.pinned (OpenSpec.ofChange orderBeforeSpec)

/-- ITS FALSE NEIGHBOUR: 'it returns false'. Refute it at one input. -/
def orderBeforeWrong : ChangeSpec := { name := "orderBefore", fn := fun _ => fun
  | [d] => { results := [.lit (.bool false)], args := [d] }
  | _ => none }
def OrderBeforeWrongFalsely : Prop := orderBeforeRow.holds Try.pinned (OpenSpec.ofChange orderBeforeWrong)

/-- 'spiritlevellaw03.OrderTurned': WHATEVER THE INPUT: true; the input reads as it did. -/
def orderTurnedSpec : ChangeSpec := { name := "orderTurned", fn := fun _ => fun
  | [d1, d2] => { results := [.lit (.bool true)], args := [d1, d2] }
  | _ => none }
def orderTurnedRow : OpenClaim := { program := "ytbbefbgomdmldaa", sum := "806ef5889a6aa8627ad7846c90ab6d89b4d3ea4f842216fa271cab1c41857fa2", func := "spiritlevel/spiritlevellaw03.OrderTurned", spec := "orderTurned", unfollowed := true, recurses := true, apart := false }
def OrderTurnedSaid : Prop := orderTurnedRow.holds Try.pinned (OpenSpec.ofChange orderTurnedSpec)

/-- ITS FALSE NEIGHBOUR: 'it returns false'. Refute it at one input. -/
def orderTurnedWrong : ChangeSpec := { name := "orderTurned", fn := fun _ => fun
  | [d1, d2] => { results := [.lit (.bool false)], args := [d1, d2] }
  | _ => none }
def OrderTurnedWrongFalsely : Prop := orderTurnedRow.holds Try.pinned (OpenSpec.ofChange orderTurnedWrong)

/-- 'spiritlevellaw03.OrderNames': WHATEVER THE INPUT: true; the input reads as it did. -/
def orderNamesSpec : ChangeSpec := { name := "orderNames", fn := fun _ => fun
  | [] => { results := [.lit (.bool true)], args := [] }
  | _ => none }
def orderNamesRow : OpenClaim := { program := "ytbbefbgomdmldaa", sum := "806ef5889a6aa8627ad7846c90ab6d89b4d3ea4f842216fa271cab1c41857fa2", func := "spiritlevel/spiritlevellaw03.OrderNames", spec := "orderNames", unfollowed := true, recurses := true, apart := false }
def OrderNamesSaid : Prop := orderNamesRow.holds Try.pinned (OpenSpec.ofChange orderNamesSpec)

/-- ITS FALSE NEIGHBOUR: 'it returns false'. Refute it at one input. -/
def orderNamesWrong : ChangeSpec := { name := "orderNames", fn := fun _ => fun
  | [] => { results := [.lit (.bool false)], args := [] }
  | _ => none }
def OrderNamesWrongFalsely : Prop := orderNamesRow.holds Try.pinned (OpenSpec.ofChange orderNamesWrong)

/- THE SECOND FORM. 'bulk': how many values and letters a reading holds, each counted each time it is reached (what is shared counts as often as it is met; a slice's spare places count too). A statement '..UptoSaid' is the law's where the arguments, and the package variables that the reading takes, are together of bulk at most 1048576: NARROWER than '..Said'. Prove '..Said' where nothing that the law and all that it calls make is longer than what came in: it says more and counts as full. Else prove '..UptoSaid'. A law counts once. -/
mutual
def uptoBulk {H : Type} : DataW H → Nat
  | .lit (.string bytes) => bytes.length + 1
  | .lit _ => 1
  | .nil => 1
  | .ptr d => uptoBulk d + 1
  | .slice elems spare => uptoBulkAll elems + uptoBulkAll spare + 1
  | .agg parts => uptoBulkAll parts + 1
  | .iface _ d => uptoBulk d + 1
  | .map entries => uptoBulkEntries entries + 1
  | .held _ => 1
def uptoBulkAll {H : Type} : List (DataW H) → Nat
  | [] => 0
  | d :: r => uptoBulk d + uptoBulkAll r
def uptoBulkEntries {H : Type} : List (Lit × DataW H) → Nat
  | [] => 0
  | x :: r => uptoBulkEntry x + uptoBulkEntries r
def uptoBulkEntry {H : Type} : Lit × DataW H → Nat
  | (.string bytes, d) => bytes.length + uptoBulk d + 1
  | (_, d) => uptoBulk d + 1
 end
def uptoSmall : (H : Type) → List (DataW H) → Bool := fun _ ds => decide (uptoBulkAll ds ≤ 1048576)
def OpenSpec.upto (s : _root_.Go.ChangeSpec) : _root_.Go.OpenSpec := { _root_.Go.OpenSpec.ofChange s with cond := some uptoSmall }

/-- 'spiritlevellaw03.OrderMoved', WHERE WHAT IT READS IS OF BULK AT MOST 1048576: true; the input reads as it did. -/
def orderMovedUptoRow : OpenClaim := { program := "ytbbefbgomdmldaa", sum := "806ef5889a6aa8627ad7846c90ab6d89b4d3ea4f842216fa271cab1c41857fa2", func := "spiritlevel/spiritlevellaw03.OrderMoved", spec := "orderMoved", unfollowed := true, recurses := true, apart := false, narrowed := true }
def OrderMovedUptoSaid : Prop := orderMovedUptoRow.holds Try.pinned (OpenSpec.upto orderMovedSpec)

/-- 'spiritlevellaw03.OrderBefore', WHERE WHAT IT READS IS OF BULK AT MOST 1048576: true; the input reads as it did. -/
def orderBeforeUptoRow : OpenClaim := { program := "ytbbefbgomdmldaa", sum := "806ef5889a6aa8627ad7846c90ab6d89b4d3ea4f842216fa271cab1c41857fa2", func := "spiritlevel/spiritlevellaw03.OrderBefore", spec := "orderBefore", unfollowed := true, recurses := true, apart := false, narrowed := true }
def OrderBeforeUptoSaid : Prop := orderBeforeUptoRow.holds Try.pinned (OpenSpec.upto orderBeforeSpec)

/-- 'spiritlevellaw03.OrderTurned', WHERE WHAT IT READS IS OF BULK AT MOST 1048576: true; the input reads as it did. -/
def orderTurnedUptoRow : OpenClaim := { program := "ytbbefbgomdmldaa", sum := "806ef5889a6aa8627ad7846c90ab6d89b4d3ea4f842216fa271cab1c41857fa2", func := "spiritlevel/spiritlevellaw03.OrderTurned", spec := "orderTurned", unfollowed := true, recurses := true, apart := false, narrowed := true }
def OrderTurnedUptoSaid : Prop := orderTurnedUptoRow.holds Try.pinned (OpenSpec.upto orderTurnedSpec)

/-- 'spiritlevellaw03.OrderNames', WHERE WHAT IT READS IS OF BULK AT MOST 1048576: true; the input reads as it did. -/
def orderNamesUptoRow : OpenClaim := { program := "ytbbefbgomdmldaa", sum := "806ef5889a6aa8627ad7846c90ab6d89b4d3ea4f842216fa271cab1c41857fa2", func := "spiritlevel/spiritlevellaw03.OrderNames", spec := "orderNames", unfollowed := true, recurses := true, apart := false, narrowed := true }
def OrderNamesUptoSaid : Prop := orderNamesUptoRow.holds Try.pinned (OpenSpec.upto orderNamesSpec)

end Rows
end Go.Proofs.Ytbbefbgomdmldaa
