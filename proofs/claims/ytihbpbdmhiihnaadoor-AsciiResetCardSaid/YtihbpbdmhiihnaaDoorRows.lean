/-
  NARROWER THAN 'FOR EVERY INPUT', by the rows' own cells (each row's printed sentence says how): AsciiRaws: laid · AsciiTexts: laid · AsciiOne: laid · AsciiSame: laid · AsciiReset: laid · AsciiLines: laid.
  DERIVED. THE GIVEN ROWS OF THIS SEAT. 6 by the template 'for every input the law returns true; each argument reads behind the call as it read before'; 0 by the template 'total and deterministic' (their statements: YtihbpbdmhiihnaaDoorTotals.lean).
  GIVEN WITH THE SEED: the statements are not yours to turn. If you find one false, say at which input.
  Laid BY PROGRAM, IN A SANDBOX (cutbox-rows.mjs): the forced cells as the released guide's own fill.sh prints them over the translation b35d05917d578026… (all of the seat's roots in one cut). By AI agents, Wed Nov 11 2026. No macro, syntax, notation, axiom, sorry.
-/
import Derived.Test.YtihbpbdmhiihnaaDoorChecked
import GoSem.Claim
import GoSem.ClaimJoined
import GoSem.ClaimMapViews
import Derived.JoinedTies
import Derived.KernelRfl
namespace Go.Proofs.YtihbpbdmhiihnaaDoor
/- THE CELL 'sum', in the pinned program and in every row, IS THE sha256 OF THE DUMP (.gsa) THAT YtihbpbdmhiihnaaDoorProg.lean LOADS. Nothing in Lean hashes anything: it is a label: what it is worth is what the hold of that sum in a sandbox is worth. -/
noncomputable def Tryd.pinned : Pinned := { name := "ytihbpbdmhiihnaadoor", sum := "b35d05917d578026c3349fb67288a8d241463729ca4dcbdd404d7c977c1260c4", checked := Tryd.checked }
namespace Rows
def none {H : Type} : Left H := { results := [], args := [] }

/- WHAT THE LISTED PACKAGE-LEVEL VARIABLES READ AS WHEN THE CALL BEGINS. Each datum BY PROGRAM (the guide's laid-datum.mjs) off the statement by which the dump's own 'gosem.cut.vars' lays the variable. In a bare row this is a premise. The card (YtihbpbdmhiihnaaDoorCards.lean) ties it to the program's text. -/
def laid_math_bits_deBruijn32tab {H : Type} : DataW H := .agg [.lit (.int .u8 0), .lit (.int .u8 1), .lit (.int .u8 28), .lit (.int .u8 2), .lit (.int .u8 29), .lit (.int .u8 14), .lit (.int .u8 24), .lit (.int .u8 3), .lit (.int .u8 30), .lit (.int .u8 22), .lit (.int .u8 20), .lit (.int .u8 15), .lit (.int .u8 25), .lit (.int .u8 17), .lit (.int .u8 4), .lit (.int .u8 8), .lit (.int .u8 31), .lit (.int .u8 27), .lit (.int .u8 13), .lit (.int .u8 23), .lit (.int .u8 21), .lit (.int .u8 19), .lit (.int .u8 16), .lit (.int .u8 7), .lit (.int .u8 26), .lit (.int .u8 12), .lit (.int .u8 18), .lit (.int .u8 6), .lit (.int .u8 11), .lit (.int .u8 5), .lit (.int .u8 10), .lit (.int .u8 9)]
def laid_math_bits_deBruijn64tab {H : Type} : DataW H := .agg [.lit (.int .u8 0), .lit (.int .u8 1), .lit (.int .u8 56), .lit (.int .u8 2), .lit (.int .u8 57), .lit (.int .u8 49), .lit (.int .u8 28), .lit (.int .u8 3), .lit (.int .u8 61), .lit (.int .u8 58), .lit (.int .u8 42), .lit (.int .u8 50), .lit (.int .u8 38), .lit (.int .u8 29), .lit (.int .u8 17), .lit (.int .u8 4), .lit (.int .u8 62), .lit (.int .u8 47), .lit (.int .u8 59), .lit (.int .u8 36), .lit (.int .u8 45), .lit (.int .u8 43), .lit (.int .u8 51), .lit (.int .u8 22), .lit (.int .u8 53), .lit (.int .u8 39), .lit (.int .u8 33), .lit (.int .u8 30), .lit (.int .u8 24), .lit (.int .u8 18), .lit (.int .u8 12), .lit (.int .u8 5), .lit (.int .u8 63), .lit (.int .u8 55), .lit (.int .u8 48), .lit (.int .u8 27), .lit (.int .u8 60), .lit (.int .u8 41), .lit (.int .u8 37), .lit (.int .u8 16), .lit (.int .u8 46), .lit (.int .u8 35), .lit (.int .u8 44), .lit (.int .u8 21), .lit (.int .u8 52), .lit (.int .u8 32), .lit (.int .u8 23), .lit (.int .u8 11), .lit (.int .u8 54), .lit (.int .u8 26), .lit (.int .u8 40), .lit (.int .u8 15), .lit (.int .u8 34), .lit (.int .u8 20), .lit (.int .u8 31), .lit (.int .u8 10), .lit (.int .u8 25), .lit (.int .u8 14), .lit (.int .u8 19), .lit (.int .u8 9), .lit (.int .u8 13), .lit (.int .u8 8), .lit (.int .u8 7), .lit (.int .u8 6)]
def laid_internal_strconv_uint64pow10 {H : Type} : DataW H := .agg [.lit (.int .u64 1), .lit (.int .u64 10), .lit (.int .u64 100), .lit (.int .u64 1000), .lit (.int .u64 10000), .lit (.int .u64 100000), .lit (.int .u64 1000000), .lit (.int .u64 10000000), .lit (.int .u64 100000000), .lit (.int .u64 1000000000), .lit (.int .u64 10000000000), .lit (.int .u64 100000000000), .lit (.int .u64 1000000000000), .lit (.int .u64 10000000000000), .lit (.int .u64 100000000000000), .lit (.int .u64 1000000000000000), .lit (.int .u64 10000000000000000), .lit (.int .u64 100000000000000000), .lit (.int .u64 1000000000000000000), .lit (.int .u64 10000000000000000000)]

/-- 'spiritlevellaw07.AsciiRaws': WHATEVER THE INPUT: true; the input reads as it did. -/
def asciiRawsSpec : ChangeSpec := { name := "asciiRaws", fn := fun _ => fun
  | [d] => { results := [.lit (.bool true)], args := [d] }
  | _ => none }
def asciiRawsRow : OpenClaim := { program := "ytihbpbdmhiihnaadoor", sum := "b35d05917d578026c3349fb67288a8d241463729ca4dcbdd404d7c977c1260c4", func := "spiritlevel/spiritlevellaw07.AsciiRaws", spec := "asciiRaws", inPlace := ["internal/abi.NoEscape"], unfollowed := true, recurses := true, named := ["internal/strconv.uint64pow10", "math/bits.deBruijn32tab", "math/bits.deBruijn64tab"], apart := false, laid := [("math/bits.deBruijn32tab", laid_math_bits_deBruijn32tab), ("math/bits.deBruijn64tab", laid_math_bits_deBruijn64tab), ("internal/strconv.uint64pow10", laid_internal_strconv_uint64pow10)] }
def AsciiRawsSaid : Prop := asciiRawsRow.holds Tryd.pinned (OpenSpec.ofChange asciiRawsSpec)

/-- ITS FALSE NEIGHBOUR: 'it returns false'. Refute it at one input. -/
def asciiRawsWrong : ChangeSpec := { name := "asciiRaws", fn := fun _ => fun
  | [d] => { results := [.lit (.bool false)], args := [d] }
  | _ => none }
def AsciiRawsWrongFalsely : Prop := asciiRawsRow.holds Tryd.pinned (OpenSpec.ofChange asciiRawsWrong)

/-- 'spiritlevellaw07.AsciiTexts': WHATEVER THE INPUT: true; the input reads as it did. -/
def asciiTextsSpec : ChangeSpec := { name := "asciiTexts", fn := fun _ => fun
  | [d] => { results := [.lit (.bool true)], args := [d] }
  | _ => none }
def asciiTextsRow : OpenClaim := { program := "ytihbpbdmhiihnaadoor", sum := "b35d05917d578026c3349fb67288a8d241463729ca4dcbdd404d7c977c1260c4", func := "spiritlevel/spiritlevellaw07.AsciiTexts", spec := "asciiTexts", inPlace := ["internal/abi.NoEscape"], unfollowed := true, recurses := true, named := ["internal/strconv.uint64pow10", "math/bits.deBruijn32tab", "math/bits.deBruijn64tab"], apart := false, laid := [("math/bits.deBruijn32tab", laid_math_bits_deBruijn32tab), ("math/bits.deBruijn64tab", laid_math_bits_deBruijn64tab), ("internal/strconv.uint64pow10", laid_internal_strconv_uint64pow10)] }
def AsciiTextsSaid : Prop := asciiTextsRow.holds Tryd.pinned (OpenSpec.ofChange asciiTextsSpec)

/-- ITS FALSE NEIGHBOUR: 'it returns false'. Refute it at one input. -/
def asciiTextsWrong : ChangeSpec := { name := "asciiTexts", fn := fun _ => fun
  | [d] => { results := [.lit (.bool false)], args := [d] }
  | _ => none }
def AsciiTextsWrongFalsely : Prop := asciiTextsRow.holds Tryd.pinned (OpenSpec.ofChange asciiTextsWrong)

/-- 'spiritlevellaw07.AsciiOne': WHATEVER THE INPUT: true; the input reads as it did. -/
def asciiOneSpec : ChangeSpec := { name := "asciiOne", fn := fun _ => fun
  | [d1, d2] => { results := [.lit (.bool true)], args := [d1, d2] }
  | _ => none }
def asciiOneRow : OpenClaim := { program := "ytihbpbdmhiihnaadoor", sum := "b35d05917d578026c3349fb67288a8d241463729ca4dcbdd404d7c977c1260c4", func := "spiritlevel/spiritlevellaw07.AsciiOne", spec := "asciiOne", inPlace := ["internal/abi.NoEscape"], unfollowed := true, recurses := true, named := ["internal/strconv.uint64pow10", "math/bits.deBruijn32tab", "math/bits.deBruijn64tab"], apart := false, laid := [("math/bits.deBruijn32tab", laid_math_bits_deBruijn32tab), ("math/bits.deBruijn64tab", laid_math_bits_deBruijn64tab), ("internal/strconv.uint64pow10", laid_internal_strconv_uint64pow10)] }
def AsciiOneSaid : Prop := asciiOneRow.holds Tryd.pinned (OpenSpec.ofChange asciiOneSpec)

/-- ITS FALSE NEIGHBOUR: 'it returns false'. Refute it at one input. -/
def asciiOneWrong : ChangeSpec := { name := "asciiOne", fn := fun _ => fun
  | [d1, d2] => { results := [.lit (.bool false)], args := [d1, d2] }
  | _ => none }
def AsciiOneWrongFalsely : Prop := asciiOneRow.holds Tryd.pinned (OpenSpec.ofChange asciiOneWrong)

/-- 'spiritlevellaw07.AsciiSame': WHATEVER THE INPUT: true; the input reads as it did. -/
def asciiSameSpec : ChangeSpec := { name := "asciiSame", fn := fun _ => fun
  | [d] => { results := [.lit (.bool true)], args := [d] }
  | _ => none }
def asciiSameRow : OpenClaim := { program := "ytihbpbdmhiihnaadoor", sum := "b35d05917d578026c3349fb67288a8d241463729ca4dcbdd404d7c977c1260c4", func := "spiritlevel/spiritlevellaw07.AsciiSame", spec := "asciiSame", inPlace := ["internal/abi.NoEscape"], unfollowed := true, recurses := true, named := ["internal/strconv.uint64pow10", "math/bits.deBruijn32tab", "math/bits.deBruijn64tab"], apart := false, laid := [("math/bits.deBruijn32tab", laid_math_bits_deBruijn32tab), ("math/bits.deBruijn64tab", laid_math_bits_deBruijn64tab), ("internal/strconv.uint64pow10", laid_internal_strconv_uint64pow10)] }
def AsciiSameSaid : Prop := asciiSameRow.holds Tryd.pinned (OpenSpec.ofChange asciiSameSpec)

/-- ITS FALSE NEIGHBOUR: 'it returns false'. Refute it at one input. -/
def asciiSameWrong : ChangeSpec := { name := "asciiSame", fn := fun _ => fun
  | [d] => { results := [.lit (.bool false)], args := [d] }
  | _ => none }
def AsciiSameWrongFalsely : Prop := asciiSameRow.holds Tryd.pinned (OpenSpec.ofChange asciiSameWrong)

/-- 'spiritlevellaw07.AsciiReset': WHATEVER THE INPUT: true; the input reads as it did. -/
def asciiResetSpec : ChangeSpec := { name := "asciiReset", fn := fun _ => fun
  | [d1, d2] => { results := [.lit (.bool true)], args := [d1, d2] }
  | _ => none }
def asciiResetRow : OpenClaim := { program := "ytihbpbdmhiihnaadoor", sum := "b35d05917d578026c3349fb67288a8d241463729ca4dcbdd404d7c977c1260c4", func := "spiritlevel/spiritlevellaw07.AsciiReset", spec := "asciiReset", inPlace := ["internal/abi.NoEscape"], unfollowed := true, recurses := true, named := ["internal/strconv.uint64pow10", "math/bits.deBruijn32tab", "math/bits.deBruijn64tab"], apart := false, laid := [("math/bits.deBruijn32tab", laid_math_bits_deBruijn32tab), ("math/bits.deBruijn64tab", laid_math_bits_deBruijn64tab), ("internal/strconv.uint64pow10", laid_internal_strconv_uint64pow10)] }
def AsciiResetSaid : Prop := asciiResetRow.holds Tryd.pinned (OpenSpec.ofChange asciiResetSpec)

/-- ITS FALSE NEIGHBOUR: 'it returns false'. Refute it at one input. -/
def asciiResetWrong : ChangeSpec := { name := "asciiReset", fn := fun _ => fun
  | [d1, d2] => { results := [.lit (.bool false)], args := [d1, d2] }
  | _ => none }
def AsciiResetWrongFalsely : Prop := asciiResetRow.holds Tryd.pinned (OpenSpec.ofChange asciiResetWrong)

/-- 'spiritlevellaw07.AsciiLines': WHATEVER THE INPUT: true; the input reads as it did. -/
def asciiLinesSpec : ChangeSpec := { name := "asciiLines", fn := fun _ => fun
  | [d] => { results := [.lit (.bool true)], args := [d] }
  | _ => none }
def asciiLinesRow : OpenClaim := { program := "ytihbpbdmhiihnaadoor", sum := "b35d05917d578026c3349fb67288a8d241463729ca4dcbdd404d7c977c1260c4", func := "spiritlevel/spiritlevellaw07.AsciiLines", spec := "asciiLines", inPlace := ["internal/abi.NoEscape"], unfollowed := true, recurses := true, named := ["internal/strconv.uint64pow10", "math/bits.deBruijn32tab", "math/bits.deBruijn64tab"], apart := false, laid := [("math/bits.deBruijn32tab", laid_math_bits_deBruijn32tab), ("math/bits.deBruijn64tab", laid_math_bits_deBruijn64tab), ("internal/strconv.uint64pow10", laid_internal_strconv_uint64pow10)] }
def AsciiLinesSaid : Prop := asciiLinesRow.holds Tryd.pinned (OpenSpec.ofChange asciiLinesSpec)

/-- ITS FALSE NEIGHBOUR: 'it returns false'. Refute it at one input. -/
def asciiLinesWrong : ChangeSpec := { name := "asciiLines", fn := fun _ => fun
  | [d] => { results := [.lit (.bool false)], args := [d] }
  | _ => none }
def AsciiLinesWrongFalsely : Prop := asciiLinesRow.holds Tryd.pinned (OpenSpec.ofChange asciiLinesWrong)

/- THE SECOND FORM. 'bulk': how many values and letters a reading holds, each counted each time it is reached (what is shared counts as often as it is met; a slice's spare places count too). A statement '..UptoSaid' is the law's where the arguments, and the package variables that the reading takes, are together of bulk at most 1048576: NARROWER than '..Said'. Prove '..Said' where nothing that the law and all that it calls make is longer than what came in: it says more and counts as full. Else prove '..UptoSaid'. A law counts once. -/
mutual
def uptoBulk {H : Type} : DataW H → Nat
  | .lit (.string bytes) => bytes.length + 1
  | .lit _ => 1
  | .nil => 1
  | .ptr d => uptoBulk d + 1
  | .slice elems spare => uptoBulkAll elems + uptoBulkAll spare + 1
  | .agg parts => uptoBulkAll parts + 1
  | .iface _ d => uptoBulk d + 1
  | .map entries => uptoBulkEntries entries + 1
  | .held _ => 1
def uptoBulkAll {H : Type} : List (DataW H) → Nat
  | [] => 0
  | d :: r => uptoBulk d + uptoBulkAll r
def uptoBulkEntries {H : Type} : List (Lit × DataW H) → Nat
  | [] => 0
  | x :: r => uptoBulkEntry x + uptoBulkEntries r
def uptoBulkEntry {H : Type} : Lit × DataW H → Nat
  | (.string bytes, d) => bytes.length + uptoBulk d + 1
  | (_, d) => uptoBulk d + 1
 end
def uptoSmall : (H : Type) → List (DataW H) → Bool := fun _ ds => decide (uptoBulkAll ds ≤ 1048576)
def OpenSpec.upto (s : _root_.Go.ChangeSpec) : _root_.Go.OpenSpec := { _root_.Go.OpenSpec.ofChange s with cond := some uptoSmall }

/-- 'spiritlevellaw07.AsciiRaws', WHERE WHAT IT READS IS OF BULK AT MOST 1048576: true; the input reads as it did. -/
def asciiRawsUptoRow : OpenClaim := { program := "ytihbpbdmhiihnaadoor", sum := "b35d05917d578026c3349fb67288a8d241463729ca4dcbdd404d7c977c1260c4", func := "spiritlevel/spiritlevellaw07.AsciiRaws", spec := "asciiRaws", inPlace := ["internal/abi.NoEscape"], unfollowed := true, recurses := true, named := ["internal/strconv.uint64pow10", "math/bits.deBruijn32tab", "math/bits.deBruijn64tab"], apart := false, laid := [("math/bits.deBruijn32tab", laid_math_bits_deBruijn32tab), ("math/bits.deBruijn64tab", laid_math_bits_deBruijn64tab), ("internal/strconv.uint64pow10", laid_internal_strconv_uint64pow10)], narrowed := true }
def AsciiRawsUptoSaid : Prop := asciiRawsUptoRow.holds Tryd.pinned (OpenSpec.upto asciiRawsSpec)

/-- 'spiritlevellaw07.AsciiTexts', WHERE WHAT IT READS IS OF BULK AT MOST 1048576: true; the input reads as it did. -/
def asciiTextsUptoRow : OpenClaim := { program := "ytihbpbdmhiihnaadoor", sum := "b35d05917d578026c3349fb67288a8d241463729ca4dcbdd404d7c977c1260c4", func := "spiritlevel/spiritlevellaw07.AsciiTexts", spec := "asciiTexts", inPlace := ["internal/abi.NoEscape"], unfollowed := true, recurses := true, named := ["internal/strconv.uint64pow10", "math/bits.deBruijn32tab", "math/bits.deBruijn64tab"], apart := false, laid := [("math/bits.deBruijn32tab", laid_math_bits_deBruijn32tab), ("math/bits.deBruijn64tab", laid_math_bits_deBruijn64tab), ("internal/strconv.uint64pow10", laid_internal_strconv_uint64pow10)], narrowed := true }
def AsciiTextsUptoSaid : Prop := asciiTextsUptoRow.holds Tryd.pinned (OpenSpec.upto asciiTextsSpec)

/-- 'spiritlevellaw07.AsciiOne', WHERE WHAT IT READS IS OF BULK AT MOST 1048576: true; the input reads as it did. -/
def asciiOneUptoRow : OpenClaim := { program := "ytihbpbdmhiihnaadoor", sum := "b35d05917d578026c3349fb67288a8d241463729ca4dcbdd404d7c977c1260c4", func := "spiritlevel/spiritlevellaw07.AsciiOne", spec := "asciiOne", inPlace := ["internal/abi.NoEscape"], unfollowed := true, recurses := true, named := ["internal/strconv.uint64pow10", "math/bits.deBruijn32tab", "math/bits.deBruijn64tab"], apart := false, laid := [("math/bits.deBruijn32tab", laid_math_bits_deBruijn32tab), ("math/bits.deBruijn64tab", laid_math_bits_deBruijn64tab), ("internal/strconv.uint64pow10", laid_internal_strconv_uint64pow10)], narrowed := true }
def AsciiOneUptoSaid : Prop := asciiOneUptoRow.holds Tryd.pinned (OpenSpec.upto asciiOneSpec)

/-- 'spiritlevellaw07.AsciiSame', WHERE WHAT IT READS IS OF BULK AT MOST 1048576: true; the input reads as it did. -/
def asciiSameUptoRow : OpenClaim := { program := "ytihbpbdmhiihnaadoor", sum := "b35d05917d578026c3349fb67288a8d241463729ca4dcbdd404d7c977c1260c4", func := "spiritlevel/spiritlevellaw07.AsciiSame", spec := "asciiSame", inPlace := ["internal/abi.NoEscape"], unfollowed := true, recurses := true, named := ["internal/strconv.uint64pow10", "math/bits.deBruijn32tab", "math/bits.deBruijn64tab"], apart := false, laid := [("math/bits.deBruijn32tab", laid_math_bits_deBruijn32tab), ("math/bits.deBruijn64tab", laid_math_bits_deBruijn64tab), ("internal/strconv.uint64pow10", laid_internal_strconv_uint64pow10)], narrowed := true }
def AsciiSameUptoSaid : Prop := asciiSameUptoRow.holds Tryd.pinned (OpenSpec.upto asciiSameSpec)

/-- 'spiritlevellaw07.AsciiReset', WHERE WHAT IT READS IS OF BULK AT MOST 1048576: true; the input reads as it did. -/
def asciiResetUptoRow : OpenClaim := { program := "ytihbpbdmhiihnaadoor", sum := "b35d05917d578026c3349fb67288a8d241463729ca4dcbdd404d7c977c1260c4", func := "spiritlevel/spiritlevellaw07.AsciiReset", spec := "asciiReset", inPlace := ["internal/abi.NoEscape"], unfollowed := true, recurses := true, named := ["internal/strconv.uint64pow10", "math/bits.deBruijn32tab", "math/bits.deBruijn64tab"], apart := false, laid := [("math/bits.deBruijn32tab", laid_math_bits_deBruijn32tab), ("math/bits.deBruijn64tab", laid_math_bits_deBruijn64tab), ("internal/strconv.uint64pow10", laid_internal_strconv_uint64pow10)], narrowed := true }
def AsciiResetUptoSaid : Prop := asciiResetUptoRow.holds Tryd.pinned (OpenSpec.upto asciiResetSpec)

/-- 'spiritlevellaw07.AsciiLines', WHERE WHAT IT READS IS OF BULK AT MOST 1048576: true; the input reads as it did. -/
def asciiLinesUptoRow : OpenClaim := { program := "ytihbpbdmhiihnaadoor", sum := "b35d05917d578026c3349fb67288a8d241463729ca4dcbdd404d7c977c1260c4", func := "spiritlevel/spiritlevellaw07.AsciiLines", spec := "asciiLines", inPlace := ["internal/abi.NoEscape"], unfollowed := true, recurses := true, named := ["internal/strconv.uint64pow10", "math/bits.deBruijn32tab", "math/bits.deBruijn64tab"], apart := false, laid := [("math/bits.deBruijn32tab", laid_math_bits_deBruijn32tab), ("math/bits.deBruijn64tab", laid_math_bits_deBruijn64tab), ("internal/strconv.uint64pow10", laid_internal_strconv_uint64pow10)], narrowed := true }
def AsciiLinesUptoSaid : Prop := asciiLinesUptoRow.holds Tryd.pinned (OpenSpec.upto asciiLinesSpec)

end Rows
end Go.Proofs.YtihbpbdmhiihnaaDoor
