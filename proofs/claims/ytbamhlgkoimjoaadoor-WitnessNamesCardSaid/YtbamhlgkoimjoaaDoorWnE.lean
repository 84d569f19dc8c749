/- The row of WitnessNames. -/
import Derived.Test.YtbamhlgkoimjoaaDoorWnD
import Derived.Lib.Atoi
import Derived.Shelf.LaysC
import Derived.Test.YtbamhlgkoimjoaaDoorProg
import Derived.Shelf.Strconv.Atoi
import Derived.Shelf.Strconv.AtoiErr
import Derived.Lib.AtoiErrMem
import Derived.Lib.AtoiBound
import Derived.Test.YtbamhlgkoimjoaaDoorWnC
import Derived.Test.YtbamhlgkoimjoaaDoorRows
import Derived.Test.YtbamhlgkoimjoaaDoorCards
import Derived.Test.YtbamhlgkoimjoaaDoorTie
import Derived.SevenTiedAt
import Derived.Stop.Joined
/- strings.TrimPrefix, witness.bools, Read: round by round. -/
namespace Go.Proofs.YtbamhlgkoimjoaaDoor.Sy.Rd
open Go Go.Proofs.YtbamhlgkoimjoaaDoor.Ab Go.Proofs.YtbamhlgkoimjoaaDoor.Sy Go.Proofs.YtbamhlgkoimjoaaDoor.Sy.Tx Go.Proofs.YtbamhlgkoimjoaaDoor.Sy.Vl Go.Proofs.YtbamhlgkoimjoaaDoor.Sy.Tc Go.Proofs.YtbamhlgkoimjoaaDoor.Sy.Wi
set_option maxRecDepth 1000000
set_option linter.unusedVariables false
def B00 : B := .box [.emp true, .emp true]
def Hb (s : List UInt8) (xs : List D) (sl : List (Nat × V)) : St := ⟨mk 22 ([(0, .d (.str s)), (3, .arr 0)] ++ sl) [], [.lst 4 xs]⟩
def Hr (c : Ci) (s : List UInt8) (n : Int) (r : Bool) (f : List Bool) (acc : List D) (sl : List (Nat × V)) : St := ⟨mk 115 ([(1, .d (.str s)), (2, .ptr 0 0), (4, .ptr 1 0), (10, .d (I n)), (12, .ptr 2 0), (13, .d (.bool r))] ++ sl) [], [Bc c, B00, .box [.d (BL f), .arr 3], .lst 29 acc]⟩
def Er (c : Ci) (s : List UInt8) (n : Int) (r : Bool) (f : List Bool) (acc : List D) : St := ⟨mk 115 [(1, .d (.str s)), (2, .ptr 0 0), (4, .ptr 1 0), (10, .d (I n)), (12, .ptr 2 0), (13, .d (.bool r))] [], [Bc c, B00, .box [.d (BL f), .d (.sl acc)], .dead]⟩
section
variable (c : Ci) (t : Tr) (n x e : Int) (i j u k m : Nat) (v f f2 : List Bool) (b b2 : Bool) (xs ys acc : List D) (s s2 p : List UInt8) (ls lr : List (List UInt8)) (q : UInt8)
theorem hp0  : callX Tryd.prog wr false O 65 [.d (.str s), .d (.str p)] [] [It.br true, It.cut 0 k, It.br true] = some (V.d (D.bool true), [],
  [decide ((↑s.length : Int) ≥ (↑p.length : Int)) = true,
   (↑0 : Int) = (↑0 : Int) ∧ (↑p.length : Int) = (↑k : Int) ∧ 0 ≤ k ∧ k ≤ s.length,
   (List.take (k - 0) (List.drop 0 s) == p) = true]) := by kernel_rfl
theorem hp1  : callX Tryd.prog wr false O 65 [.d (.str s), .d (.str p)] [] [It.br true, It.cut 0 k, It.br false] = some (V.d (D.bool false), [],
  [decide ((↑s.length : Int) ≥ (↑p.length : Int)) = true,
   (↑0 : Int) = (↑0 : Int) ∧ (↑p.length : Int) = (↑k : Int) ∧ 0 ≤ k ∧ k ≤ s.length,
   (List.take (k - 0) (List.drop 0 s) == p) = false]) := by kernel_rfl
theorem hp2  : callX Tryd.prog wr false O 65 [.d (.str s), .d (.str p)] [] [It.br false] = some (V.d (D.bool false), [],
  [decide ((↑s.length : Int) ≥ (↑p.length : Int)) = false]) := by kernel_rfl
theorem tp1  : callX Tryd.prog wr false O 47 [.d (.str s), .d (.str p)] [] [It.icall [] (V.d (D.bool true)) [], It.cut p.length s.length] = some (V.d (D.str (List.take (s.length - p.length) (List.drop p.length s))), [],
  [ICall Tryd.prog 65 [V.d (D.str s), V.d (D.str p)] [] (V.d (D.bool true)) [],
   (↑p.length : Int) = (↑p.length : Int) ∧ (↑s.length : Int) = (↑s.length : Int) ∧ p.length ≤ s.length ∧ s.length ≤ s.length]) := by kernel_rfl
theorem tp0  : callX Tryd.prog wr false O 47 [.d (.str s), .d (.str p)] [] [It.icall [] (V.d (D.bool false)) []] = some (V.d (D.str s), [],
  [ICall Tryd.prog 65 [V.d (D.str s), V.d (D.str p)] [] (V.d (D.bool false)) []]) := by kernel_rfl
theorem tp  : callX Tryd.prog wr false O 29 [.d (.str s), .d (.str p)] [] [It.icall [] (V.d (D.str s2)) []] = some (V.d (D.str s2), [],
  [ICall Tryd.prog 47 [V.d (D.str s), V.d (D.str p)] [] (V.d (D.str s2)) []]) := by kernel_rfl
theorem b1 : round Tryd.prog wr false O (loopOf Tryd.prog 30 0) (Hb s xs [(9, .d (I m)), (10, .d (I i))]) [It.br true, It.by i q, It.br true, It.ix i, It.is (↑(i + 1) : Int)] [0, 3, 9, 10] 1 = some (.normal, Hb s (xs.set i (.bool true)) [(9, .d (I m)), (10, .d (I (i + 1 : Nat)))],
  [decide ((↑i : Int) < (↑m : Int)) = true,
   (↑i : Int) = (↑i : Int) ∧ s[i]? = some q,
   ((↑q.toNat : Int) == 49) = true,
   (↑i : Int) = (↑i : Int) ∧ i < xs.length,
   IntKind.i64.wrap ((↑i : Int) + 1) = (↑(i + 1) : Int)]) := by kernel_rfl
theorem b2_ : round Tryd.prog wr false O (loopOf Tryd.prog 30 0) (Hb s xs [(9, .d (I m)), (10, .d (I i))]) [It.br true, It.by i q, It.br false, It.ix i, It.is (↑(i + 1) : Int)] [0, 3, 9, 10] 1 = some (.normal, Hb s (xs.set i (.bool false)) [(9, .d (I m)), (10, .d (I (i + 1 : Nat)))],
  [decide ((↑i : Int) < (↑m : Int)) = true,
   (↑i : Int) = (↑i : Int) ∧ s[i]? = some q,
   ((↑q.toNat : Int) == 49) = false,
   (↑i : Int) = (↑i : Int) ∧ i < xs.length,
   IntKind.i64.wrap ((↑i : Int) + 1) = (↑(i + 1) : Int)]) := by kernel_rfl
theorem b3 : round Tryd.prog wr false O (loopOf Tryd.prog 30 0) (Hb s xs [(9, .d (I m)), (10, .d (I i))]) [It.br false] [0, 3] 1 = some (.exit 0, Hb s xs [],
  [decide ((↑i : Int) < (↑m : Int)) = false]) := by kernel_rfl
theorem bw  : callX Tryd.prog wr false O 30 [.d (.str s)] [] [It.len s.length, It.lp [0, 3, 9, 10] (Ex.exit 0) (Hb s ys [])] = some (V.own 4 ys, [],
  [(↑s.length : Int) = (↑s.length : Int) ∧ (↑s.length : Int) = (↑s.length : Int) ∧ s.length ≤ maxItems,
   GoesL Tryd.prog (loopOf Tryd.prog 30 0) (⟨mk 22 [(0, V.d (D.str s)), (3, V.arr 0), (9, V.d (D.int IntKind.i64 (↑(List.replicate s.length (D.bool false)).length : Int))), (10, V.d (D.int IntKind.i64 0))] [], [B.lst 4 (List.replicate s.length (D.bool false))]⟩) (Ex.exit 0) (Hb s ys [])]) := by kernel_rfl
theorem r1 : round Tryd.prog wr false O (loopOf Tryd.prog 13 0) (Hr c s n true f acc [(73, .d (.sl (lr.map D.str))), (74, .d (I (lr.map D.str).length)), (75, .d (I i))]) [It.br true, It.el i (D.str (lr.getD i default)), It.icall [] (V.d (BL v)) [], It.raw, It.raw, It.raw, It.br true, It.is (↑(i + 1) : Int)] [1, 2, 4, 10, 12, 13, 73, 74, 75] 4 = some (.normal, Hr c s n true f (acc ++ [BL v]) [(73, .d (.sl (lr.map D.str))), (74, .d (I (lr.map D.str).length)), (75, .d (I (i + 1 : Nat)))],
  [decide ((↑i : Int) < (↑(List.map D.str lr).length : Int)) = true,
   (↑i : Int) = (↑i : Int) ∧ (List.map D.str lr)[i]? = some (D.str (lr.getD i default)),
   ICall Tryd.prog 30 [V.d (D.str (lr.getD i default))] [] (V.d (BL v)) [],
   acc.length + [BL v].length ≤ maxItems,
   ((↑(lr.getD i default).length : Int) == c.ins) = true,
   IntKind.i64.wrap ((↑i : Int) + 1) = (↑(i + 1) : Int)]) := by kernel_rfl
theorem r2 : round Tryd.prog wr false O (loopOf Tryd.prog 13 0) (Hr c s n true f acc [(73, .d (.sl (lr.map D.str))), (74, .d (I (lr.map D.str).length)), (75, .d (I i))]) [It.br true, It.el i (D.str (lr.getD i default)), It.icall [] (V.d (BL v)) [], It.raw, It.raw, It.raw, It.br false, It.is (↑(i + 1) : Int)] [1, 2, 4, 10, 12, 13, 73, 74, 75] 4 = some (.normal, Hr c s n false f (acc ++ [BL v]) [(73, .d (.sl (lr.map D.str))), (74, .d (I (lr.map D.str).length)), (75, .d (I (i + 1 : Nat)))],
  [decide ((↑i : Int) < (↑(List.map D.str lr).length : Int)) = true,
   (↑i : Int) = (↑i : Int) ∧ (List.map D.str lr)[i]? = some (D.str (lr.getD i default)),
   ICall Tryd.prog 30 [V.d (D.str (lr.getD i default))] [] (V.d (BL v)) [],
   acc.length + [BL v].length ≤ maxItems,
   ((↑(lr.getD i default).length : Int) == c.ins) = false,
   IntKind.i64.wrap ((↑i : Int) + 1) = (↑(i + 1) : Int)]) := by kernel_rfl
theorem r3 : round Tryd.prog wr false O (loopOf Tryd.prog 13 0) (Hr c s n true f acc [(73, .d (.sl (lr.map D.str))), (74, .d (I (lr.map D.str).length)), (75, .d (I i))]) [It.br false] [1, 2, 4, 10, 12, 13] 4 = some (.exit 0, Hr c s n true f acc [],
  [decide ((↑i : Int) < (↑(List.map D.str lr).length : Int)) = false]) := by kernel_rfl
theorem r4 : round Tryd.prog wr false O (loopOf Tryd.prog 13 0) (Hr c s n false f acc [(73, .d (.sl (lr.map D.str))), (74, .d (I (lr.map D.str).length)), (75, .d (I i))]) [It.br true, It.el i (D.str (lr.getD i default)), It.icall [] (V.d (BL v)) [], It.raw, It.raw, It.raw, It.is (↑(i + 1) : Int)] [1, 2, 4, 10, 12, 13, 73, 74, 75] 4 = some (.normal, Hr c s n false f (acc ++ [BL v]) [(73, .d (.sl (lr.map D.str))), (74, .d (I (lr.map D.str).length)), (75, .d (I (i + 1 : Nat)))],
  [decide ((↑i : Int) < (↑(List.map D.str lr).length : Int)) = true,
   (↑i : Int) = (↑i : Int) ∧ (List.map D.str lr)[i]? = some (D.str (lr.getD i default)),
   ICall Tryd.prog 30 [V.d (D.str (lr.getD i default))] [] (V.d (BL v)) [],
   acc.length + [BL v].length ≤ maxItems,
   IntKind.i64.wrap ((↑i : Int) + 1) = (↑(i + 1) : Int)]) := by kernel_rfl
theorem r5 : round Tryd.prog wr false O (loopOf Tryd.prog 13 0) (Hr c s n false f acc [(73, .d (.sl (lr.map D.str))), (74, .d (I (lr.map D.str).length)), (75, .d (I i))]) [It.br false] [1, 2, 4, 10, 12, 13] 4 = some (.exit 0, Hr c s n false f acc [],
  [decide ((↑i : Int) < (↑(List.map D.str lr).length : Int)) = false]) := by kernel_rfl
theorem e0  : callX Tryd.prog wr false O 13 [.d c.d, .d (.str s)] [] [It.icall [] (V.d (I e)) [], It.br true] = some (V.tup [V.agg [V.emp true, V.emp true], V.d (D.int IntKind.i64 0), V.d (D.int IntKind.i64 e)], [],
  [ICall Tryd.prog 26 [V.d (D.agg [I c.ins, D.sl (List.map Lt.d c.lats), D.sl (List.map An.d c.ands), L c.bads, L c.cons])] [] (V.d (I e)) [],
   (e != 0) = true]) := by kernel_rfl
theorem e1  : callX Tryd.prog wr false O 13 [.d c.d, .d (.str s)] [] [It.icall [] (V.d (I 0)) [], It.br false, It.icall [] (V.d (D.sl (List.map D.str ls))) [], It.br true] = some (V.tup [V.agg [V.emp true, V.emp true], V.d (D.int IntKind.i64 0), V.d (D.int IntKind.i64 12)], [],
  [ICall Tryd.prog 26 [V.d (D.agg [I c.ins, D.sl (List.map Lt.d c.lats), D.sl (List.map An.d c.ands), L c.bads, L c.cons])] [] (V.d (I 0)) [],
   (0 != 0) = false,
   ICall Tryd.prog 27 [V.d (D.str s), V.d (D.str (ByteArray.mk #[10]).data.toList)] [] (V.d (D.sl (List.map D.str ls))) [],
   decide ((↑(List.map D.str ls).length : Int) < 6) = true]) := by kernel_rfl
theorem e2  : callX Tryd.prog wr false O 13 [.d c.d, .d (.str s)] [] [It.icall [] (V.d (I 0)) [], It.br false, It.icall [] (V.d (D.sl (List.map D.str ls))) [], It.br false, It.is ((↑(List.map D.str ls).length : Int) - 5), It.br true] = some (V.tup [V.agg [V.emp true, V.emp true], V.d (D.int IntKind.i64 0), V.d (D.int IntKind.i64 12)], [],
  [ICall Tryd.prog 26 [V.d (D.agg [I c.ins, D.sl (List.map Lt.d c.lats), D.sl (List.map An.d c.ands), L c.bads, L c.cons])] [] (V.d (I 0)) [],
   (0 != 0) = false,
   ICall Tryd.prog 27 [V.d (D.str s), V.d (D.str (ByteArray.mk #[10]).data.toList)] [] (V.d (D.sl (List.map D.str ls))) [],
   decide ((↑(List.map D.str ls).length : Int) < 6) = false,
   IntKind.i64.wrap ((↑(List.map D.str ls).length : Int) - 5) = (↑(List.map D.str ls).length : Int) - 5,
   decide ((↑(List.map D.str ls).length : Int) - 5 > 100) = true]) := by kernel_rfl
theorem e3  : callX Tryd.prog wr false O 13 [.d c.d, .d (.str s)] [] [It.icall [] (V.d (I 0)) [], It.br false, It.icall [] (V.d (D.sl (List.map D.str ls))) [], It.br false, It.is ((↑(List.map D.str ls).length : Int) - 5), It.br false, It.el 1 (D.str (ls.getD 1 default)), It.br true] = some (V.tup [V.agg [V.emp true, V.emp true], V.d (D.int IntKind.i64 0), V.d (D.int IntKind.i64 12)], [],
  [ICall Tryd.prog 26 [V.d (D.agg [I c.ins, D.sl (List.map Lt.d c.lats), D.sl (List.map An.d c.ands), L c.bads, L c.cons])] [] (V.d (I 0)) [],
   (0 != 0) = false,
   ICall Tryd.prog 27 [V.d (D.str s), V.d (D.str (ByteArray.mk #[10]).data.toList)] [] (V.d (D.sl (List.map D.str ls))) [],
   decide ((↑(List.map D.str ls).length : Int) < 6) = false,
   IntKind.i64.wrap ((↑(List.map D.str ls).length : Int) - 5) = (↑(List.map D.str ls).length : Int) - 5,
   decide ((↑(List.map D.str ls).length : Int) - 5 > 100) = false,
   1 = (↑1 : Int) ∧ (List.map D.str ls)[1]? = some (D.str (ls.getD 1 default)),
   decide ((↑(ls.getD 1 default).length : Int) > 10) = true]) := by kernel_rfl
theorem e4  : callX Tryd.prog wr false O 13 [.d c.d, .d (.str s)] [] [It.icall [] (V.d (I 0)) [], It.br false, It.icall [] (V.d (D.sl (List.map D.str ls))) [], It.br false, It.is ((↑(List.map D.str ls).length : Int) - 5), It.br false, It.el 1 (D.str (ls.getD 1 default)), It.br false, It.el 1 (D.str (ls.getD 1 default)), It.icall [] (V.d (D.str s2)) [], It.icall [] (V.tup [V.d (I 0), V.d D.iany]) [], It.el 2 (D.str (ls.getD 2 default)), It.icall [] (V.d (BL f)) [], It.is ((↑(List.map D.str ls).length : Int) - 2), It.cut 3 k, It.own, It.lp [1, 2, 4, 10, 12, 13, 73, 74, 75] (Ex.exit 0) (Er c s 0 false f acc), It.br true] = some (V.tup [V.agg [V.emp true, V.emp true], V.d (D.int IntKind.i64 0), V.d (D.int IntKind.i64 12)], [],
  [ICall Tryd.prog 26 [V.d (D.agg [I c.ins, D.sl (List.map Lt.d c.lats), D.sl (List.map An.d c.ands), L c.bads, L c.cons])] [] (V.d (I 0)) [],
   (0 != 0) = false,
   ICall Tryd.prog 27 [V.d (D.str s), V.d (D.str (ByteArray.mk #[10]).data.toList)] [] (V.d (D.sl (List.map D.str ls))) [],
   decide ((↑(List.map D.str ls).length : Int) < 6) = false,
   IntKind.i64.wrap ((↑(List.map D.str ls).length : Int) - 5) = (↑(List.map D.str ls).length : Int) - 5,
   decide ((↑(List.map D.str ls).length : Int) - 5 > 100) = false,
   1 = (↑1 : Int) ∧ (List.map D.str ls)[1]? = some (D.str (ls.getD 1 default)),
   decide ((↑(ls.getD 1 default).length : Int) > 10) = false,
   1 = (↑1 : Int) ∧ (List.map D.str ls)[1]? = some (D.str (ls.getD 1 default)),
   ICall Tryd.prog 29 [V.d (D.str (ls.getD 1 default)), V.d (D.str (ByteArray.mk #[98]).data.toList)] [] (V.d (D.str s2)) [],
   ICall Tryd.prog 28 [V.d (D.str s2)] [] (V.tup [V.d (I 0), V.d D.iany]) [],
   2 = (↑2 : Int) ∧ (List.map D.str ls)[2]? = some (D.str (ls.getD 2 default)),
   ICall Tryd.prog 30 [V.d (D.str (ls.getD 2 default))] [] (V.d (BL f)) [],
   IntKind.i64.wrap ((↑(List.map D.str ls).length : Int) - 2) = (↑(List.map D.str ls).length : Int) - 2,
   3 = (↑3 : Int) ∧ (↑(List.map D.str ls).length : Int) - 2 = (↑k : Int) ∧ 3 ≤ k ∧ k ≤ (List.map D.str ls).length,
   ∀ (y : D), y ∈ List.map D.str ls → y.cells.length = (fun x => x.size) Tryd.prog.types[9],
   GoesL Tryd.prog (loopOf Tryd.prog 13 0) (⟨mk 115 [(1, V.d (D.str s)), (2, V.ptr 0 0), (4, V.ptr 1 0), (10, V.d (D.int IntKind.i64 0)), (12, V.ptr 2 0), (13, V.d (D.bool false)), (73, V.d (D.sl (List.take (k - 3) (List.drop 3 (List.map D.str ls))))), (74, V.d (D.int IntKind.i64 (↑(List.take (k - 3) (List.drop 3 (List.map D.str ls))).length : Int))), (75, V.d (D.int IntKind.i64 0))] [], [B.bx none [V.d (D.int IntKind.i64 c.ins), V.d (D.sl (List.map Lt.d c.lats)), V.d (D.sl (List.map An.d c.ands)), V.d (D.sl (List.map I c.bads)), V.d (D.sl (List.map I c.cons))], B.bx none [V.emp true, V.emp true], B.bx none [V.d (D.sl (List.map D.bool f)), V.emp true]]⟩) (Ex.exit 0) (Er c s 0 false f acc),
   (!false) = true]) := by kernel_rfl
theorem e5  : callX Tryd.prog wr false O 13 [.d c.d, .d (.str s)] [] [It.icall [] (V.d (I 0)) [], It.br false, It.icall [] (V.d (D.sl (List.map D.str ls))) [], It.br false, It.is ((↑(List.map D.str ls).length : Int) - 5), It.br false, It.el 1 (D.str (ls.getD 1 default)), It.br false, It.el 1 (D.str (ls.getD 1 default)), It.icall [] (V.d (D.str s2)) [], It.icall [] (V.tup [V.d (I n), V.d D.inil]) [], It.el 2 (D.str (ls.getD 2 default)), It.icall [] (V.d (BL f)) [], It.br true, It.br true, It.is ((↑(List.map D.str ls).length : Int) - 2), It.cut 3 k, It.own, It.lp [1, 2, 4, 10, 12, 13, 73, 74, 75] (Ex.exit 0) (Er c s n false f acc), It.br true] = some (V.tup [V.agg [V.emp true, V.emp true], V.d (D.int IntKind.i64 0), V.d (D.int IntKind.i64 12)], [],
  [ICall Tryd.prog 26 [V.d (D.agg [I c.ins, D.sl (List.map Lt.d c.lats), D.sl (List.map An.d c.ands), L c.bads, L c.cons])] [] (V.d (I 0)) [],
   (0 != 0) = false,
   ICall Tryd.prog 27 [V.d (D.str s), V.d (D.str (ByteArray.mk #[10]).data.toList)] [] (V.d (D.sl (List.map D.str ls))) [],
   decide ((↑(List.map D.str ls).length : Int) < 6) = false,
   IntKind.i64.wrap ((↑(List.map D.str ls).length : Int) - 5) = (↑(List.map D.str ls).length : Int) - 5,
   decide ((↑(List.map D.str ls).length : Int) - 5 > 100) = false,
   1 = (↑1 : Int) ∧ (List.map D.str ls)[1]? = some (D.str (ls.getD 1 default)),
   decide ((↑(ls.getD 1 default).length : Int) > 10) = false,
   1 = (↑1 : Int) ∧ (List.map D.str ls)[1]? = some (D.str (ls.getD 1 default)),
   ICall Tryd.prog 29 [V.d (D.str (ls.getD 1 default)), V.d (D.str (ByteArray.mk #[98]).data.toList)] [] (V.d (D.str s2)) [],
   ICall Tryd.prog 28 [V.d (D.str s2)] [] (V.tup [V.d (I n), V.d D.inil]) [],
   2 = (↑2 : Int) ∧ (List.map D.str ls)[2]? = some (D.str (ls.getD 2 default)),
   ICall Tryd.prog 30 [V.d (D.str (ls.getD 2 default))] [] (V.d (BL f)) [],
   decide (n ≥ 0) = true,
   ((↑(List.map D.bool f).length : Int) == (↑(List.map Lt.d c.lats).length : Int)) = true,
   IntKind.i64.wrap ((↑(List.map D.str ls).length : Int) - 2) = (↑(List.map D.str ls).length : Int) - 2,
   3 = (↑3 : Int) ∧ (↑(List.map D.str ls).length : Int) - 2 = (↑k : Int) ∧ 3 ≤ k ∧ k ≤ (List.map D.str ls).length,
   ∀ (y : D), y ∈ List.map D.str ls → y.cells.length = (fun x => x.size) Tryd.prog.types[9],
   GoesL Tryd.prog (loopOf Tryd.prog 13 0) (⟨mk 115 [(1, V.d (D.str s)), (2, V.ptr 0 0), (4, V.ptr 1 0), (10, V.d (D.int IntKind.i64 n)), (12, V.ptr 2 0), (13, V.d (D.bool true)), (73, V.d (D.sl (List.take (k - 3) (List.drop 3 (List.map D.str ls))))), (74, V.d (D.int IntKind.i64 (↑(List.take (k - 3) (List.drop 3 (List.map D.str ls))).length : Int))), (75, V.d (D.int IntKind.i64 0))] [], [B.bx none [V.d (D.int IntKind.i64 c.ins), V.d (D.sl (List.map Lt.d c.lats)), V.d (D.sl (List.map An.d c.ands)), V.d (D.sl (List.map I c.bads)), V.d (D.sl (List.map I c.cons))], B.bx none [V.emp true, V.emp true], B.bx none [V.d (D.sl (List.map D.bool f)), V.emp true]]⟩) (Ex.exit 0) (Er c s n false f acc),
   (!false) = true]) := by kernel_rfl
theorem e6  : callX Tryd.prog wr false O 13 [.d c.d, .d (.str s)] [] [It.icall [] (V.d (I 0)) [], It.br false, It.icall [] (V.d (D.sl (List.map D.str ls))) [], It.br false, It.is ((↑(List.map D.str ls).length : Int) - 5), It.br false, It.el 1 (D.str (ls.getD 1 default)), It.br false, It.el 1 (D.str (ls.getD 1 default)), It.icall [] (V.d (D.str s2)) [], It.icall [] (V.tup [V.d (I n), V.d D.inil]) [], It.el 2 (D.str (ls.getD 2 default)), It.icall [] (V.d (BL f)) [], It.br true, It.br false, It.is ((↑(List.map D.str ls).length : Int) - 2), It.cut 3 k, It.own, It.lp [1, 2, 4, 10, 12, 13, 73, 74, 75] (Ex.exit 0) (Er c s n false f acc), It.br true] = some (V.tup [V.agg [V.emp true, V.emp true], V.d (D.int IntKind.i64 0), V.d (D.int IntKind.i64 12)], [],
  [ICall Tryd.prog 26 [V.d (D.agg [I c.ins, D.sl (List.map Lt.d c.lats), D.sl (List.map An.d c.ands), L c.bads, L c.cons])] [] (V.d (I 0)) [],
   (0 != 0) = false,
   ICall Tryd.prog 27 [V.d (D.str s), V.d (D.str (ByteArray.mk #[10]).data.toList)] [] (V.d (D.sl (List.map D.str ls))) [],
   decide ((↑(List.map D.str ls).length : Int) < 6) = false,
   IntKind.i64.wrap ((↑(List.map D.str ls).length : Int) - 5) = (↑(List.map D.str ls).length : Int) - 5,
   decide ((↑(List.map D.str ls).length : Int) - 5 > 100) = false,
   1 = (↑1 : Int) ∧ (List.map D.str ls)[1]? = some (D.str (ls.getD 1 default)),
   decide ((↑(ls.getD 1 default).length : Int) > 10) = false,
   1 = (↑1 : Int) ∧ (List.map D.str ls)[1]? = some (D.str (ls.getD 1 default)),
   ICall Tryd.prog 29 [V.d (D.str (ls.getD 1 default)), V.d (D.str (ByteArray.mk #[98]).data.toList)] [] (V.d (D.str s2)) [],
   ICall Tryd.prog 28 [V.d (D.str s2)] [] (V.tup [V.d (I n), V.d D.inil]) [],
   2 = (↑2 : Int) ∧ (List.map D.str ls)[2]? = some (D.str (ls.getD 2 default)),
   ICall Tryd.prog 30 [V.d (D.str (ls.getD 2 default))] [] (V.d (BL f)) [],
   decide (n ≥ 0) = true,
   ((↑(List.map D.bool f).length : Int) == (↑(List.map Lt.d c.lats).length : Int)) = false,
   IntKind.i64.wrap ((↑(List.map D.str ls).length : Int) - 2) = (↑(List.map D.str ls).length : Int) - 2,
   3 = (↑3 : Int) ∧ (↑(List.map D.str ls).length : Int) - 2 = (↑k : Int) ∧ 3 ≤ k ∧ k ≤ (List.map D.str ls).length,
   ∀ (y : D), y ∈ List.map D.str ls → y.cells.length = (fun x => x.size) Tryd.prog.types[9],
   GoesL Tryd.prog (loopOf Tryd.prog 13 0) (⟨mk 115 [(1, V.d (D.str s)), (2, V.ptr 0 0), (4, V.ptr 1 0), (10, V.d (D.int IntKind.i64 n)), (12, V.ptr 2 0), (13, V.d (D.bool false)), (73, V.d (D.sl (List.take (k - 3) (List.drop 3 (List.map D.str ls))))), (74, V.d (D.int IntKind.i64 (↑(List.take (k - 3) (List.drop 3 (List.map D.str ls))).length : Int))), (75, V.d (D.int IntKind.i64 0))] [], [B.bx none [V.d (D.int IntKind.i64 c.ins), V.d (D.sl (List.map Lt.d c.lats)), V.d (D.sl (List.map An.d c.ands)), V.d (D.sl (List.map I c.bads)), V.d (D.sl (List.map I c.cons))], B.bx none [V.emp true, V.emp true], B.bx none [V.d (D.sl (List.map D.bool f)), V.emp true]]⟩) (Ex.exit 0) (Er c s n false f acc),
   (!false) = true]) := by kernel_rfl
theorem e7  : callX Tryd.prog wr false O 13 [.d c.d, .d (.str s)] [] [It.icall [] (V.d (I 0)) [], It.br false, It.icall [] (V.d (D.sl (List.map D.str ls))) [], It.br false, It.is ((↑(List.map D.str ls).length : Int) - 5), It.br false, It.el 1 (D.str (ls.getD 1 default)), It.br false, It.el 1 (D.str (ls.getD 1 default)), It.icall [] (V.d (D.str s2)) [], It.icall [] (V.tup [V.d (I n), V.d D.inil]) [], It.el 2 (D.str (ls.getD 2 default)), It.icall [] (V.d (BL f)) [], It.br false, It.is ((↑(List.map D.str ls).length : Int) - 2), It.cut 3 k, It.own, It.lp [1, 2, 4, 10, 12, 13, 73, 74, 75] (Ex.exit 0) (Er c s n false f acc), It.br true] = some (V.tup [V.agg [V.emp true, V.emp true], V.d (D.int IntKind.i64 0), V.d (D.int IntKind.i64 12)], [],
  [ICall Tryd.prog 26 [V.d (D.agg [I c.ins, D.sl (List.map Lt.d c.lats), D.sl (List.map An.d c.ands), L c.bads, L c.cons])] [] (V.d (I 0)) [],
   (0 != 0) = false,
   ICall Tryd.prog 27 [V.d (D.str s), V.d (D.str (ByteArray.mk #[10]).data.toList)] [] (V.d (D.sl (List.map D.str ls))) [],
   decide ((↑(List.map D.str ls).length : Int) < 6) = false,
   IntKind.i64.wrap ((↑(List.map D.str ls).length : Int) - 5) = (↑(List.map D.str ls).length : Int) - 5,
   decide ((↑(List.map D.str ls).length : Int) - 5 > 100) = false,
   1 = (↑1 : Int) ∧ (List.map D.str ls)[1]? = some (D.str (ls.getD 1 default)),
   decide ((↑(ls.getD 1 default).length : Int) > 10) = false,
   1 = (↑1 : Int) ∧ (List.map D.str ls)[1]? = some (D.str (ls.getD 1 default)),
   ICall Tryd.prog 29 [V.d (D.str (ls.getD 1 default)), V.d (D.str (ByteArray.mk #[98]).data.toList)] [] (V.d (D.str s2)) [],
   ICall Tryd.prog 28 [V.d (D.str s2)] [] (V.tup [V.d (I n), V.d D.inil]) [],
   2 = (↑2 : Int) ∧ (List.map D.str ls)[2]? = some (D.str (ls.getD 2 default)),
   ICall Tryd.prog 30 [V.d (D.str (ls.getD 2 default))] [] (V.d (BL f)) [],
   decide (n ≥ 0) = false,
   IntKind.i64.wrap ((↑(List.map D.str ls).length : Int) - 2) = (↑(List.map D.str ls).length : Int) - 2,
   3 = (↑3 : Int) ∧ (↑(List.map D.str ls).length : Int) - 2 = (↑k : Int) ∧ 3 ≤ k ∧ k ≤ (List.map D.str ls).length,
   ∀ (y : D), y ∈ List.map D.str ls → y.cells.length = (fun x => x.size) Tryd.prog.types[9],
   GoesL Tryd.prog (loopOf Tryd.prog 13 0) (⟨mk 115 [(1, V.d (D.str s)), (2, V.ptr 0 0), (4, V.ptr 1 0), (10, V.d (D.int IntKind.i64 n)), (12, V.ptr 2 0), (13, V.d (D.bool false)), (73, V.d (D.sl (List.take (k - 3) (List.drop 3 (List.map D.str ls))))), (74, V.d (D.int IntKind.i64 (↑(List.take (k - 3) (List.drop 3 (List.map D.str ls))).length : Int))), (75, V.d (D.int IntKind.i64 0))] [], [B.bx none [V.d (D.int IntKind.i64 c.ins), V.d (D.sl (List.map Lt.d c.lats)), V.d (D.sl (List.map An.d c.ands)), V.d (D.sl (List.map I c.bads)), V.d (D.sl (List.map I c.cons))], B.bx none [V.emp true, V.emp true], B.bx none [V.d (D.sl (List.map D.bool f)), V.emp true]]⟩) (Ex.exit 0) (Er c s n false f acc),
   (!false) = true]) := by kernel_rfl
theorem e8  : callX Tryd.prog wr false O 13 [.d c.d, .d (.str s)] [] [It.icall [] (V.d (I 0)) [], It.br false, It.icall [] (V.d (D.sl (List.map D.str ls))) [], It.br false, It.is ((↑(List.map D.str ls).length : Int) - 5), It.br false, It.el 1 (D.str (ls.getD 1 default)), It.br false, It.el 1 (D.str (ls.getD 1 default)), It.icall [] (V.d (D.str s2)) [], It.icall [] (V.tup [V.d (I n), V.d D.inil]) [], It.el 2 (D.str (ls.getD 2 default)), It.icall [] (V.d (BL f)) [], It.br true, It.br true, It.is ((↑(List.map D.str ls).length : Int) - 2), It.cut 3 k, It.own, It.lp [1, 2, 4, 10, 12, 13, 73, 74, 75] (Ex.exit 0) (Er c s n true f acc), It.br false, It.icall [] (V.d (D.str p)) [], It.br true] = some (V.tup [V.agg [V.emp true, V.emp true], V.d (D.int IntKind.i64 0), V.d (D.int IntKind.i64 12)], [],
  [ICall Tryd.prog 26 [V.d (D.agg [I c.ins, D.sl (List.map Lt.d c.lats), D.sl (List.map An.d c.ands), L c.bads, L c.cons])] [] (V.d (I 0)) [],
   (0 != 0) = false,
   ICall Tryd.prog 27 [V.d (D.str s), V.d (D.str (ByteArray.mk #[10]).data.toList)] [] (V.d (D.sl (List.map D.str ls))) [],
   decide ((↑(List.map D.str ls).length : Int) < 6) = false,
   IntKind.i64.wrap ((↑(List.map D.str ls).length : Int) - 5) = (↑(List.map D.str ls).length : Int) - 5,
   decide ((↑(List.map D.str ls).length : Int) - 5 > 100) = false,
   1 = (↑1 : Int) ∧ (List.map D.str ls)[1]? = some (D.str (ls.getD 1 default)),
   decide ((↑(ls.getD 1 default).length : Int) > 10) = false,
   1 = (↑1 : Int) ∧ (List.map D.str ls)[1]? = some (D.str (ls.getD 1 default)),
   ICall Tryd.prog 29 [V.d (D.str (ls.getD 1 default)), V.d (D.str (ByteArray.mk #[98]).data.toList)] [] (V.d (D.str s2)) [],
   ICall Tryd.prog 28 [V.d (D.str s2)] [] (V.tup [V.d (I n), V.d D.inil]) [],
   2 = (↑2 : Int) ∧ (List.map D.str ls)[2]? = some (D.str (ls.getD 2 default)),
   ICall Tryd.prog 30 [V.d (D.str (ls.getD 2 default))] [] (V.d (BL f)) [],
   decide (n ≥ 0) = true,
   ((↑(List.map D.bool f).length : Int) == (↑(List.map Lt.d c.lats).length : Int)) = true,
   IntKind.i64.wrap ((↑(List.map D.str ls).length : Int) - 2) = (↑(List.map D.str ls).length : Int) - 2,
   3 = (↑3 : Int) ∧ (↑(List.map D.str ls).length : Int) - 2 = (↑k : Int) ∧ 3 ≤ k ∧ k ≤ (List.map D.str ls).length,
   ∀ (y : D), y ∈ List.map D.str ls → y.cells.length = (fun x => x.size) Tryd.prog.types[9],
   GoesL Tryd.prog (loopOf Tryd.prog 13 0) (⟨mk 115 [(1, V.d (D.str s)), (2, V.ptr 0 0), (4, V.ptr 1 0), (10, V.d (D.int IntKind.i64 n)), (12, V.ptr 2 0), (13, V.d (D.bool true)), (73, V.d (D.sl (List.take (k - 3) (List.drop 3 (List.map D.str ls))))), (74, V.d (D.int IntKind.i64 (↑(List.take (k - 3) (List.drop 3 (List.map D.str ls))).length : Int))), (75, V.d (D.int IntKind.i64 0))] [], [B.bx none [V.d (D.int IntKind.i64 c.ins), V.d (D.sl (List.map Lt.d c.lats)), V.d (D.sl (List.map An.d c.ands)), V.d (D.sl (List.map I c.bads)), V.d (D.sl (List.map I c.cons))], B.bx none [V.emp true, V.emp true], B.bx none [V.d (D.sl (List.map D.bool f)), V.emp true]]⟩) (Ex.exit 0) (Er c s n true f acc),
   (!true) = false,
   ICall Tryd.prog 9 [V.d (D.agg [BL f, D.sl acc]), V.d (I n)] [] (V.d (D.str p)) [],
   (!p == s) = true]) := by kernel_rfl
theorem e9  : callX Tryd.prog wr false O 13 [.d c.d, .d (.str s)] [] [It.icall [] (V.d (I 0)) [], It.br false, It.icall [] (V.d (D.sl (List.map D.str ls))) [], It.br false, It.is ((↑(List.map D.str ls).length : Int) - 5), It.br false, It.el 1 (D.str (ls.getD 1 default)), It.br false, It.el 1 (D.str (ls.getD 1 default)), It.icall [] (V.d (D.str s2)) [], It.icall [] (V.tup [V.d (I n), V.d D.inil]) [], It.el 2 (D.str (ls.getD 2 default)), It.icall [] (V.d (BL f)) [], It.br true, It.br true, It.is ((↑(List.map D.str ls).length : Int) - 2), It.cut 3 k, It.own, It.lp [1, 2, 4, 10, 12, 13, 73, 74, 75] (Ex.exit 0) (Er c s n true f acc), It.br false, It.icall [] (V.d (D.str p)) [], It.br false, It.icall [] (V.d (I e)) [], It.br true] = some (V.tup [V.agg [V.emp true, V.emp true], V.d (D.int IntKind.i64 0), V.d (D.int IntKind.i64 e)], [],
  [ICall Tryd.prog 26 [V.d (D.agg [I c.ins, D.sl (List.map Lt.d c.lats), D.sl (List.map An.d c.ands), L c.bads, L c.cons])] [] (V.d (I 0)) [],
   (0 != 0) = false,
   ICall Tryd.prog 27 [V.d (D.str s), V.d (D.str (ByteArray.mk #[10]).data.toList)] [] (V.d (D.sl (List.map D.str ls))) [],
   decide ((↑(List.map D.str ls).length : Int) < 6) = false,
   IntKind.i64.wrap ((↑(List.map D.str ls).length : Int) - 5) = (↑(List.map D.str ls).length : Int) - 5,
   decide ((↑(List.map D.str ls).length : Int) - 5 > 100) = false,
   1 = (↑1 : Int) ∧ (List.map D.str ls)[1]? = some (D.str (ls.getD 1 default)),
   decide ((↑(ls.getD 1 default).length : Int) > 10) = false,
   1 = (↑1 : Int) ∧ (List.map D.str ls)[1]? = some (D.str (ls.getD 1 default)),
   ICall Tryd.prog 29 [V.d (D.str (ls.getD 1 default)), V.d (D.str (ByteArray.mk #[98]).data.toList)] [] (V.d (D.str s2)) [],
   ICall Tryd.prog 28 [V.d (D.str s2)] [] (V.tup [V.d (I n), V.d D.inil]) [],
   2 = (↑2 : Int) ∧ (List.map D.str ls)[2]? = some (D.str (ls.getD 2 default)),
   ICall Tryd.prog 30 [V.d (D.str (ls.getD 2 default))] [] (V.d (BL f)) [],
   decide (n ≥ 0) = true,
   ((↑(List.map D.bool f).length : Int) == (↑(List.map Lt.d c.lats).length : Int)) = true,
   IntKind.i64.wrap ((↑(List.map D.str ls).length : Int) - 2) = (↑(List.map D.str ls).length : Int) - 2,
   3 = (↑3 : Int) ∧ (↑(List.map D.str ls).length : Int) - 2 = (↑k : Int) ∧ 3 ≤ k ∧ k ≤ (List.map D.str ls).length,
   ∀ (y : D), y ∈ List.map D.str ls → y.cells.length = (fun x => x.size) Tryd.prog.types[9],
   GoesL Tryd.prog (loopOf Tryd.prog 13 0) (⟨mk 115 [(1, V.d (D.str s)), (2, V.ptr 0 0), (4, V.ptr 1 0), (10, V.d (D.int IntKind.i64 n)), (12, V.ptr 2 0), (13, V.d (D.bool true)), (73, V.d (D.sl (List.take (k - 3) (List.drop 3 (List.map D.str ls))))), (74, V.d (D.int IntKind.i64 (↑(List.take (k - 3) (List.drop 3 (List.map D.str ls))).length : Int))), (75, V.d (D.int IntKind.i64 0))] [], [B.bx none [V.d (D.int IntKind.i64 c.ins), V.d (D.sl (List.map Lt.d c.lats)), V.d (D.sl (List.map An.d c.ands)), V.d (D.sl (List.map I c.bads)), V.d (D.sl (List.map I c.cons))], B.bx none [V.emp true, V.emp true], B.bx none [V.d (D.sl (List.map D.bool f)), V.emp true]]⟩) (Ex.exit 0) (Er c s n true f acc),
   (!true) = false,
   ICall Tryd.prog 9 [V.d (D.agg [BL f, D.sl acc]), V.d (I n)] [] (V.d (D.str p)) [],
   (!p == s) = false,
   ICall Tryd.prog 5 [V.d (D.agg [I c.ins, D.sl (List.map Lt.d c.lats), D.sl (List.map An.d c.ands), L c.bads, L c.cons]), V.d (D.agg [BL f, D.sl acc]), V.d (I n)] [] (V.d (I e)) [],
   (e != 0) = true]) := by kernel_rfl
theorem e10  : callX Tryd.prog wr false O 13 [.d c.d, .d (.str s)] [] [It.icall [] (V.d (I 0)) [], It.br false, It.icall [] (V.d (D.sl (List.map D.str ls))) [], It.br false, It.is ((↑(List.map D.str ls).length : Int) - 5), It.br false, It.el 1 (D.str (ls.getD 1 default)), It.br false, It.el 1 (D.str (ls.getD 1 default)), It.icall [] (V.d (D.str s2)) [], It.icall [] (V.tup [V.d (I n), V.d D.inil]) [], It.el 2 (D.str (ls.getD 2 default)), It.icall [] (V.d (BL f)) [], It.br true, It.br true, It.is ((↑(List.map D.str ls).length : Int) - 2), It.cut 3 k, It.own, It.lp [1, 2, 4, 10, 12, 13, 73, 74, 75] (Ex.exit 0) (Er c s n true f acc), It.br false, It.icall [] (V.d (D.str p)) [], It.br false, It.icall [] (V.d (I e)) [], It.br false] = some (V.tup [V.d (D.agg [D.sl (List.map D.bool f), D.sl acc]), V.d (D.int IntKind.i64 n), V.d (D.int IntKind.i64 0)], [],
  [ICall Tryd.prog 26 [V.d (D.agg [I c.ins, D.sl (List.map Lt.d c.lats), D.sl (List.map An.d c.ands), L c.bads, L c.cons])] [] (V.d (I 0)) [],
   (0 != 0) = false,
   ICall Tryd.prog 27 [V.d (D.str s), V.d (D.str (ByteArray.mk #[10]).data.toList)] [] (V.d (D.sl (List.map D.str ls))) [],
   decide ((↑(List.map D.str ls).length : Int) < 6) = false,
   IntKind.i64.wrap ((↑(List.map D.str ls).length : Int) - 5) = (↑(List.map D.str ls).length : Int) - 5,
   decide ((↑(List.map D.str ls).length : Int) - 5 > 100) = false,
   1 = (↑1 : Int) ∧ (List.map D.str ls)[1]? = some (D.str (ls.getD 1 default)),
   decide ((↑(ls.getD 1 default).length : Int) > 10) = false,
   1 = (↑1 : Int) ∧ (List.map D.str ls)[1]? = some (D.str (ls.getD 1 default)),
   ICall Tryd.prog 29 [V.d (D.str (ls.getD 1 default)), V.d (D.str (ByteArray.mk #[98]).data.toList)] [] (V.d (D.str s2)) [],
   ICall Tryd.prog 28 [V.d (D.str s2)] [] (V.tup [V.d (I n), V.d D.inil]) [],
   2 = (↑2 : Int) ∧ (List.map D.str ls)[2]? = some (D.str (ls.getD 2 default)),
   ICall Tryd.prog 30 [V.d (D.str (ls.getD 2 default))] [] (V.d (BL f)) [],
   decide (n ≥ 0) = true,
   ((↑(List.map D.bool f).length : Int) == (↑(List.map Lt.d c.lats).length : Int)) = true,
   IntKind.i64.wrap ((↑(List.map D.str ls).length : Int) - 2) = (↑(List.map D.str ls).length : Int) - 2,
   3 = (↑3 : Int) ∧ (↑(List.map D.str ls).length : Int) - 2 = (↑k : Int) ∧ 3 ≤ k ∧ k ≤ (List.map D.str ls).length,
   ∀ (y : D), y ∈ List.map D.str ls → y.cells.length = (fun x => x.size) Tryd.prog.types[9],
   GoesL Tryd.prog (loopOf Tryd.prog 13 0) (⟨mk 115 [(1, V.d (D.str s)), (2, V.ptr 0 0), (4, V.ptr 1 0), (10, V.d (D.int IntKind.i64 n)), (12, V.ptr 2 0), (13, V.d (D.bool true)), (73, V.d (D.sl (List.take (k - 3) (List.drop 3 (List.map D.str ls))))), (74, V.d (D.int IntKind.i64 (↑(List.take (k - 3) (List.drop 3 (List.map D.str ls))).length : Int))), (75, V.d (D.int IntKind.i64 0))] [], [B.bx none [V.d (D.int IntKind.i64 c.ins), V.d (D.sl (List.map Lt.d c.lats)), V.d (D.sl (List.map An.d c.ands)), V.d (D.sl (List.map I c.bads)), V.d (D.sl (List.map I c.cons))], B.bx none [V.emp true, V.emp true], B.bx none [V.d (D.sl (List.map D.bool f)), V.emp true]]⟩) (Ex.exit 0) (Er c s n true f acc),
   (!true) = false,
   ICall Tryd.prog 9 [V.d (D.agg [BL f, D.sl acc]), V.d (I n)] [] (V.d (D.str p)) [],
   (!p == s) = false,
   ICall Tryd.prog 5 [V.d (D.agg [I c.ins, D.sl (List.map Lt.d c.lats), D.sl (List.map An.d c.ands), L c.bads, L c.cons]), V.d (D.agg [BL f, D.sl acc]), V.d (I n)] [] (V.d (I e)) [],
   (e != 0) = false]) := by kernel_rfl
end
end Go.Proofs.YtbamhlgkoimjoaaDoor.Sy.Rd
/- The text of a run, cut into lines and read again: the plain law. -/
namespace Go.Proofs.YtbamhlgkoimjoaaDoor.Sy.Rd
open Go Go.Proofs.YtbamhlgkoimjoaaDoor.Ab Go.Proofs.YtbamhlgkoimjoaaDoor.Sy Go.Proofs.YtbamhlgkoimjoaaDoor.Sy.Tx Go.Proofs.YtbamhlgkoimjoaaDoor.Sy.Vl Go.Proofs.YtbamhlgkoimjoaaDoor.Sy.Tc Go.Proofs.YtbamhlgkoimjoaaDoor.Sy.Wi Go.Proofs.YtbamhlgkoimjoaaDoor.Sy.Sp
set_option linter.unusedVariables false
set_option linter.unusedSimpArgs false
def dig (b : UInt8) : Bool := decide (48 ≤ b.toNat) && decide (b.toNat ≤ 57)
theorem dig_of (k : Nat) (h : k < 10) : dig (UInt8.ofNat (48 + k)) = true := by
  have : (UInt8.ofNat (48 + k)).toNat = 48 + k := by rw [UInt8.toNat_ofNat']; omega
  unfold dig
  rw [this]; simp; omega
theorem val_of (k : Nat) (h : k < 10) : Lib.digitVal (UInt8.ofNat (48 + k)) = some k := by
  have : (UInt8.ofNat (48 + k)).toNat = 48 + k := by rw [UInt8.toNat_ofNat']; omega
  unfold Lib.digitVal
  rw [this, if_pos (by omega)]
  congr 1; omega
theorem dec_dig (m : Nat) : ∀ u, u ≤ m → (∀ b ∈ Lib.decDigits u, dig b = true) ∧ Lib.decDigits u ≠ [] := by
  induction m with
  | zero =>
    intro u hu
    rw [Lib.decDigits, dif_pos (by omega)]
    exact ⟨fun b hb => by rw [List.mem_singleton.1 hb]; exact dig_of u (by omega), by simp⟩
  | succ m ih =>
    intro u hu
    rw [Lib.decDigits]
    by_cases c : u < 10
    · rw [dif_pos c]
      exact ⟨fun b hb => by rw [List.mem_singleton.1 hb]; exact dig_of u c, by simp⟩
    · rw [dif_neg c]
      refine ⟨fun b hb => ?_, by simp⟩
      rcases List.mem_append.1 hb with hb | hb
      · exact (ih (u / 10) (by omega)).1 b hb
      · rw [List.mem_singleton.1 hb]; exact dig_of _ (by omega)
theorem decFrom_app (b : UInt8) (d : Nat) (hb : Lib.digitVal b = some d) : ∀ (l : List UInt8) (a n : Nat), Lib.decFrom a l = some n → Lib.decFrom a (l ++ [b]) = some (n * 10 + d)
  | [], a, n, h => by
    rw [List.nil_append, Lib.decFrom, hb]
    simp only [Lib.decFrom, Option.some.injEq] at h ⊢
    omega
  | c :: l, a, n, h => by
    rw [List.cons_append, Lib.decFrom]
    rw [Lib.decFrom] at h
    cases hc : Lib.digitVal c with
    | none => rw [hc] at h; cases h
    | some e =>
      rw [hc] at h
      exact decFrom_app b d hb l _ n h
theorem decFrom_dec (m : Nat) : ∀ u, u ≤ m → Lib.decFrom 0 (Lib.decDigits u) = some u := by
  induction m with
  | zero =>
    intro u hu
    rw [Lib.decDigits, dif_pos (by omega)]
    simp only [Lib.decFrom, val_of u (by omega)]
    congr 1; omega
  | succ m ih =>
    intro u hu
    rw [Lib.decDigits]
    by_cases c : u < 10
    · rw [dif_pos c]
      simp only [Lib.decFrom, val_of u c]
      congr 1; omega
    · rw [dif_neg c, decFrom_app _ (u % 10) (val_of _ (by omega)) _ 0 (u / 10) (ih (u / 10) (by omega))]
      congr 1; omega
theorem dec_len (k : Nat) : ∀ u, u < 10 ^ (k + 1) → (Lib.decDigits u).length ≤ k + 1 := by
  induction k with
  | zero =>
    intro u hu
    rw [Lib.decDigits, dif_pos (by omega)]
    simp
  | succ k ih =>
    intro u hu
    rw [Lib.decDigits]
    by_cases c : u < 10
    · rw [dif_pos c]; simp
    · rw [dif_neg c, List.length_append, List.length_singleton]
      have := ih (u / 10) (by rw [Nat.pow_succ] at hu; omega)
      omega
theorem itoa_nn {n : Int} (h : 0 ≤ n) : Lib.itoa n = Lib.decDigits n.toNat := by
  unfold Lib.itoa; rw [if_neg (by omega)]
theorem itoa_dig {n : Int} (h : 0 ≤ n) : ∀ b ∈ Lib.itoa n, dig b = true := by
  rw [itoa_nn h]; exact (dec_dig _ _ (Nat.le_refl _)).1
theorem atoi_itoa {n : Int} (h : 0 ≤ n) : Lib.atoi (Lib.itoa n) = some n := by
  have h1 := decFrom_dec _ n.toNat (Nat.le_refl _)
  have h2 := itoa_dig h
  have h3 := (dec_dig _ n.toNat (Nat.le_refl _)).2
  rw [itoa_nn h] at h2 ⊢
  cases hd : Lib.decDigits n.toNat with
  | nil => exact absurd hd h3
  | cons b r =>
    rw [hd] at h1 h2
    have hb := h2 b (by simp)
    unfold dig at hb
    rw [Bool.and_eq_true, decide_eq_true_eq, decide_eq_true_eq] at hb
    have b1 : (b == 45) = false := beq_eq_false_iff_ne.2 fun e => by rw [e] at hb; exact absurd hb.1 (by decide)
    have b2 : (b == 43) = false := beq_eq_false_iff_ne.2 fun e => by rw [e] at hb; exact absurd hb.1 (by decide)
    show (if (b == 45) = true then (Lib.decNat r).map fun (m : Nat) => -(m : Int) else if (b == 43) = true then (Lib.decNat r).map fun (m : Nat) => (m : Int) else (Lib.decNat (b :: r)).map fun (m : Nat) => (m : Int)) = some n
    unfold Lib.decNat
    rw [b1, b2, if_neg (by simp), if_neg (by simp), if_neg (by simp), h1]
    show some ((n.toNat : Nat) : Int) = some n
    congr 1; omega
theorem itoa_ten {n : Int} (h : 0 ≤ n) : (10 : UInt8) ∉ Lib.itoa n := fun hm => by
  have := itoa_dig h _ hm
  revert this; decide
theorem itoa_len9 {n : Int} (h : 0 ≤ n) (h1 : n < 100000) : (Lib.itoa n).length ≤ 5 := by
  rw [itoa_nn h]; exact dec_len 4 _ (by omega)
/-- The truth values of a line. -/
def bo (l : List UInt8) : List Bool := l.map (· == 49)
theorem bo_len (l : List UInt8) : (bo l).length = l.length := List.length_map _
theorem bo_digs (v : List Bool) : bo (digs v) = v := by
  unfold bo digs
  induction v with
  | nil => rfl
  | cons b r ih =>
    rw [List.flatMap_cons, List.map_append, ih]
    cases b <;> rfl
theorem digs_ten (v : List Bool) : (10 : UInt8) ∉ digs v := fun h => by
  unfold digs at h
  obtain ⟨b, -, hb⟩ := List.mem_flatMap.1 h
  cases b
  · rw [if_neg (by simp)] at hb; revert hb; decide
  · rw [if_pos rfl] at hb; revert hb; decide
theorem splitU_lines (y : List UInt8) : ∀ ls : List (List Bool), splitU 10 (ls.flatMap (fun l => digs l ++ [10]) ++ y) = ls.map digs ++ splitU 10 y
  | [] => rfl
  | v :: r => by
    rw [List.flatMap_cons, List.append_assoc, List.append_assoc, List.singleton_append, splitU_cons (digs_ten v), splitU_lines y r]; rfl
theorem splitU_txt (t : Tr) {n : Int} (h : 0 ≤ n) : splitU 10 (txt t n) = [49] :: (98 :: Lib.itoa n) :: digs t.first :: (t.ins.map digs ++ [[46], []]) := by
  have e : txt t n = [49] ++ 10 :: ((98 :: Lib.itoa n) ++ 10 :: (digs t.first ++ 10 :: (t.ins.flatMap (fun l => digs l ++ [10]) ++ ([46] ++ 10 :: [])))) := by
    unfold txt; simp
  rw [e, splitU_cons (by decide), splitU_cons (by
    intro hm
    rcases List.mem_cons.1 hm with hm | hm
    · revert hm; decide
    · exact itoa_ten h hm), splitU_cons (digs_ten _), splitU_lines, splitU_cons (by decide)]
  rfl
theorem splitU_mem (u : UInt8) : ∀ (l : List UInt8), ∀ x ∈ splitU u l, x.length ≤ l.length
  | [], x, hx => by rw [splitU, List.mem_singleton] at hx; rw [hx]; simp
  | b :: r, x, hx => by
    have ih := splitU_mem u r
    rw [splitU] at hx
    split at hx
    · rcases List.mem_cons.1 hx with rfl | hx
      · simp
      · have := ih x hx; simp; omega
    · split at hx
      · rw [List.mem_singleton] at hx; rw [hx]; simp
      · next y ys hs =>
        rw [hs] at ih
        rcases List.mem_cons.1 hx with rfl | hx
        · have := ih y (by simp); simp; omega
        · have := ih x (by simp [hx]); simp; omega
/-- The lines, the lines of inputs, the run, the number of a text. -/
def lns (s : List UInt8) : List (List UInt8) := splitU 10 s
def rdL (s : List UInt8) : List (List UInt8) := ((lns s).drop 3).take ((lns s).length - 2 - 3)
def rdT (s : List UInt8) : Tr := ⟨bo ((lns s).getD 2 default), (rdL s).map bo⟩
def trim (l : List UInt8) : List UInt8 := if l.take 1 = [98] then l.drop 1 else l
def rdA (s : List UInt8) : Option Int := Lib.atoi (trim ((lns s).getD 1 default))
def rdN (s : List UInt8) : Int := (rdA s).getD 0
/-- Is it of the form that is read? -/
def okL (c : Ci) (s : List UInt8) : Bool := (rdA s).isSome && (decide (0 ≤ rdN s) && decide ((rdT s).first.length = c.lats.length))
def okR (c : Ci) (s : List UInt8) : Bool := okL c s && (rdL s).all (fun l => decide ((l.length : Int) = c.ins))
def few (s : List UInt8) : Bool := decide ((lns s).length < 6) || (decide ((lns s).length > 105) || decide (((lns s).getD 1 default).length > 10))
def form (c : Ci) (s : List UInt8) : Bool := !few s && (okR c s && decide (txt (rdT s) (rdN s) = s))
/-- The error that witness.Read answers. -/
def rdE (c : Ci) (s : List UInt8) : Int := if Gates.chk c ≠ 0 then Gates.chk c else if form c s then wtChk c (rdT s) (rdN s) else 12
theorem rdL_txt (t : Tr) {n : Int} (h : 0 ≤ n) : rdL (txt t n) = t.ins.map digs := by
  unfold rdL lns
  rw [splitU_txt t h]
  simp only [List.drop_succ_cons, List.drop_zero, List.length_cons, List.length_append, List.length_map, List.length_nil]
  rw [List.take_append_of_le_length (by rw [List.length_map]; omega), List.take_of_length_le (by rw [List.length_map]; omega)]
theorem rdT_txt (t : Tr) {n : Int} (h : 0 ≤ n) : rdT (txt t n) = t := by
  unfold rdT
  rw [rdL_txt t h, List.map_map]
  unfold lns
  rw [splitU_txt t h]
  show (⟨bo (digs t.first), _⟩ : Tr) = t
  rw [bo_digs]
  have : (t.ins.map (bo ∘ digs)) = t.ins := by
    rw [show (bo ∘ digs) = id from funext fun v => bo_digs v, List.map_id]
  rw [this]
theorem rdA_txt (t : Tr) {n : Int} (h : 0 ≤ n) : rdA (txt t n) = some n := by
  unfold rdA lns
  rw [splitU_txt t h]
  show Lib.atoi (trim (98 :: Lib.itoa n)) = _
  unfold trim
  rw [if_pos (by simp), List.drop_succ_cons, List.drop_zero]
  exact atoi_itoa h
theorem rdN_txt (t : Tr) {n : Int} (h : 0 ≤ n) : rdN (txt t n) = n := by unfold rdN; rw [rdA_txt t h]; rfl
/-- Different runs or numbers have different texts. -/
theorem txt_inj {t u : Tr} {n m : Int} (h : 0 ≤ n) (h1 : 0 ≤ m) (e : txt t n = txt u m) : t = u ∧ n = m := by
  have e1 := rdT_txt t h
  have e2 := rdN_txt t h
  rw [e, rdT_txt u h1] at e1
  rw [e, rdN_txt u h1] at e2
  exact ⟨e1.symm, e2.symm⟩
theorem wt_nn {c : Ci} {t : Tr} {n : Int} (h : wtChk c t n = 0) : trChk c t = 0 ∧ 0 ≤ n ∧ n < (c.bads.length : Int) ∧ shown c t n.toNat = true := by
  unfold wtChk at h
  split at h
  · next h1 => exact absurd h h1
  · next h1 =>
    split at h
    · cases h
    · next h2 =>
      split at h
      · cases h
      · next h3 =>
        split at h
        · next h4 => exact ⟨Decidable.not_not.1 h1, by omega, by omega, h4⟩
        · cases h
/-- What is written is read. -/
theorem back {c : Ci} {t : Tr} {n : Int} (hb : c.bads.length ≤ 2000) (h : wtChk c t n = 0) : rdE c (txt t n) = 0 ∧ rdT (txt t n) = t ∧ rdN (txt t n) = n := by
  obtain ⟨h1, h2, h3, -⟩ := wt_nn h
  have k := ok_of h1
  have e1 := rdT_txt t h2
  have e2 := rdN_txt t h2
  have e3 := rdA_txt t h2
  have hl := itoa_len9 h2 (by omega)
  have k1 := k.some
  have k2 : t.ins.length ≤ 100 := by
    unfold trChk at h1
    split at h1
    · next q => exact absurd h1 q
    · split at h1
      · cases h1
      · omega
  have kl : t.first.length = c.lats.length := by
    unfold trChk at h1
    split at h1
    · next q => exact absurd h1 q
    · split at h1
      · cases h1
      · split at h1
        · cases h1
        · split at h1
          · cases h1
          · omega
  refine ⟨?_, e1, e2⟩
  have hf : few (txt t n) = false := by
    unfold few lns
    rw [splitU_txt t h2]
    simp only [List.length_cons, List.length_append, List.length_map, List.length_nil, Bool.or_eq_false_iff, decide_eq_false_iff_not]
    refine ⟨by omega, by omega, ?_⟩
    show ¬ ((98 :: Lib.itoa n).length > 10)
    rw [List.length_cons]; omega
  have hr : okR c (txt t n) = true := by
    unfold okR okL
    rw [e3, e2, e1, rdL_txt t h2, decide_eq_true h2, decide_eq_true kl]
    simp only [Option.isSome_some, Bool.and_self, Bool.true_and]
    rw [List.all_eq_true]
    intro x hx
    obtain ⟨v, hv, rfl⟩ := List.mem_map.1 hx
    rw [digs_len]
    exact decide_eq_true (k.each v hv)
  unfold rdE form
  rw [if_neg (by rw [k.chk]; simp), hf, hr, e1, e2, decide_eq_true rfl]
  exact h
theorem rd_ok {c : Ci} {s : List UInt8} (h : rdE c s = 0) : Gates.chk c = 0 ∧ form c s = true ∧ wtChk c (rdT s) (rdN s) = 0 := by
  unfold rdE at h
  split at h
  · next q => exact absurd h q
  · next q =>
    split at h
    · next q2 => exact ⟨Decidable.not_not.1 q, q2, h⟩
    · cases h
/-- What is read has the text, and shows its literal; its lines are counted. -/
theorem text {c : Ci} {s : List UInt8} (h : rdE c s = 0) : txt (rdT s) (rdN s) = s ∧ wtChk c (rdT s) (rdN s) = 0 ∧ s.count 10 = 4 + (rdT s).ins.length := by
  obtain ⟨h1, h2, h3⟩ := rd_ok h
  unfold form at h2
  rw [Bool.and_eq_true, Bool.and_eq_true, decide_eq_true_eq] at h2
  obtain ⟨hf, -, ht⟩ := h2
  refine ⟨ht, h3, ?_⟩
  have hl := splitU_len 10 s
  unfold few at hf
  rw [Bool.not_eq_true', Bool.or_eq_false_iff, decide_eq_false_iff_not] at hf
  have : (rdT s).ins.length = (lns s).length - 5 := by
    unfold rdT rdL
    rw [List.length_map, List.length_take, List.length_drop]; omega
  rw [this]
  unfold lns at hf ⊢
  omega
end Go.Proofs.YtbamhlgkoimjoaaDoor.Sy.Rd
/- The facts that contracts of the library ask of this program: printed by wip/tools/shelf.py. -/
namespace Go.Proofs
open Go.Shelf
def Tryd.lays172_ren : Go.Shelf.Ren := ⟨fun | 129 => 79 | 171 => 16 | 172 => 28 | 205 => 77 | 243 => 32 | 244 => 45 | 245 => 46 | 246 => 49 | 247 => 60 | 279 => 61 | 280 => 62 | 281 => 63 | 282 => 64 | 283 => 66 | 284 => 67 | 285 => 68 | 286 => 69 | 287 => 75 | 316 => 76 | 317 => 78 | 318 => 80 | 319 => 81 | 320 => 82 | 321 => 88 | 322 => 89 | 337 => 90 | 338 => 91 | n => n, fun | 0 => 0 | 1 => 1 | 2 => 2 | 3 => 3 | 4 => 4 | 5 => 5 | 6 => 6 | 7 => 7 | 8 => 8 | 9 => 9 | 10 => 10 | 11 => 11 | 12 => 12 | 13 => 13 | 14 => 14 | 15 => 15 | 16 => 16 | 17 => 17 | 18 => 18 | 19 => 19 | 20 => 20 | 21 => 21 | 22 => 106 | 23 => 70 | 27 => 99 | 28 => 25 | 31 => 37 | 37 => 52 | 46 => 80 | 47 => 128 | 51 => 126 | 52 => 134 | 53 => 108 | 54 => 109 | 55 => 117 | 61 => 69 | 69 => 120 | 70 => 51 | 71 => 53 | 72 => 54 | 74 => 55 | 75 => 56 | 76 => 57 | 77 => 58 | 78 => 72 | 80 => 61 | 81 => 148 | 83 => 59 | 84 => 91 | 85 => 101 | 86 => 102 | 103 => 114 | 104 => 130 | 105 => 115 | 106 => 116 | 108 => 123 | 111 => 81 | 113 => 87 | 114 => 66 | 119 => 135 | 127 => 73 | 128 => 88 | 137 => 136 | 138 => 137 | 139 => 138 | 143 => 131 | 144 => 132 | 145 => 133 | 146 => 139 | 150 => 98 | 151 => 140 | 164 => 89 | 165 => 90 | 167 => 100 | 168 => 103 | 169 => 104 | 170 => 105 | 171 => 107 | 172 => 110 | 173 => 111 | 174 => 112 | 175 => 118 | 176 => 119 | 209 => 121 | 210 => 122 | 211 => 124 | 212 => 125 | 213 => 127 | 214 => 129 | 232 => 141 | 233 => 142 | 238 => 143 | 239 => 144 | 240 => 145 | 241 => 146 | 242 => 147 | 243 => 149 | 244 => 150 | 245 => 151 | 246 => 152 | 247 => 153 | 248 => 154 | 249 => 155 | n => n, fun | 1 => 3 | 3 => 4 | 4 => 5 | 15 => 0 | 16 => 1 | 17 => 2 | 18 => 6 | 19 => 7 | n => n⟩
theorem Tryd.lays172 : Go.Proofs.Lays.n172 Tryd.prog Tryd.lays172_ren := {
  mixed := by kernel_rfl
  f129 := Tryd.func79.trans (congrArg some (by kernel_rfl))
  f171 := Tryd.func16.trans (congrArg some (by kernel_rfl))
  f172 := Tryd.func28.trans (congrArg some (by kernel_rfl))
  f205 := Tryd.func77.trans (congrArg some (by kernel_rfl))
  f243 := Tryd.func32.trans (congrArg some (by kernel_rfl))
  f244 := Tryd.func45.trans (congrArg some (by kernel_rfl))
  f245 := Tryd.func46.trans (congrArg some (by kernel_rfl))
  f246 := Tryd.func49.trans (congrArg some (by kernel_rfl))
  f247 := Tryd.func60.trans (congrArg some (by kernel_rfl))
  f279 := Tryd.func61.trans (congrArg some (by kernel_rfl))
  f280 := Tryd.func62.trans (congrArg some (by kernel_rfl))
  f281 := Tryd.func63.trans (congrArg some (by kernel_rfl))
  f282 := Tryd.func64.trans (congrArg some (by kernel_rfl))
  f283 := Tryd.func66.trans (congrArg some (by kernel_rfl))
  f284 := Tryd.func67.trans (congrArg some (by kernel_rfl))
  f285 := Tryd.func68.trans (congrArg some (by kernel_rfl))
  f286 := Tryd.func69.trans (congrArg some (by kernel_rfl))
  f287 := Tryd.func75.trans (congrArg some (by kernel_rfl))
  f316 := Tryd.func76.trans (congrArg some (by kernel_rfl))
  f317 := Tryd.func78.trans (congrArg some (by kernel_rfl))
  f318 := Tryd.func80.trans (congrArg some (by kernel_rfl))
  f319 := Tryd.func81.trans (congrArg some (by kernel_rfl))
  f320 := Tryd.func82.trans (congrArg some (by kernel_rfl))
  f321 := Tryd.func88.trans (congrArg some (by kernel_rfl))
  f322 := Tryd.func89.trans (congrArg some (by kernel_rfl))
  f337 := Tryd.func90.trans (congrArg some (by kernel_rfl))
  f338 := Tryd.func91.trans (congrArg some (by kernel_rfl))
  t0 := Tryd.underlying0
  a0 := Tryd.isAgg0
  z0 := Tryd.sizeOf0
  v0 := Tryd.zeroValue0
  t2 := Tryd.underlying2
  a2 := Tryd.isAgg2
  z2 := Tryd.sizeOf2
  v2 := Tryd.zeroValue2
  t3 := Tryd.underlying3
  a3 := Tryd.isAgg3
  z3 := Tryd.sizeOf3
  v3 := Tryd.zeroValue3
  t4 := Tryd.underlying4
  a4 := Tryd.isAgg4
  z4 := Tryd.sizeOf4
  v4 := Tryd.zeroValue4
  t5 := Tryd.underlying5
  a5 := Tryd.isAgg5
  z5 := Tryd.sizeOf5
  v5 := Tryd.zeroValue5
  t9 := Tryd.underlying9
  a9 := Tryd.isAgg9
  z9 := Tryd.sizeOf9
  v9 := Tryd.zeroValue9
  t20 := Tryd.underlying20
  a20 := Tryd.isAgg20
  z20 := Tryd.sizeOf20
  v20 := Tryd.zeroValue20
  t21 := Tryd.underlying21
  a21 := Tryd.isAgg21
  z21 := Tryd.sizeOf21
  v21 := Tryd.zeroValue21
  t37 := Tryd.underlying52
  a37 := Tryd.isAgg52
  z37 := Tryd.sizeOf52
  v37 := Tryd.zeroValue52
  t46 := Tryd.underlying80
  a46 := Tryd.isAgg80
  z46 := Tryd.sizeOf80
  v46 := Tryd.zeroValue80
  t51 := Tryd.underlying126
  a51 := Tryd.isAgg126
  z51 := Tryd.sizeOf126
  v51 := Tryd.zeroValue126
  t53 := Tryd.underlying108
  a53 := Tryd.isAgg108
  z53 := Tryd.sizeOf108
  v53 := Tryd.zeroValue108
  t75 := Tryd.underlying56
  a75 := Tryd.isAgg56
  z75 := Tryd.sizeOf56
  v75 := Tryd.zeroValue56
  t76 := Tryd.underlying57
  a76 := Tryd.isAgg57
  z76 := Tryd.sizeOf57
  v76 := Tryd.zeroValue57
  t85 := Tryd.underlying101
  a85 := Tryd.isAgg101
  z85 := Tryd.sizeOf101
  v85 := Tryd.zeroValue101
  t127 := Tryd.underlying73
  a127 := Tryd.isAgg73
  z127 := Tryd.sizeOf73
  v127 := Tryd.zeroValue73
  t143 := Tryd.underlying131
  a143 := Tryd.isAgg131
  z143 := Tryd.sizeOf131
  v143 := Tryd.zeroValue131
  t145 := Tryd.underlying133
  a145 := Tryd.isAgg133
  z145 := Tryd.sizeOf133
  v145 := Tryd.zeroValue133
  t167 := Tryd.underlying100
  a167 := Tryd.isAgg100
  z167 := Tryd.sizeOf100
  v167 := Tryd.zeroValue100
  t168 := Tryd.underlying103
  a168 := Tryd.isAgg103
  z168 := Tryd.sizeOf103
  v168 := Tryd.zeroValue103
  t171 := Tryd.underlying107
  a171 := Tryd.isAgg107
  z171 := Tryd.sizeOf107
  v171 := Tryd.zeroValue107
  t173 := Tryd.underlying111
  a173 := Tryd.isAgg111
  z173 := Tryd.sizeOf111
  v173 := Tryd.zeroValue111
  t175 := Tryd.underlying118
  a175 := Tryd.isAgg118
  z175 := Tryd.sizeOf118
  v175 := Tryd.zeroValue118
  t210 := Tryd.underlying122
  a210 := Tryd.isAgg122
  z210 := Tryd.sizeOf122
  v210 := Tryd.zeroValue122
  t212 := Tryd.underlying125
  a212 := Tryd.isAgg125
  z212 := Tryd.sizeOf125
  v212 := Tryd.zeroValue125
  t213 := Tryd.underlying127
  a213 := Tryd.isAgg127
  z213 := Tryd.sizeOf127
  t232 := Tryd.underlying141
  a232 := Tryd.isAgg141
  z232 := Tryd.sizeOf141
  v232 := Tryd.zeroValue141
  t233 := Tryd.underlying142
  a233 := Tryd.isAgg142
  z233 := Tryd.sizeOf142
  v233 := Tryd.zeroValue142
  g15 := by kernel_rfl
  g16 := by kernel_rfl
  g17 := by kernel_rfl
  g18 := by kernel_rfl
  g19 := by kernel_rfl }
def Tryd.laysC172_ren : Go.Shelf.Ren := ⟨fun | 129 => 79 | 171 => 16 | 172 => 28 | 205 => 77 | 243 => 32 | 244 => 45 | 245 => 46 | 246 => 49 | 247 => 60 | 279 => 61 | 280 => 62 | 281 => 63 | 282 => 64 | 283 => 66 | 284 => 67 | 285 => 68 | 286 => 69 | 287 => 75 | 316 => 76 | 317 => 78 | 318 => 80 | 319 => 81 | 320 => 82 | 321 => 88 | 322 => 89 | 337 => 90 | 338 => 91 | n => n, fun | 0 => 0 | 1 => 1 | 2 => 2 | 3 => 3 | 4 => 4 | 5 => 5 | 6 => 6 | 7 => 7 | 8 => 8 | 9 => 9 | 10 => 10 | 11 => 11 | 12 => 12 | 13 => 13 | 14 => 14 | 15 => 15 | 16 => 16 | 17 => 17 | 18 => 18 | 19 => 19 | 20 => 20 | 21 => 21 | 22 => 106 | 23 => 70 | 27 => 99 | 28 => 25 | 31 => 37 | 37 => 52 | 46 => 80 | 47 => 128 | 51 => 126 | 52 => 134 | 53 => 108 | 54 => 109 | 55 => 117 | 61 => 69 | 69 => 120 | 70 => 51 | 71 => 53 | 72 => 54 | 74 => 55 | 75 => 56 | 76 => 57 | 77 => 58 | 78 => 72 | 80 => 61 | 81 => 148 | 83 => 59 | 84 => 91 | 85 => 101 | 86 => 102 | 103 => 114 | 104 => 130 | 105 => 115 | 106 => 116 | 108 => 123 | 111 => 81 | 113 => 87 | 114 => 66 | 119 => 135 | 127 => 73 | 128 => 88 | 137 => 136 | 138 => 137 | 139 => 138 | 143 => 131 | 144 => 132 | 145 => 133 | 146 => 139 | 150 => 98 | 151 => 140 | 164 => 89 | 165 => 90 | 167 => 100 | 168 => 103 | 169 => 104 | 170 => 105 | 171 => 107 | 172 => 110 | 173 => 111 | 174 => 112 | 175 => 118 | 176 => 119 | 209 => 121 | 210 => 122 | 211 => 124 | 212 => 125 | 213 => 127 | 214 => 129 | 232 => 141 | 233 => 142 | 238 => 143 | 239 => 144 | 240 => 145 | 241 => 146 | 242 => 147 | 243 => 149 | 244 => 150 | 245 => 151 | 246 => 152 | 247 => 153 | 248 => 154 | 249 => 155 | n => n, fun | 1 => 3 | 3 => 4 | 4 => 5 | 15 => 0 | 16 => 1 | 17 => 2 | 18 => 6 | 19 => 7 | n => n⟩
theorem Tryd.laysC172 : Go.Proofs.LaysC.n172 Tryd.prog Tryd.laysC172_ren := {
  mixed := by kernel_rfl
  f129 := Tryd.func79.trans (congrArg some (by kernel_rfl))
  f171 := Tryd.func16.trans (congrArg some (by kernel_rfl))
  f172 := Tryd.func28.trans (congrArg some (by kernel_rfl))
  f205 := Tryd.func77.trans (congrArg some (by kernel_rfl))
  f243 := Tryd.func32.trans (congrArg some (by kernel_rfl))
  f244 := Tryd.func45.trans (congrArg some (by kernel_rfl))
  f245 := Tryd.func46.trans (congrArg some (by kernel_rfl))
  f246 := Tryd.func49.trans (congrArg some (by kernel_rfl))
  f247 := Tryd.func60.trans (congrArg some (by kernel_rfl))
  f279 := Tryd.func61.trans (congrArg some (by kernel_rfl))
  f280 := Tryd.func62.trans (congrArg some (by kernel_rfl))
  f281 := Tryd.func63.trans (congrArg some (by kernel_rfl))
  f282 := Tryd.func64.trans (congrArg some (by kernel_rfl))
  f283 := Tryd.func66.trans (congrArg some (by kernel_rfl))
  f284 := Tryd.func67.trans (congrArg some (by kernel_rfl))
  f285 := Tryd.func68.trans (congrArg some (by kernel_rfl))
  f286 := Tryd.func69.trans (congrArg some (by kernel_rfl))
  f287 := Tryd.func75.trans (congrArg some (by kernel_rfl))
  f316 := Tryd.func76.trans (congrArg some (by kernel_rfl))
  f317 := Tryd.func78.trans (congrArg some (by kernel_rfl))
  f318 := Tryd.func80.trans (congrArg some (by kernel_rfl))
  f319 := Tryd.func81.trans (congrArg some (by kernel_rfl))
  f320 := Tryd.func82.trans (congrArg some (by kernel_rfl))
  f321 := Tryd.func88.trans (congrArg some (by kernel_rfl))
  f322 := Tryd.func89.trans (congrArg some (by kernel_rfl))
  f337 := Tryd.func90.trans (congrArg some (by kernel_rfl))
  f338 := Tryd.func91.trans (congrArg some (by kernel_rfl))
  t0 := Tryd.underlying0
  a0 := Tryd.isAgg0
  z0 := Tryd.sizeOf0
  v0 := Tryd.zeroValue0
  t2 := Tryd.underlying2
  a2 := Tryd.isAgg2
  z2 := Tryd.sizeOf2
  v2 := Tryd.zeroValue2
  t3 := Tryd.underlying3
  a3 := Tryd.isAgg3
  z3 := Tryd.sizeOf3
  v3 := Tryd.zeroValue3
  t4 := Tryd.underlying4
  a4 := Tryd.isAgg4
  z4 := Tryd.sizeOf4
  v4 := Tryd.zeroValue4
  t5 := Tryd.underlying5
  a5 := Tryd.isAgg5
  z5 := Tryd.sizeOf5
  v5 := Tryd.zeroValue5
  t9 := Tryd.underlying9
  a9 := Tryd.isAgg9
  z9 := Tryd.sizeOf9
  v9 := Tryd.zeroValue9
  t20 := Tryd.underlying20
  a20 := Tryd.isAgg20
  z20 := Tryd.sizeOf20
  v20 := Tryd.zeroValue20
  t21 := Tryd.underlying21
  a21 := Tryd.isAgg21
  z21 := Tryd.sizeOf21
  v21 := Tryd.zeroValue21
  t37 := Tryd.underlying52
  a37 := Tryd.isAgg52
  z37 := Tryd.sizeOf52
  v37 := Tryd.zeroValue52
  t46 := Tryd.underlying80
  a46 := Tryd.isAgg80
  z46 := Tryd.sizeOf80
  v46 := Tryd.zeroValue80
  t51 := Tryd.underlying126
  a51 := Tryd.isAgg126
  z51 := Tryd.sizeOf126
  v51 := Tryd.zeroValue126
  t53 := Tryd.underlying108
  a53 := Tryd.isAgg108
  z53 := Tryd.sizeOf108
  v53 := Tryd.zeroValue108
  t75 := Tryd.underlying56
  a75 := Tryd.isAgg56
  z75 := Tryd.sizeOf56
  v75 := Tryd.zeroValue56
  t76 := Tryd.underlying57
  a76 := Tryd.isAgg57
  z76 := Tryd.sizeOf57
  v76 := Tryd.zeroValue57
  t85 := Tryd.underlying101
  a85 := Tryd.isAgg101
  z85 := Tryd.sizeOf101
  v85 := Tryd.zeroValue101
  t127 := Tryd.underlying73
  a127 := Tryd.isAgg73
  z127 := Tryd.sizeOf73
  v127 := Tryd.zeroValue73
  t143 := Tryd.underlying131
  a143 := Tryd.isAgg131
  z143 := Tryd.sizeOf131
  v143 := Tryd.zeroValue131
  t145 := Tryd.underlying133
  a145 := Tryd.isAgg133
  z145 := Tryd.sizeOf133
  v145 := Tryd.zeroValue133
  t167 := Tryd.underlying100
  a167 := Tryd.isAgg100
  z167 := Tryd.sizeOf100
  v167 := Tryd.zeroValue100
  t168 := Tryd.underlying103
  a168 := Tryd.isAgg103
  z168 := Tryd.sizeOf103
  v168 := Tryd.zeroValue103
  t171 := Tryd.underlying107
  a171 := Tryd.isAgg107
  z171 := Tryd.sizeOf107
  v171 := Tryd.zeroValue107
  t173 := Tryd.underlying111
  a173 := Tryd.isAgg111
  z173 := Tryd.sizeOf111
  v173 := Tryd.zeroValue111
  t175 := Tryd.underlying118
  a175 := Tryd.isAgg118
  z175 := Tryd.sizeOf118
  v175 := Tryd.zeroValue118
  t210 := Tryd.underlying122
  a210 := Tryd.isAgg122
  z210 := Tryd.sizeOf122
  v210 := Tryd.zeroValue122
  t212 := Tryd.underlying125
  a212 := Tryd.isAgg125
  z212 := Tryd.sizeOf125
  v212 := Tryd.zeroValue125
  t213 := Tryd.underlying127
  a213 := Tryd.isAgg127
  z213 := Tryd.sizeOf127
  t232 := Tryd.underlying141
  a232 := Tryd.isAgg141
  z232 := Tryd.sizeOf141
  v232 := Tryd.zeroValue141
  t233 := Tryd.underlying142
  a233 := Tryd.isAgg142
  z233 := Tryd.sizeOf142
  v233 := Tryd.zeroValue142
  g15 := by kernel_rfl
  g16 := by kernel_rfl
  g17 := by kernel_rfl
  g18 := by kernel_rfl
  g19 := by kernel_rfl
  t80 := Tryd.underlying61
  a80 := Tryd.isAgg61
  z80 := Tryd.sizeOf61
  v80 := Tryd.zeroValue61
  i0 := by kernel_rfl
  i2 := by kernel_rfl
  i3 := by kernel_rfl
  i4 := by kernel_rfl
  i5 := by kernel_rfl
  i9 := by kernel_rfl
  i20 := by kernel_rfl
  i21 := by kernel_rfl
  i37 := by kernel_rfl
  i46 := by kernel_rfl
  i51 := by kernel_rfl
  i53 := by kernel_rfl
  i75 := by kernel_rfl
  i76 := by kernel_rfl
  i80 := by kernel_rfl
  i85 := by kernel_rfl
  i127 := by kernel_rfl
  i143 := by kernel_rfl
  i145 := by kernel_rfl
  i167 := by kernel_rfl
  i168 := by kernel_rfl
  i171 := by kernel_rfl
  i173 := by kernel_rfl
  i175 := by kernel_rfl
  i210 := by kernel_rfl
  i212 := by kernel_rfl
  i232 := by kernel_rfl
  i233 := by kernel_rfl
  m15 := by kernel_rfl
  m16 := by kernel_rfl
  m17 := by kernel_rfl
  m18 := by kernel_rfl
  m19 := by kernel_rfl
  c0 := by kernel_rfl
  c2 := by kernel_rfl
  c3 := by kernel_rfl
  c4 := by kernel_rfl
  c5 := by kernel_rfl
  c9 := by kernel_rfl
  c20 := by kernel_rfl
  c21 := by kernel_rfl
  c37 := by kernel_rfl
  c46 := by kernel_rfl
  c51 := by kernel_rfl
  c53 := by kernel_rfl
  c75 := by kernel_rfl
  c76 := by kernel_rfl
  c80 := by kernel_rfl
  c85 := by kernel_rfl
  c127 := by kernel_rfl
  c143 := by kernel_rfl
  c145 := by kernel_rfl
  c167 := by kernel_rfl
  c168 := by kernel_rfl
  c171 := by kernel_rfl
  c173 := by kernel_rfl
  c175 := by kernel_rfl
  c210 := by kernel_rfl
  c212 := by kernel_rfl
  c213 := by kernel_rfl
  c232 := by kernel_rfl
  c233 := by kernel_rfl }
end Go.Proofs
/- strconv.Atoi, known by the library's contracts. -/
namespace Go.Proofs.YtbamhlgkoimjoaaDoor.Sy.Ati
open Go Go.Shelf Go.RowKit Go.Proofs.YtbamhlgkoimjoaaDoor.Ab Go.Proofs.YtbamhlgkoimjoaaDoor.Sy Go.Proofs.YtbamhlgkoimjoaaDoor.Sy.Str
set_option maxRecDepth 1000000
set_option linter.unusedVariables false
theorem back {w w' : World} {Pr : Nat → Prop} {μ : List CB} (hS : SRel Tryd.prog [] w μ Pr) (hb : Below w.heap.size w w') : SRel Tryd.prog [] w' μ Pr ∧ Evo (owns μ) Pr w (owns μ) Pr w' :=
  ⟨⟨hS.mu, fun id b c hb1 _ => (by cases hb1), hS.nodup, fun b hm => ⟨Nat.lt_of_lt_of_le (hS.lt b hm).1 hb.size, (hS.lt b hm).2⟩, fun b hm => Nat.lt_of_lt_of_le (hS.pr b hm) hb.size, hS.glob.mono (fun _ h => h) (fun b hm => hb.block b (hS.pr b hm))⟩,
    ⟨hb.os, hb.tape, hb.output, hb.size, fun k hk _ => hb.block k hk, fun k hk => .inl hk, fun _ h => h, fun _ h => .inl h⟩⟩
theorem atoi_ok (l : List UInt8) (n : Int) (hl : l.length ≤ 18) (h : Lib.atoi l = some n) : ICall Tryd.prog 28 [.d (.str l)] [] (.tup [.d (I n), .d .inil]) [] := by
  intro w Pr μ vs hS hv
  obtain ⟨v, rfl, hw⟩ := one_arg hv
  obtain ⟨q, rfl, rfl⟩ := drel_str (show DRel w Pr (.str l) v from hw)
  have hs : q.size ≤ 18 := by rw [bytes_size]; exact hl
  have hc : Calls Tryd.prog 28 #[.string q] w fun e w' => e = .returned (.tuple #[.int .i64 n, .nilIface]) ∧ ∃ t, w' = Lib.bytesWorld w (Tryd.lays172_ren.t 5) t := Any.strconv_Atoi Tryd.lays172 q n hs h w
  refine Calls.mono hc ?_
  rintro e w' ⟨rfl, t, rfl⟩
  obtain ⟨h1, h2⟩ := back hS (Lib.bytesWorld_below w _ t)
  exact ⟨_, μ, Pr, rfl, h1, ⟨[.int .i64 n, .nilIface], rfl, DRel.int _ _, DRel.inil, trivial⟩, h2, Keep.refl _⟩
theorem atoi_err (l : List UInt8) (hl : l.length ≤ 18) (h : Lib.atoi l = none) : ICall Tryd.prog 28 [.d (.str l)] [] (.tup [.d (I 0), .d .iany]) [] := by
  intro w Pr μ vs hS hv
  obtain ⟨v, rfl, hw⟩ := one_arg hv
  obtain ⟨q, rfl, rfl⟩ := drel_str (show DRel w Pr (.str l) v from hw)
  have hs : q.size ≤ 18 := by rw [bytes_size]; exact hl
  obtain ⟨-, hg⟩ := hS.glob.1 0 .iany rfl
  obtain ⟨u, hu, -, hd⟩ := hg 0 .iany rfl
  have hev : u = .nilIface ∨ ∃ te pe, u = .iface te pe := by cases hd with | iany t v => exact .inr ⟨t, v, rfl⟩
  have hc : Calls Tryd.prog 28 #[.string q] w fun e w' => ∃ N, e = .returned (.tuple #[.int .i64 0, .iface (Tryd.laysC172_ren.t 168) (.pointer (some ⟨N, 0, none⟩))]) ∧ w.heap.size ≤ N ∧ w'.heap[N]? = some (.cells #[.string ⟨#[65, 116, 111, 105]⟩, .string q, u] (Tryd.laysC172_ren.t 210) (0, 0)) ∧ Below w.heap.size w w' := Any.strconv_Atoi_err Tryd.laysC172 q hs h u w hu hev
  refine Calls.mono hc ?_
  rintro e w' ⟨N, rfl, -, -, hb⟩
  obtain ⟨h1, h2⟩ := back hS hb
  exact ⟨_, μ, Pr, rfl, h1, ⟨[.int .i64 0, .iface (Tryd.laysC172_ren.t 168) (.pointer (some ⟨N, 0, none⟩))], rfl, DRel.int _ _, DRel.iany _ _, trivial⟩, h2, Keep.refl _⟩
end Go.Proofs.YtbamhlgkoimjoaaDoor.Sy.Ati
/- strings.TrimPrefix, witness.bools, witness.Read, whole. -/
namespace Go.Proofs.YtbamhlgkoimjoaaDoor.Sy.Rd
open Go Go.Proofs.YtbamhlgkoimjoaaDoor.Ab Go.Proofs.YtbamhlgkoimjoaaDoor.Sy Go.Proofs.YtbamhlgkoimjoaaDoor.Sy.Tx Go.Proofs.YtbamhlgkoimjoaaDoor.Sy.Vl Go.Proofs.YtbamhlgkoimjoaaDoor.Sy.Tc Go.Proofs.YtbamhlgkoimjoaaDoor.Sy.Wi
open Go.Proofs.YtbamhlgkoimjoaaDoor.Sy.Sp (splitU)
set_option maxRecDepth 1000000
set_option linter.unusedVariables false
set_option linter.unusedSimpArgs false
theorem trimP (l : List UInt8) : ICall Tryd.prog 29 [.d (.str l), .d (.str [98])] [] (.d (.str (trim l))) [] := by
  refine callX_ok hO hm (tp l (trim l) [98]) ?_
  unfold trim
  by_cases c : l.take 1 = [98]
  · rw [if_pos c]
    have hlen : 1 ≤ l.length := by
      cases l with
      | nil => simp at c
      | cons a r => simp
    have h1 := callX_ok hO hm (hp0 1 l [98]) ⟨decide_eq_true (by show ((l.length : Nat) : Int) ≥ ((1 : Nat) : Int); omega), ⟨rfl, rfl, Nat.zero_le _, hlen⟩, by show (List.take 1 l == [98]) = true; rw [c]; rfl⟩
    have h2 := callX_ok hO hm (tp1 l [98]) ⟨h1, rfl, rfl, hlen, Nat.le_refl _⟩
    have e : List.take (l.length - [(98 : UInt8)].length) (List.drop [(98 : UInt8)].length l) = l.drop 1 := List.take_of_length_le (by rw [List.length_drop]; exact Nat.le_refl _)
    rw [e] at h2
    exact h2
  · rw [if_neg c]
    by_cases hlen : 1 ≤ l.length
    · have h1 := callX_ok hO hm (hp1 1 l [98]) ⟨decide_eq_true (by show ((l.length : Nat) : Int) ≥ ((1 : Nat) : Int); omega), ⟨rfl, rfl, Nat.zero_le _, hlen⟩, by show (List.take 1 l == [98]) = false; exact beq_eq_false_iff_ne.2 c⟩
      exact callX_ok hO hm (tp0 l [98]) h1
    · have h1 := callX_ok hO hm (hp2 l [98]) (by show decide (((l.length : Nat) : Int) ≥ ((1 : Nat) : Int)) = false; exact decide_eq_false (by omega))
      exact callX_ok hO hm (tp0 l [98]) h1
theorem bools (l : List UInt8) (hl : l.length ≤ 1000000) : ICall Tryd.prog 30 [.d (.str l)] [] (.d (BL (bo l))) [] := by
  have key : ∀ (d i : Nat) (xs : List D), l.length - i = d → i ≤ l.length → xs.length = l.length → xs.take i = ((bo l).map D.bool).take i →
      GoesL Tryd.prog (loopOf Tryd.prog 30 0) (Hb l xs [(9, .d (I (List.replicate l.length (D.bool false)).length)), (10, .d (I i))]) (.exit 0) (Hb l ((bo l).map D.bool) []) := by
    intro d
    induction d with
    | zero =>
      intro i xs hd hi hx e
      obtain rfl : i = l.length := by omega
      rw [List.take_of_length_le (by omega), List.take_of_length_le (by rw [List.length_map, bo_len]; exact Nat.le_refl _)] at e
      rw [← e]
      exact .stop hO hm (b3 l.length (List.replicate l.length (D.bool false)).length xs l) (by simp) (decide_eq_false (by rw [List.length_replicate]; omega))
    | succ d ih =>
      intro i xs hd hi hx e
      have hlt : i < l.length := by omega
      have q1 : l[i]? = some (l.getD i default) := by rw [List.getElem?_eq_getElem hlt, List.getD_eq_getElem?_getD, List.getElem?_eq_getElem hlt]; rfl
      have hn : ∀ b : Bool, ((l.getD i default) == 49) = b → (xs.set i (.bool b)).take (i + 1) = ((bo l).map D.bool).take (i + 1) := by
        intro b hb
        rw [List.take_add_one, List.take_add_one, List.take_set_of_le (Nat.le_refl _), List.getElem?_set_self (by omega), e]
        unfold bo
        rw [List.getElem?_map, List.getElem?_map, q1, ← hb]; rfl
      have q0 : decide ((i : Int) < (((List.replicate l.length (D.bool false)).length : Nat) : Int)) = true := decide_eq_true (by rw [List.length_replicate]; omega)
      cases hb : ((l.getD i default) == 49) with
      | true =>
        have q2 : ((((l.getD i default).toNat : Nat) : Int) == 49) = true := by rw [beq_iff_eq.1 hb]; rfl
        exact .step hO hm (b1 i _ xs l (l.getD i default)) ⟨q0, ⟨rfl, q1⟩, q2, ⟨rfl, by omega⟩, wrap_succ (by omega)⟩ (ih (i + 1) _ (by omega) hlt (by rw [List.length_set]; exact hx) (hn true hb))
      | false =>
        have q2 : ((((l.getD i default).toNat : Nat) : Int) == 49) = false := by
          refine beq_eq_false_iff_ne.2 fun e => beq_eq_false_iff_ne.1 hb ?_
          apply UInt8.toNat_inj.1
          show _ = 49
          omega
        exact .step hO hm (b2_ i _ xs l (l.getD i default)) ⟨q0, ⟨rfl, q1⟩, q2, ⟨rfl, by omega⟩, wrap_succ (by omega)⟩ (ih (i + 1) _ (by omega) hlt (by rw [List.length_set]; exact hx) (hn false hb))
  have h := key l.length 0 (List.replicate l.length (D.bool false)) rfl (Nat.zero_le _) (List.length_replicate) rfl
  exact (callX_ok hO hm (bw ((bo l).map D.bool) l) ⟨⟨rfl, rfl, Nat.le_trans hl (by decide)⟩, h⟩).frz (r' := .d (BL (bo l))) rfl
def Sr (c : Ci) (s : List UInt8) (n : Int) (r : Bool) (f : List Bool) (ds : List D) : St := ⟨mk 115 [(1, .d (.str s)), (2, .ptr 0 0), (4, .ptr 1 0), (10, .d (I n)), (12, .ptr 2 0), (13, .d (.bool r)), (73, .d (.sl ds)), (74, .d (I ds.length)), (75, .d (I 0))] [], [Bc c, B00, .box [.d (BL f), .emp true]]⟩
theorem ad_r (c : Ci) (s : List UInt8) (n : Int) (r : Bool) (f : List Bool) (ds : List D) : adoptB 2 1 29 (Sr c s n r f ds) = Hr c s n r f [] [(73, .d (.sl ds)), (74, .d (I ds.length)), (75, .d (I 0))] := by kernel_rfl
theorem fr_r (c : Ci) (s : List UInt8) (n : Int) (r : Bool) (f : List Bool) (acc : List D) : Ab.freeze 3 (Hr c s n r f acc []) = Er c s n r f acc := by kernel_rfl
theorem ySl : szOf Tryd.prog 29 = some 1 := by kernel_rfl
def fit (c : Ci) (l : List UInt8) : Bool := decide ((l.length : Int) = c.ins)
theorem rloop (c : Ci) (s : List UInt8) (n : Int) (r : Bool) (f : List Bool) (lr : List (List UInt8)) (hlr : lr.length ≤ 1000) (hls : ∀ l ∈ lr, l.length ≤ 1000000) :
    GoesL Tryd.prog (loopOf Tryd.prog 13 0) (Sr c s n r f (lr.map D.str)) (.exit 0) (Er c s n (r && lr.all (fit c)) f ((lr.map bo).map BL)) := by
  refine .adoptB (id := 2) (j := 1) ySl ?_
  rw [ad_r]
  have key : ∀ (d i : Nat) (r : Bool) (acc : List D), lr.length - i = d → i ≤ lr.length → acc.length ≤ i →
      GoesL Tryd.prog (loopOf Tryd.prog 13 0) (Hr c s n r f acc [(73, .d (.sl (lr.map D.str))), (74, .d (I (lr.map D.str).length)), (75, .d (I i))]) (.exit 0) (Er c s n (r && (lr.drop i).all (fit c)) f (acc ++ ((lr.drop i).map bo).map BL)) := by
    intro d
    induction d with
    | zero =>
      intro i r acc hd hi ha
      obtain rfl : i = lr.length := by omega
      rw [List.drop_length, List.map_nil, List.map_nil, List.append_nil, List.all_nil, Bool.and_true]
      have q : decide (((lr.length : Nat) : Int) < (((lr.map D.str).length : Nat) : Int)) = false := decide_eq_false (by rw [List.length_map]; omega)
      rw [← fr_r]
      cases r with
      | true => exact (GoesL.stop hO hm (r3 c n lr.length f acc s lr) (by simp) q).frz 3
      | false => exact (GoesL.stop hO hm (r5 c n lr.length f acc s lr) (by simp) q).frz 3
    | succ d ih =>
      intro i r acc hd hi ha
      have hlt : i < lr.length := by omega
      have q0 : decide ((i : Int) < (((lr.map D.str).length : Nat) : Int)) = true := decide_eq_true (by rw [List.length_map]; omega)
      have q1 := get_map D.str lr i hlt
      have q2 := bools (lr.getD i default) (hls _ (mem_getD hlt))
      have q3 : acc.length + [BL (bo (lr.getD i default))].length ≤ maxItems := Nat.le_trans (show _ ≤ 1001 by rw [List.length_singleton]; omega) (by decide)
      rw [drop_getD lr i hlt, List.map_cons, List.map_cons, List.all_cons]
      have e : acc ++ BL (bo (lr.getD i default)) :: ((lr.drop (i + 1)).map bo).map BL = (acc ++ [BL (bo (lr.getD i default))]) ++ ((lr.drop (i + 1)).map bo).map BL := by simp
      rw [e]
      have hl1 : (acc ++ [BL (bo (lr.getD i default))]).length ≤ i + 1 := by rw [List.length_append, List.length_singleton]; omega
      cases r with
      | false =>
        refine .step hO hm (r4 c n i (bo (lr.getD i default)) f acc s lr) ⟨q0, ⟨rfl, q1⟩, q2, q3, wrap_succ (by omega)⟩ ?_
        exact ih (i + 1) false _ (by omega) hlt hl1
      | true =>
        cases hf : fit c (lr.getD i default) with
        | true =>
          refine .step hO hm (r1 c n i (bo (lr.getD i default)) f acc s lr) ⟨q0, ⟨rfl, q1⟩, q2, q3, beq_iff_eq.2 (of_decide_eq_true hf), wrap_succ (by omega)⟩ ?_
          exact ih (i + 1) true _ (by omega) hlt hl1
        | false =>
          refine .step hO hm (r2 c n i (bo (lr.getD i default)) f acc s lr) ⟨q0, ⟨rfl, q1⟩, q2, q3, beq_eq_false_iff_ne.2 (of_decide_eq_false hf), wrap_succ (by omega)⟩ ?_
          exact ih (i + 1) false _ (by omega) hlt hl1
  exact key lr.length 0 r [] rfl (Nat.zero_le _) (Nat.le_refl _)
def t0 : Tr := ⟨[], []⟩
theorem frz_no (e : Int) : frzR (V.tup [V.agg [V.emp true, V.emp true], V.d (I 0), V.d (I e)]) = some (.tup [.d t0.d, .d (I 0), .d (I e)]) := rfl
theorem yStr (ls : List (List UInt8)) : ∀ (y : D), y ∈ List.map D.str ls → y.cells.length = (fun x => x.size) Tryd.prog.types[9] := by
  intro y hy
  obtain ⟨l, -, rfl⟩ := List.mem_map.1 hy
  rfl
/-- The bounds that the walk wants of the run that stands in a text of the form. -/
theorem bounds {c : Ci} {s : List UInt8} (hs : s.length ≤ 10000) (hf : few s = false) : Tw (rdT s) ∧ Tz (rdT s) := by
  unfold few at hf
  rw [Bool.or_eq_false_iff, Bool.or_eq_false_iff, decide_eq_false_iff_not, decide_eq_false_iff_not, decide_eq_false_iff_not] at hf
  have h1 : (rdT s).first.length ≤ 10000 := by
    show (bo _).length ≤ _
    rw [bo_len]
    have := splitU_mem 10 s _ (mem_getD (l := splitU 10 s) (i := 2) (by unfold lns at hf; omega))
    unfold lns
    omega
  have h2 : (rdT s).ins.length ≤ 100 := by
    show ((rdL s).map bo).length ≤ _
    unfold rdL
    rw [List.length_map, List.length_take]; omega
  have h3 : ∀ l ∈ (rdT s).ins, l.length ≤ 10000 := by
    intro l hl
    obtain ⟨x, hx, rfl⟩ := List.mem_map.1 (show l ∈ (rdL s).map bo from hl)
    rw [bo_len]
    have := splitU_mem 10 s x (List.mem_of_mem_drop (List.mem_of_mem_take hx))
    omega
  exact ⟨⟨by omega, by omega, fun l hl => by have := h3 l hl; omega⟩, ⟨h1, by omega, h3⟩⟩
theorem read {c : Ci} (h : Cw c) (s : List UInt8) (hs : s.length ≤ 10000) : ICall Tryd.prog 13 [.d c.d, .d (.str s)] []
    (if rdE c s = 0 then .tup [.d (rdT s).d, .d (I (rdN s)), .d (I 0)] else .tup [.d t0.d, .d (I 0), .d (I (rdE c s))]) [] := by
  have hg := gates_check h
  by_cases c0 : Gates.chk c ≠ 0
  · have e : rdE c s = Gates.chk c := by unfold rdE; rw [if_pos c0]
    rw [e, if_neg c0]
    exact (callX_ok hO hm (e0 c (Gates.chk c) s) ⟨hg, bne_iff_ne.2 c0⟩).frz (frz_no _)
  have c0 := Decidable.not_not.1 c0
  rw [c0] at hg
  have e12 : form c s = false → rdE c s = 12 := fun hf => by unfold rdE; rw [if_neg (by rw [c0]; simp), hf]; rfl
  have hsp := Sp.split 10 s (by omega)
  have hl0 : (((lns s).map D.str).length : Int) = ((lns s).length : Int) := by rw [List.length_map]
  have no : form c s = false → ICall Tryd.prog 13 [.d c.d, .d (.str s)] [] (.tup [.d t0.d, .d (I 0), .d (I 12)]) [] → ICall Tryd.prog 13 [.d c.d, .d (.str s)] []
    (if rdE c s = 0 then .tup [.d (rdT s).d, .d (I (rdN s)), .d (I 0)] else .tup [.d t0.d, .d (I 0), .d (I (rdE c s))]) [] := fun hf hh => by
    rw [e12 hf, if_neg (by decide)]; exact hh
  by_cases c1 : (lns s).length < 6
  · exact no (by unfold form few; rw [decide_eq_true c1]; rfl) ((callX_ok hO hm (e1 c s (lns s)) ⟨hg, rfl, hsp, decide_eq_true (by rw [hl0]; omega)⟩).frz (frz_no _))
  have d1 : decide ((((lns s).map D.str).length : Int) < 6) = false := decide_eq_false (by rw [hl0]; omega)
  have hb : (lns s).length ≤ 10001 := by
    have := Sp.splitU_len 10 s
    have := List.count_le_length (a := 10) (l := s)
    unfold lns; omega
  have w5 : IntKind.i64.wrap ((((lns s).map D.str).length : Int) - 5) = (((lns s).map D.str).length : Int) - 5 := wrap_id (by rw [hl0]; omega) (by rw [hl0]; omega)
  by_cases c2 : (lns s).length > 105
  · exact no (by unfold form few; rw [decide_eq_true c2]; simp) ((callX_ok hO hm (e2 c s (lns s)) ⟨hg, rfl, hsp, d1, w5, decide_eq_true (by rw [hl0]; omega)⟩).frz (frz_no _))
  have d2 : decide ((((lns s).map D.str).length : Int) - 5 > 100) = false := decide_eq_false (by rw [hl0]; omega)
  have g1 := get_map D.str (lns s) 1 (by omega)
  by_cases c3 : ((lns s).getD 1 default).length > 10
  · exact no (by unfold form few; rw [decide_eq_true c3]; simp) ((callX_ok hO hm (e3 c s (lns s)) ⟨hg, rfl, hsp, d1, w5, d2, ⟨rfl, g1⟩, decide_eq_true (by omega)⟩).frz (frz_no _))
  have d3 : decide ((((lns s).getD 1 default).length : Int) > 10) = false := decide_eq_false (by omega)
  have hfew : few s = false := by unfold few; rw [decide_eq_false c1, decide_eq_false c2, decide_eq_false c3]; rfl
  have ht := trimP ((lns s).getD 1 default)
  have htl : (trim ((lns s).getD 1 default)).length ≤ 18 := by
    unfold trim
    split
    · rw [List.length_drop]; omega
    · omega
  have g2 := get_map D.str (lns s) 2 (by omega)
  have hmem : ∀ l ∈ lns s, l.length ≤ 10000 := fun l hl => by have := splitU_mem 10 s l hl; omega
  have hbo := bools ((lns s).getD 2 default) (by have := hmem _ (mem_getD (i := 2) (l := lns s) (by omega)); omega)
  have w2 : IntKind.i64.wrap ((((lns s).map D.str).length : Int) - 2) = (((lns s).map D.str).length : Int) - 2 := wrap_id (by rw [hl0]; omega) (by rw [hl0]; omega)
  have cut : (3 : Int) = ((3 : Nat) : Int) ∧ (((lns s).map D.str).length : Int) - 2 = (((lns s).length - 2 : Nat) : Int) ∧ 3 ≤ (lns s).length - 2 ∧ (lns s).length - 2 ≤ ((lns s).map D.str).length := ⟨rfl, by rw [hl0]; omega, by omega, by rw [List.length_map]; omega⟩
  have er : List.take ((lns s).length - 2 - 3) (List.drop 3 ((lns s).map D.str)) = (rdL s).map D.str := by unfold rdL; rw [List.map_take, List.map_drop]
  have lp := fun n r => rloop c s n r (bo ((lns s).getD 2 default)) (rdL s) (by unfold rdL; rw [List.length_take]; omega) (fun l hl => by have := hmem l (List.mem_of_mem_drop (List.mem_of_mem_take hl)); omega)
  rw [← er] at lp
  cases ha : rdA s with
  | none =>
    have hat := Ati.atoi_err _ htl (show Lib.atoi (trim ((lns s).getD 1 default)) = none from ha)
    have hr : okR c s = false := by unfold okR okL; rw [ha]; rfl
    exact no (by unfold form; rw [hr]; simp) ((callX_ok hO hm (e4 c ((lns s).length - 2) (bo ((lns s).getD 2 default)) (((rdL s).map bo).map BL) s (trim ((lns s).getD 1 default)) (lns s)) ⟨hg, rfl, hsp, d1, w5, d2, ⟨rfl, g1⟩, d3, ⟨rfl, g1⟩, ht, hat, ⟨rfl, g2⟩, hbo, w2, cut, yStr _, lp 0 false, rfl⟩).frz (frz_no _))
  | some n =>
    have hN : rdN s = n := by unfold rdN; rw [ha]; rfl
    have hat := Ati.atoi_ok _ n htl (show Lib.atoi (trim ((lns s).getD 1 default)) = some n from ha)
    by_cases c4 : 0 ≤ n
    case neg =>
      have hr : okR c s = false := by unfold okR okL; rw [ha, hN, decide_eq_false c4]; rfl
      exact no (by unfold form; rw [hr]; simp) ((callX_ok hO hm (e7 c n ((lns s).length - 2) (bo ((lns s).getD 2 default)) (((rdL s).map bo).map BL) s (trim ((lns s).getD 1 default)) (lns s)) ⟨hg, rfl, hsp, d1, w5, d2, ⟨rfl, g1⟩, d3, ⟨rfl, g1⟩, ht, hat, ⟨rfl, g2⟩, hbo, decide_eq_false c4, w2, cut, yStr _, lp n false, rfl⟩).frz (frz_no _))
    have d4 : decide (n ≥ 0) = true := decide_eq_true c4
    by_cases c5 : (rdT s).first.length = c.lats.length
    case neg =>
      have hr : okR c s = false := by unfold okR okL; rw [decide_eq_false c5]; simp
      have d5 : (((((bo ((lns s).getD 2 default)).map D.bool).length : Nat) : Int) == (((c.lats.map Lt.d).length : Nat) : Int)) = false := beq_eq_false_iff_ne.2 (by
        rw [List.length_map, List.length_map]
        intro e
        exact c5 (by show (bo _).length = _; omega))
      exact no (by unfold form; rw [hr]; simp) ((callX_ok hO hm (e6 c n ((lns s).length - 2) (bo ((lns s).getD 2 default)) (((rdL s).map bo).map BL) s (trim ((lns s).getD 1 default)) (lns s)) ⟨hg, rfl, hsp, d1, w5, d2, ⟨rfl, g1⟩, d3, ⟨rfl, g1⟩, ht, hat, ⟨rfl, g2⟩, hbo, d4, d5, w2, cut, yStr _, lp n false, rfl⟩).frz (frz_no _))
    have d5 : (((((bo ((lns s).getD 2 default)).map D.bool).length : Nat) : Int) == (((c.lats.map Lt.d).length : Nat) : Int)) = true := beq_iff_eq.2 (by
      rw [List.length_map, List.length_map]
      have : (bo ((lns s).getD 2 default)).length = c.lats.length := c5
      omega)
    have lp := lp n true
    rw [Bool.true_and] at lp
    have hok : okR c s = (rdL s).all (fit c) := by
      unfold okR okL
      rw [ha, hN, decide_eq_true c4, decide_eq_true c5]; rfl
    cases c6 : (rdL s).all (fit c) with
    | false =>
      rw [c6] at lp hok
      exact no (by unfold form; rw [hok]; simp) ((callX_ok hO hm (e5 c n ((lns s).length - 2) (bo ((lns s).getD 2 default)) (((rdL s).map bo).map BL) s (trim ((lns s).getD 1 default)) (lns s)) ⟨hg, rfl, hsp, d1, w5, d2, ⟨rfl, g1⟩, d3, ⟨rfl, g1⟩, ht, hat, ⟨rfl, g2⟩, hbo, d4, d5, w2, cut, yStr _, lp, rfl⟩).frz (frz_no _))
    | true =>
      rw [c6] at lp hok
      obtain ⟨hw, hz⟩ := bounds (c := c) hs hfew
      have hn9 : n ≤ 9223372036854775807 := by have := (Lib.atoi_bound ha htl).2; omega
      have hwr := write (rdT s) n hz (by omega) hn9
      by_cases c7 : txt (rdT s) n = s
      · have hwt := wcheck h hw n
        have hf : form c s = true := by unfold form; rw [hfew, hok, hN, decide_eq_true c7]; rfl
        have he : rdE c s = wtChk c (rdT s) n := by unfold rdE; rw [if_neg (by rw [c0]; simp), hf, if_pos rfl, hN]
        rw [c7] at hwr
        rw [he, hN]
        by_cases c8 : wtChk c (rdT s) n = 0
        · rw [if_pos c8]
          rw [c8] at hwt
          exact callX_ok hO hm (e10 c n 0 ((lns s).length - 2) (bo ((lns s).getD 2 default)) (((rdL s).map bo).map BL) s (trim ((lns s).getD 1 default)) s (lns s)) ⟨hg, rfl, hsp, d1, w5, d2, ⟨rfl, g1⟩, d3, ⟨rfl, g1⟩, ht, hat, ⟨rfl, g2⟩, hbo, d4, d5, w2, cut, yStr _, lp, rfl, hwr, by simp, hwt, rfl⟩
        · rw [if_neg c8]
          exact (callX_ok hO hm (e9 c n (wtChk c (rdT s) n) ((lns s).length - 2) (bo ((lns s).getD 2 default)) (((rdL s).map bo).map BL) s (trim ((lns s).getD 1 default)) s (lns s)) ⟨hg, rfl, hsp, d1, w5, d2, ⟨rfl, g1⟩, d3, ⟨rfl, g1⟩, ht, hat, ⟨rfl, g2⟩, hbo, d4, d5, w2, cut, yStr _, lp, rfl, hwr, by simp, hwt, bne_iff_ne.2 c8⟩).frz (frz_no _)
      · have hf : form c s = false := by unfold form; rw [hN, decide_eq_false c7]; simp
        exact no hf ((callX_ok hO hm (e8 c n ((lns s).length - 2) (bo ((lns s).getD 2 default)) (((rdL s).map bo).map BL) s (trim ((lns s).getD 1 default)) (txt (rdT s) n) (lns s)) ⟨hg, rfl, hsp, d1, w5, d2, ⟨rfl, g1⟩, d3, ⟨rfl, g1⟩, ht, hat, ⟨rfl, g2⟩, hbo, d4, d5, w2, cut, yStr _, lp, rfl, hwr, by rw [beq_eq_false_iff_ne.2 c7]; rfl⟩).frz (frz_no _))
end Go.Proofs.YtbamhlgkoimjoaaDoor.Sy.Rd
/- What the reference reads out of a text is what is read: the plain law. -/
namespace Go.Proofs.YtbamhlgkoimjoaaDoor.Sy.Rp
open Go Go.Proofs.YtbamhlgkoimjoaaDoor.Ab Go.Proofs.YtbamhlgkoimjoaaDoor.Sy Go.Proofs.YtbamhlgkoimjoaaDoor.Sy.Tx Go.Proofs.YtbamhlgkoimjoaaDoor.Sy.Vl Go.Proofs.YtbamhlgkoimjoaaDoor.Sy.Tc Go.Proofs.YtbamhlgkoimjoaaDoor.Sy.Wi Go.Proofs.YtbamhlgkoimjoaaDoor.Sy.Rd
open Go.Proofs.YtbamhlgkoimjoaaDoor.Sy.Sp (splitU splitU_ne splitU_len)
set_option linter.unusedVariables false
set_option linter.unusedSimpArgs false
/-- Parts put together again. -/
def un (u : UInt8) : List (List UInt8) → List UInt8
  | [] => []
  | [x] => x
  | x :: y :: r => x ++ u :: un u (y :: r)
theorem un_cons (u b : UInt8) (x : List UInt8) : ∀ xs, un u ((b :: x) :: xs) = b :: un u (x :: xs)
  | [] => rfl
  | y :: r => rfl
theorem un_split (u : UInt8) : ∀ l, un u (splitU u l) = l
  | [] => rfl
  | b :: r => by
    have ih := un_split u r
    rw [splitU]
    by_cases h : b = u
    · rw [if_pos h]
      cases hs : splitU u r with
      | nil => exact absurd hs (splitU_ne u r)
      | cons x xs =>
        rw [hs] at ih
        show u :: un u (x :: xs) = b :: r
        rw [ih, h]
    · rw [if_neg h]
      cases hs : splitU u r with
      | nil => exact absurd hs (splitU_ne u r)
      | cons x xs =>
        rw [hs] at ih
        show un u ((b :: x) :: xs) = b :: r
        rw [un_cons, ih]
theorem splitU_inj {u : UInt8} {a b : List UInt8} (h : splitU u a = splitU u b) : a = b := by
  rw [← un_split u a, h, un_split]
/-- The last part grows by a byte. -/
theorem splitU_snoc (u : UInt8) : ∀ l : List UInt8, ∃ ys z, splitU u l = ys ++ [z] ∧ splitU u (l ++ [u]) = ys ++ [z, []] ∧ ∀ b, b ≠ u → splitU u (l ++ [b]) = ys ++ [z ++ [b]]
  | [] => ⟨[], [], rfl, by simp [splitU], fun b hb => by simp [splitU, hb]⟩
  | a :: r => by
    obtain ⟨ys, z, h1, h2, h3⟩ := splitU_snoc u r
    by_cases h : a = u
    · refine ⟨[] :: ys, z, ?_, ?_, fun b hb => ?_⟩
      · rw [splitU, if_pos h, h1]; rfl
      · rw [List.cons_append, splitU, if_pos h, h2]; rfl
      · rw [List.cons_append, splitU, if_pos h, h3 b hb]; rfl
    · cases ys with
      | nil =>
        refine ⟨[], a :: z, ?_, ?_, fun b hb => ?_⟩
        · rw [splitU, if_neg h, h1]; rfl
        · rw [List.cons_append, splitU, if_neg h, h2]; rfl
        · rw [List.cons_append, splitU, if_neg h, h3 b hb]; rfl
      | cons y ys =>
        refine ⟨(a :: y) :: ys, z, ?_, ?_, fun b hb => ?_⟩
        · rw [splitU, if_neg h, h1]; rfl
        · rw [List.cons_append, splitU, if_neg h, h2]; rfl
        · rw [List.cons_append, splitU, if_neg h, h3 b hb]; rfl
def okV (n : Int) (s : List UInt8) : Bool := decide ((s.length : Int) = n) && s.all (fun q => q == 48 || q == 49)
def valS (n : Int) (s : List UInt8) : List Bool := if okV n s then bo s else []
def numS (s : List UInt8) : Int := if s.length = 0 then -1 else if s.length > 9 then -1 else if s.getD 0 default = 48 ∧ s.length > 1 then -1 else match Lib.decFrom 0 s with
  | some n => n
  | none => -1
def pre (ls : List (List UInt8)) : Bool := decide (ls.length < 6) || (decide (ls.length > 105) || (decide (ls.getD (ls.length - 1) default ≠ []) || (decide (ls.getD (ls.length - 2) default ≠ [46]) || (decide (ls.getD 0 default ≠ [49]) || (decide ((ls.getD 1 default).length < 2) || decide ((ls.getD 1 default).getD 0 default ≠ 98))))))
def prI (ls : List (List UInt8)) : List (List UInt8) := (ls.drop 3).take (ls.length - 2 - 3)
def prN (ls : List (List UInt8)) : Int := numS ((ls.getD 1 default).drop 1)
def prV (c : Ci) (ls : List (List UInt8)) : Bool := okV c.lats.length (ls.getD 2 default) && (prI ls).all (okV c.ins)
def prOk (c : Ci) (ls : List (List UInt8)) : Bool := !pre ls && (prV c ls && decide (0 ≤ prN ls))
theorem shape (ls : List (List UInt8)) (h : 6 ≤ ls.length) : ls = ls.getD 0 default :: ls.getD 1 default :: ls.getD 2 default :: (prI ls ++ [ls.getD (ls.length - 2) default, ls.getD (ls.length - 1) default]) := by
  have e0 := drop_getD ls 0 (by omega)
  have e1 := drop_getD ls 1 (by omega)
  have e2 := drop_getD ls 2 (by omega)
  have e3 := drop_getD ls (ls.length - 2) (by omega)
  have e4 := drop_getD ls (ls.length - 1) (by omega)
  rw [show ls.length - 2 + 1 = ls.length - 1 by omega, e4, show ls.length - 1 + 1 = ls.length by omega, List.drop_length] at e3
  have e5 : ls.drop 3 = prI ls ++ ls.drop (ls.length - 2) := by
    unfold prI
    have := List.take_append_drop (ls.length - 2 - 3) (ls.drop 3)
    rw [List.drop_drop, show 3 + (ls.length - 2 - 3) = ls.length - 2 by omega] at this
    exact this.symm
  rw [e3] at e5
  rw [← e5, ← e2, ← e1, ← e0, List.drop_zero]
theorem dec_canon : ∀ (k : Nat) (w : List UInt8) (n : Nat), w.length = k → w ≠ [] → (w.getD 0 default = 48 → w.length = 1) → Lib.decFrom 0 w = some n → Lib.decDigits n = w := by
  intro k
  induction k with
  | zero => intro w n hk hw; exact absurd (List.eq_nil_of_length_eq_zero hk) hw
  | succ k ih =>
    intro w n hk hw hz hd
    obtain ⟨v, b, rfl⟩ : ∃ v b, w = v ++ [b] := ⟨w.dropLast, w.getLast hw, (List.dropLast_concat_getLast hw).symm⟩
    have inv : ∀ (l : List UInt8) (a n : Nat), Lib.decFrom a (l ++ [b]) = some n → ∃ m d, Lib.decFrom a l = some m ∧ Lib.digitVal b = some d ∧ n = m * 10 + d := by
      intro l
      induction l with
      | nil =>
        intro a n h
        rw [List.nil_append, Lib.decFrom] at h
        cases hb : Lib.digitVal b with
        | none => rw [hb] at h; cases h
        | some d => rw [hb] at h; simp only [Lib.decFrom, Option.some.injEq] at h; exact ⟨a, d, rfl, rfl, h.symm⟩
      | cons c l ihl =>
        intro a n h
        rw [List.cons_append, Lib.decFrom] at h
        cases hc : Lib.digitVal c with
        | none => rw [hc] at h; cases h
        | some e =>
          rw [hc] at h
          obtain ⟨m, d, q1, q2, q3⟩ := ihl _ _ h
          exact ⟨m, d, by rw [Lib.decFrom, hc]; exact q1, q2, q3⟩
    obtain ⟨m, d, q1, q2, q3⟩ := inv v 0 n hd
    have hb : d < 10 ∧ UInt8.ofNat (48 + d) = b := by
      unfold Lib.digitVal at q2
      split at q2
      · next hh =>
        cases q2
        refine ⟨by omega, ?_⟩
        apply UInt8.toNat_inj.1
        rw [UInt8.toNat_ofNat']; omega
      · cases q2
    by_cases hv : v = []
    · subst hv
      simp only [Lib.decFrom, Option.some.injEq] at q1
      rw [Lib.decDigits, dif_pos (by omega), show n = d by omega, hb.2]; rfl
    · have hl : 1 ≤ v.length := by cases v with
        | nil => exact absurd rfl hv
        | cons => simp
      have hg : (v ++ [b]).getD 0 default = v.getD 0 default := by
        cases v with
        | nil => exact absurd rfl hv
        | cons => rfl
      have hlen : (v ++ [b]).length = v.length + 1 := by simp
      have hnz : v.getD 0 default ≠ 48 := fun e => by
        have := hz (by rw [hg]; exact e)
        omega
      have hm := ih v m (by omega) hv (fun e => absurd e hnz) q1
      have hm0 : m ≠ 0 := fun e => by
        rw [e, Lib.decDigits, dif_pos (by omega)] at hm
        rw [← hm] at hnz
        exact hnz rfl
      rw [Lib.decDigits, dif_neg (by omega), show n / 10 = m by omega, hm, show n % 10 = d by omega, hb.2]
theorem dec_head (m : Nat) : ∀ u, u ≤ m → (Lib.decDigits u).getD 0 default = 48 → u = 0 := by
  induction m with
  | zero => intro u hu _; omega
  | succ m ih =>
    intro u hu h
    rw [Lib.decDigits] at h
    by_cases c : u < 10
    · rw [dif_pos c] at h
      have := congrArg UInt8.toNat (show UInt8.ofNat (48 + u) = 48 from h)
      rw [UInt8.toNat_ofNat'] at this
      have h48 : (48 : UInt8).toNat = 48 := rfl
      omega
    · rw [dif_neg c] at h
      have hne := (dec_dig _ (u / 10) (Nat.le_refl _)).2
      have hg : (Lib.decDigits (u / 10) ++ [UInt8.ofNat (48 + u % 10)]).getD 0 default = (Lib.decDigits (u / 10)).getD 0 default := by
        cases hd : Lib.decDigits (u / 10) with
        | nil => exact absurd hd hne
        | cons => rfl
      rw [hg] at h
      have := ih (u / 10) (by omega) h
      omega
theorem num_itoa {n : Int} (h : 0 ≤ n) (hl : (Lib.itoa n).length ≤ 9) : numS (Lib.itoa n) = n := by
  rw [itoa_nn h] at hl ⊢
  have hne := (dec_dig _ n.toNat (Nat.le_refl _)).2
  have h1 : (Lib.decDigits n.toNat).length ≠ 0 := fun e => hne (List.eq_nil_of_length_eq_zero e)
  unfold numS
  rw [if_neg h1, if_neg (by omega), if_neg, decFrom_dec _ _ (Nat.le_refl _)]
  · show ((n.toNat : Nat) : Int) = n
    omega
  · intro ⟨e, hlen⟩
    have := dec_head _ _ (Nat.le_refl _) e
    rw [this, Lib.decDigits, dif_pos (by omega)] at hlen
    simp at hlen
theorem num_nn {w : List UInt8} (h : 0 ≤ numS w) : w.length ≤ 9 ∧ Lib.itoa (numS w) = w := by
  unfold numS at h ⊢
  by_cases c1 : w.length = 0
  · rw [if_pos c1] at h; exact absurd h (by decide)
  rw [if_neg c1] at h ⊢
  by_cases c2 : w.length > 9
  · rw [if_pos c2] at h; exact absurd h (by decide)
  rw [if_neg c2] at h ⊢
  by_cases c3 : w.getD 0 default = 48 ∧ w.length > 1
  · rw [if_pos c3] at h; exact absurd h (by decide)
  rw [if_neg c3] at h ⊢
  cases hd : Lib.decFrom 0 w with
  | none => rw [hd] at h; exact absurd h (by decide)
  | some n =>
    refine ⟨by omega, ?_⟩
    show Lib.itoa (n : Int) = w
    rw [itoa_nn (by omega), Int.toNat_natCast]
    exact dec_canon _ w n rfl (fun e => c1 (by rw [e]; rfl)) (fun e => by
      rcases Nat.lt_or_ge 1 w.length with hh | hh
      · exact absurd ⟨e, hh⟩ c3
      · omega) hd
theorem digs_bo {n : Int} {x : List UInt8} (h : okV n x = true) : digs (bo x) = x := by
  unfold okV at h
  rw [Bool.and_eq_true] at h
  have key : ∀ x : List UInt8, x.all (fun q => q == 48 || q == 49) = true → digs (bo x) = x := by
    intro x
    induction x with
    | nil => intro _; rfl
    | cons a r ih =>
      intro hh
      rw [List.all_cons, Bool.and_eq_true] at hh
      have e : digs (bo (a :: r)) = (if a == 49 then [49] else [48]) ++ digs (bo r) := by
        unfold bo digs
        rw [List.map_cons, List.flatMap_cons]
      rw [e, ih hh.2]
      cases h9 : (a == 49) with
      | true => rw [beq_iff_eq.1 h9]; rfl
      | false =>
        have := hh.1
        rw [h9, Bool.or_false] at this
        rw [beq_iff_eq.1 this]; rfl
  exact key x h.2
theorem okV_digs {n : Int} {v : List Bool} (h : (v.length : Int) = n) : okV n (digs v) = true := by
  unfold okV
  rw [digs_len, decide_eq_true h, Bool.true_and, List.all_eq_true]
  intro q hq
  unfold digs at hq
  obtain ⟨b, -, hb⟩ := List.mem_flatMap.1 hq
  cases b
  · rw [if_neg (by simp), List.mem_singleton] at hb; rw [hb]; rfl
  · rw [if_pos rfl, List.mem_singleton] at hb; rw [hb]; rfl
/-- What the reference takes is of the form that is read, and its number is the same. -/
theorem form_of {c : Ci} {s : List UInt8} (h : prOk c (lns s) = true) : form c s = true ∧ prN (lns s) = rdN s := by
  unfold prOk pre prV at h
  simp only [Bool.and_eq_true, Bool.not_eq_true', Bool.or_eq_false_iff, decide_eq_false_iff_not, decide_eq_true_eq, Decidable.not_not] at h
  obtain ⟨⟨p1, p2, p3, p4, p5, p6, p7⟩, ⟨v1, v2⟩, nn⟩ := h
  have hsh := shape (lns s) (by omega)
  obtain ⟨w, hw⟩ : ∃ w, (lns s).getD 1 default = 98 :: w := by
    cases hl : (lns s).getD 1 default with
    | nil => rw [hl] at p6; simp at p6
    | cons a r => rw [hl] at p7; exact ⟨r, by rw [show a = 98 from p7]⟩
  have hN : prN (lns s) = numS w := by unfold prN; rw [hw]; rfl
  rw [hN] at nn
  obtain ⟨wl, wi⟩ := num_nn nn
  have hA : rdA s = some (numS w) := by
    unfold rdA
    rw [hw]
    unfold Rd.trim
    rw [if_pos (by simp), List.drop_succ_cons, List.drop_zero]
    have := atoi_itoa nn
    rw [wi] at this
    exact this
  have hR : rdN s = numS w := by unfold rdN; rw [hA]; rfl
  have hI : rdL s = prI (lns s) := rfl
  have hT : txt (rdT s) (rdN s) = s := by
    apply splitU_inj (u := 10)
    rw [splitU_txt _ (by rw [hR]; exact nn), hR, wi]
    have e1 : digs (rdT s).first = (lns s).getD 2 default := digs_bo v1
    have e2 : (rdT s).ins.map digs = prI (lns s) := by
      show ((rdL s).map bo).map digs = _
      rw [hI, List.map_map]
      have : ∀ x ∈ prI (lns s), (digs ∘ bo) x = id x := fun x hx => digs_bo (List.all_eq_true.1 v2 x hx)
      rw [List.map_congr_left this, List.map_id]
    rw [e1, e2]
    rw [p5, hw, p4, p3] at hsh
    exact hsh.symm
  refine ⟨?_, by rw [hN, hR]⟩
  have hf : few s = false := by
    unfold few
    rw [hw, List.length_cons]
    rw [decide_eq_false (by omega), decide_eq_false (by omega), decide_eq_false (by omega)]; rfl
  have hk : okR c s = true := by
    unfold okR okL
    rw [hA, hR, decide_eq_true nn]
    unfold okV at v1
    rw [Bool.and_eq_true, decide_eq_true_eq] at v1
    have e : (rdT s).first.length = c.lats.length := by
      show (bo _).length = _
      rw [bo_len]; omega
    rw [decide_eq_true e]
    rw [hI]
    simp only [Option.isSome_some, Bool.and_self, Bool.true_and]
    rw [List.all_eq_true] at v2 ⊢
    intro x hx
    have := v2 x hx
    unfold okV at this
    rw [Bool.and_eq_true] at this
    exact this.1
  unfold form
  rw [hf, hk, decide_eq_true hT]; rfl
/-- What is of the form is taken by the reference. -/
theorem of_form {c : Ci} {s : List UInt8} (h : form c s = true) : prOk c (lns s) = true := by
  unfold form at h
  rw [Bool.and_eq_true, Bool.and_eq_true, Bool.not_eq_true', decide_eq_true_eq] at h
  obtain ⟨hf, hk, ht⟩ := h
  unfold okR okL at hk
  simp only [Bool.and_eq_true, decide_eq_true_eq] at hk
  obtain ⟨⟨h1, h2, h3⟩, h4⟩ := hk
  have hs : lns s = [49] :: (98 :: Lib.itoa (rdN s)) :: digs (rdT s).first :: ((rdT s).ins.map digs ++ [[46], []]) := by
    have := splitU_txt (rdT s) h2
    rw [ht] at this
    exact this
  unfold few at hf
  rw [Bool.or_eq_false_iff, Bool.or_eq_false_iff, decide_eq_false_iff_not, decide_eq_false_iff_not, decide_eq_false_iff_not] at hf
  obtain ⟨f1, f2, f3⟩ := hf
  have hlen : (lns s).length = (rdT s).ins.length + 5 := by rw [hs]; simp
  have g0 : (lns s).getD 0 default = [49] := by rw [hs]; rfl
  have g1 : (lns s).getD 1 default = 98 :: Lib.itoa (rdN s) := by rw [hs]; rfl
  have g2 : (lns s).getD 2 default = digs (rdT s).first := by rw [hs]; rfl
  have gl : ∀ (A : List (List UInt8)) (x y : List UInt8), (A ++ [x, y]).getD A.length default = x ∧ (A ++ [x, y]).getD (A.length + 1) default = y := by
    intro A x y
    induction A with
    | nil => exact ⟨rfl, rfl⟩
    | cons a r ih => exact ih
  have hA := gl ([49] :: (98 :: Lib.itoa (rdN s)) :: digs (rdT s).first :: (rdT s).ins.map digs) [46] []
  have hAl : ([49] :: (98 :: Lib.itoa (rdN s)) :: digs (rdT s).first :: (rdT s).ins.map digs).length = (lns s).length - 2 := by rw [hlen]; simp
  rw [hAl, show (lns s).length - 2 + 1 = (lns s).length - 1 by omega] at hA
  have hs2 : ([49] :: (98 :: Lib.itoa (rdN s)) :: digs (rdT s).first :: (rdT s).ins.map digs) ++ [[46], []] = lns s := hs.symm
  rw [hs2] at hA
  have g3 : (lns s).getD ((lns s).length - 2) default = [46] := hA.1
  have g4 : (lns s).getD ((lns s).length - 1) default = [] := hA.2
  have hl9 : (Lib.itoa (rdN s)).length ≤ 9 := by rw [g1, List.length_cons] at f3; omega
  have hne : (Lib.itoa (rdN s)).length ≠ 0 := fun e => by
    rw [itoa_nn h2] at e
    exact (dec_dig _ _ (Nat.le_refl _)).2 (List.eq_nil_of_length_eq_zero e)
  have hn := num_itoa h2 hl9
  unfold prOk pre prV prN
  rw [g0, g1, g2, g3, g4]
  simp only [List.drop_succ_cons, List.drop_zero, hn, decide_eq_true h2, Bool.and_true, Bool.and_eq_true, Bool.not_eq_true', Bool.or_eq_false_iff, decide_eq_false_iff_not, List.length_cons]
  refine ⟨⟨by omega, by omega, by simp, by simp, by simp, by omega, by simp⟩, okV_digs (by omega), ?_⟩
  rw [List.all_eq_true]
  intro x hx
  have hx' : x ∈ rdL s := hx
  have hxl := List.all_eq_true.1 h4 x hx'
  have : bo x ∈ (rdT s).ins := List.mem_map.2 ⟨x, hx', rfl⟩
  -- the lines are digits
  have hI : rdL s = (rdT s).ins.map digs := by
    have e := rdL_txt (rdT s) h2
    rw [ht] at e
    exact e
  rw [hI] at hx'
  obtain ⟨v, hv, rfl⟩ := List.mem_map.1 hx'
  rw [digs_len] at hxl
  exact okV_digs (of_decide_eq_true hxl)
end Go.Proofs.YtbamhlgkoimjoaaDoor.Sy.Rp
/- The texts of WitnessNames: the plain law. -/
namespace Go.Proofs.YtbamhlgkoimjoaaDoor.Sy.Wn
open Go Go.Proofs.YtbamhlgkoimjoaaDoor.Ab Go.Proofs.YtbamhlgkoimjoaaDoor.Sy Go.Proofs.YtbamhlgkoimjoaaDoor.Sy.Tx Go.Proofs.YtbamhlgkoimjoaaDoor.Sy.Vl Go.Proofs.YtbamhlgkoimjoaaDoor.Sy.Tc Go.Proofs.YtbamhlgkoimjoaaDoor.Sy.Wi Go.Proofs.YtbamhlgkoimjoaaDoor.Sy.Rd Go.Proofs.YtbamhlgkoimjoaaDoor.Sy.Rp
set_option maxRecDepth 1000000
set_option linter.unusedVariables false
/-- What witness.Read answers, by the reference's way: this can be run. -/
def rdQ (c : Ci) (s : List UInt8) : Int := if Gates.chk c ≠ 0 then Gates.chk c else if prOk c (lns s) then wtChk c (rdT s) (prN (lns s)) else 12
theorem rdE_q (c : Ci) (s : List UInt8) : rdE c s = rdQ c s := by
  unfold rdE rdQ
  cases hk : prOk c (lns s) with
  | false =>
    have hf : form c s = false := by
      cases hf : form c s with
      | false => rfl
      | true => rw [of_form hf] at hk; cases hk
    rw [hf]
    simp
  | true =>
    obtain ⟨hf, hn⟩ := form_of hk
    rw [hf, hn]
def cN : Ci := ⟨2, [⟨2, 2⟩, ⟨4, 1⟩], [], [0, 6, 3], [5]⟩
def tN : Tr := ⟨[true, true], [[false, false], [true, false]]⟩
def tN1 : Tr := ⟨[true, true], [[false, false]]⟩
def textsN : List (List UInt8) := [[], [49, 10, 98, 49, 10, 49, 49, 10, 46, 10], [49, 10, 98, 49, 10, 49, 49, 10, 48, 48, 10, 46], [49, 10, 98, 49, 10, 49, 49, 10, 48, 48, 10, 46, 10, 10], [49, 10, 98, 49, 10, 49, 49, 10, 48, 48, 10], [48, 10, 98, 49, 10, 49, 49, 10, 48, 48, 10, 46, 10], [49, 10, 98, 48, 49, 10, 49, 49, 10, 48, 48, 10, 46, 10], [49, 10, 98, 10, 49, 49, 10, 48, 48, 10, 46, 10], [49, 10, 49, 10, 49, 49, 10, 48, 48, 10, 46, 10], [49, 10, 98, 49, 10, 49, 10, 48, 48, 10, 46, 10], [49, 10, 98, 49, 10, 49, 49, 49, 10, 48, 48, 10, 46, 10], [49, 10, 98, 49, 10, 49, 120, 10, 48, 48, 10, 46, 10], [49, 10, 98, 49, 10, 49, 49, 10, 48, 10, 46, 10], [49, 10, 98, 49, 10, 49, 49, 10, 48, 48, 10, 10, 46, 10], [49, 10, 98, 43, 49, 10, 49, 49, 10, 48, 48, 10, 46, 10], [49, 10, 98, 49, 48, 48, 48, 48, 48, 48, 48, 48, 48, 10, 49, 49, 10, 48, 48, 10, 46, 10], [49, 10, 106, 49, 10, 49, 49, 10, 48, 48, 10, 46, 10], [49, 13, 10, 98, 49, 10, 49, 49, 10, 48, 48, 10, 46, 10]]
theorem texts_form : ∀ s ∈ textsN, rdQ cN s = 12 := by
  have h : (textsN.map (rdQ cN)) = List.replicate 18 12 := by kernel_rfl
  intro s hs
  exact List.eq_of_mem_replicate (by rw [← h]; exact List.mem_map.2 ⟨s, hs, rfl⟩)
def wr0 : List UInt8 := [49, 10, 98, 51, 10, 49, 49, 10, 48, 48, 10, 46, 10]
theorem wr0_e : rdQ cN wr0 = 2 := by kernel_rfl
def wr1 : List UInt8 := [49, 10, 98, 48, 10, 49, 49, 10, 48, 48, 10, 46, 10]
theorem wr1_e : rdQ cN wr1 = 57 := by kernel_rfl
def wr2 : List UInt8 := [49, 10, 98, 49, 10, 49, 48, 10, 48, 48, 10, 46, 10]
theorem wr2_e : rdQ cN wr2 = 8 := by kernel_rfl
def wr3 : List UInt8 := [49, 10, 98, 49, 10, 49, 49, 10, 48, 49, 10, 46, 10]
theorem wr3_e : rdQ cN wr3 = 57 := by kernel_rfl
def wr4 : List UInt8 := [49, 10, 98, 57, 57, 57, 57, 57, 57, 57, 57, 57, 10, 49, 49, 10, 48, 48, 10, 46, 10]
theorem wr4_e : rdQ cN wr4 = 2 := by kernel_rfl
theorem wN1 : wtChk cN tN1 1 = 0 := by kernel_rfl
theorem wN2 : wtChk cN tN 0 = 57 := by kernel_rfl
theorem wN3 : wtChk cN tN 2 = 57 := by kernel_rfl
theorem wN4 : wtChk cN tN 3 = 2 := by kernel_rfl
theorem wN5 : wtChk cN tN (-1) = 2 := by kernel_rfl
theorem wN6 : wtChk cN ⟨[], []⟩ 9 = 8 := by kernel_rfl
def exW : Ci := ⟨0, [⟨3, 0⟩], [], [2], []⟩
/-- The text that is too long. -/
def long : List UInt8 := [49, 10, 98, 48, 10, 48, 10] ++ List.replicate 101 10 ++ [46, 10]
theorem long_e : rdQ exW long = 12 := by kernel_rfl
theorem bad4_e : rdQ ⟨0, [], [], [4], []⟩ [] = 8 := by kernel_rfl
end Go.Proofs.YtbamhlgkoimjoaaDoor.Sy.Wn
/- WitnessNames: the walk. -/
namespace Go.Proofs.YtbamhlgkoimjoaaDoor.Sy.Wn
open Go Go.Proofs.YtbamhlgkoimjoaaDoor.Ab Go.Proofs.YtbamhlgkoimjoaaDoor.Sy Go.Proofs.YtbamhlgkoimjoaaDoor.Sy.Tx Go.Proofs.YtbamhlgkoimjoaaDoor.Sy.Vl Go.Proofs.YtbamhlgkoimjoaaDoor.Sy.Tc Go.Proofs.YtbamhlgkoimjoaaDoor.Sy.Wi Go.Proofs.YtbamhlgkoimjoaaDoor.Sy.Rd
set_option maxRecDepth 1000000
set_option linter.unusedVariables false
def exC : Ci := ⟨0, [⟨3, 0⟩], [], [2], []⟩
def exT : Tr := ⟨[false], [[], []]⟩
def exS : List UInt8 := [49, 10, 98, 48, 10, 48, 10, 10, 10, 46, 10]
def BcN : B := .box [.d (I 2), .d (.sl (cN.lats.map Lt.d)), .emp true, .d (L cN.bads), .d (L cN.cons)]
def res : List (Nat × V) := [(0, .d (.bool false)), (1, .ptr 0 0), (2, .ptr 1 0), (3, .d (.str (txt tN1 1))), (4, .d (I 0)), (5, .d (I 57)), (6, .d (I 57)), (8, .d (I 2)), (10, .d (I 2)), (12, .d (I 8)), (14, .d (I 8))]
def Z1 (ts : List (List UInt8)) (i : Nat) : St := ⟨mk 157 (res ++ [(15, .d (.sl (ts.map D.str))), (16, .d (I i))]) [], [BcN, Tc.Bt tN]⟩
def Y1 (ts : List (List UInt8)) : St := ⟨mk 157 (res ++ [(15, .d (.sl (ts.map D.str)))]) [], [BcN, Tc.Bt tN]⟩
def Z2 (s : List UInt8) (i : Nat) : St := ⟨mk 157 (res ++ [(17, .d (.str s)), (18, .d (I i))]) [], [BcN, Tc.Bt tN]⟩
def Y2 (s : List UInt8) : St := ⟨mk 157 (res ++ [(17, .d (.str s))]) [], [BcN, Tc.Bt tN]⟩
section
variable (c : Ci) (t : Tr) (n e : Int) (i : Nat) (s r : List UInt8) (ts : List (List UInt8))
theorem ex  : callX Tryd.prog wr false O 7 [] [] [It.raw, It.raw] = some (V.agg [V.d (D.int IntKind.i64 0), V.d (D.sl [D.agg [D.int IntKind.i64 3, D.int IntKind.i64 0]]), V.emp true, V.d (D.sl [D.int IntKind.i64 2]), V.emp true], [],
  []) := by kernel_rfl
theorem tw  : callX Tryd.prog wr false O 14 [] [] [It.raw, It.ix 2] = some (V.agg [V.d (D.sl [D.bool false]), V.own2 29 (List.replicate 2 (some []))], [],
  [2 = (↑2 : Int) ∧ 2 = (↑2 : Int) ∧ 2 ≤ maxItems]) := by kernel_rfl
theorem al  : callX Tryd.prog wr false O 8 [] [] [It.icall [] (V.d exC.d) [], It.icall [] (V.d exT.d) [], It.icall [] (V.tup [V.d (D.str exS), V.d (I 0)]) [], It.icall [] (V.d exC.d) [], It.icall [] (V.tup [V.d exT.d, V.d (I 0), V.d (I 0)]) [], It.br true, It.br true, It.br true, It.br true, It.br true, It.br true, It.el 0 (D.bool (exT.first.getD 0 default)), It.br true] = some (V.d (D.bool true), [],
  [ICall Tryd.prog 7 [] [] (V.d exC.d) [],
   ICall Tryd.prog 14 [] [] (V.d exT.d) [],
   ICall Tryd.prog 4 [V.d exC.d, V.d exT.d, V.d (D.int IntKind.i64 0)] [] (V.tup [V.d (D.str exS), V.d (I 0)]) [],
   ICall Tryd.prog 7 [] [] (V.d exC.d) [],
   ICall Tryd.prog 13 [V.d exC.d, V.d (D.str (ByteArray.mk #[49, 10, 98, 48, 10, 48, 10, 10, 10, 46, 10]).data.toList)] [] (V.tup [V.d exT.d, V.d (I 0), V.d (I 0)]) [],
   (0 == 0) = true,
   (exS == (ByteArray.mk #[49, 10, 98, 48, 10, 48, 10, 10, 10, 46, 10]).data.toList) = true,
   (0 == 0) = true,
   (0 == 0) = true,
   ((↑2 : Int) == 2) = true,
   ((↑1 : Int) == 1) = true,
   0 = (↑0 : Int) ∧ (List.map D.bool exT.first)[0]? = some (D.bool (exT.first.getD 0 default)),
   (!exT.first.getD 0 default) = true]) := by kernel_rfl
theorem fl  : callX Tryd.prog wr false O 6 [.d c.d, .d (.str s), .d (I e)] [] [It.icall [] (V.tup [V.d (Tr.mk [] []).d, V.d (I 0), V.d (I e)]) [], It.br true, It.br true, It.br true] = some (V.d (D.bool true), [],
  [ICall Tryd.prog 13 [V.d (D.agg [I c.ins, D.sl (List.map Lt.d c.lats), D.sl (List.map An.d c.ands), L c.bads, L c.cons]), V.d (D.str s)] [] (V.tup [V.d (Tr.mk [] []).d, V.d (I 0), V.d (I e)]) [],
   (e == e) = true,
   (0 == 0) = true,
   ((↑0 : Int) == 0) = true]) := by kernel_rfl
theorem y1 : round Tryd.prog wr false O (loopOf Tryd.prog 3 0) (Z1 ts i) [It.br true, It.el i (D.str (ts.getD i default)), It.icall [] (V.d (D.bool true)) [], It.br false, It.is (↑(i + 1) : Int)] [0, 1, 2, 3, 4, 5, 6, 8, 10, 12, 14, 15, 16] 2 = some (.normal, Z1 ts (i + 1),
  [decide ((↑i : Int) < (↑(List.map D.str ts).length : Int)) = true,
   (↑i : Int) = (↑i : Int) ∧ (List.map D.str ts)[i]? = some (D.str (ts.getD i default)),
   ICall Tryd.prog 6 [V.agg [V.d (I 2), V.d (D.sl (List.map Lt.d cN.lats)), V.emp true, V.d (L cN.bads), V.d (L cN.cons)], V.d (D.str (ts.getD i default)), V.d (D.int IntKind.i64 12)] [] (V.d (D.bool true)) [],
   (!true) = false,
   IntKind.i64.wrap ((↑i : Int) + 1) = (↑(i + 1) : Int)]) := by kernel_rfl
theorem y2 : round Tryd.prog wr false O (loopOf Tryd.prog 3 0) (Z1 ts i) [It.br false] [0, 1, 2, 3, 4, 5, 6, 8, 10, 12, 14, 15] 2 = some (.exit 0, Y1 ts,
  [decide ((↑i : Int) < (↑(List.map D.str ts).length : Int)) = false]) := by kernel_rfl
theorem y3 : round Tryd.prog wr false O (loopOf Tryd.prog 3 1) (Z2 s i) [It.br true, It.raw, It.is (↑(i + 1) : Int)] [0, 1, 2, 3, 4, 5, 6, 8, 10, 12, 14, 17, 18] 2 = some (.normal, Z2 (s ++ [10]) (i + 1),
  [decide ((↑i : Int) < 101) = true,
   s.length + 1 < 4611686018427387904,
   IntKind.i64.wrap ((↑i : Int) + 1) = (↑(i + 1) : Int)]) := by kernel_rfl
theorem y4 : round Tryd.prog wr false O (loopOf Tryd.prog 3 1) (Z2 s i) [It.br false] [0, 1, 2, 3, 4, 5, 6, 8, 10, 12, 14, 17] 2 = some (.exit 2, Y2 s,
  [decide ((↑i : Int) < 101) = false]) := by kernel_rfl
theorem z  : callX Tryd.prog wr false O 3 [] [] [It.raw, It.raw, It.raw, It.raw, It.raw, It.raw, It.raw, It.cut 0 1, It.raw, It.icall [] (V.tup [V.d (D.str (txt tN1 1)), V.d (I 0)]) [], It.icall [] (V.d (I 57)) [], It.icall [] (V.d (I 57)) [], It.icall [] (V.tup [V.d (D.str []), V.d (I 2)]) [], It.icall [] (V.tup [V.d (D.str []), V.d (I 2)]) [], It.icall [] (V.tup [V.d (D.str []), V.d (I 8)]) [], It.icall [] (V.tup [V.d (D.str []), V.d (I 8)]) [], It.raw, It.lp [0, 1, 2, 3, 4, 5, 6, 8, 10, 12, 14, 15, 16] (Ex.exit 0) (Y1 textsN), It.lp [0, 1, 2, 3, 4, 5, 6, 8, 10, 12, 14, 17, 18] (Ex.exit 2) (Y2 s), It.icall [] (V.d (D.bool true)) [], It.icall [] (V.d (D.bool true)) [], It.icall [] (V.d (D.bool true)) [], It.icall [] (V.d (D.bool true)) [], It.icall [] (V.d (D.bool true)) [], It.raw, It.icall [] (V.d (D.bool true)) [], It.icall [] (V.d exC.d) [], It.raw, It.icall [] (V.d (D.bool true)) [], It.br true, It.br true, It.br true, It.br true, It.br true, It.br true, It.br true, It.br true, It.icall [] (V.d (D.bool true)) []] = some (V.d (D.bool true), [],
  [(↑0 : Int) = (↑0 : Int) ∧ 1 = (↑1 : Int) ∧ 0 ≤ 1 ∧ 1 ≤ 2,
   ICall Tryd.prog 4 [V.agg [V.d (D.int IntKind.i64 2), V.d (D.sl [D.agg [D.int IntKind.i64 2, D.int IntKind.i64 2], D.agg [D.int IntKind.i64 4, D.int IntKind.i64 1]]), V.emp true, V.d (D.sl [D.int IntKind.i64 0, D.int IntKind.i64 6, D.int IntKind.i64 3]), V.d (D.sl [D.int IntKind.i64 5])], V.d (D.agg [D.sl [D.bool true, D.bool true], D.sl (List.take 1 (List.drop 0 [D.sl [D.bool false, D.bool false], D.sl [D.bool true, D.bool false]]))]), V.d (D.int IntKind.i64 1)] [] (V.tup [V.d (D.str (txt tN1 1)), V.d (I 0)]) [],
   ICall Tryd.prog 5 [V.agg [V.d (D.int IntKind.i64 2), V.d (D.sl [D.agg [D.int IntKind.i64 2, D.int IntKind.i64 2], D.agg [D.int IntKind.i64 4, D.int IntKind.i64 1]]), V.emp true, V.d (D.sl [D.int IntKind.i64 0, D.int IntKind.i64 6, D.int IntKind.i64 3]), V.d (D.sl [D.int IntKind.i64 5])], V.d (D.agg [D.sl [D.bool true, D.bool true], D.sl [D.sl [D.bool false, D.bool false], D.sl [D.bool true, D.bool false]]]), V.d (D.int IntKind.i64 0)] [] (V.d (I 57)) [],
   ICall Tryd.prog 5 [V.agg [V.d (D.int IntKind.i64 2), V.d (D.sl [D.agg [D.int IntKind.i64 2, D.int IntKind.i64 2], D.agg [D.int IntKind.i64 4, D.int IntKind.i64 1]]), V.emp true, V.d (D.sl [D.int IntKind.i64 0, D.int IntKind.i64 6, D.int IntKind.i64 3]), V.d (D.sl [D.int IntKind.i64 5])], V.d (D.agg [D.sl [D.bool true, D.bool true], D.sl [D.sl [D.bool false, D.bool false], D.sl [D.bool true, D.bool false]]]), V.d (D.int IntKind.i64 2)] [] (V.d (I 57)) [],
   ICall Tryd.prog 4 [V.agg [V.d (D.int IntKind.i64 2), V.d (D.sl [D.agg [D.int IntKind.i64 2, D.int IntKind.i64 2], D.agg [D.int IntKind.i64 4, D.int IntKind.i64 1]]), V.emp true, V.d (D.sl [D.int IntKind.i64 0, D.int IntKind.i64 6, D.int IntKind.i64 3]), V.d (D.sl [D.int IntKind.i64 5])], V.d (D.agg [D.sl [D.bool true, D.bool true], D.sl [D.sl [D.bool false, D.bool false], D.sl [D.bool true, D.bool false]]]), V.d (D.int IntKind.i64 3)] [] (V.tup [V.d (D.str []), V.d (I 2)]) [],
   ICall Tryd.prog 4 [V.agg [V.d (D.int IntKind.i64 2), V.d (D.sl [D.agg [D.int IntKind.i64 2, D.int IntKind.i64 2], D.agg [D.int IntKind.i64 4, D.int IntKind.i64 1]]), V.emp true, V.d (D.sl [D.int IntKind.i64 0, D.int IntKind.i64 6, D.int IntKind.i64 3]), V.d (D.sl [D.int IntKind.i64 5])], V.d (D.agg [D.sl [D.bool true, D.bool true], D.sl [D.sl [D.bool false, D.bool false], D.sl [D.bool true, D.bool false]]]), V.d (D.int IntKind.i64 (-1))] [] (V.tup [V.d (D.str []), V.d (I 2)]) [],
   ICall Tryd.prog 4 [V.agg [V.d (D.int IntKind.i64 2), V.d (D.sl [D.agg [D.int IntKind.i64 2, D.int IntKind.i64 2], D.agg [D.int IntKind.i64 4, D.int IntKind.i64 1]]), V.emp true, V.d (D.sl [D.int IntKind.i64 0, D.int IntKind.i64 6, D.int IntKind.i64 3]), V.d (D.sl [D.int IntKind.i64 5])], V.agg [V.emp true, V.emp true], V.d (D.int IntKind.i64 9)] [] (V.tup [V.d (D.str []), V.d (I 8)]) [],
   ICall Tryd.prog 4 [V.agg [V.d (D.int IntKind.i64 (-1)), V.emp true, V.emp true, V.emp true, V.emp true], V.d (D.agg [D.sl [D.bool true, D.bool true], D.sl [D.sl [D.bool false, D.bool false], D.sl [D.bool true, D.bool false]]]), V.d (D.int IntKind.i64 0)] [] (V.tup [V.d (D.str []), V.d (I 8)]) [],
   GoesL Tryd.prog (loopOf Tryd.prog 3 0) (⟨mk 157 [(0, V.d (D.bool false)), (1, V.ptr 0 0), (2, V.ptr 1 0), (3, V.d (D.str (txt tN1 1))), (4, V.d (D.int IntKind.i64 0)), (5, V.d (D.int IntKind.i64 57)), (6, V.d (D.int IntKind.i64 57)), (8, V.d (D.int IntKind.i64 2)), (10, V.d (D.int IntKind.i64 2)), (12, V.d (D.int IntKind.i64 8)), (14, V.d (D.int IntKind.i64 8)), (15, V.d (D.sl [D.str (ByteArray.mk #[]).data.toList, D.str (ByteArray.mk #[49, 10, 98, 49, 10, 49, 49, 10, 46, 10]).data.toList, D.str (ByteArray.mk #[49, 10, 98, 49, 10, 49, 49, 10, 48, 48, 10, 46]).data.toList, D.str (ByteArray.mk #[49, 10, 98, 49, 10, 49, 49, 10, 48, 48, 10, 46, 10, 10]).data.toList, D.str (ByteArray.mk #[49, 10, 98, 49, 10, 49, 49, 10, 48, 48, 10]).data.toList, D.str (ByteArray.mk #[48, 10, 98, 49, 10, 49, 49, 10, 48, 48, 10, 46, 10]).data.toList, D.str (ByteArray.mk #[49, 10, 98, 48, 49, 10, 49, 49, 10, 48, 48, 10, 46, 10]).data.toList, D.str (ByteArray.mk #[49, 10, 98, 10, 49, 49, 10, 48, 48, 10, 46, 10]).data.toList, D.str (ByteArray.mk #[49, 10, 49, 10, 49, 49, 10, 48, 48, 10, 46, 10]).data.toList, D.str (ByteArray.mk #[49, 10, 98, 49, 10, 49, 10, 48, 48, 10, 46, 10]).data.toList, D.str (ByteArray.mk #[49, 10, 98, 49, 10, 49, 49, 49, 10, 48, 48, 10, 46, 10]).data.toList, D.str (ByteArray.mk #[49, 10, 98, 49, 10, 49, 120, 10, 48, 48, 10, 46, 10]).data.toList, D.str (ByteArray.mk #[49, 10, 98, 49, 10, 49, 49, 10, 48, 10, 46, 10]).data.toList, D.str (ByteArray.mk #[49, 10, 98, 49, 10, 49, 49, 10, 48, 48, 10, 10, 46, 10]).data.toList, D.str (ByteArray.mk #[49, 10, 98, 43, 49, 10, 49, 49, 10, 48, 48, 10, 46, 10]).data.toList, D.str (ByteArray.mk #[49, 10, 98, 49, 48, 48, 48, 48, 48, 48, 48, 48, 48, 10, 49, 49, 10, 48, 48, 10, 46, 10]).data.toList, D.str (ByteArray.mk #[49, 10, 106, 49, 10, 49, 49, 10, 48, 48, 10, 46, 10]).data.toList, D.str (ByteArray.mk #[49, 13, 10, 98, 49, 10, 49, 49, 10, 48, 48, 10, 46, 10]).data.toList])), (16, V.d (D.int IntKind.i64 0))] [], [B.bx none [V.d (D.int IntKind.i64 2), V.d (D.sl [D.agg [D.int IntKind.i64 2, D.int IntKind.i64 2], D.agg [D.int IntKind.i64 4, D.int IntKind.i64 1]]), V.emp true, V.d (D.sl [D.int IntKind.i64 0, D.int IntKind.i64 6, D.int IntKind.i64 3]), V.d (D.sl [D.int IntKind.i64 5])], B.bx none [V.d (D.sl [D.bool true, D.bool true]), V.d (D.sl [D.sl [D.bool false, D.bool false], D.sl [D.bool true, D.bool false]])]]⟩) (Ex.exit 0) (Y1 textsN),
   GoesL Tryd.prog (loopOf Tryd.prog 3 1) (⟨mk 157 [(0, V.d (D.bool false)), (1, V.ptr 0 0), (2, V.ptr 1 0), (3, V.d (D.str (txt tN1 1))), (4, V.d (D.int IntKind.i64 0)), (5, V.d (D.int IntKind.i64 57)), (6, V.d (D.int IntKind.i64 57)), (8, V.d (D.int IntKind.i64 2)), (10, V.d (D.int IntKind.i64 2)), (12, V.d (D.int IntKind.i64 8)), (14, V.d (D.int IntKind.i64 8)), (17, V.d (D.str (ByteArray.mk #[49, 10, 98, 48, 10, 48, 10]).data.toList)), (18, V.d (D.int IntKind.i64 0))] [], [B.bx none [V.d (D.int IntKind.i64 2), V.d (D.sl (List.map Lt.d cN.lats)), V.emp true, V.d (D.sl (List.map I cN.bads)), V.d (D.sl (List.map I cN.cons))], B.bx none [V.d (D.sl (List.map D.bool tN.first)), V.d (D.sl (List.map BL tN.ins))]]⟩) (Ex.exit 2) (Y2 s),
   ICall Tryd.prog 6 [V.agg [V.d (I 2), V.d (D.sl (List.map Lt.d cN.lats)), V.emp true, V.d (L cN.bads), V.d (L cN.cons)], V.d (D.str (ByteArray.mk #[49, 10, 98, 51, 10, 49, 49, 10, 48, 48, 10, 46, 10]).data.toList), V.d (D.int IntKind.i64 2)] [] (V.d (D.bool true)) [],
   ICall Tryd.prog 6 [V.agg [V.d (I 2), V.d (D.sl (List.map Lt.d cN.lats)), V.emp true, V.d (L cN.bads), V.d (L cN.cons)], V.d (D.str (ByteArray.mk #[49, 10, 98, 48, 10, 49, 49, 10, 48, 48, 10, 46, 10]).data.toList), V.d (D.int IntKind.i64 57)] [] (V.d (D.bool true)) [],
   ICall Tryd.prog 6 [V.agg [V.d (I 2), V.d (D.sl (List.map Lt.d cN.lats)), V.emp true, V.d (L cN.bads), V.d (L cN.cons)], V.d (D.str (ByteArray.mk #[49, 10, 98, 49, 10, 49, 48, 10, 48, 48, 10, 46, 10]).data.toList), V.d (D.int IntKind.i64 8)] [] (V.d (D.bool true)) [],
   ICall Tryd.prog 6 [V.agg [V.d (I 2), V.d (D.sl (List.map Lt.d cN.lats)), V.emp true, V.d (L cN.bads), V.d (L cN.cons)], V.d (D.str (ByteArray.mk #[49, 10, 98, 49, 10, 49, 49, 10, 48, 49, 10, 46, 10]).data.toList), V.d (D.int IntKind.i64 57)] [] (V.d (D.bool true)) [],
   ICall Tryd.prog 6 [V.agg [V.d (I 2), V.d (D.sl (List.map Lt.d cN.lats)), V.emp true, V.d (L cN.bads), V.d (L cN.cons)], V.d (D.str (ByteArray.mk #[49, 10, 98, 57, 57, 57, 57, 57, 57, 57, 57, 57, 10, 49, 49, 10, 48, 48, 10, 46, 10]).data.toList), V.d (D.int IntKind.i64 2)] [] (V.d (D.bool true)) [],
   ICall Tryd.prog 6 [V.agg [V.d (D.int IntKind.i64 0), V.emp true, V.emp true, V.d (D.sl [D.int IntKind.i64 4]), V.emp true], V.d (D.str (ByteArray.mk #[]).data.toList), V.d (D.int IntKind.i64 8)] [] (V.d (D.bool true)) [],
   ICall Tryd.prog 7 [] [] (V.d exC.d) [],
   s.length + 2 < 4611686018427387904,
   ICall Tryd.prog 6 [V.d exC.d, V.d (D.str (s ++ (ByteArray.mk #[46, 10]).data.toList)), V.d (D.int IntKind.i64 12)] [] (V.d (D.bool true)) [],
   (0 == 0) = true,
   (txt tN1 1 == (ByteArray.mk #[49, 10, 98, 49, 10, 49, 49, 10, 48, 48, 10, 46, 10]).data.toList) = true,
   (57 == 57) = true,
   (57 == 57) = true,
   (2 == 2) = true,
   (2 == 2) = true,
   (8 == 8) = true,
   (8 == 8) = true,
   ICall Tryd.prog 8 [] [] (V.d (D.bool true)) []]) := by kernel_rfl
end
end Go.Proofs.YtbamhlgkoimjoaaDoor.Sy.Wn
/- WitnessNames, whole. -/
namespace Go.Proofs.YtbamhlgkoimjoaaDoor.Sy.Wn
open Go Go.Proofs.YtbamhlgkoimjoaaDoor.Ab Go.Proofs.YtbamhlgkoimjoaaDoor.Sy Go.Proofs.YtbamhlgkoimjoaaDoor.Sy.Tx Go.Proofs.YtbamhlgkoimjoaaDoor.Sy.Vl Go.Proofs.YtbamhlgkoimjoaaDoor.Sy.Tc Go.Proofs.YtbamhlgkoimjoaaDoor.Sy.Wi Go.Proofs.YtbamhlgkoimjoaaDoor.Sy.Rd
set_option maxRecDepth 1000000
set_option linter.unusedVariables false
set_option linter.unusedSimpArgs false
theorem exCall : ICall Tryd.prog 7 [] [] (.d exC.d) [] := (callX_ok hO hm ex trivial).frz rfl
theorem twoCall : ICall Tryd.prog 14 [] [] (.d exT.d) [] := (callX_ok hO hm tw ⟨rfl, rfl, m100 _ (by omega)⟩).frz rfl
theorem it0 : Lib.itoa 0 = [48] := by
  rw [itoa_nn (Int.le_refl 0), Lib.decDigits, dif_pos (by decide)]; rfl
theorem it1 : Lib.itoa 1 = [49] := by
  rw [itoa_nn (by decide), Lib.decDigits, dif_pos (by decide)]; rfl
theorem exTxt : txt exT 0 = exS := by unfold txt; rw [it0]; rfl
theorem exChk : wtChk exC exT 0 = 0 := by kernel_rfl
theorem cwE : Cw exC := ⟨by decide, by decide, by decide, by decide, by decide, by decide, by decide, by decide, by decide⟩
theorem twE : Tw exT := ⟨by decide, by decide, by decide⟩
theorem tzE : Tz exT := ⟨by decide, by decide, by decide⟩
theorem alive : ICall Tryd.prog 8 [] [] (.d (.bool true)) [] := by
  have hw := Write cwE twE tzE 0 (by decide) (by decide)
  unfold wtS at hw
  rw [if_pos exChk, exChk, exTxt] at hw
  obtain ⟨q1, q2, q3⟩ := back cwE.bads exChk
  rw [exTxt] at q1 q2 q3
  have hr := read cwE exS (by decide)
  rw [if_pos q1, q2, q3] at hr
  exact callX_ok hO hm al ⟨exCall, twoCall, hw, exCall, hr, rfl, rfl, rfl, rfl, rfl, rfl, ⟨rfl, rfl⟩, rfl⟩
theorem fails {c : Ci} (h : Cw c) (s : List UInt8) (hs : s.length ≤ 10000) {e : Int} (he : rdQ c s = e) (h0 : e ≠ 0) : ICall Tryd.prog 6 [.d c.d, .d (.str s), .d (I e)] [] (.d (.bool true)) [] := by
  have hr := read h s hs
  rw [rdE_q, he, if_neg h0] at hr
  exact callX_ok hO hm (fl c e s) ⟨hr, beq_self_eq_true _, rfl, rfl⟩
theorem cwN : Cw cN := ⟨by decide, by decide, by decide, by decide, by decide, by decide, by decide, by decide, by decide⟩
theorem cwM : Cw ⟨-1, [], [], [], []⟩ := ⟨by decide, by decide, by decide, by decide, by decide, by decide, by decide, by decide, by decide⟩
theorem cw4 : Cw ⟨0, [], [], [4], []⟩ := ⟨by decide, by decide, by decide, by decide, by decide, by decide, by decide, by decide, by decide⟩
theorem twN : Tw tN := ⟨by decide, by decide, by decide⟩
theorem tzN : Tz tN := ⟨by decide, by decide, by decide⟩
theorem twN1 : Tw tN1 := ⟨by decide, by decide, by decide⟩
theorem tzN1 : Tz tN1 := ⟨by decide, by decide, by decide⟩
theorem tw0 : Tw ⟨[], []⟩ := ⟨by decide, by decide, by decide⟩
theorem tz0 : Tz ⟨[], []⟩ := ⟨by decide, by decide, by decide⟩
theorem wM : wtChk ⟨-1, [], [], [], []⟩ tN 0 = 8 := by kernel_rfl
theorem agN {f : Nat} {as2 : List V} {r : V} (h : ICall Tryd.prog f (.d cN.d :: as2) [] r []) : ICall Tryd.prog f (.agg [.d (I 2), .d (.sl (cN.lats.map Lt.d)), .emp true, .d (L cN.bads), .d (L cN.cons)] :: as2) [] r [] := ICall.agg (as1 := []) (ds := [I 2, .sl (cN.lats.map Lt.d), .sl [], L cN.bads, L cN.cons]) rfl h
theorem agM {f : Nat} {as2 : List V} {r : V} (h : ICall Tryd.prog f (.d (Ci.d ⟨-1, [], [], [], []⟩) :: as2) [] r []) : ICall Tryd.prog f (.agg [.d (I (-1)), .emp true, .emp true, .emp true, .emp true] :: as2) [] r [] := ICall.agg (as1 := []) (ds := [I (-1), .sl [], .sl [], .sl [], .sl []]) rfl h
theorem ag4 {f : Nat} {as2 : List V} {r : V} (h : ICall Tryd.prog f (.d (Ci.d ⟨0, [], [], [4], []⟩) :: as2) [] r []) : ICall Tryd.prog f (.agg [.d (I 0), .emp true, .emp true, .d (.sl [I 4]), .emp true] :: as2) [] r [] := ICall.agg (as1 := []) (ds := [I 0, .sl [], .sl [], .sl [I 4], .sl []]) rfl h
theorem ag0 {f : Nat} {a : V} {as2 : List V} {r : V} (h : ICall Tryd.prog f (a :: .d (Tr.d ⟨[], []⟩) :: as2) [] r []) : ICall Tryd.prog f (a :: .agg [.emp true, .emp true] :: as2) [] r [] := ICall.agg (as1 := [a]) (ds := [.sl [], .sl []]) rfl h
theorem bad_write {c : Ci} {t : Tr} (h : Cw c) (ht : Tw t) (hz : Tz t) (n : Int) (h0 : -9223372036854775808 ≤ n) (h1 : n ≤ 9223372036854775807) {e : Int} (he : wtChk c t n = e) (hne : e ≠ 0) : ICall Tryd.prog 4 [.d c.d, .d t.d, .d (I n)] [] (.tup [.d (.str []), .d (I e)]) [] := by
  have := Write h ht hz n h0 h1
  unfold wtS at this
  rw [he, if_neg hne] at this
  exact this
theorem loop1 (ts : List (List UInt8)) (hl : ts.length ≤ 1000) (h : ∀ s ∈ ts, rdQ cN s = 12 ∧ s.length ≤ 10000) : GoesL Tryd.prog (loopOf Tryd.prog 3 0) (Z1 ts 0) (.exit 0) (Y1 ts) := by
  have key : ∀ (d i : Nat), ts.length - i = d → i ≤ ts.length → GoesL Tryd.prog (loopOf Tryd.prog 3 0) (Z1 ts i) (.exit 0) (Y1 ts) := by
    intro d
    induction d with
    | zero =>
      intro i hd hi
      exact .stop hO hm (y2 i ts) (by simp) (decide_eq_false (by rw [List.length_map]; omega))
    | succ d ih =>
      intro i hd hi
      have hlt : i < ts.length := by omega
      obtain ⟨e, hs⟩ := h _ (mem_getD hlt)
      exact .step hO hm (y1 i ts) ⟨decide_eq_true (by rw [List.length_map]; omega), ⟨rfl, get_map D.str ts i hlt⟩, agN (fails cwN _ hs e (by decide)), rfl, wrap_succ (by omega)⟩ (ih (i + 1) (by omega) (by omega))
  exact key ts.length 0 rfl (Nat.zero_le _)
theorem loop2 (s : List UInt8) (hs : s.length ≤ 1000) : GoesL Tryd.prog (loopOf Tryd.prog 3 1) (Z2 s 0) (.exit 2) (Y2 (s ++ List.replicate 101 10)) := by
  have key : ∀ (d i : Nat), 101 - i = d → i ≤ 101 → GoesL Tryd.prog (loopOf Tryd.prog 3 1) (Z2 (s ++ List.replicate i 10) i) (.exit 2) (Y2 (s ++ List.replicate 101 10)) := by
    intro d
    induction d with
    | zero =>
      intro i hd hi
      obtain rfl : i = 101 := by omega
      exact .stop hO hm (y4 101 _) (by simp) (decide_eq_false (by decide))
    | succ d ih =>
      intro i hd hi
      have hh := ih (i + 1) (by omega) (by omega)
      rw [List.replicate_succ', ← List.append_assoc] at hh
      exact .step hO hm (y3 i _) ⟨decide_eq_true (by omega), by rw [List.length_append, List.length_replicate]; omega, wrap_succ (by omega)⟩ hh
  have := key 101 0 rfl (by omega)
  rw [show s ++ List.replicate 0 (10 : UInt8) = s by simp] at this
  exact this
theorem texts_len : ∀ s ∈ textsN, s.length ≤ 10000 := by decide
theorem tTxt : txt tN1 1 = [49, 10, 98, 49, 10, 49, 49, 10, 48, 48, 10, 46, 10] := by unfold txt; rw [it1]; rfl
theorem witnessNames : ICall Tryd.prog 3 [] [] (.d (.bool true)) [] := by
  have a1 : ICall Tryd.prog 4 [.d cN.d, .d tN1.d, .d (I 1)] [] (.tup [.d (.str (txt tN1 1)), .d (I 0)]) [] := by
    have := Write cwN twN1 tzN1 1 (by decide) (by decide)
    unfold wtS at this
    rw [wN1, if_pos rfl] at this
    exact this
  have a2 := wcheck cwN twN 0
  rw [wN2] at a2
  have a3 := wcheck cwN twN 2
  rw [wN3] at a3
  have a4 := bad_write cwN twN tzN 3 (by decide) (by decide) wN4 (by decide)
  have a5 := bad_write cwN twN tzN (-1) (by decide) (by decide) wN5 (by decide)
  have a6 := bad_write cwN tw0 tz0 9 (by decide) (by decide) wN6 (by decide)
  have a7 := bad_write cwM twN tzN 0 (by decide) (by decide) wM (by decide)
  have l1 := loop1 textsN (by decide) (fun s hs => ⟨texts_form s hs, texts_len s hs⟩)
  have l2 := loop2 [49, 10, 98, 48, 10, 48, 10] (by decide)
  have f0 := fails cwN wr0 (by decide) wr0_e (by decide)
  have f1 := fails cwN wr1 (by decide) wr1_e (by decide)
  have f2 := fails cwN wr2 (by decide) wr2_e (by decide)
  have f3 := fails cwN wr3 (by decide) wr3_e (by decide)
  have f4 := fails cwN wr4 (by decide) wr4_e (by decide)
  have f5 := fails cw4 [] (by decide) bad4_e (by decide)
  have f6 := fails (c := exW) cwE long (by decide) long_e (by decide)
  exact callX_ok hO hm (z ([49, 10, 98, 48, 10, 48, 10] ++ List.replicate 101 10)) ⟨⟨rfl, rfl, by omega, by omega⟩, agN a1, agN a2, agN a3, agN a4, agN a5, agN (ag0 a6), agM a7, l1, l2, agN f0, agN f1, agN f2, agN f3, agN f4, ag4 f5, exCall, by decide, f6, rfl, by rw [tTxt]; rfl, rfl, rfl, rfl, rfl, rfl, rfl, alive⟩
end Go.Proofs.YtbamhlgkoimjoaaDoor.Sy.Wn
/- The row of WitnessNames. -/
namespace Go.Proofs.YtbamhlgkoimjoaaDoor.witnessNames
open Go.ChangeShapes Go.WideShapes Go.ChangeAt Go.RowKit Go.Proofs.YtbamhlgkoimjoaaDoor.Ab Go.Proofs.YtbamhlgkoimjoaaDoor.Sy Go.Proofs.YtbamhlgkoimjoaaDoor.Lk Go.Proofs.YtbamhlgkoimjoaaDoor.Sy.Tc
set_option linter.unusedVariables false
theorem calls (W : World) (hG : GOk W (Old W))     :
    Calls Tryd.prog 3 #[] W (fun e W' => e = .returned (.bool true) ∧ Below W.heap.size W W') := by
  have h := Sy.Wn.witnessNames W (Old W) [] [] (srel_nil (fun _ h => h) hG) trivial
  refine h.mono fun e W' ⟨x, μ', Pr', he, _, hx, hev, _⟩ => ?_
  obtain rfl : x = .bool true := Ab.drel_bool (show Ab.DRel W' Pr' (.bool true) x from hx)
  exact ⟨he, hev.os, hev.tape, hev.output, hev.size, fun k hk => hev.block k hk (by simp [Ab.owns])⟩
set_option maxRecDepth 100000 in
theorem lifted (os : Os) (started : os.Started) (H : Type) (enc : TypeId × Value → H) :
    ReturnsInHanded {} Tryd.checked os 3 .any (fun w args => (Rows.witnessNamesSpec.pre enc Tryd.prog Tryd.f3 Rows.witnessNamesRow.domain false w args ∧ laidMetH Tryd.prog Rows.witnessNamesRow.laid w) ∧ sizedMet enc Tryd.prog Tryd.f3 (OpenSpec.ofChange Rows.witnessNamesSpec) false w args)
      (Rows.witnessNamesSpec.post enc Tryd.prog Tryd.f3 false true false false) := by
  refine returnsInHanded_of_change_and (C := Tryd.checked) (X := fun w _ => laidMetH Tryd.prog Rows.witnessNamesRow.laid w) (fun _ _ _ hh h => h.of_heap hh) own started (by kernel_rfl) Tryd.func3
    (ChangeSpec.witness_shaped (enc := enc) (C := Tryd.checked) (os := os) (X := fun w _ => laidMetH Tryd.prog Rows.witnessNamesRow.laid w) false (World.laidAll Tryd.prog os Rows.witnessNamesRow.laid) #[] 8 (World.laidAll_os _ _ _)
      (World.shaped_of_ZipB (by kernel_rfl) (by kernel_rfl)) (by kernel_rfl) (by kernel_rfl) (by kernel_rfl)
      (by rw [MakeChecks.laidMetH_plain _ _ _ (by kernel_rfl)]; exact laidMet_laidAll _ (by kernel_rfl) (by kernel_rfl))) ?_
  intro W base args ds gs before hval0 hW hcnd _ hL _
  have hval : ∀ (j : Nat) t v, Tryd.f3.params[j]? = some t → args[j]? = some v → Value.okWide Tryd.prog W .any base t v := hval0
  have hW' := hW
  obtain ⟨p, q, hA0, hV, rfl, hfz, hnd⟩ := hW
  have hA : DataW.TrodAll enc Tryd.prog W 0 (fun _ => true) true Tryd.f3.params.toList args.toList ds p := hA0
  rw [Tryd.params3] at hA hval
  obtain ⟨hargs, rfl, rfl⟩ := trodAll_nil hA
  obtain rfl : args = #[] := by cases args; simp_all
  obtain ⟨rfl, rfl⟩ := trodVars_none hV
  clear hA0 hval0
  refine (calls W (gok hL)    ).mono fun e W' ⟨he, bel⟩ => ?_
  subst he
  exact ⟨_, rfl, _, _, _, [], _, [], hW', trodAll_mk1 (shut_bool Tryd.underlying4 _), trodAll_mk0, rfl, bel.frame _, fun h => by cases h⟩
theorem over : Rows.witnessNamesRow.holds Tryd.pinned (OpenSpec.ofChange Rows.witnessNamesSpec) :=
  OpenClaim.holds_of_wide 3 Tryd.f3 rfl rfl rfl rfl rfl rfl rfl ⟨rfl, rfl, rfl, rfl, rfl⟩ rfl rfl rfl rfl rfl (by kernel_rfl) Tryd.func3 (by kernel_rfl)
    (of_decide_eq_true (by kernel_rfl)) (by unfold Func.isWrapper; first | (rw [if_pos (by decide +kernel)]; kernel_rfl) | (rw [if_neg (by decide +kernel)]; exact ⟨rfl, rfl⟩))
    (fun os started H enc _ => lifted os started H enc)
theorem card : Rows.WitnessNamesCardSaid :=
  Claim7.holds_tied_plain_at .later [] [.data, .data, .data, .data, .sentinel, .sentinel, .pinned] true (true, "9716a6cda396669117d5f87cab01e944d3b48ad22610a0363c0bf88b38e50579") true
    over (fun _ h => by cases h) (by kernel_rfl) (fun _ h => by cases h) witnessNames_row_tie rfl ⟨rfl, rfl⟩ (by kernel_rfl) rfl
    (fun f fn hf hfn => by
      obtain rfl : f = 3 := Option.some.inj ((show Tryd.prog.funcNamed "spiritlevel/spiritlevellaw11.WitnessNames" = some 3 by kernel_rfl).symm.trans hf) |>.symm
      obtain rfl : fn = Tryd.f3 := (Option.some.inj (Tryd.func3.symm.trans hfn)).symm
      exact ⟨by kernel_rfl, fun j t ht => by
        rw [Tryd.params3] at ht
        have hm : t ∈ ([] : List TypeId) := by simpa using Array.mem_of_getElem? ht
        have hall : (([] : List TypeId).all fun u => !Tryd.prog.wantsStandIn u) = true := by kernel_rfl
        exact (show Tryd.prog.wantsStandIn t = false by simpa using List.all_eq_true.1 hall t hm)⟩)
    (by kernel_rfl)
end Go.Proofs.YtbamhlgkoimjoaaDoor.witnessNames
namespace Go.Proofs.YtbamhlgkoimjoaaDoor
/-- The card, under a short name, for the claim. -/
theorem witnessNames_holds : Rows.WitnessNamesCardSaid := witnessNames.card
end Go.Proofs.YtbamhlgkoimjoaaDoor
