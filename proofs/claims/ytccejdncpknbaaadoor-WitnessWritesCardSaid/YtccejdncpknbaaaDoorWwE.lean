/- The row of WitnessWrites. -/
import Derived.Test.YtccejdncpknbaaaDoorWwD
import Derived.Lib.ItoaLen
import Derived.Test.YtccejdncpknbaaaDoorRows
import Derived.Test.YtccejdncpknbaaaDoorCards
import Derived.Test.YtccejdncpknbaaaDoorTie
import Derived.SevenTiedAt
import Derived.Stop.Joined
/- ref04, ref06.Starts: round by round. -/
namespace Go.Proofs.YtccejdncpknbaaaDoor.Sy.Rf
open Go Go.Proofs.YtccejdncpknbaaaDoor.Ab Go.Proofs.YtccejdncpknbaaaDoor.Sy Go.Proofs.YtccejdncpknbaaaDoor.Sy.Tx Go.Proofs.YtccejdncpknbaaaDoor.Sy.Vl Go.Proofs.YtccejdncpknbaaaDoor.Sy.Tc
set_option maxRecDepth 1000000
set_option linter.unusedVariables false
def Hf (c : Ci) (acc : List D) (sl : List (Nat × V)) : St := ⟨mk 44 ([(3, .ptr 0 0), (7, .arr 1)] ++ sl) [], [Bc c, .lst 4 acc]⟩
def Ha (c : Ci) (v : List Bool) (acc : List D) (sl : List (Nat × V)) : St := ⟨mk 33 ([(3, .ptr 0 0), (7, .d (BL v)), (8, .arr 1)] ++ sl) [], [Bc c, .lst 4 acc]⟩
def Fa (c : Ci) (v : List Bool) (acc : List D) : St := ⟨mk 33 [(3, .ptr 0 0), (7, .d (BL v)), (8, .d (.sl acc))] [], [Bc c, .dead]⟩
def Hh (c : Ci) (v : List Bool) (sl : List (Nat × V)) : St := ⟨mk 28 ([(3, .ptr 0 0), (7, .d (BL v))] ++ sl) [], [Bc c]⟩
def Rh (c : Ci) : St := ⟨mk 28 [(6, .d (.bool false))] [], [Bc c]⟩
def Hm (v v2 : List Bool) (sl : List (Nat × V)) : St := ⟨mk 26 ([(0, .d (BL v)), (1, .d (BL v2))] ++ sl) [], []⟩
def Rm : St := ⟨mk 26 [(4, .d (.bool false))] [], []⟩
def Hg (c : Ci) (xs : List D) (sl : List (Nat × V)) : St := ⟨mk 41 ([(1, .d (.sl xs)), (2, .ptr 0 0)] ++ sl) [], [Bc c]⟩
def Rg (c : Ci) : St := ⟨mk 41 [(4, .d (.bool false))] [], [Bc c]⟩
section
variable (c : Ci) (t : Tr) (n x l e : Int) (i j u k m : Nat) (v st inp v2 st2 : List Bool) (b b2 : Bool) (xs ys acc : List D) (ls : List (List Bool))
theorem vl1  : callX Tryd.prog wr false O 62 [.d (BL v), .d (I l)] [] [It.is (l / 2), It.el (l / 2).toNat (D.bool (v.getD (l / 2).toNat default)), It.is (l % 2), It.br true, It.br true] = some (V.d (D.bool true), [],
  [IntKind.i64.wrap (l.tdiv 2) = l / 2,
   l / 2 = (↑(l / 2).toNat : Int) ∧ (List.map D.bool v)[(l / 2).toNat]? = some (D.bool (v.getD (l / 2).toNat default)),
   l.tmod 2 = l % 2,
   (l % 2 == 1) = true,
   (!v.getD (l / 2).toNat default == true) = true]) := by kernel_rfl
theorem vl2  : callX Tryd.prog wr false O 62 [.d (BL v), .d (I l)] [] [It.is (l / 2), It.el (l / 2).toNat (D.bool (v.getD (l / 2).toNat default)), It.is (l % 2), It.br true, It.br false] = some (V.d (D.bool false), [],
  [IntKind.i64.wrap (l.tdiv 2) = l / 2,
   l / 2 = (↑(l / 2).toNat : Int) ∧ (List.map D.bool v)[(l / 2).toNat]? = some (D.bool (v.getD (l / 2).toNat default)),
   l.tmod 2 = l % 2,
   (l % 2 == 1) = true,
   (!v.getD (l / 2).toNat default == true) = false]) := by kernel_rfl
theorem vl3  : callX Tryd.prog wr false O 62 [.d (BL v), .d (I l)] [] [It.is (l / 2), It.el (l / 2).toNat (D.bool (v.getD (l / 2).toNat default)), It.is (l % 2), It.br false, It.br true] = some (V.d (D.bool true), [],
  [IntKind.i64.wrap (l.tdiv 2) = l / 2,
   l / 2 = (↑(l / 2).toNat : Int) ∧ (List.map D.bool v)[(l / 2).toNat]? = some (D.bool (v.getD (l / 2).toNat default)),
   l.tmod 2 = l % 2,
   (l % 2 == 1) = false,
   (!v.getD (l / 2).toNat default == false) = true]) := by kernel_rfl
theorem vl4  : callX Tryd.prog wr false O 62 [.d (BL v), .d (I l)] [] [It.is (l / 2), It.el (l / 2).toNat (D.bool (v.getD (l / 2).toNat default)), It.is (l % 2), It.br false, It.br false] = some (V.d (D.bool false), [],
  [IntKind.i64.wrap (l.tdiv 2) = l / 2,
   l / 2 = (↑(l / 2).toNat : Int) ∧ (List.map D.bool v)[(l / 2).toNat]? = some (D.bool (v.getD (l / 2).toNat default)),
   l.tmod 2 = l % 2,
   (l % 2 == 1) = false,
   (!v.getD (l / 2).toNat default == false) = false]) := by kernel_rfl
theorem f1 : round Tryd.prog wr false O (loopOf Tryd.prog 60 0) (Hf c acc [(8, .d (I i))]) [It.br true, It.el i (c.ands.getD i default).d, It.ret (V.d (D.bool true)), It.el i (c.ands.getD i default).d, It.ret (V.d (D.bool b2)), It.raw, It.raw, It.raw, It.is (↑(i + 1) : Int)] [3, 7, 8] 2 = some (.normal, Hf c (acc ++ [.bool b2]) [(8, .d (I (i + 1 : Nat)))],
  [decide ((↑i : Int) < (↑(List.map An.d c.ands).length : Int)) = true,
   (↑i : Int) = (↑i : Int) ∧ (List.map An.d c.ands)[i]? = some (c.ands.getD i default).d,
   ICall Tryd.prog 62 [V.d (D.sl acc), V.d (D.int IntKind.i64 (c.ands.getD i default).a)] [] (V.d (D.bool true)) [] ∧ (List.flatMap refs ([V.arr 1, V.d (I (c.ands.getD i default).a)] ++ []) = [] ∨ (V.d (D.bool true)).safe = true),
   (↑i : Int) = (↑i : Int) ∧ (List.map An.d c.ands)[i]? = some (c.ands.getD i default).d,
   ICall Tryd.prog 62 [V.d (D.sl acc), V.d (D.int IntKind.i64 (c.ands.getD i default).b)] [] (V.d (D.bool b2)) [] ∧ (List.flatMap refs ([V.arr 1, V.d (I (c.ands.getD i default).b)] ++ []) = [] ∨ (V.d (D.bool b2)).safe = true),
   acc.length + [D.bool b2].length ≤ maxItems,
   IntKind.i64.wrap ((↑i : Int) + 1) = (↑(i + 1) : Int)]) := by kernel_rfl
theorem f2 : round Tryd.prog wr false O (loopOf Tryd.prog 60 0) (Hf c acc [(8, .d (I i))]) [It.br true, It.el i (c.ands.getD i default).d, It.ret (V.d (D.bool false)), It.raw, It.raw, It.raw, It.is (↑(i + 1) : Int)] [3, 7, 8] 2 = some (.normal, Hf c (acc ++ [.bool false]) [(8, .d (I (i + 1 : Nat)))],
  [decide ((↑i : Int) < (↑(List.map An.d c.ands).length : Int)) = true,
   (↑i : Int) = (↑i : Int) ∧ (List.map An.d c.ands)[i]? = some (c.ands.getD i default).d,
   ICall Tryd.prog 62 [V.d (D.sl acc), V.d (D.int IntKind.i64 (c.ands.getD i default).a)] [] (V.d (D.bool false)) [] ∧ (List.flatMap refs ([V.arr 1, V.d (I (c.ands.getD i default).a)] ++ []) = [] ∨ (V.d (D.bool false)).safe = true),
   acc.length + 1 ≤ maxItems,
   IntKind.i64.wrap ((↑i : Int) + 1) = (↑(i + 1) : Int)]) := by kernel_rfl
theorem f3 : round Tryd.prog wr false O (loopOf Tryd.prog 60 0) (Hf c acc [(8, .d (I i))]) [It.br false] [3, 7] 2 = some (.exit 0, Hf c acc [],
  [decide ((↑i : Int) < (↑(List.map An.d c.ands).length : Int)) = false]) := by kernel_rfl
theorem fr_  : callX Tryd.prog wr false O 60 [.d c.d, .d (BL st), .d (BL inp)] [] [It.own, It.own, It.raw, It.own, It.raw, It.lp [3, 7, 8] (Ex.exit 0) (Hf c ys [])] = some (V.own 4 ys, [],
  [∀ (y : D), y ∈ List.map D.bool inp → y.cells.length = (fun x => x.size) Tryd.prog.types[4],
   1 + (List.map D.bool inp).length ≤ maxItems,
   ∀ (y : D), y ∈ List.map D.bool st → y.cells.length = (fun x => x.size) Tryd.prog.types[4],
   ([D.bool false] ++ List.map D.bool inp).length + (List.map D.bool st).length ≤ maxItems,
   GoesL Tryd.prog (loopOf Tryd.prog 60 0) (⟨mk 44 [(3, V.ptr 0 0), (7, V.arr 1), (8, V.d (D.int IntKind.i64 0))] [], [B.bx none [V.d (D.int IntKind.i64 c.ins), V.d (D.sl (List.map Lt.d c.lats)), V.d (D.sl (List.map An.d c.ands)), V.d (D.sl (List.map I c.bads)), V.d (D.sl (List.map I c.cons))], B.lst 4 ([D.bool false] ++ List.map D.bool inp ++ List.map D.bool st)]⟩) (Ex.exit 0) (Hf c ys [])]) := by kernel_rfl
theorem a1 : round Tryd.prog wr false O (loopOf Tryd.prog 89 0) (Ha c v acc [(9, .d (I i))]) [It.br true, It.el i (c.lats.getD i default).d, It.icall [] (V.d (D.bool b)) [], It.raw, It.raw, It.raw, It.is (↑(i + 1) : Int)] [3, 7, 8, 9] 2 = some (.normal, Ha c v (acc ++ [.bool b]) [(9, .d (I (i + 1 : Nat)))],
  [decide ((↑i : Int) < (↑(List.map Lt.d c.lats).length : Int)) = true,
   (↑i : Int) = (↑i : Int) ∧ (List.map Lt.d c.lats)[i]? = some (c.lats.getD i default).d,
   ICall Tryd.prog 62 [V.d (BL v), V.d (I (c.lats.getD i default).next)] [] (V.d (D.bool b)) [],
   acc.length + [D.bool b].length ≤ maxItems,
   IntKind.i64.wrap ((↑i : Int) + 1) = (↑(i + 1) : Int)]) := by kernel_rfl
theorem a2 : round Tryd.prog wr false O (loopOf Tryd.prog 89 0) (Ha c v acc [(9, .d (I i))]) [It.br false] [3, 7, 8] 2 = some (.exit 0, Ha c v acc [],
  [decide ((↑i : Int) < (↑(List.map Lt.d c.lats).length : Int)) = false]) := by kernel_rfl
theorem af  : callX Tryd.prog wr false O 89 [.d c.d, .d (BL st), .d (BL inp)] [] [It.icall [] (V.d (BL v)) [], It.lp [3, 7, 8, 9] (Ex.exit 0) (Fa c v acc)] = some (V.d (D.sl acc), [],
  [ICall Tryd.prog 60 [V.d (D.agg [I c.ins, D.sl (List.map Lt.d c.lats), D.sl (List.map An.d c.ands), L c.bads, L c.cons]), V.d (BL st), V.d (BL inp)] [] (V.d (BL v)) [],
   GoesL Tryd.prog (loopOf Tryd.prog 89 0) (⟨mk 33 [(3, V.ptr 0 0), (7, V.d (D.sl (List.map D.bool v))), (8, V.emp true), (9, V.d (D.int IntKind.i64 0))] [], [B.bx none [V.d (D.int IntKind.i64 c.ins), V.d (D.sl (List.map Lt.d c.lats)), V.d (D.sl (List.map An.d c.ands)), V.d (D.sl (List.map I c.bads)), V.d (D.sl (List.map I c.cons))]]⟩) (Ex.exit 0) (Fa c v acc)]) := by kernel_rfl
theorem h1 : round Tryd.prog wr false O (loopOf Tryd.prog 88 0) (Hh c v [(8, .d (I i))]) [It.br true, It.el i (I (c.cons.getD i default)), It.icall [] (V.d (D.bool false)) [], It.br true] [6] 1 = some (.ret, Rh c,
  [decide ((↑i : Int) < (↑(List.map I c.cons).length : Int)) = true,
   (↑i : Int) = (↑i : Int) ∧ (List.map I c.cons)[i]? = some (I (c.cons.getD i default)),
   ICall Tryd.prog 62 [V.d (BL v), V.d (I (c.cons.getD i default))] [] (V.d (D.bool false)) [],
   (!false) = true]) := by kernel_rfl
theorem h2 : round Tryd.prog wr false O (loopOf Tryd.prog 88 0) (Hh c v [(8, .d (I i))]) [It.br true, It.el i (I (c.cons.getD i default)), It.icall [] (V.d (D.bool true)) [], It.br false, It.is (↑(i + 1) : Int)] [3, 7, 8] 1 = some (.normal, Hh c v [(8, .d (I (i + 1 : Nat)))],
  [decide ((↑i : Int) < (↑(List.map I c.cons).length : Int)) = true,
   (↑i : Int) = (↑i : Int) ∧ (List.map I c.cons)[i]? = some (I (c.cons.getD i default)),
   ICall Tryd.prog 62 [V.d (BL v), V.d (I (c.cons.getD i default))] [] (V.d (D.bool true)) [],
   (!true) = false,
   IntKind.i64.wrap ((↑i : Int) + 1) = (↑(i + 1) : Int)]) := by kernel_rfl
theorem h3 : round Tryd.prog wr false O (loopOf Tryd.prog 88 0) (Hh c v [(8, .d (I i))]) [It.br false] [3, 7] 1 = some (.exit 0, Hh c v [],
  [decide ((↑i : Int) < (↑(List.map I c.cons).length : Int)) = false]) := by kernel_rfl
theorem ho0  : callX Tryd.prog wr false O 88 [.d c.d, .d (BL st), .d (BL inp)] [] [It.icall [] (V.d (BL v)) [], It.lp [3, 7, 8] Ex.ret (Rh c)] = some (V.d (D.bool false), [],
  [ICall Tryd.prog 60 [V.d (D.agg [I c.ins, D.sl (List.map Lt.d c.lats), D.sl (List.map An.d c.ands), L c.bads, L c.cons]), V.d (BL st), V.d (BL inp)] [] (V.d (BL v)) [],
   GoesL Tryd.prog (loopOf Tryd.prog 88 0) (⟨mk 28 [(3, V.ptr 0 0), (7, V.d (D.sl (List.map D.bool v))), (8, V.d (D.int IntKind.i64 0))] [], [B.bx none [V.d (D.int IntKind.i64 c.ins), V.d (D.sl (List.map Lt.d c.lats)), V.d (D.sl (List.map An.d c.ands)), V.d (D.sl (List.map I c.bads)), V.d (D.sl (List.map I c.cons))]]⟩) (Ex.ret) (Rh c)]) := by kernel_rfl
theorem ho1  : callX Tryd.prog wr false O 88 [.d c.d, .d (BL st), .d (BL inp)] [] [It.icall [] (V.d (BL v)) [], It.lp [3, 7, 8] (Ex.exit 0) (Hh c v [])] = some (V.d (D.bool true), [],
  [ICall Tryd.prog 60 [V.d (D.agg [I c.ins, D.sl (List.map Lt.d c.lats), D.sl (List.map An.d c.ands), L c.bads, L c.cons]), V.d (BL st), V.d (BL inp)] [] (V.d (BL v)) [],
   GoesL Tryd.prog (loopOf Tryd.prog 88 0) (⟨mk 28 [(3, V.ptr 0 0), (7, V.d (D.sl (List.map D.bool v))), (8, V.d (D.int IntKind.i64 0))] [], [B.bx none [V.d (D.int IntKind.i64 c.ins), V.d (D.sl (List.map Lt.d c.lats)), V.d (D.sl (List.map An.d c.ands)), V.d (D.sl (List.map I c.bads)), V.d (D.sl (List.map I c.cons))]]⟩) (Ex.exit 0) (Hh c v [])]) := by kernel_rfl
theorem m1 : round Tryd.prog wr false O (loopOf Tryd.prog 28 0) (Hm v v2 [(5, .d (I i))]) [It.br true, It.el i (D.bool (v.getD i default)), It.el i (D.bool (v2.getD i default)), It.br true] [4] 0 = some (.ret, Rm,
  [decide ((↑i : Int) < (↑(List.map D.bool v).length : Int)) = true,
   (↑i : Int) = (↑i : Int) ∧ (List.map D.bool v)[i]? = some (D.bool (v.getD i default)),
   (↑i : Int) = (↑i : Int) ∧ (List.map D.bool v2)[i]? = some (D.bool (v2.getD i default)),
   (!v.getD i default == v2.getD i default) = true]) := by kernel_rfl
theorem m2 : round Tryd.prog wr false O (loopOf Tryd.prog 28 0) (Hm v v2 [(5, .d (I i))]) [It.br true, It.el i (D.bool (v.getD i default)), It.el i (D.bool (v2.getD i default)), It.br false, It.is (↑(i + 1) : Int)] [0, 1, 5] 0 = some (.normal, Hm v v2 [(5, .d (I (i + 1 : Nat)))],
  [decide ((↑i : Int) < (↑(List.map D.bool v).length : Int)) = true,
   (↑i : Int) = (↑i : Int) ∧ (List.map D.bool v)[i]? = some (D.bool (v.getD i default)),
   (↑i : Int) = (↑i : Int) ∧ (List.map D.bool v2)[i]? = some (D.bool (v2.getD i default)),
   (!v.getD i default == v2.getD i default) = false,
   IntKind.i64.wrap ((↑i : Int) + 1) = (↑(i + 1) : Int)]) := by kernel_rfl
theorem m3 : round Tryd.prog wr false O (loopOf Tryd.prog 28 0) (Hm v v2 [(5, .d (I i))]) [It.br false] [0, 1] 0 = some (.exit 0, Hm v v2 [],
  [decide ((↑i : Int) < (↑(List.map D.bool v).length : Int)) = false]) := by kernel_rfl
theorem sm0  : callX Tryd.prog wr false O 28 [.d (BL v), .d (BL v2)] [] [It.br true] = some (V.d (D.bool false), [],
  [((↑(List.map D.bool v).length : Int) != (↑(List.map D.bool v2).length : Int)) = true]) := by kernel_rfl
theorem sm1  : callX Tryd.prog wr false O 28 [.d (BL v), .d (BL v2)] [] [It.br false, It.lp [0, 1, 5] Ex.ret Rm] = some (V.d (D.bool false), [],
  [((↑(List.map D.bool v).length : Int) != (↑(List.map D.bool v2).length : Int)) = false,
   GoesL Tryd.prog (loopOf Tryd.prog 28 0) (⟨mk 26 [(0, V.d (D.sl (List.map D.bool v))), (1, V.d (D.sl (List.map D.bool v2))), (5, V.d (D.int IntKind.i64 0))] [], []⟩) (Ex.ret) (Rm)]) := by kernel_rfl
theorem sm2  : callX Tryd.prog wr false O 28 [.d (BL v), .d (BL v2)] [] [It.br false, It.lp [0, 1, 5] (Ex.exit 0) (Hm v v2 [])] = some (V.d (D.bool true), [],
  [((↑(List.map D.bool v).length : Int) != (↑(List.map D.bool v2).length : Int)) = false,
   GoesL Tryd.prog (loopOf Tryd.prog 28 0) (⟨mk 26 [(0, V.d (D.sl (List.map D.bool v))), (1, V.d (D.sl (List.map D.bool v2))), (5, V.d (D.int IntKind.i64 0))] [], []⟩) (Ex.exit 0) (Hm v v2 [])]) := by kernel_rfl
theorem s1 : round Tryd.prog wr false O (loopOf Tryd.prog 58 0) (Hg c xs [(5, .d (I i))]) [It.br true, It.el i (D.bool true), It.el i (c.lats.getD i default).d, It.br true] [4] 1 = some (.ret, Rg c,
  [decide ((↑i : Int) < (↑xs.length : Int)) = true,
   (↑i : Int) = (↑i : Int) ∧ xs[i]? = some (D.bool true),
   (↑i : Int) = (↑i : Int) ∧ (List.map Lt.d c.lats)[i]? = some (c.lats.getD i default).d,
   ((c.lats.getD i default).reset == 0) = true]) := by kernel_rfl
theorem s2 : round Tryd.prog wr false O (loopOf Tryd.prog 58 0) (Hg c xs [(5, .d (I i))]) [It.br true, It.el i (D.bool true), It.el i (c.lats.getD i default).d, It.br false, It.el i (D.bool true), It.br false, It.is (↑(i + 1) : Int)] [1, 2, 5] 1 = some (.normal, Hg c xs [(5, .d (I (i + 1 : Nat)))],
  [decide ((↑i : Int) < (↑xs.length : Int)) = true,
   (↑i : Int) = (↑i : Int) ∧ xs[i]? = some (D.bool true),
   (↑i : Int) = (↑i : Int) ∧ (List.map Lt.d c.lats)[i]? = some (c.lats.getD i default).d,
   ((c.lats.getD i default).reset == 0) = false,
   (↑i : Int) = (↑i : Int) ∧ xs[i]? = some (D.bool true),
   (!true) = false,
   IntKind.i64.wrap ((↑i : Int) + 1) = (↑(i + 1) : Int)]) := by kernel_rfl
theorem s3 : round Tryd.prog wr false O (loopOf Tryd.prog 58 0) (Hg c xs [(5, .d (I i))]) [It.br true, It.el i (D.bool false), It.el i (D.bool false), It.br true, It.el i (c.lats.getD i default).d, It.br true] [4] 1 = some (.ret, Rg c,
  [decide ((↑i : Int) < (↑xs.length : Int)) = true,
   (↑i : Int) = (↑i : Int) ∧ xs[i]? = some (D.bool false),
   (↑i : Int) = (↑i : Int) ∧ xs[i]? = some (D.bool false),
   (!false) = true,
   (↑i : Int) = (↑i : Int) ∧ (List.map Lt.d c.lats)[i]? = some (c.lats.getD i default).d,
   ((c.lats.getD i default).reset == 1) = true]) := by kernel_rfl
theorem s4 : round Tryd.prog wr false O (loopOf Tryd.prog 58 0) (Hg c xs [(5, .d (I i))]) [It.br true, It.el i (D.bool false), It.el i (D.bool false), It.br true, It.el i (c.lats.getD i default).d, It.br false, It.is (↑(i + 1) : Int)] [1, 2, 5] 1 = some (.normal, Hg c xs [(5, .d (I (i + 1 : Nat)))],
  [decide ((↑i : Int) < (↑xs.length : Int)) = true,
   (↑i : Int) = (↑i : Int) ∧ xs[i]? = some (D.bool false),
   (↑i : Int) = (↑i : Int) ∧ xs[i]? = some (D.bool false),
   (!false) = true,
   (↑i : Int) = (↑i : Int) ∧ (List.map Lt.d c.lats)[i]? = some (c.lats.getD i default).d,
   ((c.lats.getD i default).reset == 1) = false,
   IntKind.i64.wrap ((↑i : Int) + 1) = (↑(i + 1) : Int)]) := by kernel_rfl
theorem s5 : round Tryd.prog wr false O (loopOf Tryd.prog 58 0) (Hg c xs [(5, .d (I i))]) [It.br false] [1, 2] 1 = some (.exit 0, Hg c xs [],
  [decide ((↑i : Int) < (↑xs.length : Int)) = false]) := by kernel_rfl
theorem st0  : callX Tryd.prog wr false O 58 [.d c.d, .d (.sl xs)] [] [It.lp [1, 2, 5] Ex.ret (Rg c)] = some (V.d (D.bool false), [],
  [GoesL Tryd.prog (loopOf Tryd.prog 58 0) (⟨mk 41 [(1, V.d (D.sl xs)), (2, V.ptr 0 0), (5, V.d (D.int IntKind.i64 0))] [], [B.bx none [V.d (D.int IntKind.i64 c.ins), V.d (D.sl (List.map Lt.d c.lats)), V.d (D.sl (List.map An.d c.ands)), V.d (D.sl (List.map I c.bads)), V.d (D.sl (List.map I c.cons))]]⟩) (Ex.ret) (Rg c)]) := by kernel_rfl
theorem st1  : callX Tryd.prog wr false O 58 [.d c.d, .d (.sl xs)] [] [It.lp [1, 2, 5] (Ex.exit 0) (Hg c xs [])] = some (V.d (D.bool true), [],
  [GoesL Tryd.prog (loopOf Tryd.prog 58 0) (⟨mk 41 [(1, V.d (D.sl xs)), (2, V.ptr 0 0), (5, V.d (D.int IntKind.i64 0))] [], [B.bx none [V.d (D.int IntKind.i64 c.ins), V.d (D.sl (List.map Lt.d c.lats)), V.d (D.sl (List.map An.d c.ands)), V.d (D.sl (List.map I c.bads)), V.d (D.sl (List.map I c.cons))]]⟩) (Ex.exit 0) (Hg c xs [])]) := by kernel_rfl
end
end Go.Proofs.YtccejdncpknbaaaDoor.Sy.Rf
/- ref04, ref06.Starts, whole. -/
namespace Go.Proofs.YtccejdncpknbaaaDoor.Sy.Rf
open Go Go.Proofs.YtccejdncpknbaaaDoor.Ab Go.Proofs.YtccejdncpknbaaaDoor.Sy Go.Proofs.YtccejdncpknbaaaDoor.Sy.Tx Go.Proofs.YtccejdncpknbaaaDoor.Sy.Vl Go.Proofs.YtccejdncpknbaaaDoor.Sy.Tc
set_option maxRecDepth 1000000
set_option linter.unusedVariables false
set_option linter.unusedSimpArgs false
theorem value {v : List Bool} {l : Int} (h0 : 0 ≤ l) (h1 : l / 2 < v.length) (h2 : v.length ≤ 1000000) : ICall Tryd.prog 62 [.d (BL v), .d (I l)] [] (.d (.bool (val v l))) [] := by
  have hi : (l / 2).toNat < v.length := by omega
  have k1 : IntKind.i64.wrap (l.tdiv 2) = l / 2 := quo (by omega) (by omega)
  have k2 : l / 2 = ((l / 2).toNat : Int) ∧ (v.map D.bool)[(l / 2).toNat]? = some (D.bool (v.getD (l / 2).toNat default)) := ⟨by omega, get_map D.bool v _ hi⟩
  have k3 : l.tmod 2 = l % 2 := Int.tmod_eq_emod_of_nonneg h0
  have hv : val v l = !((v.getD (l / 2).toNat default) == (l % 2 == 1)) := rfl
  rw [hv]
  cases c1 : (l % 2 == 1) with
  | true =>
    cases c2 : (!v.getD (l / 2).toNat default == true) with
    | true => exact callX_ok hO hm (vl1 l v) ⟨k1, k2, k3, c1, c2⟩
    | false => exact callX_ok hO hm (vl2 l v) ⟨k1, k2, k3, c1, c2⟩
  | false =>
    cases c2 : (!v.getD (l / 2).toNat default == false) with
    | true => exact callX_ok hO hm (vl3 l v) ⟨k1, k2, k3, c1, c2⟩
    | false => exact callX_ok hO hm (vl4 l v) ⟨k1, k2, k3, c1, c2⟩
section
variable {c : Ci} {st inp : List Bool} (hg : Gd c) (hs : st.length = c.lats.length) (hi : (inp.length : Int) = c.ins)
include hg hs hi
theorem frame_loop : GoesL Tryd.prog (loopOf Tryd.prog 60 0) (Hf c ((fr c st inp 0).map D.bool) [(8, .d (I (0 : Nat)))]) (.exit 0) (Hf c ((frame c st inp).map D.bool) []) := by
  have key : ∀ (d i : Nat), c.ands.length - i = d → i ≤ c.ands.length →
      GoesL Tryd.prog (loopOf Tryd.prog 60 0) (Hf c ((fr c st inp i).map D.bool) [(8, .d (I i))]) (.exit 0) (Hf c ((frame c st inp).map D.bool) []) := by
    have hz := hg.sz
    have hin := hg.ins
    intro d
    induction d with
    | zero =>
      intro i hd hle
      obtain rfl : i = c.ands.length := by omega
      have e : fr c st inp c.ands.length = frame c st inp := by unfold fr frame; simp
      rw [e]
      exact .stop hO hm (f3 c c.ands.length _) (by simp) (decide_eq_false (by rw [List.length_map]; omega))
    | succ d ih =>
      intro i hd hle
      have hlt : i < c.ands.length := by omega
      have hA := hg.ands i hlt
      have eg : c.ands.getD i default = c.ands[i] := by rw [List.getD_eq_getElem?_getD, List.getElem?_eq_getElem hlt]; rfl
      rw [← eg] at hA
      have hfl := fr_len (c := c) (st := st) (inp := inp) i (by omega)
      have oa := value (v := fr c st inp i) (l := (c.ands.getD i default).a) (by omega) (by omega) (by omega)
      have ob := value (v := fr c st inp i) (l := (c.ands.getD i default).b) (by omega) (by omega) (by omega)
      have ih' := ih (i + 1) (by omega) (by omega)
      have q0 : decide ((i : Int) < (((c.ands.map An.d).length : Nat) : Int)) = true := decide_eq_true (by rw [List.length_map]; omega)
      have gm := get_map An.d c.ands i hlt
      have er := fr_succ (c := c) (st := st) (inp := inp) i hlt
      have hm1 : ((fr c st inp i).map D.bool).length + 1 ≤ maxItems := Nat.le_trans (show _ ≤ 2000 by rw [List.length_map, hfl]; omega) (by decide)
      cases ca : val (fr c st inp i) (c.ands.getD i default).a with
      | true =>
        rw [ca] at oa
        refine .step hO hm (f1 c i (val (fr c st inp i) (c.ands.getD i default).b) _) ⟨q0, ⟨rfl, gm⟩, ⟨oa, .inr rfl⟩, ⟨rfl, gm⟩, ⟨ob, .inr rfl⟩, hm1, wrap_succ (by omega)⟩ ?_
        rw [er, ca, Bool.true_and, List.map_append] at ih'
        exact ih'
      | false =>
        rw [ca] at oa
        refine .step hO hm (f2 c i _) ⟨q0, ⟨rfl, gm⟩, ⟨oa, .inr rfl⟩, hm1, wrap_succ (by omega)⟩ ?_
        rw [er, ca, Bool.false_and, List.map_append] at ih'
        exact ih'
  exact key c.ands.length 0 rfl (Nat.zero_le _)
theorem frameR : ICall Tryd.prog 60 [.d c.d, .d (BL st), .d (BL inp)] [] (.d (BL (frame c st inp))) [] := by
  have hz := hg.sz
  have hin := hg.ins
  have hl := frame_loop hg hs hi
  have e : (fr c st inp 0).map D.bool = [D.bool false] ++ inp.map D.bool ++ st.map D.bool := by unfold fr; simp [frameL]
  rw [e] at hl
  have m5 : ∀ a : Nat, a ≤ 5000 → a ≤ maxItems := fun a h => Nat.le_trans h (by decide)
  have := callX_ok hO hm (fr_ c st inp ((frame c st inp).map D.bool)) ⟨szB inp, m5 _ (by rw [List.length_map]; omega), szB st, m5 _ (by simp; omega), hl⟩
  exact this.frz rfl
theorem after_loop : GoesL Tryd.prog (loopOf Tryd.prog 89 0) (⟨mk 33 [(3, .ptr 0 0), (7, .d (BL (frame c st inp))), (8, .emp true), (9, .d (I 0))] [], [Bc c]⟩) (.exit 0) (Fa c (frame c st inp) (c.lats.map fun l => .bool (val (frame c st inp) l.next))) := by
  have hz := hg.sz
  have hin := hg.ins
  have hfl := frame_len c st inp
  have ad : adoptS 8 4 (⟨mk 33 [(3, .ptr 0 0), (7, .d (BL (frame c st inp))), (8, .emp true), (9, .d (I 0))] [], [Bc c]⟩ : St) = Ha c (frame c st inp) [] [(9, .d (I 0))] := by kernel_rfl
  have fz : ∀ acc, Ab.freeze 1 (Ha c (frame c st inp) acc []) = Fa c (frame c st inp) acc := fun acc => by kernel_rfl
  refine GoesL.adoptS (j := 8) (t := 4) yB ?_
  rw [ad]
  refine acc_loop (k := loopOf Tryd.prog 89 0) c.lats (fun i acc => Ha c (frame c st inp) acc [(9, .d (I i))]) (.exit 0) (fun acc => Fa c (frame c st inp) acc) (fun l => .bool (val (frame c st inp) l.next)) (fun i acc hlt ha e s hh => ?_) (fun acc ha => ?_)
  · have hm2 := hg.lats _ (mem_getD hlt)
    exact .step hO hm (a1 c i (frame c st inp) (val (frame c st inp) (c.lats.getD i default).next) acc) ⟨decide_eq_true (by rw [List.length_map]; omega), ⟨rfl, get_map Lt.d c.lats i hlt⟩, value (by omega) (by omega) (by omega), Nat.le_trans (show _ ≤ 2000 by simp; omega) (by decide), wrap_succ (by omega)⟩ hh
  · have := (GoesL.stop hO hm (a2 c c.lats.length (frame c st inp) acc) (by simp) (decide_eq_false (by rw [List.length_map]; omega))).frz 1
    rw [fz] at this
    exact this
theorem after : ICall Tryd.prog 89 [.d c.d, .d (BL st), .d (BL inp)] [] (.d (BL (nextS c st inp))) [] := by
  have hl := after_loop hg hs hi
  have hf := frameR hg hs hi
  have l := af c (frame c st inp) st inp (c.lats.map fun l => .bool (val (frame c st inp) l.next))
  have := callX_ok hO hm l ⟨hf, hl⟩
  have e : BL (nextS c st inp) = D.sl (c.lats.map fun l => .bool (val (frame c st inp) l.next)) := by unfold BL nextS; rw [List.map_map]; rfl
  rw [e]
  exact this
theorem holds : ICall Tryd.prog 88 [.d c.d, .d (BL st), .d (BL inp)] [] (.d (.bool (holdsS c st inp))) [] := by
  have hz := hg.sz
  have hin := hg.ins
  have h1 := hg.c100
  have hfl := frame_len c st inp
  have hf := frameR hg hs hi
  have key := any_loop (c := loopOf Tryd.prog 88 0) c.cons (fun i => Hh c (frame c st inp) [(8, .d (I i))]) .ret (.exit 0) (Rh c) (Hh c (frame c st inp) []) (fun x => !val (frame c st inp) x)
    (fun i hlt hb => by
      have hm2 := hg.cons _ (mem_getD hlt)
      have hv := value (v := frame c st inp) (l := c.cons.getD i default) (by omega) (by omega) (by omega)
      rw [Bool.not_eq_true'] at hb
      rw [hb] at hv
      exact .stop hO hm (Rf.h1 c i (frame c st inp)) (by simp) ⟨decide_eq_true (by rw [List.length_map]; omega), ⟨rfl, get_map I c.cons i hlt⟩, hv, rfl⟩)
    (fun i hlt hb e s hh => by
      have hm2 := hg.cons _ (mem_getD hlt)
      have hv := value (v := frame c st inp) (l := c.cons.getD i default) (by omega) (by omega) (by omega)
      rw [Bool.not_eq_false'] at hb
      rw [hb] at hv
      exact .step hO hm (h2 c i (frame c st inp)) ⟨decide_eq_true (by rw [List.length_map]; omega), ⟨rfl, get_map I c.cons i hlt⟩, hv, rfl, wrap_succ (by omega)⟩ hh)
    (.stop hO hm (h3 c c.cons.length (frame c st inp)) (by simp) (decide_eq_false (by rw [List.length_map]; omega))) c.cons.length 0 rfl (Nat.zero_le _)
  rw [List.drop_zero] at key
  have e : holdsS c st inp = !c.cons.any (fun x => !val (frame c st inp) x) := by unfold holdsS; rw [List.all_eq_not_any_not]
  rw [e]
  cases hh : c.cons.any (fun x => !val (frame c st inp) x) with
  | true => exact callX_ok hO hm (ho0 c (frame c st inp) st inp) ⟨hf, key.1 hh⟩
  | false => exact callX_ok hO hm (ho1 c (frame c st inp) st inp) ⟨hf, key.2 hh⟩
end
theorem same (v w : List Bool) (h1 : v.length ≤ 1000000) (h2 : w.length ≤ 1000000) : ICall Tryd.prog 28 [.d (BL v), .d (BL w)] [] (.d (.bool (decide (v = w)))) [] := by
  by_cases c0 : v.length ≠ w.length
  · rw [decide_eq_false (fun e => c0 (by rw [e]))]
    exact callX_ok hO hm (sm0 v w) (bne_iff_ne.2 (fun hh => c0 (by rw [List.length_map, List.length_map] at hh; omega)))
  have c0 := Decidable.not_not.1 c0
  have d0 : ((((v.map D.bool).length : Nat) : Int) != (((w.map D.bool).length : Nat) : Int)) = false := by rw [List.length_map, List.length_map, c0]; simp
  have key := any_ix (c := loopOf Tryd.prog 28 0) v (fun i => Hm v w [(5, .d (I i))]) .ret (.exit 0) Rm (Hm v w []) (fun i b => !(b == w.getD i default))
    (fun i hi hb => .stop hO hm (m1 i v w) (by simp) ⟨decide_eq_true (by rw [List.length_map]; omega), ⟨rfl, get_map D.bool v i hi⟩, ⟨rfl, get_map D.bool w i (by omega)⟩, hb⟩)
    (fun i hi hb e s hh => .step hO hm (m2 i v w) ⟨decide_eq_true (by rw [List.length_map]; omega), ⟨rfl, get_map D.bool v i hi⟩, ⟨rfl, get_map D.bool w i (by omega)⟩, hb, wrap_succ (by omega)⟩ hh)
    (.stop hO hm (m3 v.length v w) (by simp) (decide_eq_false (by rw [List.length_map]; omega))) v.length 0 rfl (Nat.zero_le _)
  rw [List.drop_zero] at key
  cases hh : anyIx (fun i b => !(b == w.getD i default)) v 0 with
  | true =>
    have hne : v ≠ w := by
      intro e
      have : ∀ (l : List Bool) (i : Nat), (∀ j, j < l.length → l.getD j default = w.getD (i + j) default) → anyIx (fun i b => !(b == w.getD i default)) l i = false := by
        intro l
        induction l with
        | nil => intro i _; rfl
        | cons x r ih =>
          intro i hl
          rw [anyIx, ih (i + 1) (fun j hj => by have := hl (j + 1) (by simpa using hj); rw [List.getD_cons_succ] at this; rw [this]; congr 1; omega)]
          have := hl 0 (by simp)
          rw [List.getD_cons_zero] at this
          rw [this]; simp
      have := this v 0 (fun j _ => by rw [e, Nat.zero_add])
      rw [hh] at this; cases this
    rw [decide_eq_false hne]
    exact callX_ok hO hm (sm1 v w) ⟨d0, key.1 hh⟩
  | false =>
    have he : v = w := by
      refine List.ext_getElem c0 fun j h1 h2 => ?_
      have := anyIx_at (fun i b => !(b == w.getD i default)) v 0 hh j h1
      simp only [Nat.zero_add, Bool.not_eq_false', beq_iff_eq] at this
      rw [this, List.getD_eq_getElem?_getD, List.getElem?_eq_getElem h2]; rfl
    rw [decide_eq_true he]
    exact callX_ok hO hm (sm2 v w) ⟨d0, key.2 hh⟩
theorem startsR {c : Ci} {st : List Bool} (hg : Gd c) (hs : st.length = c.lats.length) : ICall Tryd.prog 58 [.d c.d, .d (BL st)] [] (.d (.bool (!noStart c st))) [] := by
  have hz := hg.sz
  have hin := hg.ins
  have key := any_ix (c := loopOf Tryd.prog 58 0) c.lats (fun i => Hg c (st.map D.bool) [(5, .d (I i))]) .ret (.exit 0) (Rg c) (Hg c (st.map D.bool) []) (fun i l => badSt l (st.getD i default))
    (fun i hi hb => by
      have hr := hg.res _ (mem_getD hi)
      have q0 : decide ((i : Int) < (((st.map D.bool).length : Nat) : Int)) = true := decide_eq_true (by rw [List.length_map]; omega)
      have gm := get_map Lt.d c.lats i hi
      have gs := get_map D.bool st i (by omega)
      unfold badSt at hb
      rw [Bool.and_eq_true, bne_iff_ne] at hb
      obtain ⟨hb1, hb2⟩ := hb
      cases hst : st.getD i default with
      | true =>
        rw [hst] at gs hb2
        have : (c.lats.getD i default).reset ≠ 1 := by intro e; rw [e] at hb2; revert hb2; decide
        exact .stop hO hm (s1 c i _) (by simp) ⟨q0, ⟨rfl, gs⟩, ⟨rfl, gm⟩, beq_iff_eq.2 (by omega)⟩
      | false =>
        rw [hst] at gs hb2
        have : (c.lats.getD i default).reset = 1 := by
          cases e : ((c.lats.getD i default).reset == 1) with
          | true => exact beq_iff_eq.1 e
          | false => rw [e] at hb2; exact absurd hb2 (by decide)
        exact .stop hO hm (s3 c i _) (by simp) ⟨q0, ⟨rfl, gs⟩, ⟨rfl, gs⟩, rfl, ⟨rfl, gm⟩, beq_iff_eq.2 this⟩)
    (fun i hi hb e s h => by
      have hr := hg.res _ (mem_getD hi)
      have q0 : decide ((i : Int) < (((st.map D.bool).length : Nat) : Int)) = true := decide_eq_true (by rw [List.length_map]; omega)
      have gm := get_map Lt.d c.lats i hi
      have gs := get_map D.bool st i (by omega)
      unfold badSt at hb
      cases hst : st.getD i default with
      | true =>
        rw [hst] at gs hb
        have : (c.lats.getD i default).reset ≠ 0 := by intro e; rw [e] at hb; revert hb; decide
        exact .step hO hm (s2 c i _) ⟨q0, ⟨rfl, gs⟩, ⟨rfl, gm⟩, beq_eq_false_iff_ne.2 this, ⟨rfl, gs⟩, rfl, wrap_succ (by omega)⟩ h
      | false =>
        rw [hst] at gs hb
        have : (c.lats.getD i default).reset ≠ 1 := by intro e; rw [e] at hb; revert hb; decide
        exact .step hO hm (s4 c i _) ⟨q0, ⟨rfl, gs⟩, ⟨rfl, gs⟩, rfl, ⟨rfl, gm⟩, beq_eq_false_iff_ne.2 this, wrap_succ (by omega)⟩ h)
    (.stop hO hm (s5 c c.lats.length _) (by simp) (decide_eq_false (by rw [List.length_map]; omega))) c.lats.length 0 rfl (Nat.zero_le _)
  rw [List.drop_zero] at key
  unfold noStart
  cases h : anyIx (fun i l => badSt l (st.getD i default)) c.lats 0 with
  | true => exact callX_ok hO hm (st0 c _) (key.1 h)
  | false => exact callX_ok hO hm (st1 c _) (key.2 h)
end Go.Proofs.YtccejdncpknbaaaDoor.Sy.Rf
/- ref06: round by round. -/
namespace Go.Proofs.YtccejdncpknbaaaDoor.Sy.Rf
open Go Go.Proofs.YtccejdncpknbaaaDoor.Ab Go.Proofs.YtccejdncpknbaaaDoor.Sy Go.Proofs.YtccejdncpknbaaaDoor.Sy.Tx Go.Proofs.YtccejdncpknbaaaDoor.Sy.Vl Go.Proofs.YtccejdncpknbaaaDoor.Sy.Tc
set_option maxRecDepth 1000000
set_option linter.unusedVariables false
def Hl (c : Ci) (t : Tr) (acc : List D) (sl : List (Nat × V)) : St := ⟨mk 35 ([(2, .ptr 0 0), (3, .ptr 1 0), (5, .arr 2)] ++ sl) [], [Bc c, Bt t, .lst 27 acc]⟩
def Hp (c : Ci) (t : Tr) (ss : List (List Bool)) (sl : List (Nat × V)) : St := ⟨mk 31 ([(2, .ptr 0 0), (3, .ptr 1 0), (5, .d (.sl (ss.map BL)))] ++ sl) [], [Bc c, Bt t]⟩
def Rp (c : Ci) (t : Tr) (x : Int) : St := ⟨mk 31 [(4, .d (I x))] [], [Bc c, Bt t]⟩
def B00 : B := .box [.emp true, .emp true]
def Hu (t : Tr) (acc : List D) (sl : List (Nat × V)) : St := ⟨mk 30 ([(1, .ptr 0 0), (2, .ptr 1 0), (3, .ptr 2 0)] ++ sl) [], [Bt t, B00, .box [.d (BL t.first), .arr 3], .lst 27 acc]⟩
def Ho (ls l2 : List (List Bool)) (sl : List (Nat × V)) : St := ⟨mk 27 ([(0, .d (.sl (ls.map BL))), (1, .d (.sl (l2.map BL)))] ++ sl) [], []⟩
def Ro : St := ⟨mk 27 [(4, .d (.bool false))] [], []⟩
section
variable (c : Ci) (t t2 : Tr) (n x l e : Int) (i j u k m : Nat) (v st inp v2 st2 : List Bool) (b b2 : Bool) (xs ys acc : List D) (ls l2 ss : List (List Bool))
theorem l1 : round Tryd.prog wr false O (loopOf Tryd.prog 61 0) (Hl c t acc [(6, .d (I i))]) [It.is (↑(i + 1) : Int), It.br true, It.ix i, It.el i (BL v), It.el i (BL (t.ins.getD i default)), It.icall [] (V.d (BL v2)) [], It.raw, It.raw, It.raw, It.is (↑(i + 1) : Int)] [2, 3, 5, 6] 3 = some (.normal, Hl c t (acc ++ [BL v2]) [(6, .d (I (i + 1 : Nat)))],
  [IntKind.i64.wrap ((↑i : Int) + 1) = (↑(i + 1) : Int),
   decide ((↑(i + 1) : Int) < (↑(List.map BL t.ins).length : Int)) = true,
   (↑i : Int) = (↑i : Int) ∧ i < acc.length,
   acc[i]? = some (BL v),
   (↑i : Int) = (↑i : Int) ∧ (List.map BL t.ins)[i]? = some (BL (t.ins.getD i default)),
   ICall Tryd.prog 89 [V.d (D.agg [I c.ins, D.sl (List.map Lt.d c.lats), D.sl (List.map An.d c.ands), L c.bads, L c.cons]), V.d (BL v), V.d (BL (t.ins.getD i default))] [] (V.d (BL v2)) [],
   acc.length + [BL v2].length ≤ maxItems,
   IntKind.i64.wrap ((↑i : Int) + 1) = (↑(i + 1) : Int)]) := by kernel_rfl
theorem l2_ : round Tryd.prog wr false O (loopOf Tryd.prog 61 0) (Hl c t acc [(6, .d (I i))]) [It.is (↑(i + 1) : Int), It.br false] [2, 3, 5] 3 = some (.exit 0, Hl c t acc [],
  [IntKind.i64.wrap ((↑i : Int) + 1) = (↑(i + 1) : Int),
   decide ((↑(i + 1) : Int) < (↑(List.map BL t.ins).length : Int)) = false]) := by kernel_rfl
theorem al  : callX Tryd.prog wr false O 61 [.d c.d, .d t.d] [] [It.raw, It.own, It.ls [], It.own, It.lp [2, 3, 5, 6] (Ex.exit 0) (Hl c t ys [])] = some (V.own 27 ys, [],
  [∀ (y : D), y ∈ List.map D.bool t.first → y.cells.length = (fun x => x.size) Tryd.prog.types[4],
   (List.map D.bool t.first).length ≤ maxItems,
   GoesL Tryd.prog (loopOf Tryd.prog 61 0) (⟨mk 35 [(2, V.ptr 0 0), (3, V.ptr 1 0), (5, V.arr 2), (6, V.d (D.int IntKind.i64 0))] [], [B.bx none [V.d (D.int IntKind.i64 c.ins), V.d (D.sl (List.map Lt.d c.lats)), V.d (D.sl (List.map An.d c.ands)), V.d (D.sl (List.map I c.bads)), V.d (D.sl (List.map I c.cons))], B.bx none [V.d (D.sl (List.map D.bool t.first)), V.d (D.sl (List.map BL t.ins))], B.lst 27 [D.sl (List.map D.bool t.first)]]⟩) (Ex.exit 0) (Hl c t ys [])]) := by kernel_rfl
theorem p1 : round Tryd.prog wr false O (loopOf Tryd.prog 59 0) (Hp c t ss [(6, .d (I i))]) [It.br true, It.el i (BL (ss.getD i default)), It.el i (BL (t.ins.getD i default)), It.icall [] (V.d (D.bool false)) [], It.br true] [4] 2 = some (.ret, Rp c t i,
  [decide ((↑i : Int) < (↑(List.map BL ss).length : Int)) = true,
   (↑i : Int) = (↑i : Int) ∧ (List.map BL ss)[i]? = some (BL (ss.getD i default)),
   (↑i : Int) = (↑i : Int) ∧ (List.map BL t.ins)[i]? = some (BL (t.ins.getD i default)),
   ICall Tryd.prog 88 [V.d (D.agg [I c.ins, D.sl (List.map Lt.d c.lats), D.sl (List.map An.d c.ands), L c.bads, L c.cons]), V.d (BL (ss.getD i default)), V.d (BL (t.ins.getD i default))] [] (V.d (D.bool false)) [],
   (!false) = true]) := by kernel_rfl
theorem p2 : round Tryd.prog wr false O (loopOf Tryd.prog 59 0) (Hp c t ss [(6, .d (I i))]) [It.br true, It.el i (BL (ss.getD i default)), It.el i (BL (t.ins.getD i default)), It.icall [] (V.d (D.bool true)) [], It.br false, It.is (↑(i + 1) : Int)] [2, 3, 5, 6] 2 = some (.normal, Hp c t ss [(6, .d (I (i + 1 : Nat)))],
  [decide ((↑i : Int) < (↑(List.map BL ss).length : Int)) = true,
   (↑i : Int) = (↑i : Int) ∧ (List.map BL ss)[i]? = some (BL (ss.getD i default)),
   (↑i : Int) = (↑i : Int) ∧ (List.map BL t.ins)[i]? = some (BL (t.ins.getD i default)),
   ICall Tryd.prog 88 [V.d (D.agg [I c.ins, D.sl (List.map Lt.d c.lats), D.sl (List.map An.d c.ands), L c.bads, L c.cons]), V.d (BL (ss.getD i default)), V.d (BL (t.ins.getD i default))] [] (V.d (D.bool true)) [],
   (!true) = false,
   IntKind.i64.wrap ((↑i : Int) + 1) = (↑(i + 1) : Int)]) := by kernel_rfl
theorem p3 : round Tryd.prog wr false O (loopOf Tryd.prog 59 0) (Hp c t ss [(6, .d (I i))]) [It.br false] [2, 3, 5] 2 = some (.exit 0, Hp c t ss [],
  [decide ((↑i : Int) < (↑(List.map BL ss).length : Int)) = false]) := by kernel_rfl
theorem aw0  : callX Tryd.prog wr false O 59 [.d c.d, .d t.d] [] [It.icall [] (V.d (D.sl (List.map BL ss))) [], It.lp [2, 3, 5, 6] Ex.ret (Rp c t x)] = some (V.d (D.int IntKind.i64 x), [],
  [ICall Tryd.prog 61 [V.d (D.agg [I c.ins, D.sl (List.map Lt.d c.lats), D.sl (List.map An.d c.ands), L c.bads, L c.cons]), V.d (D.agg [BL t.first, D.sl (List.map BL t.ins)])] [] (V.d (D.sl (List.map BL ss))) [],
   GoesL Tryd.prog (loopOf Tryd.prog 59 0) (⟨mk 31 [(2, V.ptr 0 0), (3, V.ptr 1 0), (5, V.d (D.sl (List.map BL ss))), (6, V.d (D.int IntKind.i64 0))] [], [B.bx none [V.d (D.int IntKind.i64 c.ins), V.d (D.sl (List.map Lt.d c.lats)), V.d (D.sl (List.map An.d c.ands)), V.d (D.sl (List.map I c.bads)), V.d (D.sl (List.map I c.cons))], B.bx none [V.d (D.sl (List.map D.bool t.first)), V.d (D.sl (List.map BL t.ins))]]⟩) (Ex.ret) (Rp c t x)]) := by kernel_rfl
theorem aw1  : callX Tryd.prog wr false O 59 [.d c.d, .d t.d] [] [It.icall [] (V.d (D.sl (List.map BL ss))) [], It.lp [2, 3, 5, 6] (Ex.exit 0) (Hp c t ss [])] = some (V.d (D.int IntKind.i64 (↑(List.map BL ss).length : Int)), [],
  [ICall Tryd.prog 61 [V.d (D.agg [I c.ins, D.sl (List.map Lt.d c.lats), D.sl (List.map An.d c.ands), L c.bads, L c.cons]), V.d (D.agg [BL t.first, D.sl (List.map BL t.ins)])] [] (V.d (D.sl (List.map BL ss))) [],
   GoesL Tryd.prog (loopOf Tryd.prog 59 0) (⟨mk 31 [(2, V.ptr 0 0), (3, V.ptr 1 0), (5, V.d (D.sl (List.map BL ss))), (6, V.d (D.int IntKind.i64 0))] [], [B.bx none [V.d (D.int IntKind.i64 c.ins), V.d (D.sl (List.map Lt.d c.lats)), V.d (D.sl (List.map An.d c.ands)), V.d (D.sl (List.map I c.bads)), V.d (D.sl (List.map I c.cons))], B.bx none [V.d (D.sl (List.map D.bool t.first)), V.d (D.sl (List.map BL t.ins))]]⟩) (Ex.exit 0) (Hp c t ss [])]) := by kernel_rfl
theorem u1 : round Tryd.prog wr false O (loopOf Tryd.prog 9 0) (Hu t acc [(4, .d (I i))]) [It.br true, It.raw, It.el i (BL (t.ins.getD i default)), It.own, It.ls [], It.raw, It.raw, It.raw, It.is (↑(i + 1) : Int)] [1, 2, 3, 4] 4 = some (.normal, Hu t (acc ++ [BL (t.ins.getD i default)]) [(4, .d (I (i + 1 : Nat)))],
  [decide ((↑i : Int) < (↑(List.map BL t.ins).length : Int)) = true,
   (↑i : Int) = (↑i : Int) ∧ (List.map BL t.ins)[i]? = some (BL (t.ins.getD i default)),
   ∀ (y : D), y ∈ List.map D.bool (t.ins.getD i default) → y.cells.length = (fun x => x.size) Tryd.prog.types[4],
   (List.map D.bool (t.ins.getD i default)).length ≤ maxItems,
   acc.length + [D.sl (List.map D.bool (t.ins.getD i default))].length ≤ maxItems,
   IntKind.i64.wrap ((↑i : Int) + 1) = (↑(i + 1) : Int)]) := by kernel_rfl
theorem u2 : round Tryd.prog wr false O (loopOf Tryd.prog 9 0) (Hu t acc [(4, .d (I i))]) [It.br false] [1, 2, 3] 4 = some (.exit 0, Hu t acc [],
  [decide ((↑i : Int) < (↑(List.map BL t.ins).length : Int)) = false]) := by kernel_rfl
theorem tw  : callX Tryd.prog wr false O 9 [.d t.d] [] [It.raw, It.own, It.ls [], It.lp [1, 2, 3, 4] (Ex.exit 0) (Hu t ys [])] = some (V.agg [V.d (D.sl (List.map D.bool t.first)), V.own 27 ys], [],
  [∀ (y : D), y ∈ List.map D.bool t.first → y.cells.length = (fun x => x.size) Tryd.prog.types[4],
   (List.map D.bool t.first).length ≤ maxItems,
   GoesL Tryd.prog (loopOf Tryd.prog 9 0) (⟨mk 30 [(1, V.ptr 0 0), (2, V.ptr 1 0), (3, V.ptr 2 0), (4, V.d (D.int IntKind.i64 0))] [], [B.bx none [V.d (D.sl (List.map D.bool t.first)), V.d (D.sl (List.map BL t.ins))], B.bx none [V.emp true, V.emp true], B.bx none [V.d (D.sl (List.map D.bool t.first)), V.emp true]]⟩) (Ex.exit 0) (Hu t ys [])]) := by kernel_rfl
theorem o1 : round Tryd.prog wr false O (loopOf Tryd.prog 29 0) (Ho ls l2 [(5, .d (I i))]) [It.br true, It.el i (BL (ls.getD i default)), It.el i (BL (l2.getD i default)), It.icall [] (V.d (D.bool false)) [], It.br true] [4] 0 = some (.ret, Ro,
  [decide ((↑i : Int) < (↑(List.map BL ls).length : Int)) = true,
   (↑i : Int) = (↑i : Int) ∧ (List.map BL ls)[i]? = some (BL (ls.getD i default)),
   (↑i : Int) = (↑i : Int) ∧ (List.map BL l2)[i]? = some (BL (l2.getD i default)),
   ICall Tryd.prog 28 [V.d (BL (ls.getD i default)), V.d (BL (l2.getD i default))] [] (V.d (D.bool false)) [],
   (!false) = true]) := by kernel_rfl
theorem o2 : round Tryd.prog wr false O (loopOf Tryd.prog 29 0) (Ho ls l2 [(5, .d (I i))]) [It.br true, It.el i (BL (ls.getD i default)), It.el i (BL (l2.getD i default)), It.icall [] (V.d (D.bool true)) [], It.br false, It.is (↑(i + 1) : Int)] [0, 1, 5] 0 = some (.normal, Ho ls l2 [(5, .d (I (i + 1 : Nat)))],
  [decide ((↑i : Int) < (↑(List.map BL ls).length : Int)) = true,
   (↑i : Int) = (↑i : Int) ∧ (List.map BL ls)[i]? = some (BL (ls.getD i default)),
   (↑i : Int) = (↑i : Int) ∧ (List.map BL l2)[i]? = some (BL (l2.getD i default)),
   ICall Tryd.prog 28 [V.d (BL (ls.getD i default)), V.d (BL (l2.getD i default))] [] (V.d (D.bool true)) [],
   (!true) = false,
   IntKind.i64.wrap ((↑i : Int) + 1) = (↑(i + 1) : Int)]) := by kernel_rfl
theorem o3 : round Tryd.prog wr false O (loopOf Tryd.prog 29 0) (Ho ls l2 [(5, .d (I i))]) [It.br false] [0, 1] 0 = some (.exit 0, Ho ls l2 [],
  [decide ((↑i : Int) < (↑(List.map BL ls).length : Int)) = false]) := by kernel_rfl
theorem sa0  : callX Tryd.prog wr false O 29 [.d (.sl (ls.map BL)), .d (.sl (l2.map BL))] [] [It.br true] = some (V.d (D.bool false), [],
  [((↑(List.map BL ls).length : Int) != (↑(List.map BL l2).length : Int)) = true]) := by kernel_rfl
theorem sa1  : callX Tryd.prog wr false O 29 [.d (.sl (ls.map BL)), .d (.sl (l2.map BL))] [] [It.br false, It.lp [0, 1, 5] Ex.ret Ro] = some (V.d (D.bool false), [],
  [((↑(List.map BL ls).length : Int) != (↑(List.map BL l2).length : Int)) = false,
   GoesL Tryd.prog (loopOf Tryd.prog 29 0) (⟨mk 27 [(0, V.d (D.sl (List.map BL ls))), (1, V.d (D.sl (List.map BL l2))), (5, V.d (D.int IntKind.i64 0))] [], []⟩) (Ex.ret) (Ro)]) := by kernel_rfl
theorem sa2  : callX Tryd.prog wr false O 29 [.d (.sl (ls.map BL)), .d (.sl (l2.map BL))] [] [It.br false, It.lp [0, 1, 5] (Ex.exit 0) (Ho ls l2 [])] = some (V.d (D.bool true), [],
  [((↑(List.map BL ls).length : Int) != (↑(List.map BL l2).length : Int)) = false,
   GoesL Tryd.prog (loopOf Tryd.prog 29 0) (⟨mk 27 [(0, V.d (D.sl (List.map BL ls))), (1, V.d (D.sl (List.map BL l2))), (5, V.d (D.int IntKind.i64 0))] [], []⟩) (Ex.exit 0) (Ho ls l2 [])]) := by kernel_rfl
theorem sx0  : callX Tryd.prog wr false O 14 [.d t.d, .d t2.d] [] [It.icall [] (V.d (D.bool false)) []] = some (V.d (D.bool false), [],
  [ICall Tryd.prog 28 [V.d (BL t.first), V.d (BL t2.first)] [] (V.d (D.bool false)) []]) := by kernel_rfl
theorem sx1  : callX Tryd.prog wr false O 14 [.d t.d, .d t2.d] [] [It.icall [] (V.d (D.bool true)) [], It.icall [] (V.d (D.bool b)) []] = some (V.d (D.bool b), [],
  [ICall Tryd.prog 28 [V.d (BL t.first), V.d (BL t2.first)] [] (V.d (D.bool true)) [],
   ICall Tryd.prog 29 [V.d (D.sl (List.map BL t.ins)), V.d (D.sl (List.map BL t2.ins))] [] (V.d (D.bool b)) []]) := by kernel_rfl
end
end Go.Proofs.YtccejdncpknbaaaDoor.Sy.Rf
/- ref06.Check, Great, ref11: round by round. -/
namespace Go.Proofs.YtccejdncpknbaaaDoor.Sy.Rf
open Go Go.Proofs.YtccejdncpknbaaaDoor.Ab Go.Proofs.YtccejdncpknbaaaDoor.Sy Go.Proofs.YtccejdncpknbaaaDoor.Sy.Tx Go.Proofs.YtccejdncpknbaaaDoor.Sy.Vl Go.Proofs.YtccejdncpknbaaaDoor.Sy.Tc
set_option maxRecDepth 1000000
set_option linter.unusedVariables false
def Hc (c : Ci) (t : Tr) (sl : List (Nat × V)) : St := ⟨mk 51 ([(2, .ptr 0 0), (3, .ptr 1 0)] ++ sl) [], [Bc c, Bt t]⟩
def Rc (c : Ci) (t : Tr) : St := ⟨mk 51 [(4, .d (I 8))] [], [Bc c, Bt t]⟩
def Hy (t : Tr) (sl : List (Nat × V)) : St := ⟨mk 34 ([(1, .ptr 0 0)] ++ sl) [], [Bt t]⟩
def Ry (t : Tr) : St := ⟨mk 34 [(2, .d (.bool true))] [], [Bt t]⟩
def Hz (xs : List D) (s : List UInt8) (sl : List (Nat × V)) : St := ⟨mk 20 ([(0, .d (.sl xs)), (3, .d (.str s))] ++ sl) [], []⟩
def Hx (t : Tr) (s : List UInt8) (sl : List (Nat × V)) : St := ⟨mk 34 ([(2, .ptr 0 0), (5, .d (.str s))] ++ sl) [], [Bt t]⟩
section
variable (c : Ci) (t t2 : Tr) (n x l e : Int) (i j u k m : Nat) (v st inp v2 st2 : List Bool) (b b2 : Bool) (xs ys acc : List D) (ls l2 ss : List (List Bool)) (s s2 s3 : List UInt8)
theorem kc0  : callX Tryd.prog wr false O 26 [.d c.d, .d t.d] [] [It.icall [] (V.d (I e)) [], It.br true, It.icall [] (V.d (I e)) []] = some (V.d (D.int IntKind.i64 e), [],
  [ICall Tryd.prog 42 [V.d (D.agg [I c.ins, D.sl (List.map Lt.d c.lats), D.sl (List.map An.d c.ands), L c.bads, L c.cons])] [] (V.d (I e)) [],
   (e != 0) = true,
   ICall Tryd.prog 42 [V.d (D.agg [I c.ins, D.sl (List.map Lt.d c.lats), D.sl (List.map An.d c.ands), L c.bads, L c.cons])] [] (V.d (I e)) []]) := by kernel_rfl
theorem kc1  : callX Tryd.prog wr false O 26 [.d c.d, .d t.d] [] [It.icall [] (V.d (I 0)) [], It.br false, It.br true] = some (V.d (D.int IntKind.i64 4), [],
  [ICall Tryd.prog 42 [V.d (D.agg [I c.ins, D.sl (List.map Lt.d c.lats), D.sl (List.map An.d c.ands), L c.bads, L c.cons])] [] (V.d (I 0)) [],
   (0 != 0) = false,
   decide ((↑(List.map BL t.ins).length : Int) > 100) = true]) := by kernel_rfl
theorem kc2  : callX Tryd.prog wr false O 26 [.d c.d, .d t.d] [] [It.icall [] (V.d (I 0)) [], It.br false, It.br false, It.br true] = some (V.d (D.int IntKind.i64 8), [],
  [ICall Tryd.prog 42 [V.d (D.agg [I c.ins, D.sl (List.map Lt.d c.lats), D.sl (List.map An.d c.ands), L c.bads, L c.cons])] [] (V.d (I 0)) [],
   (0 != 0) = false,
   decide ((↑(List.map BL t.ins).length : Int) > 100) = false,
   ((↑(List.map BL t.ins).length : Int) == 0) = true]) := by kernel_rfl
theorem kc3  : callX Tryd.prog wr false O 26 [.d c.d, .d t.d] [] [It.icall [] (V.d (I 0)) [], It.br false, It.br false, It.br false, It.br true] = some (V.d (D.int IntKind.i64 8), [],
  [ICall Tryd.prog 42 [V.d (D.agg [I c.ins, D.sl (List.map Lt.d c.lats), D.sl (List.map An.d c.ands), L c.bads, L c.cons])] [] (V.d (I 0)) [],
   (0 != 0) = false,
   decide ((↑(List.map BL t.ins).length : Int) > 100) = false,
   ((↑(List.map BL t.ins).length : Int) == 0) = false,
   ((↑(List.map D.bool t.first).length : Int) != (↑(List.map Lt.d c.lats).length : Int)) = true]) := by kernel_rfl
theorem kc4  : callX Tryd.prog wr false O 26 [.d c.d, .d t.d] [] [It.icall [] (V.d (I 0)) [], It.br false, It.br false, It.br false, It.br false, It.icall [] (V.d (D.bool false)) [], It.br true] = some (V.d (D.int IntKind.i64 8), [],
  [ICall Tryd.prog 42 [V.d (D.agg [I c.ins, D.sl (List.map Lt.d c.lats), D.sl (List.map An.d c.ands), L c.bads, L c.cons])] [] (V.d (I 0)) [],
   (0 != 0) = false,
   decide ((↑(List.map BL t.ins).length : Int) > 100) = false,
   ((↑(List.map BL t.ins).length : Int) == 0) = false,
   ((↑(List.map D.bool t.first).length : Int) != (↑(List.map Lt.d c.lats).length : Int)) = false,
   ICall Tryd.prog 58 [V.d (D.agg [I c.ins, D.sl (List.map Lt.d c.lats), D.sl (List.map An.d c.ands), L c.bads, L c.cons]), V.d (BL t.first)] [] (V.d (D.bool false)) [],
   (!false) = true]) := by kernel_rfl
theorem kr1 : round Tryd.prog wr false O (loopOf Tryd.prog 26 0) (Hc c t [(5, .d (I i))]) [It.br true, It.el i (BL (t.ins.getD i default)), It.br true] [4] 2 = some (.ret, Rc c t,
  [decide ((↑i : Int) < (↑(List.map BL t.ins).length : Int)) = true,
   (↑i : Int) = (↑i : Int) ∧ (List.map BL t.ins)[i]? = some (BL (t.ins.getD i default)),
   ((↑(List.map D.bool (t.ins.getD i default)).length : Int) != c.ins) = true]) := by kernel_rfl
theorem kr2 : round Tryd.prog wr false O (loopOf Tryd.prog 26 0) (Hc c t [(5, .d (I i))]) [It.br true, It.el i (BL (t.ins.getD i default)), It.br false, It.is (↑(i + 1) : Int)] [2, 3, 5] 2 = some (.normal, Hc c t [(5, .d (I (i + 1 : Nat)))],
  [decide ((↑i : Int) < (↑(List.map BL t.ins).length : Int)) = true,
   (↑i : Int) = (↑i : Int) ∧ (List.map BL t.ins)[i]? = some (BL (t.ins.getD i default)),
   ((↑(List.map D.bool (t.ins.getD i default)).length : Int) != c.ins) = false,
   IntKind.i64.wrap ((↑i : Int) + 1) = (↑(i + 1) : Int)]) := by kernel_rfl
theorem kr3 : round Tryd.prog wr false O (loopOf Tryd.prog 26 0) (Hc c t [(5, .d (I i))]) [It.br false] [2, 3] 2 = some (.exit 0, Hc c t [],
  [decide ((↑i : Int) < (↑(List.map BL t.ins).length : Int)) = false]) := by kernel_rfl
theorem kc5  : callX Tryd.prog wr false O 26 [.d c.d, .d t.d] [] [It.icall [] (V.d (I 0)) [], It.br false, It.br false, It.br false, It.br false, It.icall [] (V.d (D.bool true)) [], It.br false, It.lp [2, 3, 5] Ex.ret (Rc c t)] = some (V.d (D.int IntKind.i64 8), [],
  [ICall Tryd.prog 42 [V.d (D.agg [I c.ins, D.sl (List.map Lt.d c.lats), D.sl (List.map An.d c.ands), L c.bads, L c.cons])] [] (V.d (I 0)) [],
   (0 != 0) = false,
   decide ((↑(List.map BL t.ins).length : Int) > 100) = false,
   ((↑(List.map BL t.ins).length : Int) == 0) = false,
   ((↑(List.map D.bool t.first).length : Int) != (↑(List.map Lt.d c.lats).length : Int)) = false,
   ICall Tryd.prog 58 [V.d (D.agg [I c.ins, D.sl (List.map Lt.d c.lats), D.sl (List.map An.d c.ands), L c.bads, L c.cons]), V.d (BL t.first)] [] (V.d (D.bool true)) [],
   (!true) = false,
   GoesL Tryd.prog (loopOf Tryd.prog 26 0) (⟨mk 51 [(2, V.ptr 0 0), (3, V.ptr 1 0), (5, V.d (D.int IntKind.i64 0))] [], [B.bx none [V.d (D.int IntKind.i64 c.ins), V.d (D.sl (List.map Lt.d c.lats)), V.d (D.sl (List.map An.d c.ands)), V.d (D.sl (List.map I c.bads)), V.d (D.sl (List.map I c.cons))], B.bx none [V.d (D.sl (List.map D.bool t.first)), V.d (D.sl (List.map BL t.ins))]]⟩) (Ex.ret) (Rc c t)]) := by kernel_rfl
theorem kc6  : callX Tryd.prog wr false O 26 [.d c.d, .d t.d] [] [It.icall [] (V.d (I 0)) [], It.br false, It.br false, It.br false, It.br false, It.icall [] (V.d (D.bool true)) [], It.br false, It.lp [2, 3, 5] (Ex.exit 0) (Hc c t [])] = some (V.d (D.int IntKind.i64 0), [],
  [ICall Tryd.prog 42 [V.d (D.agg [I c.ins, D.sl (List.map Lt.d c.lats), D.sl (List.map An.d c.ands), L c.bads, L c.cons])] [] (V.d (I 0)) [],
   (0 != 0) = false,
   decide ((↑(List.map BL t.ins).length : Int) > 100) = false,
   ((↑(List.map BL t.ins).length : Int) == 0) = false,
   ((↑(List.map D.bool t.first).length : Int) != (↑(List.map Lt.d c.lats).length : Int)) = false,
   ICall Tryd.prog 58 [V.d (D.agg [I c.ins, D.sl (List.map Lt.d c.lats), D.sl (List.map An.d c.ands), L c.bads, L c.cons]), V.d (BL t.first)] [] (V.d (D.bool true)) [],
   (!true) = false,
   GoesL Tryd.prog (loopOf Tryd.prog 26 0) (⟨mk 51 [(2, V.ptr 0 0), (3, V.ptr 1 0), (5, V.d (D.int IntKind.i64 0))] [], [B.bx none [V.d (D.int IntKind.i64 c.ins), V.d (D.sl (List.map Lt.d c.lats)), V.d (D.sl (List.map An.d c.ands)), V.d (D.sl (List.map I c.bads)), V.d (D.sl (List.map I c.cons))], B.bx none [V.d (D.sl (List.map D.bool t.first)), V.d (D.sl (List.map BL t.ins))]]⟩) (Ex.exit 0) (Hc c t [])]) := by kernel_rfl
theorem gr1 : round Tryd.prog wr false O (loopOf Tryd.prog 8 0) (Hy t [(3, .d (I i))]) [It.br true, It.el i (BL (t.ins.getD i default)), It.br true] [2] 1 = some (.ret, Ry t,
  [decide ((↑i : Int) < (↑(List.map BL t.ins).length : Int)) = true,
   (↑i : Int) = (↑i : Int) ∧ (List.map BL t.ins)[i]? = some (BL (t.ins.getD i default)),
   decide ((↑(List.map D.bool (t.ins.getD i default)).length : Int) > 60) = true]) := by kernel_rfl
theorem gr2 : round Tryd.prog wr false O (loopOf Tryd.prog 8 0) (Hy t [(3, .d (I i))]) [It.br true, It.el i (BL (t.ins.getD i default)), It.br false, It.is (↑(i + 1) : Int)] [1, 3] 1 = some (.normal, Hy t [(3, .d (I (i + 1 : Nat)))],
  [decide ((↑i : Int) < (↑(List.map BL t.ins).length : Int)) = true,
   (↑i : Int) = (↑i : Int) ∧ (List.map BL t.ins)[i]? = some (BL (t.ins.getD i default)),
   decide ((↑(List.map D.bool (t.ins.getD i default)).length : Int) > 60) = false,
   IntKind.i64.wrap ((↑i : Int) + 1) = (↑(i + 1) : Int)]) := by kernel_rfl
theorem gr3 : round Tryd.prog wr false O (loopOf Tryd.prog 8 0) (Hy t [(3, .d (I i))]) [It.br false] [1] 1 = some (.exit 0, Hy t [],
  [decide ((↑i : Int) < (↑(List.map BL t.ins).length : Int)) = false]) := by kernel_rfl
theorem g1  : callX Tryd.prog wr false O 8 [.d t.d] [] [It.br true] = some (V.d (D.bool true), [],
  [decide ((↑(List.map D.bool t.first).length : Int) > 60) = true]) := by kernel_rfl
theorem g2  : callX Tryd.prog wr false O 8 [.d t.d] [] [It.br false, It.br true, It.br true] = some (V.d (D.bool true), [],
  [decide ((↑(List.map D.bool t.first).length : Int) > 60) = false,
   decide ((↑(List.map BL t.ins).length : Int) > 20) = true,
   ((↑(List.map BL t.ins).length : Int) != 101) = true]) := by kernel_rfl
theorem g3  : callX Tryd.prog wr false O 8 [.d t.d] [] [It.br false, It.br true, It.br false, It.lp [1, 3] Ex.ret (Ry t)] = some (V.d (D.bool true), [],
  [decide ((↑(List.map D.bool t.first).length : Int) > 60) = false,
   decide ((↑(List.map BL t.ins).length : Int) > 20) = true,
   ((↑(List.map BL t.ins).length : Int) != 101) = false,
   GoesL Tryd.prog (loopOf Tryd.prog 8 0) (⟨mk 34 [(1, V.ptr 0 0), (3, V.d (D.int IntKind.i64 0))] [], [B.bx none [V.d (D.sl (List.map D.bool t.first)), V.d (D.sl (List.map BL t.ins))]]⟩) (Ex.ret) (Ry t)]) := by kernel_rfl
theorem g4  : callX Tryd.prog wr false O 8 [.d t.d] [] [It.br false, It.br false, It.lp [1, 3] Ex.ret (Ry t)] = some (V.d (D.bool true), [],
  [decide ((↑(List.map D.bool t.first).length : Int) > 60) = false,
   decide ((↑(List.map BL t.ins).length : Int) > 20) = false,
   GoesL Tryd.prog (loopOf Tryd.prog 8 0) (⟨mk 34 [(1, V.ptr 0 0), (3, V.d (D.int IntKind.i64 0))] [], [B.bx none [V.d (D.sl (List.map D.bool t.first)), V.d (D.sl (List.map BL t.ins))]]⟩) (Ex.ret) (Ry t)]) := by kernel_rfl
theorem g5  : callX Tryd.prog wr false O 8 [.d t.d] [] [It.br false, It.br true, It.br false, It.lp [1, 3] (Ex.exit 0) (Hy t [])] = some (V.d (D.bool false), [],
  [decide ((↑(List.map D.bool t.first).length : Int) > 60) = false,
   decide ((↑(List.map BL t.ins).length : Int) > 20) = true,
   ((↑(List.map BL t.ins).length : Int) != 101) = false,
   GoesL Tryd.prog (loopOf Tryd.prog 8 0) (⟨mk 34 [(1, V.ptr 0 0), (3, V.d (D.int IntKind.i64 0))] [], [B.bx none [V.d (D.sl (List.map D.bool t.first)), V.d (D.sl (List.map BL t.ins))]]⟩) (Ex.exit 0) (Hy t [])]) := by kernel_rfl
theorem g6  : callX Tryd.prog wr false O 8 [.d t.d] [] [It.br false, It.br false, It.lp [1, 3] (Ex.exit 0) (Hy t [])] = some (V.d (D.bool false), [],
  [decide ((↑(List.map D.bool t.first).length : Int) > 60) = false,
   decide ((↑(List.map BL t.ins).length : Int) > 20) = false,
   GoesL Tryd.prog (loopOf Tryd.prog 8 0) (⟨mk 34 [(1, V.ptr 0 0), (3, V.d (D.int IntKind.i64 0))] [], [B.bx none [V.d (D.sl (List.map D.bool t.first)), V.d (D.sl (List.map BL t.ins))]]⟩) (Ex.exit 0) (Hy t [])]) := by kernel_rfl
theorem z1 : round Tryd.prog wr false O (loopOf Tryd.prog 50 0) (Hz xs s [(4, .d (I i))]) [It.br true, It.el i (D.bool true), It.raw, It.is (↑(i + 1) : Int)] [0, 3, 4] 0 = some (.normal, Hz xs (s ++ [49]) [(4, .d (I (i + 1 : Nat)))],
  [decide ((↑i : Int) < (↑xs.length : Int)) = true,
   (↑i : Int) = (↑i : Int) ∧ xs[i]? = some (D.bool true),
   s.length + 1 < 4611686018427387904,
   IntKind.i64.wrap ((↑i : Int) + 1) = (↑(i + 1) : Int)]) := by kernel_rfl
theorem z2 : round Tryd.prog wr false O (loopOf Tryd.prog 50 0) (Hz xs s [(4, .d (I i))]) [It.br true, It.el i (D.bool false), It.raw, It.is (↑(i + 1) : Int)] [0, 3, 4] 0 = some (.normal, Hz xs (s ++ [48]) [(4, .d (I (i + 1 : Nat)))],
  [decide ((↑i : Int) < (↑xs.length : Int)) = true,
   (↑i : Int) = (↑i : Int) ∧ xs[i]? = some (D.bool false),
   s.length + 1 < 4611686018427387904,
   IntKind.i64.wrap ((↑i : Int) + 1) = (↑(i + 1) : Int)]) := by kernel_rfl
theorem z3 : round Tryd.prog wr false O (loopOf Tryd.prog 50 0) (Hz xs s [(4, .d (I i))]) [It.br false] [0, 3] 0 = some (.exit 0, Hz xs s [],
  [decide ((↑i : Int) < (↑xs.length : Int)) = false]) := by kernel_rfl
theorem zc  : callX Tryd.prog wr false O 50 [.d (.sl xs)] [] [It.lp [0, 3, 4] (Ex.exit 0) (Hz xs s [])] = some (V.d (D.str s), [],
  [GoesL Tryd.prog (loopOf Tryd.prog 50 0) (⟨mk 20 [(0, V.d (D.sl xs)), (3, V.d (D.str (ByteArray.mk #[]).data.toList)), (4, V.d (D.int IntKind.i64 0))] [], []⟩) (Ex.exit 0) (Hz xs s [])]) := by kernel_rfl
theorem x1 : round Tryd.prog wr false O (loopOf Tryd.prog 22 0) (Hx t s [(6, .d (I i))]) [It.br true, It.el i (BL (t.ins.getD i default)), It.icall [] (V.d (D.str s2)) [], It.raw, It.raw, It.is (↑(i + 1) : Int)] [2, 5, 6] 1 = some (.normal, Hx t (s ++ (s2 ++ [10])) [(6, .d (I (i + 1 : Nat)))],
  [decide ((↑i : Int) < (↑(List.map BL t.ins).length : Int)) = true,
   (↑i : Int) = (↑i : Int) ∧ (List.map BL t.ins)[i]? = some (BL (t.ins.getD i default)),
   ICall Tryd.prog 50 [V.d (BL (t.ins.getD i default))] [] (V.d (D.str s2)) [],
   s2.length + 1 < 4611686018427387904,
   s.length + (s2 ++ (ByteArray.mk #[10]).data.toList).length < 4611686018427387904,
   IntKind.i64.wrap ((↑i : Int) + 1) = (↑(i + 1) : Int)]) := by kernel_rfl
theorem x2 : round Tryd.prog wr false O (loopOf Tryd.prog 22 0) (Hx t s [(6, .d (I i))]) [It.br false] [2, 5] 1 = some (.exit 0, Hx t s [],
  [decide ((↑i : Int) < (↑(List.map BL t.ins).length : Int)) = false]) := by kernel_rfl
theorem xc  : callX Tryd.prog wr false O 22 [.d t.d, .d (I n)] [] [It.icall [] (V.d (D.str s)) [], It.raw, It.raw, It.icall [] (V.d (D.str s2)) [], It.raw, It.raw, It.lp [2, 5, 6] (Ex.exit 0) (Hx t s3 []), It.raw] = some (V.d (D.str (s3 ++ (ByteArray.mk #[46, 10]).data.toList)), [],
  [ICall Tryd.prog 49 [V.d (I n)] [] (V.d (D.str s)) [],
   3 + s.length < 4611686018427387904,
   ((ByteArray.mk #[49, 10, 98]).data.toList ++ s).length + 1 < 4611686018427387904,
   ICall Tryd.prog 50 [V.d (BL t.first)] [] (V.d (D.str s2)) [],
   ((ByteArray.mk #[49, 10, 98]).data.toList ++ s ++ (ByteArray.mk #[10]).data.toList).length + s2.length < 4611686018427387904,
   ((ByteArray.mk #[49, 10, 98]).data.toList ++ s ++ (ByteArray.mk #[10]).data.toList ++ s2).length + 1 < 4611686018427387904,
   GoesL Tryd.prog (loopOf Tryd.prog 22 0) (⟨mk 34 [(2, V.ptr 0 0), (5, V.d (D.str ((ByteArray.mk #[49, 10, 98]).data.toList ++ s ++ (ByteArray.mk #[10]).data.toList ++ s2 ++ (ByteArray.mk #[10]).data.toList))), (6, V.d (D.int IntKind.i64 0))] [], [B.bx none [V.d (D.sl (List.map D.bool t.first)), V.d (D.sl (List.map BL t.ins))]]⟩) (Ex.exit 0) (Hx t s3 []),
   s3.length + 2 < 4611686018427387904]) := by kernel_rfl
theorem sh0  : callX Tryd.prog wr false O 27 [.d c.d, .d t.d, .d (I n)] [] [It.icall [] (V.d (I x)) [], It.br true] = some (V.d (D.bool false), [],
  [ICall Tryd.prog 59 [V.d (D.agg [I c.ins, D.sl (List.map Lt.d c.lats), D.sl (List.map An.d c.ands), L c.bads, L c.cons]), V.d (D.agg [BL t.first, D.sl (List.map BL t.ins)])] [] (V.d (I x)) [],
   decide (x < (↑(List.map BL t.ins).length : Int)) = true]) := by kernel_rfl
theorem sh1  : callX Tryd.prog wr false O 27 [.d c.d, .d t.d, .d (I n)] [] [It.icall [] (V.d (I x)) [], It.br false, It.icall [] (V.d (D.sl (List.map BL ss))) [], It.is ((↑(List.map BL t.ins).length : Int) - 1), It.el ((↑(List.map BL t.ins).length : Int) - 1).toNat (BL (ss.getD ((↑(List.map BL t.ins).length : Int) - 1).toNat default)), It.is ((↑(List.map BL t.ins).length : Int) - 1), It.el ((↑(List.map BL t.ins).length : Int) - 1).toNat (BL (t.ins.getD ((↑(List.map BL t.ins).length : Int) - 1).toNat default)), It.icall [] (V.d (BL v)) [], It.el n.toNat (I (c.bads.getD n.toNat default)), It.icall [] (V.d (D.bool b)) []] = some (V.d (D.bool b), [],
  [ICall Tryd.prog 59 [V.d (D.agg [I c.ins, D.sl (List.map Lt.d c.lats), D.sl (List.map An.d c.ands), L c.bads, L c.cons]), V.d (D.agg [BL t.first, D.sl (List.map BL t.ins)])] [] (V.d (I x)) [],
   decide (x < (↑(List.map BL t.ins).length : Int)) = false,
   ICall Tryd.prog 61 [V.d (D.agg [I c.ins, D.sl (List.map Lt.d c.lats), D.sl (List.map An.d c.ands), L c.bads, L c.cons]), V.d (D.agg [BL t.first, D.sl (List.map BL t.ins)])] [] (V.d (D.sl (List.map BL ss))) [],
   IntKind.i64.wrap ((↑(List.map BL t.ins).length : Int) - 1) = (↑(List.map BL t.ins).length : Int) - 1,
   (↑(List.map BL t.ins).length : Int) - 1 = (↑((↑(List.map BL t.ins).length : Int) - 1).toNat : Int) ∧ (List.map BL ss)[((↑(List.map BL t.ins).length : Int) - 1).toNat]? = some (BL (ss.getD ((↑(List.map BL t.ins).length : Int) - 1).toNat default)),
   IntKind.i64.wrap ((↑(List.map BL t.ins).length : Int) - 1) = (↑(List.map BL t.ins).length : Int) - 1,
   (↑(List.map BL t.ins).length : Int) - 1 = (↑((↑(List.map BL t.ins).length : Int) - 1).toNat : Int) ∧ (List.map BL t.ins)[((↑(List.map BL t.ins).length : Int) - 1).toNat]? = some (BL (t.ins.getD ((↑(List.map BL t.ins).length : Int) - 1).toNat default)),
   ICall Tryd.prog 60 [V.d (D.agg [I c.ins, D.sl (List.map Lt.d c.lats), D.sl (List.map An.d c.ands), L c.bads, L c.cons]), V.d (BL (ss.getD ((↑(List.map BL t.ins).length : Int) - 1).toNat default)), V.d (BL (t.ins.getD ((↑(List.map BL t.ins).length : Int) - 1).toNat default))] [] (V.d (BL v)) [],
   n = (↑n.toNat : Int) ∧ (List.map I c.bads)[n.toNat]? = some (I (c.bads.getD n.toNat default)),
   ICall Tryd.prog 62 [V.d (BL v), V.d (I (c.bads.getD n.toNat default))] [] (V.d (D.bool b)) []]) := by kernel_rfl
theorem wk0  : callX Tryd.prog wr false O 13 [.d c.d, .d t.d, .d (I n)] [] [It.icall [] (V.d (I e)) [], It.br true, It.icall [] (V.d (I e)) []] = some (V.d (D.int IntKind.i64 e), [],
  [ICall Tryd.prog 26 [V.d (D.agg [I c.ins, D.sl (List.map Lt.d c.lats), D.sl (List.map An.d c.ands), L c.bads, L c.cons]), V.d (D.agg [BL t.first, D.sl (List.map BL t.ins)])] [] (V.d (I e)) [],
   (e != 0) = true,
   ICall Tryd.prog 26 [V.d (D.agg [I c.ins, D.sl (List.map Lt.d c.lats), D.sl (List.map An.d c.ands), L c.bads, L c.cons]), V.d (D.agg [BL t.first, D.sl (List.map BL t.ins)])] [] (V.d (I e)) []]) := by kernel_rfl
theorem wk1  : callX Tryd.prog wr false O 13 [.d c.d, .d t.d, .d (I n)] [] [It.icall [] (V.d (I 0)) [], It.br false, It.br true] = some (V.d (D.int IntKind.i64 2), [],
  [ICall Tryd.prog 26 [V.d (D.agg [I c.ins, D.sl (List.map Lt.d c.lats), D.sl (List.map An.d c.ands), L c.bads, L c.cons]), V.d (D.agg [BL t.first, D.sl (List.map BL t.ins)])] [] (V.d (I 0)) [],
   (0 != 0) = false,
   decide (n < 0) = true]) := by kernel_rfl
theorem wk2  : callX Tryd.prog wr false O 13 [.d c.d, .d t.d, .d (I n)] [] [It.icall [] (V.d (I 0)) [], It.br false, It.br false, It.br true] = some (V.d (D.int IntKind.i64 2), [],
  [ICall Tryd.prog 26 [V.d (D.agg [I c.ins, D.sl (List.map Lt.d c.lats), D.sl (List.map An.d c.ands), L c.bads, L c.cons]), V.d (D.agg [BL t.first, D.sl (List.map BL t.ins)])] [] (V.d (I 0)) [],
   (0 != 0) = false,
   decide (n < 0) = false,
   decide (n ≥ (↑(List.map I c.bads).length : Int)) = true]) := by kernel_rfl
theorem wk3  : callX Tryd.prog wr false O 13 [.d c.d, .d t.d, .d (I n)] [] [It.icall [] (V.d (I 0)) [], It.br false, It.br false, It.br false, It.icall [] (V.d (D.bool false)) [], It.br true] = some (V.d (D.int IntKind.i64 57), [],
  [ICall Tryd.prog 26 [V.d (D.agg [I c.ins, D.sl (List.map Lt.d c.lats), D.sl (List.map An.d c.ands), L c.bads, L c.cons]), V.d (D.agg [BL t.first, D.sl (List.map BL t.ins)])] [] (V.d (I 0)) [],
   (0 != 0) = false,
   decide (n < 0) = false,
   decide (n ≥ (↑(List.map I c.bads).length : Int)) = false,
   ICall Tryd.prog 27 [V.d (D.agg [I c.ins, D.sl (List.map Lt.d c.lats), D.sl (List.map An.d c.ands), L c.bads, L c.cons]), V.d (D.agg [BL t.first, D.sl (List.map BL t.ins)]), V.d (I n)] [] (V.d (D.bool false)) [],
   (!false) = true]) := by kernel_rfl
theorem wk4  : callX Tryd.prog wr false O 13 [.d c.d, .d t.d, .d (I n)] [] [It.icall [] (V.d (I 0)) [], It.br false, It.br false, It.br false, It.icall [] (V.d (D.bool true)) [], It.br false] = some (V.d (D.int IntKind.i64 0), [],
  [ICall Tryd.prog 26 [V.d (D.agg [I c.ins, D.sl (List.map Lt.d c.lats), D.sl (List.map An.d c.ands), L c.bads, L c.cons]), V.d (D.agg [BL t.first, D.sl (List.map BL t.ins)])] [] (V.d (I 0)) [],
   (0 != 0) = false,
   decide (n < 0) = false,
   decide (n ≥ (↑(List.map I c.bads).length : Int)) = false,
   ICall Tryd.prog 27 [V.d (D.agg [I c.ins, D.sl (List.map Lt.d c.lats), D.sl (List.map An.d c.ands), L c.bads, L c.cons]), V.d (D.agg [BL t.first, D.sl (List.map BL t.ins)]), V.d (I n)] [] (V.d (D.bool true)) [],
   (!true) = false]) := by kernel_rfl
theorem ww0  : callX Tryd.prog wr false O 11 [.d c.d, .d t.d, .d (I n)] [] [It.icall [] (V.d (I e)) [], It.br true, It.icall [] (V.d (I e)) []] = some (V.tup [V.d (D.str (ByteArray.mk #[]).data.toList), V.d (D.int IntKind.i64 e)], [],
  [ICall Tryd.prog 13 [V.d (D.agg [I c.ins, D.sl (List.map Lt.d c.lats), D.sl (List.map An.d c.ands), L c.bads, L c.cons]), V.d (D.agg [BL t.first, D.sl (List.map BL t.ins)]), V.d (I n)] [] (V.d (I e)) [],
   (e != 0) = true,
   ICall Tryd.prog 13 [V.d (D.agg [I c.ins, D.sl (List.map Lt.d c.lats), D.sl (List.map An.d c.ands), L c.bads, L c.cons]), V.d (D.agg [BL t.first, D.sl (List.map BL t.ins)]), V.d (I n)] [] (V.d (I e)) []]) := by kernel_rfl
theorem ww1  : callX Tryd.prog wr false O 11 [.d c.d, .d t.d, .d (I n)] [] [It.icall [] (V.d (I 0)) [], It.br false, It.icall [] (V.d (D.str s)) []] = some (V.tup [V.d (D.str s), V.d (D.int IntKind.i64 0)], [],
  [ICall Tryd.prog 13 [V.d (D.agg [I c.ins, D.sl (List.map Lt.d c.lats), D.sl (List.map An.d c.ands), L c.bads, L c.cons]), V.d (D.agg [BL t.first, D.sl (List.map BL t.ins)]), V.d (I n)] [] (V.d (I 0)) [],
   (0 != 0) = false,
   ICall Tryd.prog 22 [V.d (D.agg [BL t.first, D.sl (List.map BL t.ins)]), V.d (I n)] [] (V.d (D.str s)) []]) := by kernel_rfl
end
end Go.Proofs.YtccejdncpknbaaaDoor.Sy.Rf
/- ref06, whole. -/
namespace Go.Proofs.YtccejdncpknbaaaDoor.Sy.Rf
open Go Go.Proofs.YtccejdncpknbaaaDoor.Ab Go.Proofs.YtccejdncpknbaaaDoor.Sy Go.Proofs.YtccejdncpknbaaaDoor.Sy.Tx Go.Proofs.YtccejdncpknbaaaDoor.Sy.Vl Go.Proofs.YtccejdncpknbaaaDoor.Sy.Tc
set_option maxRecDepth 1000000
set_option linter.unusedVariables false
set_option linter.unusedSimpArgs false
theorem checkR {c : Ci} {t : Tr} (h : Cw c) (ht : Tw t) : ICall Tryd.prog 26 [.d c.d, .d t.d] [] (.d (I (trChk c t))) [] := by
  have hg := Tx.check h
  have hti := ht.ins
  have hcl := h.lats
  unfold trChk
  by_cases c0 : Gates.chk c ≠ 0
  · rw [if_pos c0]; exact callX_ok hO hm (kc0 c t (Gates.chk c)) ⟨hg, bne_iff_ne.2 c0, hg⟩
  rw [if_neg c0]
  have c0 := Decidable.not_not.1 c0
  rw [c0] at hg
  by_cases c1 : t.ins.length > 100
  · rw [if_pos c1]; exact callX_ok hO hm (kc1 c t) ⟨hg, rfl, decide_eq_true (by rw [List.length_map]; omega)⟩
  rw [if_neg c1]
  have d1 : decide ((((t.ins.map BL).length : Nat) : Int) > 100) = false := decide_eq_false (by rw [List.length_map]; omega)
  by_cases c2 : t.ins.length = 0
  · rw [if_pos c2]; exact callX_ok hO hm (kc2 c t) ⟨hg, rfl, d1, (show _ = true by rw [List.length_map, c2]; rfl)⟩
  rw [if_neg c2]
  have d2 : ((((t.ins.map BL).length : Nat) : Int) == 0) = false := by rw [List.length_map]; exact beq_eq_false_iff_ne.2 (by omega)
  by_cases c3 : t.first.length ≠ c.lats.length
  · rw [if_pos c3]; exact callX_ok hO hm (kc3 c t) ⟨hg, rfl, d1, d2, bne_iff_ne.2 (fun hh => c3 (by rw [List.length_map, List.length_map] at hh; omega))⟩
  rw [if_neg c3]
  have c3 := Decidable.not_not.1 c3
  have d3 : ((((t.first.map D.bool).length : Nat) : Int) != (((c.lats.map Lt.d).length : Nat) : Int)) = false := by rw [List.length_map, List.length_map, c3]; simp
  have hst := startsR (c := c) (st := t.first) (gd c0) c3
  cases c4 : noStart c t.first with
  | true =>
    rw [c4] at hst
    rw [if_pos rfl]; exact callX_ok hO hm (kc4 c t) ⟨hg, rfl, d1, d2, d3, hst, rfl⟩
  | false =>
    rw [c4] at hst
    rw [if_neg (by simp)]
    have key := any_loop (c := loopOf Tryd.prog 26 0) t.ins (fun i => Hc c t [(5, .d (I i))]) .ret (.exit 0) (Rc c t) (Hc c t []) (fun l => decide ((l.length : Int) ≠ c.ins))
      (fun i hi hb => .stop hO hm (kr1 c t i) (by simp) ⟨decide_eq_true (by rw [List.length_map]; omega), ⟨rfl, get_map BL t.ins i hi⟩, by rw [List.length_map]; exact bne_iff_ne.2 (of_decide_eq_true hb)⟩)
      (fun i hi hb e s hh => .step hO hm (kr2 c t i) ⟨decide_eq_true (by rw [List.length_map]; omega), ⟨rfl, get_map BL t.ins i hi⟩, by rw [List.length_map]; have := of_decide_eq_false hb; simpa using this, wrap_succ (by omega)⟩ hh)
      (.stop hO hm (kr3 c t t.ins.length) (by simp) (decide_eq_false (by rw [List.length_map]; omega))) t.ins.length 0 rfl (Nat.zero_le _)
    rw [List.drop_zero] at key
    cases c5 : t.ins.any (fun l => decide ((l.length : Int) ≠ c.ins)) with
    | true => rw [if_pos rfl]; exact callX_ok hO hm (kc5 c t) ⟨hg, rfl, d1, d2, d3, hst, rfl, key.1 c5⟩
    | false => rw [if_neg (by simp)]; exact callX_ok hO hm (kc6 c t) ⟨hg, rfl, d1, d2, d3, hst, rfl, key.2 c5⟩
section
variable {c : Ci} {t : Tr} (k : Ok c t)
include k
theorem all_loop : GoesL Tryd.prog (loopOf Tryd.prog 61 0) (Hl c t [BL t.first] [(6, .d (I (0 : Nat)))]) (.exit 0) (Hl c t ((states c t).map BL) []) := by
  have hg := gd k.chk
  have hf := k.few
  have hs := k.some
  have key : ∀ (d i : Nat), t.ins.length - 1 - i = d → i + 1 ≤ t.ins.length →
      GoesL Tryd.prog (loopOf Tryd.prog 61 0) (Hl c t (((List.range (i + 1)).map (stAt c t)).map BL) [(6, .d (I i))]) (.exit 0) (Hl c t ((states c t).map BL) []) := by
    intro d
    induction d with
    | zero =>
      intro i hd hi
      have hii : i + 1 = t.ins.length := by omega
      have := l2_ c t i (((List.range (i + 1)).map (stAt c t)).map BL)
      unfold states
      rw [hii] at this ⊢
      exact .stop hO hm this (by simp) ⟨by rw [← hii]; exact wrap_succ (by omega), decide_eq_false (by rw [List.length_map]; omega)⟩
    | succ d ih =>
      intro i hd hi
      have hlt : i < t.ins.length := by omega
      have ha := after hg (stAt_len k i) (inp_len k hlt)
      have hl : (((List.range (i + 1)).map (stAt c t)).map BL).length = i + 1 := by simp
      have hge : (((List.range (i + 1)).map (stAt c t)).map BL)[i]? = some (BL (stAt c t i)) := by
        rw [List.getElem?_map, List.getElem?_map, List.getElem?_range (by omega)]; rfl
      refine .step hO hm (l1 c t i (stAt c t i) (stAt c t (i + 1)) _) ⟨wrap_succ (by omega), decide_eq_true (by rw [List.length_map]; omega), ⟨rfl, by rw [hl]; omega⟩, hge, ⟨rfl, get_map BL t.ins i hlt⟩, ha, Nat.le_trans (show _ ≤ 2000 by rw [hl]; simp; omega) (by decide), wrap_succ (by omega)⟩ ?_
      have := ih (i + 1) (by omega) (by omega)
      rw [List.range_succ, List.map_append, List.map_append] at this
      exact this
  exact key (t.ins.length - 1) 0 rfl (by omega)
theorem allR (ht : Tw t) : ICall Tryd.prog 61 [.d c.d, .d t.d] [] (.d (.sl ((states c t).map BL))) [] := by
  have hl := all_loop k
  have h1 := ht.first
  have := callX_ok hO hm (al c t ((states c t).map BL)) ⟨szB _, Nat.le_trans (show _ ≤ 1000000 by rw [List.length_map]; exact h1) (by decide), hl⟩
  exact this.frz rfl
omit k in
theorem st_get {i : Nat} (hi : i < t.ins.length) : (states c t).getD i default = stAt c t i := by
  unfold states; rw [List.getD_eq_getElem?_getD, List.getElem?_map, List.getElem?_range hi]; rfl
theorem allowedR (ht : Tw t) : ICall Tryd.prog 59 [.d c.d, .d t.d] [] (.d (I (right c t : Nat))) [] := by
  have hg := gd k.chk
  have hf := k.few
  have ha := allR k ht
  have hsl : (states c t).length = t.ins.length := by unfold states; simp
  have key : ∀ (d i : Nat), t.ins.length - i = d → i ≤ t.ins.length → right c t = i + ((List.range' i d).takeWhile fun i => holdsS c (stAt c t i) (t.ins.getD i default)).length →
      (right c t < t.ins.length → GoesL Tryd.prog (loopOf Tryd.prog 59 0) (Hp c t (states c t) [(6, .d (I i))]) .ret (Rp c t (right c t : Nat))) ∧
      (¬ right c t < t.ins.length → right c t = t.ins.length ∧ GoesL Tryd.prog (loopOf Tryd.prog 59 0) (Hp c t (states c t) [(6, .d (I i))]) (.exit 0) (Hp c t (states c t) [])) := by
    intro d
    induction d with
    | zero =>
      intro i hd hi e
      obtain rfl : i = t.ins.length := by omega
      have e : right c t = t.ins.length := by simpa using e
      exact ⟨fun h => absurd h (by omega), fun _ => ⟨e, .stop hO hm (p3 c t t.ins.length (states c t)) (by simp) (decide_eq_false (by rw [List.length_map]; omega))⟩⟩
    | succ d ih =>
      intro i hd hi e
      have hlt : i < t.ins.length := by omega
      have hh := holds hg (stAt_len k i) (inp_len k hlt)
      rw [← st_get hlt] at hh
      have q0 : decide ((i : Int) < ((((states c t).map BL).length : Nat) : Int)) = true := decide_eq_true (by rw [List.length_map]; omega)
      rw [List.range'_succ, List.takeWhile_cons] at e
      cases hv : holdsS c (stAt c t i) (t.ins.getD i default) with
      | true =>
        rw [hv, if_pos rfl, List.length_cons] at e
        rw [st_get hlt, hv, ← st_get hlt] at hh
        have go : ∀ e' s, GoesL Tryd.prog (loopOf Tryd.prog 59 0) (Hp c t (states c t) [(6, .d (I (i + 1 : Nat)))]) e' s → GoesL Tryd.prog (loopOf Tryd.prog 59 0) (Hp c t (states c t) [(6, .d (I i))]) e' s :=
          fun e' s h => .step hO hm (p2 c t i (states c t)) ⟨q0, ⟨rfl, get_map BL (states c t) i (by omega)⟩, ⟨rfl, get_map BL t.ins i hlt⟩, hh, rfl, wrap_succ (by omega)⟩ h
        obtain ⟨i1, i2⟩ := ih (i + 1) (by omega) (by omega) (by omega)
        exact ⟨fun h => go _ _ (i1 h), fun h => ⟨(i2 h).1, go _ _ (i2 h).2⟩⟩
      | false =>
        rw [hv, if_neg (by simp)] at e
        rw [st_get hlt, hv, ← st_get hlt] at hh
        have e : right c t = i := by simpa using e
        refine ⟨fun _ => ?_, fun h => absurd h (by omega)⟩
        rw [e]
        exact .stop hO hm (p1 c t i (states c t)) (by simp) ⟨q0, ⟨rfl, get_map BL (states c t) i (by omega)⟩, ⟨rfl, get_map BL t.ins i hlt⟩, hh, rfl⟩
  obtain ⟨k1, k2⟩ := key t.ins.length 0 rfl (Nat.zero_le _) (by rw [Nat.zero_add, right, List.range_eq_range'])
  by_cases hr : right c t < t.ins.length
  · exact callX_ok hO hm (aw0 c t ((right c t : Nat) : Int) (states c t)) ⟨ha, k1 hr⟩
  · obtain ⟨e, hl⟩ := k2 hr
    have := callX_ok hO hm (aw1 c t (states c t)) ⟨ha, hl⟩
    rw [List.length_map, hsl, ← e] at this
    exact this
end
theorem twinR {t : Tr} (ht : Tw t) : ICall Tryd.prog 9 [.d t.d] [] (.d t.d) [] := by
  have h1 := ht.first
  have h2 := ht.ins
  have m6 : ∀ a : Nat, a ≤ 2000000 → a ≤ maxItems := fun a h => Nat.le_trans h (by decide)
  have ad : adoptB 2 1 27 (⟨mk 30 [(1, .ptr 0 0), (2, .ptr 1 0), (3, .ptr 2 0), (4, .d (I 0))] [], [Bt t, B00, .box [.d (BL t.first), .emp true]]⟩ : St) = Hu t [] [(4, .d (I 0))] := by kernel_rfl
  have loop := acc_loop (k := loopOf Tryd.prog 9 0) t.ins (fun i acc => Hu t acc [(4, .d (I i))]) (.exit 0) (fun acc => Hu t acc []) BL
    (fun i acc hlt ha e s hh => .step hO hm (u1 t i acc) ⟨decide_eq_true (by rw [List.length_map]; omega), ⟨rfl, get_map BL t.ins i hlt⟩, szB _, m6 _ (by rw [List.length_map]; have := ht.each _ (mem_getD hlt); omega), m6 _ (by simp; omega), wrap_succ (by omega)⟩ hh)
    (fun acc ha => .stop hO hm (u2 t t.ins.length acc) (by simp) (decide_eq_false (by rw [List.length_map]; omega)))
  have loop2 := GoesL.adoptB (s := ⟨mk 30 [(1, .ptr 0 0), (2, .ptr 1 0), (3, .ptr 2 0), (4, .d (I 0))] [], [Bt t, B00, .box [.d (BL t.first), .emp true]]⟩) (id := 2) (j := 1) (t := 27) ySl (by rw [ad]; exact loop)
  have l := tw t (t.ins.map BL)
  have := callX_ok hO hm l ⟨szB _, m6 _ (by rw [List.length_map]; omega), loop2⟩
  exact this.frz rfl
theorem sameAll (ls l2 : List (List Bool)) (h1 : ls.length ≤ 1000000) (h2 : l2.length ≤ 1000000) (h3 : ∀ l ∈ ls, l.length ≤ 1000000) (h4 : ∀ l ∈ l2, l.length ≤ 1000000) :
    ICall Tryd.prog 29 [.d (.sl (ls.map BL)), .d (.sl (l2.map BL))] [] (.d (.bool (decide (ls = l2)))) [] := by
  by_cases c0 : ls.length ≠ l2.length
  · rw [decide_eq_false (fun e => c0 (by rw [e]))]
    exact callX_ok hO hm (sa0 ls l2) (bne_iff_ne.2 (fun hh => c0 (by rw [List.length_map, List.length_map] at hh; omega)))
  have c0 := Decidable.not_not.1 c0
  have d0 : ((((ls.map BL).length : Nat) : Int) != (((l2.map BL).length : Nat) : Int)) = false := by rw [List.length_map, List.length_map, c0]; simp
  have key := any_ix (c := loopOf Tryd.prog 29 0) ls (fun i => Ho ls l2 [(5, .d (I i))]) .ret (.exit 0) Ro (Ho ls l2 []) (fun i b => !decide (b = l2.getD i default))
    (fun i hi hb => by
      have hs := same (ls.getD i default) (l2.getD i default) (h3 _ (mem_getD hi)) (h4 _ (mem_getD (by omega)))
      rw [Bool.not_eq_true'] at hb
      rw [hb] at hs
      exact .stop hO hm (o1 i ls l2) (by simp) ⟨decide_eq_true (by rw [List.length_map]; omega), ⟨rfl, get_map BL ls i hi⟩, ⟨rfl, get_map BL l2 i (by omega)⟩, hs, rfl⟩)
    (fun i hi hb e s hh => by
      have hs := same (ls.getD i default) (l2.getD i default) (h3 _ (mem_getD hi)) (h4 _ (mem_getD (by omega)))
      rw [Bool.not_eq_false'] at hb
      rw [hb] at hs
      exact .step hO hm (o2 i ls l2) ⟨decide_eq_true (by rw [List.length_map]; omega), ⟨rfl, get_map BL ls i hi⟩, ⟨rfl, get_map BL l2 i (by omega)⟩, hs, rfl, wrap_succ (by omega)⟩ hh)
    (.stop hO hm (o3 ls.length ls l2) (by simp) (decide_eq_false (by rw [List.length_map]; omega))) ls.length 0 rfl (Nat.zero_le _)
  rw [List.drop_zero] at key
  cases hh : anyIx (fun i b => !decide (b = l2.getD i default)) ls 0 with
  | true =>
    have hne : ls ≠ l2 := by
      intro e
      have : ∀ (l : List (List Bool)) (i : Nat), (∀ j, j < l.length → l.getD j default = l2.getD (i + j) default) → anyIx (fun i b => !decide (b = l2.getD i default)) l i = false := by
        intro l
        induction l with
        | nil => intro i _; rfl
        | cons x r ih =>
          intro i hl
          rw [anyIx, ih (i + 1) (fun j hj => by have := hl (j + 1) (by simpa using hj); rw [List.getD_cons_succ] at this; rw [this]; congr 1; omega)]
          have := hl 0 (by simp)
          rw [List.getD_cons_zero] at this
          rw [this]; simp
      have := this ls 0 (fun j _ => by rw [e, Nat.zero_add])
      rw [hh] at this; cases this
    rw [decide_eq_false hne]
    exact callX_ok hO hm (sa1 ls l2) ⟨d0, key.1 hh⟩
  | false =>
    have he : ls = l2 := by
      refine List.ext_getElem c0 fun j h1 h2 => ?_
      have := anyIx_at (fun i b => !decide (b = l2.getD i default)) ls 0 hh j h1
      simp only [Nat.zero_add, Bool.not_eq_false', decide_eq_true_eq] at this
      rw [this, List.getD_eq_getElem?_getD, List.getElem?_eq_getElem h2]; rfl
    rw [decide_eq_true he]
    exact callX_ok hO hm (sa2 ls l2) ⟨d0, key.2 hh⟩
theorem tr_eq (t u : Tr) : t = u ↔ t.first = u.first ∧ t.ins = u.ins := by cases t; cases u; simp
theorem sameT (t u : Tr) (ht : Tw t) (hu : Tw u) : ICall Tryd.prog 14 [.d t.d, .d u.d] [] (.d (.bool (decide (t.first = u.first) && decide (t.ins = u.ins)))) [] := by
  have h1 := same t.first u.first ht.first hu.first
  have h2 := sameAll t.ins u.ins ht.ins hu.ins ht.each hu.each
  cases c1 : decide (t.first = u.first) with
  | true => rw [c1] at h1; exact callX_ok hO hm (sx1 t u _) ⟨h1, h2⟩
  | false => rw [c1] at h1; exact callX_ok hO hm (sx0 t u) h1
/-- Is a run great? -/
def great6 (t : Tr) : Bool := decide (t.first.length > 60) || ((decide (t.ins.length > 20) && decide (t.ins.length ≠ 101)) || t.ins.any (fun l => decide (l.length > 60)))
theorem greatT (t : Tr) (hi : t.ins.length ≤ 9223372036854775807) : ICall Tryd.prog 8 [.d t.d] [] (.d (.bool (great6 t))) [] := by
  have key := any_loop (c := loopOf Tryd.prog 8 0) t.ins (fun i => Hy t [(3, .d (I i))]) .ret (.exit 0) (Ry t) (Hy t []) (fun l => decide (l.length > 60))
    (fun i hi hb => .stop hO hm (gr1 t i) (by simp) ⟨decide_eq_true (by rw [List.length_map]; omega), ⟨rfl, get_map BL t.ins i hi⟩, decide_eq_true (by rw [List.length_map]; have := of_decide_eq_true hb; omega)⟩)
    (fun i hi hb e s hh => .step hO hm (gr2 t i) ⟨decide_eq_true (by rw [List.length_map]; omega), ⟨rfl, get_map BL t.ins i hi⟩, decide_eq_false (by rw [List.length_map]; have := of_decide_eq_false hb; omega), wrap_succ (by omega)⟩ hh)
    (.stop hO hm (gr3 t t.ins.length) (by simp) (decide_eq_false (by rw [List.length_map]; omega))) t.ins.length 0 rfl (Nat.zero_le _)
  rw [List.drop_zero] at key
  have e1 : decide ((((t.first.map D.bool).length : Nat) : Int) > 60) = decide (t.first.length > 60) := by rw [List.length_map]; exact decide_eq_decide.2 (by omega)
  have e2 : decide ((((t.ins.map BL).length : Nat) : Int) > 20) = decide (t.ins.length > 20) := by rw [List.length_map]; exact decide_eq_decide.2 (by omega)
  have e3 : ((((t.ins.map BL).length : Nat) : Int) != 101) = decide (t.ins.length ≠ 101) := by
    rw [List.length_map, Bool.eq_iff_iff, bne_iff_ne, decide_eq_true_eq]; omega
  unfold great6
  cases c1 : decide (t.first.length > 60) with
  | true => rw [Bool.true_or]; exact callX_ok hO hm (g1 t) (e1.trans c1)
  | false =>
  rw [Bool.false_or]
  cases c2 : decide (t.ins.length > 20) with
  | true =>
    rw [Bool.true_and]
    cases c3 : decide (t.ins.length ≠ 101) with
    | true => rw [Bool.true_or]; exact callX_ok hO hm (g2 t) ⟨e1.trans c1, e2.trans c2, e3.trans c3⟩
    | false =>
      rw [Bool.false_or]
      cases c4 : t.ins.any (fun l => decide (l.length > 60)) with
      | true => exact callX_ok hO hm (g3 t) ⟨e1.trans c1, e2.trans c2, e3.trans c3, key.1 c4⟩
      | false => exact callX_ok hO hm (g5 t) ⟨e1.trans c1, e2.trans c2, e3.trans c3, key.2 c4⟩
  | false =>
    rw [Bool.false_and, Bool.false_or]
    cases c4 : t.ins.any (fun l => decide (l.length > 60)) with
    | true => exact callX_ok hO hm (g4 t) ⟨e1.trans c1, e2.trans c2, key.1 c4⟩
    | false => exact callX_ok hO hm (g6 t) ⟨e1.trans c1, e2.trans c2, key.2 c4⟩
theorem small6 {t : Tr} (h : great6 t = false) : t.first.length ≤ 60 ∧ t.ins.length ≤ 101 ∧ ∀ l ∈ t.ins, l.length ≤ 60 := by
  unfold great6 at h
  rw [Bool.or_eq_false_iff, Bool.or_eq_false_iff, decide_eq_false_iff_not, Bool.and_eq_false_iff, decide_eq_false_iff_not, decide_eq_false_iff_not] at h
  obtain ⟨h1, h2, h3⟩ := h
  refine ⟨by omega, by omega, fun l hl => ?_⟩
  have := List.any_eq_false.1 h3 l hl
  rw [decide_eq_true_eq] at this
  omega
end Go.Proofs.YtccejdncpknbaaaDoor.Sy.Rf
/- witness.digits, write, Check, Write, WriteByte: round by round. -/
namespace Go.Proofs.YtccejdncpknbaaaDoor.Sy.Wi
open Go Go.Proofs.YtccejdncpknbaaaDoor.Ab Go.Proofs.YtccejdncpknbaaaDoor.Sy Go.Proofs.YtccejdncpknbaaaDoor.Sy.Tx Go.Proofs.YtccejdncpknbaaaDoor.Sy.Vl Go.Proofs.YtccejdncpknbaaaDoor.Sy.Tc
set_option maxRecDepth 1000000
set_option linter.unusedVariables false
def Hd (xs : List D) (l : List UInt8) (sl : List (Nat × V)) : St := ⟨mk 20 ([(0, .ptr 0 0)] ++ sl) [], Str.SB l⟩
def Bw (t : Tr) (l : List UInt8) : List B := [Bt t, .bx (some 90) [.ptr 1 0, .arr 2], .lst 5 (l.map u8)]
def Ht (t : Tr) (l : List UInt8) (sl : List (Nat × V)) : St := ⟨mk 28 ([(2, .ptr 0 0), (5, .ptr 1 0)] ++ sl) [], Bw t l⟩
section
variable (c : Ci) (t : Tr) (n x e : Int) (i j u k m : Nat) (v st inp : List Bool) (b b2 : Bool) (xs : List D) (l l1 l2 l3 s : List UInt8) (u : UInt8) (ss : List (List Bool))
theorem wb  : callX Tryd.prog wr false O 82 [.ptr 0 0, .d (u8 u)] [.bx (some 90) [.ptr 0 0, .arr 1], .lst 5 (l.map u8)] [It.icall [0, 1] (V.tup []) (Str.SB l), It.raw, It.raw, It.raw] = some (V.d D.inil, [.bx (some 90) [.ptr 0 0, .arr 1], .lst 5 (l.map u8 ++ [u8 u])],
  [ICall Tryd.prog 80 [V.ptr 0 0] [B.bx (some 90) [V.ptr 0 0, V.arr 1], B.lst 5 (List.map u8 l)] (V.tup []) (Str.SB l),
   (List.map u8 l).length + [u8 u].length ≤ maxItems]) := by kernel_rfl
theorem d1t : round Tryd.prog wr false O (loopOf Tryd.prog 47 0) (Hd xs l [(6, .d (.sl xs)), (7, .d (I xs.length)), (8, .d (I i))]) [It.br true, It.el i (D.bool true), It.icall [0, 1] (V.d D.inil) (Str.SB (l ++ [49])), It.is (↑(i + 1) : Int)] [0, 6, 7, 8] 2 = some (.normal, Hd xs (l ++ [49]) [(6, .d (.sl xs)), (7, .d (I xs.length)), (8, .d (I (i + 1 : Nat)))],
  [decide ((↑i : Int) < (↑xs.length : Int)) = true,
   (↑i : Int) = (↑i : Int) ∧ xs[i]? = some (D.bool true),
   ICall Tryd.prog 82 [V.ptr 0 0, V.d (D.int IntKind.u8 49)] [B.bx (some 90) [V.ptr 0 0, V.arr 1], B.lst 5 (List.map u8 l)] (V.d D.inil) (Str.SB (l ++ [49])),
   IntKind.i64.wrap ((↑i : Int) + 1) = (↑(i + 1) : Int)]) := by kernel_rfl
theorem d1f : round Tryd.prog wr false O (loopOf Tryd.prog 47 0) (Hd xs l [(6, .d (.sl xs)), (7, .d (I xs.length)), (8, .d (I i))]) [It.br true, It.el i (D.bool false), It.icall [0, 1] (V.d D.inil) (Str.SB (l ++ [48])), It.is (↑(i + 1) : Int)] [0, 6, 7, 8] 2 = some (.normal, Hd xs (l ++ [48]) [(6, .d (.sl xs)), (7, .d (I xs.length)), (8, .d (I (i + 1 : Nat)))],
  [decide ((↑i : Int) < (↑xs.length : Int)) = true,
   (↑i : Int) = (↑i : Int) ∧ xs[i]? = some (D.bool false),
   ICall Tryd.prog 82 [V.ptr 0 0, V.d (D.int IntKind.u8 48)] [B.bx (some 90) [V.ptr 0 0, V.arr 1], B.lst 5 (List.map u8 l)] (V.d D.inil) (Str.SB (l ++ [48])),
   IntKind.i64.wrap ((↑i : Int) + 1) = (↑(i + 1) : Int)]) := by kernel_rfl
theorem d2 : round Tryd.prog wr false O (loopOf Tryd.prog 47 0) (Hd xs l [(6, .d (.sl xs)), (7, .d (I xs.length)), (8, .d (I i))]) [It.br false] [0] 2 = some (.exit 0, Hd xs l [],
  [decide ((↑i : Int) < (↑xs.length : Int)) = false]) := by kernel_rfl
theorem dg  : callX Tryd.prog wr false O 47 [.ptr 0 0, .d (.sl xs)] [.bx (some 90) [.ptr 0 0, .arr 1], .lst 5 (l.map u8)] [It.lp [0, 6, 7, 8] (Ex.exit 0) (Hd xs l1 []), It.icall [0, 1] (V.d D.inil) (Str.SB l2)] = some (V.tup [], [.bx (some 90) [.ptr 0 0, .arr 1], .lst 5 (l2.map u8)],
  [GoesL Tryd.prog (loopOf Tryd.prog 47 0) (⟨mk 20 [(0, V.ptr 0 0), (6, V.d (D.sl xs)), (7, V.d (D.int IntKind.i64 (↑xs.length : Int))), (8, V.d (D.int IntKind.i64 0))] [], [B.bx (some 90) [V.ptr 0 0, V.arr 1], B.lst 5 (List.map u8 l)]⟩) (Ex.exit 0) (Hd xs l1 []),
   ICall Tryd.prog 82 [V.ptr 0 0, V.d (D.int IntKind.u8 10)] [B.bx (some 90) [V.ptr 0 0, V.arr 1], B.lst 5 (List.map u8 l1)] (V.d D.inil) (Str.SB l2)]) := by kernel_rfl
theorem t1 : round Tryd.prog wr false O (loopOf Tryd.prog 21 0) (Ht t l [(17, .d (.sl (t.ins.map BL))), (18, .d (I (t.ins.map BL).length)), (19, .d (I i))]) [It.br true, It.el i (BL (t.ins.getD i default)), It.icall [1, 2] (V.tup []) (Str.SB l1), It.is (↑(i + 1) : Int)] [2, 5, 17, 18, 19] 3 = some (.normal, Ht t l1 [(17, .d (.sl (t.ins.map BL))), (18, .d (I (t.ins.map BL).length)), (19, .d (I (i + 1 : Nat)))],
  [decide ((↑i : Int) < (↑(List.map BL t.ins).length : Int)) = true,
   (↑i : Int) = (↑i : Int) ∧ (List.map BL t.ins)[i]? = some (BL (t.ins.getD i default)),
   ICall Tryd.prog 47 [V.ptr 0 0, V.d (BL (t.ins.getD i default))] [B.bx (some 90) [V.ptr 0 0, V.arr 1], B.lst 5 (List.map u8 l)] (V.tup []) (Str.SB l1),
   IntKind.i64.wrap ((↑i : Int) + 1) = (↑(i + 1) : Int)]) := by kernel_rfl
theorem t2 : round Tryd.prog wr false O (loopOf Tryd.prog 21 0) (Ht t l [(17, .d (.sl (t.ins.map BL))), (18, .d (I (t.ins.map BL).length)), (19, .d (I i))]) [It.br false] [2, 5] 3 = some (.exit 0, Ht t l [],
  [decide ((↑i : Int) < (↑(List.map BL t.ins).length : Int)) = false]) := by kernel_rfl
theorem wrt  : callX Tryd.prog wr false O 21 [.d t.d, .d (I n)] [] [It.icall [] (V.d (D.str s)) [], It.raw, It.raw, It.icall [1] (Str.wrote ([49, 10, 98] ++ s ++ [10])) (Str.SB ([49, 10, 98] ++ s ++ [10])), It.icall [1, 2] (V.tup []) (Str.SB l1), It.lp [2, 5, 17, 18, 19] (Ex.exit 0) (Ht t l2 []), It.icall [1, 2] (Str.wrote [46, 10]) (Str.SB l3), It.icall [1, 2] (V.d (D.str l3)) [B.bx (some 90) [V.ptr 0 0, V.undef], B.dead]] = some (V.d (D.str l3), [],
  [ICall Tryd.prog 46 [V.d (I n)] [] (V.d (D.str s)) [],
   3 + s.length < 4611686018427387904,
   ((ByteArray.mk #[49, 10, 98]).data.toList ++ s).length + 1 < 4611686018427387904,
   ICall Tryd.prog 45 [V.ptr 0 0, V.d (D.str ((ByteArray.mk #[49, 10, 98]).data.toList ++ s ++ (ByteArray.mk #[10]).data.toList))] [B.bx (some 90) [V.nilp, V.emp true]] (Str.wrote ([49, 10, 98] ++ s ++ [10])) (Str.SB ([49, 10, 98] ++ s ++ [10])),
   ICall Tryd.prog 47 [V.ptr 0 0, V.d (BL t.first)] [B.bx (some 90) [V.ptr 0 0, V.arr 1], B.lst 5 (List.map u8 ([49, 10, 98] ++ s ++ [10]))] (V.tup []) (Str.SB l1),
   GoesL Tryd.prog (loopOf Tryd.prog 21 0) (⟨mk 28 [(2, V.ptr 0 0), (5, V.ptr 1 0), (17, V.d (D.sl (List.map BL t.ins))), (18, V.d (D.int IntKind.i64 (↑(List.map BL t.ins).length : Int))), (19, V.d (D.int IntKind.i64 0))] [], [B.bx none [V.d (D.sl (List.map D.bool t.first)), V.d (D.sl (List.map BL t.ins))], B.bx (some 90) [V.ptr 1 0, V.arr 2], B.lst 5 (List.map u8 l1)]⟩) (Ex.exit 0) (Ht t l2 []),
   ICall Tryd.prog 45 [V.ptr 0 0, V.d (D.str (ByteArray.mk #[46, 10]).data.toList)] [B.bx (some 90) [V.ptr 0 0, V.arr 1], B.lst 5 (List.map u8 l2)] (Str.wrote [46, 10]) (Str.SB l3),
   ICall Tryd.prog 48 [V.ptr 0 0] [B.bx (some 90) [V.ptr 0 0, V.arr 1], B.lst 5 (List.map u8 l3)] (V.d (D.str l3)) [B.bx (some 90) [V.ptr 0 0, V.undef], B.dead]]) := by kernel_rfl
theorem c0  : callX Tryd.prog wr false O 12 [.d c.d, .d t.d, .d (I n)] [] [It.icall [] (V.tup [V.emp true, V.d (I e)]) [], It.br true] = some (V.d (D.int IntKind.i64 e), [],
  [ICall Tryd.prog 23 [V.d (D.agg [I c.ins, D.sl (List.map Lt.d c.lats), D.sl (List.map An.d c.ands), L c.bads, L c.cons]), V.d (D.agg [BL t.first, D.sl (List.map BL t.ins)])] [] (V.tup [V.emp true, V.d (I e)]) [],
   (e != 0) = true]) := by kernel_rfl
theorem c1  : callX Tryd.prog wr false O 12 [.d c.d, .d t.d, .d (I n)] [] [It.icall [] (V.tup [V.d (D.sl (List.map BL ss)), V.d (I 0)]) [], It.br false, It.br true] = some (V.d (D.int IntKind.i64 2), [],
  [ICall Tryd.prog 23 [V.d (D.agg [I c.ins, D.sl (List.map Lt.d c.lats), D.sl (List.map An.d c.ands), L c.bads, L c.cons]), V.d (D.agg [BL t.first, D.sl (List.map BL t.ins)])] [] (V.tup [V.d (D.sl (List.map BL ss)), V.d (I 0)]) [],
   (0 != 0) = false,
   decide (n < 0) = true]) := by kernel_rfl
theorem c2  : callX Tryd.prog wr false O 12 [.d c.d, .d t.d, .d (I n)] [] [It.icall [] (V.tup [V.d (D.sl (List.map BL ss)), V.d (I 0)]) [], It.br false, It.br false, It.br true] = some (V.d (D.int IntKind.i64 2), [],
  [ICall Tryd.prog 23 [V.d (D.agg [I c.ins, D.sl (List.map Lt.d c.lats), D.sl (List.map An.d c.ands), L c.bads, L c.cons]), V.d (D.agg [BL t.first, D.sl (List.map BL t.ins)])] [] (V.tup [V.d (D.sl (List.map BL ss)), V.d (I 0)]) [],
   (0 != 0) = false,
   decide (n < 0) = false,
   decide (n ≥ (↑(List.map I c.bads).length : Int)) = true]) := by kernel_rfl
theorem c3  : callX Tryd.prog wr false O 12 [.d c.d, .d t.d, .d (I n)] [] [It.icall [] (V.tup [V.d (D.sl (List.map BL ss)), V.d (I 0)]) [], It.br false, It.br false, It.br false, It.icall [] (V.tup [V.d (I x), V.d (I 0)]) [], It.br false, It.is ((↑(List.map BL ss).length : Int) - 1), It.el ((↑(List.map BL ss).length : Int) - 1).toNat (BL (ss.getD ((↑(List.map BL ss).length : Int) - 1).toNat default)), It.el ((↑(List.map BL ss).length : Int) - 1).toNat (BL (t.ins.getD ((↑(List.map BL ss).length : Int) - 1).toNat default)), It.icall [] (V.tup [V.d (D.bool b), V.d (BL v), V.d (I 0)]) [], It.br false, It.br true] = some (V.d (D.int IntKind.i64 57), [],
  [ICall Tryd.prog 23 [V.d (D.agg [I c.ins, D.sl (List.map Lt.d c.lats), D.sl (List.map An.d c.ands), L c.bads, L c.cons]), V.d (D.agg [BL t.first, D.sl (List.map BL t.ins)])] [] (V.tup [V.d (D.sl (List.map BL ss)), V.d (I 0)]) [],
   (0 != 0) = false,
   decide (n < 0) = false,
   decide (n ≥ (↑(List.map I c.bads).length : Int)) = false,
   ICall Tryd.prog 24 [V.d (D.agg [I c.ins, D.sl (List.map Lt.d c.lats), D.sl (List.map An.d c.ands), L c.bads, L c.cons]), V.d (D.agg [BL t.first, D.sl (List.map BL t.ins)])] [] (V.tup [V.d (I x), V.d (I 0)]) [],
   (0 != 0) = false,
   IntKind.i64.wrap ((↑(List.map BL ss).length : Int) - 1) = (↑(List.map BL ss).length : Int) - 1,
   (↑(List.map BL ss).length : Int) - 1 = (↑((↑(List.map BL ss).length : Int) - 1).toNat : Int) ∧ (List.map BL ss)[((↑(List.map BL ss).length : Int) - 1).toNat]? = some (BL (ss.getD ((↑(List.map BL ss).length : Int) - 1).toNat default)),
   (↑(List.map BL ss).length : Int) - 1 = (↑((↑(List.map BL ss).length : Int) - 1).toNat : Int) ∧ (List.map BL t.ins)[((↑(List.map BL ss).length : Int) - 1).toNat]? = some (BL (t.ins.getD ((↑(List.map BL ss).length : Int) - 1).toNat default)),
   ICall Tryd.prog 25 [V.d (D.agg [I c.ins, D.sl (List.map Lt.d c.lats), D.sl (List.map An.d c.ands), L c.bads, L c.cons]), V.d (BL (ss.getD ((↑(List.map BL ss).length : Int) - 1).toNat default)), V.d (BL (t.ins.getD ((↑(List.map BL ss).length : Int) - 1).toNat default))] [] (V.tup [V.d (D.bool b), V.d (BL v), V.d (I 0)]) [],
   (0 != 0) = false,
   decide (x ≤ (↑(List.map BL ss).length : Int) - 1) = true]) := by kernel_rfl
theorem c4  : callX Tryd.prog wr false O 12 [.d c.d, .d t.d, .d (I n)] [] [It.icall [] (V.tup [V.d (D.sl (List.map BL ss)), V.d (I 0)]) [], It.br false, It.br false, It.br false, It.icall [] (V.tup [V.d (I x), V.d (I 0)]) [], It.br false, It.is ((↑(List.map BL ss).length : Int) - 1), It.el ((↑(List.map BL ss).length : Int) - 1).toNat (BL (ss.getD ((↑(List.map BL ss).length : Int) - 1).toNat default)), It.el ((↑(List.map BL ss).length : Int) - 1).toNat (BL (t.ins.getD ((↑(List.map BL ss).length : Int) - 1).toNat default)), It.icall [] (V.tup [V.d (D.bool b), V.d (BL v), V.d (I 0)]) [], It.br false, It.br false, It.el n.toNat (D.bool (v.getD n.toNat default)), It.br true] = some (V.d (D.int IntKind.i64 57), [],
  [ICall Tryd.prog 23 [V.d (D.agg [I c.ins, D.sl (List.map Lt.d c.lats), D.sl (List.map An.d c.ands), L c.bads, L c.cons]), V.d (D.agg [BL t.first, D.sl (List.map BL t.ins)])] [] (V.tup [V.d (D.sl (List.map BL ss)), V.d (I 0)]) [],
   (0 != 0) = false,
   decide (n < 0) = false,
   decide (n ≥ (↑(List.map I c.bads).length : Int)) = false,
   ICall Tryd.prog 24 [V.d (D.agg [I c.ins, D.sl (List.map Lt.d c.lats), D.sl (List.map An.d c.ands), L c.bads, L c.cons]), V.d (D.agg [BL t.first, D.sl (List.map BL t.ins)])] [] (V.tup [V.d (I x), V.d (I 0)]) [],
   (0 != 0) = false,
   IntKind.i64.wrap ((↑(List.map BL ss).length : Int) - 1) = (↑(List.map BL ss).length : Int) - 1,
   (↑(List.map BL ss).length : Int) - 1 = (↑((↑(List.map BL ss).length : Int) - 1).toNat : Int) ∧ (List.map BL ss)[((↑(List.map BL ss).length : Int) - 1).toNat]? = some (BL (ss.getD ((↑(List.map BL ss).length : Int) - 1).toNat default)),
   (↑(List.map BL ss).length : Int) - 1 = (↑((↑(List.map BL ss).length : Int) - 1).toNat : Int) ∧ (List.map BL t.ins)[((↑(List.map BL ss).length : Int) - 1).toNat]? = some (BL (t.ins.getD ((↑(List.map BL ss).length : Int) - 1).toNat default)),
   ICall Tryd.prog 25 [V.d (D.agg [I c.ins, D.sl (List.map Lt.d c.lats), D.sl (List.map An.d c.ands), L c.bads, L c.cons]), V.d (BL (ss.getD ((↑(List.map BL ss).length : Int) - 1).toNat default)), V.d (BL (t.ins.getD ((↑(List.map BL ss).length : Int) - 1).toNat default))] [] (V.tup [V.d (D.bool b), V.d (BL v), V.d (I 0)]) [],
   (0 != 0) = false,
   decide (x ≤ (↑(List.map BL ss).length : Int) - 1) = false,
   n = (↑n.toNat : Int) ∧ (List.map D.bool v)[n.toNat]? = some (D.bool (v.getD n.toNat default)),
   (!v.getD n.toNat default) = true]) := by kernel_rfl
theorem c5  : callX Tryd.prog wr false O 12 [.d c.d, .d t.d, .d (I n)] [] [It.icall [] (V.tup [V.d (D.sl (List.map BL ss)), V.d (I 0)]) [], It.br false, It.br false, It.br false, It.icall [] (V.tup [V.d (I x), V.d (I 0)]) [], It.br false, It.is ((↑(List.map BL ss).length : Int) - 1), It.el ((↑(List.map BL ss).length : Int) - 1).toNat (BL (ss.getD ((↑(List.map BL ss).length : Int) - 1).toNat default)), It.el ((↑(List.map BL ss).length : Int) - 1).toNat (BL (t.ins.getD ((↑(List.map BL ss).length : Int) - 1).toNat default)), It.icall [] (V.tup [V.d (D.bool b), V.d (BL v), V.d (I 0)]) [], It.br false, It.br false, It.el n.toNat (D.bool (v.getD n.toNat default)), It.br false] = some (V.d (D.int IntKind.i64 0), [],
  [ICall Tryd.prog 23 [V.d (D.agg [I c.ins, D.sl (List.map Lt.d c.lats), D.sl (List.map An.d c.ands), L c.bads, L c.cons]), V.d (D.agg [BL t.first, D.sl (List.map BL t.ins)])] [] (V.tup [V.d (D.sl (List.map BL ss)), V.d (I 0)]) [],
   (0 != 0) = false,
   decide (n < 0) = false,
   decide (n ≥ (↑(List.map I c.bads).length : Int)) = false,
   ICall Tryd.prog 24 [V.d (D.agg [I c.ins, D.sl (List.map Lt.d c.lats), D.sl (List.map An.d c.ands), L c.bads, L c.cons]), V.d (D.agg [BL t.first, D.sl (List.map BL t.ins)])] [] (V.tup [V.d (I x), V.d (I 0)]) [],
   (0 != 0) = false,
   IntKind.i64.wrap ((↑(List.map BL ss).length : Int) - 1) = (↑(List.map BL ss).length : Int) - 1,
   (↑(List.map BL ss).length : Int) - 1 = (↑((↑(List.map BL ss).length : Int) - 1).toNat : Int) ∧ (List.map BL ss)[((↑(List.map BL ss).length : Int) - 1).toNat]? = some (BL (ss.getD ((↑(List.map BL ss).length : Int) - 1).toNat default)),
   (↑(List.map BL ss).length : Int) - 1 = (↑((↑(List.map BL ss).length : Int) - 1).toNat : Int) ∧ (List.map BL t.ins)[((↑(List.map BL ss).length : Int) - 1).toNat]? = some (BL (t.ins.getD ((↑(List.map BL ss).length : Int) - 1).toNat default)),
   ICall Tryd.prog 25 [V.d (D.agg [I c.ins, D.sl (List.map Lt.d c.lats), D.sl (List.map An.d c.ands), L c.bads, L c.cons]), V.d (BL (ss.getD ((↑(List.map BL ss).length : Int) - 1).toNat default)), V.d (BL (t.ins.getD ((↑(List.map BL ss).length : Int) - 1).toNat default))] [] (V.tup [V.d (D.bool b), V.d (BL v), V.d (I 0)]) [],
   (0 != 0) = false,
   decide (x ≤ (↑(List.map BL ss).length : Int) - 1) = false,
   n = (↑n.toNat : Int) ∧ (List.map D.bool v)[n.toNat]? = some (D.bool (v.getD n.toNat default)),
   (!v.getD n.toNat default) = false]) := by kernel_rfl
theorem w0  : callX Tryd.prog wr false O 10 [.d c.d, .d t.d, .d (I n)] [] [It.icall [] (V.d (I e)) [], It.br true] = some (V.tup [V.d (D.str (ByteArray.mk #[]).data.toList), V.d (D.int IntKind.i64 e)], [],
  [ICall Tryd.prog 12 [V.d (D.agg [I c.ins, D.sl (List.map Lt.d c.lats), D.sl (List.map An.d c.ands), L c.bads, L c.cons]), V.d (D.agg [BL t.first, D.sl (List.map BL t.ins)]), V.d (I n)] [] (V.d (I e)) [],
   (e != 0) = true]) := by kernel_rfl
theorem w1  : callX Tryd.prog wr false O 10 [.d c.d, .d t.d, .d (I n)] [] [It.icall [] (V.d (I 0)) [], It.br false, It.icall [] (V.d (D.str s)) []] = some (V.tup [V.d (D.str s), V.d (D.int IntKind.i64 0)], [],
  [ICall Tryd.prog 12 [V.d (D.agg [I c.ins, D.sl (List.map Lt.d c.lats), D.sl (List.map An.d c.ands), L c.bads, L c.cons]), V.d (D.agg [BL t.first, D.sl (List.map BL t.ins)]), V.d (I n)] [] (V.d (I 0)) [],
   (0 != 0) = false,
   ICall Tryd.prog 21 [V.d (D.agg [BL t.first, D.sl (List.map BL t.ins)]), V.d (I n)] [] (V.d (D.str s)) []]) := by kernel_rfl
end
end Go.Proofs.YtccejdncpknbaaaDoor.Sy.Wi
/- witness.digits, write, Check, Write, whole. -/
namespace Go.Proofs.YtccejdncpknbaaaDoor.Sy.Wi
open Go Go.Proofs.YtccejdncpknbaaaDoor.Ab Go.Proofs.YtccejdncpknbaaaDoor.Sy Go.Proofs.YtccejdncpknbaaaDoor.Sy.Tx Go.Proofs.YtccejdncpknbaaaDoor.Sy.Vl Go.Proofs.YtccejdncpknbaaaDoor.Sy.Tc
set_option maxRecDepth 1000000
set_option linter.unusedVariables false
set_option linter.unusedSimpArgs false
section
variable {k : Code}
/-- A text behind which something is put for each element. -/
theorem str_loop {α : Type} [Inhabited α] (xs : List α) (H : Nat → List UInt8 → St) (e0 : Ex) (E : List UInt8 → St) (f : α → List UInt8) (B K : Nat) (hf : ∀ x ∈ xs, (f x).length ≤ K)
    (hs : ∀ i l, i < xs.length → xs.getD i default ∈ xs → l.length ≤ B + K * i → ∀ e s, GoesL Tryd.prog k (H (i + 1) (l ++ f (xs.getD i default))) e s → GoesL Tryd.prog k (H i l) e s)
    (he : ∀ l, l.length ≤ B + K * xs.length → GoesL Tryd.prog k (H xs.length l) e0 (E l)) (l : List UInt8) (hl : l.length ≤ B) : GoesL Tryd.prog k (H 0 l) e0 (E (l ++ xs.flatMap f)) := by
  have key : ∀ (d i : Nat) (l : List UInt8), xs.length - i = d → i ≤ xs.length → l.length ≤ B + K * i → GoesL Tryd.prog k (H i l) e0 (E (l ++ (xs.drop i).flatMap f)) := by
    intro d
    induction d with
    | zero =>
      intro i l hd hi hl
      obtain rfl : i = xs.length := by omega
      rw [List.drop_length, List.flatMap_nil, List.append_nil]
      exact he l hl
    | succ d ih =>
      intro i l hd hi hl
      have hlt : i < xs.length := by omega
      have hmem : xs.getD i default ∈ xs := mem_getD hlt
      refine hs i l hlt hmem hl _ _ ?_
      rw [drop_getD xs i hlt, List.flatMap_cons, ← List.append_assoc]
      exact ih (i + 1) _ (by omega) (by omega) (by rw [List.length_append]; have := hf _ hmem; rw [Nat.mul_add]; omega)
  exact key _ 0 l rfl (Nat.zero_le _) (by omega)
end
/-- Truth values as digits. -/
def digs (v : List Bool) : List UInt8 := v.flatMap fun b => if b then [49] else [48]
theorem digs_len (v : List Bool) : (digs v).length = v.length := by
  unfold digs
  induction v with
  | nil => rfl
  | cons b r ih => rw [List.flatMap_cons, List.length_append, ih, List.length_cons]; cases b <;> simp <;> omega
theorem writeByte (u : UInt8) (l : List UInt8) (h : l.length ≤ 1000000000) : ICall Tryd.prog 82 [.ptr 0 0, .d (u8 u)] (Str.SB l) (.d .inil) (Str.SB (l ++ [u])) := by
  have := callX_ok hO hm (wb l u) ⟨Str.check_used _ _ _, Nat.le_trans (show _ ≤ 1000000001 by simp; omega) (by decide)⟩
  unfold Str.SB
  rw [List.map_append]
  exact this
theorem digits (v : List Bool) (l : List UInt8) (h : l.length + v.length ≤ 100000000) : ICall Tryd.prog 47 [.ptr 0 0, .d (BL v)] (Str.SB l) (.tup []) (Str.SB (l ++ digs v ++ [10])) := by
  have loop := str_loop (k := loopOf Tryd.prog 47 0) v (fun i l => Hd (v.map D.bool) l [(6, .d (.sl (v.map D.bool))), (7, .d (I (v.map D.bool).length)), (8, .d (I i))]) (.exit 0) (fun l => Hd (v.map D.bool) l []) (fun b => if b then [49] else [48]) l.length 1
    (fun x _ => by cases x <;> simp)
    (fun i l hi _ hl e s hh => by
      have q0 : decide ((i : Int) < (((v.map D.bool).length : Nat) : Int)) = true := decide_eq_true (by rw [List.length_map]; omega)
      have gm := get_map D.bool v i hi
      cases hb : v.getD i default with
      | true =>
        rw [hb] at gm hh
        exact .step hO hm (d1t i _ l) ⟨q0, ⟨rfl, gm⟩, writeByte 49 l (by omega), wrap_succ (by omega)⟩ hh
      | false =>
        rw [hb] at gm hh
        exact .step hO hm (d1f i _ l) ⟨q0, ⟨rfl, gm⟩, writeByte 48 l (by omega), wrap_succ (by omega)⟩ hh)
    (fun l _ => .stop hO hm (d2 v.length (v.map D.bool) l) (by simp) (decide_eq_false (by rw [List.length_map]; omega)))
    l (Nat.le_refl _)
  have e2 := digs_len v
  exact callX_ok hO hm (dg (v.map D.bool) l (l ++ digs v) (l ++ digs v ++ [10])) ⟨loop, writeByte 10 _ (by rw [List.length_append]; omega)⟩
/-- A run that is not great. -/
structure Tz (t : Tr) : Prop where
  first : t.first.length ≤ 10000
  ins : t.ins.length ≤ 1000
  each : ∀ l ∈ t.ins, l.length ≤ 10000
/-- The text of a run. -/
def txt (t : Tr) (n : Int) : List UInt8 := [49, 10, 98] ++ Lib.itoa n ++ [10] ++ digs t.first ++ [10] ++ t.ins.flatMap (fun l => digs l ++ [10]) ++ [46, 10]
theorem write (t : Tr) (n : Int) (ht : Tz t) (h0 : -9223372036854775808 ≤ n) (h1 : n ≤ 9223372036854775807) : ICall Tryd.prog 21 [.d t.d, .d (I n)] [] (.d (.str (txt t n))) [] := by
  have hi := Str.itoa n h0 h1
  have hil : (Lib.itoa n).length ≤ 22 := by
    have := Lib.itoa_length_le n h0 h1
    omega
  have hd := digs_len t.first
  have hf := ht.first
  have hn := ht.ins
  have loop := str_loop (k := loopOf Tryd.prog 21 0) t.ins (fun i l => Ht t l [(17, .d (.sl (t.ins.map BL))), (18, .d (I (t.ins.map BL).length)), (19, .d (I i))]) (.exit 0) (fun l => Ht t l []) (fun v => digs v ++ [10]) 11000 10001
    (fun x hx => by rw [List.length_append, digs_len]; have := ht.each x hx; simp; omega)
    (fun i l hlt hmem hl e s hh => by
      have := ht.each _ hmem
      rw [← List.append_assoc] at hh
      exact .step hO hm (t1 t i l (l ++ digs (t.ins.getD i default) ++ [10])) ⟨decide_eq_true (by rw [List.length_map]; omega), ⟨rfl, get_map BL t.ins i hlt⟩, digits _ l (by omega), wrap_succ (by omega)⟩ hh)
    (fun l _ => .stop hO hm (t2 t t.ins.length l) (by simp) (decide_eq_false (by rw [List.length_map]; omega)))
    ([49, 10, 98] ++ Lib.itoa n ++ [10] ++ digs t.first ++ [10]) (by simp; omega)
  have hfl : ∀ ls : List (List Bool), (∀ l ∈ ls, l.length ≤ 10000) → (ls.flatMap (fun l => digs l ++ [10])).length ≤ 10001 * ls.length := by
    intro ls
    induction ls with
    | nil => intro _; simp
    | cons x r ih =>
      intro hh
      simp only [List.flatMap_cons, List.length_append, digs_len, List.length_cons, List.length_nil]
      have := ih fun y hy => hh y (by simp [hy])
      have := hh x (by simp)
      omega
  have hfl := hfl t.ins ht.each
  refine callX_ok hO hm (wrt t n ([49, 10, 98] ++ Lib.itoa n ++ [10] ++ digs t.first ++ [10]) ([49, 10, 98] ++ Lib.itoa n ++ [10] ++ digs t.first ++ [10] ++ t.ins.flatMap (fun l => digs l ++ [10])) (txt t n) (Lib.itoa n)) ⟨hi, by omega, ?_, ?_, ?_, loop, ?_, Str.string_ok _ ?_⟩
  · show ([49, 10, 98] ++ Lib.itoa n : List UInt8).length + 1 < _
    simp; omega
  · exact Str.write1 ([49, 10, 98] ++ Lib.itoa n ++ [10]) (by simp; omega)
  · exact digits t.first _ (by simp; omega)
  · exact Str.write [46, 10] _ (by simp only [List.length_append, List.length_cons, List.length_nil]; omega)
  · unfold txt; simp
/-- Does the run show the bad literal? -/
def shown (c : Ci) (t : Tr) (n : Nat) : Bool := decide (t.ins.length ≤ right c t) && (badsS c (stAt c t (t.ins.length - 1)) (t.ins.getD (t.ins.length - 1) default)).getD n default
/-- What witness.Check answers. -/
def wtChk (c : Ci) (t : Tr) (n : Int) : Int :=
  if trChk c t ≠ 0 then trChk c t else if n < 0 then 2 else if n ≥ (c.bads.length : Int) then 2 else if shown c t n.toNat then 0 else 57
section
variable {c : Ci} {t : Tr} (h : Cw c) (ht : Tw t)
include h ht
theorem wcheck (n : Int) : ICall Tryd.prog 12 [.d c.d, .d t.d, .d (I n)] [] (.d (I (wtChk c t n))) [] := by
  have hti := ht.ins
  unfold wtChk
  by_cases c0 : trChk c t ≠ 0
  · rw [if_pos c0]; exact callX_ok hO hm (Wi.c0 c t n (trChk c t)) ⟨states_bad h ht c0, bne_iff_ne.2 c0⟩
  rw [if_neg c0]
  have c0 := Decidable.not_not.1 c0
  have k := ok_of c0
  have k1 := k.some
  have hs := states_good h ht c0
  by_cases c1 : n < 0
  · rw [if_pos c1]; exact callX_ok hO hm (Wi.c1 c t n (states c t)) ⟨hs, rfl, decide_eq_true c1⟩
  rw [if_neg c1]
  by_cases c2 : n ≥ (c.bads.length : Int)
  · rw [if_pos c2]; exact callX_ok hO hm (Wi.c2 c t n (states c t)) ⟨hs, rfl, decide_eq_false c1, decide_eq_true (by rw [List.length_map]; exact c2)⟩
  rw [if_neg c2]
  have d2 : decide (n ≥ (((c.bads.map I).length : Nat) : Int)) = false := decide_eq_false (by rw [List.length_map]; exact c2)
  have hr := right_good h ht c0
  have hl : ((states c t).map BL).length = t.ins.length := by rw [List.length_map]; unfold states; simp
  have e1 : ((((states c t).map BL).length : Nat) : Int) - 1 = ((t.ins.length - 1 : Nat) : Int) := by rw [hl]; omega
  have e2 : (((((states c t).map BL).length : Nat) : Int) - 1).toNat = t.ins.length - 1 := by rw [e1]; omega
  have hlt : t.ins.length - 1 < t.ins.length := by omega
  have es : (states c t).getD (t.ins.length - 1) default = stAt c t (t.ins.length - 1) := by
    unfold states; rw [List.getD_eq_getElem?_getD, List.getElem?_map, List.getElem?_range hlt]; rfl
  have q1 : IntKind.i64.wrap (((((states c t).map BL).length : Nat) : Int) - 1) = ((((states c t).map BL).length : Nat) : Int) - 1 := wrap_id (by omega) (by omega)
  have q2 : ((((states c t).map BL).length : Nat) : Int) - 1 = ((((((states c t).map BL).length : Nat) : Int) - 1).toNat : Int) ∧ ((states c t).map BL)[(((((states c t).map BL).length : Nat) : Int) - 1).toNat]? = some (BL ((states c t).getD (((((states c t).map BL).length : Nat) : Int) - 1).toNat default)) :=
    ⟨by omega, get_map BL (states c t) _ (by rw [e2]; rw [List.length_map] at hl; omega)⟩
  have q3 : ((((states c t).map BL).length : Nat) : Int) - 1 = ((((((states c t).map BL).length : Nat) : Int) - 1).toNat : Int) ∧ (t.ins.map BL)[(((((states c t).map BL).length : Nat) : Int) - 1).toNat]? = some (BL (t.ins.getD (((((states c t).map BL).length : Nat) : Int) - 1).toNat default)) :=
    ⟨by omega, get_map BL t.ins _ (by rw [e2]; exact hlt)⟩
  have hp := props h k.chk (stAt_len k (t.ins.length - 1)) (inp_len k hlt)
  rw [← es] at hp
  rw [← e2] at hp
  have hbl : (badsS c ((states c t).getD (((((states c t).map BL).length : Nat) : Int) - 1).toNat default) (t.ins.getD (((((states c t).map BL).length : Nat) : Int) - 1).toNat default)).length = c.bads.length := by unfold badsS; rw [List.length_map]
  by_cases c3 : ((right c t : Nat) : Int) ≤ ((((states c t).map BL).length : Nat) : Int) - 1
  · have hsh : shown c t n.toNat = false := by
      unfold shown; rw [decide_eq_false (by omega)]; rfl
    rw [hsh, if_neg (by simp)]
    exact callX_ok hO hm (Wi.c3 c t n _ _ _ (states c t)) ⟨hs, rfl, decide_eq_false c1, d2, hr, rfl, q1, q2, q3, hp, rfl, decide_eq_true c3⟩
  · have hsh : shown c t n.toNat = (badsS c ((states c t).getD (((((states c t).map BL).length : Nat) : Int) - 1).toNat default) (t.ins.getD (((((states c t).map BL).length : Nat) : Int) - 1).toNat default)).getD n.toNat default := by
      unfold shown; rw [decide_eq_true (by omega), Bool.true_and, e2, es]
    have q4 : n = (n.toNat : Int) ∧ ((badsS c ((states c t).getD (((((states c t).map BL).length : Nat) : Int) - 1).toNat default) (t.ins.getD (((((states c t).map BL).length : Nat) : Int) - 1).toNat default)).map D.bool)[n.toNat]? = some (D.bool ((badsS c ((states c t).getD (((((states c t).map BL).length : Nat) : Int) - 1).toNat default) (t.ins.getD (((((states c t).map BL).length : Nat) : Int) - 1).toNat default)).getD n.toNat default)) :=
      ⟨by omega, get_map D.bool _ _ (by rw [hbl]; omega)⟩
    rw [hsh]
    cases c4 : (badsS c ((states c t).getD (((((states c t).map BL).length : Nat) : Int) - 1).toNat default) (t.ins.getD (((((states c t).map BL).length : Nat) : Int) - 1).toNat default)).getD n.toNat default with
    | false =>
      rw [if_neg (by simp)]
      exact callX_ok hO hm (Wi.c4 c t n _ _ _ (states c t)) ⟨hs, rfl, decide_eq_false c1, d2, hr, rfl, q1, q2, q3, hp, rfl, decide_eq_false c3, q4, by rw [c4]; rfl⟩
    | true =>
      rw [if_pos rfl]
      exact callX_ok hO hm (Wi.c5 c t n _ _ _ (states c t)) ⟨hs, rfl, decide_eq_false c1, d2, hr, rfl, q1, q2, q3, hp, rfl, decide_eq_false c3, q4, by rw [c4]; rfl⟩
/-- The answer of witness.Write. -/
def wtS (c : Ci) (t : Tr) (n : Int) : List UInt8 := if wtChk c t n = 0 then txt t n else []
theorem Write (hz : Tz t) (n : Int) (h0 : -9223372036854775808 ≤ n) (h1 : n ≤ 9223372036854775807) : ICall Tryd.prog 10 [.d c.d, .d t.d, .d (I n)] [] (.tup [.d (.str (wtS c t n)), .d (I (wtChk c t n))]) [] := by
  have hc := wcheck h ht n
  unfold wtS
  by_cases c0 : wtChk c t n = 0
  · rw [if_pos c0, c0]
    rw [c0] at hc
    exact callX_ok hO hm (w1 c t n (txt t n)) ⟨hc, rfl, write t n hz h0 h1⟩
  · rw [if_neg c0]
    exact callX_ok hO hm (w0 c t n (wtChk c t n)) ⟨hc, bne_iff_ne.2 c0⟩
end
end Go.Proofs.YtccejdncpknbaaaDoor.Sy.Wi
/- ref07.Digits, whole. -/
namespace Go.Proofs.YtccejdncpknbaaaDoor.Sy.Dg
open Go Go.Proofs.YtccejdncpknbaaaDoor.Ab Go.Proofs.YtccejdncpknbaaaDoor.Sy
set_option maxRecDepth 1000000
set_option linter.unusedVariables false
def Hg (n : Int) (s : List UInt8) : St := ⟨mk 23 [(0, .d (I n)), (3, .d (.str s))] [], []⟩
section
variable (s s1 s2 s3 s4 s5 s6 : List UInt8) (n e : Int) (i : Nat) (ns : List Int) (c : UInt8)
theorem g1 : round Tryd.prog wr false O (loopOf Tryd.prog 49 0) (Hg n s) [It.br true, It.is (n % 10), It.is (48 + n % 10), It.is (48 + n % 10), It.raw, It.st [c], It.raw, It.is (n / 10)] [0, 3] 0 = some (.normal, Hg (n / 10) (c :: s),
  [decide (n > 9) = true,
   n.tmod 10 = n % 10,
   IntKind.i64.wrap (48 + n % 10) = 48 + n % 10,
   IntKind.u8.wrap (48 + n % 10) = 48 + n % 10,
   [D.int IntKind.u8 (48 + n % 10)] = List.map u8 [c],
   [c].length + s.length < 4611686018427387904,
   IntKind.i64.wrap (n.tdiv 10) = n / 10]) := by kernel_rfl
theorem g2 : round Tryd.prog wr false O (loopOf Tryd.prog 49 0) (Hg n s) [It.br false] [0, 3] 0 = some (.exit 0, Hg n s,
  [decide (n > 9) = false]) := by kernel_rfl
theorem g3  : callX Tryd.prog wr false O 49 [.d (I e)] [] [It.lp [0, 3] (Ex.exit 0) (Hg n s), It.is (48 + n), It.is (48 + n), It.raw, It.st [c], It.raw] = some (.d (.str (c :: s)), [],
  [GoesL Tryd.prog (loopOf Tryd.prog 49 0) (⟨mk 23 [(0, V.d (D.int IntKind.i64 e)), (3, V.d (D.str (ByteArray.mk #[]).data.toList))] [], []⟩) (Ex.exit 0) (Hg n s),
   IntKind.i64.wrap (48 + n) = 48 + n,
   IntKind.u8.wrap (48 + n) = 48 + n,
   [D.int IntKind.u8 (48 + n)] = List.map u8 [c],
   [c].length + s.length < 4611686018427387904]) := by kernel_rfl
end
theorem dig (k : Nat) (h : k < 10) : [D.int IntKind.u8 (48 + (k : Int))] = List.map u8 [UInt8.ofNat (48 + k)] := by
  have : (UInt8.ofNat (48 + k)).toNat = 48 + k := by rw [UInt8.toNat_ofNat']; omega
  simp only [List.map_cons, List.map_nil, u8, this]
  rfl
theorem w8 (k : Nat) (h : k < 10) : IntKind.u8.wrap (48 + (k : Int)) = 48 + (k : Int) := by
  rw [IntKind.wrap_u8]; omega
theorem digits_loop (m : Nat) : ∀ (n : Nat) (s : List UInt8), n ≤ m → n ≤ 1000000000000000000 → s.length + n ≤ 2000000000000000000 →
    ∃ (k : Nat) (s' : List UInt8), GoesL Tryd.prog (loopOf Tryd.prog 49 0) (Hg n s) (.exit 0) (Hg k s') ∧ k < 10 ∧ UInt8.ofNat (48 + k) :: s' = Lib.decDigits n ++ s ∧ s'.length ≤ 2000000000000000000 := by
  induction m with
  | zero =>
    intro n s hn _ hs
    obtain rfl : n = 0 := by omega
    refine ⟨0, s, .stop hO hm (g2 s (0 : Nat)) (by simp) rfl, by omega, ?_, by omega⟩
    rw [Lib.decDigits, dif_pos (by omega)]; rfl
  | succ m ih =>
    intro n s hn hb hs
    by_cases h : n < 10
    · refine ⟨n, s, .stop hO hm (g2 s n) (by simp) (decide_eq_false (by omega)), h, ?_, by omega⟩
      rw [Lib.decDigits, dif_pos h]; rfl
    · obtain ⟨k, s', h1, h2, h3, h4⟩ := ih (n / 10) (UInt8.ofNat (48 + n % 10) :: s) (by omega) (by omega) (by rw [List.length_cons]; omega)
      refine ⟨k, s', ?_, h2, ?_, h4⟩
      · have e1 : (n : Int) % 10 = ((n % 10 : Nat) : Int) := by omega
        have e2 : (n : Int) / 10 = ((n / 10 : Nat) : Int) := by omega
        refine .step hO hm (g1 s n (UInt8.ofNat (48 + n % 10))) ⟨decide_eq_true (by omega), by rw [Int.tmod_eq_emod_of_nonneg (by omega)], by rw [wrap_id (by omega) (by omega)], by rw [e1]; exact w8 _ (by omega), by rw [e1]; exact dig _ (by omega), by simp; omega, ?_⟩ (by rw [e2]; exact h1)
        show IntKind.i64.wrap _ = _
        rw [Int.tdiv_eq_ediv_of_nonneg (by omega), wrap_id (by omega) (by omega)]
      · rw [h3, Lib.decDigits.eq_def n, dif_neg h, List.append_assoc]; rfl
theorem digits (n : Int) (h0 : 0 ≤ n) (h1 : n ≤ 1000000000000000000) : ICall Tryd.prog 49 [.d (I n)] [] (.d (.str (Lib.itoa n))) [] := by
  obtain ⟨m, rfl⟩ := Int.eq_ofNat_of_zero_le h0
  obtain ⟨k, s', g1', g2', g3', g4'⟩ := digits_loop m m [] (Nat.le_refl _) (by omega) (by simp; omega)
  have := callX_ok hO hm (g3 s' (k : Int) (m : Int) (UInt8.ofNat (48 + k))) ⟨g1', by rw [wrap_id (by omega) (by omega)], w8 k g2', dig k g2', by show ([UInt8.ofNat (48 + k)] : List UInt8).length + s'.length < 4611686018427387904; simp; omega⟩
  rw [g3', List.append_nil] at this
  have e : Lib.itoa ((m : Nat) : Int) = Lib.decDigits m := by unfold Lib.itoa; rw [if_neg (by omega)]; simp
  rw [e]; exact this
end Go.Proofs.YtccejdncpknbaaaDoor.Sy.Dg
/- ref11: Digits, Text, Shown, Check, Write, whole. -/
namespace Go.Proofs.YtccejdncpknbaaaDoor.Sy.Rf
open Go Go.Proofs.YtccejdncpknbaaaDoor.Ab Go.Proofs.YtccejdncpknbaaaDoor.Sy Go.Proofs.YtccejdncpknbaaaDoor.Sy.Tx Go.Proofs.YtccejdncpknbaaaDoor.Sy.Vl Go.Proofs.YtccejdncpknbaaaDoor.Sy.Tc Go.Proofs.YtccejdncpknbaaaDoor.Sy.Wi
set_option maxRecDepth 1000000
set_option linter.unusedVariables false
set_option linter.unusedSimpArgs false
theorem digitsR (v : List Bool) (hl : v.length ≤ 100000000) : ICall Tryd.prog 50 [.d (BL v)] [] (.d (.str (digs v))) [] := by
  have loop := str_loop (k := loopOf Tryd.prog 50 0) v (fun i l => Hz (v.map D.bool) l [(4, .d (I i))]) (.exit 0) (fun l => Hz (v.map D.bool) l []) (fun b => if b then [49] else [48]) 0 1
    (fun x _ => by cases x <;> simp)
    (fun i l hi _ hl' e s hh => by
      have q0 : decide ((i : Int) < (((v.map D.bool).length : Nat) : Int)) = true := decide_eq_true (by rw [List.length_map]; omega)
      have gm := get_map D.bool v i hi
      cases hb : v.getD i default with
      | true =>
        rw [hb] at gm hh
        exact .step hO hm (z1 i _ l) ⟨q0, ⟨rfl, gm⟩, by omega, wrap_succ (by omega)⟩ hh
      | false =>
        rw [hb] at gm hh
        exact .step hO hm (z2 i _ l) ⟨q0, ⟨rfl, gm⟩, by omega, wrap_succ (by omega)⟩ hh)
    (fun l _ => .stop hO hm (z3 v.length (v.map D.bool) l) (by simp) (decide_eq_false (by rw [List.length_map]; omega)))
    [] (Nat.le_refl _)
  rw [List.nil_append] at loop
  exact callX_ok hO hm (zc (v.map D.bool) (digs v)) loop
theorem textR (t : Tr) (n : Int) (ht : Tz t) (h0 : 0 ≤ n) (h1 : n ≤ 1000000000000000000) : ICall Tryd.prog 22 [.d t.d, .d (I n)] [] (.d (.str (txt t n))) [] := by
  have hd := Dg.digits n h0 h1
  have hil : (Lib.itoa n).length ≤ 22 := by
    have := Lib.itoa_length_le n (by omega) (by omega)
    omega
  have hd2 := digs_len t.first
  have hf := ht.first
  have hn := ht.ins
  have hdf := digitsR t.first (by omega)
  have loop := str_loop (k := loopOf Tryd.prog 22 0) t.ins (fun i l => Hx t l [(6, .d (I i))]) (.exit 0) (fun l => Hx t l []) (fun v => digs v ++ [10]) 11000 10001
    (fun x hx => by rw [List.length_append, digs_len]; have := ht.each x hx; simp; omega)
    (fun i l hlt hmem hl e s hh => by
      have := ht.each _ hmem
      have hdl := digs_len (t.ins.getD i default)
      exact .step hO hm (x1 t i l (digs (t.ins.getD i default))) ⟨decide_eq_true (by rw [List.length_map]; omega), ⟨rfl, get_map BL t.ins i hlt⟩, digitsR _ (by omega), by omega, by
        show l.length + (digs (t.ins.getD i default) ++ [10]).length < _
        rw [List.length_append]; simp only [List.length_cons, List.length_nil]; omega, wrap_succ (by omega)⟩ hh)
    (fun l _ => .stop hO hm (x2 t t.ins.length l) (by simp) (decide_eq_false (by rw [List.length_map]; omega)))
    ([49, 10, 98] ++ Lib.itoa n ++ [10] ++ digs t.first ++ [10]) (by simp; omega)
  have hfl : ∀ ls : List (List Bool), (∀ l ∈ ls, l.length ≤ 10000) → (ls.flatMap (fun l => digs l ++ [10])).length ≤ 10001 * ls.length := by
    intro ls
    induction ls with
    | nil => intro _; simp
    | cons x r ih =>
      intro hh
      simp only [List.flatMap_cons, List.length_append, digs_len, List.length_cons, List.length_nil]
      have := ih fun y hy => hh y (by simp [hy])
      have := hh x (by simp)
      omega
  have hfl := hfl t.ins ht.each
  have l := xc t n (Lib.itoa n) (digs t.first) ([49, 10, 98] ++ Lib.itoa n ++ [10] ++ digs t.first ++ [10] ++ t.ins.flatMap (fun l => digs l ++ [10]))
  refine callX_ok hO hm l ⟨hd, by omega, ?_, hdf, ?_, ?_, loop, ?_⟩
  · show ([49, 10, 98] ++ Lib.itoa n : List UInt8).length + 1 < _
    simp; omega
  · show ([49, 10, 98] ++ Lib.itoa n ++ [10] : List UInt8).length + (digs t.first).length < _
    simp; omega
  · show ([49, 10, 98] ++ Lib.itoa n ++ [10] ++ digs t.first : List UInt8).length + 1 < _
    simp; omega
  · show ([49, 10, 98] ++ Lib.itoa n ++ [10] ++ digs t.first ++ [10] ++ t.ins.flatMap (fun l => digs l ++ [10]) : List UInt8).length + 2 < _
    simp only [List.length_append, List.length_cons, List.length_nil]; omega
section
variable {c : Ci} {t : Tr}
theorem shownR (k : Ok c t) (ht : Tw t) (n : Int) (h0 : ¬ n < 0) (h1 : ¬ n ≥ (c.bads.length : Int)) : ICall Tryd.prog 27 [.d c.d, .d t.d, .d (I n)] [] (.d (.bool (shown c t n.toNat))) [] := by
  have hg := gd k.chk
  have hf := k.few
  have hsm := k.some
  have hz := hg.sz
  have hin := hg.ins
  have ha := allowedR k ht
  have hti := ht.ins
  unfold shown
  by_cases c1 : ((right c t : Nat) : Int) < (((t.ins.map BL).length : Nat) : Int)
  · rw [decide_eq_false (by rw [List.length_map] at c1; omega), Bool.false_and]
    exact callX_ok hO hm (sh0 c t n _) ⟨ha, decide_eq_true c1⟩
  · rw [decide_eq_true (by rw [List.length_map] at c1; omega), Bool.true_and]
    have hlt : t.ins.length - 1 < t.ins.length := by omega
    have hl : (t.ins.map BL).length = t.ins.length := List.length_map _
    have e2 : ((((t.ins.map BL).length : Nat) : Int) - 1).toNat = t.ins.length - 1 := by rw [hl]; omega
    have hsl : (states c t).length = t.ins.length := by unfold states; simp
    have hal := allR k ht
    have hfr := frameR hg (stAt_len k (t.ins.length - 1)) (inp_len k hlt)
    rw [← st_get hlt, ← e2] at hfr
    have hn : n.toNat < c.bads.length := by omega
    have hb := hg.bads _ (mem_getD hn)
    have hfl := frame_len c (stAt c t (t.ins.length - 1)) (t.ins.getD (t.ins.length - 1) default)
    have h1 := stAt_len k (t.ins.length - 1)
    have h2 := inp_len k hlt
    have hv := value (v := frame c (stAt c t (t.ins.length - 1)) (t.ins.getD (t.ins.length - 1) default)) (l := c.bads.getD n.toNat default) (by omega) (by omega) (by omega)
    have eb : (badsS c (stAt c t (t.ins.length - 1)) (t.ins.getD (t.ins.length - 1) default)).getD n.toNat default = val (frame c (stAt c t (t.ins.length - 1)) (t.ins.getD (t.ins.length - 1) default)) (c.bads.getD n.toNat default) := by
      unfold badsS
      have e1 : c.bads.getD n.toNat default = c.bads[n.toNat] := by rw [List.getD_eq_getElem?_getD, List.getElem?_eq_getElem hn]; rfl
      rw [e1, List.getD_eq_getElem?_getD (l := c.bads.map _), List.getElem?_map, List.getElem?_eq_getElem hn]; rfl
    rw [eb]
    rw [← st_get hlt, ← e2] at hv
    have es : (states c t).getD (t.ins.length - 1) default = stAt c t (t.ins.length - 1) := st_get hlt
    rw [← es, ← e2]
    have q1 : IntKind.i64.wrap ((((t.ins.map BL).length : Nat) : Int) - 1) = (((t.ins.map BL).length : Nat) : Int) - 1 := wrap_id (by omega) (by omega)
    have l := sh1 c t n ((right c t : Nat) : Int) (frame c ((states c t).getD ((((t.ins.map BL).length : Nat) : Int) - 1).toNat default) (t.ins.getD ((((t.ins.map BL).length : Nat) : Int) - 1).toNat default)) (val (frame c ((states c t).getD ((((t.ins.map BL).length : Nat) : Int) - 1).toNat default) (t.ins.getD ((((t.ins.map BL).length : Nat) : Int) - 1).toNat default)) (c.bads.getD n.toNat default)) (states c t)
    exact callX_ok hO hm l ⟨ha, decide_eq_false c1, hal, q1, ⟨by omega, get_map BL (states c t) _ (by rw [e2, hsl]; exact hlt)⟩, q1, ⟨by omega, get_map BL t.ins _ (by rw [e2]; exact hlt)⟩, hfr, ⟨by omega, get_map I c.bads n.toNat hn⟩, hv⟩
variable (h : Cw c) (ht : Tw t)
include h ht
theorem wcheckR (n : Int) : ICall Tryd.prog 13 [.d c.d, .d t.d, .d (I n)] [] (.d (I (wtChk c t n))) [] := by
  have hc := checkR h ht
  unfold wtChk
  by_cases c0 : trChk c t ≠ 0
  · rw [if_pos c0]; exact callX_ok hO hm (wk0 c t n (trChk c t)) ⟨hc, bne_iff_ne.2 c0, hc⟩
  rw [if_neg c0]
  have c0 := Decidable.not_not.1 c0
  rw [c0] at hc
  by_cases c1 : n < 0
  · rw [if_pos c1]; exact callX_ok hO hm (wk1 c t n) ⟨hc, rfl, decide_eq_true c1⟩
  rw [if_neg c1]
  by_cases c2 : n ≥ (c.bads.length : Int)
  · rw [if_pos c2]; exact callX_ok hO hm (wk2 c t n) ⟨hc, rfl, decide_eq_false c1, decide_eq_true (by rw [List.length_map]; exact c2)⟩
  rw [if_neg c2]
  have d2 : decide (n ≥ (((c.bads.map I).length : Nat) : Int)) = false := decide_eq_false (by rw [List.length_map]; exact c2)
  have hs := shownR (ok_of c0) ht n c1 c2
  cases c3 : shown c t n.toNat with
  | true => rw [c3] at hs; rw [if_pos rfl]; exact callX_ok hO hm (wk4 c t n) ⟨hc, rfl, decide_eq_false c1, d2, hs, rfl⟩
  | false => rw [c3] at hs; rw [if_neg (by simp)]; exact callX_ok hO hm (wk3 c t n) ⟨hc, rfl, decide_eq_false c1, d2, hs, rfl⟩
omit h ht in
theorem wr_ok {n : Int} (hz : wtChk c t n = 0) : trChk c t = 0 ∧ 0 ≤ n ∧ n < (c.bads.length : Int) := by
  unfold wtChk at hz
  by_cases c0 : trChk c t ≠ 0
  · rw [if_pos c0] at hz; exact absurd hz c0
  rw [if_neg c0] at hz
  by_cases c1 : n < 0
  · rw [if_pos c1] at hz; cases hz
  rw [if_neg c1] at hz
  by_cases c2 : n ≥ (c.bads.length : Int)
  · rw [if_pos c2] at hz; cases hz
  exact ⟨Decidable.not_not.1 c0, by omega, by omega⟩
theorem writeR (hz : Tz t) (n : Int) : ICall Tryd.prog 11 [.d c.d, .d t.d, .d (I n)] [] (.tup [.d (.str (wtS c t n)), .d (I (wtChk c t n))]) [] := by
  have hc := wcheckR h ht n
  unfold wtS
  by_cases c0 : wtChk c t n = 0
  · rw [if_pos c0, c0]
    obtain ⟨-, k1, k2⟩ := wr_ok c0
    have hb := h.bads
    rw [c0] at hc
    exact callX_ok hO hm (ww1 c t n (txt t n)) ⟨hc, rfl, textR t n hz k1 (by omega)⟩
  · rw [if_neg c0]
    exact callX_ok hO hm (ww0 c t n (wtChk c t n)) ⟨hc, bne_iff_ne.2 c0, hc⟩
end
end Go.Proofs.YtccejdncpknbaaaDoor.Sy.Rf
/- WitnessWrites: the law. -/
namespace Go.Proofs.YtccejdncpknbaaaDoor.Sy.Lw
open Go Go.Proofs.YtccejdncpknbaaaDoor.Ab Go.Proofs.YtccejdncpknbaaaDoor.Sy Go.Proofs.YtccejdncpknbaaaDoor.Sy.Tx Go.Proofs.YtccejdncpknbaaaDoor.Sy.Vl Go.Proofs.YtccejdncpknbaaaDoor.Sy.Tc Go.Proofs.YtccejdncpknbaaaDoor.Sy.Wi Go.Proofs.YtccejdncpknbaaaDoor.Sy.Rf
set_option maxRecDepth 1000000
set_option linter.unusedVariables false
section
variable (c : Ci) (t : Tr) (n e : Int) (s : List UInt8)
theorem x0  : callX Tryd.prog wr false O 3 [.d c.d, .d t.d, .d (I n)] [] [It.icall [] (V.d (D.bool true)) []] = some (V.d (D.bool true), [],
  [ICall Tryd.prog 7 [V.d (D.agg [I c.ins, D.sl (List.map Lt.d c.lats), D.sl (List.map An.d c.ands), L c.bads, L c.cons])] [] (V.d (D.bool true)) []]) := by kernel_rfl
theorem x1  : callX Tryd.prog wr false O 3 [.d c.d, .d t.d, .d (I n)] [] [It.icall [] (V.d (D.bool false)) [], It.icall [] (V.d (D.bool true)) []] = some (V.d (D.bool true), [],
  [ICall Tryd.prog 7 [V.d (D.agg [I c.ins, D.sl (List.map Lt.d c.lats), D.sl (List.map An.d c.ands), L c.bads, L c.cons])] [] (V.d (D.bool false)) [],
   ICall Tryd.prog 8 [V.d (D.agg [BL t.first, D.sl (List.map BL t.ins)])] [] (V.d (D.bool true)) []]) := by kernel_rfl
theorem x2  : callX Tryd.prog wr false O 3 [.d c.d, .d t.d, .d (I n)] [] [It.icall [] (V.d (D.bool false)) [], It.icall [] (V.d (D.bool false)) [], It.icall [] (V.d t.d) [], It.icall [] (V.tup [V.d (D.str s), V.d (I e)]) [], It.icall [] (V.tup [V.d (D.str s), V.d (I e)]) [], It.br true, It.br true, It.icall [] (V.d (I e)) [], It.icall [] (V.d (I e)) [], It.br true, It.icall [] (V.d (D.bool true)) []] = some (V.d (D.bool true), [],
  [ICall Tryd.prog 7 [V.d (D.agg [I c.ins, D.sl (List.map Lt.d c.lats), D.sl (List.map An.d c.ands), L c.bads, L c.cons])] [] (V.d (D.bool false)) [],
   ICall Tryd.prog 8 [V.d (D.agg [BL t.first, D.sl (List.map BL t.ins)])] [] (V.d (D.bool false)) [],
   ICall Tryd.prog 9 [V.d (D.agg [BL t.first, D.sl (List.map BL t.ins)])] [] (V.d t.d) [],
   ICall Tryd.prog 10 [V.d (D.agg [I c.ins, D.sl (List.map Lt.d c.lats), D.sl (List.map An.d c.ands), L c.bads, L c.cons]), V.d (D.agg [BL t.first, D.sl (List.map BL t.ins)]), V.d (I n)] [] (V.tup [V.d (D.str s), V.d (I e)]) [],
   ICall Tryd.prog 11 [V.d (D.agg [I c.ins, D.sl (List.map Lt.d c.lats), D.sl (List.map An.d c.ands), L c.bads, L c.cons]), V.d (D.agg [BL t.first, D.sl (List.map BL t.ins)]), V.d (I n)] [] (V.tup [V.d (D.str s), V.d (I e)]) [],
   (s == s) = true,
   (e == e) = true,
   ICall Tryd.prog 12 [V.d (D.agg [I c.ins, D.sl (List.map Lt.d c.lats), D.sl (List.map An.d c.ands), L c.bads, L c.cons]), V.d (D.agg [BL t.first, D.sl (List.map BL t.ins)]), V.d (I n)] [] (V.d (I e)) [],
   ICall Tryd.prog 13 [V.d (D.agg [I c.ins, D.sl (List.map Lt.d c.lats), D.sl (List.map An.d c.ands), L c.bads, L c.cons]), V.d (D.agg [BL t.first, D.sl (List.map BL t.ins)]), V.d (I n)] [] (V.d (I e)) [],
   (e == e) = true,
   ICall Tryd.prog 14 [V.d (D.agg [BL t.first, D.sl (List.map BL t.ins)]), V.d (D.agg [BL t.first, D.sl (List.map BL t.ins)])] [] (V.d (D.bool true)) []]) := by kernel_rfl
end
end Go.Proofs.YtccejdncpknbaaaDoor.Sy.Lw
/- WitnessWrites, whole. -/
namespace Go.Proofs.YtccejdncpknbaaaDoor.Sy.Lw
open Go Go.Proofs.YtccejdncpknbaaaDoor.Ab Go.Proofs.YtccejdncpknbaaaDoor.Sy Go.Proofs.YtccejdncpknbaaaDoor.Sy.Tx Go.Proofs.YtccejdncpknbaaaDoor.Sy.Vl Go.Proofs.YtccejdncpknbaaaDoor.Sy.Tc Go.Proofs.YtccejdncpknbaaaDoor.Sy.Wi Go.Proofs.YtccejdncpknbaaaDoor.Sy.Rf
set_option maxRecDepth 1000000
set_option linter.unusedVariables false
theorem tw_of {t : Tr} (h : great6 t = false) : Tw t ∧ Tz t := by
  obtain ⟨h1, h2, h3⟩ := small6 h
  exact ⟨⟨by omega, by omega, fun l hl => by have := h3 l hl; omega⟩, ⟨by omega, by omega, fun l hl => by have := h3 l hl; omega⟩⟩
theorem witnessWrites (c : Ci) (t : Tr) (n : Int) (hx : Cx c) (hi : t.ins.length ≤ maxLen) (h0 : -9223372036854775808 ≤ n) (h1 : n ≤ 9223372036854775807) : ICall Tryd.prog 3 [.d c.d, .d t.d, .d (I n)] [] (.d (.bool true)) [] := by
  have hg := great2_ok c
  cases cg : great2 c with
  | true => rw [cg] at hg; exact callX_ok hO hm (x0 c t n) hg
  | false =>
  rw [cg] at hg
  have h := cw_of cg hx
  have hgt : ICall Tryd.prog 8 [.d t.d] [] (.d (.bool (great6 t))) [] := greatT t (Nat.le_trans hi (by decide))
  cases ct : great6 t with
  | true => rw [ct] at hgt; exact callX_ok hO hm (Lw.x1 c t n) ⟨hg, hgt⟩
  | false =>
  rw [ct] at hgt
  obtain ⟨ht, hz⟩ := tw_of ct
  have hs := sameT t t ht ht
  rw [decide_eq_true rfl, decide_eq_true rfl] at hs
  exact callX_ok hO hm (Lw.x2 c t n (wtChk c t n) (wtS c t n)) ⟨hg, hgt, twinR ht, Write h ht hz n h0 h1, writeR h ht hz n, by simp, by simp, wcheck h ht n, wcheckR h ht n, by simp, hs⟩
end Go.Proofs.YtccejdncpknbaaaDoor.Sy.Lw
/- The row of WitnessWrites. -/
namespace Go.Proofs.YtccejdncpknbaaaDoor.witnessWrites
open Go.ChangeShapes Go.WideShapes Go.ChangeAt Go.RowKit Go.Proofs.YtccejdncpknbaaaDoor.Ab Go.Proofs.YtccejdncpknbaaaDoor.Sy Go.Proofs.YtccejdncpknbaaaDoor.Lk Go.Proofs.YtccejdncpknbaaaDoor.Sy.Tc
set_option linter.unusedVariables false
theorem calls (W : World) (hG : GOk W (Old W)) (r0 : Ci) (r1 : Tr) (r2 : Int) (v0 : Value) (v1 : Value) (v2 : Value) (k0 : okC r0) (k1 : okT r1) (k2 : okI r2) (h0 : DRel W (Old W) r0.d v0) (h1 : DRel W (Old W) r1.d v1) (h2 : DRel W (Old W) (.int .i64 r2) v2) :
    Calls Tryd.prog 3 #[v0, v1, v2] W (fun e W' => e = .returned (.bool true) ∧ Below W.heap.size W W') := by
  have h := Sy.Lw.witnessWrites r0 r1 r2 (cx_of k0) k1.2.1 (i64_of k2).1 (i64_of k2).2 W (Old W) [] [v0, v1, v2] (srel_nil (fun _ h => h) hG) ⟨h0, h1, h2, trivial⟩
  refine h.mono fun e W' ⟨x, μ', Pr', he, _, hx, hev, _⟩ => ?_
  obtain rfl : x = .bool true := Ab.drel_bool (show Ab.DRel W' Pr' (.bool true) x from hx)
  exact ⟨he, hev.os, hev.tape, hev.output, hev.size, fun k hk => hev.block k hk (by simp [Ab.owns])⟩
set_option maxRecDepth 100000 in
theorem lifted (os : Os) (started : os.Started) (H : Type) (enc : TypeId × Value → H) :
    ReturnsInHanded {} Tryd.checked os 3 .any (fun w args => (Rows.witnessWritesSpec.pre enc Tryd.prog Tryd.f3 Rows.witnessWritesRow.domain false w args ∧ laidMetH Tryd.prog Rows.witnessWritesRow.laid w) ∧ sizedMet enc Tryd.prog Tryd.f3 (OpenSpec.ofChange Rows.witnessWritesSpec) false w args)
      (Rows.witnessWritesSpec.post enc Tryd.prog Tryd.f3 false true false false) := by
  refine returnsInHanded_of_change_and (C := Tryd.checked) (X := fun w _ => laidMetH Tryd.prog Rows.witnessWritesRow.laid w) (fun _ _ _ hh h => h.of_heap hh) own started (by kernel_rfl) Tryd.func3
    (ChangeSpec.witness_shaped (enc := enc) (C := Tryd.checked) (os := os) (X := fun w _ => laidMetH Tryd.prog Rows.witnessWritesRow.laid w) false (World.laidAll Tryd.prog os Rows.witnessWritesRow.laid) #[.agg #[.int .i64 0, .slice none 0 0, .slice none 0 0, .slice none 0 0, .slice none 0 0], .agg #[.slice none 0 0, .slice none 0 0], .int .i64 0] 8 (World.laidAll_os _ _ _)
      (World.shaped_of_ZipB (by kernel_rfl) (by kernel_rfl)) (by kernel_rfl) (by kernel_rfl) (by kernel_rfl)
      (by rw [MakeChecks.laidMetH_plain _ _ _ (by kernel_rfl)]; exact laidMet_laidAll _ (by kernel_rfl) (by kernel_rfl))) ?_
  intro W base args ds gs before hval0 hW hcnd _ hL _
  have hval : ∀ (j : Nat) t v, Tryd.f3.params[j]? = some t → args[j]? = some v → Value.okWide Tryd.prog W .any base t v := hval0
  have hW' := hW
  obtain ⟨p, q, hA0, hV, rfl, hfz, hnd⟩ := hW
  have hA : DataW.TrodAll enc Tryd.prog W 0 (fun _ => true) true Tryd.f3.params.toList args.toList ds p := hA0
  rw [Tryd.params3] at hA hval
  obtain ⟨v0, vs0, d0, ds0, p0, q0, hargs0, rfl, rfl, h0, r0⟩ := trodAll_cons hA
  obtain ⟨v1, vs1, d1, ds1, p1, q1, hargs1, rfl, rfl, h1, r1⟩ := trodAll_cons r0
  obtain ⟨v2, vs2, d2, ds2, p2, q2, hargs2, rfl, rfl, h2, r2⟩ := trodAll_cons r1
  obtain ⟨rfl, rfl, rfl⟩ := trodAll_nil r2
  obtain rfl : args = #[v0, v1, v2] := by cases args; simp_all
  obtain ⟨rfl, rfl⟩ := trodVars_none hV
  have k0 := h0
  have lt0 : ∀ x ∈ p0, x.block < W.heap.size := by obtain ⟨m, hm⟩ := k0; exact DataW.trod_lt m _ _ _ hm
  obtain ⟨a0, ok0, g0⟩ := drel_struct Tryd.underlying26 opC (hval 0 26 v0 rfl rfl) h0
  have k1 := h1
  have lt1 : ∀ x ∈ p1, x.block < W.heap.size := by obtain ⟨m, hm⟩ := k1; exact DataW.trod_lt m _ _ _ hm
  obtain ⟨a1, ok1, g1⟩ := drel_struct Tryd.underlying30 opT (hval 1 30 v1 rfl rfl) h1
  have k2 := h2
  have lt2 : ∀ x ∈ p2, x.block < W.heap.size := by obtain ⟨m, hm⟩ := k2; exact DataW.trod_lt m _ _ _ hm
  obtain ⟨a2, rfl, rfl, rfl, ok2⟩ := open_int Tryd.underlying3 (hval 2 3 v2 rfl rfl) h2
  clear hA0 hval0
  refine (calls W (gok hL) a0 a1 a2 _ _ _ ok0 ok1 ok2 g0 g1 (.int _ _)).mono fun e W' ⟨he, bel⟩ => ?_
  subst he
  exact ⟨_, rfl, _, _, _, [], _, [], hW', trodAll_mk1 (shut_bool Tryd.underlying4 _), (trodAll_cons_mk (Below.trod laidOut (by kernel_rfl) (of_decide_eq_true (by kernel_rfl)) k0 bel lt0) (trodAll_cons_mk (Below.trod laidOut (by kernel_rfl) (of_decide_eq_true (by kernel_rfl)) k1 bel lt1) (trodAll_cons_mk (Below.trod laidOut (by kernel_rfl) (of_decide_eq_true (by kernel_rfl)) k2 bel lt2) trodAll_mk0))), rfl, bel.frame _, fun h => by cases h⟩
theorem over : Rows.witnessWritesRow.holds Tryd.pinned (OpenSpec.ofChange Rows.witnessWritesSpec) :=
  OpenClaim.holds_of_wide 3 Tryd.f3 rfl rfl rfl rfl rfl rfl rfl ⟨rfl, rfl, rfl, rfl, rfl⟩ rfl rfl rfl rfl rfl (by kernel_rfl) Tryd.func3 (by kernel_rfl)
    (of_decide_eq_true (by kernel_rfl)) (by unfold Func.isWrapper; first | (rw [if_pos (by decide +kernel)]; kernel_rfl) | (rw [if_neg (by decide +kernel)]; exact ⟨rfl, rfl⟩))
    (fun os started H enc _ => lifted os started H enc)
theorem card : Rows.WitnessWritesCardSaid :=
  Claim7.holds_tied_plain_at .later [] [.data, .data, .data] true (true, "01e64508cbc8e0ad8fe8bf9f0f4f432c1f08aa96a9ce31ff62a7a6db8a9be0d3") true
    over (fun _ h => by cases h) (by kernel_rfl) (fun _ h => by cases h) witnessWrites_row_tie rfl ⟨rfl, rfl⟩ (by kernel_rfl) rfl
    (fun f fn hf hfn => by
      obtain rfl : f = 3 := Option.some.inj ((show Tryd.prog.funcNamed "spiritlevel/spiritlevellaw11.WitnessWrites" = some 3 by kernel_rfl).symm.trans hf) |>.symm
      obtain rfl : fn = Tryd.f3 := (Option.some.inj (Tryd.func3.symm.trans hfn)).symm
      exact ⟨by kernel_rfl, fun j t ht => by
        rw [Tryd.params3] at ht
        have hm : t ∈ [26, 30, 3] := by simpa using Array.mem_of_getElem? ht
        have hall : ([26, 30, 3].all fun u => !Tryd.prog.wantsStandIn u) = true := by kernel_rfl
        exact (show Tryd.prog.wantsStandIn t = false by simpa using List.all_eq_true.1 hall t hm)⟩)
    (by kernel_rfl)
end Go.Proofs.YtccejdncpknbaaaDoor.witnessWrites
namespace Go.Proofs.YtccejdncpknbaaaDoor
/-- The card, under a short name, for the claim. -/
theorem witnessWrites_holds : Rows.WitnessWritesCardSaid := witnessWrites.card
end Go.Proofs.YtccejdncpknbaaaDoor
