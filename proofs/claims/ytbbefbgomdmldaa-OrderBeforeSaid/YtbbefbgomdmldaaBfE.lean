/- Texts of this claim, one behind the other: gates.Check's question: whether a latch is wrong; where inputs, latches and gates start. .. -/
import Derived.Test.YtbbefbgomdmldaaBfD
import Derived.Test.YtbbefbgomdmldaaBfC
import Derived.Test.YtbbefbgomdmldaaRows
import Derived.WalkKit
/- gates.Check's question: whether a latch is wrong; where inputs, latches and gates start. -/
namespace Go.Proofs.Ytbbefbgomdmldaa.Sy
open Go Go.Proofs.Ytbbefbgomdmldaa.Ab
set_option maxRecDepth 1000000
def wrongB (s3 : Int) (l : Lt) : Bool := outB s3 l.next || (decide (l.reset < 0) || decide (l.reset > 2))
section
variable (l : Lt) (s0 s1 s2 s3 : Int)
theorem wrong1 : callX Try.prog wr false O 32 [.d l.d, .ptr 0 0] [.box [.func 31 [.ptr 1 0]], .box [.d (I s0), .d (I s1), .d (I s2), .d (I s3)]] [.icall [1] (.d (.bool true)) [.box [.d (I s0), .d (I s1), .d (I s2), .d (I s3)]]]
  = some (.d (.bool true), [.box [.func 31 [.ptr 1 0]], .box [.d (I s0), .d (I s1), .d (I s2), .d (I s3)]],
    [ICall Try.prog 31 [.d (I l.next), .ptr 0 0] [.box [.d (I s0), .d (I s1), .d (I s2), .d (I s3)]] (.d (.bool true)) [.box [.d (I s0), .d (I s1), .d (I s2), .d (I s3)]]]) := by kernel_rfl
theorem wrong2 : callX Try.prog wr false O 32 [.d l.d, .ptr 0 0] [.box [.func 31 [.ptr 1 0]], .box [.d (I s0), .d (I s1), .d (I s2), .d (I s3)]] [.icall [1] (.d (.bool false)) [.box [.d (I s0), .d (I s1), .d (I s2), .d (I s3)]], .br true]
  = some (.d (.bool true), [.box [.func 31 [.ptr 1 0]], .box [.d (I s0), .d (I s1), .d (I s2), .d (I s3)]],
    [ICall Try.prog 31 [.d (I l.next), .ptr 0 0] [.box [.d (I s0), .d (I s1), .d (I s2), .d (I s3)]] (.d (.bool false)) [.box [.d (I s0), .d (I s1), .d (I s2), .d (I s3)]], decide (l.reset < 0) = true]) := by kernel_rfl
theorem wrong3 (b : Bool) : callX Try.prog wr false O 32 [.d l.d, .ptr 0 0] [.box [.func 31 [.ptr 1 0]], .box [.d (I s0), .d (I s1), .d (I s2), .d (I s3)]] [.icall [1] (.d (.bool false)) [.box [.d (I s0), .d (I s1), .d (I s2), .d (I s3)]], .br false, .br b]
  = some (.d (.bool b), [.box [.func 31 [.ptr 1 0]], .box [.d (I s0), .d (I s1), .d (I s2), .d (I s3)]],
    [ICall Try.prog 31 [.d (I l.next), .ptr 0 0] [.box [.d (I s0), .d (I s1), .d (I s2), .d (I s3)]] (.d (.bool false)) [.box [.d (I s0), .d (I s1), .d (I s2), .d (I s3)]], decide (l.reset < 0) = false, decide (l.reset > 2) = b]) := by kernel_rfl
theorem wrong : ICall Try.prog 32 [.d l.d, .ptr 0 0] [.box [.func 31 [.ptr 1 0]], .box [.d (I s0), .d (I s1), .d (I s2), .d (I s3)]] (.d (.bool (wrongB s3 l))) [.box [.func 31 [.ptr 1 0]], .box [.d (I s0), .d (I s1), .d (I s2), .d (I s3)]] := by
  have ho := out l.next s0 s1 s2 s3
  unfold wrongB
  cases h : outB s3 l.next with
  | true => rw [h] at ho; exact callX_ok hO hm (wrong1 l s0 s1 s2 s3) ho
  | false =>
    rw [h] at ho
    by_cases h2 : l.reset < 0
    · rw [decide_eq_true h2]
      exact callX_ok hO hm (wrong2 l s0 s1 s2 s3) ⟨ho, by simpa [AllP] using h2⟩
    · rw [decide_eq_false h2, Bool.false_or, Bool.false_or]
      exact callX_ok hO hm (wrong3 l s0 s1 s2 s3 _) ⟨ho, by simpa using h2, rfl⟩
end

section
variable (c : Ci)
def st1 : Int := 1 + c.ins
def st2 : Int := 1 + c.ins + ((c.lats.map Lt.d).length : Nat)
def st3 : Int := 1 + c.ins + ((c.lats.map Lt.d).length : Nat) + ((c.ands.map An.d).length : Nat)
theorem starts1 : callX Try.prog wr false O 30 [.d c.d] [] [.is (st1 c), .is (st2 c), .is (st3 c)] = some (.d (.agg [I 1, I (st1 c), I (st2 c), I (st3 c)]), [],
  [IntKind.i64.wrap (1 + c.ins) = st1 c, IntKind.i64.wrap (st1 c + ((c.lats.map Lt.d).length : Nat)) = st2 c, IntKind.i64.wrap (st2 c + ((c.ands.map An.d).length : Nat)) = st3 c]) := by kernel_rfl
theorem starts (h0 : 0 ≤ c.ins) (h1 : c.ins ≤ 1000) (h2 : c.lats.length ≤ 1000000) (h3 : c.ands.length ≤ 1000000) : ICall Try.prog 30 [.d c.d] [] (.d (.agg [I 1, I (st1 c), I (st2 c), I (st3 c)])) [] := by
  refine callX_ok hO hm (starts1 c) ⟨?_, ?_, ?_⟩ <;> simp only [st1, st2, st3, List.length_map] <;> exact wrap_id (by omega) (by omega)
end
end Go.Proofs.Ytbbefbgomdmldaa.Sy
/- Whether a list has an element of which a closure says so: spiritlevel/gates.Check$2. -/
namespace Go.Proofs.Ytbbefbgomdmldaa.Sy.Gc2
open Go Go.Proofs.Ytbbefbgomdmldaa.Ab Go.Proofs.Ytbbefbgomdmldaa.Sy
set_option maxRecDepth 1000000
set_option linter.unusedVariables false
section
variable (s0 s1 s2 s3 : Int) (xs : List Lt) (i : Nat)
def H (xs : List Lt) (s0 s1 s2 s3 : Int) (i : Nat) : St := ⟨mk 19 [(0, .d (.sl (xs.map Lt.d))), (1, .func 32 [.ptr 0 0]), (7, .d (I ((xs.map Lt.d).length : Nat))), (8, .d (I i))] [], [.box [.func 31 [.ptr 1 0]], .box [.d (I s0), .d (I s1), .d (I s2), .d (I s3)]]⟩
def E (s0 s1 s2 s3 : Int) : St := ⟨mk 19 [] [], [.box [.func 31 [.ptr 1 0]], .box [.d (I s0), .d (I s1), .d (I s2), .d (I s3)]]⟩
def R (s0 s1 s2 s3 : Int) (i : Nat) : St := ⟨mk 19 [(4, .d (I i))] [], [.box [.func 31 [.ptr 1 0]], .box [.d (I s0), .d (I s1), .d (I s2), .d (I s3)]]⟩
theorem rd1 : round Try.prog wr false O (loopOf Try.prog 49 0) (H xs s0 s1 s2 s3 i) [It.br true, It.el i (Lt.d (xs.getD i default)), .icall [0, 1] (.d (.bool false)) [.box [.func 31 [.ptr 1 0]], .box [.d (I s0), .d (I s1), .d (I s2), .d (I s3)]], .is ((i + 1 : Nat) : Int)] [0, 1, 7, 8] 2 = some (.normal, H xs s0 s1 s2 s3 (i + 1),
  [decide ((↑i : Int) < (((xs.map Lt.d).length : Nat) : Int)) = true, (↑i : Int) = (↑i : Int) ∧ (xs.map Lt.d)[i]? = some (Lt.d (xs.getD i default)), ICall Try.prog 32 [.d (Lt.d (xs.getD i default)), .ptr 0 0] [.box [.func 31 [.ptr 1 0]], .box [.d (I s0), .d (I s1), .d (I s2), .d (I s3)]] (.d (.bool false)) [.box [.func 31 [.ptr 1 0]], .box [.d (I s0), .d (I s1), .d (I s2), .d (I s3)]], IntKind.i64.wrap ((i : Int) + 1) = ((i + 1 : Nat) : Int)]) := by kernel_rfl
theorem rd2 : round Try.prog wr false O (loopOf Try.prog 49 0) (H xs s0 s1 s2 s3 i) [It.br true, It.el i (Lt.d (xs.getD i default)), .icall [0, 1] (.d (.bool true)) [.box [.func 31 [.ptr 1 0]], .box [.d (I s0), .d (I s1), .d (I s2), .d (I s3)]]] [4] 2 = some (.ret, R s0 s1 s2 s3 i,
  [decide ((↑i : Int) < (((xs.map Lt.d).length : Nat) : Int)) = true, (↑i : Int) = (↑i : Int) ∧ (xs.map Lt.d)[i]? = some (Lt.d (xs.getD i default)), ICall Try.prog 32 [.d (Lt.d (xs.getD i default)), .ptr 0 0] [.box [.func 31 [.ptr 1 0]], .box [.d (I s0), .d (I s1), .d (I s2), .d (I s3)]] (.d (.bool true)) [.box [.func 31 [.ptr 1 0]], .box [.d (I s0), .d (I s1), .d (I s2), .d (I s3)]]]) := by kernel_rfl
theorem rd3 : round Try.prog wr false O (loopOf Try.prog 49 0) (H xs s0 s1 s2 s3 i) [It.br false] [] 2 = some (.exit 0, E s0 s1 s2 s3, [decide ((↑i : Int) < (((xs.map Lt.d).length : Nat) : Int)) = false]) := by kernel_rfl
theorem f1 (j : Nat) : callX Try.prog wr false O 49 [.d (.sl (xs.map Lt.d)), .func 32 [.ptr 0 0]] [.box [.func 31 [.ptr 1 0]], .box [.d (I s0), .d (I s1), .d (I s2), .d (I s3)]] [.lp [0, 1, 7, 8] .ret (R s0 s1 s2 s3 j)] = some (.d (I j), [.box [.func 31 [.ptr 1 0]], .box [.d (I s0), .d (I s1), .d (I s2), .d (I s3)]], [GoesL Try.prog (loopOf Try.prog 49 0) (H xs s0 s1 s2 s3 0) .ret (R s0 s1 s2 s3 j)]) := by kernel_rfl
theorem f2 : callX Try.prog wr false O 49 [.d (.sl (xs.map Lt.d)), .func 32 [.ptr 0 0]] [.box [.func 31 [.ptr 1 0]], .box [.d (I s0), .d (I s1), .d (I s2), .d (I s3)]] [.lp [0, 1, 7, 8] (.exit 0) (E s0 s1 s2 s3)] = some (.d (I (-1)), [.box [.func 31 [.ptr 1 0]], .box [.d (I s0), .d (I s1), .d (I s2), .d (I s3)]], [GoesL Try.prog (loopOf Try.prog 49 0) (H xs s0 s1 s2 s3 0) (.exit 0) (E s0 s1 s2 s3)]) := by kernel_rfl
theorem g1 (j : Nat) : callX Try.prog wr false O 34 [.d (.sl (xs.map Lt.d)), .func 32 [.ptr 0 0]] [.box [.func 31 [.ptr 1 0]], .box [.d (I s0), .d (I s1), .d (I s2), .d (I s3)]] [.icall [0, 1] (.d (I j)) [.box [.func 31 [.ptr 1 0]], .box [.d (I s0), .d (I s1), .d (I s2), .d (I s3)]], .br true] = some (.d (.bool true), [.box [.func 31 [.ptr 1 0]], .box [.d (I s0), .d (I s1), .d (I s2), .d (I s3)]], [ICall Try.prog 49 [.d (.sl (xs.map Lt.d)), .func 32 [.ptr 0 0]] [.box [.func 31 [.ptr 1 0]], .box [.d (I s0), .d (I s1), .d (I s2), .d (I s3)]] (.d (I j)) [.box [.func 31 [.ptr 1 0]], .box [.d (I s0), .d (I s1), .d (I s2), .d (I s3)]], decide ((j : Int) ≥ 0) = true]) := by kernel_rfl
theorem g2 : callX Try.prog wr false O 34 [.d (.sl (xs.map Lt.d)), .func 32 [.ptr 0 0]] [.box [.func 31 [.ptr 1 0]], .box [.d (I s0), .d (I s1), .d (I s2), .d (I s3)]] [.icall [0, 1] (.d (I (-1))) [.box [.func 31 [.ptr 1 0]], .box [.d (I s0), .d (I s1), .d (I s2), .d (I s3)]], .br false] = some (.d (.bool false), [.box [.func 31 [.ptr 1 0]], .box [.d (I s0), .d (I s1), .d (I s2), .d (I s3)]], [ICall Try.prog 49 [.d (.sl (xs.map Lt.d)), .func 32 [.ptr 0 0]] [.box [.func 31 [.ptr 1 0]], .box [.d (I s0), .d (I s1), .d (I s2), .d (I s3)]] (.d (I (-1))) [.box [.func 31 [.ptr 1 0]], .box [.d (I s0), .d (I s1), .d (I s2), .d (I s3)]], decide ((-1 : Int) ≥ 0) = false]) := by kernel_rfl
end
/-- ContainsFunc: whether one is such. -/
theorem icall (s0 s1 s2 s3 : Int) (xs : List Lt) (hl : xs.length ≤ 1000000) (hc : ∀ x ∈ xs, ICall Try.prog 32 [.d (Lt.d x), .ptr 0 0] [.box [.func 31 [.ptr 1 0]], .box [.d (I s0), .d (I s1), .d (I s2), .d (I s3)]] (.d (.bool (wrongB s3 x))) [.box [.func 31 [.ptr 1 0]], .box [.d (I s0), .d (I s1), .d (I s2), .d (I s3)]]) : ICall Try.prog 34 [.d (.sl (xs.map Lt.d)), .func 32 [.ptr 0 0]] [.box [.func 31 [.ptr 1 0]], .box [.d (I s0), .d (I s1), .d (I s2), .d (I s3)]] (.d (.bool (xs.any (wrongB s3)))) [.box [.func 31 [.ptr 1 0]], .box [.d (I s0), .d (I s1), .d (I s2), .d (I s3)]] := by
  have hm1 : ∀ i, i < xs.length → xs.getD i default ∈ xs := fun i h => by rw [List.getD_eq_getElem?_getD, List.getElem?_eq_getElem h]; exact List.getElem_mem h
  have hlt : ∀ i, i < xs.length → decide ((↑i : Int) < (((xs.map Lt.d).length : Nat) : Int)) = true := fun i h => by simp; omega
  obtain ⟨a1, a2⟩ := any_at xs (fun i => H xs s0 s1 s2 s3 i) (.exit 0) (R s0 s1 s2 s3) (E s0 s1 s2 s3) (wrongB s3)
    (fun i h hb => .stop hO hm (rd2 s0 s1 s2 s3 xs i) (by simp) ⟨hlt i h, ⟨rfl, get_map Lt.d xs i h⟩, by rw [← hb]; exact hc _ (hm1 i h)⟩)
    (fun i h hb e s hg => .step hO hm (rd1 s0 s1 s2 s3 xs i) ⟨hlt i h, ⟨rfl, get_map Lt.d xs i h⟩, by rw [← hb]; exact hc _ (hm1 i h), wrap_succ (by omega)⟩ hg)
    (.stop hO hm (rd3 s0 s1 s2 s3 xs xs.length) (by simp) (by simp [AllP])) xs.length 0 rfl (by omega)
  rw [List.drop_zero] at a1 a2
  cases hx : xs.any (wrongB s3) with
  | true =>
    obtain ⟨j, hj⟩ := a1 hx
    exact callX_ok hO hm (g1 s0 s1 s2 s3 xs j) ⟨callX_ok hO hm (f1 s0 s1 s2 s3 xs j) hj, by simp [AllP]⟩
  | false => exact callX_ok hO hm (g2 s0 s1 s2 s3 xs) ⟨callX_ok hO hm (f2 s0 s1 s2 s3 xs) (a2 hx), by simp [AllP]⟩
end Go.Proofs.Ytbbefbgomdmldaa.Sy.Gc2
/- gates.Check, on symbols. -/
namespace Go.Proofs.Ytbbefbgomdmldaa.Sy.Gates
open Go Go.Proofs.Ytbbefbgomdmldaa.Ab Go.Proofs.Ytbbefbgomdmldaa.Sy
set_option maxRecDepth 1000000
set_option linter.unusedVariables false
def badA (s2 : Int) (i : Nat) (g : An) : Bool := decide (g.b < 0) || (decide (g.a < g.b) || decide (g.a ≥ 2 * (s2 + i)))
/-- What gates.Check answers. -/
def chk (c : Ci) : Int :=
  if c.ins < 0 then 8 else if c.ins > 1000 then 4 else if st3 c - 1 > 1000 then 4 else if (if ((c.cons.map I).length : Int) > ((c.bads.map I).length : Int) then ((c.cons.map I).length : Int) else ((c.bads.map I).length : Int)) > 100 then 4
  else if c.bads.any (outB (st3 c)) || (c.cons.any (outB (st3 c)) || c.lats.any (wrongB (st3 c))) then 8 else if anyIx (badA (st2 c)) c.ands 0 then 8 else 0
section
variable (c : Ci) (s0 s1 s2 s3 : Int) (i : Nat)
def H (c : Ci) (s0 s1 s2 s3 : Int) (i : Nat) : St := ⟨mk 80 [(3, .ptr 1 0), (52, .d (.sl (c.ands.map An.d))), (53, .d (I ((c.ands.map An.d).length : Nat))), (54, .d (I i))] [], [.box [.d (I c.ins), .d (.sl (c.lats.map Lt.d)), .d (.sl (c.ands.map An.d)), .d (L c.bads), .d (L c.cons)], .box [.d (I s0), .d (I s1), .d (I s2), .d (I s3)], .box [.func 31 [.ptr 1 0]]]⟩
def B (c : Ci) (s0 s1 s2 s3 : Int) : St := ⟨mk 80 [(2, .d (I 8))] [], [.box [.d (I c.ins), .d (.sl (c.lats.map Lt.d)), .d (.sl (c.ands.map An.d)), .d (L c.bads), .d (L c.cons)], .box [.d (I s0), .d (I s1), .d (I s2), .d (I s3)], .box [.func 31 [.ptr 1 0]]]⟩
def E (c : Ci) (s0 s1 s2 s3 : Int) : St := ⟨mk 80 [] [], [.box [.d (I c.ins), .d (.sl (c.lats.map Lt.d)), .d (.sl (c.ands.map An.d)), .d (L c.bads), .d (L c.cons)], .box [.d (I s0), .d (I s1), .d (I s2), .d (I s3)], .box [.func 31 [.ptr 1 0]]]⟩
theorem rd1 : round Try.prog wr false O (loopOf Try.prog 13 0) (H c s0 s1 s2 s3 i) [It.br true, It.el i (c.ands.getD i default).d, .br true] [2] 3 = some (.ret, B c s0 s1 s2 s3, [decide ((↑i : Int) < (((c.ands.map An.d).length : Nat) : Int)) = true, (↑i : Int) = (↑i : Int) ∧ (c.ands.map An.d)[i]? = some (c.ands.getD i default).d, decide ((c.ands.getD i default).b < 0) = true]) := by kernel_rfl
theorem rd2 : round Try.prog wr false O (loopOf Try.prog 13 0) (H c s0 s1 s2 s3 i) [It.br true, It.el i (c.ands.getD i default).d, .br false, .br true] [2] 3 = some (.ret, B c s0 s1 s2 s3, [decide ((↑i : Int) < (((c.ands.map An.d).length : Nat) : Int)) = true, (↑i : Int) = (↑i : Int) ∧ (c.ands.map An.d)[i]? = some (c.ands.getD i default).d, decide ((c.ands.getD i default).b < 0) = false, decide ((c.ands.getD i default).a < (c.ands.getD i default).b) = true]) := by kernel_rfl
theorem rd3 : round Try.prog wr false O (loopOf Try.prog 13 0) (H c s0 s1 s2 s3 i) [It.br true, It.el i (c.ands.getD i default).d, .br false, .br false, .is (s2 + (↑i : Int)), .is (2 * (s2 + (↑i : Int))), .br true] [2] 3 = some (.ret, B c s0 s1 s2 s3, [decide ((↑i : Int) < (((c.ands.map An.d).length : Nat) : Int)) = true, (↑i : Int) = (↑i : Int) ∧ (c.ands.map An.d)[i]? = some (c.ands.getD i default).d, decide ((c.ands.getD i default).b < 0) = false, decide ((c.ands.getD i default).a < (c.ands.getD i default).b) = false, IntKind.i64.wrap (s2 + (↑i : Int)) = s2 + (↑i : Int), IntKind.i64.wrap (2 * (s2 + (↑i : Int))) = 2 * (s2 + (↑i : Int)), decide ((c.ands.getD i default).a ≥ 2 * (s2 + (↑i : Int))) = true]) := by kernel_rfl
theorem rd4 : round Try.prog wr false O (loopOf Try.prog 13 0) (H c s0 s1 s2 s3 i) [It.br true, It.el i (c.ands.getD i default).d, .br false, .br false, .is (s2 + (↑i : Int)), .is (2 * (s2 + (↑i : Int))), .br false, .is ((i + 1 : Nat) : Int)] [3, 52, 53, 54] 3 = some (.normal, H c s0 s1 s2 s3 (i + 1), [decide ((↑i : Int) < (((c.ands.map An.d).length : Nat) : Int)) = true, (↑i : Int) = (↑i : Int) ∧ (c.ands.map An.d)[i]? = some (c.ands.getD i default).d, decide ((c.ands.getD i default).b < 0) = false, decide ((c.ands.getD i default).a < (c.ands.getD i default).b) = false, IntKind.i64.wrap (s2 + (↑i : Int)) = s2 + (↑i : Int), IntKind.i64.wrap (2 * (s2 + (↑i : Int))) = 2 * (s2 + (↑i : Int)), decide ((c.ands.getD i default).a ≥ 2 * (s2 + (↑i : Int))) = false, IntKind.i64.wrap ((i : Int) + 1) = ((i + 1 : Nat) : Int)]) := by kernel_rfl
theorem rd5 : round Try.prog wr false O (loopOf Try.prog 13 0) (H c s0 s1 s2 s3 i) [.br false] [] 3 = some (.exit 0, E c s0 s1 s2 s3, [decide ((↑i : Int) < (((c.ands.map An.d).length : Nat) : Int)) = false]) := by kernel_rfl
end
theorem loop (c : Ci) (s0 s1 s2 s3 : Int) (hl : c.ands.length ≤ 1000000) (hs : 0 ≤ s2 ∧ s2 ≤ 3000000) :
    (anyIx (badA s2) c.ands 0 = true → GoesL Try.prog (loopOf Try.prog 13 0) (H c s0 s1 s2 s3 0) .ret (B c s0 s1 s2 s3)) ∧ (anyIx (badA s2) c.ands 0 = false → GoesL Try.prog (loopOf Try.prog 13 0) (H c s0 s1 s2 s3 0) (.exit 0) (E c s0 s1 s2 s3)) := by
  have hlt : ∀ i, i < c.ands.length → decide ((↑i : Int) < (((c.ands.map An.d).length : Nat) : Int)) = true := fun i h => by simp; omega
  have w1 : ∀ i : Nat, i < c.ands.length → IntKind.i64.wrap (s2 + (↑i : Int)) = s2 + (↑i : Int) := fun i h => wrap_id (by omega) (by omega)
  have w2 : ∀ i : Nat, i < c.ands.length → IntKind.i64.wrap (2 * (s2 + (↑i : Int))) = 2 * (s2 + (↑i : Int)) := fun i h => wrap_id (by omega) (by omega)
  have := any_ix c.ands (fun i => H c s0 s1 s2 s3 i) .ret (.exit 0) (B c s0 s1 s2 s3) (E c s0 s1 s2 s3) (badA s2)
    (fun i h hb => by
      by_cases c1 : (c.ands.getD i default).b < 0
      · exact .stop hO hm (rd1 c s0 s1 s2 s3 i) (by simp) ⟨hlt i h, ⟨rfl, get_map An.d c.ands i h⟩, decide_eq_true c1⟩
      · by_cases c2 : (c.ands.getD i default).a < (c.ands.getD i default).b
        · exact .stop hO hm (rd2 c s0 s1 s2 s3 i) (by simp) ⟨hlt i h, ⟨rfl, get_map An.d c.ands i h⟩, decide_eq_false c1, decide_eq_true c2⟩
        · refine .stop hO hm (rd3 c s0 s1 s2 s3 i) (by simp) ⟨hlt i h, ⟨rfl, get_map An.d c.ands i h⟩, decide_eq_false c1, decide_eq_false c2, w1 i h, w2 i h, ?_⟩
          unfold badA at hb
          rw [decide_eq_false c1, decide_eq_false c2, Bool.false_or, Bool.false_or] at hb
          exact hb)
    (fun i h hb e s hg => by
      unfold badA at hb
      rw [Bool.or_eq_false_iff, Bool.or_eq_false_iff] at hb
      exact .step hO hm (rd4 c s0 s1 s2 s3 i) ⟨hlt i h, ⟨rfl, get_map An.d c.ands i h⟩, hb.1, hb.2.1, w1 i h, w2 i h, hb.2.2, wrap_succ (by omega)⟩ hg)
    (.stop hO hm (rd5 c s0 s1 s2 s3 c.ands.length) (by simp) (by simp [AllP])) c.ands.length 0 rfl (by omega)
  rwa [List.drop_zero] at this
section
variable (c : Ci)
theorem f1 : callX Try.prog wr false O 13 [.d c.d] [] [.br true] = some (.d (I 8), [], [decide (c.ins < 0) = true]) := by kernel_rfl
theorem f2 : callX Try.prog wr false O 13 [.d c.d] [] [.br false, .br true] = some (.d (I 4), [], [decide (c.ins < 0) = false, decide (c.ins > 1000) = true]) := by kernel_rfl
theorem f3 : callX Try.prog wr false O 13 [.d c.d] [] [.br false, .br false, .ret (.d (.agg [I 1, I (st1 c), I (st2 c), I (st3 c)])), .is (st3 c - 1), .br true] = some (.d (I 4), [], [decide (c.ins < 0) = false, decide (c.ins > 1000) = false, (ICall Try.prog 30 [.d c.d] [] (.d (.agg [I 1, I (st1 c), I (st2 c), I (st3 c)])) [] ∧ (([] : List Nat) = [] ∨ V.safe (.d (.agg [I 1, I (st1 c), I (st2 c), I (st3 c)])) = true)), IntKind.i64.wrap (st3 c - 1) = st3 c - 1, decide (st3 c - 1 > 1000) = true]) := by kernel_rfl
theorem f4 : callX Try.prog wr false O 13 [.d c.d] [] [.br false, .br false, .ret (.d (.agg [I 1, I (st1 c), I (st2 c), I (st3 c)])), .is (st3 c - 1), .br false, .is (if ((c.cons.map I).length : Int) > ((c.bads.map I).length : Int) then ((c.cons.map I).length : Int) else ((c.bads.map I).length : Int)), .br true] = some (.d (I 4), [], [decide (c.ins < 0) = false, decide (c.ins > 1000) = false, (ICall Try.prog 30 [.d c.d] [] (.d (.agg [I 1, I (st1 c), I (st2 c), I (st3 c)])) [] ∧ (([] : List Nat) = [] ∨ V.safe (.d (.agg [I 1, I (st1 c), I (st2 c), I (st3 c)])) = true)), IntKind.i64.wrap (st3 c - 1) = st3 c - 1, decide (st3 c - 1 > 1000) = false, (if ((c.cons.map I).length : Int) > ((c.bads.map I).length : Int) then ((c.cons.map I).length : Int) else ((c.bads.map I).length : Int)) = (if ((c.cons.map I).length : Int) > ((c.bads.map I).length : Int) then ((c.cons.map I).length : Int) else ((c.bads.map I).length : Int)), decide ((if ((c.cons.map I).length : Int) > ((c.bads.map I).length : Int) then ((c.cons.map I).length : Int) else ((c.bads.map I).length : Int)) > 100) = true]) := by kernel_rfl
theorem f5 : callX Try.prog wr false O 13 [.d c.d] [] [.br false, .br false, .ret (.d (.agg [I 1, I (st1 c), I (st2 c), I (st3 c)])), .is (st3 c - 1), .br false, .is (if ((c.cons.map I).length : Int) > ((c.bads.map I).length : Int) then ((c.cons.map I).length : Int) else ((c.bads.map I).length : Int)), .br false, .ret (.d (.agg [I 1, I (st1 c), I (st2 c), I (st3 c)])), .icall [1] (.d (.bool true)) [.box [.d (I 1), .d (I (st1 c)), .d (I (st2 c)), .d (I (st3 c))]]] = some (.d (I 8), [], [decide (c.ins < 0) = false, decide (c.ins > 1000) = false, (ICall Try.prog 30 [.d c.d] [] (.d (.agg [I 1, I (st1 c), I (st2 c), I (st3 c)])) [] ∧ (([] : List Nat) = [] ∨ V.safe (.d (.agg [I 1, I (st1 c), I (st2 c), I (st3 c)])) = true)), IntKind.i64.wrap (st3 c - 1) = st3 c - 1, decide (st3 c - 1 > 1000) = false, (if ((c.cons.map I).length : Int) > ((c.bads.map I).length : Int) then ((c.cons.map I).length : Int) else ((c.bads.map I).length : Int)) = (if ((c.cons.map I).length : Int) > ((c.bads.map I).length : Int) then ((c.cons.map I).length : Int) else ((c.bads.map I).length : Int)), decide ((if ((c.cons.map I).length : Int) > ((c.bads.map I).length : Int) then ((c.cons.map I).length : Int) else ((c.bads.map I).length : Int)) > 100) = false, (ICall Try.prog 30 [.d c.d] [] (.d (.agg [I 1, I (st1 c), I (st2 c), I (st3 c)])) [] ∧ (([] : List Nat) = [] ∨ V.safe (.d (.agg [I 1, I (st1 c), I (st2 c), I (st3 c)])) = true)), ICall Try.prog 33 [.d (L c.bads), .func 31 [.ptr 0 0]] [.box [.d (I 1), .d (I (st1 c)), .d (I (st2 c)), .d (I (st3 c))]] (.d (.bool true)) [.box [.d (I 1), .d (I (st1 c)), .d (I (st2 c)), .d (I (st3 c))]]]) := by kernel_rfl
theorem f6 : callX Try.prog wr false O 13 [.d c.d] [] [.br false, .br false, .ret (.d (.agg [I 1, I (st1 c), I (st2 c), I (st3 c)])), .is (st3 c - 1), .br false, .is (if ((c.cons.map I).length : Int) > ((c.bads.map I).length : Int) then ((c.cons.map I).length : Int) else ((c.bads.map I).length : Int)), .br false, .ret (.d (.agg [I 1, I (st1 c), I (st2 c), I (st3 c)])), .icall [1] (.d (.bool false)) [.box [.d (I 1), .d (I (st1 c)), .d (I (st2 c)), .d (I (st3 c))]], .icall [1] (.d (.bool true)) [.box [.d (I 1), .d (I (st1 c)), .d (I (st2 c)), .d (I (st3 c))]]] = some (.d (I 8), [], [decide (c.ins < 0) = false, decide (c.ins > 1000) = false, (ICall Try.prog 30 [.d c.d] [] (.d (.agg [I 1, I (st1 c), I (st2 c), I (st3 c)])) [] ∧ (([] : List Nat) = [] ∨ V.safe (.d (.agg [I 1, I (st1 c), I (st2 c), I (st3 c)])) = true)), IntKind.i64.wrap (st3 c - 1) = st3 c - 1, decide (st3 c - 1 > 1000) = false, (if ((c.cons.map I).length : Int) > ((c.bads.map I).length : Int) then ((c.cons.map I).length : Int) else ((c.bads.map I).length : Int)) = (if ((c.cons.map I).length : Int) > ((c.bads.map I).length : Int) then ((c.cons.map I).length : Int) else ((c.bads.map I).length : Int)), decide ((if ((c.cons.map I).length : Int) > ((c.bads.map I).length : Int) then ((c.cons.map I).length : Int) else ((c.bads.map I).length : Int)) > 100) = false, (ICall Try.prog 30 [.d c.d] [] (.d (.agg [I 1, I (st1 c), I (st2 c), I (st3 c)])) [] ∧ (([] : List Nat) = [] ∨ V.safe (.d (.agg [I 1, I (st1 c), I (st2 c), I (st3 c)])) = true)), ICall Try.prog 33 [.d (L c.bads), .func 31 [.ptr 0 0]] [.box [.d (I 1), .d (I (st1 c)), .d (I (st2 c)), .d (I (st3 c))]] (.d (.bool false)) [.box [.d (I 1), .d (I (st1 c)), .d (I (st2 c)), .d (I (st3 c))]], ICall Try.prog 33 [.d (L c.cons), .func 31 [.ptr 0 0]] [.box [.d (I 1), .d (I (st1 c)), .d (I (st2 c)), .d (I (st3 c))]] (.d (.bool true)) [.box [.d (I 1), .d (I (st1 c)), .d (I (st2 c)), .d (I (st3 c))]]]) := by kernel_rfl
theorem f7 : callX Try.prog wr false O 13 [.d c.d] [] [.br false, .br false, .ret (.d (.agg [I 1, I (st1 c), I (st2 c), I (st3 c)])), .is (st3 c - 1), .br false, .is (if ((c.cons.map I).length : Int) > ((c.bads.map I).length : Int) then ((c.cons.map I).length : Int) else ((c.bads.map I).length : Int)), .br false, .ret (.d (.agg [I 1, I (st1 c), I (st2 c), I (st3 c)])), .icall [1] (.d (.bool false)) [.box [.d (I 1), .d (I (st1 c)), .d (I (st2 c)), .d (I (st3 c))]], .icall [1] (.d (.bool false)) [.box [.d (I 1), .d (I (st1 c)), .d (I (st2 c)), .d (I (st3 c))]], .icall [2, 1] (.d (.bool true)) [.box [.func 31 [.ptr 1 0]], .box [.d (I 1), .d (I (st1 c)), .d (I (st2 c)), .d (I (st3 c))]]] = some (.d (I 8), [], [decide (c.ins < 0) = false, decide (c.ins > 1000) = false, (ICall Try.prog 30 [.d c.d] [] (.d (.agg [I 1, I (st1 c), I (st2 c), I (st3 c)])) [] ∧ (([] : List Nat) = [] ∨ V.safe (.d (.agg [I 1, I (st1 c), I (st2 c), I (st3 c)])) = true)), IntKind.i64.wrap (st3 c - 1) = st3 c - 1, decide (st3 c - 1 > 1000) = false, (if ((c.cons.map I).length : Int) > ((c.bads.map I).length : Int) then ((c.cons.map I).length : Int) else ((c.bads.map I).length : Int)) = (if ((c.cons.map I).length : Int) > ((c.bads.map I).length : Int) then ((c.cons.map I).length : Int) else ((c.bads.map I).length : Int)), decide ((if ((c.cons.map I).length : Int) > ((c.bads.map I).length : Int) then ((c.cons.map I).length : Int) else ((c.bads.map I).length : Int)) > 100) = false, (ICall Try.prog 30 [.d c.d] [] (.d (.agg [I 1, I (st1 c), I (st2 c), I (st3 c)])) [] ∧ (([] : List Nat) = [] ∨ V.safe (.d (.agg [I 1, I (st1 c), I (st2 c), I (st3 c)])) = true)), ICall Try.prog 33 [.d (L c.bads), .func 31 [.ptr 0 0]] [.box [.d (I 1), .d (I (st1 c)), .d (I (st2 c)), .d (I (st3 c))]] (.d (.bool false)) [.box [.d (I 1), .d (I (st1 c)), .d (I (st2 c)), .d (I (st3 c))]], ICall Try.prog 33 [.d (L c.cons), .func 31 [.ptr 0 0]] [.box [.d (I 1), .d (I (st1 c)), .d (I (st2 c)), .d (I (st3 c))]] (.d (.bool false)) [.box [.d (I 1), .d (I (st1 c)), .d (I (st2 c)), .d (I (st3 c))]], ICall Try.prog 34 [.d (.sl (c.lats.map Lt.d)), .func 32 [.ptr 0 0]] [.box [.func 31 [.ptr 1 0]], .box [.d (I 1), .d (I (st1 c)), .d (I (st2 c)), .d (I (st3 c))]] (.d (.bool true)) [.box [.func 31 [.ptr 1 0]], .box [.d (I 1), .d (I (st1 c)), .d (I (st2 c)), .d (I (st3 c))]]]) := by kernel_rfl
theorem f8 : callX Try.prog wr false O 13 [.d c.d] [] [.br false, .br false, .ret (.d (.agg [I 1, I (st1 c), I (st2 c), I (st3 c)])), .is (st3 c - 1), .br false, .is (if ((c.cons.map I).length : Int) > ((c.bads.map I).length : Int) then ((c.cons.map I).length : Int) else ((c.bads.map I).length : Int)), .br false, .ret (.d (.agg [I 1, I (st1 c), I (st2 c), I (st3 c)])), .icall [1] (.d (.bool false)) [.box [.d (I 1), .d (I (st1 c)), .d (I (st2 c)), .d (I (st3 c))]], .icall [1] (.d (.bool false)) [.box [.d (I 1), .d (I (st1 c)), .d (I (st2 c)), .d (I (st3 c))]], .icall [2, 1] (.d (.bool false)) [.box [.func 31 [.ptr 1 0]], .box [.d (I 1), .d (I (st1 c)), .d (I (st2 c)), .d (I (st3 c))]], .lp [3, 52, 53, 54] .ret (B c 1 (st1 c) (st2 c) (st3 c))] = some (.d (I 8), [], [decide (c.ins < 0) = false, decide (c.ins > 1000) = false, (ICall Try.prog 30 [.d c.d] [] (.d (.agg [I 1, I (st1 c), I (st2 c), I (st3 c)])) [] ∧ (([] : List Nat) = [] ∨ V.safe (.d (.agg [I 1, I (st1 c), I (st2 c), I (st3 c)])) = true)), IntKind.i64.wrap (st3 c - 1) = st3 c - 1, decide (st3 c - 1 > 1000) = false, (if ((c.cons.map I).length : Int) > ((c.bads.map I).length : Int) then ((c.cons.map I).length : Int) else ((c.bads.map I).length : Int)) = (if ((c.cons.map I).length : Int) > ((c.bads.map I).length : Int) then ((c.cons.map I).length : Int) else ((c.bads.map I).length : Int)), decide ((if ((c.cons.map I).length : Int) > ((c.bads.map I).length : Int) then ((c.cons.map I).length : Int) else ((c.bads.map I).length : Int)) > 100) = false, (ICall Try.prog 30 [.d c.d] [] (.d (.agg [I 1, I (st1 c), I (st2 c), I (st3 c)])) [] ∧ (([] : List Nat) = [] ∨ V.safe (.d (.agg [I 1, I (st1 c), I (st2 c), I (st3 c)])) = true)), ICall Try.prog 33 [.d (L c.bads), .func 31 [.ptr 0 0]] [.box [.d (I 1), .d (I (st1 c)), .d (I (st2 c)), .d (I (st3 c))]] (.d (.bool false)) [.box [.d (I 1), .d (I (st1 c)), .d (I (st2 c)), .d (I (st3 c))]], ICall Try.prog 33 [.d (L c.cons), .func 31 [.ptr 0 0]] [.box [.d (I 1), .d (I (st1 c)), .d (I (st2 c)), .d (I (st3 c))]] (.d (.bool false)) [.box [.d (I 1), .d (I (st1 c)), .d (I (st2 c)), .d (I (st3 c))]], ICall Try.prog 34 [.d (.sl (c.lats.map Lt.d)), .func 32 [.ptr 0 0]] [.box [.func 31 [.ptr 1 0]], .box [.d (I 1), .d (I (st1 c)), .d (I (st2 c)), .d (I (st3 c))]] (.d (.bool false)) [.box [.func 31 [.ptr 1 0]], .box [.d (I 1), .d (I (st1 c)), .d (I (st2 c)), .d (I (st3 c))]], GoesL Try.prog (loopOf Try.prog 13 0) (H c 1 (st1 c) (st2 c) (st3 c) 0) .ret (B c 1 (st1 c) (st2 c) (st3 c))]) := by kernel_rfl
theorem f9 : callX Try.prog wr false O 13 [.d c.d] [] [.br false, .br false, .ret (.d (.agg [I 1, I (st1 c), I (st2 c), I (st3 c)])), .is (st3 c - 1), .br false, .is (if ((c.cons.map I).length : Int) > ((c.bads.map I).length : Int) then ((c.cons.map I).length : Int) else ((c.bads.map I).length : Int)), .br false, .ret (.d (.agg [I 1, I (st1 c), I (st2 c), I (st3 c)])), .icall [1] (.d (.bool false)) [.box [.d (I 1), .d (I (st1 c)), .d (I (st2 c)), .d (I (st3 c))]], .icall [1] (.d (.bool false)) [.box [.d (I 1), .d (I (st1 c)), .d (I (st2 c)), .d (I (st3 c))]], .icall [2, 1] (.d (.bool false)) [.box [.func 31 [.ptr 1 0]], .box [.d (I 1), .d (I (st1 c)), .d (I (st2 c)), .d (I (st3 c))]], .lp [3, 52, 53, 54] (.exit 0) (E c 1 (st1 c) (st2 c) (st3 c))] = some (.d (I 0), [], [decide (c.ins < 0) = false, decide (c.ins > 1000) = false, (ICall Try.prog 30 [.d c.d] [] (.d (.agg [I 1, I (st1 c), I (st2 c), I (st3 c)])) [] ∧ (([] : List Nat) = [] ∨ V.safe (.d (.agg [I 1, I (st1 c), I (st2 c), I (st3 c)])) = true)), IntKind.i64.wrap (st3 c - 1) = st3 c - 1, decide (st3 c - 1 > 1000) = false, (if ((c.cons.map I).length : Int) > ((c.bads.map I).length : Int) then ((c.cons.map I).length : Int) else ((c.bads.map I).length : Int)) = (if ((c.cons.map I).length : Int) > ((c.bads.map I).length : Int) then ((c.cons.map I).length : Int) else ((c.bads.map I).length : Int)), decide ((if ((c.cons.map I).length : Int) > ((c.bads.map I).length : Int) then ((c.cons.map I).length : Int) else ((c.bads.map I).length : Int)) > 100) = false, (ICall Try.prog 30 [.d c.d] [] (.d (.agg [I 1, I (st1 c), I (st2 c), I (st3 c)])) [] ∧ (([] : List Nat) = [] ∨ V.safe (.d (.agg [I 1, I (st1 c), I (st2 c), I (st3 c)])) = true)), ICall Try.prog 33 [.d (L c.bads), .func 31 [.ptr 0 0]] [.box [.d (I 1), .d (I (st1 c)), .d (I (st2 c)), .d (I (st3 c))]] (.d (.bool false)) [.box [.d (I 1), .d (I (st1 c)), .d (I (st2 c)), .d (I (st3 c))]], ICall Try.prog 33 [.d (L c.cons), .func 31 [.ptr 0 0]] [.box [.d (I 1), .d (I (st1 c)), .d (I (st2 c)), .d (I (st3 c))]] (.d (.bool false)) [.box [.d (I 1), .d (I (st1 c)), .d (I (st2 c)), .d (I (st3 c))]], ICall Try.prog 34 [.d (.sl (c.lats.map Lt.d)), .func 32 [.ptr 0 0]] [.box [.func 31 [.ptr 1 0]], .box [.d (I 1), .d (I (st1 c)), .d (I (st2 c)), .d (I (st3 c))]] (.d (.bool false)) [.box [.func 31 [.ptr 1 0]], .box [.d (I 1), .d (I (st1 c)), .d (I (st2 c)), .d (I (st3 c))]], GoesL Try.prog (loopOf Try.prog 13 0) (H c 1 (st1 c) (st2 c) (st3 c) 0) (.exit 0) (E c 1 (st1 c) (st2 c) (st3 c))]) := by kernel_rfl
end
theorem icall (c : Ci) (h2 : c.lats.length ≤ 1000000) (h3 : c.ands.length ≤ 1000000) (h4 : c.bads.length ≤ 1000000) (h5 : c.cons.length ≤ 1000000) : ICall Try.prog 13 [.d c.d] [] (.d (I (chk c))) [] := by
  unfold chk
  by_cases c1 : c.ins < 0
  · rw [if_pos c1]; exact callX_ok hO hm (f1 c) (by simpa [AllP] using c1)
  rw [if_neg c1]
  have k1 : decide (c.ins < 0) = false := decide_eq_false c1
  by_cases c2 : c.ins > 1000
  · rw [if_pos c2]; exact callX_ok hO hm (f2 c) ⟨k1, decide_eq_true c2⟩
  rw [if_neg c2]
  have k2 : decide (c.ins > 1000) = false := decide_eq_false c2
  have hs : (ICall Try.prog 30 [.d c.d] [] (.d (.agg [I 1, I (st1 c), I (st2 c), I (st3 c)])) [] ∧ (([] : List Nat) = [] ∨ V.safe (.d (.agg [I 1, I (st1 c), I (st2 c), I (st3 c)])) = true)) := ⟨starts c (by omega) (by omega) h2 h3, .inl rfl⟩
  have w3 : IntKind.i64.wrap (st3 c - 1) = st3 c - 1 := by simp only [st3, List.length_map]; exact wrap_id (by omega) (by omega)
  by_cases c3 : st3 c - 1 > 1000
  · rw [if_pos c3]; exact callX_ok hO hm (f3 c) ⟨k1, k2, hs, w3, decide_eq_true c3⟩
  rw [if_neg c3]
  have k3 : decide (st3 c - 1 > 1000) = false := decide_eq_false c3
  by_cases c4 : (if ((c.cons.map I).length : Int) > ((c.bads.map I).length : Int) then ((c.cons.map I).length : Int) else ((c.bads.map I).length : Int)) > 100
  · rw [if_pos c4]; exact callX_ok hO hm (f4 c) ⟨k1, k2, hs, w3, k3, rfl, decide_eq_true c4⟩
  rw [if_neg c4]
  have k4 : decide ((if ((c.cons.map I).length : Int) > ((c.bads.map I).length : Int) then ((c.cons.map I).length : Int) else ((c.bads.map I).length : Int)) > 100) = false := decide_eq_false c4
  have hb := Gc1.icall 1 (st1 c) (st2 c) (st3 c) c.bads h4 (fun x _ => out x 1 (st1 c) (st2 c) (st3 c))
  have hc := Gc1.icall 1 (st1 c) (st2 c) (st3 c) c.cons h5 (fun x _ => out x 1 (st1 c) (st2 c) (st3 c))
  have hl := Gc2.icall 1 (st1 c) (st2 c) (st3 c) c.lats h2 (fun x _ => wrong x 1 (st1 c) (st2 c) (st3 c))
  cases e1 : c.bads.any (outB (st3 c)) with
  | true => rw [e1] at hb; exact callX_ok hO hm (f5 c) ⟨k1, k2, hs, w3, k3, rfl, k4, hs, hb⟩
  | false =>
  rw [e1] at hb
  cases e2 : c.cons.any (outB (st3 c)) with
  | true => rw [e2] at hc; exact callX_ok hO hm (f6 c) ⟨k1, k2, hs, w3, k3, rfl, k4, hs, hb, hc⟩
  | false =>
  rw [e2] at hc
  cases e3 : c.lats.any (wrongB (st3 c)) with
  | true => rw [e3] at hl; exact callX_ok hO hm (f7 c) ⟨k1, k2, hs, w3, k3, rfl, k4, hs, hb, hc, hl⟩
  | false =>
  rw [e3] at hl
  obtain ⟨l1, l2⟩ := loop c 1 (st1 c) (st2 c) (st3 c) h3 (by simp only [st2, List.length_map]; omega)
  cases e4 : anyIx (badA (st2 c)) c.ands 0 with
  | true => exact callX_ok hO hm (f8 c) ⟨k1, k2, hs, w3, k3, rfl, k4, hs, hb, hc, hl, l1 e4⟩
  | false => exact callX_ok hO hm (f9 c) ⟨k1, k2, hs, w3, k3, rfl, k4, hs, hb, hc, hl, l2 e4⟩
end Go.Proofs.Ytbbefbgomdmldaa.Sy.Gates
/- The circuit of a raw circuit that is good is one that gates.Check takes. -/
namespace Go.Proofs.Ytbbefbgomdmldaa.Pl
open Go Go.Proofs.Ytbbefbgomdmldaa.Sy
set_option linter.unusedVariables false
set_option linter.unusedSimpArgs false
theorem numW_at (vars : List Nat) : ∀ (x : Nat) (g : List Int), vars.Nodup → (∀ v ∈ vars, v < g.length) → (∀ (j : Nat) (h : j < vars.length), gt (numW vars x g) vars[j] = ((x + j : Nat) : Int)) ∧ ∀ u, u ∉ vars → gt (numW vars x g) u = gt g u := by
  induction vars with
  | nil => intro x g _ _; exact ⟨fun j h => absurd h (Nat.not_lt_zero j), fun _ _ => rfl⟩
  | cons v t ih =>
    intro x g hn hv
    have hv0 := hv v List.mem_cons_self
    obtain ⟨hvt, hn2⟩ := List.nodup_cons.1 hn
    obtain ⟨i1, i2⟩ := ih (x + 1) (g.set v (x : Int)) hn2 (fun w hw => by rw [List.length_set]; exact hv w (List.mem_cons_of_mem _ hw))
    refine ⟨fun j h => ?_, fun u hu => ?_⟩
    · cases j with
      | zero =>
        simp only [numW, List.getElem_cons_zero]
        rw [i2 v hvt, gt_set _ _ _ _ hv0, if_pos rfl]; rfl
      | succ j =>
        simp only [numW, List.getElem_cons_succ]
        rw [i1 j (by simpa using h)]
        omega
    · simp only [numW]
      have h1 : u ≠ v := fun e => hu (by rw [e]; exact List.mem_cons_self)
      rw [i2 u (fun hm => hu (List.mem_cons_of_mem _ hm)), gt_set _ _ _ _ hv0, if_neg h1]

structure Val (c : Ci) : Prop where
  n0 : 0 ≤ c.ins
  len : c.ins + c.lats.length + c.ands.length ≤ 1000
  b3 : c.bads.length ≤ 100
  b4 : c.cons.length ≤ 100
  u3 : ∀ x ∈ c.bads, 0 ≤ x ∧ x ≤ 2 * (c.ins + c.lats.length + c.ands.length) + 1
  u4 : ∀ x ∈ c.cons, 0 ≤ x ∧ x ≤ 2 * (c.ins + c.lats.length + c.ands.length) + 1
  u1 : ∀ d ∈ c.lats, (0 ≤ d.next ∧ d.next ≤ 2 * (c.ins + c.lats.length + c.ands.length) + 1) ∧ 0 ≤ d.reset ∧ d.reset ≤ 2
  u2 : ∀ (i : Nat) (h : i < c.ands.length), 0 ≤ c.ands[i].b ∧ c.ands[i].b ≤ c.ands[i].a ∧ c.ands[i].a < 2 * (1 + c.ins + c.lats.length + i)

theorem anyIx_false {α : Type} (f : Nat → α → Bool) : ∀ (l : List α) (i : Nat), (∀ (j : Nat) (h : j < l.length), f (i + j) l[j] = false) → anyIx f l i = false
  | [], _, _ => rfl
  | x :: t, i, h => by
    rw [anyIx, anyIx_false f t (i + 1) (fun j hj => by have := h (j + 1) (by simpa using hj); rw [show i + (j + 1) = i + 1 + j by omega] at this; exact this), Bool.or_false]
    exact h 0 (by simp)
/-- gates.Check takes it. -/
theorem Val.chk {c : Ci} (h : Val c) : Gates.chk c = 0 := by
  obtain ⟨a0, a1, a2, a3, a4, a5, a6, a7⟩ := h
  have e3 : st3 c = 1 + (c.ins + c.lats.length + c.ands.length) := by unfold st3; rw [List.length_map, List.length_map]; omega
  have e2 : st2 c = 1 + c.ins + c.lats.length := by unfold st2; rw [List.length_map]
  have o : ∀ x : Int, 0 ≤ x ∧ x ≤ 2 * (c.ins + c.lats.length + c.ands.length) + 1 → outB (st3 c) x = false := fun x hx => by
    unfold outB; rw [e3, Bool.or_eq_false_iff]; exact ⟨decide_eq_false (by omega), decide_eq_false (by omega)⟩
  unfold Gates.chk
  rw [if_neg (by omega), if_neg (by omega), if_neg (by omega), if_neg (by rw [List.length_map, List.length_map]; split <;> omega)]
  rw [if_neg (by
    rw [List.any_eq_false.2 (fun x hx => by rw [o x (a4 x hx)]; simp), List.any_eq_false.2 (fun x hx => by rw [o x (a5 x hx)]; simp), List.any_eq_false.2 (fun d hd => by
      have := a6 d hd
      unfold wrongB; rw [o _ this.1]; simp; omega)]; simp), if_neg]
  rw [Bool.not_eq_true]
  refine anyIx_false _ _ _ fun j hj => ?_
  have := a7 j hj
  unfold Gates.badA
  rw [e2, Bool.or_eq_false_iff, Bool.or_eq_false_iff]
  exact ⟨decide_eq_false (by omega), decide_eq_false (by omega), decide_eq_false (by omega)⟩

section
variable {m : Nat} {l1 : List Int} {l2 l3 : List Df} {l4 l5 : List Int}

theorem chkS_more {most : Int} (h : chkS most l1 l2 l3 l4 l5 = 0) : (∀ x ∈ useL l2 l3 l4 l5, varN x = 0 ∨ varN x ∈ (ownL l1 l2 l3).map varN) ∧ ∀ d ∈ l2, 0 ≤ d.b ∧ d.b ≤ 2 := by
  unfold chkS at h
  by_cases c0 : most < 0
  · rw [if_pos c0] at h; cases h
  rw [if_neg c0] at h
  by_cases c1 : manyP most l1 l2 l3 l4 l5
  · rw [if_pos c1] at h; cases h
  rw [if_neg c1] at h
  by_cases c2 : badAny most l1 l2 l3 l4 l5 = true
  · rw [if_pos c2] at h; cases h
  rw [if_neg c2] at h
  unfold chkVal at h
  by_cases d0 : ¬ ((ownL l1 l2 l3).map varN).Nodup
  · rw [if_pos d0] at h; cases h
  rw [if_neg d0] at h
  by_cases d1 : (useL l2 l3 l4 l5).any (loose (ownL l1 l2 l3)) = true
  · rw [if_pos d1] at h; cases h
  refine ⟨fun x hx => ?_, fun d hd => ?_⟩
  · have : ¬ loose (ownL l1 l2 l3) x = true := fun c => d1 (List.any_eq_true.2 ⟨x, hx, c⟩)
    unfold loose at this
    rw [Bool.not_eq_true, Bool.not_eq_false', Bool.or_eq_true, decide_eq_true_eq, List.contains_iff_mem] at this
    exact this
  · unfold badAny at c2
    rw [Bool.or_eq_true, not_or] at c2
    have : ¬ badRe d = true := fun c => c2.2 (List.any_eq_true.2 ⟨d, hd, c⟩)
    unfold badRe at this
    simp only [Bool.or_eq_true, decide_eq_true_eq, not_or] at this
    omega

/-- The numbers of a good raw circuit. -/
structure Nums (m : Nat) (l1 : List Int) (l2 l3 : List Df) (l4 l5 : List Int) (s : List Nat) (g : List Int) : Prop where
  full : s.length = l3.length
  nodup : s.Nodup
  lt : ∀ i ∈ s, i < l3.length
  len : g.length = m + 1
  vnd : (varsN l1 l2 l3 s).Nodup
  own : ∀ u, u ∈ varsN l1 l2 l3 s ↔ u ∈ (ownL l1 l2 l3).map varN
  pos : ∀ u ∈ varsN l1 l2 l3 s, 1 ≤ u ∧ u ≤ m
  at' : ∀ (j : Nat) (h : j < (varsN l1 l2 l3 s).length), gt g (varsN l1 l2 l3 s)[j] = ((1 + j : Nat) : Int)
  zero : gt g 0 = 0
  none : ∀ u, u ≤ m → u ≠ 0 → u ∉ varsN l1 l2 l3 s → gt g u = -1
  next : ∀ (k : Nat) (h : k < s.length), nextP l3 (s.take k) s[k] = true

theorem varsN_len (s : List Nat) : (varsN l1 l2 l3 s).length = l1.length + l2.length + s.length := by unfold varsN; simp; omega

theorem nums_of (h : chkS (m : Int) l1 l2 l3 l4 l5 = 0) : Nums m l1 l2 l3 l4 l5 (ordS l3 l3.length []) (numW (varsN l1 l2 l3 (ordS l3 l3.length [])) 1 (numS m)) := by
  obtain ⟨hN, hn, hfull⟩ := chkS_zero h
  obtain ⟨h1, h2, -⟩ := ord_all l3
  have hb := ord_bd l3
  have hl := ord_len l3
  have once := once_of hn
  have hn0 := hn
  have hsplit : (ownL l1 l2 l3).map varN = (l1.map varN ++ l2.map (fun d => varN d.lit)) ++ l3.map (fun d => varN d.lit) := by
    unfold ownL; simp only [List.map_append, List.map_map]; rfl
  rw [hsplit, List.nodup_append] at hn
  have hvr : ∀ i, i < l3.length → vr l3 i ∈ l3.map (fun d => varN d.lit) := fun i hi => List.mem_map.2 ⟨_, rdT_mem hi, rfl⟩
  have hsn : ((ordS l3 l3.length []).map (vr l3)).Nodup := by
    rw [List.Nodup, List.pairwise_map]
    exact List.Pairwise.imp_of_mem (fun ha hb' hne e => hne (once _ _ (hb _ ha) (hb _ hb') e)) h1
  have hvn : (varsN l1 l2 l3 (ordS l3 l3.length [])).Nodup := by
    unfold varsN
    rw [List.nodup_append]
    refine ⟨hn.1, hsn, fun a ha b hb' e => ?_⟩
    obtain ⟨i, hi, rfl⟩ := List.mem_map.1 hb'
    exact hn.2.2 a ha _ (hvr i (hb i hi)) e
  have hown : ∀ u, u ∈ varsN l1 l2 l3 (ordS l3 l3.length []) ↔ u ∈ (ownL l1 l2 l3).map varN := by
    intro u
    rw [hsplit]
    unfold varsN
    refine ⟨fun hu => List.mem_append.2 ((List.mem_append.1 hu).imp_right fun hm => ?_), fun hu => List.mem_append.2 ((List.mem_append.1 hu).imp_right fun hm => ?_)⟩
    · obtain ⟨i, hi, rfl⟩ := List.mem_map.1 hm
      exact hvr i (hb i hi)
    · obtain ⟨d, hd, rfl⟩ := List.mem_map.1 hm
      obtain ⟨i, hi, rfl⟩ := List.getElem_of_mem hd
      refine List.mem_map.2 ⟨i, mem_of_full h1 hb hfull i hi, ?_⟩
      unfold vr; rw [rdT_get l3 i hi]; rfl
  have hpos : ∀ u ∈ varsN l1 l2 l3 (ordS l3 l3.length []), 1 ≤ u ∧ u ≤ m := fun u hu => varN_pos (m := m) (own := ownL l1 l2 l3) (fun x hx => ⟨(hN.own x hx).1, (hN.own x hx).2.1⟩) u ((hown u).1 hu)
  obtain ⟨a1, a2⟩ := numW_at (varsN l1 l2 l3 (ordS l3 l3.length [])) 1 (numS m) hvn (fun v hv => by rw [numS_len]; have := hpos v hv; omega)
  refine ⟨by omega, h1, hb, by rw [numW_len, numS_len], hvn, hown, hpos, a1, ?_, fun u hu h0 hm => ?_, h2⟩
  · rw [a2 0 (fun hm => by have := hpos 0 hm; omega), numS_gt m 0 (by omega), if_pos rfl]
  · rw [a2 u hm, numS_gt m u hu, if_neg h0]

/-- A variable that is known has a number; one that stands early, a small one. -/
theorem Nums.num {s : List Nat} {g : List Int} (hN : Nums m l1 l2 l3 l4 l5 s g) {u : Nat} (hu : u = 0 ∨ u ∈ (ownL l1 l2 l3).map varN) : 0 ≤ gt g u ∧ gt g u ≤ (l1.length : Int) + l2.length + l3.length := by
  rcases hu with rfl | hu
  · rw [hN.zero]; omega
  · obtain ⟨j, hj, rfl⟩ := List.getElem_of_mem ((hN.own u).2 hu)
    rw [hN.at' j hj]
    rw [varsN_len, hN.full] at hj
    omega

theorem Nums.early {s : List Nat} {g : List Int} (hN : Nums m l1 l2 l3 l4 l5 s g) {u i : Nat} (hi : i ≤ s.length) (hu : u = 0 ∨ u ∈ (ownL l1 l2 l3).map varN) (hr : rv l3 (s.take i) u = true) : gt g u ≤ (l1.length : Int) + l2.length + i := by
  rcases hu with rfl | hu
  · rw [hN.zero]; omega
  rcases rv_split hr with h | ⟨k, hk, e⟩
  · have hm := (hN.own u).2 hu
    have hpre : u ∈ l1.map varN ++ l2.map (fun d => varN d.lit) := by
      unfold varsN at hm
      rcases List.mem_append.1 hm with h1 | h1
      · exact h1
      · obtain ⟨k, hk, rfl⟩ := List.mem_map.1 h1
        have := isG_vr (ands := l3) (hN.lt k hk)
        rw [this] at h; cases h
    obtain ⟨j, hj, e⟩ := List.getElem_of_mem hpre
    have hj2 : j < (varsN l1 l2 l3 s).length := by unfold varsN; rw [List.length_append]; omega
    have : (varsN l1 l2 l3 s)[j] = u := (List.getElem_append_left (bs := s.map (vr l3)) hj).trans e
    have := hN.at' j hj2
    rw [‹(varsN l1 l2 l3 s)[j] = u›] at this
    rw [this]
    simp at hj; omega
  · obtain ⟨j, hj, ej⟩ := List.getElem_of_mem hk
    rw [List.length_take] at hj
    rw [List.getElem_take] at ej
    have hj2 : l1.length + l2.length + j < (varsN l1 l2 l3 s).length := by rw [varsN_len]; omega
    have hv : (varsN l1 l2 l3 s)[l1.length + l2.length + j] = u := by
      refine (List.getElem_append_right (bs := s.map (vr l3)) (show (l1.map varN ++ l2.map (fun d => varN d.lit)).length ≤ l1.length + l2.length + j by simp)).trans ?_
      simp only [List.getElem_map, List.length_append, List.length_map, Nat.add_sub_cancel_left]
      rw [ej]; exact e
    have := hN.at' _ hj2
    rw [hv] at this
    rw [this]; omega

theorem told_bd {g : List Int} {x K : Int} (h : 0 ≤ gt g (varN x) ∧ gt g (varN x) ≤ K) : 0 ≤ told g x ∧ told g x ≤ 2 * K + 1 := by
  unfold told
  have := Int.emod_nonneg x (by decide : (2 : Int) ≠ 0)
  have := Int.emod_lt_of_pos x (by decide : (0 : Int) < 2)
  omega

theorem cir_val (h : chkS (m : Int) l1 l2 l3 l4 l5 = 0) : Val (circS (m : Int) l1 l2 l3 l4 l5) := by
  have hS := nums_of h
  obtain ⟨hN, hn, hfull⟩ := chkS_zero h
  obtain ⟨hu, hre⟩ := chkS_more h
  have hlen := hN.len
  unfold circS numsS
  rw [Int.toNat_natCast]
  generalize hg : numW (varsN l1 l2 l3 (ordS l3 l3.length [])) 1 (numS m) = g at hS
  generalize hs : ordS l3 l3.length [] = s at hS
  have hsl := hS.full
  unfold cirSv
  have tb : ∀ x ∈ useL l2 l3 l4 l5, 0 ≤ told g x ∧ told g x ≤ 2 * ((l1.length : Int) + l2.length + l3.length) + 1 := fun x hx => told_bd (hS.num (hu x hx))
  have m4 : ∀ x ∈ l4, x ∈ useL l2 l3 l4 l5 := fun x hx => by unfold useL; simp [hx]
  have m5 : ∀ x ∈ l5, x ∈ useL l2 l3 l4 l5 := fun x hx => by unfold useL; simp [hx]
  have m2 : ∀ d ∈ l2, d.a ∈ useL l2 l3 l4 l5 := fun d hd => by
    unfold useL; exact List.mem_append_left _ (List.mem_append_right _ (List.mem_map.2 ⟨d, hd, rfl⟩))
  have m31 : ∀ d ∈ l3, d.a ∈ useL l2 l3 l4 l5 := fun d hd => by
    unfold useL; exact List.mem_append_right _ (List.mem_flatMap.2 ⟨d, hd, by simp⟩)
  have m32 : ∀ d ∈ l3, d.b ∈ useL l2 l3 l4 l5 := fun d hd => by
    unfold useL; exact List.mem_append_right _ (List.mem_flatMap.2 ⟨d, hd, by simp⟩)
  refine ⟨by simp, by simp only [List.length_map]; omega, by simpa using hN.l4, by simpa using hN.l5, fun x hx => ?_, fun x hx => ?_, fun d hd => ?_, fun i hi => ?_⟩
  · obtain ⟨y, hy, rfl⟩ := List.mem_map.1 hx
    have := tb y (m4 y hy)
    simp only [List.length_map, hsl]; omega
  · obtain ⟨y, hy, rfl⟩ := List.mem_map.1 hx
    have := tb y (m5 y hy)
    simp only [List.length_map, hsl]; omega
  · obtain ⟨y, hy, rfl⟩ := List.mem_map.1 hd
    have := tb y.a (m2 y hy)
    have := hre y hy
    simp only [List.length_map, hsl]; omega
  · simp only [List.length_map] at hi
    have hil : s[i] < l3.length := hS.lt _ (List.getElem_mem hi)
    obtain ⟨-, r1, r2⟩ := next_split (hS.next i hi)
    have hd := rdT_mem (ands := l3) hil
    have b1 : 0 ≤ told g (rdD l3 (s[i] : Int)).a ∧ told g (rdD l3 (s[i] : Int)).a ≤ 2 * ((l1.length : Int) + l2.length + i) + 1 :=
      told_bd ⟨(hS.num (hu _ (m31 _ hd))).1, hS.early (by omega) (hu _ (m31 _ hd)) r1⟩
    have b2 : 0 ≤ told g (rdD l3 (s[i] : Int)).b ∧ told g (rdD l3 (s[i] : Int)).b ≤ 2 * ((l1.length : Int) + l2.length + i) + 1 :=
      told_bd ⟨(hS.num (hu _ (m32 _ hd))).1, hS.early (by omega) (hu _ (m32 _ hd)) r2⟩
    simp only [List.getElem_map, List.length_map]
    unfold mx mn
    refine ⟨?_, ?_, ?_⟩ <;> (repeat' split) <;> omega
end
end Go.Proofs.Ytbbefbgomdmldaa.Pl
/- order.Circuit, whole. -/
namespace Go.Proofs.Ytbbefbgomdmldaa.Sy.Cir
open Go Go.Proofs.Ytbbefbgomdmldaa.Ab Go.Proofs.Ytbbefbgomdmldaa.Sy Go.Proofs.Ytbbefbgomdmldaa.Pl
set_option maxRecDepth 1000000
set_option linter.unusedVariables false
/-- A row of a raw circuit that is not too large: lists and numbers. -/
structure Wf (r : Rw) : Prop where
  fits : Def.Fits r
  defs : ∀ x ∈ Def.defs r, x ≤ 9223372036854775807
  uses : ∀ x ∈ Def.uses r, x ≤ 9223372036854775807
def ordI (r : Rw) : List Int := (ordS r.ands r.ands.length []).map (fun k : Nat => (k : Int))
def chkR (r : Rw) : Int := chkS r.most r.ins r.lats r.ands r.bads r.cons
theorem sorted_of {r : Rw} (h : ∃ m : Nat, r.most = (m : Int) ∧ Ok m r.ands) : ICall Try.prog 27 [.d r.d] [] (.own 3 ((ordI r).map I)) [] := by
  obtain ⟨m, em, hk⟩ := h
  exact Sort.sorted r _ _ (by rw [em]; exact sorted_eq m r.ands hk)
/-- order.Check is the plain check. -/
theorem check {r : Rw} (h : Wf r) : ICall Try.prog 17 [.d r.d] [] (.d (I (chkR r))) [] := by
  obtain ⟨h1, h2⟩ := val_eq r
  have := Chk.check r h.fits h.defs h.uses (ordI r) (fun hp => sorted_of (h2 hp))
  unfold ordI at this
  rwa [h1] at this
section
variable {c : Code}
/-- A list behind which something is put for each element. -/
theorem map_loop {α : Type} [Inhabited α] (xs : List α) (H : Nat → List D → St) (e0 : Ex) (E : List D → St) (f : α → D)
    (hs : ∀ i acc, i < xs.length → acc.length = i → ∀ e s, GoesL Try.prog c (H (i + 1) (acc ++ [f (xs.getD i default)])) e s → GoesL Try.prog c (H i acc) e s)
    (he : ∀ acc, acc.length = xs.length → GoesL Try.prog c (H xs.length acc) e0 (E acc)) : GoesL Try.prog c (H 0 []) e0 (E (xs.map f)) := by
  have key : ∀ (d i : Nat) (acc : List D), xs.length - i = d → i ≤ xs.length → acc.length = i → GoesL Try.prog c (H i acc) e0 (E (acc ++ (xs.drop i).map f)) := by
    intro d
    induction d with
    | zero =>
      intro i acc hd hi hl
      obtain rfl : i = xs.length := by omega
      rw [List.drop_length, List.map_nil, List.append_nil]
      exact he acc hl
    | succ d ih =>
      intro i acc hd hi hl
      refine hs i acc (by omega) hl _ _ ?_
      rw [drop_getD xs i (by omega), List.map_cons]
      have := ih (i + 1) (acc ++ [f (xs.getD i default)]) (by omega) (by omega) (by rw [List.length_append, hl]; rfl)
      rw [List.append_assoc] at this
      exact this
  have := key _ 0 [] rfl (Nat.zero_le _) rfl
  rwa [List.drop_zero, List.nil_append] at this
/-- Variables that are numbered, one after the other. -/
theorem num_loop (vs : List Nat) (q0 M : Nat) (H : Nat → List D → St) (e0 : Ex) (E : List D → St)
    (hs : ∀ i (G : List Int), i < vs.length → G.length = M → ∀ e s, GoesL Try.prog c (H (i + 1) ((G.set (vs.getD i default) ((q0 + i + 1 : Nat) : Int)).map I)) e s → GoesL Try.prog c (H i (G.map I)) e s)
    (he : ∀ G : List Int, GoesL Try.prog c (H vs.length (G.map I)) e0 (E (G.map I))) (G : List Int) (hG : G.length = M) : GoesL Try.prog c (H 0 (G.map I)) e0 (E ((numW vs (q0 + 1) G).map I)) := by
  have key : ∀ (d i : Nat) (G : List Int), vs.length - i = d → i ≤ vs.length → G.length = M → GoesL Try.prog c (H i (G.map I)) e0 (E ((numW (vs.drop i) (q0 + i + 1) G).map I)) := by
    intro d
    induction d with
    | zero =>
      intro i G hd hi hl
      obtain rfl : i = vs.length := by omega
      rw [List.drop_length]
      exact he G
    | succ d ih =>
      intro i G hd hi hl
      refine hs i G (by omega) hl _ _ ?_
      rw [drop_getD vs i (by omega), numW]
      exact ih (i + 1) _ (by omega) (by omega) (by rw [List.length_set]; exact hl)
  exact key _ 0 G rfl (Nat.zero_le _) hG
end
theorem tld (g : List Int) (x : Int) (h0 : 0 ≤ x) (hl : varN x < g.length) (hx : x ≤ 10000) (hb : -1 ≤ gt g (varN x) ∧ gt g (varN x) ≤ 10000) :
    ICall Try.prog 29 [.d (I x), .ptr 0 0] [.box [.arr 1], .lst 3 (g.map I)] (.d (I (told g x))) [.box [.arr 1], .lst 3 (g.map I)] := by
  refine callX_ok hO hm (told1 (g.map I) (varN x) x (gt g (varN x))) ⟨quo2 h0 (by omega), ⟨by unfold varN; omega, by rw [List.length_map]; exact hl⟩, get_map I g _ hl, wrap_id (by omega) (by omega), rem2 h0, ?_⟩
  exact wrap_id (by omega) (by omega)
section
variable (r : Rw) (g l ow : List Int)
theorem adopts (ml : List D) : adoptB 6 4 3 (adoptB 6 3 3 (adoptB 6 2 48 (adoptB 6 1 50 (SE r ml l ow (W2 r 0))))) = SX r ml l ow [] [] [] [] (W2 r 0) := by kernel_rfl
theorem z1 : szOf Try.prog 3 = some 1 := by kernel_rfl
theorem z2 : szOf Try.prog 48 = some 2 := by kernel_rfl
theorem z3 : szOf Try.prog 50 = some 2 := by kernel_rfl
theorem lats_loop (hl : r.lats.length ≤ 1000) (ht : ∀ x ∈ Def.uses r, ICall Try.prog 29 [.d (I x), .ptr 0 0] [.box [.arr 1], .lst 3 (g.map I)] (.d (I (told g x))) [.box [.arr 1], .lst 3 (g.map I)]) :
    GoesL Try.prog (loopOf Try.prog 10 2) (SE r (g.map I) l ow (W2 r 0)) (.exit 4) (SX r (g.map I) l ow (r.lats.map (fun d => (⟨told g d.a, d.b⟩ : Lt).d)) [] [] [] []) := by
  refine .adoptB (id := 6) (j := 1) z3 (.adoptB (id := 6) (j := 2) z2 (.adoptB (id := 6) (j := 3) z1 (.adoptB (id := 6) (j := 4) z1 ?_)))
  rw [adopts]
  refine map_loop r.lats (fun i acc => SX r (g.map I) l ow acc [] [] [] (W2 r i)) (.exit 4) (fun acc => SX r (g.map I) l ow acc [] [] [] []) _ (fun i acc hi ha e s h => ?_) (fun acc _ => ?_)
  · have hm' : (r.lats.getD i default).a ∈ Def.uses r := by
      unfold Def.uses
      refine List.mem_append_left _ (List.mem_append_right _ (List.mem_map.2 ⟨_, ?_, rfl⟩))
      rw [List.getD_eq_getElem?_getD, List.getElem?_eq_getElem hi]; exact List.getElem_mem hi
    exact .step hO hm (c1 r (g.map I) l ow acc [] [] [] i (told g (r.lats.getD i default).a)) ⟨decide_eq_true (by rw [List.length_map]; omega), ⟨rfl, get_map Df.d r.lats i hi⟩, ht _ hm', Nat.le_trans (show _ ≤ 100000 by rw [ha]; simp; omega) (by decide), wrap_succ (by omega)⟩ h
  · exact .stop hO hm (c2 r (g.map I) l ow acc [] [] [] r.lats.length) (by simp) (decide_eq_false (by rw [List.length_map]; omega))
theorem ands_loop (s : List Nat) (hs : ∀ i ∈ s, i < r.ands.length) (hl : s.length ≤ 1000) (x1 : List D) (ht : ∀ x ∈ Def.uses r, ICall Try.prog 29 [.d (I x), .ptr 0 0] [.box [.arr 1], .lst 3 (g.map I)] (.d (I (told g x))) [.box [.arr 1], .lst 3 (g.map I)]) :
    GoesL Try.prog (loopOf Try.prog 10 3) (SX r (g.map I) (s.map (fun k : Nat => (k : Int))) ow x1 [] [] [] (W3 (s.map (fun k : Nat => (k : Int))) 0)) (.exit 6)
      (SX r (g.map I) (s.map (fun k : Nat => (k : Int))) ow x1 (s.map (fun i : Nat => (⟨mx (told g (rdD r.ands (i : Int)).a) (told g (rdD r.ands (i : Int)).b), mn (told g (rdD r.ands (i : Int)).a) (told g (rdD r.ands (i : Int)).b)⟩ : An).d)) [] [] []) := by
  refine map_loop s (fun i acc => SX r (g.map I) (s.map (fun k : Nat => (k : Int))) ow x1 acc [] [] (W3 (s.map (fun k : Nat => (k : Int))) i)) (.exit 6) (fun acc => SX r (g.map I) (s.map (fun k : Nat => (k : Int))) ow x1 acc [] [] []) _ (fun i acc hi ha e s' h => ?_) (fun acc _ => ?_)
  · have hsi : s.getD i default < r.ands.length := hs _ (by rw [List.getD_eq_getElem?_getD, List.getElem?_eq_getElem hi]; exact List.getElem_mem hi)
    have hu : ∀ d ∈ r.ands, d.a ∈ Def.uses r ∧ d.b ∈ Def.uses r := fun d hd => by
      unfold Def.uses
      exact ⟨List.mem_append_right _ (List.mem_flatMap.2 ⟨d, hd, by simp⟩), List.mem_append_right _ (List.mem_flatMap.2 ⟨d, hd, by simp⟩)⟩
    have hd : r.ands.getD (s.getD i default) default = rdD r.ands ((s.getD i default : Nat) : Int) := by unfold rdD; rw [Int.toNat_natCast]
    have hmem := rdT_mem (ands := r.ands) hsi
    have he : (s.map (fun k : Nat => (k : Int))).getD i default = ((s.getD i default : Nat) : Int) := by
      rw [List.getD_eq_getElem?_getD, List.getElem?_map, List.getElem?_eq_getElem hi, List.getD_eq_getElem?_getD, List.getElem?_eq_getElem hi]; rfl
    have hw := get_map Df.d r.ands _ hsi
    have hli : i < (s.map (fun k : Nat => (k : Int))).length := by rw [List.length_map]; exact hi
    refine .step hO hm (d1 r (g.map I) (s.map (fun k : Nat => (k : Int))) ow x1 acc [] [] i (s.getD i default) (told g (rdD r.ands ((s.getD i default : Nat) : Int)).a) (told g (rdD r.ands ((s.getD i default : Nat) : Int)).b)) ⟨decide_eq_true (by rw [List.length_map, List.length_map]; omega), ⟨rfl, by rw [List.length_map, List.length_map]; omega⟩, get_map I _ i hli, ⟨he, hw⟩, by rw [hd]; exact ht _ (hu _ hmem).1, ⟨he, hw⟩, by rw [hd]; exact ht _ (hu _ hmem).2, rfl, rfl, Nat.le_trans (show _ ≤ 100000 by rw [ha]; simp; omega) (by decide), wrap_succ (by omega)⟩ h
  · exact .stop hO hm (d2 r (g.map I) (s.map (fun k : Nat => (k : Int))) ow x1 acc [] [] s.length) (by simp) (decide_eq_false (by rw [List.length_map, List.length_map]; omega))
theorem bads_loop (hl : r.bads.length ≤ 1000) (x1 x2 : List D) (ht : ∀ x ∈ Def.uses r, ICall Try.prog 29 [.d (I x), .ptr 0 0] [.box [.arr 1], .lst 3 (g.map I)] (.d (I (told g x))) [.box [.arr 1], .lst 3 (g.map I)]) :
    GoesL Try.prog (loopOf Try.prog 10 4) (SX r (g.map I) l ow x1 x2 [] [] (W4 r.bads 0)) (.exit 8) (SX r (g.map I) l ow x1 x2 (r.bads.map (fun x => I (told g x))) [] []) := by
  refine map_loop r.bads (fun i acc => SX r (g.map I) l ow x1 x2 acc [] (W4 r.bads i)) (.exit 8) (fun acc => SX r (g.map I) l ow x1 x2 acc [] []) _ (fun i acc hi ha e s h => ?_) (fun acc _ => ?_)
  · have hm' : r.bads.getD i default ∈ Def.uses r := by
      unfold Def.uses
      refine List.mem_append_left _ (List.mem_append_left _ (List.mem_append_left _ ?_))
      rw [List.getD_eq_getElem?_getD, List.getElem?_eq_getElem hi]; exact List.getElem_mem hi
    exact .step hO hm (e1 r (g.map I) l ow x1 x2 acc [] i (told g (r.bads.getD i default))) ⟨decide_eq_true (by rw [List.length_map]; omega), ⟨rfl, get_map I r.bads i hi⟩, ht _ hm', Nat.le_trans (show _ ≤ 100000 by rw [ha]; simp; omega) (by decide), wrap_succ (by omega)⟩ h
  · exact .stop hO hm (e2 r (g.map I) l ow x1 x2 acc [] r.bads.length) (by simp) (decide_eq_false (by rw [List.length_map]; omega))
theorem cons_loop (hl : r.cons.length ≤ 1000) (x1 x2 x3 : List D) (ht : ∀ x ∈ Def.uses r, ICall Try.prog 29 [.d (I x), .ptr 0 0] [.box [.arr 1], .lst 3 (g.map I)] (.d (I (told g x))) [.box [.arr 1], .lst 3 (g.map I)]) :
    GoesL Try.prog (loopOf Try.prog 10 5) (SX r (g.map I) l ow x1 x2 x3 [] (W5 r.cons 0)) (.exit 10) (SX r (g.map I) l ow x1 x2 x3 (r.cons.map (fun x => I (told g x))) []) := by
  refine map_loop r.cons (fun i acc => SX r (g.map I) l ow x1 x2 x3 acc (W5 r.cons i)) (.exit 10) (fun acc => SX r (g.map I) l ow x1 x2 x3 acc []) _ (fun i acc hi ha e s h => ?_) (fun acc _ => ?_)
  · have hm' : r.cons.getD i default ∈ Def.uses r := by
      unfold Def.uses
      refine List.mem_append_left _ (List.mem_append_left _ (List.mem_append_right _ ?_))
      rw [List.getD_eq_getElem?_getD, List.getElem?_eq_getElem hi]; exact List.getElem_mem hi
    exact .step hO hm (f1 r (g.map I) l ow x1 x2 x3 acc i (told g (r.cons.getD i default))) ⟨decide_eq_true (by rw [List.length_map]; omega), ⟨rfl, get_map I r.cons i hi⟩, ht _ hm', Nat.le_trans (show _ ≤ 100000 by rw [ha]; simp; omega) (by decide), wrap_succ (by omega)⟩ h
  · exact .stop hO hm (f2 r (g.map I) l ow x1 x2 x3 acc r.cons.length) (by simp) (decide_eq_false (by rw [List.length_map]; omega))
end
/-- The answer of a raw circuit that is not good. -/
def badV (e : Int) : V := .tup [.agg [.d (I 0), .emp true, .emp true, .emp true, .emp true], .emp true, .d (I e)]
/-- The answer of a good one. -/
def goodV (c : Ci) (g : List Int) : V := .tup [.agg [.d (I c.ins), .own 50 (c.lats.map Lt.d), .own 48 (c.ands.map An.d), .own 3 (c.bads.map I), .own 3 (c.cons.map I)], .own 3 (g.map I), .d (I 0)]
def cirR (r : Rw) : Ci := circS r.most r.ins r.lats r.ands r.bads r.cons
def numR (r : Rw) : List Int := numsS r.most r.ins r.lats r.ands
theorem circuit_bad {r : Rw} (h : Wf r) (hc : chkR r ≠ 0) : ICall Try.prog 10 [.d r.d] [] (badV (chkR r)) [] :=
  callX_ok hO hm (bad r (chkR r)) ⟨check h, bne_iff_ne.2 hc⟩
theorem circuit_good {r : Rw} (h : Wf r) (hc : chkR r = 0) : ICall Try.prog 10 [.d r.d] [] (goodV (cirR r) (numR r)) [] := by
  have hc' : chkS r.most r.ins r.lats r.ands r.bads r.cons = 0 := hc
  obtain ⟨hN, hn, hfull⟩ := chkS_zero hc'
  obtain ⟨m, em⟩ := Int.eq_ofNat_of_zero_le hN.m.1
  have hm1 := hN.m.2
  have hlen := hN.len
  have hS : Nums m r.ins r.lats r.ands r.bads r.cons (ordS r.ands r.ands.length []) (numR r) := by
    have := nums_of (m := m) (by rw [← em]; exact hc')
    unfold numR numsS
    rwa [em, Int.toNat_natCast]
  obtain ⟨hu, -⟩ := chkS_more hc'
  generalize hs : ordS r.ands r.ands.length [] = s at hS
  have hsl := hS.full
  have hok : Ok m r.ands := num_ok (by rw [← em]; exact hN) hn
  have hso : ICall Try.prog 27 [.d r.d] [] (.own 3 ((s.map (fun k : Nat => (k : Int))).map I)) [] := by rw [← hs]; exact sorted_of ⟨m, em, hok⟩
  have ht : ∀ x ∈ Def.uses r, ICall Try.prog 29 [.d (I x), .ptr 0 0] [.box [.arr 1], .lst 3 ((numR r).map I)] (.d (I (told (numR r) x))) [.box [.arr 1], .lst 3 ((numR r).map I)] := fun x hx => by
    have h1 := hN.use x hx
    have h2 := hS.num (hu x hx)
    exact tld _ x h1.1 (by rw [hS.len]; unfold varN; omega) (by omega) (by omega)
  have hnum : numR r = numW (s.map (vr r.ands)) (r.ins.length + r.lats.length + 1) (numW (r.ins.map varN ++ r.lats.map (fun d => varN d.lit)) 1 (numS m)) := by
    unfold numR numsS varsN
    rw [em, Int.toNat_natCast, hs, numW_append, List.length_append, List.length_map, List.length_map, Nat.add_comm 1]
  have hg1 : (numW (r.ins.map varN ++ r.lats.map (fun d => varN d.lit)) 1 (numS m)).length = m + 1 := by rw [numW_len, numS_len]
  have hvl : (r.ins.map varN ++ r.lats.map (fun d => varN d.lit)).length = r.ins.length + r.lats.length := by simp
  have hdl : (Def.defs r).length = r.ins.length + r.lats.length + r.ands.length := by unfold Def.defs; simp; omega
  have hn0 : (List.take (r.ins.length + r.lats.length - 0) (List.drop 0 ((Def.defs r).map I))).length = r.ins.length + r.lats.length := by rw [List.drop_zero, List.length_take, List.length_map, hdl]; omega
  have hget : ∀ i, i < r.ins.length + r.lats.length → (r.ins.map varN ++ r.lats.map (fun d => varN d.lit)).getD i default = varN ((Def.defs r).getD i default) := fun i hi => by
    have e : r.ins.map varN ++ r.lats.map (fun d => varN d.lit) = ((Def.defs r).take (r.ins.length + r.lats.length)).map varN := by
      unfold Def.defs
      rw [List.map_append, ← List.append_assoc, List.take_append_of_le_length (by simp), List.take_of_length_le (by simp), List.map_append, List.map_map]; rfl
    rw [e, List.getD_eq_getElem?_getD, List.getElem?_map, List.getElem?_take_of_lt hi, List.getElem?_eq_getElem (by omega), List.getD_eq_getElem?_getD, List.getElem?_eq_getElem (by omega)]; rfl
  have hown : ∀ i, i < (Def.defs r).length → 2 ≤ (Def.defs r).getD i default ∧ (Def.defs r).getD i default ≤ 2 * (m : Int) + 1 := fun i hi => by
    have hmem : (Def.defs r).getD i default ∈ Def.defs r := by rw [List.getD_eq_getElem?_getD, List.getElem?_eq_getElem hi]; exact List.getElem_mem hi
    have := hN.own ((Def.defs r).getD i default) (by rw [← own_defs]; exact hmem)
    omega
  have l0 : GoesL Try.prog (loopOf Try.prog 10 0) (S0 r ((numS m).map I) (s.map (fun k : Nat => (k : Int))) (Def.defs r) (W0 0 (r.ins.length + r.lats.length) 0)) (.exit 0) (S0 r ((numW (r.ins.map varN ++ r.lats.map (fun d => varN d.lit)) 1 (numS m)).map I) (s.map (fun k : Nat => (k : Int))) (Def.defs r) [(8, .d (I (r.ins.length + r.lats.length : Nat)))]) := by
    have := num_loop (c := loopOf Try.prog 10 0) (r.ins.map varN ++ r.lats.map (fun d => varN d.lit)) 0 (m + 1) (fun i ml => S0 r ml (s.map (fun k : Nat => (k : Int))) (Def.defs r) (W0 i (r.ins.length + r.lats.length) i)) (.exit 0) (fun ml => S0 r ml (s.map (fun k : Nat => (k : Int))) (Def.defs r) [(8, .d (I (r.ins.length + r.lats.length : Nat)))]) (fun i G hi hG e s' hh => ?_) (fun G => ?_) (numS m) (numS_len m)
    · exact this
    · rw [hvl] at hi
      have ho := hown i (by omega)
      rw [hget i hi, List.map_set, show 0 + i + 1 = i + 1 by omega] at hh
      have hz : (0 + i) < (Def.defs r).length := by omega
      have hgm := get_map I (Def.defs r) (0 + i) hz
      rw [show (Def.defs r).getD (0 + i) default = (Def.defs r).getD i default by rw [Nat.zero_add]] at hgm
      exact .step hO hm (a1 r (G.map I) _ (Def.defs r) i (r.ins.length + r.lats.length) i (varN ((Def.defs r).getD i default))) ⟨decide_eq_true (by omega), by rw [List.length_map]; omega, ⟨rfl, hi⟩, hgm, wrap_succ (by omega), quo2 (by omega) (by omega), ⟨by unfold varN; omega, by rw [List.length_map, hG]; unfold varN; omega⟩, wrap_succ (by omega)⟩ hh
    · rw [hvl]
      exact .stop hO hm (a2 r (G.map I) _ (Def.defs r) (r.ins.length + r.lats.length) (r.ins.length + r.lats.length) (r.ins.length + r.lats.length)) (by simp) (decide_eq_false (by omega))
  have l1 : GoesL Try.prog (loopOf Try.prog 10 1) (S0 r ((numW (r.ins.map varN ++ r.lats.map (fun d => varN d.lit)) 1 (numS m)).map I) (s.map (fun k : Nat => (k : Int))) (Def.defs r) (W1 (s.map (fun k : Nat => (k : Int))) (r.ins.length + r.lats.length) 0)) (.exit 2) (S0 r ((numR r).map I) (s.map (fun k : Nat => (k : Int))) (Def.defs r) []) := by
    have := num_loop (c := loopOf Try.prog 10 1) (s.map (vr r.ands)) (r.ins.length + r.lats.length) (m + 1) (fun i ml => S0 r ml (s.map (fun k : Nat => (k : Int))) (Def.defs r) (W1 (s.map (fun k : Nat => (k : Int))) (r.ins.length + r.lats.length + i) i)) (.exit 2) (fun ml => S0 r ml (s.map (fun k : Nat => (k : Int))) (Def.defs r) []) (fun i G hi hG e s' hh => ?_) (fun G => ?_) _ hg1
    · rw [hnum]; exact this
    · rw [List.length_map] at hi
      have hsi : s.getD i default < r.ands.length := hS.lt _ (by rw [List.getD_eq_getElem?_getD, List.getElem?_eq_getElem hi]; exact List.getElem_mem hi)
      have hd : r.ands.getD (s.getD i default) default = rdD r.ands ((s.getD i default : Nat) : Int) := by unfold rdD; rw [Int.toNat_natCast]
      have hv := hok.vr_le hsi
      have he : (s.map (fun k : Nat => (k : Int))).getD i default = ((s.getD i default : Nat) : Int) := by
        rw [List.getD_eq_getElem?_getD, List.getElem?_map, List.getElem?_eq_getElem hi, List.getD_eq_getElem?_getD, List.getElem?_eq_getElem hi]; rfl
      have hev : (s.map (vr r.ands)).getD i default = vr r.ands (s.getD i default) := by
        rw [List.getD_eq_getElem?_getD, List.getElem?_map, List.getElem?_eq_getElem hi, List.getD_eq_getElem?_getD, List.getElem?_eq_getElem hi]; rfl
      rw [hev, List.map_set] at hh
      have hli : i < (s.map (fun k : Nat => (k : Int))).length := by rw [List.length_map]; exact hi
      have hw := get_map Df.d r.ands _ hsi
      refine .step hO hm (b1 r (G.map I) (s.map (fun k : Nat => (k : Int))) (Def.defs r) (r.ins.length + r.lats.length + i) i (s.getD i default) (vr r.ands (s.getD i default))) ⟨decide_eq_true (by rw [List.length_map, List.length_map]; omega), ⟨rfl, by rw [List.length_map, List.length_map]; omega⟩, get_map I _ i hli, wrap_succ (by omega), ⟨he, hw⟩, ?_, ⟨?_, by rw [List.length_map, hG]; omega⟩, wrap_succ (by omega)⟩ hh
      · rw [hd]; exact quo2 hv.2.2 (by omega)
      · rw [hd]; exact hv.2.1
    · rw [List.length_map]
      exact .stop hO hm (b2 r (G.map I) (s.map (fun k : Nat => (k : Int))) (Def.defs r) _ s.length) (by simp) (decide_eq_false (by rw [List.length_map, List.length_map]; omega))
  have hck := check h
  rw [hc] at hck
  have hrep := Rep.icall (m + 1) (by omega) (by omega)
  have hdf := Def.defined r h.fits
  have e1 : (List.replicate (m + 1) (I (-1))).set 0 (I 0) = (numS m).map I := by unfold numS; rw [List.map_set, List.map_replicate]
  have hgood := callX_ok hO hm (good r (List.replicate (m + 1) (I (-1))) (s.map (fun k : Nat => (k : Int))) (Def.defs r) (r.ins.length + r.lats.length) (r.ins.length + r.lats.length) (m + 1) _ _ _ _ _ _ _ _ _ _ _ _ _ _ _ _ _ _ 0)
    ⟨hck, by decide, by rw [em, wrap_id (by omega) (by omega)]; omega, hrep, ⟨rfl, by simp⟩, hso, hdf, by rw [List.length_map, List.length_map, wrap_id (by omega) (by omega)]; omega, ⟨rfl, by rw [List.length_map, List.length_map], Nat.zero_le _, by rw [List.length_map]; omega⟩,
      (by rw [e1, hn0]; exact l0), l1, lats_loop r (numR r) _ _ (by omega) ht, ands_loop r (numR r) _ s hS.lt (by omega) _ ht, bads_loop r (numR r) _ _ (by have := hN.l4; omega) _ _ ht, cons_loop r (numR r) _ _ (by have := hN.l5; omega) _ _ _ ht⟩
  unfold goodV cirR circS cirSv
  simp only [List.map_map, hs]
  rw [List.length_map] at hgood
  exact hgood
end Go.Proofs.Ytbbefbgomdmldaa.Sy.Cir
/- The reference's Defined, Used, Told, round by round. -/
namespace Go.Proofs.Ytbbefbgomdmldaa.Sy.Ref
open Go Go.Proofs.Ytbbefbgomdmldaa.Ab Go.Proofs.Ytbbefbgomdmldaa.Sy
set_option maxRecDepth 1000000
set_option linter.unusedVariables false
def Hd (r : Rw) (xs : List D) (sl : List (Nat × V)) : St := ⟨mk 43 ([(1, .ptr 0 0), (3, .arr 1)] ++ sl) [], [r.box, .lst 3 xs]⟩
def Hu (r : Rw) (xs : List D) (sl : List (Nat × V)) : St := ⟨mk 53 ([(1, .ptr 0 0), (3, .arr 1)] ++ sl) [], [r.box, .lst 3 xs]⟩
section
variable (r : Rw) (x : Int) (g : List Int) (i : Nat) (xs ys : List D) (a b : List Int)
theorem d1 : round Try.prog wr false O (loopOf Try.prog 14 0) (Hd r xs [(4, .d (I i))]) [It.br true, It.el i (r.lats.getD i default).d, It.raw, It.raw, It.raw, It.is (↑(i + 1) : Int)] [1, 3, 4] 2 = some (.normal, Hd r (xs ++ [I (r.lats.getD i default).lit]) [(4, .d (I (i + 1 : Nat)))],
  [decide ((↑i : Int) < (↑(List.map Df.d r.lats).length : Int)) = true,
   (↑i : Int) = (↑i : Int) ∧ (List.map Df.d r.lats)[i]? = some (r.lats.getD i default).d,
   xs.length + [I (r.lats.getD i default).lit].length ≤ maxItems,
   IntKind.i64.wrap ((↑i : Int) + 1) = (↑(i + 1) : Int)]) := by kernel_rfl
theorem d2 : round Try.prog wr false O (loopOf Try.prog 14 0) (Hd r xs [(4, .d (I i))]) [It.br false] [1, 3] 2 = some (.exit 0, Hd r xs [],
  [decide ((↑i : Int) < (↑(List.map Df.d r.lats).length : Int)) = false]) := by kernel_rfl
theorem d3 : round Try.prog wr false O (loopOf Try.prog 14 1) (Hd r xs [(5, .d (I i))]) [It.br true, It.el i (r.ands.getD i default).d, It.raw, It.raw, It.raw, It.is (↑(i + 1) : Int)] [1, 3, 5] 2 = some (.normal, Hd r (xs ++ [I (r.ands.getD i default).lit]) [(5, .d (I (i + 1 : Nat)))],
  [decide ((↑i : Int) < (↑(List.map Df.d r.ands).length : Int)) = true,
   (↑i : Int) = (↑i : Int) ∧ (List.map Df.d r.ands)[i]? = some (r.ands.getD i default).d,
   xs.length + [I (r.ands.getD i default).lit].length ≤ maxItems,
   IntKind.i64.wrap ((↑i : Int) + 1) = (↑(i + 1) : Int)]) := by kernel_rfl
theorem d4 : round Try.prog wr false O (loopOf Try.prog 14 1) (Hd r xs [(5, .d (I i))]) [It.br false] [1, 3] 2 = some (.exit 2, Hd r xs [],
  [decide ((↑i : Int) < (↑(List.map Df.d r.ands).length : Int)) = false]) := by kernel_rfl
theorem d5  : callX Try.prog wr false O 14 [.d r.d] [] [It.raw, It.own, It.raw, It.lp [1, 3, 4] (Ex.exit 0) (Hd r xs []), It.lp [1, 3, 5] (Ex.exit 2) (Hd r ys [])] = some (V.own 3 ys, [],
  [∀ (y : D), y ∈ List.map I r.ins → y.cells.length = (fun x => x.size) Try.prog.types[3],
   (List.map I r.ins).length ≤ maxItems,
   GoesL Try.prog (loopOf Try.prog 14 0) (⟨mk 43 [(1, V.ptr 0 0), (3, V.arr 1), (4, V.d (D.int IntKind.i64 0))] [], [B.box [V.d (D.int IntKind.i64 r.most), V.d (D.sl (List.map I r.ins)), V.d (D.sl (List.map Df.d r.lats)), V.d (D.sl (List.map Df.d r.ands)), V.d (D.sl (List.map I r.bads)), V.d (D.sl (List.map I r.cons))], B.lst 3 (List.map I r.ins)]⟩) (Ex.exit 0) (Hd r xs []),
   GoesL Try.prog (loopOf Try.prog 14 1) (⟨mk 43 [(1, V.ptr 0 0), (3, V.arr 1), (5, V.d (D.int IntKind.i64 0))] [], [B.box [V.d (D.int IntKind.i64 r.most), V.d (D.sl (List.map I r.ins)), V.d (D.sl (List.map Df.d r.lats)), V.d (D.sl (List.map Df.d r.ands)), V.d (D.sl (List.map I r.bads)), V.d (D.sl (List.map I r.cons))], B.lst 3 xs]⟩) (Ex.exit 2) (Hd r ys [])]) := by kernel_rfl
theorem u1 : round Try.prog wr false O (loopOf Try.prog 24 0) (Hu r xs [(4, .d (I i))]) [It.br true, It.el i (r.lats.getD i default).d, It.raw, It.raw, It.raw, It.is (↑(i + 1) : Int)] [1, 3, 4] 2 = some (.normal, Hu r (xs ++ [I (r.lats.getD i default).a]) [(4, .d (I (i + 1 : Nat)))],
  [decide ((↑i : Int) < (↑(List.map Df.d r.lats).length : Int)) = true,
   (↑i : Int) = (↑i : Int) ∧ (List.map Df.d r.lats)[i]? = some (r.lats.getD i default).d,
   xs.length + [I (r.lats.getD i default).a].length ≤ maxItems,
   IntKind.i64.wrap ((↑i : Int) + 1) = (↑(i + 1) : Int)]) := by kernel_rfl
theorem u2 : round Try.prog wr false O (loopOf Try.prog 24 0) (Hu r xs [(4, .d (I i))]) [It.br false] [1, 3] 2 = some (.exit 0, Hu r xs [],
  [decide ((↑i : Int) < (↑(List.map Df.d r.lats).length : Int)) = false]) := by kernel_rfl
theorem u3 : round Try.prog wr false O (loopOf Try.prog 24 1) (Hu r xs [(5, .d (I i))]) [It.br true, It.el i (r.ands.getD i default).d, It.el i (r.ands.getD i default).d, It.raw, It.raw, It.raw, It.is (↑(i + 1) : Int)] [1, 3, 5] 2 = some (.normal, Hu r (xs ++ [I (r.ands.getD i default).a, I (r.ands.getD i default).b]) [(5, .d (I (i + 1 : Nat)))],
  [decide ((↑i : Int) < (↑(List.map Df.d r.ands).length : Int)) = true,
   (↑i : Int) = (↑i : Int) ∧ (List.map Df.d r.ands)[i]? = some (r.ands.getD i default).d,
   (↑i : Int) = (↑i : Int) ∧ (List.map Df.d r.ands)[i]? = some (r.ands.getD i default).d,
   xs.length + [I (r.ands.getD i default).a, I (r.ands.getD i default).b].length ≤ maxItems,
   IntKind.i64.wrap ((↑i : Int) + 1) = (↑(i + 1) : Int)]) := by kernel_rfl
theorem u4 : round Try.prog wr false O (loopOf Try.prog 24 1) (Hu r xs [(5, .d (I i))]) [It.br false] [1, 3] 2 = some (.exit 2, Hu r xs [],
  [decide ((↑i : Int) < (↑(List.map Df.d r.ands).length : Int)) = false]) := by kernel_rfl
theorem u5  : callX Try.prog wr false O 24 [.d r.d] [] [It.raw, It.own, It.raw, It.own, It.raw, It.lp [1, 3, 4] (Ex.exit 0) (Hu r xs []), It.lp [1, 3, 5] (Ex.exit 2) (Hu r ys [])] = some (V.own 3 ys, [],
  [∀ (y : D), y ∈ List.map I r.bads → y.cells.length = (fun x => x.size) Try.prog.types[3],
   (List.map I r.bads).length ≤ maxItems,
   ∀ (y : D), y ∈ List.map I r.cons → y.cells.length = (fun x => x.size) Try.prog.types[3],
   (List.map I r.bads).length + (List.map I r.cons).length ≤ maxItems,
   GoesL Try.prog (loopOf Try.prog 24 0) (⟨mk 53 [(1, V.ptr 0 0), (3, V.arr 1), (4, V.d (D.int IntKind.i64 0))] [], [B.box [V.d (D.int IntKind.i64 r.most), V.d (D.sl (List.map I r.ins)), V.d (D.sl (List.map Df.d r.lats)), V.d (D.sl (List.map Df.d r.ands)), V.d (D.sl (List.map I r.bads)), V.d (D.sl (List.map I r.cons))], B.lst 3 (List.map I r.bads ++ List.map I r.cons)]⟩) (Ex.exit 0) (Hu r xs []),
   GoesL Try.prog (loopOf Try.prog 24 1) (⟨mk 53 [(1, V.ptr 0 0), (3, V.arr 1), (5, V.d (D.int IntKind.i64 0))] [], [B.box [V.d (D.int IntKind.i64 r.most), V.d (D.sl (List.map I r.ins)), V.d (D.sl (List.map Df.d r.lats)), V.d (D.sl (List.map Df.d r.ands)), V.d (D.sl (List.map I r.bads)), V.d (D.sl (List.map I r.cons))], B.lst 3 xs]⟩) (Ex.exit 2) (Hu r ys [])]) := by kernel_rfl
theorem t1  : callX Try.prog wr false O 15 [.d (L g), .d (I x)] [] [It.is (x / 2), It.el (x / 2).toNat (I (g.getD (x / 2).toNat default)), It.is (2 * g.getD (x / 2).toNat default), It.is (x % 2), It.is (2 * g.getD (x / 2).toNat default + x % 2)] = some (V.d (D.int IntKind.i64 (2 * g.getD (x / 2).toNat default + x % 2)), [],
  [IntKind.i64.wrap (x.tdiv 2) = x / 2,
   x / 2 = (↑(x / 2).toNat : Int) ∧ (List.map I g)[(x / 2).toNat]? = some (I (g.getD (x / 2).toNat default)),
   IntKind.i64.wrap (2 * g.getD (x / 2).toNat default) = 2 * g.getD (x / 2).toNat default,
   x.tmod 2 = x % 2,
   IntKind.i64.wrap (2 * g.getD (x / 2).toNat default + x % 2) = 2 * g.getD (x / 2).toNat default + x % 2]) := by kernel_rfl
end
end Go.Proofs.Ytbbefbgomdmldaa.Sy.Ref
/- The reference's numbers and Times, round by round. -/
namespace Go.Proofs.Ytbbefbgomdmldaa.Sy.Ref
open Go Go.Proofs.Ytbbefbgomdmldaa.Ab Go.Proofs.Ytbbefbgomdmldaa.Sy
set_option maxRecDepth 1000000
set_option linter.unusedVariables false
def Hn (r : Rw) (a b : List Int) (sl : List (Nat × V)) : St := ⟨mk 87 ([(1, .ptr 0 0), (3, .arr 1), (4, .arr 2)] ++ sl) [], [r.box, .lst 3 (a.map I), .lst 3 (b.map I)]⟩
def Rn (r : Rw) (a b : List Int) : St := ⟨mk 87 [(2, .d (.bool false))] [], [r.box, .lst 3 (a.map I), .lst 3 (b.map I)]⟩
def Ht (r : Rw) (ml : List D) (a : List Int) (sl : List (Nat × V)) : St := ⟨mk 31 ([(1, .ptr 0 0), (3, .arr 1), (4, .arr 2)] ++ sl) [], [r.box, .lst 3 ml, .lst 3 (a.map I)]⟩
section
variable (r : Rw) (x v : Int) (g : List Int) (i u N : Nat) (xs ys ml : List D) (a b : List Int)
theorem n1 : round Try.prog wr false O (loopOf Try.prog 22 0) (Hn r a b [(5, .d (I i))]) [It.br true, It.ix i, It.el i (I (a.getD i default)), It.br true] [2] 3 = some (.ret, Rn r a b,
  [decide ((↑i : Int) < (↑(List.map I a).length : Int)) = true,
   (↑i : Int) = (↑i : Int) ∧ i < (List.map I a).length,
   (List.map I a)[i]? = some (I (a.getD i default)),
   decide (a.getD i default < 2) = true]) := by kernel_rfl
theorem n2 : round Try.prog wr false O (loopOf Try.prog 22 0) (Hn r a b [(5, .d (I i))]) [It.br true, It.ix i, It.el i (I (a.getD i default)), It.br false, It.ix i, It.el i (I (a.getD i default)), It.is (a.getD i default % 2), It.br true] [2] 3 = some (.ret, Rn r a b,
  [decide ((↑i : Int) < (↑(List.map I a).length : Int)) = true,
   (↑i : Int) = (↑i : Int) ∧ i < (List.map I a).length,
   (List.map I a)[i]? = some (I (a.getD i default)),
   decide (a.getD i default < 2) = false,
   (↑i : Int) = (↑i : Int) ∧ i < (List.map I a).length,
   (List.map I a)[i]? = some (I (a.getD i default)),
   (a.getD i default).tmod 2 = a.getD i default % 2,
   (a.getD i default % 2 == 1) = true]) := by kernel_rfl
theorem n3 : round Try.prog wr false O (loopOf Try.prog 22 0) (Hn r a b [(5, .d (I i))]) [It.br true, It.ix i, It.el i (I (a.getD i default)), It.br false, It.ix i, It.el i (I (a.getD i default)), It.is (a.getD i default % 2), It.br false, It.ix i, It.el i (I (a.getD i default)), It.is (2 * r.most), It.is (2 * r.most + 1), It.br true] [2] 3 = some (.ret, Rn r a b,
  [decide ((↑i : Int) < (↑(List.map I a).length : Int)) = true,
   (↑i : Int) = (↑i : Int) ∧ i < (List.map I a).length,
   (List.map I a)[i]? = some (I (a.getD i default)),
   decide (a.getD i default < 2) = false,
   (↑i : Int) = (↑i : Int) ∧ i < (List.map I a).length,
   (List.map I a)[i]? = some (I (a.getD i default)),
   (a.getD i default).tmod 2 = a.getD i default % 2,
   (a.getD i default % 2 == 1) = false,
   (↑i : Int) = (↑i : Int) ∧ i < (List.map I a).length,
   (List.map I a)[i]? = some (I (a.getD i default)),
   IntKind.i64.wrap (2 * r.most) = 2 * r.most,
   IntKind.i64.wrap (2 * r.most + 1) = 2 * r.most + 1,
   decide (a.getD i default > 2 * r.most + 1) = true]) := by kernel_rfl
theorem n4 : round Try.prog wr false O (loopOf Try.prog 22 0) (Hn r a b [(5, .d (I i))]) [It.br true, It.ix i, It.el i (I (a.getD i default)), It.br false, It.ix i, It.el i (I (a.getD i default)), It.is (a.getD i default % 2), It.br false, It.ix i, It.el i (I (a.getD i default)), It.is (2 * r.most), It.is (2 * r.most + 1), It.br false, It.is (↑(i + 1) : Int)] [1, 3, 4, 5] 3 = some (.normal, Hn r a b [(5, .d (I (i + 1 : Nat)))],
  [decide ((↑i : Int) < (↑(List.map I a).length : Int)) = true,
   (↑i : Int) = (↑i : Int) ∧ i < (List.map I a).length,
   (List.map I a)[i]? = some (I (a.getD i default)),
   decide (a.getD i default < 2) = false,
   (↑i : Int) = (↑i : Int) ∧ i < (List.map I a).length,
   (List.map I a)[i]? = some (I (a.getD i default)),
   (a.getD i default).tmod 2 = a.getD i default % 2,
   (a.getD i default % 2 == 1) = false,
   (↑i : Int) = (↑i : Int) ∧ i < (List.map I a).length,
   (List.map I a)[i]? = some (I (a.getD i default)),
   IntKind.i64.wrap (2 * r.most) = 2 * r.most,
   IntKind.i64.wrap (2 * r.most + 1) = 2 * r.most + 1,
   decide (a.getD i default > 2 * r.most + 1) = false,
   IntKind.i64.wrap ((↑i : Int) + 1) = (↑(i + 1) : Int)]) := by kernel_rfl
theorem n5 : round Try.prog wr false O (loopOf Try.prog 22 0) (Hn r a b [(5, .d (I i))]) [It.br false] [1, 3, 4] 3 = some (.exit 0, Hn r a b [],
  [decide ((↑i : Int) < (↑(List.map I a).length : Int)) = false]) := by kernel_rfl
theorem n6 : round Try.prog wr false O (loopOf Try.prog 22 1) (Hn r a b [(6, .d (I i))]) [It.br true, It.ix i, It.el i (I (b.getD i default)), It.br true] [2] 3 = some (.ret, Rn r a b,
  [decide ((↑i : Int) < (↑(List.map I b).length : Int)) = true,
   (↑i : Int) = (↑i : Int) ∧ i < (List.map I b).length,
   (List.map I b)[i]? = some (I (b.getD i default)),
   decide (b.getD i default < 0) = true]) := by kernel_rfl
theorem n7 : round Try.prog wr false O (loopOf Try.prog 22 1) (Hn r a b [(6, .d (I i))]) [It.br true, It.ix i, It.el i (I (b.getD i default)), It.br false, It.ix i, It.el i (I (b.getD i default)), It.is (2 * r.most), It.is (2 * r.most + 1), It.br true] [2] 3 = some (.ret, Rn r a b,
  [decide ((↑i : Int) < (↑(List.map I b).length : Int)) = true,
   (↑i : Int) = (↑i : Int) ∧ i < (List.map I b).length,
   (List.map I b)[i]? = some (I (b.getD i default)),
   decide (b.getD i default < 0) = false,
   (↑i : Int) = (↑i : Int) ∧ i < (List.map I b).length,
   (List.map I b)[i]? = some (I (b.getD i default)),
   IntKind.i64.wrap (2 * r.most) = 2 * r.most,
   IntKind.i64.wrap (2 * r.most + 1) = 2 * r.most + 1,
   decide (b.getD i default > 2 * r.most + 1) = true]) := by kernel_rfl
theorem n8 : round Try.prog wr false O (loopOf Try.prog 22 1) (Hn r a b [(6, .d (I i))]) [It.br true, It.ix i, It.el i (I (b.getD i default)), It.br false, It.ix i, It.el i (I (b.getD i default)), It.is (2 * r.most), It.is (2 * r.most + 1), It.br false, It.is (↑(i + 1) : Int)] [1, 3, 4, 6] 3 = some (.normal, Hn r a b [(6, .d (I (i + 1 : Nat)))],
  [decide ((↑i : Int) < (↑(List.map I b).length : Int)) = true,
   (↑i : Int) = (↑i : Int) ∧ i < (List.map I b).length,
   (List.map I b)[i]? = some (I (b.getD i default)),
   decide (b.getD i default < 0) = false,
   (↑i : Int) = (↑i : Int) ∧ i < (List.map I b).length,
   (List.map I b)[i]? = some (I (b.getD i default)),
   IntKind.i64.wrap (2 * r.most) = 2 * r.most,
   IntKind.i64.wrap (2 * r.most + 1) = 2 * r.most + 1,
   decide (b.getD i default > 2 * r.most + 1) = false,
   IntKind.i64.wrap ((↑i : Int) + 1) = (↑(i + 1) : Int)]) := by kernel_rfl
theorem n9 : round Try.prog wr false O (loopOf Try.prog 22 1) (Hn r a b [(6, .d (I i))]) [It.br false] [1, 3, 4] 3 = some (.exit 2, Hn r a b [],
  [decide ((↑i : Int) < (↑(List.map I b).length : Int)) = false]) := by kernel_rfl
theorem n10 : round Try.prog wr false O (loopOf Try.prog 22 2) (Hn r a b [(7, .d (I i))]) [It.br true, It.el i (r.lats.getD i default).d, It.br true] [2] 3 = some (.ret, Rn r a b,
  [decide ((↑i : Int) < (↑(List.map Df.d r.lats).length : Int)) = true,
   (↑i : Int) = (↑i : Int) ∧ (List.map Df.d r.lats)[i]? = some (r.lats.getD i default).d,
   decide ((r.lats.getD i default).b < 0) = true]) := by kernel_rfl
theorem n11 : round Try.prog wr false O (loopOf Try.prog 22 2) (Hn r a b [(7, .d (I i))]) [It.br true, It.el i (r.lats.getD i default).d, It.br false, It.el i (r.lats.getD i default).d, It.br true] [2] 3 = some (.ret, Rn r a b,
  [decide ((↑i : Int) < (↑(List.map Df.d r.lats).length : Int)) = true,
   (↑i : Int) = (↑i : Int) ∧ (List.map Df.d r.lats)[i]? = some (r.lats.getD i default).d,
   decide ((r.lats.getD i default).b < 0) = false,
   (↑i : Int) = (↑i : Int) ∧ (List.map Df.d r.lats)[i]? = some (r.lats.getD i default).d,
   decide ((r.lats.getD i default).b > 2) = true]) := by kernel_rfl
theorem n12 : round Try.prog wr false O (loopOf Try.prog 22 2) (Hn r a b [(7, .d (I i))]) [It.br true, It.el i (r.lats.getD i default).d, It.br false, It.el i (r.lats.getD i default).d, It.br false, It.is (↑(i + 1) : Int)] [1, 3, 4, 7] 3 = some (.normal, Hn r a b [(7, .d (I (i + 1 : Nat)))],
  [decide ((↑i : Int) < (↑(List.map Df.d r.lats).length : Int)) = true,
   (↑i : Int) = (↑i : Int) ∧ (List.map Df.d r.lats)[i]? = some (r.lats.getD i default).d,
   decide ((r.lats.getD i default).b < 0) = false,
   (↑i : Int) = (↑i : Int) ∧ (List.map Df.d r.lats)[i]? = some (r.lats.getD i default).d,
   decide ((r.lats.getD i default).b > 2) = false,
   IntKind.i64.wrap ((↑i : Int) + 1) = (↑(i + 1) : Int)]) := by kernel_rfl
theorem n13 : round Try.prog wr false O (loopOf Try.prog 22 2) (Hn r a b [(7, .d (I i))]) [It.br false] [1, 3, 4] 3 = some (.exit 4, Hn r a b [],
  [decide ((↑i : Int) < (↑(List.map Df.d r.lats).length : Int)) = false]) := by kernel_rfl
theorem m1  : callX Try.prog wr false O 22 [.d r.d] [] [It.icall [] (V.own 3 (List.map I a)) [], It.icall [] (V.own 3 (List.map I b)) [], It.lp [1, 3, 4, 5] Ex.ret (Rn r a b)] = some (V.d (D.bool false), [],
  [ICall Try.prog 14 [V.d (D.agg [I r.most, L r.ins, D.sl (List.map Df.d r.lats), D.sl (List.map Df.d r.ands), L r.bads, L r.cons])] [] (V.own 3 (List.map I a)) [],
   ICall Try.prog 24 [V.d (D.agg [I r.most, L r.ins, D.sl (List.map Df.d r.lats), D.sl (List.map Df.d r.ands), L r.bads, L r.cons])] [] (V.own 3 (List.map I b)) [],
   GoesL Try.prog (loopOf Try.prog 22 0) (⟨mk 87 [(1, V.ptr 0 0), (3, V.arr 1), (4, V.arr 2), (5, V.d (D.int IntKind.i64 0))] [], [B.box [V.d (D.int IntKind.i64 r.most), V.d (D.sl (List.map I r.ins)), V.d (D.sl (List.map Df.d r.lats)), V.d (D.sl (List.map Df.d r.ands)), V.d (D.sl (List.map I r.bads)), V.d (D.sl (List.map I r.cons))], B.lst 3 (List.map I a), B.lst 3 (List.map I b)]⟩) (Ex.ret) (Rn r a b)]) := by kernel_rfl
theorem m2  : callX Try.prog wr false O 22 [.d r.d] [] [It.icall [] (V.own 3 (List.map I a)) [], It.icall [] (V.own 3 (List.map I b)) [], It.lp [1, 3, 4, 5] (Ex.exit 0) (Hn r a b []), It.lp [1, 3, 4, 6] Ex.ret (Rn r a b)] = some (V.d (D.bool false), [],
  [ICall Try.prog 14 [V.d (D.agg [I r.most, L r.ins, D.sl (List.map Df.d r.lats), D.sl (List.map Df.d r.ands), L r.bads, L r.cons])] [] (V.own 3 (List.map I a)) [],
   ICall Try.prog 24 [V.d (D.agg [I r.most, L r.ins, D.sl (List.map Df.d r.lats), D.sl (List.map Df.d r.ands), L r.bads, L r.cons])] [] (V.own 3 (List.map I b)) [],
   GoesL Try.prog (loopOf Try.prog 22 0) (⟨mk 87 [(1, V.ptr 0 0), (3, V.arr 1), (4, V.arr 2), (5, V.d (D.int IntKind.i64 0))] [], [B.box [V.d (D.int IntKind.i64 r.most), V.d (D.sl (List.map I r.ins)), V.d (D.sl (List.map Df.d r.lats)), V.d (D.sl (List.map Df.d r.ands)), V.d (D.sl (List.map I r.bads)), V.d (D.sl (List.map I r.cons))], B.lst 3 (List.map I a), B.lst 3 (List.map I b)]⟩) (Ex.exit 0) (Hn r a b []),
   GoesL Try.prog (loopOf Try.prog 22 1) (⟨mk 87 [(1, V.ptr 0 0), (3, V.arr 1), (4, V.arr 2), (6, V.d (D.int IntKind.i64 0))] [], [B.box [V.d (D.int IntKind.i64 r.most), V.d (D.sl (List.map I r.ins)), V.d (D.sl (List.map Df.d r.lats)), V.d (D.sl (List.map Df.d r.ands)), V.d (D.sl (List.map I r.bads)), V.d (D.sl (List.map I r.cons))], B.lst 3 (List.map I a), B.lst 3 (List.map I b)]⟩) (Ex.ret) (Rn r a b)]) := by kernel_rfl
theorem m3  : callX Try.prog wr false O 22 [.d r.d] [] [It.icall [] (V.own 3 (List.map I a)) [], It.icall [] (V.own 3 (List.map I b)) [], It.lp [1, 3, 4, 5] (Ex.exit 0) (Hn r a b []), It.lp [1, 3, 4, 6] (Ex.exit 2) (Hn r a b []), It.lp [1, 3, 4, 7] Ex.ret (Rn r a b)] = some (V.d (D.bool false), [],
  [ICall Try.prog 14 [V.d (D.agg [I r.most, L r.ins, D.sl (List.map Df.d r.lats), D.sl (List.map Df.d r.ands), L r.bads, L r.cons])] [] (V.own 3 (List.map I a)) [],
   ICall Try.prog 24 [V.d (D.agg [I r.most, L r.ins, D.sl (List.map Df.d r.lats), D.sl (List.map Df.d r.ands), L r.bads, L r.cons])] [] (V.own 3 (List.map I b)) [],
   GoesL Try.prog (loopOf Try.prog 22 0) (⟨mk 87 [(1, V.ptr 0 0), (3, V.arr 1), (4, V.arr 2), (5, V.d (D.int IntKind.i64 0))] [], [B.box [V.d (D.int IntKind.i64 r.most), V.d (D.sl (List.map I r.ins)), V.d (D.sl (List.map Df.d r.lats)), V.d (D.sl (List.map Df.d r.ands)), V.d (D.sl (List.map I r.bads)), V.d (D.sl (List.map I r.cons))], B.lst 3 (List.map I a), B.lst 3 (List.map I b)]⟩) (Ex.exit 0) (Hn r a b []),
   GoesL Try.prog (loopOf Try.prog 22 1) (⟨mk 87 [(1, V.ptr 0 0), (3, V.arr 1), (4, V.arr 2), (6, V.d (D.int IntKind.i64 0))] [], [B.box [V.d (D.int IntKind.i64 r.most), V.d (D.sl (List.map I r.ins)), V.d (D.sl (List.map Df.d r.lats)), V.d (D.sl (List.map Df.d r.ands)), V.d (D.sl (List.map I r.bads)), V.d (D.sl (List.map I r.cons))], B.lst 3 (List.map I a), B.lst 3 (List.map I b)]⟩) (Ex.exit 2) (Hn r a b []),
   GoesL Try.prog (loopOf Try.prog 22 2) (⟨mk 87 [(1, V.ptr 0 0), (3, V.arr 1), (4, V.arr 2), (7, V.d (D.int IntKind.i64 0))] [], [B.box [V.d (D.int IntKind.i64 r.most), V.d (D.sl (List.map I r.ins)), V.d (D.sl (List.map Df.d r.lats)), V.d (D.sl (List.map Df.d r.ands)), V.d (D.sl (List.map I r.bads)), V.d (D.sl (List.map I r.cons))], B.lst 3 (List.map I a), B.lst 3 (List.map I b)]⟩) (Ex.ret) (Rn r a b)]) := by kernel_rfl
theorem m4  : callX Try.prog wr false O 22 [.d r.d] [] [It.icall [] (V.own 3 (List.map I a)) [], It.icall [] (V.own 3 (List.map I b)) [], It.lp [1, 3, 4, 5] (Ex.exit 0) (Hn r a b []), It.lp [1, 3, 4, 6] (Ex.exit 2) (Hn r a b []), It.lp [1, 3, 4, 7] (Ex.exit 4) (Hn r a b [])] = some (V.d (D.bool true), [],
  [ICall Try.prog 14 [V.d (D.agg [I r.most, L r.ins, D.sl (List.map Df.d r.lats), D.sl (List.map Df.d r.ands), L r.bads, L r.cons])] [] (V.own 3 (List.map I a)) [],
   ICall Try.prog 24 [V.d (D.agg [I r.most, L r.ins, D.sl (List.map Df.d r.lats), D.sl (List.map Df.d r.ands), L r.bads, L r.cons])] [] (V.own 3 (List.map I b)) [],
   GoesL Try.prog (loopOf Try.prog 22 0) (⟨mk 87 [(1, V.ptr 0 0), (3, V.arr 1), (4, V.arr 2), (5, V.d (D.int IntKind.i64 0))] [], [B.box [V.d (D.int IntKind.i64 r.most), V.d (D.sl (List.map I r.ins)), V.d (D.sl (List.map Df.d r.lats)), V.d (D.sl (List.map Df.d r.ands)), V.d (D.sl (List.map I r.bads)), V.d (D.sl (List.map I r.cons))], B.lst 3 (List.map I a), B.lst 3 (List.map I b)]⟩) (Ex.exit 0) (Hn r a b []),
   GoesL Try.prog (loopOf Try.prog 22 1) (⟨mk 87 [(1, V.ptr 0 0), (3, V.arr 1), (4, V.arr 2), (6, V.d (D.int IntKind.i64 0))] [], [B.box [V.d (D.int IntKind.i64 r.most), V.d (D.sl (List.map I r.ins)), V.d (D.sl (List.map Df.d r.lats)), V.d (D.sl (List.map Df.d r.ands)), V.d (D.sl (List.map I r.bads)), V.d (D.sl (List.map I r.cons))], B.lst 3 (List.map I a), B.lst 3 (List.map I b)]⟩) (Ex.exit 2) (Hn r a b []),
   GoesL Try.prog (loopOf Try.prog 22 2) (⟨mk 87 [(1, V.ptr 0 0), (3, V.arr 1), (4, V.arr 2), (7, V.d (D.int IntKind.i64 0))] [], [B.box [V.d (D.int IntKind.i64 r.most), V.d (D.sl (List.map I r.ins)), V.d (D.sl (List.map Df.d r.lats)), V.d (D.sl (List.map Df.d r.ands)), V.d (D.sl (List.map I r.bads)), V.d (D.sl (List.map I r.cons))], B.lst 3 (List.map I a), B.lst 3 (List.map I b)]⟩) (Ex.exit 4) (Hn r a b [])]) := by kernel_rfl
theorem t2 : round Try.prog wr false O (loopOf Try.prog 23 0) (Ht r ml a [(5, .d (I i))]) [It.br true, It.ix i, It.el i (I (a.getD i default)), It.is (a.getD i default / 2), It.ix (a.getD i default / 2).toNat, It.el (a.getD i default / 2).toNat (I v), It.is (v + 1), It.ix (a.getD i default / 2).toNat, It.is (↑(i + 1) : Int)] [1, 3, 4, 5] 3 = some (.normal, Ht r (ml.set (a.getD i default / 2).toNat (I (v + 1))) a [(5, .d (I (i + 1 : Nat)))],
  [decide ((↑i : Int) < (↑(List.map I a).length : Int)) = true,
   (↑i : Int) = (↑i : Int) ∧ i < (List.map I a).length,
   (List.map I a)[i]? = some (I (a.getD i default)),
   IntKind.i64.wrap ((a.getD i default).tdiv 2) = a.getD i default / 2,
   a.getD i default / 2 = (↑(a.getD i default / 2).toNat : Int) ∧ (a.getD i default / 2).toNat < ml.length,
   ml[(a.getD i default / 2).toNat]? = some (I v),
   IntKind.i64.wrap (v + 1) = v + 1,
   a.getD i default / 2 = (↑(a.getD i default / 2).toNat : Int) ∧ (a.getD i default / 2).toNat < ml.length,
   IntKind.i64.wrap ((↑i : Int) + 1) = (↑(i + 1) : Int)]) := by kernel_rfl
theorem t3 : round Try.prog wr false O (loopOf Try.prog 23 0) (Ht r ml a [(5, .d (I i))]) [It.br false] [1, 3, 4] 3 = some (.exit 0, Ht r ml a [],
  [decide ((↑i : Int) < (↑(List.map I a).length : Int)) = false]) := by kernel_rfl
theorem t4  : callX Try.prog wr false O 23 [.d r.d] [] [It.is (r.most + 1), It.len (r.most + 1).toNat, It.ix 0, It.icall [] (V.own 3 (List.map I a)) [], It.lp [1, 3, 4, 5] (Ex.exit 0) (Ht r ml a [])] = some (V.own 3 ml, [],
  [IntKind.i64.wrap (r.most + 1) = r.most + 1,
   r.most + 1 = (↑(r.most + 1).toNat : Int) ∧ r.most + 1 = (↑(r.most + 1).toNat : Int) ∧ (r.most + 1).toNat ≤ maxItems,
   0 = (↑0 : Int) ∧ 0 < (List.replicate (r.most + 1).toNat (D.int IntKind.i64 0)).length,
   ICall Try.prog 14 [V.d (D.agg [I r.most, L r.ins, D.sl (List.map Df.d r.lats), D.sl (List.map Df.d r.ands), L r.bads, L r.cons])] [] (V.own 3 (List.map I a)) [],
   GoesL Try.prog (loopOf Try.prog 23 0) (⟨mk 31 [(1, V.ptr 0 0), (3, V.arr 1), (4, V.arr 2), (5, V.d (D.int IntKind.i64 0))] [], [B.box [V.d (D.int IntKind.i64 r.most), V.d (D.sl (List.map I r.ins)), V.d (D.sl (List.map Df.d r.lats)), V.d (D.sl (List.map Df.d r.ands)), V.d (D.sl (List.map I r.bads)), V.d (D.sl (List.map I r.cons))], B.lst 3 ((List.replicate (r.most + 1).toNat (D.int IntKind.i64 0)).set 0 (D.int IntKind.i64 1)), B.lst 3 (List.map I a)]⟩) (Ex.exit 0) (Ht r ml a [])]) := by kernel_rfl
end
end Go.Proofs.Ytbbefbgomdmldaa.Sy.Ref
/- The reference's Order, round by round. -/
namespace Go.Proofs.Ytbbefbgomdmldaa.Sy.Ref
open Go Go.Proofs.Ytbbefbgomdmldaa.Ab Go.Proofs.Ytbbefbgomdmldaa.Sy
set_option maxRecDepth 1000000
set_option linter.unusedVariables false
def Ho (r : Rw) (gl : List D) (sl : List (Nat × V)) : St := ⟨mk 99 ([(1, .ptr 0 0), (3, .arr 1)] ++ sl) [], [r.box, .lst 4 gl]⟩
def Hp (r : Rw) (gl ol : List D) (sl : List (Nat × V)) : St := ⟨mk 99 ([(1, .ptr 0 0), (3, .arr 1), (6, .arr 2)] ++ sl) [], [r.box, .lst 4 gl, .lst 3 ol]⟩
def Eo (r : Rw) (gl ol : List D) : St := ⟨mk 99 [(2, .arr 2)] [], [r.box, .lst 4 gl, .lst 3 ol]⟩
section
variable (r : Rw) (x z : Int) (g : List Int) (i u N : Nat) (gl ol xs ys ml : List D) (a b : List Int)
theorem o1 : round Try.prog wr false O (loopOf Try.prog 25 0) (Ho r gl [(2, .emp true), (4, .d (I i))]) [It.br true, It.ix i, It.is (↑(i + 1) : Int)] [1, 2, 3, 4] 2 = some (.normal, Ho r (gl.set i (.bool true)) [(2, .emp true), (4, .d (I (i + 1 : Nat)))],
  [decide ((↑i : Int) ≤ r.most) = true,
   (↑i : Int) = (↑i : Int) ∧ i < gl.length,
   IntKind.i64.wrap ((↑i : Int) + 1) = (↑(i + 1) : Int)]) := by kernel_rfl
theorem o2 : round Try.prog wr false O (loopOf Try.prog 25 0) (Ho r gl [(2, .emp true), (4, .d (I i))]) [It.br false] [1, 2, 3] 2 = some (.exit 0, Ho r gl [(2, .emp true)],
  [decide ((↑i : Int) ≤ r.most) = false]) := by kernel_rfl
theorem o3 : round Try.prog wr false O (loopOf Try.prog 25 1) (Ho r gl [(2, .emp true), (5, .d (I i))]) [It.br true, It.el i (r.ands.getD i default).d, It.is ((r.ands.getD i default).lit / 2), It.ix ((r.ands.getD i default).lit / 2).toNat, It.is (↑(i + 1) : Int)] [1, 2, 3, 5] 2 = some (.normal, Ho r (gl.set ((r.ands.getD i default).lit / 2).toNat (.bool false)) [(2, .emp true), (5, .d (I (i + 1 : Nat)))],
  [decide ((↑i : Int) < (↑(List.map Df.d r.ands).length : Int)) = true,
   (↑i : Int) = (↑i : Int) ∧ (List.map Df.d r.ands)[i]? = some (r.ands.getD i default).d,
   IntKind.i64.wrap ((r.ands.getD i default).lit.tdiv 2) = (r.ands.getD i default).lit / 2,
   (r.ands.getD i default).lit / 2 = (↑((r.ands.getD i default).lit / 2).toNat : Int) ∧ ((r.ands.getD i default).lit / 2).toNat < gl.length,
   IntKind.i64.wrap ((↑i : Int) + 1) = (↑(i + 1) : Int)]) := by kernel_rfl
theorem o4 : round Try.prog wr false O (loopOf Try.prog 25 1) (Ho r gl [(2, .emp true), (5, .d (I i))]) [It.br false] [1, 2, 3] 2 = some (.exit 2, Ho r gl [(2, .emp true)],
  [decide ((↑i : Int) < (↑(List.map Df.d r.ands).length : Int)) = false]) := by kernel_rfl
theorem p1 : round Try.prog wr false O (loopOf Try.prog 25 3) (Hp r gl ol [(7, .d (I x)), (8, .d (I i))]) [It.br true, It.el i (r.ands.getD i default).d, It.is ((r.ands.getD i default).lit / 2), It.ix ((r.ands.getD i default).lit / 2).toNat, It.el ((r.ands.getD i default).lit / 2).toNat (D.bool true), It.br false, It.is ((↑i : Int) - 1)] [1, 3, 6, 7, 8] 3 = some (.normal, Hp r gl ol [(7, .d (I x)), (8, .d (I ((i : Int) - 1)))],
  [decide ((↑i : Int) ≥ 0) = true,
   (↑i : Int) = (↑i : Int) ∧ (List.map Df.d r.ands)[i]? = some (r.ands.getD i default).d,
   IntKind.i64.wrap ((r.ands.getD i default).lit.tdiv 2) = (r.ands.getD i default).lit / 2,
   (r.ands.getD i default).lit / 2 = (↑((r.ands.getD i default).lit / 2).toNat : Int) ∧ ((r.ands.getD i default).lit / 2).toNat < gl.length,
   gl[((r.ands.getD i default).lit / 2).toNat]? = some (D.bool true),
   (!true) = false,
   IntKind.i64.wrap ((↑i : Int) - 1) = (↑i : Int) - 1]) := by kernel_rfl
theorem p2 : round Try.prog wr false O (loopOf Try.prog 25 3) (Hp r gl ol [(7, .d (I x)), (8, .d (I i))]) [It.br true, It.el i (r.ands.getD i default).d, It.is ((r.ands.getD i default).lit / 2), It.ix ((r.ands.getD i default).lit / 2).toNat, It.el ((r.ands.getD i default).lit / 2).toNat (D.bool false), It.br true, It.is ((r.ands.getD i default).a / 2), It.ix ((r.ands.getD i default).a / 2).toNat, It.el ((r.ands.getD i default).a / 2).toNat (D.bool false), It.is ((↑i : Int) - 1)] [1, 3, 6, 7, 8] 3 = some (.normal, Hp r gl ol [(7, .d (I x)), (8, .d (I ((i : Int) - 1)))],
  [decide ((↑i : Int) ≥ 0) = true,
   (↑i : Int) = (↑i : Int) ∧ (List.map Df.d r.ands)[i]? = some (r.ands.getD i default).d,
   IntKind.i64.wrap ((r.ands.getD i default).lit.tdiv 2) = (r.ands.getD i default).lit / 2,
   (r.ands.getD i default).lit / 2 = (↑((r.ands.getD i default).lit / 2).toNat : Int) ∧ ((r.ands.getD i default).lit / 2).toNat < gl.length,
   gl[((r.ands.getD i default).lit / 2).toNat]? = some (D.bool false),
   (!false) = true,
   IntKind.i64.wrap ((r.ands.getD i default).a.tdiv 2) = (r.ands.getD i default).a / 2,
   (r.ands.getD i default).a / 2 = (↑((r.ands.getD i default).a / 2).toNat : Int) ∧ ((r.ands.getD i default).a / 2).toNat < gl.length,
   gl[((r.ands.getD i default).a / 2).toNat]? = some (D.bool false),
   IntKind.i64.wrap ((↑i : Int) - 1) = (↑i : Int) - 1]) := by kernel_rfl
theorem p3 : round Try.prog wr false O (loopOf Try.prog 25 3) (Hp r gl ol [(7, .d (I x)), (8, .d (I i))]) [It.br true, It.el i (r.ands.getD i default).d, It.is ((r.ands.getD i default).lit / 2), It.ix ((r.ands.getD i default).lit / 2).toNat, It.el ((r.ands.getD i default).lit / 2).toNat (D.bool false), It.br true, It.is ((r.ands.getD i default).a / 2), It.ix ((r.ands.getD i default).a / 2).toNat, It.el ((r.ands.getD i default).a / 2).toNat (D.bool true), It.is ((r.ands.getD i default).b / 2), It.ix ((r.ands.getD i default).b / 2).toNat, It.el ((r.ands.getD i default).b / 2).toNat (D.bool false), It.is ((↑i : Int) - 1)] [1, 3, 6, 7, 8] 3 = some (.normal, Hp r gl ol [(7, .d (I x)), (8, .d (I ((i : Int) - 1)))],
  [decide ((↑i : Int) ≥ 0) = true,
   (↑i : Int) = (↑i : Int) ∧ (List.map Df.d r.ands)[i]? = some (r.ands.getD i default).d,
   IntKind.i64.wrap ((r.ands.getD i default).lit.tdiv 2) = (r.ands.getD i default).lit / 2,
   (r.ands.getD i default).lit / 2 = (↑((r.ands.getD i default).lit / 2).toNat : Int) ∧ ((r.ands.getD i default).lit / 2).toNat < gl.length,
   gl[((r.ands.getD i default).lit / 2).toNat]? = some (D.bool false),
   (!false) = true,
   IntKind.i64.wrap ((r.ands.getD i default).a.tdiv 2) = (r.ands.getD i default).a / 2,
   (r.ands.getD i default).a / 2 = (↑((r.ands.getD i default).a / 2).toNat : Int) ∧ ((r.ands.getD i default).a / 2).toNat < gl.length,
   gl[((r.ands.getD i default).a / 2).toNat]? = some (D.bool true),
   IntKind.i64.wrap ((r.ands.getD i default).b.tdiv 2) = (r.ands.getD i default).b / 2,
   (r.ands.getD i default).b / 2 = (↑((r.ands.getD i default).b / 2).toNat : Int) ∧ ((r.ands.getD i default).b / 2).toNat < gl.length,
   gl[((r.ands.getD i default).b / 2).toNat]? = some (D.bool false),
   IntKind.i64.wrap ((↑i : Int) - 1) = (↑i : Int) - 1]) := by kernel_rfl
theorem p4 : round Try.prog wr false O (loopOf Try.prog 25 3) (Hp r gl ol [(7, .d (I x)), (8, .d (I i))]) [It.br true, It.el i (r.ands.getD i default).d, It.is ((r.ands.getD i default).lit / 2), It.ix ((r.ands.getD i default).lit / 2).toNat, It.el ((r.ands.getD i default).lit / 2).toNat (D.bool false), It.br true, It.is ((r.ands.getD i default).a / 2), It.ix ((r.ands.getD i default).a / 2).toNat, It.el ((r.ands.getD i default).a / 2).toNat (D.bool true), It.is ((r.ands.getD i default).b / 2), It.ix ((r.ands.getD i default).b / 2).toNat, It.el ((r.ands.getD i default).b / 2).toNat (D.bool true), It.is ((↑i : Int) - 1)] [1, 3, 6, 7, 8] 3 = some (.normal, Hp r gl ol [(7, .d (I i)), (8, .d (I ((i : Int) - 1)))],
  [decide ((↑i : Int) ≥ 0) = true,
   (↑i : Int) = (↑i : Int) ∧ (List.map Df.d r.ands)[i]? = some (r.ands.getD i default).d,
   IntKind.i64.wrap ((r.ands.getD i default).lit.tdiv 2) = (r.ands.getD i default).lit / 2,
   (r.ands.getD i default).lit / 2 = (↑((r.ands.getD i default).lit / 2).toNat : Int) ∧ ((r.ands.getD i default).lit / 2).toNat < gl.length,
   gl[((r.ands.getD i default).lit / 2).toNat]? = some (D.bool false),
   (!false) = true,
   IntKind.i64.wrap ((r.ands.getD i default).a.tdiv 2) = (r.ands.getD i default).a / 2,
   (r.ands.getD i default).a / 2 = (↑((r.ands.getD i default).a / 2).toNat : Int) ∧ ((r.ands.getD i default).a / 2).toNat < gl.length,
   gl[((r.ands.getD i default).a / 2).toNat]? = some (D.bool true),
   IntKind.i64.wrap ((r.ands.getD i default).b.tdiv 2) = (r.ands.getD i default).b / 2,
   (r.ands.getD i default).b / 2 = (↑((r.ands.getD i default).b / 2).toNat : Int) ∧ ((r.ands.getD i default).b / 2).toNat < gl.length,
   gl[((r.ands.getD i default).b / 2).toNat]? = some (D.bool true),
   IntKind.i64.wrap ((↑i : Int) - 1) = (↑i : Int) - 1]) := by kernel_rfl
theorem p5 : round Try.prog wr false O (loopOf Try.prog 25 3) (Hp r gl ol [(7, .d (I x)), (8, .d (I z))]) [It.br false] [1, 3, 6, 7] 3 = some (.exit 6, Hp r gl ol [(7, .d (I x))],
  [decide (z ≥ 0) = false]) := by kernel_rfl
theorem q1 : round Try.prog wr false O (loopOf Try.prog 25 2) (Hp r gl ol []) [It.br true, It.is ((↑(List.map Df.d r.ands).length : Int) - 1), It.lp [1, 3, 6, 7, 8] (Ex.exit 6) (Hp r gl ol [(7, V.d (I x))]), It.br true] [2] 3 = some (.ret, Eo r gl ol,
  [decide ((↑ol.length : Int) < (↑(List.map Df.d r.ands).length : Int)) = true,
   IntKind.i64.wrap ((↑(List.map Df.d r.ands).length : Int) - 1) = (↑(List.map Df.d r.ands).length : Int) - 1,
   GoesL Try.prog (loopOf Try.prog 25 3) (⟨mk 99 [(1, V.ptr 0 0), (3, V.arr 1), (6, V.arr 2), (7, V.d (D.int IntKind.i64 (-1))), (8, V.d (D.int IntKind.i64 ((↑(List.map Df.d r.ands).length : Int) - 1)))] [], [B.box [V.d (D.int IntKind.i64 r.most), V.d (D.sl (List.map I r.ins)), V.d (D.sl (List.map Df.d r.lats)), V.d (D.sl (List.map Df.d r.ands)), V.d (D.sl (List.map I r.bads)), V.d (D.sl (List.map I r.cons))], B.lst 4 gl, B.lst 3 ol]⟩) (Ex.exit 6) (Hp r gl ol [(7, V.d (I x))]),
   decide (x < 0) = true]) := by kernel_rfl
theorem q2 : round Try.prog wr false O (loopOf Try.prog 25 2) (Hp r gl ol []) [It.br true, It.is ((↑(List.map Df.d r.ands).length : Int) - 1), It.lp [1, 3, 6, 7, 8] (Ex.exit 6) (Hp r gl ol [(7, V.d (I x))]), It.br false, It.el x.toNat (r.ands.getD x.toNat default).d, It.is ((r.ands.getD x.toNat default).lit / 2), It.ix ((r.ands.getD x.toNat default).lit / 2).toNat, It.raw, It.raw, It.raw] [1, 3, 6] 3 = some (.normal, Hp r (gl.set ((r.ands.getD x.toNat default).lit / 2).toNat (.bool true)) (ol ++ [I x]) [],
  [decide ((↑ol.length : Int) < (↑(List.map Df.d r.ands).length : Int)) = true,
   IntKind.i64.wrap ((↑(List.map Df.d r.ands).length : Int) - 1) = (↑(List.map Df.d r.ands).length : Int) - 1,
   GoesL Try.prog (loopOf Try.prog 25 3) (⟨mk 99 [(1, V.ptr 0 0), (3, V.arr 1), (6, V.arr 2), (7, V.d (D.int IntKind.i64 (-1))), (8, V.d (D.int IntKind.i64 ((↑(List.map Df.d r.ands).length : Int) - 1)))] [], [B.box [V.d (D.int IntKind.i64 r.most), V.d (D.sl (List.map I r.ins)), V.d (D.sl (List.map Df.d r.lats)), V.d (D.sl (List.map Df.d r.ands)), V.d (D.sl (List.map I r.bads)), V.d (D.sl (List.map I r.cons))], B.lst 4 gl, B.lst 3 ol]⟩) (Ex.exit 6) (Hp r gl ol [(7, V.d (I x))]),
   decide (x < 0) = false,
   x = (↑x.toNat : Int) ∧ (List.map Df.d r.ands)[x.toNat]? = some (r.ands.getD x.toNat default).d,
   IntKind.i64.wrap ((r.ands.getD x.toNat default).lit.tdiv 2) = (r.ands.getD x.toNat default).lit / 2,
   (r.ands.getD x.toNat default).lit / 2 = (↑((r.ands.getD x.toNat default).lit / 2).toNat : Int) ∧ ((r.ands.getD x.toNat default).lit / 2).toNat < gl.length,
   ol.length + [I x].length ≤ maxItems]) := by kernel_rfl
theorem q3 : round Try.prog wr false O (loopOf Try.prog 25 2) (Hp r gl ol []) [It.br false] [1, 3, 6] 3 = some (.exit 4, Hp r gl ol [],
  [decide ((↑ol.length : Int) < (↑(List.map Df.d r.ands).length : Int)) = false]) := by kernel_rfl
theorem w1  : callX Try.prog wr false O 25 [.d r.d] [] [It.is (r.most + 1), It.len (r.most + 1).toNat, It.lp [1, 2, 3, 4] (Ex.exit 0) (Ho r xs [(2, V.emp true)]), It.lp [1, 2, 3, 5] (Ex.exit 2) (Ho r ys [(2, V.emp true)]), It.lp [1, 3, 6] (Ex.exit 4) (Hp r gl ol [])] = some (V.own 3 ol, [],
  [IntKind.i64.wrap (r.most + 1) = r.most + 1,
   r.most + 1 = (↑(r.most + 1).toNat : Int) ∧ r.most + 1 = (↑(r.most + 1).toNat : Int) ∧ (r.most + 1).toNat ≤ maxItems,
   GoesL Try.prog (loopOf Try.prog 25 0) (⟨mk 99 [(1, V.ptr 0 0), (2, V.emp true), (3, V.arr 1), (4, V.d (D.int IntKind.i64 0))] [], [B.box [V.d (D.int IntKind.i64 r.most), V.d (D.sl (List.map I r.ins)), V.d (D.sl (List.map Df.d r.lats)), V.d (D.sl (List.map Df.d r.ands)), V.d (D.sl (List.map I r.bads)), V.d (D.sl (List.map I r.cons))], B.lst 4 (List.replicate (r.most + 1).toNat (D.bool false))]⟩) (Ex.exit 0) (Ho r xs [(2, V.emp true)]),
   GoesL Try.prog (loopOf Try.prog 25 1) (⟨mk 99 [(1, V.ptr 0 0), (2, V.emp true), (3, V.arr 1), (5, V.d (D.int IntKind.i64 0))] [], [B.box [V.d (D.int IntKind.i64 r.most), V.d (D.sl (List.map I r.ins)), V.d (D.sl (List.map Df.d r.lats)), V.d (D.sl (List.map Df.d r.ands)), V.d (D.sl (List.map I r.bads)), V.d (D.sl (List.map I r.cons))], B.lst 4 xs]⟩) (Ex.exit 2) (Ho r ys [(2, V.emp true)]),
   GoesL Try.prog (loopOf Try.prog 25 2) (⟨mk 99 [(1, V.ptr 0 0), (3, V.arr 1), (6, V.emp true)] [], [B.box [V.d (D.int IntKind.i64 r.most), V.d (D.sl (List.map I r.ins)), V.d (D.sl (List.map Df.d r.lats)), V.d (D.sl (List.map Df.d r.ands)), V.d (D.sl (List.map I r.bads)), V.d (D.sl (List.map I r.cons))], B.lst 4 ys]⟩) (Ex.exit 4) (Hp r gl ol [])]) := by kernel_rfl
theorem w2  : callX Try.prog wr false O 25 [.d r.d] [] [It.is (r.most + 1), It.len (r.most + 1).toNat, It.lp [1, 2, 3, 4] (Ex.exit 0) (Ho r xs [(2, V.emp true)]), It.lp [1, 2, 3, 5] (Ex.exit 2) (Ho r ys [(2, V.emp true)]), It.lp [1, 3, 6] Ex.ret (Eo r gl ol)] = some (V.own 3 ol, [],
  [IntKind.i64.wrap (r.most + 1) = r.most + 1,
   r.most + 1 = (↑(r.most + 1).toNat : Int) ∧ r.most + 1 = (↑(r.most + 1).toNat : Int) ∧ (r.most + 1).toNat ≤ maxItems,
   GoesL Try.prog (loopOf Try.prog 25 0) (⟨mk 99 [(1, V.ptr 0 0), (2, V.emp true), (3, V.arr 1), (4, V.d (D.int IntKind.i64 0))] [], [B.box [V.d (D.int IntKind.i64 r.most), V.d (D.sl (List.map I r.ins)), V.d (D.sl (List.map Df.d r.lats)), V.d (D.sl (List.map Df.d r.ands)), V.d (D.sl (List.map I r.bads)), V.d (D.sl (List.map I r.cons))], B.lst 4 (List.replicate (r.most + 1).toNat (D.bool false))]⟩) (Ex.exit 0) (Ho r xs [(2, V.emp true)]),
   GoesL Try.prog (loopOf Try.prog 25 1) (⟨mk 99 [(1, V.ptr 0 0), (2, V.emp true), (3, V.arr 1), (5, V.d (D.int IntKind.i64 0))] [], [B.box [V.d (D.int IntKind.i64 r.most), V.d (D.sl (List.map I r.ins)), V.d (D.sl (List.map Df.d r.lats)), V.d (D.sl (List.map Df.d r.ands)), V.d (D.sl (List.map I r.bads)), V.d (D.sl (List.map I r.cons))], B.lst 4 xs]⟩) (Ex.exit 2) (Ho r ys [(2, V.emp true)]),
   GoesL Try.prog (loopOf Try.prog 25 2) (⟨mk 99 [(1, V.ptr 0 0), (3, V.arr 1), (6, V.emp true)] [], [B.box [V.d (D.int IntKind.i64 r.most), V.d (D.sl (List.map I r.ins)), V.d (D.sl (List.map Df.d r.lats)), V.d (D.sl (List.map Df.d r.ands)), V.d (D.sl (List.map I r.bads)), V.d (D.sl (List.map I r.cons))], B.lst 4 ys]⟩) (Ex.ret) (Eo r gl ol)]) := by kernel_rfl
end
end Go.Proofs.Ytbbefbgomdmldaa.Sy.Ref
/- The reference's Check, round by round. -/
namespace Go.Proofs.Ytbbefbgomdmldaa.Sy.Ref
open Go Go.Proofs.Ytbbefbgomdmldaa.Ab Go.Proofs.Ytbbefbgomdmldaa.Sy
set_option maxRecDepth 1000000
set_option linter.unusedVariables false
def Hc (r : Rw) (tl : List D) (sl : List (Nat × V)) : St := ⟨mk 79 ([(1, .ptr 0 0), (3, .arr 1)] ++ sl) [], [r.box, .lst 3 tl]⟩
def Rc (r : Rw) (tl : List D) (e : Int) : St := ⟨mk 79 [(2, .d (I e))] [], [r.box, .lst 3 tl]⟩
def Hd2 (r : Rw) (tl al : List D) (sl : List (Nat × V)) : St := ⟨mk 79 ([(1, .ptr 0 0), (3, .arr 1), (5, .arr 2)] ++ sl) [], [r.box, .lst 3 tl, .lst 3 al]⟩
def Rd2 (r : Rw) (tl al : List D) (e : Int) : St := ⟨mk 79 [(2, .d (I e))] [], [r.box, .lst 3 tl, .lst 3 al]⟩
section
variable (r : Rw) (x y z : Int) (g : List Int) (i u N : Nat) (gl ol tl al xs ys ml : List D) (a b : List Int)
theorem k1 : round Try.prog wr false O (loopOf Try.prog 9 0) (Hc r tl [(4, .d (I i))]) [It.br true, It.ix i, It.el i (I x), It.br true] [2] 2 = some (.ret, Rc r tl 43,
  [decide ((↑i : Int) ≤ r.most) = true,
   (↑i : Int) = (↑i : Int) ∧ i < tl.length,
   tl[i]? = some (I x),
   decide (x > 1) = true]) := by kernel_rfl
theorem k2 : round Try.prog wr false O (loopOf Try.prog 9 0) (Hc r tl [(4, .d (I i))]) [It.br true, It.ix i, It.el i (I x), It.br false, It.is (↑(i + 1) : Int)] [1, 3, 4] 2 = some (.normal, Hc r tl [(4, .d (I (i + 1 : Nat)))],
  [decide ((↑i : Int) ≤ r.most) = true,
   (↑i : Int) = (↑i : Int) ∧ i < tl.length,
   tl[i]? = some (I x),
   decide (x > 1) = false,
   IntKind.i64.wrap ((↑i : Int) + 1) = (↑(i + 1) : Int)]) := by kernel_rfl
theorem k3 : round Try.prog wr false O (loopOf Try.prog 9 0) (Hc r tl [(4, .d (I i))]) [It.br false] [1, 3] 2 = some (.exit 0, Hc r tl [],
  [decide ((↑i : Int) ≤ r.most) = false]) := by kernel_rfl
theorem k4 : round Try.prog wr false O (loopOf Try.prog 9 1) (Hd2 r tl (a.map I) [(6, .d (I i))]) [It.br true, It.ix i, It.el i (I (a.getD i default)), It.is (a.getD i default / 2), It.ix (a.getD i default / 2).toNat, It.el (a.getD i default / 2).toNat (I x), It.br true] [2] 3 = some (.ret, Rd2 r tl (a.map I) 46,
  [decide ((↑i : Int) < (↑(List.map I a).length : Int)) = true,
   (↑i : Int) = (↑i : Int) ∧ i < (List.map I a).length,
   (List.map I a)[i]? = some (I (a.getD i default)),
   IntKind.i64.wrap ((a.getD i default).tdiv 2) = a.getD i default / 2,
   a.getD i default / 2 = (↑(a.getD i default / 2).toNat : Int) ∧ (a.getD i default / 2).toNat < tl.length,
   tl[(a.getD i default / 2).toNat]? = some (I x),
   (x == 0) = true]) := by kernel_rfl
theorem k5 : round Try.prog wr false O (loopOf Try.prog 9 1) (Hd2 r tl (a.map I) [(6, .d (I i))]) [It.br true, It.ix i, It.el i (I (a.getD i default)), It.is (a.getD i default / 2), It.ix (a.getD i default / 2).toNat, It.el (a.getD i default / 2).toNat (I x), It.br false, It.is (↑(i + 1) : Int)] [1, 3, 5, 6] 3 = some (.normal, Hd2 r tl (a.map I) [(6, .d (I (i + 1 : Nat)))],
  [decide ((↑i : Int) < (↑(List.map I a).length : Int)) = true,
   (↑i : Int) = (↑i : Int) ∧ i < (List.map I a).length,
   (List.map I a)[i]? = some (I (a.getD i default)),
   IntKind.i64.wrap ((a.getD i default).tdiv 2) = a.getD i default / 2,
   a.getD i default / 2 = (↑(a.getD i default / 2).toNat : Int) ∧ (a.getD i default / 2).toNat < tl.length,
   tl[(a.getD i default / 2).toNat]? = some (I x),
   (x == 0) = false,
   IntKind.i64.wrap ((↑i : Int) + 1) = (↑(i + 1) : Int)]) := by kernel_rfl
theorem k6 : round Try.prog wr false O (loopOf Try.prog 9 1) (Hd2 r tl (a.map I) [(6, .d (I i))]) [It.br false] [1, 3, 5] 3 = some (.exit 2, Hd2 r tl (a.map I) [],
  [decide ((↑i : Int) < (↑(List.map I a).length : Int)) = false]) := by kernel_rfl
theorem c1  : callX Try.prog wr false O 9 [.d r.d] [] [It.br true] = some (V.d (D.int IntKind.i64 8), [],
  [decide (r.most < 0) = true]) := by kernel_rfl
theorem c2  : callX Try.prog wr false O 9 [.d r.d] [] [It.br false, It.br true] = some (V.d (D.int IntKind.i64 4), [],
  [decide (r.most < 0) = false,
   decide (r.most > 1000) = true]) := by kernel_rfl
theorem c3  : callX Try.prog wr false O 9 [.d r.d] [] [It.br false, It.br false, It.is (↑((List.map I r.ins).length + (List.map Df.d r.lats).length) : Int), It.is (↑((List.map I r.ins).length + (List.map Df.d r.lats).length + (List.map Df.d r.ands).length) : Int), It.br true] = some (V.d (D.int IntKind.i64 4), [],
  [decide (r.most < 0) = false,
   decide (r.most > 1000) = false,
   IntKind.i64.wrap ((↑(List.map I r.ins).length : Int) + (↑(List.map Df.d r.lats).length : Int)) = (↑((List.map I r.ins).length + (List.map Df.d r.lats).length) : Int),
   IntKind.i64.wrap ((↑((List.map I r.ins).length + (List.map Df.d r.lats).length) : Int) + (↑(List.map Df.d r.ands).length : Int)) = (↑((List.map I r.ins).length + (List.map Df.d r.lats).length + (List.map Df.d r.ands).length) : Int),
   decide ((↑((List.map I r.ins).length + (List.map Df.d r.lats).length + (List.map Df.d r.ands).length) : Int) > 1000) = true]) := by kernel_rfl
theorem c4  : callX Try.prog wr false O 9 [.d r.d] [] [It.br false, It.br false, It.is (↑((List.map I r.ins).length + (List.map Df.d r.lats).length) : Int), It.is (↑((List.map I r.ins).length + (List.map Df.d r.lats).length + (List.map Df.d r.ands).length) : Int), It.br false, It.br true] = some (V.d (D.int IntKind.i64 4), [],
  [decide (r.most < 0) = false,
   decide (r.most > 1000) = false,
   IntKind.i64.wrap ((↑(List.map I r.ins).length : Int) + (↑(List.map Df.d r.lats).length : Int)) = (↑((List.map I r.ins).length + (List.map Df.d r.lats).length) : Int),
   IntKind.i64.wrap ((↑((List.map I r.ins).length + (List.map Df.d r.lats).length) : Int) + (↑(List.map Df.d r.ands).length : Int)) = (↑((List.map I r.ins).length + (List.map Df.d r.lats).length + (List.map Df.d r.ands).length) : Int),
   decide ((↑((List.map I r.ins).length + (List.map Df.d r.lats).length + (List.map Df.d r.ands).length) : Int) > 1000) = false,
   decide ((↑(List.map I r.bads).length : Int) > 100) = true]) := by kernel_rfl
theorem c5  : callX Try.prog wr false O 9 [.d r.d] [] [It.br false, It.br false, It.is (↑((List.map I r.ins).length + (List.map Df.d r.lats).length) : Int), It.is (↑((List.map I r.ins).length + (List.map Df.d r.lats).length + (List.map Df.d r.ands).length) : Int), It.br false, It.br false, It.br true] = some (V.d (D.int IntKind.i64 4), [],
  [decide (r.most < 0) = false,
   decide (r.most > 1000) = false,
   IntKind.i64.wrap ((↑(List.map I r.ins).length : Int) + (↑(List.map Df.d r.lats).length : Int)) = (↑((List.map I r.ins).length + (List.map Df.d r.lats).length) : Int),
   IntKind.i64.wrap ((↑((List.map I r.ins).length + (List.map Df.d r.lats).length) : Int) + (↑(List.map Df.d r.ands).length : Int)) = (↑((List.map I r.ins).length + (List.map Df.d r.lats).length + (List.map Df.d r.ands).length) : Int),
   decide ((↑((List.map I r.ins).length + (List.map Df.d r.lats).length + (List.map Df.d r.ands).length) : Int) > 1000) = false,
   decide ((↑(List.map I r.bads).length : Int) > 100) = false,
   decide ((↑(List.map I r.cons).length : Int) > 100) = true]) := by kernel_rfl
theorem c6  : callX Try.prog wr false O 9 [.d r.d] [] [It.br false, It.br false, It.is (↑((List.map I r.ins).length + (List.map Df.d r.lats).length) : Int), It.is (↑((List.map I r.ins).length + (List.map Df.d r.lats).length + (List.map Df.d r.ands).length) : Int), It.br false, It.br false, It.br false, It.icall [] (V.d (D.bool false)) [], It.br true] = some (V.d (D.int IntKind.i64 8), [],
  [decide (r.most < 0) = false,
   decide (r.most > 1000) = false,
   IntKind.i64.wrap ((↑(List.map I r.ins).length : Int) + (↑(List.map Df.d r.lats).length : Int)) = (↑((List.map I r.ins).length + (List.map Df.d r.lats).length) : Int),
   IntKind.i64.wrap ((↑((List.map I r.ins).length + (List.map Df.d r.lats).length) : Int) + (↑(List.map Df.d r.ands).length : Int)) = (↑((List.map I r.ins).length + (List.map Df.d r.lats).length + (List.map Df.d r.ands).length) : Int),
   decide ((↑((List.map I r.ins).length + (List.map Df.d r.lats).length + (List.map Df.d r.ands).length) : Int) > 1000) = false,
   decide ((↑(List.map I r.bads).length : Int) > 100) = false,
   decide ((↑(List.map I r.cons).length : Int) > 100) = false,
   ICall Try.prog 22 [V.d (D.agg [I r.most, L r.ins, D.sl (List.map Df.d r.lats), D.sl (List.map Df.d r.ands), L r.bads, L r.cons])] [] (V.d (D.bool false)) [],
   (!false) = true]) := by kernel_rfl
theorem c7  : callX Try.prog wr false O 9 [.d r.d] [] [It.br false, It.br false, It.is (↑((List.map I r.ins).length + (List.map Df.d r.lats).length) : Int), It.is (↑((List.map I r.ins).length + (List.map Df.d r.lats).length + (List.map Df.d r.ands).length) : Int), It.br false, It.br false, It.br false, It.icall [] (V.d (D.bool true)) [], It.br false, It.icall [] (V.own 3 tl) [], It.lp [1, 3, 4] Ex.ret (Rc r tl 43)] = some (V.d (D.int IntKind.i64 43), [],
  [decide (r.most < 0) = false,
   decide (r.most > 1000) = false,
   IntKind.i64.wrap ((↑(List.map I r.ins).length : Int) + (↑(List.map Df.d r.lats).length : Int)) = (↑((List.map I r.ins).length + (List.map Df.d r.lats).length) : Int),
   IntKind.i64.wrap ((↑((List.map I r.ins).length + (List.map Df.d r.lats).length) : Int) + (↑(List.map Df.d r.ands).length : Int)) = (↑((List.map I r.ins).length + (List.map Df.d r.lats).length + (List.map Df.d r.ands).length) : Int),
   decide ((↑((List.map I r.ins).length + (List.map Df.d r.lats).length + (List.map Df.d r.ands).length) : Int) > 1000) = false,
   decide ((↑(List.map I r.bads).length : Int) > 100) = false,
   decide ((↑(List.map I r.cons).length : Int) > 100) = false,
   ICall Try.prog 22 [V.d (D.agg [I r.most, L r.ins, D.sl (List.map Df.d r.lats), D.sl (List.map Df.d r.ands), L r.bads, L r.cons])] [] (V.d (D.bool true)) [],
   (!true) = false,
   ICall Try.prog 23 [V.d (D.agg [I r.most, L r.ins, D.sl (List.map Df.d r.lats), D.sl (List.map Df.d r.ands), L r.bads, L r.cons])] [] (V.own 3 tl) [],
   GoesL Try.prog (loopOf Try.prog 9 0) (⟨mk 79 [(1, V.ptr 0 0), (3, V.arr 1), (4, V.d (D.int IntKind.i64 0))] [], [B.box [V.d (D.int IntKind.i64 r.most), V.d (D.sl (List.map I r.ins)), V.d (D.sl (List.map Df.d r.lats)), V.d (D.sl (List.map Df.d r.ands)), V.d (D.sl (List.map I r.bads)), V.d (D.sl (List.map I r.cons))], B.lst 3 tl]⟩) (Ex.ret) (Rc r tl 43)]) := by kernel_rfl
theorem c8  : callX Try.prog wr false O 9 [.d r.d] [] [It.br false, It.br false, It.is (↑((List.map I r.ins).length + (List.map Df.d r.lats).length) : Int), It.is (↑((List.map I r.ins).length + (List.map Df.d r.lats).length + (List.map Df.d r.ands).length) : Int), It.br false, It.br false, It.br false, It.icall [] (V.d (D.bool true)) [], It.br false, It.icall [] (V.own 3 tl) [], It.lp [1, 3, 4] (Ex.exit 0) (Hc r tl []), It.icall [] (V.own 3 (List.map I a)) [], It.lp [1, 3, 5, 6] Ex.ret (Rd2 r tl (List.map I a) 46)] = some (V.d (D.int IntKind.i64 46), [],
  [decide (r.most < 0) = false,
   decide (r.most > 1000) = false,
   IntKind.i64.wrap ((↑(List.map I r.ins).length : Int) + (↑(List.map Df.d r.lats).length : Int)) = (↑((List.map I r.ins).length + (List.map Df.d r.lats).length) : Int),
   IntKind.i64.wrap ((↑((List.map I r.ins).length + (List.map Df.d r.lats).length) : Int) + (↑(List.map Df.d r.ands).length : Int)) = (↑((List.map I r.ins).length + (List.map Df.d r.lats).length + (List.map Df.d r.ands).length) : Int),
   decide ((↑((List.map I r.ins).length + (List.map Df.d r.lats).length + (List.map Df.d r.ands).length) : Int) > 1000) = false,
   decide ((↑(List.map I r.bads).length : Int) > 100) = false,
   decide ((↑(List.map I r.cons).length : Int) > 100) = false,
   ICall Try.prog 22 [V.d (D.agg [I r.most, L r.ins, D.sl (List.map Df.d r.lats), D.sl (List.map Df.d r.ands), L r.bads, L r.cons])] [] (V.d (D.bool true)) [],
   (!true) = false,
   ICall Try.prog 23 [V.d (D.agg [I r.most, L r.ins, D.sl (List.map Df.d r.lats), D.sl (List.map Df.d r.ands), L r.bads, L r.cons])] [] (V.own 3 tl) [],
   GoesL Try.prog (loopOf Try.prog 9 0) (⟨mk 79 [(1, V.ptr 0 0), (3, V.arr 1), (4, V.d (D.int IntKind.i64 0))] [], [B.box [V.d (D.int IntKind.i64 r.most), V.d (D.sl (List.map I r.ins)), V.d (D.sl (List.map Df.d r.lats)), V.d (D.sl (List.map Df.d r.ands)), V.d (D.sl (List.map I r.bads)), V.d (D.sl (List.map I r.cons))], B.lst 3 tl]⟩) (Ex.exit 0) (Hc r tl []),
   ICall Try.prog 24 [V.d (D.agg [I r.most, L r.ins, D.sl (List.map Df.d r.lats), D.sl (List.map Df.d r.ands), L r.bads, L r.cons])] [] (V.own 3 (List.map I a)) [],
   GoesL Try.prog (loopOf Try.prog 9 1) (⟨mk 79 [(1, V.ptr 0 0), (3, V.arr 1), (5, V.arr 2), (6, V.d (D.int IntKind.i64 0))] [], [B.box [V.d (D.int IntKind.i64 r.most), V.d (D.sl (List.map I r.ins)), V.d (D.sl (List.map Df.d r.lats)), V.d (D.sl (List.map Df.d r.ands)), V.d (D.sl (List.map I r.bads)), V.d (D.sl (List.map I r.cons))], B.lst 3 tl, B.lst 3 (List.map I a)]⟩) (Ex.ret) (Rd2 r tl (List.map I a) 46)]) := by kernel_rfl
theorem c9  : callX Try.prog wr false O 9 [.d r.d] [] [It.br false, It.br false, It.is (↑((List.map I r.ins).length + (List.map Df.d r.lats).length) : Int), It.is (↑((List.map I r.ins).length + (List.map Df.d r.lats).length + (List.map Df.d r.ands).length) : Int), It.br false, It.br false, It.br false, It.icall [] (V.d (D.bool true)) [], It.br false, It.icall [] (V.own 3 tl) [], It.lp [1, 3, 4] (Ex.exit 0) (Hc r tl []), It.icall [] (V.own 3 (List.map I a)) [], It.lp [1, 3, 5, 6] (Ex.exit 2) (Hd2 r tl (List.map I a) []), It.icall [] (V.own 3 (List.map I b)) [], It.br true] = some (V.d (D.int IntKind.i64 41), [],
  [decide (r.most < 0) = false,
   decide (r.most > 1000) = false,
   IntKind.i64.wrap ((↑(List.map I r.ins).length : Int) + (↑(List.map Df.d r.lats).length : Int)) = (↑((List.map I r.ins).length + (List.map Df.d r.lats).length) : Int),
   IntKind.i64.wrap ((↑((List.map I r.ins).length + (List.map Df.d r.lats).length) : Int) + (↑(List.map Df.d r.ands).length : Int)) = (↑((List.map I r.ins).length + (List.map Df.d r.lats).length + (List.map Df.d r.ands).length) : Int),
   decide ((↑((List.map I r.ins).length + (List.map Df.d r.lats).length + (List.map Df.d r.ands).length) : Int) > 1000) = false,
   decide ((↑(List.map I r.bads).length : Int) > 100) = false,
   decide ((↑(List.map I r.cons).length : Int) > 100) = false,
   ICall Try.prog 22 [V.d (D.agg [I r.most, L r.ins, D.sl (List.map Df.d r.lats), D.sl (List.map Df.d r.ands), L r.bads, L r.cons])] [] (V.d (D.bool true)) [],
   (!true) = false,
   ICall Try.prog 23 [V.d (D.agg [I r.most, L r.ins, D.sl (List.map Df.d r.lats), D.sl (List.map Df.d r.ands), L r.bads, L r.cons])] [] (V.own 3 tl) [],
   GoesL Try.prog (loopOf Try.prog 9 0) (⟨mk 79 [(1, V.ptr 0 0), (3, V.arr 1), (4, V.d (D.int IntKind.i64 0))] [], [B.box [V.d (D.int IntKind.i64 r.most), V.d (D.sl (List.map I r.ins)), V.d (D.sl (List.map Df.d r.lats)), V.d (D.sl (List.map Df.d r.ands)), V.d (D.sl (List.map I r.bads)), V.d (D.sl (List.map I r.cons))], B.lst 3 tl]⟩) (Ex.exit 0) (Hc r tl []),
   ICall Try.prog 24 [V.d (D.agg [I r.most, L r.ins, D.sl (List.map Df.d r.lats), D.sl (List.map Df.d r.ands), L r.bads, L r.cons])] [] (V.own 3 (List.map I a)) [],
   GoesL Try.prog (loopOf Try.prog 9 1) (⟨mk 79 [(1, V.ptr 0 0), (3, V.arr 1), (5, V.arr 2), (6, V.d (D.int IntKind.i64 0))] [], [B.box [V.d (D.int IntKind.i64 r.most), V.d (D.sl (List.map I r.ins)), V.d (D.sl (List.map Df.d r.lats)), V.d (D.sl (List.map Df.d r.ands)), V.d (D.sl (List.map I r.bads)), V.d (D.sl (List.map I r.cons))], B.lst 3 tl, B.lst 3 (List.map I a)]⟩) (Ex.exit 2) (Hd2 r tl (List.map I a) []),
   ICall Try.prog 25 [V.d (D.agg [I r.most, L r.ins, D.sl (List.map Df.d r.lats), D.sl (List.map Df.d r.ands), L r.bads, L r.cons])] [] (V.own 3 (List.map I b)) [],
   decide ((↑(List.map I b).length : Int) < (↑(List.map Df.d r.ands).length : Int)) = true]) := by kernel_rfl
theorem c10  : callX Try.prog wr false O 9 [.d r.d] [] [It.br false, It.br false, It.is (↑((List.map I r.ins).length + (List.map Df.d r.lats).length) : Int), It.is (↑((List.map I r.ins).length + (List.map Df.d r.lats).length + (List.map Df.d r.ands).length) : Int), It.br false, It.br false, It.br false, It.icall [] (V.d (D.bool true)) [], It.br false, It.icall [] (V.own 3 tl) [], It.lp [1, 3, 4] (Ex.exit 0) (Hc r tl []), It.icall [] (V.own 3 (List.map I a)) [], It.lp [1, 3, 5, 6] (Ex.exit 2) (Hd2 r tl (List.map I a) []), It.icall [] (V.own 3 (List.map I b)) [], It.br false] = some (V.d (D.int IntKind.i64 0), [],
  [decide (r.most < 0) = false,
   decide (r.most > 1000) = false,
   IntKind.i64.wrap ((↑(List.map I r.ins).length : Int) + (↑(List.map Df.d r.lats).length : Int)) = (↑((List.map I r.ins).length + (List.map Df.d r.lats).length) : Int),
   IntKind.i64.wrap ((↑((List.map I r.ins).length + (List.map Df.d r.lats).length) : Int) + (↑(List.map Df.d r.ands).length : Int)) = (↑((List.map I r.ins).length + (List.map Df.d r.lats).length + (List.map Df.d r.ands).length) : Int),
   decide ((↑((List.map I r.ins).length + (List.map Df.d r.lats).length + (List.map Df.d r.ands).length) : Int) > 1000) = false,
   decide ((↑(List.map I r.bads).length : Int) > 100) = false,
   decide ((↑(List.map I r.cons).length : Int) > 100) = false,
   ICall Try.prog 22 [V.d (D.agg [I r.most, L r.ins, D.sl (List.map Df.d r.lats), D.sl (List.map Df.d r.ands), L r.bads, L r.cons])] [] (V.d (D.bool true)) [],
   (!true) = false,
   ICall Try.prog 23 [V.d (D.agg [I r.most, L r.ins, D.sl (List.map Df.d r.lats), D.sl (List.map Df.d r.ands), L r.bads, L r.cons])] [] (V.own 3 tl) [],
   GoesL Try.prog (loopOf Try.prog 9 0) (⟨mk 79 [(1, V.ptr 0 0), (3, V.arr 1), (4, V.d (D.int IntKind.i64 0))] [], [B.box [V.d (D.int IntKind.i64 r.most), V.d (D.sl (List.map I r.ins)), V.d (D.sl (List.map Df.d r.lats)), V.d (D.sl (List.map Df.d r.ands)), V.d (D.sl (List.map I r.bads)), V.d (D.sl (List.map I r.cons))], B.lst 3 tl]⟩) (Ex.exit 0) (Hc r tl []),
   ICall Try.prog 24 [V.d (D.agg [I r.most, L r.ins, D.sl (List.map Df.d r.lats), D.sl (List.map Df.d r.ands), L r.bads, L r.cons])] [] (V.own 3 (List.map I a)) [],
   GoesL Try.prog (loopOf Try.prog 9 1) (⟨mk 79 [(1, V.ptr 0 0), (3, V.arr 1), (5, V.arr 2), (6, V.d (D.int IntKind.i64 0))] [], [B.box [V.d (D.int IntKind.i64 r.most), V.d (D.sl (List.map I r.ins)), V.d (D.sl (List.map Df.d r.lats)), V.d (D.sl (List.map Df.d r.ands)), V.d (D.sl (List.map I r.bads)), V.d (D.sl (List.map I r.cons))], B.lst 3 tl, B.lst 3 (List.map I a)]⟩) (Ex.exit 2) (Hd2 r tl (List.map I a) []),
   ICall Try.prog 25 [V.d (D.agg [I r.most, L r.ins, D.sl (List.map Df.d r.lats), D.sl (List.map Df.d r.ands), L r.bads, L r.cons])] [] (V.own 3 (List.map I b)) [],
   decide ((↑(List.map I b).length : Int) < (↑(List.map Df.d r.ands).length : Int)) = false]) := by kernel_rfl
end
end Go.Proofs.Ytbbefbgomdmldaa.Sy.Ref
/- The reference's lists, numbers and Times, whole. -/
namespace Go.Proofs.Ytbbefbgomdmldaa.Sy.Ref
open Go Go.Proofs.Ytbbefbgomdmldaa.Ab Go.Proofs.Ytbbefbgomdmldaa.Sy Go.Proofs.Ytbbefbgomdmldaa.Pl
set_option maxRecDepth 1000000
set_option linter.unusedVariables false
/-- A raw circuit that is not great. -/
structure Sm (r : Rw) : Prop where
  ins : r.ins.length ≤ 2000
  lats : r.lats.length ≤ 2000
  ands : r.ands.length ≤ 2000
  bads : r.bads.length ≤ 2000
  cons : r.cons.length ≤ 2000
  defs : ∀ x ∈ Def.defs r, x ≤ 9223372036854775807
  uses : ∀ x ∈ Def.uses r, x ≤ 9223372036854775807
theorem Sm.wf {r : Rw} (h : Sm r) : Cir.Wf r := ⟨⟨by have := h.ins; omega, by have := h.lats; omega, by have := h.ands; omega, by have := h.bads; omega, by have := h.cons; omega⟩, h.defs, h.uses⟩
section
variable {c : Code}
/-- A list behind which up to two things are put for each element. -/
theorem flat_loop {α : Type} [Inhabited α] (xs : List α) (H : Nat → List D → St) (e0 : Ex) (E : List D → St) (f : α → List D) (acc0 : List D) (hf : ∀ x, (f x).length ≤ 2)
    (hs : ∀ i acc, i < xs.length → acc.length ≤ acc0.length + 2 * i → ∀ e s, GoesL Try.prog c (H (i + 1) (acc ++ f (xs.getD i default))) e s → GoesL Try.prog c (H i acc) e s)
    (he : ∀ acc, GoesL Try.prog c (H xs.length acc) e0 (E acc)) : GoesL Try.prog c (H 0 acc0) e0 (E (acc0 ++ xs.flatMap f)) := by
  have key : ∀ (d i : Nat) (acc : List D), xs.length - i = d → i ≤ xs.length → acc.length ≤ acc0.length + 2 * i → GoesL Try.prog c (H i acc) e0 (E (acc ++ (xs.drop i).flatMap f)) := by
    intro d
    induction d with
    | zero =>
      intro i acc hd hi hl
      obtain rfl : i = xs.length := by omega
      rw [List.drop_length, List.flatMap_nil, List.append_nil]
      exact he acc
    | succ d ih =>
      intro i acc hd hi hl
      refine hs i acc (by omega) hl _ _ ?_
      rw [drop_getD xs i (by omega), List.flatMap_cons, ← List.append_assoc]
      exact ih (i + 1) (acc ++ f (xs.getD i default)) (by omega) (by omega) (by rw [List.length_append]; have := hf (xs.getD i default); omega)
  exact key _ 0 acc0 rfl (Nat.zero_le _) (by omega)
end
theorem defined {r : Rw} (h : Sm r) : ICall Try.prog 14 [.d r.d] [] (.own 3 ((Def.defs r).map I)) [] := by
  have h1 := h.ins
  have h2 := h.lats
  have h3 := h.ands
  have l1 := flat_loop r.lats (fun i xs => Hd r xs [(4, .d (I i))]) (.exit 0) (fun xs => Hd r xs []) (fun d => [I d.lit]) (r.ins.map I) (fun _ => by simp)
    (fun i acc hi hl e s hh => .step hO hm (d1 r i acc) ⟨decide_eq_true (by rw [List.length_map]; omega), ⟨rfl, get_map Df.d r.lats i hi⟩, Nat.le_trans (show _ ≤ 100000 by rw [List.length_map] at hl; simp; omega) (by decide), wrap_succ (by omega)⟩ hh)
    (fun acc => .stop hO hm (d2 r r.lats.length acc) (by simp) (decide_eq_false (by rw [List.length_map]; omega)))
  have l2 := flat_loop r.ands (fun i xs => Hd r xs [(5, .d (I i))]) (.exit 2) (fun xs => Hd r xs []) (fun d => [I d.lit]) (r.ins.map I ++ r.lats.flatMap (fun d => [I d.lit])) (fun _ => by simp)
    (fun i acc hi hl e s hh => .step hO hm (d3 r i acc) ⟨decide_eq_true (by rw [List.length_map]; omega), ⟨rfl, get_map Df.d r.ands i hi⟩, Nat.le_trans (show _ ≤ 100000 by rw [flat_one, List.length_append, List.length_map, List.length_map] at hl; simp; omega) (by decide), wrap_succ (by omega)⟩ hh)
    (fun acc => .stop hO hm (d4 r r.ands.length acc) (by simp) (decide_eq_false (by rw [List.length_map]; omega)))
  have := callX_ok hO hm (d5 r _ _) ⟨LInt.sz _, Nat.le_trans (show _ ≤ 100000 by rw [List.length_map]; omega) (by decide), l1, l2⟩
  rw [flat_one, flat_one] at this
  unfold Def.defs
  rwa [List.map_append, List.map_append, List.map_append, List.map_map, List.map_map, ← List.append_assoc]
theorem used {r : Rw} (h : Sm r) : ICall Try.prog 24 [.d r.d] [] (.own 3 ((Def.uses r).map I)) [] := by
  have h1 := h.bads
  have h0 := h.cons
  have h2 := h.lats
  have h3 := h.ands
  have l1 := flat_loop r.lats (fun i xs => Hu r xs [(4, .d (I i))]) (.exit 0) (fun xs => Hu r xs []) (fun d => [I d.a]) (r.bads.map I ++ r.cons.map I) (fun _ => by simp)
    (fun i acc hi hl e s hh => .step hO hm (u1 r i acc) ⟨decide_eq_true (by rw [List.length_map]; omega), ⟨rfl, get_map Df.d r.lats i hi⟩, Nat.le_trans (show _ ≤ 100000 by rw [List.length_append, List.length_map, List.length_map] at hl; simp; omega) (by decide), wrap_succ (by omega)⟩ hh)
    (fun acc => .stop hO hm (u2 r r.lats.length acc) (by simp) (decide_eq_false (by rw [List.length_map]; omega)))
  have l2 := flat_loop r.ands (fun i xs => Hu r xs [(5, .d (I i))]) (.exit 2) (fun xs => Hu r xs []) (fun d => [I d.a, I d.b]) (r.bads.map I ++ r.cons.map I ++ r.lats.flatMap (fun d => [I d.a])) (fun _ => by simp)
    (fun i acc hi hl e s hh => .step hO hm (u3 r i acc) ⟨decide_eq_true (by rw [List.length_map]; omega), ⟨rfl, get_map Df.d r.ands i hi⟩, ⟨rfl, get_map Df.d r.ands i hi⟩, Nat.le_trans (show _ ≤ 100000 by rw [flat_one, List.length_append, List.length_append, List.length_map, List.length_map, List.length_map] at hl; simp; omega) (by decide), wrap_succ (by omega)⟩ hh)
    (fun acc => .stop hO hm (u4 r r.ands.length acc) (by simp) (decide_eq_false (by rw [List.length_map]; omega)))
  have := callX_ok hO hm (u5 r _ _) ⟨LInt.sz _, Nat.le_trans (show _ ≤ 100000 by rw [List.length_map]; omega) (by decide), LInt.sz _, Nat.le_trans (show _ ≤ 100000 by rw [List.length_map, List.length_map]; omega) (by decide), l1, l2⟩
  rw [flat_one] at this
  unfold Def.uses
  rw [List.map_append, List.map_append, List.map_append, List.map_map, List.map_flatMap]
  exact this
theorem badAny_eq (r : Rw) : badAny r.most r.ins r.lats r.ands r.bads r.cons = ((Def.defs r).any (badOwn r.most) || (Def.uses r).any (badUse r.most) || r.lats.any badRe) := by rw [own_defs]; rfl
theorem numbers {r : Rw} (h : Sm r) (hm0 : 0 ≤ r.most ∧ r.most ≤ 1000) : ICall Try.prog 22 [.d r.d] [] (.d (.bool (!badAny r.most r.ins r.lats r.ands r.bads r.cons))) [] := by
  have hd := defined h
  have hu := used h
  have h1 := h.ins
  have h2 := h.lats
  have h3 := h.ands
  have h4 := h.bads
  have h5 := h.cons
  have hl1 : (Def.defs r).length ≤ 10000 := by unfold Def.defs; simp; omega
  have hl2 : (Def.uses r).length ≤ 20000 := by rw [use_uses, use_len]; omega
  have w1 : IntKind.i64.wrap (2 * r.most) = 2 * r.most := wrap_id (by omega) (by omega)
  have w2 : IntKind.i64.wrap (2 * r.most + 1) = 2 * r.most + 1 := wrap_id (by omega) (by omega)
  obtain ⟨a1, a2⟩ := any_loop (c := loopOf Try.prog 22 0) (Def.defs r) (fun i => Hn r (Def.defs r) (Def.uses r) [(5, .d (I i))]) .ret (.exit 0) (Rn r (Def.defs r) (Def.uses r)) (Hn r (Def.defs r) (Def.uses r) []) (badOwn r.most)
    (fun i hi hb => by
      unfold badOwn at hb
      have g0 : decide ((i : Int) < (((Def.defs r).map I).length : Nat)) = true := decide_eq_true (by rw [List.length_map]; omega)
      have g1 : (i : Int) = (i : Int) ∧ i < ((Def.defs r).map I).length := ⟨rfl, by rw [List.length_map]; exact hi⟩
      have g2 := get_map I (Def.defs r) i hi
      have k1 := n1 r i (Def.defs r) (Def.uses r)
      have k2 := n2 r i (Def.defs r) (Def.uses r)
      have k3 := n3 r i (Def.defs r) (Def.uses r)
      generalize (Def.defs r).getD i default = x at hb g2 k1 k2 k3
      by_cases c1 : x < 2
      · exact .stop hO hm k1 (by simp) ⟨g0, g1, g2, decide_eq_true c1⟩
      have hm2 : x.tmod 2 = x % 2 := rem2 (by omega)
      cases c2 : x % 2 == 1 with
      | true => exact .stop hO hm k2 (by simp) ⟨g0, g1, g2, decide_eq_false c1, g1, g2, hm2, c2⟩
      | false =>
        rw [hm2, c2, decide_eq_false c1] at hb
        exact .stop hO hm k3 (by simp) ⟨g0, g1, g2, decide_eq_false c1, g1, g2, hm2, c2, g1, g2, w1, w2, by simpa [AllP] using hb⟩)
    (fun i hi hb e s hh => by
      unfold badOwn at hb
      have g0 : decide ((i : Int) < (((Def.defs r).map I).length : Nat)) = true := decide_eq_true (by rw [List.length_map]; omega)
      have g1 : (i : Int) = (i : Int) ∧ i < ((Def.defs r).map I).length := ⟨rfl, by rw [List.length_map]; exact hi⟩
      have g2 := get_map I (Def.defs r) i hi
      have k4 := n4 r i (Def.defs r) (Def.uses r)
      generalize (Def.defs r).getD i default = x at hb g2 k4
      rw [Bool.or_eq_false_iff, Bool.or_eq_false_iff] at hb
      have c1 := of_decide_eq_false hb.1.1
      have hm2 : x.tmod 2 = x % 2 := rem2 (by omega)
      exact .step hO hm k4 ⟨g0, g1, g2, hb.1.1, g1, g2, hm2, hm2 ▸ hb.1.2, g1, g2, w1, w2, hb.2, wrap_succ (by omega)⟩ hh)
    (.stop hO hm (n5 r _ (Def.defs r) (Def.uses r)) (by simp) (decide_eq_false (by rw [List.length_map]; omega))) _ 0 rfl (Nat.zero_le _)
  obtain ⟨b1, b2⟩ := any_loop (c := loopOf Try.prog 22 1) (Def.uses r) (fun i => Hn r (Def.defs r) (Def.uses r) [(6, .d (I i))]) .ret (.exit 2) (Rn r (Def.defs r) (Def.uses r)) (Hn r (Def.defs r) (Def.uses r) []) (badUse r.most)
    (fun i hi hb => by
      unfold badUse at hb
      have g0 : decide ((i : Int) < (((Def.uses r).map I).length : Nat)) = true := decide_eq_true (by rw [List.length_map]; omega)
      have g1 : (i : Int) = (i : Int) ∧ i < ((Def.uses r).map I).length := ⟨rfl, by rw [List.length_map]; exact hi⟩
      have g2 := get_map I (Def.uses r) i hi
      have k6 := n6 r i (Def.defs r) (Def.uses r)
      have k7 := n7 r i (Def.defs r) (Def.uses r)
      generalize (Def.uses r).getD i default = x at hb g2 k6 k7
      by_cases c1 : x < 0
      · exact .stop hO hm k6 (by simp) ⟨g0, g1, g2, decide_eq_true c1⟩
      rw [decide_eq_false c1] at hb
      exact .stop hO hm k7 (by simp) ⟨g0, g1, g2, decide_eq_false c1, g1, g2, w1, w2, by simpa [AllP] using hb⟩)
    (fun i hi hb e s hh => by
      unfold badUse at hb
      have g0 : decide ((i : Int) < (((Def.uses r).map I).length : Nat)) = true := decide_eq_true (by rw [List.length_map]; omega)
      have g1 : (i : Int) = (i : Int) ∧ i < ((Def.uses r).map I).length := ⟨rfl, by rw [List.length_map]; exact hi⟩
      have g2 := get_map I (Def.uses r) i hi
      have k8 := n8 r i (Def.defs r) (Def.uses r)
      generalize (Def.uses r).getD i default = x at hb g2 k8
      rw [Bool.or_eq_false_iff] at hb
      exact .step hO hm k8 ⟨g0, g1, g2, hb.1, g1, g2, w1, w2, hb.2, wrap_succ (by omega)⟩ hh)
    (.stop hO hm (n9 r _ (Def.defs r) (Def.uses r)) (by simp) (decide_eq_false (by rw [List.length_map]; omega))) _ 0 rfl (Nat.zero_le _)
  obtain ⟨e1, e2⟩ := any_loop (c := loopOf Try.prog 22 2) r.lats (fun i => Hn r (Def.defs r) (Def.uses r) [(7, .d (I i))]) .ret (.exit 4) (Rn r (Def.defs r) (Def.uses r)) (Hn r (Def.defs r) (Def.uses r) []) badRe
    (fun i hi hb => by
      unfold badRe at hb
      have g0 : decide ((i : Int) < ((r.lats.map Df.d).length : Nat)) = true := decide_eq_true (by rw [List.length_map]; omega)
      have g2 := get_map Df.d r.lats i hi
      by_cases c1 : (r.lats.getD i default).b < 0
      · exact .stop hO hm (n10 r i (Def.defs r) (Def.uses r)) (by simp) ⟨g0, ⟨rfl, g2⟩, decide_eq_true c1⟩
      rw [decide_eq_false c1] at hb
      exact .stop hO hm (n11 r i (Def.defs r) (Def.uses r)) (by simp) ⟨g0, ⟨rfl, g2⟩, decide_eq_false c1, ⟨rfl, g2⟩, by simpa [AllP] using hb⟩)
    (fun i hi hb e s hh => by
      unfold badRe at hb
      have g0 : decide ((i : Int) < ((r.lats.map Df.d).length : Nat)) = true := decide_eq_true (by rw [List.length_map]; omega)
      have g2 := get_map Df.d r.lats i hi
      rw [Bool.or_eq_false_iff] at hb
      exact .step hO hm (n12 r i (Def.defs r) (Def.uses r)) ⟨g0, ⟨rfl, g2⟩, hb.1, ⟨rfl, g2⟩, hb.2, wrap_succ (by omega)⟩ hh)
    (.stop hO hm (n13 r _ (Def.defs r) (Def.uses r)) (by simp) (decide_eq_false (by rw [List.length_map]; omega))) _ 0 rfl (Nat.zero_le _)
  rw [List.drop_zero] at a1 a2 b1 b2 e1 e2
  rw [badAny_eq]
  cases c1 : (Def.defs r).any (badOwn r.most) with
  | true => exact callX_ok hO hm (m1 r (Def.defs r) (Def.uses r)) ⟨hd, hu, a1 c1⟩
  | false =>
  cases c2 : (Def.uses r).any (badUse r.most) with
  | true => exact callX_ok hO hm (m2 r (Def.defs r) (Def.uses r)) ⟨hd, hu, a2 c1, b1 c2⟩
  | false =>
  cases c3 : r.lats.any badRe with
  | true => exact callX_ok hO hm (m3 r (Def.defs r) (Def.uses r)) ⟨hd, hu, a2 c1, b2 c2, e1 c3⟩
  | false => exact callX_ok hO hm (m4 r (Def.defs r) (Def.uses r)) ⟨hd, hu, a2 c1, b2 c2, e2 c3⟩
/-- How often each variable is defined. -/
def tmS (G : List Int) (x : Int) : List Int := G.set (varN x) (gt G (varN x) + 1)
def times (m : Nat) (own : List Int) : List Int := own.foldl tmS ((List.replicate (m + 1) 0).set 0 1)
theorem tm_fold (xs : List Int) : ∀ G : List Int, (∀ x ∈ xs, varN x < G.length) → (xs.foldl tmS G).length = G.length ∧ ∀ u, gt (xs.foldl tmS G) u = gt G u + (((xs.map varN).count u : Nat) : Int) := by
  induction xs with
  | nil => intro G _; exact ⟨rfl, fun u => by simp⟩
  | cons x t ih =>
    intro G h
    have hx := h x List.mem_cons_self
    obtain ⟨i1, i2⟩ := ih (tmS G x) (fun y hy => by unfold tmS; rw [List.length_set]; exact h y (List.mem_cons_of_mem _ hy))
    refine ⟨by rw [List.foldl_cons, i1]; unfold tmS; rw [List.length_set], fun u => ?_⟩
    rw [List.foldl_cons, i2, List.map_cons, List.count_cons]
    unfold tmS
    rw [gt_set _ _ _ _ hx]
    by_cases e : u = varN x
    · subst e; simp; omega
    · have : (varN x == u) = false := by rw [beq_eq_false_iff_ne]; exact fun h => e h.symm
      rw [if_neg e, this]; simp
theorem timesC {r : Rw} {m : Nat} (h : Sm r) (em : r.most = (m : Int)) (hm1 : m ≤ 1000) (ho : ∀ x ∈ Def.defs r, 2 ≤ x ∧ x ≤ 2 * (m : Int) + 1) : ICall Try.prog 23 [.d r.d] [] (.own 3 ((times m (Def.defs r)).map I)) [] := by
  have hd := defined h
  have h1 := h.ins
  have h2 := h.lats
  have h3 := h.ands
  have hl1 : (Def.defs r).length ≤ 10000 := by unfold Def.defs; simp; omega
  have l1 := fold_loop (c := loopOf Try.prog 23 0) (Def.defs r) (fun i G => Ht r (G.map I) (Def.defs r) [(5, .d (I i))]) (fun G => Ht r (G.map I) (Def.defs r) []) (.exit 0) tmS (fun i G => G.length = m + 1 ∧ ∀ u, 0 ≤ gt G u ∧ gt G u ≤ (i : Int) + 1)
    (fun i G hi hI => by
      have hmem : (Def.defs r).getD i default ∈ Def.defs r := by rw [List.getD_eq_getElem?_getD, List.getElem?_eq_getElem hi]; exact List.getElem_mem hi
      have hx := ho _ hmem
      have g2 := get_map I (Def.defs r) i hi
      have k2 := t2 r (gt G (varN ((Def.defs r).getD i default))) i (G.map I) (Def.defs r)
      generalize (Def.defs r).getD i default = x at hx g2 k2
      have hv : varN x < G.length := by rw [hI.1]; unfold varN; omega
      have hb := hI.2 (varN x)
      refine ⟨⟨by unfold tmS; rw [List.length_set]; exact hI.1, fun u => ?_⟩, fun e s hh => ?_⟩
      · unfold tmS
        rw [gt_set _ _ _ _ hv]
        have := hI.2 u
        split <;> omega
      · have g3 : x / 2 = ((x / 2).toNat : Int) ∧ (x / 2).toNat < (G.map I).length := ⟨by omega, by rw [List.length_map]; exact hv⟩
        unfold tmS at hh
        rw [List.map_set] at hh
        exact .step hO hm k2 ⟨decide_eq_true (by rw [List.length_map]; omega), ⟨rfl, by rw [List.length_map]; exact hi⟩, g2, quo2 (by omega) (by omega), g3, get_map I G _ hv, wrap_id (by omega) (by omega), g3, wrap_succ (by omega)⟩ hh)
    (fun G _ => by
      have k3 := t3 r (Def.defs r).length (G.map I) (Def.defs r)
      exact .stop hO hm k3 (by simp) (decide_eq_false (by rw [List.length_map]; omega))) _ 0 ((List.replicate (m + 1) 0).set 0 1) rfl (Nat.zero_le _)
    ⟨by simp, fun u => by
      rw [gt_set _ _ _ _ (by simp)]
      split
      · omega
      · unfold gt
        rw [List.getD_eq_getElem?_getD, List.getElem?_replicate]
        split <;> simp⟩
  rw [List.drop_zero, List.map_set, List.map_replicate] at l1
  have hN : (r.most + 1).toNat = m + 1 := by omega
  refine callX_ok hO hm (t4 r _ (Def.defs r)) ⟨wrap_id (by omega) (by omega), ⟨by omega, by omega, Nat.le_trans (show _ ≤ 100000 by omega) (by decide)⟩, ⟨rfl, by rw [List.length_replicate]; omega⟩, hd, ?_⟩
  rw [hN]
  exact l1
end Go.Proofs.Ytbbefbgomdmldaa.Sy.Ref
/- The reference's Order and Check, whole. -/
namespace Go.Proofs.Ytbbefbgomdmldaa.Sy.Ref
open Go Go.Proofs.Ytbbefbgomdmldaa.Ab Go.Proofs.Ytbbefbgomdmldaa.Sy Go.Proofs.Ytbbefbgomdmldaa.Pl
set_option maxRecDepth 1000000
set_option linter.unusedVariables false
set_option linter.unusedSimpArgs false
def GB (G : List Bool) : List D := G.map D.bool
theorem gb_get (G : List Bool) (u : Nat) (h : u < G.length) : (GB G)[u]? = some (.bool (gb G u)) := get_map D.bool G u h
theorem GB_set (G : List Bool) (u : Nat) (b : Bool) : (GB G).set u (.bool b) = GB (G.set u b) := by unfold GB; rw [List.map_set]
theorem GB_len (G : List Bool) : (GB G).length = G.length := List.length_map _
section
variable {r : Rw} {m : Nat}
def fnd (ands : List Df) (done : List Nat) (i : Nat) (x : Int) : Int := match (List.range i).find? (nextP ands done) with | some j => (j : Int) | none => x
theorem fnd_succ (ands : List Df) (done : List Nat) (i : Nat) (x x' : Int) (h : x' = (if nextP ands done i = true then (i : Int) else x)) : fnd ands done (i + 1) x = fnd ands done i x' := by
  unfold fnd
  rw [List.range_succ, List.find?_append]
  cases (List.range i).find? (nextP ands done) with
  | some j => rfl
  | none =>
    simp only [List.find?_cons, List.find?_nil, Option.none_or]
    cases c : nextP ands done i with
    | true => rw [h, c]; rfl
    | false => rw [h, c]; simp
theorem inner (h : Ok m r.ands) (done : List Nat) (hd : ∀ i ∈ done, i < r.ands.length) (G : List Bool) (hl : G.length = m + 1) (hG : ∀ u, u ≤ m → gb G u = rv r.ands done u) (ol : List D) : ∀ (i : Nat) (x : Int), i ≤ r.ands.length →
    GoesL Try.prog (loopOf Try.prog 25 3) (Hp r (GB G) ol [(7, .d (I x)), (8, .d (I ((i : Int) - 1)))]) (.exit 6) (Hp r (GB G) ol [(7, .d (I (fnd r.ands done i x)))]) := by
  intro i
  induction i with
  | zero => intro x _; exact .stop hO hm (p5 r x (((0 : Nat) : Int) - 1) (GB G) ol) (by simp) (decide_eq_false (by omega))
  | succ i ih =>
    intro x hi
    have hlt : i < r.ands.length := by omega
    have hsm := h.small
    have hv := h.vr_le hlt
    have ha := h.pa_le hlt
    have hb := h.pb_le hlt
    have hdd : r.ands.getD i default = rdD r.ands (i : Int) := by unfold rdD; rw [Int.toNat_natCast]
    rw [show (((i + 1 : Nat) : Int) - 1) = (i : Int) by omega]
    have hdone : rv r.ands done (vr r.ands i) = true ↔ i ∈ done := by
      unfold rv
      rw [isG_vr hlt, Bool.not_true, Bool.false_or, List.any_eq_true]
      constructor
      · rintro ⟨j, hj, he⟩
        have := h.once j i (hd j hj) hlt (by simpa using he)
        exact this ▸ hj
      · intro hj; exact ⟨i, hj, by simp⟩
    have g0 : decide ((i : Int) ≥ 0) = true := decide_eq_true (by omega)
    have g1 : (i : Int) = (i : Int) ∧ (r.ands.map Df.d)[i]? = some (r.ands.getD i default).d := ⟨rfl, get_map Df.d r.ands i hlt⟩
    have v1 : ((r.ands.getD i default).lit / 2).toNat = vr r.ands i := by rw [hdd]; rfl
    have v2 : ((r.ands.getD i default).a / 2).toNat = pa r.ands i := by rw [hdd]; rfl
    have v3 : ((r.ands.getD i default).b / 2).toNat = pb r.ands i := by rw [hdd]; rfl
    have q1 : IntKind.i64.wrap ((r.ands.getD i default).lit.tdiv 2) = (r.ands.getD i default).lit / 2 := by rw [hdd]; exact quo2 hv.2.2 (by omega)
    have q2 : IntKind.i64.wrap ((r.ands.getD i default).a.tdiv 2) = (r.ands.getD i default).a / 2 := by rw [hdd]; exact quo2 ha.2.2 (by omega)
    have q3 : IntKind.i64.wrap ((r.ands.getD i default).b.tdiv 2) = (r.ands.getD i default).b / 2 := by rw [hdd]; exact quo2 hb.2.2 (by omega)
    have u1 : (r.ands.getD i default).lit / 2 = ((((r.ands.getD i default).lit / 2).toNat : Nat) : Int) ∧ ((r.ands.getD i default).lit / 2).toNat < (GB G).length := ⟨by rw [v1, hdd]; exact hv.2.1, by rw [v1, GB_len]; omega⟩
    have u2 : (r.ands.getD i default).a / 2 = ((((r.ands.getD i default).a / 2).toNat : Nat) : Int) ∧ ((r.ands.getD i default).a / 2).toNat < (GB G).length := ⟨by rw [v2, hdd]; exact ha.2.1, by rw [v2, GB_len]; omega⟩
    have u3 : (r.ands.getD i default).b / 2 = ((((r.ands.getD i default).b / 2).toNat : Nat) : Int) ∧ ((r.ands.getD i default).b / 2).toNat < (GB G).length := ⟨by rw [v3, hdd]; exact hb.2.1, by rw [v3, GB_len]; omega⟩
    have e1 : (GB G)[((r.ands.getD i default).lit / 2).toNat]? = some (.bool (rv r.ands done (vr r.ands i))) := by rw [v1, gb_get G _ (by omega), hG _ hv.1]
    have e2 : (GB G)[((r.ands.getD i default).a / 2).toNat]? = some (.bool (rv r.ands done (pa r.ands i))) := by rw [v2, gb_get G _ (by omega), hG _ ha.1]
    have e3 : (GB G)[((r.ands.getD i default).b / 2).toNat]? = some (.bool (rv r.ands done (pb r.ands i))) := by rw [v3, gb_get G _ (by omega), hG _ hb.1]
    have w1 : IntKind.i64.wrap ((i : Int) - 1) = (i : Int) - 1 := wrap_id (by omega) (by omega)
    cases c1 : rv r.ands done (vr r.ands i) with
    | true =>
      rw [c1] at e1
      rw [fnd_succ r.ands done i x x (by rw [if_neg]; intro hn; exact ((nextP_iff r.ands done i).1 hn).1 (hdone.1 c1))]
      exact .step hO hm (p1 r x i (GB G) ol) ⟨g0, g1, q1, u1, e1, rfl, w1⟩ (ih x (by omega))
    | false =>
    rw [c1] at e1
    have hnd : i ∉ done := fun hm' => by rw [hdone.2 hm'] at c1; cases c1
    cases c2 : rv r.ands done (pa r.ands i) with
    | false =>
      rw [c2] at e2
      rw [fnd_succ r.ands done i x x (by rw [if_neg]; unfold nextP; simp [c2])]
      exact .step hO hm (p2 r x i (GB G) ol) ⟨g0, g1, q1, u1, e1, rfl, q2, u2, e2, w1⟩ (ih x (by omega))
    | true =>
    rw [c2] at e2
    cases c3 : rv r.ands done (pb r.ands i) with
    | false =>
      rw [c3] at e3
      rw [fnd_succ r.ands done i x x (by rw [if_neg]; unfold nextP; simp [c3])]
      exact .step hO hm (p3 r x i (GB G) ol) ⟨g0, g1, q1, u1, e1, rfl, q2, u2, e2, q3, u3, e3, w1⟩ (ih x (by omega))
    | true =>
      rw [c3] at e3
      rw [fnd_succ r.ands done i x i (by rw [if_pos]; unfold nextP; simp [hnd, c2, c3])]
      exact .step hO hm (p4 r x i (GB G) ol) ⟨g0, g1, q1, u1, e1, rfl, q2, u2, e2, q3, u3, e3, w1⟩ (ih i (by omega))
/-- The outer loop: until all are done, or none is found. -/
theorem outer (h : Ok m r.ands) (d : Nat) : ∀ (done : List Nat) (G : List Bool), r.ands.length - done.length = d → (∀ i ∈ done, i < r.ands.length) → done.Nodup → G.length = m + 1 → (∀ u, u ≤ m → gb G u = rv r.ands done u) →
    (∃ G', GoesL Try.prog (loopOf Try.prog 25 2) (Hp r (GB G) ((done.map (fun k : Nat => (k : Int))).map I) []) (.exit 4) (Hp r G' (((ordS r.ands d done).map (fun k : Nat => (k : Int))).map I) [])) ∨
    (∃ G', GoesL Try.prog (loopOf Try.prog 25 2) (Hp r (GB G) ((done.map (fun k : Nat => (k : Int))).map I) []) .ret (Eo r G' (((ordS r.ands d done).map (fun k : Nat => (k : Int))).map I))) := by
  induction d with
  | zero =>
    intro done G hd hlt hnd hl hG
    exact .inl ⟨GB G, .stop hO hm (q3 r (GB G) _) (by simp) (decide_eq_false (by rw [List.length_map, List.length_map, List.length_map]; omega))⟩
  | succ d ih =>
    intro done G hd hlt hnd hl hG
    have hsm := h.small
    have hin := inner h done hlt G hl hG ((done.map (fun k : Nat => (k : Int))).map I) r.ands.length (-1) (Nat.le_refl _)
    have g0 : decide (((((done.map (fun k : Nat => (k : Int))).map I).length : Nat) : Int) < (((r.ands.map Df.d).length : Nat) : Int)) = true := decide_eq_true (by rw [List.length_map, List.length_map, List.length_map]; omega)
    have w1 : IntKind.i64.wrap ((((r.ands.map Df.d).length : Nat) : Int) - 1) = (((r.ands.map Df.d).length : Nat) : Int) - 1 := wrap_id (by rw [List.length_map]; omega) (by rw [List.length_map]; omega)
    have hlm : (r.ands.map Df.d).length = r.ands.length := List.length_map _
    rw [← hlm] at hin
    cases hf : (List.range r.ands.length).find? (nextP r.ands done) with
    | none =>
      have ef : fnd r.ands done (r.ands.map Df.d).length (-1) = -1 := by unfold fnd; rw [List.length_map, hf]
      rw [ef] at hin
      have e : ordS r.ands (d + 1) done = done := by simp only [ordS, hf]
      rw [e]
      exact .inr ⟨GB G, .stop hO hm (q1 r (-1) (GB G) _) (by simp) ⟨g0, w1, hin, (rfl : decide ((-1 : Int) < 0) = true)⟩⟩
    | some i =>
      have ef : fnd r.ands done (r.ands.map Df.d).length (-1) = (i : Int) := by unfold fnd; rw [List.length_map, hf]
      rw [ef] at hin
      have e : ordS r.ands (d + 1) done = ordS r.ands d (done ++ [i]) := by simp only [ordS, hf]
      rw [e]
      have hi : i < r.ands.length := List.mem_range.1 (List.mem_of_find?_eq_some hf)
      obtain ⟨hid, hic⟩ := (nextP_iff r.ands done i).1 (List.find?_some hf)
      have hv := h.vr_le hi
      have hdd : r.ands.getD i default = rdD r.ands (i : Int) := by unfold rdD; rw [Int.toNat_natCast]
      have hnd2 : (done ++ [i]).Nodup := List.nodup_append.2 ⟨hnd, by simp, by
        intro a ha b hb
        rw [List.mem_singleton.1 hb]
        intro e; exact hid (e ▸ ha)⟩
      have hlt2 : ∀ j ∈ done ++ [i], j < r.ands.length := fun j hj => by
        rcases List.mem_append.1 hj with hj | hj
        · exact hlt j hj
        · rw [List.mem_singleton.1 hj]; exact hi
      have hdl := nodup_le r.ands.length (done ++ [i]) hnd2 hlt2
      rw [List.length_append, List.length_singleton] at hdl
      have hx := ih (done ++ [i]) (G.set (vr r.ands i) true) (by rw [List.length_append, List.length_singleton]; omega) hlt2 hnd2 (by simpa using hl) (fun u hu => by
        rw [gb_set _ _ _ _ (by omega), rv_append, hG u hu]
        by_cases e : u = vr r.ands i
        · subst e; simp
        · have : (vr r.ands i == u) = false := by rw [beq_eq_false_iff_ne]; exact fun h => e h.symm
          rw [if_neg e, this, Bool.or_false])
      have e4 : ((done ++ [i]).map (fun k : Nat => (k : Int))).map I = (done.map (fun k : Nat => (k : Int))).map I ++ [I (i : Int)] := by rw [List.map_append, List.map_append]; rfl
      rw [e4] at hx
      have k2 := q2 r (i : Int) (GB G) ((done.map (fun k : Nat => (k : Int))).map I)
      rw [Int.toNat_natCast, hdd, show ((rdD r.ands (i : Int)).lit / 2).toNat = vr r.ands i from rfl, GB_set] at k2
      have step : ∀ {e s}, GoesL Try.prog (loopOf Try.prog 25 2) (Hp r (GB (G.set (vr r.ands i) true)) ((done.map (fun k : Nat => (k : Int))).map I ++ [I (i : Int)]) []) e s → GoesL Try.prog (loopOf Try.prog 25 2) (Hp r (GB G) ((done.map (fun k : Nat => (k : Int))).map I) []) e s := fun hh =>
        .step hO hm k2 ⟨g0, w1, hin, decide_eq_false (by omega), ⟨rfl, hdd ▸ get_map Df.d r.ands i hi⟩, quo2 hv.2.2 (by omega), ⟨hv.2.1, by rw [GB_len]; omega⟩, Nat.le_trans (show _ ≤ 100000 by simp; omega) (by decide)⟩ hh
      rcases hx with ⟨G', hx⟩ | ⟨G', hx⟩
      · exact .inl ⟨G', step hx⟩
      · exact .inr ⟨G', step hx⟩
theorem fill_loop (em : r.most = (m : Int)) (hm1 : m ≤ 1000) (d : Nat) : ∀ i, m + 1 - i = d → i ≤ m + 1 → GoesL Try.prog (loopOf Try.prog 25 0) (Ho r (GB (List.replicate i true ++ List.replicate (m + 1 - i) false)) [(2, .emp true), (4, .d (I i))]) (.exit 0) (Ho r (GB (List.replicate (m + 1) true)) [(2, .emp true)]) := by
  induction d with
  | zero =>
    intro i hd hi
    obtain rfl : i = m + 1 := by omega
    rw [Nat.sub_self, List.replicate_zero, List.append_nil]
    exact .stop hO hm (o2 r (m + 1) _) (by simp) (decide_eq_false (by omega))
  | succ d ih =>
    intro i hd hi
    have k1 := o1 r i (GB (List.replicate i true ++ List.replicate (m + 1 - i) false))
    have e : (List.replicate i true ++ List.replicate (m + 1 - i) false).set i true = List.replicate (i + 1) true ++ List.replicate (m + 1 - (i + 1)) false := by
      rw [List.set_append, if_neg (by simp), List.length_replicate, Nat.sub_self, show m + 1 - i = (m + 1 - (i + 1)) + 1 by omega, List.replicate_succ, List.set_cons_zero, List.replicate_succ', List.append_assoc]; rfl
    rw [GB_set, e] at k1
    exact .step hO hm k1 ⟨decide_eq_true (by omega), ⟨rfl, by rw [GB_len]; simp; omega⟩, wrap_succ (by omega)⟩ (ih (i + 1) (by omega) (by omega))
theorem unmark_loop (h : Ok m r.ands) (d : Nat) : ∀ (i : Nat) (G : List Bool), r.ands.length - i = d → i ≤ r.ands.length → G.length = m + 1 → (∀ u, u ≤ m → gb G u = !(List.range i).any (fun j => vr r.ands j == u)) →
    ∃ G', G'.length = m + 1 ∧ (∀ u, u ≤ m → gb G' u = rv r.ands [] u) ∧ GoesL Try.prog (loopOf Try.prog 25 1) (Ho r (GB G) [(2, .emp true), (5, .d (I i))]) (.exit 2) (Ho r (GB G') [(2, .emp true)]) := by
  induction d with
  | zero =>
    intro i G hd hi hl hG
    obtain rfl : i = r.ands.length := by omega
    refine ⟨G, hl, fun u hu => by rw [hG u hu, rv_nil]; rfl, .stop hO hm (o4 r r.ands.length (GB G)) (by simp) (decide_eq_false (by rw [List.length_map]; omega))⟩
  | succ d ih =>
    intro i G hd hi hl hG
    have hlt : i < r.ands.length := by omega
    have hv := h.vr_le hlt
    have hsm := h.small
    have hdd : r.ands.getD i default = rdD r.ands (i : Int) := by unfold rdD; rw [Int.toNat_natCast]
    obtain ⟨G', g1, g2, g3⟩ := ih (i + 1) (G.set (vr r.ands i) false) (by omega) (by omega) (by simpa using hl) (fun u hu => by
      rw [gb_set _ _ _ _ (by omega), hG u hu, List.range_succ, List.any_append]
      by_cases e : u = vr r.ands i
      · subst e; simp
      · have : (vr r.ands i == u) = false := by rw [beq_eq_false_iff_ne]; exact fun h => e h.symm
        rw [if_neg e]; simp [this])
    have k3 := o3 r i (GB G)
    rw [hdd, show ((rdD r.ands (i : Int)).lit / 2).toNat = vr r.ands i from rfl, GB_set] at k3
    exact ⟨G', g1, g2, .step hO hm k3 ⟨decide_eq_true (by rw [List.length_map]; omega), ⟨rfl, hdd ▸ get_map Df.d r.ands i hlt⟩, quo2 hv.2.2 (by omega), ⟨hv.2.1, by rw [GB_len]; omega⟩, wrap_succ (by omega)⟩ g3⟩
theorem order (h : Ok m r.ands) (em : r.most = (m : Int)) : ICall Try.prog 25 [.d r.d] [] (.own 3 ((Cir.ordI r).map I)) [] := by
  have hsm := h.small
  have l0 := fill_loop (r := r) em hsm.1 _ 0 rfl (Nat.zero_le _)
  obtain ⟨G, g1, g2, l1⟩ := unmark_loop h _ 0 (List.replicate (m + 1) true) rfl (Nat.zero_le _) (by simp) (fun u hu => by
    unfold gb
    rw [List.getD_eq_getElem?_getD, List.getElem?_replicate, if_pos (by omega)]; rfl)
  have l2 := outer h _ [] G rfl (fun i hi => by cases hi) List.nodup_nil g1 g2
  have hN : (r.most + 1).toNat = m + 1 := by omega
  have w1 : IntKind.i64.wrap (r.most + 1) = r.most + 1 := wrap_id (by omega) (by omega)
  have hmk : r.most + 1 = (((r.most + 1).toNat : Nat) : Int) ∧ r.most + 1 = (((r.most + 1).toNat : Nat) : Int) ∧ (r.most + 1).toNat ≤ maxItems := ⟨by omega, by omega, Nat.le_trans (show _ ≤ 100000 by omega) (by decide)⟩
  have e0 : GB (List.replicate 0 true ++ List.replicate (m + 1 - 0) false) = List.replicate (r.most + 1).toNat (D.bool false) := by unfold GB; rw [hN]; simp
  rw [e0] at l0
  have zz : szOf Try.prog 3 = some 1 := Cir.z1
  have ad : ∀ {e s} (gl : List D), GoesL Try.prog (loopOf Try.prog 25 2) (Hp r gl [] []) e s → GoesL Try.prog (loopOf Try.prog 25 2) (⟨mk 99 [(1, .ptr 0 0), (3, .arr 1), (6, .emp true)] [], [r.box, .lst 4 gl]⟩) e s := fun gl hh => .adoptS (j := 6) zz hh
  rcases l2 with ⟨G', l2⟩ | ⟨G', l2⟩
  · exact callX_ok hO hm (Ref.w1 r _ _ _ _) ⟨w1, hmk, l0, l1, ad _ l2⟩
  · exact callX_ok hO hm (Ref.w2 r _ _ _ _) ⟨w1, hmk, l0, l1, ad _ l2⟩
theorem twice_times {m : Nat} {own : List Int} (ho : ∀ x ∈ own, 2 ≤ x ∧ x ≤ 2 * (m : Int) + 1) : (times m own).length = m + 1 ∧ (∀ u, u ≤ m → gt (times m own) u = (if u = 0 then 1 else 0) + (((own.map varN).count u : Nat) : Int)) ∧
    ((times m own).any (fun x => decide (x > 1)) = true ↔ ¬ (own.map varN).Nodup) := by
  obtain ⟨f1, f2⟩ := tm_fold own ((List.replicate (m + 1) 0).set 0 1) (fun x hx => by have := ho x hx; simp; unfold varN; omega)
  have hl : (times m own).length = m + 1 := by unfold times; rw [f1]; simp
  have hg : ∀ u, u ≤ m → gt (times m own) u = (if u = 0 then 1 else 0) + (((own.map varN).count u : Nat) : Int) := fun u hu => by
    unfold times
    rw [f2, gt_set _ _ _ _ (by simp)]
    by_cases e : u = 0
    · rw [if_pos e, if_pos e]
    · rw [if_neg e, if_neg e]
      unfold gt
      rw [List.getD_eq_getElem?_getD, List.getElem?_replicate]
      split <;> simp
  refine ⟨hl, hg, ?_⟩
  rw [← twice_any ho (times m own) hg, List.any_eq_true, List.any_eq_true]
  constructor
  · rintro ⟨x, hx, h⟩
    obtain ⟨i, hi, rfl⟩ := List.getElem_of_mem hx
    exact ⟨i, by rw [List.mem_range'_1]; omega, by rw [gt_get _ _ hi]; exact h⟩
  · rintro ⟨u, hu, h⟩
    rw [List.mem_range'_1] at hu
    have hu2 : u < (times m own).length := by omega
    rw [gt_get _ _ hu2] at h
    exact ⟨_, List.getElem_mem hu2, h⟩
/-- The reference's check is the plain check. -/
theorem check {r : Rw} (h : Sm r) : ICall Try.prog 9 [.d r.d] [] (.d (I (Cir.chkR r))) [] := by
  have h1 := h.ins
  have h2 := h.lats
  have h3 := h.ands
  have h4 := h.bads
  have h5 := h.cons
  have w1 : IntKind.i64.wrap ((((r.ins.map I).length : Nat) : Int) + (((r.lats.map Df.d).length : Nat) : Int)) = (((r.ins.map I).length + (r.lats.map Df.d).length : Nat) : Int) := by rw [List.length_map, List.length_map, wrap_id (by omega) (by omega)]; omega
  have w2 : IntKind.i64.wrap ((((r.ins.map I).length + (r.lats.map Df.d).length : Nat) : Int) + (((r.ands.map Df.d).length : Nat) : Int)) = (((r.ins.map I).length + (r.lats.map Df.d).length + (r.ands.map Df.d).length : Nat) : Int) := by rw [List.length_map, List.length_map, List.length_map, wrap_id (by omega) (by omega)]; omega
  unfold Cir.chkR chkS
  by_cases c0 : r.most < 0
  · rw [if_pos c0]; exact callX_ok hO hm (c1 r) (decide_eq_true c0)
  rw [if_neg c0]
  have t0 := decide_eq_false c0
  by_cases c1 : manyP r.most r.ins r.lats r.ands r.bads r.cons
  · rw [if_pos c1]
    unfold manyP at c1
    by_cases d1 : r.most > 1000
    · exact callX_ok hO hm (c2 r) ⟨t0, decide_eq_true d1⟩
    have s1 := decide_eq_false d1
    by_cases d2 : (((r.ins.map I).length + (r.lats.map Df.d).length + (r.ands.map Df.d).length : Nat) : Int) > 1000
    · exact callX_ok hO hm (c3 r) ⟨t0, s1, w1, w2, decide_eq_true d2⟩
    have s2 := decide_eq_false d2
    rw [List.length_map, List.length_map, List.length_map] at d2
    by_cases d3 : (((r.bads.map I).length : Nat) : Int) > 100
    · exact callX_ok hO hm (c4 r) ⟨t0, s1, w1, w2, s2, decide_eq_true d3⟩
    have s3 := decide_eq_false d3
    rw [List.length_map] at d3
    exact callX_ok hO hm (c5 r) ⟨t0, s1, w1, w2, s2, s3, decide_eq_true (by rw [List.length_map]; omega)⟩
  have hc1 := c1
  rw [if_neg c1]
  unfold manyP at c1
  have s1 : decide (r.most > 1000) = false := decide_eq_false (by omega)
  have s2 : decide ((((r.ins.map I).length + (r.lats.map Df.d).length + (r.ands.map Df.d).length : Nat) : Int) > 1000) = false := decide_eq_false (by rw [List.length_map, List.length_map, List.length_map]; omega)
  have s3 : decide ((((r.bads.map I).length : Nat) : Int) > 100) = false := decide_eq_false (by rw [List.length_map]; omega)
  have s4 : decide ((((r.cons.map I).length : Nat) : Int) > 100) = false := decide_eq_false (by rw [List.length_map]; omega)
  have hn := numbers h (by omega)
  by_cases c2 : badAny r.most r.ins r.lats r.ands r.bads r.cons = true
  · rw [if_pos c2]
    rw [c2] at hn
    exact callX_ok hO hm (c6 r) ⟨t0, s1, w1, w2, s2, s3, s4, hn, rfl⟩
  rw [if_neg c2]
  rw [Bool.eq_false_iff.2 c2] at hn
  have hN := num_of c0 hc1 c2
  obtain ⟨m, em⟩ := Int.eq_ofNat_of_zero_le hN.m.1
  have hm1 := hN.m.2
  have hlen := hN.len
  have ho : ∀ x ∈ Def.defs r, 2 ≤ x ∧ x ≤ 2 * (m : Int) + 1 := fun x hx => by have := hN.own x (by rw [← own_defs]; exact hx); omega
  have hu : ∀ x ∈ Def.uses r, 0 ≤ x ∧ x ≤ 2 * (m : Int) + 1 := fun x hx => by have := hN.use x hx; omega
  have ht := timesC h em (by omega) ho
  have hus := used h
  obtain ⟨tl, tg, tw⟩ := twice_times ho
  obtain ⟨a1, a2⟩ := any_loop (c := loopOf Try.prog 9 0) (times m (Def.defs r)) (fun i => Hc r ((times m (Def.defs r)).map I) [(4, .d (I i))]) .ret (.exit 0) (Rc r ((times m (Def.defs r)).map I) 43) (Hc r ((times m (Def.defs r)).map I) []) (fun x => decide (x > 1))
    (fun i hi hb => .stop hO hm (k1 r ((times m (Def.defs r)).getD i default) i ((times m (Def.defs r)).map I)) (by simp) ⟨decide_eq_true (by omega), ⟨rfl, by rw [List.length_map]; exact hi⟩, get_map I _ i hi, hb⟩)
    (fun i hi hb e s hh => .step hO hm (k2 r ((times m (Def.defs r)).getD i default) i ((times m (Def.defs r)).map I)) ⟨decide_eq_true (by omega), ⟨rfl, by rw [List.length_map]; exact hi⟩, get_map I _ i hi, hb, wrap_succ (by omega)⟩ hh)
    (.stop hO hm (k3 r (times m (Def.defs r)).length ((times m (Def.defs r)).map I)) (by simp) (decide_eq_false (by omega))) _ 0 rfl (Nat.zero_le _)
  rw [List.drop_zero] at a1 a2
  unfold chkVal
  rw [← own_defs, ← use_uses]
  by_cases hnd : ((Def.defs r).map varN).Nodup
  · rw [if_neg (show ¬ ¬ ((Def.defs r).map varN).Nodup from fun c => c hnd)]
    have a3 := a2 (Bool.eq_false_iff.2 fun c => tw.1 c hnd)
    have hul : (Def.uses r).length ≤ 10000 := by rw [use_uses, use_len]; omega
    obtain ⟨b1, b2⟩ := any_loop (c := loopOf Try.prog 9 1) (Def.uses r) (fun i => Hd2 r ((times m (Def.defs r)).map I) ((Def.uses r).map I) [(6, .d (I i))]) .ret (.exit 2) (Rd2 r ((times m (Def.defs r)).map I) ((Def.uses r).map I) 46) (Hd2 r ((times m (Def.defs r)).map I) ((Def.uses r).map I) []) (fun x => gt (times m (Def.defs r)) (varN x) == 0)
      (fun i hi hb => by
        have hx := hu _ (show (Def.uses r).getD i default ∈ Def.uses r by rw [List.getD_eq_getElem?_getD, List.getElem?_eq_getElem hi]; exact List.getElem_mem hi)
        have kk := k4 r (gt (times m (Def.defs r)) (varN ((Def.uses r).getD i default))) i ((times m (Def.defs r)).map I) (Def.uses r)
        have g2 := get_map I (Def.uses r) i hi
        generalize (Def.uses r).getD i default = x at hx hb kk g2
        have hv : varN x < (times m (Def.defs r)).length := by rw [tl]; unfold varN; omega
        exact .stop hO hm kk (by simp) ⟨decide_eq_true (by rw [List.length_map]; omega), ⟨rfl, by rw [List.length_map]; exact hi⟩, g2, quo2 hx.1 (by omega), ⟨by omega, by rw [List.length_map]; exact hv⟩, get_map I _ _ hv, hb⟩)
      (fun i hi hb e s hh => by
        have hx := hu _ (show (Def.uses r).getD i default ∈ Def.uses r by rw [List.getD_eq_getElem?_getD, List.getElem?_eq_getElem hi]; exact List.getElem_mem hi)
        have kk := k5 r (gt (times m (Def.defs r)) (varN ((Def.uses r).getD i default))) i ((times m (Def.defs r)).map I) (Def.uses r)
        have g2 := get_map I (Def.uses r) i hi
        generalize (Def.uses r).getD i default = x at hx hb kk g2
        have hv : varN x < (times m (Def.defs r)).length := by rw [tl]; unfold varN; omega
        exact .step hO hm kk ⟨decide_eq_true (by rw [List.length_map]; omega), ⟨rfl, by rw [List.length_map]; exact hi⟩, g2, quo2 hx.1 (by omega), ⟨by omega, by rw [List.length_map]; exact hv⟩, get_map I _ _ hv, hb, wrap_succ (by omega)⟩ hh)
      (.stop hO hm (k6 r (Def.uses r).length ((times m (Def.defs r)).map I) (Def.uses r)) (by simp) (decide_eq_false (by rw [List.length_map]; omega))) _ 0 rfl (Nat.zero_le _)
    rw [List.drop_zero] at b1 b2
    have ha : (Def.uses r).any (Pl.loose (Def.defs r)) = (Def.uses r).any (fun x => gt (times m (Def.defs r)) (varN x) == 0) := any_eq (fun x hx => by
      have hxu := hu x hx
      rw [tg _ (show varN x ≤ m by unfold varN; omega)]
      unfold Pl.loose
      by_cases c : varN x = 0
      · rw [if_pos c, Bool.eq_iff_iff]; simp [c]; omega
      · rw [if_neg c]
        by_cases d : varN x ∈ (Def.defs r).map varN
        · have := List.count_pos_iff.2 d
          rw [List.contains_iff_mem.2 d, Bool.eq_iff_iff]; simp; omega
        · have e0 := List.count_eq_zero.2 d
          rw [e0, Bool.eq_false_iff.2 (fun h => d (List.contains_iff_mem.1 h))]; simp [c])
    rw [ha]
    by_cases c : (Def.uses r).any (fun x => gt (times m (Def.defs r)) (varN x) == 0) = true
    · rw [if_pos c]
      exact callX_ok hO hm (c8 r _ (Def.uses r)) ⟨t0, s1, w1, w2, s2, s3, s4, hn, rfl, ht, a3, hus, b1 c⟩
    · rw [if_neg c]
      have hok : Ok m r.ands := num_ok (by rw [← em]; exact hN) (by rw [← own_defs]; exact hnd)
      have hor := order hok em
      by_cases c9 : (ordS r.ands r.ands.length []).length < r.ands.length
      · rw [if_pos c9]
        exact callX_ok hO hm (Ref.c9 r _ (Def.uses r) (Cir.ordI r)) ⟨t0, s1, w1, w2, s2, s3, s4, hn, rfl, ht, a3, hus, b2 (Bool.eq_false_iff.2 c), hor, decide_eq_true (by unfold Cir.ordI; rw [List.length_map, List.length_map, List.length_map]; omega)⟩
      · rw [if_neg c9]
        exact callX_ok hO hm (c10 r _ (Def.uses r) (Cir.ordI r)) ⟨t0, s1, w1, w2, s2, s3, s4, hn, rfl, ht, a3, hus, b2 (Bool.eq_false_iff.2 c), hor, decide_eq_false (by unfold Cir.ordI; rw [List.length_map, List.length_map, List.length_map]; omega)⟩
  · rw [if_pos hnd]
    exact callX_ok hO hm (c7 r _) ⟨t0, s1, w1, w2, s2, s3, s4, hn, rfl, ht, a1 (tw.2 hnd)⟩
end
end Go.Proofs.Ytbbefbgomdmldaa.Sy.Ref
/- The reference's comparison of lists of numbers. -/
namespace Go.Proofs.Ytbbefbgomdmldaa.Sy.SameInts
open Go Go.Proofs.Ytbbefbgomdmldaa.Ab Go.Proofs.Ytbbefbgomdmldaa.Sy
set_option maxRecDepth 1000000
def H (a b : List Int) (i : Nat) : St := ⟨mk 26 [(0, .d (L a)), (1, .d (L b)), (5, .d (I i))] [], []⟩
def E : St := ⟨mk 26 [] [], []⟩
def R : St := ⟨mk 26 [(4, .d (.bool false))] [], []⟩
section
variable (a b : List Int) (i : Nat)
theorem s1 : round Try.prog wr false O (loopOf Try.prog 19 0) (H a b i) [It.br true, It.el i (I (a.getD i default)), It.el i (I (b.getD i default)), It.br true] [4] 0
  = some (.ret, R,
      [decide ((↑i : Int) < (↑(List.map I a).length : Int)) = true,
      (↑i : Int) = (↑i : Int) ∧ (List.map I a)[i]? = some (I (a.getD i default)),
      (↑i : Int) = (↑i : Int) ∧ (List.map I b)[i]? = some (I (b.getD i default)),
      (a.getD i default != b.getD i default) = true]) := by kernel_rfl
theorem s2 : round Try.prog wr false O (loopOf Try.prog 19 0) (H a b i) [It.br true, It.el i (I (a.getD i default)), It.el i (I (b.getD i default)), It.br false, It.is (↑(i + 1) : Int)] [0, 1, 5] 0
  = some (.normal, H a b (i + 1),
      [decide ((↑i : Int) < (↑(List.map I a).length : Int)) = true,
      (↑i : Int) = (↑i : Int) ∧ (List.map I a)[i]? = some (I (a.getD i default)),
      (↑i : Int) = (↑i : Int) ∧ (List.map I b)[i]? = some (I (b.getD i default)),
      (a.getD i default != b.getD i default) = false,
      IntKind.i64.wrap ((↑i : Int) + 1) = (↑(i + 1) : Int)]) := by kernel_rfl
theorem s3 : round Try.prog wr false O (loopOf Try.prog 19 0) (H a b i) [It.br false] [] 0 = some (.exit 0, E, [decide ((↑i : Int) < (↑(List.map I a).length : Int)) = false]) := by kernel_rfl
end

theorem loop (a b : List Int) (hl : a.length = b.length) (hs : a.length ≤ 1000000) (d : Nat) : ∀ i, a.length - i = d → i ≤ a.length →
    (a.drop i = b.drop i → GoesL Try.prog (loopOf Try.prog 19 0) (H a b i) (.exit 0) E) ∧ (a.drop i ≠ b.drop i → GoesL Try.prog (loopOf Try.prog 19 0) (H a b i) .ret R) := by
  induction d with
  | zero =>
    intro i hd hi
    have h1 : a.drop i = b.drop i := by rw [List.drop_of_length_le (by omega), List.drop_of_length_le (by omega)]
    exact ⟨fun _ => .stop hO hm (s3 a b i) (by simp) (by simp [AllP]; omega), fun h => absurd h1 h⟩
  | succ d ih =>
    intro i hd hi
    have ha : i < a.length := by omega
    have hb : i < b.length := by omega
    obtain ⟨i1, i2⟩ := ih (i + 1) (by omega) (by omega)
    have ea := drop_getD a i ha
    have eb := drop_getD b i hb
    have q1 : decide ((↑i : Int) < (↑(List.map I a).length : Int)) = true := by simp; omega
    by_cases c : a.getD i default = b.getD i default
    · have q : (a.getD i default != b.getD i default) = false := by rw [c]; simp
      refine ⟨fun h => .step hO hm (s2 a b i) ⟨q1, ⟨rfl, get_map I a i ha⟩, ⟨rfl, get_map I b i hb⟩, q, wrap_succ (by omega)⟩ (i1 ?_), fun h => .step hO hm (s2 a b i) ⟨q1, ⟨rfl, get_map I a i ha⟩, ⟨rfl, get_map I b i hb⟩, q, wrap_succ (by omega)⟩ (i2 ?_)⟩
      · rw [ea, eb] at h; exact (List.cons.inj h).2
      · rw [ea, eb, c] at h; exact fun e => h (by rw [e])
    · have q : (a.getD i default != b.getD i default) = true := bne_iff_ne.2 c
      have hne : a.drop i ≠ b.drop i := by rw [ea, eb]; exact fun e => c (List.cons.inj e).1
      exact ⟨fun h => absurd h hne, fun _ => .stop hO hm (s1 a b i) (by simp) ⟨q1, ⟨rfl, get_map I a i ha⟩, ⟨rfl, get_map I b i hb⟩, q⟩⟩

section
variable (a b : List Int)
theorem f1 : callX Try.prog wr false O 19 [.d (L a), .d (L b)] [] [.br true] = some (.d (.bool false), [], [((((a.map I).length : Nat) : Int) != (((b.map I).length : Nat) : Int)) = true]) := by kernel_rfl
theorem f2 : callX Try.prog wr false O 19 [.d (L a), .d (L b)] [] [.br false, .lp [0, 1, 5] (.exit 0) E] = some (.d (.bool true), [], [((((a.map I).length : Nat) : Int) != (((b.map I).length : Nat) : Int)) = false, GoesL Try.prog (loopOf Try.prog 19 0) (H a b 0) (.exit 0) E]) := by kernel_rfl
theorem f3 : callX Try.prog wr false O 19 [.d (L a), .d (L b)] [] [.br false, .lp [0, 1, 5] .ret R] = some (.d (.bool false), [], [((((a.map I).length : Nat) : Int) != (((b.map I).length : Nat) : Int)) = false, GoesL Try.prog (loopOf Try.prog 19 0) (H a b 0) .ret R]) := by kernel_rfl
end

theorem icall (a b : List Int) (hs : a.length ≤ 1000000) : ICall Try.prog 19 [.d (L a), .d (L b)] [] (.d (.bool (decide (a = b)))) [] := by
  by_cases hl : a.length = b.length
  · have hd : ((((a.map I).length : Nat) : Int) != (((b.map I).length : Nat) : Int)) = false := by simp [hl]
    obtain ⟨l1, l2⟩ := loop a b hl hs a.length 0 rfl (by omega)
    by_cases c : a = b
    · rw [decide_eq_true c]
      exact callX_ok hO hm (f2 a b) ⟨hd, l1 (by simpa using c)⟩
    · rw [decide_eq_false c]
      exact callX_ok hO hm (f3 a b) ⟨hd, l2 (by simpa using c)⟩
  · have c : a ≠ b := fun e => hl (by rw [e])
    rw [decide_eq_false c]
    exact callX_ok hO hm (f1 a b) (by simp [AllP]; omega)
end Go.Proofs.Ytbbefbgomdmldaa.Sy.SameInts
/- Same, of one circuit with itself; gate. -/
namespace Go.Proofs.Ytbbefbgomdmldaa.Sy.Law
open Go Go.Proofs.Ytbbefbgomdmldaa.Ab Go.Proofs.Ytbbefbgomdmldaa.Sy
set_option maxRecDepth 1000000
set_option linter.unusedVariables false
def Bc (c : Ci) : B := .box [.d (I c.ins), .d (.sl (c.lats.map Lt.d)), .d (.sl (c.ands.map An.d)), .d (L c.bads), .d (L c.cons)]
def Hs (c : Ci) (sl : List (Nat × V)) : St := ⟨mk 82 ([(2, .ptr 0 0), (3, .ptr 1 0)] ++ sl) [], [Bc c, Bc c]⟩
section
variable (c : Ci) (r : Rw) (x y z : Int) (g : List Int) (i u N : Nat)
theorem s1 : round Try.prog wr false O (loopOf Try.prog 12 0) (Hs c [(5, .d (I i))]) [It.br true, It.el i (c.lats.getD i default).d, It.el i (c.lats.getD i default).d, It.br false, It.is (↑(i + 1) : Int)] [2, 3, 5] 2 = some (.normal, Hs c [(5, .d (I (i + 1 : Nat)))],
  [decide ((↑i : Int) < (↑(List.map Lt.d c.lats).length : Int)) = true,
   (↑i : Int) = (↑i : Int) ∧ (List.map Lt.d c.lats)[i]? = some (c.lats.getD i default).d,
   (↑i : Int) = (↑i : Int) ∧ (List.map Lt.d c.lats)[i]? = some (c.lats.getD i default).d,
   (!decide ([(c.lats.getD i default).next, (c.lats.getD i default).reset] = [(c.lats.getD i default).next, (c.lats.getD i default).reset])) = false,
   IntKind.i64.wrap ((↑i : Int) + 1) = (↑(i + 1) : Int)]) := by kernel_rfl
theorem s2 : round Try.prog wr false O (loopOf Try.prog 12 0) (Hs c [(5, .d (I i))]) [It.br false] [2, 3] 2 = some (.exit 0, Hs c [],
  [decide ((↑i : Int) < (↑(List.map Lt.d c.lats).length : Int)) = false]) := by kernel_rfl
theorem s3 : round Try.prog wr false O (loopOf Try.prog 12 1) (Hs c [(6, .d (I i))]) [It.br true, It.el i (c.ands.getD i default).d, It.el i (c.ands.getD i default).d, It.br false, It.is (↑(i + 1) : Int)] [2, 3, 6] 2 = some (.normal, Hs c [(6, .d (I (i + 1 : Nat)))],
  [decide ((↑i : Int) < (↑(List.map An.d c.ands).length : Int)) = true,
   (↑i : Int) = (↑i : Int) ∧ (List.map An.d c.ands)[i]? = some (c.ands.getD i default).d,
   (↑i : Int) = (↑i : Int) ∧ (List.map An.d c.ands)[i]? = some (c.ands.getD i default).d,
   (!decide ([(c.ands.getD i default).a, (c.ands.getD i default).b] = [(c.ands.getD i default).a, (c.ands.getD i default).b])) = false,
   IntKind.i64.wrap ((↑i : Int) + 1) = (↑(i + 1) : Int)]) := by kernel_rfl
theorem s4 : round Try.prog wr false O (loopOf Try.prog 12 1) (Hs c [(6, .d (I i))]) [It.br false] [2, 3] 2 = some (.exit 2, Hs c [],
  [decide ((↑i : Int) < (↑(List.map An.d c.ands).length : Int)) = false]) := by kernel_rfl
theorem s5  : callX Try.prog wr false O 12 [.d c.d, .d c.d] [] [It.br false, It.br false, It.br false, It.icall [] (V.d (D.bool true)) [], It.br false, It.icall [] (V.d (D.bool true)) [], It.br false, It.lp [2, 3, 5] (Ex.exit 0) (Hs c []), It.lp [2, 3, 6] (Ex.exit 2) (Hs c [])] = some (V.d (D.bool true), [],
  [(c.ins != c.ins) = false,
   ((↑(List.map Lt.d c.lats).length : Int) != (↑(List.map Lt.d c.lats).length : Int)) = false,
   ((↑(List.map An.d c.ands).length : Int) != (↑(List.map An.d c.ands).length : Int)) = false,
   ICall Try.prog 19 [V.d (L c.bads), V.d (L c.bads)] [] (V.d (D.bool true)) [],
   (!true) = false,
   ICall Try.prog 19 [V.d (L c.cons), V.d (L c.cons)] [] (V.d (D.bool true)) [],
   (!true) = false,
   GoesL Try.prog (loopOf Try.prog 12 0) (⟨mk 82 [(2, V.ptr 0 0), (3, V.ptr 1 0), (5, V.d (D.int IntKind.i64 0))] [], [B.box [V.d (D.int IntKind.i64 c.ins), V.d (D.sl (List.map Lt.d c.lats)), V.d (D.sl (List.map An.d c.ands)), V.d (D.sl (List.map I c.bads)), V.d (D.sl (List.map I c.cons))], B.box [V.d (D.int IntKind.i64 c.ins), V.d (D.sl (List.map Lt.d c.lats)), V.d (D.sl (List.map An.d c.ands)), V.d (D.sl (List.map I c.bads)), V.d (D.sl (List.map I c.cons))]]⟩) (Ex.exit 0) (Hs c []),
   GoesL Try.prog (loopOf Try.prog 12 1) (⟨mk 82 [(2, V.ptr 0 0), (3, V.ptr 1 0), (6, V.d (D.int IntKind.i64 0))] [], [B.box [V.d (D.int IntKind.i64 c.ins), V.d (D.sl (List.map Lt.d c.lats)), V.d (D.sl (List.map An.d c.ands)), V.d (D.sl (List.map I c.bads)), V.d (D.sl (List.map I c.cons))], B.box [V.d (D.int IntKind.i64 c.ins), V.d (D.sl (List.map Lt.d c.lats)), V.d (D.sl (List.map An.d c.ands)), V.d (D.sl (List.map I c.bads)), V.d (D.sl (List.map I c.cons))]]⟩) (Ex.exit 2) (Hs c [])]) := by kernel_rfl
theorem gate  : callX Try.prog wr false O 21 [.d (I x), .d (I y), .d (I z)] [] [] = some (V.d (D.agg [D.int IntKind.i64 x, D.int IntKind.i64 y, D.int IntKind.i64 z]), [],
  []) := by kernel_rfl
theorem g1  : callX Try.prog wr false O 7 [.d r.d] [] [It.br true, It.br true] = some (V.d (D.bool true), [],
  [decide ((↑(List.map I r.ins).length : Int) > 60) = true,
   ((↑(List.map I r.ins).length : Int) != 1001) = true]) := by kernel_rfl
theorem g2  : callX Try.prog wr false O 7 [.d r.d] [] [It.br true, It.br false, It.br true] = some (V.d (D.bool true), [],
  [decide ((↑(List.map I r.ins).length : Int) > 60) = true,
   ((↑(List.map I r.ins).length : Int) != 1001) = false,
   decide ((↑(List.map Df.d r.lats).length : Int) > 60) = true]) := by kernel_rfl
theorem g3  : callX Try.prog wr false O 7 [.d r.d] [] [It.br true, It.br false, It.br false, It.br true] = some (V.d (D.bool true), [],
  [decide ((↑(List.map I r.ins).length : Int) > 60) = true,
   ((↑(List.map I r.ins).length : Int) != 1001) = false,
   decide ((↑(List.map Df.d r.lats).length : Int) > 60) = false,
   decide ((↑(List.map Df.d r.ands).length : Int) > 60) = true]) := by kernel_rfl
theorem g4  : callX Try.prog wr false O 7 [.d r.d] [] [It.br true, It.br false, It.br false, It.br false, It.br true] = some (V.d (D.bool true), [],
  [decide ((↑(List.map I r.ins).length : Int) > 60) = true,
   ((↑(List.map I r.ins).length : Int) != 1001) = false,
   decide ((↑(List.map Df.d r.lats).length : Int) > 60) = false,
   decide ((↑(List.map Df.d r.ands).length : Int) > 60) = false,
   decide ((↑(List.map I r.bads).length : Int) > 110) = true]) := by kernel_rfl
theorem g5  : callX Try.prog wr false O 7 [.d r.d] [] [It.br true, It.br false, It.br false, It.br false, It.br false, It.br true] = some (V.d (D.bool true), [],
  [decide ((↑(List.map I r.ins).length : Int) > 60) = true,
   ((↑(List.map I r.ins).length : Int) != 1001) = false,
   decide ((↑(List.map Df.d r.lats).length : Int) > 60) = false,
   decide ((↑(List.map Df.d r.ands).length : Int) > 60) = false,
   decide ((↑(List.map I r.bads).length : Int) > 110) = false,
   decide ((↑(List.map I r.cons).length : Int) > 110) = true]) := by kernel_rfl
theorem g6  : callX Try.prog wr false O 7 [.d r.d] [] [It.br true, It.br false, It.br false, It.br false, It.br false, It.br false, It.br true, It.br true] = some (V.d (D.bool true), [],
  [decide ((↑(List.map I r.ins).length : Int) > 60) = true,
   ((↑(List.map I r.ins).length : Int) != 1001) = false,
   decide ((↑(List.map Df.d r.lats).length : Int) > 60) = false,
   decide ((↑(List.map Df.d r.ands).length : Int) > 60) = false,
   decide ((↑(List.map I r.bads).length : Int) > 110) = false,
   decide ((↑(List.map I r.cons).length : Int) > 110) = false,
   decide (r.most > 200) = true,
   decide (r.most < 991) = true]) := by kernel_rfl
theorem g7  : callX Try.prog wr false O 7 [.d r.d] [] [It.br true, It.br false, It.br false, It.br false, It.br false, It.br false, It.br true, It.br false] = some (V.d (D.bool false), [],
  [decide ((↑(List.map I r.ins).length : Int) > 60) = true,
   ((↑(List.map I r.ins).length : Int) != 1001) = false,
   decide ((↑(List.map Df.d r.lats).length : Int) > 60) = false,
   decide ((↑(List.map Df.d r.ands).length : Int) > 60) = false,
   decide ((↑(List.map I r.bads).length : Int) > 110) = false,
   decide ((↑(List.map I r.cons).length : Int) > 110) = false,
   decide (r.most > 200) = true,
   decide (r.most < 991) = false]) := by kernel_rfl
theorem g8  : callX Try.prog wr false O 7 [.d r.d] [] [It.br true, It.br false, It.br false, It.br false, It.br false, It.br false, It.br false] = some (V.d (D.bool false), [],
  [decide ((↑(List.map I r.ins).length : Int) > 60) = true,
   ((↑(List.map I r.ins).length : Int) != 1001) = false,
   decide ((↑(List.map Df.d r.lats).length : Int) > 60) = false,
   decide ((↑(List.map Df.d r.ands).length : Int) > 60) = false,
   decide ((↑(List.map I r.bads).length : Int) > 110) = false,
   decide ((↑(List.map I r.cons).length : Int) > 110) = false,
   decide (r.most > 200) = false]) := by kernel_rfl
theorem g9  : callX Try.prog wr false O 7 [.d r.d] [] [It.br false, It.br true] = some (V.d (D.bool true), [],
  [decide ((↑(List.map I r.ins).length : Int) > 60) = false,
   decide ((↑(List.map Df.d r.lats).length : Int) > 60) = true]) := by kernel_rfl
theorem g10  : callX Try.prog wr false O 7 [.d r.d] [] [It.br false, It.br false, It.br true] = some (V.d (D.bool true), [],
  [decide ((↑(List.map I r.ins).length : Int) > 60) = false,
   decide ((↑(List.map Df.d r.lats).length : Int) > 60) = false,
   decide ((↑(List.map Df.d r.ands).length : Int) > 60) = true]) := by kernel_rfl
theorem g11  : callX Try.prog wr false O 7 [.d r.d] [] [It.br false, It.br false, It.br false, It.br true] = some (V.d (D.bool true), [],
  [decide ((↑(List.map I r.ins).length : Int) > 60) = false,
   decide ((↑(List.map Df.d r.lats).length : Int) > 60) = false,
   decide ((↑(List.map Df.d r.ands).length : Int) > 60) = false,
   decide ((↑(List.map I r.bads).length : Int) > 110) = true]) := by kernel_rfl
theorem g12  : callX Try.prog wr false O 7 [.d r.d] [] [It.br false, It.br false, It.br false, It.br false, It.br true] = some (V.d (D.bool true), [],
  [decide ((↑(List.map I r.ins).length : Int) > 60) = false,
   decide ((↑(List.map Df.d r.lats).length : Int) > 60) = false,
   decide ((↑(List.map Df.d r.ands).length : Int) > 60) = false,
   decide ((↑(List.map I r.bads).length : Int) > 110) = false,
   decide ((↑(List.map I r.cons).length : Int) > 110) = true]) := by kernel_rfl
theorem g13  : callX Try.prog wr false O 7 [.d r.d] [] [It.br false, It.br false, It.br false, It.br false, It.br false, It.br true, It.br true] = some (V.d (D.bool true), [],
  [decide ((↑(List.map I r.ins).length : Int) > 60) = false,
   decide ((↑(List.map Df.d r.lats).length : Int) > 60) = false,
   decide ((↑(List.map Df.d r.ands).length : Int) > 60) = false,
   decide ((↑(List.map I r.bads).length : Int) > 110) = false,
   decide ((↑(List.map I r.cons).length : Int) > 110) = false,
   decide (r.most > 200) = true,
   decide (r.most < 991) = true]) := by kernel_rfl
theorem g14  : callX Try.prog wr false O 7 [.d r.d] [] [It.br false, It.br false, It.br false, It.br false, It.br false, It.br true, It.br false] = some (V.d (D.bool false), [],
  [decide ((↑(List.map I r.ins).length : Int) > 60) = false,
   decide ((↑(List.map Df.d r.lats).length : Int) > 60) = false,
   decide ((↑(List.map Df.d r.ands).length : Int) > 60) = false,
   decide ((↑(List.map I r.bads).length : Int) > 110) = false,
   decide ((↑(List.map I r.cons).length : Int) > 110) = false,
   decide (r.most > 200) = true,
   decide (r.most < 991) = false]) := by kernel_rfl
theorem g15  : callX Try.prog wr false O 7 [.d r.d] [] [It.br false, It.br false, It.br false, It.br false, It.br false, It.br false] = some (V.d (D.bool false), [],
  [decide ((↑(List.map I r.ins).length : Int) > 60) = false,
   decide ((↑(List.map Df.d r.lats).length : Int) > 60) = false,
   decide ((↑(List.map Df.d r.ands).length : Int) > 60) = false,
   decide ((↑(List.map I r.bads).length : Int) > 110) = false,
   decide ((↑(List.map I r.cons).length : Int) > 110) = false,
   decide (r.most > 200) = false]) := by kernel_rfl
end
/-- A circuit is the same as itself. -/
theorem same (c : Ci) (h1 : c.lats.length ≤ 100000) (h2 : c.ands.length ≤ 100000) (h3 : c.bads.length ≤ 100000) (h4 : c.cons.length ≤ 100000) : ICall Try.prog 12 [.d c.d, .d c.d] [] (.d (.bool true)) [] := by
  have l1 := fold_loop (c := loopOf Try.prog 12 0) c.lats (fun i (_ : Unit) => Hs c [(5, .d (I i))]) (fun _ => Hs c []) (.exit 0) (fun _ _ => ()) (fun _ _ => True)
    (fun i _ hi _ => ⟨trivial, fun e s hh => .step hO hm (s1 c i) ⟨decide_eq_true (by rw [List.length_map]; omega), ⟨rfl, get_map Lt.d c.lats i hi⟩, ⟨rfl, get_map Lt.d c.lats i hi⟩, by simp, wrap_succ (by omega)⟩ hh⟩)
    (fun _ _ => by have k := s2 c c.lats.length; exact .stop hO hm k (by simp) (decide_eq_false (by rw [List.length_map]; omega))) _ 0 () rfl (Nat.zero_le _) trivial
  have l2 := fold_loop (c := loopOf Try.prog 12 1) c.ands (fun i (_ : Unit) => Hs c [(6, .d (I i))]) (fun _ => Hs c []) (.exit 2) (fun _ _ => ()) (fun _ _ => True)
    (fun i _ hi _ => ⟨trivial, fun e s hh => .step hO hm (s3 c i) ⟨decide_eq_true (by rw [List.length_map]; omega), ⟨rfl, get_map An.d c.ands i hi⟩, ⟨rfl, get_map An.d c.ands i hi⟩, by simp, wrap_succ (by omega)⟩ hh⟩)
    (fun _ _ => by have k := s4 c c.ands.length; exact .stop hO hm k (by simp) (decide_eq_false (by rw [List.length_map]; omega))) _ 0 () rfl (Nat.zero_le _) trivial
  have i1 := SameInts.icall c.bads c.bads (by omega)
  have i2 := SameInts.icall c.cons c.cons (by omega)
  rw [decide_eq_true rfl] at i1 i2
  exact callX_ok hO hm (s5 c) ⟨by simp, by simp, by simp, i1, rfl, i2, rfl, l1, l2⟩
def great (r : Rw) : Bool := decide ((r.ins.length : Int) > 60) && (((r.ins.length : Nat) : Int) != 1001) || (decide ((r.lats.length : Int) > 60) || (decide ((r.ands.length : Int) > 60) || (decide ((r.bads.length : Int) > 110) || (decide ((r.cons.length : Int) > 110) || (decide (r.most > 200) && decide (r.most < 991))))))
theorem great_ok (r : Rw) : ICall Try.prog 7 [.d r.d] [] (.d (.bool (great r))) [] := by
  unfold great
  have e1 : (r.ins.map I).length = r.ins.length := List.length_map _
  have e2 : (r.lats.map Df.d).length = r.lats.length := List.length_map _
  have e3 : (r.ands.map Df.d).length = r.ands.length := List.length_map _
  have e4 : (r.bads.map I).length = r.bads.length := List.length_map _
  have e5 : (r.cons.map I).length = r.cons.length := List.length_map _
  rw [← e1, ← e2, ← e3, ← e4, ← e5]
  cases c1 : decide ((((r.ins.map I).length : Nat) : Int) > 60) with
  | true =>
    cases c2 : (((r.ins.map I).length : Nat) : Int) != 1001 with
    | true => exact callX_ok hO hm (g1 r) ⟨c1, c2⟩
    | false =>
    cases c3 : decide ((((r.lats.map Df.d).length : Nat) : Int) > 60) with
    | true => exact callX_ok hO hm (g2 r) ⟨c1, c2, c3⟩
    | false =>
    cases c4 : decide ((((r.ands.map Df.d).length : Nat) : Int) > 60) with
    | true => exact callX_ok hO hm (g3 r) ⟨c1, c2, c3, c4⟩
    | false =>
    cases c5 : decide ((((r.bads.map I).length : Nat) : Int) > 110) with
    | true => exact callX_ok hO hm (g4 r) ⟨c1, c2, c3, c4, c5⟩
    | false =>
    cases c6 : decide ((((r.cons.map I).length : Nat) : Int) > 110) with
    | true => exact callX_ok hO hm (g5 r) ⟨c1, c2, c3, c4, c5, c6⟩
    | false =>
    cases c7 : decide (r.most > 200) with
    | false => exact callX_ok hO hm (g8 r) ⟨c1, c2, c3, c4, c5, c6, c7⟩
    | true =>
    cases c8 : decide (r.most < 991) with
    | true => exact callX_ok hO hm (g6 r) ⟨c1, c2, c3, c4, c5, c6, c7, c8⟩
    | false => exact callX_ok hO hm (g7 r) ⟨c1, c2, c3, c4, c5, c6, c7, c8⟩
  | false =>
    cases c3 : decide ((((r.lats.map Df.d).length : Nat) : Int) > 60) with
    | true => exact callX_ok hO hm (g9 r) ⟨c1, c3⟩
    | false =>
    cases c4 : decide ((((r.ands.map Df.d).length : Nat) : Int) > 60) with
    | true => exact callX_ok hO hm (g10 r) ⟨c1, c3, c4⟩
    | false =>
    cases c5 : decide ((((r.bads.map I).length : Nat) : Int) > 110) with
    | true => exact callX_ok hO hm (g11 r) ⟨c1, c3, c4, c5⟩
    | false =>
    cases c6 : decide ((((r.cons.map I).length : Nat) : Int) > 110) with
    | true => exact callX_ok hO hm (g12 r) ⟨c1, c3, c4, c5, c6⟩
    | false =>
    cases c7 : decide (r.most > 200) with
    | false => exact callX_ok hO hm (g15 r) ⟨c1, c3, c4, c5, c6, c7⟩
    | true =>
    cases c8 : decide (r.most < 991) with
    | true => exact callX_ok hO hm (g13 r) ⟨c1, c3, c4, c5, c6, c7, c8⟩
    | false => exact callX_ok hO hm (g14 r) ⟨c1, c3, c4, c5, c6, c7, c8⟩

end Go.Proofs.Ytbbefbgomdmldaa.Sy.Law
/- Twin, moved: round by round. -/
namespace Go.Proofs.Ytbbefbgomdmldaa.Sy.Law
open Go Go.Proofs.Ytbbefbgomdmldaa.Ab Go.Proofs.Ytbbefbgomdmldaa.Sy
set_option maxRecDepth 1000000
set_option linter.unusedVariables false
def Pr2 (p : Int × Int) : D := .agg [I p.1, I p.2]
def TwR (r : Rw) : V := .agg [.d (I r.most), .own 3 (r.ins.map I), .own 45 (r.lats.map Df.d), .own 45 (r.ands.map Df.d), .own 3 (r.bads.map I), .own 3 (r.cons.map I)]
def Bm (r : Rw) (a b c d e : List D) : List B := [r.box, .box [.d (I 0), .emp true, .emp true, .emp true, .emp true, .emp true], .lst 3 a, .lst 45 b, .lst 45 c, .lst 3 d, .lst 3 e, .box [.d (I r.most), .arr 2, .arr 3, .arr 4, .arr 5, .arr 6]]
def Hm (r : Rw) (l : List Int) (a b c d e : List D) (sl : List (Nat × V)) : St := ⟨mk 137 ([(1, .d (L l)), (4, .ptr 1 0), (5, .ptr 7 0)] ++ sl) [], Bm r a b c d e⟩
section
variable (r : Rw) (l : List Int) (a b c d e : List D) (u : Df) (v x y z : Int) (i : Nat) (a1 b1 c1 d1 e1 : List D) (ps : List (Int × Int)) (ll : List D) (p q : Int) (w : Nat) (r2 : Rw) (cc : Ci) (g g2 l1 : List Int) (ee : Int)
theorem tw  : callX Try.prog wr false O 16 [.d r.d] [] [It.raw, It.own, It.raw, It.raw, It.own, It.raw, It.raw, It.own, It.raw, It.raw, It.own, It.raw, It.raw, It.own, It.raw] = some (TwR r, [],
  [∀ (y : D), y ∈ List.map I r.ins → y.cells.length = (fun x => x.size) Try.prog.types[3],
   (List.map I r.ins).length ≤ maxItems,
   ∀ (y : D), y ∈ List.map Df.d r.lats → y.cells.length = (fun x => x.size) Try.prog.types[45],
   (List.map Df.d r.lats).length ≤ maxItems,
   ∀ (y : D), y ∈ List.map Df.d r.ands → y.cells.length = (fun x => x.size) Try.prog.types[45],
   (List.map Df.d r.ands).length ≤ maxItems,
   ∀ (y : D), y ∈ List.map I r.bads → y.cells.length = (fun x => x.size) Try.prog.types[3],
   (List.map I r.bads).length ≤ maxItems,
   ∀ (y : D), y ∈ List.map I r.cons → y.cells.length = (fun x => x.size) Try.prog.types[3],
   (List.map I r.cons).length ≤ maxItems]) := by kernel_rfl
theorem m1 : round Try.prog wr false O (loopOf Try.prog 11 0) (Hm r l a b c d e [(6, .d (I i))]) [It.br true, It.ix i, It.el i (I v), It.icall [] (V.d (I x)) [], It.ix i, It.is (↑(i + 1) : Int)] [1, 4, 5, 6] 8 = some (.normal, Hm r l (a.set i (I x)) b c d e [(6, .d (I (i + 1 : Nat)))],
  [decide ((↑i : Int) < (↑a.length : Int)) = true,
   (↑i : Int) = (↑i : Int) ∧ i < a.length,
   a[i]? = some (I v),
   ICall Try.prog 15 [V.d (L l), V.d (I v)] [] (V.d (I x)) [],
   (↑i : Int) = (↑i : Int) ∧ i < a.length,
   IntKind.i64.wrap ((↑i : Int) + 1) = (↑(i + 1) : Int)]) := by kernel_rfl
theorem m2 : round Try.prog wr false O (loopOf Try.prog 11 0) (Hm r l a b c d e [(6, .d (I i))]) [It.br false] [1, 4, 5] 8 = some (.exit 0, Hm r l a b c d e [],
  [decide ((↑i : Int) < (↑a.length : Int)) = false]) := by kernel_rfl
theorem m3 : round Try.prog wr false O (loopOf Try.prog 11 1) (Hm r l a b c d e [(7, .d (I i))]) [It.br true, It.ix i, It.el i u.d, It.icall [] (V.d (I x)) [], It.el i u.d, It.icall [] (V.d (I y)) [], It.el i u.d, It.el i (Df.mk x u.a u.b).d, It.is (↑(i + 1) : Int)] [1, 4, 5, 7] 8 = some (.normal, Hm r l a ((b.set i (⟨x, u.a, u.b⟩ : Df).d).set i (⟨x, y, u.b⟩ : Df).d) c d e [(7, .d (I (i + 1 : Nat)))],
  [decide ((↑i : Int) < (↑b.length : Int)) = true,
   (↑i : Int) = (↑i : Int) ∧ i < b.length,
   b[i]? = some u.d,
   ICall Try.prog 15 [V.d (L l), V.d (I u.lit)] [] (V.d (I x)) [],
   b[i]? = some u.d,
   ICall Try.prog 15 [V.d (L l), V.d (I u.a)] [] (V.d (I y)) [],
   b[i]? = some (D.agg [I u.lit, I u.a, I u.b]),
   (b.set i (D.agg ([I u.lit, I u.a, I u.b].set 0 (I x))))[i]? = some (D.agg [I (Df.mk x u.a u.b).lit, I (Df.mk x u.a u.b).a, I (Df.mk x u.a u.b).b]),
   IntKind.i64.wrap ((↑i : Int) + 1) = (↑(i + 1) : Int)]) := by kernel_rfl
theorem m4 : round Try.prog wr false O (loopOf Try.prog 11 1) (Hm r l a b c d e [(7, .d (I i))]) [It.br false] [1, 4, 5] 8 = some (.exit 2, Hm r l a b c d e [],
  [decide ((↑i : Int) < (↑b.length : Int)) = false]) := by kernel_rfl
theorem m5 : round Try.prog wr false O (loopOf Try.prog 11 2) (Hm r l a b c d e [(9, .d (I i))]) [It.br true, It.ix i, It.el i u.d, It.icall [] (V.d (I x)) [], It.el i u.d, It.icall [] (V.d (I y)) [], It.el i u.d, It.icall [] (V.d (I z)) [], It.el i u.d, It.el i (Df.mk x u.a u.b).d, It.el i (Df.mk x y u.b).d, It.is (↑(i + 1) : Int)] [1, 4, 5, 9] 8 = some (.normal, Hm r l a b (((c.set i (⟨x, u.a, u.b⟩ : Df).d).set i (⟨x, y, u.b⟩ : Df).d).set i (⟨x, y, z⟩ : Df).d) d e [(9, .d (I (i + 1 : Nat)))],
  [decide ((↑i : Int) < (↑c.length : Int)) = true,
   (↑i : Int) = (↑i : Int) ∧ i < c.length,
   c[i]? = some u.d,
   ICall Try.prog 15 [V.d (L l), V.d (I u.lit)] [] (V.d (I x)) [],
   c[i]? = some u.d,
   ICall Try.prog 15 [V.d (L l), V.d (I u.a)] [] (V.d (I y)) [],
   c[i]? = some u.d,
   ICall Try.prog 15 [V.d (L l), V.d (I u.b)] [] (V.d (I z)) [],
   c[i]? = some (D.agg [I u.lit, I u.a, I u.b]),
   (c.set i (D.agg ([I u.lit, I u.a, I u.b].set 0 (I x))))[i]? = some (D.agg [I (Df.mk x u.a u.b).lit, I (Df.mk x u.a u.b).a, I (Df.mk x u.a u.b).b]),
   ((c.set i (D.agg ([I u.lit, I u.a, I u.b].set 0 (I x)))).set i (D.agg ([I (Df.mk x u.a u.b).lit, I (Df.mk x u.a u.b).a, I (Df.mk x u.a u.b).b].set 1 (I y))))[i]? = some (D.agg [I (Df.mk x y u.b).lit, I (Df.mk x y u.b).a, I (Df.mk x y u.b).b]),
   IntKind.i64.wrap ((↑i : Int) + 1) = (↑(i + 1) : Int)]) := by kernel_rfl
theorem m6 : round Try.prog wr false O (loopOf Try.prog 11 2) (Hm r l a b c d e [(9, .d (I i))]) [It.br false] [1, 4, 5] 8 = some (.exit 4, Hm r l a b c d e [],
  [decide ((↑i : Int) < (↑c.length : Int)) = false]) := by kernel_rfl
theorem m7 : round Try.prog wr false O (loopOf Try.prog 11 3) (Hm r l a b c d e [(11, .d (I i))]) [It.br true, It.ix i, It.el i (I v), It.icall [] (V.d (I x)) [], It.ix i, It.is (↑(i + 1) : Int)] [1, 4, 5, 11] 8 = some (.normal, Hm r l a b c (d.set i (I x)) e [(11, .d (I (i + 1 : Nat)))],
  [decide ((↑i : Int) < (↑d.length : Int)) = true,
   (↑i : Int) = (↑i : Int) ∧ i < d.length,
   d[i]? = some (I v),
   ICall Try.prog 15 [V.d (L l), V.d (I v)] [] (V.d (I x)) [],
   (↑i : Int) = (↑i : Int) ∧ i < d.length,
   IntKind.i64.wrap ((↑i : Int) + 1) = (↑(i + 1) : Int)]) := by kernel_rfl
theorem m8 : round Try.prog wr false O (loopOf Try.prog 11 3) (Hm r l a b c d e [(11, .d (I i))]) [It.br false] [1, 4, 5] 8 = some (.exit 6, Hm r l a b c d e [],
  [decide ((↑i : Int) < (↑d.length : Int)) = false]) := by kernel_rfl
theorem m9 : round Try.prog wr false O (loopOf Try.prog 11 4) (Hm r l a b c d e [(12, .d (I i))]) [It.br true, It.ix i, It.el i (I v), It.icall [] (V.d (I x)) [], It.ix i, It.is (↑(i + 1) : Int)] [1, 4, 5, 12] 8 = some (.normal, Hm r l a b c d (e.set i (I x)) [(12, .d (I (i + 1 : Nat)))],
  [decide ((↑i : Int) < (↑e.length : Int)) = true,
   (↑i : Int) = (↑i : Int) ∧ i < e.length,
   e[i]? = some (I v),
   ICall Try.prog 15 [V.d (L l), V.d (I v)] [] (V.d (I x)) [],
   (↑i : Int) = (↑i : Int) ∧ i < e.length,
   IntKind.i64.wrap ((↑i : Int) + 1) = (↑(i + 1) : Int)]) := by kernel_rfl
theorem m10 : round Try.prog wr false O (loopOf Try.prog 11 4) (Hm r l a b c d e [(12, .d (I i))]) [It.br false] [1, 4, 5] 8 = some (.exit 8, Hm r l a b c d e [],
  [decide ((↑i : Int) < (↑e.length : Int)) = false]) := by kernel_rfl
theorem m11  : callX Try.prog wr false O 11 [.d r.d, .d (L l)] [] [It.icall [] (TwR r) [], It.lp [1, 4, 5, 6] (Ex.exit 0) (Hm r l a1 (List.map Df.d r.lats) (List.map Df.d r.ands) (List.map I r.bads) (List.map I r.cons) []), It.lp [1, 4, 5, 7] (Ex.exit 2) (Hm r l a1 b1 (List.map Df.d r.ands) (List.map I r.bads) (List.map I r.cons) []), It.lp [1, 4, 5, 9] (Ex.exit 4) (Hm r l a1 b1 c1 (List.map I r.bads) (List.map I r.cons) []), It.lp [1, 4, 5, 11] (Ex.exit 6) (Hm r l a1 b1 c1 d1 (List.map I r.cons) []), It.lp [1, 4, 5, 12] (Ex.exit 8) (Hm r l a1 b1 c1 d1 e1 [])] = some (V.agg [V.d (D.int IntKind.i64 r.most), V.own 3 a1, V.own 45 b1, V.own 45 c1, V.own 3 d1, V.own 3 e1], [],
  [ICall Try.prog 16 [V.d (D.agg [I r.most, L r.ins, D.sl (List.map Df.d r.lats), D.sl (List.map Df.d r.ands), L r.bads, L r.cons])] [] (TwR r) [],
   GoesL Try.prog (loopOf Try.prog 11 0) (⟨mk 137 [(1, V.d (D.sl (List.map I l))), (4, V.ptr 1 0), (5, V.ptr 7 0), (6, V.d (D.int IntKind.i64 0))] [], [B.box [V.d (D.int IntKind.i64 r.most), V.d (D.sl (List.map I r.ins)), V.d (D.sl (List.map Df.d r.lats)), V.d (D.sl (List.map Df.d r.ands)), V.d (D.sl (List.map I r.bads)), V.d (D.sl (List.map I r.cons))], B.box [V.d (D.int IntKind.i64 0), V.emp true, V.emp true, V.emp true, V.emp true, V.emp true], B.lst 3 (List.map I r.ins), B.lst 45 (List.map Df.d r.lats), B.lst 45 (List.map Df.d r.ands), B.lst 3 (List.map I r.bads), B.lst 3 (List.map I r.cons), B.box [V.d (D.int IntKind.i64 r.most), V.arr 2, V.arr (2 + [B.lst 3 (List.map I r.ins)].length), V.arr (2 + [B.lst 3 (List.map I r.ins)].length + [B.lst 45 (List.map Df.d r.lats)].length), V.arr (2 + [B.lst 3 (List.map I r.ins)].length + [B.lst 45 (List.map Df.d r.lats)].length + [B.lst 45 (List.map Df.d r.ands)].length), V.arr (2 + [B.lst 3 (List.map I r.ins)].length + [B.lst 45 (List.map Df.d r.lats)].length + [B.lst 45 (List.map Df.d r.ands)].length + [B.lst 3 (List.map I r.bads)].length)]]⟩) (Ex.exit 0) (Hm r l a1 (List.map Df.d r.lats) (List.map Df.d r.ands) (List.map I r.bads) (List.map I r.cons) []),
   GoesL Try.prog (loopOf Try.prog 11 1) (⟨mk 137 [(1, V.d (D.sl (List.map I l))), (4, V.ptr 1 0), (5, V.ptr 7 0), (7, V.d (D.int IntKind.i64 0))] [], [B.box [V.d (D.int IntKind.i64 r.most), V.d (D.sl (List.map I r.ins)), V.d (D.sl (List.map Df.d r.lats)), V.d (D.sl (List.map Df.d r.ands)), V.d (D.sl (List.map I r.bads)), V.d (D.sl (List.map I r.cons))], B.box [V.d (D.int IntKind.i64 0), V.emp true, V.emp true, V.emp true, V.emp true, V.emp true], B.lst 3 a1, B.lst 45 (List.map Df.d r.lats), B.lst 45 (List.map Df.d r.ands), B.lst 3 (List.map I r.bads), B.lst 3 (List.map I r.cons), B.box [V.d (D.int IntKind.i64 r.most), V.arr 2, V.arr 3, V.arr 4, V.arr 5, V.arr 6]]⟩) (Ex.exit 2) (Hm r l a1 b1 (List.map Df.d r.ands) (List.map I r.bads) (List.map I r.cons) []),
   GoesL Try.prog (loopOf Try.prog 11 2) (⟨mk 137 [(1, V.d (D.sl (List.map I l))), (4, V.ptr 1 0), (5, V.ptr 7 0), (9, V.d (D.int IntKind.i64 0))] [], [B.box [V.d (D.int IntKind.i64 r.most), V.d (D.sl (List.map I r.ins)), V.d (D.sl (List.map Df.d r.lats)), V.d (D.sl (List.map Df.d r.ands)), V.d (D.sl (List.map I r.bads)), V.d (D.sl (List.map I r.cons))], B.box [V.d (D.int IntKind.i64 0), V.emp true, V.emp true, V.emp true, V.emp true, V.emp true], B.lst 3 a1, B.lst 45 b1, B.lst 45 (List.map Df.d r.ands), B.lst 3 (List.map I r.bads), B.lst 3 (List.map I r.cons), B.box [V.d (D.int IntKind.i64 r.most), V.arr 2, V.arr 3, V.arr 4, V.arr 5, V.arr 6]]⟩) (Ex.exit 4) (Hm r l a1 b1 c1 (List.map I r.bads) (List.map I r.cons) []),
   GoesL Try.prog (loopOf Try.prog 11 3) (⟨mk 137 [(1, V.d (D.sl (List.map I l))), (4, V.ptr 1 0), (5, V.ptr 7 0), (11, V.d (D.int IntKind.i64 0))] [], [B.box [V.d (D.int IntKind.i64 r.most), V.d (D.sl (List.map I r.ins)), V.d (D.sl (List.map Df.d r.lats)), V.d (D.sl (List.map Df.d r.ands)), V.d (D.sl (List.map I r.bads)), V.d (D.sl (List.map I r.cons))], B.box [V.d (D.int IntKind.i64 0), V.emp true, V.emp true, V.emp true, V.emp true, V.emp true], B.lst 3 a1, B.lst 45 b1, B.lst 45 c1, B.lst 3 (List.map I r.bads), B.lst 3 (List.map I r.cons), B.box [V.d (D.int IntKind.i64 r.most), V.arr 2, V.arr 3, V.arr 4, V.arr 5, V.arr 6]]⟩) (Ex.exit 6) (Hm r l a1 b1 c1 d1 (List.map I r.cons) []),
   GoesL Try.prog (loopOf Try.prog 11 4) (⟨mk 137 [(1, V.d (D.sl (List.map I l))), (4, V.ptr 1 0), (5, V.ptr 7 0), (12, V.d (D.int IntKind.i64 0))] [], [B.box [V.d (D.int IntKind.i64 r.most), V.d (D.sl (List.map I r.ins)), V.d (D.sl (List.map Df.d r.lats)), V.d (D.sl (List.map Df.d r.ands)), V.d (D.sl (List.map I r.bads)), V.d (D.sl (List.map I r.cons))], B.box [V.d (D.int IntKind.i64 0), V.emp true, V.emp true, V.emp true, V.emp true, V.emp true], B.lst 3 a1, B.lst 45 b1, B.lst 45 c1, B.lst 3 d1, B.lst 3 (List.map I r.cons), B.box [V.d (D.int IntKind.i64 r.most), V.arr 2, V.arr 3, V.arr 4, V.arr 5, V.arr 6]]⟩) (Ex.exit 8) (Hm r l a1 b1 c1 d1 e1 [])]) := by kernel_rfl
def Ho (r : Rw) (ps : List (Int × Int)) (ll : List D) (sl : List (Nat × V)) : St := ⟨mk 150 ([(1, .d (.sl (ps.map Pr2))), (2, .ptr 0 0), (6, .arr 1)] ++ sl) [], [r.box, .lst 3 ll]⟩
theorem o1 : round Try.prog wr false O (loopOf Try.prog 3 0) (Ho r ps ll [(7, .d (I i))]) [It.br true, It.ix i, It.is (↑(i + 1) : Int)] [1, 2, 6, 7] 2 = some (.normal, Ho r ps (ll.set i (I i)) [(7, .d (I (i + 1 : Nat)))],
  [decide ((↑i : Int) < (↑ll.length : Int)) = true,
   (↑i : Int) = (↑i : Int) ∧ i < ll.length,
   IntKind.i64.wrap ((↑i : Int) + 1) = (↑(i + 1) : Int)]) := by kernel_rfl
theorem o2 : round Try.prog wr false O (loopOf Try.prog 3 0) (Ho r ps ll [(7, .d (I i))]) [It.br false] [1, 2, 6] 2 = some (.exit 0, Ho r ps ll [],
  [decide ((↑i : Int) < (↑ll.length : Int)) = false]) := by kernel_rfl
theorem o3 : round Try.prog wr false O (loopOf Try.prog 3 1) (Ho r ps ll [(8, .d (I i))]) [It.br true, It.el i (Pr2 (ps.getD i default)), It.el i (Pr2 (ps.getD i default)), It.br true, It.br true, It.br true, It.br true, It.ix (ps.getD i default).snd.toNat, It.el (ps.getD i default).snd.toNat (I p), It.ix (ps.getD i default).fst.toNat, It.el (ps.getD i default).fst.toNat (I q), It.ix (ps.getD i default).fst.toNat, It.ix (ps.getD i default).snd.toNat, It.is (↑(i + 1) : Int)] [1, 2, 6, 8] 2 = some (.normal, Ho r ps ((ll.set (ps.getD i default).1.toNat (I p)).set (ps.getD i default).2.toNat (I q)) [(8, .d (I (i + 1 : Nat)))],
  [decide ((↑i : Int) < (↑(List.map Pr2 ps).length : Int)) = true,
   (↑i : Int) = (↑i : Int) ∧ (List.map Pr2 ps)[i]? = some (Pr2 (ps.getD i default)),
   (↑i : Int) = (↑i : Int) ∧ (List.map Pr2 ps)[i]? = some (Pr2 (ps.getD i default)),
   decide ((ps.getD i default).fst ≥ 1) = true,
   decide ((ps.getD i default).snd ≥ 1) = true,
   decide ((ps.getD i default).fst ≤ r.most) = true,
   decide ((ps.getD i default).snd ≤ r.most) = true,
   (ps.getD i default).snd = (↑(ps.getD i default).snd.toNat : Int) ∧ (ps.getD i default).snd.toNat < ll.length,
   ll[(ps.getD i default).snd.toNat]? = some (I p),
   (ps.getD i default).fst = (↑(ps.getD i default).fst.toNat : Int) ∧ (ps.getD i default).fst.toNat < ll.length,
   ll[(ps.getD i default).fst.toNat]? = some (I q),
   (ps.getD i default).fst = (↑(ps.getD i default).fst.toNat : Int) ∧ (ps.getD i default).fst.toNat < ll.length,
   (ps.getD i default).snd = (↑(ps.getD i default).snd.toNat : Int) ∧ (ps.getD i default).snd.toNat < (ll.set (ps.getD i default).fst.toNat (I p)).length,
   IntKind.i64.wrap ((↑i : Int) + 1) = (↑(i + 1) : Int)]) := by kernel_rfl
theorem o4 : round Try.prog wr false O (loopOf Try.prog 3 1) (Ho r ps ll [(8, .d (I i))]) [It.br true, It.el i (Pr2 (ps.getD i default)), It.el i (Pr2 (ps.getD i default)), It.br true, It.br true, It.br true, It.br false, It.is (↑(i + 1) : Int)] [1, 2, 6, 8] 2 = some (.normal, Ho r ps ll [(8, .d (I (i + 1 : Nat)))],
  [decide ((↑i : Int) < (↑(List.map Pr2 ps).length : Int)) = true,
   (↑i : Int) = (↑i : Int) ∧ (List.map Pr2 ps)[i]? = some (Pr2 (ps.getD i default)),
   (↑i : Int) = (↑i : Int) ∧ (List.map Pr2 ps)[i]? = some (Pr2 (ps.getD i default)),
   decide ((ps.getD i default).fst ≥ 1) = true,
   decide ((ps.getD i default).snd ≥ 1) = true,
   decide ((ps.getD i default).fst ≤ r.most) = true,
   decide ((ps.getD i default).snd ≤ r.most) = false,
   IntKind.i64.wrap ((↑i : Int) + 1) = (↑(i + 1) : Int)]) := by kernel_rfl
theorem o5 : round Try.prog wr false O (loopOf Try.prog 3 1) (Ho r ps ll [(8, .d (I i))]) [It.br true, It.el i (Pr2 (ps.getD i default)), It.el i (Pr2 (ps.getD i default)), It.br true, It.br true, It.br false, It.is (↑(i + 1) : Int)] [1, 2, 6, 8] 2 = some (.normal, Ho r ps ll [(8, .d (I (i + 1 : Nat)))],
  [decide ((↑i : Int) < (↑(List.map Pr2 ps).length : Int)) = true,
   (↑i : Int) = (↑i : Int) ∧ (List.map Pr2 ps)[i]? = some (Pr2 (ps.getD i default)),
   (↑i : Int) = (↑i : Int) ∧ (List.map Pr2 ps)[i]? = some (Pr2 (ps.getD i default)),
   decide ((ps.getD i default).fst ≥ 1) = true,
   decide ((ps.getD i default).snd ≥ 1) = true,
   decide ((ps.getD i default).fst ≤ r.most) = false,
   IntKind.i64.wrap ((↑i : Int) + 1) = (↑(i + 1) : Int)]) := by kernel_rfl
theorem o6 : round Try.prog wr false O (loopOf Try.prog 3 1) (Ho r ps ll [(8, .d (I i))]) [It.br true, It.el i (Pr2 (ps.getD i default)), It.el i (Pr2 (ps.getD i default)), It.br true, It.br false, It.is (↑(i + 1) : Int)] [1, 2, 6, 8] 2 = some (.normal, Ho r ps ll [(8, .d (I (i + 1 : Nat)))],
  [decide ((↑i : Int) < (↑(List.map Pr2 ps).length : Int)) = true,
   (↑i : Int) = (↑i : Int) ∧ (List.map Pr2 ps)[i]? = some (Pr2 (ps.getD i default)),
   (↑i : Int) = (↑i : Int) ∧ (List.map Pr2 ps)[i]? = some (Pr2 (ps.getD i default)),
   decide ((ps.getD i default).fst ≥ 1) = true,
   decide ((ps.getD i default).snd ≥ 1) = false,
   IntKind.i64.wrap ((↑i : Int) + 1) = (↑(i + 1) : Int)]) := by kernel_rfl
theorem o7 : round Try.prog wr false O (loopOf Try.prog 3 1) (Ho r ps ll [(8, .d (I i))]) [It.br true, It.el i (Pr2 (ps.getD i default)), It.el i (Pr2 (ps.getD i default)), It.br false, It.is (↑(i + 1) : Int)] [1, 2, 6, 8] 2 = some (.normal, Ho r ps ll [(8, .d (I (i + 1 : Nat)))],
  [decide ((↑i : Int) < (↑(List.map Pr2 ps).length : Int)) = true,
   (↑i : Int) = (↑i : Int) ∧ (List.map Pr2 ps)[i]? = some (Pr2 (ps.getD i default)),
   (↑i : Int) = (↑i : Int) ∧ (List.map Pr2 ps)[i]? = some (Pr2 (ps.getD i default)),
   decide ((ps.getD i default).fst ≥ 1) = false,
   IntKind.i64.wrap ((↑i : Int) + 1) = (↑(i + 1) : Int)]) := by kernel_rfl
theorem o8 : round Try.prog wr false O (loopOf Try.prog 3 1) (Ho r ps ll [(8, .d (I i))]) [It.br false] [1, 2, 6] 2 = some (.exit 2, Ho r ps ll [],
  [decide ((↑i : Int) < (↑(List.map Pr2 ps).length : Int)) = false]) := by kernel_rfl
def ans (c : Ci) (g : List Int) (e : Int) : V := .tup [.d c.d, .d (L g), .d (I e)]
def Hf (r : Rw) (ps : List (Int × Int)) (l1 : List Int) : St := ⟨mk 150 [(1, .d (.sl (ps.map Pr2))), (2, .ptr 0 0), (6, .d (L l1))] [], [r.box, .dead]⟩
theorem frzHo (r : Rw) (ps : List (Int × Int)) (l1 : List Int) : Ab.freeze 1 (Ho r ps (l1.map I) []) = Hf r ps l1 := by kernel_rfl
theorem q1  : callX Try.prog wr false O 3 [.d r.d, .d (.sl (ps.map Pr2))] [] [It.icall [] (V.d (D.bool true)) [], It.icall [] (V.d (D.bool true)) []] = some (V.d (D.bool true), [],
  [ICall Try.prog 7 [V.d (D.agg [I r.most, L r.ins, D.sl (List.map Df.d r.lats), D.sl (List.map Df.d r.ands), L r.bads, L r.cons])] [] (V.d (D.bool true)) [],
   ICall Try.prog 8 [] [] (V.d (D.bool true)) []]) := by kernel_rfl
theorem q2  : callX Try.prog wr false O 3 [.d r.d, .d (.sl (ps.map Pr2))] [] [It.icall [] (V.d (D.bool false)) [], It.br true, It.icall [] (V.d (D.bool true)) []] = some (V.d (D.bool true), [],
  [ICall Try.prog 7 [V.d (D.agg [I r.most, L r.ins, D.sl (List.map Df.d r.lats), D.sl (List.map Df.d r.ands), L r.bads, L r.cons])] [] (V.d (D.bool false)) [],
   decide ((↑(List.map Pr2 ps).length : Int) > 20) = true,
   ICall Try.prog 8 [] [] (V.d (D.bool true)) []]) := by kernel_rfl
theorem q3  : callX Try.prog wr false O 3 [.d r.d, .d (.sl (ps.map Pr2))] [] [It.icall [] (V.d (D.bool false)) [], It.br false, It.br true, It.icall [] (V.d (D.bool true)) []] = some (V.d (D.bool true), [],
  [ICall Try.prog 7 [V.d (D.agg [I r.most, L r.ins, D.sl (List.map Df.d r.lats), D.sl (List.map Df.d r.ands), L r.bads, L r.cons])] [] (V.d (D.bool false)) [],
   decide ((↑(List.map Pr2 ps).length : Int) > 20) = false,
   decide (r.most < 0) = true,
   ICall Try.prog 8 [] [] (V.d (D.bool true)) []]) := by kernel_rfl
theorem q4  : callX Try.prog wr false O 3 [.d r.d, .d (.sl (ps.map Pr2))] [] [It.icall [] (V.d (D.bool false)) [], It.br false, It.br false, It.br true, It.icall [] (V.d (D.bool true)) []] = some (V.d (D.bool true), [],
  [ICall Try.prog 7 [V.d (D.agg [I r.most, L r.ins, D.sl (List.map Df.d r.lats), D.sl (List.map Df.d r.ands), L r.bads, L r.cons])] [] (V.d (D.bool false)) [],
   decide ((↑(List.map Pr2 ps).length : Int) > 20) = false,
   decide (r.most < 0) = false,
   decide (r.most > 1000) = true,
   ICall Try.prog 8 [] [] (V.d (D.bool true)) []]) := by kernel_rfl
theorem q5  : callX Try.prog wr false O 3 [.d r.d, .d (.sl (ps.map Pr2))] [] [It.icall [] (V.d (D.bool false)) [], It.br false, It.br false, It.br false, It.icall [] (V.d (I ee)) [], It.br true, It.br true, It.br true, It.br true, It.icall [] (V.d (D.bool true)) []] = some (V.d (D.bool true), [],
  [ICall Try.prog 7 [V.d (D.agg [I r.most, L r.ins, D.sl (List.map Df.d r.lats), D.sl (List.map Df.d r.ands), L r.bads, L r.cons])] [] (V.d (D.bool false)) [],
   decide ((↑(List.map Pr2 ps).length : Int) > 20) = false,
   decide (r.most < 0) = false,
   decide (r.most > 1000) = false,
   ICall Try.prog 9 [V.d (D.agg [I r.most, L r.ins, D.sl (List.map Df.d r.lats), D.sl (List.map Df.d r.ands), L r.bads, L r.cons])] [] (V.d (I ee)) [],
   (ee != 0) = true,
   (ee != 41) = true,
   (ee != 43) = true,
   (ee != 46) = true,
   ICall Try.prog 8 [] [] (V.d (D.bool true)) []]) := by kernel_rfl
theorem q6  : callX Try.prog wr false O 3 [.d r.d, .d (.sl (ps.map Pr2))] [] [It.icall [] (V.d (D.bool false)) [], It.br false, It.br false, It.br false, It.icall [] (V.d (I ee)) [], It.br true, It.br true, It.br true, It.br false, It.is (r.most + 1), It.len (r.most + 1).toNat, It.lp [1, 2, 6, 7] (Ex.exit 0) (Ho r ps ll []), It.lp [1, 2, 6, 8] (Ex.exit 2) (Hf r ps l1), It.icall [] (ans cc g ee) [], It.icall [] (V.d r2.d) [], It.icall [] (ans cc g2 ee) [], It.br false, It.icall [] (V.d (D.bool true)) [], It.br false, It.br true, It.icall [] (V.d (D.bool true)) []] = some (V.d (D.bool true), [],
  [ICall Try.prog 7 [V.d (D.agg [I r.most, L r.ins, D.sl (List.map Df.d r.lats), D.sl (List.map Df.d r.ands), L r.bads, L r.cons])] [] (V.d (D.bool false)) [],
   decide ((↑(List.map Pr2 ps).length : Int) > 20) = false,
   decide (r.most < 0) = false,
   decide (r.most > 1000) = false,
   ICall Try.prog 9 [V.d (D.agg [I r.most, L r.ins, D.sl (List.map Df.d r.lats), D.sl (List.map Df.d r.ands), L r.bads, L r.cons])] [] (V.d (I ee)) [],
   (ee != 0) = true,
   (ee != 41) = true,
   (ee != 43) = true,
   (ee != 46) = false,
   IntKind.i64.wrap (r.most + 1) = r.most + 1,
   r.most + 1 = (↑(r.most + 1).toNat : Int) ∧ r.most + 1 = (↑(r.most + 1).toNat : Int) ∧ (r.most + 1).toNat ≤ maxItems,
   GoesL Try.prog (loopOf Try.prog 3 0) (⟨mk 150 [(1, V.d (D.sl (List.map Pr2 ps))), (2, V.ptr 0 0), (6, V.arr 1), (7, V.d (D.int IntKind.i64 0))] [], [B.box [V.d (D.int IntKind.i64 r.most), V.d (D.sl (List.map I r.ins)), V.d (D.sl (List.map Df.d r.lats)), V.d (D.sl (List.map Df.d r.ands)), V.d (D.sl (List.map I r.bads)), V.d (D.sl (List.map I r.cons))], B.lst 3 (List.replicate (r.most + 1).toNat (D.int IntKind.i64 0))]⟩) (Ex.exit 0) (Ho r ps ll []),
   GoesL Try.prog (loopOf Try.prog 3 1) (⟨mk 150 [(1, V.d (D.sl (List.map Pr2 ps))), (2, V.ptr 0 0), (6, V.arr 1), (8, V.d (D.int IntKind.i64 0))] [], [B.box [V.d (D.int IntKind.i64 r.most), V.d (D.sl (List.map I r.ins)), V.d (D.sl (List.map Df.d r.lats)), V.d (D.sl (List.map Df.d r.ands)), V.d (D.sl (List.map I r.bads)), V.d (D.sl (List.map I r.cons))], B.lst 3 ll]⟩) (Ex.exit 2) (Hf r ps l1),
   ICall Try.prog 10 [V.d (D.agg [I r.most, L r.ins, D.sl (List.map Df.d r.lats), D.sl (List.map Df.d r.ands), L r.bads, L r.cons])] [] (ans cc g ee) [],
   ICall Try.prog 11 [V.d (D.agg [I r.most, L r.ins, D.sl (List.map Df.d r.lats), D.sl (List.map Df.d r.ands), L r.bads, L r.cons]), V.d (L l1)] [] (V.d r2.d) [],
   ICall Try.prog 10 [V.d r2.d] [] (ans cc g2 ee) [],
   (ee != ee) = false,
   ICall Try.prog 12 [V.d (D.agg [I cc.ins, D.sl (List.map Lt.d cc.lats), D.sl (List.map An.d cc.ands), L cc.bads, L cc.cons]), V.d (D.agg [I cc.ins, D.sl (List.map Lt.d cc.lats), D.sl (List.map An.d cc.ands), L cc.bads, L cc.cons])] [] (V.d (D.bool true)) [],
   (!true) = false,
   (ee != 0) = true,
   ICall Try.prog 8 [] [] (V.d (D.bool true)) []]) := by kernel_rfl
theorem q7  : callX Try.prog wr false O 3 [.d r.d, .d (.sl (ps.map Pr2))] [] [It.icall [] (V.d (D.bool false)) [], It.br false, It.br false, It.br false, It.icall [] (V.d (I ee)) [], It.br true, It.br true, It.br false, It.is (r.most + 1), It.len (r.most + 1).toNat, It.lp [1, 2, 6, 7] (Ex.exit 0) (Ho r ps ll []), It.lp [1, 2, 6, 8] (Ex.exit 2) (Hf r ps l1), It.icall [] (ans cc g ee) [], It.icall [] (V.d r2.d) [], It.icall [] (ans cc g2 ee) [], It.br false, It.icall [] (V.d (D.bool true)) [], It.br false, It.br true, It.icall [] (V.d (D.bool true)) []] = some (V.d (D.bool true), [],
  [ICall Try.prog 7 [V.d (D.agg [I r.most, L r.ins, D.sl (List.map Df.d r.lats), D.sl (List.map Df.d r.ands), L r.bads, L r.cons])] [] (V.d (D.bool false)) [],
   decide ((↑(List.map Pr2 ps).length : Int) > 20) = false,
   decide (r.most < 0) = false,
   decide (r.most > 1000) = false,
   ICall Try.prog 9 [V.d (D.agg [I r.most, L r.ins, D.sl (List.map Df.d r.lats), D.sl (List.map Df.d r.ands), L r.bads, L r.cons])] [] (V.d (I ee)) [],
   (ee != 0) = true,
   (ee != 41) = true,
   (ee != 43) = false,
   IntKind.i64.wrap (r.most + 1) = r.most + 1,
   r.most + 1 = (↑(r.most + 1).toNat : Int) ∧ r.most + 1 = (↑(r.most + 1).toNat : Int) ∧ (r.most + 1).toNat ≤ maxItems,
   GoesL Try.prog (loopOf Try.prog 3 0) (⟨mk 150 [(1, V.d (D.sl (List.map Pr2 ps))), (2, V.ptr 0 0), (6, V.arr 1), (7, V.d (D.int IntKind.i64 0))] [], [B.box [V.d (D.int IntKind.i64 r.most), V.d (D.sl (List.map I r.ins)), V.d (D.sl (List.map Df.d r.lats)), V.d (D.sl (List.map Df.d r.ands)), V.d (D.sl (List.map I r.bads)), V.d (D.sl (List.map I r.cons))], B.lst 3 (List.replicate (r.most + 1).toNat (D.int IntKind.i64 0))]⟩) (Ex.exit 0) (Ho r ps ll []),
   GoesL Try.prog (loopOf Try.prog 3 1) (⟨mk 150 [(1, V.d (D.sl (List.map Pr2 ps))), (2, V.ptr 0 0), (6, V.arr 1), (8, V.d (D.int IntKind.i64 0))] [], [B.box [V.d (D.int IntKind.i64 r.most), V.d (D.sl (List.map I r.ins)), V.d (D.sl (List.map Df.d r.lats)), V.d (D.sl (List.map Df.d r.ands)), V.d (D.sl (List.map I r.bads)), V.d (D.sl (List.map I r.cons))], B.lst 3 ll]⟩) (Ex.exit 2) (Hf r ps l1),
   ICall Try.prog 10 [V.d (D.agg [I r.most, L r.ins, D.sl (List.map Df.d r.lats), D.sl (List.map Df.d r.ands), L r.bads, L r.cons])] [] (ans cc g ee) [],
   ICall Try.prog 11 [V.d (D.agg [I r.most, L r.ins, D.sl (List.map Df.d r.lats), D.sl (List.map Df.d r.ands), L r.bads, L r.cons]), V.d (L l1)] [] (V.d r2.d) [],
   ICall Try.prog 10 [V.d r2.d] [] (ans cc g2 ee) [],
   (ee != ee) = false,
   ICall Try.prog 12 [V.d (D.agg [I cc.ins, D.sl (List.map Lt.d cc.lats), D.sl (List.map An.d cc.ands), L cc.bads, L cc.cons]), V.d (D.agg [I cc.ins, D.sl (List.map Lt.d cc.lats), D.sl (List.map An.d cc.ands), L cc.bads, L cc.cons])] [] (V.d (D.bool true)) [],
   (!true) = false,
   (ee != 0) = true,
   ICall Try.prog 8 [] [] (V.d (D.bool true)) []]) := by kernel_rfl
theorem q8  : callX Try.prog wr false O 3 [.d r.d, .d (.sl (ps.map Pr2))] [] [It.icall [] (V.d (D.bool false)) [], It.br false, It.br false, It.br false, It.icall [] (V.d (I ee)) [], It.br true, It.br false, It.is (r.most + 1), It.len (r.most + 1).toNat, It.lp [1, 2, 6, 7] (Ex.exit 0) (Ho r ps ll []), It.lp [1, 2, 6, 8] (Ex.exit 2) (Hf r ps l1), It.icall [] (ans cc g ee) [], It.icall [] (V.d r2.d) [], It.icall [] (ans cc g2 ee) [], It.br false, It.icall [] (V.d (D.bool true)) [], It.br false, It.br true, It.icall [] (V.d (D.bool true)) []] = some (V.d (D.bool true), [],
  [ICall Try.prog 7 [V.d (D.agg [I r.most, L r.ins, D.sl (List.map Df.d r.lats), D.sl (List.map Df.d r.ands), L r.bads, L r.cons])] [] (V.d (D.bool false)) [],
   decide ((↑(List.map Pr2 ps).length : Int) > 20) = false,
   decide (r.most < 0) = false,
   decide (r.most > 1000) = false,
   ICall Try.prog 9 [V.d (D.agg [I r.most, L r.ins, D.sl (List.map Df.d r.lats), D.sl (List.map Df.d r.ands), L r.bads, L r.cons])] [] (V.d (I ee)) [],
   (ee != 0) = true,
   (ee != 41) = false,
   IntKind.i64.wrap (r.most + 1) = r.most + 1,
   r.most + 1 = (↑(r.most + 1).toNat : Int) ∧ r.most + 1 = (↑(r.most + 1).toNat : Int) ∧ (r.most + 1).toNat ≤ maxItems,
   GoesL Try.prog (loopOf Try.prog 3 0) (⟨mk 150 [(1, V.d (D.sl (List.map Pr2 ps))), (2, V.ptr 0 0), (6, V.arr 1), (7, V.d (D.int IntKind.i64 0))] [], [B.box [V.d (D.int IntKind.i64 r.most), V.d (D.sl (List.map I r.ins)), V.d (D.sl (List.map Df.d r.lats)), V.d (D.sl (List.map Df.d r.ands)), V.d (D.sl (List.map I r.bads)), V.d (D.sl (List.map I r.cons))], B.lst 3 (List.replicate (r.most + 1).toNat (D.int IntKind.i64 0))]⟩) (Ex.exit 0) (Ho r ps ll []),
   GoesL Try.prog (loopOf Try.prog 3 1) (⟨mk 150 [(1, V.d (D.sl (List.map Pr2 ps))), (2, V.ptr 0 0), (6, V.arr 1), (8, V.d (D.int IntKind.i64 0))] [], [B.box [V.d (D.int IntKind.i64 r.most), V.d (D.sl (List.map I r.ins)), V.d (D.sl (List.map Df.d r.lats)), V.d (D.sl (List.map Df.d r.ands)), V.d (D.sl (List.map I r.bads)), V.d (D.sl (List.map I r.cons))], B.lst 3 ll]⟩) (Ex.exit 2) (Hf r ps l1),
   ICall Try.prog 10 [V.d (D.agg [I r.most, L r.ins, D.sl (List.map Df.d r.lats), D.sl (List.map Df.d r.ands), L r.bads, L r.cons])] [] (ans cc g ee) [],
   ICall Try.prog 11 [V.d (D.agg [I r.most, L r.ins, D.sl (List.map Df.d r.lats), D.sl (List.map Df.d r.ands), L r.bads, L r.cons]), V.d (L l1)] [] (V.d r2.d) [],
   ICall Try.prog 10 [V.d r2.d] [] (ans cc g2 ee) [],
   (ee != ee) = false,
   ICall Try.prog 12 [V.d (D.agg [I cc.ins, D.sl (List.map Lt.d cc.lats), D.sl (List.map An.d cc.ands), L cc.bads, L cc.cons]), V.d (D.agg [I cc.ins, D.sl (List.map Lt.d cc.lats), D.sl (List.map An.d cc.ands), L cc.bads, L cc.cons])] [] (V.d (D.bool true)) [],
   (!true) = false,
   (ee != 0) = true,
   ICall Try.prog 8 [] [] (V.d (D.bool true)) []]) := by kernel_rfl
theorem q9  : callX Try.prog wr false O 3 [.d r.d, .d (.sl (ps.map Pr2))] [] [It.icall [] (V.d (D.bool false)) [], It.br false, It.br false, It.br false, It.icall [] (V.d (I ee)) [], It.br false, It.is (r.most + 1), It.len (r.most + 1).toNat, It.lp [1, 2, 6, 7] (Ex.exit 0) (Ho r ps ll []), It.lp [1, 2, 6, 8] (Ex.exit 2) (Hf r ps l1), It.icall [] (ans cc g ee) [], It.icall [] (V.d r2.d) [], It.icall [] (ans cc g2 ee) [], It.br false, It.icall [] (V.d (D.bool true)) [], It.br false, It.br false, It.is (r.most + 1), It.br true, It.icall [] (V.d (D.bool true)) []] = some (V.d (D.bool true), [],
  [ICall Try.prog 7 [V.d (D.agg [I r.most, L r.ins, D.sl (List.map Df.d r.lats), D.sl (List.map Df.d r.ands), L r.bads, L r.cons])] [] (V.d (D.bool false)) [],
   decide ((↑(List.map Pr2 ps).length : Int) > 20) = false,
   decide (r.most < 0) = false,
   decide (r.most > 1000) = false,
   ICall Try.prog 9 [V.d (D.agg [I r.most, L r.ins, D.sl (List.map Df.d r.lats), D.sl (List.map Df.d r.ands), L r.bads, L r.cons])] [] (V.d (I ee)) [],
   (ee != 0) = false,
   IntKind.i64.wrap (r.most + 1) = r.most + 1,
   r.most + 1 = (↑(r.most + 1).toNat : Int) ∧ r.most + 1 = (↑(r.most + 1).toNat : Int) ∧ (r.most + 1).toNat ≤ maxItems,
   GoesL Try.prog (loopOf Try.prog 3 0) (⟨mk 150 [(1, V.d (D.sl (List.map Pr2 ps))), (2, V.ptr 0 0), (6, V.arr 1), (7, V.d (D.int IntKind.i64 0))] [], [B.box [V.d (D.int IntKind.i64 r.most), V.d (D.sl (List.map I r.ins)), V.d (D.sl (List.map Df.d r.lats)), V.d (D.sl (List.map Df.d r.ands)), V.d (D.sl (List.map I r.bads)), V.d (D.sl (List.map I r.cons))], B.lst 3 (List.replicate (r.most + 1).toNat (D.int IntKind.i64 0))]⟩) (Ex.exit 0) (Ho r ps ll []),
   GoesL Try.prog (loopOf Try.prog 3 1) (⟨mk 150 [(1, V.d (D.sl (List.map Pr2 ps))), (2, V.ptr 0 0), (6, V.arr 1), (8, V.d (D.int IntKind.i64 0))] [], [B.box [V.d (D.int IntKind.i64 r.most), V.d (D.sl (List.map I r.ins)), V.d (D.sl (List.map Df.d r.lats)), V.d (D.sl (List.map Df.d r.ands)), V.d (D.sl (List.map I r.bads)), V.d (D.sl (List.map I r.cons))], B.lst 3 ll]⟩) (Ex.exit 2) (Hf r ps l1),
   ICall Try.prog 10 [V.d (D.agg [I r.most, L r.ins, D.sl (List.map Df.d r.lats), D.sl (List.map Df.d r.ands), L r.bads, L r.cons])] [] (ans cc g ee) [],
   ICall Try.prog 11 [V.d (D.agg [I r.most, L r.ins, D.sl (List.map Df.d r.lats), D.sl (List.map Df.d r.ands), L r.bads, L r.cons]), V.d (L l1)] [] (V.d r2.d) [],
   ICall Try.prog 10 [V.d r2.d] [] (ans cc g2 ee) [],
   (ee != ee) = false,
   ICall Try.prog 12 [V.d (D.agg [I cc.ins, D.sl (List.map Lt.d cc.lats), D.sl (List.map An.d cc.ands), L cc.bads, L cc.cons]), V.d (D.agg [I cc.ins, D.sl (List.map Lt.d cc.lats), D.sl (List.map An.d cc.ands), L cc.bads, L cc.cons])] [] (V.d (D.bool true)) [],
   (!true) = false,
   (ee != 0) = false,
   IntKind.i64.wrap (r.most + 1) = r.most + 1,
   ((↑(List.map I g2).length : Int) == r.most + 1) = true,
   ICall Try.prog 8 [] [] (V.d (D.bool true)) []]) := by kernel_rfl
end
end Go.Proofs.Ytbbefbgomdmldaa.Sy.Law
/- A raw circuit whose variables have other numbers has the same check and the same circuit. -/
namespace Go.Proofs.Ytbbefbgomdmldaa.Pl
open Go Go.Proofs.Ytbbefbgomdmldaa.Sy
set_option linter.unusedVariables false
set_option linter.unusedSimpArgs false

/-- A row of numbers, all different, with zero in its place. -/
structure Pm (m : Nat) (l : List Int) : Prop where
  len : l.length = m + 1
  bd : ∀ u, u ≤ m → 0 ≤ gt l u ∧ gt l u ≤ m
  zero : gt l 0 = 0
  inj : ∀ u v, u ≤ m → v ≤ m → gt l u = gt l v → u = v
def fv (l : List Int) (u : Nat) : Nat := (gt l u).toNat
section
variable {m : Nat} {l : List Int}
theorem Pm.fv_le (h : Pm m l) {u : Nat} (hu : u ≤ m) : fv l u ≤ m ∧ gt l u = (fv l u : Int) := by
  have := h.bd u hu
  unfold fv; omega
theorem Pm.fv_inj (h : Pm m l) {u v : Nat} (hu : u ≤ m) (hv : v ≤ m) : fv l u = fv l v ↔ u = v := by
  constructor
  · intro e
    have h1 := h.fv_le hu
    have h2 := h.fv_le hv
    exact h.inj u v hu hv (by omega)
  · rintro rfl; rfl
theorem Pm.fv_zero (h : Pm m l) : fv l 0 = 0 := by unfold fv; rw [h.zero]; rfl
theorem Pm.fv_iff (h : Pm m l) {u : Nat} (hu : u ≤ m) : fv l u = 0 ↔ u = 0 := by
  have := h.fv_inj hu (Nat.zero_le m)
  rwa [h.fv_zero] at this
theorem Pm.start (m : Nat) : Pm m ((List.range (m + 1)).map (fun k : Nat => (k : Int))) := by
  have e : ∀ u, u ≤ m → gt ((List.range (m + 1)).map (fun k : Nat => (k : Int))) u = (u : Int) := fun u hu => by
    rw [gt_get _ _ (by simp; omega)]; simp
  exact ⟨by simp, fun u hu => by rw [e u hu]; omega, e 0 (by omega), fun u v hu hv h => by rw [e u hu, e v hv] at h; omega⟩
theorem Pm.swap (h : Pm m l) {a b : Nat} (ha : 1 ≤ a ∧ a ≤ m) (hb : 1 ≤ b ∧ b ≤ m) : Pm m ((l.set a (gt l b)).set b (gt l a)) := by
  have hl := h.len
  have e : ∀ u, gt ((l.set a (gt l b)).set b (gt l a)) u = gt l (if u = b then a else if u = a then b else u) := fun u => by
    rw [gt_set _ _ _ _ (by rw [List.length_set]; omega), gt_set _ _ _ _ (by omega)]
    by_cases h1 : u = b
    · rw [if_pos h1, if_pos h1]
    · rw [if_neg h1, if_neg h1]
      by_cases h2 : u = a
      · rw [if_pos h2, if_pos h2]
      · rw [if_neg h2, if_neg h2]
  have hle : ∀ u, u ≤ m → (if u = b then a else if u = a then b else u) ≤ m := fun u hu => by
    split
    · omega
    · split <;> omega
  refine ⟨by simpa using hl, fun u hu => ?_, ?_, fun u v hu hv he => ?_⟩
  · rw [e]; exact h.bd _ (hle u hu)
  · rw [e, if_neg (by omega), if_neg (by omega)]; exact h.zero
  · rw [e, e] at he
    have := h.inj _ _ (hle u hu) (hle v hv) he
    by_cases u1 : u = b
    · rw [if_pos u1] at this
      by_cases v1 : v = b
      · omega
      · rw [if_neg v1] at this
        by_cases v2 : v = a
        · rw [if_pos v2] at this; omega
        · rw [if_neg v2] at this; omega
    · rw [if_neg u1] at this
      by_cases u2 : u = a
      · rw [if_pos u2] at this
        by_cases v1 : v = b
        · rw [if_pos v1] at this; omega
        · rw [if_neg v1] at this
          by_cases v2 : v = a
          · omega
          · rw [if_neg v2] at this; omega
      · rw [if_neg u2] at this
        by_cases v1 : v = b
        · rw [if_pos v1] at this; omega
        · rw [if_neg v1] at this
          by_cases v2 : v = a
          · rw [if_pos v2] at this; omega
          · rw [if_neg v2] at this; omega

theorem told_var (h : Pm m l) {x : Int} (hx : 0 ≤ x ∧ x ≤ 2 * (m : Int) + 1) : varN (told l x) = fv l (varN x) ∧ told l x % 2 = x % 2 ∧ 0 ≤ told l x ∧ told l x ≤ 2 * (m : Int) + 1 := by
  have hv : varN x ≤ m := by unfold varN; omega
  have := h.fv_le hv
  have := h.bd _ hv
  unfold told
  refine ⟨?_, by omega, by omega, by omega⟩
  have : varN (2 * gt l (varN x) + x % 2) = (gt l (varN x)).toNat := by
    generalize gt l (varN x) = q at *
    unfold varN; omega
  rw [this]; rfl
def movD (l : List Int) (d : Df) : Df := ⟨told l d.lit, told l d.a, d.b⟩
def movA (l : List Int) (d : Df) : Df := ⟨told l d.lit, told l d.a, told l d.b⟩
def movR (l : List Int) (r : Rw) : Rw := ⟨r.most, r.ins.map (told l), r.lats.map (movD l), r.ands.map (movA l), r.bads.map (told l), r.cons.map (told l)⟩

theorem own_mov (l l1 : List Int) (l2 l3 : List Df) : ownL (l1.map (told l)) (l2.map (movD l)) (l3.map (movA l)) = (ownL l1 l2 l3).map (told l) := by
  unfold ownL
  simp only [List.map_append, List.map_map]; rfl
theorem use_mov (l : List Int) (l2 l3 : List Df) (l4 l5 : List Int) : useL (l2.map (movD l)) (l3.map (movA l)) (l4.map (told l)) (l5.map (told l)) = (useL l2 l3 l4 l5).map (told l) := by
  unfold useL
  simp only [List.map_append, List.map_map, List.flatMap_map, List.map_flatMap]; rfl

theorem nodup_map_iff {vs : List Nat} {f : Nat → Nat} (hf : ∀ u ∈ vs, ∀ v ∈ vs, f u = f v → u = v) : (vs.map f).Nodup ↔ vs.Nodup := by
  rw [List.Nodup, List.pairwise_map]
  constructor
  · intro h; exact h.imp (fun hne e => hne (by rw [e]))
  · intro h; exact h.imp_of_mem (fun ha hb hne e => hne (hf _ ha _ hb e))
section order
variable {ands : List Df}
theorem rd_mov {i : Nat} (hi : i < ands.length) : rdD (ands.map (movA l)) (i : Int) = movA l (rdD ands (i : Int)) := by
  rw [rdT_get _ i (by simpa using hi), rdT_get _ i hi, List.getElem_map]
/-- The gates' numbers are small. -/
def Sml (m : Nat) (ands : List Df) : Prop := ∀ d ∈ ands, (0 ≤ d.lit ∧ d.lit ≤ 2 * (m : Int) + 1) ∧ (0 ≤ d.a ∧ d.a ≤ 2 * (m : Int) + 1) ∧ (0 ≤ d.b ∧ d.b ≤ 2 * (m : Int) + 1)
theorem vr_mov (h : Pm m l) (hs : Sml m ands) {i : Nat} (hi : i < ands.length) :
    (vr (ands.map (movA l)) i = fv l (vr ands i) ∧ vr ands i ≤ m) ∧ (pa (ands.map (movA l)) i = fv l (pa ands i) ∧ pa ands i ≤ m) ∧ (pb (ands.map (movA l)) i = fv l (pb ands i) ∧ pb ands i ≤ m) := by
  obtain ⟨h1, h2, h3⟩ := hs _ (rdT_mem hi)
  have t1 := (told_var h h1).1
  have t2 := (told_var h h2).1
  have t3 := (told_var h h3).1
  have e := rd_mov (l := l) hi
  refine ⟨⟨?_, ?_⟩, ⟨?_, ?_⟩, ⟨?_, ?_⟩⟩
  · show ((rdD (ands.map (movA l)) (i : Int)).lit / 2).toNat = _
    rw [e]; exact t1
  · show ((rdD ands (i : Int)).lit / 2).toNat ≤ m
    omega
  · show ((rdD (ands.map (movA l)) (i : Int)).a / 2).toNat = _
    rw [e]; exact t2
  · show ((rdD ands (i : Int)).a / 2).toNat ≤ m
    omega
  · show ((rdD (ands.map (movA l)) (i : Int)).b / 2).toNat = _
    rw [e]; exact t3
  · show ((rdD ands (i : Int)).b / 2).toNat ≤ m
    omega
theorem any_range_eq {n : Nat} {p q : Nat → Bool} (h : ∀ i, i < n → p i = q i) : (List.range n).any p = (List.range n).any q := any_eq (fun i hi => h i (List.mem_range.1 hi))
theorem isG_mov (h : Pm m l) (hs : Sml m ands) {u : Nat} (hu : u ≤ m) : isG (ands.map (movA l)) (fv l u) = isG ands u := by
  unfold isG
  rw [List.length_map]
  refine any_range_eq fun i hi => ?_
  obtain ⟨⟨e, hv⟩, -⟩ := vr_mov h hs hi
  rw [e, Bool.eq_iff_iff, beq_iff_eq, beq_iff_eq]
  exact h.fv_inj hv hu
theorem rv_mov (h : Pm m l) (hs : Sml m ands) {done : List Nat} (hd : ∀ i ∈ done, i < ands.length) {u : Nat} (hu : u ≤ m) : rv (ands.map (movA l)) done (fv l u) = rv ands done u := by
  unfold rv
  rw [isG_mov h hs hu]
  congr 1
  refine any_eq fun i hi => ?_
  obtain ⟨⟨e, hv⟩, -⟩ := vr_mov h hs (hd i hi)
  rw [e, Bool.eq_iff_iff, beq_iff_eq, beq_iff_eq]
  exact h.fv_inj hv hu
theorem find_eq {n : Nat} {p q : Nat → Bool} (h : ∀ i, i < n → p i = q i) : (List.range n).find? p = (List.range n).find? q := by
  have key : ∀ xs : List Nat, (∀ i ∈ xs, p i = q i) → xs.find? p = xs.find? q := by
    intro xs
    induction xs with
    | nil => intro _; rfl
    | cons x t ih => intro hx; rw [List.find?_cons, List.find?_cons, hx x List.mem_cons_self, ih (fun i hi => hx i (List.mem_cons_of_mem _ hi))]
  exact key _ (fun i hi => h i (List.mem_range.1 hi))
theorem ord_mov (h : Pm m l) (hs : Sml m ands) (f : Nat) : ∀ done : List Nat, (∀ i ∈ done, i < ands.length) → ordS (ands.map (movA l)) f done = ordS ands f done := by
  induction f with
  | zero => intro done _; rfl
  | succ f ih =>
    intro done hd
    have e : (List.range (ands.map (movA l)).length).find? (nextP (ands.map (movA l)) done) = (List.range ands.length).find? (nextP ands done) := by
      rw [List.length_map]
      refine find_eq fun i hi => ?_
      obtain ⟨-, ⟨e2, h2⟩, e3, h3⟩ := vr_mov h hs hi
      unfold nextP
      rw [e2, e3, rv_mov h hs hd h2, rv_mov h hs hd h3]
    unfold ordS
    rw [e]
    split
    · rfl
    · rename_i i hf
      refine ih _ fun j hj => ?_
      rcases List.mem_append.1 hj with hj | hj
      · exact hd j hj
      · rw [List.mem_singleton.1 hj]; exact List.mem_range.1 (List.mem_of_find?_eq_some hf)
end order
theorem numW_mov (h : Pm m l) (vs : List Nat) : ∀ (x : Nat) (g g' : List Int), (∀ v ∈ vs, v ≤ m) → g.length = m + 1 → g'.length = m + 1 → (∀ u, u ≤ m → gt g' (fv l u) = gt g u) → ∀ u, u ≤ m → gt (numW (vs.map (fv l)) x g') (fv l u) = gt (numW vs x g) u := by
  induction vs with
  | nil => intro x g g' _ _ _ h u hu; exact h u hu
  | cons v t ih =>
    intro x g g' hv hg hg' he u hu
    have hv0 := hv v List.mem_cons_self
    have hf := (h.fv_le hv0).1
    rw [List.map_cons, numW, numW]
    refine ih (x + 1) _ _ (fun w hw => hv w (List.mem_cons_of_mem _ hw)) (by rw [List.length_set]; exact hg) (by rw [List.length_set]; exact hg') (fun w hw => ?_) u hu
    rw [gt_set _ _ _ _ (by omega), gt_set _ _ _ _ (by omega), he w hw]
    by_cases e : w = v
    · subst e; rw [if_pos rfl, if_pos rfl]
    · rw [if_neg e, if_neg (fun e2 => e ((h.fv_inj hw hv0).1 e2))]
end
section
variable {m : Nat} {l : List Int} {l1 : List Int} {l2 l3 : List Df} {l4 l5 : List Int}
theorem sml_of (hN : Num (m : Int) l1 l2 l3 l4 l5) : Sml m l3 := fun d hd => by
  have h1 := hN.own d.lit (by unfold ownL; exact List.mem_append_right _ (List.mem_map_of_mem hd))
  have h2 := hN.use d.a (by unfold useL; exact List.mem_append_right _ (List.mem_flatMap.2 ⟨d, hd, by simp⟩))
  have h3 := hN.use d.b (by unfold useL; exact List.mem_append_right _ (List.mem_flatMap.2 ⟨d, hd, by simp⟩))
  omega
/-- The check does not depend on the numbers of the variables. -/
theorem chk_mov (h : Pm m l) (c : ¬ (m : Int) < 0) (c1 : ¬ manyP (m : Int) l1 l2 l3 l4 l5) (c2 : ¬ badAny (m : Int) l1 l2 l3 l4 l5 = true) :
    chkS (m : Int) (l1.map (told l)) (l2.map (movD l)) (l3.map (movA l)) (l4.map (told l)) (l5.map (told l)) = chkS (m : Int) l1 l2 l3 l4 l5 := by
  have hN := num_of c c1 c2
  have hs := sml_of hN
  have ho : ∀ x ∈ ownL l1 l2 l3, 0 ≤ x ∧ x ≤ 2 * (m : Int) + 1 := fun x hx => by have := hN.own x hx; omega
  have hv : ∀ u ∈ (ownL l1 l2 l3).map varN, 1 ≤ u ∧ u ≤ m := varN_pos (fun x hx => by have := hN.own x hx; omega)
  have m1 : ¬ manyP (m : Int) (l1.map (told l)) (l2.map (movD l)) (l3.map (movA l)) (l4.map (told l)) (l5.map (told l)) := by
    unfold manyP at c1 ⊢; simpa using c1
  have m2 : ¬ badAny (m : Int) (l1.map (told l)) (l2.map (movD l)) (l3.map (movA l)) (l4.map (told l)) (l5.map (told l)) = true := by
    unfold badAny at c2 ⊢
    rw [own_mov, use_mov]
    rw [Bool.or_eq_true, Bool.or_eq_true, not_or, not_or] at c2 ⊢
    refine ⟨⟨fun hc => ?_, fun hc => ?_⟩, ?_⟩
    · obtain ⟨y, hy, hb⟩ := List.any_eq_true.1 hc
      obtain ⟨x, hx, rfl⟩ := List.mem_map.1 hy
      have hx2 := hN.own x hx
      obtain ⟨t1, t2, t3, t4⟩ := told_var h (ho x hx)
      have hp : 1 ≤ varN (told l x) := by
        have h1 := hv _ (List.mem_map_of_mem hx)
        rw [t1]
        have := h.fv_iff h1.2
        omega
      unfold badOwn at hb
      rw [Int.tmod_eq_emod_of_nonneg t3, t2, hx2.2.2] at hb
      simp at hb
      unfold varN at hp
      omega
    · obtain ⟨y, hy, hb⟩ := List.any_eq_true.1 hc
      obtain ⟨x, hx, rfl⟩ := List.mem_map.1 hy
      obtain ⟨t1, t2, t3, t4⟩ := told_var h (hN.use x hx)
      unfold badUse at hb
      simp at hb
      omega
    · rw [List.any_map]; exact c2.2
  unfold chkS
  rw [if_neg c, if_neg m1, if_neg m2, if_neg c, if_neg c1, if_neg c2]
  unfold chkVal
  rw [own_mov, use_mov, List.length_map, ord_mov h hs _ [] (fun i hi => by cases hi)]
  have e1 : ((ownL l1 l2 l3).map (told l)).map varN = ((ownL l1 l2 l3).map varN).map (fv l) := by
    rw [List.map_map, List.map_map]
    exact List.map_congr_left (fun x hx => (told_var h (ho x hx)).1)
  have e2 : (((ownL l1 l2 l3).map (told l)).map varN).Nodup ↔ ((ownL l1 l2 l3).map varN).Nodup := by
    rw [e1]
    exact nodup_map_iff (fun u hu v hv' e => (h.fv_inj (hv u hu).2 (hv v hv').2).1 e)
  have e3 : ((useL l2 l3 l4 l5).map (told l)).any (Pl.loose ((ownL l1 l2 l3).map (told l))) = (useL l2 l3 l4 l5).any (Pl.loose (ownL l1 l2 l3)) := by
    rw [List.any_map]
    refine any_eq fun x hx => ?_
    have hxu := hN.use x hx
    have hvx : varN x ≤ m := by unfold varN; omega
    show Pl.loose ((ownL l1 l2 l3).map (told l)) (told l x) = _
    unfold Pl.loose
    rw [e1, (told_var h hxu).1]
    have e4 : decide (fv l (varN x) = 0) = decide (varN x = 0) := decide_eq_decide.2 (h.fv_iff hvx)
    have e5 : (((ownL l1 l2 l3).map varN).map (fv l)).contains (fv l (varN x)) = ((ownL l1 l2 l3).map varN).contains (varN x) := by
      rw [Bool.eq_iff_iff, List.contains_iff_mem, List.contains_iff_mem]
      constructor
      · intro hm
        obtain ⟨u, hu, e⟩ := List.mem_map.1 hm
        exact (h.fv_inj (hv u hu).2 hvx).1 e ▸ hu
      · exact List.mem_map_of_mem
    rw [e4, e5]
  rw [e3]
  by_cases hn : ((ownL l1 l2 l3).map varN).Nodup
  · rw [if_neg (show ¬ ¬ (((ownL l1 l2 l3).map (told l)).map varN).Nodup from fun c => c (e2.2 hn)), if_neg (show ¬ ¬ ((ownL l1 l2 l3).map varN).Nodup from fun c => c hn)]
  · rw [if_pos (fun c => hn (e2.1 c)), if_pos hn]
/-- Nor does the circuit. -/
theorem cir_mov (h : Pm m l) (hc : chkS (m : Int) l1 l2 l3 l4 l5 = 0) :
    circS (m : Int) (l1.map (told l)) (l2.map (movD l)) (l3.map (movA l)) (l4.map (told l)) (l5.map (told l)) = circS (m : Int) l1 l2 l3 l4 l5 := by
  obtain ⟨hN, hn, hfull⟩ := chkS_zero hc
  have hs := sml_of hN
  have hb := ord_bd l3
  have eo := ord_mov h hs l3.length [] (fun i hi => by cases hi)
  have ho : ∀ x ∈ ownL l1 l2 l3, 0 ≤ x ∧ x ≤ 2 * (m : Int) + 1 := fun x hx => by have := hN.own x hx; omega
  have hv : ∀ u ∈ (ownL l1 l2 l3).map varN, 1 ≤ u ∧ u ≤ m := varN_pos (fun x hx => by have := hN.own x hx; omega)
  unfold circS numsS
  rw [Int.toNat_natCast, List.length_map, eo]
  generalize hss : ordS l3 l3.length [] = s at hb
  have ev : varsN (l1.map (told l)) (l2.map (movD l)) (l3.map (movA l)) s = (varsN l1 l2 l3 s).map (fv l) := by
    unfold varsN
    rw [List.map_append, List.map_append, List.map_map, List.map_map, List.map_map, List.map_map, List.map_map]
    congr 1
    · congr 1
      · exact List.map_congr_left (fun x hx => (told_var h (ho x (by unfold ownL; simp [hx]))).1)
      · exact List.map_congr_left (fun d hd => (told_var h (ho d.lit (by unfold ownL; exact List.mem_append_left _ (List.mem_append_right _ (List.mem_map_of_mem hd))))).1)
    · exact List.map_congr_left (fun i hi => (vr_mov h hs (hb i hi)).1.1)
  have hvs : ∀ v ∈ varsN l1 l2 l3 s, v ≤ m := fun v hv' => by
    unfold varsN at hv'
    rcases List.mem_append.1 hv' with hv' | hv'
    · rcases List.mem_append.1 hv' with hv' | hv'
      · obtain ⟨x, hx, rfl⟩ := List.mem_map.1 hv'
        exact (hv _ (List.mem_map_of_mem (by unfold ownL; simp [hx]))).2
      · obtain ⟨d, hd, rfl⟩ := List.mem_map.1 hv'
        exact (hv (varN d.lit) (List.mem_map_of_mem (by unfold ownL; exact List.mem_append_left _ (List.mem_append_right _ (List.mem_map_of_mem hd))))).2
    · obtain ⟨i, hi, rfl⟩ := List.mem_map.1 hv'
      exact (vr_mov h hs (hb i hi)).1.2
  rw [ev]
  have eg := numW_mov h (varsN l1 l2 l3 s) 1 (numS m) (numS m) hvs (numS_len m) (numS_len m) (fun u hu => by
    rw [numS_gt _ _ (h.fv_le hu).1, numS_gt _ _ hu]
    by_cases e : u = 0
    · rw [if_pos e, if_pos ((h.fv_iff hu).2 e)]
    · rw [if_neg e, if_neg (fun c => e ((h.fv_iff hu).1 c))])
  generalize numW (varsN l1 l2 l3 s) 1 (numS m) = g at eg
  generalize numW ((varsN l1 l2 l3 s).map (fv l)) 1 (numS m) = g' at eg
  have et : ∀ x ∈ useL l2 l3 l4 l5, told g' (told l x) = told g x := fun x hx => by
    have hxu := hN.use x hx
    obtain ⟨t1, t2, -⟩ := told_var h hxu
    show 2 * gt g' (varN (told l x)) + told l x % 2 = 2 * gt g (varN x) + x % 2
    rw [t1, t2, eg _ (by unfold varN; omega)]
  unfold cirSv
  rw [List.map_map, List.map_map, List.map_map, List.length_map]
  congr 1
  · refine List.map_congr_left fun d hd => ?_
    show (⟨told g' (told l d.a), d.b⟩ : Lt) = _
    rw [et d.a (by unfold useL; exact List.mem_append_left _ (List.mem_append_right _ (List.mem_map_of_mem hd)))]
  · refine List.map_congr_left fun i hi => ?_
    have hmem := rdT_mem (ands := l3) (hb i hi)
    rw [rd_mov (hb i hi)]
    show (⟨mx (told g' (told l (rdD l3 (i : Int)).a)) (told g' (told l (rdD l3 (i : Int)).b)), mn (told g' (told l (rdD l3 (i : Int)).a)) (told g' (told l (rdD l3 (i : Int)).b))⟩ : An) = _
    rw [et _ (by unfold useL; exact List.mem_append_right _ (List.mem_flatMap.2 ⟨_, hmem, by simp⟩)), et _ (by unfold useL; exact List.mem_append_right _ (List.mem_flatMap.2 ⟨_, hmem, by simp⟩))]
  · exact List.map_congr_left fun x hx => et x (by unfold useL; simp [hx])
  · exact List.map_congr_left fun x hx => et x (by unfold useL; simp [hx])
end
end Go.Proofs.Ytbbefbgomdmldaa.Pl
/- Alive, evaluated: calls that are known first. -/
namespace Go.Proofs.Ytbbefbgomdmldaa.MemoAlive
open Go Go.Proofs.Ytbbefbgomdmldaa.Ab
set_option maxRecDepth 1000000
def wr : Nat → Bool := fun f => f == 78
def lits : Nat → Bool := fun f => f == 18
theorem m : Try.prog.follows .mixedOrders = true := by kernel_rfl
def t0 : List Known1 := []
theorem o0 : TabOk Try.prog t0 := trivial
def k1 : Known1 := ⟨17, [.agg [.d (.int .i64 4), .d (.sl [.int .i64 2, .int .i64 4]), .emp true, .d (.sl [.agg [.int .i64 6, .int .i64 4, .int .i64 8], .agg [.int .i64 8, .int .i64 2, .int .i64 4]]), .emp true, .emp true]], .d (.int .i64 0)⟩
theorem e1 : evT Try.prog wr lits t0 60 k1.f k1.as [] = some (k1.r, []) := by kernel_rfl
def t1 : List Known1 := k1 :: t0
theorem o1 : TabOk Try.prog t1 := ⟨evT_ok m o0 60 _ _ _ _ _ e1, o0⟩
def k2 : Known1 := ⟨10, [.agg [.d (.int .i64 4), .d (.sl [.int .i64 2, .int .i64 4]), .emp true, .d (.sl [.agg [.int .i64 6, .int .i64 4, .int .i64 8], .agg [.int .i64 8, .int .i64 2, .int .i64 4]]), .emp true, .emp true]], .tup [.agg [.d (.int .i64 2), .emp true, .own 48 [.agg [.int .i64 4, .int .i64 2], .agg [.int .i64 6, .int .i64 4]], .emp true, .emp true], .own 3 [.int .i64 0, .int .i64 1, .int .i64 2, .int .i64 4, .int .i64 3], .d (.int .i64 0)]⟩
theorem e2 : evT Try.prog wr lits t1 60 k2.f k2.as [] = some (k2.r, []) := by kernel_rfl
def t2 : List Known1 := k2 :: t1
theorem o2 : TabOk Try.prog t2 := ⟨evT_ok m o1 60 _ _ _ _ _ e2, o1⟩
def k3 : Known1 := ⟨17, [.agg [.d (.int .i64 4), .d (.sl [.int .i64 2, .int .i64 4]), .emp true, .d (.sl [.agg [.int .i64 6, .int .i64 8, .int .i64 2], .agg [.int .i64 8, .int .i64 6, .int .i64 2]]), .emp true, .emp true]], .d (.int .i64 41)⟩
theorem e3 : evT Try.prog wr lits t2 60 k3.f k3.as [] = some (k3.r, []) := by kernel_rfl
def t3 : List Known1 := k3 :: t2
theorem o3 : TabOk Try.prog t3 := ⟨evT_ok m o2 60 _ _ _ _ _ e3, o2⟩
theorem whole : evT Try.prog wr lits t3 60 8 [] [] = some (.d (.bool true), []) := by kernel_rfl
theorem icall : ICall Try.prog 8 [] [] (.d (.bool true)) [] := evT_ok m o3 60 _ _ _ _ _ whole
end Go.Proofs.Ytbbefbgomdmldaa.MemoAlive
