/- Texts of this claim, one behind the other: strings.Split at one byte, whole. .. -/
import Derived.Test.YtccejdncpknbaaaGreatDoorWrD
import Derived.Lib.ItoaLen
import Derived.Lib.Atoi
import Derived.Shelf.LaysC
import Derived.Test.YtccejdncpknbaaaGreatDoorProg
import Derived.Shelf.Strconv.Atoi
import Derived.Shelf.Strconv.AtoiErr
import Derived.Lib.AtoiErrMem
import Derived.Lib.AtoiBound
/- strings.Split at one byte, whole. -/
namespace Go.Proofs.YtccejdncpknbaaaGreatDoor.Sy.Sp
open Go Go.Proofs.YtccejdncpknbaaaGreatDoor.Ab Go.Proofs.YtccejdncpknbaaaGreatDoor.Sy
set_option maxRecDepth 1000000
set_option linter.unusedVariables false
set_option linter.unusedSimpArgs false
/-- The parts of a text between bytes of one kind. -/
def splitU (u : UInt8) : List UInt8 → List (List UInt8)
  | [] => [[]]
  | b :: r => if b = u then [] :: splitU u r else match splitU u r with
    | [] => [[b]]
    | x :: xs => (b :: x) :: xs
theorem splitU_none {u : UInt8} : ∀ {x : List UInt8}, u ∉ x → splitU u x = [x]
  | [], _ => rfl
  | b :: r, h => by
    have h1 : b ≠ u := fun e => h (by simp [e])
    have h2 : u ∉ r := fun e => h (by simp [e])
    rw [splitU, if_neg h1, splitU_none h2]
theorem splitU_cons {u : UInt8} {y : List UInt8} : ∀ {x : List UInt8}, u ∉ x → splitU u (x ++ u :: y) = x :: splitU u y
  | [], _ => by rw [List.nil_append, splitU, if_pos rfl]
  | b :: r, h => by
    have h1 : b ≠ u := fun e => h (by simp [e])
    have h2 : u ∉ r := fun e => h (by simp [e])
    rw [List.cons_append, splitU, if_neg h1, splitU_cons h2]
theorem splitU_ne (u : UInt8) : ∀ l, splitU u l ≠ []
  | [] => by simp [splitU]
  | b :: r => by
    rw [splitU]
    split
    · simp
    · split <;> simp
theorem splitU_len (u : UInt8) : ∀ l : List UInt8, (splitU u l).length = l.count u + 1
  | [] => rfl
  | b :: r => by
    have ih := splitU_len u r
    rw [splitU]
    by_cases h : b = u
    · rw [if_pos h, List.length_cons, ih, h, List.count_cons_self]
    · rw [if_neg h, List.count_cons_of_ne h]
      cases hs : splitU u r with
      | nil => exact absurd hs (splitU_ne u r)
      | cons x xs => rw [hs] at ih; simpa using ih
theorem idx_cases (c : UInt8) : ∀ l : List UInt8, (c ∉ l ∧ Lib.indexByte l c = -1) ∨ ∃ x y, l = x ++ c :: y ∧ c ∉ x ∧ Lib.indexByte l c = (x.length : Int)
  | [] => .inl ⟨by simp, rfl⟩
  | b :: l => by
    by_cases h : b = c
    · subst h
      exact .inr ⟨[], l, rfl, by simp, by simp [Lib.indexByte]⟩
    · rcases idx_cases c l with ⟨h1, h2⟩ | ⟨x, y, h1, h2, h3⟩
      · exact .inl ⟨by simp [h1, Ne.symm h], by simp [Lib.indexByte, h2, h]⟩
      · refine .inr ⟨b :: x, y, by rw [h1]; rfl, by simp [h2, Ne.symm h], ?_⟩
        have hne : ¬ ((x.length : Int) = -1) := by omega
        simp [Lib.indexByte, h3, h, hne]
theorem u8_back (u : UInt8) : ((u.toNat : Int)).toNat.toUInt8 = u := by
  rw [Int.toNat_natCast]; exact UInt8.ofNat_toNat
theorem count (u : UInt8) (s : List UInt8) : ICall Tryz.prog 68 [.d (.str s), .d (.str [u])] [] (.d (I (s.count u : Nat))) [] := by
  have := callX_ok hO hm (ct u s) ⟨rfl, rfl, rfl, rfl⟩
  rw [u8_back] at this
  exact this
theorem index (u : UInt8) (s : List UInt8) : ICall Tryz.prog 69 [.d (.str s), .d (.str [u])] [] (.d (I (Lib.indexByte s u))) [] := by
  have h := callX_ok hO hm (ib u s) trivial
  rw [u8_back] at h
  refine callX_ok hO hm (ix2 u (Lib.indexByte s u) s) ?_
  cases hs : ([u] == s) with
  | true =>
    have e : s = [u] := (beq_iff_eq.1 hs).symm
    have := callX_ok hO hm (ix0 u s) ⟨rfl, hs⟩
    have e2 : Lib.indexByte s u = 0 := by rw [e]; simp [Lib.indexByte]
    rw [e2]
    exact this
  | false => exact callX_ok hO hm (ix1 u (Lib.indexByte s u) s) ⟨rfl, hs, rfl, ⟨rfl, rfl⟩, h⟩
theorem loop (u : UInt8) (s0 : List UInt8) (hl : s0.length ≤ 1000000000) (N : Nat) (hN : N = (splitU u s0).length) : ∀ (d i : Nat) (s : List UInt8) (xs : List D), N - 1 - i = d → i < N → s.length ≤ 1000000000 → xs.length = N → xs.take i ++ (splitU u s).map D.str = (splitU u s0).map D.str →
    ∃ t ys, GoesL Tryz.prog (loopOf Tryz.prog 46 0) (Hs u s ((N - 1 : Nat) : Int) xs i) (.exit 0) (Es u t ys (N - 1)) ∧ ys.length = N ∧ (ys.set (N - 1) (.str t)) = (splitU u s0).map D.str := by
  have hNl : N ≤ s0.length + 1 := by rw [hN, splitU_len]; have := List.count_le_length (a := u) (l := s0); omega
  intro d
  induction d with
  | zero =>
    intro i s xs hd hi hsl hxl e
    obtain rfl : i = N - 1 := by omega
    refine ⟨s, xs, .stop hO hm (g3 u _ _ s xs) (by simp) (decide_eq_false (by omega)), hxl, ?_⟩
    have hlen : (splitU u s).length = 1 := by
      have := congrArg List.length e
      rw [List.length_append, List.length_take, List.length_map, List.length_map, ← hN] at this
      omega
    have hs1 : splitU u s = [s] := by
      rw [splitU_len] at hlen
      exact splitU_none (List.count_eq_zero.1 (by omega))
    rw [hs1] at e
    rw [← e, List.set_eq_take_append_cons_drop, if_pos (by omega), List.drop_of_length_le (by omega)]
    rfl
  | succ d ih =>
    intro i s xs hd hi hsl hxl e
    have hlen : (splitU u s).length = N - i := by
      have := congrArg List.length e
      rw [List.length_append, List.length_take, List.length_map, List.length_map, ← hN] at this
      omega
    rcases idx_cases u s with ⟨h1, h2⟩ | ⟨x, y, h1, h2, h3⟩
    · rw [splitU_none h1] at hlen
      simp at hlen; omega
    · have hi' := index u s
      rw [h3] at hi'
      have hsx : s.length = x.length + (y.length + 1) := by rw [h1]; simp
      have ht1 : List.take (x.length - 0) (List.drop 0 s) = x := by rw [h1]; simp
      have ht2 : List.take (s.length - (x.length + 1)) (List.drop (x.length + 1) s) = y := by
        rw [List.take_of_length_le (by rw [List.length_drop]; omega), h1]; simp
      obtain ⟨t, ys, q1, q2, q3⟩ := ih (i + 1) y (xs.set i (.str x)) (by omega) (by omega) (by omega) (by rw [List.length_set]; exact hxl) (by
        rw [← e, h1, splitU_cons h2, List.take_add_one, List.take_set_of_le (Nat.le_refl _), List.getElem?_set_self (by omega)]
        simp)
      refine ⟨t, ys, ?_, q2, q3⟩
      refine .step hO hm (g2 u _ (x.length : Int) i (x.length + 1) x.length s xs) ⟨decide_eq_true (by omega), hi', decide_eq_false (by omega), wrap_id (by omega) (by omega), ⟨rfl, by omega, Nat.zero_le _, by omega⟩, ⟨rfl, by omega⟩, wrap_id (by simp; omega) (by simp; omega), ⟨by simp, rfl, by omega, Nat.le_refl _⟩, wrap_succ (by omega)⟩ ?_
      rw [ht1, ht2]
      exact q1
theorem split (u : UInt8) (s : List UInt8) (hl : s.length ≤ 1000000000) : ICall Tryz.prog 19 [.d (.str s), .d (.str [u])] [] (.d (.sl ((splitU u s).map D.str))) [] := by
  have hc := count u s
  have hlen := splitU_len u s
  have hcl := List.count_le_length (a := u) (l := s)
  obtain ⟨t, ys, q1, q2, q3⟩ := loop u s hl (splitU u s).length rfl ((splitU u s).length - 1) 0 s (List.replicate (splitU u s).length (.str [])) (by omega) (by omega) hl (by simp) (by simp)
  have e1 : (if ((s.length + 1 : Nat) : Int) < ((s.count u : Nat) : Int) + 1 then ((s.length + 1 : Nat) : Int) else ((s.count u : Nat) : Int) + 1) = ((splitU u s).length : Int) := by
    rw [if_neg (by omega)]; omega
  have := callX_ok hO hm (gs u ((s.count u : Nat) : Int) ((splitU u s).length - 1) (splitU u s).length s t ys) ⟨rfl, rfl, rfl, hc, wrap_id (by omega) (by omega), wrap_succ (by omega), rfl, by
      rw [e1]; exact ⟨by omega, by omega, Nat.le_trans (show _ ≤ 1000000001 by omega) (by decide)⟩, by rw [e1]; exact wrap_id (by omega) (by omega), by
      rw [e1, show ((splitU u s).length : Int) - 1 = (((splitU u s).length - 1 : Nat) : Int) by omega]
      exact q1, ⟨rfl, by omega⟩, wrap_succ (by omega), by
      rw [q3]; exact ⟨rfl, by omega, Nat.zero_le _, by rw [List.length_map]; omega⟩⟩
  have h2 := this.frz (r' := .d (.sl ((splitU u s).map D.str))) (by
    rw [q3, show (splitU u s).length - 0 = ((splitU u s).map D.str).length by simp, List.take_length]; rfl)
  exact callX_ok hO hm (sp u s ((splitU u s).map D.str)) h2
end Go.Proofs.YtccejdncpknbaaaGreatDoor.Sy.Sp
/- witness.digits, write, Check, Write, WriteByte: round by round. -/
namespace Go.Proofs.YtccejdncpknbaaaGreatDoor.Sy.Wi
open Go Go.Proofs.YtccejdncpknbaaaGreatDoor.Ab Go.Proofs.YtccejdncpknbaaaGreatDoor.Sy Go.Proofs.YtccejdncpknbaaaGreatDoor.Sy.Tx Go.Proofs.YtccejdncpknbaaaGreatDoor.Sy.Vl Go.Proofs.YtccejdncpknbaaaGreatDoor.Sy.Tc
set_option maxRecDepth 1000000
set_option linter.unusedVariables false
def Hd (xs : List D) (l : List UInt8) (sl : List (Nat × V)) : St := ⟨mk 20 ([(0, .ptr 0 0)] ++ sl) [], Str.SB l⟩
def Bw (t : Tr) (l : List UInt8) : List B := [Bt t, .bx (some 95) [.ptr 1 0, .arr 2], .lst 5 (l.map u8)]
def Ht (t : Tr) (l : List UInt8) (sl : List (Nat × V)) : St := ⟨mk 28 ([(2, .ptr 0 0), (5, .ptr 1 0)] ++ sl) [], Bw t l⟩
section
variable (c : Ci) (t : Tr) (n x e : Int) (i j u k m : Nat) (v st inp : List Bool) (b b2 : Bool) (xs : List D) (l l1 l2 l3 s : List UInt8) (u : UInt8) (ss : List (List Bool))
theorem wb  : callX Tryz.prog wr false O 78 [.ptr 0 0, .d (u8 u)] [.bx (some 95) [.ptr 0 0, .arr 1], .lst 5 (l.map u8)] [It.icall [0, 1] (V.tup []) (Str.SB l), It.raw, It.raw, It.raw] = some (V.d D.inil, [.bx (some 95) [.ptr 0 0, .arr 1], .lst 5 (l.map u8 ++ [u8 u])],
  [ICall Tryz.prog 76 [V.ptr 0 0] [B.bx (some 95) [V.ptr 0 0, V.arr 1], B.lst 5 (List.map u8 l)] (V.tup []) (Str.SB l),
   (List.map u8 l).length + [u8 u].length ≤ maxItems]) := by kernel_rfl
theorem d1t : round Tryz.prog wr false O (loopOf Tryz.prog 52 0) (Hd xs l [(6, .d (.sl xs)), (7, .d (I xs.length)), (8, .d (I i))]) [It.br true, It.el i (D.bool true), It.icall [0, 1] (V.d D.inil) (Str.SB (l ++ [49])), It.is (↑(i + 1) : Int)] [0, 6, 7, 8] 2 = some (.normal, Hd xs (l ++ [49]) [(6, .d (.sl xs)), (7, .d (I xs.length)), (8, .d (I (i + 1 : Nat)))],
  [decide ((↑i : Int) < (↑xs.length : Int)) = true,
   (↑i : Int) = (↑i : Int) ∧ xs[i]? = some (D.bool true),
   ICall Tryz.prog 78 [V.ptr 0 0, V.d (D.int IntKind.u8 49)] [B.bx (some 95) [V.ptr 0 0, V.arr 1], B.lst 5 (List.map u8 l)] (V.d D.inil) (Str.SB (l ++ [49])),
   IntKind.i64.wrap ((↑i : Int) + 1) = (↑(i + 1) : Int)]) := by kernel_rfl
theorem d1f : round Tryz.prog wr false O (loopOf Tryz.prog 52 0) (Hd xs l [(6, .d (.sl xs)), (7, .d (I xs.length)), (8, .d (I i))]) [It.br true, It.el i (D.bool false), It.icall [0, 1] (V.d D.inil) (Str.SB (l ++ [48])), It.is (↑(i + 1) : Int)] [0, 6, 7, 8] 2 = some (.normal, Hd xs (l ++ [48]) [(6, .d (.sl xs)), (7, .d (I xs.length)), (8, .d (I (i + 1 : Nat)))],
  [decide ((↑i : Int) < (↑xs.length : Int)) = true,
   (↑i : Int) = (↑i : Int) ∧ xs[i]? = some (D.bool false),
   ICall Tryz.prog 78 [V.ptr 0 0, V.d (D.int IntKind.u8 48)] [B.bx (some 95) [V.ptr 0 0, V.arr 1], B.lst 5 (List.map u8 l)] (V.d D.inil) (Str.SB (l ++ [48])),
   IntKind.i64.wrap ((↑i : Int) + 1) = (↑(i + 1) : Int)]) := by kernel_rfl
theorem d2 : round Tryz.prog wr false O (loopOf Tryz.prog 52 0) (Hd xs l [(6, .d (.sl xs)), (7, .d (I xs.length)), (8, .d (I i))]) [It.br false] [0] 2 = some (.exit 0, Hd xs l [],
  [decide ((↑i : Int) < (↑xs.length : Int)) = false]) := by kernel_rfl
theorem dg  : callX Tryz.prog wr false O 52 [.ptr 0 0, .d (.sl xs)] [.bx (some 95) [.ptr 0 0, .arr 1], .lst 5 (l.map u8)] [It.lp [0, 6, 7, 8] (Ex.exit 0) (Hd xs l1 []), It.icall [0, 1] (V.d D.inil) (Str.SB l2)] = some (V.tup [], [.bx (some 95) [.ptr 0 0, .arr 1], .lst 5 (l2.map u8)],
  [GoesL Tryz.prog (loopOf Tryz.prog 52 0) (⟨mk 20 [(0, V.ptr 0 0), (6, V.d (D.sl xs)), (7, V.d (D.int IntKind.i64 (↑xs.length : Int))), (8, V.d (D.int IntKind.i64 0))] [], [B.bx (some 95) [V.ptr 0 0, V.arr 1], B.lst 5 (List.map u8 l)]⟩) (Ex.exit 0) (Hd xs l1 []),
   ICall Tryz.prog 78 [V.ptr 0 0, V.d (D.int IntKind.u8 10)] [B.bx (some 95) [V.ptr 0 0, V.arr 1], B.lst 5 (List.map u8 l1)] (V.d D.inil) (Str.SB l2)]) := by kernel_rfl
theorem t1 : round Tryz.prog wr false O (loopOf Tryz.prog 23 0) (Ht t l [(17, .d (.sl (t.ins.map BL))), (18, .d (I (t.ins.map BL).length)), (19, .d (I i))]) [It.br true, It.el i (BL (t.ins.getD i default)), It.icall [1, 2] (V.tup []) (Str.SB l1), It.is (↑(i + 1) : Int)] [2, 5, 17, 18, 19] 3 = some (.normal, Ht t l1 [(17, .d (.sl (t.ins.map BL))), (18, .d (I (t.ins.map BL).length)), (19, .d (I (i + 1 : Nat)))],
  [decide ((↑i : Int) < (↑(List.map BL t.ins).length : Int)) = true,
   (↑i : Int) = (↑i : Int) ∧ (List.map BL t.ins)[i]? = some (BL (t.ins.getD i default)),
   ICall Tryz.prog 52 [V.ptr 0 0, V.d (BL (t.ins.getD i default))] [B.bx (some 95) [V.ptr 0 0, V.arr 1], B.lst 5 (List.map u8 l)] (V.tup []) (Str.SB l1),
   IntKind.i64.wrap ((↑i : Int) + 1) = (↑(i + 1) : Int)]) := by kernel_rfl
theorem t2 : round Tryz.prog wr false O (loopOf Tryz.prog 23 0) (Ht t l [(17, .d (.sl (t.ins.map BL))), (18, .d (I (t.ins.map BL).length)), (19, .d (I i))]) [It.br false] [2, 5] 3 = some (.exit 0, Ht t l [],
  [decide ((↑i : Int) < (↑(List.map BL t.ins).length : Int)) = false]) := by kernel_rfl
theorem wrt  : callX Tryz.prog wr false O 23 [.d t.d, .d (I n)] [] [It.icall [] (V.d (D.str s)) [], It.raw, It.raw, It.icall [1] (Str.wrote ([49, 10, 98] ++ s ++ [10])) (Str.SB ([49, 10, 98] ++ s ++ [10])), It.icall [1, 2] (V.tup []) (Str.SB l1), It.lp [2, 5, 17, 18, 19] (Ex.exit 0) (Ht t l2 []), It.icall [1, 2] (Str.wrote [46, 10]) (Str.SB l3), It.icall [1, 2] (V.d (D.str l3)) [B.bx (some 95) [V.ptr 0 0, V.undef], B.dead]] = some (V.d (D.str l3), [],
  [ICall Tryz.prog 51 [V.d (I n)] [] (V.d (D.str s)) [],
   3 + s.length < 4611686018427387904,
   ((ByteArray.mk #[49, 10, 98]).data.toList ++ s).length + 1 < 4611686018427387904,
   ICall Tryz.prog 50 [V.ptr 0 0, V.d (D.str ((ByteArray.mk #[49, 10, 98]).data.toList ++ s ++ (ByteArray.mk #[10]).data.toList))] [B.bx (some 95) [V.nilp, V.emp true]] (Str.wrote ([49, 10, 98] ++ s ++ [10])) (Str.SB ([49, 10, 98] ++ s ++ [10])),
   ICall Tryz.prog 52 [V.ptr 0 0, V.d (BL t.first)] [B.bx (some 95) [V.ptr 0 0, V.arr 1], B.lst 5 (List.map u8 ([49, 10, 98] ++ s ++ [10]))] (V.tup []) (Str.SB l1),
   GoesL Tryz.prog (loopOf Tryz.prog 23 0) (⟨mk 28 [(2, V.ptr 0 0), (5, V.ptr 1 0), (17, V.d (D.sl (List.map BL t.ins))), (18, V.d (D.int IntKind.i64 (↑(List.map BL t.ins).length : Int))), (19, V.d (D.int IntKind.i64 0))] [], [B.bx none [V.d (D.sl (List.map D.bool t.first)), V.d (D.sl (List.map BL t.ins))], B.bx (some 95) [V.ptr 1 0, V.arr 2], B.lst 5 (List.map u8 l1)]⟩) (Ex.exit 0) (Ht t l2 []),
   ICall Tryz.prog 50 [V.ptr 0 0, V.d (D.str (ByteArray.mk #[46, 10]).data.toList)] [B.bx (some 95) [V.ptr 0 0, V.arr 1], B.lst 5 (List.map u8 l2)] (Str.wrote [46, 10]) (Str.SB l3),
   ICall Tryz.prog 53 [V.ptr 0 0] [B.bx (some 95) [V.ptr 0 0, V.arr 1], B.lst 5 (List.map u8 l3)] (V.d (D.str l3)) [B.bx (some 95) [V.ptr 0 0, V.undef], B.dead]]) := by kernel_rfl
theorem c0  : callX Tryz.prog wr false O 13 [.d c.d, .d t.d, .d (I n)] [] [It.icall [] (V.tup [V.emp true, V.d (I e)]) [], It.br true] = some (V.d (D.int IntKind.i64 e), [],
  [ICall Tryz.prog 16 [V.d (D.agg [I c.ins, D.sl (List.map Lt.d c.lats), D.sl (List.map An.d c.ands), L c.bads, L c.cons]), V.d (D.agg [BL t.first, D.sl (List.map BL t.ins)])] [] (V.tup [V.emp true, V.d (I e)]) [],
   (e != 0) = true]) := by kernel_rfl
theorem c1  : callX Tryz.prog wr false O 13 [.d c.d, .d t.d, .d (I n)] [] [It.icall [] (V.tup [V.d (D.sl (List.map BL ss)), V.d (I 0)]) [], It.br false, It.br true] = some (V.d (D.int IntKind.i64 2), [],
  [ICall Tryz.prog 16 [V.d (D.agg [I c.ins, D.sl (List.map Lt.d c.lats), D.sl (List.map An.d c.ands), L c.bads, L c.cons]), V.d (D.agg [BL t.first, D.sl (List.map BL t.ins)])] [] (V.tup [V.d (D.sl (List.map BL ss)), V.d (I 0)]) [],
   (0 != 0) = false,
   decide (n < 0) = true]) := by kernel_rfl
theorem c2  : callX Tryz.prog wr false O 13 [.d c.d, .d t.d, .d (I n)] [] [It.icall [] (V.tup [V.d (D.sl (List.map BL ss)), V.d (I 0)]) [], It.br false, It.br false, It.br true] = some (V.d (D.int IntKind.i64 2), [],
  [ICall Tryz.prog 16 [V.d (D.agg [I c.ins, D.sl (List.map Lt.d c.lats), D.sl (List.map An.d c.ands), L c.bads, L c.cons]), V.d (D.agg [BL t.first, D.sl (List.map BL t.ins)])] [] (V.tup [V.d (D.sl (List.map BL ss)), V.d (I 0)]) [],
   (0 != 0) = false,
   decide (n < 0) = false,
   decide (n ≥ (↑(List.map I c.bads).length : Int)) = true]) := by kernel_rfl
theorem c3  : callX Tryz.prog wr false O 13 [.d c.d, .d t.d, .d (I n)] [] [It.icall [] (V.tup [V.d (D.sl (List.map BL ss)), V.d (I 0)]) [], It.br false, It.br false, It.br false, It.icall [] (V.tup [V.d (I x), V.d (I 0)]) [], It.br false, It.is ((↑(List.map BL ss).length : Int) - 1), It.el ((↑(List.map BL ss).length : Int) - 1).toNat (BL (ss.getD ((↑(List.map BL ss).length : Int) - 1).toNat default)), It.el ((↑(List.map BL ss).length : Int) - 1).toNat (BL (t.ins.getD ((↑(List.map BL ss).length : Int) - 1).toNat default)), It.icall [] (V.tup [V.d (D.bool b), V.d (BL v), V.d (I 0)]) [], It.br false, It.br true] = some (V.d (D.int IntKind.i64 57), [],
  [ICall Tryz.prog 16 [V.d (D.agg [I c.ins, D.sl (List.map Lt.d c.lats), D.sl (List.map An.d c.ands), L c.bads, L c.cons]), V.d (D.agg [BL t.first, D.sl (List.map BL t.ins)])] [] (V.tup [V.d (D.sl (List.map BL ss)), V.d (I 0)]) [],
   (0 != 0) = false,
   decide (n < 0) = false,
   decide (n ≥ (↑(List.map I c.bads).length : Int)) = false,
   ICall Tryz.prog 31 [V.d (D.agg [I c.ins, D.sl (List.map Lt.d c.lats), D.sl (List.map An.d c.ands), L c.bads, L c.cons]), V.d (D.agg [BL t.first, D.sl (List.map BL t.ins)])] [] (V.tup [V.d (I x), V.d (I 0)]) [],
   (0 != 0) = false,
   IntKind.i64.wrap ((↑(List.map BL ss).length : Int) - 1) = (↑(List.map BL ss).length : Int) - 1,
   (↑(List.map BL ss).length : Int) - 1 = (↑((↑(List.map BL ss).length : Int) - 1).toNat : Int) ∧ (List.map BL ss)[((↑(List.map BL ss).length : Int) - 1).toNat]? = some (BL (ss.getD ((↑(List.map BL ss).length : Int) - 1).toNat default)),
   (↑(List.map BL ss).length : Int) - 1 = (↑((↑(List.map BL ss).length : Int) - 1).toNat : Int) ∧ (List.map BL t.ins)[((↑(List.map BL ss).length : Int) - 1).toNat]? = some (BL (t.ins.getD ((↑(List.map BL ss).length : Int) - 1).toNat default)),
   ICall Tryz.prog 17 [V.d (D.agg [I c.ins, D.sl (List.map Lt.d c.lats), D.sl (List.map An.d c.ands), L c.bads, L c.cons]), V.d (BL (ss.getD ((↑(List.map BL ss).length : Int) - 1).toNat default)), V.d (BL (t.ins.getD ((↑(List.map BL ss).length : Int) - 1).toNat default))] [] (V.tup [V.d (D.bool b), V.d (BL v), V.d (I 0)]) [],
   (0 != 0) = false,
   decide (x ≤ (↑(List.map BL ss).length : Int) - 1) = true]) := by kernel_rfl
theorem c4  : callX Tryz.prog wr false O 13 [.d c.d, .d t.d, .d (I n)] [] [It.icall [] (V.tup [V.d (D.sl (List.map BL ss)), V.d (I 0)]) [], It.br false, It.br false, It.br false, It.icall [] (V.tup [V.d (I x), V.d (I 0)]) [], It.br false, It.is ((↑(List.map BL ss).length : Int) - 1), It.el ((↑(List.map BL ss).length : Int) - 1).toNat (BL (ss.getD ((↑(List.map BL ss).length : Int) - 1).toNat default)), It.el ((↑(List.map BL ss).length : Int) - 1).toNat (BL (t.ins.getD ((↑(List.map BL ss).length : Int) - 1).toNat default)), It.icall [] (V.tup [V.d (D.bool b), V.d (BL v), V.d (I 0)]) [], It.br false, It.br false, It.el n.toNat (D.bool (v.getD n.toNat default)), It.br true] = some (V.d (D.int IntKind.i64 57), [],
  [ICall Tryz.prog 16 [V.d (D.agg [I c.ins, D.sl (List.map Lt.d c.lats), D.sl (List.map An.d c.ands), L c.bads, L c.cons]), V.d (D.agg [BL t.first, D.sl (List.map BL t.ins)])] [] (V.tup [V.d (D.sl (List.map BL ss)), V.d (I 0)]) [],
   (0 != 0) = false,
   decide (n < 0) = false,
   decide (n ≥ (↑(List.map I c.bads).length : Int)) = false,
   ICall Tryz.prog 31 [V.d (D.agg [I c.ins, D.sl (List.map Lt.d c.lats), D.sl (List.map An.d c.ands), L c.bads, L c.cons]), V.d (D.agg [BL t.first, D.sl (List.map BL t.ins)])] [] (V.tup [V.d (I x), V.d (I 0)]) [],
   (0 != 0) = false,
   IntKind.i64.wrap ((↑(List.map BL ss).length : Int) - 1) = (↑(List.map BL ss).length : Int) - 1,
   (↑(List.map BL ss).length : Int) - 1 = (↑((↑(List.map BL ss).length : Int) - 1).toNat : Int) ∧ (List.map BL ss)[((↑(List.map BL ss).length : Int) - 1).toNat]? = some (BL (ss.getD ((↑(List.map BL ss).length : Int) - 1).toNat default)),
   (↑(List.map BL ss).length : Int) - 1 = (↑((↑(List.map BL ss).length : Int) - 1).toNat : Int) ∧ (List.map BL t.ins)[((↑(List.map BL ss).length : Int) - 1).toNat]? = some (BL (t.ins.getD ((↑(List.map BL ss).length : Int) - 1).toNat default)),
   ICall Tryz.prog 17 [V.d (D.agg [I c.ins, D.sl (List.map Lt.d c.lats), D.sl (List.map An.d c.ands), L c.bads, L c.cons]), V.d (BL (ss.getD ((↑(List.map BL ss).length : Int) - 1).toNat default)), V.d (BL (t.ins.getD ((↑(List.map BL ss).length : Int) - 1).toNat default))] [] (V.tup [V.d (D.bool b), V.d (BL v), V.d (I 0)]) [],
   (0 != 0) = false,
   decide (x ≤ (↑(List.map BL ss).length : Int) - 1) = false,
   n = (↑n.toNat : Int) ∧ (List.map D.bool v)[n.toNat]? = some (D.bool (v.getD n.toNat default)),
   (!v.getD n.toNat default) = true]) := by kernel_rfl
theorem c5  : callX Tryz.prog wr false O 13 [.d c.d, .d t.d, .d (I n)] [] [It.icall [] (V.tup [V.d (D.sl (List.map BL ss)), V.d (I 0)]) [], It.br false, It.br false, It.br false, It.icall [] (V.tup [V.d (I x), V.d (I 0)]) [], It.br false, It.is ((↑(List.map BL ss).length : Int) - 1), It.el ((↑(List.map BL ss).length : Int) - 1).toNat (BL (ss.getD ((↑(List.map BL ss).length : Int) - 1).toNat default)), It.el ((↑(List.map BL ss).length : Int) - 1).toNat (BL (t.ins.getD ((↑(List.map BL ss).length : Int) - 1).toNat default)), It.icall [] (V.tup [V.d (D.bool b), V.d (BL v), V.d (I 0)]) [], It.br false, It.br false, It.el n.toNat (D.bool (v.getD n.toNat default)), It.br false] = some (V.d (D.int IntKind.i64 0), [],
  [ICall Tryz.prog 16 [V.d (D.agg [I c.ins, D.sl (List.map Lt.d c.lats), D.sl (List.map An.d c.ands), L c.bads, L c.cons]), V.d (D.agg [BL t.first, D.sl (List.map BL t.ins)])] [] (V.tup [V.d (D.sl (List.map BL ss)), V.d (I 0)]) [],
   (0 != 0) = false,
   decide (n < 0) = false,
   decide (n ≥ (↑(List.map I c.bads).length : Int)) = false,
   ICall Tryz.prog 31 [V.d (D.agg [I c.ins, D.sl (List.map Lt.d c.lats), D.sl (List.map An.d c.ands), L c.bads, L c.cons]), V.d (D.agg [BL t.first, D.sl (List.map BL t.ins)])] [] (V.tup [V.d (I x), V.d (I 0)]) [],
   (0 != 0) = false,
   IntKind.i64.wrap ((↑(List.map BL ss).length : Int) - 1) = (↑(List.map BL ss).length : Int) - 1,
   (↑(List.map BL ss).length : Int) - 1 = (↑((↑(List.map BL ss).length : Int) - 1).toNat : Int) ∧ (List.map BL ss)[((↑(List.map BL ss).length : Int) - 1).toNat]? = some (BL (ss.getD ((↑(List.map BL ss).length : Int) - 1).toNat default)),
   (↑(List.map BL ss).length : Int) - 1 = (↑((↑(List.map BL ss).length : Int) - 1).toNat : Int) ∧ (List.map BL t.ins)[((↑(List.map BL ss).length : Int) - 1).toNat]? = some (BL (t.ins.getD ((↑(List.map BL ss).length : Int) - 1).toNat default)),
   ICall Tryz.prog 17 [V.d (D.agg [I c.ins, D.sl (List.map Lt.d c.lats), D.sl (List.map An.d c.ands), L c.bads, L c.cons]), V.d (BL (ss.getD ((↑(List.map BL ss).length : Int) - 1).toNat default)), V.d (BL (t.ins.getD ((↑(List.map BL ss).length : Int) - 1).toNat default))] [] (V.tup [V.d (D.bool b), V.d (BL v), V.d (I 0)]) [],
   (0 != 0) = false,
   decide (x ≤ (↑(List.map BL ss).length : Int) - 1) = false,
   n = (↑n.toNat : Int) ∧ (List.map D.bool v)[n.toNat]? = some (D.bool (v.getD n.toNat default)),
   (!v.getD n.toNat default) = false]) := by kernel_rfl
theorem w0  : callX Tryz.prog wr false O 12 [.d c.d, .d t.d, .d (I n)] [] [It.icall [] (V.d (I e)) [], It.br true] = some (V.tup [V.d (D.str (ByteArray.mk #[]).data.toList), V.d (D.int IntKind.i64 e)], [],
  [ICall Tryz.prog 13 [V.d (D.agg [I c.ins, D.sl (List.map Lt.d c.lats), D.sl (List.map An.d c.ands), L c.bads, L c.cons]), V.d (D.agg [BL t.first, D.sl (List.map BL t.ins)]), V.d (I n)] [] (V.d (I e)) [],
   (e != 0) = true]) := by kernel_rfl
theorem w1  : callX Tryz.prog wr false O 12 [.d c.d, .d t.d, .d (I n)] [] [It.icall [] (V.d (I 0)) [], It.br false, It.icall [] (V.d (D.str s)) []] = some (V.tup [V.d (D.str s), V.d (D.int IntKind.i64 0)], [],
  [ICall Tryz.prog 13 [V.d (D.agg [I c.ins, D.sl (List.map Lt.d c.lats), D.sl (List.map An.d c.ands), L c.bads, L c.cons]), V.d (D.agg [BL t.first, D.sl (List.map BL t.ins)]), V.d (I n)] [] (V.d (I 0)) [],
   (0 != 0) = false,
   ICall Tryz.prog 23 [V.d (D.agg [BL t.first, D.sl (List.map BL t.ins)]), V.d (I n)] [] (V.d (D.str s)) []]) := by kernel_rfl
end
end Go.Proofs.YtccejdncpknbaaaGreatDoor.Sy.Wi
/- witness.digits, write, Check, Write, whole. -/
namespace Go.Proofs.YtccejdncpknbaaaGreatDoor.Sy.Wi
open Go Go.Proofs.YtccejdncpknbaaaGreatDoor.Ab Go.Proofs.YtccejdncpknbaaaGreatDoor.Sy Go.Proofs.YtccejdncpknbaaaGreatDoor.Sy.Tx Go.Proofs.YtccejdncpknbaaaGreatDoor.Sy.Vl Go.Proofs.YtccejdncpknbaaaGreatDoor.Sy.Tc
set_option maxRecDepth 1000000
set_option linter.unusedVariables false
set_option linter.unusedSimpArgs false
section
variable {k : Code}
/-- A text behind which something is put for each element. -/
theorem str_loop {α : Type} [Inhabited α] (xs : List α) (H : Nat → List UInt8 → St) (e0 : Ex) (E : List UInt8 → St) (f : α → List UInt8) (B K : Nat) (hf : ∀ x ∈ xs, (f x).length ≤ K)
    (hs : ∀ i l, i < xs.length → xs.getD i default ∈ xs → l.length ≤ B + K * i → ∀ e s, GoesL Tryz.prog k (H (i + 1) (l ++ f (xs.getD i default))) e s → GoesL Tryz.prog k (H i l) e s)
    (he : ∀ l, l.length ≤ B + K * xs.length → GoesL Tryz.prog k (H xs.length l) e0 (E l)) (l : List UInt8) (hl : l.length ≤ B) : GoesL Tryz.prog k (H 0 l) e0 (E (l ++ xs.flatMap f)) := by
  have key : ∀ (d i : Nat) (l : List UInt8), xs.length - i = d → i ≤ xs.length → l.length ≤ B + K * i → GoesL Tryz.prog k (H i l) e0 (E (l ++ (xs.drop i).flatMap f)) := by
    intro d
    induction d with
    | zero =>
      intro i l hd hi hl
      obtain rfl : i = xs.length := by omega
      rw [List.drop_length, List.flatMap_nil, List.append_nil]
      exact he l hl
    | succ d ih =>
      intro i l hd hi hl
      have hlt : i < xs.length := by omega
      have hmem : xs.getD i default ∈ xs := mem_getD hlt
      refine hs i l hlt hmem hl _ _ ?_
      rw [drop_getD xs i hlt, List.flatMap_cons, ← List.append_assoc]
      exact ih (i + 1) _ (by omega) (by omega) (by rw [List.length_append]; have := hf _ hmem; rw [Nat.mul_add]; omega)
  exact key _ 0 l rfl (Nat.zero_le _) (by omega)
end
/-- Truth values as digits. -/
def digs (v : List Bool) : List UInt8 := v.flatMap fun b => if b then [49] else [48]
theorem digs_len (v : List Bool) : (digs v).length = v.length := by
  unfold digs
  induction v with
  | nil => rfl
  | cons b r ih => rw [List.flatMap_cons, List.length_append, ih, List.length_cons]; cases b <;> simp <;> omega
theorem writeByte (u : UInt8) (l : List UInt8) (h : l.length ≤ 1000000000) : ICall Tryz.prog 78 [.ptr 0 0, .d (u8 u)] (Str.SB l) (.d .inil) (Str.SB (l ++ [u])) := by
  have := callX_ok hO hm (wb l u) ⟨Str.check_used _ _ _, Nat.le_trans (show _ ≤ 1000000001 by simp; omega) (by decide)⟩
  unfold Str.SB
  rw [List.map_append]
  exact this
theorem digits (v : List Bool) (l : List UInt8) (h : l.length + v.length ≤ 100000000) : ICall Tryz.prog 52 [.ptr 0 0, .d (BL v)] (Str.SB l) (.tup []) (Str.SB (l ++ digs v ++ [10])) := by
  have loop := str_loop (k := loopOf Tryz.prog 52 0) v (fun i l => Hd (v.map D.bool) l [(6, .d (.sl (v.map D.bool))), (7, .d (I (v.map D.bool).length)), (8, .d (I i))]) (.exit 0) (fun l => Hd (v.map D.bool) l []) (fun b => if b then [49] else [48]) l.length 1
    (fun x _ => by cases x <;> simp)
    (fun i l hi _ hl e s hh => by
      have q0 : decide ((i : Int) < (((v.map D.bool).length : Nat) : Int)) = true := decide_eq_true (by rw [List.length_map]; omega)
      have gm := get_map D.bool v i hi
      cases hb : v.getD i default with
      | true =>
        rw [hb] at gm hh
        exact .step hO hm (d1t i _ l) ⟨q0, ⟨rfl, gm⟩, writeByte 49 l (by omega), wrap_succ (by omega)⟩ hh
      | false =>
        rw [hb] at gm hh
        exact .step hO hm (d1f i _ l) ⟨q0, ⟨rfl, gm⟩, writeByte 48 l (by omega), wrap_succ (by omega)⟩ hh)
    (fun l _ => .stop hO hm (d2 v.length (v.map D.bool) l) (by simp) (decide_eq_false (by rw [List.length_map]; omega)))
    l (Nat.le_refl _)
  have e2 := digs_len v
  exact callX_ok hO hm (dg (v.map D.bool) l (l ++ digs v) (l ++ digs v ++ [10])) ⟨loop, writeByte 10 _ (by rw [List.length_append]; omega)⟩
/-- A run that is not great. -/
structure Tz (t : Tr) : Prop where
  first : t.first.length ≤ 10000
  ins : t.ins.length ≤ 1000
  each : ∀ l ∈ t.ins, l.length ≤ 10000
/-- The text of a run. -/
def txt (t : Tr) (n : Int) : List UInt8 := [49, 10, 98] ++ Lib.itoa n ++ [10] ++ digs t.first ++ [10] ++ t.ins.flatMap (fun l => digs l ++ [10]) ++ [46, 10]
theorem write (t : Tr) (n : Int) (ht : Tz t) (h0 : -9223372036854775808 ≤ n) (h1 : n ≤ 9223372036854775807) : ICall Tryz.prog 23 [.d t.d, .d (I n)] [] (.d (.str (txt t n))) [] := by
  have hi := Str.itoa n h0 h1
  have hil : (Lib.itoa n).length ≤ 22 := by
    have := Lib.itoa_length_le n h0 h1
    omega
  have hd := digs_len t.first
  have hf := ht.first
  have hn := ht.ins
  have loop := str_loop (k := loopOf Tryz.prog 23 0) t.ins (fun i l => Ht t l [(17, .d (.sl (t.ins.map BL))), (18, .d (I (t.ins.map BL).length)), (19, .d (I i))]) (.exit 0) (fun l => Ht t l []) (fun v => digs v ++ [10]) 11000 10001
    (fun x hx => by rw [List.length_append, digs_len]; have := ht.each x hx; simp; omega)
    (fun i l hlt hmem hl e s hh => by
      have := ht.each _ hmem
      rw [← List.append_assoc] at hh
      exact .step hO hm (t1 t i l (l ++ digs (t.ins.getD i default) ++ [10])) ⟨decide_eq_true (by rw [List.length_map]; omega), ⟨rfl, get_map BL t.ins i hlt⟩, digits _ l (by omega), wrap_succ (by omega)⟩ hh)
    (fun l _ => .stop hO hm (t2 t t.ins.length l) (by simp) (decide_eq_false (by rw [List.length_map]; omega)))
    ([49, 10, 98] ++ Lib.itoa n ++ [10] ++ digs t.first ++ [10]) (by simp; omega)
  have hfl : ∀ ls : List (List Bool), (∀ l ∈ ls, l.length ≤ 10000) → (ls.flatMap (fun l => digs l ++ [10])).length ≤ 10001 * ls.length := by
    intro ls
    induction ls with
    | nil => intro _; simp
    | cons x r ih =>
      intro hh
      simp only [List.flatMap_cons, List.length_append, digs_len, List.length_cons, List.length_nil]
      have := ih fun y hy => hh y (by simp [hy])
      have := hh x (by simp)
      omega
  have hfl := hfl t.ins ht.each
  refine callX_ok hO hm (wrt t n ([49, 10, 98] ++ Lib.itoa n ++ [10] ++ digs t.first ++ [10]) ([49, 10, 98] ++ Lib.itoa n ++ [10] ++ digs t.first ++ [10] ++ t.ins.flatMap (fun l => digs l ++ [10])) (txt t n) (Lib.itoa n)) ⟨hi, by omega, ?_, ?_, ?_, loop, ?_, Str.string_ok _ ?_⟩
  · show ([49, 10, 98] ++ Lib.itoa n : List UInt8).length + 1 < _
    simp; omega
  · exact Str.write1 ([49, 10, 98] ++ Lib.itoa n ++ [10]) (by simp; omega)
  · exact digits t.first _ (by simp; omega)
  · exact Str.write [46, 10] _ (by simp only [List.length_append, List.length_cons, List.length_nil]; omega)
  · unfold txt; simp
/-- Does the run show the bad literal? -/
def shown (c : Ci) (t : Tr) (n : Nat) : Bool := decide (t.ins.length ≤ right c t) && (badsS c (stAt c t (t.ins.length - 1)) (t.ins.getD (t.ins.length - 1) default)).getD n default
/-- What witness.Check answers. -/
def wtChk (c : Ci) (t : Tr) (n : Int) : Int :=
  if trChk c t ≠ 0 then trChk c t else if n < 0 then 2 else if n ≥ (c.bads.length : Int) then 2 else if shown c t n.toNat then 0 else 57
section
variable {c : Ci} {t : Tr} (h : Cw c) (ht : Tw t)
include h ht
theorem wcheck (n : Int) : ICall Tryz.prog 13 [.d c.d, .d t.d, .d (I n)] [] (.d (I (wtChk c t n))) [] := by
  have hti := ht.ins
  unfold wtChk
  by_cases c0 : trChk c t ≠ 0
  · rw [if_pos c0]; exact callX_ok hO hm (Wi.c0 c t n (trChk c t)) ⟨states_bad h ht c0, bne_iff_ne.2 c0⟩
  rw [if_neg c0]
  have c0 := Decidable.not_not.1 c0
  have k := ok_of c0
  have k1 := k.some
  have hs := states_good h ht c0
  by_cases c1 : n < 0
  · rw [if_pos c1]; exact callX_ok hO hm (Wi.c1 c t n (states c t)) ⟨hs, rfl, decide_eq_true c1⟩
  rw [if_neg c1]
  by_cases c2 : n ≥ (c.bads.length : Int)
  · rw [if_pos c2]; exact callX_ok hO hm (Wi.c2 c t n (states c t)) ⟨hs, rfl, decide_eq_false c1, decide_eq_true (by rw [List.length_map]; exact c2)⟩
  rw [if_neg c2]
  have d2 : decide (n ≥ (((c.bads.map I).length : Nat) : Int)) = false := decide_eq_false (by rw [List.length_map]; exact c2)
  have hr := right_good h ht c0
  have hl : ((states c t).map BL).length = t.ins.length := by rw [List.length_map]; unfold states; simp
  have e1 : ((((states c t).map BL).length : Nat) : Int) - 1 = ((t.ins.length - 1 : Nat) : Int) := by rw [hl]; omega
  have e2 : (((((states c t).map BL).length : Nat) : Int) - 1).toNat = t.ins.length - 1 := by rw [e1]; omega
  have hlt : t.ins.length - 1 < t.ins.length := by omega
  have es : (states c t).getD (t.ins.length - 1) default = stAt c t (t.ins.length - 1) := by
    unfold states; rw [List.getD_eq_getElem?_getD, List.getElem?_map, List.getElem?_range hlt]; rfl
  have q1 : IntKind.i64.wrap (((((states c t).map BL).length : Nat) : Int) - 1) = ((((states c t).map BL).length : Nat) : Int) - 1 := wrap_id (by omega) (by omega)
  have q2 : ((((states c t).map BL).length : Nat) : Int) - 1 = ((((((states c t).map BL).length : Nat) : Int) - 1).toNat : Int) ∧ ((states c t).map BL)[(((((states c t).map BL).length : Nat) : Int) - 1).toNat]? = some (BL ((states c t).getD (((((states c t).map BL).length : Nat) : Int) - 1).toNat default)) :=
    ⟨by omega, get_map BL (states c t) _ (by rw [e2]; rw [List.length_map] at hl; omega)⟩
  have q3 : ((((states c t).map BL).length : Nat) : Int) - 1 = ((((((states c t).map BL).length : Nat) : Int) - 1).toNat : Int) ∧ (t.ins.map BL)[(((((states c t).map BL).length : Nat) : Int) - 1).toNat]? = some (BL (t.ins.getD (((((states c t).map BL).length : Nat) : Int) - 1).toNat default)) :=
    ⟨by omega, get_map BL t.ins _ (by rw [e2]; exact hlt)⟩
  have hp := props h k.chk (stAt_len k (t.ins.length - 1)) (inp_len k hlt)
  rw [← es] at hp
  rw [← e2] at hp
  have hbl : (badsS c ((states c t).getD (((((states c t).map BL).length : Nat) : Int) - 1).toNat default) (t.ins.getD (((((states c t).map BL).length : Nat) : Int) - 1).toNat default)).length = c.bads.length := by unfold badsS; rw [List.length_map]
  by_cases c3 : ((right c t : Nat) : Int) ≤ ((((states c t).map BL).length : Nat) : Int) - 1
  · have hsh : shown c t n.toNat = false := by
      unfold shown; rw [decide_eq_false (by omega)]; rfl
    rw [hsh, if_neg (by simp)]
    exact callX_ok hO hm (Wi.c3 c t n _ _ _ (states c t)) ⟨hs, rfl, decide_eq_false c1, d2, hr, rfl, q1, q2, q3, hp, rfl, decide_eq_true c3⟩
  · have hsh : shown c t n.toNat = (badsS c ((states c t).getD (((((states c t).map BL).length : Nat) : Int) - 1).toNat default) (t.ins.getD (((((states c t).map BL).length : Nat) : Int) - 1).toNat default)).getD n.toNat default := by
      unfold shown; rw [decide_eq_true (by omega), Bool.true_and, e2, es]
    have q4 : n = (n.toNat : Int) ∧ ((badsS c ((states c t).getD (((((states c t).map BL).length : Nat) : Int) - 1).toNat default) (t.ins.getD (((((states c t).map BL).length : Nat) : Int) - 1).toNat default)).map D.bool)[n.toNat]? = some (D.bool ((badsS c ((states c t).getD (((((states c t).map BL).length : Nat) : Int) - 1).toNat default) (t.ins.getD (((((states c t).map BL).length : Nat) : Int) - 1).toNat default)).getD n.toNat default)) :=
      ⟨by omega, get_map D.bool _ _ (by rw [hbl]; omega)⟩
    rw [hsh]
    cases c4 : (badsS c ((states c t).getD (((((states c t).map BL).length : Nat) : Int) - 1).toNat default) (t.ins.getD (((((states c t).map BL).length : Nat) : Int) - 1).toNat default)).getD n.toNat default with
    | false =>
      rw [if_neg (by simp)]
      exact callX_ok hO hm (Wi.c4 c t n _ _ _ (states c t)) ⟨hs, rfl, decide_eq_false c1, d2, hr, rfl, q1, q2, q3, hp, rfl, decide_eq_false c3, q4, by rw [c4]; rfl⟩
    | true =>
      rw [if_pos rfl]
      exact callX_ok hO hm (Wi.c5 c t n _ _ _ (states c t)) ⟨hs, rfl, decide_eq_false c1, d2, hr, rfl, q1, q2, q3, hp, rfl, decide_eq_false c3, q4, by rw [c4]; rfl⟩
/-- The answer of witness.Write. -/
def wtS (c : Ci) (t : Tr) (n : Int) : List UInt8 := if wtChk c t n = 0 then txt t n else []
theorem Write (hz : Tz t) (n : Int) (h0 : -9223372036854775808 ≤ n) (h1 : n ≤ 9223372036854775807) : ICall Tryz.prog 12 [.d c.d, .d t.d, .d (I n)] [] (.tup [.d (.str (wtS c t n)), .d (I (wtChk c t n))]) [] := by
  have hc := wcheck h ht n
  unfold wtS
  by_cases c0 : wtChk c t n = 0
  · rw [if_pos c0, c0]
    rw [c0] at hc
    exact callX_ok hO hm (w1 c t n (txt t n)) ⟨hc, rfl, write t n hz h0 h1⟩
  · rw [if_neg c0]
    exact callX_ok hO hm (w0 c t n (wtChk c t n)) ⟨hc, bne_iff_ne.2 c0⟩
end
end Go.Proofs.YtccejdncpknbaaaGreatDoor.Sy.Wi
/- strings.TrimPrefix, witness.bools, Read: round by round. -/
namespace Go.Proofs.YtccejdncpknbaaaGreatDoor.Sy.Rd
open Go Go.Proofs.YtccejdncpknbaaaGreatDoor.Ab Go.Proofs.YtccejdncpknbaaaGreatDoor.Sy Go.Proofs.YtccejdncpknbaaaGreatDoor.Sy.Tx Go.Proofs.YtccejdncpknbaaaGreatDoor.Sy.Vl Go.Proofs.YtccejdncpknbaaaGreatDoor.Sy.Tc Go.Proofs.YtccejdncpknbaaaGreatDoor.Sy.Wi
set_option maxRecDepth 1000000
set_option linter.unusedVariables false
def B00 : B := .box [.emp true, .emp true]
def Hb (s : List UInt8) (xs : List D) (sl : List (Nat × V)) : St := ⟨mk 22 ([(0, .d (.str s)), (3, .arr 0)] ++ sl) [], [.lst 4 xs]⟩
def Hr (c : Ci) (s : List UInt8) (n : Int) (r : Bool) (f : List Bool) (acc : List D) (sl : List (Nat × V)) : St := ⟨mk 115 ([(1, .d (.str s)), (2, .ptr 0 0), (4, .ptr 1 0), (10, .d (I n)), (12, .ptr 2 0), (13, .d (.bool r))] ++ sl) [], [Bc c, B00, .box [.d (BL f), .arr 3], .lst 28 acc]⟩
def Er (c : Ci) (s : List UInt8) (n : Int) (r : Bool) (f : List Bool) (acc : List D) : St := ⟨mk 115 [(1, .d (.str s)), (2, .ptr 0 0), (4, .ptr 1 0), (10, .d (I n)), (12, .ptr 2 0), (13, .d (.bool r))] [], [Bc c, B00, .box [.d (BL f), .d (.sl acc)], .dead]⟩
section
variable (c : Ci) (t : Tr) (n x e : Int) (i j u k m : Nat) (v f f2 : List Bool) (b b2 : Bool) (xs ys acc : List D) (s s2 p : List UInt8) (ls lr : List (List UInt8)) (q : UInt8)
theorem hp0  : callX Tryz.prog wr false O 75 [.d (.str s), .d (.str p)] [] [It.br true, It.cut 0 k, It.br true] = some (V.d (D.bool true), [],
  [decide ((↑s.length : Int) ≥ (↑p.length : Int)) = true,
   (↑0 : Int) = (↑0 : Int) ∧ (↑p.length : Int) = (↑k : Int) ∧ 0 ≤ k ∧ k ≤ s.length,
   (List.take (k - 0) (List.drop 0 s) == p) = true]) := by kernel_rfl
theorem hp1  : callX Tryz.prog wr false O 75 [.d (.str s), .d (.str p)] [] [It.br true, It.cut 0 k, It.br false] = some (V.d (D.bool false), [],
  [decide ((↑s.length : Int) ≥ (↑p.length : Int)) = true,
   (↑0 : Int) = (↑0 : Int) ∧ (↑p.length : Int) = (↑k : Int) ∧ 0 ≤ k ∧ k ≤ s.length,
   (List.take (k - 0) (List.drop 0 s) == p) = false]) := by kernel_rfl
theorem hp2  : callX Tryz.prog wr false O 75 [.d (.str s), .d (.str p)] [] [It.br false] = some (V.d (D.bool false), [],
  [decide ((↑s.length : Int) ≥ (↑p.length : Int)) = false]) := by kernel_rfl
theorem tp1  : callX Tryz.prog wr false O 49 [.d (.str s), .d (.str p)] [] [It.icall [] (V.d (D.bool true)) [], It.cut p.length s.length] = some (V.d (D.str (List.take (s.length - p.length) (List.drop p.length s))), [],
  [ICall Tryz.prog 75 [V.d (D.str s), V.d (D.str p)] [] (V.d (D.bool true)) [],
   (↑p.length : Int) = (↑p.length : Int) ∧ (↑s.length : Int) = (↑s.length : Int) ∧ p.length ≤ s.length ∧ s.length ≤ s.length]) := by kernel_rfl
theorem tp0  : callX Tryz.prog wr false O 49 [.d (.str s), .d (.str p)] [] [It.icall [] (V.d (D.bool false)) []] = some (V.d (D.str s), [],
  [ICall Tryz.prog 75 [V.d (D.str s), V.d (D.str p)] [] (V.d (D.bool false)) []]) := by kernel_rfl
theorem tp  : callX Tryz.prog wr false O 21 [.d (.str s), .d (.str p)] [] [It.icall [] (V.d (D.str s2)) []] = some (V.d (D.str s2), [],
  [ICall Tryz.prog 49 [V.d (D.str s), V.d (D.str p)] [] (V.d (D.str s2)) []]) := by kernel_rfl
theorem b1 : round Tryz.prog wr false O (loopOf Tryz.prog 22 0) (Hb s xs [(9, .d (I m)), (10, .d (I i))]) [It.br true, It.by i q, It.br true, It.ix i, It.is (↑(i + 1) : Int)] [0, 3, 9, 10] 1 = some (.normal, Hb s (xs.set i (.bool true)) [(9, .d (I m)), (10, .d (I (i + 1 : Nat)))],
  [decide ((↑i : Int) < (↑m : Int)) = true,
   (↑i : Int) = (↑i : Int) ∧ s[i]? = some q,
   ((↑q.toNat : Int) == 49) = true,
   (↑i : Int) = (↑i : Int) ∧ i < xs.length,
   IntKind.i64.wrap ((↑i : Int) + 1) = (↑(i + 1) : Int)]) := by kernel_rfl
theorem b2_ : round Tryz.prog wr false O (loopOf Tryz.prog 22 0) (Hb s xs [(9, .d (I m)), (10, .d (I i))]) [It.br true, It.by i q, It.br false, It.ix i, It.is (↑(i + 1) : Int)] [0, 3, 9, 10] 1 = some (.normal, Hb s (xs.set i (.bool false)) [(9, .d (I m)), (10, .d (I (i + 1 : Nat)))],
  [decide ((↑i : Int) < (↑m : Int)) = true,
   (↑i : Int) = (↑i : Int) ∧ s[i]? = some q,
   ((↑q.toNat : Int) == 49) = false,
   (↑i : Int) = (↑i : Int) ∧ i < xs.length,
   IntKind.i64.wrap ((↑i : Int) + 1) = (↑(i + 1) : Int)]) := by kernel_rfl
theorem b3 : round Tryz.prog wr false O (loopOf Tryz.prog 22 0) (Hb s xs [(9, .d (I m)), (10, .d (I i))]) [It.br false] [0, 3] 1 = some (.exit 0, Hb s xs [],
  [decide ((↑i : Int) < (↑m : Int)) = false]) := by kernel_rfl
theorem bw  : callX Tryz.prog wr false O 22 [.d (.str s)] [] [It.len s.length, It.lp [0, 3, 9, 10] (Ex.exit 0) (Hb s ys [])] = some (V.own 4 ys, [],
  [(↑s.length : Int) = (↑s.length : Int) ∧ (↑s.length : Int) = (↑s.length : Int) ∧ s.length ≤ maxItems,
   GoesL Tryz.prog (loopOf Tryz.prog 22 0) (⟨mk 22 [(0, V.d (D.str s)), (3, V.arr 0), (9, V.d (D.int IntKind.i64 (↑(List.replicate s.length (D.bool false)).length : Int))), (10, V.d (D.int IntKind.i64 0))] [], [B.lst 4 (List.replicate s.length (D.bool false))]⟩) (Ex.exit 0) (Hb s ys [])]) := by kernel_rfl
theorem r1 : round Tryz.prog wr false O (loopOf Tryz.prog 7 0) (Hr c s n true f acc [(73, .d (.sl (lr.map D.str))), (74, .d (I (lr.map D.str).length)), (75, .d (I i))]) [It.br true, It.el i (D.str (lr.getD i default)), It.icall [] (V.d (BL v)) [], It.raw, It.raw, It.raw, It.br true, It.is (↑(i + 1) : Int)] [1, 2, 4, 10, 12, 13, 73, 74, 75] 4 = some (.normal, Hr c s n true f (acc ++ [BL v]) [(73, .d (.sl (lr.map D.str))), (74, .d (I (lr.map D.str).length)), (75, .d (I (i + 1 : Nat)))],
  [decide ((↑i : Int) < (↑(List.map D.str lr).length : Int)) = true,
   (↑i : Int) = (↑i : Int) ∧ (List.map D.str lr)[i]? = some (D.str (lr.getD i default)),
   ICall Tryz.prog 22 [V.d (D.str (lr.getD i default))] [] (V.d (BL v)) [],
   acc.length + [BL v].length ≤ maxItems,
   ((↑(lr.getD i default).length : Int) == c.ins) = true,
   IntKind.i64.wrap ((↑i : Int) + 1) = (↑(i + 1) : Int)]) := by kernel_rfl
theorem r2 : round Tryz.prog wr false O (loopOf Tryz.prog 7 0) (Hr c s n true f acc [(73, .d (.sl (lr.map D.str))), (74, .d (I (lr.map D.str).length)), (75, .d (I i))]) [It.br true, It.el i (D.str (lr.getD i default)), It.icall [] (V.d (BL v)) [], It.raw, It.raw, It.raw, It.br false, It.is (↑(i + 1) : Int)] [1, 2, 4, 10, 12, 13, 73, 74, 75] 4 = some (.normal, Hr c s n false f (acc ++ [BL v]) [(73, .d (.sl (lr.map D.str))), (74, .d (I (lr.map D.str).length)), (75, .d (I (i + 1 : Nat)))],
  [decide ((↑i : Int) < (↑(List.map D.str lr).length : Int)) = true,
   (↑i : Int) = (↑i : Int) ∧ (List.map D.str lr)[i]? = some (D.str (lr.getD i default)),
   ICall Tryz.prog 22 [V.d (D.str (lr.getD i default))] [] (V.d (BL v)) [],
   acc.length + [BL v].length ≤ maxItems,
   ((↑(lr.getD i default).length : Int) == c.ins) = false,
   IntKind.i64.wrap ((↑i : Int) + 1) = (↑(i + 1) : Int)]) := by kernel_rfl
theorem r3 : round Tryz.prog wr false O (loopOf Tryz.prog 7 0) (Hr c s n true f acc [(73, .d (.sl (lr.map D.str))), (74, .d (I (lr.map D.str).length)), (75, .d (I i))]) [It.br false] [1, 2, 4, 10, 12, 13] 4 = some (.exit 0, Hr c s n true f acc [],
  [decide ((↑i : Int) < (↑(List.map D.str lr).length : Int)) = false]) := by kernel_rfl
theorem r4 : round Tryz.prog wr false O (loopOf Tryz.prog 7 0) (Hr c s n false f acc [(73, .d (.sl (lr.map D.str))), (74, .d (I (lr.map D.str).length)), (75, .d (I i))]) [It.br true, It.el i (D.str (lr.getD i default)), It.icall [] (V.d (BL v)) [], It.raw, It.raw, It.raw, It.is (↑(i + 1) : Int)] [1, 2, 4, 10, 12, 13, 73, 74, 75] 4 = some (.normal, Hr c s n false f (acc ++ [BL v]) [(73, .d (.sl (lr.map D.str))), (74, .d (I (lr.map D.str).length)), (75, .d (I (i + 1 : Nat)))],
  [decide ((↑i : Int) < (↑(List.map D.str lr).length : Int)) = true,
   (↑i : Int) = (↑i : Int) ∧ (List.map D.str lr)[i]? = some (D.str (lr.getD i default)),
   ICall Tryz.prog 22 [V.d (D.str (lr.getD i default))] [] (V.d (BL v)) [],
   acc.length + [BL v].length ≤ maxItems,
   IntKind.i64.wrap ((↑i : Int) + 1) = (↑(i + 1) : Int)]) := by kernel_rfl
theorem r5 : round Tryz.prog wr false O (loopOf Tryz.prog 7 0) (Hr c s n false f acc [(73, .d (.sl (lr.map D.str))), (74, .d (I (lr.map D.str).length)), (75, .d (I i))]) [It.br false] [1, 2, 4, 10, 12, 13] 4 = some (.exit 0, Hr c s n false f acc [],
  [decide ((↑i : Int) < (↑(List.map D.str lr).length : Int)) = false]) := by kernel_rfl
theorem e0  : callX Tryz.prog wr false O 7 [.d c.d, .d (.str s)] [] [It.icall [] (V.d (I e)) [], It.br true] = some (V.tup [V.agg [V.emp true, V.emp true], V.d (D.int IntKind.i64 0), V.d (D.int IntKind.i64 e)], [],
  [ICall Tryz.prog 18 [V.d (D.agg [I c.ins, D.sl (List.map Lt.d c.lats), D.sl (List.map An.d c.ands), L c.bads, L c.cons])] [] (V.d (I e)) [],
   (e != 0) = true]) := by kernel_rfl
theorem e1  : callX Tryz.prog wr false O 7 [.d c.d, .d (.str s)] [] [It.icall [] (V.d (I 0)) [], It.br false, It.icall [] (V.d (D.sl (List.map D.str ls))) [], It.br true] = some (V.tup [V.agg [V.emp true, V.emp true], V.d (D.int IntKind.i64 0), V.d (D.int IntKind.i64 12)], [],
  [ICall Tryz.prog 18 [V.d (D.agg [I c.ins, D.sl (List.map Lt.d c.lats), D.sl (List.map An.d c.ands), L c.bads, L c.cons])] [] (V.d (I 0)) [],
   (0 != 0) = false,
   ICall Tryz.prog 19 [V.d (D.str s), V.d (D.str (ByteArray.mk #[10]).data.toList)] [] (V.d (D.sl (List.map D.str ls))) [],
   decide ((↑(List.map D.str ls).length : Int) < 6) = true]) := by kernel_rfl
theorem e2  : callX Tryz.prog wr false O 7 [.d c.d, .d (.str s)] [] [It.icall [] (V.d (I 0)) [], It.br false, It.icall [] (V.d (D.sl (List.map D.str ls))) [], It.br false, It.is ((↑(List.map D.str ls).length : Int) - 5), It.br true] = some (V.tup [V.agg [V.emp true, V.emp true], V.d (D.int IntKind.i64 0), V.d (D.int IntKind.i64 12)], [],
  [ICall Tryz.prog 18 [V.d (D.agg [I c.ins, D.sl (List.map Lt.d c.lats), D.sl (List.map An.d c.ands), L c.bads, L c.cons])] [] (V.d (I 0)) [],
   (0 != 0) = false,
   ICall Tryz.prog 19 [V.d (D.str s), V.d (D.str (ByteArray.mk #[10]).data.toList)] [] (V.d (D.sl (List.map D.str ls))) [],
   decide ((↑(List.map D.str ls).length : Int) < 6) = false,
   IntKind.i64.wrap ((↑(List.map D.str ls).length : Int) - 5) = (↑(List.map D.str ls).length : Int) - 5,
   decide ((↑(List.map D.str ls).length : Int) - 5 > 100) = true]) := by kernel_rfl
theorem e3  : callX Tryz.prog wr false O 7 [.d c.d, .d (.str s)] [] [It.icall [] (V.d (I 0)) [], It.br false, It.icall [] (V.d (D.sl (List.map D.str ls))) [], It.br false, It.is ((↑(List.map D.str ls).length : Int) - 5), It.br false, It.el 1 (D.str (ls.getD 1 default)), It.br true] = some (V.tup [V.agg [V.emp true, V.emp true], V.d (D.int IntKind.i64 0), V.d (D.int IntKind.i64 12)], [],
  [ICall Tryz.prog 18 [V.d (D.agg [I c.ins, D.sl (List.map Lt.d c.lats), D.sl (List.map An.d c.ands), L c.bads, L c.cons])] [] (V.d (I 0)) [],
   (0 != 0) = false,
   ICall Tryz.prog 19 [V.d (D.str s), V.d (D.str (ByteArray.mk #[10]).data.toList)] [] (V.d (D.sl (List.map D.str ls))) [],
   decide ((↑(List.map D.str ls).length : Int) < 6) = false,
   IntKind.i64.wrap ((↑(List.map D.str ls).length : Int) - 5) = (↑(List.map D.str ls).length : Int) - 5,
   decide ((↑(List.map D.str ls).length : Int) - 5 > 100) = false,
   1 = (↑1 : Int) ∧ (List.map D.str ls)[1]? = some (D.str (ls.getD 1 default)),
   decide ((↑(ls.getD 1 default).length : Int) > 10) = true]) := by kernel_rfl
theorem e4  : callX Tryz.prog wr false O 7 [.d c.d, .d (.str s)] [] [It.icall [] (V.d (I 0)) [], It.br false, It.icall [] (V.d (D.sl (List.map D.str ls))) [], It.br false, It.is ((↑(List.map D.str ls).length : Int) - 5), It.br false, It.el 1 (D.str (ls.getD 1 default)), It.br false, It.el 1 (D.str (ls.getD 1 default)), It.icall [] (V.d (D.str s2)) [], It.icall [] (V.tup [V.d (I 0), V.d D.iany]) [], It.el 2 (D.str (ls.getD 2 default)), It.icall [] (V.d (BL f)) [], It.is ((↑(List.map D.str ls).length : Int) - 2), It.cut 3 k, It.own, It.lp [1, 2, 4, 10, 12, 13, 73, 74, 75] (Ex.exit 0) (Er c s 0 false f acc), It.br true] = some (V.tup [V.agg [V.emp true, V.emp true], V.d (D.int IntKind.i64 0), V.d (D.int IntKind.i64 12)], [],
  [ICall Tryz.prog 18 [V.d (D.agg [I c.ins, D.sl (List.map Lt.d c.lats), D.sl (List.map An.d c.ands), L c.bads, L c.cons])] [] (V.d (I 0)) [],
   (0 != 0) = false,
   ICall Tryz.prog 19 [V.d (D.str s), V.d (D.str (ByteArray.mk #[10]).data.toList)] [] (V.d (D.sl (List.map D.str ls))) [],
   decide ((↑(List.map D.str ls).length : Int) < 6) = false,
   IntKind.i64.wrap ((↑(List.map D.str ls).length : Int) - 5) = (↑(List.map D.str ls).length : Int) - 5,
   decide ((↑(List.map D.str ls).length : Int) - 5 > 100) = false,
   1 = (↑1 : Int) ∧ (List.map D.str ls)[1]? = some (D.str (ls.getD 1 default)),
   decide ((↑(ls.getD 1 default).length : Int) > 10) = false,
   1 = (↑1 : Int) ∧ (List.map D.str ls)[1]? = some (D.str (ls.getD 1 default)),
   ICall Tryz.prog 21 [V.d (D.str (ls.getD 1 default)), V.d (D.str (ByteArray.mk #[98]).data.toList)] [] (V.d (D.str s2)) [],
   ICall Tryz.prog 20 [V.d (D.str s2)] [] (V.tup [V.d (I 0), V.d D.iany]) [],
   2 = (↑2 : Int) ∧ (List.map D.str ls)[2]? = some (D.str (ls.getD 2 default)),
   ICall Tryz.prog 22 [V.d (D.str (ls.getD 2 default))] [] (V.d (BL f)) [],
   IntKind.i64.wrap ((↑(List.map D.str ls).length : Int) - 2) = (↑(List.map D.str ls).length : Int) - 2,
   3 = (↑3 : Int) ∧ (↑(List.map D.str ls).length : Int) - 2 = (↑k : Int) ∧ 3 ≤ k ∧ k ≤ (List.map D.str ls).length,
   ∀ (y : D), y ∈ List.map D.str ls → y.cells.length = (fun x => x.size) Tryz.prog.types[9],
   GoesL Tryz.prog (loopOf Tryz.prog 7 0) (⟨mk 115 [(1, V.d (D.str s)), (2, V.ptr 0 0), (4, V.ptr 1 0), (10, V.d (D.int IntKind.i64 0)), (12, V.ptr 2 0), (13, V.d (D.bool false)), (73, V.d (D.sl (List.take (k - 3) (List.drop 3 (List.map D.str ls))))), (74, V.d (D.int IntKind.i64 (↑(List.take (k - 3) (List.drop 3 (List.map D.str ls))).length : Int))), (75, V.d (D.int IntKind.i64 0))] [], [B.bx none [V.d (D.int IntKind.i64 c.ins), V.d (D.sl (List.map Lt.d c.lats)), V.d (D.sl (List.map An.d c.ands)), V.d (D.sl (List.map I c.bads)), V.d (D.sl (List.map I c.cons))], B.bx none [V.emp true, V.emp true], B.bx none [V.d (D.sl (List.map D.bool f)), V.emp true]]⟩) (Ex.exit 0) (Er c s 0 false f acc),
   (!false) = true]) := by kernel_rfl
theorem e5  : callX Tryz.prog wr false O 7 [.d c.d, .d (.str s)] [] [It.icall [] (V.d (I 0)) [], It.br false, It.icall [] (V.d (D.sl (List.map D.str ls))) [], It.br false, It.is ((↑(List.map D.str ls).length : Int) - 5), It.br false, It.el 1 (D.str (ls.getD 1 default)), It.br false, It.el 1 (D.str (ls.getD 1 default)), It.icall [] (V.d (D.str s2)) [], It.icall [] (V.tup [V.d (I n), V.d D.inil]) [], It.el 2 (D.str (ls.getD 2 default)), It.icall [] (V.d (BL f)) [], It.br true, It.br true, It.is ((↑(List.map D.str ls).length : Int) - 2), It.cut 3 k, It.own, It.lp [1, 2, 4, 10, 12, 13, 73, 74, 75] (Ex.exit 0) (Er c s n false f acc), It.br true] = some (V.tup [V.agg [V.emp true, V.emp true], V.d (D.int IntKind.i64 0), V.d (D.int IntKind.i64 12)], [],
  [ICall Tryz.prog 18 [V.d (D.agg [I c.ins, D.sl (List.map Lt.d c.lats), D.sl (List.map An.d c.ands), L c.bads, L c.cons])] [] (V.d (I 0)) [],
   (0 != 0) = false,
   ICall Tryz.prog 19 [V.d (D.str s), V.d (D.str (ByteArray.mk #[10]).data.toList)] [] (V.d (D.sl (List.map D.str ls))) [],
   decide ((↑(List.map D.str ls).length : Int) < 6) = false,
   IntKind.i64.wrap ((↑(List.map D.str ls).length : Int) - 5) = (↑(List.map D.str ls).length : Int) - 5,
   decide ((↑(List.map D.str ls).length : Int) - 5 > 100) = false,
   1 = (↑1 : Int) ∧ (List.map D.str ls)[1]? = some (D.str (ls.getD 1 default)),
   decide ((↑(ls.getD 1 default).length : Int) > 10) = false,
   1 = (↑1 : Int) ∧ (List.map D.str ls)[1]? = some (D.str (ls.getD 1 default)),
   ICall Tryz.prog 21 [V.d (D.str (ls.getD 1 default)), V.d (D.str (ByteArray.mk #[98]).data.toList)] [] (V.d (D.str s2)) [],
   ICall Tryz.prog 20 [V.d (D.str s2)] [] (V.tup [V.d (I n), V.d D.inil]) [],
   2 = (↑2 : Int) ∧ (List.map D.str ls)[2]? = some (D.str (ls.getD 2 default)),
   ICall Tryz.prog 22 [V.d (D.str (ls.getD 2 default))] [] (V.d (BL f)) [],
   decide (n ≥ 0) = true,
   ((↑(List.map D.bool f).length : Int) == (↑(List.map Lt.d c.lats).length : Int)) = true,
   IntKind.i64.wrap ((↑(List.map D.str ls).length : Int) - 2) = (↑(List.map D.str ls).length : Int) - 2,
   3 = (↑3 : Int) ∧ (↑(List.map D.str ls).length : Int) - 2 = (↑k : Int) ∧ 3 ≤ k ∧ k ≤ (List.map D.str ls).length,
   ∀ (y : D), y ∈ List.map D.str ls → y.cells.length = (fun x => x.size) Tryz.prog.types[9],
   GoesL Tryz.prog (loopOf Tryz.prog 7 0) (⟨mk 115 [(1, V.d (D.str s)), (2, V.ptr 0 0), (4, V.ptr 1 0), (10, V.d (D.int IntKind.i64 n)), (12, V.ptr 2 0), (13, V.d (D.bool true)), (73, V.d (D.sl (List.take (k - 3) (List.drop 3 (List.map D.str ls))))), (74, V.d (D.int IntKind.i64 (↑(List.take (k - 3) (List.drop 3 (List.map D.str ls))).length : Int))), (75, V.d (D.int IntKind.i64 0))] [], [B.bx none [V.d (D.int IntKind.i64 c.ins), V.d (D.sl (List.map Lt.d c.lats)), V.d (D.sl (List.map An.d c.ands)), V.d (D.sl (List.map I c.bads)), V.d (D.sl (List.map I c.cons))], B.bx none [V.emp true, V.emp true], B.bx none [V.d (D.sl (List.map D.bool f)), V.emp true]]⟩) (Ex.exit 0) (Er c s n false f acc),
   (!false) = true]) := by kernel_rfl
theorem e6  : callX Tryz.prog wr false O 7 [.d c.d, .d (.str s)] [] [It.icall [] (V.d (I 0)) [], It.br false, It.icall [] (V.d (D.sl (List.map D.str ls))) [], It.br false, It.is ((↑(List.map D.str ls).length : Int) - 5), It.br false, It.el 1 (D.str (ls.getD 1 default)), It.br false, It.el 1 (D.str (ls.getD 1 default)), It.icall [] (V.d (D.str s2)) [], It.icall [] (V.tup [V.d (I n), V.d D.inil]) [], It.el 2 (D.str (ls.getD 2 default)), It.icall [] (V.d (BL f)) [], It.br true, It.br false, It.is ((↑(List.map D.str ls).length : Int) - 2), It.cut 3 k, It.own, It.lp [1, 2, 4, 10, 12, 13, 73, 74, 75] (Ex.exit 0) (Er c s n false f acc), It.br true] = some (V.tup [V.agg [V.emp true, V.emp true], V.d (D.int IntKind.i64 0), V.d (D.int IntKind.i64 12)], [],
  [ICall Tryz.prog 18 [V.d (D.agg [I c.ins, D.sl (List.map Lt.d c.lats), D.sl (List.map An.d c.ands), L c.bads, L c.cons])] [] (V.d (I 0)) [],
   (0 != 0) = false,
   ICall Tryz.prog 19 [V.d (D.str s), V.d (D.str (ByteArray.mk #[10]).data.toList)] [] (V.d (D.sl (List.map D.str ls))) [],
   decide ((↑(List.map D.str ls).length : Int) < 6) = false,
   IntKind.i64.wrap ((↑(List.map D.str ls).length : Int) - 5) = (↑(List.map D.str ls).length : Int) - 5,
   decide ((↑(List.map D.str ls).length : Int) - 5 > 100) = false,
   1 = (↑1 : Int) ∧ (List.map D.str ls)[1]? = some (D.str (ls.getD 1 default)),
   decide ((↑(ls.getD 1 default).length : Int) > 10) = false,
   1 = (↑1 : Int) ∧ (List.map D.str ls)[1]? = some (D.str (ls.getD 1 default)),
   ICall Tryz.prog 21 [V.d (D.str (ls.getD 1 default)), V.d (D.str (ByteArray.mk #[98]).data.toList)] [] (V.d (D.str s2)) [],
   ICall Tryz.prog 20 [V.d (D.str s2)] [] (V.tup [V.d (I n), V.d D.inil]) [],
   2 = (↑2 : Int) ∧ (List.map D.str ls)[2]? = some (D.str (ls.getD 2 default)),
   ICall Tryz.prog 22 [V.d (D.str (ls.getD 2 default))] [] (V.d (BL f)) [],
   decide (n ≥ 0) = true,
   ((↑(List.map D.bool f).length : Int) == (↑(List.map Lt.d c.lats).length : Int)) = false,
   IntKind.i64.wrap ((↑(List.map D.str ls).length : Int) - 2) = (↑(List.map D.str ls).length : Int) - 2,
   3 = (↑3 : Int) ∧ (↑(List.map D.str ls).length : Int) - 2 = (↑k : Int) ∧ 3 ≤ k ∧ k ≤ (List.map D.str ls).length,
   ∀ (y : D), y ∈ List.map D.str ls → y.cells.length = (fun x => x.size) Tryz.prog.types[9],
   GoesL Tryz.prog (loopOf Tryz.prog 7 0) (⟨mk 115 [(1, V.d (D.str s)), (2, V.ptr 0 0), (4, V.ptr 1 0), (10, V.d (D.int IntKind.i64 n)), (12, V.ptr 2 0), (13, V.d (D.bool false)), (73, V.d (D.sl (List.take (k - 3) (List.drop 3 (List.map D.str ls))))), (74, V.d (D.int IntKind.i64 (↑(List.take (k - 3) (List.drop 3 (List.map D.str ls))).length : Int))), (75, V.d (D.int IntKind.i64 0))] [], [B.bx none [V.d (D.int IntKind.i64 c.ins), V.d (D.sl (List.map Lt.d c.lats)), V.d (D.sl (List.map An.d c.ands)), V.d (D.sl (List.map I c.bads)), V.d (D.sl (List.map I c.cons))], B.bx none [V.emp true, V.emp true], B.bx none [V.d (D.sl (List.map D.bool f)), V.emp true]]⟩) (Ex.exit 0) (Er c s n false f acc),
   (!false) = true]) := by kernel_rfl
theorem e7  : callX Tryz.prog wr false O 7 [.d c.d, .d (.str s)] [] [It.icall [] (V.d (I 0)) [], It.br false, It.icall [] (V.d (D.sl (List.map D.str ls))) [], It.br false, It.is ((↑(List.map D.str ls).length : Int) - 5), It.br false, It.el 1 (D.str (ls.getD 1 default)), It.br false, It.el 1 (D.str (ls.getD 1 default)), It.icall [] (V.d (D.str s2)) [], It.icall [] (V.tup [V.d (I n), V.d D.inil]) [], It.el 2 (D.str (ls.getD 2 default)), It.icall [] (V.d (BL f)) [], It.br false, It.is ((↑(List.map D.str ls).length : Int) - 2), It.cut 3 k, It.own, It.lp [1, 2, 4, 10, 12, 13, 73, 74, 75] (Ex.exit 0) (Er c s n false f acc), It.br true] = some (V.tup [V.agg [V.emp true, V.emp true], V.d (D.int IntKind.i64 0), V.d (D.int IntKind.i64 12)], [],
  [ICall Tryz.prog 18 [V.d (D.agg [I c.ins, D.sl (List.map Lt.d c.lats), D.sl (List.map An.d c.ands), L c.bads, L c.cons])] [] (V.d (I 0)) [],
   (0 != 0) = false,
   ICall Tryz.prog 19 [V.d (D.str s), V.d (D.str (ByteArray.mk #[10]).data.toList)] [] (V.d (D.sl (List.map D.str ls))) [],
   decide ((↑(List.map D.str ls).length : Int) < 6) = false,
   IntKind.i64.wrap ((↑(List.map D.str ls).length : Int) - 5) = (↑(List.map D.str ls).length : Int) - 5,
   decide ((↑(List.map D.str ls).length : Int) - 5 > 100) = false,
   1 = (↑1 : Int) ∧ (List.map D.str ls)[1]? = some (D.str (ls.getD 1 default)),
   decide ((↑(ls.getD 1 default).length : Int) > 10) = false,
   1 = (↑1 : Int) ∧ (List.map D.str ls)[1]? = some (D.str (ls.getD 1 default)),
   ICall Tryz.prog 21 [V.d (D.str (ls.getD 1 default)), V.d (D.str (ByteArray.mk #[98]).data.toList)] [] (V.d (D.str s2)) [],
   ICall Tryz.prog 20 [V.d (D.str s2)] [] (V.tup [V.d (I n), V.d D.inil]) [],
   2 = (↑2 : Int) ∧ (List.map D.str ls)[2]? = some (D.str (ls.getD 2 default)),
   ICall Tryz.prog 22 [V.d (D.str (ls.getD 2 default))] [] (V.d (BL f)) [],
   decide (n ≥ 0) = false,
   IntKind.i64.wrap ((↑(List.map D.str ls).length : Int) - 2) = (↑(List.map D.str ls).length : Int) - 2,
   3 = (↑3 : Int) ∧ (↑(List.map D.str ls).length : Int) - 2 = (↑k : Int) ∧ 3 ≤ k ∧ k ≤ (List.map D.str ls).length,
   ∀ (y : D), y ∈ List.map D.str ls → y.cells.length = (fun x => x.size) Tryz.prog.types[9],
   GoesL Tryz.prog (loopOf Tryz.prog 7 0) (⟨mk 115 [(1, V.d (D.str s)), (2, V.ptr 0 0), (4, V.ptr 1 0), (10, V.d (D.int IntKind.i64 n)), (12, V.ptr 2 0), (13, V.d (D.bool false)), (73, V.d (D.sl (List.take (k - 3) (List.drop 3 (List.map D.str ls))))), (74, V.d (D.int IntKind.i64 (↑(List.take (k - 3) (List.drop 3 (List.map D.str ls))).length : Int))), (75, V.d (D.int IntKind.i64 0))] [], [B.bx none [V.d (D.int IntKind.i64 c.ins), V.d (D.sl (List.map Lt.d c.lats)), V.d (D.sl (List.map An.d c.ands)), V.d (D.sl (List.map I c.bads)), V.d (D.sl (List.map I c.cons))], B.bx none [V.emp true, V.emp true], B.bx none [V.d (D.sl (List.map D.bool f)), V.emp true]]⟩) (Ex.exit 0) (Er c s n false f acc),
   (!false) = true]) := by kernel_rfl
theorem e8  : callX Tryz.prog wr false O 7 [.d c.d, .d (.str s)] [] [It.icall [] (V.d (I 0)) [], It.br false, It.icall [] (V.d (D.sl (List.map D.str ls))) [], It.br false, It.is ((↑(List.map D.str ls).length : Int) - 5), It.br false, It.el 1 (D.str (ls.getD 1 default)), It.br false, It.el 1 (D.str (ls.getD 1 default)), It.icall [] (V.d (D.str s2)) [], It.icall [] (V.tup [V.d (I n), V.d D.inil]) [], It.el 2 (D.str (ls.getD 2 default)), It.icall [] (V.d (BL f)) [], It.br true, It.br true, It.is ((↑(List.map D.str ls).length : Int) - 2), It.cut 3 k, It.own, It.lp [1, 2, 4, 10, 12, 13, 73, 74, 75] (Ex.exit 0) (Er c s n true f acc), It.br false, It.icall [] (V.d (D.str p)) [], It.br true] = some (V.tup [V.agg [V.emp true, V.emp true], V.d (D.int IntKind.i64 0), V.d (D.int IntKind.i64 12)], [],
  [ICall Tryz.prog 18 [V.d (D.agg [I c.ins, D.sl (List.map Lt.d c.lats), D.sl (List.map An.d c.ands), L c.bads, L c.cons])] [] (V.d (I 0)) [],
   (0 != 0) = false,
   ICall Tryz.prog 19 [V.d (D.str s), V.d (D.str (ByteArray.mk #[10]).data.toList)] [] (V.d (D.sl (List.map D.str ls))) [],
   decide ((↑(List.map D.str ls).length : Int) < 6) = false,
   IntKind.i64.wrap ((↑(List.map D.str ls).length : Int) - 5) = (↑(List.map D.str ls).length : Int) - 5,
   decide ((↑(List.map D.str ls).length : Int) - 5 > 100) = false,
   1 = (↑1 : Int) ∧ (List.map D.str ls)[1]? = some (D.str (ls.getD 1 default)),
   decide ((↑(ls.getD 1 default).length : Int) > 10) = false,
   1 = (↑1 : Int) ∧ (List.map D.str ls)[1]? = some (D.str (ls.getD 1 default)),
   ICall Tryz.prog 21 [V.d (D.str (ls.getD 1 default)), V.d (D.str (ByteArray.mk #[98]).data.toList)] [] (V.d (D.str s2)) [],
   ICall Tryz.prog 20 [V.d (D.str s2)] [] (V.tup [V.d (I n), V.d D.inil]) [],
   2 = (↑2 : Int) ∧ (List.map D.str ls)[2]? = some (D.str (ls.getD 2 default)),
   ICall Tryz.prog 22 [V.d (D.str (ls.getD 2 default))] [] (V.d (BL f)) [],
   decide (n ≥ 0) = true,
   ((↑(List.map D.bool f).length : Int) == (↑(List.map Lt.d c.lats).length : Int)) = true,
   IntKind.i64.wrap ((↑(List.map D.str ls).length : Int) - 2) = (↑(List.map D.str ls).length : Int) - 2,
   3 = (↑3 : Int) ∧ (↑(List.map D.str ls).length : Int) - 2 = (↑k : Int) ∧ 3 ≤ k ∧ k ≤ (List.map D.str ls).length,
   ∀ (y : D), y ∈ List.map D.str ls → y.cells.length = (fun x => x.size) Tryz.prog.types[9],
   GoesL Tryz.prog (loopOf Tryz.prog 7 0) (⟨mk 115 [(1, V.d (D.str s)), (2, V.ptr 0 0), (4, V.ptr 1 0), (10, V.d (D.int IntKind.i64 n)), (12, V.ptr 2 0), (13, V.d (D.bool true)), (73, V.d (D.sl (List.take (k - 3) (List.drop 3 (List.map D.str ls))))), (74, V.d (D.int IntKind.i64 (↑(List.take (k - 3) (List.drop 3 (List.map D.str ls))).length : Int))), (75, V.d (D.int IntKind.i64 0))] [], [B.bx none [V.d (D.int IntKind.i64 c.ins), V.d (D.sl (List.map Lt.d c.lats)), V.d (D.sl (List.map An.d c.ands)), V.d (D.sl (List.map I c.bads)), V.d (D.sl (List.map I c.cons))], B.bx none [V.emp true, V.emp true], B.bx none [V.d (D.sl (List.map D.bool f)), V.emp true]]⟩) (Ex.exit 0) (Er c s n true f acc),
   (!true) = false,
   ICall Tryz.prog 23 [V.d (D.agg [BL f, D.sl acc]), V.d (I n)] [] (V.d (D.str p)) [],
   (!p == s) = true]) := by kernel_rfl
theorem e9  : callX Tryz.prog wr false O 7 [.d c.d, .d (.str s)] [] [It.icall [] (V.d (I 0)) [], It.br false, It.icall [] (V.d (D.sl (List.map D.str ls))) [], It.br false, It.is ((↑(List.map D.str ls).length : Int) - 5), It.br false, It.el 1 (D.str (ls.getD 1 default)), It.br false, It.el 1 (D.str (ls.getD 1 default)), It.icall [] (V.d (D.str s2)) [], It.icall [] (V.tup [V.d (I n), V.d D.inil]) [], It.el 2 (D.str (ls.getD 2 default)), It.icall [] (V.d (BL f)) [], It.br true, It.br true, It.is ((↑(List.map D.str ls).length : Int) - 2), It.cut 3 k, It.own, It.lp [1, 2, 4, 10, 12, 13, 73, 74, 75] (Ex.exit 0) (Er c s n true f acc), It.br false, It.icall [] (V.d (D.str p)) [], It.br false, It.icall [] (V.d (I e)) [], It.br true] = some (V.tup [V.agg [V.emp true, V.emp true], V.d (D.int IntKind.i64 0), V.d (D.int IntKind.i64 e)], [],
  [ICall Tryz.prog 18 [V.d (D.agg [I c.ins, D.sl (List.map Lt.d c.lats), D.sl (List.map An.d c.ands), L c.bads, L c.cons])] [] (V.d (I 0)) [],
   (0 != 0) = false,
   ICall Tryz.prog 19 [V.d (D.str s), V.d (D.str (ByteArray.mk #[10]).data.toList)] [] (V.d (D.sl (List.map D.str ls))) [],
   decide ((↑(List.map D.str ls).length : Int) < 6) = false,
   IntKind.i64.wrap ((↑(List.map D.str ls).length : Int) - 5) = (↑(List.map D.str ls).length : Int) - 5,
   decide ((↑(List.map D.str ls).length : Int) - 5 > 100) = false,
   1 = (↑1 : Int) ∧ (List.map D.str ls)[1]? = some (D.str (ls.getD 1 default)),
   decide ((↑(ls.getD 1 default).length : Int) > 10) = false,
   1 = (↑1 : Int) ∧ (List.map D.str ls)[1]? = some (D.str (ls.getD 1 default)),
   ICall Tryz.prog 21 [V.d (D.str (ls.getD 1 default)), V.d (D.str (ByteArray.mk #[98]).data.toList)] [] (V.d (D.str s2)) [],
   ICall Tryz.prog 20 [V.d (D.str s2)] [] (V.tup [V.d (I n), V.d D.inil]) [],
   2 = (↑2 : Int) ∧ (List.map D.str ls)[2]? = some (D.str (ls.getD 2 default)),
   ICall Tryz.prog 22 [V.d (D.str (ls.getD 2 default))] [] (V.d (BL f)) [],
   decide (n ≥ 0) = true,
   ((↑(List.map D.bool f).length : Int) == (↑(List.map Lt.d c.lats).length : Int)) = true,
   IntKind.i64.wrap ((↑(List.map D.str ls).length : Int) - 2) = (↑(List.map D.str ls).length : Int) - 2,
   3 = (↑3 : Int) ∧ (↑(List.map D.str ls).length : Int) - 2 = (↑k : Int) ∧ 3 ≤ k ∧ k ≤ (List.map D.str ls).length,
   ∀ (y : D), y ∈ List.map D.str ls → y.cells.length = (fun x => x.size) Tryz.prog.types[9],
   GoesL Tryz.prog (loopOf Tryz.prog 7 0) (⟨mk 115 [(1, V.d (D.str s)), (2, V.ptr 0 0), (4, V.ptr 1 0), (10, V.d (D.int IntKind.i64 n)), (12, V.ptr 2 0), (13, V.d (D.bool true)), (73, V.d (D.sl (List.take (k - 3) (List.drop 3 (List.map D.str ls))))), (74, V.d (D.int IntKind.i64 (↑(List.take (k - 3) (List.drop 3 (List.map D.str ls))).length : Int))), (75, V.d (D.int IntKind.i64 0))] [], [B.bx none [V.d (D.int IntKind.i64 c.ins), V.d (D.sl (List.map Lt.d c.lats)), V.d (D.sl (List.map An.d c.ands)), V.d (D.sl (List.map I c.bads)), V.d (D.sl (List.map I c.cons))], B.bx none [V.emp true, V.emp true], B.bx none [V.d (D.sl (List.map D.bool f)), V.emp true]]⟩) (Ex.exit 0) (Er c s n true f acc),
   (!true) = false,
   ICall Tryz.prog 23 [V.d (D.agg [BL f, D.sl acc]), V.d (I n)] [] (V.d (D.str p)) [],
   (!p == s) = false,
   ICall Tryz.prog 13 [V.d (D.agg [I c.ins, D.sl (List.map Lt.d c.lats), D.sl (List.map An.d c.ands), L c.bads, L c.cons]), V.d (D.agg [BL f, D.sl acc]), V.d (I n)] [] (V.d (I e)) [],
   (e != 0) = true]) := by kernel_rfl
theorem e10  : callX Tryz.prog wr false O 7 [.d c.d, .d (.str s)] [] [It.icall [] (V.d (I 0)) [], It.br false, It.icall [] (V.d (D.sl (List.map D.str ls))) [], It.br false, It.is ((↑(List.map D.str ls).length : Int) - 5), It.br false, It.el 1 (D.str (ls.getD 1 default)), It.br false, It.el 1 (D.str (ls.getD 1 default)), It.icall [] (V.d (D.str s2)) [], It.icall [] (V.tup [V.d (I n), V.d D.inil]) [], It.el 2 (D.str (ls.getD 2 default)), It.icall [] (V.d (BL f)) [], It.br true, It.br true, It.is ((↑(List.map D.str ls).length : Int) - 2), It.cut 3 k, It.own, It.lp [1, 2, 4, 10, 12, 13, 73, 74, 75] (Ex.exit 0) (Er c s n true f acc), It.br false, It.icall [] (V.d (D.str p)) [], It.br false, It.icall [] (V.d (I e)) [], It.br false] = some (V.tup [V.d (D.agg [D.sl (List.map D.bool f), D.sl acc]), V.d (D.int IntKind.i64 n), V.d (D.int IntKind.i64 0)], [],
  [ICall Tryz.prog 18 [V.d (D.agg [I c.ins, D.sl (List.map Lt.d c.lats), D.sl (List.map An.d c.ands), L c.bads, L c.cons])] [] (V.d (I 0)) [],
   (0 != 0) = false,
   ICall Tryz.prog 19 [V.d (D.str s), V.d (D.str (ByteArray.mk #[10]).data.toList)] [] (V.d (D.sl (List.map D.str ls))) [],
   decide ((↑(List.map D.str ls).length : Int) < 6) = false,
   IntKind.i64.wrap ((↑(List.map D.str ls).length : Int) - 5) = (↑(List.map D.str ls).length : Int) - 5,
   decide ((↑(List.map D.str ls).length : Int) - 5 > 100) = false,
   1 = (↑1 : Int) ∧ (List.map D.str ls)[1]? = some (D.str (ls.getD 1 default)),
   decide ((↑(ls.getD 1 default).length : Int) > 10) = false,
   1 = (↑1 : Int) ∧ (List.map D.str ls)[1]? = some (D.str (ls.getD 1 default)),
   ICall Tryz.prog 21 [V.d (D.str (ls.getD 1 default)), V.d (D.str (ByteArray.mk #[98]).data.toList)] [] (V.d (D.str s2)) [],
   ICall Tryz.prog 20 [V.d (D.str s2)] [] (V.tup [V.d (I n), V.d D.inil]) [],
   2 = (↑2 : Int) ∧ (List.map D.str ls)[2]? = some (D.str (ls.getD 2 default)),
   ICall Tryz.prog 22 [V.d (D.str (ls.getD 2 default))] [] (V.d (BL f)) [],
   decide (n ≥ 0) = true,
   ((↑(List.map D.bool f).length : Int) == (↑(List.map Lt.d c.lats).length : Int)) = true,
   IntKind.i64.wrap ((↑(List.map D.str ls).length : Int) - 2) = (↑(List.map D.str ls).length : Int) - 2,
   3 = (↑3 : Int) ∧ (↑(List.map D.str ls).length : Int) - 2 = (↑k : Int) ∧ 3 ≤ k ∧ k ≤ (List.map D.str ls).length,
   ∀ (y : D), y ∈ List.map D.str ls → y.cells.length = (fun x => x.size) Tryz.prog.types[9],
   GoesL Tryz.prog (loopOf Tryz.prog 7 0) (⟨mk 115 [(1, V.d (D.str s)), (2, V.ptr 0 0), (4, V.ptr 1 0), (10, V.d (D.int IntKind.i64 n)), (12, V.ptr 2 0), (13, V.d (D.bool true)), (73, V.d (D.sl (List.take (k - 3) (List.drop 3 (List.map D.str ls))))), (74, V.d (D.int IntKind.i64 (↑(List.take (k - 3) (List.drop 3 (List.map D.str ls))).length : Int))), (75, V.d (D.int IntKind.i64 0))] [], [B.bx none [V.d (D.int IntKind.i64 c.ins), V.d (D.sl (List.map Lt.d c.lats)), V.d (D.sl (List.map An.d c.ands)), V.d (D.sl (List.map I c.bads)), V.d (D.sl (List.map I c.cons))], B.bx none [V.emp true, V.emp true], B.bx none [V.d (D.sl (List.map D.bool f)), V.emp true]]⟩) (Ex.exit 0) (Er c s n true f acc),
   (!true) = false,
   ICall Tryz.prog 23 [V.d (D.agg [BL f, D.sl acc]), V.d (I n)] [] (V.d (D.str p)) [],
   (!p == s) = false,
   ICall Tryz.prog 13 [V.d (D.agg [I c.ins, D.sl (List.map Lt.d c.lats), D.sl (List.map An.d c.ands), L c.bads, L c.cons]), V.d (D.agg [BL f, D.sl acc]), V.d (I n)] [] (V.d (I e)) [],
   (e != 0) = false]) := by kernel_rfl
end
end Go.Proofs.YtccejdncpknbaaaGreatDoor.Sy.Rd
/- The text of a run, cut into lines and read again: the plain law. -/
namespace Go.Proofs.YtccejdncpknbaaaGreatDoor.Sy.Rd
open Go Go.Proofs.YtccejdncpknbaaaGreatDoor.Ab Go.Proofs.YtccejdncpknbaaaGreatDoor.Sy Go.Proofs.YtccejdncpknbaaaGreatDoor.Sy.Tx Go.Proofs.YtccejdncpknbaaaGreatDoor.Sy.Vl Go.Proofs.YtccejdncpknbaaaGreatDoor.Sy.Tc Go.Proofs.YtccejdncpknbaaaGreatDoor.Sy.Wi Go.Proofs.YtccejdncpknbaaaGreatDoor.Sy.Sp
set_option linter.unusedVariables false
set_option linter.unusedSimpArgs false
def dig (b : UInt8) : Bool := decide (48 ≤ b.toNat) && decide (b.toNat ≤ 57)
theorem dig_of (k : Nat) (h : k < 10) : dig (UInt8.ofNat (48 + k)) = true := by
  have : (UInt8.ofNat (48 + k)).toNat = 48 + k := by rw [UInt8.toNat_ofNat']; omega
  unfold dig
  rw [this]; simp; omega
theorem val_of (k : Nat) (h : k < 10) : Lib.digitVal (UInt8.ofNat (48 + k)) = some k := by
  have : (UInt8.ofNat (48 + k)).toNat = 48 + k := by rw [UInt8.toNat_ofNat']; omega
  unfold Lib.digitVal
  rw [this, if_pos (by omega)]
  congr 1; omega
theorem dec_dig (m : Nat) : ∀ u, u ≤ m → (∀ b ∈ Lib.decDigits u, dig b = true) ∧ Lib.decDigits u ≠ [] := by
  induction m with
  | zero =>
    intro u hu
    rw [Lib.decDigits, dif_pos (by omega)]
    exact ⟨fun b hb => by rw [List.mem_singleton.1 hb]; exact dig_of u (by omega), by simp⟩
  | succ m ih =>
    intro u hu
    rw [Lib.decDigits]
    by_cases c : u < 10
    · rw [dif_pos c]
      exact ⟨fun b hb => by rw [List.mem_singleton.1 hb]; exact dig_of u c, by simp⟩
    · rw [dif_neg c]
      refine ⟨fun b hb => ?_, by simp⟩
      rcases List.mem_append.1 hb with hb | hb
      · exact (ih (u / 10) (by omega)).1 b hb
      · rw [List.mem_singleton.1 hb]; exact dig_of _ (by omega)
theorem decFrom_app (b : UInt8) (d : Nat) (hb : Lib.digitVal b = some d) : ∀ (l : List UInt8) (a n : Nat), Lib.decFrom a l = some n → Lib.decFrom a (l ++ [b]) = some (n * 10 + d)
  | [], a, n, h => by
    rw [List.nil_append, Lib.decFrom, hb]
    simp only [Lib.decFrom, Option.some.injEq] at h ⊢
    omega
  | c :: l, a, n, h => by
    rw [List.cons_append, Lib.decFrom]
    rw [Lib.decFrom] at h
    cases hc : Lib.digitVal c with
    | none => rw [hc] at h; cases h
    | some e =>
      rw [hc] at h
      exact decFrom_app b d hb l _ n h
theorem decFrom_dec (m : Nat) : ∀ u, u ≤ m → Lib.decFrom 0 (Lib.decDigits u) = some u := by
  induction m with
  | zero =>
    intro u hu
    rw [Lib.decDigits, dif_pos (by omega)]
    simp only [Lib.decFrom, val_of u (by omega)]
    congr 1; omega
  | succ m ih =>
    intro u hu
    rw [Lib.decDigits]
    by_cases c : u < 10
    · rw [dif_pos c]
      simp only [Lib.decFrom, val_of u c]
      congr 1; omega
    · rw [dif_neg c, decFrom_app _ (u % 10) (val_of _ (by omega)) _ 0 (u / 10) (ih (u / 10) (by omega))]
      congr 1; omega
theorem dec_len (k : Nat) : ∀ u, u < 10 ^ (k + 1) → (Lib.decDigits u).length ≤ k + 1 := by
  induction k with
  | zero =>
    intro u hu
    rw [Lib.decDigits, dif_pos (by omega)]
    simp
  | succ k ih =>
    intro u hu
    rw [Lib.decDigits]
    by_cases c : u < 10
    · rw [dif_pos c]; simp
    · rw [dif_neg c, List.length_append, List.length_singleton]
      have := ih (u / 10) (by rw [Nat.pow_succ] at hu; omega)
      omega
theorem itoa_nn {n : Int} (h : 0 ≤ n) : Lib.itoa n = Lib.decDigits n.toNat := by
  unfold Lib.itoa; rw [if_neg (by omega)]
theorem itoa_dig {n : Int} (h : 0 ≤ n) : ∀ b ∈ Lib.itoa n, dig b = true := by
  rw [itoa_nn h]; exact (dec_dig _ _ (Nat.le_refl _)).1
theorem atoi_itoa {n : Int} (h : 0 ≤ n) : Lib.atoi (Lib.itoa n) = some n := by
  have h1 := decFrom_dec _ n.toNat (Nat.le_refl _)
  have h2 := itoa_dig h
  have h3 := (dec_dig _ n.toNat (Nat.le_refl _)).2
  rw [itoa_nn h] at h2 ⊢
  cases hd : Lib.decDigits n.toNat with
  | nil => exact absurd hd h3
  | cons b r =>
    rw [hd] at h1 h2
    have hb := h2 b (by simp)
    unfold dig at hb
    rw [Bool.and_eq_true, decide_eq_true_eq, decide_eq_true_eq] at hb
    have b1 : (b == 45) = false := beq_eq_false_iff_ne.2 fun e => by rw [e] at hb; exact absurd hb.1 (by decide)
    have b2 : (b == 43) = false := beq_eq_false_iff_ne.2 fun e => by rw [e] at hb; exact absurd hb.1 (by decide)
    show (if (b == 45) = true then (Lib.decNat r).map fun (m : Nat) => -(m : Int) else if (b == 43) = true then (Lib.decNat r).map fun (m : Nat) => (m : Int) else (Lib.decNat (b :: r)).map fun (m : Nat) => (m : Int)) = some n
    unfold Lib.decNat
    rw [b1, b2, if_neg (by simp), if_neg (by simp), if_neg (by simp), h1]
    show some ((n.toNat : Nat) : Int) = some n
    congr 1; omega
theorem itoa_ten {n : Int} (h : 0 ≤ n) : (10 : UInt8) ∉ Lib.itoa n := fun hm => by
  have := itoa_dig h _ hm
  revert this; decide
theorem itoa_len9 {n : Int} (h : 0 ≤ n) (h1 : n < 100000) : (Lib.itoa n).length ≤ 5 := by
  rw [itoa_nn h]; exact dec_len 4 _ (by omega)
/-- The truth values of a line. -/
def bo (l : List UInt8) : List Bool := l.map (· == 49)
theorem bo_len (l : List UInt8) : (bo l).length = l.length := List.length_map _
theorem bo_digs (v : List Bool) : bo (digs v) = v := by
  unfold bo digs
  induction v with
  | nil => rfl
  | cons b r ih =>
    rw [List.flatMap_cons, List.map_append, ih]
    cases b <;> rfl
theorem digs_ten (v : List Bool) : (10 : UInt8) ∉ digs v := fun h => by
  unfold digs at h
  obtain ⟨b, -, hb⟩ := List.mem_flatMap.1 h
  cases b
  · rw [if_neg (by simp)] at hb; revert hb; decide
  · rw [if_pos rfl] at hb; revert hb; decide
theorem splitU_lines (y : List UInt8) : ∀ ls : List (List Bool), splitU 10 (ls.flatMap (fun l => digs l ++ [10]) ++ y) = ls.map digs ++ splitU 10 y
  | [] => rfl
  | v :: r => by
    rw [List.flatMap_cons, List.append_assoc, List.append_assoc, List.singleton_append, splitU_cons (digs_ten v), splitU_lines y r]; rfl
theorem splitU_txt (t : Tr) {n : Int} (h : 0 ≤ n) : splitU 10 (txt t n) = [49] :: (98 :: Lib.itoa n) :: digs t.first :: (t.ins.map digs ++ [[46], []]) := by
  have e : txt t n = [49] ++ 10 :: ((98 :: Lib.itoa n) ++ 10 :: (digs t.first ++ 10 :: (t.ins.flatMap (fun l => digs l ++ [10]) ++ ([46] ++ 10 :: [])))) := by
    unfold txt; simp
  rw [e, splitU_cons (by decide), splitU_cons (by
    intro hm
    rcases List.mem_cons.1 hm with hm | hm
    · revert hm; decide
    · exact itoa_ten h hm), splitU_cons (digs_ten _), splitU_lines, splitU_cons (by decide)]
  rfl
theorem splitU_mem (u : UInt8) : ∀ (l : List UInt8), ∀ x ∈ splitU u l, x.length ≤ l.length
  | [], x, hx => by rw [splitU, List.mem_singleton] at hx; rw [hx]; simp
  | b :: r, x, hx => by
    have ih := splitU_mem u r
    rw [splitU] at hx
    split at hx
    · rcases List.mem_cons.1 hx with rfl | hx
      · simp
      · have := ih x hx; simp; omega
    · split at hx
      · rw [List.mem_singleton] at hx; rw [hx]; simp
      · next y ys hs =>
        rw [hs] at ih
        rcases List.mem_cons.1 hx with rfl | hx
        · have := ih y (by simp); simp; omega
        · have := ih x (by simp [hx]); simp; omega
/-- The lines, the lines of inputs, the run, the number of a text. -/
def lns (s : List UInt8) : List (List UInt8) := splitU 10 s
def rdL (s : List UInt8) : List (List UInt8) := ((lns s).drop 3).take ((lns s).length - 2 - 3)
def rdT (s : List UInt8) : Tr := ⟨bo ((lns s).getD 2 default), (rdL s).map bo⟩
def trim (l : List UInt8) : List UInt8 := if l.take 1 = [98] then l.drop 1 else l
def rdA (s : List UInt8) : Option Int := Lib.atoi (trim ((lns s).getD 1 default))
def rdN (s : List UInt8) : Int := (rdA s).getD 0
/-- Is it of the form that is read? -/
def okL (c : Ci) (s : List UInt8) : Bool := (rdA s).isSome && (decide (0 ≤ rdN s) && decide ((rdT s).first.length = c.lats.length))
def okR (c : Ci) (s : List UInt8) : Bool := okL c s && (rdL s).all (fun l => decide ((l.length : Int) = c.ins))
def few (s : List UInt8) : Bool := decide ((lns s).length < 6) || (decide ((lns s).length > 105) || decide (((lns s).getD 1 default).length > 10))
def form (c : Ci) (s : List UInt8) : Bool := !few s && (okR c s && decide (txt (rdT s) (rdN s) = s))
/-- The error that witness.Read answers. -/
def rdE (c : Ci) (s : List UInt8) : Int := if Gates.chk c ≠ 0 then Gates.chk c else if form c s then wtChk c (rdT s) (rdN s) else 12
theorem rdL_txt (t : Tr) {n : Int} (h : 0 ≤ n) : rdL (txt t n) = t.ins.map digs := by
  unfold rdL lns
  rw [splitU_txt t h]
  simp only [List.drop_succ_cons, List.drop_zero, List.length_cons, List.length_append, List.length_map, List.length_nil]
  rw [List.take_append_of_le_length (by rw [List.length_map]; omega), List.take_of_length_le (by rw [List.length_map]; omega)]
theorem rdT_txt (t : Tr) {n : Int} (h : 0 ≤ n) : rdT (txt t n) = t := by
  unfold rdT
  rw [rdL_txt t h, List.map_map]
  unfold lns
  rw [splitU_txt t h]
  show (⟨bo (digs t.first), _⟩ : Tr) = t
  rw [bo_digs]
  have : (t.ins.map (bo ∘ digs)) = t.ins := by
    rw [show (bo ∘ digs) = id from funext fun v => bo_digs v, List.map_id]
  rw [this]
theorem rdA_txt (t : Tr) {n : Int} (h : 0 ≤ n) : rdA (txt t n) = some n := by
  unfold rdA lns
  rw [splitU_txt t h]
  show Lib.atoi (trim (98 :: Lib.itoa n)) = _
  unfold trim
  rw [if_pos (by simp), List.drop_succ_cons, List.drop_zero]
  exact atoi_itoa h
theorem rdN_txt (t : Tr) {n : Int} (h : 0 ≤ n) : rdN (txt t n) = n := by unfold rdN; rw [rdA_txt t h]; rfl
/-- Different runs or numbers have different texts. -/
theorem txt_inj {t u : Tr} {n m : Int} (h : 0 ≤ n) (h1 : 0 ≤ m) (e : txt t n = txt u m) : t = u ∧ n = m := by
  have e1 := rdT_txt t h
  have e2 := rdN_txt t h
  rw [e, rdT_txt u h1] at e1
  rw [e, rdN_txt u h1] at e2
  exact ⟨e1.symm, e2.symm⟩
theorem wt_nn {c : Ci} {t : Tr} {n : Int} (h : wtChk c t n = 0) : trChk c t = 0 ∧ 0 ≤ n ∧ n < (c.bads.length : Int) ∧ shown c t n.toNat = true := by
  unfold wtChk at h
  split at h
  · next h1 => exact absurd h h1
  · next h1 =>
    split at h
    · cases h
    · next h2 =>
      split at h
      · cases h
      · next h3 =>
        split at h
        · next h4 => exact ⟨Decidable.not_not.1 h1, by omega, by omega, h4⟩
        · cases h
/-- What is written is read. -/
theorem back {c : Ci} {t : Tr} {n : Int} (hb : c.bads.length ≤ 2000) (h : wtChk c t n = 0) : rdE c (txt t n) = 0 ∧ rdT (txt t n) = t ∧ rdN (txt t n) = n := by
  obtain ⟨h1, h2, h3, -⟩ := wt_nn h
  have k := ok_of h1
  have e1 := rdT_txt t h2
  have e2 := rdN_txt t h2
  have e3 := rdA_txt t h2
  have hl := itoa_len9 h2 (by omega)
  have k1 := k.some
  have k2 : t.ins.length ≤ 100 := by
    unfold trChk at h1
    split at h1
    · next q => exact absurd h1 q
    · split at h1
      · cases h1
      · omega
  have kl : t.first.length = c.lats.length := by
    unfold trChk at h1
    split at h1
    · next q => exact absurd h1 q
    · split at h1
      · cases h1
      · split at h1
        · cases h1
        · split at h1
          · cases h1
          · omega
  refine ⟨?_, e1, e2⟩
  have hf : few (txt t n) = false := by
    unfold few lns
    rw [splitU_txt t h2]
    simp only [List.length_cons, List.length_append, List.length_map, List.length_nil, Bool.or_eq_false_iff, decide_eq_false_iff_not]
    refine ⟨by omega, by omega, ?_⟩
    show ¬ ((98 :: Lib.itoa n).length > 10)
    rw [List.length_cons]; omega
  have hr : okR c (txt t n) = true := by
    unfold okR okL
    rw [e3, e2, e1, rdL_txt t h2, decide_eq_true h2, decide_eq_true kl]
    simp only [Option.isSome_some, Bool.and_self, Bool.true_and]
    rw [List.all_eq_true]
    intro x hx
    obtain ⟨v, hv, rfl⟩ := List.mem_map.1 hx
    rw [digs_len]
    exact decide_eq_true (k.each v hv)
  unfold rdE form
  rw [if_neg (by rw [k.chk]; simp), hf, hr, e1, e2, decide_eq_true rfl]
  exact h
theorem rd_ok {c : Ci} {s : List UInt8} (h : rdE c s = 0) : Gates.chk c = 0 ∧ form c s = true ∧ wtChk c (rdT s) (rdN s) = 0 := by
  unfold rdE at h
  split at h
  · next q => exact absurd h q
  · next q =>
    split at h
    · next q2 => exact ⟨Decidable.not_not.1 q, q2, h⟩
    · cases h
/-- What is read has the text, and shows its literal; its lines are counted. -/
theorem text {c : Ci} {s : List UInt8} (h : rdE c s = 0) : txt (rdT s) (rdN s) = s ∧ wtChk c (rdT s) (rdN s) = 0 ∧ s.count 10 = 4 + (rdT s).ins.length := by
  obtain ⟨h1, h2, h3⟩ := rd_ok h
  unfold form at h2
  rw [Bool.and_eq_true, Bool.and_eq_true, decide_eq_true_eq] at h2
  obtain ⟨hf, -, ht⟩ := h2
  refine ⟨ht, h3, ?_⟩
  have hl := splitU_len 10 s
  unfold few at hf
  rw [Bool.not_eq_true', Bool.or_eq_false_iff, decide_eq_false_iff_not] at hf
  have : (rdT s).ins.length = (lns s).length - 5 := by
    unfold rdT rdL
    rw [List.length_map, List.length_take, List.length_drop]; omega
  rw [this]
  unfold lns at hf ⊢
  omega
end Go.Proofs.YtccejdncpknbaaaGreatDoor.Sy.Rd
/- The facts that contracts of the library ask of this program: printed by wip/tools/shelf.py. -/
namespace Go.Proofs
open Go.Shelf
def Tryz.lays172_ren : Go.Shelf.Ren := ⟨fun | 129 => 114 | 171 => 51 | 172 => 20 | 205 => 94 | 243 => 77 | 244 => 47 | 245 => 48 | 246 => 96 | 247 => 70 | 279 => 71 | 280 => 72 | 281 => 73 | 282 => 74 | 283 => 107 | 284 => 108 | 285 => 109 | 286 => 110 | 287 => 92 | 316 => 93 | 317 => 113 | 318 => 115 | 319 => 116 | 320 => 117 | 321 => 105 | 322 => 106 | 337 => 118 | 338 => 119 | n => n, fun | 0 => 0 | 1 => 1 | 2 => 2 | 3 => 3 | 4 => 4 | 5 => 5 | 6 => 6 | 7 => 7 | 8 => 8 | 9 => 9 | 10 => 10 | 11 => 11 | 12 => 12 | 13 => 13 | 14 => 14 | 15 => 15 | 16 => 16 | 17 => 17 | 18 => 18 | 19 => 19 | 20 => 20 | 21 => 21 | 22 => 117 | 23 => 60 | 27 => 110 | 28 => 24 | 29 => 99 | 31 => 54 | 37 => 93 | 46 => 81 | 47 => 160 | 51 => 154 | 52 => 161 | 53 => 128 | 54 => 146 | 55 => 127 | 61 => 55 | 69 => 131 | 70 => 92 | 71 => 94 | 72 => 95 | 74 => 56 | 75 => 57 | 76 => 58 | 77 => 59 | 78 => 118 | 80 => 98 | 81 => 169 | 83 => 96 | 84 => 137 | 85 => 112 | 86 => 113 | 103 => 101 | 104 => 141 | 105 => 125 | 106 => 126 | 108 => 134 | 111 => 82 | 113 => 90 | 114 => 77 | 119 => 150 | 127 => 119 | 128 => 91 | 137 => 151 | 138 => 152 | 139 => 153 | 143 => 142 | 144 => 143 | 145 => 144 | 146 => 155 | 150 => 109 | 151 => 156 | 164 => 135 | 165 => 136 | 167 => 111 | 168 => 114 | 169 => 115 | 170 => 116 | 171 => 145 | 172 => 147 | 173 => 148 | 174 => 149 | 175 => 129 | 176 => 130 | 209 => 132 | 210 => 133 | 211 => 157 | 212 => 158 | 213 => 159 | 214 => 140 | 232 => 162 | 233 => 163 | 238 => 164 | 239 => 165 | 240 => 166 | 241 => 167 | 242 => 168 | 243 => 170 | 244 => 171 | 245 => 172 | 246 => 173 | 247 => 174 | 248 => 175 | 249 => 176 | n => n, fun | 1 => 2 | 3 => 3 | 4 => 4 | 15 => 0 | 16 => 1 | 17 => 5 | 18 => 6 | 19 => 7 | n => n⟩
theorem Tryz.lays172 : Go.Proofs.Lays.n172 Tryz.prog Tryz.lays172_ren := {
  mixed := by kernel_rfl
  f129 := Tryz.func114.trans (congrArg some (by kernel_rfl))
  f171 := Tryz.func51.trans (congrArg some (by kernel_rfl))
  f172 := Tryz.func20.trans (congrArg some (by kernel_rfl))
  f205 := Tryz.func94.trans (congrArg some (by kernel_rfl))
  f243 := Tryz.func77.trans (congrArg some (by kernel_rfl))
  f244 := Tryz.func47.trans (congrArg some (by kernel_rfl))
  f245 := Tryz.func48.trans (congrArg some (by kernel_rfl))
  f246 := Tryz.func96.trans (congrArg some (by kernel_rfl))
  f247 := Tryz.func70.trans (congrArg some (by kernel_rfl))
  f279 := Tryz.func71.trans (congrArg some (by kernel_rfl))
  f280 := Tryz.func72.trans (congrArg some (by kernel_rfl))
  f281 := Tryz.func73.trans (congrArg some (by kernel_rfl))
  f282 := Tryz.func74.trans (congrArg some (by kernel_rfl))
  f283 := Tryz.func107.trans (congrArg some (by kernel_rfl))
  f284 := Tryz.func108.trans (congrArg some (by kernel_rfl))
  f285 := Tryz.func109.trans (congrArg some (by kernel_rfl))
  f286 := Tryz.func110.trans (congrArg some (by kernel_rfl))
  f287 := Tryz.func92.trans (congrArg some (by kernel_rfl))
  f316 := Tryz.func93.trans (congrArg some (by kernel_rfl))
  f317 := Tryz.func113.trans (congrArg some (by kernel_rfl))
  f318 := Tryz.func115.trans (congrArg some (by kernel_rfl))
  f319 := Tryz.func116.trans (congrArg some (by kernel_rfl))
  f320 := Tryz.func117.trans (congrArg some (by kernel_rfl))
  f321 := Tryz.func105.trans (congrArg some (by kernel_rfl))
  f322 := Tryz.func106.trans (congrArg some (by kernel_rfl))
  f337 := Tryz.func118.trans (congrArg some (by kernel_rfl))
  f338 := Tryz.func119.trans (congrArg some (by kernel_rfl))
  t0 := Tryz.underlying0
  a0 := Tryz.isAgg0
  z0 := Tryz.sizeOf0
  v0 := Tryz.zeroValue0
  t2 := Tryz.underlying2
  a2 := Tryz.isAgg2
  z2 := Tryz.sizeOf2
  v2 := Tryz.zeroValue2
  t3 := Tryz.underlying3
  a3 := Tryz.isAgg3
  z3 := Tryz.sizeOf3
  v3 := Tryz.zeroValue3
  t4 := Tryz.underlying4
  a4 := Tryz.isAgg4
  z4 := Tryz.sizeOf4
  v4 := Tryz.zeroValue4
  t5 := Tryz.underlying5
  a5 := Tryz.isAgg5
  z5 := Tryz.sizeOf5
  v5 := Tryz.zeroValue5
  t9 := Tryz.underlying9
  a9 := Tryz.isAgg9
  z9 := Tryz.sizeOf9
  v9 := Tryz.zeroValue9
  t20 := Tryz.underlying20
  a20 := Tryz.isAgg20
  z20 := Tryz.sizeOf20
  v20 := Tryz.zeroValue20
  t21 := Tryz.underlying21
  a21 := Tryz.isAgg21
  z21 := Tryz.sizeOf21
  v21 := Tryz.zeroValue21
  t37 := Tryz.underlying93
  a37 := Tryz.isAgg93
  z37 := Tryz.sizeOf93
  v37 := Tryz.zeroValue93
  t46 := Tryz.underlying81
  a46 := Tryz.isAgg81
  z46 := Tryz.sizeOf81
  v46 := Tryz.zeroValue81
  t51 := Tryz.underlying154
  a51 := Tryz.isAgg154
  z51 := Tryz.sizeOf154
  v51 := Tryz.zeroValue154
  t53 := Tryz.underlying128
  a53 := Tryz.isAgg128
  z53 := Tryz.sizeOf128
  v53 := Tryz.zeroValue128
  t75 := Tryz.underlying57
  a75 := Tryz.isAgg57
  z75 := Tryz.sizeOf57
  v75 := Tryz.zeroValue57
  t76 := Tryz.underlying58
  a76 := Tryz.isAgg58
  z76 := Tryz.sizeOf58
  v76 := Tryz.zeroValue58
  t85 := Tryz.underlying112
  a85 := Tryz.isAgg112
  z85 := Tryz.sizeOf112
  v85 := Tryz.zeroValue112
  t127 := Tryz.underlying119
  a127 := Tryz.isAgg119
  z127 := Tryz.sizeOf119
  v127 := Tryz.zeroValue119
  t143 := Tryz.underlying142
  a143 := Tryz.isAgg142
  z143 := Tryz.sizeOf142
  v143 := Tryz.zeroValue142
  t145 := Tryz.underlying144
  a145 := Tryz.isAgg144
  z145 := Tryz.sizeOf144
  v145 := Tryz.zeroValue144
  t167 := Tryz.underlying111
  a167 := Tryz.isAgg111
  z167 := Tryz.sizeOf111
  v167 := Tryz.zeroValue111
  t168 := Tryz.underlying114
  a168 := Tryz.isAgg114
  z168 := Tryz.sizeOf114
  v168 := Tryz.zeroValue114
  t171 := Tryz.underlying145
  a171 := Tryz.isAgg145
  z171 := Tryz.sizeOf145
  v171 := Tryz.zeroValue145
  t173 := Tryz.underlying148
  a173 := Tryz.isAgg148
  z173 := Tryz.sizeOf148
  v173 := Tryz.zeroValue148
  t175 := Tryz.underlying129
  a175 := Tryz.isAgg129
  z175 := Tryz.sizeOf129
  v175 := Tryz.zeroValue129
  t210 := Tryz.underlying133
  a210 := Tryz.isAgg133
  z210 := Tryz.sizeOf133
  v210 := Tryz.zeroValue133
  t212 := Tryz.underlying158
  a212 := Tryz.isAgg158
  z212 := Tryz.sizeOf158
  v212 := Tryz.zeroValue158
  t213 := Tryz.underlying159
  a213 := Tryz.isAgg159
  z213 := Tryz.sizeOf159
  t232 := Tryz.underlying162
  a232 := Tryz.isAgg162
  z232 := Tryz.sizeOf162
  v232 := Tryz.zeroValue162
  t233 := Tryz.underlying163
  a233 := Tryz.isAgg163
  z233 := Tryz.sizeOf163
  v233 := Tryz.zeroValue163
  g15 := by kernel_rfl
  g16 := by kernel_rfl
  g17 := by kernel_rfl
  g18 := by kernel_rfl
  g19 := by kernel_rfl }
def Tryz.laysC172_ren : Go.Shelf.Ren := ⟨fun | 129 => 114 | 171 => 51 | 172 => 20 | 205 => 94 | 243 => 77 | 244 => 47 | 245 => 48 | 246 => 96 | 247 => 70 | 279 => 71 | 280 => 72 | 281 => 73 | 282 => 74 | 283 => 107 | 284 => 108 | 285 => 109 | 286 => 110 | 287 => 92 | 316 => 93 | 317 => 113 | 318 => 115 | 319 => 116 | 320 => 117 | 321 => 105 | 322 => 106 | 337 => 118 | 338 => 119 | n => n, fun | 0 => 0 | 1 => 1 | 2 => 2 | 3 => 3 | 4 => 4 | 5 => 5 | 6 => 6 | 7 => 7 | 8 => 8 | 9 => 9 | 10 => 10 | 11 => 11 | 12 => 12 | 13 => 13 | 14 => 14 | 15 => 15 | 16 => 16 | 17 => 17 | 18 => 18 | 19 => 19 | 20 => 20 | 21 => 21 | 22 => 117 | 23 => 60 | 27 => 110 | 28 => 24 | 29 => 99 | 31 => 54 | 37 => 93 | 46 => 81 | 47 => 160 | 51 => 154 | 52 => 161 | 53 => 128 | 54 => 146 | 55 => 127 | 61 => 55 | 69 => 131 | 70 => 92 | 71 => 94 | 72 => 95 | 74 => 56 | 75 => 57 | 76 => 58 | 77 => 59 | 78 => 118 | 80 => 98 | 81 => 169 | 83 => 96 | 84 => 137 | 85 => 112 | 86 => 113 | 103 => 101 | 104 => 141 | 105 => 125 | 106 => 126 | 108 => 134 | 111 => 82 | 113 => 90 | 114 => 77 | 119 => 150 | 127 => 119 | 128 => 91 | 137 => 151 | 138 => 152 | 139 => 153 | 143 => 142 | 144 => 143 | 145 => 144 | 146 => 155 | 150 => 109 | 151 => 156 | 164 => 135 | 165 => 136 | 167 => 111 | 168 => 114 | 169 => 115 | 170 => 116 | 171 => 145 | 172 => 147 | 173 => 148 | 174 => 149 | 175 => 129 | 176 => 130 | 209 => 132 | 210 => 133 | 211 => 157 | 212 => 158 | 213 => 159 | 214 => 140 | 232 => 162 | 233 => 163 | 238 => 164 | 239 => 165 | 240 => 166 | 241 => 167 | 242 => 168 | 243 => 170 | 244 => 171 | 245 => 172 | 246 => 173 | 247 => 174 | 248 => 175 | 249 => 176 | n => n, fun | 1 => 2 | 3 => 3 | 4 => 4 | 15 => 0 | 16 => 1 | 17 => 5 | 18 => 6 | 19 => 7 | n => n⟩
theorem Tryz.laysC172 : Go.Proofs.LaysC.n172 Tryz.prog Tryz.laysC172_ren := {
  mixed := by kernel_rfl
  f129 := Tryz.func114.trans (congrArg some (by kernel_rfl))
  f171 := Tryz.func51.trans (congrArg some (by kernel_rfl))
  f172 := Tryz.func20.trans (congrArg some (by kernel_rfl))
  f205 := Tryz.func94.trans (congrArg some (by kernel_rfl))
  f243 := Tryz.func77.trans (congrArg some (by kernel_rfl))
  f244 := Tryz.func47.trans (congrArg some (by kernel_rfl))
  f245 := Tryz.func48.trans (congrArg some (by kernel_rfl))
  f246 := Tryz.func96.trans (congrArg some (by kernel_rfl))
  f247 := Tryz.func70.trans (congrArg some (by kernel_rfl))
  f279 := Tryz.func71.trans (congrArg some (by kernel_rfl))
  f280 := Tryz.func72.trans (congrArg some (by kernel_rfl))
  f281 := Tryz.func73.trans (congrArg some (by kernel_rfl))
  f282 := Tryz.func74.trans (congrArg some (by kernel_rfl))
  f283 := Tryz.func107.trans (congrArg some (by kernel_rfl))
  f284 := Tryz.func108.trans (congrArg some (by kernel_rfl))
  f285 := Tryz.func109.trans (congrArg some (by kernel_rfl))
  f286 := Tryz.func110.trans (congrArg some (by kernel_rfl))
  f287 := Tryz.func92.trans (congrArg some (by kernel_rfl))
  f316 := Tryz.func93.trans (congrArg some (by kernel_rfl))
  f317 := Tryz.func113.trans (congrArg some (by kernel_rfl))
  f318 := Tryz.func115.trans (congrArg some (by kernel_rfl))
  f319 := Tryz.func116.trans (congrArg some (by kernel_rfl))
  f320 := Tryz.func117.trans (congrArg some (by kernel_rfl))
  f321 := Tryz.func105.trans (congrArg some (by kernel_rfl))
  f322 := Tryz.func106.trans (congrArg some (by kernel_rfl))
  f337 := Tryz.func118.trans (congrArg some (by kernel_rfl))
  f338 := Tryz.func119.trans (congrArg some (by kernel_rfl))
  t0 := Tryz.underlying0
  a0 := Tryz.isAgg0
  z0 := Tryz.sizeOf0
  v0 := Tryz.zeroValue0
  t2 := Tryz.underlying2
  a2 := Tryz.isAgg2
  z2 := Tryz.sizeOf2
  v2 := Tryz.zeroValue2
  t3 := Tryz.underlying3
  a3 := Tryz.isAgg3
  z3 := Tryz.sizeOf3
  v3 := Tryz.zeroValue3
  t4 := Tryz.underlying4
  a4 := Tryz.isAgg4
  z4 := Tryz.sizeOf4
  v4 := Tryz.zeroValue4
  t5 := Tryz.underlying5
  a5 := Tryz.isAgg5
  z5 := Tryz.sizeOf5
  v5 := Tryz.zeroValue5
  t9 := Tryz.underlying9
  a9 := Tryz.isAgg9
  z9 := Tryz.sizeOf9
  v9 := Tryz.zeroValue9
  t20 := Tryz.underlying20
  a20 := Tryz.isAgg20
  z20 := Tryz.sizeOf20
  v20 := Tryz.zeroValue20
  t21 := Tryz.underlying21
  a21 := Tryz.isAgg21
  z21 := Tryz.sizeOf21
  v21 := Tryz.zeroValue21
  t37 := Tryz.underlying93
  a37 := Tryz.isAgg93
  z37 := Tryz.sizeOf93
  v37 := Tryz.zeroValue93
  t46 := Tryz.underlying81
  a46 := Tryz.isAgg81
  z46 := Tryz.sizeOf81
  v46 := Tryz.zeroValue81
  t51 := Tryz.underlying154
  a51 := Tryz.isAgg154
  z51 := Tryz.sizeOf154
  v51 := Tryz.zeroValue154
  t53 := Tryz.underlying128
  a53 := Tryz.isAgg128
  z53 := Tryz.sizeOf128
  v53 := Tryz.zeroValue128
  t75 := Tryz.underlying57
  a75 := Tryz.isAgg57
  z75 := Tryz.sizeOf57
  v75 := Tryz.zeroValue57
  t76 := Tryz.underlying58
  a76 := Tryz.isAgg58
  z76 := Tryz.sizeOf58
  v76 := Tryz.zeroValue58
  t85 := Tryz.underlying112
  a85 := Tryz.isAgg112
  z85 := Tryz.sizeOf112
  v85 := Tryz.zeroValue112
  t127 := Tryz.underlying119
  a127 := Tryz.isAgg119
  z127 := Tryz.sizeOf119
  v127 := Tryz.zeroValue119
  t143 := Tryz.underlying142
  a143 := Tryz.isAgg142
  z143 := Tryz.sizeOf142
  v143 := Tryz.zeroValue142
  t145 := Tryz.underlying144
  a145 := Tryz.isAgg144
  z145 := Tryz.sizeOf144
  v145 := Tryz.zeroValue144
  t167 := Tryz.underlying111
  a167 := Tryz.isAgg111
  z167 := Tryz.sizeOf111
  v167 := Tryz.zeroValue111
  t168 := Tryz.underlying114
  a168 := Tryz.isAgg114
  z168 := Tryz.sizeOf114
  v168 := Tryz.zeroValue114
  t171 := Tryz.underlying145
  a171 := Tryz.isAgg145
  z171 := Tryz.sizeOf145
  v171 := Tryz.zeroValue145
  t173 := Tryz.underlying148
  a173 := Tryz.isAgg148
  z173 := Tryz.sizeOf148
  v173 := Tryz.zeroValue148
  t175 := Tryz.underlying129
  a175 := Tryz.isAgg129
  z175 := Tryz.sizeOf129
  v175 := Tryz.zeroValue129
  t210 := Tryz.underlying133
  a210 := Tryz.isAgg133
  z210 := Tryz.sizeOf133
  v210 := Tryz.zeroValue133
  t212 := Tryz.underlying158
  a212 := Tryz.isAgg158
  z212 := Tryz.sizeOf158
  v212 := Tryz.zeroValue158
  t213 := Tryz.underlying159
  a213 := Tryz.isAgg159
  z213 := Tryz.sizeOf159
  t232 := Tryz.underlying162
  a232 := Tryz.isAgg162
  z232 := Tryz.sizeOf162
  v232 := Tryz.zeroValue162
  t233 := Tryz.underlying163
  a233 := Tryz.isAgg163
  z233 := Tryz.sizeOf163
  v233 := Tryz.zeroValue163
  g15 := by kernel_rfl
  g16 := by kernel_rfl
  g17 := by kernel_rfl
  g18 := by kernel_rfl
  g19 := by kernel_rfl
  t80 := Tryz.underlying98
  a80 := Tryz.isAgg98
  z80 := Tryz.sizeOf98
  v80 := Tryz.zeroValue98
  i0 := by kernel_rfl
  i2 := by kernel_rfl
  i3 := by kernel_rfl
  i4 := by kernel_rfl
  i5 := by kernel_rfl
  i9 := by kernel_rfl
  i20 := by kernel_rfl
  i21 := by kernel_rfl
  i37 := by kernel_rfl
  i46 := by kernel_rfl
  i51 := by kernel_rfl
  i53 := by kernel_rfl
  i75 := by kernel_rfl
  i76 := by kernel_rfl
  i80 := by kernel_rfl
  i85 := by kernel_rfl
  i127 := by kernel_rfl
  i143 := by kernel_rfl
  i145 := by kernel_rfl
  i167 := by kernel_rfl
  i168 := by kernel_rfl
  i171 := by kernel_rfl
  i173 := by kernel_rfl
  i175 := by kernel_rfl
  i210 := by kernel_rfl
  i212 := by kernel_rfl
  i232 := by kernel_rfl
  i233 := by kernel_rfl
  m15 := by kernel_rfl
  m16 := by kernel_rfl
  m17 := by kernel_rfl
  m18 := by kernel_rfl
  m19 := by kernel_rfl
  c0 := by kernel_rfl
  c2 := by kernel_rfl
  c3 := by kernel_rfl
  c4 := by kernel_rfl
  c5 := by kernel_rfl
  c9 := by kernel_rfl
  c20 := by kernel_rfl
  c21 := by kernel_rfl
  c37 := by kernel_rfl
  c46 := by kernel_rfl
  c51 := by kernel_rfl
  c53 := by kernel_rfl
  c75 := by kernel_rfl
  c76 := by kernel_rfl
  c80 := by kernel_rfl
  c85 := by kernel_rfl
  c127 := by kernel_rfl
  c143 := by kernel_rfl
  c145 := by kernel_rfl
  c167 := by kernel_rfl
  c168 := by kernel_rfl
  c171 := by kernel_rfl
  c173 := by kernel_rfl
  c175 := by kernel_rfl
  c210 := by kernel_rfl
  c212 := by kernel_rfl
  c213 := by kernel_rfl
  c232 := by kernel_rfl
  c233 := by kernel_rfl }
end Go.Proofs
/- strconv.Atoi, known by the library's contracts. -/
namespace Go.Proofs.YtccejdncpknbaaaGreatDoor.Sy.Ati
open Go Go.Shelf Go.RowKit Go.Proofs.YtccejdncpknbaaaGreatDoor.Ab Go.Proofs.YtccejdncpknbaaaGreatDoor.Sy Go.Proofs.YtccejdncpknbaaaGreatDoor.Sy.Str
set_option maxRecDepth 1000000
set_option linter.unusedVariables false
theorem back {w w' : World} {Pr : Nat → Prop} {μ : List CB} (hS : SRel Tryz.prog [] w μ Pr) (hb : Below w.heap.size w w') : SRel Tryz.prog [] w' μ Pr ∧ Evo (owns μ) Pr w (owns μ) Pr w' :=
  ⟨⟨hS.mu, fun id b c hb1 _ => (by cases hb1), hS.nodup, fun b hm => ⟨Nat.lt_of_lt_of_le (hS.lt b hm).1 hb.size, (hS.lt b hm).2⟩, fun b hm => Nat.lt_of_lt_of_le (hS.pr b hm) hb.size, hS.glob.mono (fun _ h => h) (fun b hm => hb.block b (hS.pr b hm))⟩,
    ⟨hb.os, hb.tape, hb.output, hb.size, fun k hk _ => hb.block k hk, fun k hk => .inl hk, fun _ h => h, fun _ h => .inl h⟩⟩
theorem atoi_ok (l : List UInt8) (n : Int) (hl : l.length ≤ 18) (h : Lib.atoi l = some n) : ICall Tryz.prog 20 [.d (.str l)] [] (.tup [.d (I n), .d .inil]) [] := by
  intro w Pr μ vs hS hv
  obtain ⟨v, rfl, hw⟩ := one_arg hv
  obtain ⟨q, rfl, rfl⟩ := drel_str (show DRel w Pr (.str l) v from hw)
  have hs : q.size ≤ 18 := by rw [bytes_size]; exact hl
  have hc : Calls Tryz.prog 20 #[.string q] w fun e w' => e = .returned (.tuple #[.int .i64 n, .nilIface]) ∧ ∃ t, w' = Lib.bytesWorld w (Tryz.lays172_ren.t 5) t := Any.strconv_Atoi Tryz.lays172 q n hs h w
  refine Calls.mono hc ?_
  rintro e w' ⟨rfl, t, rfl⟩
  obtain ⟨h1, h2⟩ := back hS (Lib.bytesWorld_below w _ t)
  exact ⟨_, μ, Pr, rfl, h1, ⟨[.int .i64 n, .nilIface], rfl, DRel.int _ _, DRel.inil, trivial⟩, h2, Keep.refl _⟩
theorem atoi_err (l : List UInt8) (hl : l.length ≤ 18) (h : Lib.atoi l = none) : ICall Tryz.prog 20 [.d (.str l)] [] (.tup [.d (I 0), .d .iany]) [] := by
  intro w Pr μ vs hS hv
  obtain ⟨v, rfl, hw⟩ := one_arg hv
  obtain ⟨q, rfl, rfl⟩ := drel_str (show DRel w Pr (.str l) v from hw)
  have hs : q.size ≤ 18 := by rw [bytes_size]; exact hl
  obtain ⟨-, hg⟩ := hS.glob.1 0 .iany rfl
  obtain ⟨u, hu, -, hd⟩ := hg 0 .iany rfl
  have hev : u = .nilIface ∨ ∃ te pe, u = .iface te pe := by cases hd with | iany t v => exact .inr ⟨t, v, rfl⟩
  have hc : Calls Tryz.prog 20 #[.string q] w fun e w' => ∃ N, e = .returned (.tuple #[.int .i64 0, .iface (Tryz.laysC172_ren.t 168) (.pointer (some ⟨N, 0, none⟩))]) ∧ w.heap.size ≤ N ∧ w'.heap[N]? = some (.cells #[.string ⟨#[65, 116, 111, 105]⟩, .string q, u] (Tryz.laysC172_ren.t 210) (0, 0)) ∧ Below w.heap.size w w' := Any.strconv_Atoi_err Tryz.laysC172 q hs h u w hu hev
  refine Calls.mono hc ?_
  rintro e w' ⟨N, rfl, -, -, hb⟩
  obtain ⟨h1, h2⟩ := back hS hb
  exact ⟨_, μ, Pr, rfl, h1, ⟨[.int .i64 0, .iface (Tryz.laysC172_ren.t 168) (.pointer (some ⟨N, 0, none⟩))], rfl, DRel.int _ _, DRel.iany _ _, trivial⟩, h2, Keep.refl _⟩
end Go.Proofs.YtccejdncpknbaaaGreatDoor.Sy.Ati
/- strings.TrimPrefix, witness.bools, witness.Read, whole. -/
namespace Go.Proofs.YtccejdncpknbaaaGreatDoor.Sy.Rd
open Go Go.Proofs.YtccejdncpknbaaaGreatDoor.Ab Go.Proofs.YtccejdncpknbaaaGreatDoor.Sy Go.Proofs.YtccejdncpknbaaaGreatDoor.Sy.Tx Go.Proofs.YtccejdncpknbaaaGreatDoor.Sy.Vl Go.Proofs.YtccejdncpknbaaaGreatDoor.Sy.Tc Go.Proofs.YtccejdncpknbaaaGreatDoor.Sy.Wi
open Go.Proofs.YtccejdncpknbaaaGreatDoor.Sy.Sp (splitU)
set_option maxRecDepth 1000000
set_option linter.unusedVariables false
set_option linter.unusedSimpArgs false
theorem trimP (l : List UInt8) : ICall Tryz.prog 21 [.d (.str l), .d (.str [98])] [] (.d (.str (trim l))) [] := by
  refine callX_ok hO hm (tp l (trim l) [98]) ?_
  unfold trim
  by_cases c : l.take 1 = [98]
  · rw [if_pos c]
    have hlen : 1 ≤ l.length := by
      cases l with
      | nil => simp at c
      | cons a r => simp
    have h1 := callX_ok hO hm (hp0 1 l [98]) ⟨decide_eq_true (by show ((l.length : Nat) : Int) ≥ ((1 : Nat) : Int); omega), ⟨rfl, rfl, Nat.zero_le _, hlen⟩, by show (List.take 1 l == [98]) = true; rw [c]; rfl⟩
    have h2 := callX_ok hO hm (tp1 l [98]) ⟨h1, rfl, rfl, hlen, Nat.le_refl _⟩
    have e : List.take (l.length - [(98 : UInt8)].length) (List.drop [(98 : UInt8)].length l) = l.drop 1 := List.take_of_length_le (by rw [List.length_drop]; exact Nat.le_refl _)
    rw [e] at h2
    exact h2
  · rw [if_neg c]
    by_cases hlen : 1 ≤ l.length
    · have h1 := callX_ok hO hm (hp1 1 l [98]) ⟨decide_eq_true (by show ((l.length : Nat) : Int) ≥ ((1 : Nat) : Int); omega), ⟨rfl, rfl, Nat.zero_le _, hlen⟩, by show (List.take 1 l == [98]) = false; exact beq_eq_false_iff_ne.2 c⟩
      exact callX_ok hO hm (tp0 l [98]) h1
    · have h1 := callX_ok hO hm (hp2 l [98]) (by show decide (((l.length : Nat) : Int) ≥ ((1 : Nat) : Int)) = false; exact decide_eq_false (by omega))
      exact callX_ok hO hm (tp0 l [98]) h1
theorem bools (l : List UInt8) (hl : l.length ≤ 1000000) : ICall Tryz.prog 22 [.d (.str l)] [] (.d (BL (bo l))) [] := by
  have key : ∀ (d i : Nat) (xs : List D), l.length - i = d → i ≤ l.length → xs.length = l.length → xs.take i = ((bo l).map D.bool).take i →
      GoesL Tryz.prog (loopOf Tryz.prog 22 0) (Hb l xs [(9, .d (I (List.replicate l.length (D.bool false)).length)), (10, .d (I i))]) (.exit 0) (Hb l ((bo l).map D.bool) []) := by
    intro d
    induction d with
    | zero =>
      intro i xs hd hi hx e
      obtain rfl : i = l.length := by omega
      rw [List.take_of_length_le (by omega), List.take_of_length_le (by rw [List.length_map, bo_len]; exact Nat.le_refl _)] at e
      rw [← e]
      exact .stop hO hm (b3 l.length (List.replicate l.length (D.bool false)).length xs l) (by simp) (decide_eq_false (by rw [List.length_replicate]; omega))
    | succ d ih =>
      intro i xs hd hi hx e
      have hlt : i < l.length := by omega
      have q1 : l[i]? = some (l.getD i default) := by rw [List.getElem?_eq_getElem hlt, List.getD_eq_getElem?_getD, List.getElem?_eq_getElem hlt]; rfl
      have hn : ∀ b : Bool, ((l.getD i default) == 49) = b → (xs.set i (.bool b)).take (i + 1) = ((bo l).map D.bool).take (i + 1) := by
        intro b hb
        rw [List.take_add_one, List.take_add_one, List.take_set_of_le (Nat.le_refl _), List.getElem?_set_self (by omega), e]
        unfold bo
        rw [List.getElem?_map, List.getElem?_map, q1, ← hb]; rfl
      have q0 : decide ((i : Int) < (((List.replicate l.length (D.bool false)).length : Nat) : Int)) = true := decide_eq_true (by rw [List.length_replicate]; omega)
      cases hb : ((l.getD i default) == 49) with
      | true =>
        have q2 : ((((l.getD i default).toNat : Nat) : Int) == 49) = true := by rw [beq_iff_eq.1 hb]; rfl
        exact .step hO hm (b1 i _ xs l (l.getD i default)) ⟨q0, ⟨rfl, q1⟩, q2, ⟨rfl, by omega⟩, wrap_succ (by omega)⟩ (ih (i + 1) _ (by omega) hlt (by rw [List.length_set]; exact hx) (hn true hb))
      | false =>
        have q2 : ((((l.getD i default).toNat : Nat) : Int) == 49) = false := by
          refine beq_eq_false_iff_ne.2 fun e => beq_eq_false_iff_ne.1 hb ?_
          apply UInt8.toNat_inj.1
          show _ = 49
          omega
        exact .step hO hm (b2_ i _ xs l (l.getD i default)) ⟨q0, ⟨rfl, q1⟩, q2, ⟨rfl, by omega⟩, wrap_succ (by omega)⟩ (ih (i + 1) _ (by omega) hlt (by rw [List.length_set]; exact hx) (hn false hb))
  have h := key l.length 0 (List.replicate l.length (D.bool false)) rfl (Nat.zero_le _) (List.length_replicate) rfl
  exact (callX_ok hO hm (bw ((bo l).map D.bool) l) ⟨⟨rfl, rfl, Nat.le_trans hl (by decide)⟩, h⟩).frz (r' := .d (BL (bo l))) rfl
def Sr (c : Ci) (s : List UInt8) (n : Int) (r : Bool) (f : List Bool) (ds : List D) : St := ⟨mk 115 [(1, .d (.str s)), (2, .ptr 0 0), (4, .ptr 1 0), (10, .d (I n)), (12, .ptr 2 0), (13, .d (.bool r)), (73, .d (.sl ds)), (74, .d (I ds.length)), (75, .d (I 0))] [], [Bc c, B00, .box [.d (BL f), .emp true]]⟩
theorem ad_r (c : Ci) (s : List UInt8) (n : Int) (r : Bool) (f : List Bool) (ds : List D) : adoptB 2 1 28 (Sr c s n r f ds) = Hr c s n r f [] [(73, .d (.sl ds)), (74, .d (I ds.length)), (75, .d (I 0))] := by kernel_rfl
theorem fr_r (c : Ci) (s : List UInt8) (n : Int) (r : Bool) (f : List Bool) (acc : List D) : Ab.freeze 3 (Hr c s n r f acc []) = Er c s n r f acc := by kernel_rfl
theorem ySl : szOf Tryz.prog 28 = some 1 := by kernel_rfl
def fit (c : Ci) (l : List UInt8) : Bool := decide ((l.length : Int) = c.ins)
theorem rloop (c : Ci) (s : List UInt8) (n : Int) (r : Bool) (f : List Bool) (lr : List (List UInt8)) (hlr : lr.length ≤ 1000) (hls : ∀ l ∈ lr, l.length ≤ 1000000) :
    GoesL Tryz.prog (loopOf Tryz.prog 7 0) (Sr c s n r f (lr.map D.str)) (.exit 0) (Er c s n (r && lr.all (fit c)) f ((lr.map bo).map BL)) := by
  refine .adoptB (id := 2) (j := 1) ySl ?_
  rw [ad_r]
  have key : ∀ (d i : Nat) (r : Bool) (acc : List D), lr.length - i = d → i ≤ lr.length → acc.length ≤ i →
      GoesL Tryz.prog (loopOf Tryz.prog 7 0) (Hr c s n r f acc [(73, .d (.sl (lr.map D.str))), (74, .d (I (lr.map D.str).length)), (75, .d (I i))]) (.exit 0) (Er c s n (r && (lr.drop i).all (fit c)) f (acc ++ ((lr.drop i).map bo).map BL)) := by
    intro d
    induction d with
    | zero =>
      intro i r acc hd hi ha
      obtain rfl : i = lr.length := by omega
      rw [List.drop_length, List.map_nil, List.map_nil, List.append_nil, List.all_nil, Bool.and_true]
      have q : decide (((lr.length : Nat) : Int) < (((lr.map D.str).length : Nat) : Int)) = false := decide_eq_false (by rw [List.length_map]; omega)
      rw [← fr_r]
      cases r with
      | true => exact (GoesL.stop hO hm (r3 c n lr.length f acc s lr) (by simp) q).frz 3
      | false => exact (GoesL.stop hO hm (r5 c n lr.length f acc s lr) (by simp) q).frz 3
    | succ d ih =>
      intro i r acc hd hi ha
      have hlt : i < lr.length := by omega
      have q0 : decide ((i : Int) < (((lr.map D.str).length : Nat) : Int)) = true := decide_eq_true (by rw [List.length_map]; omega)
      have q1 := get_map D.str lr i hlt
      have q2 := bools (lr.getD i default) (hls _ (mem_getD hlt))
      have q3 : acc.length + [BL (bo (lr.getD i default))].length ≤ maxItems := Nat.le_trans (show _ ≤ 1001 by rw [List.length_singleton]; omega) (by decide)
      rw [drop_getD lr i hlt, List.map_cons, List.map_cons, List.all_cons]
      have e : acc ++ BL (bo (lr.getD i default)) :: ((lr.drop (i + 1)).map bo).map BL = (acc ++ [BL (bo (lr.getD i default))]) ++ ((lr.drop (i + 1)).map bo).map BL := by simp
      rw [e]
      have hl1 : (acc ++ [BL (bo (lr.getD i default))]).length ≤ i + 1 := by rw [List.length_append, List.length_singleton]; omega
      cases r with
      | false =>
        refine .step hO hm (r4 c n i (bo (lr.getD i default)) f acc s lr) ⟨q0, ⟨rfl, q1⟩, q2, q3, wrap_succ (by omega)⟩ ?_
        exact ih (i + 1) false _ (by omega) hlt hl1
      | true =>
        cases hf : fit c (lr.getD i default) with
        | true =>
          refine .step hO hm (r1 c n i (bo (lr.getD i default)) f acc s lr) ⟨q0, ⟨rfl, q1⟩, q2, q3, beq_iff_eq.2 (of_decide_eq_true hf), wrap_succ (by omega)⟩ ?_
          exact ih (i + 1) true _ (by omega) hlt hl1
        | false =>
          refine .step hO hm (r2 c n i (bo (lr.getD i default)) f acc s lr) ⟨q0, ⟨rfl, q1⟩, q2, q3, beq_eq_false_iff_ne.2 (of_decide_eq_false hf), wrap_succ (by omega)⟩ ?_
          exact ih (i + 1) false _ (by omega) hlt hl1
  exact key lr.length 0 r [] rfl (Nat.zero_le _) (Nat.le_refl _)
def t0 : Tr := ⟨[], []⟩
theorem frz_no (e : Int) : frzR (V.tup [V.agg [V.emp true, V.emp true], V.d (I 0), V.d (I e)]) = some (.tup [.d t0.d, .d (I 0), .d (I e)]) := rfl
theorem yStr (ls : List (List UInt8)) : ∀ (y : D), y ∈ List.map D.str ls → y.cells.length = (fun x => x.size) Tryz.prog.types[9] := by
  intro y hy
  obtain ⟨l, -, rfl⟩ := List.mem_map.1 hy
  rfl
/-- The bounds that the walk wants of the run that stands in a text of the form. -/
theorem bounds {c : Ci} {s : List UInt8} (hs : s.length ≤ 10000) (hf : few s = false) : Tw (rdT s) ∧ Tz (rdT s) := by
  unfold few at hf
  rw [Bool.or_eq_false_iff, Bool.or_eq_false_iff, decide_eq_false_iff_not, decide_eq_false_iff_not, decide_eq_false_iff_not] at hf
  have h1 : (rdT s).first.length ≤ 10000 := by
    show (bo _).length ≤ _
    rw [bo_len]
    have := splitU_mem 10 s _ (mem_getD (l := splitU 10 s) (i := 2) (by unfold lns at hf; omega))
    unfold lns
    omega
  have h2 : (rdT s).ins.length ≤ 100 := by
    show ((rdL s).map bo).length ≤ _
    unfold rdL
    rw [List.length_map, List.length_take]; omega
  have h3 : ∀ l ∈ (rdT s).ins, l.length ≤ 10000 := by
    intro l hl
    obtain ⟨x, hx, rfl⟩ := List.mem_map.1 (show l ∈ (rdL s).map bo from hl)
    rw [bo_len]
    have := splitU_mem 10 s x (List.mem_of_mem_drop (List.mem_of_mem_take hx))
    omega
  exact ⟨⟨by omega, by omega, fun l hl => by have := h3 l hl; omega⟩, ⟨h1, by omega, h3⟩⟩
theorem read {c : Ci} (h : Cw c) (s : List UInt8) (hs : s.length ≤ 10000) : ICall Tryz.prog 7 [.d c.d, .d (.str s)] []
    (if rdE c s = 0 then .tup [.d (rdT s).d, .d (I (rdN s)), .d (I 0)] else .tup [.d t0.d, .d (I 0), .d (I (rdE c s))]) [] := by
  have hg := gates_check h
  by_cases c0 : Gates.chk c ≠ 0
  · have e : rdE c s = Gates.chk c := by unfold rdE; rw [if_pos c0]
    rw [e, if_neg c0]
    exact (callX_ok hO hm (e0 c (Gates.chk c) s) ⟨hg, bne_iff_ne.2 c0⟩).frz (frz_no _)
  have c0 := Decidable.not_not.1 c0
  rw [c0] at hg
  have e12 : form c s = false → rdE c s = 12 := fun hf => by unfold rdE; rw [if_neg (by rw [c0]; simp), hf]; rfl
  have hsp := Sp.split 10 s (by omega)
  have hl0 : (((lns s).map D.str).length : Int) = ((lns s).length : Int) := by rw [List.length_map]
  have no : form c s = false → ICall Tryz.prog 7 [.d c.d, .d (.str s)] [] (.tup [.d t0.d, .d (I 0), .d (I 12)]) [] → ICall Tryz.prog 7 [.d c.d, .d (.str s)] []
    (if rdE c s = 0 then .tup [.d (rdT s).d, .d (I (rdN s)), .d (I 0)] else .tup [.d t0.d, .d (I 0), .d (I (rdE c s))]) [] := fun hf hh => by
    rw [e12 hf, if_neg (by decide)]; exact hh
  by_cases c1 : (lns s).length < 6
  · exact no (by unfold form few; rw [decide_eq_true c1]; rfl) ((callX_ok hO hm (e1 c s (lns s)) ⟨hg, rfl, hsp, decide_eq_true (by rw [hl0]; omega)⟩).frz (frz_no _))
  have d1 : decide ((((lns s).map D.str).length : Int) < 6) = false := decide_eq_false (by rw [hl0]; omega)
  have hb : (lns s).length ≤ 10001 := by
    have := Sp.splitU_len 10 s
    have := List.count_le_length (a := 10) (l := s)
    unfold lns; omega
  have w5 : IntKind.i64.wrap ((((lns s).map D.str).length : Int) - 5) = (((lns s).map D.str).length : Int) - 5 := wrap_id (by rw [hl0]; omega) (by rw [hl0]; omega)
  by_cases c2 : (lns s).length > 105
  · exact no (by unfold form few; rw [decide_eq_true c2]; simp) ((callX_ok hO hm (e2 c s (lns s)) ⟨hg, rfl, hsp, d1, w5, decide_eq_true (by rw [hl0]; omega)⟩).frz (frz_no _))
  have d2 : decide ((((lns s).map D.str).length : Int) - 5 > 100) = false := decide_eq_false (by rw [hl0]; omega)
  have g1 := get_map D.str (lns s) 1 (by omega)
  by_cases c3 : ((lns s).getD 1 default).length > 10
  · exact no (by unfold form few; rw [decide_eq_true c3]; simp) ((callX_ok hO hm (e3 c s (lns s)) ⟨hg, rfl, hsp, d1, w5, d2, ⟨rfl, g1⟩, decide_eq_true (by omega)⟩).frz (frz_no _))
  have d3 : decide ((((lns s).getD 1 default).length : Int) > 10) = false := decide_eq_false (by omega)
  have hfew : few s = false := by unfold few; rw [decide_eq_false c1, decide_eq_false c2, decide_eq_false c3]; rfl
  have ht := trimP ((lns s).getD 1 default)
  have htl : (trim ((lns s).getD 1 default)).length ≤ 18 := by
    unfold trim
    split
    · rw [List.length_drop]; omega
    · omega
  have g2 := get_map D.str (lns s) 2 (by omega)
  have hmem : ∀ l ∈ lns s, l.length ≤ 10000 := fun l hl => by have := splitU_mem 10 s l hl; omega
  have hbo := bools ((lns s).getD 2 default) (by have := hmem _ (mem_getD (i := 2) (l := lns s) (by omega)); omega)
  have w2 : IntKind.i64.wrap ((((lns s).map D.str).length : Int) - 2) = (((lns s).map D.str).length : Int) - 2 := wrap_id (by rw [hl0]; omega) (by rw [hl0]; omega)
  have cut : (3 : Int) = ((3 : Nat) : Int) ∧ (((lns s).map D.str).length : Int) - 2 = (((lns s).length - 2 : Nat) : Int) ∧ 3 ≤ (lns s).length - 2 ∧ (lns s).length - 2 ≤ ((lns s).map D.str).length := ⟨rfl, by rw [hl0]; omega, by omega, by rw [List.length_map]; omega⟩
  have er : List.take ((lns s).length - 2 - 3) (List.drop 3 ((lns s).map D.str)) = (rdL s).map D.str := by unfold rdL; rw [List.map_take, List.map_drop]
  have lp := fun n r => rloop c s n r (bo ((lns s).getD 2 default)) (rdL s) (by unfold rdL; rw [List.length_take]; omega) (fun l hl => by have := hmem l (List.mem_of_mem_drop (List.mem_of_mem_take hl)); omega)
  rw [← er] at lp
  cases ha : rdA s with
  | none =>
    have hat := Ati.atoi_err _ htl (show Lib.atoi (trim ((lns s).getD 1 default)) = none from ha)
    have hr : okR c s = false := by unfold okR okL; rw [ha]; rfl
    exact no (by unfold form; rw [hr]; simp) ((callX_ok hO hm (e4 c ((lns s).length - 2) (bo ((lns s).getD 2 default)) (((rdL s).map bo).map BL) s (trim ((lns s).getD 1 default)) (lns s)) ⟨hg, rfl, hsp, d1, w5, d2, ⟨rfl, g1⟩, d3, ⟨rfl, g1⟩, ht, hat, ⟨rfl, g2⟩, hbo, w2, cut, yStr _, lp 0 false, rfl⟩).frz (frz_no _))
  | some n =>
    have hN : rdN s = n := by unfold rdN; rw [ha]; rfl
    have hat := Ati.atoi_ok _ n htl (show Lib.atoi (trim ((lns s).getD 1 default)) = some n from ha)
    by_cases c4 : 0 ≤ n
    case neg =>
      have hr : okR c s = false := by unfold okR okL; rw [ha, hN, decide_eq_false c4]; rfl
      exact no (by unfold form; rw [hr]; simp) ((callX_ok hO hm (e7 c n ((lns s).length - 2) (bo ((lns s).getD 2 default)) (((rdL s).map bo).map BL) s (trim ((lns s).getD 1 default)) (lns s)) ⟨hg, rfl, hsp, d1, w5, d2, ⟨rfl, g1⟩, d3, ⟨rfl, g1⟩, ht, hat, ⟨rfl, g2⟩, hbo, decide_eq_false c4, w2, cut, yStr _, lp n false, rfl⟩).frz (frz_no _))
    have d4 : decide (n ≥ 0) = true := decide_eq_true c4
    by_cases c5 : (rdT s).first.length = c.lats.length
    case neg =>
      have hr : okR c s = false := by unfold okR okL; rw [decide_eq_false c5]; simp
      have d5 : (((((bo ((lns s).getD 2 default)).map D.bool).length : Nat) : Int) == (((c.lats.map Lt.d).length : Nat) : Int)) = false := beq_eq_false_iff_ne.2 (by
        rw [List.length_map, List.length_map]
        intro e
        exact c5 (by show (bo _).length = _; omega))
      exact no (by unfold form; rw [hr]; simp) ((callX_ok hO hm (e6 c n ((lns s).length - 2) (bo ((lns s).getD 2 default)) (((rdL s).map bo).map BL) s (trim ((lns s).getD 1 default)) (lns s)) ⟨hg, rfl, hsp, d1, w5, d2, ⟨rfl, g1⟩, d3, ⟨rfl, g1⟩, ht, hat, ⟨rfl, g2⟩, hbo, d4, d5, w2, cut, yStr _, lp n false, rfl⟩).frz (frz_no _))
    have d5 : (((((bo ((lns s).getD 2 default)).map D.bool).length : Nat) : Int) == (((c.lats.map Lt.d).length : Nat) : Int)) = true := beq_iff_eq.2 (by
      rw [List.length_map, List.length_map]
      have : (bo ((lns s).getD 2 default)).length = c.lats.length := c5
      omega)
    have lp := lp n true
    rw [Bool.true_and] at lp
    have hok : okR c s = (rdL s).all (fit c) := by
      unfold okR okL
      rw [ha, hN, decide_eq_true c4, decide_eq_true c5]; rfl
    cases c6 : (rdL s).all (fit c) with
    | false =>
      rw [c6] at lp hok
      exact no (by unfold form; rw [hok]; simp) ((callX_ok hO hm (e5 c n ((lns s).length - 2) (bo ((lns s).getD 2 default)) (((rdL s).map bo).map BL) s (trim ((lns s).getD 1 default)) (lns s)) ⟨hg, rfl, hsp, d1, w5, d2, ⟨rfl, g1⟩, d3, ⟨rfl, g1⟩, ht, hat, ⟨rfl, g2⟩, hbo, d4, d5, w2, cut, yStr _, lp, rfl⟩).frz (frz_no _))
    | true =>
      rw [c6] at lp hok
      obtain ⟨hw, hz⟩ := bounds (c := c) hs hfew
      have hn9 : n ≤ 9223372036854775807 := by have := (Lib.atoi_bound ha htl).2; omega
      have hwr := write (rdT s) n hz (by omega) hn9
      by_cases c7 : txt (rdT s) n = s
      · have hwt := wcheck h hw n
        have hf : form c s = true := by unfold form; rw [hfew, hok, hN, decide_eq_true c7]; rfl
        have he : rdE c s = wtChk c (rdT s) n := by unfold rdE; rw [if_neg (by rw [c0]; simp), hf, if_pos rfl, hN]
        rw [c7] at hwr
        rw [he, hN]
        by_cases c8 : wtChk c (rdT s) n = 0
        · rw [if_pos c8]
          rw [c8] at hwt
          exact callX_ok hO hm (e10 c n 0 ((lns s).length - 2) (bo ((lns s).getD 2 default)) (((rdL s).map bo).map BL) s (trim ((lns s).getD 1 default)) s (lns s)) ⟨hg, rfl, hsp, d1, w5, d2, ⟨rfl, g1⟩, d3, ⟨rfl, g1⟩, ht, hat, ⟨rfl, g2⟩, hbo, d4, d5, w2, cut, yStr _, lp, rfl, hwr, by simp, hwt, rfl⟩
        · rw [if_neg c8]
          exact (callX_ok hO hm (e9 c n (wtChk c (rdT s) n) ((lns s).length - 2) (bo ((lns s).getD 2 default)) (((rdL s).map bo).map BL) s (trim ((lns s).getD 1 default)) s (lns s)) ⟨hg, rfl, hsp, d1, w5, d2, ⟨rfl, g1⟩, d3, ⟨rfl, g1⟩, ht, hat, ⟨rfl, g2⟩, hbo, d4, d5, w2, cut, yStr _, lp, rfl, hwr, by simp, hwt, bne_iff_ne.2 c8⟩).frz (frz_no _)
      · have hf : form c s = false := by unfold form; rw [hN, decide_eq_false c7]; simp
        exact no hf ((callX_ok hO hm (e8 c n ((lns s).length - 2) (bo ((lns s).getD 2 default)) (((rdL s).map bo).map BL) s (trim ((lns s).getD 1 default)) (txt (rdT s) n) (lns s)) ⟨hg, rfl, hsp, d1, w5, d2, ⟨rfl, g1⟩, d3, ⟨rfl, g1⟩, ht, hat, ⟨rfl, g2⟩, hbo, d4, d5, w2, cut, yStr _, lp, rfl, hwr, by rw [beq_eq_false_iff_ne.2 c7]; rfl⟩).frz (frz_no _))
end Go.Proofs.YtccejdncpknbaaaGreatDoor.Sy.Rd
/- ref08.Split, Number, ref11.Values, Parsed, Read: round by round. -/
namespace Go.Proofs.YtccejdncpknbaaaGreatDoor.Sy.Rp
open Go Go.Proofs.YtccejdncpknbaaaGreatDoor.Ab Go.Proofs.YtccejdncpknbaaaGreatDoor.Sy Go.Proofs.YtccejdncpknbaaaGreatDoor.Sy.Tx Go.Proofs.YtccejdncpknbaaaGreatDoor.Sy.Vl Go.Proofs.YtccejdncpknbaaaGreatDoor.Sy.Tc Go.Proofs.YtccejdncpknbaaaGreatDoor.Sy.Wi Go.Proofs.YtccejdncpknbaaaGreatDoor.Sy.Rd
set_option maxRecDepth 1000000
set_option linter.unusedVariables false
def Sp8 (u : UInt8) (s : List UInt8) (xs : List D) (i : Nat) : St := ⟨mk 36 [(0, .d (.str s)), (1, .d (u8 u)), (5, .arr 0), (6, .d (I i))] [], [.lst 9 xs]⟩
def Se8 (s : List UInt8) (xs : List D) : St := ⟨mk 36 [(0, .d (.str s)), (5, .arr 0)] [], [.lst 9 xs]⟩
def Hn (s : List UInt8) (n : Int) (i : Nat) : St := ⟨mk 48 [(0, .d (.str s)), (3, .d (I n)), (4, .d (I i))] [], []⟩
def En (s : List UInt8) (n : Int) : St := ⟨mk 48 [(0, .d (.str s)), (3, .d (I n))] [], []⟩
def Rn : St := ⟨mk 48 [(2, .d (I (-1)))] [], []⟩
def Ha (s : List UInt8) (xs : List D) (i : Nat) : St := ⟨mk 36 [(0, .d (.str s)), (6, .arr 0), (7, .d (I i))] [], [.lst 4 xs]⟩
def Ea (s : List UInt8) (xs : List D) : St := ⟨mk 36 [(0, .d (.str s)), (6, .arr 0)] [], [.lst 4 xs]⟩
def Ra (xs : List D) : St := ⟨mk 36 [(4, .emp true), (5, .d (.bool false))] [], [.lst 4 xs]⟩
def Hp (c : Ci) (ls : List (List UInt8)) (m : Int) (n : Int) (r : Bool) (f : List Bool) (acc : List D) (sl : List (Nat × V)) : St := ⟨mk 113 ([(2, .ptr 0 0), (4, .ptr 1 0), (7, .d (.sl (ls.map D.str))), (8, .d (I m)), (9, .d (I n)), (11, .d (.bool r)), (12, .ptr 2 0)] ++ sl) [], [Bc c, B00, .box [.d (BL f), .arr 3], .lst 28 acc]⟩
def Ep (c : Ci) (ls : List (List UInt8)) (m : Int) (n : Int) (r : Bool) (f : List Bool) (acc : List D) : St := ⟨mk 113 [(2, .ptr 0 0), (4, .ptr 1 0), (7, .d (.sl (ls.map D.str))), (8, .d (I m)), (9, .d (I n)), (11, .d (.bool r)), (12, .ptr 2 0)] [], [Bc c, B00, .box [.d (BL f), .d (.sl acc)], .dead]⟩
section
variable (c : Ci) (t : Tr) (n m e g : Int) (i j k : Nat) (s r z : List UInt8) (f v : List Bool) (q u : UInt8) (b b2 : Bool) (xs ys acc : List D) (ls : List (List UInt8))
theorem s1 : round Tryz.prog wr false O (loopOf Tryz.prog 56 0) (Sp8 u s xs i) [It.br true, It.by i q, It.br true, It.raw, It.raw, It.raw, It.is (↑(i + 1) : Int)] [0, 1, 5, 6] 1 = some (.normal, Sp8 u s (xs ++ [.str []]) (i + 1),
  [decide ((↑i : Int) < (↑s.length : Int)) = true,
   (↑i : Int) = (↑i : Int) ∧ s[i]? = some q,
   ((↑q.toNat : Int) == (↑u.toNat : Int)) = true,
   xs.length + 1 ≤ maxItems,
   IntKind.i64.wrap ((↑i : Int) + 1) = (↑(i + 1) : Int)]) := by kernel_rfl
theorem s2 : round Tryz.prog wr false O (loopOf Tryz.prog 56 0) (Sp8 u s xs i) [It.br true, It.by i q, It.br false, It.is ((↑xs.length : Int) - 1), It.ix ((↑xs.length : Int) - 1).toNat, It.el j (D.str z), It.is (↑(i + 1) : Int), It.cut i (i + 1), It.raw, It.ix ((↑xs.length : Int) - 1).toNat, It.is (↑(i + 1) : Int)] [0, 1, 5, 6] 1 = some (.normal, Sp8 u s (xs.set (((xs.length : Nat) : Int) - 1).toNat (.str (z ++ List.take (i + 1 - i) (List.drop i s)))) (i + 1),
  [decide ((↑i : Int) < (↑s.length : Int)) = true,
   (↑i : Int) = (↑i : Int) ∧ s[i]? = some q,
   ((↑q.toNat : Int) == (↑u.toNat : Int)) = false,
   IntKind.i64.wrap ((↑xs.length : Int) - 1) = (↑xs.length : Int) - 1,
   (↑xs.length : Int) - 1 = (↑((↑xs.length : Int) - 1).toNat : Int) ∧ ((↑xs.length : Int) - 1).toNat < xs.length,
   xs[((↑xs.length : Int) - 1).toNat]? = some (D.str z),
   IntKind.i64.wrap ((↑i : Int) + 1) = (↑(i + 1) : Int),
   (↑i : Int) = (↑i : Int) ∧ (↑(i + 1) : Int) = (↑(i + 1) : Int) ∧ i ≤ i + 1 ∧ i + 1 ≤ s.length,
   z.length + (List.take (i + 1 - i) (List.drop i s)).length < 4611686018427387904,
   (↑xs.length : Int) - 1 = (↑((↑xs.length : Int) - 1).toNat : Int) ∧ ((↑xs.length : Int) - 1).toNat < xs.length,
   IntKind.i64.wrap ((↑i : Int) + 1) = (↑(i + 1) : Int)]) := by kernel_rfl
theorem s3 : round Tryz.prog wr false O (loopOf Tryz.prog 56 0) (Sp8 u s xs i) [It.br false] [0, 5] 1 = some (.exit 0, Se8 s xs,
  [decide ((↑i : Int) < (↑s.length : Int)) = false]) := by kernel_rfl
theorem sc  : callX Tryz.prog wr false O 56 [.d (.str s), .d (u8 u)] [] [It.own, It.lp [0, 1, 5, 6] (Ex.exit 0) (Se8 s xs)] = some (V.own 9 xs, [],
  [GoesL Tryz.prog (loopOf Tryz.prog 56 0) (⟨mk 36 [(0, V.d (D.str s)), (1, V.d (D.int IntKind.u8 (↑u.toNat : Int))), (5, V.arr 0), (6, V.d (D.int IntKind.i64 0))] [], [B.lst 9 [D.str (ByteArray.mk #[]).data.toList]]⟩) (Ex.exit 0) (Se8 s xs)]) := by kernel_rfl
theorem n1 : round Tryz.prog wr false O (loopOf Tryz.prog 57 0) (Hn s n i) [It.br true, It.by i q, It.br true] [2] 0 = some (.ret, Rn,
  [decide ((↑i : Int) < (↑s.length : Int)) = true,
   (↑i : Int) = (↑i : Int) ∧ s[i]? = some q,
   decide ((↑q.toNat : Int) < 48) = true]) := by kernel_rfl
theorem n2 : round Tryz.prog wr false O (loopOf Tryz.prog 57 0) (Hn s n i) [It.br true, It.by i q, It.br false, It.by i q, It.br true] [2] 0 = some (.ret, Rn,
  [decide ((↑i : Int) < (↑s.length : Int)) = true,
   (↑i : Int) = (↑i : Int) ∧ s[i]? = some q,
   decide ((↑q.toNat : Int) < 48) = false,
   (↑i : Int) = (↑i : Int) ∧ s[i]? = some q,
   decide ((↑q.toNat : Int) > 57) = true]) := by kernel_rfl
theorem n3 : round Tryz.prog wr false O (loopOf Tryz.prog 57 0) (Hn s n i) [It.br true, It.by i q, It.br false, It.by i q, It.br false, It.is (n * 10), It.by i q, It.is ((↑q.toNat : Int) - 48), It.is ((↑q.toNat : Int) - 48), It.is (n * 10 + ((↑q.toNat : Int) - 48)), It.is (↑(i + 1) : Int)] [0, 3, 4] 0 = some (.normal, Hn s (n * 10 + ((q.toNat : Int) - 48)) (i + 1),
  [decide ((↑i : Int) < (↑s.length : Int)) = true,
   (↑i : Int) = (↑i : Int) ∧ s[i]? = some q,
   decide ((↑q.toNat : Int) < 48) = false,
   (↑i : Int) = (↑i : Int) ∧ s[i]? = some q,
   decide ((↑q.toNat : Int) > 57) = false,
   IntKind.i64.wrap (n * 10) = n * 10,
   (↑i : Int) = (↑i : Int) ∧ s[i]? = some q,
   IntKind.u8.wrap ((↑q.toNat : Int) - 48) = (↑q.toNat : Int) - 48,
   IntKind.i64.wrap ((↑q.toNat : Int) - 48) = (↑q.toNat : Int) - 48,
   IntKind.i64.wrap (n * 10 + ((↑q.toNat : Int) - 48)) = n * 10 + ((↑q.toNat : Int) - 48),
   IntKind.i64.wrap ((↑i : Int) + 1) = (↑(i + 1) : Int)]) := by kernel_rfl
theorem n4 : round Tryz.prog wr false O (loopOf Tryz.prog 57 0) (Hn s n i) [It.br false] [0, 3] 0 = some (.exit 0, En s n,
  [decide ((↑i : Int) < (↑s.length : Int)) = false]) := by kernel_rfl
theorem k0  : callX Tryz.prog wr false O 57 [.d (.str s)] [] [It.br true] = some (V.d (D.int IntKind.i64 (-1)), [],
  [((↑s.length : Int) == 0) = true]) := by kernel_rfl
theorem k1  : callX Tryz.prog wr false O 57 [.d (.str s)] [] [It.br false, It.br true] = some (V.d (D.int IntKind.i64 (-1)), [],
  [((↑s.length : Int) == 0) = false,
   decide ((↑s.length : Int) > 9) = true]) := by kernel_rfl
theorem k2  : callX Tryz.prog wr false O 57 [.d (.str s)] [] [It.br false, It.br false, It.by 0 q, It.br true, It.br true] = some (V.d (D.int IntKind.i64 (-1)), [],
  [((↑s.length : Int) == 0) = false,
   decide ((↑s.length : Int) > 9) = false,
   0 = (↑0 : Int) ∧ s[0]? = some q,
   ((↑q.toNat : Int) == 48) = true,
   decide ((↑s.length : Int) > 1) = true]) := by kernel_rfl
theorem k3  : callX Tryz.prog wr false O 57 [.d (.str s)] [] [It.br false, It.br false, It.by 0 q, It.br true, It.br false, It.lp [0, 3, 4] (Ex.exit 0) (En s n)] = some (V.d (D.int IntKind.i64 n), [],
  [((↑s.length : Int) == 0) = false,
   decide ((↑s.length : Int) > 9) = false,
   0 = (↑0 : Int) ∧ s[0]? = some q,
   ((↑q.toNat : Int) == 48) = true,
   decide ((↑s.length : Int) > 1) = false,
   GoesL Tryz.prog (loopOf Tryz.prog 57 0) (⟨mk 48 [(0, V.d (D.str s)), (3, V.d (D.int IntKind.i64 0)), (4, V.d (D.int IntKind.i64 0))] [], []⟩) (Ex.exit 0) (En s n)]) := by kernel_rfl
theorem k4  : callX Tryz.prog wr false O 57 [.d (.str s)] [] [It.br false, It.br false, It.by 0 q, It.br false, It.lp [0, 3, 4] (Ex.exit 0) (En s n)] = some (V.d (D.int IntKind.i64 n), [],
  [((↑s.length : Int) == 0) = false,
   decide ((↑s.length : Int) > 9) = false,
   0 = (↑0 : Int) ∧ s[0]? = some q,
   ((↑q.toNat : Int) == 48) = false,
   GoesL Tryz.prog (loopOf Tryz.prog 57 0) (⟨mk 48 [(0, V.d (D.str s)), (3, V.d (D.int IntKind.i64 0)), (4, V.d (D.int IntKind.i64 0))] [], []⟩) (Ex.exit 0) (En s n)]) := by kernel_rfl
theorem k5  : callX Tryz.prog wr false O 57 [.d (.str s)] [] [It.br true] = some (V.d (D.int IntKind.i64 (-1)), [],
  [((↑s.length : Int) == 0) = true]) := by kernel_rfl
theorem k6  : callX Tryz.prog wr false O 57 [.d (.str s)] [] [It.br false, It.br true] = some (V.d (D.int IntKind.i64 (-1)), [],
  [((↑s.length : Int) == 0) = false,
   decide ((↑s.length : Int) > 9) = true]) := by kernel_rfl
theorem k7  : callX Tryz.prog wr false O 57 [.d (.str s)] [] [It.br false, It.br false, It.by 0 q, It.br true, It.br true] = some (V.d (D.int IntKind.i64 (-1)), [],
  [((↑s.length : Int) == 0) = false,
   decide ((↑s.length : Int) > 9) = false,
   0 = (↑0 : Int) ∧ s[0]? = some q,
   ((↑q.toNat : Int) == 48) = true,
   decide ((↑s.length : Int) > 1) = true]) := by kernel_rfl
theorem k8  : callX Tryz.prog wr false O 57 [.d (.str s)] [] [It.br false, It.br false, It.by 0 q, It.br true, It.br false, It.lp [0, 3, 4] Ex.ret Rn] = some (V.d (D.int IntKind.i64 (-1)), [],
  [((↑s.length : Int) == 0) = false,
   decide ((↑s.length : Int) > 9) = false,
   0 = (↑0 : Int) ∧ s[0]? = some q,
   ((↑q.toNat : Int) == 48) = true,
   decide ((↑s.length : Int) > 1) = false,
   GoesL Tryz.prog (loopOf Tryz.prog 57 0) (⟨mk 48 [(0, V.d (D.str s)), (3, V.d (D.int IntKind.i64 0)), (4, V.d (D.int IntKind.i64 0))] [], []⟩) (Ex.ret) (Rn)]) := by kernel_rfl
theorem k9  : callX Tryz.prog wr false O 57 [.d (.str s)] [] [It.br false, It.br false, It.by 0 q, It.br false, It.lp [0, 3, 4] Ex.ret Rn] = some (V.d (D.int IntKind.i64 (-1)), [],
  [((↑s.length : Int) == 0) = false,
   decide ((↑s.length : Int) > 9) = false,
   0 = (↑0 : Int) ∧ s[0]? = some q,
   ((↑q.toNat : Int) == 48) = false,
   GoesL Tryz.prog (loopOf Tryz.prog 57 0) (⟨mk 48 [(0, V.d (D.str s)), (3, V.d (D.int IntKind.i64 0)), (4, V.d (D.int IntKind.i64 0))] [], []⟩) (Ex.ret) (Rn)]) := by kernel_rfl
theorem a1 : round Tryz.prog wr false O (loopOf Tryz.prog 58 0) (Ha s xs i) [It.br true, It.by i q, It.br true, It.by i q, It.br true] [4, 5] 1 = some (.ret, Ra xs,
  [decide ((↑i : Int) < (↑s.length : Int)) = true,
   (↑i : Int) = (↑i : Int) ∧ s[i]? = some q,
   ((↑q.toNat : Int) != 48) = true,
   (↑i : Int) = (↑i : Int) ∧ s[i]? = some q,
   ((↑q.toNat : Int) != 49) = true]) := by kernel_rfl
theorem a2 : round Tryz.prog wr false O (loopOf Tryz.prog 58 0) (Ha s xs i) [It.br true, It.by i q, It.br true, It.by i q, It.br false, It.by i q, It.br true, It.raw, It.raw, It.raw, It.is (↑(i + 1) : Int)] [0, 6, 7] 1 = some (.normal, Ha s (xs ++ [.bool true]) (i + 1),
  [decide ((↑i : Int) < (↑s.length : Int)) = true,
   (↑i : Int) = (↑i : Int) ∧ s[i]? = some q,
   ((↑q.toNat : Int) != 48) = true,
   (↑i : Int) = (↑i : Int) ∧ s[i]? = some q,
   ((↑q.toNat : Int) != 49) = false,
   (↑i : Int) = (↑i : Int) ∧ s[i]? = some q,
   ((↑q.toNat : Int) == 49) = true,
   xs.length + 1 ≤ maxItems,
   IntKind.i64.wrap ((↑i : Int) + 1) = (↑(i + 1) : Int)]) := by kernel_rfl
theorem a3 : round Tryz.prog wr false O (loopOf Tryz.prog 58 0) (Ha s xs i) [It.br true, It.by i q, It.br false, It.by i q, It.br false, It.raw, It.raw, It.raw, It.is (↑(i + 1) : Int)] [0, 6, 7] 1 = some (.normal, Ha s (xs ++ [.bool false]) (i + 1),
  [decide ((↑i : Int) < (↑s.length : Int)) = true,
   (↑i : Int) = (↑i : Int) ∧ s[i]? = some q,
   ((↑q.toNat : Int) != 48) = false,
   (↑i : Int) = (↑i : Int) ∧ s[i]? = some q,
   ((↑q.toNat : Int) == 49) = false,
   xs.length + 1 ≤ maxItems,
   IntKind.i64.wrap ((↑i : Int) + 1) = (↑(i + 1) : Int)]) := by kernel_rfl
theorem a4 : round Tryz.prog wr false O (loopOf Tryz.prog 58 0) (Ha s xs i) [It.br false] [0, 6] 1 = some (.exit 0, Ea s xs,
  [decide ((↑i : Int) < (↑s.length : Int)) = false]) := by kernel_rfl
theorem v0  : callX Tryz.prog wr false O 58 [.d (.str s), .d (I n)] [] [It.br true] = some (V.tup [V.emp true, V.d (D.bool false)], [],
  [((↑s.length : Int) != n) = true]) := by kernel_rfl
theorem v1  : callX Tryz.prog wr false O 58 [.d (.str s), .d (I n)] [] [It.br false, It.lp [0, 6, 7] (Ex.exit 0) (Ea s xs)] = some (V.tup [V.own 4 xs, V.d (D.bool true)], [],
  [((↑s.length : Int) != n) = false,
   GoesL Tryz.prog (loopOf Tryz.prog 58 0) (⟨mk 36 [(0, V.d (D.str s)), (6, V.emp true), (7, V.d (D.int IntKind.i64 0))] [], []⟩) (Ex.exit 0) (Ea s xs)]) := by kernel_rfl
theorem v2  : callX Tryz.prog wr false O 58 [.d (.str s), .d (I n)] [] [It.br false, It.lp [0, 6, 7] Ex.ret (Ra xs)] = some (V.tup [V.emp true, V.d (D.bool false)], [],
  [((↑s.length : Int) != n) = false,
   GoesL Tryz.prog (loopOf Tryz.prog 58 0) (⟨mk 36 [(0, V.d (D.str s)), (6, V.emp true), (7, V.d (D.int IntKind.i64 0))] [], []⟩) (Ex.ret) (Ra xs)]) := by kernel_rfl
theorem p1 : round Tryz.prog wr false O (loopOf Tryz.prog 25 0) (Hp c ls m n true f acc [(13, .d (I i))]) [It.is (m - 2), It.br true, It.el i (D.str (ls.getD i default)), It.icall [] (V.tup [V.d (BL v), V.d (D.bool b)]) [], It.raw, It.raw, It.raw, It.is (↑(i + 1) : Int)] [2, 4, 7, 8, 9, 11, 12, 13] 4 = some (.normal, Hp c ls m n b f (acc ++ [BL v]) [(13, .d (I (i + 1 : Nat)))],
  [IntKind.i64.wrap (m - 2) = m - 2,
   decide ((↑i : Int) < m - 2) = true,
   (↑i : Int) = (↑i : Int) ∧ (List.map D.str ls)[i]? = some (D.str (ls.getD i default)),
   ICall Tryz.prog 58 [V.d (D.str (ls.getD i default)), V.d (I c.ins)] [] (V.tup [V.d (BL v), V.d (D.bool b)]) [],
   acc.length + [BL v].length ≤ maxItems,
   IntKind.i64.wrap ((↑i : Int) + 1) = (↑(i + 1) : Int)]) := by kernel_rfl
theorem p2 : round Tryz.prog wr false O (loopOf Tryz.prog 25 0) (Hp c ls m n true f acc [(13, .d (I i))]) [It.is (m - 2), It.br false] [2, 4, 7, 8, 9, 11, 12] 4 = some (.exit 0, Hp c ls m n true f acc [],
  [IntKind.i64.wrap (m - 2) = m - 2,
   decide ((↑i : Int) < m - 2) = false]) := by kernel_rfl
theorem p3 : round Tryz.prog wr false O (loopOf Tryz.prog 25 0) (Hp c ls m n false f acc [(13, .d (I i))]) [It.is (m - 2), It.br true, It.el i (D.str (ls.getD i default)), It.icall [] (V.tup [V.d (BL v), V.d (D.bool b)]) [], It.raw, It.raw, It.raw, It.is (↑(i + 1) : Int)] [2, 4, 7, 8, 9, 11, 12, 13] 4 = some (.normal, Hp c ls m n false f (acc ++ [BL v]) [(13, .d (I (i + 1 : Nat)))],
  [IntKind.i64.wrap (m - 2) = m - 2,
   decide ((↑i : Int) < m - 2) = true,
   (↑i : Int) = (↑i : Int) ∧ (List.map D.str ls)[i]? = some (D.str (ls.getD i default)),
   ICall Tryz.prog 58 [V.d (D.str (ls.getD i default)), V.d (I c.ins)] [] (V.tup [V.d (BL v), V.d (D.bool b)]) [],
   acc.length + [BL v].length ≤ maxItems,
   IntKind.i64.wrap ((↑i : Int) + 1) = (↑(i + 1) : Int)]) := by kernel_rfl
theorem p4 : round Tryz.prog wr false O (loopOf Tryz.prog 25 0) (Hp c ls m n false f acc [(13, .d (I i))]) [It.is (m - 2), It.br false] [2, 4, 7, 8, 9, 11, 12] 4 = some (.exit 0, Hp c ls m n false f acc [],
  [IntKind.i64.wrap (m - 2) = m - 2,
   decide ((↑i : Int) < m - 2) = false]) := by kernel_rfl
theorem q0  : callX Tryz.prog wr false O 25 [.d c.d, .d (.str s)] [] [It.icall [] (V.d (D.sl (List.map D.str ls))) [], It.br true] = some (V.tup [V.agg [V.emp true, V.emp true], V.d (D.int IntKind.i64 0), V.d (D.bool false)], [],
  [ICall Tryz.prog 56 [V.d (D.str s), V.d (D.int IntKind.u8 10)] [] (V.d (D.sl (List.map D.str ls))) [],
   decide ((↑(List.map D.str ls).length : Int) < 6) = true]) := by kernel_rfl
theorem q1  : callX Tryz.prog wr false O 25 [.d c.d, .d (.str s)] [] [It.icall [] (V.d (D.sl (List.map D.str ls))) [], It.br false, It.br true] = some (V.tup [V.agg [V.emp true, V.emp true], V.d (D.int IntKind.i64 0), V.d (D.bool false)], [],
  [ICall Tryz.prog 56 [V.d (D.str s), V.d (D.int IntKind.u8 10)] [] (V.d (D.sl (List.map D.str ls))) [],
   decide ((↑(List.map D.str ls).length : Int) < 6) = false,
   decide ((↑(List.map D.str ls).length : Int) > 105) = true]) := by kernel_rfl
theorem q2  : callX Tryz.prog wr false O 25 [.d c.d, .d (.str s)] [] [It.icall [] (V.d (D.sl (List.map D.str ls))) [], It.br false, It.br false, It.is ((↑(List.map D.str ls).length : Int) - 1), It.el ((↑(List.map D.str ls).length : Int) - 1).toNat (D.str (ls.getD ((↑(List.map D.str ls).length : Int) - 1).toNat default)), It.br true] = some (V.tup [V.agg [V.emp true, V.emp true], V.d (D.int IntKind.i64 0), V.d (D.bool false)], [],
  [ICall Tryz.prog 56 [V.d (D.str s), V.d (D.int IntKind.u8 10)] [] (V.d (D.sl (List.map D.str ls))) [],
   decide ((↑(List.map D.str ls).length : Int) < 6) = false,
   decide ((↑(List.map D.str ls).length : Int) > 105) = false,
   IntKind.i64.wrap ((↑(List.map D.str ls).length : Int) - 1) = (↑(List.map D.str ls).length : Int) - 1,
   (↑(List.map D.str ls).length : Int) - 1 = (↑((↑(List.map D.str ls).length : Int) - 1).toNat : Int) ∧ (List.map D.str ls)[((↑(List.map D.str ls).length : Int) - 1).toNat]? = some (D.str (ls.getD ((↑(List.map D.str ls).length : Int) - 1).toNat default)),
   (!ls.getD ((↑(List.map D.str ls).length : Int) - 1).toNat default == (ByteArray.mk #[]).data.toList) = true]) := by kernel_rfl
theorem q3  : callX Tryz.prog wr false O 25 [.d c.d, .d (.str s)] [] [It.icall [] (V.d (D.sl (List.map D.str ls))) [], It.br false, It.br false, It.is ((↑(List.map D.str ls).length : Int) - 1), It.el ((↑(List.map D.str ls).length : Int) - 1).toNat (D.str (ls.getD ((↑(List.map D.str ls).length : Int) - 1).toNat default)), It.br false, It.is ((↑(List.map D.str ls).length : Int) - 2), It.el ((↑(List.map D.str ls).length : Int) - 2).toNat (D.str (ls.getD ((↑(List.map D.str ls).length : Int) - 2).toNat default)), It.br true] = some (V.tup [V.agg [V.emp true, V.emp true], V.d (D.int IntKind.i64 0), V.d (D.bool false)], [],
  [ICall Tryz.prog 56 [V.d (D.str s), V.d (D.int IntKind.u8 10)] [] (V.d (D.sl (List.map D.str ls))) [],
   decide ((↑(List.map D.str ls).length : Int) < 6) = false,
   decide ((↑(List.map D.str ls).length : Int) > 105) = false,
   IntKind.i64.wrap ((↑(List.map D.str ls).length : Int) - 1) = (↑(List.map D.str ls).length : Int) - 1,
   (↑(List.map D.str ls).length : Int) - 1 = (↑((↑(List.map D.str ls).length : Int) - 1).toNat : Int) ∧ (List.map D.str ls)[((↑(List.map D.str ls).length : Int) - 1).toNat]? = some (D.str (ls.getD ((↑(List.map D.str ls).length : Int) - 1).toNat default)),
   (!ls.getD ((↑(List.map D.str ls).length : Int) - 1).toNat default == (ByteArray.mk #[]).data.toList) = false,
   IntKind.i64.wrap ((↑(List.map D.str ls).length : Int) - 2) = (↑(List.map D.str ls).length : Int) - 2,
   (↑(List.map D.str ls).length : Int) - 2 = (↑((↑(List.map D.str ls).length : Int) - 2).toNat : Int) ∧ (List.map D.str ls)[((↑(List.map D.str ls).length : Int) - 2).toNat]? = some (D.str (ls.getD ((↑(List.map D.str ls).length : Int) - 2).toNat default)),
   (!ls.getD ((↑(List.map D.str ls).length : Int) - 2).toNat default == (ByteArray.mk #[46]).data.toList) = true]) := by kernel_rfl
theorem q4  : callX Tryz.prog wr false O 25 [.d c.d, .d (.str s)] [] [It.icall [] (V.d (D.sl (List.map D.str ls))) [], It.br false, It.br false, It.is ((↑(List.map D.str ls).length : Int) - 1), It.el ((↑(List.map D.str ls).length : Int) - 1).toNat (D.str (ls.getD ((↑(List.map D.str ls).length : Int) - 1).toNat default)), It.br false, It.is ((↑(List.map D.str ls).length : Int) - 2), It.el ((↑(List.map D.str ls).length : Int) - 2).toNat (D.str (ls.getD ((↑(List.map D.str ls).length : Int) - 2).toNat default)), It.br false, It.el 0 (D.str (ls.getD 0 default)), It.br true] = some (V.tup [V.agg [V.emp true, V.emp true], V.d (D.int IntKind.i64 0), V.d (D.bool false)], [],
  [ICall Tryz.prog 56 [V.d (D.str s), V.d (D.int IntKind.u8 10)] [] (V.d (D.sl (List.map D.str ls))) [],
   decide ((↑(List.map D.str ls).length : Int) < 6) = false,
   decide ((↑(List.map D.str ls).length : Int) > 105) = false,
   IntKind.i64.wrap ((↑(List.map D.str ls).length : Int) - 1) = (↑(List.map D.str ls).length : Int) - 1,
   (↑(List.map D.str ls).length : Int) - 1 = (↑((↑(List.map D.str ls).length : Int) - 1).toNat : Int) ∧ (List.map D.str ls)[((↑(List.map D.str ls).length : Int) - 1).toNat]? = some (D.str (ls.getD ((↑(List.map D.str ls).length : Int) - 1).toNat default)),
   (!ls.getD ((↑(List.map D.str ls).length : Int) - 1).toNat default == (ByteArray.mk #[]).data.toList) = false,
   IntKind.i64.wrap ((↑(List.map D.str ls).length : Int) - 2) = (↑(List.map D.str ls).length : Int) - 2,
   (↑(List.map D.str ls).length : Int) - 2 = (↑((↑(List.map D.str ls).length : Int) - 2).toNat : Int) ∧ (List.map D.str ls)[((↑(List.map D.str ls).length : Int) - 2).toNat]? = some (D.str (ls.getD ((↑(List.map D.str ls).length : Int) - 2).toNat default)),
   (!ls.getD ((↑(List.map D.str ls).length : Int) - 2).toNat default == (ByteArray.mk #[46]).data.toList) = false,
   0 = (↑0 : Int) ∧ (List.map D.str ls)[0]? = some (D.str (ls.getD 0 default)),
   (!ls.getD 0 default == (ByteArray.mk #[49]).data.toList) = true]) := by kernel_rfl
theorem q5  : callX Tryz.prog wr false O 25 [.d c.d, .d (.str s)] [] [It.icall [] (V.d (D.sl (List.map D.str ls))) [], It.br false, It.br false, It.is ((↑(List.map D.str ls).length : Int) - 1), It.el ((↑(List.map D.str ls).length : Int) - 1).toNat (D.str (ls.getD ((↑(List.map D.str ls).length : Int) - 1).toNat default)), It.br false, It.is ((↑(List.map D.str ls).length : Int) - 2), It.el ((↑(List.map D.str ls).length : Int) - 2).toNat (D.str (ls.getD ((↑(List.map D.str ls).length : Int) - 2).toNat default)), It.br false, It.el 0 (D.str (ls.getD 0 default)), It.br false, It.el 1 (D.str (ls.getD 1 default)), It.br true] = some (V.tup [V.agg [V.emp true, V.emp true], V.d (D.int IntKind.i64 0), V.d (D.bool false)], [],
  [ICall Tryz.prog 56 [V.d (D.str s), V.d (D.int IntKind.u8 10)] [] (V.d (D.sl (List.map D.str ls))) [],
   decide ((↑(List.map D.str ls).length : Int) < 6) = false,
   decide ((↑(List.map D.str ls).length : Int) > 105) = false,
   IntKind.i64.wrap ((↑(List.map D.str ls).length : Int) - 1) = (↑(List.map D.str ls).length : Int) - 1,
   (↑(List.map D.str ls).length : Int) - 1 = (↑((↑(List.map D.str ls).length : Int) - 1).toNat : Int) ∧ (List.map D.str ls)[((↑(List.map D.str ls).length : Int) - 1).toNat]? = some (D.str (ls.getD ((↑(List.map D.str ls).length : Int) - 1).toNat default)),
   (!ls.getD ((↑(List.map D.str ls).length : Int) - 1).toNat default == (ByteArray.mk #[]).data.toList) = false,
   IntKind.i64.wrap ((↑(List.map D.str ls).length : Int) - 2) = (↑(List.map D.str ls).length : Int) - 2,
   (↑(List.map D.str ls).length : Int) - 2 = (↑((↑(List.map D.str ls).length : Int) - 2).toNat : Int) ∧ (List.map D.str ls)[((↑(List.map D.str ls).length : Int) - 2).toNat]? = some (D.str (ls.getD ((↑(List.map D.str ls).length : Int) - 2).toNat default)),
   (!ls.getD ((↑(List.map D.str ls).length : Int) - 2).toNat default == (ByteArray.mk #[46]).data.toList) = false,
   0 = (↑0 : Int) ∧ (List.map D.str ls)[0]? = some (D.str (ls.getD 0 default)),
   (!ls.getD 0 default == (ByteArray.mk #[49]).data.toList) = false,
   1 = (↑1 : Int) ∧ (List.map D.str ls)[1]? = some (D.str (ls.getD 1 default)),
   decide ((↑(ls.getD 1 default).length : Int) < 2) = true]) := by kernel_rfl
theorem q6  : callX Tryz.prog wr false O 25 [.d c.d, .d (.str s)] [] [It.icall [] (V.d (D.sl (List.map D.str ls))) [], It.br false, It.br false, It.is ((↑(List.map D.str ls).length : Int) - 1), It.el ((↑(List.map D.str ls).length : Int) - 1).toNat (D.str (ls.getD ((↑(List.map D.str ls).length : Int) - 1).toNat default)), It.br false, It.is ((↑(List.map D.str ls).length : Int) - 2), It.el ((↑(List.map D.str ls).length : Int) - 2).toNat (D.str (ls.getD ((↑(List.map D.str ls).length : Int) - 2).toNat default)), It.br false, It.el 0 (D.str (ls.getD 0 default)), It.br false, It.el 1 (D.str (ls.getD 1 default)), It.br false, It.el 1 (D.str (ls.getD 1 default)), It.by 0 q, It.br true] = some (V.tup [V.agg [V.emp true, V.emp true], V.d (D.int IntKind.i64 0), V.d (D.bool false)], [],
  [ICall Tryz.prog 56 [V.d (D.str s), V.d (D.int IntKind.u8 10)] [] (V.d (D.sl (List.map D.str ls))) [],
   decide ((↑(List.map D.str ls).length : Int) < 6) = false,
   decide ((↑(List.map D.str ls).length : Int) > 105) = false,
   IntKind.i64.wrap ((↑(List.map D.str ls).length : Int) - 1) = (↑(List.map D.str ls).length : Int) - 1,
   (↑(List.map D.str ls).length : Int) - 1 = (↑((↑(List.map D.str ls).length : Int) - 1).toNat : Int) ∧ (List.map D.str ls)[((↑(List.map D.str ls).length : Int) - 1).toNat]? = some (D.str (ls.getD ((↑(List.map D.str ls).length : Int) - 1).toNat default)),
   (!ls.getD ((↑(List.map D.str ls).length : Int) - 1).toNat default == (ByteArray.mk #[]).data.toList) = false,
   IntKind.i64.wrap ((↑(List.map D.str ls).length : Int) - 2) = (↑(List.map D.str ls).length : Int) - 2,
   (↑(List.map D.str ls).length : Int) - 2 = (↑((↑(List.map D.str ls).length : Int) - 2).toNat : Int) ∧ (List.map D.str ls)[((↑(List.map D.str ls).length : Int) - 2).toNat]? = some (D.str (ls.getD ((↑(List.map D.str ls).length : Int) - 2).toNat default)),
   (!ls.getD ((↑(List.map D.str ls).length : Int) - 2).toNat default == (ByteArray.mk #[46]).data.toList) = false,
   0 = (↑0 : Int) ∧ (List.map D.str ls)[0]? = some (D.str (ls.getD 0 default)),
   (!ls.getD 0 default == (ByteArray.mk #[49]).data.toList) = false,
   1 = (↑1 : Int) ∧ (List.map D.str ls)[1]? = some (D.str (ls.getD 1 default)),
   decide ((↑(ls.getD 1 default).length : Int) < 2) = false,
   1 = (↑1 : Int) ∧ (List.map D.str ls)[1]? = some (D.str (ls.getD 1 default)),
   0 = (↑0 : Int) ∧ (ls.getD 1 default)[0]? = some q,
   ((↑q.toNat : Int) != 98) = true]) := by kernel_rfl
theorem q7  : callX Tryz.prog wr false O 25 [.d c.d, .d (.str s)] [] [It.icall [] (V.d (D.sl (List.map D.str ls))) [], It.br false, It.br false, It.is ((↑(List.map D.str ls).length : Int) - 1), It.el ((↑(List.map D.str ls).length : Int) - 1).toNat (D.str (ls.getD ((↑(List.map D.str ls).length : Int) - 1).toNat default)), It.br false, It.is ((↑(List.map D.str ls).length : Int) - 2), It.el ((↑(List.map D.str ls).length : Int) - 2).toNat (D.str (ls.getD ((↑(List.map D.str ls).length : Int) - 2).toNat default)), It.br false, It.el 0 (D.str (ls.getD 0 default)), It.br false, It.el 1 (D.str (ls.getD 1 default)), It.br false, It.el 1 (D.str (ls.getD 1 default)), It.by 0 q, It.br false, It.el 1 (D.str (ls.getD 1 default)), It.cut 1 z.length, It.icall [] (V.d (I n)) [], It.el 2 (D.str (ls.getD 2 default)), It.icall [] (V.tup [V.d (BL f), V.d (D.bool b)]) [], It.lp [2, 4, 7, 8, 9, 11, 12, 13] (Ex.exit 0) (Ep c ls m n false f acc)] = some (V.tup [V.d (D.agg [D.sl (List.map D.bool f), D.sl acc]), V.d (D.int IntKind.i64 n), V.d (D.bool false)], [],
  [ICall Tryz.prog 56 [V.d (D.str s), V.d (D.int IntKind.u8 10)] [] (V.d (D.sl (List.map D.str ls))) [],
   decide ((↑(List.map D.str ls).length : Int) < 6) = false,
   decide ((↑(List.map D.str ls).length : Int) > 105) = false,
   IntKind.i64.wrap ((↑(List.map D.str ls).length : Int) - 1) = (↑(List.map D.str ls).length : Int) - 1,
   (↑(List.map D.str ls).length : Int) - 1 = (↑((↑(List.map D.str ls).length : Int) - 1).toNat : Int) ∧ (List.map D.str ls)[((↑(List.map D.str ls).length : Int) - 1).toNat]? = some (D.str (ls.getD ((↑(List.map D.str ls).length : Int) - 1).toNat default)),
   (!ls.getD ((↑(List.map D.str ls).length : Int) - 1).toNat default == (ByteArray.mk #[]).data.toList) = false,
   IntKind.i64.wrap ((↑(List.map D.str ls).length : Int) - 2) = (↑(List.map D.str ls).length : Int) - 2,
   (↑(List.map D.str ls).length : Int) - 2 = (↑((↑(List.map D.str ls).length : Int) - 2).toNat : Int) ∧ (List.map D.str ls)[((↑(List.map D.str ls).length : Int) - 2).toNat]? = some (D.str (ls.getD ((↑(List.map D.str ls).length : Int) - 2).toNat default)),
   (!ls.getD ((↑(List.map D.str ls).length : Int) - 2).toNat default == (ByteArray.mk #[46]).data.toList) = false,
   0 = (↑0 : Int) ∧ (List.map D.str ls)[0]? = some (D.str (ls.getD 0 default)),
   (!ls.getD 0 default == (ByteArray.mk #[49]).data.toList) = false,
   1 = (↑1 : Int) ∧ (List.map D.str ls)[1]? = some (D.str (ls.getD 1 default)),
   decide ((↑(ls.getD 1 default).length : Int) < 2) = false,
   1 = (↑1 : Int) ∧ (List.map D.str ls)[1]? = some (D.str (ls.getD 1 default)),
   0 = (↑0 : Int) ∧ (ls.getD 1 default)[0]? = some q,
   ((↑q.toNat : Int) != 98) = false,
   1 = (↑1 : Int) ∧ (List.map D.str ls)[1]? = some (D.str (ls.getD 1 default)),
   1 = (↑1 : Int) ∧ (↑(ls.getD 1 default).length : Int) = (↑z.length : Int) ∧ 1 ≤ z.length ∧ z.length ≤ (ls.getD 1 default).length,
   ICall Tryz.prog 57 [V.d (D.str (List.take (z.length - 1) (List.drop 1 (ls.getD 1 default))))] [] (V.d (I n)) [],
   2 = (↑2 : Int) ∧ (List.map D.str ls)[2]? = some (D.str (ls.getD 2 default)),
   ICall Tryz.prog 58 [V.d (D.str (ls.getD 2 default)), V.d (D.int IntKind.i64 (↑(List.map Lt.d c.lats).length : Int))] [] (V.tup [V.d (BL f), V.d (D.bool b)]) [],
   GoesL Tryz.prog (loopOf Tryz.prog 25 0) (⟨mk 113 [(2, V.ptr 0 0), (4, V.ptr 1 0), (7, V.d (D.sl (List.map D.str ls))), (8, V.d (D.int IntKind.i64 (↑(List.map D.str ls).length : Int))), (9, V.d (D.int IntKind.i64 n)), (11, V.d (D.bool b)), (12, V.ptr 2 0), (13, V.d (D.int IntKind.i64 3))] [], [B.bx none [V.d (D.int IntKind.i64 c.ins), V.d (D.sl (List.map Lt.d c.lats)), V.d (D.sl (List.map An.d c.ands)), V.d (D.sl (List.map I c.bads)), V.d (D.sl (List.map I c.cons))], B.bx none [V.emp true, V.emp true], B.bx none [V.d (D.sl (List.map D.bool f)), V.emp true]]⟩) (Ex.exit 0) (Ep c ls m n false f acc)]) := by kernel_rfl
theorem q8  : callX Tryz.prog wr false O 25 [.d c.d, .d (.str s)] [] [It.icall [] (V.d (D.sl (List.map D.str ls))) [], It.br false, It.br false, It.is ((↑(List.map D.str ls).length : Int) - 1), It.el ((↑(List.map D.str ls).length : Int) - 1).toNat (D.str (ls.getD ((↑(List.map D.str ls).length : Int) - 1).toNat default)), It.br false, It.is ((↑(List.map D.str ls).length : Int) - 2), It.el ((↑(List.map D.str ls).length : Int) - 2).toNat (D.str (ls.getD ((↑(List.map D.str ls).length : Int) - 2).toNat default)), It.br false, It.el 0 (D.str (ls.getD 0 default)), It.br false, It.el 1 (D.str (ls.getD 1 default)), It.br false, It.el 1 (D.str (ls.getD 1 default)), It.by 0 q, It.br false, It.el 1 (D.str (ls.getD 1 default)), It.cut 1 z.length, It.icall [] (V.d (I n)) [], It.el 2 (D.str (ls.getD 2 default)), It.icall [] (V.tup [V.d (BL f), V.d (D.bool b)]) [], It.lp [2, 4, 7, 8, 9, 11, 12, 13] (Ex.exit 0) (Ep c ls m n true f acc), It.br true] = some (V.tup [V.d (D.agg [D.sl (List.map D.bool f), D.sl acc]), V.d (D.int IntKind.i64 n), V.d (D.bool true)], [],
  [ICall Tryz.prog 56 [V.d (D.str s), V.d (D.int IntKind.u8 10)] [] (V.d (D.sl (List.map D.str ls))) [],
   decide ((↑(List.map D.str ls).length : Int) < 6) = false,
   decide ((↑(List.map D.str ls).length : Int) > 105) = false,
   IntKind.i64.wrap ((↑(List.map D.str ls).length : Int) - 1) = (↑(List.map D.str ls).length : Int) - 1,
   (↑(List.map D.str ls).length : Int) - 1 = (↑((↑(List.map D.str ls).length : Int) - 1).toNat : Int) ∧ (List.map D.str ls)[((↑(List.map D.str ls).length : Int) - 1).toNat]? = some (D.str (ls.getD ((↑(List.map D.str ls).length : Int) - 1).toNat default)),
   (!ls.getD ((↑(List.map D.str ls).length : Int) - 1).toNat default == (ByteArray.mk #[]).data.toList) = false,
   IntKind.i64.wrap ((↑(List.map D.str ls).length : Int) - 2) = (↑(List.map D.str ls).length : Int) - 2,
   (↑(List.map D.str ls).length : Int) - 2 = (↑((↑(List.map D.str ls).length : Int) - 2).toNat : Int) ∧ (List.map D.str ls)[((↑(List.map D.str ls).length : Int) - 2).toNat]? = some (D.str (ls.getD ((↑(List.map D.str ls).length : Int) - 2).toNat default)),
   (!ls.getD ((↑(List.map D.str ls).length : Int) - 2).toNat default == (ByteArray.mk #[46]).data.toList) = false,
   0 = (↑0 : Int) ∧ (List.map D.str ls)[0]? = some (D.str (ls.getD 0 default)),
   (!ls.getD 0 default == (ByteArray.mk #[49]).data.toList) = false,
   1 = (↑1 : Int) ∧ (List.map D.str ls)[1]? = some (D.str (ls.getD 1 default)),
   decide ((↑(ls.getD 1 default).length : Int) < 2) = false,
   1 = (↑1 : Int) ∧ (List.map D.str ls)[1]? = some (D.str (ls.getD 1 default)),
   0 = (↑0 : Int) ∧ (ls.getD 1 default)[0]? = some q,
   ((↑q.toNat : Int) != 98) = false,
   1 = (↑1 : Int) ∧ (List.map D.str ls)[1]? = some (D.str (ls.getD 1 default)),
   1 = (↑1 : Int) ∧ (↑(ls.getD 1 default).length : Int) = (↑z.length : Int) ∧ 1 ≤ z.length ∧ z.length ≤ (ls.getD 1 default).length,
   ICall Tryz.prog 57 [V.d (D.str (List.take (z.length - 1) (List.drop 1 (ls.getD 1 default))))] [] (V.d (I n)) [],
   2 = (↑2 : Int) ∧ (List.map D.str ls)[2]? = some (D.str (ls.getD 2 default)),
   ICall Tryz.prog 58 [V.d (D.str (ls.getD 2 default)), V.d (D.int IntKind.i64 (↑(List.map Lt.d c.lats).length : Int))] [] (V.tup [V.d (BL f), V.d (D.bool b)]) [],
   GoesL Tryz.prog (loopOf Tryz.prog 25 0) (⟨mk 113 [(2, V.ptr 0 0), (4, V.ptr 1 0), (7, V.d (D.sl (List.map D.str ls))), (8, V.d (D.int IntKind.i64 (↑(List.map D.str ls).length : Int))), (9, V.d (D.int IntKind.i64 n)), (11, V.d (D.bool b)), (12, V.ptr 2 0), (13, V.d (D.int IntKind.i64 3))] [], [B.bx none [V.d (D.int IntKind.i64 c.ins), V.d (D.sl (List.map Lt.d c.lats)), V.d (D.sl (List.map An.d c.ands)), V.d (D.sl (List.map I c.bads)), V.d (D.sl (List.map I c.cons))], B.bx none [V.emp true, V.emp true], B.bx none [V.d (D.sl (List.map D.bool f)), V.emp true]]⟩) (Ex.exit 0) (Ep c ls m n true f acc),
   decide (n ≥ 0) = true]) := by kernel_rfl
theorem q9  : callX Tryz.prog wr false O 25 [.d c.d, .d (.str s)] [] [It.icall [] (V.d (D.sl (List.map D.str ls))) [], It.br false, It.br false, It.is ((↑(List.map D.str ls).length : Int) - 1), It.el ((↑(List.map D.str ls).length : Int) - 1).toNat (D.str (ls.getD ((↑(List.map D.str ls).length : Int) - 1).toNat default)), It.br false, It.is ((↑(List.map D.str ls).length : Int) - 2), It.el ((↑(List.map D.str ls).length : Int) - 2).toNat (D.str (ls.getD ((↑(List.map D.str ls).length : Int) - 2).toNat default)), It.br false, It.el 0 (D.str (ls.getD 0 default)), It.br false, It.el 1 (D.str (ls.getD 1 default)), It.br false, It.el 1 (D.str (ls.getD 1 default)), It.by 0 q, It.br false, It.el 1 (D.str (ls.getD 1 default)), It.cut 1 z.length, It.icall [] (V.d (I n)) [], It.el 2 (D.str (ls.getD 2 default)), It.icall [] (V.tup [V.d (BL f), V.d (D.bool b)]) [], It.lp [2, 4, 7, 8, 9, 11, 12, 13] (Ex.exit 0) (Ep c ls m n true f acc), It.br false] = some (V.tup [V.d (D.agg [D.sl (List.map D.bool f), D.sl acc]), V.d (D.int IntKind.i64 n), V.d (D.bool false)], [],
  [ICall Tryz.prog 56 [V.d (D.str s), V.d (D.int IntKind.u8 10)] [] (V.d (D.sl (List.map D.str ls))) [],
   decide ((↑(List.map D.str ls).length : Int) < 6) = false,
   decide ((↑(List.map D.str ls).length : Int) > 105) = false,
   IntKind.i64.wrap ((↑(List.map D.str ls).length : Int) - 1) = (↑(List.map D.str ls).length : Int) - 1,
   (↑(List.map D.str ls).length : Int) - 1 = (↑((↑(List.map D.str ls).length : Int) - 1).toNat : Int) ∧ (List.map D.str ls)[((↑(List.map D.str ls).length : Int) - 1).toNat]? = some (D.str (ls.getD ((↑(List.map D.str ls).length : Int) - 1).toNat default)),
   (!ls.getD ((↑(List.map D.str ls).length : Int) - 1).toNat default == (ByteArray.mk #[]).data.toList) = false,
   IntKind.i64.wrap ((↑(List.map D.str ls).length : Int) - 2) = (↑(List.map D.str ls).length : Int) - 2,
   (↑(List.map D.str ls).length : Int) - 2 = (↑((↑(List.map D.str ls).length : Int) - 2).toNat : Int) ∧ (List.map D.str ls)[((↑(List.map D.str ls).length : Int) - 2).toNat]? = some (D.str (ls.getD ((↑(List.map D.str ls).length : Int) - 2).toNat default)),
   (!ls.getD ((↑(List.map D.str ls).length : Int) - 2).toNat default == (ByteArray.mk #[46]).data.toList) = false,
   0 = (↑0 : Int) ∧ (List.map D.str ls)[0]? = some (D.str (ls.getD 0 default)),
   (!ls.getD 0 default == (ByteArray.mk #[49]).data.toList) = false,
   1 = (↑1 : Int) ∧ (List.map D.str ls)[1]? = some (D.str (ls.getD 1 default)),
   decide ((↑(ls.getD 1 default).length : Int) < 2) = false,
   1 = (↑1 : Int) ∧ (List.map D.str ls)[1]? = some (D.str (ls.getD 1 default)),
   0 = (↑0 : Int) ∧ (ls.getD 1 default)[0]? = some q,
   ((↑q.toNat : Int) != 98) = false,
   1 = (↑1 : Int) ∧ (List.map D.str ls)[1]? = some (D.str (ls.getD 1 default)),
   1 = (↑1 : Int) ∧ (↑(ls.getD 1 default).length : Int) = (↑z.length : Int) ∧ 1 ≤ z.length ∧ z.length ≤ (ls.getD 1 default).length,
   ICall Tryz.prog 57 [V.d (D.str (List.take (z.length - 1) (List.drop 1 (ls.getD 1 default))))] [] (V.d (I n)) [],
   2 = (↑2 : Int) ∧ (List.map D.str ls)[2]? = some (D.str (ls.getD 2 default)),
   ICall Tryz.prog 58 [V.d (D.str (ls.getD 2 default)), V.d (D.int IntKind.i64 (↑(List.map Lt.d c.lats).length : Int))] [] (V.tup [V.d (BL f), V.d (D.bool b)]) [],
   GoesL Tryz.prog (loopOf Tryz.prog 25 0) (⟨mk 113 [(2, V.ptr 0 0), (4, V.ptr 1 0), (7, V.d (D.sl (List.map D.str ls))), (8, V.d (D.int IntKind.i64 (↑(List.map D.str ls).length : Int))), (9, V.d (D.int IntKind.i64 n)), (11, V.d (D.bool b)), (12, V.ptr 2 0), (13, V.d (D.int IntKind.i64 3))] [], [B.bx none [V.d (D.int IntKind.i64 c.ins), V.d (D.sl (List.map Lt.d c.lats)), V.d (D.sl (List.map An.d c.ands)), V.d (D.sl (List.map I c.bads)), V.d (D.sl (List.map I c.cons))], B.bx none [V.emp true, V.emp true], B.bx none [V.d (D.sl (List.map D.bool f)), V.emp true]]⟩) (Ex.exit 0) (Ep c ls m n true f acc),
   decide (n ≥ 0) = false]) := by kernel_rfl
theorem e0  : callX Tryz.prog wr false O 8 [.d c.d, .d (.str s)] [] [It.icall [] (V.d (I e)) [], It.br true, It.icall [] (V.d (I e)) []] = some (V.tup [V.agg [V.emp true, V.emp true], V.d (D.int IntKind.i64 0), V.d (D.int IntKind.i64 e)], [],
  [ICall Tryz.prog 24 [V.d (D.agg [I c.ins, D.sl (List.map Lt.d c.lats), D.sl (List.map An.d c.ands), L c.bads, L c.cons])] [] (V.d (I e)) [],
   (e != 0) = true,
   ICall Tryz.prog 24 [V.d (D.agg [I c.ins, D.sl (List.map Lt.d c.lats), D.sl (List.map An.d c.ands), L c.bads, L c.cons])] [] (V.d (I e)) []]) := by kernel_rfl
theorem e1  : callX Tryz.prog wr false O 8 [.d c.d, .d (.str s)] [] [It.icall [] (V.d (I 0)) [], It.br false, It.icall [] (V.tup [V.d t.d, V.d (I n), V.d (D.bool false)]) [], It.br true] = some (V.tup [V.agg [V.emp true, V.emp true], V.d (D.int IntKind.i64 0), V.d (D.int IntKind.i64 12)], [],
  [ICall Tryz.prog 24 [V.d (D.agg [I c.ins, D.sl (List.map Lt.d c.lats), D.sl (List.map An.d c.ands), L c.bads, L c.cons])] [] (V.d (I 0)) [],
   (0 != 0) = false,
   ICall Tryz.prog 25 [V.d (D.agg [I c.ins, D.sl (List.map Lt.d c.lats), D.sl (List.map An.d c.ands), L c.bads, L c.cons]), V.d (D.str s)] [] (V.tup [V.d t.d, V.d (I n), V.d (D.bool false)]) [],
   (!false) = true]) := by kernel_rfl
theorem e2  : callX Tryz.prog wr false O 8 [.d c.d, .d (.str s)] [] [It.icall [] (V.d (I 0)) [], It.br false, It.icall [] (V.tup [V.d t.d, V.d (I n), V.d (D.bool true)]) [], It.br false, It.icall [] (V.d (I e)) [], It.br true, It.icall [] (V.d (I e)) []] = some (V.tup [V.agg [V.emp true, V.emp true], V.d (D.int IntKind.i64 0), V.d (D.int IntKind.i64 e)], [],
  [ICall Tryz.prog 24 [V.d (D.agg [I c.ins, D.sl (List.map Lt.d c.lats), D.sl (List.map An.d c.ands), L c.bads, L c.cons])] [] (V.d (I 0)) [],
   (0 != 0) = false,
   ICall Tryz.prog 25 [V.d (D.agg [I c.ins, D.sl (List.map Lt.d c.lats), D.sl (List.map An.d c.ands), L c.bads, L c.cons]), V.d (D.str s)] [] (V.tup [V.d t.d, V.d (I n), V.d (D.bool true)]) [],
   (!true) = false,
   ICall Tryz.prog 26 [V.d (D.agg [I c.ins, D.sl (List.map Lt.d c.lats), D.sl (List.map An.d c.ands), L c.bads, L c.cons]), V.d (D.agg [BL t.first, D.sl (List.map BL t.ins)]), V.d (I n)] [] (V.d (I e)) [],
   (e != 0) = true,
   ICall Tryz.prog 26 [V.d (D.agg [I c.ins, D.sl (List.map Lt.d c.lats), D.sl (List.map An.d c.ands), L c.bads, L c.cons]), V.d (D.agg [BL t.first, D.sl (List.map BL t.ins)]), V.d (I n)] [] (V.d (I e)) []]) := by kernel_rfl
theorem e3  : callX Tryz.prog wr false O 8 [.d c.d, .d (.str s)] [] [It.icall [] (V.d (I 0)) [], It.br false, It.icall [] (V.tup [V.d t.d, V.d (I n), V.d (D.bool true)]) [], It.br false, It.icall [] (V.d (I e)) [], It.br false] = some (V.tup [V.d (D.agg [D.sl (List.map D.bool t.first), D.sl (List.map BL t.ins)]), V.d (D.int IntKind.i64 n), V.d (D.int IntKind.i64 0)], [],
  [ICall Tryz.prog 24 [V.d (D.agg [I c.ins, D.sl (List.map Lt.d c.lats), D.sl (List.map An.d c.ands), L c.bads, L c.cons])] [] (V.d (I 0)) [],
   (0 != 0) = false,
   ICall Tryz.prog 25 [V.d (D.agg [I c.ins, D.sl (List.map Lt.d c.lats), D.sl (List.map An.d c.ands), L c.bads, L c.cons]), V.d (D.str s)] [] (V.tup [V.d t.d, V.d (I n), V.d (D.bool true)]) [],
   (!true) = false,
   ICall Tryz.prog 26 [V.d (D.agg [I c.ins, D.sl (List.map Lt.d c.lats), D.sl (List.map An.d c.ands), L c.bads, L c.cons]), V.d (D.agg [BL t.first, D.sl (List.map BL t.ins)]), V.d (I n)] [] (V.d (I e)) [],
   (e != 0) = false]) := by kernel_rfl
end
end Go.Proofs.YtccejdncpknbaaaGreatDoor.Sy.Rp
/- What the reference reads out of a text is what is read: the plain law. -/
namespace Go.Proofs.YtccejdncpknbaaaGreatDoor.Sy.Rp
open Go Go.Proofs.YtccejdncpknbaaaGreatDoor.Ab Go.Proofs.YtccejdncpknbaaaGreatDoor.Sy Go.Proofs.YtccejdncpknbaaaGreatDoor.Sy.Tx Go.Proofs.YtccejdncpknbaaaGreatDoor.Sy.Vl Go.Proofs.YtccejdncpknbaaaGreatDoor.Sy.Tc Go.Proofs.YtccejdncpknbaaaGreatDoor.Sy.Wi Go.Proofs.YtccejdncpknbaaaGreatDoor.Sy.Rd
open Go.Proofs.YtccejdncpknbaaaGreatDoor.Sy.Sp (splitU splitU_ne splitU_len)
set_option linter.unusedVariables false
set_option linter.unusedSimpArgs false
/-- Parts put together again. -/
def un (u : UInt8) : List (List UInt8) → List UInt8
  | [] => []
  | [x] => x
  | x :: y :: r => x ++ u :: un u (y :: r)
theorem un_cons (u b : UInt8) (x : List UInt8) : ∀ xs, un u ((b :: x) :: xs) = b :: un u (x :: xs)
  | [] => rfl
  | y :: r => rfl
theorem un_split (u : UInt8) : ∀ l, un u (splitU u l) = l
  | [] => rfl
  | b :: r => by
    have ih := un_split u r
    rw [splitU]
    by_cases h : b = u
    · rw [if_pos h]
      cases hs : splitU u r with
      | nil => exact absurd hs (splitU_ne u r)
      | cons x xs =>
        rw [hs] at ih
        show u :: un u (x :: xs) = b :: r
        rw [ih, h]
    · rw [if_neg h]
      cases hs : splitU u r with
      | nil => exact absurd hs (splitU_ne u r)
      | cons x xs =>
        rw [hs] at ih
        show un u ((b :: x) :: xs) = b :: r
        rw [un_cons, ih]
theorem splitU_inj {u : UInt8} {a b : List UInt8} (h : splitU u a = splitU u b) : a = b := by
  rw [← un_split u a, h, un_split]
/-- The last part grows by a byte. -/
theorem splitU_snoc (u : UInt8) : ∀ l : List UInt8, ∃ ys z, splitU u l = ys ++ [z] ∧ splitU u (l ++ [u]) = ys ++ [z, []] ∧ ∀ b, b ≠ u → splitU u (l ++ [b]) = ys ++ [z ++ [b]]
  | [] => ⟨[], [], rfl, by simp [splitU], fun b hb => by simp [splitU, hb]⟩
  | a :: r => by
    obtain ⟨ys, z, h1, h2, h3⟩ := splitU_snoc u r
    by_cases h : a = u
    · refine ⟨[] :: ys, z, ?_, ?_, fun b hb => ?_⟩
      · rw [splitU, if_pos h, h1]; rfl
      · rw [List.cons_append, splitU, if_pos h, h2]; rfl
      · rw [List.cons_append, splitU, if_pos h, h3 b hb]; rfl
    · cases ys with
      | nil =>
        refine ⟨[], a :: z, ?_, ?_, fun b hb => ?_⟩
        · rw [splitU, if_neg h, h1]; rfl
        · rw [List.cons_append, splitU, if_neg h, h2]; rfl
        · rw [List.cons_append, splitU, if_neg h, h3 b hb]; rfl
      | cons y ys =>
        refine ⟨(a :: y) :: ys, z, ?_, ?_, fun b hb => ?_⟩
        · rw [splitU, if_neg h, h1]; rfl
        · rw [List.cons_append, splitU, if_neg h, h2]; rfl
        · rw [List.cons_append, splitU, if_neg h, h3 b hb]; rfl
def okV (n : Int) (s : List UInt8) : Bool := decide ((s.length : Int) = n) && s.all (fun q => q == 48 || q == 49)
def valS (n : Int) (s : List UInt8) : List Bool := if okV n s then bo s else []
def numS (s : List UInt8) : Int := if s.length = 0 then -1 else if s.length > 9 then -1 else if s.getD 0 default = 48 ∧ s.length > 1 then -1 else match Lib.decFrom 0 s with
  | some n => n
  | none => -1
def pre (ls : List (List UInt8)) : Bool := decide (ls.length < 6) || (decide (ls.length > 105) || (decide (ls.getD (ls.length - 1) default ≠ []) || (decide (ls.getD (ls.length - 2) default ≠ [46]) || (decide (ls.getD 0 default ≠ [49]) || (decide ((ls.getD 1 default).length < 2) || decide ((ls.getD 1 default).getD 0 default ≠ 98))))))
def prI (ls : List (List UInt8)) : List (List UInt8) := (ls.drop 3).take (ls.length - 2 - 3)
def prN (ls : List (List UInt8)) : Int := numS ((ls.getD 1 default).drop 1)
def prV (c : Ci) (ls : List (List UInt8)) : Bool := okV c.lats.length (ls.getD 2 default) && (prI ls).all (okV c.ins)
def prOk (c : Ci) (ls : List (List UInt8)) : Bool := !pre ls && (prV c ls && decide (0 ≤ prN ls))
theorem shape (ls : List (List UInt8)) (h : 6 ≤ ls.length) : ls = ls.getD 0 default :: ls.getD 1 default :: ls.getD 2 default :: (prI ls ++ [ls.getD (ls.length - 2) default, ls.getD (ls.length - 1) default]) := by
  have e0 := drop_getD ls 0 (by omega)
  have e1 := drop_getD ls 1 (by omega)
  have e2 := drop_getD ls 2 (by omega)
  have e3 := drop_getD ls (ls.length - 2) (by omega)
  have e4 := drop_getD ls (ls.length - 1) (by omega)
  rw [show ls.length - 2 + 1 = ls.length - 1 by omega, e4, show ls.length - 1 + 1 = ls.length by omega, List.drop_length] at e3
  have e5 : ls.drop 3 = prI ls ++ ls.drop (ls.length - 2) := by
    unfold prI
    have := List.take_append_drop (ls.length - 2 - 3) (ls.drop 3)
    rw [List.drop_drop, show 3 + (ls.length - 2 - 3) = ls.length - 2 by omega] at this
    exact this.symm
  rw [e3] at e5
  rw [← e5, ← e2, ← e1, ← e0, List.drop_zero]
theorem dec_canon : ∀ (k : Nat) (w : List UInt8) (n : Nat), w.length = k → w ≠ [] → (w.getD 0 default = 48 → w.length = 1) → Lib.decFrom 0 w = some n → Lib.decDigits n = w := by
  intro k
  induction k with
  | zero => intro w n hk hw; exact absurd (List.eq_nil_of_length_eq_zero hk) hw
  | succ k ih =>
    intro w n hk hw hz hd
    obtain ⟨v, b, rfl⟩ : ∃ v b, w = v ++ [b] := ⟨w.dropLast, w.getLast hw, (List.dropLast_concat_getLast hw).symm⟩
    have inv : ∀ (l : List UInt8) (a n : Nat), Lib.decFrom a (l ++ [b]) = some n → ∃ m d, Lib.decFrom a l = some m ∧ Lib.digitVal b = some d ∧ n = m * 10 + d := by
      intro l
      induction l with
      | nil =>
        intro a n h
        rw [List.nil_append, Lib.decFrom] at h
        cases hb : Lib.digitVal b with
        | none => rw [hb] at h; cases h
        | some d => rw [hb] at h; simp only [Lib.decFrom, Option.some.injEq] at h; exact ⟨a, d, rfl, rfl, h.symm⟩
      | cons c l ihl =>
        intro a n h
        rw [List.cons_append, Lib.decFrom] at h
        cases hc : Lib.digitVal c with
        | none => rw [hc] at h; cases h
        | some e =>
          rw [hc] at h
          obtain ⟨m, d, q1, q2, q3⟩ := ihl _ _ h
          exact ⟨m, d, by rw [Lib.decFrom, hc]; exact q1, q2, q3⟩
    obtain ⟨m, d, q1, q2, q3⟩ := inv v 0 n hd
    have hb : d < 10 ∧ UInt8.ofNat (48 + d) = b := by
      unfold Lib.digitVal at q2
      split at q2
      · next hh =>
        cases q2
        refine ⟨by omega, ?_⟩
        apply UInt8.toNat_inj.1
        rw [UInt8.toNat_ofNat']; omega
      · cases q2
    by_cases hv : v = []
    · subst hv
      simp only [Lib.decFrom, Option.some.injEq] at q1
      rw [Lib.decDigits, dif_pos (by omega), show n = d by omega, hb.2]; rfl
    · have hl : 1 ≤ v.length := by cases v with
        | nil => exact absurd rfl hv
        | cons => simp
      have hg : (v ++ [b]).getD 0 default = v.getD 0 default := by
        cases v with
        | nil => exact absurd rfl hv
        | cons => rfl
      have hlen : (v ++ [b]).length = v.length + 1 := by simp
      have hnz : v.getD 0 default ≠ 48 := fun e => by
        have := hz (by rw [hg]; exact e)
        omega
      have hm := ih v m (by omega) hv (fun e => absurd e hnz) q1
      have hm0 : m ≠ 0 := fun e => by
        rw [e, Lib.decDigits, dif_pos (by omega)] at hm
        rw [← hm] at hnz
        exact hnz rfl
      rw [Lib.decDigits, dif_neg (by omega), show n / 10 = m by omega, hm, show n % 10 = d by omega, hb.2]
theorem dec_head (m : Nat) : ∀ u, u ≤ m → (Lib.decDigits u).getD 0 default = 48 → u = 0 := by
  induction m with
  | zero => intro u hu _; omega
  | succ m ih =>
    intro u hu h
    rw [Lib.decDigits] at h
    by_cases c : u < 10
    · rw [dif_pos c] at h
      have := congrArg UInt8.toNat (show UInt8.ofNat (48 + u) = 48 from h)
      rw [UInt8.toNat_ofNat'] at this
      have h48 : (48 : UInt8).toNat = 48 := rfl
      omega
    · rw [dif_neg c] at h
      have hne := (dec_dig _ (u / 10) (Nat.le_refl _)).2
      have hg : (Lib.decDigits (u / 10) ++ [UInt8.ofNat (48 + u % 10)]).getD 0 default = (Lib.decDigits (u / 10)).getD 0 default := by
        cases hd : Lib.decDigits (u / 10) with
        | nil => exact absurd hd hne
        | cons => rfl
      rw [hg] at h
      have := ih (u / 10) (by omega) h
      omega
theorem num_itoa {n : Int} (h : 0 ≤ n) (hl : (Lib.itoa n).length ≤ 9) : numS (Lib.itoa n) = n := by
  rw [itoa_nn h] at hl ⊢
  have hne := (dec_dig _ n.toNat (Nat.le_refl _)).2
  have h1 : (Lib.decDigits n.toNat).length ≠ 0 := fun e => hne (List.eq_nil_of_length_eq_zero e)
  unfold numS
  rw [if_neg h1, if_neg (by omega), if_neg, decFrom_dec _ _ (Nat.le_refl _)]
  · show ((n.toNat : Nat) : Int) = n
    omega
  · intro ⟨e, hlen⟩
    have := dec_head _ _ (Nat.le_refl _) e
    rw [this, Lib.decDigits, dif_pos (by omega)] at hlen
    simp at hlen
theorem num_nn {w : List UInt8} (h : 0 ≤ numS w) : w.length ≤ 9 ∧ Lib.itoa (numS w) = w := by
  unfold numS at h ⊢
  by_cases c1 : w.length = 0
  · rw [if_pos c1] at h; exact absurd h (by decide)
  rw [if_neg c1] at h ⊢
  by_cases c2 : w.length > 9
  · rw [if_pos c2] at h; exact absurd h (by decide)
  rw [if_neg c2] at h ⊢
  by_cases c3 : w.getD 0 default = 48 ∧ w.length > 1
  · rw [if_pos c3] at h; exact absurd h (by decide)
  rw [if_neg c3] at h ⊢
  cases hd : Lib.decFrom 0 w with
  | none => rw [hd] at h; exact absurd h (by decide)
  | some n =>
    refine ⟨by omega, ?_⟩
    show Lib.itoa (n : Int) = w
    rw [itoa_nn (by omega), Int.toNat_natCast]
    exact dec_canon _ w n rfl (fun e => c1 (by rw [e]; rfl)) (fun e => by
      rcases Nat.lt_or_ge 1 w.length with hh | hh
      · exact absurd ⟨e, hh⟩ c3
      · omega) hd
theorem digs_bo {n : Int} {x : List UInt8} (h : okV n x = true) : digs (bo x) = x := by
  unfold okV at h
  rw [Bool.and_eq_true] at h
  have key : ∀ x : List UInt8, x.all (fun q => q == 48 || q == 49) = true → digs (bo x) = x := by
    intro x
    induction x with
    | nil => intro _; rfl
    | cons a r ih =>
      intro hh
      rw [List.all_cons, Bool.and_eq_true] at hh
      have e : digs (bo (a :: r)) = (if a == 49 then [49] else [48]) ++ digs (bo r) := by
        unfold bo digs
        rw [List.map_cons, List.flatMap_cons]
      rw [e, ih hh.2]
      cases h9 : (a == 49) with
      | true => rw [beq_iff_eq.1 h9]; rfl
      | false =>
        have := hh.1
        rw [h9, Bool.or_false] at this
        rw [beq_iff_eq.1 this]; rfl
  exact key x h.2
theorem okV_digs {n : Int} {v : List Bool} (h : (v.length : Int) = n) : okV n (digs v) = true := by
  unfold okV
  rw [digs_len, decide_eq_true h, Bool.true_and, List.all_eq_true]
  intro q hq
  unfold digs at hq
  obtain ⟨b, -, hb⟩ := List.mem_flatMap.1 hq
  cases b
  · rw [if_neg (by simp), List.mem_singleton] at hb; rw [hb]; rfl
  · rw [if_pos rfl, List.mem_singleton] at hb; rw [hb]; rfl
/-- What the reference takes is of the form that is read, and its number is the same. -/
theorem form_of {c : Ci} {s : List UInt8} (h : prOk c (lns s) = true) : form c s = true ∧ prN (lns s) = rdN s := by
  unfold prOk pre prV at h
  simp only [Bool.and_eq_true, Bool.not_eq_true', Bool.or_eq_false_iff, decide_eq_false_iff_not, decide_eq_true_eq, Decidable.not_not] at h
  obtain ⟨⟨p1, p2, p3, p4, p5, p6, p7⟩, ⟨v1, v2⟩, nn⟩ := h
  have hsh := shape (lns s) (by omega)
  obtain ⟨w, hw⟩ : ∃ w, (lns s).getD 1 default = 98 :: w := by
    cases hl : (lns s).getD 1 default with
    | nil => rw [hl] at p6; simp at p6
    | cons a r => rw [hl] at p7; exact ⟨r, by rw [show a = 98 from p7]⟩
  have hN : prN (lns s) = numS w := by unfold prN; rw [hw]; rfl
  rw [hN] at nn
  obtain ⟨wl, wi⟩ := num_nn nn
  have hA : rdA s = some (numS w) := by
    unfold rdA
    rw [hw]
    unfold Rd.trim
    rw [if_pos (by simp), List.drop_succ_cons, List.drop_zero]
    have := atoi_itoa nn
    rw [wi] at this
    exact this
  have hR : rdN s = numS w := by unfold rdN; rw [hA]; rfl
  have hI : rdL s = prI (lns s) := rfl
  have hT : txt (rdT s) (rdN s) = s := by
    apply splitU_inj (u := 10)
    rw [splitU_txt _ (by rw [hR]; exact nn), hR, wi]
    have e1 : digs (rdT s).first = (lns s).getD 2 default := digs_bo v1
    have e2 : (rdT s).ins.map digs = prI (lns s) := by
      show ((rdL s).map bo).map digs = _
      rw [hI, List.map_map]
      have : ∀ x ∈ prI (lns s), (digs ∘ bo) x = id x := fun x hx => digs_bo (List.all_eq_true.1 v2 x hx)
      rw [List.map_congr_left this, List.map_id]
    rw [e1, e2]
    rw [p5, hw, p4, p3] at hsh
    exact hsh.symm
  refine ⟨?_, by rw [hN, hR]⟩
  have hf : few s = false := by
    unfold few
    rw [hw, List.length_cons]
    rw [decide_eq_false (by omega), decide_eq_false (by omega), decide_eq_false (by omega)]; rfl
  have hk : okR c s = true := by
    unfold okR okL
    rw [hA, hR, decide_eq_true nn]
    unfold okV at v1
    rw [Bool.and_eq_true, decide_eq_true_eq] at v1
    have e : (rdT s).first.length = c.lats.length := by
      show (bo _).length = _
      rw [bo_len]; omega
    rw [decide_eq_true e]
    rw [hI]
    simp only [Option.isSome_some, Bool.and_self, Bool.true_and]
    rw [List.all_eq_true] at v2 ⊢
    intro x hx
    have := v2 x hx
    unfold okV at this
    rw [Bool.and_eq_true] at this
    exact this.1
  unfold form
  rw [hf, hk, decide_eq_true hT]; rfl
/-- What is of the form is taken by the reference. -/
theorem of_form {c : Ci} {s : List UInt8} (h : form c s = true) : prOk c (lns s) = true := by
  unfold form at h
  rw [Bool.and_eq_true, Bool.and_eq_true, Bool.not_eq_true', decide_eq_true_eq] at h
  obtain ⟨hf, hk, ht⟩ := h
  unfold okR okL at hk
  simp only [Bool.and_eq_true, decide_eq_true_eq] at hk
  obtain ⟨⟨h1, h2, h3⟩, h4⟩ := hk
  have hs : lns s = [49] :: (98 :: Lib.itoa (rdN s)) :: digs (rdT s).first :: ((rdT s).ins.map digs ++ [[46], []]) := by
    have := splitU_txt (rdT s) h2
    rw [ht] at this
    exact this
  unfold few at hf
  rw [Bool.or_eq_false_iff, Bool.or_eq_false_iff, decide_eq_false_iff_not, decide_eq_false_iff_not, decide_eq_false_iff_not] at hf
  obtain ⟨f1, f2, f3⟩ := hf
  have hlen : (lns s).length = (rdT s).ins.length + 5 := by rw [hs]; simp
  have g0 : (lns s).getD 0 default = [49] := by rw [hs]; rfl
  have g1 : (lns s).getD 1 default = 98 :: Lib.itoa (rdN s) := by rw [hs]; rfl
  have g2 : (lns s).getD 2 default = digs (rdT s).first := by rw [hs]; rfl
  have gl : ∀ (A : List (List UInt8)) (x y : List UInt8), (A ++ [x, y]).getD A.length default = x ∧ (A ++ [x, y]).getD (A.length + 1) default = y := by
    intro A x y
    induction A with
    | nil => exact ⟨rfl, rfl⟩
    | cons a r ih => exact ih
  have hA := gl ([49] :: (98 :: Lib.itoa (rdN s)) :: digs (rdT s).first :: (rdT s).ins.map digs) [46] []
  have hAl : ([49] :: (98 :: Lib.itoa (rdN s)) :: digs (rdT s).first :: (rdT s).ins.map digs).length = (lns s).length - 2 := by rw [hlen]; simp
  rw [hAl, show (lns s).length - 2 + 1 = (lns s).length - 1 by omega] at hA
  have hs2 : ([49] :: (98 :: Lib.itoa (rdN s)) :: digs (rdT s).first :: (rdT s).ins.map digs) ++ [[46], []] = lns s := hs.symm
  rw [hs2] at hA
  have g3 : (lns s).getD ((lns s).length - 2) default = [46] := hA.1
  have g4 : (lns s).getD ((lns s).length - 1) default = [] := hA.2
  have hl9 : (Lib.itoa (rdN s)).length ≤ 9 := by rw [g1, List.length_cons] at f3; omega
  have hne : (Lib.itoa (rdN s)).length ≠ 0 := fun e => by
    rw [itoa_nn h2] at e
    exact (dec_dig _ _ (Nat.le_refl _)).2 (List.eq_nil_of_length_eq_zero e)
  have hn := num_itoa h2 hl9
  unfold prOk pre prV prN
  rw [g0, g1, g2, g3, g4]
  simp only [List.drop_succ_cons, List.drop_zero, hn, decide_eq_true h2, Bool.and_true, Bool.and_eq_true, Bool.not_eq_true', Bool.or_eq_false_iff, decide_eq_false_iff_not, List.length_cons]
  refine ⟨⟨by omega, by omega, by simp, by simp, by simp, by omega, by simp⟩, okV_digs (by omega), ?_⟩
  rw [List.all_eq_true]
  intro x hx
  have hx' : x ∈ rdL s := hx
  have hxl := List.all_eq_true.1 h4 x hx'
  have : bo x ∈ (rdT s).ins := List.mem_map.2 ⟨x, hx', rfl⟩
  -- the lines are digits
  have hI : rdL s = (rdT s).ins.map digs := by
    have e := rdL_txt (rdT s) h2
    rw [ht] at e
    exact e
  rw [hI] at hx'
  obtain ⟨v, hv, rfl⟩ := List.mem_map.1 hx'
  rw [digs_len] at hxl
  exact okV_digs (of_decide_eq_true hxl)
end Go.Proofs.YtccejdncpknbaaaGreatDoor.Sy.Rp
/- ref04, ref06.Starts: round by round. -/
namespace Go.Proofs.YtccejdncpknbaaaGreatDoor.Sy.Rf
open Go Go.Proofs.YtccejdncpknbaaaGreatDoor.Ab Go.Proofs.YtccejdncpknbaaaGreatDoor.Sy Go.Proofs.YtccejdncpknbaaaGreatDoor.Sy.Tx Go.Proofs.YtccejdncpknbaaaGreatDoor.Sy.Vl Go.Proofs.YtccejdncpknbaaaGreatDoor.Sy.Tc
set_option maxRecDepth 1000000
set_option linter.unusedVariables false
def Hf (c : Ci) (acc : List D) (sl : List (Nat × V)) : St := ⟨mk 44 ([(3, .ptr 0 0), (7, .arr 1)] ++ sl) [], [Bc c, .lst 4 acc]⟩
def Ha (c : Ci) (v : List Bool) (acc : List D) (sl : List (Nat × V)) : St := ⟨mk 33 ([(3, .ptr 0 0), (7, .d (BL v)), (8, .arr 1)] ++ sl) [], [Bc c, .lst 4 acc]⟩
def Fa (c : Ci) (v : List Bool) (acc : List D) : St := ⟨mk 33 [(3, .ptr 0 0), (7, .d (BL v)), (8, .d (.sl acc))] [], [Bc c, .dead]⟩
def Hh (c : Ci) (v : List Bool) (sl : List (Nat × V)) : St := ⟨mk 28 ([(3, .ptr 0 0), (7, .d (BL v))] ++ sl) [], [Bc c]⟩
def Rh (c : Ci) : St := ⟨mk 28 [(6, .d (.bool false))] [], [Bc c]⟩
def Hm (v v2 : List Bool) (sl : List (Nat × V)) : St := ⟨mk 26 ([(0, .d (BL v)), (1, .d (BL v2))] ++ sl) [], []⟩
def Rm : St := ⟨mk 26 [(4, .d (.bool false))] [], []⟩
def Hg (c : Ci) (xs : List D) (sl : List (Nat × V)) : St := ⟨mk 41 ([(1, .d (.sl xs)), (2, .ptr 0 0)] ++ sl) [], [Bc c]⟩
def Rg (c : Ci) : St := ⟨mk 41 [(4, .d (.bool false))] [], [Bc c]⟩
section
variable (c : Ci) (t : Tr) (n x l e : Int) (i j u k m : Nat) (v st inp v2 st2 : List Bool) (b b2 : Bool) (xs ys acc : List D) (ls : List (List Bool))
theorem vl1  : callX Tryz.prog wr false O 82 [.d (BL v), .d (I l)] [] [It.is (l / 2), It.el (l / 2).toNat (D.bool (v.getD (l / 2).toNat default)), It.is (l % 2), It.br true, It.br true] = some (V.d (D.bool true), [],
  [IntKind.i64.wrap (l.tdiv 2) = l / 2,
   l / 2 = (↑(l / 2).toNat : Int) ∧ (List.map D.bool v)[(l / 2).toNat]? = some (D.bool (v.getD (l / 2).toNat default)),
   l.tmod 2 = l % 2,
   (l % 2 == 1) = true,
   (!v.getD (l / 2).toNat default == true) = true]) := by kernel_rfl
theorem vl2  : callX Tryz.prog wr false O 82 [.d (BL v), .d (I l)] [] [It.is (l / 2), It.el (l / 2).toNat (D.bool (v.getD (l / 2).toNat default)), It.is (l % 2), It.br true, It.br false] = some (V.d (D.bool false), [],
  [IntKind.i64.wrap (l.tdiv 2) = l / 2,
   l / 2 = (↑(l / 2).toNat : Int) ∧ (List.map D.bool v)[(l / 2).toNat]? = some (D.bool (v.getD (l / 2).toNat default)),
   l.tmod 2 = l % 2,
   (l % 2 == 1) = true,
   (!v.getD (l / 2).toNat default == true) = false]) := by kernel_rfl
theorem vl3  : callX Tryz.prog wr false O 82 [.d (BL v), .d (I l)] [] [It.is (l / 2), It.el (l / 2).toNat (D.bool (v.getD (l / 2).toNat default)), It.is (l % 2), It.br false, It.br true] = some (V.d (D.bool true), [],
  [IntKind.i64.wrap (l.tdiv 2) = l / 2,
   l / 2 = (↑(l / 2).toNat : Int) ∧ (List.map D.bool v)[(l / 2).toNat]? = some (D.bool (v.getD (l / 2).toNat default)),
   l.tmod 2 = l % 2,
   (l % 2 == 1) = false,
   (!v.getD (l / 2).toNat default == false) = true]) := by kernel_rfl
theorem vl4  : callX Tryz.prog wr false O 82 [.d (BL v), .d (I l)] [] [It.is (l / 2), It.el (l / 2).toNat (D.bool (v.getD (l / 2).toNat default)), It.is (l % 2), It.br false, It.br false] = some (V.d (D.bool false), [],
  [IntKind.i64.wrap (l.tdiv 2) = l / 2,
   l / 2 = (↑(l / 2).toNat : Int) ∧ (List.map D.bool v)[(l / 2).toNat]? = some (D.bool (v.getD (l / 2).toNat default)),
   l.tmod 2 = l % 2,
   (l % 2 == 1) = false,
   (!v.getD (l / 2).toNat default == false) = false]) := by kernel_rfl
theorem f1 : round Tryz.prog wr false O (loopOf Tryz.prog 80 0) (Hf c acc [(8, .d (I i))]) [It.br true, It.el i (c.ands.getD i default).d, It.ret (V.d (D.bool true)), It.el i (c.ands.getD i default).d, It.ret (V.d (D.bool b2)), It.raw, It.raw, It.raw, It.is (↑(i + 1) : Int)] [3, 7, 8] 2 = some (.normal, Hf c (acc ++ [.bool b2]) [(8, .d (I (i + 1 : Nat)))],
  [decide ((↑i : Int) < (↑(List.map An.d c.ands).length : Int)) = true,
   (↑i : Int) = (↑i : Int) ∧ (List.map An.d c.ands)[i]? = some (c.ands.getD i default).d,
   ICall Tryz.prog 82 [V.d (D.sl acc), V.d (D.int IntKind.i64 (c.ands.getD i default).a)] [] (V.d (D.bool true)) [] ∧ (List.flatMap refs ([V.arr 1, V.d (I (c.ands.getD i default).a)] ++ []) = [] ∨ (V.d (D.bool true)).safe = true),
   (↑i : Int) = (↑i : Int) ∧ (List.map An.d c.ands)[i]? = some (c.ands.getD i default).d,
   ICall Tryz.prog 82 [V.d (D.sl acc), V.d (D.int IntKind.i64 (c.ands.getD i default).b)] [] (V.d (D.bool b2)) [] ∧ (List.flatMap refs ([V.arr 1, V.d (I (c.ands.getD i default).b)] ++ []) = [] ∨ (V.d (D.bool b2)).safe = true),
   acc.length + [D.bool b2].length ≤ maxItems,
   IntKind.i64.wrap ((↑i : Int) + 1) = (↑(i + 1) : Int)]) := by kernel_rfl
theorem f2 : round Tryz.prog wr false O (loopOf Tryz.prog 80 0) (Hf c acc [(8, .d (I i))]) [It.br true, It.el i (c.ands.getD i default).d, It.ret (V.d (D.bool false)), It.raw, It.raw, It.raw, It.is (↑(i + 1) : Int)] [3, 7, 8] 2 = some (.normal, Hf c (acc ++ [.bool false]) [(8, .d (I (i + 1 : Nat)))],
  [decide ((↑i : Int) < (↑(List.map An.d c.ands).length : Int)) = true,
   (↑i : Int) = (↑i : Int) ∧ (List.map An.d c.ands)[i]? = some (c.ands.getD i default).d,
   ICall Tryz.prog 82 [V.d (D.sl acc), V.d (D.int IntKind.i64 (c.ands.getD i default).a)] [] (V.d (D.bool false)) [] ∧ (List.flatMap refs ([V.arr 1, V.d (I (c.ands.getD i default).a)] ++ []) = [] ∨ (V.d (D.bool false)).safe = true),
   acc.length + 1 ≤ maxItems,
   IntKind.i64.wrap ((↑i : Int) + 1) = (↑(i + 1) : Int)]) := by kernel_rfl
theorem f3 : round Tryz.prog wr false O (loopOf Tryz.prog 80 0) (Hf c acc [(8, .d (I i))]) [It.br false] [3, 7] 2 = some (.exit 0, Hf c acc [],
  [decide ((↑i : Int) < (↑(List.map An.d c.ands).length : Int)) = false]) := by kernel_rfl
theorem fr_  : callX Tryz.prog wr false O 80 [.d c.d, .d (BL st), .d (BL inp)] [] [It.own, It.own, It.raw, It.own, It.raw, It.lp [3, 7, 8] (Ex.exit 0) (Hf c ys [])] = some (V.own 4 ys, [],
  [∀ (y : D), y ∈ List.map D.bool inp → y.cells.length = (fun x => x.size) Tryz.prog.types[4],
   1 + (List.map D.bool inp).length ≤ maxItems,
   ∀ (y : D), y ∈ List.map D.bool st → y.cells.length = (fun x => x.size) Tryz.prog.types[4],
   ([D.bool false] ++ List.map D.bool inp).length + (List.map D.bool st).length ≤ maxItems,
   GoesL Tryz.prog (loopOf Tryz.prog 80 0) (⟨mk 44 [(3, V.ptr 0 0), (7, V.arr 1), (8, V.d (D.int IntKind.i64 0))] [], [B.bx none [V.d (D.int IntKind.i64 c.ins), V.d (D.sl (List.map Lt.d c.lats)), V.d (D.sl (List.map An.d c.ands)), V.d (D.sl (List.map I c.bads)), V.d (D.sl (List.map I c.cons))], B.lst 4 ([D.bool false] ++ List.map D.bool inp ++ List.map D.bool st)]⟩) (Ex.exit 0) (Hf c ys [])]) := by kernel_rfl
theorem a1 : round Tryz.prog wr false O (loopOf Tryz.prog 98 0) (Ha c v acc [(9, .d (I i))]) [It.br true, It.el i (c.lats.getD i default).d, It.icall [] (V.d (D.bool b)) [], It.raw, It.raw, It.raw, It.is (↑(i + 1) : Int)] [3, 7, 8, 9] 2 = some (.normal, Ha c v (acc ++ [.bool b]) [(9, .d (I (i + 1 : Nat)))],
  [decide ((↑i : Int) < (↑(List.map Lt.d c.lats).length : Int)) = true,
   (↑i : Int) = (↑i : Int) ∧ (List.map Lt.d c.lats)[i]? = some (c.lats.getD i default).d,
   ICall Tryz.prog 82 [V.d (BL v), V.d (I (c.lats.getD i default).next)] [] (V.d (D.bool b)) [],
   acc.length + [D.bool b].length ≤ maxItems,
   IntKind.i64.wrap ((↑i : Int) + 1) = (↑(i + 1) : Int)]) := by kernel_rfl
theorem a2 : round Tryz.prog wr false O (loopOf Tryz.prog 98 0) (Ha c v acc [(9, .d (I i))]) [It.br false] [3, 7, 8] 2 = some (.exit 0, Ha c v acc [],
  [decide ((↑i : Int) < (↑(List.map Lt.d c.lats).length : Int)) = false]) := by kernel_rfl
theorem af  : callX Tryz.prog wr false O 98 [.d c.d, .d (BL st), .d (BL inp)] [] [It.icall [] (V.d (BL v)) [], It.lp [3, 7, 8, 9] (Ex.exit 0) (Fa c v acc)] = some (V.d (D.sl acc), [],
  [ICall Tryz.prog 80 [V.d (D.agg [I c.ins, D.sl (List.map Lt.d c.lats), D.sl (List.map An.d c.ands), L c.bads, L c.cons]), V.d (BL st), V.d (BL inp)] [] (V.d (BL v)) [],
   GoesL Tryz.prog (loopOf Tryz.prog 98 0) (⟨mk 33 [(3, V.ptr 0 0), (7, V.d (D.sl (List.map D.bool v))), (8, V.emp true), (9, V.d (D.int IntKind.i64 0))] [], [B.bx none [V.d (D.int IntKind.i64 c.ins), V.d (D.sl (List.map Lt.d c.lats)), V.d (D.sl (List.map An.d c.ands)), V.d (D.sl (List.map I c.bads)), V.d (D.sl (List.map I c.cons))]]⟩) (Ex.exit 0) (Fa c v acc)]) := by kernel_rfl
theorem h1 : round Tryz.prog wr false O (loopOf Tryz.prog 97 0) (Hh c v [(8, .d (I i))]) [It.br true, It.el i (I (c.cons.getD i default)), It.icall [] (V.d (D.bool false)) [], It.br true] [6] 1 = some (.ret, Rh c,
  [decide ((↑i : Int) < (↑(List.map I c.cons).length : Int)) = true,
   (↑i : Int) = (↑i : Int) ∧ (List.map I c.cons)[i]? = some (I (c.cons.getD i default)),
   ICall Tryz.prog 82 [V.d (BL v), V.d (I (c.cons.getD i default))] [] (V.d (D.bool false)) [],
   (!false) = true]) := by kernel_rfl
theorem h2 : round Tryz.prog wr false O (loopOf Tryz.prog 97 0) (Hh c v [(8, .d (I i))]) [It.br true, It.el i (I (c.cons.getD i default)), It.icall [] (V.d (D.bool true)) [], It.br false, It.is (↑(i + 1) : Int)] [3, 7, 8] 1 = some (.normal, Hh c v [(8, .d (I (i + 1 : Nat)))],
  [decide ((↑i : Int) < (↑(List.map I c.cons).length : Int)) = true,
   (↑i : Int) = (↑i : Int) ∧ (List.map I c.cons)[i]? = some (I (c.cons.getD i default)),
   ICall Tryz.prog 82 [V.d (BL v), V.d (I (c.cons.getD i default))] [] (V.d (D.bool true)) [],
   (!true) = false,
   IntKind.i64.wrap ((↑i : Int) + 1) = (↑(i + 1) : Int)]) := by kernel_rfl
theorem h3 : round Tryz.prog wr false O (loopOf Tryz.prog 97 0) (Hh c v [(8, .d (I i))]) [It.br false] [3, 7] 1 = some (.exit 0, Hh c v [],
  [decide ((↑i : Int) < (↑(List.map I c.cons).length : Int)) = false]) := by kernel_rfl
theorem ho0  : callX Tryz.prog wr false O 97 [.d c.d, .d (BL st), .d (BL inp)] [] [It.icall [] (V.d (BL v)) [], It.lp [3, 7, 8] Ex.ret (Rh c)] = some (V.d (D.bool false), [],
  [ICall Tryz.prog 80 [V.d (D.agg [I c.ins, D.sl (List.map Lt.d c.lats), D.sl (List.map An.d c.ands), L c.bads, L c.cons]), V.d (BL st), V.d (BL inp)] [] (V.d (BL v)) [],
   GoesL Tryz.prog (loopOf Tryz.prog 97 0) (⟨mk 28 [(3, V.ptr 0 0), (7, V.d (D.sl (List.map D.bool v))), (8, V.d (D.int IntKind.i64 0))] [], [B.bx none [V.d (D.int IntKind.i64 c.ins), V.d (D.sl (List.map Lt.d c.lats)), V.d (D.sl (List.map An.d c.ands)), V.d (D.sl (List.map I c.bads)), V.d (D.sl (List.map I c.cons))]]⟩) (Ex.ret) (Rh c)]) := by kernel_rfl
theorem ho1  : callX Tryz.prog wr false O 97 [.d c.d, .d (BL st), .d (BL inp)] [] [It.icall [] (V.d (BL v)) [], It.lp [3, 7, 8] (Ex.exit 0) (Hh c v [])] = some (V.d (D.bool true), [],
  [ICall Tryz.prog 80 [V.d (D.agg [I c.ins, D.sl (List.map Lt.d c.lats), D.sl (List.map An.d c.ands), L c.bads, L c.cons]), V.d (BL st), V.d (BL inp)] [] (V.d (BL v)) [],
   GoesL Tryz.prog (loopOf Tryz.prog 97 0) (⟨mk 28 [(3, V.ptr 0 0), (7, V.d (D.sl (List.map D.bool v))), (8, V.d (D.int IntKind.i64 0))] [], [B.bx none [V.d (D.int IntKind.i64 c.ins), V.d (D.sl (List.map Lt.d c.lats)), V.d (D.sl (List.map An.d c.ands)), V.d (D.sl (List.map I c.bads)), V.d (D.sl (List.map I c.cons))]]⟩) (Ex.exit 0) (Hh c v [])]) := by kernel_rfl
theorem m1 : round Tryz.prog wr false O (loopOf Tryz.prog 27 0) (Hm v v2 [(5, .d (I i))]) [It.br true, It.el i (D.bool (v.getD i default)), It.el i (D.bool (v2.getD i default)), It.br true] [4] 0 = some (.ret, Rm,
  [decide ((↑i : Int) < (↑(List.map D.bool v).length : Int)) = true,
   (↑i : Int) = (↑i : Int) ∧ (List.map D.bool v)[i]? = some (D.bool (v.getD i default)),
   (↑i : Int) = (↑i : Int) ∧ (List.map D.bool v2)[i]? = some (D.bool (v2.getD i default)),
   (!v.getD i default == v2.getD i default) = true]) := by kernel_rfl
theorem m2 : round Tryz.prog wr false O (loopOf Tryz.prog 27 0) (Hm v v2 [(5, .d (I i))]) [It.br true, It.el i (D.bool (v.getD i default)), It.el i (D.bool (v2.getD i default)), It.br false, It.is (↑(i + 1) : Int)] [0, 1, 5] 0 = some (.normal, Hm v v2 [(5, .d (I (i + 1 : Nat)))],
  [decide ((↑i : Int) < (↑(List.map D.bool v).length : Int)) = true,
   (↑i : Int) = (↑i : Int) ∧ (List.map D.bool v)[i]? = some (D.bool (v.getD i default)),
   (↑i : Int) = (↑i : Int) ∧ (List.map D.bool v2)[i]? = some (D.bool (v2.getD i default)),
   (!v.getD i default == v2.getD i default) = false,
   IntKind.i64.wrap ((↑i : Int) + 1) = (↑(i + 1) : Int)]) := by kernel_rfl
theorem m3 : round Tryz.prog wr false O (loopOf Tryz.prog 27 0) (Hm v v2 [(5, .d (I i))]) [It.br false] [0, 1] 0 = some (.exit 0, Hm v v2 [],
  [decide ((↑i : Int) < (↑(List.map D.bool v).length : Int)) = false]) := by kernel_rfl
theorem sm0  : callX Tryz.prog wr false O 27 [.d (BL v), .d (BL v2)] [] [It.br true] = some (V.d (D.bool false), [],
  [((↑(List.map D.bool v).length : Int) != (↑(List.map D.bool v2).length : Int)) = true]) := by kernel_rfl
theorem sm1  : callX Tryz.prog wr false O 27 [.d (BL v), .d (BL v2)] [] [It.br false, It.lp [0, 1, 5] Ex.ret Rm] = some (V.d (D.bool false), [],
  [((↑(List.map D.bool v).length : Int) != (↑(List.map D.bool v2).length : Int)) = false,
   GoesL Tryz.prog (loopOf Tryz.prog 27 0) (⟨mk 26 [(0, V.d (D.sl (List.map D.bool v))), (1, V.d (D.sl (List.map D.bool v2))), (5, V.d (D.int IntKind.i64 0))] [], []⟩) (Ex.ret) (Rm)]) := by kernel_rfl
theorem sm2  : callX Tryz.prog wr false O 27 [.d (BL v), .d (BL v2)] [] [It.br false, It.lp [0, 1, 5] (Ex.exit 0) (Hm v v2 [])] = some (V.d (D.bool true), [],
  [((↑(List.map D.bool v).length : Int) != (↑(List.map D.bool v2).length : Int)) = false,
   GoesL Tryz.prog (loopOf Tryz.prog 27 0) (⟨mk 26 [(0, V.d (D.sl (List.map D.bool v))), (1, V.d (D.sl (List.map D.bool v2))), (5, V.d (D.int IntKind.i64 0))] [], []⟩) (Ex.exit 0) (Hm v v2 [])]) := by kernel_rfl
theorem s1 : round Tryz.prog wr false O (loopOf Tryz.prog 35 0) (Hg c xs [(5, .d (I i))]) [It.br true, It.el i (D.bool true), It.el i (c.lats.getD i default).d, It.br true] [4] 1 = some (.ret, Rg c,
  [decide ((↑i : Int) < (↑xs.length : Int)) = true,
   (↑i : Int) = (↑i : Int) ∧ xs[i]? = some (D.bool true),
   (↑i : Int) = (↑i : Int) ∧ (List.map Lt.d c.lats)[i]? = some (c.lats.getD i default).d,
   ((c.lats.getD i default).reset == 0) = true]) := by kernel_rfl
theorem s2 : round Tryz.prog wr false O (loopOf Tryz.prog 35 0) (Hg c xs [(5, .d (I i))]) [It.br true, It.el i (D.bool true), It.el i (c.lats.getD i default).d, It.br false, It.el i (D.bool true), It.br false, It.is (↑(i + 1) : Int)] [1, 2, 5] 1 = some (.normal, Hg c xs [(5, .d (I (i + 1 : Nat)))],
  [decide ((↑i : Int) < (↑xs.length : Int)) = true,
   (↑i : Int) = (↑i : Int) ∧ xs[i]? = some (D.bool true),
   (↑i : Int) = (↑i : Int) ∧ (List.map Lt.d c.lats)[i]? = some (c.lats.getD i default).d,
   ((c.lats.getD i default).reset == 0) = false,
   (↑i : Int) = (↑i : Int) ∧ xs[i]? = some (D.bool true),
   (!true) = false,
   IntKind.i64.wrap ((↑i : Int) + 1) = (↑(i + 1) : Int)]) := by kernel_rfl
theorem s3 : round Tryz.prog wr false O (loopOf Tryz.prog 35 0) (Hg c xs [(5, .d (I i))]) [It.br true, It.el i (D.bool false), It.el i (D.bool false), It.br true, It.el i (c.lats.getD i default).d, It.br true] [4] 1 = some (.ret, Rg c,
  [decide ((↑i : Int) < (↑xs.length : Int)) = true,
   (↑i : Int) = (↑i : Int) ∧ xs[i]? = some (D.bool false),
   (↑i : Int) = (↑i : Int) ∧ xs[i]? = some (D.bool false),
   (!false) = true,
   (↑i : Int) = (↑i : Int) ∧ (List.map Lt.d c.lats)[i]? = some (c.lats.getD i default).d,
   ((c.lats.getD i default).reset == 1) = true]) := by kernel_rfl
theorem s4 : round Tryz.prog wr false O (loopOf Tryz.prog 35 0) (Hg c xs [(5, .d (I i))]) [It.br true, It.el i (D.bool false), It.el i (D.bool false), It.br true, It.el i (c.lats.getD i default).d, It.br false, It.is (↑(i + 1) : Int)] [1, 2, 5] 1 = some (.normal, Hg c xs [(5, .d (I (i + 1 : Nat)))],
  [decide ((↑i : Int) < (↑xs.length : Int)) = true,
   (↑i : Int) = (↑i : Int) ∧ xs[i]? = some (D.bool false),
   (↑i : Int) = (↑i : Int) ∧ xs[i]? = some (D.bool false),
   (!false) = true,
   (↑i : Int) = (↑i : Int) ∧ (List.map Lt.d c.lats)[i]? = some (c.lats.getD i default).d,
   ((c.lats.getD i default).reset == 1) = false,
   IntKind.i64.wrap ((↑i : Int) + 1) = (↑(i + 1) : Int)]) := by kernel_rfl
theorem s5 : round Tryz.prog wr false O (loopOf Tryz.prog 35 0) (Hg c xs [(5, .d (I i))]) [It.br false] [1, 2] 1 = some (.exit 0, Hg c xs [],
  [decide ((↑i : Int) < (↑xs.length : Int)) = false]) := by kernel_rfl
theorem st0  : callX Tryz.prog wr false O 35 [.d c.d, .d (.sl xs)] [] [It.lp [1, 2, 5] Ex.ret (Rg c)] = some (V.d (D.bool false), [],
  [GoesL Tryz.prog (loopOf Tryz.prog 35 0) (⟨mk 41 [(1, V.d (D.sl xs)), (2, V.ptr 0 0), (5, V.d (D.int IntKind.i64 0))] [], [B.bx none [V.d (D.int IntKind.i64 c.ins), V.d (D.sl (List.map Lt.d c.lats)), V.d (D.sl (List.map An.d c.ands)), V.d (D.sl (List.map I c.bads)), V.d (D.sl (List.map I c.cons))]]⟩) (Ex.ret) (Rg c)]) := by kernel_rfl
theorem st1  : callX Tryz.prog wr false O 35 [.d c.d, .d (.sl xs)] [] [It.lp [1, 2, 5] (Ex.exit 0) (Hg c xs [])] = some (V.d (D.bool true), [],
  [GoesL Tryz.prog (loopOf Tryz.prog 35 0) (⟨mk 41 [(1, V.d (D.sl xs)), (2, V.ptr 0 0), (5, V.d (D.int IntKind.i64 0))] [], [B.bx none [V.d (D.int IntKind.i64 c.ins), V.d (D.sl (List.map Lt.d c.lats)), V.d (D.sl (List.map An.d c.ands)), V.d (D.sl (List.map I c.bads)), V.d (D.sl (List.map I c.cons))]]⟩) (Ex.exit 0) (Hg c xs [])]) := by kernel_rfl
end
end Go.Proofs.YtccejdncpknbaaaGreatDoor.Sy.Rf
/- ref04, ref06.Starts, whole. -/
namespace Go.Proofs.YtccejdncpknbaaaGreatDoor.Sy.Rf
open Go Go.Proofs.YtccejdncpknbaaaGreatDoor.Ab Go.Proofs.YtccejdncpknbaaaGreatDoor.Sy Go.Proofs.YtccejdncpknbaaaGreatDoor.Sy.Tx Go.Proofs.YtccejdncpknbaaaGreatDoor.Sy.Vl Go.Proofs.YtccejdncpknbaaaGreatDoor.Sy.Tc
set_option maxRecDepth 1000000
set_option linter.unusedVariables false
set_option linter.unusedSimpArgs false
theorem value {v : List Bool} {l : Int} (h0 : 0 ≤ l) (h1 : l / 2 < v.length) (h2 : v.length ≤ 1000000) : ICall Tryz.prog 82 [.d (BL v), .d (I l)] [] (.d (.bool (val v l))) [] := by
  have hi : (l / 2).toNat < v.length := by omega
  have k1 : IntKind.i64.wrap (l.tdiv 2) = l / 2 := quo (by omega) (by omega)
  have k2 : l / 2 = ((l / 2).toNat : Int) ∧ (v.map D.bool)[(l / 2).toNat]? = some (D.bool (v.getD (l / 2).toNat default)) := ⟨by omega, get_map D.bool v _ hi⟩
  have k3 : l.tmod 2 = l % 2 := Int.tmod_eq_emod_of_nonneg h0
  have hv : val v l = !((v.getD (l / 2).toNat default) == (l % 2 == 1)) := rfl
  rw [hv]
  cases c1 : (l % 2 == 1) with
  | true =>
    cases c2 : (!v.getD (l / 2).toNat default == true) with
    | true => exact callX_ok hO hm (vl1 l v) ⟨k1, k2, k3, c1, c2⟩
    | false => exact callX_ok hO hm (vl2 l v) ⟨k1, k2, k3, c1, c2⟩
  | false =>
    cases c2 : (!v.getD (l / 2).toNat default == false) with
    | true => exact callX_ok hO hm (vl3 l v) ⟨k1, k2, k3, c1, c2⟩
    | false => exact callX_ok hO hm (vl4 l v) ⟨k1, k2, k3, c1, c2⟩
section
variable {c : Ci} {st inp : List Bool} (hg : Gd c) (hs : st.length = c.lats.length) (hi : (inp.length : Int) = c.ins)
include hg hs hi
theorem frame_loop : GoesL Tryz.prog (loopOf Tryz.prog 80 0) (Hf c ((fr c st inp 0).map D.bool) [(8, .d (I (0 : Nat)))]) (.exit 0) (Hf c ((frame c st inp).map D.bool) []) := by
  have key : ∀ (d i : Nat), c.ands.length - i = d → i ≤ c.ands.length →
      GoesL Tryz.prog (loopOf Tryz.prog 80 0) (Hf c ((fr c st inp i).map D.bool) [(8, .d (I i))]) (.exit 0) (Hf c ((frame c st inp).map D.bool) []) := by
    have hz := hg.sz
    have hin := hg.ins
    intro d
    induction d with
    | zero =>
      intro i hd hle
      obtain rfl : i = c.ands.length := by omega
      have e : fr c st inp c.ands.length = frame c st inp := by unfold fr frame; simp
      rw [e]
      exact .stop hO hm (f3 c c.ands.length _) (by simp) (decide_eq_false (by rw [List.length_map]; omega))
    | succ d ih =>
      intro i hd hle
      have hlt : i < c.ands.length := by omega
      have hA := hg.ands i hlt
      have eg : c.ands.getD i default = c.ands[i] := by rw [List.getD_eq_getElem?_getD, List.getElem?_eq_getElem hlt]; rfl
      rw [← eg] at hA
      have hfl := fr_len (c := c) (st := st) (inp := inp) i (by omega)
      have oa := value (v := fr c st inp i) (l := (c.ands.getD i default).a) (by omega) (by omega) (by omega)
      have ob := value (v := fr c st inp i) (l := (c.ands.getD i default).b) (by omega) (by omega) (by omega)
      have ih' := ih (i + 1) (by omega) (by omega)
      have q0 : decide ((i : Int) < (((c.ands.map An.d).length : Nat) : Int)) = true := decide_eq_true (by rw [List.length_map]; omega)
      have gm := get_map An.d c.ands i hlt
      have er := fr_succ (c := c) (st := st) (inp := inp) i hlt
      have hm1 : ((fr c st inp i).map D.bool).length + 1 ≤ maxItems := Nat.le_trans (show _ ≤ 2000 by rw [List.length_map, hfl]; omega) (by decide)
      cases ca : val (fr c st inp i) (c.ands.getD i default).a with
      | true =>
        rw [ca] at oa
        refine .step hO hm (f1 c i (val (fr c st inp i) (c.ands.getD i default).b) _) ⟨q0, ⟨rfl, gm⟩, ⟨oa, .inr rfl⟩, ⟨rfl, gm⟩, ⟨ob, .inr rfl⟩, hm1, wrap_succ (by omega)⟩ ?_
        rw [er, ca, Bool.true_and, List.map_append] at ih'
        exact ih'
      | false =>
        rw [ca] at oa
        refine .step hO hm (f2 c i _) ⟨q0, ⟨rfl, gm⟩, ⟨oa, .inr rfl⟩, hm1, wrap_succ (by omega)⟩ ?_
        rw [er, ca, Bool.false_and, List.map_append] at ih'
        exact ih'
  exact key c.ands.length 0 rfl (Nat.zero_le _)
theorem frameR : ICall Tryz.prog 80 [.d c.d, .d (BL st), .d (BL inp)] [] (.d (BL (frame c st inp))) [] := by
  have hz := hg.sz
  have hin := hg.ins
  have hl := frame_loop hg hs hi
  have e : (fr c st inp 0).map D.bool = [D.bool false] ++ inp.map D.bool ++ st.map D.bool := by unfold fr; simp [frameL]
  rw [e] at hl
  have m5 : ∀ a : Nat, a ≤ 5000 → a ≤ maxItems := fun a h => Nat.le_trans h (by decide)
  have := callX_ok hO hm (fr_ c st inp ((frame c st inp).map D.bool)) ⟨szB inp, m5 _ (by rw [List.length_map]; omega), szB st, m5 _ (by simp; omega), hl⟩
  exact this.frz rfl
theorem after_loop : GoesL Tryz.prog (loopOf Tryz.prog 98 0) (⟨mk 33 [(3, .ptr 0 0), (7, .d (BL (frame c st inp))), (8, .emp true), (9, .d (I 0))] [], [Bc c]⟩) (.exit 0) (Fa c (frame c st inp) (c.lats.map fun l => .bool (val (frame c st inp) l.next))) := by
  have hz := hg.sz
  have hin := hg.ins
  have hfl := frame_len c st inp
  have ad : adoptS 8 4 (⟨mk 33 [(3, .ptr 0 0), (7, .d (BL (frame c st inp))), (8, .emp true), (9, .d (I 0))] [], [Bc c]⟩ : St) = Ha c (frame c st inp) [] [(9, .d (I 0))] := by kernel_rfl
  have fz : ∀ acc, Ab.freeze 1 (Ha c (frame c st inp) acc []) = Fa c (frame c st inp) acc := fun acc => by kernel_rfl
  refine GoesL.adoptS (j := 8) (t := 4) yB ?_
  rw [ad]
  refine acc_loop (k := loopOf Tryz.prog 98 0) c.lats (fun i acc => Ha c (frame c st inp) acc [(9, .d (I i))]) (.exit 0) (fun acc => Fa c (frame c st inp) acc) (fun l => .bool (val (frame c st inp) l.next)) (fun i acc hlt ha e s hh => ?_) (fun acc ha => ?_)
  · have hm2 := hg.lats _ (mem_getD hlt)
    exact .step hO hm (a1 c i (frame c st inp) (val (frame c st inp) (c.lats.getD i default).next) acc) ⟨decide_eq_true (by rw [List.length_map]; omega), ⟨rfl, get_map Lt.d c.lats i hlt⟩, value (by omega) (by omega) (by omega), Nat.le_trans (show _ ≤ 2000 by simp; omega) (by decide), wrap_succ (by omega)⟩ hh
  · have := (GoesL.stop hO hm (a2 c c.lats.length (frame c st inp) acc) (by simp) (decide_eq_false (by rw [List.length_map]; omega))).frz 1
    rw [fz] at this
    exact this
theorem after : ICall Tryz.prog 98 [.d c.d, .d (BL st), .d (BL inp)] [] (.d (BL (nextS c st inp))) [] := by
  have hl := after_loop hg hs hi
  have hf := frameR hg hs hi
  have l := af c (frame c st inp) st inp (c.lats.map fun l => .bool (val (frame c st inp) l.next))
  have := callX_ok hO hm l ⟨hf, hl⟩
  have e : BL (nextS c st inp) = D.sl (c.lats.map fun l => .bool (val (frame c st inp) l.next)) := by unfold BL nextS; rw [List.map_map]; rfl
  rw [e]
  exact this
theorem holds : ICall Tryz.prog 97 [.d c.d, .d (BL st), .d (BL inp)] [] (.d (.bool (holdsS c st inp))) [] := by
  have hz := hg.sz
  have hin := hg.ins
  have h1 := hg.c100
  have hfl := frame_len c st inp
  have hf := frameR hg hs hi
  have key := any_loop (c := loopOf Tryz.prog 97 0) c.cons (fun i => Hh c (frame c st inp) [(8, .d (I i))]) .ret (.exit 0) (Rh c) (Hh c (frame c st inp) []) (fun x => !val (frame c st inp) x)
    (fun i hlt hb => by
      have hm2 := hg.cons _ (mem_getD hlt)
      have hv := value (v := frame c st inp) (l := c.cons.getD i default) (by omega) (by omega) (by omega)
      rw [Bool.not_eq_true'] at hb
      rw [hb] at hv
      exact .stop hO hm (Rf.h1 c i (frame c st inp)) (by simp) ⟨decide_eq_true (by rw [List.length_map]; omega), ⟨rfl, get_map I c.cons i hlt⟩, hv, rfl⟩)
    (fun i hlt hb e s hh => by
      have hm2 := hg.cons _ (mem_getD hlt)
      have hv := value (v := frame c st inp) (l := c.cons.getD i default) (by omega) (by omega) (by omega)
      rw [Bool.not_eq_false'] at hb
      rw [hb] at hv
      exact .step hO hm (h2 c i (frame c st inp)) ⟨decide_eq_true (by rw [List.length_map]; omega), ⟨rfl, get_map I c.cons i hlt⟩, hv, rfl, wrap_succ (by omega)⟩ hh)
    (.stop hO hm (h3 c c.cons.length (frame c st inp)) (by simp) (decide_eq_false (by rw [List.length_map]; omega))) c.cons.length 0 rfl (Nat.zero_le _)
  rw [List.drop_zero] at key
  have e : holdsS c st inp = !c.cons.any (fun x => !val (frame c st inp) x) := by unfold holdsS; rw [List.all_eq_not_any_not]
  rw [e]
  cases hh : c.cons.any (fun x => !val (frame c st inp) x) with
  | true => exact callX_ok hO hm (ho0 c (frame c st inp) st inp) ⟨hf, key.1 hh⟩
  | false => exact callX_ok hO hm (ho1 c (frame c st inp) st inp) ⟨hf, key.2 hh⟩
end
theorem same (v w : List Bool) (h1 : v.length ≤ 1000000) (h2 : w.length ≤ 1000000) : ICall Tryz.prog 27 [.d (BL v), .d (BL w)] [] (.d (.bool (decide (v = w)))) [] := by
  by_cases c0 : v.length ≠ w.length
  · rw [decide_eq_false (fun e => c0 (by rw [e]))]
    exact callX_ok hO hm (sm0 v w) (bne_iff_ne.2 (fun hh => c0 (by rw [List.length_map, List.length_map] at hh; omega)))
  have c0 := Decidable.not_not.1 c0
  have d0 : ((((v.map D.bool).length : Nat) : Int) != (((w.map D.bool).length : Nat) : Int)) = false := by rw [List.length_map, List.length_map, c0]; simp
  have key := any_ix (c := loopOf Tryz.prog 27 0) v (fun i => Hm v w [(5, .d (I i))]) .ret (.exit 0) Rm (Hm v w []) (fun i b => !(b == w.getD i default))
    (fun i hi hb => .stop hO hm (m1 i v w) (by simp) ⟨decide_eq_true (by rw [List.length_map]; omega), ⟨rfl, get_map D.bool v i hi⟩, ⟨rfl, get_map D.bool w i (by omega)⟩, hb⟩)
    (fun i hi hb e s hh => .step hO hm (m2 i v w) ⟨decide_eq_true (by rw [List.length_map]; omega), ⟨rfl, get_map D.bool v i hi⟩, ⟨rfl, get_map D.bool w i (by omega)⟩, hb, wrap_succ (by omega)⟩ hh)
    (.stop hO hm (m3 v.length v w) (by simp) (decide_eq_false (by rw [List.length_map]; omega))) v.length 0 rfl (Nat.zero_le _)
  rw [List.drop_zero] at key
  cases hh : anyIx (fun i b => !(b == w.getD i default)) v 0 with
  | true =>
    have hne : v ≠ w := by
      intro e
      have : ∀ (l : List Bool) (i : Nat), (∀ j, j < l.length → l.getD j default = w.getD (i + j) default) → anyIx (fun i b => !(b == w.getD i default)) l i = false := by
        intro l
        induction l with
        | nil => intro i _; rfl
        | cons x r ih =>
          intro i hl
          rw [anyIx, ih (i + 1) (fun j hj => by have := hl (j + 1) (by simpa using hj); rw [List.getD_cons_succ] at this; rw [this]; congr 1; omega)]
          have := hl 0 (by simp)
          rw [List.getD_cons_zero] at this
          rw [this]; simp
      have := this v 0 (fun j _ => by rw [e, Nat.zero_add])
      rw [hh] at this; cases this
    rw [decide_eq_false hne]
    exact callX_ok hO hm (sm1 v w) ⟨d0, key.1 hh⟩
  | false =>
    have he : v = w := by
      refine List.ext_getElem c0 fun j h1 h2 => ?_
      have := anyIx_at (fun i b => !(b == w.getD i default)) v 0 hh j h1
      simp only [Nat.zero_add, Bool.not_eq_false', beq_iff_eq] at this
      rw [this, List.getD_eq_getElem?_getD, List.getElem?_eq_getElem h2]; rfl
    rw [decide_eq_true he]
    exact callX_ok hO hm (sm2 v w) ⟨d0, key.2 hh⟩
theorem startsR {c : Ci} {st : List Bool} (hg : Gd c) (hs : st.length = c.lats.length) : ICall Tryz.prog 35 [.d c.d, .d (BL st)] [] (.d (.bool (!noStart c st))) [] := by
  have hz := hg.sz
  have hin := hg.ins
  have key := any_ix (c := loopOf Tryz.prog 35 0) c.lats (fun i => Hg c (st.map D.bool) [(5, .d (I i))]) .ret (.exit 0) (Rg c) (Hg c (st.map D.bool) []) (fun i l => badSt l (st.getD i default))
    (fun i hi hb => by
      have hr := hg.res _ (mem_getD hi)
      have q0 : decide ((i : Int) < (((st.map D.bool).length : Nat) : Int)) = true := decide_eq_true (by rw [List.length_map]; omega)
      have gm := get_map Lt.d c.lats i hi
      have gs := get_map D.bool st i (by omega)
      unfold badSt at hb
      rw [Bool.and_eq_true, bne_iff_ne] at hb
      obtain ⟨hb1, hb2⟩ := hb
      cases hst : st.getD i default with
      | true =>
        rw [hst] at gs hb2
        have : (c.lats.getD i default).reset ≠ 1 := by intro e; rw [e] at hb2; revert hb2; decide
        exact .stop hO hm (s1 c i _) (by simp) ⟨q0, ⟨rfl, gs⟩, ⟨rfl, gm⟩, beq_iff_eq.2 (by omega)⟩
      | false =>
        rw [hst] at gs hb2
        have : (c.lats.getD i default).reset = 1 := by
          cases e : ((c.lats.getD i default).reset == 1) with
          | true => exact beq_iff_eq.1 e
          | false => rw [e] at hb2; exact absurd hb2 (by decide)
        exact .stop hO hm (s3 c i _) (by simp) ⟨q0, ⟨rfl, gs⟩, ⟨rfl, gs⟩, rfl, ⟨rfl, gm⟩, beq_iff_eq.2 this⟩)
    (fun i hi hb e s h => by
      have hr := hg.res _ (mem_getD hi)
      have q0 : decide ((i : Int) < (((st.map D.bool).length : Nat) : Int)) = true := decide_eq_true (by rw [List.length_map]; omega)
      have gm := get_map Lt.d c.lats i hi
      have gs := get_map D.bool st i (by omega)
      unfold badSt at hb
      cases hst : st.getD i default with
      | true =>
        rw [hst] at gs hb
        have : (c.lats.getD i default).reset ≠ 0 := by intro e; rw [e] at hb; revert hb; decide
        exact .step hO hm (s2 c i _) ⟨q0, ⟨rfl, gs⟩, ⟨rfl, gm⟩, beq_eq_false_iff_ne.2 this, ⟨rfl, gs⟩, rfl, wrap_succ (by omega)⟩ h
      | false =>
        rw [hst] at gs hb
        have : (c.lats.getD i default).reset ≠ 1 := by intro e; rw [e] at hb; revert hb; decide
        exact .step hO hm (s4 c i _) ⟨q0, ⟨rfl, gs⟩, ⟨rfl, gs⟩, rfl, ⟨rfl, gm⟩, beq_eq_false_iff_ne.2 this, wrap_succ (by omega)⟩ h)
    (.stop hO hm (s5 c c.lats.length _) (by simp) (decide_eq_false (by rw [List.length_map]; omega))) c.lats.length 0 rfl (Nat.zero_le _)
  rw [List.drop_zero] at key
  unfold noStart
  cases h : anyIx (fun i l => badSt l (st.getD i default)) c.lats 0 with
  | true => exact callX_ok hO hm (st0 c _) (key.1 h)
  | false => exact callX_ok hO hm (st1 c _) (key.2 h)
end Go.Proofs.YtccejdncpknbaaaGreatDoor.Sy.Rf
/- ref06: round by round. -/
namespace Go.Proofs.YtccejdncpknbaaaGreatDoor.Sy.Rf
open Go Go.Proofs.YtccejdncpknbaaaGreatDoor.Ab Go.Proofs.YtccejdncpknbaaaGreatDoor.Sy Go.Proofs.YtccejdncpknbaaaGreatDoor.Sy.Tx Go.Proofs.YtccejdncpknbaaaGreatDoor.Sy.Vl Go.Proofs.YtccejdncpknbaaaGreatDoor.Sy.Tc
set_option maxRecDepth 1000000
set_option linter.unusedVariables false
def Hl (c : Ci) (t : Tr) (acc : List D) (sl : List (Nat × V)) : St := ⟨mk 35 ([(2, .ptr 0 0), (3, .ptr 1 0), (5, .arr 2)] ++ sl) [], [Bc c, Bt t, .lst 28 acc]⟩
def Hp (c : Ci) (t : Tr) (ss : List (List Bool)) (sl : List (Nat × V)) : St := ⟨mk 31 ([(2, .ptr 0 0), (3, .ptr 1 0), (5, .d (.sl (ss.map BL)))] ++ sl) [], [Bc c, Bt t]⟩
def Rp (c : Ci) (t : Tr) (x : Int) : St := ⟨mk 31 [(4, .d (I x))] [], [Bc c, Bt t]⟩
def B00 : B := .box [.emp true, .emp true]
def Hu (t : Tr) (acc : List D) (sl : List (Nat × V)) : St := ⟨mk 30 ([(1, .ptr 0 0), (2, .ptr 1 0), (3, .ptr 2 0)] ++ sl) [], [Bt t, B00, .box [.d (BL t.first), .arr 3], .lst 28 acc]⟩
def Ho (ls l2 : List (List Bool)) (sl : List (Nat × V)) : St := ⟨mk 27 ([(0, .d (.sl (ls.map BL))), (1, .d (.sl (l2.map BL)))] ++ sl) [], []⟩
def Ro : St := ⟨mk 27 [(4, .d (.bool false))] [], []⟩
section
variable (c : Ci) (t t2 : Tr) (n x l e : Int) (i j u k m : Nat) (v st inp v2 st2 : List Bool) (b b2 : Bool) (xs ys acc : List D) (ls l2 ss : List (List Bool))
theorem l1 : round Tryz.prog wr false O (loopOf Tryz.prog 81 0) (Hl c t acc [(6, .d (I i))]) [It.is (↑(i + 1) : Int), It.br true, It.ix i, It.el i (BL v), It.el i (BL (t.ins.getD i default)), It.icall [] (V.d (BL v2)) [], It.raw, It.raw, It.raw, It.is (↑(i + 1) : Int)] [2, 3, 5, 6] 3 = some (.normal, Hl c t (acc ++ [BL v2]) [(6, .d (I (i + 1 : Nat)))],
  [IntKind.i64.wrap ((↑i : Int) + 1) = (↑(i + 1) : Int),
   decide ((↑(i + 1) : Int) < (↑(List.map BL t.ins).length : Int)) = true,
   (↑i : Int) = (↑i : Int) ∧ i < acc.length,
   acc[i]? = some (BL v),
   (↑i : Int) = (↑i : Int) ∧ (List.map BL t.ins)[i]? = some (BL (t.ins.getD i default)),
   ICall Tryz.prog 98 [V.d (D.agg [I c.ins, D.sl (List.map Lt.d c.lats), D.sl (List.map An.d c.ands), L c.bads, L c.cons]), V.d (BL v), V.d (BL (t.ins.getD i default))] [] (V.d (BL v2)) [],
   acc.length + [BL v2].length ≤ maxItems,
   IntKind.i64.wrap ((↑i : Int) + 1) = (↑(i + 1) : Int)]) := by kernel_rfl
theorem l2_ : round Tryz.prog wr false O (loopOf Tryz.prog 81 0) (Hl c t acc [(6, .d (I i))]) [It.is (↑(i + 1) : Int), It.br false] [2, 3, 5] 3 = some (.exit 0, Hl c t acc [],
  [IntKind.i64.wrap ((↑i : Int) + 1) = (↑(i + 1) : Int),
   decide ((↑(i + 1) : Int) < (↑(List.map BL t.ins).length : Int)) = false]) := by kernel_rfl
theorem al  : callX Tryz.prog wr false O 81 [.d c.d, .d t.d] [] [It.raw, It.own, It.ls [], It.own, It.lp [2, 3, 5, 6] (Ex.exit 0) (Hl c t ys [])] = some (V.own 28 ys, [],
  [∀ (y : D), y ∈ List.map D.bool t.first → y.cells.length = (fun x => x.size) Tryz.prog.types[4],
   (List.map D.bool t.first).length ≤ maxItems,
   GoesL Tryz.prog (loopOf Tryz.prog 81 0) (⟨mk 35 [(2, V.ptr 0 0), (3, V.ptr 1 0), (5, V.arr 2), (6, V.d (D.int IntKind.i64 0))] [], [B.bx none [V.d (D.int IntKind.i64 c.ins), V.d (D.sl (List.map Lt.d c.lats)), V.d (D.sl (List.map An.d c.ands)), V.d (D.sl (List.map I c.bads)), V.d (D.sl (List.map I c.cons))], B.bx none [V.d (D.sl (List.map D.bool t.first)), V.d (D.sl (List.map BL t.ins))], B.lst 28 [D.sl (List.map D.bool t.first)]]⟩) (Ex.exit 0) (Hl c t ys [])]) := by kernel_rfl
theorem p1 : round Tryz.prog wr false O (loopOf Tryz.prog 79 0) (Hp c t ss [(6, .d (I i))]) [It.br true, It.el i (BL (ss.getD i default)), It.el i (BL (t.ins.getD i default)), It.icall [] (V.d (D.bool false)) [], It.br true] [4] 2 = some (.ret, Rp c t i,
  [decide ((↑i : Int) < (↑(List.map BL ss).length : Int)) = true,
   (↑i : Int) = (↑i : Int) ∧ (List.map BL ss)[i]? = some (BL (ss.getD i default)),
   (↑i : Int) = (↑i : Int) ∧ (List.map BL t.ins)[i]? = some (BL (t.ins.getD i default)),
   ICall Tryz.prog 97 [V.d (D.agg [I c.ins, D.sl (List.map Lt.d c.lats), D.sl (List.map An.d c.ands), L c.bads, L c.cons]), V.d (BL (ss.getD i default)), V.d (BL (t.ins.getD i default))] [] (V.d (D.bool false)) [],
   (!false) = true]) := by kernel_rfl
theorem p2 : round Tryz.prog wr false O (loopOf Tryz.prog 79 0) (Hp c t ss [(6, .d (I i))]) [It.br true, It.el i (BL (ss.getD i default)), It.el i (BL (t.ins.getD i default)), It.icall [] (V.d (D.bool true)) [], It.br false, It.is (↑(i + 1) : Int)] [2, 3, 5, 6] 2 = some (.normal, Hp c t ss [(6, .d (I (i + 1 : Nat)))],
  [decide ((↑i : Int) < (↑(List.map BL ss).length : Int)) = true,
   (↑i : Int) = (↑i : Int) ∧ (List.map BL ss)[i]? = some (BL (ss.getD i default)),
   (↑i : Int) = (↑i : Int) ∧ (List.map BL t.ins)[i]? = some (BL (t.ins.getD i default)),
   ICall Tryz.prog 97 [V.d (D.agg [I c.ins, D.sl (List.map Lt.d c.lats), D.sl (List.map An.d c.ands), L c.bads, L c.cons]), V.d (BL (ss.getD i default)), V.d (BL (t.ins.getD i default))] [] (V.d (D.bool true)) [],
   (!true) = false,
   IntKind.i64.wrap ((↑i : Int) + 1) = (↑(i + 1) : Int)]) := by kernel_rfl
theorem p3 : round Tryz.prog wr false O (loopOf Tryz.prog 79 0) (Hp c t ss [(6, .d (I i))]) [It.br false] [2, 3, 5] 2 = some (.exit 0, Hp c t ss [],
  [decide ((↑i : Int) < (↑(List.map BL ss).length : Int)) = false]) := by kernel_rfl
theorem aw0  : callX Tryz.prog wr false O 79 [.d c.d, .d t.d] [] [It.icall [] (V.d (D.sl (List.map BL ss))) [], It.lp [2, 3, 5, 6] Ex.ret (Rp c t x)] = some (V.d (D.int IntKind.i64 x), [],
  [ICall Tryz.prog 81 [V.d (D.agg [I c.ins, D.sl (List.map Lt.d c.lats), D.sl (List.map An.d c.ands), L c.bads, L c.cons]), V.d (D.agg [BL t.first, D.sl (List.map BL t.ins)])] [] (V.d (D.sl (List.map BL ss))) [],
   GoesL Tryz.prog (loopOf Tryz.prog 79 0) (⟨mk 31 [(2, V.ptr 0 0), (3, V.ptr 1 0), (5, V.d (D.sl (List.map BL ss))), (6, V.d (D.int IntKind.i64 0))] [], [B.bx none [V.d (D.int IntKind.i64 c.ins), V.d (D.sl (List.map Lt.d c.lats)), V.d (D.sl (List.map An.d c.ands)), V.d (D.sl (List.map I c.bads)), V.d (D.sl (List.map I c.cons))], B.bx none [V.d (D.sl (List.map D.bool t.first)), V.d (D.sl (List.map BL t.ins))]]⟩) (Ex.ret) (Rp c t x)]) := by kernel_rfl
theorem aw1  : callX Tryz.prog wr false O 79 [.d c.d, .d t.d] [] [It.icall [] (V.d (D.sl (List.map BL ss))) [], It.lp [2, 3, 5, 6] (Ex.exit 0) (Hp c t ss [])] = some (V.d (D.int IntKind.i64 (↑(List.map BL ss).length : Int)), [],
  [ICall Tryz.prog 81 [V.d (D.agg [I c.ins, D.sl (List.map Lt.d c.lats), D.sl (List.map An.d c.ands), L c.bads, L c.cons]), V.d (D.agg [BL t.first, D.sl (List.map BL t.ins)])] [] (V.d (D.sl (List.map BL ss))) [],
   GoesL Tryz.prog (loopOf Tryz.prog 79 0) (⟨mk 31 [(2, V.ptr 0 0), (3, V.ptr 1 0), (5, V.d (D.sl (List.map BL ss))), (6, V.d (D.int IntKind.i64 0))] [], [B.bx none [V.d (D.int IntKind.i64 c.ins), V.d (D.sl (List.map Lt.d c.lats)), V.d (D.sl (List.map An.d c.ands)), V.d (D.sl (List.map I c.bads)), V.d (D.sl (List.map I c.cons))], B.bx none [V.d (D.sl (List.map D.bool t.first)), V.d (D.sl (List.map BL t.ins))]]⟩) (Ex.exit 0) (Hp c t ss [])]) := by kernel_rfl
theorem o1 : round Tryz.prog wr false O (loopOf Tryz.prog 28 0) (Ho ls l2 [(5, .d (I i))]) [It.br true, It.el i (BL (ls.getD i default)), It.el i (BL (l2.getD i default)), It.icall [] (V.d (D.bool false)) [], It.br true] [4] 0 = some (.ret, Ro,
  [decide ((↑i : Int) < (↑(List.map BL ls).length : Int)) = true,
   (↑i : Int) = (↑i : Int) ∧ (List.map BL ls)[i]? = some (BL (ls.getD i default)),
   (↑i : Int) = (↑i : Int) ∧ (List.map BL l2)[i]? = some (BL (l2.getD i default)),
   ICall Tryz.prog 27 [V.d (BL (ls.getD i default)), V.d (BL (l2.getD i default))] [] (V.d (D.bool false)) [],
   (!false) = true]) := by kernel_rfl
theorem o2 : round Tryz.prog wr false O (loopOf Tryz.prog 28 0) (Ho ls l2 [(5, .d (I i))]) [It.br true, It.el i (BL (ls.getD i default)), It.el i (BL (l2.getD i default)), It.icall [] (V.d (D.bool true)) [], It.br false, It.is (↑(i + 1) : Int)] [0, 1, 5] 0 = some (.normal, Ho ls l2 [(5, .d (I (i + 1 : Nat)))],
  [decide ((↑i : Int) < (↑(List.map BL ls).length : Int)) = true,
   (↑i : Int) = (↑i : Int) ∧ (List.map BL ls)[i]? = some (BL (ls.getD i default)),
   (↑i : Int) = (↑i : Int) ∧ (List.map BL l2)[i]? = some (BL (l2.getD i default)),
   ICall Tryz.prog 27 [V.d (BL (ls.getD i default)), V.d (BL (l2.getD i default))] [] (V.d (D.bool true)) [],
   (!true) = false,
   IntKind.i64.wrap ((↑i : Int) + 1) = (↑(i + 1) : Int)]) := by kernel_rfl
theorem o3 : round Tryz.prog wr false O (loopOf Tryz.prog 28 0) (Ho ls l2 [(5, .d (I i))]) [It.br false] [0, 1] 0 = some (.exit 0, Ho ls l2 [],
  [decide ((↑i : Int) < (↑(List.map BL ls).length : Int)) = false]) := by kernel_rfl
theorem sa0  : callX Tryz.prog wr false O 28 [.d (.sl (ls.map BL)), .d (.sl (l2.map BL))] [] [It.br true] = some (V.d (D.bool false), [],
  [((↑(List.map BL ls).length : Int) != (↑(List.map BL l2).length : Int)) = true]) := by kernel_rfl
theorem sa1  : callX Tryz.prog wr false O 28 [.d (.sl (ls.map BL)), .d (.sl (l2.map BL))] [] [It.br false, It.lp [0, 1, 5] Ex.ret Ro] = some (V.d (D.bool false), [],
  [((↑(List.map BL ls).length : Int) != (↑(List.map BL l2).length : Int)) = false,
   GoesL Tryz.prog (loopOf Tryz.prog 28 0) (⟨mk 27 [(0, V.d (D.sl (List.map BL ls))), (1, V.d (D.sl (List.map BL l2))), (5, V.d (D.int IntKind.i64 0))] [], []⟩) (Ex.ret) (Ro)]) := by kernel_rfl
theorem sa2  : callX Tryz.prog wr false O 28 [.d (.sl (ls.map BL)), .d (.sl (l2.map BL))] [] [It.br false, It.lp [0, 1, 5] (Ex.exit 0) (Ho ls l2 [])] = some (V.d (D.bool true), [],
  [((↑(List.map BL ls).length : Int) != (↑(List.map BL l2).length : Int)) = false,
   GoesL Tryz.prog (loopOf Tryz.prog 28 0) (⟨mk 27 [(0, V.d (D.sl (List.map BL ls))), (1, V.d (D.sl (List.map BL l2))), (5, V.d (D.int IntKind.i64 0))] [], []⟩) (Ex.exit 0) (Ho ls l2 [])]) := by kernel_rfl
theorem sx0  : callX Tryz.prog wr false O 9 [.d t.d, .d t2.d] [] [It.icall [] (V.d (D.bool false)) []] = some (V.d (D.bool false), [],
  [ICall Tryz.prog 27 [V.d (BL t.first), V.d (BL t2.first)] [] (V.d (D.bool false)) []]) := by kernel_rfl
theorem sx1  : callX Tryz.prog wr false O 9 [.d t.d, .d t2.d] [] [It.icall [] (V.d (D.bool true)) [], It.icall [] (V.d (D.bool b)) []] = some (V.d (D.bool b), [],
  [ICall Tryz.prog 27 [V.d (BL t.first), V.d (BL t2.first)] [] (V.d (D.bool true)) [],
   ICall Tryz.prog 28 [V.d (D.sl (List.map BL t.ins)), V.d (D.sl (List.map BL t2.ins))] [] (V.d (D.bool b)) []]) := by kernel_rfl
end
end Go.Proofs.YtccejdncpknbaaaGreatDoor.Sy.Rf
/- ref06.Check, Great, ref11: round by round. -/
namespace Go.Proofs.YtccejdncpknbaaaGreatDoor.Sy.Rf
open Go Go.Proofs.YtccejdncpknbaaaGreatDoor.Ab Go.Proofs.YtccejdncpknbaaaGreatDoor.Sy Go.Proofs.YtccejdncpknbaaaGreatDoor.Sy.Tx Go.Proofs.YtccejdncpknbaaaGreatDoor.Sy.Vl Go.Proofs.YtccejdncpknbaaaGreatDoor.Sy.Tc
set_option maxRecDepth 1000000
set_option linter.unusedVariables false
def Hc (c : Ci) (t : Tr) (sl : List (Nat × V)) : St := ⟨mk 51 ([(2, .ptr 0 0), (3, .ptr 1 0)] ++ sl) [], [Bc c, Bt t]⟩
def Rc (c : Ci) (t : Tr) : St := ⟨mk 51 [(4, .d (I 8))] [], [Bc c, Bt t]⟩
def Hy (t : Tr) (sl : List (Nat × V)) : St := ⟨mk 34 ([(1, .ptr 0 0)] ++ sl) [], [Bt t]⟩
def Ry (t : Tr) : St := ⟨mk 34 [(2, .d (.bool true))] [], [Bt t]⟩
def Hz (xs : List D) (s : List UInt8) (sl : List (Nat × V)) : St := ⟨mk 20 ([(0, .d (.sl xs)), (3, .d (.str s))] ++ sl) [], []⟩
def Hx (t : Tr) (s : List UInt8) (sl : List (Nat × V)) : St := ⟨mk 34 ([(2, .ptr 0 0), (5, .d (.str s))] ++ sl) [], [Bt t]⟩
section
variable (c : Ci) (t t2 : Tr) (n x l e : Int) (i j u k m : Nat) (v st inp v2 st2 : List Bool) (b b2 : Bool) (xs ys acc : List D) (ls l2 ss : List (List Bool)) (s s2 s3 : List UInt8)
theorem kc0  : callX Tryz.prog wr false O 15 [.d c.d, .d t.d] [] [It.icall [] (V.d (I e)) [], It.br true, It.icall [] (V.d (I e)) []] = some (V.d (D.int IntKind.i64 e), [],
  [ICall Tryz.prog 24 [V.d (D.agg [I c.ins, D.sl (List.map Lt.d c.lats), D.sl (List.map An.d c.ands), L c.bads, L c.cons])] [] (V.d (I e)) [],
   (e != 0) = true,
   ICall Tryz.prog 24 [V.d (D.agg [I c.ins, D.sl (List.map Lt.d c.lats), D.sl (List.map An.d c.ands), L c.bads, L c.cons])] [] (V.d (I e)) []]) := by kernel_rfl
theorem kc1  : callX Tryz.prog wr false O 15 [.d c.d, .d t.d] [] [It.icall [] (V.d (I 0)) [], It.br false, It.br true] = some (V.d (D.int IntKind.i64 4), [],
  [ICall Tryz.prog 24 [V.d (D.agg [I c.ins, D.sl (List.map Lt.d c.lats), D.sl (List.map An.d c.ands), L c.bads, L c.cons])] [] (V.d (I 0)) [],
   (0 != 0) = false,
   decide ((↑(List.map BL t.ins).length : Int) > 100) = true]) := by kernel_rfl
theorem kc2  : callX Tryz.prog wr false O 15 [.d c.d, .d t.d] [] [It.icall [] (V.d (I 0)) [], It.br false, It.br false, It.br true] = some (V.d (D.int IntKind.i64 8), [],
  [ICall Tryz.prog 24 [V.d (D.agg [I c.ins, D.sl (List.map Lt.d c.lats), D.sl (List.map An.d c.ands), L c.bads, L c.cons])] [] (V.d (I 0)) [],
   (0 != 0) = false,
   decide ((↑(List.map BL t.ins).length : Int) > 100) = false,
   ((↑(List.map BL t.ins).length : Int) == 0) = true]) := by kernel_rfl
theorem kc3  : callX Tryz.prog wr false O 15 [.d c.d, .d t.d] [] [It.icall [] (V.d (I 0)) [], It.br false, It.br false, It.br false, It.br true] = some (V.d (D.int IntKind.i64 8), [],
  [ICall Tryz.prog 24 [V.d (D.agg [I c.ins, D.sl (List.map Lt.d c.lats), D.sl (List.map An.d c.ands), L c.bads, L c.cons])] [] (V.d (I 0)) [],
   (0 != 0) = false,
   decide ((↑(List.map BL t.ins).length : Int) > 100) = false,
   ((↑(List.map BL t.ins).length : Int) == 0) = false,
   ((↑(List.map D.bool t.first).length : Int) != (↑(List.map Lt.d c.lats).length : Int)) = true]) := by kernel_rfl
theorem kc4  : callX Tryz.prog wr false O 15 [.d c.d, .d t.d] [] [It.icall [] (V.d (I 0)) [], It.br false, It.br false, It.br false, It.br false, It.icall [] (V.d (D.bool false)) [], It.br true] = some (V.d (D.int IntKind.i64 8), [],
  [ICall Tryz.prog 24 [V.d (D.agg [I c.ins, D.sl (List.map Lt.d c.lats), D.sl (List.map An.d c.ands), L c.bads, L c.cons])] [] (V.d (I 0)) [],
   (0 != 0) = false,
   decide ((↑(List.map BL t.ins).length : Int) > 100) = false,
   ((↑(List.map BL t.ins).length : Int) == 0) = false,
   ((↑(List.map D.bool t.first).length : Int) != (↑(List.map Lt.d c.lats).length : Int)) = false,
   ICall Tryz.prog 35 [V.d (D.agg [I c.ins, D.sl (List.map Lt.d c.lats), D.sl (List.map An.d c.ands), L c.bads, L c.cons]), V.d (BL t.first)] [] (V.d (D.bool false)) [],
   (!false) = true]) := by kernel_rfl
theorem kr1 : round Tryz.prog wr false O (loopOf Tryz.prog 15 0) (Hc c t [(5, .d (I i))]) [It.br true, It.el i (BL (t.ins.getD i default)), It.br true] [4] 2 = some (.ret, Rc c t,
  [decide ((↑i : Int) < (↑(List.map BL t.ins).length : Int)) = true,
   (↑i : Int) = (↑i : Int) ∧ (List.map BL t.ins)[i]? = some (BL (t.ins.getD i default)),
   ((↑(List.map D.bool (t.ins.getD i default)).length : Int) != c.ins) = true]) := by kernel_rfl
theorem kr2 : round Tryz.prog wr false O (loopOf Tryz.prog 15 0) (Hc c t [(5, .d (I i))]) [It.br true, It.el i (BL (t.ins.getD i default)), It.br false, It.is (↑(i + 1) : Int)] [2, 3, 5] 2 = some (.normal, Hc c t [(5, .d (I (i + 1 : Nat)))],
  [decide ((↑i : Int) < (↑(List.map BL t.ins).length : Int)) = true,
   (↑i : Int) = (↑i : Int) ∧ (List.map BL t.ins)[i]? = some (BL (t.ins.getD i default)),
   ((↑(List.map D.bool (t.ins.getD i default)).length : Int) != c.ins) = false,
   IntKind.i64.wrap ((↑i : Int) + 1) = (↑(i + 1) : Int)]) := by kernel_rfl
theorem kr3 : round Tryz.prog wr false O (loopOf Tryz.prog 15 0) (Hc c t [(5, .d (I i))]) [It.br false] [2, 3] 2 = some (.exit 0, Hc c t [],
  [decide ((↑i : Int) < (↑(List.map BL t.ins).length : Int)) = false]) := by kernel_rfl
theorem kc5  : callX Tryz.prog wr false O 15 [.d c.d, .d t.d] [] [It.icall [] (V.d (I 0)) [], It.br false, It.br false, It.br false, It.br false, It.icall [] (V.d (D.bool true)) [], It.br false, It.lp [2, 3, 5] Ex.ret (Rc c t)] = some (V.d (D.int IntKind.i64 8), [],
  [ICall Tryz.prog 24 [V.d (D.agg [I c.ins, D.sl (List.map Lt.d c.lats), D.sl (List.map An.d c.ands), L c.bads, L c.cons])] [] (V.d (I 0)) [],
   (0 != 0) = false,
   decide ((↑(List.map BL t.ins).length : Int) > 100) = false,
   ((↑(List.map BL t.ins).length : Int) == 0) = false,
   ((↑(List.map D.bool t.first).length : Int) != (↑(List.map Lt.d c.lats).length : Int)) = false,
   ICall Tryz.prog 35 [V.d (D.agg [I c.ins, D.sl (List.map Lt.d c.lats), D.sl (List.map An.d c.ands), L c.bads, L c.cons]), V.d (BL t.first)] [] (V.d (D.bool true)) [],
   (!true) = false,
   GoesL Tryz.prog (loopOf Tryz.prog 15 0) (⟨mk 51 [(2, V.ptr 0 0), (3, V.ptr 1 0), (5, V.d (D.int IntKind.i64 0))] [], [B.bx none [V.d (D.int IntKind.i64 c.ins), V.d (D.sl (List.map Lt.d c.lats)), V.d (D.sl (List.map An.d c.ands)), V.d (D.sl (List.map I c.bads)), V.d (D.sl (List.map I c.cons))], B.bx none [V.d (D.sl (List.map D.bool t.first)), V.d (D.sl (List.map BL t.ins))]]⟩) (Ex.ret) (Rc c t)]) := by kernel_rfl
theorem kc6  : callX Tryz.prog wr false O 15 [.d c.d, .d t.d] [] [It.icall [] (V.d (I 0)) [], It.br false, It.br false, It.br false, It.br false, It.icall [] (V.d (D.bool true)) [], It.br false, It.lp [2, 3, 5] (Ex.exit 0) (Hc c t [])] = some (V.d (D.int IntKind.i64 0), [],
  [ICall Tryz.prog 24 [V.d (D.agg [I c.ins, D.sl (List.map Lt.d c.lats), D.sl (List.map An.d c.ands), L c.bads, L c.cons])] [] (V.d (I 0)) [],
   (0 != 0) = false,
   decide ((↑(List.map BL t.ins).length : Int) > 100) = false,
   ((↑(List.map BL t.ins).length : Int) == 0) = false,
   ((↑(List.map D.bool t.first).length : Int) != (↑(List.map Lt.d c.lats).length : Int)) = false,
   ICall Tryz.prog 35 [V.d (D.agg [I c.ins, D.sl (List.map Lt.d c.lats), D.sl (List.map An.d c.ands), L c.bads, L c.cons]), V.d (BL t.first)] [] (V.d (D.bool true)) [],
   (!true) = false,
   GoesL Tryz.prog (loopOf Tryz.prog 15 0) (⟨mk 51 [(2, V.ptr 0 0), (3, V.ptr 1 0), (5, V.d (D.int IntKind.i64 0))] [], [B.bx none [V.d (D.int IntKind.i64 c.ins), V.d (D.sl (List.map Lt.d c.lats)), V.d (D.sl (List.map An.d c.ands)), V.d (D.sl (List.map I c.bads)), V.d (D.sl (List.map I c.cons))], B.bx none [V.d (D.sl (List.map D.bool t.first)), V.d (D.sl (List.map BL t.ins))]]⟩) (Ex.exit 0) (Hc c t [])]) := by kernel_rfl
theorem gr1 : round Tryz.prog wr false O (loopOf Tryz.prog 10 0) (Hy t [(3, .d (I i))]) [It.br true, It.el i (BL (t.ins.getD i default)), It.br true] [2] 1 = some (.ret, Ry t,
  [decide ((↑i : Int) < (↑(List.map BL t.ins).length : Int)) = true,
   (↑i : Int) = (↑i : Int) ∧ (List.map BL t.ins)[i]? = some (BL (t.ins.getD i default)),
   decide ((↑(List.map D.bool (t.ins.getD i default)).length : Int) > 60) = true]) := by kernel_rfl
theorem gr2 : round Tryz.prog wr false O (loopOf Tryz.prog 10 0) (Hy t [(3, .d (I i))]) [It.br true, It.el i (BL (t.ins.getD i default)), It.br false, It.is (↑(i + 1) : Int)] [1, 3] 1 = some (.normal, Hy t [(3, .d (I (i + 1 : Nat)))],
  [decide ((↑i : Int) < (↑(List.map BL t.ins).length : Int)) = true,
   (↑i : Int) = (↑i : Int) ∧ (List.map BL t.ins)[i]? = some (BL (t.ins.getD i default)),
   decide ((↑(List.map D.bool (t.ins.getD i default)).length : Int) > 60) = false,
   IntKind.i64.wrap ((↑i : Int) + 1) = (↑(i + 1) : Int)]) := by kernel_rfl
theorem gr3 : round Tryz.prog wr false O (loopOf Tryz.prog 10 0) (Hy t [(3, .d (I i))]) [It.br false] [1] 1 = some (.exit 0, Hy t [],
  [decide ((↑i : Int) < (↑(List.map BL t.ins).length : Int)) = false]) := by kernel_rfl
theorem g1  : callX Tryz.prog wr false O 10 [.d t.d] [] [It.br true] = some (V.d (D.bool true), [],
  [decide ((↑(List.map D.bool t.first).length : Int) > 60) = true]) := by kernel_rfl
theorem g2  : callX Tryz.prog wr false O 10 [.d t.d] [] [It.br false, It.br true, It.br true] = some (V.d (D.bool true), [],
  [decide ((↑(List.map D.bool t.first).length : Int) > 60) = false,
   decide ((↑(List.map BL t.ins).length : Int) > 20) = true,
   ((↑(List.map BL t.ins).length : Int) != 101) = true]) := by kernel_rfl
theorem g3  : callX Tryz.prog wr false O 10 [.d t.d] [] [It.br false, It.br true, It.br false, It.lp [1, 3] Ex.ret (Ry t)] = some (V.d (D.bool true), [],
  [decide ((↑(List.map D.bool t.first).length : Int) > 60) = false,
   decide ((↑(List.map BL t.ins).length : Int) > 20) = true,
   ((↑(List.map BL t.ins).length : Int) != 101) = false,
   GoesL Tryz.prog (loopOf Tryz.prog 10 0) (⟨mk 34 [(1, V.ptr 0 0), (3, V.d (D.int IntKind.i64 0))] [], [B.bx none [V.d (D.sl (List.map D.bool t.first)), V.d (D.sl (List.map BL t.ins))]]⟩) (Ex.ret) (Ry t)]) := by kernel_rfl
theorem g4  : callX Tryz.prog wr false O 10 [.d t.d] [] [It.br false, It.br false, It.lp [1, 3] Ex.ret (Ry t)] = some (V.d (D.bool true), [],
  [decide ((↑(List.map D.bool t.first).length : Int) > 60) = false,
   decide ((↑(List.map BL t.ins).length : Int) > 20) = false,
   GoesL Tryz.prog (loopOf Tryz.prog 10 0) (⟨mk 34 [(1, V.ptr 0 0), (3, V.d (D.int IntKind.i64 0))] [], [B.bx none [V.d (D.sl (List.map D.bool t.first)), V.d (D.sl (List.map BL t.ins))]]⟩) (Ex.ret) (Ry t)]) := by kernel_rfl
theorem g5  : callX Tryz.prog wr false O 10 [.d t.d] [] [It.br false, It.br true, It.br false, It.lp [1, 3] (Ex.exit 0) (Hy t [])] = some (V.d (D.bool false), [],
  [decide ((↑(List.map D.bool t.first).length : Int) > 60) = false,
   decide ((↑(List.map BL t.ins).length : Int) > 20) = true,
   ((↑(List.map BL t.ins).length : Int) != 101) = false,
   GoesL Tryz.prog (loopOf Tryz.prog 10 0) (⟨mk 34 [(1, V.ptr 0 0), (3, V.d (D.int IntKind.i64 0))] [], [B.bx none [V.d (D.sl (List.map D.bool t.first)), V.d (D.sl (List.map BL t.ins))]]⟩) (Ex.exit 0) (Hy t [])]) := by kernel_rfl
theorem g6  : callX Tryz.prog wr false O 10 [.d t.d] [] [It.br false, It.br false, It.lp [1, 3] (Ex.exit 0) (Hy t [])] = some (V.d (D.bool false), [],
  [decide ((↑(List.map D.bool t.first).length : Int) > 60) = false,
   decide ((↑(List.map BL t.ins).length : Int) > 20) = false,
   GoesL Tryz.prog (loopOf Tryz.prog 10 0) (⟨mk 34 [(1, V.ptr 0 0), (3, V.d (D.int IntKind.i64 0))] [], [B.bx none [V.d (D.sl (List.map D.bool t.first)), V.d (D.sl (List.map BL t.ins))]]⟩) (Ex.exit 0) (Hy t [])]) := by kernel_rfl
theorem sh0  : callX Tryz.prog wr false O 59 [.d c.d, .d t.d, .d (I n)] [] [It.icall [] (V.d (I x)) [], It.br true] = some (V.d (D.bool false), [],
  [ICall Tryz.prog 79 [V.d (D.agg [I c.ins, D.sl (List.map Lt.d c.lats), D.sl (List.map An.d c.ands), L c.bads, L c.cons]), V.d (D.agg [BL t.first, D.sl (List.map BL t.ins)])] [] (V.d (I x)) [],
   decide (x < (↑(List.map BL t.ins).length : Int)) = true]) := by kernel_rfl
theorem sh1  : callX Tryz.prog wr false O 59 [.d c.d, .d t.d, .d (I n)] [] [It.icall [] (V.d (I x)) [], It.br false, It.icall [] (V.d (D.sl (List.map BL ss))) [], It.is ((↑(List.map BL t.ins).length : Int) - 1), It.el ((↑(List.map BL t.ins).length : Int) - 1).toNat (BL (ss.getD ((↑(List.map BL t.ins).length : Int) - 1).toNat default)), It.is ((↑(List.map BL t.ins).length : Int) - 1), It.el ((↑(List.map BL t.ins).length : Int) - 1).toNat (BL (t.ins.getD ((↑(List.map BL t.ins).length : Int) - 1).toNat default)), It.icall [] (V.d (BL v)) [], It.el n.toNat (I (c.bads.getD n.toNat default)), It.icall [] (V.d (D.bool b)) []] = some (V.d (D.bool b), [],
  [ICall Tryz.prog 79 [V.d (D.agg [I c.ins, D.sl (List.map Lt.d c.lats), D.sl (List.map An.d c.ands), L c.bads, L c.cons]), V.d (D.agg [BL t.first, D.sl (List.map BL t.ins)])] [] (V.d (I x)) [],
   decide (x < (↑(List.map BL t.ins).length : Int)) = false,
   ICall Tryz.prog 81 [V.d (D.agg [I c.ins, D.sl (List.map Lt.d c.lats), D.sl (List.map An.d c.ands), L c.bads, L c.cons]), V.d (D.agg [BL t.first, D.sl (List.map BL t.ins)])] [] (V.d (D.sl (List.map BL ss))) [],
   IntKind.i64.wrap ((↑(List.map BL t.ins).length : Int) - 1) = (↑(List.map BL t.ins).length : Int) - 1,
   (↑(List.map BL t.ins).length : Int) - 1 = (↑((↑(List.map BL t.ins).length : Int) - 1).toNat : Int) ∧ (List.map BL ss)[((↑(List.map BL t.ins).length : Int) - 1).toNat]? = some (BL (ss.getD ((↑(List.map BL t.ins).length : Int) - 1).toNat default)),
   IntKind.i64.wrap ((↑(List.map BL t.ins).length : Int) - 1) = (↑(List.map BL t.ins).length : Int) - 1,
   (↑(List.map BL t.ins).length : Int) - 1 = (↑((↑(List.map BL t.ins).length : Int) - 1).toNat : Int) ∧ (List.map BL t.ins)[((↑(List.map BL t.ins).length : Int) - 1).toNat]? = some (BL (t.ins.getD ((↑(List.map BL t.ins).length : Int) - 1).toNat default)),
   ICall Tryz.prog 80 [V.d (D.agg [I c.ins, D.sl (List.map Lt.d c.lats), D.sl (List.map An.d c.ands), L c.bads, L c.cons]), V.d (BL (ss.getD ((↑(List.map BL t.ins).length : Int) - 1).toNat default)), V.d (BL (t.ins.getD ((↑(List.map BL t.ins).length : Int) - 1).toNat default))] [] (V.d (BL v)) [],
   n = (↑n.toNat : Int) ∧ (List.map I c.bads)[n.toNat]? = some (I (c.bads.getD n.toNat default)),
   ICall Tryz.prog 82 [V.d (BL v), V.d (I (c.bads.getD n.toNat default))] [] (V.d (D.bool b)) []]) := by kernel_rfl
theorem wk0  : callX Tryz.prog wr false O 26 [.d c.d, .d t.d, .d (I n)] [] [It.icall [] (V.d (I e)) [], It.br true, It.icall [] (V.d (I e)) []] = some (V.d (D.int IntKind.i64 e), [],
  [ICall Tryz.prog 15 [V.d (D.agg [I c.ins, D.sl (List.map Lt.d c.lats), D.sl (List.map An.d c.ands), L c.bads, L c.cons]), V.d (D.agg [BL t.first, D.sl (List.map BL t.ins)])] [] (V.d (I e)) [],
   (e != 0) = true,
   ICall Tryz.prog 15 [V.d (D.agg [I c.ins, D.sl (List.map Lt.d c.lats), D.sl (List.map An.d c.ands), L c.bads, L c.cons]), V.d (D.agg [BL t.first, D.sl (List.map BL t.ins)])] [] (V.d (I e)) []]) := by kernel_rfl
theorem wk1  : callX Tryz.prog wr false O 26 [.d c.d, .d t.d, .d (I n)] [] [It.icall [] (V.d (I 0)) [], It.br false, It.br true] = some (V.d (D.int IntKind.i64 2), [],
  [ICall Tryz.prog 15 [V.d (D.agg [I c.ins, D.sl (List.map Lt.d c.lats), D.sl (List.map An.d c.ands), L c.bads, L c.cons]), V.d (D.agg [BL t.first, D.sl (List.map BL t.ins)])] [] (V.d (I 0)) [],
   (0 != 0) = false,
   decide (n < 0) = true]) := by kernel_rfl
theorem wk2  : callX Tryz.prog wr false O 26 [.d c.d, .d t.d, .d (I n)] [] [It.icall [] (V.d (I 0)) [], It.br false, It.br false, It.br true] = some (V.d (D.int IntKind.i64 2), [],
  [ICall Tryz.prog 15 [V.d (D.agg [I c.ins, D.sl (List.map Lt.d c.lats), D.sl (List.map An.d c.ands), L c.bads, L c.cons]), V.d (D.agg [BL t.first, D.sl (List.map BL t.ins)])] [] (V.d (I 0)) [],
   (0 != 0) = false,
   decide (n < 0) = false,
   decide (n ≥ (↑(List.map I c.bads).length : Int)) = true]) := by kernel_rfl
theorem wk3  : callX Tryz.prog wr false O 26 [.d c.d, .d t.d, .d (I n)] [] [It.icall [] (V.d (I 0)) [], It.br false, It.br false, It.br false, It.icall [] (V.d (D.bool false)) [], It.br true] = some (V.d (D.int IntKind.i64 57), [],
  [ICall Tryz.prog 15 [V.d (D.agg [I c.ins, D.sl (List.map Lt.d c.lats), D.sl (List.map An.d c.ands), L c.bads, L c.cons]), V.d (D.agg [BL t.first, D.sl (List.map BL t.ins)])] [] (V.d (I 0)) [],
   (0 != 0) = false,
   decide (n < 0) = false,
   decide (n ≥ (↑(List.map I c.bads).length : Int)) = false,
   ICall Tryz.prog 59 [V.d (D.agg [I c.ins, D.sl (List.map Lt.d c.lats), D.sl (List.map An.d c.ands), L c.bads, L c.cons]), V.d (D.agg [BL t.first, D.sl (List.map BL t.ins)]), V.d (I n)] [] (V.d (D.bool false)) [],
   (!false) = true]) := by kernel_rfl
theorem wk4  : callX Tryz.prog wr false O 26 [.d c.d, .d t.d, .d (I n)] [] [It.icall [] (V.d (I 0)) [], It.br false, It.br false, It.br false, It.icall [] (V.d (D.bool true)) [], It.br false] = some (V.d (D.int IntKind.i64 0), [],
  [ICall Tryz.prog 15 [V.d (D.agg [I c.ins, D.sl (List.map Lt.d c.lats), D.sl (List.map An.d c.ands), L c.bads, L c.cons]), V.d (D.agg [BL t.first, D.sl (List.map BL t.ins)])] [] (V.d (I 0)) [],
   (0 != 0) = false,
   decide (n < 0) = false,
   decide (n ≥ (↑(List.map I c.bads).length : Int)) = false,
   ICall Tryz.prog 59 [V.d (D.agg [I c.ins, D.sl (List.map Lt.d c.lats), D.sl (List.map An.d c.ands), L c.bads, L c.cons]), V.d (D.agg [BL t.first, D.sl (List.map BL t.ins)]), V.d (I n)] [] (V.d (D.bool true)) [],
   (!true) = false]) := by kernel_rfl
end
end Go.Proofs.YtccejdncpknbaaaGreatDoor.Sy.Rf
/- ref06, whole. -/
namespace Go.Proofs.YtccejdncpknbaaaGreatDoor.Sy.Rf
open Go Go.Proofs.YtccejdncpknbaaaGreatDoor.Ab Go.Proofs.YtccejdncpknbaaaGreatDoor.Sy Go.Proofs.YtccejdncpknbaaaGreatDoor.Sy.Tx Go.Proofs.YtccejdncpknbaaaGreatDoor.Sy.Vl Go.Proofs.YtccejdncpknbaaaGreatDoor.Sy.Tc
set_option maxRecDepth 1000000
set_option linter.unusedVariables false
set_option linter.unusedSimpArgs false
theorem checkR {c : Ci} {t : Tr} (h : Cw c) (ht : Tw t) : ICall Tryz.prog 15 [.d c.d, .d t.d] [] (.d (I (trChk c t))) [] := by
  have hg := Tx.check h
  have hti := ht.ins
  have hcl := h.lats
  unfold trChk
  by_cases c0 : Gates.chk c ≠ 0
  · rw [if_pos c0]; exact callX_ok hO hm (kc0 c t (Gates.chk c)) ⟨hg, bne_iff_ne.2 c0, hg⟩
  rw [if_neg c0]
  have c0 := Decidable.not_not.1 c0
  rw [c0] at hg
  by_cases c1 : t.ins.length > 100
  · rw [if_pos c1]; exact callX_ok hO hm (kc1 c t) ⟨hg, rfl, decide_eq_true (by rw [List.length_map]; omega)⟩
  rw [if_neg c1]
  have d1 : decide ((((t.ins.map BL).length : Nat) : Int) > 100) = false := decide_eq_false (by rw [List.length_map]; omega)
  by_cases c2 : t.ins.length = 0
  · rw [if_pos c2]; exact callX_ok hO hm (kc2 c t) ⟨hg, rfl, d1, (show _ = true by rw [List.length_map, c2]; rfl)⟩
  rw [if_neg c2]
  have d2 : ((((t.ins.map BL).length : Nat) : Int) == 0) = false := by rw [List.length_map]; exact beq_eq_false_iff_ne.2 (by omega)
  by_cases c3 : t.first.length ≠ c.lats.length
  · rw [if_pos c3]; exact callX_ok hO hm (kc3 c t) ⟨hg, rfl, d1, d2, bne_iff_ne.2 (fun hh => c3 (by rw [List.length_map, List.length_map] at hh; omega))⟩
  rw [if_neg c3]
  have c3 := Decidable.not_not.1 c3
  have d3 : ((((t.first.map D.bool).length : Nat) : Int) != (((c.lats.map Lt.d).length : Nat) : Int)) = false := by rw [List.length_map, List.length_map, c3]; simp
  have hst := startsR (c := c) (st := t.first) (gd c0) c3
  cases c4 : noStart c t.first with
  | true =>
    rw [c4] at hst
    rw [if_pos rfl]; exact callX_ok hO hm (kc4 c t) ⟨hg, rfl, d1, d2, d3, hst, rfl⟩
  | false =>
    rw [c4] at hst
    rw [if_neg (by simp)]
    have key := any_loop (c := loopOf Tryz.prog 15 0) t.ins (fun i => Hc c t [(5, .d (I i))]) .ret (.exit 0) (Rc c t) (Hc c t []) (fun l => decide ((l.length : Int) ≠ c.ins))
      (fun i hi hb => .stop hO hm (kr1 c t i) (by simp) ⟨decide_eq_true (by rw [List.length_map]; omega), ⟨rfl, get_map BL t.ins i hi⟩, by rw [List.length_map]; exact bne_iff_ne.2 (of_decide_eq_true hb)⟩)
      (fun i hi hb e s hh => .step hO hm (kr2 c t i) ⟨decide_eq_true (by rw [List.length_map]; omega), ⟨rfl, get_map BL t.ins i hi⟩, by rw [List.length_map]; have := of_decide_eq_false hb; simpa using this, wrap_succ (by omega)⟩ hh)
      (.stop hO hm (kr3 c t t.ins.length) (by simp) (decide_eq_false (by rw [List.length_map]; omega))) t.ins.length 0 rfl (Nat.zero_le _)
    rw [List.drop_zero] at key
    cases c5 : t.ins.any (fun l => decide ((l.length : Int) ≠ c.ins)) with
    | true => rw [if_pos rfl]; exact callX_ok hO hm (kc5 c t) ⟨hg, rfl, d1, d2, d3, hst, rfl, key.1 c5⟩
    | false => rw [if_neg (by simp)]; exact callX_ok hO hm (kc6 c t) ⟨hg, rfl, d1, d2, d3, hst, rfl, key.2 c5⟩
section
variable {c : Ci} {t : Tr} (k : Ok c t)
include k
theorem all_loop : GoesL Tryz.prog (loopOf Tryz.prog 81 0) (Hl c t [BL t.first] [(6, .d (I (0 : Nat)))]) (.exit 0) (Hl c t ((states c t).map BL) []) := by
  have hg := gd k.chk
  have hf := k.few
  have hs := k.some
  have key : ∀ (d i : Nat), t.ins.length - 1 - i = d → i + 1 ≤ t.ins.length →
      GoesL Tryz.prog (loopOf Tryz.prog 81 0) (Hl c t (((List.range (i + 1)).map (stAt c t)).map BL) [(6, .d (I i))]) (.exit 0) (Hl c t ((states c t).map BL) []) := by
    intro d
    induction d with
    | zero =>
      intro i hd hi
      have hii : i + 1 = t.ins.length := by omega
      have := l2_ c t i (((List.range (i + 1)).map (stAt c t)).map BL)
      unfold states
      rw [hii] at this ⊢
      exact .stop hO hm this (by simp) ⟨by rw [← hii]; exact wrap_succ (by omega), decide_eq_false (by rw [List.length_map]; omega)⟩
    | succ d ih =>
      intro i hd hi
      have hlt : i < t.ins.length := by omega
      have ha := after hg (stAt_len k i) (inp_len k hlt)
      have hl : (((List.range (i + 1)).map (stAt c t)).map BL).length = i + 1 := by simp
      have hge : (((List.range (i + 1)).map (stAt c t)).map BL)[i]? = some (BL (stAt c t i)) := by
        rw [List.getElem?_map, List.getElem?_map, List.getElem?_range (by omega)]; rfl
      refine .step hO hm (l1 c t i (stAt c t i) (stAt c t (i + 1)) _) ⟨wrap_succ (by omega), decide_eq_true (by rw [List.length_map]; omega), ⟨rfl, by rw [hl]; omega⟩, hge, ⟨rfl, get_map BL t.ins i hlt⟩, ha, Nat.le_trans (show _ ≤ 2000 by rw [hl]; simp; omega) (by decide), wrap_succ (by omega)⟩ ?_
      have := ih (i + 1) (by omega) (by omega)
      rw [List.range_succ, List.map_append, List.map_append] at this
      exact this
  exact key (t.ins.length - 1) 0 rfl (by omega)
theorem allR (ht : Tw t) : ICall Tryz.prog 81 [.d c.d, .d t.d] [] (.d (.sl ((states c t).map BL))) [] := by
  have hl := all_loop k
  have h1 := ht.first
  have := callX_ok hO hm (al c t ((states c t).map BL)) ⟨szB _, Nat.le_trans (show _ ≤ 1000000 by rw [List.length_map]; exact h1) (by decide), hl⟩
  exact this.frz rfl
omit k in
theorem st_get {i : Nat} (hi : i < t.ins.length) : (states c t).getD i default = stAt c t i := by
  unfold states; rw [List.getD_eq_getElem?_getD, List.getElem?_map, List.getElem?_range hi]; rfl
theorem allowedR (ht : Tw t) : ICall Tryz.prog 79 [.d c.d, .d t.d] [] (.d (I (right c t : Nat))) [] := by
  have hg := gd k.chk
  have hf := k.few
  have ha := allR k ht
  have hsl : (states c t).length = t.ins.length := by unfold states; simp
  have key : ∀ (d i : Nat), t.ins.length - i = d → i ≤ t.ins.length → right c t = i + ((List.range' i d).takeWhile fun i => holdsS c (stAt c t i) (t.ins.getD i default)).length →
      (right c t < t.ins.length → GoesL Tryz.prog (loopOf Tryz.prog 79 0) (Hp c t (states c t) [(6, .d (I i))]) .ret (Rp c t (right c t : Nat))) ∧
      (¬ right c t < t.ins.length → right c t = t.ins.length ∧ GoesL Tryz.prog (loopOf Tryz.prog 79 0) (Hp c t (states c t) [(6, .d (I i))]) (.exit 0) (Hp c t (states c t) [])) := by
    intro d
    induction d with
    | zero =>
      intro i hd hi e
      obtain rfl : i = t.ins.length := by omega
      have e : right c t = t.ins.length := by simpa using e
      exact ⟨fun h => absurd h (by omega), fun _ => ⟨e, .stop hO hm (p3 c t t.ins.length (states c t)) (by simp) (decide_eq_false (by rw [List.length_map]; omega))⟩⟩
    | succ d ih =>
      intro i hd hi e
      have hlt : i < t.ins.length := by omega
      have hh := holds hg (stAt_len k i) (inp_len k hlt)
      rw [← st_get hlt] at hh
      have q0 : decide ((i : Int) < ((((states c t).map BL).length : Nat) : Int)) = true := decide_eq_true (by rw [List.length_map]; omega)
      rw [List.range'_succ, List.takeWhile_cons] at e
      cases hv : holdsS c (stAt c t i) (t.ins.getD i default) with
      | true =>
        rw [hv, if_pos rfl, List.length_cons] at e
        rw [st_get hlt, hv, ← st_get hlt] at hh
        have go : ∀ e' s, GoesL Tryz.prog (loopOf Tryz.prog 79 0) (Hp c t (states c t) [(6, .d (I (i + 1 : Nat)))]) e' s → GoesL Tryz.prog (loopOf Tryz.prog 79 0) (Hp c t (states c t) [(6, .d (I i))]) e' s :=
          fun e' s h => .step hO hm (p2 c t i (states c t)) ⟨q0, ⟨rfl, get_map BL (states c t) i (by omega)⟩, ⟨rfl, get_map BL t.ins i hlt⟩, hh, rfl, wrap_succ (by omega)⟩ h
        obtain ⟨i1, i2⟩ := ih (i + 1) (by omega) (by omega) (by omega)
        exact ⟨fun h => go _ _ (i1 h), fun h => ⟨(i2 h).1, go _ _ (i2 h).2⟩⟩
      | false =>
        rw [hv, if_neg (by simp)] at e
        rw [st_get hlt, hv, ← st_get hlt] at hh
        have e : right c t = i := by simpa using e
        refine ⟨fun _ => ?_, fun h => absurd h (by omega)⟩
        rw [e]
        exact .stop hO hm (p1 c t i (states c t)) (by simp) ⟨q0, ⟨rfl, get_map BL (states c t) i (by omega)⟩, ⟨rfl, get_map BL t.ins i hlt⟩, hh, rfl⟩
  obtain ⟨k1, k2⟩ := key t.ins.length 0 rfl (Nat.zero_le _) (by rw [Nat.zero_add, right, List.range_eq_range'])
  by_cases hr : right c t < t.ins.length
  · exact callX_ok hO hm (aw0 c t ((right c t : Nat) : Int) (states c t)) ⟨ha, k1 hr⟩
  · obtain ⟨e, hl⟩ := k2 hr
    have := callX_ok hO hm (aw1 c t (states c t)) ⟨ha, hl⟩
    rw [List.length_map, hsl, ← e] at this
    exact this
end
theorem sameAll (ls l2 : List (List Bool)) (h1 : ls.length ≤ 1000000) (h2 : l2.length ≤ 1000000) (h3 : ∀ l ∈ ls, l.length ≤ 1000000) (h4 : ∀ l ∈ l2, l.length ≤ 1000000) :
    ICall Tryz.prog 28 [.d (.sl (ls.map BL)), .d (.sl (l2.map BL))] [] (.d (.bool (decide (ls = l2)))) [] := by
  by_cases c0 : ls.length ≠ l2.length
  · rw [decide_eq_false (fun e => c0 (by rw [e]))]
    exact callX_ok hO hm (sa0 ls l2) (bne_iff_ne.2 (fun hh => c0 (by rw [List.length_map, List.length_map] at hh; omega)))
  have c0 := Decidable.not_not.1 c0
  have d0 : ((((ls.map BL).length : Nat) : Int) != (((l2.map BL).length : Nat) : Int)) = false := by rw [List.length_map, List.length_map, c0]; simp
  have key := any_ix (c := loopOf Tryz.prog 28 0) ls (fun i => Ho ls l2 [(5, .d (I i))]) .ret (.exit 0) Ro (Ho ls l2 []) (fun i b => !decide (b = l2.getD i default))
    (fun i hi hb => by
      have hs := same (ls.getD i default) (l2.getD i default) (h3 _ (mem_getD hi)) (h4 _ (mem_getD (by omega)))
      rw [Bool.not_eq_true'] at hb
      rw [hb] at hs
      exact .stop hO hm (o1 i ls l2) (by simp) ⟨decide_eq_true (by rw [List.length_map]; omega), ⟨rfl, get_map BL ls i hi⟩, ⟨rfl, get_map BL l2 i (by omega)⟩, hs, rfl⟩)
    (fun i hi hb e s hh => by
      have hs := same (ls.getD i default) (l2.getD i default) (h3 _ (mem_getD hi)) (h4 _ (mem_getD (by omega)))
      rw [Bool.not_eq_false'] at hb
      rw [hb] at hs
      exact .step hO hm (o2 i ls l2) ⟨decide_eq_true (by rw [List.length_map]; omega), ⟨rfl, get_map BL ls i hi⟩, ⟨rfl, get_map BL l2 i (by omega)⟩, hs, rfl, wrap_succ (by omega)⟩ hh)
    (.stop hO hm (o3 ls.length ls l2) (by simp) (decide_eq_false (by rw [List.length_map]; omega))) ls.length 0 rfl (Nat.zero_le _)
  rw [List.drop_zero] at key
  cases hh : anyIx (fun i b => !decide (b = l2.getD i default)) ls 0 with
  | true =>
    have hne : ls ≠ l2 := by
      intro e
      have : ∀ (l : List (List Bool)) (i : Nat), (∀ j, j < l.length → l.getD j default = l2.getD (i + j) default) → anyIx (fun i b => !decide (b = l2.getD i default)) l i = false := by
        intro l
        induction l with
        | nil => intro i _; rfl
        | cons x r ih =>
          intro i hl
          rw [anyIx, ih (i + 1) (fun j hj => by have := hl (j + 1) (by simpa using hj); rw [List.getD_cons_succ] at this; rw [this]; congr 1; omega)]
          have := hl 0 (by simp)
          rw [List.getD_cons_zero] at this
          rw [this]; simp
      have := this ls 0 (fun j _ => by rw [e, Nat.zero_add])
      rw [hh] at this; cases this
    rw [decide_eq_false hne]
    exact callX_ok hO hm (sa1 ls l2) ⟨d0, key.1 hh⟩
  | false =>
    have he : ls = l2 := by
      refine List.ext_getElem c0 fun j h1 h2 => ?_
      have := anyIx_at (fun i b => !decide (b = l2.getD i default)) ls 0 hh j h1
      simp only [Nat.zero_add, Bool.not_eq_false', decide_eq_true_eq] at this
      rw [this, List.getD_eq_getElem?_getD, List.getElem?_eq_getElem h2]; rfl
    rw [decide_eq_true he]
    exact callX_ok hO hm (sa2 ls l2) ⟨d0, key.2 hh⟩
theorem tr_eq (t u : Tr) : t = u ↔ t.first = u.first ∧ t.ins = u.ins := by cases t; cases u; simp
theorem sameT (t u : Tr) (ht : Tw t) (hu : Tw u) : ICall Tryz.prog 9 [.d t.d, .d u.d] [] (.d (.bool (decide (t.first = u.first) && decide (t.ins = u.ins)))) [] := by
  have h1 := same t.first u.first ht.first hu.first
  have h2 := sameAll t.ins u.ins ht.ins hu.ins ht.each hu.each
  cases c1 : decide (t.first = u.first) with
  | true => rw [c1] at h1; exact callX_ok hO hm (sx1 t u _) ⟨h1, h2⟩
  | false => rw [c1] at h1; exact callX_ok hO hm (sx0 t u) h1
/-- Is a run great? -/
def great6 (t : Tr) : Bool := decide (t.first.length > 60) || ((decide (t.ins.length > 20) && decide (t.ins.length ≠ 101)) || t.ins.any (fun l => decide (l.length > 60)))
theorem greatT (t : Tr) (hi : t.ins.length ≤ 9223372036854775807) : ICall Tryz.prog 10 [.d t.d] [] (.d (.bool (great6 t))) [] := by
  have key := any_loop (c := loopOf Tryz.prog 10 0) t.ins (fun i => Hy t [(3, .d (I i))]) .ret (.exit 0) (Ry t) (Hy t []) (fun l => decide (l.length > 60))
    (fun i hi hb => .stop hO hm (gr1 t i) (by simp) ⟨decide_eq_true (by rw [List.length_map]; omega), ⟨rfl, get_map BL t.ins i hi⟩, decide_eq_true (by rw [List.length_map]; have := of_decide_eq_true hb; omega)⟩)
    (fun i hi hb e s hh => .step hO hm (gr2 t i) ⟨decide_eq_true (by rw [List.length_map]; omega), ⟨rfl, get_map BL t.ins i hi⟩, decide_eq_false (by rw [List.length_map]; have := of_decide_eq_false hb; omega), wrap_succ (by omega)⟩ hh)
    (.stop hO hm (gr3 t t.ins.length) (by simp) (decide_eq_false (by rw [List.length_map]; omega))) t.ins.length 0 rfl (Nat.zero_le _)
  rw [List.drop_zero] at key
  have e1 : decide ((((t.first.map D.bool).length : Nat) : Int) > 60) = decide (t.first.length > 60) := by rw [List.length_map]; exact decide_eq_decide.2 (by omega)
  have e2 : decide ((((t.ins.map BL).length : Nat) : Int) > 20) = decide (t.ins.length > 20) := by rw [List.length_map]; exact decide_eq_decide.2 (by omega)
  have e3 : ((((t.ins.map BL).length : Nat) : Int) != 101) = decide (t.ins.length ≠ 101) := by
    rw [List.length_map, Bool.eq_iff_iff, bne_iff_ne, decide_eq_true_eq]; omega
  unfold great6
  cases c1 : decide (t.first.length > 60) with
  | true => rw [Bool.true_or]; exact callX_ok hO hm (g1 t) (e1.trans c1)
  | false =>
  rw [Bool.false_or]
  cases c2 : decide (t.ins.length > 20) with
  | true =>
    rw [Bool.true_and]
    cases c3 : decide (t.ins.length ≠ 101) with
    | true => rw [Bool.true_or]; exact callX_ok hO hm (g2 t) ⟨e1.trans c1, e2.trans c2, e3.trans c3⟩
    | false =>
      rw [Bool.false_or]
      cases c4 : t.ins.any (fun l => decide (l.length > 60)) with
      | true => exact callX_ok hO hm (g3 t) ⟨e1.trans c1, e2.trans c2, e3.trans c3, key.1 c4⟩
      | false => exact callX_ok hO hm (g5 t) ⟨e1.trans c1, e2.trans c2, e3.trans c3, key.2 c4⟩
  | false =>
    rw [Bool.false_and, Bool.false_or]
    cases c4 : t.ins.any (fun l => decide (l.length > 60)) with
    | true => exact callX_ok hO hm (g4 t) ⟨e1.trans c1, e2.trans c2, key.1 c4⟩
    | false => exact callX_ok hO hm (g6 t) ⟨e1.trans c1, e2.trans c2, key.2 c4⟩
theorem small6 {t : Tr} (h : great6 t = false) : t.first.length ≤ 60 ∧ t.ins.length ≤ 101 ∧ ∀ l ∈ t.ins, l.length ≤ 60 := by
  unfold great6 at h
  rw [Bool.or_eq_false_iff, Bool.or_eq_false_iff, decide_eq_false_iff_not, Bool.and_eq_false_iff, decide_eq_false_iff_not, decide_eq_false_iff_not] at h
  obtain ⟨h1, h2, h3⟩ := h
  refine ⟨by omega, by omega, fun l hl => ?_⟩
  have := List.any_eq_false.1 h3 l hl
  rw [decide_eq_true_eq] at this
  omega
end Go.Proofs.YtccejdncpknbaaaGreatDoor.Sy.Rf
/- ref11: Digits, Text, Shown, Check, Write, whole. -/
namespace Go.Proofs.YtccejdncpknbaaaGreatDoor.Sy.Rf
open Go Go.Proofs.YtccejdncpknbaaaGreatDoor.Ab Go.Proofs.YtccejdncpknbaaaGreatDoor.Sy Go.Proofs.YtccejdncpknbaaaGreatDoor.Sy.Tx Go.Proofs.YtccejdncpknbaaaGreatDoor.Sy.Vl Go.Proofs.YtccejdncpknbaaaGreatDoor.Sy.Tc Go.Proofs.YtccejdncpknbaaaGreatDoor.Sy.Wi
set_option maxRecDepth 1000000
set_option linter.unusedVariables false
set_option linter.unusedSimpArgs false
section
variable {c : Ci} {t : Tr}
theorem shownR (k : Ok c t) (ht : Tw t) (n : Int) (h0 : ¬ n < 0) (h1 : ¬ n ≥ (c.bads.length : Int)) : ICall Tryz.prog 59 [.d c.d, .d t.d, .d (I n)] [] (.d (.bool (shown c t n.toNat))) [] := by
  have hg := gd k.chk
  have hf := k.few
  have hsm := k.some
  have hz := hg.sz
  have hin := hg.ins
  have ha := allowedR k ht
  have hti := ht.ins
  unfold shown
  by_cases c1 : ((right c t : Nat) : Int) < (((t.ins.map BL).length : Nat) : Int)
  · rw [decide_eq_false (by rw [List.length_map] at c1; omega), Bool.false_and]
    exact callX_ok hO hm (sh0 c t n _) ⟨ha, decide_eq_true c1⟩
  · rw [decide_eq_true (by rw [List.length_map] at c1; omega), Bool.true_and]
    have hlt : t.ins.length - 1 < t.ins.length := by omega
    have hl : (t.ins.map BL).length = t.ins.length := List.length_map _
    have e2 : ((((t.ins.map BL).length : Nat) : Int) - 1).toNat = t.ins.length - 1 := by rw [hl]; omega
    have hsl : (states c t).length = t.ins.length := by unfold states; simp
    have hal := allR k ht
    have hfr := frameR hg (stAt_len k (t.ins.length - 1)) (inp_len k hlt)
    rw [← st_get hlt, ← e2] at hfr
    have hn : n.toNat < c.bads.length := by omega
    have hb := hg.bads _ (mem_getD hn)
    have hfl := frame_len c (stAt c t (t.ins.length - 1)) (t.ins.getD (t.ins.length - 1) default)
    have h1 := stAt_len k (t.ins.length - 1)
    have h2 := inp_len k hlt
    have hv := value (v := frame c (stAt c t (t.ins.length - 1)) (t.ins.getD (t.ins.length - 1) default)) (l := c.bads.getD n.toNat default) (by omega) (by omega) (by omega)
    have eb : (badsS c (stAt c t (t.ins.length - 1)) (t.ins.getD (t.ins.length - 1) default)).getD n.toNat default = val (frame c (stAt c t (t.ins.length - 1)) (t.ins.getD (t.ins.length - 1) default)) (c.bads.getD n.toNat default) := by
      unfold badsS
      have e1 : c.bads.getD n.toNat default = c.bads[n.toNat] := by rw [List.getD_eq_getElem?_getD, List.getElem?_eq_getElem hn]; rfl
      rw [e1, List.getD_eq_getElem?_getD (l := c.bads.map _), List.getElem?_map, List.getElem?_eq_getElem hn]; rfl
    rw [eb]
    rw [← st_get hlt, ← e2] at hv
    have es : (states c t).getD (t.ins.length - 1) default = stAt c t (t.ins.length - 1) := st_get hlt
    rw [← es, ← e2]
    have q1 : IntKind.i64.wrap ((((t.ins.map BL).length : Nat) : Int) - 1) = (((t.ins.map BL).length : Nat) : Int) - 1 := wrap_id (by omega) (by omega)
    have l := sh1 c t n ((right c t : Nat) : Int) (frame c ((states c t).getD ((((t.ins.map BL).length : Nat) : Int) - 1).toNat default) (t.ins.getD ((((t.ins.map BL).length : Nat) : Int) - 1).toNat default)) (val (frame c ((states c t).getD ((((t.ins.map BL).length : Nat) : Int) - 1).toNat default) (t.ins.getD ((((t.ins.map BL).length : Nat) : Int) - 1).toNat default)) (c.bads.getD n.toNat default)) (states c t)
    exact callX_ok hO hm l ⟨ha, decide_eq_false c1, hal, q1, ⟨by omega, get_map BL (states c t) _ (by rw [e2, hsl]; exact hlt)⟩, q1, ⟨by omega, get_map BL t.ins _ (by rw [e2]; exact hlt)⟩, hfr, ⟨by omega, get_map I c.bads n.toNat hn⟩, hv⟩
variable (h : Cw c) (ht : Tw t)
include h ht
theorem wcheckR (n : Int) : ICall Tryz.prog 26 [.d c.d, .d t.d, .d (I n)] [] (.d (I (wtChk c t n))) [] := by
  have hc := checkR h ht
  unfold wtChk
  by_cases c0 : trChk c t ≠ 0
  · rw [if_pos c0]; exact callX_ok hO hm (wk0 c t n (trChk c t)) ⟨hc, bne_iff_ne.2 c0, hc⟩
  rw [if_neg c0]
  have c0 := Decidable.not_not.1 c0
  rw [c0] at hc
  by_cases c1 : n < 0
  · rw [if_pos c1]; exact callX_ok hO hm (wk1 c t n) ⟨hc, rfl, decide_eq_true c1⟩
  rw [if_neg c1]
  by_cases c2 : n ≥ (c.bads.length : Int)
  · rw [if_pos c2]; exact callX_ok hO hm (wk2 c t n) ⟨hc, rfl, decide_eq_false c1, decide_eq_true (by rw [List.length_map]; exact c2)⟩
  rw [if_neg c2]
  have d2 : decide (n ≥ (((c.bads.map I).length : Nat) : Int)) = false := decide_eq_false (by rw [List.length_map]; exact c2)
  have hs := shownR (ok_of c0) ht n c1 c2
  cases c3 : shown c t n.toNat with
  | true => rw [c3] at hs; rw [if_pos rfl]; exact callX_ok hO hm (wk4 c t n) ⟨hc, rfl, decide_eq_false c1, d2, hs, rfl⟩
  | false => rw [c3] at hs; rw [if_neg (by simp)]; exact callX_ok hO hm (wk3 c t n) ⟨hc, rfl, decide_eq_false c1, d2, hs, rfl⟩
omit h ht in
theorem wr_ok {n : Int} (hz : wtChk c t n = 0) : trChk c t = 0 ∧ 0 ≤ n ∧ n < (c.bads.length : Int) := by
  unfold wtChk at hz
  by_cases c0 : trChk c t ≠ 0
  · rw [if_pos c0] at hz; exact absurd hz c0
  rw [if_neg c0] at hz
  by_cases c1 : n < 0
  · rw [if_pos c1] at hz; cases hz
  rw [if_neg c1] at hz
  by_cases c2 : n ≥ (c.bads.length : Int)
  · rw [if_pos c2] at hz; cases hz
  exact ⟨Decidable.not_not.1 c0, by omega, by omega⟩
end
end Go.Proofs.YtccejdncpknbaaaGreatDoor.Sy.Rf
