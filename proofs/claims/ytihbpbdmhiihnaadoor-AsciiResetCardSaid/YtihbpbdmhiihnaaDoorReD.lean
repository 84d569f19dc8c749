/- Texts of this claim, one behind the other: Words for walks on symbols. .. -/
import Derived.Test.YtihbpbdmhiihnaaDoorRows
import Derived.Test.YtihbpbdmhiihnaaDoorReC
import Derived.WalkKit
import Derived.Shelf.Strings.Builder1
import Derived.Shelf.LaysM
import Derived.Shelf.Strconv.Itoa3
import Derived.Test.YtihbpbdmhiihnaaDoorProg
import Derived.Deep.Slices
import Derived.ProofKit
import Derived.OpenShut
import Derived.ShutString
import Derived.Below
import Derived.RowKit
import Derived.ChangeOld
import Derived.SizedLaws
import Derived.RowKit3
import Derived.LaidMore
import Derived.Lay
import Derived.MakeChecks
import Derived.Stop.LaidErr
import Derived.Lib.LaidTab
import Derived.Lib.ItoaLen
/- Words for walks on symbols. -/
namespace Go.Proofs.YtihbpbdmhiihnaaDoor.Sy
open Go Go.Proofs.YtihbpbdmhiihnaaDoor.Ab
set_option maxRecDepth 1000000
/-- No function writes what it gets as plain data. -/
def wr : Nat → Bool := fun _ => false
/-- No call is known but by what is told. -/
def O : Orc := fun _ _ _ => none
theorem hO : OrcOk Tryd.prog O := fun _ _ _ _ _ h => by cases h
theorem hm : Tryd.prog.follows .mixedOrders = true := by kernel_rfl
def I (n : Int) : D := .int .i64 n
def L (l : List Int) : D := .sl (l.map I)

theorem get_map {α : Type} [Inhabited α] (f : α → D) (l : List α) (i : Nat) (h : i < l.length) : (l.map f)[i]? = some (f (l.getD i default)) := by
  rw [List.getElem?_map, List.getElem?_eq_getElem h, List.getD_eq_getElem?_getD, List.getElem?_eq_getElem h]; rfl
theorem drop_getD {α : Type} [Inhabited α] (l : List α) (i : Nat) (h : i < l.length) : l.drop i = l.getD i default :: l.drop (i + 1) := by
  rw [List.drop_eq_getElem_cons h, List.getD_eq_getElem?_getD, List.getElem?_eq_getElem h]; rfl
theorem wrap_id {n : Int} (h1 : -9223372036854775808 ≤ n) (h2 : n ≤ 9223372036854775807) : IntKind.i64.wrap n = n := by
  rw [IntKind.wrap_i64]; omega
theorem wrap_succ {i : Nat} (h : i < 9223372036854775807) : IntKind.i64.wrap ((i : Int) + 1) = ((i + 1 : Nat) : Int) := by
  rw [wrap_id (by omega) (by omega)]; rfl

/-! ### loops over a list -/
section
variable {α σ : Type} [Inhabited α] {c : Code}
/-- Each element in its turn, to the end. -/
theorem fold_loop (xs : List α) (H : Nat → σ → St) (E : σ → St) (e0 : Ex) (step : σ → α → σ) (Inv : Nat → σ → Prop)
    (hs : ∀ i acc, i < xs.length → Inv i acc → Inv (i + 1) (step acc (xs.getD i default)) ∧ ∀ e s, GoesL Tryd.prog c (H (i + 1) (step acc (xs.getD i default))) e s → GoesL Tryd.prog c (H i acc) e s)
    (he : ∀ acc, Inv xs.length acc → GoesL Tryd.prog c (H xs.length acc) e0 (E acc)) (d : Nat) : ∀ i acc, xs.length - i = d → i ≤ xs.length → Inv i acc →
      GoesL Tryd.prog c (H i acc) e0 (E ((xs.drop i).foldl step acc)) := by
  induction d with
  | zero =>
    intro i acc hd hi hI
    obtain rfl : i = xs.length := by omega
    rw [List.drop_length]
    exact he acc hI
  | succ d ih =>
    intro i acc hd hi hI
    obtain ⟨h1, h2⟩ := hs i acc (by omega) hI
    rw [drop_getD xs i (by omega), List.foldl_cons]
    exact h2 _ _ (ih (i + 1) _ (by omega) (by omega) h1)

/-- Each element in its turn, until one is bad. -/
theorem any_loop (xs : List α) (H : Nat → St) (eb e0 : Ex) (B E : St) (bad : α → Bool)
    (hb : ∀ i, i < xs.length → bad (xs.getD i default) = true → GoesL Tryd.prog c (H i) eb B)
    (hs : ∀ i, i < xs.length → bad (xs.getD i default) = false → ∀ e s, GoesL Tryd.prog c (H (i + 1)) e s → GoesL Tryd.prog c (H i) e s)
    (he : GoesL Tryd.prog c (H xs.length) e0 E) (d : Nat) : ∀ i, xs.length - i = d → i ≤ xs.length →
      ((xs.drop i).any bad = true → GoesL Tryd.prog c (H i) eb B) ∧ ((xs.drop i).any bad = false → GoesL Tryd.prog c (H i) e0 E) := by
  induction d with
  | zero =>
    intro i hd hi
    obtain rfl : i = xs.length := by omega
    rw [List.drop_length]
    exact ⟨fun h => by simp at h, fun _ => he⟩
  | succ d ih =>
    intro i hd hi
    obtain ⟨i1, i2⟩ := ih (i + 1) (by omega) (by omega)
    rw [drop_getD xs i (by omega), List.any_cons]
    cases hx : bad (xs.getD i default) with
    | true => exact ⟨fun _ => hb i (by omega) hx, fun h => by simp at h⟩
    | false => exact ⟨fun h => hs i (by omega) hx _ _ (i1 (by simpa using h)), fun h => hs i (by omega) hx _ _ (i2 (by simpa using h))⟩
end

section
variable {α : Type} [Inhabited α] {c : Code}
/-- Until one is bad: where it stands is told. -/
theorem any_at (xs : List α) (H : Nat → St) (e0 : Ex) (R : Nat → St) (E : St) (bad : α → Bool)
    (hb : ∀ i, i < xs.length → bad (xs.getD i default) = true → GoesL Tryd.prog c (H i) .ret (R i))
    (hs : ∀ i, i < xs.length → bad (xs.getD i default) = false → ∀ e s, GoesL Tryd.prog c (H (i + 1)) e s → GoesL Tryd.prog c (H i) e s)
    (he : GoesL Tryd.prog c (H xs.length) e0 E) (d : Nat) : ∀ i, xs.length - i = d → i ≤ xs.length →
      ((xs.drop i).any bad = true → ∃ j, GoesL Tryd.prog c (H i) .ret (R j)) ∧ ((xs.drop i).any bad = false → GoesL Tryd.prog c (H i) e0 E) := by
  induction d with
  | zero =>
    intro i hd hi
    obtain rfl : i = xs.length := by omega
    rw [List.drop_length]
    exact ⟨fun h => by simp at h, fun _ => he⟩
  | succ d ih =>
    intro i hd hi
    obtain ⟨i1, i2⟩ := ih (i + 1) (by omega) (by omega)
    rw [drop_getD xs i (by omega), List.any_cons]
    cases hx : bad (xs.getD i default) with
    | true => exact ⟨fun _ => ⟨i, hb i (by omega) hx⟩, fun h => by simp at h⟩
    | false => exact ⟨fun h => let ⟨j, hj⟩ := i1 (by simpa using h); ⟨j, hs i (by omega) hx _ _ hj⟩, fun h => hs i (by omega) hx _ _ (i2 (by simpa using h))⟩
end

def anyIx {α : Type} (f : Nat → α → Bool) : List α → Nat → Bool
  | [], _ => false
  | x :: r, i => f i x || anyIx f r (i + 1)
section
variable {α : Type} [Inhabited α] {c : Code}
/-- Each element with its index, until one is bad. -/
theorem any_ix (xs : List α) (H : Nat → St) (eb e0 : Ex) (B E : St) (bad : Nat → α → Bool)
    (hb : ∀ i, i < xs.length → bad i (xs.getD i default) = true → GoesL Tryd.prog c (H i) eb B)
    (hs : ∀ i, i < xs.length → bad i (xs.getD i default) = false → ∀ e s, GoesL Tryd.prog c (H (i + 1)) e s → GoesL Tryd.prog c (H i) e s)
    (he : GoesL Tryd.prog c (H xs.length) e0 E) (d : Nat) : ∀ i, xs.length - i = d → i ≤ xs.length →
      (anyIx bad (xs.drop i) i = true → GoesL Tryd.prog c (H i) eb B) ∧ (anyIx bad (xs.drop i) i = false → GoesL Tryd.prog c (H i) e0 E) := by
  induction d with
  | zero =>
    intro i hd hi
    obtain rfl : i = xs.length := by omega
    rw [List.drop_length]
    exact ⟨fun h => by simp [anyIx] at h, fun _ => he⟩
  | succ d ih =>
    intro i hd hi
    obtain ⟨i1, i2⟩ := ih (i + 1) (by omega) (by omega)
    rw [drop_getD xs i (by omega), anyIx]
    cases hx : bad i (xs.getD i default) with
    | true => exact ⟨fun _ => hb i (by omega) hx, fun h => by simp at h⟩
    | false => exact ⟨fun h => hs i (by omega) hx _ _ (i1 (by simpa using h)), fun h => hs i (by omega) hx _ _ (i2 (by simpa using h))⟩
end

/-- A definition, a raw circuit, as data. -/
structure Df where
  lit : Int
  a : Int
  b : Int
  deriving Inhabited
def Df.d (x : Df) : D := .agg [I x.lit, I x.a, I x.b]
structure Rw where
  most : Int
  ins : List Int
  lats : List Df
  ands : List Df
  bads : List Int
  cons : List Int
def Rw.d (r : Rw) : D := .agg [I r.most, L r.ins, .sl (r.lats.map Df.d), .sl (r.ands.map Df.d), L r.bads, L r.cons]
/-- A variable that holds it. -/
def Rw.box (r : Rw) : B := .box [.d (I r.most), .d (L r.ins), .d (.sl (r.lats.map Df.d)), .d (.sl (r.ands.map Df.d)), .d (L r.bads), .d (L r.cons)]
structure Lt where
  next : Int
  reset : Int
  deriving Inhabited
def Lt.d (x : Lt) : D := .agg [I x.next, I x.reset]
structure An where
  a : Int
  b : Int
  deriving Inhabited
def An.d (x : An) : D := .agg [I x.a, I x.b]
structure Ci where
  ins : Int
  lats : List Lt
  ands : List An
  bads : List Int
  cons : List Int
def Ci.d (c : Ci) : D := .agg [I c.ins, .sl (c.lats.map Lt.d), .sl (c.ands.map An.d), L c.bads, L c.cons]
end Go.Proofs.YtihbpbdmhiihnaaDoor.Sy
/- The facts that contracts of the library ask of this program: printed by wip/tools/shelf.py. -/
namespace Go.Proofs
open Go.Shelf
def Tryd.lays240_ren : Go.Shelf.Ren := ⟨fun | 240 => 50 | 276 => 63 | n => n, fun | 0 => 0 | 1 => 1 | 2 => 2 | 3 => 3 | 4 => 4 | 5 => 5 | 6 => 6 | 7 => 7 | 8 => 8 | 9 => 9 | 10 => 10 | 11 => 11 | 12 => 12 | 13 => 13 | 14 => 14 | 15 => 15 | 16 => 16 | 17 => 17 | 18 => 18 | 19 => 19 | 20 => 20 | 21 => 21 | 28 => 22 | 29 => 77 | 34 => 69 | 37 => 56 | 46 => 103 | 47 => 130 | 51 => 128 | 52 => 131 | 53 => 120 | 54 => 121 | 70 => 55 | 71 => 57 | 72 => 58 | 74 => 59 | 75 => 60 | 76 => 61 | 77 => 62 | 80 => 67 | 81 => 98 | 83 => 83 | 84 => 116 | 111 => 78 | 112 => 118 | 114 => 125 | 127 => 84 | 131 => 99 | 164 => 101 | 165 => 102 | 171 => 119 | 172 => 122 | 173 => 123 | 174 => 124 | 211 => 126 | 212 => 127 | 213 => 129 | 229 => 35 | 232 => 132 | 233 => 133 | 238 => 134 | 239 => 135 | 240 => 136 | 241 => 137 | 242 => 138 | 243 => 139 | 244 => 140 | 245 => 141 | 246 => 142 | 247 => 143 | 248 => 144 | 249 => 145 | n => n, fun | 17 => 0 | 18 => 1 | 19 => 2 | n => n⟩
theorem Tryd.lays240 : Go.Proofs.Lays.n240 Tryd.prog Tryd.lays240_ren := {
  mixed := by kernel_rfl
  f240 := Tryd.func50.trans (congrArg some (by kernel_rfl))
  f276 := Tryd.func63.trans (congrArg some (by kernel_rfl))
  t0 := Tryd.underlying0
  a0 := Tryd.isAgg0
  z0 := Tryd.sizeOf0
  v0 := Tryd.zeroValue0
  t4 := Tryd.underlying4
  a4 := Tryd.isAgg4
  z4 := Tryd.sizeOf4
  v4 := Tryd.zeroValue4
  t9 := Tryd.underlying9
  a9 := Tryd.isAgg9
  z9 := Tryd.sizeOf9
  v9 := Tryd.zeroValue9
  t20 := Tryd.underlying20
  a20 := Tryd.isAgg20
  z20 := Tryd.sizeOf20
  v20 := Tryd.zeroValue20
  t70 := Tryd.underlying55
  a70 := Tryd.isAgg55
  z70 := Tryd.sizeOf55
  v70 := Tryd.zeroValue55
  t72 := Tryd.underlying58
  a72 := Tryd.isAgg58
  z72 := Tryd.sizeOf58
  v72 := Tryd.zeroValue58
  t164 := Tryd.underlying101
  a164 := Tryd.isAgg101
  z164 := Tryd.sizeOf101
  v164 := Tryd.zeroValue101 }
theorem Tryd.X72 : Builder.X72 Tryd.prog Tryd.lays240_ren := {
  sizeBuilder := by kernel_rfl
  liesBuilder := by kernel_rfl }
def Tryd.lays169_ren : Go.Shelf.Ren := ⟨fun | 169 => 27 | n => n, fun | 0 => 0 | 1 => 1 | 2 => 2 | 3 => 3 | 4 => 4 | 5 => 5 | 6 => 6 | 7 => 7 | 8 => 8 | 9 => 9 | 10 => 10 | 11 => 11 | 12 => 12 | 13 => 13 | 14 => 14 | 15 => 15 | 16 => 16 | 17 => 17 | 18 => 18 | 19 => 19 | 20 => 20 | 21 => 21 | 28 => 22 | 29 => 77 | 34 => 69 | 37 => 56 | 46 => 103 | 47 => 130 | 51 => 128 | 52 => 131 | 53 => 120 | 54 => 121 | 70 => 55 | 71 => 57 | 72 => 58 | 74 => 59 | 75 => 60 | 76 => 61 | 77 => 62 | 80 => 67 | 81 => 98 | 83 => 83 | 84 => 116 | 111 => 78 | 112 => 118 | 114 => 125 | 127 => 84 | 131 => 99 | 164 => 101 | 165 => 102 | 171 => 119 | 172 => 122 | 173 => 123 | 174 => 124 | 211 => 126 | 212 => 127 | 213 => 129 | 229 => 35 | 232 => 132 | 233 => 133 | 238 => 134 | 239 => 135 | 240 => 136 | 241 => 137 | 242 => 138 | 243 => 139 | 244 => 140 | 245 => 141 | 246 => 142 | 247 => 143 | 248 => 144 | 249 => 145 | n => n, fun | 17 => 0 | 18 => 1 | 19 => 2 | n => n⟩
theorem Tryd.lays169 : Go.Proofs.Lays.n169 Tryd.prog Tryd.lays169_ren := {
  mixed := by kernel_rfl
  f169 := Tryd.func27.trans (congrArg some (by kernel_rfl))
  t0 := Tryd.underlying0
  a0 := Tryd.isAgg0
  z0 := Tryd.sizeOf0
  v0 := Tryd.zeroValue0
  t3 := Tryd.underlying3
  a3 := Tryd.isAgg3
  z3 := Tryd.sizeOf3
  v3 := Tryd.zeroValue3
  t9 := Tryd.underlying9
  a9 := Tryd.isAgg9
  z9 := Tryd.sizeOf9
  v9 := Tryd.zeroValue9
  t37 := Tryd.underlying56
  a37 := Tryd.isAgg56
  z37 := Tryd.sizeOf56
  v37 := Tryd.zeroValue56
  t70 := Tryd.underlying55
  a70 := Tryd.isAgg55
  z70 := Tryd.sizeOf55
  v70 := Tryd.zeroValue55
  t72 := Tryd.underlying58
  a72 := Tryd.isAgg58
  z72 := Tryd.sizeOf58
  v72 := Tryd.zeroValue58
  t127 := Tryd.underlying84
  a127 := Tryd.isAgg84
  z127 := Tryd.sizeOf84
  v127 := Tryd.zeroValue84 }
theorem Tryd.Extra : Builder.Extra Tryd.prog Tryd.lays169_ren := {
  sizeBuilder := by kernel_rfl
  liesBuilder := by kernel_rfl
  t5 := Tryd.underlying5
  a5 := Tryd.isAgg5
  z5 := Tryd.sizeOf5
  v5 := Tryd.zeroValue5
  infoByte := by kernel_rfl
  cellsByte := by kernel_rfl
  sizeByte := by kernel_rfl
  neB5 := by decide }
def Tryd.laysM171_ren : Go.Shelf.Ren := ⟨fun | 129 => 80 | 171 => 51 | 243 => 64 | 246 => 73 | 283 => 75 | 284 => 76 | 285 => 77 | 286 => 78 | 317 => 79 | 318 => 81 | 319 => 82 | 320 => 83 | 337 => 84 | 338 => 85 | n => n, fun | 0 => 0 | 1 => 1 | 2 => 2 | 3 => 3 | 4 => 4 | 5 => 5 | 6 => 6 | 7 => 7 | 8 => 8 | 9 => 9 | 10 => 10 | 11 => 11 | 12 => 12 | 13 => 13 | 14 => 14 | 15 => 15 | 16 => 16 | 17 => 17 | 18 => 18 | 19 => 19 | 20 => 20 | 21 => 21 | 28 => 22 | 29 => 77 | 34 => 69 | 37 => 56 | 46 => 103 | 47 => 130 | 51 => 128 | 52 => 131 | 53 => 120 | 54 => 121 | 70 => 55 | 71 => 57 | 72 => 58 | 74 => 59 | 75 => 60 | 76 => 61 | 77 => 62 | 80 => 67 | 81 => 98 | 83 => 83 | 84 => 116 | 111 => 78 | 112 => 118 | 114 => 125 | 127 => 84 | 131 => 99 | 164 => 101 | 165 => 102 | 171 => 119 | 172 => 122 | 173 => 123 | 174 => 124 | 211 => 126 | 212 => 127 | 213 => 129 | 229 => 35 | 232 => 132 | 233 => 133 | 238 => 134 | 239 => 135 | 240 => 136 | 241 => 137 | 242 => 138 | 243 => 139 | 244 => 140 | 245 => 141 | 246 => 142 | 247 => 143 | 248 => 144 | 249 => 145 | n => n, fun | 17 => 0 | 18 => 1 | 19 => 2 | n => n⟩
theorem Tryd.laysM171 : Go.Proofs.LaysM.n171 Tryd.prog Tryd.laysM171_ren := {
  mixed := by kernel_rfl
  f129 := Tryd.func80.trans (congrArg some (by kernel_rfl))
  f171 := Tryd.func51.trans (congrArg some (by kernel_rfl))
  f243 := Tryd.func64.trans (congrArg some (by kernel_rfl))
  f246 := Tryd.func73.trans (congrArg some (by kernel_rfl))
  f283 := Tryd.func75.trans (congrArg some (by kernel_rfl))
  f284 := Tryd.func76.trans (congrArg some (by kernel_rfl))
  f285 := Tryd.func77.trans (congrArg some (by kernel_rfl))
  f286 := Tryd.func78.trans (congrArg some (by kernel_rfl))
  f317 := Tryd.func79.trans (congrArg some (by kernel_rfl))
  f318 := Tryd.func81.trans (congrArg some (by kernel_rfl))
  f319 := Tryd.func82.trans (congrArg some (by kernel_rfl))
  f320 := Tryd.func83.trans (congrArg some (by kernel_rfl))
  f337 := Tryd.func84.trans (congrArg some (by kernel_rfl))
  f338 := Tryd.func85.trans (congrArg some (by kernel_rfl))
  t0 := Tryd.underlying0
  a0 := Tryd.isAgg0
  z0 := Tryd.sizeOf0
  v0 := Tryd.zeroValue0
  t2 := Tryd.underlying2
  a2 := Tryd.isAgg2
  z2 := Tryd.sizeOf2
  v2 := Tryd.zeroValue2
  t3 := Tryd.underlying3
  a3 := Tryd.isAgg3
  z3 := Tryd.sizeOf3
  v3 := Tryd.zeroValue3
  t4 := Tryd.underlying4
  a4 := Tryd.isAgg4
  z4 := Tryd.sizeOf4
  v4 := Tryd.zeroValue4
  t5 := Tryd.underlying5
  a5 := Tryd.isAgg5
  z5 := Tryd.sizeOf5
  v5 := Tryd.zeroValue5
  t9 := Tryd.underlying9
  a9 := Tryd.isAgg9
  z9 := Tryd.sizeOf9
  v9 := Tryd.zeroValue9
  t20 := Tryd.underlying20
  a20 := Tryd.isAgg20
  z20 := Tryd.sizeOf20
  v20 := Tryd.zeroValue20
  t37 := Tryd.underlying56
  a37 := Tryd.isAgg56
  z37 := Tryd.sizeOf56
  v37 := Tryd.zeroValue56
  t46 := Tryd.underlying103
  a46 := Tryd.isAgg103
  z46 := Tryd.sizeOf103
  v46 := Tryd.zeroValue103
  t51 := Tryd.underlying128
  a51 := Tryd.isAgg128
  z51 := Tryd.sizeOf128
  v51 := Tryd.zeroValue128
  t53 := Tryd.underlying120
  a53 := Tryd.isAgg120
  z53 := Tryd.sizeOf120
  v53 := Tryd.zeroValue120
  t171 := Tryd.underlying119
  a171 := Tryd.isAgg119
  z171 := Tryd.sizeOf119
  v171 := Tryd.zeroValue119
  t173 := Tryd.underlying123
  a173 := Tryd.isAgg123
  z173 := Tryd.sizeOf123
  v173 := Tryd.zeroValue123
  t212 := Tryd.underlying127
  a212 := Tryd.isAgg127
  z212 := Tryd.sizeOf127
  v212 := Tryd.zeroValue127
  t213 := Tryd.underlying129
  a213 := Tryd.isAgg129
  z213 := Tryd.sizeOf129
  t232 := Tryd.underlying132
  a232 := Tryd.isAgg132
  z232 := Tryd.sizeOf132
  v232 := Tryd.zeroValue132
  t233 := Tryd.underlying133
  a233 := Tryd.isAgg133
  z233 := Tryd.sizeOf133
  v233 := Tryd.zeroValue133
  g17 := by kernel_rfl
  g18 := by kernel_rfl
  g19 := by kernel_rfl
  i0 := by kernel_rfl
  i2 := by kernel_rfl
  i3 := by kernel_rfl
  i4 := by kernel_rfl
  i5 := by kernel_rfl
  i9 := by kernel_rfl
  i20 := by kernel_rfl
  i37 := by kernel_rfl
  i46 := by kernel_rfl
  i51 := by kernel_rfl
  i53 := by kernel_rfl
  i171 := by kernel_rfl
  i173 := by kernel_rfl
  i212 := by kernel_rfl
  i232 := by kernel_rfl
  i233 := by kernel_rfl
  m17 := by kernel_rfl
  m18 := by kernel_rfl
  m19 := by kernel_rfl }
end Go.Proofs
/- Calls of the library that are known by the library's contracts: strconv.Itoa, (*strings.Builder).copyCheck and String. -/
namespace Go.Proofs.YtihbpbdmhiihnaaDoor.Sy.Str
open Go Go.Shelf Go.RowKit Go.Proofs.YtihbpbdmhiihnaaDoor.Ab Go.Proofs.YtihbpbdmhiihnaaDoor.Sy
set_option maxRecDepth 1000000
set_option linter.unusedVariables false
set_option linter.unusedSimpArgs false
theorem tab_of {w : World} {Pr : Nat → Prop} (h : GOk w Pr) : Lib.TabIs Tryd.prog w "internal/strconv.uint64pow10" .u64 Lib.pow10Tab := by
  obtain ⟨_, e, fz, h3⟩ := h.2 _ (List.mem_singleton.2 rfl)
  have hg : Tryd.prog.globalNamed "internal/strconv.uint64pow10" = some 0 := by kernel_rfl
  unfold Lib.TabIs World.var?
  rw [hg, Option.bind_some, h3]
  rfl
theorem one_arg {w : World} {Pr : Nat → Prop} {vw : Nat → Option VW} {a : V} {vs : List Value} (h : All2 (VRel Tryd.prog w Pr vw) [a] vs) : ∃ v, vs = [v] ∧ VRel Tryd.prog w Pr vw a v := by
  cases vs with
  | nil => exact h.elim
  | cons v vs =>
    cases vs with
    | nil => exact ⟨v, rfl, h.1⟩
    | cons u us => exact h.2.elim
theorem str_rel {w : World} {Pr : Nat → Prop} (l : List UInt8) : DRel w Pr (.str l) (.string ⟨l.toArray⟩) := DRel.str ⟨l.toArray⟩
/-- strconv.Itoa: a number's decimal numeral. -/
theorem itoa (n : Int) (h0 : -9223372036854775808 ≤ n) (h1 : n ≤ 9223372036854775807) : ICall Tryd.prog 51 [.d (I n)] [] (.d (.str (Lib.itoa n))) [] := by
  intro w Pr μ vs hS hv
  obtain ⟨v, rfl, hw⟩ := one_arg hv
  rw [drel_int (show DRel w Pr (I n) v from hw)]
  have hc : Calls Tryd.prog 51 #[.int .i64 n] w fun e w' => e = .returned (.string ⟨(Lib.itoa n).toArray⟩) ∧ ∃ k os, w' = Go.Sort.grow (w.drewN k) os := Any.strconv_Itoa Tryd.laysM171 n h0 h1 w (tab_of hS.glob)
  refine Calls.mono hc ?_
  rintro e w' ⟨rfl, k, os, rfl⟩
  have hb : ∀ i, i < w.heap.size → (Go.Sort.grow (w.drewN k) os).heap[i]? = w.heap[i]? := fun i hi => Go.Sort.heap_grow_old (w.drewN k) os hi
  have hsz : w.heap.size ≤ (Go.Sort.grow (w.drewN k) os).heap.size := by simp [Go.Sort.grow, World.drewN]
  refine ⟨_, μ, Pr, rfl, ⟨hS.mu, fun id b c hb1 hc1 => ?_, hS.nodup, fun b hm => ⟨Nat.lt_of_lt_of_le (hS.lt b hm).1 hsz, (hS.lt b hm).2⟩, fun b hm => Nat.lt_of_lt_of_le (hS.pr b hm) hsz, hS.glob.mono (fun _ h => h) (fun b hm => hb b (hS.pr b hm))⟩, str_rel _, ⟨rfl, rfl, rfl, hsz, fun i hi _ => hb i hi, fun i hi => .inl hi, fun _ h => h, fun _ h => .inl h⟩, Keep.refl _⟩
  · cases hb1
theorem nodup_ne {b : Nat} {μ : List CB} (h : (owns (.box b :: μ)).Nodup) {id : Nat} {c : CB} (hc : μ[id]? = some c) : ∀ k ∈ c.own, k ≠ b := by
  intro k hk e
  subst e
  have : owns (.box k :: μ) = k :: owns μ := rfl
  rw [this, List.nodup_cons] at h
  exact h.1 (List.mem_flatMap.2 ⟨c, List.mem_of_getElem? hc, hk⟩)
/-- A builder's address, at a box. -/
theorem box_head {bl : List B} {ty : Option Nat} {cs : List V} {w : World} {μ : List CB} {Pr : Nat → Prop} (hS : SRel Tryd.prog (.bx ty cs :: bl) w μ Pr) :
    ∃ b μ' c e, μ = .box b :: μ' ∧ w.heap[b]? = some (.cells c e (0, 0)) ∧ (∀ t, ty = some t → e = t) ∧ All2 (fun v u => VRel1 Tryd.prog w Pr (view (.bx ty cs :: bl) μ) v u ∧ u.oneCell' = true) cs c.toList := by
  cases μ with
  | nil => have := hS.mu; simp at this
  | cons c0 μ' =>
    have hB := hS.blks 0 _ c0 rfl rfl
    cases c0 with
    | box b => obtain ⟨c, e, h1, h2, h3⟩ := hB; exact ⟨b, μ', c, e, rfl, h1, h2, h3⟩
    | _ => exact hB.elim
theorem ptr0 {bl : List B} {ty : Option Nat} {cs : List V} {w : World} {b : Nat} {μ' : List CB} {Pr : Nat → Prop} {v : Value} (h : VRel1 Tryd.prog w Pr (view (.bx ty cs :: bl) (.box b :: μ')) (.ptr 0 0) v) : v = .pointer (some ⟨b, 0, none⟩) := by
  obtain ⟨b', h1, h2⟩ := h
  have : view (.bx ty cs :: bl) (.box b :: μ') 0 = some (.box b) := rfl
  rw [this] at h1
  cases h1
  exact h2
/-- copyCheck of a builder that has been written. -/
theorem check_used (ty : Option Nat) (cs : List V) (bl : List B) : ICall Tryd.prog 50 [.ptr 0 0] (.bx ty (.ptr 0 0 :: cs) :: bl) (.tup []) (.bx ty (.ptr 0 0 :: cs) :: bl) := by
  intro w Pr μ vs hS hv
  obtain ⟨v, rfl, hw⟩ := one_arg hv
  obtain ⟨b, μ', c, e, rfl, h1, h2, h3⟩ := box_head hS
  obtain rfl := ptr0 (w := w) (Pr := Pr) (show VRel1 _ _ _ _ _ _ from hw)
  have hcell : w.cell? ⟨b, 0, none⟩ = some (.pointer (some ⟨b, 0, none⟩)) := by
    have hc0 : c.toList = c.toList := rfl
    cases hc : c.toList with
    | nil => rw [hc] at h3; exact h3.elim
    | cons u us =>
      rw [hc] at h3
      have hu := ptr0 h3.1.1
      rw [Lib.cell_of_heap h1]
      have : c[0]? = some u := by rw [← Array.getElem?_toList, hc]; rfl
      rw [this, hu]
  have hC : Calls Tryd.prog 50 #[.pointer (some ⟨b, 0, none⟩)] w fun e w' => e = .returned (.tuple #[]) ∧ w' = w := Any.Builder_copyCheck_used Tryd.lays240 Tryd.X72 b w hcell
  refine Calls.mono hC ?_
  rintro e w' ⟨rfl, rfl⟩
  refine ⟨_, _, Pr, rfl, ?_, ⟨[], rfl, trivial⟩, .refl _ _ _, Keep.refl _⟩
  show SRel Tryd.prog ((.bx ty (.ptr 0 0 :: cs) :: bl) ++ []) w' _ Pr
  rw [List.append_nil]; exact hS
/-- copyCheck of a builder that has not: it holds its address behind it. -/
theorem check_fresh (x : V) (bl : List B) : ICall Tryd.prog 50 [.ptr 0 0] (.bx (some 58) [.nilp, x] :: bl) (.tup []) (.bx (some 58) [.ptr 0 0, x] :: bl) := by
  intro w Pr μ vs hS hv
  obtain ⟨v, rfl, hw⟩ := one_arg hv
  obtain ⟨b, μ', c, e, rfl, h1, h2, h3⟩ := box_head hS
  obtain rfl := ptr0 (w := w) (Pr := Pr) (show VRel1 _ _ _ _ _ _ from hw)
  obtain rfl := h2 _ rfl
  obtain ⟨u0, u1, hc⟩ : ∃ u0 u1, c.toList = [u0, u1] := by
    cases hc : c.toList with
    | nil => rw [hc] at h3; exact h3.elim
    | cons u us =>
      rw [hc] at h3
      cases us with
      | nil => exact h3.2.elim
      | cons u' us => cases us with
        | nil => exact ⟨u, u', rfl⟩
        | cons _ _ => exact h3.2.2.elim
  rw [hc] at h3
  obtain ⟨⟨g0, -⟩, ⟨g1, o1⟩, -⟩ := h3
  have g0 : u0 = .pointer none := g0
  subst g0
  have hca : c = #[.pointer none, u1] := by rw [← Array.toArray_toList (xs := c), hc]
  subst hca
  have hcell : w.cell? ⟨b, 0, none⟩ = some (.pointer none) := by rw [Lib.cell_of_heap h1]; rfl
  have hsh : w.shape? b = some (58, 2) := by simp [World.shape?, h1]
  have hfz : w.frozen? ⟨b, 0, none⟩ = false := Lib.frozen_of_heap h1 0
  have hC : Calls Tryd.prog 50 #[.pointer (some ⟨b, 0, none⟩)] w fun e w' => e = .returned (.tuple #[]) ∧ w' = w.setCell ⟨b, 0, none⟩ (.pointer (some ⟨b, 0, none⟩)) := Any.Builder_copyCheck_fresh Tryd.lays240 Tryd.X72 b w hcell hsh hfz
  refine Calls.mono hC ?_
  rintro e w' ⟨rfl, rfl⟩
  have hsz : (w.setCell ⟨b, 0, none⟩ (.pointer (some ⟨b, 0, none⟩))).heap.size = w.heap.size := by simp [World.setCell]
  have ho : ∀ k, k ≠ b → (w.setCell ⟨b, 0, none⟩ (.pointer (some ⟨b, 0, none⟩))).heap[k]? = w.heap[k]? := fun k hk => by
    simp only [World.setCell, Array.getElem?_modify]
    rw [if_neg (fun e => hk e.symm)]
  have hm : (w.setCell ⟨b, 0, none⟩ (.pointer (some ⟨b, 0, none⟩))).heap[b]? = some (.cells #[.pointer (some ⟨b, 0, none⟩), u1] 58 (0, 0)) := by
    simp only [World.setCell, Array.getElem?_modify, if_pos rfl, h1]
    rfl
  have hbo : b ∈ owns (.box b :: μ') := List.mem_flatMap.2 ⟨.box b, by simp, by simp [CB.own]⟩
  have hpw : ∀ k, Pr k → (w.setCell ⟨b, 0, none⟩ (.pointer (some ⟨b, 0, none⟩))).heap[k]? = w.heap[k]? := fun k hk => ho k fun e => (hS.lt b hbo).2 (e ▸ hk)
  have hv1 : ∀ id, view (.bx (some 58) [.ptr 0 0, x] :: bl) (.box b :: μ') id = view (.bx (some 58) [.nilp, x] :: bl) (.box b :: μ') id := fun id => by cases id <;> rfl
  refine ⟨_, .box b :: μ', Pr, rfl, ?_, ⟨[], rfl, trivial⟩, ⟨rfl, rfl, rfl, by rw [hsz]; exact Nat.le_refl _, fun k _ hk => ho k fun e => hk (e ▸ hbo), fun k hk => .inl hk, fun _ h => h, fun _ h => .inl h⟩, Keep.refl _⟩
  show SRel Tryd.prog ((.bx (some 58) [.ptr 0 0, x] :: bl) ++ []) _ _ Pr
  rw [List.append_nil]
  refine ⟨hS.mu, fun id b' c hb hc => ?_, hS.nodup, fun k hk => ⟨by rw [hsz]; exact (hS.lt k hk).1, (hS.lt k hk).2⟩, fun k hk => by rw [hsz]; exact hS.pr k hk, hS.glob.mono (fun _ h => h) hpw⟩
  cases id with
  | zero =>
    cases hb; cases hc
    exact ⟨_, _, hm, fun t ht => by cases ht; rfl, ⟨⟨b, rfl, rfl⟩, rfl⟩, ⟨g1.mono Tryd.prog (fun _ h => h) hpw (fun i hi hne => hv1 i), o1⟩, trivial⟩
  | succ id =>
    exact (hS.blks (id + 1) b' c hb hc).mono Tryd.prog (fun _ h => h) hpw (fun k hk => ho k (nodup_ne hS.nodup (show μ'[id]? = some c from hc) k hk)) (fun i hi hne => hv1 i)
/-- A builder that holds some bytes. -/
def SB (l : List UInt8) : List B := [.bx (some 58) [.ptr 0 0, .arr 1], .lst 5 (l.map u8)]
/-- One that has not been written. -/
def SN : List B := [.bx (some 58) [.nilp, .emp true]]
/-- What a call of WriteString returns. -/
def wrote (s : List UInt8) : V := .tup [.d (I s.length), .d .inil]
theorem szU8 (s : List UInt8) : ∀ y ∈ s.map u8, y.cells.length = (fun x : TypeInfo => x.size) (Tryd.prog.types[5]) := by
  intro y hy
  obtain ⟨b, _, rfl⟩ := List.mem_map.1 hy
  rfl
theorem ws1 (s : List UInt8) : callX Tryd.prog wr false O 25 [.ptr 0 0, .d (.str s)] SN [It.icall [0] (V.tup []) [B.bx (some 58) [V.ptr 0 0, V.emp true]], It.own, It.raw]
  = some (wrote s, SB s, [ICall Tryd.prog 50 [V.ptr 0 0] SN (V.tup []) [B.bx (some 58) [V.ptr 0 0, V.emp true]],
      ∀ y ∈ s.map u8, y.cells.length = (fun x : TypeInfo => x.size) (Tryd.prog.types[5]), (s.map u8).length ≤ maxItems]) := by kernel_rfl
theorem ws2 (s l : List UInt8) : callX Tryd.prog wr false O 25 [.ptr 0 0, .d (.str s)] (SB l) [It.icall [0, 1] (V.tup []) (SB l), It.own, It.raw]
  = some (wrote s, [.bx (some 58) [.ptr 0 0, .arr 1], .lst 5 (l.map u8 ++ s.map u8)], [ICall Tryd.prog 50 [V.ptr 0 0] (SB l) (V.tup []) (SB l),
      ∀ y ∈ s.map u8, y.cells.length = (fun x : TypeInfo => x.size) (Tryd.prog.types[5]), (l.map u8).length + (s.map u8).length ≤ maxItems]) := by kernel_rfl
theorem write1 (s : List UInt8) (h : s.length ≤ 1000000000) : ICall Tryd.prog 25 [.ptr 0 0, .d (.str s)] SN (wrote s) (SB s) :=
  callX_ok hO hm (ws1 s) ⟨check_fresh _ [], szU8 s, Nat.le_trans (by rw [List.length_map]; exact h) (by decide)⟩
theorem write (s l : List UInt8) (h : l.length + s.length ≤ 1000000000) : ICall Tryd.prog 25 [.ptr 0 0, .d (.str s)] (SB l) (wrote s) (SB (l ++ s)) := by
  have := callX_ok hO hm (ws2 s l) ⟨check_used _ _ _, szU8 s, Nat.le_trans (by rw [List.length_map, List.length_map]; exact h) (by decide)⟩
  unfold SB
  rw [List.map_append]
  exact this
/-- String's code, to the world behind it: over any program and any numbering that bear its body. -/
theorem string_run {P : Program} {ρ : Ren} (L : Lays.n169 P ρ) (X : Builder.Extra P ρ) (b g cap : Nat) (p : Value) (cur : Array Value) (l : List UInt8) (w : World) (h0 : l ≠ [])
    (hbk : w.heap[b]? = some (.cells #[p, .slice (some ⟨g, 0, none⟩) l.length cap] (ρ.t 72) (0, 0))) (hg : w.heap[g]? = some (.cells cur (ρ.t 5) (0, 0))) (hnc : l.length ≤ cap) (hcm : cap ≤ maxLen) (hcs : cur.size = cap * 1)
    (hcell : ∀ (j : Nat) (x : UInt8), l[j]? = some x → cur[j]? = some (Value.int .u8 ((x.toNat : Nat) : Int))) :
    Calls P (ρ.f 169) #[.pointer (some ⟨b, 0, none⟩)] w fun e w' => e = .returned (.string ⟨l.toArray⟩) ∧ w' = w.drew.freeze ⟨g, 0, none⟩ l.length := by
  have hl0 : l.length ≠ 0 := by simpa using h0
  have c1 : w.drew.cell? ⟨b, 1, none⟩ = some (.slice (some ⟨g, 0, none⟩) l.length cap) := by
    have : w.drew.heap[b]? = some (.cells #[p, .slice (some ⟨g, 0, none⟩) l.length cap] (ρ.t 72) (0, 0)) := hbk
    rw [Lib.cell_of_heap this]; rfl
  have hSD : (Builtin.unsafeSliceData_ #[(ρ.t 37)] (ρ.t 127) #[.slice (some ⟨g, 0, none⟩) l.length cap]).run P w.drew = .ok (.pointer (some ⟨g, 0, none⟩)) w.drew :=
    Lib.run_unsafeSliceData_row _ _ _ _ _ _ (by omega)
  have hUS : (Builtin.unsafeString_ #[(ρ.t 127), (ρ.t 3)] (ρ.t 9) #[.pointer (some ⟨g, 0, none⟩), .int .i64 l.length]).run P w.drew = .ok (.string ⟨l.toArray⟩) (w.drew.freeze ⟨g, 0, none⟩ l.length) := by
    refine Lib.run_unsafeString_row w.drew (ρ.t 127) (ρ.t 3) (ρ.t 9) (ρ.t 5) L.t127 X.cellsByte g cur.size (by have hg' : w.drew.heap[g]? = some (.cells cur (ρ.t 5) (0, 0)) := hg; simp [World.shape?, hg']) l h0 (by omega) (by unfold maxLen at hcm; omega) ?_
    intro j x hx
    have hg' : w.drew.heap[g]? = some (.cells cur (ρ.t 5) (0, 0)) := hg
    rw [show (⟨g, 0, none⟩ : Addr).add j = ⟨g, j, none⟩ by simp [Addr.add]; intro h; exact h.symm, Lib.cell_of_heap hg']
    exact hcell j x hx
  have mixed := L.mixed
  have t72 := L.t72; have a72 := L.a72; have z72 := L.z72; have v72 := L.v72; have u72 := run_underlying L.t72
  have t70 := L.t70; have a70 := L.a70; have z70 := L.z70; have v70 := L.v70; have u70 := run_underlying L.t70
  have t37 := L.t37; have a37 := L.a37; have z37 := L.z37; have v37 := L.v37; have u37 := run_underlying L.t37
  have t127 := L.t127; have a127 := L.a127; have z127 := L.z127; have v127 := L.v127; have u127 := run_underlying L.t127
  have t3 := L.t3; have a3 := L.a3; have z3 := L.z3; have v3 := L.v3; have u3 := run_underlying L.t3
  have t9 := L.t9; have a9 := L.a9; have z9 := L.z9; have v9 := L.v9; have u9 := run_underlying L.t9
  have t5 := X.t5; have a5 := X.a5; have z5 := X.z5; have v5 := X.v5; have u5 := run_underlying X.t5
  go_enter L.f169, Body.n169_ntmps ρ
  go_wp2
  go_region_o
  all_goals (go_wp2; go_ret; exact ⟨rfl, rfl⟩)
/-- String of a builder that holds some bytes: they are read out; the builder is not used again. -/
theorem string_ok (l : List UInt8) (h0 : l ≠ []) : ICall Tryd.prog 27 [.ptr 0 0] (SB l) (.d (.str l)) [.bx (some 58) [.ptr 0 0, .undef], .dead] := by
  intro w Pr μ vs hS hv
  obtain ⟨v, rfl, hw⟩ := one_arg hv
  obtain ⟨b, μ', c, e, rfl, h1, h2, h3⟩ := box_head hS
  obtain rfl := ptr0 (w := w) (Pr := Pr) (show VRel1 _ _ _ _ _ _ from hw)
  obtain rfl := h2 _ rfl
  obtain ⟨u0, u1, hc⟩ : ∃ u0 u1, c.toList = [u0, u1] := by
    cases hc : c.toList with
    | nil => rw [hc] at h3; exact h3.elim
    | cons u us =>
      rw [hc] at h3
      cases us with
      | nil => exact h3.2.elim
      | cons u' us => cases us with
        | nil => exact ⟨u, u', rfl⟩
        | cons _ _ => exact h3.2.2.elim
  rw [hc] at h3
  obtain ⟨⟨g0, o0⟩, ⟨g1, o1⟩, -⟩ := h3
  obtain rfl := ptr0 g0
  have hca : c = #[.pointer (some ⟨b, 0, none⟩), u1] := by rw [← Array.toArray_toList (xs := c), hc]
  subst hca
  obtain ⟨h, rfl⟩ : ∃ h, μ' = [.lst h] := by
    have hm := hS.mu
    cases μ' with
    | nil => simp [SB] at hm
    | cons c1 μ2 =>
      cases μ2 with
      | cons _ _ => simp [SB] at hm
      | nil =>
        have hB := hS.blks 1 _ c1 rfl rfl
        cases c1 with
        | lst h => exact ⟨h, rfl⟩
        | _ => exact hB.elim
  obtain ⟨wd, cs, k1, k2, k3⟩ := hS.blks 1 _ (.lst h) rfl rfl
  have hwd : wd = 1 := by
    have : szOf Tryd.prog 5 = some 1 := by kernel_rfl
    rw [this] at k1; exact (Option.some.inj k1).symm
  subst hwd
  have hl0 : l.length ≠ 0 := by simpa using h0
  rw [List.length_map] at k2
  -- the list's header
  have hu1 : u1 = hdr h l.length := by
    rcases g1 with ⟨e', n', h', q1, q2⟩ | ⟨s, lens, b', cap, inner, q1, q2⟩
    · have q3 : some (VW.lst 5 (l.map u8).length h) = some (.lst e' n' h') := q1
      cases q3
      rw [q2, List.length_map]
    · have q3 : some (VW.lst 5 (l.map u8).length h) = some (.lst2 s lens b' cap inner) := q1
      cases q3
  subst hu1
  cases h with
  | zero a => exact (hl0 k2.1).elim
  | row g cap =>
  obtain ⟨hlen, k4⟩ := k2
  rcases k4 with ⟨hv0, _⟩ | ⟨g', cap', cur, hv0, _, hg, k5, k6, k7, k8⟩
  · cases hv0
  · simp only [Value.slice.injEq, Option.some.injEq, Addr.mk.injEq] at hv0
    obtain ⟨⟨rfl, -⟩, -, rfl⟩ := hv0
    have hcell : ∀ (j : Nat) (x : UInt8), l[j]? = some x → cur[j]? = some (Value.int .u8 ((x.toNat : Nat) : Int)) := by
      intro j x hx
      have hx' : (l.map u8)[j]? = some (u8 x) := by rw [List.getElem?_map, hx]; rfl
      obtain ⟨u, q1, q2⟩ := (k3.2 j (u8 x) hx').2 0 (u8 x) rfl
      have : u = Value.int .u8 ((x.toNat : Nat) : Int) := drel_int q2
      subst this
      rw [← k8, Nat.mul_one, Nat.mul_one, Nat.add_zero] at q1
      have hj : j < l.length := (List.getElem?_eq_some_iff.1 hx).1
      rw [List.getElem?_take_of_lt hj] at q1
      rw [← Array.getElem?_toList]; exact q1
    have hne : g ≠ b := by
      have hn := hS.nodup
      have : owns [.box b, .lst (.row g cap)] = [b, g] := rfl
      rw [this] at hn
      intro e; subst e; simp at hn
    have hC : Calls Tryd.prog 27 #[.pointer (some ⟨b, 0, none⟩)] w fun e w' => e = .returned (.string ⟨l.toArray⟩) ∧ w' = w.drew.freeze ⟨g, 0, none⟩ l.length :=
      string_run Tryd.lays169 Tryd.Extra b g cap _ cur l w h0 h1 hg k5 k6 k7 hcell
    refine Calls.mono hC ?_
    rintro e w' ⟨rfl, rfl⟩
    have hw' : w.drew.freeze ⟨g, 0, none⟩ l.length = { w.drew with heap := w.heap.modify g fun | .cells c elem (lo, hi) => .cells c elem (if lo == hi then (0, 0 + l.length) else (min lo 0, max hi (0 + l.length))) | o => o } := by
      unfold World.freeze
      rw [if_neg hl0]; rfl
    have hsz : (w.drew.freeze ⟨g, 0, none⟩ l.length).heap.size = w.heap.size := by rw [hw']; simp
    have ho : ∀ k, k ≠ g → (w.drew.freeze ⟨g, 0, none⟩ l.length).heap[k]? = w.heap[k]? := fun k hk => by
      rw [hw']
      simp only [Array.getElem?_modify]
      rw [if_neg (fun e => hk e.symm)]
    have hgo : g ∈ owns [.box b, .lst (.row g cap)] := by simp [owns, CB.own, H.own]
    have hbo : b ∈ owns [.box b, .lst (.row g cap)] := by simp [owns, CB.own, H.own]
    have hpw : ∀ k, Pr k → (w.drew.freeze ⟨g, 0, none⟩ l.length).heap[k]? = w.heap[k]? := fun k hk => ho k fun e => (hS.lt g hgo).2 (e ▸ hk)
    have hown : owns [.box b, .dead] = [b] := rfl
    refine ⟨_, [.box b, .dead], Pr, rfl, ?_, str_rel _, ⟨?_, ?_, ?_, by rw [hsz]; exact Nat.le_refl _, fun k _ hk => ho k fun e => hk (e ▸ hgo), fun k hk => .inl ?_, fun _ h => h, fun _ h => .inl h⟩, ?_⟩
    · refine ⟨rfl, fun id b' c hb hc => ?_, by rw [hown]; simp, fun k hk => ?_, fun k hk => by rw [hsz]; exact hS.pr k hk, hS.glob.mono (fun _ h => h) hpw⟩
      · match id, hb, hc with
        | 0, hb, hc =>
          cases hb; cases hc
          exact ⟨#[.pointer (some ⟨b, 0, none⟩), hdr (.row g cap) l.length], 58, by rw [ho b (fun e => hne e.symm)]; exact h1, fun t ht => by cases ht; rfl, ⟨⟨b, rfl, rfl⟩, rfl⟩, ⟨trivial, o1⟩, trivial⟩
        | 1, hb, hc => cases hb; cases hc; trivial
        | id + 2, hb, hc => cases hc
      · rw [hown] at hk
        rw [List.mem_singleton.1 hk, hsz]
        exact hS.lt b hbo
    · rw [hw']; rfl
    · rw [hw']; rfl
    · rw [hw']; rfl
    · rw [hown] at hk
      rw [List.mem_singleton.1 hk]; exact hbo
    · intro i q hi
      match i, hi with
      | 0, hi => exact hi
      | 1, hi => cases hi
      | i + 2, hi => cases hi
end Go.Proofs.YtihbpbdmhiihnaaDoor.Sy.Str
/- Lists: Grow, Concat, Clone for int. -/
namespace Go.Proofs.YtihbpbdmhiihnaaDoor.Sy.LInt
open Go Go.Proofs.YtihbpbdmhiihnaaDoor.Ab Go.Proofs.YtihbpbdmhiihnaaDoor.Sy
set_option maxRecDepth 1000000
set_option linter.unusedVariables false
theorem sz (l : List Int) : ∀ y : D, y ∈ List.map I l → y.cells.length = 1 := fun y hy => by
  obtain ⟨x, _, rfl⟩ := List.mem_map.1 hy
  rfl
theorem hz : szOf Tryd.prog 3 = some 1 := by kernel_rfl
section
variable (n : Nat) (a c : List Int) (y : Int)
theorem gr1 : callX Tryd.prog wr false O 70 [.emp true, .d (I n)] [] [.br false, .is 0, .is ((n : Int) - 0), .br true, .len n, .raw, .cut 0 0] = some (.own 3 [], [],
  [decide ((n : Int) < 0) = false, IntKind.i64.wrap (0 - ((([] : List D).length : Nat) : Int)) = 0, IntKind.i64.wrap ((n : Int) - 0) = (n : Int) - 0, decide ((n : Int) - 0 > 0) = true, (n : Int) - 0 = ((n : Nat) : Int), n ≤ maxItems,
   ((0 : Nat) : Int) = ((0 : Nat) : Int) ∧ ((([] : List D).length : Nat) : Int) = ((0 : Nat) : Int) ∧ 0 ≤ 0 ∧ 0 ≤ (List.replicate n (D.int .i64 0)).length]) := by kernel_rfl
theorem gr2 : callX Tryd.prog wr false O 70 [.emp true, .d (I n)] [] [.br false, .is 0, .is ((n : Int) - 0), .br false] = some (.emp true, [],
  [decide ((n : Int) < 0) = false, IntKind.i64.wrap (0 - ((([] : List D).length : Nat) : Int)) = 0, IntKind.i64.wrap ((n : Int) - 0) = (n : Int) - 0, decide ((n : Int) - 0 > 0) = false]) := by kernel_rfl
theorem grow (h : n ≤ 1000000) : ICall Tryd.prog 70 [.emp true, .d (I n)] [] (.own 3 []) [] := by
  have w1 : IntKind.i64.wrap ((n : Int) - 0) = (n : Int) - 0 := by rw [wrap_id (by omega) (by omega)]
  have w0 : IntKind.i64.wrap (0 - ((([] : List D).length : Nat) : Int)) = 0 := by rfl
  by_cases hn : 0 < n
  · exact callX_ok hO hm (gr1 n) ⟨decide_eq_false (by omega), w0, w1, decide_eq_true (by omega), by omega, by unfold maxItems; omega, rfl, rfl, by omega, by simp⟩
  · exact (callX_ok hO hm (gr2 n) ⟨decide_eq_false (by omega), w0, w1, decide_eq_false (by omega)⟩).emp_own hz
def Q (a c : List Int) : V := .d (.sl [.sl (a.map I), .sl (c.map I)])
def H (a c : List Int) (s i : Int) : St := ⟨mk 36 [(0, Q a c), (3, .d (I s)), (9, Q a c), (10, .d (I 2)), (11, .d (I i))] [], []⟩
def H2 (a c : List Int) (l : List D) (i : Int) : St := ⟨mk 36 [(6, .arr 0), (25, Q a c), (26, .d (I 2)), (27, .d (I i))] [], [.lst 3 l]⟩
def E2 (l : List D) : St := ⟨mk 36 [(6, .arr 0)] [], [.lst 3 l]⟩
theorem a1 : round Tryd.prog wr false O (loopOf Tryd.prog 57 0) (H a c 0 0) [.br true, .el 0 (.sl (a.map I)), .is ((a.length : Nat) : Int), .br false, .is 1] [0, 3, 9, 10, 11] 0 = some (.normal, H a c ((a.length : Nat) : Int) 1,
  [decide ((0 : Int) < 2) = true, (0 : Int) = ((0 : Nat) : Int) ∧ [D.sl (a.map I), D.sl (c.map I)][0]? = some (.sl (a.map I)), IntKind.i64.wrap (0 + (((a.map I).length : Nat) : Int)) = ((a.length : Nat) : Int), decide (((a.length : Nat) : Int) < 0) = false, IntKind.i64.wrap (0 + 1) = 1]) := by kernel_rfl
theorem a2 : round Tryd.prog wr false O (loopOf Tryd.prog 57 0) (H a c ((a.length : Nat) : Int) 1) [.br true, .el 1 (.sl (c.map I)), .is ((a.length + c.length : Nat) : Int), .br false, .is 2] [0, 3, 9, 10, 11] 0 = some (.normal, H a c ((a.length + c.length : Nat) : Int) 2,
  [decide ((1 : Int) < 2) = true, (1 : Int) = ((1 : Nat) : Int) ∧ [D.sl (a.map I), D.sl (c.map I)][1]? = some (.sl (c.map I)), IntKind.i64.wrap (((a.length : Nat) : Int) + (((c.map I).length : Nat) : Int)) = ((a.length + c.length : Nat) : Int), decide (((a.length + c.length : Nat) : Int) < 0) = false, IntKind.i64.wrap (1 + 1) = 2]) := by kernel_rfl
theorem a3 (s : Int) : round Tryd.prog wr false O (loopOf Tryd.prog 57 0) (H a c s 2) [.br false] [0, 3, 9, 10, 11] 0 = some (.exit 0, H a c s 2, [decide ((2 : Int) < 2) = false]) := by kernel_rfl
theorem b1 : round Tryd.prog wr false O (loopOf Tryd.prog 57 1) (H2 a c [] 0) [.br true, .el 0 (.sl (a.map I)), .own, .raw, .is 1] [6, 25, 26, 27] 1 = some (.normal, H2 a c (a.map I) 1,
  [decide ((0 : Int) < 2) = true, (0 : Int) = ((0 : Nat) : Int) ∧ [D.sl (a.map I), D.sl (c.map I)][0]? = some (.sl (a.map I)), ∀ y : D, y ∈ List.map I a → y.cells.length = 1, ([] : List D).length + (a.map I).length ≤ maxItems, IntKind.i64.wrap (0 + 1) = 1]) := by kernel_rfl
theorem b2 : round Tryd.prog wr false O (loopOf Tryd.prog 57 1) (H2 a c (a.map I) 1) [.br true, .el 1 (.sl (c.map I)), .own, .raw, .is 2] [6, 25, 26, 27] 1 = some (.normal, H2 a c (a.map I ++ c.map I) 2,
  [decide ((1 : Int) < 2) = true, (1 : Int) = ((1 : Nat) : Int) ∧ [D.sl (a.map I), D.sl (c.map I)][1]? = some (.sl (c.map I)), ∀ y : D, y ∈ List.map I c → y.cells.length = 1, (a.map I).length + (c.map I).length ≤ maxItems, IntKind.i64.wrap (1 + 1) = 2]) := by kernel_rfl
theorem b3 (l : List D) : round Tryd.prog wr false O (loopOf Tryd.prog 57 1) (H2 a c l 2) [.br false] [6] 1 = some (.exit 2, E2 l, [decide ((2 : Int) < 2) = false]) := by kernel_rfl
theorem co (l : List D) : callX Tryd.prog wr false O 57 [Q a c] [] [.lp [0, 3, 9, 10, 11] (.exit 0) (H a c n 2), .icall [] (.own 3 []) [], .lp [6, 25, 26, 27] (.exit 2) (E2 l)] = some (.own 3 l, [],
  [GoesL Tryd.prog (loopOf Tryd.prog 57 0) (H a c 0 0) (.exit 0) (H a c n 2), ICall Tryd.prog 70 [.emp true, .d (I n)] [] (.own 3 []) [], GoesL Tryd.prog (loopOf Tryd.prog 57 1) (H2 a c [] 0) (.exit 2) (E2 l)]) := by kernel_rfl
theorem concat (ha : a.length ≤ 400000) (hc : c.length ≤ 400000) : ICall Tryd.prog 57 [.d (.sl [.sl (a.map I), .sl (c.map I)])] [] (.own 3 ((a ++ c).map I)) [] := by
  rw [List.map_append]
  refine callX_ok hO hm (co (a.length + c.length) a c _) ⟨?_, grow _ (by omega), ?_⟩
  · refine .step hO hm (a1 a c) ⟨by simp, ⟨rfl, rfl⟩, ?_, by simp, rfl⟩ (.step hO hm (a2 a c) ⟨by simp, ⟨rfl, rfl⟩, ?_, by simp; omega, rfl⟩ (.stop hO hm (a3 a c _) (by simp) (by simp [AllP])))
    · rw [List.length_map, wrap_id (by omega) (by omega)]; omega
    · rw [List.length_map, wrap_id (by omega) (by omega)]; omega
  · exact .step hO hm (b1 a c) ⟨by simp, ⟨rfl, rfl⟩, sz a, by simp [maxItems]; omega, rfl⟩ (.step hO hm (b2 a c) ⟨by simp, ⟨rfl, rfl⟩, sz c, by simp [maxItems]; omega, rfl⟩ (.stop hO hm (b3 a c _) (by simp) (by simp [AllP])))
theorem cl1 : callX Tryd.prog wr false O 38 [.d (.sl ((y :: a).map I))] [] [.raw, .own, .raw] = some (.own 3 ((y :: a).map I), [], [∀ z : D, z ∈ List.map I (y :: a) → z.cells.length = 1, (List.map I (y :: a)).length ≤ maxItems]) := by kernel_rfl
theorem cl2 : callX Tryd.prog wr false O 38 [.nnil] [] [.raw, .raw, .raw] = some (.own 3 [], [], [([] : List D).length ≤ maxItems]) := by kernel_rfl
theorem cl3 : callX Tryd.prog wr false O 38 [.nlc] [] [] = some (.emp true, [], []) := by kernel_rfl
theorem clone (ha : a.length ≤ 1000000) : ICall Tryd.prog 38 [.d (.sl (a.map I))] [] (.own 3 (a.map I)) [] := by
  cases a with
  | nil => exact .empty ((callX_ok hO hm cl3 trivial).emp_own hz) (callX_ok hO hm cl2 (by simp [AllP]))
  | cons y r => exact callX_ok hO hm (cl1 r y) ⟨sz _, by rw [List.length_map]; exact Nat.le_trans ha (by decide)⟩
end
end Go.Proofs.YtihbpbdmhiihnaaDoor.Sy.LInt
/- Lists: Grow, Concat for spiritlevel/api.Define. -/
namespace Go.Proofs.YtihbpbdmhiihnaaDoor.Sy.LDf
open Go Go.Proofs.YtihbpbdmhiihnaaDoor.Ab Go.Proofs.YtihbpbdmhiihnaaDoor.Sy
set_option maxRecDepth 1000000
set_option linter.unusedVariables false
theorem sz (l : List Df) : ∀ y : D, y ∈ List.map Df.d l → y.cells.length = 3 := fun y hy => by
  obtain ⟨x, _, rfl⟩ := List.mem_map.1 hy
  rfl
theorem hz : szOf Tryd.prog 65 = some 3 := by kernel_rfl
section
variable (n : Nat) (a c : List Df) (y : Df)
theorem gr1 : callX Tryd.prog wr false O 69 [.emp true, .d (I n)] [] [.br false, .is 0, .is ((n : Int) - 0), .br true, .len n, .raw, .cut 0 0] = some (.own 65 [], [],
  [decide ((n : Int) < 0) = false, IntKind.i64.wrap (0 - ((([] : List D).length : Nat) : Int)) = 0, IntKind.i64.wrap ((n : Int) - 0) = (n : Int) - 0, decide ((n : Int) - 0 > 0) = true, (n : Int) - 0 = ((n : Nat) : Int), n ≤ maxItems,
   ((0 : Nat) : Int) = ((0 : Nat) : Int) ∧ ((([] : List D).length : Nat) : Int) = ((0 : Nat) : Int) ∧ 0 ≤ 0 ∧ 0 ≤ (List.replicate n (D.agg [.int .i64 0, .int .i64 0, .int .i64 0])).length]) := by kernel_rfl
theorem gr2 : callX Tryd.prog wr false O 69 [.emp true, .d (I n)] [] [.br false, .is 0, .is ((n : Int) - 0), .br false] = some (.emp true, [],
  [decide ((n : Int) < 0) = false, IntKind.i64.wrap (0 - ((([] : List D).length : Nat) : Int)) = 0, IntKind.i64.wrap ((n : Int) - 0) = (n : Int) - 0, decide ((n : Int) - 0 > 0) = false]) := by kernel_rfl
theorem grow (h : n ≤ 1000000) : ICall Tryd.prog 69 [.emp true, .d (I n)] [] (.own 65 []) [] := by
  have w1 : IntKind.i64.wrap ((n : Int) - 0) = (n : Int) - 0 := by rw [wrap_id (by omega) (by omega)]
  have w0 : IntKind.i64.wrap (0 - ((([] : List D).length : Nat) : Int)) = 0 := by rfl
  by_cases hn : 0 < n
  · exact callX_ok hO hm (gr1 n) ⟨decide_eq_false (by omega), w0, w1, decide_eq_true (by omega), by omega, by unfold maxItems; omega, rfl, rfl, by omega, by simp⟩
  · exact (callX_ok hO hm (gr2 n) ⟨decide_eq_false (by omega), w0, w1, decide_eq_false (by omega)⟩).emp_own hz
def Q (a c : List Df) : V := .d (.sl [.sl (a.map Df.d), .sl (c.map Df.d)])
def H (a c : List Df) (s i : Int) : St := ⟨mk 36 [(0, Q a c), (3, .d (I s)), (9, Q a c), (10, .d (I 2)), (11, .d (I i))] [], []⟩
def H2 (a c : List Df) (l : List D) (i : Int) : St := ⟨mk 36 [(6, .arr 0), (25, Q a c), (26, .d (I 2)), (27, .d (I i))] [], [.lst 65 l]⟩
def E2 (l : List D) : St := ⟨mk 36 [(6, .arr 0)] [], [.lst 65 l]⟩
theorem a1 : round Tryd.prog wr false O (loopOf Tryd.prog 56 0) (H a c 0 0) [.br true, .el 0 (.sl (a.map Df.d)), .is ((a.length : Nat) : Int), .br false, .is 1] [0, 3, 9, 10, 11] 0 = some (.normal, H a c ((a.length : Nat) : Int) 1,
  [decide ((0 : Int) < 2) = true, (0 : Int) = ((0 : Nat) : Int) ∧ [D.sl (a.map Df.d), D.sl (c.map Df.d)][0]? = some (.sl (a.map Df.d)), IntKind.i64.wrap (0 + (((a.map Df.d).length : Nat) : Int)) = ((a.length : Nat) : Int), decide (((a.length : Nat) : Int) < 0) = false, IntKind.i64.wrap (0 + 1) = 1]) := by kernel_rfl
theorem a2 : round Tryd.prog wr false O (loopOf Tryd.prog 56 0) (H a c ((a.length : Nat) : Int) 1) [.br true, .el 1 (.sl (c.map Df.d)), .is ((a.length + c.length : Nat) : Int), .br false, .is 2] [0, 3, 9, 10, 11] 0 = some (.normal, H a c ((a.length + c.length : Nat) : Int) 2,
  [decide ((1 : Int) < 2) = true, (1 : Int) = ((1 : Nat) : Int) ∧ [D.sl (a.map Df.d), D.sl (c.map Df.d)][1]? = some (.sl (c.map Df.d)), IntKind.i64.wrap (((a.length : Nat) : Int) + (((c.map Df.d).length : Nat) : Int)) = ((a.length + c.length : Nat) : Int), decide (((a.length + c.length : Nat) : Int) < 0) = false, IntKind.i64.wrap (1 + 1) = 2]) := by kernel_rfl
theorem a3 (s : Int) : round Tryd.prog wr false O (loopOf Tryd.prog 56 0) (H a c s 2) [.br false] [0, 3, 9, 10, 11] 0 = some (.exit 0, H a c s 2, [decide ((2 : Int) < 2) = false]) := by kernel_rfl
theorem b1 : round Tryd.prog wr false O (loopOf Tryd.prog 56 1) (H2 a c [] 0) [.br true, .el 0 (.sl (a.map Df.d)), .own, .raw, .is 1] [6, 25, 26, 27] 1 = some (.normal, H2 a c (a.map Df.d) 1,
  [decide ((0 : Int) < 2) = true, (0 : Int) = ((0 : Nat) : Int) ∧ [D.sl (a.map Df.d), D.sl (c.map Df.d)][0]? = some (.sl (a.map Df.d)), ∀ y : D, y ∈ List.map Df.d a → y.cells.length = 3, ([] : List D).length + (a.map Df.d).length ≤ maxItems, IntKind.i64.wrap (0 + 1) = 1]) := by kernel_rfl
theorem b2 : round Tryd.prog wr false O (loopOf Tryd.prog 56 1) (H2 a c (a.map Df.d) 1) [.br true, .el 1 (.sl (c.map Df.d)), .own, .raw, .is 2] [6, 25, 26, 27] 1 = some (.normal, H2 a c (a.map Df.d ++ c.map Df.d) 2,
  [decide ((1 : Int) < 2) = true, (1 : Int) = ((1 : Nat) : Int) ∧ [D.sl (a.map Df.d), D.sl (c.map Df.d)][1]? = some (.sl (c.map Df.d)), ∀ y : D, y ∈ List.map Df.d c → y.cells.length = 3, (a.map Df.d).length + (c.map Df.d).length ≤ maxItems, IntKind.i64.wrap (1 + 1) = 2]) := by kernel_rfl
theorem b3 (l : List D) : round Tryd.prog wr false O (loopOf Tryd.prog 56 1) (H2 a c l 2) [.br false] [6] 1 = some (.exit 2, E2 l, [decide ((2 : Int) < 2) = false]) := by kernel_rfl
theorem co (l : List D) : callX Tryd.prog wr false O 56 [Q a c] [] [.lp [0, 3, 9, 10, 11] (.exit 0) (H a c n 2), .icall [] (.own 65 []) [], .lp [6, 25, 26, 27] (.exit 2) (E2 l)] = some (.own 65 l, [],
  [GoesL Tryd.prog (loopOf Tryd.prog 56 0) (H a c 0 0) (.exit 0) (H a c n 2), ICall Tryd.prog 69 [.emp true, .d (I n)] [] (.own 65 []) [], GoesL Tryd.prog (loopOf Tryd.prog 56 1) (H2 a c [] 0) (.exit 2) (E2 l)]) := by kernel_rfl
theorem concat (ha : a.length ≤ 400000) (hc : c.length ≤ 400000) : ICall Tryd.prog 56 [.d (.sl [.sl (a.map Df.d), .sl (c.map Df.d)])] [] (.own 65 ((a ++ c).map Df.d)) [] := by
  rw [List.map_append]
  refine callX_ok hO hm (co (a.length + c.length) a c _) ⟨?_, grow _ (by omega), ?_⟩
  · refine .step hO hm (a1 a c) ⟨by simp, ⟨rfl, rfl⟩, ?_, by simp, rfl⟩ (.step hO hm (a2 a c) ⟨by simp, ⟨rfl, rfl⟩, ?_, by simp; omega, rfl⟩ (.stop hO hm (a3 a c _) (by simp) (by simp [AllP])))
    · rw [List.length_map, wrap_id (by omega) (by omega)]; omega
    · rw [List.length_map, wrap_id (by omega) (by omega)]; omega
  · exact .step hO hm (b1 a c) ⟨by simp, ⟨rfl, rfl⟩, sz a, by simp [maxItems]; omega, rfl⟩ (.step hO hm (b2 a c) ⟨by simp, ⟨rfl, rfl⟩, sz c, by simp [maxItems]; omega, rfl⟩ (.stop hO hm (b3 a c _) (by simp) (by simp [AllP])))
end
end Go.Proofs.YtihbpbdmhiihnaaDoor.Sy.LDf
/- order.defined, order.used. -/
namespace Go.Proofs.YtihbpbdmhiihnaaDoor.Sy.Def
open Go Go.Proofs.YtihbpbdmhiihnaaDoor.Ab Go.Proofs.YtihbpbdmhiihnaaDoor.Sy
set_option maxRecDepth 1000000
set_option linter.unusedVariables false
section
variable (r : Rw) (ds : List Df) (acc : List Int) (l : List D) (i : Nat)
theorem app1 (acc : List Int) (x : Int) : (acc.map I ++ [I x]) = (acc ++ [x]).map I := by rw [List.map_append]; rfl
theorem app2 (acc : List Int) (x y : Int) : (acc.map I ++ [I x, I y]) = (acc ++ [x, y]).map I := by rw [List.map_append]; rfl
/-! ### defined -/
def H (r : Rw) (ds : List Df) (l : List D) (i : Nat) : St := ⟨mk 27 [(3, .arr 1), (14, .arr 2), (15, .d (I ((ds.map Df.d).length : Nat))), (16, .d (I i))] [], [r.box, .lst 3 l, .lst 65 (ds.map Df.d)]⟩
def E (r : Rw) (ds : List Df) (l : List D) : St := ⟨mk 27 [(3, .arr 1)] [], [r.box, .lst 3 l, .lst 65 (ds.map Df.d)]⟩
theorem d1 : round Tryd.prog wr false O (loopOf Tryd.prog 42 0) (H r ds l i) [.br true, .ix i, .el i (ds.getD i default).d, .raw, .raw, .raw, .is ((i + 1 : Nat) : Int)] [3, 14, 15, 16] 3 = some (.normal, H r ds (l ++ [I (ds.getD i default).lit]) (i + 1),
  [decide ((i : Int) < ((ds.map Df.d).length : Nat)) = true, (i : Int) = (i : Int) ∧ i < (ds.map Df.d).length, (ds.map Df.d)[i]? = some (ds.getD i default).d, l.length + [I (ds.getD i default).lit].length ≤ maxItems, IntKind.i64.wrap ((i : Int) + 1) = ((i + 1 : Nat) : Int)]) := by kernel_rfl
theorem d2 : round Tryd.prog wr false O (loopOf Tryd.prog 42 0) (H r ds l i) [.br false] [3] 3 = some (.exit 0, E r ds l, [decide ((i : Int) < ((ds.map Df.d).length : Nat)) = false]) := by kernel_rfl
theorem dloop (ha : acc.length ≤ 1000000) (hd : ds.length ≤ 1000000) : GoesL Tryd.prog (loopOf Tryd.prog 42 0) (H r ds (acc.map I) 0) (.exit 0) (E r ds ((acc ++ ds.map (·.lit)).map I)) := by
  have h := fold_loop ds (fun i (a : List Int) => H r ds (a.map I) i) (fun a => E r ds (a.map I)) (.exit 0) (fun a x => a ++ [x.lit]) (fun i a => a.length ≤ 1000000 + i)
    (c := loopOf Tryd.prog 42 0)
    (fun i a hi hI => ⟨by simp; omega, fun e s hg => .step hO hm (d1 r ds (a.map I) i) ⟨decide_eq_true (by rw [List.length_map]; omega), ⟨rfl, by rw [List.length_map]; exact hi⟩, get_map Df.d ds i hi, by rw [List.length_map]; exact Nat.le_trans (show a.length + 1 ≤ 3000000 by omega) (by decide), wrap_succ (by omega)⟩ (by rw [app1]; exact hg)⟩)
    (fun a hI => .stop hO hm (d2 r ds (a.map I) ds.length) (by simp) (decide_eq_false (by rw [List.length_map]; omega))) ds.length 0 acc rfl (by omega) (by omega)
  have hf : ∀ (ds : List Df) (acc : List Int), ds.foldl (fun a x => a ++ [x.lit]) acc = acc ++ ds.map (·.lit) := by
    intro ds
    induction ds with
    | nil => simp
    | cons x r ih => intro acc; rw [List.foldl_cons, ih]; simp
  rw [List.drop_zero, hf] at h
  exact h
theorem d3 : callX Tryd.prog wr false O 42 [.d r.d] [] [.icall [] (.own 3 (r.ins.map I)) [], .raw, .icall [] (.own 65 ((r.lats ++ r.ands).map Df.d)) [], .lp [3, 14, 15, 16] (.exit 0) (E r (r.lats ++ r.ands) l)] = some (.own 3 l, [],
  [ICall Tryd.prog 38 [.d (.sl (r.ins.map I))] [] (.own 3 (r.ins.map I)) [], ICall Tryd.prog 56 [.d (.sl [.sl (r.lats.map Df.d), .sl (r.ands.map Df.d)])] [] (.own 65 ((r.lats ++ r.ands).map Df.d)) [],
   GoesL Tryd.prog (loopOf Tryd.prog 42 0) (H r (r.lats ++ r.ands) (r.ins.map I) 0) (.exit 0) (E r (r.lats ++ r.ands) l)]) := by kernel_rfl
end
/-- What a raw circuit defines. -/
def defs (r : Rw) : List Int := r.ins ++ (r.lats ++ r.ands).map (·.lit)
/-- Its lists are not too long. -/
structure Fits (r : Rw) : Prop where
  ins : r.ins.length ≤ 100000
  lats : r.lats.length ≤ 100000
  ands : r.ands.length ≤ 100000
  bads : r.bads.length ≤ 100000
  cons : r.cons.length ≤ 100000
theorem defined (r : Rw) (h : Fits r) : ICall Tryd.prog 42 [.d r.d] [] (.own 3 ((defs r).map I)) [] := by
  have h1 := h.ins
  have h2 := h.lats
  have h3 := h.ands
  exact callX_ok hO hm (d3 r _) ⟨LInt.clone r.ins (by omega), LDf.concat r.lats r.ands (by omega) (by omega), dloop r _ _ (by omega) (by simp; omega)⟩
section
variable (r : Rw) (ds : List Df) (acc : List Int) (l l2 l3 : List D) (i : Nat)
/-! ### used -/
def HA (r : Rw) (ds : List Df) (l : List D) (i : Nat) : St := ⟨mk 43 [(1, .ptr 0 0), (3, .arr 1), (15, .d (.sl (ds.map Df.d))), (16, .d (I ((ds.map Df.d).length : Nat))), (17, .d (I i))] [], [r.box, .lst 3 l]⟩
def EA (r : Rw) (l : List D) : St := ⟨mk 43 [(1, .ptr 0 0), (3, .arr 1)] [], [r.box, .lst 3 l]⟩
theorem u1 : round Tryd.prog wr false O (loopOf Tryd.prog 43 0) (HA r ds l i) [.br true, .el i (ds.getD i default).d, .raw, .raw, .raw, .is ((i + 1 : Nat) : Int)] [1, 3, 15, 16, 17] 2 = some (.normal, HA r ds (l ++ [I (ds.getD i default).a]) (i + 1),
  [decide ((i : Int) < ((ds.map Df.d).length : Nat)) = true, (i : Int) = (i : Int) ∧ (ds.map Df.d)[i]? = some (ds.getD i default).d, l.length + [I (ds.getD i default).a].length ≤ maxItems, IntKind.i64.wrap ((i : Int) + 1) = ((i + 1 : Nat) : Int)]) := by kernel_rfl
theorem u2 : round Tryd.prog wr false O (loopOf Tryd.prog 43 0) (HA r ds l i) [.br false] [1, 3] 2 = some (.exit 0, EA r l, [decide ((i : Int) < ((ds.map Df.d).length : Nat)) = false]) := by kernel_rfl
theorem uloop (ha : acc.length ≤ 1000000) (hd : ds.length ≤ 1000000) : GoesL Tryd.prog (loopOf Tryd.prog 43 0) (HA r ds (acc.map I) 0) (.exit 0) (EA r ((acc ++ ds.map (·.a)).map I)) := by
  have h := fold_loop ds (fun i (a : List Int) => HA r ds (a.map I) i) (fun a => EA r (a.map I)) (.exit 0) (fun a x => a ++ [x.a]) (fun i a => a.length ≤ 1000000 + i)
    (c := loopOf Tryd.prog 43 0)
    (fun i a hi hI => ⟨by simp; omega, fun e s hg => .step hO hm (u1 r ds (a.map I) i) ⟨decide_eq_true (by rw [List.length_map]; omega), ⟨rfl, get_map Df.d ds i hi⟩, by rw [List.length_map]; exact Nat.le_trans (show a.length + 1 ≤ 3000000 by omega) (by decide), wrap_succ (by omega)⟩ (by rw [app1]; exact hg)⟩)
    (fun a hI => .stop hO hm (u2 r ds (a.map I) ds.length) (by simp) (decide_eq_false (by rw [List.length_map]; omega))) ds.length 0 acc rfl (by omega) (by omega)
  have hf : ∀ (ds : List Df) (acc : List Int), ds.foldl (fun a x => a ++ [x.a]) acc = acc ++ ds.map (·.a) := by
    intro ds
    induction ds with
    | nil => simp
    | cons x r ih => intro acc; rw [List.foldl_cons, ih]; simp
  rw [List.drop_zero, hf] at h
  exact h
def HB (r : Rw) (ds : List Df) (l : List D) (i : Nat) : St := ⟨mk 43 [(3, .arr 1), (28, .d (.sl (ds.map Df.d))), (29, .d (I ((ds.map Df.d).length : Nat))), (30, .d (I i))] [], [r.box, .lst 3 l]⟩
def EB (r : Rw) (l : List D) : St := ⟨mk 43 [(3, .arr 1)] [], [r.box, .lst 3 l]⟩
theorem v1 : round Tryd.prog wr false O (loopOf Tryd.prog 43 1) (HB r ds l i) [.br true, .el i (ds.getD i default).d, .raw, .raw, .raw, .is ((i + 1 : Nat) : Int)] [3, 28, 29, 30] 2 = some (.normal, HB r ds (l ++ [I (ds.getD i default).a, I (ds.getD i default).b]) (i + 1),
  [decide ((i : Int) < ((ds.map Df.d).length : Nat)) = true, (i : Int) = (i : Int) ∧ (ds.map Df.d)[i]? = some (ds.getD i default).d, l.length + [I (ds.getD i default).a, I (ds.getD i default).b].length ≤ maxItems, IntKind.i64.wrap ((i : Int) + 1) = ((i + 1 : Nat) : Int)]) := by kernel_rfl
theorem v2 : round Tryd.prog wr false O (loopOf Tryd.prog 43 1) (HB r ds l i) [.br false] [3] 2 = some (.exit 2, EB r l, [decide ((i : Int) < ((ds.map Df.d).length : Nat)) = false]) := by kernel_rfl
theorem vloop (ha : acc.length ≤ 1000000) (hd : ds.length ≤ 1000000) : GoesL Tryd.prog (loopOf Tryd.prog 43 1) (HB r ds (acc.map I) 0) (.exit 2) (EB r ((acc ++ ds.flatMap (fun d => [d.a, d.b])).map I)) := by
  have h := fold_loop ds (fun i (a : List Int) => HB r ds (a.map I) i) (fun a => EB r (a.map I)) (.exit 2) (fun a x => a ++ [x.a, x.b]) (fun i a => a.length ≤ 1000000 + 2 * i)
    (c := loopOf Tryd.prog 43 1)
    (fun i a hi hI => ⟨by simp; omega, fun e s hg => .step hO hm (v1 r ds (a.map I) i) ⟨decide_eq_true (by rw [List.length_map]; omega), ⟨rfl, get_map Df.d ds i hi⟩, by rw [List.length_map]; exact Nat.le_trans (show a.length + 2 ≤ 5000000 by omega) (by decide), wrap_succ (by omega)⟩ (by rw [app2]; exact hg)⟩)
    (fun a hI => .stop hO hm (v2 r ds (a.map I) ds.length) (by simp) (decide_eq_false (by rw [List.length_map]; omega))) ds.length 0 acc rfl (by omega) (by omega)
  have hf : ∀ (ds : List Df) (acc : List Int), ds.foldl (fun a x => a ++ [x.a, x.b]) acc = acc ++ ds.flatMap (fun d => [d.a, d.b]) := by
    intro ds
    induction ds with
    | nil => simp
    | cons x r ih => intro acc; rw [List.foldl_cons, ih]; simp
  rw [List.drop_zero, hf] at h
  exact h
theorem u3 : callX Tryd.prog wr false O 43 [.d r.d] [] [.raw, .icall [] (.own 3 l) [], .lp [1, 3, 15, 16, 17] (.exit 0) (EA r l2), .lp [3, 28, 29, 30] (.exit 2) (EB r l3)] = some (.own 3 l3, [],
  [ICall Tryd.prog 57 [.d (.sl [.sl (r.bads.map I), .sl (r.cons.map I)])] [] (.own 3 l) [],
   GoesL Tryd.prog (loopOf Tryd.prog 43 0) (HA r r.lats l 0) (.exit 0) (EA r l2), GoesL Tryd.prog (loopOf Tryd.prog 43 1) (HB r r.ands l2 0) (.exit 2) (EB r l3)]) := by kernel_rfl
end
/-- What a raw circuit uses. -/
def uses (r : Rw) : List Int := (r.bads ++ r.cons) ++ r.lats.map (·.a) ++ r.ands.flatMap (fun d => [d.a, d.b])
theorem used (r : Rw) (h : Fits r) : ICall Tryd.prog 43 [.d r.d] [] (.own 3 ((uses r).map I)) [] := by
  have h1 := h.lats
  have h2 := h.ands
  have h3 := h.bads
  have h4 := h.cons
  exact callX_ok hO hm (u3 r _ _ _) ⟨LInt.concat r.bads r.cons (by omega) (by omega), uloop r _ _ (by simp; omega) (by omega), vloop r _ _ (by simp; omega) (by omega)⟩
end Go.Proofs.YtihbpbdmhiihnaaDoor.Sy.Def
/- Arguments that come in, as plain data. -/
namespace Go.Proofs.YtihbpbdmhiihnaaDoor.Ab
open Go Go.ChangeShapes Go.WideShapes Go.RowKit
set_option linter.unusedVariables false

theorem addr_add (a : Addr) (m n : Nat) : (a.add m).add n = a.add (m + n) := by
  by_cases h1 : m = 0
  · subst h1; simp [Addr.add]
  · by_cases h2 : n = 0
    · subst h2; simp [Addr.add]
    · simp [Addr.add, h1, h2, Nat.add_assoc]
/-- All blocks that stand. -/
abbrev Old (w : World) : Nat → Prop := fun b => b < w.heap.size
/-- Cells that read as data. -/
def Cs (w : World) (ds : List D) (cs : List Value) : Prop := All2 (fun d u => DRel w (Old w) d u ∧ u.oneCell' = true) ds cs

/-- What is read at type t, in so many cells. -/
structure OpA (P : Program) {α : Type} (t : TypeId) (sz : Nat) (f : α → List D) (ok : α → Prop) : Prop where
  out : ∀ {H : Type} {enc : TypeId × Value → H} {w : World} {base : Nat} {held : Bool} {n : Nat} {cs : List Value} {x : DataW H × List MemPlace},
    DataW.trod enc P w base (fun _ => true) held n t cs = some x → ∃ a, ok a ∧ (f a).length = sz ∧ Cs w (f a) cs

theorem opA_int {P : Program} {t : TypeId} {k : IntKind} (ht : P.underlying t = some (.int k)) : OpA P t 1 (fun n : Int => [.int k n]) (fun n => (Lit.int k n).wf = true) := by
  constructor
  intro H enc w base held n cs x h
  cases n with
  | zero => simp [DataW.trod] at h
  | succ n =>
    unfold DataW.trod at h
    rw [ht] at h
    split at h <;> simp_all
    obtain ⟨⟨rfl, hw⟩, _⟩ := h
    exact ⟨_, hw, ⟨.int _ _, rfl⟩, trivial⟩
theorem opA_bool {P : Program} {t : TypeId} (ht : P.underlying t = some .bool) : OpA P t 1 (fun b : Bool => [.bool b]) (fun _ => True) := by
  constructor
  intro H enc w base held n cs x h
  cases n with
  | zero => simp [DataW.trod] at h
  | succ n =>
    unfold DataW.trod at h
    rw [ht] at h
    split at h <;> first | (cases h; done) | exact ⟨_, trivial, rfl, ⟨.bool _, rfl⟩, trivial⟩ | simp_all
theorem opA_string {P : Program} {t : TypeId} (ht : P.underlying t = some .string) : OpA P t 1 (fun s : ByteArray => [.str s.data.toList]) (fun s => s.size ≤ maxLen) := by
  constructor
  intro H enc w base held n cs x h
  cases n with
  | zero => simp [DataW.trod] at h
  | succ n =>
    unfold DataW.trod at h
    rw [ht] at h
    split at h <;> simp_all
    exact ⟨_, h.1, ⟨.str _, rfl⟩, trivial⟩

theorem opA_slice {P : Program} {α : Type} {t e : TypeId} {sz : Nat} {f : α → List D} {ok : α → Prop} (ht : P.underlying t = some (.slice e)) (he : P.cellsOf e = sz) (hz : 0 < sz) (ho : OpA P e sz f ok) (g : α → D) (hg : ∀ a, (f a).length = sz → (g a).cells = f a) :
    OpA P t 1 (fun l : List α => [.sl (l.map g)]) (fun l => l.length ≤ maxLen ∧ ∀ x ∈ l, ok x) := by
  constructor
  intro H enc w base held n cs x h
  rcases Go.Deep.open_slice ht h with ⟨rfl, _⟩ | ⟨a, len, cap, m, n', D', Pl, rfl, hb, hl, hm, hmm, _, hx⟩
  · exact ⟨[], ⟨by simp, by simp⟩, rfl, ⟨.sl0 _ _, rfl⟩, trivial⟩
  · have hlm : len ≤ m := by rw [hmm]; simp; exact hl
    have hL : len ≤ maxLen := Nat.le_trans hl hm
    have each : ∀ i, i < len → ∃ y, ok y ∧ (f y).length = sz ∧ ∀ j d, (f y)[j]? = some d → ∃ u, w.cell? (a.add (i * sz + j)) = some u ∧ u.oneCell' = true ∧ DRel w (Old w) d u := by
      intro i hi
      obtain ⟨cs', h1, h2⟩ := hx i (by omega)
      obtain ⟨y, hy, hfl, hC⟩ := ho.out h2
      obtain ⟨_, hlen, hcell⟩ := World.cells?_some h1
      rw [he] at hlen hcell
      refine ⟨y, hy, hfl, fun j d hj => ?_⟩
      have hjl : j < sz := by rw [← hfl]; exact (List.getElem?_eq_some_iff.1 hj).1
      obtain ⟨u, hu, hr, h1'⟩ := All2.get hC j d hj
      refine ⟨u, ?_, h1', hr⟩
      rw [← addr_add, hcell j hjl, hu]
    clear hx
    have build : ∀ k, k ≤ len → ∃ ys : List α, ys.length = k ∧ (∀ y ∈ ys, ok y ∧ (f y).length = sz) ∧ ∀ i p, ys[i]? = some p → ∀ j d, (f p)[j]? = some d → ∃ u, w.cell? (a.add (i * sz + j)) = some u ∧ u.oneCell' = true ∧ DRel w (Old w) d u := by
      intro k
      induction k with
      | zero => intro _; exact ⟨[], rfl, by simp, by simp⟩
      | succ k ih =>
        intro hk
        obtain ⟨ys, h1, h2, h3⟩ := ih (by omega)
        obtain ⟨y, hy, hfl, hc⟩ := each k (by omega)
        refine ⟨ys ++ [y], by simp [h1], ?_, ?_⟩
        · intro z hz
          rcases List.mem_append.mp hz with hz | hz
          · exact h2 z hz
          · rw [List.mem_singleton.1 hz]; exact ⟨hy, hfl⟩
        · intro j p hj
          by_cases hjk : j < k
          · rw [List.getElem?_append_left (by omega)] at hj
            exact h3 j p hj
          · have hjl : j < (ys ++ [y]).length := (List.getElem?_eq_some_iff.1 hj).1
            have : j = k := by simp at hjl; omega
            subst this
            rw [List.getElem?_append_right (by omega), h1, Nat.sub_self] at hj
            simp at hj
            subst hj
            exact hc
    obtain ⟨ys, h1, h2, h3⟩ := build len (Nat.le_refl _)
    refine ⟨ys, ⟨by rw [h1]; exact hL, fun y hy => (h2 y hy).1⟩, rfl, ⟨?_, rfl⟩, trivial⟩
    by_cases hw : ys = []
    · subst hw; simp at h1; subst h1; exact .sl0 _ _
    · have hpos : 0 < sz := hz
      obtain ⟨y0, yt, hy0⟩ : ∃ y0 yt, ys = y0 :: yt := by cases ys with
        | nil => exact (hw rfl).elim
        | cons y t => exact ⟨y, t, rfl⟩
      have hf0 := (h2 y0 (by rw [hy0]; simp)).2
      obtain ⟨d0, hd0⟩ : ∃ d0, (f y0)[0]? = some d0 := ⟨_, List.getElem?_eq_getElem (by omega)⟩
      obtain ⟨u0, hu0, _⟩ := h3 0 y0 (by rw [hy0]; rfl) 0 d0 hd0
      obtain ⟨hbs, hsp⟩ : a.block < w.heap.size ∧ a.spot = none := by
        unfold World.cell? at hu0
        split at hu0
        · rename_i c _ _ hc
          split at hu0
          · cases hu0
          · rename_i hs
            refine ⟨by simpa [Addr.add] using (Array.getElem?_eq_some_iff.1 hc).1, ?_⟩
            have : a.spot.isSome = false := Bool.eq_false_iff.2 (by simpa [Addr.add] using hs)
            simpa using this
        · cases hu0
      obtain ⟨b, o, sp⟩ := a
      simp only at hsp hbs
      subst hsp
      have hlen : (ys.map g).length = len := by rw [List.length_map, h1]
      have hR : Reads w (Old w) sz (ys.map g) b o := by
        refine ⟨fun i x hx => ?_, fun i x j y hx hy => ?_⟩
        · rw [List.getElem?_map, Option.map_eq_some_iff] at hx
          obtain ⟨p, hp, rfl⟩ := hx
          have hf := (h2 p (List.mem_of_getElem? hp)).2
          rw [hg p hf, hf]
        · rw [List.getElem?_map, Option.map_eq_some_iff] at hx
          obtain ⟨p, hp, rfl⟩ := hx
          have hf := (h2 p (List.mem_of_getElem? hp)).2
          rw [hg p hf] at hy
          obtain ⟨u, g1, g2, g3⟩ := h3 i p hp j y hy
          have ea : (⟨b, o, none⟩ : Addr).add (i * sz + j) = ⟨b, o + i * sz + j, none⟩ := by simp [Addr.add, Nat.add_assoc]
          exact ⟨u, ea ▸ g1, g2, g3⟩
      have := drel_of_reads (Pr' := Old w) (cap := cap) (show Old w b from hbs) (by rw [hlen]; exact hl) hR
      rwa [hlen] at this

/-- The fields from one on, in line. -/
structure OpF (P : Program) {α : Type} (fs : List Field) (off sz : Nat) (f : α → List D) (ok : α → Prop) : Prop where
  out : ∀ {H : Type} {enc : TypeId × Value → H} {w : World} {base : Nat} {held : Bool} {n : Nat} {cs : List Value}, cs.length = off + sz →
    (∀ (j : Nat) (f : Field), fs[j]? = some f → ∃ y, DataW.trod enc P w base (fun _ => true) held n f.type ((cs.drop f.offset).take (P.cellsOf f.type)) = some y) → ∃ a, ok a ∧ (f a).length = sz ∧ Cs w (f a) (cs.drop off)

theorem opF_one {P : Program} {α : Type} {fd : Field} {off sz : Nat} {f : α → List D} {ok : α → Prop} (ho : fd.offset = off) (hc : P.cellsOf fd.type = sz) (h : OpA P fd.type sz f ok) : OpF P [fd] off sz f ok := by
  constructor
  intro H enc w base held n cs hl hf
  obtain ⟨y, hy⟩ := hf 0 fd rfl
  obtain ⟨a, ha, hfl, hC⟩ := h.out hy
  rw [ho, hc, List.take_of_length_le (by rw [List.length_drop]; omega)] at hC
  exact ⟨a, ha, hfl, hC⟩

theorem opF_cons {P : Program} {α β : Type} {fd : Field} {fs : List Field} {off s1 s2 : Nat} {f : α → List D} {g : β → List D} {ok : α → Prop} {ok' : β → Prop} (ho : fd.offset = off) (hc : P.cellsOf fd.type = s1) (h : OpA P fd.type s1 f ok) (hr : OpF P fs (off + s1) s2 g ok') :
    OpF P (fd :: fs) off (s1 + s2) (fun x : α × β => f x.1 ++ g x.2) (fun x => ok x.1 ∧ ok' x.2) := by
  constructor
  intro H enc w base held n cs hl hf
  obtain ⟨y, hy⟩ := hf 0 fd rfl
  obtain ⟨a, ha, hfl, hC⟩ := h.out hy
  obtain ⟨b, hb, hgl, hC'⟩ := hr.out (by omega) (fun j g hg => hf (j + 1) g hg)
  rw [ho, hc] at hC
  refine ⟨(a, b), ⟨ha, hb⟩, by rw [List.length_append, hfl, hgl], ?_⟩
  have e : cs.drop off = (cs.drop off).take s1 ++ cs.drop (off + s1) := by rw [← List.drop_drop, List.take_append_drop]
  rw [e]
  exact All2.append hC hC'

theorem opA_struct {P : Program} {α σ : Type} {t : TypeId} {fs : Array Field} {sz : Nat} {f : α → List D} {ok : α → Prop} (ht : P.underlying t = some (.struct fs)) (hc : P.cellsOf t = sz) (h : OpF P fs.toList 0 sz f ok) (mk : α → σ) (g : σ → List D) (hg : ∀ a, g (mk a) = f a) (ok' : σ → Prop) (hok : ∀ a, ok a → ok' (mk a)) :
    OpA P t sz g ok' := by
  constructor
  intro H enc w base held n cs x hx
  obtain ⟨xs, m, rfl, _, hl, hxl, hfs⟩ := DataW.trod_struct ht hx
  obtain ⟨a, ha, hfl, hC⟩ := h.out (cs := cs) (by omega) (fun j g hg => by
    have hg' : fs[j]? = some g := by rw [← Array.getElem?_toList]; exact hg
    have h1 := hfs j g hg'
    have hj : j < xs.length := by rw [hxl]; exact (Array.getElem?_eq_some_iff.1 hg').1
    rw [List.getElem?_eq_getElem hj] at h1
    exact ⟨_, h1⟩)
  rw [List.drop_zero] at hC
  exact ⟨mk a, hok a ha, by rw [hg]; exact hfl, by rw [hg]; exact hC⟩

/-- Two in a row. -/
theorem opA_array2 {P : Program} {α : Type} {t e : TypeId} {f : α → List D} {ok : α → Prop} (ht : P.underlying t = some (.array 2 e)) (hc : P.cellsOf t = 2) (he : P.cellsOf e = 1) (h : OpA P e 1 f ok) : OpA P t 2 (fun p : α × α => f p.1 ++ f p.2) (fun p => ok p.1 ∧ ok p.2) := by
  constructor
  intro H enc w base held n cs x hx
  obtain ⟨xs, m, rfl, _, hl, hxl, hfs⟩ := DataW.trod_array ht hx
  have h0 := hfs 0 (by omega)
  have h1 := hfs 1 (by omega)
  rw [List.getElem?_eq_getElem (by omega)] at h0 h1
  rw [he] at h0 h1
  obtain ⟨a, ha, hal, hA⟩ := h.out h0
  obtain ⟨b, hb, hbl, hB⟩ := h.out h1
  refine ⟨(a, b), ⟨ha, hb⟩, by rw [List.length_append, hal, hbl], ?_⟩
  match cs, hl.trans hc with
  | [c0, c1], _ =>
    have hA' : Cs w (f a) [c0] := by simpa using hA
    have hB' : Cs w (f b) [c1] := by simpa using hB
    exact All2.append hA' hB'

/-- An argument that is a struct, or a slice. -/
theorem drel_struct {P : Program} {H : Type} {enc : TypeId × Value → H} {w : World} {α : Type} {t : TypeId} {fs : Array Field} {sz : Nat} {f : α → List D} {ok : α → Prop} {base : Nat} {held : Bool} {v : Value} {x : DataW H} {ps : List MemPlace} {r : Reach} {b0 : Nat}
    (ht : P.underlying t = some (.struct fs)) (ho : OpA P t sz f ok) (hv : Value.okWide P w r b0 t v) (h : DataW.Trod enc P w base (fun _ => true) held t v x ps) : ∃ a, ok a ∧ DRel w (Old w) (.agg (f a)) v := by
  obtain ⟨cs, rfl, _⟩ := okWide_struct ht hv
  obtain ⟨n, h⟩ := h
  obtain ⟨a, hok, _, hC⟩ := ho.out h
  have hC' : Cs w (f a) cs.toList := by simpa [Value.cells] using hC
  exact ⟨a, hok, drel_agg2 hC'⟩
theorem drel_slice {P : Program} {H : Type} {enc : TypeId × Value → H} {w : World} {α : Type} {t e : TypeId} {f : List α → D} {ok : List α → Prop} {base : Nat} {held : Bool} {v : Value} {x : DataW H} {ps : List MemPlace} {r : Reach} {b0 : Nat}
    (ht : P.underlying t = some (.slice e)) (ho : OpA P t 1 (fun l => [f l]) ok) (hv : Value.okWide P w r b0 t v) (h : DataW.Trod enc P w base (fun _ => true) held t v x ps) : ∃ a, ok a ∧ DRel w (Old w) (f a) v := by
  obtain ⟨a, len, cap, rfl⟩ := okWide_slice ht hv
  obtain ⟨n, h⟩ := h
  obtain ⟨l, hok, _, hC⟩ := ho.out h
  exact ⟨l, hok, hC.1.1⟩
end Go.Proofs.YtihbpbdmhiihnaaDoor.Ab
/- What the rows' proofs of this seat share: arguments opened, the table of powers read out of the row's condition. -/
namespace Go.Proofs.YtihbpbdmhiihnaaDoor.Lk
open Go.ChangeShapes Go.WideShapes Go.ChangeAt Go.RowKit Go.Proofs.YtihbpbdmhiihnaaDoor.Ab Go.Proofs.YtihbpbdmhiihnaaDoor.Sy
set_option linter.unusedVariables false
theorem own : ownKnob Tryd.prog.godebug = none := by kernel_rfl
theorem laidOut : laidOutB Tryd.prog = true := by kernel_rfl
abbrev okI (n : Int) : Prop := (Lit.int .i64 n).wf = true
abbrev okIs (l : List Int) : Prop := l.length ≤ maxLen ∧ ∀ x ∈ l, okI x
abbrev okD (d : Df) : Prop := okI d.lit ∧ okI d.a ∧ okI d.b
abbrev okDs (l : List Df) : Prop := l.length ≤ maxLen ∧ ∀ x ∈ l, okD x
abbrev okR (r : Rw) : Prop := okI r.most ∧ okIs r.ins ∧ okDs r.lats ∧ okDs r.ands ∧ okIs r.bads ∧ okIs r.cons
theorem opI : OpA Tryd.prog 3 1 (fun n : Int => [I n]) okI := opA_int Tryd.underlying3
theorem opIs : OpA Tryd.prog 22 1 (fun l : List Int => [L l]) okIs := opA_slice Tryd.underlying22 (by kernel_rfl) (by decide) opI I (fun _ _ => rfl)
theorem opD : OpA Tryd.prog 65 3 (fun d : Df => [I d.lit, I d.a, I d.b]) okD := by
  refine opA_struct (f := (fun x : Int × Int × Int => [I x.1] ++ ([I x.2.1] ++ ([I x.2.2])))) (ok := (fun x : Int × Int × Int => okI x.1 ∧ okI x.2.1 ∧ okI x.2.2)) Tryd.underlying65 (by kernel_rfl) ?_ (fun x => (⟨x.1, x.2.1, x.2.2⟩ : Df)) _ (fun _ => rfl) okD (fun _ h => h)
  show OpF _ [_, _, _] 0 _ _ _
  apply opF_cons (s1 := 1) (s2 := 2) (f := (fun x : Int => [I x])) (ok := (fun x : Int => okI x)) (g := (fun x : Int × Int => [I x.1] ++ ([I x.2]))) (ok' := (fun x : Int × Int => okI x.1 ∧ okI x.2))
  · rfl
  · kernel_rfl
  · exact opI
  apply opF_cons (s1 := 1) (s2 := 1) (f := (fun x : Int => [I x])) (ok := (fun x : Int => okI x)) (g := (fun x : Int => [I x])) (ok' := (fun x : Int => okI x))
  · rfl
  · kernel_rfl
  · exact opI
  apply opF_one (f := (fun x : Int => [I x])) (ok := (fun x : Int => okI x))
  · rfl
  · kernel_rfl
  · exact opI
theorem opDs : OpA Tryd.prog 23 1 (fun l : List Df => [.sl (l.map Df.d)]) okDs := opA_slice Tryd.underlying23 (by kernel_rfl) (by decide) opD Df.d (fun _ _ => rfl)
theorem opR : OpA Tryd.prog 25 6 (fun r : Rw => [I r.most, L r.ins, .sl (r.lats.map Df.d), .sl (r.ands.map Df.d), L r.bads, L r.cons]) okR := by
  refine opA_struct (f := (fun x : Int × (List Int) × (List Df) × (List Df) × (List Int) × (List Int) => [I x.1] ++ ([L x.2.1] ++ ([D.sl (x.2.2.1.map Df.d)] ++ ([D.sl (x.2.2.2.1.map Df.d)] ++ ([L x.2.2.2.2.1] ++ ([L x.2.2.2.2.2]))))))) (ok := (fun x : Int × (List Int) × (List Df) × (List Df) × (List Int) × (List Int) => okI x.1 ∧ okIs x.2.1 ∧ okDs x.2.2.1 ∧ okDs x.2.2.2.1 ∧ okIs x.2.2.2.2.1 ∧ okIs x.2.2.2.2.2)) Tryd.underlying25 (by kernel_rfl) ?_ (fun x => (⟨x.1, x.2.1, x.2.2.1, x.2.2.2.1, x.2.2.2.2.1, x.2.2.2.2.2⟩ : Rw)) _ (fun _ => rfl) okR (fun _ h => h)
  show OpF _ [_, _, _, _, _, _] 0 _ _ _
  apply opF_cons (s1 := 1) (s2 := 5) (f := (fun x : Int => [I x])) (ok := (fun x : Int => okI x)) (g := (fun x : (List Int) × (List Df) × (List Df) × (List Int) × (List Int) => [L x.1] ++ ([D.sl (x.2.1.map Df.d)] ++ ([D.sl (x.2.2.1.map Df.d)] ++ ([L x.2.2.2.1] ++ ([L x.2.2.2.2])))))) (ok' := (fun x : (List Int) × (List Df) × (List Df) × (List Int) × (List Int) => okIs x.1 ∧ okDs x.2.1 ∧ okDs x.2.2.1 ∧ okIs x.2.2.2.1 ∧ okIs x.2.2.2.2))
  · rfl
  · kernel_rfl
  · exact opI
  apply opF_cons (s1 := 1) (s2 := 4) (f := (fun x : (List Int) => [L x])) (ok := (fun x : (List Int) => okIs x)) (g := (fun x : (List Df) × (List Df) × (List Int) × (List Int) => [D.sl (x.1.map Df.d)] ++ ([D.sl (x.2.1.map Df.d)] ++ ([L x.2.2.1] ++ ([L x.2.2.2]))))) (ok' := (fun x : (List Df) × (List Df) × (List Int) × (List Int) => okDs x.1 ∧ okDs x.2.1 ∧ okIs x.2.2.1 ∧ okIs x.2.2.2))
  · rfl
  · kernel_rfl
  · exact opIs
  apply opF_cons (s1 := 1) (s2 := 3) (f := (fun x : (List Df) => [D.sl (x.map Df.d)])) (ok := (fun x : (List Df) => okDs x)) (g := (fun x : (List Df) × (List Int) × (List Int) => [D.sl (x.1.map Df.d)] ++ ([L x.2.1] ++ ([L x.2.2])))) (ok' := (fun x : (List Df) × (List Int) × (List Int) => okDs x.1 ∧ okIs x.2.1 ∧ okIs x.2.2))
  · rfl
  · kernel_rfl
  · exact opDs
  apply opF_cons (s1 := 1) (s2 := 2) (f := (fun x : (List Df) => [D.sl (x.map Df.d)])) (ok := (fun x : (List Df) => okDs x)) (g := (fun x : (List Int) × (List Int) => [L x.1] ++ ([L x.2]))) (ok' := (fun x : (List Int) × (List Int) => okIs x.1 ∧ okIs x.2))
  · rfl
  · kernel_rfl
  · exact opDs
  apply opF_cons (s1 := 1) (s2 := 1) (f := (fun x : (List Int) => [L x])) (ok := (fun x : (List Int) => okIs x)) (g := (fun x : (List Int) => [L x])) (ok' := (fun x : (List Int) => okIs x))
  · rfl
  · kernel_rfl
  · exact opIs
  apply opF_one (f := (fun x : (List Int) => [L x])) (ok := (fun x : (List Int) => okIs x))
  · rfl
  · kernel_rfl
  · exact opIs
theorem okI_le {n : Int} (h : okI n) : n ≤ 9223372036854775807 := by
  simp [okI, Lit.wf, IntKind.min, IntKind.max, IntKind.signed, IntKind.bits] at h
  omega
theorem defs_le {r : Rw} (h : okR r) : ∀ x ∈ Def.defs r, x ≤ 9223372036854775807 := by
  intro x hx
  unfold Def.defs at hx
  rcases List.mem_append.1 hx with hx | hx
  · exact okI_le (h.2.1.2 x hx)
  · obtain ⟨d, hd, rfl⟩ := List.mem_map.1 hx
    rcases List.mem_append.1 hd with hd | hd
    · exact okI_le (h.2.2.1.2 d hd).1
    · exact okI_le (h.2.2.2.1.2 d hd).1
theorem uses_le {r : Rw} (h : okR r) : ∀ x ∈ Def.uses r, x ≤ 9223372036854775807 := by
  intro x hx
  unfold Def.uses at hx
  rcases List.mem_append.1 hx with hx | hx
  · rcases List.mem_append.1 hx with hx | hx
    · rcases List.mem_append.1 hx with hx | hx
      · exact okI_le (h.2.2.2.2.1.2 x hx)
      · exact okI_le (h.2.2.2.2.2.2 x hx)
    · obtain ⟨d, hd, rfl⟩ := List.mem_map.1 hx
      exact okI_le (h.2.2.1.2 d hd).2.1
  · obtain ⟨d, hd, hx⟩ := List.mem_flatMap.1 hx
    have := h.2.2.2.1.2 d hd
    simp only [List.mem_cons, List.not_mem_nil, or_false] at hx
    rcases hx with rfl | rfl
    · exact okI_le this.2.1
    · exact okI_le this.2.2
abbrev okL (l : Lt) : Prop := okI l.next ∧ okI l.reset
abbrev okLs (l : List Lt) : Prop := l.length ≤ maxLen ∧ ∀ x ∈ l, okL x
abbrev okA (g : An) : Prop := okI g.a ∧ okI g.b
abbrev okAs (l : List An) : Prop := l.length ≤ maxLen ∧ ∀ x ∈ l, okA x
abbrev okC (c : Ci) : Prop := okI c.ins ∧ okLs c.lats ∧ okAs c.ands ∧ okIs c.bads ∧ okIs c.cons
theorem opL : OpA Tryd.prog 52 2 (fun l : Lt => [I l.next, I l.reset]) okL := by
  refine opA_struct (f := (fun x : Int × Int => [I x.1] ++ ([I x.2]))) (ok := (fun x : Int × Int => okI x.1 ∧ okI x.2)) Tryd.underlying52 (by kernel_rfl) ?_ (fun x => (⟨x.1, x.2⟩ : Lt)) _ (fun _ => rfl) okL (fun _ h => h)
  show OpF _ [_, _] 0 _ _ _
  apply opF_cons (s1 := 1) (s2 := 1) (f := (fun x : Int => [I x])) (ok := (fun x : Int => okI x)) (g := (fun x : Int => [I x])) (ok' := (fun x : Int => okI x))
  · rfl
  · kernel_rfl
  · exact opI
  apply opF_one (f := (fun x : Int => [I x])) (ok := (fun x : Int => okI x))
  · rfl
  · kernel_rfl
  · exact opI
theorem opLs : OpA Tryd.prog 38 1 (fun l : List Lt => [.sl (l.map Lt.d)]) okLs := opA_slice Tryd.underlying38 (by kernel_rfl) (by decide) opL Lt.d (fun _ _ => rfl)
theorem opN : OpA Tryd.prog 76 2 (fun g : An => [I g.a, I g.b]) okA := by
  refine opA_struct (f := (fun x : Int × Int => [I x.1] ++ ([I x.2]))) (ok := (fun x : Int × Int => okI x.1 ∧ okI x.2)) Tryd.underlying76 (by kernel_rfl) ?_ (fun x => (⟨x.1, x.2⟩ : An)) _ (fun _ => rfl) okA (fun _ h => h)
  show OpF _ [_, _] 0 _ _ _
  apply opF_cons (s1 := 1) (s2 := 1) (f := (fun x : Int => [I x])) (ok := (fun x : Int => okI x)) (g := (fun x : Int => [I x])) (ok' := (fun x : Int => okI x))
  · rfl
  · kernel_rfl
  · exact opI
  apply opF_one (f := (fun x : Int => [I x])) (ok := (fun x : Int => okI x))
  · rfl
  · kernel_rfl
  · exact opI
theorem opNs : OpA Tryd.prog 39 1 (fun l : List An => [.sl (l.map An.d)]) okAs := opA_slice Tryd.underlying39 (by kernel_rfl) (by decide) opN An.d (fun _ _ => rfl)
theorem opC : OpA Tryd.prog 41 5 (fun c : Ci => [I c.ins, .sl (c.lats.map Lt.d), .sl (c.ands.map An.d), L c.bads, L c.cons]) okC := by
  refine opA_struct (f := (fun x : Int × (List Lt) × (List An) × (List Int) × (List Int) => [I x.1] ++ ([D.sl (x.2.1.map Lt.d)] ++ ([D.sl (x.2.2.1.map An.d)] ++ ([L x.2.2.2.1] ++ ([L x.2.2.2.2])))))) (ok := (fun x : Int × (List Lt) × (List An) × (List Int) × (List Int) => okI x.1 ∧ okLs x.2.1 ∧ okAs x.2.2.1 ∧ okIs x.2.2.2.1 ∧ okIs x.2.2.2.2)) Tryd.underlying41 (by kernel_rfl) ?_ (fun x => (⟨x.1, x.2.1, x.2.2.1, x.2.2.2.1, x.2.2.2.2⟩ : Ci)) _ (fun _ => rfl) okC (fun _ h => h)
  show OpF _ [_, _, _, _, _] 0 _ _ _
  apply opF_cons (s1 := 1) (s2 := 4) (f := (fun x : Int => [I x])) (ok := (fun x : Int => okI x)) (g := (fun x : (List Lt) × (List An) × (List Int) × (List Int) => [D.sl (x.1.map Lt.d)] ++ ([D.sl (x.2.1.map An.d)] ++ ([L x.2.2.1] ++ ([L x.2.2.2]))))) (ok' := (fun x : (List Lt) × (List An) × (List Int) × (List Int) => okLs x.1 ∧ okAs x.2.1 ∧ okIs x.2.2.1 ∧ okIs x.2.2.2))
  · rfl
  · kernel_rfl
  · exact opI
  apply opF_cons (s1 := 1) (s2 := 3) (f := (fun x : (List Lt) => [D.sl (x.map Lt.d)])) (ok := (fun x : (List Lt) => okLs x)) (g := (fun x : (List An) × (List Int) × (List Int) => [D.sl (x.1.map An.d)] ++ ([L x.2.1] ++ ([L x.2.2])))) (ok' := (fun x : (List An) × (List Int) × (List Int) => okAs x.1 ∧ okIs x.2.1 ∧ okIs x.2.2))
  · rfl
  · kernel_rfl
  · exact opLs
  apply opF_cons (s1 := 1) (s2 := 2) (f := (fun x : (List An) => [D.sl (x.map An.d)])) (ok := (fun x : (List An) => okAs x)) (g := (fun x : (List Int) × (List Int) => [L x.1] ++ ([L x.2]))) (ok' := (fun x : (List Int) × (List Int) => okIs x.1 ∧ okIs x.2))
  · rfl
  · kernel_rfl
  · exact opNs
  apply opF_cons (s1 := 1) (s2 := 1) (f := (fun x : (List Int) => [L x])) (ok := (fun x : (List Int) => okIs x)) (g := (fun x : (List Int) => [L x])) (ok' := (fun x : (List Int) => okIs x))
  · rfl
  · kernel_rfl
  · exact opIs
  apply opF_one (f := (fun x : (List Int) => [L x])) (ok := (fun x : (List Int) => okIs x))
  · rfl
  · kernel_rfl
  · exact opIs
/-- The table of powers lies as the row's condition says. -/
theorem gok {W : World} (h : laidMetH Tryd.prog Rows.asciiRawsRow.laid W) : GOk W (Old W) := by
  rw [MakeChecks.laidMetH_plain _ _ _ (by kernel_rfl)] at h
  have hT : Lib.TabIs Tryd.prog W "internal/strconv.uint64pow10" .u64 pow10 :=
    Lib.tabIs_of_head (g := 0) (t := 127) (e := 120) (n := 20) (by kernel_rfl) (by kernel_rfl) Tryd.underlying127 Tryd.underlying120 (by kernel_rfl) (by kernel_rfl) h.tail.tail
  refine ⟨fun g x hx => (nomatch hx), fun p hp => ?_⟩
  obtain rfl := List.mem_singleton.1 hp
  have hg : Tryd.prog.globalNamed "internal/strconv.uint64pow10" = some 0 := by kernel_rfl
  unfold Lib.TabIs World.var? at hT
  rw [hg, Option.bind_some] at hT
  cases hh : W.heap[0]? with
  | none => rw [hh] at hT; cases hT
  | some o =>
    rw [hh] at hT
    cases o with
    | cells cs e fz =>
      simp only [Option.some.injEq] at hT
      refine ⟨(Array.getElem?_eq_some_iff.1 hh).1, e, fz, ?_⟩
      rw [← hT]; first | done | exact hh
    | _ => cases hT
end Go.Proofs.YtihbpbdmhiihnaaDoor.Lk
/- ascii.line: round by round. -/
namespace Go.Proofs.YtihbpbdmhiihnaaDoor.Sy.Asc
open Go Go.Proofs.YtihbpbdmhiihnaaDoor.Ab Go.Proofs.YtihbpbdmhiihnaaDoor.Sy
set_option maxRecDepth 1000000
set_option linter.unusedVariables false
def Hl (ns : List Int) (l e : List UInt8) (sl : List (Nat × V)) : St := ⟨mk 23 ([(0, .ptr 0 0), (4, .d (.str e)), (7, .d (L ns)), (8, .d (I (ns.map I).length))] ++ sl) [], Str.SB l⟩
def El (l : List UInt8) : St := ⟨mk 23 [(0, .ptr 0 0)] [], Str.SB l⟩
section
variable (ns : List Int) (l e s : List UInt8) (i : Nat) (v : Int)
theorem l1 : round Tryd.prog wr false O (loopOf Tryd.prog 26 0) (Hl ns l e [(9, .d (I i))]) [It.br true, It.el i (I (ns.getD i default)), It.icall [0, 1] (Str.wrote e) (Str.SB (l ++ e)), It.icall [] (V.d (D.str s)) [], It.icall [0, 1] (Str.wrote s) (Str.SB (l ++ e ++ s)), It.is (↑(i + 1) : Int)] [0, 4, 7, 8, 9] 2 = some (.normal, Hl ns (l ++ e ++ s) [32] [(9, .d (I (i + 1 : Nat)))],
  [decide ((↑i : Int) < (↑(List.map I ns).length : Int)) = true,
   (↑i : Int) = (↑i : Int) ∧ (List.map I ns)[i]? = some (I (ns.getD i default)),
   ICall Tryd.prog 25 [V.ptr 0 0, V.d (D.str e)] [B.bx (some 58) [V.ptr 0 0, V.arr 1], B.lst 5 (List.map u8 l)] (Str.wrote e) (Str.SB (l ++ e)),
   ICall Tryd.prog 51 [V.d (I (ns.getD i default))] [] (V.d (D.str s)) [],
   ICall Tryd.prog 25 [V.ptr 0 0, V.d (D.str s)] [B.bx (some 58) [V.ptr 0 0, V.arr 1], B.lst 5 (List.map u8 (l ++ e))] (Str.wrote s) (Str.SB (l ++ e ++ s)),
   IntKind.i64.wrap ((↑i : Int) + 1) = (↑(i + 1) : Int)]) := by kernel_rfl
theorem l2 : round Tryd.prog wr false O (loopOf Tryd.prog 26 0) (Hl ns l e [(9, .d (I i))]) [It.br false] [0] 2 = some (.exit 0, El l,
  [decide ((↑i : Int) < (↑(List.map I ns).length : Int)) = false]) := by kernel_rfl
theorem l3  : callX Tryd.prog wr false O 26 [.ptr 0 0, .d (L ns)] [.bx (some 58) [.ptr 0 0, .arr 1], .lst 5 (l.map u8)] [It.lp [0, 4, 7, 8, 9] (Ex.exit 0) (El e), It.icall [0, 1] (Str.wrote [10]) (Str.SB (e ++ [10]))] = some (V.tup [], [.bx (some 58) [.ptr 0 0, .arr 1], .lst 5 ((e ++ [10]).map u8)],
  [GoesL Tryd.prog (loopOf Tryd.prog 26 0) (⟨mk 23 [(0, V.ptr 0 0), (4, V.d (D.str (ByteArray.mk #[]).data.toList)), (7, V.d (D.sl (List.map I ns))), (8, V.d (D.int IntKind.i64 (↑(List.map I ns).length : Int))), (9, V.d (D.int IntKind.i64 0))] [], [B.bx (some 58) [V.ptr 0 0, V.arr 1], B.lst 5 (List.map u8 l)]⟩) (Ex.exit 0) (El e),
   ICall Tryd.prog 25 [V.ptr 0 0, V.d (D.str (ByteArray.mk #[10]).data.toList)] [B.bx (some 58) [V.ptr 0 0, V.arr 1], B.lst 5 (List.map u8 e)] (Str.wrote [10]) (Str.SB (e ++ [10]))]) := by kernel_rfl
end
end Go.Proofs.YtihbpbdmhiihnaaDoor.Sy.Asc
/- ascii.line, whole. -/
namespace Go.Proofs.YtihbpbdmhiihnaaDoor.Sy.Asc
open Go Go.Proofs.YtihbpbdmhiihnaaDoor.Ab Go.Proofs.YtihbpbdmhiihnaaDoor.Sy
set_option maxRecDepth 1000000
set_option linter.unusedVariables false
/-- Numbers behind something, with a blank between each two. -/
def body : List UInt8 → List Int → List UInt8
  | _, [] => []
  | e, n :: r => e ++ Lib.itoa n ++ body [32] r
/-- A line of numbers. -/
def lineS (ns : List Int) : List UInt8 := body [] ns ++ [10]
/-- A number that an int holds. -/
def I64 (n : Int) : Prop := -9223372036854775808 ≤ n ∧ n ≤ 9223372036854775807
theorem body_len : ∀ (ns : List Int) (e : List UInt8), (∀ n ∈ ns, I64 n) → e.length ≤ 1 → (body e ns).length ≤ 22 * ns.length
  | [], e, _, _ => by simp [body]
  | n :: r, e, h, he => by
    have h1 := Lib.itoa_length_le n (h n (by simp)).1 (h n (by simp)).2
    have h2 := body_len r [32] (fun x hx => h x (by simp [hx])) (by simp)
    simp only [body, List.length_append, List.length_cons]
    omega
theorem lineS_len (ns : List Int) (h : ∀ n ∈ ns, I64 n) : (lineS ns).length ≤ 22 * ns.length + 1 := by
  have := body_len ns [] h (by simp)
  simp only [lineS, List.length_append, List.length_cons, List.length_nil]
  omega
theorem line_loop (ns : List Int) (hn : ∀ n ∈ ns, I64 n) (hl : ns.length ≤ 100000) (d : Nat) : ∀ (i : Nat) (l e : List UInt8), ns.length - i = d → i ≤ ns.length → e.length ≤ 1 → l.length + 22 * d ≤ 500000000 →
    GoesL Tryd.prog (loopOf Tryd.prog 26 0) (Hl ns l e [(9, .d (I i))]) (.exit 0) (El (l ++ body e (ns.drop i))) := by
  induction d with
  | zero =>
    intro i l e hd hi he hb
    obtain rfl : i = ns.length := by omega
    rw [List.drop_length, body, List.append_nil]
    exact .stop hO hm (l2 ns l e ns.length) (by simp) (decide_eq_false (by rw [List.length_map]; omega))
  | succ d ih =>
    intro i l e hd hi he hb
    have hlt : i < ns.length := by omega
    have hmem : ns.getD i default ∈ ns := by rw [List.getD_eq_getElem?_getD, List.getElem?_eq_getElem hlt]; exact List.getElem_mem hlt
    obtain ⟨n0, n1⟩ := hn _ hmem
    have h1 := Lib.itoa_length_le _ n0 n1
    rw [drop_getD ns i hlt, body, ← List.append_assoc, ← List.append_assoc]
    refine .step hO hm (l1 ns l e (Lib.itoa (ns.getD i default)) i) ⟨decide_eq_true (by rw [List.length_map]; omega), ⟨rfl, get_map I ns i hlt⟩, Str.write e l (by omega), Str.itoa _ n0 n1, Str.write _ _ (by rw [List.length_append]; omega), wrap_succ (by omega)⟩ ?_
    exact ih (i + 1) _ [32] (by omega) (by omega) (by simp) (by rw [List.length_append, List.length_append]; omega)
theorem line (ns : List Int) (l : List UInt8) (hn : ∀ n ∈ ns, I64 n) (hl : ns.length ≤ 100000) (hb : l.length ≤ 400000000) :
    ICall Tryd.prog 26 [.ptr 0 0, .d (L ns)] (Str.SB l) (.tup []) (Str.SB (l ++ lineS ns)) := by
  have h1 := body_len ns [] hn (by simp)
  have := callX_ok hO hm (l3 ns l (l ++ body [] ns)) ⟨by
    have := line_loop ns hn hl ns.length 0 l [] (by omega) (by omega) (by simp) (by omega)
    rwa [List.drop_zero] at this, Str.write [10] _ (by rw [List.length_append, List.length_singleton]; omega)⟩
  rw [List.append_assoc] at this
  exact this
end Go.Proofs.YtihbpbdmhiihnaaDoor.Sy.Asc
/- The closures of order.Check, on symbols. -/
namespace Go.Proofs.YtihbpbdmhiihnaaDoor.Sy
open Go Go.Proofs.YtihbpbdmhiihnaaDoor.Ab
set_option maxRecDepth 1000000
def offB (most x : Int) : Bool := decide (x < 0) || decide (x / 2 > most)
def ownB (most x : Int) : Bool := offB most x || (decide (x < 2) || (x % 2 == 1))
def reB (d : Df) : Bool := decide (d.b < 0) || decide (d.b > 2)
def looseB (kn : List Bool) (x : Int) : Bool := !kn.getD (x / 2).toNat default
theorem quo2 {x : Int} (h : 0 ≤ x) (h1 : x ≤ 9223372036854775807) : IntKind.i64.wrap (x.tdiv 2) = x / 2 := by
  rw [Int.tdiv_eq_ediv_of_nonneg h]; exact wrap_id (by omega) (by omega)
theorem rem2 {x : Int} (h : 0 ≤ x) : x.tmod 2 = x % 2 := Int.tmod_eq_emod_of_nonneg h
section
variable (x : Int) (d : Df) (r : Rw) (kn : List Bool)
theorem off1 : callX Tryd.prog wr false O 41 [.d (I x), .ptr 0 0] [r.box] [.br true] = some (.d (.bool true), [r.box], [decide (x < 0) = true]) := by kernel_rfl
theorem off2 (b : Bool) : callX Tryd.prog wr false O 41 [.d (I x), .ptr 0 0] [r.box] [.br false, .is (x / 2), .br b] = some (.d (.bool b), [r.box], [decide (x < 0) = false, IntKind.i64.wrap (x.tdiv 2) = x / 2, decide (x / 2 > r.most) = b]) := by kernel_rfl
theorem off (hx : x ≤ 9223372036854775807) : ICall Tryd.prog 41 [.d (I x), .ptr 0 0] [r.box] (.d (.bool (offB r.most x))) [r.box] := by
  unfold offB
  by_cases h : x < 0
  · rw [decide_eq_true h, Bool.true_or]; exact callX_ok hO hm (off1 x r) (by simpa [AllP] using h)
  · rw [decide_eq_false h, Bool.false_or]
    exact callX_ok hO hm (off2 x r _) ⟨by simpa using h, quo2 (by omega) hx, rfl⟩
theorem own1 : callX Tryd.prog wr false O 45 [.d (I x), .ptr 0 0] [.box [.func 41 [.ptr 1 0]], r.box] [.icall [1] (.d (.bool true)) [r.box]] = some (.d (.bool true), [.box [.func 41 [.ptr 1 0]], r.box], [ICall Tryd.prog 41 [.d (I x), .ptr 0 0] [r.box] (.d (.bool true)) [r.box]]) := by kernel_rfl
theorem own2 : callX Tryd.prog wr false O 45 [.d (I x), .ptr 0 0] [.box [.func 41 [.ptr 1 0]], r.box] [.icall [1] (.d (.bool false)) [r.box], .br true] = some (.d (.bool true), [.box [.func 41 [.ptr 1 0]], r.box], [ICall Tryd.prog 41 [.d (I x), .ptr 0 0] [r.box] (.d (.bool false)) [r.box], decide (x < 2) = true]) := by kernel_rfl
theorem own3 (b : Bool) : callX Tryd.prog wr false O 45 [.d (I x), .ptr 0 0] [.box [.func 41 [.ptr 1 0]], r.box] [.icall [1] (.d (.bool false)) [r.box], .br false, .is (x % 2), .br b] = some (.d (.bool b), [.box [.func 41 [.ptr 1 0]], r.box], [ICall Tryd.prog 41 [.d (I x), .ptr 0 0] [r.box] (.d (.bool false)) [r.box], decide (x < 2) = false, x.tmod 2 = x % 2, (x % 2 == 1) = b]) := by kernel_rfl
theorem own (hx : x ≤ 9223372036854775807) : ICall Tryd.prog 45 [.d (I x), .ptr 0 0] [.box [.func 41 [.ptr 1 0]], r.box] (.d (.bool (ownB r.most x))) [.box [.func 41 [.ptr 1 0]], r.box] := by
  have h0 := off x r hx
  unfold ownB
  cases h : offB r.most x with
  | true => rw [h] at h0; exact callX_ok hO hm (own1 x r) h0
  | false =>
    rw [h] at h0
    by_cases h2 : x < 2
    · rw [decide_eq_true h2]; exact callX_ok hO hm (own2 x r) ⟨h0, by simpa [AllP] using h2⟩
    · rw [decide_eq_false h2, Bool.false_or, Bool.false_or]
      exact callX_ok hO hm (own3 x r _) ⟨h0, by simpa using h2, rem2 (by omega), rfl⟩
theorem re1 : callX Tryd.prog wr false O 47 [.d d.d] [] [.br true] = some (.d (.bool true), [], [decide (d.b < 0) = true]) := by kernel_rfl
theorem re2 (b : Bool) : callX Tryd.prog wr false O 47 [.d d.d] [] [.br false, .br b] = some (.d (.bool b), [], [decide (d.b < 0) = false, decide (d.b > 2) = b]) := by kernel_rfl
theorem re : ICall Tryd.prog 47 [.d d.d] [] (.d (.bool (reB d))) [] := by
  unfold reB
  by_cases h : d.b < 0
  · rw [decide_eq_true h, Bool.true_or]; exact callX_ok hO hm (re1 d) (by simpa [AllP] using h)
  · rw [decide_eq_false h, Bool.false_or]
    exact callX_ok hO hm (re2 d _) ⟨by simpa using h, rfl⟩
theorem loose1 (b : Bool) : callX Tryd.prog wr false O 48 [.d (I x), .ptr 0 0] [.box [.arr 1], .lst 4 (kn.map D.bool)] [.is (x / 2), .ix (x / 2).toNat, .el (x / 2).toNat (.bool (kn.getD (x / 2).toNat default)), .br b] = some (.d (.bool b), [.box [.arr 1], .lst 4 (kn.map D.bool)], [IntKind.i64.wrap (x.tdiv 2) = x / 2, x / 2 = (((x / 2).toNat : Nat) : Int) ∧ (x / 2).toNat < (kn.map D.bool).length, (kn.map D.bool)[(x / 2).toNat]? = some (.bool (kn.getD (x / 2).toNat default)), (!kn.getD (x / 2).toNat default) = b]) := by kernel_rfl
theorem loose (h0 : 0 ≤ x) (h1 : x / 2 < (kn.length : Int)) (hx : x ≤ 9223372036854775807) : ICall Tryd.prog 48 [.d (I x), .ptr 0 0] [.box [.arr 1], .lst 4 (kn.map D.bool)] (.d (.bool (looseB kn x))) [.box [.arr 1], .lst 4 (kn.map D.bool)] :=
  callX_ok hO hm (loose1 x kn _) ⟨quo2 h0 hx, ⟨by omega, by rw [List.length_map]; omega⟩, get_map D.bool kn _ (by omega), rfl⟩
end
end Go.Proofs.YtihbpbdmhiihnaaDoor.Sy
/- Whether a list has an element of which a closure says so: spiritlevel/order.Check$1. -/
namespace Go.Proofs.YtihbpbdmhiihnaaDoor.Sy.Oc1
open Go Go.Proofs.YtihbpbdmhiihnaaDoor.Ab Go.Proofs.YtihbpbdmhiihnaaDoor.Sy
set_option maxRecDepth 1000000
set_option linter.unusedVariables false
section
variable (r : Rw) (xs : List Int) (i : Nat)
def H (xs : List Int) (r : Rw) (i : Nat) : St := ⟨mk 19 [(0, .d (.sl (xs.map I))), (1, .func 41 [.ptr 0 0]), (7, .d (I ((xs.map I).length : Nat))), (8, .d (I i))] [], [r.box]⟩
def E (r : Rw) : St := ⟨mk 19 [] [], [r.box]⟩
def R (r : Rw) (i : Nat) : St := ⟨mk 19 [(4, .d (I i))] [], [r.box]⟩
theorem rd1 : round Tryd.prog wr false O (loopOf Tryd.prog 58 0) (H xs r i) [It.br true, It.el i (I (xs.getD i default)), .icall [0] (.d (.bool false)) [r.box], .is ((i + 1 : Nat) : Int)] [0, 1, 7, 8] 1 = some (.normal, H xs r (i + 1),
  [decide ((↑i : Int) < (((xs.map I).length : Nat) : Int)) = true, (↑i : Int) = (↑i : Int) ∧ (xs.map I)[i]? = some (I (xs.getD i default)), ICall Tryd.prog 41 [.d (I (xs.getD i default)), .ptr 0 0] [r.box] (.d (.bool false)) [r.box], IntKind.i64.wrap ((i : Int) + 1) = ((i + 1 : Nat) : Int)]) := by kernel_rfl
theorem rd2 : round Tryd.prog wr false O (loopOf Tryd.prog 58 0) (H xs r i) [It.br true, It.el i (I (xs.getD i default)), .icall [0] (.d (.bool true)) [r.box]] [4] 1 = some (.ret, R r i,
  [decide ((↑i : Int) < (((xs.map I).length : Nat) : Int)) = true, (↑i : Int) = (↑i : Int) ∧ (xs.map I)[i]? = some (I (xs.getD i default)), ICall Tryd.prog 41 [.d (I (xs.getD i default)), .ptr 0 0] [r.box] (.d (.bool true)) [r.box]]) := by kernel_rfl
theorem rd3 : round Tryd.prog wr false O (loopOf Tryd.prog 58 0) (H xs r i) [It.br false] [] 1 = some (.exit 0, E r, [decide ((↑i : Int) < (((xs.map I).length : Nat) : Int)) = false]) := by kernel_rfl
theorem f1 (j : Nat) : callX Tryd.prog wr false O 58 [.d (.sl (xs.map I)), .func 41 [.ptr 0 0]] [r.box] [.lp [0, 1, 7, 8] .ret (R r j)] = some (.d (I j), [r.box], [GoesL Tryd.prog (loopOf Tryd.prog 58 0) (H xs r 0) .ret (R r j)]) := by kernel_rfl
theorem f2 : callX Tryd.prog wr false O 58 [.d (.sl (xs.map I)), .func 41 [.ptr 0 0]] [r.box] [.lp [0, 1, 7, 8] (.exit 0) (E r)] = some (.d (I (-1)), [r.box], [GoesL Tryd.prog (loopOf Tryd.prog 58 0) (H xs r 0) (.exit 0) (E r)]) := by kernel_rfl
theorem g1 (j : Nat) : callX Tryd.prog wr false O 44 [.d (.sl (xs.map I)), .func 41 [.ptr 0 0]] [r.box] [.icall [0] (.d (I j)) [r.box], .br true] = some (.d (.bool true), [r.box], [ICall Tryd.prog 58 [.d (.sl (xs.map I)), .func 41 [.ptr 0 0]] [r.box] (.d (I j)) [r.box], decide ((j : Int) ≥ 0) = true]) := by kernel_rfl
theorem g2 : callX Tryd.prog wr false O 44 [.d (.sl (xs.map I)), .func 41 [.ptr 0 0]] [r.box] [.icall [0] (.d (I (-1))) [r.box], .br false] = some (.d (.bool false), [r.box], [ICall Tryd.prog 58 [.d (.sl (xs.map I)), .func 41 [.ptr 0 0]] [r.box] (.d (I (-1))) [r.box], decide ((-1 : Int) ≥ 0) = false]) := by kernel_rfl
end
/-- ContainsFunc: whether one is such. -/
theorem icall (r : Rw) (xs : List Int) (hl : xs.length ≤ 1000000) (hc : ∀ x ∈ xs, ICall Tryd.prog 41 [.d (I x), .ptr 0 0] [r.box] (.d (.bool (offB r.most x))) [r.box]) : ICall Tryd.prog 44 [.d (.sl (xs.map I)), .func 41 [.ptr 0 0]] [r.box] (.d (.bool (xs.any (offB r.most)))) [r.box] := by
  have hm1 : ∀ i, i < xs.length → xs.getD i default ∈ xs := fun i h => by rw [List.getD_eq_getElem?_getD, List.getElem?_eq_getElem h]; exact List.getElem_mem h
  have hlt : ∀ i, i < xs.length → decide ((↑i : Int) < (((xs.map I).length : Nat) : Int)) = true := fun i h => by simp; omega
  obtain ⟨a1, a2⟩ := any_at xs (fun i => H xs r i) (.exit 0) (R r) (E r) (offB r.most)
    (fun i h hb => .stop hO hm (rd2 r xs i) (by simp) ⟨hlt i h, ⟨rfl, get_map I xs i h⟩, by rw [← hb]; exact hc _ (hm1 i h)⟩)
    (fun i h hb e s hg => .step hO hm (rd1 r xs i) ⟨hlt i h, ⟨rfl, get_map I xs i h⟩, by rw [← hb]; exact hc _ (hm1 i h), wrap_succ (by omega)⟩ hg)
    (.stop hO hm (rd3 r xs xs.length) (by simp) (by simp [AllP])) xs.length 0 rfl (by omega)
  rw [List.drop_zero] at a1 a2
  cases hx : xs.any (offB r.most) with
  | true =>
    obtain ⟨j, hj⟩ := a1 hx
    exact callX_ok hO hm (g1 r xs j) ⟨callX_ok hO hm (f1 r xs j) hj, by simp [AllP]⟩
  | false => exact callX_ok hO hm (g2 r xs) ⟨callX_ok hO hm (f2 r xs) (a2 hx), by simp [AllP]⟩
end Go.Proofs.YtihbpbdmhiihnaaDoor.Sy.Oc1
/- Whether a list has an element of which a closure says so: spiritlevel/order.Check$2. -/
namespace Go.Proofs.YtihbpbdmhiihnaaDoor.Sy.Oc2
open Go Go.Proofs.YtihbpbdmhiihnaaDoor.Ab Go.Proofs.YtihbpbdmhiihnaaDoor.Sy
set_option maxRecDepth 1000000
set_option linter.unusedVariables false
section
variable (r : Rw) (xs : List Int) (i : Nat)
def H (xs : List Int) (r : Rw) (i : Nat) : St := ⟨mk 19 [(0, .d (.sl (xs.map I))), (1, .func 45 [.ptr 0 0]), (7, .d (I ((xs.map I).length : Nat))), (8, .d (I i))] [], [.box [.func 41 [.ptr 1 0]], r.box]⟩
def E (r : Rw) : St := ⟨mk 19 [] [], [.box [.func 41 [.ptr 1 0]], r.box]⟩
def R (r : Rw) (i : Nat) : St := ⟨mk 19 [(4, .d (I i))] [], [.box [.func 41 [.ptr 1 0]], r.box]⟩
theorem rd1 : round Tryd.prog wr false O (loopOf Tryd.prog 58 0) (H xs r i) [It.br true, It.el i (I (xs.getD i default)), .icall [0, 1] (.d (.bool false)) [.box [.func 41 [.ptr 1 0]], r.box], .is ((i + 1 : Nat) : Int)] [0, 1, 7, 8] 2 = some (.normal, H xs r (i + 1),
  [decide ((↑i : Int) < (((xs.map I).length : Nat) : Int)) = true, (↑i : Int) = (↑i : Int) ∧ (xs.map I)[i]? = some (I (xs.getD i default)), ICall Tryd.prog 45 [.d (I (xs.getD i default)), .ptr 0 0] [.box [.func 41 [.ptr 1 0]], r.box] (.d (.bool false)) [.box [.func 41 [.ptr 1 0]], r.box], IntKind.i64.wrap ((i : Int) + 1) = ((i + 1 : Nat) : Int)]) := by kernel_rfl
theorem rd2 : round Tryd.prog wr false O (loopOf Tryd.prog 58 0) (H xs r i) [It.br true, It.el i (I (xs.getD i default)), .icall [0, 1] (.d (.bool true)) [.box [.func 41 [.ptr 1 0]], r.box]] [4] 2 = some (.ret, R r i,
  [decide ((↑i : Int) < (((xs.map I).length : Nat) : Int)) = true, (↑i : Int) = (↑i : Int) ∧ (xs.map I)[i]? = some (I (xs.getD i default)), ICall Tryd.prog 45 [.d (I (xs.getD i default)), .ptr 0 0] [.box [.func 41 [.ptr 1 0]], r.box] (.d (.bool true)) [.box [.func 41 [.ptr 1 0]], r.box]]) := by kernel_rfl
theorem rd3 : round Tryd.prog wr false O (loopOf Tryd.prog 58 0) (H xs r i) [It.br false] [] 2 = some (.exit 0, E r, [decide ((↑i : Int) < (((xs.map I).length : Nat) : Int)) = false]) := by kernel_rfl
theorem f1 (j : Nat) : callX Tryd.prog wr false O 58 [.d (.sl (xs.map I)), .func 45 [.ptr 0 0]] [.box [.func 41 [.ptr 1 0]], r.box] [.lp [0, 1, 7, 8] .ret (R r j)] = some (.d (I j), [.box [.func 41 [.ptr 1 0]], r.box], [GoesL Tryd.prog (loopOf Tryd.prog 58 0) (H xs r 0) .ret (R r j)]) := by kernel_rfl
theorem f2 : callX Tryd.prog wr false O 58 [.d (.sl (xs.map I)), .func 45 [.ptr 0 0]] [.box [.func 41 [.ptr 1 0]], r.box] [.lp [0, 1, 7, 8] (.exit 0) (E r)] = some (.d (I (-1)), [.box [.func 41 [.ptr 1 0]], r.box], [GoesL Tryd.prog (loopOf Tryd.prog 58 0) (H xs r 0) (.exit 0) (E r)]) := by kernel_rfl
theorem g1 (j : Nat) : callX Tryd.prog wr false O 44 [.d (.sl (xs.map I)), .func 45 [.ptr 0 0]] [.box [.func 41 [.ptr 1 0]], r.box] [.icall [0, 1] (.d (I j)) [.box [.func 41 [.ptr 1 0]], r.box], .br true] = some (.d (.bool true), [.box [.func 41 [.ptr 1 0]], r.box], [ICall Tryd.prog 58 [.d (.sl (xs.map I)), .func 45 [.ptr 0 0]] [.box [.func 41 [.ptr 1 0]], r.box] (.d (I j)) [.box [.func 41 [.ptr 1 0]], r.box], decide ((j : Int) ≥ 0) = true]) := by kernel_rfl
theorem g2 : callX Tryd.prog wr false O 44 [.d (.sl (xs.map I)), .func 45 [.ptr 0 0]] [.box [.func 41 [.ptr 1 0]], r.box] [.icall [0, 1] (.d (I (-1))) [.box [.func 41 [.ptr 1 0]], r.box], .br false] = some (.d (.bool false), [.box [.func 41 [.ptr 1 0]], r.box], [ICall Tryd.prog 58 [.d (.sl (xs.map I)), .func 45 [.ptr 0 0]] [.box [.func 41 [.ptr 1 0]], r.box] (.d (I (-1))) [.box [.func 41 [.ptr 1 0]], r.box], decide ((-1 : Int) ≥ 0) = false]) := by kernel_rfl
end
/-- ContainsFunc: whether one is such. -/
theorem icall (r : Rw) (xs : List Int) (hl : xs.length ≤ 1000000) (hc : ∀ x ∈ xs, ICall Tryd.prog 45 [.d (I x), .ptr 0 0] [.box [.func 41 [.ptr 1 0]], r.box] (.d (.bool (ownB r.most x))) [.box [.func 41 [.ptr 1 0]], r.box]) : ICall Tryd.prog 44 [.d (.sl (xs.map I)), .func 45 [.ptr 0 0]] [.box [.func 41 [.ptr 1 0]], r.box] (.d (.bool (xs.any (ownB r.most)))) [.box [.func 41 [.ptr 1 0]], r.box] := by
  have hm1 : ∀ i, i < xs.length → xs.getD i default ∈ xs := fun i h => by rw [List.getD_eq_getElem?_getD, List.getElem?_eq_getElem h]; exact List.getElem_mem h
  have hlt : ∀ i, i < xs.length → decide ((↑i : Int) < (((xs.map I).length : Nat) : Int)) = true := fun i h => by simp; omega
  obtain ⟨a1, a2⟩ := any_at xs (fun i => H xs r i) (.exit 0) (R r) (E r) (ownB r.most)
    (fun i h hb => .stop hO hm (rd2 r xs i) (by simp) ⟨hlt i h, ⟨rfl, get_map I xs i h⟩, by rw [← hb]; exact hc _ (hm1 i h)⟩)
    (fun i h hb e s hg => .step hO hm (rd1 r xs i) ⟨hlt i h, ⟨rfl, get_map I xs i h⟩, by rw [← hb]; exact hc _ (hm1 i h), wrap_succ (by omega)⟩ hg)
    (.stop hO hm (rd3 r xs xs.length) (by simp) (by simp [AllP])) xs.length 0 rfl (by omega)
  rw [List.drop_zero] at a1 a2
  cases hx : xs.any (ownB r.most) with
  | true =>
    obtain ⟨j, hj⟩ := a1 hx
    exact callX_ok hO hm (g1 r xs j) ⟨callX_ok hO hm (f1 r xs j) hj, by simp [AllP]⟩
  | false => exact callX_ok hO hm (g2 r xs) ⟨callX_ok hO hm (f2 r xs) (a2 hx), by simp [AllP]⟩
end Go.Proofs.YtihbpbdmhiihnaaDoor.Sy.Oc2
/- Whether a list has an element of which a closure says so: spiritlevel/order.Check$3. -/
namespace Go.Proofs.YtihbpbdmhiihnaaDoor.Sy.Oc3
open Go Go.Proofs.YtihbpbdmhiihnaaDoor.Ab Go.Proofs.YtihbpbdmhiihnaaDoor.Sy
set_option maxRecDepth 1000000
set_option linter.unusedVariables false
section
variable  (xs : List Df) (i : Nat)
def H (xs : List Df)  (i : Nat) : St := ⟨mk 19 [(0, .d (.sl (xs.map Df.d))), (1, .func 47 []), (7, .d (I ((xs.map Df.d).length : Nat))), (8, .d (I i))] [], []⟩
def E  : St := ⟨mk 19 [] [], []⟩
def R  (i : Nat) : St := ⟨mk 19 [(4, .d (I i))] [], []⟩
theorem rd1 : round Tryd.prog wr false O (loopOf Tryd.prog 59 0) (H xs  i) [It.br true, It.el i (Df.d (xs.getD i default)), .icall [] (.d (.bool false)) [], .is ((i + 1 : Nat) : Int)] [0, 1, 7, 8] 0 = some (.normal, H xs  (i + 1),
  [decide ((↑i : Int) < (((xs.map Df.d).length : Nat) : Int)) = true, (↑i : Int) = (↑i : Int) ∧ (xs.map Df.d)[i]? = some (Df.d (xs.getD i default)), ICall Tryd.prog 47 [.d (Df.d (xs.getD i default))] [] (.d (.bool false)) [], IntKind.i64.wrap ((i : Int) + 1) = ((i + 1 : Nat) : Int)]) := by kernel_rfl
theorem rd2 : round Tryd.prog wr false O (loopOf Tryd.prog 59 0) (H xs  i) [It.br true, It.el i (Df.d (xs.getD i default)), .icall [] (.d (.bool true)) []] [4] 0 = some (.ret, R  i,
  [decide ((↑i : Int) < (((xs.map Df.d).length : Nat) : Int)) = true, (↑i : Int) = (↑i : Int) ∧ (xs.map Df.d)[i]? = some (Df.d (xs.getD i default)), ICall Tryd.prog 47 [.d (Df.d (xs.getD i default))] [] (.d (.bool true)) []]) := by kernel_rfl
theorem rd3 : round Tryd.prog wr false O (loopOf Tryd.prog 59 0) (H xs  i) [It.br false] [] 0 = some (.exit 0, E , [decide ((↑i : Int) < (((xs.map Df.d).length : Nat) : Int)) = false]) := by kernel_rfl
theorem f1 (j : Nat) : callX Tryd.prog wr false O 59 [.d (.sl (xs.map Df.d)), .func 47 []] [] [.lp [0, 1, 7, 8] .ret (R  j)] = some (.d (I j), [], [GoesL Tryd.prog (loopOf Tryd.prog 59 0) (H xs  0) .ret (R  j)]) := by kernel_rfl
theorem f2 : callX Tryd.prog wr false O 59 [.d (.sl (xs.map Df.d)), .func 47 []] [] [.lp [0, 1, 7, 8] (.exit 0) (E )] = some (.d (I (-1)), [], [GoesL Tryd.prog (loopOf Tryd.prog 59 0) (H xs  0) (.exit 0) (E )]) := by kernel_rfl
theorem g1 (j : Nat) : callX Tryd.prog wr false O 46 [.d (.sl (xs.map Df.d)), .func 47 []] [] [.icall [] (.d (I j)) [], .br true] = some (.d (.bool true), [], [ICall Tryd.prog 59 [.d (.sl (xs.map Df.d)), .func 47 []] [] (.d (I j)) [], decide ((j : Int) ≥ 0) = true]) := by kernel_rfl
theorem g2 : callX Tryd.prog wr false O 46 [.d (.sl (xs.map Df.d)), .func 47 []] [] [.icall [] (.d (I (-1))) [], .br false] = some (.d (.bool false), [], [ICall Tryd.prog 59 [.d (.sl (xs.map Df.d)), .func 47 []] [] (.d (I (-1))) [], decide ((-1 : Int) ≥ 0) = false]) := by kernel_rfl
end
/-- ContainsFunc: whether one is such. -/
theorem icall  (xs : List Df) (hl : xs.length ≤ 1000000) (hc : ∀ x ∈ xs, ICall Tryd.prog 47 [.d (Df.d x)] [] (.d (.bool (reB x))) []) : ICall Tryd.prog 46 [.d (.sl (xs.map Df.d)), .func 47 []] [] (.d (.bool (xs.any (reB)))) [] := by
  have hm1 : ∀ i, i < xs.length → xs.getD i default ∈ xs := fun i h => by rw [List.getD_eq_getElem?_getD, List.getElem?_eq_getElem h]; exact List.getElem_mem h
  have hlt : ∀ i, i < xs.length → decide ((↑i : Int) < (((xs.map Df.d).length : Nat) : Int)) = true := fun i h => by simp; omega
  obtain ⟨a1, a2⟩ := any_at xs (fun i => H xs  i) (.exit 0) (R ) (E ) (reB)
    (fun i h hb => .stop hO hm (rd2  xs i) (by simp) ⟨hlt i h, ⟨rfl, get_map Df.d xs i h⟩, by rw [← hb]; exact hc _ (hm1 i h)⟩)
    (fun i h hb e s hg => .step hO hm (rd1  xs i) ⟨hlt i h, ⟨rfl, get_map Df.d xs i h⟩, by rw [← hb]; exact hc _ (hm1 i h), wrap_succ (by omega)⟩ hg)
    (.stop hO hm (rd3  xs xs.length) (by simp) (by simp [AllP])) xs.length 0 rfl (by omega)
  rw [List.drop_zero] at a1 a2
  cases hx : xs.any (reB) with
  | true =>
    obtain ⟨j, hj⟩ := a1 hx
    exact callX_ok hO hm (g1  xs j) ⟨callX_ok hO hm (f1  xs j) hj, by simp [AllP]⟩
  | false => exact callX_ok hO hm (g2  xs) ⟨callX_ok hO hm (f2  xs) (a2 hx), by simp [AllP]⟩
end Go.Proofs.YtihbpbdmhiihnaaDoor.Sy.Oc3
/- Whether a list has an element of which a closure says so: spiritlevel/order.Check$4. -/
namespace Go.Proofs.YtihbpbdmhiihnaaDoor.Sy.Oc4
open Go Go.Proofs.YtihbpbdmhiihnaaDoor.Ab Go.Proofs.YtihbpbdmhiihnaaDoor.Sy
set_option maxRecDepth 1000000
set_option linter.unusedVariables false
section
variable (kn : List Bool) (xs : List Int) (i : Nat)
def H (xs : List Int) (kn : List Bool) (i : Nat) : St := ⟨mk 19 [(0, .d (.sl (xs.map I))), (1, .func 48 [.ptr 0 0]), (7, .d (I ((xs.map I).length : Nat))), (8, .d (I i))] [], [.box [.arr 1], .lst 4 (kn.map D.bool)]⟩
def E (kn : List Bool) : St := ⟨mk 19 [] [], [.box [.arr 1], .lst 4 (kn.map D.bool)]⟩
def R (kn : List Bool) (i : Nat) : St := ⟨mk 19 [(4, .d (I i))] [], [.box [.arr 1], .lst 4 (kn.map D.bool)]⟩
theorem rd1 : round Tryd.prog wr false O (loopOf Tryd.prog 58 0) (H xs kn i) [It.br true, It.el i (I (xs.getD i default)), .icall [0, 1] (.d (.bool false)) [.box [.arr 1], .lst 4 (kn.map D.bool)], .is ((i + 1 : Nat) : Int)] [0, 1, 7, 8] 2 = some (.normal, H xs kn (i + 1),
  [decide ((↑i : Int) < (((xs.map I).length : Nat) : Int)) = true, (↑i : Int) = (↑i : Int) ∧ (xs.map I)[i]? = some (I (xs.getD i default)), ICall Tryd.prog 48 [.d (I (xs.getD i default)), .ptr 0 0] [.box [.arr 1], .lst 4 (kn.map D.bool)] (.d (.bool false)) [.box [.arr 1], .lst 4 (kn.map D.bool)], IntKind.i64.wrap ((i : Int) + 1) = ((i + 1 : Nat) : Int)]) := by kernel_rfl
theorem rd2 : round Tryd.prog wr false O (loopOf Tryd.prog 58 0) (H xs kn i) [It.br true, It.el i (I (xs.getD i default)), .icall [0, 1] (.d (.bool true)) [.box [.arr 1], .lst 4 (kn.map D.bool)]] [4] 2 = some (.ret, R kn i,
  [decide ((↑i : Int) < (((xs.map I).length : Nat) : Int)) = true, (↑i : Int) = (↑i : Int) ∧ (xs.map I)[i]? = some (I (xs.getD i default)), ICall Tryd.prog 48 [.d (I (xs.getD i default)), .ptr 0 0] [.box [.arr 1], .lst 4 (kn.map D.bool)] (.d (.bool true)) [.box [.arr 1], .lst 4 (kn.map D.bool)]]) := by kernel_rfl
theorem rd3 : round Tryd.prog wr false O (loopOf Tryd.prog 58 0) (H xs kn i) [It.br false] [] 2 = some (.exit 0, E kn, [decide ((↑i : Int) < (((xs.map I).length : Nat) : Int)) = false]) := by kernel_rfl
theorem f1 (j : Nat) : callX Tryd.prog wr false O 58 [.d (.sl (xs.map I)), .func 48 [.ptr 0 0]] [.box [.arr 1], .lst 4 (kn.map D.bool)] [.lp [0, 1, 7, 8] .ret (R kn j)] = some (.d (I j), [.box [.arr 1], .lst 4 (kn.map D.bool)], [GoesL Tryd.prog (loopOf Tryd.prog 58 0) (H xs kn 0) .ret (R kn j)]) := by kernel_rfl
theorem f2 : callX Tryd.prog wr false O 58 [.d (.sl (xs.map I)), .func 48 [.ptr 0 0]] [.box [.arr 1], .lst 4 (kn.map D.bool)] [.lp [0, 1, 7, 8] (.exit 0) (E kn)] = some (.d (I (-1)), [.box [.arr 1], .lst 4 (kn.map D.bool)], [GoesL Tryd.prog (loopOf Tryd.prog 58 0) (H xs kn 0) (.exit 0) (E kn)]) := by kernel_rfl
theorem g1 (j : Nat) : callX Tryd.prog wr false O 44 [.d (.sl (xs.map I)), .func 48 [.ptr 0 0]] [.box [.arr 1], .lst 4 (kn.map D.bool)] [.icall [0, 1] (.d (I j)) [.box [.arr 1], .lst 4 (kn.map D.bool)], .br true] = some (.d (.bool true), [.box [.arr 1], .lst 4 (kn.map D.bool)], [ICall Tryd.prog 58 [.d (.sl (xs.map I)), .func 48 [.ptr 0 0]] [.box [.arr 1], .lst 4 (kn.map D.bool)] (.d (I j)) [.box [.arr 1], .lst 4 (kn.map D.bool)], decide ((j : Int) ≥ 0) = true]) := by kernel_rfl
theorem g2 : callX Tryd.prog wr false O 44 [.d (.sl (xs.map I)), .func 48 [.ptr 0 0]] [.box [.arr 1], .lst 4 (kn.map D.bool)] [.icall [0, 1] (.d (I (-1))) [.box [.arr 1], .lst 4 (kn.map D.bool)], .br false] = some (.d (.bool false), [.box [.arr 1], .lst 4 (kn.map D.bool)], [ICall Tryd.prog 58 [.d (.sl (xs.map I)), .func 48 [.ptr 0 0]] [.box [.arr 1], .lst 4 (kn.map D.bool)] (.d (I (-1))) [.box [.arr 1], .lst 4 (kn.map D.bool)], decide ((-1 : Int) ≥ 0) = false]) := by kernel_rfl
end
/-- ContainsFunc: whether one is such. -/
theorem icall (kn : List Bool) (xs : List Int) (hl : xs.length ≤ 1000000) (hc : ∀ x ∈ xs, ICall Tryd.prog 48 [.d (I x), .ptr 0 0] [.box [.arr 1], .lst 4 (kn.map D.bool)] (.d (.bool (looseB kn x))) [.box [.arr 1], .lst 4 (kn.map D.bool)]) : ICall Tryd.prog 44 [.d (.sl (xs.map I)), .func 48 [.ptr 0 0]] [.box [.arr 1], .lst 4 (kn.map D.bool)] (.d (.bool (xs.any (looseB kn)))) [.box [.arr 1], .lst 4 (kn.map D.bool)] := by
  have hm1 : ∀ i, i < xs.length → xs.getD i default ∈ xs := fun i h => by rw [List.getD_eq_getElem?_getD, List.getElem?_eq_getElem h]; exact List.getElem_mem h
  have hlt : ∀ i, i < xs.length → decide ((↑i : Int) < (((xs.map I).length : Nat) : Int)) = true := fun i h => by simp; omega
  obtain ⟨a1, a2⟩ := any_at xs (fun i => H xs kn i) (.exit 0) (R kn) (E kn) (looseB kn)
    (fun i h hb => .stop hO hm (rd2 kn xs i) (by simp) ⟨hlt i h, ⟨rfl, get_map I xs i h⟩, by rw [← hb]; exact hc _ (hm1 i h)⟩)
    (fun i h hb e s hg => .step hO hm (rd1 kn xs i) ⟨hlt i h, ⟨rfl, get_map I xs i h⟩, by rw [← hb]; exact hc _ (hm1 i h), wrap_succ (by omega)⟩ hg)
    (.stop hO hm (rd3 kn xs xs.length) (by simp) (by simp [AllP])) xs.length 0 rfl (by omega)
  rw [List.drop_zero] at a1 a2
  cases hx : xs.any (looseB kn) with
  | true =>
    obtain ⟨j, hj⟩ := a1 hx
    exact callX_ok hO hm (g1 kn xs j) ⟨callX_ok hO hm (f1 kn xs j) hj, by simp [AllP]⟩
  | false => exact callX_ok hO hm (g2 kn xs) ⟨callX_ok hO hm (f2 kn xs) (a2 hx), by simp [AllP]⟩
end Go.Proofs.YtihbpbdmhiihnaaDoor.Sy.Oc4
/- order.Check, whole. -/
namespace Go.Proofs.YtihbpbdmhiihnaaDoor.Sy.Chk
open Go Go.Proofs.YtihbpbdmhiihnaaDoor.Ab Go.Proofs.YtihbpbdmhiihnaaDoor.Sy Go.Proofs.YtihbpbdmhiihnaaDoor.Sy.Def
set_option maxRecDepth 1000000
set_option linter.unusedVariables false
def Hk (r : Rw) (ow al : List Int) (gl : List D) (i : Nat) : St := ⟨mk 89 [(1, .ptr 0 0), (5, .d (.sl (al.map I))), (6, .ptr 5 0), (63, .d (.sl (ow.map I))), (64, .d (I ((ow.map I).length : Nat))), (65, .d (I i))] [], [r.box, .box [.func 41 [.ptr 0 0]], .dead, .dead, .lst 4 gl, .box [.arr 4]]⟩
def Ek (r : Rw) (al : List Int) (gl : List D) : St := ⟨mk 89 [(1, .ptr 0 0), (5, .d (.sl (al.map I))), (6, .ptr 5 0)] [], [r.box, .box [.func 41 [.ptr 0 0]], .dead, .dead, .lst 4 gl, .box [.arr 4]]⟩
def Rk (r : Rw) (gl : List D) : St := ⟨mk 89 [(2, .d (I 43))] [], [r.box, .box [.func 41 [.ptr 0 0]], .dead, .dead, .lst 4 gl, .box [.arr 4]]⟩
section
variable (r : Rw) (ow al l : List Int) (gl : List D) (kn : List Bool) (i u N : Nat) (a b m : Int)
theorem k1 : round Tryd.prog wr false O (loopOf Tryd.prog 24 0) (Hk r ow al gl i) [.br true, .el i (I (ow.getD i default)), .is (ow.getD i default / 2), .ix u, .el u (.bool false), .is (ow.getD i default / 2), .ix u, .is ((i + 1 : Nat) : Int)] [1, 5, 6, 63, 64, 65] 6 = some (.normal, Hk r ow al (gl.set u (.bool true)) (i + 1),
  [decide ((i : Int) < ((ow.map I).length : Nat)) = true, (i : Int) = (i : Int) ∧ (ow.map I)[i]? = some (I (ow.getD i default)), IntKind.i64.wrap ((ow.getD i default).tdiv 2) = ow.getD i default / 2, ow.getD i default / 2 = (u : Int) ∧ u < gl.length, gl[u]? = some (.bool false), IntKind.i64.wrap ((ow.getD i default).tdiv 2) = ow.getD i default / 2, ow.getD i default / 2 = (u : Int) ∧ u < gl.length, IntKind.i64.wrap ((i : Int) + 1) = ((i + 1 : Nat) : Int)]) := by kernel_rfl
theorem k2 : round Tryd.prog wr false O (loopOf Tryd.prog 24 0) (Hk r ow al gl i) [.br true, .el i (I (ow.getD i default)), .is (ow.getD i default / 2), .ix u, .el u (.bool true)] [2] 6 = some (.ret, Rk r gl, [decide ((i : Int) < ((ow.map I).length : Nat)) = true, (i : Int) = (i : Int) ∧ (ow.map I)[i]? = some (I (ow.getD i default)), IntKind.i64.wrap ((ow.getD i default).tdiv 2) = ow.getD i default / 2, ow.getD i default / 2 = (u : Int) ∧ u < gl.length, gl[u]? = some (.bool true)]) := by kernel_rfl
theorem k3 : round Tryd.prog wr false O (loopOf Tryd.prog 24 0) (Hk r ow al gl i) [.br false] [1, 5, 6] 6 = some (.exit 0, Ek r al gl, [decide ((i : Int) < ((ow.map I).length : Nat)) = false]) := by kernel_rfl
theorem neg : callX Tryd.prog wr false O 24 [.d r.d] [] [.br true] = some (.d (I 8), [],
  [decide (r.most < 0) = true]) := by kernel_rfl
theorem mny : callX Tryd.prog wr false O 24 [.d r.d] [] [.br false, .br true] = some (.d (I 4), [],
  [decide (r.most < 0) = false,
   decide (r.most > 1000) = true]) := by kernel_rfl
theorem sum : callX Tryd.prog wr false O 24 [.d r.d] [] [.br false, .br false, .is a, .is b, .br true] = some (.d (I 4), [],
  [decide (r.most < 0) = false,
   decide (r.most > 1000) = false,
   IntKind.i64.wrap (((r.ins.map I).length : Int) + ((r.lats.map Df.d).length : Int)) = a,
   IntKind.i64.wrap (a + ((r.ands.map Df.d).length : Int)) = b,
   decide (b > 1000) = true]) := by kernel_rfl
theorem prp : callX Tryd.prog wr false O 24 [.d r.d] [] [.br false, .br false, .is a, .is b, .br false, .is m, .br true] = some (.d (I 4), [],
  [decide (r.most < 0) = false,
   decide (r.most > 1000) = false,
   IntKind.i64.wrap (((r.ins.map I).length : Int) + ((r.lats.map Df.d).length : Int)) = a,
   IntKind.i64.wrap (a + ((r.ands.map Df.d).length : Int)) = b,
   decide (b > 1000) = false,
   (if ((r.cons.map I).length : Int) > ((r.bads.map I).length : Int) then ((r.cons.map I).length : Int) else ((r.bads.map I).length : Int)) = m,
   decide (m > 100) = true]) := by kernel_rfl
theorem own : callX Tryd.prog wr false O 24 [.d r.d] [] [.br false, .br false, .is a, .is b, .br false, .is m, .br false, .icall [] (.own 3 (ow.map I)) [], .icall [] (.own 3 (al.map I)) [], .icall [1, 0] (.d (.bool true)) [.box [.func 41 [.ptr 1 0]], r.box]] = some (.d (I 8), [],
  [decide (r.most < 0) = false,
   decide (r.most > 1000) = false,
   IntKind.i64.wrap (((r.ins.map I).length : Int) + ((r.lats.map Df.d).length : Int)) = a,
   IntKind.i64.wrap (a + ((r.ands.map Df.d).length : Int)) = b,
   decide (b > 1000) = false,
   (if ((r.cons.map I).length : Int) > ((r.bads.map I).length : Int) then ((r.cons.map I).length : Int) else ((r.bads.map I).length : Int)) = m,
   decide (m > 100) = false,
   ICall Tryd.prog 42 [.d r.d] [] (.own 3 (ow.map I)) [],
   ICall Tryd.prog 43 [.d r.d] [] (.own 3 (al.map I)) [],
   ICall Tryd.prog 44 [.d (.sl (ow.map I)), .func 45 [.ptr 0 0]] [.box [.func 41 [.ptr 1 0]], r.box] (.d (.bool true)) [.box [.func 41 [.ptr 1 0]], r.box]]) := by kernel_rfl
theorem off : callX Tryd.prog wr false O 24 [.d r.d] [] [.br false, .br false, .is a, .is b, .br false, .is m, .br false, .icall [] (.own 3 (ow.map I)) [], .icall [] (.own 3 (al.map I)) [], .icall [1, 0] (.d (.bool false)) [.box [.func 41 [.ptr 1 0]], r.box], .icall [0] (.d (.bool true)) [r.box]] = some (.d (I 8), [],
  [decide (r.most < 0) = false,
   decide (r.most > 1000) = false,
   IntKind.i64.wrap (((r.ins.map I).length : Int) + ((r.lats.map Df.d).length : Int)) = a,
   IntKind.i64.wrap (a + ((r.ands.map Df.d).length : Int)) = b,
   decide (b > 1000) = false,
   (if ((r.cons.map I).length : Int) > ((r.bads.map I).length : Int) then ((r.cons.map I).length : Int) else ((r.bads.map I).length : Int)) = m,
   decide (m > 100) = false,
   ICall Tryd.prog 42 [.d r.d] [] (.own 3 (ow.map I)) [],
   ICall Tryd.prog 43 [.d r.d] [] (.own 3 (al.map I)) [],
   ICall Tryd.prog 44 [.d (.sl (ow.map I)), .func 45 [.ptr 0 0]] [.box [.func 41 [.ptr 1 0]], r.box] (.d (.bool false)) [.box [.func 41 [.ptr 1 0]], r.box],
   ICall Tryd.prog 44 [.d (.sl (al.map I)), .func 41 [.ptr 0 0]] [r.box] (.d (.bool true)) [r.box]]) := by kernel_rfl
theorem res : callX Tryd.prog wr false O 24 [.d r.d] [] [.br false, .br false, .is a, .is b, .br false, .is m, .br false, .icall [] (.own 3 (ow.map I)) [], .icall [] (.own 3 (al.map I)) [], .icall [1, 0] (.d (.bool false)) [.box [.func 41 [.ptr 1 0]], r.box], .icall [0] (.d (.bool false)) [r.box], .icall [] (.d (.bool true)) []] = some (.d (I 8), [],
  [decide (r.most < 0) = false,
   decide (r.most > 1000) = false,
   IntKind.i64.wrap (((r.ins.map I).length : Int) + ((r.lats.map Df.d).length : Int)) = a,
   IntKind.i64.wrap (a + ((r.ands.map Df.d).length : Int)) = b,
   decide (b > 1000) = false,
   (if ((r.cons.map I).length : Int) > ((r.bads.map I).length : Int) then ((r.cons.map I).length : Int) else ((r.bads.map I).length : Int)) = m,
   decide (m > 100) = false,
   ICall Tryd.prog 42 [.d r.d] [] (.own 3 (ow.map I)) [],
   ICall Tryd.prog 43 [.d r.d] [] (.own 3 (al.map I)) [],
   ICall Tryd.prog 44 [.d (.sl (ow.map I)), .func 45 [.ptr 0 0]] [.box [.func 41 [.ptr 1 0]], r.box] (.d (.bool false)) [.box [.func 41 [.ptr 1 0]], r.box],
   ICall Tryd.prog 44 [.d (.sl (al.map I)), .func 41 [.ptr 0 0]] [r.box] (.d (.bool false)) [r.box],
   ICall Tryd.prog 46 [.d (.sl (r.lats.map Df.d)), .func 47 []] [] (.d (.bool true)) []]) := by kernel_rfl
theorem twi : callX Tryd.prog wr false O 24 [.d r.d] [] [.br false, .br false, .is a, .is b, .br false, .is m, .br false, .icall [] (.own 3 (ow.map I)) [], .icall [] (.own 3 (al.map I)) [], .icall [1, 0] (.d (.bool false)) [.box [.func 41 [.ptr 1 0]], r.box], .icall [0] (.d (.bool false)) [r.box], .icall [] (.d (.bool false)) [], .is (r.most + 1), .len N, .ix 0, .lp [1, 5, 6, 63, 64, 65] .ret (Rk r (kn.map D.bool))] = some (.d (I 43), [],
  [decide (r.most < 0) = false,
   decide (r.most > 1000) = false,
   IntKind.i64.wrap (((r.ins.map I).length : Int) + ((r.lats.map Df.d).length : Int)) = a,
   IntKind.i64.wrap (a + ((r.ands.map Df.d).length : Int)) = b,
   decide (b > 1000) = false,
   (if ((r.cons.map I).length : Int) > ((r.bads.map I).length : Int) then ((r.cons.map I).length : Int) else ((r.bads.map I).length : Int)) = m,
   decide (m > 100) = false,
   ICall Tryd.prog 42 [.d r.d] [] (.own 3 (ow.map I)) [],
   ICall Tryd.prog 43 [.d r.d] [] (.own 3 (al.map I)) [],
   ICall Tryd.prog 44 [.d (.sl (ow.map I)), .func 45 [.ptr 0 0]] [.box [.func 41 [.ptr 1 0]], r.box] (.d (.bool false)) [.box [.func 41 [.ptr 1 0]], r.box],
   ICall Tryd.prog 44 [.d (.sl (al.map I)), .func 41 [.ptr 0 0]] [r.box] (.d (.bool false)) [r.box],
   ICall Tryd.prog 46 [.d (.sl (r.lats.map Df.d)), .func 47 []] [] (.d (.bool false)) [],
   IntKind.i64.wrap (r.most + 1) = r.most + 1,
   r.most + 1 = (N : Int) ∧ r.most + 1 = (N : Int) ∧ N ≤ maxItems,
   (0 : Int) = ((0 : Nat) : Int) ∧ 0 < (List.replicate N (D.bool false)).length,
   GoesL Tryd.prog (loopOf Tryd.prog 24 0) (Hk r ow al ((List.replicate N (.bool false)).set 0 (.bool true)) 0) .ret (Rk r (kn.map D.bool))]) := by kernel_rfl
theorem opn : callX Tryd.prog wr false O 24 [.d r.d] [] [.br false, .br false, .is a, .is b, .br false, .is m, .br false, .icall [] (.own 3 (ow.map I)) [], .icall [] (.own 3 (al.map I)) [], .icall [1, 0] (.d (.bool false)) [.box [.func 41 [.ptr 1 0]], r.box], .icall [0] (.d (.bool false)) [r.box], .icall [] (.d (.bool false)) [], .is (r.most + 1), .len N, .ix 0, .lp [1, 5, 6, 63, 64, 65] (.exit 0) (Ek r al (kn.map D.bool)), .icall [5, 4] (.d (.bool true)) [.box [.arr 1], .lst 4 (kn.map D.bool)]] = some (.d (I 46), [],
  [decide (r.most < 0) = false,
   decide (r.most > 1000) = false,
   IntKind.i64.wrap (((r.ins.map I).length : Int) + ((r.lats.map Df.d).length : Int)) = a,
   IntKind.i64.wrap (a + ((r.ands.map Df.d).length : Int)) = b,
   decide (b > 1000) = false,
   (if ((r.cons.map I).length : Int) > ((r.bads.map I).length : Int) then ((r.cons.map I).length : Int) else ((r.bads.map I).length : Int)) = m,
   decide (m > 100) = false,
   ICall Tryd.prog 42 [.d r.d] [] (.own 3 (ow.map I)) [],
   ICall Tryd.prog 43 [.d r.d] [] (.own 3 (al.map I)) [],
   ICall Tryd.prog 44 [.d (.sl (ow.map I)), .func 45 [.ptr 0 0]] [.box [.func 41 [.ptr 1 0]], r.box] (.d (.bool false)) [.box [.func 41 [.ptr 1 0]], r.box],
   ICall Tryd.prog 44 [.d (.sl (al.map I)), .func 41 [.ptr 0 0]] [r.box] (.d (.bool false)) [r.box],
   ICall Tryd.prog 46 [.d (.sl (r.lats.map Df.d)), .func 47 []] [] (.d (.bool false)) [],
   IntKind.i64.wrap (r.most + 1) = r.most + 1,
   r.most + 1 = (N : Int) ∧ r.most + 1 = (N : Int) ∧ N ≤ maxItems,
   (0 : Int) = ((0 : Nat) : Int) ∧ 0 < (List.replicate N (D.bool false)).length,
   GoesL Tryd.prog (loopOf Tryd.prog 24 0) (Hk r ow al ((List.replicate N (.bool false)).set 0 (.bool true)) 0) (.exit 0) (Ek r al (kn.map D.bool)),
   ICall Tryd.prog 44 [.d (.sl (al.map I)), .func 48 [.ptr 0 0]] [.box [.arr 1], .lst 4 (kn.map D.bool)] (.d (.bool true)) [.box [.arr 1], .lst 4 (kn.map D.bool)]]) := by kernel_rfl
theorem srt : callX Tryd.prog wr false O 24 [.d r.d] [] [.br false, .br false, .is a, .is b, .br false, .is m, .br false, .icall [] (.own 3 (ow.map I)) [], .icall [] (.own 3 (al.map I)) [], .icall [1, 0] (.d (.bool false)) [.box [.func 41 [.ptr 1 0]], r.box], .icall [0] (.d (.bool false)) [r.box], .icall [] (.d (.bool false)) [], .is (r.most + 1), .len N, .ix 0, .lp [1, 5, 6, 63, 64, 65] (.exit 0) (Ek r al (kn.map D.bool)), .icall [5, 4] (.d (.bool false)) [.box [.arr 1], .lst 4 (kn.map D.bool)], .icall [] (.own 3 (l.map I)) [], .br true] = some (.d (I 41), [],
  [decide (r.most < 0) = false,
   decide (r.most > 1000) = false,
   IntKind.i64.wrap (((r.ins.map I).length : Int) + ((r.lats.map Df.d).length : Int)) = a,
   IntKind.i64.wrap (a + ((r.ands.map Df.d).length : Int)) = b,
   decide (b > 1000) = false,
   (if ((r.cons.map I).length : Int) > ((r.bads.map I).length : Int) then ((r.cons.map I).length : Int) else ((r.bads.map I).length : Int)) = m,
   decide (m > 100) = false,
   ICall Tryd.prog 42 [.d r.d] [] (.own 3 (ow.map I)) [],
   ICall Tryd.prog 43 [.d r.d] [] (.own 3 (al.map I)) [],
   ICall Tryd.prog 44 [.d (.sl (ow.map I)), .func 45 [.ptr 0 0]] [.box [.func 41 [.ptr 1 0]], r.box] (.d (.bool false)) [.box [.func 41 [.ptr 1 0]], r.box],
   ICall Tryd.prog 44 [.d (.sl (al.map I)), .func 41 [.ptr 0 0]] [r.box] (.d (.bool false)) [r.box],
   ICall Tryd.prog 46 [.d (.sl (r.lats.map Df.d)), .func 47 []] [] (.d (.bool false)) [],
   IntKind.i64.wrap (r.most + 1) = r.most + 1,
   r.most + 1 = (N : Int) ∧ r.most + 1 = (N : Int) ∧ N ≤ maxItems,
   (0 : Int) = ((0 : Nat) : Int) ∧ 0 < (List.replicate N (D.bool false)).length,
   GoesL Tryd.prog (loopOf Tryd.prog 24 0) (Hk r ow al ((List.replicate N (.bool false)).set 0 (.bool true)) 0) (.exit 0) (Ek r al (kn.map D.bool)),
   ICall Tryd.prog 44 [.d (.sl (al.map I)), .func 48 [.ptr 0 0]] [.box [.arr 1], .lst 4 (kn.map D.bool)] (.d (.bool false)) [.box [.arr 1], .lst 4 (kn.map D.bool)],
   ICall Tryd.prog 49 [.d r.d] [] (.own 3 (l.map I)) [],
   decide (((l.map I).length : Int) < ((r.ands.map Df.d).length : Int)) = true]) := by kernel_rfl
theorem fin : callX Tryd.prog wr false O 24 [.d r.d] [] [.br false, .br false, .is a, .is b, .br false, .is m, .br false, .icall [] (.own 3 (ow.map I)) [], .icall [] (.own 3 (al.map I)) [], .icall [1, 0] (.d (.bool false)) [.box [.func 41 [.ptr 1 0]], r.box], .icall [0] (.d (.bool false)) [r.box], .icall [] (.d (.bool false)) [], .is (r.most + 1), .len N, .ix 0, .lp [1, 5, 6, 63, 64, 65] (.exit 0) (Ek r al (kn.map D.bool)), .icall [5, 4] (.d (.bool false)) [.box [.arr 1], .lst 4 (kn.map D.bool)], .icall [] (.own 3 (l.map I)) [], .br false] = some (.d (I 0), [],
  [decide (r.most < 0) = false,
   decide (r.most > 1000) = false,
   IntKind.i64.wrap (((r.ins.map I).length : Int) + ((r.lats.map Df.d).length : Int)) = a,
   IntKind.i64.wrap (a + ((r.ands.map Df.d).length : Int)) = b,
   decide (b > 1000) = false,
   (if ((r.cons.map I).length : Int) > ((r.bads.map I).length : Int) then ((r.cons.map I).length : Int) else ((r.bads.map I).length : Int)) = m,
   decide (m > 100) = false,
   ICall Tryd.prog 42 [.d r.d] [] (.own 3 (ow.map I)) [],
   ICall Tryd.prog 43 [.d r.d] [] (.own 3 (al.map I)) [],
   ICall Tryd.prog 44 [.d (.sl (ow.map I)), .func 45 [.ptr 0 0]] [.box [.func 41 [.ptr 1 0]], r.box] (.d (.bool false)) [.box [.func 41 [.ptr 1 0]], r.box],
   ICall Tryd.prog 44 [.d (.sl (al.map I)), .func 41 [.ptr 0 0]] [r.box] (.d (.bool false)) [r.box],
   ICall Tryd.prog 46 [.d (.sl (r.lats.map Df.d)), .func 47 []] [] (.d (.bool false)) [],
   IntKind.i64.wrap (r.most + 1) = r.most + 1,
   r.most + 1 = (N : Int) ∧ r.most + 1 = (N : Int) ∧ N ≤ maxItems,
   (0 : Int) = ((0 : Nat) : Int) ∧ 0 < (List.replicate N (D.bool false)).length,
   GoesL Tryd.prog (loopOf Tryd.prog 24 0) (Hk r ow al ((List.replicate N (.bool false)).set 0 (.bool true)) 0) (.exit 0) (Ek r al (kn.map D.bool)),
   ICall Tryd.prog 44 [.d (.sl (al.map I)), .func 48 [.ptr 0 0]] [.box [.arr 1], .lst 4 (kn.map D.bool)] (.d (.bool false)) [.box [.arr 1], .lst 4 (kn.map D.bool)],
   ICall Tryd.prog 49 [.d r.d] [] (.own 3 (l.map I)) [],
   decide (((l.map I).length : Int) < ((r.ands.map Df.d).length : Int)) = false]) := by kernel_rfl
end
/-- Which variables are known; none if one comes twice. -/
def tw : List Int → List Bool → Option (List Bool)
  | [], kn => some kn
  | x :: t, kn => if kn.getD (x / 2).toNat default then none else tw t (kn.set (x / 2).toNat true)
theorem tw_length : ∀ (l : List Int) (kn kn' : List Bool), tw l kn = some kn' → kn'.length = kn.length
  | [], kn, kn', h => by rw [tw, Option.some.injEq] at h; rw [h]
  | x :: t, kn, kn', h => by
    rw [tw] at h
    split at h
    · cases h
    · have := tw_length t _ kn' h
      rwa [List.length_set] at this
theorem tw_loop (r : Rw) (ow al : List Int) (hl : ow.length ≤ 1000000) (n : Nat) (hn : n ≤ 1001) (ho : ∀ x ∈ ow, 0 ≤ x ∧ x / 2 < (n : Int)) (d : Nat) : ∀ (i : Nat) (kn : List Bool), ow.length - i = d → i ≤ ow.length → kn.length = n →
    (∀ kn', tw (ow.drop i) kn = some kn' → GoesL Tryd.prog (loopOf Tryd.prog 24 0) (Hk r ow al (kn.map D.bool) i) (.exit 0) (Ek r al (kn'.map D.bool))) ∧ (tw (ow.drop i) kn = none → ∃ kn' : List Bool, GoesL Tryd.prog (loopOf Tryd.prog 24 0) (Hk r ow al (kn.map D.bool) i) .ret (Rk r (kn'.map D.bool))) := by
  induction d with
  | zero =>
    intro i kn hd hi hk
    obtain rfl : i = ow.length := by omega
    rw [List.drop_length, tw]
    refine ⟨fun kn' h => ?_, fun h => by cases h⟩
    obtain rfl := Option.some.inj h
    exact .stop hO hm (k3 r ow al _ _) (by simp) (decide_eq_false (by rw [List.length_map]; omega))
  | succ d ih =>
    intro i kn hd hi hk
    have hx := ho (ow.getD i default) (by rw [List.getD_eq_getElem?_getD, List.getElem?_eq_getElem (by omega)]; exact List.getElem_mem _)
    have t1 : decide ((i : Int) < ((ow.map I).length : Nat)) = true := decide_eq_true (by rw [List.length_map]; omega)
    have t2 := get_map I ow i (by omega)
    have t3 : IntKind.i64.wrap ((ow.getD i default).tdiv 2) = ow.getD i default / 2 := quo2 hx.1 (by omega)
    have t4 : ow.getD i default / 2 = ((ow.getD i default / 2).toNat : Int) ∧ (ow.getD i default / 2).toNat < (kn.map D.bool).length := ⟨by omega, by rw [List.length_map]; omega⟩
    have t5 := get_map D.bool kn (ow.getD i default / 2).toNat (by omega)
    rw [drop_getD ow i (by omega), tw]
    cases hb : kn.getD (ow.getD i default / 2).toNat default with
    | true =>
      rw [hb] at t5
      rw [if_pos rfl]
      exact ⟨fun _ h => (by cases h), fun _ => ⟨kn, .stop hO hm (k2 r ow al _ i _) (by simp) ⟨t1, ⟨rfl, t2⟩, t3, t4, t5⟩⟩⟩
    | false =>
      rw [hb] at t5
      rw [if_neg (by simp)]
      obtain ⟨i1, i2⟩ := ih (i + 1) (kn.set (ow.getD i default / 2).toNat true) (by omega) (by omega) (by rw [List.length_set]; exact hk)
      rw [List.map_set] at i1 i2
      exact ⟨fun kn' h => .step hO hm (k1 r ow al _ i _) ⟨t1, ⟨rfl, t2⟩, t3, t4, t5, t3, t4, wrap_succ (by omega)⟩ (i1 kn' h), fun h => let ⟨kn', hg⟩ := i2 h; ⟨kn', .step hO hm (k1 r ow al _ i _) ⟨t1, ⟨rfl, t2⟩, t3, t4, t5, t3, t4, wrap_succ (by omega)⟩ hg⟩⟩

/-- What order.Check asks ahead of the order. -/
def pre (r : Rw) : Option Int :=
  if r.most < 0 then some 8 else if r.most > 1000 then some 4 else if r.ins.length + r.lats.length + r.ands.length > 1000 then some 4 else if r.bads.length > 100 ∨ r.cons.length > 100 then some 4
  else if (defs r).any (ownB r.most) = true then some 8 else if (uses r).any (offB r.most) = true then some 8 else if r.lats.any reB = true then some 8
  else match tw (defs r) ((List.replicate (r.most + 1).toNat false).set 0 true) with
    | none => some 43
    | some kn => if (uses r).any (looseB kn) = true then some 46 else none
def val (r : Rw) (l : List Int) : Int := (pre r).getD (if l.length < r.ands.length then 41 else 0)
/-- order.Check. -/
theorem check (r : Rw) (h : Fits r) (hd : ∀ x ∈ defs r, x ≤ 9223372036854775807) (hu : ∀ x ∈ uses r, x ≤ 9223372036854775807) (l : List Int) (hs : pre r = none → ICall Tryd.prog 49 [.d r.d] [] (.own 3 (l.map I)) []) :
    ICall Tryd.prog 24 [.d r.d] [] (.d (I (val r l))) [] := by
  obtain ⟨h1, h2, h3, h4, h5⟩ := h
  have hF : Fits r := ⟨h1, h2, h3, h4, h5⟩
  have hld : (defs r).length ≤ 1000000 := by unfold defs; simp; omega
  have hlu : (uses r).length ≤ 1000000 := by
    unfold uses
    rw [List.length_append, List.length_append, List.length_append, List.length_map, List.length_flatMap]
    have : (r.ands.map (fun d => [d.a, d.b].length)).sum = 2 * r.ands.length := by
      have : ∀ l : List Df, (l.map (fun d => [d.a, d.b].length)).sum = 2 * l.length := by
        intro l
        induction l with
        | nil => rfl
        | cons x t ih => rw [List.map_cons, List.sum_cons, ih, List.length_cons]; simp only [List.length_cons, List.length_nil]; omega
      exact this _
    omega
  unfold val pre
  by_cases c0 : r.most < 0
  · rw [if_pos c0]; exact callX_ok hO hm (neg r) (decide_eq_true c0)
  rw [if_neg c0]
  have t0 := decide_eq_false c0
  by_cases c1 : r.most > 1000
  · rw [if_pos c1]; exact callX_ok hO hm (mny r) ⟨t0, decide_eq_true c1⟩
  rw [if_neg c1]
  have t1 := decide_eq_false c1
  have ta : IntKind.i64.wrap (((r.ins.map I).length : Int) + ((r.lats.map Df.d).length : Int)) = ((r.ins.length + r.lats.length : Nat) : Int) := by rw [List.length_map, List.length_map, wrap_id (by omega) (by omega)]; omega
  have tb : IntKind.i64.wrap (((r.ins.length + r.lats.length : Nat) : Int) + ((r.ands.map Df.d).length : Int)) = ((r.ins.length + r.lats.length + r.ands.length : Nat) : Int) := by rw [List.length_map, wrap_id (by omega) (by omega)]; omega
  by_cases c2 : r.ins.length + r.lats.length + r.ands.length > 1000
  · rw [if_pos c2]; exact callX_ok hO hm (sum r _ _) ⟨t0, t1, ta, tb, decide_eq_true (by omega)⟩
  rw [if_neg c2]
  have t2 : decide (((r.ins.length + r.lats.length + r.ands.length : Nat) : Int) > 1000) = false := decide_eq_false (by omega)
  by_cases c3 : r.bads.length > 100 ∨ r.cons.length > 100
  · rw [if_pos c3]; exact callX_ok hO hm (prp r _ _ _) ⟨t0, t1, ta, tb, t2, rfl, decide_eq_true (by rw [List.length_map, List.length_map]; split <;> omega)⟩
  rw [if_neg c3]
  have t3 : decide ((if ((r.cons.map I).length : Int) > ((r.bads.map I).length : Int) then ((r.cons.map I).length : Int) else ((r.bads.map I).length : Int)) > 100) = false := decide_eq_false (by rw [List.length_map, List.length_map]; split <;> omega)
  have e1 := defined r hF
  have e2 := used r hF
  have x1 := Oc2.icall r (defs r) hld (fun x hx => Sy.own x r (hd x hx))
  have x2 := Oc1.icall r (uses r) hlu (fun x hx => Sy.off x r (hu x hx))
  have x3 := Oc3.icall r.lats (by omega) (fun x _ => Sy.re x)
  cases c4 : (defs r).any (ownB r.most) with
  | true => rw [if_pos rfl]; rw [c4] at x1; exact callX_ok hO hm (own r _ _ _ _ _) ⟨t0, t1, ta, tb, t2, rfl, t3, e1, e2, x1⟩
  | false =>
  rw [if_neg (by simp)]; rw [c4] at x1
  cases c5 : (uses r).any (offB r.most) with
  | true => rw [if_pos rfl]; rw [c5] at x2; exact callX_ok hO hm (off r _ _ _ _ _) ⟨t0, t1, ta, tb, t2, rfl, t3, e1, e2, x1, x2⟩
  | false =>
  rw [if_neg (by simp)]; rw [c5] at x2
  cases c6 : r.lats.any reB with
  | true => rw [if_pos rfl]; rw [c6] at x3; exact callX_ok hO hm (res r _ _ _ _ _) ⟨t0, t1, ta, tb, t2, rfl, t3, e1, e2, x1, x2, x3⟩
  | false =>
  rw [if_neg (by simp)]; rw [c6] at x3
  obtain ⟨N, hN⟩ : ∃ N : Nat, r.most + 1 = (N : Int) := ⟨(r.most + 1).toNat, by omega⟩
  have w1 : IntKind.i64.wrap (r.most + 1) = r.most + 1 := wrap_id (by omega) (by omega)
  have hNm : N ≤ maxItems := Nat.le_trans (show N ≤ 1001 by omega) (by decide)
  have ho : ∀ x ∈ defs r, 0 ≤ x ∧ x / 2 < (N : Int) := fun x hx => by
    have := List.any_eq_false.1 c4 x hx
    simp only [ownB, Sy.offB, Bool.or_eq_true, decide_eq_true_eq, not_or, Bool.not_eq_true] at this
    omega
  have hub : ∀ x ∈ uses r, 0 ≤ x ∧ x / 2 < (N : Int) := fun x hx => by
    have := List.any_eq_false.1 c5 x hx
    simp only [Sy.offB, Bool.or_eq_true, decide_eq_true_eq, not_or] at this
    omega
  have hz : (0 : Int) = ((0 : Nat) : Int) ∧ 0 < (List.replicate N (D.bool false)).length := ⟨rfl, by rw [List.length_replicate]; omega⟩
  obtain ⟨l1, l2⟩ := tw_loop r (defs r) (uses r) hld N (by omega) ho _ 0 ((List.replicate N false).set 0 true) rfl (by omega) (by simp)
  rw [List.drop_zero] at l1 l2
  rw [List.map_set, List.map_replicate] at l1 l2
  rw [show (r.most + 1).toNat = N by omega]
  cases c7 : tw (defs r) ((List.replicate N false).set 0 true) with
  | none =>
    obtain ⟨kn', hg⟩ := l2 c7
    exact callX_ok hO hm (twi r _ _ kn' N _ _ _) ⟨t0, t1, ta, tb, t2, rfl, t3, e1, e2, x1, x2, x3, w1, ⟨hN, hN, hNm⟩, hz, hg⟩
  | some kn =>
    have hg := l1 kn c7
    have hkl := tw_length _ _ _ c7
    rw [List.length_set, List.length_replicate] at hkl
    have x4 := Oc4.icall kn (uses r) hlu (fun x hx => Sy.loose x kn (hub x hx).1 (by have := (hub x hx).2; omega) (hu x hx))
    simp only
    cases c8 : (uses r).any (looseB kn) with
    | true => rw [if_pos rfl]; rw [c8] at x4; exact callX_ok hO hm (opn r _ _ kn N _ _ _) ⟨t0, t1, ta, tb, t2, rfl, t3, e1, e2, x1, x2, x3, w1, ⟨hN, hN, hNm⟩, hz, hg, x4⟩
    | false =>
    rw [if_neg (by simp)]; rw [c8] at x4
    have hp : pre r = none := by
      unfold pre
      rw [if_neg c0, if_neg c1, if_neg c2, if_neg c3, if_neg (by rw [c4]; simp), if_neg (by rw [c5]; simp), if_neg (by rw [c6]; simp), show (r.most + 1).toNat = N by omega, c7]
      simp only
      rw [if_neg (by rw [c8]; simp)]
    have hso := hs hp
    simp only [Option.getD_none]
    by_cases c9 : l.length < r.ands.length
    · rw [if_pos c9]; exact callX_ok hO hm (srt r _ _ l kn N _ _ _) ⟨t0, t1, ta, tb, t2, rfl, t3, e1, e2, x1, x2, x3, w1, ⟨hN, hN, hNm⟩, hz, hg, x4, hso, decide_eq_true (by rw [List.length_map, List.length_map]; omega)⟩
    · rw [if_neg c9]; exact callX_ok hO hm (fin r _ _ l kn N _ _ _) ⟨t0, t1, ta, tb, t2, rfl, t3, e1, e2, x1, x2, x3, w1, ⟨hN, hN, hNm⟩, hz, hg, x4, hso, decide_eq_false (by rw [List.length_map, List.length_map]; omega)⟩
end Go.Proofs.YtihbpbdmhiihnaaDoor.Sy.Chk
/- A heap of numbers, as plain functions. -/
namespace Go.Proofs.YtihbpbdmhiihnaaDoor.Pl
open Go Go.Proofs.YtihbpbdmhiihnaaDoor.Sy
set_option linter.unusedVariables false
set_option linter.unusedSimpArgs false
def rd (xs : List Int) (i : Int) : Int := xs.getD i.toNat 0
def rdOf {α : Type} (z : α) (xs : List α) (i : Int) : α := xs.getD i.toNat z
def swapL (xs : List Int) (i j : Nat) : List Int := (xs.set i (rd xs j)).set j (rd xs i)
theorem swapL_length (xs : List Int) (i j : Nat) : (swapL xs i j).length = xs.length := by simp [swapL]
/-- A number goes up while it is less than its parent. -/
def upL : Nat → List Int → Nat → List Int
  | 0, xs, _ => xs
  | f + 1, xs, j => if (j - 1) / 2 = j then xs else if rd xs j < rd xs (((j - 1) / 2 : Nat) : Int) then upL f (swapL xs ((j - 1) / 2) j) ((j - 1) / 2) else xs

theorem upL_more (j : Nat) : ∀ (f : Nat) (xs : List Int), j < f → upL f xs j = upL (j + 1) xs j := by
  induction j using Nat.strongRecOn with
  | _ j ih =>
    intro f xs hf
    obtain ⟨f, rfl⟩ : ∃ m, f = m + 1 := ⟨f - 1, by omega⟩
    simp only [upL]
    by_cases h : (j - 1) / 2 = j
    · rw [if_pos h, if_pos h]
    · rw [if_neg h, if_neg h]
      have hlt : (j - 1) / 2 < j := by omega
      rw [ih _ hlt f _ (by omega), ih _ hlt j _ (by omega)]

theorem upL_length (f : Nat) : ∀ (xs : List Int) (j : Nat), (upL f xs j).length = xs.length := by
  induction f with
  | zero => intro xs j; rfl
  | succ f ih =>
    intro xs j
    simp only [upL]
    split
    · rfl
    · split
      · rw [ih, swapL_length]
      · rfl

/-- The lesser child, of two. -/
def kidL (xs : List Int) (i n : Nat) : Nat := if 2 * i + 2 < n ∧ rd xs ((2 * i + 2 : Nat) : Int) < rd xs ((2 * i + 1 : Nat) : Int) then 2 * i + 2 else 2 * i + 1
/-- A number goes down while a child is less. -/
def downL : Nat → List Int → Nat → Nat → List Int
  | 0, xs, _, _ => xs
  | f + 1, xs, i, n => if n ≤ 2 * i + 1 then xs else if rd xs (kidL xs i n : Int) < rd xs (i : Int) then downL f (swapL xs i (kidL xs i n)) (kidL xs i n) n else xs

theorem kidL_gt (xs : List Int) (i n : Nat) : i < kidL xs i n := by unfold kidL; split <;> omega
theorem kidL_lt (xs : List Int) (i n : Nat) (h : 2 * i + 1 < n) : kidL xs i n < n := by unfold kidL; split <;> omega

theorem downL_more (n : Nat) : ∀ (d f : Nat) (xs : List Int) (i : Nat), n - i ≤ d → n - i < f → downL f xs i n = downL (n - i + 1) xs i n := by
  intro d
  induction d with
  | zero =>
    intro f xs i hd hf
    obtain ⟨f, rfl⟩ : ∃ m, f = m + 1 := ⟨f - 1, by omega⟩
    simp only [downL]
    rw [if_pos (by omega), if_pos (by omega)]
  | succ d ih =>
    intro f xs i hd hf
    obtain ⟨f, rfl⟩ : ∃ m, f = m + 1 := ⟨f - 1, by omega⟩
    simp only [downL]
    by_cases h : n ≤ 2 * i + 1
    · rw [if_pos h, if_pos h]
    · rw [if_neg h, if_neg h]
      have := kidL_gt xs i n
      have := kidL_lt xs i n (by omega)
      rw [ih f _ _ (by omega) (by omega), ih (n - i) _ _ (by omega) (by omega)]

theorem downL_length (n : Nat) (f : Nat) : ∀ (xs : List Int) (i : Nat), (downL f xs i n).length = xs.length := by
  induction f with
  | zero => intro xs j; rfl
  | succ f ih =>
    intro xs j
    simp only [downL]
    split
    · rfl
    · split
      · rw [ih, swapL_length]
      · rfl

def popL (xs : List Int) (n : Nat) : List Int := downL (n + 1) (swapL xs 0 n) 0 n
theorem popL_length (xs : List Int) (n : Nat) : (popL xs n).length = xs.length := by unfold popL; rw [downL_length, swapL_length]
def pushL (hs : List Int) (k : Int) : List Int := upL (hs.length + 1) (hs ++ [k]) hs.length
theorem pushL_length (hs : List Int) (k : Int) : (pushL hs k).length = hs.length + 1 := by unfold pushL; rw [upL_length]; simp
end Go.Proofs.YtihbpbdmhiihnaaDoor.Pl
/- container/heap at *order.indices. -/
namespace Go.Proofs.YtihbpbdmhiihnaaDoor.Sy.Heap
open Go Go.Proofs.YtihbpbdmhiihnaaDoor.Ab Go.Proofs.YtihbpbdmhiihnaaDoor.Sy Go.Proofs.YtihbpbdmhiihnaaDoor.Pl
set_option maxRecDepth 1000000
set_option linter.unusedVariables false
/-- Swap writes the list that it gets. -/
def wrS : Nat → Bool := fun f => f == 108
/-- The heap, as a store. -/
def Bx (xs : List Int) : List B := [.box [.arr 1], .lst 3 (xs.map I)]
def h : V := .iface 94 (.ptr 0 0)
theorem rdn (xs : List Int) (i : Nat) : xs.getD i default = rd xs (i : Int) := rfl
theorem set_map (xs : List Int) (i : Nat) (x : Int) : (xs.map I).set i (I x) = (xs.set i x).map I := by rw [List.map_set]
section
variable (xs ys zs us : List Int) (i j n i0 : Nat) (x : Int) (b : Bool)
theorem len : ICall Tryd.prog 61 [.arr 1] (Bx xs) (.d (I (xs.length : Nat))) (Bx xs) := by
  have h : callX Tryd.prog wrS false O 61 [.arr 1] (Bx xs) [] = some (.d (I ((xs.map I).length : Nat)), Bx xs, []) := by kernel_rfl
  rw [List.length_map] at h
  exact callX_ok hO hm h trivial
theorem ls : callX Tryd.prog wrS false O 105 [.arr 1, .d (I i), .d (I j)] (Bx xs) [.ix i, .el i (I (xs.getD i default)), .ix j, .el j (I (xs.getD j default)), .br b] = some (.d (.bool b), Bx xs,
  [(i : Int) = (i : Int) ∧ i < (xs.map I).length, (xs.map I)[i]? = some (I (xs.getD i default)), (j : Int) = (j : Int) ∧ j < (xs.map I).length, (xs.map I)[j]? = some (I (xs.getD j default)), decide (xs.getD i default < xs.getD j default) = b]) := by cases b <;> kernel_rfl
theorem less (hi : i < xs.length) (hj : j < xs.length) : ICall Tryd.prog 105 [.arr 1, .d (I i), .d (I j)] (Bx xs) (.d (.bool (decide (rd xs i < rd xs j)))) (Bx xs) :=
  callX_ok hO hm (ls xs i j _) ⟨⟨rfl, by rw [List.length_map]; exact hi⟩, get_map I xs i hi, ⟨rfl, by rw [List.length_map]; exact hj⟩, get_map I xs j hj, rfl⟩
theorem sw : callX Tryd.prog wrS false O 108 [.arr 1, .d (I i), .d (I j)] (Bx xs) [.ix j, .el j (I (xs.getD j default)), .ix i, .el i (I (xs.getD i default)), .ix i, .ix j] = some (.tup [], [.box [.arr 1], .lst 3 (((xs.map I).set i (I (xs.getD j default))).set j (I (xs.getD i default)))],
  [(j : Int) = (j : Int) ∧ j < (xs.map I).length, (xs.map I)[j]? = some (I (xs.getD j default)), (i : Int) = (i : Int) ∧ i < (xs.map I).length, (xs.map I)[i]? = some (I (xs.getD i default)), (i : Int) = (i : Int) ∧ i < (xs.map I).length, (j : Int) = (j : Int) ∧ j < ((xs.map I).set i (I (xs.getD j default))).length]) := by kernel_rfl
theorem swap (hi : i < xs.length) (hj : j < xs.length) : ICall Tryd.prog 108 [.arr 1, .d (I i), .d (I j)] (Bx xs) (.tup []) (Bx (swapL xs i j)) := by
  have h := sw xs i j
  rw [set_map, set_map] at h
  exact callX_ok hO hm h ⟨⟨rfl, by rw [List.length_map]; exact hj⟩, get_map I xs j hj, ⟨rfl, by rw [List.length_map]; exact hi⟩, get_map I xs i hi, ⟨rfl, by rw [List.length_map]; exact hi⟩, rfl, by simpa using hj⟩
theorem pu : callX Tryd.prog wrS false O 107 [.ptr 0 0, .iface 3 (.d (I x))] (Bx xs) [.raw, .raw, .raw] = some (.tup [], [.box [.arr 1], .lst 3 (xs.map I ++ [I x])], [(xs.map I).length + [I x].length ≤ maxItems]) := by kernel_rfl
theorem mpush (hl : xs.length ≤ 1000000) : ICall Tryd.prog 107 [.ptr 0 0, .iface 3 (.d (I x))] (Bx xs) (.tup []) (Bx (xs ++ [x])) := by
  have h := pu xs x
  rw [show xs.map I ++ [I x] = (xs ++ [x]).map I by rw [List.map_append]; rfl] at h
  exact callX_ok hO hm h (by rw [List.length_map]; exact Nat.le_trans (show xs.length + 1 ≤ 2000000 by omega) (by decide))
theorem po : callX Tryd.prog wrS false O 106 [.ptr 0 0] (Bx xs) [.is (n : Int), .ix n, .el n (I (xs.getD n default)), .cut 0 n] = some (.iface 3 (.d (I (xs.getD n default))), [.box [.arr 1], .lst 3 (List.take (n - 0) (xs.map I))],
  [IntKind.i64.wrap (((xs.map I).length : Int) - 1) = (n : Int), (n : Int) = (n : Int) ∧ n < (xs.map I).length, (xs.map I)[n]? = some (I (xs.getD n default)), ((0 : Nat) : Int) = ((0 : Nat) : Int) ∧ (n : Int) = (n : Int) ∧ 0 ≤ n ∧ n ≤ (xs.map I).length]) := by kernel_rfl
theorem mpop (hn : xs.length = n + 1) (hl : xs.length ≤ 1000000) : ICall Tryd.prog 106 [.ptr 0 0] (Bx xs) (.iface 3 (.d (I (rd xs n)))) (Bx (xs.take n)) := by
  have h := po xs n
  rw [← List.map_take, Nat.sub_zero] at h
  exact callX_ok hO hm h ⟨by rw [List.length_map, wrap_id (by omega) (by omega)]; omega, ⟨rfl, by rw [List.length_map]; omega⟩, get_map I xs n (by omega), rfl, rfl, by omega, by rw [List.length_map]; omega⟩
/-! ### up -/
def HU (xs : List Int) (j : Nat) : St := ⟨mk 23 [(0, h), (1, .d (I j))] [], Bx xs⟩
def EU (xs : List Int) : St := ⟨mk 23 [] [], Bx xs⟩
theorem up1 (p : Nat) : round Tryd.prog wrS false O (loopOf Tryd.prog 71 0) (HU xs j) [.is ((j : Int) - 1), .is (p : Int), .br true] [] 2 = some (.exit 0, EU xs,
  [IntKind.i64.wrap ((j : Int) - 1) = (j : Int) - 1, IntKind.i64.wrap (((j : Int) - 1).tdiv 2) = (p : Int), ((p : Int) == (j : Int)) = true]) := by kernel_rfl
theorem up2 (p : Nat) : round Tryd.prog wrS false O (loopOf Tryd.prog 71 0) (HU xs j) [.is ((j : Int) - 1), .is (p : Int), .br false, .icall [0, 1] (.d (.bool false)) (Bx xs), .br true] [] 2 = some (.exit 0, EU xs,
  [IntKind.i64.wrap ((j : Int) - 1) = (j : Int) - 1, IntKind.i64.wrap (((j : Int) - 1).tdiv 2) = (p : Int), ((p : Int) == (j : Int)) = false, ICall Tryd.prog 105 [.arr 1, .d (I j), .d (I p)] (Bx xs) (.d (.bool false)) (Bx xs), (!false) = true]) := by kernel_rfl
theorem up3 (p : Nat) : round Tryd.prog wrS false O (loopOf Tryd.prog 71 0) (HU xs j) [.is ((j : Int) - 1), .is (p : Int), .br false, .icall [0, 1] (.d (.bool true)) (Bx xs), .br false, .icall [0, 1] (.tup []) (Bx ys)] [0, 1] 2 = some (.normal, HU ys p,
  [IntKind.i64.wrap ((j : Int) - 1) = (j : Int) - 1, IntKind.i64.wrap (((j : Int) - 1).tdiv 2) = (p : Int), ((p : Int) == (j : Int)) = false, ICall Tryd.prog 105 [.arr 1, .d (I j), .d (I p)] (Bx xs) (.d (.bool true)) (Bx xs), (!true) = false,
   ICall Tryd.prog 108 [.arr 1, .d (I p), .d (I j)] (Bx xs) (.tup []) (Bx ys)]) := by kernel_rfl
theorem par (hj : j ≤ 1000000) : IntKind.i64.wrap (((j : Int) - 1).tdiv 2) = (((j - 1) / 2 : Nat) : Int) := by
  by_cases h0 : j = 0
  · subst h0; rfl
  · rw [Int.tdiv_eq_ediv_of_nonneg (by omega), wrap_id (by omega) (by omega)]; omega
end
theorem up_loop (j : Nat) : ∀ xs : List Int, j < xs.length → xs.length ≤ 1000000 → GoesL Tryd.prog (loopOf Tryd.prog 71 0) (HU xs j) (.exit 0) (EU (upL (j + 1) xs j)) := by
  induction j using Nat.strongRecOn with
  | _ j ih =>
    intro xs hj hl
    have w1 : IntKind.i64.wrap ((j : Int) - 1) = (j : Int) - 1 := wrap_id (by omega) (by omega)
    have w2 := par j (by omega)
    rw [upL]
    by_cases hp : (j - 1) / 2 = j
    · rw [if_pos hp]
      exact .stop hO hm (up1 xs j _) (by simp) ⟨w1, w2, by rw [hp]; simp [AllP]⟩
    · have hne : ((((j - 1) / 2 : Nat) : Int) == (j : Int)) = false := by simp; omega
      have hls := less xs j ((j - 1) / 2) hj (by omega)
      rw [if_neg hp]
      by_cases hlt : rd xs j < rd xs (((j - 1) / 2 : Nat) : Int)
      · rw [if_pos hlt]
        rw [decide_eq_true hlt] at hls
        have h2 := ih ((j - 1) / 2) (by omega) (swapL xs ((j - 1) / 2) j) (by rw [swapL_length]; omega) (by rw [swapL_length]; exact hl)
        rw [upL_more ((j - 1) / 2) j _ (by omega)]
        exact .step hO hm (up3 xs _ j _) ⟨w1, w2, hne, hls, rfl, swap xs _ j (by omega) hj⟩ h2
      · rw [if_neg hlt]
        rw [decide_eq_false hlt] at hls
        exact .stop hO hm (up2 xs j _) (by simp) ⟨w1, w2, hne, hls, rfl⟩
section
variable (xs ys zs us : List Int) (i j n i0 : Nat) (x : Int) (b : Bool)
theorem up4 : callX Tryd.prog wrS false O 71 [h, .d (I j)] (Bx xs) [.lp [0, 1] (.exit 0) (EU ys)] = some (.tup [], Bx ys, [GoesL Tryd.prog (loopOf Tryd.prog 71 0) (HU xs j) (.exit 0) (EU ys)]) := by kernel_rfl
theorem up (hj : j < xs.length) (hl : xs.length ≤ 1000000) : ICall Tryd.prog 71 [h, .d (I j)] (Bx xs) (.tup []) (Bx (upL (j + 1) xs j)) := callX_ok hO hm (up4 xs _ j) (up_loop j xs hj hl)
theorem hp : callX Tryd.prog wrS false O 60 [h, .iface 3 (.d (I x))] (Bx xs) [.icall [0, 1] (.tup []) (Bx ys), .icall [0, 1] (.d (I ((n + 1 : Nat) : Int))) (Bx ys), .is (n : Int), .icall [0, 1] (.tup []) (Bx zs)] = some (.tup [], Bx zs,
  [ICall Tryd.prog 107 [.ptr 0 0, .iface 3 (.d (I x))] (Bx xs) (.tup []) (Bx ys), ICall Tryd.prog 61 [.arr 1] (Bx ys) (.d (I ((n + 1 : Nat) : Int))) (Bx ys), IntKind.i64.wrap (((n + 1 : Nat) : Int) - 1) = (n : Int), ICall Tryd.prog 71 [h, .d (I n)] (Bx ys) (.tup []) (Bx zs)]) := by kernel_rfl
/-- heap.Push. -/
theorem push (hl : xs.length < 1000000) : ICall Tryd.prog 60 [h, .iface 3 (.d (I x))] (Bx xs) (.tup []) (Bx (pushL xs x)) := by
  have h1 := len (xs ++ [x])
  rw [List.length_append] at h1
  exact callX_ok hO hm (hp xs _ _ xs.length x) ⟨mpush xs x (by omega), h1, by rw [wrap_id (by omega) (by omega)]; omega, up (xs ++ [x]) xs.length (by simp) (by simp; omega)⟩
/-! ### down -/
def HD (xs : List Int) (i0 i n : Nat) : St := ⟨mk 48 [(0, h), (1, .d (I i0)), (2, .d (I n)), (7, .d (I i))] [], Bx xs⟩
def ED (xs : List Int) (i0 i : Nat) : St := ⟨mk 48 [(1, .d (I i0)), (7, .d (I i))] [], Bx xs⟩
def lt (xs : List Int) (b : Bool) : It := .icall [0, 1] (.d (.bool b)) (Bx xs)
def lp (xs : List Int) (b : Bool) (i j : Nat) : Prop := ICall Tryd.prog 105 [.arr 1, .d (I i), .d (I j)] (Bx xs) (.d (.bool b)) (Bx xs)
theorem dn1 : round Tryd.prog wrS false O (loopOf Tryd.prog 72 0) (HD xs i0 i n) [.is (2 * (i : Int)), .is ((2 * i + 1 : Nat) : Int), .br true] [1, 7] 2 = some (.exit 0, ED xs i0 i,
  [IntKind.i64.wrap (2 * (i : Int)) = 2 * (i : Int), IntKind.i64.wrap (2 * (i : Int) + 1) = ((2 * i + 1 : Nat) : Int), decide (((2 * i + 1 : Nat) : Int) ≥ (n : Int)) = true]) := by kernel_rfl
theorem dn2 (c : Bool) : round Tryd.prog wrS false O (loopOf Tryd.prog 72 0) (HD xs i0 i n) [.is (2 * (i : Int)), .is ((2 * i + 1 : Nat) : Int), .br false, .br false, .is ((2 * i + 2 : Nat) : Int), .br true, lt xs c, lt xs false, .br true] [1, 7] 2 = some (.exit 0, ED xs i0 i,
  [IntKind.i64.wrap (2 * (i : Int)) = 2 * (i : Int), IntKind.i64.wrap (2 * (i : Int) + 1) = ((2 * i + 1 : Nat) : Int), decide (((2 * i + 1 : Nat) : Int) ≥ (n : Int)) = false, decide (((2 * i + 1 : Nat) : Int) < 0) = false,
   IntKind.i64.wrap (((2 * i + 1 : Nat) : Int) + 1) = ((2 * i + 2 : Nat) : Int), decide (((2 * i + 2 : Nat) : Int) < (n : Int)) = true, lp xs c (2 * i + 2) (2 * i + 1), lp xs false (if c then 2 * i + 2 else 2 * i + 1) i, (!false) = true]) := by cases c <;> kernel_rfl
theorem dn3 (c : Bool) : round Tryd.prog wrS false O (loopOf Tryd.prog 72 0) (HD xs i0 i n) [.is (2 * (i : Int)), .is ((2 * i + 1 : Nat) : Int), .br false, .br false, .is ((2 * i + 2 : Nat) : Int), .br true, lt xs c, lt xs true, .br false, .icall [0, 1] (.tup []) (Bx ys)] [0, 1, 2, 7] 2 = some (.normal, HD ys i0 (if c then 2 * i + 2 else 2 * i + 1) n,
  [IntKind.i64.wrap (2 * (i : Int)) = 2 * (i : Int), IntKind.i64.wrap (2 * (i : Int) + 1) = ((2 * i + 1 : Nat) : Int), decide (((2 * i + 1 : Nat) : Int) ≥ (n : Int)) = false, decide (((2 * i + 1 : Nat) : Int) < 0) = false,
   IntKind.i64.wrap (((2 * i + 1 : Nat) : Int) + 1) = ((2 * i + 2 : Nat) : Int), decide (((2 * i + 2 : Nat) : Int) < (n : Int)) = true, lp xs c (2 * i + 2) (2 * i + 1), lp xs true (if c then 2 * i + 2 else 2 * i + 1) i, (!true) = false,
   ICall Tryd.prog 108 [.arr 1, .d (I i), .d (I (if c then 2 * i + 2 else 2 * i + 1 : Nat))] (Bx xs) (.tup []) (Bx ys)]) := by cases c <;> kernel_rfl
theorem dn4 : round Tryd.prog wrS false O (loopOf Tryd.prog 72 0) (HD xs i0 i n) [.is (2 * (i : Int)), .is ((2 * i + 1 : Nat) : Int), .br false, .br false, .is ((2 * i + 2 : Nat) : Int), .br false, lt xs false, .br true] [1, 7] 2 = some (.exit 0, ED xs i0 i,
  [IntKind.i64.wrap (2 * (i : Int)) = 2 * (i : Int), IntKind.i64.wrap (2 * (i : Int) + 1) = ((2 * i + 1 : Nat) : Int), decide (((2 * i + 1 : Nat) : Int) ≥ (n : Int)) = false, decide (((2 * i + 1 : Nat) : Int) < 0) = false,
   IntKind.i64.wrap (((2 * i + 1 : Nat) : Int) + 1) = ((2 * i + 2 : Nat) : Int), decide (((2 * i + 2 : Nat) : Int) < (n : Int)) = false, lp xs false (2 * i + 1) i, (!false) = true]) := by kernel_rfl
theorem dn5 : round Tryd.prog wrS false O (loopOf Tryd.prog 72 0) (HD xs i0 i n) [.is (2 * (i : Int)), .is ((2 * i + 1 : Nat) : Int), .br false, .br false, .is ((2 * i + 2 : Nat) : Int), .br false, lt xs true, .br false, .icall [0, 1] (.tup []) (Bx ys)] [0, 1, 2, 7] 2 = some (.normal, HD ys i0 (2 * i + 1) n,
  [IntKind.i64.wrap (2 * (i : Int)) = 2 * (i : Int), IntKind.i64.wrap (2 * (i : Int) + 1) = ((2 * i + 1 : Nat) : Int), decide (((2 * i + 1 : Nat) : Int) ≥ (n : Int)) = false, decide (((2 * i + 1 : Nat) : Int) < 0) = false,
   IntKind.i64.wrap (((2 * i + 1 : Nat) : Int) + 1) = ((2 * i + 2 : Nat) : Int), decide (((2 * i + 2 : Nat) : Int) < (n : Int)) = false, lp xs true (2 * i + 1) i, (!true) = false,
   ICall Tryd.prog 108 [.arr 1, .d (I i), .d (I (2 * i + 1 : Nat))] (Bx xs) (.tup []) (Bx ys)]) := by kernel_rfl
end
theorem down_loop (n i0 : Nat) (d : Nat) : ∀ (i : Nat) (xs : List Int), n - i ≤ d → i < n → n ≤ xs.length → xs.length ≤ 1000000 → ∃ k, GoesL Tryd.prog (loopOf Tryd.prog 72 0) (HD xs i0 i n) (.exit 0) (ED (downL (n - i + 1) xs i n) i0 k) := by
  induction d with
  | zero => intro i xs hd hi; omega
  | succ d ih =>
    intro i xs hd hi hn hl
    have w1 : IntKind.i64.wrap (2 * (i : Int)) = 2 * (i : Int) := wrap_id (by omega) (by omega)
    have w2 : IntKind.i64.wrap (2 * (i : Int) + 1) = ((2 * i + 1 : Nat) : Int) := by rw [wrap_id (by omega) (by omega)]; omega
    have w3 : IntKind.i64.wrap (((2 * i + 1 : Nat) : Int) + 1) = ((2 * i + 2 : Nat) : Int) := by rw [wrap_id (by omega) (by omega)]; omega
    rw [downL]
    by_cases hk : n ≤ 2 * i + 1
    · rw [if_pos hk]
      exact ⟨i, .stop hO hm (dn1 xs i n i0) (by simp) ⟨w1, w2, decide_eq_true (by omega)⟩⟩
    · rw [if_neg hk]
      have t1 : decide (((2 * i + 1 : Nat) : Int) ≥ (n : Int)) = false := decide_eq_false (by omega)
      have t2 : decide (((2 * i + 1 : Nat) : Int) < 0) = false := decide_eq_false (by omega)
      have hg := kidL_gt xs i n
      have hkl := kidL_lt xs i n (by omega)
      have hsw := swap xs i (kidL xs i n) (by omega) (by omega)
      have hls := less xs (kidL xs i n) i (by omega) (by omega)
      have hdm := downL_more n (n - kidL xs i n) (n - i) (swapL xs i (kidL xs i n)) (kidL xs i n) (by omega) (by omega)
      by_cases h2 : 2 * i + 2 < n
      · have t3 : decide (((2 * i + 2 : Nat) : Int) < (n : Int)) = true := decide_eq_true (by omega)
        have hl2 := less xs (2 * i + 2) (2 * i + 1) (by omega) (by omega)
        generalize hc : decide (rd xs ((2 * i + 2 : Nat) : Int) < rd xs ((2 * i + 1 : Nat) : Int)) = c at hl2
        have hkid : kidL xs i n = if c then 2 * i + 2 else 2 * i + 1 := by
          unfold kidL
          cases c with
          | true => rw [if_pos ⟨h2, of_decide_eq_true hc⟩]; rfl
          | false => rw [if_neg (fun q => of_decide_eq_false hc q.2)]; rfl
        by_cases hlt : rd xs (kidL xs i n : Int) < rd xs (i : Int)
        · rw [if_pos hlt]
          rw [decide_eq_true hlt] at hls
          obtain ⟨k, hgo⟩ := ih (kidL xs i n) (swapL xs i (kidL xs i n)) (by omega) (by omega) (by rw [swapL_length]; exact hn) (by rw [swapL_length]; exact hl)
          rw [hdm]
          generalize swapL xs i (kidL xs i n) = ys at *
          generalize kidL xs i n = q at *
          subst hkid
          exact ⟨k, .step hO hm (dn3 xs ys i n i0 c) ⟨w1, w2, t1, t2, w3, t3, hl2, hls, rfl, hsw⟩ hgo⟩
        · rw [if_neg hlt]
          rw [decide_eq_false hlt, hkid] at hls
          exact ⟨i, .stop hO hm (dn2 xs i n i0 c) (by simp) ⟨w1, w2, t1, t2, w3, t3, hl2, hls, rfl⟩⟩
      · have t3 : decide (((2 * i + 2 : Nat) : Int) < (n : Int)) = false := decide_eq_false (by omega)
        have hkid : kidL xs i n = 2 * i + 1 := by unfold kidL; rw [if_neg (fun h => h2 h.1)]
        by_cases hlt : rd xs (kidL xs i n : Int) < rd xs (i : Int)
        · rw [if_pos hlt]
          rw [decide_eq_true hlt] at hls
          obtain ⟨k, hgo⟩ := ih (kidL xs i n) (swapL xs i (kidL xs i n)) (by omega) (by omega) (by rw [swapL_length]; exact hn) (by rw [swapL_length]; exact hl)
          rw [hdm]
          generalize swapL xs i (kidL xs i n) = ys at *
          generalize kidL xs i n = q at *
          subst hkid
          exact ⟨k, .step hO hm (dn5 xs ys i n i0) ⟨w1, w2, t1, t2, w3, t3, hls, rfl, hsw⟩ hgo⟩
        · rw [if_neg hlt]
          rw [decide_eq_false hlt, hkid] at hls
          exact ⟨i, .stop hO hm (dn4 xs i n i0) (by simp) ⟨w1, w2, t1, t2, w3, t3, hls, rfl⟩⟩
section
variable (xs ys zs us : List Int) (i j n i0 k : Nat) (x : Int) (b : Bool)
theorem dn6 : callX Tryd.prog wrS false O 72 [h, .d (I i), .d (I n)] (Bx xs) [.lp [0, 1, 2, 7] (.exit 0) (ED ys i k), .br b] = some (.d (.bool b), Bx ys, [GoesL Tryd.prog (loopOf Tryd.prog 72 0) (HD xs i i n) (.exit 0) (ED ys i k), decide ((k : Int) > (i : Int)) = b]) := by kernel_rfl
theorem down (hn : n ≤ xs.length) (hl : xs.length ≤ 1000000) (hi : 0 < n) : ∃ b, ICall Tryd.prog 72 [h, .d (I 0), .d (I n)] (Bx xs) (.d (.bool b)) (Bx (downL (n + 1) xs 0 n)) := by
  obtain ⟨k, hk⟩ := down_loop n 0 n 0 xs (by omega) hi hn hl
  exact ⟨_, callX_ok hO hm (dn6 xs _ 0 n k _) ⟨hk, rfl⟩⟩
theorem hpo (m : Int) : callX Tryd.prog wrS false O 62 [h] (Bx xs) [.icall [0, 1] (.d (I ((n + 1 : Nat) : Int))) (Bx xs), .is (n : Int), .icall [0, 1] (.tup []) (Bx ys), .icall [0, 1] (.d (.bool b)) (Bx zs), .icall [0, 1] (.iface 3 (.d (I m))) (Bx us)] = some (.iface 3 (.d (I m)), Bx us,
  [ICall Tryd.prog 61 [.arr 1] (Bx xs) (.d (I ((n + 1 : Nat) : Int))) (Bx xs), IntKind.i64.wrap (((n + 1 : Nat) : Int) - 1) = (n : Int), ICall Tryd.prog 108 [.arr 1, .d (I 0), .d (I n)] (Bx xs) (.tup []) (Bx ys),
   ICall Tryd.prog 72 [h, .d (I 0), .d (I n)] (Bx ys) (.d (.bool b)) (Bx zs), ICall Tryd.prog 106 [.ptr 0 0] (Bx zs) (.iface 3 (.d (I m))) (Bx us)]) := by kernel_rfl
theorem dn7 : callX Tryd.prog wrS false O 72 [h, .d (I 0), .d (I 0)] (Bx xs) [.lp [0, 1, 2, 7] (.exit 0) (ED xs 0 0), .br false] = some (.d (.bool false), Bx xs, [GoesL Tryd.prog (loopOf Tryd.prog 72 0) (HD xs 0 0 0) (.exit 0) (ED xs 0 0), decide ((0 : Int) > 0) = false]) := by kernel_rfl
theorem down0 : ICall Tryd.prog 72 [h, .d (I 0), .d (I 0)] (Bx xs) (.d (.bool false)) (Bx (downL 1 xs 0 0)) := by
  have e : downL 1 xs 0 0 = xs := by rw [downL, if_pos (by omega)]
  rw [e]
  exact callX_ok hO hm (dn7 xs) ⟨.stop hO hm (dn1 xs 0 0 0) (by simp) ⟨rfl, rfl, by simp [AllP]⟩, by simp [AllP]⟩
/-- heap.Pop. -/
theorem pop (hn : xs.length = n + 1) (hl : xs.length ≤ 1000000) : ICall Tryd.prog 62 [h] (Bx xs) (.iface 3 (.d (I (rd (popL xs n) n)))) (Bx ((popL xs n).take n)) := by
  have h1 := len xs
  rw [hn] at h1
  have hsw : ICall Tryd.prog 108 [.arr 1, .d (I 0), .d (I n)] (Bx xs) (.tup []) (Bx (swapL xs 0 n)) := swap xs 0 n (by omega) (by omega)
  have hd : ∃ b, ICall Tryd.prog 72 [h, .d (I 0), .d (I n)] (Bx (swapL xs 0 n)) (.d (.bool b)) (Bx (popL xs n)) := by
    by_cases h0 : n = 0
    · subst h0
      exact ⟨_, down0 _⟩
    · exact down (swapL xs 0 n) n (by rw [swapL_length]; omega) (by rw [swapL_length]; exact hl) (by omega)
  obtain ⟨b, hd⟩ := hd
  exact callX_ok hO hm (hpo xs _ _ _ n b _) ⟨h1, by rw [wrap_id (by omega) (by omega)]; omega, hsw, hd, mpop (popL xs n) n (by rw [popL_length]; exact hn) (by rw [popL_length]; exact hl)⟩
end
end Go.Proofs.YtihbpbdmhiihnaaDoor.Sy.Heap
/- What order.sorted computes, as plain functions on lists. -/
namespace Go.Proofs.YtihbpbdmhiihnaaDoor.Pl
open Go Go.Proofs.YtihbpbdmhiihnaaDoor.Sy
set_option linter.unusedVariables false
set_option linter.unusedSimpArgs false
def rdD (xs : List Df) (i : Int) : Df := xs.getD i.toNat default
/-- Which variables are gates. -/
def srtMark : List Df → List Bool → Option (List Bool)
  | [], gs => some gs
  | d :: t, gs => if 0 ≤ d.lit ∧ d.lit / 2 < (gs.length : Int) then srtMark t (gs.set (d.lit / 2).toNat true) else none

/-- One part of the gate i: it waits for a gate. -/
def srtPart (gs : List Bool) (i : Nat) (l : Int) (ws : List (List Int)) (ms : List Int) : Option (List (List Int) × List Int) :=
  if 0 ≤ l ∧ l / 2 < (gs.length : Int) ∧ l / 2 < (ws.length : Int) ∧ i < ms.length ∧ -1000000 ≤ rd ms i ∧ rd ms i ≤ 1000000 ∧ (ws.getD (l / 2).toNat []).length ≤ 1000000 then
    (if rdOf false gs (l / 2) = true then some (ws.set (l / 2).toNat (ws.getD (l / 2).toNat [] ++ [(i : Int)]), ms.set i (rd ms i + 1)) else some (ws, ms))
  else none

/-- All gates: who waits for whom, and which wait for none. -/
def srtGates (gs : List Bool) : List Df → Nat → List (List Int) → List Int → List Int → Option (List (List Int) × List Int × List Int)
  | [], _, ws, ms, hs => some (ws, ms, hs)
  | d :: t, i, ws, ms, hs => (srtPart gs i d.a ws ms).bind fun p => (srtPart gs i d.b p.1 p.2).bind fun q =>
      if i < q.2.length then (if rd q.2 i = 0 then (if hs.length < 1000000 then srtGates gs t (i + 1) q.1 q.2 (pushL hs i) else none) else srtGates gs t (i + 1) q.1 q.2 hs) else none

/-- Those that waited for one gate. -/
def srtIn : List Int → List Int → List Int → Option (List Int × List Int)
  | [], ms, hs => some (ms, hs)
  | k :: t, ms, hs => if 0 ≤ k ∧ k < (ms.length : Int) ∧ hs.length < 1000000 ∧ -1000000 ≤ rd ms k ∧ rd ms k ≤ 1000000 then
      (if rd ms k - 1 = 0 then srtIn t (ms.set k.toNat (rd ms k - 1)) (pushL hs k) else srtIn t (ms.set k.toNat (rd ms k - 1)) hs) else none

/-- The least one that is ready, as long as there is one. -/
def srtOut (ands : List Df) (ws : List (List Int)) : Nat → List Int → List Int → List Int → Option (List Int)
  | 0, _, _, _ => none
  | f + 1, ms, hs, out => if hs.length = 0 then some out else
      if hs.length ≤ 1000000 ∧ out.length ≤ 1000000 ∧ 0 ≤ rd (popL hs (hs.length - 1)) ((hs.length - 1 : Nat) : Int) ∧ rd (popL hs (hs.length - 1)) ((hs.length - 1 : Nat) : Int) < (ands.length : Int) ∧
          0 ≤ (rdD ands (rd (popL hs (hs.length - 1)) ((hs.length - 1 : Nat) : Int))).lit ∧ (rdD ands (rd (popL hs (hs.length - 1)) ((hs.length - 1 : Nat) : Int))).lit / 2 < (ws.length : Int) then
        (srtIn (ws.getD ((rdD ands (rd (popL hs (hs.length - 1)) ((hs.length - 1 : Nat) : Int))).lit / 2).toNat []) ms ((popL hs (hs.length - 1)).take (hs.length - 1))).bind fun p =>
          srtOut ands ws f p.1 p.2 (out ++ [rd (popL hs (hs.length - 1)) ((hs.length - 1 : Nat) : Int)])
      else none

def order_sorted.f (k : Nat) (most : Int) (ands : List Df) : Option (List Int) :=
  if 0 ≤ most ∧ most ≤ 1000000 ∧ ands.length ≤ 1000000 then
    (srtMark ands (List.replicate (most + 1).toNat false)).bind fun gs =>
      (srtGates gs ands 0 (List.replicate (most + 1).toNat []) (List.replicate ands.length 0) []).bind fun p =>
        srtOut ands p.1 k p.2.1 p.2.2 []
  else none
end Go.Proofs.YtihbpbdmhiihnaaDoor.Pl
/- order.sorted: which variables are gates; who waits for whom. -/
namespace Go.Proofs.YtihbpbdmhiihnaaDoor.Sy.Sort
open Go Go.Proofs.YtihbpbdmhiihnaaDoor.Ab Go.Proofs.YtihbpbdmhiihnaaDoor.Sy Go.Proofs.YtihbpbdmhiihnaaDoor.Pl Go.Proofs.YtihbpbdmhiihnaaDoor.Sy.Heap
set_option maxRecDepth 1000000
set_option linter.unusedVariables false
def WL (ws : List (List Int)) : List (Option (List D)) := ws.map (fun l => some (l.map I))
def GL (gs : List Bool) : List D := gs.map D.bool
def Dv (ds : List Df) : V := .d (.sl (ds.map Df.d))
def Dn (ds : List Df) : V := .d (I ((ds.map Df.d).length : Nat))
theorem quo2 {x : Int} (h : 0 ≤ x) (h1 : x / 2 < 1000001) : IntKind.i64.wrap (x.tdiv 2) = x / 2 := by
  rw [Int.tdiv_eq_ediv_of_nonneg h]; exact wrap_id (by omega) (by omega)
/-! ### which variables are gates -/
def H0 (r : Rw) (ds : List Df) (wl : List (Option (List D))) (ml gl : List D) (i : Nat) : St := ⟨mk 145 [(1, .ptr 0 0), (3, .arr 1), (4, .arr 2), (5, .arr 3), (31, Dv ds), (32, Dn ds), (33, .d (I i))] [], [r.box, .lst2 22 wl, .lst 3 ml, .lst 4 gl]⟩
def E0 (r : Rw) (wl : List (Option (List D))) (ml gl : List D) : St := ⟨mk 145 [(1, .ptr 0 0), (3, .arr 1), (4, .arr 2), (5, .arr 3)] [], [r.box, .lst2 22 wl, .lst 3 ml, .lst 4 gl]⟩
section
variable (r : Rw) (ds : List Df) (wl : List (Option (List D))) (ml gl hl : List D) (i u : Nat) (x : Int)
theorem m1 : round Tryd.prog wrS false O (loopOf Tryd.prog 49 0) (H0 r ds wl ml gl i) [.br true, .el i (ds.getD i default).d, .is ((ds.getD i default).lit / 2), .ix u, .is ((i + 1 : Nat) : Int)] [1, 3, 4, 5, 31, 32, 33] 4 = some (.normal, H0 r ds wl ml (gl.set u (.bool true)) (i + 1),
  [decide ((i : Int) < ((ds.map Df.d).length : Nat)) = true, (i : Int) = (i : Int) ∧ (ds.map Df.d)[i]? = some (ds.getD i default).d, IntKind.i64.wrap ((ds.getD i default).lit.tdiv 2) = (ds.getD i default).lit / 2, (ds.getD i default).lit / 2 = (u : Int) ∧ u < gl.length, IntKind.i64.wrap ((i : Int) + 1) = ((i + 1 : Nat) : Int)]) := by kernel_rfl
theorem m2 : round Tryd.prog wrS false O (loopOf Tryd.prog 49 0) (H0 r ds wl ml gl i) [.br false] [1, 3, 4, 5] 4 = some (.exit 0, E0 r wl ml gl, [decide ((i : Int) < ((ds.map Df.d).length : Nat)) = false]) := by kernel_rfl
end
theorem mark_loop (r : Rw) (ds : List Df) (wl : List (Option (List D))) (ml : List D) (hl : ds.length ≤ 1000000) (d : Nat) : ∀ (i : Nat) (gs gs' : List Bool), ds.length - i = d → i ≤ ds.length → gs.length ≤ 1000001 → srtMark (ds.drop i) gs = some gs' → GoesL Tryd.prog (loopOf Tryd.prog 49 0) (H0 r ds wl ml (GL gs) i) (.exit 0) (E0 r wl ml (GL gs')) := by
  induction d with
  | zero =>
    intro i gs gs' hd hi hg h
    obtain rfl : i = ds.length := by omega
    rw [List.drop_length, srtMark, Option.some.injEq] at h
    subst h
    exact .stop hO hm (m2 r ds wl ml _ _) (by simp) (decide_eq_false (by rw [List.length_map]; omega))
  | succ d ih =>
    intro i gs gs' hd hi hg h
    rw [drop_getD ds i (by omega), srtMark] at h
    split at h
    · rename_i hc
      have h2 := ih (i + 1) _ gs' (by omega) (by omega) (by rw [List.length_set]; exact hg) h
      rw [show GL (gs.set ((ds.getD i default).lit / 2).toNat true) = (GL gs).set ((ds.getD i default).lit / 2).toNat (.bool true) by unfold GL; rw [List.map_set]] at h2
      exact .step hO hm (m1 r ds wl ml (GL gs) i _) ⟨decide_eq_true (by rw [List.length_map]; omega), ⟨rfl, get_map Df.d ds i (by omega)⟩, quo2 hc.1 (by omega), ⟨by omega, by unfold GL; rw [List.length_map]; omega⟩, wrap_succ (by omega)⟩ h2
    · cases h
/-! ### the parts of one gate -/
def Ls (r : Rw) (wl : List (Option (List D))) (ml gl hl : List D) : List B := [r.box, .lst2 22 wl, .lst 3 ml, .lst 4 gl, .lst 3 hl, .box [.arr 4]]
def HP (r : Rw) (ds : List Df) (wl : List (Option (List D))) (ml gl hl : List D) (i : Nat) (g : Df) (k : Int) : St :=
  ⟨mk 145 [(1, .ptr 0 0), (3, .arr 1), (4, .arr 2), (5, .arr 3), (8, .ptr 5 0), (9, .d (I i)), (46, Dv ds), (47, Dn ds), (48, .d (I i)), (57, .d (.agg [I g.a, I g.b])), (58, .d (I k))] [], Ls r wl ml gl hl ++ [.box [.d (I g.lit), .d (I g.a), .d (I g.b)]]⟩
def EP (r : Rw) (ds : List Df) (wl : List (Option (List D))) (ml gl hl : List D) (i : Nat) (g : Df) : St :=
  ⟨mk 145 [(1, .ptr 0 0), (3, .arr 1), (4, .arr 2), (5, .arr 3), (8, .ptr 5 0), (9, .d (I i)), (46, Dv ds), (47, Dn ds), (48, .d (I i))] [], Ls r wl ml gl hl ++ [.box [.d (I g.lit), .d (I g.a), .d (I g.b)]]⟩
section
variable (r : Rw) (ds : List Df) (wl : List (Option (List D))) (ml gl hl w : List D) (i u : Nat) (g : Df) (x m : Int)
theorem p0f : round Tryd.prog wrS false O (loopOf Tryd.prog 49 2) (HP r ds wl ml gl hl i g 0) [.br true, .ix 0, .is (g.a / 2), .ix u, .el u (.bool false), .is 1] [1, 3, 4, 5, 8, 9, 46, 47, 48, 57, 58] 7 = some (.normal, HP r ds wl ml gl hl i g 1,
  [decide ((0 : Int) < 2) = true, (0 : Int) = ((0 : Nat) : Int) ∧ 0 < 2, IntKind.i64.wrap (g.a.tdiv 2) = g.a / 2, g.a / 2 = (u : Int) ∧ u < gl.length, gl[u]? = some (.bool false), IntKind.i64.wrap (0 + 1) = 1]) := by kernel_rfl
theorem p0t : round Tryd.prog wrS false O (loopOf Tryd.prog 49 2) (HP r ds wl ml gl hl i g 0) [.br true, .ix 0, .is (g.a / 2), .ix u, .el u (.bool true), .ix i, .el i (I m), .is (m + 1), .ix i, .is (g.a / 2), .is (g.a / 2), .ix u, .ls w, .raw, .raw, .ls w, .raw, .ix u, .is 1] [1, 3, 4, 5, 8, 9, 46, 47, 48, 57, 58] 7
  = some (.normal, HP r ds ((wl.set u none).set u (some (w ++ [I i]))) (ml.set i (I (m + 1))) gl hl i g 1,
  [decide ((0 : Int) < 2) = true, (0 : Int) = ((0 : Nat) : Int) ∧ 0 < 2, IntKind.i64.wrap (g.a.tdiv 2) = g.a / 2, g.a / 2 = (u : Int) ∧ u < gl.length, gl[u]? = some (.bool true), (i : Int) = (i : Int) ∧ i < ml.length, ml[i]? = some (I m), IntKind.i64.wrap (m + 1) = m + 1, (i : Int) = (i : Int) ∧ i < ml.length, IntKind.i64.wrap (g.a.tdiv 2) = g.a / 2, IntKind.i64.wrap (g.a.tdiv 2) = g.a / 2,
   g.a / 2 = (u : Int) ∧ u < wl.length, wl[u]? = some (some w), wl[u]? = some (some w), w.length + [I i].length ≤ maxItems, g.a / 2 = (u : Int) ∧ u < (wl.set u none).length, IntKind.i64.wrap (0 + 1) = 1]) := by kernel_rfl
theorem p1f : round Tryd.prog wrS false O (loopOf Tryd.prog 49 2) (HP r ds wl ml gl hl i g 1) [.br true, .ix 1, .is (g.b / 2), .ix u, .el u (.bool false), .is 2] [1, 3, 4, 5, 8, 9, 46, 47, 48, 57, 58] 7 = some (.normal, HP r ds wl ml gl hl i g 2,
  [decide ((1 : Int) < 2) = true, (1 : Int) = ((1 : Nat) : Int) ∧ 1 < 2, IntKind.i64.wrap (g.b.tdiv 2) = g.b / 2, g.b / 2 = (u : Int) ∧ u < gl.length, gl[u]? = some (.bool false), IntKind.i64.wrap (1 + 1) = 2]) := by kernel_rfl
theorem p1t : round Tryd.prog wrS false O (loopOf Tryd.prog 49 2) (HP r ds wl ml gl hl i g 1) [.br true, .ix 1, .is (g.b / 2), .ix u, .el u (.bool true), .ix i, .el i (I m), .is (m + 1), .ix i, .is (g.b / 2), .is (g.b / 2), .ix u, .ls w, .raw, .raw, .ls w, .raw, .ix u, .is 2] [1, 3, 4, 5, 8, 9, 46, 47, 48, 57, 58] 7
  = some (.normal, HP r ds ((wl.set u none).set u (some (w ++ [I i]))) (ml.set i (I (m + 1))) gl hl i g 2,
  [decide ((1 : Int) < 2) = true, (1 : Int) = ((1 : Nat) : Int) ∧ 1 < 2, IntKind.i64.wrap (g.b.tdiv 2) = g.b / 2, g.b / 2 = (u : Int) ∧ u < gl.length, gl[u]? = some (.bool true), (i : Int) = (i : Int) ∧ i < ml.length, ml[i]? = some (I m), IntKind.i64.wrap (m + 1) = m + 1, (i : Int) = (i : Int) ∧ i < ml.length, IntKind.i64.wrap (g.b.tdiv 2) = g.b / 2, IntKind.i64.wrap (g.b.tdiv 2) = g.b / 2,
   g.b / 2 = (u : Int) ∧ u < wl.length, wl[u]? = some (some w), wl[u]? = some (some w), w.length + [I i].length ≤ maxItems, g.b / 2 = (u : Int) ∧ u < (wl.set u none).length, IntKind.i64.wrap (1 + 1) = 2]) := by kernel_rfl
theorem p2 : round Tryd.prog wrS false O (loopOf Tryd.prog 49 2) (HP r ds wl ml gl hl i g 2) [.br false] [1, 3, 4, 5, 8, 9, 46, 47, 48] 7 = some (.exit 4, EP r ds wl ml gl hl i g, [decide ((2 : Int) < 2) = false]) := by kernel_rfl
end
theorem WL_get (ws : List (List Int)) (u : Nat) (h : u < ws.length) : (WL ws)[u]? = some (some ((ws.getD u []).map I)) := by
  unfold WL
  rw [List.getElem?_map, List.getElem?_eq_getElem h, List.getD_eq_getElem?_getD, List.getElem?_eq_getElem h]; rfl
theorem WL_set (ws : List (List Int)) (u : Nat) (l : List Int) : ((WL ws).set u none).set u (some (l.map I)) = WL (ws.set u l) := by
  unfold WL; rw [List.set_set, List.map_set]
theorem part0 (r : Rw) (ds : List Df) (gs : List Bool) (hl : List D) (i : Nat) (g : Df) (ws ws' : List (List Int)) (ms ms' : List Int) (hg : gs.length ≤ 1000001) (h : srtPart gs i g.a ws ms = some (ws', ms')) {e : Ex} {s : St} (h2 : GoesL Tryd.prog (loopOf Tryd.prog 49 2) (HP r ds (WL ws') (ms'.map I) (GL gs) hl i g 1) e s) :
    GoesL Tryd.prog (loopOf Tryd.prog 49 2) (HP r ds (WL ws) (ms.map I) (GL gs) hl i g 0) e s := by
  unfold srtPart at h
  split at h
  · rename_i hc
    obtain ⟨h0, h1, h3, h4, h5, h6, h7⟩ := hc
    have hq := quo2 h0 (by omega)
    have hu : g.a / 2 = ((g.a / 2).toNat : Int) := by omega
    have hgl : (g.a / 2).toNat < (GL gs).length := by unfold GL; rw [List.length_map]; omega
    have hge : (GL gs)[(g.a / 2).toNat]? = some (.bool (rdOf false gs (g.a / 2))) := by
      unfold GL rdOf
      rw [List.getElem?_map, List.getElem?_eq_getElem (by omega), List.getD_eq_getElem?_getD, List.getElem?_eq_getElem (by omega)]; rfl
    split at h
    · rename_i hb
      rw [hb] at hge
      simp only [Option.some.injEq, Prod.mk.injEq] at h
      obtain ⟨rfl, rfl⟩ := h
      have hr := p0t r ds (WL ws) (ms.map I) (GL gs) hl ((ws.getD (g.a / 2).toNat []).map I) i (g.a / 2).toNat g (rd ms i)
      rw [show (ws.getD (g.a / 2).toNat []).map I ++ [I (i : Int)] = (ws.getD (g.a / 2).toNat [] ++ [(i : Int)]).map I by rw [List.map_append]; rfl, WL_set, set_map] at hr
      have hwl : (g.a / 2).toNat < (WL ws).length := by unfold WL; rw [List.length_map]; omega
      have hw := WL_get ws (g.a / 2).toNat (by omega)
      exact .step hO hm hr ⟨rfl, ⟨rfl, by omega⟩, hq, ⟨hu, hgl⟩, hge, ⟨rfl, by rw [List.length_map]; exact h4⟩, get_map I ms i h4, wrap_id (by omega) (by omega), ⟨rfl, by rw [List.length_map]; exact h4⟩, hq, hq, ⟨hu, hwl⟩, hw, hw,
        by rw [List.length_map]; exact Nat.le_trans (Nat.add_le_add_right h7 1) (by decide), ⟨hu, by rw [List.length_set]; exact hwl⟩, rfl⟩ h2
    · rename_i hb
      rw [Bool.not_eq_true] at hb
      rw [hb] at hge
      simp only [Option.some.injEq, Prod.mk.injEq] at h
      obtain ⟨rfl, rfl⟩ := h
      exact .step hO hm (p0f r ds (WL ws) (ms.map I) (GL gs) hl i _ g) ⟨rfl, ⟨rfl, by omega⟩, hq, ⟨hu, hgl⟩, hge, rfl⟩ h2
  · cases h
theorem part1 (r : Rw) (ds : List Df) (gs : List Bool) (hl : List D) (i : Nat) (g : Df) (ws ws' : List (List Int)) (ms ms' : List Int) (hg : gs.length ≤ 1000001) (h : srtPart gs i g.b ws ms = some (ws', ms')) {e : Ex} {s : St} (h2 : GoesL Tryd.prog (loopOf Tryd.prog 49 2) (HP r ds (WL ws') (ms'.map I) (GL gs) hl i g 2) e s) :
    GoesL Tryd.prog (loopOf Tryd.prog 49 2) (HP r ds (WL ws) (ms.map I) (GL gs) hl i g 1) e s := by
  unfold srtPart at h
  split at h
  · rename_i hc
    obtain ⟨h0, h1, h3, h4, h5, h6, h7⟩ := hc
    have hq := quo2 h0 (by omega)
    have hu : g.b / 2 = ((g.b / 2).toNat : Int) := by omega
    have hgl : (g.b / 2).toNat < (GL gs).length := by unfold GL; rw [List.length_map]; omega
    have hge : (GL gs)[(g.b / 2).toNat]? = some (.bool (rdOf false gs (g.b / 2))) := by
      unfold GL rdOf
      rw [List.getElem?_map, List.getElem?_eq_getElem (by omega), List.getD_eq_getElem?_getD, List.getElem?_eq_getElem (by omega)]; rfl
    split at h
    · rename_i hb
      rw [hb] at hge
      simp only [Option.some.injEq, Prod.mk.injEq] at h
      obtain ⟨rfl, rfl⟩ := h
      have hr := p1t r ds (WL ws) (ms.map I) (GL gs) hl ((ws.getD (g.b / 2).toNat []).map I) i (g.b / 2).toNat g (rd ms i)
      rw [show (ws.getD (g.b / 2).toNat []).map I ++ [I (i : Int)] = (ws.getD (g.b / 2).toNat [] ++ [(i : Int)]).map I by rw [List.map_append]; rfl, WL_set, set_map] at hr
      have hwl : (g.b / 2).toNat < (WL ws).length := by unfold WL; rw [List.length_map]; omega
      have hw := WL_get ws (g.b / 2).toNat (by omega)
      exact .step hO hm hr ⟨rfl, ⟨rfl, by omega⟩, hq, ⟨hu, hgl⟩, hge, ⟨rfl, by rw [List.length_map]; exact h4⟩, get_map I ms i h4, wrap_id (by omega) (by omega), ⟨rfl, by rw [List.length_map]; exact h4⟩, hq, hq, ⟨hu, hwl⟩, hw, hw,
        by rw [List.length_map]; exact Nat.le_trans (Nat.add_le_add_right h7 1) (by decide), ⟨hu, by rw [List.length_set]; exact hwl⟩, rfl⟩ h2
    · rename_i hb
      rw [Bool.not_eq_true] at hb
      rw [hb] at hge
      simp only [Option.some.injEq, Prod.mk.injEq] at h
      obtain ⟨rfl, rfl⟩ := h
      exact .step hO hm (p1f r ds (WL ws) (ms.map I) (GL gs) hl i _ g) ⟨rfl, ⟨rfl, by omega⟩, hq, ⟨hu, hgl⟩, hge, rfl⟩ h2
  · cases h
theorem parts (r : Rw) (ds : List Df) (gs : List Bool) (hl : List D) (i : Nat) (g : Df) (ws ws1 ws2 : List (List Int)) (ms ms1 ms2 : List Int) (hg : gs.length ≤ 1000001) (h : srtPart gs i g.a ws ms = some (ws1, ms1)) (h2 : srtPart gs i g.b ws1 ms1 = some (ws2, ms2)) :
    GoesL Tryd.prog (loopOf Tryd.prog 49 2) (HP r ds (WL ws) (ms.map I) (GL gs) hl i g 0) (.exit 4) (EP r ds (WL ws2) (ms2.map I) (GL gs) hl i g) :=
  part0 r ds gs hl i g ws ws1 ms ms1 hg h (part1 r ds gs hl i g ws1 ws2 ms1 ms2 hg h2 (.stop hO hm (p2 r ds _ _ _ hl i g) (by simp) (by simp [AllP])))
end Go.Proofs.YtihbpbdmhiihnaaDoor.Sy.Sort
/- order.sorted: all gates, who waits for whom. -/
namespace Go.Proofs.YtihbpbdmhiihnaaDoor.Sy.Sort
open Go Go.Proofs.YtihbpbdmhiihnaaDoor.Ab Go.Proofs.YtihbpbdmhiihnaaDoor.Sy Go.Proofs.YtihbpbdmhiihnaaDoor.Pl Go.Proofs.YtihbpbdmhiihnaaDoor.Sy.Heap
set_option maxRecDepth 1000000
set_option linter.unusedVariables false
def H1 (r : Rw) (ds : List Df) (wl : List (Option (List D))) (ml gl hl : List D) (i : Nat) : St :=
  ⟨mk 145 [(1, .ptr 0 0), (3, .arr 1), (4, .arr 2), (5, .arr 3), (8, .ptr 5 0), (46, Dv ds), (47, Dn ds), (48, .d (I i))] [], Ls r wl ml gl hl⟩
def E1 (r : Rw) (wl : List (Option (List D))) (ml gl hl : List D) : St :=
  ⟨mk 145 [(1, .ptr 0 0), (3, .arr 1), (4, .arr 2), (8, .ptr 5 0)] [], Ls r wl ml gl hl⟩
section
variable (r : Rw) (ds : List Df) (wl wl2 : List (Option (List D))) (ml ml2 gl : List D) (hs hs2 : List Int) (i u : Nat) (x m : Int)
theorem g1 : round Tryd.prog wrS false O (loopOf Tryd.prog 49 1) (H1 r ds wl ml gl (hs.map I) i) [.br true, .el i (ds.getD i default).d, .lp [1, 3, 4, 5, 8, 9, 46, 47, 48, 57, 58] (.exit 4) (EP r ds wl2 ml2 gl (hs.map I) i (ds.getD i default)), .ix i, .el i (I m), .br true, .icall [5, 4] (.tup []) (Bx hs2), .is ((i + 1 : Nat) : Int)] [1, 3, 4, 5, 8, 46, 47, 48] 6
  = some (.normal, H1 r ds wl2 ml2 gl (hs2.map I) (i + 1),
  [decide ((i : Int) < ((ds.map Df.d).length : Nat)) = true, (i : Int) = (i : Int) ∧ (ds.map Df.d)[i]? = some (ds.getD i default).d,
   GoesL Tryd.prog (loopOf Tryd.prog 49 2) (HP r ds wl ml gl (hs.map I) i (ds.getD i default) 0) (.exit 4) (EP r ds wl2 ml2 gl (hs.map I) i (ds.getD i default)),
   (i : Int) = (i : Int) ∧ i < ml2.length, ml2[i]? = some (I m), (m == 0) = true, ICall Tryd.prog 60 [h, .iface 3 (.d (I i))] (Bx hs) (.tup []) (Bx hs2), IntKind.i64.wrap ((i : Int) + 1) = ((i + 1 : Nat) : Int)]) := by kernel_rfl
theorem g2 : round Tryd.prog wrS false O (loopOf Tryd.prog 49 1) (H1 r ds wl ml gl (hs.map I) i) [.br true, .el i (ds.getD i default).d, .lp [1, 3, 4, 5, 8, 9, 46, 47, 48, 57, 58] (.exit 4) (EP r ds wl2 ml2 gl (hs.map I) i (ds.getD i default)), .ix i, .el i (I m), .br false, .is ((i + 1 : Nat) : Int)] [1, 3, 4, 5, 8, 46, 47, 48] 6
  = some (.normal, H1 r ds wl2 ml2 gl (hs.map I) (i + 1),
  [decide ((i : Int) < ((ds.map Df.d).length : Nat)) = true, (i : Int) = (i : Int) ∧ (ds.map Df.d)[i]? = some (ds.getD i default).d,
   GoesL Tryd.prog (loopOf Tryd.prog 49 2) (HP r ds wl ml gl (hs.map I) i (ds.getD i default) 0) (.exit 4) (EP r ds wl2 ml2 gl (hs.map I) i (ds.getD i default)),
   (i : Int) = (i : Int) ∧ i < ml2.length, ml2[i]? = some (I m), (m == 0) = false, IntKind.i64.wrap ((i : Int) + 1) = ((i + 1 : Nat) : Int)]) := by kernel_rfl
theorem g3 : round Tryd.prog wrS false O (loopOf Tryd.prog 49 1) (H1 r ds wl ml gl (hs.map I) i) [.br false] [1, 3, 4, 8] 6 = some (.exit 2, E1 r wl ml gl (hs.map I), [decide ((i : Int) < ((ds.map Df.d).length : Nat)) = false]) := by kernel_rfl
end
theorem gates_loop (r : Rw) (ds : List Df) (gs : List Bool) (hg : gs.length ≤ 1000001) (hl : ds.length ≤ 1000000) (d : Nat) : ∀ (i : Nat) (ws ws' : List (List Int)) (ms ms' hs hs' : List Int), ds.length - i = d → i ≤ ds.length →
    srtGates gs (ds.drop i) i ws ms hs = some (ws', ms', hs') → GoesL Tryd.prog (loopOf Tryd.prog 49 1) (H1 r ds (WL ws) (ms.map I) (GL gs) (hs.map I) i) (.exit 2) (E1 r (WL ws') (ms'.map I) (GL gs) (hs'.map I)) := by
  induction d with
  | zero =>
    intro i ws ws' ms ms' hs hs' hd hi h
    obtain rfl : i = ds.length := by omega
    rw [List.drop_length, srtGates, Option.some.injEq, Prod.mk.injEq, Prod.mk.injEq] at h
    obtain ⟨rfl, rfl, rfl⟩ := h
    exact .stop hO hm (g3 r ds _ _ _ _ _) (by simp) (decide_eq_false (by rw [List.length_map]; omega))
  | succ d ih =>
    intro i ws ws' ms ms' hs hs' hd hi h
    rw [drop_getD ds i (by omega), srtGates, Option.bind_eq_some_iff] at h
    obtain ⟨⟨ws1, ms1⟩, h1, h⟩ := h
    rw [Option.bind_eq_some_iff] at h
    obtain ⟨⟨ws2, ms2⟩, h2, h⟩ := h
    have hp := parts r ds gs (hs.map I) i (ds.getD i default) ws ws1 ws2 ms ms1 ms2 hg h1 h2
    have t1 : decide ((i : Int) < ((ds.map Df.d).length : Nat)) = true := decide_eq_true (by rw [List.length_map]; omega)
    split at h
    · rename_i hlt
      have hlt : i < ms2.length := hlt
      split at h
      · rename_i h0
        split at h
        · rename_i hh
          exact .step hO hm (g1 r ds _ _ _ _ (GL gs) hs (pushL hs i) i (rd ms2 i)) ⟨t1, ⟨rfl, get_map Df.d ds i (by omega)⟩, hp, ⟨rfl, by rw [List.length_map]; exact hlt⟩, get_map I ms2 i hlt, by simpa using h0, push hs i hh, wrap_succ (by omega)⟩
            (ih (i + 1) ws2 ws' ms2 ms' _ hs' (by omega) (by omega) h)
        · cases h
      · rename_i h0
        exact .step hO hm (g2 r ds _ _ _ _ (GL gs) hs i (rd ms2 i)) ⟨t1, ⟨rfl, get_map Df.d ds i (by omega)⟩, hp, ⟨rfl, by rw [List.length_map]; exact hlt⟩, get_map I ms2 i hlt, by simpa using h0, wrap_succ (by omega)⟩
          (ih (i + 1) ws2 ws' ms2 ms' _ hs' (by omega) (by omega) h)
    · cases h
end Go.Proofs.YtihbpbdmhiihnaaDoor.Sy.Sort
/- order.sorted: out of the heap; the whole. -/
namespace Go.Proofs.YtihbpbdmhiihnaaDoor.Sy.Sort
open Go Go.Proofs.YtihbpbdmhiihnaaDoor.Ab Go.Proofs.YtihbpbdmhiihnaaDoor.Sy Go.Proofs.YtihbpbdmhiihnaaDoor.Pl Go.Proofs.YtihbpbdmhiihnaaDoor.Sy.Heap
set_option maxRecDepth 1000000
set_option linter.unusedVariables false
/-! ### those that waited for one gate -/
def HM (r : Rw) (wl : List (Option (List D))) (ml gl hl ol : List D) : St := ⟨mk 145 [(1, .ptr 0 0), (3, .arr 1), (4, .arr 2), (8, .ptr 5 0), (13, .arr 6)] [], Ls r wl ml gl hl ++ [.lst 3 ol]⟩
def HN (r : Rw) (wl : List (Option (List D))) (ml gl hl : List D) : St := ⟨mk 145 [(1, .ptr 0 0), (3, .arr 1), (4, .arr 2), (8, .ptr 5 0), (13, .emp true)] [], Ls r wl ml gl hl⟩
def EM (r : Rw) (wl : List (Option (List D))) (ml gl hl ol : List D) : St := ⟨mk 145 [(13, .arr 6)] [], Ls r wl ml gl hl ++ [.lst 3 ol]⟩
def EN (r : Rw) (wl : List (Option (List D))) (ml gl hl : List D) : St := ⟨mk 145 [(13, .emp true)] [], Ls r wl ml gl hl⟩
def HI (r : Rw) (wl : List (Option (List D))) (ml gl hl ol : List D) (u n i : Nat) : St :=
  ⟨mk 145 [(1, .ptr 0 0), (3, .arr 1), (4, .arr 2), (8, .ptr 5 0), (13, .arr 6), (121, .inn 1 u), (122, .d (I n)), (123, .d (I i))] [], Ls r wl ml gl hl ++ [.lst 3 ol]⟩
section
variable (r : Rw) (wl : List (Option (List D))) (ml ml2 gl ol w hl : List D) (hs ys hs2 : List Int) (u i n p : Nat) (y m : Int) (x : Nat)
theorem i1 : round Tryd.prog wrS false O (loopOf Tryd.prog 49 4) (HI r wl ml gl (hs.map I) ol u n i) [.br true, .ls w, .ix i, .el i (I p), .ix p, .el p (I y), .is (y - 1), .ix p, .ix p, .el p (I (y - 1)), .br true, .icall [5, 4] (.tup []) (Bx ys), .is ((i + 1 : Nat) : Int)] [1, 3, 4, 8, 13, 121, 122, 123] 7
  = some (.normal, HI r wl (ml.set p (I (y - 1))) gl (ys.map I) ol u n (i + 1),
  [decide ((i : Int) < (n : Int)) = true, wl[u]? = some (some w), (i : Int) = (i : Int) ∧ i < w.length, ∃ ys, wl[u]? = some (some ys) ∧ ys[i]? = some (I p), (p : Int) = (p : Int) ∧ p < ml.length, ml[p]? = some (I y), IntKind.i64.wrap (y - 1) = y - 1,
   (p : Int) = (p : Int) ∧ p < ml.length, (p : Int) = (p : Int) ∧ p < (ml.set p (I (y - 1))).length, (ml.set p (I (y - 1)))[p]? = some (I (y - 1)), (y - 1 == 0) = true, ICall Tryd.prog 60 [h, .iface 3 (.d (I p))] (Bx hs) (.tup []) (Bx ys), IntKind.i64.wrap ((i : Int) + 1) = ((i + 1 : Nat) : Int)]) := by kernel_rfl
theorem i2 : round Tryd.prog wrS false O (loopOf Tryd.prog 49 4) (HI r wl ml gl (hs.map I) ol u n i) [.br true, .ls w, .ix i, .el i (I p), .ix p, .el p (I y), .is (y - 1), .ix p, .ix p, .el p (I (y - 1)), .br false, .is ((i + 1 : Nat) : Int)] [1, 3, 4, 8, 13, 121, 122, 123] 7
  = some (.normal, HI r wl (ml.set p (I (y - 1))) gl (hs.map I) ol u n (i + 1),
  [decide ((i : Int) < (n : Int)) = true, wl[u]? = some (some w), (i : Int) = (i : Int) ∧ i < w.length, ∃ ys, wl[u]? = some (some ys) ∧ ys[i]? = some (I p), (p : Int) = (p : Int) ∧ p < ml.length, ml[p]? = some (I y), IntKind.i64.wrap (y - 1) = y - 1,
   (p : Int) = (p : Int) ∧ p < ml.length, (p : Int) = (p : Int) ∧ p < (ml.set p (I (y - 1))).length, (ml.set p (I (y - 1)))[p]? = some (I (y - 1)), (y - 1 == 0) = false, IntKind.i64.wrap ((i : Int) + 1) = ((i + 1 : Nat) : Int)]) := by kernel_rfl
theorem i3 : round Tryd.prog wrS false O (loopOf Tryd.prog 49 4) (HI r wl ml gl (hs.map I) ol u n i) [.br false] [1, 3, 4, 8, 13] 7 = some (.exit 8, HM r wl ml gl (hs.map I) ol, [decide ((i : Int) < (n : Int)) = false]) := by kernel_rfl
/-! ### the least one that is ready -/
theorem o1 : round Tryd.prog wrS false O (loopOf Tryd.prog 49 3) (HM r wl ml gl (hs.map I) ol) [.icall [5, 4] (.d (I ((n + 1 : Nat) : Int))) (Bx hs), .br true, .icall [5, 4] (.iface 3 (.d (I x))) (Bx ys), .raw, .raw, .raw, .el x (r.ands.getD x default).d, .is ((r.ands.getD x default).lit / 2), .ix u, .ls w, .ls w, .lp [1, 3, 4, 8, 13, 121, 122, 123] (.exit 8) (HM r wl ml2 gl (hs2.map I) (ol ++ [I x]))] [1, 3, 4, 8, 13] 7
  = some (.normal, HM r wl ml2 gl (hs2.map I) (ol ++ [I x]),
  [ICall Tryd.prog 61 [.arr 1] (Bx hs) (.d (I ((n + 1 : Nat) : Int))) (Bx hs), decide (((n + 1 : Nat) : Int) > 0) = true, ICall Tryd.prog 62 [h] (Bx hs) (.iface 3 (.d (I x))) (Bx ys), ol.length + [I x].length ≤ maxItems,
   (x : Int) = (x : Int) ∧ (r.ands.map Df.d)[x]? = some (r.ands.getD x default).d, IntKind.i64.wrap ((r.ands.getD x default).lit.tdiv 2) = (r.ands.getD x default).lit / 2, (r.ands.getD x default).lit / 2 = (u : Int) ∧ u < wl.length, wl[u]? = some (some w), wl[u]? = some (some w),
   GoesL Tryd.prog (loopOf Tryd.prog 49 4) (HI r wl ml gl (ys.map I) (ol ++ [I x]) u w.length 0) (.exit 8) (HM r wl ml2 gl (hs2.map I) (ol ++ [I x]))]) := by kernel_rfl
theorem o2 : round Tryd.prog wrS false O (loopOf Tryd.prog 49 3) (HN r wl ml gl (hs.map I)) [.icall [5, 4] (.d (I ((n + 1 : Nat) : Int))) (Bx hs), .br true, .icall [5, 4] (.iface 3 (.d (I x))) (Bx ys), .raw, .raw, .raw, .el x (r.ands.getD x default).d, .is ((r.ands.getD x default).lit / 2), .ix u, .ls w, .ls w, .lp [1, 3, 4, 8, 13, 121, 122, 123] (.exit 8) (HM r wl ml2 gl (hs2.map I) [I x])] [1, 3, 4, 8, 13] 7
  = some (.normal, HM r wl ml2 gl (hs2.map I) [I x],
  [ICall Tryd.prog 61 [.arr 1] (Bx hs) (.d (I ((n + 1 : Nat) : Int))) (Bx hs), decide (((n + 1 : Nat) : Int) > 0) = true, ICall Tryd.prog 62 [h] (Bx hs) (.iface 3 (.d (I x))) (Bx ys), [I x].length ≤ maxItems,
   (x : Int) = (x : Int) ∧ (r.ands.map Df.d)[x]? = some (r.ands.getD x default).d, IntKind.i64.wrap ((r.ands.getD x default).lit.tdiv 2) = (r.ands.getD x default).lit / 2, (r.ands.getD x default).lit / 2 = (u : Int) ∧ u < wl.length, wl[u]? = some (some w), wl[u]? = some (some w),
   GoesL Tryd.prog (loopOf Tryd.prog 49 4) (HI r wl ml gl (ys.map I) [I x] u w.length 0) (.exit 8) (HM r wl ml2 gl (hs2.map I) [I x])]) := by kernel_rfl
theorem o3 : round Tryd.prog wrS false O (loopOf Tryd.prog 49 3) (HM r wl ml gl (([] : List Int).map I) ol) [.icall [5, 4] (.d (I 0)) (Bx []), .br false] [13] 7 = some (.exit 6, EM r wl ml gl (([] : List Int).map I) ol,
  [ICall Tryd.prog 61 [.arr 1] (Bx []) (.d (I 0)) (Bx []), decide ((0 : Int) > 0) = false]) := by kernel_rfl
theorem o4 : round Tryd.prog wrS false O (loopOf Tryd.prog 49 3) (HN r wl ml gl (([] : List Int).map I)) [.icall [5, 4] (.d (I 0)) (Bx []), .br false] [13] 6 = some (.exit 6, EN r wl ml gl (([] : List Int).map I),
  [ICall Tryd.prog 61 [.arr 1] (Bx []) (.d (I 0)) (Bx []), decide ((0 : Int) > 0) = false]) := by kernel_rfl
end
theorem in_loop (r : Rw) (wl : List (Option (List D))) (gl ol : List D) (u : Nat) (w : List Int) (hw : wl[u]? = some (some (w.map I))) (hlw : w.length ≤ 2000000) (d : Nat) : ∀ (i : Nat) (ms ms' hs hs' : List Int), w.length - i = d → i ≤ w.length →
    srtIn (w.drop i) ms hs = some (ms', hs') → GoesL Tryd.prog (loopOf Tryd.prog 49 4) (HI r wl (ms.map I) gl (hs.map I) ol u w.length i) (.exit 8) (HM r wl (ms'.map I) gl (hs'.map I) ol) := by
  induction d with
  | zero =>
    intro i ms ms' hs hs' hd hi h
    obtain rfl : i = w.length := by omega
    rw [List.drop_length, srtIn, Option.some.injEq, Prod.mk.injEq] at h
    obtain ⟨rfl, rfl⟩ := h
    exact .stop hO hm (i3 r wl _ gl ol _ u _ _) (by simp) (decide_eq_false (by omega))
  | succ d ih =>
    intro i ms ms' hs hs' hd hi h
    rw [drop_getD w i (by omega), srtIn] at h
    have hel := get_map I w i (by omega)
    generalize w.getD i default = k at h hel
    split at h
    · rename_i hc
      obtain ⟨h0, h1, h2, h3, h4⟩ := hc
      obtain ⟨p, rfl⟩ := Int.eq_ofNat_of_zero_le h0
      have hp : p < ms.length := by omega
      have hpm : p < (ms.map I).length := by rw [List.length_map]; exact hp
      have t1 : decide ((i : Int) < (w.length : Int)) = true := decide_eq_true (by omega)
      have hset : (ms.map I).set p (I (rd ms p - 1)) = (ms.set p (rd ms p - 1)).map I := set_map ms p _
      have hget : ((ms.map I).set p (I (rd ms p - 1)))[p]? = some (I (rd ms p - 1)) := by rw [List.getElem?_set_self hpm]
      split at h
      · rename_i hz
        have h5 := ih (i + 1) _ ms' _ hs' (by omega) (by omega) h
        have hr := i1 r wl (ms.map I) gl ol (w.map I) hs (pushL hs p) u i w.length p (rd ms p)
        rw [hset] at hr
        exact .step hO hm hr ⟨t1, hw, ⟨rfl, by rw [List.length_map]; omega⟩, ⟨_, hw, hel⟩, ⟨rfl, hpm⟩, get_map I ms p hp, wrap_id (by omega) (by omega), ⟨rfl, hpm⟩, ⟨rfl, by rw [← hset, List.length_set]; exact hpm⟩, by rw [← hset]; exact hget, by simpa using hz, push hs p h2, wrap_succ (by omega)⟩ h5
      · rename_i hz
        have h5 := ih (i + 1) _ ms' _ hs' (by omega) (by omega) h
        have hr := i2 r wl (ms.map I) gl ol (w.map I) hs u i w.length p (rd ms p)
        rw [hset] at hr
        exact .step hO hm hr ⟨t1, hw, ⟨rfl, by rw [List.length_map]; omega⟩, ⟨_, hw, hel⟩, ⟨rfl, hpm⟩, get_map I ms p hp, wrap_id (by omega) (by omega), ⟨rfl, hpm⟩, ⟨rfl, by rw [← hset, List.length_set]; exact hpm⟩, by rw [← hset]; exact hget, by simpa using hz, wrap_succ (by omega)⟩ h5
    · cases h
end Go.Proofs.YtihbpbdmhiihnaaDoor.Sy.Sort
/- order.sorted, whole. -/
namespace Go.Proofs.YtihbpbdmhiihnaaDoor.Sy.Sort
open Go Go.Proofs.YtihbpbdmhiihnaaDoor.Ab Go.Proofs.YtihbpbdmhiihnaaDoor.Sy Go.Proofs.YtihbpbdmhiihnaaDoor.Pl Go.Proofs.YtihbpbdmhiihnaaDoor.Sy.Heap
set_option maxRecDepth 1000000
set_option linter.unusedVariables false
/-! ### how long the lists of waiting gates are -/
def Short (ws : List (List Int)) : Prop := ∀ u, (ws.getD u []).length ≤ 1000001
theorem Short.part {gs : List Bool} {i : Nat} {l : Int} {ws ws' : List (List Int)} {ms ms' : List Int} (h : Short ws) (hp : srtPart gs i l ws ms = some (ws', ms')) : Short ws' ∧ ws'.length = ws.length := by
  unfold srtPart at hp
  split at hp
  · rename_i hc
    split at hp
    · simp only [Option.some.injEq, Prod.mk.injEq] at hp
      obtain ⟨rfl, rfl⟩ := hp
      refine ⟨fun u => ?_, by simp⟩
      have h7 := hc.2.2.2.2.2.2
      rw [List.getD_eq_getElem?_getD, List.getElem?_set]
      split
      · split
        · simp only [Option.getD_some, List.length_append, List.length_singleton]; omega
        · simp
      · have := h u
        rwa [List.getD_eq_getElem?_getD] at this
    · simp only [Option.some.injEq, Prod.mk.injEq] at hp
      obtain ⟨rfl, rfl⟩ := hp
      exact ⟨h, rfl⟩
  · cases hp
theorem Short.gates {gs : List Bool} : ∀ (ds : List Df) (i : Nat) {ws ws' : List (List Int)} {ms ms' hs hs' : List Int}, Short ws → srtGates gs ds i ws ms hs = some (ws', ms', hs') → Short ws' ∧ ws'.length = ws.length
  | [], i, ws, ws', ms, ms', hs, hs', h, hp => by
    simp only [srtGates, Option.some.injEq, Prod.mk.injEq] at hp
    obtain ⟨rfl, _, _⟩ := hp
    exact ⟨h, rfl⟩
  | d :: t, i, ws, ws', ms, ms', hs, hs', h, hp => by
    rw [srtGates, Option.bind_eq_some_iff] at hp
    obtain ⟨⟨ws1, ms1⟩, h1, hp⟩ := hp
    rw [Option.bind_eq_some_iff] at hp
    obtain ⟨⟨ws2, ms2⟩, h2, hp⟩ := hp
    have k1 := h.part h1
    have k2 := k1.1.part h2
    split at hp
    · split at hp
      · split at hp
        · have := Short.gates t (i + 1) k2.1 hp
          exact ⟨this.1, by rw [this.2, k2.2, k1.2]⟩
        · cases hp
      · have := Short.gates t (i + 1) k2.1 hp
        exact ⟨this.1, by rw [this.2, k2.2, k1.2]⟩
    · cases hp
theorem srtMark_length : ∀ (l : List Df) (gs gs' : List Bool), srtMark l gs = some gs' → gs'.length = gs.length
  | [], gs, gs', h => by simp only [srtMark, Option.some.injEq] at h; rw [h]
  | d :: t, gs, gs', h => by
    rw [srtMark] at h
    split at h
    · have := srtMark_length t _ gs' h
      rwa [List.length_set] at this
    · cases h
/-- What srtOut does in one round. -/
theorem srtOut_step {ands : List Df} {ws : List (List Int)} {f : Nat} {ms hs out res : List Int} (h : srtOut ands ws (f + 1) ms hs out = some res) :
    (hs = [] ∧ res = out) ∨ ∃ (n x : Nat) (ms' hs' : List Int), hs.length = n + 1 ∧ hs.length ≤ 1000000 ∧ out.length ≤ 1000000 ∧ rd (popL hs n) n = (x : Int) ∧ x < ands.length ∧ 0 ≤ (ands.getD x default).lit ∧ (ands.getD x default).lit / 2 < (ws.length : Int) ∧
      srtIn (ws.getD ((ands.getD x default).lit / 2).toNat []) ms ((popL hs n).take n) = some (ms', hs') ∧ srtOut ands ws f ms' hs' (out ++ [(x : Int)]) = some res := by
  rw [srtOut] at h
  split at h
  · rename_i h0
    exact .inl ⟨List.length_eq_zero_iff.1 h0, (Option.some.inj h).symm⟩
  · rename_i h0
    obtain ⟨n, hn⟩ : ∃ n, hs.length = n + 1 := ⟨hs.length - 1, by omega⟩
    rw [show hs.length - 1 = n by omega] at h
    split at h
    · rename_i hc
      obtain ⟨c1, c2, c3, c4, c5, c6⟩ := hc
      rw [Option.bind_eq_some_iff] at h
      obtain ⟨⟨ms', hs'⟩, h1, h2⟩ := h
      obtain ⟨k, hk⟩ : ∃ k, rd (popL hs n) (n : Int) = k := ⟨_, rfl⟩
      rw [hk] at c3 c4 c5 c6 h1 h2
      obtain ⟨x, rfl⟩ := Int.eq_ofNat_of_zero_le c3
      exact .inr ⟨n, x, ms', hs', hn, c1, c2, hk, by omega, c5, c6, h1, h2⟩
    · cases h
section
variable (r : Rw) (ws : List (List Int)) (gl : List D) (hws : ws.length ≤ 1000001) (hsh : Short ws)
include hws hsh
theorem out_loop : ∀ (f : Nat) (ms hs out res : List Int), srtOut r.ands ws f ms hs out = some res →
    ∃ ml hl, GoesL Tryd.prog (loopOf Tryd.prog 49 3) (HM r (WL ws) (ms.map I) gl (hs.map I) (out.map I)) (.exit 6) (EM r (WL ws) ml gl hl (res.map I))
  | 0, ms, hs, out, res, h => by simp [srtOut] at h
  | f + 1, ms, hs, out, res, h => by
    rcases srtOut_step h with ⟨rfl, rfl⟩ | ⟨n, x, ms', hs', hn, c1, c2, hx, c4, c5, c6, h1, h2⟩
    · exact ⟨_, _, .stop hO hm (o3 r _ _ gl _) (by simp) ⟨Heap.len [], rfl⟩⟩
    · obtain ⟨ml, hl, hg⟩ := out_loop f ms' hs' (out ++ [(x : Int)]) res h2
      rw [show (out ++ [(x : Int)]).map I = out.map I ++ [I x] by rw [List.map_append]; rfl] at hg
      have hu : (r.ands.getD x default).lit / 2 = (((r.ands.getD x default).lit / 2).toNat : Int) := by omega
      have hul : ((r.ands.getD x default).lit / 2).toNat < (WL ws).length := by unfold WL; rw [List.length_map]; omega
      have hw := WL_get ws ((r.ands.getD x default).lit / 2).toNat (by omega)
      have hin := in_loop r (WL ws) gl (out.map I ++ [I x]) _ _ hw (Nat.le_trans (hsh _) (by omega)) _ 0 ms ms' _ hs' rfl (by omega) h1
      have hpop := Heap.pop hs n hn c1
      rw [hx] at hpop
      have hlen := Heap.len hs
      rw [hn] at hlen
      have hlm : ((ws.getD ((r.ands.getD x default).lit / 2).toNat []).map I).length = (ws.getD ((r.ands.getD x default).lit / 2).toNat []).length := List.length_map _
      rw [← hlm] at hin
      exact ⟨ml, hl, .step hO hm (o1 r (WL ws) (ms.map I) (ms'.map I) gl (out.map I) _ hs _ hs' _ n x) ⟨hlen, decide_eq_true (by omega), hpop, by rw [List.length_map]; exact Nat.le_trans (Nat.add_le_add_right c2 1) (by decide), ⟨rfl, get_map Df.d r.ands x c4⟩, quo2 c5 (by omega), ⟨hu, hul⟩, hw, hw, hin⟩ hg⟩
theorem out_first : ∀ (f : Nat) (ms hs res : List Int), srtOut r.ands ws f ms hs [] = some res →
    (res = [] ∧ ∃ ml hl, GoesL Tryd.prog (loopOf Tryd.prog 49 3) (HN r (WL ws) (ms.map I) gl (hs.map I)) (.exit 6) (EN r (WL ws) ml gl hl)) ∨
    ∃ ml hl, GoesL Tryd.prog (loopOf Tryd.prog 49 3) (HN r (WL ws) (ms.map I) gl (hs.map I)) (.exit 6) (EM r (WL ws) ml gl hl (res.map I))
  | 0, ms, hs, res, h => by simp [srtOut] at h
  | f + 1, ms, hs, res, h => by
    rcases srtOut_step h with ⟨rfl, rfl⟩ | ⟨n, x, ms', hs', hn, c1, c2, hx, c4, c5, c6, h1, h2⟩
    · exact .inl ⟨rfl, _, _, .stop hO hm (o4 r _ _ gl) (by simp) ⟨Heap.len [], rfl⟩⟩
    · obtain ⟨ml, hl, hg⟩ := out_loop r ws gl hws hsh f ms' hs' ([] ++ [(x : Int)]) res h2
      have hu : (r.ands.getD x default).lit / 2 = (((r.ands.getD x default).lit / 2).toNat : Int) := by omega
      have hul : ((r.ands.getD x default).lit / 2).toNat < (WL ws).length := by unfold WL; rw [List.length_map]; omega
      have hw := WL_get ws ((r.ands.getD x default).lit / 2).toNat (by omega)
      have hin := in_loop r (WL ws) gl [I x] _ _ hw (Nat.le_trans (hsh _) (by omega)) _ 0 ms ms' _ hs' rfl (by omega) h1
      have hpop := Heap.pop hs n hn c1
      rw [hx] at hpop
      have hlen := Heap.len hs
      rw [hn] at hlen
      have hlm : ((ws.getD ((r.ands.getD x default).lit / 2).toNat []).map I).length = (ws.getD ((r.ands.getD x default).lit / 2).toNat []).length := List.length_map _
      rw [← hlm] at hin
      exact .inr ⟨ml, hl, .step hO hm (o2 r (WL ws) (ms.map I) (ms'.map I) gl _ hs _ hs' _ n x) ⟨hlen, decide_eq_true (by omega), hpop, (show 1 ≤ maxItems by decide), ⟨rfl, get_map Df.d r.ands x c4⟩, quo2 c5 (by omega), ⟨hu, hul⟩, hw, hw, hin⟩ hg⟩
end
section
variable (r : Rw) (wl wl2 wl3 : List (Option (List D))) (ml ml2 ml3 gl gl2 gl3 hl ol : List D) (hs : List Int) (N : Nat)
theorem c1 : callX Tryd.prog wrS false O 49 [.d r.d] [] [.is (r.most + 1), .ix N, .len (r.ands.map Df.d).length, .is (r.most + 1), .len N, .lp [1, 3, 4, 5, 31, 32, 33] (.exit 0) (E0 r wl ml gl), .own, .lp [1, 3, 4, 5, 8, 46, 47, 48] (.exit 2) (E1 r wl2 ml2 gl2 (hs.map I)), .lp [1, 3, 4, 8, 13] (.exit 6) (EM r wl3 ml3 gl3 hl ol)]
  = some (.own 3 ol, [],
  [IntKind.i64.wrap (r.most + 1) = r.most + 1, r.most + 1 = (N : Int) ∧ r.most + 1 = (N : Int) ∧ N ≤ maxItems, (((r.ands.map Df.d).length : Nat) : Int) = (((r.ands.map Df.d).length : Nat) : Int) ∧ (((r.ands.map Df.d).length : Nat) : Int) = (((r.ands.map Df.d).length : Nat) : Int) ∧ (r.ands.map Df.d).length ≤ maxItems,
   IntKind.i64.wrap (r.most + 1) = r.most + 1, r.most + 1 = (N : Int) ∧ r.most + 1 = (N : Int) ∧ N ≤ maxItems,
   GoesL Tryd.prog (loopOf Tryd.prog 49 0) (H0 r r.ands (List.replicate N (some [])) (List.replicate (r.ands.map Df.d).length (.int .i64 0)) (List.replicate N (.bool false)) 0) (.exit 0) (E0 r wl ml gl),
   GoesL Tryd.prog (loopOf Tryd.prog 49 1) (H1 r r.ands wl ml gl (([] : List Int).map I) 0) (.exit 2) (E1 r wl2 ml2 gl2 (hs.map I)),
   GoesL Tryd.prog (loopOf Tryd.prog 49 3) (HN r wl2 ml2 gl2 (hs.map I)) (.exit 6) (EM r wl3 ml3 gl3 hl ol)]) := by kernel_rfl
theorem c2 : callX Tryd.prog wrS false O 49 [.d r.d] [] [.is (r.most + 1), .ix N, .len (r.ands.map Df.d).length, .is (r.most + 1), .len N, .lp [1, 3, 4, 5, 31, 32, 33] (.exit 0) (E0 r wl ml gl), .own, .lp [1, 3, 4, 5, 8, 46, 47, 48] (.exit 2) (E1 r wl2 ml2 gl2 (hs.map I)), .lp [1, 3, 4, 8, 13] (.exit 6) (EN r wl3 ml3 gl3 hl)]
  = some (.emp true, [],
  [IntKind.i64.wrap (r.most + 1) = r.most + 1, r.most + 1 = (N : Int) ∧ r.most + 1 = (N : Int) ∧ N ≤ maxItems, (((r.ands.map Df.d).length : Nat) : Int) = (((r.ands.map Df.d).length : Nat) : Int) ∧ (((r.ands.map Df.d).length : Nat) : Int) = (((r.ands.map Df.d).length : Nat) : Int) ∧ (r.ands.map Df.d).length ≤ maxItems,
   IntKind.i64.wrap (r.most + 1) = r.most + 1, r.most + 1 = (N : Int) ∧ r.most + 1 = (N : Int) ∧ N ≤ maxItems,
   GoesL Tryd.prog (loopOf Tryd.prog 49 0) (H0 r r.ands (List.replicate N (some [])) (List.replicate (r.ands.map Df.d).length (.int .i64 0)) (List.replicate N (.bool false)) 0) (.exit 0) (E0 r wl ml gl),
   GoesL Tryd.prog (loopOf Tryd.prog 49 1) (H1 r r.ands wl ml gl (([] : List Int).map I) 0) (.exit 2) (E1 r wl2 ml2 gl2 (hs.map I)),
   GoesL Tryd.prog (loopOf Tryd.prog 49 3) (HN r wl2 ml2 gl2 (hs.map I)) (.exit 6) (EN r wl3 ml3 gl3 hl)]) := by kernel_rfl
end
/-- order.sorted computes its plain function. -/
theorem sorted (r : Rw) (k : Nat) (res : List Int) (h : order_sorted.f k r.most r.ands = some res) : ICall Tryd.prog 49 [.d r.d] [] (.own 3 (res.map I)) [] := by
  unfold order_sorted.f at h
  split at h
  · rename_i hc
    obtain ⟨hc1, hc2, hc3⟩ := hc
    rw [Option.bind_eq_some_iff] at h
    obtain ⟨gs, hgs, h⟩ := h
    rw [Option.bind_eq_some_iff] at h
    obtain ⟨⟨ws, ms, hs⟩, hga, h⟩ := h
    obtain ⟨N, hN⟩ : ∃ N : Nat, r.most + 1 = (N : Int) := ⟨(r.most + 1).toNat, by omega⟩
    rw [hN, Int.toNat_natCast] at hgs hga
    have hgl := srtMark_length _ _ _ hgs
    rw [List.length_replicate] at hgl
    have l1 := mark_loop r r.ands (List.replicate N (some [])) (List.replicate (r.ands.map Df.d).length (.int .i64 0)) hc3 _ 0 _ gs rfl (by omega) (by rw [List.length_replicate]; omega) hgs
    have l2 := gates_loop r r.ands gs (by omega) hc3 _ 0 _ ws _ ms [] hs rfl (by omega) hga
    rw [show GL (List.replicate N false) = List.replicate N (.bool false) by unfold GL; rw [List.map_replicate]] at l1
    rw [show WL (List.replicate N []) = List.replicate N (some []) by unfold WL; rw [List.map_replicate]; rfl, show (List.replicate r.ands.length (0 : Int)).map I = List.replicate (r.ands.map Df.d).length (.int .i64 0) by rw [List.map_replicate, List.length_map]; rfl] at l2
    have hsh := Short.gates r.ands 0 (ws := List.replicate N []) (fun u => by rw [List.getD_eq_getElem?_getD, List.getElem?_replicate]; split <;> simp) hga
    rw [List.length_replicate] at hsh
    have w1 : IntKind.i64.wrap (r.most + 1) = r.most + 1 := wrap_id (by omega) (by omega)
    have hNm : N ≤ maxItems := Nat.le_trans (show N ≤ 1000001 by omega) (by decide)
    have ham : (r.ands.map Df.d).length ≤ maxItems := by rw [List.length_map]; exact Nat.le_trans hc3 (by decide)
    rcases out_first r ws (GL gs) (by omega) hsh.1 k ms hs res h with ⟨rfl, ml, hl, l3⟩ | ⟨ml, hl, l3⟩
    · exact (callX_ok hO hm (c2 r _ _ _ _ _ _ _ _ _ _ hs N) ⟨w1, ⟨hN, hN, hNm⟩, ⟨rfl, rfl, ham⟩, w1, ⟨hN, hN, hNm⟩, l1, l2, l3⟩).emp_own (by kernel_rfl : szOf Tryd.prog 3 = some 1)
    · exact callX_ok hO hm (c1 r _ _ _ _ _ _ _ _ _ _ _ hs N) ⟨w1, ⟨hN, hN, hNm⟩, ⟨rfl, rfl, ham⟩, w1, ⟨hN, hN, hNm⟩, l1, l2, l3⟩
  · cases h
end Go.Proofs.YtihbpbdmhiihnaaDoor.Sy.Sort
/- What the heap does to a list of numbers: the least one comes out, the others stay. -/
namespace Go.Proofs.YtihbpbdmhiihnaaDoor.Pl
open Go Go.Proofs.YtihbpbdmhiihnaaDoor.Sy
set_option linter.unusedVariables false
set_option linter.unusedSimpArgs false
def gt (xs : List Int) (j : Nat) : Int := xs.getD j 0
theorem rd_gt (xs : List Int) (j : Nat) : rd xs (j : Int) = gt xs j := by simp [rd, gt]
theorem gt_get (xs : List Int) (j : Nat) (h : j < xs.length) : gt xs j = xs[j] := by simp [gt, h]
theorem gt_set (xs : List Int) (i j : Nat) (v : Int) (hi : i < xs.length) : gt (xs.set i v) j = if j = i then v else gt xs j := by
  unfold gt
  rw [List.getD_eq_getElem?_getD, List.getElem?_set]
  by_cases e : i = j
  · subst e; simp [hi]
  · rw [if_neg e, if_neg (fun h => e h.symm), List.getD_eq_getElem?_getD]
theorem gt_swap (xs : List Int) (i j k : Nat) (hi : i < xs.length) (hj : j < xs.length) : gt (swapL xs i j) k = if k = j then gt xs i else if k = i then gt xs j else gt xs k := by
  unfold swapL
  rw [gt_set _ _ _ _ (by simpa using hj), gt_set _ _ _ _ hi, rd_gt, rd_gt]
theorem swap_perm (xs : List Int) (i j : Nat) (hi : i < xs.length) (hj : j < xs.length) : (swapL xs i j).Perm xs := by
  have := List.set_set_perm hi hj
  unfold swapL
  rw [rd_gt, rd_gt, gt_get _ _ hi, gt_get _ _ hj]
  exact this

def isHeap (xs : List Int) : Prop := ∀ k, 0 < k → k < xs.length → gt xs ((k - 1) / 2) ≤ gt xs k

theorem root_le (xs : List Int) (h : isHeap xs) : ∀ k, k < xs.length → gt xs 0 ≤ gt xs k := by
  intro k
  induction k using Nat.strongRecOn with
  | _ k ih =>
    intro hk
    by_cases h0 : k = 0
    · subst h0; exact Int.le_refl _
    · exact Int.le_trans (ih ((k - 1) / 2) (by omega) (by omega)) (h k (by omega) hk)

theorem up_ok (j : Nat) : ∀ xs : List Int, j < xs.length → (∀ k, 0 < k → k < xs.length → k ≠ j → gt xs ((k - 1) / 2) ≤ gt xs k) → (0 < j → ∀ k, 0 < k → k < xs.length → (k - 1) / 2 = j → gt xs ((j - 1) / 2) ≤ gt xs k) →
    isHeap (upL (j + 1) xs j) ∧ (upL (j + 1) xs j).Perm xs := by
  induction j using Nat.strongRecOn with
  | _ j ih =>
    intro xs hj h1 h2
    simp only [upL]
    by_cases h0 : (j - 1) / 2 = j
    · rw [if_pos h0]
      have : j = 0 := by omega
      subst this
      exact ⟨fun k hk hl => h1 k hk hl (by omega), List.Perm.refl _⟩
    · rw [if_neg h0]
      obtain ⟨i, hi⟩ : ∃ i, i = (j - 1) / 2 := ⟨_, rfl⟩
      rw [← hi, rd_gt, rd_gt]
      have hij : i < j := by omega
      by_cases hc : gt xs j < gt xs i
      · rw [if_pos hc, upL_more i j _ hij]
        have hsw := fun k => gt_swap xs i j k (by omega) hj
        obtain ⟨g1, g2⟩ := ih i hij (swapL xs i j) (by rw [swapL_length]; omega) (by
          intro k hk hl hne
          rw [swapL_length] at hl
          rw [hsw, hsw]
          by_cases e1 : k = j
          · subst e1; rw [← hi, if_neg (by omega), if_pos rfl, if_pos rfl]; exact Int.le_of_lt hc
          · by_cases e2 : (k - 1) / 2 = i
            · rw [e2, if_neg (by omega), if_pos rfl, if_neg e1, if_neg hne]
              have := h1 k hk hl e1
              rw [e2] at this
              omega
            · by_cases e3 : (k - 1) / 2 = j
              · rw [e3, if_pos rfl, if_neg e1, if_neg hne]
                have := h2 (by omega) k hk hl e3
                rw [← hi] at this; exact this
              · rw [if_neg e3, if_neg e2, if_neg e1, if_neg hne]; exact h1 k hk hl e1) (by
          intro hi0 k hk hl hp
          rw [swapL_length] at hl
          have hpi := h1 i hi0 (by omega) (by omega)
          rw [hsw, hsw]
          rw [if_neg (by omega : (i - 1) / 2 ≠ j), if_neg (by omega : (i - 1) / 2 ≠ i)]
          by_cases e1 : k = j
          · subst e1; rw [if_pos rfl]; exact hpi
          · rw [if_neg e1, if_neg (by omega : k ≠ i)]
            have := h1 k hk hl e1
            rw [hp] at this
            omega)
        exact ⟨g1, g2.trans (swap_perm xs i j (by omega) hj)⟩
      · rw [if_neg hc]
        refine ⟨fun k hk hl => ?_, List.Perm.refl _⟩
        by_cases e : k = j
        · subst e; rw [← hi]; omega
        · exact h1 k hk hl e

theorem gt_append_left (xs : List Int) (v : Int) (k : Nat) (h : k < xs.length) : gt (xs ++ [v]) k = gt xs k := by
  unfold gt; rw [List.getD_eq_getElem?_getD, List.getElem?_append_left h, List.getD_eq_getElem?_getD]
theorem push_ok (xs : List Int) (v : Int) (h : isHeap xs) : isHeap (pushL xs v) ∧ (pushL xs v).Perm (v :: xs) := by
  unfold pushL
  obtain ⟨g1, g2⟩ := up_ok xs.length (xs ++ [v]) (by simp) (by
    intro k hk hl hne
    simp at hl
    rw [gt_append_left _ _ _ (by omega), gt_append_left _ _ _ (by omega)]
    exact h k hk (by omega)) (by
    intro h0 k hk hl hp
    simp at hl
    omega)
  exact ⟨g1, g2.trans (List.perm_append_singleton v xs)⟩

theorem down_ok (n : Nat) : ∀ (d i : Nat) (xs : List Int), n - i ≤ d → n ≤ xs.length → (∀ k, 0 < k → k < n → (k - 1) / 2 ≠ i → gt xs ((k - 1) / 2) ≤ gt xs k) → (0 < i → ∀ k, 0 < k → k < n → (k - 1) / 2 = i → gt xs ((i - 1) / 2) ≤ gt xs k) →
    (∀ k, 0 < k → k < n → gt (downL (n - i + 1) xs i n) ((k - 1) / 2) ≤ gt (downL (n - i + 1) xs i n) k) ∧ (downL (n - i + 1) xs i n).Perm xs ∧ ∀ k, n ≤ k → gt (downL (n - i + 1) xs i n) k = gt xs k := by
  intro d
  induction d with
  | zero =>
    intro i xs hd hn h1 h2
    simp only [downL]
    rw [if_pos (by omega)]
    exact ⟨fun k hk hl => h1 k hk hl (by omega), List.Perm.refl _, fun _ _ => rfl⟩
  | succ d ih =>
    intro i xs hd hn h1 h2
    simp only [downL]
    by_cases hx : n ≤ 2 * i + 1
    · rw [if_pos hx]
      exact ⟨fun k hk hl => h1 k hk hl (by omega), List.Perm.refl _, fun _ _ => rfl⟩
    · rw [if_neg hx]
      obtain ⟨m, hm⟩ : ∃ m, m = kidL xs i n := ⟨_, rfl⟩
      have hmi : i < m := by rw [hm]; exact kidL_gt xs i n
      have hmn : m < n := by rw [hm]; exact kidL_lt xs i n (by omega)
      have hmp : (m - 1) / 2 = i := by rw [hm]; unfold kidL; split <;> omega
      have hml : ∀ k, 0 < k → k < n → (k - 1) / 2 = i → gt xs m ≤ gt xs k := by
        intro k hk hl hp
        have hk2 : k = 2 * i + 1 ∨ k = 2 * i + 2 := by omega
        rw [hm]
        unfold kidL
        rw [rd_gt, rd_gt]
        by_cases c : 2 * i + 2 < n ∧ gt xs (2 * i + 2) < gt xs (2 * i + 1)
        · rw [if_pos c]; rcases hk2 with rfl | rfl <;> omega
        · rw [if_neg c]
          rcases hk2 with rfl | rfl
          · exact Int.le_refl _
          · have : ¬ gt xs (2 * i + 2) < gt xs (2 * i + 1) := fun hc => c ⟨by omega, hc⟩
            omega
      rw [← hm, rd_gt, rd_gt]
      by_cases hc : gt xs m < gt xs i
      · rw [if_pos hc]
        have hsw := fun k => gt_swap xs i m k (by omega) (by omega)
        rw [downL_more n n (n - i) (swapL xs i m) m (by omega) (by omega)]
        obtain ⟨g1, g2, g3⟩ := ih m (swapL xs i m) (by omega) (by rw [swapL_length]; exact hn) (by
          intro k hk hl hne
          rw [hsw, hsw]
          by_cases e1 : k = m
          · subst e1; rw [hmp, if_neg (by omega), if_pos rfl, if_pos rfl]; exact Int.le_of_lt hc
          · by_cases e2 : (k - 1) / 2 = i
            · rw [e2, if_neg (by omega), if_pos rfl, if_neg e1, if_neg (by omega)]
              exact hml k hk hl e2
            · rw [if_neg hne, if_neg e2, if_neg e1]
              by_cases e3 : k = i
              · subst e3; rw [if_pos rfl]
                exact h2 hk m (by omega) hmn hmp
              · rw [if_neg e3]; exact h1 k hk hl e2) (by
          intro hm0 k hk hl hp
          rw [hsw, hsw, hmp, if_neg (by omega), if_pos rfl, if_neg (by omega), if_neg (by omega)]
          have := h1 k hk hl (by omega)
          rw [hp] at this; exact this)
        refine ⟨g1, g2.trans (swap_perm xs i m (by omega) (by omega)), fun k hk => ?_⟩
        rw [g3 k hk, hsw, if_neg (by omega), if_neg (by omega)]
      · rw [if_neg hc]
        refine ⟨fun k hk hl => ?_, List.Perm.refl _, fun _ _ => rfl⟩
        by_cases e : (k - 1) / 2 = i
        · rw [e]; have := hml k hk hl e; omega
        · exact h1 k hk hl e

theorem gt_take (xs : List Int) (n k : Nat) (h : k < n) : gt (xs.take n) k = gt xs k := by
  unfold gt; rw [List.getD_eq_getElem?_getD, List.getElem?_take, if_pos h, List.getD_eq_getElem?_getD]

theorem pop_ok (xs : List Int) (n : Nat) (hn : xs.length = n + 1) (h : isHeap xs) :
    isHeap ((popL xs n).take n) ∧ rd (popL xs n) (n : Int) = gt xs 0 ∧ (gt xs 0 :: (popL xs n).take n).Perm xs := by
  have hsw := fun k => gt_swap xs 0 n k (by omega) (by omega)
  obtain ⟨g1, g2, g3⟩ := down_ok n n 0 (swapL xs 0 n) (by omega) (by rw [swapL_length]; omega) (by
    intro k hk hl hne
    rw [hsw, hsw, if_neg (by omega), if_neg hne, if_neg (by omega), if_neg (by omega)]
    exact h k hk (by omega)) (by intro h0; omega)
  have hp : popL xs n = downL (n - 0 + 1) (swapL xs 0 n) 0 n := rfl
  rw [← hp] at g1 g2 g3
  have hlast : gt (popL xs n) n = gt xs 0 := by
    rw [g3 n (Nat.le_refl _), hsw, if_pos rfl]
  refine ⟨fun k hk hl => ?_, by rw [rd_gt]; exact hlast, ?_⟩
  · rw [List.length_take] at hl
    rw [gt_take _ _ _ (by omega), gt_take _ _ _ (by omega)]
    exact g1 k hk (by omega)
  · have hlen : (popL xs n).length = n + 1 := by rw [popL_length, hn]
    have e : popL xs n = (popL xs n).take n ++ [gt xs 0] := by
      have h1 := List.take_append_drop n (popL xs n)
      have h2 : (popL xs n).drop n = [gt xs 0] := by
        rw [List.drop_eq_getElem_cons (by omega), ← gt_get _ _ (by omega), hlast, List.drop_eq_nil_of_le (by omega)]
      rw [h2] at h1
      exact h1.symm
    have hperm : ((popL xs n).take n ++ [gt xs 0]).Perm xs := by rw [← e]; exact g2.trans (swap_perm xs 0 n (by omega) (by omega))
    exact (List.perm_append_singleton _ _).symm.trans hperm
end Go.Proofs.YtihbpbdmhiihnaaDoor.Pl
/- order.sorted, in plain law: 1. -/
namespace Go.Proofs.YtihbpbdmhiihnaaDoor.Pl
open Go Go.Proofs.YtihbpbdmhiihnaaDoor.Sy
set_option linter.unusedVariables false
set_option linter.unusedSimpArgs false
/-! ### the order itself -/
def vrD (d : Df) : Nat := (d.lit / 2).toNat
def paD (d : Df) : Nat := (d.a / 2).toNat
def pbD (d : Df) : Nat := (d.b / 2).toNat
def vr (ands : List Df) (i : Nat) : Nat := vrD (rdD ands (i : Int))
def pa (ands : List Df) (i : Nat) : Nat := paD (rdD ands (i : Int))
def pb (ands : List Df) (i : Nat) : Nat := pbD (rdD ands (i : Int))
/-- A gate's variable. -/
def isG (ands : List Df) (u : Nat) : Bool := (List.range ands.length).any (fun i => vr ands i == u)
/-- A variable that is ready: no gate's, or that of a gate that is done. -/
def rv (ands : List Df) (done : List Nat) (u : Nat) : Bool := !isG ands u || done.any (fun i => vr ands i == u)
/-- A gate that is not done, and has its parts. -/
def nextP (ands : List Df) (done : List Nat) (i : Nat) : Bool := !done.contains i && (rv ands done (pa ands i) && rv ands done (pb ands i))
def ordS (ands : List Df) : Nat → List Nat → List Nat
  | 0, done => done
  | f + 1, done => match (List.range ands.length).find? (nextP ands done) with
    | none => done
    | some i => ordS ands f (done ++ [i])

/-- The numbers of a list of gates are such as they may be. -/
structure Ok (m : Nat) (ands : List Df) : Prop where
  lit : ∀ d ∈ ands, 0 ≤ d.lit ∧ d.lit / 2 ≤ (m : Int)
  p1 : ∀ d ∈ ands, 0 ≤ d.a ∧ d.a / 2 ≤ (m : Int)
  p2 : ∀ d ∈ ands, 0 ≤ d.b ∧ d.b / 2 ≤ (m : Int)
  small : m ≤ 1000 ∧ ands.length ≤ 1000
  once : ∀ i j, i < ands.length → j < ands.length → vr ands i = vr ands j → i = j

theorem rdT_mem {ands : List Df} {i : Nat} (h : i < ands.length) : rdD ands (i : Int) ∈ ands := by
  have : rdD ands (i : Int) = ands[i] := by simp [rdD, h]
  rw [this]; exact List.getElem_mem h
theorem rdT_drop {b : List Df} {i : Nat} (h : i < b.length) : b.drop i = rdD b (i : Int) :: b.drop (i + 1) := by
  rw [List.drop_eq_getElem_cons h]
  simp [rdD, h]

section
variable {m : Nat} {ands : List Df}
theorem Ok.vr_le (h : Ok m ands) {i : Nat} (hi : i < ands.length) : vr ands i ≤ m ∧ (rdD ands (i : Int)).lit / 2 = (vr ands i : Int) ∧ 0 ≤ (rdD ands (i : Int)).lit := by
  have := h.lit _ (rdT_mem hi)
  unfold vr vrD; omega
theorem Ok.pa_le (h : Ok m ands) {i : Nat} (hi : i < ands.length) : pa ands i ≤ m ∧ (rdD ands (i : Int)).a / 2 = (pa ands i : Int) ∧ 0 ≤ (rdD ands (i : Int)).a := by
  have := h.p1 _ (rdT_mem hi)
  unfold pa paD; omega
theorem Ok.pb_le (h : Ok m ands) {i : Nat} (hi : i < ands.length) : pb ands i ≤ m ∧ (rdD ands (i : Int)).b / 2 = (pb ands i : Int) ∧ 0 ≤ (rdD ands (i : Int)).b := by
  have := h.p2 _ (rdT_mem hi)
  unfold pb pbD; omega
theorem isG_vr {i : Nat} (hi : i < ands.length) : isG ands (vr ands i) = true := by
  unfold isG; rw [List.any_eq_true]; exact ⟨i, List.mem_range.2 hi, by simp⟩
theorem isG_iff (u : Nat) : isG ands u = true ↔ ∃ i, i < ands.length ∧ vr ands i = u := by
  unfold isG; rw [List.any_eq_true]
  constructor
  · rintro ⟨i, hi, h⟩; exact ⟨i, List.mem_range.1 hi, by simpa using h⟩
  · rintro ⟨i, hi, h⟩; exact ⟨i, List.mem_range.2 hi, by simpa using h⟩
end

/-! ### the marks -/
theorem getD_set_bool (gs : List Bool) (i j : Nat) (hi : i < gs.length) : (gs.set i true).getD j false = (gs.getD j false || i == j) := by
  rw [List.getD_eq_getElem?_getD, List.getElem?_set, List.getD_eq_getElem?_getD]
  by_cases e : i = j
  · subst e; simp [hi]
  · rw [if_neg e]; simp [e]
theorem mark_ok : ∀ (l : List Df) (gs : List Bool), (∀ d ∈ l, 0 ≤ d.lit ∧ d.lit / 2 < (gs.length : Int)) →
    ∃ gs', srtMark l gs = some gs' ∧ gs'.length = gs.length ∧ ∀ u, gs'.getD u false = (gs.getD u false || l.any (fun d => vrD d == u)) := by
  intro l
  induction l with
  | nil => intro gs _; exact ⟨gs, rfl, rfl, fun u => by simp⟩
  | cons d t ih =>
    intro gs h
    have hd := h d List.mem_cons_self
    obtain ⟨gs', h1, h2, h3⟩ := ih (gs.set (d.lit / 2).toNat true) (fun x hx => by rw [List.length_set]; exact h x (List.mem_cons_of_mem _ hx))
    refine ⟨gs', by simp only [srtMark]; rw [if_pos hd]; exact h1, by rw [h2, List.length_set], fun u => ?_⟩
    rw [h3, getD_set_bool _ _ _ (by omega), List.any_cons, Bool.or_assoc]
    rfl
theorem any_range (ands : List Df) (p : Df → Bool) : ands.any p = (List.range ands.length).any (fun i => p (rdD ands (i : Int))) := by
  rw [Bool.eq_iff_iff, List.any_eq_true, List.any_eq_true]
  constructor
  · rintro ⟨d, hd, h⟩
    obtain ⟨i, hi, rfl⟩ := List.getElem_of_mem hd
    exact ⟨i, List.mem_range.2 hi, by have : rdD ands (i : Int) = ands[i] := by simp [rdD, hi]
                                      rw [this]; exact h⟩
  · rintro ⟨i, hi, h⟩
    exact ⟨_, rdT_mem (List.mem_range.1 hi), h⟩
theorem marks (m : Nat) (ands : List Df) (h : Ok m ands) : ∃ gs, srtMark ands (List.replicate (m + 1) false) = some gs ∧ gs.length = m + 1 ∧ ∀ u, gs.getD u false = isG ands u := by
  obtain ⟨gs, h1, h2, h3⟩ := mark_ok ands (List.replicate (m + 1) false) (fun d hd => by have := h.lit d hd; rw [List.length_replicate]; omega)
  refine ⟨gs, h1, by rw [h2, List.length_replicate], fun u => ?_⟩
  rw [h3, any_range]
  have : (List.replicate (m + 1) false).getD u false = false := by
    rw [List.getD_eq_getElem?_getD, List.getElem?_replicate]; split <;> rfl
  rw [this, Bool.false_or]
  rfl

/-! ### who waits for whom -/
/-- How many parts of a gate are not ready. -/
def one (b : Bool) : Int := if b then 0 else 1
def cnt (ands : List Df) (done : List Nat) (k : Nat) : Int := one (rv ands done (pa ands k)) + one (rv ands done (pb ands k))
/-- The gates below i that wait for u. -/
def wl (ands : List Df) (i u : Nat) : List Int :=
  if isG ands u then (List.range i).flatMap (fun k => (if pa ands k = u then [(k : Int)] else []) ++ (if pb ands k = u then [(k : Int)] else [])) else []

theorem wl_succ (ands : List Df) (i u : Nat) : wl ands (i + 1) u = if isG ands u then wl ands i u ++ ((if pa ands i = u then [(i : Int)] else []) ++ (if pb ands i = u then [(i : Int)] else [])) else [] := by
  unfold wl
  by_cases h : isG ands u = true
  · rw [if_pos h, if_pos h, if_pos h, List.range_succ, List.flatMap_append]
    simp
  · rw [if_neg h, if_neg h]
theorem wl_len (ands : List Df) (i u : Nat) : (wl ands i u).length ≤ 2 * i := by
  induction i with
  | zero => unfold wl; split <;> simp
  | succ i ih =>
    rw [wl_succ]
    split
    · rw [List.length_append, List.length_append]
      have h1 : (if pa ands i = u then [(i : Int)] else []).length ≤ 1 := by split <;> simp
      have h2 : (if pb ands i = u then [(i : Int)] else []).length ≤ 1 := by split <;> simp
      omega
    · simp
theorem wl_mem (ands : List Df) (i u : Nat) : ∀ x ∈ wl ands i u, ∃ k, k < i ∧ x = (k : Int) := by
  intro x hx
  unfold wl at hx
  split at hx
  · obtain ⟨k, hk, h⟩ := List.mem_flatMap.1 hx
    refine ⟨k, List.mem_range.1 hk, ?_⟩
    rcases List.mem_append.1 h with h | h
    · split at h <;> simp_all
    · split at h <;> simp_all
  · cases hx
theorem wl_count (ands : List Df) (u k : Nat) (hu : isG ands u = true) (i : Nat) : (wl ands i u).count (k : Int) = if k < i then (if pa ands k = u then 1 else 0) + (if pb ands k = u then 1 else 0) else 0 := by
  induction i with
  | zero => unfold wl; rw [if_pos hu]; simp
  | succ i ih =>
    rw [wl_succ, if_pos hu, List.count_append, ih, List.count_append]
    by_cases e : k = i
    · subst e
      have h1 : (if pa ands k = u then [(k : Int)] else []).count (k : Int) = if pa ands k = u then 1 else 0 := by split <;> simp
      have h2 : (if pb ands k = u then [(k : Int)] else []).count (k : Int) = if pb ands k = u then 1 else 0 := by split <;> simp
      rw [h1, h2, if_neg (Nat.lt_irrefl k), if_pos (Nat.lt_succ_self k), Nat.zero_add]
    · have hne : (i : Int) ≠ (k : Int) := by omega
      have h1 : (if pa ands i = u then [(i : Int)] else []).count (k : Int) = 0 := by split <;> simp [List.count_cons, hne]
      have h2 : (if pb ands i = u then [(i : Int)] else []).count (k : Int) = 0 := by split <;> simp [List.count_cons, hne]
      rw [h1, h2]
      by_cases hk : k < i
      · rw [if_pos hk, if_pos (show k < i + 1 by omega)]; rfl
      · rw [if_neg hk, if_neg (show ¬ k < i + 1 by omega)]
end Go.Proofs.YtihbpbdmhiihnaaDoor.Pl
/- order.sorted, in plain law: 2. -/
namespace Go.Proofs.YtihbpbdmhiihnaaDoor.Pl
open Go Go.Proofs.YtihbpbdmhiihnaaDoor.Sy
set_option linter.unusedVariables false
set_option linter.unusedSimpArgs false
theorem one_cases (b : Bool) : one b = 0 ∨ one b = 1 := by cases b <;> simp [one]
theorem cnt_range (ands : List Df) (done : List Nat) (k : Nat) : 0 ≤ cnt ands done k ∧ cnt ands done k ≤ 2 := by
  unfold cnt
  rcases one_cases (rv ands done (pa ands k)) with h | h <;> rcases one_cases (rv ands done (pb ands k)) with h2 | h2 <;> rw [h, h2] <;> omega
theorem cnt_zero (ands : List Df) (done : List Nat) (k : Nat) : cnt ands done k = 0 ↔ (rv ands done (pa ands k) && rv ands done (pb ands k)) = true := by
  unfold cnt one
  cases rv ands done (pa ands k) <;> cases rv ands done (pb ands k) <;> simp
theorem rv_nil (ands : List Df) (u : Nat) : rv ands [] u = !isG ands u := by simp [rv]

theorem getD_set_list {α : Type} (xs : List α) (z : α) (i j : Nat) (v : α) (hi : i < xs.length) : (xs.set i v).getD j z = if j = i then v else xs.getD j z := by
  rw [List.getD_eq_getElem?_getD, List.getElem?_set]
  by_cases e : i = j
  · subst e; simp [hi]
  · rw [if_neg e, if_neg (fun h => e h.symm), List.getD_eq_getElem?_getD]

/-- One part: what becomes of the two lists. -/
theorem part_ok (gs : List Bool) (i : Nat) (l : Int) (u : Nat) (hl : 0 ≤ l) (hu : l / 2 = (u : Int)) (ws : List (List Int)) (ms : List Int) (hg : u < gs.length) (hw : u < ws.length) (hi : i < ms.length) (hm : 0 ≤ gt ms i ∧ gt ms i ≤ 10) (hr : (ws.getD u []).length ≤ 10000) :
    ∃ ws' ms', srtPart gs i l ws ms = some (ws', ms') ∧ ws'.length = ws.length ∧ ms'.length = ms.length ∧
      (∀ v, ws'.getD v [] = if v = u ∧ gs.getD u false = true then ws.getD v [] ++ [(i : Int)] else ws.getD v []) ∧
      (∀ k, gt ms' k = if k = i ∧ gs.getD u false = true then gt ms k + 1 else gt ms k) := by
  unfold srtPart
  rw [hu, Int.toNat_natCast, rd_gt]
  rw [if_pos ⟨hl, by omega, by omega, hi, by omega, by omega, by omega⟩]
  have hrd : rdOf false gs (u : Int) = gs.getD u false := by simp [rdOf]
  rw [hrd]
  by_cases c : gs.getD u false = true
  · rw [if_pos c]
    refine ⟨_, _, rfl, by simp, by simp, fun v => ?_, fun k => ?_⟩
    · rw [getD_set_list _ _ _ _ _ hw]
      by_cases e : v = u
      · subst e; rw [if_pos rfl, if_pos ⟨rfl, c⟩]
      · rw [if_neg e, if_neg (fun h => e h.1)]
    · rw [gt_set _ _ _ _ hi]
      by_cases e : k = i
      · subst e; rw [if_pos rfl, if_pos ⟨rfl, c⟩]
      · rw [if_neg e, if_neg (fun h => e h.1)]
  · rw [if_neg c]
    refine ⟨_, _, rfl, rfl, rfl, fun v => ?_, fun k => ?_⟩
    · rw [if_neg (fun h => c h.2)]
    · rw [if_neg (fun h => c h.2)]

/-- Behind i gates. -/
structure GInv (m : Nat) (ands : List Df) (i : Nat) (ws : List (List Int)) (ms hs : List Int) : Prop where
  wlen : ws.length = m + 1
  mlen : ms.length = ands.length
  rows : ∀ u, u ≤ m → ws.getD u [] = wl ands i u
  cnts : ∀ k, k < ands.length → gt ms k = if k < i then cnt ands [] k else 0
  heap : isHeap hs
  perm : hs.Perm (((List.range i).filter (fun k => decide (cnt ands [] k = 0))).map (fun k : Nat => (k : Int)))

theorem filter_len {n : Nat} (p : Nat → Bool) : ((List.range n).filter p).length ≤ n := by
  have := List.length_filter_le p (List.range n)
  rwa [List.length_range] at this

theorem gates_ok (m : Nat) (ands : List Df) (h : Ok m ands) (gs : List Bool) (hgl : gs.length = m + 1) (hgs : ∀ u, gs.getD u false = isG ands u) (d : Nat) : ∀ (i : Nat) (ws : List (List Int)) (ms hs : List Int), ands.length - i = d → i ≤ ands.length → GInv m ands i ws ms hs →
    ∃ ws' ms' hs', srtGates gs (ands.drop i) i ws ms hs = some (ws', ms', hs') ∧ GInv m ands ands.length ws' ms' hs' := by
  induction d with
  | zero =>
    intro i ws ms hs hd hi hI
    have e : i = ands.length := by omega
    subst e
    rw [List.drop_length]
    exact ⟨ws, ms, hs, rfl, hI⟩
  | succ d ih =>
    intro i ws ms hs hd hi hI
    have hlt : i < ands.length := by omega
    have hsm := h.small
    rw [rdT_drop hlt]
    simp only [srtGates]
    have hpa := h.pa_le hlt
    have hpb := h.pb_le hlt
    have hm0 : gt ms i = 0 := by rw [hI.cnts i hlt, if_neg (by omega)]
    have hwa : (ws.getD (pa ands i) []).length ≤ 10000 := by rw [hI.rows _ hpa.1]; have := wl_len ands i (pa ands i); omega
    obtain ⟨ws1, ms1, e1, l1, l2, r1, c1⟩ := part_ok gs i _ (pa ands i) hpa.2.2 hpa.2.1 ws ms (by omega) (by have := hI.wlen; omega) (by have := hI.mlen; omega) (by rw [hm0]; omega) hwa
    rw [e1]
    simp only [Option.bind_some]
    have hm1 : gt ms1 i = if isG ands (pa ands i) = true then 1 else 0 := by
      rw [c1, hm0, hgs]
      by_cases c : isG ands (pa ands i) = true
      · rw [if_pos ⟨rfl, c⟩, if_pos c]; rfl
      · rw [if_neg (fun h => c h.2), if_neg c]
    have hwb : (ws1.getD (pb ands i) []).length ≤ 10000 := by
      rw [r1, hI.rows _ hpb.1]
      have := wl_len ands i (pb ands i)
      split
      · rw [List.length_append]; simp; omega
      · omega
    obtain ⟨ws2, ms2, e2, l3, l4, r2, c2⟩ := part_ok gs i _ (pb ands i) hpb.2.2 hpb.2.1 ws1 ms1 (by omega) (by have := hI.wlen; omega) (by have := hI.mlen; omega) (by rw [hm1]; split <;> omega) hwb
    rw [e2]
    simp only [Option.bind_some]
    rw [if_pos (by have := hI.mlen; omega), rd_gt]
    have hm2 : gt ms2 i = cnt ands [] i := by
      rw [c2, hm1, hgs]
      unfold cnt one
      rw [rv_nil, rv_nil]
      cases isG ands (pa ands i) <;> cases isG ands (pb ands i) <;> simp
    have hcn : ∀ k, k < ands.length → gt ms2 k = if k < i + 1 then cnt ands [] k else 0 := by
      intro k hk
      by_cases e : k = i
      · subst e; rw [hm2, if_pos (by omega)]
      · rw [c2, if_neg (fun h => e h.1), c1, if_neg (fun h => e h.1), hI.cnts k hk]
        by_cases hki : k < i
        · rw [if_pos hki, if_pos (by omega)]
        · rw [if_neg hki, if_neg (by omega)]
    have hrw : ∀ u, u ≤ m → ws2.getD u [] = wl ands (i + 1) u := by
      intro u hu
      rw [r2, r1, hI.rows u hu, wl_succ, hgs, hgs]
      by_cases hG : isG ands u = true
      · rw [if_pos hG]
        by_cases ea : pa ands i = u <;> by_cases eb : pb ands i = u
        · rw [ea, eb, if_pos ⟨rfl, hG⟩, if_pos ⟨rfl, hG⟩, if_pos rfl]; simp
        · rw [ea, if_neg (fun h => eb h.1.symm), if_pos ⟨rfl, hG⟩, if_pos rfl, if_neg eb]; simp
        · rw [eb, if_pos ⟨rfl, hG⟩, if_neg (fun h => ea h.1.symm), if_neg ea, if_pos rfl]; simp
        · rw [if_neg (fun h => eb h.1.symm), if_neg (fun h => ea h.1.symm), if_neg ea, if_neg eb]; simp
      · rw [if_neg hG]
        have hwl : wl ands i u = [] := by unfold wl; rw [if_neg hG]
        rw [hwl]
        by_cases ea : pa ands i = u <;> by_cases eb : pb ands i = u
        · rw [ea, eb, if_neg (fun h => hG h.2), if_neg (fun h => hG h.2)]
        · rw [ea, if_neg (fun h => eb h.1.symm), if_neg (fun h => hG h.2)]
        · rw [eb, if_neg (fun h => hG h.2), if_neg (fun h => ea h.1.symm)]
        · rw [if_neg (fun h => eb h.1.symm), if_neg (fun h => ea h.1.symm)]
    by_cases hz : gt ms2 i = 0
    · rw [if_pos hz]
      have hhl : hs.length < 1000000 := by
        have := hI.perm.length_eq
        rw [List.length_map] at this
        have := filter_len (n := i) (fun k => decide (cnt ands [] k = 0))
        omega
      rw [if_pos hhl]
      obtain ⟨p1, p2⟩ := push_ok hs (i : Int) hI.heap
      refine ih (i + 1) ws2 ms2 _ (by omega) (by omega) ⟨by rw [l3, l1]; exact hI.wlen, by rw [l4, l2]; exact hI.mlen, hrw, hcn, p1, ?_⟩
      refine p2.trans ?_
      rw [List.range_succ, List.filter_append]
      have : ([i].filter (fun k => decide (cnt ands [] k = 0))) = [i] := by simp [← hm2, hz]
      rw [this, List.map_append]
      exact ((hI.perm.cons (i : Int))).trans (List.perm_append_singleton _ _).symm
    · rw [if_neg hz]
      refine ih (i + 1) ws2 ms2 _ (by omega) (by omega) ⟨by rw [l3, l1]; exact hI.wlen, by rw [l4, l2]; exact hI.mlen, hrw, hcn, hI.heap, ?_⟩
      rw [List.range_succ, List.filter_append]
      have : ([i].filter (fun k => decide (cnt ands [] k = 0))) = [] := by simp [← hm2, hz]
      rw [this, List.append_nil]
      exact hI.perm

theorem GInv.start (m : Nat) (ands : List Df) : GInv m ands 0 (List.replicate (m + 1) []) (List.replicate ands.length 0) [] := by
  refine ⟨by simp, by simp, fun u hu => ?_, fun k hk => ?_, fun k hk hl => by simp at hl, by simp⟩
  · rw [List.getD_eq_getElem?_getD, List.getElem?_replicate, if_pos (by omega)]
    unfold wl; split <;> simp
  · rw [if_neg (by omega)]
    unfold gt
    rw [List.getD_eq_getElem?_getD, List.getElem?_replicate, if_pos hk]; rfl
end Go.Proofs.YtihbpbdmhiihnaaDoor.Pl
/- order.sorted, in plain law: 3. -/
namespace Go.Proofs.YtihbpbdmhiihnaaDoor.Pl
open Go Go.Proofs.YtihbpbdmhiihnaaDoor.Sy
set_option linter.unusedVariables false
set_option linter.unusedSimpArgs false
/-- Those of a row whose last lack goes with it. -/
def freed (n : Nat) (L : List Int) (ms : List Int) : List Nat := (List.range n).filter (fun j => decide (0 < L.count (j : Int)) && decide (gt ms j = (L.count (j : Int) : Int)))

theorem filter_flip {n : Nat} (p q : Nat → Bool) (k : Nat) (hk : k < n) (hp : p k = true) (hq : q k = false) (he : ∀ j, j ≠ k → p j = q j) : ((List.range n).filter p).Perm (k :: (List.range n).filter q) := by
  induction n with
  | zero => omega
  | succ n ih =>
    rw [List.range_succ, List.filter_append, List.filter_append]
    by_cases e : k = n
    · subst e
      have h1 : (List.range k).filter p = (List.range k).filter q := List.filter_congr (fun j hj => he j (by have := List.mem_range.1 hj; omega))
      have h2 : [k].filter p = [k] := by simp [hp]
      have h3 : [k].filter q = [] := by simp [hq]
      rw [h1, h2, h3, List.append_nil]
      exact List.perm_append_singleton _ _
    · have h2 : [n].filter p = [n].filter q := List.filter_congr (fun j hj => he j (by simp at hj; omega))
      rw [h2, ← List.cons_append]
      exact (ih (by omega)).append_right _

theorem in_ok (n : Nat) : ∀ (L : List Int) (ms hs : List Int), ms.length = n → (∀ x ∈ L, ∃ k, k < n ∧ x = (k : Int)) → (∀ k, k < n → 0 < L.count (k : Int) → (L.count (k : Int) : Int) ≤ gt ms k) → (∀ k, k < n → gt ms k ≤ 10) → hs.length + L.length ≤ 900000 → isHeap hs →
    ∃ ms' hs', srtIn L ms hs = some (ms', hs') ∧ ms'.length = n ∧ (∀ k, k < n → gt ms' k = gt ms k - (L.count (k : Int) : Int)) ∧ isHeap hs' ∧ hs'.Perm (hs ++ (freed n L ms).map (fun k : Nat => (k : Int))) := by
  intro L
  induction L with
  | nil =>
    intro ms hs hl hx hc hb hh hheap
    refine ⟨ms, hs, rfl, hl, fun k hk => by simp, hheap, ?_⟩
    have : freed n [] ms = [] := by unfold freed; rw [List.filter_eq_nil_iff]; intro a _; simp
    rw [this]; simp
  | cons x t ih =>
    intro ms hs hl hx hc hb hh hheap
    obtain ⟨k, hk, rfl⟩ := hx x List.mem_cons_self
    have hck : ((k : Int) :: t).count (k : Int) = t.count (k : Int) + 1 := by rw [List.count_cons]; simp
    have hcj : ∀ j : Nat, j ≠ k → ((k : Int) :: t).count (j : Int) = t.count (j : Int) := fun j hj => by rw [List.count_cons]; simp; omega
    have hkc := hc k hk (by rw [hck]; omega)
    rw [hck] at hkc
    have hkb := hb k hk
    simp only [srtIn]
    rw [rd_gt, Int.toNat_natCast, if_pos ⟨by omega, by omega, by simp at hh; omega, by omega, by omega⟩]
    have hset := fun j => gt_set ms k j (gt ms k - 1) (by omega)
    have hx' : ∀ y ∈ t, ∃ q, q < n ∧ y = (q : Int) := fun y hy => hx y (List.mem_cons_of_mem _ hy)
    have hc' : ∀ j, j < n → 0 < t.count (j : Int) → (t.count (j : Int) : Int) ≤ gt (ms.set k (gt ms k - 1)) j := by
      intro j hj h0
      rw [hset]
      by_cases e : j = k
      · subst e; rw [if_pos rfl]; omega
      · rw [if_neg e]; have := hc j hj (by rw [hcj j e]; exact h0); rw [hcj j e] at this; exact this
    have hb' : ∀ j, j < n → gt (ms.set k (gt ms k - 1)) j ≤ 10 := by
      intro j hj
      rw [hset]; split
      · omega
      · exact hb j hj
    have hcount : ∀ j, j < n → gt (ms.set k (gt ms k - 1)) j - (t.count (j : Int) : Int) = gt ms j - (((k : Int) :: t).count (j : Int) : Int) := by
      intro j hj
      rw [hset]
      by_cases e : j = k
      · subst e; rw [if_pos rfl, hck]; omega
      · rw [if_neg e, hcj j e]
    by_cases hz : gt ms k - 1 = 0
    · rw [if_pos hz]
      obtain ⟨p1, p2⟩ := push_ok hs (k : Int) hheap
      have ht0 : t.count (k : Int) = 0 := by omega
      obtain ⟨ms', hs', e1, e2, e3, e4, e5⟩ := ih (ms.set k (gt ms k - 1)) (pushL hs k) (by simpa using hl) hx' hc' hb' (by rw [pushL_length]; simp at hh; omega) p1
      refine ⟨ms', hs', e1, e2, fun j hj => by rw [e3 j hj]; exact hcount j hj, e4, ?_⟩
      have hf : (freed n ((k : Int) :: t) ms).Perm (k :: freed n t (ms.set k (gt ms k - 1))) := by
        unfold freed
        refine filter_flip _ _ k hk ?_ ?_ ?_
        · rw [hck]; simp; omega
        · rw [ht0]; simp
        · intro j hj
          rw [hcj j hj, hset, if_neg hj]
      refine e5.trans ?_
      refine ((p2.append_right _)).trans ?_
      rw [List.cons_append]
      refine (List.perm_middle.symm).trans ?_
      exact (List.Perm.append_left hs ((hf.map (fun k : Nat => (k : Int))).symm))
    · rw [if_neg hz]
      obtain ⟨ms', hs', e1, e2, e3, e4, e5⟩ := ih (ms.set k (gt ms k - 1)) hs (by simpa using hl) hx' hc' hb' (by simp at hh; omega) hheap
      refine ⟨ms', hs', e1, e2, fun j hj => by rw [e3 j hj]; exact hcount j hj, e4, ?_⟩
      have hf : freed n ((k : Int) :: t) ms = freed n t (ms.set k (gt ms k - 1)) := by
        unfold freed
        refine List.filter_congr (fun j hj => ?_)
        by_cases e : j = k
        · subst e
          rw [hck, hset, if_pos rfl, Bool.eq_iff_iff, Bool.and_eq_true, Bool.and_eq_true, decide_eq_true_iff, decide_eq_true_iff, decide_eq_true_iff, decide_eq_true_iff]
          constructor
          · rintro ⟨a, b⟩; exact ⟨by omega, by omega⟩
          · rintro ⟨a, b⟩; exact ⟨by omega, by omega⟩
        · rw [hcj j e, hset, if_neg e]
      rw [hf]; exact e5

/-! ### the gates that are ready -/
/-- Where the gates done are. -/
structure OInv (ands : List Df) (done : List Nat) (ms hs : List Int) : Prop where
  mlen : ms.length = ands.length
  cnts : ∀ k, k < ands.length → gt ms k = cnt ands done k
  heap : isHeap hs
  perm : hs.Perm (((List.range ands.length).filter (nextP ands done)).map (fun k : Nat => (k : Int)))
  lt : ∀ i ∈ done, i < ands.length
  nd : done.Nodup
  zero : ∀ i ∈ done, cnt ands done i = 0

theorem rv_append (ands : List Df) (done : List Nat) (i u : Nat) : rv ands (done ++ [i]) u = (rv ands done u || vr ands i == u) := by
  unfold rv; rw [List.any_append]; simp [Bool.or_assoc]
theorem nextP_iff (ands : List Df) (done : List Nat) (i : Nat) : nextP ands done i = true ↔ i ∉ done ∧ cnt ands done i = 0 := by
  unfold nextP
  rw [cnt_zero, Bool.and_eq_true]
  simp

theorem perm_min {xs : List Int} {l : List Nat} (hp : xs.Perm (l.map (fun k : Nat => (k : Int)))) {v : Int} (hv : v ∈ xs) (hmin : ∀ x ∈ xs, v ≤ x) : ∃ i : Nat, v = (i : Int) ∧ i ∈ l ∧ ∀ j ∈ l, i ≤ j := by
  have := hp.mem_iff.1 hv
  obtain ⟨i, hi, rfl⟩ := List.mem_map.1 this
  refine ⟨i, rfl, hi, fun j hj => ?_⟩
  have := hmin (j : Int) (hp.mem_iff.2 (List.mem_map.2 ⟨j, hj, rfl⟩))
  omega

theorem find_min {n : Nat} (p : Nat → Bool) (i : Nat) (hi : i < n) (hp : p i = true) (hm : ∀ j, j < n → p j = true → i ≤ j) : (List.range n).find? p = some i := by
  induction n with
  | zero => omega
  | succ n ih =>
    rw [List.range_succ, List.find?_append]
    by_cases e : i = n
    · subst e
      have : (List.range i).find? p = none := by
        rw [List.find?_eq_none]
        intro j hj hpj
        have := List.mem_range.1 hj
        have := hm j (by omega) hpj
        omega
      rw [this]; simp [hp]
    · rw [ih (by omega) (fun j hj => hm j (by omega))]; rfl
end Go.Proofs.YtihbpbdmhiihnaaDoor.Pl
/- order.sorted, in plain law: 4. -/
namespace Go.Proofs.YtihbpbdmhiihnaaDoor.Pl
open Go Go.Proofs.YtihbpbdmhiihnaaDoor.Sy
set_option linter.unusedVariables false
set_option linter.unusedSimpArgs false
theorem filter_or_perm {n : Nat} (p q r : Nat → Bool) (h : ∀ j, j < n → r j = (p j || q j)) (hd : ∀ j, j < n → ¬ (p j = true ∧ q j = true)) : ((List.range n).filter p ++ (List.range n).filter q).Perm ((List.range n).filter r) := by
  induction n with
  | zero => simp
  | succ n ih =>
    rw [List.range_succ, List.filter_append, List.filter_append, List.filter_append]
    have h1 := ih (fun j hj => h j (by omega)) (fun j hj => hd j (by omega))
    have hn := h n (by omega)
    have hdn := hd n (by omega)
    cases hp : p n <;> cases hq : q n
    · have e : r n = false := by rw [hn, hp, hq]; rfl
      simp only [List.filter_cons, List.filter_nil, hp, hq, e, Bool.false_eq_true, if_false, List.append_nil]; exact h1
    · have e : r n = true := by rw [hn, hp, hq]; rfl
      simp only [List.filter_cons, List.filter_nil, hp, hq, e, Bool.false_eq_true, if_false, if_true, List.append_nil]
      rw [← List.append_assoc]; exact h1.append_right _
    · have e : r n = true := by rw [hn, hp, hq]; rfl
      simp only [List.filter_cons, List.filter_nil, hp, hq, e, Bool.false_eq_true, if_false, if_true, List.append_nil]
      have h2 : ((List.range n).filter p ++ [n] ++ (List.range n).filter q).Perm (((List.range n).filter p ++ (List.range n).filter q) ++ [n]) := by
        rw [List.append_assoc, List.append_assoc]
        exact (List.perm_append_comm).append_left _
      exact h2.trans (h1.append_right _)
    · exact absurd ⟨hp, hq⟩ hdn

theorem nodup_le : ∀ (n : Nat) (l : List Nat), l.Nodup → (∀ x ∈ l, x < n) → l.length ≤ n := by
  intro n
  induction n with
  | zero =>
    intro l hl h
    cases l with
    | nil => simp
    | cons a t => exact absurd (h a List.mem_cons_self) (by omega)
  | succ n ih =>
    intro l hl h
    by_cases hn : n ∈ l
    · have h1 := ih (l.erase n) (hl.erase n) (fun x hx => by
        have hx2 := (hl.mem_erase_iff).1 hx
        have := h x hx2.2
        have := hx2.1
        omega)
      rw [List.length_erase_of_mem hn] at h1
      omega
    · have h1 := ih l hl (fun x hx => by
        have := h x hx
        have : x ≠ n := fun e => hn (e ▸ hx)
        omega)
      omega

theorem out_step (m : Nat) (ands : List Df) (h : Ok m ands) (done : List Nat) (ms hs : List Int) (hI : OInv ands done ms hs) (p : Nat) (hp : hs.length = p + 1) :
    ∃ i ms' hs', i < ands.length ∧ i ∉ done ∧ (List.range ands.length).find? (nextP ands done) = some i ∧ rd (popL hs p) (p : Int) = (i : Int) ∧ srtIn (wl ands ands.length (vr ands i)) ms ((popL hs p).take p) = some (ms', hs') ∧ OInv ands (done ++ [i]) ms' hs' := by
  obtain ⟨q1, q2, q3⟩ := pop_ok hs p hp hI.heap
  have hmem : gt hs 0 ∈ hs := by rw [gt_get _ _ (by omega)]; exact List.getElem_mem _
  have hmin : ∀ x ∈ hs, gt hs 0 ≤ x := by
    intro x hx
    obtain ⟨j, hj, rfl⟩ := List.getElem_of_mem hx
    rw [← gt_get _ _ hj]
    exact root_le hs hI.heap j hj
  obtain ⟨i, hi, hif, hil⟩ := perm_min hI.perm hmem hmin
  obtain ⟨hin, hip⟩ := List.mem_filter.1 hif
  have hin' := List.mem_range.1 hin
  obtain ⟨hid, hic⟩ := (nextP_iff ands done i).1 hip
  have hsm := h.small
  have hv : rv ands done (vr ands i) = false := by
    unfold rv
    rw [isG_vr hin', Bool.not_true, Bool.false_or, Bool.eq_false_iff]
    intro hc
    obtain ⟨j, hj, he⟩ := List.any_eq_true.1 hc
    have he' : vr ands j = vr ands i := by simpa using he
    have := h.once j i (hI.lt j hj) hin' he'
    exact hid (this ▸ hj)
  have hcount := fun k => wl_count ands (vr ands i) k (isG_vr hin') ands.length
  have hone : ∀ u, one (rv ands (done ++ [i]) u) = one (rv ands done u) - (if u = vr ands i then 1 else 0) := by
    intro u
    rw [rv_append]
    by_cases e : u = vr ands i
    · subst e; rw [hv, if_pos rfl]; simp [one]
    · have : (vr ands i == u) = false := by rw [beq_eq_false_iff_ne]; exact fun h => e h.symm
      rw [this, Bool.or_false, if_neg e]; omega
  have hcnt' : ∀ k, k < ands.length → cnt ands (done ++ [i]) k = cnt ands done k - ((wl ands ands.length (vr ands i)).count (k : Int) : Int) := by
    intro k hk
    rw [hcount k, if_pos hk]
    unfold cnt
    rw [hone, hone]
    have e1 : ((if pa ands k = vr ands i then 1 else 0 : Nat) : Int) = if pa ands k = vr ands i then 1 else 0 := by split <;> rfl
    have e2 : ((if pb ands k = vr ands i then 1 else 0 : Nat) : Int) = if pb ands k = vr ands i then 1 else 0 := by split <;> rfl
    rw [Int.natCast_add, e1, e2]
    omega
  have hle : ∀ k, k < ands.length → ((wl ands ands.length (vr ands i)).count (k : Int) : Int) ≤ cnt ands done k := by
    intro k hk
    have := (cnt_range ands (done ++ [i]) k).1
    rw [hcnt' k hk] at this
    omega
  have hlen : hs.length ≤ ands.length := by
    have := hI.perm.length_eq
    rw [List.length_map] at this
    have := filter_len (n := ands.length) (nextP ands done)
    omega
  have htl : ((popL hs p).take p).length = p := by rw [List.length_take, popL_length]; omega
  obtain ⟨ms', hs', e1, e2, e3, e4, e5⟩ := in_ok ands.length (wl ands ands.length (vr ands i)) ms ((popL hs p).take p) hI.mlen (fun x hx => wl_mem ands _ _ x hx) (fun k hk _ => by rw [hI.cnts k hk]; exact hle k hk) (fun k hk => by rw [hI.cnts k hk]; have := (cnt_range ands done k).2; omega) (by
    rw [htl]; have := wl_len ands ands.length (vr ands i); omega) q1
  refine ⟨i, ms', hs', hin', hid, find_min _ i hin' hip (fun j hj hpj => hil j (List.mem_filter.2 ⟨List.mem_range.2 hj, hpj⟩)), by rw [q2, hi], e1, ⟨e2, fun k hk => by rw [e3 k hk, hI.cnts k hk, hcnt' k hk], e4, ?_, ?_, ?_, ?_⟩⟩
  · refine e5.trans ?_
    have hf1 : ((List.range ands.length).filter (nextP ands done)).Perm (i :: (List.range ands.length).filter (fun j => nextP ands done j && !(j == i))) := by
      refine filter_flip _ _ i hin' hip (by simp) (fun j hj => ?_)
      have : (j == i) = false := by rw [beq_eq_false_iff_ne]; exact hj
      rw [this]; simp
    have ht : ((popL hs p).take p).Perm (((List.range ands.length).filter (fun j => nextP ands done j && !(j == i))).map (fun k : Nat => (k : Int))) := by
      have h1 := q3.trans (hI.perm.trans (hf1.map (fun k : Nat => (k : Int))))
      rw [List.map_cons, hi] at h1
      exact h1.cons_inv
    refine (ht.append_right _).trans ?_
    rw [← List.map_append]
    refine List.Perm.map _ ?_
    unfold freed
    refine filter_or_perm _ _ _ (fun j hj => ?_) (fun j hj => ?_)
    · rw [Bool.eq_iff_iff, nextP_iff, Bool.or_eq_true, Bool.and_eq_true, Bool.and_eq_true, nextP_iff, hcnt' j hj, hI.cnts j hj]
      rw [decide_eq_true_iff, decide_eq_true_iff]
      have hc0 := hle j hj
      constructor
      · rintro ⟨a, b⟩
        have ha : j ∉ done ∧ j ≠ i := by
          constructor
          · intro hd; exact a (List.mem_append.2 (.inl hd))
          · intro hd; exact a (List.mem_append.2 (.inr (by simp [hd])))
        by_cases c : (wl ands ands.length (vr ands i)).count (j : Int) = 0
        · left
          refine ⟨⟨ha.1, by omega⟩, by simp [ha.2]⟩
        · right
          exact ⟨by omega, by omega⟩
      · rintro (⟨⟨a, b⟩, c⟩ | ⟨a, b⟩)
        · have hji : j ≠ i := by simpa using c
          refine ⟨fun hm => ?_, by omega⟩
          rcases List.mem_append.1 hm with hm | hm
          · exact a hm
          · exact hji (by simpa using hm)
        · refine ⟨fun hm => ?_, by omega⟩
          rcases List.mem_append.1 hm with hm | hm
          · have := hI.zero j hm; omega
          · have hji : j = i := by simpa using hm
            subst hji; omega
    · rintro ⟨a, b⟩
      rw [Bool.and_eq_true, nextP_iff] at a
      rw [Bool.and_eq_true, decide_eq_true_iff, decide_eq_true_iff, hI.cnts j hj] at b
      omega
  · intro j hj
    rcases List.mem_append.1 hj with hj | hj
    · exact hI.lt j hj
    · rw [List.mem_singleton.1 hj]; exact hin'
  · exact List.nodup_append.2 ⟨hI.nd, by simp, by
      intro a ha b hb
      rw [List.mem_singleton.1 hb]
      intro e; exact hid (e ▸ ha)⟩
  · intro j hj
    have hjl : j < ands.length := by
      rcases List.mem_append.1 hj with hj | hj
      · exact hI.lt j hj
      · rw [List.mem_singleton.1 hj]; exact hin'
    have h0 : cnt ands done j = 0 := by
      rcases List.mem_append.1 hj with hj | hj
      · exact hI.zero j hj
      · rw [List.mem_singleton.1 hj]; exact hic
    have := hle j hjl
    rw [hcnt' j hjl]; omega

theorem out_ok (m : Nat) (ands : List Df) (h : Ok m ands) (ws : List (List Int)) (hw : ws.length = m + 1) (hrows : ∀ u, u ≤ m → ws.getD u [] = wl ands ands.length u) (f : Nat) : ∀ (done : List Nat) (ms hs : List Int), ands.length - done.length < f → OInv ands done ms hs →
    srtOut ands ws f ms hs (done.map (fun k : Nat => (k : Int))) = some ((ordS ands (ands.length - done.length) done).map (fun k : Nat => (k : Int))) := by
  induction f with
  | zero => intro done ms hs hf; omega
  | succ f ih =>
    intro done ms hs hf hI
    simp only [srtOut]
    have hsm := h.small
    by_cases hz : hs.length = 0
    · rw [if_pos hz]
      have h0 : (List.range ands.length).filter (nextP ands done) = [] := by
        have := hI.perm.length_eq
        rw [hz, List.length_map] at this
        exact List.eq_nil_of_length_eq_zero this.symm
      have hn : (List.range ands.length).find? (nextP ands done) = none := by
        rw [List.find?_eq_none]
        intro j hj hp
        have : j ∈ (List.range ands.length).filter (nextP ands done) := List.mem_filter.2 ⟨hj, hp⟩
        rw [h0] at this; cases this
      cases e : ands.length - done.length with
      | zero => simp only [ordS]
      | succ d => simp only [ordS, hn]
    · rw [if_neg hz]
      obtain ⟨p, hp⟩ : ∃ p, hs.length = p + 1 := ⟨hs.length - 1, by omega⟩
      rw [show hs.length - 1 = p by omega]
      obtain ⟨i, ms', hs', hi, hid, hfind, hpop, hin, hI'⟩ := out_step m ands h done ms hs hI p hp
      have hdl := nodup_le ands.length (done ++ [i]) hI'.nd hI'.lt
      rw [List.length_append, List.length_singleton] at hdl
      have hlen : hs.length ≤ ands.length := by
        have := hI.perm.length_eq
        rw [List.length_map] at this
        have := filter_len (n := ands.length) (nextP ands done)
        omega
      have hvl := h.vr_le hi
      rw [hpop, hvl.2.1, Int.toNat_natCast, hrows _ hvl.1, hin]
      rw [if_pos ⟨by omega, by rw [List.length_map]; omega, by omega, by omega, hvl.2.2, by omega⟩]
      simp only [Option.bind_some]
      have h2 := ih (done ++ [i]) ms' hs' (by rw [List.length_append, List.length_singleton]; omega) hI'
      rw [List.map_append] at h2
      rw [show [(i : Int)] = [i].map (fun k : Nat => (k : Int)) from rfl, h2]
      rw [List.length_append, List.length_singleton]
      rw [show ands.length - done.length = (ands.length - (done.length + 1)) + 1 by omega]
      simp only [ordS, hfind]

theorem OInv.start (m : Nat) (ands : List Df) (ws : List (List Int)) (ms hs : List Int) (h : GInv m ands ands.length ws ms hs) : OInv ands [] ms hs := by
  refine ⟨h.mlen, fun k hk => by rw [h.cnts k hk, if_pos hk], h.heap, ?_, by simp, by simp, by simp⟩
  have : (List.range ands.length).filter (fun k => decide (cnt ands [] k = 0)) = (List.range ands.length).filter (nextP ands []) := by
    refine List.filter_congr (fun j _ => ?_)
    rw [Bool.eq_iff_iff, nextP_iff, decide_eq_true_iff]
    simp
  rw [← this]; exact h.perm

/-- What order.sorted answers. -/
theorem sorted_eq (m : Nat) (ands : List Df) (h : Ok m ands) : order_sorted.f (ands.length + 2) (m : Int) ands = some ((ordS ands ands.length []).map (fun k : Nat => (k : Int))) := by
  have hsm := h.small
  unfold order_sorted.f
  rw [if_pos ⟨by omega, by omega, by omega⟩, show ((m : Int) + 1).toNat = m + 1 by omega]
  obtain ⟨gs, h1, h2, h3⟩ := marks m ands h
  rw [h1]
  simp only [Option.bind_some]
  obtain ⟨ws, ms, hs, h4, h5⟩ := gates_ok m ands h gs h2 h3 ands.length 0 _ _ _ (by omega) (by omega) (GInv.start m ands)
  rw [List.drop_zero] at h4
  rw [h4]
  simp only [Option.bind_some]
  exact out_ok m ands h ws h5.wlen h5.rows (ands.length + 2) [] ms hs (by simp) (OInv.start m ands ws ms hs h5)
end Go.Proofs.YtihbpbdmhiihnaaDoor.Pl
