/- Texts of this claim, one behind the other: Words for walks on symbols. .. -/
import Derived.Test.YtbamhlgkoimjoaaDoorRows
import Derived.Test.YtbamhlgkoimjoaaDoorWnC
import Derived.WalkKit
import Derived.Shelf.Strings.Builder1
import Derived.Shelf.LaysM
import Derived.Shelf.Strconv.Itoa3
import Derived.Test.YtbamhlgkoimjoaaDoorProg
import Derived.Deep.Slices
import Derived.ProofKit
import Derived.OpenShut
import Derived.ShutString
import Derived.Below
import Derived.RowKit
import Derived.ChangeOld
import Derived.SizedLaws
import Derived.RowKit3
import Derived.LaidMore
import Derived.Lay
import Derived.MakeChecks
import Derived.Stop.LaidErr
import Derived.Lib.LaidTab
import Derived.Lib.ItoaLen
/- Words for walks on symbols. -/
namespace Go.Proofs.YtbamhlgkoimjoaaDoor.Sy
open Go Go.Proofs.YtbamhlgkoimjoaaDoor.Ab
set_option maxRecDepth 1000000
/-- No function writes what it gets as plain data. -/
def wr : Nat → Bool := fun _ => false
/-- No call is known but by what is told. -/
def O : Orc := fun _ _ _ => none
theorem hO : OrcOk Tryd.prog O := fun _ _ _ _ _ h => by cases h
theorem hm : Tryd.prog.follows .mixedOrders = true := by kernel_rfl
def I (n : Int) : D := .int .i64 n
def L (l : List Int) : D := .sl (l.map I)

theorem get_map {α : Type} [Inhabited α] (f : α → D) (l : List α) (i : Nat) (h : i < l.length) : (l.map f)[i]? = some (f (l.getD i default)) := by
  rw [List.getElem?_map, List.getElem?_eq_getElem h, List.getD_eq_getElem?_getD, List.getElem?_eq_getElem h]; rfl
theorem drop_getD {α : Type} [Inhabited α] (l : List α) (i : Nat) (h : i < l.length) : l.drop i = l.getD i default :: l.drop (i + 1) := by
  rw [List.drop_eq_getElem_cons h, List.getD_eq_getElem?_getD, List.getElem?_eq_getElem h]; rfl
theorem wrap_id {n : Int} (h1 : -9223372036854775808 ≤ n) (h2 : n ≤ 9223372036854775807) : IntKind.i64.wrap n = n := by
  rw [IntKind.wrap_i64]; omega
theorem wrap_succ {i : Nat} (h : i < 9223372036854775807) : IntKind.i64.wrap ((i : Int) + 1) = ((i + 1 : Nat) : Int) := by
  rw [wrap_id (by omega) (by omega)]; rfl

/-! ### loops over a list -/
section
variable {α σ : Type} [Inhabited α] {c : Code}
/-- Each element in its turn, to the end. -/
theorem fold_loop (xs : List α) (H : Nat → σ → St) (E : σ → St) (e0 : Ex) (step : σ → α → σ) (Inv : Nat → σ → Prop)
    (hs : ∀ i acc, i < xs.length → Inv i acc → Inv (i + 1) (step acc (xs.getD i default)) ∧ ∀ e s, GoesL Tryd.prog c (H (i + 1) (step acc (xs.getD i default))) e s → GoesL Tryd.prog c (H i acc) e s)
    (he : ∀ acc, Inv xs.length acc → GoesL Tryd.prog c (H xs.length acc) e0 (E acc)) (d : Nat) : ∀ i acc, xs.length - i = d → i ≤ xs.length → Inv i acc →
      GoesL Tryd.prog c (H i acc) e0 (E ((xs.drop i).foldl step acc)) := by
  induction d with
  | zero =>
    intro i acc hd hi hI
    obtain rfl : i = xs.length := by omega
    rw [List.drop_length]
    exact he acc hI
  | succ d ih =>
    intro i acc hd hi hI
    obtain ⟨h1, h2⟩ := hs i acc (by omega) hI
    rw [drop_getD xs i (by omega), List.foldl_cons]
    exact h2 _ _ (ih (i + 1) _ (by omega) (by omega) h1)

/-- Each element in its turn, until one is bad. -/
theorem any_loop (xs : List α) (H : Nat → St) (eb e0 : Ex) (B E : St) (bad : α → Bool)
    (hb : ∀ i, i < xs.length → bad (xs.getD i default) = true → GoesL Tryd.prog c (H i) eb B)
    (hs : ∀ i, i < xs.length → bad (xs.getD i default) = false → ∀ e s, GoesL Tryd.prog c (H (i + 1)) e s → GoesL Tryd.prog c (H i) e s)
    (he : GoesL Tryd.prog c (H xs.length) e0 E) (d : Nat) : ∀ i, xs.length - i = d → i ≤ xs.length →
      ((xs.drop i).any bad = true → GoesL Tryd.prog c (H i) eb B) ∧ ((xs.drop i).any bad = false → GoesL Tryd.prog c (H i) e0 E) := by
  induction d with
  | zero =>
    intro i hd hi
    obtain rfl : i = xs.length := by omega
    rw [List.drop_length]
    exact ⟨fun h => by simp at h, fun _ => he⟩
  | succ d ih =>
    intro i hd hi
    obtain ⟨i1, i2⟩ := ih (i + 1) (by omega) (by omega)
    rw [drop_getD xs i (by omega), List.any_cons]
    cases hx : bad (xs.getD i default) with
    | true => exact ⟨fun _ => hb i (by omega) hx, fun h => by simp at h⟩
    | false => exact ⟨fun h => hs i (by omega) hx _ _ (i1 (by simpa using h)), fun h => hs i (by omega) hx _ _ (i2 (by simpa using h))⟩
end

section
variable {α : Type} [Inhabited α] {c : Code}
/-- Until one is bad: where it stands is told. -/
theorem any_at (xs : List α) (H : Nat → St) (e0 : Ex) (R : Nat → St) (E : St) (bad : α → Bool)
    (hb : ∀ i, i < xs.length → bad (xs.getD i default) = true → GoesL Tryd.prog c (H i) .ret (R i))
    (hs : ∀ i, i < xs.length → bad (xs.getD i default) = false → ∀ e s, GoesL Tryd.prog c (H (i + 1)) e s → GoesL Tryd.prog c (H i) e s)
    (he : GoesL Tryd.prog c (H xs.length) e0 E) (d : Nat) : ∀ i, xs.length - i = d → i ≤ xs.length →
      ((xs.drop i).any bad = true → ∃ j, GoesL Tryd.prog c (H i) .ret (R j)) ∧ ((xs.drop i).any bad = false → GoesL Tryd.prog c (H i) e0 E) := by
  induction d with
  | zero =>
    intro i hd hi
    obtain rfl : i = xs.length := by omega
    rw [List.drop_length]
    exact ⟨fun h => by simp at h, fun _ => he⟩
  | succ d ih =>
    intro i hd hi
    obtain ⟨i1, i2⟩ := ih (i + 1) (by omega) (by omega)
    rw [drop_getD xs i (by omega), List.any_cons]
    cases hx : bad (xs.getD i default) with
    | true => exact ⟨fun _ => ⟨i, hb i (by omega) hx⟩, fun h => by simp at h⟩
    | false => exact ⟨fun h => let ⟨j, hj⟩ := i1 (by simpa using h); ⟨j, hs i (by omega) hx _ _ hj⟩, fun h => hs i (by omega) hx _ _ (i2 (by simpa using h))⟩
end

def anyIx {α : Type} (f : Nat → α → Bool) : List α → Nat → Bool
  | [], _ => false
  | x :: r, i => f i x || anyIx f r (i + 1)
section
variable {α : Type} [Inhabited α] {c : Code}
/-- Each element with its index, until one is bad. -/
theorem any_ix (xs : List α) (H : Nat → St) (eb e0 : Ex) (B E : St) (bad : Nat → α → Bool)
    (hb : ∀ i, i < xs.length → bad i (xs.getD i default) = true → GoesL Tryd.prog c (H i) eb B)
    (hs : ∀ i, i < xs.length → bad i (xs.getD i default) = false → ∀ e s, GoesL Tryd.prog c (H (i + 1)) e s → GoesL Tryd.prog c (H i) e s)
    (he : GoesL Tryd.prog c (H xs.length) e0 E) (d : Nat) : ∀ i, xs.length - i = d → i ≤ xs.length →
      (anyIx bad (xs.drop i) i = true → GoesL Tryd.prog c (H i) eb B) ∧ (anyIx bad (xs.drop i) i = false → GoesL Tryd.prog c (H i) e0 E) := by
  induction d with
  | zero =>
    intro i hd hi
    obtain rfl : i = xs.length := by omega
    rw [List.drop_length]
    exact ⟨fun h => by simp [anyIx] at h, fun _ => he⟩
  | succ d ih =>
    intro i hd hi
    obtain ⟨i1, i2⟩ := ih (i + 1) (by omega) (by omega)
    rw [drop_getD xs i (by omega), anyIx]
    cases hx : bad i (xs.getD i default) with
    | true => exact ⟨fun _ => hb i (by omega) hx, fun h => by simp at h⟩
    | false => exact ⟨fun h => hs i (by omega) hx _ _ (i1 (by simpa using h)), fun h => hs i (by omega) hx _ _ (i2 (by simpa using h))⟩
end

/-- A definition, a raw circuit, as data. -/
structure Df where
  lit : Int
  a : Int
  b : Int
  deriving Inhabited
def Df.d (x : Df) : D := .agg [I x.lit, I x.a, I x.b]
structure Rw where
  most : Int
  ins : List Int
  lats : List Df
  ands : List Df
  bads : List Int
  cons : List Int
def Rw.d (r : Rw) : D := .agg [I r.most, L r.ins, .sl (r.lats.map Df.d), .sl (r.ands.map Df.d), L r.bads, L r.cons]
/-- A variable that holds it. -/
def Rw.box (r : Rw) : B := .box [.d (I r.most), .d (L r.ins), .d (.sl (r.lats.map Df.d)), .d (.sl (r.ands.map Df.d)), .d (L r.bads), .d (L r.cons)]
structure Lt where
  next : Int
  reset : Int
  deriving Inhabited
def Lt.d (x : Lt) : D := .agg [I x.next, I x.reset]
structure An where
  a : Int
  b : Int
  deriving Inhabited
def An.d (x : An) : D := .agg [I x.a, I x.b]
structure Ci where
  ins : Int
  lats : List Lt
  ands : List An
  bads : List Int
  cons : List Int
def Ci.d (c : Ci) : D := .agg [I c.ins, .sl (c.lats.map Lt.d), .sl (c.ands.map An.d), L c.bads, L c.cons]
end Go.Proofs.YtbamhlgkoimjoaaDoor.Sy
/- The facts that contracts of the library ask of this program: printed by wip/tools/shelf.py. -/
namespace Go.Proofs
open Go.Shelf
def Tryd.lays240_ren : Go.Shelf.Ren := ⟨fun | 240 => 31 | 276 => 48 | n => n, fun | 0 => 0 | 1 => 1 | 2 => 2 | 3 => 3 | 4 => 4 | 5 => 5 | 6 => 6 | 7 => 7 | 8 => 8 | 9 => 9 | 10 => 10 | 11 => 11 | 12 => 12 | 13 => 13 | 14 => 14 | 15 => 15 | 16 => 16 | 17 => 17 | 18 => 18 | 19 => 19 | 20 => 20 | 21 => 21 | 22 => 106 | 23 => 70 | 27 => 99 | 28 => 25 | 31 => 37 | 37 => 52 | 46 => 80 | 47 => 128 | 51 => 126 | 52 => 134 | 53 => 108 | 54 => 109 | 55 => 117 | 61 => 69 | 69 => 120 | 70 => 51 | 71 => 53 | 72 => 54 | 74 => 55 | 75 => 56 | 76 => 57 | 77 => 58 | 78 => 72 | 80 => 61 | 81 => 148 | 83 => 59 | 84 => 91 | 85 => 101 | 86 => 102 | 103 => 114 | 104 => 130 | 105 => 115 | 106 => 116 | 108 => 123 | 111 => 81 | 113 => 87 | 114 => 66 | 119 => 135 | 127 => 73 | 128 => 88 | 137 => 136 | 138 => 137 | 139 => 138 | 143 => 131 | 144 => 132 | 145 => 133 | 146 => 139 | 150 => 98 | 151 => 140 | 164 => 89 | 165 => 90 | 167 => 100 | 168 => 103 | 169 => 104 | 170 => 105 | 171 => 107 | 172 => 110 | 173 => 111 | 174 => 112 | 175 => 118 | 176 => 119 | 209 => 121 | 210 => 122 | 211 => 124 | 212 => 125 | 213 => 127 | 214 => 129 | 232 => 141 | 233 => 142 | 238 => 143 | 239 => 144 | 240 => 145 | 241 => 146 | 242 => 147 | 243 => 149 | 244 => 150 | 245 => 151 | 246 => 152 | 247 => 153 | 248 => 154 | 249 => 155 | n => n, fun | 1 => 3 | 3 => 4 | 4 => 5 | 15 => 0 | 16 => 1 | 17 => 2 | 18 => 6 | 19 => 7 | n => n⟩
theorem Tryd.lays240 : Go.Proofs.Lays.n240 Tryd.prog Tryd.lays240_ren := {
  mixed := by kernel_rfl
  f240 := Tryd.func31.trans (congrArg some (by kernel_rfl))
  f276 := Tryd.func48.trans (congrArg some (by kernel_rfl))
  t0 := Tryd.underlying0
  a0 := Tryd.isAgg0
  z0 := Tryd.sizeOf0
  v0 := Tryd.zeroValue0
  t4 := Tryd.underlying4
  a4 := Tryd.isAgg4
  z4 := Tryd.sizeOf4
  v4 := Tryd.zeroValue4
  t9 := Tryd.underlying9
  a9 := Tryd.isAgg9
  z9 := Tryd.sizeOf9
  v9 := Tryd.zeroValue9
  t20 := Tryd.underlying20
  a20 := Tryd.isAgg20
  z20 := Tryd.sizeOf20
  v20 := Tryd.zeroValue20
  t70 := Tryd.underlying51
  a70 := Tryd.isAgg51
  z70 := Tryd.sizeOf51
  v70 := Tryd.zeroValue51
  t72 := Tryd.underlying54
  a72 := Tryd.isAgg54
  z72 := Tryd.sizeOf54
  v72 := Tryd.zeroValue54
  t164 := Tryd.underlying89
  a164 := Tryd.isAgg89
  z164 := Tryd.sizeOf89
  v164 := Tryd.zeroValue89 }
theorem Tryd.X72 : Builder.X72 Tryd.prog Tryd.lays240_ren := {
  sizeBuilder := by kernel_rfl
  liesBuilder := by kernel_rfl }
def Tryd.lays169_ren : Go.Shelf.Ren := ⟨fun | 169 => 18 | n => n, fun | 0 => 0 | 1 => 1 | 2 => 2 | 3 => 3 | 4 => 4 | 5 => 5 | 6 => 6 | 7 => 7 | 8 => 8 | 9 => 9 | 10 => 10 | 11 => 11 | 12 => 12 | 13 => 13 | 14 => 14 | 15 => 15 | 16 => 16 | 17 => 17 | 18 => 18 | 19 => 19 | 20 => 20 | 21 => 21 | 22 => 106 | 23 => 70 | 27 => 99 | 28 => 25 | 31 => 37 | 37 => 52 | 46 => 80 | 47 => 128 | 51 => 126 | 52 => 134 | 53 => 108 | 54 => 109 | 55 => 117 | 61 => 69 | 69 => 120 | 70 => 51 | 71 => 53 | 72 => 54 | 74 => 55 | 75 => 56 | 76 => 57 | 77 => 58 | 78 => 72 | 80 => 61 | 81 => 148 | 83 => 59 | 84 => 91 | 85 => 101 | 86 => 102 | 103 => 114 | 104 => 130 | 105 => 115 | 106 => 116 | 108 => 123 | 111 => 81 | 113 => 87 | 114 => 66 | 119 => 135 | 127 => 73 | 128 => 88 | 137 => 136 | 138 => 137 | 139 => 138 | 143 => 131 | 144 => 132 | 145 => 133 | 146 => 139 | 150 => 98 | 151 => 140 | 164 => 89 | 165 => 90 | 167 => 100 | 168 => 103 | 169 => 104 | 170 => 105 | 171 => 107 | 172 => 110 | 173 => 111 | 174 => 112 | 175 => 118 | 176 => 119 | 209 => 121 | 210 => 122 | 211 => 124 | 212 => 125 | 213 => 127 | 214 => 129 | 232 => 141 | 233 => 142 | 238 => 143 | 239 => 144 | 240 => 145 | 241 => 146 | 242 => 147 | 243 => 149 | 244 => 150 | 245 => 151 | 246 => 152 | 247 => 153 | 248 => 154 | 249 => 155 | n => n, fun | 1 => 3 | 3 => 4 | 4 => 5 | 15 => 0 | 16 => 1 | 17 => 2 | 18 => 6 | 19 => 7 | n => n⟩
theorem Tryd.lays169 : Go.Proofs.Lays.n169 Tryd.prog Tryd.lays169_ren := {
  mixed := by kernel_rfl
  f169 := Tryd.func18.trans (congrArg some (by kernel_rfl))
  t0 := Tryd.underlying0
  a0 := Tryd.isAgg0
  z0 := Tryd.sizeOf0
  v0 := Tryd.zeroValue0
  t3 := Tryd.underlying3
  a3 := Tryd.isAgg3
  z3 := Tryd.sizeOf3
  v3 := Tryd.zeroValue3
  t9 := Tryd.underlying9
  a9 := Tryd.isAgg9
  z9 := Tryd.sizeOf9
  v9 := Tryd.zeroValue9
  t37 := Tryd.underlying52
  a37 := Tryd.isAgg52
  z37 := Tryd.sizeOf52
  v37 := Tryd.zeroValue52
  t70 := Tryd.underlying51
  a70 := Tryd.isAgg51
  z70 := Tryd.sizeOf51
  v70 := Tryd.zeroValue51
  t72 := Tryd.underlying54
  a72 := Tryd.isAgg54
  z72 := Tryd.sizeOf54
  v72 := Tryd.zeroValue54
  t127 := Tryd.underlying73
  a127 := Tryd.isAgg73
  z127 := Tryd.sizeOf73
  v127 := Tryd.zeroValue73 }
theorem Tryd.Extra : Builder.Extra Tryd.prog Tryd.lays169_ren := {
  sizeBuilder := by kernel_rfl
  liesBuilder := by kernel_rfl
  t5 := Tryd.underlying5
  a5 := Tryd.isAgg5
  z5 := Tryd.sizeOf5
  v5 := Tryd.zeroValue5
  infoByte := by kernel_rfl
  cellsByte := by kernel_rfl
  sizeByte := by kernel_rfl
  neB5 := by decide }
def Tryd.laysM171_ren : Go.Shelf.Ren := ⟨fun | 129 => 79 | 171 => 16 | 243 => 32 | 246 => 49 | 283 => 66 | 284 => 67 | 285 => 68 | 286 => 69 | 317 => 78 | 318 => 80 | 319 => 81 | 320 => 82 | 337 => 90 | 338 => 91 | n => n, fun | 0 => 0 | 1 => 1 | 2 => 2 | 3 => 3 | 4 => 4 | 5 => 5 | 6 => 6 | 7 => 7 | 8 => 8 | 9 => 9 | 10 => 10 | 11 => 11 | 12 => 12 | 13 => 13 | 14 => 14 | 15 => 15 | 16 => 16 | 17 => 17 | 18 => 18 | 19 => 19 | 20 => 20 | 21 => 21 | 22 => 106 | 23 => 70 | 27 => 99 | 28 => 25 | 31 => 37 | 37 => 52 | 46 => 80 | 47 => 128 | 51 => 126 | 52 => 134 | 53 => 108 | 54 => 109 | 55 => 117 | 61 => 69 | 69 => 120 | 70 => 51 | 71 => 53 | 72 => 54 | 74 => 55 | 75 => 56 | 76 => 57 | 77 => 58 | 78 => 72 | 80 => 61 | 81 => 148 | 83 => 59 | 84 => 91 | 85 => 101 | 86 => 102 | 103 => 114 | 104 => 130 | 105 => 115 | 106 => 116 | 108 => 123 | 111 => 81 | 113 => 87 | 114 => 66 | 119 => 135 | 127 => 73 | 128 => 88 | 137 => 136 | 138 => 137 | 139 => 138 | 143 => 131 | 144 => 132 | 145 => 133 | 146 => 139 | 150 => 98 | 151 => 140 | 164 => 89 | 165 => 90 | 167 => 100 | 168 => 103 | 169 => 104 | 170 => 105 | 171 => 107 | 172 => 110 | 173 => 111 | 174 => 112 | 175 => 118 | 176 => 119 | 209 => 121 | 210 => 122 | 211 => 124 | 212 => 125 | 213 => 127 | 214 => 129 | 232 => 141 | 233 => 142 | 238 => 143 | 239 => 144 | 240 => 145 | 241 => 146 | 242 => 147 | 243 => 149 | 244 => 150 | 245 => 151 | 246 => 152 | 247 => 153 | 248 => 154 | 249 => 155 | n => n, fun | 1 => 3 | 3 => 4 | 4 => 5 | 15 => 0 | 16 => 1 | 17 => 2 | 18 => 6 | 19 => 7 | n => n⟩
theorem Tryd.laysM171 : Go.Proofs.LaysM.n171 Tryd.prog Tryd.laysM171_ren := {
  mixed := by kernel_rfl
  f129 := Tryd.func79.trans (congrArg some (by kernel_rfl))
  f171 := Tryd.func16.trans (congrArg some (by kernel_rfl))
  f243 := Tryd.func32.trans (congrArg some (by kernel_rfl))
  f246 := Tryd.func49.trans (congrArg some (by kernel_rfl))
  f283 := Tryd.func66.trans (congrArg some (by kernel_rfl))
  f284 := Tryd.func67.trans (congrArg some (by kernel_rfl))
  f285 := Tryd.func68.trans (congrArg some (by kernel_rfl))
  f286 := Tryd.func69.trans (congrArg some (by kernel_rfl))
  f317 := Tryd.func78.trans (congrArg some (by kernel_rfl))
  f318 := Tryd.func80.trans (congrArg some (by kernel_rfl))
  f319 := Tryd.func81.trans (congrArg some (by kernel_rfl))
  f320 := Tryd.func82.trans (congrArg some (by kernel_rfl))
  f337 := Tryd.func90.trans (congrArg some (by kernel_rfl))
  f338 := Tryd.func91.trans (congrArg some (by kernel_rfl))
  t0 := Tryd.underlying0
  a0 := Tryd.isAgg0
  z0 := Tryd.sizeOf0
  v0 := Tryd.zeroValue0
  t2 := Tryd.underlying2
  a2 := Tryd.isAgg2
  z2 := Tryd.sizeOf2
  v2 := Tryd.zeroValue2
  t3 := Tryd.underlying3
  a3 := Tryd.isAgg3
  z3 := Tryd.sizeOf3
  v3 := Tryd.zeroValue3
  t4 := Tryd.underlying4
  a4 := Tryd.isAgg4
  z4 := Tryd.sizeOf4
  v4 := Tryd.zeroValue4
  t5 := Tryd.underlying5
  a5 := Tryd.isAgg5
  z5 := Tryd.sizeOf5
  v5 := Tryd.zeroValue5
  t9 := Tryd.underlying9
  a9 := Tryd.isAgg9
  z9 := Tryd.sizeOf9
  v9 := Tryd.zeroValue9
  t20 := Tryd.underlying20
  a20 := Tryd.isAgg20
  z20 := Tryd.sizeOf20
  v20 := Tryd.zeroValue20
  t37 := Tryd.underlying52
  a37 := Tryd.isAgg52
  z37 := Tryd.sizeOf52
  v37 := Tryd.zeroValue52
  t46 := Tryd.underlying80
  a46 := Tryd.isAgg80
  z46 := Tryd.sizeOf80
  v46 := Tryd.zeroValue80
  t51 := Tryd.underlying126
  a51 := Tryd.isAgg126
  z51 := Tryd.sizeOf126
  v51 := Tryd.zeroValue126
  t53 := Tryd.underlying108
  a53 := Tryd.isAgg108
  z53 := Tryd.sizeOf108
  v53 := Tryd.zeroValue108
  t171 := Tryd.underlying107
  a171 := Tryd.isAgg107
  z171 := Tryd.sizeOf107
  v171 := Tryd.zeroValue107
  t173 := Tryd.underlying111
  a173 := Tryd.isAgg111
  z173 := Tryd.sizeOf111
  v173 := Tryd.zeroValue111
  t212 := Tryd.underlying125
  a212 := Tryd.isAgg125
  z212 := Tryd.sizeOf125
  v212 := Tryd.zeroValue125
  t213 := Tryd.underlying127
  a213 := Tryd.isAgg127
  z213 := Tryd.sizeOf127
  t232 := Tryd.underlying141
  a232 := Tryd.isAgg141
  z232 := Tryd.sizeOf141
  v232 := Tryd.zeroValue141
  t233 := Tryd.underlying142
  a233 := Tryd.isAgg142
  z233 := Tryd.sizeOf142
  v233 := Tryd.zeroValue142
  g17 := by kernel_rfl
  g18 := by kernel_rfl
  g19 := by kernel_rfl
  i0 := by kernel_rfl
  i2 := by kernel_rfl
  i3 := by kernel_rfl
  i4 := by kernel_rfl
  i5 := by kernel_rfl
  i9 := by kernel_rfl
  i20 := by kernel_rfl
  i37 := by kernel_rfl
  i46 := by kernel_rfl
  i51 := by kernel_rfl
  i53 := by kernel_rfl
  i171 := by kernel_rfl
  i173 := by kernel_rfl
  i212 := by kernel_rfl
  i232 := by kernel_rfl
  i233 := by kernel_rfl
  m17 := by kernel_rfl
  m18 := by kernel_rfl
  m19 := by kernel_rfl }
end Go.Proofs
/- Calls of the library that are known by the library's contracts: strconv.Itoa, (*strings.Builder).copyCheck and String. -/
namespace Go.Proofs.YtbamhlgkoimjoaaDoor.Sy.Str
open Go Go.Shelf Go.RowKit Go.Proofs.YtbamhlgkoimjoaaDoor.Ab Go.Proofs.YtbamhlgkoimjoaaDoor.Sy
set_option maxRecDepth 1000000
set_option linter.unusedVariables false
set_option linter.unusedSimpArgs false
theorem tab_of {w : World} {Pr : Nat → Prop} (h : GOk w Pr) : Lib.TabIs Tryd.prog w "internal/strconv.uint64pow10" .u64 Lib.pow10Tab := by
  obtain ⟨_, e, fz, h3⟩ := h.2 _ (List.mem_singleton.2 rfl)
  have hg : Tryd.prog.globalNamed "internal/strconv.uint64pow10" = some 2 := by kernel_rfl
  unfold Lib.TabIs World.var?
  rw [hg, Option.bind_some, h3]
  rfl
theorem one_arg {w : World} {Pr : Nat → Prop} {vw : Nat → Option VW} {a : V} {vs : List Value} (h : All2 (VRel Tryd.prog w Pr vw) [a] vs) : ∃ v, vs = [v] ∧ VRel Tryd.prog w Pr vw a v := by
  cases vs with
  | nil => exact h.elim
  | cons v vs =>
    cases vs with
    | nil => exact ⟨v, rfl, h.1⟩
    | cons u us => exact h.2.elim
theorem str_rel {w : World} {Pr : Nat → Prop} (l : List UInt8) : DRel w Pr (.str l) (.string ⟨l.toArray⟩) := DRel.str ⟨l.toArray⟩
/-- strconv.Itoa: a number's decimal numeral. -/
theorem itoa (n : Int) (h0 : -9223372036854775808 ≤ n) (h1 : n ≤ 9223372036854775807) : ICall Tryd.prog 16 [.d (I n)] [] (.d (.str (Lib.itoa n))) [] := by
  intro w Pr μ vs hS hv
  obtain ⟨v, rfl, hw⟩ := one_arg hv
  rw [drel_int (show DRel w Pr (I n) v from hw)]
  have hc : Calls Tryd.prog 16 #[.int .i64 n] w fun e w' => e = .returned (.string ⟨(Lib.itoa n).toArray⟩) ∧ ∃ k os, w' = Go.Sort.grow (w.drewN k) os := Any.strconv_Itoa Tryd.laysM171 n h0 h1 w (tab_of hS.glob)
  refine Calls.mono hc ?_
  rintro e w' ⟨rfl, k, os, rfl⟩
  have hb : ∀ i, i < w.heap.size → (Go.Sort.grow (w.drewN k) os).heap[i]? = w.heap[i]? := fun i hi => Go.Sort.heap_grow_old (w.drewN k) os hi
  have hsz : w.heap.size ≤ (Go.Sort.grow (w.drewN k) os).heap.size := by simp [Go.Sort.grow, World.drewN]
  refine ⟨_, μ, Pr, rfl, ⟨hS.mu, fun id b c hb1 hc1 => ?_, hS.nodup, fun b hm => ⟨Nat.lt_of_lt_of_le (hS.lt b hm).1 hsz, (hS.lt b hm).2⟩, fun b hm => Nat.lt_of_lt_of_le (hS.pr b hm) hsz, hS.glob.mono (fun _ h => h) (fun b hm => hb b (hS.pr b hm))⟩, str_rel _, ⟨rfl, rfl, rfl, hsz, fun i hi _ => hb i hi, fun i hi => .inl hi, fun _ h => h, fun _ h => .inl h⟩, Keep.refl _⟩
  · cases hb1
theorem nodup_ne {b : Nat} {μ : List CB} (h : (owns (.box b :: μ)).Nodup) {id : Nat} {c : CB} (hc : μ[id]? = some c) : ∀ k ∈ c.own, k ≠ b := by
  intro k hk e
  subst e
  have : owns (.box k :: μ) = k :: owns μ := rfl
  rw [this, List.nodup_cons] at h
  exact h.1 (List.mem_flatMap.2 ⟨c, List.mem_of_getElem? hc, hk⟩)
/-- A builder's address, at a box. -/
theorem box_head {bl : List B} {ty : Option Nat} {cs : List V} {w : World} {μ : List CB} {Pr : Nat → Prop} (hS : SRel Tryd.prog (.bx ty cs :: bl) w μ Pr) :
    ∃ b μ' c e, μ = .box b :: μ' ∧ w.heap[b]? = some (.cells c e (0, 0)) ∧ (∀ t, ty = some t → e = t) ∧ All2 (fun v u => VRel1 Tryd.prog w Pr (view (.bx ty cs :: bl) μ) v u ∧ u.oneCell' = true) cs c.toList := by
  cases μ with
  | nil => have := hS.mu; simp at this
  | cons c0 μ' =>
    have hB := hS.blks 0 _ c0 rfl rfl
    cases c0 with
    | box b => obtain ⟨c, e, h1, h2, h3⟩ := hB; exact ⟨b, μ', c, e, rfl, h1, h2, h3⟩
    | _ => exact hB.elim
theorem ptr0 {bl : List B} {ty : Option Nat} {cs : List V} {w : World} {b : Nat} {μ' : List CB} {Pr : Nat → Prop} {v : Value} (h : VRel1 Tryd.prog w Pr (view (.bx ty cs :: bl) (.box b :: μ')) (.ptr 0 0) v) : v = .pointer (some ⟨b, 0, none⟩) := by
  obtain ⟨b', h1, h2⟩ := h
  have : view (.bx ty cs :: bl) (.box b :: μ') 0 = some (.box b) := rfl
  rw [this] at h1
  cases h1
  exact h2
/-- copyCheck of a builder that has been written. -/
theorem check_used (ty : Option Nat) (cs : List V) (bl : List B) : ICall Tryd.prog 31 [.ptr 0 0] (.bx ty (.ptr 0 0 :: cs) :: bl) (.tup []) (.bx ty (.ptr 0 0 :: cs) :: bl) := by
  intro w Pr μ vs hS hv
  obtain ⟨v, rfl, hw⟩ := one_arg hv
  obtain ⟨b, μ', c, e, rfl, h1, h2, h3⟩ := box_head hS
  obtain rfl := ptr0 (w := w) (Pr := Pr) (show VRel1 _ _ _ _ _ _ from hw)
  have hcell : w.cell? ⟨b, 0, none⟩ = some (.pointer (some ⟨b, 0, none⟩)) := by
    have hc0 : c.toList = c.toList := rfl
    cases hc : c.toList with
    | nil => rw [hc] at h3; exact h3.elim
    | cons u us =>
      rw [hc] at h3
      have hu := ptr0 h3.1.1
      rw [Lib.cell_of_heap h1]
      have : c[0]? = some u := by rw [← Array.getElem?_toList, hc]; rfl
      rw [this, hu]
  have hC : Calls Tryd.prog 31 #[.pointer (some ⟨b, 0, none⟩)] w fun e w' => e = .returned (.tuple #[]) ∧ w' = w := Any.Builder_copyCheck_used Tryd.lays240 Tryd.X72 b w hcell
  refine Calls.mono hC ?_
  rintro e w' ⟨rfl, rfl⟩
  refine ⟨_, _, Pr, rfl, ?_, ⟨[], rfl, trivial⟩, .refl _ _ _, Keep.refl _⟩
  show SRel Tryd.prog ((.bx ty (.ptr 0 0 :: cs) :: bl) ++ []) w' _ Pr
  rw [List.append_nil]; exact hS
/-- copyCheck of a builder that has not: it holds its address behind it. -/
theorem check_fresh (x : V) (bl : List B) : ICall Tryd.prog 31 [.ptr 0 0] (.bx (some 54) [.nilp, x] :: bl) (.tup []) (.bx (some 54) [.ptr 0 0, x] :: bl) := by
  intro w Pr μ vs hS hv
  obtain ⟨v, rfl, hw⟩ := one_arg hv
  obtain ⟨b, μ', c, e, rfl, h1, h2, h3⟩ := box_head hS
  obtain rfl := ptr0 (w := w) (Pr := Pr) (show VRel1 _ _ _ _ _ _ from hw)
  obtain rfl := h2 _ rfl
  obtain ⟨u0, u1, hc⟩ : ∃ u0 u1, c.toList = [u0, u1] := by
    cases hc : c.toList with
    | nil => rw [hc] at h3; exact h3.elim
    | cons u us =>
      rw [hc] at h3
      cases us with
      | nil => exact h3.2.elim
      | cons u' us => cases us with
        | nil => exact ⟨u, u', rfl⟩
        | cons _ _ => exact h3.2.2.elim
  rw [hc] at h3
  obtain ⟨⟨g0, -⟩, ⟨g1, o1⟩, -⟩ := h3
  have g0 : u0 = .pointer none := g0
  subst g0
  have hca : c = #[.pointer none, u1] := by rw [← Array.toArray_toList (xs := c), hc]
  subst hca
  have hcell : w.cell? ⟨b, 0, none⟩ = some (.pointer none) := by rw [Lib.cell_of_heap h1]; rfl
  have hsh : w.shape? b = some (54, 2) := by simp [World.shape?, h1]
  have hfz : w.frozen? ⟨b, 0, none⟩ = false := Lib.frozen_of_heap h1 0
  have hC : Calls Tryd.prog 31 #[.pointer (some ⟨b, 0, none⟩)] w fun e w' => e = .returned (.tuple #[]) ∧ w' = w.setCell ⟨b, 0, none⟩ (.pointer (some ⟨b, 0, none⟩)) := Any.Builder_copyCheck_fresh Tryd.lays240 Tryd.X72 b w hcell hsh hfz
  refine Calls.mono hC ?_
  rintro e w' ⟨rfl, rfl⟩
  have hsz : (w.setCell ⟨b, 0, none⟩ (.pointer (some ⟨b, 0, none⟩))).heap.size = w.heap.size := by simp [World.setCell]
  have ho : ∀ k, k ≠ b → (w.setCell ⟨b, 0, none⟩ (.pointer (some ⟨b, 0, none⟩))).heap[k]? = w.heap[k]? := fun k hk => by
    simp only [World.setCell, Array.getElem?_modify]
    rw [if_neg (fun e => hk e.symm)]
  have hm : (w.setCell ⟨b, 0, none⟩ (.pointer (some ⟨b, 0, none⟩))).heap[b]? = some (.cells #[.pointer (some ⟨b, 0, none⟩), u1] 54 (0, 0)) := by
    simp only [World.setCell, Array.getElem?_modify, if_pos rfl, h1]
    rfl
  have hbo : b ∈ owns (.box b :: μ') := List.mem_flatMap.2 ⟨.box b, by simp, by simp [CB.own]⟩
  have hpw : ∀ k, Pr k → (w.setCell ⟨b, 0, none⟩ (.pointer (some ⟨b, 0, none⟩))).heap[k]? = w.heap[k]? := fun k hk => ho k fun e => (hS.lt b hbo).2 (e ▸ hk)
  have hv1 : ∀ id, view (.bx (some 54) [.ptr 0 0, x] :: bl) (.box b :: μ') id = view (.bx (some 54) [.nilp, x] :: bl) (.box b :: μ') id := fun id => by cases id <;> rfl
  refine ⟨_, .box b :: μ', Pr, rfl, ?_, ⟨[], rfl, trivial⟩, ⟨rfl, rfl, rfl, by rw [hsz]; exact Nat.le_refl _, fun k _ hk => ho k fun e => hk (e ▸ hbo), fun k hk => .inl hk, fun _ h => h, fun _ h => .inl h⟩, Keep.refl _⟩
  show SRel Tryd.prog ((.bx (some 54) [.ptr 0 0, x] :: bl) ++ []) _ _ Pr
  rw [List.append_nil]
  refine ⟨hS.mu, fun id b' c hb hc => ?_, hS.nodup, fun k hk => ⟨by rw [hsz]; exact (hS.lt k hk).1, (hS.lt k hk).2⟩, fun k hk => by rw [hsz]; exact hS.pr k hk, hS.glob.mono (fun _ h => h) hpw⟩
  cases id with
  | zero =>
    cases hb; cases hc
    exact ⟨_, _, hm, fun t ht => by cases ht; rfl, ⟨⟨b, rfl, rfl⟩, rfl⟩, ⟨g1.mono Tryd.prog (fun _ h => h) hpw (fun i hi hne => hv1 i), o1⟩, trivial⟩
  | succ id =>
    exact (hS.blks (id + 1) b' c hb hc).mono Tryd.prog (fun _ h => h) hpw (fun k hk => ho k (nodup_ne hS.nodup (show μ'[id]? = some c from hc) k hk)) (fun i hi hne => hv1 i)
/-- A builder that holds some bytes. -/
def SB (l : List UInt8) : List B := [.bx (some 54) [.ptr 0 0, .arr 1], .lst 5 (l.map u8)]
/-- One that has not been written. -/
def SN : List B := [.bx (some 54) [.nilp, .emp true]]
/-- What a call of WriteString returns. -/
def wrote (s : List UInt8) : V := .tup [.d (I s.length), .d .inil]
theorem szU8 (s : List UInt8) : ∀ y ∈ s.map u8, y.cells.length = (fun x : TypeInfo => x.size) (Tryd.prog.types[5]) := by
  intro y hy
  obtain ⟨b, _, rfl⟩ := List.mem_map.1 hy
  rfl
theorem ws1 (s : List UInt8) : callX Tryd.prog wr false O 15 [.ptr 0 0, .d (.str s)] SN [It.icall [0] (V.tup []) [B.bx (some 54) [V.ptr 0 0, V.emp true]], It.own, It.raw]
  = some (wrote s, SB s, [ICall Tryd.prog 31 [V.ptr 0 0] SN (V.tup []) [B.bx (some 54) [V.ptr 0 0, V.emp true]],
      ∀ y ∈ s.map u8, y.cells.length = (fun x : TypeInfo => x.size) (Tryd.prog.types[5]), (s.map u8).length ≤ maxItems]) := by kernel_rfl
theorem ws2 (s l : List UInt8) : callX Tryd.prog wr false O 15 [.ptr 0 0, .d (.str s)] (SB l) [It.icall [0, 1] (V.tup []) (SB l), It.own, It.raw]
  = some (wrote s, [.bx (some 54) [.ptr 0 0, .arr 1], .lst 5 (l.map u8 ++ s.map u8)], [ICall Tryd.prog 31 [V.ptr 0 0] (SB l) (V.tup []) (SB l),
      ∀ y ∈ s.map u8, y.cells.length = (fun x : TypeInfo => x.size) (Tryd.prog.types[5]), (l.map u8).length + (s.map u8).length ≤ maxItems]) := by kernel_rfl
theorem write1 (s : List UInt8) (h : s.length ≤ 1000000000) : ICall Tryd.prog 15 [.ptr 0 0, .d (.str s)] SN (wrote s) (SB s) :=
  callX_ok hO hm (ws1 s) ⟨check_fresh _ [], szU8 s, Nat.le_trans (by rw [List.length_map]; exact h) (by decide)⟩
theorem write (s l : List UInt8) (h : l.length + s.length ≤ 1000000000) : ICall Tryd.prog 15 [.ptr 0 0, .d (.str s)] (SB l) (wrote s) (SB (l ++ s)) := by
  have := callX_ok hO hm (ws2 s l) ⟨check_used _ _ _, szU8 s, Nat.le_trans (by rw [List.length_map, List.length_map]; exact h) (by decide)⟩
  unfold SB
  rw [List.map_append]
  exact this
/-- String's code, to the world behind it: over any program and any numbering that bear its body. -/
theorem string_run {P : Program} {ρ : Ren} (L : Lays.n169 P ρ) (X : Builder.Extra P ρ) (b g cap : Nat) (p : Value) (cur : Array Value) (l : List UInt8) (w : World) (h0 : l ≠ [])
    (hbk : w.heap[b]? = some (.cells #[p, .slice (some ⟨g, 0, none⟩) l.length cap] (ρ.t 72) (0, 0))) (hg : w.heap[g]? = some (.cells cur (ρ.t 5) (0, 0))) (hnc : l.length ≤ cap) (hcm : cap ≤ maxLen) (hcs : cur.size = cap * 1)
    (hcell : ∀ (j : Nat) (x : UInt8), l[j]? = some x → cur[j]? = some (Value.int .u8 ((x.toNat : Nat) : Int))) :
    Calls P (ρ.f 169) #[.pointer (some ⟨b, 0, none⟩)] w fun e w' => e = .returned (.string ⟨l.toArray⟩) ∧ w' = w.drew.freeze ⟨g, 0, none⟩ l.length := by
  have hl0 : l.length ≠ 0 := by simpa using h0
  have c1 : w.drew.cell? ⟨b, 1, none⟩ = some (.slice (some ⟨g, 0, none⟩) l.length cap) := by
    have : w.drew.heap[b]? = some (.cells #[p, .slice (some ⟨g, 0, none⟩) l.length cap] (ρ.t 72) (0, 0)) := hbk
    rw [Lib.cell_of_heap this]; rfl
  have hSD : (Builtin.unsafeSliceData_ #[(ρ.t 37)] (ρ.t 127) #[.slice (some ⟨g, 0, none⟩) l.length cap]).run P w.drew = .ok (.pointer (some ⟨g, 0, none⟩)) w.drew :=
    Lib.run_unsafeSliceData_row _ _ _ _ _ _ (by omega)
  have hUS : (Builtin.unsafeString_ #[(ρ.t 127), (ρ.t 3)] (ρ.t 9) #[.pointer (some ⟨g, 0, none⟩), .int .i64 l.length]).run P w.drew = .ok (.string ⟨l.toArray⟩) (w.drew.freeze ⟨g, 0, none⟩ l.length) := by
    refine Lib.run_unsafeString_row w.drew (ρ.t 127) (ρ.t 3) (ρ.t 9) (ρ.t 5) L.t127 X.cellsByte g cur.size (by have hg' : w.drew.heap[g]? = some (.cells cur (ρ.t 5) (0, 0)) := hg; simp [World.shape?, hg']) l h0 (by omega) (by unfold maxLen at hcm; omega) ?_
    intro j x hx
    have hg' : w.drew.heap[g]? = some (.cells cur (ρ.t 5) (0, 0)) := hg
    rw [show (⟨g, 0, none⟩ : Addr).add j = ⟨g, j, none⟩ by simp [Addr.add]; intro h; exact h.symm, Lib.cell_of_heap hg']
    exact hcell j x hx
  have mixed := L.mixed
  have t72 := L.t72; have a72 := L.a72; have z72 := L.z72; have v72 := L.v72; have u72 := run_underlying L.t72
  have t70 := L.t70; have a70 := L.a70; have z70 := L.z70; have v70 := L.v70; have u70 := run_underlying L.t70
  have t37 := L.t37; have a37 := L.a37; have z37 := L.z37; have v37 := L.v37; have u37 := run_underlying L.t37
  have t127 := L.t127; have a127 := L.a127; have z127 := L.z127; have v127 := L.v127; have u127 := run_underlying L.t127
  have t3 := L.t3; have a3 := L.a3; have z3 := L.z3; have v3 := L.v3; have u3 := run_underlying L.t3
  have t9 := L.t9; have a9 := L.a9; have z9 := L.z9; have v9 := L.v9; have u9 := run_underlying L.t9
  have t5 := X.t5; have a5 := X.a5; have z5 := X.z5; have v5 := X.v5; have u5 := run_underlying X.t5
  go_enter L.f169, Body.n169_ntmps ρ
  go_wp2
  go_region_o
  all_goals (go_wp2; go_ret; exact ⟨rfl, rfl⟩)
/-- String of a builder that holds some bytes: they are read out; the builder is not used again. -/
theorem string_ok (l : List UInt8) (h0 : l ≠ []) : ICall Tryd.prog 18 [.ptr 0 0] (SB l) (.d (.str l)) [.bx (some 54) [.ptr 0 0, .undef], .dead] := by
  intro w Pr μ vs hS hv
  obtain ⟨v, rfl, hw⟩ := one_arg hv
  obtain ⟨b, μ', c, e, rfl, h1, h2, h3⟩ := box_head hS
  obtain rfl := ptr0 (w := w) (Pr := Pr) (show VRel1 _ _ _ _ _ _ from hw)
  obtain rfl := h2 _ rfl
  obtain ⟨u0, u1, hc⟩ : ∃ u0 u1, c.toList = [u0, u1] := by
    cases hc : c.toList with
    | nil => rw [hc] at h3; exact h3.elim
    | cons u us =>
      rw [hc] at h3
      cases us with
      | nil => exact h3.2.elim
      | cons u' us => cases us with
        | nil => exact ⟨u, u', rfl⟩
        | cons _ _ => exact h3.2.2.elim
  rw [hc] at h3
  obtain ⟨⟨g0, o0⟩, ⟨g1, o1⟩, -⟩ := h3
  obtain rfl := ptr0 g0
  have hca : c = #[.pointer (some ⟨b, 0, none⟩), u1] := by rw [← Array.toArray_toList (xs := c), hc]
  subst hca
  obtain ⟨h, rfl⟩ : ∃ h, μ' = [.lst h] := by
    have hm := hS.mu
    cases μ' with
    | nil => simp [SB] at hm
    | cons c1 μ2 =>
      cases μ2 with
      | cons _ _ => simp [SB] at hm
      | nil =>
        have hB := hS.blks 1 _ c1 rfl rfl
        cases c1 with
        | lst h => exact ⟨h, rfl⟩
        | _ => exact hB.elim
  obtain ⟨wd, cs, k1, k2, k3⟩ := hS.blks 1 _ (.lst h) rfl rfl
  have hwd : wd = 1 := by
    have : szOf Tryd.prog 5 = some 1 := by kernel_rfl
    rw [this] at k1; exact (Option.some.inj k1).symm
  subst hwd
  have hl0 : l.length ≠ 0 := by simpa using h0
  rw [List.length_map] at k2
  -- the list's header
  have hu1 : u1 = hdr h l.length := by
    rcases g1 with ⟨e', n', h', q1, q2⟩ | ⟨s, lens, b', cap, inner, q1, q2⟩
    · have q3 : some (VW.lst 5 (l.map u8).length h) = some (.lst e' n' h') := q1
      cases q3
      rw [q2, List.length_map]
    · have q3 : some (VW.lst 5 (l.map u8).length h) = some (.lst2 s lens b' cap inner) := q1
      cases q3
  subst hu1
  cases h with
  | zero a => exact (hl0 k2.1).elim
  | row g cap =>
  obtain ⟨hlen, k4⟩ := k2
  rcases k4 with ⟨hv0, _⟩ | ⟨g', cap', cur, hv0, _, hg, k5, k6, k7, k8⟩
  · cases hv0
  · simp only [Value.slice.injEq, Option.some.injEq, Addr.mk.injEq] at hv0
    obtain ⟨⟨rfl, -⟩, -, rfl⟩ := hv0
    have hcell : ∀ (j : Nat) (x : UInt8), l[j]? = some x → cur[j]? = some (Value.int .u8 ((x.toNat : Nat) : Int)) := by
      intro j x hx
      have hx' : (l.map u8)[j]? = some (u8 x) := by rw [List.getElem?_map, hx]; rfl
      obtain ⟨u, q1, q2⟩ := (k3.2 j (u8 x) hx').2 0 (u8 x) rfl
      have : u = Value.int .u8 ((x.toNat : Nat) : Int) := drel_int q2
      subst this
      rw [← k8, Nat.mul_one, Nat.mul_one, Nat.add_zero] at q1
      have hj : j < l.length := (List.getElem?_eq_some_iff.1 hx).1
      rw [List.getElem?_take_of_lt hj] at q1
      rw [← Array.getElem?_toList]; exact q1
    have hne : g ≠ b := by
      have hn := hS.nodup
      have : owns [.box b, .lst (.row g cap)] = [b, g] := rfl
      rw [this] at hn
      intro e; subst e; simp at hn
    have hC : Calls Tryd.prog 18 #[.pointer (some ⟨b, 0, none⟩)] w fun e w' => e = .returned (.string ⟨l.toArray⟩) ∧ w' = w.drew.freeze ⟨g, 0, none⟩ l.length :=
      string_run Tryd.lays169 Tryd.Extra b g cap _ cur l w h0 h1 hg k5 k6 k7 hcell
    refine Calls.mono hC ?_
    rintro e w' ⟨rfl, rfl⟩
    have hw' : w.drew.freeze ⟨g, 0, none⟩ l.length = { w.drew with heap := w.heap.modify g fun | .cells c elem (lo, hi) => .cells c elem (if lo == hi then (0, 0 + l.length) else (min lo 0, max hi (0 + l.length))) | o => o } := by
      unfold World.freeze
      rw [if_neg hl0]; rfl
    have hsz : (w.drew.freeze ⟨g, 0, none⟩ l.length).heap.size = w.heap.size := by rw [hw']; simp
    have ho : ∀ k, k ≠ g → (w.drew.freeze ⟨g, 0, none⟩ l.length).heap[k]? = w.heap[k]? := fun k hk => by
      rw [hw']
      simp only [Array.getElem?_modify]
      rw [if_neg (fun e => hk e.symm)]
    have hgo : g ∈ owns [.box b, .lst (.row g cap)] := by simp [owns, CB.own, H.own]
    have hbo : b ∈ owns [.box b, .lst (.row g cap)] := by simp [owns, CB.own, H.own]
    have hpw : ∀ k, Pr k → (w.drew.freeze ⟨g, 0, none⟩ l.length).heap[k]? = w.heap[k]? := fun k hk => ho k fun e => (hS.lt g hgo).2 (e ▸ hk)
    have hown : owns [.box b, .dead] = [b] := rfl
    refine ⟨_, [.box b, .dead], Pr, rfl, ?_, str_rel _, ⟨?_, ?_, ?_, by rw [hsz]; exact Nat.le_refl _, fun k _ hk => ho k fun e => hk (e ▸ hgo), fun k hk => .inl ?_, fun _ h => h, fun _ h => .inl h⟩, ?_⟩
    · refine ⟨rfl, fun id b' c hb hc => ?_, by rw [hown]; simp, fun k hk => ?_, fun k hk => by rw [hsz]; exact hS.pr k hk, hS.glob.mono (fun _ h => h) hpw⟩
      · match id, hb, hc with
        | 0, hb, hc =>
          cases hb; cases hc
          exact ⟨#[.pointer (some ⟨b, 0, none⟩), hdr (.row g cap) l.length], 54, by rw [ho b (fun e => hne e.symm)]; exact h1, fun t ht => by cases ht; rfl, ⟨⟨b, rfl, rfl⟩, rfl⟩, ⟨trivial, o1⟩, trivial⟩
        | 1, hb, hc => cases hb; cases hc; trivial
        | id + 2, hb, hc => cases hc
      · rw [hown] at hk
        rw [List.mem_singleton.1 hk, hsz]
        exact hS.lt b hbo
    · rw [hw']; rfl
    · rw [hw']; rfl
    · rw [hw']; rfl
    · rw [hown] at hk
      rw [List.mem_singleton.1 hk]; exact hbo
    · intro i q hi
      match i, hi with
      | 0, hi => exact hi
      | 1, hi => cases hi
      | i + 2, hi => cases hi
end Go.Proofs.YtbamhlgkoimjoaaDoor.Sy.Str
/- Arguments that come in, as plain data. -/
namespace Go.Proofs.YtbamhlgkoimjoaaDoor.Ab
open Go Go.ChangeShapes Go.WideShapes Go.RowKit
set_option linter.unusedVariables false

theorem addr_add (a : Addr) (m n : Nat) : (a.add m).add n = a.add (m + n) := by
  by_cases h1 : m = 0
  · subst h1; simp [Addr.add]
  · by_cases h2 : n = 0
    · subst h2; simp [Addr.add]
    · simp [Addr.add, h1, h2, Nat.add_assoc]
/-- All blocks that stand. -/
abbrev Old (w : World) : Nat → Prop := fun b => b < w.heap.size
/-- Cells that read as data. -/
def Cs (w : World) (ds : List D) (cs : List Value) : Prop := All2 (fun d u => DRel w (Old w) d u ∧ u.oneCell' = true) ds cs

/-- What is read at type t, in so many cells. -/
structure OpA (P : Program) {α : Type} (t : TypeId) (sz : Nat) (f : α → List D) (ok : α → Prop) : Prop where
  out : ∀ {H : Type} {enc : TypeId × Value → H} {w : World} {base : Nat} {held : Bool} {n : Nat} {cs : List Value} {x : DataW H × List MemPlace},
    DataW.trod enc P w base (fun _ => true) held n t cs = some x → ∃ a, ok a ∧ (f a).length = sz ∧ Cs w (f a) cs

theorem opA_int {P : Program} {t : TypeId} {k : IntKind} (ht : P.underlying t = some (.int k)) : OpA P t 1 (fun n : Int => [.int k n]) (fun n => (Lit.int k n).wf = true) := by
  constructor
  intro H enc w base held n cs x h
  cases n with
  | zero => simp [DataW.trod] at h
  | succ n =>
    unfold DataW.trod at h
    rw [ht] at h
    split at h <;> simp_all
    obtain ⟨⟨rfl, hw⟩, _⟩ := h
    exact ⟨_, hw, ⟨.int _ _, rfl⟩, trivial⟩
theorem opA_bool {P : Program} {t : TypeId} (ht : P.underlying t = some .bool) : OpA P t 1 (fun b : Bool => [.bool b]) (fun _ => True) := by
  constructor
  intro H enc w base held n cs x h
  cases n with
  | zero => simp [DataW.trod] at h
  | succ n =>
    unfold DataW.trod at h
    rw [ht] at h
    split at h <;> first | (cases h; done) | exact ⟨_, trivial, rfl, ⟨.bool _, rfl⟩, trivial⟩ | simp_all
theorem opA_string {P : Program} {t : TypeId} (ht : P.underlying t = some .string) : OpA P t 1 (fun s : ByteArray => [.str s.data.toList]) (fun s => s.size ≤ maxLen) := by
  constructor
  intro H enc w base held n cs x h
  cases n with
  | zero => simp [DataW.trod] at h
  | succ n =>
    unfold DataW.trod at h
    rw [ht] at h
    split at h <;> simp_all
    exact ⟨_, h.1, ⟨.str _, rfl⟩, trivial⟩

theorem opA_slice {P : Program} {α : Type} {t e : TypeId} {sz : Nat} {f : α → List D} {ok : α → Prop} (ht : P.underlying t = some (.slice e)) (he : P.cellsOf e = sz) (hz : 0 < sz) (ho : OpA P e sz f ok) (g : α → D) (hg : ∀ a, (f a).length = sz → (g a).cells = f a) :
    OpA P t 1 (fun l : List α => [.sl (l.map g)]) (fun l => l.length ≤ maxLen ∧ ∀ x ∈ l, ok x) := by
  constructor
  intro H enc w base held n cs x h
  rcases Go.Deep.open_slice ht h with ⟨rfl, _⟩ | ⟨a, len, cap, m, n', D', Pl, rfl, hb, hl, hm, hmm, _, hx⟩
  · exact ⟨[], ⟨by simp, by simp⟩, rfl, ⟨.sl0 _ _, rfl⟩, trivial⟩
  · have hlm : len ≤ m := by rw [hmm]; simp; exact hl
    have hL : len ≤ maxLen := Nat.le_trans hl hm
    have each : ∀ i, i < len → ∃ y, ok y ∧ (f y).length = sz ∧ ∀ j d, (f y)[j]? = some d → ∃ u, w.cell? (a.add (i * sz + j)) = some u ∧ u.oneCell' = true ∧ DRel w (Old w) d u := by
      intro i hi
      obtain ⟨cs', h1, h2⟩ := hx i (by omega)
      obtain ⟨y, hy, hfl, hC⟩ := ho.out h2
      obtain ⟨_, hlen, hcell⟩ := World.cells?_some h1
      rw [he] at hlen hcell
      refine ⟨y, hy, hfl, fun j d hj => ?_⟩
      have hjl : j < sz := by rw [← hfl]; exact (List.getElem?_eq_some_iff.1 hj).1
      obtain ⟨u, hu, hr, h1'⟩ := All2.get hC j d hj
      refine ⟨u, ?_, h1', hr⟩
      rw [← addr_add, hcell j hjl, hu]
    clear hx
    have build : ∀ k, k ≤ len → ∃ ys : List α, ys.length = k ∧ (∀ y ∈ ys, ok y ∧ (f y).length = sz) ∧ ∀ i p, ys[i]? = some p → ∀ j d, (f p)[j]? = some d → ∃ u, w.cell? (a.add (i * sz + j)) = some u ∧ u.oneCell' = true ∧ DRel w (Old w) d u := by
      intro k
      induction k with
      | zero => intro _; exact ⟨[], rfl, by simp, by simp⟩
      | succ k ih =>
        intro hk
        obtain ⟨ys, h1, h2, h3⟩ := ih (by omega)
        obtain ⟨y, hy, hfl, hc⟩ := each k (by omega)
        refine ⟨ys ++ [y], by simp [h1], ?_, ?_⟩
        · intro z hz
          rcases List.mem_append.mp hz with hz | hz
          · exact h2 z hz
          · rw [List.mem_singleton.1 hz]; exact ⟨hy, hfl⟩
        · intro j p hj
          by_cases hjk : j < k
          · rw [List.getElem?_append_left (by omega)] at hj
            exact h3 j p hj
          · have hjl : j < (ys ++ [y]).length := (List.getElem?_eq_some_iff.1 hj).1
            have : j = k := by simp at hjl; omega
            subst this
            rw [List.getElem?_append_right (by omega), h1, Nat.sub_self] at hj
            simp at hj
            subst hj
            exact hc
    obtain ⟨ys, h1, h2, h3⟩ := build len (Nat.le_refl _)
    refine ⟨ys, ⟨by rw [h1]; exact hL, fun y hy => (h2 y hy).1⟩, rfl, ⟨?_, rfl⟩, trivial⟩
    by_cases hw : ys = []
    · subst hw; simp at h1; subst h1; exact .sl0 _ _
    · have hpos : 0 < sz := hz
      obtain ⟨y0, yt, hy0⟩ : ∃ y0 yt, ys = y0 :: yt := by cases ys with
        | nil => exact (hw rfl).elim
        | cons y t => exact ⟨y, t, rfl⟩
      have hf0 := (h2 y0 (by rw [hy0]; simp)).2
      obtain ⟨d0, hd0⟩ : ∃ d0, (f y0)[0]? = some d0 := ⟨_, List.getElem?_eq_getElem (by omega)⟩
      obtain ⟨u0, hu0, _⟩ := h3 0 y0 (by rw [hy0]; rfl) 0 d0 hd0
      obtain ⟨hbs, hsp⟩ : a.block < w.heap.size ∧ a.spot = none := by
        unfold World.cell? at hu0
        split at hu0
        · rename_i c _ _ hc
          split at hu0
          · cases hu0
          · rename_i hs
            refine ⟨by simpa [Addr.add] using (Array.getElem?_eq_some_iff.1 hc).1, ?_⟩
            have : a.spot.isSome = false := Bool.eq_false_iff.2 (by simpa [Addr.add] using hs)
            simpa using this
        · cases hu0
      obtain ⟨b, o, sp⟩ := a
      simp only at hsp hbs
      subst hsp
      have hlen : (ys.map g).length = len := by rw [List.length_map, h1]
      have hR : Reads w (Old w) sz (ys.map g) b o := by
        refine ⟨fun i x hx => ?_, fun i x j y hx hy => ?_⟩
        · rw [List.getElem?_map, Option.map_eq_some_iff] at hx
          obtain ⟨p, hp, rfl⟩ := hx
          have hf := (h2 p (List.mem_of_getElem? hp)).2
          rw [hg p hf, hf]
        · rw [List.getElem?_map, Option.map_eq_some_iff] at hx
          obtain ⟨p, hp, rfl⟩ := hx
          have hf := (h2 p (List.mem_of_getElem? hp)).2
          rw [hg p hf] at hy
          obtain ⟨u, g1, g2, g3⟩ := h3 i p hp j y hy
          have ea : (⟨b, o, none⟩ : Addr).add (i * sz + j) = ⟨b, o + i * sz + j, none⟩ := by simp [Addr.add, Nat.add_assoc]
          exact ⟨u, ea ▸ g1, g2, g3⟩
      have := drel_of_reads (Pr' := Old w) (cap := cap) (show Old w b from hbs) (by rw [hlen]; exact hl) hR
      rwa [hlen] at this

/-- The fields from one on, in line. -/
structure OpF (P : Program) {α : Type} (fs : List Field) (off sz : Nat) (f : α → List D) (ok : α → Prop) : Prop where
  out : ∀ {H : Type} {enc : TypeId × Value → H} {w : World} {base : Nat} {held : Bool} {n : Nat} {cs : List Value}, cs.length = off + sz →
    (∀ (j : Nat) (f : Field), fs[j]? = some f → ∃ y, DataW.trod enc P w base (fun _ => true) held n f.type ((cs.drop f.offset).take (P.cellsOf f.type)) = some y) → ∃ a, ok a ∧ (f a).length = sz ∧ Cs w (f a) (cs.drop off)

theorem opF_one {P : Program} {α : Type} {fd : Field} {off sz : Nat} {f : α → List D} {ok : α → Prop} (ho : fd.offset = off) (hc : P.cellsOf fd.type = sz) (h : OpA P fd.type sz f ok) : OpF P [fd] off sz f ok := by
  constructor
  intro H enc w base held n cs hl hf
  obtain ⟨y, hy⟩ := hf 0 fd rfl
  obtain ⟨a, ha, hfl, hC⟩ := h.out hy
  rw [ho, hc, List.take_of_length_le (by rw [List.length_drop]; omega)] at hC
  exact ⟨a, ha, hfl, hC⟩

theorem opF_cons {P : Program} {α β : Type} {fd : Field} {fs : List Field} {off s1 s2 : Nat} {f : α → List D} {g : β → List D} {ok : α → Prop} {ok' : β → Prop} (ho : fd.offset = off) (hc : P.cellsOf fd.type = s1) (h : OpA P fd.type s1 f ok) (hr : OpF P fs (off + s1) s2 g ok') :
    OpF P (fd :: fs) off (s1 + s2) (fun x : α × β => f x.1 ++ g x.2) (fun x => ok x.1 ∧ ok' x.2) := by
  constructor
  intro H enc w base held n cs hl hf
  obtain ⟨y, hy⟩ := hf 0 fd rfl
  obtain ⟨a, ha, hfl, hC⟩ := h.out hy
  obtain ⟨b, hb, hgl, hC'⟩ := hr.out (by omega) (fun j g hg => hf (j + 1) g hg)
  rw [ho, hc] at hC
  refine ⟨(a, b), ⟨ha, hb⟩, by rw [List.length_append, hfl, hgl], ?_⟩
  have e : cs.drop off = (cs.drop off).take s1 ++ cs.drop (off + s1) := by rw [← List.drop_drop, List.take_append_drop]
  rw [e]
  exact All2.append hC hC'

theorem opA_struct {P : Program} {α σ : Type} {t : TypeId} {fs : Array Field} {sz : Nat} {f : α → List D} {ok : α → Prop} (ht : P.underlying t = some (.struct fs)) (hc : P.cellsOf t = sz) (h : OpF P fs.toList 0 sz f ok) (mk : α → σ) (g : σ → List D) (hg : ∀ a, g (mk a) = f a) (ok' : σ → Prop) (hok : ∀ a, ok a → ok' (mk a)) :
    OpA P t sz g ok' := by
  constructor
  intro H enc w base held n cs x hx
  obtain ⟨xs, m, rfl, _, hl, hxl, hfs⟩ := DataW.trod_struct ht hx
  obtain ⟨a, ha, hfl, hC⟩ := h.out (cs := cs) (by omega) (fun j g hg => by
    have hg' : fs[j]? = some g := by rw [← Array.getElem?_toList]; exact hg
    have h1 := hfs j g hg'
    have hj : j < xs.length := by rw [hxl]; exact (Array.getElem?_eq_some_iff.1 hg').1
    rw [List.getElem?_eq_getElem hj] at h1
    exact ⟨_, h1⟩)
  rw [List.drop_zero] at hC
  exact ⟨mk a, hok a ha, by rw [hg]; exact hfl, by rw [hg]; exact hC⟩

/-- Two in a row. -/
theorem opA_array2 {P : Program} {α : Type} {t e : TypeId} {f : α → List D} {ok : α → Prop} (ht : P.underlying t = some (.array 2 e)) (hc : P.cellsOf t = 2) (he : P.cellsOf e = 1) (h : OpA P e 1 f ok) : OpA P t 2 (fun p : α × α => f p.1 ++ f p.2) (fun p => ok p.1 ∧ ok p.2) := by
  constructor
  intro H enc w base held n cs x hx
  obtain ⟨xs, m, rfl, _, hl, hxl, hfs⟩ := DataW.trod_array ht hx
  have h0 := hfs 0 (by omega)
  have h1 := hfs 1 (by omega)
  rw [List.getElem?_eq_getElem (by omega)] at h0 h1
  rw [he] at h0 h1
  obtain ⟨a, ha, hal, hA⟩ := h.out h0
  obtain ⟨b, hb, hbl, hB⟩ := h.out h1
  refine ⟨(a, b), ⟨ha, hb⟩, by rw [List.length_append, hal, hbl], ?_⟩
  match cs, hl.trans hc with
  | [c0, c1], _ =>
    have hA' : Cs w (f a) [c0] := by simpa using hA
    have hB' : Cs w (f b) [c1] := by simpa using hB
    exact All2.append hA' hB'

/-- An argument that is a struct, or a slice. -/
theorem drel_struct {P : Program} {H : Type} {enc : TypeId × Value → H} {w : World} {α : Type} {t : TypeId} {fs : Array Field} {sz : Nat} {f : α → List D} {ok : α → Prop} {base : Nat} {held : Bool} {v : Value} {x : DataW H} {ps : List MemPlace} {r : Reach} {b0 : Nat}
    (ht : P.underlying t = some (.struct fs)) (ho : OpA P t sz f ok) (hv : Value.okWide P w r b0 t v) (h : DataW.Trod enc P w base (fun _ => true) held t v x ps) : ∃ a, ok a ∧ DRel w (Old w) (.agg (f a)) v := by
  obtain ⟨cs, rfl, _⟩ := okWide_struct ht hv
  obtain ⟨n, h⟩ := h
  obtain ⟨a, hok, _, hC⟩ := ho.out h
  have hC' : Cs w (f a) cs.toList := by simpa [Value.cells] using hC
  exact ⟨a, hok, drel_agg2 hC'⟩
theorem drel_slice {P : Program} {H : Type} {enc : TypeId × Value → H} {w : World} {α : Type} {t e : TypeId} {f : List α → D} {ok : List α → Prop} {base : Nat} {held : Bool} {v : Value} {x : DataW H} {ps : List MemPlace} {r : Reach} {b0 : Nat}
    (ht : P.underlying t = some (.slice e)) (ho : OpA P t 1 (fun l => [f l]) ok) (hv : Value.okWide P w r b0 t v) (h : DataW.Trod enc P w base (fun _ => true) held t v x ps) : ∃ a, ok a ∧ DRel w (Old w) (f a) v := by
  obtain ⟨a, len, cap, rfl⟩ := okWide_slice ht hv
  obtain ⟨n, h⟩ := h
  obtain ⟨l, hok, _, hC⟩ := ho.out h
  exact ⟨l, hok, hC.1.1⟩
end Go.Proofs.YtbamhlgkoimjoaaDoor.Ab
/- What the rows' proofs of this seat share: arguments opened, the table of powers read out of the row's condition. -/
namespace Go.Proofs.YtbamhlgkoimjoaaDoor.Lk
open Go.ChangeShapes Go.WideShapes Go.ChangeAt Go.RowKit Go.Proofs.YtbamhlgkoimjoaaDoor.Ab Go.Proofs.YtbamhlgkoimjoaaDoor.Sy
set_option linter.unusedVariables false
theorem own : ownKnob Tryd.prog.godebug = none := by kernel_rfl
theorem laidOut : laidOutB Tryd.prog = true := by kernel_rfl
abbrev okS (s : ByteArray) : Prop := s.size ≤ maxLen
abbrev okI (n : Int) : Prop := (Lit.int .i64 n).wf = true
abbrev okIs (l : List Int) : Prop := l.length ≤ maxLen ∧ ∀ x ∈ l, okI x
abbrev okD (d : Df) : Prop := okI d.lit ∧ okI d.a ∧ okI d.b
abbrev okDs (l : List Df) : Prop := l.length ≤ maxLen ∧ ∀ x ∈ l, okD x
abbrev okR (r : Rw) : Prop := okI r.most ∧ okIs r.ins ∧ okDs r.lats ∧ okDs r.ands ∧ okIs r.bads ∧ okIs r.cons
theorem opI : OpA Tryd.prog 3 1 (fun n : Int => [I n]) okI := opA_int Tryd.underlying3
theorem opIs : OpA Tryd.prog 25 1 (fun l : List Int => [L l]) okIs := opA_slice Tryd.underlying25 (by kernel_rfl) (by decide) opI I (fun _ _ => rfl)
theorem okI_le {n : Int} (h : okI n) : n ≤ 9223372036854775807 := by
  simp [okI, Lit.wf, IntKind.min, IntKind.max, IntKind.signed, IntKind.bits] at h
  omega
abbrev okL (l : Lt) : Prop := okI l.next ∧ okI l.reset
abbrev okLs (l : List Lt) : Prop := l.length ≤ maxLen ∧ ∀ x ∈ l, okL x
abbrev okA (g : An) : Prop := okI g.a ∧ okI g.b
abbrev okAs (l : List An) : Prop := l.length ≤ maxLen ∧ ∀ x ∈ l, okA x
abbrev okC (c : Ci) : Prop := okI c.ins ∧ okLs c.lats ∧ okAs c.ands ∧ okIs c.bads ∧ okIs c.cons
theorem opL : OpA Tryd.prog 23 2 (fun l : Lt => [I l.next, I l.reset]) okL := by
  refine opA_struct (f := (fun x : Int × Int => [I x.1] ++ ([I x.2]))) (ok := (fun x : Int × Int => okI x.1 ∧ okI x.2)) Tryd.underlying23 (by kernel_rfl) ?_ (fun x => (⟨x.1, x.2⟩ : Lt)) _ (fun _ => rfl) okL (fun _ h => h)
  show OpF _ [_, _] 0 _ _ _
  apply opF_cons (s1 := 1) (s2 := 1) (f := (fun x : Int => [I x])) (ok := (fun x : Int => okI x)) (g := (fun x : Int => [I x])) (ok' := (fun x : Int => okI x))
  · rfl
  · kernel_rfl
  · exact opI
  apply opF_one (f := (fun x : Int => [I x])) (ok := (fun x : Int => okI x))
  · rfl
  · kernel_rfl
  · exact opI
theorem opLs : OpA Tryd.prog 24 1 (fun l : List Lt => [.sl (l.map Lt.d)]) okLs := opA_slice Tryd.underlying24 (by kernel_rfl) (by decide) opL Lt.d (fun _ _ => rfl)
theorem opN : OpA Tryd.prog 86 2 (fun g : An => [I g.a, I g.b]) okA := by
  refine opA_struct (f := (fun x : Int × Int => [I x.1] ++ ([I x.2]))) (ok := (fun x : Int × Int => okI x.1 ∧ okI x.2)) Tryd.underlying86 (by kernel_rfl) ?_ (fun x => (⟨x.1, x.2⟩ : An)) _ (fun _ => rfl) okA (fun _ h => h)
  show OpF _ [_, _] 0 _ _ _
  apply opF_cons (s1 := 1) (s2 := 1) (f := (fun x : Int => [I x])) (ok := (fun x : Int => okI x)) (g := (fun x : Int => [I x])) (ok' := (fun x : Int => okI x))
  · rfl
  · kernel_rfl
  · exact opI
  apply opF_one (f := (fun x : Int => [I x])) (ok := (fun x : Int => okI x))
  · rfl
  · kernel_rfl
  · exact opI
theorem opNs : OpA Tryd.prog 26 1 (fun l : List An => [.sl (l.map An.d)]) okAs := opA_slice Tryd.underlying26 (by kernel_rfl) (by decide) opN An.d (fun _ _ => rfl)
theorem opC : OpA Tryd.prog 28 5 (fun c : Ci => [I c.ins, .sl (c.lats.map Lt.d), .sl (c.ands.map An.d), L c.bads, L c.cons]) okC := by
  refine opA_struct (f := (fun x : Int × (List Lt) × (List An) × (List Int) × (List Int) => [I x.1] ++ ([D.sl (x.2.1.map Lt.d)] ++ ([D.sl (x.2.2.1.map An.d)] ++ ([L x.2.2.2.1] ++ ([L x.2.2.2.2])))))) (ok := (fun x : Int × (List Lt) × (List An) × (List Int) × (List Int) => okI x.1 ∧ okLs x.2.1 ∧ okAs x.2.2.1 ∧ okIs x.2.2.2.1 ∧ okIs x.2.2.2.2)) Tryd.underlying28 (by kernel_rfl) ?_ (fun x => (⟨x.1, x.2.1, x.2.2.1, x.2.2.2.1, x.2.2.2.2⟩ : Ci)) _ (fun _ => rfl) okC (fun _ h => h)
  show OpF _ [_, _, _, _, _] 0 _ _ _
  apply opF_cons (s1 := 1) (s2 := 4) (f := (fun x : Int => [I x])) (ok := (fun x : Int => okI x)) (g := (fun x : (List Lt) × (List An) × (List Int) × (List Int) => [D.sl (x.1.map Lt.d)] ++ ([D.sl (x.2.1.map An.d)] ++ ([L x.2.2.1] ++ ([L x.2.2.2]))))) (ok' := (fun x : (List Lt) × (List An) × (List Int) × (List Int) => okLs x.1 ∧ okAs x.2.1 ∧ okIs x.2.2.1 ∧ okIs x.2.2.2))
  · rfl
  · kernel_rfl
  · exact opI
  apply opF_cons (s1 := 1) (s2 := 3) (f := (fun x : (List Lt) => [D.sl (x.map Lt.d)])) (ok := (fun x : (List Lt) => okLs x)) (g := (fun x : (List An) × (List Int) × (List Int) => [D.sl (x.1.map An.d)] ++ ([L x.2.1] ++ ([L x.2.2])))) (ok' := (fun x : (List An) × (List Int) × (List Int) => okAs x.1 ∧ okIs x.2.1 ∧ okIs x.2.2))
  · rfl
  · kernel_rfl
  · exact opLs
  apply opF_cons (s1 := 1) (s2 := 2) (f := (fun x : (List An) => [D.sl (x.map An.d)])) (ok := (fun x : (List An) => okAs x)) (g := (fun x : (List Int) × (List Int) => [L x.1] ++ ([L x.2]))) (ok' := (fun x : (List Int) × (List Int) => okIs x.1 ∧ okIs x.2))
  · rfl
  · kernel_rfl
  · exact opNs
  apply opF_cons (s1 := 1) (s2 := 1) (f := (fun x : (List Int) => [L x])) (ok := (fun x : (List Int) => okIs x)) (g := (fun x : (List Int) => [L x])) (ok' := (fun x : (List Int) => okIs x))
  · rfl
  · kernel_rfl
  · exact opIs
  apply opF_one (f := (fun x : (List Int) => [L x])) (ok := (fun x : (List Int) => okIs x))
  · rfl
  · kernel_rfl
  · exact opIs
theorem rowES (u : TypeId) (h : Tryd.prog.typeName? 3 u = some "*errors.errorString") : u = 131 := by
  have star : "*" ++ "errors.errorString" = "*errors.errorString" := by decide
  exact typeName_ptr_named (nm := "errors.errorString") (by rw [star]; kernel_rfl) (by kernel_rfl) (by decide) u (by rw [star]; exact h)
/-- The table of powers and strconv.ErrSyntax lie as the row's condition says. -/
theorem gok {W : World} (h : laidMetH Tryd.prog Rows.witnessNamesRow.laid W) : GOk W (Old W) := by
  rw [MakeChecks.laidMetH_plain _ _ _ (by kernel_rfl)] at h
  have hT : Lib.TabIs Tryd.prog W "internal/strconv.uint64pow10" .u64 pow10 :=
    Lib.tabIs_of_head (g := 2) (t := 125) (e := 108) (n := 20) (by kernel_rfl) (by kernel_rfl) Tryd.underlying125 Tryd.underlying108 (by kernel_rfl) (by kernel_rfl) h.tail.tail
  have hE : ∃ a, W.var? Tryd.prog "strconv.ErrSyntax" = some #[.iface 131 (.pointer (some a))] := by
    obtain ⟨a0, _, hv, _⟩ := laid_sentinel (g := 0) (ti := 56) (tp := 131) (te := 133) (ts := 9) h.tail.tail.tail.tail.tail (by kernel_rfl) (by kernel_rfl) Tryd.underlying56 rowES Tryd.underlying131 Tryd.underlying133 rfl rfl Tryd.underlying9 (by kernel_rfl) (by kernel_rfl)
    exact ⟨a0, hv⟩
  have hgE : Tryd.prog.globalNamed "strconv.ErrSyntax" = some 0 := by kernel_rfl
  refine ⟨fun g x hx => ?_, fun p hp => ?_⟩
  · unfold globD at hx
    split at hx
    · next hg =>
      cases hx; subst hg
      obtain ⟨a, hv⟩ := hE
      have hc := World.var?_cell hgE hv 0
      unfold World.var? at hv
      rw [hgE, Option.bind_some] at hv
      cases hh : W.heap[0]? with
      | none => rw [hh] at hv; cases hv
      | some o =>
        refine ⟨(Array.getElem?_eq_some_iff.1 hh).1, fun j y hy => ?_⟩
        cases j with
        | zero => cases hy; exact ⟨_, by simpa using hc, rfl, DRel.iany _ _⟩
        | succ j => cases j <;> cases hy
    · cases hx
  obtain rfl := List.mem_singleton.1 hp
  have hg : Tryd.prog.globalNamed "internal/strconv.uint64pow10" = some 2 := by kernel_rfl
  unfold Lib.TabIs World.var? at hT
  rw [hg, Option.bind_some] at hT
  cases hh : W.heap[2]? with
  | none => rw [hh] at hT; cases hT
  | some o =>
    rw [hh] at hT
    cases o with
    | cells cs e fz =>
      simp only [Option.some.injEq] at hT
      refine ⟨(Array.getElem?_eq_some_iff.1 hh).1, e, fz, ?_⟩
      rw [← hT]; first | done | exact hh
    | _ => cases hT
end Go.Proofs.YtbamhlgkoimjoaaDoor.Lk
/- strings.Split, Index, Count at one byte: round by round. -/
namespace Go.Proofs.YtbamhlgkoimjoaaDoor.Sy.Sp
open Go Go.Proofs.YtbamhlgkoimjoaaDoor.Ab Go.Proofs.YtbamhlgkoimjoaaDoor.Sy
set_option maxRecDepth 1000000
set_option linter.unusedVariables false
def Hs (u : UInt8) (s : List UInt8) (m : Int) (xs : List D) (i : Nat) : St := ⟨mk 66 [(0, .d (.str s)), (1, .d (.str [u])), (2, .d (I 0)), (3, .d (I m)), (9, .arr 0), (10, .d (I i))] [], [.lst 9 xs]⟩
def Es (u : UInt8) (s : List UInt8) (xs : List D) (i : Nat) : St := ⟨mk 66 [(0, .d (.str s)), (9, .arr 0), (10, .d (I i))] [], [.lst 9 xs]⟩
section
variable (u : UInt8) (n m x : Int) (i j k : Nat) (s s2 t : List UInt8) (xs ys : List D)
theorem ct  : callX Tryd.prog wr false O 58 [.d (.str s), .d (.str [u])] [] [It.br false, It.br true, It.by 0 u] = some (V.d (D.int IntKind.i64 (↑(Lib.countByte s (↑u.toNat : Int).toNat.toUInt8) : Int)), [],
  [((↑[u].length : Int) == 0) = false,
   ((↑[u].length : Int) == 1) = true,
   0 = (↑0 : Int) ∧ [u][0]? = some u]) := by kernel_rfl
theorem ib  : callX Tryd.prog wr false O 84 [.d (.str s), .d (u8 u)] [] [] = some (V.d (D.int IntKind.i64 (Lib.indexByte s (↑u.toNat : Int).toNat.toUInt8)), [],
  []) := by kernel_rfl
theorem ix0  : callX Tryd.prog wr false O 74 [.d (.str s), .d (.str [u])] [] [It.br false, It.br true] = some (V.d (D.int IntKind.i64 0), [],
  [((↑[u].length : Int) == 0) = false,
   ([u] == s) = true]) := by kernel_rfl
theorem ix1  : callX Tryd.prog wr false O 74 [.d (.str s), .d (.str [u])] [] [It.br false, It.br false, It.br true, It.by 0 u, It.icall [] (V.d (I x)) []] = some (V.d (D.int IntKind.i64 x), [],
  [((↑[u].length : Int) == 0) = false,
   ([u] == s) = false,
   ((↑[u].length : Int) == 1) = true,
   0 = (↑0 : Int) ∧ [u][0]? = some u,
   ICall Tryd.prog 84 [V.d (D.str s), V.d (u8 u)] [] (V.d (I x)) []]) := by kernel_rfl
theorem ix2  : callX Tryd.prog wr false O 59 [.d (.str s), .d (.str [u])] [] [It.icall [] (V.d (I x)) []] = some (V.d (D.int IntKind.i64 x), [],
  [ICall Tryd.prog 74 [V.d (D.str s), V.d (D.str [u])] [] (V.d (I x)) []]) := by kernel_rfl
theorem g1 : round Tryd.prog wr false O (loopOf Tryd.prog 44 0) (Hs u s m xs i) [It.br true, It.icall [] (V.d (I x)) [], It.br true] [0, 9, 10] 1 = some (.exit 0, Es u s xs i,
  [decide ((↑i : Int) < m) = true,
   ICall Tryd.prog 59 [V.d (D.str s), V.d (D.str [u])] [] (V.d (I x)) [],
   decide (x < 0) = true]) := by kernel_rfl
theorem g2 : round Tryd.prog wr false O (loopOf Tryd.prog 44 0) (Hs u s m xs i) [It.br true, It.icall [] (V.d (I x)) [], It.br false, It.is (x + 0), It.cut 0 k, It.ix i, It.is (x + (↑[u].length : Int)), It.cut j s.length, It.is (↑(i + 1) : Int)] [0, 1, 2, 3, 9, 10] 1 = some (.normal, Hs u (List.take (s.length - j) (List.drop j s)) m (xs.set i (.str (List.take (k - 0) (List.drop 0 s)))) (i + 1),
  [decide ((↑i : Int) < m) = true,
   ICall Tryd.prog 59 [V.d (D.str s), V.d (D.str [u])] [] (V.d (I x)) [],
   decide (x < 0) = false,
   IntKind.i64.wrap (x + 0) = x + 0,
   (↑0 : Int) = (↑0 : Int) ∧ x + 0 = (↑k : Int) ∧ 0 ≤ k ∧ k ≤ s.length,
   (↑i : Int) = (↑i : Int) ∧ i < xs.length,
   IntKind.i64.wrap (x + (↑[u].length : Int)) = x + (↑[u].length : Int),
   x + (↑[u].length : Int) = (↑j : Int) ∧ (↑s.length : Int) = (↑s.length : Int) ∧ j ≤ s.length ∧ s.length ≤ s.length,
   IntKind.i64.wrap ((↑i : Int) + 1) = (↑(i + 1) : Int)]) := by kernel_rfl
theorem g3 : round Tryd.prog wr false O (loopOf Tryd.prog 44 0) (Hs u s m xs i) [It.br false] [0, 9, 10] 1 = some (.exit 0, Es u s xs i,
  [decide ((↑i : Int) < m) = false]) := by kernel_rfl
theorem gs  : callX Tryd.prog wr false O 44 [.d (.str s), .d (.str [u]), .d (I 0), .d (I (-1))] [] [It.br false, It.br false, It.br true, It.icall [] (V.d (I x)) [], It.is (x + 1), It.is (↑(s.length + 1) : Int), It.is (if (↑(s.length + 1) : Int) < x + 1 then (↑(s.length + 1) : Int) else x + 1), It.len (if (↑(s.length + 1) : Int) < x + 1 then (↑(s.length + 1) : Int) else x + 1).toNat, It.is ((if (↑(s.length + 1) : Int) < x + 1 then (↑(s.length + 1) : Int) else x + 1) - 1), It.lp [0, 1, 2, 3, 9, 10] (Ex.exit 0) (Es u t ys i), It.ix i, It.is (↑(i + 1) : Int), It.cut 0 k] = some (V.own 9 (List.take (k - 0) (ys.set i (D.str t))), [],
  [(-1 == 0) = false,
   ([u] == (ByteArray.mk #[]).data.toList) = false,
   decide (-1 < 0) = true,
   ICall Tryd.prog 58 [V.d (D.str s), V.d (D.str [u])] [] (V.d (I x)) [],
   IntKind.i64.wrap (x + 1) = x + 1,
   IntKind.i64.wrap ((↑s.length : Int) + 1) = (↑(s.length + 1) : Int),
   (if (↑(s.length + 1) : Int) < x + 1 then (↑(s.length + 1) : Int) else x + 1) = if (↑(s.length + 1) : Int) < x + 1 then (↑(s.length + 1) : Int) else x + 1,
   (if (↑(s.length + 1) : Int) < x + 1 then (↑(s.length + 1) : Int) else x + 1) = (↑(if (↑(s.length + 1) : Int) < x + 1 then (↑(s.length + 1) : Int) else x + 1).toNat : Int) ∧ (if (↑(s.length + 1) : Int) < x + 1 then (↑(s.length + 1) : Int) else x + 1) = (↑(if (↑(s.length + 1) : Int) < x + 1 then (↑(s.length + 1) : Int) else x + 1).toNat : Int) ∧ (if (↑(s.length + 1) : Int) < x + 1 then (↑(s.length + 1) : Int) else x + 1).toNat ≤ maxItems,
   IntKind.i64.wrap ((if (↑(s.length + 1) : Int) < x + 1 then (↑(s.length + 1) : Int) else x + 1) - 1) = (if (↑(s.length + 1) : Int) < x + 1 then (↑(s.length + 1) : Int) else x + 1) - 1,
   GoesL Tryd.prog (loopOf Tryd.prog 44 0) (⟨mk 66 [(0, V.d (D.str s)), (1, V.d (D.str [u])), (2, V.d (D.int IntKind.i64 0)), (3, V.d (D.int IntKind.i64 ((if (↑(s.length + 1) : Int) < x + 1 then (↑(s.length + 1) : Int) else x + 1) - 1))), (9, V.arr 0), (10, V.d (D.int IntKind.i64 0))] [], [B.lst 9 (List.replicate (if (↑(s.length + 1) : Int) < x + 1 then (↑(s.length + 1) : Int) else x + 1).toNat (D.str (ByteArray.mk #[]).data.toList))]⟩) (Ex.exit 0) (Es u t ys i),
   (↑i : Int) = (↑i : Int) ∧ i < ys.length,
   IntKind.i64.wrap ((↑i : Int) + 1) = (↑(i + 1) : Int),
   (↑0 : Int) = (↑0 : Int) ∧ (↑(i + 1) : Int) = (↑k : Int) ∧ 0 ≤ k ∧ k ≤ (ys.set i (D.str t)).length]) := by kernel_rfl
theorem sp  : callX Tryd.prog wr false O 27 [.d (.str s), .d (.str [u])] [] [It.icall [] (V.d (D.sl ys)) []] = some (V.d (D.sl ys), [],
  [ICall Tryd.prog 44 [V.d (D.str s), V.d (D.str [u]), V.d (D.int IntKind.i64 0), V.d (D.int IntKind.i64 (-1))] [] (V.d (D.sl ys)) []]) := by kernel_rfl
end
end Go.Proofs.YtbamhlgkoimjoaaDoor.Sy.Sp
/- strings.Split at one byte, whole. -/
namespace Go.Proofs.YtbamhlgkoimjoaaDoor.Sy.Sp
open Go Go.Proofs.YtbamhlgkoimjoaaDoor.Ab Go.Proofs.YtbamhlgkoimjoaaDoor.Sy
set_option maxRecDepth 1000000
set_option linter.unusedVariables false
set_option linter.unusedSimpArgs false
/-- The parts of a text between bytes of one kind. -/
def splitU (u : UInt8) : List UInt8 → List (List UInt8)
  | [] => [[]]
  | b :: r => if b = u then [] :: splitU u r else match splitU u r with
    | [] => [[b]]
    | x :: xs => (b :: x) :: xs
theorem splitU_none {u : UInt8} : ∀ {x : List UInt8}, u ∉ x → splitU u x = [x]
  | [], _ => rfl
  | b :: r, h => by
    have h1 : b ≠ u := fun e => h (by simp [e])
    have h2 : u ∉ r := fun e => h (by simp [e])
    rw [splitU, if_neg h1, splitU_none h2]
theorem splitU_cons {u : UInt8} {y : List UInt8} : ∀ {x : List UInt8}, u ∉ x → splitU u (x ++ u :: y) = x :: splitU u y
  | [], _ => by rw [List.nil_append, splitU, if_pos rfl]
  | b :: r, h => by
    have h1 : b ≠ u := fun e => h (by simp [e])
    have h2 : u ∉ r := fun e => h (by simp [e])
    rw [List.cons_append, splitU, if_neg h1, splitU_cons h2]
theorem splitU_ne (u : UInt8) : ∀ l, splitU u l ≠ []
  | [] => by simp [splitU]
  | b :: r => by
    rw [splitU]
    split
    · simp
    · split <;> simp
theorem splitU_len (u : UInt8) : ∀ l : List UInt8, (splitU u l).length = l.count u + 1
  | [] => rfl
  | b :: r => by
    have ih := splitU_len u r
    rw [splitU]
    by_cases h : b = u
    · rw [if_pos h, List.length_cons, ih, h, List.count_cons_self]
    · rw [if_neg h, List.count_cons_of_ne h]
      cases hs : splitU u r with
      | nil => exact absurd hs (splitU_ne u r)
      | cons x xs => rw [hs] at ih; simpa using ih
theorem idx_cases (c : UInt8) : ∀ l : List UInt8, (c ∉ l ∧ Lib.indexByte l c = -1) ∨ ∃ x y, l = x ++ c :: y ∧ c ∉ x ∧ Lib.indexByte l c = (x.length : Int)
  | [] => .inl ⟨by simp, rfl⟩
  | b :: l => by
    by_cases h : b = c
    · subst h
      exact .inr ⟨[], l, rfl, by simp, by simp [Lib.indexByte]⟩
    · rcases idx_cases c l with ⟨h1, h2⟩ | ⟨x, y, h1, h2, h3⟩
      · exact .inl ⟨by simp [h1, Ne.symm h], by simp [Lib.indexByte, h2, h]⟩
      · refine .inr ⟨b :: x, y, by rw [h1]; rfl, by simp [h2, Ne.symm h], ?_⟩
        have hne : ¬ ((x.length : Int) = -1) := by omega
        simp [Lib.indexByte, h3, h, hne]
theorem u8_back (u : UInt8) : ((u.toNat : Int)).toNat.toUInt8 = u := by
  rw [Int.toNat_natCast]; exact UInt8.ofNat_toNat
theorem count (u : UInt8) (s : List UInt8) : ICall Tryd.prog 58 [.d (.str s), .d (.str [u])] [] (.d (I (s.count u : Nat))) [] := by
  have := callX_ok hO hm (ct u s) ⟨rfl, rfl, rfl, rfl⟩
  rw [u8_back] at this
  exact this
theorem index (u : UInt8) (s : List UInt8) : ICall Tryd.prog 59 [.d (.str s), .d (.str [u])] [] (.d (I (Lib.indexByte s u))) [] := by
  have h := callX_ok hO hm (ib u s) trivial
  rw [u8_back] at h
  refine callX_ok hO hm (ix2 u (Lib.indexByte s u) s) ?_
  cases hs : ([u] == s) with
  | true =>
    have e : s = [u] := (beq_iff_eq.1 hs).symm
    have := callX_ok hO hm (ix0 u s) ⟨rfl, hs⟩
    have e2 : Lib.indexByte s u = 0 := by rw [e]; simp [Lib.indexByte]
    rw [e2]
    exact this
  | false => exact callX_ok hO hm (ix1 u (Lib.indexByte s u) s) ⟨rfl, hs, rfl, ⟨rfl, rfl⟩, h⟩
theorem loop (u : UInt8) (s0 : List UInt8) (hl : s0.length ≤ 1000000000) (N : Nat) (hN : N = (splitU u s0).length) : ∀ (d i : Nat) (s : List UInt8) (xs : List D), N - 1 - i = d → i < N → s.length ≤ 1000000000 → xs.length = N → xs.take i ++ (splitU u s).map D.str = (splitU u s0).map D.str →
    ∃ t ys, GoesL Tryd.prog (loopOf Tryd.prog 44 0) (Hs u s ((N - 1 : Nat) : Int) xs i) (.exit 0) (Es u t ys (N - 1)) ∧ ys.length = N ∧ (ys.set (N - 1) (.str t)) = (splitU u s0).map D.str := by
  have hNl : N ≤ s0.length + 1 := by rw [hN, splitU_len]; have := List.count_le_length (a := u) (l := s0); omega
  intro d
  induction d with
  | zero =>
    intro i s xs hd hi hsl hxl e
    obtain rfl : i = N - 1 := by omega
    refine ⟨s, xs, .stop hO hm (g3 u _ _ s xs) (by simp) (decide_eq_false (by omega)), hxl, ?_⟩
    have hlen : (splitU u s).length = 1 := by
      have := congrArg List.length e
      rw [List.length_append, List.length_take, List.length_map, List.length_map, ← hN] at this
      omega
    have hs1 : splitU u s = [s] := by
      rw [splitU_len] at hlen
      exact splitU_none (List.count_eq_zero.1 (by omega))
    rw [hs1] at e
    rw [← e, List.set_eq_take_append_cons_drop, if_pos (by omega), List.drop_of_length_le (by omega)]
    rfl
  | succ d ih =>
    intro i s xs hd hi hsl hxl e
    have hlen : (splitU u s).length = N - i := by
      have := congrArg List.length e
      rw [List.length_append, List.length_take, List.length_map, List.length_map, ← hN] at this
      omega
    rcases idx_cases u s with ⟨h1, h2⟩ | ⟨x, y, h1, h2, h3⟩
    · rw [splitU_none h1] at hlen
      simp at hlen; omega
    · have hi' := index u s
      rw [h3] at hi'
      have hsx : s.length = x.length + (y.length + 1) := by rw [h1]; simp
      have ht1 : List.take (x.length - 0) (List.drop 0 s) = x := by rw [h1]; simp
      have ht2 : List.take (s.length - (x.length + 1)) (List.drop (x.length + 1) s) = y := by
        rw [List.take_of_length_le (by rw [List.length_drop]; omega), h1]; simp
      obtain ⟨t, ys, q1, q2, q3⟩ := ih (i + 1) y (xs.set i (.str x)) (by omega) (by omega) (by omega) (by rw [List.length_set]; exact hxl) (by
        rw [← e, h1, splitU_cons h2, List.take_add_one, List.take_set_of_le (Nat.le_refl _), List.getElem?_set_self (by omega)]
        simp)
      refine ⟨t, ys, ?_, q2, q3⟩
      refine .step hO hm (g2 u _ (x.length : Int) i (x.length + 1) x.length s xs) ⟨decide_eq_true (by omega), hi', decide_eq_false (by omega), wrap_id (by omega) (by omega), ⟨rfl, by omega, Nat.zero_le _, by omega⟩, ⟨rfl, by omega⟩, wrap_id (by simp; omega) (by simp; omega), ⟨by simp, rfl, by omega, Nat.le_refl _⟩, wrap_succ (by omega)⟩ ?_
      rw [ht1, ht2]
      exact q1
theorem split (u : UInt8) (s : List UInt8) (hl : s.length ≤ 1000000000) : ICall Tryd.prog 27 [.d (.str s), .d (.str [u])] [] (.d (.sl ((splitU u s).map D.str))) [] := by
  have hc := count u s
  have hlen := splitU_len u s
  have hcl := List.count_le_length (a := u) (l := s)
  obtain ⟨t, ys, q1, q2, q3⟩ := loop u s hl (splitU u s).length rfl ((splitU u s).length - 1) 0 s (List.replicate (splitU u s).length (.str [])) (by omega) (by omega) hl (by simp) (by simp)
  have e1 : (if ((s.length + 1 : Nat) : Int) < ((s.count u : Nat) : Int) + 1 then ((s.length + 1 : Nat) : Int) else ((s.count u : Nat) : Int) + 1) = ((splitU u s).length : Int) := by
    rw [if_neg (by omega)]; omega
  have := callX_ok hO hm (gs u ((s.count u : Nat) : Int) ((splitU u s).length - 1) (splitU u s).length s t ys) ⟨rfl, rfl, rfl, hc, wrap_id (by omega) (by omega), wrap_succ (by omega), rfl, by
      rw [e1]; exact ⟨by omega, by omega, Nat.le_trans (show _ ≤ 1000000001 by omega) (by decide)⟩, by rw [e1]; exact wrap_id (by omega) (by omega), by
      rw [e1, show ((splitU u s).length : Int) - 1 = (((splitU u s).length - 1 : Nat) : Int) by omega]
      exact q1, ⟨rfl, by omega⟩, wrap_succ (by omega), by
      rw [q3]; exact ⟨rfl, by omega, Nat.zero_le _, by rw [List.length_map]; omega⟩⟩
  have h2 := this.frz (r' := .d (.sl ((splitU u s).map D.str))) (by
    rw [q3, show (splitU u s).length - 0 = ((splitU u s).map D.str).length by simp, List.take_length]; rfl)
  exact callX_ok hO hm (sp u s ((splitU u s).map D.str)) h2
end Go.Proofs.YtbamhlgkoimjoaaDoor.Sy.Sp
/- gates.Check's question: whether a literal is outside. -/
namespace Go.Proofs.YtbamhlgkoimjoaaDoor.Sy
open Go Go.Proofs.YtbamhlgkoimjoaaDoor.Ab
set_option maxRecDepth 1000000
def outB (s3 x : Int) : Bool := decide (x < 0) || decide (x / 2 ≥ s3)
section
variable (x s0 s1 s2 s3 : Int)
theorem out1 : callX Tryd.prog wr false O 40 [.d (I x), .ptr 0 0] [.box [.d (I s0), .d (I s1), .d (I s2), .d (I s3)]] [.br true] = some (.d (.bool true), [.box [.d (I s0), .d (I s1), .d (I s2), .d (I s3)]], [decide (x < 0) = true]) := by kernel_rfl
theorem out2 (b : Bool) : callX Tryd.prog wr false O 40 [.d (I x), .ptr 0 0] [.box [.d (I s0), .d (I s1), .d (I s2), .d (I s3)]] [.br false, .is (x / 2), .br b] = some (.d (.bool b), [.box [.d (I s0), .d (I s1), .d (I s2), .d (I s3)]], [decide (x < 0) = false, x.fdiv (2 ^ min (Int.toNat 1) IntKind.i64.bits) = x / 2, decide (x / 2 ≥ s3) = b]) := by kernel_rfl
theorem out : ICall Tryd.prog 40 [.d (I x), .ptr 0 0] [.box [.d (I s0), .d (I s1), .d (I s2), .d (I s3)]] (.d (.bool (outB s3 x))) [.box [.d (I s0), .d (I s1), .d (I s2), .d (I s3)]] := by
  unfold outB
  by_cases h : x < 0
  · rw [decide_eq_true h, Bool.true_or]
    exact callX_ok hO hm (out1 x s0 s1 s2 s3) (by simpa [AllP] using h)
  · rw [decide_eq_false h, Bool.false_or]
    refine callX_ok hO hm (out2 x s0 s1 s2 s3 _) ⟨by simpa using h, ?_, rfl⟩
    rw [Int.fdiv_eq_ediv_of_nonneg _ (by decide)]
    rfl
end
end Go.Proofs.YtbamhlgkoimjoaaDoor.Sy
/- Whether a list has an element of which a closure says so: spiritlevel/gates.Check$1. -/
namespace Go.Proofs.YtbamhlgkoimjoaaDoor.Sy.Gc1
open Go Go.Proofs.YtbamhlgkoimjoaaDoor.Ab Go.Proofs.YtbamhlgkoimjoaaDoor.Sy
set_option maxRecDepth 1000000
set_option linter.unusedVariables false
section
variable (s0 s1 s2 s3 : Int) (xs : List Int) (i : Nat)
def H (xs : List Int) (s0 s1 s2 s3 : Int) (i : Nat) : St := ⟨mk 19 [(0, .d (.sl (xs.map I))), (1, .func 40 [.ptr 0 0]), (7, .d (I ((xs.map I).length : Nat))), (8, .d (I i))] [], [.box [.d (I s0), .d (I s1), .d (I s2), .d (I s3)]]⟩
def E (s0 s1 s2 s3 : Int) : St := ⟨mk 19 [] [], [.box [.d (I s0), .d (I s1), .d (I s2), .d (I s3)]]⟩
def R (s0 s1 s2 s3 : Int) (i : Nat) : St := ⟨mk 19 [(4, .d (I i))] [], [.box [.d (I s0), .d (I s1), .d (I s2), .d (I s3)]]⟩
theorem rd1 : round Tryd.prog wr false O (loopOf Tryd.prog 55 0) (H xs s0 s1 s2 s3 i) [It.br true, It.el i (I (xs.getD i default)), .icall [0] (.d (.bool false)) [.box [.d (I s0), .d (I s1), .d (I s2), .d (I s3)]], .is ((i + 1 : Nat) : Int)] [0, 1, 7, 8] 1 = some (.normal, H xs s0 s1 s2 s3 (i + 1),
  [decide ((↑i : Int) < (((xs.map I).length : Nat) : Int)) = true, (↑i : Int) = (↑i : Int) ∧ (xs.map I)[i]? = some (I (xs.getD i default)), ICall Tryd.prog 40 [.d (I (xs.getD i default)), .ptr 0 0] [.box [.d (I s0), .d (I s1), .d (I s2), .d (I s3)]] (.d (.bool false)) [.box [.d (I s0), .d (I s1), .d (I s2), .d (I s3)]], IntKind.i64.wrap ((i : Int) + 1) = ((i + 1 : Nat) : Int)]) := by kernel_rfl
theorem rd2 : round Tryd.prog wr false O (loopOf Tryd.prog 55 0) (H xs s0 s1 s2 s3 i) [It.br true, It.el i (I (xs.getD i default)), .icall [0] (.d (.bool true)) [.box [.d (I s0), .d (I s1), .d (I s2), .d (I s3)]]] [4] 1 = some (.ret, R s0 s1 s2 s3 i,
  [decide ((↑i : Int) < (((xs.map I).length : Nat) : Int)) = true, (↑i : Int) = (↑i : Int) ∧ (xs.map I)[i]? = some (I (xs.getD i default)), ICall Tryd.prog 40 [.d (I (xs.getD i default)), .ptr 0 0] [.box [.d (I s0), .d (I s1), .d (I s2), .d (I s3)]] (.d (.bool true)) [.box [.d (I s0), .d (I s1), .d (I s2), .d (I s3)]]]) := by kernel_rfl
theorem rd3 : round Tryd.prog wr false O (loopOf Tryd.prog 55 0) (H xs s0 s1 s2 s3 i) [It.br false] [] 1 = some (.exit 0, E s0 s1 s2 s3, [decide ((↑i : Int) < (((xs.map I).length : Nat) : Int)) = false]) := by kernel_rfl
theorem f1 (j : Nat) : callX Tryd.prog wr false O 55 [.d (.sl (xs.map I)), .func 40 [.ptr 0 0]] [.box [.d (I s0), .d (I s1), .d (I s2), .d (I s3)]] [.lp [0, 1, 7, 8] .ret (R s0 s1 s2 s3 j)] = some (.d (I j), [.box [.d (I s0), .d (I s1), .d (I s2), .d (I s3)]], [GoesL Tryd.prog (loopOf Tryd.prog 55 0) (H xs s0 s1 s2 s3 0) .ret (R s0 s1 s2 s3 j)]) := by kernel_rfl
theorem f2 : callX Tryd.prog wr false O 55 [.d (.sl (xs.map I)), .func 40 [.ptr 0 0]] [.box [.d (I s0), .d (I s1), .d (I s2), .d (I s3)]] [.lp [0, 1, 7, 8] (.exit 0) (E s0 s1 s2 s3)] = some (.d (I (-1)), [.box [.d (I s0), .d (I s1), .d (I s2), .d (I s3)]], [GoesL Tryd.prog (loopOf Tryd.prog 55 0) (H xs s0 s1 s2 s3 0) (.exit 0) (E s0 s1 s2 s3)]) := by kernel_rfl
theorem g1 (j : Nat) : callX Tryd.prog wr false O 42 [.d (.sl (xs.map I)), .func 40 [.ptr 0 0]] [.box [.d (I s0), .d (I s1), .d (I s2), .d (I s3)]] [.icall [0] (.d (I j)) [.box [.d (I s0), .d (I s1), .d (I s2), .d (I s3)]], .br true] = some (.d (.bool true), [.box [.d (I s0), .d (I s1), .d (I s2), .d (I s3)]], [ICall Tryd.prog 55 [.d (.sl (xs.map I)), .func 40 [.ptr 0 0]] [.box [.d (I s0), .d (I s1), .d (I s2), .d (I s3)]] (.d (I j)) [.box [.d (I s0), .d (I s1), .d (I s2), .d (I s3)]], decide ((j : Int) ≥ 0) = true]) := by kernel_rfl
theorem g2 : callX Tryd.prog wr false O 42 [.d (.sl (xs.map I)), .func 40 [.ptr 0 0]] [.box [.d (I s0), .d (I s1), .d (I s2), .d (I s3)]] [.icall [0] (.d (I (-1))) [.box [.d (I s0), .d (I s1), .d (I s2), .d (I s3)]], .br false] = some (.d (.bool false), [.box [.d (I s0), .d (I s1), .d (I s2), .d (I s3)]], [ICall Tryd.prog 55 [.d (.sl (xs.map I)), .func 40 [.ptr 0 0]] [.box [.d (I s0), .d (I s1), .d (I s2), .d (I s3)]] (.d (I (-1))) [.box [.d (I s0), .d (I s1), .d (I s2), .d (I s3)]], decide ((-1 : Int) ≥ 0) = false]) := by kernel_rfl
end
/-- ContainsFunc: whether one is such. -/
theorem icall (s0 s1 s2 s3 : Int) (xs : List Int) (hl : xs.length ≤ 1000000) (hc : ∀ x ∈ xs, ICall Tryd.prog 40 [.d (I x), .ptr 0 0] [.box [.d (I s0), .d (I s1), .d (I s2), .d (I s3)]] (.d (.bool (outB s3 x))) [.box [.d (I s0), .d (I s1), .d (I s2), .d (I s3)]]) : ICall Tryd.prog 42 [.d (.sl (xs.map I)), .func 40 [.ptr 0 0]] [.box [.d (I s0), .d (I s1), .d (I s2), .d (I s3)]] (.d (.bool (xs.any (outB s3)))) [.box [.d (I s0), .d (I s1), .d (I s2), .d (I s3)]] := by
  have hm1 : ∀ i, i < xs.length → xs.getD i default ∈ xs := fun i h => by rw [List.getD_eq_getElem?_getD, List.getElem?_eq_getElem h]; exact List.getElem_mem h
  have hlt : ∀ i, i < xs.length → decide ((↑i : Int) < (((xs.map I).length : Nat) : Int)) = true := fun i h => by simp; omega
  obtain ⟨a1, a2⟩ := any_at xs (fun i => H xs s0 s1 s2 s3 i) (.exit 0) (R s0 s1 s2 s3) (E s0 s1 s2 s3) (outB s3)
    (fun i h hb => .stop hO hm (rd2 s0 s1 s2 s3 xs i) (by simp) ⟨hlt i h, ⟨rfl, get_map I xs i h⟩, by rw [← hb]; exact hc _ (hm1 i h)⟩)
    (fun i h hb e s hg => .step hO hm (rd1 s0 s1 s2 s3 xs i) ⟨hlt i h, ⟨rfl, get_map I xs i h⟩, by rw [← hb]; exact hc _ (hm1 i h), wrap_succ (by omega)⟩ hg)
    (.stop hO hm (rd3 s0 s1 s2 s3 xs xs.length) (by simp) (by simp [AllP])) xs.length 0 rfl (by omega)
  rw [List.drop_zero] at a1 a2
  cases hx : xs.any (outB s3) with
  | true =>
    obtain ⟨j, hj⟩ := a1 hx
    exact callX_ok hO hm (g1 s0 s1 s2 s3 xs j) ⟨callX_ok hO hm (f1 s0 s1 s2 s3 xs j) hj, by simp [AllP]⟩
  | false => exact callX_ok hO hm (g2 s0 s1 s2 s3 xs) ⟨callX_ok hO hm (f2 s0 s1 s2 s3 xs) (a2 hx), by simp [AllP]⟩
end Go.Proofs.YtbamhlgkoimjoaaDoor.Sy.Gc1
/- gates.Check's question: whether a latch is wrong; where inputs, latches and gates start. -/
namespace Go.Proofs.YtbamhlgkoimjoaaDoor.Sy
open Go Go.Proofs.YtbamhlgkoimjoaaDoor.Ab
set_option maxRecDepth 1000000
def wrongB (s3 : Int) (l : Lt) : Bool := outB s3 l.next || (decide (l.reset < 0) || decide (l.reset > 2))
section
variable (l : Lt) (s0 s1 s2 s3 : Int)
theorem wrong1 : callX Tryd.prog wr false O 41 [.d l.d, .ptr 0 0] [.box [.func 40 [.ptr 1 0]], .box [.d (I s0), .d (I s1), .d (I s2), .d (I s3)]] [.icall [1] (.d (.bool true)) [.box [.d (I s0), .d (I s1), .d (I s2), .d (I s3)]]]
  = some (.d (.bool true), [.box [.func 40 [.ptr 1 0]], .box [.d (I s0), .d (I s1), .d (I s2), .d (I s3)]],
    [ICall Tryd.prog 40 [.d (I l.next), .ptr 0 0] [.box [.d (I s0), .d (I s1), .d (I s2), .d (I s3)]] (.d (.bool true)) [.box [.d (I s0), .d (I s1), .d (I s2), .d (I s3)]]]) := by kernel_rfl
theorem wrong2 : callX Tryd.prog wr false O 41 [.d l.d, .ptr 0 0] [.box [.func 40 [.ptr 1 0]], .box [.d (I s0), .d (I s1), .d (I s2), .d (I s3)]] [.icall [1] (.d (.bool false)) [.box [.d (I s0), .d (I s1), .d (I s2), .d (I s3)]], .br true]
  = some (.d (.bool true), [.box [.func 40 [.ptr 1 0]], .box [.d (I s0), .d (I s1), .d (I s2), .d (I s3)]],
    [ICall Tryd.prog 40 [.d (I l.next), .ptr 0 0] [.box [.d (I s0), .d (I s1), .d (I s2), .d (I s3)]] (.d (.bool false)) [.box [.d (I s0), .d (I s1), .d (I s2), .d (I s3)]], decide (l.reset < 0) = true]) := by kernel_rfl
theorem wrong3 (b : Bool) : callX Tryd.prog wr false O 41 [.d l.d, .ptr 0 0] [.box [.func 40 [.ptr 1 0]], .box [.d (I s0), .d (I s1), .d (I s2), .d (I s3)]] [.icall [1] (.d (.bool false)) [.box [.d (I s0), .d (I s1), .d (I s2), .d (I s3)]], .br false, .br b]
  = some (.d (.bool b), [.box [.func 40 [.ptr 1 0]], .box [.d (I s0), .d (I s1), .d (I s2), .d (I s3)]],
    [ICall Tryd.prog 40 [.d (I l.next), .ptr 0 0] [.box [.d (I s0), .d (I s1), .d (I s2), .d (I s3)]] (.d (.bool false)) [.box [.d (I s0), .d (I s1), .d (I s2), .d (I s3)]], decide (l.reset < 0) = false, decide (l.reset > 2) = b]) := by kernel_rfl
theorem wrong : ICall Tryd.prog 41 [.d l.d, .ptr 0 0] [.box [.func 40 [.ptr 1 0]], .box [.d (I s0), .d (I s1), .d (I s2), .d (I s3)]] (.d (.bool (wrongB s3 l))) [.box [.func 40 [.ptr 1 0]], .box [.d (I s0), .d (I s1), .d (I s2), .d (I s3)]] := by
  have ho := out l.next s0 s1 s2 s3
  unfold wrongB
  cases h : outB s3 l.next with
  | true => rw [h] at ho; exact callX_ok hO hm (wrong1 l s0 s1 s2 s3) ho
  | false =>
    rw [h] at ho
    by_cases h2 : l.reset < 0
    · rw [decide_eq_true h2]
      exact callX_ok hO hm (wrong2 l s0 s1 s2 s3) ⟨ho, by simpa [AllP] using h2⟩
    · rw [decide_eq_false h2, Bool.false_or, Bool.false_or]
      exact callX_ok hO hm (wrong3 l s0 s1 s2 s3 _) ⟨ho, by simpa using h2, rfl⟩
end

section
variable (c : Ci)
def st1 : Int := 1 + c.ins
def st2 : Int := 1 + c.ins + ((c.lats.map Lt.d).length : Nat)
def st3 : Int := 1 + c.ins + ((c.lats.map Lt.d).length : Nat) + ((c.ands.map An.d).length : Nat)
theorem starts1 : callX Tryd.prog wr false O 39 [.d c.d] [] [.is (st1 c), .is (st2 c), .is (st3 c)] = some (.d (.agg [I 1, I (st1 c), I (st2 c), I (st3 c)]), [],
  [IntKind.i64.wrap (1 + c.ins) = st1 c, IntKind.i64.wrap (st1 c + ((c.lats.map Lt.d).length : Nat)) = st2 c, IntKind.i64.wrap (st2 c + ((c.ands.map An.d).length : Nat)) = st3 c]) := by kernel_rfl
theorem starts (h0 : 0 ≤ c.ins) (h1 : c.ins ≤ 1000) (h2 : c.lats.length ≤ 1000000) (h3 : c.ands.length ≤ 1000000) : ICall Tryd.prog 39 [.d c.d] [] (.d (.agg [I 1, I (st1 c), I (st2 c), I (st3 c)])) [] := by
  refine callX_ok hO hm (starts1 c) ⟨?_, ?_, ?_⟩ <;> simp only [st1, st2, st3, List.length_map] <;> exact wrap_id (by omega) (by omega)
end
end Go.Proofs.YtbamhlgkoimjoaaDoor.Sy
/- Whether a list has an element of which a closure says so: spiritlevel/gates.Check$2. -/
namespace Go.Proofs.YtbamhlgkoimjoaaDoor.Sy.Gc2
open Go Go.Proofs.YtbamhlgkoimjoaaDoor.Ab Go.Proofs.YtbamhlgkoimjoaaDoor.Sy
set_option maxRecDepth 1000000
set_option linter.unusedVariables false
section
variable (s0 s1 s2 s3 : Int) (xs : List Lt) (i : Nat)
def H (xs : List Lt) (s0 s1 s2 s3 : Int) (i : Nat) : St := ⟨mk 19 [(0, .d (.sl (xs.map Lt.d))), (1, .func 41 [.ptr 0 0]), (7, .d (I ((xs.map Lt.d).length : Nat))), (8, .d (I i))] [], [.box [.func 40 [.ptr 1 0]], .box [.d (I s0), .d (I s1), .d (I s2), .d (I s3)]]⟩
def E (s0 s1 s2 s3 : Int) : St := ⟨mk 19 [] [], [.box [.func 40 [.ptr 1 0]], .box [.d (I s0), .d (I s1), .d (I s2), .d (I s3)]]⟩
def R (s0 s1 s2 s3 : Int) (i : Nat) : St := ⟨mk 19 [(4, .d (I i))] [], [.box [.func 40 [.ptr 1 0]], .box [.d (I s0), .d (I s1), .d (I s2), .d (I s3)]]⟩
theorem rd1 : round Tryd.prog wr false O (loopOf Tryd.prog 56 0) (H xs s0 s1 s2 s3 i) [It.br true, It.el i (Lt.d (xs.getD i default)), .icall [0, 1] (.d (.bool false)) [.box [.func 40 [.ptr 1 0]], .box [.d (I s0), .d (I s1), .d (I s2), .d (I s3)]], .is ((i + 1 : Nat) : Int)] [0, 1, 7, 8] 2 = some (.normal, H xs s0 s1 s2 s3 (i + 1),
  [decide ((↑i : Int) < (((xs.map Lt.d).length : Nat) : Int)) = true, (↑i : Int) = (↑i : Int) ∧ (xs.map Lt.d)[i]? = some (Lt.d (xs.getD i default)), ICall Tryd.prog 41 [.d (Lt.d (xs.getD i default)), .ptr 0 0] [.box [.func 40 [.ptr 1 0]], .box [.d (I s0), .d (I s1), .d (I s2), .d (I s3)]] (.d (.bool false)) [.box [.func 40 [.ptr 1 0]], .box [.d (I s0), .d (I s1), .d (I s2), .d (I s3)]], IntKind.i64.wrap ((i : Int) + 1) = ((i + 1 : Nat) : Int)]) := by kernel_rfl
theorem rd2 : round Tryd.prog wr false O (loopOf Tryd.prog 56 0) (H xs s0 s1 s2 s3 i) [It.br true, It.el i (Lt.d (xs.getD i default)), .icall [0, 1] (.d (.bool true)) [.box [.func 40 [.ptr 1 0]], .box [.d (I s0), .d (I s1), .d (I s2), .d (I s3)]]] [4] 2 = some (.ret, R s0 s1 s2 s3 i,
  [decide ((↑i : Int) < (((xs.map Lt.d).length : Nat) : Int)) = true, (↑i : Int) = (↑i : Int) ∧ (xs.map Lt.d)[i]? = some (Lt.d (xs.getD i default)), ICall Tryd.prog 41 [.d (Lt.d (xs.getD i default)), .ptr 0 0] [.box [.func 40 [.ptr 1 0]], .box [.d (I s0), .d (I s1), .d (I s2), .d (I s3)]] (.d (.bool true)) [.box [.func 40 [.ptr 1 0]], .box [.d (I s0), .d (I s1), .d (I s2), .d (I s3)]]]) := by kernel_rfl
theorem rd3 : round Tryd.prog wr false O (loopOf Tryd.prog 56 0) (H xs s0 s1 s2 s3 i) [It.br false] [] 2 = some (.exit 0, E s0 s1 s2 s3, [decide ((↑i : Int) < (((xs.map Lt.d).length : Nat) : Int)) = false]) := by kernel_rfl
theorem f1 (j : Nat) : callX Tryd.prog wr false O 56 [.d (.sl (xs.map Lt.d)), .func 41 [.ptr 0 0]] [.box [.func 40 [.ptr 1 0]], .box [.d (I s0), .d (I s1), .d (I s2), .d (I s3)]] [.lp [0, 1, 7, 8] .ret (R s0 s1 s2 s3 j)] = some (.d (I j), [.box [.func 40 [.ptr 1 0]], .box [.d (I s0), .d (I s1), .d (I s2), .d (I s3)]], [GoesL Tryd.prog (loopOf Tryd.prog 56 0) (H xs s0 s1 s2 s3 0) .ret (R s0 s1 s2 s3 j)]) := by kernel_rfl
theorem f2 : callX Tryd.prog wr false O 56 [.d (.sl (xs.map Lt.d)), .func 41 [.ptr 0 0]] [.box [.func 40 [.ptr 1 0]], .box [.d (I s0), .d (I s1), .d (I s2), .d (I s3)]] [.lp [0, 1, 7, 8] (.exit 0) (E s0 s1 s2 s3)] = some (.d (I (-1)), [.box [.func 40 [.ptr 1 0]], .box [.d (I s0), .d (I s1), .d (I s2), .d (I s3)]], [GoesL Tryd.prog (loopOf Tryd.prog 56 0) (H xs s0 s1 s2 s3 0) (.exit 0) (E s0 s1 s2 s3)]) := by kernel_rfl
theorem g1 (j : Nat) : callX Tryd.prog wr false O 43 [.d (.sl (xs.map Lt.d)), .func 41 [.ptr 0 0]] [.box [.func 40 [.ptr 1 0]], .box [.d (I s0), .d (I s1), .d (I s2), .d (I s3)]] [.icall [0, 1] (.d (I j)) [.box [.func 40 [.ptr 1 0]], .box [.d (I s0), .d (I s1), .d (I s2), .d (I s3)]], .br true] = some (.d (.bool true), [.box [.func 40 [.ptr 1 0]], .box [.d (I s0), .d (I s1), .d (I s2), .d (I s3)]], [ICall Tryd.prog 56 [.d (.sl (xs.map Lt.d)), .func 41 [.ptr 0 0]] [.box [.func 40 [.ptr 1 0]], .box [.d (I s0), .d (I s1), .d (I s2), .d (I s3)]] (.d (I j)) [.box [.func 40 [.ptr 1 0]], .box [.d (I s0), .d (I s1), .d (I s2), .d (I s3)]], decide ((j : Int) ≥ 0) = true]) := by kernel_rfl
theorem g2 : callX Tryd.prog wr false O 43 [.d (.sl (xs.map Lt.d)), .func 41 [.ptr 0 0]] [.box [.func 40 [.ptr 1 0]], .box [.d (I s0), .d (I s1), .d (I s2), .d (I s3)]] [.icall [0, 1] (.d (I (-1))) [.box [.func 40 [.ptr 1 0]], .box [.d (I s0), .d (I s1), .d (I s2), .d (I s3)]], .br false] = some (.d (.bool false), [.box [.func 40 [.ptr 1 0]], .box [.d (I s0), .d (I s1), .d (I s2), .d (I s3)]], [ICall Tryd.prog 56 [.d (.sl (xs.map Lt.d)), .func 41 [.ptr 0 0]] [.box [.func 40 [.ptr 1 0]], .box [.d (I s0), .d (I s1), .d (I s2), .d (I s3)]] (.d (I (-1))) [.box [.func 40 [.ptr 1 0]], .box [.d (I s0), .d (I s1), .d (I s2), .d (I s3)]], decide ((-1 : Int) ≥ 0) = false]) := by kernel_rfl
end
/-- ContainsFunc: whether one is such. -/
theorem icall (s0 s1 s2 s3 : Int) (xs : List Lt) (hl : xs.length ≤ 1000000) (hc : ∀ x ∈ xs, ICall Tryd.prog 41 [.d (Lt.d x), .ptr 0 0] [.box [.func 40 [.ptr 1 0]], .box [.d (I s0), .d (I s1), .d (I s2), .d (I s3)]] (.d (.bool (wrongB s3 x))) [.box [.func 40 [.ptr 1 0]], .box [.d (I s0), .d (I s1), .d (I s2), .d (I s3)]]) : ICall Tryd.prog 43 [.d (.sl (xs.map Lt.d)), .func 41 [.ptr 0 0]] [.box [.func 40 [.ptr 1 0]], .box [.d (I s0), .d (I s1), .d (I s2), .d (I s3)]] (.d (.bool (xs.any (wrongB s3)))) [.box [.func 40 [.ptr 1 0]], .box [.d (I s0), .d (I s1), .d (I s2), .d (I s3)]] := by
  have hm1 : ∀ i, i < xs.length → xs.getD i default ∈ xs := fun i h => by rw [List.getD_eq_getElem?_getD, List.getElem?_eq_getElem h]; exact List.getElem_mem h
  have hlt : ∀ i, i < xs.length → decide ((↑i : Int) < (((xs.map Lt.d).length : Nat) : Int)) = true := fun i h => by simp; omega
  obtain ⟨a1, a2⟩ := any_at xs (fun i => H xs s0 s1 s2 s3 i) (.exit 0) (R s0 s1 s2 s3) (E s0 s1 s2 s3) (wrongB s3)
    (fun i h hb => .stop hO hm (rd2 s0 s1 s2 s3 xs i) (by simp) ⟨hlt i h, ⟨rfl, get_map Lt.d xs i h⟩, by rw [← hb]; exact hc _ (hm1 i h)⟩)
    (fun i h hb e s hg => .step hO hm (rd1 s0 s1 s2 s3 xs i) ⟨hlt i h, ⟨rfl, get_map Lt.d xs i h⟩, by rw [← hb]; exact hc _ (hm1 i h), wrap_succ (by omega)⟩ hg)
    (.stop hO hm (rd3 s0 s1 s2 s3 xs xs.length) (by simp) (by simp [AllP])) xs.length 0 rfl (by omega)
  rw [List.drop_zero] at a1 a2
  cases hx : xs.any (wrongB s3) with
  | true =>
    obtain ⟨j, hj⟩ := a1 hx
    exact callX_ok hO hm (g1 s0 s1 s2 s3 xs j) ⟨callX_ok hO hm (f1 s0 s1 s2 s3 xs j) hj, by simp [AllP]⟩
  | false => exact callX_ok hO hm (g2 s0 s1 s2 s3 xs) ⟨callX_ok hO hm (f2 s0 s1 s2 s3 xs) (a2 hx), by simp [AllP]⟩
end Go.Proofs.YtbamhlgkoimjoaaDoor.Sy.Gc2
/- gates.Check, on symbols. -/
namespace Go.Proofs.YtbamhlgkoimjoaaDoor.Sy.Gates
open Go Go.Proofs.YtbamhlgkoimjoaaDoor.Ab Go.Proofs.YtbamhlgkoimjoaaDoor.Sy
set_option maxRecDepth 1000000
set_option linter.unusedVariables false
def badA (s2 : Int) (i : Nat) (g : An) : Bool := decide (g.b < 0) || (decide (g.a < g.b) || decide (g.a ≥ 2 * (s2 + i)))
/-- What gates.Check answers. -/
def chk (c : Ci) : Int :=
  if c.ins < 0 then 8 else if c.ins > 1000 then 4 else if st3 c - 1 > 1000 then 4 else if (if ((c.cons.map I).length : Int) > ((c.bads.map I).length : Int) then ((c.cons.map I).length : Int) else ((c.bads.map I).length : Int)) > 100 then 4
  else if c.bads.any (outB (st3 c)) || (c.cons.any (outB (st3 c)) || c.lats.any (wrongB (st3 c))) then 8 else if anyIx (badA (st2 c)) c.ands 0 then 8 else 0
section
variable (c : Ci) (s0 s1 s2 s3 : Int) (i : Nat)
def H (c : Ci) (s0 s1 s2 s3 : Int) (i : Nat) : St := ⟨mk 80 [(3, .ptr 1 0), (52, .d (.sl (c.ands.map An.d))), (53, .d (I ((c.ands.map An.d).length : Nat))), (54, .d (I i))] [], [.box [.d (I c.ins), .d (.sl (c.lats.map Lt.d)), .d (.sl (c.ands.map An.d)), .d (L c.bads), .d (L c.cons)], .box [.d (I s0), .d (I s1), .d (I s2), .d (I s3)], .box [.func 40 [.ptr 1 0]]]⟩
def B (c : Ci) (s0 s1 s2 s3 : Int) : St := ⟨mk 80 [(2, .d (I 8))] [], [.box [.d (I c.ins), .d (.sl (c.lats.map Lt.d)), .d (.sl (c.ands.map An.d)), .d (L c.bads), .d (L c.cons)], .box [.d (I s0), .d (I s1), .d (I s2), .d (I s3)], .box [.func 40 [.ptr 1 0]]]⟩
def E (c : Ci) (s0 s1 s2 s3 : Int) : St := ⟨mk 80 [] [], [.box [.d (I c.ins), .d (.sl (c.lats.map Lt.d)), .d (.sl (c.ands.map An.d)), .d (L c.bads), .d (L c.cons)], .box [.d (I s0), .d (I s1), .d (I s2), .d (I s3)], .box [.func 40 [.ptr 1 0]]]⟩
theorem rd1 : round Tryd.prog wr false O (loopOf Tryd.prog 26 0) (H c s0 s1 s2 s3 i) [It.br true, It.el i (c.ands.getD i default).d, .br true] [2] 3 = some (.ret, B c s0 s1 s2 s3, [decide ((↑i : Int) < (((c.ands.map An.d).length : Nat) : Int)) = true, (↑i : Int) = (↑i : Int) ∧ (c.ands.map An.d)[i]? = some (c.ands.getD i default).d, decide ((c.ands.getD i default).b < 0) = true]) := by kernel_rfl
theorem rd2 : round Tryd.prog wr false O (loopOf Tryd.prog 26 0) (H c s0 s1 s2 s3 i) [It.br true, It.el i (c.ands.getD i default).d, .br false, .br true] [2] 3 = some (.ret, B c s0 s1 s2 s3, [decide ((↑i : Int) < (((c.ands.map An.d).length : Nat) : Int)) = true, (↑i : Int) = (↑i : Int) ∧ (c.ands.map An.d)[i]? = some (c.ands.getD i default).d, decide ((c.ands.getD i default).b < 0) = false, decide ((c.ands.getD i default).a < (c.ands.getD i default).b) = true]) := by kernel_rfl
theorem rd3 : round Tryd.prog wr false O (loopOf Tryd.prog 26 0) (H c s0 s1 s2 s3 i) [It.br true, It.el i (c.ands.getD i default).d, .br false, .br false, .is (s2 + (↑i : Int)), .is (2 * (s2 + (↑i : Int))), .br true] [2] 3 = some (.ret, B c s0 s1 s2 s3, [decide ((↑i : Int) < (((c.ands.map An.d).length : Nat) : Int)) = true, (↑i : Int) = (↑i : Int) ∧ (c.ands.map An.d)[i]? = some (c.ands.getD i default).d, decide ((c.ands.getD i default).b < 0) = false, decide ((c.ands.getD i default).a < (c.ands.getD i default).b) = false, IntKind.i64.wrap (s2 + (↑i : Int)) = s2 + (↑i : Int), IntKind.i64.wrap (2 * (s2 + (↑i : Int))) = 2 * (s2 + (↑i : Int)), decide ((c.ands.getD i default).a ≥ 2 * (s2 + (↑i : Int))) = true]) := by kernel_rfl
theorem rd4 : round Tryd.prog wr false O (loopOf Tryd.prog 26 0) (H c s0 s1 s2 s3 i) [It.br true, It.el i (c.ands.getD i default).d, .br false, .br false, .is (s2 + (↑i : Int)), .is (2 * (s2 + (↑i : Int))), .br false, .is ((i + 1 : Nat) : Int)] [3, 52, 53, 54] 3 = some (.normal, H c s0 s1 s2 s3 (i + 1), [decide ((↑i : Int) < (((c.ands.map An.d).length : Nat) : Int)) = true, (↑i : Int) = (↑i : Int) ∧ (c.ands.map An.d)[i]? = some (c.ands.getD i default).d, decide ((c.ands.getD i default).b < 0) = false, decide ((c.ands.getD i default).a < (c.ands.getD i default).b) = false, IntKind.i64.wrap (s2 + (↑i : Int)) = s2 + (↑i : Int), IntKind.i64.wrap (2 * (s2 + (↑i : Int))) = 2 * (s2 + (↑i : Int)), decide ((c.ands.getD i default).a ≥ 2 * (s2 + (↑i : Int))) = false, IntKind.i64.wrap ((i : Int) + 1) = ((i + 1 : Nat) : Int)]) := by kernel_rfl
theorem rd5 : round Tryd.prog wr false O (loopOf Tryd.prog 26 0) (H c s0 s1 s2 s3 i) [.br false] [] 3 = some (.exit 0, E c s0 s1 s2 s3, [decide ((↑i : Int) < (((c.ands.map An.d).length : Nat) : Int)) = false]) := by kernel_rfl
end
theorem loop (c : Ci) (s0 s1 s2 s3 : Int) (hl : c.ands.length ≤ 1000000) (hs : 0 ≤ s2 ∧ s2 ≤ 3000000) :
    (anyIx (badA s2) c.ands 0 = true → GoesL Tryd.prog (loopOf Tryd.prog 26 0) (H c s0 s1 s2 s3 0) .ret (B c s0 s1 s2 s3)) ∧ (anyIx (badA s2) c.ands 0 = false → GoesL Tryd.prog (loopOf Tryd.prog 26 0) (H c s0 s1 s2 s3 0) (.exit 0) (E c s0 s1 s2 s3)) := by
  have hlt : ∀ i, i < c.ands.length → decide ((↑i : Int) < (((c.ands.map An.d).length : Nat) : Int)) = true := fun i h => by simp; omega
  have w1 : ∀ i : Nat, i < c.ands.length → IntKind.i64.wrap (s2 + (↑i : Int)) = s2 + (↑i : Int) := fun i h => wrap_id (by omega) (by omega)
  have w2 : ∀ i : Nat, i < c.ands.length → IntKind.i64.wrap (2 * (s2 + (↑i : Int))) = 2 * (s2 + (↑i : Int)) := fun i h => wrap_id (by omega) (by omega)
  have := any_ix c.ands (fun i => H c s0 s1 s2 s3 i) .ret (.exit 0) (B c s0 s1 s2 s3) (E c s0 s1 s2 s3) (badA s2)
    (fun i h hb => by
      by_cases c1 : (c.ands.getD i default).b < 0
      · exact .stop hO hm (rd1 c s0 s1 s2 s3 i) (by simp) ⟨hlt i h, ⟨rfl, get_map An.d c.ands i h⟩, decide_eq_true c1⟩
      · by_cases c2 : (c.ands.getD i default).a < (c.ands.getD i default).b
        · exact .stop hO hm (rd2 c s0 s1 s2 s3 i) (by simp) ⟨hlt i h, ⟨rfl, get_map An.d c.ands i h⟩, decide_eq_false c1, decide_eq_true c2⟩
        · refine .stop hO hm (rd3 c s0 s1 s2 s3 i) (by simp) ⟨hlt i h, ⟨rfl, get_map An.d c.ands i h⟩, decide_eq_false c1, decide_eq_false c2, w1 i h, w2 i h, ?_⟩
          unfold badA at hb
          rw [decide_eq_false c1, decide_eq_false c2, Bool.false_or, Bool.false_or] at hb
          exact hb)
    (fun i h hb e s hg => by
      unfold badA at hb
      rw [Bool.or_eq_false_iff, Bool.or_eq_false_iff] at hb
      exact .step hO hm (rd4 c s0 s1 s2 s3 i) ⟨hlt i h, ⟨rfl, get_map An.d c.ands i h⟩, hb.1, hb.2.1, w1 i h, w2 i h, hb.2.2, wrap_succ (by omega)⟩ hg)
    (.stop hO hm (rd5 c s0 s1 s2 s3 c.ands.length) (by simp) (by simp [AllP])) c.ands.length 0 rfl (by omega)
  rwa [List.drop_zero] at this
section
variable (c : Ci)
theorem f1 : callX Tryd.prog wr false O 26 [.d c.d] [] [.br true] = some (.d (I 8), [], [decide (c.ins < 0) = true]) := by kernel_rfl
theorem f2 : callX Tryd.prog wr false O 26 [.d c.d] [] [.br false, .br true] = some (.d (I 4), [], [decide (c.ins < 0) = false, decide (c.ins > 1000) = true]) := by kernel_rfl
theorem f3 : callX Tryd.prog wr false O 26 [.d c.d] [] [.br false, .br false, .ret (.d (.agg [I 1, I (st1 c), I (st2 c), I (st3 c)])), .is (st3 c - 1), .br true] = some (.d (I 4), [], [decide (c.ins < 0) = false, decide (c.ins > 1000) = false, (ICall Tryd.prog 39 [.d c.d] [] (.d (.agg [I 1, I (st1 c), I (st2 c), I (st3 c)])) [] ∧ (([] : List Nat) = [] ∨ V.safe (.d (.agg [I 1, I (st1 c), I (st2 c), I (st3 c)])) = true)), IntKind.i64.wrap (st3 c - 1) = st3 c - 1, decide (st3 c - 1 > 1000) = true]) := by kernel_rfl
theorem f4 : callX Tryd.prog wr false O 26 [.d c.d] [] [.br false, .br false, .ret (.d (.agg [I 1, I (st1 c), I (st2 c), I (st3 c)])), .is (st3 c - 1), .br false, .is (if ((c.cons.map I).length : Int) > ((c.bads.map I).length : Int) then ((c.cons.map I).length : Int) else ((c.bads.map I).length : Int)), .br true] = some (.d (I 4), [], [decide (c.ins < 0) = false, decide (c.ins > 1000) = false, (ICall Tryd.prog 39 [.d c.d] [] (.d (.agg [I 1, I (st1 c), I (st2 c), I (st3 c)])) [] ∧ (([] : List Nat) = [] ∨ V.safe (.d (.agg [I 1, I (st1 c), I (st2 c), I (st3 c)])) = true)), IntKind.i64.wrap (st3 c - 1) = st3 c - 1, decide (st3 c - 1 > 1000) = false, (if ((c.cons.map I).length : Int) > ((c.bads.map I).length : Int) then ((c.cons.map I).length : Int) else ((c.bads.map I).length : Int)) = (if ((c.cons.map I).length : Int) > ((c.bads.map I).length : Int) then ((c.cons.map I).length : Int) else ((c.bads.map I).length : Int)), decide ((if ((c.cons.map I).length : Int) > ((c.bads.map I).length : Int) then ((c.cons.map I).length : Int) else ((c.bads.map I).length : Int)) > 100) = true]) := by kernel_rfl
theorem f5 : callX Tryd.prog wr false O 26 [.d c.d] [] [.br false, .br false, .ret (.d (.agg [I 1, I (st1 c), I (st2 c), I (st3 c)])), .is (st3 c - 1), .br false, .is (if ((c.cons.map I).length : Int) > ((c.bads.map I).length : Int) then ((c.cons.map I).length : Int) else ((c.bads.map I).length : Int)), .br false, .ret (.d (.agg [I 1, I (st1 c), I (st2 c), I (st3 c)])), .icall [1] (.d (.bool true)) [.box [.d (I 1), .d (I (st1 c)), .d (I (st2 c)), .d (I (st3 c))]]] = some (.d (I 8), [], [decide (c.ins < 0) = false, decide (c.ins > 1000) = false, (ICall Tryd.prog 39 [.d c.d] [] (.d (.agg [I 1, I (st1 c), I (st2 c), I (st3 c)])) [] ∧ (([] : List Nat) = [] ∨ V.safe (.d (.agg [I 1, I (st1 c), I (st2 c), I (st3 c)])) = true)), IntKind.i64.wrap (st3 c - 1) = st3 c - 1, decide (st3 c - 1 > 1000) = false, (if ((c.cons.map I).length : Int) > ((c.bads.map I).length : Int) then ((c.cons.map I).length : Int) else ((c.bads.map I).length : Int)) = (if ((c.cons.map I).length : Int) > ((c.bads.map I).length : Int) then ((c.cons.map I).length : Int) else ((c.bads.map I).length : Int)), decide ((if ((c.cons.map I).length : Int) > ((c.bads.map I).length : Int) then ((c.cons.map I).length : Int) else ((c.bads.map I).length : Int)) > 100) = false, (ICall Tryd.prog 39 [.d c.d] [] (.d (.agg [I 1, I (st1 c), I (st2 c), I (st3 c)])) [] ∧ (([] : List Nat) = [] ∨ V.safe (.d (.agg [I 1, I (st1 c), I (st2 c), I (st3 c)])) = true)), ICall Tryd.prog 42 [.d (L c.bads), .func 40 [.ptr 0 0]] [.box [.d (I 1), .d (I (st1 c)), .d (I (st2 c)), .d (I (st3 c))]] (.d (.bool true)) [.box [.d (I 1), .d (I (st1 c)), .d (I (st2 c)), .d (I (st3 c))]]]) := by kernel_rfl
theorem f6 : callX Tryd.prog wr false O 26 [.d c.d] [] [.br false, .br false, .ret (.d (.agg [I 1, I (st1 c), I (st2 c), I (st3 c)])), .is (st3 c - 1), .br false, .is (if ((c.cons.map I).length : Int) > ((c.bads.map I).length : Int) then ((c.cons.map I).length : Int) else ((c.bads.map I).length : Int)), .br false, .ret (.d (.agg [I 1, I (st1 c), I (st2 c), I (st3 c)])), .icall [1] (.d (.bool false)) [.box [.d (I 1), .d (I (st1 c)), .d (I (st2 c)), .d (I (st3 c))]], .icall [1] (.d (.bool true)) [.box [.d (I 1), .d (I (st1 c)), .d (I (st2 c)), .d (I (st3 c))]]] = some (.d (I 8), [], [decide (c.ins < 0) = false, decide (c.ins > 1000) = false, (ICall Tryd.prog 39 [.d c.d] [] (.d (.agg [I 1, I (st1 c), I (st2 c), I (st3 c)])) [] ∧ (([] : List Nat) = [] ∨ V.safe (.d (.agg [I 1, I (st1 c), I (st2 c), I (st3 c)])) = true)), IntKind.i64.wrap (st3 c - 1) = st3 c - 1, decide (st3 c - 1 > 1000) = false, (if ((c.cons.map I).length : Int) > ((c.bads.map I).length : Int) then ((c.cons.map I).length : Int) else ((c.bads.map I).length : Int)) = (if ((c.cons.map I).length : Int) > ((c.bads.map I).length : Int) then ((c.cons.map I).length : Int) else ((c.bads.map I).length : Int)), decide ((if ((c.cons.map I).length : Int) > ((c.bads.map I).length : Int) then ((c.cons.map I).length : Int) else ((c.bads.map I).length : Int)) > 100) = false, (ICall Tryd.prog 39 [.d c.d] [] (.d (.agg [I 1, I (st1 c), I (st2 c), I (st3 c)])) [] ∧ (([] : List Nat) = [] ∨ V.safe (.d (.agg [I 1, I (st1 c), I (st2 c), I (st3 c)])) = true)), ICall Tryd.prog 42 [.d (L c.bads), .func 40 [.ptr 0 0]] [.box [.d (I 1), .d (I (st1 c)), .d (I (st2 c)), .d (I (st3 c))]] (.d (.bool false)) [.box [.d (I 1), .d (I (st1 c)), .d (I (st2 c)), .d (I (st3 c))]], ICall Tryd.prog 42 [.d (L c.cons), .func 40 [.ptr 0 0]] [.box [.d (I 1), .d (I (st1 c)), .d (I (st2 c)), .d (I (st3 c))]] (.d (.bool true)) [.box [.d (I 1), .d (I (st1 c)), .d (I (st2 c)), .d (I (st3 c))]]]) := by kernel_rfl
theorem f7 : callX Tryd.prog wr false O 26 [.d c.d] [] [.br false, .br false, .ret (.d (.agg [I 1, I (st1 c), I (st2 c), I (st3 c)])), .is (st3 c - 1), .br false, .is (if ((c.cons.map I).length : Int) > ((c.bads.map I).length : Int) then ((c.cons.map I).length : Int) else ((c.bads.map I).length : Int)), .br false, .ret (.d (.agg [I 1, I (st1 c), I (st2 c), I (st3 c)])), .icall [1] (.d (.bool false)) [.box [.d (I 1), .d (I (st1 c)), .d (I (st2 c)), .d (I (st3 c))]], .icall [1] (.d (.bool false)) [.box [.d (I 1), .d (I (st1 c)), .d (I (st2 c)), .d (I (st3 c))]], .icall [2, 1] (.d (.bool true)) [.box [.func 40 [.ptr 1 0]], .box [.d (I 1), .d (I (st1 c)), .d (I (st2 c)), .d (I (st3 c))]]] = some (.d (I 8), [], [decide (c.ins < 0) = false, decide (c.ins > 1000) = false, (ICall Tryd.prog 39 [.d c.d] [] (.d (.agg [I 1, I (st1 c), I (st2 c), I (st3 c)])) [] ∧ (([] : List Nat) = [] ∨ V.safe (.d (.agg [I 1, I (st1 c), I (st2 c), I (st3 c)])) = true)), IntKind.i64.wrap (st3 c - 1) = st3 c - 1, decide (st3 c - 1 > 1000) = false, (if ((c.cons.map I).length : Int) > ((c.bads.map I).length : Int) then ((c.cons.map I).length : Int) else ((c.bads.map I).length : Int)) = (if ((c.cons.map I).length : Int) > ((c.bads.map I).length : Int) then ((c.cons.map I).length : Int) else ((c.bads.map I).length : Int)), decide ((if ((c.cons.map I).length : Int) > ((c.bads.map I).length : Int) then ((c.cons.map I).length : Int) else ((c.bads.map I).length : Int)) > 100) = false, (ICall Tryd.prog 39 [.d c.d] [] (.d (.agg [I 1, I (st1 c), I (st2 c), I (st3 c)])) [] ∧ (([] : List Nat) = [] ∨ V.safe (.d (.agg [I 1, I (st1 c), I (st2 c), I (st3 c)])) = true)), ICall Tryd.prog 42 [.d (L c.bads), .func 40 [.ptr 0 0]] [.box [.d (I 1), .d (I (st1 c)), .d (I (st2 c)), .d (I (st3 c))]] (.d (.bool false)) [.box [.d (I 1), .d (I (st1 c)), .d (I (st2 c)), .d (I (st3 c))]], ICall Tryd.prog 42 [.d (L c.cons), .func 40 [.ptr 0 0]] [.box [.d (I 1), .d (I (st1 c)), .d (I (st2 c)), .d (I (st3 c))]] (.d (.bool false)) [.box [.d (I 1), .d (I (st1 c)), .d (I (st2 c)), .d (I (st3 c))]], ICall Tryd.prog 43 [.d (.sl (c.lats.map Lt.d)), .func 41 [.ptr 0 0]] [.box [.func 40 [.ptr 1 0]], .box [.d (I 1), .d (I (st1 c)), .d (I (st2 c)), .d (I (st3 c))]] (.d (.bool true)) [.box [.func 40 [.ptr 1 0]], .box [.d (I 1), .d (I (st1 c)), .d (I (st2 c)), .d (I (st3 c))]]]) := by kernel_rfl
theorem f8 : callX Tryd.prog wr false O 26 [.d c.d] [] [.br false, .br false, .ret (.d (.agg [I 1, I (st1 c), I (st2 c), I (st3 c)])), .is (st3 c - 1), .br false, .is (if ((c.cons.map I).length : Int) > ((c.bads.map I).length : Int) then ((c.cons.map I).length : Int) else ((c.bads.map I).length : Int)), .br false, .ret (.d (.agg [I 1, I (st1 c), I (st2 c), I (st3 c)])), .icall [1] (.d (.bool false)) [.box [.d (I 1), .d (I (st1 c)), .d (I (st2 c)), .d (I (st3 c))]], .icall [1] (.d (.bool false)) [.box [.d (I 1), .d (I (st1 c)), .d (I (st2 c)), .d (I (st3 c))]], .icall [2, 1] (.d (.bool false)) [.box [.func 40 [.ptr 1 0]], .box [.d (I 1), .d (I (st1 c)), .d (I (st2 c)), .d (I (st3 c))]], .lp [3, 52, 53, 54] .ret (B c 1 (st1 c) (st2 c) (st3 c))] = some (.d (I 8), [], [decide (c.ins < 0) = false, decide (c.ins > 1000) = false, (ICall Tryd.prog 39 [.d c.d] [] (.d (.agg [I 1, I (st1 c), I (st2 c), I (st3 c)])) [] ∧ (([] : List Nat) = [] ∨ V.safe (.d (.agg [I 1, I (st1 c), I (st2 c), I (st3 c)])) = true)), IntKind.i64.wrap (st3 c - 1) = st3 c - 1, decide (st3 c - 1 > 1000) = false, (if ((c.cons.map I).length : Int) > ((c.bads.map I).length : Int) then ((c.cons.map I).length : Int) else ((c.bads.map I).length : Int)) = (if ((c.cons.map I).length : Int) > ((c.bads.map I).length : Int) then ((c.cons.map I).length : Int) else ((c.bads.map I).length : Int)), decide ((if ((c.cons.map I).length : Int) > ((c.bads.map I).length : Int) then ((c.cons.map I).length : Int) else ((c.bads.map I).length : Int)) > 100) = false, (ICall Tryd.prog 39 [.d c.d] [] (.d (.agg [I 1, I (st1 c), I (st2 c), I (st3 c)])) [] ∧ (([] : List Nat) = [] ∨ V.safe (.d (.agg [I 1, I (st1 c), I (st2 c), I (st3 c)])) = true)), ICall Tryd.prog 42 [.d (L c.bads), .func 40 [.ptr 0 0]] [.box [.d (I 1), .d (I (st1 c)), .d (I (st2 c)), .d (I (st3 c))]] (.d (.bool false)) [.box [.d (I 1), .d (I (st1 c)), .d (I (st2 c)), .d (I (st3 c))]], ICall Tryd.prog 42 [.d (L c.cons), .func 40 [.ptr 0 0]] [.box [.d (I 1), .d (I (st1 c)), .d (I (st2 c)), .d (I (st3 c))]] (.d (.bool false)) [.box [.d (I 1), .d (I (st1 c)), .d (I (st2 c)), .d (I (st3 c))]], ICall Tryd.prog 43 [.d (.sl (c.lats.map Lt.d)), .func 41 [.ptr 0 0]] [.box [.func 40 [.ptr 1 0]], .box [.d (I 1), .d (I (st1 c)), .d (I (st2 c)), .d (I (st3 c))]] (.d (.bool false)) [.box [.func 40 [.ptr 1 0]], .box [.d (I 1), .d (I (st1 c)), .d (I (st2 c)), .d (I (st3 c))]], GoesL Tryd.prog (loopOf Tryd.prog 26 0) (H c 1 (st1 c) (st2 c) (st3 c) 0) .ret (B c 1 (st1 c) (st2 c) (st3 c))]) := by kernel_rfl
theorem f9 : callX Tryd.prog wr false O 26 [.d c.d] [] [.br false, .br false, .ret (.d (.agg [I 1, I (st1 c), I (st2 c), I (st3 c)])), .is (st3 c - 1), .br false, .is (if ((c.cons.map I).length : Int) > ((c.bads.map I).length : Int) then ((c.cons.map I).length : Int) else ((c.bads.map I).length : Int)), .br false, .ret (.d (.agg [I 1, I (st1 c), I (st2 c), I (st3 c)])), .icall [1] (.d (.bool false)) [.box [.d (I 1), .d (I (st1 c)), .d (I (st2 c)), .d (I (st3 c))]], .icall [1] (.d (.bool false)) [.box [.d (I 1), .d (I (st1 c)), .d (I (st2 c)), .d (I (st3 c))]], .icall [2, 1] (.d (.bool false)) [.box [.func 40 [.ptr 1 0]], .box [.d (I 1), .d (I (st1 c)), .d (I (st2 c)), .d (I (st3 c))]], .lp [3, 52, 53, 54] (.exit 0) (E c 1 (st1 c) (st2 c) (st3 c))] = some (.d (I 0), [], [decide (c.ins < 0) = false, decide (c.ins > 1000) = false, (ICall Tryd.prog 39 [.d c.d] [] (.d (.agg [I 1, I (st1 c), I (st2 c), I (st3 c)])) [] ∧ (([] : List Nat) = [] ∨ V.safe (.d (.agg [I 1, I (st1 c), I (st2 c), I (st3 c)])) = true)), IntKind.i64.wrap (st3 c - 1) = st3 c - 1, decide (st3 c - 1 > 1000) = false, (if ((c.cons.map I).length : Int) > ((c.bads.map I).length : Int) then ((c.cons.map I).length : Int) else ((c.bads.map I).length : Int)) = (if ((c.cons.map I).length : Int) > ((c.bads.map I).length : Int) then ((c.cons.map I).length : Int) else ((c.bads.map I).length : Int)), decide ((if ((c.cons.map I).length : Int) > ((c.bads.map I).length : Int) then ((c.cons.map I).length : Int) else ((c.bads.map I).length : Int)) > 100) = false, (ICall Tryd.prog 39 [.d c.d] [] (.d (.agg [I 1, I (st1 c), I (st2 c), I (st3 c)])) [] ∧ (([] : List Nat) = [] ∨ V.safe (.d (.agg [I 1, I (st1 c), I (st2 c), I (st3 c)])) = true)), ICall Tryd.prog 42 [.d (L c.bads), .func 40 [.ptr 0 0]] [.box [.d (I 1), .d (I (st1 c)), .d (I (st2 c)), .d (I (st3 c))]] (.d (.bool false)) [.box [.d (I 1), .d (I (st1 c)), .d (I (st2 c)), .d (I (st3 c))]], ICall Tryd.prog 42 [.d (L c.cons), .func 40 [.ptr 0 0]] [.box [.d (I 1), .d (I (st1 c)), .d (I (st2 c)), .d (I (st3 c))]] (.d (.bool false)) [.box [.d (I 1), .d (I (st1 c)), .d (I (st2 c)), .d (I (st3 c))]], ICall Tryd.prog 43 [.d (.sl (c.lats.map Lt.d)), .func 41 [.ptr 0 0]] [.box [.func 40 [.ptr 1 0]], .box [.d (I 1), .d (I (st1 c)), .d (I (st2 c)), .d (I (st3 c))]] (.d (.bool false)) [.box [.func 40 [.ptr 1 0]], .box [.d (I 1), .d (I (st1 c)), .d (I (st2 c)), .d (I (st3 c))]], GoesL Tryd.prog (loopOf Tryd.prog 26 0) (H c 1 (st1 c) (st2 c) (st3 c) 0) (.exit 0) (E c 1 (st1 c) (st2 c) (st3 c))]) := by kernel_rfl
end
theorem icall (c : Ci) (h2 : c.lats.length ≤ 1000000) (h3 : c.ands.length ≤ 1000000) (h4 : c.bads.length ≤ 1000000) (h5 : c.cons.length ≤ 1000000) : ICall Tryd.prog 26 [.d c.d] [] (.d (I (chk c))) [] := by
  unfold chk
  by_cases c1 : c.ins < 0
  · rw [if_pos c1]; exact callX_ok hO hm (f1 c) (by simpa [AllP] using c1)
  rw [if_neg c1]
  have k1 : decide (c.ins < 0) = false := decide_eq_false c1
  by_cases c2 : c.ins > 1000
  · rw [if_pos c2]; exact callX_ok hO hm (f2 c) ⟨k1, decide_eq_true c2⟩
  rw [if_neg c2]
  have k2 : decide (c.ins > 1000) = false := decide_eq_false c2
  have hs : (ICall Tryd.prog 39 [.d c.d] [] (.d (.agg [I 1, I (st1 c), I (st2 c), I (st3 c)])) [] ∧ (([] : List Nat) = [] ∨ V.safe (.d (.agg [I 1, I (st1 c), I (st2 c), I (st3 c)])) = true)) := ⟨starts c (by omega) (by omega) h2 h3, .inl rfl⟩
  have w3 : IntKind.i64.wrap (st3 c - 1) = st3 c - 1 := by simp only [st3, List.length_map]; exact wrap_id (by omega) (by omega)
  by_cases c3 : st3 c - 1 > 1000
  · rw [if_pos c3]; exact callX_ok hO hm (f3 c) ⟨k1, k2, hs, w3, decide_eq_true c3⟩
  rw [if_neg c3]
  have k3 : decide (st3 c - 1 > 1000) = false := decide_eq_false c3
  by_cases c4 : (if ((c.cons.map I).length : Int) > ((c.bads.map I).length : Int) then ((c.cons.map I).length : Int) else ((c.bads.map I).length : Int)) > 100
  · rw [if_pos c4]; exact callX_ok hO hm (f4 c) ⟨k1, k2, hs, w3, k3, rfl, decide_eq_true c4⟩
  rw [if_neg c4]
  have k4 : decide ((if ((c.cons.map I).length : Int) > ((c.bads.map I).length : Int) then ((c.cons.map I).length : Int) else ((c.bads.map I).length : Int)) > 100) = false := decide_eq_false c4
  have hb := Gc1.icall 1 (st1 c) (st2 c) (st3 c) c.bads h4 (fun x _ => out x 1 (st1 c) (st2 c) (st3 c))
  have hc := Gc1.icall 1 (st1 c) (st2 c) (st3 c) c.cons h5 (fun x _ => out x 1 (st1 c) (st2 c) (st3 c))
  have hl := Gc2.icall 1 (st1 c) (st2 c) (st3 c) c.lats h2 (fun x _ => wrong x 1 (st1 c) (st2 c) (st3 c))
  cases e1 : c.bads.any (outB (st3 c)) with
  | true => rw [e1] at hb; exact callX_ok hO hm (f5 c) ⟨k1, k2, hs, w3, k3, rfl, k4, hs, hb⟩
  | false =>
  rw [e1] at hb
  cases e2 : c.cons.any (outB (st3 c)) with
  | true => rw [e2] at hc; exact callX_ok hO hm (f6 c) ⟨k1, k2, hs, w3, k3, rfl, k4, hs, hb, hc⟩
  | false =>
  rw [e2] at hc
  cases e3 : c.lats.any (wrongB (st3 c)) with
  | true => rw [e3] at hl; exact callX_ok hO hm (f7 c) ⟨k1, k2, hs, w3, k3, rfl, k4, hs, hb, hc, hl⟩
  | false =>
  rw [e3] at hl
  obtain ⟨l1, l2⟩ := loop c 1 (st1 c) (st2 c) (st3 c) h3 (by simp only [st2, List.length_map]; omega)
  cases e4 : anyIx (badA (st2 c)) c.ands 0 with
  | true => exact callX_ok hO hm (f8 c) ⟨k1, k2, hs, w3, k3, rfl, k4, hs, hb, hc, hl, l1 e4⟩
  | false => exact callX_ok hO hm (f9 c) ⟨k1, k2, hs, w3, k3, rfl, k4, hs, hb, hc, hl, l2 e4⟩
end Go.Proofs.YtbamhlgkoimjoaaDoor.Sy.Gates
/- order.Raw, gates.Vars, ref02.Check, ref03.Of, ascii.Text: round by round. -/
namespace Go.Proofs.YtbamhlgkoimjoaaDoor.Sy.Tx
open Go Go.Proofs.YtbamhlgkoimjoaaDoor.Ab Go.Proofs.YtbamhlgkoimjoaaDoor.Sy
set_option maxRecDepth 1000000
set_option linter.unusedVariables false
def Bc (c : Ci) : B := .box [.d (I c.ins), .d (.sl (c.lats.map Lt.d)), .d (.sl (c.ands.map An.d)), .d (L c.bads), .d (L c.cons)]
def B0 : B := .box [.d (I 0), .emp true, .emp true, .emp true, .emp true, .emp true]
def Hk (c : Ci) (n : Int) (sl : List (Nat × V)) : St := ⟨mk 115 ([(1, .ptr 0 0), (3, .d (I n))] ++ sl) [], [Bc c]⟩
def Rk (c : Ci) : St := ⟨mk 115 [(2, .d (I 8))] [], [Bc c]⟩
def Hl (ls : List Int) (n : Int) (i : Nat) : St := ⟨mk 26 [(0, .d (L ls)), (1, .d (I n)), (5, .d (I i))] [], []⟩
def Rl : St := ⟨mk 26 [(4, .d (.bool false))] [], []⟩
def El : St := ⟨mk 26 [] [], []⟩
section
variable (c : Ci) (n e x lit v s1 s2 : Int) (i : Nat) (ls : List Int) (a b d : List D) (r : Rw) (st : List UInt8) (t : Bool) (n1 n2 n3 : Int) (a1 a2 a3 b1 b2 b3 d1 d2 d3 : List D)
theorem gv1  : callX Tryd.prog wr false O 54 [.d c.d] [] [It.icall [] (V.d (I e)) [], It.br true] = some (V.tup [V.d (D.int IntKind.i64 0), V.d (D.int IntKind.i64 e)], [],
  [ICall Tryd.prog 26 [V.d (D.agg [I c.ins, D.sl (List.map Lt.d c.lats), D.sl (List.map An.d c.ands), L c.bads, L c.cons])] [] (V.d (I e)) [],
   (e != 0) = true]) := by kernel_rfl
theorem gv0  : callX Tryd.prog wr false O 54 [.d c.d] [] [It.icall [] (V.d (I 0)) [], It.br false, It.icall [] (V.d (D.agg [I 1, I s1, I s2, I x])) [], It.is (x - 1)] = some (V.tup [V.d (D.int IntKind.i64 (x - 1)), V.d (D.int IntKind.i64 0)], [],
  [ICall Tryd.prog 26 [V.d (D.agg [I c.ins, D.sl (List.map Lt.d c.lats), D.sl (List.map An.d c.ands), L c.bads, L c.cons])] [] (V.d (I 0)) [],
   (0 != 0) = false,
   ICall Tryd.prog 39 [V.d (D.agg [I c.ins, D.sl (List.map Lt.d c.lats), D.sl (List.map An.d c.ands), L c.bads, L c.cons])] [] (V.d (D.agg [I 1, I s1, I s2, I x])) [],
   IntKind.i64.wrap (x - 1) = x - 1]) := by kernel_rfl
end
end Go.Proofs.YtbamhlgkoimjoaaDoor.Sy.Tx
/- gates.Vars, ref02.literals, Size, Check, whole. -/
namespace Go.Proofs.YtbamhlgkoimjoaaDoor.Pl
end Go.Proofs.YtbamhlgkoimjoaaDoor.Pl
namespace Go.Proofs.YtbamhlgkoimjoaaDoor.Sy.Tx
open Go Go.Proofs.YtbamhlgkoimjoaaDoor.Ab Go.Proofs.YtbamhlgkoimjoaaDoor.Sy Go.Proofs.YtbamhlgkoimjoaaDoor.Pl
set_option maxRecDepth 1000000
set_option linter.unusedVariables false
/-- A circuit that is not great, of numbers that an int holds. -/
structure Cw (c : Ci) : Prop where
  lats : c.lats.length ≤ 2000
  ands : c.ands.length ≤ 2000
  bads : c.bads.length ≤ 2000
  cons : c.cons.length ≤ 2000
  xb : ∀ x ∈ c.bads, x ≤ 9223372036854775807
  xc : ∀ x ∈ c.cons, x ≤ 9223372036854775807
  xl : ∀ l ∈ c.lats, l.next ≤ 9223372036854775807
  xa : ∀ g ∈ c.ands, g.a ≤ 9223372036854775807
  xd : ∀ g ∈ c.ands, g.b ≤ 9223372036854775807
def szC (c : Ci) : Int := c.ins + (c.lats.length : Int) + (c.ands.length : Int)
theorem st3_sz (c : Ci) : st3 c = szC c + 1 := by simp only [st3, szC, List.length_map]; omega
theorem mem_getD {α : Type} [Inhabited α] {l : List α} {i : Nat} (h : i < l.length) : l.getD i default ∈ l := by
  rw [List.getD_eq_getElem?_getD, List.getElem?_eq_getElem h]; exact List.getElem_mem h
theorem quo {x : Int} (h0 : ¬ x < 0) (h1 : x ≤ 9223372036854775807) : IntKind.i64.wrap (x.tdiv 2) = x / 2 := by
  rw [Int.tdiv_eq_ediv_of_nonneg (by omega), wrap_id (by omega) (by omega)]
def badL (n : Int) (l : Lt) : Bool := wrongB (n + 1) l
/-- The reference's check and the program's answer alike. -/
theorem gates_check {c : Ci} (h : Cw c) : ICall Tryd.prog 26 [.d c.d] [] (.d (I (Gates.chk c))) [] :=
  Gates.icall c (by have := h.lats; omega) (by have := h.ands; omega) (by have := h.bads; omega) (by have := h.cons; omega)
theorem chk_ins {c : Ci} (hc : Gates.chk c = 0) : 0 ≤ c.ins ∧ c.ins ≤ 1000 ∧ szC c ≤ 1000 := by
  unfold Gates.chk at hc
  by_cases c1 : c.ins < 0
  · rw [if_pos c1] at hc; cases hc
  rw [if_neg c1] at hc
  by_cases c2 : c.ins > 1000
  · rw [if_pos c2] at hc; cases hc
  rw [if_neg c2] at hc
  by_cases c3 : st3 c - 1 > 1000
  · rw [if_pos c3] at hc; cases hc
  rw [st3_sz] at c3
  omega
theorem vars_bad {c : Ci} (h : Cw c) (hc : Gates.chk c ≠ 0) : ICall Tryd.prog 54 [.d c.d] [] (.tup [.d (I 0), .d (I (Gates.chk c))]) [] :=
  callX_ok hO hm (gv1 c (Gates.chk c)) ⟨gates_check h, bne_iff_ne.2 hc⟩
theorem vars_good {c : Ci} (h : Cw c) (hc : Gates.chk c = 0) : ICall Tryd.prog 54 [.d c.d] [] (.tup [.d (I (szC c)), .d (I 0)]) [] := by
  have hck := gates_check h
  rw [hc] at hck
  have hi := chk_ins hc
  have h1 := h.lats
  have h2 := h.ands
  have hz : 0 ≤ szC c := by unfold szC; omega
  have := callX_ok hO hm (gv0 c (st3 c) (st1 c) (st2 c)) ⟨hck, rfl, Sy.starts c (by omega) (by omega) (by omega) (by omega), by
    show IntKind.i64.wrap _ = _
    rw [st3_sz]; exact wrap_id (by omega) (by omega)⟩
  rw [st3_sz, show szC c + 1 - 1 = szC c by omega] at this
  exact this
/-- Numbers that an int holds. -/
structure Cx (c : Ci) : Prop where
  xb : ∀ x ∈ c.bads, x ≤ 9223372036854775807
  xc : ∀ x ∈ c.cons, x ≤ 9223372036854775807
  xl : ∀ l ∈ c.lats, l.next ≤ 9223372036854775807
  xa : ∀ g ∈ c.ands, g.a ≤ 9223372036854775807
  xd : ∀ g ∈ c.ands, g.b ≤ 9223372036854775807
def great2 (c : Ci) : Bool := decide ((c.lats.length : Int) > 60) || (decide ((c.ands.length : Int) > 120) || (decide ((c.bads.length : Int) > 110) || (decide ((c.cons.length : Int) > 110) || (decide (c.ins > 40) && decide (c.ins < 996)))))
theorem cw_of {c : Ci} (hg : great2 c = false) (hx : Cx c) : Cw c := by
  unfold great2 at hg
  simp only [Bool.or_eq_false_iff, decide_eq_false_iff_not] at hg
  obtain ⟨g1, g2, g3, g4, -⟩ := hg
  exact ⟨by omega, by omega, by omega, by omega, hx.xb, hx.xc, hx.xl, hx.xa, hx.xd⟩
end Go.Proofs.YtbamhlgkoimjoaaDoor.Sy.Tx
/- values.of, All: round by round. -/
namespace Go.Proofs.YtbamhlgkoimjoaaDoor.Sy.Vl
open Go Go.Proofs.YtbamhlgkoimjoaaDoor.Ab Go.Proofs.YtbamhlgkoimjoaaDoor.Sy Go.Proofs.YtbamhlgkoimjoaaDoor.Sy.Tx
set_option maxRecDepth 1000000
set_option linter.unusedVariables false
def BL (l : List Bool) : D := .sl (l.map D.bool)
def Hv (c : Ci) (xs : List D) (f : Int) (sl : List (Nat × V)) : St := ⟨mk 90 ([(3, .ptr 0 0), (10, .arr 1), (11, .d (I f))] ++ sl) [], [Bc c, .lst 4 xs]⟩
section
variable (c : Ci) (n x l f : Int) (i j u k m : Nat) (v st inp : List Bool) (b b2 : Bool) (xs ys acc : List D)
theorem of1  : callX Tryd.prog wr false O 37 [.d (BL v), .d (I l)] [] [It.is (l.fdiv (2 ^ 1)), It.el (l.fdiv (2 ^ 1)).toNat (D.bool (v.getD (l.fdiv (2 ^ 1)).toNat default)), It.is (↑(BitVec.ofInt 64 l &&& BitVec.ofInt 64 1).toNat : Int), It.br true, It.br true] = some (V.d (D.bool true), [],
  [l.fdiv (2 ^ 1) = l.fdiv (2 ^ 1),
   l.fdiv (2 ^ 1) = (↑(l.fdiv (2 ^ 1)).toNat : Int) ∧ (List.map D.bool v)[(l.fdiv (2 ^ 1)).toNat]? = some (D.bool (v.getD (l.fdiv (2 ^ 1)).toNat default)),
   IntKind.i64.wrap (↑(BitVec.ofInt 64 l &&& BitVec.ofInt 64 1).toNat : Int) = (↑(BitVec.ofInt 64 l &&& BitVec.ofInt 64 1).toNat : Int),
   ((↑(BitVec.ofInt 64 l &&& BitVec.ofInt 64 1).toNat : Int) == 1) = true,
   (!v.getD (l.fdiv (2 ^ 1)).toNat default == true) = true]) := by kernel_rfl
theorem of2  : callX Tryd.prog wr false O 37 [.d (BL v), .d (I l)] [] [It.is (l.fdiv (2 ^ 1)), It.el (l.fdiv (2 ^ 1)).toNat (D.bool (v.getD (l.fdiv (2 ^ 1)).toNat default)), It.is (↑(BitVec.ofInt 64 l &&& BitVec.ofInt 64 1).toNat : Int), It.br true, It.br false] = some (V.d (D.bool false), [],
  [l.fdiv (2 ^ 1) = l.fdiv (2 ^ 1),
   l.fdiv (2 ^ 1) = (↑(l.fdiv (2 ^ 1)).toNat : Int) ∧ (List.map D.bool v)[(l.fdiv (2 ^ 1)).toNat]? = some (D.bool (v.getD (l.fdiv (2 ^ 1)).toNat default)),
   IntKind.i64.wrap (↑(BitVec.ofInt 64 l &&& BitVec.ofInt 64 1).toNat : Int) = (↑(BitVec.ofInt 64 l &&& BitVec.ofInt 64 1).toNat : Int),
   ((↑(BitVec.ofInt 64 l &&& BitVec.ofInt 64 1).toNat : Int) == 1) = true,
   (!v.getD (l.fdiv (2 ^ 1)).toNat default == true) = false]) := by kernel_rfl
theorem of3  : callX Tryd.prog wr false O 37 [.d (BL v), .d (I l)] [] [It.is (l.fdiv (2 ^ 1)), It.el (l.fdiv (2 ^ 1)).toNat (D.bool (v.getD (l.fdiv (2 ^ 1)).toNat default)), It.is (↑(BitVec.ofInt 64 l &&& BitVec.ofInt 64 1).toNat : Int), It.br false, It.br true] = some (V.d (D.bool true), [],
  [l.fdiv (2 ^ 1) = l.fdiv (2 ^ 1),
   l.fdiv (2 ^ 1) = (↑(l.fdiv (2 ^ 1)).toNat : Int) ∧ (List.map D.bool v)[(l.fdiv (2 ^ 1)).toNat]? = some (D.bool (v.getD (l.fdiv (2 ^ 1)).toNat default)),
   IntKind.i64.wrap (↑(BitVec.ofInt 64 l &&& BitVec.ofInt 64 1).toNat : Int) = (↑(BitVec.ofInt 64 l &&& BitVec.ofInt 64 1).toNat : Int),
   ((↑(BitVec.ofInt 64 l &&& BitVec.ofInt 64 1).toNat : Int) == 1) = false,
   (!v.getD (l.fdiv (2 ^ 1)).toNat default == false) = true]) := by kernel_rfl
theorem of4  : callX Tryd.prog wr false O 37 [.d (BL v), .d (I l)] [] [It.is (l.fdiv (2 ^ 1)), It.el (l.fdiv (2 ^ 1)).toNat (D.bool (v.getD (l.fdiv (2 ^ 1)).toNat default)), It.is (↑(BitVec.ofInt 64 l &&& BitVec.ofInt 64 1).toNat : Int), It.br false, It.br false] = some (V.d (D.bool false), [],
  [l.fdiv (2 ^ 1) = l.fdiv (2 ^ 1),
   l.fdiv (2 ^ 1) = (↑(l.fdiv (2 ^ 1)).toNat : Int) ∧ (List.map D.bool v)[(l.fdiv (2 ^ 1)).toNat]? = some (D.bool (v.getD (l.fdiv (2 ^ 1)).toNat default)),
   IntKind.i64.wrap (↑(BitVec.ofInt 64 l &&& BitVec.ofInt 64 1).toNat : Int) = (↑(BitVec.ofInt 64 l &&& BitVec.ofInt 64 1).toNat : Int),
   ((↑(BitVec.ofInt 64 l &&& BitVec.ofInt 64 1).toNat : Int) == 1) = false,
   (!v.getD (l.fdiv (2 ^ 1)).toNat default == false) = false]) := by kernel_rfl
theorem a1 : round Tryd.prog wr false O (loopOf Tryd.prog 36 0) (Hv c xs f [(61, .d (I (c.ands.map An.d).length)), (62, .d (I i))]) [It.br true, It.is (f + (↑i : Int)), It.el i (c.ands.getD i default).d, It.ret (V.d (D.bool true)), It.el i (c.ands.getD i default).d, It.ret (V.d (D.bool b2)), It.ix (f + (↑i : Int)).toNat, It.is (↑(i + 1) : Int)] [3, 10, 11, 61, 62] 2 = some (.normal, Hv c (xs.set (f + i).toNat (.bool b2)) f [(61, .d (I (c.ands.map An.d).length)), (62, .d (I (i + 1 : Nat)))],
  [decide ((↑i : Int) < (↑(List.map An.d c.ands).length : Int)) = true,
   IntKind.i64.wrap (f + (↑i : Int)) = f + (↑i : Int),
   (↑i : Int) = (↑i : Int) ∧ (List.map An.d c.ands)[i]? = some (c.ands.getD i default).d,
   ICall Tryd.prog 37 [V.d (D.sl xs), V.d (D.int IntKind.i64 (c.ands.getD i default).a)] [] (V.d (D.bool true)) [] ∧ (List.flatMap refs ([V.arr 1, V.d (I (c.ands.getD i default).a)] ++ []) = [] ∨ (V.d (D.bool true)).safe = true),
   (↑i : Int) = (↑i : Int) ∧ (List.map An.d c.ands)[i]? = some (c.ands.getD i default).d,
   ICall Tryd.prog 37 [V.d (D.sl xs), V.d (D.int IntKind.i64 (c.ands.getD i default).b)] [] (V.d (D.bool b2)) [] ∧ (List.flatMap refs ([V.arr 1, V.d (I (c.ands.getD i default).b)] ++ []) = [] ∨ (V.d (D.bool b2)).safe = true),
   f + (↑i : Int) = (↑(f + (↑i : Int)).toNat : Int) ∧ (f + (↑i : Int)).toNat < xs.length,
   IntKind.i64.wrap ((↑i : Int) + 1) = (↑(i + 1) : Int)]) := by kernel_rfl
theorem a2 : round Tryd.prog wr false O (loopOf Tryd.prog 36 0) (Hv c xs f [(61, .d (I (c.ands.map An.d).length)), (62, .d (I i))]) [It.br true, It.is (f + (↑i : Int)), It.el i (c.ands.getD i default).d, It.ret (V.d (D.bool false)), It.ix (f + (↑i : Int)).toNat, It.is (↑(i + 1) : Int)] [3, 10, 11, 61, 62] 2 = some (.normal, Hv c (xs.set (f + i).toNat (.bool false)) f [(61, .d (I (c.ands.map An.d).length)), (62, .d (I (i + 1 : Nat)))],
  [decide ((↑i : Int) < (↑(List.map An.d c.ands).length : Int)) = true,
   IntKind.i64.wrap (f + (↑i : Int)) = f + (↑i : Int),
   (↑i : Int) = (↑i : Int) ∧ (List.map An.d c.ands)[i]? = some (c.ands.getD i default).d,
   ICall Tryd.prog 37 [V.d (D.sl xs), V.d (D.int IntKind.i64 (c.ands.getD i default).a)] [] (V.d (D.bool false)) [] ∧ (List.flatMap refs ([V.arr 1, V.d (I (c.ands.getD i default).a)] ++ []) = [] ∨ (V.d (D.bool false)).safe = true),
   f + (↑i : Int) = (↑(f + (↑i : Int)).toNat : Int) ∧ (f + (↑i : Int)).toNat < xs.length,
   IntKind.i64.wrap ((↑i : Int) + 1) = (↑(i + 1) : Int)]) := by kernel_rfl
theorem a3 : round Tryd.prog wr false O (loopOf Tryd.prog 36 0) (Hv c xs f [(61, .d (I (c.ands.map An.d).length)), (62, .d (I i))]) [It.br false] [3, 10, 11] 2 = some (.exit 0, Hv c xs f [],
  [decide ((↑i : Int) < (↑(List.map An.d c.ands).length : Int)) = false]) := by kernel_rfl
theorem al  : callX Tryd.prog wr false O 36 [.d c.d, .d (BL st), .d (BL inp)] [] [It.icall [] (V.tup [V.d (I n), V.d (I 0)]) [], It.br false, It.br false, It.br false, It.is (n + 1), It.len (n + 1).toNat, It.cut 1 m, It.raw, It.own, It.is (↑(1 + min (m - 1) (List.map D.bool inp).length) : Int), It.is (↑(1 + min (m - 1) (List.map D.bool inp).length + (List.map D.bool st).length) : Int), It.is (↑(1 + min (m - 1) (List.map D.bool inp).length + (List.map D.bool st).length) : Int), It.cut k j, It.raw, It.own, It.is (↑(1 + min (m - 1) (List.map D.bool inp).length + (List.map D.bool st).length) : Int), It.lp [3, 10, 11, 61, 62] (Ex.exit 0) (Hv c ys f [])] = some (V.tup [V.own 4 ys, V.d (D.int IntKind.i64 0)], [],
  [ICall Tryd.prog 54 [V.d (D.agg [I c.ins, D.sl (List.map Lt.d c.lats), D.sl (List.map An.d c.ands), L c.bads, L c.cons])] [] (V.tup [V.d (I n), V.d (I 0)]) [],
   (0 != 0) = false,
   ((↑(List.map D.bool st).length : Int) != (↑(List.map Lt.d c.lats).length : Int)) = false,
   ((↑(List.map D.bool inp).length : Int) != c.ins) = false,
   IntKind.i64.wrap (n + 1) = n + 1,
   n + 1 = (↑(n + 1).toNat : Int) ∧ n + 1 = (↑(n + 1).toNat : Int) ∧ (n + 1).toNat ≤ maxItems,
   1 = (↑1 : Int) ∧ (↑(List.replicate (n + 1).toNat (D.bool false)).length : Int) = (↑m : Int) ∧ 1 ≤ m ∧ m ≤ (List.replicate (n + 1).toNat (D.bool false)).length,
   1 + (m - 1) ≤ (List.replicate (n + 1).toNat (D.bool false)).length,
   ∀ (y : D), y ∈ List.map D.bool inp → y.cells.length = (fun x => x.size) Tryd.prog.types[4],
   IntKind.i64.wrap (1 + (↑(min (m - 1) (List.map D.bool inp).length) : Int)) = (↑(1 + min (m - 1) (List.map D.bool inp).length) : Int),
   IntKind.i64.wrap ((↑(1 + min (m - 1) (List.map D.bool inp).length) : Int) + (↑(List.map D.bool st).length : Int)) = (↑(1 + min (m - 1) (List.map D.bool inp).length + (List.map D.bool st).length) : Int),
   IntKind.i64.wrap ((↑(1 + min (m - 1) (List.map D.bool inp).length) : Int) + (↑(List.map D.bool st).length : Int)) = (↑(1 + min (m - 1) (List.map D.bool inp).length + (List.map D.bool st).length) : Int),
   (↑(1 + min (m - 1) (List.map D.bool inp).length) : Int) = (↑k : Int) ∧ (↑(1 + min (m - 1) (List.map D.bool inp).length + (List.map D.bool st).length) : Int) = (↑j : Int) ∧ (↑(1 + min (m - 1) (List.map D.bool inp).length + (List.map D.bool st).length) : Int) = (↑j : Int) ∧ 0 < k ∧ k ≤ j ∧ j ≤ (List.take 1 (List.replicate (n + 1).toNat (D.bool false)) ++ List.take (m - 1) (List.map D.bool inp) ++ List.drop (1 + min (m - 1) (List.map D.bool inp).length) (List.replicate (n + 1).toNat (D.bool false))).length,
   k + (j - k) ≤ (List.take 1 (List.replicate (n + 1).toNat (D.bool false)) ++ List.take (m - 1) (List.map D.bool inp) ++ List.drop (1 + min (m - 1) (List.map D.bool inp).length) (List.replicate (n + 1).toNat (D.bool false))).length,
   ∀ (y : D), y ∈ List.map D.bool st → y.cells.length = (fun x => x.size) Tryd.prog.types[4],
   IntKind.i64.wrap ((↑(1 + min (m - 1) (List.map D.bool inp).length) : Int) + (↑(List.map D.bool st).length : Int)) = (↑(1 + min (m - 1) (List.map D.bool inp).length + (List.map D.bool st).length) : Int),
   GoesL Tryd.prog (loopOf Tryd.prog 36 0) (⟨mk 90 [(3, V.ptr 0 0), (10, V.arr 1), (11, V.d (D.int IntKind.i64 (↑(1 + min (m - 1) (List.map D.bool inp).length + (List.map D.bool st).length) : Int))), (61, V.d (D.int IntKind.i64 (↑(List.map An.d c.ands).length : Int))), (62, V.d (D.int IntKind.i64 0))] [], [B.bx none [V.d (D.int IntKind.i64 c.ins), V.d (D.sl (List.map Lt.d c.lats)), V.d (D.sl (List.map An.d c.ands)), V.d (D.sl (List.map I c.bads)), V.d (D.sl (List.map I c.cons))], B.lst 4 (List.take k (List.take 1 (List.replicate (n + 1).toNat (D.bool false)) ++ List.take (m - 1) (List.map D.bool inp) ++ List.drop (1 + min (m - 1) (List.map D.bool inp).length) (List.replicate (n + 1).toNat (D.bool false))) ++ List.take (j - k) (List.map D.bool st) ++ List.drop (k + min (j - k) (List.map D.bool st).length) (List.take 1 (List.replicate (n + 1).toNat (D.bool false)) ++ List.take (m - 1) (List.map D.bool inp) ++ List.drop (1 + min (m - 1) (List.map D.bool inp).length) (List.replicate (n + 1).toNat (D.bool false))))]⟩) (Ex.exit 0) (Hv c ys f [])]) := by kernel_rfl
end
end Go.Proofs.YtbamhlgkoimjoaaDoor.Sy.Vl
/- values.list, Next, Props, slices.Contains: round by round. -/
namespace Go.Proofs.YtbamhlgkoimjoaaDoor.Sy.Vl
open Go Go.Proofs.YtbamhlgkoimjoaaDoor.Ab Go.Proofs.YtbamhlgkoimjoaaDoor.Sy Go.Proofs.YtbamhlgkoimjoaaDoor.Sy.Tx
set_option maxRecDepth 1000000
set_option linter.unusedVariables false
def Hq (c : Ci) (v : List Bool) (f : Nat) (acc : List D) (n : Int) (sl : List (Nat × V)) : St := ⟨mk 40 ([(4, .func f [.ptr 0 0]), (5, .ptr 1 0), (12, .d (BL v)), (14, .arr 2)] ++ sl) [], [Bc c, Bc c, .lst 4 acc]⟩
def Ef (c : Ci) (v : List Bool) (f : Nat) (acc : List D) : St := ⟨mk 40 [(4, .func f [.ptr 0 0]), (5, .ptr 1 0), (12, .d (BL v)), (14, .d (.sl acc))] [], [Bc c, Bc c, .dead]⟩
def Ix (l : List Bool) (b : Bool) (sl : List (Nat × V)) : St := ⟨mk 19 ([(0, .d (BL l)), (1, .d (.bool b))] ++ sl) [], []⟩
def Ry (i : Nat) : St := ⟨mk 19 [(4, .d (I i))] [], []⟩
def Rz : St := ⟨mk 19 [] [], []⟩
section
variable (c : Ci) (n x l f : Int) (i j u k m : Nat) (v st inp v2 : List Bool) (b b2 : Bool) (xs ys acc : List D)
theorem x1t : round Tryd.prog wr false O (loopOf Tryd.prog 38 0) (Ix v true [(7, .d (I (v.map D.bool).length)), (8, .d (I i))]) [It.br true, It.el i (D.bool (v.getD i default)), It.br true] [4] 0 = some (.ret, Ry i,
  [decide ((↑i : Int) < (↑(List.map D.bool v).length : Int)) = true,
   (↑i : Int) = (↑i : Int) ∧ (List.map D.bool v)[i]? = some (D.bool (v.getD i default)),
   (true == v.getD i default) = true]) := by kernel_rfl
theorem x2t : round Tryd.prog wr false O (loopOf Tryd.prog 38 0) (Ix v true [(7, .d (I (v.map D.bool).length)), (8, .d (I i))]) [It.br true, It.el i (D.bool (v.getD i default)), It.br false, It.is (↑(i + 1) : Int)] [0, 1, 7, 8] 0 = some (.normal, Ix v true [(7, .d (I (v.map D.bool).length)), (8, .d (I (i + 1 : Nat)))],
  [decide ((↑i : Int) < (↑(List.map D.bool v).length : Int)) = true,
   (↑i : Int) = (↑i : Int) ∧ (List.map D.bool v)[i]? = some (D.bool (v.getD i default)),
   (true == v.getD i default) = false,
   IntKind.i64.wrap ((↑i : Int) + 1) = (↑(i + 1) : Int)]) := by kernel_rfl
theorem x3t : round Tryd.prog wr false O (loopOf Tryd.prog 38 0) (Ix v true [(7, .d (I (v.map D.bool).length)), (8, .d (I i))]) [It.br false] [] 0 = some (.exit 0, Rz,
  [decide ((↑i : Int) < (↑(List.map D.bool v).length : Int)) = false]) := by kernel_rfl
theorem x1f : round Tryd.prog wr false O (loopOf Tryd.prog 38 0) (Ix v false [(7, .d (I (v.map D.bool).length)), (8, .d (I i))]) [It.br true, It.el i (D.bool (v.getD i default)), It.br true] [4] 0 = some (.ret, Ry i,
  [decide ((↑i : Int) < (↑(List.map D.bool v).length : Int)) = true,
   (↑i : Int) = (↑i : Int) ∧ (List.map D.bool v)[i]? = some (D.bool (v.getD i default)),
   (false == v.getD i default) = true]) := by kernel_rfl
theorem x2f : round Tryd.prog wr false O (loopOf Tryd.prog 38 0) (Ix v false [(7, .d (I (v.map D.bool).length)), (8, .d (I i))]) [It.br true, It.el i (D.bool (v.getD i default)), It.br false, It.is (↑(i + 1) : Int)] [0, 1, 7, 8] 0 = some (.normal, Ix v false [(7, .d (I (v.map D.bool).length)), (8, .d (I (i + 1 : Nat)))],
  [decide ((↑i : Int) < (↑(List.map D.bool v).length : Int)) = true,
   (↑i : Int) = (↑i : Int) ∧ (List.map D.bool v)[i]? = some (D.bool (v.getD i default)),
   (false == v.getD i default) = false,
   IntKind.i64.wrap ((↑i : Int) + 1) = (↑(i + 1) : Int)]) := by kernel_rfl
theorem x3f : round Tryd.prog wr false O (loopOf Tryd.prog 38 0) (Ix v false [(7, .d (I (v.map D.bool).length)), (8, .d (I i))]) [It.br false] [] 0 = some (.exit 0, Rz,
  [decide ((↑i : Int) < (↑(List.map D.bool v).length : Int)) = false]) := by kernel_rfl
theorem ix1  : callX Tryd.prog wr false O 38 [.d (BL v), .d (.bool b)] [] [It.lp [0, 1, 7, 8] Ex.ret (Ry i)] = some (V.d (D.int IntKind.i64 (↑i : Int)), [],
  [GoesL Tryd.prog (loopOf Tryd.prog 38 0) (⟨mk 19 [(0, V.d (D.sl (List.map D.bool v))), (1, V.d (D.bool b)), (7, V.d (D.int IntKind.i64 (↑(List.map D.bool v).length : Int))), (8, V.d (D.int IntKind.i64 0))] [], []⟩) (Ex.ret) (Ry i)]) := by kernel_rfl
theorem ix0  : callX Tryd.prog wr false O 38 [.d (BL v), .d (.bool b)] [] [It.lp [0, 1, 7, 8] (Ex.exit 0) Rz] = some (V.d (D.int IntKind.i64 (-1)), [],
  [GoesL Tryd.prog (loopOf Tryd.prog 38 0) (⟨mk 19 [(0, V.d (D.sl (List.map D.bool v))), (1, V.d (D.bool b)), (7, V.d (D.int IntKind.i64 (↑(List.map D.bool v).length : Int))), (8, V.d (D.int IntKind.i64 0))] [], []⟩) (Ex.exit 0) (Rz)]) := by kernel_rfl
theorem co1  : callX Tryd.prog wr false O 25 [.d (BL v), .d (.bool b)] [] [It.icall [] (V.d (I x)) [], It.br true] = some (V.d (D.bool true), [],
  [ICall Tryd.prog 38 [V.d (BL v), V.d (D.bool b)] [] (V.d (I x)) [],
   decide (x ≥ 0) = true]) := by kernel_rfl
theorem co0  : callX Tryd.prog wr false O 25 [.d (BL v), .d (.bool b)] [] [It.icall [] (V.d (I x)) [], It.br false] = some (V.d (D.bool false), [],
  [ICall Tryd.prog 38 [V.d (BL v), V.d (D.bool b)] [] (V.d (I x)) [],
   decide (x ≥ 0) = false]) := by kernel_rfl
theorem cn  : callX Tryd.prog wr false O 53 [.d (I i), .ptr 0 0] [Bc c] [It.el i (c.lats.getD i default).d] = some (V.d (D.int IntKind.i64 (c.lats.getD i default).next), [Bc c],
  [(↑i : Int) = (↑i : Int) ∧ (List.map Lt.d c.lats)[i]? = some (c.lats.getD i default).d]) := by kernel_rfl
theorem l1n : round Tryd.prog wr false O (loopOf Tryd.prog 22 0) (Hq c v 53 acc n [(26, .d (I n)), (27, .d (I i))]) [It.br true, It.icall [0] (V.d (I l)) [Bc c], It.ret (V.d (D.bool b)), It.raw, It.raw, It.raw, It.is (↑(i + 1) : Int)] [4, 5, 12, 14, 26, 27] 3 = some (.normal, Hq c v 53 (acc ++ [.bool b]) n [(26, .d (I n)), (27, .d (I (i + 1 : Nat)))],
  [decide ((↑i : Int) < n) = true,
   ICall Tryd.prog 53 [V.d (I (↑i : Int)), V.ptr 0 0] [B.bx none [V.d (I c.ins), V.d (D.sl (List.map Lt.d c.lats)), V.d (D.sl (List.map An.d c.ands)), V.d (L c.bads), V.d (L c.cons)]] (V.d (I l)) [Bc c],
   ICall Tryd.prog 37 [V.d (D.sl (List.map D.bool v)), V.d (D.int IntKind.i64 l)] [] (V.d (D.bool b)) [] ∧ (List.flatMap refs ([kill1 0 (0, KK.gone).snd (V.d (BL v)), V.d (I l)] ++ []) = [] ∨ (V.d (D.bool b)).safe = true),
   acc.length + [D.bool b].length ≤ maxItems,
   IntKind.i64.wrap ((↑i : Int) + 1) = (↑(i + 1) : Int)]) := by kernel_rfl
theorem l2n : round Tryd.prog wr false O (loopOf Tryd.prog 22 0) (Hq c v 53 acc n [(26, .d (I n)), (27, .d (I i))]) [It.br false] [4, 5, 12, 14] 3 = some (.exit 0, Hq c v 53 acc n [],
  [decide ((↑i : Int) < n) = false]) := by kernel_rfl
theorem lin  : callX Tryd.prog wr false O 22 [.d c.d, .d (BL st), .d (BL inp), .d (I n), .func 53 [.ptr 0 0]] [Bc c] [It.icall [] (V.tup [V.d (BL v), V.d (I 0)]) [], It.br false, It.lp [4, 5, 12, 14, 26, 27] (Ex.exit 0) (Ef c v 53 acc)] = some (V.tup [V.d (D.sl acc), V.d (D.int IntKind.i64 0)], [Bc c],
  [ICall Tryd.prog 36 [V.d (D.agg [I c.ins, D.sl (List.map Lt.d c.lats), D.sl (List.map An.d c.ands), L c.bads, L c.cons]), V.d (BL st), V.d (BL inp)] [] (V.tup [V.d (BL v), V.d (I 0)]) [],
   (0 != 0) = false,
   GoesL Tryd.prog (loopOf Tryd.prog 22 0) (⟨mk 40 [(4, V.func 53 [V.ptr 0 0]), (5, V.ptr 1 0), (12, V.d (D.sl (List.map D.bool v))), (14, V.emp true), (26, V.d (D.int IntKind.i64 n)), (27, V.d (D.int IntKind.i64 0))] [], [B.bx none [V.d (D.int IntKind.i64 c.ins), V.d (D.sl (List.map Lt.d c.lats)), V.d (D.sl (List.map An.d c.ands)), V.d (D.sl (List.map I c.bads)), V.d (D.sl (List.map I c.cons))], B.bx none [V.d (D.int IntKind.i64 c.ins), V.d (D.sl (List.map Lt.d c.lats)), V.d (D.sl (List.map An.d c.ands)), V.d (D.sl (List.map I c.bads)), V.d (D.sl (List.map I c.cons))]]⟩) (Ex.exit 0) (Ef c v 53 acc)]) := by kernel_rfl
theorem cp  : callX Tryd.prog wr false O 23 [.d (I i), .ptr 0 0] [Bc c] [It.el i (I (c.bads.getD i default))] = some (V.d (D.int IntKind.i64 (c.bads.getD i default)), [Bc c],
  [(↑i : Int) = (↑i : Int) ∧ (List.map I c.bads)[i]? = some (I (c.bads.getD i default))]) := by kernel_rfl
theorem l1p : round Tryd.prog wr false O (loopOf Tryd.prog 22 0) (Hq c v 23 acc n [(26, .d (I n)), (27, .d (I i))]) [It.br true, It.icall [0] (V.d (I l)) [Bc c], It.ret (V.d (D.bool b)), It.raw, It.raw, It.raw, It.is (↑(i + 1) : Int)] [4, 5, 12, 14, 26, 27] 3 = some (.normal, Hq c v 23 (acc ++ [.bool b]) n [(26, .d (I n)), (27, .d (I (i + 1 : Nat)))],
  [decide ((↑i : Int) < n) = true,
   ICall Tryd.prog 23 [V.d (I (↑i : Int)), V.ptr 0 0] [B.bx none [V.d (I c.ins), V.d (D.sl (List.map Lt.d c.lats)), V.d (D.sl (List.map An.d c.ands)), V.d (L c.bads), V.d (L c.cons)]] (V.d (I l)) [Bc c],
   ICall Tryd.prog 37 [V.d (D.sl (List.map D.bool v)), V.d (D.int IntKind.i64 l)] [] (V.d (D.bool b)) [] ∧ (List.flatMap refs ([kill1 0 (0, KK.gone).snd (V.d (BL v)), V.d (I l)] ++ []) = [] ∨ (V.d (D.bool b)).safe = true),
   acc.length + [D.bool b].length ≤ maxItems,
   IntKind.i64.wrap ((↑i : Int) + 1) = (↑(i + 1) : Int)]) := by kernel_rfl
theorem l2p : round Tryd.prog wr false O (loopOf Tryd.prog 22 0) (Hq c v 23 acc n [(26, .d (I n)), (27, .d (I i))]) [It.br false] [4, 5, 12, 14] 3 = some (.exit 0, Hq c v 23 acc n [],
  [decide ((↑i : Int) < n) = false]) := by kernel_rfl
theorem lip  : callX Tryd.prog wr false O 22 [.d c.d, .d (BL st), .d (BL inp), .d (I n), .func 23 [.ptr 0 0]] [Bc c] [It.icall [] (V.tup [V.d (BL v), V.d (I 0)]) [], It.br false, It.lp [4, 5, 12, 14, 26, 27] (Ex.exit 0) (Ef c v 23 acc)] = some (V.tup [V.d (D.sl acc), V.d (D.int IntKind.i64 0)], [Bc c],
  [ICall Tryd.prog 36 [V.d (D.agg [I c.ins, D.sl (List.map Lt.d c.lats), D.sl (List.map An.d c.ands), L c.bads, L c.cons]), V.d (BL st), V.d (BL inp)] [] (V.tup [V.d (BL v), V.d (I 0)]) [],
   (0 != 0) = false,
   GoesL Tryd.prog (loopOf Tryd.prog 22 0) (⟨mk 40 [(4, V.func 23 [V.ptr 0 0]), (5, V.ptr 1 0), (12, V.d (D.sl (List.map D.bool v))), (14, V.emp true), (26, V.d (D.int IntKind.i64 n)), (27, V.d (D.int IntKind.i64 0))] [], [B.bx none [V.d (D.int IntKind.i64 c.ins), V.d (D.sl (List.map Lt.d c.lats)), V.d (D.sl (List.map An.d c.ands)), V.d (D.sl (List.map I c.bads)), V.d (D.sl (List.map I c.cons))], B.bx none [V.d (D.int IntKind.i64 c.ins), V.d (D.sl (List.map Lt.d c.lats)), V.d (D.sl (List.map An.d c.ands)), V.d (D.sl (List.map I c.bads)), V.d (D.sl (List.map I c.cons))]]⟩) (Ex.exit 0) (Ef c v 23 acc)]) := by kernel_rfl
theorem cq  : callX Tryd.prog wr false O 24 [.d (I i), .ptr 0 0] [Bc c] [It.el i (I (c.cons.getD i default))] = some (V.d (D.int IntKind.i64 (c.cons.getD i default)), [Bc c],
  [(↑i : Int) = (↑i : Int) ∧ (List.map I c.cons)[i]? = some (I (c.cons.getD i default))]) := by kernel_rfl
theorem l1q : round Tryd.prog wr false O (loopOf Tryd.prog 22 0) (Hq c v 24 acc n [(26, .d (I n)), (27, .d (I i))]) [It.br true, It.icall [0] (V.d (I l)) [Bc c], It.ret (V.d (D.bool b)), It.raw, It.raw, It.raw, It.is (↑(i + 1) : Int)] [4, 5, 12, 14, 26, 27] 3 = some (.normal, Hq c v 24 (acc ++ [.bool b]) n [(26, .d (I n)), (27, .d (I (i + 1 : Nat)))],
  [decide ((↑i : Int) < n) = true,
   ICall Tryd.prog 24 [V.d (I (↑i : Int)), V.ptr 0 0] [B.bx none [V.d (I c.ins), V.d (D.sl (List.map Lt.d c.lats)), V.d (D.sl (List.map An.d c.ands)), V.d (L c.bads), V.d (L c.cons)]] (V.d (I l)) [Bc c],
   ICall Tryd.prog 37 [V.d (D.sl (List.map D.bool v)), V.d (D.int IntKind.i64 l)] [] (V.d (D.bool b)) [] ∧ (List.flatMap refs ([kill1 0 (0, KK.gone).snd (V.d (BL v)), V.d (I l)] ++ []) = [] ∨ (V.d (D.bool b)).safe = true),
   acc.length + [D.bool b].length ≤ maxItems,
   IntKind.i64.wrap ((↑i : Int) + 1) = (↑(i + 1) : Int)]) := by kernel_rfl
theorem l2q : round Tryd.prog wr false O (loopOf Tryd.prog 22 0) (Hq c v 24 acc n [(26, .d (I n)), (27, .d (I i))]) [It.br false] [4, 5, 12, 14] 3 = some (.exit 0, Hq c v 24 acc n [],
  [decide ((↑i : Int) < n) = false]) := by kernel_rfl
theorem liq  : callX Tryd.prog wr false O 22 [.d c.d, .d (BL st), .d (BL inp), .d (I n), .func 24 [.ptr 0 0]] [Bc c] [It.icall [] (V.tup [V.d (BL v), V.d (I 0)]) [], It.br false, It.lp [4, 5, 12, 14, 26, 27] (Ex.exit 0) (Ef c v 24 acc)] = some (V.tup [V.d (D.sl acc), V.d (D.int IntKind.i64 0)], [Bc c],
  [ICall Tryd.prog 36 [V.d (D.agg [I c.ins, D.sl (List.map Lt.d c.lats), D.sl (List.map An.d c.ands), L c.bads, L c.cons]), V.d (BL st), V.d (BL inp)] [] (V.tup [V.d (BL v), V.d (I 0)]) [],
   (0 != 0) = false,
   GoesL Tryd.prog (loopOf Tryd.prog 22 0) (⟨mk 40 [(4, V.func 24 [V.ptr 0 0]), (5, V.ptr 1 0), (12, V.d (D.sl (List.map D.bool v))), (14, V.emp true), (26, V.d (D.int IntKind.i64 n)), (27, V.d (D.int IntKind.i64 0))] [], [B.bx none [V.d (D.int IntKind.i64 c.ins), V.d (D.sl (List.map Lt.d c.lats)), V.d (D.sl (List.map An.d c.ands)), V.d (D.sl (List.map I c.bads)), V.d (D.sl (List.map I c.cons))], B.bx none [V.d (D.int IntKind.i64 c.ins), V.d (D.sl (List.map Lt.d c.lats)), V.d (D.sl (List.map An.d c.ands)), V.d (D.sl (List.map I c.bads)), V.d (D.sl (List.map I c.cons))]]⟩) (Ex.exit 0) (Ef c v 24 acc)]) := by kernel_rfl
theorem nx  : callX Tryd.prog wr false O 35 [.d c.d, .d (BL st), .d (BL inp)] [] [It.icall [0] (V.tup [V.d (BL v), V.d (I 0)]) [Bc c]] = some (V.tup [V.d (D.sl (List.map D.bool v)), V.d (D.int IntKind.i64 0)], [],
  [ICall Tryd.prog 22 [V.d (D.agg [I c.ins, D.sl (List.map Lt.d c.lats), D.sl (List.map An.d c.ands), L c.bads, L c.cons]), V.d (BL st), V.d (BL inp), V.d (D.int IntKind.i64 (↑(List.map Lt.d c.lats).length : Int)), V.func 53 [V.ptr 0 0]] [B.bx none [V.d (I c.ins), V.d (D.sl (List.map Lt.d c.lats)), V.d (D.sl (List.map An.d c.ands)), V.d (L c.bads), V.d (L c.cons)]] (V.tup [V.d (BL v), V.d (I 0)]) [Bc c]]) := by kernel_rfl
theorem prt  : callX Tryd.prog wr false O 12 [.d c.d, .d (BL st), .d (BL inp)] [] [It.icall [0] (V.tup [V.d (BL v), V.d (I 0)]) [Bc c], It.br false, It.icall [0] (V.tup [V.d (BL v2), V.d (I 0)]) [Bc c], It.icall [] (V.d (D.bool true)) [], It.br false] = some (V.tup [V.d (D.bool false), V.d (D.sl (List.map D.bool v)), V.d (D.int IntKind.i64 0)], [],
  [ICall Tryd.prog 22 [V.d (D.agg [I c.ins, D.sl (List.map Lt.d c.lats), D.sl (List.map An.d c.ands), L c.bads, L c.cons]), V.d (BL st), V.d (BL inp), V.d (D.int IntKind.i64 (↑(List.map I c.bads).length : Int)), V.func 23 [V.ptr 0 0]] [B.bx none [V.d (I c.ins), V.d (D.sl (List.map Lt.d c.lats)), V.d (D.sl (List.map An.d c.ands)), V.d (L c.bads), V.d (L c.cons)]] (V.tup [V.d (BL v), V.d (I 0)]) [Bc c],
   (0 != 0) = false,
   ICall Tryd.prog 22 [V.d (D.agg [I c.ins, D.sl (List.map Lt.d c.lats), D.sl (List.map An.d c.ands), L c.bads, L c.cons]), V.d (BL st), V.d (BL inp), V.d (D.int IntKind.i64 (↑(List.map I c.cons).length : Int)), V.func 24 [V.ptr 0 0]] [B.bx none [V.d (I c.ins), V.d (D.sl (List.map Lt.d c.lats)), V.d (D.sl (List.map An.d c.ands)), V.d (L c.bads), V.d (L c.cons)]] (V.tup [V.d (BL v2), V.d (I 0)]) [Bc c],
   ICall Tryd.prog 25 [V.d (BL v2), V.d (D.bool false)] [] (V.d (D.bool true)) [],
   (!true) = false]) := by kernel_rfl
theorem prf  : callX Tryd.prog wr false O 12 [.d c.d, .d (BL st), .d (BL inp)] [] [It.icall [0] (V.tup [V.d (BL v), V.d (I 0)]) [Bc c], It.br false, It.icall [0] (V.tup [V.d (BL v2), V.d (I 0)]) [Bc c], It.icall [] (V.d (D.bool false)) [], It.br true] = some (V.tup [V.d (D.bool true), V.d (D.sl (List.map D.bool v)), V.d (D.int IntKind.i64 0)], [],
  [ICall Tryd.prog 22 [V.d (D.agg [I c.ins, D.sl (List.map Lt.d c.lats), D.sl (List.map An.d c.ands), L c.bads, L c.cons]), V.d (BL st), V.d (BL inp), V.d (D.int IntKind.i64 (↑(List.map I c.bads).length : Int)), V.func 23 [V.ptr 0 0]] [B.bx none [V.d (I c.ins), V.d (D.sl (List.map Lt.d c.lats)), V.d (D.sl (List.map An.d c.ands)), V.d (L c.bads), V.d (L c.cons)]] (V.tup [V.d (BL v), V.d (I 0)]) [Bc c],
   (0 != 0) = false,
   ICall Tryd.prog 22 [V.d (D.agg [I c.ins, D.sl (List.map Lt.d c.lats), D.sl (List.map An.d c.ands), L c.bads, L c.cons]), V.d (BL st), V.d (BL inp), V.d (D.int IntKind.i64 (↑(List.map I c.cons).length : Int)), V.func 24 [V.ptr 0 0]] [B.bx none [V.d (I c.ins), V.d (D.sl (List.map Lt.d c.lats)), V.d (D.sl (List.map An.d c.ands)), V.d (L c.bads), V.d (L c.cons)]] (V.tup [V.d (BL v2), V.d (I 0)]) [Bc c],
   ICall Tryd.prog 25 [V.d (BL v2), V.d (D.bool false)] [] (V.d (D.bool false)) [],
   (!false) = true]) := by kernel_rfl
end
end Go.Proofs.YtbamhlgkoimjoaaDoor.Sy.Vl
/- values.of, All, list, Next, Props, whole. -/
namespace Go.Proofs.YtbamhlgkoimjoaaDoor.Sy.Vl
open Go Go.Proofs.YtbamhlgkoimjoaaDoor.Ab Go.Proofs.YtbamhlgkoimjoaaDoor.Sy Go.Proofs.YtbamhlgkoimjoaaDoor.Sy.Tx
set_option maxRecDepth 1000000
set_option linter.unusedVariables false
set_option linter.unusedSimpArgs false
/-- The value of a literal. -/
def val (v : List Bool) (l : Int) : Bool := v.getD (l / 2).toNat default != (l % 2 == 1)
theorem fdiv2 (l : Int) : l.fdiv (2 ^ 1) = l / 2 := by
  rw [show (2 : Int) ^ 1 = 2 from rfl]; exact Int.fdiv_eq_ediv_of_nonneg l (by decide)
theorem and1 {l : Int} (h0 : 0 ≤ l) (h1 : l ≤ 9223372036854775807) : (((BitVec.ofInt 64 l &&& BitVec.ofInt 64 1).toNat : Nat) : Int) = l % 2 := by
  obtain ⟨k, rfl⟩ := Int.eq_ofNat_of_zero_le h0
  have e1 : BitVec.ofInt 64 ((k : Nat) : Int) = BitVec.ofNat 64 k := by rw [BitVec.ofInt_natCast]
  have e2 : BitVec.ofInt 64 1 = BitVec.ofNat 64 1 := rfl
  rw [e1, e2, BitVec.toNat_and, BitVec.toNat_ofNat, BitVec.toNat_ofNat, Nat.mod_eq_of_lt (by omega), Nat.mod_eq_of_lt (by omega : 1 < 2 ^ 64), Nat.and_one_is_mod]
  omega
theorem of {v : List Bool} {l : Int} (h0 : 0 ≤ l) (h1 : l / 2 < v.length) (h2 : v.length ≤ 1000000) : ICall Tryd.prog 37 [.d (BL v), .d (I l)] [] (.d (.bool (val v l))) [] := by
  have e1 := fdiv2 l
  have e2 := and1 h0 (by omega)
  have hi : (l / 2).toNat < v.length := by omega
  have k1 : l.fdiv (2 ^ 1) = l.fdiv (2 ^ 1) := rfl
  have k2 : l.fdiv (2 ^ 1) = ((l.fdiv (2 ^ 1)).toNat : Int) ∧ (v.map D.bool)[(l.fdiv (2 ^ 1)).toNat]? = some (D.bool (v.getD (l.fdiv (2 ^ 1)).toNat default)) := by
    rw [e1]; exact ⟨by omega, get_map D.bool v _ hi⟩
  have k3 : IntKind.i64.wrap (((BitVec.ofInt 64 l &&& BitVec.ofInt 64 1).toNat : Nat) : Int) = (((BitVec.ofInt 64 l &&& BitVec.ofInt 64 1).toNat : Nat) : Int) := by
    rw [e2]; exact wrap_id (by omega) (by omega)
  have hv : val v l = !((v.getD (l.fdiv (2 ^ 1)).toNat default) == (((BitVec.ofInt 64 l &&& BitVec.ofInt 64 1).toNat : Nat) == (1 : Int))) := by
    rw [e1, e2]; rfl
  rw [hv]
  cases c1 : ((((BitVec.ofInt 64 l &&& BitVec.ofInt 64 1).toNat : Nat) : Int) == 1) with
  | true =>
    cases c2 : (!v.getD (l.fdiv (2 ^ 1)).toNat default == true) with
    | true => exact callX_ok hO hm (of1 l v) ⟨k1, k2, k3, c1, c2⟩
    | false => exact callX_ok hO hm (of2 l v) ⟨k1, k2, k3, c1, c2⟩
  | false =>
    cases c2 : (!v.getD (l.fdiv (2 ^ 1)).toNat default == false) with
    | true => exact callX_ok hO hm (of3 l v) ⟨k1, k2, k3, c1, c2⟩
    | false => exact callX_ok hO hm (of4 l v) ⟨k1, k2, k3, c1, c2⟩
/-- The values of all variables, gate by gate. -/
def frameL (v : List Bool) : List An → List Bool
  | [] => v
  | g :: r => frameL (v ++ [val v g.a && val v g.b]) r
def frame (c : Ci) (st inp : List Bool) : List Bool := frameL (false :: (inp ++ st)) c.ands
theorem frameL_len : ∀ (gs : List An) (v : List Bool), (frameL v gs).length = v.length + gs.length
  | [], v => by simp [frameL]
  | g :: r, v => by rw [frameL, frameL_len r]; simp; omega
theorem frame_len (c : Ci) (st inp : List Bool) : (frame c st inp).length = 1 + inp.length + st.length + c.ands.length := by
  unfold frame; rw [frameL_len]; simp; omega
theorem getD_app {v w : List Bool} {i : Nat} (h : i < v.length) : (v ++ w).getD i default = v.getD i default := by
  rw [List.getD_eq_getElem?_getD, List.getD_eq_getElem?_getD, List.getElem?_append_left h]
theorem val_app {v w : List Bool} {l : Int} (h0 : 0 ≤ l) (h : l / 2 < v.length) : val (v ++ w) l = val v l := by
  unfold val; rw [getD_app (by omega)]
/-- The gates of a circuit read what is known. -/
structure Gd (c : Ci) : Prop where
  ins : 0 ≤ c.ins
  sz : c.ins + (c.lats.length : Int) + (c.ands.length : Int) ≤ 1000
  ands : ∀ (i : Nat) (h : i < c.ands.length), 0 ≤ c.ands[i].b ∧ c.ands[i].b ≤ c.ands[i].a ∧ c.ands[i].a < 2 * (1 + c.ins + c.lats.length + i)
  lats : ∀ l ∈ c.lats, 0 ≤ l.next ∧ l.next ≤ 2 * (c.ins + (c.lats.length : Int) + (c.ands.length : Int)) + 1
  bads : ∀ x ∈ c.bads, 0 ≤ x ∧ x ≤ 2 * (c.ins + (c.lats.length : Int) + (c.ands.length : Int)) + 1
  cons : ∀ x ∈ c.cons, 0 ≤ x ∧ x ≤ 2 * (c.ins + (c.lats.length : Int) + (c.ands.length : Int)) + 1
  b100 : c.bads.length ≤ 100
  c100 : c.cons.length ≤ 100
  res : ∀ l ∈ c.lats, 0 ≤ l.reset ∧ l.reset ≤ 2
theorem anyIx_at {α : Type} (f : Nat → α → Bool) : ∀ (l : List α) (i : Nat), anyIx f l i = false → ∀ (j : Nat) (h : j < l.length), f (i + j) l[j] = false
  | [], _, _, j, hj => by simp at hj
  | x :: t, i, h, j, hj => by
    rw [anyIx, Bool.or_eq_false_iff] at h
    cases j with
    | zero => exact h.1
    | succ j =>
      have := anyIx_at f t (i + 1) h.2 j (by simpa using hj)
      rw [show i + (j + 1) = i + 1 + j by omega]
      exact this
theorem gd {c : Ci} (h : Gates.chk c = 0) : Gd c := by
  unfold Gates.chk at h
  by_cases c1 : c.ins < 0
  · rw [if_pos c1] at h; cases h
  rw [if_neg c1] at h
  by_cases c2 : c.ins > 1000
  · rw [if_pos c2] at h; cases h
  rw [if_neg c2] at h
  have e3 : st3 c = 1 + c.ins + (c.lats.length : Int) + (c.ands.length : Int) := by simp only [st3, List.length_map]
  have e2 : st2 c = 1 + c.ins + (c.lats.length : Int) := by simp only [st2, List.length_map]
  by_cases c3 : st3 c - 1 > 1000
  · rw [if_pos c3] at h; cases h
  rw [if_neg c3] at h
  simp only [List.length_map] at h
  by_cases c4 : (if (c.cons.length : Int) > (c.bads.length : Int) then (c.cons.length : Int) else (c.bads.length : Int)) > 100
  · rw [if_pos c4] at h; cases h
  rw [if_neg c4] at h
  by_cases c5 : (c.bads.any (outB (st3 c)) || (c.cons.any (outB (st3 c)) || c.lats.any (wrongB (st3 c)))) = true
  · rw [if_pos c5] at h; cases h
  rw [if_neg c5] at h
  by_cases c6 : anyIx (Gates.badA (st2 c)) c.ands 0 = true
  · rw [if_pos c6] at h; cases h
  have af : ∀ {α : Type} (f : α → Bool) (l : List α), l.any f = false ↔ ∀ x ∈ l, f x = false := by intro α f l; simp
  rw [Bool.not_eq_true, Bool.or_eq_false_iff, Bool.or_eq_false_iff, af, af, af] at c5
  obtain ⟨d1, d2, d3⟩ := c5
  have out : ∀ x : Int, outB (st3 c) x = false → 0 ≤ x ∧ x ≤ 2 * (c.ins + (c.lats.length : Int) + (c.ands.length : Int)) + 1 := fun x hx => by
    unfold outB at hx
    rw [Bool.or_eq_false_iff, decide_eq_false_iff_not, decide_eq_false_iff_not] at hx
    omega
  have l34 : c.bads.length ≤ 100 ∧ c.cons.length ≤ 100 := by split at c4 <;> omega
  refine ⟨by omega, by omega, fun i hi => ?_, fun d hd => ?_, fun x hx => out x (d1 x hx), fun x hx => out x (d2 x hx), l34.1, l34.2, fun d hd => ?_⟩
  · have := anyIx_at (Gates.badA (st2 c)) c.ands 0 (Bool.not_eq_true _ ▸ c6) i hi
    unfold Gates.badA at this
    rw [Bool.or_eq_false_iff, Bool.or_eq_false_iff, decide_eq_false_iff_not, decide_eq_false_iff_not, decide_eq_false_iff_not, e2] at this
    omega
  · have := d3 d hd
    unfold wrongB at this
    rw [Bool.or_eq_false_iff] at this
    exact out _ this.1
  · have := d3 d hd
    unfold wrongB at this
    rw [Bool.or_eq_false_iff, Bool.or_eq_false_iff, decide_eq_false_iff_not, decide_eq_false_iff_not] at this
    omega
theorem frameL_snoc : ∀ (gs : List An) (v : List Bool) (g : An), frameL v (gs ++ [g]) = frameL v gs ++ [val (frameL v gs) g.a && val (frameL v gs) g.b]
  | [], v, g => rfl
  | x :: r, v, g => by rw [List.cons_append, frameL, frameL_snoc r]; rfl
section
variable {c : Ci} {st inp : List Bool} (hg : Gd c) (hs : st.length = c.lats.length) (hi : (inp.length : Int) = c.ins)
/-- What is known behind some gates. -/
def fr (c : Ci) (st inp : List Bool) (i : Nat) : List Bool := frameL (false :: (inp ++ st)) (c.ands.take i)
theorem fr_len (i : Nat) (h : i ≤ c.ands.length) : (fr c st inp i).length = 1 + inp.length + st.length + i := by
  unfold fr; rw [frameL_len, List.length_take]; simp; omega
theorem fr_succ (i : Nat) (h : i < c.ands.length) : fr c st inp (i + 1) = fr c st inp i ++ [val (fr c st inp i) (c.ands.getD i default).a && val (fr c st inp i) (c.ands.getD i default).b] := by
  unfold fr
  have e : c.ands.take (i + 1) = c.ands.take i ++ [c.ands.getD i default] := by
    rw [List.take_add_one, List.getElem?_eq_getElem h, List.getD_eq_getElem?_getD, List.getElem?_eq_getElem h]; rfl
  rw [e, frameL_snoc]
def vec (c : Ci) (st inp : List Bool) (i : Nat) : List Bool := fr c st inp i ++ List.replicate (c.ands.length - i) false
theorem vec_len (i : Nat) (h : i ≤ c.ands.length) : (vec c st inp i).length = 1 + inp.length + st.length + c.ands.length := by
  unfold vec; rw [List.length_append, List.length_replicate, fr_len i h]; omega
theorem vec_set (i : Nat) (h : i < c.ands.length) (b : Bool) : (vec c st inp i).set (1 + inp.length + st.length + i) b = fr c st inp i ++ [b] ++ List.replicate (c.ands.length - (i + 1)) false := by
  unfold vec
  obtain ⟨k, hk⟩ : ∃ k, c.ands.length - i = k + 1 := ⟨c.ands.length - i - 1, by omega⟩
  rw [hk, List.replicate_succ, show c.ands.length - (i + 1) = k by omega]
  have hl := fr_len (c := c) (st := st) (inp := inp) i (by omega)
  rw [← hl]
  simp
include hg hs hi in
theorem all_loop : GoesL Tryd.prog (loopOf Tryd.prog 36 0) (Hv c ((vec c st inp 0).map D.bool) ((1 + inp.length + st.length : Nat) : Int) [(61, .d (I (c.ands.map An.d).length)), (62, .d (I (0 : Nat)))]) (.exit 0)
    (Hv c ((frame c st inp).map D.bool) ((1 + inp.length + st.length : Nat) : Int) []) := by
  have key : ∀ (d i : Nat), c.ands.length - i = d → i ≤ c.ands.length →
      GoesL Tryd.prog (loopOf Tryd.prog 36 0) (Hv c ((vec c st inp i).map D.bool) ((1 + inp.length + st.length : Nat) : Int) [(61, .d (I (c.ands.map An.d).length)), (62, .d (I i))]) (.exit 0)
        (Hv c ((frame c st inp).map D.bool) ((1 + inp.length + st.length : Nat) : Int) []) := by
    have hz := hg.sz
    have hin := hg.ins
    intro d
    induction d with
    | zero =>
      intro i hd hle
      obtain rfl : i = c.ands.length := by omega
      have e : vec c st inp c.ands.length = frame c st inp := by unfold vec fr frame; simp
      rw [e]
      exact .stop hO hm (a3 c _ c.ands.length _) (by simp) (decide_eq_false (by rw [List.length_map]; omega))
    | succ d ih =>
      intro i hd hle
      have hlt : i < c.ands.length := by omega
      have hA := hg.ands i hlt
      have eg : c.ands.getD i default = c.ands[i] := by rw [List.getD_eq_getElem?_getD, List.getElem?_eq_getElem hlt]; rfl
      rw [← eg] at hA
      have hvl := vec_len (c := c) (st := st) (inp := inp) i (by omega)
      have hfl := fr_len (c := c) (st := st) (inp := inp) i (by omega)
      have oa := of (v := vec c st inp i) (l := (c.ands.getD i default).a) (by omega) (by omega) (by omega)
      have ob := of (v := vec c st inp i) (l := (c.ands.getD i default).b) (by omega) (by omega) (by omega)
      have va : val (vec c st inp i) (c.ands.getD i default).a = val (fr c st inp i) (c.ands.getD i default).a := val_app (by omega) (by omega)
      have vb : val (vec c st inp i) (c.ands.getD i default).b = val (fr c st inp i) (c.ands.getD i default).b := val_app (by omega) (by omega)
      have ih' := ih (i + 1) (by omega) (by omega)
      have hn : (((1 + inp.length + st.length : Nat) : Int) + (i : Int)).toNat = 1 + inp.length + st.length + i := by omega
      have es : ∀ b : Bool, ((vec c st inp i).map D.bool).set (((1 + inp.length + st.length : Nat) : Int) + (i : Int)).toNat (D.bool b) = (fr c st inp i ++ [b] ++ List.replicate (c.ands.length - (i + 1)) false).map D.bool := by
        intro b; rw [hn, ← List.map_set, vec_set i hlt]
      have q0 : decide ((i : Int) < (((c.ands.map An.d).length : Nat) : Int)) = true := decide_eq_true (by rw [List.length_map]; omega)
      have q1 : IntKind.i64.wrap (((1 + inp.length + st.length : Nat) : Int) + (i : Int)) = ((1 + inp.length + st.length : Nat) : Int) + (i : Int) := wrap_id (by omega) (by omega)
      have q2 : ((1 + inp.length + st.length : Nat) : Int) + (i : Int) = ((((1 + inp.length + st.length : Nat) : Int) + (i : Int)).toNat : Int) ∧ (((1 + inp.length + st.length : Nat) : Int) + (i : Int)).toNat < ((vec c st inp i).map D.bool).length := by
        rw [List.length_map, hvl]; omega
      have gm := get_map An.d c.ands i hlt
      have er := fr_succ (c := c) (st := st) (inp := inp) i hlt
      cases ca : val (fr c st inp i) (c.ands.getD i default).a with
      | true =>
        rw [va, ca] at oa
        rw [vb] at ob
        refine .step hO hm (a1 c _ i (val (fr c st inp i) (c.ands.getD i default).b) _) ⟨q0, q1, ⟨rfl, gm⟩, ⟨oa, .inr rfl⟩, ⟨rfl, gm⟩, ⟨ob, .inr rfl⟩, q2, wrap_succ (by omega)⟩ ?_
        rw [es]
        unfold vec at ih'
        rw [er, ca, Bool.true_and] at ih'
        exact ih'
      | false =>
        rw [va, ca] at oa
        refine .step hO hm (a2 c _ i _) ⟨q0, q1, ⟨rfl, gm⟩, ⟨oa, .inr rfl⟩, q2, wrap_succ (by omega)⟩ ?_
        rw [es]
        unfold vec at ih'
        rw [er, ca, Bool.false_and] at ih'
        exact ih'
  exact key c.ands.length 0 rfl (Nat.zero_le _)
end
theorem szB (l : List Bool) : ∀ y ∈ l.map D.bool, y.cells.length = (fun x : TypeInfo => x.size) (Tryd.prog.types[4]) := by
  intro y hy
  obtain ⟨b, _, rfl⟩ := List.mem_map.1 hy
  rfl
section
variable {c : Ci} (h : Cw c) (hc : Gates.chk c = 0) {st inp : List Bool} (hs : st.length = c.lats.length) (hi : (inp.length : Int) = c.ins)
include h hc hs hi
theorem allV : ICall Tryd.prog 36 [.d c.d, .d (BL st), .d (BL inp)] [] (.tup [.d (BL (frame c st inp)), .d (I 0)]) [] := by
  have hg := gd hc
  have hz := hg.sz
  have hin := hg.ins
  have hl := all_loop hg hs hi
  have hv := vars_good h hc
  have hN : ((szC c + 1).toNat : Int) = szC c + 1 := by unfold szC; omega
  have hN2 : (szC c + 1).toNat = 1 + inp.length + st.length + c.ands.length := by unfold szC; omega
  have e1 : min ((szC c + 1).toNat - 1) (inp.map D.bool).length = inp.length := by rw [List.length_map]; omega
  have e2 : min (1 + inp.length + st.length - (1 + inp.length)) (st.map D.bool).length = st.length := by rw [List.length_map]; omega
  have R : List.replicate (szC c + 1).toNat (D.bool false) = D.bool false :: (List.replicate inp.length (D.bool false) ++ (List.replicate st.length (D.bool false) ++ List.replicate c.ands.length (D.bool false))) := by
    rw [hN2, show 1 + inp.length + st.length + c.ands.length = (inp.length + (st.length + c.ands.length)) + 1 by omega, List.replicate_succ, List.replicate_append_replicate, List.replicate_append_replicate]
  have eX : List.take 1 (List.replicate (szC c + 1).toNat (D.bool false)) ++ List.take ((szC c + 1).toNat - 1) (inp.map D.bool) ++ List.drop (1 + min ((szC c + 1).toNat - 1) (inp.map D.bool).length) (List.replicate (szC c + 1).toNat (D.bool false)) = D.bool false :: (inp.map D.bool ++ (List.replicate st.length (D.bool false) ++ List.replicate c.ands.length (D.bool false))) := by
    rw [e1, R, List.take_of_length_le (l := inp.map D.bool) (by rw [List.length_map]; omega)]
    rw [show 1 + inp.length = inp.length + 1 by omega]
    simp
  have eY : List.take (1 + inp.length) (D.bool false :: (inp.map D.bool ++ (List.replicate st.length (D.bool false) ++ List.replicate c.ands.length (D.bool false)))) ++ List.take (1 + inp.length + st.length - (1 + inp.length)) (st.map D.bool) ++ List.drop (1 + inp.length + min (1 + inp.length + st.length - (1 + inp.length)) (st.map D.bool).length) (D.bool false :: (inp.map D.bool ++ (List.replicate st.length (D.bool false) ++ List.replicate c.ands.length (D.bool false)))) = (vec c st inp 0).map D.bool := by
    rw [e2, show 1 + inp.length + st.length - (1 + inp.length) = st.length by omega, List.take_of_length_le (l := st.map D.bool) (by rw [List.length_map]; omega)]
    rw [show 1 + inp.length + st.length = (inp.length + st.length) + 1 by omega, show 1 + inp.length = inp.length + 1 by omega]
    unfold vec fr
    simp [frameL, List.drop_append, List.take_append]
  have hXl : (D.bool false :: (inp.map D.bool ++ (List.replicate st.length (D.bool false) ++ List.replicate c.ands.length (D.bool false)))).length = 1 + inp.length + st.length + c.ands.length := by simp; omega
  have := callX_ok hO hm (al c (szC c) ((1 + inp.length + st.length : Nat) : Int) (1 + inp.length + st.length) (1 + inp.length) (szC c + 1).toNat st inp ((frame c st inp).map D.bool)) ⟨hv, rfl, by simp; omega, by simp; omega, wrap_id (by unfold szC; omega) (by unfold szC; omega), ⟨hN.symm, hN.symm, Nat.le_trans (show _ ≤ 1001 by unfold szC; omega) (by decide)⟩,
    ⟨rfl, by rw [List.length_replicate], by omega, by rw [List.length_replicate]; exact Nat.le_refl _⟩, by rw [List.length_replicate]; omega, szB inp, by rw [e1]; exact wrap_id (by omega) (by omega), by rw [e1, List.length_map]; exact wrap_id (by omega) (by omega), by rw [e1, List.length_map]; exact wrap_id (by omega) (by omega),
    ⟨by rw [e1], by rw [e1, List.length_map], by rw [e1, List.length_map], by omega, by omega, by rw [eX, hXl]; omega⟩, by rw [eX, hXl]; omega, szB st, by rw [e1, List.length_map]; exact wrap_id (by omega) (by omega), by
      rw [eX, eY, e1, List.length_map]; exact hl⟩
  exact this.frz rfl
end
end Go.Proofs.YtbamhlgkoimjoaaDoor.Sy.Vl
/- values.list, Next, Props, slices.Contains, whole. -/
namespace Go.Proofs.YtbamhlgkoimjoaaDoor.Sy.Vl
open Go Go.Proofs.YtbamhlgkoimjoaaDoor.Ab Go.Proofs.YtbamhlgkoimjoaaDoor.Sy Go.Proofs.YtbamhlgkoimjoaaDoor.Sy.Tx
set_option maxRecDepth 1000000
set_option linter.unusedVariables false
set_option linter.unusedSimpArgs false
theorem yB : szOf Tryd.prog 4 = some 1 := by kernel_rfl
section
variable {k : Code}
/-- A list behind which something is put for each element. -/
theorem acc_loop {α : Type} [Inhabited α] (xs : List α) (H : Nat → List D → St) (e0 : Ex) (E : List D → St) (f : α → D)
    (hs : ∀ i acc, i < xs.length → acc.length = i → ∀ e s, GoesL Tryd.prog k (H (i + 1) (acc ++ [f (xs.getD i default)])) e s → GoesL Tryd.prog k (H i acc) e s)
    (he : ∀ acc, acc.length = xs.length → GoesL Tryd.prog k (H xs.length acc) e0 (E acc)) : GoesL Tryd.prog k (H 0 []) e0 (E (xs.map f)) := by
  have key : ∀ (d i : Nat) (l : List D), xs.length - i = d → i ≤ xs.length → l.length = i → GoesL Tryd.prog k (H i l) e0 (E (l ++ (xs.drop i).map f)) := by
    intro d
    induction d with
    | zero =>
      intro i l hd hi hl
      obtain rfl : i = xs.length := by omega
      rw [List.drop_length, List.map_nil, List.append_nil]
      exact he l hl
    | succ d ih =>
      intro i l hd hi hl
      have hlt : i < xs.length := by omega
      refine hs i l hlt hl _ _ ?_
      rw [drop_getD xs i hlt, List.map_cons, show l ++ f (xs.getD i default) :: List.map f (xs.drop (i + 1)) = (l ++ [f (xs.getD i default)]) ++ List.map f (xs.drop (i + 1)) by simp]
      exact ih (i + 1) _ (by omega) (by omega) (by rw [List.length_append]; simp; omega)
  exact key _ 0 [] rfl (Nat.zero_le _) rfl
end
theorem index (v : List Bool) (b : Bool) (hl : v.length ≤ 1000000) : ICall Tryd.prog 38 [.d (BL v), .d (.bool b)] [] (.d (I (if v.contains b then (v.idxOf b : Int) else -1))) [] := by
  have key : ∀ (d i : Nat), v.length - i = d → i ≤ v.length → (∀ j, j < i → v.getD j default ≠ b) →
      (v.contains b = true → GoesL Tryd.prog (loopOf Tryd.prog 38 0) (Ix v b [(7, .d (I (v.map D.bool).length)), (8, .d (I i))]) .ret (Ry (v.idxOf b))) ∧
      (v.contains b = false → GoesL Tryd.prog (loopOf Tryd.prog 38 0) (Ix v b [(7, .d (I (v.map D.bool).length)), (8, .d (I i))]) (.exit 0) Rz) := by
    intro d
    induction d with
    | zero =>
      intro i hd hi hn
      obtain rfl : i = v.length := by omega
      have hmm : v.contains b = false := by
        rw [Bool.eq_false_iff]; intro hc
        have hc := List.contains_iff_mem.1 hc
        obtain ⟨j, hj, e⟩ := List.getElem_of_mem hc
        refine hn j hj ?_
        rw [List.getD_eq_getElem?_getD, List.getElem?_eq_getElem hj]; exact e
      refine ⟨fun h => (by rw [hmm] at h; cases h), fun _ => ?_⟩
      have q := decide_eq_false (show ¬ ((v.length : Int) < (((v.map D.bool).length : Nat) : Int)) by rw [List.length_map]; omega)
      cases b
      · exact .stop hO hm (x3f v.length v) (by simp) q
      · exact .stop hO hm (x3t v.length v) (by simp) q
    | succ d ih =>
      intro i hd hi hn
      have hlt : i < v.length := by omega
      have q := decide_eq_true (show ((i : Int) < (((v.map D.bool).length : Nat) : Int)) by rw [List.length_map]; omega)
      have gm := get_map D.bool v i hlt
      by_cases e : v.getD i default = b
      · have hmem : b ∈ v := by rw [← e]; exact mem_getD hlt
        have hix : v.idxOf b = i := by
          have h1 : v.idxOf b ≤ i := by
            rw [← e, List.getD_eq_getElem?_getD, List.getElem?_eq_getElem hlt]
            exact Nat.le_of_not_lt fun hlt2 => by
              have := List.not_of_lt_findIdx (p := (· == v[i])) (xs := v) (i := i) hlt2
              simp at this
          have h2 : ¬ v.idxOf b < i := fun h2 => hn _ h2 (by
            have hl2 : v.idxOf b < v.length := List.idxOf_lt_length_iff.2 hmem
            rw [List.getD_eq_getElem?_getD, List.getElem?_eq_getElem hl2]
            exact List.getElem_idxOf hl2)
          omega
        refine ⟨fun _ => ?_, fun h => (by rw [List.contains_iff_mem.2 hmem] at h; cases h)⟩
        rw [hix]
        cases b
        · exact .stop hO hm (x1f i v) (by simp) ⟨q, ⟨rfl, gm⟩, by rw [e]; rfl⟩
        · exact .stop hO hm (x1t i v) (by simp) ⟨q, ⟨rfl, gm⟩, by rw [e]; rfl⟩
      · have ih' := ih (i + 1) (by omega) (by omega) (fun j hj => by
          by_cases hji : j = i
          · subst hji; exact e
          · exact hn j (by omega))
        have go : ∀ e' s, GoesL Tryd.prog (loopOf Tryd.prog 38 0) (Ix v b [(7, .d (I (v.map D.bool).length)), (8, .d (I (i + 1 : Nat)))]) e' s → GoesL Tryd.prog (loopOf Tryd.prog 38 0) (Ix v b [(7, .d (I (v.map D.bool).length)), (8, .d (I i))]) e' s := by
          intro e' s hh
          cases b
          · exact .step hO hm (x2f i v) ⟨q, ⟨rfl, gm⟩, by simpa using e, wrap_succ (by omega)⟩ hh
          · exact .step hO hm (x2t i v) ⟨q, ⟨rfl, gm⟩, by simpa using e, wrap_succ (by omega)⟩ hh
        exact ⟨fun hc => go _ _ (ih'.1 hc), fun hc => go _ _ (ih'.2 hc)⟩
  have k0 := key v.length 0 rfl (Nat.zero_le _) (fun j hj => absurd hj (Nat.not_lt_zero j))
  cases hc : v.contains b with
  | true => exact callX_ok hO hm (ix1 (v.idxOf b) v b) (k0.1 hc)
  | false => exact callX_ok hO hm (ix0 v b) (k0.2 hc)
theorem contains (v : List Bool) (b : Bool) (hl : v.length ≤ 1000000) : ICall Tryd.prog 25 [.d (BL v), .d (.bool b)] [] (.d (.bool (v.contains b))) [] := by
  have h := index v b hl
  cases hc : v.contains b with
  | true =>
    rw [hc, if_pos rfl] at h
    exact callX_ok hO hm (co1 _ v b) ⟨h, decide_eq_true (by omega)⟩
  | false =>
    rw [hc, if_neg (by simp)] at h
    exact callX_ok hO hm (co0 _ v b) ⟨h, rfl⟩
theorem wr_ad (c : Ci) (v : List Bool) (f : Nat) (n : Int) : adoptS 14 4 (⟨mk 40 [(4, .func f [.ptr 0 0]), (5, .ptr 1 0), (12, .d (BL v)), (14, .emp true), (26, .d (I n)), (27, .d (I 0))] [], [Bc c, Bc c]⟩ : St) = Hq c v f [] n [(26, .d (I n)), (27, .d (I 0))] := by kernel_rfl
theorem wr_fr (c : Ci) (v : List Bool) (f : Nat) (acc : List D) (n : Int) : Ab.freeze 2 (Hq c v f acc n []) = Ef c v f acc := by kernel_rfl
def nextS (c : Ci) (st inp : List Bool) : List Bool := c.lats.map fun l => val (frame c st inp) l.next
def badsS (c : Ci) (st inp : List Bool) : List Bool := c.bads.map (val (frame c st inp))
def consS (c : Ci) (st inp : List Bool) : List Bool := c.cons.map (val (frame c st inp))
/-- All constraints hold. -/
def holdsS (c : Ci) (st inp : List Bool) : Bool := c.cons.all (val (frame c st inp))
section
variable {c : Ci} (h : Cw c) (hc : Gates.chk c = 0) {st inp : List Bool} (hs : st.length = c.lats.length) (hi : (inp.length : Int) = c.ins)
include h hc hs hi
omit h in
theorem loop_n : GoesL Tryd.prog (loopOf Tryd.prog 22 0) (⟨mk 40 [(4, .func 53 [.ptr 0 0]), (5, .ptr 1 0), (12, .d (BL (frame c st inp))), (14, .emp true), (26, .d (I ((c.lats.map Lt.d).length : Nat))), (27, .d (I 0))] [], [Bc c, Bc c]⟩) (.exit 0) (Ef c (frame c st inp) 53 (c.lats.map fun x => .bool (val (frame c st inp) x.next))) := by
  have hg := gd hc
  have hz := hg.sz
  have hin := hg.ins
  have h100 := hg.b100
  have h101 := hg.c100
  have hfl := frame_len c st inp
  have loop := acc_loop (k := loopOf Tryd.prog 22 0) c.lats (fun i acc => Hq c (frame c st inp) 53 acc ((c.lats.map Lt.d).length : Nat) [(26, .d (I ((c.lats.map Lt.d).length : Nat))), (27, .d (I i))]) (.exit 0) (fun acc => Ef c (frame c st inp) 53 acc) (fun x => .bool (val (frame c st inp) x.next))
    (fun i acc hlt ha e s hh => by
      have hm2 := hg.lats _ (mem_getD hlt)
      refine .step hO hm (l1n c _ (c.lats.getD i default).next i (frame c st inp) (val (frame c st inp) (c.lats.getD i default).next) acc) ⟨decide_eq_true (by rw [List.length_map]; omega), callX_ok hO hm (cn c i) ⟨rfl, get_map Lt.d c.lats i hlt⟩, ⟨of (by omega) (by omega) (by omega), .inl rfl⟩, Nat.le_trans (show _ ≤ 100000 by simp; omega) (by decide), wrap_succ (by omega)⟩ hh)
    (fun acc ha => by
      have := (GoesL.stop hO hm (l2n c ((c.lats.map Lt.d).length : Nat) c.lats.length (frame c st inp) acc) (by simp) (decide_eq_false (by rw [List.length_map]; omega))).frz 2
      rw [wr_fr] at this
      exact this)
  exact GoesL.adoptS (s := ⟨mk 40 [(4, .func 53 [.ptr 0 0]), (5, .ptr 1 0), (12, .d (BL (frame c st inp))), (14, .emp true), (26, .d (I ((c.lats.map Lt.d).length : Nat))), (27, .d (I 0))] [], [Bc c, Bc c]⟩) (j := 14) (t := 4) yB (by rw [wr_ad]; exact loop)
theorem list_n : ICall Tryd.prog 22 [.d c.d, .d (BL st), .d (BL inp), .d (I ((c.lats.map Lt.d).length : Nat)), .func 53 [.ptr 0 0]] [Bc c] (.tup [.d (BL (nextS c st inp)), .d (I 0)]) [Bc c] := by
  have l := lin c ((c.lats.map Lt.d).length : Nat) (frame c st inp) st inp (c.lats.map fun x => .bool (val (frame c st inp) x.next))
  have ha := allV h hc hs hi
  have hl := loop_n hc hs hi
  have := callX_ok hO hm l ⟨ha, rfl, hl⟩
  have e : BL (nextS c st inp) = D.sl (c.lats.map fun x => .bool (val (frame c st inp) x.next)) := by unfold BL nextS; rw [List.map_map]; rfl
  rw [e]
  exact this
omit h in
theorem loop_p : GoesL Tryd.prog (loopOf Tryd.prog 22 0) (⟨mk 40 [(4, .func 23 [.ptr 0 0]), (5, .ptr 1 0), (12, .d (BL (frame c st inp))), (14, .emp true), (26, .d (I ((c.bads.map I).length : Nat))), (27, .d (I 0))] [], [Bc c, Bc c]⟩) (.exit 0) (Ef c (frame c st inp) 23 (c.bads.map fun x => .bool (val (frame c st inp) x))) := by
  have hg := gd hc
  have hz := hg.sz
  have hin := hg.ins
  have h100 := hg.b100
  have h101 := hg.c100
  have hfl := frame_len c st inp
  have loop := acc_loop (k := loopOf Tryd.prog 22 0) c.bads (fun i acc => Hq c (frame c st inp) 23 acc ((c.bads.map I).length : Nat) [(26, .d (I ((c.bads.map I).length : Nat))), (27, .d (I i))]) (.exit 0) (fun acc => Ef c (frame c st inp) 23 acc) (fun x => .bool (val (frame c st inp) x))
    (fun i acc hlt ha e s hh => by
      have hm2 := hg.bads _ (mem_getD hlt)
      refine .step hO hm (l1p c _ (c.bads.getD i default) i (frame c st inp) (val (frame c st inp) (c.bads.getD i default)) acc) ⟨decide_eq_true (by rw [List.length_map]; omega), callX_ok hO hm (cp c i) ⟨rfl, get_map I c.bads i hlt⟩, ⟨of (by omega) (by omega) (by omega), .inl rfl⟩, Nat.le_trans (show _ ≤ 100000 by simp; omega) (by decide), wrap_succ (by omega)⟩ hh)
    (fun acc ha => by
      have := (GoesL.stop hO hm (l2p c ((c.bads.map I).length : Nat) c.bads.length (frame c st inp) acc) (by simp) (decide_eq_false (by rw [List.length_map]; omega))).frz 2
      rw [wr_fr] at this
      exact this)
  exact GoesL.adoptS (s := ⟨mk 40 [(4, .func 23 [.ptr 0 0]), (5, .ptr 1 0), (12, .d (BL (frame c st inp))), (14, .emp true), (26, .d (I ((c.bads.map I).length : Nat))), (27, .d (I 0))] [], [Bc c, Bc c]⟩) (j := 14) (t := 4) yB (by rw [wr_ad]; exact loop)
theorem list_p : ICall Tryd.prog 22 [.d c.d, .d (BL st), .d (BL inp), .d (I ((c.bads.map I).length : Nat)), .func 23 [.ptr 0 0]] [Bc c] (.tup [.d (BL (badsS c st inp)), .d (I 0)]) [Bc c] := by
  have l := lip c ((c.bads.map I).length : Nat) (frame c st inp) st inp (c.bads.map fun x => .bool (val (frame c st inp) x))
  have ha := allV h hc hs hi
  have hl := loop_p hc hs hi
  have := callX_ok hO hm l ⟨ha, rfl, hl⟩
  have e : BL (badsS c st inp) = D.sl (c.bads.map fun x => .bool (val (frame c st inp) x)) := by unfold BL badsS; rw [List.map_map]; rfl
  rw [e]
  exact this
omit h in
theorem loop_q : GoesL Tryd.prog (loopOf Tryd.prog 22 0) (⟨mk 40 [(4, .func 24 [.ptr 0 0]), (5, .ptr 1 0), (12, .d (BL (frame c st inp))), (14, .emp true), (26, .d (I ((c.cons.map I).length : Nat))), (27, .d (I 0))] [], [Bc c, Bc c]⟩) (.exit 0) (Ef c (frame c st inp) 24 (c.cons.map fun x => .bool (val (frame c st inp) x))) := by
  have hg := gd hc
  have hz := hg.sz
  have hin := hg.ins
  have h100 := hg.b100
  have h101 := hg.c100
  have hfl := frame_len c st inp
  have loop := acc_loop (k := loopOf Tryd.prog 22 0) c.cons (fun i acc => Hq c (frame c st inp) 24 acc ((c.cons.map I).length : Nat) [(26, .d (I ((c.cons.map I).length : Nat))), (27, .d (I i))]) (.exit 0) (fun acc => Ef c (frame c st inp) 24 acc) (fun x => .bool (val (frame c st inp) x))
    (fun i acc hlt ha e s hh => by
      have hm2 := hg.cons _ (mem_getD hlt)
      refine .step hO hm (l1q c _ (c.cons.getD i default) i (frame c st inp) (val (frame c st inp) (c.cons.getD i default)) acc) ⟨decide_eq_true (by rw [List.length_map]; omega), callX_ok hO hm (cq c i) ⟨rfl, get_map I c.cons i hlt⟩, ⟨of (by omega) (by omega) (by omega), .inl rfl⟩, Nat.le_trans (show _ ≤ 100000 by simp; omega) (by decide), wrap_succ (by omega)⟩ hh)
    (fun acc ha => by
      have := (GoesL.stop hO hm (l2q c ((c.cons.map I).length : Nat) c.cons.length (frame c st inp) acc) (by simp) (decide_eq_false (by rw [List.length_map]; omega))).frz 2
      rw [wr_fr] at this
      exact this)
  exact GoesL.adoptS (s := ⟨mk 40 [(4, .func 24 [.ptr 0 0]), (5, .ptr 1 0), (12, .d (BL (frame c st inp))), (14, .emp true), (26, .d (I ((c.cons.map I).length : Nat))), (27, .d (I 0))] [], [Bc c, Bc c]⟩) (j := 14) (t := 4) yB (by rw [wr_ad]; exact loop)
theorem list_q : ICall Tryd.prog 22 [.d c.d, .d (BL st), .d (BL inp), .d (I ((c.cons.map I).length : Nat)), .func 24 [.ptr 0 0]] [Bc c] (.tup [.d (BL (consS c st inp)), .d (I 0)]) [Bc c] := by
  have l := liq c ((c.cons.map I).length : Nat) (frame c st inp) st inp (c.cons.map fun x => .bool (val (frame c st inp) x))
  have ha := allV h hc hs hi
  have hl := loop_q hc hs hi
  have := callX_ok hO hm l ⟨ha, rfl, hl⟩
  have e : BL (consS c st inp) = D.sl (c.cons.map fun x => .bool (val (frame c st inp) x)) := by unfold BL consS; rw [List.map_map]; rfl
  rw [e]
  exact this
theorem next : ICall Tryd.prog 35 [.d c.d, .d (BL st), .d (BL inp)] [] (.tup [.d (BL (nextS c st inp)), .d (I 0)]) [] :=
  callX_ok hO hm (nx c (nextS c st inp) st inp) (list_n h hc hs hi)
theorem props : ICall Tryd.prog 12 [.d c.d, .d (BL st), .d (BL inp)] [] (.tup [.d (.bool (holdsS c st inp)), .d (BL (badsS c st inp)), .d (I 0)]) [] := by
  have h101 := (gd hc).c100
  have hcn := contains (consS c st inp) false (by unfold consS; rw [List.length_map]; omega)
  have e : holdsS c st inp = !(consS c st inp).contains false := by
    unfold holdsS consS
    rw [Bool.eq_iff_iff]
    simp
  cases hh : (consS c st inp).contains false with
  | true =>
    rw [hh] at hcn e
    rw [e]
    exact callX_ok hO hm (prt c (badsS c st inp) st inp (consS c st inp)) ⟨list_p h hc hs hi, rfl, list_q h hc hs hi, hcn, rfl⟩
  | false =>
    rw [hh] at hcn e
    rw [e]
    exact callX_ok hO hm (prf c (badsS c st inp) st inp (consS c st inp)) ⟨list_p h hc hs hi, rfl, list_q h hc hs hi, hcn, rfl⟩
end
end Go.Proofs.YtbamhlgkoimjoaaDoor.Sy.Vl
/- traces.starts, Check, walk, States, Right: round by round. -/
namespace Go.Proofs.YtbamhlgkoimjoaaDoor.Sy.Tc
open Go Go.Proofs.YtbamhlgkoimjoaaDoor.Ab Go.Proofs.YtbamhlgkoimjoaaDoor.Sy Go.Proofs.YtbamhlgkoimjoaaDoor.Sy.Tx Go.Proofs.YtbamhlgkoimjoaaDoor.Sy.Vl
set_option maxRecDepth 1000000
set_option linter.unusedVariables false
/-- A run. -/
structure Tr where
  first : List Bool
  ins : List (List Bool)
def Tr.d (t : Tr) : D := .agg [BL t.first, .sl (t.ins.map BL)]
def Bt (t : Tr) : B := .box [.d (BL t.first), .d (.sl (t.ins.map BL))]
def Hs (c : Ci) (st : List Bool) (sl : List (Nat × V)) : St := ⟨mk 29 ([(1, .d (BL st)), (2, .ptr 0 0)] ++ sl) [], [Bc c]⟩
def Rs (c : Ci) : St := ⟨mk 29 [(4, .d (.bool false))] [], [Bc c]⟩
def Hj (c : Ci) (ls : List (List Bool)) (sl : List (Nat × V)) : St := ⟨mk 19 ([(0, .d (.sl (ls.map BL))), (1, .func 50 [.ptr 0 0])] ++ sl) [], [Bc c]⟩
def Rj (c : Ci) (i : Nat) : St := ⟨mk 19 [(4, .d (I i))] [], [Bc c]⟩
def Ej (c : Ci) : St := ⟨mk 19 [] [], [Bc c]⟩
def Hw (c : Ci) (t : Tr) (f : Nat) (b0 : B) (bs : List B) (st : List Bool) (sl : List (Nat × V)) : St := ⟨mk 65 ([(2, .func f [.ptr 0 0]), (3, .ptr 1 0), (4, .ptr 2 0), (8, .d (BL st))] ++ sl) [], [b0, Bc c, Bt t, .dead] ++ bs⟩
section
variable (c : Ci) (t : Tr) (n x l e : Int) (i j u k m : Nat) (v st inp v2 st2 : List Bool) (b b2 : Bool) (xs ys acc : List D) (ls : List (List Bool)) (b0 : B) (bs : List B)
theorem s1 : round Tryd.prog wr false O (loopOf Tryd.prog 51 0) (Hs c st [(8, .d (.sl (c.lats.map Lt.d))), (9, .d (I (c.lats.map Lt.d).length)), (10, .d (I i))]) [It.br true, It.el i (c.lats.getD i default).d, It.br true, It.el i (D.bool (st.getD i default)), It.br true, It.br true] [4] 1 = some (.ret, Rs c,
  [decide ((↑i : Int) < (↑(List.map Lt.d c.lats).length : Int)) = true,
   (↑i : Int) = (↑i : Int) ∧ (List.map Lt.d c.lats)[i]? = some (c.lats.getD i default).d,
   ((c.lats.getD i default).reset != 2) = true,
   (↑i : Int) = (↑i : Int) ∧ (List.map D.bool st)[i]? = some (D.bool (st.getD i default)),
   ((c.lats.getD i default).reset == 1) = true,
   (!st.getD i default == true) = true]) := by kernel_rfl
theorem s2 : round Tryd.prog wr false O (loopOf Tryd.prog 51 0) (Hs c st [(8, .d (.sl (c.lats.map Lt.d))), (9, .d (I (c.lats.map Lt.d).length)), (10, .d (I i))]) [It.br true, It.el i (c.lats.getD i default).d, It.br true, It.el i (D.bool (st.getD i default)), It.br true, It.br false, It.is (↑(i + 1) : Int)] [1, 2, 8, 9, 10] 1 = some (.normal, Hs c st [(8, .d (.sl (c.lats.map Lt.d))), (9, .d (I (c.lats.map Lt.d).length)), (10, .d (I (i + 1 : Nat)))],
  [decide ((↑i : Int) < (↑(List.map Lt.d c.lats).length : Int)) = true,
   (↑i : Int) = (↑i : Int) ∧ (List.map Lt.d c.lats)[i]? = some (c.lats.getD i default).d,
   ((c.lats.getD i default).reset != 2) = true,
   (↑i : Int) = (↑i : Int) ∧ (List.map D.bool st)[i]? = some (D.bool (st.getD i default)),
   ((c.lats.getD i default).reset == 1) = true,
   (!st.getD i default == true) = false,
   IntKind.i64.wrap ((↑i : Int) + 1) = (↑(i + 1) : Int)]) := by kernel_rfl
theorem s3 : round Tryd.prog wr false O (loopOf Tryd.prog 51 0) (Hs c st [(8, .d (.sl (c.lats.map Lt.d))), (9, .d (I (c.lats.map Lt.d).length)), (10, .d (I i))]) [It.br true, It.el i (c.lats.getD i default).d, It.br true, It.el i (D.bool (st.getD i default)), It.br false, It.br true] [4] 1 = some (.ret, Rs c,
  [decide ((↑i : Int) < (↑(List.map Lt.d c.lats).length : Int)) = true,
   (↑i : Int) = (↑i : Int) ∧ (List.map Lt.d c.lats)[i]? = some (c.lats.getD i default).d,
   ((c.lats.getD i default).reset != 2) = true,
   (↑i : Int) = (↑i : Int) ∧ (List.map D.bool st)[i]? = some (D.bool (st.getD i default)),
   ((c.lats.getD i default).reset == 1) = false,
   (!st.getD i default == false) = true]) := by kernel_rfl
theorem s4 : round Tryd.prog wr false O (loopOf Tryd.prog 51 0) (Hs c st [(8, .d (.sl (c.lats.map Lt.d))), (9, .d (I (c.lats.map Lt.d).length)), (10, .d (I i))]) [It.br true, It.el i (c.lats.getD i default).d, It.br true, It.el i (D.bool (st.getD i default)), It.br false, It.br false, It.is (↑(i + 1) : Int)] [1, 2, 8, 9, 10] 1 = some (.normal, Hs c st [(8, .d (.sl (c.lats.map Lt.d))), (9, .d (I (c.lats.map Lt.d).length)), (10, .d (I (i + 1 : Nat)))],
  [decide ((↑i : Int) < (↑(List.map Lt.d c.lats).length : Int)) = true,
   (↑i : Int) = (↑i : Int) ∧ (List.map Lt.d c.lats)[i]? = some (c.lats.getD i default).d,
   ((c.lats.getD i default).reset != 2) = true,
   (↑i : Int) = (↑i : Int) ∧ (List.map D.bool st)[i]? = some (D.bool (st.getD i default)),
   ((c.lats.getD i default).reset == 1) = false,
   (!st.getD i default == false) = false,
   IntKind.i64.wrap ((↑i : Int) + 1) = (↑(i + 1) : Int)]) := by kernel_rfl
theorem s5 : round Tryd.prog wr false O (loopOf Tryd.prog 51 0) (Hs c st [(8, .d (.sl (c.lats.map Lt.d))), (9, .d (I (c.lats.map Lt.d).length)), (10, .d (I i))]) [It.br true, It.el i (c.lats.getD i default).d, It.br false, It.is (↑(i + 1) : Int)] [1, 2, 8, 9, 10] 1 = some (.normal, Hs c st [(8, .d (.sl (c.lats.map Lt.d))), (9, .d (I (c.lats.map Lt.d).length)), (10, .d (I (i + 1 : Nat)))],
  [decide ((↑i : Int) < (↑(List.map Lt.d c.lats).length : Int)) = true,
   (↑i : Int) = (↑i : Int) ∧ (List.map Lt.d c.lats)[i]? = some (c.lats.getD i default).d,
   ((c.lats.getD i default).reset != 2) = false,
   IntKind.i64.wrap ((↑i : Int) + 1) = (↑(i + 1) : Int)]) := by kernel_rfl
theorem s6 : round Tryd.prog wr false O (loopOf Tryd.prog 51 0) (Hs c st [(8, .d (.sl (c.lats.map Lt.d))), (9, .d (I (c.lats.map Lt.d).length)), (10, .d (I i))]) [It.br false] [1, 2] 1 = some (.exit 0, Hs c st [],
  [decide ((↑i : Int) < (↑(List.map Lt.d c.lats).length : Int)) = false]) := by kernel_rfl
theorem st0  : callX Tryd.prog wr false O 51 [.d c.d, .d (BL st)] [] [It.lp [1, 2, 8, 9, 10] Ex.ret (Rs c)] = some (V.d (D.bool false), [],
  [GoesL Tryd.prog (loopOf Tryd.prog 51 0) (⟨mk 29 [(1, V.d (D.sl (List.map D.bool st))), (2, V.ptr 0 0), (8, V.d (D.sl (List.map Lt.d c.lats))), (9, V.d (D.int IntKind.i64 (↑(List.map Lt.d c.lats).length : Int))), (10, V.d (D.int IntKind.i64 0))] [], [B.bx none [V.d (D.int IntKind.i64 c.ins), V.d (D.sl (List.map Lt.d c.lats)), V.d (D.sl (List.map An.d c.ands)), V.d (D.sl (List.map I c.bads)), V.d (D.sl (List.map I c.cons))]]⟩) (Ex.ret) (Rs c)]) := by kernel_rfl
theorem st1  : callX Tryd.prog wr false O 51 [.d c.d, .d (BL st)] [] [It.lp [1, 2, 8, 9, 10] (Ex.exit 0) (Hs c st [])] = some (V.d (D.bool true), [],
  [GoesL Tryd.prog (loopOf Tryd.prog 51 0) (⟨mk 29 [(1, V.d (D.sl (List.map D.bool st))), (2, V.ptr 0 0), (8, V.d (D.sl (List.map Lt.d c.lats))), (9, V.d (D.int IntKind.i64 (↑(List.map Lt.d c.lats).length : Int))), (10, V.d (D.int IntKind.i64 0))] [], [B.bx none [V.d (D.int IntKind.i64 c.ins), V.d (D.sl (List.map Lt.d c.lats)), V.d (D.sl (List.map An.d c.ands)), V.d (D.sl (List.map I c.bads)), V.d (D.sl (List.map I c.cons))]]⟩) (Ex.exit 0) (Hs c st [])]) := by kernel_rfl
theorem cl1  : callX Tryd.prog wr false O 50 [.d (BL v), .ptr 0 0] [Bc c] [It.br true] = some (V.d (D.bool true), [Bc c],
  [((↑(List.map D.bool v).length : Int) != c.ins) = true]) := by kernel_rfl
theorem cl0  : callX Tryd.prog wr false O 50 [.d (BL v), .ptr 0 0] [Bc c] [It.br false] = some (V.d (D.bool false), [Bc c],
  [((↑(List.map D.bool v).length : Int) != c.ins) = false]) := by kernel_rfl
theorem j1 : round Tryd.prog wr false O (loopOf Tryd.prog 70 0) (Hj c ls [(7, .d (I (ls.map BL).length)), (8, .d (I i))]) [It.br true, It.el i (BL (ls.getD i default)), It.icall [0] (V.d (D.bool true)) [Bc c]] [4] 1 = some (.ret, Rj c i,
  [decide ((↑i : Int) < (↑(List.map BL ls).length : Int)) = true,
   (↑i : Int) = (↑i : Int) ∧ (List.map BL ls)[i]? = some (BL (ls.getD i default)),
   ICall Tryd.prog 50 [V.d (BL (ls.getD i default)), V.ptr 0 0] [B.bx none [V.d (I c.ins), V.d (D.sl (List.map Lt.d c.lats)), V.d (D.sl (List.map An.d c.ands)), V.d (L c.bads), V.d (L c.cons)]] (V.d (D.bool true)) [Bc c]]) := by kernel_rfl
theorem j2 : round Tryd.prog wr false O (loopOf Tryd.prog 70 0) (Hj c ls [(7, .d (I (ls.map BL).length)), (8, .d (I i))]) [It.br true, It.el i (BL (ls.getD i default)), It.icall [0] (V.d (D.bool false)) [Bc c], It.is (↑(i + 1) : Int)] [0, 1, 7, 8] 1 = some (.normal, Hj c ls [(7, .d (I (ls.map BL).length)), (8, .d (I (i + 1 : Nat)))],
  [decide ((↑i : Int) < (↑(List.map BL ls).length : Int)) = true,
   (↑i : Int) = (↑i : Int) ∧ (List.map BL ls)[i]? = some (BL (ls.getD i default)),
   ICall Tryd.prog 50 [V.d (BL (ls.getD i default)), V.ptr 0 0] [B.bx none [V.d (I c.ins), V.d (D.sl (List.map Lt.d c.lats)), V.d (D.sl (List.map An.d c.ands)), V.d (L c.bads), V.d (L c.cons)]] (V.d (D.bool false)) [Bc c],
   IntKind.i64.wrap ((↑i : Int) + 1) = (↑(i + 1) : Int)]) := by kernel_rfl
theorem j3 : round Tryd.prog wr false O (loopOf Tryd.prog 70 0) (Hj c ls [(7, .d (I (ls.map BL).length)), (8, .d (I i))]) [It.br false] [] 1 = some (.exit 0, Ej c,
  [decide ((↑i : Int) < (↑(List.map BL ls).length : Int)) = false]) := by kernel_rfl
theorem jx1  : callX Tryd.prog wr false O 70 [.d (.sl (ls.map BL)), .func 50 [.ptr 0 0]] [Bc c] [It.lp [0, 1, 7, 8] Ex.ret (Rj c i)] = some (V.d (D.int IntKind.i64 (↑i : Int)), [Bc c],
  [GoesL Tryd.prog (loopOf Tryd.prog 70 0) (⟨mk 19 [(0, V.d (D.sl (List.map BL ls))), (1, V.func 50 [V.ptr 0 0]), (7, V.d (D.int IntKind.i64 (↑(List.map BL ls).length : Int))), (8, V.d (D.int IntKind.i64 0))] [], [B.bx none [V.d (D.int IntKind.i64 c.ins), V.d (D.sl (List.map Lt.d c.lats)), V.d (D.sl (List.map An.d c.ands)), V.d (D.sl (List.map I c.bads)), V.d (D.sl (List.map I c.cons))]]⟩) (Ex.ret) (Rj c i)]) := by kernel_rfl
theorem jx0  : callX Tryd.prog wr false O 70 [.d (.sl (ls.map BL)), .func 50 [.ptr 0 0]] [Bc c] [It.lp [0, 1, 7, 8] (Ex.exit 0) (Ej c)] = some (V.d (D.int IntKind.i64 (-1)), [Bc c],
  [GoesL Tryd.prog (loopOf Tryd.prog 70 0) (⟨mk 19 [(0, V.d (D.sl (List.map BL ls))), (1, V.func 50 [V.ptr 0 0]), (7, V.d (D.int IntKind.i64 (↑(List.map BL ls).length : Int))), (8, V.d (D.int IntKind.i64 0))] [], [B.bx none [V.d (D.int IntKind.i64 c.ins), V.d (D.sl (List.map Lt.d c.lats)), V.d (D.sl (List.map An.d c.ands)), V.d (D.sl (List.map I c.bads)), V.d (D.sl (List.map I c.cons))]]⟩) (Ex.exit 0) (Ej c)]) := by kernel_rfl
theorem cf1  : callX Tryd.prog wr false O 52 [.d (.sl (ls.map BL)), .func 50 [.ptr 0 0]] [Bc c] [It.icall [0] (V.d (I x)) [Bc c], It.br true] = some (V.d (D.bool true), [Bc c],
  [ICall Tryd.prog 70 [V.d (D.sl (List.map BL ls)), V.func 50 [V.ptr 0 0]] [B.bx none [V.d (I c.ins), V.d (D.sl (List.map Lt.d c.lats)), V.d (D.sl (List.map An.d c.ands)), V.d (L c.bads), V.d (L c.cons)]] (V.d (I x)) [Bc c],
   decide (x ≥ 0) = true]) := by kernel_rfl
theorem cf0  : callX Tryd.prog wr false O 52 [.d (.sl (ls.map BL)), .func 50 [.ptr 0 0]] [Bc c] [It.icall [0] (V.d (I x)) [Bc c], It.br false] = some (V.d (D.bool false), [Bc c],
  [ICall Tryd.prog 70 [V.d (D.sl (List.map BL ls)), V.func 50 [V.ptr 0 0]] [B.bx none [V.d (I c.ins), V.d (D.sl (List.map Lt.d c.lats)), V.d (D.sl (List.map An.d c.ands)), V.d (L c.bads), V.d (L c.cons)]] (V.d (I x)) [Bc c],
   decide (x ≥ 0) = false]) := by kernel_rfl
theorem ck0  : callX Tryd.prog wr false O 34 [.d c.d, .d t.d] [] [It.icall [] (V.d (I e)) [], It.br true] = some (V.d (D.int IntKind.i64 e), [],
  [ICall Tryd.prog 26 [V.d (D.agg [I c.ins, D.sl (List.map Lt.d c.lats), D.sl (List.map An.d c.ands), L c.bads, L c.cons])] [] (V.d (I e)) [],
   (e != 0) = true]) := by kernel_rfl
theorem ck1  : callX Tryd.prog wr false O 34 [.d c.d, .d t.d] [] [It.icall [] (V.d (I 0)) [], It.br false, It.br true] = some (V.d (D.int IntKind.i64 4), [],
  [ICall Tryd.prog 26 [V.d (D.agg [I c.ins, D.sl (List.map Lt.d c.lats), D.sl (List.map An.d c.ands), L c.bads, L c.cons])] [] (V.d (I 0)) [],
   (0 != 0) = false,
   decide ((↑(List.map BL t.ins).length : Int) > 100) = true]) := by kernel_rfl
theorem ck2  : callX Tryd.prog wr false O 34 [.d c.d, .d t.d] [] [It.icall [] (V.d (I 0)) [], It.br false, It.br false, It.br true] = some (V.d (D.int IntKind.i64 8), [],
  [ICall Tryd.prog 26 [V.d (D.agg [I c.ins, D.sl (List.map Lt.d c.lats), D.sl (List.map An.d c.ands), L c.bads, L c.cons])] [] (V.d (I 0)) [],
   (0 != 0) = false,
   decide ((↑(List.map BL t.ins).length : Int) > 100) = false,
   ((↑(List.map BL t.ins).length : Int) == 0) = true]) := by kernel_rfl
theorem ck3  : callX Tryd.prog wr false O 34 [.d c.d, .d t.d] [] [It.icall [] (V.d (I 0)) [], It.br false, It.br false, It.br false, It.br true] = some (V.d (D.int IntKind.i64 8), [],
  [ICall Tryd.prog 26 [V.d (D.agg [I c.ins, D.sl (List.map Lt.d c.lats), D.sl (List.map An.d c.ands), L c.bads, L c.cons])] [] (V.d (I 0)) [],
   (0 != 0) = false,
   decide ((↑(List.map BL t.ins).length : Int) > 100) = false,
   ((↑(List.map BL t.ins).length : Int) == 0) = false,
   ((↑(List.map D.bool t.first).length : Int) != (↑(List.map Lt.d c.lats).length : Int)) = true]) := by kernel_rfl
theorem ck5  : callX Tryd.prog wr false O 34 [.d c.d, .d t.d] [] [It.icall [] (V.d (I 0)) [], It.br false, It.br false, It.br false, It.br false, It.icall [] (V.d (D.bool false)) [], It.br true] = some (V.d (D.int IntKind.i64 8), [],
  [ICall Tryd.prog 26 [V.d (D.agg [I c.ins, D.sl (List.map Lt.d c.lats), D.sl (List.map An.d c.ands), L c.bads, L c.cons])] [] (V.d (I 0)) [],
   (0 != 0) = false,
   decide ((↑(List.map BL t.ins).length : Int) > 100) = false,
   ((↑(List.map BL t.ins).length : Int) == 0) = false,
   ((↑(List.map D.bool t.first).length : Int) != (↑(List.map Lt.d c.lats).length : Int)) = false,
   ICall Tryd.prog 51 [V.d (D.agg [I c.ins, D.sl (List.map Lt.d c.lats), D.sl (List.map An.d c.ands), L c.bads, L c.cons]), V.d (BL t.first)] [] (V.d (D.bool false)) [],
   (!false) = true]) := by kernel_rfl
theorem ck4t  : callX Tryd.prog wr false O 34 [.d c.d, .d t.d] [] [It.icall [] (V.d (I 0)) [], It.br false, It.br false, It.br false, It.br false, It.icall [] (V.d (D.bool true)) [], It.br false, It.icall [0] (V.d (D.bool true)) [Bc c]] = some (V.d (D.int IntKind.i64 8), [],
  [ICall Tryd.prog 26 [V.d (D.agg [I c.ins, D.sl (List.map Lt.d c.lats), D.sl (List.map An.d c.ands), L c.bads, L c.cons])] [] (V.d (I 0)) [],
   (0 != 0) = false,
   decide ((↑(List.map BL t.ins).length : Int) > 100) = false,
   ((↑(List.map BL t.ins).length : Int) == 0) = false,
   ((↑(List.map D.bool t.first).length : Int) != (↑(List.map Lt.d c.lats).length : Int)) = false,
   ICall Tryd.prog 51 [V.d (D.agg [I c.ins, D.sl (List.map Lt.d c.lats), D.sl (List.map An.d c.ands), L c.bads, L c.cons]), V.d (BL t.first)] [] (V.d (D.bool true)) [],
   (!true) = false,
   ICall Tryd.prog 52 [V.d (D.sl (List.map BL t.ins)), V.func 50 [V.ptr 0 0]] [B.bx none [V.d (I c.ins), V.d (D.sl (List.map Lt.d c.lats)), V.d (D.sl (List.map An.d c.ands)), V.d (L c.bads), V.d (L c.cons)]] (V.d (D.bool true)) [Bc c]]) := by kernel_rfl
theorem ck4f  : callX Tryd.prog wr false O 34 [.d c.d, .d t.d] [] [It.icall [] (V.d (I 0)) [], It.br false, It.br false, It.br false, It.br false, It.icall [] (V.d (D.bool true)) [], It.br false, It.icall [0] (V.d (D.bool false)) [Bc c]] = some (V.d (D.int IntKind.i64 0), [],
  [ICall Tryd.prog 26 [V.d (D.agg [I c.ins, D.sl (List.map Lt.d c.lats), D.sl (List.map An.d c.ands), L c.bads, L c.cons])] [] (V.d (I 0)) [],
   (0 != 0) = false,
   decide ((↑(List.map BL t.ins).length : Int) > 100) = false,
   ((↑(List.map BL t.ins).length : Int) == 0) = false,
   ((↑(List.map D.bool t.first).length : Int) != (↑(List.map Lt.d c.lats).length : Int)) = false,
   ICall Tryd.prog 51 [V.d (D.agg [I c.ins, D.sl (List.map Lt.d c.lats), D.sl (List.map An.d c.ands), L c.bads, L c.cons]), V.d (BL t.first)] [] (V.d (D.bool true)) [],
   (!true) = false,
   ICall Tryd.prog 52 [V.d (D.sl (List.map BL t.ins)), V.func 50 [V.ptr 0 0]] [B.bx none [V.d (I c.ins), V.d (D.sl (List.map Lt.d c.lats)), V.d (D.sl (List.map An.d c.ands)), V.d (L c.bads), V.d (L c.cons)]] (V.d (D.bool false)) [Bc c]]) := by kernel_rfl
end
end Go.Proofs.YtbamhlgkoimjoaaDoor.Sy.Tc
/- traces.walk, States, Right: round by round. -/
namespace Go.Proofs.YtbamhlgkoimjoaaDoor.Sy.Tc
open Go Go.Proofs.YtbamhlgkoimjoaaDoor.Ab Go.Proofs.YtbamhlgkoimjoaaDoor.Sy Go.Proofs.YtbamhlgkoimjoaaDoor.Sy.Tx Go.Proofs.YtbamhlgkoimjoaaDoor.Sy.Vl
set_option maxRecDepth 1000000
set_option linter.unusedVariables false
def BA : B := .box [.arr 4]
def BN (n : Int) : B := .box [.d (I n)]
def LA (acc : List D) : B := .lst 29 acc
def Ew (c : Ci) (t : Tr) (f : Nat) (b0 : B) (bs : List B) : St := ⟨mk 65 [(2, .func f [.ptr 0 0]), (3, .ptr 1 0), (4, .ptr 2 0)] [], [b0, Bc c, Bt t, .dead] ++ bs⟩
section
variable (c : Ci) (t : Tr) (n x l e : Int) (i j u k m : Nat) (v st inp v2 st2 : List Bool) (b b2 : Bool) (xs ys acc : List D) (ls : List (List Bool)) (b0 : B) (bs : List B)
theorem ws : round Tryd.prog wr false O (loopOf Tryd.prog 19 0) (Hw c t 20 BA [LA acc] st [(29, .d (.sl (t.ins.map BL))), (30, .d (I (t.ins.map BL).length)), (31, .d (I i))]) [It.br true, It.el i (BL (t.ins.getD i default)), It.icall [] (V.tup [V.d (D.bool b), V.d (BL v), V.d (I 0)]) [], It.br false, It.icall [0, 4] (V.d (D.bool true)) [B.box [V.arr 1], LA (acc ++ [BL st])], It.br false, It.icall [] (V.tup [V.d (BL st2), V.d (I 0)]) [], It.br false, It.is (↑(i + 1) : Int)] [2, 3, 4, 8, 29, 30, 31] 5 = some (.normal, Hw c t 20 BA [LA (acc ++ [BL st])] st2 [(29, .d (.sl (t.ins.map BL))), (30, .d (I (t.ins.map BL).length)), (31, .d (I (i + 1 : Nat)))],
  [decide ((↑i : Int) < (↑(List.map BL t.ins).length : Int)) = true,
   (↑i : Int) = (↑i : Int) ∧ (List.map BL t.ins)[i]? = some (BL (t.ins.getD i default)),
   ICall Tryd.prog 12 [V.d (D.agg [I c.ins, D.sl (List.map Lt.d c.lats), D.sl (List.map An.d c.ands), L c.bads, L c.cons]), V.d (BL st), V.d (BL (t.ins.getD i default))] [] (V.tup [V.d (D.bool b), V.d (BL v), V.d (I 0)]) [],
   (0 != 0) = false,
   ICall Tryd.prog 20 [V.d (I (↑i : Int)), V.d (BL st), V.d (D.bool b), V.d (BL v), V.ptr 0 0] [B.bx none [V.arr 1], LA acc] (V.d (D.bool true)) [B.box [V.arr 1], LA (acc ++ [BL st])],
   (!true) = false,
   ICall Tryd.prog 35 [V.d (D.agg [I c.ins, D.sl (List.map Lt.d c.lats), D.sl (List.map An.d c.ands), L c.bads, L c.cons]), V.d (BL st), V.d (BL (t.ins.getD i default))] [] (V.tup [V.d (BL st2), V.d (I 0)]) [],
   (0 != 0) = false,
   IntKind.i64.wrap ((↑i : Int) + 1) = (↑(i + 1) : Int)]) := by kernel_rfl
theorem we : round Tryd.prog wr false O (loopOf Tryd.prog 19 0) (Hw c t 20 BA [LA acc] st [(29, .d (.sl (t.ins.map BL))), (30, .d (I (t.ins.map BL).length)), (31, .d (I i))]) [It.br false] [2, 3, 4] 5 = some (.exit 0, Ew c t 20 BA [LA acc],
  [decide ((↑i : Int) < (↑(List.map BL t.ins).length : Int)) = false]) := by kernel_rfl
theorem wr1 : round Tryd.prog wr false O (loopOf Tryd.prog 19 0) (Hw c t 21 (BN n) [] st [(29, .d (.sl (t.ins.map BL))), (30, .d (I (t.ins.map BL).length)), (31, .d (I i))]) [It.br true, It.el i (BL (t.ins.getD i default)), It.icall [] (V.tup [V.d (D.bool b), V.d (BL v), V.d (I 0)]) [], It.br false, It.icall [0] (V.d (D.bool true)) [BN (n + 1)], It.br false, It.icall [] (V.tup [V.d (BL st2), V.d (I 0)]) [], It.br false, It.is (↑(i + 1) : Int)] [2, 3, 4, 8, 29, 30, 31] 4 = some (.normal, Hw c t 21 (BN (n + 1)) [] st2 [(29, .d (.sl (t.ins.map BL))), (30, .d (I (t.ins.map BL).length)), (31, .d (I (i + 1 : Nat)))],
  [decide ((↑i : Int) < (↑(List.map BL t.ins).length : Int)) = true,
   (↑i : Int) = (↑i : Int) ∧ (List.map BL t.ins)[i]? = some (BL (t.ins.getD i default)),
   ICall Tryd.prog 12 [V.d (D.agg [I c.ins, D.sl (List.map Lt.d c.lats), D.sl (List.map An.d c.ands), L c.bads, L c.cons]), V.d (BL st), V.d (BL (t.ins.getD i default))] [] (V.tup [V.d (D.bool b), V.d (BL v), V.d (I 0)]) [],
   (0 != 0) = false,
   ICall Tryd.prog 21 [V.d (I (↑i : Int)), V.d (BL st), V.d (D.bool b), V.d (BL v), V.ptr 0 0] [B.bx none [V.d (I n)]] (V.d (D.bool true)) [BN (n + 1)],
   (!true) = false,
   ICall Tryd.prog 35 [V.d (D.agg [I c.ins, D.sl (List.map Lt.d c.lats), D.sl (List.map An.d c.ands), L c.bads, L c.cons]), V.d (BL st), V.d (BL (t.ins.getD i default))] [] (V.tup [V.d (BL st2), V.d (I 0)]) [],
   (0 != 0) = false,
   IntKind.i64.wrap ((↑i : Int) + 1) = (↑(i + 1) : Int)]) := by kernel_rfl
theorem wr2 : round Tryd.prog wr false O (loopOf Tryd.prog 19 0) (Hw c t 21 (BN n) [] st [(29, .d (.sl (t.ins.map BL))), (30, .d (I (t.ins.map BL).length)), (31, .d (I i))]) [It.br false] [2, 3, 4] 4 = some (.exit 0, Ew c t 21 (BN n) [],
  [decide ((↑i : Int) < (↑(List.map BL t.ins).length : Int)) = false]) := by kernel_rfl
theorem wr3 : round Tryd.prog wr false O (loopOf Tryd.prog 19 0) (Hw c t 21 (BN n) [] st [(29, .d (.sl (t.ins.map BL))), (30, .d (I (t.ins.map BL).length)), (31, .d (I i))]) [It.br true, It.el i (BL (t.ins.getD i default)), It.icall [] (V.tup [V.d (D.bool b), V.d (BL v), V.d (I 0)]) [], It.br false, It.icall [0] (V.d (D.bool false)) [BN n], It.br true] [2, 3, 4] 4 = some (.exit 0, Ew c t 21 (BN n) [],
  [decide ((↑i : Int) < (↑(List.map BL t.ins).length : Int)) = true,
   (↑i : Int) = (↑i : Int) ∧ (List.map BL t.ins)[i]? = some (BL (t.ins.getD i default)),
   ICall Tryd.prog 12 [V.d (D.agg [I c.ins, D.sl (List.map Lt.d c.lats), D.sl (List.map An.d c.ands), L c.bads, L c.cons]), V.d (BL st), V.d (BL (t.ins.getD i default))] [] (V.tup [V.d (D.bool b), V.d (BL v), V.d (I 0)]) [],
   (0 != 0) = false,
   ICall Tryd.prog 21 [V.d (I (↑i : Int)), V.d (BL st), V.d (D.bool b), V.d (BL v), V.ptr 0 0] [B.bx none [V.d (I n)]] (V.d (D.bool false)) [BN n],
   (!false) = true]) := by kernel_rfl
theorem sc  : callX Tryd.prog wr false O 20 [.d (I i), .d (BL st), .d (.bool b), .d (BL v), .ptr 0 0] [.box [.arr 1], LA acc] [It.raw, It.raw, It.raw] = some (V.d (D.bool true), [.box [.arr 1], LA (acc ++ [BL st])],
  [acc.length + [BL st].length ≤ maxItems]) := by kernel_rfl
theorem rc1  : callX Tryd.prog wr false O 21 [.d (I i), .d (BL st), .d (.bool true), .d (BL v), .ptr 0 0] [BN n] [It.is (n + 1)] = some (V.d (D.bool true), [BN (n + 1)],
  [IntKind.i64.wrap (n + 1) = n + 1]) := by kernel_rfl
theorem rc0  : callX Tryd.prog wr false O 21 [.d (I i), .d (BL st), .d (.bool false), .d (BL v), .ptr 0 0] [BN n] [] = some (V.d (D.bool false), [BN n],
  []) := by kernel_rfl
theorem wk0s  : callX Tryd.prog wr false O 19 [.d c.d, .d t.d, .func 20 [.ptr 0 0]] [.box [.emp true]] [It.icall [] (V.d (I e)) [], It.br true] = some (V.d (D.int IntKind.i64 e), [.box [.emp true]],
  [ICall Tryd.prog 34 [V.d (D.agg [I c.ins, D.sl (List.map Lt.d c.lats), D.sl (List.map An.d c.ands), L c.bads, L c.cons]), V.d (D.agg [BL t.first, D.sl (List.map BL t.ins)])] [] (V.d (I e)) [],
   (e != 0) = true]) := by kernel_rfl
theorem wk0r  : callX Tryd.prog wr false O 19 [.d c.d, .d t.d, .func 21 [.ptr 0 0]] [BN n] [It.icall [] (V.d (I e)) [], It.br true] = some (V.d (D.int IntKind.i64 e), [BN n],
  [ICall Tryd.prog 34 [V.d (D.agg [I c.ins, D.sl (List.map Lt.d c.lats), D.sl (List.map An.d c.ands), L c.bads, L c.cons]), V.d (D.agg [BL t.first, D.sl (List.map BL t.ins)])] [] (V.d (I e)) [],
   (e != 0) = true]) := by kernel_rfl
theorem wks  : callX Tryd.prog wr false O 19 [.d c.d, .d t.d, .func 20 [.ptr 0 0]] [.box [.emp true]] [It.icall [] (V.d (I 0)) [], It.br false, It.len (List.map D.bool t.first).length, It.own, It.lp [2, 3, 4, 8, 29, 30, 31] (Ex.exit 0) (Ew c t 20 (B.box [V.d (D.sl acc)]) [B.dead])] = some (V.d (D.int IntKind.i64 0), [.box [.d (.sl acc)]],
  [ICall Tryd.prog 34 [V.d (D.agg [I c.ins, D.sl (List.map Lt.d c.lats), D.sl (List.map An.d c.ands), L c.bads, L c.cons]), V.d (D.agg [BL t.first, D.sl (List.map BL t.ins)])] [] (V.d (I 0)) [],
   (0 != 0) = false,
   (↑(List.map D.bool t.first).length : Int) = (↑(List.map D.bool t.first).length : Int) ∧ (↑(List.map D.bool t.first).length : Int) = (↑(List.map D.bool t.first).length : Int) ∧ (List.map D.bool t.first).length ≤ maxItems,
   ∀ (y : D), y ∈ List.map D.bool t.first → y.cells.length = (fun x => x.size) Tryd.prog.types[4],
   GoesL Tryd.prog (loopOf Tryd.prog 19 0) (⟨mk 65 [(2, V.func 20 [V.ptr 0 0]), (3, V.ptr 1 0), (4, V.ptr 2 0), (8, V.arr 3), (29, V.d (D.sl (List.map BL t.ins))), (30, V.d (D.int IntKind.i64 (↑(List.map BL t.ins).length : Int))), (31, V.d (D.int IntKind.i64 0))] [], [B.bx none [V.emp true], B.bx none [V.d (D.int IntKind.i64 c.ins), V.d (D.sl (List.map Lt.d c.lats)), V.d (D.sl (List.map An.d c.ands)), V.d (D.sl (List.map I c.bads)), V.d (D.sl (List.map I c.cons))], B.bx none [V.d (D.sl (List.map D.bool t.first)), V.d (D.sl (List.map BL t.ins))], B.lst 4 (List.take 0 (List.replicate (List.map D.bool t.first).length (D.bool false)) ++ List.take (List.replicate (List.map D.bool t.first).length (D.bool false)).length (List.map D.bool t.first) ++ List.drop (0 + min (List.replicate (List.map D.bool t.first).length (D.bool false)).length (List.map D.bool t.first).length) (List.replicate (List.map D.bool t.first).length (D.bool false)))]⟩) (Ex.exit 0) (Ew c t 20 (B.box [V.d (D.sl acc)]) [B.dead])]) := by kernel_rfl
theorem wkr  : callX Tryd.prog wr false O 19 [.d c.d, .d t.d, .func 21 [.ptr 0 0]] [BN n] [It.icall [] (V.d (I 0)) [], It.br false, It.len (List.map D.bool t.first).length, It.own, It.lp [2, 3, 4, 8, 29, 30, 31] (Ex.exit 0) (Ew c t 21 (BN x) [])] = some (V.d (D.int IntKind.i64 0), [BN x],
  [ICall Tryd.prog 34 [V.d (D.agg [I c.ins, D.sl (List.map Lt.d c.lats), D.sl (List.map An.d c.ands), L c.bads, L c.cons]), V.d (D.agg [BL t.first, D.sl (List.map BL t.ins)])] [] (V.d (I 0)) [],
   (0 != 0) = false,
   (↑(List.map D.bool t.first).length : Int) = (↑(List.map D.bool t.first).length : Int) ∧ (↑(List.map D.bool t.first).length : Int) = (↑(List.map D.bool t.first).length : Int) ∧ (List.map D.bool t.first).length ≤ maxItems,
   ∀ (y : D), y ∈ List.map D.bool t.first → y.cells.length = (fun x => x.size) Tryd.prog.types[4],
   GoesL Tryd.prog (loopOf Tryd.prog 19 0) (⟨mk 65 [(2, V.func 21 [V.ptr 0 0]), (3, V.ptr 1 0), (4, V.ptr 2 0), (8, V.arr 3), (29, V.d (D.sl (List.map BL t.ins))), (30, V.d (D.int IntKind.i64 (↑(List.map BL t.ins).length : Int))), (31, V.d (D.int IntKind.i64 0))] [], [B.bx none [V.d (D.int IntKind.i64 n)], B.bx none [V.d (D.int IntKind.i64 c.ins), V.d (D.sl (List.map Lt.d c.lats)), V.d (D.sl (List.map An.d c.ands)), V.d (D.sl (List.map I c.bads)), V.d (D.sl (List.map I c.cons))], B.bx none [V.d (D.sl (List.map D.bool t.first)), V.d (D.sl (List.map BL t.ins))], B.lst 4 (List.take 0 (List.replicate (List.map D.bool t.first).length (D.bool false)) ++ List.take (List.replicate (List.map D.bool t.first).length (D.bool false)).length (List.map D.bool t.first) ++ List.drop (0 + min (List.replicate (List.map D.bool t.first).length (D.bool false)).length (List.map D.bool t.first).length) (List.replicate (List.map D.bool t.first).length (D.bool false)))]⟩) (Ex.exit 0) (Ew c t 21 (BN x) [])]) := by kernel_rfl
theorem sts  : callX Tryd.prog wr false O 10 [.d c.d, .d t.d] [] [It.icall [2] (V.d (I e)) [B.box [V.d (D.sl acc)]]] = some (V.tup [V.d (D.sl acc), V.d (D.int IntKind.i64 e)], [],
  [ICall Tryd.prog 19 [V.d (D.agg [I c.ins, D.sl (List.map Lt.d c.lats), D.sl (List.map An.d c.ands), L c.bads, L c.cons]), V.d (D.agg [BL t.first, D.sl (List.map BL t.ins)]), V.func 20 [V.ptr 0 0]] [B.bx none [V.emp true]] (V.d (I e)) [B.box [V.d (D.sl acc)]]]) := by kernel_rfl
theorem st0s  : callX Tryd.prog wr false O 10 [.d c.d, .d t.d] [] [It.icall [2] (V.d (I e)) [B.box [V.emp true]]] = some (V.tup [V.emp true, V.d (D.int IntKind.i64 e)], [],
  [ICall Tryd.prog 19 [V.d (D.agg [I c.ins, D.sl (List.map Lt.d c.lats), D.sl (List.map An.d c.ands), L c.bads, L c.cons]), V.d (D.agg [BL t.first, D.sl (List.map BL t.ins)]), V.func 20 [V.ptr 0 0]] [B.bx none [V.emp true]] (V.d (I e)) [B.box [V.emp true]]]) := by kernel_rfl
theorem rts  : callX Tryd.prog wr false O 11 [.d c.d, .d t.d] [] [It.icall [2] (V.d (I e)) [BN x]] = some (V.tup [V.d (D.int IntKind.i64 x), V.d (D.int IntKind.i64 e)], [],
  [ICall Tryd.prog 19 [V.d (D.agg [I c.ins, D.sl (List.map Lt.d c.lats), D.sl (List.map An.d c.ands), L c.bads, L c.cons]), V.d (D.agg [BL t.first, D.sl (List.map BL t.ins)]), V.func 21 [V.ptr 0 0]] [B.bx none [V.d (D.int IntKind.i64 0)]] (V.d (I e)) [BN x]]) := by kernel_rfl
end
end Go.Proofs.YtbamhlgkoimjoaaDoor.Sy.Tc
/- traces.starts, Check, States, Right, whole. -/
namespace Go.Proofs.YtbamhlgkoimjoaaDoor.Sy.Tc
open Go Go.Proofs.YtbamhlgkoimjoaaDoor.Ab Go.Proofs.YtbamhlgkoimjoaaDoor.Sy Go.Proofs.YtbamhlgkoimjoaaDoor.Sy.Tx Go.Proofs.YtbamhlgkoimjoaaDoor.Sy.Vl
set_option maxRecDepth 1000000
set_option linter.unusedVariables false
set_option linter.unusedSimpArgs false
theorem _root_.Go.Proofs.YtbamhlgkoimjoaaDoor.Ab.GoesL.frzH {P : Program} {c : Code} {s s2 : St} {e : Ex} {id : Nat} (h : GoesL P c (Ab.freeze id s) e s2) : GoesL P c s e s2 := fun a w μ Pr hR =>
  let ⟨μ1, Pr1, h1, hev, hk⟩ := hR.freeze id
  (h a w μ1 Pr1 h1).mono (Post.trans hev hk)
/-- A run of sizes that are no matter. -/
structure Tw (t : Tr) : Prop where
  first : t.first.length ≤ 1000000
  ins : t.ins.length ≤ 1000000
  each : ∀ l ∈ t.ins, l.length ≤ 1000000
def badSt (l : Lt) (b : Bool) : Bool := (l.reset != 2) && !(b == (l.reset == 1))
/-- Is it no first state? -/
def noStart (c : Ci) (st : List Bool) : Bool := anyIx (fun i l => badSt l (st.getD i default)) c.lats 0
/-- What traces.Check answers. -/
def trChk (c : Ci) (t : Tr) : Int :=
  if Gates.chk c ≠ 0 then Gates.chk c else if t.ins.length > 100 then 4 else if t.ins.length = 0 then 8 else if t.first.length ≠ c.lats.length then 8 else if noStart c t.first then 8
  else if t.ins.any (fun l => decide ((l.length : Int) ≠ c.ins)) then 8 else 0
theorem starts {c : Ci} {st : List Bool} (hl : c.lats.length ≤ 100000) (hs : st.length = c.lats.length) : ICall Tryd.prog 51 [.d c.d, .d (BL st)] [] (.d (.bool (!noStart c st))) [] := by
  have key := any_ix (c := loopOf Tryd.prog 51 0) c.lats (fun i => Hs c st [(8, .d (.sl (c.lats.map Lt.d))), (9, .d (I (c.lats.map Lt.d).length)), (10, .d (I i))]) .ret (.exit 0) (Rs c) (Hs c st []) (fun i l => badSt l (st.getD i default))
    (fun i hi hb => by
      have q0 : decide ((i : Int) < (((c.lats.map Lt.d).length : Nat) : Int)) = true := decide_eq_true (by rw [List.length_map]; omega)
      have gm := get_map Lt.d c.lats i hi
      have gs := get_map D.bool st i (by omega)
      unfold badSt at hb
      rw [Bool.and_eq_true] at hb
      cases c1 : ((c.lats.getD i default).reset == 1) with
      | true => rw [c1] at hb; exact .stop hO hm (s1 c i st) (by simp) ⟨q0, ⟨rfl, gm⟩, hb.1, ⟨rfl, gs⟩, c1, hb.2⟩
      | false => rw [c1] at hb; exact .stop hO hm (s3 c i st) (by simp) ⟨q0, ⟨rfl, gm⟩, hb.1, ⟨rfl, gs⟩, c1, hb.2⟩)
    (fun i hi hb e s h => by
      have q0 : decide ((i : Int) < (((c.lats.map Lt.d).length : Nat) : Int)) = true := decide_eq_true (by rw [List.length_map]; omega)
      have gm := get_map Lt.d c.lats i hi
      have gs := get_map D.bool st i (by omega)
      unfold badSt at hb
      cases c0 : ((c.lats.getD i default).reset != 2) with
      | false => exact .step hO hm (s5 c i st) ⟨q0, ⟨rfl, gm⟩, c0, wrap_succ (by omega)⟩ h
      | true =>
        rw [c0, Bool.true_and] at hb
        cases c1 : ((c.lats.getD i default).reset == 1) with
        | true => rw [c1] at hb; exact .step hO hm (s2 c i st) ⟨q0, ⟨rfl, gm⟩, c0, ⟨rfl, gs⟩, c1, hb, wrap_succ (by omega)⟩ h
        | false => rw [c1] at hb; exact .step hO hm (s4 c i st) ⟨q0, ⟨rfl, gm⟩, c0, ⟨rfl, gs⟩, c1, hb, wrap_succ (by omega)⟩ h)
    (.stop hO hm (s6 c c.lats.length st) (by simp) (decide_eq_false (by rw [List.length_map]; omega))) c.lats.length 0 rfl (Nat.zero_le _)
  rw [List.drop_zero] at key
  unfold noStart
  cases h : anyIx (fun i l => badSt l (st.getD i default)) c.lats 0 with
  | true => exact callX_ok hO hm (st0 c st) (key.1 h)
  | false => exact callX_ok hO hm (st1 c st) (key.2 h)
theorem wrongLen (c : Ci) (ls : List (List Bool)) (hl : ls.length ≤ 1000000) :
    ∃ x : Int, ICall Tryd.prog 70 [.d (.sl (ls.map BL)), .func 50 [.ptr 0 0]] [Bc c] (.d (I x)) [Bc c] ∧ (decide (x ≥ 0) = ls.any (fun l => decide ((l.length : Int) ≠ c.ins))) := by
  have hq : ∀ i, i < ls.length → decide ((i : Int) < (((ls.map BL).length : Nat) : Int)) = true := fun i hi => decide_eq_true (by rw [List.length_map]; omega)
  have key : ∀ (d i : Nat), ls.length - i = d → i ≤ ls.length →
      ((ls.drop i).any (fun l => decide ((l.length : Int) ≠ c.ins)) = true → ∃ j : Nat, GoesL Tryd.prog (loopOf Tryd.prog 70 0) (Hj c ls [(7, .d (I (ls.map BL).length)), (8, .d (I i))]) .ret (Rj c j)) ∧
      ((ls.drop i).any (fun l => decide ((l.length : Int) ≠ c.ins)) = false → GoesL Tryd.prog (loopOf Tryd.prog 70 0) (Hj c ls [(7, .d (I (ls.map BL).length)), (8, .d (I i))]) (.exit 0) (Ej c)) := by
    intro d
    induction d with
    | zero =>
      intro i hd hi
      obtain rfl : i = ls.length := by omega
      rw [List.drop_length]
      exact ⟨fun h => (by simp at h), fun _ => .stop hO hm (j3 c ls.length ls) (by simp) (decide_eq_false (by rw [List.length_map]; omega))⟩
    | succ d ih =>
      intro i hd hi
      have hlt : i < ls.length := by omega
      obtain ⟨i1, i2⟩ := ih (i + 1) (by omega) (by omega)
      rw [drop_getD ls i hlt, List.any_cons]
      have gm := get_map BL ls i hlt
      by_cases e : ((ls.getD i default).length : Int) ≠ c.ins
      · have hc := callX_ok hO hm (cl1 c (ls.getD i default)) (by rw [List.length_map]; exact bne_iff_ne.2 e)
        exact ⟨fun _ => ⟨i, .stop hO hm (j1 c i ls) (by simp) ⟨hq i hlt, ⟨rfl, gm⟩, hc⟩⟩, fun h => (by rw [decide_eq_true e, Bool.true_or] at h; cases h)⟩
      · have hc := callX_ok hO hm (cl0 c (ls.getD i default)) (show _ = false by rw [List.length_map]; simpa using e)
        rw [decide_eq_false e, Bool.false_or]
        refine ⟨fun h => ?_, fun h => .step hO hm (j2 c i ls) ⟨hq i hlt, ⟨rfl, gm⟩, hc, wrap_succ (by omega)⟩ (i2 h)⟩
        obtain ⟨j, hj⟩ := i1 h
        exact ⟨j, .step hO hm (j2 c i ls) ⟨hq i hlt, ⟨rfl, gm⟩, hc, wrap_succ (by omega)⟩ hj⟩
  have k0 := key ls.length 0 rfl (Nat.zero_le _)
  rw [List.drop_zero] at k0
  cases h : ls.any (fun l => decide ((l.length : Int) ≠ c.ins)) with
  | true =>
    obtain ⟨j, hj⟩ := k0.1 h
    exact ⟨j, callX_ok hO hm (jx1 c j ls) hj, decide_eq_true (by omega)⟩
  | false => exact ⟨-1, callX_ok hO hm (jx0 c ls) (k0.2 h), rfl⟩
theorem anyLen (c : Ci) (ls : List (List Bool)) (hl : ls.length ≤ 1000000) :
    ICall Tryd.prog 52 [.d (.sl (ls.map BL)), .func 50 [.ptr 0 0]] [Bc c] (.d (.bool (ls.any (fun l => decide ((l.length : Int) ≠ c.ins))))) [Bc c] := by
  obtain ⟨x, h1, h2⟩ := wrongLen c ls hl
  rw [← h2]
  cases hx : decide (x ≥ 0) with
  | true => exact callX_ok hO hm (cf1 c x ls) ⟨h1, hx⟩
  | false => exact callX_ok hO hm (cf0 c x ls) ⟨h1, hx⟩
section
variable {c : Ci} {t : Tr} (h : Cw c) (ht : Tw t)
include h ht
theorem check : ICall Tryd.prog 34 [.d c.d, .d t.d] [] (.d (I (trChk c t))) [] := by
  have hg := gates_check h
  have hti := ht.ins
  have hcl := h.lats
  unfold trChk
  by_cases c0 : Gates.chk c ≠ 0
  · rw [if_pos c0]; exact callX_ok hO hm (ck0 c t (Gates.chk c)) ⟨hg, bne_iff_ne.2 c0⟩
  rw [if_neg c0]
  have c0 := Decidable.not_not.1 c0
  rw [c0] at hg
  by_cases c1 : t.ins.length > 100
  · rw [if_pos c1]; exact callX_ok hO hm (ck1 c t) ⟨hg, rfl, decide_eq_true (by rw [List.length_map]; omega)⟩
  rw [if_neg c1]
  have d1 : decide ((((t.ins.map BL).length : Nat) : Int) > 100) = false := decide_eq_false (by rw [List.length_map]; omega)
  by_cases c2 : t.ins.length = 0
  · rw [if_pos c2]; exact callX_ok hO hm (ck2 c t) ⟨hg, rfl, d1, (show _ = true by rw [List.length_map, c2]; rfl)⟩
  rw [if_neg c2]
  have d2 : ((((t.ins.map BL).length : Nat) : Int) == 0) = false := by rw [List.length_map]; exact beq_eq_false_iff_ne.2 (by omega)
  by_cases c3 : t.first.length ≠ c.lats.length
  · rw [if_pos c3]; exact callX_ok hO hm (ck3 c t) ⟨hg, rfl, d1, d2, bne_iff_ne.2 (fun hh => c3 (by rw [List.length_map, List.length_map] at hh; omega))⟩
  rw [if_neg c3]
  have c3 := Decidable.not_not.1 c3
  have d3 : ((((t.first.map D.bool).length : Nat) : Int) != (((c.lats.map Lt.d).length : Nat) : Int)) = false := by rw [List.length_map, List.length_map, c3]; simp
  have hst := starts (c := c) (st := t.first) (by omega) c3
  cases c4 : noStart c t.first with
  | true =>
    rw [c4] at hst
    rw [if_pos rfl]; exact callX_ok hO hm (ck5 c t) ⟨hg, rfl, d1, d2, d3, hst, rfl⟩
  | false =>
    rw [c4] at hst
    rw [if_neg (by simp)]
    have ha := anyLen c t.ins hti
    cases c5 : t.ins.any (fun l => decide ((l.length : Int) ≠ c.ins)) with
    | true => rw [c5] at ha; rw [if_pos rfl]; exact callX_ok hO hm (ck4t c t) ⟨hg, rfl, d1, d2, d3, hst, rfl, ha⟩
    | false => rw [c5] at ha; rw [if_neg (by simp)]; exact callX_ok hO hm (ck4f c t) ⟨hg, rfl, d1, d2, d3, hst, rfl, ha⟩
end
/-- The state of a frame. -/
def stAt (c : Ci) (t : Tr) : Nat → List Bool
  | 0 => t.first
  | i + 1 => nextS c (stAt c t i) (t.ins.getD i default)
def states (c : Ci) (t : Tr) : List (List Bool) := (List.range t.ins.length).map (stAt c t)
/-- A right run. -/
structure Ok (c : Ci) (t : Tr) : Prop where
  chk : Gates.chk c = 0
  few : t.ins.length ≤ 100
  some : 0 < t.ins.length
  first : t.first.length = c.lats.length
  start : noStart c t.first = false
  each : ∀ l ∈ t.ins, (l.length : Int) = c.ins
theorem ok_of {c : Ci} {t : Tr} (h : trChk c t = 0) : Ok c t := by
  unfold trChk at h
  by_cases c0 : Gates.chk c ≠ 0
  · rw [if_pos c0] at h; exact absurd h c0
  rw [if_neg c0] at h
  by_cases c1 : t.ins.length > 100
  · rw [if_pos c1] at h; cases h
  rw [if_neg c1] at h
  by_cases c2 : t.ins.length = 0
  · rw [if_pos c2] at h; cases h
  rw [if_neg c2] at h
  by_cases c3 : t.first.length ≠ c.lats.length
  · rw [if_pos c3] at h; cases h
  rw [if_neg c3] at h
  cases c4 : noStart c t.first with
  | true => rw [c4, if_pos rfl] at h; cases h
  | false =>
    rw [c4, if_neg (by simp)] at h
    cases c5 : t.ins.any (fun l => decide ((l.length : Int) ≠ c.ins)) with
    | true => rw [c5, if_pos rfl] at h; cases h
    | false =>
      refine ⟨Decidable.not_not.1 c0, by omega, by omega, Decidable.not_not.1 c3, c4, fun l hl => ?_⟩
      have := List.any_eq_false.1 c5 l hl
      simpa using this
theorem stAt_len {c : Ci} {t : Tr} (h : Ok c t) : ∀ i, (stAt c t i).length = c.lats.length
  | 0 => h.first
  | i + 1 => by rw [stAt, nextS, List.length_map]
theorem inp_len {c : Ci} {t : Tr} (h : Ok c t) {i : Nat} (hi : i < t.ins.length) : ((t.ins.getD i default).length : Int) = c.ins := h.each _ (mem_getD hi)
/-- Up to how many frames the constraints hold. -/
def right (c : Ci) (t : Tr) : Nat := ((List.range t.ins.length).takeWhile fun i => holdsS c (stAt c t i) (t.ins.getD i default)).length
theorem copy_eq (l : List Bool) : List.take 0 (List.replicate (l.map D.bool).length (D.bool false)) ++ List.take (List.replicate (l.map D.bool).length (D.bool false)).length (l.map D.bool) ++ List.drop (0 + min (List.replicate (l.map D.bool).length (D.bool false)).length (l.map D.bool).length) (List.replicate (l.map D.bool).length (D.bool false)) = l.map D.bool := by
  have h : List.take l.length (l.map D.bool) = l.map D.bool := List.take_of_length_le (by rw [List.length_map]; exact Nat.le_refl _)
  simp [h]
section
variable {c : Ci} {t : Tr} (h : Cw c) (ht : Tw t)
def Sw (c : Ci) (t : Tr) (f : Nat) (b0 : B) : St := ⟨mk 65 [(2, .func f [.ptr 0 0]), (3, .ptr 1 0), (4, .ptr 2 0), (8, .arr 3), (29, .d (.sl (t.ins.map BL))), (30, .d (I (t.ins.map BL).length)), (31, .d (I 0))] [], [b0, Bc c, Bt t, .lst 4 (t.first.map D.bool)]⟩
theorem ad_s (c : Ci) (t : Tr) (f : Nat) : adoptB 0 0 29 (Ab.freeze 3 (Sw c t f (.box [.emp true]))) = Hw c t f BA [LA []] t.first [(29, .d (.sl (t.ins.map BL))), (30, .d (I (t.ins.map BL).length)), (31, .d (I 0))] := by kernel_rfl
theorem ad_r (c : Ci) (t : Tr) (f : Nat) (n : Int) : Ab.freeze 3 (Sw c t f (BN n)) = Hw c t f (BN n) [] t.first [(29, .d (.sl (t.ins.map BL))), (30, .d (I (t.ins.map BL).length)), (31, .d (I 0))] := by kernel_rfl
theorem fr_s (c : Ci) (t : Tr) (f : Nat) (acc : List D) : Ab.freeze 4 (Ew c t f BA [LA acc]) = Ew c t f (.box [.d (.sl acc)]) [.dead] := by kernel_rfl
theorem ySl : szOf Tryd.prog 29 = some 1 := by kernel_rfl
theorem m100 (a : Nat) (h : a ≤ 1000000) : a ≤ maxItems := Nat.le_trans h (by decide)
include h
theorem loopS (k : Ok c t) : GoesL Tryd.prog (loopOf Tryd.prog 19 0) (Sw c t 20 (.box [.emp true])) (.exit 0) (Ew c t 20 (.box [.d (.sl ((states c t).map BL))]) [.dead]) := by
  have hc := k.chk
  have hf := k.few
  refine .frzH (id := 3) (.adoptB (id := 0) (j := 0) ySl ?_)
  rw [ad_s]
  have key : ∀ (d i : Nat) (acc : List D), t.ins.length - i = d → i ≤ t.ins.length → acc = ((List.range i).map (stAt c t)).map BL →
      GoesL Tryd.prog (loopOf Tryd.prog 19 0) (Hw c t 20 BA [LA acc] (stAt c t i) [(29, .d (.sl (t.ins.map BL))), (30, .d (I (t.ins.map BL).length)), (31, .d (I i))]) (.exit 0) (Ew c t 20 (.box [.d (.sl ((states c t).map BL))]) [.dead]) := by
    intro d
    induction d with
    | zero =>
      intro i acc hd hi e
      obtain rfl : i = t.ins.length := by omega
      have := (GoesL.stop hO hm (we c t t.ins.length (stAt c t t.ins.length) acc) (by simp) (decide_eq_false (by rw [List.length_map]; omega))).frz 4
      rw [fr_s] at this
      rw [e] at this ⊢
      exact this
    | succ d ih =>
      intro i acc hd hi e
      have hlt : i < t.ins.length := by omega
      have hp := props h hc (stAt_len k i) (inp_len k hlt)
      have hn := next h hc (stAt_len k i) (inp_len k hlt)
      have ha : acc.length ≤ 100 := by rw [e]; simp; omega
      have hs := callX_ok hO hm (sc i (badsS c (stAt c t i) (t.ins.getD i default)) (stAt c t i) (holdsS c (stAt c t i) (t.ins.getD i default)) acc) (m100 _ (by simp; omega))
      refine .step hO hm (ws c t i (badsS c (stAt c t i) (t.ins.getD i default)) (stAt c t i) (stAt c t (i + 1)) (holdsS c (stAt c t i) (t.ins.getD i default)) acc) ⟨decide_eq_true (by rw [List.length_map]; omega), ⟨rfl, get_map BL t.ins i hlt⟩, hp, rfl, hs, rfl, hn, rfl, wrap_succ (by omega)⟩ ?_
      exact ih (i + 1) _ (by omega) (by omega) (by rw [List.range_succ, e]; simp)
  exact key t.ins.length 0 [] rfl (Nat.zero_le _) rfl
theorem loopR (k : Ok c t) : GoesL Tryd.prog (loopOf Tryd.prog 19 0) (Sw c t 21 (BN 0)) (.exit 0) (Ew c t 21 (BN ((right c t : Nat) : Int)) []) := by
  have hc := k.chk
  have hf := k.few
  refine .frzH (id := 3) ?_
  rw [ad_r]
  have key : ∀ (d i : Nat), t.ins.length - i = d → i ≤ t.ins.length → right c t = i + ((List.range' i d).takeWhile fun i => holdsS c (stAt c t i) (t.ins.getD i default)).length →
      GoesL Tryd.prog (loopOf Tryd.prog 19 0) (Hw c t 21 (BN (i : Int)) [] (stAt c t i) [(29, .d (.sl (t.ins.map BL))), (30, .d (I (t.ins.map BL).length)), (31, .d (I i))]) (.exit 0) (Ew c t 21 (BN ((right c t : Nat) : Int)) []) := by
    intro d
    induction d with
    | zero =>
      intro i hd hi e
      obtain rfl : i = t.ins.length := by omega
      rw [e]
      exact .stop hO hm (wr2 c t _ t.ins.length (stAt c t t.ins.length)) (by simp) (decide_eq_false (by rw [List.length_map]; omega))
    | succ d ih =>
      intro i hd hi e
      have hlt : i < t.ins.length := by omega
      have hp := props h hc (stAt_len k i) (inp_len k hlt)
      have hn := next h hc (stAt_len k i) (inp_len k hlt)
      have q0 : decide ((i : Int) < (((t.ins.map BL).length : Nat) : Int)) = true := decide_eq_true (by rw [List.length_map]; omega)
      rw [List.range'_succ, List.takeWhile_cons] at e
      cases hh : holdsS c (stAt c t i) (t.ins.getD i default) with
      | true =>
        rw [hh, if_pos rfl, List.length_cons] at e
        rw [hh] at hp
        have hr := callX_ok hO hm (rc1 (i : Int) i (badsS c (stAt c t i) (t.ins.getD i default)) (stAt c t i)) (wrap_id (by omega) (by omega))
        refine .step hO hm (wr1 c t _ i (badsS c (stAt c t i) (t.ins.getD i default)) (stAt c t i) (stAt c t (i + 1)) true) ⟨q0, ⟨rfl, get_map BL t.ins i hlt⟩, hp, rfl, hr, rfl, hn, rfl, wrap_succ (by omega)⟩ ?_
        have := ih (i + 1) (by omega) (by omega) (by omega)
        rw [show ((i + 1 : Nat) : Int) = (i : Int) + 1 by omega] at this ⊢
        exact this
      | false =>
        rw [hh, if_neg (by simp)] at e
        rw [hh] at hp
        have hr := callX_ok hO hm (rc0 (i : Int) i (badsS c (stAt c t i) (t.ins.getD i default)) (stAt c t i)) trivial
        rw [show right c t = i by simpa using e]
        exact .stop hO hm (wr3 c t _ i (badsS c (stAt c t i) (t.ins.getD i default)) (stAt c t i) false) (by simp) ⟨q0, ⟨rfl, get_map BL t.ins i hlt⟩, hp, rfl, hr, rfl⟩
  exact key t.ins.length 0 rfl (Nat.zero_le _) (by rw [Nat.zero_add, right, List.range_eq_range'])
include ht
theorem states_good (hk : trChk c t = 0) : ICall Tryd.prog 10 [.d c.d, .d t.d] [] (.tup [.d (.sl ((states c t).map BL)), .d (I 0)]) [] := by
  have hck := check h ht
  rw [hk] at hck
  have k := ok_of hk
  have hl := loopS h k
  unfold Sw at hl
  rw [← copy_eq] at hl
  have hw := callX_ok hO hm (wks c t ((states c t).map BL)) ⟨hck, rfl, ⟨rfl, rfl, m100 _ (by rw [List.length_map]; exact ht.first)⟩, szB _, hl⟩
  exact callX_ok hO hm (sts c t 0 ((states c t).map BL)) hw
theorem states_bad (hk : trChk c t ≠ 0) : ICall Tryd.prog 10 [.d c.d, .d t.d] [] (.tup [.emp true, .d (I (trChk c t))]) [] := by
  have hck := check h ht
  exact callX_ok hO hm (st0s c t (trChk c t)) (callX_ok hO hm (wk0s c t (trChk c t)) ⟨hck, bne_iff_ne.2 hk⟩)
theorem right_good (hk : trChk c t = 0) : ICall Tryd.prog 11 [.d c.d, .d t.d] [] (.tup [.d (I (right c t : Nat)), .d (I 0)]) [] := by
  have hck := check h ht
  rw [hk] at hck
  have k := ok_of hk
  have hl := loopR h k
  unfold Sw at hl
  rw [← copy_eq] at hl
  have hw := callX_ok hO hm (wkr c t 0 ((right c t : Nat) : Int)) ⟨hck, rfl, ⟨rfl, rfl, m100 _ (by rw [List.length_map]; exact ht.first)⟩, szB _, hl⟩
  exact callX_ok hO hm (rts c t ((right c t : Nat) : Int) 0) hw
end
end Go.Proofs.YtbamhlgkoimjoaaDoor.Sy.Tc
/- witness.digits, write, Check, Write, WriteByte: round by round. -/
namespace Go.Proofs.YtbamhlgkoimjoaaDoor.Sy.Wi
open Go Go.Proofs.YtbamhlgkoimjoaaDoor.Ab Go.Proofs.YtbamhlgkoimjoaaDoor.Sy Go.Proofs.YtbamhlgkoimjoaaDoor.Sy.Tx Go.Proofs.YtbamhlgkoimjoaaDoor.Sy.Vl Go.Proofs.YtbamhlgkoimjoaaDoor.Sy.Tc
set_option maxRecDepth 1000000
set_option linter.unusedVariables false
def Hd (xs : List D) (l : List UInt8) (sl : List (Nat × V)) : St := ⟨mk 20 ([(0, .ptr 0 0)] ++ sl) [], Str.SB l⟩
def Bw (t : Tr) (l : List UInt8) : List B := [Bt t, .bx (some 54) [.ptr 1 0, .arr 2], .lst 5 (l.map u8)]
def Ht (t : Tr) (l : List UInt8) (sl : List (Nat × V)) : St := ⟨mk 28 ([(2, .ptr 0 0), (5, .ptr 1 0)] ++ sl) [], Bw t l⟩
section
variable (c : Ci) (t : Tr) (n x e : Int) (i j u k m : Nat) (v st inp : List Bool) (b b2 : Bool) (xs : List D) (l l1 l2 l3 s : List UInt8) (u : UInt8) (ss : List (List Bool))
theorem wb  : callX Tryd.prog wr false O 33 [.ptr 0 0, .d (u8 u)] [.bx (some 54) [.ptr 0 0, .arr 1], .lst 5 (l.map u8)] [It.icall [0, 1] (V.tup []) (Str.SB l), It.raw, It.raw, It.raw] = some (V.d D.inil, [.bx (some 54) [.ptr 0 0, .arr 1], .lst 5 (l.map u8 ++ [u8 u])],
  [ICall Tryd.prog 31 [V.ptr 0 0] [B.bx (some 54) [V.ptr 0 0, V.arr 1], B.lst 5 (List.map u8 l)] (V.tup []) (Str.SB l),
   (List.map u8 l).length + [u8 u].length ≤ maxItems]) := by kernel_rfl
theorem d1t : round Tryd.prog wr false O (loopOf Tryd.prog 17 0) (Hd xs l [(6, .d (.sl xs)), (7, .d (I xs.length)), (8, .d (I i))]) [It.br true, It.el i (D.bool true), It.icall [0, 1] (V.d D.inil) (Str.SB (l ++ [49])), It.is (↑(i + 1) : Int)] [0, 6, 7, 8] 2 = some (.normal, Hd xs (l ++ [49]) [(6, .d (.sl xs)), (7, .d (I xs.length)), (8, .d (I (i + 1 : Nat)))],
  [decide ((↑i : Int) < (↑xs.length : Int)) = true,
   (↑i : Int) = (↑i : Int) ∧ xs[i]? = some (D.bool true),
   ICall Tryd.prog 33 [V.ptr 0 0, V.d (D.int IntKind.u8 49)] [B.bx (some 54) [V.ptr 0 0, V.arr 1], B.lst 5 (List.map u8 l)] (V.d D.inil) (Str.SB (l ++ [49])),
   IntKind.i64.wrap ((↑i : Int) + 1) = (↑(i + 1) : Int)]) := by kernel_rfl
theorem d1f : round Tryd.prog wr false O (loopOf Tryd.prog 17 0) (Hd xs l [(6, .d (.sl xs)), (7, .d (I xs.length)), (8, .d (I i))]) [It.br true, It.el i (D.bool false), It.icall [0, 1] (V.d D.inil) (Str.SB (l ++ [48])), It.is (↑(i + 1) : Int)] [0, 6, 7, 8] 2 = some (.normal, Hd xs (l ++ [48]) [(6, .d (.sl xs)), (7, .d (I xs.length)), (8, .d (I (i + 1 : Nat)))],
  [decide ((↑i : Int) < (↑xs.length : Int)) = true,
   (↑i : Int) = (↑i : Int) ∧ xs[i]? = some (D.bool false),
   ICall Tryd.prog 33 [V.ptr 0 0, V.d (D.int IntKind.u8 48)] [B.bx (some 54) [V.ptr 0 0, V.arr 1], B.lst 5 (List.map u8 l)] (V.d D.inil) (Str.SB (l ++ [48])),
   IntKind.i64.wrap ((↑i : Int) + 1) = (↑(i + 1) : Int)]) := by kernel_rfl
theorem d2 : round Tryd.prog wr false O (loopOf Tryd.prog 17 0) (Hd xs l [(6, .d (.sl xs)), (7, .d (I xs.length)), (8, .d (I i))]) [It.br false] [0] 2 = some (.exit 0, Hd xs l [],
  [decide ((↑i : Int) < (↑xs.length : Int)) = false]) := by kernel_rfl
theorem dg  : callX Tryd.prog wr false O 17 [.ptr 0 0, .d (.sl xs)] [.bx (some 54) [.ptr 0 0, .arr 1], .lst 5 (l.map u8)] [It.lp [0, 6, 7, 8] (Ex.exit 0) (Hd xs l1 []), It.icall [0, 1] (V.d D.inil) (Str.SB l2)] = some (V.tup [], [.bx (some 54) [.ptr 0 0, .arr 1], .lst 5 (l2.map u8)],
  [GoesL Tryd.prog (loopOf Tryd.prog 17 0) (⟨mk 20 [(0, V.ptr 0 0), (6, V.d (D.sl xs)), (7, V.d (D.int IntKind.i64 (↑xs.length : Int))), (8, V.d (D.int IntKind.i64 0))] [], [B.bx (some 54) [V.ptr 0 0, V.arr 1], B.lst 5 (List.map u8 l)]⟩) (Ex.exit 0) (Hd xs l1 []),
   ICall Tryd.prog 33 [V.ptr 0 0, V.d (D.int IntKind.u8 10)] [B.bx (some 54) [V.ptr 0 0, V.arr 1], B.lst 5 (List.map u8 l1)] (V.d D.inil) (Str.SB l2)]) := by kernel_rfl
theorem t1 : round Tryd.prog wr false O (loopOf Tryd.prog 9 0) (Ht t l [(17, .d (.sl (t.ins.map BL))), (18, .d (I (t.ins.map BL).length)), (19, .d (I i))]) [It.br true, It.el i (BL (t.ins.getD i default)), It.icall [1, 2] (V.tup []) (Str.SB l1), It.is (↑(i + 1) : Int)] [2, 5, 17, 18, 19] 3 = some (.normal, Ht t l1 [(17, .d (.sl (t.ins.map BL))), (18, .d (I (t.ins.map BL).length)), (19, .d (I (i + 1 : Nat)))],
  [decide ((↑i : Int) < (↑(List.map BL t.ins).length : Int)) = true,
   (↑i : Int) = (↑i : Int) ∧ (List.map BL t.ins)[i]? = some (BL (t.ins.getD i default)),
   ICall Tryd.prog 17 [V.ptr 0 0, V.d (BL (t.ins.getD i default))] [B.bx (some 54) [V.ptr 0 0, V.arr 1], B.lst 5 (List.map u8 l)] (V.tup []) (Str.SB l1),
   IntKind.i64.wrap ((↑i : Int) + 1) = (↑(i + 1) : Int)]) := by kernel_rfl
theorem t2 : round Tryd.prog wr false O (loopOf Tryd.prog 9 0) (Ht t l [(17, .d (.sl (t.ins.map BL))), (18, .d (I (t.ins.map BL).length)), (19, .d (I i))]) [It.br false] [2, 5] 3 = some (.exit 0, Ht t l [],
  [decide ((↑i : Int) < (↑(List.map BL t.ins).length : Int)) = false]) := by kernel_rfl
theorem wrt  : callX Tryd.prog wr false O 9 [.d t.d, .d (I n)] [] [It.icall [] (V.d (D.str s)) [], It.raw, It.raw, It.icall [1] (Str.wrote ([49, 10, 98] ++ s ++ [10])) (Str.SB ([49, 10, 98] ++ s ++ [10])), It.icall [1, 2] (V.tup []) (Str.SB l1), It.lp [2, 5, 17, 18, 19] (Ex.exit 0) (Ht t l2 []), It.icall [1, 2] (Str.wrote [46, 10]) (Str.SB l3), It.icall [1, 2] (V.d (D.str l3)) [B.bx (some 54) [V.ptr 0 0, V.undef], B.dead]] = some (V.d (D.str l3), [],
  [ICall Tryd.prog 16 [V.d (I n)] [] (V.d (D.str s)) [],
   3 + s.length < 4611686018427387904,
   ((ByteArray.mk #[49, 10, 98]).data.toList ++ s).length + 1 < 4611686018427387904,
   ICall Tryd.prog 15 [V.ptr 0 0, V.d (D.str ((ByteArray.mk #[49, 10, 98]).data.toList ++ s ++ (ByteArray.mk #[10]).data.toList))] [B.bx (some 54) [V.nilp, V.emp true]] (Str.wrote ([49, 10, 98] ++ s ++ [10])) (Str.SB ([49, 10, 98] ++ s ++ [10])),
   ICall Tryd.prog 17 [V.ptr 0 0, V.d (BL t.first)] [B.bx (some 54) [V.ptr 0 0, V.arr 1], B.lst 5 (List.map u8 ([49, 10, 98] ++ s ++ [10]))] (V.tup []) (Str.SB l1),
   GoesL Tryd.prog (loopOf Tryd.prog 9 0) (⟨mk 28 [(2, V.ptr 0 0), (5, V.ptr 1 0), (17, V.d (D.sl (List.map BL t.ins))), (18, V.d (D.int IntKind.i64 (↑(List.map BL t.ins).length : Int))), (19, V.d (D.int IntKind.i64 0))] [], [B.bx none [V.d (D.sl (List.map D.bool t.first)), V.d (D.sl (List.map BL t.ins))], B.bx (some 54) [V.ptr 1 0, V.arr 2], B.lst 5 (List.map u8 l1)]⟩) (Ex.exit 0) (Ht t l2 []),
   ICall Tryd.prog 15 [V.ptr 0 0, V.d (D.str (ByteArray.mk #[46, 10]).data.toList)] [B.bx (some 54) [V.ptr 0 0, V.arr 1], B.lst 5 (List.map u8 l2)] (Str.wrote [46, 10]) (Str.SB l3),
   ICall Tryd.prog 18 [V.ptr 0 0] [B.bx (some 54) [V.ptr 0 0, V.arr 1], B.lst 5 (List.map u8 l3)] (V.d (D.str l3)) [B.bx (some 54) [V.ptr 0 0, V.undef], B.dead]]) := by kernel_rfl
theorem c0  : callX Tryd.prog wr false O 5 [.d c.d, .d t.d, .d (I n)] [] [It.icall [] (V.tup [V.emp true, V.d (I e)]) [], It.br true] = some (V.d (D.int IntKind.i64 e), [],
  [ICall Tryd.prog 10 [V.d (D.agg [I c.ins, D.sl (List.map Lt.d c.lats), D.sl (List.map An.d c.ands), L c.bads, L c.cons]), V.d (D.agg [BL t.first, D.sl (List.map BL t.ins)])] [] (V.tup [V.emp true, V.d (I e)]) [],
   (e != 0) = true]) := by kernel_rfl
theorem c1  : callX Tryd.prog wr false O 5 [.d c.d, .d t.d, .d (I n)] [] [It.icall [] (V.tup [V.d (D.sl (List.map BL ss)), V.d (I 0)]) [], It.br false, It.br true] = some (V.d (D.int IntKind.i64 2), [],
  [ICall Tryd.prog 10 [V.d (D.agg [I c.ins, D.sl (List.map Lt.d c.lats), D.sl (List.map An.d c.ands), L c.bads, L c.cons]), V.d (D.agg [BL t.first, D.sl (List.map BL t.ins)])] [] (V.tup [V.d (D.sl (List.map BL ss)), V.d (I 0)]) [],
   (0 != 0) = false,
   decide (n < 0) = true]) := by kernel_rfl
theorem c2  : callX Tryd.prog wr false O 5 [.d c.d, .d t.d, .d (I n)] [] [It.icall [] (V.tup [V.d (D.sl (List.map BL ss)), V.d (I 0)]) [], It.br false, It.br false, It.br true] = some (V.d (D.int IntKind.i64 2), [],
  [ICall Tryd.prog 10 [V.d (D.agg [I c.ins, D.sl (List.map Lt.d c.lats), D.sl (List.map An.d c.ands), L c.bads, L c.cons]), V.d (D.agg [BL t.first, D.sl (List.map BL t.ins)])] [] (V.tup [V.d (D.sl (List.map BL ss)), V.d (I 0)]) [],
   (0 != 0) = false,
   decide (n < 0) = false,
   decide (n ≥ (↑(List.map I c.bads).length : Int)) = true]) := by kernel_rfl
theorem c3  : callX Tryd.prog wr false O 5 [.d c.d, .d t.d, .d (I n)] [] [It.icall [] (V.tup [V.d (D.sl (List.map BL ss)), V.d (I 0)]) [], It.br false, It.br false, It.br false, It.icall [] (V.tup [V.d (I x), V.d (I 0)]) [], It.br false, It.is ((↑(List.map BL ss).length : Int) - 1), It.el ((↑(List.map BL ss).length : Int) - 1).toNat (BL (ss.getD ((↑(List.map BL ss).length : Int) - 1).toNat default)), It.el ((↑(List.map BL ss).length : Int) - 1).toNat (BL (t.ins.getD ((↑(List.map BL ss).length : Int) - 1).toNat default)), It.icall [] (V.tup [V.d (D.bool b), V.d (BL v), V.d (I 0)]) [], It.br false, It.br true] = some (V.d (D.int IntKind.i64 57), [],
  [ICall Tryd.prog 10 [V.d (D.agg [I c.ins, D.sl (List.map Lt.d c.lats), D.sl (List.map An.d c.ands), L c.bads, L c.cons]), V.d (D.agg [BL t.first, D.sl (List.map BL t.ins)])] [] (V.tup [V.d (D.sl (List.map BL ss)), V.d (I 0)]) [],
   (0 != 0) = false,
   decide (n < 0) = false,
   decide (n ≥ (↑(List.map I c.bads).length : Int)) = false,
   ICall Tryd.prog 11 [V.d (D.agg [I c.ins, D.sl (List.map Lt.d c.lats), D.sl (List.map An.d c.ands), L c.bads, L c.cons]), V.d (D.agg [BL t.first, D.sl (List.map BL t.ins)])] [] (V.tup [V.d (I x), V.d (I 0)]) [],
   (0 != 0) = false,
   IntKind.i64.wrap ((↑(List.map BL ss).length : Int) - 1) = (↑(List.map BL ss).length : Int) - 1,
   (↑(List.map BL ss).length : Int) - 1 = (↑((↑(List.map BL ss).length : Int) - 1).toNat : Int) ∧ (List.map BL ss)[((↑(List.map BL ss).length : Int) - 1).toNat]? = some (BL (ss.getD ((↑(List.map BL ss).length : Int) - 1).toNat default)),
   (↑(List.map BL ss).length : Int) - 1 = (↑((↑(List.map BL ss).length : Int) - 1).toNat : Int) ∧ (List.map BL t.ins)[((↑(List.map BL ss).length : Int) - 1).toNat]? = some (BL (t.ins.getD ((↑(List.map BL ss).length : Int) - 1).toNat default)),
   ICall Tryd.prog 12 [V.d (D.agg [I c.ins, D.sl (List.map Lt.d c.lats), D.sl (List.map An.d c.ands), L c.bads, L c.cons]), V.d (BL (ss.getD ((↑(List.map BL ss).length : Int) - 1).toNat default)), V.d (BL (t.ins.getD ((↑(List.map BL ss).length : Int) - 1).toNat default))] [] (V.tup [V.d (D.bool b), V.d (BL v), V.d (I 0)]) [],
   (0 != 0) = false,
   decide (x ≤ (↑(List.map BL ss).length : Int) - 1) = true]) := by kernel_rfl
theorem c4  : callX Tryd.prog wr false O 5 [.d c.d, .d t.d, .d (I n)] [] [It.icall [] (V.tup [V.d (D.sl (List.map BL ss)), V.d (I 0)]) [], It.br false, It.br false, It.br false, It.icall [] (V.tup [V.d (I x), V.d (I 0)]) [], It.br false, It.is ((↑(List.map BL ss).length : Int) - 1), It.el ((↑(List.map BL ss).length : Int) - 1).toNat (BL (ss.getD ((↑(List.map BL ss).length : Int) - 1).toNat default)), It.el ((↑(List.map BL ss).length : Int) - 1).toNat (BL (t.ins.getD ((↑(List.map BL ss).length : Int) - 1).toNat default)), It.icall [] (V.tup [V.d (D.bool b), V.d (BL v), V.d (I 0)]) [], It.br false, It.br false, It.el n.toNat (D.bool (v.getD n.toNat default)), It.br true] = some (V.d (D.int IntKind.i64 57), [],
  [ICall Tryd.prog 10 [V.d (D.agg [I c.ins, D.sl (List.map Lt.d c.lats), D.sl (List.map An.d c.ands), L c.bads, L c.cons]), V.d (D.agg [BL t.first, D.sl (List.map BL t.ins)])] [] (V.tup [V.d (D.sl (List.map BL ss)), V.d (I 0)]) [],
   (0 != 0) = false,
   decide (n < 0) = false,
   decide (n ≥ (↑(List.map I c.bads).length : Int)) = false,
   ICall Tryd.prog 11 [V.d (D.agg [I c.ins, D.sl (List.map Lt.d c.lats), D.sl (List.map An.d c.ands), L c.bads, L c.cons]), V.d (D.agg [BL t.first, D.sl (List.map BL t.ins)])] [] (V.tup [V.d (I x), V.d (I 0)]) [],
   (0 != 0) = false,
   IntKind.i64.wrap ((↑(List.map BL ss).length : Int) - 1) = (↑(List.map BL ss).length : Int) - 1,
   (↑(List.map BL ss).length : Int) - 1 = (↑((↑(List.map BL ss).length : Int) - 1).toNat : Int) ∧ (List.map BL ss)[((↑(List.map BL ss).length : Int) - 1).toNat]? = some (BL (ss.getD ((↑(List.map BL ss).length : Int) - 1).toNat default)),
   (↑(List.map BL ss).length : Int) - 1 = (↑((↑(List.map BL ss).length : Int) - 1).toNat : Int) ∧ (List.map BL t.ins)[((↑(List.map BL ss).length : Int) - 1).toNat]? = some (BL (t.ins.getD ((↑(List.map BL ss).length : Int) - 1).toNat default)),
   ICall Tryd.prog 12 [V.d (D.agg [I c.ins, D.sl (List.map Lt.d c.lats), D.sl (List.map An.d c.ands), L c.bads, L c.cons]), V.d (BL (ss.getD ((↑(List.map BL ss).length : Int) - 1).toNat default)), V.d (BL (t.ins.getD ((↑(List.map BL ss).length : Int) - 1).toNat default))] [] (V.tup [V.d (D.bool b), V.d (BL v), V.d (I 0)]) [],
   (0 != 0) = false,
   decide (x ≤ (↑(List.map BL ss).length : Int) - 1) = false,
   n = (↑n.toNat : Int) ∧ (List.map D.bool v)[n.toNat]? = some (D.bool (v.getD n.toNat default)),
   (!v.getD n.toNat default) = true]) := by kernel_rfl
theorem c5  : callX Tryd.prog wr false O 5 [.d c.d, .d t.d, .d (I n)] [] [It.icall [] (V.tup [V.d (D.sl (List.map BL ss)), V.d (I 0)]) [], It.br false, It.br false, It.br false, It.icall [] (V.tup [V.d (I x), V.d (I 0)]) [], It.br false, It.is ((↑(List.map BL ss).length : Int) - 1), It.el ((↑(List.map BL ss).length : Int) - 1).toNat (BL (ss.getD ((↑(List.map BL ss).length : Int) - 1).toNat default)), It.el ((↑(List.map BL ss).length : Int) - 1).toNat (BL (t.ins.getD ((↑(List.map BL ss).length : Int) - 1).toNat default)), It.icall [] (V.tup [V.d (D.bool b), V.d (BL v), V.d (I 0)]) [], It.br false, It.br false, It.el n.toNat (D.bool (v.getD n.toNat default)), It.br false] = some (V.d (D.int IntKind.i64 0), [],
  [ICall Tryd.prog 10 [V.d (D.agg [I c.ins, D.sl (List.map Lt.d c.lats), D.sl (List.map An.d c.ands), L c.bads, L c.cons]), V.d (D.agg [BL t.first, D.sl (List.map BL t.ins)])] [] (V.tup [V.d (D.sl (List.map BL ss)), V.d (I 0)]) [],
   (0 != 0) = false,
   decide (n < 0) = false,
   decide (n ≥ (↑(List.map I c.bads).length : Int)) = false,
   ICall Tryd.prog 11 [V.d (D.agg [I c.ins, D.sl (List.map Lt.d c.lats), D.sl (List.map An.d c.ands), L c.bads, L c.cons]), V.d (D.agg [BL t.first, D.sl (List.map BL t.ins)])] [] (V.tup [V.d (I x), V.d (I 0)]) [],
   (0 != 0) = false,
   IntKind.i64.wrap ((↑(List.map BL ss).length : Int) - 1) = (↑(List.map BL ss).length : Int) - 1,
   (↑(List.map BL ss).length : Int) - 1 = (↑((↑(List.map BL ss).length : Int) - 1).toNat : Int) ∧ (List.map BL ss)[((↑(List.map BL ss).length : Int) - 1).toNat]? = some (BL (ss.getD ((↑(List.map BL ss).length : Int) - 1).toNat default)),
   (↑(List.map BL ss).length : Int) - 1 = (↑((↑(List.map BL ss).length : Int) - 1).toNat : Int) ∧ (List.map BL t.ins)[((↑(List.map BL ss).length : Int) - 1).toNat]? = some (BL (t.ins.getD ((↑(List.map BL ss).length : Int) - 1).toNat default)),
   ICall Tryd.prog 12 [V.d (D.agg [I c.ins, D.sl (List.map Lt.d c.lats), D.sl (List.map An.d c.ands), L c.bads, L c.cons]), V.d (BL (ss.getD ((↑(List.map BL ss).length : Int) - 1).toNat default)), V.d (BL (t.ins.getD ((↑(List.map BL ss).length : Int) - 1).toNat default))] [] (V.tup [V.d (D.bool b), V.d (BL v), V.d (I 0)]) [],
   (0 != 0) = false,
   decide (x ≤ (↑(List.map BL ss).length : Int) - 1) = false,
   n = (↑n.toNat : Int) ∧ (List.map D.bool v)[n.toNat]? = some (D.bool (v.getD n.toNat default)),
   (!v.getD n.toNat default) = false]) := by kernel_rfl
theorem w0  : callX Tryd.prog wr false O 4 [.d c.d, .d t.d, .d (I n)] [] [It.icall [] (V.d (I e)) [], It.br true] = some (V.tup [V.d (D.str (ByteArray.mk #[]).data.toList), V.d (D.int IntKind.i64 e)], [],
  [ICall Tryd.prog 5 [V.d (D.agg [I c.ins, D.sl (List.map Lt.d c.lats), D.sl (List.map An.d c.ands), L c.bads, L c.cons]), V.d (D.agg [BL t.first, D.sl (List.map BL t.ins)]), V.d (I n)] [] (V.d (I e)) [],
   (e != 0) = true]) := by kernel_rfl
theorem w1  : callX Tryd.prog wr false O 4 [.d c.d, .d t.d, .d (I n)] [] [It.icall [] (V.d (I 0)) [], It.br false, It.icall [] (V.d (D.str s)) []] = some (V.tup [V.d (D.str s), V.d (D.int IntKind.i64 0)], [],
  [ICall Tryd.prog 5 [V.d (D.agg [I c.ins, D.sl (List.map Lt.d c.lats), D.sl (List.map An.d c.ands), L c.bads, L c.cons]), V.d (D.agg [BL t.first, D.sl (List.map BL t.ins)]), V.d (I n)] [] (V.d (I 0)) [],
   (0 != 0) = false,
   ICall Tryd.prog 9 [V.d (D.agg [BL t.first, D.sl (List.map BL t.ins)]), V.d (I n)] [] (V.d (D.str s)) []]) := by kernel_rfl
end
end Go.Proofs.YtbamhlgkoimjoaaDoor.Sy.Wi
/- witness.digits, write, Check, Write, whole. -/
namespace Go.Proofs.YtbamhlgkoimjoaaDoor.Sy.Wi
open Go Go.Proofs.YtbamhlgkoimjoaaDoor.Ab Go.Proofs.YtbamhlgkoimjoaaDoor.Sy Go.Proofs.YtbamhlgkoimjoaaDoor.Sy.Tx Go.Proofs.YtbamhlgkoimjoaaDoor.Sy.Vl Go.Proofs.YtbamhlgkoimjoaaDoor.Sy.Tc
set_option maxRecDepth 1000000
set_option linter.unusedVariables false
set_option linter.unusedSimpArgs false
section
variable {k : Code}
/-- A text behind which something is put for each element. -/
theorem str_loop {α : Type} [Inhabited α] (xs : List α) (H : Nat → List UInt8 → St) (e0 : Ex) (E : List UInt8 → St) (f : α → List UInt8) (B K : Nat) (hf : ∀ x ∈ xs, (f x).length ≤ K)
    (hs : ∀ i l, i < xs.length → xs.getD i default ∈ xs → l.length ≤ B + K * i → ∀ e s, GoesL Tryd.prog k (H (i + 1) (l ++ f (xs.getD i default))) e s → GoesL Tryd.prog k (H i l) e s)
    (he : ∀ l, l.length ≤ B + K * xs.length → GoesL Tryd.prog k (H xs.length l) e0 (E l)) (l : List UInt8) (hl : l.length ≤ B) : GoesL Tryd.prog k (H 0 l) e0 (E (l ++ xs.flatMap f)) := by
  have key : ∀ (d i : Nat) (l : List UInt8), xs.length - i = d → i ≤ xs.length → l.length ≤ B + K * i → GoesL Tryd.prog k (H i l) e0 (E (l ++ (xs.drop i).flatMap f)) := by
    intro d
    induction d with
    | zero =>
      intro i l hd hi hl
      obtain rfl : i = xs.length := by omega
      rw [List.drop_length, List.flatMap_nil, List.append_nil]
      exact he l hl
    | succ d ih =>
      intro i l hd hi hl
      have hlt : i < xs.length := by omega
      have hmem : xs.getD i default ∈ xs := mem_getD hlt
      refine hs i l hlt hmem hl _ _ ?_
      rw [drop_getD xs i hlt, List.flatMap_cons, ← List.append_assoc]
      exact ih (i + 1) _ (by omega) (by omega) (by rw [List.length_append]; have := hf _ hmem; rw [Nat.mul_add]; omega)
  exact key _ 0 l rfl (Nat.zero_le _) (by omega)
end
/-- Truth values as digits. -/
def digs (v : List Bool) : List UInt8 := v.flatMap fun b => if b then [49] else [48]
theorem digs_len (v : List Bool) : (digs v).length = v.length := by
  unfold digs
  induction v with
  | nil => rfl
  | cons b r ih => rw [List.flatMap_cons, List.length_append, ih, List.length_cons]; cases b <;> simp <;> omega
theorem writeByte (u : UInt8) (l : List UInt8) (h : l.length ≤ 1000000000) : ICall Tryd.prog 33 [.ptr 0 0, .d (u8 u)] (Str.SB l) (.d .inil) (Str.SB (l ++ [u])) := by
  have := callX_ok hO hm (wb l u) ⟨Str.check_used _ _ _, Nat.le_trans (show _ ≤ 1000000001 by simp; omega) (by decide)⟩
  unfold Str.SB
  rw [List.map_append]
  exact this
theorem digits (v : List Bool) (l : List UInt8) (h : l.length + v.length ≤ 100000000) : ICall Tryd.prog 17 [.ptr 0 0, .d (BL v)] (Str.SB l) (.tup []) (Str.SB (l ++ digs v ++ [10])) := by
  have loop := str_loop (k := loopOf Tryd.prog 17 0) v (fun i l => Hd (v.map D.bool) l [(6, .d (.sl (v.map D.bool))), (7, .d (I (v.map D.bool).length)), (8, .d (I i))]) (.exit 0) (fun l => Hd (v.map D.bool) l []) (fun b => if b then [49] else [48]) l.length 1
    (fun x _ => by cases x <;> simp)
    (fun i l hi _ hl e s hh => by
      have q0 : decide ((i : Int) < (((v.map D.bool).length : Nat) : Int)) = true := decide_eq_true (by rw [List.length_map]; omega)
      have gm := get_map D.bool v i hi
      cases hb : v.getD i default with
      | true =>
        rw [hb] at gm hh
        exact .step hO hm (d1t i _ l) ⟨q0, ⟨rfl, gm⟩, writeByte 49 l (by omega), wrap_succ (by omega)⟩ hh
      | false =>
        rw [hb] at gm hh
        exact .step hO hm (d1f i _ l) ⟨q0, ⟨rfl, gm⟩, writeByte 48 l (by omega), wrap_succ (by omega)⟩ hh)
    (fun l _ => .stop hO hm (d2 v.length (v.map D.bool) l) (by simp) (decide_eq_false (by rw [List.length_map]; omega)))
    l (Nat.le_refl _)
  have e2 := digs_len v
  exact callX_ok hO hm (dg (v.map D.bool) l (l ++ digs v) (l ++ digs v ++ [10])) ⟨loop, writeByte 10 _ (by rw [List.length_append]; omega)⟩
/-- A run that is not great. -/
structure Tz (t : Tr) : Prop where
  first : t.first.length ≤ 10000
  ins : t.ins.length ≤ 1000
  each : ∀ l ∈ t.ins, l.length ≤ 10000
/-- The text of a run. -/
def txt (t : Tr) (n : Int) : List UInt8 := [49, 10, 98] ++ Lib.itoa n ++ [10] ++ digs t.first ++ [10] ++ t.ins.flatMap (fun l => digs l ++ [10]) ++ [46, 10]
theorem write (t : Tr) (n : Int) (ht : Tz t) (h0 : -9223372036854775808 ≤ n) (h1 : n ≤ 9223372036854775807) : ICall Tryd.prog 9 [.d t.d, .d (I n)] [] (.d (.str (txt t n))) [] := by
  have hi := Str.itoa n h0 h1
  have hil : (Lib.itoa n).length ≤ 22 := by
    have := Lib.itoa_length_le n h0 h1
    omega
  have hd := digs_len t.first
  have hf := ht.first
  have hn := ht.ins
  have loop := str_loop (k := loopOf Tryd.prog 9 0) t.ins (fun i l => Ht t l [(17, .d (.sl (t.ins.map BL))), (18, .d (I (t.ins.map BL).length)), (19, .d (I i))]) (.exit 0) (fun l => Ht t l []) (fun v => digs v ++ [10]) 11000 10001
    (fun x hx => by rw [List.length_append, digs_len]; have := ht.each x hx; simp; omega)
    (fun i l hlt hmem hl e s hh => by
      have := ht.each _ hmem
      rw [← List.append_assoc] at hh
      exact .step hO hm (t1 t i l (l ++ digs (t.ins.getD i default) ++ [10])) ⟨decide_eq_true (by rw [List.length_map]; omega), ⟨rfl, get_map BL t.ins i hlt⟩, digits _ l (by omega), wrap_succ (by omega)⟩ hh)
    (fun l _ => .stop hO hm (t2 t t.ins.length l) (by simp) (decide_eq_false (by rw [List.length_map]; omega)))
    ([49, 10, 98] ++ Lib.itoa n ++ [10] ++ digs t.first ++ [10]) (by simp; omega)
  have hfl : ∀ ls : List (List Bool), (∀ l ∈ ls, l.length ≤ 10000) → (ls.flatMap (fun l => digs l ++ [10])).length ≤ 10001 * ls.length := by
    intro ls
    induction ls with
    | nil => intro _; simp
    | cons x r ih =>
      intro hh
      simp only [List.flatMap_cons, List.length_append, digs_len, List.length_cons, List.length_nil]
      have := ih fun y hy => hh y (by simp [hy])
      have := hh x (by simp)
      omega
  have hfl := hfl t.ins ht.each
  refine callX_ok hO hm (wrt t n ([49, 10, 98] ++ Lib.itoa n ++ [10] ++ digs t.first ++ [10]) ([49, 10, 98] ++ Lib.itoa n ++ [10] ++ digs t.first ++ [10] ++ t.ins.flatMap (fun l => digs l ++ [10])) (txt t n) (Lib.itoa n)) ⟨hi, by omega, ?_, ?_, ?_, loop, ?_, Str.string_ok _ ?_⟩
  · show ([49, 10, 98] ++ Lib.itoa n : List UInt8).length + 1 < _
    simp; omega
  · exact Str.write1 ([49, 10, 98] ++ Lib.itoa n ++ [10]) (by simp; omega)
  · exact digits t.first _ (by simp; omega)
  · exact Str.write [46, 10] _ (by simp only [List.length_append, List.length_cons, List.length_nil]; omega)
  · unfold txt; simp
/-- Does the run show the bad literal? -/
def shown (c : Ci) (t : Tr) (n : Nat) : Bool := decide (t.ins.length ≤ right c t) && (badsS c (stAt c t (t.ins.length - 1)) (t.ins.getD (t.ins.length - 1) default)).getD n default
/-- What witness.Check answers. -/
def wtChk (c : Ci) (t : Tr) (n : Int) : Int :=
  if trChk c t ≠ 0 then trChk c t else if n < 0 then 2 else if n ≥ (c.bads.length : Int) then 2 else if shown c t n.toNat then 0 else 57
section
variable {c : Ci} {t : Tr} (h : Cw c) (ht : Tw t)
include h ht
theorem wcheck (n : Int) : ICall Tryd.prog 5 [.d c.d, .d t.d, .d (I n)] [] (.d (I (wtChk c t n))) [] := by
  have hti := ht.ins
  unfold wtChk
  by_cases c0 : trChk c t ≠ 0
  · rw [if_pos c0]; exact callX_ok hO hm (Wi.c0 c t n (trChk c t)) ⟨states_bad h ht c0, bne_iff_ne.2 c0⟩
  rw [if_neg c0]
  have c0 := Decidable.not_not.1 c0
  have k := ok_of c0
  have k1 := k.some
  have hs := states_good h ht c0
  by_cases c1 : n < 0
  · rw [if_pos c1]; exact callX_ok hO hm (Wi.c1 c t n (states c t)) ⟨hs, rfl, decide_eq_true c1⟩
  rw [if_neg c1]
  by_cases c2 : n ≥ (c.bads.length : Int)
  · rw [if_pos c2]; exact callX_ok hO hm (Wi.c2 c t n (states c t)) ⟨hs, rfl, decide_eq_false c1, decide_eq_true (by rw [List.length_map]; exact c2)⟩
  rw [if_neg c2]
  have d2 : decide (n ≥ (((c.bads.map I).length : Nat) : Int)) = false := decide_eq_false (by rw [List.length_map]; exact c2)
  have hr := right_good h ht c0
  have hl : ((states c t).map BL).length = t.ins.length := by rw [List.length_map]; unfold states; simp
  have e1 : ((((states c t).map BL).length : Nat) : Int) - 1 = ((t.ins.length - 1 : Nat) : Int) := by rw [hl]; omega
  have e2 : (((((states c t).map BL).length : Nat) : Int) - 1).toNat = t.ins.length - 1 := by rw [e1]; omega
  have hlt : t.ins.length - 1 < t.ins.length := by omega
  have es : (states c t).getD (t.ins.length - 1) default = stAt c t (t.ins.length - 1) := by
    unfold states; rw [List.getD_eq_getElem?_getD, List.getElem?_map, List.getElem?_range hlt]; rfl
  have q1 : IntKind.i64.wrap (((((states c t).map BL).length : Nat) : Int) - 1) = ((((states c t).map BL).length : Nat) : Int) - 1 := wrap_id (by omega) (by omega)
  have q2 : ((((states c t).map BL).length : Nat) : Int) - 1 = ((((((states c t).map BL).length : Nat) : Int) - 1).toNat : Int) ∧ ((states c t).map BL)[(((((states c t).map BL).length : Nat) : Int) - 1).toNat]? = some (BL ((states c t).getD (((((states c t).map BL).length : Nat) : Int) - 1).toNat default)) :=
    ⟨by omega, get_map BL (states c t) _ (by rw [e2]; rw [List.length_map] at hl; omega)⟩
  have q3 : ((((states c t).map BL).length : Nat) : Int) - 1 = ((((((states c t).map BL).length : Nat) : Int) - 1).toNat : Int) ∧ (t.ins.map BL)[(((((states c t).map BL).length : Nat) : Int) - 1).toNat]? = some (BL (t.ins.getD (((((states c t).map BL).length : Nat) : Int) - 1).toNat default)) :=
    ⟨by omega, get_map BL t.ins _ (by rw [e2]; exact hlt)⟩
  have hp := props h k.chk (stAt_len k (t.ins.length - 1)) (inp_len k hlt)
  rw [← es] at hp
  rw [← e2] at hp
  have hbl : (badsS c ((states c t).getD (((((states c t).map BL).length : Nat) : Int) - 1).toNat default) (t.ins.getD (((((states c t).map BL).length : Nat) : Int) - 1).toNat default)).length = c.bads.length := by unfold badsS; rw [List.length_map]
  by_cases c3 : ((right c t : Nat) : Int) ≤ ((((states c t).map BL).length : Nat) : Int) - 1
  · have hsh : shown c t n.toNat = false := by
      unfold shown; rw [decide_eq_false (by omega)]; rfl
    rw [hsh, if_neg (by simp)]
    exact callX_ok hO hm (Wi.c3 c t n _ _ _ (states c t)) ⟨hs, rfl, decide_eq_false c1, d2, hr, rfl, q1, q2, q3, hp, rfl, decide_eq_true c3⟩
  · have hsh : shown c t n.toNat = (badsS c ((states c t).getD (((((states c t).map BL).length : Nat) : Int) - 1).toNat default) (t.ins.getD (((((states c t).map BL).length : Nat) : Int) - 1).toNat default)).getD n.toNat default := by
      unfold shown; rw [decide_eq_true (by omega), Bool.true_and, e2, es]
    have q4 : n = (n.toNat : Int) ∧ ((badsS c ((states c t).getD (((((states c t).map BL).length : Nat) : Int) - 1).toNat default) (t.ins.getD (((((states c t).map BL).length : Nat) : Int) - 1).toNat default)).map D.bool)[n.toNat]? = some (D.bool ((badsS c ((states c t).getD (((((states c t).map BL).length : Nat) : Int) - 1).toNat default) (t.ins.getD (((((states c t).map BL).length : Nat) : Int) - 1).toNat default)).getD n.toNat default)) :=
      ⟨by omega, get_map D.bool _ _ (by rw [hbl]; omega)⟩
    rw [hsh]
    cases c4 : (badsS c ((states c t).getD (((((states c t).map BL).length : Nat) : Int) - 1).toNat default) (t.ins.getD (((((states c t).map BL).length : Nat) : Int) - 1).toNat default)).getD n.toNat default with
    | false =>
      rw [if_neg (by simp)]
      exact callX_ok hO hm (Wi.c4 c t n _ _ _ (states c t)) ⟨hs, rfl, decide_eq_false c1, d2, hr, rfl, q1, q2, q3, hp, rfl, decide_eq_false c3, q4, by rw [c4]; rfl⟩
    | true =>
      rw [if_pos rfl]
      exact callX_ok hO hm (Wi.c5 c t n _ _ _ (states c t)) ⟨hs, rfl, decide_eq_false c1, d2, hr, rfl, q1, q2, q3, hp, rfl, decide_eq_false c3, q4, by rw [c4]; rfl⟩
/-- The answer of witness.Write. -/
def wtS (c : Ci) (t : Tr) (n : Int) : List UInt8 := if wtChk c t n = 0 then txt t n else []
theorem Write (hz : Tz t) (n : Int) (h0 : -9223372036854775808 ≤ n) (h1 : n ≤ 9223372036854775807) : ICall Tryd.prog 4 [.d c.d, .d t.d, .d (I n)] [] (.tup [.d (.str (wtS c t n)), .d (I (wtChk c t n))]) [] := by
  have hc := wcheck h ht n
  unfold wtS
  by_cases c0 : wtChk c t n = 0
  · rw [if_pos c0, c0]
    rw [c0] at hc
    exact callX_ok hO hm (w1 c t n (txt t n)) ⟨hc, rfl, write t n hz h0 h1⟩
  · rw [if_neg c0]
    exact callX_ok hO hm (w0 c t n (wtChk c t n)) ⟨hc, bne_iff_ne.2 c0⟩
end
end Go.Proofs.YtbamhlgkoimjoaaDoor.Sy.Wi
