/- What order.Raw and the reference's Raw come to: the same raw circuit; and that a raw circuit is the same as itself. -/
import Derived.Test.YtpdlkjpemplhoaaLemCheck
import Derived.Test.YtpdlkjpemplhoaaFOrderRaw
import Derived.Test.YtpdlkjpemplhoaaFRef03Raw
import Derived.Test.YtpdlkjpemplhoaaFRef03Same
namespace Go.Proofs.Ytpdlkjpemplhoaa.P
open Go.RowKit Go.Proofs.YtpdlkjpemplhoaaW.PrintWords Go.Proofs.YtpdlkjpemplhoaaW.PrintLast Go.Proofs.YtpdlkjpemplhoaaW.PrintMore
set_option linter.unusedVariables false

/-- The literals of the inputs, of the latches and of the gates, from x on. -/
def rIn (x : Int) : Nat → List Int
  | 0 => []
  | d + 1 => x :: rIn (x + 2) d
def rLat (x : Int) : List S61 → List S56
  | [] => []
  | g :: r => ⟨x, g.f0, g.f1⟩ :: rLat (x + 2) r
def rAnd (x : Int) : List S59 → List S56
  | [] => []
  | g :: r => ⟨x, g.f0, g.f1⟩ :: rAnd (x + 2) r

theorem rIn_len (d : Nat) : ∀ x, (rIn x d).length = d := by
  induction d with
  | zero => intro x; rfl
  | succ d ih => intro x; simp [rIn, ih]
theorem rLat_len (l : List S61) : ∀ x, (rLat x l).length = l.length := by
  induction l with
  | nil => intro x; rfl
  | cons g r ih => intro x; simp [rLat, ih]
theorem rAnd_len (l : List S59) : ∀ x, (rAnd x l).length = l.length := by
  induction l with
  | nil => intro x; rfl
  | cons g r ih => intro x; simp [rAnd, ih]

theorem wrap_step {n m : Int} (e : n = m) (h0 : -1000000000000 ≤ m) (h1 : m ≤ 1000000000000) : wrap64 n = m := by rw [e]; exact wrap_id (by omega) (by omega)

theorem raw_l2 (l2 : List S59) (m : Int) (ins : List Int) (lat : List S56) (t5 t6 : List Int) (d : Nat) : ∀ (i k : Nat) (x : Int) (acc : List S56), l2.length - i = d → i ≤ l2.length → d < k → 0 ≤ x → x + 2 * d ≤ 1000000 → acc.length + d ≤ 1000000 → l2.length ≤ 1000000 →
    order_Raw.l2 k x l2 (l2.length : Int) (i : Int) m ins lat acc t5 t6 = some (m, ins, lat, acc ++ rAnd (x + 2) (l2.drop i), t5, t6, 0) := by
  induction d with
  | zero =>
    intro i k x acc hd hi hk h0 h1 ha hl
    obtain ⟨k, rfl⟩ : ∃ m, k = m + 1 := ⟨k - 1, by omega⟩
    have e : i = l2.length := by omega
    simp only [order_Raw.l2]
    rw [if_neg (by omega), e, List.drop_length]
    simp [rAnd]
  | succ d ih =>
    intro i k x acc hd hi hk h0 h1 ha hl
    obtain ⟨k, rfl⟩ : ∃ m, k = m + 1 := ⟨k - 1, by omega⟩
    have hlt : i < l2.length := by omega
    simp only [order_Raw.l2]
    rw [if_pos (by omega), if_pos (by omega), if_pos (by omega), if_pos (by omega), rdA_drop hlt, wrap_step (m := x + 2) rfl (by omega) (by omega), wrap_step (n := (i : Int) + 1) (m := ((i + 1 : Nat) : Int)) (by omega) (by omega) (by omega)]
    rw [ih (i + 1) k (x + 2) _ (by omega) (by omega) (by omega) (by omega) (by omega) (by simp; omega) hl]
    simp [rAnd]

theorem raw_l1 (n : Int) (l1 : List S61) (l2 : List S59) (l3 l4 : List Int) (m : Int) (ins : List Int) (t5 t6 : List Int) (hl : l1.length ≤ 100000) (hl2 : l2.length ≤ 100000) (d : Nat) : ∀ (i k : Nat) (x : Int) (acc : List S56), l1.length - i = d → i ≤ l1.length → d + l2.length + 2 < k → 0 ≤ x → x + 2 * d + 2 * l2.length ≤ 1000000 → acc.length + d ≤ 1000000 →
    order_Raw.l1 k x l1 (l1.length : Int) (i : Int) n l1 l2 l3 l4 m ins acc t5 t6 = some (m, ins, acc ++ rLat (x + 2) (l1.drop i), rAnd (x + 2 * d + 2) l2, t5, t6, 0) := by
  induction d with
  | zero =>
    intro i k x acc hd hi hk h0 h1 ha
    obtain ⟨k, rfl⟩ : ∃ m, k = m + 1 := ⟨k - 1, by omega⟩
    have e : i = l1.length := by omega
    simp only [order_Raw.l1]
    have := raw_l2 l2 m ins acc t5 t6 l2.length 0 k x [] (by omega) (by omega) (by omega) h0 (by omega) (by simp; omega) (by omega)
    rw [if_neg (by omega), e, List.drop_length]
    simp only [List.drop_zero, List.nil_append] at this
    simp only [rLat, List.append_nil, Int.natCast_zero, Int.mul_zero, Int.add_zero]
    exact this
  | succ d ih =>
    intro i k x acc hd hi hk h0 h1 ha
    obtain ⟨k, rfl⟩ : ∃ m, k = m + 1 := ⟨k - 1, by omega⟩
    have hlt : i < l1.length := by omega
    simp only [order_Raw.l1]
    rw [if_pos (by omega), if_pos (by omega), if_pos (by omega), if_pos (by omega), rdL_drop hlt, wrap_step (m := x + 2) rfl (by omega) (by omega), wrap_step (n := (i : Int) + 1) (m := ((i + 1 : Nat) : Int)) (by omega) (by omega) (by omega)]
    rw [ih (i + 1) k (x + 2) _ (by omega) (by omega) (by omega) (by omega) (by omega) (by simp; omega)]
    have e : x + 2 + 2 * (d : Int) + 2 = x + 2 * ((d + 1 : Nat) : Int) + 2 := by omega
    rw [e]
    simp [rLat]

theorem raw_l0 (N : Nat) (l1 : List S61) (l2 : List S59) (l3 l4 : List Int) (m : Int) (t5 t6 : List Int) (hN : N ≤ 100000) (hl : l1.length ≤ 100000) (hl2 : l2.length ≤ 100000) (d : Nat) : ∀ (i k : Nat) (x : Int) (acc : List Int), N - i = d → i ≤ N → d + l1.length + l2.length + 5 < k → 0 ≤ x → x + 2 * d + 2 * l1.length + 2 * l2.length ≤ 1000000 → acc.length + d ≤ 1000000 →
    order_Raw.l0 k x (N : Int) (i : Int) (N : Int) l1 l2 l3 l4 m acc t5 t6 = some (m, acc ++ rIn (x + 2) d, rLat (x + 2 * d + 2) l1, rAnd (x + 2 * d + 2 * l1.length + 2) l2, t5, t6, 0) := by
  induction d with
  | zero =>
    intro i k x acc hd hi hk h0 h1 ha
    obtain ⟨k, rfl⟩ : ∃ m, k = m + 1 := ⟨k - 1, by omega⟩
    simp only [order_Raw.l0]
    have := raw_l1 (N : Int) l1 l2 l3 l4 m acc t5 t6 hl hl2 l1.length 0 k x [] (by omega) (by omega) (by omega) h0 (by omega) (by simp; omega)
    rw [if_neg (by omega)]
    simp only [List.drop_zero, List.nil_append] at this
    simp only [rIn, List.append_nil, Int.natCast_zero, Int.mul_zero, Int.add_zero]
    exact this
  | succ d ih =>
    intro i k x acc hd hi hk h0 h1 ha
    obtain ⟨k, rfl⟩ : ∃ m, k = m + 1 := ⟨k - 1, by omega⟩
    simp only [order_Raw.l0]
    rw [if_pos (by omega), if_pos (by omega), wrap_step (m := x + 2) rfl (by omega) (by omega), wrap_step (n := (i : Int) + 1) (m := ((i + 1 : Nat) : Int)) (by omega) (by omega) (by omega)]
    rw [ih (i + 1) k (x + 2) _ (by omega) (by omega) (by omega) (by omega) (by omega) (by simp; omega)]
    have e : x + 2 + 2 * (d : Int) + 2 = x + 2 * ((d + 1 : Nat) : Int) + 2 := by omega
    have e2 : x + 2 + 2 * (d : Int) + 2 * (l1.length : Int) + 2 = x + 2 * ((d + 1 : Nat) : Int) + 2 * (l1.length : Int) + 2 := by omega
    rw [e, e2]
    simp [rIn]

def rawS (n : Int) (l1 : List S61) (l2 : List S59) (l3 l4 : List Int) : Int × List Int × (List S56) × (List S56) × List Int × List Int × Int :=
  if checkS n l1 l2 l3 l4 = 0 then (n + l1.length + l2.length, rIn 2 n.toNat, rLat (2 * n + 2) l1, rAnd (2 * n + 2 * l1.length + 2) l2, l3, l4, 0)
  else (0, [], [], [], [], [], checkS n l1 l2 l3 l4)

theorem checkS_zero {n : Int} {l1 : List S61} {l2 : List S59} {l3 l4 : List Int} (h : checkS n l1 l2 l3 l4 = 0) : 0 ≤ n ∧ n ≤ 1000 := by
  unfold checkS at h
  by_cases c1 : n < 0
  · rw [if_pos c1] at h; cases h
  · rw [if_neg c1] at h
    by_cases c2 : 1000 < n
    · rw [if_pos c2] at h; cases h
    · exact ⟨by omega, by omega⟩

theorem orderRaw_eq (n : Int) (l1 : List S61) (l2 : List S59) (l3 l4 : List Int) (ha : l1.length ≤ 1000) (hb : l2.length ≤ 1000) (hc : l3.length ≤ 1000) (hd : l4.length ≤ 1000) (k : Nat) (hk : 5000 < k) :
    order_Raw.f k n l1 l2 l3 l4 = some (rawS n l1 l2 l3 l4) := by
  unfold order_Raw.f gates_Vars.f rawS
  by_cases c : checkS n l1 l2 l3 l4 = 0
  · rw [if_pos c, if_pos c]
    obtain ⟨h0, h1⟩ := checkS_zero c
    clear c
    obtain ⟨N, rfl⟩ := Int.eq_ofNat_of_zero_le h0
    have eg : wrap64 (gEnd (N : Int) l1.length l2.length - 1) = (N : Int) + l1.length + l2.length := by
      have e : gEnd (N : Int) l1.length l2.length = ((N : Int) + l1.length + l2.length) + 1 := by
        unfold gEnd gAnd gLat
        rw [wrap_step (n := 1 + (N : Int)) rfl (by omega) (by omega), wrap_step (n := 1 + (N : Int) + l1.length) rfl (by omega) (by omega), wrap_step rfl (by omega) (by omega)]; omega
      rw [e]
      exact wrap_step (by omega) (by omega) (by omega)
    rw [eg]
    clear eg
    unfold slices_Clone_int_int.f
    simp only [Option.bind_some]
    rw [if_pos trivial, if_pos (by omega), if_pos (by omega)]
    simp only [Option.bind_some]
    have := raw_l0 N l1 l2 l3 l4 ((N : Int) + l1.length + l2.length) l3 l4 (by omega) (by omega) (by omega) N 0 k 0 [] (by omega) (by omega) (by omega) (by omega) (by omega) (by simp; omega)
    simp only [List.nil_append, Int.zero_add] at this
    rw [Int.toNat_natCast]
    exact this
  · rw [if_neg c, if_neg c]
    simp only [Option.bind_some]
    rw [if_neg c]

theorem of_l2 (n : Int) (l1 : List S61) (l2 : List S59) (l3 l4 : List Int) (m : Int) (ins : List Int) (lat : List S56) (h3 : l3.length ≤ 1000000) (h4 : l4.length ≤ 1000000) (d : Nat) : ∀ (i k : Nat) (x : Int) (acc : List S56), l2.length - i = d → i ≤ l2.length → d < k → 0 ≤ x → x + d ≤ 1000000 → acc.length + d ≤ 1000000 → l2.length ≤ 1000000 →
    spiritlevelref03_Of.l2 k x (i : Int) n l1 l2 l3 l4 m ins lat acc = some (m, ins, lat, acc ++ rAnd (2 * x) (l2.drop i), l3, l4) := by
  induction d with
  | zero =>
    intro i k x acc hd hi hk h0 h1 ha hl
    obtain ⟨k, rfl⟩ : ∃ m, k = m + 1 := ⟨k - 1, by omega⟩
    have e : i = l2.length := by omega
    simp only [spiritlevelref03_Of.l2, Option.bind_some, List.length_nil, List.nil_append]
    rw [if_neg (by omega), if_pos (by omega), if_pos (by omega), e, List.drop_length]
    simp [rAnd]
  | succ d ih =>
    intro i k x acc hd hi hk h0 h1 ha hl
    obtain ⟨k, rfl⟩ : ∃ m, k = m + 1 := ⟨k - 1, by omega⟩
    have hlt : i < l2.length := by omega
    simp only [spiritlevelref03_Of.l2]
    rw [if_pos (by omega), if_pos (by omega), if_pos (by omega), rdA_drop hlt, wrap_step (n := x + 1) rfl (by omega) (by omega), wrap_step (n := (i : Int) + 1) (m := ((i + 1 : Nat) : Int)) (by omega) (by omega) (by omega), wrap_step (n := 2 * x) rfl (by omega) (by omega)]
    rw [ih (i + 1) k (x + 1) _ (by omega) (by omega) (by omega) (by omega) (by omega) (by simp; omega) hl]
    have e : 2 * (x + 1) = 2 * x + 2 := by omega
    rw [e]
    simp [rAnd]

theorem of_l1 (n : Int) (l1 : List S61) (l2 : List S59) (l3 l4 : List Int) (m : Int) (ins : List Int) (h3 : l3.length ≤ 1000000) (h4 : l4.length ≤ 1000000) (hl : l1.length ≤ 100000) (hl2 : l2.length ≤ 100000) (d : Nat) : ∀ (i k : Nat) (x : Int) (acc : List S56), l1.length - i = d → i ≤ l1.length → d + l2.length + 2 < k → 0 ≤ x → x + d + l2.length ≤ 1000000 → acc.length + d ≤ 1000000 →
    spiritlevelref03_Of.l1 k x (i : Int) n l1 l2 l3 l4 m ins acc = some (m, ins, acc ++ rLat (2 * x) (l1.drop i), rAnd (2 * (x + d)) l2, l3, l4) := by
  induction d with
  | zero =>
    intro i k x acc hd hi hk h0 h1 ha
    obtain ⟨k, rfl⟩ : ∃ m, k = m + 1 := ⟨k - 1, by omega⟩
    have e : i = l1.length := by omega
    simp only [spiritlevelref03_Of.l1]
    have := of_l2 n l1 l2 l3 l4 m ins acc h3 h4 l2.length 0 k x [] (by omega) (by omega) (by omega) h0 (by omega) (by simp; omega) (by omega)
    rw [if_neg (by omega), e, List.drop_length]
    simp only [List.drop_zero, List.nil_append] at this
    simp only [rLat, List.append_nil, Int.natCast_zero, Int.add_zero]
    exact this
  | succ d ih =>
    intro i k x acc hd hi hk h0 h1 ha
    obtain ⟨k, rfl⟩ : ∃ m, k = m + 1 := ⟨k - 1, by omega⟩
    have hlt : i < l1.length := by omega
    simp only [spiritlevelref03_Of.l1]
    rw [if_pos (by omega), if_pos (by omega), if_pos (by omega), rdL_drop hlt, wrap_step (n := x + 1) rfl (by omega) (by omega), wrap_step (n := (i : Int) + 1) (m := ((i + 1 : Nat) : Int)) (by omega) (by omega) (by omega), wrap_step (n := 2 * x) rfl (by omega) (by omega)]
    rw [ih (i + 1) k (x + 1) _ (by omega) (by omega) (by omega) (by omega) (by omega) (by simp; omega)]
    have e : 2 * (x + 1) = 2 * x + 2 := by omega
    have e2 : x + 1 + (d : Int) = x + ((d + 1 : Nat) : Int) := by omega
    rw [e, e2]
    simp [rLat]

theorem of_l0 (N : Nat) (l1 : List S61) (l2 : List S59) (l3 l4 : List Int) (m : Int) (h3 : l3.length ≤ 1000000) (h4 : l4.length ≤ 1000000) (hN : N ≤ 100000) (hl : l1.length ≤ 100000) (hl2 : l2.length ≤ 100000) (d : Nat) : ∀ (i k : Nat) (x : Int) (acc : List Int), N - i = d → i ≤ N → d + l1.length + l2.length + 5 < k → 0 ≤ x → x + d + l1.length + l2.length ≤ 1000000 → acc.length + d ≤ 1000000 →
    spiritlevelref03_Of.l0 k x (i : Int) (N : Int) l1 l2 l3 l4 m acc = some (m, acc ++ rIn (2 * x) d, rLat (2 * (x + d)) l1, rAnd (2 * (x + d + l1.length)) l2, l3, l4) := by
  induction d with
  | zero =>
    intro i k x acc hd hi hk h0 h1 ha
    obtain ⟨k, rfl⟩ : ∃ m, k = m + 1 := ⟨k - 1, by omega⟩
    simp only [spiritlevelref03_Of.l0]
    have := of_l1 (N : Int) l1 l2 l3 l4 m acc h3 h4 hl hl2 l1.length 0 k x [] (by omega) (by omega) (by omega) h0 (by omega) (by simp; omega)
    rw [if_neg (by omega)]
    simp only [List.drop_zero, List.nil_append] at this
    simp only [rIn, List.append_nil, Int.natCast_zero, Int.add_zero]
    exact this
  | succ d ih =>
    intro i k x acc hd hi hk h0 h1 ha
    obtain ⟨k, rfl⟩ : ∃ m, k = m + 1 := ⟨k - 1, by omega⟩
    simp only [spiritlevelref03_Of.l0]
    rw [if_pos (by omega), if_pos (by omega), wrap_step (n := x + 1) rfl (by omega) (by omega), wrap_step (n := (i : Int) + 1) (m := ((i + 1 : Nat) : Int)) (by omega) (by omega) (by omega), wrap_step (n := 2 * x) rfl (by omega) (by omega)]
    rw [ih (i + 1) k (x + 1) _ (by omega) (by omega) (by omega) (by omega) (by omega) (by simp; omega)]
    have e : 2 * (x + 1) = 2 * x + 2 := by omega
    have e2 : x + 1 + (d : Int) = x + ((d + 1 : Nat) : Int) := by omega
    rw [e, e2]
    simp [rIn]

theorem refRaw_eq (n : Int) (l1 : List S61) (l2 : List S59) (l3 l4 : List Int) (hn : I64 n) (ha : l1.length ≤ 1000) (hb : l2.length ≤ 1000) (hc : l3.length ≤ 1000) (hd : l4.length ≤ 1000) (hy : ∀ x ∈ l1, I64 x.f0) (hx : ∀ x ∈ l2, I64 x.f0 ∧ I64 x.f1) (h3 : ∀ x ∈ l3, I64 x) (h4 : ∀ x ∈ l4, I64 x) (k : Nat) (hk : 5000 < k) :
    spiritlevelref03_Raw.f k n l1 l2 l3 l4 = some (rawS n l1 l2 l3 l4) := by
  unfold spiritlevelref03_Raw.f rawS
  rw [refCheck_eq n l1 l2 l3 l4 hn ha hb hc hd hy hx h3 h4 k hk]
  simp only [Option.bind_some]
  by_cases c : checkS n l1 l2 l3 l4 = 0
  · rw [if_pos c, if_pos c]
    obtain ⟨h0, h1⟩ := checkS_zero c
    clear c
    obtain ⟨N, rfl⟩ := Int.eq_ofNat_of_zero_le h0
    unfold spiritlevelref03_Of.f spiritlevelref02_Size.f
    simp only [Option.bind_some]
    rw [wrap_step (n := (N : Int) + l1.length) rfl (by omega) (by omega), wrap_step (n := (N : Int) + l1.length + l2.length) rfl (by omega) (by omega)]
    have := of_l0 N l1 l2 l3 l4 ((N : Int) + l1.length + l2.length) (by omega) (by omega) (by omega) (by omega) (by omega) N 0 k 1 [] (by omega) (by omega) (by omega) (by omega) (by omega) (by simp; omega)
    have e1 : 2 * (1 + (N : Int)) = 2 * (N : Int) + 2 := by omega
    have e2 : 2 * (1 + (N : Int) + (l1.length : Int)) = 2 * (N : Int) + 2 * (l1.length : Int) + 2 := by omega
    rw [e1, e2] at this
    rw [Int.toNat_natCast]
    have e0 : ((0 : Nat) : Int) = 0 := rfl
    rw [e0] at this
    rw [this]
    rfl
  · rw [if_neg c, if_neg c]

theorem sameInts_l0 (l : List Int) (hl : l.length ≤ 1000000) (d : Nat) : ∀ (i k : Nat), l.length - i = d → i ≤ l.length → d < k → spiritlevelref02_SameInts.l0 k l l (i : Int) = some true := by
  induction d with
  | zero =>
    intro i k hd hi hk
    obtain ⟨k, rfl⟩ : ∃ m, k = m + 1 := ⟨k - 1, by omega⟩
    simp only [spiritlevelref02_SameInts.l0]
    rw [if_neg (by omega)]
  | succ d ih =>
    intro i k hd hi hk
    obtain ⟨k, rfl⟩ : ∃ m, k = m + 1 := ⟨k - 1, by omega⟩
    simp only [spiritlevelref02_SameInts.l0]
    rw [if_pos (by omega), if_pos (by omega), if_pos (by omega), if_pos trivial, wrap_step (n := (i : Int) + 1) (m := ((i + 1 : Nat) : Int)) (by omega) (by omega) (by omega)]
    exact ih (i + 1) k (by omega) (by omega) (by omega)
theorem sameInts_eq (l : List Int) (hl : l.length ≤ 1000000) (k : Nat) (hk : l.length < k) : spiritlevelref02_SameInts.f k l l = some true := by
  unfold spiritlevelref02_SameInts.f
  rw [if_pos rfl]
  exact sameInts_l0 l hl l.length 0 k (by omega) (by omega) hk

theorem sameDefines_l0 (l : List S56) (hl : l.length ≤ 1000000) (d : Nat) : ∀ (i k : Nat), l.length - i = d → i ≤ l.length → d < k → spiritlevelref03_sameDefines.l0 k l l (i : Int) = some true := by
  induction d with
  | zero =>
    intro i k hd hi hk
    obtain ⟨k, rfl⟩ : ∃ m, k = m + 1 := ⟨k - 1, by omega⟩
    simp only [spiritlevelref03_sameDefines.l0]
    rw [if_neg (by omega)]
  | succ d ih =>
    intro i k hd hi hk
    obtain ⟨k, rfl⟩ : ∃ m, k = m + 1 := ⟨k - 1, by omega⟩
    simp only [spiritlevelref03_sameDefines.l0]
    rw [if_pos (by omega), if_pos (by omega), if_pos (by omega), if_neg (by simp), wrap_step (n := (i : Int) + 1) (m := ((i + 1 : Nat) : Int)) (by omega) (by omega) (by omega)]
    exact ih (i + 1) k (by omega) (by omega) (by omega)
theorem sameDefines_eq (l : List S56) (hl : l.length ≤ 1000000) (k : Nat) (hk : l.length < k) : spiritlevelref03_sameDefines.f k l l = some true := by
  unfold spiritlevelref03_sameDefines.f
  rw [if_pos rfl]
  exact sameDefines_l0 l hl l.length 0 k (by omega) (by omega) hk

theorem sameRaw_eq (m : Int) (a : List Int) (b c : List S56) (d e : List Int) (k : Nat) (hk : k ≤ 1000000) (ha : a.length < k) (hb : b.length < k) (hc : c.length < k) (hd : d.length < k) (he : e.length < k) : spiritlevelref03_Same.f k m a b c d e m a b c d e = some true := by
  unfold spiritlevelref03_Same.f
  rw [if_pos rfl, sameInts_eq a (by omega) k ha, sameDefines_eq b (by omega) k hb, sameDefines_eq c (by omega) k hc, sameInts_eq d (by omega) k hd, sameInts_eq e (by omega) k he]
  rfl
end Go.Proofs.Ytpdlkjpemplhoaa.P
