/- Plain laws on numbers written as bytes, seven bits each (no program in sight). -/
import Derived.Laws.BitsLemmas
import Derived.RowKit
namespace Go.Proofs.YtamapbbfabkglaaE
open Go.RowKit

/-- The bytes of a number, the low seven bits first. -/
def enc (n : Nat) : List Int := if n < 128 then [(n : Int)] else ((n % 128 + 128 : Nat) : Int) :: enc (n / 128)
termination_by n
decreasing_by omega

theorem enc_small {n : Nat} (h : n < 128) : enc n = [(n : Int)] := by rw [enc, if_pos h]
theorem enc_big {n : Nat} (h : ¬ n < 128) : enc n = ((n % 128 + 128 : Nat) : Int) :: enc (n / 128) := by rw [enc, if_neg h]

theorem enc_ne (n : Nat) : enc n ≠ [] := by
  by_cases h : n < 128
  · simp [enc_small h]
  · simp [enc_big h]

theorem enc_len_le (n : Nat) : (enc n).length ≤ n + 1 := by
  induction n using Nat.strongRecOn with
  | _ n ih =>
    by_cases h : n < 128
    · simp [enc_small h]
    · have := ih (n / 128) (by omega)
      rw [enc_big h, List.length_cons]; omega

/-- How many bytes, by powers of 128. -/
theorem enc_len_pow (d : Nat) : ∀ n, n < 128 ^ (d + 1) → (enc n).length ≤ d + 1 := by
  induction d with
  | zero => intro n h; simp at h; simp [enc_small h]
  | succ d ih =>
    intro n h
    by_cases h' : n < 128
    · simp [enc_small h']
    · have hp : n / 128 < 128 ^ (d + 1) := by
        rw [Nat.div_lt_iff_lt_mul (by decide)]; rw [Nat.pow_succ] at h; exact h
      have := ih _ hp
      rw [enc_big h', List.length_cons]; omega

theorem enc_len5 (n : Nat) (h : n ≤ 2147483647) : (enc n).length ≤ 5 := by
  have e : (128 : Nat) ^ (4 + 1) = 34359738368 := by decide
  exact enc_len_pow 4 n (by rw [e]; omega)

theorem enc_byte (n : Nat) : ∀ x ∈ enc n, 0 ≤ x ∧ x < 256 := by
  induction n using Nat.strongRecOn with
  | _ n ih =>
    by_cases h : n < 128
    · simp [enc_small h]; omega
    · rw [enc_big h]
      intro x hx
      rcases List.mem_cons.mp hx with rfl | hx
      · omega
      · exact ih (n / 128) (by omega) x hx

/-- What stands for a number at the beginning of bytes: the number, how many bytes, the error; i bytes were read, they come to acc. -/
def readGo (i : Nat) (acc : Int) : List Int → Int × Int × Int
  | [] => if i < 5 then (0, 0, 6) else (0, 0, 16)
  | c :: r =>
    if i = 5 then (0, 0, 16)
    else if c ≥ 128 then readGo (i + 1) (acc + c % 128 * 128 ^ i) r
    else if acc + c % 128 * 128 ^ i > 2147483647 then (0, 0, 16)
    else if c = 0 ∧ i > 0 then (0, 0, 12)
    else (acc + c % 128 * 128 ^ i, (i : Int) + 1, 0)

def readS (b : List Int) : Int × Int × Int := readGo 0 0 b

def writeS (n : Int) : List Int × Int := if n < 0 ∨ n > 2147483647 then ([], 2) else (enc n.toNat, 0)

theorem wrap_id {n : Int} (h0 : -9223372036854775808 ≤ n) (h1 : n ≤ 9223372036854775807) : wrap64 n = n := by unfold wrap64; omega
theorem i64_wrap_id {n : Int} (h0 : -9223372036854775808 ≤ n) (h1 : n ≤ 9223372036854775807) : IntKind.i64.wrap n = n := by rw [IntKind.wrap_i64]; omega

theorem or128 {x : Int} (h0 : 0 ≤ x) (h1 : x < 256) : Go.bits .or .u8 x 128 = 128 + x % 128 := by
  have e : ∀ m : Fin 256, m.val ||| 128 = 128 + m.val % 128 := by decide +kernel
  obtain ⟨m, rfl⟩ := Int.eq_ofNat_of_zero_le h0
  have h := (Go.bits_nat .u8 8 (by decide) Go.wraps_u8 m 128 (by omega) (by omega)).2
  have h2 := e ⟨m, by omega⟩
  simp only at h2
  rw [h2] at h
  have h3 : ((128 : Nat) : Int) = 128 := rfl
  rw [h3] at h
  rw [h]; omega

theorem and127 {x : Int} (h0 : 0 ≤ x) (h1 : x < 256) : Go.bits .and .u8 x 127 = x % 128 := by
  exact Go.bits_mask .u8 8 (by decide) Go.wraps_u8 7 (by decide) x h0 h1

end Go.Proofs.YtamapbbfabkglaaE
