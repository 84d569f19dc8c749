/- What the functions on numbers as bytes come to (deltas.Write, deltas.Read and the reference's). -/
import Derived.Test.YtamapbbfabkglaaFDeltasWrite
import Derived.Test.YtamapbbfabkglaaFDeltasRead
import Derived.Test.YtamapbbfabkglaaFRef09Bytes
import Derived.Test.YtamapbbfabkglaaFRef09Write
import Derived.Test.YtamapbbfabkglaaFRef09Read
import Derived.Test.YtamapbbfabkglaaEnc
namespace Go.Proofs.Ytamapbbfabkglaa.P
open Go.RowKit Go.Proofs.YtamapbbfabkglaaW.PrintWords Go.Proofs.YtamapbbfabkglaaW.PrintLast Go.Proofs.YtamapbbfabkglaaW.PrintMore Go.Proofs.YtamapbbfabkglaaE

theorem write_l0 (n : Nat) : ∀ (x4 : List Int) (k : Nat), n < k → x4.length + n < 140737488355328 →
    deltas_Write.l0 k (n : Int) x4 = some (x4 ++ enc n, 0) := by
  induction n using Nat.strongRecOn with
  | _ n ih =>
    intro x4 k hk hl
    obtain ⟨k, rfl⟩ : ∃ m, k = m + 1 := ⟨k - 1, by omega⟩
    simp only [deltas_Write.l0]
    by_cases h : n < 128
    · rw [if_neg (by omega), if_pos (by omega), enc_small h]
      have : (n : Int) % 256 = n := by omega
      rw [this]
    · have h1 : (n : Int) / 128 = ((n / 128 : Nat) : Int) := by omega
      have h2 : Go.bits .or .u8 ((n : Int) % 256) 128 = ((n % 128 + 128 : Nat) : Int) := by
        rw [or128 (by omega) (by omega)]; omega
      rw [if_pos (by omega), if_pos (by omega), h1, h2, ih (n / 128) (by omega) _ k (by omega) (by simp; omega), enc_big h]
      simp

theorem write_eq (n : Int) (k : Nat) (hk : n.toNat + 1 < k) : deltas_Write.f k n = some (writeS n) := by
  obtain ⟨k, rfl⟩ : ∃ m, k = m + 1 := ⟨k - 1, by omega⟩
  unfold deltas_Write.f writeS
  by_cases h0 : n < 0
  · rw [if_pos h0, if_pos (.inl h0)]; simp [deltas_Write.j0]
  · rw [if_neg h0]
    by_cases h1 : n > 2147483647
    · rw [if_pos (.inr h1)]; simp [deltas_Write.j0, h1]
    · rw [if_neg (by omega)]
      obtain ⟨m, rfl⟩ := Int.eq_ofNat_of_zero_le (show 0 ≤ n by omega)
      have hm : ((m : Int) > 2147483647) = False := by simp; omega
      simp only [deltas_Write.j0, hm, decide_false, Bool.false_eq_true, if_false]
      rw [write_l0 m [] k (by simp at hk; omega) (by simp; omega)]
      simp

theorem bytes_eq (n : Nat) : ∀ (k : Nat), n < k → n < 140737488355320 → spiritlevelref09_Bytes.f k (n : Int) = some (enc n) := by
  induction n using Nat.strongRecOn with
  | _ n ih =>
    intro k hk hl
    obtain ⟨k, rfl⟩ : ∃ m, k = m + 1 := ⟨k - 1, by omega⟩
    simp only [spiritlevelref09_Bytes.f]
    by_cases h : n < 128
    · rw [if_pos (by omega), enc_small h]
      have : (n : Int) % 256 = n := by omega
      rw [this]
    · have h1 : Int.tdiv (n : Int) 128 = ((n / 128 : Nat) : Int) := by
        rw [Int.tdiv_eq_ediv_of_nonneg (by omega)]; omega
      have h2 : Int.tmod (n : Int) 128 = ((n % 128 : Nat) : Int) := by
        rw [Int.tmod_eq_emod_of_nonneg (by omega)]; omega
      have h3 : wrap64 (128 + ((n % 128 : Nat) : Int)) % 256 = ((n % 128 + 128 : Nat) : Int) := by
        rw [wrap_id (by omega) (by omega)]; omega
      have h4 : wrap64 ((n / 128 : Nat) : Int) = ((n / 128 : Nat) : Int) := wrap_id (by omega) (by omega)
      have h5 := enc_len_le (n / 128)
      rw [if_neg (by omega), h1, h2, h3, h4]
      simp only [Option.bind_some]
      rw [ih (n / 128) (by omega) k (by omega) (by omega)]
      simp only [Option.bind_some]
      rw [if_pos (by simp; omega), enc_big h]
      simp

theorem refWrite_eq (n : Int) (k : Nat) (hk : n.toNat + 1 < k) : spiritlevelref09_Write.f k n = some (writeS n) := by
  unfold spiritlevelref09_Write.f writeS
  by_cases h0 : n < 0
  · rw [if_pos h0, if_pos (.inl h0)]
  · rw [if_neg h0]
    by_cases h1 : n > 2147483647
    · rw [if_pos h1, if_pos (.inr h1)]
    · rw [if_neg h1, if_neg (by omega)]
      obtain ⟨m, rfl⟩ := Int.eq_ofNat_of_zero_le (show 0 ≤ n by omega)
      rw [bytes_eq m k (by simp at hk; omega) (by omega)]
      simp

/-- Bytes. -/
def Bytes (b : List Int) : Prop := ∀ x ∈ b, 0 ≤ x ∧ x < 256

theorem bytes_wf {b : List Int} (h : ∀ x ∈ b, (Lit.int .u8 x).wf = true) : Bytes b := by
  intro x hx
  have := h x hx
  simp [Lit.wf, IntKind.min, IntKind.max, IntKind.bits, IntKind.signed] at this
  omega

theorem rd_drop {b : List Int} {i : Nat} (h : i < b.length) : b.drop i = rd b i :: b.drop (i + 1) := by
  rw [List.drop_eq_getElem_cons h]
  simp [rd, h]

theorem rd_mem {b : List Int} {i : Nat} (h : i < b.length) : rd b i ∈ b := by
  have : rd b i = b[i] := by simp [rd, h]
  rw [this]; exact List.getElem_mem h

theorem pow128 (i : Nat) : (128 : Int) ^ i = 2 ^ (7 * i) := by
  rw [Int.pow_mul]; rfl

theorem pow_le {i : Nat} (h : i < 5) : (1 : Int) ≤ 128 ^ i ∧ (128 : Int) ^ i ≤ 268435456 := by
  have : ∀ i : Fin 5, (1 : Int) ≤ 128 ^ i.val ∧ (128 : Int) ^ i.val ≤ 268435456 := by decide
  exact this ⟨i, h⟩

/-- One byte more. -/
theorem join_byte {acc c : Int} {i : Nat} (hi : i < 5) (ha : 0 ≤ acc) (ha' : acc < 128 ^ i) (hc : 0 ≤ c) (hc' : c < 256) :
    Go.bits .or .i64 acc (shl .i64 (wrap64 (Go.bits .and .u8 c 127)) (wrap64 (7 * (i : Int)))) = acc + c % 128 * 128 ^ i := by
  obtain ⟨hp, hq⟩ := pow_le hi
  have h7 : wrap64 (7 * (i : Int)) = ((7 * i : Nat) : Int) := by rw [wrap_id (by omega) (by omega)]; omega
  have hm : 0 ≤ c % 128 * 128 ^ i := Int.mul_nonneg (by omega) (by omega)
  have hb : c % 128 * 128 ^ i ≤ 127 * 268435456 := Int.mul_le_mul (by omega) hq (by omega) (by omega)
  have hs : shl .i64 (wrap64 (Go.bits .and .u8 c 127)) ((7 * i : Nat) : Int) = c % 128 * 128 ^ i := by
    rw [and127 hc hc', wrap_id (by omega) (by omega)]
    unfold shl
    have hmin : min ((7 * i : Nat) : Int).toNat IntKind.i64.bits = 7 * i := by
      simp only [Int.toNat_natCast, IntKind.bits]; omega
    rw [hmin, ← pow128 i, i64_wrap_id (by omega) (by omega)]
  rw [h7, hs]
  rw [pow128 i] at *
  have hcomm : Go.bits .or .i64 acc (c % 128 * 2 ^ (7 * i)) = Go.bits .or .i64 (c % 128 * 2 ^ (7 * i)) acc := by
    simp only [Go.bits, BitVec.or_comm]
  have e40 : (2 : Int) ^ 40 = 1099511627776 := by decide
  rw [hcomm, Go.bits_join .i64 40 (by decide) (fun n h0 h1 => i64_wrap_id (by omega) (by rw [e40] at h1; omega)) (7 * i) _ _ hm (Int.mul_emod_left _ _) (by rw [e40]; omega) ha ha' (by rw [e40]; omega)]
  omega

theorem acc_next {acc c : Int} {i : Nat} (ha : 0 ≤ acc) (ha' : acc < 128 ^ i) : 0 ≤ acc + c % 128 * 128 ^ i ∧ acc + c % 128 * 128 ^ i < 128 ^ (i + 1) := by
  have hp : (0 : Int) ≤ 128 ^ i := Int.le_of_lt (Int.lt_of_le_of_lt ha ha')
  have h0 : 0 ≤ c % 128 * 128 ^ i := Int.mul_nonneg (by omega) hp
  have h1 : c % 128 * 128 ^ i ≤ 127 * 128 ^ i := Int.mul_le_mul_of_nonneg_right (by omega) hp
  rw [Int.pow_succ]
  omega

theorem read_l0 (b : List Int) (hb : Bytes b) (hm : b.length ≤ 9223372036854775807) (d : Nat) : ∀ (i : Nat) (acc : Int) (k : Nat), b.length - i = d → i ≤ b.length → i ≤ 5 → 0 ≤ acc → acc < 128 ^ i → d < k →
    deltas_Read.l0 k b acc b (b.length : Int) (i : Int) = some (readGo i acc (b.drop i)) := by
  induction d with
  | zero =>
    intro i acc k hd hi h5 ha ha' hk
    obtain ⟨k, rfl⟩ : ∃ m, k = m + 1 := ⟨k - 1, by omega⟩
    have hi' : i = b.length := by omega
    simp only [deltas_Read.l0]
    rw [if_neg (by omega), hi', List.drop_length]
    simp only [readGo]
    by_cases h : b.length < 5
    · rw [if_pos (by omega), if_pos h]
    · rw [if_neg (by omega), if_neg h]
  | succ d ih =>
    intro i acc k hd hi h5 ha ha' hk
    obtain ⟨k, rfl⟩ : ∃ m, k = m + 1 := ⟨k - 1, by omega⟩
    have hlt : i < b.length := by omega
    simp only [deltas_Read.l0]
    rw [if_pos (by omega), if_pos (by omega), if_pos (by omega), rd_drop hlt]
    simp only [readGo]
    by_cases e5 : i = 5
    · rw [if_pos (by omega), if_pos e5, if_neg (by omega)]
    · obtain ⟨hc, hc'⟩ := hb _ (rd_mem hlt)
      have hw : wrap64 ((i : Int) + 1) = ((i + 1 : Nat) : Int) := by rw [wrap_id (by omega) (by omega)]; omega
      have h70 : 0 ≤ wrap64 (7 * (i : Int)) := by rw [wrap_id (by omega) (by omega)]; omega
      obtain ⟨ha1, ha2⟩ := acc_next (c := rd b i) ha ha'
      rw [if_neg (by omega), if_pos h70, if_neg e5, join_byte (by omega) ha ha' hc hc', hw]
      by_cases h128 : rd b (i : Int) ≥ 128
      · rw [if_pos h128, if_pos h128, ih (i + 1) _ k (by omega) (by omega) (by omega) ha1 ha2 (by omega)]
      · rw [if_neg h128, if_neg h128]
        by_cases hbig : acc + rd b (i : Int) % 128 * 128 ^ i > 2147483647
        · rw [if_pos hbig, if_pos hbig]
        · rw [if_neg hbig, if_neg hbig]
          by_cases hz : rd b (i : Int) = 0
          · rw [if_pos hz]
            by_cases hi0 : i > 0
            · rw [if_pos (by omega), if_pos ⟨hz, hi0⟩]
            · rw [if_neg (by omega), if_neg (fun h => hi0 h.2)]; simp
          · rw [if_neg hz, if_neg (fun h => hz h.1)]; simp

theorem read_eq (b : List Int) (hb : Bytes b) (hm : b.length ≤ 9223372036854775807) (k : Nat) (hk : b.length < k) : deltas_Read.f k b = some (readS b) := by
  unfold deltas_Read.f readS
  have := read_l0 b hb hm b.length 0 0 k (by omega) (by omega) (by omega) (by omega) (by simp) hk
  simpa using this

/-- What the first i bytes come to. -/
def val (b : List Int) : Nat → Int
  | 0 => 0
  | i + 1 => val b i + rd b (i : Int) % 128 * 128 ^ i

theorem val_range (b : List Int) : ∀ i, 0 ≤ val b i ∧ val b i < 128 ^ i
  | 0 => by simp [val]
  | i + 1 => acc_next (val_range b i).1 (val_range b i).2

def refEnd (b : List Int) (s : Nat) : Int × Int × Int :=
  if val b (s + 1) > 2147483647 then (0, 0, 16) else if (s : Int) > 0 ∧ rd b (s : Int) = 0 then (0, 0, 12) else (val b (s + 1), (s : Int) + 1, 0)

theorem ref_l1 (b : List Int) (hb : Bytes b) (hm : b.length ≤ 9223372036854775807) (s : Nat) (hs : s < b.length) (h5 : s < 5) (m : Nat) : ∀ (n : Int) (k : Nat), m ≤ s + 1 → m < k → 0 ≤ n →
    n * 128 ^ m + val b m = val b (s + 1) → spiritlevelref09_Read.l1 k b (s : Int) n ((m : Int) - 1) = some (refEnd b s) := by
  have htot := val_range b (s + 1)
  have h5' : (128 : Int) ^ (s + 1) ≤ 34359738368 := by
    have : ∀ i : Fin 5, (128 : Int) ^ (i.val + 1) ≤ 34359738368 := by decide
    exact this ⟨s, h5⟩
  induction m with
  | zero =>
    intro n k _ hk h0 hv
    obtain ⟨k, rfl⟩ : ∃ m, k = m + 1 := ⟨k - 1, by omega⟩
    have hn : n = val b (s + 1) := by simpa [val] using hv
    subst hn
    have hw : wrap64 ((s : Int) + 1) = (s : Int) + 1 := wrap_id (by omega) (by omega)
    simp only [spiritlevelref09_Read.l1]
    rw [if_neg (by omega), hw]
    unfold refEnd
    by_cases hbig : val b (s + 1) > 2147483647
    · rw [if_pos hbig, if_pos hbig]
    · rw [if_neg hbig, if_neg hbig]
      by_cases hs0 : (s : Int) > 0
      · rw [if_pos hs0, if_pos (by omega), if_pos (by omega)]
        by_cases hz : rd b (s : Int) = 0
        · rw [if_pos hz, if_pos ⟨hs0, hz⟩]
        · rw [if_neg hz, if_neg (fun h => hz h.2)]
      · rw [if_neg hs0, if_neg (fun h => hs0 h.1)]
  | succ m ih =>
    intro n k hms hk h0 hv
    obtain ⟨k, rfl⟩ : ∃ m, k = m + 1 := ⟨k - 1, by omega⟩
    have hi : ((m + 1 : Nat) : Int) - 1 = (m : Int) := by omega
    have hlt : m < b.length := by omega
    obtain ⟨hc, hc'⟩ := hb _ (rd_mem hlt)
    have hp : (1 : Int) ≤ 128 ^ m := by
      have : (0 : Int) < 128 ^ m := Int.pow_pos (by decide)
      omega
    have hvm := val_range b (m + 1)
    have hpm : (128 : Int) ^ (m + 1) = 128 ^ m * 128 := Int.pow_succ _ _
    have hnle : n ≤ 34359738368 := by
      have h1 : n * 1 ≤ n * 128 ^ (m + 1) := Int.mul_le_mul_of_nonneg_left (by omega) h0
      omega
    simp only [spiritlevelref09_Read.l1]
    rw [hi, if_pos (by omega), if_pos (by omega), if_pos (by omega)]
    have e1 : wrap64 (rd b (m : Int)) = rd b (m : Int) := wrap_id (by omega) (by omega)
    have e2 : Int.tmod (rd b (m : Int)) 128 = rd b (m : Int) % 128 := Int.tmod_eq_emod_of_nonneg hc
    have e3 : wrap64 (n * 128) = n * 128 := wrap_id (by omega) (by omega)
    have e4 : wrap64 (n * 128 + rd b (m : Int) % 128) = n * 128 + rd b (m : Int) % 128 := wrap_id (by omega) (by omega)
    have e5 : wrap64 ((m : Int) - 1) = (m : Int) - 1 := wrap_id (by omega) (by omega)
    rw [e1, e2, e3, e4, e5]
    refine ih _ k (by omega) (by omega) (by omega) ?_
    rw [← hv, hpm]
    simp only [val]
    have e6 : (n * 128 + rd b (m : Int) % 128) * 128 ^ m = n * (128 ^ m * 128) + rd b (m : Int) % 128 * 128 ^ m := by
      rw [Int.add_mul, Int.mul_assoc, Int.mul_comm 128 (128 ^ m)]
    omega

theorem ref_l0 (b : List Int) (hb : Bytes b) (hm : b.length ≤ 9223372036854775807) (d : Nat) : ∀ (i : Nat) (k : Nat), b.length - i = d → i ≤ b.length → i ≤ 5 → (∀ j : Nat, j < i → rd b (j : Int) ≥ 128) → d + 10 < k →
    spiritlevelref09_Read.l0 k b (i : Int) = some (readGo i (val b i) (b.drop i)) := by
  induction d with
  | zero =>
    intro i k hd hi h5 _ hk
    obtain ⟨k, rfl⟩ : ∃ m, k = m + 1 := ⟨k - 1, by omega⟩
    have hi' : i = b.length := by omega
    simp only [spiritlevelref09_Read.l0]
    rw [if_neg (by omega)]
    obtain ⟨k, rfl⟩ : ∃ m, k = m + 1 := ⟨k - 1, by omega⟩
    simp only [spiritlevelref09_Read.j1]
    rw [hi', List.drop_length]
    simp only [readGo]
    by_cases h : b.length < 5
    · rw [if_neg (by omega), if_pos (by simp), if_pos h]
    · rw [if_pos (by omega), if_neg h]
  | succ d ih =>
    intro i k hd hi h5 hall hk
    obtain ⟨k, rfl⟩ : ∃ m, k = m + 1 := ⟨k - 1, by omega⟩
    have hlt : i < b.length := by omega
    simp only [spiritlevelref09_Read.l0]
    rw [if_pos (by omega), rd_drop hlt]
    simp only [readGo]
    by_cases e5 : i = 5
    · rw [if_neg (by omega), if_pos e5]
      obtain ⟨k, rfl⟩ : ∃ m, k = m + 1 := ⟨k - 1, by omega⟩
      simp only [spiritlevelref09_Read.j1]
      rw [if_pos (by omega)]
    · rw [if_pos (by omega), if_pos (by omega), if_neg e5]
      have hw : wrap64 ((i : Int) + 1) = ((i + 1 : Nat) : Int) := by rw [wrap_id (by omega) (by omega)]; omega
      by_cases h128 : rd b (i : Int) ≥ 128
      · rw [if_pos h128, if_pos h128, hw, ih (i + 1) k (by omega) (by omega) (by omega) ?_ (by omega)]
        · simp only [val]
        · intro j hj
          by_cases e : j = i
          · rw [e]; exact h128
          · exact hall j (by omega)
      · rw [if_neg h128, if_neg h128]
        obtain ⟨k, rfl⟩ : ∃ m, k = m + 1 := ⟨k - 1, by omega⟩
        simp only [spiritlevelref09_Read.j1]
        rw [if_neg (by omega), if_neg (by omega)]
        have := ref_l1 b hb hm i hlt (by omega) (i + 1) 0 k (by omega) (by omega) (by omega) (by simp)
        have e : ((i + 1 : Nat) : Int) - 1 = (i : Int) := by omega
        rw [e] at this
        rw [this]
        unfold refEnd
        have hv : val b i + rd b (i : Int) % 128 * 128 ^ i = val b (i + 1) := rfl
        rw [hv]
        by_cases hbig : val b (i + 1) > 2147483647
        · rw [if_pos hbig, if_pos hbig]
        · rw [if_neg hbig, if_neg hbig]
          by_cases hz : rd b (i : Int) = 0 ∧ i > 0
          · rw [if_pos (⟨by omega, hz.1⟩), if_pos hz]
          · rw [if_neg (fun h => hz ⟨h.2, by omega⟩), if_neg hz]

theorem refRead_eq (b : List Int) (hb : Bytes b) (hm : b.length ≤ 9223372036854775807) (k : Nat) (hk : b.length + 10 < k) : spiritlevelref09_Read.f k b = some (readS b) := by
  unfold spiritlevelref09_Read.f readS
  have := ref_l0 b hb hm b.length 0 k (by omega) (by omega) (by omega) (by omega) hk
  simpa [val] using this

theorem readGo_range (l : List Int) : ∀ (i : Nat) (acc : Int), 0 ≤ acc → i ≤ 5 →
    ((readGo i acc l).2.2 = 0 ∧ 0 ≤ (readGo i acc l).1 ∧ (readGo i acc l).1 ≤ 2147483647 ∧ (i : Int) < (readGo i acc l).2.1 ∧ (readGo i acc l).2.1 ≤ (i : Int) + l.length ∧ (readGo i acc l).2.1 ≤ 5) ∨
    ((readGo i acc l).1 = 0 ∧ (readGo i acc l).2.1 = 0 ∧ 0 < (readGo i acc l).2.2) := by
  induction l with
  | nil =>
    intro i acc _ _
    simp only [readGo]
    by_cases h : i < 5
    · rw [if_pos h]; exact .inr ⟨rfl, rfl, by decide⟩
    · rw [if_neg h]; exact .inr ⟨rfl, rfl, by decide⟩
  | cons c r ih =>
    intro i acc ha hi
    have hp : (0 : Int) < 128 ^ i := Int.pow_pos (by decide)
    have hm : 0 ≤ c % 128 * 128 ^ i := Int.mul_nonneg (by omega) (by omega)
    simp only [readGo]
    by_cases h5 : i = 5
    · rw [if_pos h5]; exact .inr ⟨rfl, rfl, by decide⟩
    · rw [if_neg h5]
      by_cases h1 : c ≥ 128
      · rw [if_pos h1]
        rcases ih (i + 1) _ (by omega : 0 ≤ acc + c % 128 * 128 ^ i) (by omega) with h | h
        · left
          obtain ⟨a1, a2, a3, a4, a5, a6⟩ := h
          refine ⟨a1, a2, a3, by omega, ?_, a6⟩
          simp only [List.length_cons]; omega
        · exact .inr h
      · rw [if_neg h1]
        by_cases h2 : acc + c % 128 * 128 ^ i > 2147483647
        · rw [if_pos h2]; exact .inr ⟨rfl, rfl, by decide⟩
        · rw [if_neg h2]
          by_cases h3 : c = 0 ∧ i > 0
          · rw [if_pos h3]; exact .inr ⟨rfl, rfl, by decide⟩
          · rw [if_neg h3]
            left
            refine ⟨rfl, by dsimp only; omega, by dsimp only; omega, by dsimp only; omega, ?_, by dsimp only; omega⟩
            simp only [List.length_cons]; omega

theorem readS_range (l : List Int) :
    ((readS l).2.2 = 0 ∧ 0 ≤ (readS l).1 ∧ (readS l).1 ≤ 2147483647 ∧ 0 < (readS l).2.1 ∧ (readS l).2.1 ≤ l.length ∧ (readS l).2.1 ≤ 5) ∨
    ((readS l).1 = 0 ∧ (readS l).2.1 = 0 ∧ 0 < (readS l).2.2) := by
  have := readGo_range l 0 0 (by omega) (by omega)
  simpa [readS] using this

/-- What is written is read, whatever stands behind it. -/
theorem readGo_enc (rest : List Int) (n : Nat) : ∀ (i : Nat) (acc : Int), (enc n).length + i ≤ 5 → (i > 0 → n > 0) → 0 ≤ acc → acc + n * 128 ^ i ≤ 2147483647 →
    readGo i acc (enc n ++ rest) = (acc + n * 128 ^ i, (i : Int) + (enc n).length, 0) := by
  induction n using Nat.strongRecOn with
  | _ n ih =>
    intro i acc hl hn ha hb
    have hp : (0 : Int) < 128 ^ i := Int.pow_pos (by decide)
    by_cases h : n < 128
    · rw [enc_small h] at hl ⊢
      simp only [List.length_cons, List.length_nil] at hl
      simp only [List.cons_append, List.nil_append, readGo]
      have hm : (n : Int) % 128 = n := by omega
      rw [if_neg (by omega), if_neg (by omega), hm, if_neg (by omega), if_neg (by omega)]
      simp
    · have hpos : 0 < (enc (n / 128)).length := List.length_pos_iff.mpr (enc_ne _)
      have hs : ((n % 128 + 128 : Nat) : Int) % 128 = ((n % 128 : Nat) : Int) := by omega
      have hnn : (n : Int) = ((n % 128 : Nat) : Int) + ((n / 128 : Nat) : Int) * 128 := by omega
      have hpow : (128 : Int) ^ (i + 1) = 128 ^ i * 128 := Int.pow_succ _ _
      have hval : acc + ((n % 128 : Nat) : Int) * 128 ^ i + ((n / 128 : Nat) : Int) * 128 ^ (i + 1) = acc + (n : Int) * 128 ^ i := by
        rw [hpow, hnn, Int.add_mul, Int.mul_assoc, Int.mul_comm (128 ^ i) 128]
        have : (((n % 128 : Nat) : Int) + ((n / 128 : Nat) : Int) * 128).toNat = n := by omega
        omega
      have h0 : 0 ≤ ((n % 128 : Nat) : Int) * 128 ^ i := Int.mul_nonneg (by omega) (by omega)
      rw [enc_big h] at hl ⊢
      simp only [List.length_cons] at hl
      simp only [List.cons_append, readGo]
      rw [if_neg (by omega), if_pos (by omega), hs, ih (n / 128) (by omega) (i + 1) _ (by omega) (by omega) (by omega) (by rw [hval]; exact hb), hval]
      simp only [List.length_cons]
      congr 2
      omega

theorem readS_enc (n : Nat) (h : n ≤ 2147483647) (rest : List Int) : readS (enc n ++ rest) = ((n : Int), ((enc n).length : Int), 0) := by
  have := readGo_enc rest n 0 0 (by have := enc_len5 n h; omega) (by omega) (by omega) (by simp; omega)
  simpa [readS] using this

/-- What is read has just the bytes of which it is. -/
theorem enc_readGo (l : List Int) (hl : Bytes l) : ∀ (i : Nat) (acc : Int), 0 ≤ acc → acc < 128 ^ i → (readGo i acc l).2.2 = 0 →
    ∃ m : Nat, (readGo i acc l).1 = acc + m * 128 ^ i ∧ (i > 0 → m > 0) ∧ enc m = l.take ((readGo i acc l).2.1 - i).toNat ∧ (i : Int) < (readGo i acc l).2.1 := by
  induction l with
  | nil =>
    intro i acc _ _ h
    simp only [readGo] at h
    by_cases h5 : i < 5
    · rw [if_pos h5] at h; simp at h
    · rw [if_neg h5] at h; simp at h
  | cons c r ih =>
    intro i acc ha ha' h
    have hc := hl c (List.mem_cons_self)
    obtain ⟨ha1, ha2⟩ := acc_next (c := c) ha ha'
    simp only [readGo] at h ⊢
    by_cases h5 : i = 5
    · rw [if_pos h5] at h; simp at h
    · rw [if_neg h5] at h ⊢
      by_cases h1 : c ≥ 128
      · rw [if_pos h1] at h ⊢
        obtain ⟨m, e1, e2, e3, e4⟩ := ih (fun x hx => hl x (List.mem_cons_of_mem _ hx)) (i + 1) _ ha1 ha2 h
        refine ⟨(c.toNat % 128) + 128 * m, ?_, fun _ => by have := e2 (by omega); omega, ?_, by omega⟩
        · rw [e1, Int.pow_succ]
          have hx : (((c.toNat % 128) + 128 * m : Nat) : Int) = c % 128 + 128 * (m : Int) := by omega
          rw [hx, Int.add_mul, Int.mul_comm (128 ^ i) 128, ← Int.mul_assoc, Int.mul_comm (m : Int) 128]
          omega
        · have hb : ¬ (c.toNat % 128) + 128 * m < 128 := by have := e2 (by omega); omega
          have hd : ((c.toNat % 128) + 128 * m) / 128 = m := by omega
          have hm : (((c.toNat % 128) + 128 * m) % 128 + 128 : Nat) = c.toNat := by omega
          rw [enc_big hb, hd, hm, e3]
          have ht : ((readGo (i + 1) (acc + c % 128 * 128 ^ i) r).2.1 - (i : Int)).toNat = ((readGo (i + 1) (acc + c % 128 * 128 ^ i) r).2.1 - ((i + 1 : Nat) : Int)).toNat + 1 := by omega
          rw [ht, List.take_succ_cons]
          have : ((c.toNat : Nat) : Int) = c := by omega
          rw [this]
      · rw [if_neg h1] at h ⊢
        by_cases h2 : acc + c % 128 * 128 ^ i > 2147483647
        · rw [if_pos h2] at h; simp at h
        · rw [if_neg h2] at h ⊢
          by_cases h3 : c = 0 ∧ i > 0
          · rw [if_pos h3] at h; simp at h
          · rw [if_neg h3]
            refine ⟨c.toNat, ?_, fun hi => ?_, ?_, by dsimp only; omega⟩
            · have : c % 128 = ((c.toNat : Nat) : Int) := by omega
              dsimp only
              rw [this]
            · have : c ≠ 0 := fun e => h3 ⟨e, hi⟩
              omega
            · have e1 : ((i : Int) + 1 - (i : Int)).toNat = 1 := by omega
              rw [enc_small (by omega)]
              dsimp only
              rw [e1]
              have : ((c.toNat : Nat) : Int) = c := by omega
              rw [this]
              rfl

theorem enc_readS (l : List Int) (hl : Bytes l) (h : (readS l).2.2 = 0) : enc (readS l).1.toNat = l.take (readS l).2.1.toNat := by
  obtain ⟨m, e1, _, e3, _⟩ := enc_readGo l hl 0 0 (by omega) (by simp) (by simpa [readS] using h)
  have e4 : (readS l).1 = (m : Int) := by simpa [readS] using e1
  rw [e4, Int.toNat_natCast, e3]
  simp [readS]

end Go.Proofs.Ytamapbbfabkglaa.P
