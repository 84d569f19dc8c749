/- A number with more bytes is greater, the last byte alone is less than 128, and without the last one there is no number. -/
import Derived.Test.YtamapbbfabkglaaLem
import Derived.Test.YtamapbbfabkglaaFLaw09DeltasMore
namespace Go.Proofs.Ytamapbbfabkglaa.Pure
open Go.RowKit Go.Proofs.Ytamapbbfabkglaa.P Go.Proofs.YtamapbbfabkglaaW.PrintWords Go.Proofs.YtamapbbfabkglaaW.PrintLast Go.Proofs.YtamapbbfabkglaaW.PrintMore Go.Proofs.YtamapbbfabkglaaE

theorem enc_test (n : Nat) (i : Nat) (hi : i < (enc n).length) (h : n ≤ 2147483647) :
    (decide (rd (enc n) (i : Int) < 128) != ((i : Int) == wrap64 (((enc n).length : Int) - 1))) = false := by
  have l5 := enc_len5 n h
  have hw : wrap64 (((enc n).length : Int) - 1) = ((enc n).length : Int) - 1 := wrap_id (by omega) (by omega)
  rw [hw]
  have hr : rd (enc n) (i : Int) = (enc n)[i] := by simp [rd, hi]
  rw [hr]
  by_cases e : i = (enc n).length - 1
  · have h1 := enc_last n
    have h2 : (enc n)[i] = (enc n).getLast (enc_ne n) := by
      rw [List.getLast_eq_getElem]
      simp only [e]
    have h3 : ((i : Int) == ((enc n).length : Int) - 1) = true := by rw [beq_iff_eq]; omega
    rw [h2, decide_eq_true h1, h3]
    rfl
  · have h1 := enc_init n ((enc n)[i]) (by
      have hd : i < (enc n).dropLast.length := by rw [List.length_dropLast]; omega
      have : (enc n).dropLast[i] = (enc n)[i] := by simp
      rw [← this]
      exact List.getElem_mem hd)
    have h3 : ((i : Int) == ((enc n).length : Int) - 1) = false := by rw [beq_eq_false_iff_ne]; omega
    rw [decide_eq_false (by omega), h3]
    rfl

theorem more_l0 (n m : Nat) (hn : n ≤ 2147483647) (hm : m ≤ 2147483647) (d : Nat) : ∀ (i k : Nat), (enc n).length - i = d → i ≤ (enc n).length → d + 3000000 < k →
    spiritlevellaw09_DeltasMore.l0 k (n : Int) (m : Int) (enc n) (enc m) (i : Int) = some true := by
  have l5 := enc_len5 n hn
  have l1 := List.length_pos_iff.mpr (enc_ne n)
  induction d with
  | zero =>
    intro i k hd hi hk
    obtain ⟨k, rfl⟩ : ∃ m, k = m + 1 := ⟨k - 1, by omega⟩
    have b1 : ((enc n).length : Int) - 1 = (((enc n).length - 1 : Nat) : Int) ∧ -5000000000 ≤ (((enc n).length - 1 : Nat) : Int) ∧ (((enc n).length - 1 : Nat) : Int) ≤ 4000000000 := by omega
    have t1 : ¬ (i : Int) < ((enc n).length : Int) := by omega
    have t2 : ((enc n).length : Int) > 0 := by omega
    have t3 : (((enc n).length - 1 : Nat) : Int) ≤ ((enc n).length : Int) := by omega
    have hr : spiritlevellaw09_reads.f k 6 ((enc n).take ((enc n).length - 1)) = some true := by
      refine reads_true _ (fun x hx => enc_byte n x (List.mem_of_mem_take hx)) (by rw [List.length_take]; omega) 6 ?_ k (by rw [List.length_take]; omega)
      rw [← List.dropLast_eq_take]
      exact readS_init n hn
    have ha := alive_true k (by omega)
    simp only [spiritlevellaw09_DeltasMore.l0]
    rw [if_neg t1, if_pos t2, ws b1, if_pos (Int.natCast_nonneg _), if_pos t3, Int.toNat_natCast, hr, ha]
    simp only [Option.bind_some]
    by_cases c : ((enc n).length : Int) ≤ ((enc m).length : Int)
    · rw [if_pos c]; simp
    · rw [if_neg c]
      have : (n : Int) > (m : Int) := by
        have := enc_mono m n
        omega
      rw [if_pos this]; simp
  | succ d ih =>
    intro i k hd hi hk
    obtain ⟨k, rfl⟩ : ∃ m, k = m + 1 := ⟨k - 1, by omega⟩
    have b3 : (i : Int) + 1 = ((i + 1 : Nat) : Int) ∧ -5000000000 ≤ ((i + 1 : Nat) : Int) ∧ ((i + 1 : Nat) : Int) ≤ 4000000000 := by omega
    have t1 : (i : Int) < ((enc n).length : Int) := by omega
    have ht := enc_test n i (by omega) hn
    simp only [spiritlevellaw09_DeltasMore.l0]
    rw [if_pos t1, if_pos (Int.natCast_nonneg _), ht, if_neg (by decide), ws b3]
    exact ih (i + 1) k (by omega) (by omega) (by omega)

theorem DeltasMore : spiritlevellaw09_DeltasMore.Pure := by
  intro n m _ _
  refine ⟨n.toNat + m.toNat + 4000000, ?_⟩
  generalize hk : n.toNat + m.toNat + 4000000 = k
  have k1 : n.toNat + 3999999 < k := by omega
  have k2 : m.toNat + 3999999 < k := by omega
  clear hk
  have hj : ∀ x5 x7 : List Int, spiritlevellaw09_DeltasMore.j0 k n m x5 x7 true = some true := by
    intro x5 x7
    obtain ⟨k, rfl⟩ : ∃ m, k = m + 1 := ⟨k - 1, by omega⟩
    simp only [spiritlevellaw09_DeltasMore.j0]
    rw [if_pos trivial, alive_true k (by omega)]
    simp
  unfold spiritlevellaw09_DeltasMore.f
  rw [write_eq n k (by omega), write_eq m k (by omega)]
  simp only [Option.bind_some]
  by_cases c1 : n < 0 ∨ n > 2147483647
  · have e1 : writeS n = ([], 2) := by unfold writeS; rw [if_pos c1]
    rw [e1, if_neg (by decide)]
    exact hj _ _
  · rw [writeS_ok (n := n) (by omega) (by omega)]
    simp only
    rw [if_pos trivial]
    by_cases c2 : m < 0 ∨ m > 2147483647
    · have e1 : writeS m = ([], 2) := by unfold writeS; rw [if_pos c2]
      rw [e1]
      exact hj _ _
    · rw [writeS_ok (n := m) (by omega) (by omega)]
      obtain ⟨n, rfl⟩ := Int.eq_ofNat_of_zero_le (show 0 ≤ n by omega)
      obtain ⟨m, rfl⟩ := Int.eq_ofNat_of_zero_le (show 0 ≤ m by omega)
      obtain ⟨k, rfl⟩ : ∃ m, k = m + 1 := ⟨k - 1, by omega⟩
      have hb : ((0 : Int) != 0) = false := by decide
      simp only [spiritlevellaw09_DeltasMore.j0, hb, Int.toNat_natCast]
      rw [if_neg (by decide)]
      have l5 := enc_len5 n (by omega)
      exact more_l0 n m (by omega) (by omega) (enc n).length 0 k (by omega) (by omega) (by omega)

end Go.Proofs.Ytamapbbfabkglaa.Pure
