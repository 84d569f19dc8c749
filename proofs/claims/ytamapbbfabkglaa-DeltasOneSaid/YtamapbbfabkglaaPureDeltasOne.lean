/- What is written is read as it, whatever stands behind it, and what is read has just these bytes. -/
import Derived.Test.YtamapbbfabkglaaLem
import Derived.Test.YtamapbbfabkglaaFLaw09DeltasOne
namespace Go.Proofs.Ytamapbbfabkglaa.Pure
open Go.RowKit Go.Proofs.Ytamapbbfabkglaa.P Go.Proofs.YtamapbbfabkglaaW.PrintWords Go.Proofs.YtamapbbfabkglaaW.PrintLast Go.Proofs.YtamapbbfabkglaaW.PrintMore Go.Proofs.YtamapbbfabkglaaE

theorem one_j0 (b : List Int) (hb : Bytes b) (hm : b.length ≤ 1000) (k : Nat) (hk : 3000000000 < k) : spiritlevellaw09_DeltasOne.j0 k b = some true := by
  obtain ⟨k, rfl⟩ : ∃ m, k = m + 1 := ⟨k - 1, by omega⟩
  simp only [spiritlevellaw09_DeltasOne.j0]
  rw [read_eq b hb (by omega) k (by omega), alive_true k (by omega)]
  simp only [Option.bind_some]
  have hr := readS_range b
  have he := enc_readS b hb
  generalize readS b = p at hr he ⊢
  obtain ⟨m, s, e⟩ := p
  simp only at hr he ⊢
  by_cases z : e = 0
  · rw [if_pos z]
    have h1 : 0 ≤ m ∧ m ≤ 2147483647 ∧ 0 < s ∧ s ≤ b.length := by
      rcases hr with ⟨_, q1, q2, q3, q4, _⟩ | ⟨_, _, q3⟩
      · exact ⟨q1, q2, q3, q4⟩
      · exact absurd z (by omega)
    obtain ⟨h1, h2, h3, h4⟩ := h1
    rw [write_eq m k (by omega), writeS_ok h1 h2]
    simp only [Option.bind_some]
    rw [if_pos trivial, if_pos h3, if_pos h4, if_pos (by omega), he z, if_pos rfl]
  · rw [if_neg z]

theorem DeltasOne : spiritlevellaw09_DeltasOne.Pure := by
  intro n b _ _ _ hwf
  have hb := bytes_wf hwf
  refine ⟨n.toNat + b.length + 3000000001, ?_⟩
  generalize hk : n.toNat + b.length + 3000000001 = k
  have k1 : n.toNat + 1 < k := by omega
  have k2 : b.length + 3000000000 < k := by omega
  clear hk
  unfold spiritlevellaw09_DeltasOne.f
  rw [alive_true k (by omega)]
  simp only [Option.bind_some]
  by_cases h : (b.length : Int) > 1000
  · rw [if_pos h]
  · rw [if_neg h, write_eq n k k1]
    have hj := one_j0 b hb (by omega) k (by omega)
    rw [hj]
    by_cases hn : n < 0 ∨ n > 2147483647
    · unfold writeS
      rw [if_pos hn]
      simp only [Option.bind_some]
      rw [if_neg (by decide)]
      by_cases h0 : n ≥ 0
      · rw [if_pos h0, if_neg (by omega)]
      · rw [if_neg h0]
    · have l5 := enc_len5 n.toNat (by omega)
      have l1 := List.length_pos_iff.mpr (enc_ne n.toNat)
      have hr := readS_enc n.toNat (by omega) b
      have hB : Bytes (enc n.toNat ++ b) := by
        intro x hx
        rcases List.mem_append.mp hx with hx | hx
        · exact enc_byte _ x hx
        · exact hb x hx
      rw [writeS_ok (by omega) (by omega)]
      simp only [Option.bind_some, List.nil_append, List.length_nil, Nat.zero_add]
      rw [if_pos trivial, if_pos (by omega), if_pos (by omega), read_eq _ hB (by simp only [List.length_append]; omega) k (by simp only [List.length_append]; omega), hr]
      simp only [Option.bind_some]
      rw [if_pos trivial, if_pos (by omega), if_pos trivial, if_neg (by omega), if_neg (by omega)]

end Go.Proofs.Ytamapbbfabkglaa.Pure
