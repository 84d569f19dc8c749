/- deltas.Pack and deltas.Unpack answer as the reference does. -/
import Derived.Test.YtamapbbfabkglaaLem
import Derived.Test.YtamapbbfabkglaaFLaw09DeltasGates
namespace Go.Proofs.Ytamapbbfabkglaa.Pure
open Go.RowKit Go.Proofs.Ytamapbbfabkglaa.P Go.Proofs.YtamapbbfabkglaaW.PrintWords Go.Proofs.YtamapbbfabkglaaW.PrintLast Go.Proofs.YtamapbbfabkglaaW.PrintMore Go.Proofs.YtamapbbfabkglaaE

theorem gates_pure (v : Int) (l : List Gate) (n : Int) (b : List Int) (hb : Bytes b) : ∃ k, spiritlevellaw09_DeltasGates.f k v l n b = some true := by
  refine ⟨l.length + b.length + 3000001, ?_⟩
  generalize hk : l.length + b.length + 3000001 = k
  have k1 : l.length + 2999999 < k := by omega
  have k2 : b.length + 2999999 < k := by omega
  clear hk
  obtain ⟨k, rfl⟩ : ∃ m, k = m + 1 := ⟨k - 1, by omega⟩
  have hj : spiritlevellaw09_DeltasGates.j0 (k + 1) v l n b true = some true := by
    simp only [spiritlevellaw09_DeltasGates.j0]
    rw [if_pos trivial]
  unfold spiritlevellaw09_DeltasGates.f
  by_cases c1 : (l.length : Int) > 150
  · rw [if_pos c1]; exact hj
  · rw [if_neg c1]
    by_cases c2 : (b.length : Int) > 1000
    · rw [decide_eq_true c2]; exact hj
    · rw [decide_eq_false c2]
      simp only [spiritlevellaw09_DeltasGates.j0]
      have hu : (unpackS v n b).1.length ≤ 1000000 := by
        unfold unpackS
        by_cases ha : askS v n = 0
        · rw [if_pos ha]
          obtain ⟨a1, a2, a3, a4⟩ := askS_zero ha
          clear ha
          by_cases z : (unpackGo v n.toNat b 0 []).2.2 = 0
          · obtain ⟨l', s, g1, g2, _⟩ := unpackGo_right b hb n.toNat v 0 [] (Nat.zero_le _) z
            clear z
            rw [g1]
            simp only [List.nil_append]
            clear g1
            omega
          · rw [(unpackGo_bad b n.toNat v 0 [] z).1]; simp
        · rw [if_neg ha]; simp
      rw [if_neg (by decide), pack_eq v l k (by omega), refPack_eq v l k (by omega), unpack_eq v n b hb (by omega) k (by omega), refUnpack_eq v n b hb (by omega) k (by omega)]
      simp only [Option.bind_some]
      rw [if_pos trivial, if_pos trivial, same_eq _ hu k (by omega)]
      simp

theorem DeltasGates (v : Int) (l : List Gate) (n : Int) (b : List Int) {p q r : Prop} (_ : p) (_ : q) (_ : r) (h : b.length ≤ maxLen ∧ ∀ x ∈ b, (fun n => (Lit.int .u8 n).wf = true) x) : ∃ k, spiritlevellaw09_DeltasGates.f k v l n b = some true :=
  gates_pure v l n b (bytes_wf h.2)

end Go.Proofs.Ytamapbbfabkglaa.Pure
