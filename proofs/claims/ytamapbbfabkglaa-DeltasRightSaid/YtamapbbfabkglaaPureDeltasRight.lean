/- What is unpacked is right, and has just the bytes of which it is. -/
import Derived.Test.YtamapbbfabkglaaLem
import Derived.Test.YtamapbbfabkglaaFLaw09DeltasRight
namespace Go.Proofs.Ytamapbbfabkglaa.Pure
open Go.RowKit Go.Proofs.Ytamapbbfabkglaa.P Go.Proofs.YtamapbbfabkglaaW.PrintWords Go.Proofs.YtamapbbfabkglaaW.PrintLast Go.Proofs.YtamapbbfabkglaaW.PrintMore Go.Proofs.YtamapbbfabkglaaE

theorem DeltasRight : spiritlevellaw09_DeltasRight.Pure := by
  intro v n b _ _ _ _ hwf
  have hb := bytes_wf hwf
  refine ⟨b.length + 3000001, ?_⟩
  generalize hk : b.length + 3000001 = k
  have k2 : b.length + 3000000 < k := by omega
  clear hk
  unfold spiritlevellaw09_DeltasRight.f
  rw [alive_true k (by omega)]
  simp only [Option.bind_some]
  by_cases h : (b.length : Int) > 1000
  · rw [if_pos h]
  · rw [if_neg h, unpack_eq v n b hb (by omega) k (by omega)]
    simp only [Option.bind_some]
    by_cases ha : askS v n = 0
    · obtain ⟨a1, a2, a3, a4⟩ := askS_zero ha
      obtain ⟨m, rfl⟩ := Int.eq_ofNat_of_zero_le a3
      have hu : unpackS v m b = unpackGo v m b 0 [] := by unfold unpackS; rw [if_pos ha, Int.toNat_natCast]
      replace ha := Aside0.mk ha
      rw [hu]
      clear hu
      by_cases z : (unpackGo v m b 0 []).2.2 = 0
      · obtain ⟨l, s, g1, g2, g3, g4, g5, g6⟩ := unpackGo_right b hb m v 0 [] (Nat.zero_le _) z
        clear z
        rw [g1]
        clear g1
        simp only [List.nil_append]
        have hp : packS v l = (bytesG v l, 0) := by
          unfold packS
          rw [g2, if_pos ha.out, packGo_right l v [] g3, List.nil_append]
        replace hp := Aside0.mk hp
        replace g6 := Aside0.mk g6
        have hj : spiritlevellaw09_DeltasRight.j0 k v b l (s : Int) false = some true := by
          obtain ⟨k, rfl⟩ : ∃ m, k = m + 1 := ⟨k - 1, by omega⟩
          simp only [spiritlevellaw09_DeltasRight.j0]
          rw [if_neg (by decide), pack_eq v l k (by omega), hp.out, alive_true k (by omega)]
          simp only [Option.bind_some]
          rw [if_pos trivial, if_pos (by omega), if_pos (by omega), Int.toNat_natCast, g6.out, List.drop_zero, Nat.sub_zero, if_pos rfl]
        have t1 : (l.length : Int) = (m : Int) := by omega
        have t2 : ¬ (s : Int) < 0 := by omega
        have t3 : ¬ (s : Int) > (b.length : Int) := by omega
        have t4 := lawRight_eq v l (by omega) (by omega) k (by omega)
        rw [if_pos trivial, if_pos t1, if_neg t2, if_neg t3, t4, decide_eq_true g3]
        rw [Option.bind_some, Bool.not_true]
        exact hj
      · have hz : (unpackGo v m b 0 []).1 = [] ∧ (unpackGo v m b 0 []).2.1 = 0 := unpackGo_bad b m v 0 [] z
        rw [if_neg z, hz.1, hz.2]
        simp
    · have hu : unpackS v n b = ([], 0, askS v n) := by unfold unpackS; rw [if_neg ha]
      rw [hu]
      simp only
      rw [if_neg ha]
      simp

end Go.Proofs.Ytamapbbfabkglaa.Pure
