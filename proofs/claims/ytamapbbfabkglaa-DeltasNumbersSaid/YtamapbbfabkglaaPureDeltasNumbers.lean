/- deltas.Write and deltas.Read answer as the reference does, at every number and every bytes. -/
import Derived.Test.YtamapbbfabkglaaLem
import Derived.Test.YtamapbbfabkglaaFLaw09DeltasNumbers
namespace Go.Proofs.Ytamapbbfabkglaa.Pure
open Go.RowKit Go.Proofs.Ytamapbbfabkglaa.P Go.Proofs.YtamapbbfabkglaaW.PrintWords Go.Proofs.YtamapbbfabkglaaW.PrintLast Go.Proofs.YtamapbbfabkglaaW.PrintMore Go.Proofs.YtamapbbfabkglaaE

theorem DeltasNumbers : spiritlevellaw09_DeltasNumbers.Pure := by
  intro n b _ _ _ hb
  refine ⟨n.toNat + b.length + 2000, ?_⟩
  unfold spiritlevellaw09_DeltasNumbers.f
  by_cases h : (b.length : Int) > 1000
  · rw [if_pos h]
  · rw [if_neg h, write_eq n _ (by omega), refWrite_eq n _ (by omega), read_eq b (bytes_wf hb) (by omega) _ (by omega), refRead_eq b (bytes_wf hb) (by omega) _ (by omega)]
    simp

end Go.Proofs.Ytamapbbfabkglaa.Pure
