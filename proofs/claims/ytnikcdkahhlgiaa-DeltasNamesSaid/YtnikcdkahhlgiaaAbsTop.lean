/- The evaluator of functions is sound. -/
import Derived.Test.YtnikcdkahhlgiaaAbsFun
namespace Go.Proofs.Ytnikcdkahhlgiaa.Ab
open Go
set_option linter.unusedVariables false

variable {P : Program} {wr : Nat → Bool} {lits : Nat → Bool}

theorem evF_ok (hm : P.follows .mixedOrders = true) : ∀ n, OrcOk P (evF P wr (ICall P) lits n)
  | 0 => fun f as bs r bs' h => by simp [evF] at h
  | n + 1 => fun f as bs r bs' h => by
    simp only [evF] at h
    split at h
    · rename_i fn hf
      split at h
      · rename_i c hb
        split at h
        · rename_i s sc he
          exact icall_of_ev (evF_ok hm n) hm hf hb he (.inl rfl) (by simp) h
        · rename_i s sc he
          exact icall_of_ev (evF_ok hm n) hm hf hb he (.inr rfl) (by simp) h
        · cases h
      · cases h
    · cases h

end Go.Proofs.Ytnikcdkahhlgiaa.Ab
