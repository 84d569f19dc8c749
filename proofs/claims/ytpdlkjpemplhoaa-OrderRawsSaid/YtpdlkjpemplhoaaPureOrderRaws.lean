/- order.Raw answers as the reference does. -/
import Derived.Test.YtpdlkjpemplhoaaLemRaw
import Derived.Test.YtpdlkjpemplhoaaFLaw03OrderRaws
namespace Go.Proofs.Ytpdlkjpemplhoaa.Pure
open Go.RowKit Go.Proofs.Ytpdlkjpemplhoaa.P Go.Proofs.YtpdlkjpemplhoaaW.PrintWords Go.Proofs.YtpdlkjpemplhoaaW.PrintLast Go.Proofs.YtpdlkjpemplhoaaW.PrintMore
set_option linter.unusedVariables false

theorem raws_pure (n : Int) (l1 : List S61) (l2 : List S59) (l3 l4 : List Int) (hn : I64 n) (hy : ∀ x ∈ l1, I64 x.f0) (hx : ∀ x ∈ l2, I64 x.f0 ∧ I64 x.f1) (h3 : ∀ x ∈ l3, I64 x) (h4 : ∀ x ∈ l4, I64 x) : spiritlevellaw03_OrderRaws.f 10000 n l1 l2 l3 l4 = some true := by
  unfold spiritlevellaw03_OrderRaws.f spiritlevelref02_Great.f
  by_cases c1 : (l1.length : Int) > 60
  · rw [if_pos c1]; rfl
  rw [if_neg c1]
  by_cases c2 : (l2.length : Int) > 120
  · rw [if_pos c2]; rfl
  rw [if_neg c2]
  by_cases c3 : (l3.length : Int) > 110
  · rw [if_pos c3]; rfl
  rw [if_neg c3]
  by_cases c4 : (l4.length : Int) > 110
  · rw [if_pos c4]; rfl
  rw [if_neg c4, orderRaw_eq n l1 l2 l3 l4 (by omega) (by omega) (by omega) (by omega) 10000 (by omega), refRaw_eq n l1 l2 l3 l4 hn (by omega) (by omega) (by omega) (by omega) hy hx h3 h4 10000 (by omega)]
  have hs : spiritlevelref03_Same.f 10000 (rawS n l1 l2 l3 l4).1 (rawS n l1 l2 l3 l4).2.1 (rawS n l1 l2 l3 l4).2.2.1 (rawS n l1 l2 l3 l4).2.2.2.1 (rawS n l1 l2 l3 l4).2.2.2.2.1 (rawS n l1 l2 l3 l4).2.2.2.2.2.1 (rawS n l1 l2 l3 l4).1 (rawS n l1 l2 l3 l4).2.1 (rawS n l1 l2 l3 l4).2.2.1 (rawS n l1 l2 l3 l4).2.2.2.1 (rawS n l1 l2 l3 l4).2.2.2.2.1 (rawS n l1 l2 l3 l4).2.2.2.2.2.1 = some true := by
    unfold rawS
    by_cases c : checkS n l1 l2 l3 l4 = 0
    · obtain ⟨h0, h1⟩ := checkS_zero c
      rw [if_pos c]
      clear c
      exact sameRaw_eq _ _ _ _ _ _ 10000 (by omega) (by rw [rIn_len]; omega) (by rw [rLat_len]; omega) (by rw [rAnd_len]; omega) (show l3.length < 10000 by omega) (show l4.length < 10000 by omega)
    · rw [if_neg c]
      exact sameRaw_eq _ _ _ _ _ _ 10000 (by omega) (show ([] : List Int).length < 10000 by decide) (show ([] : List S56).length < 10000 by decide) (show ([] : List S56).length < 10000 by decide) (show ([] : List Int).length < 10000 by decide) (show ([] : List Int).length < 10000 by decide)
  simp only [Option.bind_some]
  rw [hs]
  simp only [Option.bind_some]
  rw [if_pos trivial, beq_self_eq_true]
  by_cases c5 : n > 40
  · rw [if_pos c5]
    simp only [Option.bind_some]
    split <;> rfl
  · rw [if_neg c5]; rfl

theorem OrderRaws (a : S26) (h : (Lit.int .i64 a.f0).wf = true ∧ (a.f1.length ≤ maxLen ∧ ∀ x ∈ a.f1, (Lit.int .i64 x.f0).wf = true ∧ (Lit.int .i64 x.f1).wf = true) ∧ (a.f2.length ≤ maxLen ∧ ∀ x ∈ a.f2, (Lit.int .i64 x.f0).wf = true ∧ (Lit.int .i64 x.f1).wf = true) ∧ (a.f3.length ≤ maxLen ∧ ∀ x ∈ a.f3, (Lit.int .i64 x).wf = true) ∧ (a.f4.length ≤ maxLen ∧ ∀ x ∈ a.f4, (Lit.int .i64 x).wf = true)) :
    ∃ k, spiritlevellaw03_OrderRaws.f k a.f0 a.f1 a.f2 a.f3 a.f4 = some true :=
  ⟨10000, raws_pure a.f0 a.f1 a.f2 a.f3 a.f4 (i64_wf h.1) (fun x hx => i64_wf (h.2.1.2 x hx).1) (fun x hx => ⟨i64_wf (h.2.2.1.2 x hx).1, i64_wf (h.2.2.1.2 x hx).2⟩) (fun x hx => i64_wf (h.2.2.2.1.2 x hx)) (fun x hx => i64_wf (h.2.2.2.2.2 x hx))⟩
end Go.Proofs.Ytpdlkjpemplhoaa.Pure
