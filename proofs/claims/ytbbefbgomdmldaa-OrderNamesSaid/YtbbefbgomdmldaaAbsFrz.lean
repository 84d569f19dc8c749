/- Lists that are only read from now on. -/
import Derived.Test.YtbbefbgomdmldaaAbsDrawC
namespace Go.Proofs.Ytbbefbgomdmldaa.Ab
open Go
set_option linter.unusedVariables false
set_option linter.unusedSimpArgs false

variable {P : Program} {O : Orc} {s s' : St} {sc sc' : Script} {w w' : World} {Pr Pr' : Nat → Prop} {bl : List B} {μ : List CB} {a : Act}

theorem Rel.freeze (hR : Rel P s a w μ Pr) (id : Nat) : After P (freeze id s) μ Pr w a w := by
  unfold Ab.freeze
  split
  · rename_i e xs hb
    obtain ⟨hh, wd, cs, g1, g2, g3, g4, g5⟩ := hR.toSRel.lst hb
    have hho : ∀ q ∈ hh.own, q ∈ owns μ := fun q hq => List.mem_flatMap.2 ⟨_, List.mem_of_getElem? g1, hq⟩
    have hsub : ∀ q ∈ owns (μ.set id .dead), q ∈ owns μ ∧ q ∉ hh.own := by
      intro q hq
      rcases mem_owns_set hq with h1 | ⟨j, d, hj, hd, hqd⟩
      · simp [CB.own] at h1
      · exact ⟨List.mem_flatMap.2 ⟨d, List.mem_of_getElem? hd, hqd⟩, nodup_own hR.nodup j id d _ hd g1 hj q hqd⟩
    have hev : Evo (owns μ) Pr w (owns (μ.set id .dead)) (fun b => Pr b ∨ b ∈ hh.own) w :=
      ⟨rfl, rfl, rfl, Nat.le_refl _, fun _ _ _ => rfl, fun q hq => .inl (hsub q hq).1, fun _ h => .inl h, fun q hq => hq.imp_right fun h => .inl (hho q h)⟩
    refine ⟨μ.set id .dead, fun b => Pr b ∨ b ∈ hh.own, hR.killSet hb g1 (by simp [vwOf]) hev (fun _ _ _ => rfl) (fun d hd u hu => ?_) (by simp) trivial (nodup_owns_set hR.nodup g1 (by simp [CB.own]) (by simp [CB.own]))
      (fun q hq => ⟨(hR.lt q (hsub q hq).1).1, fun hp => hp.elim (hR.lt q (hsub q hq).1).2 (hsub q hq).2⟩) (fun q hq => hq.elim (hR.pr q) fun h => (hR.lt q (hho q h)).1), hev, .set g1 (by simp)⟩
    cases hd
    rcases hu with ⟨e', n, h', k1, k2⟩ | ⟨s', lens, b, cap, inner, k1, k2⟩
    · rw [g2] at k1; cases k1
      subst k2
      cases hh with
      | zero a => have := row_nil g4; subst this; exact .sl0 _ _
      | row b c =>
        obtain ⟨q1, q2, q3⟩ := reads_of_row g4 g5
        exact drel_of_reads (Pr' := Pr) (.inr (by simp [H.own])) q1 ⟨q2, fun i x j y hx hy => let ⟨u, r1, r2, r3⟩ := q3 i x j y hx hy; ⟨u, r1, r2, r3.mono (fun _ h => .inl h) (fun _ _ => rfl)⟩⟩
    · rw [g2] at k1; cases k1
  · exact ⟨μ, Pr, hR, .refl _ _ _, .refl _⟩

theorem Rel.frozen (held : List Nat) : ∀ (l : List Nat) {s : St} {μ : List CB} {Pr : Nat → Prop}, Rel P s a w μ Pr → After P (frozen held l s) μ Pr w a w
  | [], s, μ, Pr, hR => ⟨μ, Pr, hR, .refl _ _ _, .refl _⟩
  | i :: r, s, μ, Pr, hR => by
    simp only [Ab.frozen]
    split
    · exact hR.frozen held r
    · obtain ⟨μ1, Pr1, h1, h2, h3⟩ := hR.freeze i
      exact After.trans h2 h3 (h1.frozen held r)

theorem prep_ok (hR : Rel P s a w μ Pr) (o : Oper) : After P (prep s o) μ Pr w a w := by
  have done : After P s μ Pr w a w := ⟨μ, Pr, hR, .refl _ _ _, .refl _⟩
  unfold prep
  dsimp only
  repeat' split
  all_goals first | exact hR.frozen _ _ | exact done

end Go.Proofs.Ytbbefbgomdmldaa.Ab
