/- Structs of whole numbers are compared as one would. -/
import Derived.Test.YtbbefbgomdmldaaAbsOpA
import Derived.Laws.StructEq
namespace Go.Proofs.Ytbbefbgomdmldaa.Ab
open Go
set_option linter.unusedVariables false
set_option linter.unusedSimpArgs false

variable {P : Program} {w : World}

theorem run_und {t : TypeId} {d : TypeDesc} (h : P.underlying t = some d) : (underlying t).run P w = .ok d w := by
  simp [underlying, h]

theorem part_int {t : TypeId} {k : IntKind} {xs : Array Value} {i : Nat} {v : Value} (h : P.underlying t = some (.int k)) (hx : xs[i]? = some v) : (part t xs i).run P w = .ok v w := by
  simp [part, isAgg, run_und h, hx]

theorem eqF_ok {d : Nat} {xs ys : Array Value} : ∀ {fs : List Field} {i : Nat} {is js : List Int}, eqFB P i fs = true → is.length = fs.length → js.length = fs.length → (∀ k, xs[i + k]? = (is[k]?).map (Value.int .i64)) → (∀ k, ys[i + k]? = (js[k]?).map (Value.int .i64)) →
    (Op.eqFields (d + 1) xs ys fs).run P w = .ok (decide (is = js)) w
  | [], i, is, js, _, h1, h2, _, _ => by
    have e1 : is = [] := List.eq_nil_of_length_eq_zero h1
    have e2 : js = [] := List.eq_nil_of_length_eq_zero h2
    subst e1; subst e2
    simp [Op.eqFields]
  | f :: fs, i, is, js, h, h1, h2, hx, hy => by
    cases is with
    | nil => simp at h1
    | cons a is => cases js with
      | nil => simp at h2
      | cons b js =>
        simp only [eqFB, Bool.and_eq_true, bne_iff_ne, ne_eq, beq_iff_eq] at h
        obtain ⟨⟨⟨hn, ho⟩, hu⟩, hr⟩ := h
        have ih := eqF_ok (d := d) (xs := xs) (ys := ys) (fs := fs) (i := i + 1) (is := is) (js := js) hr (by simpa using h1) (by simpa using h2) (fun k => by have := hx (k + 1); rw [List.getElem?_cons_succ] at this; rw [← this]; congr 1; omega) (fun k => by have := hy (k + 1); rw [List.getElem?_cons_succ] at this; rw [← this]; congr 1; omega)
        split at hu
        · rename_i k hk
          have p1 : (part f.type xs f.offset).run P w = .ok (.int .i64 a) w := part_int hk (by rw [ho]; simpa using hx 0)
          have p2 : (part f.type ys f.offset).run P w = .ok (.int .i64 b) w := part_int hk (by rw [ho]; simpa using hy 0)
          have p3 : (Op.equalIn (d + 1) f.type (.int .i64 a) (.int .i64 b)).run P w = .ok (a == b) w := by
            simp [Op.equalIn, run_und hk]
          rw [Op.eqFields, if_pos hn]
          simp only [Sem.run_bind, p1, p2, p3, Result.andThen_ok]
          by_cases hab : a = b
          · subst hab; simp [ih]
          · simp [hab]
        · cases hu

theorem eqOk_of {t n : Nat} (h : eqOkB P t n = true) : EqOk P t n := by
  unfold eqOkB at h
  split at h
  · rename_i fs hu
    simp only [Bool.and_eq_true, Bool.not_eq_true', beq_iff_eq] at h
    obtain ⟨⟨hs, hn⟩, hf⟩ := h
    intro is js w h1 h2
    have hfo : P.fieldsOf t = fs := by simp [Program.fieldsOf, hu]
    refine ⟨?_, ?_⟩
    · show (Op.equalIn (9999 + 1) t _ _).run P w = _
      rw [run_equalIn_struct (P := P) w 9999 t _ _ (by rw [hfo]; exact hu) hs, hfo]
      exact eqF_ok (d := 9998) hf (by simp [h1, hn]) (by simp [h2, hn]) (fun k => by simp) (fun k => by simp)
    · have hd : P.depth = (2 * (P.types.size + Made.depth)) + 1 + 1 := rfl
      rw [hd, Program.eqGuardType, hu]
      have : ∀ (l : List Field) (i : Nat), eqFB P i l = true → ∀ f ∈ l, P.eqGuardType (2 * (P.types.size + Made.depth) + 1) f.type = false := by
        intro l
        induction l with
        | nil => intro i _ f hf; cases hf
        | cons g r ih =>
          intro i h f hf
          simp only [eqFB, Bool.and_eq_true] at h
          rcases List.mem_cons.1 hf with rfl | hf
          · have := h.1.2
            split at this
            · rename_i k hk; rw [Program.eqGuardType, hk]
            · cases this
          · exact ih _ h.2 f hf
      simp only
      rw [Array.any_eq_false']
      intro f hfm
      simp [this fs.toList 0 hf f (by simpa using hfm)]
  · cases h

end Go.Proofs.Ytbbefbgomdmldaa.Ab
