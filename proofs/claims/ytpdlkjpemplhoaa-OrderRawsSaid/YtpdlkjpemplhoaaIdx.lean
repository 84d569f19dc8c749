/- The first element that is so; a function value that is known by its calls. -/
import Derived.Test.YtpdlkjpemplhoaaK
namespace Go.Proofs.Ytpdlkjpemplhoaa.P
open Go.RowKit Go.Proofs.YtpdlkjpemplhoaaW.PrintWords Go.Proofs.YtpdlkjpemplhoaaW.PrintLast Go.Proofs.YtpdlkjpemplhoaaW.PrintMore

/-- The index of the first element that is so. -/
def idxBy {α : Type} (p : α → Bool) : List α → Int
  | [] => -1
  | x :: r => if p x then 0 else if idxBy p r < 0 then -1 else idxBy p r + 1

/-- A function value, called with one argument: what it answers, in whatever world lies above w. -/
def PredOn {α : Type} (P : Program) (w : World) (fv : Value) (arg : α → Value) (p : α → Bool) (xs : List α) : Prop :=
  ∃ (q : FuncId) (caps : Array Value), fv = .func (.func q) #[] caps ∧ (∀ args W, Sem.run P (callFunc q args) W = .ok (.enter q args) W) ∧ ∀ x ∈ xs, ∀ W, Below w.heap.size w W →
    Calls P q (#[arg x] ++ caps) W fun e w' => e = .returned (.bool (p x)) ∧ Below W.heap.size W w'

theorem idxBy_none {α : Type} (p : α → Bool) (xs : List α) (h : ∀ x ∈ xs, p x = false) : idxBy p xs = -1 := by
  induction xs with
  | nil => rfl
  | cons x r ih =>
    have := ih (fun y hy => h y (List.mem_cons_of_mem _ hy))
    simp [idxBy, h x List.mem_cons_self, this]

theorem idxBy_found {α : Type} (p : α → Bool) (xs : List α) (i : Nat) (hi : i < xs.length) (h : ∀ j (hj : j < i), p (xs[j]'(Nat.lt_trans hj hi)) = false) (hp : p xs[i] = true) : idxBy p xs = (i : Int) := by
  induction xs generalizing i with
  | nil => simp at hi
  | cons x r ih =>
    cases i with
    | zero => simp at hp; simp [idxBy, hp]
    | succ i =>
      have h0 := h 0 (by omega)
      simp at h0
      have := ih i (by simpa using hi) (fun j hj => by have := h (j + 1) (by omega); simpa using this) (by simpa using hp)
      simp only [idxBy, h0, this]
      rw [if_neg (by simp), if_neg (by omega)]
      omega

theorem idxBy_lo {α : Type} (p : α → Bool) (xs : List α) : -1 ≤ idxBy p xs ∧ idxBy p xs ≤ xs.length := by
  induction xs with
  | nil => simp [idxBy]
  | cons x r ih =>
    simp only [idxBy, List.length_cons]
    by_cases h : p x
    · rw [if_pos h]; omega
    · rw [if_neg h]
      by_cases h2 : idxBy p r < 0
      · rw [if_pos h2]; omega
      · rw [if_neg h2]; omega

theorem idxBy_iff {α : Type} (p : α → Bool) (xs : List α) : 0 ≤ idxBy p xs ↔ xs.any p = true := by
  induction xs with
  | nil => simp [idxBy]
  | cons x r ih =>
    have e : idxBy p (x :: r) = if p x then 0 else if idxBy p r < 0 then -1 else idxBy p r + 1 := rfl
    rw [e, List.any_cons, Bool.or_eq_true]
    by_cases h : p x = true
    · rw [if_pos h]; simp [h]
    · rw [if_neg h]
      by_cases h2 : idxBy p r < 0
      · rw [if_pos h2, ← ih]
        constructor
        · intro h3; omega
        · rintro (h3 | h3)
          · exact absurd h3 h
          · omega
      · rw [if_neg h2, ← ih]
        constructor
        · intro _; exact .inr (by omega)
        · intro _; omega

theorem idxBy_any {α : Type} (p : α → Bool) (xs : List α) : decide (0 ≤ idxBy p xs) = xs.any p := by
  rw [Bool.eq_iff_iff, decide_eq_true_iff]
  exact idxBy_iff p xs
end Go.Proofs.Ytpdlkjpemplhoaa.P
