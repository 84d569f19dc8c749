/- References renamed; lists that a call returns, laid as blocks. -/
import Derived.Test.YtbbefbgomdmldaaAbsOpR
namespace Go.Proofs.Ytbbefbgomdmldaa.Ab
open Go
set_option linter.unusedVariables false
set_option linter.unusedSimpArgs false

variable {P : Program} {w w' : World} {Pr Pr' : Nat → Prop} {vw vw' : Nat → Option VW} {bl : List B} {μ : List CB} {ρ : Nat → Option Nat}

def Ren (ρ : Nat → Option Nat) (vw vw' : Nat → Option VW) : Prop := ∀ i j, ρ i = some j → vw i ≠ none → vw' j = vw i

theorem Ren.key (h : Ren ρ vw vw') {i j : Nat} {u : VW} (hij : ρ i = some j) (hu : vw i = some u) : vw' j = some u := by rw [h i j hij (by simp [hu])]; exact hu

theorem map0_ok (hρ : Ren ρ vw vw') {v v' : V} {u : Value} (hm : map0 ρ v = some v') (h : VRel0 P w Pr vw v u) : VRel0 P w Pr vw' v' u := by
  cases v with
  | ptr id off =>
    obtain ⟨j, hj, rfl⟩ := Option.map_eq_some_iff.1 hm
    obtain ⟨b, h1, h2⟩ := h
    exact ⟨b, hρ.key hj h1, h2⟩
  | arr id =>
    obtain ⟨j, hj, rfl⟩ := Option.map_eq_some_iff.1 hm
    rcases h with ⟨e, n, h', h1, h2⟩ | ⟨s, lens, b, cap, inner, h1, h2⟩
    · exact .inl ⟨e, n, h', hρ.key hj h1, h2⟩
    · exact .inr ⟨s, lens, b, cap, inner, hρ.key hj h1, h2⟩
  | inn id i =>
    obtain ⟨j, hj, rfl⟩ := Option.map_eq_some_iff.1 hm
    obtain ⟨s, lens, b, cap, inner, n, h', h1, h2⟩ := h
    exact ⟨s, lens, b, cap, inner, n, h', hρ.key hj h1, h2⟩
  | win id lo n =>
    obtain ⟨j, hj, rfl⟩ := Option.map_eq_some_iff.1 hm
    obtain ⟨e, len, h', wd, a, cap, h1, h2⟩ := h
    exact ⟨e, len, h', wd, a, cap, hρ.key hj h1, h2⟩
  | eptr id i sub =>
    obtain ⟨j, hj, rfl⟩ := Option.map_eq_some_iff.1 hm
    rcases h with ⟨e, n, b, cap, wd, h1, h2⟩ | ⟨s, lens, b, cap, inner, h1, h2⟩
    · exact .inl ⟨e, n, b, cap, wd, hρ.key hj h1, h2⟩
    · exact .inr ⟨s, lens, b, cap, inner, hρ.key hj h1, h2⟩
  | iptr id i k =>
    obtain ⟨j, hj, rfl⟩ := Option.map_eq_some_iff.1 hm
    obtain ⟨s, lens, b, cap, inner, n, e, b', cap', wd, h1, h2⟩ := h
    exact ⟨s, lens, b, cap, inner, n, e, b', cap', wd, hρ.key hj h1, h2⟩
  | func f cap => simp [map0] at hm
  | iface t x => simp [map0] at hm
  | agg cs => simp [map0] at hm
  | tup vs => simp [map0] at hm
  | emp b => simp only [map0, Option.some.injEq] at hm; subst hm; cases b <;> exact h
  | _ => simp only [map0, Option.some.injEq] at hm; subst hm; exact h

theorem mapL0_ok (hρ : Ren ρ vw vw') {R : Value → Prop} : ∀ {cs cs' : List V} {us : List Value}, mapL0 ρ cs = some cs' → All2 (fun c u => VRel0 P w Pr vw c u ∧ R u) cs us → All2 (fun c u => VRel0 P w Pr vw' c u ∧ R u) cs' us
  | [], cs', us, hm, h => by simp [mapL0] at hm; subst hm; cases us with | nil => trivial | cons _ _ => exact h.elim
  | c :: r, cs', us, hm, h => by
    simp only [mapL0] at hm
    split at hm
    · rename_i x y h1 h2
      cases hm
      cases us with
      | nil => exact h.elim
      | cons u us => exact ⟨⟨map0_ok hρ h1 h.1.1, h.1.2⟩, mapL0_ok hρ h2 h.2⟩
    · cases hm

theorem map1_ok (hρ : Ren ρ vw vw') {v v' : V} {u : Value} (hm : map1 ρ v = some v') (h : VRel1 P w Pr vw v u) : VRel1 P w Pr vw' v' u := by
  have key : map0 ρ v = some v' → VRel0 P w Pr vw v u → VRel1 P w Pr vw' v' u := fun h1 h2 => (map0_ok hρ h1 h2).to1
  cases v with
  | func f cap =>
    obtain ⟨cs, hc, rfl⟩ := Option.map_eq_some_iff.1 hm
    obtain ⟨us, rfl, h⟩ := h
    have := mapL0_ok (R := fun _ => True) hρ hc (All2.mono (fun _ _ h => ⟨h, trivial⟩) h)
    exact ⟨us, rfl, All2.mono (fun _ _ h => h.1) this⟩
  | iface t x =>
    obtain ⟨y, hy, rfl⟩ := Option.map_eq_some_iff.1 hm
    obtain ⟨q, rfl, h⟩ := h
    exact ⟨q, rfl, map0_ok hρ hy h⟩
  | agg cs =>
    obtain ⟨cs', hc, rfl⟩ := Option.map_eq_some_iff.1 hm
    obtain ⟨us, rfl, h⟩ := h
    exact ⟨us, rfl, mapL0_ok hρ hc h⟩
  | _ => exact key hm h

theorem mapL1_ok (hρ : Ren ρ vw vw') {R : Value → Prop} : ∀ {cs cs' : List V} {us : List Value}, mapL1 ρ cs = some cs' → All2 (fun c u => VRel1 P w Pr vw c u ∧ R u) cs us → All2 (fun c u => VRel1 P w Pr vw' c u ∧ R u) cs' us
  | [], cs', us, hm, h => by simp [mapL1] at hm; subst hm; cases us with | nil => trivial | cons _ _ => exact h.elim
  | c :: r, cs', us, hm, h => by
    simp only [mapL1] at hm
    split at hm
    · rename_i x y h1 h2
      cases hm
      cases us with
      | nil => exact h.elim
      | cons u us => exact ⟨⟨map1_ok hρ h1 h.1.1, h.1.2⟩, mapL1_ok hρ h2 h.2⟩
    · cases hm

theorem noTup_map1 {v v' : V} (hm : map1 ρ v = some v') : ∀ vs, v ≠ .tup vs := by
  intro vs hv; subst hv; simp [map1, map0] at hm

/-! ### lists laid -/

theorem layV_ok (hρ : Ren ρ vw vw') {n m : Nat} {v v' : V} (hm : map0 ρ v = some v') (hl : ∀ i, i < (layV n v).2.length → vw (n + i) ≠ none → vw' (m + i) = vw (n + i)) :
    (layV m v').2 = (layV n v).2 ∧ ∀ u, VRel0 P w Pr vw (layV n v).1 u → VRel0 P w Pr vw' (layV m v').1 u := by
  have own : ∀ {b : B}, (∀ i, i < [b].length → vw (n + i) ≠ none → vw' (m + i) = vw (n + i)) → ∀ u, VRel0 P w Pr vw (.arr n) u → VRel0 P w Pr vw' (.arr m) u := by
    intro b hl u h
    have h0 := hl 0 (by simp)
    simp only [Nat.add_zero] at h0
    rcases h with ⟨e, k, h', h1, h2⟩ | ⟨s, lens, b, cap, inner, h1, h2⟩
    · exact .inl ⟨e, k, h', by rw [h0 (by simp [h1])]; exact h1, h2⟩
    · exact .inr ⟨s, lens, b, cap, inner, by rw [h0 (by simp [h1])]; exact h1, h2⟩
  cases v with
  | own e xs => simp only [map0, Option.some.injEq] at hm; subst hm; exact ⟨rfl, own hl⟩
  | own2 e xs => simp only [map0, Option.some.injEq] at hm; subst hm; exact ⟨rfl, own hl⟩
  | ptr id off => obtain ⟨j, hj, rfl⟩ := Option.map_eq_some_iff.1 hm; exact ⟨rfl, fun u h => map0_ok hρ hm h⟩
  | arr id => obtain ⟨j, hj, rfl⟩ := Option.map_eq_some_iff.1 hm; exact ⟨rfl, fun u h => map0_ok hρ hm h⟩
  | inn id i => obtain ⟨j, hj, rfl⟩ := Option.map_eq_some_iff.1 hm; exact ⟨rfl, fun u h => map0_ok hρ hm h⟩
  | win id lo n => obtain ⟨j, hj, rfl⟩ := Option.map_eq_some_iff.1 hm; exact ⟨rfl, fun u h => map0_ok hρ hm h⟩
  | eptr id i sub => obtain ⟨j, hj, rfl⟩ := Option.map_eq_some_iff.1 hm; exact ⟨rfl, fun u h => map0_ok hρ hm h⟩
  | iptr id i k => obtain ⟨j, hj, rfl⟩ := Option.map_eq_some_iff.1 hm; exact ⟨rfl, fun u h => map0_ok hρ hm h⟩
  | func f cap => simp [map0] at hm
  | iface t x => simp [map0] at hm
  | agg cs => simp [map0] at hm
  | tup vs => simp [map0] at hm
  | _ => have hm' := hm; simp only [map0, Option.some.injEq] at hm; subst hm; exact ⟨rfl, fun u h => map0_ok hρ hm' h⟩

theorem layL_ok (hρ : Ren ρ vw vw') {R : Value → Prop} : ∀ {cs cs' : List V} {n m : Nat}, mapL0 ρ cs = some cs' → (∀ i, i < (layL n cs).2.length → vw (n + i) ≠ none → vw' (m + i) = vw (n + i)) →
    (layL m cs').2 = (layL n cs).2 ∧ ∀ us, All2 (fun c u => VRel0 P w Pr vw c u ∧ R u) (layL n cs).1 us → All2 (fun c u => VRel0 P w Pr vw' c u ∧ R u) (layL m cs').1 us
  | [], cs', n, m, hm, hl => by
    simp [mapL0] at hm; subst hm
    exact ⟨rfl, fun us h => by cases us with | nil => trivial | cons _ _ => exact h.elim⟩
  | c :: r, cs', n, m, hm, hl => by
    simp only [mapL0] at hm
    split at hm
    · rename_i x y h1 h2
      cases hm
      simp only [layL] at hl ⊢
      rw [List.length_append] at hl
      obtain ⟨g1, g2⟩ := layV_ok (P := P) (w := w) (Pr := Pr) (n := n) (m := m) hρ h1 (fun i hi => hl i (by omega))
      obtain ⟨g3, g4⟩ := layL_ok (R := R) (cs := r) (cs' := y) (n := n + (layV n c).2.length) (m := m + (layV n c).2.length) hρ h2 (fun i hi hne => by
        have := hl ((layV n c).2.length + i) (by omega)
        rw [← Nat.add_assoc, ← Nat.add_assoc] at this
        exact this hne)
      rw [g1]
      refine ⟨by rw [g3], fun us h => ?_⟩
      cases us with
      | nil => exact h.elim
      | cons u us => exact ⟨⟨g2 u h.1.1, h.1.2⟩, g4 us h.2⟩
    · cases hm

theorem lay1_ok (hρ : Ren ρ vw vw') {n m : Nat} {v v' : V} (hm : map1 ρ v = some v') (hl : ∀ i, i < (lay1 n v).2.length → vw (n + i) ≠ none → vw' (m + i) = vw (n + i)) :
    (lay1 m v').2 = (lay1 n v).2 ∧ ∀ u, VRel1 P w Pr vw (lay1 n v).1 u → VRel1 P w Pr vw' (lay1 m v').1 u := by
  cases v with
  | func f cap =>
    have hm' := hm
    obtain ⟨cs, hc, rfl⟩ := Option.map_eq_some_iff.1 hm
    exact ⟨rfl, fun u h => map1_ok hρ hm' h⟩
  | iface t x =>
    have hm' := hm
    obtain ⟨y, hy, rfl⟩ := Option.map_eq_some_iff.1 hm
    exact ⟨rfl, fun u h => map1_ok hρ hm' h⟩
  | agg cs =>
    obtain ⟨cs', hc, rfl⟩ := Option.map_eq_some_iff.1 hm
    simp only [lay1] at hl ⊢
    obtain ⟨g1, g2⟩ := layL_ok (P := P) (w := w) (Pr := Pr) (R := fun u => u.oneCell' = true) (n := n) (m := m) hρ hc hl
    refine ⟨g1, fun u h => ?_⟩
    obtain ⟨us, rfl, h⟩ := h
    exact ⟨us, rfl, g2 us h⟩
  | tup vs => simp [map1, map0] at hm
  | own e xs =>
    simp only [map1, map0, Option.some.injEq] at hm; subst hm
    have := layV_ok (P := P) (w := w) (Pr := Pr) (n := n) (m := m) hρ (v := .own e xs) rfl hl
    exact ⟨rfl, this.2⟩
  | own2 e xs =>
    simp only [map1, map0, Option.some.injEq] at hm; subst hm
    have := layV_ok (P := P) (w := w) (Pr := Pr) (n := n) (m := m) hρ (v := .own2 e xs) rfl hl
    exact ⟨rfl, this.2⟩
  | ptr id off => have hm' := hm; obtain ⟨j, hj, rfl⟩ := Option.map_eq_some_iff.1 hm; exact ⟨rfl, fun u h => map1_ok hρ hm' h⟩
  | arr id => have hm' := hm; obtain ⟨j, hj, rfl⟩ := Option.map_eq_some_iff.1 hm; exact ⟨rfl, fun u h => map1_ok hρ hm' h⟩
  | inn id i => have hm' := hm; obtain ⟨j, hj, rfl⟩ := Option.map_eq_some_iff.1 hm; exact ⟨rfl, fun u h => map1_ok hρ hm' h⟩
  | win id lo n => have hm' := hm; obtain ⟨j, hj, rfl⟩ := Option.map_eq_some_iff.1 hm; exact ⟨rfl, fun u h => map1_ok hρ hm' h⟩
  | eptr id i sub => have hm' := hm; obtain ⟨j, hj, rfl⟩ := Option.map_eq_some_iff.1 hm; exact ⟨rfl, fun u h => map1_ok hρ hm' h⟩
  | iptr id i k => have hm' := hm; obtain ⟨j, hj, rfl⟩ := Option.map_eq_some_iff.1 hm; exact ⟨rfl, fun u h => map1_ok hρ hm' h⟩
  | _ => have hm' := hm; simp only [map1, map0, Option.some.injEq] at hm; subst hm; exact ⟨rfl, fun u h => map1_ok hρ hm' h⟩

theorem layT_ok (hρ : Ren ρ vw vw') : ∀ {cs cs' : List V} {n m : Nat}, mapL1 ρ cs = some cs' → (∀ i, i < (layT n cs).2.length → vw (n + i) ≠ none → vw' (m + i) = vw (n + i)) →
    (layT m cs').2 = (layT n cs).2 ∧ ∀ us, All2 (VRel1 P w Pr vw) (layT n cs).1 us → All2 (VRel1 P w Pr vw') (layT m cs').1 us
  | [], cs', n, m, hm, hl => by
    simp [mapL1] at hm; subst hm
    exact ⟨rfl, fun us h => by cases us with | nil => trivial | cons _ _ => exact h.elim⟩
  | c :: r, cs', n, m, hm, hl => by
    simp only [mapL1] at hm
    split at hm
    · rename_i x y h1 h2
      cases hm
      simp only [layT] at hl ⊢
      rw [List.length_append] at hl
      obtain ⟨g1, g2⟩ := lay1_ok (P := P) (w := w) (Pr := Pr) (n := n) (m := m) hρ h1 (fun i hi => hl i (by omega))
      obtain ⟨g3, g4⟩ := layT_ok (cs := r) (cs' := y) (n := n + (lay1 n c).2.length) (m := m + (lay1 n c).2.length) hρ h2 (fun i hi hne => by
        have := hl ((lay1 n c).2.length + i) (by omega)
        rw [← Nat.add_assoc, ← Nat.add_assoc] at this
        exact this hne)
      rw [g1]
      refine ⟨by rw [g3], fun us h => ?_⟩
      cases us with
      | nil => exact h.elim
      | cons u us => exact ⟨g2 u h.1, g4 us h.2⟩
    · cases hm

theorem lay_ok (hρ : Ren ρ vw vw') {n m : Nat} {v v' : V} (hm : map2 ρ v = some v') (hl : ∀ i, i < (lay n v).2.length → vw (n + i) ≠ none → vw' (m + i) = vw (n + i)) :
    (lay m v').2 = (lay n v).2 ∧ ∀ u, VRel P w Pr vw (lay n v).1 u → VRel P w Pr vw' (lay m v').1 u := by
  have key : ∀ {v v' : V}, map1 ρ v = some v' → (∀ vs, v ≠ .tup vs) → (∀ vs, v' ≠ .tup vs) → lay n v = lay1 n v → lay m v' = lay1 m v' → (∀ i, i < (lay n v).2.length → vw (n + i) ≠ none → vw' (m + i) = vw (n + i)) →
      (lay m v').2 = (lay n v).2 ∧ ∀ u, VRel P w Pr vw (lay n v).1 u → VRel P w Pr vw' (lay m v').1 u := by
    intro v v' h1 hn hn' e1 e2 hl
    rw [e1] at hl ⊢
    rw [e2]
    obtain ⟨g1, g2⟩ := lay1_ok (P := P) (w := w) (Pr := Pr) (n := n) (m := m) hρ h1 hl
    refine ⟨g1, fun u h => (g2 u ?_).toV⟩
    have nt : ∀ vs, (lay1 n v).1 ≠ .tup vs := by
      intro vs
      cases v <;> simp [lay1, layV]
      exact (hn _ rfl).elim
    revert h
    generalize (lay1 n v).1 = z at nt
    intro h
    cases z with
    | tup vs => exact (nt vs rfl).elim
    | _ => exact h
  cases v with
  | tup cs =>
    obtain ⟨cs', hc, rfl⟩ := Option.map_eq_some_iff.1 hm
    simp only [lay] at hl ⊢
    obtain ⟨g1, g2⟩ := layT_ok (P := P) (w := w) (Pr := Pr) (n := n) (m := m) hρ hc hl
    refine ⟨g1, fun u h => ?_⟩
    obtain ⟨us, rfl, h⟩ := h
    exact ⟨us, rfl, g2 us h⟩
  | func f cap => have hm' := hm; obtain ⟨cs, hc, rfl⟩ := Option.map_eq_some_iff.1 hm; exact key hm' (by simp) (by simp) rfl rfl hl
  | iface t x => have hm' := hm; obtain ⟨cs, hc, rfl⟩ := Option.map_eq_some_iff.1 hm; exact key hm' (by simp) (by simp) rfl rfl hl
  | agg cs => have hm' := hm; obtain ⟨cs, hc, rfl⟩ := Option.map_eq_some_iff.1 hm; exact key hm' (by simp) (by simp) rfl rfl hl
  | ptr id off => have hm' := hm; obtain ⟨cs, hc, rfl⟩ := Option.map_eq_some_iff.1 hm; exact key hm' (by simp) (by simp) rfl rfl hl
  | arr id => have hm' := hm; obtain ⟨cs, hc, rfl⟩ := Option.map_eq_some_iff.1 hm; exact key hm' (by simp) (by simp) rfl rfl hl
  | inn id i => have hm' := hm; obtain ⟨cs, hc, rfl⟩ := Option.map_eq_some_iff.1 hm; exact key hm' (by simp) (by simp) rfl rfl hl
  | win id lo n => have hm' := hm; obtain ⟨cs, hc, rfl⟩ := Option.map_eq_some_iff.1 hm; exact key hm' (by simp) (by simp) rfl rfl hl
  | eptr id i sub => have hm' := hm; obtain ⟨cs, hc, rfl⟩ := Option.map_eq_some_iff.1 hm; exact key hm' (by simp) (by simp) rfl rfl hl
  | iptr id i k => have hm' := hm; obtain ⟨cs, hc, rfl⟩ := Option.map_eq_some_iff.1 hm; exact key hm' (by simp) (by simp) rfl rfl hl
  | _ => have hm' := hm; simp only [map2, map1, map0, Option.some.injEq] at hm; subst hm; exact key hm' (by simp) (by simp) rfl rfl hl

/-! ### what is laid -/

def B.listy : B → Prop
  | .lst _ _ => True
  | .lst2 _ _ => True
  | _ => False
def B.safe : B → Bool
  | .lst _ xs => xs.all D.safe
  | .lst2 _ xss => xss.all fun | some ys => ys.all D.safe | none => true
  | _ => false

theorem layV_listy (n : Nat) (v : V) : ∀ b ∈ (layV n v).2, b.listy ∧ (v.safe0 = true → b.safe = true) := by
  intro b hb
  cases v with
  | own e xs => simp [layV] at hb; subst hb; exact ⟨trivial, fun h => h⟩
  | own2 e xs => simp [layV] at hb; subst hb; exact ⟨trivial, fun h => h⟩
  | _ => simp [layV] at hb
theorem layL_listy : ∀ (cs : List V) (n : Nat), ∀ b ∈ (layL n cs).2, b.listy ∧ (cs.all V.safe0 = true → b.safe = true)
  | [], n, b, hb => by simp [layL] at hb
  | c :: r, n, b, hb => by
    simp only [layL, List.mem_append] at hb
    rcases hb with hb | hb
    · obtain ⟨h1, h2⟩ := layV_listy n c b hb
      exact ⟨h1, fun h => h2 (by simp at h; exact h.1)⟩
    · obtain ⟨h1, h2⟩ := layL_listy r _ b hb
      exact ⟨h1, fun h => h2 (by simp only [List.all_cons, Bool.and_eq_true] at h; exact h.2)⟩
theorem lay1_listy (n : Nat) (v : V) : ∀ b ∈ (lay1 n v).2, b.listy ∧ (v.safe1 = true → b.safe = true) := by
  cases v with
  | agg cs => exact layL_listy cs n
  | _ => exact layV_listy n _
theorem layT_listy : ∀ (cs : List V) (n : Nat), ∀ b ∈ (layT n cs).2, b.listy ∧ (cs.all V.safe1 = true → b.safe = true)
  | [], n, b, hb => by simp [layT] at hb
  | c :: r, n, b, hb => by
    simp only [layT, List.mem_append] at hb
    rcases hb with hb | hb
    · obtain ⟨h1, h2⟩ := lay1_listy n c b hb
      exact ⟨h1, fun h => h2 (by simp only [List.all_cons, Bool.and_eq_true] at h; exact h.1)⟩
    · obtain ⟨h1, h2⟩ := layT_listy r _ b hb
      exact ⟨h1, fun h => h2 (by simp only [List.all_cons, Bool.and_eq_true] at h; exact h.2)⟩
theorem lay_listy (n : Nat) (v : V) : ∀ b ∈ (lay n v).2, b.listy ∧ (v.safe = true → b.safe = true) := by
  cases v with
  | tup cs => exact layT_listy cs n
  | _ => exact lay1_listy n _

theorem drel_safe0 {x : D} {u : Value} (h : DRel w Pr x u) (hs : x.safe0 = true) : DRel w' Pr' x u := by
  cases x with
  | int k n => rw [drel_int h]; exact .int _ _
  | bool b => rw [drel_bool h]; exact .bool _
  | str l => obtain ⟨t, rfl, rfl⟩ := drel_str h; exact .str _
  | sl xs =>
    cases xs with
    | nil => obtain ⟨base, cap, rfl, _⟩ := slRel_of_drel h; exact .sl0 _ _
    | cons _ _ => simp [D.safe0] at hs
  | agg ds => simp [D.safe0] at hs
  | inil => cases h; exact .inil
  | iany => cases h; exact .iany _ _
theorem drel_safe {x : D} {u : Value} (h : DRel w Pr x u) (hs : x.safe = true) : DRel w' Pr' x u := by
  cases x with
  | agg ds =>
    obtain ⟨cs, rfl, hl, h1, hd⟩ := drel_agg h
    exact .agg ds cs hl h1 fun j d v hj hv => drel_safe0 (hd j d v hj hv) (List.all_eq_true.1 hs d (List.mem_of_getElem? hj))
  | _ => exact drel_safe0 h hs
theorem cells_safe {x y : D} {j : Nat} (hs : x.safe = true) (hy : x.cells[j]? = some y) : y.safe0 = true := by
  have key : x.safe0 = true → x.cells = [x] → y.safe0 = true := by
    intro h1 h2
    rw [h2] at hy
    cases j with
    | zero => simp at hy; subst hy; exact h1
    | succ j => simp at hy
  cases x with
  | agg ds => exact List.all_eq_true.1 hs y (List.mem_of_getElem? hy)
  | _ => exact key hs rfl

theorem rows_safe {wd : Nat} {xs : List D} {cs : List Value} (h : Rows' w Pr wd xs cs) (hs : xs.all D.safe = true) : Rows' w' Pr' wd xs cs :=
  ⟨h.1, fun i x hx => ⟨(h.2 i x hx).1, fun j y hy => let ⟨u, h1, h2⟩ := (h.2 i x hx).2 j y hy; ⟨u, h1, drel_safe0 h2 (cells_safe (List.all_eq_true.1 hs x (List.mem_of_getElem? hx)) hy)⟩⟩⟩

theorem brel_listy {b : B} {c : CB} (hb : b.listy) (h : BRel P w Pr vw b c) (hp : (∀ k, Pr k → Pr' k) ∨ b.safe = true) : BRel P w Pr' vw' b c := by
  rcases hp with hp | hp
  · exact h.mono P hp (fun _ _ => rfl) (fun _ _ => rfl) (by cases b <;> first | exact hb.elim | simp [idsB])
  · cases b with
    | lst e xs =>
      cases c with
      | lst hh => obtain ⟨wd, cs, h1, h2, h3⟩ := h; exact ⟨wd, cs, h1, h2, rows_safe h3 hp⟩
      | _ => exact h.elim
    | lst2 s xss =>
      cases c with
      | lst2 k cap inner =>
        obtain ⟨cur, e, wd, h1, h2, h3, h4, h5, h6, h7, h8, h9, h10⟩ := h
        refine ⟨cur, e, wd, h1, h2, h3, h4, h5, h6, h7, h8, h9, fun i ys hh hi hj => ?_⟩
        obtain ⟨g1, cs, g2, g3⟩ := h10 i ys hh hi hj
        exact ⟨g1, cs, g2, rows_safe g3 (List.all_eq_true.1 hp (some ys) (List.mem_of_getElem? hi))⟩
      | _ => exact h.elim
    | box _ => exact hb.elim
    | dead => exact hb.elim

theorem lay_safeV {n : Nat} {v : V} {u : Value} (hs : v.safe0 = true) (h : VRel0 P w Pr vw (layV n v).1 u) : VRel0 P w' Pr' vw (layV n v).1 u := by
  cases v with
  | d x => exact drel_safe (show DRel w Pr x u from h) hs
  | own e xs => exact h
  | own2 e xs => exact h
  | emp b => cases b <;> exact h
  | nnil => exact h
  | _ => simp [V.safe0] at hs
theorem lay_safeL {R : Value → Prop} : ∀ {cs : List V} {n : Nat} {us : List Value}, cs.all V.safe0 = true → All2 (fun c u => VRel0 P w Pr vw c u ∧ R u) (layL n cs).1 us → All2 (fun c u => VRel0 P w' Pr' vw c u ∧ R u) (layL n cs).1 us
  | [], n, us, _, h => by cases us with | nil => trivial | cons _ _ => exact h.elim
  | c :: r, n, us, hs, h => by
    simp only [List.all_cons, Bool.and_eq_true] at hs
    cases us with
    | nil => exact h.elim
    | cons u us => exact ⟨⟨lay_safeV hs.1 h.1.1, h.1.2⟩, lay_safeL hs.2 h.2⟩
theorem lay_safe1 {n : Nat} {v : V} {u : Value} (hs : v.safe1 = true) (h : VRel1 P w Pr vw (lay1 n v).1 u) : VRel1 P w' Pr' vw (lay1 n v).1 u := by
  cases v with
  | agg cs => obtain ⟨us, rfl, h⟩ := h; exact ⟨us, rfl, lay_safeL hs h⟩
  | d x => exact lay_safeV (P := P) (w := w) (Pr := Pr) (vw := vw) (n := n) (v := .d x) hs h
  | own e xs => exact h
  | own2 e xs => exact h
  | emp b => cases b <;> exact h
  | nnil => exact h
  | _ => simp [V.safe1, V.safe0] at hs
theorem lay_safeT : ∀ {cs : List V} {n : Nat} {us : List Value}, cs.all V.safe1 = true → All2 (VRel1 P w Pr vw) (layT n cs).1 us → All2 (VRel1 P w' Pr' vw) (layT n cs).1 us
  | [], n, us, _, h => by cases us with | nil => trivial | cons _ _ => exact h.elim
  | c :: r, n, us, hs, h => by
    simp only [List.all_cons, Bool.and_eq_true] at hs
    cases us with
    | nil => exact h.elim
    | cons u us => exact ⟨lay_safe1 hs.1 h.1, lay_safeT hs.2 h.2⟩
theorem lay_safe {n : Nat} {v : V} {u : Value} (hs : v.safe = true) (h : VRel P w Pr vw (lay n v).1 u) : VRel P w' Pr' vw (lay n v).1 u := by
  cases v with
  | tup cs => obtain ⟨us, rfl, h⟩ := h; exact ⟨us, rfl, lay_safeT hs h⟩
  | agg cs => exact lay_safe1 (P := P) (w := w) (Pr := Pr) (vw := vw) (n := n) (v := .agg cs) hs h
  | d x => exact lay_safeV (P := P) (w := w) (Pr := Pr) (vw := vw) (n := n) (v := .d x) hs h
  | own e xs => exact h
  | own2 e xs => exact h
  | emp b => cases b <;> exact h
  | nnil => exact h
  | _ => simp [V.safe, V.safe1, V.safe0] at hs

end Go.Proofs.Ytbbefbgomdmldaa.Ab
