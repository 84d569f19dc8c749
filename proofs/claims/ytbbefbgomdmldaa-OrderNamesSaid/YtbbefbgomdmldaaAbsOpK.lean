/- Lists that grow, as operations. -/
import Derived.Test.YtbbefbgomdmldaaAbsOpJ
namespace Go.Proofs.Ytbbefbgomdmldaa.Ab
open Go
set_option linter.unusedVariables false
set_option linter.unusedSimpArgs false

variable {P : Program} {O : Orc} {s : St} {sc sc' : Script} {w w' : World} {Pr Pr' : Nat → Prop} {vw vw' : Nat → Option VW} {bl : List B} {μ : List CB} {a : Act}

theorem own_nodup {i : Nat} {c : CB} (h : (owns μ).Nodup) (hc : μ[i]? = some c) : c.own.Nodup := by
  induction μ generalizing i with
  | nil => simp at hc
  | cons x r ih =>
    obtain ⟨h1, h2, h3⟩ := List.nodup_append.1 (show (x.own ++ owns r).Nodup from h)
    cases i with
    | zero => simp at hc; subst hc; exact h1
    | succ i => exact ih h2 (by simpa using hc)

theorem mem_owns_set : ∀ {μ : List CB} {id : Nat} {c' : CB} {q : Nat}, q ∈ owns (μ.set id c') → q ∈ c'.own ∨ ∃ j d, j ≠ id ∧ μ[j]? = some d ∧ q ∈ d.own := by
  intro μ id c' q hq
  obtain ⟨d, hd, hqd⟩ := List.mem_flatMap.1 hq
  obtain ⟨j, hj⟩ := List.getElem?_of_mem hd
  by_cases hji : j = id
  · subst hji
    have hlt : j < μ.length := by have := (List.getElem?_eq_some_iff.1 hj).1; simpa using this
    rw [List.getElem?_set_self hlt] at hj
    cases hj; exact .inl hqd
  · rw [List.getElem?_set, if_neg (fun e => hji e.symm)] at hj
    exact .inr ⟨j, d, hji, hj, hqd⟩

theorem nodup_owns_set : ∀ {μ : List CB} {id : Nat} {c c' : CB}, (owns μ).Nodup → μ[id]? = some c → c'.own.Nodup → (∀ q ∈ c'.own, q ∈ c.own ∨ q ∉ owns μ) → (owns (μ.set id c')).Nodup
  | [], id, c, c', _, hc, _, _ => by simp at hc
  | x :: r, 0, c, c', h, hc, hnd, hq => by
    simp at hc; subst hc
    have h' : (x.own ++ owns r).Nodup := h
    obtain ⟨h1, h2, h3⟩ := List.nodup_append.1 h'
    show (c'.own ++ owns r).Nodup
    refine List.nodup_append.2 ⟨hnd, h2, fun p hp p' hp' e => ?_⟩
    subst e
    rcases hq p hp with hx | hx
    · exact h3 p hx p hp' rfl
    · exact hx (List.mem_append.2 (.inr hp'))
  | x :: r, id + 1, c, c', h, hc, hnd, hq => by
    have h' : (x.own ++ owns r).Nodup := h
    obtain ⟨h1, h2, h3⟩ := List.nodup_append.1 h'
    have hc' : r[id]? = some c := by simpa using hc
    have ih := nodup_owns_set (μ := r) (id := id) h2 hc' hnd (fun q hqm => (hq q hqm).imp_right fun hn hm => hn (List.mem_append.2 (.inr hm)))
    show (x.own ++ owns (r.set id c')).Nodup
    refine List.nodup_append.2 ⟨h1, ih, fun p hp p' hp' e => ?_⟩
    subst e
    rcases mem_owns_set hp' with hx | ⟨j, d, _, hd, hpd⟩
    · rcases hq p hx with hy | hy
      · exact h3 p hp p (List.mem_flatMap.2 ⟨c, List.mem_of_getElem? hc', hy⟩) rfl
      · exact hy (List.mem_append.2 (.inl hp))
    · exact h3 p hp p (List.mem_flatMap.2 ⟨d, List.mem_of_getElem? hd, hpd⟩) rfl

/-- A list's block is another one; its other references go. -/
theorem Rel.setList {id : Nat} {k : KK} {b b' : B} {c c' : CB} (h : Rel P s a w μ Pr) (hb : s.blks[id]? = some b) (hc : μ[id]? = some c) (hlst : ∀ q, vwOf b c ≠ some (.box q)) (hk : ∀ d, k ≠ .frz d)
    (hS : Same w w' (· ∈ c.own)) (hnd : c'.own.Nodup) (hown : ∀ q ∈ c'.own, q ∈ c.own ∨ (w.heap.size ≤ q ∧ q < w'.heap.size))
    (hin : k = .inner → ∀ v u, (∀ j, v ≠ .inn id j) → (∀ j n, v ≠ .iptr id j n) → ids0 v = [id] → VRel0 P w Pr (view s.blks μ) v u → VRel0 P w' Pr (view ((s.blks.map (killB id k)).set id b') (μ.set id c')) v u)
    (hB : BRel P w' Pr (view ((s.blks.map (killB id k)).set id b') (μ.set id c')) b' c') :
    Rel P ⟨s.slots.map (kill1 id k), (s.blks.map (killB id k)).set id b'⟩ a w' (μ.set id c') Pr ∧ Evo (owns μ) Pr w (owns (μ.set id c')) Pr w' := by
  have hco : ∀ q ∈ c.own, q ∈ owns μ := fun q hq => List.mem_flatMap.2 ⟨c, List.mem_of_getElem? hc, hq⟩
  have hev : Evo (owns μ) Pr w (owns (μ.set id c')) Pr w' := by
    refine ⟨hS.os, hS.tape, hS.output, hS.size, fun q hq hno => hS.block q hq (fun hm => hno (hco q hm)), fun q hq => ?_, fun _ h => h, fun _ h => .inl h⟩
    rcases mem_owns_set hq with h1 | ⟨j, d, _, hd, hqd⟩
    · rcases hown q h1 with h2 | h2
      · exact .inl (hco q h2)
      · exact .inr h2.1
    · exact .inl (List.mem_flatMap.2 ⟨d, List.mem_of_getElem? hd, hqd⟩)
  refine ⟨h.killSet hb hc hlst hev (fun q hq hqc => hS.block q (h.lt q hq).1 hqc) (fun d hd => (hk d hd).elim) hin hB (nodup_owns_set h.nodup hc hnd fun q hq => (hown q hq).imp_right fun h2 hm => by have := (h.lt q hm).1; omega) (fun q hq => ?_) (fun q hq => Nat.lt_of_lt_of_le (h.pr q hq) hS.size), hev⟩
  rcases mem_owns_set hq with h1 | ⟨j, d, _, hd, hqd⟩
  · rcases hown q h1 with h2 | h2
    · exact ⟨Nat.lt_of_lt_of_le (h.lt q (hco q h2)).1 hS.size, (h.lt q (hco q h2)).2⟩
    · exact ⟨h2.2, fun hp => by have := h.pr q hp; omega⟩
  · have := h.lt q (List.mem_flatMap.2 ⟨d, List.mem_of_getElem? hd, hqd⟩)
    exact ⟨Nat.lt_of_lt_of_le this.1 hS.size, this.2⟩

/-! ### append -/

/-- The type of a list's elements is one that the laws on rows take. -/
theorem rowOk_ok {e : TypeId} (h : rowOk P e = true) : ∃ i z, P.info? e = some i ∧ i.zero = some z ∧ z.cells.size = i.size ∧ 0 < i.size ∧ szOf P e = some i.size ∧ maxItems * i.bytes ≤ 140737488355328 := by
  unfold rowOk at h
  split at h
  · rename_i i hi
    split at h
    · rename_i z hz
      simp only [Bool.and_eq_true, beq_iff_eq, decide_eq_true_eq] at h
      refine ⟨i, z, hi, hz, h.1.1, h.1.2, by simp [szOf, hi], ?_⟩
      have hmi : maxItems = 1099511627776 := by decide
      rw [hmi]
      omega
    · cases h
  · cases h

theorem rows_append {wd : Nat} {xs ys : List D} {cs news : List Value} (hl : cs.length = xs.length * wd) (h : Rows' w Pr wd xs cs) (h1 : ∀ u ∈ news, u.oneCell' = true)
    (h2 : ∀ i y, ys[i]? = some y → y.cells.length = wd ∧ ∀ j d, y.cells[j]? = some d → ∃ u, news[i * wd + j]? = some u ∧ DRel w Pr d u) : Rows' w Pr wd (xs ++ ys) (cs ++ news) := by
  refine ⟨fun u hu => (List.mem_append.1 hu).elim (h.1 u) (h1 u), fun i x hx => ?_⟩
  by_cases hi : i < xs.length
  · rw [List.getElem?_append_left hi] at hx
    obtain ⟨g1, g2⟩ := h.2 i x hx
    refine ⟨g1, fun j y hy => ?_⟩
    obtain ⟨u, g3, g4⟩ := g2 j y hy
    refine ⟨u, ?_, g4⟩
    rw [List.getElem?_append_left (by have := (List.getElem?_eq_some_iff.1 g3).1; exact this)]
    exact g3
  · rw [List.getElem?_append_right (by omega)] at hx
    obtain ⟨g1, g2⟩ := h2 _ x hx
    refine ⟨g1, fun j y hy => ?_⟩
    obtain ⟨u, g3, g4⟩ := g2 j y hy
    refine ⟨u, ?_, g4⟩
    have e1 : i * wd + j = cs.length + ((i - xs.length) * wd + j) := by
      rw [hl, ← Nat.add_assoc, ← Nat.add_mul]
      congr 2
      omega
    rw [e1, List.getElem?_append_right (by omega)]
    simpa using g3

theorem rows_nil (wd : Nat) : Rows' w Pr wd [] [] := ⟨by simp, by simp⟩

theorem roomQ_ok {α : Type} {n : Nat} {k : Q α} {r : α} (h : Hold O s (roomQ n k) sc r sc') : n ≤ maxItems ∧ ∃ sc1, Hold O s k sc1 r sc' := by
  unfold roomQ at h
  rw [hold_pop] at h
  rcases h with ⟨_, h⟩ | ⟨it, u, _, h⟩
  · simp only at h
    split at h
    · rename_i hc; exact ⟨hc, _, h⟩
    · exact (hold_fail.1 h).elim
  · obtain ⟨h1, h2⟩ := hold_req.1 h; exact ⟨h1, _, h2⟩

theorem ownR_len {e wd n : Nat} {h : H} {cs : List Value} (ho : OwnR w e wd h n cs) : cs.length = n * wd := by
  cases h with
  | zero a => rw [ho.1, ho.2]; simp
  | row b cap => exact ho.1

theorem H.own_nodup (h : H) : h.own.Nodup := by cases h <;> simp [H.own]

end Go.Proofs.Ytbbefbgomdmldaa.Ab
