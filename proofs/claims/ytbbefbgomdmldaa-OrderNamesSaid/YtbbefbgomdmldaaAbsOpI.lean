/- A list that grows, is written, or is frozen: its other references go. -/
import Derived.Test.YtbbefbgomdmldaaAbsOpH
namespace Go.Proofs.Ytbbefbgomdmldaa.Ab
open Go
set_option linter.unusedVariables false
set_option linter.unusedSimpArgs false

variable {P : Program} {O : Orc} {s : St} {sc sc' : Script} {w w' : World} {Pr Pr' : Nat → Prop} {vw vw' : Nat → Option VW} {bl : List B} {μ : List CB} {a : Act}

theorem vwOf_kill (id : Nat) (k : KK) (b : B) (c : CB) : vwOf (killB id k b) c = vwOf b c := by cases b <;> cases c <;> rfl

/-- What must hold of the references that stay. -/
structure KillOk (P : Program) (w : World) (Pr : Nat → Prop) (vw : Nat → Option VW) (w' : World) (Pr' : Nat → Prop) (vw' : Nat → Option VW) (id : Nat) (k : KK) : Prop where
  prm : ∀ b, Pr b → Pr' b
  same : ∀ b, Pr b → w'.heap[b]? = w.heap[b]?
  view : ∀ j, j ≠ id → vw j ≠ none → vw' j = vw j
  lst : ∀ b, vw id ≠ some (.box b)
  frz : ∀ d, k = .frz d → ∀ u, VRel0 P w Pr vw (.arr id) u → DRel w' Pr' d u
  inner : k = .inner → ∀ v u, (∀ j, v ≠ .inn id j) → (∀ j n, v ≠ .iptr id j n) → ids0 v = [id] → VRel0 P w Pr vw v u → VRel0 P w' Pr' vw' v u

theorem kill0_ok {id : Nat} {k : KK} (hk : KillOk P w Pr vw w' Pr' vw' id k) {v : V} {u : Value} (h : VRel0 P w Pr vw v u) : VRel0 P w' Pr' vw' (kill0 id k v) u := by
  have key : (∀ j ∈ ids0 v, j ≠ id) → VRel0 P w' Pr' vw' v u := fun hj => h.mono P hk.prm hk.same (fun j hjm hne => hk.view j (hj j hjm) hne)
  cases v with
  | arr i =>
    simp only [kill0]
    split
    · rename_i hi; subst hi
      cases k with
      | gone => exact trivial
      | frz d => exact hk.frz d rfl u h
      | inner => exact hk.inner rfl _ u (by simp) (by simp) rfl h
    · rename_i hi; exact key (by simpa [ids0] using hi)
  | inn i j =>
    simp only [kill0]
    split
    · exact trivial
    · rename_i hi; exact key (by simpa [ids0] using hi)
  | iptr i j n =>
    simp only [kill0]
    split
    · exact trivial
    · rename_i hi; exact key (by simpa [ids0] using hi)
  | win i l n =>
    simp only [kill0]
    split
    · rename_i hi; subst hi
      cases k with
      | inner => exact hk.inner rfl _ u (by simp) (by simp) rfl h
      | _ => exact trivial
    · rename_i hi; exact key (by simpa [ids0] using hi)
  | eptr i j n =>
    simp only [kill0]
    split
    · rename_i hi; subst hi
      cases k with
      | inner => exact hk.inner rfl _ u (by simp) (by simp) rfl h
      | _ => exact trivial
    · rename_i hi; exact key (by simpa [ids0] using hi)
  | ptr i off =>
    by_cases hi : i = id
    · subst hi; obtain ⟨b, hb, _⟩ := h; exact (hk.lst b hb).elim
    · exact key (by simpa [ids0] using hi)
  | emp b => cases b <;> exact key (by simp [ids0])
  | _ => exact key (by simp [ids0])

theorem kill1_ok {id : Nat} {k : KK} (hk : KillOk P w Pr vw w' Pr' vw' id k) {v : V} {u : Value} (h : VRel1 P w Pr vw v u) : VRel1 P w' Pr' vw' (kill1 id k v) u := by
  have key : VRel0 P w Pr vw v u → VRel0 P w' Pr' vw' (kill0 id k v) u := fun h => kill0_ok hk h
  have hmap : ∀ {cs : List V} {us : List Value} {R : Value → Prop}, All2 (fun c u => VRel0 P w Pr vw c u ∧ R u) cs us → All2 (fun c u => VRel0 P w' Pr' vw' c u ∧ R u) (cs.map (kill0 id k)) us := by
    intro cs
    induction cs with
    | nil => intro us R h; cases us with | nil => trivial | cons _ _ => exact h.elim
    | cons c r ih => intro us R h; cases us with | nil => exact h.elim | cons u us => exact ⟨⟨kill0_ok hk h.1.1, h.1.2⟩, ih h.2⟩
  cases v with
  | agg cs => obtain ⟨us, rfl, h⟩ := h; exact ⟨us, rfl, hmap h⟩
  | iface t x => obtain ⟨y, rfl, h⟩ := h; exact ⟨y, rfl, kill0_ok hk h⟩
  | func f cap =>
    obtain ⟨us, rfl, h⟩ := h
    exact ⟨us, rfl, All2.mono (fun c u hcu => hcu.1) (hmap (R := fun _ => True) (All2.mono (fun c u hcu => ⟨hcu, trivial⟩) h))⟩
  | tup us => exact (show False from h).elim
  | _ => exact (key h).to1

theorem killV_ok {id : Nat} {k : KK} (hk : KillOk P w Pr vw w' Pr' vw' id k) {v : V} {u : Value} (h : VRel P w Pr vw v u) : VRel P w' Pr' vw' (kill1 id k v) u := by
  have key : VRel1 P w Pr vw v u → VRel1 P w' Pr' vw' (kill1 id k v) u := fun h => kill1_ok hk h
  cases v with
  | tup us => exact trivial
  | _ => exact (key h).toV

theorem killB_ok {id : Nat} {k : KK} (hk : KillOk P w Pr vw w' Pr' vw' id k) {b : B} {c : CB} (ho : ∀ j ∈ c.own, w'.heap[j]? = w.heap[j]?) (h : BRel P w Pr vw b c) : BRel P w' Pr' vw' (killB id k b) c := by
  cases b with
  | box cs =>
    cases c with
    | box b =>
      obtain ⟨us, e, h1, h2⟩ := h
      refine ⟨us, e, by rw [ho b (by simp [CB.own])]; exact h1, ?_⟩
      have : ∀ {cs : List V} {us : List Value}, All2 (fun c u => VRel1 P w Pr vw c u ∧ u.oneCell' = true) cs us → All2 (fun c u => VRel1 P w' Pr' vw' c u ∧ u.oneCell' = true) (cs.map (kill1 id k)) us := by
        intro cs
        induction cs with
        | nil => intro us h; cases us with | nil => trivial | cons _ _ => exact h.elim
        | cons c r ih => intro us h; cases us with | nil => exact h.elim | cons u us => exact ⟨⟨kill1_ok hk h.1.1, h.1.2⟩, ih h.2⟩
      exact this h2
    | _ => exact h.elim
  | _ => exact h.mono P hk.prm hk.same ho (by simp [idsB, killB])

theorem nodup_own : ∀ {μ : List CB}, (owns μ).Nodup → ∀ (i j : Nat) (c d : CB), μ[i]? = some c → μ[j]? = some d → i ≠ j → ∀ q, q ∈ c.own → q ∉ d.own
  | [], _, i, j, c, d, hi, _, _, _, _ => by simp at hi
  | x :: r, h, i, j, c, d, hi, hj, hij, q, hq => by
    have h' : (x.own ++ owns r).Nodup := h
    obtain ⟨h1, h2, h3⟩ := List.nodup_append.1 h'
    cases i with
    | zero =>
      simp at hi; subst hi
      cases j with
      | zero => exact (hij rfl).elim
      | succ j => intro hd; exact h3 q hq q (List.mem_flatMap.2 ⟨d, List.mem_of_getElem? (by simpa using hj), hd⟩) rfl
    | succ i =>
      cases j with
      | zero => simp at hj; subst hj; intro hd; exact h3 q hd q (List.mem_flatMap.2 ⟨c, List.mem_of_getElem? (by simpa using hi), hq⟩) rfl
      | succ j => exact nodup_own h2 i j c d (by simpa using hi) (by simpa using hj) (by omega) q hq

theorem view_killSet {id : Nat} {k : KK} {b' : B} {c' : CB} {j : Nat} (hj : j ≠ id) : view ((bl.map (killB id k)).set id b') (μ.set id c') j = view bl μ j := by
  unfold view
  rw [List.getElem?_set, if_neg (fun e => hj e.symm), List.getElem?_set, if_neg (fun e => hj e.symm), List.getElem?_map]
  cases bl[j]? with
  | none => rfl
  | some x => cases μ[j]? with
    | none => rfl
    | some c => simp [vwOf_kill]
theorem view_killSet_self {id : Nat} {k : KK} {b' : B} {c' : CB} (hb : id < bl.length) (hm : id < μ.length) : view ((bl.map (killB id k)).set id b') (μ.set id c') id = vwOf b' c' := by
  unfold view
  rw [List.getElem?_set_self (by simpa using hb), List.getElem?_set_self hm]

/-- A list's block is another; references to it go. -/
theorem Rel.killSet {id : Nat} {k : KK} {b b' : B} {c c' : CB} (h : Rel P s a w μ Pr) (hb : s.blks[id]? = some b) (hc : μ[id]? = some c) (hlst : ∀ q, vwOf b c ≠ some (.box q))
    (hev : Evo (owns μ) Pr w (owns (μ.set id c')) Pr' w') (hoth : ∀ q, q ∈ owns μ → q ∉ c.own → w'.heap[q]? = w.heap[q]?)
    (hfrz : ∀ d, k = .frz d → ∀ u, VRel0 P w Pr (view s.blks μ) (.arr id) u → DRel w' Pr' d u)
    (hin : k = .inner → ∀ v u, (∀ j, v ≠ .inn id j) → (∀ j n, v ≠ .iptr id j n) → ids0 v = [id] → VRel0 P w Pr (view s.blks μ) v u → VRel0 P w' Pr' (view ((s.blks.map (killB id k)).set id b') (μ.set id c')) v u)
    (hB : BRel P w' Pr' (view ((s.blks.map (killB id k)).set id b') (μ.set id c')) b' c')
    (hnd : (owns (μ.set id c')).Nodup) (hlt : ∀ q ∈ owns (μ.set id c'), q < w'.heap.size ∧ ¬ Pr' q) (hpr : ∀ q, Pr' q → q < w'.heap.size) :
    Rel P ⟨s.slots.map (kill1 id k), (s.blks.map (killB id k)).set id b'⟩ a w' (μ.set id c') Pr' := by
  have hpw : ∀ q, Pr q → w'.heap[q]? = w.heap[q]? := fun q hq => hev.block q (h.pr q hq) (fun hm => (h.lt q hm).2 hq)
  have hbl : id < s.blks.length := (List.getElem?_eq_some_iff.1 hb).1
  have hml : id < μ.length := (List.getElem?_eq_some_iff.1 hc).1
  have hK : KillOk P w Pr (view s.blks μ) w' Pr' (view ((s.blks.map (killB id k)).set id b') (μ.set id c')) id k :=
    ⟨hev.prm, hpw, fun j hj _ => view_killSet hj, fun q => by simp only [view, hb, hc]; exact hlst q, hfrz, hin⟩
  refine ⟨⟨by simp [h.mu], fun j x y hx hy => ?_, hnd, hlt, hpr⟩, h.defers, by simp [h.len], fun n v hv => ?_⟩
  · by_cases hj : j = id
    · subst hj
      rw [List.getElem?_set_self (by simpa using hbl)] at hx
      rw [List.getElem?_set_self hml] at hy
      cases hx; cases hy
      exact hB
    · rw [List.getElem?_set, if_neg (fun e => hj e.symm), List.getElem?_map, Option.map_eq_some_iff] at hx
      rw [List.getElem?_set, if_neg (fun e => hj e.symm)] at hy
      obtain ⟨x0, hx0, rfl⟩ := hx
      refine killB_ok hK (fun q hq => ?_) (h.blks j x0 y hx0 hy)
      have hqo : q ∈ owns μ := List.mem_flatMap.2 ⟨y, List.mem_of_getElem? hy, hq⟩
      refine hoth q hqo (fun hqc => ?_)
      -- q would be owned twice
      exact nodup_own h.nodup j id y c hy hc hj q hq hqc
  · rw [List.getElem?_map, Option.map_eq_some_iff] at hv
    obtain ⟨v0, hv0, rfl⟩ := hv
    exact killV_ok hK (h.slots n v0 hv0)

end Go.Proofs.Ytbbefbgomdmldaa.Ab
