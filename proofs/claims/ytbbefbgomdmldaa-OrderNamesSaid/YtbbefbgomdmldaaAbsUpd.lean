/- How the relation between abstract and concrete states is kept. -/
import Derived.Test.YtbbefbgomdmldaaAbsRel
namespace Go.Proofs.Ytbbefbgomdmldaa.Ab
open Go
set_option linter.unusedVariables false

variable (P : Program)

theorem ownR_same {w w' : World} {e : TypeId} {wd : Nat} {h : H} {n : Nat} {cs : List Value} (hb : ∀ b ∈ h.own, w'.heap[b]? = w.heap[b]?) (ho : OwnR w e wd h n cs) : OwnR w' e wd h n cs := by
  cases h with
  | zero a => exact ho
  | row b cap =>
    refine ⟨ho.1, ?_⟩
    rcases ho.2 with ⟨hv, _⟩ | ⟨g, c, cur, hv, hg, hh, rest⟩
    · simp at hv
    · simp at hv
      obtain ⟨rfl, rfl⟩ := hv
      exact .inr ⟨_, _, cur, rfl, hg, by rw [hb _ (by simp [H.own])]; exact hh, rest⟩

section
variable {w w' : World} {Pr Pr' : Nat → Prop} {vw vw' : Nat → Option VW}

theorem Rows'.mono (hp : ∀ b, Pr b → Pr' b) (hw : ∀ b, Pr b → w'.heap[b]? = w.heap[b]?) {wd : Nat} {xs : List D} {cs : List Value} (h : Rows' w Pr wd xs cs) : Rows' w' Pr' wd xs cs :=
  ⟨h.1, fun i x hx => ⟨(h.2 i x hx).1, fun j y hy => let ⟨u, h1, h2⟩ := (h.2 i x hx).2 j y hy; ⟨u, h1, h2.mono hp hw⟩⟩⟩

theorem BRel.mono (hp : ∀ b, Pr b → Pr' b) (hw : ∀ b, Pr b → w'.heap[b]? = w.heap[b]?) {b : B} {c : CB} (ho : ∀ k ∈ c.own, w'.heap[k]? = w.heap[k]?)
    (hv : ∀ id ∈ idsB b, vw id ≠ none → vw' id = vw id) (h : BRel P w Pr vw b c) : BRel P w' Pr' vw' b c := by
  cases b with
  | box cells =>
    cases c with
    | box k =>
      obtain ⟨cs, e, h1, h2⟩ := h
      exact ⟨cs, e, by rw [ho k (by simp [CB.own])]; exact h1, All2.monoMem (fun a ha b hab => ⟨hab.1.mono P hp hw (fun id hi => hv id (List.mem_flatMap.2 ⟨a, ha, hi⟩)), hab.2⟩) h2⟩
    | _ => exact h.elim
  | lst e xs =>
    cases c with
    | lst hh =>
      obtain ⟨wd, cs, h1, h2, h3⟩ := h
      exact ⟨wd, cs, h1, ownR_same (fun b hb => ho b hb) h2, h3.mono hp hw⟩
    | _ => exact h.elim
  | lst2 s xss =>
    cases c with
    | lst2 k cap inner =>
      obtain ⟨cur, e, wd, h1, h2, h3, h4, h5, h6, h7, h8, h9, h10⟩ := h
      refine ⟨cur, e, wd, by rw [ho k (by simp [CB.own])]; exact h1, h2, h3, h4, h5, h6, h7, h8, h9, fun i ys hh hi hj => ?_⟩
      obtain ⟨g1, cs, g2, g3⟩ := h10 i ys hh hi hj
      refine ⟨g1, cs, ownR_same (fun b hb => ho b ?_) g2, g3.mono hp hw⟩
      simp only [CB.own, List.mem_cons, List.mem_flatMap]
      exact .inr ⟨_, List.mem_of_getElem? hj, hb⟩
    | _ => exact h.elim
  | dead =>
    cases c with
    | dead => trivial
    | _ => exact h.elim
end

theorem Rel.update {s s' : St} {a a' : Act} {w w' : World} {μ μ' : List CB} {Pr Pr' : Nat → Prop} (h : Rel P s a w μ Pr) (K : Nat → Prop)
    (hev : Evo (owns μ) Pr w (owns μ') Pr' w') (hdef : a'.defers = []) (hlen : s'.slots.length = a'.tmps.size) (hmu : μ'.length = s'.blks.length)
    (hview : ∀ id, ¬ K id → view s.blks μ id ≠ none → view s'.blks μ' id = view s.blks μ id)
    (hslots : ∀ (n : Nat) (v : V), s'.slots[n]? = some v → (s.slots[n]? = some v ∧ a'.tmps.getD n undef = a.tmps.getD n undef ∧ ∀ id ∈ idsV v, ¬ K id) ∨ VRel P w' Pr' (view s'.blks μ') v (a'.tmps.getD n undef))
    (hblks : ∀ (id : Nat) (b : B) (c : CB), s'.blks[id]? = some b → μ'[id]? = some c → (s.blks[id]? = some b ∧ μ[id]? = some c ∧ (∀ k ∈ c.own, w'.heap[k]? = w.heap[k]?) ∧ ∀ i ∈ idsB b, ¬ K i) ∨ BRel P w' Pr' (view s'.blks μ') b c)
    (hnd : (owns μ').Nodup) (hlt : ∀ b ∈ owns μ', b < w'.heap.size ∧ ¬ Pr' b) (hpr : ∀ b, Pr' b → b < w'.heap.size) : Rel P s' a' w' μ' Pr' := by
  have hpw : ∀ b, Pr b → w'.heap[b]? = w.heap[b]? := fun b hb => hev.block b (h.pr b hb) (fun hm => (h.lt b hm).2 hb)
  refine ⟨⟨hmu, fun id b c hb hc => ?_, hnd, hlt, hpr⟩, hdef, hlen, fun n v hv => ?_⟩
  rotate_left
  · rcases hslots n v hv with ⟨h1, h2, h3⟩ | h1
    · rw [h2]
      exact (h.slots n v h1).mono P hev.prm hpw (fun id hi hne => hview id (h3 id hi) hne)
    · exact h1
  · rcases hblks id b c hb hc with ⟨h1, h2, h3, h4⟩ | h1
    · exact (h.blks id b c h1 h2).mono P hev.prm hpw h3 (fun i hi hne => hview i (h4 i hi) hne)
    · exact h1

/-! ### a slot is set -/

theorem getD_put (a : Act) (d : Nat) (x : Value) (n : Nat) (hd : d < a.tmps.size) : (a.put (some d) x).tmps.getD n undef = if n = d then x else a.tmps.getD n undef := by
  simp only [Act.put, Array.getD_eq_getD_getElem?, Array.getElem?_setIfInBounds]
  by_cases h : d = n
  · subst h; simp [hd]
  · rw [if_neg h, if_neg (fun e => h e.symm)]

theorem size_put (a : Act) (d : Option Nat) (x : Value) : (a.put d x).tmps.size = a.tmps.size := by cases d <;> simp [Act.put]
theorem defers_put (a : Act) (d : Option Nat) (x : Value) : (a.put d x).defers = a.defers := by cases d <;> rfl
theorem put_out (a : Act) (d : Nat) (x : Value) (hd : ¬ d < a.tmps.size) : a.put (some d) x = a := by
  simp only [Act.put]
  have : a.tmps.setIfInBounds d x = a.tmps := by rw [Array.setIfInBounds]; simp [hd]
  rw [this]

def setSlot (s : St) (d : Option Nat) (v : V) : St := match d with
  | some d => ⟨s.slots.set d v, s.blks⟩
  | none => s

theorem setSlot_blks (s : St) (d : Option Nat) (v : V) : (setSlot s d v).blks = s.blks := by cases d <;> rfl

theorem putP_apply (dst : Option Nat) (v : V) (s : St) : (putP dst v).apply s = setSlot s dst v := by
  cases dst <;> simp [putP, Patch.apply, setAll, modAll, setSlot]

theorem Rel.setSlot {s : St} {a : Act} {w : World} {μ : List CB} {Pr : Nat → Prop} (h : Rel P s a w μ Pr) (d : Option Nat) {v : V} {x : Value} (hv : VRel P w Pr (view s.blks μ) v x) :
    Rel P (setSlot s d v) (a.put d x) w μ Pr := by
  cases d with
  | none => exact h
  | some d =>
    by_cases hd : d < a.tmps.size
    · refine h.update P (fun _ => False) (.refl _ _ _) h.defers (by simp [Ab.setSlot, h.len, size_put]) h.mu (fun _ _ _ => rfl) (fun n u hu => ?_) (fun id b c hb hc => .inl ⟨hb, hc, fun _ _ => rfl, fun _ _ hF => hF⟩) h.nodup h.lt h.pr
      rw [getD_put a d x n hd]
      simp only [Ab.setSlot, List.getElem?_set] at hu
      by_cases hn : d = n
      · subst hn
        rw [if_pos rfl, if_pos (by rw [h.len]; exact hd)] at hu
        cases hu
        rw [if_pos rfl]
        exact .inr hv
      · rw [if_neg hn] at hu
        rw [if_neg (fun e => hn e.symm)]
        exact .inl ⟨hu, rfl, fun _ _ hF => hF⟩
    · rw [put_out a d x hd]
      have : (Ab.setSlot s (some d) v) = s := by
        simp only [Ab.setSlot]
        rw [List.set_eq_of_length_le (by rw [h.len]; omega)]
      rw [this]
      exact h

/-- Memory has grown by blocks that nobody writes. -/
theorem Rel.grow {s : St} {a : Act} {w w' : World} {μ : List CB} {Pr Pr' : Nat → Prop} (h : Rel P s a w μ Pr) (hev : Evo (owns μ) Pr w (owns μ) Pr' w') (hb : ∀ k, k < w.heap.size → w'.heap[k]? = w.heap[k]?)
    (hlt : ∀ b ∈ owns μ, ¬ Pr' b) (hpr : ∀ b, Pr' b → b < w'.heap.size) : Rel P s a w' μ Pr' :=
  h.update P (fun _ => False) hev h.defers h.len h.mu (fun _ _ _ => rfl) (fun n u hu => .inl ⟨hu, rfl, fun _ _ hF => hF⟩)
    (fun id b c h1 h2 => .inl ⟨h1, h2, fun k hk => hb k (h.lt k (List.mem_flatMap.2 ⟨c, List.mem_of_getElem? h2, hk⟩)).1, fun _ _ hF => hF⟩) h.nodup
    (fun b hm => ⟨Nat.lt_of_lt_of_le (h.lt b hm).1 hev.size, hlt b hm⟩) hpr

end Go.Proofs.Ytbbefbgomdmldaa.Ab
