/- References to lists go; views that change. -/
import Derived.Test.YtbbefbgomdmldaaAbsCallP
namespace Go.Proofs.Ytbbefbgomdmldaa.Ab
open Go
set_option linter.unusedVariables false
set_option linter.unusedSimpArgs false

variable {P : Program} {O : Orc} {s : St} {sc sc' : Script} {w w' : World} {Pr Pr' : Nat → Prop} {vw vw' : Nat → Option VW} {bl : List B} {μ : List CB} {a : Act}

/-- The lists to which a value refers. -/
def lr0 : V → List Nat
  | .arr id | .inn id _ | .win id _ _ | .eptr id _ _ | .iptr id _ _ => [id]
  | _ => []
def lr1 : V → List Nat
  | .func _ cap => cap.flatMap lr0
  | .iface _ x => lr0 x
  | .agg cs => cs.flatMap lr0
  | v => lr0 v
def lrV : V → List Nat
  | .tup xs => xs.flatMap lr1
  | v => lr1 v
def lrB : B → List Nat
  | .box cs => cs.flatMap lr1
  | _ => []

theorem gone0 (id : Nat) (v : V) : (∀ i ∈ lr0 (kill0 id .gone v), i ∈ lr0 v ∧ i ≠ id) ∧ ∀ u, VRel0 P w Pr vw v u → VRel0 P w Pr vw (kill0 id .gone v) u := by
  cases v with
  | arr i =>
    simp only [kill0]; split
    · exact ⟨by simp [lr0], fun _ _ => trivial⟩
    · rename_i h; exact ⟨by simpa [lr0] using h, fun _ h => h⟩
  | inn i j =>
    simp only [kill0]; split
    · exact ⟨by simp [lr0], fun _ _ => trivial⟩
    · rename_i h; exact ⟨by simpa [lr0] using h, fun _ h => h⟩
  | iptr i j n =>
    simp only [kill0]; split
    · exact ⟨by simp [lr0], fun _ _ => trivial⟩
    · rename_i h; exact ⟨by simpa [lr0] using h, fun _ h => h⟩
  | win i j n =>
    simp only [kill0]; split
    · exact ⟨by simp [lr0], fun _ _ => trivial⟩
    · rename_i h; exact ⟨by simpa [lr0] using h, fun _ h => h⟩
  | eptr i j n =>
    simp only [kill0]; split
    · exact ⟨by simp [lr0], fun _ _ => trivial⟩
    · rename_i h; exact ⟨by simpa [lr0] using h, fun _ h => h⟩
  | _ => exact ⟨by simp [lr0, kill0], fun _ h => h⟩

theorem goneL {R : Value → Prop} (id : Nat) : ∀ (cs : List V), (∀ i ∈ (cs.map (kill0 id .gone)).flatMap lr0, i ∈ cs.flatMap lr0 ∧ i ≠ id) ∧
    ∀ us, All2 (fun c u => VRel0 P w Pr vw c u ∧ R u) cs us → All2 (fun c u => VRel0 P w Pr vw c u ∧ R u) (cs.map (kill0 id .gone)) us
  | [] => ⟨by simp, fun us h => h⟩
  | c :: r => by
    obtain ⟨g1, g2⟩ := gone0 (P := P) (w := w) (Pr := Pr) (vw := vw) id c
    obtain ⟨g3, g4⟩ := goneL (R := R) id r
    refine ⟨fun i hi => ?_, fun us h => ?_⟩
    · simp only [List.map_cons, List.flatMap_cons, List.mem_append] at hi ⊢
      rcases hi with hi | hi
      · exact ⟨.inl (g1 i hi).1, (g1 i hi).2⟩
      · exact ⟨.inr (g3 i hi).1, (g3 i hi).2⟩
    · cases us with
      | nil => exact h.elim
      | cons u us => exact ⟨⟨g2 u h.1.1, h.1.2⟩, g4 us h.2⟩

theorem gone1 (id : Nat) (v : V) : (∀ i ∈ lr1 (kill1 id .gone v), i ∈ lr1 v ∧ i ≠ id) ∧ ∀ u, VRel1 P w Pr vw v u → VRel1 P w Pr vw (kill1 id .gone v) u := by
  have key : kill1 id .gone v = kill0 id .gone v → lr1 v = lr0 v → lr1 (kill0 id .gone v) = lr0 (kill0 id .gone v) → (∀ u, VRel1 P w Pr vw v u → VRel0 P w Pr vw v u) → (∀ i ∈ lr1 (kill1 id .gone v), i ∈ lr1 v ∧ i ≠ id) ∧ ∀ u, VRel1 P w Pr vw v u → VRel1 P w Pr vw (kill1 id .gone v) u := by
    intro e1 e2 e3 e4
    obtain ⟨g1, g2⟩ := gone0 (P := P) (w := w) (Pr := Pr) (vw := vw) id v
    rw [e1, e2, e3]
    exact ⟨g1, fun u h => (g2 u (e4 u h)).to1⟩
  cases v with
  | agg cs =>
    obtain ⟨g1, g2⟩ := goneL (P := P) (w := w) (Pr := Pr) (vw := vw) (R := fun u => u.oneCell' = true) id cs
    exact ⟨g1, fun u h => let ⟨us, e, h⟩ := h; ⟨us, e, g2 us h⟩⟩
  | func f cap =>
    obtain ⟨g1, g2⟩ := goneL (P := P) (w := w) (Pr := Pr) (vw := vw) (R := fun _ => True) id cap
    exact ⟨g1, fun u h => let ⟨us, e, h⟩ := h; ⟨us, e, All2.mono (fun _ _ h => h.1) (g2 us (All2.mono (fun _ _ h => ⟨h, trivial⟩) h))⟩⟩
  | iface t y =>
    obtain ⟨g1, g2⟩ := gone0 (P := P) (w := w) (Pr := Pr) (vw := vw) id y
    exact ⟨g1, fun u h => let ⟨q, e, h⟩ := h; ⟨q, e, g2 q h⟩⟩
  | tup vs => exact ⟨by simp [kill1, lr1, lr0], fun _ _ => trivial⟩
  | arr i => exact key rfl rfl (by simp only [kill0]; split <;> rfl) (fun _ h => h)
  | inn i j => exact key rfl rfl (by simp only [kill0]; split <;> rfl) (fun _ h => h)
  | iptr i j n => exact key rfl rfl (by simp only [kill0]; split <;> rfl) (fun _ h => h)
  | win i j n => exact key rfl rfl (by simp only [kill0]; split <;> rfl) (fun _ h => h)
  | eptr i j n => exact key rfl rfl (by simp only [kill0]; split <;> rfl) (fun _ h => h)
  | _ => exact key rfl rfl rfl (fun _ h => h)

theorem goneV (id : Nat) (v : V) : (∀ i ∈ lrV (kill1 id .gone v), i ∈ lrV v ∧ i ≠ id) ∧ ∀ u, VRel P w Pr vw v u → VRel P w Pr vw (kill1 id .gone v) u := by
  have nt : ∀ vs, kill1 id .gone v ≠ .tup vs := by
    intro vs
    cases v <;> simp [kill1, kill0] <;> split <;> simp
  have e : ∀ {x : V}, (∀ vs, x ≠ .tup vs) → lrV x = lr1 x := by
    intro x hx; cases x <;> first | rfl | exact (hx _ rfl).elim
  have key : (∀ vs, v ≠ .tup vs) → (∀ u, VRel P w Pr vw v u → VRel1 P w Pr vw v u) → (∀ i ∈ lrV (kill1 id .gone v), i ∈ lrV v ∧ i ≠ id) ∧ ∀ u, VRel P w Pr vw v u → VRel P w Pr vw (kill1 id .gone v) u := by
    intro hn h1
    obtain ⟨g1, g2⟩ := gone1 (P := P) (w := w) (Pr := Pr) (vw := vw) id v
    rw [e nt, e hn]
    exact ⟨g1, fun u h => (g2 u (h1 u h)).toV⟩
  cases v with
  | tup vs => exact ⟨by simp [kill1, lrV, lr1, lr0], fun _ _ => trivial⟩
  | _ => exact key (by simp) (fun _ h => h)

theorem goneB (id : Nat) (b : B) : (∀ i ∈ lrB (killB id .gone b), i ∈ lrB b ∧ i ≠ id) ∧ ∀ c, BRel P w Pr vw b c → BRel P w Pr vw (killB id .gone b) c := by
  cases b with
  | box cs =>
    have : ∀ (cs : List V), (∀ i ∈ (cs.map (kill1 id .gone)).flatMap lr1, i ∈ cs.flatMap lr1 ∧ i ≠ id) ∧
        ∀ us, All2 (fun c u => VRel1 P w Pr vw c u ∧ u.oneCell' = true) cs us → All2 (fun c u => VRel1 P w Pr vw c u ∧ u.oneCell' = true) (cs.map (kill1 id .gone)) us := by
      intro cs
      induction cs with
      | nil => exact ⟨by simp, fun us h => h⟩
      | cons c r ih =>
        obtain ⟨g1, g2⟩ := gone1 (P := P) (w := w) (Pr := Pr) (vw := vw) id c
        obtain ⟨g3, g4⟩ := ih
        refine ⟨fun i hi => ?_, fun us h => ?_⟩
        · simp only [List.map_cons, List.flatMap_cons, List.mem_append] at hi ⊢
          rcases hi with hi | hi
          · exact ⟨.inl (g1 i hi).1, (g1 i hi).2⟩
          · exact ⟨.inr (g3 i hi).1, (g3 i hi).2⟩
        · cases us with
          | nil => exact h.elim
          | cons u us => exact ⟨⟨g2 u h.1.1, h.1.2⟩, g4 us h.2⟩
    obtain ⟨g1, g2⟩ := this cs
    refine ⟨g1, fun c h => ?_⟩
    cases c with
    | box k => obtain ⟨x, e, h1, h2⟩ := h; exact ⟨x, e, h1, g2 _ h2⟩
    | _ => exact h.elim
  | _ => exact ⟨by simp [lrB, killB], fun _ h => h⟩

theorem view_kill (id : Nat) (k : KK) : view (bl.map (killB id k)) μ = view bl μ := by
  funext j
  unfold view
  rw [List.getElem?_map]
  cases bl[j]? with
  | none => rfl
  | some x => cases μ[j]? with
    | none => rfl
    | some c => simp [vwOf_kill]

theorem Rel.gone (h : Rel P s a w μ Pr) (id : Nat) : Rel P (s.kill (id, .gone)) a w μ Pr := by
  refine ⟨⟨by simp [St.kill, h.mu], fun j b c hb hc => ?_, h.nodup, h.lt, h.pr⟩, h.defers, by simp [St.kill, h.len], fun n v hv => ?_⟩
  · simp only [St.kill, List.getElem?_map, Option.map_eq_some_iff] at hb
    obtain ⟨x, hx, rfl⟩ := hb
    show BRel P w Pr (view (s.blks.map (killB id .gone)) μ) _ c
    rw [view_kill]
    exact (goneB id x).2 c (h.blks j x c hx hc)
  · simp only [St.kill, List.getElem?_map, Option.map_eq_some_iff] at hv
    obtain ⟨x, hx, rfl⟩ := hv
    show VRel P w Pr (view (s.blks.map (killB id .gone)) μ) _ _
    rw [view_kill]
    exact (goneV id x).2 _ (h.slots n x hx)

def kills (ids : List Nat) (s : St) : St := (ids.map (·, KK.gone)).foldl St.kill s

theorem kills_ok : ∀ (ids : List Nat) {s : St} (S : List Nat), Rel P s a w μ Pr → (∀ (n : Nat) (v : V), s.slots[n]? = some v → ∀ i ∈ lrV v, i ∉ S) → (∀ (n : Nat) (b : B), s.blks[n]? = some b → ∀ i ∈ lrB b, i ∉ S) →
    Rel P (kills ids s) a w μ Pr ∧ (∀ (n : Nat) (v : V), (kills ids s).slots[n]? = some v → ∀ i ∈ lrV v, i ∉ S ++ ids) ∧ (∀ (n : Nat) (b : B), (kills ids s).blks[n]? = some b → ∀ i ∈ lrB b, i ∉ S ++ ids) ∧
      view (kills ids s).blks μ = view s.blks μ ∧ (kills ids s).blks.length = s.blks.length
  | [], s, S, h, h1, h2 => by simp only [List.append_nil]; exact ⟨h, h1, h2, rfl, rfl⟩
  | id :: r, s, S, h, h1, h2 => by
    have hk : kills (id :: r) s = kills r (s.kill (id, .gone)) := rfl
    obtain ⟨g1, g2, g3, g4, g5⟩ := kills_ok r (S ++ [id]) (h.gone id) (fun n v hv i hi => by
      simp only [St.kill, List.getElem?_map, Option.map_eq_some_iff] at hv
      obtain ⟨x, hx, rfl⟩ := hv
      obtain ⟨q1, q2⟩ := (goneV (P := P) (w := w) (Pr := Pr) (vw := fun _ => none) id x).1 i hi
      simp only [List.mem_append, List.mem_singleton, not_or]
      exact ⟨h1 n x hx i q1, q2⟩) (fun n b hb i hi => by
      simp only [St.kill, List.getElem?_map, Option.map_eq_some_iff] at hb
      obtain ⟨x, hx, rfl⟩ := hb
      obtain ⟨q1, q2⟩ := (goneB (P := P) (w := w) (Pr := Pr) (vw := fun _ => none) id x).1 i hi
      simp only [List.mem_append, List.mem_singleton, not_or]
      exact ⟨h2 n x hx i q1, q2⟩)
    rw [hk]
    simp only [List.append_assoc, List.singleton_append] at g2 g3
    refine ⟨g1, g2, g3, by rw [g4]; exact view_kill id .gone, by rw [g5]; simp [St.kill]⟩

/-! ### views that change, but for boxes -/

section
variable (hp : ∀ b, Pr b → Pr' b) (hw : ∀ b, Pr b → w'.heap[b]? = w.heap[b]?) (hbox : ∀ i q, vw i = some (.box q) → vw' i = some (.box q))
include hp hw hbox

theorem VRel0.mono2 {v : V} (hv : ∀ i ∈ lr0 v, vw i ≠ none → vw' i = vw i) {u : Value} (h : VRel0 P w Pr vw v u) : VRel0 P w' Pr' vw' v u := by
  have key : ids0 v = lr0 v → VRel0 P w' Pr' vw' v u := fun e => VRel0.mono P hp hw (by rw [e]; exact hv) h
  cases v with
  | ptr id off => obtain ⟨b, h1, h2⟩ := h; exact ⟨b, hbox _ _ h1, h2⟩
  | _ => exact key rfl
theorem VRel1.mono2 {v : V} (hv : ∀ i ∈ lr1 v, vw i ≠ none → vw' i = vw i) {u : Value} (h : VRel1 P w Pr vw v u) : VRel1 P w' Pr' vw' v u := by
  have key : (∀ i ∈ lr0 v, vw i ≠ none → vw' i = vw i) → VRel0 P w Pr vw v u → VRel0 P w' Pr' vw' v u := fun a b => VRel0.mono2 hp hw hbox a b
  cases v with
  | func f cap =>
    obtain ⟨vs, rfl, h⟩ := h
    exact ⟨vs, rfl, All2.monoMem (fun a ha b hab => VRel0.mono2 hp hw hbox (fun i hi => hv i (List.mem_flatMap.2 ⟨a, ha, hi⟩)) hab) h⟩
  | iface t y => obtain ⟨u, rfl, h⟩ := h; exact ⟨u, rfl, VRel0.mono2 hp hw hbox (by simpa only [lr1] using hv) h⟩
  | agg cs =>
    obtain ⟨vs, rfl, h⟩ := h
    exact ⟨vs, rfl, All2.monoMem (fun a ha b hab => ⟨VRel0.mono2 hp hw hbox (fun i hi => hv i (List.mem_flatMap.2 ⟨a, ha, hi⟩)) hab.1, hab.2⟩) h⟩
  | _ => exact key hv h
theorem VRel.mono2 {v : V} (hv : ∀ i ∈ lrV v, vw i ≠ none → vw' i = vw i) {u : Value} (h : VRel P w Pr vw v u) : VRel P w' Pr' vw' v u := by
  have key : (∀ i ∈ lr1 v, vw i ≠ none → vw' i = vw i) → VRel1 P w Pr vw v u → VRel1 P w' Pr' vw' v u := fun a b => VRel1.mono2 hp hw hbox a b
  cases v with
  | tup xs =>
    obtain ⟨vs, rfl, h⟩ := h
    exact ⟨vs, rfl, All2.monoMem (fun a ha b hab => VRel1.mono2 hp hw hbox (fun i hi => hv i (List.mem_flatMap.2 ⟨a, ha, hi⟩)) hab) h⟩
  | _ => exact key hv h
theorem BRel.mono2 {b : B} {c : CB} (ho : ∀ k ∈ c.own, w'.heap[k]? = w.heap[k]?) (hv : ∀ i ∈ lrB b, vw i ≠ none → vw' i = vw i) (h : BRel P w Pr vw b c) : BRel P w' Pr' vw' b c := by
  cases b with
  | box cells =>
    cases c with
    | box k =>
      obtain ⟨cs, e, h1, h2⟩ := h
      exact ⟨cs, e, by rw [ho k (by simp [CB.own])]; exact h1, All2.monoMem (fun a ha b hab => ⟨VRel1.mono2 hp hw hbox (fun id hi => hv id (List.mem_flatMap.2 ⟨a, ha, hi⟩)) hab.1, hab.2⟩) h2⟩
    | _ => exact h.elim
  | _ => exact h.mono P hp hw ho (by simp [idsB])
end

/-! ### lists scattered -/

theorem setAll_get {α : Type} : ∀ (ids : List Nat) (l base : List α) (j : Nat), ids.Nodup → (∀ i ∈ ids, i < base.length) → ids.length ≤ l.length → (setAll (ids.zip l) base)[j]? = if j ∈ ids then l[ids.idxOf j]? else base[j]?
  | [], l, base, j, _, _, _ => by simp [setAll]
  | i :: r, [], base, j, _, _, h => by simp at h
  | i :: r, x :: l, base, j, hn, hb, hl => by
    rw [List.nodup_cons] at hn
    simp only [List.zip_cons_cons, setAll]
    rw [setAll_get r l (base.set i x) j hn.2 (fun k hk => by simp; exact hb k (List.mem_cons_of_mem _ hk)) (by simpa using hl)]
    by_cases hj : j = i
    · subst hj
      rw [if_neg hn.1, if_pos (List.mem_cons_self ..), List.getElem?_set_self (hb _ (List.mem_cons_self ..))]
      simp
    · have hij : ¬ i = j := fun e => hj e.symm
      rw [List.getElem?_set, if_neg hij, List.idxOf_cons]
      by_cases hjr : j ∈ r
      · rw [if_pos hjr, if_pos (List.mem_cons_of_mem _ hjr)]
        have : (i == j) = false := by simpa using hij
        rw [this]
        rfl
      · rw [if_neg hjr, if_neg (by simp [hj, hjr])]

def scatter {α : Type} (ids : List Nat) (l base : List α) : List α := setAll (ids.zip l) base ++ l.drop ids.length

theorem setAll_len {α : Type} : ∀ (l : List (Nat × α)) (base : List α), (setAll l base).length = base.length
  | [], base => rfl
  | (n, v) :: r, base => by rw [setAll, setAll_len r]; simp

/-- Where a place of the whole comes from. -/
def from' (ids : List Nat) (n j : Nat) : Nat := if j ∈ ids then ids.idxOf j else ids.length + (j - n)

theorem scatter_get {α : Type} {ids : List Nat} {l base : List α} (j : Nat) (hn : ids.Nodup) (hb : ∀ i ∈ ids, i < base.length) (hl : ids.length ≤ l.length) :
    (scatter ids l base)[j]? = if j ∈ ids ∨ base.length ≤ j then l[from' ids base.length j]? else base[j]? := by
  unfold scatter from'
  by_cases hj : j < base.length
  · rw [List.getElem?_append_left (by rw [setAll_len]; exact hj), setAll_get ids l base j hn hb hl]
    by_cases hji : j ∈ ids
    · rw [if_pos hji, if_pos (.inl hji), if_pos hji]
    · rw [if_neg hji, if_neg (by simp [hji]; omega)]
  · have hji : j ∉ ids := fun h => hj (hb j h)
    rw [List.getElem?_append_right (by rw [setAll_len]; omega), setAll_len, if_pos (.inr (by omega)), if_neg hji, List.getElem?_drop]

theorem nodup_owns_mk : ∀ {μ : List CB}, (∀ (i : Nat) (c : CB), μ[i]? = some c → c.own.Nodup) → (∀ (i j : Nat) (c d : CB), i ≠ j → μ[i]? = some c → μ[j]? = some d → ∀ q ∈ c.own, q ∉ d.own) → (owns μ).Nodup
  | [], _, _ => by simp [owns]
  | x :: r, h1, h2 => by
    show (x.own ++ owns r).Nodup
    rw [List.nodup_append]
    refine ⟨h1 0 x rfl, nodup_owns_mk (fun i c hc => h1 (i + 1) c (by simpa using hc)) (fun i j c d hij hc hd => h2 (i + 1) (j + 1) c d (by omega) (by simpa using hc) (by simpa using hd)), fun q hq q' hq' e => ?_⟩
    subst e
    obtain ⟨d, hd, hqd⟩ := List.mem_flatMap.1 hq'
    obtain ⟨j, hj⟩ := List.getElem?_of_mem hd
    exact h2 0 (j + 1) x d (by omega) rfl (by simpa using hj) q hq hqd

end Go.Proofs.Ytbbefbgomdmldaa.Ab
