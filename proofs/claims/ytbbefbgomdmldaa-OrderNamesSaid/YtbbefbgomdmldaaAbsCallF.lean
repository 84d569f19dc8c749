/- Calls with blocks. -/
import Derived.Test.YtbbefbgomdmldaaAbsCallK
namespace Go.Proofs.Ytbbefbgomdmldaa.Ab
open Go
set_option linter.unusedVariables false
set_option linter.unusedSimpArgs false

variable {P : Program} {O : Orc} {s : St} {sc sc' : Script} {w w' : World} {Pr Pr' : Nat → Prop} {vw vw' : Nat → Option VW} {bl : List B} {μ : List CB} {a : Act} {ρ : Nat → Option Nat}
  {p : Patch} {Q : Exit → Act → World → Prop}

theorem vwOf_map {b b' : B} {c : CB} (h : mapB ρ b = some b') : vwOf b' c = vwOf b c := by
  cases b with
  | box cs => obtain ⟨x, _, rfl⟩ := Option.map_eq_some_iff.1 h; cases c <;> rfl
  | _ => simp only [mapB, Option.some.injEq] at h; subst h; rfl

theorem mapBs_get : ∀ {bs bs' : List B}, mapBs ρ bs = some bs' → bs'.length = bs.length ∧ ∀ (i : Nat) (b : B), bs[i]? = some b → ∃ b', bs'[i]? = some b' ∧ mapB ρ b = some b'
  | [], bs', h => by simp [mapBs] at h; subst h; simp
  | b :: r, bs', h => by
    simp only [mapBs] at h
    split at h
    · rename_i x y h1 h2
      cases h
      obtain ⟨g1, g2⟩ := mapBs_get h2
      refine ⟨by simp [g1], fun i z hz => ?_⟩
      cases i with
      | zero => simp at hz; subst hz; exact ⟨x, rfl, h1⟩
      | succ i => exact g2 i z (by simpa using hz)
    · cases h

theorem brel_map (hρ : Ren ρ vw vw') {b b' : B} {c : CB} (hm : mapB ρ b = some b') (h : BRel P w Pr vw b c) : BRel P w Pr vw' b' c := by
  cases b with
  | box cs =>
    obtain ⟨x, hx, rfl⟩ := Option.map_eq_some_iff.1 hm
    cases c with
    | box k => obtain ⟨cur, e, h1, h2⟩ := h; exact ⟨cur, e, h1, mapL1_ok hρ hx h2⟩
    | _ => exact h.elim
  | _ => simp only [mapB, Option.some.injEq] at hm; subst hm; exact h.mono P (fun _ h => h) (fun _ _ => rfl) (fun _ _ => rfl) (by simp [idsB])

theorem mapL1_vrel (hρ : Ren ρ vw vw') : ∀ {cs cs' : List V} {us : List Value}, mapL1 ρ cs = some cs' → All2 (VRel P w Pr vw) cs us → All2 (VRel P w Pr vw') cs' us
  | [], cs', us, hm, h => by simp [mapL1] at hm; subst hm; cases us with | nil => trivial | cons _ _ => exact h.elim
  | c :: r, cs', us, hm, h => by
    simp only [mapL1] at hm
    split at hm
    · rename_i x y h1 h2
      cases hm
      cases us with
      | nil => exact h.elim
      | cons u us =>
        have h1' : VRel1 P w Pr vw c u := by
          have hn := noTup_map1 h1
          have := h.1
          cases c with
          | tup vs => exact (hn vs rfl).elim
          | _ => exact this
        exact ⟨(map1_ok hρ h1 h1').toV, mapL1_vrel hρ h2 h.2⟩
    · cases hm

theorem blksQ_ok : ∀ {ids : List Nat} {bs : List B} {sc sc' : Script}, Hold O s (blksQ ids) sc bs sc' → bs = ids.map s.blk ∧ sc' = sc
  | [], bs, sc, sc', h => by obtain ⟨h1, h2⟩ := hold_ret.1 h; exact ⟨h1, h2⟩
  | i :: r, bs, sc, sc', h => by
    rw [blksQ, hold_blk] at h
    obtain ⟨x, sc1, h1, h2⟩ := hold_bind.1 h
    obtain ⟨rfl, rfl⟩ := hold_ret.1 h2
    obtain ⟨rfl, rfl⟩ := blksQ_ok h1
    exact ⟨rfl, rfl⟩

theorem nodupB_ok : ∀ {l : List Nat}, nodupB l = true → l.Nodup
  | [], _ => List.nodup_nil
  | i :: r, h => by
    simp only [nodupB, Bool.and_eq_true, Bool.not_eq_true'] at h
    exact List.nodup_cons.2 ⟨by have := h.1; simpa using this, nodupB_ok h.2⟩

theorem idxOf_get : ∀ {l : List Nat} {i k : Nat}, l.Nodup → l[k]? = some i → l.idxOf i = k
  | [], i, k, _, h => by simp at h
  | x :: r, i, k, hn, h => by
    rw [List.nodup_cons] at hn
    rw [List.idxOf_cons]
    cases k with
    | zero => simp at h; subst h; simp
    | succ k =>
      have h' : r[k]? = some i := by simpa using h
      have hne : (x == i) = false := by
        have : x ≠ i := fun e => hn.1 (e ▸ List.mem_of_getElem? h')
        simpa using this
      rw [hne, cond_false, idxOf_get hn.2 h']
theorem get_idxOf : ∀ {l : List Nat} {i : Nat}, i ∈ l → l[l.idxOf i]? = some i
  | [], i, h => by simp at h
  | x :: r, i, h => by
    rw [List.idxOf_cons]
    by_cases hx : x = i
    · subst hx; simp
    · have : (x == i) = false := by simpa using hx
      rw [this, cond_false, List.getElem?_cons_succ]
      exact get_idxOf ((List.mem_cons.1 h).resolve_left fun e => hx e.symm)

theorem zip_short {α β : Type} : ∀ (l : List α) (m k : List β), l.length ≤ m.length → l.zip (m ++ k) = l.zip m
  | [], _, _, _ => by simp
  | a :: l, [], _, h => by simp at h
  | a :: l, b :: m, k, h => by simp only [List.cons_append, List.zip_cons_cons]; rw [zip_short l m k (by simpa using h)]

theorem goes_full {o : Oper} {f : Nat} {ids : List Nat} {as as' : List V} {vs : List Value} {bs bs' bs'' : List B} {r r' : V} (hR : Rel P s a w μ Pr) (hrun : (execOp a.eval o).run P w = .ok (.enter f vs.toArray) w)
    (hnd : ids.Nodup) (hin : ∀ i ∈ ids, i < s.blks.length) (hbs : mapBs (seen ids) (ids.map s.blk) = some bs) (has : mapL1 (seen ids) as = some as') (hvs : All2 (VRel P w Pr (view s.blks μ)) as vs)
    (hIC : ICall P f as' bs r bs') (hlen : ids.length ≤ bs'.length) (hr : map2 ((ids ++ (List.range (bs'.length - ids.length)).map (s.blks.length + ·))[·]?) r = some r')
    (hb' : mapBs ((ids ++ (List.range (bs'.length - ids.length)).map (s.blks.length + ·))[·]?) bs' = some bs'') :
    o.wp P a w (After P (({ sets := (putP o.dst (lay (s.blks.length + (bs''.drop ids.length).length) r').1).sets, bsets := ids.zip bs'', push := bs''.drop ids.length ++ (lay (s.blks.length + (bs''.drop ids.length).length) r').2, kill := ids.map (·, .gone) } : Patch).apply s) μ Pr w) Q := by
  obtain ⟨n, hn⟩ : ∃ n, n = s.blks.length := ⟨_, rfl⟩
  rw [← hn] at hin hr hb' ⊢
  have hmun : μ.length = n := by rw [hR.mu, hn]
  let μs : List CB := ids.map fun i => (μ[i]?).getD .dead
  have hμs : ∀ (i k : Nat), ids[k]? = some i → ∃ c : CB, μ[i]? = some c ∧ μs[k]? = some c := by
    intro i k hk
    have hi := hin i (List.mem_of_getElem? hk)
    refine ⟨μ[i], List.getElem?_eq_getElem (by omega), ?_⟩
    simp only [μs, List.getElem?_map, hk, Option.map_some]
    rw [List.getElem?_eq_getElem (by omega)]; rfl
  have hblk : ∀ i, i < n → s.blks[i]? = some (s.blk i) := by
    intro i hi
    unfold St.blk
    rw [List.getElem?_eq_getElem (by omega)]; rfl
  obtain ⟨hbl, hbg⟩ := mapBs_get hbs
  rw [List.length_map] at hbl
  have hbsk : ∀ (i k : Nat), ids[k]? = some i → ∃ b', bs[k]? = some b' ∧ mapB (seen ids) (s.blk i) = some b' := fun i k hk => hbg k (s.blk i) (by rw [List.getElem?_map, hk]; rfl)
  have hget : ∀ (k : Nat) (x : CB), μs[k]? = some x → ∃ i, ids[k]? = some i ∧ μ[i]? = some x := by
    intro k x hx
    have hk : k < ids.length := by have := (List.getElem?_eq_some_iff.1 hx).1; simpa [μs] using this
    obtain ⟨c, h1, h2⟩ := hμs ids[k] k (List.getElem?_eq_getElem hk)
    rw [hx] at h2; cases h2
    exact ⟨_, List.getElem?_eq_getElem hk, h1⟩
  have hview : ∀ (i k : Nat), ids[k]? = some i → view bs μs k = view s.blks μ i := by
    intro i k hk
    obtain ⟨c, h1, h2⟩ := hμs i k hk
    obtain ⟨b', h3, h4⟩ := hbsk i k hk
    unfold view
    rw [h3, h2, hblk i (hin i (List.mem_of_getElem? hk)), h1]
    exact vwOf_map h4
  have hseen : ∀ (i k : Nat), seen ids i = some k → ids[k]? = some i := by
    intro i k h
    unfold seen at h
    split at h
    · rename_i hc
      cases h
      exact get_idxOf (by simpa using hc)
    · cases h
  have hren : Ren (seen ids) (view s.blks μ) (view bs μs) := fun i k h _ => hview i k (hseen i k h)
  have hsub : ∀ q ∈ owns μs, q ∈ owns μ := by
    intro q hq
    obtain ⟨c, hc, hqc⟩ := List.mem_flatMap.1 hq
    obtain ⟨k, hk⟩ := List.getElem?_of_mem hc
    obtain ⟨i, _, hi⟩ := hget k c hk
    exact List.mem_flatMap.2 ⟨c, List.mem_of_getElem? hi, hqc⟩
  have hS0 : SRel P bs w μs Pr := by
    refine ⟨by simp [μs, hbl], fun k b c hb hc => ?_, nodup_owns_mk (fun k c hc => ?_) (fun k l c d hkl hc hd q hq => ?_), fun q hq => hR.lt q (hsub q hq), hR.pr⟩
    · obtain ⟨i, h1, h2⟩ := hget k c hc
      obtain ⟨b', h3, h4⟩ := hbsk i k h1
      rw [hb] at h3; cases h3
      exact brel_map hren h4 (hR.blks i _ c (hblk i (hin i (List.mem_of_getElem? h1))) h2)
    · obtain ⟨i, _, h2⟩ := hget k c hc
      exact own_nodup hR.nodup h2
    · obtain ⟨i, h1, h2⟩ := hget k c hc
      obtain ⟨j, h3, h4⟩ := hget l d hd
      refine nodup_own hR.nodup i j c d h2 h4 (fun e => hkl ?_) q hq
      subst e
      rw [← idxOf_get hnd h1, ← idxOf_get hnd h3]
  have hvs' := mapL1_vrel hren has hvs
  unfold Oper.wp
  rw [hrun]
  refine Calls.mono (hIC w Pr μs vs hS0 hvs') ?_
  rintro e w' ⟨x, μ', Pr', rfl, hS, hx, hev, hkeep⟩
  -- the store as a whole
  obtain ⟨k, hk⟩ : ∃ k, k = ids.length := ⟨_, rfl⟩
  obtain ⟨laid, hlaid⟩ : ∃ l, l = (lay bs'.length r).2 := ⟨_, rfl⟩
  rw [← hlaid] at hS hx
  obtain ⟨hbl'', hbg''⟩ := mapBs_get hb'
  have hmu' : μ'.length = bs'.length + laid.length := by rw [hS.mu]; simp
  obtain ⟨hK1, hK2, hK3, hK4, hK5⟩ := kills_ok ids [] hR (by simp) (by simp)
  simp only [List.nil_append] at hK2 hK3
  let N : List B := scatter ids (bs'' ++ laid) (kills ids s).blks
  let μN : List CB := scatter ids μ' μ
  have hNlen : (kills ids s).blks.length = n := by rw [hK5, hn]
  have hN : ∀ j : Nat, N[j]? = if j ∈ ids ∨ n ≤ j then (bs'' ++ laid)[from' ids n j]? else (kills ids s).blks[j]? := by
    intro j
    have := scatter_get (l := bs'' ++ laid) (base := (kills ids s).blks) j hnd (by rw [hNlen]; exact hin) (by simp; omega)
    rw [hNlen] at this; exact this
  have hμN : ∀ j : Nat, μN[j]? = if j ∈ ids ∨ n ≤ j then μ'[from' ids n j]? else μ[j]? := by
    intro j
    have := scatter_get (l := μ') (base := μ) j hnd (by rw [hmun]; exact hin) (by omega)
    rw [hmun] at this; exact this
  have hvl : ∀ i, view (bs'' ++ laid) μ' i = view (bs' ++ laid) μ' i := by
    intro i
    unfold view
    by_cases hi : i < bs'.length
    · rw [List.getElem?_append_left (by omega), List.getElem?_append_left hi, List.getElem?_eq_getElem hi]
      obtain ⟨b', h1, h2⟩ := hbg'' i bs'[i] (List.getElem?_eq_getElem hi)
      rw [h1]
      cases μ'[i]? with
      | none => rfl
      | some c => exact vwOf_map h2
    · rw [List.getElem?_append_right (by omega), List.getElem?_append_right (by omega), hbl'']
  have hvN : ∀ j, view N μN j = if j ∈ ids ∨ n ≤ j then view (bs' ++ laid) μ' (from' ids n j) else view s.blks μ j := by
    intro j
    rw [← hK4]
    by_cases hj : j ∈ ids ∨ n ≤ j
    · rw [if_pos hj, ← hvl]; unfold view; rw [hN, hμN, if_pos hj, if_pos hj]
    · rw [if_neg hj]; unfold view; rw [hN, hμN, if_neg hj, if_neg hj]
  have hall : ∀ (i j : Nat), (ids ++ (List.range (bs'.length - ids.length)).map (n + ·))[i]? = some j → (j ∈ ids ∨ n ≤ j) ∧ from' ids n j = i := by
    intro i j h
    by_cases hi : i < ids.length
    · rw [List.getElem?_append_left hi] at h
      have hj := List.mem_of_getElem? h
      exact ⟨.inl hj, by unfold from'; rw [if_pos hj]; exact idxOf_get hnd h⟩
    · rw [List.getElem?_append_right (by omega), List.getElem?_map, Option.map_eq_some_iff] at h
      obtain ⟨q, hq, rfl⟩ := h
      obtain ⟨hq1, hq2⟩ := List.getElem?_eq_some_iff.1 hq
      simp at hq2
      have hni : n + q ∉ ids := fun hm => by have := hin _ hm; omega
      exact ⟨.inr (by omega), by unfold from'; rw [if_neg hni]; omega⟩
  have hrenN : Ren ((ids ++ (List.range (bs'.length - ids.length)).map (n + ·))[·]?) (view (bs' ++ laid) μ') (view N μN) := by
    intro i j h _
    obtain ⟨h1, h2⟩ := hall i j h
    rw [hvN, if_pos h1, h2]
  have hdl : (bs''.drop ids.length).length = bs'.length - ids.length := by rw [List.length_drop, hbl'']
  obtain ⟨hl1, hl2⟩ := lay_ok (P := P) (w := w') (Pr := Pr') (n := bs'.length) (m := n + (bs''.drop ids.length).length) hrenN hr (fun i _ _ => by
    have hni : n + (bs''.drop ids.length).length + i ∉ ids := fun hm => by have := hin _ hm; omega
    rw [hvN, if_pos (.inr (by omega))]
    unfold from'
    rw [if_neg hni, hdl]
    congr 1; omega)
  have hxN := hl2 x hx
  -- boxes stay
  have hboxN : ∀ i q, view s.blks μ i = some (.box q) → view N μN i = some (.box q) := by
    intro i q h
    rw [hvN]
    by_cases hi : i ∈ ids
    · rw [if_pos (.inl hi)]
      unfold from'
      rw [if_pos hi]
      obtain ⟨c, h1, h2⟩ := hμs i (ids.idxOf i) (get_idxOf hi)
      unfold view at h
      rw [hblk i (hin i hi), h1] at h
      have hcb : c = .box q := by
        revert h
        cases s.blk i <;> cases c <;> simp [vwOf]
      subst hcb
      have h3 := hkeep _ _ h2
      have hlt : ids.idxOf i < (bs' ++ laid).length := by
        have := List.idxOf_lt_length_of_mem hi
        simp; omega
      have hB := hS.blks _ _ _ (List.getElem?_eq_getElem hlt) h3
      unfold view
      rw [List.getElem?_eq_getElem hlt, h3]
      revert hB
      generalize (bs' ++ laid)[ids.idxOf i] = b
      intro hB
      cases b with
      | box cs => rfl
      | _ => exact hB.elim
    · have hlt : i < n := by
        unfold view at h
        cases hb : s.blks[i]? with
        | none => simp [hb] at h
        | some x => have := (List.getElem?_eq_some_iff.1 hb).1; omega
      rw [if_neg (by simp [hi]; omega)]
      exact h
  have hpw : ∀ q, Pr q → w'.heap[q]? = w.heap[q]? := fun q hq => hev.block q (hR.pr q hq) (fun hm => (hR.lt q (hsub q hm)).2 hq)
  have hout : ∀ (j : Nat) (c : CB), j ∉ ids → μ[j]? = some c → ∀ q ∈ c.own, q ∈ owns μ ∧ q ∉ owns μs := by
    intro j c hj hc q hq
    refine ⟨List.mem_flatMap.2 ⟨c, List.mem_of_getElem? hc, hq⟩, fun hm => ?_⟩
    obtain ⟨d, hd, hqd⟩ := List.mem_flatMap.1 hm
    obtain ⟨l, hl⟩ := List.getElem?_of_mem hd
    obtain ⟨i, h1, h2⟩ := hget l d hl
    exact nodup_own hR.nodup j i c d hc h2 (fun e => hj (e ▸ List.mem_of_getElem? h1)) q hq hqd
  have hviewK : ∀ i, i ∉ ids → view s.blks μ i ≠ none → view N μN i = view s.blks μ i := by
    intro i hi hne
    have hlt : i < n := by
      unfold view at hne
      cases hb : s.blks[i]? with
      | none => simp [hb] at hne
      | some x => have := (List.getElem?_eq_some_iff.1 hb).1; omega
    rw [hvN, if_neg (by simp [hi]; omega)]
  have hNl : N.length = n + (bs''.length - ids.length) + laid.length := by
    simp only [N, scatter, List.length_append, setAll_len, hNlen, List.length_drop]; omega
  have hμNl : μN.length = N.length := by
    simp only [μN, scatter, List.length_append, setAll_len, hmun, List.length_drop]; omega
  have horig : ∀ (j : Nat) (c : CB), μN[j]? = some c → (j < n ∧ j ∉ ids ∧ μ[j]? = some c) ∨ ((j ∈ ids ∨ n ≤ j) ∧ μ'[from' ids n j]? = some c) := by
    intro j c hc
    rw [hμN] at hc
    by_cases hj : j ∈ ids ∨ n ≤ j
    · rw [if_pos hj] at hc; exact .inr ⟨hj, hc⟩
    · rw [if_neg hj] at hc; simp only [not_or] at hj; exact .inl ⟨by omega, hj.1, hc⟩
  have hown' : ∀ q ∈ owns μ', q ∈ owns μs ∨ w.heap.size ≤ q := hev.own
  have hinj : ∀ i j, (i ∈ ids ∨ n ≤ i) → (j ∈ ids ∨ n ≤ j) → from' ids n i = from' ids n j → i = j := by
    intro i j hi hj h
    unfold from' at h
    by_cases h1 : i ∈ ids <;> by_cases h2 : j ∈ ids
    · rw [if_pos h1, if_pos h2] at h
      have g1 := get_idxOf h1; have g2 := get_idxOf h2
      rw [h, g2] at g1; cases g1; rfl
    · rw [if_pos h1, if_neg h2] at h
      have := List.idxOf_lt_length_of_mem h1; omega
    · rw [if_neg h1, if_pos h2] at h
      have := List.idxOf_lt_length_of_mem h2; omega
    · rw [if_neg h1, if_neg h2] at h
      have := hi.resolve_left h1; have := hj.resolve_left h2; omega
  have hdis : ∀ (j : Nat) (c : CB), j ∉ ids → μ[j]? = some c → ∀ q ∈ c.own, q ∉ owns μ' := by
    intro j c hj hc q hq hm
    obtain ⟨h1, h2⟩ := hout j c hj hc q hq
    rcases hown' q hm with h | h
    · exact h2 h
    · have := (hR.lt q h1).1; omega
  have hSN : SRel P N w' μN Pr' := by
    refine ⟨hμNl, fun j b c hb hc => ?_, nodup_owns_mk (fun j c hc => ?_) (fun i j c d hij hc hd q hq hq' => ?_), fun q hq => ?_, hS.pr⟩
    · rw [hN] at hb
      rw [hμN] at hc
      by_cases hj : j ∈ ids ∨ n ≤ j
      · rw [if_pos hj] at hb hc
        by_cases hlt : from' ids n j < bs''.length
        · rw [List.getElem?_append_left hlt] at hb
          have hlt' : from' ids n j < bs'.length := by omega
          obtain ⟨b', h1, h2⟩ := hbg'' _ bs'[from' ids n j] (List.getElem?_eq_getElem hlt')
          rw [hb] at h1; cases h1
          exact brel_map hrenN h2 (hS.blks _ _ c (by rw [List.getElem?_append_left hlt', List.getElem?_eq_getElem hlt']) hc)
        · rw [List.getElem?_append_right (by omega)] at hb
          have hB := hS.blks (from' ids n j) b c (by rw [List.getElem?_append_right (by omega), ← hbl'']; exact hb) hc
          exact brel_listy (lay_listy bs'.length r b (by rw [← hlaid]; exact List.mem_of_getElem? hb)).1 hB (.inl fun _ h => h)
      · rw [if_neg hj] at hb hc
        simp only [not_or] at hj
        have hB := hK1.blks j b c hb hc
        rw [hK4] at hB
        refine BRel.mono2 hev.prm hpw hboxN (fun q hq => ?_) (fun i hi hne => hviewK i (hK3 j b hb i hi) hne) hB
        obtain ⟨h1, h2⟩ := hout j c hj.1 hc q hq
        exact hev.block q (hR.lt q h1).1 h2
    · rcases horig j c hc with ⟨_, _, h⟩ | ⟨_, h⟩
      · exact own_nodup hR.nodup h
      · exact own_nodup hS.nodup h
    · rcases horig i c hc with ⟨h1, h2, h3⟩ | ⟨h1, h3⟩ <;> rcases horig j d hd with ⟨g1, g2, g3⟩ | ⟨g1, g3⟩
      · exact nodup_own hR.nodup i j c d h3 g3 hij q hq hq'
      · exact hdis i c h2 h3 q hq (List.mem_flatMap.2 ⟨d, List.mem_of_getElem? g3, hq'⟩)
      · exact hdis j d g2 g3 q hq' (List.mem_flatMap.2 ⟨c, List.mem_of_getElem? h3, hq⟩)
      · exact nodup_own hS.nodup _ _ c d h3 g3 (fun e => hij (hinj i j h1 g1 e)) q hq hq'
    · obtain ⟨c, hc, hqc⟩ := List.mem_flatMap.1 hq
      obtain ⟨j, hj⟩ := List.getElem?_of_mem hc
      rcases horig j c hj with ⟨_, h2, h3⟩ | ⟨_, h3⟩
      · obtain ⟨h4, h5⟩ := hout j c h2 h3 q hqc
        refine ⟨Nat.lt_of_lt_of_le (hR.lt q h4).1 hev.size, fun hp => ?_⟩
        rcases hev.prn q hp with h | h | h
        · exact (hR.lt q h4).2 h
        · exact h5 h
        · have := (hR.lt q h4).1; omega
      · exact hS.lt q (List.mem_flatMap.2 ⟨c, List.mem_of_getElem? h3, hqc⟩)
  have hEvo : Evo (owns μ) Pr w (owns μN) Pr' w' := by
    refine ⟨hev.os, hev.tape, hev.output, hev.size, fun q hq hno => hev.block q hq (fun hm => hno (hsub q hm)), fun q hq => ?_, hev.prm, fun q hq => ?_⟩
    · obtain ⟨c, hc, hqc⟩ := List.mem_flatMap.1 hq
      obtain ⟨j, hj⟩ := List.getElem?_of_mem hc
      rcases horig j c hj with ⟨_, h2, h3⟩ | ⟨_, h3⟩
      · exact .inl (hout j c h2 h3 q hqc).1
      · exact (hown' q (List.mem_flatMap.2 ⟨c, List.mem_of_getElem? h3, hqc⟩)).imp_left (hsub q)
    · rcases hev.prn q hq with h | h | h
      · exact .inl h
      · exact .inr (.inl (hsub q h))
      · exact .inr (.inr h)
  have hRN : Rel P ⟨(kills ids s).slots, N⟩ a w' μN Pr' := by
    refine ⟨hSN, hR.defers, hK1.len, fun m v hv => ?_⟩
    have hV := hK1.slots m v hv
    rw [hK4] at hV
    exact VRel.mono2 hev.prm hpw hboxN (fun i hi hne => hviewK i (hK2 m v hv i hi) hne) hV
  have hKeep : Keep μ μN := by
    intro i q hi
    rw [hμN]
    have hlt : i < n := by have := (List.getElem?_eq_some_iff.1 hi).1; omega
    by_cases him : i ∈ ids
    · rw [if_pos (.inl him)]
      unfold from'
      rw [if_pos him]
      obtain ⟨c, h1, h2⟩ := hμs i (ids.idxOf i) (get_idxOf him)
      rw [hi] at h1; cases h1
      exact hkeep _ _ h2
    · rw [if_neg (by simp [him]; omega)]; exact hi
  refine ⟨μN, Pr', ?_, hEvo, hKeep⟩
  have hNe : N = setAll (ids.zip bs'') (kills ids s).blks ++ (bs''.drop ids.length ++ laid) := by
    simp only [N, scatter]
    rw [List.drop_append_of_le_length (by omega)]
    congr 2
    exact zip_short ids bs'' laid (by omega)
  rw [hl1]
  have : ({ sets := (putP o.dst (lay (n + (bs''.drop ids.length).length) r').1).sets, bsets := ids.zip bs'', push := bs''.drop ids.length ++ (lay bs'.length r).2, kill := ids.map (·, .gone) } : Patch).apply s = setSlot ⟨(kills ids s).slots, N⟩ o.dst (lay (n + (bs''.drop ids.length).length) r').1 := by
    rw [hNe, hlaid]
    cases o.dst <;> simp [putP, Patch.apply, setAll, modAll, setSlot, kills]
  rw [this]
  exact hRN.setSlot P _ hxN

end Go.Proofs.Ytbbefbgomdmldaa.Ab
