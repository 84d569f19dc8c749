/- Functions: what is evaluated is what a call does. -/
import Derived.Test.YtbbefbgomdmldaaAbsExit
namespace Go.Proofs.Ytbbefbgomdmldaa.Ab
open Go
set_option linter.unusedVariables false
set_option linter.unusedSimpArgs false

variable {P : Program} {O : Orc} {s s' : St} {sc sc' : Script} {w w' : World} {Pr Pr' : Nat → Prop} {bl : List B} {μ μ' : List CB} {a : Act} {wr : Nat → Bool} {lit : Bool} {p : Patch} {vw : Nat → Option VW}

theorem flat_nodup (h : (owns μ).Nodup) : ∀ {L : List Nat}, L.Nodup → (L.flatMap (ownAt μ)).Nodup
  | [], _ => by simp
  | i :: L, hL => by
    rw [List.nodup_cons] at hL
    rw [List.flatMap_cons, List.nodup_append]
    refine ⟨?_, flat_nodup h hL.2, fun q hq q' hq' e => ?_⟩
    · unfold ownAt
      split
      · rename_i c hc; exact own_nodup h hc
      · exact List.nodup_nil
    · subst e
      obtain ⟨j, hj, hqj⟩ := List.mem_flatMap.1 hq'
      unfold ownAt at hq hqj
      split at hq
      · rename_i c hc
        split at hqj
        · rename_i d hd
          exact nodup_own h i j c d hc hd (fun e => hL.1 (e ▸ hj)) q hq hqj
        · cases hqj
      · cases hq

theorem lvs0_ge {n1 : Nat} (v : V) : ∀ i ∈ lvs0 n1 v, n1 ≤ i := by
  intro i hi
  cases v <;> simp only [lvs0] at hi <;> first | (cases hi; done) | (split at hi <;> first | (cases hi; done) | (simp at hi; omega))
theorem lvs1_ge {n1 : Nat} (v : V) : ∀ i ∈ lvs1 n1 v, n1 ≤ i := by
  intro i hi
  have key : i ∈ lvs0 n1 v → n1 ≤ i := lvs0_ge v i
  cases v with
  | agg cs => obtain ⟨c, _, hc⟩ := List.mem_flatMap.1 hi; exact lvs0_ge c i hc
  | _ => exact key hi

theorem leave1_noTup {n1 : Nat} {v v' : V} (h : leave1 s n1 v = some v') : ∀ vs, v' ≠ .tup vs := by
  have key : leave0 s n1 v = some v' → ∀ vs, v' ≠ .tup vs := by
    intro h cs e
    subst e
    unfold leave0 at h
    repeat' split at h
    all_goals first | cases h | skip
  cases v with
  | agg cs => obtain ⟨cs', _, rfl⟩ := Option.map_eq_some_iff.1 h; simp
  | _ => exact key h

theorem lay_single {v : V} (h : ∀ vs, v ≠ .tup vs) (n : Nat) : lay n v = lay1 n v := by
  cases v <;> first | rfl | exact (h _ rfl).elim
theorem lay1_noTup {v : V} (h : ∀ vs, v ≠ .tup vs) (n : Nat) : ∀ vs, (lay1 n v).1 ≠ .tup vs := by
  intro vs
  cases v <;> simp [lay1, layV]
  exact (h _ rfl).elim

/-- The value of results. -/
def oneV (us : List Value) : Value := match us with
  | [u] => u
  | us => .tuple us.toArray

theorem one_tup {vs : List V} (h : ∀ v, vs ≠ [v]) : one vs = .tup vs := by
  match vs, h with
  | [], _ => rfl
  | [v], h => exact (h v rfl).elim
  | _ :: _ :: _, _ => rfl
theorem oneV_tup {us : List Value} (h : ∀ u, us ≠ [u]) : oneV us = .tuple us.toArray := by
  match us, h with
  | [], _ => rfl
  | [v], h => exact (h v rfl).elim
  | _ :: _ :: _, _ => rfl

/-- Several results, or one. -/
theorem one_ok {vs : List V} {us : List Value} (hn : ∀ v ∈ vs, ∀ ws, v ≠ .tup ws) (h : All2 (VRel P w Pr vw) vs us) : VRel P w Pr vw (one vs) (oneV us) := by
  have h1 : All2 (VRel1 P w Pr vw) vs us := All2.monoMem (fun v hv u hu => by
    have := hn v hv
    cases v with
    | tup ws => exact (this ws rfl).elim
    | _ => exact hu) h
  match vs, us, h, h1 with
  | [], [], _, _ => exact ⟨[], rfl, trivial⟩
  | [v], [u], h, _ => exact h.1
  | v :: v2 :: vs, u :: u2 :: us, _, h1 => exact ⟨_, rfl, h1⟩

theorem finish_ok (hR : Rel P s a w' μ' Pr') (hev : Evo (owns μ) Pr w (owns μ') Pr' w') (hk : Keep μ μ') {fn : Func} {n1 : Nat} (hn1 : μ.length = n1) {r : V} {bs' : List B} (h : finish P fn n1 s = some (r, bs')) :
    ∃ x, (results fn a.tmps).run P w' = .ok x w' ∧ ∃ μ'', SRel P (bs' ++ (lay bs'.length r).2) w' μ'' Pr' ∧ VRel P w' Pr' (view (bs' ++ (lay bs'.length r).2) μ'') (lay bs'.length r).1 x ∧ Evo (owns μ) Pr w (owns μ'') Pr' w' ∧ Keep μ μ'' := by
  unfold finish at h
  split at h
  · rename_i vs hvs
    obtain ⟨us, g1, g2⟩ := results_ok hR hvs
    refine ⟨oneV us, g2, ?_⟩
    have whole : (if (lay 0 (one vs)).2.isEmpty && vs.all (fun | .tup _ => false | _ => true) then some (one vs, s.blks) else none) = some (r, bs') →
        ∃ μ'', SRel P (bs' ++ (lay bs'.length r).2) w' μ'' Pr' ∧ VRel P w' Pr' (view (bs' ++ (lay bs'.length r).2) μ'') (lay bs'.length r).1 (oneV us) ∧ Evo (owns μ) Pr w (owns μ'') Pr' w' ∧ Keep μ μ'' := by
      intro h
      split at h
      · rename_i hc
        simp only [Option.some.injEq, Prod.mk.injEq] at h
        obtain ⟨rfl, rfl⟩ := h
        simp only [Bool.and_eq_true] at hc
        have hl := lay_nil (m := 0) (v := one vs) (by simpa using hc.1)
        rw [hl]
        simp only [List.append_nil]
        refine ⟨μ', hR.toSRel, one_ok (fun v hv ws e => ?_) g1, hev, hk⟩
        have := List.all_eq_true.1 hc.2 v hv
        subst e
        simp at this
      · cases h
    dsimp only at h
    split at h
    · rename_i hc
      simp only [Bool.and_eq_true, decide_eq_true_eq] at hc
      obtain ⟨⟨hst, hnd⟩, hle⟩ := hc
      split at h
      · rename_i vs' hl
        simp only [Option.some.injEq, Prod.mk.injEq] at h
        obtain ⟨rfl, rfl⟩ := h
        have hlen : (s.blks.take n1).length = n1 := by simp; omega
        rw [hlen]
        obtain ⟨cs, c1, c2, c3, c4⟩ := leaveT_ok (m := n1) hR.toSRel hl g1
        -- what is laid
        have hnt : ∀ v ∈ vs', ∀ ws, v ≠ .tup ws := by
          have : ∀ {vs vs' : List V}, leaveT s n1 vs = some vs' → ∀ v ∈ vs', ∀ ws, v ≠ .tup ws := by
            intro vs
            induction vs with
            | nil => intro vs' h; simp only [leaveT, Option.some.injEq] at h; subst h; simp
            | cons x r ih =>
              intro vs' h
              simp only [leaveT] at h
              split at h
              · rename_i y z h1 h2
                cases h
                intro v hv
                rcases List.mem_cons.1 hv with rfl | hv
                · exact leave1_noTup h1
                · exact ih h2 v hv
              · cases h
          exact this hl
        have hlay : (lay n1 (one vs')).2 = (layT n1 vs').2 ∧ ∀ vw, All2 (VRel1 P w' Pr' vw) (layT n1 vs').1 us → VRel P w' Pr' vw (lay n1 (one vs')).1 (oneV us) := by
          match vs', hnt with
          | [], _ => exact ⟨rfl, fun vw h => by cases us with | nil => exact ⟨[], rfl, trivial⟩ | cons _ _ => exact h.elim⟩
          | [v], hnt =>
            have hv := hnt v (by simp)
            refine ⟨by show (lay n1 v).2 = (layT n1 [v]).2; rw [lay_single hv]; simp [layT], fun vw h => ?_⟩
            cases us with
            | nil => exact h.elim
            | cons u r => cases r with
              | nil => show VRel P w' Pr' vw (lay n1 v).1 u; rw [lay_single hv]; exact VRel1.toV h.1
              | cons _ _ => exact h.2.elim
          | v :: v2 :: r, _ =>
            refine ⟨rfl, fun vw h => ?_⟩
            have hu : ∀ u, us ≠ [u] := fun u e => by subst e; exact h.2.elim
            rw [oneV_tup hu]
            exact ⟨us, rfl, h⟩
        obtain ⟨hlay2, hlay1⟩ := hlay
        rw [hlay2]
        let N := s.blks.take n1 ++ (layT n1 vs').2
        let M := μ'.take n1 ++ cs
        have hmu : μ'.length = s.blks.length := hR.mu
        have htl : (μ'.take n1).length = n1 := by simp; omega
        have hvwlt : ∀ i, i < n1 → view N M i = view s.blks μ' i := by
          intro i hi
          unfold view
          rw [List.getElem?_append_left (by omega), List.getElem?_append_left (by omega), List.getElem?_take_of_lt hi, List.getElem?_take_of_lt hi]
        have hvwge : ∀ (j : Nat) (b : B) (c : CB), (layT n1 vs').2[j]? = some b → cs[j]? = some c → view N M (n1 + j) = vwOf b c := by
          intro j b c hb hc
          unfold view
          rw [List.getElem?_append_right (by omega), List.getElem?_append_right (by omega), hlen, htl, show n1 + j - n1 = j by omega, hb, hc]
        have hsubT : ∀ q ∈ owns (μ'.take n1), ∃ i c, i < n1 ∧ μ'[i]? = some c ∧ q ∈ c.own := by
          intro q hq
          obtain ⟨c, hc, hqc⟩ := List.mem_flatMap.1 hq
          obtain ⟨i, hi⟩ := List.getElem?_of_mem hc
          rw [List.getElem?_take] at hi
          split at hi
          · rename_i hlt; exact ⟨i, c, hlt, hi, hqc⟩
          · cases hi
        have hsubC : ∀ q ∈ owns cs, ∃ i c, n1 ≤ i ∧ μ'[i]? = some c ∧ q ∈ c.own := by
          intro q hq
          rw [c2] at hq
          obtain ⟨i, hi, hqi⟩ := List.mem_flatMap.1 hq
          obtain ⟨v, _, hv⟩ := List.mem_flatMap.1 hi
          unfold ownAt at hqi
          split at hqi
          · rename_i c hc; exact ⟨i, c, lvs1_ge v i hv, hc, hqi⟩
          · cases hqi
        have hsub : ∀ q ∈ owns M, q ∈ owns μ' := by
          intro q hq
          rw [owns_append] at hq
          rcases List.mem_append.1 hq with hq | hq
          · obtain ⟨i, c, _, h1, h2⟩ := hsubT q hq; exact List.mem_flatMap.2 ⟨c, List.mem_of_getElem? h1, h2⟩
          · obtain ⟨i, c, _, h1, h2⟩ := hsubC q hq; exact List.mem_flatMap.2 ⟨c, List.mem_of_getElem? h1, h2⟩
        refine ⟨M, ⟨by simp [M, c1]; omega, fun id b c hb hc => ?_, ?_, fun q hq => hR.lt q (hsub q hq), hR.pr⟩, hlay1 _ (c4 (view N M) hvwlt hvwge), ⟨hev.os, hev.tape, hev.output, hev.size, hev.block, fun q hq => hev.own q (hsub q hq), hev.prm, hev.prn⟩, fun i q hi => ?_⟩
        · by_cases hid : id < n1
          · rw [List.getElem?_append_left (by omega), List.getElem?_take_of_lt hid] at hb
            rw [List.getElem?_append_left (by omega), List.getElem?_take_of_lt hid] at hc
            refine (hR.blks id b c hb hc).mono P (fun _ h => h) (fun _ _ => rfl) (fun _ _ => rfl) (fun i hi _ => hvwlt i ?_)
            have hmem : b ∈ s.blks.take n1 := List.mem_of_getElem? (i := id) (by rw [List.getElem?_take_of_lt hid]; exact hb)
            have := List.all_eq_true.1 (List.all_eq_true.1 hst b hmem) i hi
            simpa using this
          · rw [List.getElem?_append_right (by omega), hlen] at hb
            rw [List.getElem?_append_right (by omega), htl] at hc
            exact c3 _ b c hb hc _
        · rw [owns_append, List.nodup_append]
          refine ⟨nodup_owns_mk (fun i c hc => ?_) (fun i j c d hij hc hd => ?_), by rw [c2]; exact flat_nodup hR.nodup (nodupB_ok hnd), fun q hq q' hq' e => ?_⟩
          · rw [List.getElem?_take] at hc
            split at hc
            · exact own_nodup hR.nodup hc
            · cases hc
          · rw [List.getElem?_take] at hc hd
            split at hc
            · split at hd
              · exact nodup_own hR.nodup i j c d hc hd hij
              · cases hd
            · cases hc
          · subst e
            obtain ⟨i, c, h1, h2, h3⟩ := hsubT q hq
            obtain ⟨j, d, h4, h5, h6⟩ := hsubC q hq'
            exact nodup_own hR.nodup i j c d h2 h5 (by omega) q h3 h6
        · have hlt : i < n1 := by have := (List.getElem?_eq_some_iff.1 hi).1; omega
          rw [List.getElem?_append_left (by omega), List.getElem?_take_of_lt hlt]
          exact hk i q hi
      · exact whole h
    · exact whole h
  · cases h

theorem entry_ok {fn : Func} {as : List V} {bs : List B} {vs : List Value} (hS : SRel P bs w μ Pr) (h : All2 (VRel P w Pr (view bs μ)) as vs) :
    Rel P (entry fn as bs) { tmps := vs.toArray ++ Array.replicate (fn.ntmps - vs.toArray.size) undef, defers := [] } w μ Pr := by
  have hl := h.length
  refine ⟨hS, rfl, by simp [entry, hl], fun n v hv => ?_⟩
  simp only [entry] at hv
  by_cases hn : n < as.length
  · rw [List.getElem?_append_left hn] at hv
    obtain ⟨u, hu, hr⟩ := h.get n v hv
    have : (vs.toArray ++ Array.replicate (fn.ntmps - vs.toArray.size) undef).getD n undef = u := by
      rw [Array.getD_eq_getD_getElem?, Array.getElem?_append_left (by simp; omega), List.getElem?_toArray, hu]; rfl
    show VRel P w Pr _ v ((vs.toArray ++ Array.replicate (fn.ntmps - vs.toArray.size) undef).getD n undef)
    rw [this]; exact hr
  · rw [List.getElem?_append_right (by omega), List.getElem?_replicate] at hv
    split at hv
    · cases hv; trivial
    · cases hv

/-- What is evaluated is what a call does. -/
theorem icall_of_ev (hO : OrcOk P O) (hm : P.follows .mixedOrders = true) {f n : Nat} {fn : Func} {c : Code} {as : List V} {bs bs' : List B} {r : V} {e : Ex} {ps : List Prop} (hf : P.funcs[f]? = some fn) (hb : fn.body = some c)
    (h : ev P wr (ICall P) lit O n c (entry fn as bs) sc = some (e, s', sc', ps)) (he : e = .ret ∨ e = .normal) (hps : ∀ q ∈ ps, q) (hfin : finish P fn bs.length s' = some (r, bs')) : ICall P f as bs r bs' := by
  intro w Pr μ vs hS hvs
  refine calls_of_wp hf hb (wp_mono (ev_ok hO hm n c h hps _ w μ Pr (entry_ok hS hvs)).1 ?_)
  rintro e' a' w' ⟨rfl, μ', Pr', hR, hev, hk⟩
  obtain ⟨x, hx, μ'', g1, g2, g3, g4⟩ := finish_ok hR hev hk hS.mu hfin
  rcases he with rfl | rfl <;> exact ⟨hR.defers, x, hx, x, μ'', Pr', rfl, g1, g2, g3, g4⟩

end Go.Proofs.Ytbbefbgomdmldaa.Ab
