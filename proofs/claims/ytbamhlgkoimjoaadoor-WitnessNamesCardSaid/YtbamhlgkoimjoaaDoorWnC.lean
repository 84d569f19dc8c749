/- Texts of this claim, one behind the other: Regions that draw their order: the theorem. .. -/
import Derived.Test.YtbamhlgkoimjoaaDoorWnB
import Derived.Scope
/- Regions that draw their order: the theorem. -/
namespace Go.Proofs.YtbamhlgkoimjoaaDoor.Ab
open Go
set_option linter.unusedVariables false
set_option linter.unusedSimpArgs false

variable {P : Program} {O : Orc} {s s' : St} {sc sc' : Script} {w w' : World} {Pr Pr' : Nat → Prop} {bl : List B} {μ : List CB} {a : Act} {wr : Nat → Bool} {lit : Bool} {p : Patch}

theorem ap_symm {rs : List Rec} {n i j : Nat} (h : AP rs n i j) : AP rs n j i := by
  obtain ⟨x, y, h1, h2, h3⟩ := h
  exact ⟨y, x, h2, h1, h3.symm⟩

/-- What is done. -/
def Dn (listed : Array Bool) (i : Nat) : Bool := listed.getD i false

theorem range_at {i m : Nat} (h : i < m) : ∃ B, List.range m = List.range i ++ i :: B ∧ ∀ j ∈ B, i < j ∧ j < m := by
  obtain ⟨k, rfl⟩ : ∃ k, m = i + (k + 1) := ⟨m - i - 1, by omega⟩
  refine ⟨((List.range k).map Nat.succ).map (i + ·), ?_, fun j hj => ?_⟩
  · rw [List.range_add, List.range_succ_eq_map]; simp
  · simp only [List.mem_map, List.mem_range] at hj
    obtain ⟨x, ⟨y, hy, rfl⟩, rfl⟩ := hj
    omega

theorem drawn_any {ops : List Oper} {rs : List Rec} {pp : List Patch} {Q : Exit → Act → World → Prop} (hc : Chain P s.blks.length ops ops s rs pp s') (ho : OrderOk s.blks.length rs) (hQ : ∀ a' w', After P s' μ Pr w a' w' → Q .normal a' w') :
    ∀ (fuel : Nat) (listed : Array Bool) (a' : Act) (w' : World), listed.size = ops.length → (∀ (j : Nat) (r : Rec), rs[j]? = some r → Dn listed j = true → ∀ e ∈ r.edges, Dn listed e = true) →
      ((List.range ops.length).filter (fun i => !Dn listed i)).length = fuel → After P (appI pp ((List.range ops.length).filter (Dn listed)) s) μ Pr w a' w' → wpAny P .any ops.toArray Q fuel listed a' w' := by
  obtain ⟨hl1, hl2⟩ := chain_len hc
  obtain ⟨hget, hend⟩ := chain_get hc
  have hok : ∀ i r, rs[i]? = some r → PatchOk r (PP pp i) := by
    intro i r hr
    have hi : i < rs.length := (List.getElem?_eq_some_iff.1 hr).1
    have h1 : ops[i]? = some ops[i] := List.getElem?_eq_getElem (by omega)
    have h2 : pp[i]? = some pp[i] := List.getElem?_eq_getElem (by omega)
    have := (hget i _ r _ h1 hr h2).toPatchOk
    unfold PP; rw [h2]; exact this
  have hedge : ∀ (i : Nat) (o : Oper) (r : Rec), ops[i]? = some o → rs[i]? = some r → r.edges = edgesOf o := by
    intro i o r h1 hr
    have hi : i < rs.length := (List.getElem?_eq_some_iff.1 hr).1
    have h2 : pp[i]? = some pp[i] := List.getElem?_eq_getElem (by omega)
    exact (hget i o r _ h1 hr h2).edges
  intro fuel
  induction fuel with
  | zero =>
    intro listed a' w' hsz hcl hlen hA
    have hall : ∀ i, i < ops.length → Dn listed i = true := by
      intro i hi
      have hnil := List.eq_nil_of_length_eq_zero hlen
      cases hd : Dn listed i with
      | true => rfl
      | false =>
        have : i ∈ (List.range ops.length).filter (fun i => !Dn listed i) := List.mem_filter.2 ⟨List.mem_range.2 hi, by simp [hd]⟩
        rw [hnil] at this; cases this
    refine ⟨List.eq_nil_iff_forall_not_mem.2 fun i hi => ?_, hQ a' w' ?_⟩
    · obtain ⟨h1, o, h2, _⟩ := mem_ready.1 hi
      have hlt : i < ops.length := by have := (Array.getElem?_eq_some_iff.1 h2).1; simpa using this
      have h3 := hall i hlt
      have hlt2 : i < listed.size := by omega
      simp only [Dn, Array.getD_eq_getD_getElem?, Array.getElem?_eq_getElem hlt2, Option.getD_some] at h1 h3
      rw [h1] at h3; cases h3
    · have hf : (List.range ops.length).filter (Dn listed) = List.range ops.length := List.filter_eq_self.2 fun i hi => hall i (List.mem_range.1 hi)
      rw [hf, appI_range pp s _ (by omega), ← hl2, List.take_length, ← hend] at hA
      exact hA
  | succ fuel ih =>
    intro listed a' w' hsz hcl hlen hA
    refine ⟨fun hnil => ?_, fun i hi => ?_⟩
    · -- something is ready
      exfalso
      have hall : ∀ i, i < ops.length → Dn listed i = true := by
        intro i
        induction i using Nat.strongRecOn with
        | _ i ihs =>
          intro hi
          cases hd : Dn listed i with
          | true => rfl
          | false =>
            have hr : rs[i]? = some rs[i] := List.getElem?_eq_getElem (by omega)
            have hop : ops[i]? = some ops[i] := List.getElem?_eq_getElem hi
            have hmem : i ∈ Region.ready .any ops.toArray listed := by
              refine mem_ready.2 ⟨?_, ops[i], by simp, fun e he hb => ?_⟩
              · have hlt2 : i < listed.size := by omega
                simp only [Dn, Array.getD_eq_getD_getElem?, Array.getElem?_eq_getElem hlt2, Option.getD_some] at hd ⊢
                exact hd
              · have hee : e.on ∈ rs[i].edges := by
                  rw [hedge i _ _ hop hr]
                  exact List.mem_map.2 ⟨e, List.mem_filter.2 ⟨by simpa using he, hb⟩, rfl⟩
                have hlt := ho.back i _ hr _ hee
                exact ihs e.on hlt (by omega)
            rw [hnil] at hmem; cases hmem
      have : (List.range ops.length).filter (fun i => !Dn listed i) = [] := List.filter_eq_nil_iff.2 fun i hi => by simp [hall i (List.mem_range.1 hi)]
      rw [this] at hlen; cases hlen
    · obtain ⟨hun, o, hop, hal⟩ := mem_ready.1 hi
      have him : i < ops.length := by have := (Array.getElem?_eq_some_iff.1 hop).1; simpa using this
      have hop' : ops[i]? = some o := by simpa using hop
      have hr : rs[i]? = some rs[i] := List.getElem?_eq_getElem (by omega)
      have hp : pp[i]? = some pp[i] := List.getElem?_eq_getElem (by omega)
      have hPP : PP pp i = pp[i] := by unfold PP; rw [hp]; rfl
      have hstep := hget i o _ _ hop' hr hp
      have hdi : Dn listed i = false := by
        have hlt2 : i < listed.size := by omega
        simp only [Dn, Array.getD_eq_getD_getElem?, Array.getElem?_eq_getElem hlt2, Option.getD_some] at hun ⊢
        exact hun
      have hedi : ∀ e ∈ rs[i].edges, Dn listed e = true := by
        intro e he
        rw [hedge i o _ hop' hr] at he
        obtain ⟨x, hx, rfl⟩ := List.mem_map.1 he
        obtain ⟨h1, h2⟩ := List.mem_filter.1 hx
        exact hal x (by simpa using h1) h2
      -- pairs
      have pairs : ∀ x y, x < y → y < ops.length → Dn listed x = false → (∀ r, rs[y]? = some r → ∀ e ∈ r.edges, Dn listed e = true) → AP rs s.blks.length x y := by
        intro x y hxy hy hx hey
        rcases ho.pair x y hxy (by omega) with h | h
        · have := h (fun j => Dn listed j = true) hcl hey
          rw [hx] at this; cases this
        · exact h
      obtain ⟨B, hB, hBm⟩ := range_at him
      have eA : ∀ {S : Nat → Bool}, (List.range ops.length).filter S = (List.range i).filter S ++ (i :: B).filter S := by intro S; rw [hB, List.filter_append]
      have eS : (List.range ops.length).filter (Dn listed) = (List.range i).filter (Dn listed) ++ B.filter (Dn listed) := by
        rw [eA]; congr 1; exact List.filter_cons_of_neg (by simp [hdi])
      have hset : ∀ j, j ≠ i → Dn (listed.setIfInBounds i true) j = Dn listed j := fun j hj => getD_set_ne false (Ne.symm hj)
      have hseti : Dn (listed.setIfInBounds i true) i = true := by
        have hlt2 : i < listed.size := by omega
        simp [Dn, hlt2]
      have eS' : (List.range ops.length).filter (Dn (listed.setIfInBounds i true)) = (List.range i).filter (Dn listed) ++ i :: B.filter (Dn listed) := by
        rw [eA]
        congr 1
        · apply List.filter_congr
          intro j hj; exact hset j (by have := List.mem_range.1 hj; omega)
        · have : (i :: B).filter (Dn (listed.setIfInBounds i true)) = i :: B.filter (Dn (listed.setIfInBounds i true)) := List.filter_cons_of_pos hseti
          rw [this]
          congr 1
          apply List.filter_congr
          intro j hj; exact hset j (by have := hBm j hj; omega)
      have hBap : ∀ j ∈ B.filter (Dn listed), AP rs s.blks.length i j := by
        intro j hj
        obtain ⟨h1, h2⟩ := List.mem_filter.1 hj
        obtain ⟨h3, h4⟩ := hBm j h1
        exact pairs i j h3 h4 hdi (fun r hr' => hcl j r hr' h2)
      -- what is read is the same
      have hagr : AgrR rs[i] ((pp.take i).foldl (fun s p => p.apply s) s) (appI pp ((List.range ops.length).filter (Dn listed)) s) := by
        rw [← appI_range pp s i (by omega), eS, appI_append]
        have hkn : Known rs[i] (appI pp (List.range i) s) := by rw [appI_range pp s i (by omega)]; exact hstep.known
        have h2 : AgrR rs[i] (appI pp ((List.range i).filter (Dn listed)) s) (appI pp (List.range i) s) := by
          have e := ap_split (n := s.blks.length) hok (Dn listed) (L := List.range i) s (Nat.le_refl _) (by
            have hpw : (List.range i).Pairwise (fun x y => x < y) := List.pairwise_lt_range
            refine (List.pairwise_iff_forall_sublist.2 fun {x y} hxy hx hy => ?_)
            have hlt : x < y := by
              have := List.pairwise_iff_forall_sublist.1 hpw hxy
              exact this
            have hyi : y ∈ List.range i := hxy.subset (by simp)
            exact pairs x y hlt (by have := List.mem_range.1 hyi; omega) hx (fun r hr' => hcl y r hr' hy))
          rw [e] at hkn ⊢
          refine ap_agr hok hr (appI_len pp _ s) (fun j hj => ?_) (.inr hkn)
          obtain ⟨h1, h2⟩ := List.mem_filter.1 hj
          exact pairs j i (List.mem_range.1 h1) him (by simpa using h2) (fun r hr' => by rw [hr] at hr'; cases hr'; exact hedi)
        have h1 := ap_agr (n := s.blks.length) hok hr (L := B.filter (Dn listed)) (s := appI pp ((List.range i).filter (Dn listed)) s) (appI_len pp _ s) (fun j hj => ap_symm (hBap j hj)) (.inl (hkn.agr h2.symm))
        exact h2.symm.trans h1
      obtain ⟨μ1, Pr1, hR1, hev1, hk1⟩ := hA
      have hwp := hstep.run _ (appI_len pp _ s) hagr a' w' μ1 Pr1 Q i hop' hR1
      refine wpOp_mono (fun a2 w2 h2 => ih (listed.setIfInBounds i true) a2 w2 (by simp [hsz]) (fun j r hj hd e he => ?_) ?_ ?_) hwp
      · by_cases hji : j = i
        · subst hji
          rw [hr] at hj; cases hj
          exact getD_set_true (hedi e he)
        · rw [hset j hji] at hd
          exact getD_set_true (hcl j r hj hd e he)
      · -- one less
        have e1 : ∀ (S : Nat → Bool), S i = true → (∀ j, j ≠ i → S j = !Dn listed j) → ((List.range ops.length).filter S).length = fuel + 1 → ((List.range ops.length).filter (fun j => !Dn (listed.setIfInBounds i true) j)).length = fuel := by
          intro S hSi hS hSl
          rw [eA, List.length_append] at hSl
          have h1 : (i :: B).filter S = i :: B.filter S := List.filter_cons_of_pos hSi
          rw [h1, List.length_cons] at hSl
          rw [eA, List.length_append]
          have h2 : (i :: B).filter (fun j => !Dn (listed.setIfInBounds i true) j) = B.filter (fun j => !Dn (listed.setIfInBounds i true) j) := List.filter_cons_of_neg (by simp [hseti])
          rw [h2]
          have h3 : (List.range i).filter (fun j => !Dn (listed.setIfInBounds i true) j) = (List.range i).filter S := List.filter_congr fun j hj => by
            have := List.mem_range.1 hj
            rw [hset j (by omega), hS j (by omega)]
          have h4 : B.filter (fun j => !Dn (listed.setIfInBounds i true) j) = B.filter S := List.filter_congr fun j hj => by
            have := hBm j hj
            rw [hset j (by omega), hS j (by omega)]
          rw [h3, h4]; omega
        exact e1 (fun j => !Dn listed j) (by simp [hdi]) (fun _ _ => rfl) hlen
      · rw [eS', appI_append]
        have e2 : appI pp (i :: B.filter (Dn listed)) (appI pp ((List.range i).filter (Dn listed)) s) = (PP pp i).apply (appI pp ((List.range ops.length).filter (Dn listed)) s) := by
          rw [eS, appI_append]
          exact ap_past hok _ (appI_len pp _ s) hBap
        rw [e2, hPP]
        exact After.trans hev1 hk1 h2

end Go.Proofs.YtbamhlgkoimjoaaDoor.Ab
/- Lists that are only read from now on. -/
namespace Go.Proofs.YtbamhlgkoimjoaaDoor.Ab
open Go
set_option linter.unusedVariables false
set_option linter.unusedSimpArgs false

variable {P : Program} {O : Orc} {s s' : St} {sc sc' : Script} {w w' : World} {Pr Pr' : Nat → Prop} {bl : List B} {μ : List CB} {a : Act}

theorem Rel.freeze (hR : Rel P s a w μ Pr) (id : Nat) : After P (freeze id s) μ Pr w a w := by
  unfold Ab.freeze
  split
  · rename_i e xs hb
    obtain ⟨hh, wd, cs, g1, g2, g3, g4, g5⟩ := hR.toSRel.lst hb
    have hho : ∀ q ∈ hh.own, q ∈ owns μ := fun q hq => List.mem_flatMap.2 ⟨_, List.mem_of_getElem? g1, hq⟩
    have hsub : ∀ q ∈ owns (μ.set id .dead), q ∈ owns μ ∧ q ∉ hh.own := by
      intro q hq
      rcases mem_owns_set hq with h1 | ⟨j, d, hj, hd, hqd⟩
      · simp [CB.own] at h1
      · exact ⟨List.mem_flatMap.2 ⟨d, List.mem_of_getElem? hd, hqd⟩, nodup_own hR.nodup j id d _ hd g1 hj q hqd⟩
    have hev : Evo (owns μ) Pr w (owns (μ.set id .dead)) (fun b => Pr b ∨ b ∈ hh.own) w :=
      ⟨rfl, rfl, rfl, Nat.le_refl _, fun _ _ _ => rfl, fun q hq => .inl (hsub q hq).1, fun _ h => .inl h, fun q hq => hq.imp_right fun h => .inl (hho q h)⟩
    refine ⟨μ.set id .dead, fun b => Pr b ∨ b ∈ hh.own, hR.killSet hb g1 (by simp [vwOf]) hev (fun _ _ _ => rfl) (fun d hd u hu => ?_) (by simp) trivial (nodup_owns_set hR.nodup g1 (by simp [CB.own]) (by simp [CB.own]))
      (fun q hq => ⟨(hR.lt q (hsub q hq).1).1, fun hp => hp.elim (hR.lt q (hsub q hq).1).2 (hsub q hq).2⟩) (fun q hq => hq.elim (hR.pr q) fun h => (hR.lt q (hho q h)).1), hev, .set g1 (by simp)⟩
    cases hd
    rcases hu with ⟨e', n, h', k1, k2⟩ | ⟨s', lens, b, cap, inner, k1, k2⟩
    · rw [g2] at k1; cases k1
      subst k2
      cases hh with
      | zero a => have := row_nil g4; subst this; exact .sl0 _ _
      | row b c =>
        obtain ⟨q1, q2, q3⟩ := reads_of_row g4 g5
        exact drel_of_reads (Pr' := Pr) (.inr (by simp [H.own])) q1 ⟨q2, fun i x j y hx hy => let ⟨u, r1, r2, r3⟩ := q3 i x j y hx hy; ⟨u, r1, r2, r3.mono (fun _ h => .inl h) (fun _ _ => rfl)⟩⟩
    · rw [g2] at k1; cases k1
  · exact ⟨μ, Pr, hR, .refl _ _ _, .refl _⟩

theorem Rel.frozen (held : List Nat) : ∀ (l : List Nat) {s : St} {μ : List CB} {Pr : Nat → Prop}, Rel P s a w μ Pr → After P (frozen held l s) μ Pr w a w
  | [], s, μ, Pr, hR => ⟨μ, Pr, hR, .refl _ _ _, .refl _⟩
  | i :: r, s, μ, Pr, hR => by
    simp only [Ab.frozen]
    split
    · exact hR.frozen held r
    · obtain ⟨μ1, Pr1, h1, h2, h3⟩ := hR.freeze i
      exact After.trans h2 h3 (h1.frozen held r)

theorem prep_ok (hR : Rel P s a w μ Pr) (o : Oper) : After P (prep s o) μ Pr w a w := by
  have done : After P s μ Pr w a w := ⟨μ, Pr, hR, .refl _ _ _, .refl _⟩
  unfold prep
  dsimp only
  repeat' split
  all_goals first | exact hR.frozen _ _ | exact done

end Go.Proofs.YtbamhlgkoimjoaaDoor.Ab
/- Regions that draw their order, the blocks of new variables laid ahead. -/
namespace Go.Proofs.YtbamhlgkoimjoaaDoor.Ab
open Go
set_option linter.unusedVariables false
set_option linter.unusedSimpArgs false

variable {P : Program} {O : Orc} {s s' : St} {sc sc' : Script} {w w' : World} {Pr Pr' : Nat → Prop} {bl : List B} {μ : List CB} {a : Act} {wr : Nat → Bool} {lit : Bool} {p : Patch}

theorem owns_dead (k : Nat) : owns (List.replicate k CB.dead) = [] := by
  induction k with
  | zero => rfl
  | succ k ih => rw [List.replicate_succ]; exact ih

/-- Blocks laid ahead. -/
theorem Rel.reserve (h : Rel P s a w μ Pr) (k : Nat) : Rel P ⟨s.slots, s.blks ++ List.replicate k .dead⟩ a w (μ ++ List.replicate k .dead) Pr ∧ Evo (owns μ) Pr w (owns (μ ++ List.replicate k .dead)) Pr w ∧ Keep μ (μ ++ List.replicate k .dead) := by
  have ho : owns (μ ++ List.replicate k CB.dead) = owns μ := by rw [owns_append, owns_dead, List.append_nil]
  have hv : ∀ id, view s.blks μ id ≠ none → view (s.blks ++ List.replicate k .dead) (μ ++ List.replicate k .dead) id = view s.blks μ id := by
    intro id hne
    unfold view at hne ⊢
    cases hb : s.blks[id]? with
    | none => simp [hb] at hne
    | some x =>
      have hlt : id < s.blks.length := (List.getElem?_eq_some_iff.1 hb).1
      rw [List.getElem?_append_left hlt, List.getElem?_append_left (by rw [h.mu]; exact hlt), hb]
  refine ⟨h.ofStore rfl ⟨by simp [h.mu], fun id b c hb hc => ?_, by rw [ho]; exact h.nodup, by rw [ho]; exact h.lt, h.pr, h.glob⟩ (by rw [ho]; exact .refl _ _ _) hv, by rw [ho]; exact .refl _ _ _, fun i q hq => ?_⟩
  · by_cases hid : id < s.blks.length
    · rw [List.getElem?_append_left hid] at hb
      rw [List.getElem?_append_left (by rw [h.mu]; exact hid)] at hc
      exact (h.blks id b c hb hc).mono P (fun _ h => h) (fun _ _ => rfl) (fun _ _ => rfl) (fun i _ hne => hv i hne)
    · rw [List.getElem?_append_right (by omega)] at hb
      rw [List.getElem?_append_right (by rw [h.mu]; omega)] at hc
      rw [List.getElem?_replicate] at hb hc
      split at hb
      · split at hc
        · cases hb; cases hc; trivial
        · cases hc
      · cases hb
  · have hi : i < μ.length := (List.getElem?_eq_some_iff.1 hq).1
    rw [List.getElem?_append_left hi]; exact hq

theorem view_fill {b : B} {c : CB} {r : Nat} (hb : bl[r]? = some .dead) (hc : μ[r]? = some .dead) {id : Nat} (h : view bl μ id ≠ none) : view (bl.set r b) (μ.set r c) id = view bl μ id := by
  have hne : r ≠ id := by
    intro e; subst e
    apply h; unfold view; rw [hb, hc]; rfl
  unfold view
  rw [List.getElem?_set_ne hne, List.getElem?_set_ne hne]

theorem goes_alloc_at {ty : Option Nat} {o : Oper} {t : TypeId} {cs : List V} {r d : Nat} {Q : Exit → Act → World → Prop} (hR : Rel P s a w μ Pr) (ho : o.op = .alloc t) (hd : o.dst = some d) (hty : ∀ u, ty = some u → t = u) (hz : zeroC P t = some cs)
    (hr : s.blk r = .dead) (hlt : r < s.blks.length) : o.wp P a w (After P (({ sets := [(d, .ptr r 0)], bsets := [(r, .bx ty cs)] } : Patch).apply s) μ Pr w) Q := by
  obtain ⟨z, hrun, hall⟩ := zeroC_ok (P := P) (w := w) (Pr := Pr) (vw := view s.blks μ) hz
  have hmu := hR.mu
  have hb : s.blks[r]? = some .dead := by
    unfold St.blk at hr
    rw [List.getElem?_eq_getElem hlt] at hr ⊢
    simpa using hr
  have hlt' : r < μ.length := by omega
  have hc : μ[r]? = some .dead := by
    have h1 : μ[r]? = some μ[r] := List.getElem?_eq_getElem hlt'
    have := hR.blks r .dead μ[r] hb h1
    rw [h1]
    cases hm : μ[r] with
    | dead => rfl
    | _ => rw [hm] at this; exact this.elim
  have hrun2 : (execOp a.eval o).run P w = .ok (.value (.pointer (some ⟨w.heap.size, 0, none⟩))) { w with heap := w.heap.push (.cells z.cells t) } := by
    simp only [execOp, ho, Instr.alloc, Sem.run_bind, hrun, Result.andThen_ok, newVar, newRow, run_newObj, Sem.run_pure]
  unfold Oper.wp
  rw [hrun2]
  have hcm : CB.dead ∈ μ := List.mem_of_getElem? hc
  obtain ⟨A, Bt, hsp, hA⟩ : ∃ A Bt, μ = A ++ CB.dead :: Bt ∧ A.length = r := by
    refine ⟨μ.take r, μ.drop (r + 1), ?_, by simp; omega⟩
    have h2 : μ[r] = CB.dead := by
      have h1 : μ[r]? = some μ[r] := List.getElem?_eq_getElem hlt'
      rw [hc] at h1; exact (Option.some.inj h1).symm
    rw [← h2, ← List.drop_eq_getElem_cons hlt', List.take_append_drop]
  have hset : μ.set r (.box w.heap.size) = A ++ CB.box w.heap.size :: Bt := by rw [hsp, ← hA]; simp
  have o1 : owns μ = owns A ++ owns Bt := by rw [hsp, owns_append]; rfl
  have o2 : owns (μ.set r (.box w.heap.size)) = owns A ++ w.heap.size :: owns Bt := by rw [hset, owns_append]; rfl
  have hltw : ∀ k ∈ owns μ, k < w.heap.size := fun k hk => (hR.lt k hk).1
  have hmem : ∀ k, k ∈ owns (μ.set r (.box w.heap.size)) ↔ k ∈ owns μ ∨ k = w.heap.size := by
    intro k; rw [o1, o2]; simp only [List.mem_append, List.mem_cons]
    constructor
    · rintro (h | h | h)
      · exact .inl (.inl h)
      · exact .inr h
      · exact .inl (.inr h)
    · rintro ((h | h) | h)
      · exact .inl h
      · exact .inr (.inr h)
      · exact .inr (.inl h)
  have hnd : (owns (μ.set r (.box w.heap.size))).Nodup := by
    rw [o2, (List.perm_middle).nodup_iff, List.nodup_cons, ← o1]
    exact ⟨fun hk => absurd (hltw _ hk) (Nat.lt_irrefl _), hR.nodup⟩
  have hv : ∀ id, view s.blks μ id ≠ none → view (s.blks.set r (.bx ty cs)) (μ.set r (.box w.heap.size)) id = view s.blks μ id := fun id hne => view_fill hb hc hne
  let w1 : World := { w with heap := w.heap.push (.cells z.cells t) }
  have hold : ∀ k, k < w.heap.size → w1.heap[k]? = w.heap[k]? := heap_push_old
  have hev : Evo (owns μ) Pr w (owns (μ.set r (.box w.heap.size))) Pr w1 := ⟨rfl, rfl, rfl, by simp [w1], fun k hk _ => hold k hk, fun k hk => by
    rcases (hmem k).1 hk with h | h
    · exact .inl h
    · exact .inr (by omega), fun _ h => h, fun _ h => .inl h⟩
  have hS : SRel P (s.blks.set r (.bx ty cs)) w1 (μ.set r (.box w.heap.size)) Pr := by
    refine ⟨by simp [hmu], fun id x y hx hy => ?_, hnd, fun k hk => ?_, fun k hk => Nat.lt_of_lt_of_le (hR.pr k hk) (by simp [w1]), hR.glob.mono (fun _ h => h) (fun k hk => hold k (hR.pr k hk))⟩
    · by_cases hid : r = id
      · subst hid
        rw [List.getElem?_set_self hlt] at hx
        rw [List.getElem?_set_self hlt'] at hy
        cases hx; cases hy
        exact box_new hty (All2.mono (fun v u h => ⟨h.1.to1, h.2⟩) hall) hR.pr (fun id hne => hv id hne)
      · rw [List.getElem?_set_ne hid] at hx hy
        exact (hR.blks id x y hx hy).mono P (fun _ h => h) (fun k hk => hold k (hR.pr k hk)) (fun k hk => hold k (hltw k (List.mem_flatMap.2 ⟨y, List.mem_of_getElem? hy, hk⟩))) (fun i _ hne => hv i hne)
    · rcases (hmem k).1 hk with h | h
      · exact ⟨Nat.lt_of_lt_of_le (hltw k h) (by simp [w1]), (hR.lt k h).2⟩
      · exact ⟨by rw [h]; simp [w1], fun hp => by have := hR.pr k hp; omega⟩
  have hR' : Rel P ⟨s.slots, s.blks.set r (.bx ty cs)⟩ a w1 (μ.set r (.box w.heap.size)) Pr := hR.ofStore rfl hS hev hv
  refine ⟨μ.set r (.box w.heap.size), Pr, ?_, hev, fun i q hq => ?_⟩
  · have : ({ sets := [(d, .ptr r 0)], bsets := [(r, .bx ty cs)] } : Patch).apply s = setSlot ⟨s.slots, s.blks.set r (.bx ty cs)⟩ o.dst (.ptr r 0) := by
      rw [hd]; simp [Patch.apply, setAll, modAll, setSlot]
    rw [this]
    refine hR'.setSlot P _ ⟨_, ?_, rfl⟩
    unfold view
    rw [List.getElem?_set_self hlt, List.getElem?_set_self hlt']; rfl
  · have hne : r ≠ i := by intro e; subst e; rw [hc] at hq; cases hq
    rw [List.getElem?_set_ne hne]; exact hq

theorem step_trueR {n0 : Nat} {res : List (Nat × Nat)} {all : List Oper} {o : Oper} {ps : List Prop} {l : Log} (hO : OrcOk P O) (hres : ∀ x ∈ res, x.2 < n0) (hst : NoDst o) (hw : wantedV s all o = some true) (h : (evOpR P wr (ICall P) res lit o).runL O s sc = some (p, sc', ps, l)) (hps : ∀ q ∈ ps, q)
    (hsets : p.sets.all (fun x => some x.1 == o.dst) = true) : StepOk P n0 all o s (recOf all o s p l) p := by
  unfold evOpR at h
  split at h
  · rename_i t d ho hd
    split at h
    · rename_i r cs hr hz
      have hmem : (d, r) ∈ res := by
        obtain ⟨l1, l2, hl, _⟩ := List.lookup_eq_some_iff.1 hr
        rw [hl]; simp
      simp only [Q.runL] at h
      split at h
      · rename_i x sc1 ps1 lg hq
        split at hq
        · rename_i hdead
          simp only [Q.runL, Option.some.injEq, Prod.mk.injEq] at hq
          obtain ⟨rfl, rfl, rfl, rfl⟩ := hq
          simp only [Option.some.injEq, Prod.mk.injEq] at h
          obtain ⟨rfl, rfl, rfl, rfl⟩ := h
          refine ⟨patchOk_of hsets, rfl, known_of, fun s' hn hA a w μ Pr Q i hi hR => ?_⟩
          have hw' : wantedV s' all o = some true := by
            rw [wanted_frame (fun n hn => hA.1 n (List.mem_append_left _ hn)), hw]
          have hwt := wanted_ok hR hw'
          have hi' : all.toArray[i]? = some o := by simpa using hi
          unfold wpOp
          simp only [hi', hwt, if_true]
          have hb : s'.blk r = .dead := by rw [hA.2.1 r (by simp [recOf])]; exact hdead
          refine .inl (goes_alloc_at hR ho hd ?_ hz hb (Nat.lt_of_lt_of_le (hres _ hmem) hn))
          intro u hu
          split at hu
          · exact Option.some.inj hu
          · exact absurd hu (by simp)
        · simp [Q.runL] at hq
      · cases h
    · simp [Q.runL] at h
  · exact step_true hO hst hw h hps hsets

theorem evRecsR_ok {n0 : Nat} {res : List (Nat × Nat)} (hO : OrcOk P O) (hres : ∀ x ∈ res, x.2 < n0) {all : List Oper} : ∀ {l : List Oper} {s s' : St} {sc sc' : Script} {ps : List Prop} {rs : List Rec}, (∀ o ∈ l, NoDst o) → evRecsR P wr (ICall P) res lit O all l s sc = some (s', sc', ps, rs) → (∀ q ∈ ps, q) →
    ∃ pp, Chain P n0 all l s rs pp s'
  | [], s, s', sc, sc', ps, rs, _, h, _ => by
    simp only [evRecsR, Option.some.injEq, Prod.mk.injEq] at h
    obtain ⟨rfl, _, _, rfl⟩ := h
    exact ⟨[], rfl⟩
  | o :: l, s, s', sc, sc', ps, rs, hd, h, hps => by
    simp only [evRecsR] at h
    split at h
    · rename_i hw
      split at h
      · rename_i p sc1 ps1 lg he
        split at h
        · cases h
        · rename_i hsets
          split at h
          · rename_i s2 sc2 qs rs2 hr
            simp only [Option.some.injEq, Prod.mk.injEq] at h
            obtain ⟨rfl, rfl, rfl, rfl⟩ := h
            obtain ⟨pp, hc⟩ := evRecsR_ok hO hres (fun x hx => hd x (List.mem_cons_of_mem _ hx)) hr (fun q hq => hps q (List.mem_append_right _ hq))
            exact ⟨p :: pp, step_trueR hO hres (hd o (List.mem_cons_self ..)) hw he (fun q hq => hps q (List.mem_append_left _ hq)) (by simpa using hsets), hc⟩
          · cases h
      · cases h
    · rename_i hw
      split at h
      · rename_i s2 sc2 qs rs2 hr
        simp only [Option.some.injEq, Prod.mk.injEq] at h
        obtain ⟨rfl, rfl, rfl, rfl⟩ := h
        obtain ⟨pp, hc⟩ := evRecsR_ok hO hres (fun x hx => hd x (List.mem_cons_of_mem _ hx)) hr hps
        exact ⟨voidP o :: pp, step_false hw, hc⟩
      · cases h
    · cases h

end Go.Proofs.YtbamhlgkoimjoaaDoor.Ab
/- Code: what the machine evaluates, the model does. -/
namespace Go.Proofs.YtbamhlgkoimjoaaDoor.Ab
open Go
set_option linter.unusedVariables false
set_option linter.unusedSimpArgs false

variable {P : Program} {O : Orc} {s s' : St} {sc sc' : Script} {w w' : World} {Pr Pr' : Nat → Prop} {bl : List B} {μ : List CB} {a : Act} {wr : Nat → Bool} {lit : Bool} {p : Patch}

theorem noDst_of {o : Oper} (h : noDstB o = true) : NoDst o := by
  intro t x y ho
  simp only [noDstB, ho] at h
  simpa using h

theorem evOps_ok (hO : OrcOk P O) {all : List Oper} {Q : Exit → Act → World → Prop} : ∀ {l : List Oper} {k : Nat} {s s' : St} {sc sc' : Script} {ps : List Prop} {a : Act} {w : World} {μ : List CB} {Pr : Nat → Prop},
    (∀ j, l[j]? = all[k + j]?) → (∀ o ∈ l, NoDst o) → evOps P wr (ICall P) lit O all l s sc = some (s', sc', ps) → (∀ q ∈ ps, q) → Rel P s a w μ Pr → (∀ a' w', After P s' μ Pr w a' w' → Q .normal a' w') →
    wpOps P all.toArray Q ((List.range l.length).map (k + ·)) a w
  | [], k, s, s', sc, sc', ps, a, w, μ, Pr, _, _, h, _, hR, hQ => by
    simp only [evOps, Option.some.injEq, Prod.mk.injEq] at h
    obtain ⟨rfl, _, _⟩ := h
    exact hQ a w ⟨μ, Pr, hR, .refl _ _ _, .refl _⟩
  | o :: l, k, s, s', sc, sc', ps, a, w, μ, Pr, hl, hd, h, hps, hR, hQ => by
    have h0 : all[k]? = some o := by simpa using (hl 0).symm
    have hi : all.toArray[k]? = some o := by simpa using h0
    have hl' : ∀ j, l[j]? = all[k + 1 + j]? := fun j => by have := hl (j + 1); rw [List.getElem?_cons_succ] at this; rw [this]; congr 1; omega
    have hd' : ∀ o ∈ l, NoDst o := fun x hx => hd x (List.mem_cons_of_mem _ hx)
    have hmap : (List.range (o :: l).length).map (k + ·) = k :: (List.range l.length).map (k + 1 + ·) := by
      rw [List.length_cons, List.range_succ_eq_map]
      simp only [List.map_cons, List.map_map, Nat.add_zero]
      congr 1
      apply List.map_congr_left
      intro x _; simp only [Function.comp]; omega
    rw [hmap, wpOps_cons]
    simp only [evOps] at h
    split at h
    · rename_i hw
      split at h
      · rename_i p sc1 ps1 he
        split at h
        · rename_i s2 sc2 qs hr
          simp only [Option.some.injEq, Prod.mk.injEq] at h
          obtain ⟨rfl, rfl, rfl⟩ := h
          unfold wpOp
          simp only [hi, wanted_ok hR hw, if_true]
          obtain ⟨μ0, Pr0, hR0, hev0, hk0⟩ := prep_ok hR o
          refine .inl (Oper.wp_mono (fun a1 w1 h1 => ?_) (evOp_ok (s := prep s o) (sc := sc) (sc' := sc1) (p := p) hO hR0 (hd o (List.mem_cons_self ..)) ⟨ps1, he, fun q hq => hps q (List.mem_append_left _ hq)⟩))
          obtain ⟨μ1, Pr1, hR1, hev, hk⟩ := h1
          exact evOps_ok hO hl' hd' hr (fun q hq => hps q (List.mem_append_right _ hq)) hR1 (fun a' w' h => hQ a' w' (After.trans hev0 hk0 (After.trans hev hk h)))
        · cases h
      · cases h
    · rename_i hw
      unfold wpOp
      simp only [hi, wanted_ok hR hw, Bool.false_eq_true, if_false]
      obtain ⟨μ1, Pr1, hR1, hev, hk⟩ := voidP_ok (o := o) hR
      exact evOps_ok hO hl' hd' h hps hR1 (fun a' w' h => hQ a' w' (After.trans hev hk h))
    · cases h

theorem region_ok (hO : OrcOk P O) (hm : P.follows .mixedOrders = true) {id : Nat} {ops : List Oper} {draw : Bool} {ps : List Prop} {Q : Exit → Act → World → Prop} (h : evRegion P wr (ICall P) lit O ops draw s sc = some (s', sc', ps)) (hps : ∀ q ∈ ps, q)
    (hR : Rel P s a w μ Pr) (hQ : ∀ a' w', After P s' μ Pr w a' w' → Q .normal a' w') : (Code.region id ops.toArray draw).wp P Q a w := by
  unfold evRegion at h
  split at h
  · cases h
  rename_i hd
  have hd' : ∀ o ∈ ops, NoDst o := fun o ho => noDst_of (List.all_eq_true.1 (by simpa using hd) o ho)
  split at h
  · rename_i hdr
    subst hdr
    have go : ∀ {s0 : St} {μ0 : List CB} {rs : List Rec} {pp : List Patch}, Rel P s0 a w μ0 Pr → Evo (owns μ) Pr w (owns μ0) Pr w → Keep μ μ0 → Chain P s0.blks.length ops ops s0 rs pp s' → orderB s0.blks.length rs = true → (Code.region id ops.toArray true).wp P Q a w := by
      intro s0 μ0 rs pp hR0 hev0 hk0 hc hord
      have hq := quiet_drawn (Quiet.refl w Pr) (w.drawn + 1)
      have hR1 := hq.rel hR0
      refine wp_region_any hm ?_
      have hnil : ∀ m j, Dn (Array.replicate m false) j = false := fun m j => by
        unfold Dn
        rw [Array.getD_eq_getD_getElem?, Array.getElem?_replicate]
        split <;> rfl
      have := drawn_any (μ := μ0) (Pr := Pr) (w := { w with drawn := w.drawn + 1 }) (Q := Q) hc (orderB_ok hord) (fun a' w' h => hQ a' w' (After.trans hev0 hk0 (After.trans (hq.evo _) (.refl _) h))) ops.toArray.size (Array.replicate ops.toArray.size false) a { w with drawn := w.drawn + 1 } (by simp)
        (fun j r _ hdn => by rw [hnil] at hdn; cases hdn) (by
          have : (List.range ops.length).filter (fun i => !Dn (Array.replicate ops.toArray.size false) i) = List.range ops.length := List.filter_eq_self.2 fun i _ => by simp [hnil]
          rw [this]; simp) (by
          have : (List.range ops.length).filter (Dn (Array.replicate ops.toArray.size false)) = [] := List.filter_eq_nil_iff.2 fun i _ => by simp [hnil]
          rw [this]
          exact ⟨μ0, Pr, hR1, .refl _ _ _, .refl _⟩)
      exact this
    split at h
    · rename_i x hx
      simp only [Option.some.injEq] at h
      subst h
      unfold evDraw at hx
      split at hx
      · rename_i s1 sc1 ps1 rs he
        split at hx
        · rename_i hord
          simp only [Option.some.injEq, Prod.mk.injEq] at hx
          obtain ⟨rfl, rfl, rfl⟩ := hx
          obtain ⟨pp, hc⟩ := evRecs_ok (n0 := s.blks.length) hO hd' he hps
          exact go hR (.refl _ _ _) (.refl _) hc hord
        · cases hx
      · cases hx
    · unfold evDrawR at h
      simp only at h
      split at h
      · rename_i s1 sc1 ps1 rs he
        split at h
        · rename_i hord
          simp only [Option.some.injEq, Prod.mk.injEq] at h
          obtain ⟨rfl, rfl, rfl⟩ := h
          simp only [Bool.and_eq_true] at hord
          obtain ⟨hR0, hev0, hk0⟩ := hR.reserve (resOf ops s.blks.length).length
          obtain ⟨pp, hc⟩ := evRecsR_ok (n0 := (⟨s.slots, s.blks ++ List.replicate (resOf ops s.blks.length).length B.dead⟩ : St).blks.length) hO (fun x hx => by have := List.all_eq_true.1 hord.2 x hx; simpa using this) hd' he hps
          exact go hR0 hev0 hk0 hc hord.1
        · cases h
      · cases h
  · rename_i hdr
    have hdf : draw = false := by simpa using hdr
    subst hdf
    refine wp_region ?_
    have := evOps_ok (Q := Q) hO (all := ops) (l := ops) (k := 0) (fun j => by rw [Nat.zero_add]) hd' h hps hR hQ
    simpa using this

/-! ### loops -/

/-- A loop at its head. -/
def LoopWp (P : Program) (c : Code) (Q : Exit → Act → World → Prop) (a : Act) (w : World) : Prop :=
  ∀ (b : Frame) (k : List Item) (cs : List Frame), ∃ e a' w', Q e a' w' ∧ Arrives P (lone (b.at a (.code c :: .inLoop c :: k)) cs w) b k cs e a' w'

theorem wp_of_loop {c : Code} {Q : Exit → Act → World → Prop} (h : LoopWp P c Q a w) : (Code.loop c).wp P Q a w :=
  fun b k cs => let ⟨e, a', w', q, r⟩ := h b k cs; ⟨e, a', w', q, .of_steps (.one step_loop) r⟩

theorem loop_round {c : Code} {Q : Exit → Act → World → Prop} (h : c.wp P (Exit.then (LoopWp P c Q) Q) a w) : LoopWp P c Q a w := by
  intro b k cs
  obtain ⟨e, a₁, w₁, hq, harr⟩ := h b (.inLoop c :: k) cs
  cases e with
  | normal =>
    obtain ⟨e₂, a₂, w₂, hq₂, harr₂⟩ := hq b k cs
    exact ⟨e₂, a₂, w₂, hq₂, .of_steps (Steps.trans harr (.one step_inLoop)) harr₂⟩
  | exit id => exact ⟨_, a₁, w₁, hq, .pass (x := .inLoop c) rfl (fun _ _ => .inl (by simp)) harr⟩
  | goto l => exact ⟨_, a₁, w₁, hq, .pass (x := .inLoop c) rfl (fun _ _ => .inl (by simp)) harr⟩
  | ret => exact ⟨_, a₁, w₁, hq, .pass (x := .inLoop c) rfl (fun _ _ => .inl (by simp)) harr⟩
  | panic ch => exact ⟨_, a₁, w₁, hq, .pass (x := .inLoop c) rfl (fun _ _ => .inl (by simp)) harr⟩
  | outgrown => exact ⟨_, a₁, w₁, hq, .pass (x := .inLoop c) rfl (fun _ _ => .inl (by simp)) harr⟩

theorem LoopWp.mono {c : Code} {Q Q' : Exit → Act → World → Prop} (h : LoopWp P c Q a w) (hq : ∀ e a w, Q e a w → Q' e a w) : LoopWp P c Q' a w :=
  fun b k cs => let ⟨e, a', w', q, r⟩ := h b k cs; ⟨e, a', w', hq _ _ _ q, r⟩

/-! ### code -/

def Ex.to : Ex → Exit
  | .normal => .normal
  | .exit id => .exit id
  | .ret => .ret

def Post (P : Program) (e : Ex) (s' : St) (μ : List CB) (Pr : Nat → Prop) (w : World) : Exit → Act → World → Prop := fun e' a' w' => e' = e.to ∧ After P s' μ Pr w a' w'

theorem Post.trans {e : Ex} {s' : St} {μ μ1 : List CB} {Pr Pr1 : Nat → Prop} {w w1 : World} (hev : Evo (owns μ) Pr w (owns μ1) Pr1 w1) (hk : Keep μ μ1) : ∀ e' a' w', Post P e s' μ1 Pr1 w1 e' a' w' → Post P e s' μ Pr w e' a' w' :=
  fun e' a' w' h => ⟨h.1, After.trans hev hk h.2⟩

theorem ev_ok (hO : OrcOk P O) (hm : P.follows .mixedOrders = true) : ∀ (n : Nat) (c : Code) {s s' : St} {sc sc' : Script} {e : Ex} {ps : List Prop}, ev P wr (ICall P) lit O n c s sc = some (e, s', sc', ps) → (∀ q ∈ ps, q) →
    ∀ (a : Act) (w : World) (μ : List CB) (Pr : Nat → Prop), Rel P s a w μ Pr → c.wp P (Post P e s' μ Pr w) a w ∧ ∀ b, c = .loop b → LoopWp P b (Post P e s' μ Pr w) a w
  | 0, c, s, s', sc, sc', e, ps, h, _, a, w, μ, Pr, _ => by simp [ev] at h
  | n + 1, c, s, s', sc, sc', e, ps, h, hps, a, w, μ, Pr, hR => by
    have done : ∀ {e : Ex}, Post P e s μ Pr w e.to a w := fun {e} => ⟨rfl, μ, Pr, hR, .refl _ _ _, .refl _⟩
    cases c with
    | skip =>
      simp only [ev, Option.some.injEq, Prod.mk.injEq] at h
      obtain ⟨rfl, rfl, _, _⟩ := h
      exact ⟨wp_skip done, fun b hb => by cases hb⟩
    | label l =>
      simp only [ev, Option.some.injEq, Prod.mk.injEq] at h
      obtain ⟨rfl, rfl, _, _⟩ := h
      exact ⟨wp_label done, fun b hb => by cases hb⟩
    | region id ops draw =>
      simp only [ev] at h
      split at h
      · rename_i s1 sc1 ps1 he
        simp only [Option.some.injEq, Prod.mk.injEq] at h
        obtain ⟨rfl, rfl, rfl, rfl⟩ := h
        exact ⟨region_ok (ops := ops.toList) hO hm he hps hR (fun a' w' h => ⟨rfl, h⟩), fun b hb => by cases hb⟩
      · cases h
    | seq x y =>
      simp only [ev] at h
      refine ⟨wp_seq ?_, fun b hb => by cases hb⟩
      split at h
      · rename_i s1 sc1 ps1 he
        split at h
        · rename_i e2 s2 sc2 qs he2
          simp only [Option.some.injEq, Prod.mk.injEq] at h
          obtain ⟨rfl, rfl, rfl, rfl⟩ := h
          refine wp_mono (ev_ok hO hm n x he (fun q hq => hps q (List.mem_append_left _ hq)) a w μ Pr hR).1 ?_
          rintro e' a' w' ⟨rfl, μ1, Pr1, hR1, hev, hk⟩
          exact wp_mono (ev_ok hO hm n y he2 (fun q hq => hps q (List.mem_append_right _ hq)) a' w' μ1 Pr1 hR1).1 (Post.trans hev hk)
        · cases h
      · rename_i hne
        refine wp_mono (ev_ok hO hm n x h hps a w μ Pr hR).1 ?_
        rintro e' a' w' ⟨rfl, hA⟩
        cases e with
        | normal => exact (hne _ _ _ h).elim
        | exit id => exact ⟨rfl, hA⟩
        | ret => exact ⟨rfl, hA⟩
    | cond c x y =>
      simp only [ev] at h
      refine ⟨?_, fun b hb => by cases hb⟩
      split at h
      · rename_i t
        have hs := slot_ok hR t
        split at h
        · rename_i ht
          rw [ht] at hs
          exact wp_cond_true (show a.eval (.tmp t) = .bool true from drel_bool (show DRel w Pr (.bool true) _ from hs)) (ev_ok hO hm n x h hps a w μ Pr hR).1
        · rename_i ht
          rw [ht] at hs
          exact wp_cond_false (show a.eval (.tmp t) = .bool false from drel_bool (show DRel w Pr (.bool false) _ from hs)) (ev_ok hO hm n y h hps a w μ Pr hR).1
        · cases h
      · exact wp_cond_true rfl (ev_ok hO hm n x h hps a w μ Pr hR).1
      · exact wp_cond_false rfl (ev_ok hO hm n y h hps a w μ Pr hR).1
      · cases h
    | block id x =>
      simp only [ev] at h
      refine ⟨wp_block ?_, fun b hb => by cases hb⟩
      split at h
      · rename_i j s1 sc1 ps1 he
        split at h
        · rename_i hj
          simp only [Option.some.injEq, Prod.mk.injEq] at h
          obtain ⟨rfl, rfl, rfl, rfl⟩ := h
          refine wp_mono (ev_ok hO hm n x he hps a w μ Pr hR).1 ?_
          rintro e' a' w' ⟨rfl, hA⟩
          simp only [Ex.to, Exit.inBlock, hj, if_true]
          exact ⟨rfl, hA⟩
        · rename_i hj
          simp only [Option.some.injEq, Prod.mk.injEq] at h
          obtain ⟨rfl, rfl, rfl, rfl⟩ := h
          refine wp_mono (ev_ok hO hm n x he hps a w μ Pr hR).1 ?_
          rintro e' a' w' ⟨rfl, hA⟩
          simp only [Ex.to, Exit.inBlock, hj, if_false]
          exact ⟨rfl, hA⟩
      · rename_i hne
        refine wp_mono (ev_ok hO hm n x h hps a w μ Pr hR).1 ?_
        rintro e' a' w' ⟨rfl, hA⟩
        cases e with
        | exit id => exact (hne _ _ _ _ h).elim
        | normal => exact ⟨rfl, hA⟩
        | ret => exact ⟨rfl, hA⟩
    | loop x =>
      have key : LoopWp P x (Post P e s' μ Pr w) a w := by
        simp only [ev] at h
        split at h
        · refine loop_round ?_
          split at h
          · rename_i s1 sc1 ps1 he
            split at h
            · rename_i e2 s2 sc2 qs he2
              simp only [Option.some.injEq, Prod.mk.injEq] at h
              obtain ⟨rfl, rfl, rfl, rfl⟩ := h
              refine wp_mono (ev_ok hO hm n x he (fun q hq => hps q (List.mem_append_left _ hq)) a w μ Pr hR).1 ?_
              rintro e' a' w' ⟨rfl, μ1, Pr1, hR1, hev, hk⟩
              exact ((ev_ok hO hm n (.loop x) he2 (fun q hq => hps q (List.mem_append_right _ hq)) a' w' μ1 Pr1 hR1).2 x rfl).mono (Post.trans hev hk)
            · cases h
          · rename_i hne
            refine wp_mono (ev_ok hO hm n x h hps a w μ Pr hR).1 ?_
            rintro e' a' w' ⟨rfl, hA⟩
            cases e with
            | normal => exact (hne _ _ _ h).elim
            | exit id => exact ⟨rfl, hA⟩
            | ret => exact ⟨rfl, hA⟩
        · cases h
      exact ⟨wp_of_loop key, fun b hb => by cases hb; exact key⟩
    | scope x =>
      simp only [ev] at h
      refine ⟨wp_scope_straight (wp_mono (ev_ok hO hm n x h hps a w μ Pr hR).1 ?_), fun b hb => by cases hb⟩
      rintro e' a' w' ⟨rfl, hA⟩
      cases e <;> exact ⟨rfl, hA⟩
    | exit id =>
      simp only [ev, Option.some.injEq, Prod.mk.injEq] at h
      obtain ⟨rfl, rfl, _, _⟩ := h
      exact ⟨wp_exit (done (e := .exit id)), fun b hb => by cases hb⟩
    | ret =>
      simp only [ev, Option.some.injEq, Prod.mk.injEq] at h
      obtain ⟨rfl, rfl, _, _⟩ := h
      exact ⟨wp_ret (done (e := .ret)), fun b hb => by cases hb⟩
    | _ => simp [ev] at h

end Go.Proofs.YtbamhlgkoimjoaaDoor.Ab
/- Functions: how they begin, what leaves them. -/
namespace Go.Proofs.YtbamhlgkoimjoaaDoor.Ab
open Go
set_option linter.unusedVariables false
set_option linter.unusedSimpArgs false

variable {P : Program} {O : Orc} {s s' : St} {sc sc' : Script} {w w' : World} {Pr Pr' : Nat → Prop} {bl : List B} {μ : List CB} {a : Act} {wr : Nat → Bool} {lit : Bool} {p : Patch} {vw : Nat → Option VW}

/-- The memory of a block. -/
def ownAt (μ : List CB) (id : Nat) : List Nat := match μ[id]? with
  | some c => c.own
  | none => []

/-- Blocks that leave, laid from m on. -/
def LeaveOk (P : Program) (w : World) (Pr : Nat → Prop) (vw0 : Nat → Option VW) (μ : List CB) (n1 : Nat) (ids : List Nat) (bs : List B) (m : Nat) (holds : (Nat → Option VW) → Prop) : Prop :=
  ∃ cs : List CB, cs.length = bs.length ∧ owns cs = ids.flatMap (ownAt μ) ∧ (∀ (j : Nat) (b : B) (c : CB), bs[j]? = some b → cs[j]? = some c → ∀ vw', BRel P w Pr vw' b c) ∧
    ∀ vw' : Nat → Option VW, (∀ i, i < n1 → vw' i = vw0 i) → (∀ (j : Nat) (b : B) (c : CB), bs[j]? = some b → cs[j]? = some c → vw' (m + j) = vwOf b c) → holds vw'

theorem LeaveOk.nil {vw0 : Nat → Option VW} {n1 m : Nat} {holds : (Nat → Option VW) → Prop} (h : ∀ vw' : Nat → Option VW, (∀ i, i < n1 → vw' i = vw0 i) → holds vw') : LeaveOk P w Pr vw0 μ n1 [] [] m holds :=
  ⟨[], rfl, rfl, by simp, fun vw' h1 _ => h vw' h1⟩

theorem LeaveOk.and {vw0 : Nat → Option VW} {n1 m : Nat} {ids1 ids2 : List Nat} {bs1 bs2 : List B} {h1 h2 : (Nat → Option VW) → Prop} (g1 : LeaveOk P w Pr vw0 μ n1 ids1 bs1 m h1) (g2 : LeaveOk P w Pr vw0 μ n1 ids2 bs2 (m + bs1.length) h2) :
    LeaveOk P w Pr vw0 μ n1 (ids1 ++ ids2) (bs1 ++ bs2) m (fun vw => h1 vw ∧ h2 vw) := by
  obtain ⟨c1, a1, a2, a3, a4⟩ := g1
  obtain ⟨c2, b1, b2, b3, b4⟩ := g2
  refine ⟨c1 ++ c2, by simp [a1, b1], by rw [owns_append, a2, b2, List.flatMap_append], fun j b c hb hc => ?_, fun vw' hv hj => ⟨a4 vw' hv fun j b c hb hc => ?_, b4 vw' hv fun j b c hb hc => ?_⟩⟩
  · by_cases h : j < bs1.length
    · rw [List.getElem?_append_left h] at hb
      rw [List.getElem?_append_left (by omega)] at hc
      exact a3 j b c hb hc
    · rw [List.getElem?_append_right (by omega)] at hb
      rw [List.getElem?_append_right (by omega), a1] at hc
      exact b3 _ b c hb hc
  · have h := (List.getElem?_eq_some_iff.1 hb).1
    exact hj j b c (by rw [List.getElem?_append_left h]; exact hb) (by rw [List.getElem?_append_left (by omega)]; exact hc)
  · have := hj (bs1.length + j) b c (by rw [List.getElem?_append_right (by omega)]; rw [show bs1.length + j - bs1.length = j by omega]; exact hb) (by rw [List.getElem?_append_right (by omega), a1]; rw [show bs1.length + j - bs1.length = j by omega]; exact hc)
    rw [← Nat.add_assoc] at this
    exact this

theorem LeaveOk.imp {vw0 : Nat → Option VW} {n1 m : Nat} {ids : List Nat} {bs : List B} {h1 h2 : (Nat → Option VW) → Prop} (g : LeaveOk P w Pr vw0 μ n1 ids bs m h1) (h : ∀ vw, h1 vw → h2 vw) : LeaveOk P w Pr vw0 μ n1 ids bs m h2 := by
  obtain ⟨c1, a1, a2, a3, a4⟩ := g
  exact ⟨c1, a1, a2, a3, fun vw' x y => h _ (a4 vw' x y)⟩

theorem ownR_take {e wd n k : Nat} {h : H} {cs : List Value} (ho : OwnR w e wd h n cs) (hk : k ≤ n) : OwnR w e wd h k (cs.take (k * wd)) := by
  cases h with
  | zero a => obtain ⟨rfl, rfl⟩ := ho; exact ⟨by omega, by simp⟩
  | row b cap =>
    have hm : k * wd ≤ n * wd := Nat.mul_le_mul_right _ hk
    refine ⟨by rw [List.length_take, ho.1]; omega, ?_⟩
    rcases ho.2 with ⟨hv, _⟩ | ⟨g, c, cur, hv, hg, hh, hnc, hcm, hcz, ht⟩
    · simp at hv
    · simp at hv
      obtain ⟨rfl, rfl⟩ := hv
      refine .inr ⟨_, _, cur, rfl, hg, hh, by omega, hcm, hcz, ?_⟩
      rw [← ht, List.take_take]
      congr 1; omega

theorem rows_take {wd k : Nat} {xs : List D} {cs : List Value} (hl : cs.length = xs.length * wd) (h : Rows' w Pr wd xs cs) : Rows' w Pr wd (xs.take k) (cs.take (k * wd)) := by
  refine ⟨fun u hu => h.1 u (List.mem_of_mem_take hu), fun i x hx => ?_⟩
  rw [List.getElem?_take] at hx
  split at hx
  · rename_i hik
    obtain ⟨g1, g2⟩ := h.2 i x hx
    refine ⟨g1, fun j y hy => ?_⟩
    obtain ⟨u, h1, h2⟩ := g2 j y hy
    have hj : j < wd := by rw [← g1]; exact (List.getElem?_eq_some_iff.1 hy).1
    have hm : (i + 1) * wd ≤ k * wd := Nat.mul_le_mul_right _ hik
    rw [Nat.add_mul, Nat.one_mul] at hm
    exact ⟨u, by rw [List.getElem?_take_of_lt (by omega)]; exact h1, h2⟩
  · cases hx

theorem leave0_ok (hS : SRel P s.blks w μ Pr) {n1 m : Nat} {v v' : V} {u : Value} (h : leave0 s n1 v = some v') (hv : VRel0 P w Pr (view s.blks μ) v u) :
    LeaveOk P w Pr (view s.blks μ) μ n1 (lvs0 n1 v) (layV m v').2 m (fun vw => VRel0 P w Pr vw (layV m v').1 u) := by
  have stay : ∀ {v : V}, (∀ i ∈ ids0 v, i < n1) → VRel0 P w Pr (view s.blks μ) v u → ∀ vw' : Nat → Option VW, (∀ i, i < n1 → vw' i = view s.blks μ i) → VRel0 P w Pr vw' v u :=
    fun hi hv vw' h1 => VRel0.mono P (fun _ h => h) (fun _ _ => rfl) (fun i him _ => h1 i (hi i him)) hv
  unfold leave0 at h
  split at h
  · rename_i id
    split at h
    · rename_i hlt
      cases h
      simp only [lvs0, hlt, if_true, layV]
      exact LeaveOk.nil (stay (by simp [ids0, hlt]) hv)
    · rename_i hlt
      simp only [lvs0, hlt, if_false]
      split at h
      · rename_i e xs hb
        cases h
        obtain ⟨hh, wd, cs, g1, g2, g3, g4, g5⟩ := hS.lst (blk_some hb (by simp))
        refine ⟨[.lst hh], rfl, by simp [owns, ownAt, g1], fun j b c hb hc vw' => ?_, fun vw' _ hj => ?_⟩
        · simp only [layV] at hb
          cases j with
          | zero => simp at hb hc; subst hb; subst hc; exact ⟨wd, cs, g3, g4, g5⟩
          | succ j => simp at hb
        · have := hj 0 (.lst e xs) (.lst hh) rfl rfl
          rw [Nat.add_zero] at this
          rcases hv with ⟨e', n, h', k1, k2⟩ | ⟨s', lens, b, cap, inner, k1, k2⟩
          · rw [g2] at k1; cases k1
            exact .inl ⟨e, xs.length, hh, this, k2⟩
          · rw [g2] at k1; cases k1
      · rename_i e xss hb
        cases h
        obtain ⟨c, g1, g2, g3⟩ := hS.at (blk_some hb (by simp))
        refine ⟨[c], rfl, by simp [owns, ownAt, g1], fun j b c' hb hc vw' => ?_, fun vw' _ hj => ?_⟩
        · simp only [layV] at hb
          cases j with
          | zero => simp at hb hc; subst hb; subst hc; exact brel_listy (by trivial) g2 (.inl fun _ h => h)
          | succ j => simp at hb
        · have := hj 0 (.lst2 e xss) c rfl rfl
          rw [Nat.add_zero] at this
          rcases hv with ⟨e', n, h', k1, k2⟩ | ⟨s', lens, b, cap, inner, k1, k2⟩
          · rw [g3] at k1; cases c <;> simp [vwOf] at k1
          · rw [g3] at k1; exact .inr ⟨s', lens, b, cap, inner, by rw [this]; exact k1, k2⟩
      · cases h
  · rename_i id lo n
    split at h
    · rename_i hlt
      cases h
      simp only [lvs0, hlt, if_true, layV]
      exact LeaveOk.nil (stay (by simp [ids0, hlt]) hv)
    · rename_i hlt
      simp only [lvs0, hlt, if_false]
      split at h
      · rename_i hlo
        subst hlo
        split at h
        · rename_i e xs hb
          cases h
          obtain ⟨hh, wd, cs, g1, g2, g3, g4, g5⟩ := hS.lst (blk_some hb (by simp))
          obtain ⟨e', len, h', wd', a', cap, k1, k2, k3, k4, k5, k6, k7⟩ := hv
          rw [g2] at k1; cases k1
          have hn : n ≤ xs.length := by omega
          have hlen : (xs.take n).length = n := by simp; omega
          refine ⟨[.lst hh], rfl, by simp [owns, ownAt, g1], fun j b c hb hc vw' => ?_, fun vw' _ hj => ?_⟩
          · simp only [layV] at hb
            cases j with
            | zero => simp at hb hc; subst hb; subst hc; exact ⟨wd, cs.take (n * wd), g3, by rw [hlen]; exact ownR_take g4 hn, rows_take (ownR_len g4) g5⟩
            | succ j => simp at hb
          · have := hj 0 (.lst e (xs.take n)) (.lst hh) rfl rfl
            rw [Nat.add_zero] at this
            refine .inl ⟨e, (xs.take n).length, hh, this, ?_⟩
            rw [hlen]; exact k7 rfl
        · cases h
      · cases h
  · rename_i id off
    split at h
    · rename_i hlt
      cases h
      simp only [lvs0, layV]
      exact LeaveOk.nil (stay (by simp [ids0, hlt]) hv)
    · cases h
  · rename_i x; cases h; exact LeaveOk.nil (stay (v := .d x) (by simp [ids0]) hv)
  · rename_i b; cases h; exact LeaveOk.nil (stay (v := .emp b) (by simp [ids0]) hv)
  · cases h; exact LeaveOk.nil (stay (v := .nnil) (by simp [ids0]) hv)
  · cases h

theorem leaveL_ok (hS : SRel P s.blks w μ Pr) {R : Value → Prop} {n1 : Nat} : ∀ {cs cs' : List V} {us : List Value} {m : Nat}, leaveL s n1 cs = some cs' → All2 (fun c u => VRel0 P w Pr (view s.blks μ) c u ∧ R u) cs us →
    LeaveOk P w Pr (view s.blks μ) μ n1 (cs.flatMap (lvs0 n1)) (layL m cs').2 m (fun vw => All2 (fun c u => VRel0 P w Pr vw c u ∧ R u) (layL m cs').1 us)
  | [], cs', us, m, h, hv => by
    simp only [leaveL, Option.some.injEq] at h; subst h
    cases us with
    | nil => exact LeaveOk.nil (fun _ _ => trivial)
    | cons _ _ => exact hv.elim
  | c :: r, cs', us, m, h, hv => by
    simp only [leaveL] at h
    split at h
    · rename_i x y h1 h2
      cases h
      cases us with
      | nil => exact hv.elim
      | cons u us =>
        have g := (leave0_ok (m := m) hS h1 hv.1.1).and (leaveL_ok hS (m := m + (layV m x).2.length) h2 hv.2)
        exact g.imp (fun vw hh => ⟨⟨hh.1, hv.1.2⟩, hh.2⟩)
    · cases h

theorem leave1_ok (hS : SRel P s.blks w μ Pr) {n1 m : Nat} {v v' : V} {u : Value} (h : leave1 s n1 v = some v') (hv : VRel P w Pr (view s.blks μ) v u) :
    LeaveOk P w Pr (view s.blks μ) μ n1 (lvs1 n1 v) (lay1 m v').2 m (fun vw => VRel1 P w Pr vw (lay1 m v').1 u) := by
  have na : ∀ {v v' : V}, leave0 s n1 v = some v' → ∀ cs, v' ≠ .agg cs := by
    intro v v' h cs e
    subst e
    unfold leave0 at h
    repeat' split at h
    all_goals first | cases h | skip
  have key : VRel0 P w Pr (view s.blks μ) v u → leave0 s n1 v = some v' → lvs1 n1 v = lvs0 n1 v → LeaveOk P w Pr (view s.blks μ) μ n1 (lvs1 n1 v) (lay1 m v').2 m (fun vw => VRel1 P w Pr vw (lay1 m v').1 u) := by
    intro h1 h2 e
    have hn := na h2
    have el : lay1 m v' = layV m v' := by cases v' <;> first | rfl | exact (hn _ rfl).elim
    rw [e, el]
    exact (leave0_ok (m := m) hS h2 h1).imp (fun vw hh => hh.to1)
  cases v with
  | agg cs =>
    obtain ⟨cs', hc, rfl⟩ := Option.map_eq_some_iff.1 h
    obtain ⟨us, rfl, hall⟩ := hv
    exact (leaveL_ok (m := m) hS hc hall).imp (fun vw hh => ⟨us, rfl, hh⟩)
  | tup vs => simp [leave1, leave0] at h
  | func f c => simp [leave1, leave0] at h
  | iface t y => simp [leave1, leave0] at h
  | _ => exact key hv h rfl

theorem leaveT_ok (hS : SRel P s.blks w μ Pr) {n1 : Nat} : ∀ {cs cs' : List V} {us : List Value} {m : Nat}, leaveT s n1 cs = some cs' → All2 (VRel P w Pr (view s.blks μ)) cs us →
    LeaveOk P w Pr (view s.blks μ) μ n1 (cs.flatMap (lvs1 n1)) (layT m cs').2 m (fun vw => All2 (VRel1 P w Pr vw) (layT m cs').1 us)
  | [], cs', us, m, h, hv => by
    simp only [leaveT, Option.some.injEq] at h; subst h
    cases us with
    | nil => exact LeaveOk.nil (fun _ _ => trivial)
    | cons _ _ => exact hv.elim
  | c :: r, cs', us, m, h, hv => by
    simp only [leaveT] at h
    split at h
    · rename_i x y h1 h2
      cases h
      cases us with
      | nil => exact hv.elim
      | cons u us => exact (leave1_ok (m := m) hS h1 hv.1).and (leaveT_ok hS (m := m + (lay1 m x).2.length) h2 hv.2)
    · cases h

/-! ### results -/

theorem load_asAddr {t : TypeId} {u v : Value} (h : (Instr.loadAt t u).run P w = .ok v w) : (do loadVar t (← asAddr u) : Sem Value).run P w = .ok v w := by
  unfold Instr.loadAt Instr.sureAddr at h
  split at h
  · simpa [asAddr] using h
  · simp at h

theorem resultsV_ok (hR : Rel P s a w μ Pr) : ∀ {l : List ResultVar} {vs : List V}, resultsV P s l = some vs →
    ∃ us : List Value, All2 (VRel P w Pr (view s.blks μ)) vs us ∧ (l.mapM fun | .tmp t => pure (a.tmps.getD t undef) | .cell b t => do loadVar t (← asAddr (a.tmps.getD b undef)) : Sem (List Value)).run P w = .ok us w
  | [], vs, h => by simp only [resultsV, Option.some.injEq] at h; subst h; exact ⟨[], trivial, by simp⟩
  | x :: r, vs, h => by
    simp only [resultsV] at h
    split at h
    · rename_i v ws h1 h2
      cases h
      obtain ⟨us, g1, g2⟩ := resultsV_ok hR h2
      cases x with
      | tmp t =>
        simp only [resultV, Option.some.injEq] at h1
        subst h1
        exact ⟨a.tmps.getD t undef :: us, ⟨slot_ok hR t, g1⟩, by simp only [List.mapM_cons, Sem.run_bind, Sem.run_pure, Result.andThen_ok, g2]⟩
      | cell b t =>
        simp only [resultV] at h1
        split at h1
        · rename_i v' sc' he
          cases h1
          obtain ⟨z, k1, k2⟩ := loadV_ok (O := fun _ _ _ => none) (sc := some []) (sc' := sc') hR.toSRel (slot_ok hR b) ⟨[], he, by simp⟩
          have k3 := load_asAddr k1
          exact ⟨z :: us, ⟨k2, g1⟩, by simp only [List.mapM_cons]; rw [Sem.run_bind, k3]; simp only [Sem.run_bind, Sem.run_pure, Result.andThen_ok, g2]⟩
        · cases h1
    · cases h

theorem results_ok (hR : Rel P s a w μ Pr) {fn : Func} {vs : List V} (h : resultsV P s fn.results.toList = some vs) :
    ∃ us : List Value, All2 (VRel P w Pr (view s.blks μ)) vs us ∧ (results fn a.tmps).run P w = .ok (match us with | [u] => u | us => .tuple us.toArray) w := by
  obtain ⟨us, g1, g2⟩ := resultsV_ok hR h
  refine ⟨us, g1, ?_⟩
  unfold results
  rw [Sem.run_bind, Array.mapM_eq_mapM_toList, Sem.run_map]
  erw [g2]
  cases us with
  | nil => rfl
  | cons u r => cases r with
    | nil => rfl
    | cons v r => simp

end Go.Proofs.YtbamhlgkoimjoaaDoor.Ab
/- Functions: what is evaluated is what a call does. -/
namespace Go.Proofs.YtbamhlgkoimjoaaDoor.Ab
open Go
set_option linter.unusedVariables false
set_option linter.unusedSimpArgs false

variable {P : Program} {O : Orc} {s s' : St} {sc sc' : Script} {w w' : World} {Pr Pr' : Nat → Prop} {bl : List B} {μ μ' : List CB} {a : Act} {wr : Nat → Bool} {lit : Bool} {p : Patch} {vw : Nat → Option VW}

theorem flat_nodup (h : (owns μ).Nodup) : ∀ {L : List Nat}, L.Nodup → (L.flatMap (ownAt μ)).Nodup
  | [], _ => by simp
  | i :: L, hL => by
    rw [List.nodup_cons] at hL
    rw [List.flatMap_cons, List.nodup_append]
    refine ⟨?_, flat_nodup h hL.2, fun q hq q' hq' e => ?_⟩
    · unfold ownAt
      split
      · rename_i c hc; exact own_nodup h hc
      · exact List.nodup_nil
    · subst e
      obtain ⟨j, hj, hqj⟩ := List.mem_flatMap.1 hq'
      unfold ownAt at hq hqj
      split at hq
      · rename_i c hc
        split at hqj
        · rename_i d hd
          exact nodup_own h i j c d hc hd (fun e => hL.1 (e ▸ hj)) q hq hqj
        · cases hqj
      · cases hq

theorem lvs0_ge {n1 : Nat} (v : V) : ∀ i ∈ lvs0 n1 v, n1 ≤ i := by
  intro i hi
  cases v <;> simp only [lvs0] at hi <;> first | (cases hi; done) | (split at hi <;> first | (cases hi; done) | (simp at hi; omega))
theorem lvs1_ge {n1 : Nat} (v : V) : ∀ i ∈ lvs1 n1 v, n1 ≤ i := by
  intro i hi
  have key : i ∈ lvs0 n1 v → n1 ≤ i := lvs0_ge v i
  cases v with
  | agg cs => obtain ⟨c, _, hc⟩ := List.mem_flatMap.1 hi; exact lvs0_ge c i hc
  | _ => exact key hi

theorem leave1_noTup {n1 : Nat} {v v' : V} (h : leave1 s n1 v = some v') : ∀ vs, v' ≠ .tup vs := by
  have key : leave0 s n1 v = some v' → ∀ vs, v' ≠ .tup vs := by
    intro h cs e
    subst e
    unfold leave0 at h
    repeat' split at h
    all_goals first | cases h | skip
  cases v with
  | agg cs => obtain ⟨cs', _, rfl⟩ := Option.map_eq_some_iff.1 h; simp
  | _ => exact key h

theorem lay_single {v : V} (h : ∀ vs, v ≠ .tup vs) (n : Nat) : lay n v = lay1 n v := by
  cases v <;> first | rfl | exact (h _ rfl).elim
theorem lay1_noTup {v : V} (h : ∀ vs, v ≠ .tup vs) (n : Nat) : ∀ vs, (lay1 n v).1 ≠ .tup vs := by
  intro vs
  cases v <;> simp [lay1, layV]
  exact (h _ rfl).elim

/-- The value of results. -/
def oneV (us : List Value) : Value := match us with
  | [u] => u
  | us => .tuple us.toArray

theorem one_tup {vs : List V} (h : ∀ v, vs ≠ [v]) : one vs = .tup vs := by
  match vs, h with
  | [], _ => rfl
  | [v], h => exact (h v rfl).elim
  | _ :: _ :: _, _ => rfl
theorem oneV_tup {us : List Value} (h : ∀ u, us ≠ [u]) : oneV us = .tuple us.toArray := by
  match us, h with
  | [], _ => rfl
  | [v], h => exact (h v rfl).elim
  | _ :: _ :: _, _ => rfl

/-- Several results, or one. -/
theorem one_ok {vs : List V} {us : List Value} (hn : ∀ v ∈ vs, ∀ ws, v ≠ .tup ws) (h : All2 (VRel P w Pr vw) vs us) : VRel P w Pr vw (one vs) (oneV us) := by
  have h1 : All2 (VRel1 P w Pr vw) vs us := All2.monoMem (fun v hv u hu => by
    have := hn v hv
    cases v with
    | tup ws => exact (this ws rfl).elim
    | _ => exact hu) h
  match vs, us, h, h1 with
  | [], [], _, _ => exact ⟨[], rfl, trivial⟩
  | [v], [u], h, _ => exact h.1
  | v :: v2 :: vs, u :: u2 :: us, _, h1 => exact ⟨_, rfl, h1⟩

theorem finish_ok (hR : Rel P s a w' μ' Pr') (hev : Evo (owns μ) Pr w (owns μ') Pr' w') (hk : Keep μ μ') {fn : Func} {n1 : Nat} (hn1 : μ.length = n1) {r : V} {bs' : List B} (h : finish P fn n1 s = some (r, bs')) :
    ∃ x, (results fn a.tmps).run P w' = .ok x w' ∧ ∃ μ'', SRel P (bs' ++ (lay bs'.length r).2) w' μ'' Pr' ∧ VRel P w' Pr' (view (bs' ++ (lay bs'.length r).2) μ'') (lay bs'.length r).1 x ∧ Evo (owns μ) Pr w (owns μ'') Pr' w' ∧ Keep μ μ'' := by
  unfold finish at h
  split at h
  · rename_i vs hvs
    obtain ⟨us, g1, g2⟩ := results_ok hR hvs
    refine ⟨oneV us, g2, ?_⟩
    have whole : (if (lay 0 (one vs)).2.isEmpty && vs.all (fun | .tup _ => false | _ => true) then some (one vs, s.blks) else none) = some (r, bs') →
        ∃ μ'', SRel P (bs' ++ (lay bs'.length r).2) w' μ'' Pr' ∧ VRel P w' Pr' (view (bs' ++ (lay bs'.length r).2) μ'') (lay bs'.length r).1 (oneV us) ∧ Evo (owns μ) Pr w (owns μ'') Pr' w' ∧ Keep μ μ'' := by
      intro h
      split at h
      · rename_i hc
        simp only [Option.some.injEq, Prod.mk.injEq] at h
        obtain ⟨rfl, rfl⟩ := h
        simp only [Bool.and_eq_true] at hc
        have hl := lay_nil (m := 0) (v := one vs) (by simpa using hc.1)
        rw [hl]
        simp only [List.append_nil]
        refine ⟨μ', hR.toSRel, one_ok (fun v hv ws e => ?_) g1, hev, hk⟩
        have := List.all_eq_true.1 hc.2 v hv
        subst e
        simp at this
      · cases h
    dsimp only at h
    split at h
    · rename_i hc
      simp only [Bool.and_eq_true, decide_eq_true_eq] at hc
      obtain ⟨⟨hst, hnd⟩, hle⟩ := hc
      split at h
      · rename_i vs' hl
        simp only [Option.some.injEq, Prod.mk.injEq] at h
        obtain ⟨rfl, rfl⟩ := h
        have hlen : (s.blks.take n1).length = n1 := by simp; omega
        rw [hlen]
        obtain ⟨cs, c1, c2, c3, c4⟩ := leaveT_ok (m := n1) hR.toSRel hl g1
        -- what is laid
        have hnt : ∀ v ∈ vs', ∀ ws, v ≠ .tup ws := by
          have : ∀ {vs vs' : List V}, leaveT s n1 vs = some vs' → ∀ v ∈ vs', ∀ ws, v ≠ .tup ws := by
            intro vs
            induction vs with
            | nil => intro vs' h; simp only [leaveT, Option.some.injEq] at h; subst h; simp
            | cons x r ih =>
              intro vs' h
              simp only [leaveT] at h
              split at h
              · rename_i y z h1 h2
                cases h
                intro v hv
                rcases List.mem_cons.1 hv with rfl | hv
                · exact leave1_noTup h1
                · exact ih h2 v hv
              · cases h
          exact this hl
        have hlay : (lay n1 (one vs')).2 = (layT n1 vs').2 ∧ ∀ vw, All2 (VRel1 P w' Pr' vw) (layT n1 vs').1 us → VRel P w' Pr' vw (lay n1 (one vs')).1 (oneV us) := by
          match vs', hnt with
          | [], _ => exact ⟨rfl, fun vw h => by cases us with | nil => exact ⟨[], rfl, trivial⟩ | cons _ _ => exact h.elim⟩
          | [v], hnt =>
            have hv := hnt v (by simp)
            refine ⟨by show (lay n1 v).2 = (layT n1 [v]).2; rw [lay_single hv]; simp [layT], fun vw h => ?_⟩
            cases us with
            | nil => exact h.elim
            | cons u r => cases r with
              | nil => show VRel P w' Pr' vw (lay n1 v).1 u; rw [lay_single hv]; exact VRel1.toV h.1
              | cons _ _ => exact h.2.elim
          | v :: v2 :: r, _ =>
            refine ⟨rfl, fun vw h => ?_⟩
            have hu : ∀ u, us ≠ [u] := fun u e => by subst e; exact h.2.elim
            rw [oneV_tup hu]
            exact ⟨us, rfl, h⟩
        obtain ⟨hlay2, hlay1⟩ := hlay
        rw [hlay2]
        let N := s.blks.take n1 ++ (layT n1 vs').2
        let M := μ'.take n1 ++ cs
        have hmu : μ'.length = s.blks.length := hR.mu
        have htl : (μ'.take n1).length = n1 := by simp; omega
        have hvwlt : ∀ i, i < n1 → view N M i = view s.blks μ' i := by
          intro i hi
          unfold view
          rw [List.getElem?_append_left (by omega), List.getElem?_append_left (by omega), List.getElem?_take_of_lt hi, List.getElem?_take_of_lt hi]
        have hvwge : ∀ (j : Nat) (b : B) (c : CB), (layT n1 vs').2[j]? = some b → cs[j]? = some c → view N M (n1 + j) = vwOf b c := by
          intro j b c hb hc
          unfold view
          rw [List.getElem?_append_right (by omega), List.getElem?_append_right (by omega), hlen, htl, show n1 + j - n1 = j by omega, hb, hc]
        have hsubT : ∀ q ∈ owns (μ'.take n1), ∃ i c, i < n1 ∧ μ'[i]? = some c ∧ q ∈ c.own := by
          intro q hq
          obtain ⟨c, hc, hqc⟩ := List.mem_flatMap.1 hq
          obtain ⟨i, hi⟩ := List.getElem?_of_mem hc
          rw [List.getElem?_take] at hi
          split at hi
          · rename_i hlt; exact ⟨i, c, hlt, hi, hqc⟩
          · cases hi
        have hsubC : ∀ q ∈ owns cs, ∃ i c, n1 ≤ i ∧ μ'[i]? = some c ∧ q ∈ c.own := by
          intro q hq
          rw [c2] at hq
          obtain ⟨i, hi, hqi⟩ := List.mem_flatMap.1 hq
          obtain ⟨v, _, hv⟩ := List.mem_flatMap.1 hi
          unfold ownAt at hqi
          split at hqi
          · rename_i c hc; exact ⟨i, c, lvs1_ge v i hv, hc, hqi⟩
          · cases hqi
        have hsub : ∀ q ∈ owns M, q ∈ owns μ' := by
          intro q hq
          rw [owns_append] at hq
          rcases List.mem_append.1 hq with hq | hq
          · obtain ⟨i, c, _, h1, h2⟩ := hsubT q hq; exact List.mem_flatMap.2 ⟨c, List.mem_of_getElem? h1, h2⟩
          · obtain ⟨i, c, _, h1, h2⟩ := hsubC q hq; exact List.mem_flatMap.2 ⟨c, List.mem_of_getElem? h1, h2⟩
        refine ⟨M, ⟨by simp [M, c1]; omega, fun id b c hb hc => ?_, ?_, fun q hq => hR.lt q (hsub q hq), hR.pr, hR.glob⟩, hlay1 _ (c4 (view N M) hvwlt hvwge), ⟨hev.os, hev.tape, hev.output, hev.size, hev.block, fun q hq => hev.own q (hsub q hq), hev.prm, hev.prn⟩, fun i q hi => ?_⟩
        · by_cases hid : id < n1
          · rw [List.getElem?_append_left (by omega), List.getElem?_take_of_lt hid] at hb
            rw [List.getElem?_append_left (by omega), List.getElem?_take_of_lt hid] at hc
            refine (hR.blks id b c hb hc).mono P (fun _ h => h) (fun _ _ => rfl) (fun _ _ => rfl) (fun i hi _ => hvwlt i ?_)
            have hmem : b ∈ s.blks.take n1 := List.mem_of_getElem? (i := id) (by rw [List.getElem?_take_of_lt hid]; exact hb)
            have := List.all_eq_true.1 (List.all_eq_true.1 hst b hmem) i hi
            simpa using this
          · rw [List.getElem?_append_right (by omega), hlen] at hb
            rw [List.getElem?_append_right (by omega), htl] at hc
            exact c3 _ b c hb hc _
        · rw [owns_append, List.nodup_append]
          refine ⟨nodup_owns_mk (fun i c hc => ?_) (fun i j c d hij hc hd => ?_), by rw [c2]; exact flat_nodup hR.nodup (nodupB_ok hnd), fun q hq q' hq' e => ?_⟩
          · rw [List.getElem?_take] at hc
            split at hc
            · exact own_nodup hR.nodup hc
            · cases hc
          · rw [List.getElem?_take] at hc hd
            split at hc
            · split at hd
              · exact nodup_own hR.nodup i j c d hc hd hij
              · cases hd
            · cases hc
          · subst e
            obtain ⟨i, c, h1, h2, h3⟩ := hsubT q hq
            obtain ⟨j, d, h4, h5, h6⟩ := hsubC q hq'
            exact nodup_own hR.nodup i j c d h2 h5 (by omega) q h3 h6
        · have hlt : i < n1 := by have := (List.getElem?_eq_some_iff.1 hi).1; omega
          rw [List.getElem?_append_left (by omega), List.getElem?_take_of_lt hlt]
          exact hk i q hi
      · exact whole h
    · exact whole h
  · cases h

theorem entry_ok {fn : Func} {as : List V} {bs : List B} {vs : List Value} (hS : SRel P bs w μ Pr) (h : All2 (VRel P w Pr (view bs μ)) as vs) :
    Rel P (entry fn as bs) { tmps := vs.toArray ++ Array.replicate (fn.ntmps - vs.toArray.size) undef, defers := [] } w μ Pr := by
  have hl := h.length
  refine ⟨hS, rfl, by simp [entry, hl], fun n v hv => ?_⟩
  simp only [entry] at hv
  by_cases hn : n < as.length
  · rw [List.getElem?_append_left hn] at hv
    obtain ⟨u, hu, hr⟩ := h.get n v hv
    have : (vs.toArray ++ Array.replicate (fn.ntmps - vs.toArray.size) undef).getD n undef = u := by
      rw [Array.getD_eq_getD_getElem?, Array.getElem?_append_left (by simp; omega), List.getElem?_toArray, hu]; rfl
    show VRel P w Pr _ v ((vs.toArray ++ Array.replicate (fn.ntmps - vs.toArray.size) undef).getD n undef)
    rw [this]; exact hr
  · rw [List.getElem?_append_right (by omega), List.getElem?_replicate] at hv
    split at hv
    · cases hv; trivial
    · cases hv

/-- What is evaluated is what a call does. -/
theorem icall_of_ev (hO : OrcOk P O) (hm : P.follows .mixedOrders = true) {f n : Nat} {fn : Func} {c : Code} {as : List V} {bs bs' : List B} {r : V} {e : Ex} {ps : List Prop} (hf : P.funcs[f]? = some fn) (hb : fn.body = some c)
    (h : ev P wr (ICall P) lit O n c (entry fn as bs) sc = some (e, s', sc', ps)) (he : e = .ret ∨ e = .normal) (hps : ∀ q ∈ ps, q) (hfin : finish P fn bs.length s' = some (r, bs')) : ICall P f as bs r bs' := by
  intro w Pr μ vs hS hvs
  refine calls_of_wp hf hb (wp_mono (ev_ok hO hm n c h hps _ w μ Pr (entry_ok hS hvs)).1 ?_)
  rintro e' a' w' ⟨rfl, μ', Pr', hR, hev, hk⟩
  obtain ⟨x, hx, μ'', g1, g2, g3, g4⟩ := finish_ok hR hev hk hS.mu hfin
  rcases he with rfl | rfl <;> exact ⟨hR.defers, x, hx, x, μ'', Pr', rfl, g1, g2, g3, g4⟩

end Go.Proofs.YtbamhlgkoimjoaaDoor.Ab
/- What code does from a state, as a judgement: evaluated pieces, states that forget, loops. -/
namespace Go.Proofs.YtbamhlgkoimjoaaDoor.Ab
open Go
set_option linter.unusedVariables false
set_option linter.unusedSimpArgs false

variable {P : Program} {O : Orc} {s s' s1 s2 : St} {sc sc' : Script} {w w' : World} {Pr Pr' : Nat → Prop} {bl : List B} {μ μ' : List CB} {a : Act} {wr : Nat → Bool} {lit : Bool} {c : Code} {e : Ex}

/-- What is forgotten: slots that are not kept, or that refer to blocks behind the first n; these blocks. -/
def trimV (keep : List Nat) (n : Nat) : Nat → List V → List V
  | _, [] => []
  | i, v :: r => (if keep.contains i && (idsV v).all (fun j => decide (j < n)) then v else .undef) :: trimV keep n (i + 1) r
def trim (keep : List Nat) (n : Nat) (s : St) : St := ⟨trimV keep n 0 s.slots, s.blks.take n⟩

theorem trimV_length (keep : List Nat) (n : Nat) : ∀ (l : List V) (i : Nat), (trimV keep n i l).length = l.length
  | [], _ => rfl
  | _ :: r, i => by simp [trimV, trimV_length keep n r (i + 1)]

theorem trimV_get (keep : List Nat) (n : Nat) : ∀ (l : List V) (i k : Nat) (v : V), (trimV keep n i l)[k]? = some v → v = .undef ∨ (l[k]? = some v ∧ ∀ j ∈ idsV v, j < n)
  | [], _, k, v, h => by simp [trimV] at h
  | x :: r, i, 0, v, h => by
    simp only [trimV, List.getElem?_cons_zero, Option.some.injEq] at h
    split at h
    · rename_i hc
      simp only [Bool.and_eq_true] at hc
      subst h
      exact .inr ⟨rfl, fun j hj => by have := List.all_eq_true.1 hc.2 j hj; simpa using this⟩
    · exact .inl h.symm
  | x :: r, i, k + 1, v, h => by
    simp only [trimV, List.getElem?_cons_succ] at h
    simpa using trimV_get keep n r (i + 1) k v h

theorem view_take {bl : List B} {μ : List CB} {n i : Nat} (hi : i < n) : view (bl.take n) (μ.take n) i = view bl μ i := by
  unfold view
  rw [List.getElem?_take_of_lt hi, List.getElem?_take_of_lt hi]

theorem owns_take_sub {μ : List CB} {n : Nat} : ∀ q ∈ owns (μ.take n), q ∈ owns μ := by
  intro q hq
  obtain ⟨c, hc, hqc⟩ := List.mem_flatMap.1 hq
  exact List.mem_flatMap.2 ⟨c, List.mem_of_mem_take hc, hqc⟩

theorem owns_take_nodup {μ : List CB} (h : (owns μ).Nodup) (n : Nat) : (owns (μ.take n)).Nodup := by
  have : μ = μ.take n ++ μ.drop n := (List.take_append_drop n μ).symm
  rw [this, owns_append, List.nodup_append] at h
  exact h.1

theorem Rel.trim (h : Rel P s a w μ Pr) {keep : List Nat} {n : Nat} (hst : stays n (s.blks.take n) = true) : Rel P (trim keep n s) a w (μ.take n) Pr := by
  have hmu := h.mu
  refine ⟨⟨by simp [Ab.trim, hmu], fun id b c hb hc => ?_, owns_take_nodup h.nodup n, fun b hb => h.lt b (owns_take_sub b hb), h.pr, h.glob⟩, h.defers, by simp [Ab.trim, trimV_length, h.len], fun k v hv => ?_⟩
  · simp only [Ab.trim] at hb
    have hid : id < n := by
      have := (List.getElem?_eq_some_iff.1 hb).1
      simp at this; omega
    have hb' := hb
    rw [List.getElem?_take_of_lt hid] at hb'
    rw [List.getElem?_take_of_lt hid] at hc
    refine (h.blks id b c hb' hc).mono P (fun _ h => h) (fun _ _ => rfl) (fun _ _ => rfl) (fun i hi _ => view_take ?_)
    have := List.all_eq_true.1 (List.all_eq_true.1 hst b (List.mem_of_getElem? hb)) i hi
    simpa using this
  · rcases trimV_get keep n s.slots 0 k v hv with rfl | ⟨h1, h2⟩
    · trivial
    · exact (h.slots k v h1).mono P (fun _ h => h) (fun _ _ => rfl) (fun i hi _ => view_take (h2 i hi))

theorem Evo.take {O : List Nat} (h : Evo O Pr w (owns μ') Pr' w') (n : Nat) : Evo O Pr w (owns (μ'.take n)) Pr' w' :=
  ⟨h.os, h.tape, h.output, h.size, h.block, fun q hq => h.own q (owns_take_sub q hq), h.prm, h.prn⟩

theorem Keep.take (h : Keep μ μ') {n : Nat} (hn : μ.length ≤ n) : Keep μ (μ'.take n) := fun i q hi => by
  have := (List.getElem?_eq_some_iff.1 hi).1
  rw [List.getElem?_take_of_lt (by omega)]
  exact h i q hi

theorem After.trim (h : After P s' μ Pr w a w') {keep : List Nat} {n : Nat} (hst : stays n (s'.blks.take n) = true) (hn : μ.length ≤ n) : After P (trim keep n s') μ Pr w a w' :=
  let ⟨μ', Pr', hR, hev, hk⟩ := h
  ⟨μ'.take n, Pr', hR.trim hst, hev.take n, hk.take hn⟩

/-! ### judgements -/

def Goes (P : Program) (c : Code) (s : St) (e : Ex) (s' : St) : Prop := ∀ (a : Act) (w : World) (μ : List CB) (Pr : Nat → Prop), Rel P s a w μ Pr → c.wp P (Post P e s' μ Pr w) a w
/-- From the head of a loop with this body. -/
def GoesL (P : Program) (c : Code) (s : St) (e : Ex) (s' : St) : Prop := ∀ (a : Act) (w : World) (μ : List CB) (Pr : Nat → Prop), Rel P s a w μ Pr → LoopWp P c (Post P e s' μ Pr w) a w

theorem Goes.loop (h : GoesL P c s e s') : Goes P (.loop c) s e s' := fun a w μ Pr hR => wp_of_loop (h a w μ Pr hR)

/-- A round, and on from a state that forgets. -/
theorem GoesL.next {keep : List Nat} {n : Nat} (h : Goes P c s .normal s1) (hst : stays n (s1.blks.take n) = true) (hn : s.blks.length ≤ n) (h2 : GoesL P c (trim keep n s1) e s2) : GoesL P c s e s2 := by
  intro a w μ Pr hR
  refine loop_round (wp_mono (h a w μ Pr hR) ?_)
  rintro e' a' w' ⟨rfl, hA⟩
  obtain ⟨μ1, Pr1, hR1, hev, hk⟩ := After.trim (keep := keep) hA hst (by rw [hR.mu]; exact hn)
  exact (h2 a' w' μ1 Pr1 hR1).mono (Post.trans hev hk)

theorem GoesL.leave {keep : List Nat} {n : Nat} (h : Goes P c s e s1) (he : e ≠ .normal) (hst : stays n (s1.blks.take n) = true) (hn : s.blks.length ≤ n) : GoesL P c s e (trim keep n s1) := by
  intro a w μ Pr hR
  refine loop_round (wp_mono (h a w μ Pr hR) ?_)
  rintro e' a' w' ⟨rfl, hA⟩
  have := After.trim (keep := keep) hA hst (by rw [hR.mu]; exact hn)
  cases e with
  | normal => exact (he rfl).elim
  | exit id => exact ⟨rfl, this⟩
  | ret => exact ⟨rfl, this⟩

/-! ### evaluation with judgements for loops -/

/-- A loop's state at its head: slots that are not kept are forgotten. -/
def forget (keep : List Nat) (s : St) : St := trim keep s.blks.length s

theorem Rel.forget (h : Rel P s a w μ Pr) (keep : List Nat) (hst : stays s.blks.length s.blks = true) : Rel P (forget keep s) a w μ Pr := by
  have := h.trim (keep := keep) (n := s.blks.length) (by simpa using hst)
  rwa [← h.mu, List.take_length, h.mu] at this

def evX (P : Program) (wr : Nat → Bool) (lit : Bool) (O : Orc) : Nat → Code → St → Script → Option (Ex × St × Script × List Prop)
  | 0, _, _, _ => none
  | n + 1, c, s, sc => match c with
    | .skip | .label _ => some (.normal, s, sc, [])
    | .region _ ops draw => match evRegion P wr (ICall P) lit O ops.toList draw s sc with
      | some (s, sc, ps) => some (.normal, s, sc, ps)
      | none => none
    | .seq a b => match evX P wr lit O n a s sc with
      | some (.normal, s, sc, ps) => match evX P wr lit O n b s sc with
        | some (e, s, sc, qs) => some (e, s, sc, ps ++ qs)
        | none => none
      | r => r
    | .cond c a b => match c with
      | .tmp t => match s.slot t with
        | .d (.bool true) => evX P wr lit O n a s sc
        | .d (.bool false) => evX P wr lit O n b s sc
        | _ => none
      | .const (.bool true) => evX P wr lit O n a s sc
      | .const (.bool false) => evX P wr lit O n b s sc
      | _ => none
    | .block id a => match evX P wr lit O n a s sc with
      | some (.exit j, s, sc, ps) => if j = id then some (.normal, s, sc, ps) else some (.exit j, s, sc, ps)
      | r => r
    | .loop a => match sc with
      | some (.lp keep e s1 :: r) => if stays s.blks.length s.blks then some (e, s1, some r, [GoesL P a (forget keep s) e s1]) else none
      | _ => none
    | .scope a => evX P wr lit O n a s sc
    | .exit id => some (.exit id, s, sc, [])
    | .ret => some (.ret, s, sc, [])
    | _ => none

theorem evX_ok (hO : OrcOk P O) (hm : P.follows .mixedOrders = true) : ∀ (n : Nat) (c : Code) {s s' : St} {sc sc' : Script} {e : Ex} {ps : List Prop}, evX P wr lit O n c s sc = some (e, s', sc', ps) → (∀ q ∈ ps, q) → Goes P c s e s'
  | 0, c, s, s', sc, sc', e, ps, h, _ => by simp [evX] at h
  | n + 1, c, s, s', sc, sc', e, ps, h, hps => by
    intro a w μ Pr hR
    have done : ∀ {e : Ex}, Post P e s μ Pr w e.to a w := fun {e} => ⟨rfl, μ, Pr, hR, .refl _ _ _, .refl _⟩
    cases c with
    | skip =>
      simp only [evX, Option.some.injEq, Prod.mk.injEq] at h
      obtain ⟨rfl, rfl, _, _⟩ := h
      exact wp_skip done
    | label l =>
      simp only [evX, Option.some.injEq, Prod.mk.injEq] at h
      obtain ⟨rfl, rfl, _, _⟩ := h
      exact wp_label done
    | region id ops draw =>
      simp only [evX] at h
      split at h
      · rename_i s1 sc1 ps1 he
        simp only [Option.some.injEq, Prod.mk.injEq] at h
        obtain ⟨rfl, rfl, rfl, rfl⟩ := h
        exact region_ok (ops := ops.toList) hO hm he hps hR (fun a' w' h => ⟨rfl, h⟩)
      · cases h
    | seq x y =>
      simp only [evX] at h
      refine wp_seq ?_
      split at h
      · rename_i s1 sc1 ps1 he
        split at h
        · rename_i e2 s2 sc2 qs he2
          simp only [Option.some.injEq, Prod.mk.injEq] at h
          obtain ⟨rfl, rfl, rfl, rfl⟩ := h
          refine wp_mono (evX_ok hO hm n x he (fun q hq => hps q (List.mem_append_left _ hq)) a w μ Pr hR) ?_
          rintro e' a' w' ⟨rfl, μ1, Pr1, hR1, hev, hk⟩
          exact wp_mono (evX_ok hO hm n y he2 (fun q hq => hps q (List.mem_append_right _ hq)) a' w' μ1 Pr1 hR1) (Post.trans hev hk)
        · cases h
      · rename_i hne
        refine wp_mono (evX_ok hO hm n x h hps a w μ Pr hR) ?_
        rintro e' a' w' ⟨rfl, hA⟩
        cases e with
        | normal => exact (hne _ _ _ h).elim
        | exit id => exact ⟨rfl, hA⟩
        | ret => exact ⟨rfl, hA⟩
    | cond c x y =>
      simp only [evX] at h
      split at h
      · rename_i t
        have hs := slot_ok hR t
        split at h
        · rename_i ht
          rw [ht] at hs
          exact wp_cond_true (show a.eval (.tmp t) = .bool true from drel_bool (show DRel w Pr (.bool true) _ from hs)) (evX_ok hO hm n x h hps a w μ Pr hR)
        · rename_i ht
          rw [ht] at hs
          exact wp_cond_false (show a.eval (.tmp t) = .bool false from drel_bool (show DRel w Pr (.bool false) _ from hs)) (evX_ok hO hm n y h hps a w μ Pr hR)
        · cases h
      · exact wp_cond_true rfl (evX_ok hO hm n x h hps a w μ Pr hR)
      · exact wp_cond_false rfl (evX_ok hO hm n y h hps a w μ Pr hR)
      · cases h
    | block id x =>
      simp only [evX] at h
      refine wp_block ?_
      split at h
      · rename_i j s1 sc1 ps1 he
        split at h
        · rename_i hj
          simp only [Option.some.injEq, Prod.mk.injEq] at h
          obtain ⟨rfl, rfl, rfl, rfl⟩ := h
          refine wp_mono (evX_ok hO hm n x he hps a w μ Pr hR) ?_
          rintro e' a' w' ⟨rfl, hA⟩
          simp only [Ex.to, Exit.inBlock, hj, if_true]
          exact ⟨rfl, hA⟩
        · rename_i hj
          simp only [Option.some.injEq, Prod.mk.injEq] at h
          obtain ⟨rfl, rfl, rfl, rfl⟩ := h
          refine wp_mono (evX_ok hO hm n x he hps a w μ Pr hR) ?_
          rintro e' a' w' ⟨rfl, hA⟩
          simp only [Ex.to, Exit.inBlock, hj, if_false]
          exact ⟨rfl, hA⟩
      · rename_i hne
        refine wp_mono (evX_ok hO hm n x h hps a w μ Pr hR) ?_
        rintro e' a' w' ⟨rfl, hA⟩
        cases e with
        | exit id => exact (hne _ _ _ _ h).elim
        | normal => exact ⟨rfl, hA⟩
        | ret => exact ⟨rfl, hA⟩
    | loop x =>
      simp only [evX] at h
      split at h
      · split at h
        · rename_i hst
          simp only [Option.some.injEq, Prod.mk.injEq] at h
          obtain ⟨rfl, rfl, rfl, rfl⟩ := h
          exact wp_of_loop ((hps _ (List.mem_singleton.2 rfl)) a w μ Pr (hR.forget _ hst))
        · cases h
      · cases h
    | scope x =>
      simp only [evX] at h
      refine wp_scope_straight (wp_mono (evX_ok hO hm n x h hps a w μ Pr hR) ?_)
      rintro e' a' w' ⟨rfl, hA⟩
      cases e <;> exact ⟨rfl, hA⟩
    | exit id =>
      simp only [evX, Option.some.injEq, Prod.mk.injEq] at h
      obtain ⟨rfl, rfl, _, _⟩ := h
      exact wp_exit (done (e := .exit id))
    | ret =>
      simp only [evX, Option.some.injEq, Prod.mk.injEq] at h
      obtain ⟨rfl, rfl, _, _⟩ := h
      exact wp_ret (done (e := .ret))
    | _ => simp [evX] at h

/-! ### rounds and calls -/

/-- Slots, of which some are known. -/
def mk : Nat → List (Nat × V) → List V → List V
  | 0, _, acc => acc
  | n + 1, l, acc => mk n l (((l.lookup n).getD .undef) :: acc)


/-- All hold. -/
def AllP : List Prop → Prop
  | [] => True
  | [p] => p
  | p :: r => p ∧ AllP r
theorem AllP.mem : ∀ {ps : List Prop}, AllP ps → ∀ q ∈ ps, q
  | [], _, q, hq => by cases hq
  | [p], h, q, hq => by rcases List.mem_singleton.1 hq with rfl; exact h
  | p :: p2 :: r, h, q, hq => by
    rcases List.mem_cons.1 hq with rfl | hq
    · exact h.1
    · exact AllP.mem h.2 q hq

/-- A piece of code from a state, by a script; what is forgotten behind it. -/
def round (P : Program) (wr : Nat → Bool) (lit : Bool) (O : Orc) (c : Code) (s : St) (sc : List It) (keep : List Nat) (n : Nat) : Option (Ex × St × List Prop) :=
  match evX P wr lit O 100000 c s (some sc) with
  | some (e, s', some [], ps) => if stays n (s'.blks.take n) && decide (s.blks.length ≤ n) then some (e, trim keep n s', ps) else none
  | _ => none

theorem round_ok {keep : List Nat} {n : Nat} {sc : List It} {ps : List Prop} (h : round P wr lit O c s sc keep n = some (e, s', ps)) :
    ∃ s1, evX P wr lit O 100000 c s (some sc) = some (e, s1, some [], ps) ∧ stays n (s1.blks.take n) = true ∧ s.blks.length ≤ n ∧ s' = trim keep n s1 := by
  unfold round at h
  split at h
  · rename_i e1 s1 ps1 he
    split at h
    · rename_i hc
      simp only [Option.some.injEq, Prod.mk.injEq] at h
      obtain ⟨rfl, rfl, rfl⟩ := h
      simp only [Bool.and_eq_true, decide_eq_true_eq] at hc
      exact ⟨s1, he, hc.1, hc.2, rfl⟩
    · cases h
  · cases h

theorem GoesL.step (hO : OrcOk P O) (hm : P.follows .mixedOrders = true) {keep : List Nat} {n : Nat} {sc : List It} {ps : List Prop} (h : round P wr lit O c s sc keep n = some (.normal, s1, ps)) (hps : AllP ps) (h2 : GoesL P c s1 e s2) : GoesL P c s e s2 := by
  obtain ⟨s3, h3, h4, h5, rfl⟩ := round_ok h
  exact .next (evX_ok hO hm _ c h3 hps.mem) h4 h5 h2
theorem GoesL.stop (hO : OrcOk P O) (hm : P.follows .mixedOrders = true) {keep : List Nat} {n : Nat} {sc : List It} {ps : List Prop} (h : round P wr lit O c s sc keep n = some (e, s1, ps)) (he : e ≠ .normal) (hps : AllP ps) : GoesL P c s e s1 := by
  obtain ⟨s3, h3, h4, h5, rfl⟩ := round_ok h
  exact .leave (evX_ok hO hm _ c h3 hps.mem) he h4 h5

/-- A function's body. -/
def bodyOf (P : Program) (f : Nat) : Code := match P.funcs[f]? with
  | some fn => fn.body.getD .skip
  | none => .skip

def entryOf (P : Program) (f : Nat) (as : List V) (bs : List B) : St := match P.funcs[f]? with
  | some fn => entry fn as bs
  | none => ⟨[], []⟩
def finishOf (P : Program) (f n : Nat) (s : St) : Option (V × List B) := match P.funcs[f]? with
  | some fn => finish P fn n s
  | none => none

/-- The loops of code, from without. -/
def loopsOf : Code → List Code
  | .seq a b => loopsOf a ++ loopsOf b
  | .cond _ a b => loopsOf a ++ loopsOf b
  | .block _ a => loopsOf a
  | .scope a => loopsOf a
  | .loop a => a :: loopsOf a
  | _ => []
def loopOf (P : Program) (f k : Nat) : Code := ((loopsOf (bodyOf P f))[k]?).getD .skip

/-- A call, by a script: its result, and what is asked. -/
def callX (P : Program) (wr : Nat → Bool) (lit : Bool) (O : Orc) (f : Nat) (as : List V) (bs : List B) (sc : List It) : Option (V × List B × List Prop) := match P.funcs[f]? with
  | some fn => match fn.body with
    | some c => match evX P wr lit O 100000 c (entry fn as bs) (some sc) with
      | some (.exit _, _, _, _) => none
      | some (_, s, some [], ps) => match finish P fn bs.length s with
        | some (r, bs') => some (r, bs', ps)
        | none => none
      | _ => none
    | none => none
  | none => none

theorem callX_ok (hO : OrcOk P O) (hm : P.follows .mixedOrders = true) {f : Nat} {as : List V} {bs bs' : List B} {sc : List It} {r : V} {ps : List Prop} (h : callX P wr lit O f as bs sc = some (r, bs', ps)) (hps : AllP ps) : ICall P f as bs r bs' := by
  unfold callX at h
  split at h
  · rename_i fn hf
    split at h
    · rename_i c hb
      split at h
      · cases h
      · rename_i e s ps1 hne he
        split at h
        · rename_i r1 bs1 hfin
          simp only [Option.some.injEq, Prod.mk.injEq] at h
          obtain ⟨rfl, rfl, rfl⟩ := h
          have hg := evX_ok hO hm _ c he hps.mem
          intro w Pr μ vs hS hvs
          refine calls_of_wp hf hb (wp_mono (hg _ w μ Pr (entry_ok hS hvs)) ?_)
          rintro e' a' w' ⟨rfl, μ', Pr', hR, hev, hk⟩
          obtain ⟨x, hx, μ'', g1, g2, g3, g4⟩ := finish_ok hR hev hk hS.mu hfin
          cases e with
          | exit id => exact (hne _ rfl).elim
          | normal => exact ⟨hR.defers, x, hx, x, μ'', Pr', rfl, g1, g2, g3, g4⟩
          | ret => exact ⟨hR.defers, x, hx, x, μ'', Pr', rfl, g1, g2, g3, g4⟩
        · cases h
      · cases h
    · cases h
  · cases h

/-! ### calls, seen otherwise -/

/-- An empty list that leaves is a list of the caller's. -/
theorem ICall.emp_own {f e wd : Nat} {as : List V} {bs bs' : List B} {b : Bool} (hz : szOf P e = some wd) (h : ICall P f as bs (.emp b) bs') : ICall P f as bs (.own e []) bs' := by
  intro w Pr μ vs hS hvs
  refine Calls.mono (h w Pr μ vs hS hvs) ?_
  rintro ex w' ⟨x, μ', Pr', rfl, h1, h2, h3, h4⟩
  have h1 : SRel P (bs' ++ []) w' μ' Pr' := h1
  rw [List.append_nil] at h1
  obtain ⟨q, hq⟩ := emp_val (show VRel P w' Pr' (view (bs' ++ []) μ') (.emp b) x from h2)
  have hA := h1.adopt (b := .lst e []) (c := .lst (.zero q)) (by simp [CB.own, H.own]) (by simp [CB.own, H.own]) ⟨wd, [], hz, ⟨rfl, rfl⟩, by simp, by simp⟩
  refine ⟨x, μ' ++ [.lst (.zero q)], Pr', rfl, (show SRel P (bs' ++ (lay bs'.length (.own e [])).2) w' (μ' ++ [.lst (.zero q)]) Pr' from hA), ?_, ⟨h3.os, h3.tape, h3.output, h3.size, h3.block, fun k hk => h3.own k (by rw [owns_append, owns_one] at hk; simpa [CB.own, H.own] using hk), h3.prm, h3.prn⟩, h4.trans (.push _ _)⟩
  exact .inl ⟨e, 0, .zero q, view_last h1.mu, hq⟩

/-- An empty list is nil or not. -/
theorem ICall.empty {f : Nat} {as : List V} {bs bs' : List B} {r : V} (h1 : ICall P f (.nlc :: as) bs r bs') (h2 : ICall P f (.nnil :: as) bs r bs') : ICall P f (.d (.sl []) :: as) bs r bs' := by
  intro w Pr μ vs hS hvs
  match vs, hvs with
  | v :: vs, hvs =>
    have hd : DRel w Pr (.sl []) v := hvs.1
    generalize hx : D.sl [] = x at hd
    cases hd with
    | sl0 a cap =>
      cases a with
      | none => exact h1 w Pr μ _ hS ⟨⟨cap, rfl⟩, hvs.2⟩
      | some a => exact h2 w Pr μ _ hS ⟨⟨a, cap, rfl⟩, hvs.2⟩
    | sl xs b o cap wd f hb hc hw hm h1' hd' =>
      cases hx
      exact h2 w Pr μ _ hS ⟨⟨⟨b, o, none⟩, cap, rfl⟩, hvs.2⟩
    | _ => cases hx

end Go.Proofs.YtbamhlgkoimjoaaDoor.Ab
/- An empty list that stands in a cell or a slot is a list of its own. -/
namespace Go.Proofs.YtbamhlgkoimjoaaDoor.Ab
open Go
set_option linter.unusedVariables false

variable {P : Program} {s s2 : St} {w : World} {Pr : Nat → Prop} {μ : List CB} {a : Act} {c : Code} {e : Ex}

theorem All2.setLeft {α β : Type} {R : α → β → Prop} : ∀ {xs : List α} {ys : List β} (_ : All2 R xs ys) (j : Nat) (x' : α), (∀ y, ys[j]? = some y → R x' y) → All2 R (xs.set j x') ys
  | [], [], _, _, _, _ => trivial
  | _ :: _, b :: _, h, 0, x', hr => ⟨hr b rfl, h.2⟩
  | _ :: _, _ :: _, h, j + 1, x', hr => ⟨h.1, All2.setLeft h.2 j x' (fun y hy => hr y (by simpa using hy))⟩
  | [], _ :: _, h, _, _, _ => h.elim
  | _ :: _, [], h, _, _, _ => h.elim

/-- In a block's cell. -/
def adoptB (id j t : Nat) (s : St) : St := match s.blks[id]? with
  | some (.bx ty vs) => match vs[j]? with
    | some (.emp _) => ⟨s.slots, (s.blks ++ [B.lst t []]).set id (.bx ty (vs.set j (.arr s.blks.length)))⟩
    | _ => s
  | _ => s
/-- In a slot. -/
def adoptS (j t : Nat) (s : St) : St := match s.slots[j]? with
  | some (.emp _) => ⟨s.slots.set j (.arr s.blks.length), s.blks ++ [B.lst t []]⟩
  | _ => s

theorem Rel.adopt0 (hR : Rel P s a w μ Pr) {t wd : Nat} (hz : szOf P t = some wd) (q : Option Addr) : Rel P ⟨s.slots, s.blks ++ [B.lst t []]⟩ a w (μ ++ [.lst (.zero q)]) Pr :=
  ⟨hR.toSRel.adopt (b := .lst t []) (c := .lst (.zero q)) (by simp [CB.own, H.own]) (by simp [CB.own, H.own]) ⟨wd, [], hz, ⟨rfl, rfl⟩, by simp, by simp⟩, hR.defers, hR.len,
    fun n v hn => (hR.slots n v hn).mono P (fun _ h => h) (fun _ _ => rfl) (fun i _ hne => view_push hR.mu hne)⟩
theorem owns_adopt (μ : List CB) (q : Option Addr) : owns (μ ++ [CB.lst (.zero q)]) = owns μ := by rw [owns_append, owns_one]; simp [CB.own, H.own]

theorem Rel.adoptB (hR : Rel P s a w μ Pr) {id j t wd : Nat} (hz : szOf P t = some wd) : After P (adoptB id j t s) μ Pr w a w := by
  have done : After P s μ Pr w a w := ⟨μ, Pr, hR, .refl _ _ _, .refl _⟩
  unfold Ab.adoptB
  split
  · rename_i ty vs hb
    split
    · rename_i b hv
      obtain ⟨q0, cur, e0, g1, g2, g3, g4, gt⟩ := hR.toSRel.boxT hb
      obtain ⟨y, hy, hr, h1⟩ := g4.get j _ hv
      obtain ⟨q, hq⟩ := emp_val (show VRel P w Pr (view s.blks μ) (.emp b) y from hr)
      have hA := hR.adopt0 hz q
      have hid : id < s.blks.length := (List.getElem?_eq_some_iff.1 hb).1
      have hb' : (s.blks ++ [B.lst t []])[id]? = some (.bx ty vs) := by rw [List.getElem?_append_left hid]; exact hb
      have hc' : (μ ++ [.lst (.zero q)])[id]? = some (.box q0) := by rw [List.getElem?_append_left (by rw [hR.mu]; exact hid)]; exact g1
      obtain ⟨hS, hev⟩ := hA.setSame (w' := w) (b' := .bx ty (vs.set j (.arr s.blks.length))) hb' hc' rfl ⟨rfl, rfl, rfl, Nat.le_refl _, fun _ _ _ => rfl⟩ (by
        refine ⟨cur, e0, g3, gt, ?_⟩
        have g5 : All2 (fun v u => VRel1 P w Pr (view (s.blks ++ [B.lst t []]) (μ ++ [.lst (.zero q)])) v u ∧ u.oneCell' = true) vs cur.toList := g4.mono (fun v u h => ⟨h.1.mono P (fun _ h => h) (fun _ _ => rfl) (fun i _ hne => view_push hR.mu hne), h.2⟩)
        refine g5.setLeft j _ (fun y' hy' => ?_)
        rw [hy] at hy'; cases hy'
        exact ⟨.inl ⟨t, 0, .zero q, view_last hR.mu, hq⟩, h1⟩)
      exact ⟨μ ++ [CB.lst (.zero q)], Pr, hS, by rw [owns_adopt]; exact .refl _ _ _, .push _ _⟩
    · exact done
  · exact done

theorem Rel.adoptS (hR : Rel P s a w μ Pr) {j t wd : Nat} (hz : szOf P t = some wd) : After P (adoptS j t s) μ Pr w a w := by
  have done : After P s μ Pr w a w := ⟨μ, Pr, hR, .refl _ _ _, .refl _⟩
  unfold Ab.adoptS
  split
  · rename_i b hv
    obtain ⟨q, hq⟩ := emp_val (show VRel P w Pr (view s.blks μ) (.emp b) _ from hR.slots j _ hv)
    have hA := hR.adopt0 hz q
    refine ⟨μ ++ [CB.lst (.zero q)], Pr, ⟨hA.toSRel, hA.defers, by simpa using hA.len, fun n v hn => ?_⟩, by rw [owns_adopt]; exact .refl _ _ _, .push _ _⟩
    simp only at hn
    rw [List.getElem?_set] at hn
    by_cases hj : j = n
    · subst hj
      rw [if_pos rfl, if_pos (List.getElem?_eq_some_iff.1 hv).1] at hn
      cases hn
      exact .inl ⟨t, 0, .zero q, view_last hR.mu, hq⟩
    · rw [if_neg hj] at hn
      exact hA.slots n v hn
  · exact done

/-- A loop from a state whose empty lists are its own. -/
theorem GoesL.adoptB {id j t wd : Nat} (hz : szOf P t = some wd) (h : GoesL P c (Ab.adoptB id j t s) e s2) : GoesL P c s e s2 := fun a w μ Pr hR =>
  let ⟨μ1, Pr1, h1, hev, hk⟩ := hR.adoptB hz
  (h a w μ1 Pr1 h1).mono (Post.trans hev hk)
theorem GoesL.adoptS {j t wd : Nat} (hz : szOf P t = some wd) (h : GoesL P c (Ab.adoptS j t s) e s2) : GoesL P c s e s2 := fun a w μ Pr hR =>
  let ⟨μ1, Pr1, h1, hev, hk⟩ := hR.adoptS hz
  (h a w μ1 Pr1 h1).mono (Post.trans hev hk)
end Go.Proofs.YtbamhlgkoimjoaaDoor.Ab
/- A result whose lists are only read from now on. -/
namespace Go.Proofs.YtbamhlgkoimjoaaDoor.Ab
open Go
set_option linter.unusedVariables false

variable {P : Program} {w : World} {Pr Pr2 : Nat → Prop} {μ : List CB} {L : List B}

/-- Rows of which all are known. -/
def rows2 : List (Option (List D)) → Option (List (List D))
  | [] => some []
  | some ys :: r => match rows2 r with
    | some l => some (ys :: l)
    | none => none
  | none :: _ => none
theorem rows2_eq : ∀ {xss : List (Option (List D))} {yss : List (List D)}, rows2 xss = some yss → xss = yss.map some
  | [], yss, h => by simp only [rows2, Option.some.injEq] at h; subst h; rfl
  | some ys :: r, yss, h => by
    simp only [rows2] at h
    split at h
    · next l hl => cases h; rw [rows2_eq hl]; rfl
    · cases h
  | none :: _, yss, h => by cases h
def frz0 : V → Option D
  | .own _ l => some (.sl l)
  | .own2 _ xss => match rows2 xss with
    | some yss => some (.sl (yss.map .sl))
    | none => none
  | .d x => some x
  | .emp _ => some (.sl [])
  | _ => none
def frzL : List V → Option (List D)
  | [] => some []
  | v :: r => match frz0 v, frzL r with
    | some d, some ds => some (d :: ds)
    | _, _ => none
def frz1 : V → Option D
  | .agg cs => match frzL cs with
    | some ds => some (.agg ds)
    | none => none
  | v => frz0 v
def frzT : List V → Option (List D)
  | [] => some []
  | v :: r => match frz1 v, frzT r with
    | some d, some ds => some (d :: ds)
    | _, _ => none
def frzR : V → Option V
  | .tup cs => match frzT cs with
    | some ds => some (.tup (ds.map .d))
    | none => none
  | v => match frz1 v with
    | some d => some (.d d)
    | none => none

theorem own_data (h : SRel P L w μ Pr) (hp : ∀ b, Pr b → Pr2 b) (ho : ∀ b ∈ owns μ, Pr2 b) {id e : Nat} {xs : List D} (hb : L[id]? = some (.lst e xs)) {x : Value} (hx : VRel0 P w Pr (view L μ) (.arr id) x) : DRel w Pr2 (.sl xs) x := by
  obtain ⟨hh, wd, cs, g1, g2, g3, g4, g5⟩ := h.lst hb
  rcases hx with ⟨e', n, h', k1, k2⟩ | ⟨s', lens, b, cap, inner, k1, k2⟩
  · rw [g2] at k1; cases k1
    subst k2
    cases hh with
    | zero a => have := row_nil g4; subst this; exact .sl0 _ _
    | row b c =>
      obtain ⟨q1, q2, q3⟩ := reads_of_row g4 g5
      exact drel_of_reads (Pr' := Pr) (ho b (List.mem_flatMap.2 ⟨_, List.mem_of_getElem? g1, by simp [CB.own, H.own]⟩)) q1 ⟨q2, fun i x j y hx hy => let ⟨u, r1, r2, r3⟩ := q3 i x j y hx hy; ⟨u, r1, r2, r3.mono hp (fun _ _ => rfl)⟩⟩
  · rw [g2] at k1; cases k1

theorem own2_data (h : SRel P L w μ Pr) (hp : ∀ b, Pr b → Pr2 b) (ho : ∀ b ∈ owns μ, Pr2 b) {id s : Nat} {yss : List (List D)} (hb : L[id]? = some (.lst2 s (yss.map some))) {x : Value} (hx : VRel0 P w Pr (view L μ) (.arr id) x) : DRel w Pr2 (.sl (yss.map .sl)) x := by
  obtain ⟨c, h1, h2, h3⟩ := h.at hb
  cases c with
  | lst2 b cap inner =>
    obtain ⟨cur, e, wd, g1, g2, g3, g4, g5, g6, g7, g8, g9, g10⟩ := h2
    have hown : ∀ k ∈ b :: inner.flatMap H.own, Pr2 k := fun k hk => ho k (List.mem_flatMap.2 ⟨_, List.mem_of_getElem? h1, hk⟩)
    rw [List.length_map] at g2 g5
    rcases hx with ⟨e', n, h', k1, k2⟩ | ⟨s', lens, b', cap', inner', k1, k2⟩
    · rw [h3] at k1; cases k1
    · rw [h3] at k1; cases k1
      subst k2
      have hlen : ((yss.map some).map (·.map List.length)).length = (yss.map D.sl).length := by simp
      rw [hlen]
      have row : ∀ (i : Nat) (d : D), (yss.map D.sl)[i]? = some d → ∃ ys hh cs, yss[i]? = some ys ∧ d = .sl ys ∧ inner[i]? = some hh ∧ cur[i]? = some (hdr hh ys.length) ∧ OwnR w e wd hh ys.length cs ∧ Rows' w Pr wd ys cs := by
        intro i d hd
        rw [List.getElem?_map] at hd
        cases hy : yss[i]? with
        | none => rw [hy] at hd; cases hd
        | some ys =>
          rw [hy] at hd; cases hd
          have hlt : i < inner.length := by rw [g5]; exact (List.getElem?_eq_some_iff.1 hy).1
          obtain ⟨q1, cs, q2, q3⟩ := g10 i ys inner[i] (by rw [List.getElem?_map, hy]; rfl) (List.getElem?_eq_getElem hlt)
          exact ⟨ys, _, cs, rfl, rfl, List.getElem?_eq_getElem hlt, q1, q2, q3⟩
      have cell : ∀ (i : Nat) (d : D) (j : Nat) (y : D), (yss.map D.sl)[i]? = some d → d.cells[j]? = some y → ∃ u, j = 0 ∧ cur[i]? = some u ∧ u.oneCell' = true ∧ DRel w Pr2 y u := by
        intro i d j y hd hy
        obtain ⟨ys, hh, cs, r1, rfl, r3, r4, r5, r6⟩ := row i d hd
        cases j with
        | succ j => cases j <;> cases hy
        | zero =>
          cases hy
          refine ⟨_, rfl, r4, g9 _ (Array.mem_toList_iff.2 (Array.mem_of_getElem? r4)), ?_⟩
          cases hh with
          | zero a => have := row_nil r5; subst this; exact .sl0 _ _
          | row b2 c2 =>
            obtain ⟨q1, q2, q3⟩ := reads_of_row r5 r6
            refine drel_of_reads (Pr' := Pr) (hown b2 (List.mem_cons_of_mem _ (List.mem_flatMap.2 ⟨_, List.mem_of_getElem? r3, by simp [H.own]⟩))) q1 ⟨q2, fun i x j y hx hy => ?_⟩
            obtain ⟨u, s1, s2, s3⟩ := q3 i x j y hx hy
            exact ⟨u, s1, s2, s3.mono hp (fun _ _ => rfl)⟩
      refine .sl (yss.map D.sl) b 0 cap 1 (fun i _ => (cur[i]?).getD undef) (hown b (by simp)) (by rw [List.length_map]; exact g2) ?_ ?_ ?_ ?_
      · intro i d hd
        obtain ⟨ys, hh, cs, r1, rfl, r3, r4, r5, r6⟩ := row i d hd
        rfl
      · intro i d j y hd hy
        obtain ⟨u, rfl, q1, q2, q3⟩ := cell i d j y hd hy
        rw [cell_of_cells g1, q1]
        show cur[0 + i * 1 + 0]? = some u
        rw [show 0 + i * 1 + 0 = i by omega]; exact q1
      · intro i d j y hd hy
        obtain ⟨u, -, q1, q2, q3⟩ := cell i d j y hd hy
        rw [q1]; exact q2
      · intro i d j y hd hy
        obtain ⟨u, -, q1, q2, q3⟩ := cell i d j y hd hy
        rw [q1]; exact q3
  | _ => exact h2.elim

theorem frz0_ok (h : SRel P L w μ Pr) (hp : ∀ b, Pr b → Pr2 b) (ho : ∀ b ∈ owns μ, Pr2 b) {v : V} {d : D} (hf : frz0 v = some d) {L1 L2 : List B} (hL : L = L1 ++ ((layV L1.length v).2 ++ L2)) {x : Value} (hx : VRel0 P w Pr (view L μ) (layV L1.length v).1 x) : DRel w Pr2 d x := by
  unfold frz0 at hf
  split at hf
  · rename_i e l
    cases hf
    refine own_data h hp ho (id := L1.length) (e := e) ?_ hx
    rw [hL, List.getElem?_append_right (Nat.le_refl _), Nat.sub_self]; rfl
  · rename_i e xss
    split at hf
    · next yss hy =>
      cases hf
      refine own2_data h hp ho (id := L1.length) (s := e) ?_ hx
      rw [hL, List.getElem?_append_right (Nat.le_refl _), Nat.sub_self, ← rows2_eq hy]; rfl
    · cases hf
  · cases hf; exact DRel.mono hp (fun _ _ => rfl) hx
  · cases hf
    rename_i b
    cases b
    · obtain ⟨a, rfl⟩ := hx; exact .sl0 _ _
    · obtain rfl : x = .slice none 0 0 := hx
      exact .sl0 _ _
  · cases hf

theorem frzL_ok (h : SRel P L w μ Pr) (hp : ∀ b, Pr b → Pr2 b) (ho : ∀ b ∈ owns μ, Pr2 b) : ∀ (cs : List V) (ds : List D), frzL cs = some ds → ∀ (L1 L2 : List B), L = L1 ++ ((layL L1.length cs).2 ++ L2) → ∀ vs : List Value, All2 (fun c u => VRel0 P w Pr (view L μ) c u ∧ u.oneCell' = true) (layL L1.length cs).1 vs →
    All2 (fun d u => DRel w Pr2 d u ∧ u.oneCell' = true) ds vs
  | [], ds, hf, L1, L2, hL, vs, hv => by
    simp only [frzL, Option.some.injEq] at hf
    subst hf
    cases vs with
    | nil => trivial
    | cons y t => exact hv.elim
  | v :: r, ds, hf, L1, L2, hL, vs, hv => by
    simp only [frzL] at hf
    split at hf
    · rename_i d ds' h1 h2
      cases hf
      cases vs with
      | nil => exact hv.elim
      | cons y t =>
        simp only [layL] at hL hv
        have hL2 : L = L1 ++ ((layV L1.length v).2 ++ ((layL (L1.length + (layV L1.length v).2.length) r).2 ++ L2)) := by rw [hL, List.append_assoc]
        refine ⟨⟨frz0_ok h hp ho h1 hL2 hv.1.1, hv.1.2⟩, ?_⟩
        have e : (L1 ++ (layV L1.length v).2).length = L1.length + (layV L1.length v).2.length := List.length_append
        refine frzL_ok h hp ho r ds' h2 (L1 ++ (layV L1.length v).2) L2 ?_ t ?_
        · rw [e, List.append_assoc]; exact hL2
        · rw [e]; exact hv.2
    · cases hf

theorem drel_agg2 {ds : List D} {vs : List Value} (h : All2 (fun d u => DRel w Pr2 d u ∧ u.oneCell' = true) ds vs) : DRel w Pr2 (.agg ds) (.agg vs.toArray) := by
  have key : ∀ {ds : List D} {vs : List Value}, All2 (fun d u => DRel w Pr2 d u ∧ u.oneCell' = true) ds vs → (∀ v ∈ vs, v.oneCell' = true) ∧ ∀ (j : Nat) (d : D) (v : Value), ds[j]? = some d → vs[j]? = some v → DRel w Pr2 d v := by
    intro ds
    induction ds with
    | nil => intro vs h; cases vs with
      | nil => exact ⟨by simp, by simp⟩
      | cons y t => exact h.elim
    | cons d ds ih => intro vs h; cases vs with
      | nil => exact h.elim
      | cons y t =>
        obtain ⟨i1, i2⟩ := ih h.2
        refine ⟨fun v hv => ?_, fun j d' v' hd hv => ?_⟩
        · rcases List.mem_cons.1 hv with rfl | hv
          · exact h.1.2
          · exact i1 v hv
        · cases j with
          | zero => simp at hd hv; subst hd; subst hv; exact h.1.1
          | succ j => exact i2 j d' v' (by simpa using hd) (by simpa using hv)
  exact .agg ds vs h.length (key h).1 (key h).2

theorem frz1_ok (h : SRel P L w μ Pr) (hp : ∀ b, Pr b → Pr2 b) (ho : ∀ b ∈ owns μ, Pr2 b) {v : V} {d : D} (hf : frz1 v = some d) {L1 L2 : List B} (hL : L = L1 ++ ((lay1 L1.length v).2 ++ L2)) {x : Value} (hx : VRel1 P w Pr (view L μ) (lay1 L1.length v).1 x) : DRel w Pr2 d x := by
  unfold frz1 at hf
  split at hf
  · split at hf
    · rename_i ds h1
      cases hf
      obtain ⟨vs, rfl, hvs⟩ := hx
      exact drel_agg2 (frzL_ok h hp ho _ _ h1 L1 L2 hL vs hvs)
    · cases hf
  · rename_i v' hne
    have e : lay1 L1.length v = layV L1.length v := by
      cases v <;> first | rfl | exact (hne _ rfl).elim
    rw [e] at hL hx
    refine frz0_ok h hp ho hf hL ?_
    revert hx
    unfold frz0 at hf
    cases v <;> simp [layV] at hf ⊢ <;> intro hx <;> exact hx

theorem frzT_ok (h : SRel P L w μ Pr) (hp : ∀ b, Pr b → Pr2 b) (ho : ∀ b ∈ owns μ, Pr2 b) : ∀ (cs : List V) (ds : List D), frzT cs = some ds → ∀ (L1 L2 : List B), L = L1 ++ ((layT L1.length cs).2 ++ L2) → ∀ vs : List Value, All2 (VRel1 P w Pr (view L μ)) (layT L1.length cs).1 vs →
    All2 (fun d u => VRel1 P w Pr2 (view [] []) d u) (ds.map .d) vs
  | [], ds, hf, L1, L2, hL, vs, hv => by
    simp only [frzT, Option.some.injEq] at hf
    subst hf
    cases vs with
    | nil => trivial
    | cons y t => exact hv.elim
  | v :: r, ds, hf, L1, L2, hL, vs, hv => by
    simp only [frzT] at hf
    split at hf
    · rename_i d ds' h1 h2
      cases hf
      cases vs with
      | nil => exact hv.elim
      | cons y t =>
        simp only [layT] at hL hv
        have hL2 : L = L1 ++ ((lay1 L1.length v).2 ++ ((layT (L1.length + (lay1 L1.length v).2.length) r).2 ++ L2)) := by rw [hL, List.append_assoc]
        refine ⟨frz1_ok h hp ho h1 hL2 hv.1, ?_⟩
        have e : (L1 ++ (lay1 L1.length v).2).length = L1.length + (lay1 L1.length v).2.length := List.length_append
        refine frzT_ok h hp ho r ds' h2 (L1 ++ (lay1 L1.length v).2) L2 ?_ t ?_
        · rw [e, List.append_assoc]; exact hL2
        · rw [e]; exact hv.2
    · cases hf

/-- What a call leaves is only read from now on. -/
theorem ICall.frz {f : Nat} {as : List V} {r r' : V} (h : ICall P f as [] r []) (hr : frzR r = some r') : ICall P f as [] r' [] := by
  intro w Pr μ vs hS hvs
  refine Calls.mono (h w Pr μ vs hS hvs) ?_
  rintro ex w' ⟨x, μ', Pr', rfl, h1, h2, h3, h4⟩
  have hμ : μ = [] := List.eq_nil_of_length_eq_zero hS.mu
  have hp : ∀ b, Pr' b → Pr' b ∨ b ∈ owns μ' := fun b hb => .inl hb
  have ho : ∀ b ∈ owns μ', Pr' b ∨ b ∈ owns μ' := fun b hb => .inr hb
  have hlay : lay 0 r' = (r', []) ∧ VRel P w' (fun b => Pr' b ∨ b ∈ owns μ') (view [] []) r' x := by
    unfold frzR at hr
    split at hr
    · rename_i cs
      split at hr
      · rename_i ds hd
        cases hr
        obtain ⟨vs', rfl, hvs'⟩ := h2
        have e : ∀ (l : List D) (n : Nat), layT n (l.map .d) = (l.map .d, []) := by
          intro l
          induction l with
          | nil => intro n; rfl
          | cons d l ih => intro n; simp only [List.map_cons, layT, lay1, layV, List.length_nil, Nat.add_zero, ih, List.append_nil]
        refine ⟨by simp only [lay, e], vs', rfl, frzT_ok h1 hp ho cs ds hd [] [] (by simp [lay]) vs' hvs'⟩
      · cases hr
    · rename_i v hne
      split at hr
      · rename_i d hd
        cases hr
        refine ⟨rfl, ?_⟩
        have e : lay ([] : List B).length r = lay1 0 r := by
          cases r <;> first | rfl | exact (hne _ rfl).elim
        rw [e] at h1 h2
        refine frz1_ok h1 hp ho hd (L1 := []) (L2 := []) (by simp) ?_
        revert h2
        cases r <;> first | exact (hne _ rfl).elim | exact id
      · cases hr
  refine ⟨x, [], fun b => Pr' b ∨ b ∈ owns μ', rfl, ?_, ?_, ⟨h3.os, h3.tape, h3.output, h3.size, h3.block, by simp [owns], fun b hb => .inl (h3.prm b hb), fun b hb => ?_⟩, ?_⟩
  · show SRel P ([] ++ (lay 0 r').2) w' [] _
    rw [hlay.1]
    exact ⟨rfl, by simp, by simp [owns], by simp [owns], fun b hb => hb.elim (h1.pr b) fun hb => (h1.lt b hb).1, h1.glob.mono hp (fun _ _ => rfl)⟩
  · show VRel P w' _ (view ([] ++ (lay 0 r').2) []) (lay 0 r').1 x
    rw [hlay.1]; exact hlay.2
  · rcases hb with hb | hb
    · exact h3.prn b hb
    · exact .inr (h3.own b hb)
  · rw [hμ]; exact .refl _

/-- A list that is only read from behind a loop. -/
theorem GoesL.frz {c : Code} {s s2 : St} {e : Ex} (h : GoesL P c s e s2) (id : Nat) : GoesL P c s e (freeze id s2) := fun a w μ Pr hR =>
  (h a w μ Pr hR).mono fun e' a' w' ⟨he, μ1, Pr1, h1, hev, hk⟩ => ⟨he, After.trans hev hk (h1.freeze id)⟩
end Go.Proofs.YtbamhlgkoimjoaaDoor.Ab
/- An argument that is a struct with nil lists is plain data for the callee. -/
namespace Go.Proofs.YtbamhlgkoimjoaaDoor.Ab
open Go
set_option linter.unusedVariables false
variable {P : Program} {w : World} {Pr : Nat → Prop}
def frzE : List V → Option (List D)
  | [] => some []
  | .d x :: r => match frzE r with
    | some ds => some (x :: ds)
    | none => none
  | .emp _ :: r => match frzE r with
    | some ds => some (.sl [] :: ds)
    | none => none
  | _ :: _ => none
theorem frzE_ok {vw : Nat → Option VW} : ∀ (cs : List V) (ds : List D), frzE cs = some ds → ∀ vs : List Value, All2 (fun c u => VRel0 P w Pr vw c u ∧ u.oneCell' = true) cs vs → All2 (fun d u => DRel w Pr d u ∧ u.oneCell' = true) ds vs
  | [], ds, hf, vs, hv => by
    simp only [frzE, Option.some.injEq] at hf
    subst hf
    cases vs with
    | nil => trivial
    | cons y t => exact hv.elim
  | .d x :: r, ds, hf, vs, hv => by
    simp only [frzE] at hf
    split at hf
    · next ds' h1 =>
      cases hf
      cases vs with
      | nil => exact hv.elim
      | cons y t => exact ⟨hv.1, frzE_ok r ds' h1 t hv.2⟩
    · cases hf
  | .emp b :: r, ds, hf, vs, hv => by
    simp only [frzE] at hf
    split at hf
    · next ds' h1 =>
      cases hf
      cases vs with
      | nil => exact hv.elim
      | cons y t =>
        refine ⟨⟨?_, hv.1.2⟩, frzE_ok r ds' h1 t hv.2⟩
        cases b
        · obtain ⟨a, rfl⟩ := hv.1.1; exact .sl0 _ _
        · obtain rfl : y = .slice none 0 0 := hv.1.1
          exact .sl0 _ _
    · cases hf
/-- The struct's argument, at any place. -/
theorem ICall.agg {f : Nat} {as1 as2 cs : List V} {ds : List D} {bs bs' : List B} {r : V} (hf : frzE cs = some ds) (h : ICall P f (as1 ++ .d (.agg ds) :: as2) bs r bs') : ICall P f (as1 ++ .agg cs :: as2) bs r bs' := by
  intro w Pr μ vs hS hv
  refine h w Pr μ vs hS ?_
  have key : ∀ (as1 : List V) (vs : List Value), All2 (VRel P w Pr (view bs μ)) (as1 ++ .agg cs :: as2) vs → All2 (VRel P w Pr (view bs μ)) (as1 ++ .d (.agg ds) :: as2) vs := by
    intro as1
    induction as1 with
    | nil =>
      intro vs hv
      cases vs with
      | nil => exact hv.elim
      | cons y t =>
        refine ⟨?_, hv.2⟩
        obtain ⟨us, rfl, hu⟩ := (show VRel1 P w Pr (view bs μ) (.agg cs) y from hv.1)
        exact (show DRel w Pr (.agg ds) (.agg us.toArray) from drel_agg2 (frzE_ok cs ds hf us hu))
    | cons a as1 ih =>
      intro vs hv
      cases vs with
      | nil => exact hv.elim
      | cons y t => exact ⟨hv.1, ih t hv.2⟩
  exact key as1 vs hv
end Go.Proofs.YtbamhlgkoimjoaaDoor.Ab
