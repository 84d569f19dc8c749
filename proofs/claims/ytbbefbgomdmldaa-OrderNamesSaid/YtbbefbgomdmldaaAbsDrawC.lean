/- Regions that draw their order: the theorem. -/
import Derived.Test.YtbbefbgomdmldaaAbsDrawB
namespace Go.Proofs.Ytbbefbgomdmldaa.Ab
open Go
set_option linter.unusedVariables false
set_option linter.unusedSimpArgs false

variable {P : Program} {O : Orc} {s s' : St} {sc sc' : Script} {w w' : World} {Pr Pr' : Nat → Prop} {bl : List B} {μ : List CB} {a : Act} {wr : Nat → Bool} {lit : Bool} {p : Patch}

theorem ap_symm {rs : List Rec} {n i j : Nat} (h : AP rs n i j) : AP rs n j i := by
  obtain ⟨x, y, h1, h2, h3⟩ := h
  exact ⟨y, x, h2, h1, h3.symm⟩

/-- What is done. -/
def Dn (listed : Array Bool) (i : Nat) : Bool := listed.getD i false

theorem range_at {i m : Nat} (h : i < m) : ∃ B, List.range m = List.range i ++ i :: B ∧ ∀ j ∈ B, i < j ∧ j < m := by
  obtain ⟨k, rfl⟩ : ∃ k, m = i + (k + 1) := ⟨m - i - 1, by omega⟩
  refine ⟨((List.range k).map Nat.succ).map (i + ·), ?_, fun j hj => ?_⟩
  · rw [List.range_add, List.range_succ_eq_map]; simp
  · simp only [List.mem_map, List.mem_range] at hj
    obtain ⟨x, ⟨y, hy, rfl⟩, rfl⟩ := hj
    omega

theorem drawn_any {ops : List Oper} {rs : List Rec} {pp : List Patch} {Q : Exit → Act → World → Prop} (hc : Chain P ops ops s rs pp s') (ho : OrderOk s.blks.length rs) (hQ : ∀ a' w', After P s' μ Pr w a' w' → Q .normal a' w') :
    ∀ (fuel : Nat) (listed : Array Bool) (a' : Act) (w' : World), listed.size = ops.length → (∀ (j : Nat) (r : Rec), rs[j]? = some r → Dn listed j = true → ∀ e ∈ r.edges, Dn listed e = true) →
      ((List.range ops.length).filter (fun i => !Dn listed i)).length = fuel → After P (appI pp ((List.range ops.length).filter (Dn listed)) s) μ Pr w a' w' → wpAny P .any ops.toArray Q fuel listed a' w' := by
  obtain ⟨hl1, hl2⟩ := chain_len hc
  obtain ⟨hget, hend⟩ := chain_get hc
  have hok : ∀ i r, rs[i]? = some r → PatchOk r (PP pp i) := by
    intro i r hr
    have hi : i < rs.length := (List.getElem?_eq_some_iff.1 hr).1
    have h1 : ops[i]? = some ops[i] := List.getElem?_eq_getElem (by omega)
    have h2 : pp[i]? = some pp[i] := List.getElem?_eq_getElem (by omega)
    have := (hget i _ r _ h1 hr h2).toPatchOk
    unfold PP; rw [h2]; exact this
  have hedge : ∀ (i : Nat) (o : Oper) (r : Rec), ops[i]? = some o → rs[i]? = some r → r.edges = edgesOf o := by
    intro i o r h1 hr
    have hi : i < rs.length := (List.getElem?_eq_some_iff.1 hr).1
    have h2 : pp[i]? = some pp[i] := List.getElem?_eq_getElem (by omega)
    exact (hget i o r _ h1 hr h2).edges
  intro fuel
  induction fuel with
  | zero =>
    intro listed a' w' hsz hcl hlen hA
    have hall : ∀ i, i < ops.length → Dn listed i = true := by
      intro i hi
      have hnil := List.eq_nil_of_length_eq_zero hlen
      cases hd : Dn listed i with
      | true => rfl
      | false =>
        have : i ∈ (List.range ops.length).filter (fun i => !Dn listed i) := List.mem_filter.2 ⟨List.mem_range.2 hi, by simp [hd]⟩
        rw [hnil] at this; cases this
    refine ⟨List.eq_nil_iff_forall_not_mem.2 fun i hi => ?_, hQ a' w' ?_⟩
    · obtain ⟨h1, o, h2, _⟩ := mem_ready.1 hi
      have hlt : i < ops.length := by have := (Array.getElem?_eq_some_iff.1 h2).1; simpa using this
      have h3 := hall i hlt
      have hlt2 : i < listed.size := by omega
      simp only [Dn, Array.getD_eq_getD_getElem?, Array.getElem?_eq_getElem hlt2, Option.getD_some] at h1 h3
      rw [h1] at h3; cases h3
    · have hf : (List.range ops.length).filter (Dn listed) = List.range ops.length := List.filter_eq_self.2 fun i hi => hall i (List.mem_range.1 hi)
      rw [hf, appI_range pp s _ (by omega), ← hl2, List.take_length, ← hend] at hA
      exact hA
  | succ fuel ih =>
    intro listed a' w' hsz hcl hlen hA
    refine ⟨fun hnil => ?_, fun i hi => ?_⟩
    · -- something is ready
      exfalso
      have hall : ∀ i, i < ops.length → Dn listed i = true := by
        intro i
        induction i using Nat.strongRecOn with
        | _ i ihs =>
          intro hi
          cases hd : Dn listed i with
          | true => rfl
          | false =>
            have hr : rs[i]? = some rs[i] := List.getElem?_eq_getElem (by omega)
            have hop : ops[i]? = some ops[i] := List.getElem?_eq_getElem hi
            have hmem : i ∈ Region.ready .any ops.toArray listed := by
              refine mem_ready.2 ⟨?_, ops[i], by simp, fun e he hb => ?_⟩
              · have hlt2 : i < listed.size := by omega
                simp only [Dn, Array.getD_eq_getD_getElem?, Array.getElem?_eq_getElem hlt2, Option.getD_some] at hd ⊢
                exact hd
              · have hee : e.on ∈ rs[i].edges := by
                  rw [hedge i _ _ hop hr]
                  exact List.mem_map.2 ⟨e, List.mem_filter.2 ⟨by simpa using he, hb⟩, rfl⟩
                have hlt := ho.back i _ hr _ hee
                exact ihs e.on hlt (by omega)
            rw [hnil] at hmem; cases hmem
      have : (List.range ops.length).filter (fun i => !Dn listed i) = [] := List.filter_eq_nil_iff.2 fun i hi => by simp [hall i (List.mem_range.1 hi)]
      rw [this] at hlen; cases hlen
    · obtain ⟨hun, o, hop, hal⟩ := mem_ready.1 hi
      have him : i < ops.length := by have := (Array.getElem?_eq_some_iff.1 hop).1; simpa using this
      have hop' : ops[i]? = some o := by simpa using hop
      have hr : rs[i]? = some rs[i] := List.getElem?_eq_getElem (by omega)
      have hp : pp[i]? = some pp[i] := List.getElem?_eq_getElem (by omega)
      have hPP : PP pp i = pp[i] := by unfold PP; rw [hp]; rfl
      have hstep := hget i o _ _ hop' hr hp
      have hdi : Dn listed i = false := by
        have hlt2 : i < listed.size := by omega
        simp only [Dn, Array.getD_eq_getD_getElem?, Array.getElem?_eq_getElem hlt2, Option.getD_some] at hun ⊢
        exact hun
      have hedi : ∀ e ∈ rs[i].edges, Dn listed e = true := by
        intro e he
        rw [hedge i o _ hop' hr] at he
        obtain ⟨x, hx, rfl⟩ := List.mem_map.1 he
        obtain ⟨h1, h2⟩ := List.mem_filter.1 hx
        exact hal x (by simpa using h1) h2
      -- pairs
      have pairs : ∀ x y, x < y → y < ops.length → Dn listed x = false → (∀ r, rs[y]? = some r → ∀ e ∈ r.edges, Dn listed e = true) → AP rs s.blks.length x y := by
        intro x y hxy hy hx hey
        rcases ho.pair x y hxy (by omega) with h | h
        · have := h (fun j => Dn listed j = true) hcl hey
          rw [hx] at this; cases this
        · exact h
      obtain ⟨B, hB, hBm⟩ := range_at him
      have eA : ∀ {S : Nat → Bool}, (List.range ops.length).filter S = (List.range i).filter S ++ (i :: B).filter S := by intro S; rw [hB, List.filter_append]
      have eS : (List.range ops.length).filter (Dn listed) = (List.range i).filter (Dn listed) ++ B.filter (Dn listed) := by
        rw [eA]; congr 1; exact List.filter_cons_of_neg (by simp [hdi])
      have hset : ∀ j, j ≠ i → Dn (listed.setIfInBounds i true) j = Dn listed j := fun j hj => getD_set_ne false (Ne.symm hj)
      have hseti : Dn (listed.setIfInBounds i true) i = true := by
        have hlt2 : i < listed.size := by omega
        simp [Dn, hlt2]
      have eS' : (List.range ops.length).filter (Dn (listed.setIfInBounds i true)) = (List.range i).filter (Dn listed) ++ i :: B.filter (Dn listed) := by
        rw [eA]
        congr 1
        · apply List.filter_congr
          intro j hj; exact hset j (by have := List.mem_range.1 hj; omega)
        · have : (i :: B).filter (Dn (listed.setIfInBounds i true)) = i :: B.filter (Dn (listed.setIfInBounds i true)) := List.filter_cons_of_pos hseti
          rw [this]
          congr 1
          apply List.filter_congr
          intro j hj; exact hset j (by have := hBm j hj; omega)
      have hBap : ∀ j ∈ B.filter (Dn listed), AP rs s.blks.length i j := by
        intro j hj
        obtain ⟨h1, h2⟩ := List.mem_filter.1 hj
        obtain ⟨h3, h4⟩ := hBm j h1
        exact pairs i j h3 h4 hdi (fun r hr' => hcl j r hr' h2)
      -- what is read is the same
      have hagr : AgrR rs[i] ((pp.take i).foldl (fun s p => p.apply s) s) (appI pp ((List.range ops.length).filter (Dn listed)) s) := by
        rw [← appI_range pp s i (by omega), eS, appI_append]
        have hkn : Known rs[i] (appI pp (List.range i) s) := by rw [appI_range pp s i (by omega)]; exact hstep.known
        have h2 : AgrR rs[i] (appI pp ((List.range i).filter (Dn listed)) s) (appI pp (List.range i) s) := by
          have e := ap_split (n := s.blks.length) hok (Dn listed) (L := List.range i) s (Nat.le_refl _) (by
            have hpw : (List.range i).Pairwise (fun x y => x < y) := List.pairwise_lt_range
            refine (List.pairwise_iff_forall_sublist.2 fun {x y} hxy hx hy => ?_)
            have hlt : x < y := by
              have := List.pairwise_iff_forall_sublist.1 hpw hxy
              exact this
            have hyi : y ∈ List.range i := hxy.subset (by simp)
            exact pairs x y hlt (by have := List.mem_range.1 hyi; omega) hx (fun r hr' => hcl y r hr' hy))
          rw [e] at hkn ⊢
          refine ap_agr hok hr (appI_len pp _ s) (fun j hj => ?_) (.inr hkn)
          obtain ⟨h1, h2⟩ := List.mem_filter.1 hj
          exact pairs j i (List.mem_range.1 h1) him (by simpa using h2) (fun r hr' => by rw [hr] at hr'; cases hr'; exact hedi)
        have h1 := ap_agr (n := s.blks.length) hok hr (L := B.filter (Dn listed)) (s := appI pp ((List.range i).filter (Dn listed)) s) (appI_len pp _ s) (fun j hj => ap_symm (hBap j hj)) (.inl (hkn.agr h2.symm))
        exact h2.symm.trans h1
      obtain ⟨μ1, Pr1, hR1, hev1, hk1⟩ := hA
      have hwp := hstep.run _ hagr a' w' μ1 Pr1 Q i hop' hR1
      refine wpOp_mono (fun a2 w2 h2 => ih (listed.setIfInBounds i true) a2 w2 (by simp [hsz]) (fun j r hj hd e he => ?_) ?_ ?_) hwp
      · by_cases hji : j = i
        · subst hji
          rw [hr] at hj; cases hj
          exact getD_set_true (hedi e he)
        · rw [hset j hji] at hd
          exact getD_set_true (hcl j r hj hd e he)
      · -- one less
        have e1 : ∀ (S : Nat → Bool), S i = true → (∀ j, j ≠ i → S j = !Dn listed j) → ((List.range ops.length).filter S).length = fuel + 1 → ((List.range ops.length).filter (fun j => !Dn (listed.setIfInBounds i true) j)).length = fuel := by
          intro S hSi hS hSl
          rw [eA, List.length_append] at hSl
          have h1 : (i :: B).filter S = i :: B.filter S := List.filter_cons_of_pos hSi
          rw [h1, List.length_cons] at hSl
          rw [eA, List.length_append]
          have h2 : (i :: B).filter (fun j => !Dn (listed.setIfInBounds i true) j) = B.filter (fun j => !Dn (listed.setIfInBounds i true) j) := List.filter_cons_of_neg (by simp [hseti])
          rw [h2]
          have h3 : (List.range i).filter (fun j => !Dn (listed.setIfInBounds i true) j) = (List.range i).filter S := List.filter_congr fun j hj => by
            have := List.mem_range.1 hj
            rw [hset j (by omega), hS j (by omega)]
          have h4 : B.filter (fun j => !Dn (listed.setIfInBounds i true) j) = B.filter S := List.filter_congr fun j hj => by
            have := hBm j hj
            rw [hset j (by omega), hS j (by omega)]
          rw [h3, h4]; omega
        exact e1 (fun j => !Dn listed j) (by simp [hdi]) (fun _ _ => rfl) hlen
      · rw [eS', appI_append]
        have e2 : appI pp (i :: B.filter (Dn listed)) (appI pp ((List.range i).filter (Dn listed)) s) = (PP pp i).apply (appI pp ((List.range ops.length).filter (Dn listed)) s) := by
          rw [eS, appI_append]
          exact ap_past hok _ (appI_len pp _ s) hBap
        rw [e2, hPP]
        exact After.trans hev1 hk1 h2

end Go.Proofs.Ytbbefbgomdmldaa.Ab
