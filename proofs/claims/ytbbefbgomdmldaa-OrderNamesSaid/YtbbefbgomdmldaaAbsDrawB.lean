/- Regions that draw their order: every order. -/
import Derived.Test.YtbbefbgomdmldaaAbsDraw
namespace Go.Proofs.Ytbbefbgomdmldaa.Ab
open Go
set_option linter.unusedVariables false
set_option linter.unusedSimpArgs false

variable {P : Program} {O : Orc} {s s' : St} {sc sc' : Script} {w w' : World} {Pr Pr' : Nat → Prop} {bl : List B} {μ : List CB} {a : Act} {wr : Nat → Bool} {lit : Bool} {p : Patch}

theorem After.trans {s2 : St} {μ μ1 : List CB} {Pr Pr1 : Nat → Prop} {w w1 w2 : World} {a2 : Act} (hev : Evo (owns μ) Pr w (owns μ1) Pr1 w1) (hk : Keep μ μ1) (h : After P s2 μ1 Pr1 w1 a2 w2) : After P s2 μ Pr w a2 w2 := by
  obtain ⟨μ2, Pr2, h1, h2, h3⟩ := h
  exact ⟨μ2, Pr2, h1, hev.trans h2, hk.trans h3⟩

/-- One operation, wherever what it reads is the same. -/
structure StepOk (P : Program) (all : List Oper) (o : Oper) (s : St) (r : Rec) (p : Patch) : Prop extends PatchOk r p where
  edges : r.edges = edgesOf o
  known : Known r s
  run : ∀ s', AgrR r s s' → ∀ (a : Act) (w : World) (μ : List CB) (Pr : Nat → Prop) (Q : Exit → Act → World → Prop) (i : Nat), all[i]? = some o → Rel P s' a w μ Pr → wpOp P all.toArray Q i (After P (p.apply s') μ Pr w) a w

def NoDst (o : Oper) : Prop := ∀ t x y, o.op = .store t x y → o.dst = none

theorem voidP_ok {o : Oper} (hR : Rel P s a w μ Pr) : After P ((voidP o).apply s) μ Pr w (a.put o.dst undef) w := by
  have : (voidP o).apply s = setSlot s o.dst .void := by
    unfold voidP
    cases o.dst <;> simp [Patch.apply, setAll, modAll, setSlot]
  rw [this]
  exact ⟨μ, Pr, hR.setSlot P _ (show undef = undef from rfl), .refl _ _ _, .refl _⟩

theorem patchOk_of {all : List Oper} {o : Oper} {l : Log} (hsets : p.sets.all (fun x => some x.1 == o.dst) = true) : PatchOk (recOf all o s p l) p := by
  refine ⟨fun x hx => ⟨by have := List.all_eq_true.1 hsets x hx; simpa [recOf] using this, List.mem_append_left _ (List.mem_map.2 ⟨x, hx, rfl⟩)⟩, fun x hx => ⟨List.mem_map.2 ⟨x, hx, rfl⟩, List.mem_append_left _ (List.mem_append_left _ (List.mem_map.2 ⟨x, hx, rfl⟩))⟩,
    fun x hx => List.mem_map.2 ⟨x, hx, rfl⟩, fun hp => by simpa [recOf] using hp, fun b hb => List.mem_append_left _ (List.mem_append_right _ hb), fun k hk => List.mem_map.2 ⟨k, hk, rfl⟩, fun hf k hk => ?_⟩
  simp only [recOf] at hf
  cases hq : isFrz k.2 with
  | false => rfl
  | true =>
    have : (p.kill.any fun k => isFrz k.2) = true := List.any_eq_true.2 ⟨k, hk, hq⟩
    rw [hf] at this; cases this

theorem known_of {all : List Oper} {o : Oper} {l : Log} : Known (recOf all o s p l) s :=
  ⟨fun n hn => List.mem_append_right _ (List.mem_map.2 ⟨n, hn, rfl⟩), fun n hn => List.mem_append_right _ (List.mem_map.2 ⟨n, hn, rfl⟩)⟩

theorem step_true {all : List Oper} {o : Oper} {ps : List Prop} {l : Log} (hO : OrcOk P O) (hst : NoDst o) (hw : wantedV s all o = some true) (h : (evOp P wr (ICall P) lit o).runL O s sc = some (p, sc', ps, l)) (hps : ∀ q ∈ ps, q)
    (hsets : p.sets.all (fun x => some x.1 == o.dst) = true) : StepOk P all o s (recOf all o s p l) p := by
  refine ⟨patchOk_of hsets, rfl, known_of, fun s' hA a w μ Pr Q i hi hR => ?_⟩
  have hw' : wantedV s' all o = some true := by
    rw [wanted_frame (fun n hn => hA.1 n (List.mem_append_left _ hn)), hw]
  have hwt := wanted_ok hR hw'
  have hi' : all.toArray[i]? = some o := by simpa using hi
  unfold wpOp
  simp only [hi', hwt, if_true]
  exact .inl (evOp_ok hO hR hst (runL_hold h ⟨fun n hn => hA.1 n (List.mem_append_right _ hn), hA.2.1, hA.2.2.1, hA.2.2.2⟩ hps))

theorem step_false {all : List Oper} {o : Oper} (hw : wantedV s all o = some false) : StepOk P all o s (recOf all o s (voidP o) {}) (voidP o) := by
  refine ⟨patchOk_of ?_, rfl, known_of, fun s' hA a w μ Pr Q i hi hR => ?_⟩
  · unfold voidP; cases o.dst <;> simp
  · have hw' : wantedV s' all o = some false := by
      rw [wanted_frame (fun n hn => hA.1 n (List.mem_append_left _ hn)), hw]
    have hwt := wanted_ok hR hw'
    have hi' : all.toArray[i]? = some o := by simpa using hi
    unfold wpOp
    simp only [hi', hwt, Bool.false_eq_true, if_false]
    exact voidP_ok hR

def Chain (P : Program) (all : List Oper) : List Oper → St → List Rec → List Patch → St → Prop
  | [], s, [], [], s' => s' = s
  | o :: l, s, r :: rs, p :: ps, s' => StepOk P all o s r p ∧ Chain P all l (p.apply s) rs ps s'
  | _, _, _, _, _ => False

theorem evRecs_ok (hO : OrcOk P O) {all : List Oper} : ∀ {l : List Oper} {s s' : St} {sc sc' : Script} {ps : List Prop} {rs : List Rec}, (∀ o ∈ l, NoDst o) → evRecs P wr (ICall P) lit O all l s sc = some (s', sc', ps, rs) → (∀ q ∈ ps, q) →
    ∃ pp, Chain P all l s rs pp s'
  | [], s, s', sc, sc', ps, rs, _, h, _ => by
    simp only [evRecs, Option.some.injEq, Prod.mk.injEq] at h
    obtain ⟨rfl, _, _, rfl⟩ := h
    exact ⟨[], rfl⟩
  | o :: l, s, s', sc, sc', ps, rs, hd, h, hps => by
    simp only [evRecs] at h
    split at h
    · rename_i hw
      split at h
      · rename_i p sc1 ps1 lg he
        split at h
        · cases h
        · rename_i hsets
          split at h
          · rename_i s2 sc2 qs rs2 hr
            simp only [Option.some.injEq, Prod.mk.injEq] at h
            obtain ⟨rfl, rfl, rfl, rfl⟩ := h
            obtain ⟨pp, hc⟩ := evRecs_ok hO (fun x hx => hd x (List.mem_cons_of_mem _ hx)) hr (fun q hq => hps q (List.mem_append_right _ hq))
            exact ⟨p :: pp, step_true hO (hd o (List.mem_cons_self ..)) hw he (fun q hq => hps q (List.mem_append_left _ hq)) (by simpa using hsets), hc⟩
          · cases h
      · cases h
    · rename_i hw
      split at h
      · rename_i s2 sc2 qs rs2 hr
        simp only [Option.some.injEq, Prod.mk.injEq] at h
        obtain ⟨rfl, rfl, rfl, rfl⟩ := h
        obtain ⟨pp, hc⟩ := evRecs_ok hO (fun x hx => hd x (List.mem_cons_of_mem _ hx)) hr hps
        exact ⟨voidP o :: pp, step_false hw, hc⟩
      · cases h
    · cases h

/-! ### the order of the text -/

/-- The patches of some operations, applied. -/
def appI (pp : List Patch) (L : List Nat) (s : St) : St := L.foldl (fun s i => ((pp[i]?).getD {}).apply s) s

theorem appI_append (pp : List Patch) (L M : List Nat) (s : St) : appI pp (L ++ M) s = appI pp M (appI pp L s) := List.foldl_append ..
theorem appI_len (pp : List Patch) : ∀ (L : List Nat) (s : St), s.blks.length ≤ (appI pp L s).blks.length
  | [], s => Nat.le_refl _
  | i :: L, s => Nat.le_trans (apply_len _ s) (appI_len pp L _)

theorem chain_len {all : List Oper} : ∀ {l : List Oper} {s s' : St} {rs : List Rec} {pp : List Patch}, Chain P all l s rs pp s' → rs.length = l.length ∧ pp.length = l.length
  | [], s, s', [], [], h => ⟨rfl, rfl⟩
  | o :: l, s, s', r :: rs, p :: pp, h => by obtain ⟨h1, h2⟩ := chain_len h.2; simp [h1, h2]
  | [], _, _, _ :: _, _, h => h.elim
  | [], _, _, [], _ :: _, h => h.elim
  | _ :: _, _, _, [], _, h => h.elim
  | _ :: _, _, _, _ :: _, [], h => h.elim

theorem chain_get {all : List Oper} : ∀ {l : List Oper} {s s' : St} {rs : List Rec} {pp : List Patch}, Chain P all l s rs pp s' →
    (∀ (k : Nat) (o : Oper) (r : Rec) (p : Patch), l[k]? = some o → rs[k]? = some r → pp[k]? = some p → StepOk P all o ((pp.take k).foldl (fun s p => p.apply s) s) r p) ∧ s' = pp.foldl (fun s p => p.apply s) s
  | [], s, s', [], [], h => ⟨by simp, h⟩
  | o :: l, s, s', r :: rs, p :: pp, h => by
    obtain ⟨h1, h2⟩ := chain_get h.2
    refine ⟨fun k o' r' p' ho hr hp => ?_, h2⟩
    cases k with
    | zero => simp at ho hr hp; subst ho; subst hr; subst hp; exact h.1
    | succ k => exact h1 k o' r' p' (by simpa using ho) (by simpa using hr) (by simpa using hp)
  | [], _, _, _ :: _, _, h => h.elim
  | [], _, _, [], _ :: _, h => h.elim
  | _ :: _, _, _, [], _, h => h.elim
  | _ :: _, _, _, _ :: _, [], h => h.elim

theorem appI_range (pp : List Patch) (s : St) : ∀ k, k ≤ pp.length → appI pp (List.range k) s = (pp.take k).foldl (fun s p => p.apply s) s
  | 0, _ => rfl
  | k + 1, h => by
    rw [List.range_succ, appI_append, appI_range pp s k (by omega), List.take_add_one, List.foldl_append]
    have : pp[k]? = some pp[k] := List.getElem?_eq_getElem (by omega)
    simp [appI, this]

section
variable {pp : List Patch} {rs : List Rec} {n : Nat}

def PP (pp : List Patch) (i : Nat) : Patch := (pp[i]?).getD {}
/-- Two operations that stand apart. -/
def AP (rs : List Rec) (n i j : Nat) : Prop := ∃ x y, rs[i]? = some x ∧ rs[j]? = some y ∧ Apart n x y

variable (hok : ∀ i r, rs[i]? = some r → PatchOk r (PP pp i))
include hok

theorem ap_comm {i j : Nat} (h : AP rs n i j) (s : St) (hn : n ≤ s.blks.length) : (PP pp i).apply ((PP pp j).apply s) = (PP pp j).apply ((PP pp i).apply s) := by
  obtain ⟨x, y, hx, hy, h⟩ := h
  exact apart_comm h (hok i x hx) (hok j y hy) s hn

/-- One patch goes past others. -/
theorem ap_past {i : Nat} : ∀ {L : List Nat} (s : St), n ≤ s.blks.length → (∀ j ∈ L, AP rs n i j) → appI pp L ((PP pp i).apply s) = (PP pp i).apply (appI pp L s)
  | [], s, _, _ => rfl
  | j :: L, s, hn, h => by
    show appI pp L ((PP pp j).apply ((PP pp i).apply s)) = (PP pp i).apply (appI pp L ((PP pp j).apply s))
    rw [← ap_comm hok (h j (List.mem_cons_self ..)) s hn, ap_past _ (Nat.le_trans hn (apply_len _ s)) (fun k hk => h k (List.mem_cons_of_mem _ hk))]

/-- Those that are not done go behind those that are. -/
theorem ap_split (S : Nat → Bool) : ∀ {L : List Nat} (s : St), n ≤ s.blks.length → (L.Pairwise fun x y => S x = false → S y = true → AP rs n x y) → appI pp L s = appI pp (L.filter (fun x => !S x)) (appI pp (L.filter S) s)
  | [], s, _, _ => rfl
  | x :: L, s, hn, h => by
    rw [List.pairwise_cons] at h
    cases hx : S x with
    | true =>
      have e1 : (x :: L).filter S = x :: L.filter S := List.filter_cons_of_pos hx
      have e2 : (x :: L).filter (fun x => !S x) = L.filter (fun x => !S x) := List.filter_cons_of_neg (by simp [hx])
      rw [e1, e2]
      exact ap_split S _ (Nat.le_trans hn (apply_len _ s)) h.2
    | false =>
      have e1 : (x :: L).filter S = L.filter S := List.filter_cons_of_neg (by simp [hx])
      have e2 : (x :: L).filter (fun x => !S x) = x :: L.filter (fun x => !S x) := List.filter_cons_of_pos (by simp [hx])
      rw [e1, e2]
      show appI pp L ((PP pp x).apply s) = appI pp (L.filter (fun x => !S x)) ((PP pp x).apply (appI pp (L.filter S) s))
      rw [ap_split S _ (Nat.le_trans hn (apply_len _ s)) h.2, ap_past hok _ hn (fun j hj => h.1 j ((List.mem_filter.1 hj).1) hx (List.mem_filter.1 hj).2)]

/-- What stands apart changes nothing that is read. -/
theorem ap_agr {i : Nat} {y : Rec} (hy : rs[i]? = some y) : ∀ {L : List Nat} {s : St}, n ≤ s.blks.length → (∀ j ∈ L, AP rs n j i) → (Known y s ∨ Known y (appI pp L s)) → AgrR y s (appI pp L s)
  | [], s, _, _, _ => .refl
  | j :: L, s, hn, h, hK => by
    obtain ⟨x, y', hx, hy', hap⟩ := h j (List.mem_cons_self ..)
    rw [hy] at hy'; cases hy'
    have hn' := Nat.le_trans hn (apply_len (PP pp j) s)
    have ht : ∀ k ∈ L, AP rs n k i := fun k hk => h k (List.mem_cons_of_mem _ hk)
    rcases hK with hK | hK
    · have h1 := apart_agr hap.xy (hok j x hx) hn (.inl hK)
      exact h1.trans (ap_agr hy hn' ht (.inl (hK.agr h1)))
    · have h2 : AgrR y ((PP pp j).apply s) (appI pp L ((PP pp j).apply s)) := ap_agr hy hn' ht (.inr hK)
      exact (apart_agr hap.xy (hok j x hx) hn (.inr (Known.agr hK h2.symm))).trans h2
end

/-! ### behind what each stands -/

theorem befs_prefix : ∀ (rs : List Rec) (acc : List (List Nat)), ∃ t, befs acc rs = acc ++ t
  | [], acc => ⟨[], by simp [befs]⟩
  | r :: rs, acc => by
    obtain ⟨t, ht⟩ := befs_prefix rs (acc ++ [r.edges ++ r.edges.flatMap fun e => (acc[e]?).getD []])
    exact ⟨_, by rw [befs, ht, List.append_assoc]⟩

/-- Behind a done one all are done. -/
theorem befs_done {L : Nat → Prop} {all : List Rec} (hcl : ∀ (j : Nat) (r : Rec), all[j]? = some r → L j → ∀ e ∈ r.edges, L e) : ∀ {rs : List Rec} {acc : List (List Nat)} {dn : List Rec}, all = dn ++ rs → acc.length = dn.length →
    (∀ (k : Nat) (b : List Nat) (r : Rec), acc[k]? = some b → all[k]? = some r → (∀ e ∈ r.edges, L e) → ∀ i ∈ b, L i) →
    ∀ (k : Nat) (b : List Nat) (r : Rec), (befs acc rs)[k]? = some b → all[k]? = some r → (∀ e ∈ r.edges, L e) → ∀ i ∈ b, L i
  | [], acc, dn, _, _, h => h
  | x :: rs, acc, dn, ha, hl, h => by
    rw [befs]
    refine befs_done hcl (dn := dn ++ [x]) (by rw [ha]; simp) (by simp [hl]) fun k b r hb hr he i hi => ?_
    by_cases hk : k < acc.length
    · rw [List.getElem?_append_left hk] at hb
      exact h k b r hb hr he i hi
    · rw [List.getElem?_append_right (by omega)] at hb
      have hk2 : k - acc.length = 0 := by
        have := (List.getElem?_eq_some_iff.1 hb).1; simpa using this
      rw [hk2] at hb
      simp at hb
      subst hb
      have hkx : r = x := by
        have : k = dn.length := by omega
        rw [ha, this] at hr; simp at hr; exact hr.symm
      subst hkx
      rcases List.mem_append.1 hi with hi | hi
      · exact he i hi
      · obtain ⟨e, hee, hie⟩ := List.mem_flatMap.1 hi
        cases hae : acc[e]? with
        | none => rw [hae] at hie; simp at hie
        | some b' =>
          rw [hae] at hie
          have hele : e < all.length := by
            have := (List.getElem?_eq_some_iff.1 hae).1
            rw [ha]; simp; omega
          exact h e b' all[e] hae (List.getElem?_eq_getElem hele) (hcl e _ (List.getElem?_eq_getElem hele) (he e hee)) i hie

structure OrderOk (n : Nat) (rs : List Rec) : Prop where
  back : ∀ (k : Nat) (r : Rec), rs[k]? = some r → ∀ e ∈ r.edges, e < k
  pair : ∀ (i k : Nat), i < k → k < rs.length → (∀ (L : Nat → Prop), (∀ (j : Nat) (r : Rec), rs[j]? = some r → L j → ∀ e ∈ r.edges, L e) → (∀ r, rs[k]? = some r → ∀ e ∈ r.edges, L e) → L i) ∨ AP rs n i k

theorem orderB_ok {n : Nat} {rs : List Rec} (h : orderB n rs = true) : OrderOk n rs := by
  have key : ∀ k, k < rs.length → ∃ y b, rs[k]? = some y ∧ (befs [] rs)[k]? = some b ∧ (∀ e ∈ y.edges, e < k) ∧ ∀ i, i < k → b.contains i = true ∨ (∃ x, rs[i]? = some x ∧ apartB n x y = true) := by
    intro k hk
    simp only [orderB, List.all_eq_true, List.mem_range] at h
    have := h k hk
    split at this
    · rename_i y b hy hb
      simp only [Bool.and_eq_true, List.all_eq_true, decide_eq_true_eq, List.mem_range, Bool.or_eq_true] at this
      refine ⟨y, b, hy, hb, this.1, fun i hi => (this.2 i hi).imp_right fun h => ?_⟩
      split at h
      · rename_i x hx; exact ⟨x, hx, h⟩
      · cases h
    · cases this
  refine ⟨fun k r hr e he => ?_, fun i k hik hk => ?_⟩
  · obtain ⟨y, b, hy, _, h1, _⟩ := key k (List.getElem?_eq_some_iff.1 hr).1
    rw [hr] at hy; cases hy
    exact h1 e he
  · obtain ⟨y, b, hy, hb, _, h2⟩ := key k hk
    rcases h2 i hik with h | ⟨x, hx, h⟩
    · exact .inl fun L hcl hL => befs_done hcl (rs := rs) (acc := []) (dn := []) rfl rfl (by simp) k b y hb hy (hL y hy) i (by simpa using h)
    · exact .inr ⟨x, y, hx, hy, apart_of h⟩

end Go.Proofs.Ytbbefbgomdmldaa.Ab
