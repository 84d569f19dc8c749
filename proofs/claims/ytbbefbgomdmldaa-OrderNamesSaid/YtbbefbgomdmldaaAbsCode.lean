/- Code: what the machine evaluates, the model does. -/
import Derived.Test.YtbbefbgomdmldaaAbsFrz
import Derived.Scope
namespace Go.Proofs.Ytbbefbgomdmldaa.Ab
open Go
set_option linter.unusedVariables false
set_option linter.unusedSimpArgs false

variable {P : Program} {O : Orc} {s s' : St} {sc sc' : Script} {w w' : World} {Pr Pr' : Nat → Prop} {bl : List B} {μ : List CB} {a : Act} {wr : Nat → Bool} {lit : Bool} {p : Patch}

theorem noDst_of {o : Oper} (h : noDstB o = true) : NoDst o := by
  intro t x y ho
  simp only [noDstB, ho] at h
  simpa using h

theorem evOps_ok (hO : OrcOk P O) {all : List Oper} {Q : Exit → Act → World → Prop} : ∀ {l : List Oper} {k : Nat} {s s' : St} {sc sc' : Script} {ps : List Prop} {a : Act} {w : World} {μ : List CB} {Pr : Nat → Prop},
    (∀ j, l[j]? = all[k + j]?) → (∀ o ∈ l, NoDst o) → evOps P wr (ICall P) lit O all l s sc = some (s', sc', ps) → (∀ q ∈ ps, q) → Rel P s a w μ Pr → (∀ a' w', After P s' μ Pr w a' w' → Q .normal a' w') →
    wpOps P all.toArray Q ((List.range l.length).map (k + ·)) a w
  | [], k, s, s', sc, sc', ps, a, w, μ, Pr, _, _, h, _, hR, hQ => by
    simp only [evOps, Option.some.injEq, Prod.mk.injEq] at h
    obtain ⟨rfl, _, _⟩ := h
    exact hQ a w ⟨μ, Pr, hR, .refl _ _ _, .refl _⟩
  | o :: l, k, s, s', sc, sc', ps, a, w, μ, Pr, hl, hd, h, hps, hR, hQ => by
    have h0 : all[k]? = some o := by simpa using (hl 0).symm
    have hi : all.toArray[k]? = some o := by simpa using h0
    have hl' : ∀ j, l[j]? = all[k + 1 + j]? := fun j => by have := hl (j + 1); rw [List.getElem?_cons_succ] at this; rw [this]; congr 1; omega
    have hd' : ∀ o ∈ l, NoDst o := fun x hx => hd x (List.mem_cons_of_mem _ hx)
    have hmap : (List.range (o :: l).length).map (k + ·) = k :: (List.range l.length).map (k + 1 + ·) := by
      rw [List.length_cons, List.range_succ_eq_map]
      simp only [List.map_cons, List.map_map, Nat.add_zero]
      congr 1
      apply List.map_congr_left
      intro x _; simp only [Function.comp]; omega
    rw [hmap, wpOps_cons]
    simp only [evOps] at h
    split at h
    · rename_i hw
      split at h
      · rename_i p sc1 ps1 he
        split at h
        · rename_i s2 sc2 qs hr
          simp only [Option.some.injEq, Prod.mk.injEq] at h
          obtain ⟨rfl, rfl, rfl⟩ := h
          unfold wpOp
          simp only [hi, wanted_ok hR hw, if_true]
          obtain ⟨μ0, Pr0, hR0, hev0, hk0⟩ := prep_ok hR o
          refine .inl (Oper.wp_mono (fun a1 w1 h1 => ?_) (evOp_ok (s := prep s o) (sc := sc) (sc' := sc1) (p := p) hO hR0 (hd o (List.mem_cons_self ..)) ⟨ps1, he, fun q hq => hps q (List.mem_append_left _ hq)⟩))
          obtain ⟨μ1, Pr1, hR1, hev, hk⟩ := h1
          exact evOps_ok hO hl' hd' hr (fun q hq => hps q (List.mem_append_right _ hq)) hR1 (fun a' w' h => hQ a' w' (After.trans hev0 hk0 (After.trans hev hk h)))
        · cases h
      · cases h
    · rename_i hw
      unfold wpOp
      simp only [hi, wanted_ok hR hw, Bool.false_eq_true, if_false]
      obtain ⟨μ1, Pr1, hR1, hev, hk⟩ := voidP_ok (o := o) hR
      exact evOps_ok hO hl' hd' h hps hR1 (fun a' w' h => hQ a' w' (After.trans hev hk h))
    · cases h

theorem region_ok (hO : OrcOk P O) (hm : P.follows .mixedOrders = true) {id : Nat} {ops : List Oper} {draw : Bool} {ps : List Prop} {Q : Exit → Act → World → Prop} (h : evRegion P wr (ICall P) lit O ops draw s sc = some (s', sc', ps)) (hps : ∀ q ∈ ps, q)
    (hR : Rel P s a w μ Pr) (hQ : ∀ a' w', After P s' μ Pr w a' w' → Q .normal a' w') : (Code.region id ops.toArray draw).wp P Q a w := by
  unfold evRegion at h
  split at h
  · cases h
  rename_i hd
  have hd' : ∀ o ∈ ops, NoDst o := fun o ho => noDst_of (List.all_eq_true.1 (by simpa using hd) o ho)
  split at h
  · rename_i hdr
    subst hdr
    split at h
    · rename_i s1 sc1 ps1 rs he
      split at h
      · rename_i hord
        simp only [Option.some.injEq, Prod.mk.injEq] at h
        obtain ⟨rfl, rfl, rfl⟩ := h
        obtain ⟨pp, hc⟩ := evRecs_ok hO hd' he hps
        have hq := quiet_drawn (Quiet.refl w Pr) (w.drawn + 1)
        have hR1 := hq.rel hR
        refine wp_region_any hm ?_
        have hnil : ∀ m j, Dn (Array.replicate m false) j = false := fun m j => by
          unfold Dn
          rw [Array.getD_eq_getD_getElem?, Array.getElem?_replicate]
          split <;> rfl
        have := drawn_any (μ := μ) (Pr := Pr) (w := { w with drawn := w.drawn + 1 }) (Q := Q) hc (orderB_ok hord) (fun a' w' h => hQ a' w' (After.trans (hq.evo _) (.refl _) h)) ops.toArray.size (Array.replicate ops.toArray.size false) a { w with drawn := w.drawn + 1 } (by simp)
          (fun j r _ hdn => by rw [hnil] at hdn; cases hdn) (by
            have : (List.range ops.length).filter (fun i => !Dn (Array.replicate ops.toArray.size false) i) = List.range ops.length := List.filter_eq_self.2 fun i _ => by simp [hnil]
            rw [this]; simp) (by
            have : (List.range ops.length).filter (Dn (Array.replicate ops.toArray.size false)) = [] := List.filter_eq_nil_iff.2 fun i _ => by simp [hnil]
            rw [this]
            exact ⟨μ, Pr, hR1, .refl _ _ _, .refl _⟩)
        exact this
      · cases h
    · cases h
  · rename_i hdr
    have hdf : draw = false := by simpa using hdr
    subst hdf
    refine wp_region ?_
    have := evOps_ok (Q := Q) hO (all := ops) (l := ops) (k := 0) (fun j => by rw [Nat.zero_add]) hd' h hps hR hQ
    simpa using this

/-! ### loops -/

/-- A loop at its head. -/
def LoopWp (P : Program) (c : Code) (Q : Exit → Act → World → Prop) (a : Act) (w : World) : Prop :=
  ∀ (b : Frame) (k : List Item) (cs : List Frame), ∃ e a' w', Q e a' w' ∧ Arrives P (lone (b.at a (.code c :: .inLoop c :: k)) cs w) b k cs e a' w'

theorem wp_of_loop {c : Code} {Q : Exit → Act → World → Prop} (h : LoopWp P c Q a w) : (Code.loop c).wp P Q a w :=
  fun b k cs => let ⟨e, a', w', q, r⟩ := h b k cs; ⟨e, a', w', q, .of_steps (.one step_loop) r⟩

theorem loop_round {c : Code} {Q : Exit → Act → World → Prop} (h : c.wp P (Exit.then (LoopWp P c Q) Q) a w) : LoopWp P c Q a w := by
  intro b k cs
  obtain ⟨e, a₁, w₁, hq, harr⟩ := h b (.inLoop c :: k) cs
  cases e with
  | normal =>
    obtain ⟨e₂, a₂, w₂, hq₂, harr₂⟩ := hq b k cs
    exact ⟨e₂, a₂, w₂, hq₂, .of_steps (Steps.trans harr (.one step_inLoop)) harr₂⟩
  | exit id => exact ⟨_, a₁, w₁, hq, .pass (x := .inLoop c) rfl (fun _ _ => .inl (by simp)) harr⟩
  | goto l => exact ⟨_, a₁, w₁, hq, .pass (x := .inLoop c) rfl (fun _ _ => .inl (by simp)) harr⟩
  | ret => exact ⟨_, a₁, w₁, hq, .pass (x := .inLoop c) rfl (fun _ _ => .inl (by simp)) harr⟩
  | panic ch => exact ⟨_, a₁, w₁, hq, .pass (x := .inLoop c) rfl (fun _ _ => .inl (by simp)) harr⟩
  | outgrown => exact ⟨_, a₁, w₁, hq, .pass (x := .inLoop c) rfl (fun _ _ => .inl (by simp)) harr⟩

theorem LoopWp.mono {c : Code} {Q Q' : Exit → Act → World → Prop} (h : LoopWp P c Q a w) (hq : ∀ e a w, Q e a w → Q' e a w) : LoopWp P c Q' a w :=
  fun b k cs => let ⟨e, a', w', q, r⟩ := h b k cs; ⟨e, a', w', hq _ _ _ q, r⟩

/-! ### code -/

def Ex.to : Ex → Exit
  | .normal => .normal
  | .exit id => .exit id
  | .ret => .ret

def Post (P : Program) (e : Ex) (s' : St) (μ : List CB) (Pr : Nat → Prop) (w : World) : Exit → Act → World → Prop := fun e' a' w' => e' = e.to ∧ After P s' μ Pr w a' w'

theorem Post.trans {e : Ex} {s' : St} {μ μ1 : List CB} {Pr Pr1 : Nat → Prop} {w w1 : World} (hev : Evo (owns μ) Pr w (owns μ1) Pr1 w1) (hk : Keep μ μ1) : ∀ e' a' w', Post P e s' μ1 Pr1 w1 e' a' w' → Post P e s' μ Pr w e' a' w' :=
  fun e' a' w' h => ⟨h.1, After.trans hev hk h.2⟩

theorem ev_ok (hO : OrcOk P O) (hm : P.follows .mixedOrders = true) : ∀ (n : Nat) (c : Code) {s s' : St} {sc sc' : Script} {e : Ex} {ps : List Prop}, ev P wr (ICall P) lit O n c s sc = some (e, s', sc', ps) → (∀ q ∈ ps, q) →
    ∀ (a : Act) (w : World) (μ : List CB) (Pr : Nat → Prop), Rel P s a w μ Pr → c.wp P (Post P e s' μ Pr w) a w ∧ ∀ b, c = .loop b → LoopWp P b (Post P e s' μ Pr w) a w
  | 0, c, s, s', sc, sc', e, ps, h, _, a, w, μ, Pr, _ => by simp [ev] at h
  | n + 1, c, s, s', sc, sc', e, ps, h, hps, a, w, μ, Pr, hR => by
    have done : ∀ {e : Ex}, Post P e s μ Pr w e.to a w := fun {e} => ⟨rfl, μ, Pr, hR, .refl _ _ _, .refl _⟩
    cases c with
    | skip =>
      simp only [ev, Option.some.injEq, Prod.mk.injEq] at h
      obtain ⟨rfl, rfl, _, _⟩ := h
      exact ⟨wp_skip done, fun b hb => by cases hb⟩
    | label l =>
      simp only [ev, Option.some.injEq, Prod.mk.injEq] at h
      obtain ⟨rfl, rfl, _, _⟩ := h
      exact ⟨wp_label done, fun b hb => by cases hb⟩
    | region id ops draw =>
      simp only [ev] at h
      split at h
      · rename_i s1 sc1 ps1 he
        simp only [Option.some.injEq, Prod.mk.injEq] at h
        obtain ⟨rfl, rfl, rfl, rfl⟩ := h
        exact ⟨region_ok (ops := ops.toList) hO hm he hps hR (fun a' w' h => ⟨rfl, h⟩), fun b hb => by cases hb⟩
      · cases h
    | seq x y =>
      simp only [ev] at h
      refine ⟨wp_seq ?_, fun b hb => by cases hb⟩
      split at h
      · rename_i s1 sc1 ps1 he
        split at h
        · rename_i e2 s2 sc2 qs he2
          simp only [Option.some.injEq, Prod.mk.injEq] at h
          obtain ⟨rfl, rfl, rfl, rfl⟩ := h
          refine wp_mono (ev_ok hO hm n x he (fun q hq => hps q (List.mem_append_left _ hq)) a w μ Pr hR).1 ?_
          rintro e' a' w' ⟨rfl, μ1, Pr1, hR1, hev, hk⟩
          exact wp_mono (ev_ok hO hm n y he2 (fun q hq => hps q (List.mem_append_right _ hq)) a' w' μ1 Pr1 hR1).1 (Post.trans hev hk)
        · cases h
      · rename_i hne
        refine wp_mono (ev_ok hO hm n x h hps a w μ Pr hR).1 ?_
        rintro e' a' w' ⟨rfl, hA⟩
        cases e with
        | normal => exact (hne _ _ _ h).elim
        | exit id => exact ⟨rfl, hA⟩
        | ret => exact ⟨rfl, hA⟩
    | cond c x y =>
      simp only [ev] at h
      refine ⟨?_, fun b hb => by cases hb⟩
      split at h
      · rename_i t
        have hs := slot_ok hR t
        split at h
        · rename_i ht
          rw [ht] at hs
          exact wp_cond_true (show a.eval (.tmp t) = .bool true from drel_bool (show DRel w Pr (.bool true) _ from hs)) (ev_ok hO hm n x h hps a w μ Pr hR).1
        · rename_i ht
          rw [ht] at hs
          exact wp_cond_false (show a.eval (.tmp t) = .bool false from drel_bool (show DRel w Pr (.bool false) _ from hs)) (ev_ok hO hm n y h hps a w μ Pr hR).1
        · cases h
      · exact wp_cond_true rfl (ev_ok hO hm n x h hps a w μ Pr hR).1
      · exact wp_cond_false rfl (ev_ok hO hm n y h hps a w μ Pr hR).1
      · cases h
    | block id x =>
      simp only [ev] at h
      refine ⟨wp_block ?_, fun b hb => by cases hb⟩
      split at h
      · rename_i j s1 sc1 ps1 he
        split at h
        · rename_i hj
          simp only [Option.some.injEq, Prod.mk.injEq] at h
          obtain ⟨rfl, rfl, rfl, rfl⟩ := h
          refine wp_mono (ev_ok hO hm n x he hps a w μ Pr hR).1 ?_
          rintro e' a' w' ⟨rfl, hA⟩
          simp only [Ex.to, Exit.inBlock, hj, if_true]
          exact ⟨rfl, hA⟩
        · rename_i hj
          simp only [Option.some.injEq, Prod.mk.injEq] at h
          obtain ⟨rfl, rfl, rfl, rfl⟩ := h
          refine wp_mono (ev_ok hO hm n x he hps a w μ Pr hR).1 ?_
          rintro e' a' w' ⟨rfl, hA⟩
          simp only [Ex.to, Exit.inBlock, hj, if_false]
          exact ⟨rfl, hA⟩
      · rename_i hne
        refine wp_mono (ev_ok hO hm n x h hps a w μ Pr hR).1 ?_
        rintro e' a' w' ⟨rfl, hA⟩
        cases e with
        | exit id => exact (hne _ _ _ _ h).elim
        | normal => exact ⟨rfl, hA⟩
        | ret => exact ⟨rfl, hA⟩
    | loop x =>
      have key : LoopWp P x (Post P e s' μ Pr w) a w := by
        simp only [ev] at h
        split at h
        · refine loop_round ?_
          split at h
          · rename_i s1 sc1 ps1 he
            split at h
            · rename_i e2 s2 sc2 qs he2
              simp only [Option.some.injEq, Prod.mk.injEq] at h
              obtain ⟨rfl, rfl, rfl, rfl⟩ := h
              refine wp_mono (ev_ok hO hm n x he (fun q hq => hps q (List.mem_append_left _ hq)) a w μ Pr hR).1 ?_
              rintro e' a' w' ⟨rfl, μ1, Pr1, hR1, hev, hk⟩
              exact ((ev_ok hO hm n (.loop x) he2 (fun q hq => hps q (List.mem_append_right _ hq)) a' w' μ1 Pr1 hR1).2 x rfl).mono (Post.trans hev hk)
            · cases h
          · rename_i hne
            refine wp_mono (ev_ok hO hm n x h hps a w μ Pr hR).1 ?_
            rintro e' a' w' ⟨rfl, hA⟩
            cases e with
            | normal => exact (hne _ _ _ h).elim
            | exit id => exact ⟨rfl, hA⟩
            | ret => exact ⟨rfl, hA⟩
        · cases h
      exact ⟨wp_of_loop key, fun b hb => by cases hb; exact key⟩
    | scope x =>
      simp only [ev] at h
      refine ⟨wp_scope_straight (wp_mono (ev_ok hO hm n x h hps a w μ Pr hR).1 ?_), fun b hb => by cases hb⟩
      rintro e' a' w' ⟨rfl, hA⟩
      cases e <;> exact ⟨rfl, hA⟩
    | exit id =>
      simp only [ev, Option.some.injEq, Prod.mk.injEq] at h
      obtain ⟨rfl, rfl, _, _⟩ := h
      exact ⟨wp_exit (done (e := .exit id)), fun b hb => by cases hb⟩
    | ret =>
      simp only [ev, Option.some.injEq, Prod.mk.injEq] at h
      obtain ⟨rfl, rfl, _, _⟩ := h
      exact ⟨wp_ret (done (e := .ret)), fun b hb => by cases hb⟩
    | _ => simp [ev] at h

end Go.Proofs.Ytbbefbgomdmldaa.Ab
