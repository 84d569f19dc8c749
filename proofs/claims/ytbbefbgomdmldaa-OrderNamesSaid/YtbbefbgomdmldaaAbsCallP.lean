/- Calls with plain data alone. -/
import Derived.Test.YtbbefbgomdmldaaAbsCall
namespace Go.Proofs.Ytbbefbgomdmldaa.Ab
open Go
set_option linter.unusedVariables false
set_option linter.unusedSimpArgs false

variable {P : Program} {O : Orc} {s : St} {sc sc' : Script} {w w' : World} {Pr Pr' : Nat → Prop} {vw vw' : Nat → Option VW} {bl : List B} {μ : List CB} {a : Act}
  {p : Patch} {Q : Exit → Act → World → Prop}

/-- What a function does, of blocks and arguments. -/
def ICall (P : Program) (f : Nat) (as : List V) (bs : List B) (r : V) (bs' : List B) : Prop :=
  ∀ (w : World) (Pr : Nat → Prop) (μ : List CB) (vs : List Value), SRel P bs w μ Pr → All2 (VRel P w Pr (view bs μ)) as vs →
    Calls P f vs.toArray w fun e w' => ∃ x μ' Pr', e = .returned x ∧ SRel P (bs' ++ (lay bs'.length r).2) w' μ' Pr' ∧ VRel P w' Pr' (view (bs' ++ (lay bs'.length r).2) μ') (lay bs'.length r).1 x ∧
      Evo (owns μ) Pr w (owns μ') Pr' w' ∧ Keep μ μ'

/-! ### lists read out -/

theorem OwnR.mono {e wd n : Nat} {h : H} {cs : List Value} (ho : OwnR w e wd h n cs) : OwnR w e wd h n cs := ho

/-- Memory that others own may be read. -/
def Lent (Pr : Nat → Prop) (μ : List CB) (b : Nat) : Prop := Pr b ∨ b ∈ owns μ

theorem toD0_ok (hS : SRel P s.blks w μ Pr) {v : V} {u : Value} {x : D} (hv : VRel0 P w Pr (view s.blks μ) v u) (h : Hold O s (toD0 v) sc x sc') : DRel w (Lent Pr μ) x u ∧ (refs0 v = [] → DRel w Pr x u) := by
  have hl : ∀ b, Pr b → Lent Pr μ b := fun b hb => .inl hb
  have both : DRel w Pr x u → DRel w (Lent Pr μ) x u ∧ (refs0 v = [] → DRel w Pr x u) := fun h => ⟨h.mono hl (fun _ _ => rfl), fun _ => h⟩
  unfold toD0 at h
  split at h
  · obtain ⟨rfl, _⟩ := hold_ret.1 h; exact both hv
  · obtain ⟨rfl, _⟩ := hold_ret.1 h
    obtain ⟨q, rfl⟩ := emp_val hv.toV
    exact both (.sl0 _ _)
  · obtain ⟨rfl, _⟩ := hold_ret.1 h
    obtain ⟨q, c, rfl⟩ := id hv
    exact both (.sl0 _ _)
  · rename_i id lo n
    rw [hold_blk] at h
    split at h
    · rename_i e ys hb
      obtain ⟨rfl, _⟩ := hold_ret.1 h
      obtain ⟨hh, wd, cs, g1, g2, g3, g4, g5⟩ := hS.lst (blk_some hb (by simp))
      obtain ⟨e', len, h', wd', a', cap, k1, k2, rfl, k4, k5, k6, k7⟩ := hv
      rw [g2] at k1; cases k1
      rw [g3] at k2; cases k2
      refine ⟨?_, by simp [refs0]⟩
      have hlen : ((ys.drop lo).take n).length = n := by simp; omega
      by_cases hn : n = 0
      · subst hn; rw [List.take_zero]; exact .sl0 _ _
      · cases hh with
        | zero a => have := row_nil g4; subst this; simp at k5; omega
        | row b c =>
          obtain rfl := k6 b c rfl (by omega)
          obtain ⟨q1, q2, q3⟩ := reads_of_row g4 g5
          have hb : Lent Pr μ b := .inr (List.mem_flatMap.2 ⟨_, List.mem_of_getElem? g1, by simp [CB.own, H.own]⟩)
          have := drel_of_reads (w := w) (Pr := Lent Pr μ) (b := b) (o := lo * wd) (cap := cap) (wd := wd) (xs := (ys.drop lo).take n) (Pr' := Pr) hb (by omega) ⟨fun i x hx => ?_, fun i x j y hx hy => ?_⟩
          · rw [hlen] at this; exact this
          · rw [List.getElem?_take] at hx; split at hx
            · rw [List.getElem?_drop] at hx; exact q2 _ x hx
            · cases hx
          · rw [List.getElem?_take] at hx; split at hx
            · rw [List.getElem?_drop] at hx
              obtain ⟨u, r1, r2, r3⟩ := q3 _ x j y hx hy
              refine ⟨u, ?_, r2, r3.mono hl (fun _ _ => rfl)⟩
              rw [← r1]; congr 2; rw [Nat.add_mul]; omega
            · cases hx
    · exact (hold_fail.1 h).elim
  · rename_i id
    rw [hold_blk] at h
    split at h
    · rename_i e ys hb
      obtain ⟨rfl, _⟩ := hold_ret.1 h
      obtain ⟨hh, wd, cs, g1, g2, g3, g4, g5⟩ := hS.lst (blk_some hb (by simp))
      rcases hv with ⟨e', n, h', k1, k2⟩ | ⟨s', lens, b, cap, inner, k1, k2⟩
      · rw [g2] at k1; cases k1
        refine ⟨?_, by simp [refs0]⟩
        subst k2
        cases hh with
        | zero a => have := row_nil g4; subst this; exact .sl0 _ _
        | row b c =>
          obtain ⟨q1, q2, q3⟩ := reads_of_row g4 g5
          exact drel_of_reads (Pr' := Pr) (.inr (List.mem_flatMap.2 ⟨_, List.mem_of_getElem? g1, by simp [CB.own, H.own]⟩)) q1 ⟨q2, fun i x j y hx hy => let ⟨u, r1, r2, r3⟩ := q3 i x j y hx hy; ⟨u, r1, r2, r3.mono hl (fun _ _ => rfl)⟩⟩
      · rw [g2] at k1; cases k1
    · exact (hold_fail.1 h).elim
  · exact (show False from hv).elim
  · exact (hold_fail.1 h).elim

theorem toDs_ok (hS : SRel P s.blks w μ Pr) : ∀ {cs : List V} {us : List Value} {xs : List D} {sc sc' : Script}, All2 (fun c u => VRel0 P w Pr (view s.blks μ) c u ∧ u.oneCell' = true) cs us → Hold O s (toDs cs) sc xs sc' →
    xs.length = us.length ∧ (∀ (j : Nat) (d : D) (v : Value), xs[j]? = some d → us[j]? = some v → DRel w (Lent Pr μ) d v) ∧ (cs.flatMap refs0 = [] → ∀ (j : Nat) (d : D) (v : Value), xs[j]? = some d → us[j]? = some v → DRel w Pr d v)
  | [], us, xs, sc, sc', hv, h => by
    obtain ⟨rfl, _⟩ := hold_ret.1 h
    cases us with
    | nil => exact ⟨rfl, by simp, by simp⟩
    | cons _ _ => exact hv.elim
  | c :: r, us, xs, sc, sc', hv, h => by
    cases us with
    | nil => exact hv.elim
    | cons u us =>
      obtain ⟨x, sc1, h1, h2⟩ := hold_bind.1 h
      obtain ⟨ys, sc2, h3, h4⟩ := hold_bind.1 h2
      obtain ⟨rfl, _⟩ := hold_ret.1 h4
      obtain ⟨g1, g2⟩ := toD0_ok hS hv.1.1 h1
      obtain ⟨g3, g4, g5⟩ := toDs_ok hS hv.2 h3
      refine ⟨by simp [g3], fun j d v hd hv => ?_, fun hr j d v hd hv => ?_⟩
      · cases j with
        | zero => simp at hd hv; subst hd; subst hv; exact g1
        | succ j => exact g4 j d v (by simpa using hd) (by simpa using hv)
      · rw [List.flatMap_cons, List.append_eq_nil_iff] at hr
        cases j with
        | zero => simp at hd hv; subst hd; subst hv; exact g2 hr.1
        | succ j => exact g5 hr.2 j d v (by simpa using hd) (by simpa using hv)

theorem toD_ok (hS : SRel P s.blks w μ Pr) {v : V} {u : Value} {x : D} (hv : VRel P w Pr (view s.blks μ) v u) (h : Hold O s (toD v) sc x sc') : DRel w (Lent Pr μ) x u ∧ (refs v = [] → DRel w Pr x u) := by
  have key : VRel0 P w Pr (view s.blks μ) v u → Hold O s (toD0 v) sc x sc' → refs v = refs0 v → DRel w (Lent Pr μ) x u ∧ (refs v = [] → DRel w Pr x u) := fun h1 h2 e => by rw [e]; exact toD0_ok hS h1 h2
  cases v with
  | agg cs =>
    obtain ⟨xs, sc1, h1, h2⟩ := hold_bind.1 h
    obtain ⟨rfl, _⟩ := hold_ret.1 h2
    obtain ⟨us, rfl, hall⟩ := hv
    obtain ⟨g1, g2, g3⟩ := toDs_ok hS hall h1
    have hone : ∀ v ∈ us, v.oneCell' = true := fun u hu => by
      obtain ⟨j, hj⟩ := List.getElem?_of_mem hu
      have hlt : j < cs.length := by rw [hall.length]; exact (List.getElem?_eq_some_iff.1 hj).1
      obtain ⟨y, hy, h1⟩ := hall.get j cs[j] (List.getElem?_eq_getElem hlt)
      rw [hj] at hy; cases hy; exact h1.2
    exact ⟨.agg xs us g1 hone g2, fun hr => .agg xs us g1 hone (g3 hr)⟩
  | tup vs => exact (hold_fail.1 h).elim
  | func f c => exact (hold_fail.1 h).elim
  | iface t y => exact (hold_fail.1 h).elim
  | _ => exact key hv h rfl

theorem toDL_ok (hS : SRel P s.blks w μ Pr) : ∀ {cs : List V} {us : List Value} {xs : List D} {sc sc' : Script}, All2 (VRel P w Pr (view s.blks μ)) cs us → Hold O s (toDL cs) sc xs sc' →
    All2 (VRel P w (Lent Pr μ) vw) (xs.map .d) us ∧ (cs.flatMap refs = [] → All2 (VRel P w Pr vw) (xs.map .d) us)
  | [], us, xs, sc, sc', hv, h => by
    obtain ⟨rfl, _⟩ := hold_ret.1 h
    cases us with
    | nil => exact ⟨trivial, fun _ => trivial⟩
    | cons _ _ => exact hv.elim
  | c :: r, us, xs, sc, sc', hv, h => by
    cases us with
    | nil => exact hv.elim
    | cons u us =>
      obtain ⟨x, sc1, h1, h2⟩ := hold_bind.1 h
      obtain ⟨ys, sc2, h3, h4⟩ := hold_bind.1 h2
      obtain ⟨rfl, _⟩ := hold_ret.1 h4
      obtain ⟨g1, g2⟩ := toD_ok hS hv.1 h1
      obtain ⟨g3, g4⟩ := toDL_ok hS hv.2 h3
      refine ⟨⟨g1, g3⟩, fun hr => ?_⟩
      rw [List.flatMap_cons, List.append_eq_nil_iff] at hr
      exact ⟨g2 hr.1, g4 hr.2⟩

/-! ### the same, nil kept -/

theorem toA0_ok (hS : SRel P s.blks w μ Pr) {v x : V} {u : Value} (hv : VRel0 P w Pr (view s.blks μ) v u) (h : Hold O s (toA0 v) sc x sc') : VRel0 P w (Lent Pr μ) vw x u ∧ (refs0 v = [] → VRel0 P w Pr vw x u) := by
  have key : Hold O s ((toD0 v).bind fun x => .ret (.d x)) sc x sc' → VRel0 P w (Lent Pr μ) vw x u ∧ (refs0 v = [] → VRel0 P w Pr vw x u) := by
    intro h
    obtain ⟨y, sc1, h1, h2⟩ := hold_bind.1 h
    obtain ⟨rfl, _⟩ := hold_ret.1 h2
    exact toD0_ok hS hv h1
  cases v with
  | emp b => obtain ⟨rfl, _⟩ := hold_ret.1 h; cases b <;> exact ⟨hv, fun _ => hv⟩
  | _ => exact key h

theorem toAs_ok (hS : SRel P s.blks w μ Pr) {R : Value → Prop} : ∀ {cs xs : List V} {us : List Value} {sc sc' : Script}, All2 (fun c u => VRel0 P w Pr (view s.blks μ) c u ∧ R u) cs us → Hold O s (toAs cs) sc xs sc' →
    All2 (fun c u => VRel0 P w (Lent Pr μ) vw c u ∧ R u) xs us ∧ (cs.flatMap refs0 = [] → All2 (fun c u => VRel0 P w Pr vw c u ∧ R u) xs us)
  | [], xs, us, sc, sc', hv, h => by
    obtain ⟨rfl, _⟩ := hold_ret.1 h
    cases us with
    | nil => exact ⟨trivial, fun _ => trivial⟩
    | cons _ _ => exact hv.elim
  | c :: r, xs, us, sc, sc', hv, h => by
    cases us with
    | nil => exact hv.elim
    | cons u us =>
      obtain ⟨x, sc1, h1, h2⟩ := hold_bind.1 h
      obtain ⟨ys, sc2, h3, h4⟩ := hold_bind.1 h2
      obtain ⟨rfl, _⟩ := hold_ret.1 h4
      obtain ⟨g1, g2⟩ := toA0_ok (vw := vw) hS hv.1.1 h1
      obtain ⟨g3, g4⟩ := toAs_ok hS hv.2 h3
      refine ⟨⟨⟨g1, hv.1.2⟩, g3⟩, fun hr => ?_⟩
      rw [List.flatMap_cons, List.append_eq_nil_iff] at hr
      exact ⟨⟨g2 hr.1, hv.1.2⟩, g4 hr.2⟩

theorem toA_ok (hS : SRel P s.blks w μ Pr) {v x : V} {u : Value} (hv : VRel P w Pr (view s.blks μ) v u) (h : Hold O s (toA v) sc x sc') : VRel P w (Lent Pr μ) vw x u ∧ (refs v = [] → VRel P w Pr vw x u) := by
  have key : VRel0 P w Pr (view s.blks μ) v u → Hold O s (toA0 v) sc x sc' → refs v = refs0 v → VRel P w (Lent Pr μ) vw x u ∧ (refs v = [] → VRel P w Pr vw x u) := fun h1 h2 e => by
    rw [e]; obtain ⟨g1, g2⟩ := toA0_ok (vw := vw) hS h1 h2; exact ⟨g1.toV, fun hr => (g2 hr).toV⟩
  cases v with
  | agg cs =>
    obtain ⟨xs, sc1, h1, h2⟩ := hold_bind.1 h
    obtain ⟨rfl, _⟩ := hold_ret.1 h2
    obtain ⟨us, rfl, hall⟩ := hv
    obtain ⟨g1, g2⟩ := toAs_ok (vw := vw) hS hall h1
    exact ⟨mkAgg_ok g1, fun hr => mkAgg_ok (g2 hr)⟩
  | tup vs => exact (hold_fail.1 (show Hold O s (.fail : Ab.Q V) sc x sc' from h)).elim
  | func f c => exact (hold_fail.1 (show Hold O s (.fail : Ab.Q V) sc x sc' from h)).elim
  | iface t y => exact (hold_fail.1 (show Hold O s (.fail : Ab.Q V) sc x sc' from h)).elim
  | _ => exact key hv h rfl

theorem toAL_ok (hS : SRel P s.blks w μ Pr) : ∀ {cs xs : List V} {us : List Value} {sc sc' : Script}, All2 (VRel P w Pr (view s.blks μ)) cs us → Hold O s (toAL cs) sc xs sc' →
    All2 (VRel P w (Lent Pr μ) vw) xs us ∧ (cs.flatMap refs = [] → All2 (VRel P w Pr vw) xs us)
  | [], xs, us, sc, sc', hv, h => by
    obtain ⟨rfl, _⟩ := hold_ret.1 h
    cases us with
    | nil => exact ⟨trivial, fun _ => trivial⟩
    | cons _ _ => exact hv.elim
  | c :: r, xs, us, sc, sc', hv, h => by
    cases us with
    | nil => exact hv.elim
    | cons u us =>
      obtain ⟨x, sc1, h1, h2⟩ := hold_bind.1 h
      obtain ⟨ys, sc2, h3, h4⟩ := hold_bind.1 h2
      obtain ⟨rfl, _⟩ := hold_ret.1 h4
      obtain ⟨g1, g2⟩ := toA_ok (vw := vw) hS hv.1 h1
      obtain ⟨g3, g4⟩ := toAL_ok hS hv.2 h3
      refine ⟨⟨g1, g3⟩, fun hr => ?_⟩
      rw [List.flatMap_cons, List.append_eq_nil_iff] at hr
      exact ⟨g2 hr.1, g4 hr.2⟩

/-! ### the call -/

theorem srel_nil {w : World} {Pr : Nat → Prop} (h : ∀ b, Pr b → b < w.heap.size) : SRel P [] w [] Pr :=
  ⟨rfl, by simp, by simp [owns], by simp [owns], h⟩

theorem view_append_right {bl bl2 : List B} {μ μ2 : List CB} (hl : μ.length = bl.length) (i : Nat) : view (bl ++ bl2) (μ ++ μ2) (bl.length + i) = view bl2 μ2 i := by
  unfold view
  rw [List.getElem?_append_right (by omega), List.getElem?_append_right (by omega)]
  have h1 : bl.length + i - bl.length = i := by omega
  have h2 : bl.length + i - μ.length = i := by omega
  rw [h1, h2]
theorem view_append_left {bl bl2 : List B} {μ μ2 : List CB} (hl : μ.length = bl.length) {i : Nat} (h : view bl μ i ≠ none) : view (bl ++ bl2) (μ ++ μ2) i = view bl μ i := by
  have hi : i < bl.length := by
    unfold view at h
    cases hb : bl[i]? with
    | none => simp [hb] at h
    | some x => exact (List.getElem?_eq_some_iff.1 hb).1
  unfold view
  rw [List.getElem?_append_left hi, List.getElem?_append_left (by omega)]

theorem nofr_of {fn : Func} {f : Nat} (hf : P.funcs[f]? = some fn) (hb : fn.body.isSome = true) (hn : (fn.name == "runtime.NumGoroutine") = false) (args : Array Value) : (callFunc f args).run P w = .ok (.enter f args) w := by
  have hn' : ¬ fn.name = "runtime.NumGoroutine" := by simpa using hn
  have hb' : ¬ fn.body = none := by intro h; simp [h] at hb
  simp [callFunc, hf, hn', hb']

theorem callable_run {f : Nat} (h : callable P f = true) (args : Array Value) : (callFunc f args).run P w = .ok (.enter f args) w := by
  unfold callable at h
  split at h
  · rename_i fn hf
    simp only [Bool.and_eq_true, Bool.not_eq_true'] at h
    exact nofr_of hf h.1 h.2 args
  · cases h

theorem goes_pure {o : Oper} {f : Nat} {as : List V} {vs : List Value} {r r' : V} (hR : Rel P s a w μ Pr) (hrun : (execOp a.eval o).run P w = .ok (.enter f vs.toArray) w) (hIC : ICall P f as [] r [])
    (has : All2 (VRel P w Pr (view [] [])) as vs ∨ (All2 (VRel P w (Lent Pr μ) (view [] [])) as vs ∧ r.safe = true)) (hm : map2 (fun _ => none) r = some r') :
    o.wp P a w (After P (({ sets := (putP o.dst (lay s.blks.length r').1).sets, push := (lay s.blks.length r').2 } : Patch).apply s) μ Pr w) Q := by
  obtain ⟨Pr2, hP2, hle, has2, hcase⟩ : ∃ Pr2 : Nat → Prop, (∀ b, Pr b → Pr2 b) ∧ (∀ b, Pr2 b → Lent Pr μ b) ∧ All2 (VRel P w Pr2 (view [] [])) as vs ∧ ((∀ b, Pr2 b → Pr b) ∨ r.safe = true) := by
    rcases has with h | ⟨h, hs⟩
    · exact ⟨Pr, fun _ h => h, fun _ h => .inl h, h, .inl fun _ h => h⟩
    · exact ⟨Lent Pr μ, fun _ h => .inl h, fun _ h => h, h, .inr hs⟩
  have hlt2 : ∀ b, Pr2 b → b < w.heap.size := fun b hb => by
    rcases hle b hb with h | h
    · exact hR.pr b h
    · exact (hR.lt b h).1
  unfold Oper.wp
  rw [hrun]
  refine Calls.mono (hIC w Pr2 [] vs (srel_nil hlt2) has2) ?_
  rintro e w' ⟨x, μ', Pr', rfl, hS, hx, hev, -⟩
  have hlay := lay_ok (P := P) (w := w') (Pr := Pr') (vw := view (lay 0 r).2 μ') (vw' := view (s.blks ++ (lay 0 r).2) (μ ++ μ')) (ρ := fun _ => none) (n := 0) (m := s.blks.length) (fun i j h => by cases h) hm
    (fun i _ _ => by rw [view_append_right hR.mu, Nat.zero_add])
  obtain ⟨hl1, hl2⟩ := hlay
  simp only [List.nil_append, List.length_nil] at hS hx
  let PN : Nat → Prop := fun b => Pr' b ∧ b ∉ owns μ
  have hin : ∀ b, Pr b → PN b := fun b hb => ⟨hev.prm b (hP2 b hb), fun hm => (hR.lt b hm).2 hb⟩
  have hsame : ∀ k, k < w.heap.size → w'.heap[k]? = w.heap[k]? := fun k hk => hev.block k hk (by simp [owns])
  have hown' : ∀ k ∈ owns μ', w.heap.size ≤ k := fun k hk => by
    rcases hev.own k hk with h | h
    · simp [owns] at h
    · exact h
  -- what is not lent may be read by all
  have hconv : (∀ b, Pr' b → PN b) ∨ r.safe = true := hcase.imp_left fun h b hb => ⟨hb, fun hm => by
    rcases hev.prn b hb with h1 | h1 | h1
    · exact (hR.lt b hm).2 (h b h1)
    · simp [owns] at h1
    · have := (hR.lt b hm).1; omega⟩
  have hEvo : Evo (owns μ) Pr w (owns (μ ++ μ')) PN w' := by
    refine ⟨hev.os, hev.tape, hev.output, hev.size, fun k hk _ => hsame k hk, fun k hk => ?_, hin, fun b hb => ?_⟩
    · rw [owns_append] at hk
      rcases List.mem_append.1 hk with hk | hk
      · exact .inl hk
      · exact .inr (hown' k hk)
    · rcases hev.prn b hb.1 with h | h | h
      · rcases hle b h with h | h
        · exact .inl h
        · exact (hb.2 h).elim
      · simp [owns] at h
      · exact .inr (.inr h)
  have hSN : SRel P (s.blks ++ (lay 0 r).2) w' (μ ++ μ') PN := by
    refine ⟨by simp [hR.mu, hS.mu], fun id b c hb hc => ?_, ?_, fun k hk => ?_, fun b hb => hS.pr b hb.1⟩
    · by_cases hid : id < s.blks.length
      · rw [List.getElem?_append_left hid] at hb
        rw [List.getElem?_append_left (by rw [hR.mu]; exact hid)] at hc
        exact (hR.blks id b c hb hc).mono P hin (fun b hb => hsame b (hR.pr b hb)) (fun k hk => hsame k (hR.lt k (List.mem_flatMap.2 ⟨c, List.mem_of_getElem? hc, hk⟩)).1) (fun i _ hne => view_append_left hR.mu hne)
      · rw [List.getElem?_append_right (by omega)] at hb
        rw [List.getElem?_append_right (by rw [hR.mu]; omega), hR.mu] at hc
        have hB := hS.blks _ b c hb hc
        obtain ⟨g1, g2⟩ := lay_listy 0 r b (List.mem_of_getElem? hb)
        exact brel_listy g1 hB (hconv.imp_right g2)
    · rw [owns_append, List.nodup_append]
      exact ⟨hR.nodup, hS.nodup, fun x hx y hy hxy => by have := (hR.lt x hx).1; have := hown' y hy; omega⟩
    · rw [owns_append] at hk
      rcases List.mem_append.1 hk with hk | hk
      · exact ⟨Nat.lt_of_lt_of_le (hR.lt k hk).1 hev.size, fun h => h.2 hk⟩
      · exact ⟨(hS.lt k hk).1, fun h => (hS.lt k hk).2 h.1⟩
  have hxN : VRel P w' PN (view (s.blks ++ (lay 0 r).2) (μ ++ μ')) (lay s.blks.length r').1 x := by
    rcases hconv with h | h
    · exact (hl2 x hx).mono P h (fun _ _ => rfl) (fun _ _ _ => rfl)
    · have hx' := lay_safe (P := P) (w' := w') (Pr' := PN) h hx
      exact (lay_ok (P := P) (w := w') (Pr := PN) (vw := view (lay 0 r).2 μ') (vw' := view (s.blks ++ (lay 0 r).2) (μ ++ μ')) (ρ := fun _ => none) (n := 0) (m := s.blks.length) (fun i j h => by cases h) hm
        (fun i _ _ => by rw [view_append_right hR.mu, Nat.zero_add])).2 x hx'
  have hRN : Rel P ⟨s.slots, s.blks ++ (lay 0 r).2⟩ a w' (μ ++ μ') PN := hR.ofStore rfl hSN hEvo (fun id hne => view_append_left hR.mu hne)
  refine ⟨μ ++ μ', PN, ?_, hEvo, .push _ _⟩
  have : ({ sets := (putP o.dst (lay s.blks.length r').1).sets, push := (lay s.blks.length r').2 } : Patch).apply s = setSlot ⟨s.slots, s.blks ++ (lay 0 r).2⟩ o.dst (lay s.blks.length r').1 := by
    rw [hl1]
    cases o.dst <;> simp [putP, Patch.apply, setAll, modAll, setSlot]
  rw [this]
  exact hRN.setSlot P _ hxN

end Go.Proofs.Ytbbefbgomdmldaa.Ab
