/- Calls as operations; every operation. -/
import Derived.Test.YtbbefbgomdmldaaAbsCallF
namespace Go.Proofs.Ytbbefbgomdmldaa.Ab
open Go
set_option linter.unusedVariables false
set_option linter.unusedSimpArgs false

variable {P : Program} {O : Orc} {s : St} {sc sc' : Script} {w w' : World} {Pr Pr' : Nat → Prop} {vw vw' : Nat → Option VW} {bl : List B} {μ : List CB} {a : Act}
  {wr : Nat → Bool} {lit : Bool} {p : Patch} {Q : Exit → Act → World → Prop}

/-- What the oracle says is so. -/
def OrcOk (P : Program) (O : Orc) : Prop := ∀ f as bs r bs', O f as bs = some (r, bs') → ICall P f as bs r bs'

theorem seen_lt {ids : List Nat} {n : Nat} (h : ids.all (fun i => decide (i < n)) = true) : ∀ i ∈ ids, i < n := fun i hi => by
  have := List.all_eq_true.1 h i hi; simpa using this

theorem layV_nil {v : V} (h : (layV 0 v).2 = []) (n : Nat) : layV n v = (v, []) := by cases v <;> first | rfl | simp [layV] at h
theorem layL_nil : ∀ {cs : List V} {m : Nat}, (layL m cs).2 = [] → ∀ n, layL n cs = (cs, [])
  | [], _, _, n => rfl
  | c :: r, m, h, n => by
    simp only [layL, List.append_eq_nil_iff] at h
    have h1 : (layV 0 c).2 = [] := by have := h.1; cases c <;> first | rfl | simp [layV] at this
    simp only [layL, layV_nil h1, layL_nil h.2, List.nil_append]
theorem lay1_nil {v : V} {m : Nat} (h : (lay1 m v).2 = []) (n : Nat) : lay1 n v = (v, []) := by
  cases v <;> first | rfl | (simp [lay1, layV] at h; done) | skip
  simp only [lay1] at h ⊢
  rw [layL_nil h]
theorem layT_nil : ∀ {cs : List V} {m : Nat}, (layT m cs).2 = [] → ∀ n, layT n cs = (cs, [])
  | [], _, _, n => rfl
  | c :: r, m, h, n => by
    simp only [layT, List.append_eq_nil_iff] at h
    simp only [layT, lay1_nil h.1, layT_nil h.2, List.nil_append]
theorem lay_nil {v : V} {m : Nat} (h : (lay m v).2 = []) (n : Nat) : lay n v = (v, []) := by
  cases v with
  | tup cs => simp only [lay] at h ⊢; rw [layT_nil h]
  | _ => exact lay1_nil h n

theorem hold_done {dst : Option Nat} {r : V} {bsets : List (Nat × B)} {push : List B} {kill : List (Nat × KK)} (h : Hold O s (doneQ dst r bsets push kill) sc p sc') :
    p = { sets := (putP dst (lay (s.blks.length + push.length) r).1).sets, bsets := bsets, push := push ++ (lay (s.blks.length + push.length) r).2, kill := kill } := by
  unfold doneQ at h
  split at h
  · rename_i hl
    obtain ⟨rfl, _⟩ := hold_ret.1 h
    rw [lay_nil hl, List.append_nil]
  · rw [hold_nblk] at h
    exact (hold_ret.1 h).1

theorem op_callQ {o : Oper} {f : Nat} {as : List V} {vs : List Value} (hO : OrcOk P O) (hR : Rel P s a w μ Pr) (hrun : (execOp a.eval o).run P w = (callFunc f vs.toArray).run P w) (hvs : All2 (VRel P w Pr (view s.blks μ)) as vs)
    (h : Hold O s (callQ P wr (ICall P) o.dst f as) sc p sc') : o.wp P a w (After P (p.apply s) μ Pr w) Q := by
  unfold callQ at h
  split at h
  · exact (hold_fail.1 h).elim
  rename_i hcb
  rw [callable_run (by simpa using hcb)] at hrun
  have pure : ∀ {as2 : List V} {r : V} {sc : Script}, ICall P f as2 [] r [] → (All2 (VRel P w Pr (view [] [])) as2 vs ∨ (All2 (VRel P w (Lent Pr μ) (view [] [])) as2 vs ∧ r.safe = true)) →
      Hold O s (match map2 (fun _ => none) r with | some r => doneQ o.dst r [] [] [] | none => .fail) sc p sc' → o.wp P a w (After P (p.apply s) μ Pr w) Q := by
    intro as2 r sc hIC h1 h
    split at h
    · rename_i r' hr
      obtain rfl := hold_done h
      simp only [List.length_nil, Nat.add_zero, List.nil_append]
      exact goes_pure hR hrun hIC h1 hr
    · exact (hold_fail.1 h).elim
  have full : ∀ {ids : List Nat} {bs bs' : List B} {as2 : List V} {r : V} {sc : Script}, nodupB ids = true → mapBs (seen ids) (ids.map s.blk) = some bs → mapL1 (seen ids) as = some as2 → ICall P f as2 bs r bs' →
      Hold O s (fullQ o.dst ids r bs') sc p sc' → o.wp P a w (After P (p.apply s) μ Pr w) Q := by
    intro ids bs bs' as2 r sc hnd hbs has hIC h
    unfold fullQ at h
    rw [hold_nblk] at h
    split at h
    · exact (hold_fail.1 h).elim
    · rename_i hc
      simp only [not_or, Nat.not_lt, Bool.not_eq_false] at hc
      dsimp only at h
      split at h
      · rename_i r' bs'' hr hb
        obtain rfl := hold_done h
        exact goes_full hR hrun (nodupB_ok hnd) (seen_lt hc.2) hbs has hvs hIC hc.1 hr hb
      · exact (hold_fail.1 h).elim
  have orc : ∀ {sc : Script}, Hold O s (callOrc wr o.dst f as) sc p sc' → o.wp P a w (After P (p.apply s) μ Pr w) Q := by
    intro sc h
    unfold callOrc at h
    split at h
    · replace h := hold_bind.1 h
      obtain ⟨as2, sc1, h1, h⟩ := h
      rw [hold_call] at h
      obtain ⟨r, bs', ho, h⟩ := h
      have hIC := hO _ _ _ _ _ ho
      split at h
      · rename_i hc
        obtain ⟨g1, g2⟩ := toAL_ok (vw := view [] []) hR.toSRel hvs h1
        have hbe : bs' = [] := by simpa using hc.1
        subst hbe
        exact pure hIC (hc.2.imp g2 (fun h => ⟨g1, h⟩)) h
      · exact (hold_fail.1 h).elim
    · replace h := hold_bind.1 h
      obtain ⟨ids, sc1, h1, h⟩ := h
      split at h
      · exact (hold_fail.1 h).elim
      · rename_i hnd
        replace h := hold_bind.1 h
        obtain ⟨bs, sc2, h2, h⟩ := h
        obtain ⟨rfl, _⟩ := blksQ_ok h2
        split at h
        · rename_i as2 bs2 h3 h4
          rw [hold_call] at h
          obtain ⟨r, bs', ho, h⟩ := h
          exact full (by simpa using hnd) h4 h3 (hO _ _ _ _ _ ho) h
        · exact (hold_fail.1 h).elim
  rw [hold_pop] at h
  rcases h with ⟨_, h⟩ | ⟨it, u, _, h⟩
  · exact orc h
  · split at h
    · replace h := hold_bind.1 h
      obtain ⟨ds, sc1, h1, h⟩ := h
      obtain ⟨⟨hIC, hc⟩, h⟩ := hold_req.1 h
      obtain ⟨g1, g2⟩ := toDL_ok (vw := view [] []) hR.toSRel hvs h1
      exact pure hIC (hc.imp g2 (fun h => ⟨g1, h⟩)) h
    · exact orc h
    · split at h
      · exact (hold_fail.1 h).elim
      · rename_i hnd
        replace h := hold_bind.1 h
        obtain ⟨bs, sc2, h2, h⟩ := h
        obtain ⟨rfl, _⟩ := blksQ_ok h2
        split at h
        · rename_i as2 bs2 h3 h4
          obtain ⟨hIC, h⟩ := hold_req.1 h
          exact full (by simpa using hnd) h4 h3 hIC h
        · exact (hold_fail.1 h).elim
    · exact (hold_fail.1 h).elim
    · rename_i hno; cases hno

theorem methQ_ok (hS : SRel P s.blks w μ Pr) {t : TypeId} {v : V} {u : Value} {name : String} {f : Nat} {r : V} (hv : VRel P w Pr (view s.blks μ) v u) (h : Hold O s (methQ P t v name) sc (f, r) sc') (fuel : Nat) :
    ∃ x, (method (fuel + 1) t u name).run P w = .ok (f, x) w ∧ VRel P w Pr (view s.blks μ) r x := by
  unfold methQ at h
  split at h
  · rename_i i hi
    split at h
    · rename_i m hm
      split at h
      · rename_i hp
        have hpe : m.path = #[] := Array.size_eq_zero_iff.1 hp
        have hti : (typeInfo t).run P w = .ok i w := by simp [typeInfo, hi]
        split at h
        · rename_i f' e hf hu
          obtain ⟨he, _⟩ := hold_ret.1 h
          cases he
          refine ⟨u, ?_, hv⟩
          simp [method, hti, hm, hpe, hf, follow, receiverAt, run_und hu, Place.get]
        · rename_i f' e id off hf hu
          obtain ⟨x, sc1, h1, h2⟩ := hold_bind.1 h
          obtain ⟨he, _⟩ := hold_ret.1 h2
          cases he
          obtain ⟨z, g1, g2⟩ := loadV_ok hS hv h1
          obtain ⟨b, k1, k2⟩ := hv
          subst k2
          refine ⟨z, ?_, g2⟩
          have hw : ∀ x y : String, (Builtin.ssaWrapNilChk_ #[t] t #[.pointer (some ⟨b, off, none⟩), strVal x, strVal y]).run P w = .ok (.pointer (some ⟨b, off, none⟩)) w := fun _ _ => by rfl
          simp only [Instr.loadAt, Instr.sureAddr, Sem.run_bind, Sem.run_pure, Result.andThen_ok] at g1
          simp [method, hti, hm, hpe, hf, follow, receiverAt, run_und hu, Place.get, hw, asAddr, g1]
        · exact (hold_fail.1 h).elim
        · rename_i f' d hnp hf hu _
          obtain ⟨he, _⟩ := hold_ret.1 h
          cases he
          refine ⟨u, ?_, hv⟩
          simp [method, hti, hm, hpe, hf, follow, receiverAt, run_und hu, Place.get]
        · exact (hold_fail.1 h).elim
      · exact (hold_fail.1 h).elim
    · exact (hold_fail.1 h).elim
  · exact (hold_fail.1 h).elim


theorem op_call {o : Oper} {c : Call} (hO : OrcOk P O) (hR : Rel P s a w μ Pr) (ho : o.op = .call c) (h : Hold O s (evOp P wr (ICall P) lit o) sc p sc') : o.wp P a w (After P (p.apply s) μ Pr w) Q := by
  simp only [evOp, ho] at h
  replace h := hold_bind.1 h
  obtain ⟨vs, sc1, h1, h⟩ := h
  have hvs := opds_ok hR h1
  obtain ⟨callee, args, ats⟩ := c
  have hargs : args.map a.eval = (args.toList.map a.eval).toArray := by rw [← Array.toList_inj]; simp
  split at h
  · rename_i b hcal
    simp only at hcal
    subst hcal
    exact op_builtin hR ho h1 h
  · rename_i fo hcal
    simp only at hcal
    subst hcal
    replace h := hold_bind.1 h
    obtain ⟨fv, sc2, h2, h⟩ := h
    have hf := opd_ok hR h2
    split at h
    · rename_i f cap
      obtain ⟨us, hfe, hcap⟩ := hf
      refine op_callQ (vs := args.toList.map a.eval ++ us) hO hR ?_ (hvs.append (All2.mono (fun _ _ h => h.toV) hcap)) h
      simp only [execOp, ho, resolve, hfe, Deferred.ofValue, invoke, Sem.run_bind, Sem.run_pure, Result.andThen_ok]
      rw [hargs]
      congr 2
      simp
    · exact (hold_fail.1 h).elim
  · rename_i x name hcal
    simp only at hcal
    subst hcal
    replace h := hold_bind.1 h
    obtain ⟨xv, sc2, h2, h⟩ := h
    have hx := opd_ok hR h2
    split at h
    · rename_i t v
      replace h := hold_bind.1 h
      obtain ⟨⟨f, r⟩, sc3, h3, h⟩ := h
      obtain ⟨u, hxe, hv⟩ := hx
      obtain ⟨y, g1, g2⟩ := methQ_ok hR.toSRel hv.toV h3 (P.types.size + 99)
      refine op_callQ (vs := y :: args.toList.map a.eval) hO hR ?_ (show All2 (VRel P w Pr (view s.blks μ)) (r :: vs) (y :: args.toList.map a.eval) from ⟨g2, hvs⟩) h
      have hm : (method (P.types.size + Made.depth) t u name).run P w = .ok (f, y) w := g1
      have h0 : (#[Value.iface t u] ++ args.map a.eval)[0]? = some (Value.iface t u) := by
        rw [Array.getElem?_append_left (by simp)]
        rfl
      have h1 : (#[Value.iface t u] ++ args.map a.eval).extract 1 (#[Value.iface t u] ++ args.map a.eval).size = args.map a.eval := by
        apply Array.toList_inj.1
        simp
        rw [List.take_of_length_le (by simp)]
      have h2 : #[y] ++ args.map a.eval = (y :: args.toList.map a.eval).toArray := by rw [hargs]; simp
      simp only [execOp, ho, resolve, hxe, invoke, Sem.run_bind, Sem.run_pure, Result.andThen_ok, h0, h1]
      simp [callMethod, hm, h2]
    · exact (hold_fail.1 h).elim

/-- What an operation does is what the machine says. -/
theorem evOp_ok {o : Oper} (hO : OrcOk P O) (hR : Rel P s a w μ Pr) (hst : ∀ t x y, o.op = .store t x y → o.dst = none) (h : Hold O s (evOp P wr (ICall P) lit o) sc p sc') : o.wp P a w (After P (p.apply s) μ Pr w) Q := by
  cases ho : o.op with
  | move x => exact op_move hR (.inl ho) h
  | assign x => exact op_move hR (.inr ho) h
  | pick c x y => exact op_pick hR ho h
  | alloc t => exact op_alloc hR ho h
  | box t x => exact op_box hR ho h
  | build t ps => exact op_build hR ho h
  | buildSlice t n ps => exact op_buildSlice hR ho h
  | load t x => exact op_load hR ho h
  | store t x y => exact op_store hR ho (hst t x y ho) h
  | nilCheck x => exact op_nilCheck hR ho h
  | binOp op t x y yt => exact op_bin hR ho h
  | unOp op t x => exact op_un hR ho h
  | convert t u x => exact op_convert hR ho h
  | makeInterface t x => exact op_makeInterface hR ho h
  | makeFunc f x y => exact op_makeFunc hR ho h
  | makeSlice t x y => exact op_makeSlice hR ho h
  | slice t x l u m => exact op_slice hR ho h
  | fieldAddr t x i => exact op_fieldAddr hR ho h
  | field t x i => exact op_field hR ho h
  | indexAddr t x i => exact op_indexAddr hR ho h
  | index t x i => exact op_index hR ho h
  | typeAssert x t u b => exact op_typeAssert hR ho h
  | extract x i => exact op_extract hR ho h
  | call c => exact op_call hO hR ho h
  | _ => simp only [evOp, ho] at h; exact (hold_fail.1 h).elim

end Go.Proofs.Ytbbefbgomdmldaa.Ab
