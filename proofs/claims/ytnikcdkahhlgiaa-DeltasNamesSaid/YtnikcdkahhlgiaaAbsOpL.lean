/- append, as an operation. -/
import Derived.Test.YtnikcdkahhlgiaaAbsOpK
namespace Go.Proofs.Ytnikcdkahhlgiaa.Ab
open Go
set_option linter.unusedVariables false
set_option linter.unusedSimpArgs false

variable {P : Program} {O : Orc} {s : St} {sc sc' : Script} {w w' : World} {Pr Pr' : Nat → Prop} {vw vw' : Nat → Option VW} {bl : List B} {μ : List CB} {a : Act}

theorem Same.pr {S : Nat → Prop} (hS : Same w w' S) (hlt : ∀ b, Pr b → b < w.heap.size) (hn : ∀ b, S b → ¬ Pr b) : ∀ b, Pr b → w'.heap[b]? = w.heap[b]? := fun b hb => hS.block b (hlt b hb) (fun h => hn b h hb)

theorem exec_append {o : Oper} {xo yo : Operand} {sT xT : TypeId} {r : Value} (ho : o.op = .call { callee := .builtin .append, args := #[xo, yo], argTypes := #[sT, xT] })
    (h : (Builtin.append_ #[sT, xT] o.type #[a.eval xo, a.eval yo]).run P w = .ok r w') : (execOp a.eval o).run P w = .ok (.value r) w' := by
  simp only [execOp, ho, resolve, invoke, builtin, Sem.run_bind, Sem.run_pure, Result.andThen_ok, List.map_toArray, List.map_cons, List.map_nil, h]

/-- A block that nobody owns becomes a list's. -/
theorem SRel.adopt (h : SRel P bl w μ Pr) {b : B} {c : CB} (hnd : c.own.Nodup) (hown : ∀ k ∈ c.own, k ∉ owns μ ∧ ¬ Pr k ∧ k < w.heap.size) (hB : BRel P w Pr (view (bl ++ [b]) (μ ++ [c])) b c) :
    SRel P (bl ++ [b]) w (μ ++ [c]) Pr := by
  refine ⟨by simp [h.mu], fun id x y hx hy => ?_, ?_, fun k hk => ?_, h.pr⟩
  · by_cases hid : id < bl.length
    · rw [List.getElem?_append_left hid] at hx
      rw [List.getElem?_append_left (by rw [h.mu]; exact hid)] at hy
      exact (h.blks id x y hx hy).mono P (fun _ h => h) (fun k hk => rfl) (fun k hk => rfl) (fun i _ hne => view_push h.mu hne)
    · have hid2 : id = bl.length := by
        have := (List.getElem?_eq_some_iff.1 hx).1; simp at this; omega
      subst hid2
      rw [List.getElem?_append_right (Nat.le_refl _)] at hx
      rw [List.getElem?_append_right (by rw [h.mu]; exact Nat.le_refl _)] at hy
      simp [h.mu] at hx hy
      subst hx; subst hy
      exact hB
  · rw [owns_append, owns_one, List.nodup_append]
    exact ⟨h.nodup, hnd, fun x hx y hy hxy => by subst hxy; exact (hown x hy).1 hx⟩
  · rw [owns_append, owns_one] at hk
    rcases List.mem_append.1 hk with hk | hk
    · exact h.lt k hk
    · exact ⟨(hown k hk).2.2, (hown k hk).2.1⟩

theorem apply_kill1 (s : St) (dst : Option Nat) (v : V) (id : Nat) (k : KK) (b : B) (hb : id < s.blks.length) :
    ({ putP dst v with bsets := [(id, b)], kill := [(id, k)] } : Patch).apply s = setSlot ⟨s.slots.map (kill1 id k), (s.blks.map (killB id k)).set id b⟩ dst v := by
  cases dst <;> simp [putP, Patch.apply, setAll, setSlot, St.kill]

theorem emp_val {b : Bool} {v : Value} (h : VRel P w Pr vw (.emp b) v) : ∃ q, v = hdr (.zero q) 0 := by
  cases b
  · obtain ⟨q, hq⟩ := h; exact ⟨q, hq⟩
  · exact ⟨none, h⟩

theorem goes_append {o : Oper} {xo yo : Operand} {sT xT : TypeId} {x y : V} {ys : List D} {p : Patch} {sc0 sc1 : Script} {Q : Exit → Act → World → Prop} (hR : Rel P s a w μ Pr)
    (ho : o.op = .call { callee := .builtin .append, args := #[xo, yo], argTypes := #[sT, xT] }) (hk : (∃ e', P.underlying xT = some (.slice e')) ∨ P.underlying xT = some .string)
    (hx : VRel P w Pr (view s.blks μ) x (a.eval xo)) (hy : VRel P w Pr (view s.blks μ) y (a.eval yo)) (h1 : Hold O s (items y) sc0 ys sc1) (h : Hold O s (appendQ P o.dst sT x ys) sc p sc') :
    o.wp P a w (After P (p.apply s) μ Pr w) Q := by
  unfold appendQ at h
  split at h
  · rename_i e he
    split at h
    · rename_i sz hz
      split at h
      · exact (hold_fail.1 h).elim
      · rename_i hrow
        simp only [Bool.not_eq_false] at hrow
        obtain ⟨i, z, hi, hiz, hzs, hsz, hzi, hbytes⟩ := rowOk_ok hrow
        rw [hz] at hzi; cases hzi
        replace h := widthsQ_ok h
        obtain ⟨hw, sc2, h⟩ := h
        obtain ⟨news, hsrc, hnews⟩ := src_of_items hR.toSRel hk hy h1 hw hsz
        split at h
        · -- an empty one
          obtain ⟨hm, sc3, h⟩ := roomQ_ok h
          rw [hold_nblk] at h
          obtain ⟨rfl, _⟩ := hold_ret.1 h
          obtain ⟨q, hq⟩ := emp_val hx
          obtain ⟨hh', w', hrun, hown, hS, hor⟩ := append_row (ty := o.type) (elemOf_und he) hi hiz hzs hsz (hh := .zero q) (n := 0) (cs := []) ⟨rfl, rfl⟩ (by simp) hsrc (by omega) hbytes
          rw [← hq] at hrun
          have hsame : ∀ k, k < w.heap.size → w'.heap[k]? = w.heap[k]? := fun k hk => hS.block k hk (by simp [H.own])
          have hpw : ∀ b, Pr b → w'.heap[b]? = w.heap[b]? := fun b hb => hsame b (hR.pr b hb)
          have hownq : ∀ k ∈ hh'.own, w.heap.size ≤ k ∧ k < w'.heap.size := by
            intro k hk
            rcases hor with rfl | ⟨cap, rfl, hlt⟩
            · simp [H.own] at hk
            · simp [H.own] at hk; omega
          simp only [Nat.zero_add, List.nil_append] at hown hrun
          refine goes_push (w' := w') (c := .lst hh') (x := hdr hh' ys.length) hR hS.os hS.tape hS.output hS.size hsame hh'.own_nodup hownq ⟨i.size, news, hz, hown, hsrc.one, fun k y hy => ⟨(hnews k y hy).1, fun j d hd => ?_⟩⟩ (exec_append ho hrun)
            (show VRel0 P w' Pr _ (.arr s.blks.length) _ from .inl ⟨e, ys.length, hh', view_last hR.mu, rfl⟩)
          obtain ⟨u, g1, g2⟩ := (hnews k y hy).2 j d hd
          exact ⟨u, g1, g2.mono (fun _ h => h) hpw⟩
        · -- a list
          rename_i id
          rw [hold_blk] at h
          split at h
          · rename_i e' xs hb
            split at h
            · rename_i hee; rw [hee] at hb; clear hee
              replace h := roomQ_ok h
              obtain ⟨hm, sc3, h⟩ := h
              obtain ⟨rfl, _⟩ := hold_ret.1 h
              have hbs := blk_some hb (by simp)
              obtain ⟨hh, wd, cs, g1, g2, g3, g4, g5⟩ := hR.toSRel.lst hbs
              rw [hz] at g3; cases g3
              rcases hx with ⟨e', n, h', k1, k2⟩ | ⟨s', lens, b, cap, inner, k1, k2⟩
              · rw [g2] at k1; cases k1
                obtain ⟨hh', w', hrun, hown, hS, hor⟩ := append_row (ty := o.type) (elemOf_und he) hi hiz hzs hsz g4 g5.1 hsrc hm hbytes
                rw [← k2] at hrun
                have hnp : ∀ b, b ∈ hh.own → ¬ Pr b := fun b hb => (hR.lt b (List.mem_flatMap.2 ⟨_, List.mem_of_getElem? g1, hb⟩)).2
                have hpw : ∀ b, Pr b → w'.heap[b]? = w.heap[b]? := hS.pr hR.pr hnp
                have hlt := (List.getElem?_eq_some_iff.1 hbs).1
                have hmt : id < μ.length := (List.getElem?_eq_some_iff.1 g1).1
                have hl : (xs ++ ys).length = xs.length + ys.length := by simp
                have key := hR.setList (k := .gone) (b' := .lst e (xs ++ ys)) (c' := .lst hh') hbs g1 (by simp [vwOf]) (by simp) hS hh'.own_nodup (fun q hq => by
                  rcases hor with rfl | ⟨cap, rfl, hlt⟩
                  · exact .inl hq
                  · simp [CB.own, H.own] at hq; exact .inr (by omega)) (by simp)
                  ⟨i.size, cs ++ news, hz, by rw [hl]; exact hown, rows_append (ownR_len g4) (g5.mono (fun _ h => h) hpw) hsrc.one (fun k y hy => ⟨(hnews k y hy).1, fun j d hd => by
                    obtain ⟨u, q1, q2⟩ := (hnews k y hy).2 j d hd
                    exact ⟨u, q1, q2.mono (fun _ h => h) hpw⟩⟩)⟩
                unfold Oper.wp
                rw [exec_append ho hrun]
                refine ⟨_, Pr, ?_, key.2, .set g1 (by simp)⟩
                rw [apply_kill1 _ _ _ _ _ _ hlt]
                refine key.1.setSlot P _ (show VRel0 P w' Pr _ (.arr id) _ from .inl ⟨_, _, hh', view_killSet_self hlt hmt, by rw [hl]⟩)
              · rw [g2] at k1; cases k1
            · exact (hold_fail.1 h).elim
          · exact (hold_fail.1 h).elim
        · exact (hold_fail.1 h).elim
    · exact (hold_fail.1 h).elim
  · exact (hold_fail.1 h).elim

end Go.Proofs.Ytnikcdkahhlgiaa.Ab
