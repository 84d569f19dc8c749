/- Stores. -/
import Derived.Test.YtbbefbgomdmldaaAbsOpL
namespace Go.Proofs.Ytbbefbgomdmldaa.Ab
open Go
set_option linter.unusedVariables false
set_option linter.unusedSimpArgs false

variable {P : Program} {O : Orc} {s : St} {sc sc' : Script} {w w' : World} {Pr Pr' : Nat → Prop} {vw vw' : Nat → Option VW} {bl : List B} {μ : List CB} {a : Act}

theorem view_setSame {id : Nat} {b b' : B} {c : CB} (hb : bl[id]? = some b) (hc : μ[id]? = some c) (hv : vwOf b' c = vwOf b c) : view (bl.set id b') μ = view bl μ := by
  funext j
  unfold view
  rw [List.getElem?_set]
  by_cases hj : id = j
  · subst hj
    rw [if_pos rfl, if_pos (List.getElem?_eq_some_iff.1 hb).1, hb, hc]
    exact hv
  · rw [if_neg hj]

/-- A block's contents are others; what references see of it is not. -/
theorem Rel.setSame {id : Nat} {b b' : B} {c : CB} (h : Rel P s a w μ Pr) (hb : s.blks[id]? = some b) (hc : μ[id]? = some c) (hv : vwOf b' c = vwOf b c) (hS : Same w w' (· ∈ c.own))
    (hB : BRel P w' Pr (view s.blks μ) b' c) : Rel P ⟨s.slots, s.blks.set id b'⟩ a w' μ Pr ∧ Evo (owns μ) Pr w (owns μ) Pr w' := by
  have hco : ∀ q ∈ c.own, q ∈ owns μ := fun q hq => List.mem_flatMap.2 ⟨c, List.mem_of_getElem? hc, hq⟩
  have hev : Evo (owns μ) Pr w (owns μ) Pr w' := ⟨hS.os, hS.tape, hS.output, hS.size, fun q hq hno => hS.block q hq (fun hm => hno (hco q hm)), fun _ h => .inl h, fun _ h => h, fun _ h => .inl h⟩
  have hvw := view_setSame hb hc hv
  refine ⟨h.update P (fun _ => False) hev h.defers h.len (by simp [h.mu]) (fun j _ _ => by rw [hvw]) (fun n v hn => .inl ⟨hn, rfl, fun _ _ hF => hF⟩) (fun j x y hx hy => ?_) h.nodup (fun q hq => ⟨Nat.lt_of_lt_of_le (h.lt q hq).1 hS.size, (h.lt q hq).2⟩) (fun q hq => Nat.lt_of_lt_of_le (h.pr q hq) hS.size), hev⟩
  rw [hvw]
  by_cases hj : id = j
  · subst hj
    rw [List.getElem?_set_self (List.getElem?_eq_some_iff.1 hb).1] at hx
    cases hx
    rw [hc] at hy; cases hy
    exact .inr hB
  · rw [List.getElem?_set, if_neg hj] at hx
    refine .inl ⟨hx, hy, fun k hk => hS.block k (h.lt k (List.mem_flatMap.2 ⟨y, List.mem_of_getElem? hy, hk⟩)).1 (fun hkc => ?_), fun _ _ hF => hF⟩
    exact nodup_own h.nodup j id y c hy hc (fun e => hj e.symm) k hk hkc

theorem exec_store {o : Oper} {t : TypeId} {ao xo : Operand} {b off n : Nat} {cur : Array Value} {e : TypeId} (ho : o.op = .store t ao xo) (ha : a.eval ao = .pointer (some ⟨b, off, none⟩)) (hg : w.heap[b]? = some (.cells cur e (0, 0)))
    (hz : szOf P t = some n) (hn : (a.eval xo).cells.size = n) (hfit : off + n ≤ cur.size) (h1 : ∀ u ∈ (a.eval xo).cells.toList, u.oneCell' = true) :
    (execOp a.eval o).run P w = .ok .skip (w.setRow b (cur.toList.take off ++ (a.eval xo).cells.toList ++ cur.toList.drop (off + (a.eval xo).cells.toList.length)).toArray) := by
  have hst := run_storeCells_at P b off e (a.eval xo).cells.toList 0 cur w hg (by simp; omega) h1
  simp only [Nat.add_zero] at hst
  simp only [execOp, ho, Instr.storeAt, ha, Instr.sureAddr, Sem.run_bind, Sem.run_pure, Result.andThen_ok, storeVar, run_szOf hz]
  rw [if_neg (by omega)]
  simp only [Sem.run_pure, Result.andThen_ok, hst]

theorem setRow_same {b : Nat} {us : Array Value} : Same w (w.setRow b us) (· ∈ [b]) := ⟨rfl, rfl, rfl, by simp, fun k hk hn => setRow_other w b k _ (fun e => hn (by simp [e]))⟩

theorem put_undef (o : Oper) (h : Rel P s a w μ Pr) : ∀ d, o.dst = d → Rel P (setSlot s d .undef) (a.put d undef) w μ Pr := fun d _ => h.setSlot P d trivial

/-- Into a box. -/
theorem goes_storeBox {o : Oper} {t : TypeId} {ao xo : Operand} {id off sz : Nat} {v : V} {cs vs : List V} {Q : Exit → Act → World → Prop} (hR : Rel P s a w μ Pr) (ho : o.op = .store t ao xo) (hd : o.dst = none)
    (ha : VRel P w Pr (view s.blks μ) (.ptr id off) (a.eval ao)) (hv : VRel P w Pr (view s.blks μ) v (a.eval xo)) (hb : s.blks[id]? = some (.box cs)) (hc : cellsV v = some vs) (hz : szOf P t = some sz) (hl : vs.length = sz) (hfit : off + sz ≤ cs.length) :
    o.wp P a w (After P (({ bsets := [(id, .box (over cs off vs))] } : Patch).apply s) μ Pr w) Q := by
  obtain ⟨b, k1, hae⟩ := ha
  obtain ⟨b', cur, e, g1, g2, g3, g4⟩ := hR.toSRel.box hb
  rw [g2] at k1; cases k1
  have hx := cellsV_ok hc hv
  have hxl := hx.length
  have hcl := g4.length
  simp only [Array.length_toList] at hxl hcl
  have hrun := exec_store (P := P) (w := w) ho hae g3 hz (by omega) (by omega) (fun u hu => by
    obtain ⟨j, hj⟩ := List.getElem?_of_mem hu
    have hlt : j < vs.length := by rw [hx.length]; exact (List.getElem?_eq_some_iff.1 hj).1
    obtain ⟨y, hy, h1⟩ := hx.get j vs[j] (List.getElem?_eq_getElem hlt)
    rw [hj] at hy; cases hy; exact h1.2)
  have hpw : ∀ q, Pr q → (w.setRow b (cur.toList.take off ++ (a.eval xo).cells.toList ++ cur.toList.drop (off + (a.eval xo).cells.toList.length)).toArray).heap[q]? = w.heap[q]? :=
    fun q hq => setRow_other w b q _ (fun e => (hR.lt b (List.mem_flatMap.2 ⟨_, List.mem_of_getElem? g1, by simp [CB.own]⟩)).2 (e ▸ hq))
  have hov := over_ok g4 hx off
  have hov' : All2 (fun v u => VRel1 P (w.setRow b (cur.toList.take off ++ (a.eval xo).cells.toList ++ cur.toList.drop (off + (a.eval xo).cells.toList.length)).toArray) Pr (view s.blks μ) v u ∧ u.oneCell' = true) (over cs off vs) (cur.toList.take off ++ (a.eval xo).cells.toList ++ cur.toList.drop (off + (a.eval xo).cells.toList.length)).toArray.toList := by
    rw [List.toList_toArray]
    exact All2.mono (fun v u h => ⟨VRel1.mono P (fun _ h => h) hpw (fun _ _ _ => rfl) h.1, h.2⟩) hov
  have key := hR.setSame (b' := .box (over cs off vs)) hb g1 rfl (setRow_same (b := b)) ⟨_, e, setRow_heap w b cur _ e _ g3, hov'⟩
  unfold Oper.wp
  rw [hrun]
  refine ⟨μ, Pr, ?_, key.2, .refl _⟩
  have : (({ bsets := [(id, .box (over cs off vs))] } : Patch).apply s) = ⟨s.slots, s.blks.set id (.box (over cs off vs))⟩ := by simp [Patch.apply, setAll, modAll]
  rw [this, hd]
  exact key.1

theorem getElem?_over {α : Type} (l vs : List α) (off k : Nat) (h : off + vs.length ≤ l.length) : (l.take off ++ vs ++ l.drop (off + vs.length))[k]? = if k < off then l[k]? else if k < off + vs.length then vs[k - off]? else l[k]? := by
  by_cases h1 : k < off
  · rw [if_pos h1, List.append_assoc, List.getElem?_append_left (by simp; omega), List.getElem?_take_of_lt h1]
  · rw [if_neg h1]
    by_cases h2 : k < off + vs.length
    · rw [if_pos h2, List.getElem?_append_left (by simp; omega), List.getElem?_append_right (by simp; omega)]
      congr 1; simp; omega
    · rw [if_neg h2, List.getElem?_append_right (by simp; omega), List.getElem?_drop]
      congr 1; simp; omega

theorem take_over {α : Type} (l vs : List α) (off m : Nat) (h : off + vs.length ≤ m) (hm : m ≤ l.length) : (l.take off ++ vs ++ l.drop (off + vs.length)).take m = (l.take m).take off ++ vs ++ (l.take m).drop (off + vs.length) := by
  apply List.ext_getElem?
  intro k
  rw [getElem?_over _ _ _ _ (by simp; omega), List.getElem?_take]
  by_cases hk : k < m
  · rw [if_pos hk, getElem?_over _ _ _ _ (by omega), List.getElem?_take_of_lt hk]
  · rw [if_neg hk, if_neg (by omega), if_neg (by omega), List.getElem?_take, if_neg hk]

theorem modify_lst {l : List B} {id i e : Nat} {x : D} {xs : List D} (hb : l[id]? = some (.lst e xs)) : l.modify id (modB i x) = l.set id (.lst e (xs.set i x)) := by
  apply List.ext_getElem?
  intro k
  rw [List.getElem?_modify, List.getElem?_set]
  by_cases hk : id = k
  · subst hk
    have := (List.getElem?_eq_some_iff.1 hb).1
    rw [if_pos rfl, if_pos this, hb]; simp [modB]
  · rw [if_neg hk]; cases l[k]? <;> simp [hk]

/-- Into a list's element. -/
theorem goes_storeEl {o : Oper} {t : TypeId} {ao xo : Operand} {id i sub e wd : Nat} {xs : List D} {x' : D} {Q : Exit → Act → World → Prop} (hR : Rel P s a w μ Pr) (ho : o.op = .store t ao xo) (hd : o.dst = none)
    (ha : VRel P w Pr (view s.blks μ) (.eptr id i sub) (a.eval ao)) (hb : s.blks[id]? = some (.lst e xs)) (hzt : szOf P t = some (a.eval xo).cells.size) (hze : szOf P e = some wd)
    (hx1 : x'.cells.length = wd) (hfit : sub + (a.eval xo).cells.size ≤ wd) (hone : ∀ u ∈ (a.eval xo).cells.toList, u.oneCell' = true)
    (hnew : ∀ (j : Nat) (y : D), x'.cells[j]? = some y → (∃ u, sub ≤ j ∧ (a.eval xo).cells[j - sub]? = some u ∧ DRel w Pr y u) ∨ ((j < sub ∨ sub + (a.eval xo).cells.size ≤ j) ∧ ∃ x, xs[i]? = some x ∧ x.cells[j]? = some y)) :
    o.wp P a w (After P (({ mods := [(id, i, x')] } : Patch).apply s) μ Pr w) Q := by
  obtain ⟨hh, wd', cs, g1, g2, g3, g4, g5⟩ := hR.toSRel.lst hb
  rw [hze] at g3; cases g3
  rcases ha with ⟨e', n, b, cap, wd2, k1, k2, k3, hae⟩ | ⟨s', lens, b, cap, inner, k1, k2, k3, hae⟩
  · rw [g2] at k1; cases k1
    rw [hze] at k3; cases k3
    rcases g4.2 with ⟨hv, _⟩ | ⟨g, c, cur, hv, hbg, hg, hnc, hcm, hcz, htake⟩
    · simp at hv
    · simp at hv
      obtain ⟨rfl, rfl⟩ := hv
      have hpos : (i + 1) * wd ≤ xs.length * wd := Nat.mul_le_mul_right _ k2
      rw [Nat.add_mul, Nat.one_mul] at hpos
      have hcap : xs.length * wd ≤ cap * wd := Nat.mul_le_mul_right _ hnc
      have hrun := exec_store (P := P) (w := w) ho hae hg hzt rfl (by omega) hone
      have hnp : ¬ Pr b := (hR.lt b (List.mem_flatMap.2 ⟨_, List.mem_of_getElem? g1, by simp [CB.own, H.own]⟩)).2
      generalize hvs : (a.eval xo).cells = vs at *
      obtain ⟨us, hus⟩ : ∃ us : Array Value, us = (cur.toList.take (i * wd + sub) ++ vs.toList ++ cur.toList.drop (i * wd + sub + vs.toList.length)).toArray := ⟨_, rfl⟩
      have husl : us.toList = cur.toList.take (i * wd + sub) ++ vs.toList ++ cur.toList.drop (i * wd + sub + vs.toList.length) := by rw [hus, List.toList_toArray]
      rw [← hus] at hrun
      clear hus
      have hpw : ∀ q, Pr q → (w.setRow b us).heap[q]? = w.heap[q]? := fun q hq => setRow_other w b q _ (fun e => hnp (e ▸ hq))
      have hlen : cs.length = xs.length * wd := g4.1
      have hcl : cur.toList.length = cur.size := by simp
      have hvl : vs.toList.length = vs.size := by simp
      have hussz : us.size = cur.size := by
        rw [← Array.length_toList, husl]
        simp only [List.length_append, List.length_take, List.length_drop]
        omega
      have htk := take_over cur.toList vs.toList (i * wd + sub) (xs.length * wd) (by omega) (by omega)
      have hget : ∀ k : Nat, (cs.take (i * wd + sub) ++ vs.toList ++ cs.drop (i * wd + sub + vs.toList.length))[k]? = if k < i * wd + sub then cs[k]? else if k < i * wd + sub + vs.toList.length then vs.toList[k - (i * wd + sub)]? else cs[k]? := fun k => getElem?_over _ _ _ _ (by omega)
      have hown : OwnR (w.setRow b us) e wd (.row b cap) (xs.set i x').length (cs.take (i * wd + sub) ++ vs.toList ++ cs.drop (i * wd + sub + vs.toList.length)) := by
        rw [List.length_set]
        refine ⟨?_, .inr ⟨b, cap, us, rfl, hbg, setRow_heap w b cur _ e _ hg, hnc, hcm, by omega, ?_⟩⟩
        · simp only [List.length_append, List.length_take, List.length_drop]; omega
        · rw [husl, htk, htake]
      have hrows : Rows' (w.setRow b us) Pr wd (xs.set i x') (cs.take (i * wd + sub) ++ vs.toList ++ cs.drop (i * wd + sub + vs.toList.length)) := by
        refine ⟨fun u hu => ?_, fun k y hy => ?_⟩
        · rcases List.mem_append.1 hu with hu | hu
          · rcases List.mem_append.1 hu with hu | hu
            · exact g5.1 u (List.mem_of_mem_take hu)
            · exact hone u hu
          · exact g5.1 u (List.mem_of_mem_drop hu)
        · rw [List.getElem?_set] at hy
          by_cases hik : i = k
          · subst hik
            rw [if_pos rfl, if_pos k2] at hy
            cases hy
            refine ⟨hx1, fun j d hd => ?_⟩
            have hj : j < wd := by rw [← hx1]; exact (List.getElem?_eq_some_iff.1 hd).1
            rw [hget]
            rcases hnew j d hd with ⟨u, h1, h2, h3⟩ | ⟨h1, x, h2, h3⟩
            · have hj2 := (Array.getElem?_eq_some_iff.1 h2).1
              refine ⟨u, ?_, h3.mono (fun _ h => h) hpw⟩
              rw [if_neg (by omega), if_pos (by omega), Array.getElem?_toList, ← h2]
              congr 1; omega
            · obtain ⟨u, q1, q2⟩ := (g5.2 i x h2).2 j d h3
              refine ⟨u, ?_, q2.mono (fun _ h => h) hpw⟩
              rcases h1 with h1 | h1
              · rw [if_pos (by omega)]; exact q1
              · rw [if_neg (by omega), if_neg (by omega)]; exact q1
          · rw [if_neg hik] at hy
            obtain ⟨q0, q1⟩ := g5.2 k y hy
            refine ⟨q0, fun j d hd => ?_⟩
            obtain ⟨u, q2, q3⟩ := q1 j d hd
            have hj : j < wd := by rw [← q0]; exact (List.getElem?_eq_some_iff.1 hd).1
            refine ⟨u, ?_, q3.mono (fun _ h => h) hpw⟩
            rw [hget]
            rcases Nat.lt_or_gt_of_ne hik with hlt | hlt
            · have : (i + 1) * wd ≤ k * wd := Nat.mul_le_mul_right _ hlt
              rw [Nat.add_mul, Nat.one_mul] at this
              rw [if_neg (by omega), if_neg (by omega)]; exact q2
            · have : (k + 1) * wd ≤ i * wd := Nat.mul_le_mul_right _ hlt
              rw [Nat.add_mul, Nat.one_mul] at this
              rw [if_pos (by omega)]; exact q2
      have key := hR.setSame (b' := .lst e (xs.set i x')) (w' := w.setRow b us) hb g1 (by simp [vwOf]) (setRow_same (b := b)) ⟨wd, _, hze, hown, hrows⟩
      unfold Oper.wp
      rw [hrun]
      refine ⟨μ, Pr, ?_, key.2, .refl _⟩
      have : (({ mods := [(id, i, x')] } : Patch).apply s) = ⟨s.slots, s.blks.set id (.lst e (xs.set i x'))⟩ := by simp [Patch.apply, setAll, modAll, modify_lst hb]
      rw [this, hd]
      exact key.1
  · rw [g2] at k1; cases k1

end Go.Proofs.Ytbbefbgomdmldaa.Ab
