/- Texts of this claim, one behind the other: Stores. .. -/
import Derived.Test.YtbamhlgkoimjoaaDoorWnA
import Derived.Lib.AppendZerosOnto
import Derived.Laws.Externs
import Derived.Orders
/- Stores. -/
namespace Go.Proofs.YtbamhlgkoimjoaaDoor.Ab
open Go
set_option linter.unusedVariables false
set_option linter.unusedSimpArgs false

variable {P : Program} {O : Orc} {s : St} {sc sc' : Script} {w w' : World} {Pr Pr' : Nat → Prop} {vw vw' : Nat → Option VW} {bl : List B} {μ : List CB} {a : Act}

theorem view_setSame {id : Nat} {b b' : B} {c : CB} (hb : bl[id]? = some b) (hc : μ[id]? = some c) (hv : vwOf b' c = vwOf b c) : view (bl.set id b') μ = view bl μ := by
  funext j
  unfold view
  rw [List.getElem?_set]
  by_cases hj : id = j
  · subst hj
    rw [if_pos rfl, if_pos (List.getElem?_eq_some_iff.1 hb).1, hb, hc]
    exact hv
  · rw [if_neg hj]

/-- A block's contents are others; what references see of it is not. -/
theorem Rel.setSame {id : Nat} {b b' : B} {c : CB} (h : Rel P s a w μ Pr) (hb : s.blks[id]? = some b) (hc : μ[id]? = some c) (hv : vwOf b' c = vwOf b c) (hS : Same w w' (· ∈ c.own))
    (hB : BRel P w' Pr (view s.blks μ) b' c) : Rel P ⟨s.slots, s.blks.set id b'⟩ a w' μ Pr ∧ Evo (owns μ) Pr w (owns μ) Pr w' := by
  have hco : ∀ q ∈ c.own, q ∈ owns μ := fun q hq => List.mem_flatMap.2 ⟨c, List.mem_of_getElem? hc, hq⟩
  have hev : Evo (owns μ) Pr w (owns μ) Pr w' := ⟨hS.os, hS.tape, hS.output, hS.size, fun q hq hno => hS.block q hq (fun hm => hno (hco q hm)), fun _ h => .inl h, fun _ h => h, fun _ h => .inl h⟩
  have hvw := view_setSame hb hc hv
  refine ⟨h.update P (fun _ => False) hev h.defers h.len (by simp [h.mu]) (fun j _ _ => by rw [hvw]) (fun n v hn => .inl ⟨hn, rfl, fun _ _ hF => hF⟩) (fun j x y hx hy => ?_) h.nodup (fun q hq => ⟨Nat.lt_of_lt_of_le (h.lt q hq).1 hS.size, (h.lt q hq).2⟩) (fun q hq => Nat.lt_of_lt_of_le (h.pr q hq) hS.size), hev⟩
  rw [hvw]
  by_cases hj : id = j
  · subst hj
    rw [List.getElem?_set_self (List.getElem?_eq_some_iff.1 hb).1] at hx
    cases hx
    rw [hc] at hy; cases hy
    exact .inr hB
  · rw [List.getElem?_set, if_neg hj] at hx
    refine .inl ⟨hx, hy, fun k hk => hS.block k (h.lt k (List.mem_flatMap.2 ⟨y, List.mem_of_getElem? hy, hk⟩)).1 (fun hkc => ?_), fun _ _ hF => hF⟩
    exact nodup_own h.nodup j id y c hy hc (fun e => hj e.symm) k hk hkc

theorem exec_store {o : Oper} {t : TypeId} {ao xo : Operand} {b off n : Nat} {cur : Array Value} {e : TypeId} (ho : o.op = .store t ao xo) (ha : a.eval ao = .pointer (some ⟨b, off, none⟩)) (hg : w.heap[b]? = some (.cells cur e (0, 0)))
    (hz : szOf P t = some n) (hn : (a.eval xo).cells.size = n) (hfit : off + n ≤ cur.size) (h1 : ∀ u ∈ (a.eval xo).cells.toList, u.oneCell' = true) :
    (execOp a.eval o).run P w = .ok .skip (w.setRow b (cur.toList.take off ++ (a.eval xo).cells.toList ++ cur.toList.drop (off + (a.eval xo).cells.toList.length)).toArray) := by
  have hst := run_storeCells_at P b off e (a.eval xo).cells.toList 0 cur w hg (by simp; omega) h1
  simp only [Nat.add_zero] at hst
  simp only [execOp, ho, Instr.storeAt, ha, Instr.sureAddr, Sem.run_bind, Sem.run_pure, Result.andThen_ok, storeVar, run_szOf hz]
  rw [if_neg (by omega)]
  simp only [Sem.run_pure, Result.andThen_ok, hst]

theorem setRow_same {b : Nat} {us : Array Value} : Same w (w.setRow b us) (· ∈ [b]) := ⟨rfl, rfl, rfl, by simp, fun k hk hn => setRow_other w b k _ (fun e => hn (by simp [e]))⟩

theorem put_undef (o : Oper) (h : Rel P s a w μ Pr) : ∀ d, o.dst = d → Rel P (setSlot s d .undef) (a.put d undef) w μ Pr := fun d _ => h.setSlot P d trivial

/-- Into a box. -/
theorem goes_storeBox {ty : Option Nat} {o : Oper} {t : TypeId} {ao xo : Operand} {id off sz : Nat} {v : V} {cs vs : List V} {Q : Exit → Act → World → Prop} (hR : Rel P s a w μ Pr) (ho : o.op = .store t ao xo) (hd : o.dst = none)
    (ha : VRel P w Pr (view s.blks μ) (.ptr id off) (a.eval ao)) (hv : VRel P w Pr (view s.blks μ) v (a.eval xo)) (hb : s.blks[id]? = some (.bx ty cs)) (hc : cellsV v = some vs) (hz : szOf P t = some sz) (hl : vs.length = sz) (hfit : off + sz ≤ cs.length) :
    o.wp P a w (After P (({ bsets := [(id, .bx ty (over cs off vs))] } : Patch).apply s) μ Pr w) Q := by
  obtain ⟨b, k1, hae⟩ := ha
  obtain ⟨b', cur, e, g1, g2, g3, g4, gt⟩ := hR.toSRel.boxT hb
  rw [g2] at k1; cases k1
  have hx := cellsV_ok hc hv
  have hxl := hx.length
  have hcl := g4.length
  simp only [Array.length_toList] at hxl hcl
  have hrun := exec_store (P := P) (w := w) ho hae g3 hz (by omega) (by omega) (fun u hu => by
    obtain ⟨j, hj⟩ := List.getElem?_of_mem hu
    have hlt : j < vs.length := by rw [hx.length]; exact (List.getElem?_eq_some_iff.1 hj).1
    obtain ⟨y, hy, h1⟩ := hx.get j vs[j] (List.getElem?_eq_getElem hlt)
    rw [hj] at hy; cases hy; exact h1.2)
  have hpw : ∀ q, Pr q → (w.setRow b (cur.toList.take off ++ (a.eval xo).cells.toList ++ cur.toList.drop (off + (a.eval xo).cells.toList.length)).toArray).heap[q]? = w.heap[q]? :=
    fun q hq => setRow_other w b q _ (fun e => (hR.lt b (List.mem_flatMap.2 ⟨_, List.mem_of_getElem? g1, by simp [CB.own]⟩)).2 (e ▸ hq))
  have hov := over_ok g4 hx off
  have hov' : All2 (fun v u => VRel1 P (w.setRow b (cur.toList.take off ++ (a.eval xo).cells.toList ++ cur.toList.drop (off + (a.eval xo).cells.toList.length)).toArray) Pr (view s.blks μ) v u ∧ u.oneCell' = true) (over cs off vs) (cur.toList.take off ++ (a.eval xo).cells.toList ++ cur.toList.drop (off + (a.eval xo).cells.toList.length)).toArray.toList := by
    rw [List.toList_toArray]
    exact All2.mono (fun v u h => ⟨VRel1.mono P (fun _ h => h) hpw (fun _ _ _ => rfl) h.1, h.2⟩) hov
  have key := hR.setSame (b' := .bx ty (over cs off vs)) hb g1 rfl (setRow_same (b := b)) ⟨_, e, setRow_heap w b cur _ e _ g3, gt, hov'⟩
  unfold Oper.wp
  rw [hrun]
  refine ⟨μ, Pr, ?_, key.2, .refl _⟩
  have : (({ bsets := [(id, .bx ty (over cs off vs))] } : Patch).apply s) = ⟨s.slots, s.blks.set id (.bx ty (over cs off vs))⟩ := by simp [Patch.apply, setAll, modAll]
  rw [this, hd]
  exact key.1

theorem getElem?_over {α : Type} (l vs : List α) (off k : Nat) (h : off + vs.length ≤ l.length) : (l.take off ++ vs ++ l.drop (off + vs.length))[k]? = if k < off then l[k]? else if k < off + vs.length then vs[k - off]? else l[k]? := by
  by_cases h1 : k < off
  · rw [if_pos h1, List.append_assoc, List.getElem?_append_left (by simp; omega), List.getElem?_take_of_lt h1]
  · rw [if_neg h1]
    by_cases h2 : k < off + vs.length
    · rw [if_pos h2, List.getElem?_append_left (by simp; omega), List.getElem?_append_right (by simp; omega)]
      congr 1; simp; omega
    · rw [if_neg h2, List.getElem?_append_right (by simp; omega), List.getElem?_drop]
      congr 1; simp; omega

theorem take_over {α : Type} (l vs : List α) (off m : Nat) (h : off + vs.length ≤ m) (hm : m ≤ l.length) : (l.take off ++ vs ++ l.drop (off + vs.length)).take m = (l.take m).take off ++ vs ++ (l.take m).drop (off + vs.length) := by
  apply List.ext_getElem?
  intro k
  rw [getElem?_over _ _ _ _ (by simp; omega), List.getElem?_take]
  by_cases hk : k < m
  · rw [if_pos hk, getElem?_over _ _ _ _ (by omega), List.getElem?_take_of_lt hk]
  · rw [if_neg hk, if_neg (by omega), if_neg (by omega), List.getElem?_take, if_neg hk]

theorem modify_lst {l : List B} {id i e : Nat} {x : D} {xs : List D} (hb : l[id]? = some (.lst e xs)) : l.modify id (modB i x) = l.set id (.lst e (xs.set i x)) := by
  apply List.ext_getElem?
  intro k
  rw [List.getElem?_modify, List.getElem?_set]
  by_cases hk : id = k
  · subst hk
    have := (List.getElem?_eq_some_iff.1 hb).1
    rw [if_pos rfl, if_pos this, hb]; simp [modB]
  · rw [if_neg hk]; cases l[k]? <;> simp [hk]

/-- Into a list's element. -/
theorem goes_storeEl {o : Oper} {t : TypeId} {ao xo : Operand} {id i sub e wd : Nat} {xs : List D} {x' : D} {Q : Exit → Act → World → Prop} (hR : Rel P s a w μ Pr) (ho : o.op = .store t ao xo) (hd : o.dst = none)
    (ha : VRel P w Pr (view s.blks μ) (.eptr id i sub) (a.eval ao)) (hb : s.blks[id]? = some (.lst e xs)) (hzt : szOf P t = some (a.eval xo).cells.size) (hze : szOf P e = some wd)
    (hx1 : x'.cells.length = wd) (hfit : sub + (a.eval xo).cells.size ≤ wd) (hone : ∀ u ∈ (a.eval xo).cells.toList, u.oneCell' = true)
    (hnew : ∀ (j : Nat) (y : D), x'.cells[j]? = some y → (∃ u, sub ≤ j ∧ (a.eval xo).cells[j - sub]? = some u ∧ DRel w Pr y u) ∨ ((j < sub ∨ sub + (a.eval xo).cells.size ≤ j) ∧ ∃ x, xs[i]? = some x ∧ x.cells[j]? = some y)) :
    o.wp P a w (After P (({ mods := [(id, i, x')] } : Patch).apply s) μ Pr w) Q := by
  obtain ⟨hh, wd', cs, g1, g2, g3, g4, g5⟩ := hR.toSRel.lst hb
  rw [hze] at g3; cases g3
  rcases ha with ⟨e', n, b, cap, wd2, k1, k2, k3, hae⟩ | ⟨s', lens, b, cap, inner, k1, k2, k3, hae⟩ | ⟨b, k1, hae⟩
  rotate_left 2
  · rw [g2] at k1; cases k1
  · rw [g2] at k1; cases k1
    rw [hze] at k3; cases k3
    rcases g4.2 with ⟨hv, _⟩ | ⟨g, c, cur, hv, hbg, hg, hnc, hcm, hcz, htake⟩
    · simp at hv
    · simp at hv
      obtain ⟨rfl, rfl⟩ := hv
      have hpos : (i + 1) * wd ≤ xs.length * wd := Nat.mul_le_mul_right _ k2
      rw [Nat.add_mul, Nat.one_mul] at hpos
      have hcap : xs.length * wd ≤ cap * wd := Nat.mul_le_mul_right _ hnc
      have hrun := exec_store (P := P) (w := w) ho hae hg hzt rfl (by omega) hone
      have hnp : ¬ Pr b := (hR.lt b (List.mem_flatMap.2 ⟨_, List.mem_of_getElem? g1, by simp [CB.own, H.own]⟩)).2
      generalize hvs : (a.eval xo).cells = vs at *
      obtain ⟨us, hus⟩ : ∃ us : Array Value, us = (cur.toList.take (i * wd + sub) ++ vs.toList ++ cur.toList.drop (i * wd + sub + vs.toList.length)).toArray := ⟨_, rfl⟩
      have husl : us.toList = cur.toList.take (i * wd + sub) ++ vs.toList ++ cur.toList.drop (i * wd + sub + vs.toList.length) := by rw [hus, List.toList_toArray]
      rw [← hus] at hrun
      clear hus
      have hpw : ∀ q, Pr q → (w.setRow b us).heap[q]? = w.heap[q]? := fun q hq => setRow_other w b q _ (fun e => hnp (e ▸ hq))
      have hlen : cs.length = xs.length * wd := g4.1
      have hcl : cur.toList.length = cur.size := by simp
      have hvl : vs.toList.length = vs.size := by simp
      have hussz : us.size = cur.size := by
        rw [← Array.length_toList, husl]
        simp only [List.length_append, List.length_take, List.length_drop]
        omega
      have htk := take_over cur.toList vs.toList (i * wd + sub) (xs.length * wd) (by omega) (by omega)
      have hget : ∀ k : Nat, (cs.take (i * wd + sub) ++ vs.toList ++ cs.drop (i * wd + sub + vs.toList.length))[k]? = if k < i * wd + sub then cs[k]? else if k < i * wd + sub + vs.toList.length then vs.toList[k - (i * wd + sub)]? else cs[k]? := fun k => getElem?_over _ _ _ _ (by omega)
      have hown : OwnR (w.setRow b us) e wd (.row b cap) (xs.set i x').length (cs.take (i * wd + sub) ++ vs.toList ++ cs.drop (i * wd + sub + vs.toList.length)) := by
        rw [List.length_set]
        refine ⟨?_, .inr ⟨b, cap, us, rfl, hbg, setRow_heap w b cur _ e _ hg, hnc, hcm, by omega, ?_⟩⟩
        · simp only [List.length_append, List.length_take, List.length_drop]; omega
        · rw [husl, htk, htake]
      have hrows : Rows' (w.setRow b us) Pr wd (xs.set i x') (cs.take (i * wd + sub) ++ vs.toList ++ cs.drop (i * wd + sub + vs.toList.length)) := by
        refine ⟨fun u hu => ?_, fun k y hy => ?_⟩
        · rcases List.mem_append.1 hu with hu | hu
          · rcases List.mem_append.1 hu with hu | hu
            · exact g5.1 u (List.mem_of_mem_take hu)
            · exact hone u hu
          · exact g5.1 u (List.mem_of_mem_drop hu)
        · rw [List.getElem?_set] at hy
          by_cases hik : i = k
          · subst hik
            rw [if_pos rfl, if_pos k2] at hy
            cases hy
            refine ⟨hx1, fun j d hd => ?_⟩
            have hj : j < wd := by rw [← hx1]; exact (List.getElem?_eq_some_iff.1 hd).1
            rw [hget]
            rcases hnew j d hd with ⟨u, h1, h2, h3⟩ | ⟨h1, x, h2, h3⟩
            · have hj2 := (Array.getElem?_eq_some_iff.1 h2).1
              refine ⟨u, ?_, h3.mono (fun _ h => h) hpw⟩
              rw [if_neg (by omega), if_pos (by omega), Array.getElem?_toList, ← h2]
              congr 1; omega
            · obtain ⟨u, q1, q2⟩ := (g5.2 i x h2).2 j d h3
              refine ⟨u, ?_, q2.mono (fun _ h => h) hpw⟩
              rcases h1 with h1 | h1
              · rw [if_pos (by omega)]; exact q1
              · rw [if_neg (by omega), if_neg (by omega)]; exact q1
          · rw [if_neg hik] at hy
            obtain ⟨q0, q1⟩ := g5.2 k y hy
            refine ⟨q0, fun j d hd => ?_⟩
            obtain ⟨u, q2, q3⟩ := q1 j d hd
            have hj : j < wd := by rw [← q0]; exact (List.getElem?_eq_some_iff.1 hd).1
            refine ⟨u, ?_, q3.mono (fun _ h => h) hpw⟩
            rw [hget]
            rcases Nat.lt_or_gt_of_ne hik with hlt | hlt
            · have : (i + 1) * wd ≤ k * wd := Nat.mul_le_mul_right _ hlt
              rw [Nat.add_mul, Nat.one_mul] at this
              rw [if_neg (by omega), if_neg (by omega)]; exact q2
            · have : (k + 1) * wd ≤ i * wd := Nat.mul_le_mul_right _ hlt
              rw [Nat.add_mul, Nat.one_mul] at this
              rw [if_pos (by omega)]; exact q2
      have key := hR.setSame (b' := .lst e (xs.set i x')) (w' := w.setRow b us) hb g1 (by simp [vwOf]) (setRow_same (b := b)) ⟨wd, _, hze, hown, hrows⟩
      unfold Oper.wp
      rw [hrun]
      refine ⟨μ, Pr, ?_, key.2, .refl _⟩
      have : (({ mods := [(id, i, x')] } : Patch).apply s) = ⟨s.slots, s.blks.set id (.lst e (xs.set i x'))⟩ := by simp [Patch.apply, setAll, modAll, modify_lst hb]
      rw [this, hd]
      exact key.1
  · rw [g2] at k1; cases k1

end Go.Proofs.YtbamhlgkoimjoaaDoor.Ab
/- New slices. -/
namespace Go.Proofs.YtbamhlgkoimjoaaDoor.Ab
open Go
set_option linter.unusedVariables false
set_option linter.unusedSimpArgs false

variable {P : Program} {O : Orc} {s : St} {sc sc' : Script} {w w' : World} {Pr Pr' : Nat → Prop} {vw vw' : Nat → Option VW} {bl : List B} {μ : List CB} {a : Act}

theorem map_range_period {α : Type} (m : Nat) (f : Nat → α) (hf : ∀ i, f (i + m) = f i) : ∀ n : Nat, (List.range (n * m)).map f = (List.replicate n ((List.range m).map f)).flatten
  | 0 => by simp
  | n + 1 => by
    rw [Nat.add_mul, Nat.one_mul, Nat.add_comm, List.range_add, List.map_append, List.replicate_succ, List.flatten_cons, ← map_range_period m f hf n, List.map_map]
    congr 1
    apply List.map_congr_left
    intro i _
    simp only [Function.comp]
    rw [Nat.add_comm]
    exact hf i

theorem map_range_self (z : Array Value) : (List.range z.size).map (fun i => z[i % z.size]!) = z.toList := by
  apply List.ext_getElem?
  intro k
  by_cases hk : k < z.size
  · simp [hk, Nat.mod_eq_of_lt hk]
  · rw [List.getElem?_eq_none (by simp; omega), List.getElem?_eq_none (by simp; omega)]

theorem zero_cells (z : Array Value) (n : Nat) : ((Array.range (n * z.size)).map (fun i => z[i % z.size]!)).toList = (List.replicate n z.toList).flatten := by
  rw [Array.toList_map, Array.toList_range, map_range_period z.size _ (fun i => by rw [Nat.add_mod_right]) n, map_range_self]

theorem zeroD_ok {e : TypeId} {z : D} (h : zeroD P e = some z) : ∃ zv : Value, (zeroValue e).run P w = .ok zv w ∧ z.cells.length = zv.cells.size ∧ (∀ u ∈ zv.cells.toList, u.oneCell' = true) ∧
    ∀ (j : Nat) (y : D), z.cells[j]? = some y → ∃ u, zv.cells[j]? = some u ∧ DRel w Pr y u := by
  unfold zeroD at h
  split at h
  · rename_i cs hz
    obtain ⟨zv, hr, hall⟩ := zeroC_ok (P := P) (w := w) (Pr := Pr) (vw := fun _ => none) hz
    have hone : ∀ u ∈ zv.cells.toList, u.oneCell' = true := fun u hu => by
      obtain ⟨j, hj⟩ := List.getElem?_of_mem hu
      have hlt : j < cs.length := by rw [hall.length]; exact (List.getElem?_eq_some_iff.1 hj).1
      obtain ⟨y, hy, h1⟩ := hall.get j cs[j] (List.getElem?_eq_getElem hlt)
      rw [hj] at hy; cases hy; exact h1.2
    have hl := hall.length
    simp only [Array.length_toList] at hl
    refine ⟨zv, hr, ?_⟩
    split at h
    · obtain ⟨ds, hd, rfl⟩ := Option.map_eq_some_iff.1 h
      have hds := allD_ok hd
      have hdl : ds.length = cs.length := by have := congrArg List.length hds; simpa using this.symm
      refine ⟨by simp only [D.cells]; omega, hone, fun j y hy => ?_⟩
      simp only [D.cells] at hy
      have hjl : j < cs.length := by have := (List.getElem?_eq_some_iff.1 hy).1; omega
      obtain ⟨u, hu, h1, _⟩ := hall.get j cs[j] (List.getElem?_eq_getElem hjl)
      refine ⟨u, by rw [← Array.getElem?_toList]; exact hu, ?_⟩
      have he : empD cs[j] = V.d y := by
        have := congrArg (fun l : List V => l[j]?) hds
        simpa [hjl, hy] using this
      generalize cs[j] = c at he h1
      cases c with
      | emp b =>
        simp [empD] at he; subst he
        obtain ⟨q, rfl⟩ := emp_val (P := P) (w := w) (Pr := Pr) (vw := fun _ => none) (show VRel P w Pr _ (.emp b) u from VRel0.toV h1)
        exact .sl0 _ _
      | d x => simp [empD] at he; subst he; exact h1
      | _ => simp [empD] at he
    · split at h
      · rename_i x
        cases h
        have hu := hall
        cases hz : zv.cells.toList with
        | nil => rw [hz] at hu; exact hu.elim
        | cons u r =>
          rw [hz] at hu
          cases r with
          | cons _ _ => exact hu.2.elim
          | nil =>
            rw [hz] at hone
            have hx : DRel w Pr z u := hu.1.1
            have hna : z.cells = [z] := by
              cases z with
              | agg ds => obtain ⟨cs', rfl, _⟩ := drel_agg hx; exact absurd hu.1.2 (by simp [Value.oneCell'])
              | _ => rfl
            have hzz : zv.cells = #[u] := by rw [← Array.toList_inj]; exact hz
            refine ⟨by rw [hna, hzz]; rfl, hone, fun j y hy => ?_⟩
            rw [hna] at hy
            cases j with
            | zero => simp at hy; subst hy; exact ⟨u, by rw [hzz]; rfl, hx⟩
            | succ j => simp at hy
      · rename_i b
        cases h
        cases hz : zv.cells.toList with
        | nil => rw [hz] at hall; exact hall.elim
        | cons u r =>
          rw [hz] at hall
          cases r with
          | cons _ _ => exact hall.2.elim
          | nil =>
            obtain ⟨q, hq⟩ := emp_val (P := P) (w := w) (Pr := Pr) (vw := fun _ => none) (show VRel P w Pr _ (.emp b) u from VRel0.toV hall.1.1)
            have hzz : zv.cells = #[u] := by rw [← Array.toList_inj]; exact hz
            refine ⟨by rw [hzz]; rfl, by rw [← hz]; exact hone, fun j y hy => ?_⟩
            cases j with
            | zero => simp [D.cells] at hy; subst hy; exact ⟨u, by rw [hzz]; rfl, by rw [hq]; exact .sl0 _ _⟩
            | succ j => simp [D.cells] at hy
      · cases h
    · cases h
  · cases h

theorem chunk_ok {sz : Nat} (hsz : 0 < sz) : ∀ {n : Nat} {cs : List V} {us : List Value} {xs : List D}, All2 (fun v u => VRel0 P w Pr vw v u ∧ u.oneCell' = true) cs us → us.length = n * sz → chunk sz n cs = some xs →
    xs.length = n ∧ ∀ (i : Nat) (x : D), xs[i]? = some x → x.cells.length = sz ∧ ∀ (j : Nat) (y : D), x.cells[j]? = some y → ∃ u, us[i * sz + j]? = some u ∧ DRel w Pr y u
  | 0, cs, us, xs, hall, hl, h => by simp [chunk] at h; subst h; exact ⟨rfl, by simp⟩
  | n + 1, cs, us, xs, hall, hl, h => by
    rw [Nat.add_mul, Nat.one_mul] at hl
    have hcl := hall.length
    have hfirst : ∀ (ds : List D), allD ((cs.take sz).map empD) = some ds → ds.length = sz ∧ ∀ (j : Nat) (y : D), ds[j]? = some y → ∃ u, us[j]? = some u ∧ DRel w Pr y u ∧ u.oneCell' = true := by
      intro ds hd
      have hds := allD_ok hd
      have hdl : ds.length = sz := by have := congrArg List.length hds; simp at this; omega
      refine ⟨hdl, fun j y hy => ?_⟩
      have hj : j < sz := by rw [← hdl]; exact (List.getElem?_eq_some_iff.1 hy).1
      have hjl : j < cs.length := by omega
      obtain ⟨u, hu, h1, h2⟩ := hall.get j cs[j] (List.getElem?_eq_getElem hjl)
      refine ⟨u, hu, ?_, h2⟩
      have he : empD cs[j] = V.d y := by
        have := congrArg (fun l : List V => l[j]?) hds
        simpa [hjl, hy, hj] using this
      generalize cs[j] = c at he h1
      cases c with
      | emp b =>
        simp [empD] at he; subst he
        obtain ⟨q, rfl⟩ := emp_val (show VRel P w Pr vw (.emp b) u from VRel0.toV h1)
        exact .sl0 _ _
      | d x => simp [empD] at he; subst he; exact h1
      | _ => simp [empD] at he
    have hrest := fun {r : List D} (hr : chunk sz n (cs.drop sz) = some r) => chunk_ok hsz (hall.drop sz) (by simp; omega) hr
    have fin : ∀ {x : D} {r : List D}, chunk sz n (cs.drop sz) = some r → x.cells.length = sz → (∀ (j : Nat) (y : D), x.cells[j]? = some y → ∃ u, us[j]? = some u ∧ DRel w Pr y u) → xs = x :: r →
        xs.length = n + 1 ∧ ∀ (i : Nat) (x : D), xs[i]? = some x → x.cells.length = sz ∧ ∀ (j : Nat) (y : D), x.cells[j]? = some y → ∃ u, us[i * sz + j]? = some u ∧ DRel w Pr y u := by
      intro x r hr h1 h2 hx
      subst hx
      obtain ⟨g1, g2⟩ := hrest hr
      refine ⟨by simp [g1], fun i z hz => ?_⟩
      cases i with
      | zero => simp at hz; subst hz; exact ⟨h1, fun j y hy => by simpa using h2 j y hy⟩
      | succ i =>
        obtain ⟨q1, q2⟩ := g2 i z (by simpa using hz)
        refine ⟨q1, fun j y hy => ?_⟩
        obtain ⟨u, q3, q4⟩ := q2 j y hy
        refine ⟨u, ?_, q4⟩
        rw [List.getElem?_drop] at q3
        rw [← q3]; congr 1; rw [Nat.add_mul]; omega
    simp only [chunk] at h
    split at h
    · rename_i x r hx hr
      obtain ⟨h1, h2⟩ := hfirst _ hx
      have hs1 : sz = 1 := by simpa using h1.symm
      rw [if_pos hs1] at h
      cases h
      obtain ⟨u, g1, g2, g3⟩ := h2 0 x rfl
      have hna : x.cells = [x] := by
        cases x with
        | agg ds => obtain ⟨cs', rfl, _⟩ := drel_agg g2; simp [Value.oneCell'] at g3
        | _ => rfl
      refine fin hr (by rw [hna, hs1]; rfl) (fun j y hy => ?_) rfl
      rw [hna] at hy
      cases j with
      | zero => simp at hy; subst hy; exact ⟨u, g1, g2⟩
      | succ j => simp at hy
    · rename_i ys r hne hx hr
      obtain ⟨h1, h2⟩ := hfirst _ hx
      cases h
      exact fin hr (by simpa [D.cells] using h1) (fun j y hy => by obtain ⟨u, g1, g2, _⟩ := h2 j y (by simpa [D.cells] using hy); exact ⟨u, g1, g2⟩) rfl
    · cases h


/-! ### the operations -/

/-- A new row whose cells are these. -/
theorem goes_newList {o : Oper} {t e sz n : Nat} {xs : List D} {us : Array Value} {Q : Exit → Act → World → Prop} (hR : Rel P s a w μ Pr) (hz : szOf P e = some sz) (hn : n ≤ maxItems) (hxl : xs.length = n) (hul : us.size = n * sz)
    (hone : ∀ u ∈ us.toList, u.oneCell' = true) (hrow : ∀ (i : Nat) (x : D), xs[i]? = some x → x.cells.length = sz ∧ ∀ (j : Nat) (y : D), x.cells[j]? = some y → ∃ u, us.toList[i * sz + j]? = some u ∧ DRel w Pr y u)
    (hrun : (execOp a.eval o).run P w = .ok (.value (.slice (some ⟨w.heap.size, 0, none⟩) n n)) { w with heap := w.heap.push (.cells us e) }) :
    o.wp P a w (After P (({ putP o.dst (.arr s.blks.length) with push := [.lst e xs] } : Patch).apply s) μ Pr w) Q := by
  have hmi : maxItems = 1099511627776 := by decide
  have hml : maxLen = 9223372036854775807 := by decide
  subst hxl
  obtain ⟨w', hw'⟩ : ∃ w' : World, w' = { w with heap := w.heap.push (.cells us e) } := ⟨_, rfl⟩
  have hnew : w'.heap[w.heap.size]? = some (.cells us e (0, 0)) := by rw [hw']; exact heap_push_new
  have hold : ∀ k, k < w.heap.size → w'.heap[k]? = w.heap[k]? := by rw [hw']; exact heap_push_old
  have hown : OwnR w' e sz (.row w.heap.size xs.length) xs.length us.toList :=
    ⟨by simp [hul], .inr ⟨w.heap.size, xs.length, us, rfl, Nat.zero_le _, hnew, Nat.le_refl _, by omega, hul, by rw [← hul, ← Array.length_toList, List.take_length]⟩⟩
  rw [← hw'] at hrun
  refine goes_push (w' := w') (c := .lst (.row w.heap.size xs.length)) hR (by rw [hw']) (by rw [hw']) (by rw [hw']) (by rw [hw']; simp) hold (by simp [CB.own, H.own]) (by rw [hw']; simp [CB.own, H.own])
    ⟨sz, us.toList, hz, hown, hone, fun i x hx => ⟨(hrow i x hx).1, fun j y hy => ?_⟩⟩
    hrun (show VRel0 P w' Pr _ (.arr s.blks.length) _ from .inl ⟨e, xs.length, _, view_last hR.mu, rfl⟩)
  obtain ⟨u, h1, h2⟩ := (hrow i x hx).2 j y hy
  exact ⟨u, h1, h2.mono (fun _ h => h) (fun b hb => hold b (hR.pr b hb))⟩

/-- A new row that is only read. -/
theorem goes_newData {o : Oper} {e sz n : Nat} {xs : List D} {us : Array Value} {Q : Exit → Act → World → Prop} (hR : Rel P s a w μ Pr) (hxl : xs.length = n)
    (hone : ∀ u ∈ us.toList, u.oneCell' = true) (hrow : ∀ (i : Nat) (x : D), xs[i]? = some x → x.cells.length = sz ∧ ∀ (j : Nat) (y : D), x.cells[j]? = some y → ∃ u, us.toList[i * sz + j]? = some u ∧ DRel w Pr y u)
    (hrun : (execOp a.eval o).run P w = .ok (.value (.slice (some ⟨w.heap.size, 0, none⟩) n n)) { w with heap := w.heap.push (.cells us e) }) :
    o.wp P a w (After P ((putP o.dst (.d (.sl xs))).apply s) μ Pr w) Q := by
  subst hxl
  have hq := quiet_new w Pr (.cells us e)
  refine goes_put hR hq hrun (show DRel _ _ (.sl xs) _ from drel_of_reads (Pr' := Pr) (.inr rfl) (Nat.le_refl _) ⟨fun i x hx => (hrow i x hx).1, fun i x j y hx hy => ?_⟩)
  obtain ⟨u, h1, h2⟩ := (hrow i x hx).2 j y hy
  refine ⟨u, ?_, hone u (List.mem_of_getElem? h1), h2.mono hq.prm (fun b hb => hq.block b (hR.pr b hb))⟩
  rw [cell_of_cells (heap_push_new (w := w)), ← Array.getElem?_toList, ← h1]
  congr 1; omega

theorem exec_make {o : Oper} {t e n : Nat} {l c : Operand} {i : TypeInfo} {zv : Value} {kl kc : IntKind} (ho : o.op = .makeSlice t l c) (he : elemOf P t = some e) (hi : P.info? e = some i) (hz : szOf P e = some i.size)
    (hzr : (zeroValue e).run P w = .ok zv w) (hzs : zv.cells.size = i.size) (hsz : 0 < i.size) (hbytes : maxItems * i.bytes ≤ 140737488355328) (hn : n ≤ maxItems) (hl : a.eval l = .int kl (n : Int)) (hc : a.eval c = .int kc (n : Int)) :
    ∃ us : Array Value, us.toList = (List.replicate n zv.cells.toList).flatten ∧ us.size = n * i.size ∧
      (execOp a.eval o).run P w = .ok (.value (.slice (some ⟨w.heap.size, 0, none⟩) n n)) { w with heap := w.heap.push (.cells us e) } := by
  have hmi : maxItems = 1099511627776 := by decide
  have hwr : IntKind.i64.wrap (n : Int) = (n : Int) := by
    simp only [IntKind.wrap, IntKind.signed, IntKind.bits]
    have : (n : Int) < 2 ^ 63 := by omega
    have h2 : (n : Int) % (2 ^ 64 : Int) = n := Int.emod_eq_of_lt (by omega) (by omega)
    simp only [h2]
    rw [if_neg]
    simp; omega
  have hb1 : ¬ ((i.bytes : Int) * (n : Int) > 2 ^ 48) := by
    have h3 : i.bytes * n ≤ maxItems * i.bytes := by rw [Nat.mul_comm]; exact Nat.mul_le_mul_right _ hn
    rw [← Int.natCast_mul]
    generalize i.bytes * n = k at h3 ⊢
    omega
  let us : Array Value := (Array.range (n * zv.cells.size)).map (fun k => zv.cells[k % zv.cells.size]!)
  have husl : us.toList = (List.replicate n zv.cells.toList).flatten := zero_cells zv.cells n
  have hussz : us.size = n * i.size := by
    show ((Array.range (n * zv.cells.size)).map _).size = _
    rw [Array.size_map, Array.size_range, hzs]
  refine ⟨us, husl, hussz, ?_⟩
  have hti : (typeInfo e).run P w = .ok i w := by simp [typeInfo, hi]
  simp only [execOp, ho, hl, hc, Instr.makeSlice, Sem.run_bind, run_und (elemOf_und he), Result.andThen_ok, asInt, asIntOf, Sem.run_pure, hti, hwr]
  rw [if_neg]
  · simp only [Sem.run_pure, Sem.run_bind, run_askRoom, Result.andThen_ok, run_szOf hz, Int.toNat_natCast]
    by_cases hn0 : n * i.size = 0
    · have hn00 : n = 0 := by rcases Nat.mul_eq_zero.1 hn0 with h | h; exact h; omega
      subst hn00
      have h0 : us = #[] := by rw [← Array.toList_inj, husl]; rfl
      have h1 : ∀ f : Nat → Value, Array.map f (Array.range 0) = #[] := fun f => by simp [Array.range]
      rw [if_pos (by simp), h0, Nat.zero_mul]
      simp only [Sem.run_bind, Sem.run_pure, Result.andThen_ok, newRow, run_newObj, h1]
    · rw [if_neg hn0]
      simp only [Sem.run_bind, hzr, Result.andThen_ok, Sem.run_pure, newRow, run_newObj]
      have : n * zv.cells.size = n * i.size := by rw [hzs]
      simp only [us, this]
  · simp only [Bool.or_eq_true, decide_eq_true_eq, not_or]
    refine ⟨⟨⟨by omega, hb1⟩, by omega⟩, by omega⟩

theorem get_replicate_flatten {α : Type} {l : List α} {n k j : Nat} (hk : k < n) (hj : j < l.length) : (List.replicate n l).flatten[k * l.length + j]? = l[j]? := by
  induction n generalizing k with
  | zero => omega
  | succ n ih =>
    rw [List.replicate_succ, List.flatten_cons]
    cases k with
    | zero => rw [Nat.zero_mul, Nat.zero_add, List.getElem?_append_left hj]
    | succ k =>
      rw [Nat.add_mul, Nat.one_mul, List.getElem?_append_right (by omega)]
      rw [← ih (k := k) (by omega)]
      congr 1; omega

theorem goes_makeList {o : Oper} {t e sz n : Nat} {l c : Operand} {z : D} {kl kc : IntKind} {Q : Exit → Act → World → Prop} (hR : Rel P s a w μ Pr) (ho : o.op = .makeSlice t l c) (he : elemOf P t = some e) (hz : szOf P e = some sz) (hzd : zeroD P e = some z)
    (hrow : rowOk P e = true) (hzl : z.cells.length = sz) (hn : n ≤ maxItems) (hl : a.eval l = .int kl (n : Int)) (hc : a.eval c = .int kc (n : Int)) :
    o.wp P a w (After P (({ putP o.dst (.arr s.blks.length) with push := [.lst e (List.replicate n z)] } : Patch).apply s) μ Pr w) Q := by
  obtain ⟨i, z0, hi, hiz, hzs, hsz, hzi, hbytes⟩ := rowOk_ok hrow
  rw [hz] at hzi; cases hzi
  obtain ⟨zv, hzr, hzvl, hone, hcells⟩ := zeroD_ok (P := P) (w := w) (Pr := Pr) hzd
  obtain ⟨us, husl, hussz, hrun⟩ := exec_make (a := a) ho he hi hz hzr (by omega) hsz hbytes hn hl hc
  refine goes_newList (sz := i.size) (t := t) hR hz hn (by simp) hussz (fun u hu => ?_) (fun k x hx => ?_) hrun
  · rw [husl] at hu
    obtain ⟨l', hl', hu⟩ := List.mem_flatten.1 hu
    rw [(List.mem_replicate.1 hl').2] at hu
    exact hone u hu
  · have hk : k < n := by have := (List.getElem?_eq_some_iff.1 hx).1; simpa using this
    have hxz : x = z := by
      rw [List.getElem?_replicate, if_pos hk] at hx; cases hx; rfl
    subst hxz
    refine ⟨hzl, fun j y hy => ?_⟩
    obtain ⟨u, h1, h2⟩ := hcells j y hy
    refine ⟨u, ?_, h2⟩
    have hj : j < zv.cells.size := (Array.getElem?_eq_some_iff.1 h1).1
    have hll : zv.cells.toList.length = i.size := by rw [Array.length_toList]; omega
    have := get_replicate_flatten (l := zv.cells.toList) (n := n) hk (by rw [hll]; omega : j < zv.cells.toList.length)
    rw [husl, ← hll, this, Array.getElem?_toList]
    exact h1

/-- A list of lists. -/
theorem goes_makeList2 {o : Oper} {t e e' wd n : Nat} {l c : Operand} {b : Bool} {kl kc : IntKind} {Q : Exit → Act → World → Prop} (hR : Rel P s a w μ Pr) (ho : o.op = .makeSlice t l c) (he : elemOf P t = some e) (hz : szOf P e = some 1) (he' : elemOf P e = some e') (hz' : szOf P e' = some wd)
    (hzc : zeroC P e = some [.emp b]) (hrow : rowOk P e = true) (hn : n ≤ maxItems) (hl : a.eval l = .int kl (n : Int)) (hc : a.eval c = .int kc (n : Int)) :
    o.wp P a w (After P (({ putP o.dst (.arr s.blks.length) with push := [.lst2 e (List.replicate n (some []))] } : Patch).apply s) μ Pr w) Q := by
  have hmi : maxItems = 1099511627776 := by decide
  have hml : maxLen = 9223372036854775807 := by decide
  obtain ⟨i, z0, hi, hiz, hzs, hsz, hzi, hbytes⟩ := rowOk_ok hrow
  rw [hz] at hzi
  have hi1 : i.size = 1 := by simpa using hzi.symm
  obtain ⟨zv, hzr, hza⟩ := zeroC_ok (P := P) (w := w) (Pr := Pr) (vw := fun _ => none) hzc
  obtain ⟨u, hzu⟩ : ∃ u, zv.cells.toList = [u] := by
    cases hq : zv.cells.toList with
    | nil => rw [hq] at hza; exact hza.elim
    | cons u r => cases r with
      | nil => exact ⟨u, rfl⟩
      | cons _ _ => rw [hq] at hza; exact hza.2.elim
  rw [hzu] at hza
  obtain ⟨q, hq⟩ := emp_val (P := P) (w := w) (Pr := Pr) (vw := fun _ => none) (show VRel P w Pr _ (.emp b) u from VRel0.toV hza.1.1)
  have hzvs : zv.cells.size = 1 := by rw [← Array.length_toList, hzu]; rfl
  obtain ⟨us, husl, hussz, hrun⟩ := exec_make (a := a) ho he hi (by rw [hi1]; exact hz) hzr (by omega) hsz hbytes hn hl hc
  have husl' : us.toList = List.replicate n u := by
    rw [husl, hzu, List.flatten_replicate_singleton]
  obtain ⟨w', hw'⟩ : ∃ w' : World, w' = { w with heap := w.heap.push (.cells us e) } := ⟨_, rfl⟩
  have hnew : w'.heap[w.heap.size]? = some (.cells us e (0, 0)) := by rw [hw']; exact heap_push_new
  have hold : ∀ k, k < w.heap.size → w'.heap[k]? = w.heap[k]? := by rw [hw']; exact heap_push_old
  rw [← hw'] at hrun
  have hinn : (List.replicate n (H.zero q)).flatMap H.own = [] := by
    rw [List.flatMap_eq_nil_iff]; intro x hx; rw [(List.mem_replicate.1 hx).2]; rfl
  have hown : (CB.lst2 w.heap.size n (List.replicate n (H.zero q))).own = [w.heap.size] := by simp only [CB.own, hinn]
  refine goes_push (w' := w') (c := .lst2 w.heap.size n (List.replicate n (.zero q))) (r := .arr s.blks.length) hR (by rw [hw']) (by rw [hw']) (by rw [hw']) (by rw [hw']; simp) hold (by rw [hown]; simp) (by rw [hown, hw']; simp)
    ⟨us, e', wd, hnew, by simp, by omega, by rw [hussz, hi1, Nat.mul_one], by simp, hz, he', hz', fun v hv => ?_, fun k ys h hk hh => ?_⟩ hrun (.inr ⟨e, (List.replicate n (some [])).map (·.map List.length), _, _, _, view_last hR.mu, by simp⟩)
  · rw [husl'] at hv; rw [(List.mem_replicate.1 hv).2]; exact hza.1.2
  · have hkn : k < n := by have := (List.getElem?_eq_some_iff.1 hk).1; simpa using this
    rw [List.getElem?_replicate, if_pos hkn] at hk hh
    cases hk; cases hh
    refine ⟨?_, [], ⟨rfl, rfl⟩, rows_nil _⟩
    rw [← Array.getElem?_toList, husl', List.getElem?_replicate, if_pos hkn, hq]
    rfl

end Go.Proofs.YtbamhlgkoimjoaaDoor.Ab
/- Literals of slices; what only makes a value, as operations. -/
namespace Go.Proofs.YtbamhlgkoimjoaaDoor.Ab
open Go
set_option linter.unusedVariables false
set_option linter.unusedSimpArgs false

variable {P : Program} {O : Orc} {s : St} {sc sc' : Script} {w w' : World} {Pr Pr' : Nat → Prop} {vw vw' : Nat → Option VW} {bl : List B} {μ : List CB} {a : Act}
  {wr : Nat → Bool} {IC : Nat → List V → List B → V → List B → Prop} {lit : Bool} {p : Patch} {Q : Exit → Act → World → Prop}

theorem all2_replicate {R : V → Value → Prop} {cs : List V} {us : List Value} (h : All2 R cs us) : ∀ n : Nat, All2 R (List.replicate n cs).flatten (List.replicate n us).flatten
  | 0 => trivial
  | n + 1 => by rw [List.replicate_succ, List.replicate_succ, List.flatten_cons, List.flatten_cons]; exact h.append (all2_replicate h n)

theorem fold_size (off : Nat) : ∀ (vs : List (Value × Nat)) (cs : Array Value), (vs.foldl (fun cs (x : Value × Nat) => cs.setIfInBounds (off + x.2) x.1) cs).size = cs.size
  | [], cs => rfl
  | v :: r, cs => by rw [List.foldl_cons, fold_size off r]; simp

theorem fill_len {places : Nat → Option (Nat × Nat)} : ∀ {parts : List (Nat × Value)} {us us' : Array Value}, Instr.fill places us parts = some us' → us'.size = us.size
  | [], us, us', h => by simp [Instr.fill] at h; rw [h]
  | (i, v) :: r, us, us', h => by
    simp only [Instr.fill] at h
    split at h
    · cases h
    · split at h
      · cases h
      · rw [fill_len h, ← Array.foldl_toList, fold_size]

theorem op_buildSlice {o : Oper} {t : TypeId} {len : Nat} {parts : Array (Nat × Operand)} (hR : Rel P s a w μ Pr) (ho : o.op = .buildSlice t len parts) (h : Hold O s (evOp P wr IC lit o) sc p sc') :
    o.wp P a w (After P (p.apply s) μ Pr w) Q := by
  have hmi : maxItems = 1099511627776 := by decide
  simp only [evOp, ho] at h
  split at h
  · rename_i e sz z he hsz hz
    rw [he, Option.bind_some] at hsz hz
    obtain ⟨l, sc1, h1, h2⟩ := hold_bind.1 h
    have hp := plainParts_ok hR h1
    obtain ⟨zv, hzr, hza⟩ := zeroC_ok (P := P) (w := w) (Pr := Pr) (vw := view s.blks μ) hz
    have hzl := hza.length
    simp only [Array.length_toList] at hzl
    have pl : (parts.map fun x => (x.1, a.eval x.2)).toList = parts.toList.map fun x => (x.1, a.eval x.2) := by simp
    split at h2
    · -- an empty one
      rename_i hlen
      subst hlen
      split at h2
      · exact (hold_fail.1 h2).elim
      rename_i hc
      simp only [not_or, Bool.not_eq_false, ne_eq, Decidable.not_not] at hc
      have hpe : parts = #[] := Array.size_eq_zero_iff.1 hc.1
      have hrun : (execOp a.eval o).run P w = .ok (.value (.slice (some ⟨w.heap.size, 0, none⟩) 0 0)) { w with heap := w.heap.push (.cells #[] e) } := by
        have hr0 : ∀ f : Nat → Value, Array.map f (Array.range 0) = #[] := fun f => by simp [Array.range]
        subst hpe
        simp only [execOp, ho, Instr.buildSlice, Sem.run_bind, run_und (elemOf_und he), Result.andThen_ok, run_szOf hsz, Nat.zero_mul, Sem.run_pure, hr0]
        rw [if_neg (by decide)]
        simp only [Array.map_empty, Instr.fill, newRow, if_true, Sem.run_bind, run_newObj, Sem.run_pure, Result.andThen_ok]
      have fin : Hold O s (.ret (putP o.dst (.emp false)) : Ab.Q Patch) sc' p sc' → o.wp P a w (After P (p.apply s) μ Pr w) Q := by
        intro h
        obtain ⟨rfl, _⟩ := hold_ret.1 h
        exact goes_put hR (quiet_new w Pr _) hrun (r := .emp false) (show ∃ q, Value.slice (some ⟨w.heap.size, 0, none⟩) 0 0 = .slice q 0 0 from ⟨_, rfl⟩)
      rw [hold_pop] at h2
      rcases h2 with ⟨_, h2⟩ | ⟨it, u, _, h2⟩
      · exact fin (hold_ret.2 ⟨(hold_ret.1 h2).1, rfl⟩)
      · split at h2
        · rw [hold_nblk] at h2
          obtain ⟨rfl, _⟩ := hold_ret.1 h2
          exact goes_newList (t := t) hR hsz (Nat.zero_le _) rfl (by simp) (by simp) (by simp) hrun
        · exact fin (hold_ret.2 ⟨(hold_ret.1 h2).1, rfl⟩)
    · split at h2
      · exact (hold_fail.1 h2).elim
      · rename_i hlen hc
        simp only [not_or] at hc
        obtain ⟨hc1, hc2, hc3⟩ := hc
        have hc2 : z.length = sz := by omega
        split at h2
        · rename_i cs hf
          obtain ⟨us, g1, g2⟩ := fill_ok (us := (Array.range (len * sz)).map (fun i => zv.cells[i % zv.cells.size]!)) (places' := fun i => some (i * sz, sz)) rfl (parts' := (parts.map fun x => (x.1, a.eval x.2)).toList) (by rw [pl]; exact hp)
            (by rw [← hc2, hzl, zero_cells]; exact all2_replicate hza len) hf
          split at h2
          · rename_i xs hx
            have husz : us.toList.length = len * sz := by
              have := fill_len g1
              rw [Array.length_toList, this]; simp
            obtain ⟨k1, k2⟩ := chunk_ok (by omega) g2 husz hx
            have hone : ∀ u ∈ us.toList, u.oneCell' = true := fun u hu => by
              obtain ⟨j, hj⟩ := List.getElem?_of_mem hu
              have hlt : j < cs.length := by rw [g2.length]; exact (List.getElem?_eq_some_iff.1 hj).1
              obtain ⟨y, hy, h1⟩ := g2.get j cs[j] (List.getElem?_eq_getElem hlt)
              rw [hj] at hy; cases hy; exact h1.2
            have hn0 : len * sz ≠ 0 := Nat.mul_ne_zero hlen hc3
            have hrun : (execOp a.eval o).run P w = .ok (.value (.slice (some ⟨w.heap.size, 0, none⟩) len len)) { w with heap := w.heap.push (.cells us e) } := by
              simp only [execOp, ho, Instr.buildSlice, Sem.run_bind, run_und (elemOf_und he), Result.andThen_ok, run_szOf hsz, if_neg hc1, Sem.run_pure, if_neg hn0, hzr]
              rw [g1]
              simp only [Sem.run_bind, newRow, run_newObj, Result.andThen_ok, Sem.run_pure]
            rw [hold_pop] at h2
            have fin : ∀ {b : Bool} {sc : Script}, Hold O s (if b = true then (if rowOk P e = true then .nblk fun n => .ret { putP o.dst (.arr n) with push := [.lst e xs] } else .fail) else .ret (putP o.dst (.d (.sl xs))) : Ab.Q Patch) sc p sc' →
                o.wp P a w (After P (p.apply s) μ Pr w) Q := by
              intro b sc h
              split at h
              · split at h
                · rw [hold_nblk] at h
                  obtain ⟨rfl, _⟩ := hold_ret.1 h
                  have hlm : len ≤ maxItems := by
                    have : len * 1 ≤ len * sz := Nat.mul_le_mul_left _ (by omega)
                    rw [Nat.mul_one] at this
                    omega
                  exact goes_newList (t := t) hR hsz hlm k1 (by rw [← Array.length_toList]; exact husz) hone k2 hrun
                · exact (hold_fail.1 h).elim
              · obtain ⟨rfl, _⟩ := hold_ret.1 h
                exact goes_newData hR k1 hone k2 hrun
            rcases h2 with ⟨_, h2⟩ | ⟨it, u, _, h2⟩ <;> exact fin h2
          · exact (hold_fail.1 h2).elim
        · exact (hold_fail.1 h2).elim
  · exact (hold_fail.1 h).elim

end Go.Proofs.YtbamhlgkoimjoaaDoor.Ab
/- The operations that only make a value. -/
namespace Go.Proofs.YtbamhlgkoimjoaaDoor.Ab
open Go
set_option linter.unusedVariables false
set_option linter.unusedSimpArgs false

variable {P : Program} {O : Orc} {s : St} {sc sc' : Script} {w w' : World} {Pr Pr' : Nat → Prop} {vw vw' : Nat → Option VW} {bl : List B} {μ : List CB} {a : Act}
  {wr : Nat → Bool} {IC : Nat → List V → List B → V → List B → Prop} {lit : Bool} {p : Patch} {Q : Exit → Act → World → Prop}

/-- The frame's world as it is. -/
theorem goes_val {o : Oper} {r : V} {x : Value} (hR : Rel P s a w μ Pr) (hrun : (execOp a.eval o).run P w = .ok (.value x) w) (hv : VRel P w Pr (view s.blks μ) r x) : o.wp P a w (After P ((putP o.dst r).apply s) μ Pr w) Q :=
  goes_put hR (Quiet.refl w Pr) hrun hv

theorem op_move {o : Oper} {x : Operand} (hR : Rel P s a w μ Pr) (ho : o.op = .move x ∨ o.op = .assign x) (h : Hold O s (evOp P wr IC lit o) sc p sc') : o.wp P a w (After P (p.apply s) μ Pr w) Q := by
  have h' : Hold O s ((opd x).bind fun v => .ret (putP o.dst v)) sc p sc' := by rcases ho with ho | ho <;> simpa only [evOp, ho] using h
  obtain ⟨v, sc1, h1, h2⟩ := hold_bind.1 h'
  obtain ⟨rfl, _⟩ := hold_ret.1 h2
  exact goes_val hR (by rcases ho with ho | ho <;> simp only [execOp, ho, Sem.run_pure]) (opd_ok hR h1)

theorem op_pick {o : Oper} {c x y : Operand} (hR : Rel P s a w μ Pr) (ho : o.op = .pick c x y) (h : Hold O s (evOp P wr IC lit o) sc p sc') : o.wp P a w (After P (p.apply s) μ Pr w) Q := by
  simp only [evOp, ho] at h
  obtain ⟨v, sc1, h1, h2⟩ := hold_bind.1 h
  split at h2
  · rename_i t
    have hc := drel_bool (show DRel w Pr (.bool t) _ from opd_ok hR h1)
    obtain ⟨v, sc2, h3, h4⟩ := hold_bind.1 h2
    obtain ⟨rfl, _⟩ := hold_ret.1 h4
    have hv := opd_ok hR h3
    refine goes_val hR (x := if t then a.eval x else a.eval y) ?_ (by cases t <;> simpa using hv)
    simp only [execOp, ho, hc, asBool, Sem.run_bind, Sem.run_pure, Result.andThen_ok]
  · exact (hold_fail.1 h2).elim

theorem op_alloc {o : Oper} {t : TypeId} (hR : Rel P s a w μ Pr) (ho : o.op = .alloc t) (h : Hold O s (evOp P wr IC lit o) sc p sc') : o.wp P a w (After P (p.apply s) μ Pr w) Q := by
  simp only [evOp, ho] at h
  split at h
  · rename_i cs hz
    rw [hold_nblk] at h
    obtain ⟨rfl, _⟩ := hold_ret.1 h
    refine goes_alloc hR ho ?_ hz
    intro u hu
    split at hu
    · exact Option.some.inj hu
    · exact absurd hu (by simp)
  · exact (hold_fail.1 h).elim

theorem op_box {o : Oper} {t : TypeId} {x : Operand} (hR : Rel P s a w μ Pr) (ho : o.op = .box t x) (h : Hold O s (evOp P wr IC lit o) sc p sc') : o.wp P a w (After P (p.apply s) μ Pr w) Q := by
  simp only [evOp, ho] at h
  obtain ⟨v, sc1, h1, h2⟩ := hold_bind.1 h
  split at h2
  · rename_i cs n hc hs
    split at h2
    · rw [hold_nblk] at h2
      obtain ⟨rfl, _⟩ := hold_ret.1 h2
      exact goes_box hR ho (opd_ok hR h1) hc
    · exact (hold_fail.1 h2).elim
  · exact (hold_fail.1 h2).elim

theorem op_build {o : Oper} {t : TypeId} {parts : Array (Nat × Operand)} (hR : Rel P s a w μ Pr) (ho : o.op = .build t parts) (h : Hold O s (evOp P wr IC lit o) sc p sc') : o.wp P a w (After P (p.apply s) μ Pr w) Q := by
  simp only [evOp, ho] at h
  obtain ⟨l, sc1, h1, h2⟩ := hold_bind.1 h
  have hp := plainParts_ok hR h1
  split at h2
  · rename_i v hv
    obtain ⟨rfl, _⟩ := hold_ret.1 h2
    have pl : (parts.map fun x => (x.1, a.eval x.2)).toList = parts.toList.map fun x => (x.1, a.eval x.2) := by simp
    obtain ⟨u, g1, g2⟩ := buildV_ok (parts' := parts.map fun x => (x.1, a.eval x.2)) (by rw [pl]; exact hp) hv
    refine goes_val hR (x := u) ?_ g2
    simp only [execOp, ho, Sem.run_bind, g1, Result.andThen_ok, Sem.run_pure]
  · exact (hold_fail.1 h2).elim

theorem op_load {o : Oper} {t : TypeId} {x : Operand} (hR : Rel P s a w μ Pr) (ho : o.op = .load t x) (h : Hold O s (evOp P wr IC lit o) sc p sc') : o.wp P a w (After P (p.apply s) μ Pr w) Q := by
  simp only [evOp, ho] at h
  obtain ⟨v, sc1, h1, h2⟩ := hold_bind.1 h
  obtain ⟨r, sc2, h3, h4⟩ := hold_bind.1 h2
  obtain ⟨rfl, _⟩ := hold_ret.1 h4
  obtain ⟨u, g1, g2⟩ := loadV_ok hR.toSRel (opd_ok hR h1) h3
  exact goes_val hR (by simp only [execOp, ho, Sem.run_bind, g1, Result.andThen_ok, Sem.run_pure]) g2

theorem op_nilCheck {o : Oper} {x : Operand} (hR : Rel P s a w μ Pr) (ho : o.op = .nilCheck x) (h : Hold O s (evOp P wr IC lit o) sc p sc') : o.wp P a w (After P (p.apply s) μ Pr w) Q := by
  simp only [evOp, ho] at h
  obtain ⟨v, sc1, h1, h2⟩ := hold_bind.1 h
  have hv := opd_ok hR h1
  split at h2
  · obtain ⟨rfl, _⟩ := hold_ret.1 h2
    obtain ⟨b, k1, k2⟩ := id hv
    exact goes_val hR (by simp only [execOp, ho, k2, Sem.run_pure]; rfl) (by rw [← k2]; exact hv)
  · obtain ⟨rfl, _⟩ := hold_ret.1 h2
    obtain ⟨vs, k1, k2⟩ := id hv
    exact goes_val hR (by simp only [execOp, ho, k1, Sem.run_pure]; rfl) (by rw [← k1]; exact hv)
  · obtain ⟨rfl, _⟩ := hold_ret.1 h2
    obtain ⟨u, k1, k2⟩ := id hv
    exact goes_val hR (by simp only [execOp, ho, k1, Sem.run_pure]; rfl) (by rw [← k1]; exact hv)
  · obtain ⟨rfl, _⟩ := hold_ret.1 h2
    rcases id hv with ⟨_, _, _, _, _, _, _, _, k1⟩ | ⟨_, _, _, _, _, _, _, _, k1⟩ | ⟨_, _, k1⟩ <;>
      exact goes_val hR (by simp only [execOp, ho, k1, Sem.run_pure]; rfl) (by rw [← k1]; exact hv)
  · obtain ⟨rfl, _⟩ := hold_ret.1 h2
    obtain ⟨_, _, _, k1, _⟩ := id hv
    exact goes_val hR (by simp only [execOp, ho, k1, Sem.run_pure]; rfl) (by rw [← k1]; exact hv)
  · exact (hold_fail.1 h2).elim

theorem op_bin {o : Oper} {op : BinOp} {t yt : TypeId} {x y : Operand} (hR : Rel P s a w μ Pr) (ho : o.op = .binOp op t x y yt) (h : Hold O s (evOp P wr IC lit o) sc p sc') : o.wp P a w (After P (p.apply s) μ Pr w) Q := by
  simp only [evOp, ho] at h
  obtain ⟨v, sc1, h1, h2⟩ := hold_bind.1 h
  obtain ⟨u, sc2, h3, h4⟩ := hold_bind.1 h2
  obtain ⟨r, sc3, h5, h6⟩ := hold_bind.1 h4
  obtain ⟨rfl, _⟩ := hold_ret.1 h6
  obtain ⟨d, rfl, z, g1, g2⟩ := binV_ok (xo := x) (opd_ok hR h1) (opd_ok hR h3) h5
  refine goes_val hR (x := z) ?_ g2
  simp only [execOp, ho]
  rw [Sem.run_bind, g1]
  rfl

theorem op_un {o : Oper} {op : UnOp} {t : TypeId} {x : Operand} (hR : Rel P s a w μ Pr) (ho : o.op = .unOp op t x) (h : Hold O s (evOp P wr IC lit o) sc p sc') : o.wp P a w (After P (p.apply s) μ Pr w) Q := by
  simp only [evOp, ho] at h
  obtain ⟨v, sc1, h1, h2⟩ := hold_bind.1 h
  obtain ⟨r, sc3, h5, h6⟩ := hold_bind.1 h2
  obtain ⟨rfl, _⟩ := hold_ret.1 h6
  obtain ⟨d, rfl, z, g1, g2⟩ := unV_ok (opd_ok hR h1) h5
  exact goes_val hR (by simp only [execOp, ho, Sem.run_bind, g1, Result.andThen_ok, Sem.run_pure]) g2

theorem u8_inj {l l' : List UInt8} (h : l.map u8 = l'.map u8) : l = l' := by
  induction l generalizing l' with
  | nil => cases l' with | nil => rfl | cons _ _ => simp at h
  | cons x r ih =>
    cases l' with
    | nil => simp at h
    | cons y r' =>
      simp only [List.map_cons, List.cons.injEq, u8, D.int.injEq, true_and] at h
      obtain ⟨h1, h2⟩ := h
      have hxy : x = y := UInt8.toNat_inj.1 (by exact_mod_cast h1)
      rw [ih h2, hxy]

theorem op_convert {o : Oper} {src dst : TypeId} {x : Operand} (hR : Rel P s a w μ Pr) (ho : o.op = .convert src dst x) (h : Hold O s (evOp P wr IC lit o) sc p sc') : o.wp P a w (After P (p.apply s) μ Pr w) Q := by
  simp only [evOp, ho] at h
  obtain ⟨v, sc1, h1, h2⟩ := hold_bind.1 h
  obtain ⟨r, sc3, h5, h6⟩ := hold_bind.1 h2
  obtain ⟨rfl, _⟩ := hold_ret.1 h6
  have hv := opd_ok hR h1
  have hexec : ∀ {z w'}, (convert src dst (a.eval x)).run P w = .ok z w' → (execOp a.eval o).run P w = .ok (.value z) w' := fun hz => by
    simp only [execOp, ho, Sem.run_bind, hz, Result.andThen_ok, Sem.run_pure]
  unfold convV at h5
  split at h5
  · rename_i k1 k2 k3 n hs hd
    have hx := drel_int (show DRel w Pr (.int k3 n) _ from hv)
    obtain rfl := hold_popInt h5
    refine goes_val hR (hexec ?_) (show DRel w Pr (.int k2 (k2.wrap n)) (.int k2 (k2.wrap n)) from .int _ _)
    simp only [convert, Sem.run_bind, run_und hs, run_und hd, hx, Result.andThen_ok, Conv.intToInt, Sem.run_pure]
  · rename_i l hs hd
    obtain ⟨t, hx, ht⟩ := drel_str (show DRel w Pr (.str l) _ from hv)
    obtain ⟨rfl, _⟩ := hold_ret.1 h5
    refine goes_val hR (hexec (z := a.eval x) ?_) hv
    simp only [convert, Sem.run_bind, run_und hs, run_und hd, hx, Result.andThen_ok, Sem.run_pure]
  · rename_i e l hs hd
    obtain ⟨t, hx, ht⟩ := drel_str (show DRel w Pr (.str l) _ from hv)
    split at h5
    · rename_i he
      obtain ⟨rfl, _⟩ := hold_ret.1 h5
      obtain ⟨z, w', Pr', g1, g2, g3⟩ := run_stringToBytes (P := P) e t w Pr
      rw [ht] at g3
      refine goes_put hR g2 (hexec (z := z) ?_) (r := .d (.sl (l.map u8))) g3
      simp only [convert, Sem.run_bind, run_und hs, run_und hd, run_und he, hx, Result.andThen_ok, g1]
    · exact (hold_fail.1 h5).elim
  · rename_i e hs hd
    split at h5
    · rename_i he
      obtain ⟨xs, sc4, h7, h8⟩ := hold_bind.1 h5
      have key : ∃ l, xs = l.map u8 ∧ r = .d (.str l) := by
        rw [hold_pop] at h8
        rcases h8 with ⟨_, h8⟩ | ⟨it, u, _, h8⟩
        · simp only at h8
          split at h8
          · rename_i l hl; exact ⟨l, unU8_ok hl, (hold_ret.1 h8).1⟩
          · exact (hold_fail.1 h8).elim
        · split at h8
          · obtain ⟨k1, k2⟩ := hold_req.1 h8; exact ⟨_, k1, (hold_ret.1 k2).1⟩
          · exact (hold_fail.1 h8).elim
          · rename_i hn; cases hn
      obtain ⟨l, rfl, rfl⟩ := key
      rcases items_ok hR.toSRel (items_simple hv h7) h7 with ⟨t, hx, ht⟩ | ⟨base, cap, hx, hor⟩
      · have := u8_inj ht
        subst this
        refine goes_val hR (hexec (z := a.eval x) ?_) (by rw [hx]; exact DRel.str t)
        simp only [convert, Sem.run_bind, run_und hs, run_und hd, hx, Result.andThen_ok, Sem.run_pure]
      · have g1 := run_bytesToString (P := P) (w := w) (Pr := Pr) (base := base) (cap := cap) hor
        refine goes_val hR (hexec (z := .string ⟨l.toArray⟩) ?_) (show DRel w Pr (.str l) _ from by have := DRel.str (w := w) (Pr := Pr) ⟨l.toArray⟩; simpa using this)
        simp only [convert, Sem.run_bind, run_und hs, run_und hd, run_und he, hx, Result.andThen_ok, g1]
    · exact (hold_fail.1 h5).elim
  · exact (hold_fail.1 h5).elim

theorem vrel_simple {v : V} {x : Value} (h : VRel P w Pr vw v x) (hs : simple0 v = true) : VRel0 P w Pr vw v x := by
  have key : VRel1 P w Pr vw v x → VRel0 P w Pr vw v x := fun h => h.simple hs
  cases v with
  | tup _ => cases hs
  | _ => exact key h

theorem op_makeInterface {o : Oper} {t : TypeId} {x : Operand} (hR : Rel P s a w μ Pr) (ho : o.op = .makeInterface t x) (h : Hold O s (evOp P wr IC lit o) sc p sc') : o.wp P a w (After P (p.apply s) μ Pr w) Q := by
  simp only [evOp, ho] at h
  obtain ⟨v, sc1, h1, h2⟩ := hold_bind.1 h
  have hv := opd_ok hR h1
  split at h2
  · exact (hold_fail.1 h2).elim
  · exact (hold_fail.1 h2).elim
  · rename_i d hni hd
    split at h2
    · rename_i hs
      obtain ⟨rfl, _⟩ := hold_ret.1 h2
      refine goes_val hR (x := .iface t (a.eval x)) ?_ ⟨_, rfl, vrel_simple hv hs⟩
      simp only [execOp, ho, Instr.makeInterface, Sem.run_bind, run_und hd, Result.andThen_ok]
      cases d <;> first | exact (hni _ rfl).elim | rfl
    · exact (hold_fail.1 h2).elim

theorem op_makeFunc {o : Oper} {fn : Fn} {first cap : Array Operand} (hR : Rel P s a w μ Pr) (ho : o.op = .makeFunc fn first cap) (h : Hold O s (evOp P wr IC lit o) sc p sc') : o.wp P a w (After P (p.apply s) μ Pr w) Q := by
  simp only [evOp, ho] at h
  split at h
  · rename_i f
    obtain ⟨vs, sc1, h1, h2⟩ := hold_bind.1 h
    have hv := opds_ok hR h1
    split at h2
    · rename_i hc
      obtain ⟨rfl, _⟩ := hold_ret.1 h2
      have hfe : first = #[] := Array.size_eq_zero_iff.1 hc.1
      subst hfe
      refine goes_val hR (x := .func (.func f) #[] (cap.map a.eval)) ?_ ⟨cap.toList.map a.eval, by rw [← Array.toList_map], All2.monoMem (fun v hm u hu => vrel_simple hu (List.all_eq_true.1 hc.2 v hm)) hv⟩
      simp only [execOp, ho, Instr.makeFunc, Sem.run_bind, Sem.run_pure, Result.andThen_ok, Array.map_empty]
    · exact (hold_fail.1 h2).elim
  · exact (hold_fail.1 h).elim

theorem op_indexAddr {o : Oper} {t : TypeId} {x ix : Operand} (hR : Rel P s a w μ Pr) (ho : o.op = .indexAddr t x ix) (h : Hold O s (evOp P wr IC lit o) sc p sc') : o.wp P a w (After P (p.apply s) μ Pr w) Q := by
  simp only [evOp, ho] at h
  obtain ⟨v, sc1, h1, h2⟩ := hold_bind.1 h
  obtain ⟨u, sc2, h3, h4⟩ := hold_bind.1 h2
  obtain ⟨r, sc3, h5, h6⟩ := hold_bind.1 h4
  obtain ⟨rfl, _⟩ := hold_ret.1 h6
  obtain ⟨z, g1, g2⟩ := indexAddrV_ok hR.toSRel (opd_ok hR h1) (opd_ok hR h3) h5
  exact goes_val hR (by simp only [execOp, ho, Sem.run_bind, g1, Result.andThen_ok, Sem.run_pure]) g2

theorem op_extract {o : Oper} {x : Operand} {i : Nat} (hR : Rel P s a w μ Pr) (ho : o.op = .extract x i) (h : Hold O s (evOp P wr IC lit o) sc p sc') : o.wp P a w (After P (p.apply s) μ Pr w) Q := by
  simp only [evOp, ho] at h
  obtain ⟨v, sc1, h1, h2⟩ := hold_bind.1 h
  have hv := opd_ok hR h1
  split at h2
  · rename_i vs
    split at h2
    · rename_i y hy
      obtain ⟨rfl, _⟩ := hold_ret.1 h2
      obtain ⟨us, k1, k2⟩ := hv
      obtain ⟨u, hu, hu2⟩ := k2.get i y hy
      refine goes_val hR (x := u) ?_ hu2.toV
      simp only [execOp, ho, k1, Instr.extract, Sem.run_bind]
      rw [List.getElem?_toArray, hu]
      rfl
    · exact (hold_fail.1 h2).elim
  · exact (hold_fail.1 h2).elim

theorem op_typeAssert {o : Oper} {x : Operand} {xt t : TypeId} {ok : Bool} (hR : Rel P s a w μ Pr) (ho : o.op = .typeAssert x xt t ok) (h : Hold O s (evOp P wr IC lit o) sc p sc') : o.wp P a w (After P (p.apply s) μ Pr w) Q := by
  simp only [evOp, ho] at h
  obtain ⟨v, sc1, h1, h2⟩ := hold_bind.1 h
  have hv := opd_ok hR h1
  split at h2
  · rename_i t' v
    split at h2
    · rename_i htt
      subst htt
      split at h2
      · exact (hold_fail.1 h2).elim
      · exact (hold_fail.1 h2).elim
      · rename_i d hni hd
        obtain ⟨rfl, _⟩ := hold_ret.1 h2
        obtain ⟨u, k1, k2⟩ := hv
        refine goes_val hR (x := if ok then .tuple #[u, .bool true] else u) ?_ ?_
        · simp only [execOp, ho, k1, Instr.typeAssert, Sem.run_bind, run_und hd, Result.andThen_ok]
          cases d <;> first | exact (hni _ rfl).elim | (simp only [if_true]; rfl)
        · cases ok
          · exact k2.toV
          · exact ⟨[u, .bool true], rfl, k2.to1, (show DRel w Pr (.bool true) _ from .bool _), trivial⟩
    · exact (hold_fail.1 h2).elim
  · exact (hold_fail.1 h2).elim

end Go.Proofs.YtbamhlgkoimjoaaDoor.Ab
/- Fields, indices, slices, new slices, stores, builtins: as operations. -/
namespace Go.Proofs.YtbamhlgkoimjoaaDoor.Ab
open Go
set_option linter.unusedVariables false
set_option linter.unusedSimpArgs false

variable {P : Program} {O : Orc} {s : St} {sc sc' : Script} {w w' : World} {Pr Pr' : Nat → Prop} {vw vw' : Nat → Option VW} {bl : List B} {μ : List CB} {a : Act}
  {wr : Nat → Bool} {IC : Nat → List V → List B → V → List B → Prop} {lit : Bool} {p : Patch} {Q : Exit → Act → World → Prop}

theorem op_fieldAddr {o : Oper} {t : TypeId} {x : Operand} {i : Nat} (hR : Rel P s a w μ Pr) (ho : o.op = .fieldAddr t x i) (h : Hold O s (evOp P wr IC lit o) sc p sc') : o.wp P a w (After P (p.apply s) μ Pr w) Q := by
  simp only [evOp, ho] at h
  obtain ⟨v, sc1, h1, h2⟩ := hold_bind.1 h
  have hv := opd_ok hR h1
  split at h2
  · rename_i fs hu
    split at h2
    · rename_i f hf
      split at h2
      · rename_i n hz
        have hexec : ∀ {b o : Nat}, a.eval x = .pointer (some ⟨b, o, none⟩) → (execOp a.eval ‹Oper›).run P w = .ok (.value (.pointer (some ⟨b, o + f.offset, none⟩))) w := by
          intro b o hx
          simp only [execOp, ho, Instr.fieldAt, Sem.run_bind, run_und hu, Result.andThen_ok, hf, Sem.run_pure, Instr.sureAddr, hx, fieldPlace, run_szOf hz]
          simp [Addr.add]
        split at h2
        · obtain ⟨rfl, _⟩ := hold_ret.1 h2
          obtain ⟨b, k1, k2⟩ := hv
          exact goes_val hR (hexec k2) ⟨b, k1, rfl⟩
        · rw [hold_blk] at h2
          split at h2
          · rename_i e xs hb
            obtain ⟨rfl, _⟩ := hold_ret.1 h2
            rcases hv with ⟨e, m, b, cap, wd, k1, k2, k3, k4⟩ | ⟨s', lens, b, cap, inner, k1, k2, k3, k4⟩ | ⟨b, k1, k4⟩
            rotate_left 2
            · exact goes_val hR (hexec k4) (.inr (.inr ⟨b, k1, by rw [Nat.add_assoc]⟩))
            · exact goes_val hR (hexec k4) (.inl ⟨e, m, b, cap, wd, k1, k2, k3, by rw [Nat.add_assoc]⟩)
            · obtain ⟨hh, wd, cs, g1, g2, g3, g4, g5⟩ := hR.toSRel.lst (blk_some hb (by simp))
              rw [g2] at k1; cases k1
          · exact (hold_fail.1 h2).elim
        · obtain ⟨rfl, _⟩ := hold_ret.1 h2
          obtain ⟨b, o', k1, k2, k3⟩ := hv
          exact goes_val hR (hexec k2) ⟨b, o', k1, by rw [Nat.add_assoc], k3⟩
        · exact (hold_fail.1 h2).elim
      · exact (hold_fail.1 h2).elim
    · exact (hold_fail.1 h2).elim
  · exact (hold_fail.1 h2).elim

theorem aggCells_ok {v : V} {x : Value} {cs : List V} (h : aggCells v = some cs) (hv : VRel P w Pr vw v x) : ∃ us : List Value, x = .agg us.toArray ∧ All2 (fun c u => VRel0 P w Pr vw c u ∧ u.oneCell' = true) cs us := by
  unfold aggCells at h
  split at h
  · rename_i ds
    cases h
    obtain ⟨us, rfl, hl, h1, hd⟩ := drel_agg (show DRel w Pr (.agg ds) x from hv)
    refine ⟨us, rfl, All2.of (by simp [hl]) fun i c u hc hu => ?_⟩
    rw [List.getElem?_map, Option.map_eq_some_iff] at hc
    obtain ⟨y, hy, rfl⟩ := hc
    exact ⟨hd i y u hy hu, h1 u (List.mem_of_getElem? hu)⟩
  · cases h
    exact hv
  · cases h

theorem op_field {o : Oper} {t : TypeId} {x : Operand} {i : Nat} (hR : Rel P s a w μ Pr) (ho : o.op = .field t x i) (h : Hold O s (evOp P wr IC lit o) sc p sc') : o.wp P a w (After P (p.apply s) μ Pr w) Q := by
  simp only [evOp, ho] at h
  obtain ⟨v, sc1, h1, h2⟩ := hold_bind.1 h
  have hv := opd_ok hR h1
  split at h2
  · rename_i fs hu
    split at h2
    · rename_i f hf
      split at h2
      · rename_i cs hk hc
        split at h2
        · rename_i y hy
          obtain ⟨rfl, _⟩ := hold_ret.1 h2
          obtain ⟨us, k1, k2⟩ := aggCells_ok hc hv
          obtain ⟨u, hu2, hu3⟩ := k2.get f.offset y hy
          refine goes_val hR (x := u) ?_ hu3.1.toV
          have hpart : (part f.type us.toArray f.offset).run P w = .ok u w := by
            simp only [part, Sem.run_bind, run_isAgg_false hk, Result.andThen_ok, Bool.false_eq_true, if_false, List.getElem?_toArray, hu2, Sem.run_pure]
          simp only [execOp, ho, Instr.field, Sem.run_bind, run_und hu, Result.andThen_ok, hf, k1, asAgg, Sem.run_pure, hpart]
        · exact (hold_fail.1 h2).elim
      · exact (hold_fail.1 h2).elim
    · exact (hold_fail.1 h2).elim
  · exact (hold_fail.1 h2).elim

theorem op_index {o : Oper} {t : TypeId} {x ix : Operand} (hR : Rel P s a w μ Pr) (ho : o.op = .index t x ix) (h : Hold O s (evOp P wr IC lit o) sc p sc') : o.wp P a w (After P (p.apply s) μ Pr w) Q := by
  simp only [evOp, ho] at h
  obtain ⟨v, sc1, h1, h2⟩ := hold_bind.1 h
  obtain ⟨i, sc2, h3, h4⟩ := hold_bind.1 h2
  have hv := opd_ok hR h1
  have hi := opd_ok hR h3
  split at h4
  · rename_i l hu
    split at h4
    · rename_i k n
      have hn := drel_int (show DRel w Pr (.int k n) _ from hi)
      obtain ⟨q, hq, hql⟩ := drel_str (show DRel w Pr (.str l) _ from hv)
      have key : ∃ (m : Nat) (b : UInt8), n = (m : Int) ∧ l[m]? = some b ∧ p = putP o.dst (.d (u8 b)) := by
        rw [hold_pop] at h4
        rcases h4 with ⟨_, h4⟩ | ⟨it, u, _, h4⟩
        · simp only at h4
          split at h4
          · split at h4
            · rename_i h0 b hb; exact ⟨n.toNat, b, by omega, hb, (hold_ret.1 h4).1⟩
            · exact (hold_fail.1 h4).elim
          · exact (hold_fail.1 h4).elim
        · split at h4
          · obtain ⟨⟨k1, k2⟩, k3⟩ := hold_req.1 h4; exact ⟨_, _, k1, k2, (hold_ret.1 k3).1⟩
          · exact (hold_fail.1 h4).elim
          · rename_i hno; cases hno
      obtain ⟨m, b, rfl, hb, rfl⟩ := key
      refine goes_val hR (x := .int .u8 b.toNat) ?_ (show DRel w Pr (u8 b) _ from .int _ _)
      have hqm : q[m]? = some b := by
        subst hql
        have hlt : m < q.data.toList.length := (List.getElem?_eq_some_iff.1 hb).1
        have hlt' : m < q.size := by simpa using hlt
        rw [getElem?_pos q m hlt']
        rw [List.getElem?_eq_getElem hlt] at hb
        simp only [Option.some.injEq] at hb ⊢
        rw [← hb]
        rfl
      simp only [execOp, ho, Instr.index, hn, hq, asIntOf, Sem.run_bind, Sem.run_pure, Result.andThen_ok, run_und hu]
      simp [hqm]
    · exact (hold_fail.1 h4).elim
  · rename_i len e hu
    split at h4
    · rename_i cs hk hz hc
      split at h4
      · rename_i k n
        obtain ⟨us, k1, k2⟩ := aggCells_ok hc hv
        have fin : ∀ {m : Nat} {y : V}, a.eval ix = .int k (m : Int) → m < len → cs[m]? = some y → p = putP o.dst y → o.wp P a w (After P (p.apply s) μ Pr w) Q := by
          intro m y hm hlt hy hp
          subst hp
          obtain ⟨u, hu2, hu3⟩ := k2.get m y hy
          refine goes_val hR (x := u) ?_ hu3.1.toV
          have hpart : (part e us.toArray m).run P w = .ok u w := by
            simp only [part, Sem.run_bind, run_isAgg_false hk, Result.andThen_ok, Bool.false_eq_true, if_false, List.getElem?_toArray, hu2, Sem.run_pure]
          simp only [execOp, ho, Instr.index, hm, k1, asIntOf, Sem.run_bind, Sem.run_pure, Result.andThen_ok, run_und hu]
          rw [if_pos ⟨by omega, by omega⟩]
          simp only [Sem.run_bind, run_szOf hz, Result.andThen_ok, Int.toNat_natCast, Nat.mul_one, hpart, Sem.run_pure]
        split at h4
        · split at h4
          · rename_i hb
            split at h4
            · rename_i y hy
              obtain ⟨rfl, _⟩ := hold_ret.1 h4
              have hn := drel_int (show DRel w Pr (.int k n) _ from hi)
              exact fin (m := n.toNat) (by rw [hn]; congr 1; omega) (by omega) hy rfl
            · exact (hold_fail.1 h4).elim
          · exact (hold_fail.1 h4).elim
        · obtain ⟨r, sc3, h5, h6⟩ := hold_bind.1 h4
          obtain ⟨rfl, _⟩ := hold_ret.1 h6
          obtain ⟨kd, m, sc4, q1, q2, q3⟩ := ixQ_ok hi h5
          have hn := drel_int (show DRel w Pr (.int k n) _ from hi)
          rw [hn] at q1; cases q1
          split at q3
          · rename_i y hy
            obtain ⟨rfl, _⟩ := hold_ret.1 q3
            exact fin hn q2 hy rfl
          · exact (hold_fail.1 q3).elim
      · exact (hold_fail.1 h4).elim
    · exact (hold_fail.1 h4).elim
  · exact (hold_fail.1 h4).elim

theorem optRel_of {x : Option Operand} {vs : List V} (hR : Rel P s a w μ Pr) (h : Hold O s (opds x.toList) sc vs sc') : OptRel P w Pr (view s.blks μ) vs.head? (x.map a.eval) := by
  have := opds_ok hR h
  cases x with
  | none => cases vs with
    | nil => trivial
    | cons _ _ => exact this.elim
  | some y => cases vs with
    | nil => exact this.elim
    | cons v r => exact this.1

theorem op_slice {o : Oper} {t : TypeId} {x : Operand} {lo hi mx : Option Operand} (hR : Rel P s a w μ Pr) (ho : o.op = .slice t x lo hi mx) (h : Hold O s (evOp P wr IC lit o) sc p sc') : o.wp P a w (After P (p.apply s) μ Pr w) Q := by
  simp only [evOp, ho] at h
  obtain ⟨v, sc1, h1, h⟩ := hold_bind.1 h
  obtain ⟨lv, sc2, h2, h⟩ := hold_bind.1 h
  obtain ⟨hv, sc3, h3, h⟩ := hold_bind.1 h
  obtain ⟨mv, sc4, h4, h⟩ := hold_bind.1 h
  obtain ⟨r, u, rfl, g1, g2⟩ := sliceQ_ok hR.toSRel (opd_ok hR h1) (optRel_of hR h2) (optRel_of hR h3) (optRel_of hR h4) h
  exact goes_val hR (by simp only [execOp, ho, Sem.run_bind, g1, Result.andThen_ok, Sem.run_pure]) g2

end Go.Proofs.YtbamhlgkoimjoaaDoor.Ab
/- Lists of zeros; copy; lists put into boxes and into lists. -/
namespace Go.Proofs.YtbamhlgkoimjoaaDoor.Ab
open Go
set_option linter.unusedVariables false
set_option linter.unusedSimpArgs false

variable {P : Program} {O : Orc} {s : St} {sc sc' : Script} {w w' : World} {Pr Pr' : Nat → Prop} {vw vw' : Nat → Option VW} {bl : List B} {μ : List CB} {a : Act}
  {wr : Nat → Bool} {IC : Nat → List V → List B → V → List B → Prop} {lit : Bool} {p : Patch} {Q : Exit → Act → World → Prop}

/-! ### zeros -/

theorem rows_zeros {z : D} {zv : Value} {sz m : Nat} (hzl : z.cells.length = sz) (hzs : zv.cells.size = sz) (hone : ∀ u ∈ zv.cells.toList, u.oneCell' = true) (hcells : ∀ (j : Nat) (y : D), z.cells[j]? = some y → ∃ u, zv.cells[j]? = some u ∧ DRel w Pr y u) :
    Rows' w Pr sz (List.replicate m z) (Builtin.zeroCells zv.cells m).toList := by
  have e : (Builtin.zeroCells zv.cells m).toList = (List.replicate m zv.cells.toList).flatten := zero_cells zv.cells m
  rw [e]
  refine ⟨fun u hu => ?_, fun k x hx => ?_⟩
  · obtain ⟨l', hl', hu⟩ := List.mem_flatten.1 hu
    rw [(List.mem_replicate.1 hl').2] at hu
    exact hone u hu
  · have hk : k < m := by have := (List.getElem?_eq_some_iff.1 hx).1; simpa using this
    have hxz : x = z := by
      rw [List.getElem?_replicate, if_pos hk] at hx; cases hx; rfl
    subst hxz
    refine ⟨hzl, fun j y hy => ?_⟩
    obtain ⟨u, h1, h2⟩ := hcells j y hy
    refine ⟨u, ?_, h2⟩
    have hj : j < zv.cells.size := (Array.getElem?_eq_some_iff.1 h1).1
    have hll : zv.cells.toList.length = sz := by rw [Array.length_toList]; omega
    have := get_replicate_flatten (l := zv.cells.toList) (n := m) hk (by rw [hll]; omega : j < zv.cells.toList.length)
    rw [← hll, this, Array.getElem?_toList]
    exact h1

theorem goes_zeros {o : Oper} {xo yo : Operand} {sT xT e : TypeId} {sz m : Nat} {b : Bool} {kn kq : IntKind} {z : D} (hR : Rel P s a w μ Pr)
    (ho : o.op = .call { callee := .builtin .append, args := #[xo, yo], argTypes := #[sT, xT] }) (hk : P.underlying xT = some (.int kn)) (he : elemOf P sT = some e) (hz : szOf P e = some sz) (hzd : zeroD P e = some z) (hrow : rowOk P e = true) (hzl : z.cells.length = sz)
    (hx : VRel P w Pr (view s.blks μ) (.emp b) (a.eval xo)) (hy : a.eval yo = .int kq m) (hm : m ≤ maxItems) :
    o.wp P a w (After P (({ putP o.dst (.arr s.blks.length) with push := [.lst e (List.replicate m z)] } : Patch).apply s) μ Pr w) Q := by
  have hmi : maxItems = 1099511627776 := by decide
  have hml : maxLen = 9223372036854775807 := by decide
  obtain ⟨i, zv, hi, hiz, hzs, hsz, hzi, hbytes⟩ := rowOk_ok hrow
  rw [hz] at hzi; cases hzi
  obtain ⟨zv', hzr, hzvl, hone, hcells⟩ := zeroD_ok (P := P) (w := w) (Pr := Pr) hzd
  have hzz : zv' = zv := by
    have : (zeroValue e).run P w = .ok zv w := by simp [zeroValue, typeInfo, hi, hiz]
    rw [this] at hzr; cases hzr; rfl
  subst hzz
  obtain ⟨q, hq⟩ := emp_val hx
  have hmb : m * i.bytes ≤ 140737488355328 := Nat.le_trans (Nat.mul_le_mul_right _ hm) hbytes
  by_cases hm0 : m = 0
  · subst hm0
    have hrun : (Builtin.append_ #[sT, xT] o.type #[.slice q 0 0, .int kq 0]).run P w = .ok (.slice q 0 0) w := by
      have hw0 : IntKind.i64.wrap 0 = 0 := by decide
      cases q <;> simp [Builtin.append_, run_und (elemOf_und he), run_und hk, run_szOf hz, asInt, asIntOf, typeInfo, hi, hw0, storeCells]
    refine goes_push (w' := w) (c := .lst (.zero q)) (x := hdr (.zero q) 0) hR rfl rfl rfl (Nat.le_refl _) (fun _ _ => rfl) (by simp [CB.own, H.own]) (by simp [CB.own, H.own]) ⟨i.size, [], hz, ⟨rfl, rfl⟩, by simp, by simp⟩ (exec_append ho (by rw [hq, hy]; exact hrun))
      (show VRel0 P w Pr _ (.arr s.blks.length) _ from .inl ⟨e, 0, .zero q, by rw [view_last hR.mu]; rfl, rfl⟩)
  · have hfit : Builtin.nextslicecap (0 + m) 0 * i.bytes ≤ 281474976710656 := growslice_fits (by omega) (by rw [Nat.zero_add]; omega)
    have hold : (Builtin.firstCells i.size 0 (.slice q 0 0)).run P w.drew = .ok (([] : List Value).toArray) w.drew := by cases q <;> simp [Builtin.firstCells, loadCells, loadCellsFrom]
    have hrun := Go.Lib.run_append_grow_zeros (P := P) w sT xT o.type e i zv' kq kn (elemOf_und he) hk hi hiz q 0 0 [] hold m (by omega) hsz (by omega) (by omega) (by omega) hfit
    have hge := grownCap_ge w (0 + m) 0 e
    have hcm : grownCap w (0 + m) 0 e ≤ maxLen := grownCap_le_maxLen w (0 + m) 0 e (by omega)
    have hcl : (Builtin.zeroCells zv'.cells m).toList.length = m * i.size := by rw [Array.length_toList, size_zeroCells, hzs]
    obtain ⟨w', hw'⟩ : ∃ w' : World, w' = w.drew.alloc (.cells (([] : List Value).toArray ++ Builtin.zeroCells zv'.cells m ++ Builtin.zeroCells zv'.cells (grownCap w (0 + m) 0 e - (0 + m))) e) := ⟨_, rfl⟩
    rw [← hw'] at hrun
    have hsame : ∀ k, k < w.heap.size → w'.heap[k]? = w.heap[k]? := fun k hk => by rw [hw']; exact heap_alloc_old w.drew _ k hk
    have hsize : w'.heap.size = w.heap.size + 1 := by rw [hw']; simp
    have hnew : w'.heap[w.heap.size]? = some (.cells (([] : List Value).toArray ++ Builtin.zeroCells zv'.cells m ++ Builtin.zeroCells zv'.cells (grownCap w (0 + m) 0 e - (0 + m))) e (0, 0)) := by rw [hw']; exact heap_alloc_new w.drew _
    have hown : OwnR w' e i.size (.row w.heap.size (grownCap w (0 + m) 0 e)) m (Builtin.zeroCells zv'.cells m).toList := by
      refine ⟨hcl, .inr ⟨w.heap.size, _, _, rfl, Nat.zero_le _, hnew, by omega, hcm, ?_, ?_⟩⟩
      · simp only [Array.size_append, List.size_toArray, List.length_nil, size_zeroCells, hzs]
        rw [Nat.zero_add, ← Nat.add_mul]
        congr 1
        omega
      · simp only [Array.toList_append, List.nil_append]
        rw [← hcl]
        exact List.take_left
    have hrows := rows_zeros (w := w) (Pr := Pr) (m := m) hzl hzs hone hcells
    refine goes_push (w' := w') (c := .lst (.row w.heap.size (grownCap w (0 + m) 0 e))) (x := hdr (.row w.heap.size (grownCap w (0 + m) 0 e)) m) hR (by rw [hw']; rfl) (by rw [hw']; rfl) (by rw [hw']; rfl) (by omega) hsame (by simp [CB.own, H.own]) (by simp [CB.own, H.own]; omega)
      ⟨i.size, _, hz, by rw [List.length_replicate]; exact hown, hrows.mono (fun _ h => h) (fun b hb => hsame b (hR.pr b hb))⟩ (exec_append ho (by rw [hq, hy]; rw [Nat.zero_add] at hrun; simpa [hdr] using hrun))
      (show VRel0 P w' Pr _ (.arr s.blks.length) _ from .inl ⟨e, m, _, by rw [view_last hR.mu]; simp [vwOf], rfl⟩)

/-! ### a cut list into a box -/

theorem Same.refl (w : World) (S : Nat → Prop) : Same w w S := ⟨rfl, rfl, rfl, Nat.le_refl _, fun _ _ _ => rfl⟩

/-- A list is cut, from its beginning; its other references go. -/
theorem Rel.cut {l e n : Nat} {xs : List D} (hR : Rel P s a w μ Pr) (hb : s.blks[l]? = some (.lst e xs)) (hn : n ≤ xs.length) :
    Rel P ⟨s.slots.map (kill1 l .gone), (s.blks.map (killB l .gone)).set l (.lst e (xs.take n))⟩ a w μ Pr := by
  obtain ⟨hh, wd, cs, g1, g2, g3, g4, g5⟩ := hR.toSRel.lst hb
  have hl : (xs.take n).length = n := by rw [List.length_take]; omega
  have := (hR.setList (k := .gone) (b' := .lst e (xs.take n)) (c' := .lst hh) (w' := w) hb g1 (by simp [vwOf]) (by simp) (Same.refl w _) (H.own_nodup hh) (fun q hq => .inl hq) (by simp) ⟨wd, _, g3, by rw [hl]; exact ownR_cut g4 hn, rows_cut g5 n⟩).1
  have e : μ.set l (.lst hh) = μ := by
    apply List.ext_getElem?
    intro k
    rw [List.getElem?_set]
    by_cases hk : l = k
    · subst hk; rw [if_pos rfl, if_pos (List.getElem?_eq_some_iff.1 g1).1, g1]
    · rw [if_neg hk]
  rwa [e] at this

theorem goes_storeCut {ty : Option Nat} {o : Oper} {t : TypeId} {ao xo : Operand} {id off l n e : Nat} {cs : List V} {xs : List D} (hR : Rel P s a w μ Pr) (ho : o.op = .store t ao xo) (hd : o.dst = none)
    (ha : VRel P w Pr (view s.blks μ) (.ptr id off) (a.eval ao)) (hv : VRel P w Pr (view s.blks μ) (.win l 0 n) (a.eval xo)) (hb : s.blks[id]? = some (.bx ty cs)) (hl : s.blks[l]? = some (.lst e xs)) (hne : l ≠ id) (hz : szOf P t = some 1) (hfit : off + 1 ≤ cs.length) :
    o.wp P a w (After P (({ bsets := [(l, .lst e (xs.take n)), (id, .bx ty (over (cs.map (kill1 l .gone)) off [.arr l]))], kill := [(l, .gone)] } : Patch).apply s) μ Pr w) Q := by
  obtain ⟨hh, wd, cs0, g1, g2, g3, g4, g5⟩ := hR.toSRel.lst hl
  obtain ⟨e', len, h', wd', a', cap, k1, k2, k3, k4, k5, k6, k7⟩ := hv
  rw [g2] at k1; cases k1
  have hn : n ≤ xs.length := by omega
  have hA := hR.cut hl hn
  have hbl : l < s.blks.length := (List.getElem?_eq_some_iff.1 hl).1
  have hml : l < μ.length := (List.getElem?_eq_some_iff.1 g1).1
  have hlen : (xs.take n).length = n := by rw [List.length_take]; omega
  have hmu : μ.set l (.lst hh) = μ := by
    apply List.ext_getElem?
    intro k
    rw [List.getElem?_set]
    by_cases hk : l = k
    · subst hk; rw [if_pos rfl, if_pos hml, g1]
    · rw [if_neg hk]
  have hvself : view ((s.blks.map (killB l .gone)).set l (.lst e (xs.take n))) μ l = some (.lst e n hh) := by
    have := view_killSet_self (k := .gone) (b' := .lst e (xs.take n)) (c' := .lst hh) (bl := s.blks) (μ := μ) hbl hml
    rw [hmu] at this
    rw [this]
    simp [vwOf, hlen]
  have hvid : view ((s.blks.map (killB l .gone)).set l (.lst e (xs.take n))) μ id = view s.blks μ id := by
    have := view_killSet (k := .gone) (b' := .lst e (xs.take n)) (c' := .lst hh) (bl := s.blks) (μ := μ) (id := l) (j := id) (fun e => hne e.symm)
    rwa [hmu] at this
  obtain ⟨b0, q1, q2⟩ := ha
  have := goes_storeBox (Q := Q) (id := id) (off := off) (v := .arr l) (vs := [.arr l]) (cs := cs.map (kill1 l .gone)) hA ho hd (show VRel0 P w Pr _ (.ptr id off) _ from ⟨b0, by rw [hvid]; exact q1, q2⟩)
    (show VRel0 P w Pr _ (.arr l) _ from .inl ⟨e, n, hh, hvself, k7 rfl⟩) (by simp only; rw [List.getElem?_set, if_neg hne, List.getElem?_map, hb]; rfl) rfl hz rfl (by simpa using hfit)
  refine Oper.wp_mono (fun a1 w1 h1 => ?_) this
  have e1 : ({ bsets := [(l, .lst e (xs.take n)), (id, .bx ty (over (cs.map (kill1 l .gone)) off [.arr l]))], kill := [(l, .gone)] } : Patch).apply s = ({ bsets := [(id, .bx ty (over (cs.map (kill1 l .gone)) off [.arr l]))] } : Patch).apply ⟨s.slots.map (kill1 l .gone), (s.blks.map (killB l .gone)).set l (.lst e (xs.take n))⟩ := by
    simp [Patch.apply, setAll, modAll, St.kill]
  rw [e1]
  exact h1

/-! ### copy -/

theorem rows_drop {wd : Nat} {xs : List D} {cs : List Value} (h : Rows' w Pr wd xs cs) (m : Nat) : Rows' w Pr wd (xs.drop m) (cs.drop (m * wd)) := by
  refine ⟨fun u hu => h.1 u (List.mem_of_mem_drop hu), fun i x hx => ?_⟩
  rw [List.getElem?_drop] at hx
  obtain ⟨h1, h2⟩ := h.2 _ x hx
  refine ⟨h1, fun j y hy => ?_⟩
  obtain ⟨u, g1, g2⟩ := h2 j y hy
  refine ⟨u, ?_, g2⟩
  rw [List.getElem?_drop, ← g1]
  congr 1
  rw [Nat.add_mul]; omega

theorem not_string {y : V} {t : ByteArray} {xs : List D} (hv : VRel P w Pr vw y (.string t)) (h : Hold O s (items y) sc xs sc') : ∃ l, y = .d (.str l) := by
  cases y with
  | d x =>
    have : DRel w Pr x (.string t) := hv
    cases this
    exact ⟨_, rfl⟩
  | emp b => cases b <;> first | (obtain ⟨q, hq⟩ := hv; cases hq) | (cases (show Value.string t = .slice none 0 0 from hv))
  | nnil => obtain ⟨q, c, hq⟩ := hv; cases hq
  | arr id => rcases hv with ⟨_, _, hh, _, hq⟩ | ⟨_, _, _, _, _, _, hq⟩ <;> first | (cases hh <;> cases hq; done) | (cases hq; done)
  | inn id i => obtain ⟨_, _, _, _, _, _, hh, _, _, _, hq⟩ := hv; cases hh <;> cases hq
  | win id lo n => obtain ⟨_, _, _, _, _, _, _, _, hq, _⟩ := hv; cases hq
  | _ => exact (hold_fail.1 h).elim

theorem goes_copy {o : Oper} {xo yo : Operand} {dT sT e : TypeId} {id lo n sz : Nat} {y : V} {xs ys : List D} {sc0 sc1 : Script} (hR : Rel P s a w μ Pr)
    (ho : o.op = .call { callee := .builtin .copy, args := #[xo, yo], argTypes := #[dT, sT] }) (he : elemOf P dT = some e) (hz : szOf P e = some sz)
    (hlst : s.blks[id]? = some (.lst e xs)) (hln : lo + n ≤ xs.length) (hx : ∃ cap q, a.eval xo = .slice q n cap ∧ (0 < n → ∃ b c, μ[id]? = some (.lst (.row b c)) ∧ q = some ⟨b, lo * sz, none⟩))
    (hy : VRel P w Pr (view s.blks μ) y (a.eval yo)) (h1 : Hold O s (items y) sc0 ys sc1) (hns : ∀ l, y ≠ .d (.str l)) (hw : ∀ d ∈ ys, d.cells.length = sz) :
    o.wp P a w (After P (({ putP o.dst (.d (.int .i64 (min n ys.length : Nat))) with bsets := [(id, .lst e (xs.take lo ++ ys.take n ++ xs.drop (lo + min n ys.length)))] } : Patch).apply s) μ Pr w) Q := by
  obtain ⟨hh, wd, cs, g1, g2, g3, g4, g5⟩ := hR.toSRel.lst hlst
  rw [hz] at g3; cases g3
  obtain ⟨cap, q, hxe, hbase⟩ := hx
  have hlt := (List.getElem?_eq_some_iff.1 hlst).1
  have hcl := ownR_len g4
  -- what is read
  have hsrc : ∃ base cap2, a.eval yo = .slice base ys.length cap2 ∧ (ys = [] ∨ ∃ b o, base = some ⟨b, o, none⟩ ∧ Reads w Pr sz ys b o) := by
    rcases items_ok hR.toSRel (items_simple hy h1) h1 with ⟨t, ht, _⟩ | ⟨base, cap2, hv, hor⟩
    · rw [ht] at hy; obtain ⟨l, hl⟩ := not_string hy h1; exact (hns l hl).elim
    · refine ⟨base, cap2, hv, hor.imp_right fun ⟨b, o, wd, hb, hr⟩ => ?_⟩
      by_cases hys : ys = []
      · subst hys; exact ⟨b, o, hb, by simp [Reads]⟩
      · obtain ⟨d, r, rfl⟩ := List.exists_cons_of_ne_nil hys
        have : wd = sz := by rw [← hr.1 0 d rfl, hw d (List.mem_cons_self ..)]
        subst this
        exact ⟨b, o, hb, hr⟩
  obtain ⟨base, cap2, hye, hor⟩ := hsrc
  obtain ⟨k, hk⟩ : ∃ k, k = min n ys.length := ⟨_, rfl⟩
  have hkn : Nat.min ys.length n = k := by show min ys.length n = k; omega
  obtain ⟨news, n1, n2, n3, n4⟩ : ∃ news : List Value, news.length = k * sz ∧ (Builtin.firstCells sz k (.slice base ys.length cap2)).run P w = .ok news.toArray w ∧ (∀ u ∈ news, u.oneCell' = true) ∧ Rows' w Pr sz (ys.take n) news := by
    by_cases hk0 : k = 0
    · have hrun0 : (Builtin.firstCells sz 0 (.slice base ys.length cap2)).run P w = .ok (([] : List Value).toArray) w := by cases base <;> simp [Builtin.firstCells, loadCells, loadCellsFrom]
      have ht0 : ys.take n = [] := by rcases Nat.eq_zero_or_pos n with h | h; · rw [h]; rfl
                                      · have : ys.length = 0 := by omega
                                        rw [List.eq_nil_of_length_eq_zero this]; exact List.take_nil
      exact ⟨[], by simp [hk0], by rw [hk0]; exact hrun0, by simp, by rw [ht0]; exact rows_nil sz⟩
    · rcases hor with rfl | ⟨b, o, rfl, hr⟩
      · simp at hk; omega
      · obtain ⟨all, a1, a2, a3, a4⟩ := flat_reads hr
        have hle : k * sz ≤ ys.length * sz := Nat.mul_le_mul_right _ (by omega)
        refine ⟨all.take (k * sz), by rw [List.length_take, a1]; omega, ?_, fun u hu => a3 u (List.mem_of_mem_take hu), ?_⟩
        · refine run_firstCells_some w sz k _ _ _ _ (by rw [List.length_take, a1]; omega) (fun j v hj => ?_)
          rw [Addr.add_mid]
          rw [List.getElem?_take] at hj
          split at hj
          · exact a2 j v hj
          · cases hj
        · have hyr : Rows' w Pr sz ys all := ⟨a3, fun i d hd => ⟨hr.1 i d hd, a4 i d hd⟩⟩
          have := rows_cut hyr k
          have e1 : ys.take k = ys.take n := by
            rcases Nat.le_total n ys.length with h | h
            · rw [show k = n by omega]
            · rw [List.take_of_length_le (by omega : ys.length ≤ k), List.take_of_length_le h]
          rwa [e1] at this
  have hlen : (xs.take lo ++ ys.take n ++ xs.drop (lo + min n ys.length)).length = xs.length := by
    simp only [List.length_append, List.length_take, List.length_drop]; omega
  have fin : ∀ w', (Builtin.copy_ #[dT, sT] o.type #[a.eval xo, a.eval yo]).run P w = .ok (.int .i64 k) w' → Same w w' (· ∈ hh.own) → BRel P w' Pr (view s.blks μ) (.lst e (xs.take lo ++ ys.take n ++ xs.drop (lo + min n ys.length))) (.lst hh) →
      o.wp P a w (After P (({ putP o.dst (.d (.int .i64 (min n ys.length : Nat))) with bsets := [(id, .lst e (xs.take lo ++ ys.take n ++ xs.drop (lo + min n ys.length)))] } : Patch).apply s) μ Pr w) Q := by
    intro w' hrun hS hB
    have hex : (execOp a.eval o).run P w = .ok (.value (.int .i64 k)) w' := by
      simp only [execOp, ho, resolve, invoke, builtin, Sem.run_bind, Sem.run_pure, Result.andThen_ok, List.map_toArray, List.map_cons, List.map_nil, hrun]
    have key := hR.setSame (b' := .lst e (xs.take lo ++ ys.take n ++ xs.drop (lo + min n ys.length))) hlst g1 (by simp only [vwOf, hlen]) hS hB
    unfold Oper.wp
    rw [hex]
    refine ⟨μ, Pr, ?_, key.2, .refl _⟩
    have e1 : ({ putP o.dst (.d (.int .i64 (min n ys.length : Nat))) with bsets := [(id, .lst e (xs.take lo ++ ys.take n ++ xs.drop (lo + min n ys.length)))] } : Patch).apply s = setSlot ⟨s.slots, s.blks.set id (.lst e (xs.take lo ++ ys.take n ++ xs.drop (lo + min n ys.length)))⟩ o.dst (.d (.int .i64 (min n ys.length : Nat))) := by
      cases o.dst <;> simp [putP, Patch.apply, setAll, modAll, setSlot]
    rw [e1, ← hk]
    rw [← hk] at key
    exact key.1.setSlot P _ (show DRel w' Pr (.int .i64 k) _ from .int _ _)
  have hrun1 : ∀ w', (∀ q', q = some q' → (storeCells q' news).run P w = .ok () w') → (q = none → w' = w) → (Builtin.copy_ #[dT, sT] o.type #[a.eval xo, a.eval yo]).run P w = .ok (.int .i64 k) w' := by
    intro w' hs hn
    rw [hxe, hye]
    have hf : (Builtin.firstCells sz k (.slice base ys.length cap2)).run P w = .ok news.toArray w := n2
    simp only [Builtin.copy_, List.getElem?_toArray, List.getElem?_cons_zero, List.getElem?_cons_succ, Sem.run_bind, run_und (elemOf_und he), Result.andThen_ok, Builtin.lenOf, Sem.run_pure, hkn, run_szOf hz, hf]
    cases q with
    | none => rw [hn rfl]; simp [goInt]
    | some q' => simp [hs q' rfl, goInt]
  by_cases hk0 : k = 0
  · have hnews : news = [] := List.eq_nil_of_length_eq_zero (by rw [n1, hk0, Nat.zero_mul])
    have hsame : xs.take lo ++ ys.take n ++ xs.drop (lo + min n ys.length) = xs := by
      have ht0 : ys.take n = [] := by
        rcases Nat.eq_zero_or_pos n with h | h
        · rw [h]; rfl
        · have : ys.length = 0 := by omega
          rw [List.eq_nil_of_length_eq_zero this]; exact List.take_nil
      rw [ht0, ← hk, hk0, List.append_nil, Nat.add_zero, List.take_append_drop]
    refine fin w (hrun1 w (fun q' _ => by rw [hnews]; simp [storeCells]) (fun _ => rfl)) (Same.refl w _) ?_
    rw [hsame]
    exact ⟨sz, cs, hz, g4, g5⟩
  · obtain ⟨b, c, m1, m2⟩ := hbase (by omega)
    rw [g1] at m1; cases m1
    rcases g4.2 with ⟨hv, _⟩ | ⟨g, c', cur, hv, hbg, hg, hnc, hcm, hcz, htake⟩
    · simp at hv
    simp at hv
    obtain ⟨rfl, rfl⟩ := hv
    have hkl : k ≤ n := by omega
    have hfit : lo * sz + news.length ≤ xs.length * sz := by
      rw [n1, ← Nat.add_mul]; exact Nat.mul_le_mul_right _ (by omega)
    have hfc : xs.length * sz ≤ c * sz := Nat.mul_le_mul_right _ hnc
    have hst := run_storeCells_at P b (lo * sz) e news 0 cur w hg (by rw [hcz]; omega) n3
    simp only [Nat.add_zero] at hst
    obtain ⟨w', hw'⟩ : ∃ w' : World, w' = w.setRow b (cur.toList.take (lo * sz) ++ news ++ cur.toList.drop (lo * sz + news.length)).toArray := ⟨_, rfl⟩
    rw [← hw'] at hst
    have hS : Same w w' (· ∈ (H.row b c).own) := by rw [hw']; exact ⟨rfl, rfl, rfl, by simp, fun j hj hn => setRow_other w b j _ (fun e => hn (by simp [H.own, e]))⟩
    have hnewc : w'.heap[b]? = some (.cells (cur.toList.take (lo * sz) ++ news ++ cur.toList.drop (lo * sz + news.length)).toArray e (0, 0)) := by rw [hw']; exact setRow_heap w b cur _ e _ hg
    have hnp : ∀ b', b' ∈ (H.row b c).own → ¬ Pr b' := fun b' hb => (hR.lt b' (List.mem_flatMap.2 ⟨_, List.mem_of_getElem? g1, hb⟩)).2
    have hpw : ∀ b', Pr b' → w'.heap[b']? = w.heap[b']? := hS.pr hR.pr hnp
    refine fin w' (hrun1 w' (fun q' hq => by rw [m2] at hq; cases hq; exact hst) (fun hq => by rw [m2] at hq; cases hq)) hS ⟨sz, cs.take (lo * sz) ++ news ++ cs.drop ((lo + k) * sz), hz, ?_, ?_⟩
    · rw [hlen]
      have hcut : (cur.toList.take (lo * sz) ++ news ++ cur.toList.drop (lo * sz + news.length)).take (xs.length * sz) = cs.take (lo * sz) ++ news ++ cs.drop ((lo + k) * sz) := by
        have hl1 : (cur.toList.take (lo * sz)).length = lo * sz := by rw [List.length_take, Array.length_toList]; omega
        rw [List.append_assoc, List.take_append, hl1, List.take_append, List.take_take, Nat.min_eq_right (by omega), List.take_of_length_le (by omega : news.length ≤ xs.length * sz - lo * sz), List.append_assoc]
        congr 1
        · rw [← htake, List.take_take, Nat.min_eq_left (by omega)]
        · congr 1
          rw [← htake, List.drop_take, n1, Nat.add_mul]
          congr 1
          omega
      refine ⟨?_, .inr ⟨b, c, _, rfl, hbg, hnewc, hnc, hcm, ?_, by simpa using hcut⟩⟩
      · simp only [List.length_append, List.length_take, List.length_drop, hcl, n1]
        have : (lo + k) * sz ≤ xs.length * sz := Nat.mul_le_mul_right _ (by omega)
        rw [Nat.add_mul] at this ⊢
        omega
      · simp only [List.size_toArray, List.length_append, List.length_take, List.length_drop, Array.length_toList]
        omega
    · have ra := (rows_cut g5 lo).mono (fun _ h => h) hpw
      have rb := n4.mono (fun _ h => h) hpw
      have rc := (rows_drop g5 (lo + k)).mono (fun _ h => h) hpw
      have la : (cs.take (lo * sz)).length = (xs.take lo).length * sz := by
        have : lo * sz ≤ xs.length * sz := Nat.mul_le_mul_right _ (by omega)
        rw [List.length_take, List.length_take, hcl, Nat.min_eq_left this, Nat.min_eq_left (by omega)]
      have lyt : (ys.take n).length = k := by rw [List.length_take, hk]
      have lb : (cs.take (lo * sz) ++ news).length = (xs.take lo ++ ys.take n).length * sz := by
        rw [List.length_append, List.length_append, la, n1, lyt, Nat.add_mul]
      have rab := rows_append la ra rb.1 rb.2
      rw [← hk]
      exact rows_append lb rab rc.1 rc.2

/-! ### a list into a list of lists -/

theorem goes_storeInner {o : Oper} {t : TypeId} {ao xo : Operand} {id i l st e : Nat} {xss : List (Option (List D))} {ys : List D} (hR : Rel P s a w μ Pr) (ho : o.op = .store t ao xo) (hd : o.dst = none)
    (ha : VRel P w Pr (view s.blks μ) (.eptr id i 0) (a.eval ao)) (hv : VRel P w Pr (view s.blks μ) (.arr l) (a.eval xo)) (hb : s.blks[id]? = some (.lst2 st xss)) (hl : s.blks[l]? = some (.lst e ys)) (hne : l ≠ id) (hz : szOf P t = some 1) (hst : elemOf P st = some e) :
    o.wp P a w (After P (({ bsets := [(l, .dead), (id, .lst2 st (xss.set i (some ys)))], kill := [(l, .gone), (id, .inner)] } : Patch).apply s) μ Pr w) Q := by
  obtain ⟨hh, wd, cs, g1, g2, g3, g4, g5⟩ := hR.toSRel.lst hl
  obtain ⟨c, c1, c2, c3⟩ := hR.toSRel.at hb
  rcases ha with ⟨e', n, b, cap, wd2, k1, _⟩ | ⟨s', lens, b, cap, inner, k1, k2, k3, hae⟩ | ⟨b, k1, _⟩
  rotate_left 2
  · rw [c3] at k1; cases c <;> simp [vwOf] at k1
  · rw [c3] at k1; cases c <;> simp [vwOf] at k1
  rw [c3] at k1
  cases c with
  | lst2 b' cap' inner' =>
    simp only [vwOf, Option.some.injEq, VW.lst2.injEq] at k1
    obtain ⟨rfl, rfl, rfl, rfl, rfl⟩ := k1
    obtain ⟨cur, e2, wd2, q1, q2, q3, q4, q5, q6, q7, q8, q9, q10⟩ := c2
    rw [hst] at q7; cases q7
    rw [g3] at q8; cases q8
    have hil : i < xss.length := by simpa using k2
    rcases hv with ⟨e3, n3, h3, p1, p2⟩ | ⟨s3, l3, b3, c3', i3, p1, _⟩
    rotate_left
    · rw [g2] at p1; cases p1
    rw [g2] at p1; cases p1
    have hcell : (a.eval xo).cells = #[hdr hh ys.length] := by rw [p2]; cases hh <;> rfl
    have hone : (hdr hh ys.length).oneCell' = true := by cases hh <;> rfl
    have hrun := exec_store (P := P) (w := w) ho hae q1 hz (by rw [hcell]; rfl) (by rw [q4]; omega) (fun u hu => by rw [hcell] at hu; simp at hu; subst hu; exact hone)
    rw [hcell] at hrun
    obtain ⟨w', hw'⟩ : ∃ w' : World, w' = w.setRow b' (cur.toList.take i ++ #[hdr hh ys.length].toList ++ cur.toList.drop (i + #[hdr hh ys.length].toList.length)).toArray := ⟨_, rfl⟩
    rw [← hw'] at hrun
    have hS : Same w w' (· ∈ [b']) := by rw [hw']; exact setRow_same
    have hnew : w'.heap[b']? = some (.cells (cur.toList.take i ++ #[hdr hh ys.length].toList ++ cur.toList.drop (i + #[hdr hh ys.length].toList.length)).toArray st (0, 0)) := by rw [hw']; exact setRow_heap w b' cur _ st _ q1
    have hbl : l < s.blks.length := (List.getElem?_eq_some_iff.1 hl).1
    have hml : l < μ.length := (List.getElem?_eq_some_iff.1 g1).1
    have hbi : id < s.blks.length := (List.getElem?_eq_some_iff.1 hb).1
    have hmi : id < μ.length := (List.getElem?_eq_some_iff.1 c1).1
    have hcn : (b' :: inner'.flatMap H.own).Nodup := own_nodup hR.nodup c1
    rw [List.nodup_cons] at hcn
    have hco : ∀ q ∈ (CB.lst2 b' cap' inner').own, q ∈ owns μ := fun q hq => List.mem_flatMap.2 ⟨_, List.mem_of_getElem? c1, hq⟩
    have hho : ∀ q ∈ hh.own, q ∈ owns μ := fun q hq => List.mem_flatMap.2 ⟨_, List.mem_of_getElem? g1, hq⟩
    have hdis : ∀ q ∈ hh.own, q ∉ (CB.lst2 b' cap' inner').own := fun q hq => nodup_own hR.nodup l id _ _ g1 c1 hne q hq
    have hbo : b' ∈ owns μ := hco b' (by simp [CB.own])
    have hpw : ∀ q, Pr q → w'.heap[q]? = w.heap[q]? := fun q hq => hS.block q (hR.pr q hq) (fun hm => by simp at hm; subst hm; exact (hR.lt q hbo).2 hq)
    let bl1 := (s.blks.map (killB l .gone)).map (killB id .inner)
    let bl' := (bl1.set l .dead).set id (.lst2 st (xss.set i (some ys)))
    let μ' := (μ.set l .dead).set id (.lst2 b' cap' (inner'.set i hh))
    have hsub : ∀ q ∈ owns μ', q ∈ owns μ := by
      intro q hq
      rcases mem_owns_set hq with h1 | ⟨j, d, hj, hd, hqd⟩
      · simp only [CB.own, List.mem_cons, List.mem_flatMap] at h1
        rcases h1 with rfl | ⟨h2, hm2, hq2⟩
        · exact hbo
        · rcases List.mem_or_eq_of_mem_set hm2 with h3 | rfl
          · exact hco q (by simp only [CB.own, List.mem_cons, List.mem_flatMap]; exact .inr ⟨h2, h3, hq2⟩)
          · exact hho q hq2
      · by_cases hjl : j = l
        · subst hjl
          rw [List.getElem?_set_self hml] at hd; cases hd; simp [CB.own] at hqd
        · rw [List.getElem?_set, if_neg (fun e => hjl e.symm)] at hd
          exact List.mem_flatMap.2 ⟨d, List.mem_of_getElem? hd, hqd⟩
    have hnd1 : (owns (μ.set l .dead)).Nodup := nodup_owns_set hR.nodup g1 (by simp [CB.own]) (by simp [CB.own])
    have hnh : ∀ q ∈ hh.own, q ∉ owns (μ.set l .dead) := by
      intro q hq hm
      rcases mem_owns_set hm with h1 | ⟨j, d, hj, hd, hqd⟩
      · simp [CB.own] at h1
      · exact nodup_own hR.nodup l j _ d g1 hd (fun e => hj e.symm) q hq hqd
    have c1' : (μ.set l .dead)[id]? = some (.lst2 b' cap' inner') := by rw [List.getElem?_set, if_neg hne]; exact c1
    have hnd : (owns μ').Nodup := by
      obtain ⟨h0, hi0⟩ : ∃ h0, inner'[i]? = some h0 := ⟨_, List.getElem?_eq_getElem (by omega)⟩
      refine nodup_owns_set hnd1 c1' ?_ fun q hq => ?_
      · show (b' :: (inner'.set i hh).flatMap H.own).Nodup
        rw [List.nodup_cons]
        refine ⟨fun hm => ?_, flat_set_nodup (i := i) hh hcn.2 hi0 hh.own_nodup (fun q hq => .inr fun hm => hdis q hq (by simp only [CB.own]; exact List.mem_cons_of_mem _ hm))⟩
        obtain ⟨y, hy, hby⟩ := List.mem_flatMap.1 hm
        rcases List.mem_or_eq_of_mem_set hy with h2 | rfl
        · exact hcn.1 (List.mem_flatMap.2 ⟨y, h2, hby⟩)
        · exact hdis b' hby (by simp [CB.own])
      · simp only [CB.own, List.mem_cons, List.mem_flatMap] at hq
        rcases hq with rfl | ⟨h2, hm2, hq2⟩
        · exact .inl (by simp [CB.own])
        · rcases List.mem_or_eq_of_mem_set hm2 with h3 | rfl
          · exact .inl (by simp only [CB.own, List.mem_cons, List.mem_flatMap]; exact .inr ⟨h2, h3, hq2⟩)
          · exact .inr (hnh q hq2)
    have hev : Evo (owns μ) Pr w (owns μ') Pr w' := ⟨hS.os, hS.tape, hS.output, hS.size, fun q hq hno => hS.block q hq (fun hm => by simp at hm; subst hm; exact hno hbo), fun q hq => .inl (hsub q hq), fun _ h => h, fun _ h => .inl h⟩
    -- what references see
    let vw1 : Nat → Option VW := fun j => if j = l then none else view s.blks μ j
    have hvo : ∀ j, j ≠ l → j ≠ id → view bl' μ' j = view s.blks μ j := by
      intro j h1 h2
      simp only [bl', μ', bl1, view]
      rw [List.getElem?_set, if_neg (fun e => h2 e.symm), List.getElem?_set, if_neg (fun e => h1 e.symm), List.getElem?_set, if_neg (fun e => h2 e.symm), List.getElem?_set, if_neg (fun e => h1 e.symm), List.getElem?_map, List.getElem?_map]
      cases s.blks[j]? with
      | none => rfl
      | some x => cases μ[j]? with
        | none => rfl
        | some c => simp [vwOf_kill]
    have hvi : view bl' μ' id = vwOf (.lst2 st (xss.set i (some ys))) (.lst2 b' cap' (inner'.set i hh)) := by
      simp only [bl', μ', bl1, view]
      rw [List.getElem?_set_self (by simpa using hbi), List.getElem?_set_self (by simpa using hmi)]
    have hK1 : KillOk P w Pr (view s.blks μ) w Pr vw1 l .gone := ⟨fun _ h => h, fun _ _ => rfl, fun j hj _ => by simp only [vw1]; rw [if_neg hj], fun q => by rw [g2]; simp, by simp, by simp⟩
    have hv1i : vw1 id = vwOf (.lst2 st xss) (.lst2 b' cap' inner') := by simp only [vw1]; rw [if_neg (fun e => hne e.symm)]; exact c3
    have hK2 : KillOk P w Pr vw1 w' Pr (view bl' μ') id .inner := by
      refine ⟨fun _ h => h, hpw, fun j hj hne1 => ?_, fun q => by rw [hv1i]; simp [vwOf], by simp, fun _ => inner_stay hv1i hvi (by simp)⟩
      have hjl : j ≠ l := fun e => hne1 (by simp only [vw1]; rw [if_pos e])
      rw [hvo j hjl hj]
      simp only [vw1]; rw [if_neg hjl]
    have hRel : Rel P ⟨(s.slots.map (kill1 l .gone)).map (kill1 id .inner), bl'⟩ a w' μ' Pr := by
      refine ⟨⟨by simp [bl', μ', bl1, hR.mu], fun j x y hx hy => ?_, hnd, fun q hq => ⟨Nat.lt_of_lt_of_le (hR.lt q (hsub q hq)).1 hS.size, (hR.lt q (hsub q hq)).2⟩, fun q hq => Nat.lt_of_lt_of_le (hR.pr q hq) hS.size, hR.glob.mono (fun _ h => h) hpw⟩, hR.defers, by simp [hR.len], fun m v hm => ?_⟩
      · show BRel P w' Pr (view bl' μ') x y
        by_cases hji : j = id
        · subst hji
          simp only [bl', bl1] at hx
          simp only [μ'] at hy
          rw [List.getElem?_set_self (by simpa using hbi)] at hx
          rw [List.getElem?_set_self (by simpa using hmi)] at hy
          cases hx; cases hy
          refine ⟨_, e, wd, hnew, by simpa using q2, q3, ?_, by simp [q5], q6, hst, g3, fun u hu => ?_, fun j2 ys2 h2 hj2 hj3 => ?_⟩
          · simp only [List.size_toArray, List.length_append, List.length_take, List.length_drop, Array.length_toList, List.length_singleton]
            omega
          · simp only [List.mem_append] at hu
            rcases hu with (hu | hu) | hu
            · exact q9 u (List.mem_of_mem_take hu)
            · simp at hu; subst hu; exact hone
            · exact q9 u (List.mem_of_mem_drop hu)
          · rw [List.getElem?_set] at hj2 hj3
            by_cases hjk : i = j2
            · subst hjk
              rw [if_pos rfl, if_pos hil] at hj2
              rw [if_pos rfl, if_pos (by omega)] at hj3
              cases hj2; cases hj3
              refine ⟨?_, cs, ownR_same (fun q hq => hS.block q (hR.lt q (hho q hq)).1 (fun hm => ?_)) g4, g5.mono (fun _ h => h) hpw⟩
              · simp only [List.getElem?_toArray]
                rw [List.append_assoc, List.getElem?_append_right (by simp; omega)]
                have : i - (cur.toList.take i).length = 0 := by simp; omega
                rw [this]; rfl
              · simp at hm; subst hm
                exact hdis q hq (by simp [CB.own])
            · rw [if_neg hjk] at hj2 hj3
              obtain ⟨p1, cs2, p2, p3⟩ := q10 j2 ys2 h2 hj2 hj3
              have hin2 : ∀ q ∈ h2.own, q ∈ inner'.flatMap H.own := fun q hq => List.mem_flatMap.2 ⟨_, List.mem_of_getElem? hj3, hq⟩
              refine ⟨?_, cs2, ownR_same (fun q hq => hS.block q (hR.lt q (hco q ?_)).1 (fun hm => ?_)) p2, p3.mono (fun _ h => h) hpw⟩
              · simp only [List.getElem?_toArray]
                rw [getElem?_over _ _ _ _ (by simp; omega)]
                split
                · rw [← p1, Array.getElem?_toList]
                · split
                  · rename_i h5 h6; simp at h6; omega
                  · rw [← p1, Array.getElem?_toList]
              · simp only [CB.own]; exact List.mem_cons_of_mem _ (hin2 q hq)
              · simp at hm; subst hm; exact hcn.1 (hin2 q hq)
        · by_cases hjl : j = l
          · subst hjl
            simp only [bl', bl1] at hx
            simp only [μ'] at hy
            rw [List.getElem?_set, if_neg (fun e => hji e.symm), List.getElem?_set_self (by simpa using hbl)] at hx
            rw [List.getElem?_set, if_neg (fun e => hji e.symm), List.getElem?_set_self hml] at hy
            cases hx; cases hy
            trivial
          · simp only [bl', bl1] at hx
            simp only [μ'] at hy
            rw [List.getElem?_set, if_neg (fun e => hji e.symm), List.getElem?_set, if_neg (fun e => hjl e.symm), List.getElem?_map, List.getElem?_map] at hx
            rw [List.getElem?_set, if_neg (fun e => hji e.symm), List.getElem?_set, if_neg (fun e => hjl e.symm)] at hy
            obtain ⟨x1, hx1, rfl⟩ := Option.map_eq_some_iff.1 hx
            obtain ⟨x0, hx0, rfl⟩ := Option.map_eq_some_iff.1 hx1
            have hb0 := hR.blks j x0 y hx0 hy
            refine killB_ok hK2 (fun q hq => hS.block q (hR.lt q (List.mem_flatMap.2 ⟨y, List.mem_of_getElem? hy, hq⟩)).1 (fun hm => ?_)) (killB_ok hK1 (fun q hq => rfl) hb0)
            simp at hm; subst hm
            exact nodup_own hR.nodup j id y _ hy c1 hji q hq (by simp [CB.own])
      · simp only at hm
        rw [List.getElem?_map, Option.map_eq_some_iff] at hm
        obtain ⟨v1, hv1, rfl⟩ := hm
        rw [List.getElem?_map, Option.map_eq_some_iff] at hv1
        obtain ⟨v0, hv0, rfl⟩ := hv1
        exact killV_ok hK2 (killV_ok hK1 (hR.slots m v0 hv0))
    unfold Oper.wp
    rw [hrun]
    refine ⟨μ', Pr, ?_, hev, .trans (.set g1 (by simp)) (.set c1' (by simp))⟩
    have : (({ bsets := [(l, .dead), (id, .lst2 st (xss.set i (some ys)))], kill := [(l, .gone), (id, .inner)] } : Patch).apply s) = ⟨(s.slots.map (kill1 l .gone)).map (kill1 id .inner), bl'⟩ := by
      simp [Patch.apply, setAll, modAll, St.kill, bl', bl1]
    rw [this, hd]
    exact hRel
  | _ => simp [vwOf] at k1

end Go.Proofs.YtbamhlgkoimjoaaDoor.Ab
/- New slices, stores, builtins, as operations. -/
namespace Go.Proofs.YtbamhlgkoimjoaaDoor.Ab
open Go
set_option linter.unusedVariables false
set_option linter.unusedSimpArgs false

variable {P : Program} {O : Orc} {s : St} {sc sc' : Script} {w w' : World} {Pr Pr' : Nat → Prop} {vw vw' : Nat → Option VW} {bl : List B} {μ : List CB} {a : Act}
  {wr : Nat → Bool} {IC : Nat → List V → List B → V → List B → Prop} {lit : Bool} {p : Patch} {Q : Exit → Act → World → Prop}

theorem op_makeSlice {o : Oper} {t : TypeId} {l c : Operand} (hR : Rel P s a w μ Pr) (ho : o.op = .makeSlice t l c) (h : Hold O s (evOp P wr IC lit o) sc p sc') : o.wp P a w (After P (p.apply s) μ Pr w) Q := by
  simp only [evOp, ho] at h
  replace h := hold_bind.1 h; obtain ⟨lv, sc1, h1, h⟩ := h
  replace h := hold_bind.1 h; obtain ⟨cv, sc2, h2, h⟩ := h
  have hl := opd_ok hR h1
  have hc := opd_ok hR h2
  split at h
  · rename_i n _ m e he
    replace hl := drel_int (show DRel w Pr (.int _ n) _ from hl)
    replace hc := drel_int (show DRel w Pr (.int _ m) _ from hc)
    split at h
    · rename_i sz z hz hzd
      split at h
      · exact (hold_fail.1 h).elim
      · rename_i hrow
        simp only [not_or, Bool.not_eq_false, Decidable.not_not] at hrow
        have fin : ∀ {k : Nat} {two : Bool} {sc : Script}, n = (k : Int) → m = (k : Int) → k ≤ maxItems → Hold O s (makeQ P o.dst e two z k) sc p sc' → o.wp P a w (After P (p.apply s) μ Pr w) Q := by
          intro k two sc hn hm hk hq
          subst hn; subst hm
          unfold makeQ at hq
          split at hq
          · split at hq
            · rename_i wd b h3 h4 h5
              rw [hold_nblk] at hq
              obtain ⟨rfl, _⟩ := hold_ret.1 hq
              obtain ⟨e', h6, h7⟩ := Option.bind_eq_some_iff.1 h3
              exact goes_makeList2 hR ho he h4 h6 h7 h5 hrow.1 hk hl hc
            · exact (hold_fail.1 hq).elim
          · rw [hold_nblk] at hq
            obtain ⟨rfl, _⟩ := hold_ret.1 hq
            exact goes_makeList hR ho he hz hzd hrow.1 hrow.2 hk hl hc
        rw [hold_pop] at h
        rcases h with ⟨_, h⟩ | ⟨it, u, _, h⟩
        · simp only at h
          split at h
          · rename_i hb; exact fin (k := n.toNat) (by omega) (by omega) (by omega) h
          · exact (hold_fail.1 h).elim
        · split at h
          · obtain ⟨⟨k1, k2, k3⟩, h⟩ := hold_req.1 h; exact fin k1 k2 k3 h
          · obtain ⟨⟨k1, k2, k3⟩, h⟩ := hold_req.1 h; exact fin k1 k2 k3 h
          · exact (hold_fail.1 h).elim
          · rename_i hno; cases hno
    · exact (hold_fail.1 h).elim
  · exact (hold_fail.1 h).elim

theorem plainD_ok {v : V} {x : D} {u : Value} (hv : VRel P w Pr vw v u) (h : Hold O s (plainD v) sc x sc') : DRel w Pr x u := by
  unfold plainD at h
  split at h
  · obtain ⟨rfl, _⟩ := hold_ret.1 h; exact hv
  · obtain ⟨rfl, _⟩ := hold_ret.1 h
    obtain ⟨q, rfl⟩ := emp_val hv
    exact .sl0 _ _
  · obtain ⟨rfl, _⟩ := hold_ret.1 h
    obtain ⟨q, c, rfl⟩ := id hv
    exact .sl0 _ _
  · exact (hold_fail.1 h).elim

/-- The cells of a datum's value. -/
theorem drel_cells {x : D} {u : Value} (h : DRel w Pr x u) : x.cells.length = u.cells.size ∧ (∀ v ∈ u.cells.toList, v.oneCell' = true) ∧ ∀ (j : Nat) (y : D), x.cells[j]? = some y → ∃ v, u.cells[j]? = some v ∧ DRel w Pr y v := by
  have one : (∀ ds, x ≠ .agg ds) → x.cells = [x] → x.cells.length = u.cells.size ∧ (∀ v ∈ u.cells.toList, v.oneCell' = true) ∧ ∀ (j : Nat) (y : D), x.cells[j]? = some y → ∃ v, u.cells[j]? = some v ∧ DRel w Pr y v := by
    intro hn hx
    obtain ⟨h1, h2⟩ := drel_one h hn
    rw [hx, h2]
    refine ⟨rfl, by simpa using h1, fun j y hy => ?_⟩
    cases j with
    | zero => simp at hy; subst hy; exact ⟨u, rfl, h⟩
    | succ j => simp at hy
  cases x with
  | agg ds =>
    obtain ⟨cs, rfl, hl, h1, hd⟩ := drel_agg h
    refine ⟨by simp [D.cells, Value.cells, hl], by simpa [Value.cells] using h1, fun j y hy => ?_⟩
    have hj : j < cs.length := by rw [← hl]; exact (List.getElem?_eq_some_iff.1 hy).1
    exact ⟨cs[j], by simp [Value.cells, hj], hd j y cs[j] hy (List.getElem?_eq_getElem hj)⟩
  | _ => exact one (by simp) rfl

theorem op_store {o : Oper} {t : TypeId} {ao xo : Operand} (hR : Rel P s a w μ Pr) (ho : o.op = .store t ao xo) (hd : o.dst = none) (h : Hold O s (evOp P wr IC lit o) sc p sc') : o.wp P a w (After P (p.apply s) μ Pr w) Q := by
  simp only [evOp, ho] at h
  replace h := hold_bind.1 h; obtain ⟨av, sc1, h1, h⟩ := h
  replace h := hold_bind.1 h; obtain ⟨v, sc2, h2, h⟩ := h
  have ha := opd_ok hR h1
  have hv := opd_ok hR h2
  unfold storeQ at h
  split at h
  · rename_i id off
    rw [hold_blk] at h
    split at h
    · rename_i cs hb
      split at h
      · rename_i l n hcut
        have hvw : v = .win l 0 n := by
          unfold cutOf at hcut
          split at hcut
          · cases hcut; rfl
          · cases hcut
        subst hvw
        rw [hold_blk] at h
        split at h
        · rename_i e xs hl
          split at h
          · exact (hold_fail.1 h).elim
          · rename_i hne
            split at h
            · rename_i hz
              split at h
              · rename_i hfit
                obtain ⟨rfl, _⟩ := hold_ret.1 h
                exact goes_storeCut hR ho hd ha hv (blk_some hb (by simp)) (blk_some hl (by simp)) hne hz hfit
              · exact (hold_fail.1 h).elim
            · exact (hold_fail.1 h).elim
        · exact (hold_fail.1 h).elim
      · split at h
        · rename_i vs sz hc hz
          split at h
          · rename_i hcond
            obtain ⟨rfl, _⟩ := hold_ret.1 h
            exact goes_storeBox hR ho hd ha hv (blk_some hb (by simp)) hc hz hcond.1 hcond.2
          · exact (hold_fail.1 h).elim
        · exact (hold_fail.1 h).elim
    · exact (hold_fail.1 h).elim
  · rename_i id i sub
    rw [hold_shp] at h
    split at h
    · rw [hold_blk] at h
      split at h
      · rename_i cs hb1
        have hb := blk_some hb1 (by simp)
        split at h
        · rename_i x hz
          split at h
          · rename_i hx
            rw [hold_pop] at h
            rcases h with ⟨_, h⟩ | ⟨it, u, _, h⟩
            · exact (hold_fail.1 h).elim
            · obtain ⟨hlt, h⟩ := hold_req.1 h
              obtain ⟨rfl, _⟩ := hold_ret.1 h
              obtain ⟨c, c1, c2, c3⟩ := hR.toSRel.at hb
              have ha' : VRel P w Pr (view s.blks μ) (.ptr id (i + sub)) (a.eval ao) := by
                rcases ha with ⟨e', n, b, cap, wd2, k1, _⟩ | ⟨s', lens, b, cap, inner, k1, _⟩ | ⟨b, k1, k2⟩
                · rw [c3] at k1; cases c <;> simp [vwOf] at k1
                · rw [c3] at k1; cases c <;> simp [vwOf] at k1
                · exact ⟨b, k1, k2⟩
              exact goes_storeBox hR ho hd ha' hv hb (by cases x <;> first | rfl | simp [notAgg] at hx) hz rfl (by omega)
          · exact (hold_fail.1 h).elim
        · exact (hold_fail.1 h).elim
      · exact (hold_fail.1 h).elim
    · rename_i e len0 hb0
      obtain ⟨xs, hb1, rfl⟩ := shape_lst hb0
      have hb := blk_some hb1 (by simp)
      replace h := hold_bind.1 h; obtain ⟨x, sc3, h3, h⟩ := h
      have hx := plainD_ok hv h3
      obtain ⟨c1, c2, c3⟩ := drel_cells hx
      split at h
      · rename_i sz wd hz hwd
        split at h
        · rename_i hcond
          obtain ⟨rfl, hsz, hxw⟩ := hcond
          obtain ⟨rfl, _⟩ := hold_ret.1 h
          have hsz2 : (a.eval xo).cells.size = wd := by omega
          refine goes_storeEl hR ho hd ha hb (by rw [hz, hsz2, hsz]) hwd hxw (by omega) c2 fun j y hy => .inl ?_
          obtain ⟨u, q1, q2⟩ := c3 j y hy
          exact ⟨u, Nat.zero_le _, by simpa using q1, q2⟩
        · split at h
          · rename_i hcond
            obtain ⟨rfl, hna⟩ := hcond
            have hone : x.cells = [x] := by cases x <;> first | rfl | (simp [notAgg] at hna)
            have hsz1 : (a.eval xo).cells.size = 1 := by rw [← c1, hone]; rfl
            have fin : ∀ {ds : List D} {sc : Script}, xs[i]? = some (.agg ds) → Hold O s (if sub < ds.length ∧ ds.length = wd then .ret { mods := [(id, i, .agg (ds.set sub x))] } else .fail : Ab.Q Patch) sc p sc' →
                o.wp P a w (After P (p.apply s) μ Pr w) Q := by
              intro ds sc hxi h
              split at h
              · rename_i hcond
                obtain ⟨hc1, hc2⟩ := hcond
                obtain ⟨rfl, _⟩ := hold_ret.1 h
                refine goes_storeEl hR ho hd ha hb (by rw [hz, hsz1]) hwd (by simpa [D.cells] using hc2) (by omega) c2 fun j y hy => ?_
                simp only [D.cells, List.getElem?_set] at hy
                by_cases hj : sub = j
                · subst hj
                  rw [if_pos rfl, if_pos hc1] at hy
                  cases hy
                  obtain ⟨u, q1, q2⟩ := c3 0 x (by rw [hone]; rfl)
                  exact .inl ⟨u, Nat.le_refl _, by simpa using q1, q2⟩
                · rw [if_neg hj] at hy
                  exact .inr ⟨by omega, _, hxi, by simpa [D.cells] using hy⟩
              · exact (hold_fail.1 h).elim
            rw [hold_blk, hb1] at h
            simp only at h
            rw [hold_pop] at h
            rcases h with ⟨_, h⟩ | ⟨it, u, _, h⟩
            · simp only at h
              split at h
              · rename_i ds hxi; exact fin hxi h
              · exact (hold_fail.1 h).elim
            · split at h
              · obtain ⟨k1, h⟩ := hold_req.1 h; exact fin k1 h
              · exact (hold_fail.1 h).elim
              · rename_i hno; cases hno
          · exact (hold_fail.1 h).elim
      · exact (hold_fail.1 h).elim
    · rw [hold_blk] at h
      split at h
      · rename_i st xss hb
        split at h
        · rename_i l
          split at h
          · exact (hold_fail.1 h).elim
          · rename_i hne
            rw [hold_blk] at h
            split at h
            · rename_i e ys hl
              split at h
              · rename_i hc
                obtain ⟨hst, hz, rfl⟩ := hc
                obtain ⟨rfl, _⟩ := hold_ret.1 h
                exact goes_storeInner hR ho hd ha hv (blk_some hb (by simp)) (blk_some hl (by simp)) hne hz hst
              · exact (hold_fail.1 h).elim
            · exact (hold_fail.1 h).elim
        · exact (hold_fail.1 h).elim
      · exact (hold_fail.1 h).elim
  · exact (hold_fail.1 h).elim

/-! ### builtins -/

theorem exec_builtin {o : Oper} {b : Builtin} {args : Array Operand} {ts : Array TypeId} (ho : o.op = .call { callee := .builtin b, args := args, argTypes := ts }) :
    ∃ cs, (execOp a.eval o).run P w = (builtin b ts o.type cs (args.map a.eval)).run P w := by
  simp only [execOp, ho, resolve, invoke, Sem.run_bind, Sem.run_pure, Result.andThen_ok]
  exact ⟨_, rfl⟩

theorem op_builtin {o : Oper} {b : Builtin} {args : Array Operand} {ts : Array TypeId} {vs : List V} {sc0 : Script} (hR : Rel P s a w μ Pr) (ho : o.op = .call { callee := .builtin b, args := args, argTypes := ts })
    (hvs : Hold O s (opds args.toList) sc0 vs sc) (h : Hold O s (builtinQ P b o.dst ts.toList vs) sc p sc') : o.wp P a w (After P (p.apply s) μ Pr w) Q := by
  have hv := opds_ok hR hvs
  obtain ⟨cns, hexec⟩ := exec_builtin (P := P) (w := w) (a := a) ho
  have hargs : (args.map a.eval).toList = args.toList.map a.eval := by simp
  have hts : ∀ {l : List TypeId}, ts.toList = l → ts = l.toArray := fun h => by rw [← h]
  have has : ∀ {l : List Value}, args.toList.map a.eval = l → args.map a.eval = l.toArray := fun h => by rw [← h, ← hargs]
  unfold builtinQ at h
  split at h
  · rename_i t r v htl
    obtain ⟨x, sc1, h1, h2⟩ := hold_bind.1 h
    obtain ⟨rfl, _⟩ := hold_ret.1 h2
    cases hA : args.toList.map a.eval with
    | nil => rw [hA] at hv; exact hv.elim
    | cons u us =>
      rw [hA] at hv
      obtain ⟨n, rfl, g⟩ := lenV_ok (ts := ts) (ty := o.type) (as := args.map a.eval) hR.toSRel (by rw [hts htl]; rfl) (by rw [has hA]; rfl) hv.1 h1
      refine goes_val hR (x := .int .i64 n) ?_ (show DRel w Pr (.int .i64 n) _ from .int _ _)
      rw [hexec]
      simp only [builtin, Sem.run_bind, g, Result.andThen_ok, Sem.run_pure]
  · rename_i t r b htl
    split at h
    · rename_i e hu
      obtain ⟨rfl, _⟩ := hold_ret.1 h
      cases hA : args.toList.map a.eval with
      | nil => rw [hA] at hv; exact hv.elim
      | cons u us =>
        rw [hA] at hv
        obtain ⟨q, hq⟩ := emp_val hv.1
        refine goes_val hR (x := .int .i64 0) ?_ (show DRel w Pr (.int .i64 0) _ from .int _ _)
        rw [hexec, has hA, hts htl, hq]
        simp [builtin, Builtin.cap_, hdr, run_und hu, goInt]
    · exact (hold_fail.1 h).elim
  · rename_i k x k' y
    split at h
    · rename_i hk
      subst hk
      obtain ⟨r, sc1, h1, h2⟩ := hold_bind.1 h
      obtain ⟨rfl, _⟩ := hold_ret.1 h2
      obtain rfl := hold_popInt h1
      cases hA : args.toList.map a.eval with
      | nil => rw [hA] at hv; exact hv.elim
      | cons u us => cases us with
        | nil => rw [hA] at hv; exact hv.2.elim
        | cons u2 us2 => cases us2 with
          | cons _ _ => rw [hA] at hv; exact hv.2.2.elim
          | nil =>
            rw [hA] at hv
            obtain rfl := drel_int (show DRel w Pr (.int k x) _ from hv.1)
            obtain rfl := drel_int (show DRel w Pr (.int k y) _ from hv.2.1)
            refine goes_val hR (x := .int k (if y > x then y else x)) ?_ (show DRel w Pr (.int k _) _ from .int _ _)
            rw [hexec, has hA]
            simp [builtin, Builtin.max_, Builtin.max2]
    · exact (hold_fail.1 h).elim
  · rename_i k x k' y
    split at h
    · rename_i hk
      subst hk
      obtain ⟨r, sc1, h1, h2⟩ := hold_bind.1 h
      obtain ⟨rfl, _⟩ := hold_ret.1 h2
      obtain rfl := hold_popInt h1
      cases hA : args.toList.map a.eval with
      | nil => rw [hA] at hv; exact hv.elim
      | cons u us => cases us with
        | nil => rw [hA] at hv; exact hv.2.elim
        | cons u2 us2 => cases us2 with
          | cons _ _ => rw [hA] at hv; exact hv.2.2.elim
          | nil =>
            rw [hA] at hv
            obtain rfl := drel_int (show DRel w Pr (.int k x) _ from hv.1)
            obtain rfl := drel_int (show DRel w Pr (.int k y) _ from hv.2.1)
            refine goes_val hR (x := .int k (if y < x then y else x)) ?_ (show DRel w Pr (.int k _) _ from .int _ _)
            rw [hexec, has hA]
            simp [builtin, Builtin.min_, Builtin.min2]
    · exact (hold_fail.1 h).elim
  · rename_i sT xT x y htl
    have key : ∀ {sc1 : Script}, ((∃ e', P.underlying xT = some (.slice e')) ∨ P.underlying xT = some .string) → Hold O s ((items y).bind fun ys => appendQ P o.dst sT x ys) sc p sc' → o.wp P a w (After P (p.apply s) μ Pr w) Q := by
      intro _ hk h
      obtain ⟨ys, sc2, h1, h2⟩ := hold_bind.1 h
      have hts2 := hts htl
      have : ∃ xo yo, args = #[xo, yo] := by
        cases hl : args.toList with
        | nil => rw [hl] at hv; exact hv.elim
        | cons xo r => cases r with
          | nil => rw [hl] at hv; exact hv.2.elim
          | cons yo r2 => cases r2 with
            | cons _ _ => rw [hl] at hv; exact hv.2.2.elim
            | nil => exact ⟨xo, yo, by rw [← Array.toList_inj, hl]⟩
      obtain ⟨xo, yo, rfl⟩ := this
      subst hts2
      exact goes_append hR ho hk hv.1 hv.2.1 h1 h2
    have two : ∃ xo yo, args = #[xo, yo] := by
      cases hl : args.toList with
      | nil => rw [hl] at hv; exact hv.elim
      | cons xo r => cases r with
        | nil => rw [hl] at hv; exact hv.2.elim
        | cons yo r2 => cases r2 with
          | cons _ _ => rw [hl] at hv; exact hv.2.2.elim
          | nil => exact ⟨xo, yo, by rw [← Array.toList_inj, hl]⟩
    split at h
    · rename_i kn hu
      split at h
      · rename_i kq n
        obtain ⟨xo, yo, rfl⟩ := two
        have hts2 := hts htl
        subst hts2
        have hy : a.eval yo = .int kq n := drel_int (show DRel w Pr (.int kq n) _ from hv.2.1)
        have zeros : ∀ {m : Nat} {sc : Script}, n = (m : Int) → Hold O s (zerosQ P o.dst sT x m) sc p sc' → o.wp P a w (After P (p.apply s) μ Pr w) Q := by
          intro m sc hn h
          unfold zerosQ at h
          split at h
          · rename_i e he
            split at h
            · rename_i z sz hzd hz
              split at h
              · exact (hold_fail.1 h).elim
              · rename_i hc
                simp only [not_or, Bool.not_eq_false, ne_eq, Decidable.not_not] at hc
                split at h
                · rename_i b
                  obtain ⟨hm, sc3, h⟩ := roomQ_ok h
                  rw [hold_nblk] at h
                  obtain ⟨rfl, _⟩ := hold_ret.1 h
                  exact goes_zeros hR ho hu he hz hzd hc.1 hc.2.1 hv.1 (by rw [hy, hn]) hm
                · exact (hold_fail.1 h).elim
            · exact (hold_fail.1 h).elim
          · exact (hold_fail.1 h).elim
        rw [hold_pop] at h
        rcases h with ⟨_, h⟩ | ⟨it, u, _, h⟩
        · simp only at h
          split at h
          · rename_i hn; exact zeros (by omega) h
          · exact (hold_fail.1 h).elim
        · split at h
          · obtain ⟨h1, h⟩ := hold_req.1 h; exact zeros h1 h
          · exact (hold_fail.1 h).elim
          · rename_i hno; cases hno
      · exact (hold_fail.1 h).elim
    · rename_i e' hu; exact key (sc1 := sc) (.inl ⟨e', hu⟩) h
    · rename_i hu; exact key (sc1 := sc) (.inr hu) h
    · exact (hold_fail.1 h).elim
  · rename_i dT sT x y htl
    split at h
    · exact (hold_fail.1 h).elim
    rename_i hstr
    have hns : ∀ l, y ≠ .d (.str l) := fun l e => by subst e; simp [isStr] at hstr
    have two : ∃ xo yo, args = #[xo, yo] := by
      cases hl : args.toList with
      | nil => rw [hl] at hv; exact hv.elim
      | cons xo r => cases r with
        | nil => rw [hl] at hv; exact hv.2.elim
        | cons yo r2 => cases r2 with
          | cons _ _ => rw [hl] at hv; exact hv.2.2.elim
          | nil => exact ⟨xo, yo, by rw [← Array.toList_inj, hl]⟩
    obtain ⟨xo, yo, rfl⟩ := two
    have hts2 := hts htl
    subst hts2
    obtain ⟨ys, sc2, h1, h⟩ := hold_bind.1 h
    split at h
    · rename_i e he
      split at h
      · rename_i sz hz
        split at h
        · rename_i id
          rw [hold_blk] at h
          split at h
          · rename_i e' xs hb
            split at h
            · rename_i hee; subst hee
              obtain ⟨hw, sc3, h⟩ := widthsQ_ok h
              obtain ⟨rfl, _⟩ := hold_ret.1 h
              have hbs := blk_some hb (by simp)
              obtain ⟨hh, wd, cs, g1, g2, g3, g4, g5⟩ := hR.toSRel.lst hbs
              rw [hz] at g3; cases g3
              refine goes_copy (lo := 0) (n := xs.length) hR ho he hz hbs (by omega) ?_ hv.2.1 h1 hns hw
              rcases hv.1 with ⟨e', n, h', k1, k2⟩ | ⟨s', lens, b, cap, inner, k1, k2⟩
              · rw [g2] at k1; cases k1
                cases hh with
                | zero q => have := row_nil g4; subst this; exact ⟨0, q, k2, fun h => by simp at h⟩
                | row b cap => exact ⟨cap, _, k2, fun _ => ⟨b, cap, g1, by simp⟩⟩
              · rw [g2] at k1; cases k1
            · exact (hold_fail.1 h).elim
          · exact (hold_fail.1 h).elim
        · rename_i id lo n
          rw [hold_blk] at h
          split at h
          · rename_i e' xs hb
            split at h
            · rename_i hee
              subst hee
              obtain ⟨hln, sc4, h⟩ := fitQ_ok h
              obtain ⟨hw, sc3, h⟩ := widthsQ_ok h
              obtain ⟨rfl, _⟩ := hold_ret.1 h
              have hbs := blk_some hb (by simp)
              obtain ⟨hh, wd, cs, g1, g2, g3, g4, g5⟩ := hR.toSRel.lst hbs
              rw [hz] at g3; cases g3
              refine goes_copy hR ho he hz hbs hln ?_ hv.2.1 h1 hns hw
              obtain ⟨e', len, h', wd', a', cap, k1, k2, k3, k4, k5, k6, k7⟩ := hv.1
              rw [g2] at k1; cases k1
              rw [hz] at k2; cases k2
              refine ⟨cap, a', k3, fun hpos => ?_⟩
              cases hh with
              | zero q => have := row_nil g4; subst this; simp at hln; omega
              | row b c => exact ⟨b, c, g1, k6 b c rfl hpos⟩
            · exact (hold_fail.1 h).elim
          · exact (hold_fail.1 h).elim
        · exact (hold_fail.1 h).elim
      · exact (hold_fail.1 h).elim
    · exact (hold_fail.1 h).elim
  · exact (hold_fail.1 h).elim

end Go.Proofs.YtbamhlgkoimjoaaDoor.Ab
/- References renamed; lists that a call returns, laid as blocks. -/
namespace Go.Proofs.YtbamhlgkoimjoaaDoor.Ab
open Go
set_option linter.unusedVariables false
set_option linter.unusedSimpArgs false

variable {P : Program} {w w' : World} {Pr Pr' : Nat → Prop} {vw vw' : Nat → Option VW} {bl : List B} {μ : List CB} {ρ : Nat → Option Nat}

def Ren (ρ : Nat → Option Nat) (vw vw' : Nat → Option VW) : Prop := ∀ i j, ρ i = some j → vw i ≠ none → vw' j = vw i

theorem Ren.key (h : Ren ρ vw vw') {i j : Nat} {u : VW} (hij : ρ i = some j) (hu : vw i = some u) : vw' j = some u := by rw [h i j hij (by simp [hu])]; exact hu

theorem map0_ok (hρ : Ren ρ vw vw') {v v' : V} {u : Value} (hm : map0 ρ v = some v') (h : VRel0 P w Pr vw v u) : VRel0 P w Pr vw' v' u := by
  cases v with
  | ptr id off =>
    obtain ⟨j, hj, rfl⟩ := Option.map_eq_some_iff.1 hm
    obtain ⟨b, h1, h2⟩ := h
    exact ⟨b, hρ.key hj h1, h2⟩
  | arr id =>
    obtain ⟨j, hj, rfl⟩ := Option.map_eq_some_iff.1 hm
    rcases h with ⟨e, n, h', h1, h2⟩ | ⟨s, lens, b, cap, inner, h1, h2⟩
    · exact .inl ⟨e, n, h', hρ.key hj h1, h2⟩
    · exact .inr ⟨s, lens, b, cap, inner, hρ.key hj h1, h2⟩
  | inn id i =>
    obtain ⟨j, hj, rfl⟩ := Option.map_eq_some_iff.1 hm
    obtain ⟨s, lens, b, cap, inner, n, h', h1, h2⟩ := h
    exact ⟨s, lens, b, cap, inner, n, h', hρ.key hj h1, h2⟩
  | win id lo n =>
    obtain ⟨j, hj, rfl⟩ := Option.map_eq_some_iff.1 hm
    obtain ⟨e, len, h', wd, a, cap, h1, h2⟩ := h
    exact ⟨e, len, h', wd, a, cap, hρ.key hj h1, h2⟩
  | eptr id i sub =>
    obtain ⟨j, hj, rfl⟩ := Option.map_eq_some_iff.1 hm
    rcases h with ⟨e, n, b, cap, wd, h1, h2⟩ | ⟨s, lens, b, cap, inner, h1, h2⟩ | ⟨b, h1, h2⟩
    · exact .inl ⟨e, n, b, cap, wd, hρ.key hj h1, h2⟩
    · exact .inr (.inl ⟨s, lens, b, cap, inner, hρ.key hj h1, h2⟩)
    · exact .inr (.inr ⟨b, hρ.key hj h1, h2⟩)
  | iptr id i k =>
    obtain ⟨j, hj, rfl⟩ := Option.map_eq_some_iff.1 hm
    obtain ⟨s, lens, b, cap, inner, n, e, b', cap', wd, h1, h2⟩ := h
    exact ⟨s, lens, b, cap, inner, n, e, b', cap', wd, hρ.key hj h1, h2⟩
  | func f cap => simp [map0] at hm
  | iface t x => simp [map0] at hm
  | agg cs => simp [map0] at hm
  | tup vs => simp [map0] at hm
  | emp b => simp only [map0, Option.some.injEq] at hm; subst hm; cases b <;> exact h
  | _ => simp only [map0, Option.some.injEq] at hm; subst hm; exact h

theorem mapL0_ok (hρ : Ren ρ vw vw') {R : Value → Prop} : ∀ {cs cs' : List V} {us : List Value}, mapL0 ρ cs = some cs' → All2 (fun c u => VRel0 P w Pr vw c u ∧ R u) cs us → All2 (fun c u => VRel0 P w Pr vw' c u ∧ R u) cs' us
  | [], cs', us, hm, h => by simp [mapL0] at hm; subst hm; cases us with | nil => trivial | cons _ _ => exact h.elim
  | c :: r, cs', us, hm, h => by
    simp only [mapL0] at hm
    split at hm
    · rename_i x y h1 h2
      cases hm
      cases us with
      | nil => exact h.elim
      | cons u us => exact ⟨⟨map0_ok hρ h1 h.1.1, h.1.2⟩, mapL0_ok hρ h2 h.2⟩
    · cases hm

theorem map1_ok (hρ : Ren ρ vw vw') {v v' : V} {u : Value} (hm : map1 ρ v = some v') (h : VRel1 P w Pr vw v u) : VRel1 P w Pr vw' v' u := by
  have key : map0 ρ v = some v' → VRel0 P w Pr vw v u → VRel1 P w Pr vw' v' u := fun h1 h2 => (map0_ok hρ h1 h2).to1
  cases v with
  | func f cap =>
    obtain ⟨cs, hc, rfl⟩ := Option.map_eq_some_iff.1 hm
    obtain ⟨us, rfl, h⟩ := h
    have := mapL0_ok (R := fun _ => True) hρ hc (All2.mono (fun _ _ h => ⟨h, trivial⟩) h)
    exact ⟨us, rfl, All2.mono (fun _ _ h => h.1) this⟩
  | iface t x =>
    obtain ⟨y, hy, rfl⟩ := Option.map_eq_some_iff.1 hm
    obtain ⟨q, rfl, h⟩ := h
    exact ⟨q, rfl, map0_ok hρ hy h⟩
  | agg cs =>
    obtain ⟨cs', hc, rfl⟩ := Option.map_eq_some_iff.1 hm
    obtain ⟨us, rfl, h⟩ := h
    exact ⟨us, rfl, mapL0_ok hρ hc h⟩
  | _ => exact key hm h

theorem mapL1_ok (hρ : Ren ρ vw vw') {R : Value → Prop} : ∀ {cs cs' : List V} {us : List Value}, mapL1 ρ cs = some cs' → All2 (fun c u => VRel1 P w Pr vw c u ∧ R u) cs us → All2 (fun c u => VRel1 P w Pr vw' c u ∧ R u) cs' us
  | [], cs', us, hm, h => by simp [mapL1] at hm; subst hm; cases us with | nil => trivial | cons _ _ => exact h.elim
  | c :: r, cs', us, hm, h => by
    simp only [mapL1] at hm
    split at hm
    · rename_i x y h1 h2
      cases hm
      cases us with
      | nil => exact h.elim
      | cons u us => exact ⟨⟨map1_ok hρ h1 h.1.1, h.1.2⟩, mapL1_ok hρ h2 h.2⟩
    · cases hm

theorem noTup_map1 {v v' : V} (hm : map1 ρ v = some v') : ∀ vs, v ≠ .tup vs := by
  intro vs hv; subst hv; simp [map1, map0] at hm

/-! ### lists laid -/

theorem layV_ok (hρ : Ren ρ vw vw') {n m : Nat} {v v' : V} (hm : map0 ρ v = some v') (hl : ∀ i, i < (layV n v).2.length → vw (n + i) ≠ none → vw' (m + i) = vw (n + i)) :
    (layV m v').2 = (layV n v).2 ∧ ∀ u, VRel0 P w Pr vw (layV n v).1 u → VRel0 P w Pr vw' (layV m v').1 u := by
  have own : ∀ {b : B}, (∀ i, i < [b].length → vw (n + i) ≠ none → vw' (m + i) = vw (n + i)) → ∀ u, VRel0 P w Pr vw (.arr n) u → VRel0 P w Pr vw' (.arr m) u := by
    intro b hl u h
    have h0 := hl 0 (by simp)
    simp only [Nat.add_zero] at h0
    rcases h with ⟨e, k, h', h1, h2⟩ | ⟨s, lens, b, cap, inner, h1, h2⟩
    · exact .inl ⟨e, k, h', by rw [h0 (by simp [h1])]; exact h1, h2⟩
    · exact .inr ⟨s, lens, b, cap, inner, by rw [h0 (by simp [h1])]; exact h1, h2⟩
  cases v with
  | own e xs => simp only [map0, Option.some.injEq] at hm; subst hm; exact ⟨rfl, own hl⟩
  | own2 e xs => simp only [map0, Option.some.injEq] at hm; subst hm; exact ⟨rfl, own hl⟩
  | ptr id off => obtain ⟨j, hj, rfl⟩ := Option.map_eq_some_iff.1 hm; exact ⟨rfl, fun u h => map0_ok hρ hm h⟩
  | arr id => obtain ⟨j, hj, rfl⟩ := Option.map_eq_some_iff.1 hm; exact ⟨rfl, fun u h => map0_ok hρ hm h⟩
  | inn id i => obtain ⟨j, hj, rfl⟩ := Option.map_eq_some_iff.1 hm; exact ⟨rfl, fun u h => map0_ok hρ hm h⟩
  | win id lo n => obtain ⟨j, hj, rfl⟩ := Option.map_eq_some_iff.1 hm; exact ⟨rfl, fun u h => map0_ok hρ hm h⟩
  | eptr id i sub => obtain ⟨j, hj, rfl⟩ := Option.map_eq_some_iff.1 hm; exact ⟨rfl, fun u h => map0_ok hρ hm h⟩
  | iptr id i k => obtain ⟨j, hj, rfl⟩ := Option.map_eq_some_iff.1 hm; exact ⟨rfl, fun u h => map0_ok hρ hm h⟩
  | func f cap => simp [map0] at hm
  | iface t x => simp [map0] at hm
  | agg cs => simp [map0] at hm
  | tup vs => simp [map0] at hm
  | _ => have hm' := hm; simp only [map0, Option.some.injEq] at hm; subst hm; exact ⟨rfl, fun u h => map0_ok hρ hm' h⟩

theorem layL_ok (hρ : Ren ρ vw vw') {R : Value → Prop} : ∀ {cs cs' : List V} {n m : Nat}, mapL0 ρ cs = some cs' → (∀ i, i < (layL n cs).2.length → vw (n + i) ≠ none → vw' (m + i) = vw (n + i)) →
    (layL m cs').2 = (layL n cs).2 ∧ ∀ us, All2 (fun c u => VRel0 P w Pr vw c u ∧ R u) (layL n cs).1 us → All2 (fun c u => VRel0 P w Pr vw' c u ∧ R u) (layL m cs').1 us
  | [], cs', n, m, hm, hl => by
    simp [mapL0] at hm; subst hm
    exact ⟨rfl, fun us h => by cases us with | nil => trivial | cons _ _ => exact h.elim⟩
  | c :: r, cs', n, m, hm, hl => by
    simp only [mapL0] at hm
    split at hm
    · rename_i x y h1 h2
      cases hm
      simp only [layL] at hl ⊢
      rw [List.length_append] at hl
      obtain ⟨g1, g2⟩ := layV_ok (P := P) (w := w) (Pr := Pr) (n := n) (m := m) hρ h1 (fun i hi => hl i (by omega))
      obtain ⟨g3, g4⟩ := layL_ok (R := R) (cs := r) (cs' := y) (n := n + (layV n c).2.length) (m := m + (layV n c).2.length) hρ h2 (fun i hi hne => by
        have := hl ((layV n c).2.length + i) (by omega)
        rw [← Nat.add_assoc, ← Nat.add_assoc] at this
        exact this hne)
      rw [g1]
      refine ⟨by rw [g3], fun us h => ?_⟩
      cases us with
      | nil => exact h.elim
      | cons u us => exact ⟨⟨g2 u h.1.1, h.1.2⟩, g4 us h.2⟩
    · cases hm

theorem lay1_ok (hρ : Ren ρ vw vw') {n m : Nat} {v v' : V} (hm : map1 ρ v = some v') (hl : ∀ i, i < (lay1 n v).2.length → vw (n + i) ≠ none → vw' (m + i) = vw (n + i)) :
    (lay1 m v').2 = (lay1 n v).2 ∧ ∀ u, VRel1 P w Pr vw (lay1 n v).1 u → VRel1 P w Pr vw' (lay1 m v').1 u := by
  cases v with
  | func f cap =>
    have hm' := hm
    obtain ⟨cs, hc, rfl⟩ := Option.map_eq_some_iff.1 hm
    exact ⟨rfl, fun u h => map1_ok hρ hm' h⟩
  | iface t x =>
    have hm' := hm
    obtain ⟨y, hy, rfl⟩ := Option.map_eq_some_iff.1 hm
    exact ⟨rfl, fun u h => map1_ok hρ hm' h⟩
  | agg cs =>
    obtain ⟨cs', hc, rfl⟩ := Option.map_eq_some_iff.1 hm
    simp only [lay1] at hl ⊢
    obtain ⟨g1, g2⟩ := layL_ok (P := P) (w := w) (Pr := Pr) (R := fun u => u.oneCell' = true) (n := n) (m := m) hρ hc hl
    refine ⟨g1, fun u h => ?_⟩
    obtain ⟨us, rfl, h⟩ := h
    exact ⟨us, rfl, g2 us h⟩
  | tup vs => simp [map1, map0] at hm
  | own e xs =>
    simp only [map1, map0, Option.some.injEq] at hm; subst hm
    have := layV_ok (P := P) (w := w) (Pr := Pr) (n := n) (m := m) hρ (v := .own e xs) rfl hl
    exact ⟨rfl, this.2⟩
  | own2 e xs =>
    simp only [map1, map0, Option.some.injEq] at hm; subst hm
    have := layV_ok (P := P) (w := w) (Pr := Pr) (n := n) (m := m) hρ (v := .own2 e xs) rfl hl
    exact ⟨rfl, this.2⟩
  | ptr id off => have hm' := hm; obtain ⟨j, hj, rfl⟩ := Option.map_eq_some_iff.1 hm; exact ⟨rfl, fun u h => map1_ok hρ hm' h⟩
  | arr id => have hm' := hm; obtain ⟨j, hj, rfl⟩ := Option.map_eq_some_iff.1 hm; exact ⟨rfl, fun u h => map1_ok hρ hm' h⟩
  | inn id i => have hm' := hm; obtain ⟨j, hj, rfl⟩ := Option.map_eq_some_iff.1 hm; exact ⟨rfl, fun u h => map1_ok hρ hm' h⟩
  | win id lo n => have hm' := hm; obtain ⟨j, hj, rfl⟩ := Option.map_eq_some_iff.1 hm; exact ⟨rfl, fun u h => map1_ok hρ hm' h⟩
  | eptr id i sub => have hm' := hm; obtain ⟨j, hj, rfl⟩ := Option.map_eq_some_iff.1 hm; exact ⟨rfl, fun u h => map1_ok hρ hm' h⟩
  | iptr id i k => have hm' := hm; obtain ⟨j, hj, rfl⟩ := Option.map_eq_some_iff.1 hm; exact ⟨rfl, fun u h => map1_ok hρ hm' h⟩
  | _ => have hm' := hm; simp only [map1, map0, Option.some.injEq] at hm; subst hm; exact ⟨rfl, fun u h => map1_ok hρ hm' h⟩

theorem layT_ok (hρ : Ren ρ vw vw') : ∀ {cs cs' : List V} {n m : Nat}, mapL1 ρ cs = some cs' → (∀ i, i < (layT n cs).2.length → vw (n + i) ≠ none → vw' (m + i) = vw (n + i)) →
    (layT m cs').2 = (layT n cs).2 ∧ ∀ us, All2 (VRel1 P w Pr vw) (layT n cs).1 us → All2 (VRel1 P w Pr vw') (layT m cs').1 us
  | [], cs', n, m, hm, hl => by
    simp [mapL1] at hm; subst hm
    exact ⟨rfl, fun us h => by cases us with | nil => trivial | cons _ _ => exact h.elim⟩
  | c :: r, cs', n, m, hm, hl => by
    simp only [mapL1] at hm
    split at hm
    · rename_i x y h1 h2
      cases hm
      simp only [layT] at hl ⊢
      rw [List.length_append] at hl
      obtain ⟨g1, g2⟩ := lay1_ok (P := P) (w := w) (Pr := Pr) (n := n) (m := m) hρ h1 (fun i hi => hl i (by omega))
      obtain ⟨g3, g4⟩ := layT_ok (cs := r) (cs' := y) (n := n + (lay1 n c).2.length) (m := m + (lay1 n c).2.length) hρ h2 (fun i hi hne => by
        have := hl ((lay1 n c).2.length + i) (by omega)
        rw [← Nat.add_assoc, ← Nat.add_assoc] at this
        exact this hne)
      rw [g1]
      refine ⟨by rw [g3], fun us h => ?_⟩
      cases us with
      | nil => exact h.elim
      | cons u us => exact ⟨g2 u h.1, g4 us h.2⟩
    · cases hm

theorem lay_ok (hρ : Ren ρ vw vw') {n m : Nat} {v v' : V} (hm : map2 ρ v = some v') (hl : ∀ i, i < (lay n v).2.length → vw (n + i) ≠ none → vw' (m + i) = vw (n + i)) :
    (lay m v').2 = (lay n v).2 ∧ ∀ u, VRel P w Pr vw (lay n v).1 u → VRel P w Pr vw' (lay m v').1 u := by
  have key : ∀ {v v' : V}, map1 ρ v = some v' → (∀ vs, v ≠ .tup vs) → (∀ vs, v' ≠ .tup vs) → lay n v = lay1 n v → lay m v' = lay1 m v' → (∀ i, i < (lay n v).2.length → vw (n + i) ≠ none → vw' (m + i) = vw (n + i)) →
      (lay m v').2 = (lay n v).2 ∧ ∀ u, VRel P w Pr vw (lay n v).1 u → VRel P w Pr vw' (lay m v').1 u := by
    intro v v' h1 hn hn' e1 e2 hl
    rw [e1] at hl ⊢
    rw [e2]
    obtain ⟨g1, g2⟩ := lay1_ok (P := P) (w := w) (Pr := Pr) (n := n) (m := m) hρ h1 hl
    refine ⟨g1, fun u h => (g2 u ?_).toV⟩
    have nt : ∀ vs, (lay1 n v).1 ≠ .tup vs := by
      intro vs
      cases v <;> simp [lay1, layV]
      exact (hn _ rfl).elim
    revert h
    generalize (lay1 n v).1 = z at nt
    intro h
    cases z with
    | tup vs => exact (nt vs rfl).elim
    | _ => exact h
  cases v with
  | tup cs =>
    obtain ⟨cs', hc, rfl⟩ := Option.map_eq_some_iff.1 hm
    simp only [lay] at hl ⊢
    obtain ⟨g1, g2⟩ := layT_ok (P := P) (w := w) (Pr := Pr) (n := n) (m := m) hρ hc hl
    refine ⟨g1, fun u h => ?_⟩
    obtain ⟨us, rfl, h⟩ := h
    exact ⟨us, rfl, g2 us h⟩
  | func f cap => have hm' := hm; obtain ⟨cs, hc, rfl⟩ := Option.map_eq_some_iff.1 hm; exact key hm' (by simp) (by simp) rfl rfl hl
  | iface t x => have hm' := hm; obtain ⟨cs, hc, rfl⟩ := Option.map_eq_some_iff.1 hm; exact key hm' (by simp) (by simp) rfl rfl hl
  | agg cs => have hm' := hm; obtain ⟨cs, hc, rfl⟩ := Option.map_eq_some_iff.1 hm; exact key hm' (by simp) (by simp) rfl rfl hl
  | ptr id off => have hm' := hm; obtain ⟨cs, hc, rfl⟩ := Option.map_eq_some_iff.1 hm; exact key hm' (by simp) (by simp) rfl rfl hl
  | arr id => have hm' := hm; obtain ⟨cs, hc, rfl⟩ := Option.map_eq_some_iff.1 hm; exact key hm' (by simp) (by simp) rfl rfl hl
  | inn id i => have hm' := hm; obtain ⟨cs, hc, rfl⟩ := Option.map_eq_some_iff.1 hm; exact key hm' (by simp) (by simp) rfl rfl hl
  | win id lo n => have hm' := hm; obtain ⟨cs, hc, rfl⟩ := Option.map_eq_some_iff.1 hm; exact key hm' (by simp) (by simp) rfl rfl hl
  | eptr id i sub => have hm' := hm; obtain ⟨cs, hc, rfl⟩ := Option.map_eq_some_iff.1 hm; exact key hm' (by simp) (by simp) rfl rfl hl
  | iptr id i k => have hm' := hm; obtain ⟨cs, hc, rfl⟩ := Option.map_eq_some_iff.1 hm; exact key hm' (by simp) (by simp) rfl rfl hl
  | _ => have hm' := hm; simp only [map2, map1, map0, Option.some.injEq] at hm; subst hm; exact key hm' (by simp) (by simp) rfl rfl hl

/-! ### what is laid -/

def B.listy : B → Prop
  | .lst _ _ => True
  | .lst2 _ _ => True
  | _ => False
def B.safe : B → Bool
  | .lst _ xs => xs.all D.safe
  | .lst2 _ xss => xss.all fun | some ys => ys.all D.safe | none => true
  | _ => false

theorem layV_listy (n : Nat) (v : V) : ∀ b ∈ (layV n v).2, b.listy ∧ (v.safe0 = true → b.safe = true) := by
  intro b hb
  cases v with
  | own e xs => simp [layV] at hb; subst hb; exact ⟨trivial, fun h => h⟩
  | own2 e xs => simp [layV] at hb; subst hb; exact ⟨trivial, fun h => h⟩
  | _ => simp [layV] at hb
theorem layL_listy : ∀ (cs : List V) (n : Nat), ∀ b ∈ (layL n cs).2, b.listy ∧ (cs.all V.safe0 = true → b.safe = true)
  | [], n, b, hb => by simp [layL] at hb
  | c :: r, n, b, hb => by
    simp only [layL, List.mem_append] at hb
    rcases hb with hb | hb
    · obtain ⟨h1, h2⟩ := layV_listy n c b hb
      exact ⟨h1, fun h => h2 (by simp at h; exact h.1)⟩
    · obtain ⟨h1, h2⟩ := layL_listy r _ b hb
      exact ⟨h1, fun h => h2 (by simp only [List.all_cons, Bool.and_eq_true] at h; exact h.2)⟩
theorem lay1_listy (n : Nat) (v : V) : ∀ b ∈ (lay1 n v).2, b.listy ∧ (v.safe1 = true → b.safe = true) := by
  cases v with
  | agg cs => exact layL_listy cs n
  | _ => exact layV_listy n _
theorem layT_listy : ∀ (cs : List V) (n : Nat), ∀ b ∈ (layT n cs).2, b.listy ∧ (cs.all V.safe1 = true → b.safe = true)
  | [], n, b, hb => by simp [layT] at hb
  | c :: r, n, b, hb => by
    simp only [layT, List.mem_append] at hb
    rcases hb with hb | hb
    · obtain ⟨h1, h2⟩ := lay1_listy n c b hb
      exact ⟨h1, fun h => h2 (by simp only [List.all_cons, Bool.and_eq_true] at h; exact h.1)⟩
    · obtain ⟨h1, h2⟩ := layT_listy r _ b hb
      exact ⟨h1, fun h => h2 (by simp only [List.all_cons, Bool.and_eq_true] at h; exact h.2)⟩
theorem lay_listy (n : Nat) (v : V) : ∀ b ∈ (lay n v).2, b.listy ∧ (v.safe = true → b.safe = true) := by
  cases v with
  | tup cs => exact layT_listy cs n
  | _ => exact lay1_listy n _

theorem drel_safe0 {x : D} {u : Value} (h : DRel w Pr x u) (hs : x.safe0 = true) : DRel w' Pr' x u := by
  cases x with
  | int k n => rw [drel_int h]; exact .int _ _
  | bool b => rw [drel_bool h]; exact .bool _
  | str l => obtain ⟨t, rfl, rfl⟩ := drel_str h; exact .str _
  | sl xs =>
    cases xs with
    | nil => obtain ⟨base, cap, rfl, _⟩ := slRel_of_drel h; exact .sl0 _ _
    | cons _ _ => simp [D.safe0] at hs
  | agg ds => simp [D.safe0] at hs
  | inil => cases h; exact .inil
  | iany => cases h; exact .iany _ _
theorem drel_safe {x : D} {u : Value} (h : DRel w Pr x u) (hs : x.safe = true) : DRel w' Pr' x u := by
  cases x with
  | agg ds =>
    obtain ⟨cs, rfl, hl, h1, hd⟩ := drel_agg h
    exact .agg ds cs hl h1 fun j d v hj hv => drel_safe0 (hd j d v hj hv) (List.all_eq_true.1 hs d (List.mem_of_getElem? hj))
  | _ => exact drel_safe0 h hs
theorem cells_safe {x y : D} {j : Nat} (hs : x.safe = true) (hy : x.cells[j]? = some y) : y.safe0 = true := by
  have key : x.safe0 = true → x.cells = [x] → y.safe0 = true := by
    intro h1 h2
    rw [h2] at hy
    cases j with
    | zero => simp at hy; subst hy; exact h1
    | succ j => simp at hy
  cases x with
  | agg ds => exact List.all_eq_true.1 hs y (List.mem_of_getElem? hy)
  | _ => exact key hs rfl

theorem rows_safe {wd : Nat} {xs : List D} {cs : List Value} (h : Rows' w Pr wd xs cs) (hs : xs.all D.safe = true) : Rows' w' Pr' wd xs cs :=
  ⟨h.1, fun i x hx => ⟨(h.2 i x hx).1, fun j y hy => let ⟨u, h1, h2⟩ := (h.2 i x hx).2 j y hy; ⟨u, h1, drel_safe0 h2 (cells_safe (List.all_eq_true.1 hs x (List.mem_of_getElem? hx)) hy)⟩⟩⟩

theorem brel_listy {b : B} {c : CB} (hb : b.listy) (h : BRel P w Pr vw b c) (hp : (∀ k, Pr k → Pr' k) ∨ b.safe = true) : BRel P w Pr' vw' b c := by
  rcases hp with hp | hp
  · exact h.mono P hp (fun _ _ => rfl) (fun _ _ => rfl) (by cases b <;> first | exact hb.elim | simp [idsB])
  · cases b with
    | lst e xs =>
      cases c with
      | lst hh => obtain ⟨wd, cs, h1, h2, h3⟩ := h; exact ⟨wd, cs, h1, h2, rows_safe h3 hp⟩
      | _ => exact h.elim
    | lst2 s xss =>
      cases c with
      | lst2 k cap inner =>
        obtain ⟨cur, e, wd, h1, h2, h3, h4, h5, h6, h7, h8, h9, h10⟩ := h
        refine ⟨cur, e, wd, h1, h2, h3, h4, h5, h6, h7, h8, h9, fun i ys hh hi hj => ?_⟩
        obtain ⟨g1, cs, g2, g3⟩ := h10 i ys hh hi hj
        exact ⟨g1, cs, g2, rows_safe g3 (List.all_eq_true.1 hp (some ys) (List.mem_of_getElem? hi))⟩
      | _ => exact h.elim
    | bx _ _ => exact hb.elim
    | dead => exact hb.elim

theorem lay_safeV {n : Nat} {v : V} {u : Value} (hs : v.safe0 = true) (h : VRel0 P w Pr vw (layV n v).1 u) : VRel0 P w' Pr' vw (layV n v).1 u := by
  cases v with
  | d x => exact drel_safe (show DRel w Pr x u from h) hs
  | own e xs => exact h
  | own2 e xs => exact h
  | emp b => cases b <;> exact h
  | nnil => exact h
  | _ => simp [V.safe0] at hs
theorem lay_safeL {R : Value → Prop} : ∀ {cs : List V} {n : Nat} {us : List Value}, cs.all V.safe0 = true → All2 (fun c u => VRel0 P w Pr vw c u ∧ R u) (layL n cs).1 us → All2 (fun c u => VRel0 P w' Pr' vw c u ∧ R u) (layL n cs).1 us
  | [], n, us, _, h => by cases us with | nil => trivial | cons _ _ => exact h.elim
  | c :: r, n, us, hs, h => by
    simp only [List.all_cons, Bool.and_eq_true] at hs
    cases us with
    | nil => exact h.elim
    | cons u us => exact ⟨⟨lay_safeV hs.1 h.1.1, h.1.2⟩, lay_safeL hs.2 h.2⟩
theorem lay_safe1 {n : Nat} {v : V} {u : Value} (hs : v.safe1 = true) (h : VRel1 P w Pr vw (lay1 n v).1 u) : VRel1 P w' Pr' vw (lay1 n v).1 u := by
  cases v with
  | agg cs => obtain ⟨us, rfl, h⟩ := h; exact ⟨us, rfl, lay_safeL hs h⟩
  | d x => exact lay_safeV (P := P) (w := w) (Pr := Pr) (vw := vw) (n := n) (v := .d x) hs h
  | own e xs => exact h
  | own2 e xs => exact h
  | emp b => cases b <;> exact h
  | nnil => exact h
  | _ => simp [V.safe1, V.safe0] at hs
theorem lay_safeT : ∀ {cs : List V} {n : Nat} {us : List Value}, cs.all V.safe1 = true → All2 (VRel1 P w Pr vw) (layT n cs).1 us → All2 (VRel1 P w' Pr' vw) (layT n cs).1 us
  | [], n, us, _, h => by cases us with | nil => trivial | cons _ _ => exact h.elim
  | c :: r, n, us, hs, h => by
    simp only [List.all_cons, Bool.and_eq_true] at hs
    cases us with
    | nil => exact h.elim
    | cons u us => exact ⟨lay_safe1 hs.1 h.1, lay_safeT hs.2 h.2⟩
theorem lay_safe {n : Nat} {v : V} {u : Value} (hs : v.safe = true) (h : VRel P w Pr vw (lay n v).1 u) : VRel P w' Pr' vw (lay n v).1 u := by
  cases v with
  | tup cs => obtain ⟨us, rfl, h⟩ := h; exact ⟨us, rfl, lay_safeT hs h⟩
  | agg cs => exact lay_safe1 (P := P) (w := w) (Pr := Pr) (vw := vw) (n := n) (v := .agg cs) hs h
  | d x => exact lay_safeV (P := P) (w := w) (Pr := Pr) (vw := vw) (n := n) (v := .d x) hs h
  | own e xs => exact h
  | own2 e xs => exact h
  | emp b => cases b <;> exact h
  | nnil => exact h
  | _ => simp [V.safe, V.safe1, V.safe0] at hs

end Go.Proofs.YtbamhlgkoimjoaaDoor.Ab
/- Calls with plain data alone. -/
namespace Go.Proofs.YtbamhlgkoimjoaaDoor.Ab
open Go
set_option linter.unusedVariables false
set_option linter.unusedSimpArgs false

variable {P : Program} {O : Orc} {s : St} {sc sc' : Script} {w w' : World} {Pr Pr' : Nat → Prop} {vw vw' : Nat → Option VW} {bl : List B} {μ : List CB} {a : Act}
  {p : Patch} {Q : Exit → Act → World → Prop}

/-- What a function does, of blocks and arguments. -/
def ICall (P : Program) (f : Nat) (as : List V) (bs : List B) (r : V) (bs' : List B) : Prop :=
  ∀ (w : World) (Pr : Nat → Prop) (μ : List CB) (vs : List Value), SRel P bs w μ Pr → All2 (VRel P w Pr (view bs μ)) as vs →
    Calls P f vs.toArray w fun e w' => ∃ x μ' Pr', e = .returned x ∧ SRel P (bs' ++ (lay bs'.length r).2) w' μ' Pr' ∧ VRel P w' Pr' (view (bs' ++ (lay bs'.length r).2) μ') (lay bs'.length r).1 x ∧
      Evo (owns μ) Pr w (owns μ') Pr' w' ∧ Keep μ μ'

/-! ### lists read out -/

theorem OwnR.mono {e wd n : Nat} {h : H} {cs : List Value} (ho : OwnR w e wd h n cs) : OwnR w e wd h n cs := ho

/-- Memory that others own may be read. -/
def Lent (Pr : Nat → Prop) (μ : List CB) (b : Nat) : Prop := Pr b ∨ b ∈ owns μ

theorem toD0_ok (hS : SRel P s.blks w μ Pr) {v : V} {u : Value} {x : D} (hv : VRel0 P w Pr (view s.blks μ) v u) (h : Hold O s (toD0 v) sc x sc') : DRel w (Lent Pr μ) x u ∧ (refs0 v = [] → DRel w Pr x u) := by
  have hl : ∀ b, Pr b → Lent Pr μ b := fun b hb => .inl hb
  have both : DRel w Pr x u → DRel w (Lent Pr μ) x u ∧ (refs0 v = [] → DRel w Pr x u) := fun h => ⟨h.mono hl (fun _ _ => rfl), fun _ => h⟩
  unfold toD0 at h
  split at h
  · obtain ⟨rfl, _⟩ := hold_ret.1 h; exact both hv
  · obtain ⟨rfl, _⟩ := hold_ret.1 h
    obtain ⟨q, rfl⟩ := emp_val hv.toV
    exact both (.sl0 _ _)
  · obtain ⟨rfl, _⟩ := hold_ret.1 h
    obtain ⟨q, c, rfl⟩ := id hv
    exact both (.sl0 _ _)
  · rename_i id lo n
    rw [hold_blk] at h
    split at h
    · rename_i e ys hb
      obtain ⟨rfl, _⟩ := hold_ret.1 h
      obtain ⟨hh, wd, cs, g1, g2, g3, g4, g5⟩ := hS.lst (blk_some hb (by simp))
      obtain ⟨e', len, h', wd', a', cap, k1, k2, rfl, k4, k5, k6, k7⟩ := hv
      rw [g2] at k1; cases k1
      rw [g3] at k2; cases k2
      refine ⟨?_, by simp [refs0]⟩
      have hlen : ((ys.drop lo).take n).length = n := by simp; omega
      by_cases hn : n = 0
      · subst hn; rw [List.take_zero]; exact .sl0 _ _
      · cases hh with
        | zero a => have := row_nil g4; subst this; simp at k5; omega
        | row b c =>
          obtain rfl := k6 b c rfl (by omega)
          obtain ⟨q1, q2, q3⟩ := reads_of_row g4 g5
          have hb : Lent Pr μ b := .inr (List.mem_flatMap.2 ⟨_, List.mem_of_getElem? g1, by simp [CB.own, H.own]⟩)
          have := drel_of_reads (w := w) (Pr := Lent Pr μ) (b := b) (o := lo * wd) (cap := cap) (wd := wd) (xs := (ys.drop lo).take n) (Pr' := Pr) hb (by omega) ⟨fun i x hx => ?_, fun i x j y hx hy => ?_⟩
          · rw [hlen] at this; exact this
          · rw [List.getElem?_take] at hx; split at hx
            · rw [List.getElem?_drop] at hx; exact q2 _ x hx
            · cases hx
          · rw [List.getElem?_take] at hx; split at hx
            · rw [List.getElem?_drop] at hx
              obtain ⟨u, r1, r2, r3⟩ := q3 _ x j y hx hy
              refine ⟨u, ?_, r2, r3.mono hl (fun _ _ => rfl)⟩
              rw [← r1]; congr 2; rw [Nat.add_mul]; omega
            · cases hx
    · exact (hold_fail.1 h).elim
  · rename_i id
    rw [hold_blk] at h
    split at h
    · rename_i e ys hb
      obtain ⟨rfl, _⟩ := hold_ret.1 h
      obtain ⟨hh, wd, cs, g1, g2, g3, g4, g5⟩ := hS.lst (blk_some hb (by simp))
      rcases hv with ⟨e', n, h', k1, k2⟩ | ⟨s', lens, b, cap, inner, k1, k2⟩
      · rw [g2] at k1; cases k1
        refine ⟨?_, by simp [refs0]⟩
        subst k2
        cases hh with
        | zero a => have := row_nil g4; subst this; exact .sl0 _ _
        | row b c =>
          obtain ⟨q1, q2, q3⟩ := reads_of_row g4 g5
          exact drel_of_reads (Pr' := Pr) (.inr (List.mem_flatMap.2 ⟨_, List.mem_of_getElem? g1, by simp [CB.own, H.own]⟩)) q1 ⟨q2, fun i x j y hx hy => let ⟨u, r1, r2, r3⟩ := q3 i x j y hx hy; ⟨u, r1, r2, r3.mono hl (fun _ _ => rfl)⟩⟩
      · rw [g2] at k1; cases k1
    · exact (hold_fail.1 h).elim
  · exact (show False from hv).elim
  · exact (hold_fail.1 h).elim

theorem toDs_ok (hS : SRel P s.blks w μ Pr) : ∀ {cs : List V} {us : List Value} {xs : List D} {sc sc' : Script}, All2 (fun c u => VRel0 P w Pr (view s.blks μ) c u ∧ u.oneCell' = true) cs us → Hold O s (toDs cs) sc xs sc' →
    xs.length = us.length ∧ (∀ (j : Nat) (d : D) (v : Value), xs[j]? = some d → us[j]? = some v → DRel w (Lent Pr μ) d v) ∧ (cs.flatMap refs0 = [] → ∀ (j : Nat) (d : D) (v : Value), xs[j]? = some d → us[j]? = some v → DRel w Pr d v)
  | [], us, xs, sc, sc', hv, h => by
    obtain ⟨rfl, _⟩ := hold_ret.1 h
    cases us with
    | nil => exact ⟨rfl, by simp, by simp⟩
    | cons _ _ => exact hv.elim
  | c :: r, us, xs, sc, sc', hv, h => by
    cases us with
    | nil => exact hv.elim
    | cons u us =>
      obtain ⟨x, sc1, h1, h2⟩ := hold_bind.1 h
      obtain ⟨ys, sc2, h3, h4⟩ := hold_bind.1 h2
      obtain ⟨rfl, _⟩ := hold_ret.1 h4
      obtain ⟨g1, g2⟩ := toD0_ok hS hv.1.1 h1
      obtain ⟨g3, g4, g5⟩ := toDs_ok hS hv.2 h3
      refine ⟨by simp [g3], fun j d v hd hv => ?_, fun hr j d v hd hv => ?_⟩
      · cases j with
        | zero => simp at hd hv; subst hd; subst hv; exact g1
        | succ j => exact g4 j d v (by simpa using hd) (by simpa using hv)
      · rw [List.flatMap_cons, List.append_eq_nil_iff] at hr
        cases j with
        | zero => simp at hd hv; subst hd; subst hv; exact g2 hr.1
        | succ j => exact g5 hr.2 j d v (by simpa using hd) (by simpa using hv)

theorem toD_ok (hS : SRel P s.blks w μ Pr) {v : V} {u : Value} {x : D} (hv : VRel P w Pr (view s.blks μ) v u) (h : Hold O s (toD v) sc x sc') : DRel w (Lent Pr μ) x u ∧ (refs v = [] → DRel w Pr x u) := by
  have key : VRel0 P w Pr (view s.blks μ) v u → Hold O s (toD0 v) sc x sc' → refs v = refs0 v → DRel w (Lent Pr μ) x u ∧ (refs v = [] → DRel w Pr x u) := fun h1 h2 e => by rw [e]; exact toD0_ok hS h1 h2
  cases v with
  | agg cs =>
    obtain ⟨xs, sc1, h1, h2⟩ := hold_bind.1 h
    obtain ⟨rfl, _⟩ := hold_ret.1 h2
    obtain ⟨us, rfl, hall⟩ := hv
    obtain ⟨g1, g2, g3⟩ := toDs_ok hS hall h1
    have hone : ∀ v ∈ us, v.oneCell' = true := fun u hu => by
      obtain ⟨j, hj⟩ := List.getElem?_of_mem hu
      have hlt : j < cs.length := by rw [hall.length]; exact (List.getElem?_eq_some_iff.1 hj).1
      obtain ⟨y, hy, h1⟩ := hall.get j cs[j] (List.getElem?_eq_getElem hlt)
      rw [hj] at hy; cases hy; exact h1.2
    exact ⟨.agg xs us g1 hone g2, fun hr => .agg xs us g1 hone (g3 hr)⟩
  | tup vs => exact (hold_fail.1 h).elim
  | func f c => exact (hold_fail.1 h).elim
  | iface t y => exact (hold_fail.1 h).elim
  | _ => exact key hv h rfl

theorem toDL_ok (hS : SRel P s.blks w μ Pr) : ∀ {cs : List V} {us : List Value} {xs : List D} {sc sc' : Script}, All2 (VRel P w Pr (view s.blks μ)) cs us → Hold O s (toDL cs) sc xs sc' →
    All2 (VRel P w (Lent Pr μ) vw) (xs.map .d) us ∧ (cs.flatMap refs = [] → All2 (VRel P w Pr vw) (xs.map .d) us)
  | [], us, xs, sc, sc', hv, h => by
    obtain ⟨rfl, _⟩ := hold_ret.1 h
    cases us with
    | nil => exact ⟨trivial, fun _ => trivial⟩
    | cons _ _ => exact hv.elim
  | c :: r, us, xs, sc, sc', hv, h => by
    cases us with
    | nil => exact hv.elim
    | cons u us =>
      obtain ⟨x, sc1, h1, h2⟩ := hold_bind.1 h
      obtain ⟨ys, sc2, h3, h4⟩ := hold_bind.1 h2
      obtain ⟨rfl, _⟩ := hold_ret.1 h4
      obtain ⟨g1, g2⟩ := toD_ok hS hv.1 h1
      obtain ⟨g3, g4⟩ := toDL_ok hS hv.2 h3
      refine ⟨⟨g1, g3⟩, fun hr => ?_⟩
      rw [List.flatMap_cons, List.append_eq_nil_iff] at hr
      exact ⟨g2 hr.1, g4 hr.2⟩

/-! ### the same, nil kept -/

theorem toA0_ok (hS : SRel P s.blks w μ Pr) {v x : V} {u : Value} (hv : VRel0 P w Pr (view s.blks μ) v u) (h : Hold O s (toA0 v) sc x sc') : VRel0 P w (Lent Pr μ) vw x u ∧ (refs0 v = [] → VRel0 P w Pr vw x u) := by
  have key : Hold O s ((toD0 v).bind fun x => .ret (.d x)) sc x sc' → VRel0 P w (Lent Pr μ) vw x u ∧ (refs0 v = [] → VRel0 P w Pr vw x u) := by
    intro h
    obtain ⟨y, sc1, h1, h2⟩ := hold_bind.1 h
    obtain ⟨rfl, _⟩ := hold_ret.1 h2
    exact toD0_ok hS hv h1
  cases v with
  | emp b => obtain ⟨rfl, _⟩ := hold_ret.1 h; cases b <;> exact ⟨hv, fun _ => hv⟩
  | _ => exact key h

theorem toAs_ok (hS : SRel P s.blks w μ Pr) {R : Value → Prop} : ∀ {cs xs : List V} {us : List Value} {sc sc' : Script}, All2 (fun c u => VRel0 P w Pr (view s.blks μ) c u ∧ R u) cs us → Hold O s (toAs cs) sc xs sc' →
    All2 (fun c u => VRel0 P w (Lent Pr μ) vw c u ∧ R u) xs us ∧ (cs.flatMap refs0 = [] → All2 (fun c u => VRel0 P w Pr vw c u ∧ R u) xs us)
  | [], xs, us, sc, sc', hv, h => by
    obtain ⟨rfl, _⟩ := hold_ret.1 h
    cases us with
    | nil => exact ⟨trivial, fun _ => trivial⟩
    | cons _ _ => exact hv.elim
  | c :: r, xs, us, sc, sc', hv, h => by
    cases us with
    | nil => exact hv.elim
    | cons u us =>
      obtain ⟨x, sc1, h1, h2⟩ := hold_bind.1 h
      obtain ⟨ys, sc2, h3, h4⟩ := hold_bind.1 h2
      obtain ⟨rfl, _⟩ := hold_ret.1 h4
      obtain ⟨g1, g2⟩ := toA0_ok (vw := vw) hS hv.1.1 h1
      obtain ⟨g3, g4⟩ := toAs_ok hS hv.2 h3
      refine ⟨⟨⟨g1, hv.1.2⟩, g3⟩, fun hr => ?_⟩
      rw [List.flatMap_cons, List.append_eq_nil_iff] at hr
      exact ⟨⟨g2 hr.1, hv.1.2⟩, g4 hr.2⟩

theorem toA_ok (hS : SRel P s.blks w μ Pr) {v x : V} {u : Value} (hv : VRel P w Pr (view s.blks μ) v u) (h : Hold O s (toA v) sc x sc') : VRel P w (Lent Pr μ) vw x u ∧ (refs v = [] → VRel P w Pr vw x u) := by
  have key : VRel0 P w Pr (view s.blks μ) v u → Hold O s (toA0 v) sc x sc' → refs v = refs0 v → VRel P w (Lent Pr μ) vw x u ∧ (refs v = [] → VRel P w Pr vw x u) := fun h1 h2 e => by
    rw [e]; obtain ⟨g1, g2⟩ := toA0_ok (vw := vw) hS h1 h2; exact ⟨g1.toV, fun hr => (g2 hr).toV⟩
  cases v with
  | agg cs =>
    obtain ⟨xs, sc1, h1, h2⟩ := hold_bind.1 h
    obtain ⟨rfl, _⟩ := hold_ret.1 h2
    obtain ⟨us, rfl, hall⟩ := hv
    obtain ⟨g1, g2⟩ := toAs_ok (vw := vw) hS hall h1
    exact ⟨mkAgg_ok g1, fun hr => mkAgg_ok (g2 hr)⟩
  | tup vs => exact (hold_fail.1 (show Hold O s (.fail : Ab.Q V) sc x sc' from h)).elim
  | func f c => exact (hold_fail.1 (show Hold O s (.fail : Ab.Q V) sc x sc' from h)).elim
  | iface t y => exact (hold_fail.1 (show Hold O s (.fail : Ab.Q V) sc x sc' from h)).elim
  | _ => exact key hv h rfl

theorem toAL_ok (hS : SRel P s.blks w μ Pr) : ∀ {cs xs : List V} {us : List Value} {sc sc' : Script}, All2 (VRel P w Pr (view s.blks μ)) cs us → Hold O s (toAL cs) sc xs sc' →
    All2 (VRel P w (Lent Pr μ) vw) xs us ∧ (cs.flatMap refs = [] → All2 (VRel P w Pr vw) xs us)
  | [], xs, us, sc, sc', hv, h => by
    obtain ⟨rfl, _⟩ := hold_ret.1 h
    cases us with
    | nil => exact ⟨trivial, fun _ => trivial⟩
    | cons _ _ => exact hv.elim
  | c :: r, xs, us, sc, sc', hv, h => by
    cases us with
    | nil => exact hv.elim
    | cons u us =>
      obtain ⟨x, sc1, h1, h2⟩ := hold_bind.1 h
      obtain ⟨ys, sc2, h3, h4⟩ := hold_bind.1 h2
      obtain ⟨rfl, _⟩ := hold_ret.1 h4
      obtain ⟨g1, g2⟩ := toA_ok (vw := vw) hS hv.1 h1
      obtain ⟨g3, g4⟩ := toAL_ok hS hv.2 h3
      refine ⟨⟨g1, g3⟩, fun hr => ?_⟩
      rw [List.flatMap_cons, List.append_eq_nil_iff] at hr
      exact ⟨g2 hr.1, g4 hr.2⟩

/-! ### the call -/

theorem srel_nil {w : World} {Pr : Nat → Prop} (h : ∀ b, Pr b → b < w.heap.size) (hg : GOk w Pr) : SRel P [] w [] Pr :=
  ⟨rfl, by simp, by simp [owns], by simp [owns], h, hg⟩

theorem view_append_right {bl bl2 : List B} {μ μ2 : List CB} (hl : μ.length = bl.length) (i : Nat) : view (bl ++ bl2) (μ ++ μ2) (bl.length + i) = view bl2 μ2 i := by
  unfold view
  rw [List.getElem?_append_right (by omega), List.getElem?_append_right (by omega)]
  have h1 : bl.length + i - bl.length = i := by omega
  have h2 : bl.length + i - μ.length = i := by omega
  rw [h1, h2]
theorem view_append_left {bl bl2 : List B} {μ μ2 : List CB} (hl : μ.length = bl.length) {i : Nat} (h : view bl μ i ≠ none) : view (bl ++ bl2) (μ ++ μ2) i = view bl μ i := by
  have hi : i < bl.length := by
    unfold view at h
    cases hb : bl[i]? with
    | none => simp [hb] at h
    | some x => exact (List.getElem?_eq_some_iff.1 hb).1
  unfold view
  rw [List.getElem?_append_left hi, List.getElem?_append_left (by omega)]

theorem nofr_of {fn : Func} {f : Nat} (hf : P.funcs[f]? = some fn) (hb : fn.body.isSome = true) (hn : (fn.name == "runtime.NumGoroutine") = false) (args : Array Value) : (callFunc f args).run P w = .ok (.enter f args) w := by
  have hn' : ¬ fn.name = "runtime.NumGoroutine" := by simpa using hn
  have hb' : ¬ fn.body = none := by intro h; simp [h] at hb
  simp [callFunc, hf, hn', hb']

theorem callable_run {f : Nat} (h : callable P f = true) (args : Array Value) : (callFunc f args).run P w = .ok (.enter f args) w := by
  unfold callable at h
  split at h
  · rename_i fn hf
    simp only [Bool.and_eq_true, Bool.not_eq_true'] at h
    exact nofr_of hf h.1 h.2 args
  · cases h

theorem goes_pure {o : Oper} {f : Nat} {as : List V} {vs : List Value} {r r' : V} (hR : Rel P s a w μ Pr) (hrun : (execOp a.eval o).run P w = .ok (.enter f vs.toArray) w) (hIC : ICall P f as [] r [])
    (has : All2 (VRel P w Pr (view [] [])) as vs ∨ (All2 (VRel P w (Lent Pr μ) (view [] [])) as vs ∧ r.safe = true)) (hm : map2 (fun _ => none) r = some r') :
    o.wp P a w (After P (({ sets := (putP o.dst (lay s.blks.length r').1).sets, push := (lay s.blks.length r').2 } : Patch).apply s) μ Pr w) Q := by
  obtain ⟨Pr2, hP2, hle, has2, hcase⟩ : ∃ Pr2 : Nat → Prop, (∀ b, Pr b → Pr2 b) ∧ (∀ b, Pr2 b → Lent Pr μ b) ∧ All2 (VRel P w Pr2 (view [] [])) as vs ∧ ((∀ b, Pr2 b → Pr b) ∨ r.safe = true) := by
    rcases has with h | ⟨h, hs⟩
    · exact ⟨Pr, fun _ h => h, fun _ h => .inl h, h, .inl fun _ h => h⟩
    · exact ⟨Lent Pr μ, fun _ h => .inl h, fun _ h => h, h, .inr hs⟩
  have hlt2 : ∀ b, Pr2 b → b < w.heap.size := fun b hb => by
    rcases hle b hb with h | h
    · exact hR.pr b h
    · exact (hR.lt b h).1
  unfold Oper.wp
  rw [hrun]
  refine Calls.mono (hIC w Pr2 [] vs (srel_nil hlt2 (hR.glob.mono hP2 (fun _ _ => rfl))) has2) ?_
  rintro e w' ⟨x, μ', Pr', rfl, hS, hx, hev, -⟩
  have hlay := lay_ok (P := P) (w := w') (Pr := Pr') (vw := view (lay 0 r).2 μ') (vw' := view (s.blks ++ (lay 0 r).2) (μ ++ μ')) (ρ := fun _ => none) (n := 0) (m := s.blks.length) (fun i j h => by cases h) hm
    (fun i _ _ => by rw [view_append_right hR.mu, Nat.zero_add])
  obtain ⟨hl1, hl2⟩ := hlay
  simp only [List.nil_append, List.length_nil] at hS hx
  let PN : Nat → Prop := fun b => Pr' b ∧ b ∉ owns μ
  have hin : ∀ b, Pr b → PN b := fun b hb => ⟨hev.prm b (hP2 b hb), fun hm => (hR.lt b hm).2 hb⟩
  have hsame : ∀ k, k < w.heap.size → w'.heap[k]? = w.heap[k]? := fun k hk => hev.block k hk (by simp [owns])
  have hown' : ∀ k ∈ owns μ', w.heap.size ≤ k := fun k hk => by
    rcases hev.own k hk with h | h
    · simp [owns] at h
    · exact h
  -- what is not lent may be read by all
  have hconv : (∀ b, Pr' b → PN b) ∨ r.safe = true := hcase.imp_left fun h b hb => ⟨hb, fun hm => by
    rcases hev.prn b hb with h1 | h1 | h1
    · exact (hR.lt b hm).2 (h b h1)
    · simp [owns] at h1
    · have := (hR.lt b hm).1; omega⟩
  have hEvo : Evo (owns μ) Pr w (owns (μ ++ μ')) PN w' := by
    refine ⟨hev.os, hev.tape, hev.output, hev.size, fun k hk _ => hsame k hk, fun k hk => ?_, hin, fun b hb => ?_⟩
    · rw [owns_append] at hk
      rcases List.mem_append.1 hk with hk | hk
      · exact .inl hk
      · exact .inr (hown' k hk)
    · rcases hev.prn b hb.1 with h | h | h
      · rcases hle b h with h | h
        · exact .inl h
        · exact (hb.2 h).elim
      · simp [owns] at h
      · exact .inr (.inr h)
  have hSN : SRel P (s.blks ++ (lay 0 r).2) w' (μ ++ μ') PN := by
    refine ⟨by simp [hR.mu, hS.mu], fun id b c hb hc => ?_, ?_, fun k hk => ?_, fun b hb => hS.pr b hb.1, hR.glob.mono hin (fun b hb => hsame b (hR.pr b hb))⟩
    · by_cases hid : id < s.blks.length
      · rw [List.getElem?_append_left hid] at hb
        rw [List.getElem?_append_left (by rw [hR.mu]; exact hid)] at hc
        exact (hR.blks id b c hb hc).mono P hin (fun b hb => hsame b (hR.pr b hb)) (fun k hk => hsame k (hR.lt k (List.mem_flatMap.2 ⟨c, List.mem_of_getElem? hc, hk⟩)).1) (fun i _ hne => view_append_left hR.mu hne)
      · rw [List.getElem?_append_right (by omega)] at hb
        rw [List.getElem?_append_right (by rw [hR.mu]; omega), hR.mu] at hc
        have hB := hS.blks _ b c hb hc
        obtain ⟨g1, g2⟩ := lay_listy 0 r b (List.mem_of_getElem? hb)
        exact brel_listy g1 hB (hconv.imp_right g2)
    · rw [owns_append, List.nodup_append]
      exact ⟨hR.nodup, hS.nodup, fun x hx y hy hxy => by have := (hR.lt x hx).1; have := hown' y hy; omega⟩
    · rw [owns_append] at hk
      rcases List.mem_append.1 hk with hk | hk
      · exact ⟨Nat.lt_of_lt_of_le (hR.lt k hk).1 hev.size, fun h => h.2 hk⟩
      · exact ⟨(hS.lt k hk).1, fun h => (hS.lt k hk).2 h.1⟩
  have hxN : VRel P w' PN (view (s.blks ++ (lay 0 r).2) (μ ++ μ')) (lay s.blks.length r').1 x := by
    rcases hconv with h | h
    · exact (hl2 x hx).mono P h (fun _ _ => rfl) (fun _ _ _ => rfl)
    · have hx' := lay_safe (P := P) (w' := w') (Pr' := PN) h hx
      exact (lay_ok (P := P) (w := w') (Pr := PN) (vw := view (lay 0 r).2 μ') (vw' := view (s.blks ++ (lay 0 r).2) (μ ++ μ')) (ρ := fun _ => none) (n := 0) (m := s.blks.length) (fun i j h => by cases h) hm
        (fun i _ _ => by rw [view_append_right hR.mu, Nat.zero_add])).2 x hx'
  have hRN : Rel P ⟨s.slots, s.blks ++ (lay 0 r).2⟩ a w' (μ ++ μ') PN := hR.ofStore rfl hSN hEvo (fun id hne => view_append_left hR.mu hne)
  refine ⟨μ ++ μ', PN, ?_, hEvo, .push _ _⟩
  have : ({ sets := (putP o.dst (lay s.blks.length r').1).sets, push := (lay s.blks.length r').2 } : Patch).apply s = setSlot ⟨s.slots, s.blks ++ (lay 0 r).2⟩ o.dst (lay s.blks.length r').1 := by
    rw [hl1]
    cases o.dst <;> simp [putP, Patch.apply, setAll, modAll, setSlot]
  rw [this]
  exact hRN.setSlot P _ hxN

end Go.Proofs.YtbamhlgkoimjoaaDoor.Ab
/- References to lists go; views that change. -/
namespace Go.Proofs.YtbamhlgkoimjoaaDoor.Ab
open Go
set_option linter.unusedVariables false
set_option linter.unusedSimpArgs false

variable {P : Program} {O : Orc} {s : St} {sc sc' : Script} {w w' : World} {Pr Pr' : Nat → Prop} {vw vw' : Nat → Option VW} {bl : List B} {μ : List CB} {a : Act}

/-- The lists to which a value refers. -/
def lr0 : V → List Nat
  | .arr id | .inn id _ | .win id _ _ | .eptr id _ _ | .iptr id _ _ => [id]
  | _ => []
def lr1 : V → List Nat
  | .func _ cap => cap.flatMap lr0
  | .iface _ x => lr0 x
  | .agg cs => cs.flatMap lr0
  | v => lr0 v
def lrV : V → List Nat
  | .tup xs => xs.flatMap lr1
  | v => lr1 v
def lrB : B → List Nat
  | .bx _ cs => cs.flatMap lr1
  | _ => []

theorem gone0 (id : Nat) (v : V) : (∀ i ∈ lr0 (kill0 id .gone v), i ∈ lr0 v ∧ i ≠ id) ∧ ∀ u, VRel0 P w Pr vw v u → VRel0 P w Pr vw (kill0 id .gone v) u := by
  cases v with
  | arr i =>
    simp only [kill0]; split
    · exact ⟨by simp [lr0], fun _ _ => trivial⟩
    · rename_i h; exact ⟨by simpa [lr0] using h, fun _ h => h⟩
  | inn i j =>
    simp only [kill0]; split
    · exact ⟨by simp [lr0], fun _ _ => trivial⟩
    · rename_i h; exact ⟨by simpa [lr0] using h, fun _ h => h⟩
  | iptr i j n =>
    simp only [kill0]; split
    · exact ⟨by simp [lr0], fun _ _ => trivial⟩
    · rename_i h; exact ⟨by simpa [lr0] using h, fun _ h => h⟩
  | win i j n =>
    simp only [kill0]; split
    · exact ⟨by simp [lr0], fun _ _ => trivial⟩
    · rename_i h; exact ⟨by simpa [lr0] using h, fun _ h => h⟩
  | eptr i j n =>
    simp only [kill0]; split
    · exact ⟨by simp [lr0], fun _ _ => trivial⟩
    · rename_i h; exact ⟨by simpa [lr0] using h, fun _ h => h⟩
  | _ => exact ⟨by simp [lr0, kill0], fun _ h => h⟩

theorem goneL {R : Value → Prop} (id : Nat) : ∀ (cs : List V), (∀ i ∈ (cs.map (kill0 id .gone)).flatMap lr0, i ∈ cs.flatMap lr0 ∧ i ≠ id) ∧
    ∀ us, All2 (fun c u => VRel0 P w Pr vw c u ∧ R u) cs us → All2 (fun c u => VRel0 P w Pr vw c u ∧ R u) (cs.map (kill0 id .gone)) us
  | [] => ⟨by simp, fun us h => h⟩
  | c :: r => by
    obtain ⟨g1, g2⟩ := gone0 (P := P) (w := w) (Pr := Pr) (vw := vw) id c
    obtain ⟨g3, g4⟩ := goneL (R := R) id r
    refine ⟨fun i hi => ?_, fun us h => ?_⟩
    · simp only [List.map_cons, List.flatMap_cons, List.mem_append] at hi ⊢
      rcases hi with hi | hi
      · exact ⟨.inl (g1 i hi).1, (g1 i hi).2⟩
      · exact ⟨.inr (g3 i hi).1, (g3 i hi).2⟩
    · cases us with
      | nil => exact h.elim
      | cons u us => exact ⟨⟨g2 u h.1.1, h.1.2⟩, g4 us h.2⟩

theorem gone1 (id : Nat) (v : V) : (∀ i ∈ lr1 (kill1 id .gone v), i ∈ lr1 v ∧ i ≠ id) ∧ ∀ u, VRel1 P w Pr vw v u → VRel1 P w Pr vw (kill1 id .gone v) u := by
  have key : kill1 id .gone v = kill0 id .gone v → lr1 v = lr0 v → lr1 (kill0 id .gone v) = lr0 (kill0 id .gone v) → (∀ u, VRel1 P w Pr vw v u → VRel0 P w Pr vw v u) → (∀ i ∈ lr1 (kill1 id .gone v), i ∈ lr1 v ∧ i ≠ id) ∧ ∀ u, VRel1 P w Pr vw v u → VRel1 P w Pr vw (kill1 id .gone v) u := by
    intro e1 e2 e3 e4
    obtain ⟨g1, g2⟩ := gone0 (P := P) (w := w) (Pr := Pr) (vw := vw) id v
    rw [e1, e2, e3]
    exact ⟨g1, fun u h => (g2 u (e4 u h)).to1⟩
  cases v with
  | agg cs =>
    obtain ⟨g1, g2⟩ := goneL (P := P) (w := w) (Pr := Pr) (vw := vw) (R := fun u => u.oneCell' = true) id cs
    exact ⟨g1, fun u h => let ⟨us, e, h⟩ := h; ⟨us, e, g2 us h⟩⟩
  | func f cap =>
    obtain ⟨g1, g2⟩ := goneL (P := P) (w := w) (Pr := Pr) (vw := vw) (R := fun _ => True) id cap
    exact ⟨g1, fun u h => let ⟨us, e, h⟩ := h; ⟨us, e, All2.mono (fun _ _ h => h.1) (g2 us (All2.mono (fun _ _ h => ⟨h, trivial⟩) h))⟩⟩
  | iface t y =>
    obtain ⟨g1, g2⟩ := gone0 (P := P) (w := w) (Pr := Pr) (vw := vw) id y
    exact ⟨g1, fun u h => let ⟨q, e, h⟩ := h; ⟨q, e, g2 q h⟩⟩
  | tup vs => exact ⟨by simp [kill1, lr1, lr0], fun _ _ => trivial⟩
  | arr i => exact key rfl rfl (by simp only [kill0]; split <;> rfl) (fun _ h => h)
  | inn i j => exact key rfl rfl (by simp only [kill0]; split <;> rfl) (fun _ h => h)
  | iptr i j n => exact key rfl rfl (by simp only [kill0]; split <;> rfl) (fun _ h => h)
  | win i j n => exact key rfl rfl (by simp only [kill0]; split <;> rfl) (fun _ h => h)
  | eptr i j n => exact key rfl rfl (by simp only [kill0]; split <;> rfl) (fun _ h => h)
  | _ => exact key rfl rfl rfl (fun _ h => h)

theorem goneV (id : Nat) (v : V) : (∀ i ∈ lrV (kill1 id .gone v), i ∈ lrV v ∧ i ≠ id) ∧ ∀ u, VRel P w Pr vw v u → VRel P w Pr vw (kill1 id .gone v) u := by
  have nt : ∀ vs, kill1 id .gone v ≠ .tup vs := by
    intro vs
    cases v <;> simp [kill1, kill0] <;> split <;> simp
  have e : ∀ {x : V}, (∀ vs, x ≠ .tup vs) → lrV x = lr1 x := by
    intro x hx; cases x <;> first | rfl | exact (hx _ rfl).elim
  have key : (∀ vs, v ≠ .tup vs) → (∀ u, VRel P w Pr vw v u → VRel1 P w Pr vw v u) → (∀ i ∈ lrV (kill1 id .gone v), i ∈ lrV v ∧ i ≠ id) ∧ ∀ u, VRel P w Pr vw v u → VRel P w Pr vw (kill1 id .gone v) u := by
    intro hn h1
    obtain ⟨g1, g2⟩ := gone1 (P := P) (w := w) (Pr := Pr) (vw := vw) id v
    rw [e nt, e hn]
    exact ⟨g1, fun u h => (g2 u (h1 u h)).toV⟩
  cases v with
  | tup vs => exact ⟨by simp [kill1, lrV, lr1, lr0], fun _ _ => trivial⟩
  | _ => exact key (by simp) (fun _ h => h)

theorem goneB (id : Nat) (b : B) : (∀ i ∈ lrB (killB id .gone b), i ∈ lrB b ∧ i ≠ id) ∧ ∀ c, BRel P w Pr vw b c → BRel P w Pr vw (killB id .gone b) c := by
  cases b with
  | bx ty cs =>
    have : ∀ (cs : List V), (∀ i ∈ (cs.map (kill1 id .gone)).flatMap lr1, i ∈ cs.flatMap lr1 ∧ i ≠ id) ∧
        ∀ us, All2 (fun c u => VRel1 P w Pr vw c u ∧ u.oneCell' = true) cs us → All2 (fun c u => VRel1 P w Pr vw c u ∧ u.oneCell' = true) (cs.map (kill1 id .gone)) us := by
      intro cs
      induction cs with
      | nil => exact ⟨by simp, fun us h => h⟩
      | cons c r ih =>
        obtain ⟨g1, g2⟩ := gone1 (P := P) (w := w) (Pr := Pr) (vw := vw) id c
        obtain ⟨g3, g4⟩ := ih
        refine ⟨fun i hi => ?_, fun us h => ?_⟩
        · simp only [List.map_cons, List.flatMap_cons, List.mem_append] at hi ⊢
          rcases hi with hi | hi
          · exact ⟨.inl (g1 i hi).1, (g1 i hi).2⟩
          · exact ⟨.inr (g3 i hi).1, (g3 i hi).2⟩
        · cases us with
          | nil => exact h.elim
          | cons u us => exact ⟨⟨g2 u h.1.1, h.1.2⟩, g4 us h.2⟩
    obtain ⟨g1, g2⟩ := this cs
    refine ⟨g1, fun c h => ?_⟩
    cases c with
    | box k => obtain ⟨x, e, h1, h2, h3⟩ := h; exact ⟨x, e, h1, h2, g2 _ h3⟩
    | _ => exact h.elim
  | _ => exact ⟨by simp [lrB, killB], fun _ h => h⟩

theorem view_kill (id : Nat) (k : KK) : view (bl.map (killB id k)) μ = view bl μ := by
  funext j
  unfold view
  rw [List.getElem?_map]
  cases bl[j]? with
  | none => rfl
  | some x => cases μ[j]? with
    | none => rfl
    | some c => simp [vwOf_kill]

theorem Rel.gone (h : Rel P s a w μ Pr) (id : Nat) : Rel P (s.kill (id, .gone)) a w μ Pr := by
  refine ⟨⟨by simp [St.kill, h.mu], fun j b c hb hc => ?_, h.nodup, h.lt, h.pr, h.glob⟩, h.defers, by simp [St.kill, h.len], fun n v hv => ?_⟩
  · simp only [St.kill, List.getElem?_map, Option.map_eq_some_iff] at hb
    obtain ⟨x, hx, rfl⟩ := hb
    show BRel P w Pr (view (s.blks.map (killB id .gone)) μ) _ c
    rw [view_kill]
    exact (goneB id x).2 c (h.blks j x c hx hc)
  · simp only [St.kill, List.getElem?_map, Option.map_eq_some_iff] at hv
    obtain ⟨x, hx, rfl⟩ := hv
    show VRel P w Pr (view (s.blks.map (killB id .gone)) μ) _ _
    rw [view_kill]
    exact (goneV id x).2 _ (h.slots n x hx)

def kills (ids : List Nat) (s : St) : St := (ids.map (·, KK.gone)).foldl St.kill s

theorem kills_ok : ∀ (ids : List Nat) {s : St} (S : List Nat), Rel P s a w μ Pr → (∀ (n : Nat) (v : V), s.slots[n]? = some v → ∀ i ∈ lrV v, i ∉ S) → (∀ (n : Nat) (b : B), s.blks[n]? = some b → ∀ i ∈ lrB b, i ∉ S) →
    Rel P (kills ids s) a w μ Pr ∧ (∀ (n : Nat) (v : V), (kills ids s).slots[n]? = some v → ∀ i ∈ lrV v, i ∉ S ++ ids) ∧ (∀ (n : Nat) (b : B), (kills ids s).blks[n]? = some b → ∀ i ∈ lrB b, i ∉ S ++ ids) ∧
      view (kills ids s).blks μ = view s.blks μ ∧ (kills ids s).blks.length = s.blks.length
  | [], s, S, h, h1, h2 => by simp only [List.append_nil]; exact ⟨h, h1, h2, rfl, rfl⟩
  | id :: r, s, S, h, h1, h2 => by
    have hk : kills (id :: r) s = kills r (s.kill (id, .gone)) := rfl
    obtain ⟨g1, g2, g3, g4, g5⟩ := kills_ok r (S ++ [id]) (h.gone id) (fun n v hv i hi => by
      simp only [St.kill, List.getElem?_map, Option.map_eq_some_iff] at hv
      obtain ⟨x, hx, rfl⟩ := hv
      obtain ⟨q1, q2⟩ := (goneV (P := P) (w := w) (Pr := Pr) (vw := fun _ => none) id x).1 i hi
      simp only [List.mem_append, List.mem_singleton, not_or]
      exact ⟨h1 n x hx i q1, q2⟩) (fun n b hb i hi => by
      simp only [St.kill, List.getElem?_map, Option.map_eq_some_iff] at hb
      obtain ⟨x, hx, rfl⟩ := hb
      obtain ⟨q1, q2⟩ := (goneB (P := P) (w := w) (Pr := Pr) (vw := fun _ => none) id x).1 i hi
      simp only [List.mem_append, List.mem_singleton, not_or]
      exact ⟨h2 n x hx i q1, q2⟩)
    rw [hk]
    simp only [List.append_assoc, List.singleton_append] at g2 g3
    refine ⟨g1, g2, g3, by rw [g4]; exact view_kill id .gone, by rw [g5]; simp [St.kill]⟩

/-! ### views that change, but for boxes -/

section
variable (hp : ∀ b, Pr b → Pr' b) (hw : ∀ b, Pr b → w'.heap[b]? = w.heap[b]?) (hbox : ∀ i q, vw i = some (.box q) → vw' i = some (.box q))
include hp hw hbox

theorem VRel0.mono2 {v : V} (hv : ∀ i ∈ lr0 v, vw i ≠ none → vw' i = vw i) {u : Value} (h : VRel0 P w Pr vw v u) : VRel0 P w' Pr' vw' v u := by
  have key : ids0 v = lr0 v → VRel0 P w' Pr' vw' v u := fun e => VRel0.mono P hp hw (by rw [e]; exact hv) h
  cases v with
  | ptr id off => obtain ⟨b, h1, h2⟩ := h; exact ⟨b, hbox _ _ h1, h2⟩
  | _ => exact key rfl
theorem VRel1.mono2 {v : V} (hv : ∀ i ∈ lr1 v, vw i ≠ none → vw' i = vw i) {u : Value} (h : VRel1 P w Pr vw v u) : VRel1 P w' Pr' vw' v u := by
  have key : (∀ i ∈ lr0 v, vw i ≠ none → vw' i = vw i) → VRel0 P w Pr vw v u → VRel0 P w' Pr' vw' v u := fun a b => VRel0.mono2 hp hw hbox a b
  cases v with
  | func f cap =>
    obtain ⟨vs, rfl, h⟩ := h
    exact ⟨vs, rfl, All2.monoMem (fun a ha b hab => VRel0.mono2 hp hw hbox (fun i hi => hv i (List.mem_flatMap.2 ⟨a, ha, hi⟩)) hab) h⟩
  | iface t y => obtain ⟨u, rfl, h⟩ := h; exact ⟨u, rfl, VRel0.mono2 hp hw hbox (by simpa only [lr1] using hv) h⟩
  | agg cs =>
    obtain ⟨vs, rfl, h⟩ := h
    exact ⟨vs, rfl, All2.monoMem (fun a ha b hab => ⟨VRel0.mono2 hp hw hbox (fun i hi => hv i (List.mem_flatMap.2 ⟨a, ha, hi⟩)) hab.1, hab.2⟩) h⟩
  | _ => exact key hv h
theorem VRel.mono2 {v : V} (hv : ∀ i ∈ lrV v, vw i ≠ none → vw' i = vw i) {u : Value} (h : VRel P w Pr vw v u) : VRel P w' Pr' vw' v u := by
  have key : (∀ i ∈ lr1 v, vw i ≠ none → vw' i = vw i) → VRel1 P w Pr vw v u → VRel1 P w' Pr' vw' v u := fun a b => VRel1.mono2 hp hw hbox a b
  cases v with
  | tup xs =>
    obtain ⟨vs, rfl, h⟩ := h
    exact ⟨vs, rfl, All2.monoMem (fun a ha b hab => VRel1.mono2 hp hw hbox (fun i hi => hv i (List.mem_flatMap.2 ⟨a, ha, hi⟩)) hab) h⟩
  | _ => exact key hv h
theorem BRel.mono2 {b : B} {c : CB} (ho : ∀ k ∈ c.own, w'.heap[k]? = w.heap[k]?) (hv : ∀ i ∈ lrB b, vw i ≠ none → vw' i = vw i) (h : BRel P w Pr vw b c) : BRel P w' Pr' vw' b c := by
  cases b with
  | bx ty cells =>
    cases c with
    | box k =>
      obtain ⟨cs, e, h1, ht, h2⟩ := h
      exact ⟨cs, e, by rw [ho k (by simp [CB.own])]; exact h1, ht, All2.monoMem (fun a ha b hab => ⟨VRel1.mono2 hp hw hbox (fun id hi => hv id (List.mem_flatMap.2 ⟨a, ha, hi⟩)) hab.1, hab.2⟩) h2⟩
    | _ => exact h.elim
  | _ => exact h.mono P hp hw ho (by simp [idsB])
end

/-! ### lists scattered -/

theorem setAll_get {α : Type} : ∀ (ids : List Nat) (l base : List α) (j : Nat), ids.Nodup → (∀ i ∈ ids, i < base.length) → ids.length ≤ l.length → (setAll (ids.zip l) base)[j]? = if j ∈ ids then l[ids.idxOf j]? else base[j]?
  | [], l, base, j, _, _, _ => by simp [setAll]
  | i :: r, [], base, j, _, _, h => by simp at h
  | i :: r, x :: l, base, j, hn, hb, hl => by
    rw [List.nodup_cons] at hn
    simp only [List.zip_cons_cons, setAll]
    rw [setAll_get r l (base.set i x) j hn.2 (fun k hk => by simp; exact hb k (List.mem_cons_of_mem _ hk)) (by simpa using hl)]
    by_cases hj : j = i
    · subst hj
      rw [if_neg hn.1, if_pos (List.mem_cons_self ..), List.getElem?_set_self (hb _ (List.mem_cons_self ..))]
      simp
    · have hij : ¬ i = j := fun e => hj e.symm
      rw [List.getElem?_set, if_neg hij, List.idxOf_cons]
      by_cases hjr : j ∈ r
      · rw [if_pos hjr, if_pos (List.mem_cons_of_mem _ hjr)]
        have : (i == j) = false := by simpa using hij
        rw [this]
        rfl
      · rw [if_neg hjr, if_neg (by simp [hj, hjr])]

def scatter {α : Type} (ids : List Nat) (l base : List α) : List α := setAll (ids.zip l) base ++ l.drop ids.length

theorem setAll_len {α : Type} : ∀ (l : List (Nat × α)) (base : List α), (setAll l base).length = base.length
  | [], base => rfl
  | (n, v) :: r, base => by rw [setAll, setAll_len r]; simp

/-- Where a place of the whole comes from. -/
def from' (ids : List Nat) (n j : Nat) : Nat := if j ∈ ids then ids.idxOf j else ids.length + (j - n)

theorem scatter_get {α : Type} {ids : List Nat} {l base : List α} (j : Nat) (hn : ids.Nodup) (hb : ∀ i ∈ ids, i < base.length) (hl : ids.length ≤ l.length) :
    (scatter ids l base)[j]? = if j ∈ ids ∨ base.length ≤ j then l[from' ids base.length j]? else base[j]? := by
  unfold scatter from'
  by_cases hj : j < base.length
  · rw [List.getElem?_append_left (by rw [setAll_len]; exact hj), setAll_get ids l base j hn hb hl]
    by_cases hji : j ∈ ids
    · rw [if_pos hji, if_pos (.inl hji), if_pos hji]
    · rw [if_neg hji, if_neg (by simp [hji]; omega)]
  · have hji : j ∉ ids := fun h => hj (hb j h)
    rw [List.getElem?_append_right (by rw [setAll_len]; omega), setAll_len, if_pos (.inr (by omega)), if_neg hji, List.getElem?_drop]

theorem nodup_owns_mk : ∀ {μ : List CB}, (∀ (i : Nat) (c : CB), μ[i]? = some c → c.own.Nodup) → (∀ (i j : Nat) (c d : CB), i ≠ j → μ[i]? = some c → μ[j]? = some d → ∀ q ∈ c.own, q ∉ d.own) → (owns μ).Nodup
  | [], _, _ => by simp [owns]
  | x :: r, h1, h2 => by
    show (x.own ++ owns r).Nodup
    rw [List.nodup_append]
    refine ⟨h1 0 x rfl, nodup_owns_mk (fun i c hc => h1 (i + 1) c (by simpa using hc)) (fun i j c d hij hc hd => h2 (i + 1) (j + 1) c d (by omega) (by simpa using hc) (by simpa using hd)), fun q hq q' hq' e => ?_⟩
    subst e
    obtain ⟨d, hd, hqd⟩ := List.mem_flatMap.1 hq'
    obtain ⟨j, hj⟩ := List.getElem?_of_mem hd
    exact h2 0 (j + 1) x d (by omega) rfl (by simpa using hj) q hq hqd

end Go.Proofs.YtbamhlgkoimjoaaDoor.Ab
/- Calls with blocks. -/
namespace Go.Proofs.YtbamhlgkoimjoaaDoor.Ab
open Go
set_option linter.unusedVariables false
set_option linter.unusedSimpArgs false

variable {P : Program} {O : Orc} {s : St} {sc sc' : Script} {w w' : World} {Pr Pr' : Nat → Prop} {vw vw' : Nat → Option VW} {bl : List B} {μ : List CB} {a : Act} {ρ : Nat → Option Nat}
  {p : Patch} {Q : Exit → Act → World → Prop}

theorem vwOf_map {b b' : B} {c : CB} (h : mapB ρ b = some b') : vwOf b' c = vwOf b c := by
  cases b with
  | bx ty cs => obtain ⟨x, _, rfl⟩ := Option.map_eq_some_iff.1 h; cases c <;> rfl
  | _ => simp only [mapB, Option.some.injEq] at h; subst h; rfl

theorem mapBs_get : ∀ {bs bs' : List B}, mapBs ρ bs = some bs' → bs'.length = bs.length ∧ ∀ (i : Nat) (b : B), bs[i]? = some b → ∃ b', bs'[i]? = some b' ∧ mapB ρ b = some b'
  | [], bs', h => by simp [mapBs] at h; subst h; simp
  | b :: r, bs', h => by
    simp only [mapBs] at h
    split at h
    · rename_i x y h1 h2
      cases h
      obtain ⟨g1, g2⟩ := mapBs_get h2
      refine ⟨by simp [g1], fun i z hz => ?_⟩
      cases i with
      | zero => simp at hz; subst hz; exact ⟨x, rfl, h1⟩
      | succ i => exact g2 i z (by simpa using hz)
    · cases h

theorem brel_map (hρ : Ren ρ vw vw') {b b' : B} {c : CB} (hm : mapB ρ b = some b') (h : BRel P w Pr vw b c) : BRel P w Pr vw' b' c := by
  cases b with
  | bx ty cs =>
    obtain ⟨x, hx, rfl⟩ := Option.map_eq_some_iff.1 hm
    cases c with
    | box k => obtain ⟨cur, e, h1, ht, h2⟩ := h; exact ⟨cur, e, h1, ht, mapL1_ok hρ hx h2⟩
    | _ => exact h.elim
  | _ => simp only [mapB, Option.some.injEq] at hm; subst hm; exact h.mono P (fun _ h => h) (fun _ _ => rfl) (fun _ _ => rfl) (by simp [idsB])

theorem mapL1_vrel (hρ : Ren ρ vw vw') : ∀ {cs cs' : List V} {us : List Value}, mapL1 ρ cs = some cs' → All2 (VRel P w Pr vw) cs us → All2 (VRel P w Pr vw') cs' us
  | [], cs', us, hm, h => by simp [mapL1] at hm; subst hm; cases us with | nil => trivial | cons _ _ => exact h.elim
  | c :: r, cs', us, hm, h => by
    simp only [mapL1] at hm
    split at hm
    · rename_i x y h1 h2
      cases hm
      cases us with
      | nil => exact h.elim
      | cons u us =>
        have h1' : VRel1 P w Pr vw c u := by
          have hn := noTup_map1 h1
          have := h.1
          cases c with
          | tup vs => exact (hn vs rfl).elim
          | _ => exact this
        exact ⟨(map1_ok hρ h1 h1').toV, mapL1_vrel hρ h2 h.2⟩
    · cases hm

theorem blksQ_ok : ∀ {ids : List Nat} {bs : List B} {sc sc' : Script}, Hold O s (blksQ ids) sc bs sc' → bs = ids.map s.blk ∧ sc' = sc
  | [], bs, sc, sc', h => by obtain ⟨h1, h2⟩ := hold_ret.1 h; exact ⟨h1, h2⟩
  | i :: r, bs, sc, sc', h => by
    rw [blksQ, hold_blk] at h
    obtain ⟨x, sc1, h1, h2⟩ := hold_bind.1 h
    obtain ⟨rfl, rfl⟩ := hold_ret.1 h2
    obtain ⟨rfl, rfl⟩ := blksQ_ok h1
    exact ⟨rfl, rfl⟩

theorem nodupB_ok : ∀ {l : List Nat}, nodupB l = true → l.Nodup
  | [], _ => List.nodup_nil
  | i :: r, h => by
    simp only [nodupB, Bool.and_eq_true, Bool.not_eq_true'] at h
    exact List.nodup_cons.2 ⟨by have := h.1; simpa using this, nodupB_ok h.2⟩

theorem idxOf_get : ∀ {l : List Nat} {i k : Nat}, l.Nodup → l[k]? = some i → l.idxOf i = k
  | [], i, k, _, h => by simp at h
  | x :: r, i, k, hn, h => by
    rw [List.nodup_cons] at hn
    rw [List.idxOf_cons]
    cases k with
    | zero => simp at h; subst h; simp
    | succ k =>
      have h' : r[k]? = some i := by simpa using h
      have hne : (x == i) = false := by
        have : x ≠ i := fun e => hn.1 (e ▸ List.mem_of_getElem? h')
        simpa using this
      rw [hne, cond_false, idxOf_get hn.2 h']
theorem get_idxOf : ∀ {l : List Nat} {i : Nat}, i ∈ l → l[l.idxOf i]? = some i
  | [], i, h => by simp at h
  | x :: r, i, h => by
    rw [List.idxOf_cons]
    by_cases hx : x = i
    · subst hx; simp
    · have : (x == i) = false := by simpa using hx
      rw [this, cond_false, List.getElem?_cons_succ]
      exact get_idxOf ((List.mem_cons.1 h).resolve_left fun e => hx e.symm)

theorem zip_short {α β : Type} : ∀ (l : List α) (m k : List β), l.length ≤ m.length → l.zip (m ++ k) = l.zip m
  | [], _, _, _ => by simp
  | a :: l, [], _, h => by simp at h
  | a :: l, b :: m, k, h => by simp only [List.cons_append, List.zip_cons_cons]; rw [zip_short l m k (by simpa using h)]

theorem goes_full {o : Oper} {f : Nat} {ids : List Nat} {as as' : List V} {vs : List Value} {bs bs' bs'' : List B} {r r' : V} (hR : Rel P s a w μ Pr) (hrun : (execOp a.eval o).run P w = .ok (.enter f vs.toArray) w)
    (hnd : ids.Nodup) (hin : ∀ i ∈ ids, i < s.blks.length) (hbs : mapBs (seen ids) (ids.map s.blk) = some bs) (has : mapL1 (seen ids) as = some as') (hvs : All2 (VRel P w Pr (view s.blks μ)) as vs)
    (hIC : ICall P f as' bs r bs') (hlen : ids.length ≤ bs'.length) (hr : map2 ((ids ++ (List.range (bs'.length - ids.length)).map (s.blks.length + ·))[·]?) r = some r')
    (hb' : mapBs ((ids ++ (List.range (bs'.length - ids.length)).map (s.blks.length + ·))[·]?) bs' = some bs'') :
    o.wp P a w (After P (({ sets := (putP o.dst (lay (s.blks.length + (bs''.drop ids.length).length) r').1).sets, bsets := ids.zip bs'', push := bs''.drop ids.length ++ (lay (s.blks.length + (bs''.drop ids.length).length) r').2, kill := ids.map (·, .gone) } : Patch).apply s) μ Pr w) Q := by
  obtain ⟨n, hn⟩ : ∃ n, n = s.blks.length := ⟨_, rfl⟩
  rw [← hn] at hin hr hb' ⊢
  have hmun : μ.length = n := by rw [hR.mu, hn]
  let μs : List CB := ids.map fun i => (μ[i]?).getD .dead
  have hμs : ∀ (i k : Nat), ids[k]? = some i → ∃ c : CB, μ[i]? = some c ∧ μs[k]? = some c := by
    intro i k hk
    have hi := hin i (List.mem_of_getElem? hk)
    refine ⟨μ[i], List.getElem?_eq_getElem (by omega), ?_⟩
    simp only [μs, List.getElem?_map, hk, Option.map_some]
    rw [List.getElem?_eq_getElem (by omega)]; rfl
  have hblk : ∀ i, i < n → s.blks[i]? = some (s.blk i) := by
    intro i hi
    unfold St.blk
    rw [List.getElem?_eq_getElem (by omega)]; rfl
  obtain ⟨hbl, hbg⟩ := mapBs_get hbs
  rw [List.length_map] at hbl
  have hbsk : ∀ (i k : Nat), ids[k]? = some i → ∃ b', bs[k]? = some b' ∧ mapB (seen ids) (s.blk i) = some b' := fun i k hk => hbg k (s.blk i) (by rw [List.getElem?_map, hk]; rfl)
  have hget : ∀ (k : Nat) (x : CB), μs[k]? = some x → ∃ i, ids[k]? = some i ∧ μ[i]? = some x := by
    intro k x hx
    have hk : k < ids.length := by have := (List.getElem?_eq_some_iff.1 hx).1; simpa [μs] using this
    obtain ⟨c, h1, h2⟩ := hμs ids[k] k (List.getElem?_eq_getElem hk)
    rw [hx] at h2; cases h2
    exact ⟨_, List.getElem?_eq_getElem hk, h1⟩
  have hview : ∀ (i k : Nat), ids[k]? = some i → view bs μs k = view s.blks μ i := by
    intro i k hk
    obtain ⟨c, h1, h2⟩ := hμs i k hk
    obtain ⟨b', h3, h4⟩ := hbsk i k hk
    unfold view
    rw [h3, h2, hblk i (hin i (List.mem_of_getElem? hk)), h1]
    exact vwOf_map h4
  have hseen : ∀ (i k : Nat), seen ids i = some k → ids[k]? = some i := by
    intro i k h
    unfold seen at h
    split at h
    · rename_i hc
      cases h
      exact get_idxOf (by simpa using hc)
    · cases h
  have hren : Ren (seen ids) (view s.blks μ) (view bs μs) := fun i k h _ => hview i k (hseen i k h)
  have hsub : ∀ q ∈ owns μs, q ∈ owns μ := by
    intro q hq
    obtain ⟨c, hc, hqc⟩ := List.mem_flatMap.1 hq
    obtain ⟨k, hk⟩ := List.getElem?_of_mem hc
    obtain ⟨i, _, hi⟩ := hget k c hk
    exact List.mem_flatMap.2 ⟨c, List.mem_of_getElem? hi, hqc⟩
  have hS0 : SRel P bs w μs Pr := by
    refine ⟨by simp [μs, hbl], fun k b c hb hc => ?_, nodup_owns_mk (fun k c hc => ?_) (fun k l c d hkl hc hd q hq => ?_), fun q hq => hR.lt q (hsub q hq), hR.pr, hR.glob⟩
    · obtain ⟨i, h1, h2⟩ := hget k c hc
      obtain ⟨b', h3, h4⟩ := hbsk i k h1
      rw [hb] at h3; cases h3
      exact brel_map hren h4 (hR.blks i _ c (hblk i (hin i (List.mem_of_getElem? h1))) h2)
    · obtain ⟨i, _, h2⟩ := hget k c hc
      exact own_nodup hR.nodup h2
    · obtain ⟨i, h1, h2⟩ := hget k c hc
      obtain ⟨j, h3, h4⟩ := hget l d hd
      refine nodup_own hR.nodup i j c d h2 h4 (fun e => hkl ?_) q hq
      subst e
      rw [← idxOf_get hnd h1, ← idxOf_get hnd h3]
  have hvs' := mapL1_vrel hren has hvs
  unfold Oper.wp
  rw [hrun]
  refine Calls.mono (hIC w Pr μs vs hS0 hvs') ?_
  rintro e w' ⟨x, μ', Pr', rfl, hS, hx, hev, hkeep⟩
  -- the store as a whole
  obtain ⟨k, hk⟩ : ∃ k, k = ids.length := ⟨_, rfl⟩
  obtain ⟨laid, hlaid⟩ : ∃ l, l = (lay bs'.length r).2 := ⟨_, rfl⟩
  rw [← hlaid] at hS hx
  obtain ⟨hbl'', hbg''⟩ := mapBs_get hb'
  have hmu' : μ'.length = bs'.length + laid.length := by rw [hS.mu]; simp
  obtain ⟨hK1, hK2, hK3, hK4, hK5⟩ := kills_ok ids [] hR (by simp) (by simp)
  simp only [List.nil_append] at hK2 hK3
  let N : List B := scatter ids (bs'' ++ laid) (kills ids s).blks
  let μN : List CB := scatter ids μ' μ
  have hNlen : (kills ids s).blks.length = n := by rw [hK5, hn]
  have hN : ∀ j : Nat, N[j]? = if j ∈ ids ∨ n ≤ j then (bs'' ++ laid)[from' ids n j]? else (kills ids s).blks[j]? := by
    intro j
    have := scatter_get (l := bs'' ++ laid) (base := (kills ids s).blks) j hnd (by rw [hNlen]; exact hin) (by simp; omega)
    rw [hNlen] at this; exact this
  have hμN : ∀ j : Nat, μN[j]? = if j ∈ ids ∨ n ≤ j then μ'[from' ids n j]? else μ[j]? := by
    intro j
    have := scatter_get (l := μ') (base := μ) j hnd (by rw [hmun]; exact hin) (by omega)
    rw [hmun] at this; exact this
  have hvl : ∀ i, view (bs'' ++ laid) μ' i = view (bs' ++ laid) μ' i := by
    intro i
    unfold view
    by_cases hi : i < bs'.length
    · rw [List.getElem?_append_left (by omega), List.getElem?_append_left hi, List.getElem?_eq_getElem hi]
      obtain ⟨b', h1, h2⟩ := hbg'' i bs'[i] (List.getElem?_eq_getElem hi)
      rw [h1]
      cases μ'[i]? with
      | none => rfl
      | some c => exact vwOf_map h2
    · rw [List.getElem?_append_right (by omega), List.getElem?_append_right (by omega), hbl'']
  have hvN : ∀ j, view N μN j = if j ∈ ids ∨ n ≤ j then view (bs' ++ laid) μ' (from' ids n j) else view s.blks μ j := by
    intro j
    rw [← hK4]
    by_cases hj : j ∈ ids ∨ n ≤ j
    · rw [if_pos hj, ← hvl]; unfold view; rw [hN, hμN, if_pos hj, if_pos hj]
    · rw [if_neg hj]; unfold view; rw [hN, hμN, if_neg hj, if_neg hj]
  have hall : ∀ (i j : Nat), (ids ++ (List.range (bs'.length - ids.length)).map (n + ·))[i]? = some j → (j ∈ ids ∨ n ≤ j) ∧ from' ids n j = i := by
    intro i j h
    by_cases hi : i < ids.length
    · rw [List.getElem?_append_left hi] at h
      have hj := List.mem_of_getElem? h
      exact ⟨.inl hj, by unfold from'; rw [if_pos hj]; exact idxOf_get hnd h⟩
    · rw [List.getElem?_append_right (by omega), List.getElem?_map, Option.map_eq_some_iff] at h
      obtain ⟨q, hq, rfl⟩ := h
      obtain ⟨hq1, hq2⟩ := List.getElem?_eq_some_iff.1 hq
      simp at hq2
      have hni : n + q ∉ ids := fun hm => by have := hin _ hm; omega
      exact ⟨.inr (by omega), by unfold from'; rw [if_neg hni]; omega⟩
  have hrenN : Ren ((ids ++ (List.range (bs'.length - ids.length)).map (n + ·))[·]?) (view (bs' ++ laid) μ') (view N μN) := by
    intro i j h _
    obtain ⟨h1, h2⟩ := hall i j h
    rw [hvN, if_pos h1, h2]
  have hdl : (bs''.drop ids.length).length = bs'.length - ids.length := by rw [List.length_drop, hbl'']
  obtain ⟨hl1, hl2⟩ := lay_ok (P := P) (w := w') (Pr := Pr') (n := bs'.length) (m := n + (bs''.drop ids.length).length) hrenN hr (fun i _ _ => by
    have hni : n + (bs''.drop ids.length).length + i ∉ ids := fun hm => by have := hin _ hm; omega
    rw [hvN, if_pos (.inr (by omega))]
    unfold from'
    rw [if_neg hni, hdl]
    congr 1; omega)
  have hxN := hl2 x hx
  -- boxes stay
  have hboxN : ∀ i q, view s.blks μ i = some (.box q) → view N μN i = some (.box q) := by
    intro i q h
    rw [hvN]
    by_cases hi : i ∈ ids
    · rw [if_pos (.inl hi)]
      unfold from'
      rw [if_pos hi]
      obtain ⟨c, h1, h2⟩ := hμs i (ids.idxOf i) (get_idxOf hi)
      unfold view at h
      rw [hblk i (hin i hi), h1] at h
      have hcb : c = .box q := by
        revert h
        cases s.blk i <;> cases c <;> simp [vwOf]
      subst hcb
      have h3 := hkeep _ _ h2
      have hlt : ids.idxOf i < (bs' ++ laid).length := by
        have := List.idxOf_lt_length_of_mem hi
        simp; omega
      have hB := hS.blks _ _ _ (List.getElem?_eq_getElem hlt) h3
      unfold view
      rw [List.getElem?_eq_getElem hlt, h3]
      revert hB
      generalize (bs' ++ laid)[ids.idxOf i] = b
      intro hB
      cases b with
      | bx ty cs => rfl
      | _ => exact hB.elim
    · have hlt : i < n := by
        unfold view at h
        cases hb : s.blks[i]? with
        | none => simp [hb] at h
        | some x => have := (List.getElem?_eq_some_iff.1 hb).1; omega
      rw [if_neg (by simp [hi]; omega)]
      exact h
  have hpw : ∀ q, Pr q → w'.heap[q]? = w.heap[q]? := fun q hq => hev.block q (hR.pr q hq) (fun hm => (hR.lt q (hsub q hm)).2 hq)
  have hout : ∀ (j : Nat) (c : CB), j ∉ ids → μ[j]? = some c → ∀ q ∈ c.own, q ∈ owns μ ∧ q ∉ owns μs := by
    intro j c hj hc q hq
    refine ⟨List.mem_flatMap.2 ⟨c, List.mem_of_getElem? hc, hq⟩, fun hm => ?_⟩
    obtain ⟨d, hd, hqd⟩ := List.mem_flatMap.1 hm
    obtain ⟨l, hl⟩ := List.getElem?_of_mem hd
    obtain ⟨i, h1, h2⟩ := hget l d hl
    exact nodup_own hR.nodup j i c d hc h2 (fun e => hj (e ▸ List.mem_of_getElem? h1)) q hq hqd
  have hviewK : ∀ i, i ∉ ids → view s.blks μ i ≠ none → view N μN i = view s.blks μ i := by
    intro i hi hne
    have hlt : i < n := by
      unfold view at hne
      cases hb : s.blks[i]? with
      | none => simp [hb] at hne
      | some x => have := (List.getElem?_eq_some_iff.1 hb).1; omega
    rw [hvN, if_neg (by simp [hi]; omega)]
  have hNl : N.length = n + (bs''.length - ids.length) + laid.length := by
    simp only [N, scatter, List.length_append, setAll_len, hNlen, List.length_drop]; omega
  have hμNl : μN.length = N.length := by
    simp only [μN, scatter, List.length_append, setAll_len, hmun, List.length_drop]; omega
  have horig : ∀ (j : Nat) (c : CB), μN[j]? = some c → (j < n ∧ j ∉ ids ∧ μ[j]? = some c) ∨ ((j ∈ ids ∨ n ≤ j) ∧ μ'[from' ids n j]? = some c) := by
    intro j c hc
    rw [hμN] at hc
    by_cases hj : j ∈ ids ∨ n ≤ j
    · rw [if_pos hj] at hc; exact .inr ⟨hj, hc⟩
    · rw [if_neg hj] at hc; simp only [not_or] at hj; exact .inl ⟨by omega, hj.1, hc⟩
  have hown' : ∀ q ∈ owns μ', q ∈ owns μs ∨ w.heap.size ≤ q := hev.own
  have hinj : ∀ i j, (i ∈ ids ∨ n ≤ i) → (j ∈ ids ∨ n ≤ j) → from' ids n i = from' ids n j → i = j := by
    intro i j hi hj h
    unfold from' at h
    by_cases h1 : i ∈ ids <;> by_cases h2 : j ∈ ids
    · rw [if_pos h1, if_pos h2] at h
      have g1 := get_idxOf h1; have g2 := get_idxOf h2
      rw [h, g2] at g1; cases g1; rfl
    · rw [if_pos h1, if_neg h2] at h
      have := List.idxOf_lt_length_of_mem h1; omega
    · rw [if_neg h1, if_pos h2] at h
      have := List.idxOf_lt_length_of_mem h2; omega
    · rw [if_neg h1, if_neg h2] at h
      have := hi.resolve_left h1; have := hj.resolve_left h2; omega
  have hdis : ∀ (j : Nat) (c : CB), j ∉ ids → μ[j]? = some c → ∀ q ∈ c.own, q ∉ owns μ' := by
    intro j c hj hc q hq hm
    obtain ⟨h1, h2⟩ := hout j c hj hc q hq
    rcases hown' q hm with h | h
    · exact h2 h
    · have := (hR.lt q h1).1; omega
  have hSN : SRel P N w' μN Pr' := by
    refine ⟨hμNl, fun j b c hb hc => ?_, nodup_owns_mk (fun j c hc => ?_) (fun i j c d hij hc hd q hq hq' => ?_), fun q hq => ?_, hS.pr, hS.glob⟩
    · rw [hN] at hb
      rw [hμN] at hc
      by_cases hj : j ∈ ids ∨ n ≤ j
      · rw [if_pos hj] at hb hc
        by_cases hlt : from' ids n j < bs''.length
        · rw [List.getElem?_append_left hlt] at hb
          have hlt' : from' ids n j < bs'.length := by omega
          obtain ⟨b', h1, h2⟩ := hbg'' _ bs'[from' ids n j] (List.getElem?_eq_getElem hlt')
          rw [hb] at h1; cases h1
          exact brel_map hrenN h2 (hS.blks _ _ c (by rw [List.getElem?_append_left hlt', List.getElem?_eq_getElem hlt']) hc)
        · rw [List.getElem?_append_right (by omega)] at hb
          have hB := hS.blks (from' ids n j) b c (by rw [List.getElem?_append_right (by omega), ← hbl'']; exact hb) hc
          exact brel_listy (lay_listy bs'.length r b (by rw [← hlaid]; exact List.mem_of_getElem? hb)).1 hB (.inl fun _ h => h)
      · rw [if_neg hj] at hb hc
        simp only [not_or] at hj
        have hB := hK1.blks j b c hb hc
        rw [hK4] at hB
        refine BRel.mono2 hev.prm hpw hboxN (fun q hq => ?_) (fun i hi hne => hviewK i (hK3 j b hb i hi) hne) hB
        obtain ⟨h1, h2⟩ := hout j c hj.1 hc q hq
        exact hev.block q (hR.lt q h1).1 h2
    · rcases horig j c hc with ⟨_, _, h⟩ | ⟨_, h⟩
      · exact own_nodup hR.nodup h
      · exact own_nodup hS.nodup h
    · rcases horig i c hc with ⟨h1, h2, h3⟩ | ⟨h1, h3⟩ <;> rcases horig j d hd with ⟨g1, g2, g3⟩ | ⟨g1, g3⟩
      · exact nodup_own hR.nodup i j c d h3 g3 hij q hq hq'
      · exact hdis i c h2 h3 q hq (List.mem_flatMap.2 ⟨d, List.mem_of_getElem? g3, hq'⟩)
      · exact hdis j d g2 g3 q hq' (List.mem_flatMap.2 ⟨c, List.mem_of_getElem? h3, hq⟩)
      · exact nodup_own hS.nodup _ _ c d h3 g3 (fun e => hij (hinj i j h1 g1 e)) q hq hq'
    · obtain ⟨c, hc, hqc⟩ := List.mem_flatMap.1 hq
      obtain ⟨j, hj⟩ := List.getElem?_of_mem hc
      rcases horig j c hj with ⟨_, h2, h3⟩ | ⟨_, h3⟩
      · obtain ⟨h4, h5⟩ := hout j c h2 h3 q hqc
        refine ⟨Nat.lt_of_lt_of_le (hR.lt q h4).1 hev.size, fun hp => ?_⟩
        rcases hev.prn q hp with h | h | h
        · exact (hR.lt q h4).2 h
        · exact h5 h
        · have := (hR.lt q h4).1; omega
      · exact hS.lt q (List.mem_flatMap.2 ⟨c, List.mem_of_getElem? h3, hqc⟩)
  have hEvo : Evo (owns μ) Pr w (owns μN) Pr' w' := by
    refine ⟨hev.os, hev.tape, hev.output, hev.size, fun q hq hno => hev.block q hq (fun hm => hno (hsub q hm)), fun q hq => ?_, hev.prm, fun q hq => ?_⟩
    · obtain ⟨c, hc, hqc⟩ := List.mem_flatMap.1 hq
      obtain ⟨j, hj⟩ := List.getElem?_of_mem hc
      rcases horig j c hj with ⟨_, h2, h3⟩ | ⟨_, h3⟩
      · exact .inl (hout j c h2 h3 q hqc).1
      · exact (hown' q (List.mem_flatMap.2 ⟨c, List.mem_of_getElem? h3, hqc⟩)).imp_left (hsub q)
    · rcases hev.prn q hq with h | h | h
      · exact .inl h
      · exact .inr (.inl (hsub q h))
      · exact .inr (.inr h)
  have hRN : Rel P ⟨(kills ids s).slots, N⟩ a w' μN Pr' := by
    refine ⟨hSN, hR.defers, hK1.len, fun m v hv => ?_⟩
    have hV := hK1.slots m v hv
    rw [hK4] at hV
    exact VRel.mono2 hev.prm hpw hboxN (fun i hi hne => hviewK i (hK2 m v hv i hi) hne) hV
  have hKeep : Keep μ μN := by
    intro i q hi
    rw [hμN]
    have hlt : i < n := by have := (List.getElem?_eq_some_iff.1 hi).1; omega
    by_cases him : i ∈ ids
    · rw [if_pos (.inl him)]
      unfold from'
      rw [if_pos him]
      obtain ⟨c, h1, h2⟩ := hμs i (ids.idxOf i) (get_idxOf him)
      rw [hi] at h1; cases h1
      exact hkeep _ _ h2
    · rw [if_neg (by simp [him]; omega)]; exact hi
  refine ⟨μN, Pr', ?_, hEvo, hKeep⟩
  have hNe : N = setAll (ids.zip bs'') (kills ids s).blks ++ (bs''.drop ids.length ++ laid) := by
    simp only [N, scatter]
    rw [List.drop_append_of_le_length (by omega)]
    congr 2
    exact zip_short ids bs'' laid (by omega)
  rw [hl1]
  have : ({ sets := (putP o.dst (lay (n + (bs''.drop ids.length).length) r').1).sets, bsets := ids.zip bs'', push := bs''.drop ids.length ++ (lay bs'.length r).2, kill := ids.map (·, .gone) } : Patch).apply s = setSlot ⟨(kills ids s).slots, N⟩ o.dst (lay (n + (bs''.drop ids.length).length) r').1 := by
    rw [hNe, hlaid]
    cases o.dst <;> simp [putP, Patch.apply, setAll, modAll, setSlot, kills]
  rw [this]
  exact hRN.setSlot P _ hxN

end Go.Proofs.YtbamhlgkoimjoaaDoor.Ab
/- Calls as operations; every operation. -/
namespace Go.Proofs.YtbamhlgkoimjoaaDoor.Ab
open Go
set_option linter.unusedVariables false
set_option linter.unusedSimpArgs false

variable {P : Program} {O : Orc} {s : St} {sc sc' : Script} {w w' : World} {Pr Pr' : Nat → Prop} {vw vw' : Nat → Option VW} {bl : List B} {μ : List CB} {a : Act}
  {wr : Nat → Bool} {lit : Bool} {p : Patch} {Q : Exit → Act → World → Prop}

/-- What the oracle says is so. -/
def OrcOk (P : Program) (O : Orc) : Prop := ∀ f as bs r bs', O f as bs = some (r, bs') → ICall P f as bs r bs'

theorem seen_lt {ids : List Nat} {n : Nat} (h : ids.all (fun i => decide (i < n)) = true) : ∀ i ∈ ids, i < n := fun i hi => by
  have := List.all_eq_true.1 h i hi; simpa using this

theorem layV_nil {v : V} (h : (layV 0 v).2 = []) (n : Nat) : layV n v = (v, []) := by cases v <;> first | rfl | simp [layV] at h
theorem layL_nil : ∀ {cs : List V} {m : Nat}, (layL m cs).2 = [] → ∀ n, layL n cs = (cs, [])
  | [], _, _, n => rfl
  | c :: r, m, h, n => by
    simp only [layL, List.append_eq_nil_iff] at h
    have h1 : (layV 0 c).2 = [] := by have := h.1; cases c <;> first | rfl | simp [layV] at this
    simp only [layL, layV_nil h1, layL_nil h.2, List.nil_append]
theorem lay1_nil {v : V} {m : Nat} (h : (lay1 m v).2 = []) (n : Nat) : lay1 n v = (v, []) := by
  cases v <;> first | rfl | (simp [lay1, layV] at h; done) | skip
  simp only [lay1] at h ⊢
  rw [layL_nil h]
theorem layT_nil : ∀ {cs : List V} {m : Nat}, (layT m cs).2 = [] → ∀ n, layT n cs = (cs, [])
  | [], _, _, n => rfl
  | c :: r, m, h, n => by
    simp only [layT, List.append_eq_nil_iff] at h
    simp only [layT, lay1_nil h.1, layT_nil h.2, List.nil_append]
theorem lay_nil {v : V} {m : Nat} (h : (lay m v).2 = []) (n : Nat) : lay n v = (v, []) := by
  cases v with
  | tup cs => simp only [lay] at h ⊢; rw [layT_nil h]
  | _ => exact lay1_nil h n

theorem hold_done {dst : Option Nat} {r : V} {bsets : List (Nat × B)} {push : List B} {kill : List (Nat × KK)} (h : Hold O s (doneQ dst r bsets push kill) sc p sc') :
    p = { sets := (putP dst (lay (s.blks.length + push.length) r).1).sets, bsets := bsets, push := push ++ (lay (s.blks.length + push.length) r).2, kill := kill } := by
  unfold doneQ at h
  split at h
  · rename_i hl
    obtain ⟨rfl, _⟩ := hold_ret.1 h
    rw [lay_nil hl, List.append_nil]
  · rw [hold_nblk] at h
    exact (hold_ret.1 h).1

theorem map0_nil {v v' : V} (h : map0 (seen []) v = some v') : v' = v := by
  cases v <;> simp [map0, seen] at h <;> exact h.symm
theorem mapL0_nil : ∀ {xs ys : List V}, mapL0 (seen []) xs = some ys → ys = xs
  | [], ys, h => by simp [mapL0] at h; exact h
  | x :: xs, ys, h => by
    simp only [mapL0] at h
    split at h
    · rename_i a b h1 h2; cases h; rw [map0_nil h1, mapL0_nil h2]
    · cases h
theorem map1_nil {v v' : V} (h : map1 (seen []) v = some v') : v' = v := by
  cases v with
  | func f cap => obtain ⟨c, hc, rfl⟩ := Option.map_eq_some_iff.1 h; rw [mapL0_nil hc]
  | iface t x => obtain ⟨c, hc, rfl⟩ := Option.map_eq_some_iff.1 h; rw [map0_nil hc]
  | agg cs => obtain ⟨c, hc, rfl⟩ := Option.map_eq_some_iff.1 h; rw [mapL0_nil hc]
  | _ => exact map0_nil h
theorem mapL1_nil : ∀ {xs ys : List V}, mapL1 (seen []) xs = some ys → ys = xs
  | [], ys, h => by simp [mapL1] at h; exact h
  | x :: xs, ys, h => by
    simp only [mapL1] at h
    split at h
    · rename_i a b h1 h2; cases h; rw [map1_nil h1, mapL1_nil h2]
    · cases h

/-- What the model's own functions return. -/
theorem extV_ok {f : Nat} {name : String} {as : List V} {r : V} {vs : List Value} {vw : Nat → Option VW} (hn : nameOf P f = some name) (h : extV name as = some r) (hvs : All2 (VRel P w Pr vw) as vs) :
    ∃ d y, r = .d d ∧ (callFunc f vs.toArray).run P w = .ok (.value y) w ∧ DRel w Pr d y := by
  unfold nameOf at hn
  split at hn
  · rename_i fn hf
    split at hn
    · rename_i hc
      cases hn
      simp only [Bool.and_eq_true, Bool.not_eq_true'] at hc
      obtain ⟨⟨hb, hng⟩, hnx⟩ := hc
      have hnx : Extern.findNext fn = none := by simpa using hnx
      unfold extV at h
      split at h
      · rename_i l c
        match vs, hvs with
        | [u, v], hvs =>
          obtain ⟨t, rfl, rfl⟩ := drel_str (show DRel w Pr (.str l) u from hvs.1)
          obtain rfl := drel_int (show DRel w Pr (.int .u8 c) v from hvs.2.1)
          split at h
          · rename_i hname
            cases h
            have he : Extern.find fn = some Extern.BytealgIndexByte.indexByte := by unfold Extern.find; rw [hname]; rfl
            refine ⟨_, _, rfl, ?_, .int _ _⟩
            show (callFunc f #[.string t, .int .u8 c]).run P w = _
            rw [run_callFunc_extern hf hng hb hnx he, Go.Lib.run_indexByteString]
            rfl
          · split at h
            · rename_i hname
              cases h
              have he : Extern.find fn = some Extern.BytealgCount.count := by unfold Extern.find; rw [hname]; rfl
              refine ⟨_, _, rfl, ?_, .int _ _⟩
              show (callFunc f #[.string t, .int .u8 c]).run P w = _
              rw [run_callFunc_extern hf hng hb hnx he, Go.Lib.run_countString]
              rfl
            · cases h
      · cases h
    · cases hn
  · cases hn

theorem op_callQ {o : Oper} {f : Nat} {as : List V} {vs : List Value} (hO : OrcOk P O) (hR : Rel P s a w μ Pr) (hrun : (execOp a.eval o).run P w = (callFunc f vs.toArray).run P w) (hvs : All2 (VRel P w Pr (view s.blks μ)) as vs)
    (h : Hold O s (callQ P wr (ICall P) o.dst f as) sc p sc') : o.wp P a w (After P (p.apply s) μ Pr w) Q := by
  unfold callQ at h
  split at h
  · split at h
    · rename_i r hr
      obtain ⟨rfl, _⟩ := hold_ret.1 h
      obtain ⟨name, hn, hx⟩ := Option.bind_eq_some_iff.1 hr
      obtain ⟨d, y, rfl, hy, hd⟩ := extV_ok (P := P) (w := w) (Pr := Pr) (vw := view s.blks μ) hn hx hvs
      exact goes_val hR (x := y) (by rw [hrun]; exact hy) (show DRel w Pr d y from hd)
    · exact (hold_fail.1 h).elim
  rename_i hcb
  rw [callable_run (by simpa using hcb)] at hrun
  have pure : ∀ {as2 : List V} {r : V} {sc : Script}, ICall P f as2 [] r [] → (All2 (VRel P w Pr (view [] [])) as2 vs ∨ (All2 (VRel P w (Lent Pr μ) (view [] [])) as2 vs ∧ r.safe = true)) →
      Hold O s (match map2 (fun _ => none) r with | some r => doneQ o.dst r [] [] [] | none => .fail) sc p sc' → o.wp P a w (After P (p.apply s) μ Pr w) Q := by
    intro as2 r sc hIC h1 h
    split at h
    · rename_i r' hr
      obtain rfl := hold_done h
      simp only [List.length_nil, Nat.add_zero, List.nil_append]
      exact goes_pure hR hrun hIC h1 hr
    · exact (hold_fail.1 h).elim
  have full0 : ∀ {ids : List Nat} {bs bs' : List B} {as1 as2 : List V} {r : V} {sc : Script}, nodupB ids = true → mapBs (seen ids) (ids.map s.blk) = some bs → mapL1 (seen ids) as1 = some as2 → All2 (VRel P w Pr (view s.blks μ)) as1 vs → ICall P f as2 bs r bs' →
      Hold O s (fullQ o.dst ids r bs') sc p sc' → o.wp P a w (After P (p.apply s) μ Pr w) Q := by
    intro ids bs bs' as1 as2 r sc hnd hbs has hvs hIC h
    unfold fullQ at h
    rw [hold_nblk] at h
    split at h
    · exact (hold_fail.1 h).elim
    · rename_i hc
      simp only [not_or, Nat.not_lt, Bool.not_eq_false] at hc
      dsimp only at h
      split at h
      · rename_i r' bs'' hr hb
        obtain rfl := hold_done h
        exact goes_full hR hrun (nodupB_ok hnd) (seen_lt hc.2) hbs has hvs hIC hc.1 hr hb
      · exact (hold_fail.1 h).elim
  have full : ∀ {ids : List Nat} {bs bs' : List B} {as2 : List V} {r : V} {sc : Script}, nodupB ids = true → mapBs (seen ids) (ids.map s.blk) = some bs → mapL1 (seen ids) as = some as2 → ICall P f as2 bs r bs' →
      Hold O s (fullQ o.dst ids r bs') sc p sc' → o.wp P a w (After P (p.apply s) μ Pr w) Q := fun h1 h2 h3 h4 h5 => full0 h1 h2 h3 hvs h4 h5
  have orc : ∀ {sc : Script}, Hold O s (callOrc wr o.dst f as) sc p sc' → o.wp P a w (After P (p.apply s) μ Pr w) Q := by
    intro sc h
    unfold callOrc at h
    split at h
    · replace h := hold_bind.1 h
      obtain ⟨as2, sc1, h1, h⟩ := h
      rw [hold_call] at h
      obtain ⟨r, bs', ho, h⟩ := h
      have hIC := hO _ _ _ _ _ ho
      split at h
      · rename_i hc
        have hc : as.flatMap refs = [] := by simpa using hc
        obtain ⟨_, g2⟩ := toAL_ok (vw := view s.blks μ) hR.toSRel hvs h1
        obtain ⟨_, g3⟩ := toAL_ok (vw := view [] []) hR.toSRel hvs h1
        split at h
        · rename_i as3 h3
          have hsame : as3 = as2 := mapL1_nil h3
          subst hsame
          exact full0 (ids := []) (bs := []) (by simp [nodupB]) rfl h3 (g2 hc) hIC h
        · exact (hold_fail.1 h).elim
      · split at h
        · rename_i hc
          obtain ⟨g1, g2⟩ := toAL_ok (vw := view [] []) hR.toSRel hvs h1
          have hbe : bs' = [] := by simpa using hc.1
          subst hbe
          exact pure hIC (.inr ⟨g1, hc.2⟩) h
        · exact (hold_fail.1 h).elim
    · replace h := hold_bind.1 h
      obtain ⟨ids, sc1, h1, h⟩ := h
      split at h
      · exact (hold_fail.1 h).elim
      · rename_i hnd
        replace h := hold_bind.1 h
        obtain ⟨bs, sc2, h2, h⟩ := h
        obtain ⟨rfl, _⟩ := blksQ_ok h2
        split at h
        · rename_i as2 bs2 h3 h4
          rw [hold_call] at h
          obtain ⟨r, bs', ho, h⟩ := h
          exact full (by simpa using hnd) h4 h3 (hO _ _ _ _ _ ho) h
        · exact (hold_fail.1 h).elim
  rw [hold_pop] at h
  rcases h with ⟨_, h⟩ | ⟨it, u, _, h⟩
  · exact orc h
  · split at h
    · replace h := hold_bind.1 h
      obtain ⟨ds, sc1, h1, h⟩ := h
      obtain ⟨⟨hIC, hc⟩, h⟩ := hold_req.1 h
      obtain ⟨g1, g2⟩ := toDL_ok (vw := view [] []) hR.toSRel hvs h1
      exact pure hIC (hc.imp g2 (fun h => ⟨g1, h⟩)) h
    · exact orc h
    · split at h
      · exact (hold_fail.1 h).elim
      · rename_i hnd
        replace h := hold_bind.1 h
        obtain ⟨bs, sc2, h2, h⟩ := h
        obtain ⟨rfl, _⟩ := blksQ_ok h2
        split at h
        · rename_i as2 bs2 h3 h4
          obtain ⟨hIC, h⟩ := hold_req.1 h
          exact full (by simpa using hnd) h4 h3 hIC h
        · exact (hold_fail.1 h).elim
    · exact (hold_fail.1 h).elim
    · rename_i hno; cases hno

theorem methQ_ok (hS : SRel P s.blks w μ Pr) {t : TypeId} {v : V} {u : Value} {name : String} {f : Nat} {r : V} (hv : VRel P w Pr (view s.blks μ) v u) (h : Hold O s (methQ P t v name) sc (f, r) sc') (fuel : Nat) :
    ∃ x, (method (fuel + 1) t u name).run P w = .ok (f, x) w ∧ VRel P w Pr (view s.blks μ) r x := by
  unfold methQ at h
  split at h
  · rename_i i hi
    split at h
    · rename_i m hm
      split at h
      · rename_i hp
        have hpe : m.path = #[] := Array.size_eq_zero_iff.1 hp
        have hti : (typeInfo t).run P w = .ok i w := by simp [typeInfo, hi]
        split at h
        · rename_i f' e hf hu
          obtain ⟨he, _⟩ := hold_ret.1 h
          cases he
          refine ⟨u, ?_, hv⟩
          simp [method, hti, hm, hpe, hf, follow, receiverAt, run_und hu, Place.get]
        · rename_i f' e id off hf hu
          obtain ⟨x, sc1, h1, h2⟩ := hold_bind.1 h
          obtain ⟨he, _⟩ := hold_ret.1 h2
          cases he
          obtain ⟨z, g1, g2⟩ := loadV_ok hS hv h1
          obtain ⟨b, k1, k2⟩ := hv
          subst k2
          refine ⟨z, ?_, g2⟩
          have hw : ∀ x y : String, (Builtin.ssaWrapNilChk_ #[t] t #[.pointer (some ⟨b, off, none⟩), strVal x, strVal y]).run P w = .ok (.pointer (some ⟨b, off, none⟩)) w := fun _ _ => by rfl
          simp only [Instr.loadAt, Instr.sureAddr, Sem.run_bind, Sem.run_pure, Result.andThen_ok] at g1
          simp [method, hti, hm, hpe, hf, follow, receiverAt, run_und hu, Place.get, hw, asAddr, g1]
        · exact (hold_fail.1 h).elim
        · rename_i f' d hnp hf hu _
          obtain ⟨he, _⟩ := hold_ret.1 h
          cases he
          refine ⟨u, ?_, hv⟩
          simp [method, hti, hm, hpe, hf, follow, receiverAt, run_und hu, Place.get]
        · exact (hold_fail.1 h).elim
      · exact (hold_fail.1 h).elim
    · exact (hold_fail.1 h).elim
  · exact (hold_fail.1 h).elim


theorem op_call {o : Oper} {c : Call} (hO : OrcOk P O) (hR : Rel P s a w μ Pr) (ho : o.op = .call c) (h : Hold O s (evOp P wr (ICall P) lit o) sc p sc') : o.wp P a w (After P (p.apply s) μ Pr w) Q := by
  simp only [evOp, ho] at h
  replace h := hold_bind.1 h
  obtain ⟨vs, sc1, h1, h⟩ := h
  have hvs := opds_ok hR h1
  obtain ⟨callee, args, ats⟩ := c
  have hargs : args.map a.eval = (args.toList.map a.eval).toArray := by rw [← Array.toList_inj]; simp
  split at h
  · rename_i b hcal
    simp only at hcal
    subst hcal
    exact op_builtin hR ho h1 h
  · rename_i fo hcal
    simp only at hcal
    subst hcal
    replace h := hold_bind.1 h
    obtain ⟨fv, sc2, h2, h⟩ := h
    have hf := opd_ok hR h2
    split at h
    · rename_i f cap
      obtain ⟨us, hfe, hcap⟩ := hf
      refine op_callQ (vs := args.toList.map a.eval ++ us) hO hR ?_ (hvs.append (All2.mono (fun _ _ h => h.toV) hcap)) h
      simp only [execOp, ho, resolve, hfe, Deferred.ofValue, invoke, Sem.run_bind, Sem.run_pure, Result.andThen_ok]
      rw [hargs]
      congr 2
      simp
    · exact (hold_fail.1 h).elim
  · rename_i x name hcal
    simp only at hcal
    subst hcal
    replace h := hold_bind.1 h
    obtain ⟨xv, sc2, h2, h⟩ := h
    have hx := opd_ok hR h2
    split at h
    · rename_i t v
      replace h := hold_bind.1 h
      obtain ⟨⟨f, r⟩, sc3, h3, h⟩ := h
      obtain ⟨u, hxe, hv⟩ := hx
      obtain ⟨y, g1, g2⟩ := methQ_ok hR.toSRel hv.toV h3 (P.types.size + 99)
      refine op_callQ (vs := y :: args.toList.map a.eval) hO hR ?_ (show All2 (VRel P w Pr (view s.blks μ)) (r :: vs) (y :: args.toList.map a.eval) from ⟨g2, hvs⟩) h
      have hm : (method (P.types.size + Made.depth) t u name).run P w = .ok (f, y) w := g1
      have h0 : (#[Value.iface t u] ++ args.map a.eval)[0]? = some (Value.iface t u) := by
        rw [Array.getElem?_append_left (by simp)]
        rfl
      have h1 : (#[Value.iface t u] ++ args.map a.eval).extract 1 (#[Value.iface t u] ++ args.map a.eval).size = args.map a.eval := by
        apply Array.toList_inj.1
        simp
        rw [List.take_of_length_le (by simp)]
      have h2 : #[y] ++ args.map a.eval = (y :: args.toList.map a.eval).toArray := by rw [hargs]; simp
      simp only [execOp, ho, resolve, hxe, invoke, Sem.run_bind, Sem.run_pure, Result.andThen_ok, h0, h1]
      simp [callMethod, hm, h2]
    · exact (hold_fail.1 h).elim

/-- What an operation does is what the machine says. -/
theorem evOp_ok {o : Oper} (hO : OrcOk P O) (hR : Rel P s a w μ Pr) (hst : ∀ t x y, o.op = .store t x y → o.dst = none) (h : Hold O s (evOp P wr (ICall P) lit o) sc p sc') : o.wp P a w (After P (p.apply s) μ Pr w) Q := by
  cases ho : o.op with
  | move x => exact op_move hR (.inl ho) h
  | assign x => exact op_move hR (.inr ho) h
  | pick c x y => exact op_pick hR ho h
  | alloc t => exact op_alloc hR ho h
  | box t x => exact op_box hR ho h
  | build t ps => exact op_build hR ho h
  | buildSlice t n ps => exact op_buildSlice hR ho h
  | load t x => exact op_load hR ho h
  | store t x y => exact op_store hR ho (hst t x y ho) h
  | nilCheck x => exact op_nilCheck hR ho h
  | binOp op t x y yt => exact op_bin hR ho h
  | unOp op t x => exact op_un hR ho h
  | convert t u x => exact op_convert hR ho h
  | makeInterface t x => exact op_makeInterface hR ho h
  | makeFunc f x y => exact op_makeFunc hR ho h
  | makeSlice t x y => exact op_makeSlice hR ho h
  | slice t x l u m => exact op_slice hR ho h
  | fieldAddr t x i => exact op_fieldAddr hR ho h
  | field t x i => exact op_field hR ho h
  | indexAddr t x i => exact op_indexAddr hR ho h
  | index t x i => exact op_index hR ho h
  | typeAssert x t u b => exact op_typeAssert hR ho h
  | extract x i => exact op_extract hR ho h
  | call c => exact op_call hO hR ho h
  | _ => simp only [evOp, ho] at h; exact (hold_fail.1 h).elim

end Go.Proofs.YtbamhlgkoimjoaaDoor.Ab
/- Regions that draw their order: what is evaluated in the order of the text holds in every order. -/
namespace Go.Proofs.YtbamhlgkoimjoaaDoor.Ab
open Go
set_option linter.unusedVariables false
set_option linter.unusedSimpArgs false

variable {P : Program} {O : Orc} {s s' : St} {sc sc' : Script} {w w' : World} {Pr Pr' : Nat → Prop} {bl : List B} {μ : List CB} {a : Act} {wr : Nat → Bool} {lit : Bool} {p : Patch}

def AgrR (r : Rec) (s s' : St) : Prop := (∀ n ∈ r.reads, s'.slot n = s.slot n) ∧ (∀ n ∈ r.blks, s'.blk n = s.blk n) ∧ (∀ n ∈ r.shps, (s'.blk n).shape = (s.blk n).shape) ∧ (r.nb = true → s'.blks.length = s.blks.length)
def Agr (l : Log) (s s' : St) : Prop := (∀ n ∈ l.slots, s'.slot n = s.slot n) ∧ (∀ n ∈ l.blks, s'.blk n = s.blk n) ∧ (∀ n ∈ l.shps, (s'.blk n).shape = (s.blk n).shape) ∧ (l.nb = true → s'.blks.length = s.blks.length)
/-- What is read is what was noted. -/
def Known (r : Rec) (s : St) : Prop := (∀ n ∈ r.reads, s.slot n ∈ r.vals) ∧ (∀ n ∈ r.blks, s.blk n ∈ r.bvals)
theorem Known.agr {r : Rec} (h : Known r s) (hA : AgrR r s s') : Known r s' := ⟨fun n hn => by rw [hA.1 n hn]; exact h.1 n hn, fun n hn => by rw [hA.2.1 n hn]; exact h.2 n hn⟩

theorem runL_frame {α : Type} (q : Q α) : ∀ {sc : Script} {x : α} {ps : List Prop} {l : Log}, q.runL O s sc = some (x, sc', ps, l) → Agr l s s' → q.run O s' sc = some (x, sc', ps) := by
  induction q with
  | ret a => intro sc x ps l h _; simp only [Q.runL, Option.some.injEq, Prod.mk.injEq] at h; obtain ⟨rfl, rfl, rfl, _⟩ := h; rfl
  | fail => intro sc x ps l h; simp [Q.runL] at h
  | slot n k ih =>
    intro sc x ps l h hA
    simp only [Q.runL] at h
    split at h
    · rename_i a sc1 qs l' he
      simp only [Option.some.injEq, Prod.mk.injEq] at h
      obtain ⟨rfl, rfl, rfl, rfl⟩ := h
      simp only [Q.run]
      rw [hA.1 n (List.mem_cons_self ..)]
      exact ih _ he ⟨fun m hm => hA.1 m (List.mem_cons_of_mem _ hm), hA.2⟩
    · cases h
  | blk n k ih =>
    intro sc x ps l h hA
    simp only [Q.runL] at h
    split at h
    · rename_i a sc1 qs l' he
      simp only [Option.some.injEq, Prod.mk.injEq] at h
      obtain ⟨rfl, rfl, rfl, rfl⟩ := h
      simp only [Q.run]
      rw [hA.2.1 n (List.mem_cons_self ..)]
      exact ih _ he ⟨hA.1, fun m hm => hA.2.1 m (List.mem_cons_of_mem _ hm), hA.2.2⟩
    · cases h
  | shp n k ih =>
    intro sc x ps l h hA
    simp only [Q.runL] at h
    split at h
    · rename_i a sc1 qs l' he
      simp only [Option.some.injEq, Prod.mk.injEq] at h
      obtain ⟨rfl, rfl, rfl, rfl⟩ := h
      simp only [Q.run]
      rw [hA.2.2.1 n (List.mem_cons_self ..)]
      exact ih _ he ⟨hA.1, hA.2.1, fun m hm => hA.2.2.1 m (List.mem_cons_of_mem _ hm), hA.2.2.2⟩
    · cases h
  | nblk k ih =>
    intro sc x ps l h hA
    simp only [Q.runL] at h
    split at h
    · rename_i a sc1 qs l' he
      simp only [Option.some.injEq, Prod.mk.injEq] at h
      obtain ⟨rfl, rfl, rfl, rfl⟩ := h
      simp only [Q.run]
      rw [hA.2.2.2 rfl]
      exact ih _ he ⟨hA.1, hA.2.1, hA.2.2.1, fun _ => hA.2.2.2 rfl⟩
    · cases h
  | pop k ih =>
    intro sc x ps l h hA
    cases sc with
    | none => exact ih _ h hA
    | some t => cases t with
      | nil => simp [Q.runL] at h
      | cons i t => exact ih _ h hA
  | req p k ih =>
    intro sc x ps l h hA
    simp only [Q.runL] at h
    split at h
    · rename_i a sc1 qs l' he
      simp only [Option.some.injEq, Prod.mk.injEq] at h
      obtain ⟨rfl, rfl, rfl, rfl⟩ := h
      simp only [Q.run, ih he hA]
    · cases h
  | call f as bs k ih =>
    intro sc x ps l h hA
    simp only [Q.runL] at h
    split at h
    · rename_i r bs' he
      simp only [Q.run, he]
      exact ih _ _ h hA
    · cases h

theorem runL_hold {α : Type} {q : Q α} {x : α} {ps : List Prop} {l : Log} (h : q.runL O s sc = some (x, sc', ps, l)) (hA : Agr l s s') (hp : ∀ p ∈ ps, p) : Hold O s' q sc x sc' := ⟨ps, runL_frame q h hA, hp⟩

/-! ### guards -/

theorem wanted_ok (hR : Rel P s a w μ Pr) {all : List Oper} {o : Oper} {b : Bool} (h : wantedV s all o = some b) : Region.wanted o (yielded all.toArray a.tmps) = b := by
  unfold wantedV at h
  unfold Region.wanted
  split at h
  · rename_i hg; rw [hg]; cases h; rfl
  · rename_i j want hg
    rw [hg]
    split at h
    · rename_i t ht
      have hs := slot_ok hR t
      have ht' : (all.toArray[j]?).bind (·.dst) = some t := by simpa using ht
      split at h
      · rename_i c hc
        cases h
        rw [hc] at hs
        have := drel_bool (show DRel w Pr (.bool c) _ from hs)
        simp only [yielded, ht', Option.bind_some]
        rw [Array.getD_eq_getD_getElem?] at this
        cases hq : a.tmps[t]? with
        | none => rw [hq] at this; simp [undef] at this
        | some v => rw [hq] at this; simp at this; subst this; cases c <;> cases want <;> rfl
      · rename_i hc
        cases h
        rw [hc] at hs
        have : a.tmps.getD t undef = undef := hs
        simp only [yielded, ht', Option.bind_some]
        rw [Array.getD_eq_getD_getElem?] at this
        cases hq : a.tmps[t]? with
        | none => rfl
        | some v => rw [hq] at this; simp at this; subst this; rfl
      · cases h
    · cases h


theorem wanted_frame {all : List Oper} {o : Oper} (h : ∀ n ∈ guardSlots all o, s'.slot n = s.slot n) : wantedV s' all o = wantedV s all o := by
  unfold wantedV
  cases hg : o.guard with
  | none => rfl
  | some g =>
    obtain ⟨j, want⟩ := g
    simp only
    cases hd : (all[j]?).bind (·.dst) with
    | none => rfl
    | some t =>
      simp only
      rw [h t (by simp [guardSlots, hg, hd])]

/-! ### patches that stand apart -/

/-- What a patch's losses make of a value, of a block. -/
def KV (l : List (Nat × KK)) (v : V) : V := l.foldl (fun v k => kill1 k.1 k.2 v) v
def KB (l : List (Nat × KK)) (b : B) : B := l.foldl (fun b k => killB k.1 k.2 b) b

theorem fold_kill : ∀ (l : List (Nat × KK)) (s : St), l.foldl St.kill s = ⟨s.slots.map (KV l), s.blks.map (KB l)⟩
  | [], s => by
    have h1 : KV [] = id := rfl
    have h2 : KB [] = id := rfl
    simp [h1, h2]
  | k :: r, s => by
    rw [List.foldl_cons, fold_kill r]
    simp only [St.kill, List.map_map]
    rfl

theorem apply_eq (p : Patch) (s : St) : p.apply s = ⟨setAll p.sets (s.slots.map (KV p.kill)), modAll p.mods (setAll p.bsets (s.blks.map (KB p.kill))) ++ p.push⟩ := by
  simp only [Patch.apply, fold_kill]

theorem kill0_fix {id : Nat} {k : KK} {v : V} (h : id ∉ kids0 v) : kill0 id k v = v := by
  cases v <;> simp only [kids0, List.mem_singleton] at h <;> simp only [kill0] <;> first | rfl | (rw [if_neg (fun e => h e.symm)]; done)
theorem map_fix {f : V → V} : ∀ {cs : List V}, (∀ c ∈ cs, f c = c) → cs.map f = cs
  | [], _ => rfl
  | c :: r, h => by rw [List.map_cons, h c (List.mem_cons_self ..), map_fix fun x hx => h x (List.mem_cons_of_mem _ hx)]
theorem kill1_fix {id : Nat} {k : KK} {v : V} (ht : noTup v = true) (h : id ∉ kids1 v) : kill1 id k v = v := by
  cases v with
  | agg cs => simp only [kill1]; rw [map_fix fun c hc => kill0_fix fun hm => h (List.mem_flatMap.2 ⟨c, hc, hm⟩)]
  | func f cs => simp only [kill1]; rw [map_fix fun c hc => kill0_fix fun hm => h (List.mem_flatMap.2 ⟨c, hc, hm⟩)]
  | iface t v => simp only [kill1]; rw [kill0_fix h]
  | tup vs => simp [noTup] at ht
  | _ => simp only [kill1]; exact kill0_fix (by simpa only [kids1] using h)

theorem kill0_clean {id : Nat} {k : KK} {v : V} (hk : isFrz k = false) (h : clean0 (kill0 id k v) = true) : kill0 id k v = v := by
  cases v <;> simp only [kill0] at h ⊢ <;> (try split at h) <;> (try split) <;> first | rfl | (simp [clean0] at h; done) | (cases k <;> simp_all [clean0, isFrz]; done)
theorem all_fix {f : V → V} (hf : ∀ c, clean0 (f c) = true → f c = c) : ∀ {cs : List V}, (cs.map f).all clean0 = true → cs.map f = cs
  | [], _ => rfl
  | c :: r, h => by
    rw [List.map_cons, List.all_cons, Bool.and_eq_true] at h
    rw [List.map_cons, hf c h.1, all_fix hf h.2]
theorem kill1_clean {id : Nat} {k : KK} {v : V} (hk : isFrz k = false) (h : clean1 (kill1 id k v) = true) : kill1 id k v = v := by
  have key : ∀ {v : V}, clean1 (kill0 id k v) = true → kill0 id k v = v := by
    intro v h
    refine kill0_clean hk ?_
    cases hv : kill0 id k v <;> first | rfl | (rw [hv] at h; simp [clean1] at h)
  cases v with
  | agg cs => simp only [kill1] at h ⊢; rw [all_fix (fun c => kill0_clean hk) h]
  | func f cs => simp only [kill1] at h ⊢; rw [all_fix (fun c => kill0_clean hk) h]
  | iface t v => simp only [kill1, clean1] at h ⊢; rw [kill0_clean hk h]
  | tup vs => simp [kill1, clean1] at h
  | _ => simp only [kill1] at h ⊢; exact key h

theorem KV_fix {kl : List Nat} : ∀ {l : List (Nat × KK)} {v : V}, (∀ k ∈ l, k.1 ∈ kl) → fixV kl v = true → KV l v = v
  | [], _, _, _ => rfl
  | k :: r, v, hl, h => by
    have h1 := h
    simp only [fixV, Bool.and_eq_true, List.all_eq_true, Bool.not_eq_true'] at h1
    show KV r (kill1 k.1 k.2 v) = v
    rw [kill1_fix h1.1 (fun hm => by have := h1.2 _ hm; have h2 := hl k (List.mem_cons_self ..); simp [h2] at this)]
    exact KV_fix (fun x hx => hl x (List.mem_cons_of_mem _ hx)) h
theorem KV_clean : ∀ {l : List (Nat × KK)} {v : V}, (∀ k ∈ l, isFrz k.2 = false) → clean1 (KV l v) = true → KV l v = v
  | [], _, _, _ => rfl
  | k :: r, v, hl, h => by
    have h1 : KV r (kill1 k.1 k.2 v) = kill1 k.1 k.2 v := KV_clean (fun x hx => hl x (List.mem_cons_of_mem _ hx)) h
    show KV r (kill1 k.1 k.2 v) = v
    have h' : clean1 (KV r (kill1 k.1 k.2 v)) = true := h
    rw [h1] at h'
    rw [h1, kill1_clean (hl k (List.mem_cons_self ..)) h']

theorem KB_box : ∀ (l : List (Nat × KK)) (ty : Option Nat) (cs : List V), KB l (.bx ty cs) = .bx ty (cs.map (KV l))
  | [], ty, cs => by
    have h1 : KV [] = id := rfl
    simp [h1, KB]
  | k :: r, ty, cs => by
    show KB r (killB k.1 k.2 (.bx ty cs)) = _
    simp only [killB]
    rw [KB_box r, List.map_map]
    rfl
theorem KB_other : ∀ (l : List (Nat × KK)) (b : B), (∀ ty cs, b ≠ .bx ty cs) → KB l b = b
  | [], b, _ => rfl
  | k :: r, b, h => by
    show KB r (killB k.1 k.2 b) = b
    have : killB k.1 k.2 b = b := by cases b <;> first | rfl | exact (h _ _ rfl).elim
    rw [this]; exact KB_other r b h
theorem KB_fix {kl : List Nat} {l : List (Nat × KK)} {b : B} (hl : ∀ k ∈ l, k.1 ∈ kl) (h : fixB kl b = true) : KB l b = b := by
  cases b with
  | bx ty cs => rw [KB_box, map_fix fun c hc => KV_fix hl (List.all_eq_true.1 h c hc)]
  | _ => exact KB_other l _ (by simp)
theorem KB_clean {l : List (Nat × KK)} {b : B} (hl : ∀ k ∈ l, isFrz k.2 = false) (h : cleanB (KB l b) = true) : KB l b = b := by
  cases b with
  | bx ty cs =>
    rw [KB_box] at h ⊢
    have : ∀ {cs : List V}, (cs.map (KV l)).all clean1 = true → cs.map (KV l) = cs := by
      intro cs
      induction cs with
      | nil => intro _; rfl
      | cons c r ih =>
        intro h
        rw [List.map_cons, List.all_cons, Bool.and_eq_true] at h
        rw [List.map_cons, KV_clean hl h.1, ih h.2]
    rw [this h]
  | _ => exact KB_other l _ (by simp)
theorem KB_shape (l : List (Nat × KK)) (b : B) : (KB l b).shape = b.shape := by
  cases b with
  | bx ty cs => rw [KB_box]; rfl
  | _ => rw [KB_other l _ (by simp)]
theorem KB_mod (l : List (Nat × KK)) (i : Nat) (x : D) (b : B) : KB l (modB i x b) = modB i x (KB l b) := by
  cases b with
  | bx ty cs => simp only [modB, KB_box]
  | lst e xs => simp only [modB]; rw [KB_other l _ (by simp), KB_other l _ (by simp)]
  | _ => simp only [modB]; rw [KB_other l _ (by simp)]

structure PatchOk (r : Rec) (p : Patch) : Prop where
  sets : ∀ x ∈ p.sets, some x.1 = r.dst ∧ x.2 ∈ r.vals
  wr : ∀ x ∈ p.bsets, x.1 ∈ r.wr ∧ x.2 ∈ r.bvals
  mw : ∀ x ∈ p.mods, x.1 ∈ r.mw
  push : r.push = false → p.push = []
  pushv : ∀ b ∈ p.push, b ∈ r.bvals
  kl : ∀ k ∈ p.kill, k.1 ∈ r.kl
  frz : r.frz = false → ∀ k ∈ p.kill, isFrz k.2 = false

theorem setAll_other {α : Type} : ∀ (A : List (Nat × α)) (l : List α) (m : Nat), (∀ x ∈ A, x.1 ≠ m) → (setAll A l)[m]? = l[m]?
  | [], l, m, _ => rfl
  | (n, v) :: r, l, m, h => by
    rw [setAll, setAll_other r _ m (fun x hx => h x (List.mem_cons_of_mem _ hx)), List.getElem?_set, if_neg (h (n, v) (List.mem_cons_self ..))]
theorem setAll_set {α : Type} : ∀ (A : List (Nat × α)) (l : List α) (m : Nat) (v : α), (∀ x ∈ A, x.1 ≠ m) → setAll A (l.set m v) = (setAll A l).set m v
  | [], l, m, v, _ => rfl
  | (n, u) :: r, l, m, v, h => by
    rw [setAll, setAll, ← setAll_set r _ m v (fun x hx => h x (List.mem_cons_of_mem _ hx)), List.set_comm _ _ (Ne.symm (h (n, u) (List.mem_cons_self ..)))]
theorem setAll_comm {α : Type} : ∀ (A B : List (Nat × α)) (l : List α), (∀ x ∈ A, ∀ y ∈ B, x.1 ≠ y.1) → setAll A (setAll B l) = setAll B (setAll A l)
  | A, [], l, _ => rfl
  | A, (n, v) :: B, l, h => by
    rw [setAll, setAll, setAll_comm A B _ (fun x hx y hy => h x hx y (List.mem_cons_of_mem _ hy)), setAll_set A l n v (fun x hx => h x hx (n, v) (List.mem_cons_self ..))]
theorem map_setAll {α : Type} {f : α → α} : ∀ (A : List (Nat × α)) (l : List α), (∀ x ∈ A, f x.2 = x.2) → (setAll A l).map f = setAll A (l.map f)
  | [], l, _ => rfl
  | (n, v) :: r, l, h => by
    rw [setAll, setAll, map_setAll r _ (fun x hx => h x (List.mem_cons_of_mem _ hx)), List.map_set, h (n, v) (List.mem_cons_self ..)]
theorem setAll_append {α : Type} : ∀ (A : List (Nat × α)) (l m : List α), (∀ x ∈ A, x.1 < l.length) → setAll A (l ++ m) = setAll A l ++ m
  | [], l, m, _ => rfl
  | (n, v) :: r, l, m, h => by
    have hn := h (n, v) (List.mem_cons_self ..)
    rw [setAll, setAll, List.set_append_left _ _ hn, setAll_append r _ m (fun x hx => by rw [List.length_set]; exact h x (List.mem_cons_of_mem _ hx))]

theorem modify_set {f : B → B} {n m : Nat} {b : B} (l : List B) (h : n ≠ m) : (l.set m b).modify n f = (l.modify n f).set m b := by
  apply List.ext_getElem?
  intro k
  simp only [List.getElem?_modify, List.getElem?_set, List.length_modify]
  by_cases h1 : m = k
  · subst h1; simp [h]
  · simp [h1]
theorem modify_modify {f g : B → B} {n m : Nat} (l : List B) (h : n ≠ m) : (l.modify m g).modify n f = (l.modify n f).modify m g := by
  apply List.ext_getElem?
  intro k
  simp only [List.getElem?_modify]
  cases l[k]? with
  | none => rfl
  | some b =>
    by_cases h1 : m = k
    · subst h1; simp [h]
    · by_cases h2 : n = k
      · subst h2; simp [h1]
      · simp [h1, h2]
theorem modAll_len : ∀ (A : List (Nat × Nat × D)) (l : List B), (modAll A l).length = l.length
  | [], l => rfl
  | (n, i, x) :: r, l => by rw [modAll, modAll_len r]; simp
theorem modAll_other : ∀ (A : List (Nat × Nat × D)) (l : List B) (m : Nat), (∀ x ∈ A, x.1 ≠ m) → (modAll A l)[m]? = l[m]?
  | [], l, m, _ => rfl
  | (n, i, x) :: r, l, m, h => by
    rw [modAll, modAll_other r _ m (fun x hx => h x (List.mem_cons_of_mem _ hx)), List.getElem?_modify]
    cases l[m]? <;> simp [h (n, i, x) (List.mem_cons_self ..)]
theorem modB_shape (i : Nat) (x : D) (b : B) : (modB i x b).shape = b.shape := by cases b <;> simp [modB, B.shape]
theorem modAll_shape : ∀ (A : List (Nat × Nat × D)) (l : List B) (m : Nat), ((modAll A l)[m]?).map B.shape = (l[m]?).map B.shape
  | [], l, m => rfl
  | (n, i, x) :: r, l, m => by
    rw [modAll, modAll_shape r, List.getElem?_modify]
    cases l[m]? with
    | none => rfl
    | some b => by_cases h : n = m <;> simp [h, modB_shape]
theorem modAll_set : ∀ (A : List (Nat × Nat × D)) (l : List B) (m : Nat) (b : B), (∀ x ∈ A, x.1 ≠ m) → modAll A (l.set m b) = (modAll A l).set m b
  | [], l, m, b, _ => rfl
  | (n, i, x) :: r, l, m, b, h => by
    rw [modAll, modAll, modify_set l (h (n, i, x) (List.mem_cons_self ..)), modAll_set r _ m b (fun x hx => h x (List.mem_cons_of_mem _ hx))]
theorem modAll_setAll : ∀ (A : List (Nat × Nat × D)) (C : List (Nat × B)) (l : List B), (∀ x ∈ A, ∀ y ∈ C, x.1 ≠ y.1) → modAll A (setAll C l) = setAll C (modAll A l)
  | A, [], l, _ => rfl
  | A, (n, v) :: C, l, h => by
    rw [setAll, setAll, modAll_setAll A C _ (fun x hx y hy => h x hx y (List.mem_cons_of_mem _ hy)), modAll_set A l n v (fun x hx => h x hx (n, v) (List.mem_cons_self ..))]
theorem modAll_modify : ∀ (A : List (Nat × Nat × D)) (l : List B) (m : Nat) (g : B → B), (∀ x ∈ A, x.1 ≠ m) → modAll A (l.modify m g) = (modAll A l).modify m g
  | [], l, m, g, _ => rfl
  | (n, i, x) :: r, l, m, g, h => by
    rw [modAll, modAll, modify_modify l (h (n, i, x) (List.mem_cons_self ..)), modAll_modify r _ m g (fun x hx => h x (List.mem_cons_of_mem _ hx))]
theorem modAll_comm : ∀ (A C : List (Nat × Nat × D)) (l : List B), (∀ x ∈ A, ∀ y ∈ C, x.1 ≠ y.1) → modAll A (modAll C l) = modAll C (modAll A l)
  | A, [], l, _ => rfl
  | A, (n, i, v) :: C, l, h => by
    rw [modAll, modAll, modAll_comm A C _ (fun x hx y hy => h x hx y (List.mem_cons_of_mem _ hy)), modAll_modify A l n _ (fun x hx => h x hx (n, i, v) (List.mem_cons_self ..))]
theorem map_modAll {f : B → B} (hf : ∀ i x b, f (modB i x b) = modB i x (f b)) : ∀ (A : List (Nat × Nat × D)) (l : List B), (modAll A l).map f = modAll A (l.map f)
  | [], l => rfl
  | (n, i, x) :: r, l => by
    rw [modAll, modAll, map_modAll hf r]
    congr 1
    apply List.ext_getElem?
    intro k
    simp only [List.getElem?_map, List.getElem?_modify]
    cases l[k]? with
    | none => rfl
    | some b => by_cases h : n = k <;> simp [h, hf]
theorem modAll_append : ∀ (A : List (Nat × Nat × D)) (l m : List B), (∀ x ∈ A, x.1 < l.length) → modAll A (l ++ m) = modAll A l ++ m
  | [], l, m, _ => rfl
  | (n, i, x) :: r, l, m, h => by
    have hn := h (n, i, x) (List.mem_cons_self ..)
    have e : (l ++ m).modify n (modB i x) = l.modify n (modB i x) ++ m := by
      apply List.ext_getElem?
      intro k
      rw [List.getElem?_modify]
      by_cases hk : k < l.length
      · rw [List.getElem?_append_left hk, List.getElem?_append_left (by simpa using hk), List.getElem?_modify]
      · rw [List.getElem?_append_right (by omega), List.getElem?_append_right (by simp; omega), List.length_modify]
        cases m[k - l.length]? with
        | none => rfl
        | some b => simp; omega
    rw [modAll, modAll, e, modAll_append r _ m (fun x hx => by rw [List.length_modify]; exact h x (List.mem_cons_of_mem _ hx))]

/-- What x does leaves what y reads and makes. -/
structure Leaves (n : Nat) (x y : Rec) : Prop where
  frz : x.frz = false
  dst : ∀ d, x.dst = some d → d ∉ y.reads ∧ y.dst ≠ some d
  wr : ∀ i ∈ x.wr, i < n ∧ i ∉ y.blks ∧ i ∉ y.shps ∧ i ∉ y.wr ∧ i ∉ y.mw
  mw : ∀ i ∈ x.mw, i < n ∧ i ∉ y.blks ∧ i ∉ y.wr ∧ i ∉ y.mw
  push : x.push = true → y.nb = false ∧ (∀ i ∈ y.blks, i < n) ∧ ∀ i ∈ y.shps, i < n
  kl : x.kl = [] ∨ ((∀ v ∈ y.vals, fixV x.kl v = true ∧ clean1 v = true) ∧ ∀ b ∈ y.bvals, fixB x.kl b = true ∧ cleanB b = true)
structure Apart (n : Nat) (x y : Rec) : Prop where
  xy : Leaves n x y
  yx : Leaves n y x
  pp : x.push = false ∨ y.push = false
  kk : x.kl = [] ∨ y.kl = []

theorem leaves_of {n : Nat} {x y : Rec} (h : leavesB n x y = true) : Leaves n x y := by
  simp only [leavesB, Bool.and_eq_true, Bool.not_eq_true', Bool.or_eq_true, List.all_eq_true, decide_eq_true_eq] at h
  obtain ⟨⟨⟨⟨⟨h1, h2⟩, h3⟩, h4⟩, h5⟩, h6⟩ := h
  refine ⟨h1, fun d hd => ?_, fun i hi => ?_, fun i hi => ?_, fun hp => ?_, ?_⟩
  · rw [hd] at h2; simp at h2; exact h2
  · have := h3 i hi; simp at this; simp [this]
  · have := h4 i hi; simp at this; simp [this]
  · rcases h5 with h5 | h5
    · rw [hp] at h5; cases h5
    · exact ⟨h5.1.1, h5.1.2, h5.2⟩
  · rcases h6 with h6 | h6
    · exact .inl (by simpa using h6)
    · exact .inr h6

theorem apart_of {n : Nat} {x y : Rec} (h : apartB n x y = true) : Apart n x y := by
  simp only [apartB, Bool.and_eq_true, Bool.not_eq_true', Bool.or_eq_true] at h
  obtain ⟨⟨⟨h1, h2⟩, h3⟩, h4⟩ := h
  refine ⟨leaves_of h1, leaves_of h2, ?_, ?_⟩
  · cases hx : x.push <;> cases hy : y.push <;> simp_all
  · simpa using h4

theorem Apart.symm {n : Nat} {x y : Rec} (h : Apart n x y) : Apart n y x := ⟨h.yx, h.xy, h.pp.symm, h.kk.symm⟩

theorem KV_undef (l : List (Nat × KK)) : KV l .undef = .undef := by
  induction l with
  | nil => rfl
  | cons k r ih => exact ih
theorem KB_dead (l : List (Nat × KK)) : KB l .dead = .dead := KB_other l _ (by simp)

theorem kill_nil {r : Rec} (h : PatchOk r p) (hk : r.kl = []) : p.kill = [] := by
  apply List.eq_nil_iff_forall_not_mem.2
  intro k hkm
  have := h.kl k hkm
  rw [hk] at this
  cases this

theorem KV_same {n : Nat} {x y : Rec} (h : Leaves n x y) (hp : PatchOk x p) {v : V} (hv : v ∈ y.vals ∨ KV p.kill v ∈ y.vals) : KV p.kill v = v := by
  rcases h.kl with hk | ⟨hk, _⟩
  · rw [kill_nil hp hk]; rfl
  · rcases hv with hv | hv
    · exact KV_fix hp.kl (hk v hv).1
    · exact KV_clean (hp.frz h.frz) (hk _ hv).2
theorem KB_same {n : Nat} {x y : Rec} (h : Leaves n x y) (hp : PatchOk x p) {b : B} (hb : b ∈ y.bvals ∨ KB p.kill b ∈ y.bvals) : KB p.kill b = b := by
  rcases h.kl with hk | ⟨_, hk⟩
  · rw [kill_nil hp hk]; rfl
  · rcases hb with hb | hb
    · exact KB_fix hp.kl (hk b hb).1
    · exact KB_clean (hp.frz h.frz) (hk _ hb).2

theorem setAll_len' {α : Type} : ∀ (A : List (Nat × α)) (l : List α), (setAll A l).length = l.length
  | [], l => rfl
  | (n, v) :: r, l => by rw [setAll, setAll_len' r]; simp

theorem blk_apply {n : Nat} {x y : Rec} (h : Leaves n x y) (hp : PatchOk x p) {s : St} (hn : n ≤ s.blks.length) {m : Nat} (hm : m ∈ y.blks) : (p.apply s).blk m = KB p.kill (s.blk m) := by
  rw [apply_eq]
  simp only [St.blk]
  have e : (modAll p.mods (setAll p.bsets (s.blks.map (KB p.kill))))[m]? = (s.blks[m]?).map (KB p.kill) := by
    rw [modAll_other _ _ _ (fun a ha e => (h.mw a.1 (hp.mw a ha)).2.1 (e ▸ hm)), setAll_other _ _ _ (fun a ha e => (h.wr a.1 (hp.wr a ha).1).2.1 (e ▸ hm)), List.getElem?_map]
  have hl : (modAll p.mods (setAll p.bsets (s.blks.map (KB p.kill)))).length = s.blks.length := by rw [modAll_len, setAll_len']; simp
  have e2 : (modAll p.mods (setAll p.bsets (s.blks.map (KB p.kill))) ++ p.push)[m]? = (s.blks[m]?).map (KB p.kill) := by
    cases hx : x.push with
    | false => rw [hp.push hx, List.append_nil]; exact e
    | true => rw [List.getElem?_append_left (by have := (h.push hx).2.1 m hm; omega)]; exact e
  rw [e2]
  cases s.blks[m]? with
  | none => simp [KB_dead]
  | some b => rfl

theorem shp_apply {n : Nat} {x y : Rec} (h : Leaves n x y) (hp : PatchOk x p) {s : St} (hn : n ≤ s.blks.length) {m : Nat} (hm : m ∈ y.shps) : ((p.apply s).blk m).shape = (s.blk m).shape := by
  rw [apply_eq]
  simp only [St.blk]
  have e : ((modAll p.mods (setAll p.bsets (s.blks.map (KB p.kill))))[m]?).map B.shape = (s.blks[m]?).map B.shape := by
    rw [modAll_shape, setAll_other _ _ _ (fun a ha e => (h.wr a.1 (hp.wr a ha).1).2.2.1 (e ▸ hm)), List.getElem?_map]
    cases s.blks[m]? with
    | none => rfl
    | some b => simp [KB_shape]
  have hl : (modAll p.mods (setAll p.bsets (s.blks.map (KB p.kill)))).length = s.blks.length := by rw [modAll_len, setAll_len']; simp
  have e2 : ((modAll p.mods (setAll p.bsets (s.blks.map (KB p.kill))) ++ p.push)[m]?).map B.shape = (s.blks[m]?).map B.shape := by
    cases hx : x.push with
    | false => rw [hp.push hx, List.append_nil]; exact e
    | true => rw [List.getElem?_append_left (by have := (h.push hx).2.2 m hm; omega)]; exact e
  cases h1 : (modAll p.mods (setAll p.bsets (s.blks.map (KB p.kill))) ++ p.push)[m]? with
  | none => rw [h1] at e2; cases h2 : s.blks[m]? with
    | none => rfl
    | some b => rw [h2] at e2; cases e2
  | some b => rw [h1] at e2; cases h2 : s.blks[m]? with
    | none => rw [h2] at e2; cases e2
    | some c => rw [h2] at e2; simpa using e2

theorem slot_apply {n : Nat} {x y : Rec} (h : Leaves n x y) (hp : PatchOk x p) {s : St} {m : Nat} (hm : m ∈ y.reads) : (p.apply s).slot m = KV p.kill (s.slot m) := by
  rw [apply_eq]
  simp only [St.slot]
  rw [setAll_other, List.getElem?_map]
  · cases s.slots[m]? with
    | none => simp [KV_undef]
    | some v => rfl
  · intro a ha e
    exact (h.dst a.1 (hp.sets a ha).1.symm).1 (by rw [e]; exact hm)

theorem apart_agr {n : Nat} {x y : Rec} (h : Leaves n x y) (hp : PatchOk x p) {s : St} (hn : n ≤ s.blks.length) (hK : Known y s ∨ Known y (p.apply s)) : AgrR y s (p.apply s) := by
  refine ⟨fun m hm => ?_, fun m hm => ?_, fun m hm => shp_apply h hp hn hm, fun hb => ?_⟩
  · have e := slot_apply h hp (s := s) hm
    rw [e]
    exact KV_same h hp (hK.imp (fun k => k.1 m hm) (fun k => by have := k.1 m hm; rwa [e] at this))
  · have e := blk_apply h hp hn hm
    rw [e]
    exact KB_same h hp (hK.imp (fun k => k.2 m hm) (fun k => by have := k.2 m hm; rwa [e] at this))
  · rw [apply_eq]
    cases hx : x.push with
    | false => simp [hp.push hx, modAll_len, setAll_len']
    | true => have := (h.push hx).1; rw [hb] at this; cases this

theorem apart_comm {n : Nat} {x y : Rec} {p q : Patch} (h : Apart n x y) (hp : PatchOk x p) (hq : PatchOk y q) (s : St) (hn : n ≤ s.blks.length) : p.apply (q.apply s) = q.apply (p.apply s) := by
  rw [apply_eq p, apply_eq q, apply_eq q, apply_eq p]
  have hs : ∀ a ∈ p.sets, ∀ b ∈ q.sets, a.1 ≠ b.1 := fun a ha b hb e => by
    have h1 := (hp.sets a ha).1
    have h2 := (hq.sets b hb).1
    exact (h.xy.dst a.1 h1.symm).2 (by rw [← h2, e])
  have kk : ∀ l : List V, (l.map (KV q.kill)).map (KV p.kill) = (l.map (KV p.kill)).map (KV q.kill) := by
    intro l
    have e : KV [] = id := rfl
    rcases h.kk with h1 | h1
    · rw [kill_nil hp h1, e]; simp
    · rw [kill_nil hq h1, e]; simp
  have kb : ∀ l : List B, (l.map (KB q.kill)).map (KB p.kill) = (l.map (KB p.kill)).map (KB q.kill) := by
    intro l
    have e : KB [] = id := rfl
    rcases h.kk with h1 | h1
    · rw [kill_nil hp h1, e]; simp
    · rw [kill_nil hq h1, e]; simp
  have s1 : setAll p.sets ((setAll q.sets (s.slots.map (KV q.kill))).map (KV p.kill)) = setAll q.sets ((setAll p.sets (s.slots.map (KV p.kill))).map (KV q.kill)) := by
    rw [map_setAll _ _ (fun a ha => KV_same h.xy hp (.inl (hq.sets a ha).2)), map_setAll _ _ (fun a ha => KV_same h.yx hq (.inl (hp.sets a ha).2)), kk, setAll_comm _ _ _ hs]
  have half : ∀ {x y : Rec} {p q : Patch}, Apart n x y → PatchOk x p → PatchOk y q →
      modAll p.mods (setAll p.bsets ((modAll q.mods (setAll q.bsets (s.blks.map (KB q.kill))) ++ q.push).map (KB p.kill))) ++ p.push
        = modAll p.mods (modAll q.mods (setAll p.bsets (setAll q.bsets ((s.blks.map (KB q.kill)).map (KB p.kill))))) ++ q.push ++ p.push := by
    intro x y p q h hp hq
    have e1 : q.push.map (KB p.kill) = q.push := by
      have : ∀ {l : List B}, (∀ b ∈ l, KB p.kill b = b) → l.map (KB p.kill) = l := by
        intro l
        induction l with
        | nil => intro _; rfl
        | cons b r ih => intro hb; rw [List.map_cons, hb b (List.mem_cons_self ..), ih fun x hx => hb x (List.mem_cons_of_mem _ hx)]
      exact this fun b hb => KB_same h.xy hp (.inl (hq.pushv b hb))
    have hl : (modAll q.mods (setAll q.bsets ((s.blks.map (KB q.kill)).map (KB p.kill)))).length = s.blks.length := by rw [modAll_len, setAll_len']; simp
    rw [List.map_append, e1, map_modAll (KB_mod p.kill), map_setAll _ _ (fun a ha => KB_same h.xy hp (.inl (hq.wr a ha).2)),
      setAll_append _ _ _ (fun a ha => by rw [hl]; have := (h.xy.wr a.1 (hp.wr a ha).1).1; omega), modAll_append _ _ _ (fun a ha => by rw [setAll_len', hl]; have := (h.xy.mw a.1 (hp.mw a ha)).1; omega),
      ← modAll_setAll _ _ _ (fun a ha b hb e => (h.xy.wr b.1 (hp.wr b hb).1).2.2.2.2 (by rw [← e]; exact hq.mw a ha))]
  have s2 : modAll p.mods (setAll p.bsets ((modAll q.mods (setAll q.bsets (s.blks.map (KB q.kill))) ++ q.push).map (KB p.kill))) ++ p.push = modAll q.mods (setAll q.bsets ((modAll p.mods (setAll p.bsets (s.blks.map (KB p.kill))) ++ p.push).map (KB q.kill))) ++ q.push := by
    rw [half h hp hq, half h.symm hq hp, kb, setAll_comm p.bsets q.bsets _ (fun a ha b hb e => (h.xy.wr a.1 (hp.wr a ha).1).2.2.2.1 (by rw [e]; exact (hq.wr b hb).1)),
      modAll_comm p.mods q.mods _ (fun a ha b hb e => (h.xy.mw a.1 (hp.mw a ha)).2.2.2 (by rw [e]; exact hq.mw b hb)), List.append_assoc, List.append_assoc]
    congr 1
    rcases h.pp with h1 | h1
    · simp [hp.push h1]
    · simp [hq.push h1]
  simp only
  rw [s1, s2]

theorem AgrR.trans {r : Rec} {s1 s2 s3 : St} (h : AgrR r s1 s2) (k : AgrR r s2 s3) : AgrR r s1 s3 :=
  ⟨fun n hn => (k.1 n hn).trans (h.1 n hn), fun n hn => (k.2.1 n hn).trans (h.2.1 n hn), fun n hn => (k.2.2.1 n hn).trans (h.2.2.1 n hn), fun hb => (k.2.2.2 hb).trans (h.2.2.2 hb)⟩
theorem AgrR.symm {r : Rec} {s1 s2 : St} (h : AgrR r s1 s2) : AgrR r s2 s1 := ⟨fun n hn => (h.1 n hn).symm, fun n hn => (h.2.1 n hn).symm, fun n hn => (h.2.2.1 n hn).symm, fun hb => (h.2.2.2 hb).symm⟩
theorem AgrR.refl {r : Rec} {s1 : St} : AgrR r s1 s1 := ⟨fun _ _ => rfl, fun _ _ => rfl, fun _ _ => rfl, fun _ => rfl⟩

theorem apply_len (p : Patch) (s : St) : s.blks.length ≤ (p.apply s).blks.length := by
  rw [apply_eq]
  simp [modAll_len, setAll_len']

end Go.Proofs.YtbamhlgkoimjoaaDoor.Ab
/- Regions that draw their order: every order. -/
namespace Go.Proofs.YtbamhlgkoimjoaaDoor.Ab
open Go
set_option linter.unusedVariables false
set_option linter.unusedSimpArgs false

variable {P : Program} {O : Orc} {s s' : St} {sc sc' : Script} {w w' : World} {Pr Pr' : Nat → Prop} {bl : List B} {μ : List CB} {a : Act} {wr : Nat → Bool} {lit : Bool} {p : Patch}

theorem After.trans {s2 : St} {μ μ1 : List CB} {Pr Pr1 : Nat → Prop} {w w1 w2 : World} {a2 : Act} (hev : Evo (owns μ) Pr w (owns μ1) Pr1 w1) (hk : Keep μ μ1) (h : After P s2 μ1 Pr1 w1 a2 w2) : After P s2 μ Pr w a2 w2 := by
  obtain ⟨μ2, Pr2, h1, h2, h3⟩ := h
  exact ⟨μ2, Pr2, h1, hev.trans h2, hk.trans h3⟩

/-- One operation, wherever what it reads is the same. -/
structure StepOk (P : Program) (n0 : Nat) (all : List Oper) (o : Oper) (s : St) (r : Rec) (p : Patch) : Prop extends PatchOk r p where
  edges : r.edges = edgesOf o
  known : Known r s
  run : ∀ s', n0 ≤ s'.blks.length → AgrR r s s' → ∀ (a : Act) (w : World) (μ : List CB) (Pr : Nat → Prop) (Q : Exit → Act → World → Prop) (i : Nat), all[i]? = some o → Rel P s' a w μ Pr → wpOp P all.toArray Q i (After P (p.apply s') μ Pr w) a w

def NoDst (o : Oper) : Prop := ∀ t x y, o.op = .store t x y → o.dst = none

theorem voidP_ok {o : Oper} (hR : Rel P s a w μ Pr) : After P ((voidP o).apply s) μ Pr w (a.put o.dst undef) w := by
  have : (voidP o).apply s = setSlot s o.dst .void := by
    unfold voidP
    cases o.dst <;> simp [Patch.apply, setAll, modAll, setSlot]
  rw [this]
  exact ⟨μ, Pr, hR.setSlot P _ (show undef = undef from rfl), .refl _ _ _, .refl _⟩

theorem patchOk_of {all : List Oper} {o : Oper} {l : Log} (hsets : p.sets.all (fun x => some x.1 == o.dst) = true) : PatchOk (recOf all o s p l) p := by
  refine ⟨fun x hx => ⟨by have := List.all_eq_true.1 hsets x hx; simpa [recOf] using this, List.mem_append_left _ (List.mem_map.2 ⟨x, hx, rfl⟩)⟩, fun x hx => ⟨List.mem_map.2 ⟨x, hx, rfl⟩, List.mem_append_left _ (List.mem_append_left _ (List.mem_map.2 ⟨x, hx, rfl⟩))⟩,
    fun x hx => List.mem_map.2 ⟨x, hx, rfl⟩, fun hp => by simpa [recOf] using hp, fun b hb => List.mem_append_left _ (List.mem_append_right _ hb), fun k hk => List.mem_map.2 ⟨k, hk, rfl⟩, fun hf k hk => ?_⟩
  simp only [recOf] at hf
  cases hq : isFrz k.2 with
  | false => rfl
  | true =>
    have : (p.kill.any fun k => isFrz k.2) = true := List.any_eq_true.2 ⟨k, hk, hq⟩
    rw [hf] at this; cases this

theorem known_of {all : List Oper} {o : Oper} {l : Log} : Known (recOf all o s p l) s :=
  ⟨fun n hn => List.mem_append_right _ (List.mem_map.2 ⟨n, hn, rfl⟩), fun n hn => List.mem_append_right _ (List.mem_map.2 ⟨n, hn, rfl⟩)⟩

theorem step_true {n0 : Nat} {all : List Oper} {o : Oper} {ps : List Prop} {l : Log} (hO : OrcOk P O) (hst : NoDst o) (hw : wantedV s all o = some true) (h : (evOp P wr (ICall P) lit o).runL O s sc = some (p, sc', ps, l)) (hps : ∀ q ∈ ps, q)
    (hsets : p.sets.all (fun x => some x.1 == o.dst) = true) : StepOk P n0 all o s (recOf all o s p l) p := by
  refine ⟨patchOk_of hsets, rfl, known_of, fun s' _ hA a w μ Pr Q i hi hR => ?_⟩
  have hw' : wantedV s' all o = some true := by
    rw [wanted_frame (fun n hn => hA.1 n (List.mem_append_left _ hn)), hw]
  have hwt := wanted_ok hR hw'
  have hi' : all.toArray[i]? = some o := by simpa using hi
  unfold wpOp
  simp only [hi', hwt, if_true]
  exact .inl (evOp_ok hO hR hst (runL_hold h ⟨fun n hn => hA.1 n (List.mem_append_right _ hn), hA.2.1, hA.2.2.1, hA.2.2.2⟩ hps))

theorem step_false {n0 : Nat} {all : List Oper} {o : Oper} (hw : wantedV s all o = some false) : StepOk P n0 all o s (recOf all o s (voidP o) {}) (voidP o) := by
  refine ⟨patchOk_of ?_, rfl, known_of, fun s' _ hA a w μ Pr Q i hi hR => ?_⟩
  · unfold voidP; cases o.dst <;> simp
  · have hw' : wantedV s' all o = some false := by
      rw [wanted_frame (fun n hn => hA.1 n (List.mem_append_left _ hn)), hw]
    have hwt := wanted_ok hR hw'
    have hi' : all.toArray[i]? = some o := by simpa using hi
    unfold wpOp
    simp only [hi', hwt, Bool.false_eq_true, if_false]
    exact voidP_ok hR

def Chain (P : Program) (n0 : Nat) (all : List Oper) : List Oper → St → List Rec → List Patch → St → Prop
  | [], s, [], [], s' => s' = s
  | o :: l, s, r :: rs, p :: ps, s' => StepOk P n0 all o s r p ∧ Chain P n0 all l (p.apply s) rs ps s'
  | _, _, _, _, _ => False

theorem evRecs_ok {n0 : Nat} (hO : OrcOk P O) {all : List Oper} : ∀ {l : List Oper} {s s' : St} {sc sc' : Script} {ps : List Prop} {rs : List Rec}, (∀ o ∈ l, NoDst o) → evRecs P wr (ICall P) lit O all l s sc = some (s', sc', ps, rs) → (∀ q ∈ ps, q) →
    ∃ pp, Chain P n0 all l s rs pp s'
  | [], s, s', sc, sc', ps, rs, _, h, _ => by
    simp only [evRecs, Option.some.injEq, Prod.mk.injEq] at h
    obtain ⟨rfl, _, _, rfl⟩ := h
    exact ⟨[], rfl⟩
  | o :: l, s, s', sc, sc', ps, rs, hd, h, hps => by
    simp only [evRecs] at h
    split at h
    · rename_i hw
      split at h
      · rename_i p sc1 ps1 lg he
        split at h
        · cases h
        · rename_i hsets
          split at h
          · rename_i s2 sc2 qs rs2 hr
            simp only [Option.some.injEq, Prod.mk.injEq] at h
            obtain ⟨rfl, rfl, rfl, rfl⟩ := h
            obtain ⟨pp, hc⟩ := evRecs_ok hO (fun x hx => hd x (List.mem_cons_of_mem _ hx)) hr (fun q hq => hps q (List.mem_append_right _ hq))
            exact ⟨p :: pp, step_true hO (hd o (List.mem_cons_self ..)) hw he (fun q hq => hps q (List.mem_append_left _ hq)) (by simpa using hsets), hc⟩
          · cases h
      · cases h
    · rename_i hw
      split at h
      · rename_i s2 sc2 qs rs2 hr
        simp only [Option.some.injEq, Prod.mk.injEq] at h
        obtain ⟨rfl, rfl, rfl, rfl⟩ := h
        obtain ⟨pp, hc⟩ := evRecs_ok hO (fun x hx => hd x (List.mem_cons_of_mem _ hx)) hr hps
        exact ⟨voidP o :: pp, step_false hw, hc⟩
      · cases h
    · cases h

/-! ### the order of the text -/

/-- The patches of some operations, applied. -/
def appI (pp : List Patch) (L : List Nat) (s : St) : St := L.foldl (fun s i => ((pp[i]?).getD {}).apply s) s

theorem appI_append (pp : List Patch) (L M : List Nat) (s : St) : appI pp (L ++ M) s = appI pp M (appI pp L s) := List.foldl_append ..
theorem appI_len (pp : List Patch) : ∀ (L : List Nat) (s : St), s.blks.length ≤ (appI pp L s).blks.length
  | [], s => Nat.le_refl _
  | i :: L, s => Nat.le_trans (apply_len _ s) (appI_len pp L _)

theorem chain_len {n0 : Nat} {all : List Oper} : ∀ {l : List Oper} {s s' : St} {rs : List Rec} {pp : List Patch}, Chain P n0 all l s rs pp s' → rs.length = l.length ∧ pp.length = l.length
  | [], s, s', [], [], h => ⟨rfl, rfl⟩
  | o :: l, s, s', r :: rs, p :: pp, h => by obtain ⟨h1, h2⟩ := chain_len h.2; simp [h1, h2]
  | [], _, _, _ :: _, _, h => h.elim
  | [], _, _, [], _ :: _, h => h.elim
  | _ :: _, _, _, [], _, h => h.elim
  | _ :: _, _, _, _ :: _, [], h => h.elim

theorem chain_get {n0 : Nat} {all : List Oper} : ∀ {l : List Oper} {s s' : St} {rs : List Rec} {pp : List Patch}, Chain P n0 all l s rs pp s' →
    (∀ (k : Nat) (o : Oper) (r : Rec) (p : Patch), l[k]? = some o → rs[k]? = some r → pp[k]? = some p → StepOk P n0 all o ((pp.take k).foldl (fun s p => p.apply s) s) r p) ∧ s' = pp.foldl (fun s p => p.apply s) s
  | [], s, s', [], [], h => ⟨by simp, h⟩
  | o :: l, s, s', r :: rs, p :: pp, h => by
    obtain ⟨h1, h2⟩ := chain_get h.2
    refine ⟨fun k o' r' p' ho hr hp => ?_, h2⟩
    cases k with
    | zero => simp at ho hr hp; subst ho; subst hr; subst hp; exact h.1
    | succ k => exact h1 k o' r' p' (by simpa using ho) (by simpa using hr) (by simpa using hp)
  | [], _, _, _ :: _, _, h => h.elim
  | [], _, _, [], _ :: _, h => h.elim
  | _ :: _, _, _, [], _, h => h.elim
  | _ :: _, _, _, _ :: _, [], h => h.elim

theorem appI_range (pp : List Patch) (s : St) : ∀ k, k ≤ pp.length → appI pp (List.range k) s = (pp.take k).foldl (fun s p => p.apply s) s
  | 0, _ => rfl
  | k + 1, h => by
    rw [List.range_succ, appI_append, appI_range pp s k (by omega), List.take_add_one, List.foldl_append]
    have : pp[k]? = some pp[k] := List.getElem?_eq_getElem (by omega)
    simp [appI, this]

section
variable {pp : List Patch} {rs : List Rec} {n : Nat}

def PP (pp : List Patch) (i : Nat) : Patch := (pp[i]?).getD {}
/-- Two operations that stand apart. -/
def AP (rs : List Rec) (n i j : Nat) : Prop := ∃ x y, rs[i]? = some x ∧ rs[j]? = some y ∧ Apart n x y

variable (hok : ∀ i r, rs[i]? = some r → PatchOk r (PP pp i))
include hok

theorem ap_comm {i j : Nat} (h : AP rs n i j) (s : St) (hn : n ≤ s.blks.length) : (PP pp i).apply ((PP pp j).apply s) = (PP pp j).apply ((PP pp i).apply s) := by
  obtain ⟨x, y, hx, hy, h⟩ := h
  exact apart_comm h (hok i x hx) (hok j y hy) s hn

/-- One patch goes past others. -/
theorem ap_past {i : Nat} : ∀ {L : List Nat} (s : St), n ≤ s.blks.length → (∀ j ∈ L, AP rs n i j) → appI pp L ((PP pp i).apply s) = (PP pp i).apply (appI pp L s)
  | [], s, _, _ => rfl
  | j :: L, s, hn, h => by
    show appI pp L ((PP pp j).apply ((PP pp i).apply s)) = (PP pp i).apply (appI pp L ((PP pp j).apply s))
    rw [← ap_comm hok (h j (List.mem_cons_self ..)) s hn, ap_past _ (Nat.le_trans hn (apply_len _ s)) (fun k hk => h k (List.mem_cons_of_mem _ hk))]

/-- Those that are not done go behind those that are. -/
theorem ap_split (S : Nat → Bool) : ∀ {L : List Nat} (s : St), n ≤ s.blks.length → (L.Pairwise fun x y => S x = false → S y = true → AP rs n x y) → appI pp L s = appI pp (L.filter (fun x => !S x)) (appI pp (L.filter S) s)
  | [], s, _, _ => rfl
  | x :: L, s, hn, h => by
    rw [List.pairwise_cons] at h
    cases hx : S x with
    | true =>
      have e1 : (x :: L).filter S = x :: L.filter S := List.filter_cons_of_pos hx
      have e2 : (x :: L).filter (fun x => !S x) = L.filter (fun x => !S x) := List.filter_cons_of_neg (by simp [hx])
      rw [e1, e2]
      exact ap_split S _ (Nat.le_trans hn (apply_len _ s)) h.2
    | false =>
      have e1 : (x :: L).filter S = L.filter S := List.filter_cons_of_neg (by simp [hx])
      have e2 : (x :: L).filter (fun x => !S x) = x :: L.filter (fun x => !S x) := List.filter_cons_of_pos (by simp [hx])
      rw [e1, e2]
      show appI pp L ((PP pp x).apply s) = appI pp (L.filter (fun x => !S x)) ((PP pp x).apply (appI pp (L.filter S) s))
      rw [ap_split S _ (Nat.le_trans hn (apply_len _ s)) h.2, ap_past hok _ hn (fun j hj => h.1 j ((List.mem_filter.1 hj).1) hx (List.mem_filter.1 hj).2)]

/-- What stands apart changes nothing that is read. -/
theorem ap_agr {i : Nat} {y : Rec} (hy : rs[i]? = some y) : ∀ {L : List Nat} {s : St}, n ≤ s.blks.length → (∀ j ∈ L, AP rs n j i) → (Known y s ∨ Known y (appI pp L s)) → AgrR y s (appI pp L s)
  | [], s, _, _, _ => .refl
  | j :: L, s, hn, h, hK => by
    obtain ⟨x, y', hx, hy', hap⟩ := h j (List.mem_cons_self ..)
    rw [hy] at hy'; cases hy'
    have hn' := Nat.le_trans hn (apply_len (PP pp j) s)
    have ht : ∀ k ∈ L, AP rs n k i := fun k hk => h k (List.mem_cons_of_mem _ hk)
    rcases hK with hK | hK
    · have h1 := apart_agr hap.xy (hok j x hx) hn (.inl hK)
      exact h1.trans (ap_agr hy hn' ht (.inl (hK.agr h1)))
    · have h2 : AgrR y ((PP pp j).apply s) (appI pp L ((PP pp j).apply s)) := ap_agr hy hn' ht (.inr hK)
      exact (apart_agr hap.xy (hok j x hx) hn (.inr (Known.agr hK h2.symm))).trans h2
end

/-! ### behind what each stands -/

theorem befs_prefix : ∀ (rs : List Rec) (acc : List (List Nat)), ∃ t, befs acc rs = acc ++ t
  | [], acc => ⟨[], by simp [befs]⟩
  | r :: rs, acc => by
    obtain ⟨t, ht⟩ := befs_prefix rs (acc ++ [r.edges ++ r.edges.flatMap fun e => (acc[e]?).getD []])
    exact ⟨_, by rw [befs, ht, List.append_assoc]⟩

/-- Behind a done one all are done. -/
theorem befs_done {L : Nat → Prop} {all : List Rec} (hcl : ∀ (j : Nat) (r : Rec), all[j]? = some r → L j → ∀ e ∈ r.edges, L e) : ∀ {rs : List Rec} {acc : List (List Nat)} {dn : List Rec}, all = dn ++ rs → acc.length = dn.length →
    (∀ (k : Nat) (b : List Nat) (r : Rec), acc[k]? = some b → all[k]? = some r → (∀ e ∈ r.edges, L e) → ∀ i ∈ b, L i) →
    ∀ (k : Nat) (b : List Nat) (r : Rec), (befs acc rs)[k]? = some b → all[k]? = some r → (∀ e ∈ r.edges, L e) → ∀ i ∈ b, L i
  | [], acc, dn, _, _, h => h
  | x :: rs, acc, dn, ha, hl, h => by
    rw [befs]
    refine befs_done hcl (dn := dn ++ [x]) (by rw [ha]; simp) (by simp [hl]) fun k b r hb hr he i hi => ?_
    by_cases hk : k < acc.length
    · rw [List.getElem?_append_left hk] at hb
      exact h k b r hb hr he i hi
    · rw [List.getElem?_append_right (by omega)] at hb
      have hk2 : k - acc.length = 0 := by
        have := (List.getElem?_eq_some_iff.1 hb).1; simpa using this
      rw [hk2] at hb
      simp at hb
      subst hb
      have hkx : r = x := by
        have : k = dn.length := by omega
        rw [ha, this] at hr; simp at hr; exact hr.symm
      subst hkx
      rcases List.mem_append.1 hi with hi | hi
      · exact he i hi
      · obtain ⟨e, hee, hie⟩ := List.mem_flatMap.1 hi
        cases hae : acc[e]? with
        | none => rw [hae] at hie; simp at hie
        | some b' =>
          rw [hae] at hie
          have hele : e < all.length := by
            have := (List.getElem?_eq_some_iff.1 hae).1
            rw [ha]; simp; omega
          exact h e b' all[e] hae (List.getElem?_eq_getElem hele) (hcl e _ (List.getElem?_eq_getElem hele) (he e hee)) i hie

structure OrderOk (n : Nat) (rs : List Rec) : Prop where
  back : ∀ (k : Nat) (r : Rec), rs[k]? = some r → ∀ e ∈ r.edges, e < k
  pair : ∀ (i k : Nat), i < k → k < rs.length → (∀ (L : Nat → Prop), (∀ (j : Nat) (r : Rec), rs[j]? = some r → L j → ∀ e ∈ r.edges, L e) → (∀ r, rs[k]? = some r → ∀ e ∈ r.edges, L e) → L i) ∨ AP rs n i k

theorem orderB_ok {n : Nat} {rs : List Rec} (h : orderB n rs = true) : OrderOk n rs := by
  have key : ∀ k, k < rs.length → ∃ y b, rs[k]? = some y ∧ (befs [] rs)[k]? = some b ∧ (∀ e ∈ y.edges, e < k) ∧ ∀ i, i < k → b.contains i = true ∨ (∃ x, rs[i]? = some x ∧ apartB n x y = true) := by
    intro k hk
    simp only [orderB, List.all_eq_true, List.mem_range] at h
    have := h k hk
    split at this
    · rename_i y b hy hb
      simp only [Bool.and_eq_true, List.all_eq_true, decide_eq_true_eq, List.mem_range, Bool.or_eq_true] at this
      refine ⟨y, b, hy, hb, this.1, fun i hi => (this.2 i hi).imp_right fun h => ?_⟩
      split at h
      · rename_i x hx; exact ⟨x, hx, h⟩
      · cases h
    · cases this
  refine ⟨fun k r hr e he => ?_, fun i k hik hk => ?_⟩
  · obtain ⟨y, b, hy, _, h1, _⟩ := key k (List.getElem?_eq_some_iff.1 hr).1
    rw [hr] at hy; cases hy
    exact h1 e he
  · obtain ⟨y, b, hy, hb, _, h2⟩ := key k hk
    rcases h2 i hik with h | ⟨x, hx, h⟩
    · exact .inl fun L hcl hL => befs_done hcl (rs := rs) (acc := []) (dn := []) rfl rfl (by simp) k b y hb hy (hL y hy) i (by simpa using h)
    · exact .inr ⟨x, y, hx, hy, apart_of h⟩

end Go.Proofs.YtbamhlgkoimjoaaDoor.Ab
