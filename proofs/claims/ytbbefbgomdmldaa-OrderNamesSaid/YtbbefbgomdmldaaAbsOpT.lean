/- Lists of zeros; copy; lists put into boxes and into lists. -/
import Derived.Test.YtbbefbgomdmldaaAbsOpQ
import Derived.Lib.AppendZerosOnto
namespace Go.Proofs.Ytbbefbgomdmldaa.Ab
open Go
set_option linter.unusedVariables false
set_option linter.unusedSimpArgs false

variable {P : Program} {O : Orc} {s : St} {sc sc' : Script} {w w' : World} {Pr Pr' : Nat → Prop} {vw vw' : Nat → Option VW} {bl : List B} {μ : List CB} {a : Act}
  {wr : Nat → Bool} {IC : Nat → List V → List B → V → List B → Prop} {lit : Bool} {p : Patch} {Q : Exit → Act → World → Prop}

/-! ### zeros -/

theorem rows_zeros {z : D} {zv : Value} {sz m : Nat} (hzl : z.cells.length = sz) (hzs : zv.cells.size = sz) (hone : ∀ u ∈ zv.cells.toList, u.oneCell' = true) (hcells : ∀ (j : Nat) (y : D), z.cells[j]? = some y → ∃ u, zv.cells[j]? = some u ∧ DRel w Pr y u) :
    Rows' w Pr sz (List.replicate m z) (Builtin.zeroCells zv.cells m).toList := by
  have e : (Builtin.zeroCells zv.cells m).toList = (List.replicate m zv.cells.toList).flatten := zero_cells zv.cells m
  rw [e]
  refine ⟨fun u hu => ?_, fun k x hx => ?_⟩
  · obtain ⟨l', hl', hu⟩ := List.mem_flatten.1 hu
    rw [(List.mem_replicate.1 hl').2] at hu
    exact hone u hu
  · have hk : k < m := by have := (List.getElem?_eq_some_iff.1 hx).1; simpa using this
    have hxz : x = z := by
      rw [List.getElem?_replicate, if_pos hk] at hx; cases hx; rfl
    subst hxz
    refine ⟨hzl, fun j y hy => ?_⟩
    obtain ⟨u, h1, h2⟩ := hcells j y hy
    refine ⟨u, ?_, h2⟩
    have hj : j < zv.cells.size := (Array.getElem?_eq_some_iff.1 h1).1
    have hll : zv.cells.toList.length = sz := by rw [Array.length_toList]; omega
    have := get_replicate_flatten (l := zv.cells.toList) (n := m) hk (by rw [hll]; omega : j < zv.cells.toList.length)
    rw [← hll, this, Array.getElem?_toList]
    exact h1

theorem goes_zeros {o : Oper} {xo yo : Operand} {sT xT e : TypeId} {sz m : Nat} {b : Bool} {kn kq : IntKind} {z : D} (hR : Rel P s a w μ Pr)
    (ho : o.op = .call { callee := .builtin .append, args := #[xo, yo], argTypes := #[sT, xT] }) (hk : P.underlying xT = some (.int kn)) (he : elemOf P sT = some e) (hz : szOf P e = some sz) (hzd : zeroD P e = some z) (hrow : rowOk P e = true) (hzl : z.cells.length = sz)
    (hx : VRel P w Pr (view s.blks μ) (.emp b) (a.eval xo)) (hy : a.eval yo = .int kq m) (hm : m ≤ maxItems) :
    o.wp P a w (After P (({ putP o.dst (.arr s.blks.length) with push := [.lst e (List.replicate m z)] } : Patch).apply s) μ Pr w) Q := by
  have hmi : maxItems = 1099511627776 := by decide
  have hml : maxLen = 9223372036854775807 := by decide
  obtain ⟨i, zv, hi, hiz, hzs, hsz, hzi, hbytes⟩ := rowOk_ok hrow
  rw [hz] at hzi; cases hzi
  obtain ⟨zv', hzr, hzvl, hone, hcells⟩ := zeroD_ok (P := P) (w := w) (Pr := Pr) hzd
  have hzz : zv' = zv := by
    have : (zeroValue e).run P w = .ok zv w := by simp [zeroValue, typeInfo, hi, hiz]
    rw [this] at hzr; cases hzr; rfl
  subst hzz
  obtain ⟨q, hq⟩ := emp_val hx
  have hmb : m * i.bytes ≤ 140737488355328 := Nat.le_trans (Nat.mul_le_mul_right _ hm) hbytes
  by_cases hm0 : m = 0
  · subst hm0
    have hrun : (Builtin.append_ #[sT, xT] o.type #[.slice q 0 0, .int kq 0]).run P w = .ok (.slice q 0 0) w := by
      have hw0 : IntKind.i64.wrap 0 = 0 := by decide
      cases q <;> simp [Builtin.append_, run_und (elemOf_und he), run_und hk, run_szOf hz, asInt, asIntOf, typeInfo, hi, hw0, storeCells]
    refine goes_push (w' := w) (c := .lst (.zero q)) (x := hdr (.zero q) 0) hR rfl rfl rfl (Nat.le_refl _) (fun _ _ => rfl) (by simp [CB.own, H.own]) (by simp [CB.own, H.own]) ⟨i.size, [], hz, ⟨rfl, rfl⟩, by simp, by simp⟩ (exec_append ho (by rw [hq, hy]; exact hrun))
      (show VRel0 P w Pr _ (.arr s.blks.length) _ from .inl ⟨e, 0, .zero q, by rw [view_last hR.mu]; rfl, rfl⟩)
  · have hfit : Builtin.nextslicecap (0 + m) 0 * i.bytes ≤ 281474976710656 := growslice_fits (by omega) (by rw [Nat.zero_add]; omega)
    have hold : (Builtin.firstCells i.size 0 (.slice q 0 0)).run P w.drew = .ok (([] : List Value).toArray) w.drew := by cases q <;> simp [Builtin.firstCells, loadCells, loadCellsFrom]
    have hrun := Go.Lib.run_append_grow_zeros (P := P) w sT xT o.type e i zv' kq kn (elemOf_und he) hk hi hiz q 0 0 [] hold m (by omega) hsz (by omega) (by omega) (by omega) hfit
    have hge := grownCap_ge w (0 + m) 0 e
    have hcm : grownCap w (0 + m) 0 e ≤ maxLen := grownCap_le_maxLen w (0 + m) 0 e (by omega)
    have hcl : (Builtin.zeroCells zv'.cells m).toList.length = m * i.size := by rw [Array.length_toList, size_zeroCells, hzs]
    obtain ⟨w', hw'⟩ : ∃ w' : World, w' = w.drew.alloc (.cells (([] : List Value).toArray ++ Builtin.zeroCells zv'.cells m ++ Builtin.zeroCells zv'.cells (grownCap w (0 + m) 0 e - (0 + m))) e) := ⟨_, rfl⟩
    rw [← hw'] at hrun
    have hsame : ∀ k, k < w.heap.size → w'.heap[k]? = w.heap[k]? := fun k hk => by rw [hw']; exact heap_alloc_old w.drew _ k hk
    have hsize : w'.heap.size = w.heap.size + 1 := by rw [hw']; simp
    have hnew : w'.heap[w.heap.size]? = some (.cells (([] : List Value).toArray ++ Builtin.zeroCells zv'.cells m ++ Builtin.zeroCells zv'.cells (grownCap w (0 + m) 0 e - (0 + m))) e (0, 0)) := by rw [hw']; exact heap_alloc_new w.drew _
    have hown : OwnR w' e i.size (.row w.heap.size (grownCap w (0 + m) 0 e)) m (Builtin.zeroCells zv'.cells m).toList := by
      refine ⟨hcl, .inr ⟨w.heap.size, _, _, rfl, Nat.zero_le _, hnew, by omega, hcm, ?_, ?_⟩⟩
      · simp only [Array.size_append, List.size_toArray, List.length_nil, size_zeroCells, hzs]
        rw [Nat.zero_add, ← Nat.add_mul]
        congr 1
        omega
      · simp only [Array.toList_append, List.nil_append]
        rw [← hcl]
        exact List.take_left
    have hrows := rows_zeros (w := w) (Pr := Pr) (m := m) hzl hzs hone hcells
    refine goes_push (w' := w') (c := .lst (.row w.heap.size (grownCap w (0 + m) 0 e))) (x := hdr (.row w.heap.size (grownCap w (0 + m) 0 e)) m) hR (by rw [hw']; rfl) (by rw [hw']; rfl) (by rw [hw']; rfl) (by omega) hsame (by simp [CB.own, H.own]) (by simp [CB.own, H.own]; omega)
      ⟨i.size, _, hz, by rw [List.length_replicate]; exact hown, hrows.mono (fun _ h => h) (fun b hb => hsame b (hR.pr b hb))⟩ (exec_append ho (by rw [hq, hy]; rw [Nat.zero_add] at hrun; simpa [hdr] using hrun))
      (show VRel0 P w' Pr _ (.arr s.blks.length) _ from .inl ⟨e, m, _, by rw [view_last hR.mu]; simp [vwOf], rfl⟩)

/-! ### a cut list into a box -/

theorem Same.refl (w : World) (S : Nat → Prop) : Same w w S := ⟨rfl, rfl, rfl, Nat.le_refl _, fun _ _ _ => rfl⟩

/-- A list is cut, from its beginning; its other references go. -/
theorem Rel.cut {l e n : Nat} {xs : List D} (hR : Rel P s a w μ Pr) (hb : s.blks[l]? = some (.lst e xs)) (hn : n ≤ xs.length) :
    Rel P ⟨s.slots.map (kill1 l .gone), (s.blks.map (killB l .gone)).set l (.lst e (xs.take n))⟩ a w μ Pr := by
  obtain ⟨hh, wd, cs, g1, g2, g3, g4, g5⟩ := hR.toSRel.lst hb
  have hl : (xs.take n).length = n := by rw [List.length_take]; omega
  have := (hR.setList (k := .gone) (b' := .lst e (xs.take n)) (c' := .lst hh) (w' := w) hb g1 (by simp [vwOf]) (by simp) (Same.refl w _) (H.own_nodup hh) (fun q hq => .inl hq) (by simp) ⟨wd, _, g3, by rw [hl]; exact ownR_cut g4 hn, rows_cut g5 n⟩).1
  have e : μ.set l (.lst hh) = μ := by
    apply List.ext_getElem?
    intro k
    rw [List.getElem?_set]
    by_cases hk : l = k
    · subst hk; rw [if_pos rfl, if_pos (List.getElem?_eq_some_iff.1 g1).1, g1]
    · rw [if_neg hk]
  rwa [e] at this

theorem goes_storeCut {o : Oper} {t : TypeId} {ao xo : Operand} {id off l n e : Nat} {cs : List V} {xs : List D} (hR : Rel P s a w μ Pr) (ho : o.op = .store t ao xo) (hd : o.dst = none)
    (ha : VRel P w Pr (view s.blks μ) (.ptr id off) (a.eval ao)) (hv : VRel P w Pr (view s.blks μ) (.win l 0 n) (a.eval xo)) (hb : s.blks[id]? = some (.box cs)) (hl : s.blks[l]? = some (.lst e xs)) (hne : l ≠ id) (hz : szOf P t = some 1) (hfit : off + 1 ≤ cs.length) :
    o.wp P a w (After P (({ bsets := [(l, .lst e (xs.take n)), (id, .box (over (cs.map (kill1 l .gone)) off [.arr l]))], kill := [(l, .gone)] } : Patch).apply s) μ Pr w) Q := by
  obtain ⟨hh, wd, cs0, g1, g2, g3, g4, g5⟩ := hR.toSRel.lst hl
  obtain ⟨e', len, h', wd', a', cap, k1, k2, k3, k4, k5, k6, k7⟩ := hv
  rw [g2] at k1; cases k1
  have hn : n ≤ xs.length := by omega
  have hA := hR.cut hl hn
  have hbl : l < s.blks.length := (List.getElem?_eq_some_iff.1 hl).1
  have hml : l < μ.length := (List.getElem?_eq_some_iff.1 g1).1
  have hlen : (xs.take n).length = n := by rw [List.length_take]; omega
  have hmu : μ.set l (.lst hh) = μ := by
    apply List.ext_getElem?
    intro k
    rw [List.getElem?_set]
    by_cases hk : l = k
    · subst hk; rw [if_pos rfl, if_pos hml, g1]
    · rw [if_neg hk]
  have hvself : view ((s.blks.map (killB l .gone)).set l (.lst e (xs.take n))) μ l = some (.lst e n hh) := by
    have := view_killSet_self (k := .gone) (b' := .lst e (xs.take n)) (c' := .lst hh) (bl := s.blks) (μ := μ) hbl hml
    rw [hmu] at this
    rw [this]
    simp [vwOf, hlen]
  have hvid : view ((s.blks.map (killB l .gone)).set l (.lst e (xs.take n))) μ id = view s.blks μ id := by
    have := view_killSet (k := .gone) (b' := .lst e (xs.take n)) (c' := .lst hh) (bl := s.blks) (μ := μ) (id := l) (j := id) (fun e => hne e.symm)
    rwa [hmu] at this
  obtain ⟨b0, q1, q2⟩ := ha
  have := goes_storeBox (Q := Q) (id := id) (off := off) (v := .arr l) (vs := [.arr l]) (cs := cs.map (kill1 l .gone)) hA ho hd (show VRel0 P w Pr _ (.ptr id off) _ from ⟨b0, by rw [hvid]; exact q1, q2⟩)
    (show VRel0 P w Pr _ (.arr l) _ from .inl ⟨e, n, hh, hvself, k7 rfl⟩) (by simp only; rw [List.getElem?_set, if_neg hne, List.getElem?_map, hb]; rfl) rfl hz rfl (by simpa using hfit)
  refine Oper.wp_mono (fun a1 w1 h1 => ?_) this
  have e1 : ({ bsets := [(l, .lst e (xs.take n)), (id, .box (over (cs.map (kill1 l .gone)) off [.arr l]))], kill := [(l, .gone)] } : Patch).apply s = ({ bsets := [(id, .box (over (cs.map (kill1 l .gone)) off [.arr l]))] } : Patch).apply ⟨s.slots.map (kill1 l .gone), (s.blks.map (killB l .gone)).set l (.lst e (xs.take n))⟩ := by
    simp [Patch.apply, setAll, modAll, St.kill]
  rw [e1]
  exact h1

/-! ### copy -/

theorem rows_drop {wd : Nat} {xs : List D} {cs : List Value} (h : Rows' w Pr wd xs cs) (m : Nat) : Rows' w Pr wd (xs.drop m) (cs.drop (m * wd)) := by
  refine ⟨fun u hu => h.1 u (List.mem_of_mem_drop hu), fun i x hx => ?_⟩
  rw [List.getElem?_drop] at hx
  obtain ⟨h1, h2⟩ := h.2 _ x hx
  refine ⟨h1, fun j y hy => ?_⟩
  obtain ⟨u, g1, g2⟩ := h2 j y hy
  refine ⟨u, ?_, g2⟩
  rw [List.getElem?_drop, ← g1]
  congr 1
  rw [Nat.add_mul]; omega

theorem not_string {y : V} {t : ByteArray} {xs : List D} (hv : VRel P w Pr vw y (.string t)) (h : Hold O s (items y) sc xs sc') : ∃ l, y = .d (.str l) := by
  cases y with
  | d x =>
    have : DRel w Pr x (.string t) := hv
    cases this
    exact ⟨_, rfl⟩
  | emp b => cases b <;> first | (obtain ⟨q, hq⟩ := hv; cases hq) | (cases (show Value.string t = .slice none 0 0 from hv))
  | nnil => obtain ⟨q, c, hq⟩ := hv; cases hq
  | arr id => rcases hv with ⟨_, _, hh, _, hq⟩ | ⟨_, _, _, _, _, _, hq⟩ <;> first | (cases hh <;> cases hq; done) | (cases hq; done)
  | inn id i => obtain ⟨_, _, _, _, _, _, hh, _, _, _, hq⟩ := hv; cases hh <;> cases hq
  | win id lo n => obtain ⟨_, _, _, _, _, _, _, _, hq, _⟩ := hv; cases hq
  | _ => exact (hold_fail.1 h).elim

theorem goes_copy {o : Oper} {xo yo : Operand} {dT sT e : TypeId} {id lo n sz : Nat} {y : V} {xs ys : List D} {sc0 sc1 : Script} (hR : Rel P s a w μ Pr)
    (ho : o.op = .call { callee := .builtin .copy, args := #[xo, yo], argTypes := #[dT, sT] }) (he : elemOf P dT = some e) (hz : szOf P e = some sz)
    (hlst : s.blks[id]? = some (.lst e xs)) (hln : lo + n ≤ xs.length) (hx : ∃ cap q, a.eval xo = .slice q n cap ∧ (0 < n → ∃ b c, μ[id]? = some (.lst (.row b c)) ∧ q = some ⟨b, lo * sz, none⟩))
    (hy : VRel P w Pr (view s.blks μ) y (a.eval yo)) (h1 : Hold O s (items y) sc0 ys sc1) (hns : ∀ l, y ≠ .d (.str l)) (hw : ∀ d ∈ ys, d.cells.length = sz) :
    o.wp P a w (After P (({ putP o.dst (.d (.int .i64 (min n ys.length : Nat))) with bsets := [(id, .lst e (xs.take lo ++ ys.take n ++ xs.drop (lo + min n ys.length)))] } : Patch).apply s) μ Pr w) Q := by
  obtain ⟨hh, wd, cs, g1, g2, g3, g4, g5⟩ := hR.toSRel.lst hlst
  rw [hz] at g3; cases g3
  obtain ⟨cap, q, hxe, hbase⟩ := hx
  have hlt := (List.getElem?_eq_some_iff.1 hlst).1
  have hcl := ownR_len g4
  -- what is read
  have hsrc : ∃ base cap2, a.eval yo = .slice base ys.length cap2 ∧ (ys = [] ∨ ∃ b o, base = some ⟨b, o, none⟩ ∧ Reads w Pr sz ys b o) := by
    rcases items_ok hR.toSRel (items_simple hy h1) h1 with ⟨t, ht, _⟩ | ⟨base, cap2, hv, hor⟩
    · rw [ht] at hy; obtain ⟨l, hl⟩ := not_string hy h1; exact (hns l hl).elim
    · refine ⟨base, cap2, hv, hor.imp_right fun ⟨b, o, wd, hb, hr⟩ => ?_⟩
      by_cases hys : ys = []
      · subst hys; exact ⟨b, o, hb, by simp [Reads]⟩
      · obtain ⟨d, r, rfl⟩ := List.exists_cons_of_ne_nil hys
        have : wd = sz := by rw [← hr.1 0 d rfl, hw d (List.mem_cons_self ..)]
        subst this
        exact ⟨b, o, hb, hr⟩
  obtain ⟨base, cap2, hye, hor⟩ := hsrc
  obtain ⟨k, hk⟩ : ∃ k, k = min n ys.length := ⟨_, rfl⟩
  have hkn : Nat.min ys.length n = k := by show min ys.length n = k; omega
  obtain ⟨news, n1, n2, n3, n4⟩ : ∃ news : List Value, news.length = k * sz ∧ (Builtin.firstCells sz k (.slice base ys.length cap2)).run P w = .ok news.toArray w ∧ (∀ u ∈ news, u.oneCell' = true) ∧ Rows' w Pr sz (ys.take n) news := by
    by_cases hk0 : k = 0
    · have hrun0 : (Builtin.firstCells sz 0 (.slice base ys.length cap2)).run P w = .ok (([] : List Value).toArray) w := by cases base <;> simp [Builtin.firstCells, loadCells, loadCellsFrom]
      have ht0 : ys.take n = [] := by rcases Nat.eq_zero_or_pos n with h | h; · rw [h]; rfl
                                      · have : ys.length = 0 := by omega
                                        rw [List.eq_nil_of_length_eq_zero this]; exact List.take_nil
      exact ⟨[], by simp [hk0], by rw [hk0]; exact hrun0, by simp, by rw [ht0]; exact rows_nil sz⟩
    · rcases hor with rfl | ⟨b, o, rfl, hr⟩
      · simp at hk; omega
      · obtain ⟨all, a1, a2, a3, a4⟩ := flat_reads hr
        have hle : k * sz ≤ ys.length * sz := Nat.mul_le_mul_right _ (by omega)
        refine ⟨all.take (k * sz), by rw [List.length_take, a1]; omega, ?_, fun u hu => a3 u (List.mem_of_mem_take hu), ?_⟩
        · refine run_firstCells_some w sz k _ _ _ _ (by rw [List.length_take, a1]; omega) (fun j v hj => ?_)
          rw [Addr.add_mid]
          rw [List.getElem?_take] at hj
          split at hj
          · exact a2 j v hj
          · cases hj
        · have hyr : Rows' w Pr sz ys all := ⟨a3, fun i d hd => ⟨hr.1 i d hd, a4 i d hd⟩⟩
          have := rows_cut hyr k
          have e1 : ys.take k = ys.take n := by
            rcases Nat.le_total n ys.length with h | h
            · rw [show k = n by omega]
            · rw [List.take_of_length_le (by omega : ys.length ≤ k), List.take_of_length_le h]
          rwa [e1] at this
  have hlen : (xs.take lo ++ ys.take n ++ xs.drop (lo + min n ys.length)).length = xs.length := by
    simp only [List.length_append, List.length_take, List.length_drop]; omega
  have fin : ∀ w', (Builtin.copy_ #[dT, sT] o.type #[a.eval xo, a.eval yo]).run P w = .ok (.int .i64 k) w' → Same w w' (· ∈ hh.own) → BRel P w' Pr (view s.blks μ) (.lst e (xs.take lo ++ ys.take n ++ xs.drop (lo + min n ys.length))) (.lst hh) →
      o.wp P a w (After P (({ putP o.dst (.d (.int .i64 (min n ys.length : Nat))) with bsets := [(id, .lst e (xs.take lo ++ ys.take n ++ xs.drop (lo + min n ys.length)))] } : Patch).apply s) μ Pr w) Q := by
    intro w' hrun hS hB
    have hex : (execOp a.eval o).run P w = .ok (.value (.int .i64 k)) w' := by
      simp only [execOp, ho, resolve, invoke, builtin, Sem.run_bind, Sem.run_pure, Result.andThen_ok, List.map_toArray, List.map_cons, List.map_nil, hrun]
    have key := hR.setSame (b' := .lst e (xs.take lo ++ ys.take n ++ xs.drop (lo + min n ys.length))) hlst g1 (by simp only [vwOf, hlen]) hS hB
    unfold Oper.wp
    rw [hex]
    refine ⟨μ, Pr, ?_, key.2, .refl _⟩
    have e1 : ({ putP o.dst (.d (.int .i64 (min n ys.length : Nat))) with bsets := [(id, .lst e (xs.take lo ++ ys.take n ++ xs.drop (lo + min n ys.length)))] } : Patch).apply s = setSlot ⟨s.slots, s.blks.set id (.lst e (xs.take lo ++ ys.take n ++ xs.drop (lo + min n ys.length)))⟩ o.dst (.d (.int .i64 (min n ys.length : Nat))) := by
      cases o.dst <;> simp [putP, Patch.apply, setAll, modAll, setSlot]
    rw [e1, ← hk]
    rw [← hk] at key
    exact key.1.setSlot P _ (show DRel w' Pr (.int .i64 k) _ from .int _ _)
  have hrun1 : ∀ w', (∀ q', q = some q' → (storeCells q' news).run P w = .ok () w') → (q = none → w' = w) → (Builtin.copy_ #[dT, sT] o.type #[a.eval xo, a.eval yo]).run P w = .ok (.int .i64 k) w' := by
    intro w' hs hn
    rw [hxe, hye]
    have hf : (Builtin.firstCells sz k (.slice base ys.length cap2)).run P w = .ok news.toArray w := n2
    simp only [Builtin.copy_, List.getElem?_toArray, List.getElem?_cons_zero, List.getElem?_cons_succ, Sem.run_bind, run_und (elemOf_und he), Result.andThen_ok, Builtin.lenOf, Sem.run_pure, hkn, run_szOf hz, hf]
    cases q with
    | none => rw [hn rfl]; simp [goInt]
    | some q' => simp [hs q' rfl, goInt]
  by_cases hk0 : k = 0
  · have hnews : news = [] := List.eq_nil_of_length_eq_zero (by rw [n1, hk0, Nat.zero_mul])
    have hsame : xs.take lo ++ ys.take n ++ xs.drop (lo + min n ys.length) = xs := by
      have ht0 : ys.take n = [] := by
        rcases Nat.eq_zero_or_pos n with h | h
        · rw [h]; rfl
        · have : ys.length = 0 := by omega
          rw [List.eq_nil_of_length_eq_zero this]; exact List.take_nil
      rw [ht0, ← hk, hk0, List.append_nil, Nat.add_zero, List.take_append_drop]
    refine fin w (hrun1 w (fun q' _ => by rw [hnews]; simp [storeCells]) (fun _ => rfl)) (Same.refl w _) ?_
    rw [hsame]
    exact ⟨sz, cs, hz, g4, g5⟩
  · obtain ⟨b, c, m1, m2⟩ := hbase (by omega)
    rw [g1] at m1; cases m1
    rcases g4.2 with ⟨hv, _⟩ | ⟨g, c', cur, hv, hbg, hg, hnc, hcm, hcz, htake⟩
    · simp at hv
    simp at hv
    obtain ⟨rfl, rfl⟩ := hv
    have hkl : k ≤ n := by omega
    have hfit : lo * sz + news.length ≤ xs.length * sz := by
      rw [n1, ← Nat.add_mul]; exact Nat.mul_le_mul_right _ (by omega)
    have hfc : xs.length * sz ≤ c * sz := Nat.mul_le_mul_right _ hnc
    have hst := run_storeCells_at P b (lo * sz) e news 0 cur w hg (by rw [hcz]; omega) n3
    simp only [Nat.add_zero] at hst
    obtain ⟨w', hw'⟩ : ∃ w' : World, w' = w.setRow b (cur.toList.take (lo * sz) ++ news ++ cur.toList.drop (lo * sz + news.length)).toArray := ⟨_, rfl⟩
    rw [← hw'] at hst
    have hS : Same w w' (· ∈ (H.row b c).own) := by rw [hw']; exact ⟨rfl, rfl, rfl, by simp, fun j hj hn => setRow_other w b j _ (fun e => hn (by simp [H.own, e]))⟩
    have hnewc : w'.heap[b]? = some (.cells (cur.toList.take (lo * sz) ++ news ++ cur.toList.drop (lo * sz + news.length)).toArray e (0, 0)) := by rw [hw']; exact setRow_heap w b cur _ e _ hg
    have hnp : ∀ b', b' ∈ (H.row b c).own → ¬ Pr b' := fun b' hb => (hR.lt b' (List.mem_flatMap.2 ⟨_, List.mem_of_getElem? g1, hb⟩)).2
    have hpw : ∀ b', Pr b' → w'.heap[b']? = w.heap[b']? := hS.pr hR.pr hnp
    refine fin w' (hrun1 w' (fun q' hq => by rw [m2] at hq; cases hq; exact hst) (fun hq => by rw [m2] at hq; cases hq)) hS ⟨sz, cs.take (lo * sz) ++ news ++ cs.drop ((lo + k) * sz), hz, ?_, ?_⟩
    · rw [hlen]
      have hcut : (cur.toList.take (lo * sz) ++ news ++ cur.toList.drop (lo * sz + news.length)).take (xs.length * sz) = cs.take (lo * sz) ++ news ++ cs.drop ((lo + k) * sz) := by
        have hl1 : (cur.toList.take (lo * sz)).length = lo * sz := by rw [List.length_take, Array.length_toList]; omega
        rw [List.append_assoc, List.take_append, hl1, List.take_append, List.take_take, Nat.min_eq_right (by omega), List.take_of_length_le (by omega : news.length ≤ xs.length * sz - lo * sz), List.append_assoc]
        congr 1
        · rw [← htake, List.take_take, Nat.min_eq_left (by omega)]
        · congr 1
          rw [← htake, List.drop_take, n1, Nat.add_mul]
          congr 1
          omega
      refine ⟨?_, .inr ⟨b, c, _, rfl, hbg, hnewc, hnc, hcm, ?_, by simpa using hcut⟩⟩
      · simp only [List.length_append, List.length_take, List.length_drop, hcl, n1]
        have : (lo + k) * sz ≤ xs.length * sz := Nat.mul_le_mul_right _ (by omega)
        rw [Nat.add_mul] at this ⊢
        omega
      · simp only [List.size_toArray, List.length_append, List.length_take, List.length_drop, Array.length_toList]
        omega
    · have ra := (rows_cut g5 lo).mono (fun _ h => h) hpw
      have rb := n4.mono (fun _ h => h) hpw
      have rc := (rows_drop g5 (lo + k)).mono (fun _ h => h) hpw
      have la : (cs.take (lo * sz)).length = (xs.take lo).length * sz := by
        have : lo * sz ≤ xs.length * sz := Nat.mul_le_mul_right _ (by omega)
        rw [List.length_take, List.length_take, hcl, Nat.min_eq_left this, Nat.min_eq_left (by omega)]
      have lyt : (ys.take n).length = k := by rw [List.length_take, hk]
      have lb : (cs.take (lo * sz) ++ news).length = (xs.take lo ++ ys.take n).length * sz := by
        rw [List.length_append, List.length_append, la, n1, lyt, Nat.add_mul]
      have rab := rows_append la ra rb.1 rb.2
      rw [← hk]
      exact rows_append lb rab rc.1 rc.2

/-! ### a list into a list of lists -/

theorem goes_storeInner {o : Oper} {t : TypeId} {ao xo : Operand} {id i l st e : Nat} {xss : List (Option (List D))} {ys : List D} (hR : Rel P s a w μ Pr) (ho : o.op = .store t ao xo) (hd : o.dst = none)
    (ha : VRel P w Pr (view s.blks μ) (.eptr id i 0) (a.eval ao)) (hv : VRel P w Pr (view s.blks μ) (.arr l) (a.eval xo)) (hb : s.blks[id]? = some (.lst2 st xss)) (hl : s.blks[l]? = some (.lst e ys)) (hne : l ≠ id) (hz : szOf P t = some 1) (hst : elemOf P st = some e) :
    o.wp P a w (After P (({ bsets := [(l, .dead), (id, .lst2 st (xss.set i (some ys)))], kill := [(l, .gone), (id, .inner)] } : Patch).apply s) μ Pr w) Q := by
  obtain ⟨hh, wd, cs, g1, g2, g3, g4, g5⟩ := hR.toSRel.lst hl
  obtain ⟨c, c1, c2, c3⟩ := hR.toSRel.at hb
  rcases ha with ⟨e', n, b, cap, wd2, k1, _⟩ | ⟨s', lens, b, cap, inner, k1, k2, k3, hae⟩
  · rw [c3] at k1; cases c <;> simp [vwOf] at k1
  rw [c3] at k1
  cases c with
  | lst2 b' cap' inner' =>
    simp only [vwOf, Option.some.injEq, VW.lst2.injEq] at k1
    obtain ⟨rfl, rfl, rfl, rfl, rfl⟩ := k1
    obtain ⟨cur, e2, wd2, q1, q2, q3, q4, q5, q6, q7, q8, q9, q10⟩ := c2
    rw [hst] at q7; cases q7
    rw [g3] at q8; cases q8
    have hil : i < xss.length := by simpa using k2
    rcases hv with ⟨e3, n3, h3, p1, p2⟩ | ⟨s3, l3, b3, c3', i3, p1, _⟩
    rotate_left
    · rw [g2] at p1; cases p1
    rw [g2] at p1; cases p1
    have hcell : (a.eval xo).cells = #[hdr hh ys.length] := by rw [p2]; cases hh <;> rfl
    have hone : (hdr hh ys.length).oneCell' = true := by cases hh <;> rfl
    have hrun := exec_store (P := P) (w := w) ho hae q1 hz (by rw [hcell]; rfl) (by rw [q4]; omega) (fun u hu => by rw [hcell] at hu; simp at hu; subst hu; exact hone)
    rw [hcell] at hrun
    obtain ⟨w', hw'⟩ : ∃ w' : World, w' = w.setRow b' (cur.toList.take i ++ #[hdr hh ys.length].toList ++ cur.toList.drop (i + #[hdr hh ys.length].toList.length)).toArray := ⟨_, rfl⟩
    rw [← hw'] at hrun
    have hS : Same w w' (· ∈ [b']) := by rw [hw']; exact setRow_same
    have hnew : w'.heap[b']? = some (.cells (cur.toList.take i ++ #[hdr hh ys.length].toList ++ cur.toList.drop (i + #[hdr hh ys.length].toList.length)).toArray st (0, 0)) := by rw [hw']; exact setRow_heap w b' cur _ st _ q1
    have hbl : l < s.blks.length := (List.getElem?_eq_some_iff.1 hl).1
    have hml : l < μ.length := (List.getElem?_eq_some_iff.1 g1).1
    have hbi : id < s.blks.length := (List.getElem?_eq_some_iff.1 hb).1
    have hmi : id < μ.length := (List.getElem?_eq_some_iff.1 c1).1
    have hcn : (b' :: inner'.flatMap H.own).Nodup := own_nodup hR.nodup c1
    rw [List.nodup_cons] at hcn
    have hco : ∀ q ∈ (CB.lst2 b' cap' inner').own, q ∈ owns μ := fun q hq => List.mem_flatMap.2 ⟨_, List.mem_of_getElem? c1, hq⟩
    have hho : ∀ q ∈ hh.own, q ∈ owns μ := fun q hq => List.mem_flatMap.2 ⟨_, List.mem_of_getElem? g1, hq⟩
    have hdis : ∀ q ∈ hh.own, q ∉ (CB.lst2 b' cap' inner').own := fun q hq => nodup_own hR.nodup l id _ _ g1 c1 hne q hq
    have hbo : b' ∈ owns μ := hco b' (by simp [CB.own])
    have hpw : ∀ q, Pr q → w'.heap[q]? = w.heap[q]? := fun q hq => hS.block q (hR.pr q hq) (fun hm => by simp at hm; subst hm; exact (hR.lt q hbo).2 hq)
    let bl1 := (s.blks.map (killB l .gone)).map (killB id .inner)
    let bl' := (bl1.set l .dead).set id (.lst2 st (xss.set i (some ys)))
    let μ' := (μ.set l .dead).set id (.lst2 b' cap' (inner'.set i hh))
    have hsub : ∀ q ∈ owns μ', q ∈ owns μ := by
      intro q hq
      rcases mem_owns_set hq with h1 | ⟨j, d, hj, hd, hqd⟩
      · simp only [CB.own, List.mem_cons, List.mem_flatMap] at h1
        rcases h1 with rfl | ⟨h2, hm2, hq2⟩
        · exact hbo
        · rcases List.mem_or_eq_of_mem_set hm2 with h3 | rfl
          · exact hco q (by simp only [CB.own, List.mem_cons, List.mem_flatMap]; exact .inr ⟨h2, h3, hq2⟩)
          · exact hho q hq2
      · by_cases hjl : j = l
        · subst hjl
          rw [List.getElem?_set_self hml] at hd; cases hd; simp [CB.own] at hqd
        · rw [List.getElem?_set, if_neg (fun e => hjl e.symm)] at hd
          exact List.mem_flatMap.2 ⟨d, List.mem_of_getElem? hd, hqd⟩
    have hnd1 : (owns (μ.set l .dead)).Nodup := nodup_owns_set hR.nodup g1 (by simp [CB.own]) (by simp [CB.own])
    have hnh : ∀ q ∈ hh.own, q ∉ owns (μ.set l .dead) := by
      intro q hq hm
      rcases mem_owns_set hm with h1 | ⟨j, d, hj, hd, hqd⟩
      · simp [CB.own] at h1
      · exact nodup_own hR.nodup l j _ d g1 hd (fun e => hj e.symm) q hq hqd
    have c1' : (μ.set l .dead)[id]? = some (.lst2 b' cap' inner') := by rw [List.getElem?_set, if_neg hne]; exact c1
    have hnd : (owns μ').Nodup := by
      obtain ⟨h0, hi0⟩ : ∃ h0, inner'[i]? = some h0 := ⟨_, List.getElem?_eq_getElem (by omega)⟩
      refine nodup_owns_set hnd1 c1' ?_ fun q hq => ?_
      · show (b' :: (inner'.set i hh).flatMap H.own).Nodup
        rw [List.nodup_cons]
        refine ⟨fun hm => ?_, flat_set_nodup (i := i) hh hcn.2 hi0 hh.own_nodup (fun q hq => .inr fun hm => hdis q hq (by simp only [CB.own]; exact List.mem_cons_of_mem _ hm))⟩
        obtain ⟨y, hy, hby⟩ := List.mem_flatMap.1 hm
        rcases List.mem_or_eq_of_mem_set hy with h2 | rfl
        · exact hcn.1 (List.mem_flatMap.2 ⟨y, h2, hby⟩)
        · exact hdis b' hby (by simp [CB.own])
      · simp only [CB.own, List.mem_cons, List.mem_flatMap] at hq
        rcases hq with rfl | ⟨h2, hm2, hq2⟩
        · exact .inl (by simp [CB.own])
        · rcases List.mem_or_eq_of_mem_set hm2 with h3 | rfl
          · exact .inl (by simp only [CB.own, List.mem_cons, List.mem_flatMap]; exact .inr ⟨h2, h3, hq2⟩)
          · exact .inr (hnh q hq2)
    have hev : Evo (owns μ) Pr w (owns μ') Pr w' := ⟨hS.os, hS.tape, hS.output, hS.size, fun q hq hno => hS.block q hq (fun hm => by simp at hm; subst hm; exact hno hbo), fun q hq => .inl (hsub q hq), fun _ h => h, fun _ h => .inl h⟩
    -- what references see
    let vw1 : Nat → Option VW := fun j => if j = l then none else view s.blks μ j
    have hvo : ∀ j, j ≠ l → j ≠ id → view bl' μ' j = view s.blks μ j := by
      intro j h1 h2
      simp only [bl', μ', bl1, view]
      rw [List.getElem?_set, if_neg (fun e => h2 e.symm), List.getElem?_set, if_neg (fun e => h1 e.symm), List.getElem?_set, if_neg (fun e => h2 e.symm), List.getElem?_set, if_neg (fun e => h1 e.symm), List.getElem?_map, List.getElem?_map]
      cases s.blks[j]? with
      | none => rfl
      | some x => cases μ[j]? with
        | none => rfl
        | some c => simp [vwOf_kill]
    have hvi : view bl' μ' id = vwOf (.lst2 st (xss.set i (some ys))) (.lst2 b' cap' (inner'.set i hh)) := by
      simp only [bl', μ', bl1, view]
      rw [List.getElem?_set_self (by simpa using hbi), List.getElem?_set_self (by simpa using hmi)]
    have hK1 : KillOk P w Pr (view s.blks μ) w Pr vw1 l .gone := ⟨fun _ h => h, fun _ _ => rfl, fun j hj _ => by simp only [vw1]; rw [if_neg hj], fun q => by rw [g2]; simp, by simp, by simp⟩
    have hv1i : vw1 id = vwOf (.lst2 st xss) (.lst2 b' cap' inner') := by simp only [vw1]; rw [if_neg (fun e => hne e.symm)]; exact c3
    have hK2 : KillOk P w Pr vw1 w' Pr (view bl' μ') id .inner := by
      refine ⟨fun _ h => h, hpw, fun j hj hne1 => ?_, fun q => by rw [hv1i]; simp [vwOf], by simp, fun _ => inner_stay hv1i hvi (by simp)⟩
      have hjl : j ≠ l := fun e => hne1 (by simp only [vw1]; rw [if_pos e])
      rw [hvo j hjl hj]
      simp only [vw1]; rw [if_neg hjl]
    have hRel : Rel P ⟨(s.slots.map (kill1 l .gone)).map (kill1 id .inner), bl'⟩ a w' μ' Pr := by
      refine ⟨⟨by simp [bl', μ', bl1, hR.mu], fun j x y hx hy => ?_, hnd, fun q hq => ⟨Nat.lt_of_lt_of_le (hR.lt q (hsub q hq)).1 hS.size, (hR.lt q (hsub q hq)).2⟩, fun q hq => Nat.lt_of_lt_of_le (hR.pr q hq) hS.size⟩, hR.defers, by simp [hR.len], fun m v hm => ?_⟩
      · show BRel P w' Pr (view bl' μ') x y
        by_cases hji : j = id
        · subst hji
          simp only [bl', bl1] at hx
          simp only [μ'] at hy
          rw [List.getElem?_set_self (by simpa using hbi)] at hx
          rw [List.getElem?_set_self (by simpa using hmi)] at hy
          cases hx; cases hy
          refine ⟨_, e, wd, hnew, by simpa using q2, q3, ?_, by simp [q5], q6, hst, g3, fun u hu => ?_, fun j2 ys2 h2 hj2 hj3 => ?_⟩
          · simp only [List.size_toArray, List.length_append, List.length_take, List.length_drop, Array.length_toList, List.length_singleton]
            omega
          · simp only [List.mem_append] at hu
            rcases hu with (hu | hu) | hu
            · exact q9 u (List.mem_of_mem_take hu)
            · simp at hu; subst hu; exact hone
            · exact q9 u (List.mem_of_mem_drop hu)
          · rw [List.getElem?_set] at hj2 hj3
            by_cases hjk : i = j2
            · subst hjk
              rw [if_pos rfl, if_pos hil] at hj2
              rw [if_pos rfl, if_pos (by omega)] at hj3
              cases hj2; cases hj3
              refine ⟨?_, cs, ownR_same (fun q hq => hS.block q (hR.lt q (hho q hq)).1 (fun hm => ?_)) g4, g5.mono (fun _ h => h) hpw⟩
              · simp only [List.getElem?_toArray]
                rw [List.append_assoc, List.getElem?_append_right (by simp; omega)]
                have : i - (cur.toList.take i).length = 0 := by simp; omega
                rw [this]; rfl
              · simp at hm; subst hm
                exact hdis q hq (by simp [CB.own])
            · rw [if_neg hjk] at hj2 hj3
              obtain ⟨p1, cs2, p2, p3⟩ := q10 j2 ys2 h2 hj2 hj3
              have hin2 : ∀ q ∈ h2.own, q ∈ inner'.flatMap H.own := fun q hq => List.mem_flatMap.2 ⟨_, List.mem_of_getElem? hj3, hq⟩
              refine ⟨?_, cs2, ownR_same (fun q hq => hS.block q (hR.lt q (hco q ?_)).1 (fun hm => ?_)) p2, p3.mono (fun _ h => h) hpw⟩
              · simp only [List.getElem?_toArray]
                rw [getElem?_over _ _ _ _ (by simp; omega)]
                split
                · rw [← p1, Array.getElem?_toList]
                · split
                  · rename_i h5 h6; simp at h6; omega
                  · rw [← p1, Array.getElem?_toList]
              · simp only [CB.own]; exact List.mem_cons_of_mem _ (hin2 q hq)
              · simp at hm; subst hm; exact hcn.1 (hin2 q hq)
        · by_cases hjl : j = l
          · subst hjl
            simp only [bl', bl1] at hx
            simp only [μ'] at hy
            rw [List.getElem?_set, if_neg (fun e => hji e.symm), List.getElem?_set_self (by simpa using hbl)] at hx
            rw [List.getElem?_set, if_neg (fun e => hji e.symm), List.getElem?_set_self hml] at hy
            cases hx; cases hy
            trivial
          · simp only [bl', bl1] at hx
            simp only [μ'] at hy
            rw [List.getElem?_set, if_neg (fun e => hji e.symm), List.getElem?_set, if_neg (fun e => hjl e.symm), List.getElem?_map, List.getElem?_map] at hx
            rw [List.getElem?_set, if_neg (fun e => hji e.symm), List.getElem?_set, if_neg (fun e => hjl e.symm)] at hy
            obtain ⟨x1, hx1, rfl⟩ := Option.map_eq_some_iff.1 hx
            obtain ⟨x0, hx0, rfl⟩ := Option.map_eq_some_iff.1 hx1
            have hb0 := hR.blks j x0 y hx0 hy
            refine killB_ok hK2 (fun q hq => hS.block q (hR.lt q (List.mem_flatMap.2 ⟨y, List.mem_of_getElem? hy, hq⟩)).1 (fun hm => ?_)) (killB_ok hK1 (fun q hq => rfl) hb0)
            simp at hm; subst hm
            exact nodup_own hR.nodup j id y _ hy c1 hji q hq (by simp [CB.own])
      · simp only at hm
        rw [List.getElem?_map, Option.map_eq_some_iff] at hm
        obtain ⟨v1, hv1, rfl⟩ := hm
        rw [List.getElem?_map, Option.map_eq_some_iff] at hv1
        obtain ⟨v0, hv0, rfl⟩ := hv1
        exact killV_ok hK2 (killV_ok hK1 (hR.slots m v0 hv0))
    unfold Oper.wp
    rw [hrun]
    refine ⟨μ', Pr, ?_, hev, .trans (.set g1 (by simp)) (.set c1' (by simp))⟩
    have : (({ bsets := [(l, .dead), (id, .lst2 st (xss.set i (some ys)))], kill := [(l, .gone), (id, .inner)] } : Patch).apply s) = ⟨(s.slots.map (kill1 l .gone)).map (kill1 id .inner), bl'⟩ := by
      simp [Patch.apply, setAll, modAll, St.kill, bl', bl1]
    rw [this, hd]
    exact hRel
  | _ => simp [vwOf] at k1

end Go.Proofs.Ytbbefbgomdmldaa.Ab
