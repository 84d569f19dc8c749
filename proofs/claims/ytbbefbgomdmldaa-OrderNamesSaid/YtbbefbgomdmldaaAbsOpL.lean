/- append, as an operation. -/
import Derived.Test.YtbbefbgomdmldaaAbsOpK
namespace Go.Proofs.Ytbbefbgomdmldaa.Ab
open Go
set_option linter.unusedVariables false
set_option linter.unusedSimpArgs false

variable {P : Program} {O : Orc} {s : St} {sc sc' : Script} {w w' : World} {Pr Pr' : Nat → Prop} {vw vw' : Nat → Option VW} {bl : List B} {μ : List CB} {a : Act}

theorem Same.pr {S : Nat → Prop} (hS : Same w w' S) (hlt : ∀ b, Pr b → b < w.heap.size) (hn : ∀ b, S b → ¬ Pr b) : ∀ b, Pr b → w'.heap[b]? = w.heap[b]? := fun b hb => hS.block b (hlt b hb) (fun h => hn b h hb)

theorem exec_append {o : Oper} {xo yo : Operand} {sT xT : TypeId} {r : Value} (ho : o.op = .call { callee := .builtin .append, args := #[xo, yo], argTypes := #[sT, xT] })
    (h : (Builtin.append_ #[sT, xT] o.type #[a.eval xo, a.eval yo]).run P w = .ok r w') : (execOp a.eval o).run P w = .ok (.value r) w' := by
  simp only [execOp, ho, resolve, invoke, builtin, Sem.run_bind, Sem.run_pure, Result.andThen_ok, List.map_toArray, List.map_cons, List.map_nil, h]

/-- A block that nobody owns becomes a list's. -/
theorem SRel.adopt (h : SRel P bl w μ Pr) {b : B} {c : CB} (hnd : c.own.Nodup) (hown : ∀ k ∈ c.own, k ∉ owns μ ∧ ¬ Pr k ∧ k < w.heap.size) (hB : BRel P w Pr (view (bl ++ [b]) (μ ++ [c])) b c) :
    SRel P (bl ++ [b]) w (μ ++ [c]) Pr := by
  refine ⟨by simp [h.mu], fun id x y hx hy => ?_, ?_, fun k hk => ?_, h.pr⟩
  · by_cases hid : id < bl.length
    · rw [List.getElem?_append_left hid] at hx
      rw [List.getElem?_append_left (by rw [h.mu]; exact hid)] at hy
      exact (h.blks id x y hx hy).mono P (fun _ h => h) (fun k hk => rfl) (fun k hk => rfl) (fun i _ hne => view_push h.mu hne)
    · have hid2 : id = bl.length := by
        have := (List.getElem?_eq_some_iff.1 hx).1; simp at this; omega
      subst hid2
      rw [List.getElem?_append_right (Nat.le_refl _)] at hx
      rw [List.getElem?_append_right (by rw [h.mu]; exact Nat.le_refl _)] at hy
      simp [h.mu] at hx hy
      subst hx; subst hy
      exact hB
  · rw [owns_append, owns_one, List.nodup_append]
    exact ⟨h.nodup, hnd, fun x hx y hy hxy => by subst hxy; exact (hown x hy).1 hx⟩
  · rw [owns_append, owns_one] at hk
    rcases List.mem_append.1 hk with hk | hk
    · exact h.lt k hk
    · exact ⟨(hown k hk).2.2, (hown k hk).2.1⟩

theorem apply_kill1 (s : St) (dst : Option Nat) (v : V) (id : Nat) (k : KK) (b : B) (hb : id < s.blks.length) :
    ({ putP dst v with bsets := [(id, b)], kill := [(id, k)] } : Patch).apply s = setSlot ⟨s.slots.map (kill1 id k), (s.blks.map (killB id k)).set id b⟩ dst v := by
  cases dst <;> simp [putP, Patch.apply, setAll, modAll, setSlot, St.kill]

theorem emp_val {b : Bool} {v : Value} (h : VRel P w Pr vw (.emp b) v) : ∃ q, v = hdr (.zero q) 0 := by
  cases b
  · obtain ⟨q, hq⟩ := h; exact ⟨q, hq⟩
  · exact ⟨none, h⟩

theorem ownR_cut {e wd n m : Nat} {h : H} {cs : List Value} (ho : OwnR w e wd h n cs) (hm : m ≤ n) : OwnR w e wd h m (cs.take (m * wd)) := by
  cases h with
  | zero a => obtain ⟨rfl, rfl⟩ := ho; exact ⟨by omega, by simp⟩
  | row b cap =>
    have hle : m * wd ≤ n * wd := Nat.mul_le_mul_right _ hm
    refine ⟨by rw [List.length_take, ho.1]; omega, ?_⟩
    rcases ho.2 with ⟨hv, _⟩ | ⟨g, c, cur, hv, hbg, hg, hnc, hcm, hcz, htake⟩
    · simp at hv
    · simp at hv
      obtain ⟨rfl, rfl⟩ := hv
      refine .inr ⟨b, cap, cur, rfl, hbg, hg, by omega, hcm, hcz, ?_⟩
      rw [← htake, List.take_take, Nat.min_eq_left hle]

theorem rows_cut {wd : Nat} {xs : List D} {cs : List Value} (h : Rows' w Pr wd xs cs) (m : Nat) : Rows' w Pr wd (xs.take m) (cs.take (m * wd)) := by
  refine ⟨fun u hu => h.1 u (List.mem_of_mem_take hu), fun i x hx => ?_⟩
  rw [List.getElem?_take] at hx
  split at hx
  · rename_i him
    obtain ⟨h1, h2⟩ := h.2 i x hx
    refine ⟨h1, fun j y hy => ?_⟩
    obtain ⟨u, g1, g2⟩ := h2 j y hy
    have hj : j < wd := by rw [← h1]; exact (List.getElem?_eq_some_iff.1 hy).1
    have : (i + 1) * wd ≤ m * wd := Nat.mul_le_mul_right _ him
    rw [Nat.add_mul] at this
    exact ⟨u, by rw [List.getElem?_take_of_lt (by omega)]; exact g1, g2⟩
  · cases hx

theorem goes_appendTo {o : Oper} {xo yo : Operand} {sT xT e : TypeId} {id n : Nat} {xs ys : List D} {i : TypeInfo} {z : Value} {news cs : List Value} {hh : H} {Q : Exit → Act → World → Prop} (hR : Rel P s a w μ Pr)
    (ho : o.op = .call { callee := .builtin .append, args := #[xo, yo], argTypes := #[sT, xT] }) (he : elemOf P sT = some e) (hi : P.info? e = some i) (hiz : i.zero = some z) (hzs : z.cells.size = i.size) (hsz : 0 < i.size)
    (hz : szOf P e = some i.size) (hbytes : maxItems * i.bytes ≤ 140737488355328) (hsrc : Src P i.size xT (a.eval yo) ys.length news w)
    (hnews : ∀ k y, ys[k]? = some y → y.cells.length = i.size ∧ ∀ j d, y.cells[j]? = some d → ∃ u, news[k * i.size + j]? = some u ∧ DRel w Pr d u)
    (hbs : s.blks[id]? = some (.lst e xs)) (hn : n ≤ xs.length) (g1 : μ[id]? = some (.lst hh)) (g4 : OwnR w e i.size hh xs.length cs) (g5 : Rows' w Pr i.size xs cs) (k2 : a.eval xo = hdr hh n) (hm : n + ys.length ≤ maxItems) :
    o.wp P a w (After P (({ putP o.dst (.arr id) with bsets := [(id, .lst e (xs.take n ++ ys))], kill := [(id, .gone)] } : Patch).apply s) μ Pr w) Q := by
  have g4' := ownR_cut g4 hn
  have g5' := rows_cut g5 n
  have hxl : (xs.take n).length = n := by rw [List.length_take]; omega
  obtain ⟨hh', w', hrun, hown, hS, hor⟩ := append_row (ty := o.type) (elemOf_und he) hi hiz hzs hsz g4' g5'.1 hsrc hm hbytes
  rw [← k2] at hrun
  have hnp : ∀ b, b ∈ hh.own → ¬ Pr b := fun b hb => (hR.lt b (List.mem_flatMap.2 ⟨_, List.mem_of_getElem? g1, hb⟩)).2
  have hpw : ∀ b, Pr b → w'.heap[b]? = w.heap[b]? := hS.pr hR.pr hnp
  have hlt := (List.getElem?_eq_some_iff.1 hbs).1
  have hmt : id < μ.length := (List.getElem?_eq_some_iff.1 g1).1
  have hl : (xs.take n ++ ys).length = n + ys.length := by rw [List.length_append, hxl]
  have key := hR.setList (k := .gone) (b' := .lst e (xs.take n ++ ys)) (c' := .lst hh') hbs g1 (by simp [vwOf]) (by simp) hS hh'.own_nodup (fun q hq => by
    rcases hor with rfl | ⟨cap, rfl, hlt⟩
    · exact .inl hq
    · simp [CB.own, H.own] at hq; exact .inr (by omega)) (by simp)
    ⟨i.size, cs.take (n * i.size) ++ news, hz, by rw [hl]; exact hown, rows_append (by rw [hxl]; exact ownR_len g4') (g5'.mono (fun _ h => h) hpw) hsrc.one (fun k y hy => ⟨(hnews k y hy).1, fun j d hd => by
      obtain ⟨u, q1, q2⟩ := (hnews k y hy).2 j d hd
      exact ⟨u, q1, q2.mono (fun _ h => h) hpw⟩⟩)⟩
  unfold Oper.wp
  rw [exec_append ho hrun]
  refine ⟨_, Pr, ?_, key.2, .set g1 (by simp)⟩
  rw [apply_kill1 _ _ _ _ _ _ hlt]
  exact key.1.setSlot P _ (show VRel0 P w' Pr _ (.arr id) _ from .inl ⟨_, _, hh', view_killSet_self hlt hmt, by rw [hl]⟩)

/-- The list of lists without one of them. -/
theorem lst2_own_set {b cap : Nat} {inner : List H} {i : Nat} : ∀ q ∈ (CB.lst2 b cap (inner.set i (.zero none))).own, q ∈ (CB.lst2 b cap inner).own := by
  intro q hq
  simp only [CB.own, List.mem_cons, List.mem_flatMap] at hq ⊢
  refine hq.imp_right fun ⟨h, hh, hq⟩ => ?_
  rcases List.mem_or_eq_of_mem_set hh with h1 | rfl
  · exact ⟨h, h1, hq⟩
  · simp [H.own] at hq

theorem flat_set_nodup {i : Nat} {h0 : H} (h1 : H) : ∀ {inner : List H} {i : Nat}, (inner.flatMap H.own).Nodup → inner[i]? = some h0 → h1.own.Nodup → (∀ q ∈ h1.own, q ∈ h0.own ∨ q ∉ inner.flatMap H.own) → ((inner.set i h1).flatMap H.own).Nodup
  | [], i, _, hi, _, _ => by simp at hi
  | x :: r, 0, h, hi, hn, hq => by
    simp at hi; subst hi
    rw [List.flatMap_cons, List.nodup_append] at h
    show ((h1 :: r).flatMap H.own).Nodup
    rw [List.flatMap_cons, List.nodup_append]
    refine ⟨hn, h.2.1, fun p hp p' hp' e => ?_⟩
    subst e
    rcases hq p hp with h2 | h2
    · exact h.2.2 p h2 p hp' rfl
    · exact h2 (by rw [List.flatMap_cons]; exact List.mem_append_right _ hp')
  | x :: r, i + 1, h, hi, hn, hq => by
    rw [List.flatMap_cons, List.nodup_append] at h
    show ((x :: r.set i h1).flatMap H.own).Nodup
    rw [List.flatMap_cons, List.nodup_append]
    refine ⟨h.1, flat_set_nodup (i := i) h1 h.2.1 (by simpa using hi) hn (fun q hq1 => (hq q hq1).imp_right fun h2 h3 => h2 (by rw [List.flatMap_cons]; exact List.mem_append_right _ h3)), fun p hp p' hp' e => ?_⟩
    subst e
    obtain ⟨y, hy, hpy⟩ := List.mem_flatMap.1 hp'
    rcases List.mem_or_eq_of_mem_set hy with h2 | rfl
    · exact h.2.2 p hp p (List.mem_flatMap.2 ⟨y, h2, hpy⟩) rfl
    · rcases hq p hpy with h2 | h2
      · exact h.2.2 p hp p (List.mem_flatMap.2 ⟨h0, List.mem_of_getElem? (by simpa using hi), h2⟩) rfl
      · exact h2 (by rw [List.flatMap_cons]; exact List.mem_append_left _ hp)

theorem flat_apart : ∀ {inner : List H} {i j : Nat} {h1 h2 : H}, (inner.flatMap H.own).Nodup → i ≠ j → inner[i]? = some h1 → inner[j]? = some h2 → ∀ q ∈ h1.own, q ∉ h2.own
  | [], i, j, _, _, _, _, hi, _ => by simp at hi
  | x :: r, i, j, h1, h2, h, hij, hi, hj => by
    rw [List.flatMap_cons, List.nodup_append] at h
    intro q hq hq2
    cases i with
    | zero =>
      simp at hi; subst hi
      cases j with
      | zero => exact hij rfl
      | succ j => exact h.2.2 q hq q (List.mem_flatMap.2 ⟨h2, List.mem_of_getElem? (by simpa using hj), hq2⟩) rfl
    | succ i =>
      cases j with
      | zero => simp at hj; subst hj; exact h.2.2 q hq2 q (List.mem_flatMap.2 ⟨h1, List.mem_of_getElem? (by simpa using hi), hq⟩) rfl
      | succ j => exact flat_apart (i := i) (j := j) h.2.1 (by omega) (by simpa using hi) (by simpa using hj) q hq hq2

/-- References that stay when an inner list goes. -/
theorem inner_stay {id st b cap : Nat} {lens lens' : List (Option Nat)} {inner inner' : List H} {vw vw' : Nat → Option VW} (h1 : vw id = some (.lst2 st lens b cap inner)) (h2 : vw' id = some (.lst2 st lens' b cap inner')) (hl : lens'.length = lens.length) :
    ∀ v u, (∀ j, v ≠ .inn id j) → (∀ j n, v ≠ .iptr id j n) → ids0 v = [id] → VRel0 P w Pr vw v u → VRel0 P w' Pr' vw' v u := by
  intro v u n1 n2 hi h
  cases v <;> simp only [ids0] at hi <;> first | (cases hi; done) | skip
  · obtain rfl : id = _ := by simpa using hi.symm
    rcases h with ⟨e, n, h', k1, k2⟩ | ⟨s', l', b', c', i', k1, k2⟩
    · rw [h1] at k1; cases k1
    · rw [h1] at k1; cases k1; exact .inr ⟨_, _, _, _, _, h2, by rw [hl]; exact k2⟩
  · rename_i i j; obtain rfl : id = i := by simpa using hi.symm
    exact (n1 _ rfl).elim
  · rename_i i lo n; obtain rfl : id = i := by simpa using hi.symm
    obtain ⟨e, len, h', wd, a, cap, k1, _⟩ := h
    rw [h1] at k1; cases k1
  · rename_i i off; obtain rfl : id = i := by simpa using hi.symm
    obtain ⟨b', k1, _⟩ := h
    rw [h1] at k1; cases k1
  · rename_i i k sub; obtain rfl : id = i := by simpa using hi.symm
    rcases h with ⟨e', n, b, cap, wd, k1, _⟩ | ⟨s', l', b', c', i', k1, k2, k3, k4⟩
    · rw [h1] at k1; cases k1
    · rw [h1] at k1; cases k1; exact .inr ⟨_, _, _, _, _, h2, by rw [hl]; exact k2, k3, k4⟩
  · rename_i i j n; obtain rfl : id = i := by simpa using hi.symm
    exact (n2 _ _ rfl).elim

theorem apply_kill_push (s : St) (dst : Option Nat) (v : V) (id : Nat) (k : KK) (b b2 : B) :
    ({ putP dst v with bsets := [(id, b)], push := [b2], kill := [(id, k)] } : Patch).apply s = setSlot ⟨s.slots.map (kill1 id k), (s.blks.map (killB id k)).set id b ++ [b2]⟩ dst v := by
  cases dst <;> simp [putP, Patch.apply, setAll, modAll, setSlot, St.kill]

theorem inner_get {id i st : Nat} {xss : List (Option (List D))} {xs : List D} {sc0 sc1 : Script} (hb : s.blk id = .lst2 st xss) (h : Hold O s (items (.inn id i)) sc0 xs sc1) : xss[i]? = some (some xs) := by
  simp only [items, hold_blk, hb] at h
  rw [hold_pop] at h
  rcases h with ⟨_, h⟩ | ⟨it, u, _, h⟩
  · simp only at h
    split at h
    · rename_i ys hy; rw [(hold_ret.1 h).1]; exact hy
    · exact (hold_fail.1 h).elim
  · split at h
    · obtain ⟨h1, h⟩ := hold_req.1 h; rw [(hold_ret.1 h).1]; exact h1
    · exact (hold_fail.1 h).elim
    · rename_i hno; cases hno

theorem goes_appendInner {o : Oper} {xo yo : Operand} {sT xT e st : TypeId} {id i0 : Nat} {xs ys : List D} {xss : List (Option (List D))} {i : TypeInfo} {z : Value} {news : List Value} {Q : Exit → Act → World → Prop} (hR : Rel P s a w μ Pr)
    (ho : o.op = .call { callee := .builtin .append, args := #[xo, yo], argTypes := #[sT, xT] }) (he : elemOf P sT = some e) (hi : P.info? e = some i) (hiz : i.zero = some z) (hzs : z.cells.size = i.size) (hsz : 0 < i.size)
    (hz : szOf P e = some i.size) (hbytes : maxItems * i.bytes ≤ 140737488355328) (hsrc : Src P i.size xT (a.eval yo) ys.length news w)
    (hnews : ∀ k y, ys[k]? = some y → y.cells.length = i.size ∧ ∀ j d, y.cells[j]? = some d → ∃ u, news[k * i.size + j]? = some u ∧ DRel w Pr d u)
    (hbs : s.blks[id]? = some (.lst2 st xss)) (hst : elemOf P st = some e) (hxs : xss[i0]? = some (some xs)) (hx : VRel P w Pr (view s.blks μ) (.inn id i0) (a.eval xo)) (hm : xs.length + ys.length ≤ maxItems) :
    o.wp P a w (After P (({ putP o.dst (.arr s.blks.length) with bsets := [(id, .lst2 st (xss.set i0 none))], push := [.lst e (xs ++ ys)], kill := [(id, .inner)] } : Patch).apply s) μ Pr w) Q := by
  obtain ⟨c, g1, g2, g3⟩ := hR.toSRel.at hbs
  obtain ⟨s', lens, b, cap, inner, n, hh, k1, k2, k3, k4⟩ := hx
  rw [g3] at k1
  cases c with
  | lst2 b' cap' inner' =>
    simp only [vwOf, Option.some.injEq, VW.lst2.injEq] at k1
    obtain ⟨rfl, rfl, rfl, rfl, rfl⟩ := k1
    obtain ⟨cur, e', wd, q1, q2, q3, q4, q5, q6, q7, q8, q9, q10⟩ := g2
    rw [hst] at q7; cases q7
    rw [hz] at q8; cases q8
    obtain ⟨r1, cs, r2, r3⟩ := q10 i0 xs hh hxs k3
    have hn : n = xs.length := by
      rw [List.getElem?_map, hxs] at k2; simpa using k2.symm
    subst hn
    obtain ⟨hh', w', hrun, hown, hS, hor⟩ := append_row (ty := o.type) (elemOf_und he) hi hiz hzs hsz r2 r3.1 hsrc hm hbytes
    rw [← k4] at hrun
    have hco : ∀ q ∈ (CB.lst2 b' cap' inner').own, q ∈ owns μ := fun q hq => List.mem_flatMap.2 ⟨_, List.mem_of_getElem? g1, hq⟩
    have hin : ∀ q ∈ hh.own, q ∈ (CB.lst2 b' cap' inner').own := fun q hq => by
      simp only [CB.own, List.mem_cons, List.mem_flatMap]
      exact .inr ⟨_, List.mem_of_getElem? k3, hq⟩
    have hcn : (b' :: inner'.flatMap H.own).Nodup := own_nodup hR.nodup g1
    rw [List.nodup_cons] at hcn
    have hpw : ∀ q, Pr q → w'.heap[q]? = w.heap[q]? := hS.pr hR.pr (fun q hq => (hR.lt q (hco q (hin q hq))).2)
    have hlt := (List.getElem?_eq_some_iff.1 hbs).1
    have hmt : id < μ.length := (List.getElem?_eq_some_iff.1 g1).1
    have hother : ∀ (j : Nat) (h2 : H), j ≠ i0 → inner'[j]? = some h2 → ∀ q ∈ h2.own, q ∉ hh.own := by
      intro j h2 hj hj2 q hq hq2
      have := hcn.2
      exact flat_apart this hj hj2 k3 q hq hq2
    have hB : BRel P w' Pr (view ((s.blks.map (killB id .inner)).set id (.lst2 st (xss.set i0 none))) (μ.set id (.lst2 b' cap' (inner'.set i0 (.zero none))))) (.lst2 st (xss.set i0 none)) (.lst2 b' cap' (inner'.set i0 (.zero none))) := by
      refine ⟨cur, e, i.size, ?_, by simpa using q2, q3, q4, by simp [q5], q6, hst, hz, q9, fun j ys2 h2 hj hj2 => ?_⟩
      · rw [hS.block b' (hR.lt b' (hco b' (by simp [CB.own]))).1 (fun hm => hcn.1 (List.mem_flatMap.2 ⟨_, List.mem_of_getElem? k3, hm⟩))]; exact q1
      · rw [List.getElem?_set] at hj hj2
        by_cases hji : i0 = j
        · subst hji
          rw [if_pos rfl] at hj
          split at hj <;> cases hj
        · rw [if_neg hji] at hj hj2
          obtain ⟨p1, cs2, p2, p3⟩ := q10 j ys2 h2 hj hj2
          refine ⟨p1, cs2, ownR_same (fun q hq => hS.block q (hR.lt q (hco q ?_)).1 (hother j h2 (fun e => hji e.symm) hj2 q hq)) p2, p3.mono (fun _ h => h) hpw⟩
          simp only [CB.own, List.mem_cons, List.mem_flatMap]
          exact .inr ⟨_, List.mem_of_getElem? hj2, hq⟩
    have hsub : ∀ q ∈ owns (μ.set id (.lst2 b' cap' (inner'.set i0 (.zero none)))), q ∈ owns μ ∧ q ∉ hh.own := by
      intro q hq
      rcases mem_owns_set hq with h1 | ⟨j, d, hj, hd, hqd⟩
      · refine ⟨hco q (lst2_own_set q h1), fun hqh => ?_⟩
        simp only [CB.own, List.mem_cons, List.mem_flatMap] at h1
        rcases h1 with rfl | ⟨h2, hm2, hq2⟩
        · exact hcn.1 (List.mem_flatMap.2 ⟨_, List.mem_of_getElem? k3, hqh⟩)
        · obtain ⟨j, hj⟩ := List.getElem?_of_mem hm2
          rw [List.getElem?_set] at hj
          by_cases hji : i0 = j
          · subst hji
            rw [if_pos rfl] at hj
            split at hj
            · cases hj; simp [H.own] at hq2
            · cases hj
          · rw [if_neg hji] at hj
            exact hother j h2 (fun e => hji e.symm) hj q hq2 hqh
      · exact ⟨List.mem_flatMap.2 ⟨d, List.mem_of_getElem? hd, hqd⟩, fun hqh => nodup_own hR.nodup j id d _ hd g1 hj q hqd (hin q hqh)⟩
    have hev : Evo (owns μ) Pr w (owns (μ.set id (.lst2 b' cap' (inner'.set i0 (.zero none))))) Pr w' :=
      ⟨hS.os, hS.tape, hS.output, hS.size, fun q hq hno => hS.block q hq (fun hm => hno (hco q (hin q hm))), fun q hq => .inl (hsub q hq).1, fun _ h => h, fun _ h => .inl h⟩
    have hnd : (CB.lst2 b' cap' (inner'.set i0 (.zero none))).own.Nodup := by
      show (b' :: (inner'.set i0 (.zero none)).flatMap H.own).Nodup
      rw [List.nodup_cons]
      refine ⟨fun hm => hcn.1 ?_, flat_set_nodup (i := i0) _ hcn.2 k3 (by simp [H.own]) (by simp [H.own])⟩
      have := lst2_own_set (b := b' + 1) (cap := cap') (inner := inner') (i := i0) b' (by simp only [CB.own]; exact List.mem_cons_of_mem _ hm)
      simp only [CB.own, List.mem_cons] at this
      exact this.resolve_left (by omega)
    have hA := hR.killSet (k := .inner) hbs g1 (by simp [vwOf]) hev (fun q hq hqc => hS.block q (hR.lt q hq).1 (fun hm => hqc (hin q hm))) (by simp)
      (fun _ => inner_stay g3 (view_killSet_self hlt hmt) (by simp)) hB (nodup_owns_set hR.nodup g1 hnd fun q hq => .inl (lst2_own_set q hq)) (fun q hq => ⟨Nat.lt_of_lt_of_le (hR.lt q (hsub q hq).1).1 hS.size, (hR.lt q (hsub q hq).1).2⟩)
      (fun q hq => Nat.lt_of_lt_of_le (hR.pr q hq) hS.size)
    have hh'own : ∀ q ∈ hh'.own, (q ∈ hh.own) ∨ (w.heap.size ≤ q ∧ q < w'.heap.size) := by
      intro q hq
      rcases hor with rfl | ⟨cap, rfl, hlt⟩
      · exact .inl hq
      · simp [H.own] at hq; exact .inr (by omega)
    have hl : (xs ++ ys).length = xs.length + ys.length := by simp
    have hSA := hA.toSRel.adopt (b := .lst e (xs ++ ys)) (c := .lst hh') hh'.own_nodup (fun q hq => by
      rcases hh'own q hq with h1 | h1
      · exact ⟨fun hm => (hsub q hm).2 h1, (hR.lt q (hco q (hin q h1))).2, Nat.lt_of_lt_of_le (hR.lt q (hco q (hin q h1))).1 hS.size⟩
      · exact ⟨fun hm => by have := (hR.lt q (hsub q hm).1).1; omega, fun hp => by have := hR.pr q hp; omega, h1.2⟩)
      ⟨i.size, cs ++ news, hz, by rw [hl]; exact hown, rows_append (ownR_len r2) (r3.mono (fun _ h => h) hpw) hsrc.one (fun k y hy => ⟨(hnews k y hy).1, fun j d hd => by
        obtain ⟨u, p1, p2⟩ := (hnews k y hy).2 j d hd
        exact ⟨u, p1, p2.mono (fun _ h => h) hpw⟩⟩)⟩
    have hblen : ((s.blks.map (killB id .inner)).set id (.lst2 st (xss.set i0 none))).length = s.blks.length := by simp
    unfold Oper.wp
    rw [exec_append ho hrun]
    refine ⟨μ.set id (.lst2 b' cap' (inner'.set i0 (.zero none))) ++ [.lst hh'], Pr, ?_, ⟨hS.os, hS.tape, hS.output, hS.size, hev.block, fun q hq => ?_, fun _ h => h, fun _ h => .inl h⟩, .trans (.set g1 (by simp)) (.push _ [.lst hh'])⟩
    · rw [apply_kill_push]
      have hR2 : Rel P ⟨s.slots.map (kill1 id .inner), (s.blks.map (killB id .inner)).set id (.lst2 st (xss.set i0 none)) ++ [.lst e (xs ++ ys)]⟩ a w' (μ.set id (.lst2 b' cap' (inner'.set i0 (.zero none))) ++ [.lst hh']) Pr :=
        ⟨hSA, hA.defers, hA.len, fun n v hn => (hA.slots n v hn).mono P (fun _ h => h) (fun _ _ => rfl) (fun j _ hne => view_push hA.mu hne)⟩
      refine hR2.setSlot P _ (show VRel0 P w' Pr _ (.arr s.blks.length) _ from .inl ⟨e, (xs ++ ys).length, hh', ?_, by rw [hl]⟩)
      have := view_last (b := .lst e (xs ++ ys)) (c := .lst hh') hA.mu
      rw [hblen] at this
      exact this
    · rw [owns_append, owns_one] at hq
      rcases List.mem_append.1 hq with hq | hq
      · exact .inl (hsub q hq).1
      · exact (hh'own q hq).imp (fun h => hco q (hin q h)) (fun h => h.1)
  | _ => simp [vwOf] at k1

theorem goes_append {o : Oper} {xo yo : Operand} {sT xT : TypeId} {x y : V} {ys : List D} {p : Patch} {sc0 sc1 : Script} {Q : Exit → Act → World → Prop} (hR : Rel P s a w μ Pr)
    (ho : o.op = .call { callee := .builtin .append, args := #[xo, yo], argTypes := #[sT, xT] }) (hk : (∃ e', P.underlying xT = some (.slice e')) ∨ P.underlying xT = some .string)
    (hx : VRel P w Pr (view s.blks μ) x (a.eval xo)) (hy : VRel P w Pr (view s.blks μ) y (a.eval yo)) (h1 : Hold O s (items y) sc0 ys sc1) (h : Hold O s (appendQ P o.dst sT x ys) sc p sc') :
    o.wp P a w (After P (p.apply s) μ Pr w) Q := by
  unfold appendQ at h
  split at h
  · rename_i e he
    split at h
    · rename_i sz hz
      split at h
      · exact (hold_fail.1 h).elim
      · rename_i hrow
        simp only [Bool.not_eq_false] at hrow
        obtain ⟨i, z, hi, hiz, hzs, hsz, hzi, hbytes⟩ := rowOk_ok hrow
        rw [hz] at hzi; cases hzi
        replace h := widthsQ_ok h
        obtain ⟨hw, sc2, h⟩ := h
        obtain ⟨news, hsrc, hnews⟩ := src_of_items hR.toSRel hk hy h1 hw hsz
        split at h
        · -- an empty one
          obtain ⟨hm, sc3, h⟩ := roomQ_ok h
          rw [hold_nblk] at h
          obtain ⟨rfl, _⟩ := hold_ret.1 h
          obtain ⟨q, hq⟩ := emp_val hx
          obtain ⟨hh', w', hrun, hown, hS, hor⟩ := append_row (ty := o.type) (elemOf_und he) hi hiz hzs hsz (hh := .zero q) (n := 0) (cs := []) ⟨rfl, rfl⟩ (by simp) hsrc (by omega) hbytes
          rw [← hq] at hrun
          have hsame : ∀ k, k < w.heap.size → w'.heap[k]? = w.heap[k]? := fun k hk => hS.block k hk (by simp [H.own])
          have hpw : ∀ b, Pr b → w'.heap[b]? = w.heap[b]? := fun b hb => hsame b (hR.pr b hb)
          have hownq : ∀ k ∈ hh'.own, w.heap.size ≤ k ∧ k < w'.heap.size := by
            intro k hk
            rcases hor with rfl | ⟨cap, rfl, hlt⟩
            · simp [H.own] at hk
            · simp [H.own] at hk; omega
          simp only [Nat.zero_add, List.nil_append] at hown hrun
          refine goes_push (w' := w') (c := .lst hh') (x := hdr hh' ys.length) hR hS.os hS.tape hS.output hS.size hsame hh'.own_nodup hownq ⟨i.size, news, hz, hown, hsrc.one, fun k y hy => ⟨(hnews k y hy).1, fun j d hd => ?_⟩⟩ (exec_append ho hrun)
            (show VRel0 P w' Pr _ (.arr s.blks.length) _ from .inl ⟨e, ys.length, hh', view_last hR.mu, rfl⟩)
          obtain ⟨u, g1, g2⟩ := (hnews k y hy).2 j d hd
          exact ⟨u, g1, g2.mono (fun _ h => h) hpw⟩
        · -- a list
          rename_i id
          rw [hold_blk] at h
          split at h
          · rename_i e' xs hb
            split at h
            · rename_i hee; rw [hee] at hb; clear hee
              replace h := roomQ_ok h
              obtain ⟨hm, sc3, h⟩ := h
              obtain ⟨rfl, _⟩ := hold_ret.1 h
              have hbs := blk_some hb (by simp)
              obtain ⟨hh, wd, cs, g1, g2, g3, g4, g5⟩ := hR.toSRel.lst hbs
              rw [hz] at g3; cases g3
              rcases hx with ⟨e', n, h', k1, k2⟩ | ⟨s', lens, b, cap, inner, k1, k2⟩
              · rw [g2] at k1; cases k1
                have := goes_appendTo (Q := Q) hR ho he hi hiz hzs hsz hz hbytes hsrc hnews hbs (Nat.le_refl _) g1 g4 g5 k2 hm
                rwa [List.take_length] at this
              · rw [g2] at k1; cases k1
            · exact (hold_fail.1 h).elim
          · exact (hold_fail.1 h).elim
        · -- a list that is cut
          rename_i id n
          rw [hold_blk] at h
          split at h
          · rename_i e' xs hb
            split at h
            · rename_i hee; rw [hee] at hb; clear hee
              replace h := roomQ_ok h
              obtain ⟨hm, sc3, h⟩ := h
              obtain ⟨rfl, _⟩ := hold_ret.1 h
              have hbs := blk_some hb (by simp)
              obtain ⟨hh, wd, cs, g1, g2, g3, g4, g5⟩ := hR.toSRel.lst hbs
              rw [hz] at g3; cases g3
              obtain ⟨e', len, h', wd', a', cap, k1, k2, k3, k4, k5, k6, k7⟩ := hx
              rw [g2] at k1; cases k1
              exact goes_appendTo hR ho he hi hiz hzs hsz hz hbytes hsrc hnews hbs (by omega) g1 g4 g5 (k7 rfl) hm
            · exact (hold_fail.1 h).elim
          · exact (hold_fail.1 h).elim
        · -- an inner list
          rename_i id i0
          rw [hold_blk] at h
          split at h
          · rename_i st xss hb
            split at h
            · rename_i hst
              replace h := hold_bind.1 h
              obtain ⟨xs, sc4, h4, h⟩ := h
              replace h := roomQ_ok h
              obtain ⟨hm, sc3, h⟩ := h
              rw [hold_nblk] at h
              obtain ⟨rfl, _⟩ := hold_ret.1 h
              exact goes_appendInner hR ho he hi hiz hzs hsz hz hbytes hsrc hnews (blk_some hb (by simp)) hst (inner_get hb h4) hx hm
            · exact (hold_fail.1 h).elim
          · exact (hold_fail.1 h).elim
        · exact (hold_fail.1 h).elim
    · exact (hold_fail.1 h).elim
  · exact (hold_fail.1 h).elim

end Go.Proofs.Ytbbefbgomdmldaa.Ab
