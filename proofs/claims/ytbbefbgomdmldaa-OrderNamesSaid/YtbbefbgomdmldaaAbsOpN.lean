/- New slices. -/
import Derived.Test.YtbbefbgomdmldaaAbsOpM
namespace Go.Proofs.Ytbbefbgomdmldaa.Ab
open Go
set_option linter.unusedVariables false
set_option linter.unusedSimpArgs false

variable {P : Program} {O : Orc} {s : St} {sc sc' : Script} {w w' : World} {Pr Pr' : Nat → Prop} {vw vw' : Nat → Option VW} {bl : List B} {μ : List CB} {a : Act}

theorem map_range_period {α : Type} (m : Nat) (f : Nat → α) (hf : ∀ i, f (i + m) = f i) : ∀ n : Nat, (List.range (n * m)).map f = (List.replicate n ((List.range m).map f)).flatten
  | 0 => by simp
  | n + 1 => by
    rw [Nat.add_mul, Nat.one_mul, Nat.add_comm, List.range_add, List.map_append, List.replicate_succ, List.flatten_cons, ← map_range_period m f hf n, List.map_map]
    congr 1
    apply List.map_congr_left
    intro i _
    simp only [Function.comp]
    rw [Nat.add_comm]
    exact hf i

theorem map_range_self (z : Array Value) : (List.range z.size).map (fun i => z[i % z.size]!) = z.toList := by
  apply List.ext_getElem?
  intro k
  by_cases hk : k < z.size
  · simp [hk, Nat.mod_eq_of_lt hk]
  · rw [List.getElem?_eq_none (by simp; omega), List.getElem?_eq_none (by simp; omega)]

theorem zero_cells (z : Array Value) (n : Nat) : ((Array.range (n * z.size)).map (fun i => z[i % z.size]!)).toList = (List.replicate n z.toList).flatten := by
  rw [Array.toList_map, Array.toList_range, map_range_period z.size _ (fun i => by rw [Nat.add_mod_right]) n, map_range_self]

theorem zeroD_ok {e : TypeId} {z : D} (h : zeroD P e = some z) : ∃ zv : Value, (zeroValue e).run P w = .ok zv w ∧ z.cells.length = zv.cells.size ∧ (∀ u ∈ zv.cells.toList, u.oneCell' = true) ∧
    ∀ (j : Nat) (y : D), z.cells[j]? = some y → ∃ u, zv.cells[j]? = some u ∧ DRel w Pr y u := by
  unfold zeroD at h
  split at h
  · rename_i cs hz
    obtain ⟨zv, hr, hall⟩ := zeroC_ok (P := P) (w := w) (Pr := Pr) (vw := fun _ => none) hz
    have hone : ∀ u ∈ zv.cells.toList, u.oneCell' = true := fun u hu => by
      obtain ⟨j, hj⟩ := List.getElem?_of_mem hu
      have hlt : j < cs.length := by rw [hall.length]; exact (List.getElem?_eq_some_iff.1 hj).1
      obtain ⟨y, hy, h1⟩ := hall.get j cs[j] (List.getElem?_eq_getElem hlt)
      rw [hj] at hy; cases hy; exact h1.2
    have hl := hall.length
    simp only [Array.length_toList] at hl
    refine ⟨zv, hr, ?_⟩
    split at h
    · obtain ⟨ds, hd, rfl⟩ := Option.map_eq_some_iff.1 h
      have hds := allD_ok hd
      have hdl : ds.length = cs.length := by have := congrArg List.length hds; simpa using this.symm
      refine ⟨by simp only [D.cells]; omega, hone, fun j y hy => ?_⟩
      simp only [D.cells] at hy
      have hjl : j < cs.length := by have := (List.getElem?_eq_some_iff.1 hy).1; omega
      obtain ⟨u, hu, h1, _⟩ := hall.get j cs[j] (List.getElem?_eq_getElem hjl)
      refine ⟨u, by rw [← Array.getElem?_toList]; exact hu, ?_⟩
      have he : empD cs[j] = V.d y := by
        have := congrArg (fun l : List V => l[j]?) hds
        simpa [hjl, hy] using this
      generalize cs[j] = c at he h1
      cases c with
      | emp b =>
        simp [empD] at he; subst he
        obtain ⟨q, rfl⟩ := emp_val (P := P) (w := w) (Pr := Pr) (vw := fun _ => none) (show VRel P w Pr _ (.emp b) u from VRel0.toV h1)
        exact .sl0 _ _
      | d x => simp [empD] at he; subst he; exact h1
      | _ => simp [empD] at he
    · split at h
      · rename_i x
        cases h
        have hu := hall
        cases hz : zv.cells.toList with
        | nil => rw [hz] at hu; exact hu.elim
        | cons u r =>
          rw [hz] at hu
          cases r with
          | cons _ _ => exact hu.2.elim
          | nil =>
            rw [hz] at hone
            have hx : DRel w Pr z u := hu.1.1
            have hna : z.cells = [z] := by
              cases z with
              | agg ds => obtain ⟨cs', rfl, _⟩ := drel_agg hx; exact absurd hu.1.2 (by simp [Value.oneCell'])
              | _ => rfl
            have hzz : zv.cells = #[u] := by rw [← Array.toList_inj]; exact hz
            refine ⟨by rw [hna, hzz]; rfl, hone, fun j y hy => ?_⟩
            rw [hna] at hy
            cases j with
            | zero => simp at hy; subst hy; exact ⟨u, by rw [hzz]; rfl, hx⟩
            | succ j => simp at hy
      · rename_i b
        cases h
        cases hz : zv.cells.toList with
        | nil => rw [hz] at hall; exact hall.elim
        | cons u r =>
          rw [hz] at hall
          cases r with
          | cons _ _ => exact hall.2.elim
          | nil =>
            obtain ⟨q, hq⟩ := emp_val (P := P) (w := w) (Pr := Pr) (vw := fun _ => none) (show VRel P w Pr _ (.emp b) u from VRel0.toV hall.1.1)
            have hzz : zv.cells = #[u] := by rw [← Array.toList_inj]; exact hz
            refine ⟨by rw [hzz]; rfl, by rw [← hz]; exact hone, fun j y hy => ?_⟩
            cases j with
            | zero => simp [D.cells] at hy; subst hy; exact ⟨u, by rw [hzz]; rfl, by rw [hq]; exact .sl0 _ _⟩
            | succ j => simp [D.cells] at hy
      · cases h
    · cases h
  · cases h

theorem chunk_ok {sz : Nat} (hsz : 0 < sz) : ∀ {n : Nat} {cs : List V} {us : List Value} {xs : List D}, All2 (fun v u => VRel0 P w Pr vw v u ∧ u.oneCell' = true) cs us → us.length = n * sz → chunk sz n cs = some xs →
    xs.length = n ∧ ∀ (i : Nat) (x : D), xs[i]? = some x → x.cells.length = sz ∧ ∀ (j : Nat) (y : D), x.cells[j]? = some y → ∃ u, us[i * sz + j]? = some u ∧ DRel w Pr y u
  | 0, cs, us, xs, hall, hl, h => by simp [chunk] at h; subst h; exact ⟨rfl, by simp⟩
  | n + 1, cs, us, xs, hall, hl, h => by
    rw [Nat.add_mul, Nat.one_mul] at hl
    have hcl := hall.length
    have hfirst : ∀ (ds : List D), allD ((cs.take sz).map empD) = some ds → ds.length = sz ∧ ∀ (j : Nat) (y : D), ds[j]? = some y → ∃ u, us[j]? = some u ∧ DRel w Pr y u ∧ u.oneCell' = true := by
      intro ds hd
      have hds := allD_ok hd
      have hdl : ds.length = sz := by have := congrArg List.length hds; simp at this; omega
      refine ⟨hdl, fun j y hy => ?_⟩
      have hj : j < sz := by rw [← hdl]; exact (List.getElem?_eq_some_iff.1 hy).1
      have hjl : j < cs.length := by omega
      obtain ⟨u, hu, h1, h2⟩ := hall.get j cs[j] (List.getElem?_eq_getElem hjl)
      refine ⟨u, hu, ?_, h2⟩
      have he : empD cs[j] = V.d y := by
        have := congrArg (fun l : List V => l[j]?) hds
        simpa [hjl, hy, hj] using this
      generalize cs[j] = c at he h1
      cases c with
      | emp b =>
        simp [empD] at he; subst he
        obtain ⟨q, rfl⟩ := emp_val (show VRel P w Pr vw (.emp b) u from VRel0.toV h1)
        exact .sl0 _ _
      | d x => simp [empD] at he; subst he; exact h1
      | _ => simp [empD] at he
    have hrest := fun {r : List D} (hr : chunk sz n (cs.drop sz) = some r) => chunk_ok hsz (hall.drop sz) (by simp; omega) hr
    have fin : ∀ {x : D} {r : List D}, chunk sz n (cs.drop sz) = some r → x.cells.length = sz → (∀ (j : Nat) (y : D), x.cells[j]? = some y → ∃ u, us[j]? = some u ∧ DRel w Pr y u) → xs = x :: r →
        xs.length = n + 1 ∧ ∀ (i : Nat) (x : D), xs[i]? = some x → x.cells.length = sz ∧ ∀ (j : Nat) (y : D), x.cells[j]? = some y → ∃ u, us[i * sz + j]? = some u ∧ DRel w Pr y u := by
      intro x r hr h1 h2 hx
      subst hx
      obtain ⟨g1, g2⟩ := hrest hr
      refine ⟨by simp [g1], fun i z hz => ?_⟩
      cases i with
      | zero => simp at hz; subst hz; exact ⟨h1, fun j y hy => by simpa using h2 j y hy⟩
      | succ i =>
        obtain ⟨q1, q2⟩ := g2 i z (by simpa using hz)
        refine ⟨q1, fun j y hy => ?_⟩
        obtain ⟨u, q3, q4⟩ := q2 j y hy
        refine ⟨u, ?_, q4⟩
        rw [List.getElem?_drop] at q3
        rw [← q3]; congr 1; rw [Nat.add_mul]; omega
    simp only [chunk] at h
    split at h
    · rename_i x r hx hr
      obtain ⟨h1, h2⟩ := hfirst _ hx
      have hs1 : sz = 1 := by simpa using h1.symm
      rw [if_pos hs1] at h
      cases h
      obtain ⟨u, g1, g2, g3⟩ := h2 0 x rfl
      have hna : x.cells = [x] := by
        cases x with
        | agg ds => obtain ⟨cs', rfl, _⟩ := drel_agg g2; simp [Value.oneCell'] at g3
        | _ => rfl
      refine fin hr (by rw [hna, hs1]; rfl) (fun j y hy => ?_) rfl
      rw [hna] at hy
      cases j with
      | zero => simp at hy; subst hy; exact ⟨u, g1, g2⟩
      | succ j => simp at hy
    · rename_i ys r hne hx hr
      obtain ⟨h1, h2⟩ := hfirst _ hx
      cases h
      exact fin hr (by simpa [D.cells] using h1) (fun j y hy => by obtain ⟨u, g1, g2, _⟩ := h2 j y (by simpa [D.cells] using hy); exact ⟨u, g1, g2⟩) rfl
    · cases h


/-! ### the operations -/

/-- A new row whose cells are these. -/
theorem goes_newList {o : Oper} {t e sz n : Nat} {xs : List D} {us : Array Value} {Q : Exit → Act → World → Prop} (hR : Rel P s a w μ Pr) (hz : szOf P e = some sz) (hn : n ≤ maxItems) (hxl : xs.length = n) (hul : us.size = n * sz)
    (hone : ∀ u ∈ us.toList, u.oneCell' = true) (hrow : ∀ (i : Nat) (x : D), xs[i]? = some x → x.cells.length = sz ∧ ∀ (j : Nat) (y : D), x.cells[j]? = some y → ∃ u, us.toList[i * sz + j]? = some u ∧ DRel w Pr y u)
    (hrun : (execOp a.eval o).run P w = .ok (.value (.slice (some ⟨w.heap.size, 0, none⟩) n n)) { w with heap := w.heap.push (.cells us e) }) :
    o.wp P a w (After P (({ putP o.dst (.arr s.blks.length) with push := [.lst e xs] } : Patch).apply s) μ Pr w) Q := by
  have hmi : maxItems = 1099511627776 := by decide
  have hml : maxLen = 9223372036854775807 := by decide
  subst hxl
  obtain ⟨w', hw'⟩ : ∃ w' : World, w' = { w with heap := w.heap.push (.cells us e) } := ⟨_, rfl⟩
  have hnew : w'.heap[w.heap.size]? = some (.cells us e (0, 0)) := by rw [hw']; exact heap_push_new
  have hold : ∀ k, k < w.heap.size → w'.heap[k]? = w.heap[k]? := by rw [hw']; exact heap_push_old
  have hown : OwnR w' e sz (.row w.heap.size xs.length) xs.length us.toList :=
    ⟨by simp [hul], .inr ⟨w.heap.size, xs.length, us, rfl, Nat.zero_le _, hnew, Nat.le_refl _, by omega, hul, by rw [← hul, ← Array.length_toList, List.take_length]⟩⟩
  rw [← hw'] at hrun
  refine goes_push (w' := w') (c := .lst (.row w.heap.size xs.length)) hR (by rw [hw']) (by rw [hw']) (by rw [hw']) (by rw [hw']; simp) hold (by simp [CB.own, H.own]) (by rw [hw']; simp [CB.own, H.own])
    ⟨sz, us.toList, hz, hown, hone, fun i x hx => ⟨(hrow i x hx).1, fun j y hy => ?_⟩⟩
    hrun (show VRel0 P w' Pr _ (.arr s.blks.length) _ from .inl ⟨e, xs.length, _, view_last hR.mu, rfl⟩)
  obtain ⟨u, h1, h2⟩ := (hrow i x hx).2 j y hy
  exact ⟨u, h1, h2.mono (fun _ h => h) (fun b hb => hold b (hR.pr b hb))⟩

/-- A new row that is only read. -/
theorem goes_newData {o : Oper} {e sz n : Nat} {xs : List D} {us : Array Value} {Q : Exit → Act → World → Prop} (hR : Rel P s a w μ Pr) (hxl : xs.length = n)
    (hone : ∀ u ∈ us.toList, u.oneCell' = true) (hrow : ∀ (i : Nat) (x : D), xs[i]? = some x → x.cells.length = sz ∧ ∀ (j : Nat) (y : D), x.cells[j]? = some y → ∃ u, us.toList[i * sz + j]? = some u ∧ DRel w Pr y u)
    (hrun : (execOp a.eval o).run P w = .ok (.value (.slice (some ⟨w.heap.size, 0, none⟩) n n)) { w with heap := w.heap.push (.cells us e) }) :
    o.wp P a w (After P ((putP o.dst (.d (.sl xs))).apply s) μ Pr w) Q := by
  subst hxl
  have hq := quiet_new w Pr (.cells us e)
  refine goes_put hR hq hrun (show DRel _ _ (.sl xs) _ from drel_of_reads (Pr' := Pr) (.inr rfl) (Nat.le_refl _) ⟨fun i x hx => (hrow i x hx).1, fun i x j y hx hy => ?_⟩)
  obtain ⟨u, h1, h2⟩ := (hrow i x hx).2 j y hy
  refine ⟨u, ?_, hone u (List.mem_of_getElem? h1), h2.mono hq.prm (fun b hb => hq.block b (hR.pr b hb))⟩
  rw [cell_of_cells (heap_push_new (w := w)), ← Array.getElem?_toList, ← h1]
  congr 1; omega

theorem exec_make {o : Oper} {t e n : Nat} {l c : Operand} {i : TypeInfo} {zv : Value} {kl kc : IntKind} (ho : o.op = .makeSlice t l c) (he : elemOf P t = some e) (hi : P.info? e = some i) (hz : szOf P e = some i.size)
    (hzr : (zeroValue e).run P w = .ok zv w) (hzs : zv.cells.size = i.size) (hsz : 0 < i.size) (hbytes : maxItems * i.bytes ≤ 140737488355328) (hn : n ≤ maxItems) (hl : a.eval l = .int kl (n : Int)) (hc : a.eval c = .int kc (n : Int)) :
    ∃ us : Array Value, us.toList = (List.replicate n zv.cells.toList).flatten ∧ us.size = n * i.size ∧
      (execOp a.eval o).run P w = .ok (.value (.slice (some ⟨w.heap.size, 0, none⟩) n n)) { w with heap := w.heap.push (.cells us e) } := by
  have hmi : maxItems = 1099511627776 := by decide
  have hwr : IntKind.i64.wrap (n : Int) = (n : Int) := by
    simp only [IntKind.wrap, IntKind.signed, IntKind.bits]
    have : (n : Int) < 2 ^ 63 := by omega
    have h2 : (n : Int) % (2 ^ 64 : Int) = n := Int.emod_eq_of_lt (by omega) (by omega)
    simp only [h2]
    rw [if_neg]
    simp; omega
  have hb1 : ¬ ((i.bytes : Int) * (n : Int) > 2 ^ 48) := by
    have h3 : i.bytes * n ≤ maxItems * i.bytes := by rw [Nat.mul_comm]; exact Nat.mul_le_mul_right _ hn
    rw [← Int.natCast_mul]
    generalize i.bytes * n = k at h3 ⊢
    omega
  let us : Array Value := (Array.range (n * zv.cells.size)).map (fun k => zv.cells[k % zv.cells.size]!)
  have husl : us.toList = (List.replicate n zv.cells.toList).flatten := zero_cells zv.cells n
  have hussz : us.size = n * i.size := by
    show ((Array.range (n * zv.cells.size)).map _).size = _
    rw [Array.size_map, Array.size_range, hzs]
  refine ⟨us, husl, hussz, ?_⟩
  have hti : (typeInfo e).run P w = .ok i w := by simp [typeInfo, hi]
  simp only [execOp, ho, hl, hc, Instr.makeSlice, Sem.run_bind, run_und (elemOf_und he), Result.andThen_ok, asInt, asIntOf, Sem.run_pure, hti, hwr]
  rw [if_neg]
  · simp only [Sem.run_pure, Sem.run_bind, run_askRoom, Result.andThen_ok, run_szOf hz, Int.toNat_natCast]
    by_cases hn0 : n * i.size = 0
    · have hn00 : n = 0 := by rcases Nat.mul_eq_zero.1 hn0 with h | h; exact h; omega
      subst hn00
      have h0 : us = #[] := by rw [← Array.toList_inj, husl]; rfl
      have h1 : ∀ f : Nat → Value, Array.map f (Array.range 0) = #[] := fun f => by simp [Array.range]
      rw [if_pos (by simp), h0, Nat.zero_mul]
      simp only [Sem.run_bind, Sem.run_pure, Result.andThen_ok, newRow, run_newObj, h1]
    · rw [if_neg hn0]
      simp only [Sem.run_bind, hzr, Result.andThen_ok, Sem.run_pure, newRow, run_newObj]
      have : n * zv.cells.size = n * i.size := by rw [hzs]
      simp only [us, this]
  · simp only [Bool.or_eq_true, decide_eq_true_eq, not_or]
    refine ⟨⟨⟨by omega, hb1⟩, by omega⟩, by omega⟩

theorem get_replicate_flatten {α : Type} {l : List α} {n k j : Nat} (hk : k < n) (hj : j < l.length) : (List.replicate n l).flatten[k * l.length + j]? = l[j]? := by
  induction n generalizing k with
  | zero => omega
  | succ n ih =>
    rw [List.replicate_succ, List.flatten_cons]
    cases k with
    | zero => rw [Nat.zero_mul, Nat.zero_add, List.getElem?_append_left hj]
    | succ k =>
      rw [Nat.add_mul, Nat.one_mul, List.getElem?_append_right (by omega)]
      rw [← ih (k := k) (by omega)]
      congr 1; omega

theorem goes_makeList {o : Oper} {t e sz n : Nat} {l c : Operand} {z : D} {kl kc : IntKind} {Q : Exit → Act → World → Prop} (hR : Rel P s a w μ Pr) (ho : o.op = .makeSlice t l c) (he : elemOf P t = some e) (hz : szOf P e = some sz) (hzd : zeroD P e = some z)
    (hrow : rowOk P e = true) (hzl : z.cells.length = sz) (hn : n ≤ maxItems) (hl : a.eval l = .int kl (n : Int)) (hc : a.eval c = .int kc (n : Int)) :
    o.wp P a w (After P (({ putP o.dst (.arr s.blks.length) with push := [.lst e (List.replicate n z)] } : Patch).apply s) μ Pr w) Q := by
  obtain ⟨i, z0, hi, hiz, hzs, hsz, hzi, hbytes⟩ := rowOk_ok hrow
  rw [hz] at hzi; cases hzi
  obtain ⟨zv, hzr, hzvl, hone, hcells⟩ := zeroD_ok (P := P) (w := w) (Pr := Pr) hzd
  obtain ⟨us, husl, hussz, hrun⟩ := exec_make (a := a) ho he hi hz hzr (by omega) hsz hbytes hn hl hc
  refine goes_newList (sz := i.size) (t := t) hR hz hn (by simp) hussz (fun u hu => ?_) (fun k x hx => ?_) hrun
  · rw [husl] at hu
    obtain ⟨l', hl', hu⟩ := List.mem_flatten.1 hu
    rw [(List.mem_replicate.1 hl').2] at hu
    exact hone u hu
  · have hk : k < n := by have := (List.getElem?_eq_some_iff.1 hx).1; simpa using this
    have hxz : x = z := by
      rw [List.getElem?_replicate, if_pos hk] at hx; cases hx; rfl
    subst hxz
    refine ⟨hzl, fun j y hy => ?_⟩
    obtain ⟨u, h1, h2⟩ := hcells j y hy
    refine ⟨u, ?_, h2⟩
    have hj : j < zv.cells.size := (Array.getElem?_eq_some_iff.1 h1).1
    have hll : zv.cells.toList.length = i.size := by rw [Array.length_toList]; omega
    have := get_replicate_flatten (l := zv.cells.toList) (n := n) hk (by rw [hll]; omega : j < zv.cells.toList.length)
    rw [husl, ← hll, this, Array.getElem?_toList]
    exact h1

/-- A list of lists. -/
theorem goes_makeList2 {o : Oper} {t e e' wd n : Nat} {l c : Operand} {b : Bool} {kl kc : IntKind} {Q : Exit → Act → World → Prop} (hR : Rel P s a w μ Pr) (ho : o.op = .makeSlice t l c) (he : elemOf P t = some e) (hz : szOf P e = some 1) (he' : elemOf P e = some e') (hz' : szOf P e' = some wd)
    (hzc : zeroC P e = some [.emp b]) (hrow : rowOk P e = true) (hn : n ≤ maxItems) (hl : a.eval l = .int kl (n : Int)) (hc : a.eval c = .int kc (n : Int)) :
    o.wp P a w (After P (({ putP o.dst (.arr s.blks.length) with push := [.lst2 e (List.replicate n (some []))] } : Patch).apply s) μ Pr w) Q := by
  have hmi : maxItems = 1099511627776 := by decide
  have hml : maxLen = 9223372036854775807 := by decide
  obtain ⟨i, z0, hi, hiz, hzs, hsz, hzi, hbytes⟩ := rowOk_ok hrow
  rw [hz] at hzi
  have hi1 : i.size = 1 := by simpa using hzi.symm
  obtain ⟨zv, hzr, hza⟩ := zeroC_ok (P := P) (w := w) (Pr := Pr) (vw := fun _ => none) hzc
  obtain ⟨u, hzu⟩ : ∃ u, zv.cells.toList = [u] := by
    cases hq : zv.cells.toList with
    | nil => rw [hq] at hza; exact hza.elim
    | cons u r => cases r with
      | nil => exact ⟨u, rfl⟩
      | cons _ _ => rw [hq] at hza; exact hza.2.elim
  rw [hzu] at hza
  obtain ⟨q, hq⟩ := emp_val (P := P) (w := w) (Pr := Pr) (vw := fun _ => none) (show VRel P w Pr _ (.emp b) u from VRel0.toV hza.1.1)
  have hzvs : zv.cells.size = 1 := by rw [← Array.length_toList, hzu]; rfl
  obtain ⟨us, husl, hussz, hrun⟩ := exec_make (a := a) ho he hi (by rw [hi1]; exact hz) hzr (by omega) hsz hbytes hn hl hc
  have husl' : us.toList = List.replicate n u := by
    rw [husl, hzu, List.flatten_replicate_singleton]
  obtain ⟨w', hw'⟩ : ∃ w' : World, w' = { w with heap := w.heap.push (.cells us e) } := ⟨_, rfl⟩
  have hnew : w'.heap[w.heap.size]? = some (.cells us e (0, 0)) := by rw [hw']; exact heap_push_new
  have hold : ∀ k, k < w.heap.size → w'.heap[k]? = w.heap[k]? := by rw [hw']; exact heap_push_old
  rw [← hw'] at hrun
  have hinn : (List.replicate n (H.zero q)).flatMap H.own = [] := by
    rw [List.flatMap_eq_nil_iff]; intro x hx; rw [(List.mem_replicate.1 hx).2]; rfl
  have hown : (CB.lst2 w.heap.size n (List.replicate n (H.zero q))).own = [w.heap.size] := by simp only [CB.own, hinn]
  refine goes_push (w' := w') (c := .lst2 w.heap.size n (List.replicate n (.zero q))) (r := .arr s.blks.length) hR (by rw [hw']) (by rw [hw']) (by rw [hw']) (by rw [hw']; simp) hold (by rw [hown]; simp) (by rw [hown, hw']; simp)
    ⟨us, e', wd, hnew, by simp, by omega, by rw [hussz, hi1, Nat.mul_one], by simp, hz, he', hz', fun v hv => ?_, fun k ys h hk hh => ?_⟩ hrun (.inr ⟨e, (List.replicate n (some [])).map (·.map List.length), _, _, _, view_last hR.mu, by simp⟩)
  · rw [husl'] at hv; rw [(List.mem_replicate.1 hv).2]; exact hza.1.2
  · have hkn : k < n := by have := (List.getElem?_eq_some_iff.1 hk).1; simpa using this
    rw [List.getElem?_replicate, if_pos hkn] at hk hh
    cases hk; cases hh
    refine ⟨?_, [], ⟨rfl, rfl⟩, rows_nil _⟩
    rw [← Array.getElem?_toList, husl', List.getElem?_replicate, if_pos hkn, hq]
    rfl

end Go.Proofs.Ytbbefbgomdmldaa.Ab
