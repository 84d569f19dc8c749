/- Blocks of the store: laid, written. -/
import Derived.Test.YtbbefbgomdmldaaAbsOpF
namespace Go.Proofs.Ytbbefbgomdmldaa.Ab
open Go
set_option linter.unusedVariables false
set_option linter.unusedSimpArgs false

variable {P : Program} {O : Orc} {s : St} {sc sc' : Script} {w w' : World} {Pr Pr' : Nat → Prop} {vw : Nat → Option VW} {bl : List B} {μ : List CB} {a : Act}

theorem view_push {b : B} {c : CB} (hl : μ.length = bl.length) {id : Nat} (h : view bl μ id ≠ none) : view (bl ++ [b]) (μ ++ [c]) id = view bl μ id := by
  unfold view at h ⊢
  cases hb : bl[id]? with
  | none => simp [hb] at h
  | some x =>
    have hlt : id < bl.length := (List.getElem?_eq_some_iff.1 hb).1
    rw [List.getElem?_append_left hlt, List.getElem?_append_left (by omega), hb]
theorem view_last {b : B} {c : CB} (hl : μ.length = bl.length) : view (bl ++ [b]) (μ ++ [c]) bl.length = vwOf b c := by
  unfold view
  rw [List.getElem?_append_right (Nat.le_refl _), List.getElem?_append_right (by omega)]
  simp [hl]

theorem owns_append (μ ν : List CB) : owns (μ ++ ν) = owns μ ++ owns ν := List.flatMap_append
theorem owns_one (c : CB) : owns [c] = c.own := by simp [owns]

/-- A new block. -/
theorem SRel.push (h : SRel P bl w μ Pr) {b : B} {c : CB} (hos : w'.os = w.os) (htape : w'.tape = w.tape) (hout : w'.output = w.output) (hsz : w.heap.size ≤ w'.heap.size) (hb : ∀ k, k < w.heap.size → w'.heap[k]? = w.heap[k]?)
    (hnd : c.own.Nodup) (hown : ∀ k ∈ c.own, w.heap.size ≤ k ∧ k < w'.heap.size) (hB : BRel P w' Pr (view (bl ++ [b]) (μ ++ [c])) b c) :
    SRel P (bl ++ [b]) w' (μ ++ [c]) Pr ∧ Evo (owns μ) Pr w (owns (μ ++ [c])) Pr w' := by
  have hlt : ∀ k ∈ owns μ, k < w.heap.size := fun k hk => (h.lt k hk).1
  refine ⟨⟨by simp [h.mu], fun id x y hx hy => ?_, ?_, fun k hk => ?_, fun k hk => Nat.lt_of_lt_of_le (h.pr k hk) hsz⟩, ⟨hos, htape, hout, hsz, fun k hk _ => hb k hk, fun k hk => ?_, fun _ h => h, fun _ h => .inl h⟩⟩
  · by_cases hid : id < bl.length
    · rw [List.getElem?_append_left hid] at hx
      rw [List.getElem?_append_left (by rw [h.mu]; exact hid)] at hy
      exact (h.blks id x y hx hy).mono P (fun _ h => h) (fun k hk => hb k (h.pr k hk)) (fun k hk => hb k (hlt k (List.mem_flatMap.2 ⟨y, List.mem_of_getElem? hy, hk⟩)))
        (fun i _ hne => view_push h.mu hne)
    · have hid2 : id = bl.length := by
        have := (List.getElem?_eq_some_iff.1 hx).1; simp at this; omega
      subst hid2
      rw [List.getElem?_append_right (Nat.le_refl _)] at hx
      rw [List.getElem?_append_right (by rw [h.mu]; exact Nat.le_refl _)] at hy
      simp [h.mu] at hx hy
      subst hx; subst hy
      exact hB
  · rw [owns_append, owns_one, List.nodup_append]
    refine ⟨h.nodup, hnd, fun x hx y hy hxy => ?_⟩
    have h1 := hlt x hx
    have h2 := (hown y hy).1
    omega
  · rw [owns_append, owns_one] at hk
    rcases List.mem_append.1 hk with hk | hk
    · exact ⟨Nat.lt_of_lt_of_le (hlt k hk) hsz, (h.lt k hk).2⟩
    · exact ⟨(hown k hk).2, fun hp => by have := h.pr k hp; have := (hown k hk).1; omega⟩
  · rw [owns_append, owns_one] at hk
    rcases List.mem_append.1 hk with hk | hk
    · exact .inl hk
    · exact .inr (hown k hk).1

theorem Rel.ofStore {s' : St} {μ' : List CB} (h : Rel P s a w μ Pr) (hsl : s'.slots = s.slots) (hS : SRel P s'.blks w' μ' Pr') (hev : Evo (owns μ) Pr w (owns μ') Pr' w')
    (hv : ∀ id, view s.blks μ id ≠ none → view s'.blks μ' id = view s.blks μ id) : Rel P s' a w' μ' Pr' :=
  ⟨hS, h.defers, by rw [hsl]; exact h.len, fun n v hn => by
    rw [hsl] at hn
    exact (h.slots n v hn).mono P hev.prm (fun b hb => hev.block b (h.pr b hb) (fun hm => (h.lt b hm).2 hb)) (fun id _ hne => hv id hne)⟩

/-- An operation that lays a block. -/
theorem goes_push {o : Oper} {b : B} {c : CB} {r : V} {x : Value} {Q : Exit → Act → World → Prop} (hR : Rel P s a w μ Pr)
    (hos : w'.os = w.os) (htape : w'.tape = w.tape) (hout : w'.output = w.output) (hsz : w.heap.size ≤ w'.heap.size) (hb : ∀ k, k < w.heap.size → w'.heap[k]? = w.heap[k]?)
    (hnd : c.own.Nodup) (hown : ∀ k ∈ c.own, w.heap.size ≤ k ∧ k < w'.heap.size) (hB : BRel P w' Pr (view (s.blks ++ [b]) (μ ++ [c])) b c)
    (hrun : (execOp a.eval o).run P w = .ok (.value x) w') (hv : VRel P w' Pr (view (s.blks ++ [b]) (μ ++ [c])) r x) :
    o.wp P a w (After P (({ putP o.dst r with push := [b] } : Patch).apply s) μ Pr w) Q := by
  unfold Oper.wp
  rw [hrun]
  obtain ⟨hS, hev⟩ := hR.toSRel.push hos htape hout hsz hb hnd hown hB
  have hR' : Rel P ⟨s.slots, s.blks ++ [b]⟩ a w' (μ ++ [c]) Pr := hR.ofStore rfl hS hev (fun id hne => view_push hR.mu hne)
  refine ⟨μ ++ [c], Pr, ?_, hev, .push _ _⟩
  have : ({ putP o.dst r with push := [b] } : Patch).apply s = setSlot ⟨s.slots, s.blks ++ [b]⟩ o.dst r := by
    cases o.dst <;> simp [putP, Patch.apply, setAll, modAll, setSlot]
  rw [this]
  exact hR'.setSlot P _ hv


/-! ### cells of a value -/

theorem drel_one {x : D} {v : Value} (h : DRel w Pr x v) (hx : ∀ ds, x ≠ .agg ds) : v.oneCell' = true ∧ v.cells = #[v] := by
  cases h with
  | agg ds cs => exact (hx ds rfl).elim
  | _ => exact ⟨rfl, rfl⟩

theorem hdr_one (hh : H) (n : Nat) : (hdr hh n).oneCell' = true ∧ (hdr hh n).cells = #[hdr hh n] := by cases hh <;> exact ⟨rfl, rfl⟩

theorem cellsV_ok {v : V} {x : Value} {vs : List V} (h : cellsV v = some vs) (hv : VRel P w Pr vw v x) : All2 (fun c u => VRel1 P w Pr vw c u ∧ u.oneCell' = true) vs x.cells.toList := by
  have one : ∀ {v : V} {x : Value}, VRel1 P w Pr vw v x → x.oneCell' = true ∧ x.cells = #[x] → All2 (fun c u => VRel1 P w Pr vw c u ∧ u.oneCell' = true) [v] x.cells.toList := by
    intro v x h1 h2; rw [h2.2]; exact ⟨⟨h1, h2.1⟩, trivial⟩
  cases v with
  | undef => simp [cellsV] at h
  | void => simp [cellsV] at h
  | tup us => simp [cellsV] at h
  | own e xs => exact (show False from hv).elim
  | own2 e xs => exact (show False from hv).elim
  | d y =>
    cases y with
    | agg ds =>
      simp only [cellsV, Option.some.injEq] at h
      subst h
      obtain ⟨cs, rfl, hl, h1, hd⟩ := drel_agg (show DRel w Pr (.agg ds) x from hv)
      refine All2.of (by simp [Value.cells, hl]) (fun i c u hc hu => ?_)
      rw [List.getElem?_map, Option.map_eq_some_iff] at hc
      obtain ⟨y, hy, rfl⟩ := hc
      simp only [Value.cells] at hu
      exact ⟨hd i y u hy hu, h1 u (List.mem_of_getElem? hu)⟩
    | _ =>
      simp only [cellsV, Option.some.injEq] at h
      subst h
      exact one hv (drel_one hv (by simp))
  | agg cs =>
    simp only [cellsV, Option.some.injEq] at h
    subst h
    obtain ⟨vs, rfl, h⟩ := hv
    have h' : All2 (fun c u => VRel0 P w Pr vw c u ∧ u.oneCell' = true) cs (Value.agg vs.toArray).cells.toList := by simpa [Value.cells] using h
    exact All2.mono (fun c u hcu => ⟨hcu.1.to1, hcu.2⟩) h'
  | emp b =>
    simp only [cellsV, Option.some.injEq] at h; subst h
    cases b
    · obtain ⟨p, rfl⟩ := hv; exact one (v := .emp false) (show VRel1 P w Pr vw (.emp false) _ from ⟨p, rfl⟩) ⟨rfl, rfl⟩
    · obtain rfl := hv; exact one (v := .emp true) (show VRel1 P w Pr vw (.emp true) _ from rfl) ⟨rfl, rfl⟩
  | nnil => simp only [cellsV, Option.some.injEq] at h; subst h; obtain ⟨p, c, rfl⟩ := hv; exact one (v := .nnil) (show VRel1 P w Pr vw .nnil _ from ⟨p, c, rfl⟩) ⟨rfl, rfl⟩
  | arr id =>
    simp only [cellsV, Option.some.injEq] at h; subst h
    have hv' := hv
    rcases hv with ⟨e, n, hh, h1, rfl⟩ | ⟨_, _, _, _, _, h1, rfl⟩
    · exact one hv' (hdr_one _ _)
    · exact one hv' ⟨rfl, rfl⟩
  | inn id i =>
    simp only [cellsV, Option.some.injEq] at h; subst h
    have hv' := hv
    obtain ⟨_, _, _, _, _, _, hh, _, _, _, rfl⟩ := hv
    exact one hv' (hdr_one _ _)
  | win id lo n =>
    simp only [cellsV, Option.some.injEq] at h; subst h
    have hv' := hv
    obtain ⟨_, _, _, _, _, _, _, _, rfl, _⟩ := hv
    exact one hv' ⟨rfl, rfl⟩
  | ptr id off =>
    simp only [cellsV, Option.some.injEq] at h; subst h
    have hv' := hv
    obtain ⟨_, _, rfl⟩ := hv
    exact one hv' ⟨rfl, rfl⟩
  | eptr id i k =>
    simp only [cellsV, Option.some.injEq] at h; subst h
    have hv' := hv
    rcases hv with ⟨_, _, _, _, _, _, _, _, rfl⟩ | ⟨_, _, _, _, _, _, _, _, rfl⟩ <;> exact one hv' ⟨rfl, rfl⟩
  | iptr id i k =>
    simp only [cellsV, Option.some.injEq] at h; subst h
    have hv' := hv
    obtain ⟨_, _, _, _, _, _, _, _, _, _, _, _, _, _, _, _, rfl⟩ := hv
    exact one hv' ⟨rfl, rfl⟩
  | dptr y k =>
    simp only [cellsV, Option.some.injEq] at h; subst h
    have hv' := hv
    obtain ⟨_, _, _, rfl, _⟩ := hv
    exact one hv' ⟨rfl, rfl⟩
  | func f cap =>
    simp only [cellsV, Option.some.injEq] at h; subst h
    have hv' := hv
    obtain ⟨_, rfl, _⟩ := hv
    exact one hv' ⟨rfl, rfl⟩
  | iface t y =>
    simp only [cellsV, Option.some.injEq] at h; subst h
    have hv' := hv
    obtain ⟨_, rfl, _⟩ := hv
    exact one hv' ⟨rfl, rfl⟩

/-! ### alloc, box -/

theorem zeroC_ok {t : TypeId} {cs : List V} (h : zeroC P t = some cs) : ∃ z : Value, (zeroValue t).run P w = .ok z w ∧ All2 (fun v u => VRel0 P w Pr vw v u ∧ u.oneCell' = true) cs z.cells.toList := by
  unfold zeroC at h
  split at h
  · rename_i i hi
    split at h
    · rename_i z hz
      exact ⟨z, by simp [zeroValue, typeInfo, hi, hz], constC_ok h⟩
    · cases h
  · cases h

theorem heap_push_old {o : Obj} : ∀ k, k < w.heap.size → ({ w with heap := w.heap.push o } : World).heap[k]? = w.heap[k]? := by
  intro k hk
  show (w.heap.push o)[k]? = _
  rw [Array.getElem?_push, if_neg (by omega)]
theorem heap_push_new {o : Obj} : ({ w with heap := w.heap.push o } : World).heap[w.heap.size]? = some o := by
  show (w.heap.push o)[w.heap.size]? = _
  simp

theorem box_new {cs : List V} {us : Array Value} {e : TypeId} {vw' : Nat → Option VW} (hall : All2 (fun v u => VRel1 P w Pr vw v u ∧ u.oneCell' = true) cs us.toList) (hpr : ∀ b, Pr b → b < w.heap.size)
    (hv : ∀ id, vw id ≠ none → vw' id = vw id) : BRel P { w with heap := w.heap.push (.cells us e) } Pr vw' (.box cs) (.box w.heap.size) :=
  ⟨us, e, heap_push_new, All2.mono (fun v u h => ⟨h.1.mono P (fun _ h => h) (fun b hb => heap_push_old b (hpr b hb)) (fun id _ hne => hv id hne), h.2⟩) hall⟩

theorem goes_alloc {o : Oper} {t : TypeId} {cs : List V} {Q : Exit → Act → World → Prop} (hR : Rel P s a w μ Pr) (ho : o.op = .alloc t) (hz : zeroC P t = some cs) :
    o.wp P a w (After P (({ putP o.dst (.ptr s.blks.length 0) with push := [.box cs] } : Patch).apply s) μ Pr w) Q := by
  obtain ⟨z, hrun, hall⟩ := zeroC_ok (P := P) (w := w) (Pr := Pr) (vw := view s.blks μ) hz
  refine goes_push (w' := { w with heap := w.heap.push (.cells z.cells t) }) (c := .box w.heap.size) (x := .pointer (some ⟨w.heap.size, 0, none⟩)) hR rfl rfl rfl (by simp) heap_push_old (by simp [CB.own]) (by simp [CB.own])
    (box_new (All2.mono (fun v u h => ⟨h.1.to1, h.2⟩) hall) hR.pr (fun id hne => view_push hR.mu hne)) ?_ ⟨_, view_last hR.mu, rfl⟩
  simp only [execOp, ho, Instr.alloc, Sem.run_bind, hrun, Result.andThen_ok, newVar, newRow, run_newObj, Sem.run_pure]

theorem goes_box {o : Oper} {t : TypeId} {x : Operand} {v : V} {cs : List V} {Q : Exit → Act → World → Prop} (hR : Rel P s a w μ Pr) (ho : o.op = .box t x) (hv : VRel P w Pr (view s.blks μ) v (a.eval x)) (hc : cellsV v = some cs) :
    o.wp P a w (After P (({ putP o.dst (.ptr s.blks.length 0) with push := [.box cs] } : Patch).apply s) μ Pr w) Q := by
  refine goes_push (w' := { w with heap := w.heap.push (.cells (a.eval x).cells t) }) (c := .box w.heap.size) (x := .pointer (some ⟨w.heap.size, 0, none⟩)) hR rfl rfl rfl (by simp) heap_push_old (by simp [CB.own]) (by simp [CB.own])
    (box_new (cellsV_ok hc hv) hR.pr (fun id hne => view_push hR.mu hne)) ?_ ⟨_, view_last hR.mu, rfl⟩
  simp only [execOp, ho, Instr.box, Sem.run_bind, newVar, newRow, run_newObj, Result.andThen_ok, Sem.run_pure]

end Go.Proofs.Ytbbefbgomdmldaa.Ab
