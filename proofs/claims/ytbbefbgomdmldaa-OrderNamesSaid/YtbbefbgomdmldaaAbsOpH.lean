/- Literals. -/
import Derived.Test.YtbbefbgomdmldaaAbsOpG
namespace Go.Proofs.Ytbbefbgomdmldaa.Ab
open Go
set_option linter.unusedVariables false
set_option linter.unusedSimpArgs false

variable {P : Program} {O : Orc} {s : St} {sc sc' : Script} {w w' : World} {Pr Pr' : Nat → Prop} {vw : Nat → Option VW} {bl : List B} {μ : List CB} {a : Act}

theorem run_mapM {α β : Type} (f : α → Sem β) (g : α → Option β) : ∀ (l : List α), (∀ x ∈ l, ∃ y, g x = some y ∧ (f x).run P w = .ok y w) → ∃ ys, (l.mapM f).run P w = .ok ys w ∧ ∀ i : Nat, ys[i]? = (l[i]?).bind g
  | [], _ => ⟨[], by simp, by simp⟩
  | x :: r, h => by
    obtain ⟨y, h1, h2⟩ := h x (List.mem_cons_self ..)
    obtain ⟨ys, h3, h4⟩ := run_mapM f g r (fun z hz => h z (List.mem_cons_of_mem _ hz))
    refine ⟨y :: ys, by simp [h2, h3], fun i => ?_⟩
    cases i with
    | zero => simp [h1]
    | succ i => simpa using h4 i

theorem fold_set (off : Nat) : ∀ (vs : List Value) (k : Nat) (cs : Array Value), off + k + vs.length ≤ cs.size →
    ((vs.zipIdx k).foldl (fun cs (x : Value × Nat) => cs.setIfInBounds (off + x.2) x.1) cs).toList = cs.toList.take (off + k) ++ vs ++ cs.toList.drop (off + k + vs.length)
  | [], k, cs, h => by simp
  | v :: r, k, cs, h => by
    simp only [List.length_cons] at h
    rw [List.zipIdx_cons, List.foldl_cons, fold_set off r (k + 1) _ (by simp; omega)]
    have hk : off + k < cs.toList.length := by simp; omega
    simp only [Array.toList_setIfInBounds, List.length_cons]
    have e1 : (cs.toList.set (off + k) v).take (off + (k + 1)) = cs.toList.take (off + k) ++ [v] := by
      rw [show off + (k + 1) = (off + k) + 1 by omega, List.take_add_one, List.take_set_of_le (Nat.le_refl _), List.getElem?_set_self hk]; rfl
    have e2 : (cs.toList.set (off + k) v).drop (off + (k + 1) + r.length) = cs.toList.drop (off + k + (r.length + 1)) := by
      rw [List.drop_set_of_lt (by omega)]; congr 1; omega
    rw [e1, e2]
    simp

theorem over_ok {R : V → Value → Prop} {cs vs : List V} {us ws : List Value} (h : All2 R cs us) (h' : All2 R vs ws) (off : Nat) : All2 R (over cs off vs) (us.take off ++ ws ++ us.drop (off + ws.length)) := by
  unfold over
  rw [← h'.length]
  exact ((h.take off).append h').append (h.drop _)

theorem fill_ok {places places' : Nat → Option (Nat × Nat)} (hp : places' = places) : ∀ {parts : List (Nat × V)} {parts' : List (Nat × Value)} {cells cs : List V} {us : Array Value},
    All2 (fun p q => p.1 = q.1 ∧ VRel P w Pr vw p.2 q.2) parts parts' → All2 (fun v u => VRel0 P w Pr vw v u ∧ u.oneCell' = true) cells us.toList → fillP places cells parts = some cs →
    ∃ us', Instr.fill places' us parts' = some us' ∧ All2 (fun v u => VRel0 P w Pr vw v u ∧ u.oneCell' = true) cs us'.toList
  | [], [], cells, cs, us, _, hc, h => by simp [fillP] at h; subst h; exact ⟨us, rfl, hc⟩
  | [], _ :: _, _, _, _, h, _, _ => h.elim
  | _ :: _, [], _, _, _, h, _, _ => h.elim
  | (i, v) :: r, (j, x) :: r', cells, cs, us, ⟨⟨hij, hv⟩, hr⟩, hc, h => by
    simp only at hij hv
    subst hij
    simp only [fillP] at h
    split at h
    · rename_i off sz vs h1 h2
      split at h
      · rename_i hcond
        obtain ⟨h3, h4, h5⟩ := hcond
        have hx := cellsV_ok h2 hv
        have hx0 : All2 (fun v u => VRel0 P w Pr vw v u ∧ u.oneCell' = true) vs x.cells.toList := All2.monoMem (fun v hm u hu => ⟨hu.1.simple (List.all_eq_true.1 h5 v hm), hu.2⟩) hx
        have hxl : x.cells.size = sz := by have := hx.length; simp at this; omega
        have hul : us.size = cells.length := by have := hc.length; simp at this; omega
        let us1 := x.cells.zipIdx.foldl (fun cs (c : Value × Nat) => cs.setIfInBounds (off + c.2) c.1) us
        have hus1 : us1.toList = us.toList.take off ++ x.cells.toList ++ us.toList.drop (off + x.cells.toList.length) := by
          have := fold_set off x.cells.toList 0 us (by simp; omega)
          simp only [Nat.add_zero] at this
          rw [← this]
          simp only [us1]
          rw [← Array.foldl_toList]
          simp [Array.toList_zipIdx]
        have hc1 : All2 (fun v u => VRel0 P w Pr vw v u ∧ u.oneCell' = true) (over cells off vs) us1.toList := by rw [hus1]; exact over_ok hc hx0 off
        obtain ⟨us', g1, g2⟩ := fill_ok hp hr hc1 h
        refine ⟨us', ?_, g2⟩
        subst hp
        simp only [Instr.fill, h1]
        rw [if_neg (by simp; omega)]
        exact g1
      · cases h
    · cases h

theorem plainParts_ok (hR : Rel P s a w μ Pr) : ∀ {l : List (Nat × Operand)} {r : List (Nat × V)} {sc sc' : Script}, Hold O s (plainParts l) sc r sc' →
    All2 (fun p q => p.1 = q.1 ∧ VRel P w Pr (view s.blks μ) p.2 q.2) r (l.map fun x => (x.1, a.eval x.2))
  | [], r, sc, sc', h => by obtain ⟨rfl, _⟩ := hold_ret.1 h; trivial
  | (i, x) :: l, r, sc, sc', h => by
    obtain ⟨v, sc1, h1, h2⟩ := hold_bind.1 h
    obtain ⟨vs, sc2, h3, h4⟩ := hold_bind.1 h2
    obtain ⟨rfl, _⟩ := hold_ret.1 h4
    exact ⟨⟨rfl, opd_ok hR h1⟩, plainParts_ok hR h3⟩

theorem buildV_ok {t : TypeId} {parts : List (Nat × V)} {parts' : Array (Nat × Value)} {r : V} (hp : All2 (fun p q => p.1 = q.1 ∧ VRel P w Pr vw p.2 q.2) parts parts'.toList) (h : buildV P t parts = some r) :
    ∃ v, (Instr.build t parts').run P w = .ok v w ∧ VRel P w Pr vw r v := by
  unfold buildV at h
  split at h
  · rename_i z fs hz hu
    obtain ⟨zv, hzr, hza⟩ := zeroC_ok (P := P) (w := w) (Pr := Pr) (vw := vw) hz
    split at h
    · cases h
    · rename_i hall
      simp only [Bool.not_eq_false] at hall
      obtain ⟨cs, hf, rfl⟩ := Option.map_eq_some_iff.1 h
      obtain ⟨ys, hm1, hm2⟩ := run_mapM (P := P) (w := w) (fun f : Field => do pure (f.offset, ← sizeOf f.type)) (fun f => (szOf P f.type).map fun n => (f.offset, n)) fs.toList (fun f hf => by
        have := (Array.all_eq_true_iff_forall_mem.1 hall) f (by simpa using hf)
        cases hs : szOf P f.type with
        | none => simp [hs] at this
        | some n => exact ⟨(f.offset, n), rfl, by simp [run_szOf hs]⟩)
      have hmA : (fs.mapM fun f : Field => (do pure (f.offset, ← sizeOf f.type) : Sem (Nat × Nat))).run P w = .ok ys.toArray w := by
        rw [Array.mapM_eq_mapM_toList, Sem.run_map, hm1]
        rfl
      have hpl : (fun i : Nat => ys.toArray[i]?) = fun i : Nat => (fs[i]?).bind fun f : Field => (szOf P f.type).map fun n => (f.offset, n) := by
        funext i
        rw [List.getElem?_toArray, hm2, Array.getElem?_toList]
      obtain ⟨us, g1, g2⟩ := fill_ok hpl hp hza hf
      refine ⟨.agg us, ?_, by have := mkAgg_ok g2; simpa using this⟩
      simp only [Instr.build, Sem.run_bind, hzr, Result.andThen_ok, run_und hu]
      erw [hmA]
      simp only [Result.andThen_ok, g1, Sem.run_pure]
  · rename_i z n e hz hu
    obtain ⟨zv, hzr, hza⟩ := zeroC_ok (P := P) (w := w) (Pr := Pr) (vw := vw) hz
    split at h
    · rename_i sz hsz
      obtain ⟨cs, hf, rfl⟩ := Option.map_eq_some_iff.1 h
      obtain ⟨us, g1, g2⟩ := fill_ok rfl hp hza hf
      refine ⟨.agg us, ?_, by have := mkAgg_ok g2; simpa using this⟩
      simp only [Instr.build, Sem.run_bind, hzr, Result.andThen_ok, run_und hu, run_szOf hsz, g1, Sem.run_pure]
    · cases h
  · cases h

end Go.Proofs.Ytbbefbgomdmldaa.Ab
