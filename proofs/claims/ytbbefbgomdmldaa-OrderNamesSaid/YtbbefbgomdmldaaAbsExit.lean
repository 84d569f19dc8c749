/- Functions: how they begin, what leaves them. -/
import Derived.Test.YtbbefbgomdmldaaAbsCode
namespace Go.Proofs.Ytbbefbgomdmldaa.Ab
open Go
set_option linter.unusedVariables false
set_option linter.unusedSimpArgs false

variable {P : Program} {O : Orc} {s s' : St} {sc sc' : Script} {w w' : World} {Pr Pr' : Nat → Prop} {bl : List B} {μ : List CB} {a : Act} {wr : Nat → Bool} {lit : Bool} {p : Patch} {vw : Nat → Option VW}

/-- The memory of a block. -/
def ownAt (μ : List CB) (id : Nat) : List Nat := match μ[id]? with
  | some c => c.own
  | none => []

/-- Blocks that leave, laid from m on. -/
def LeaveOk (P : Program) (w : World) (Pr : Nat → Prop) (vw0 : Nat → Option VW) (μ : List CB) (n1 : Nat) (ids : List Nat) (bs : List B) (m : Nat) (holds : (Nat → Option VW) → Prop) : Prop :=
  ∃ cs : List CB, cs.length = bs.length ∧ owns cs = ids.flatMap (ownAt μ) ∧ (∀ (j : Nat) (b : B) (c : CB), bs[j]? = some b → cs[j]? = some c → ∀ vw', BRel P w Pr vw' b c) ∧
    ∀ vw' : Nat → Option VW, (∀ i, i < n1 → vw' i = vw0 i) → (∀ (j : Nat) (b : B) (c : CB), bs[j]? = some b → cs[j]? = some c → vw' (m + j) = vwOf b c) → holds vw'

theorem LeaveOk.nil {vw0 : Nat → Option VW} {n1 m : Nat} {holds : (Nat → Option VW) → Prop} (h : ∀ vw' : Nat → Option VW, (∀ i, i < n1 → vw' i = vw0 i) → holds vw') : LeaveOk P w Pr vw0 μ n1 [] [] m holds :=
  ⟨[], rfl, rfl, by simp, fun vw' h1 _ => h vw' h1⟩

theorem LeaveOk.and {vw0 : Nat → Option VW} {n1 m : Nat} {ids1 ids2 : List Nat} {bs1 bs2 : List B} {h1 h2 : (Nat → Option VW) → Prop} (g1 : LeaveOk P w Pr vw0 μ n1 ids1 bs1 m h1) (g2 : LeaveOk P w Pr vw0 μ n1 ids2 bs2 (m + bs1.length) h2) :
    LeaveOk P w Pr vw0 μ n1 (ids1 ++ ids2) (bs1 ++ bs2) m (fun vw => h1 vw ∧ h2 vw) := by
  obtain ⟨c1, a1, a2, a3, a4⟩ := g1
  obtain ⟨c2, b1, b2, b3, b4⟩ := g2
  refine ⟨c1 ++ c2, by simp [a1, b1], by rw [owns_append, a2, b2, List.flatMap_append], fun j b c hb hc => ?_, fun vw' hv hj => ⟨a4 vw' hv fun j b c hb hc => ?_, b4 vw' hv fun j b c hb hc => ?_⟩⟩
  · by_cases h : j < bs1.length
    · rw [List.getElem?_append_left h] at hb
      rw [List.getElem?_append_left (by omega)] at hc
      exact a3 j b c hb hc
    · rw [List.getElem?_append_right (by omega)] at hb
      rw [List.getElem?_append_right (by omega), a1] at hc
      exact b3 _ b c hb hc
  · have h := (List.getElem?_eq_some_iff.1 hb).1
    exact hj j b c (by rw [List.getElem?_append_left h]; exact hb) (by rw [List.getElem?_append_left (by omega)]; exact hc)
  · have := hj (bs1.length + j) b c (by rw [List.getElem?_append_right (by omega)]; rw [show bs1.length + j - bs1.length = j by omega]; exact hb) (by rw [List.getElem?_append_right (by omega), a1]; rw [show bs1.length + j - bs1.length = j by omega]; exact hc)
    rw [← Nat.add_assoc] at this
    exact this

theorem LeaveOk.imp {vw0 : Nat → Option VW} {n1 m : Nat} {ids : List Nat} {bs : List B} {h1 h2 : (Nat → Option VW) → Prop} (g : LeaveOk P w Pr vw0 μ n1 ids bs m h1) (h : ∀ vw, h1 vw → h2 vw) : LeaveOk P w Pr vw0 μ n1 ids bs m h2 := by
  obtain ⟨c1, a1, a2, a3, a4⟩ := g
  exact ⟨c1, a1, a2, a3, fun vw' x y => h _ (a4 vw' x y)⟩

theorem ownR_take {e wd n k : Nat} {h : H} {cs : List Value} (ho : OwnR w e wd h n cs) (hk : k ≤ n) : OwnR w e wd h k (cs.take (k * wd)) := by
  cases h with
  | zero a => obtain ⟨rfl, rfl⟩ := ho; exact ⟨by omega, by simp⟩
  | row b cap =>
    have hm : k * wd ≤ n * wd := Nat.mul_le_mul_right _ hk
    refine ⟨by rw [List.length_take, ho.1]; omega, ?_⟩
    rcases ho.2 with ⟨hv, _⟩ | ⟨g, c, cur, hv, hg, hh, hnc, hcm, hcz, ht⟩
    · simp at hv
    · simp at hv
      obtain ⟨rfl, rfl⟩ := hv
      refine .inr ⟨_, _, cur, rfl, hg, hh, by omega, hcm, hcz, ?_⟩
      rw [← ht, List.take_take]
      congr 1; omega

theorem rows_take {wd k : Nat} {xs : List D} {cs : List Value} (hl : cs.length = xs.length * wd) (h : Rows' w Pr wd xs cs) : Rows' w Pr wd (xs.take k) (cs.take (k * wd)) := by
  refine ⟨fun u hu => h.1 u (List.mem_of_mem_take hu), fun i x hx => ?_⟩
  rw [List.getElem?_take] at hx
  split at hx
  · rename_i hik
    obtain ⟨g1, g2⟩ := h.2 i x hx
    refine ⟨g1, fun j y hy => ?_⟩
    obtain ⟨u, h1, h2⟩ := g2 j y hy
    have hj : j < wd := by rw [← g1]; exact (List.getElem?_eq_some_iff.1 hy).1
    have hm : (i + 1) * wd ≤ k * wd := Nat.mul_le_mul_right _ hik
    rw [Nat.add_mul, Nat.one_mul] at hm
    exact ⟨u, by rw [List.getElem?_take_of_lt (by omega)]; exact h1, h2⟩
  · cases hx

theorem leave0_ok (hS : SRel P s.blks w μ Pr) {n1 m : Nat} {v v' : V} {u : Value} (h : leave0 s n1 v = some v') (hv : VRel0 P w Pr (view s.blks μ) v u) :
    LeaveOk P w Pr (view s.blks μ) μ n1 (lvs0 n1 v) (layV m v').2 m (fun vw => VRel0 P w Pr vw (layV m v').1 u) := by
  have stay : ∀ {v : V}, (∀ i ∈ ids0 v, i < n1) → VRel0 P w Pr (view s.blks μ) v u → ∀ vw' : Nat → Option VW, (∀ i, i < n1 → vw' i = view s.blks μ i) → VRel0 P w Pr vw' v u :=
    fun hi hv vw' h1 => VRel0.mono P (fun _ h => h) (fun _ _ => rfl) (fun i him _ => h1 i (hi i him)) hv
  unfold leave0 at h
  split at h
  · rename_i id
    split at h
    · rename_i hlt
      cases h
      simp only [lvs0, hlt, if_true, layV]
      exact LeaveOk.nil (stay (by simp [ids0, hlt]) hv)
    · rename_i hlt
      simp only [lvs0, hlt, if_false]
      split at h
      · rename_i e xs hb
        cases h
        obtain ⟨hh, wd, cs, g1, g2, g3, g4, g5⟩ := hS.lst (blk_some hb (by simp))
        refine ⟨[.lst hh], rfl, by simp [owns, ownAt, g1], fun j b c hb hc vw' => ?_, fun vw' _ hj => ?_⟩
        · simp only [layV] at hb
          cases j with
          | zero => simp at hb hc; subst hb; subst hc; exact ⟨wd, cs, g3, g4, g5⟩
          | succ j => simp at hb
        · have := hj 0 (.lst e xs) (.lst hh) rfl rfl
          rw [Nat.add_zero] at this
          rcases hv with ⟨e', n, h', k1, k2⟩ | ⟨s', lens, b, cap, inner, k1, k2⟩
          · rw [g2] at k1; cases k1
            exact .inl ⟨e, xs.length, hh, this, k2⟩
          · rw [g2] at k1; cases k1
      · rename_i e xss hb
        cases h
        obtain ⟨c, g1, g2, g3⟩ := hS.at (blk_some hb (by simp))
        refine ⟨[c], rfl, by simp [owns, ownAt, g1], fun j b c' hb hc vw' => ?_, fun vw' _ hj => ?_⟩
        · simp only [layV] at hb
          cases j with
          | zero => simp at hb hc; subst hb; subst hc; exact brel_listy (by trivial) g2 (.inl fun _ h => h)
          | succ j => simp at hb
        · have := hj 0 (.lst2 e xss) c rfl rfl
          rw [Nat.add_zero] at this
          rcases hv with ⟨e', n, h', k1, k2⟩ | ⟨s', lens, b, cap, inner, k1, k2⟩
          · rw [g3] at k1; cases c <;> simp [vwOf] at k1
          · rw [g3] at k1; exact .inr ⟨s', lens, b, cap, inner, by rw [this]; exact k1, k2⟩
      · cases h
  · rename_i id lo n
    split at h
    · rename_i hlt
      cases h
      simp only [lvs0, hlt, if_true, layV]
      exact LeaveOk.nil (stay (by simp [ids0, hlt]) hv)
    · rename_i hlt
      simp only [lvs0, hlt, if_false]
      split at h
      · rename_i hlo
        subst hlo
        split at h
        · rename_i e xs hb
          split at h
          · rename_i hn
            cases h
            obtain ⟨hh, wd, cs, g1, g2, g3, g4, g5⟩ := hS.lst (blk_some hb (by simp))
            have hlen : (xs.take n).length = n := by simp; omega
            refine ⟨[.lst hh], rfl, by simp [owns, ownAt, g1], fun j b c hb hc vw' => ?_, fun vw' _ hj => ?_⟩
            · simp only [layV] at hb
              cases j with
              | zero => simp at hb hc; subst hb; subst hc; exact ⟨wd, cs.take (n * wd), g3, by rw [hlen]; exact ownR_take g4 hn, rows_take (ownR_len g4) g5⟩
              | succ j => simp at hb
            · have := hj 0 (.lst e (xs.take n)) (.lst hh) rfl rfl
              rw [Nat.add_zero] at this
              obtain ⟨e', len, h', wd', a', cap, k1, k2, k3, k4, k5, k6, k7⟩ := hv
              rw [g2] at k1; cases k1
              refine .inl ⟨e, (xs.take n).length, hh, this, ?_⟩
              rw [hlen]; exact k7 rfl
          · cases h
        · cases h
      · cases h
  · rename_i id off
    split at h
    · rename_i hlt
      cases h
      simp only [lvs0, layV]
      exact LeaveOk.nil (stay (by simp [ids0, hlt]) hv)
    · cases h
  · rename_i x; cases h; exact LeaveOk.nil (stay (v := .d x) (by simp [ids0]) hv)
  · rename_i b; cases h; exact LeaveOk.nil (stay (v := .emp b) (by simp [ids0]) hv)
  · cases h; exact LeaveOk.nil (stay (v := .nnil) (by simp [ids0]) hv)
  · cases h

theorem leaveL_ok (hS : SRel P s.blks w μ Pr) {R : Value → Prop} {n1 : Nat} : ∀ {cs cs' : List V} {us : List Value} {m : Nat}, leaveL s n1 cs = some cs' → All2 (fun c u => VRel0 P w Pr (view s.blks μ) c u ∧ R u) cs us →
    LeaveOk P w Pr (view s.blks μ) μ n1 (cs.flatMap (lvs0 n1)) (layL m cs').2 m (fun vw => All2 (fun c u => VRel0 P w Pr vw c u ∧ R u) (layL m cs').1 us)
  | [], cs', us, m, h, hv => by
    simp only [leaveL, Option.some.injEq] at h; subst h
    cases us with
    | nil => exact LeaveOk.nil (fun _ _ => trivial)
    | cons _ _ => exact hv.elim
  | c :: r, cs', us, m, h, hv => by
    simp only [leaveL] at h
    split at h
    · rename_i x y h1 h2
      cases h
      cases us with
      | nil => exact hv.elim
      | cons u us =>
        have g := (leave0_ok (m := m) hS h1 hv.1.1).and (leaveL_ok hS (m := m + (layV m x).2.length) h2 hv.2)
        exact g.imp (fun vw hh => ⟨⟨hh.1, hv.1.2⟩, hh.2⟩)
    · cases h

theorem leave1_ok (hS : SRel P s.blks w μ Pr) {n1 m : Nat} {v v' : V} {u : Value} (h : leave1 s n1 v = some v') (hv : VRel P w Pr (view s.blks μ) v u) :
    LeaveOk P w Pr (view s.blks μ) μ n1 (lvs1 n1 v) (lay1 m v').2 m (fun vw => VRel1 P w Pr vw (lay1 m v').1 u) := by
  have na : ∀ {v v' : V}, leave0 s n1 v = some v' → ∀ cs, v' ≠ .agg cs := by
    intro v v' h cs e
    subst e
    unfold leave0 at h
    repeat' split at h
    all_goals first | cases h | skip
  have key : VRel0 P w Pr (view s.blks μ) v u → leave0 s n1 v = some v' → lvs1 n1 v = lvs0 n1 v → LeaveOk P w Pr (view s.blks μ) μ n1 (lvs1 n1 v) (lay1 m v').2 m (fun vw => VRel1 P w Pr vw (lay1 m v').1 u) := by
    intro h1 h2 e
    have hn := na h2
    have el : lay1 m v' = layV m v' := by cases v' <;> first | rfl | exact (hn _ rfl).elim
    rw [e, el]
    exact (leave0_ok (m := m) hS h2 h1).imp (fun vw hh => hh.to1)
  cases v with
  | agg cs =>
    obtain ⟨cs', hc, rfl⟩ := Option.map_eq_some_iff.1 h
    obtain ⟨us, rfl, hall⟩ := hv
    exact (leaveL_ok (m := m) hS hc hall).imp (fun vw hh => ⟨us, rfl, hh⟩)
  | tup vs => simp [leave1, leave0] at h
  | func f c => simp [leave1, leave0] at h
  | iface t y => simp [leave1, leave0] at h
  | _ => exact key hv h rfl

theorem leaveT_ok (hS : SRel P s.blks w μ Pr) {n1 : Nat} : ∀ {cs cs' : List V} {us : List Value} {m : Nat}, leaveT s n1 cs = some cs' → All2 (VRel P w Pr (view s.blks μ)) cs us →
    LeaveOk P w Pr (view s.blks μ) μ n1 (cs.flatMap (lvs1 n1)) (layT m cs').2 m (fun vw => All2 (VRel1 P w Pr vw) (layT m cs').1 us)
  | [], cs', us, m, h, hv => by
    simp only [leaveT, Option.some.injEq] at h; subst h
    cases us with
    | nil => exact LeaveOk.nil (fun _ _ => trivial)
    | cons _ _ => exact hv.elim
  | c :: r, cs', us, m, h, hv => by
    simp only [leaveT] at h
    split at h
    · rename_i x y h1 h2
      cases h
      cases us with
      | nil => exact hv.elim
      | cons u us => exact (leave1_ok (m := m) hS h1 hv.1).and (leaveT_ok hS (m := m + (lay1 m x).2.length) h2 hv.2)
    · cases h

/-! ### results -/

theorem load_asAddr {t : TypeId} {u v : Value} (h : (Instr.loadAt t u).run P w = .ok v w) : (do loadVar t (← asAddr u) : Sem Value).run P w = .ok v w := by
  unfold Instr.loadAt Instr.sureAddr at h
  split at h
  · simpa [asAddr] using h
  · simp at h

theorem resultsV_ok (hR : Rel P s a w μ Pr) : ∀ {l : List ResultVar} {vs : List V}, resultsV P s l = some vs →
    ∃ us : List Value, All2 (VRel P w Pr (view s.blks μ)) vs us ∧ (l.mapM fun | .tmp t => pure (a.tmps.getD t undef) | .cell b t => do loadVar t (← asAddr (a.tmps.getD b undef)) : Sem (List Value)).run P w = .ok us w
  | [], vs, h => by simp only [resultsV, Option.some.injEq] at h; subst h; exact ⟨[], trivial, by simp⟩
  | x :: r, vs, h => by
    simp only [resultsV] at h
    split at h
    · rename_i v ws h1 h2
      cases h
      obtain ⟨us, g1, g2⟩ := resultsV_ok hR h2
      cases x with
      | tmp t =>
        simp only [resultV, Option.some.injEq] at h1
        subst h1
        exact ⟨a.tmps.getD t undef :: us, ⟨slot_ok hR t, g1⟩, by simp only [List.mapM_cons, Sem.run_bind, Sem.run_pure, Result.andThen_ok, g2]⟩
      | cell b t =>
        simp only [resultV] at h1
        split at h1
        · rename_i v' sc' he
          cases h1
          obtain ⟨z, k1, k2⟩ := loadV_ok (O := fun _ _ _ => none) (sc := some []) (sc' := sc') hR.toSRel (slot_ok hR b) ⟨[], he, by simp⟩
          have k3 := load_asAddr k1
          exact ⟨z :: us, ⟨k2, g1⟩, by simp only [List.mapM_cons]; rw [Sem.run_bind, k3]; simp only [Sem.run_bind, Sem.run_pure, Result.andThen_ok, g2]⟩
        · cases h1
    · cases h

theorem results_ok (hR : Rel P s a w μ Pr) {fn : Func} {vs : List V} (h : resultsV P s fn.results.toList = some vs) :
    ∃ us : List Value, All2 (VRel P w Pr (view s.blks μ)) vs us ∧ (results fn a.tmps).run P w = .ok (match us with | [u] => u | us => .tuple us.toArray) w := by
  obtain ⟨us, g1, g2⟩ := resultsV_ok hR h
  refine ⟨us, g1, ?_⟩
  unfold results
  rw [Sem.run_bind, Array.mapM_eq_mapM_toList, Sem.run_map]
  erw [g2]
  cases us with
  | nil => rfl
  | cons u r => cases r with
    | nil => rfl
    | cons v r => simp

end Go.Proofs.Ytbbefbgomdmldaa.Ab
