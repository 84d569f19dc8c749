/- New slices, stores, builtins, as operations. -/
import Derived.Test.YtbbefbgomdmldaaAbsOpT
namespace Go.Proofs.Ytbbefbgomdmldaa.Ab
open Go
set_option linter.unusedVariables false
set_option linter.unusedSimpArgs false

variable {P : Program} {O : Orc} {s : St} {sc sc' : Script} {w w' : World} {Pr Pr' : Nat → Prop} {vw vw' : Nat → Option VW} {bl : List B} {μ : List CB} {a : Act}
  {wr : Nat → Bool} {IC : Nat → List V → List B → V → List B → Prop} {lit : Bool} {p : Patch} {Q : Exit → Act → World → Prop}

theorem op_makeSlice {o : Oper} {t : TypeId} {l c : Operand} (hR : Rel P s a w μ Pr) (ho : o.op = .makeSlice t l c) (h : Hold O s (evOp P wr IC lit o) sc p sc') : o.wp P a w (After P (p.apply s) μ Pr w) Q := by
  simp only [evOp, ho] at h
  replace h := hold_bind.1 h; obtain ⟨lv, sc1, h1, h⟩ := h
  replace h := hold_bind.1 h; obtain ⟨cv, sc2, h2, h⟩ := h
  have hl := opd_ok hR h1
  have hc := opd_ok hR h2
  split at h
  · rename_i n _ m e he
    replace hl := drel_int (show DRel w Pr (.int _ n) _ from hl)
    replace hc := drel_int (show DRel w Pr (.int _ m) _ from hc)
    split at h
    · rename_i sz z hz hzd
      split at h
      · exact (hold_fail.1 h).elim
      · rename_i hrow
        simp only [not_or, Bool.not_eq_false, Decidable.not_not] at hrow
        have fin : ∀ {k : Nat} {two : Bool} {sc : Script}, n = (k : Int) → m = (k : Int) → k ≤ maxItems → Hold O s (makeQ P o.dst e two z k) sc p sc' → o.wp P a w (After P (p.apply s) μ Pr w) Q := by
          intro k two sc hn hm hk hq
          subst hn; subst hm
          unfold makeQ at hq
          split at hq
          · split at hq
            · rename_i wd b h3 h4 h5
              rw [hold_nblk] at hq
              obtain ⟨rfl, _⟩ := hold_ret.1 hq
              obtain ⟨e', h6, h7⟩ := Option.bind_eq_some_iff.1 h3
              exact goes_makeList2 hR ho he h4 h6 h7 h5 hrow.1 hk hl hc
            · exact (hold_fail.1 hq).elim
          · rw [hold_nblk] at hq
            obtain ⟨rfl, _⟩ := hold_ret.1 hq
            exact goes_makeList hR ho he hz hzd hrow.1 hrow.2 hk hl hc
        rw [hold_pop] at h
        rcases h with ⟨_, h⟩ | ⟨it, u, _, h⟩
        · simp only at h
          split at h
          · rename_i hb; exact fin (k := n.toNat) (by omega) (by omega) (by omega) h
          · exact (hold_fail.1 h).elim
        · split at h
          · obtain ⟨⟨k1, k2, k3⟩, h⟩ := hold_req.1 h; exact fin k1 k2 k3 h
          · obtain ⟨⟨k1, k2, k3⟩, h⟩ := hold_req.1 h; exact fin k1 k2 k3 h
          · exact (hold_fail.1 h).elim
          · rename_i hno; cases hno
    · exact (hold_fail.1 h).elim
  · exact (hold_fail.1 h).elim

theorem plainD_ok {v : V} {x : D} {u : Value} (hv : VRel P w Pr vw v u) (h : Hold O s (plainD v) sc x sc') : DRel w Pr x u := by
  unfold plainD at h
  split at h
  · obtain ⟨rfl, _⟩ := hold_ret.1 h; exact hv
  · obtain ⟨rfl, _⟩ := hold_ret.1 h
    obtain ⟨q, rfl⟩ := emp_val hv
    exact .sl0 _ _
  · obtain ⟨rfl, _⟩ := hold_ret.1 h
    obtain ⟨q, c, rfl⟩ := id hv
    exact .sl0 _ _
  · exact (hold_fail.1 h).elim

/-- The cells of a datum's value. -/
theorem drel_cells {x : D} {u : Value} (h : DRel w Pr x u) : x.cells.length = u.cells.size ∧ (∀ v ∈ u.cells.toList, v.oneCell' = true) ∧ ∀ (j : Nat) (y : D), x.cells[j]? = some y → ∃ v, u.cells[j]? = some v ∧ DRel w Pr y v := by
  have one : (∀ ds, x ≠ .agg ds) → x.cells = [x] → x.cells.length = u.cells.size ∧ (∀ v ∈ u.cells.toList, v.oneCell' = true) ∧ ∀ (j : Nat) (y : D), x.cells[j]? = some y → ∃ v, u.cells[j]? = some v ∧ DRel w Pr y v := by
    intro hn hx
    obtain ⟨h1, h2⟩ := drel_one h hn
    rw [hx, h2]
    refine ⟨rfl, by simpa using h1, fun j y hy => ?_⟩
    cases j with
    | zero => simp at hy; subst hy; exact ⟨u, rfl, h⟩
    | succ j => simp at hy
  cases x with
  | agg ds =>
    obtain ⟨cs, rfl, hl, h1, hd⟩ := drel_agg h
    refine ⟨by simp [D.cells, Value.cells, hl], by simpa [Value.cells] using h1, fun j y hy => ?_⟩
    have hj : j < cs.length := by rw [← hl]; exact (List.getElem?_eq_some_iff.1 hy).1
    exact ⟨cs[j], by simp [Value.cells, hj], hd j y cs[j] hy (List.getElem?_eq_getElem hj)⟩
  | _ => exact one (by simp) rfl

theorem op_store {o : Oper} {t : TypeId} {ao xo : Operand} (hR : Rel P s a w μ Pr) (ho : o.op = .store t ao xo) (hd : o.dst = none) (h : Hold O s (evOp P wr IC lit o) sc p sc') : o.wp P a w (After P (p.apply s) μ Pr w) Q := by
  simp only [evOp, ho] at h
  replace h := hold_bind.1 h; obtain ⟨av, sc1, h1, h⟩ := h
  replace h := hold_bind.1 h; obtain ⟨v, sc2, h2, h⟩ := h
  have ha := opd_ok hR h1
  have hv := opd_ok hR h2
  unfold storeQ at h
  split at h
  · rename_i id off
    rw [hold_blk] at h
    split at h
    · rename_i cs hb
      split at h
      · rename_i l n hcut
        have hvw : v = .win l 0 n := by
          unfold cutOf at hcut
          split at hcut
          · cases hcut; rfl
          · cases hcut
        subst hvw
        rw [hold_blk] at h
        split at h
        · rename_i e xs hl
          split at h
          · exact (hold_fail.1 h).elim
          · rename_i hne
            split at h
            · rename_i hz
              split at h
              · rename_i hfit
                obtain ⟨rfl, _⟩ := hold_ret.1 h
                exact goes_storeCut hR ho hd ha hv (blk_some hb (by simp)) (blk_some hl (by simp)) hne hz hfit
              · exact (hold_fail.1 h).elim
            · exact (hold_fail.1 h).elim
        · exact (hold_fail.1 h).elim
      · split at h
        · rename_i vs sz hc hz
          split at h
          · rename_i hcond
            obtain ⟨rfl, _⟩ := hold_ret.1 h
            exact goes_storeBox hR ho hd ha hv (blk_some hb (by simp)) hc hz hcond.1 hcond.2
          · exact (hold_fail.1 h).elim
        · exact (hold_fail.1 h).elim
    · exact (hold_fail.1 h).elim
  · rename_i id i sub
    rw [hold_shp] at h
    split at h
    · rename_i e len0 hb0
      obtain ⟨xs, hb1, rfl⟩ := shape_lst hb0
      have hb := blk_some hb1 (by simp)
      replace h := hold_bind.1 h; obtain ⟨x, sc3, h3, h⟩ := h
      have hx := plainD_ok hv h3
      obtain ⟨c1, c2, c3⟩ := drel_cells hx
      split at h
      · rename_i sz wd hz hwd
        split at h
        · rename_i hcond
          obtain ⟨rfl, hsz, hxw⟩ := hcond
          obtain ⟨rfl, _⟩ := hold_ret.1 h
          have hsz2 : (a.eval xo).cells.size = wd := by omega
          refine goes_storeEl hR ho hd ha hb (by rw [hz, hsz2, hsz]) hwd hxw (by omega) c2 fun j y hy => .inl ?_
          obtain ⟨u, q1, q2⟩ := c3 j y hy
          exact ⟨u, Nat.zero_le _, by simpa using q1, q2⟩
        · split at h
          · rename_i hcond
            obtain ⟨rfl, hna⟩ := hcond
            have hone : x.cells = [x] := by cases x <;> first | rfl | (simp [notAgg] at hna)
            have hsz1 : (a.eval xo).cells.size = 1 := by rw [← c1, hone]; rfl
            have fin : ∀ {ds : List D} {sc : Script}, xs[i]? = some (.agg ds) → Hold O s (if sub < ds.length ∧ ds.length = wd then .ret { mods := [(id, i, .agg (ds.set sub x))] } else .fail : Ab.Q Patch) sc p sc' →
                o.wp P a w (After P (p.apply s) μ Pr w) Q := by
              intro ds sc hxi h
              split at h
              · rename_i hcond
                obtain ⟨hc1, hc2⟩ := hcond
                obtain ⟨rfl, _⟩ := hold_ret.1 h
                refine goes_storeEl hR ho hd ha hb (by rw [hz, hsz1]) hwd (by simpa [D.cells] using hc2) (by omega) c2 fun j y hy => ?_
                simp only [D.cells, List.getElem?_set] at hy
                by_cases hj : sub = j
                · subst hj
                  rw [if_pos rfl, if_pos hc1] at hy
                  cases hy
                  obtain ⟨u, q1, q2⟩ := c3 0 x (by rw [hone]; rfl)
                  exact .inl ⟨u, Nat.le_refl _, by simpa using q1, q2⟩
                · rw [if_neg hj] at hy
                  exact .inr ⟨by omega, _, hxi, by simpa [D.cells] using hy⟩
              · exact (hold_fail.1 h).elim
            rw [hold_blk, hb1] at h
            simp only at h
            rw [hold_pop] at h
            rcases h with ⟨_, h⟩ | ⟨it, u, _, h⟩
            · simp only at h
              split at h
              · rename_i ds hxi; exact fin hxi h
              · exact (hold_fail.1 h).elim
            · split at h
              · obtain ⟨k1, h⟩ := hold_req.1 h; exact fin k1 h
              · exact (hold_fail.1 h).elim
              · rename_i hno; cases hno
          · exact (hold_fail.1 h).elim
      · exact (hold_fail.1 h).elim
    · rw [hold_blk] at h
      split at h
      · rename_i st xss hb
        split at h
        · rename_i l
          split at h
          · exact (hold_fail.1 h).elim
          · rename_i hne
            rw [hold_blk] at h
            split at h
            · rename_i e ys hl
              split at h
              · rename_i hc
                obtain ⟨hst, hz, rfl⟩ := hc
                obtain ⟨rfl, _⟩ := hold_ret.1 h
                exact goes_storeInner hR ho hd ha hv (blk_some hb (by simp)) (blk_some hl (by simp)) hne hz hst
              · exact (hold_fail.1 h).elim
            · exact (hold_fail.1 h).elim
        · exact (hold_fail.1 h).elim
      · exact (hold_fail.1 h).elim
    · exact (hold_fail.1 h).elim
  · exact (hold_fail.1 h).elim

/-! ### builtins -/

theorem exec_builtin {o : Oper} {b : Builtin} {args : Array Operand} {ts : Array TypeId} (ho : o.op = .call { callee := .builtin b, args := args, argTypes := ts }) :
    ∃ cs, (execOp a.eval o).run P w = (builtin b ts o.type cs (args.map a.eval)).run P w := by
  simp only [execOp, ho, resolve, invoke, Sem.run_bind, Sem.run_pure, Result.andThen_ok]
  exact ⟨_, rfl⟩

theorem op_builtin {o : Oper} {b : Builtin} {args : Array Operand} {ts : Array TypeId} {vs : List V} {sc0 : Script} (hR : Rel P s a w μ Pr) (ho : o.op = .call { callee := .builtin b, args := args, argTypes := ts })
    (hvs : Hold O s (opds args.toList) sc0 vs sc) (h : Hold O s (builtinQ P b o.dst ts.toList vs) sc p sc') : o.wp P a w (After P (p.apply s) μ Pr w) Q := by
  have hv := opds_ok hR hvs
  obtain ⟨cns, hexec⟩ := exec_builtin (P := P) (w := w) (a := a) ho
  have hargs : (args.map a.eval).toList = args.toList.map a.eval := by simp
  have hts : ∀ {l : List TypeId}, ts.toList = l → ts = l.toArray := fun h => by rw [← h]
  have has : ∀ {l : List Value}, args.toList.map a.eval = l → args.map a.eval = l.toArray := fun h => by rw [← h, ← hargs]
  unfold builtinQ at h
  split at h
  · rename_i t r v htl
    obtain ⟨x, sc1, h1, h2⟩ := hold_bind.1 h
    obtain ⟨rfl, _⟩ := hold_ret.1 h2
    cases hA : args.toList.map a.eval with
    | nil => rw [hA] at hv; exact hv.elim
    | cons u us =>
      rw [hA] at hv
      obtain ⟨n, rfl, g⟩ := lenV_ok (ts := ts) (ty := o.type) (as := args.map a.eval) hR.toSRel (by rw [hts htl]; rfl) (by rw [has hA]; rfl) hv.1 h1
      refine goes_val hR (x := .int .i64 n) ?_ (show DRel w Pr (.int .i64 n) _ from .int _ _)
      rw [hexec]
      simp only [builtin, Sem.run_bind, g, Result.andThen_ok, Sem.run_pure]
  · rename_i t r b htl
    split at h
    · rename_i e hu
      obtain ⟨rfl, _⟩ := hold_ret.1 h
      cases hA : args.toList.map a.eval with
      | nil => rw [hA] at hv; exact hv.elim
      | cons u us =>
        rw [hA] at hv
        obtain ⟨q, hq⟩ := emp_val hv.1
        refine goes_val hR (x := .int .i64 0) ?_ (show DRel w Pr (.int .i64 0) _ from .int _ _)
        rw [hexec, has hA, hts htl, hq]
        simp [builtin, Builtin.cap_, hdr, run_und hu, goInt]
    · exact (hold_fail.1 h).elim
  · rename_i k x k' y
    split at h
    · rename_i hk
      subst hk
      obtain ⟨r, sc1, h1, h2⟩ := hold_bind.1 h
      obtain ⟨rfl, _⟩ := hold_ret.1 h2
      obtain rfl := hold_popInt h1
      cases hA : args.toList.map a.eval with
      | nil => rw [hA] at hv; exact hv.elim
      | cons u us => cases us with
        | nil => rw [hA] at hv; exact hv.2.elim
        | cons u2 us2 => cases us2 with
          | cons _ _ => rw [hA] at hv; exact hv.2.2.elim
          | nil =>
            rw [hA] at hv
            obtain rfl := drel_int (show DRel w Pr (.int k x) _ from hv.1)
            obtain rfl := drel_int (show DRel w Pr (.int k y) _ from hv.2.1)
            refine goes_val hR (x := .int k (if y > x then y else x)) ?_ (show DRel w Pr (.int k _) _ from .int _ _)
            rw [hexec, has hA]
            simp [builtin, Builtin.max_, Builtin.max2]
    · exact (hold_fail.1 h).elim
  · rename_i k x k' y
    split at h
    · rename_i hk
      subst hk
      obtain ⟨r, sc1, h1, h2⟩ := hold_bind.1 h
      obtain ⟨rfl, _⟩ := hold_ret.1 h2
      obtain rfl := hold_popInt h1
      cases hA : args.toList.map a.eval with
      | nil => rw [hA] at hv; exact hv.elim
      | cons u us => cases us with
        | nil => rw [hA] at hv; exact hv.2.elim
        | cons u2 us2 => cases us2 with
          | cons _ _ => rw [hA] at hv; exact hv.2.2.elim
          | nil =>
            rw [hA] at hv
            obtain rfl := drel_int (show DRel w Pr (.int k x) _ from hv.1)
            obtain rfl := drel_int (show DRel w Pr (.int k y) _ from hv.2.1)
            refine goes_val hR (x := .int k (if y < x then y else x)) ?_ (show DRel w Pr (.int k _) _ from .int _ _)
            rw [hexec, has hA]
            simp [builtin, Builtin.min_, Builtin.min2]
    · exact (hold_fail.1 h).elim
  · rename_i sT xT x y htl
    have key : ∀ {sc1 : Script}, ((∃ e', P.underlying xT = some (.slice e')) ∨ P.underlying xT = some .string) → Hold O s ((items y).bind fun ys => appendQ P o.dst sT x ys) sc p sc' → o.wp P a w (After P (p.apply s) μ Pr w) Q := by
      intro _ hk h
      obtain ⟨ys, sc2, h1, h2⟩ := hold_bind.1 h
      have hts2 := hts htl
      have : ∃ xo yo, args = #[xo, yo] := by
        cases hl : args.toList with
        | nil => rw [hl] at hv; exact hv.elim
        | cons xo r => cases r with
          | nil => rw [hl] at hv; exact hv.2.elim
          | cons yo r2 => cases r2 with
            | cons _ _ => rw [hl] at hv; exact hv.2.2.elim
            | nil => exact ⟨xo, yo, by rw [← Array.toList_inj, hl]⟩
      obtain ⟨xo, yo, rfl⟩ := this
      subst hts2
      exact goes_append hR ho hk hv.1 hv.2.1 h1 h2
    have two : ∃ xo yo, args = #[xo, yo] := by
      cases hl : args.toList with
      | nil => rw [hl] at hv; exact hv.elim
      | cons xo r => cases r with
        | nil => rw [hl] at hv; exact hv.2.elim
        | cons yo r2 => cases r2 with
          | cons _ _ => rw [hl] at hv; exact hv.2.2.elim
          | nil => exact ⟨xo, yo, by rw [← Array.toList_inj, hl]⟩
    split at h
    · rename_i kn hu
      split at h
      · rename_i kq n
        obtain ⟨xo, yo, rfl⟩ := two
        have hts2 := hts htl
        subst hts2
        have hy : a.eval yo = .int kq n := drel_int (show DRel w Pr (.int kq n) _ from hv.2.1)
        have zeros : ∀ {m : Nat} {sc : Script}, n = (m : Int) → Hold O s (zerosQ P o.dst sT x m) sc p sc' → o.wp P a w (After P (p.apply s) μ Pr w) Q := by
          intro m sc hn h
          unfold zerosQ at h
          split at h
          · rename_i e he
            split at h
            · rename_i z sz hzd hz
              split at h
              · exact (hold_fail.1 h).elim
              · rename_i hc
                simp only [not_or, Bool.not_eq_false, ne_eq, Decidable.not_not] at hc
                split at h
                · rename_i b
                  obtain ⟨hm, sc3, h⟩ := roomQ_ok h
                  rw [hold_nblk] at h
                  obtain ⟨rfl, _⟩ := hold_ret.1 h
                  exact goes_zeros hR ho hu he hz hzd hc.1 hc.2.1 hv.1 (by rw [hy, hn]) hm
                · exact (hold_fail.1 h).elim
            · exact (hold_fail.1 h).elim
          · exact (hold_fail.1 h).elim
        rw [hold_pop] at h
        rcases h with ⟨_, h⟩ | ⟨it, u, _, h⟩
        · simp only at h
          split at h
          · rename_i hn; exact zeros (by omega) h
          · exact (hold_fail.1 h).elim
        · split at h
          · obtain ⟨h1, h⟩ := hold_req.1 h; exact zeros h1 h
          · exact (hold_fail.1 h).elim
          · rename_i hno; cases hno
      · exact (hold_fail.1 h).elim
    · rename_i e' hu; exact key (sc1 := sc) (.inl ⟨e', hu⟩) h
    · rename_i hu; exact key (sc1 := sc) (.inr hu) h
    · exact (hold_fail.1 h).elim
  · rename_i dT sT x y htl
    split at h
    · exact (hold_fail.1 h).elim
    rename_i hstr
    have hns : ∀ l, y ≠ .d (.str l) := fun l e => by subst e; simp [isStr] at hstr
    have two : ∃ xo yo, args = #[xo, yo] := by
      cases hl : args.toList with
      | nil => rw [hl] at hv; exact hv.elim
      | cons xo r => cases r with
        | nil => rw [hl] at hv; exact hv.2.elim
        | cons yo r2 => cases r2 with
          | cons _ _ => rw [hl] at hv; exact hv.2.2.elim
          | nil => exact ⟨xo, yo, by rw [← Array.toList_inj, hl]⟩
    obtain ⟨xo, yo, rfl⟩ := two
    have hts2 := hts htl
    subst hts2
    obtain ⟨ys, sc2, h1, h⟩ := hold_bind.1 h
    split at h
    · rename_i e he
      split at h
      · rename_i sz hz
        split at h
        · rename_i id
          rw [hold_blk] at h
          split at h
          · rename_i e' xs hb
            split at h
            · rename_i hee; subst hee
              obtain ⟨hw, sc3, h⟩ := widthsQ_ok h
              obtain ⟨rfl, _⟩ := hold_ret.1 h
              have hbs := blk_some hb (by simp)
              obtain ⟨hh, wd, cs, g1, g2, g3, g4, g5⟩ := hR.toSRel.lst hbs
              rw [hz] at g3; cases g3
              refine goes_copy (lo := 0) (n := xs.length) hR ho he hz hbs (by omega) ?_ hv.2.1 h1 hns hw
              rcases hv.1 with ⟨e', n, h', k1, k2⟩ | ⟨s', lens, b, cap, inner, k1, k2⟩
              · rw [g2] at k1; cases k1
                cases hh with
                | zero q => have := row_nil g4; subst this; exact ⟨0, q, k2, fun h => by simp at h⟩
                | row b cap => exact ⟨cap, _, k2, fun _ => ⟨b, cap, g1, by simp⟩⟩
              · rw [g2] at k1; cases k1
            · exact (hold_fail.1 h).elim
          · exact (hold_fail.1 h).elim
        · rename_i id lo n
          rw [hold_blk] at h
          split at h
          · rename_i e' xs hb
            split at h
            · rename_i hee
              obtain ⟨rfl, hln⟩ := hee
              obtain ⟨hw, sc3, h⟩ := widthsQ_ok h
              obtain ⟨rfl, _⟩ := hold_ret.1 h
              have hbs := blk_some hb (by simp)
              obtain ⟨hh, wd, cs, g1, g2, g3, g4, g5⟩ := hR.toSRel.lst hbs
              rw [hz] at g3; cases g3
              refine goes_copy hR ho he hz hbs hln ?_ hv.2.1 h1 hns hw
              obtain ⟨e', len, h', wd', a', cap, k1, k2, k3, k4, k5, k6, k7⟩ := hv.1
              rw [g2] at k1; cases k1
              rw [hz] at k2; cases k2
              refine ⟨cap, a', k3, fun hpos => ?_⟩
              cases hh with
              | zero q => have := row_nil g4; subst this; simp at hln; omega
              | row b c => exact ⟨b, c, g1, k6 b c rfl hpos⟩
            · exact (hold_fail.1 h).elim
          · exact (hold_fail.1 h).elim
        · exact (hold_fail.1 h).elim
      · exact (hold_fail.1 h).elim
    · exact (hold_fail.1 h).elim
  · exact (hold_fail.1 h).elim

end Go.Proofs.Ytbbefbgomdmldaa.Ab
