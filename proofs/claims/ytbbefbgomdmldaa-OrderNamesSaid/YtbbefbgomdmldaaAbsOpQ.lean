/- Fields, indices, slices, new slices, stores, builtins: as operations. -/
import Derived.Test.YtbbefbgomdmldaaAbsOpP
namespace Go.Proofs.Ytbbefbgomdmldaa.Ab
open Go
set_option linter.unusedVariables false
set_option linter.unusedSimpArgs false

variable {P : Program} {O : Orc} {s : St} {sc sc' : Script} {w w' : World} {Pr Pr' : Nat → Prop} {vw vw' : Nat → Option VW} {bl : List B} {μ : List CB} {a : Act}
  {wr : Nat → Bool} {IC : Nat → List V → List B → V → List B → Prop} {lit : Bool} {p : Patch} {Q : Exit → Act → World → Prop}

theorem op_fieldAddr {o : Oper} {t : TypeId} {x : Operand} {i : Nat} (hR : Rel P s a w μ Pr) (ho : o.op = .fieldAddr t x i) (h : Hold O s (evOp P wr IC lit o) sc p sc') : o.wp P a w (After P (p.apply s) μ Pr w) Q := by
  simp only [evOp, ho] at h
  obtain ⟨v, sc1, h1, h2⟩ := hold_bind.1 h
  have hv := opd_ok hR h1
  split at h2
  · rename_i fs hu
    split at h2
    · rename_i f hf
      split at h2
      · rename_i n hz
        have hexec : ∀ {b o : Nat}, a.eval x = .pointer (some ⟨b, o, none⟩) → (execOp a.eval ‹Oper›).run P w = .ok (.value (.pointer (some ⟨b, o + f.offset, none⟩))) w := by
          intro b o hx
          simp only [execOp, ho, Instr.fieldAt, Sem.run_bind, run_und hu, Result.andThen_ok, hf, Sem.run_pure, Instr.sureAddr, hx, fieldPlace, run_szOf hz]
          simp [Addr.add]
        split at h2
        · obtain ⟨rfl, _⟩ := hold_ret.1 h2
          obtain ⟨b, k1, k2⟩ := hv
          exact goes_val hR (hexec k2) ⟨b, k1, rfl⟩
        · rw [hold_blk] at h2
          split at h2
          · rename_i e xs hb
            obtain ⟨rfl, _⟩ := hold_ret.1 h2
            rcases hv with ⟨e, m, b, cap, wd, k1, k2, k3, k4⟩ | ⟨s', lens, b, cap, inner, k1, k2, k3, k4⟩
            · exact goes_val hR (hexec k4) (.inl ⟨e, m, b, cap, wd, k1, k2, k3, by rw [Nat.add_assoc]⟩)
            · obtain ⟨hh, wd, cs, g1, g2, g3, g4, g5⟩ := hR.toSRel.lst (blk_some hb (by simp))
              rw [g2] at k1; cases k1
          · exact (hold_fail.1 h2).elim
        · obtain ⟨rfl, _⟩ := hold_ret.1 h2
          obtain ⟨b, o', k1, k2, k3⟩ := hv
          exact goes_val hR (hexec k2) ⟨b, o', k1, by rw [Nat.add_assoc], k3⟩
        · exact (hold_fail.1 h2).elim
      · exact (hold_fail.1 h2).elim
    · exact (hold_fail.1 h2).elim
  · exact (hold_fail.1 h2).elim

theorem aggCells_ok {v : V} {x : Value} {cs : List V} (h : aggCells v = some cs) (hv : VRel P w Pr vw v x) : ∃ us : List Value, x = .agg us.toArray ∧ All2 (fun c u => VRel0 P w Pr vw c u ∧ u.oneCell' = true) cs us := by
  unfold aggCells at h
  split at h
  · rename_i ds
    cases h
    obtain ⟨us, rfl, hl, h1, hd⟩ := drel_agg (show DRel w Pr (.agg ds) x from hv)
    refine ⟨us, rfl, All2.of (by simp [hl]) fun i c u hc hu => ?_⟩
    rw [List.getElem?_map, Option.map_eq_some_iff] at hc
    obtain ⟨y, hy, rfl⟩ := hc
    exact ⟨hd i y u hy hu, h1 u (List.mem_of_getElem? hu)⟩
  · cases h
    exact hv
  · cases h

theorem op_field {o : Oper} {t : TypeId} {x : Operand} {i : Nat} (hR : Rel P s a w μ Pr) (ho : o.op = .field t x i) (h : Hold O s (evOp P wr IC lit o) sc p sc') : o.wp P a w (After P (p.apply s) μ Pr w) Q := by
  simp only [evOp, ho] at h
  obtain ⟨v, sc1, h1, h2⟩ := hold_bind.1 h
  have hv := opd_ok hR h1
  split at h2
  · rename_i fs hu
    split at h2
    · rename_i f hf
      split at h2
      · rename_i cs hk hc
        split at h2
        · rename_i y hy
          obtain ⟨rfl, _⟩ := hold_ret.1 h2
          obtain ⟨us, k1, k2⟩ := aggCells_ok hc hv
          obtain ⟨u, hu2, hu3⟩ := k2.get f.offset y hy
          refine goes_val hR (x := u) ?_ hu3.1.toV
          have hpart : (part f.type us.toArray f.offset).run P w = .ok u w := by
            simp only [part, Sem.run_bind, run_isAgg_false hk, Result.andThen_ok, Bool.false_eq_true, if_false, List.getElem?_toArray, hu2, Sem.run_pure]
          simp only [execOp, ho, Instr.field, Sem.run_bind, run_und hu, Result.andThen_ok, hf, k1, asAgg, Sem.run_pure, hpart]
        · exact (hold_fail.1 h2).elim
      · exact (hold_fail.1 h2).elim
    · exact (hold_fail.1 h2).elim
  · exact (hold_fail.1 h2).elim

theorem op_index {o : Oper} {t : TypeId} {x ix : Operand} (hR : Rel P s a w μ Pr) (ho : o.op = .index t x ix) (h : Hold O s (evOp P wr IC lit o) sc p sc') : o.wp P a w (After P (p.apply s) μ Pr w) Q := by
  simp only [evOp, ho] at h
  obtain ⟨v, sc1, h1, h2⟩ := hold_bind.1 h
  obtain ⟨i, sc2, h3, h4⟩ := hold_bind.1 h2
  have hv := opd_ok hR h1
  have hi := opd_ok hR h3
  split at h4
  · rename_i l hu
    split at h4
    · rename_i k n
      have hn := drel_int (show DRel w Pr (.int k n) _ from hi)
      obtain ⟨q, hq, hql⟩ := drel_str (show DRel w Pr (.str l) _ from hv)
      have key : ∃ (m : Nat) (b : UInt8), n = (m : Int) ∧ l[m]? = some b ∧ p = putP o.dst (.d (u8 b)) := by
        rw [hold_pop] at h4
        rcases h4 with ⟨_, h4⟩ | ⟨it, u, _, h4⟩
        · simp only at h4
          split at h4
          · split at h4
            · rename_i h0 b hb; exact ⟨n.toNat, b, by omega, hb, (hold_ret.1 h4).1⟩
            · exact (hold_fail.1 h4).elim
          · exact (hold_fail.1 h4).elim
        · split at h4
          · obtain ⟨⟨k1, k2⟩, k3⟩ := hold_req.1 h4; exact ⟨_, _, k1, k2, (hold_ret.1 k3).1⟩
          · exact (hold_fail.1 h4).elim
          · rename_i hno; cases hno
      obtain ⟨m, b, rfl, hb, rfl⟩ := key
      refine goes_val hR (x := .int .u8 b.toNat) ?_ (show DRel w Pr (u8 b) _ from .int _ _)
      have hqm : q[m]? = some b := by
        subst hql
        have hlt : m < q.data.toList.length := (List.getElem?_eq_some_iff.1 hb).1
        have hlt' : m < q.size := by simpa using hlt
        rw [getElem?_pos q m hlt']
        rw [List.getElem?_eq_getElem hlt] at hb
        simp only [Option.some.injEq] at hb ⊢
        rw [← hb]
        rfl
      simp only [execOp, ho, Instr.index, hn, hq, asIntOf, Sem.run_bind, Sem.run_pure, Result.andThen_ok, run_und hu]
      simp [hqm]
    · exact (hold_fail.1 h4).elim
  · rename_i len e hu
    split at h4
    · rename_i cs hk hz hc
      split at h4
      · rename_i k n
        obtain ⟨us, k1, k2⟩ := aggCells_ok hc hv
        have fin : ∀ {m : Nat} {y : V}, a.eval ix = .int k (m : Int) → m < len → cs[m]? = some y → p = putP o.dst y → o.wp P a w (After P (p.apply s) μ Pr w) Q := by
          intro m y hm hlt hy hp
          subst hp
          obtain ⟨u, hu2, hu3⟩ := k2.get m y hy
          refine goes_val hR (x := u) ?_ hu3.1.toV
          have hpart : (part e us.toArray m).run P w = .ok u w := by
            simp only [part, Sem.run_bind, run_isAgg_false hk, Result.andThen_ok, Bool.false_eq_true, if_false, List.getElem?_toArray, hu2, Sem.run_pure]
          simp only [execOp, ho, Instr.index, hm, k1, asIntOf, Sem.run_bind, Sem.run_pure, Result.andThen_ok, run_und hu]
          rw [if_pos ⟨by omega, by omega⟩]
          simp only [Sem.run_bind, run_szOf hz, Result.andThen_ok, Int.toNat_natCast, Nat.mul_one, hpart, Sem.run_pure]
        split at h4
        · split at h4
          · rename_i hb
            split at h4
            · rename_i y hy
              obtain ⟨rfl, _⟩ := hold_ret.1 h4
              have hn := drel_int (show DRel w Pr (.int k n) _ from hi)
              exact fin (m := n.toNat) (by rw [hn]; congr 1; omega) (by omega) hy rfl
            · exact (hold_fail.1 h4).elim
          · exact (hold_fail.1 h4).elim
        · obtain ⟨r, sc3, h5, h6⟩ := hold_bind.1 h4
          obtain ⟨rfl, _⟩ := hold_ret.1 h6
          obtain ⟨kd, m, sc4, q1, q2, q3⟩ := ixQ_ok hi h5
          have hn := drel_int (show DRel w Pr (.int k n) _ from hi)
          rw [hn] at q1; cases q1
          split at q3
          · rename_i y hy
            obtain ⟨rfl, _⟩ := hold_ret.1 q3
            exact fin hn q2 hy rfl
          · exact (hold_fail.1 q3).elim
      · exact (hold_fail.1 h4).elim
    · exact (hold_fail.1 h4).elim
  · exact (hold_fail.1 h4).elim

theorem optRel_of {x : Option Operand} {vs : List V} (hR : Rel P s a w μ Pr) (h : Hold O s (opds x.toList) sc vs sc') : OptRel P w Pr (view s.blks μ) vs.head? (x.map a.eval) := by
  have := opds_ok hR h
  cases x with
  | none => cases vs with
    | nil => trivial
    | cons _ _ => exact this.elim
  | some y => cases vs with
    | nil => exact this.elim
    | cons v r => exact this.1

theorem op_slice {o : Oper} {t : TypeId} {x : Operand} {lo hi mx : Option Operand} (hR : Rel P s a w μ Pr) (ho : o.op = .slice t x lo hi mx) (h : Hold O s (evOp P wr IC lit o) sc p sc') : o.wp P a w (After P (p.apply s) μ Pr w) Q := by
  simp only [evOp, ho] at h
  obtain ⟨v, sc1, h1, h⟩ := hold_bind.1 h
  obtain ⟨lv, sc2, h2, h⟩ := hold_bind.1 h
  obtain ⟨hv, sc3, h3, h⟩ := hold_bind.1 h
  obtain ⟨mv, sc4, h4, h⟩ := hold_bind.1 h
  obtain ⟨r, u, rfl, g1, g2⟩ := sliceQ_ok hR.toSRel (opd_ok hR h1) (optRel_of hR h2) (optRel_of hR h3) (optRel_of hR h4) h
  exact goes_val hR (by simp only [execOp, ho, Sem.run_bind, g1, Result.andThen_ok, Sem.run_pure]) g2

end Go.Proofs.Ytbbefbgomdmldaa.Ab
