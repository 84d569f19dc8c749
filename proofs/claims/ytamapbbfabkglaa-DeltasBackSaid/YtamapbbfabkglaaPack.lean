/- deltas.Pack: what it computes, as a plain function with rounds, and that its call does just this. -/
import Derived.Test.YtamapbbfabkglaaFDeltasWrite
import Derived.Test.YtamapbbfabkglaaFDeltasCheck
import Derived.LoopN
namespace Go.Proofs.Ytamapbbfabkglaa.P
open Go.RowKit Go.Proofs.YtamapbbfabkglaaW.PrintWords Go.Proofs.YtamapbbfabkglaaW.PrintLast Go.Proofs.YtamapbbfabkglaaW.PrintMore
set_option linter.unusedVariables false
set_option linter.unusedSimpArgs false

def deltas_Pack.l0 : Nat → Int → List (S36) → List Int → Int → Option (List Int × Int)
  | 0, _, _, _, _ => none
  | k + 1, a0, l1, all, i =>
    if i < (l1.length : Int) then
      (if 0 ≤ i then
        (if (rd_T36 l1 i).f1 < 0 then some ([], 8)
         else if (rd_T36 l1 i).f0 < (rd_T36 l1 i).f1 then some ([], 8)
         else if wrap64 (2 * wrap64 (a0 + i)) ≤ (rd_T36 l1 i).f0 then some ([], 8)
         else (deltas_Write.f k (wrap64 (wrap64 (2 * wrap64 (a0 + i)) - (rd_T36 l1 i).f0))).bind fun p =>
           if p.2 = 0 then
             (if all.length + p.1.length < 140737488355328 then
               (deltas_Write.f k (wrap64 ((rd_T36 l1 i).f0 - (rd_T36 l1 i).f1))).bind fun q =>
                 if q.2 = 0 then
                   (if (all ++ p.1).length + q.1.length < 140737488355328 then deltas_Pack.l0 k a0 l1 ((all ++ p.1) ++ q.1) (wrap64 (i + 1)) else none)
                 else some ([], q.2)
              else none)
           else some ([], p.2))
       else none)
    else some (all, 0)

def deltas_Pack.f (k : Nat) (a0 : Int) (l1 : List (S36)) : Option (List Int × Int) :=
  (deltas_check.f k a0 (l1.length : Int)).bind fun t => if t = 0 then deltas_Pack.l0 k a0 l1 [] 0 else some ([], t)

set_option maxHeartbeats 2000000 in
set_option maxRecDepth 100000 in
theorem deltas_Pack.calls (k : Nat) (a0 : Int) (A1 : Option Addr) (c1 : Nat) (l1 : List (S36)) (r1 : List Int) (r2 : Int) (w : World) (hr1 : Kd.C k36 w A1 l1.length l1) (hc1 : l1.length ≤ c1) (h : deltas_Pack.f k a0 l1 = some (r1, r2)) :
    Calls Try.prog 16 #[.int .i64 a0, .slice A1 l1.length c1] w fun e w' => ∃ v0_ : Value, e = .returned (.tuple #[v0_, .int .i64 r2]) ∧ Kd.R (Kd.int .u8) 5 w' w.heap.size (fun _ => True) v0_ r1 ∧ Below w.heap.size w w' := by
  have hu := Try.underlying36
  have HR1 := Aside0.mk hr1
  have HC1 := Aside0.mk hc1
  clear hr1 hc1
  unfold deltas_Pack.f at h
  obtain ⟨t, A3, H⟩ := Option.bind_eq_some_iff.mp h
  clear h
  replace A3 := Aside0.mk A3
  have H : (if t = 0 then deltas_Pack.l0 k a0 l1 [] 0 else some ([], t)) = some (r1, r2) := H
  by_cases c4 : t = 0
  · rw [if_pos c4] at H
    have c4b0 : (t == 0) = true := beq_iff_eq.mpr c4
    have c4b1 : (t != 0) = false := bne_eq_false_iff_eq.mpr c4
    clear c4
    have H' := Aside0.mk H
    clear H
    go_enter Try.func16, Try.ntmps16
    go_wp2_with (go_at_call 25; refine (deltas_check.calls k a0 (l1.length : Int) t _ A3.out).mono ?_; rintro e w' ⟨rfl, ⟨nd, rfl⟩⟩)
    go_loopg [7, 24] k (fun kq v7 v24 w' => ∃ (all : List Int) (i : Int), v24 = .int .i64 i ∧ Aside0 (deltas_Pack.l0 kq a0 l1 all i = some (r1, r2)) ∧ Aside0 (kq ≤ k) ∧ Aside0 (Kd.R (Kd.int .u8) 5 w' w.heap.size (fun _ => True) v7 all) ∧ Aside0 (Below w.heap.size w w'))
    case atStart => exact ⟨[], 0, rfl, H', ⟨Nat.le_refl _⟩, ⟨Kd.R_nil _ _ _ _ _⟩, ⟨pw_below_drewN (Below.refl _ _) _⟩⟩
    case round =>
      clear H' A3
      obtain ⟨all, i, rfl, HA, HK, HO, HB⟩ := hrel
      cases gk with
      | zero => exact absurd HA.out (by simp [deltas_Pack.l0])
      | succ kk =>
        have H := HA.out
        clear HA
        simp only [deltas_Pack.l0] at H
        by_cases c5 : i < (l1.length : Int)
        · rw [if_pos c5] at H
          have c5b0 : decide (i < (l1.length : Int)) = true := decide_eq_true c5
          by_cases c6 : 0 ≤ i
          · rw [if_pos c6] at H
            obtain ⟨ad, e1, hx0, hx1⟩ := at_T36 HR1.out i c6 c5
            cases e1
            replace hx0 := (HB.out.cell (World.block_lt_of_cell? w _ hx0)).trans hx0
            replace hx1 := (HB.out.cell (World.block_lt_of_cell? w _ hx1)).trans hx1
            have p1 := eq_true c6
            have p2 := eq_true c5
            generalize hg0 : (rd_T36 l1 i).f0 = g0 at *
            generalize hg1 : (rd_T36 l1 i).f1 = g1 at *
            clear hg0 hg1
            by_cases d1 : g1 < 0
            · rw [if_pos d1] at H
              have e0 : ((([] : List Int), (8 : Int))) = (r1, r2) := Option.some.inj H
              obtain ⟨rfl, rfl⟩ := Prod.mk.inj e0
              clear H e0
              have d1b : decide (g1 < 0) = true := decide_eq_true d1
              clear d1 c5 c6
              have HBz := Aside0.mk (below_alloc HB.out (.cells #[.int .i64 g0, .int .i64 g1] 36))
              go_wp2
              go_ret2
              exact ⟨_, rfl, Kd.R_nil _ _ _ _ _, HBz.out⟩
            · by_cases d2 : g0 < g1
              · rw [if_neg d1, if_pos d2] at H
                have e0 : ((([] : List Int), (8 : Int))) = (r1, r2) := Option.some.inj H
                obtain ⟨rfl, rfl⟩ := Prod.mk.inj e0
                clear H e0
                have d1b : decide (g1 < 0) = false := decide_eq_false d1
                have d2b : decide (g0 < g1) = true := decide_eq_true d2
                clear d1 d2 c5 c6
                have HBz := Aside0.mk (below_alloc HB.out (.cells #[.int .i64 g0, .int .i64 g1] 36))
                go_wp2
                go_ret2
                exact ⟨_, rfl, Kd.R_nil _ _ _ _ _, HBz.out⟩
              · by_cases d3 : wrap64 (2 * wrap64 (a0 + i)) ≤ g0
                · rw [if_neg d1, if_neg d2, if_pos d3] at H
                  have e0 : ((([] : List Int), (8 : Int))) = (r1, r2) := Option.some.inj H
                  obtain ⟨rfl, rfl⟩ := Prod.mk.inj e0
                  clear H e0
                  have d1b : decide (g1 < 0) = false := decide_eq_false d1
                  have d2b : decide (g0 < g1) = false := decide_eq_false d2
                  have d3b : decide (wrap64 (2 * wrap64 (a0 + i)) ≤ g0) = true := decide_eq_true d3
                  clear d1 d2 d3 c5 c6
                  have HBz := Aside0.mk (below_alloc HB.out (.cells #[.int .i64 g0, .int .i64 g1] 36))
                  go_wp2
                  go_ret2
                  exact ⟨_, rfl, Kd.R_nil _ _ _ _ _, HBz.out⟩
                · rw [if_neg d1, if_neg d2, if_neg d3] at H
                  have d1b : decide (g1 < 0) = false := decide_eq_false d1
                  have d2b : decide (g0 < g1) = false := decide_eq_false d2
                  have d3b : decide (wrap64 (2 * wrap64 (a0 + i)) ≤ g0) = false := decide_eq_false d3
                  clear d1 d2 d3 c5 c6
                  have H' := Aside0.mk H
                  clear H
                  go_wp2
                  obtain ⟨⟨b1, x1⟩, A5, H⟩ := Option.bind_eq_some_iff.mp H'.out
                  clear H'
                  replace A5 := Aside0.mk A5
                  dsimp only at H
                  refine wp_loop_rounds 3 ?_
                  rw [rounds_succ]
                  by_cases z1 : x1 = 0
                  · rw [if_pos z1] at H
                    subst z1
                    by_cases lm1 : all.length + b1.length < 140737488355328
                    · rw [if_pos lm1] at H
                      replace lm1 := Aside0.mk lm1
                      replace H := Option.bind_eq_some_iff.mp H
                      obtain ⟨⟨b2, x2⟩, A6, H⟩ := H
                      replace A6 := Aside0.mk A6
                      dsimp only at H
                      by_cases z2 : x2 = 0
                      · rw [if_pos z2] at H
                        subst z2
                        by_cases lm2 : (all ++ b1).length + b2.length < 140737488355328
                        · rw [if_pos lm2] at H
                          replace lm2 := Aside0.mk lm2
                          have H' := Aside0.mk H
                          clear H
                          have ix0 : ∀ (x0 x1 : Value) (W : World), (Instr.index 55 (.agg #[x0, x1]) (.int .i64 0)).run Try.prog W = .ok x0 W := fun _ _ _ => by rfl
                          have ix1 : ∀ (x0 x1 : Value) (W : World), (Instr.index 55 (.agg #[x0, x1]) (.int .i64 1)).run Try.prog W = .ok x1 W := fun _ _ _ => by rfl
                          go_wp2_with (first | (go_at_call 10; refine (deltas_Write.calls kk _ b1 0 _ A5.out).mono ?_; rintro e w1 ⟨v1, rfl, ho, hb⟩; obtain ⟨Av1, cv1, rfl, _, hC⟩ := Kd.R_reads ho; have HB2 := Aside0.mk (below_step (below_alloc HB.out _) hb); have HO2 := Aside0.mk (Kd.R_below (Kd.R_alloc HO.out _) hb); have HC2 := Aside0.mk hC; clear hC ho hb) | (at_builtin; refine Kd.R_append_row (Value.int .u8) (0 : Int) (h1 := fun _ => rfl) (w0 := w) w.heap.size rfl (.tmp 70) (.tmp 71) 22 5 (.int .u8 0) 1 rfl Try.underlying22 info5 rfl (by decide) u7 (all) b1 Av1 b1.length cv1 (fun _ => True) rfl rfl (fun _ _ => trivial) HO2.out HC2.out HB2.out (below_size HB2.out) (by have := lm1.out; omega) ?_; intro v3 w3 ho hb hg hat; have HB3 := Aside0.mk hb; have HO3 := Aside0.mk ho; clear ho hb hg hat))
                          rw [rounds_succ]
                          go_wp2_with (first | (go_at_call 10; refine (deltas_Write.calls kk _ b2 0 _ A6.out).mono ?_; rintro e w4 ⟨v4, rfl, ho, hb⟩; obtain ⟨Av4, cv4, rfl, _, hC⟩ := Kd.R_reads ho; have HB4 := Aside0.mk (below_step HB3.out hb); have HO4 := Aside0.mk (Kd.R_below HO3.out hb); have HC4 := Aside0.mk hC; clear hC ho hb) | (at_builtin; refine Kd.R_append_row (Value.int .u8) (0 : Int) (h1 := fun _ => rfl) (w0 := w) w.heap.size rfl (.tmp 70) (.tmp 71) 22 5 (.int .u8 0) 1 rfl Try.underlying22 info5 rfl (by decide) v3 (all ++ b1) b2 Av4 b2.length cv4 (fun _ => True) rfl rfl (fun _ _ => trivial) HO4.out HC4.out HB4.out (below_size HB4.out) (by have := lm2.out; omega) ?_; intro v5 w5 ho hb hg hat; have HB5 := Aside0.mk hb; have HO5 := Aside0.mk ho; clear ho hb hg hat))
                          rw [rounds_succ]
                          go_wp2
                          go_roundg kk
                          case measure => have := HK.out; omega
                          case rel => exact ⟨(all ++ b1) ++ b2, wrap64 (i + 1), rfl, H', ⟨by have := HK.out; omega⟩, HO5, HB5⟩
                        · rw [if_neg lm2] at H; cases H
                      · rw [if_neg z2] at H
                        have e0 : ((([] : List Int), x2)) = (r1, r2) := Option.some.inj H
                        obtain ⟨rfl, rfl⟩ := Prod.mk.inj e0
                        clear H e0
                        have z2b : (x2 != 0) = true := bne_iff_ne.mpr z2
                        have ix0 : ∀ (x0 x1 : Value) (W : World), (Instr.index 55 (.agg #[x0, x1]) (.int .i64 0)).run Try.prog W = .ok x0 W := fun _ _ _ => by rfl
                        have ix1 : ∀ (x0 x1 : Value) (W : World), (Instr.index 55 (.agg #[x0, x1]) (.int .i64 1)).run Try.prog W = .ok x1 W := fun _ _ _ => by rfl
                        go_wp2_with (first | (go_at_call 10; refine (deltas_Write.calls kk _ b1 0 _ A5.out).mono ?_; rintro e w1 ⟨v1, rfl, ho, hb⟩; obtain ⟨Av1, cv1, rfl, _, hC⟩ := Kd.R_reads ho; have HB2 := Aside0.mk (below_step (below_alloc HB.out _) hb); have HO2 := Aside0.mk (Kd.R_below (Kd.R_alloc HO.out _) hb); have HC2 := Aside0.mk hC; clear hC ho hb) | (at_builtin; refine Kd.R_append_row (Value.int .u8) (0 : Int) (h1 := fun _ => rfl) (w0 := w) w.heap.size rfl (.tmp 70) (.tmp 71) 22 5 (.int .u8 0) 1 rfl Try.underlying22 info5 rfl (by decide) u7 (all) b1 Av1 b1.length cv1 (fun _ => True) rfl rfl (fun _ _ => trivial) HO2.out HC2.out HB2.out (below_size HB2.out) (by have := lm1.out; omega) ?_; intro v3 w3 ho hb hg hat; have HB3 := Aside0.mk hb; have HO3 := Aside0.mk ho; clear ho hb hg hat))
                        rw [rounds_succ]
                        go_wp2_with (go_at_call 10; refine (deltas_Write.calls kk _ b2 x2 _ A6.out).mono ?_; rintro e w4 ⟨v4, rfl, ho, hb⟩; have HB4 := Aside0.mk (below_step HB3.out hb); clear ho hb)
                        go_ret2
                        exact ⟨_, rfl, Kd.R_nil _ _ _ _ _, HB4.out⟩
                    · rw [if_neg lm1] at H; cases H
                  · rw [if_neg z1] at H
                    have e0 : ((([] : List Int), x1)) = (r1, r2) := Option.some.inj H
                    obtain ⟨rfl, rfl⟩ := Prod.mk.inj e0
                    clear H e0
                    have z1b : (x1 != 0) = true := bne_iff_ne.mpr z1
                    have ix0 : ∀ (x0 x1 : Value) (W : World), (Instr.index 55 (.agg #[x0, x1]) (.int .i64 0)).run Try.prog W = .ok x0 W := fun _ _ _ => by rfl
                    have ix1 : ∀ (x0 x1 : Value) (W : World), (Instr.index 55 (.agg #[x0, x1]) (.int .i64 1)).run Try.prog W = .ok x1 W := fun _ _ _ => by rfl
                    go_wp2_with (go_at_call 10; refine (deltas_Write.calls kk _ b1 x1 _ A5.out).mono ?_; rintro e w4 ⟨v4, rfl, ho, hb⟩; have HB4 := Aside0.mk (below_step (below_alloc HB.out _) hb); clear ho hb)
                    go_ret2
                    exact ⟨_, rfl, Kd.R_nil _ _ _ _ _, HB4.out⟩
          · rw [if_neg c6] at H; cases H
        · rw [if_neg c5] at H
          have c5b0 : decide (i < (l1.length : Int)) = false := decide_eq_false c5
          have e0 : (all, (0 : Int)) = (r1, r2) := Option.some.inj H
          obtain ⟨rfl, rfl⟩ := Prod.mk.inj e0
          clear H e0 c5
          go_wp2
          go_ret2
          exact ⟨_, rfl, HO.out, HB.out⟩
  · rw [if_neg c4] at H
    have c4b1 : (t != 0) = true := bne_iff_ne.mpr c4
    have e0 : ((([] : List Int), t)) = (r1, r2) := Option.some.inj H
    obtain ⟨rfl, rfl⟩ := Prod.mk.inj e0
    clear H e0 c4
    go_enter Try.func16, Try.ntmps16
    go_wp2_with (go_at_call 25; refine (deltas_check.calls k a0 (l1.length : Int) t _ A3.out).mono ?_; rintro e w' ⟨rfl, ⟨nd, rfl⟩⟩)
    go_ret2
    exact ⟨_, rfl, Kd.R_nil _ _ _ _ _, pw_below_drewN (Below.refl _ _) _⟩
end Go.Proofs.Ytamapbbfabkglaa.P
