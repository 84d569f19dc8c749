/- deltas.Unpack: what it computes, as a plain function with rounds, and that its call does just this. -/
import Derived.Test.YtamapbbfabkglaaFDeltasRead
import Derived.Test.YtamapbbfabkglaaFDeltasCheck
import Derived.LoopN
namespace Go.Proofs.Ytamapbbfabkglaa.P
open Go.RowKit Go.Proofs.YtamapbbfabkglaaW.PrintWords Go.Proofs.YtamapbbfabkglaaW.PrintLast Go.Proofs.YtamapbbfabkglaaW.PrintMore
set_option linter.unusedVariables false
set_option linter.unusedSimpArgs false

def deltas_Unpack.l0 : Nat → Int → Int → List Int → List (S36) → Int → Int → Option (List (S36) × Int × Int)
  | 0, _, _, _, _, _, _ => none
  | k + 1, a0, a1, b, l, at_, i =>
    if i < a1 then
      (if 0 ≤ at_ then (if at_ ≤ (b.length : Int) then
        ((deltas_Read.f k (b.drop at_.toNat)).bind fun p =>
          if p.2.2 = 0 then
            (if wrap64 (2 * wrap64 (a0 + i)) < p.1 then some ([], 0, 8) else if p.1 = 0 then some ([], 0, 8) else
             if 0 ≤ wrap64 (at_ + p.2.1) then (if wrap64 (at_ + p.2.1) ≤ (b.length : Int) then
               ((deltas_Read.f k (b.drop (wrap64 (at_ + p.2.1)).toNat)).bind fun q =>
                 if q.2.2 = 0 then
                   (if wrap64 (wrap64 (2 * wrap64 (a0 + i)) - p.1) < q.1 then some ([], 0, 8) else
                    if l.length < 8796093022208 then
                      deltas_Unpack.l0 k a0 a1 b (l ++ [⟨wrap64 (wrap64 (2 * wrap64 (a0 + i)) - p.1), wrap64 (wrap64 (wrap64 (2 * wrap64 (a0 + i)) - p.1) - q.1)⟩]) (wrap64 (wrap64 (at_ + p.2.1) + q.2.1)) (wrap64 (i + 1))
                    else none)
                 else some ([], 0, q.2.2)) else none) else none)
          else some ([], 0, p.2.2)) else none) else none)
    else some (l, at_, 0)

def deltas_Unpack.f (k : Nat) (a0 : Int) (a1 : Int) (b : List Int) : Option (List (S36) × Int × Int) :=
  (deltas_check.f k a0 a1).bind fun t => if t = 0 then deltas_Unpack.l0 k a0 a1 b [] 0 0 else some ([], 0, t)

theorem World.size_drewN (w : World) (n : Nat) : (w.drewN n).heap.size = w.heap.size := rfl

set_option maxHeartbeats 4000000 in
set_option maxRecDepth 100000 in
theorem deltas_Unpack.calls (k : Nat) (a0 : Int) (a1 : Int) (A2 : Option Addr) (c2 : Nat) (b : List Int) (r1 : List (S36)) (r2 r3 : Int) (w : World) (hr2 : Kd.C (Kd.int .u8) w A2 b.length b) (hc2 : b.length ≤ c2) (h : deltas_Unpack.f k a0 a1 b = some (r1, r2, r3)) :
    Calls Try.prog 17 #[.int .i64 a0, .int .i64 a1, .slice A2 b.length c2] w fun e w' => ∃ v0_ : Value, e = .returned (.tuple #[v0_, .int .i64 r2, .int .i64 r3]) ∧ Kd.R k36 36 w' w.heap.size (fun _ => True) v0_ r1 ∧ Below w.heap.size w w' := by
  have hu := Try.underlying36
  have HR2 := Aside0.mk hr2
  have HC2 := Aside0.mk hc2
  clear hr2 hc2
  obtain ⟨ib, hib, _, hsz, _⟩ := info_parts info5
  have HI := Aside0.mk hib
  have HZ := Aside0.mk hsz
  clear hib hsz
  unfold deltas_Unpack.f at h
  obtain ⟨t, A3, H⟩ := Option.bind_eq_some_iff.mp h
  clear h
  replace A3 := Aside0.mk A3
  have H : (if t = 0 then deltas_Unpack.l0 k a0 a1 b [] 0 0 else some ([], 0, t)) = some (r1, r2, r3) := H
  by_cases c4 : t = 0
  · rw [if_pos c4] at H
    have c4b0 : (t == 0) = true := beq_iff_eq.mpr c4
    have c4b1 : (t != 0) = false := bne_eq_false_iff_eq.mpr c4
    clear c4
    have H' := Aside0.mk H
    clear H
    go_enter Try.func17, Try.ntmps17
    go_wp2_with (go_at_call 25; refine (deltas_check.calls k a0 a1 t _ A3.out).mono ?_; rintro e w' ⟨rfl, ⟨nd, rfl⟩⟩)
    go_loopg [10, 11, 25] k (fun kq v10 v11 v25 w' => ∃ (l : List S36) (at_ i : Int), v11 = .int .i64 at_ ∧ v25 = .int .i64 i ∧ Aside0 (deltas_Unpack.l0 kq a0 a1 b l at_ i = some (r1, r2, r3)) ∧ Aside0 (kq ≤ k) ∧ Aside0 (Kd.R k36 36 w' w.heap.size (fun _ => True) v10 l) ∧ Aside0 (Below w.heap.size w w'))
    case atStart => exact ⟨[], 0, 0, rfl, rfl, H', ⟨Nat.le_refl _⟩, ⟨Kd.R_nil _ _ _ _ _⟩, ⟨pw_below_drewN (Below.refl _ _) _⟩⟩
    case round =>
      clear H' A3
      obtain ⟨l, at_, i, rfl, rfl, HA, HK, HO, HB⟩ := hrel
      cases gk with
      | zero => exact absurd HA.out (by simp [deltas_Unpack.l0])
      | succ kk =>
        have H := HA.out
        clear HA
        simp only [deltas_Unpack.l0] at H
        by_cases c5 : i < a1
        · rw [if_pos c5] at H
          have c5b0 : decide (i < a1) = true := decide_eq_true c5
          clear c5
          by_cases c6 : 0 ≤ at_
          · rw [if_pos c6] at H
            by_cases c7 : at_ ≤ (b.length : Int)
            · rw [if_pos c7] at H
              obtain ⟨A1, hcut1, hA1, hl1⟩ := print_drop_of (P := Try.prog) (Value.int .u8) (0 : Int) 22 5 .i64 Try.underlying22 HI.out HZ.out A2 c2 b at_ c6 c7 HC2.out
              have HR3 := Aside0.mk (Kd.C_of_reads (h1 := fun _ => rfl) (hA1 _ (Kd.reads_of_C (d := (0 : Int)) HR2.out)))
              have HC3 := Aside0.mk hl1
              clear hA1 hl1
              replace H := Option.bind_eq_some_iff.mp H
              obtain ⟨⟨d1, s1, x1⟩, A5, H⟩ := H
              replace A5 := Aside0.mk A5
              dsimp only at H
              have p1 := eq_true c6
              have p2 := eq_true c7
              clear c6 c7
              generalize hd1 : b.drop at_.toNat = bd1 at *
              clear hd1
              have H' := Aside0.mk H
              clear H
              go_wp2
              refine wp_loop_rounds 3 ?_
              rw [rounds_succ]
              replace H := H'.out
              clear H'
              by_cases z1 : x1 = 0
              · rw [if_pos z1] at H
                subst z1
                by_cases g1 : wrap64 (2 * wrap64 (a0 + i)) < d1
                · rw [if_pos g1] at H
                  have g1b : decide (wrap64 (2 * wrap64 (a0 + i)) < d1) = true := decide_eq_true g1
                  clear g1
                  have e0 : ((([] : List S36), (0 : Int), 8)) = (r1, r2, r3) := Option.some.inj H
                  obtain ⟨rfl, e1⟩ := Prod.mk.inj e0
                  obtain ⟨rfl, rfl⟩ := Prod.mk.inj e1
                  clear H e0 e1
                  go_wp2_with (go_at_call 12; refine (deltas_Read.calls kk A1 (c2 - at_.toNat) bd1 d1 s1 0 _ (Kd.C_alloc (Kd.C_below HR3.out HB.out) _) HC3.out A5.out).mono ?_; rintro e w' ⟨rfl, ⟨n1, rfl⟩⟩)
                  go_ret3
                  exact ⟨_, rfl, Kd.R_nil _ _ _ _ _, by repeat (first | exact HB.out | apply pw_below_drewN | apply below_alloc)⟩
                · rw [if_neg g1] at H
                  have g1b : decide (wrap64 (2 * wrap64 (a0 + i)) < d1) = false := decide_eq_false g1
                  clear g1
                  by_cases g2 : d1 = 0
                  · rw [if_pos g2] at H
                    have g2b : (d1 == 0) = true := beq_iff_eq.mpr g2
                    clear g2
                    have e0 : ((([] : List S36), (0 : Int), 8)) = (r1, r2, r3) := Option.some.inj H
                    obtain ⟨rfl, e1⟩ := Prod.mk.inj e0
                    obtain ⟨rfl, rfl⟩ := Prod.mk.inj e1
                    clear H e0 e1
                    go_wp2_with (go_at_call 12; refine (deltas_Read.calls kk A1 (c2 - at_.toNat) bd1 d1 s1 0 _ (Kd.C_alloc (Kd.C_below HR3.out HB.out) _) HC3.out A5.out).mono ?_; rintro e w' ⟨rfl, ⟨n1, rfl⟩⟩)
                    go_ret3
                    exact ⟨_, rfl, Kd.R_nil _ _ _ _ _, by repeat (first | exact HB.out | apply pw_below_drewN | apply below_alloc)⟩
                  · rw [if_neg g2] at H
                    have g2b : (d1 == 0) = false := beq_eq_false_iff_ne.mpr g2
                    clear g2
                    by_cases g3 : 0 ≤ wrap64 (at_ + s1)
                    · rw [if_pos g3] at H
                      by_cases g4 : wrap64 (at_ + s1) ≤ (b.length : Int)
                      · rw [if_pos g4] at H
                        obtain ⟨A2', hcut2, hA2, hl2⟩ := print_drop_of (P := Try.prog) (Value.int .u8) (0 : Int) 22 5 .i64 Try.underlying22 HI.out HZ.out A2 c2 b _ g3 g4 HC2.out
                        have HR4 := Aside0.mk (Kd.C_of_reads (h1 := fun _ => rfl) (hA2 _ (Kd.reads_of_C (d := (0 : Int)) HR2.out)))
                        have HC4 := Aside0.mk hl2
                        clear hA2 hl2
                        replace H := Option.bind_eq_some_iff.mp H
                        obtain ⟨⟨d2, s2, x2⟩, A6, H⟩ := H
                        replace A6 := Aside0.mk A6
                        dsimp only at H
                        have p3 := eq_true g3
                        have p4 := eq_true g4
                        clear g3 g4
                        generalize hd2 : b.drop (wrap64 (at_ + s1)).toNat = bd2 at *
                        clear hd2
                        have H' := Aside0.mk H
                        clear H
                        go_wp2_with (go_at_call 12; refine (deltas_Read.calls kk A1 (c2 - at_.toNat) bd1 d1 s1 0 _ (Kd.C_alloc (Kd.C_below HR3.out HB.out) _) HC3.out A5.out).mono ?_; rintro e w' ⟨rfl, ⟨n1, rfl⟩⟩)
                        have hge : w.heap.size ≤ wr.heap.size := HB.out.size
                        have BK := blk_put (cs' := #[.int .i64 (wrap64 (2 * wrap64 (a0 + i))), .int .i64 (wrap64 ((wrap64 (2 * wrap64 (a0 + i))) - d1)), .int .i64 0]) (blk_drewN (blk_new wr (.cells #[.int .i64 (wrap64 (2 * wrap64 (a0 + i))), .int .i64 0, .int .i64 0] 56)) n1) 1 (.int .i64 (wrap64 ((wrap64 (2 * wrap64 (a0 + i))) - d1))) rfl
                        have HBw := Aside0.mk (below_set (j := 1) (v := .int .i64 (wrap64 ((wrap64 (2 * wrap64 (a0 + i))) - d1))) (pw_below_drewN (below_alloc HB.out (.cells #[.int .i64 (wrap64 (2 * wrap64 (a0 + i))), .int .i64 0, .int .i64 0] 56)) n1) hge)
                        have HOw := Aside0.mk (Kd.R_set (Kd.R_drewN (Kd.R_alloc HO.out (.cells #[.int .i64 (wrap64 (2 * wrap64 (a0 + i))), .int .i64 0, .int .i64 0] 56)) n1) (blk_drewN (blk_new wr (.cells #[.int .i64 (wrap64 (2 * wrap64 (a0 + i))), .int .i64 0, .int .i64 0] 56)) n1) (by decide) 1 (.int .i64 (wrap64 ((wrap64 (2 * wrap64 (a0 + i))) - d1))))
                        rw [rounds_succ]
                        replace H := H'.out
                        clear H'
                        by_cases z2 : x2 = 0
                        · rw [if_pos z2] at H
                          subst z2
                          by_cases g5 : (wrap64 ((wrap64 (2 * wrap64 (a0 + i))) - d1)) < d2
                          · rw [if_pos g5] at H
                            have g5b : decide ((wrap64 ((wrap64 (2 * wrap64 (a0 + i))) - d1)) < d2) = true := decide_eq_true g5
                            clear g5
                            have e0 : ((([] : List S36), (0 : Int), 8)) = (r1, r2, r3) := Option.some.inj H
                            obtain ⟨rfl, e1⟩ := Prod.mk.inj e0
                            obtain ⟨rfl, rfl⟩ := Prod.mk.inj e1
                            clear H e0 e1
                            go_wp2_with (go_at_call 12; refine (deltas_Read.calls kk A2' (c2 - (wrap64 (at_ + s1)).toNat) bd2 d2 s2 0 _ (Kd.C_below HR4.out HBw.out) HC4.out A6.out).mono ?_; rintro e w' ⟨rfl, ⟨n2, rfl⟩⟩)
                            go_ret3
                            exact ⟨_, rfl, Kd.R_nil _ _ _ _ _, by repeat (first | exact HBw.out | apply pw_below_drewN | apply below_alloc)⟩
                          · rw [if_neg g5] at H
                            have g5b : decide ((wrap64 ((wrap64 (2 * wrap64 (a0 + i))) - d1)) < d2) = false := decide_eq_false g5
                            clear g5
                            by_cases lm : l.length < 8796093022208
                            · rw [if_pos lm] at H
                              replace lm := Aside0.mk lm
                              have H' := Aside0.mk H
                              clear H
                              go_wp2_with (go_at_call 12; refine (deltas_Read.calls kk A2' (c2 - (wrap64 (at_ + s1)).toNat) bd2 d2 s2 0 _ (Kd.C_below HR4.out HBw.out) HC4.out A6.out).mono ?_; rintro e w' ⟨rfl, ⟨n2, rfl⟩⟩)
                              rw [rounds_succ]
                              have BKx := blk_put (cs' := #[.int .i64 (wrap64 (2 * wrap64 (a0 + i))), .int .i64 (wrap64 ((wrap64 (2 * wrap64 (a0 + i))) - d1)), .int .i64 (wrap64 ((wrap64 ((wrap64 (2 * wrap64 (a0 + i))) - d1)) - d2))]) (blk_drewN BK n2) 2 (.int .i64 (wrap64 ((wrap64 ((wrap64 (2 * wrap64 (a0 + i))) - d1)) - d2))) rfl
                              have HBx := Aside0.mk (below_set (j := 2) (v := .int .i64 (wrap64 ((wrap64 ((wrap64 (2 * wrap64 (a0 + i))) - d1)) - d2))) (pw_below_drewN HBw.out n2) hge)
                              have HOx := Aside0.mk (Kd.R_set (Kd.R_drewN HOw.out n2) (blk_drewN BK n2) (by decide) 2 (.int .i64 (wrap64 ((wrap64 ((wrap64 (2 * wrap64 (a0 + i))) - d1)) - d2))))
                              go_wp2_with (at_builtin; refine Kd.R_append k36 (w0 := w) w.heap.size rfl (.tmp 72) (.tmp 78) 37 36 (.agg #[(.int .i64 0), (.int .i64 0)]) 16 rfl Try.underlying37 info36 rfl (by decide) (by omega) u10 l (⟨(wrap64 ((wrap64 (2 * wrap64 (a0 + i))) - d1)), wrap64 ((wrap64 ((wrap64 (2 * wrap64 (a0 + i))) - d1)) - d2)⟩ : S36) [.int .i64 (wrap64 ((wrap64 (2 * wrap64 (a0 + i))) - d1)), .int .i64 (wrap64 ((wrap64 ((wrap64 (2 * wrap64 (a0 + i))) - d1)) - d2))] (fun _ => True) (fun _ => False) rfl ?aX ?aP (fun _ hk => hk.elim) ?aF ?aO ?aB ?aS ?aL ?_; (case aX => (show Value.slice (some ⟨wr.heap.size + 1, 0, none⟩) 1 1 = Value.slice (some ⟨(World.heap _).size, 0, none⟩) 1 1); rw [World.size_setCell, World.size_drewN, World.size_setCell, World.size_drewN, World.size_alloc]); (case aP => exact k36_mkM _ _ _ (⟨(wrap64 ((wrap64 (2 * wrap64 (a0 + i))) - d1)), wrap64 ((wrap64 ((wrap64 (2 * wrap64 (a0 + i))) - d1)) - d2)⟩ : S36)); (case aF => exact fun _ _ => trivial); (case aO => exact HOx.out); (case aB => exact HBx.out); (case aS => exact below_size HBx.out); (case aL => have := lm.out; omega); intro v5 w5 ho hb hg hat; have HB5 := Aside0.mk hb; have HO5 := Aside0.mk ho; clear ho hb hg hat)
                              go_roundg kk
                              case measure => have := HK.out; omega
                              case rel => exact ⟨_, _, _, rfl, rfl, H', ⟨by have := HK.out; omega⟩, HO5, HB5⟩
                            · rw [if_neg lm] at H; cases H
                        · rw [if_neg z2] at H
                          have z2b : (x2 != 0) = true := bne_iff_ne.mpr z2
                          clear z2
                          have e0 : ((([] : List S36), (0 : Int), x2)) = (r1, r2, r3) := Option.some.inj H
                          obtain ⟨rfl, e1⟩ := Prod.mk.inj e0
                          obtain ⟨rfl, rfl⟩ := Prod.mk.inj e1
                          clear H e0 e1
                          go_wp2_with (go_at_call 12; refine (deltas_Read.calls kk A2' (c2 - (wrap64 (at_ + s1)).toNat) bd2 d2 s2 x2 _ (Kd.C_below HR4.out HBw.out) HC4.out A6.out).mono ?_; rintro e w' ⟨rfl, ⟨n2, rfl⟩⟩)
                          go_ret3
                          exact ⟨_, rfl, Kd.R_nil _ _ _ _ _, by repeat (first | exact HBw.out | apply pw_below_drewN | apply below_alloc)⟩
                      · rw [if_neg g4] at H; cases H
                    · rw [if_neg g3] at H; cases H
              · rw [if_neg z1] at H
                have z1b : (x1 != 0) = true := bne_iff_ne.mpr z1
                clear z1
                have e0 : ((([] : List S36), (0 : Int), x1)) = (r1, r2, r3) := Option.some.inj H
                obtain ⟨rfl, e1⟩ := Prod.mk.inj e0
                obtain ⟨rfl, rfl⟩ := Prod.mk.inj e1
                clear H e0 e1
                go_wp2_with (go_at_call 12; refine (deltas_Read.calls kk A1 (c2 - at_.toNat) bd1 d1 s1 x1 _ (Kd.C_alloc (Kd.C_below HR3.out HB.out) _) HC3.out A5.out).mono ?_; rintro e w' ⟨rfl, ⟨n1, rfl⟩⟩)
                go_ret3
                exact ⟨_, rfl, Kd.R_nil _ _ _ _ _, by repeat (first | exact HB.out | apply pw_below_drewN | apply below_alloc)⟩
            · rw [if_neg c7] at H; cases H
          · rw [if_neg c6] at H; cases H
        · rw [if_neg c5] at H
          have c5b0 : decide (i < a1) = false := decide_eq_false c5
          have e0 : (l, at_, (0 : Int)) = (r1, r2, r3) := Option.some.inj H
          obtain ⟨rfl, e1⟩ := Prod.mk.inj e0
          obtain ⟨rfl, rfl⟩ := Prod.mk.inj e1
          clear H e0 e1 c5
          go_wp2
          go_ret3
          exact ⟨_, rfl, HO.out, HB.out⟩
  · rw [if_neg c4] at H
    have c4b1 : (t != 0) = true := bne_iff_ne.mpr c4
    have e0 : ((([] : List S36), (0 : Int), t)) = (r1, r2, r3) := Option.some.inj H
    obtain ⟨rfl, e1⟩ := Prod.mk.inj e0
    obtain ⟨rfl, rfl⟩ := Prod.mk.inj e1
    clear H e0 e1 c4
    go_enter Try.func17, Try.ntmps17
    go_wp2_with (go_at_call 25; refine (deltas_check.calls k a0 a1 t _ A3.out).mono ?_; rintro e w' ⟨rfl, ⟨nd, rfl⟩⟩)
    go_ret3
    exact ⟨_, rfl, Kd.R_nil _ _ _ _ _, pw_below_drewN (Below.refl _ _) _⟩
end Go.Proofs.Ytamapbbfabkglaa.P
