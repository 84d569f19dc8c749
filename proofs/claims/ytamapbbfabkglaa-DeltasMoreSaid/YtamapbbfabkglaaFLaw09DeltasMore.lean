/- Printed for the seat by the session's own call of the print: functions and contracts. -/
import Derived.Test.YtamapbbfabkglaaK
import Derived.Test.YtamapbbfabkglaaFDeltasWrite
import Derived.Test.YtamapbbfabkglaaFLaw09Alive
import Derived.Test.YtamapbbfabkglaaFLaw09Reads
namespace Go.Proofs.Ytamapbbfabkglaa.P
open Go.RowKit Go.Proofs.YtamapbbfabkglaaW.PrintWords Go.Proofs.YtamapbbfabkglaaW.PrintLast Go.Proofs.YtamapbbfabkglaaW.PrintMore
attribute [local go_sem] max2_int min2_int max_two min_two max_three min_three max_four min_four   -- for this text's walks alone
set_option linter.unusedVariables false
set_option linter.unusedSimpArgs false

/-! ### spiritlevellaw09_DeltasMore: function 9 -/
mutual
def spiritlevellaw09_DeltasMore.j0 : Nat → Int → Int → List Int → List Int → Bool → Option (Bool)
  | 0, _, _, _, _, _ => none
  | k + 1, x0, x1, x5, x7, x25 => if x25 = true then ((spiritlevellaw09_alive.f k).bind fun t482 => (some t482)) else (spiritlevellaw09_DeltasMore.l0 k x0 x1 x5 x7 0)
def spiritlevellaw09_DeltasMore.l0 : Nat → Int → Int → List Int → List Int → Int → Option (Bool)
  | 0, _, _, _, _, _ => none
  | k + 1, x0, x1, x5, x7, x9 => if x9 < (x5.length : Int) then (if 0 ≤ x9 then (if ((decide ((rd x5 x9) < 128)) != (x9 == (wrap64 ((x5.length : Int) - 1)))) = true then (some false) else (spiritlevellaw09_DeltasMore.l0 k x0 x1 x5 x7 (wrap64 (x9 + 1)))) else (none)) else (if (x5.length : Int) > 0 then (if (x5.length : Int) ≤ (x7.length : Int) then (if 0 ≤ (wrap64 ((x5.length : Int) - 1)) then (if (wrap64 ((x5.length : Int) - 1)) ≤ (x5.length : Int) then ((spiritlevellaw09_reads.f k 6 (x5.take ((wrap64 ((x5.length : Int) - 1)) : Int).toNat)).bind fun t488 => (if t488 = true then ((spiritlevellaw09_alive.f k).bind fun t489 => (some t489)) else (some false))) else (none)) else (none)) else (if x0 > x1 then (if 0 ≤ (wrap64 ((x5.length : Int) - 1)) then (if (wrap64 ((x5.length : Int) - 1)) ≤ (x5.length : Int) then ((spiritlevellaw09_reads.f k 6 (x5.take ((wrap64 ((x5.length : Int) - 1)) : Int).toNat)).bind fun t494 => (if t494 = true then ((spiritlevellaw09_alive.f k).bind fun t495 => (some t495)) else (some false))) else (none)) else (none)) else (some false))) else (some false))
end
def spiritlevellaw09_DeltasMore.f (k : Nat) (a0 : Int) (a1 : Int) : Option (Bool) := (deltas_Write.f k a0).bind fun bt474 => ((deltas_Write.f k a1).bind fun bt478 => (if bt474.2 = 0 then (spiritlevellaw09_DeltasMore.j0 k a0 a1 bt474.1 bt478.1 (bt478.2 != 0)) else (spiritlevellaw09_DeltasMore.j0 k a0 a1 bt474.1 bt478.1 true)))
set_option maxHeartbeats 8000000 in
set_option maxRecDepth 100000 in
theorem spiritlevellaw09_DeltasMore.calls (k : Nat) (a0 : Int) (a1 : Int) (r : Bool) (w : World) (h : spiritlevellaw09_DeltasMore.f k a0 a1 = some r) :
    Calls Try.prog 9 #[.int .i64 a0, .int .i64 a1] w fun e w' => e = .returned (.bool r) ∧ Below w.heap.size w w' := by
  have HB := Aside0.mk (Below.refl w.heap.size w)
  have H : ((deltas_Write.f k a0).bind fun bt474 => ((deltas_Write.f k a1).bind fun bt478 => (if bt474.2 = 0 then (spiritlevellaw09_DeltasMore.j0 k a0 a1 bt474.1 bt478.1 (bt478.2 != 0)) else (spiritlevellaw09_DeltasMore.j0 k a0 a1 bt474.1 bt478.1 true)))) = some r := h
  clear h
  replace H := Option.bind_eq_some_iff.mp H
  obtain ⟨⟨t474, t475⟩, A30, H⟩ := H
  replace H : ((deltas_Write.f k a1).bind fun bt478 => (if t475 = 0 then (spiritlevellaw09_DeltasMore.j0 k a0 a1 t474 bt478.1 (bt478.2 != 0)) else (spiritlevellaw09_DeltasMore.j0 k a0 a1 t474 bt478.1 true))) = some r := H
  have A3 := Aside0.mk A30
  clear A30
  replace H := Option.bind_eq_some_iff.mp H
  obtain ⟨⟨t478, t479⟩, A40, H⟩ := H
  replace H : (if t475 = 0 then (spiritlevellaw09_DeltasMore.j0 k a0 a1 t474 t478 (t479 != 0)) else (spiritlevellaw09_DeltasMore.j0 k a0 a1 t474 t478 true)) = some r := H
  have A4 := Aside0.mk A40
  clear A40
  have HC5 := Aside0.mk H
  clear H
  go_enter Try.func9, Try.ntmps9
  go_upto_region 3 with (first | ((with_reducible refine gate_callee (f := 10) rfl ?_); refine goesL_ (some 12) rfl rfl Try.func10 (by kernel_rfl) rfl #[.int .i64 a0] rfl (by (try simp only [List.map_toArray, List.map_cons, List.map_nil]); first | done | rfl | (simp only [List.length_drop, List.length_take]; rfl)) ?_; (with_reducible refine (deltas_Write.calls k a0 t474 t475 _ A3.out).mono ?_); rintro e w6 ⟨v476, rfl, ho0, hb⟩; refine ⟨_, rfl, ?_⟩; have n0_ := Aside0.mk (Kd.R_lower ho0 (below_size (by repeat (first | (with_reducible first | exact HB.out | apply below_alloc | apply pw_below_drewN | apply below_drew1) | exact HB.out)))); have n1_ := Aside0.mk (below_step (by repeat (first | (with_reducible first | exact HB.out | apply below_alloc | apply pw_below_drewN | apply below_drew1) | exact HB.out)) hb); clear HB; have HO477 := n0_; have HB := n1_; clear n0_ n1_; (try clear hb); (try clear hb2); (try clear hk); (try clear hi); (try clear ho0)) | ((with_reducible refine gate_callee (f := 10) rfl ?_); refine goesL_ (some 17) rfl rfl Try.func10 (by kernel_rfl) rfl #[.int .i64 a1] rfl (by (try simp only [List.map_toArray, List.map_cons, List.map_nil]); first | done | rfl | (simp only [List.length_drop, List.length_take]; rfl)) ?_; (with_reducible refine (deltas_Write.calls k a1 t478 t479 _ A4.out).mono ?_); rintro e w7 ⟨v480, rfl, ho0, hb⟩; refine ⟨_, rfl, ?_⟩; have n0_ := Aside0.mk (Kd.R_elder' (by (with_reducible repeat (first | apply Kd.R_alloc | apply Kd.R_drewN | apply Kd.R_drew)); exact HO477.out) (Kd.R_base ho0) hb); have n1_ := Aside0.mk (Kd.R_lower (Kd.R_new' ho0 (Kd.R_lt (by (with_reducible repeat (first | apply Kd.R_alloc | apply Kd.R_drewN | apply Kd.R_drew)); exact HO477.out))) (below_size (by repeat (first | (with_reducible first | exact HB.out | apply below_alloc | apply pw_below_drewN | apply below_drew1) | exact HB.out)))); have n2_ := Aside0.mk (below_step (by repeat (first | (with_reducible first | exact HB.out | apply below_alloc | apply pw_below_drewN | apply below_drew1) | exact HB.out)) hb); clear HO477; clear HB; have HO477 := n0_; have HO481 := n1_; have HB := n2_; clear n0_ n1_ n2_; (try clear hb); (try clear hb2); (try clear hk); (try clear hi); (try clear ho0)))
  (try simp only [Act.put, List.setIfInBounds_toArray, List.set_cons_zero, List.set_cons_succ])
  go_cut [25] (fun v25 wc => ∃ (kq : Nat) (x25_4 : Bool), v25 = .bool x25_4 ∧ Aside0 (spiritlevellaw09_DeltasMore.j0 kq a0 a1 t474 t478 x25_4 = some r) ∧ Aside0 (kq ≤ k) ∧ Aside0 (Kd.R (Kd.int .u8) 5 wc w.heap.size (fun k_ => some k_ ≠ (v480 : Value).ownBlock) v476 t474) ∧ Aside0 (Kd.R (Kd.int .u8) 5 wc w.heap.size (fun k_ => some k_ ≠ (v476 : Value).ownBlock) v480 t478) ∧ Aside0 (Below w.heap.size w wc))
  case first =>
    have H := HC5.out
    clear HC5
    by_cases c8 : t475 = 0
    · rw [if_pos c8] at H
      have c8b0 : (t475 == 0) = true := beq_iff_eq.mpr c8
      have c8b1 : (t475 != 0) = false := bne_eq_false_iff_eq.mpr c8
      clear c8
      (first | rw [c8b0] | (simp only [i64_w, i32_w]; rw [c8b0]) | skip)
      have H' := Aside0.mk H
      clear H
      go_wp2
      go_meet
      case rel => exact ⟨_, ((t479 != 0)), (by first | rfl | (simp; done) | (simp [*]; done)), H', ⟨by first | omega | exact Nat.le_refl _⟩, ⟨by (with_reducible repeat (first | apply Kd.R_alloc | apply Kd.R_drewN | apply Kd.R_drew)); exact Kd.R_mono HO477.out (fun _ hk => by first | exact hk.2 | exact hk)⟩, ⟨by (with_reducible repeat (first | apply Kd.R_alloc | apply Kd.R_drewN | apply Kd.R_drew)); exact Kd.R_mono HO481.out (fun _ hk => by first | exact hk.2 | exact hk)⟩, ⟨by repeat (first | (with_reducible first | exact HB.out | apply below_alloc | apply pw_below_drewN | apply below_drew1) | exact HB.out)⟩⟩
    · rw [if_neg c8] at H
      have c8b0 : (t475 == 0) = false := beq_eq_false_iff_ne.mpr c8
      have c8b1 : (t475 != 0) = true := bne_iff_ne.mpr c8
      (first | rw [c8b0] | (simp only [i64_w, i32_w]; rw [c8b0]) | skip)
      have H' := Aside0.mk H
      clear H
      go_wp2
      go_meet
      case rel => exact ⟨_, (true), (by first | rfl | (simp; done) | (simp [*]; done)), H', ⟨by first | omega | exact Nat.le_refl _⟩, ⟨by (with_reducible repeat (first | apply Kd.R_alloc | apply Kd.R_drewN | apply Kd.R_drew)); exact Kd.R_mono HO477.out (fun _ hk => by first | exact hk.2 | exact hk)⟩, ⟨by (with_reducible repeat (first | apply Kd.R_alloc | apply Kd.R_drewN | apply Kd.R_drew)); exact Kd.R_mono HO481.out (fun _ hk => by first | exact hk.2 | exact hk)⟩, ⟨by repeat (first | (with_reducible first | exact HB.out | apply below_alloc | apply pw_below_drewN | apply below_drew1) | exact HB.out)⟩⟩
  case rest =>
    clear HC5
    try clear c1
    try clear p2
    try clear c8
    try clear c8b0
    try clear c8b1
    obtain ⟨kq, x25_4, rfl, HA, HJ4, HO_5, HO_7, HB⟩ := hcut
    cases kq with
    | zero => exact absurd HA.out (by simp [spiritlevellaw09_DeltasMore.j0])
    | succ kj4 =>
      have H := HA.out
      clear HA
      simp only [spiritlevellaw09_DeltasMore.j0] at H
      by_cases c9 : x25_4 = true
      · subst c9
        have H1 : ((spiritlevellaw09_alive.f kj4).bind fun t482 => (some t482)) = some r := by rw [if_pos rfl] at H; exact H
        clear H
        have H := H1
        clear H1
        replace H := Option.bind_eq_some_iff.mp H
        obtain ⟨t482, A100, H⟩ := H
        replace H : (some t482) = some r := H
        have A10 := Aside0.mk A100
        clear A100
        obtain rfl := Option.some.inj H
        go_wp2_with (first | ((with_reducible refine gate_callee (f := 19) rfl ?_); refine goesL_ (some 26) rfl rfl Try.func19 (by kernel_rfl) rfl #[] rfl (by (try simp only [List.map_toArray, List.map_cons, List.map_nil]); first | done | rfl | (simp only [List.length_drop, List.length_take]; rfl)) ?_; (with_reducible refine (spiritlevellaw09_alive.calls kj4  t482 _ A10.out).mono ?_); rintro e w11 ⟨rfl, hb⟩; refine ⟨_, rfl, ?_⟩; have n0_ := Aside0.mk (Kd.R_below (by (with_reducible repeat (first | apply Kd.R_alloc | apply Kd.R_drewN | apply Kd.R_drew)); exact HO_5.out) hb); have n1_ := Aside0.mk (Kd.R_below (by (with_reducible repeat (first | apply Kd.R_alloc | apply Kd.R_drewN | apply Kd.R_drew)); exact HO_7.out) hb); have n2_ := Aside0.mk (below_step (by repeat (first | (with_reducible first | exact HB.out | apply below_alloc | apply pw_below_drewN | apply below_drew1) | exact HB.out)) hb); clear HO_5; clear HO_7; clear HB; have HO_5 := n0_; have HO_7 := n1_; have HB := n2_; clear n0_ n1_ n2_; (try clear hb); (try clear hb2); (try clear hk); (try clear hi)))
        go_ret
        exact ⟨by first | rfl | (simp [errW_none, errW_some] <;> rfl) | (simp [*, errW_none, errW_some] <;> rfl), by repeat (first | (with_reducible first | exact HB.out | apply below_alloc | apply pw_below_drewN | apply below_drew1) | exact HB.out)⟩
      · replace c9 := Bool.eq_false_iff.mpr c9
        subst c9
        have H1 : (spiritlevellaw09_DeltasMore.l0 kj4 a0 a1 t474 t478 0) = some r := by rw [if_neg (show ¬ (false = true) by decide)] at H; exact H
        clear H
        have H := H1
        clear H1
        have H' := Aside0.mk H
        clear H
        go_wp2
        go_loopg [9] kj4 (fun kq v9 w' => ∃ (x9_2 : Int), v9 = .int .i64 x9_2 ∧ Aside0 (spiritlevellaw09_DeltasMore.l0 kq a0 a1 t474 t478 x9_2 = some r) ∧ Aside0 (kq ≤ kj4) ∧ Aside0 (Kd.R (Kd.int .u8) 5 w' w.heap.size (fun k_ => some k_ ≠ (v480 : Value).ownBlock) v476 t474) ∧ Aside0 (Kd.R (Kd.int .u8) 5 w' w.heap.size (fun k_ => some k_ ≠ (v476 : Value).ownBlock) v480 t478) ∧ Aside0 (Below w.heap.size w w'))
        case atStart => exact ⟨(0), (by first | rfl | (simp; done) | (simp [*]; done)), H', ⟨Nat.le_refl _⟩, ⟨by (with_reducible repeat (first | apply Kd.R_alloc | apply Kd.R_drewN | apply Kd.R_drew)); exact HO_5.out⟩, ⟨by (with_reducible repeat (first | apply Kd.R_alloc | apply Kd.R_drewN | apply Kd.R_drew)); exact HO_7.out⟩, ⟨by repeat (first | (with_reducible first | exact HB.out | apply below_alloc | apply pw_below_drewN | apply below_drew1) | exact HB.out)⟩⟩
        case round =>
          clear H'
          try clear c1
          try clear p2
          try clear c8
          try clear c8b0
          try clear c8b1
          try clear c9
          try clear c10
          try clear p2
          obtain ⟨x9_2, rfl, HA, HK2, HO_5, HO_7, HB⟩ := hrel
          cases gk with
          | zero => exact absurd HA.out (by simp [spiritlevellaw09_DeltasMore.l0])
          | succ k2 =>
            have H := HA.out
            clear HA
            simp only [spiritlevellaw09_DeltasMore.l0] at H
            by_cases c12 : x9_2 < (t474.length : Int)
            · rw [if_pos c12] at H
              have c12b0 : decide (x9_2 < (t474.length : Int)) = true := decide_eq_true c12
              clear c12
              by_cases c13 : 0 ≤ x9_2
              · rw [if_pos c13] at H
                have c13b0 : decide (0 ≤ x9_2) = true := decide_eq_true c13
                clear c13
                by_cases c14 : ((decide ((rd t474 x9_2) < 128)) != (x9_2 == (wrap64 ((t474.length : Int) - 1)))) = true
                · rw [if_pos c14] at H
                  have c14b0 : ((decide ((rd t474 x9_2) < 128)) != (x9_2 == (wrap64 ((t474.length : Int) - 1)))) = true := c14
                  (try (have c14b1 : decide ((decide ((rd t474 x9_2) < 128)) = (x9_2 == (wrap64 ((t474.length : Int) - 1)))) = false := by simpa using c14))
                  (try (have c14b2 : ((decide ((rd t474 x9_2) < 128)) == (x9_2 == (wrap64 ((t474.length : Int) - 1)))) = false := by simpa using c14))
                  (try (have c14b3 : ¬ ((decide ((rd t474 x9_2) < 128)) = (x9_2 == (wrap64 ((t474.length : Int) - 1)))) := by simpa using c14))
                  clear c14
                  obtain rfl := Option.some.inj H
                  obtain ⟨Ao15, co15, eo15⟩ := Kd.R_slice HO_5.out
                  subst eo15
                  have p483 : 0 ≤ (x9_2 : Int) := of_decide_eq_true (by first | (with_reducible assumption) | assumption)
                  have q483 : x9_2 < (t474.length : Int) := of_decide_eq_true (by first | (with_reducible assumption) | assumption)
                  obtain ⟨ad483, e483, hx483_0⟩ := Kd.at_int (Kd.R_reads' HO_5.out).2.2 x9_2 p483 q483
                  cases e483
                  replace p483 := eq_true p483
                  replace q483 := eq_true q483
                  go_wp2
                  go_ret
                  exact ⟨by first | rfl | (simp [errW_none, errW_some] <;> rfl) | (simp [*, errW_none, errW_some] <;> rfl), by repeat (first | (with_reducible first | exact HB.out | apply below_alloc | apply pw_below_drewN | apply below_drew1) | exact HB.out)⟩
                · rw [if_neg c14] at H
                  have c14b0 : ((decide ((rd t474 x9_2) < 128)) != (x9_2 == (wrap64 ((t474.length : Int) - 1)))) = false := by simpa using c14
                  (try (have c14b1 : decide ((decide ((rd t474 x9_2) < 128)) = (x9_2 == (wrap64 ((t474.length : Int) - 1)))) = true := by simpa using c14))
                  (try (have c14b2 : ((decide ((rd t474 x9_2) < 128)) == (x9_2 == (wrap64 ((t474.length : Int) - 1)))) = true := by simpa using c14))
                  clear c14
                  have H' := Aside0.mk H
                  clear H
                  obtain ⟨Ao16, co16, eo16⟩ := Kd.R_slice HO_5.out
                  subst eo16
                  have p483 : 0 ≤ (x9_2 : Int) := of_decide_eq_true (by first | (with_reducible assumption) | assumption)
                  have q483 : x9_2 < (t474.length : Int) := of_decide_eq_true (by first | (with_reducible assumption) | assumption)
                  obtain ⟨ad483, e483, hx483_0⟩ := Kd.at_int (Kd.R_reads' HO_5.out).2.2 x9_2 p483 q483
                  cases e483
                  replace p483 := eq_true p483
                  replace q483 := eq_true q483
                  go_wp2
                  go_roundg k2
                  case measure => have := HJ4.out; have := HK2.out; omega
                  case rel => exact ⟨(wrap64 (x9_2 + 1)), (by first | rfl | (simp; done) | (simp [*]; done)), H', ⟨by have := HJ4.out; have := HK2.out; omega⟩, ⟨by (with_reducible repeat (first | apply Kd.R_alloc | apply Kd.R_drewN | apply Kd.R_drew)); exact HO_5.out⟩, ⟨by (with_reducible repeat (first | apply Kd.R_alloc | apply Kd.R_drewN | apply Kd.R_drew)); exact HO_7.out⟩, ⟨by repeat (first | (with_reducible first | exact HB.out | apply below_alloc | apply pw_below_drewN | apply below_drew1) | exact HB.out)⟩⟩
              · rw [if_neg c13] at H
                exact absurd H (by simp)
            · rw [if_neg c12] at H
              have c12b0 : decide (x9_2 < (t474.length : Int)) = false := decide_eq_false c12
              clear c12
              by_cases c17 : (t474.length : Int) > 0
              · rw [if_pos c17] at H
                have c17b0 : decide (0 < (t474.length : Int)) = true := decide_eq_true c17
                have c17b1 : decide (0 < t474.length) = true := decide_eq_true (by omega)
                clear c17
                by_cases c18 : (t474.length : Int) ≤ (t478.length : Int)
                · rw [if_pos c18] at H
                  have c18b0 : decide ((t474.length : Int) ≤ (t478.length : Int)) = true := decide_eq_true c18
                  have c18b1 : decide (t474.length ≤ t478.length) = true := decide_eq_true (Int.ofNat_le.mp c18)
                  clear c18
                  obtain ⟨ji19, hji19⟩ : ∃ j_ : Int, (wrap64 ((t474.length : Int) - 1)) = j_ := ⟨_, rfl⟩
                  replace H : (if 0 ≤ (ji19) then (if (ji19) ≤ (t474.length : Int) then ((spiritlevellaw09_reads.f k2 6 (t474.take ((ji19) : Int).toNat)).bind fun t488 => (if t488 = true then ((spiritlevellaw09_alive.f k2).bind fun t489 => (some t489)) else (some false))) else (none)) else (none)) = some r := by first | (rw [hji19] at H; exact H) | (simp only [hji19] at H ⊢; exact H)
                  have hji19w : (IntKind.i64.wrap ((t474.length : Int) - 1)) = ji19 := (i64_w _).trans hji19
                  by_cases c20 : 0 ≤ (ji19)
                  · rw [if_pos c20] at H
                    have c20b0 := eq_true c20
                    have c20b1 : decide (0 ≤ (ji19)) = true := decide_eq_true c20
                    clear c20
                    by_cases c21 : (ji19) ≤ (t474.length : Int)
                    · rw [if_pos c21] at H
                      have c21b0 := eq_true c21
                      have c21b1 : decide ((ji19) ≤ (t474.length : Int)) = true := decide_eq_true c21
                      clear c21
                      obtain ⟨y484, hy484⟩ : ∃ y_ : List Int, y_ = (t474.take ((ji19) : Int).toNat) := ⟨_, rfl⟩
                      replace H : ((spiritlevellaw09_reads.f k2 6 y484).bind fun t488 => (if t488 = true then ((spiritlevellaw09_alive.f k2).bind fun t489 => (some t489)) else (some false))) = some r := by first | (rw [hy484]; with_reducible exact H) | (have H2_ := (Option.bind_some _ _).symm.trans H; rw [hy484]; with_reducible exact H2_) | (have H2_ := (Option.bind_some _ _).symm.trans H; with_reducible exact H2_) | with_reducible exact H | (rw [hy484]; exact H) | exact H
                      have Ny484 := Aside0.mk hy484
                      clear hy484
                      replace H := Option.bind_eq_some_iff.mp H
                      obtain ⟨t488, A220, H⟩ := H
                      replace H : (if t488 = true then ((spiritlevellaw09_alive.f k2).bind fun t489 => (some t489)) else (some false)) = some r := H
                      have A22 := Aside0.mk A220
                      clear A220
                      by_cases c23 : t488 = true
                      · subst c23
                        have H1 : ((spiritlevellaw09_alive.f k2).bind fun t489 => (some t489)) = some r := by rw [if_pos rfl] at H; exact H
                        clear H
                        have H := H1
                        clear H1
                        replace H := Option.bind_eq_some_iff.mp H
                        obtain ⟨t489, A240, H⟩ := H
                        replace H : (some t489) = some r := H
                        have A24 := Aside0.mk A240
                        clear A240
                        obtain rfl := Option.some.inj H
                        obtain ⟨Ao25, co25, eo25⟩ := Kd.R_slice HO_5.out
                        subst eo25
                        obtain ⟨Ao26, co26, eo26⟩ := Kd.R_slice HO_7.out
                        subst eo26
                        have q27 : ((ji19) : Int) ≤ ((t474.length : Int) : Int) := of_decide_eq_true (by first | (with_reducible assumption) | assumption)
                        obtain ⟨i027, hi027, _, hsz27, _⟩ := info_parts info5
                        have hroom27 : t474.length ≤ co25 := (Kd.R_reads' HO_5.out).2.1
                        have hC27 : Kd.C (Kd.int .u8) _ Ao25 t474.length t474 := (Kd.R_reads' HO_5.out).2.2
                        have hcut27 := cut_to (P := Try.prog) 22 5 .i64 Try.underlying22 hi027 Ao25 t474.length co25 (ji19) (of_decide_eq_true (by first | (with_reducible assumption) | assumption)) q27 hroom27
                        have hr27 := Kd.C_take (m := ((ji19) : Int).toNat) hC27 (by omega)
                        have hy27 : y484.length = ((ji19) : Int).toNat := (by rw [Ny484.out, List.length_take]; omega)
                        rw [← Ny484.out] at hr27
                        rw [← hy27] at hcut27
                        have HR487 := Aside0.mk hr27
                        have HC487 := Aside0.mk (show y484.length ≤ co25 from by omega)
                        clear hr27 hC27 hroom27 hi027 hsz27
                        have KY27 := Aside0.mk hy27
                        clear hy27
                        have KL27 := Aside0.mk (show ((ji19) : Int).toNat ≤ t474.length from by omega)
                        replace q27 := eq_true q27
                        go_wp2_with (first | (go_at_call 15; (with_reducible refine (spiritlevellaw09_reads.calls k2 6 _ _ y484 true _ ?side1 ?side2 A22.out).mono ?_); (case side1 => repeat (first | exact (by repeat (first | (with_reducible exact HR487.out) | (with_reducible refine Kd.C_alloc ?_ _) | (with_reducible refine Kd.C_drewN ?_ _) | (with_reducible refine Kd.C_drew ?_) | exact HR487.out)) | (with_reducible refine Kd.C_alloc ?_ _) | (with_reducible refine Kd.C_drewN ?_ _) | (with_reducible refine Kd.C_drew ?_))); (case side2 => exact HC487.out); rintro e w' ⟨rfl, ⟨nd, rfl⟩⟩) | (go_at_call 19; (with_reducible refine (spiritlevellaw09_alive.calls k2  t489 _ A24.out).mono ?_); rintro e w28 ⟨rfl, hb⟩; have n0_ := Aside0.mk (Kd.R_below (by (with_reducible repeat (first | apply Kd.R_alloc | apply Kd.R_drewN | apply Kd.R_drew)); exact HO_5.out) hb); have n1_ := Aside0.mk (Kd.R_below (by (with_reducible repeat (first | apply Kd.R_alloc | apply Kd.R_drewN | apply Kd.R_drew)); exact HO_7.out) hb); have n2_ := Aside0.mk (Kd.C_below (by repeat (first | (with_reducible exact HR487.out) | (with_reducible refine Kd.C_alloc ?_ _) | (with_reducible refine Kd.C_drewN ?_ _) | (with_reducible refine Kd.C_drew ?_) | exact HR487.out)) hb); have n3_ := Aside0.mk (below_step (by repeat (first | (with_reducible first | exact HB.out | apply below_alloc | apply pw_below_drewN | apply below_drew1) | exact HB.out)) hb); clear HO_5; clear HO_7; clear HR487; clear HB; have HO_5 := n0_; have HO_7 := n1_; have HR487 := n2_; have HB := n3_; clear n0_ n1_ n2_ n3_; (try clear hb); (try clear hb2); (try clear hk); (try clear hi)))
                        go_ret
                        exact ⟨by first | rfl | (simp [errW_none, errW_some] <;> rfl) | (simp only [← hji19]; first | rfl | (simp [errW_none, errW_some] <;> rfl)) | (simp [*, errW_none, errW_some] <;> rfl), by repeat (first | (with_reducible first | exact HB.out | apply below_alloc | apply pw_below_drewN | apply below_drew1) | exact HB.out)⟩
                      · replace c23 := Bool.eq_false_iff.mpr c23
                        subst c23
                        have H1 : (some false) = some r := by rw [if_neg (show ¬ (false = true) by decide)] at H; exact H
                        clear H
                        have H := H1
                        clear H1
                        obtain rfl := Option.some.inj H
                        obtain ⟨Ao29, co29, eo29⟩ := Kd.R_slice HO_5.out
                        subst eo29
                        obtain ⟨Ao30, co30, eo30⟩ := Kd.R_slice HO_7.out
                        subst eo30
                        have q31 : ((ji19) : Int) ≤ ((t474.length : Int) : Int) := of_decide_eq_true (by first | (with_reducible assumption) | assumption)
                        obtain ⟨i031, hi031, _, hsz31, _⟩ := info_parts info5
                        have hroom31 : t474.length ≤ co29 := (Kd.R_reads' HO_5.out).2.1
                        have hC31 : Kd.C (Kd.int .u8) _ Ao29 t474.length t474 := (Kd.R_reads' HO_5.out).2.2
                        have hcut31 := cut_to (P := Try.prog) 22 5 .i64 Try.underlying22 hi031 Ao29 t474.length co29 (ji19) (of_decide_eq_true (by first | (with_reducible assumption) | assumption)) q31 hroom31
                        have hr31 := Kd.C_take (m := ((ji19) : Int).toNat) hC31 (by omega)
                        have hy31 : y484.length = ((ji19) : Int).toNat := (by rw [Ny484.out, List.length_take]; omega)
                        rw [← Ny484.out] at hr31
                        rw [← hy31] at hcut31
                        have HR487 := Aside0.mk hr31
                        have HC487 := Aside0.mk (show y484.length ≤ co29 from by omega)
                        clear hr31 hC31 hroom31 hi031 hsz31
                        have KY31 := Aside0.mk hy31
                        clear hy31
                        have KL31 := Aside0.mk (show ((ji19) : Int).toNat ≤ t474.length from by omega)
                        replace q31 := eq_true q31
                        go_wp2_with (first | (go_at_call 15; (with_reducible refine (spiritlevellaw09_reads.calls k2 6 _ _ y484 false _ ?side1 ?side2 A22.out).mono ?_); (case side1 => repeat (first | exact (by repeat (first | (with_reducible exact HR487.out) | (with_reducible refine Kd.C_alloc ?_ _) | (with_reducible refine Kd.C_drewN ?_ _) | (with_reducible refine Kd.C_drew ?_) | exact HR487.out)) | (with_reducible refine Kd.C_alloc ?_ _) | (with_reducible refine Kd.C_drewN ?_ _) | (with_reducible refine Kd.C_drew ?_))); (case side2 => exact HC487.out); rintro e w' ⟨rfl, ⟨nd, rfl⟩⟩))
                        go_ret
                        exact ⟨by first | rfl | (simp [errW_none, errW_some] <;> rfl) | (simp only [← hji19]; first | rfl | (simp [errW_none, errW_some] <;> rfl)) | (simp [*, errW_none, errW_some] <;> rfl), by repeat (first | (with_reducible first | exact HB.out | apply below_alloc | apply pw_below_drewN | apply below_drew1) | exact HB.out)⟩
                    · rw [if_neg c21] at H
                      exact absurd H (by simp)
                  · rw [if_neg c20] at H
                    exact absurd H (by simp)
                · rw [if_neg c18] at H
                  have c18b0 : decide ((t474.length : Int) ≤ (t478.length : Int)) = false := decide_eq_false c18
                  have c18b1 : decide (t474.length ≤ t478.length) = false := decide_eq_false (fun h => c18 (Int.ofNat_le.mpr h))
                  clear c18
                  by_cases c32 : a0 > a1
                  · rw [if_pos c32] at H
                    have c32b0 : decide (a1 < a0) = true := decide_eq_true c32
                    clear c32
                    obtain ⟨ji33, hji33⟩ : ∃ j_ : Int, (wrap64 ((t474.length : Int) - 1)) = j_ := ⟨_, rfl⟩
                    replace H : (if 0 ≤ (ji33) then (if (ji33) ≤ (t474.length : Int) then ((spiritlevellaw09_reads.f k2 6 (t474.take ((ji33) : Int).toNat)).bind fun t494 => (if t494 = true then ((spiritlevellaw09_alive.f k2).bind fun t495 => (some t495)) else (some false))) else (none)) else (none)) = some r := by first | (rw [hji33] at H; exact H) | (simp only [hji33] at H ⊢; exact H)
                    have hji33w : (IntKind.i64.wrap ((t474.length : Int) - 1)) = ji33 := (i64_w _).trans hji33
                    by_cases c34 : 0 ≤ (ji33)
                    · rw [if_pos c34] at H
                      have c34b0 := eq_true c34
                      have c34b1 : decide (0 ≤ (ji33)) = true := decide_eq_true c34
                      clear c34
                      by_cases c35 : (ji33) ≤ (t474.length : Int)
                      · rw [if_pos c35] at H
                        have c35b0 := eq_true c35
                        have c35b1 : decide ((ji33) ≤ (t474.length : Int)) = true := decide_eq_true c35
                        clear c35
                        obtain ⟨y490, hy490⟩ : ∃ y_ : List Int, y_ = (t474.take ((ji33) : Int).toNat) := ⟨_, rfl⟩
                        replace H : ((spiritlevellaw09_reads.f k2 6 y490).bind fun t494 => (if t494 = true then ((spiritlevellaw09_alive.f k2).bind fun t495 => (some t495)) else (some false))) = some r := by first | (rw [hy490]; with_reducible exact H) | (have H2_ := (Option.bind_some _ _).symm.trans H; rw [hy490]; with_reducible exact H2_) | (have H2_ := (Option.bind_some _ _).symm.trans H; with_reducible exact H2_) | with_reducible exact H | (rw [hy490]; exact H) | exact H
                        have Ny490 := Aside0.mk hy490
                        clear hy490
                        replace H := Option.bind_eq_some_iff.mp H
                        obtain ⟨t494, A360, H⟩ := H
                        replace H : (if t494 = true then ((spiritlevellaw09_alive.f k2).bind fun t495 => (some t495)) else (some false)) = some r := H
                        have A36 := Aside0.mk A360
                        clear A360
                        by_cases c37 : t494 = true
                        · subst c37
                          have H1 : ((spiritlevellaw09_alive.f k2).bind fun t495 => (some t495)) = some r := by rw [if_pos rfl] at H; exact H
                          clear H
                          have H := H1
                          clear H1
                          replace H := Option.bind_eq_some_iff.mp H
                          obtain ⟨t495, A380, H⟩ := H
                          replace H : (some t495) = some r := H
                          have A38 := Aside0.mk A380
                          clear A380
                          obtain rfl := Option.some.inj H
                          obtain ⟨Ao39, co39, eo39⟩ := Kd.R_slice HO_5.out
                          subst eo39
                          obtain ⟨Ao40, co40, eo40⟩ := Kd.R_slice HO_7.out
                          subst eo40
                          have q41 : ((ji33) : Int) ≤ ((t474.length : Int) : Int) := of_decide_eq_true (by first | (with_reducible assumption) | assumption)
                          obtain ⟨i041, hi041, _, hsz41, _⟩ := info_parts info5
                          have hroom41 : t474.length ≤ co39 := (Kd.R_reads' HO_5.out).2.1
                          have hC41 : Kd.C (Kd.int .u8) _ Ao39 t474.length t474 := (Kd.R_reads' HO_5.out).2.2
                          have hcut41 := cut_to (P := Try.prog) 22 5 .i64 Try.underlying22 hi041 Ao39 t474.length co39 (ji33) (of_decide_eq_true (by first | (with_reducible assumption) | assumption)) q41 hroom41
                          have hr41 := Kd.C_take (m := ((ji33) : Int).toNat) hC41 (by omega)
                          have hy41 : y490.length = ((ji33) : Int).toNat := (by rw [Ny490.out, List.length_take]; omega)
                          rw [← Ny490.out] at hr41
                          rw [← hy41] at hcut41
                          have HR493 := Aside0.mk hr41
                          have HC493 := Aside0.mk (show y490.length ≤ co39 from by omega)
                          clear hr41 hC41 hroom41 hi041 hsz41
                          have KY41 := Aside0.mk hy41
                          clear hy41
                          have KL41 := Aside0.mk (show ((ji33) : Int).toNat ≤ t474.length from by omega)
                          replace q41 := eq_true q41
                          go_wp2_with (first | (go_at_call 15; (with_reducible refine (spiritlevellaw09_reads.calls k2 6 _ _ y490 true _ ?side1 ?side2 A36.out).mono ?_); (case side1 => repeat (first | exact (by repeat (first | (with_reducible exact HR493.out) | (with_reducible refine Kd.C_alloc ?_ _) | (with_reducible refine Kd.C_drewN ?_ _) | (with_reducible refine Kd.C_drew ?_) | exact HR493.out)) | (with_reducible refine Kd.C_alloc ?_ _) | (with_reducible refine Kd.C_drewN ?_ _) | (with_reducible refine Kd.C_drew ?_))); (case side2 => exact HC493.out); rintro e w' ⟨rfl, ⟨nd, rfl⟩⟩) | (go_at_call 19; (with_reducible refine (spiritlevellaw09_alive.calls k2  t495 _ A38.out).mono ?_); rintro e w42 ⟨rfl, hb⟩; have n0_ := Aside0.mk (Kd.R_below (by (with_reducible repeat (first | apply Kd.R_alloc | apply Kd.R_drewN | apply Kd.R_drew)); exact HO_5.out) hb); have n1_ := Aside0.mk (Kd.R_below (by (with_reducible repeat (first | apply Kd.R_alloc | apply Kd.R_drewN | apply Kd.R_drew)); exact HO_7.out) hb); have n2_ := Aside0.mk (Kd.C_below (by repeat (first | (with_reducible exact HR493.out) | (with_reducible refine Kd.C_alloc ?_ _) | (with_reducible refine Kd.C_drewN ?_ _) | (with_reducible refine Kd.C_drew ?_) | exact HR493.out)) hb); have n3_ := Aside0.mk (below_step (by repeat (first | (with_reducible first | exact HB.out | apply below_alloc | apply pw_below_drewN | apply below_drew1) | exact HB.out)) hb); clear HO_5; clear HO_7; clear HR493; clear HB; have HO_5 := n0_; have HO_7 := n1_; have HR493 := n2_; have HB := n3_; clear n0_ n1_ n2_ n3_; (try clear hb); (try clear hb2); (try clear hk); (try clear hi)))
                          go_ret
                          exact ⟨by first | rfl | (simp [errW_none, errW_some] <;> rfl) | (simp only [← hji33]; first | rfl | (simp [errW_none, errW_some] <;> rfl)) | (simp [*, errW_none, errW_some] <;> rfl), by repeat (first | (with_reducible first | exact HB.out | apply below_alloc | apply pw_below_drewN | apply below_drew1) | exact HB.out)⟩
                        · replace c37 := Bool.eq_false_iff.mpr c37
                          subst c37
                          have H1 : (some false) = some r := by rw [if_neg (show ¬ (false = true) by decide)] at H; exact H
                          clear H
                          have H := H1
                          clear H1
                          obtain rfl := Option.some.inj H
                          obtain ⟨Ao43, co43, eo43⟩ := Kd.R_slice HO_5.out
                          subst eo43
                          obtain ⟨Ao44, co44, eo44⟩ := Kd.R_slice HO_7.out
                          subst eo44
                          have q45 : ((ji33) : Int) ≤ ((t474.length : Int) : Int) := of_decide_eq_true (by first | (with_reducible assumption) | assumption)
                          obtain ⟨i045, hi045, _, hsz45, _⟩ := info_parts info5
                          have hroom45 : t474.length ≤ co43 := (Kd.R_reads' HO_5.out).2.1
                          have hC45 : Kd.C (Kd.int .u8) _ Ao43 t474.length t474 := (Kd.R_reads' HO_5.out).2.2
                          have hcut45 := cut_to (P := Try.prog) 22 5 .i64 Try.underlying22 hi045 Ao43 t474.length co43 (ji33) (of_decide_eq_true (by first | (with_reducible assumption) | assumption)) q45 hroom45
                          have hr45 := Kd.C_take (m := ((ji33) : Int).toNat) hC45 (by omega)
                          have hy45 : y490.length = ((ji33) : Int).toNat := (by rw [Ny490.out, List.length_take]; omega)
                          rw [← Ny490.out] at hr45
                          rw [← hy45] at hcut45
                          have HR493 := Aside0.mk hr45
                          have HC493 := Aside0.mk (show y490.length ≤ co43 from by omega)
                          clear hr45 hC45 hroom45 hi045 hsz45
                          have KY45 := Aside0.mk hy45
                          clear hy45
                          have KL45 := Aside0.mk (show ((ji33) : Int).toNat ≤ t474.length from by omega)
                          replace q45 := eq_true q45
                          go_wp2_with (first | (go_at_call 15; (with_reducible refine (spiritlevellaw09_reads.calls k2 6 _ _ y490 false _ ?side1 ?side2 A36.out).mono ?_); (case side1 => repeat (first | exact (by repeat (first | (with_reducible exact HR493.out) | (with_reducible refine Kd.C_alloc ?_ _) | (with_reducible refine Kd.C_drewN ?_ _) | (with_reducible refine Kd.C_drew ?_) | exact HR493.out)) | (with_reducible refine Kd.C_alloc ?_ _) | (with_reducible refine Kd.C_drewN ?_ _) | (with_reducible refine Kd.C_drew ?_))); (case side2 => exact HC493.out); rintro e w' ⟨rfl, ⟨nd, rfl⟩⟩))
                          go_ret
                          exact ⟨by first | rfl | (simp [errW_none, errW_some] <;> rfl) | (simp only [← hji33]; first | rfl | (simp [errW_none, errW_some] <;> rfl)) | (simp [*, errW_none, errW_some] <;> rfl), by repeat (first | (with_reducible first | exact HB.out | apply below_alloc | apply pw_below_drewN | apply below_drew1) | exact HB.out)⟩
                      · rw [if_neg c35] at H
                        exact absurd H (by simp)
                    · rw [if_neg c34] at H
                      exact absurd H (by simp)
                  · rw [if_neg c32] at H
                    have c32b0 : decide (a1 < a0) = false := decide_eq_false c32
                    clear c32
                    obtain rfl := Option.some.inj H
                    obtain ⟨Ao46, co46, eo46⟩ := Kd.R_slice HO_5.out
                    subst eo46
                    obtain ⟨Ao47, co47, eo47⟩ := Kd.R_slice HO_7.out
                    subst eo47
                    go_wp2
                    go_ret
                    exact ⟨by first | rfl | (simp [errW_none, errW_some] <;> rfl) | (simp [*, errW_none, errW_some] <;> rfl), by repeat (first | (with_reducible first | exact HB.out | apply below_alloc | apply pw_below_drewN | apply below_drew1) | exact HB.out)⟩
              · rw [if_neg c17] at H
                have c17b0 : decide (0 < (t474.length : Int)) = false := decide_eq_false c17
                have c17b1 : decide (0 < t474.length) = false := decide_eq_false (by omega)
                clear c17
                obtain rfl := Option.some.inj H
                obtain ⟨Ao48, co48, eo48⟩ := Kd.R_slice HO_5.out
                subst eo48
                go_wp2
                go_ret
                exact ⟨by first | rfl | (simp [errW_none, errW_some] <;> rfl) | (simp [*, errW_none, errW_some] <;> rfl), by repeat (first | (with_reducible first | exact HB.out | apply below_alloc | apply pw_below_drewN | apply below_drew1) | exact HB.out)⟩

/-- THE ONE PURE STATEMENT of spiritlevellaw09_DeltasMore: yours. -/
def spiritlevellaw09_DeltasMore.Pure : Prop := ∀ (a0 : Int) (a1 : Int), (Lit.int .i64 a0).wf = true → (Lit.int .i64 a1).wf = true → ∃ k, spiritlevellaw09_DeltasMore.f k a0 a1 = some true
theorem spiritlevellaw09_DeltasMore.walk (P : spiritlevellaw09_DeltasMore.Pure) (a0 : Int) (a1 : Int) (w : World) (w0 : (Lit.int .i64 a0).wf = true) (w1 : (Lit.int .i64 a1).wf = true) :
    Calls Try.prog 9 #[.int .i64 a0, .int .i64 a1] w fun e w' => e = .returned (.bool true) ∧ Below w.heap.size w w' := by
  obtain ⟨k, h⟩ := P a0 a1 w0 w1
  refine (spiritlevellaw09_DeltasMore.calls k a0 a1 true w h).mono ?_
  rintro e w' ⟨rfl, hd⟩
  exact ⟨rfl, hd⟩

end Go.Proofs.Ytamapbbfabkglaa.P
