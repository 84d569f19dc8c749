/- Printed for the seat by the session's own call of the print: functions and contracts. -/
import Derived.Test.YtamapbbfabkglaaK
import Derived.Test.YtamapbbfabkglaaFLaw09Alive
import Derived.Test.YtamapbbfabkglaaFLaw09Right
import Derived.Test.YtamapbbfabkglaaFRef09Asked
import Derived.Test.YtamapbbfabkglaaFRef09Same
import Derived.Test.YtamapbbfabkglaaPack
import Derived.Test.YtamapbbfabkglaaUnpack
namespace Go.Proofs.Ytamapbbfabkglaa.P
open Go.RowKit Go.Proofs.YtamapbbfabkglaaW.PrintWords Go.Proofs.YtamapbbfabkglaaW.PrintLast Go.Proofs.YtamapbbfabkglaaW.PrintMore
attribute [local go_sem] max2_int min2_int max_two min_two max_three min_three max_four min_four   -- for this text's walks alone
set_option linter.unusedVariables false
set_option linter.unusedSimpArgs false

/-! ### spiritlevellaw09_DeltasBack: function 7 -/
mutual
def spiritlevellaw09_DeltasBack.j0 : Nat → Int → List (S36) → List Int → Int → Bool → Option (Bool)
  | 0, _, _, _, _, _ => none
  | k + 1, x0, x1, x2, x3, x38 => if x38 = true then ((spiritlevellaw09_alive.f k).bind fun t422 => (some t422)) else ((deltas_Pack.f k x0 x1).bind fun bt423 => ((some (([] : List Int) : List Int)).bind fun y427 => (if y427.length + bt423.1.length < 140737488355328 then ((some (y427 ++ bt423.1 : List Int)).bind fun y430 => (if y430.length + x2.length < 140737488355328 then ((deltas_Unpack.f k x0 (x1.length : Int) (y430 ++ x2)).bind fun bt436 => (if bt423.2 = 0 then (if bt436.2.2 = 0 then (if bt436.2.1 = (bt423.1.length : Int) then ((spiritlevelref09_Same.f k bt436.1 x1).bind fun t441 => (spiritlevellaw09_DeltasBack.j1 k x0 x1 x3 bt423.1 (!t441))) else (spiritlevellaw09_DeltasBack.j1 k x0 x1 x3 bt423.1 true)) else (spiritlevellaw09_DeltasBack.j1 k x0 x1 x3 bt423.1 true)) else (spiritlevellaw09_DeltasBack.j1 k x0 x1 x3 bt423.1 true))) else (none))) else (none))))
def spiritlevellaw09_DeltasBack.j1 : Nat → Int → List (S36) → Int → List Int → Bool → Option (Bool)
  | 0, _, _, _, _, _ => none
  | k + 1, x0, x1, x3, x9, x76 => if x76 = true then (some false) else (if x3 < 0 then (spiritlevellaw09_DeltasBack.j2 k x0 x1 x3 x9 true) else (spiritlevellaw09_DeltasBack.j2 k x0 x1 x3 x9 (decide (x3 ≥ (x1.length : Int)))))
def spiritlevellaw09_DeltasBack.j2 : Nat → Int → List (S36) → Int → List Int → Bool → Option (Bool)
  | 0, _, _, _, _, _ => none
  | k + 1, x0, x1, x3, x9, x84 => if x84 = true then ((spiritlevellaw09_alive.f k).bind fun t442 => (some t442)) else (if 0 ≤ x3 then (if x3 ≤ (x1.length : Int) then ((deltas_Pack.f k x0 (x1.take (x3 : Int).toNat)).bind fun bt447 => ((deltas_Pack.f k (wrap64 (x0 + x3)) (x1.drop (x3 : Int).toNat)).bind fun bt455 => (if bt447.2 = 0 then (if bt455.2 = 0 then (if (strOfNums bt447.1).size + (strOfNums bt455.1).size ≤ 9223372036854775807 then (if ((strOfNums bt447.1) ++ (strOfNums bt455.1)).toList = (strOfNums x9).toList then ((spiritlevellaw09_alive.f k).bind fun t459 => (some t459)) else (some false)) else (none)) else (some false)) else (some false)))) else (none)) else (none))
end
def spiritlevellaw09_DeltasBack.f (k : Nat) (a0 : Int) (l1 : List (S36)) (l2 : List Int) (a3 : Int) : Option (Bool) := if (l1.length : Int) > 150 then (spiritlevellaw09_DeltasBack.j0 k a0 l1 l2 a3 true) else (if (l2.length : Int) > 100 then (spiritlevellaw09_DeltasBack.j0 k a0 l1 l2 a3 true) else ((spiritlevelref09_Asked.f k a0 (l1.length : Int)).bind fun t420 => (if t420 = 0 then ((spiritlevellaw09_right.f k a0 l1).bind fun t421 => (spiritlevellaw09_DeltasBack.j0 k a0 l1 l2 a3 (!t421))) else (spiritlevellaw09_DeltasBack.j0 k a0 l1 l2 a3 true))))
set_option maxHeartbeats 8000000 in
set_option maxRecDepth 100000 in
theorem spiritlevellaw09_DeltasBack.calls (k : Nat) (a0 : Int) (A1 : Option Addr) (c1 : Nat) (l1 : List (S36)) (A2 : Option Addr) (c2 : Nat) (l2 : List Int) (a3 : Int) (r : Bool) (w : World) (hr1 : Kd.C k36 w A1 l1.length l1) (hc1 : l1.length ≤ c1) (hr2 : Kd.C (Kd.int .u8) w A2 l2.length l2) (hc2 : l2.length ≤ c2) (h : spiritlevellaw09_DeltasBack.f k a0 l1 l2 a3 = some r) :
    Calls Try.prog 7 #[.int .i64 a0, .slice A1 l1.length c1, .slice A2 l2.length c2, .int .i64 a3] w fun e w' => e = .returned (.bool r) ∧ Below w.heap.size w w' := by
  have HR1 := Aside0.mk hr1
  have HC1 := Aside0.mk hc1
  clear hr1 hc1
  have HR2 := Aside0.mk hr2
  have HC2 := Aside0.mk hc2
  clear hr2 hc2
  have HB := Aside0.mk (Below.refl w.heap.size w)
  have H : (if (l1.length : Int) > 150 then (spiritlevellaw09_DeltasBack.j0 k a0 l1 l2 a3 true) else (if (l2.length : Int) > 100 then (spiritlevellaw09_DeltasBack.j0 k a0 l1 l2 a3 true) else ((spiritlevelref09_Asked.f k a0 (l1.length : Int)).bind fun t420 => (if t420 = 0 then ((spiritlevellaw09_right.f k a0 l1).bind fun t421 => (spiritlevellaw09_DeltasBack.j0 k a0 l1 l2 a3 (!t421))) else (spiritlevellaw09_DeltasBack.j0 k a0 l1 l2 a3 true))))) = some r := h
  clear h
  have HC5 := Aside0.mk H
  clear H
  go_enter Try.func7, Try.ntmps7
  go_upto_region 1 with (fail)
  go_cut [38] (fun v38 wc => ∃ (kq : Nat) (x38_4 : Bool), v38 = .bool x38_4 ∧ Aside0 (spiritlevellaw09_DeltasBack.j0 kq a0 l1 l2 a3 x38_4 = some r) ∧ Aside0 (kq ≤ k) ∧ Aside0 (Below w.heap.size w wc))
  case first =>
    have H := HC5.out
    clear HC5
    by_cases c6 : (l1.length : Int) > 150
    · rw [if_pos c6] at H
      have c6b0 : decide (150 < (l1.length : Int)) = true := decide_eq_true c6
      have c6b1 : decide (150 < l1.length) = true := decide_eq_true (by omega)
      clear c6
      (first | rw [c6b0] | (simp only [i64_w, i32_w]; rw [c6b0]) | skip)
      have H' := Aside0.mk H
      clear H
      go_wp2
      go_meet
      case rel => exact ⟨_, (true), (by first | rfl | (simp; done) | (simp [*]; done)), H', ⟨by first | omega | exact Nat.le_refl _⟩, ⟨by repeat (first | (with_reducible first | exact HB.out | apply below_alloc | apply pw_below_drewN | apply below_drew1) | exact HB.out)⟩⟩
    · rw [if_neg c6] at H
      have c6b0 : decide (150 < (l1.length : Int)) = false := decide_eq_false c6
      have c6b1 : decide (150 < l1.length) = false := decide_eq_false (by omega)
      clear c6
      (first | rw [c6b0] | (simp only [i64_w, i32_w]; rw [c6b0]) | skip)
      by_cases c7 : (l2.length : Int) > 100
      · rw [if_pos c7] at H
        have c7b0 : decide (100 < (l2.length : Int)) = true := decide_eq_true c7
        have c7b1 : decide (100 < l2.length) = true := decide_eq_true (by omega)
        clear c7
        have H' := Aside0.mk H
        clear H
        go_wp2
        go_meet
        case rel => exact ⟨_, (true), (by first | rfl | (simp; done) | (simp [*]; done)), H', ⟨by first | omega | exact Nat.le_refl _⟩, ⟨by repeat (first | (with_reducible first | exact HB.out | apply below_alloc | apply pw_below_drewN | apply below_drew1) | exact HB.out)⟩⟩
      · rw [if_neg c7] at H
        have c7b0 : decide (100 < (l2.length : Int)) = false := decide_eq_false c7
        have c7b1 : decide (100 < l2.length) = false := decide_eq_false (by omega)
        clear c7
        replace H := Option.bind_eq_some_iff.mp H
        obtain ⟨t420, A80, H⟩ := H
        replace H : (if t420 = 0 then ((spiritlevellaw09_right.f k a0 l1).bind fun t421 => (spiritlevellaw09_DeltasBack.j0 k a0 l1 l2 a3 (!t421))) else (spiritlevellaw09_DeltasBack.j0 k a0 l1 l2 a3 true)) = some r := H
        have A8 := Aside0.mk A80
        clear A80
        by_cases c9 : t420 = 0
        · rw [if_pos c9] at H
          have c9b0 : (t420 == 0) = true := beq_iff_eq.mpr c9
          have c9b1 : (t420 != 0) = false := bne_eq_false_iff_eq.mpr c9
          clear c9
          replace H := Option.bind_eq_some_iff.mp H
          obtain ⟨t421, A100, H⟩ := H
          replace H : (spiritlevellaw09_DeltasBack.j0 k a0 l1 l2 a3 (!t421)) = some r := H
          have A10 := Aside0.mk A100
          clear A100
          have H' := Aside0.mk H
          clear H
          go_wp2_with (first | (go_at_call 22; (with_reducible refine (spiritlevelref09_Asked.calls k a0 (l1.length : Int) t420 _ A8.out).mono ?_); rintro e w' ⟨rfl, ⟨nd, rfl⟩⟩) | (go_at_call 23; (with_reducible refine (spiritlevellaw09_right.calls k a0 _ _ l1 t421 _ ?side1 ?side2 A10.out).mono ?_); (case side1 => repeat (first | exact (Kd.C_below HR1.out (by repeat (first | (with_reducible first | exact HB.out | apply below_alloc | apply pw_below_drewN | apply below_drew1) | exact HB.out))) | (with_reducible refine Kd.C_alloc ?_ _) | (with_reducible refine Kd.C_drewN ?_ _) | (with_reducible refine Kd.C_drew ?_))); (case side2 => exact HC1.out); rintro e w11 ⟨rfl, hb⟩; have n0_ := Aside0.mk (below_step (by repeat (first | (with_reducible first | exact HB.out | apply below_alloc | apply pw_below_drewN | apply below_drew1) | exact HB.out)) hb); clear HB; have HB := n0_; clear n0_; (try clear hb); (try clear hb2); (try clear hk); (try clear hi)))
          go_meet
          case rel => exact ⟨_, (!t421), (by first | rfl | (simp; done) | (simp [*]; done)), H', ⟨by first | omega | exact Nat.le_refl _⟩, ⟨by repeat (first | (with_reducible first | exact HB.out | apply below_alloc | apply pw_below_drewN | apply below_drew1) | exact HB.out)⟩⟩
        · rw [if_neg c9] at H
          have c9b0 : (t420 == 0) = false := beq_eq_false_iff_ne.mpr c9
          have c9b1 : (t420 != 0) = true := bne_iff_ne.mpr c9
          have H' := Aside0.mk H
          clear H
          go_wp2_with (first | (go_at_call 22; (with_reducible refine (spiritlevelref09_Asked.calls k a0 (l1.length : Int) t420 _ A8.out).mono ?_); rintro e w' ⟨rfl, ⟨nd, rfl⟩⟩))
          go_meet
          case rel => exact ⟨_, (true), (by first | rfl | (simp; done) | (simp [*]; done)), H', ⟨by first | omega | exact Nat.le_refl _⟩, ⟨by repeat (first | (with_reducible first | exact HB.out | apply below_alloc | apply pw_below_drewN | apply below_drew1) | exact HB.out)⟩⟩
  case rest =>
    clear HC5
    try clear c1
    try clear c2
    try clear p2
    try clear c6
    try clear c6b0
    try clear c6b1
    try clear c7
    try clear c7b0
    try clear c7b1
    try clear c9
    try clear c9b0
    try clear c9b1
    obtain ⟨kq, x38_4, rfl, HA, HJ4, HB⟩ := hcut
    cases kq with
    | zero => exact absurd HA.out (by simp [spiritlevellaw09_DeltasBack.j0])
    | succ kj4 =>
      have H := HA.out
      clear HA
      simp only [spiritlevellaw09_DeltasBack.j0] at H
      by_cases c12 : x38_4 = true
      · subst c12
        have H1 : ((spiritlevellaw09_alive.f kj4).bind fun t422 => (some t422)) = some r := by rw [if_pos rfl] at H; exact H
        clear H
        have H := H1
        clear H1
        replace H := Option.bind_eq_some_iff.mp H
        obtain ⟨t422, A130, H⟩ := H
        replace H : (some t422) = some r := H
        have A13 := Aside0.mk A130
        clear A130
        obtain rfl := Option.some.inj H
        go_wp2_with (first | ((with_reducible refine gate_callee (f := 19) rfl ?_); refine goesL_ (some 39) rfl rfl Try.func19 (by kernel_rfl) rfl #[] rfl (by (try simp only [List.map_toArray, List.map_cons, List.map_nil]); first | done | rfl | (simp only [List.length_drop, List.length_take]; rfl)) ?_; (with_reducible refine (spiritlevellaw09_alive.calls kj4  t422 _ A13.out).mono ?_); rintro e w14 ⟨rfl, hb⟩; refine ⟨_, rfl, ?_⟩; have n0_ := Aside0.mk (below_step (by repeat (first | (with_reducible first | exact HB.out | apply below_alloc | apply pw_below_drewN | apply below_drew1) | exact HB.out)) hb); clear HB; have HB := n0_; clear n0_; (try clear hb); (try clear hb2); (try clear hk); (try clear hi)))
        go_ret
        exact ⟨by first | rfl | (simp [errW_none, errW_some] <;> rfl) | (simp [*, errW_none, errW_some] <;> rfl), by repeat (first | (with_reducible first | exact HB.out | apply below_alloc | apply pw_below_drewN | apply below_drew1) | exact HB.out)⟩
      · replace c12 := Bool.eq_false_iff.mpr c12
        subst c12
        have H1 : ((deltas_Pack.f kj4 a0 l1).bind fun bt423 => ((some (([] : List Int) : List Int)).bind fun y427 => (if y427.length + bt423.1.length < 140737488355328 then ((some (y427 ++ bt423.1 : List Int)).bind fun y430 => (if y430.length + l2.length < 140737488355328 then ((deltas_Unpack.f kj4 a0 (l1.length : Int) (y430 ++ l2)).bind fun bt436 => (if bt423.2 = 0 then (if bt436.2.2 = 0 then (if bt436.2.1 = (bt423.1.length : Int) then ((spiritlevelref09_Same.f kj4 bt436.1 l1).bind fun t441 => (spiritlevellaw09_DeltasBack.j1 kj4 a0 l1 a3 bt423.1 (!t441))) else (spiritlevellaw09_DeltasBack.j1 kj4 a0 l1 a3 bt423.1 true)) else (spiritlevellaw09_DeltasBack.j1 kj4 a0 l1 a3 bt423.1 true)) else (spiritlevellaw09_DeltasBack.j1 kj4 a0 l1 a3 bt423.1 true))) else (none))) else (none)))) = some r := by rw [if_neg (show ¬ (false = true) by decide)] at H; exact H
        clear H
        have H := H1
        clear H1
        replace H := Option.bind_eq_some_iff.mp H
        obtain ⟨⟨t423, t424⟩, A150, H⟩ := H
        replace H : ((some (([] : List Int) : List Int)).bind fun y427 => (if y427.length + t423.length < 140737488355328 then ((some (y427 ++ t423 : List Int)).bind fun y430 => (if y430.length + l2.length < 140737488355328 then ((deltas_Unpack.f kj4 a0 (l1.length : Int) (y430 ++ l2)).bind fun bt436 => (if t424 = 0 then (if bt436.2.2 = 0 then (if bt436.2.1 = (t423.length : Int) then ((spiritlevelref09_Same.f kj4 bt436.1 l1).bind fun t441 => (spiritlevellaw09_DeltasBack.j1 kj4 a0 l1 a3 t423 (!t441))) else (spiritlevellaw09_DeltasBack.j1 kj4 a0 l1 a3 t423 true)) else (spiritlevellaw09_DeltasBack.j1 kj4 a0 l1 a3 t423 true)) else (spiritlevellaw09_DeltasBack.j1 kj4 a0 l1 a3 t423 true))) else (none))) else (none))) = some r := H
        have A15 := Aside0.mk A150
        clear A150
        obtain ⟨y427, hy427⟩ : ∃ y_ : List Int, y_ = (([] : List Int)) := ⟨_, rfl⟩
        replace H : (if y427.length + t423.length < 140737488355328 then ((some (y427 ++ t423 : List Int)).bind fun y430 => (if y430.length + l2.length < 140737488355328 then ((deltas_Unpack.f kj4 a0 (l1.length : Int) (y430 ++ l2)).bind fun bt436 => (if t424 = 0 then (if bt436.2.2 = 0 then (if bt436.2.1 = (t423.length : Int) then ((spiritlevelref09_Same.f kj4 bt436.1 l1).bind fun t441 => (spiritlevellaw09_DeltasBack.j1 kj4 a0 l1 a3 t423 (!t441))) else (spiritlevellaw09_DeltasBack.j1 kj4 a0 l1 a3 t423 true)) else (spiritlevellaw09_DeltasBack.j1 kj4 a0 l1 a3 t423 true)) else (spiritlevellaw09_DeltasBack.j1 kj4 a0 l1 a3 t423 true))) else (none))) else (none)) = some r := by first | (rw [hy427]; with_reducible exact H) | (have H2_ := (Option.bind_some _ _).symm.trans H; rw [hy427]; with_reducible exact H2_) | (have H2_ := (Option.bind_some _ _).symm.trans H; with_reducible exact H2_) | with_reducible exact H | (rw [hy427]; exact H) | exact H
        have Ny427 := Aside0.mk hy427
        clear hy427
        by_cases c16 : y427.length + t423.length < 140737488355328
        · rw [if_pos c16] at H
          have LMc16 := Aside0.mk c16
          clear c16
          obtain ⟨y430, hy430⟩ : ∃ y_ : List Int, y_ = (y427 ++ t423) := ⟨_, rfl⟩
          replace H : (if y430.length + l2.length < 140737488355328 then ((deltas_Unpack.f kj4 a0 (l1.length : Int) (y430 ++ l2)).bind fun bt436 => (if t424 = 0 then (if bt436.2.2 = 0 then (if bt436.2.1 = (t423.length : Int) then ((spiritlevelref09_Same.f kj4 bt436.1 l1).bind fun t441 => (spiritlevellaw09_DeltasBack.j1 kj4 a0 l1 a3 t423 (!t441))) else (spiritlevellaw09_DeltasBack.j1 kj4 a0 l1 a3 t423 true)) else (spiritlevellaw09_DeltasBack.j1 kj4 a0 l1 a3 t423 true)) else (spiritlevellaw09_DeltasBack.j1 kj4 a0 l1 a3 t423 true))) else (none)) = some r := by first | (rw [hy430]; with_reducible exact H) | (have H2_ := (Option.bind_some _ _).symm.trans H; rw [hy430]; with_reducible exact H2_) | (have H2_ := (Option.bind_some _ _).symm.trans H; with_reducible exact H2_) | with_reducible exact H | (rw [hy430]; exact H) | exact H
          have Ny430 := Aside0.mk hy430
          clear hy430
          by_cases c17 : y430.length + l2.length < 140737488355328
          · rw [if_pos c17] at H
            have LMc17 := Aside0.mk c17
            clear c17
            obtain ⟨y433, hy433⟩ : ∃ y_ : List Int, y_ = (y430 ++ l2) := ⟨_, rfl⟩
            replace H : ((deltas_Unpack.f kj4 a0 (l1.length : Int) y433).bind fun bt436 => (if t424 = 0 then (if bt436.2.2 = 0 then (if bt436.2.1 = (t423.length : Int) then ((spiritlevelref09_Same.f kj4 bt436.1 l1).bind fun t441 => (spiritlevellaw09_DeltasBack.j1 kj4 a0 l1 a3 t423 (!t441))) else (spiritlevellaw09_DeltasBack.j1 kj4 a0 l1 a3 t423 true)) else (spiritlevellaw09_DeltasBack.j1 kj4 a0 l1 a3 t423 true)) else (spiritlevellaw09_DeltasBack.j1 kj4 a0 l1 a3 t423 true))) = some r := by first | (rw [hy433]; with_reducible exact H) | (have H2_ := (Option.bind_some _ _).symm.trans H; rw [hy433]; with_reducible exact H2_) | (have H2_ := (Option.bind_some _ _).symm.trans H; with_reducible exact H2_) | with_reducible exact H | (rw [hy433]; exact H) | exact H
            have Ny433 := Aside0.mk hy433
            clear hy433
            replace H := Option.bind_eq_some_iff.mp H
            obtain ⟨⟨t436, t437, t438⟩, A180, H⟩ := H
            replace H : (if t424 = 0 then (if t438 = 0 then (if t437 = (t423.length : Int) then ((spiritlevelref09_Same.f kj4 t436 l1).bind fun t441 => (spiritlevellaw09_DeltasBack.j1 kj4 a0 l1 a3 t423 (!t441))) else (spiritlevellaw09_DeltasBack.j1 kj4 a0 l1 a3 t423 true)) else (spiritlevellaw09_DeltasBack.j1 kj4 a0 l1 a3 t423 true)) else (spiritlevellaw09_DeltasBack.j1 kj4 a0 l1 a3 t423 true)) = some r := H
            have A18 := Aside0.mk A180
            clear A180
            have HC19 := Aside0.mk H
            clear H
            go_upto_region 5 with (first | ((with_reducible refine gate_callee (f := 16) rfl ?_); refine goesL_ (some 43) rfl rfl Try.func16 (by kernel_rfl) rfl #[.int .i64 a0, .slice A1 l1.length c1] rfl (by (try simp only [List.map_toArray, List.map_cons, List.map_nil]); first | done | rfl | (simp only [List.length_drop, List.length_take]; rfl)) ?_; (with_reducible refine (deltas_Pack.calls kj4 a0 _ _ l1 t423 t424 _ ?side1 ?side2 A15.out).mono ?_); (case side1 => repeat (first | exact (Kd.C_below HR1.out HB.out) | (with_reducible refine Kd.C_alloc ?_ _) | (with_reducible refine Kd.C_drewN ?_ _) | (with_reducible refine Kd.C_drew ?_))); (case side2 => exact HC1.out); rintro e w20 ⟨v425, rfl, ho0, hb⟩; refine ⟨_, rfl, ?_⟩; have n0_ := Aside0.mk (Kd.R_lower ho0 (below_size (by repeat (first | (with_reducible first | exact HB.out | apply below_alloc | apply pw_below_drewN | apply below_drew1) | exact HB.out)))); have n1_ := Aside0.mk (below_step (by repeat (first | (with_reducible first | exact HB.out | apply below_alloc | apply pw_below_drewN | apply below_drew1) | exact HB.out)) hb); clear HB; have HO426 := n0_; have HB := n1_; clear n0_ n1_; (try clear hb); (try clear hb2); (try clear hk); (try clear hi); (try clear ho0)) | ((with_reducible refine gate_dst (N := 50) rfl ?_); (try (refine gate_guard (by rfl) ?_; dsimp only)); refine Kd.R_lit (Kd.int .u8) _ 5 ?hg (N := 50) ?hd (xs := ([] : List Int)) (inner := []) (ok := fun _ => True) (okp := fun _ => True) ?hr ?hp (fun _ hk => hk) trivial (Below.refl _ _) (Nat.le_refl _) (by simp) ?_; (case hd => rfl); (case hg => rfl); (case hr => first | (go_simp; done) | (go_simp; rfl)); (case hp => exact (Reps.none _ _)); intro v428 w21 ho22 hb hg_ hnew_; clear hg_ hnew_; (first | rw [← Ny427.out] at ho22 | (simp only [Int.reduceToNat] at ho22; rw [← Ny427.out] at ho22)); have n0_ := Aside0.mk (Kd.R_elder' (by (with_reducible repeat (first | apply Kd.R_alloc | apply Kd.R_drewN | apply Kd.R_drew)); exact HO426.out) (Kd.R_base ho22) hb); have n1_ := Aside0.mk (Kd.R_lower (Kd.R_new' ho22 (Kd.R_lt (by (with_reducible repeat (first | apply Kd.R_alloc | apply Kd.R_drewN | apply Kd.R_drew)); exact HO426.out))) (below_size (by repeat (first | (with_reducible first | exact HB.out | apply below_alloc | apply pw_below_drewN | apply below_drew1) | exact HB.out)))); have n2_ := Aside0.mk (below_step (by repeat (first | (with_reducible first | exact HB.out | apply below_alloc | apply pw_below_drewN | apply below_drew1) | exact HB.out)) hb); clear HO426; clear HB; have HO426 := n0_; have HO429 := n1_; have HB := n2_; clear n0_ n1_ n2_; clear hb ho22; obtain ⟨Ao24, co24, eo24⟩ := Kd.R_slice HO426.out; subst eo24) | ((with_reducible refine gate_builtin (b := .append) (xs := #[.tmp 50, .tmp 51]) rfl ?_); (try (refine gate_guard (by rfl) ?_; dsimp only)); at_builtin; refine Kd.R_append_rows (Kd.int .u8) (w0 := w) w.heap.size rfl (.tmp 50) (.tmp 51) 22 5 (.int .u8 0) 1 rfl Try.underlying22 info5 rfl (by decide) (by omega) v428 y427 t423 _ _ _ (fun k_ => some k_ ≠ (.slice Ao24 t423.length co24 : Value).ownBlock) (fun _ => False) rfl rfl ?aO ?aR (fun _ _ h => h) (fun _ h => h.elim) ?aF ?aB ?aS ?aL ?_; (case aR => repeat (first | exact (Kd.R_reads' HO426.out).2.2 | (with_reducible refine Kd.C_alloc ?_ _) | (with_reducible refine Kd.C_drewN ?_ _) | (with_reducible refine Kd.C_drew ?_))); (case aB => exact (by repeat (first | (with_reducible first | exact HB.out | apply below_alloc | apply pw_below_drewN | apply below_drew1) | exact HB.out))); (case aF => exact (fun k_ hk => Kd.fresh' (Kd.R_lt (by (with_reducible repeat (first | apply Kd.R_alloc | apply Kd.R_drewN | apply Kd.R_drew)); exact HO426.out)) k_ hk)); (case aO => exact (by (with_reducible repeat (first | apply Kd.R_alloc | apply Kd.R_drewN | apply Kd.R_drew)); exact Kd.R_mono HO429.out (fun _ hk => by first | exact hk.2 | exact hk))); (case aS => exact (below_size (by repeat (first | (with_reducible first | exact HB.out | apply below_alloc | apply pw_below_drewN | apply below_drew1) | exact HB.out)))); (case aL => have := LMc16.out; omega); intro v431 w23 ho hb hg hat; rw [← Ny430.out] at ho; have n0_ := Aside0.mk (Kd.R_after (ok := (fun _ => True)) (by (with_reducible repeat (first | apply Kd.R_alloc | apply Kd.R_drewN | apply Kd.R_drew)); exact HO426.out) hg hat); have n1_ := Aside0.mk (hb); have n2_ := Aside0.mk (ho); clear HO426; clear HB; clear HO429; have HO426 := n0_; have HB := n1_; have HO432 := n2_; clear n0_ n1_ n2_; clear ho hb hg hat) | ((with_reducible refine gate_builtin (b := .append) (xs := #[.tmp 52, .tmp 53]) rfl ?_); (try (refine gate_guard (by rfl) ?_; dsimp only)); at_builtin; refine Kd.R_append_rows (Kd.int .u8) (w0 := w) w.heap.size rfl (.tmp 52) (.tmp 53) 22 5 (.int .u8 0) 1 rfl Try.underlying22 info5 rfl (by decide) (by omega) v431 y430 l2 _ _ _ (fun k_ => some k_ ≠ (.slice Ao24 t423.length co24 : Value).ownBlock) (fun _ => False) rfl rfl ?aO ?aR (fun _ _ h => h) (fun _ h => h.elim) ?aF ?aB ?aS ?aL ?_; (case aR => repeat (first | exact (Kd.C_below HR2.out HB.out) | (with_reducible refine Kd.C_alloc ?_ _) | (with_reducible refine Kd.C_drewN ?_ _) | (with_reducible refine Kd.C_drew ?_))); (case aB => exact (by repeat (first | (with_reducible first | exact HB.out | apply below_alloc | apply pw_below_drewN | apply below_drew1) | exact HB.out))); (case aF => exact (fun k_ hk => Kd.fresh' (Kd.R_lt (by (with_reducible repeat (first | apply Kd.R_alloc | apply Kd.R_drewN | apply Kd.R_drew)); exact HO426.out)) k_ hk)); (case aO => exact (by (with_reducible repeat (first | apply Kd.R_alloc | apply Kd.R_drewN | apply Kd.R_drew)); exact HO432.out)); (case aS => exact (below_size (by repeat (first | (with_reducible first | exact HB.out | apply below_alloc | apply pw_below_drewN | apply below_drew1) | exact HB.out)))); (case aL => have := LMc17.out; omega); intro v434 w25 ho hb hg hat; rw [← Ny433.out] at ho; have n0_ := Aside0.mk (Kd.R_after (ok := (fun _ => True)) (by (with_reducible repeat (first | apply Kd.R_alloc | apply Kd.R_drewN | apply Kd.R_drew)); exact HO426.out) hg hat); have n1_ := Aside0.mk (hb); have n2_ := Aside0.mk (ho); clear HO426; clear HB; clear HO432; have HO426 := n0_; have HB := n1_; have HO435 := n2_; clear n0_ n1_ n2_; clear ho hb hg hat; obtain ⟨Ao26, co26, eo26⟩ := Kd.R_slice HO435.out; subst eo26) | ((with_reducible refine gate_callee (f := 17) rfl ?_); refine goesL_ (some 55) rfl rfl Try.func17 (by kernel_rfl) rfl #[.int .i64 a0, .int .i64 (l1.length : Int), .slice Ao26 y433.length co26] rfl (by (try simp only [List.map_toArray, List.map_cons, List.map_nil]); first | done | rfl | (simp only [List.length_drop, List.length_take]; rfl)) ?_; (with_reducible refine (deltas_Unpack.calls kj4 a0 (l1.length : Int) _ _ y433 t436 t437 t438 _ ?side1 ?side2 A18.out).mono ?_); (case side1 => repeat (first | exact (Kd.R_reads' HO435.out).2.2 | (with_reducible refine Kd.C_alloc ?_ _) | (with_reducible refine Kd.C_drewN ?_ _) | (with_reducible refine Kd.C_drew ?_))); (case side2 => exact (Kd.R_reads' HO435.out).2.1); rintro e w27 ⟨v439, rfl, ho0, hb⟩; refine ⟨_, rfl, ?_⟩; have n0_ := Aside0.mk (Kd.R_below (by (with_reducible repeat (first | apply Kd.R_alloc | apply Kd.R_drewN | apply Kd.R_drew)); exact HO426.out) hb); have n1_ := Aside0.mk (Kd.R_below (by (with_reducible repeat (first | apply Kd.R_alloc | apply Kd.R_drewN | apply Kd.R_drew)); exact HO435.out) hb); have n2_ := Aside0.mk (Kd.R_lower ho0 (below_size (by repeat (first | (with_reducible first | exact HB.out | apply below_alloc | apply pw_below_drewN | apply below_drew1) | exact HB.out)))); have n3_ := Aside0.mk (below_step (by repeat (first | (with_reducible first | exact HB.out | apply below_alloc | apply pw_below_drewN | apply below_drew1) | exact HB.out)) hb); clear HO426; clear HO435; clear HB; have HO426 := n0_; have HO435 := n1_; have HO440 := n2_; have HB := n3_; clear n0_ n1_ n2_ n3_; (try clear hb); (try clear hb2); (try clear hk); (try clear hi); (try clear ho0)))
            (try simp only [Act.put, List.setIfInBounds_toArray, List.set_cons_zero, List.set_cons_succ])
            go_cut [76] (fun v76 wc => ∃ (kq : Nat) (x76_18 : Bool), v76 = .bool x76_18 ∧ Aside0 (spiritlevellaw09_DeltasBack.j1 kq a0 l1 a3 t423 x76_18 = some r) ∧ Aside0 (kq ≤ kj4) ∧ Aside0 (Kd.R (Kd.int .u8) 5 wc w.heap.size (fun _ => True) (.slice Ao24 t423.length co24) t423) ∧ Aside0 (Below w.heap.size w wc))
            case first =>
              have H := HC19.out
              clear HC19
              by_cases c28 : t424 = 0
              · rw [if_pos c28] at H
                have c28b0 : (t424 == 0) = true := beq_iff_eq.mpr c28
                have c28b1 : (t424 != 0) = false := bne_eq_false_iff_eq.mpr c28
                clear c28
                (first | rw [c28b0] | (simp only [i64_w, i32_w]; rw [c28b0]) | skip)
                by_cases c29 : t438 = 0
                · rw [if_pos c29] at H
                  have c29b0 : (t438 == 0) = true := beq_iff_eq.mpr c29
                  have c29b1 : (t438 != 0) = false := bne_eq_false_iff_eq.mpr c29
                  clear c29
                  by_cases c30 : t437 = (t423.length : Int)
                  · rw [if_pos c30] at H
                    have c30b0 : (t437 == (t423.length : Int)) = true := beq_iff_eq.mpr c30
                    have c30b1 : (t437 != (t423.length : Int)) = false := bne_eq_false_iff_eq.mpr c30
                    clear c30
                    replace H := Option.bind_eq_some_iff.mp H
                    obtain ⟨t441, A310, H⟩ := H
                    replace H : (spiritlevellaw09_DeltasBack.j1 kj4 a0 l1 a3 t423 (!t441)) = some r := H
                    have A31 := Aside0.mk A310
                    clear A310
                    have H' := Aside0.mk H
                    clear H
                    obtain ⟨Ao32, co32, eo32⟩ := Kd.R_slice HO440.out
                    subst eo32
                    go_wp2_with (first | (go_at_call 18; (with_reducible refine (spiritlevelref09_Same.calls kj4 _ _ t436 _ _ l1 t441 _ ?side1 ?side2 ?side3 ?side4 A31.out).mono ?_); (case side1 => repeat (first | exact (Kd.R_reads' HO440.out).2.2 | (with_reducible refine Kd.C_alloc ?_ _) | (with_reducible refine Kd.C_drewN ?_ _) | (with_reducible refine Kd.C_drew ?_))); (case side2 => exact (Kd.R_reads' HO440.out).2.1); (case side3 => repeat (first | exact (Kd.C_below HR1.out HB.out) | (with_reducible refine Kd.C_alloc ?_ _) | (with_reducible refine Kd.C_drewN ?_ _) | (with_reducible refine Kd.C_drew ?_))); (case side4 => exact HC1.out); rintro e w' ⟨rfl, ⟨nd, rfl⟩⟩))
                    go_meet
                    case rel => exact ⟨_, (!t441), (by first | rfl | (simp; done) | (simp [*]; done)), H', ⟨by have := HJ4.out; first | omega | exact Nat.le_refl _⟩, ⟨by (with_reducible repeat (first | apply Kd.R_alloc | apply Kd.R_drewN | apply Kd.R_drew)); exact Kd.R_mono HO426.out (fun _ hk => trivial)⟩, ⟨by repeat (first | (with_reducible first | exact HB.out | apply below_alloc | apply pw_below_drewN | apply below_drew1) | exact HB.out)⟩⟩
                  · rw [if_neg c30] at H
                    have c30b0 : (t437 == (t423.length : Int)) = false := beq_eq_false_iff_ne.mpr c30
                    have c30b1 : (t437 != (t423.length : Int)) = true := bne_iff_ne.mpr c30
                    have H' := Aside0.mk H
                    clear H
                    go_wp2
                    go_meet
                    case rel => exact ⟨_, (true), (by first | rfl | (simp; done) | (simp [*]; done)), H', ⟨by have := HJ4.out; first | omega | exact Nat.le_refl _⟩, ⟨by (with_reducible repeat (first | apply Kd.R_alloc | apply Kd.R_drewN | apply Kd.R_drew)); exact Kd.R_mono HO426.out (fun _ hk => trivial)⟩, ⟨by repeat (first | (with_reducible first | exact HB.out | apply below_alloc | apply pw_below_drewN | apply below_drew1) | exact HB.out)⟩⟩
                · rw [if_neg c29] at H
                  have c29b0 : (t438 == 0) = false := beq_eq_false_iff_ne.mpr c29
                  have c29b1 : (t438 != 0) = true := bne_iff_ne.mpr c29
                  have H' := Aside0.mk H
                  clear H
                  go_wp2
                  go_meet
                  case rel => exact ⟨_, (true), (by first | rfl | (simp; done) | (simp [*]; done)), H', ⟨by have := HJ4.out; first | omega | exact Nat.le_refl _⟩, ⟨by (with_reducible repeat (first | apply Kd.R_alloc | apply Kd.R_drewN | apply Kd.R_drew)); exact Kd.R_mono HO426.out (fun _ hk => trivial)⟩, ⟨by repeat (first | (with_reducible first | exact HB.out | apply below_alloc | apply pw_below_drewN | apply below_drew1) | exact HB.out)⟩⟩
              · rw [if_neg c28] at H
                have c28b0 : (t424 == 0) = false := beq_eq_false_iff_ne.mpr c28
                have c28b1 : (t424 != 0) = true := bne_iff_ne.mpr c28
                (first | rw [c28b0] | (simp only [i64_w, i32_w]; rw [c28b0]) | skip)
                have H' := Aside0.mk H
                clear H
                go_wp2
                go_meet
                case rel => exact ⟨_, (true), (by first | rfl | (simp; done) | (simp [*]; done)), H', ⟨by have := HJ4.out; first | omega | exact Nat.le_refl _⟩, ⟨by (with_reducible repeat (first | apply Kd.R_alloc | apply Kd.R_drewN | apply Kd.R_drew)); exact Kd.R_mono HO426.out (fun _ hk => trivial)⟩, ⟨by repeat (first | (with_reducible first | exact HB.out | apply below_alloc | apply pw_below_drewN | apply below_drew1) | exact HB.out)⟩⟩
            case rest =>
              clear HC19
              try clear c1
              try clear c2
              try clear p2
              try clear c3
              try clear c6
              try clear c6b0
              try clear c6b1
              try clear c7
              try clear c7b0
              try clear c7b1
              try clear c9
              try clear c9b0
              try clear c9b1
              try clear c12
              try clear c16
              try clear c17
              try clear c19
              try clear c28
              try clear c28b0
              try clear c28b1
              try clear c29
              try clear c29b0
              try clear c29b1
              try clear c30
              try clear c30b0
              try clear c30b1
              try clear p2
              obtain ⟨kq, x76_18, rfl, HA, HJ18, HO_9, HB⟩ := hcut
              cases kq with
              | zero => exact absurd HA.out (by simp [spiritlevellaw09_DeltasBack.j1])
              | succ kj18 =>
                have H := HA.out
                clear HA
                simp only [spiritlevellaw09_DeltasBack.j1] at H
                by_cases c33 : x76_18 = true
                · subst c33
                  have H1 : (some false) = some r := by rw [if_pos rfl] at H; exact H
                  clear H
                  have H := H1
                  clear H1
                  obtain rfl := Option.some.inj H
                  go_wp2
                  go_ret
                  exact ⟨by first | rfl | (simp [errW_none, errW_some] <;> rfl) | (simp [*, errW_none, errW_some] <;> rfl), by repeat (first | (with_reducible first | exact HB.out | apply below_alloc | apply pw_below_drewN | apply below_drew1) | exact HB.out)⟩
                · replace c33 := Bool.eq_false_iff.mpr c33
                  subst c33
                  have H1 : (if a3 < 0 then (spiritlevellaw09_DeltasBack.j2 kj18 a0 l1 a3 t423 true) else (spiritlevellaw09_DeltasBack.j2 kj18 a0 l1 a3 t423 (decide (a3 ≥ (l1.length : Int))))) = some r := by rw [if_neg (show ¬ (false = true) by decide)] at H; exact H
                  clear H
                  have H := H1
                  clear H1
                  have HC34 := Aside0.mk H
                  clear H
                  go_upto_region 7 with (fail)
                  go_cut [84] (fun v84 wc => ∃ (kq : Nat) (x84_33 : Bool), v84 = .bool x84_33 ∧ Aside0 (spiritlevellaw09_DeltasBack.j2 kq a0 l1 a3 t423 x84_33 = some r) ∧ Aside0 (kq ≤ kj18) ∧ Aside0 (Kd.R (Kd.int .u8) 5 wc w.heap.size (fun _ => True) (.slice Ao24 t423.length co24) t423) ∧ Aside0 (Below w.heap.size w wc))
                  case first =>
                    have H := HC34.out
                    clear HC34
                    by_cases c35 : a3 < 0
                    · rw [if_pos c35] at H
                      have c35b0 : decide (a3 < 0) = true := decide_eq_true c35
                      clear c35
                      (first | rw [c35b0] | (simp only [i64_w, i32_w]; rw [c35b0]) | skip)
                      have H' := Aside0.mk H
                      clear H
                      go_wp2
                      go_meet
                      case rel => exact ⟨_, (true), (by first | rfl | (simp; done) | (simp [*]; done)), H', ⟨by have := HJ4.out; have := HJ18.out; first | omega | exact Nat.le_refl _⟩, ⟨by (with_reducible repeat (first | apply Kd.R_alloc | apply Kd.R_drewN | apply Kd.R_drew)); exact HO_9.out⟩, ⟨by repeat (first | (with_reducible first | exact HB.out | apply below_alloc | apply pw_below_drewN | apply below_drew1) | exact HB.out)⟩⟩
                    · rw [if_neg c35] at H
                      have c35b0 : decide (a3 < 0) = false := decide_eq_false c35
                      clear c35
                      (first | rw [c35b0] | (simp only [i64_w, i32_w]; rw [c35b0]) | skip)
                      have H' := Aside0.mk H
                      clear H
                      go_wp2
                      go_meet
                      case rel => exact ⟨_, (decide (a3 ≥ (l1.length : Int))), (by first | rfl | (simp; done) | (simp [*]; done)), H', ⟨by have := HJ4.out; have := HJ18.out; first | omega | exact Nat.le_refl _⟩, ⟨by (with_reducible repeat (first | apply Kd.R_alloc | apply Kd.R_drewN | apply Kd.R_drew)); exact HO_9.out⟩, ⟨by repeat (first | (with_reducible first | exact HB.out | apply below_alloc | apply pw_below_drewN | apply below_drew1) | exact HB.out)⟩⟩
                  case rest =>
                    clear HC34
                    try clear c1
                    try clear c2
                    try clear p2
                    try clear c3
                    try clear c6
                    try clear c6b0
                    try clear c6b1
                    try clear c7
                    try clear c7b0
                    try clear c7b1
                    try clear c9
                    try clear c9b0
                    try clear c9b1
                    try clear c12
                    try clear c16
                    try clear c17
                    try clear c19
                    try clear c28
                    try clear c28b0
                    try clear c28b1
                    try clear c29
                    try clear c29b0
                    try clear c29b1
                    try clear c30
                    try clear c30b0
                    try clear c30b1
                    try clear c33
                    try clear c35
                    try clear c35b0
                    try clear p2
                    obtain ⟨kq, x84_33, rfl, HA, HJ33, HO_9, HB⟩ := hcut
                    cases kq with
                    | zero => exact absurd HA.out (by simp [spiritlevellaw09_DeltasBack.j2])
                    | succ kj33 =>
                      have H := HA.out
                      clear HA
                      simp only [spiritlevellaw09_DeltasBack.j2] at H
                      by_cases c36 : x84_33 = true
                      · subst c36
                        have H1 : ((spiritlevellaw09_alive.f kj33).bind fun t442 => (some t442)) = some r := by rw [if_pos rfl] at H; exact H
                        clear H
                        have H := H1
                        clear H1
                        replace H := Option.bind_eq_some_iff.mp H
                        obtain ⟨t442, A370, H⟩ := H
                        replace H : (some t442) = some r := H
                        have A37 := Aside0.mk A370
                        clear A370
                        obtain rfl := Option.some.inj H
                        go_wp2_with (first | ((with_reducible refine gate_callee (f := 19) rfl ?_); refine goesL_ (some 85) rfl rfl Try.func19 (by kernel_rfl) rfl #[] rfl (by (try simp only [List.map_toArray, List.map_cons, List.map_nil]); first | done | rfl | (simp only [List.length_drop, List.length_take]; rfl)) ?_; (with_reducible refine (spiritlevellaw09_alive.calls kj33  t442 _ A37.out).mono ?_); rintro e w38 ⟨rfl, hb⟩; refine ⟨_, rfl, ?_⟩; have n0_ := Aside0.mk (Kd.R_below (by (with_reducible repeat (first | apply Kd.R_alloc | apply Kd.R_drewN | apply Kd.R_drew)); exact HO_9.out) hb); have n1_ := Aside0.mk (below_step (by repeat (first | (with_reducible first | exact HB.out | apply below_alloc | apply pw_below_drewN | apply below_drew1) | exact HB.out)) hb); clear HO_9; clear HB; have HO_9 := n0_; have HB := n1_; clear n0_ n1_; (try clear hb); (try clear hb2); (try clear hk); (try clear hi)))
                        go_ret
                        exact ⟨by first | rfl | (simp [errW_none, errW_some] <;> rfl) | (simp [*, errW_none, errW_some] <;> rfl), by repeat (first | (with_reducible first | exact HB.out | apply below_alloc | apply pw_below_drewN | apply below_drew1) | exact HB.out)⟩
                      · replace c36 := Bool.eq_false_iff.mpr c36
                        subst c36
                        have H1 : (if 0 ≤ a3 then (if a3 ≤ (l1.length : Int) then ((deltas_Pack.f kj33 a0 (l1.take (a3 : Int).toNat)).bind fun bt447 => ((deltas_Pack.f kj33 (wrap64 (a0 + a3)) (l1.drop (a3 : Int).toNat)).bind fun bt455 => (if bt447.2 = 0 then (if bt455.2 = 0 then (if (strOfNums bt447.1).size + (strOfNums bt455.1).size ≤ 9223372036854775807 then (if ((strOfNums bt447.1) ++ (strOfNums bt455.1)).toList = (strOfNums t423).toList then ((spiritlevellaw09_alive.f kj33).bind fun t459 => (some t459)) else (some false)) else (none)) else (some false)) else (some false)))) else (none)) else (none)) = some r := by rw [if_neg (show ¬ (false = true) by decide)] at H; exact H
                        clear H
                        have H := H1
                        clear H1
                        by_cases c39 : 0 ≤ a3
                        · rw [if_pos c39] at H
                          have c39b0 := eq_true c39
                          have c39b1 : decide (0 ≤ a3) = true := decide_eq_true c39
                          clear c39
                          by_cases c40 : a3 ≤ (l1.length : Int)
                          · rw [if_pos c40] at H
                            have c40b0 := eq_true c40
                            have c40b1 : decide (a3 ≤ (l1.length : Int)) = true := decide_eq_true c40
                            clear c40
                            obtain ⟨y443, hy443⟩ : ∃ y_ : List (S36), y_ = (l1.take (a3 : Int).toNat) := ⟨_, rfl⟩
                            replace H : ((deltas_Pack.f kj33 a0 y443).bind fun bt447 => ((deltas_Pack.f kj33 (wrap64 (a0 + a3)) (l1.drop (a3 : Int).toNat)).bind fun bt455 => (if bt447.2 = 0 then (if bt455.2 = 0 then (if (strOfNums bt447.1).size + (strOfNums bt455.1).size ≤ 9223372036854775807 then (if ((strOfNums bt447.1) ++ (strOfNums bt455.1)).toList = (strOfNums t423).toList then ((spiritlevellaw09_alive.f kj33).bind fun t459 => (some t459)) else (some false)) else (none)) else (some false)) else (some false)))) = some r := by first | (rw [hy443]; with_reducible exact H) | (have H2_ := (Option.bind_some _ _).symm.trans H; rw [hy443]; with_reducible exact H2_) | (have H2_ := (Option.bind_some _ _).symm.trans H; with_reducible exact H2_) | with_reducible exact H | (rw [hy443]; exact H) | exact H
                            have Ny443 := Aside0.mk hy443
                            clear hy443
                            replace H := Option.bind_eq_some_iff.mp H
                            obtain ⟨⟨t447, t448⟩, A410, H⟩ := H
                            replace H : ((deltas_Pack.f kj33 (wrap64 (a0 + a3)) (l1.drop (a3 : Int).toNat)).bind fun bt455 => (if t448 = 0 then (if bt455.2 = 0 then (if (strOfNums t447).size + (strOfNums bt455.1).size ≤ 9223372036854775807 then (if ((strOfNums t447) ++ (strOfNums bt455.1)).toList = (strOfNums t423).toList then ((spiritlevellaw09_alive.f kj33).bind fun t459 => (some t459)) else (some false)) else (none)) else (some false)) else (some false))) = some r := H
                            have A41 := Aside0.mk A410
                            clear A410
                            have c42b0 := eq_true (of_decide_eq_true (by first | (with_reducible assumption) | assumption) : 0 ≤ a3)
                            have c43b0 := eq_true (of_decide_eq_true (by first | (with_reducible assumption) | assumption) : a3 ≤ (l1.length : Int))
                            obtain ⟨y451, hy451⟩ : ∃ y_ : List (S36), y_ = (l1.drop (a3 : Int).toNat) := ⟨_, rfl⟩
                            replace H : ((deltas_Pack.f kj33 (wrap64 (a0 + a3)) y451).bind fun bt455 => (if t448 = 0 then (if bt455.2 = 0 then (if (strOfNums t447).size + (strOfNums bt455.1).size ≤ 9223372036854775807 then (if ((strOfNums t447) ++ (strOfNums bt455.1)).toList = (strOfNums t423).toList then ((spiritlevellaw09_alive.f kj33).bind fun t459 => (some t459)) else (some false)) else (none)) else (some false)) else (some false))) = some r := by first | (rw [hy451]; with_reducible exact H) | (have H2_ := (Option.bind_some _ _).symm.trans H; rw [hy451]; with_reducible exact H2_) | (have H2_ := (Option.bind_some _ _).symm.trans H; with_reducible exact H2_) | with_reducible exact H | (rw [hy451]; exact H) | exact H
                            have Ny451 := Aside0.mk hy451
                            clear hy451
                            replace H := Option.bind_eq_some_iff.mp H
                            obtain ⟨⟨t455, t456⟩, A440, H⟩ := H
                            replace H : (if t448 = 0 then (if t456 = 0 then (if (strOfNums t447).size + (strOfNums t455).size ≤ 9223372036854775807 then (if ((strOfNums t447) ++ (strOfNums t455)).toList = (strOfNums t423).toList then ((spiritlevellaw09_alive.f kj33).bind fun t459 => (some t459)) else (some false)) else (none)) else (some false)) else (some false)) = some r := H
                            have A44 := Aside0.mk A440
                            clear A440
                            by_cases c45 : t448 = 0
                            · rw [if_pos c45] at H
                              have c45b0 : (t448 == 0) = true := beq_iff_eq.mpr c45
                              have c45b1 : (t448 != 0) = false := bne_eq_false_iff_eq.mpr c45
                              clear c45
                              by_cases c46 : t456 = 0
                              · rw [if_pos c46] at H
                                have c46b0 : (t456 == 0) = true := beq_iff_eq.mpr c46
                                have c46b1 : (t456 != 0) = false := bne_eq_false_iff_eq.mpr c46
                                clear c46
                                by_cases c47 : (strOfNums t447).size + (strOfNums t455).size ≤ 9223372036854775807
                                · rw [if_pos c47] at H
                                  have c47b0 := eq_true c47
                                  have c47b1 : decide ((strOfNums t447).size + (strOfNums t455).size ≤ 9223372036854775807) = true := decide_eq_true c47
                                  try have c47b2 : (9223372036854775807 < (strOfNums t447).size + (strOfNums t455).size) = False := eq_false (Nat.not_lt.2 c47)
                                  by_cases c48 : ((strOfNums t447) ++ (strOfNums t455)).toList = (strOfNums t423).toList
                                  · rw [if_pos c48] at H
                                    have c48b0 : (((strOfNums t447) ++ (strOfNums t455)).toList == (strOfNums t423).toList) = true := beq_iff_eq.mpr c48
                                    have c48b1 : (((strOfNums t447) ++ (strOfNums t455)).toList != (strOfNums t423).toList) = false := bne_eq_false_iff_eq.mpr c48
                                    clear c48
                                    replace H := Option.bind_eq_some_iff.mp H
                                    obtain ⟨t459, A490, H⟩ := H
                                    replace H : (some t459) = some r := H
                                    have A49 := Aside0.mk A490
                                    clear A490
                                    obtain rfl := Option.some.inj H
                                    have q50 : (a3 : Int) ≤ ((l1.length : Int) : Int) := of_decide_eq_true (by first | (with_reducible assumption) | assumption)
                                    obtain ⟨i050, hi050, _, hsz50, _⟩ := info_parts info36
                                    have hroom50 : l1.length ≤ c1 := HC1.out
                                    have hC50 : Kd.C k36 _ A1 l1.length l1 := HR1.out
                                    have hcut50 := cut_to (P := Try.prog) 37 36 .i64 Try.underlying37 hi050 A1 l1.length c1 a3 (of_decide_eq_true (by first | (with_reducible assumption) | assumption)) q50 hroom50
                                    have hr50 := Kd.C_take (m := (a3 : Int).toNat) hC50 (by omega)
                                    have hy50 : y443.length = (a3 : Int).toNat := (by rw [Ny443.out, List.length_take]; omega)
                                    rw [← Ny443.out] at hr50
                                    rw [← hy50] at hcut50
                                    have HR446 := Aside0.mk hr50
                                    have HC446 := Aside0.mk (show y443.length ≤ c1 from by omega)
                                    clear hr50 hC50 hroom50 hi050 hsz50
                                    have KY50 := Aside0.mk hy50
                                    clear hy50
                                    replace q50 := eq_true q50
                                    go_wp2_with (first | ((with_reducible refine gate_callee (f := 16) rfl ?_); refine goesL_ (some 91) rfl rfl Try.func16 (by kernel_rfl) rfl #[.int .i64 a0, .slice A1 y443.length c1] rfl (by (try simp only [List.map_toArray, List.map_cons, List.map_nil]); first | done | rfl | (simp only [List.length_drop, List.length_take]; rfl)) ?_; (with_reducible refine (deltas_Pack.calls kj33 a0 _ _ y443 t447 t448 _ ?side1 ?side2 A41.out).mono ?_); (case side1 => repeat (first | exact (Kd.C_below HR446.out HB.out) | (with_reducible refine Kd.C_alloc ?_ _) | (with_reducible refine Kd.C_drewN ?_ _) | (with_reducible refine Kd.C_drew ?_))); (case side2 => exact HC446.out); rintro e w51 ⟨v449, rfl, ho0, hb⟩; refine ⟨_, rfl, ?_⟩; have n0_ := Aside0.mk (Kd.R_elder' (by (with_reducible repeat (first | apply Kd.R_alloc | apply Kd.R_drewN | apply Kd.R_drew)); exact HO_9.out) (Kd.R_base ho0) hb); have n1_ := Aside0.mk (Kd.R_lower (Kd.R_new' ho0 (Kd.R_lt (by (with_reducible repeat (first | apply Kd.R_alloc | apply Kd.R_drewN | apply Kd.R_drew)); exact HO_9.out))) (below_size (by repeat (first | (with_reducible first | exact HB.out | apply below_alloc | apply pw_below_drewN | apply below_drew1) | exact HB.out)))); have n2_ := Aside0.mk (below_step (by repeat (first | (with_reducible first | exact HB.out | apply below_alloc | apply pw_below_drewN | apply below_drew1) | exact HB.out)) hb); clear HO_9; clear HB; have HO_9 := n0_; have HO450 := n1_; have HB := n2_; clear n0_ n1_ n2_; (try clear hb); (try clear hb2); (try clear hk); (try clear hi); (try clear ho0); have q52 : (a3 : Int) ≤ ((l1.length : Int) : Int) := of_decide_eq_true (by first | (with_reducible assumption) | assumption); obtain ⟨i052, hi052, _, hsz52, _⟩ := info_parts info36; have hroom52 : l1.length ≤ c1 := HC1.out; have hC52 : Kd.C k36 _ A1 l1.length l1 := HR1.out; have q052 : (0 : Int) ≤ (a3 : Int) := of_decide_eq_true (by first | (with_reducible assumption) | assumption); have hcut52 := cut_from (P := Try.prog) 37 36 .i64 Try.underlying37 hi052 2 hsz52 A1 l1.length c1 a3 q052 q52; have hr52 := Kd.C_drop (m := (a3 : Int).toNat) (c := c1) hC52 (by omega) hroom52; obtain ⟨A52, hA52⟩ : ∃ A1q_ : Option Addr, A1q_ = (if c1 = (a3 : Int).toNat then A1 else (A1 : Option Addr).map (·.add ((a3 : Int).toNat * 2))) := ⟨_, rfl⟩; obtain ⟨c52, hc52⟩ : ∃ c1q_ : Nat, c1q_ = c1 - (a3 : Int).toNat := ⟨_, rfl⟩; have hy52 : y451.length = l1.length - (a3 : Int).toNat := (by rw [Ny451.out, List.length_drop] <;> omega); rw [show (l1).drop (a3 : Int).toNat = y451 from Ny451.out.symm] at hr52; replace hr52 : Kd.C k36 _ A52 y451.length y451 := (by rw [hA52]; exact hr52); rw [← hy52, ← hA52, ← hc52] at hcut52; have HR454 := Aside0.mk hr52; have HC454 := Aside0.mk (show y451.length ≤ c52 from by rw [hy52, hc52]; exact Nat.sub_le_sub_right hroom52 _); clear hr52 hC52 hroom52 hi052 hsz52 hc52; have KY52 := Aside0.mk hy52; have KA52 := Aside0.mk hA52; clear hy52 hA52; replace q52 := eq_true q52) | ((with_reducible refine gate_callee (f := 16) rfl ?_); refine goesL_ (some 101) rfl rfl Try.func16 (by kernel_rfl) rfl #[.int .i64 (wrap64 (a0 + a3)), .slice A52 y451.length c52] rfl (by (try simp only [List.map_toArray, List.map_cons, List.map_nil]); first | done | rfl | (simp only [List.length_drop, List.length_take]; rfl)) ?_; (with_reducible refine (deltas_Pack.calls kj33 (wrap64 (a0 + a3)) _ _ y451 t455 t456 _ ?side1 ?side2 A44.out).mono ?_); (case side1 => repeat (first | exact (Kd.C_below HR454.out HB.out) | (with_reducible refine Kd.C_alloc ?_ _) | (with_reducible refine Kd.C_drewN ?_ _) | (with_reducible refine Kd.C_drew ?_))); (case side2 => exact HC454.out); rintro e w53 ⟨v457, rfl, ho0, hb⟩; refine ⟨_, rfl, ?_⟩; have n0_ := Aside0.mk (Kd.R_elder' (by (with_reducible repeat (first | apply Kd.R_alloc | apply Kd.R_drewN | apply Kd.R_drew)); exact HO_9.out) (Kd.R_base ho0) hb); have n1_ := Aside0.mk (Kd.R_elder' (by (with_reducible repeat (first | apply Kd.R_alloc | apply Kd.R_drewN | apply Kd.R_drew)); exact HO450.out) (Kd.R_base ho0) hb); have n2_ := Aside0.mk (Kd.R_lower (Kd.R_new' (Kd.R_new' ho0 (Kd.R_lt (by (with_reducible repeat (first | apply Kd.R_alloc | apply Kd.R_drewN | apply Kd.R_drew)); exact HO_9.out))) (Kd.R_lt (by (with_reducible repeat (first | apply Kd.R_alloc | apply Kd.R_drewN | apply Kd.R_drew)); exact HO450.out))) (below_size (by repeat (first | (with_reducible first | exact HB.out | apply below_alloc | apply pw_below_drewN | apply below_drew1) | exact HB.out)))); have n3_ := Aside0.mk (below_step (by repeat (first | (with_reducible first | exact HB.out | apply below_alloc | apply pw_below_drewN | apply below_drew1) | exact HB.out)) hb); clear HO_9; clear HO450; clear HB; have HO_9 := n0_; have HO450 := n1_; have HO458 := n2_; have HB := n3_; clear n0_ n1_ n2_ n3_; (try clear hb); (try clear hb2); (try clear hk); (try clear hi); (try clear ho0); have hcv54 := own_string (P := Try.prog) Try.underlying22 Try.underlying5 Try.underlying9 (Kd.own_of_R HO450.out); have hcw54 := fun n_ : Nat => own_string (P := Try.prog) Try.underlying22 Try.underlying5 Try.underlying9 (pw_own_drewN (Kd.own_of_R HO450.out) n_); have hcv55 := own_string (P := Try.prog) Try.underlying22 Try.underlying5 Try.underlying9 (Kd.own_of_R HO458.out); have hcw55 := fun n_ : Nat => own_string (P := Try.prog) Try.underlying22 Try.underlying5 Try.underlying9 (pw_own_drewN (Kd.own_of_R HO458.out) n_); have hcv56 := own_string (P := Try.prog) Try.underlying22 Try.underlying5 Try.underlying9 (Kd.own_of_R HO_9.out); have hcw56 := fun n_ : Nat => own_string (P := Try.prog) Try.underlying22 Try.underlying5 Try.underlying9 (pw_own_drewN (Kd.own_of_R HO_9.out) n_)) | (go_at_call 19; (with_reducible refine (spiritlevellaw09_alive.calls kj33  t459 _ A49.out).mono ?_); rintro e w57 ⟨rfl, hb⟩; have n0_ := Aside0.mk (Kd.R_below (by (with_reducible repeat (first | apply Kd.R_alloc | apply Kd.R_drewN | apply Kd.R_drew)); exact HO_9.out) hb); have n1_ := Aside0.mk (Kd.R_below (by (with_reducible repeat (first | apply Kd.R_alloc | apply Kd.R_drewN | apply Kd.R_drew)); exact HO450.out) hb); have n2_ := Aside0.mk (Kd.R_below (by (with_reducible repeat (first | apply Kd.R_alloc | apply Kd.R_drewN | apply Kd.R_drew)); exact HO458.out) hb); have n3_ := Aside0.mk (below_step (by repeat (first | (with_reducible first | exact HB.out | apply below_alloc | apply pw_below_drewN | apply below_drew1) | exact HB.out)) hb); clear HO_9; clear HO450; clear HO458; clear HB; have HO_9 := n0_; have HO450 := n1_; have HO458 := n2_; have HB := n3_; clear n0_ n1_ n2_ n3_; (try clear hb); (try clear hb2); (try clear hk); (try clear hi)))
                                    go_ret
                                    exact ⟨by first | rfl | (simp [errW_none, errW_some] <;> rfl) | (simp [*, errW_none, errW_some] <;> rfl), by repeat (first | (with_reducible first | exact HB.out | apply below_alloc | apply pw_below_drewN | apply below_drew1) | exact HB.out)⟩
                                  · rw [if_neg c48] at H
                                    have c48b0 : (((strOfNums t447) ++ (strOfNums t455)).toList == (strOfNums t423).toList) = false := beq_eq_false_iff_ne.mpr c48
                                    have c48b1 : (((strOfNums t447) ++ (strOfNums t455)).toList != (strOfNums t423).toList) = true := bne_iff_ne.mpr c48
                                    obtain rfl := Option.some.inj H
                                    have q58 : (a3 : Int) ≤ ((l1.length : Int) : Int) := of_decide_eq_true (by first | (with_reducible assumption) | assumption)
                                    obtain ⟨i058, hi058, _, hsz58, _⟩ := info_parts info36
                                    have hroom58 : l1.length ≤ c1 := HC1.out
                                    have hC58 : Kd.C k36 _ A1 l1.length l1 := HR1.out
                                    have hcut58 := cut_to (P := Try.prog) 37 36 .i64 Try.underlying37 hi058 A1 l1.length c1 a3 (of_decide_eq_true (by first | (with_reducible assumption) | assumption)) q58 hroom58
                                    have hr58 := Kd.C_take (m := (a3 : Int).toNat) hC58 (by omega)
                                    have hy58 : y443.length = (a3 : Int).toNat := (by rw [Ny443.out, List.length_take]; omega)
                                    rw [← Ny443.out] at hr58
                                    rw [← hy58] at hcut58
                                    have HR446 := Aside0.mk hr58
                                    have HC446 := Aside0.mk (show y443.length ≤ c1 from by omega)
                                    clear hr58 hC58 hroom58 hi058 hsz58
                                    have KY58 := Aside0.mk hy58
                                    clear hy58
                                    replace q58 := eq_true q58
                                    go_wp2_with (first | ((with_reducible refine gate_callee (f := 16) rfl ?_); refine goesL_ (some 91) rfl rfl Try.func16 (by kernel_rfl) rfl #[.int .i64 a0, .slice A1 y443.length c1] rfl (by (try simp only [List.map_toArray, List.map_cons, List.map_nil]); first | done | rfl | (simp only [List.length_drop, List.length_take]; rfl)) ?_; (with_reducible refine (deltas_Pack.calls kj33 a0 _ _ y443 t447 t448 _ ?side1 ?side2 A41.out).mono ?_); (case side1 => repeat (first | exact (Kd.C_below HR446.out HB.out) | (with_reducible refine Kd.C_alloc ?_ _) | (with_reducible refine Kd.C_drewN ?_ _) | (with_reducible refine Kd.C_drew ?_))); (case side2 => exact HC446.out); rintro e w59 ⟨v449, rfl, ho0, hb⟩; refine ⟨_, rfl, ?_⟩; have n0_ := Aside0.mk (Kd.R_elder' (by (with_reducible repeat (first | apply Kd.R_alloc | apply Kd.R_drewN | apply Kd.R_drew)); exact HO_9.out) (Kd.R_base ho0) hb); have n1_ := Aside0.mk (Kd.R_lower (Kd.R_new' ho0 (Kd.R_lt (by (with_reducible repeat (first | apply Kd.R_alloc | apply Kd.R_drewN | apply Kd.R_drew)); exact HO_9.out))) (below_size (by repeat (first | (with_reducible first | exact HB.out | apply below_alloc | apply pw_below_drewN | apply below_drew1) | exact HB.out)))); have n2_ := Aside0.mk (below_step (by repeat (first | (with_reducible first | exact HB.out | apply below_alloc | apply pw_below_drewN | apply below_drew1) | exact HB.out)) hb); clear HO_9; clear HB; have HO_9 := n0_; have HO450 := n1_; have HB := n2_; clear n0_ n1_ n2_; (try clear hb); (try clear hb2); (try clear hk); (try clear hi); (try clear ho0); have q60 : (a3 : Int) ≤ ((l1.length : Int) : Int) := of_decide_eq_true (by first | (with_reducible assumption) | assumption); obtain ⟨i060, hi060, _, hsz60, _⟩ := info_parts info36; have hroom60 : l1.length ≤ c1 := HC1.out; have hC60 : Kd.C k36 _ A1 l1.length l1 := HR1.out; have q060 : (0 : Int) ≤ (a3 : Int) := of_decide_eq_true (by first | (with_reducible assumption) | assumption); have hcut60 := cut_from (P := Try.prog) 37 36 .i64 Try.underlying37 hi060 2 hsz60 A1 l1.length c1 a3 q060 q60; have hr60 := Kd.C_drop (m := (a3 : Int).toNat) (c := c1) hC60 (by omega) hroom60; obtain ⟨A60, hA60⟩ : ∃ A1q_ : Option Addr, A1q_ = (if c1 = (a3 : Int).toNat then A1 else (A1 : Option Addr).map (·.add ((a3 : Int).toNat * 2))) := ⟨_, rfl⟩; obtain ⟨c60, hc60⟩ : ∃ c1q_ : Nat, c1q_ = c1 - (a3 : Int).toNat := ⟨_, rfl⟩; have hy60 : y451.length = l1.length - (a3 : Int).toNat := (by rw [Ny451.out, List.length_drop] <;> omega); rw [show (l1).drop (a3 : Int).toNat = y451 from Ny451.out.symm] at hr60; replace hr60 : Kd.C k36 _ A60 y451.length y451 := (by rw [hA60]; exact hr60); rw [← hy60, ← hA60, ← hc60] at hcut60; have HR454 := Aside0.mk hr60; have HC454 := Aside0.mk (show y451.length ≤ c60 from by rw [hy60, hc60]; exact Nat.sub_le_sub_right hroom60 _); clear hr60 hC60 hroom60 hi060 hsz60 hc60; have KY60 := Aside0.mk hy60; have KA60 := Aside0.mk hA60; clear hy60 hA60; replace q60 := eq_true q60) | ((with_reducible refine gate_callee (f := 16) rfl ?_); refine goesL_ (some 101) rfl rfl Try.func16 (by kernel_rfl) rfl #[.int .i64 (wrap64 (a0 + a3)), .slice A60 y451.length c60] rfl (by (try simp only [List.map_toArray, List.map_cons, List.map_nil]); first | done | rfl | (simp only [List.length_drop, List.length_take]; rfl)) ?_; (with_reducible refine (deltas_Pack.calls kj33 (wrap64 (a0 + a3)) _ _ y451 t455 t456 _ ?side1 ?side2 A44.out).mono ?_); (case side1 => repeat (first | exact (Kd.C_below HR454.out HB.out) | (with_reducible refine Kd.C_alloc ?_ _) | (with_reducible refine Kd.C_drewN ?_ _) | (with_reducible refine Kd.C_drew ?_))); (case side2 => exact HC454.out); rintro e w61 ⟨v457, rfl, ho0, hb⟩; refine ⟨_, rfl, ?_⟩; have n0_ := Aside0.mk (Kd.R_elder' (by (with_reducible repeat (first | apply Kd.R_alloc | apply Kd.R_drewN | apply Kd.R_drew)); exact HO_9.out) (Kd.R_base ho0) hb); have n1_ := Aside0.mk (Kd.R_elder' (by (with_reducible repeat (first | apply Kd.R_alloc | apply Kd.R_drewN | apply Kd.R_drew)); exact HO450.out) (Kd.R_base ho0) hb); have n2_ := Aside0.mk (Kd.R_lower (Kd.R_new' (Kd.R_new' ho0 (Kd.R_lt (by (with_reducible repeat (first | apply Kd.R_alloc | apply Kd.R_drewN | apply Kd.R_drew)); exact HO_9.out))) (Kd.R_lt (by (with_reducible repeat (first | apply Kd.R_alloc | apply Kd.R_drewN | apply Kd.R_drew)); exact HO450.out))) (below_size (by repeat (first | (with_reducible first | exact HB.out | apply below_alloc | apply pw_below_drewN | apply below_drew1) | exact HB.out)))); have n3_ := Aside0.mk (below_step (by repeat (first | (with_reducible first | exact HB.out | apply below_alloc | apply pw_below_drewN | apply below_drew1) | exact HB.out)) hb); clear HO_9; clear HO450; clear HB; have HO_9 := n0_; have HO450 := n1_; have HO458 := n2_; have HB := n3_; clear n0_ n1_ n2_ n3_; (try clear hb); (try clear hb2); (try clear hk); (try clear hi); (try clear ho0); have hcv62 := own_string (P := Try.prog) Try.underlying22 Try.underlying5 Try.underlying9 (Kd.own_of_R HO450.out); have hcw62 := fun n_ : Nat => own_string (P := Try.prog) Try.underlying22 Try.underlying5 Try.underlying9 (pw_own_drewN (Kd.own_of_R HO450.out) n_); have hcv63 := own_string (P := Try.prog) Try.underlying22 Try.underlying5 Try.underlying9 (Kd.own_of_R HO458.out); have hcw63 := fun n_ : Nat => own_string (P := Try.prog) Try.underlying22 Try.underlying5 Try.underlying9 (pw_own_drewN (Kd.own_of_R HO458.out) n_); have hcv64 := own_string (P := Try.prog) Try.underlying22 Try.underlying5 Try.underlying9 (Kd.own_of_R HO_9.out); have hcw64 := fun n_ : Nat => own_string (P := Try.prog) Try.underlying22 Try.underlying5 Try.underlying9 (pw_own_drewN (Kd.own_of_R HO_9.out) n_)))
                                    go_ret
                                    exact ⟨by first | rfl | (simp [errW_none, errW_some] <;> rfl) | (simp [*, errW_none, errW_some] <;> rfl), by repeat (first | (with_reducible first | exact HB.out | apply below_alloc | apply pw_below_drewN | apply below_drew1) | exact HB.out)⟩
                                · rw [if_neg c47] at H
                                  exact absurd H (by simp)
                              · rw [if_neg c46] at H
                                have c46b0 : (t456 == 0) = false := beq_eq_false_iff_ne.mpr c46
                                have c46b1 : (t456 != 0) = true := bne_iff_ne.mpr c46
                                obtain rfl := Option.some.inj H
                                have q65 : (a3 : Int) ≤ ((l1.length : Int) : Int) := of_decide_eq_true (by first | (with_reducible assumption) | assumption)
                                obtain ⟨i065, hi065, _, hsz65, _⟩ := info_parts info36
                                have hroom65 : l1.length ≤ c1 := HC1.out
                                have hC65 : Kd.C k36 _ A1 l1.length l1 := HR1.out
                                have hcut65 := cut_to (P := Try.prog) 37 36 .i64 Try.underlying37 hi065 A1 l1.length c1 a3 (of_decide_eq_true (by first | (with_reducible assumption) | assumption)) q65 hroom65
                                have hr65 := Kd.C_take (m := (a3 : Int).toNat) hC65 (by omega)
                                have hy65 : y443.length = (a3 : Int).toNat := (by rw [Ny443.out, List.length_take]; omega)
                                rw [← Ny443.out] at hr65
                                rw [← hy65] at hcut65
                                have HR446 := Aside0.mk hr65
                                have HC446 := Aside0.mk (show y443.length ≤ c1 from by omega)
                                clear hr65 hC65 hroom65 hi065 hsz65
                                have KY65 := Aside0.mk hy65
                                clear hy65
                                replace q65 := eq_true q65
                                go_wp2_with (first | ((with_reducible refine gate_callee (f := 16) rfl ?_); refine goesL_ (some 91) rfl rfl Try.func16 (by kernel_rfl) rfl #[.int .i64 a0, .slice A1 y443.length c1] rfl (by (try simp only [List.map_toArray, List.map_cons, List.map_nil]); first | done | rfl | (simp only [List.length_drop, List.length_take]; rfl)) ?_; (with_reducible refine (deltas_Pack.calls kj33 a0 _ _ y443 t447 t448 _ ?side1 ?side2 A41.out).mono ?_); (case side1 => repeat (first | exact (Kd.C_below HR446.out HB.out) | (with_reducible refine Kd.C_alloc ?_ _) | (with_reducible refine Kd.C_drewN ?_ _) | (with_reducible refine Kd.C_drew ?_))); (case side2 => exact HC446.out); rintro e w66 ⟨v449, rfl, ho0, hb⟩; refine ⟨_, rfl, ?_⟩; have n0_ := Aside0.mk (Kd.R_elder' (by (with_reducible repeat (first | apply Kd.R_alloc | apply Kd.R_drewN | apply Kd.R_drew)); exact HO_9.out) (Kd.R_base ho0) hb); have n1_ := Aside0.mk (Kd.R_lower (Kd.R_new' ho0 (Kd.R_lt (by (with_reducible repeat (first | apply Kd.R_alloc | apply Kd.R_drewN | apply Kd.R_drew)); exact HO_9.out))) (below_size (by repeat (first | (with_reducible first | exact HB.out | apply below_alloc | apply pw_below_drewN | apply below_drew1) | exact HB.out)))); have n2_ := Aside0.mk (below_step (by repeat (first | (with_reducible first | exact HB.out | apply below_alloc | apply pw_below_drewN | apply below_drew1) | exact HB.out)) hb); clear HO_9; clear HB; have HO_9 := n0_; have HO450 := n1_; have HB := n2_; clear n0_ n1_ n2_; (try clear hb); (try clear hb2); (try clear hk); (try clear hi); (try clear ho0); have q67 : (a3 : Int) ≤ ((l1.length : Int) : Int) := of_decide_eq_true (by first | (with_reducible assumption) | assumption); obtain ⟨i067, hi067, _, hsz67, _⟩ := info_parts info36; have hroom67 : l1.length ≤ c1 := HC1.out; have hC67 : Kd.C k36 _ A1 l1.length l1 := HR1.out; have q067 : (0 : Int) ≤ (a3 : Int) := of_decide_eq_true (by first | (with_reducible assumption) | assumption); have hcut67 := cut_from (P := Try.prog) 37 36 .i64 Try.underlying37 hi067 2 hsz67 A1 l1.length c1 a3 q067 q67; have hr67 := Kd.C_drop (m := (a3 : Int).toNat) (c := c1) hC67 (by omega) hroom67; obtain ⟨A67, hA67⟩ : ∃ A1q_ : Option Addr, A1q_ = (if c1 = (a3 : Int).toNat then A1 else (A1 : Option Addr).map (·.add ((a3 : Int).toNat * 2))) := ⟨_, rfl⟩; obtain ⟨c67, hc67⟩ : ∃ c1q_ : Nat, c1q_ = c1 - (a3 : Int).toNat := ⟨_, rfl⟩; have hy67 : y451.length = l1.length - (a3 : Int).toNat := (by rw [Ny451.out, List.length_drop] <;> omega); rw [show (l1).drop (a3 : Int).toNat = y451 from Ny451.out.symm] at hr67; replace hr67 : Kd.C k36 _ A67 y451.length y451 := (by rw [hA67]; exact hr67); rw [← hy67, ← hA67, ← hc67] at hcut67; have HR454 := Aside0.mk hr67; have HC454 := Aside0.mk (show y451.length ≤ c67 from by rw [hy67, hc67]; exact Nat.sub_le_sub_right hroom67 _); clear hr67 hC67 hroom67 hi067 hsz67 hc67; have KY67 := Aside0.mk hy67; have KA67 := Aside0.mk hA67; clear hy67 hA67; replace q67 := eq_true q67) | ((with_reducible refine gate_callee (f := 16) rfl ?_); refine goesL_ (some 101) rfl rfl Try.func16 (by kernel_rfl) rfl #[.int .i64 (wrap64 (a0 + a3)), .slice A67 y451.length c67] rfl (by (try simp only [List.map_toArray, List.map_cons, List.map_nil]); first | done | rfl | (simp only [List.length_drop, List.length_take]; rfl)) ?_; (with_reducible refine (deltas_Pack.calls kj33 (wrap64 (a0 + a3)) _ _ y451 t455 t456 _ ?side1 ?side2 A44.out).mono ?_); (case side1 => repeat (first | exact (Kd.C_below HR454.out HB.out) | (with_reducible refine Kd.C_alloc ?_ _) | (with_reducible refine Kd.C_drewN ?_ _) | (with_reducible refine Kd.C_drew ?_))); (case side2 => exact HC454.out); rintro e w68 ⟨v457, rfl, ho0, hb⟩; refine ⟨_, rfl, ?_⟩; have n0_ := Aside0.mk (Kd.R_elder' (by (with_reducible repeat (first | apply Kd.R_alloc | apply Kd.R_drewN | apply Kd.R_drew)); exact HO_9.out) (Kd.R_base ho0) hb); have n1_ := Aside0.mk (Kd.R_elder' (by (with_reducible repeat (first | apply Kd.R_alloc | apply Kd.R_drewN | apply Kd.R_drew)); exact HO450.out) (Kd.R_base ho0) hb); have n2_ := Aside0.mk (Kd.R_lower (Kd.R_new' (Kd.R_new' ho0 (Kd.R_lt (by (with_reducible repeat (first | apply Kd.R_alloc | apply Kd.R_drewN | apply Kd.R_drew)); exact HO_9.out))) (Kd.R_lt (by (with_reducible repeat (first | apply Kd.R_alloc | apply Kd.R_drewN | apply Kd.R_drew)); exact HO450.out))) (below_size (by repeat (first | (with_reducible first | exact HB.out | apply below_alloc | apply pw_below_drewN | apply below_drew1) | exact HB.out)))); have n3_ := Aside0.mk (below_step (by repeat (first | (with_reducible first | exact HB.out | apply below_alloc | apply pw_below_drewN | apply below_drew1) | exact HB.out)) hb); clear HO_9; clear HO450; clear HB; have HO_9 := n0_; have HO450 := n1_; have HO458 := n2_; have HB := n3_; clear n0_ n1_ n2_ n3_; (try clear hb); (try clear hb2); (try clear hk); (try clear hi); (try clear ho0)))
                                go_ret
                                exact ⟨by first | rfl | (simp [errW_none, errW_some] <;> rfl) | (simp [*, errW_none, errW_some] <;> rfl), by repeat (first | (with_reducible first | exact HB.out | apply below_alloc | apply pw_below_drewN | apply below_drew1) | exact HB.out)⟩
                            · rw [if_neg c45] at H
                              have c45b0 : (t448 == 0) = false := beq_eq_false_iff_ne.mpr c45
                              have c45b1 : (t448 != 0) = true := bne_iff_ne.mpr c45
                              obtain rfl := Option.some.inj H
                              have q69 : (a3 : Int) ≤ ((l1.length : Int) : Int) := of_decide_eq_true (by first | (with_reducible assumption) | assumption)
                              obtain ⟨i069, hi069, _, hsz69, _⟩ := info_parts info36
                              have hroom69 : l1.length ≤ c1 := HC1.out
                              have hC69 : Kd.C k36 _ A1 l1.length l1 := HR1.out
                              have hcut69 := cut_to (P := Try.prog) 37 36 .i64 Try.underlying37 hi069 A1 l1.length c1 a3 (of_decide_eq_true (by first | (with_reducible assumption) | assumption)) q69 hroom69
                              have hr69 := Kd.C_take (m := (a3 : Int).toNat) hC69 (by omega)
                              have hy69 : y443.length = (a3 : Int).toNat := (by rw [Ny443.out, List.length_take]; omega)
                              rw [← Ny443.out] at hr69
                              rw [← hy69] at hcut69
                              have HR446 := Aside0.mk hr69
                              have HC446 := Aside0.mk (show y443.length ≤ c1 from by omega)
                              clear hr69 hC69 hroom69 hi069 hsz69
                              have KY69 := Aside0.mk hy69
                              clear hy69
                              replace q69 := eq_true q69
                              go_wp2_with (first | ((with_reducible refine gate_callee (f := 16) rfl ?_); refine goesL_ (some 91) rfl rfl Try.func16 (by kernel_rfl) rfl #[.int .i64 a0, .slice A1 y443.length c1] rfl (by (try simp only [List.map_toArray, List.map_cons, List.map_nil]); first | done | rfl | (simp only [List.length_drop, List.length_take]; rfl)) ?_; (with_reducible refine (deltas_Pack.calls kj33 a0 _ _ y443 t447 t448 _ ?side1 ?side2 A41.out).mono ?_); (case side1 => repeat (first | exact (Kd.C_below HR446.out HB.out) | (with_reducible refine Kd.C_alloc ?_ _) | (with_reducible refine Kd.C_drewN ?_ _) | (with_reducible refine Kd.C_drew ?_))); (case side2 => exact HC446.out); rintro e w70 ⟨v449, rfl, ho0, hb⟩; refine ⟨_, rfl, ?_⟩; have n0_ := Aside0.mk (Kd.R_elder' (by (with_reducible repeat (first | apply Kd.R_alloc | apply Kd.R_drewN | apply Kd.R_drew)); exact HO_9.out) (Kd.R_base ho0) hb); have n1_ := Aside0.mk (Kd.R_lower (Kd.R_new' ho0 (Kd.R_lt (by (with_reducible repeat (first | apply Kd.R_alloc | apply Kd.R_drewN | apply Kd.R_drew)); exact HO_9.out))) (below_size (by repeat (first | (with_reducible first | exact HB.out | apply below_alloc | apply pw_below_drewN | apply below_drew1) | exact HB.out)))); have n2_ := Aside0.mk (below_step (by repeat (first | (with_reducible first | exact HB.out | apply below_alloc | apply pw_below_drewN | apply below_drew1) | exact HB.out)) hb); clear HO_9; clear HB; have HO_9 := n0_; have HO450 := n1_; have HB := n2_; clear n0_ n1_ n2_; (try clear hb); (try clear hb2); (try clear hk); (try clear hi); (try clear ho0); have q71 : (a3 : Int) ≤ ((l1.length : Int) : Int) := of_decide_eq_true (by first | (with_reducible assumption) | assumption); obtain ⟨i071, hi071, _, hsz71, _⟩ := info_parts info36; have hroom71 : l1.length ≤ c1 := HC1.out; have hC71 : Kd.C k36 _ A1 l1.length l1 := HR1.out; have q071 : (0 : Int) ≤ (a3 : Int) := of_decide_eq_true (by first | (with_reducible assumption) | assumption); have hcut71 := cut_from (P := Try.prog) 37 36 .i64 Try.underlying37 hi071 2 hsz71 A1 l1.length c1 a3 q071 q71; have hr71 := Kd.C_drop (m := (a3 : Int).toNat) (c := c1) hC71 (by omega) hroom71; obtain ⟨A71, hA71⟩ : ∃ A1q_ : Option Addr, A1q_ = (if c1 = (a3 : Int).toNat then A1 else (A1 : Option Addr).map (·.add ((a3 : Int).toNat * 2))) := ⟨_, rfl⟩; obtain ⟨c71, hc71⟩ : ∃ c1q_ : Nat, c1q_ = c1 - (a3 : Int).toNat := ⟨_, rfl⟩; have hy71 : y451.length = l1.length - (a3 : Int).toNat := (by rw [Ny451.out, List.length_drop] <;> omega); rw [show (l1).drop (a3 : Int).toNat = y451 from Ny451.out.symm] at hr71; replace hr71 : Kd.C k36 _ A71 y451.length y451 := (by rw [hA71]; exact hr71); rw [← hy71, ← hA71, ← hc71] at hcut71; have HR454 := Aside0.mk hr71; have HC454 := Aside0.mk (show y451.length ≤ c71 from by rw [hy71, hc71]; exact Nat.sub_le_sub_right hroom71 _); clear hr71 hC71 hroom71 hi071 hsz71 hc71; have KY71 := Aside0.mk hy71; have KA71 := Aside0.mk hA71; clear hy71 hA71; replace q71 := eq_true q71) | ((with_reducible refine gate_callee (f := 16) rfl ?_); refine goesL_ (some 101) rfl rfl Try.func16 (by kernel_rfl) rfl #[.int .i64 (wrap64 (a0 + a3)), .slice A71 y451.length c71] rfl (by (try simp only [List.map_toArray, List.map_cons, List.map_nil]); first | done | rfl | (simp only [List.length_drop, List.length_take]; rfl)) ?_; (with_reducible refine (deltas_Pack.calls kj33 (wrap64 (a0 + a3)) _ _ y451 t455 t456 _ ?side1 ?side2 A44.out).mono ?_); (case side1 => repeat (first | exact (Kd.C_below HR454.out HB.out) | (with_reducible refine Kd.C_alloc ?_ _) | (with_reducible refine Kd.C_drewN ?_ _) | (with_reducible refine Kd.C_drew ?_))); (case side2 => exact HC454.out); rintro e w72 ⟨v457, rfl, ho0, hb⟩; refine ⟨_, rfl, ?_⟩; have n0_ := Aside0.mk (Kd.R_elder' (by (with_reducible repeat (first | apply Kd.R_alloc | apply Kd.R_drewN | apply Kd.R_drew)); exact HO_9.out) (Kd.R_base ho0) hb); have n1_ := Aside0.mk (Kd.R_elder' (by (with_reducible repeat (first | apply Kd.R_alloc | apply Kd.R_drewN | apply Kd.R_drew)); exact HO450.out) (Kd.R_base ho0) hb); have n2_ := Aside0.mk (Kd.R_lower (Kd.R_new' (Kd.R_new' ho0 (Kd.R_lt (by (with_reducible repeat (first | apply Kd.R_alloc | apply Kd.R_drewN | apply Kd.R_drew)); exact HO_9.out))) (Kd.R_lt (by (with_reducible repeat (first | apply Kd.R_alloc | apply Kd.R_drewN | apply Kd.R_drew)); exact HO450.out))) (below_size (by repeat (first | (with_reducible first | exact HB.out | apply below_alloc | apply pw_below_drewN | apply below_drew1) | exact HB.out)))); have n3_ := Aside0.mk (below_step (by repeat (first | (with_reducible first | exact HB.out | apply below_alloc | apply pw_below_drewN | apply below_drew1) | exact HB.out)) hb); clear HO_9; clear HO450; clear HB; have HO_9 := n0_; have HO450 := n1_; have HO458 := n2_; have HB := n3_; clear n0_ n1_ n2_ n3_; (try clear hb); (try clear hb2); (try clear hk); (try clear hi); (try clear ho0)))
                              go_ret
                              exact ⟨by first | rfl | (simp [errW_none, errW_some] <;> rfl) | (simp [*, errW_none, errW_some] <;> rfl), by repeat (first | (with_reducible first | exact HB.out | apply below_alloc | apply pw_below_drewN | apply below_drew1) | exact HB.out)⟩
                          · rw [if_neg c40] at H
                            exact absurd H (by simp)
                        · rw [if_neg c39] at H
                          exact absurd H (by simp)
          · rw [if_neg c17] at H
            exact absurd H (by simp)
        · rw [if_neg c16] at H
          exact absurd H (by simp)

end Go.Proofs.Ytamapbbfabkglaa.P
