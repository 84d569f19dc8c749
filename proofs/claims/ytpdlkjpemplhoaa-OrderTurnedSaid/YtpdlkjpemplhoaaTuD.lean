/- Texts of one claim, packed: part 4 of 5 -/
import Derived.Test.YtpdlkjpemplhoaaTuC
namespace Go.Proofs.Ytpdlkjpemplhoaa.P
open Go.RowKit Go.Proofs.YtpdlkjpemplhoaaW.PrintWords Go.Proofs.YtpdlkjpemplhoaaW.PrintLast Go.Proofs.YtpdlkjpemplhoaaW.PrintMore
attribute [local go_sem] max2_int min2_int max_two min_two max_three min_three max_four min_four
set_option linter.unusedVariables false
set_option linter.unusedSimpArgs false
mutual
def l3_OrderTurned.j0 : Nat → Int → Bool → Int → List Int → List (S56) → List (S56) → List Int → List Int → Option (Bool)
 | 0, _, _, _, _, _, _, _, _ => none
 | k + 1, x1, x24, x625000, x625001, x625002, x625003, x625004, x625005 => if x24 = true then ((l3_alive.f k).bind fun t626 => (some t626)) else ((r3_Twin.f x625000 x625001 x625002 x625003 x625004 x625005).bind fun bt627 => ((some (([] : List (S56)) : List (S56))).bind fun y644 => (if 0 ≤ x1 then (if x1 ≤ (x625003.length : Int) then ((some (x625003.drop (x1 : Int).toNat : List (S56))).bind fun y647 => (if y644.length + y647.length < 5864062014805 then ((some (y644 ++ y647 : List (S56))).bind fun y651 => ((some (x625003.take (x1 : Int).toNat : List (S56))).bind fun y654 => (if y651.length + y654.length < 5864062014805 then ((some (y651 ++ y654 : List (S56))).bind fun y658 => ((order_Circuit.f x625000 x625001 x625002 x625003 x625004 x625005).bind fun bt661 => ((order_Circuit.f bt627.1 bt627.2.1 bt627.2.2.1 y658 bt627.2.2.2.2.1 bt627.2.2.2.2.2).bind fun bt679 => (if bt661.2.2.2.2.2.2 = bt679.2.2.2.2.2.2 then ((order_Check.f bt627.1 bt627.2.1 bt627.2.2.1 y658 bt627.2.2.2.2.1 bt627.2.2.2.2.2).bind fun t697 => (l3_OrderTurned.j1 k bt661.2.2.2.2.2.2 (bt661.2.2.2.2.2.2 != t697) bt661.1 bt661.2.1 bt661.2.2.1 bt661.2.2.2.1 bt661.2.2.2.2.1 bt679.1 bt679.2.1 bt679.2.2.1 bt679.2.2.2.1 bt679.2.2.2.2.1)) else (l3_OrderTurned.j1 k bt661.2.2.2.2.2.2 true bt661.1 bt661.2.1 bt661.2.2.1 bt661.2.2.2.1 bt661.2.2.2.2.1 bt679.1 bt679.2.1 bt679.2.2.1 bt679.2.2.2.1 bt679.2.2.2.2.1))))) else (none)))) else (none))) else (none)) else (none))))
def l3_OrderTurned.j1 : Nat → Int → Bool → Int → List (S61) → List (S59) → List Int → List Int → Int → List (S61) → List (S59) → List Int → List Int → Option (Bool)
 | 0, _, _, _, _, _, _, _, _, _, _, _, _ => none
 | k + 1, x8, x60, x679000, x679001, x679002, x679003, x679004, x697000, x697001, x697002, x697003, x697004 => if x60 = true then (some false) else (if (x679002.length : Int) = (x697002.length : Int) then (if x679000 = x697000 then (if (x679001.length : Int) = (x697001.length : Int) then (if x8 = 0 then ((gates_Check.f x697000 x697001 x697002 x697003 x697004).bind fun t698 => (if t698 = 0 then ((l3_alive.f k).bind fun t699 => (some t699)) else (some false))) else ((l3_alive.f k).bind fun t700 => (some t700))) else (some false)) else (some false)) else (some false))
end
def l3_OrderTurned.f (k : Nat) (a0_0 : Int) (l0_1 : List Int) (l0_2 : List (S56)) (l0_3 : List (S56)) (l0_4 : List Int) (l0_5 : List Int) (a1 : Int) : Option (Bool) := (r3_Great.f a0_0 l0_1 l0_2 l0_3 l0_4 l0_5).bind fun t625 => (if t625 = true then (l3_OrderTurned.j0 k a1 true a0_0 l0_1 l0_2 l0_3 l0_4 l0_5) else (if a1 < 0 then (l3_OrderTurned.j0 k a1 true a0_0 l0_1 l0_2 l0_3 l0_4 l0_5) else (l3_OrderTurned.j0 k a1 (decide (a1 > (l0_3.length : Int))) a0_0 l0_1 l0_2 l0_3 l0_4 l0_5)))
def l3_OrderTurned.T4 : Bool × List (List Nat × List Nat) := (true, [([], []), ([], []), ([1], [1]), ([], []), ([2, 3], [2, 3]), ([0, 4], [0, 4]), ([], []), ([6], [6]), ([], []), ([7, 8], [7, 8]), ([5, 9, 5], [5, 9]), ([0, 1, 2, 3, 4, 5, 6, 7, 8, 9, 10], []), ([11, 10, 10, 0, 1, 2, 3, 4, 5, 6, 7, 8, 9, 10], [10, 11])])
def l3_OrderTurned.B4 : List Nat := [0, 0, 2, 0, 14, 31, 0, 64, 0, 448, 1023, 2047, 4095]
theorem l3_OrderTurned.tab4 : rtab .any (opsOf Try.f7 4) = l3_OrderTurned.T4 := by kernel_rfl
theorem l3_OrderTurned.bits4 : waitsOk l3_OrderTurned.T4.2 l3_OrderTurned.B4 = true := by kernel_rfl
set_option maxHeartbeats 8000000 in
set_option maxRecDepth 100000 in
theorem l3_OrderTurned.calls (k : Nat) (a0_0 : Int) (A0_1 : Option Addr) (c0_1 : Nat) (l0_1 : List Int) (A0_2 : Option Addr) (c0_2 : Nat) (l0_2 : List (S56)) (A0_3 : Option Addr) (c0_3 : Nat) (l0_3 : List (S56)) (A0_4 : Option Addr) (c0_4 : Nat) (l0_4 : List Int) (A0_5 : Option Addr) (c0_5 : Nat) (l0_5 : List Int) (a1 : Int) (w : World) (hr0_1 : Kd.C (Kd.int .i64) w A0_1 l0_1.length l0_1) (hc0_1 : l0_1.length ≤ c0_1) (hr0_2 : Kd.C k56 w A0_2 l0_2.length l0_2) (hc0_2 : l0_2.length ≤ c0_2) (hr0_3 : Kd.C k56 w A0_3 l0_3.length l0_3) (hc0_3 : l0_3.length ≤ c0_3) (hr0_4 : Kd.C (Kd.int .i64) w A0_4 l0_4.length l0_4) (hc0_4 : l0_4.length ≤ c0_4) (hr0_5 : Kd.C (Kd.int .i64) w A0_5 l0_5.length l0_5) (hc0_5 : l0_5.length ≤ c0_5) (h : l3_OrderTurned.f k a0_0 l0_1 l0_2 l0_3 l0_4 l0_5 a1 = some true) :
 Calls Try.prog 7 #[.agg #[.int .i64 a0_0, .slice A0_1 l0_1.length c0_1, .slice A0_2 l0_2.length c0_2, .slice A0_3 l0_3.length c0_3, .slice A0_4 l0_4.length c0_4, .slice A0_5 l0_5.length c0_5], .int .i64 a1] w fun e w' => e = .returned (.bool true) ∧ Below w.heap.size w w' := by
 have hu30 := Try.underlying30
 have hu26 := Try.underlying26
 have HR0_1 := Aside0.mk hr0_1
 have HC0_1 := Aside0.mk hc0_1
 clear hr0_1 hc0_1
 have HR0_2 := Aside0.mk hr0_2
 have HC0_2 := Aside0.mk hc0_2
 clear hr0_2 hc0_2
 have HR0_3 := Aside0.mk hr0_3
 have HC0_3 := Aside0.mk hc0_3
 clear hr0_3 hc0_3
 have HR0_4 := Aside0.mk hr0_4
 have HC0_4 := Aside0.mk hc0_4
 clear hr0_4 hc0_4
 have HR0_5 := Aside0.mk hr0_5
 have HC0_5 := Aside0.mk hc0_5
 clear hr0_5 hc0_5
 have HB := Aside0.mk (Below.refl w.heap.size w)
 have H : ((r3_Great.f a0_0 l0_1 l0_2 l0_3 l0_4 l0_5).bind fun t625 => (if t625 = true then (l3_OrderTurned.j0 k a1 true a0_0 l0_1 l0_2 l0_3 l0_4 l0_5) else (if a1 < 0 then (l3_OrderTurned.j0 k a1 true a0_0 l0_1 l0_2 l0_3 l0_4 l0_5) else (l3_OrderTurned.j0 k a1 (decide (a1 > (l0_3.length : Int))) a0_0 l0_1 l0_2 l0_3 l0_4 l0_5)))) = some true := h
 clear h
 have HC3 := Aside0.mk H
 clear H
 go_enter Try.func7, Try.ntmps7
 go_upto_region 1 with (first | ((with_reducible refine gate_dst (N := 2) rfl ?_); (try (refine gate_guard (by rfl) ?_; dsimp only)); refine box_event ?hg (N := 2) ?hd (cs := #[.int .i64 a0_0, .slice A0_1 l0_1.length c0_1, .slice A0_2 l0_2.length c0_2, .slice A0_3 l0_3.length c0_3, .slice A0_4 l0_4.length c0_4, .slice A0_5 l0_5.length c0_5]) (t := 30) ?hr ?_; (case hd => rfl); (case hg => rfl); (case hr => first | (go_simp; done) | (go_simp; rfl)); intro gb624 hg w4 hbox hb; have n0_ := Aside0.mk (below_step zq107 hb); have n1_ := Aside0.mk (hbox); have n2_ := Aside0.mk ((zq97 : w.heap.size ≤ gb624)); have n3_ := Aside0.mk ((zq97 : w.heap.size ≤ gb624)); clear HB; have HB := n0_; have BK624 := n1_; have GW624 := n2_; have GE624 := n3_; clear n0_ n1_ n2_ n3_; clear hb hbox hg))
 (try simp only [Act.put, List.setIfInBounds_toArray, List.set_cons_zero, List.set_cons_succ])
 go_cut [24] (fun v24 wc => ∃ (kq : Nat) (x24_2 : Bool), v24 = .bool x24_2 ∧ Aside0 (l3_OrderTurned.j0 kq a1 x24_2 a0_0 l0_1 l0_2 l0_3 l0_4 l0_5 = some true) ∧ Aside0 (kq ≤ k) ∧ Aside0 (wc.heap[gb624]? = some (.cells #[.int .i64 a0_0, (.slice A0_1 l0_1.length c0_1), (.slice A0_2 l0_2.length c0_2), (.slice A0_3 l0_3.length c0_3), (.slice A0_4 l0_4.length c0_4), (.slice A0_5 l0_5.length c0_5)] 30 (0, 0))) ∧ Aside0 (Below w.heap.size w wc))
 case first =>
  have H := HC3.out
  clear HC3
  replace H := Option.bind_eq_some_iff.mp H
  obtain ⟨t625, A50, H⟩ := H
  replace H : (if t625 = true then (l3_OrderTurned.j0 k a1 true a0_0 l0_1 l0_2 l0_3 l0_4 l0_5) else (if a1 < 0 then (l3_OrderTurned.j0 k a1 true a0_0 l0_1 l0_2 l0_3 l0_4 l0_5) else (l3_OrderTurned.j0 k a1 (decide (a1 > (l0_3.length : Int))) a0_0 l0_1 l0_2 l0_3 l0_4 l0_5))) = some true := H
  have A5 := Aside0.mk A50
  clear A50
  by_cases c6 : t625 = true
  · subst c6
    have H1 : (l3_OrderTurned.j0 k a1 true a0_0 l0_1 l0_2 l0_3 l0_4 l0_5) = some true := by rw [if_pos rfl] at H; exact H
    clear H
    have H := H1
    clear H1
    have H' := Aside0.mk H
    clear H
    obtain ⟨b7_0, b7_1, b7_2, b7_3, b7_4, b7_5, d7_0, d7_1, d7_2, d7_3, d7_4, d7_5⟩ := bk6 BK624.out
    go_wp2_with (first | ((with_reducible refine gate_callee (f := 14) rfl ?_); refine goesL_ (some 13) rfl rfl Try.func14 (by kernel_rfl) rfl #[.agg #[.int .i64 a0_0, .slice A0_1 l0_1.length c0_1, .slice A0_2 l0_2.length c0_2, .slice A0_3 l0_3.length c0_3, .slice A0_4 l0_4.length c0_4, .slice A0_5 l0_5.length c0_5]] rfl zq106 ?_; (with_reducible refine (r3_Great.calls a0_0 _ _ l0_1 _ _ l0_2 _ _ l0_3 _ _ l0_4 _ _ l0_5 true _ ?side1 ?side2 ?side3 ?side4 ?side5 ?side6 ?side7 ?side8 ?side9 ?side10 A5.out).mono ?_); (case side1 => exact zq84); (case side2 => exact HC0_1.out); (case side3 => exact zq85); (case side4 => exact HC0_2.out); (case side5 => exact zq86); (case side6 => exact HC0_3.out); (case side7 => exact zq87); (case side8 => exact HC0_4.out); (case side9 => exact zq88); (case side10 => exact HC0_5.out); rintro e w8 ⟨rfl, hb⟩; refine ⟨_, rfl, ?_⟩; have n0_ := Aside0.mk (blk_below (g := gb624) (o := .cells #[.int .i64 a0_0, .slice A0_1 l0_1.length c0_1, .slice A0_2 l0_2.length c0_2, .slice A0_3 l0_3.length c0_3, .slice A0_4 l0_4.length c0_4, .slice A0_5 l0_5.length c0_5] 30 (0, 0)) zq116 hb); have n1_ := Aside0.mk (below_step zq104 hb); clear BK624; clear HB; have BK624 := n0_; have HB := n1_; clear n0_ n1_; (try clear hb); (try clear hb2); (try clear hk); (try clear hi)))
    go_meet
    case rel => exact ⟨_, (true), zq175, H', ⟨by first | omega | exact Nat.le_refl _⟩, ⟨zq116⟩, ⟨zq104⟩⟩
  · replace c6 := Bool.eq_false_iff.mpr c6
    subst c6
    have H1 : (if a1 < 0 then (l3_OrderTurned.j0 k a1 true a0_0 l0_1 l0_2 l0_3 l0_4 l0_5) else (l3_OrderTurned.j0 k a1 (decide (a1 > (l0_3.length : Int))) a0_0 l0_1 l0_2 l0_3 l0_4 l0_5)) = some true := by rw [if_neg (show ¬ (false = true) by decide)] at H; exact H
    clear H
    have H := H1
    clear H1
    by_cases c9 : a1 < 0
    · rw [if_pos c9] at H
      have c9b0 : decide (a1 < 0) = true := decide_eq_true c9
      clear c9
      (first | rw [c9b0] | (simp only [i64_w, i32_w]; rw [c9b0]) | skip)
      have H' := Aside0.mk H
      clear H
      obtain ⟨b10_0, b10_1, b10_2, b10_3, b10_4, b10_5, d10_0, d10_1, d10_2, d10_3, d10_4, d10_5⟩ := bk6 BK624.out
      go_wp2_with (first | ((with_reducible refine gate_callee (f := 14) rfl ?_); refine goesL_ (some 13) rfl rfl Try.func14 (by kernel_rfl) rfl #[.agg #[.int .i64 a0_0, .slice A0_1 l0_1.length c0_1, .slice A0_2 l0_2.length c0_2, .slice A0_3 l0_3.length c0_3, .slice A0_4 l0_4.length c0_4, .slice A0_5 l0_5.length c0_5]] rfl zq106 ?_; (with_reducible refine (r3_Great.calls a0_0 _ _ l0_1 _ _ l0_2 _ _ l0_3 _ _ l0_4 _ _ l0_5 false _ ?side1 ?side2 ?side3 ?side4 ?side5 ?side6 ?side7 ?side8 ?side9 ?side10 A5.out).mono ?_); (case side1 => exact zq84); (case side2 => exact HC0_1.out); (case side3 => exact zq85); (case side4 => exact HC0_2.out); (case side5 => exact zq86); (case side6 => exact HC0_3.out); (case side7 => exact zq87); (case side8 => exact HC0_4.out); (case side9 => exact zq88); (case side10 => exact HC0_5.out); rintro e w11 ⟨rfl, hb⟩; refine ⟨_, rfl, ?_⟩; have n0_ := Aside0.mk (blk_below (g := gb624) (o := .cells #[.int .i64 a0_0, .slice A0_1 l0_1.length c0_1, .slice A0_2 l0_2.length c0_2, .slice A0_3 l0_3.length c0_3, .slice A0_4 l0_4.length c0_4, .slice A0_5 l0_5.length c0_5] 30 (0, 0)) zq116 hb); have n1_ := Aside0.mk (below_step zq104 hb); clear BK624; clear HB; have BK624 := n0_; have HB := n1_; clear n0_ n1_; (try clear hb); (try clear hb2); (try clear hk); (try clear hi)))
      go_meet
      case rel => exact ⟨_, (true), zq175, H', ⟨by first | omega | exact Nat.le_refl _⟩, ⟨zq116⟩, ⟨zq104⟩⟩
    · rw [if_neg c9] at H
      have c9b0 : decide (a1 < 0) = false := decide_eq_false c9
      clear c9
      (first | rw [c9b0] | (simp only [i64_w, i32_w]; rw [c9b0]) | skip)
      have H' := Aside0.mk H
      clear H
      obtain ⟨b12_0, b12_1, b12_2, b12_3, b12_4, b12_5, d12_0, d12_1, d12_2, d12_3, d12_4, d12_5⟩ := bk6 BK624.out
      go_wp2_with (first | ((with_reducible refine gate_callee (f := 14) rfl ?_); refine goesL_ (some 13) rfl rfl Try.func14 (by kernel_rfl) rfl #[.agg #[.int .i64 a0_0, .slice A0_1 l0_1.length c0_1, .slice A0_2 l0_2.length c0_2, .slice A0_3 l0_3.length c0_3, .slice A0_4 l0_4.length c0_4, .slice A0_5 l0_5.length c0_5]] rfl zq106 ?_; (with_reducible refine (r3_Great.calls a0_0 _ _ l0_1 _ _ l0_2 _ _ l0_3 _ _ l0_4 _ _ l0_5 false _ ?side1 ?side2 ?side3 ?side4 ?side5 ?side6 ?side7 ?side8 ?side9 ?side10 A5.out).mono ?_); (case side1 => exact zq84); (case side2 => exact HC0_1.out); (case side3 => exact zq85); (case side4 => exact HC0_2.out); (case side5 => exact zq86); (case side6 => exact HC0_3.out); (case side7 => exact zq87); (case side8 => exact HC0_4.out); (case side9 => exact zq88); (case side10 => exact HC0_5.out); rintro e w13 ⟨rfl, hb⟩; refine ⟨_, rfl, ?_⟩; have n0_ := Aside0.mk (blk_below (g := gb624) (o := .cells #[.int .i64 a0_0, .slice A0_1 l0_1.length c0_1, .slice A0_2 l0_2.length c0_2, .slice A0_3 l0_3.length c0_3, .slice A0_4 l0_4.length c0_4, .slice A0_5 l0_5.length c0_5] 30 (0, 0)) zq116 hb); have n1_ := Aside0.mk (below_step zq104 hb); clear BK624; clear HB; have BK624 := n0_; have HB := n1_; clear n0_ n1_; (try clear hb); (try clear hb2); (try clear hk); (try clear hi); obtain ⟨b14_0, b14_1, b14_2, b14_3, b14_4, b14_5, d14_0, d14_1, d14_2, d14_3, d14_4, d14_5⟩ := bk6 BK624.out))
      go_meet
      case rel => exact ⟨_, (decide (a1 > (l0_3.length : Int))), zq175, H', ⟨by first | omega | exact Nat.le_refl _⟩, ⟨zq116⟩, ⟨zq104⟩⟩
 case rest =>
  clear HC3
  try clear c1
  try clear p2
  try clear c6
  try clear c7
  try clear c9
  try clear c9b0
  try clear c14
  try clear b10_0
  try clear b10_1
  try clear b10_2
  try clear b10_3
  try clear b10_4
  try clear b10_5
  try clear b12_0
  try clear b12_1
  try clear b12_2
  try clear b12_3
  try clear b12_4
  try clear b12_5
  try clear b14_0
  try clear b14_1
  try clear b14_2
  try clear b14_3
  try clear b14_4
  try clear b14_5
  try clear b7_0
  try clear b7_1
  try clear b7_2
  try clear b7_3
  try clear b7_4
  try clear b7_5
  try clear d10_0
  try clear d10_1
  try clear d10_2
  try clear d10_3
  try clear d10_4
  try clear d10_5
  try clear d12_0
  try clear d12_1
  try clear d12_2
  try clear d12_3
  try clear d12_4
  try clear d12_5
  try clear d14_0
  try clear d14_1
  try clear d14_2
  try clear d14_3
  try clear d14_4
  try clear d14_5
  try clear d7_0
  try clear d7_1
  try clear d7_2
  try clear d7_3
  try clear d7_4
  try clear d7_5
  obtain ⟨kq, x24_2, rfl, HA, HJ2, BK624, HB⟩ := hcut
  cases kq with
  | zero => exact absurd HA.out (by simp [l3_OrderTurned.j0])
  | succ kj2 =>
   have H := HA.out
   clear HA
   simp only [l3_OrderTurned.j0] at H
   by_cases c15 : x24_2 = true
   · subst c15
     have H1 : ((l3_alive.f kj2).bind fun t626 => (some t626)) = some true := by rw [if_pos rfl] at H; exact H
     clear H
     have H := H1
     clear H1
     replace H := Option.bind_eq_some_iff.mp H
     obtain ⟨t626, A160, H⟩ := H
     replace H : (some t626) = some true := H
     have A16 := Aside0.mk A160
     clear A160
     obtain rfl := Option.some.inj H
     go_wp2_with (first | ((with_reducible refine gate_callee (f := 22) rfl ?_); refine goesL_ (some 25) rfl rfl Try.func22 (by kernel_rfl) rfl #[] rfl zq106 ?_; (with_reducible refine (l3_alive.calls kj2  true _ A16.out).mono ?_); rintro e w17 ⟨rfl, hb⟩; refine ⟨_, rfl, ?_⟩; have n0_ := Aside0.mk (blk_below (g := gb624) (o := .cells #[.int .i64 a0_0, .slice A0_1 l0_1.length c0_1, .slice A0_2 l0_2.length c0_2, .slice A0_3 l0_3.length c0_3, .slice A0_4 l0_4.length c0_4, .slice A0_5 l0_5.length c0_5] 30 (0, 0)) zq116 hb); have n1_ := Aside0.mk (below_step zq104 hb); clear BK624; clear HB; have BK624 := n0_; have HB := n1_; clear n0_ n1_; (try clear hb); (try clear hb2); (try clear hk); (try clear hi)))
     go_ret
     exact ⟨zq171, zq104⟩
   · replace c15 := Bool.eq_false_iff.mpr c15
     subst c15
     have H1 : ((r3_Twin.f a0_0 l0_1 l0_2 l0_3 l0_4 l0_5).bind fun bt627 => ((some (([] : List (S56)) : List (S56))).bind fun y644 => (if 0 ≤ a1 then (if a1 ≤ (l0_3.length : Int) then ((some (l0_3.drop (a1 : Int).toNat : List (S56))).bind fun y647 => (if y644.length + y647.length < 5864062014805 then ((some (y644 ++ y647 : List (S56))).bind fun y651 => ((some (l0_3.take (a1 : Int).toNat : List (S56))).bind fun y654 => (if y651.length + y654.length < 5864062014805 then ((some (y651 ++ y654 : List (S56))).bind fun y658 => ((order_Circuit.f a0_0 l0_1 l0_2 l0_3 l0_4 l0_5).bind fun bt661 => ((order_Circuit.f bt627.1 bt627.2.1 bt627.2.2.1 y658 bt627.2.2.2.2.1 bt627.2.2.2.2.2).bind fun bt679 => (if bt661.2.2.2.2.2.2 = bt679.2.2.2.2.2.2 then ((order_Check.f bt627.1 bt627.2.1 bt627.2.2.1 y658 bt627.2.2.2.2.1 bt627.2.2.2.2.2).bind fun t697 => (l3_OrderTurned.j1 kj2 bt661.2.2.2.2.2.2 (bt661.2.2.2.2.2.2 != t697) bt661.1 bt661.2.1 bt661.2.2.1 bt661.2.2.2.1 bt661.2.2.2.2.1 bt679.1 bt679.2.1 bt679.2.2.1 bt679.2.2.2.1 bt679.2.2.2.2.1)) else (l3_OrderTurned.j1 kj2 bt661.2.2.2.2.2.2 true bt661.1 bt661.2.1 bt661.2.2.1 bt661.2.2.2.1 bt661.2.2.2.2.1 bt679.1 bt679.2.1 bt679.2.2.1 bt679.2.2.2.1 bt679.2.2.2.2.1))))) else (none)))) else (none))) else (none)) else (none)))) = some true := by rw [if_neg (show ¬ (false = true) by decide)] at H; exact H
     clear H
     have H := H1
     clear H1
     replace H := Option.bind_eq_some_iff.mp H
     obtain ⟨⟨t627, t628, t631, t634, t637, t640⟩, A180, H⟩ := H
     replace H : ((some (([] : List (S56)) : List (S56))).bind fun y644 => (if 0 ≤ a1 then (if a1 ≤ (l0_3.length : Int) then ((some (l0_3.drop (a1 : Int).toNat : List (S56))).bind fun y647 => (if y644.length + y647.length < 5864062014805 then ((some (y644 ++ y647 : List (S56))).bind fun y651 => ((some (l0_3.take (a1 : Int).toNat : List (S56))).bind fun y654 => (if y651.length + y654.length < 5864062014805 then ((some (y651 ++ y654 : List (S56))).bind fun y658 => ((order_Circuit.f a0_0 l0_1 l0_2 l0_3 l0_4 l0_5).bind fun bt661 => ((order_Circuit.f t627 t628 t631 y658 t637 t640).bind fun bt679 => (if bt661.2.2.2.2.2.2 = bt679.2.2.2.2.2.2 then ((order_Check.f t627 t628 t631 y658 t637 t640).bind fun t697 => (l3_OrderTurned.j1 kj2 bt661.2.2.2.2.2.2 (bt661.2.2.2.2.2.2 != t697) bt661.1 bt661.2.1 bt661.2.2.1 bt661.2.2.2.1 bt661.2.2.2.2.1 bt679.1 bt679.2.1 bt679.2.2.1 bt679.2.2.2.1 bt679.2.2.2.2.1)) else (l3_OrderTurned.j1 kj2 bt661.2.2.2.2.2.2 true bt661.1 bt661.2.1 bt661.2.2.1 bt661.2.2.2.1 bt661.2.2.2.2.1 bt679.1 bt679.2.1 bt679.2.2.1 bt679.2.2.2.1 bt679.2.2.2.2.1))))) else (none)))) else (none))) else (none)) else (none))) = some true := H
     have A18 := Aside0.mk A180
     clear A180
     obtain ⟨y644, hy644⟩ : ∃ y_ : List (S56), y_ = (([] : List (S56))) := ⟨_, rfl⟩
     replace H : (if 0 ≤ a1 then (if a1 ≤ (l0_3.length : Int) then ((some (l0_3.drop (a1 : Int).toNat : List (S56))).bind fun y647 => (if y644.length + y647.length < 5864062014805 then ((some (y644 ++ y647 : List (S56))).bind fun y651 => ((some (l0_3.take (a1 : Int).toNat : List (S56))).bind fun y654 => (if y651.length + y654.length < 5864062014805 then ((some (y651 ++ y654 : List (S56))).bind fun y658 => ((order_Circuit.f a0_0 l0_1 l0_2 l0_3 l0_4 l0_5).bind fun bt661 => ((order_Circuit.f t627 t628 t631 y658 t637 t640).bind fun bt679 => (if bt661.2.2.2.2.2.2 = bt679.2.2.2.2.2.2 then ((order_Check.f t627 t628 t631 y658 t637 t640).bind fun t697 => (l3_OrderTurned.j1 kj2 bt661.2.2.2.2.2.2 (bt661.2.2.2.2.2.2 != t697) bt661.1 bt661.2.1 bt661.2.2.1 bt661.2.2.2.1 bt661.2.2.2.2.1 bt679.1 bt679.2.1 bt679.2.2.1 bt679.2.2.2.1 bt679.2.2.2.2.1)) else (l3_OrderTurned.j1 kj2 bt661.2.2.2.2.2.2 true bt661.1 bt661.2.1 bt661.2.2.1 bt661.2.2.2.1 bt661.2.2.2.2.1 bt679.1 bt679.2.1 bt679.2.2.1 bt679.2.2.2.1 bt679.2.2.2.2.1))))) else (none)))) else (none))) else (none)) else (none)) = some true := by first | (rw [hy644]; with_reducible exact H) | (have H2_ := (Option.bind_some _ _).symm.trans H; rw [hy644]; with_reducible exact H2_) | (have H2_ := (Option.bind_some _ _).symm.trans H; with_reducible exact H2_) | with_reducible exact H | (rw [hy644]; exact H) | exact H
     have Ny644 := Aside0.mk hy644
     clear hy644
     by_cases c19 : 0 ≤ a1
     · rw [if_pos c19] at H
       have c19b0 := eq_true c19
       have c19b1 : decide (0 ≤ a1) = true := decide_eq_true c19
       clear c19
       by_cases c20 : a1 ≤ (l0_3.length : Int)
       · rw [if_pos c20] at H
         have c20b0 := eq_true c20
         have c20b1 : decide (a1 ≤ (l0_3.length : Int)) = true := decide_eq_true c20
         clear c20
         obtain ⟨y647, hy647⟩ : ∃ y_ : List (S56), y_ = (l0_3.drop (a1 : Int).toNat) := ⟨_, rfl⟩
         replace H : (if y644.length + y647.length < 5864062014805 then ((some (y644 ++ y647 : List (S56))).bind fun y651 => ((some (l0_3.take (a1 : Int).toNat : List (S56))).bind fun y654 => (if y651.length + y654.length < 5864062014805 then ((some (y651 ++ y654 : List (S56))).bind fun y658 => ((order_Circuit.f a0_0 l0_1 l0_2 l0_3 l0_4 l0_5).bind fun bt661 => ((order_Circuit.f t627 t628 t631 y658 t637 t640).bind fun bt679 => (if bt661.2.2.2.2.2.2 = bt679.2.2.2.2.2.2 then ((order_Check.f t627 t628 t631 y658 t637 t640).bind fun t697 => (l3_OrderTurned.j1 kj2 bt661.2.2.2.2.2.2 (bt661.2.2.2.2.2.2 != t697) bt661.1 bt661.2.1 bt661.2.2.1 bt661.2.2.2.1 bt661.2.2.2.2.1 bt679.1 bt679.2.1 bt679.2.2.1 bt679.2.2.2.1 bt679.2.2.2.2.1)) else (l3_OrderTurned.j1 kj2 bt661.2.2.2.2.2.2 true bt661.1 bt661.2.1 bt661.2.2.1 bt661.2.2.2.1 bt661.2.2.2.2.1 bt679.1 bt679.2.1 bt679.2.2.1 bt679.2.2.2.1 bt679.2.2.2.2.1))))) else (none)))) else (none)) = some true := by first | (rw [hy647]; with_reducible exact H) | (have H2_ := (Option.bind_some _ _).symm.trans H; rw [hy647]; with_reducible exact H2_) | (have H2_ := (Option.bind_some _ _).symm.trans H; with_reducible exact H2_) | with_reducible exact H | (rw [hy647]; exact H) | exact H
         have Ny647 := Aside0.mk hy647
         clear hy647
         by_cases c21 : y644.length + y647.length < 5864062014805
         · rw [if_pos c21] at H
           have LMc21 := Aside0.mk c21
           clear c21
           obtain ⟨y651, hy651⟩ : ∃ y_ : List (S56), y_ = (y644 ++ y647) := ⟨_, rfl⟩
           replace H : ((some (l0_3.take (a1 : Int).toNat : List (S56))).bind fun y654 => (if y651.length + y654.length < 5864062014805 then ((some (y651 ++ y654 : List (S56))).bind fun y658 => ((order_Circuit.f a0_0 l0_1 l0_2 l0_3 l0_4 l0_5).bind fun bt661 => ((order_Circuit.f t627 t628 t631 y658 t637 t640).bind fun bt679 => (if bt661.2.2.2.2.2.2 = bt679.2.2.2.2.2.2 then ((order_Check.f t627 t628 t631 y658 t637 t640).bind fun t697 => (l3_OrderTurned.j1 kj2 bt661.2.2.2.2.2.2 (bt661.2.2.2.2.2.2 != t697) bt661.1 bt661.2.1 bt661.2.2.1 bt661.2.2.2.1 bt661.2.2.2.2.1 bt679.1 bt679.2.1 bt679.2.2.1 bt679.2.2.2.1 bt679.2.2.2.2.1)) else (l3_OrderTurned.j1 kj2 bt661.2.2.2.2.2.2 true bt661.1 bt661.2.1 bt661.2.2.1 bt661.2.2.2.1 bt661.2.2.2.2.1 bt679.1 bt679.2.1 bt679.2.2.1 bt679.2.2.2.1 bt679.2.2.2.2.1))))) else (none))) = some true := by first | (rw [hy651]; with_reducible exact H) | (have H2_ := (Option.bind_some _ _).symm.trans H; rw [hy651]; with_reducible exact H2_) | (have H2_ := (Option.bind_some _ _).symm.trans H; with_reducible exact H2_) | with_reducible exact H | (rw [hy651]; exact H) | exact H
           have Ny651 := Aside0.mk hy651
           clear hy651
           have c22b0 := eq_true (of_decide_eq_true zq174 : 0 ≤ a1)
           have c23b0 := eq_true (of_decide_eq_true zq174 : a1 ≤ (l0_3.length : Int))
           obtain ⟨y654, hy654⟩ : ∃ y_ : List (S56), y_ = (l0_3.take (a1 : Int).toNat) := ⟨_, rfl⟩
           replace H : (if y651.length + y654.length < 5864062014805 then ((some (y651 ++ y654 : List (S56))).bind fun y658 => ((order_Circuit.f a0_0 l0_1 l0_2 l0_3 l0_4 l0_5).bind fun bt661 => ((order_Circuit.f t627 t628 t631 y658 t637 t640).bind fun bt679 => (if bt661.2.2.2.2.2.2 = bt679.2.2.2.2.2.2 then ((order_Check.f t627 t628 t631 y658 t637 t640).bind fun t697 => (l3_OrderTurned.j1 kj2 bt661.2.2.2.2.2.2 (bt661.2.2.2.2.2.2 != t697) bt661.1 bt661.2.1 bt661.2.2.1 bt661.2.2.2.1 bt661.2.2.2.2.1 bt679.1 bt679.2.1 bt679.2.2.1 bt679.2.2.2.1 bt679.2.2.2.2.1)) else (l3_OrderTurned.j1 kj2 bt661.2.2.2.2.2.2 true bt661.1 bt661.2.1 bt661.2.2.1 bt661.2.2.2.1 bt661.2.2.2.2.1 bt679.1 bt679.2.1 bt679.2.2.1 bt679.2.2.2.1 bt679.2.2.2.2.1))))) else (none)) = some true := by first | (rw [hy654]; with_reducible exact H) | (have H2_ := (Option.bind_some _ _).symm.trans H; rw [hy654]; with_reducible exact H2_) | (have H2_ := (Option.bind_some _ _).symm.trans H; with_reducible exact H2_) | with_reducible exact H | (rw [hy654]; exact H) | exact H
           have Ny654 := Aside0.mk hy654
           clear hy654
           by_cases c24 : y651.length + y654.length < 5864062014805
           · rw [if_pos c24] at H
             have LMc24 := Aside0.mk c24
             clear c24
             obtain ⟨y658, hy658⟩ : ∃ y_ : List (S56), y_ = (y651 ++ y654) := ⟨_, rfl⟩
             replace H : ((order_Circuit.f a0_0 l0_1 l0_2 l0_3 l0_4 l0_5).bind fun bt661 => ((order_Circuit.f t627 t628 t631 y658 t637 t640).bind fun bt679 => (if bt661.2.2.2.2.2.2 = bt679.2.2.2.2.2.2 then ((order_Check.f t627 t628 t631 y658 t637 t640).bind fun t697 => (l3_OrderTurned.j1 kj2 bt661.2.2.2.2.2.2 (bt661.2.2.2.2.2.2 != t697) bt661.1 bt661.2.1 bt661.2.2.1 bt661.2.2.2.1 bt661.2.2.2.2.1 bt679.1 bt679.2.1 bt679.2.2.1 bt679.2.2.2.1 bt679.2.2.2.2.1)) else (l3_OrderTurned.j1 kj2 bt661.2.2.2.2.2.2 true bt661.1 bt661.2.1 bt661.2.2.1 bt661.2.2.2.1 bt661.2.2.2.2.1 bt679.1 bt679.2.1 bt679.2.2.1 bt679.2.2.2.1 bt679.2.2.2.2.1)))) = some true := by first | (rw [hy658]; with_reducible exact H) | (have H2_ := (Option.bind_some _ _).symm.trans H; rw [hy658]; with_reducible exact H2_) | (have H2_ := (Option.bind_some _ _).symm.trans H; with_reducible exact H2_) | with_reducible exact H | (rw [hy658]; exact H) | exact H
             have Ny658 := Aside0.mk hy658
             clear hy658
             replace H := Option.bind_eq_some_iff.mp H
             obtain ⟨⟨t661, t662, t665, t668, t671, t674, t677⟩, A250, H⟩ := H
             replace H : ((order_Circuit.f t627 t628 t631 y658 t637 t640).bind fun bt679 => (if t677 = bt679.2.2.2.2.2.2 then ((order_Check.f t627 t628 t631 y658 t637 t640).bind fun t697 => (l3_OrderTurned.j1 kj2 t677 (t677 != t697) t661 t662 t665 t668 t671 bt679.1 bt679.2.1 bt679.2.2.1 bt679.2.2.2.1 bt679.2.2.2.2.1)) else (l3_OrderTurned.j1 kj2 t677 true t661 t662 t665 t668 t671 bt679.1 bt679.2.1 bt679.2.2.1 bt679.2.2.2.1 bt679.2.2.2.2.1))) = some true := H
             have A25 := Aside0.mk A250
             clear A250
             replace H := Option.bind_eq_some_iff.mp H
             obtain ⟨⟨t679, t680, t683, t686, t689, t692, t695⟩, A260, H⟩ := H
             replace H : (if t677 = t695 then ((order_Check.f t627 t628 t631 y658 t637 t640).bind fun t697 => (l3_OrderTurned.j1 kj2 t677 (t677 != t697) t661 t662 t665 t668 t671 t679 t680 t683 t686 t689)) else (l3_OrderTurned.j1 kj2 t677 true t661 t662 t665 t668 t671 t679 t680 t683 t686 t689)) = some true := H
             have A26 := Aside0.mk A260
             clear A260
             have HC27 := Aside0.mk H
             clear H
             obtain ⟨b28_0, b28_1, b28_2, b28_3, b28_4, b28_5, d28_0, d28_1, d28_2, d28_3, d28_4, d28_5⟩ := bk6 BK624.out
             try go_wp2_with (first | ((with_reducible refine gate_callee (f := 15) rfl ?_); refine goesL_ (some 27) rfl rfl Try.func15 (by kernel_rfl) rfl #[.agg #[.int .i64 a0_0, .slice A0_1 l0_1.length c0_1, .slice A0_2 l0_2.length c0_2, .slice A0_3 l0_3.length c0_3, .slice A0_4 l0_4.length c0_4, .slice A0_5 l0_5.length c0_5]] rfl zq106 ?_; (with_reducible refine (r3_Twin.calls a0_0 _ _ l0_1 _ _ l0_2 _ _ l0_3 _ _ l0_4 _ _ l0_5 t627 t628 t631 t634 t637 t640 _ ?side1 ?side2 ?side3 ?side4 ?side5 ?side6 ?side7 ?side8 ?side9 ?side10 A18.out).mono ?_); (case side1 => exact zq84); (case side2 => exact HC0_1.out); (case side3 => exact zq85); (case side4 => exact HC0_2.out); (case side5 => exact zq86); (case side6 => exact HC0_3.out); (case side7 => exact zq87); (case side8 => exact HC0_4.out); (case side9 => exact zq88); (case side10 => exact HC0_5.out); rintro e w29 ⟨v629, v632, v635, v638, v641, rfl, ho0, ho1, ho2, ho3, ho4, hb⟩; refine ⟨_, rfl, ?_⟩; have n0_ := Aside0.mk (Kd.R_lower ho0 (below_size zq104)); have n1_ := Aside0.mk (Kd.R_lower ho1 (below_size zq104)); have n2_ := Aside0.mk (Kd.R_lower ho2 (below_size zq104)); have n3_ := Aside0.mk (Kd.R_lower ho3 (below_size zq104)); have n4_ := Aside0.mk (Kd.R_lower ho4 (below_size zq104)); have n5_ := Aside0.mk (blk_below (g := gb624) (o := .cells #[.int .i64 a0_0, .slice A0_1 l0_1.length c0_1, .slice A0_2 l0_2.length c0_2, .slice A0_3 l0_3.length c0_3, .slice A0_4 l0_4.length c0_4, .slice A0_5 l0_5.length c0_5] 30 (0, 0)) zq116 hb); have n6_ := Aside0.mk (below_step zq104 hb); clear BK624; clear HB; have HO630 := n0_; have HO633 := n1_; have HO636 := n2_; have HO639 := n3_; have HO642 := n4_; have BK624 := n5_; have HB := n6_; clear n0_ n1_ n2_ n3_ n4_ n5_ n6_; (try clear hb); (try clear hb2); (try clear hk); (try clear hi); (try clear ho0); (try clear ho1); (try clear ho2); (try clear ho3); (try clear ho4)) | ((with_reducible refine gate_dst (N := 5) rfl ?_); (try (refine gate_guard (by rfl) ?_; dsimp only)); refine box_event ?hg (N := 5) ?hd (cs := #[.int .i64 0, .slice none 0 0, .slice none 0 0, .slice none 0 0, .slice none 0 0, .slice none 0 0]) (t := 30) ?hr ?_; (case hd => rfl); (case hg => rfl); (case hr => first | (go_simp; done) | (go_simp; rfl)); intro gb643 hg w30 hbox hb; have n0_ := Aside0.mk (Kd.R_below zq153 hb); have n1_ := Aside0.mk (Kd.R_below zq154 hb); have n2_ := Aside0.mk (Kd.R_below zq155 hb); have n3_ := Aside0.mk (Kd.R_below zq156 hb); have n4_ := Aside0.mk (Kd.R_below zq157 hb); have n5_ := Aside0.mk (blk_below (g := gb624) (o := .cells #[.int .i64 a0_0, .slice A0_1 l0_1.length c0_1, .slice A0_2 l0_2.length c0_2, .slice A0_3 l0_3.length c0_3, .slice A0_4 l0_4.length c0_4, .slice A0_5 l0_5.length c0_5] 30 (0, 0)) zq116 hb); have n6_ := Aside0.mk (below_step zq104 hb); have n7_ := Aside0.mk (hbox); have n8_ := Aside0.mk ((zq76 : w.heap.size ≤ gb643)); have n9_ := Aside0.mk ((zq76 : w.heap.size ≤ gb643)); have n10_ := Aside0.mk ((zq33 : gb624 ≠ gb643)); have n11_ := Aside0.mk ((zq31 : gb643 ≠ gb624)); clear HO630; clear HO633; clear HO636; clear HO639; clear HO642; clear BK624; clear HB; have HO630 := n0_; have HO633 := n1_; have HO636 := n2_; have HO639 := n3_; have HO642 := n4_; have BK624 := n5_; have HB := n6_; have BK643 := n7_; have GW643 := n8_; have GE643 := n9_; have NB624_643 := n10_; have NB643_624 := n11_; clear n0_ n1_ n2_ n3_ n4_ n5_ n6_ n7_ n8_ n9_ n10_ n11_; clear hb hbox hg; have hnb31 := NB643_624.out; have hnc31 := NB624_643.out; obtain ⟨b32_0, b32_1, b32_2, b32_3, b32_4, b32_5, d32_0, d32_1, d32_2, d32_3, d32_4, d32_5⟩ := bk6 BK643.out; obtain ⟨Ao33, co33, eo33⟩ := Kd.R_slice HO630.out; subst eo33; obtain ⟨Ao34, co34, eo34⟩ := Kd.R_slice HO633.out; subst eo34; obtain ⟨Ao35, co35, eo35⟩ := Kd.R_slice HO636.out; subst eo35; obtain ⟨Ao36, co36, eo36⟩ := Kd.R_slice HO639.out; subst eo36; obtain ⟨Ao37, co37, eo37⟩ := Kd.R_slice HO642.out; subst eo37))
             have n0_ : Aside0 (Kd.R (Kd.int .i64) 3 ((((((w30.setCell ⟨gb643, 0, none⟩ (.int .i64 t627)).setCell ⟨gb643, 1, none⟩ (.slice Ao33 t628.length co33)).setCell ⟨gb643, 2, none⟩ (.slice Ao34 t631.length co34)).setCell ⟨gb643, 3, none⟩ (.slice Ao35 t634.length co35)).setCell ⟨gb643, 4, none⟩ (.slice Ao36 t637.length co36)).setCell ⟨gb643, 5, none⟩ (.slice Ao37 t640.length co37)) w.heap.size (fun k_ => some k_ ≠ (.slice Ao36 t637.length co36 : Value).ownBlock ∧ some k_ ≠ (.slice Ao37 t640.length co37 : Value).ownBlock) (.slice Ao33 t628.length co33) t628) := ⟨by (with_reducible repeat (first | apply Kd.R_alloc | apply Kd.R_drewN | apply Kd.R_drew)); exact Kd.R_mono (Kd.R_far (p := ⟨gb643, 5, none⟩) (Kd.R_far (p := ⟨gb643, 4, none⟩) (Kd.R_far (p := ⟨gb643, 3, none⟩) (Kd.R_far (p := ⟨gb643, 2, none⟩) (Kd.R_far (p := ⟨gb643, 1, none⟩) (Kd.R_far (p := ⟨gb643, 0, none⟩) (Kd.R_types HO630.out BK643.out (by decide)) (fun _ hk => by first | exact hk.2 | exact hk) (.int .i64 t627)) (fun _ hk => by first | exact hk.2 | exact hk) (.slice Ao33 t628.length co33)) (fun _ hk => by first | exact hk.2 | exact hk) (.slice Ao34 t631.length co34)) (fun _ hk => by first | exact hk.2 | exact hk) (.slice Ao35 t634.length co35)) (fun _ hk => by first | exact hk.2 | exact hk) (.slice Ao36 t637.length co36)) (fun _ hk => by first | exact hk.2 | exact hk) (.slice Ao37 t640.length co37)) (fun _ hk => ⟨hk.1.1, hk.1.2⟩)⟩
             have n1_ : Aside0 (Kd.R k56 56 ((((((w30.setCell ⟨gb643, 0, none⟩ (.int .i64 t627)).setCell ⟨gb643, 1, none⟩ (.slice Ao33 t628.length co33)).setCell ⟨gb643, 2, none⟩ (.slice Ao34 t631.length co34)).setCell ⟨gb643, 3, none⟩ (.slice Ao35 t634.length co35)).setCell ⟨gb643, 4, none⟩ (.slice Ao36 t637.length co36)).setCell ⟨gb643, 5, none⟩ (.slice Ao37 t640.length co37)) w.heap.size (fun k_ => some k_ ≠ (.slice Ao35 t634.length co35 : Value).ownBlock) (.slice Ao34 t631.length co34) t631) := ⟨by (with_reducible repeat (first | apply Kd.R_alloc | apply Kd.R_drewN | apply Kd.R_drew)); exact Kd.R_mono (Kd.R_far (p := ⟨gb643, 5, none⟩) (Kd.R_far (p := ⟨gb643, 4, none⟩) (Kd.R_far (p := ⟨gb643, 3, none⟩) (Kd.R_far (p := ⟨gb643, 2, none⟩) (Kd.R_far (p := ⟨gb643, 1, none⟩) (Kd.R_far (p := ⟨gb643, 0, none⟩) (Kd.R_types HO633.out BK643.out (by decide)) (fun _ hk => by first | exact hk.2 | exact hk) (.int .i64 t627)) (fun _ hk => by first | exact hk.2 | exact hk) (.slice Ao33 t628.length co33)) (fun _ hk => by first | exact hk.2 | exact hk) (.slice Ao34 t631.length co34)) (fun _ hk => by first | exact hk.2 | exact hk) (.slice Ao35 t634.length co35)) (fun _ hk => by first | exact hk.2 | exact hk) (.slice Ao36 t637.length co36)) (fun _ hk => by first | exact hk.2 | exact hk) (.slice Ao37 t640.length co37)) (fun _ hk => by first | exact hk.1 | exact hk)⟩
             have n2_ : Aside0 (Kd.R k56 56 ((((((w30.setCell ⟨gb643, 0, none⟩ (.int .i64 t627)).setCell ⟨gb643, 1, none⟩ (.slice Ao33 t628.length co33)).setCell ⟨gb643, 2, none⟩ (.slice Ao34 t631.length co34)).setCell ⟨gb643, 3, none⟩ (.slice Ao35 t634.length co35)).setCell ⟨gb643, 4, none⟩ (.slice Ao36 t637.length co36)).setCell ⟨gb643, 5, none⟩ (.slice Ao37 t640.length co37)) w.heap.size (fun k_ => some k_ ≠ (.slice Ao34 t631.length co34 : Value).ownBlock) (.slice Ao35 t634.length co35) t634) := ⟨by (with_reducible repeat (first | apply Kd.R_alloc | apply Kd.R_drewN | apply Kd.R_drew)); exact Kd.R_mono (Kd.R_far (p := ⟨gb643, 5, none⟩) (Kd.R_far (p := ⟨gb643, 4, none⟩) (Kd.R_far (p := ⟨gb643, 3, none⟩) (Kd.R_far (p := ⟨gb643, 2, none⟩) (Kd.R_far (p := ⟨gb643, 1, none⟩) (Kd.R_far (p := ⟨gb643, 0, none⟩) (Kd.R_types HO636.out BK643.out (by decide)) (fun _ hk => by first | exact hk.2 | exact hk) (.int .i64 t627)) (fun _ hk => by first | exact hk.2 | exact hk) (.slice Ao33 t628.length co33)) (fun _ hk => by first | exact hk.2 | exact hk) (.slice Ao34 t631.length co34)) (fun _ hk => by first | exact hk.2 | exact hk) (.slice Ao35 t634.length co35)) (fun _ hk => by first | exact hk.2 | exact hk) (.slice Ao36 t637.length co36)) (fun _ hk => by first | exact hk.2 | exact hk) (.slice Ao37 t640.length co37)) (fun _ hk => by first | exact hk.1 | exact hk)⟩
             have n3_ : Aside0 (Kd.R (Kd.int .i64) 3 ((((((w30.setCell ⟨gb643, 0, none⟩ (.int .i64 t627)).setCell ⟨gb643, 1, none⟩ (.slice Ao33 t628.length co33)).setCell ⟨gb643, 2, none⟩ (.slice Ao34 t631.length co34)).setCell ⟨gb643, 3, none⟩ (.slice Ao35 t634.length co35)).setCell ⟨gb643, 4, none⟩ (.slice Ao36 t637.length co36)).setCell ⟨gb643, 5, none⟩ (.slice Ao37 t640.length co37)) w.heap.size (fun k_ => some k_ ≠ (.slice Ao33 t628.length co33 : Value).ownBlock ∧ some k_ ≠ (.slice Ao37 t640.length co37 : Value).ownBlock) (.slice Ao36 t637.length co36) t637) := ⟨by (with_reducible repeat (first | apply Kd.R_alloc | apply Kd.R_drewN | apply Kd.R_drew)); exact Kd.R_mono (Kd.R_far (p := ⟨gb643, 5, none⟩) (Kd.R_far (p := ⟨gb643, 4, none⟩) (Kd.R_far (p := ⟨gb643, 3, none⟩) (Kd.R_far (p := ⟨gb643, 2, none⟩) (Kd.R_far (p := ⟨gb643, 1, none⟩) (Kd.R_far (p := ⟨gb643, 0, none⟩) (Kd.R_types HO639.out BK643.out (by decide)) (fun _ hk => by first | exact hk.2 | exact hk) (.int .i64 t627)) (fun _ hk => by first | exact hk.2 | exact hk) (.slice Ao33 t628.length co33)) (fun _ hk => by first | exact hk.2 | exact hk) (.slice Ao34 t631.length co34)) (fun _ hk => by first | exact hk.2 | exact hk) (.slice Ao35 t634.length co35)) (fun _ hk => by first | exact hk.2 | exact hk) (.slice Ao36 t637.length co36)) (fun _ hk => by first | exact hk.2 | exact hk) (.slice Ao37 t640.length co37)) (fun _ hk => ⟨hk.1.1, hk.1.2⟩)⟩
             have n4_ : Aside0 (Kd.R (Kd.int .i64) 3 ((((((w30.setCell ⟨gb643, 0, none⟩ (.int .i64 t627)).setCell ⟨gb643, 1, none⟩ (.slice Ao33 t628.length co33)).setCell ⟨gb643, 2, none⟩ (.slice Ao34 t631.length co34)).setCell ⟨gb643, 3, none⟩ (.slice Ao35 t634.length co35)).setCell ⟨gb643, 4, none⟩ (.slice Ao36 t637.length co36)).setCell ⟨gb643, 5, none⟩ (.slice Ao37 t640.length co37)) w.heap.size (fun k_ => some k_ ≠ (.slice Ao33 t628.length co33 : Value).ownBlock ∧ some k_ ≠ (.slice Ao36 t637.length co36 : Value).ownBlock) (.slice Ao37 t640.length co37) t640) := ⟨by (with_reducible repeat (first | apply Kd.R_alloc | apply Kd.R_drewN | apply Kd.R_drew)); exact Kd.R_mono (Kd.R_far (p := ⟨gb643, 5, none⟩) (Kd.R_far (p := ⟨gb643, 4, none⟩) (Kd.R_far (p := ⟨gb643, 3, none⟩) (Kd.R_far (p := ⟨gb643, 2, none⟩) (Kd.R_far (p := ⟨gb643, 1, none⟩) (Kd.R_far (p := ⟨gb643, 0, none⟩) (Kd.R_types HO642.out BK643.out (by decide)) (fun _ hk => by first | exact hk.2 | exact hk) (.int .i64 t627)) (fun _ hk => by first | exact hk.2 | exact hk) (.slice Ao33 t628.length co33)) (fun _ hk => by first | exact hk.2 | exact hk) (.slice Ao34 t631.length co34)) (fun _ hk => by first | exact hk.2 | exact hk) (.slice Ao35 t634.length co35)) (fun _ hk => by first | exact hk.2 | exact hk) (.slice Ao36 t637.length co36)) (fun _ hk => by first | exact hk.2 | exact hk) (.slice Ao37 t640.length co37)) (fun _ hk => ⟨hk.1.1, hk.1.2⟩)⟩
             have n5_ : Aside0 (((((((w30.setCell ⟨gb643, 0, none⟩ (.int .i64 t627)).setCell ⟨gb643, 1, none⟩ (.slice Ao33 t628.length co33)).setCell ⟨gb643, 2, none⟩ (.slice Ao34 t631.length co34)).setCell ⟨gb643, 3, none⟩ (.slice Ao35 t634.length co35)).setCell ⟨gb643, 4, none⟩ (.slice Ao36 t637.length co36)).setCell ⟨gb643, 5, none⟩ (.slice Ao37 t640.length co37)).heap[gb624]? = some (.cells #[.int .i64 a0_0, .slice A0_1 l0_1.length c0_1, .slice A0_2 l0_2.length c0_2, .slice A0_3 l0_3.length c0_3, .slice A0_4 l0_4.length c0_4, .slice A0_5 l0_5.length c0_5] 30 (0, 0))) := ⟨by (with_reducible repeat (first | refine blk_drewN ?_ _ | refine blk_drew ?_ | refine blk_alloc ?_ _)); refine blk_far ?_ NB624_643.out _; (with_reducible repeat (first | refine blk_drewN ?_ _ | refine blk_drew ?_ | refine blk_alloc ?_ _)); refine blk_far ?_ NB624_643.out _; (with_reducible repeat (first | refine blk_drewN ?_ _ | refine blk_drew ?_ | refine blk_alloc ?_ _)); refine blk_far ?_ NB624_643.out _; (with_reducible repeat (first | refine blk_drewN ?_ _ | refine blk_drew ?_ | refine blk_alloc ?_ _)); refine blk_far ?_ NB624_643.out _; (with_reducible repeat (first | refine blk_drewN ?_ _ | refine blk_drew ?_ | refine blk_alloc ?_ _)); refine blk_far ?_ NB624_643.out _; (with_reducible repeat (first | refine blk_drewN ?_ _ | refine blk_drew ?_ | refine blk_alloc ?_ _)); refine blk_far ?_ NB624_643.out _; (with_reducible repeat (first | refine blk_drewN ?_ _ | refine blk_drew ?_ | refine blk_alloc ?_ _)); exact BK624.out⟩
             have n6_ : Aside0 (((((((w30.setCell ⟨gb643, 0, none⟩ (.int .i64 t627)).setCell ⟨gb643, 1, none⟩ (.slice Ao33 t628.length co33)).setCell ⟨gb643, 2, none⟩ (.slice Ao34 t631.length co34)).setCell ⟨gb643, 3, none⟩ (.slice Ao35 t634.length co35)).setCell ⟨gb643, 4, none⟩ (.slice Ao36 t637.length co36)).setCell ⟨gb643, 5, none⟩ (.slice Ao37 t640.length co37)).heap[gb643]? = some (.cells #[.int .i64 t627, .slice Ao33 t628.length co33, .slice Ao34 t631.length co34, .slice Ao35 t634.length co35, .slice Ao36 t637.length co36, .slice Ao37 t640.length co37] 30 (0, 0))) := ⟨by (with_reducible repeat (first | refine blk_drewN ?_ _ | refine blk_drew ?_ | refine blk_alloc ?_ _)); refine blk_put (cs := #[.int .i64 t627, .slice Ao33 t628.length co33, .slice Ao34 t631.length co34, .slice Ao35 t634.length co35, .slice Ao36 t637.length co36, .slice none 0 0]) ?_ 5 _ rfl; (with_reducible repeat (first | refine blk_drewN ?_ _ | refine blk_drew ?_ | refine blk_alloc ?_ _)); refine blk_put (cs := #[.int .i64 t627, .slice Ao33 t628.length co33, .slice Ao34 t631.length co34, .slice Ao35 t634.length co35, .slice none 0 0, .slice none 0 0]) ?_ 4 _ rfl; (with_reducible repeat (first | refine blk_drewN ?_ _ | refine blk_drew ?_ | refine blk_alloc ?_ _)); refine blk_put (cs := #[.int .i64 t627, .slice Ao33 t628.length co33, .slice Ao34 t631.length co34, .slice none 0 0, .slice none 0 0, .slice none 0 0]) ?_ 3 _ rfl; (with_reducible repeat (first | refine blk_drewN ?_ _ | refine blk_drew ?_ | refine blk_alloc ?_ _)); refine blk_put (cs := #[.int .i64 t627, .slice Ao33 t628.length co33, .slice none 0 0, .slice none 0 0, .slice none 0 0, .slice none 0 0]) ?_ 2 _ rfl; (with_reducible repeat (first | refine blk_drewN ?_ _ | refine blk_drew ?_ | refine blk_alloc ?_ _)); refine blk_put (cs := #[.int .i64 t627, .slice none 0 0, .slice none 0 0, .slice none 0 0, .slice none 0 0, .slice none 0 0]) ?_ 1 _ rfl; (with_reducible repeat (first | refine blk_drewN ?_ _ | refine blk_drew ?_ | refine blk_alloc ?_ _)); refine blk_put (cs := #[.int .i64 0, .slice none 0 0, .slice none 0 0, .slice none 0 0, .slice none 0 0, .slice none 0 0]) ?_ 0 _ rfl; (with_reducible repeat (first | refine blk_drewN ?_ _ | refine blk_drew ?_ | refine blk_alloc ?_ _)); exact BK643.out⟩
             have n7_ : Aside0 (Below w.heap.size w ((((((w30.setCell ⟨gb643, 0, none⟩ (.int .i64 t627)).setCell ⟨gb643, 1, none⟩ (.slice Ao33 t628.length co33)).setCell ⟨gb643, 2, none⟩ (.slice Ao34 t631.length co34)).setCell ⟨gb643, 3, none⟩ (.slice Ao35 t634.length co35)).setCell ⟨gb643, 4, none⟩ (.slice Ao36 t637.length co36)).setCell ⟨gb643, 5, none⟩ (.slice Ao37 t640.length co37))) := ⟨zq83⟩
             (try clear HO630)
             (try clear HO633)
             (try clear HO636)
             (try clear HO639)
             (try clear HO642)
             (try clear BK624)
             (try clear BK643)
             (try clear HB)
             generalize ((((((w30.setCell ⟨gb643, 0, none⟩ (.int .i64 t627)).setCell ⟨gb643, 1, none⟩ (.slice Ao33 t628.length co33)).setCell ⟨gb643, 2, none⟩ (.slice Ao34 t631.length co34)).setCell ⟨gb643, 3, none⟩ (.slice Ao35 t634.length co35)).setCell ⟨gb643, 4, none⟩ (.slice Ao36 t637.length co36)).setCell ⟨gb643, 5, none⟩ (.slice Ao37 t640.length co37)) = w38 at n0_ n1_ n2_ n3_ n4_ n5_ n6_ n7_ ⊢
             have HO630 := n0_
             have HO633 := n1_
             have HO636 := n2_
             have HO639 := n3_
             have HO642 := n4_
             have BK624 := n5_
             have BK643 := n6_
             have HB := n7_
             clear n0_ n1_ n2_ n3_ n4_ n5_ n6_ n7_
             have n0_ := Aside0.mk (Kd.R_drew HO630.out)
             have n1_ := Aside0.mk (Kd.R_drew HO633.out)
             have n2_ := Aside0.mk (Kd.R_drew HO636.out)
             have n3_ := Aside0.mk (Kd.R_drew HO639.out)
             have n4_ := Aside0.mk (Kd.R_drew HO642.out)
             have n5_ := Aside0.mk (blk_drew BK624.out)
             have n6_ := Aside0.mk (blk_drew BK643.out)
             have n7_ := Aside0.mk (below_drew1 HB.out)
             clear HO630
             clear HO633
             clear HO636
             clear HO639
             clear HO642
             clear BK624
             clear BK643
             clear HB
             have HO630 := n0_
             have HO633 := n1_
             have HO636 := n2_
             have HO639 := n3_
             have HO642 := n4_
             have BK624 := n5_
             have BK643 := n6_
             have HB := n7_
             clear n0_ n1_ n2_ n3_ n4_ n5_ n6_ n7_
             have q40 : (a1 : Int) ≤ ((l0_3.length : Int) : Int) := of_decide_eq_true zq174
             obtain ⟨i040, hi040, _, hsz40, _⟩ := info_parts info56
             have hroom40 : l0_3.length ≤ c0_3 := HC0_3.out
             have hC40 : Kd.C k56 _ A0_3 l0_3.length l0_3 := HR0_3.out
             have q040 : (0 : Int) ≤ (a1 : Int) := of_decide_eq_true zq174
             have hcut40 := cut_from (P := Try.prog) 28 56 .i64 Try.underlying28 hi040 3 hsz40 A0_3 l0_3.length c0_3 a1 q040 q40
             have hr40 := Kd.C_drop (m := (a1 : Int).toNat) (c := c0_3) hC40 (by omega) hroom40
             obtain ⟨A40, hA40⟩ : ∃ A1q_ : Option Addr, A1q_ = (if c0_3 = (a1 : Int).toNat then A0_3 else (A0_3 : Option Addr).map (·.add ((a1 : Int).toNat * 3))) := ⟨_, rfl⟩
             obtain ⟨c40, hc40⟩ : ∃ c1q_ : Nat, c1q_ = c0_3 - (a1 : Int).toNat := ⟨_, rfl⟩
             have hy40 : y647.length = l0_3.length - (a1 : Int).toNat := (by rw [Ny647.out, List.length_drop] <;> omega)
             rw [show (l0_3).drop (a1 : Int).toNat = y647 from Ny647.out.symm] at hr40
             replace hr40 : Kd.C k56 _ A40 y647.length y647 := (by rw [hA40]; exact hr40)
             rw [← hy40, ← hA40, ← hc40] at hcut40
             have HR650 := Aside0.mk hr40
             have HC650 := Aside0.mk (show y647.length ≤ c40 from by rw [hy40, hc40]; exact Nat.sub_le_sub_right hroom40 _)
             clear hr40 hC40 hroom40 hi040 hsz40 hc40
             have KY40 := Aside0.mk hy40
             have KA40 := Aside0.mk hA40
             clear hy40 hA40
             replace q40 := eq_true q40
             have q41 : (a1 : Int) ≤ ((l0_3.length : Int) : Int) := of_decide_eq_true zq174
             obtain ⟨i041, hi041, _, hsz41, _⟩ := info_parts info56
             have hroom41 : l0_3.length ≤ c0_3 := HC0_3.out
             have hC41 : Kd.C k56 _ A0_3 l0_3.length l0_3 := HR0_3.out
             have hcut41 := cut_to (P := Try.prog) 28 56 .i64 Try.underlying28 hi041 A0_3 l0_3.length c0_3 a1 (of_decide_eq_true zq174) q41 hroom41
             have hr41 := Kd.C_take (m := (a1 : Int).toNat) hC41 (by omega)
             have hy41 : y654.length = (a1 : Int).toNat := (by rw [Ny654.out, List.length_take]; omega)
             rw [← Ny654.out] at hr41
             rw [← hy41] at hcut41
             have HR657 := Aside0.mk hr41
             have HC657 := Aside0.mk (show y654.length ≤ c0_3 from by omega)
             clear hr41 hC41 hroom41 hi041 hsz41
             have KY41 := Aside0.mk hy41
             clear hy41
             replace q41 := eq_true q41
             refine start_ (n := 13) (S := fun w' => w'.cell? ⟨gb624, 0, none⟩ = some (.int .i64 a0_0) ∧ w'.cell? ⟨gb624, 1, none⟩ = some (.slice A0_1 l0_1.length c0_1) ∧ w'.cell? ⟨gb624, 2, none⟩ = some (.slice A0_2 l0_2.length c0_2) ∧ w'.cell? ⟨gb624, 3, none⟩ = some (.slice A0_3 l0_3.length c0_3) ∧ w'.cell? ⟨gb624, 4, none⟩ = some (.slice A0_4 l0_4.length c0_4) ∧ w'.cell? ⟨gb624, 5, none⟩ = some (.slice A0_5 l0_5.length c0_5)) (ds := []) #[nN,nN,nN,nN,nN,nN,nN,nN,nN,nN,nN,nN,nN] (by kernel_rfl) rfl rfl ⟨(blk_cell BK624.out 0).trans rfl, (blk_cell BK624.out 1).trans rfl, (blk_cell BK624.out 2).trans rfl, (blk_cell BK624.out 3).trans rfl, (blk_cell BK624.out 4).trans rfl, (blk_cell BK624.out 5).trans rfl⟩ (fun hHeld => ?_); refine with_tabW l3_OrderTurned.tab4 l3_OrderTurned.bits4 (fun HT_ HW_ => ?_)
             generalize w38.drew = w39 at HO630 HO633 HO636 HO639 HO642 BK624 BK643 HB HR650 HR657 hHeld ⊢
             refine pz 1 29 #[nN,yY,nN,nN,nN,nN,nN,nN,nN,nN,nN,nN,nN] (h := ?_)
             refine pz 3 31 #[nN,yY,nN,yY,nN,nN,nN,nN,nN,nN,nN,nN,nN] (h := ?_)
             refine pz 6 34 #[nN,yY,nN,yY,nN,nN,yY,nN,nN,nN,nN,nN,nN] (h := ?_)
             refine pz 8 36 #[nN,yY,nN,yY,nN,nN,yY,nN,yY,nN,nN,nN,nN] (h := ?_)
             refine take_ (i := 2) (N := some 30) (v := ?_) (a' := ?_) #[nN,yY,yY,yY,nN,nN,yY,nN,yY,nN,nN,nN,nN] rfl rfl (take_ofW HT_.out HW_.out (by kernel_rfl)) (fun _ _ _ h => h) (Or.inl ⟨by rfl, ?_⟩) hHeld ?_ ?_
             rotate_left
             · rintro w' ⟨s0, s1, s2, s3, s4, s5⟩
               go_simp
               with_reducible rfl
             rotate_left
             · simp only [Act.put, List.setIfInBounds_toArray, List.set_cons_zero, List.set_cons_succ, i64_w, i32_w]
               rfl
             refine pz 4 32 #[nN,yY,yY,yY,yY,nN,yY,nN,yY,nN,nN,nN,nN] (h := ?_)
             refine take_ (i := 7) (N := some 35) (v := ?_) (a' := ?_) #[nN,yY,yY,yY,yY,nN,yY,yY,yY,nN,nN,nN,nN] rfl rfl (take_ofW HT_.out HW_.out (by kernel_rfl)) (fun _ _ _ h => h) (Or.inl ⟨by rfl, ?_⟩) hHeld ?_ ?_
             rotate_left
             · rintro w' ⟨s0, s1, s2, s3, s4, s5⟩
               go_simp
               with_reducible rfl
             rotate_left
             · simp only [Act.put, List.setIfInBounds_toArray, List.set_cons_zero, List.set_cons_succ, i64_w, i32_w]
               rfl
             refine pz 9 37 #[nN,yY,yY,yY,yY,nN,yY,yY,yY,yY,nN,nN,nN] (h := ?_)
             refine one_ (i := 0) (N := some 28) #[yY,yY,yY,yY,yY,nN,yY,yY,yY,yY,nN,nN,nN] rfl rfl (one_of HT_.out (by kernel_rfl)) (by decide) (fun K hK => ?_)
             refine Kd.R_lit_step k56 _ 56 ?hg (N := 28) ?hd (xs := ([] : List (S56))) (inner := []) (ok := fun _ => True) (okp := fun _ => True) ?hr ?hp (fun _ hk => hk) trivial (Below.refl _ _) (Nat.le_refl _) (by simp) ?_; (case hd => rfl); (case hg => rfl); (case hr => first | (go_simp; done) | (go_simp; rfl)); (case hp => exact (Reps.none _ _))
             intro v645 w42 ho43 hb hg_ hnew_
             clear hg_ hnew_
             (first | rw [← Ny644.out] at ho43 | (simp only [Int.reduceToNat] at ho43; rw [← Ny644.out] at ho43))
             have n0_ := Aside0.mk (Kd.R_below zq153 hb)
             have n1_ := Aside0.mk (Kd.R_elder' zq154 (Kd.R_base ho43) hb)
             have n2_ := Aside0.mk (Kd.R_elder' zq155 (Kd.R_base ho43) hb)
             have n3_ := Aside0.mk (Kd.R_below zq156 hb)
             have n4_ := Aside0.mk (Kd.R_below zq157 hb)
             have n5_ := Aside0.mk (Kd.R_lower (Kd.R_new' (Kd.R_new' ho43 (Kd.R_lt zq154)) (Kd.R_lt zq155)) (below_size zq83))
             have n6_ := Aside0.mk (blk_below (g := gb624) (o := .cells #[.int .i64 a0_0, .slice A0_1 l0_1.length c0_1, .slice A0_2 l0_2.length c0_2, .slice A0_3 l0_3.length c0_3, .slice A0_4 l0_4.length c0_4, .slice A0_5 l0_5.length c0_5] 30 (0, 0)) zq116 hb)
             have n7_ := Aside0.mk (blk_below (g := gb643) (o := .cells #[.int .i64 t627, .slice Ao33 t628.length co33, .slice Ao34 t631.length co34, .slice Ao35 t634.length co35, .slice Ao36 t637.length co36, .slice Ao37 t640.length co37] 30 (0, 0)) zq117 hb)
             have n8_ := Aside0.mk (below_step zq83 hb)
             clear HO630
             clear HO633
             clear HO636
             clear HO639
             clear HO642
             clear BK624
             clear BK643
             clear HB
             have HO630 := n0_
             have HO633 := n1_
             have HO636 := n2_
             have HO639 := n3_
             have HO642 := n4_
             have HO646 := n5_
             have BK624 := n6_
             have BK643 := n7_
             have HB := n8_
             clear n0_ n1_ n2_ n3_ n4_ n5_ n6_ n7_ n8_
             clear hb ho43
             refine hK.out _ _ ⟨(blk_cell BK624.out 0).trans rfl, (blk_cell BK624.out 1).trans rfl, (blk_cell BK624.out 2).trans rfl, (blk_cell BK624.out 3).trans rfl, (blk_cell BK624.out 4).trans rfl, (blk_cell BK624.out 5).trans rfl⟩ (fun hHeld => ?_)
             clear hK K
             refine norm_ (a' := ?_) ?_ ?_
             rotate_left
             · show Act.put _ (some 28) _ = _
               simp only [Act.put, List.setIfInBounds_toArray, List.set_cons_zero, List.set_cons_succ, i64_w, i32_w]
               rfl
             refine one_ (i := 5) (N := some 33) #[yY,yY,yY,yY,yY,yY,yY,yY,yY,yY,nN,nN,nN] rfl rfl (one_of HT_.out (by kernel_rfl)) (by decide) (fun K hK => ?_)
             refine Kd.R_append_rows_step k56 (w0 := w) w.heap.size (by rfl) (.tmp 28) (.tmp 32) 28 56 (.agg #[(.int .i64 0), (.int .i64 0), (.int .i64 0)]) 24 rfl Try.underlying28 info56 rfl (by decide) (by omega) v645 y644 y647 _ _ _ (fun k_ => some k_ ≠ (.slice Ao34 t631.length co34 : Value).ownBlock ∧ some k_ ≠ (.slice Ao35 t634.length co35 : Value).ownBlock) (fun _ => False) rfl rfl ?aO ?aR (fun _ _ h => h) (fun _ h => h.elim) ?aF ?aB ?aS ?aL ?_
             (case aR => repeat (first | exact (Kd.C_below HR650.out HB.out) | (with_reducible refine Kd.C_alloc ?_ _) | (with_reducible refine Kd.C_drewN ?_ _) | (with_reducible refine Kd.C_drew ?_)))
             (case aB => exact zq70)
             (case aF => exact zq40)
             (case aO => exact (by (with_reducible repeat (first | apply Kd.R_alloc | apply Kd.R_drewN | apply Kd.R_drew)); exact Kd.R_mono HO646.out (fun _ hk => ⟨hk.1.2, hk.2⟩)))
             (case aS => exact zq68)
             (case aL => have := LMc21.out; omega)
             intro v652 w44 ho hb hg hat
             rw [← Ny651.out] at ho
             have n0_ := Aside0.mk (blk_grown (g := gb624) (o := .cells #[.int .i64 a0_0, .slice A0_1 l0_1.length c0_1, .slice A0_2 l0_2.length c0_2, .slice A0_3 l0_3.length c0_3, .slice A0_4 l0_4.length c0_4, .slice A0_5 l0_5.length c0_5] 30 (0, 0)) zq116 hg (Kd.R_ne HO646.out BK624.out (by decide)))
             have n1_ := Aside0.mk (Kd.R_over' zq153 (Kd.R_typed zq158) (by decide) hg)
             have n2_ := Aside0.mk (Kd.R_after (ok := (fun k_ => some k_ ≠ (.slice Ao35 t634.length co35 : Value).ownBlock)) zq154 hg hat)
             have n3_ := Aside0.mk (Kd.R_after (ok := (fun k_ => some k_ ≠ (.slice Ao34 t631.length co34 : Value).ownBlock)) zq155 hg hat)
             have n4_ := Aside0.mk (Kd.R_over' zq156 (Kd.R_typed zq158) (by decide) hg)
             have n5_ := Aside0.mk (Kd.R_over' zq157 (Kd.R_typed zq158) (by decide) hg)
             have n6_ := Aside0.mk (blk_grown (g := gb643) (o := .cells #[.int .i64 t627, .slice Ao33 t628.length co33, .slice Ao34 t631.length co34, .slice Ao35 t634.length co35, .slice Ao36 t637.length co36, .slice Ao37 t640.length co37] 30 (0, 0)) zq117 hg (Kd.R_ne HO646.out BK643.out (by decide)))
             have n7_ := Aside0.mk (hb)
             have n8_ := Aside0.mk (ho)
             clear BK624
             clear HO630
             clear HO633
             clear HO636
             clear HO639
             clear HO642
             clear BK643
             clear HB
             clear HO646
             have BK624 := n0_
             have HO630 := n1_
             have HO633 := n2_
             have HO636 := n3_
             have HO639 := n4_
             have HO642 := n5_
             have BK643 := n6_
             have HB := n7_
             have HO653 := n8_
             clear n0_ n1_ n2_ n3_ n4_ n5_ n6_ n7_ n8_
             clear ho hb hg hat
             refine hK.out _ _ ⟨(blk_cell BK624.out 0).trans rfl, (blk_cell BK624.out 1).trans rfl, (blk_cell BK624.out 2).trans rfl, (blk_cell BK624.out 3).trans rfl, (blk_cell BK624.out 4).trans rfl, (blk_cell BK624.out 5).trans rfl⟩ (fun hHeld => ?_)
             clear hK K
             refine norm_ (a' := ?_) ?_ ?_
             rotate_left
             · show Act.put _ (some 33) _ = _
               simp only [Act.put, List.setIfInBounds_toArray, List.set_cons_zero, List.set_cons_succ, i64_w, i32_w]
               rfl
             refine one_ (i := 10) (N := some 38) #[yY,yY,yY,yY,yY,yY,yY,yY,yY,yY,yY,nN,nN] rfl rfl (one_of HT_.out (by kernel_rfl)) (by decide) (fun K hK => ?_)
             refine Kd.R_append_rows_step k56 (w0 := w) w.heap.size (by rfl) (.tmp 33) (.tmp 37) 28 56 (.agg #[(.int .i64 0), (.int .i64 0), (.int .i64 0)]) 24 rfl Try.underlying28 info56 rfl (by decide) (by omega) v652 y651 y654 _ _ _ (fun k_ => some k_ ≠ (.slice Ao34 t631.length co34 : Value).ownBlock ∧ some k_ ≠ (.slice Ao35 t634.length co35 : Value).ownBlock) (fun _ => False) rfl rfl ?aO ?aR (fun _ _ h => h) (fun _ h => h.elim) ?aF ?aB ?aS ?aL ?_
             (case aR => repeat (first | exact (Kd.C_below HR657.out HB.out) | (with_reducible refine Kd.C_alloc ?_ _) | (with_reducible refine Kd.C_drewN ?_ _) | (with_reducible refine Kd.C_drew ?_)))
             (case aB => exact zq70)
             (case aF => exact zq40)
             (case aO => exact zq159)
             (case aS => exact zq68)
             (case aL => have := LMc24.out; omega)
             intro v659 w45 ho hb hg hat
             rw [← Ny658.out] at ho
             have n0_ := Aside0.mk (blk_grown (g := gb624) (o := .cells #[.int .i64 a0_0, .slice A0_1 l0_1.length c0_1, .slice A0_2 l0_2.length c0_2, .slice A0_3 l0_3.length c0_3, .slice A0_4 l0_4.length c0_4, .slice A0_5 l0_5.length c0_5] 30 (0, 0)) zq116 hg (Kd.R_ne HO653.out BK624.out (by decide)))
             have n1_ := Aside0.mk (Kd.R_over' zq153 (Kd.R_typed zq159) (by decide) hg)
             have n2_ := Aside0.mk (Kd.R_after (ok := (fun k_ => some k_ ≠ (.slice Ao35 t634.length co35 : Value).ownBlock)) zq154 hg hat)
             have n3_ := Aside0.mk (Kd.R_after (ok := (fun k_ => some k_ ≠ (.slice Ao34 t631.length co34 : Value).ownBlock)) zq155 hg hat)
             have n4_ := Aside0.mk (Kd.R_over' zq156 (Kd.R_typed zq159) (by decide) hg)
             have n5_ := Aside0.mk (Kd.R_over' zq157 (Kd.R_typed zq159) (by decide) hg)
             have n6_ := Aside0.mk (blk_grown (g := gb643) (o := .cells #[.int .i64 t627, .slice Ao33 t628.length co33, .slice Ao34 t631.length co34, .slice Ao35 t634.length co35, .slice Ao36 t637.length co36, .slice Ao37 t640.length co37] 30 (0, 0)) zq117 hg (Kd.R_ne HO653.out BK643.out (by decide)))
             have n7_ := Aside0.mk (hb)
             have n8_ := Aside0.mk (ho)
             clear BK624
             clear HO630
             clear HO633
             clear HO636
             clear HO639
             clear HO642
             clear BK643
             clear HB
             clear HO653
             have BK624 := n0_
             have HO630 := n1_
             have HO633 := n2_
             have HO636 := n3_
             have HO639 := n4_
             have HO642 := n5_
             have BK643 := n6_
             have HB := n7_
             have HO660 := n8_
             clear n0_ n1_ n2_ n3_ n4_ n5_ n6_ n7_ n8_
             clear ho hb hg hat
             obtain ⟨Ao46, co46, eo46⟩ := Kd.R_slice HO660.out
             (first | subst eo46 | (injection eo46 with f1_ f2_ f3_; have f4_ := f1_.symm; have f5_ := f3_.symm; clear f1_ f2_ f3_; subst f4_; subst f5_))
             refine hK.out _ _ ⟨(blk_cell BK624.out 0).trans rfl, (blk_cell BK624.out 1).trans rfl, (blk_cell BK624.out 2).trans rfl, (blk_cell BK624.out 3).trans rfl, (blk_cell BK624.out 4).trans rfl, (blk_cell BK624.out 5).trans rfl⟩ (fun hHeld => ?_)
             clear hK K
             refine norm_ (a' := ?_) ?_ ?_
             rotate_left
             · show Act.put _ (some 38) _ = _
               simp only [Act.put, List.setIfInBounds_toArray, List.set_cons_zero, List.set_cons_succ, i64_w, i32_w]
               rfl
             refine pz 11 39 #[yY,yY,yY,yY,yY,yY,yY,yY,yY,yY,yY,yY,nN] (h := ?_)
             refine one_ (i := 12) (N := none) #[yY,yY,yY,yY,yY,yY,yY,yY,yY,yY,yY,yY,yY] rfl rfl (one_of HT_.out (by kernel_rfl)) (by decide) (fun K hK => ?_)
             have hs47 : w45.cell? ⟨gb643, 3, none⟩ = some (.slice Ao35 t634.length co35) := (blk_cell BK643.out 3).trans rfl
             have hfs47 := blk_frozen BK643.out 3
             have hns47_0 := NB624_643.out
             have hms47_0 := NB643_624.out
             refine skip_ (w1 := ?_) (by rfl) rfl ?_ ?_
             rotate_left
             · go_simp
               rfl
             refine hK.out _ _ ⟨((cell_far (p := ⟨gb643, _, none⟩) NB624_643.out _).trans (hHeld.1)), ((cell_far (p := ⟨gb643, _, none⟩) NB624_643.out _).trans (hHeld.2.1)), ((cell_far (p := ⟨gb643, _, none⟩) NB624_643.out _).trans (hHeld.2.2.1)), ((cell_far (p := ⟨gb643, _, none⟩) NB624_643.out _).trans (hHeld.2.2.2.1)), ((cell_far (p := ⟨gb643, _, none⟩) NB624_643.out _).trans (hHeld.2.2.2.2.1)), ((cell_far (p := ⟨gb643, _, none⟩) NB624_643.out _).trans (hHeld.2.2.2.2.2))⟩ (fun hHeld => ?_)
             clear hK K
             refine done_ (done_of HT_.out (by kernel_rfl)) ?_
             obtain ⟨b48_0, b48_1, b48_2, b48_3, b48_4, b48_5, d48_0, d48_1, d48_2, d48_3, d48_4, d48_5⟩ := bk6 BK624.out
             go_upto_region 7 with (first | ((with_reducible refine gate_callee (f := 16) rfl ?_); refine goesL_ (some 42) rfl rfl Try.func16 (by kernel_rfl) rfl #[.agg #[.int .i64 a0_0, .slice A0_1 l0_1.length c0_1, .slice A0_2 l0_2.length c0_2, .slice A0_3 l0_3.length c0_3, .slice A0_4 l0_4.length c0_4, .slice A0_5 l0_5.length c0_5]] rfl zq106 ?_; (with_reducible refine (order_Circuit.calls a0_0 _ _ l0_1 _ _ l0_2 _ _ l0_3 _ _ l0_4 _ _ l0_5 t661 t662 t665 t668 t671 t674 t677 _ ?side1 ?side2 ?side3 ?side4 ?side5 ?side6 ?side7 ?side8 ?side9 ?side10 A25.out).mono ?_); (case side1 => exact Kd.C_below HR0_1.out zq83); (case side2 => exact HC0_1.out); (case side3 => exact Kd.C_below HR0_2.out zq83); (case side4 => exact HC0_2.out); (case side5 => exact Kd.C_below HR0_3.out zq83); (case side6 => exact HC0_3.out); (case side7 => exact Kd.C_below HR0_4.out zq83); (case side8 => exact HC0_4.out); (case side9 => exact Kd.C_below HR0_5.out zq83); (case side10 => exact HC0_5.out); rintro e w49 ⟨v663, v666, v669, v672, v675, rfl, ho0, ho1, ho2, ho3, ho4, hb⟩; refine ⟨_, rfl, ?_⟩; have n0_ := Aside0.mk (Kd.R_mono (Kd.R_told (Kd.R_told (Kd.R_told (Kd.R_old zq57 hb) (Kd.R_base ho2)) (Kd.R_base ho3)) (Kd.R_base ho4)) (fun _ h_ => h_.1)); have n1_ := Aside0.mk (Kd.R_below (by (with_reducible repeat (first | apply Kd.R_alloc | apply Kd.R_drewN | apply Kd.R_drew)); exact (Kd.R_mono (Kd.R_far (p := ⟨gb643, 3, none⟩) (Kd.R_types HO633.out BK643.out (by decide)) (fun _ hk => by first | exact hk.2 | exact hk) (.slice Ao46 y658.length co46)) (fun _ h_ => h_.1))) hb); have n2_ := Aside0.mk (Kd.R_below (by (with_reducible repeat (first | apply Kd.R_alloc | apply Kd.R_drewN | apply Kd.R_drew)); exact (Kd.R_mono (Kd.R_far (p := ⟨gb643, 3, none⟩) (Kd.R_types HO636.out BK643.out (by decide)) (fun _ hk => by first | exact hk.2 | exact hk) (.slice Ao46 y658.length co46)) (fun _ h_ => h_.1))) hb); have n3_ := Aside0.mk (Kd.R_mono (Kd.R_told (Kd.R_told (Kd.R_told (Kd.R_old zq58 hb) (Kd.R_base ho2)) (Kd.R_base ho3)) (Kd.R_base ho4)) (fun _ h_ => h_.1)); have n4_ := Aside0.mk (Kd.R_mono (Kd.R_told (Kd.R_told (Kd.R_told (Kd.R_old zq59 hb) (Kd.R_base ho2)) (Kd.R_base ho3)) (Kd.R_base ho4)) (fun _ h_ => h_.1)); have n5_ := Aside0.mk (Kd.R_below (by (with_reducible repeat (first | apply Kd.R_alloc | apply Kd.R_drewN | apply Kd.R_drew)); exact (Kd.R_mono (Kd.R_far (p := ⟨gb643, 3, none⟩) (Kd.R_types HO660.out BK643.out (by decide)) (fun _ hk => by first | exact hk.2 | exact hk) (.slice Ao46 y658.length co46)) (fun _ h_ => h_.1))) hb); have n6_ := Aside0.mk (Kd.R_lower ho0 (below_size zq83)); have n7_ := Aside0.mk (Kd.R_lower ho1 (below_size zq83)); have n8_ := Aside0.mk (Kd.R_lower (Kd.R_new' (Kd.R_new' (Kd.R_new' ho2 (Kd.R_lt zq57)) (Kd.R_lt zq58)) (Kd.R_lt zq59)) (below_size zq83)); have n9_ := Aside0.mk (Kd.R_lower (Kd.R_new' (Kd.R_new' (Kd.R_new' ho3 (Kd.R_lt zq57)) (Kd.R_lt zq58)) (Kd.R_lt zq59)) (below_size zq83)); have n10_ := Aside0.mk (Kd.R_lower (Kd.R_new' (Kd.R_new' (Kd.R_new' ho4 (Kd.R_lt zq57)) (Kd.R_lt zq58)) (Kd.R_lt zq59)) (below_size zq83)); have n11_ := Aside0.mk (blk_below (g := gb624) (o := .cells #[.int .i64 a0_0, .slice A0_1 l0_1.length c0_1, .slice A0_2 l0_2.length c0_2, .slice A0_3 l0_3.length c0_3, .slice A0_4 l0_4.length c0_4, .slice A0_5 l0_5.length c0_5] 30 (0, 0)) (by (with_reducible repeat (first | refine blk_drewN ?_ _ | refine blk_drew ?_ | refine blk_alloc ?_ _)); refine blk_far ?_ NB624_643.out _; (with_reducible repeat (first | refine blk_drewN ?_ _ | refine blk_drew ?_ | refine blk_alloc ?_ _)); exact BK624.out) hb); have n12_ := Aside0.mk (blk_below (g := gb643) (o := .cells #[.int .i64 t627, .slice Ao33 t628.length co33, .slice Ao34 t631.length co34, .slice Ao46 y658.length co46, .slice Ao36 t637.length co36, .slice Ao37 t640.length co37] 30 (0, 0)) (by (with_reducible repeat (first | refine blk_drewN ?_ _ | refine blk_drew ?_ | refine blk_alloc ?_ _)); refine blk_put (cs := #[.int .i64 t627, .slice Ao33 t628.length co33, .slice Ao34 t631.length co34, .slice Ao35 t634.length co35, .slice Ao36 t637.length co36, .slice Ao37 t640.length co37]) ?_ 3 _ rfl; (with_reducible repeat (first | refine blk_drewN ?_ _ | refine blk_drew ?_ | refine blk_alloc ?_ _)); exact BK643.out) hb); have n13_ := Aside0.mk (below_step zq83 hb); clear HO630; clear HO633; clear HO636; clear HO639; clear HO642; clear HO660; clear BK624; clear BK643; clear HB; have HO630 := n0_; have HO633 := n1_; have HO636 := n2_; have HO639 := n3_; have HO642 := n4_; have HO660 := n5_; have HO664 := n6_; have HO667 := n7_; have HO670 := n8_; have HO673 := n9_; have HO676 := n10_; have BK624 := n11_; have BK643 := n12_; have HB := n13_; clear n0_ n1_ n2_ n3_ n4_ n5_ n6_ n7_ n8_ n9_ n10_ n11_ n12_ n13_; (try clear hb); (try clear hb2); (try clear hk); (try clear hi); (try clear ho0); (try clear ho1); (try clear ho2); (try clear ho3); (try clear ho4)) | ((with_reducible refine gate_dst (N := 6) rfl ?_); (try (refine gate_guard (by rfl) ?_; dsimp only)); refine box_event ?hg (N := 6) ?hd (cs := #[.int .i64 0, .slice none 0 0, .slice none 0 0, .slice none 0 0, .slice none 0 0]) (t := 26) ?hr ?_; (case hd => rfl); (case hg => rfl); (case hr => first | (go_simp; done) | (go_simp; rfl)); intro gb678 hg w50 hbox hb; have n0_ := Aside0.mk (Kd.R_below zq153 hb); have n1_ := Aside0.mk (Kd.R_below zq154 hb); have n2_ := Aside0.mk (Kd.R_below zq155 hb); have n3_ := Aside0.mk (Kd.R_below zq156 hb); have n4_ := Aside0.mk (Kd.R_below zq157 hb); have n5_ := Aside0.mk (Kd.R_below zq160 hb); have n6_ := Aside0.mk (Kd.R_below zq161 hb); have n7_ := Aside0.mk (Kd.R_below zq162 hb); have n8_ := Aside0.mk (Kd.R_below zq163 hb); have n9_ := Aside0.mk (Kd.R_below zq164 hb); have n10_ := Aside0.mk (Kd.R_below zq165 hb); have n11_ := Aside0.mk (blk_below (g := gb624) (o := .cells #[.int .i64 a0_0, .slice A0_1 l0_1.length c0_1, .slice A0_2 l0_2.length c0_2, .slice A0_3 l0_3.length c0_3, .slice A0_4 l0_4.length c0_4, .slice A0_5 l0_5.length c0_5] 30 (0, 0)) zq116 hb); have n12_ := Aside0.mk (blk_below (g := gb643) (o := .cells #[.int .i64 t627, .slice Ao33 t628.length co33, .slice Ao34 t631.length co34, .slice Ao46 y658.length co46, .slice Ao36 t637.length co36, .slice Ao37 t640.length co37] 30 (0, 0)) zq117 hb); have n13_ := Aside0.mk (below_step zq83 hb); have n14_ := Aside0.mk (hbox); have n15_ := Aside0.mk ((zq65 : w.heap.size ≤ gb678)); have n16_ := Aside0.mk ((zq65 : w.heap.size ≤ gb678)); have n17_ := Aside0.mk ((zq33 : gb624 ≠ gb678)); have n18_ := Aside0.mk ((zq31 : gb678 ≠ gb624)); have n19_ := Aside0.mk ((zq34 : gb643 ≠ gb678)); have n20_ := Aside0.mk ((zq32 : gb678 ≠ gb643)); clear HO630; clear HO633; clear HO636; clear HO639; clear HO642; clear HO660; clear HO664; clear HO667; clear HO670; clear HO673; clear HO676; clear BK624; clear BK643; clear HB; have HO630 := n0_; have HO633 := n1_; have HO636 := n2_; have HO639 := n3_; have HO642 := n4_; have HO660 := n5_; have HO664 := n6_; have HO667 := n7_; have HO670 := n8_; have HO673 := n9_; have HO676 := n10_; have BK624 := n11_; have BK643 := n12_; have HB := n13_; have BK678 := n14_; have GW678 := n15_; have GE678 := n16_; have NB624_678 := n17_; have NB678_624 := n18_; have NB643_678 := n19_; have NB678_643 := n20_; clear n0_ n1_ n2_ n3_ n4_ n5_ n6_ n7_ n8_ n9_ n10_ n11_ n12_ n13_ n14_ n15_ n16_ n17_ n18_ n19_ n20_; clear hb hbox hg; have hnb51 := NB678_624.out; have hnc51 := NB624_678.out; have hnb52 := NB678_643.out; have hnc52 := NB643_678.out; obtain ⟨b53_0, b53_1, b53_2, b53_3, b53_4, d53_0, d53_1, d53_2, d53_3, d53_4⟩ := bk5 BK678.out; obtain ⟨Ao54, co54, eo54⟩ := Kd.R_slice HO664.out; subst eo54; obtain ⟨Ao55, co55, eo55⟩ := Kd.R_slice HO667.out; subst eo55; obtain ⟨Ao56, co56, eo56⟩ := Kd.R_slice HO670.out; subst eo56; obtain ⟨Ao57, co57, eo57⟩ := Kd.R_slice HO673.out; subst eo57; obtain ⟨b58_0, b58_1, b58_2, b58_3, b58_4, b58_5, d58_0, d58_1, d58_2, d58_3, d58_4, d58_5⟩ := bk6 BK643.out) | ((with_reducible refine gate_callee (f := 16) rfl ?_); refine goesL_ (some 48) rfl rfl Try.func16 (by kernel_rfl) rfl #[.agg #[.int .i64 t627, .slice Ao33 t628.length co33, .slice Ao34 t631.length co34, .slice Ao46 y658.length co46, .slice Ao36 t637.length co36, .slice Ao37 t640.length co37]] rfl zq106 ?_; (with_reducible refine (order_Circuit.calls t627 _ _ t628 _ _ t631 _ _ y658 _ _ t637 _ _ t640 t679 t680 t683 t686 t689 t692 t695 _ ?side1 ?side2 ?side3 ?side4 ?side5 ?side6 ?side7 ?side8 ?side9 ?side10 A26.out).mono ?_); (case side1 => refine (Kd.R_reads' (e := 3) (base := w.heap.size) (ok := fun k_ => ((((some k_ ≠ (.slice Ao36 t637.length co36 : Value).ownBlock ∧ some k_ ≠ (.slice Ao37 t640.length co37 : Value).ownBlock) ∧ some k_ ≠ (.slice Ao56 t668.length co56 : Value).ownBlock) ∧ some k_ ≠ (.slice Ao57 t671.length co57 : Value).ownBlock) ∧ some k_ ≠ (v675 : Value).ownBlock)) (n := t628.length) (c := co33) ?_).2.2; exact zq13); (case side2 => exact (Kd.R_reads' HO630.out).2.1); (case side3 => refine (Kd.R_reads' (e := 56) (base := w.heap.size) (ok := fun k_ => (some k_ ≠ (.slice Ao35 t634.length co35 : Value).ownBlock ∧ some k_ ≠ (.slice Ao46 y658.length co46 : Value).ownBlock)) (n := t631.length) (c := co34) ?_).2.2; exact zq14); (case side4 => exact (Kd.R_reads' HO633.out).2.1); (case side5 => refine (Kd.R_reads' (e := 56) (base := w.heap.size) (ok := fun k_ => (some k_ ≠ (.slice Ao34 t631.length co34 : Value).ownBlock ∧ some k_ ≠ (.slice Ao35 t634.length co35 : Value).ownBlock)) (n := y658.length) (c := co46) ?_).2.2; exact zq17); (case side6 => exact (Kd.R_reads' HO660.out).2.1); (case side7 => refine (Kd.R_reads' (e := 3) (base := w.heap.size) (ok := fun k_ => ((((some k_ ≠ (.slice Ao33 t628.length co33 : Value).ownBlock ∧ some k_ ≠ (.slice Ao37 t640.length co37 : Value).ownBlock) ∧ some k_ ≠ (.slice Ao56 t668.length co56 : Value).ownBlock) ∧ some k_ ≠ (.slice Ao57 t671.length co57 : Value).ownBlock) ∧ some k_ ≠ (v675 : Value).ownBlock)) (n := t637.length) (c := co36) ?_).2.2; exact zq15); (case side8 => exact (Kd.R_reads' HO639.out).2.1); (case side9 => refine (Kd.R_reads' (e := 3) (base := w.heap.size) (ok := fun k_ => ((((some k_ ≠ (.slice Ao33 t628.length co33 : Value).ownBlock ∧ some k_ ≠ (.slice Ao36 t637.length co36 : Value).ownBlock) ∧ some k_ ≠ (.slice Ao56 t668.length co56 : Value).ownBlock) ∧ some k_ ≠ (.slice Ao57 t671.length co57 : Value).ownBlock) ∧ some k_ ≠ (v675 : Value).ownBlock)) (n := t640.length) (c := co37) ?_).2.2; exact zq16); (case side10 => exact (Kd.R_reads' HO642.out).2.1); rintro e w59 ⟨v681, v684, v687, v690, v693, rfl, ho0, ho1, ho2, ho3, ho4, hb⟩; refine ⟨_, rfl, ?_⟩; have n0_ := Aside0.mk (Kd.R_mono (Kd.R_told (Kd.R_told (Kd.R_told (Kd.R_old zq13 hb) (Kd.R_base ho2)) (Kd.R_base ho3)) (Kd.R_base ho4)) (fun _ h_ => h_.1)); have n1_ := Aside0.mk (Kd.R_below zq14 hb); have n2_ := Aside0.mk (Kd.R_below (by (with_reducible repeat (first | apply Kd.R_alloc | apply Kd.R_drewN | apply Kd.R_drew)); exact (Kd.R_mono (Kd.R_far (p := ⟨gb678, 4, none⟩) (Kd.R_far (p := ⟨gb678, 3, none⟩) (Kd.R_far (p := ⟨gb678, 2, none⟩) (Kd.R_far (p := ⟨gb678, 1, none⟩) (Kd.R_far (p := ⟨gb678, 0, none⟩) (Kd.R_types HO636.out BK678.out (by decide)) (fun _ hk => by first | exact hk.2 | exact hk) (.int .i64 t661)) (fun _ hk => by first | exact hk.2 | exact hk) (.slice Ao54 t662.length co54)) (fun _ hk => by first | exact hk.2 | exact hk) (.slice Ao55 t665.length co55)) (fun _ hk => by first | exact hk.2 | exact hk) (.slice Ao56 t668.length co56)) (fun _ hk => by first | exact hk.2 | exact hk) (.slice Ao57 t671.length co57)) (fun _ h_ => h_.1))) hb); have n3_ := Aside0.mk (Kd.R_mono (Kd.R_told (Kd.R_told (Kd.R_told (Kd.R_old zq15 hb) (Kd.R_base ho2)) (Kd.R_base ho3)) (Kd.R_base ho4)) (fun _ h_ => h_.1)); have n4_ := Aside0.mk (Kd.R_mono (Kd.R_told (Kd.R_told (Kd.R_told (Kd.R_old zq16 hb) (Kd.R_base ho2)) (Kd.R_base ho3)) (Kd.R_base ho4)) (fun _ h_ => h_.1)); have n5_ := Aside0.mk (Kd.R_below zq17 hb); have n6_ := Aside0.mk (Kd.R_elder' zq18 (Kd.R_base ho0) hb); have n7_ := Aside0.mk (Kd.R_elder' zq19 (Kd.R_base ho1) hb); have n8_ := Aside0.mk (Kd.R_mono (Kd.R_told (Kd.R_told (Kd.R_told (Kd.R_old zq20 hb) (Kd.R_base ho2)) (Kd.R_base ho3)) (Kd.R_base ho4)) (fun _ h_ => h_.1)); have n9_ := Aside0.mk (Kd.R_mono (Kd.R_told (Kd.R_told (Kd.R_told (Kd.R_old zq21 hb) (Kd.R_base ho2)) (Kd.R_base ho3)) (Kd.R_base ho4)) (fun _ h_ => h_.1)); have n10_ := Aside0.mk (Kd.R_mono (Kd.R_told (Kd.R_told (Kd.R_told (Kd.R_old zq22 hb) (Kd.R_base ho2)) (Kd.R_base ho3)) (Kd.R_base ho4)) (fun _ h_ => h_.1)); have n11_ := Aside0.mk (Kd.R_lower (Kd.R_new' ho0 (Kd.R_lt zq18)) (below_size zq66)); have n12_ := Aside0.mk (Kd.R_lower (Kd.R_new' ho1 (Kd.R_lt zq19)) (below_size zq66)); have n13_ := Aside0.mk (Kd.R_lower (Kd.R_new' (Kd.R_new' (Kd.R_new' (Kd.R_new' (Kd.R_new' (Kd.R_new' ho2 (Kd.R_lt zq13)) (Kd.R_lt zq15)) (Kd.R_lt zq16)) (Kd.R_lt zq20)) (Kd.R_lt zq21)) (Kd.R_lt zq22)) (below_size zq66)); have n14_ := Aside0.mk (Kd.R_lower (Kd.R_new' (Kd.R_new' (Kd.R_new' (Kd.R_new' (Kd.R_new' (Kd.R_new' ho3 (Kd.R_lt zq13)) (Kd.R_lt zq15)) (Kd.R_lt zq16)) (Kd.R_lt zq20)) (Kd.R_lt zq21)) (Kd.R_lt zq22)) (below_size zq66)); have n15_ := Aside0.mk (Kd.R_lower (Kd.R_new' (Kd.R_new' (Kd.R_new' (Kd.R_new' (Kd.R_new' (Kd.R_new' ho4 (Kd.R_lt zq13)) (Kd.R_lt zq15)) (Kd.R_lt zq16)) (Kd.R_lt zq20)) (Kd.R_lt zq21)) (Kd.R_lt zq22)) (below_size zq66)); have n16_ := Aside0.mk (blk_below (g := gb624) (o := .cells #[.int .i64 a0_0, .slice A0_1 l0_1.length c0_1, .slice A0_2 l0_2.length c0_2, .slice A0_3 l0_3.length c0_3, .slice A0_4 l0_4.length c0_4, .slice A0_5 l0_5.length c0_5] 30 (0, 0)) (by (with_reducible repeat (first | refine blk_drewN ?_ _ | refine blk_drew ?_ | refine blk_alloc ?_ _)); refine blk_far ?_ NB624_678.out _; (with_reducible repeat (first | refine blk_drewN ?_ _ | refine blk_drew ?_ | refine blk_alloc ?_ _)); refine blk_far ?_ NB624_678.out _; (with_reducible repeat (first | refine blk_drewN ?_ _ | refine blk_drew ?_ | refine blk_alloc ?_ _)); refine blk_far ?_ NB624_678.out _; (with_reducible repeat (first | refine blk_drewN ?_ _ | refine blk_drew ?_ | refine blk_alloc ?_ _)); refine blk_far ?_ NB624_678.out _; (with_reducible repeat (first | refine blk_drewN ?_ _ | refine blk_drew ?_ | refine blk_alloc ?_ _)); refine blk_far ?_ NB624_678.out _; (with_reducible repeat (first | refine blk_drewN ?_ _ | refine blk_drew ?_ | refine blk_alloc ?_ _)); exact BK624.out) hb); have n17_ := Aside0.mk (blk_below (g := gb643) (o := .cells #[.int .i64 t627, .slice Ao33 t628.length co33, .slice Ao34 t631.length co34, .slice Ao46 y658.length co46, .slice Ao36 t637.length co36, .slice Ao37 t640.length co37] 30 (0, 0)) (by (with_reducible repeat (first | refine blk_drewN ?_ _ | refine blk_drew ?_ | refine blk_alloc ?_ _)); refine blk_far ?_ NB643_678.out _; (with_reducible repeat (first | refine blk_drewN ?_ _ | refine blk_drew ?_ | refine blk_alloc ?_ _)); refine blk_far ?_ NB643_678.out _; (with_reducible repeat (first | refine blk_drewN ?_ _ | refine blk_drew ?_ | refine blk_alloc ?_ _)); refine blk_far ?_ NB643_678.out _; (with_reducible repeat (first | refine blk_drewN ?_ _ | refine blk_drew ?_ | refine blk_alloc ?_ _)); refine blk_far ?_ NB643_678.out _; (with_reducible repeat (first | refine blk_drewN ?_ _ | refine blk_drew ?_ | refine blk_alloc ?_ _)); refine blk_far ?_ NB643_678.out _; (with_reducible repeat (first | refine blk_drewN ?_ _ | refine blk_drew ?_ | refine blk_alloc ?_ _)); exact BK643.out) hb); have n18_ := Aside0.mk (blk_below (g := gb678) (o := .cells #[.int .i64 t661, .slice Ao54 t662.length co54, .slice Ao55 t665.length co55, .slice Ao56 t668.length co56, .slice Ao57 t671.length co57] 26 (0, 0)) (by (with_reducible repeat (first | refine blk_drewN ?_ _ | refine blk_drew ?_ | refine blk_alloc ?_ _)); refine blk_put (cs := #[.int .i64 t661, .slice Ao54 t662.length co54, .slice Ao55 t665.length co55, .slice Ao56 t668.length co56, .slice none 0 0]) ?_ 4 _ rfl; (with_reducible repeat (first | refine blk_drewN ?_ _ | refine blk_drew ?_ | refine blk_alloc ?_ _)); refine blk_put (cs := #[.int .i64 t661, .slice Ao54 t662.length co54, .slice Ao55 t665.length co55, .slice none 0 0, .slice none 0 0]) ?_ 3 _ rfl; (with_reducible repeat (first | refine blk_drewN ?_ _ | refine blk_drew ?_ | refine blk_alloc ?_ _)); refine blk_put (cs := #[.int .i64 t661, .slice Ao54 t662.length co54, .slice none 0 0, .slice none 0 0, .slice none 0 0]) ?_ 2 _ rfl; (with_reducible repeat (first | refine blk_drewN ?_ _ | refine blk_drew ?_ | refine blk_alloc ?_ _)); refine blk_put (cs := #[.int .i64 t661, .slice none 0 0, .slice none 0 0, .slice none 0 0, .slice none 0 0]) ?_ 1 _ rfl; (with_reducible repeat (first | refine blk_drewN ?_ _ | refine blk_drew ?_ | refine blk_alloc ?_ _)); refine blk_put (cs := #[.int .i64 0, .slice none 0 0, .slice none 0 0, .slice none 0 0, .slice none 0 0]) ?_ 0 _ rfl; (with_reducible repeat (first | refine blk_drewN ?_ _ | refine blk_drew ?_ | refine blk_alloc ?_ _)); exact BK678.out) hb); have n19_ := Aside0.mk (below_step zq66 hb); clear HO630; clear HO633; clear HO636; clear HO639; clear HO642; clear HO660; clear HO664; clear HO667; clear HO670; clear HO673; clear HO676; clear BK624; clear BK643; clear BK678; clear HB; have HO630 := n0_; have HO633 := n1_; have HO636 := n2_; have HO639 := n3_; have HO642 := n4_; have HO660 := n5_; have HO664 := n6_; have HO667 := n7_; have HO670 := n8_; have HO673 := n9_; have HO676 := n10_; have HO682 := n11_; have HO685 := n12_; have HO688 := n13_; have HO691 := n14_; have HO694 := n15_; have BK624 := n16_; have BK643 := n17_; have BK678 := n18_; have HB := n19_; clear n0_ n1_ n2_ n3_ n4_ n5_ n6_ n7_ n8_ n9_ n10_ n11_ n12_ n13_ n14_ n15_ n16_ n17_ n18_ n19_; (try clear hb); (try clear hb2); (try clear hk); (try clear hi); (try clear ho0); (try clear ho1); (try clear ho2); (try clear ho3); (try clear ho4)) | ((with_reducible refine gate_dst (N := 9) rfl ?_); (try (refine gate_guard (by rfl) ?_; dsimp only)); refine box_event ?hg (N := 9) ?hd (cs := #[.int .i64 0, .slice none 0 0, .slice none 0 0, .slice none 0 0, .slice none 0 0]) (t := 26) ?hr ?_; (case hd => rfl); (case hg => rfl); (case hr => first | (go_simp; done) | (go_simp; rfl)); intro gb696 hg w60 hbox hb; have n0_ := Aside0.mk (Kd.R_below zq153 hb); have n1_ := Aside0.mk (Kd.R_below zq154 hb); have n2_ := Aside0.mk (Kd.R_below zq155 hb); have n3_ := Aside0.mk (Kd.R_below zq156 hb); have n4_ := Aside0.mk (Kd.R_below zq157 hb); have n5_ := Aside0.mk (Kd.R_below zq160 hb); have n6_ := Aside0.mk (Kd.R_below zq161 hb); have n7_ := Aside0.mk (Kd.R_below zq162 hb); have n8_ := Aside0.mk (Kd.R_below zq163 hb); have n9_ := Aside0.mk (Kd.R_below zq164 hb); have n10_ := Aside0.mk (Kd.R_below zq165 hb); have n11_ := Aside0.mk (Kd.R_below (by (with_reducible repeat (first | apply Kd.R_alloc | apply Kd.R_drewN | apply Kd.R_drew)); exact HO682.out) hb); have n12_ := Aside0.mk (Kd.R_below (by (with_reducible repeat (first | apply Kd.R_alloc | apply Kd.R_drewN | apply Kd.R_drew)); exact HO685.out) hb); have n13_ := Aside0.mk (Kd.R_below (by (with_reducible repeat (first | apply Kd.R_alloc | apply Kd.R_drewN | apply Kd.R_drew)); exact HO688.out) hb); have n14_ := Aside0.mk (Kd.R_below (by (with_reducible repeat (first | apply Kd.R_alloc | apply Kd.R_drewN | apply Kd.R_drew)); exact HO691.out) hb); have n15_ := Aside0.mk (Kd.R_below (by (with_reducible repeat (first | apply Kd.R_alloc | apply Kd.R_drewN | apply Kd.R_drew)); exact HO694.out) hb); have n16_ := Aside0.mk (blk_below (g := gb624) (o := .cells #[.int .i64 a0_0, .slice A0_1 l0_1.length c0_1, .slice A0_2 l0_2.length c0_2, .slice A0_3 l0_3.length c0_3, .slice A0_4 l0_4.length c0_4, .slice A0_5 l0_5.length c0_5] 30 (0, 0)) zq116 hb); have n17_ := Aside0.mk (blk_below (g := gb643) (o := .cells #[.int .i64 t627, .slice Ao33 t628.length co33, .slice Ao34 t631.length co34, .slice Ao46 y658.length co46, .slice Ao36 t637.length co36, .slice Ao37 t640.length co37] 30 (0, 0)) zq117 hb); have n18_ := Aside0.mk (blk_below (g := gb678) (o := .cells #[.int .i64 t661, .slice Ao54 t662.length co54, .slice Ao55 t665.length co55, .slice Ao56 t668.length co56, .slice Ao57 t671.length co57] 26 (0, 0)) zq118 hb); have n19_ := Aside0.mk (below_step zq66 hb); have n20_ := Aside0.mk (hbox); have n21_ := Aside0.mk ((zq60 : w.heap.size ≤ gb696)); have n22_ := Aside0.mk ((zq60 : w.heap.size ≤ gb696)); have n23_ := Aside0.mk ((zq33 : gb624 ≠ gb696)); have n24_ := Aside0.mk ((zq31 : gb696 ≠ gb624)); have n25_ := Aside0.mk ((zq34 : gb643 ≠ gb696)); have n26_ := Aside0.mk ((zq32 : gb696 ≠ gb643)); have n27_ := Aside0.mk ((by rw [hg]; exact Nat.ne_of_lt (blk_lt (g := gb678) (o := .cells #[.int .i64 t661, .slice Ao54 t662.length co54, .slice Ao55 t665.length co55, .slice Ao56 t668.length co56, .slice Ao57 t671.length co57] 26 (0, 0)) zq118) : gb678 ≠ gb696)); have n28_ := Aside0.mk ((by rw [hg]; exact Nat.ne_of_gt (blk_lt (g := gb678) (o := .cells #[.int .i64 t661, .slice Ao54 t662.length co54, .slice Ao55 t665.length co55, .slice Ao56 t668.length co56, .slice Ao57 t671.length co57] 26 (0, 0)) zq118) : gb696 ≠ gb678)); clear HO630; clear HO633; clear HO636; clear HO639; clear HO642; clear HO660; clear HO664; clear HO667; clear HO670; clear HO673; clear HO676; clear HO682; clear HO685; clear HO688; clear HO691; clear HO694; clear BK624; clear BK643; clear BK678; clear HB; have HO630 := n0_; have HO633 := n1_; have HO636 := n2_; have HO639 := n3_; have HO642 := n4_; have HO660 := n5_; have HO664 := n6_; have HO667 := n7_; have HO670 := n8_; have HO673 := n9_; have HO676 := n10_; have HO682 := n11_; have HO685 := n12_; have HO688 := n13_; have HO691 := n14_; have HO694 := n15_; have BK624 := n16_; have BK643 := n17_; have BK678 := n18_; have HB := n19_; have BK696 := n20_; have GW696 := n21_; have GE696 := n22_; have NB624_696 := n23_; have NB696_624 := n24_; have NB643_696 := n25_; have NB696_643 := n26_; have NB678_696 := n27_; have NB696_678 := n28_; clear n0_ n1_ n2_ n3_ n4_ n5_ n6_ n7_ n8_ n9_ n10_ n11_ n12_ n13_ n14_ n15_ n16_ n17_ n18_ n19_ n20_ n21_ n22_ n23_ n24_ n25_ n26_ n27_ n28_; clear hb hbox hg; have hnb61 := NB696_624.out; have hnc61 := NB624_696.out; have hnb62 := NB696_643.out; have hnc62 := NB643_696.out; have hnb63 := NB696_678.out; have hnc63 := NB678_696.out; obtain ⟨b64_0, b64_1, b64_2, b64_3, b64_4, d64_0, d64_1, d64_2, d64_3, d64_4⟩ := bk5 BK696.out; obtain ⟨Ao65, co65, eo65⟩ := Kd.R_slice HO682.out; subst eo65; obtain ⟨Ao66, co66, eo66⟩ := Kd.R_slice HO685.out; subst eo66; obtain ⟨Ao67, co67, eo67⟩ := Kd.R_slice HO688.out; subst eo67; obtain ⟨Ao68, co68, eo68⟩ := Kd.R_slice HO691.out; subst eo68))
             (try simp only [Act.put, List.setIfInBounds_toArray, List.set_cons_zero, List.set_cons_succ])
             go_cut [60] (fun v60 wc => ∃ (kq : Nat) (x60_26 : Bool), v60 = .bool x60_26 ∧ Aside0 (l3_OrderTurned.j1 kq t677 x60_26 t661 t662 t665 t668 t671 t679 t680 t683 t686 t689 = some true) ∧ Aside0 (kq ≤ kj2) ∧ Aside0 (Kd.R (Kd.int .i64) 3 wc w.heap.size (fun k_ => some k_ ≠ ((.slice Ao36 t637.length co36) : Value).ownBlock ∧ some k_ ≠ ((.slice Ao37 t640.length co37) : Value).ownBlock ∧ some k_ ≠ ((.slice Ao56 t668.length co56) : Value).ownBlock ∧ some k_ ≠ ((.slice Ao57 t671.length co57) : Value).ownBlock ∧ some k_ ≠ ((.slice Ao67 t686.length co67) : Value).ownBlock ∧ some k_ ≠ ((.slice Ao68 t689.length co68) : Value).ownBlock) (.slice Ao33 t628.length co33) t628) ∧ Aside0 (Kd.R k56 56 wc w.heap.size (fun k_ => some k_ ≠ ((.slice Ao46 y658.length co46) : Value).ownBlock) (.slice Ao34 t631.length co34) t631) ∧ Aside0 (Kd.R k56 56 wc w.heap.size (fun k_ => some k_ ≠ ((.slice Ao34 t631.length co34) : Value).ownBlock) (.slice Ao46 y658.length co46) y658) ∧ Aside0 (Kd.R (Kd.int .i64) 3 wc w.heap.size (fun k_ => some k_ ≠ ((.slice Ao33 t628.length co33) : Value).ownBlock ∧ some k_ ≠ ((.slice Ao37 t640.length co37) : Value).ownBlock ∧ some k_ ≠ ((.slice Ao56 t668.length co56) : Value).ownBlock ∧ some k_ ≠ ((.slice Ao57 t671.length co57) : Value).ownBlock ∧ some k_ ≠ ((.slice Ao67 t686.length co67) : Value).ownBlock ∧ some k_ ≠ ((.slice Ao68 t689.length co68) : Value).ownBlock) (.slice Ao36 t637.length co36) t637) ∧ Aside0 (Kd.R (Kd.int .i64) 3 wc w.heap.size (fun k_ => some k_ ≠ ((.slice Ao33 t628.length co33) : Value).ownBlock ∧ some k_ ≠ ((.slice Ao36 t637.length co36) : Value).ownBlock ∧ some k_ ≠ ((.slice Ao56 t668.length co56) : Value).ownBlock ∧ some k_ ≠ ((.slice Ao57 t671.length co57) : Value).ownBlock ∧ some k_ ≠ ((.slice Ao67 t686.length co67) : Value).ownBlock ∧ some k_ ≠ ((.slice Ao68 t689.length co68) : Value).ownBlock) (.slice Ao37 t640.length co37) t640) ∧ Aside0 (Kd.R k61 61 wc w.heap.size (fun k_ => some k_ ≠ ((.slice Ao65 t680.length co65) : Value).ownBlock) (.slice Ao54 t662.length co54) t662) ∧ Aside0 (Kd.R k59 59 wc w.heap.size (fun k_ => some k_ ≠ ((.slice Ao66 t683.length co66) : Value).ownBlock) (.slice Ao55 t665.length co55) t665) ∧ Aside0 (Kd.R (Kd.int .i64) 3 wc w.heap.size (fun k_ => some k_ ≠ ((.slice Ao33 t628.length co33) : Value).ownBlock ∧ some k_ ≠ ((.slice Ao36 t637.length co36) : Value).ownBlock ∧ some k_ ≠ ((.slice Ao37 t640.length co37) : Value).ownBlock ∧ some k_ ≠ ((.slice Ao57 t671.length co57) : Value).ownBlock ∧ some k_ ≠ ((.slice Ao67 t686.length co67) : Value).ownBlock ∧ some k_ ≠ ((.slice Ao68 t689.length co68) : Value).ownBlock) (.slice Ao56 t668.length co56) t668) ∧ Aside0 (Kd.R (Kd.int .i64) 3 wc w.heap.size (fun k_ => some k_ ≠ ((.slice Ao33 t628.length co33) : Value).ownBlock ∧ some k_ ≠ ((.slice Ao36 t637.length co36) : Value).ownBlock ∧ some k_ ≠ ((.slice Ao37 t640.length co37) : Value).ownBlock ∧ some k_ ≠ ((.slice Ao56 t668.length co56) : Value).ownBlock ∧ some k_ ≠ ((.slice Ao67 t686.length co67) : Value).ownBlock ∧ some k_ ≠ ((.slice Ao68 t689.length co68) : Value).ownBlock) (.slice Ao57 t671.length co57) t671) ∧ Aside0 (Kd.R k61 61 wc w.heap.size (fun k_ => some k_ ≠ ((.slice Ao54 t662.length co54) : Value).ownBlock) (.slice Ao65 t680.length co65) t680) ∧ Aside0 (Kd.R k59 59 wc w.heap.size (fun k_ => some k_ ≠ ((.slice Ao55 t665.length co55) : Value).ownBlock) (.slice Ao66 t683.length co66) t683) ∧ Aside0 (Kd.R (Kd.int .i64) 3 wc w.heap.size (fun k_ => some k_ ≠ ((.slice Ao33 t628.length co33) : Value).ownBlock ∧ some k_ ≠ ((.slice Ao36 t637.length co36) : Value).ownBlock ∧ some k_ ≠ ((.slice Ao37 t640.length co37) : Value).ownBlock ∧ some k_ ≠ ((.slice Ao56 t668.length co56) : Value).ownBlock ∧ some k_ ≠ ((.slice Ao57 t671.length co57) : Value).ownBlock ∧ some k_ ≠ ((.slice Ao68 t689.length co68) : Value).ownBlock) (.slice Ao67 t686.length co67) t686) ∧ Aside0 (Kd.R (Kd.int .i64) 3 wc w.heap.size (fun k_ => some k_ ≠ ((.slice Ao33 t628.length co33) : Value).ownBlock ∧ some k_ ≠ ((.slice Ao36 t637.length co36) : Value).ownBlock ∧ some k_ ≠ ((.slice Ao37 t640.length co37) : Value).ownBlock ∧ some k_ ≠ ((.slice Ao56 t668.length co56) : Value).ownBlock ∧ some k_ ≠ ((.slice Ao57 t671.length co57) : Value).ownBlock ∧ some k_ ≠ ((.slice Ao67 t686.length co67) : Value).ownBlock) (.slice Ao68 t689.length co68) t689) ∧ Aside0 (wc.heap[gb624]? = some (.cells #[.int .i64 a0_0, (.slice A0_1 l0_1.length c0_1), (.slice A0_2 l0_2.length c0_2), (.slice A0_3 l0_3.length c0_3), (.slice A0_4 l0_4.length c0_4), (.slice A0_5 l0_5.length c0_5)] 30 (0, 0))) ∧ Aside0 (wc.heap[gb643]? = some (.cells #[.int .i64 t627, (.slice Ao33 t628.length co33), (.slice Ao34 t631.length co34), (.slice Ao46 y658.length co46), (.slice Ao36 t637.length co36), (.slice Ao37 t640.length co37)] 30 (0, 0))) ∧ Aside0 (wc.heap[gb678]? = some (.cells #[.int .i64 t661, (.slice Ao54 t662.length co54), (.slice Ao55 t665.length co55), (.slice Ao56 t668.length co56), (.slice Ao57 t671.length co57)] 26 (0, 0))) ∧ Aside0 (wc.heap[gb696]? = some (.cells #[.int .i64 t679, (.slice Ao65 t680.length co65), (.slice Ao66 t683.length co66), (.slice Ao67 t686.length co67), (.slice Ao68 t689.length co68)] 26 (0, 0))) ∧ Aside0 (Below w.heap.size w wc))
             case first =>
              have H := HC27.out
              clear HC27
              by_cases c69 : t677 = t695
              · rw [if_pos c69] at H
                have c69b0 : (t677 == t695) = true := beq_iff_eq.mpr c69
                have c69b1 : (t677 != t695) = false := bne_eq_false_iff_eq.mpr c69
                clear c69
                (first | rw [c69b0] | (simp only [i64_w, i32_w]; rw [c69b0]) | skip)
                replace H := Option.bind_eq_some_iff.mp H
                obtain ⟨t697, A700, H⟩ := H
                replace H : (l3_OrderTurned.j1 kj2 t677 (t677 != t697) t661 t662 t665 t668 t671 t679 t680 t683 t686 t689) = some true := H
                have A70 := Aside0.mk A700
                clear A700
                have H' := Aside0.mk H
                clear H
                have hnb71 := NB643_624.out
                have hnc71 := NB624_643.out
                have hnb72 := NB643_678.out
                have hnc72 := NB678_643.out
                have hnb73 := NB643_696.out
                have hnc73 := NB696_643.out
                obtain ⟨b74_0, b74_1, b74_2, b74_3, b74_4, b74_5, d74_0, d74_1, d74_2, d74_3, d74_4, d74_5⟩ := bk6 BK643.out
                go_wp2_with (first | (go_at_call 18; (with_reducible refine (order_Check.calls t627 _ _ t628 _ _ t631 _ _ y658 _ _ t637 _ _ t640 t697 _ ?side1 ?side2 ?side3 ?side4 ?side5 ?side6 ?side7 ?side8 ?side9 ?side10 A70.out).mono ?_); (case side1 => refine (Kd.R_reads' (e := 3) (base := w.heap.size) (ok := fun k_ => (((((((some k_ ≠ (.slice Ao36 t637.length co36 : Value).ownBlock ∧ some k_ ≠ (.slice Ao37 t640.length co37 : Value).ownBlock) ∧ some k_ ≠ (.slice Ao56 t668.length co56 : Value).ownBlock) ∧ some k_ ≠ (.slice Ao57 t671.length co57 : Value).ownBlock) ∧ some k_ ≠ (v675 : Value).ownBlock) ∧ some k_ ≠ (.slice Ao67 t686.length co67 : Value).ownBlock) ∧ some k_ ≠ (.slice Ao68 t689.length co68 : Value).ownBlock) ∧ some k_ ≠ (v693 : Value).ownBlock)) (n := t628.length) (c := co33) ?_).2.2; exact zq23); (case side2 => exact (Kd.R_reads' HO630.out).2.1); (case side3 => refine (Kd.R_reads' (e := 56) (base := w.heap.size) (ok := fun k_ => (some k_ ≠ (.slice Ao35 t634.length co35 : Value).ownBlock ∧ some k_ ≠ (.slice Ao46 y658.length co46 : Value).ownBlock)) (n := t631.length) (c := co34) ?_).2.2; exact zq24); (case side4 => exact (Kd.R_reads' HO633.out).2.1); (case side5 => refine (Kd.R_reads' (e := 56) (base := w.heap.size) (ok := fun k_ => (some k_ ≠ (.slice Ao34 t631.length co34 : Value).ownBlock ∧ some k_ ≠ (.slice Ao35 t634.length co35 : Value).ownBlock)) (n := y658.length) (c := co46) ?_).2.2; exact zq27); (case side6 => exact (Kd.R_reads' HO660.out).2.1); (case side7 => refine (Kd.R_reads' (e := 3) (base := w.heap.size) (ok := fun k_ => (((((((some k_ ≠ (.slice Ao33 t628.length co33 : Value).ownBlock ∧ some k_ ≠ (.slice Ao37 t640.length co37 : Value).ownBlock) ∧ some k_ ≠ (.slice Ao56 t668.length co56 : Value).ownBlock) ∧ some k_ ≠ (.slice Ao57 t671.length co57 : Value).ownBlock) ∧ some k_ ≠ (v675 : Value).ownBlock) ∧ some k_ ≠ (.slice Ao67 t686.length co67 : Value).ownBlock) ∧ some k_ ≠ (.slice Ao68 t689.length co68 : Value).ownBlock) ∧ some k_ ≠ (v693 : Value).ownBlock)) (n := t637.length) (c := co36) ?_).2.2; exact zq25); (case side8 => exact (Kd.R_reads' HO639.out).2.1); (case side9 => refine (Kd.R_reads' (e := 3) (base := w.heap.size) (ok := fun k_ => (((((((some k_ ≠ (.slice Ao33 t628.length co33 : Value).ownBlock ∧ some k_ ≠ (.slice Ao36 t637.length co36 : Value).ownBlock) ∧ some k_ ≠ (.slice Ao56 t668.length co56 : Value).ownBlock) ∧ some k_ ≠ (.slice Ao57 t671.length co57 : Value).ownBlock) ∧ some k_ ≠ (v675 : Value).ownBlock) ∧ some k_ ≠ (.slice Ao67 t686.length co67 : Value).ownBlock) ∧ some k_ ≠ (.slice Ao68 t689.length co68 : Value).ownBlock) ∧ some k_ ≠ (v693 : Value).ownBlock)) (n := t640.length) (c := co37) ?_).2.2; exact zq26); (case side10 => exact (Kd.R_reads' HO642.out).2.1); rintro e w75 ⟨rfl, hb⟩; have n0_ := Aside0.mk (Kd.R_below zq23 hb); have n1_ := Aside0.mk (Kd.R_below zq24 hb); have n2_ := Aside0.mk (Kd.R_below (by (with_reducible repeat (first | apply Kd.R_alloc | apply Kd.R_drewN | apply Kd.R_drew)); exact (Kd.R_mono (Kd.R_far (p := ⟨gb696, 4, none⟩) (Kd.R_far (p := ⟨gb696, 3, none⟩) (Kd.R_far (p := ⟨gb696, 2, none⟩) (Kd.R_far (p := ⟨gb696, 1, none⟩) (Kd.R_far (p := ⟨gb696, 0, none⟩) (Kd.R_types HO636.out BK696.out (by decide)) (fun _ hk => by first | exact hk.2 | exact hk) (.int .i64 t679)) (fun _ hk => by first | exact hk.2 | exact hk) (.slice Ao65 t680.length co65)) (fun _ hk => by first | exact hk.2 | exact hk) (.slice Ao66 t683.length co66)) (fun _ hk => by first | exact hk.2 | exact hk) (.slice Ao67 t686.length co67)) (fun _ hk => by first | exact hk.2 | exact hk) (.slice Ao68 t689.length co68)) (fun _ h_ => h_.1))) hb); have n3_ := Aside0.mk (Kd.R_below zq25 hb); have n4_ := Aside0.mk (Kd.R_below zq26 hb); have n5_ := Aside0.mk (Kd.R_below zq27 hb); have n6_ := Aside0.mk (Kd.R_below (by (with_reducible repeat (first | apply Kd.R_alloc | apply Kd.R_drewN | apply Kd.R_drew)); exact (Kd.R_mono (Kd.R_far (p := ⟨gb696, 4, none⟩) (Kd.R_far (p := ⟨gb696, 3, none⟩) (Kd.R_far (p := ⟨gb696, 2, none⟩) (Kd.R_far (p := ⟨gb696, 1, none⟩) (Kd.R_far (p := ⟨gb696, 0, none⟩) (Kd.R_types HO664.out BK696.out (by decide)) (fun _ hk => by first | exact hk.2 | exact hk) (.int .i64 t679)) (fun _ hk => by first | exact hk.2 | exact hk) (.slice Ao65 t680.length co65)) (fun _ hk => by first | exact hk.2 | exact hk) (.slice Ao66 t683.length co66)) (fun _ hk => by first | exact hk.2 | exact hk) (.slice Ao67 t686.length co67)) (fun _ hk => by first | exact hk.2 | exact hk) (.slice Ao68 t689.length co68)) (fun _ h_ => h_.1))) hb); have n7_ := Aside0.mk (Kd.R_below (by (with_reducible repeat (first | apply Kd.R_alloc | apply Kd.R_drewN | apply Kd.R_drew)); exact (Kd.R_mono (Kd.R_far (p := ⟨gb696, 4, none⟩) (Kd.R_far (p := ⟨gb696, 3, none⟩) (Kd.R_far (p := ⟨gb696, 2, none⟩) (Kd.R_far (p := ⟨gb696, 1, none⟩) (Kd.R_far (p := ⟨gb696, 0, none⟩) (Kd.R_types HO667.out BK696.out (by decide)) (fun _ hk => by first | exact hk.2 | exact hk) (.int .i64 t679)) (fun _ hk => by first | exact hk.2 | exact hk) (.slice Ao65 t680.length co65)) (fun _ hk => by first | exact hk.2 | exact hk) (.slice Ao66 t683.length co66)) (fun _ hk => by first | exact hk.2 | exact hk) (.slice Ao67 t686.length co67)) (fun _ hk => by first | exact hk.2 | exact hk) (.slice Ao68 t689.length co68)) (fun _ h_ => h_.1))) hb); have n8_ := Aside0.mk (Kd.R_below (by (with_reducible repeat (first | apply Kd.R_alloc | apply Kd.R_drewN | apply Kd.R_drew)); exact (Kd.R_mono (Kd.R_far (p := ⟨gb696, 4, none⟩) (Kd.R_far (p := ⟨gb696, 3, none⟩) (Kd.R_far (p := ⟨gb696, 2, none⟩) (Kd.R_far (p := ⟨gb696, 1, none⟩) (Kd.R_far (p := ⟨gb696, 0, none⟩) (Kd.R_types HO670.out BK696.out (by decide)) (fun _ hk => by first | exact hk.2 | exact hk) (.int .i64 t679)) (fun _ hk => by first | exact hk.2 | exact hk) (.slice Ao65 t680.length co65)) (fun _ hk => by first | exact hk.2 | exact hk) (.slice Ao66 t683.length co66)) (fun _ hk => by first | exact hk.2 | exact hk) (.slice Ao67 t686.length co67)) (fun _ hk => by first | exact hk.2 | exact hk) (.slice Ao68 t689.length co68)) (fun _ h_ => h_.1))) hb); have n9_ := Aside0.mk (Kd.R_below (by (with_reducible repeat (first | apply Kd.R_alloc | apply Kd.R_drewN | apply Kd.R_drew)); exact (Kd.R_mono (Kd.R_far (p := ⟨gb696, 4, none⟩) (Kd.R_far (p := ⟨gb696, 3, none⟩) (Kd.R_far (p := ⟨gb696, 2, none⟩) (Kd.R_far (p := ⟨gb696, 1, none⟩) (Kd.R_far (p := ⟨gb696, 0, none⟩) (Kd.R_types HO673.out BK696.out (by decide)) (fun _ hk => by first | exact hk.2 | exact hk) (.int .i64 t679)) (fun _ hk => by first | exact hk.2 | exact hk) (.slice Ao65 t680.length co65)) (fun _ hk => by first | exact hk.2 | exact hk) (.slice Ao66 t683.length co66)) (fun _ hk => by first | exact hk.2 | exact hk) (.slice Ao67 t686.length co67)) (fun _ hk => by first | exact hk.2 | exact hk) (.slice Ao68 t689.length co68)) (fun _ h_ => h_.1))) hb); have n10_ := Aside0.mk (Kd.R_below (by (with_reducible repeat (first | apply Kd.R_alloc | apply Kd.R_drewN | apply Kd.R_drew)); exact (Kd.R_mono (Kd.R_far (p := ⟨gb696, 4, none⟩) (Kd.R_far (p := ⟨gb696, 3, none⟩) (Kd.R_far (p := ⟨gb696, 2, none⟩) (Kd.R_far (p := ⟨gb696, 1, none⟩) (Kd.R_far (p := ⟨gb696, 0, none⟩) (Kd.R_types HO676.out BK696.out (by decide)) (fun _ hk => by first | exact hk.2 | exact hk) (.int .i64 t679)) (fun _ hk => by first | exact hk.2 | exact hk) (.slice Ao65 t680.length co65)) (fun _ hk => by first | exact hk.2 | exact hk) (.slice Ao66 t683.length co66)) (fun _ hk => by first | exact hk.2 | exact hk) (.slice Ao67 t686.length co67)) (fun _ hk => by first | exact hk.2 | exact hk) (.slice Ao68 t689.length co68)) (fun _ h_ => h_.1))) hb); have n11_ := Aside0.mk (Kd.R_below (by (with_reducible repeat (first | apply Kd.R_alloc | apply Kd.R_drewN | apply Kd.R_drew)); exact (Kd.R_mono (Kd.R_far (p := ⟨gb696, 4, none⟩) (Kd.R_far (p := ⟨gb696, 3, none⟩) (Kd.R_far (p := ⟨gb696, 2, none⟩) (Kd.R_far (p := ⟨gb696, 1, none⟩) (Kd.R_far (p := ⟨gb696, 0, none⟩) (Kd.R_types HO682.out BK696.out (by decide)) (fun _ hk => by first | exact hk.2 | exact hk) (.int .i64 t679)) (fun _ hk => by first | exact hk.2 | exact hk) (.slice Ao65 t680.length co65)) (fun _ hk => by first | exact hk.2 | exact hk) (.slice Ao66 t683.length co66)) (fun _ hk => by first | exact hk.2 | exact hk) (.slice Ao67 t686.length co67)) (fun _ hk => by first | exact hk.2 | exact hk) (.slice Ao68 t689.length co68)) (fun _ h_ => h_.1))) hb); have n12_ := Aside0.mk (Kd.R_below (by (with_reducible repeat (first | apply Kd.R_alloc | apply Kd.R_drewN | apply Kd.R_drew)); exact (Kd.R_mono (Kd.R_far (p := ⟨gb696, 4, none⟩) (Kd.R_far (p := ⟨gb696, 3, none⟩) (Kd.R_far (p := ⟨gb696, 2, none⟩) (Kd.R_far (p := ⟨gb696, 1, none⟩) (Kd.R_far (p := ⟨gb696, 0, none⟩) (Kd.R_types HO685.out BK696.out (by decide)) (fun _ hk => by first | exact hk.2 | exact hk) (.int .i64 t679)) (fun _ hk => by first | exact hk.2 | exact hk) (.slice Ao65 t680.length co65)) (fun _ hk => by first | exact hk.2 | exact hk) (.slice Ao66 t683.length co66)) (fun _ hk => by first | exact hk.2 | exact hk) (.slice Ao67 t686.length co67)) (fun _ hk => by first | exact hk.2 | exact hk) (.slice Ao68 t689.length co68)) (fun _ h_ => h_.1))) hb); have n13_ := Aside0.mk (Kd.R_below (by (with_reducible repeat (first | apply Kd.R_alloc | apply Kd.R_drewN | apply Kd.R_drew)); exact (Kd.R_mono (Kd.R_far (p := ⟨gb696, 4, none⟩) (Kd.R_far (p := ⟨gb696, 3, none⟩) (Kd.R_far (p := ⟨gb696, 2, none⟩) (Kd.R_far (p := ⟨gb696, 1, none⟩) (Kd.R_far (p := ⟨gb696, 0, none⟩) (Kd.R_types HO688.out BK696.out (by decide)) (fun _ hk => by first | exact hk.2 | exact hk) (.int .i64 t679)) (fun _ hk => by first | exact hk.2 | exact hk) (.slice Ao65 t680.length co65)) (fun _ hk => by first | exact hk.2 | exact hk) (.slice Ao66 t683.length co66)) (fun _ hk => by first | exact hk.2 | exact hk) (.slice Ao67 t686.length co67)) (fun _ hk => by first | exact hk.2 | exact hk) (.slice Ao68 t689.length co68)) (fun _ h_ => h_.1))) hb); have n14_ := Aside0.mk (Kd.R_below (by (with_reducible repeat (first | apply Kd.R_alloc | apply Kd.R_drewN | apply Kd.R_drew)); exact (Kd.R_mono (Kd.R_far (p := ⟨gb696, 4, none⟩) (Kd.R_far (p := ⟨gb696, 3, none⟩) (Kd.R_far (p := ⟨gb696, 2, none⟩) (Kd.R_far (p := ⟨gb696, 1, none⟩) (Kd.R_far (p := ⟨gb696, 0, none⟩) (Kd.R_types HO691.out BK696.out (by decide)) (fun _ hk => by first | exact hk.2 | exact hk) (.int .i64 t679)) (fun _ hk => by first | exact hk.2 | exact hk) (.slice Ao65 t680.length co65)) (fun _ hk => by first | exact hk.2 | exact hk) (.slice Ao66 t683.length co66)) (fun _ hk => by first | exact hk.2 | exact hk) (.slice Ao67 t686.length co67)) (fun _ hk => by first | exact hk.2 | exact hk) (.slice Ao68 t689.length co68)) (fun _ h_ => h_.1))) hb); have n15_ := Aside0.mk (Kd.R_below (by (with_reducible repeat (first | apply Kd.R_alloc | apply Kd.R_drewN | apply Kd.R_drew)); exact (Kd.R_mono (Kd.R_far (p := ⟨gb696, 4, none⟩) (Kd.R_far (p := ⟨gb696, 3, none⟩) (Kd.R_far (p := ⟨gb696, 2, none⟩) (Kd.R_far (p := ⟨gb696, 1, none⟩) (Kd.R_far (p := ⟨gb696, 0, none⟩) (Kd.R_types HO694.out BK696.out (by decide)) (fun _ hk => by first | exact hk.2 | exact hk) (.int .i64 t679)) (fun _ hk => by first | exact hk.2 | exact hk) (.slice Ao65 t680.length co65)) (fun _ hk => by first | exact hk.2 | exact hk) (.slice Ao66 t683.length co66)) (fun _ hk => by first | exact hk.2 | exact hk) (.slice Ao67 t686.length co67)) (fun _ hk => by first | exact hk.2 | exact hk) (.slice Ao68 t689.length co68)) (fun _ h_ => h_.1))) hb); have n16_ := Aside0.mk (blk_below (g := gb624) (o := .cells #[.int .i64 a0_0, .slice A0_1 l0_1.length c0_1, .slice A0_2 l0_2.length c0_2, .slice A0_3 l0_3.length c0_3, .slice A0_4 l0_4.length c0_4, .slice A0_5 l0_5.length c0_5] 30 (0, 0)) zq2 hb); have n17_ := Aside0.mk (blk_below (g := gb643) (o := .cells #[.int .i64 t627, .slice Ao33 t628.length co33, .slice Ao34 t631.length co34, .slice Ao46 y658.length co46, .slice Ao36 t637.length co36, .slice Ao37 t640.length co37] 30 (0, 0)) zq3 hb); have n18_ := Aside0.mk (blk_below (g := gb678) (o := .cells #[.int .i64 t661, .slice Ao54 t662.length co54, .slice Ao55 t665.length co55, .slice Ao56 t668.length co56, .slice Ao57 t671.length co57] 26 (0, 0)) zq4 hb); have n19_ := Aside0.mk (blk_below (g := gb696) (o := .cells #[.int .i64 t679, .slice Ao65 t680.length co65, .slice Ao66 t683.length co66, .slice Ao67 t686.length co67, .slice Ao68 t689.length co68] 26 (0, 0)) zq0 hb); have n20_ := Aside0.mk (below_step zq61 hb); clear HO630; clear HO633; clear HO636; clear HO639; clear HO642; clear HO660; clear HO664; clear HO667; clear HO670; clear HO673; clear HO676; clear HO682; clear HO685; clear HO688; clear HO691; clear HO694; clear BK624; clear BK643; clear BK678; clear BK696; clear HB; have HO630 := n0_; have HO633 := n1_; have HO636 := n2_; have HO639 := n3_; have HO642 := n4_; have HO660 := n5_; have HO664 := n6_; have HO667 := n7_; have HO670 := n8_; have HO673 := n9_; have HO676 := n10_; have HO682 := n11_; have HO685 := n12_; have HO688 := n13_; have HO691 := n14_; have HO694 := n15_; have BK624 := n16_; have BK643 := n17_; have BK678 := n18_; have BK696 := n19_; have HB := n20_; clear n0_ n1_ n2_ n3_ n4_ n5_ n6_ n7_ n8_ n9_ n10_ n11_ n12_ n13_ n14_ n15_ n16_ n17_ n18_ n19_ n20_; (try clear hb); (try clear hb2); (try clear hk); (try clear hi)))
                go_meet
                case rel => exact ⟨_, ((t677 != t697)), zq175, H', ⟨by have := HJ2.out; first | omega | exact Nat.le_refl _⟩, ⟨by (with_reducible repeat (first | apply Kd.R_alloc | apply Kd.R_drewN | apply Kd.R_drew)); exact Kd.R_mono HO630.out (fun _ hk => ⟨hk.1.1.1.1.1.1.1, ⟨hk.1.1.1.1.1.1.2, ⟨hk.1.1.1.1.1.2, ⟨hk.1.1.1.1.2, ⟨hk.1.1.2, hk.1.2⟩⟩⟩⟩⟩)⟩, ⟨by (with_reducible repeat (first | apply Kd.R_alloc | apply Kd.R_drewN | apply Kd.R_drew)); exact Kd.R_mono HO633.out (fun _ hk => by first | exact hk.2 | exact hk)⟩, ⟨by (with_reducible repeat (first | apply Kd.R_alloc | apply Kd.R_drewN | apply Kd.R_drew)); exact Kd.R_mono HO660.out (fun _ hk => by first | exact hk.1 | exact hk)⟩, ⟨by (with_reducible repeat (first | apply Kd.R_alloc | apply Kd.R_drewN | apply Kd.R_drew)); exact Kd.R_mono HO639.out (fun _ hk => ⟨hk.1.1.1.1.1.1.1, ⟨hk.1.1.1.1.1.1.2, ⟨hk.1.1.1.1.1.2, ⟨hk.1.1.1.1.2, ⟨hk.1.1.2, hk.1.2⟩⟩⟩⟩⟩)⟩, ⟨by (with_reducible repeat (first | apply Kd.R_alloc | apply Kd.R_drewN | apply Kd.R_drew)); exact Kd.R_mono HO642.out (fun _ hk => ⟨hk.1.1.1.1.1.1.1, ⟨hk.1.1.1.1.1.1.2, ⟨hk.1.1.1.1.1.2, ⟨hk.1.1.1.1.2, ⟨hk.1.1.2, hk.1.2⟩⟩⟩⟩⟩)⟩, ⟨by (with_reducible repeat (first | apply Kd.R_alloc | apply Kd.R_drewN | apply Kd.R_drew)); exact Kd.R_mono HO664.out (fun _ hk => by first | exact hk.2 | exact hk)⟩, ⟨by (with_reducible repeat (first | apply Kd.R_alloc | apply Kd.R_drewN | apply Kd.R_drew)); exact Kd.R_mono HO667.out (fun _ hk => by first | exact hk.2 | exact hk)⟩, ⟨by (with_reducible repeat (first | apply Kd.R_alloc | apply Kd.R_drewN | apply Kd.R_drew)); exact Kd.R_mono HO670.out (fun _ hk => ⟨hk.1.1.1.1.1.2, ⟨hk.1.1.1.1.2, ⟨hk.1.1.1.2, ⟨hk.1.1.1.1.1.1.1, ⟨hk.1.1.2, hk.1.2⟩⟩⟩⟩⟩)⟩, ⟨by (with_reducible repeat (first | apply Kd.R_alloc | apply Kd.R_drewN | apply Kd.R_drew)); exact Kd.R_mono HO673.out (fun _ hk => ⟨hk.1.1.1.1.1.2, ⟨hk.1.1.1.1.2, ⟨hk.1.1.1.2, ⟨hk.1.1.1.1.1.1.1, ⟨hk.1.1.2, hk.1.2⟩⟩⟩⟩⟩)⟩, ⟨by (with_reducible repeat (first | apply Kd.R_alloc | apply Kd.R_drewN | apply Kd.R_drew)); exact Kd.R_mono HO682.out (fun _ hk => by first | exact hk.2 | exact hk)⟩, ⟨by (with_reducible repeat (first | apply Kd.R_alloc | apply Kd.R_drewN | apply Kd.R_drew)); exact Kd.R_mono HO685.out (fun _ hk => by first | exact hk.2 | exact hk)⟩, ⟨by (with_reducible repeat (first | apply Kd.R_alloc | apply Kd.R_drewN | apply Kd.R_drew)); exact Kd.R_mono HO688.out (fun _ hk => ⟨hk.1.1.1.1.1.2, ⟨hk.1.1.1.1.2, ⟨hk.1.1.1.2, ⟨hk.1.1.2, ⟨hk.1.2, hk.1.1.1.1.1.1.1⟩⟩⟩⟩⟩)⟩, ⟨by (with_reducible repeat (first | apply Kd.R_alloc | apply Kd.R_drewN | apply Kd.R_drew)); exact Kd.R_mono HO691.out (fun _ hk => ⟨hk.1.1.1.1.1.2, ⟨hk.1.1.1.1.2, ⟨hk.1.1.1.2, ⟨hk.1.1.2, ⟨hk.1.2, hk.1.1.1.1.1.1.1⟩⟩⟩⟩⟩)⟩, ⟨zq116⟩, ⟨zq117⟩, ⟨zq118⟩, ⟨zq119⟩, ⟨zq61⟩⟩
              · rw [if_neg c69] at H
                have c69b0 : (t677 == t695) = false := beq_eq_false_iff_ne.mpr c69
                have c69b1 : (t677 != t695) = true := bne_iff_ne.mpr c69
                (first | rw [c69b0] | (simp only [i64_w, i32_w]; rw [c69b0]) | skip)
                have H' := Aside0.mk H
                clear H
                go_wp2
                go_meet
                case rel => exact ⟨_, (true), zq175, H', ⟨by have := HJ2.out; first | omega | exact Nat.le_refl _⟩, ⟨by (with_reducible repeat (first | apply Kd.R_alloc | apply Kd.R_drewN | apply Kd.R_drew)); exact Kd.R_mono (Kd.R_far (p := ⟨gb696, 4, none⟩) (Kd.R_far (p := ⟨gb696, 3, none⟩) (Kd.R_far (p := ⟨gb696, 2, none⟩) (Kd.R_far (p := ⟨gb696, 1, none⟩) (Kd.R_far (p := ⟨gb696, 0, none⟩) (Kd.R_types HO630.out BK696.out (by decide)) (fun _ hk => by first | exact hk.2 | exact hk) (.int .i64 t679)) (fun _ hk => by first | exact hk.2 | exact hk) (.slice Ao65 t680.length co65)) (fun _ hk => by first | exact hk.2 | exact hk) (.slice Ao66 t683.length co66)) (fun _ hk => by first | exact hk.2 | exact hk) (.slice Ao67 t686.length co67)) (fun _ hk => by first | exact hk.2 | exact hk) (.slice Ao68 t689.length co68)) (fun _ hk => ⟨hk.1.1.1.1.1.1.1.1, ⟨hk.1.1.1.1.1.1.1.2, ⟨hk.1.1.1.1.1.1.2, ⟨hk.1.1.1.1.1.2, ⟨hk.1.1.1.2, hk.1.1.2⟩⟩⟩⟩⟩)⟩, ⟨by (with_reducible repeat (first | apply Kd.R_alloc | apply Kd.R_drewN | apply Kd.R_drew)); exact Kd.R_mono (Kd.R_far (p := ⟨gb696, 4, none⟩) (Kd.R_far (p := ⟨gb696, 3, none⟩) (Kd.R_far (p := ⟨gb696, 2, none⟩) (Kd.R_far (p := ⟨gb696, 1, none⟩) (Kd.R_far (p := ⟨gb696, 0, none⟩) (Kd.R_types HO633.out BK696.out (by decide)) (fun _ hk => by first | exact hk.2 | exact hk) (.int .i64 t679)) (fun _ hk => by first | exact hk.2 | exact hk) (.slice Ao65 t680.length co65)) (fun _ hk => by first | exact hk.2 | exact hk) (.slice Ao66 t683.length co66)) (fun _ hk => by first | exact hk.2 | exact hk) (.slice Ao67 t686.length co67)) (fun _ hk => by first | exact hk.2 | exact hk) (.slice Ao68 t689.length co68)) (fun _ hk => by first | exact hk.1.2 | exact hk)⟩, ⟨by (with_reducible repeat (first | apply Kd.R_alloc | apply Kd.R_drewN | apply Kd.R_drew)); exact Kd.R_mono (Kd.R_far (p := ⟨gb696, 4, none⟩) (Kd.R_far (p := ⟨gb696, 3, none⟩) (Kd.R_far (p := ⟨gb696, 2, none⟩) (Kd.R_far (p := ⟨gb696, 1, none⟩) (Kd.R_far (p := ⟨gb696, 0, none⟩) (Kd.R_types HO660.out BK696.out (by decide)) (fun _ hk => by first | exact hk.2 | exact hk) (.int .i64 t679)) (fun _ hk => by first | exact hk.2 | exact hk) (.slice Ao65 t680.length co65)) (fun _ hk => by first | exact hk.2 | exact hk) (.slice Ao66 t683.length co66)) (fun _ hk => by first | exact hk.2 | exact hk) (.slice Ao67 t686.length co67)) (fun _ hk => by first | exact hk.2 | exact hk) (.slice Ao68 t689.length co68)) (fun _ hk => by first | exact hk.1.1 | exact hk)⟩, ⟨by (with_reducible repeat (first | apply Kd.R_alloc | apply Kd.R_drewN | apply Kd.R_drew)); exact Kd.R_mono (Kd.R_far (p := ⟨gb696, 4, none⟩) (Kd.R_far (p := ⟨gb696, 3, none⟩) (Kd.R_far (p := ⟨gb696, 2, none⟩) (Kd.R_far (p := ⟨gb696, 1, none⟩) (Kd.R_far (p := ⟨gb696, 0, none⟩) (Kd.R_types HO639.out BK696.out (by decide)) (fun _ hk => by first | exact hk.2 | exact hk) (.int .i64 t679)) (fun _ hk => by first | exact hk.2 | exact hk) (.slice Ao65 t680.length co65)) (fun _ hk => by first | exact hk.2 | exact hk) (.slice Ao66 t683.length co66)) (fun _ hk => by first | exact hk.2 | exact hk) (.slice Ao67 t686.length co67)) (fun _ hk => by first | exact hk.2 | exact hk) (.slice Ao68 t689.length co68)) (fun _ hk => ⟨hk.1.1.1.1.1.1.1.1, ⟨hk.1.1.1.1.1.1.1.2, ⟨hk.1.1.1.1.1.1.2, ⟨hk.1.1.1.1.1.2, ⟨hk.1.1.1.2, hk.1.1.2⟩⟩⟩⟩⟩)⟩, ⟨by (with_reducible repeat (first | apply Kd.R_alloc | apply Kd.R_drewN | apply Kd.R_drew)); exact Kd.R_mono (Kd.R_far (p := ⟨gb696, 4, none⟩) (Kd.R_far (p := ⟨gb696, 3, none⟩) (Kd.R_far (p := ⟨gb696, 2, none⟩) (Kd.R_far (p := ⟨gb696, 1, none⟩) (Kd.R_far (p := ⟨gb696, 0, none⟩) (Kd.R_types HO642.out BK696.out (by decide)) (fun _ hk => by first | exact hk.2 | exact hk) (.int .i64 t679)) (fun _ hk => by first | exact hk.2 | exact hk) (.slice Ao65 t680.length co65)) (fun _ hk => by first | exact hk.2 | exact hk) (.slice Ao66 t683.length co66)) (fun _ hk => by first | exact hk.2 | exact hk) (.slice Ao67 t686.length co67)) (fun _ hk => by first | exact hk.2 | exact hk) (.slice Ao68 t689.length co68)) (fun _ hk => ⟨hk.1.1.1.1.1.1.1.1, ⟨hk.1.1.1.1.1.1.1.2, ⟨hk.1.1.1.1.1.1.2, ⟨hk.1.1.1.1.1.2, ⟨hk.1.1.1.2, hk.1.1.2⟩⟩⟩⟩⟩)⟩, ⟨by (with_reducible repeat (first | apply Kd.R_alloc | apply Kd.R_drewN | apply Kd.R_drew)); exact Kd.R_mono (Kd.R_far (p := ⟨gb696, 4, none⟩) (Kd.R_far (p := ⟨gb696, 3, none⟩) (Kd.R_far (p := ⟨gb696, 2, none⟩) (Kd.R_far (p := ⟨gb696, 1, none⟩) (Kd.R_far (p := ⟨gb696, 0, none⟩) (Kd.R_types HO664.out BK696.out (by decide)) (fun _ hk => by first | exact hk.2 | exact hk) (.int .i64 t679)) (fun _ hk => by first | exact hk.2 | exact hk) (.slice Ao65 t680.length co65)) (fun _ hk => by first | exact hk.2 | exact hk) (.slice Ao66 t683.length co66)) (fun _ hk => by first | exact hk.2 | exact hk) (.slice Ao67 t686.length co67)) (fun _ hk => by first | exact hk.2 | exact hk) (.slice Ao68 t689.length co68)) (fun _ hk => by first | exact hk.1.2 | exact hk)⟩, ⟨by (with_reducible repeat (first | apply Kd.R_alloc | apply Kd.R_drewN | apply Kd.R_drew)); exact Kd.R_mono (Kd.R_far (p := ⟨gb696, 4, none⟩) (Kd.R_far (p := ⟨gb696, 3, none⟩) (Kd.R_far (p := ⟨gb696, 2, none⟩) (Kd.R_far (p := ⟨gb696, 1, none⟩) (Kd.R_far (p := ⟨gb696, 0, none⟩) (Kd.R_types HO667.out BK696.out (by decide)) (fun _ hk => by first | exact hk.2 | exact hk) (.int .i64 t679)) (fun _ hk => by first | exact hk.2 | exact hk) (.slice Ao65 t680.length co65)) (fun _ hk => by first | exact hk.2 | exact hk) (.slice Ao66 t683.length co66)) (fun _ hk => by first | exact hk.2 | exact hk) (.slice Ao67 t686.length co67)) (fun _ hk => by first | exact hk.2 | exact hk) (.slice Ao68 t689.length co68)) (fun _ hk => by first | exact hk.1.2 | exact hk)⟩, ⟨by (with_reducible repeat (first | apply Kd.R_alloc | apply Kd.R_drewN | apply Kd.R_drew)); exact Kd.R_mono (Kd.R_far (p := ⟨gb696, 4, none⟩) (Kd.R_far (p := ⟨gb696, 3, none⟩) (Kd.R_far (p := ⟨gb696, 2, none⟩) (Kd.R_far (p := ⟨gb696, 1, none⟩) (Kd.R_far (p := ⟨gb696, 0, none⟩) (Kd.R_types HO670.out BK696.out (by decide)) (fun _ hk => by first | exact hk.2 | exact hk) (.int .i64 t679)) (fun _ hk => by first | exact hk.2 | exact hk) (.slice Ao65 t680.length co65)) (fun _ hk => by first | exact hk.2 | exact hk) (.slice Ao66 t683.length co66)) (fun _ hk => by first | exact hk.2 | exact hk) (.slice Ao67 t686.length co67)) (fun _ hk => by first | exact hk.2 | exact hk) (.slice Ao68 t689.length co68)) (fun _ hk => ⟨hk.1.1.1.1.1.1.2, ⟨hk.1.1.1.1.1.2, ⟨hk.1.1.1.1.2, ⟨hk.1.1.1.1.1.1.1.1, ⟨hk.1.1.1.2, hk.1.1.2⟩⟩⟩⟩⟩)⟩, ⟨by (with_reducible repeat (first | apply Kd.R_alloc | apply Kd.R_drewN | apply Kd.R_drew)); exact Kd.R_mono (Kd.R_far (p := ⟨gb696, 4, none⟩) (Kd.R_far (p := ⟨gb696, 3, none⟩) (Kd.R_far (p := ⟨gb696, 2, none⟩) (Kd.R_far (p := ⟨gb696, 1, none⟩) (Kd.R_far (p := ⟨gb696, 0, none⟩) (Kd.R_types HO673.out BK696.out (by decide)) (fun _ hk => by first | exact hk.2 | exact hk) (.int .i64 t679)) (fun _ hk => by first | exact hk.2 | exact hk) (.slice Ao65 t680.length co65)) (fun _ hk => by first | exact hk.2 | exact hk) (.slice Ao66 t683.length co66)) (fun _ hk => by first | exact hk.2 | exact hk) (.slice Ao67 t686.length co67)) (fun _ hk => by first | exact hk.2 | exact hk) (.slice Ao68 t689.length co68)) (fun _ hk => ⟨hk.1.1.1.1.1.1.2, ⟨hk.1.1.1.1.1.2, ⟨hk.1.1.1.1.2, ⟨hk.1.1.1.1.1.1.1.1, ⟨hk.1.1.1.2, hk.1.1.2⟩⟩⟩⟩⟩)⟩, ⟨by (with_reducible repeat (first | apply Kd.R_alloc | apply Kd.R_drewN | apply Kd.R_drew)); exact Kd.R_mono (Kd.R_far (p := ⟨gb696, 4, none⟩) (Kd.R_far (p := ⟨gb696, 3, none⟩) (Kd.R_far (p := ⟨gb696, 2, none⟩) (Kd.R_far (p := ⟨gb696, 1, none⟩) (Kd.R_far (p := ⟨gb696, 0, none⟩) (Kd.R_types HO682.out BK696.out (by decide)) (fun _ hk => by first | exact hk.2 | exact hk) (.int .i64 t679)) (fun _ hk => by first | exact hk.2 | exact hk) (.slice Ao65 t680.length co65)) (fun _ hk => by first | exact hk.2 | exact hk) (.slice Ao66 t683.length co66)) (fun _ hk => by first | exact hk.2 | exact hk) (.slice Ao67 t686.length co67)) (fun _ hk => by first | exact hk.2 | exact hk) (.slice Ao68 t689.length co68)) (fun _ hk => by first | exact hk.1.2 | exact hk)⟩, ⟨by (with_reducible repeat (first | apply Kd.R_alloc | apply Kd.R_drewN | apply Kd.R_drew)); exact Kd.R_mono (Kd.R_far (p := ⟨gb696, 4, none⟩) (Kd.R_far (p := ⟨gb696, 3, none⟩) (Kd.R_far (p := ⟨gb696, 2, none⟩) (Kd.R_far (p := ⟨gb696, 1, none⟩) (Kd.R_far (p := ⟨gb696, 0, none⟩) (Kd.R_types HO685.out BK696.out (by decide)) (fun _ hk => by first | exact hk.2 | exact hk) (.int .i64 t679)) (fun _ hk => by first | exact hk.2 | exact hk) (.slice Ao65 t680.length co65)) (fun _ hk => by first | exact hk.2 | exact hk) (.slice Ao66 t683.length co66)) (fun _ hk => by first | exact hk.2 | exact hk) (.slice Ao67 t686.length co67)) (fun _ hk => by first | exact hk.2 | exact hk) (.slice Ao68 t689.length co68)) (fun _ hk => by first | exact hk.1.2 | exact hk)⟩, ⟨by (with_reducible repeat (first | apply Kd.R_alloc | apply Kd.R_drewN | apply Kd.R_drew)); exact Kd.R_mono (Kd.R_far (p := ⟨gb696, 4, none⟩) (Kd.R_far (p := ⟨gb696, 3, none⟩) (Kd.R_far (p := ⟨gb696, 2, none⟩) (Kd.R_far (p := ⟨gb696, 1, none⟩) (Kd.R_far (p := ⟨gb696, 0, none⟩) (Kd.R_types HO688.out BK696.out (by decide)) (fun _ hk => by first | exact hk.2 | exact hk) (.int .i64 t679)) (fun _ hk => by first | exact hk.2 | exact hk) (.slice Ao65 t680.length co65)) (fun _ hk => by first | exact hk.2 | exact hk) (.slice Ao66 t683.length co66)) (fun _ hk => by first | exact hk.2 | exact hk) (.slice Ao67 t686.length co67)) (fun _ hk => by first | exact hk.2 | exact hk) (.slice Ao68 t689.length co68)) (fun _ hk => ⟨hk.1.1.1.1.1.1.2, ⟨hk.1.1.1.1.1.2, ⟨hk.1.1.1.1.2, ⟨hk.1.1.1.2, ⟨hk.1.1.2, hk.1.1.1.1.1.1.1.1⟩⟩⟩⟩⟩)⟩, ⟨by (with_reducible repeat (first | apply Kd.R_alloc | apply Kd.R_drewN | apply Kd.R_drew)); exact Kd.R_mono (Kd.R_far (p := ⟨gb696, 4, none⟩) (Kd.R_far (p := ⟨gb696, 3, none⟩) (Kd.R_far (p := ⟨gb696, 2, none⟩) (Kd.R_far (p := ⟨gb696, 1, none⟩) (Kd.R_far (p := ⟨gb696, 0, none⟩) (Kd.R_types HO691.out BK696.out (by decide)) (fun _ hk => by first | exact hk.2 | exact hk) (.int .i64 t679)) (fun _ hk => by first | exact hk.2 | exact hk) (.slice Ao65 t680.length co65)) (fun _ hk => by first | exact hk.2 | exact hk) (.slice Ao66 t683.length co66)) (fun _ hk => by first | exact hk.2 | exact hk) (.slice Ao67 t686.length co67)) (fun _ hk => by first | exact hk.2 | exact hk) (.slice Ao68 t689.length co68)) (fun _ hk => ⟨hk.1.1.1.1.1.1.2, ⟨hk.1.1.1.1.1.2, ⟨hk.1.1.1.1.2, ⟨hk.1.1.1.2, ⟨hk.1.1.2, hk.1.1.1.1.1.1.1.1⟩⟩⟩⟩⟩)⟩, ⟨zq2⟩, ⟨zq3⟩, ⟨zq4⟩, ⟨zq0⟩, ⟨zq61⟩⟩
             case rest =>
              clear HC27
              try clear c1
              try clear c2
              try clear p2
              try clear c3
              try clear c4
              try clear q4
              try clear c5
              try clear c6
              try clear c7
              try clear c9
              try clear c9b0
              try clear c14
              try clear c15
              try clear c16
              try clear c19
              try clear c19b0
              try clear c19b1
              try clear c20
              try clear c20b0
              try clear c20b1
              try clear c21
              try clear c22
              try clear c22b0
              try clear c23
              try clear c23b0
              try clear c24
              try clear c31
              try clear c40
              try clear q40
              try clear q41
              try clear c51
              try clear c52
              try clear c61
              try clear c62
              try clear c63
              try clear c69
              try clear c69b0
              try clear c69b1
              try clear c71
              try clear c72
              try clear c73
              try clear b10_0
              try clear b10_1
              try clear b10_2
              try clear b10_3
              try clear b10_4
              try clear b10_5
              try clear b12_0
              try clear b12_1
              try clear b12_2
              try clear b12_3
              try clear b12_4
              try clear b12_5
              try clear b14_0
              try clear b14_1
              try clear b14_2
              try clear b14_3
              try clear b14_4
              try clear b14_5
              try clear b28_0
              try clear b28_1
              try clear b28_2
              try clear b28_3
              try clear b28_4
              try clear b28_5
              try clear b32_0
              try clear b32_1
              try clear b32_2
              try clear b32_3
              try clear b32_4
              try clear b32_5
              try clear b48_0
              try clear b48_1
              try clear b48_2
              try clear b48_3
              try clear b48_4
              try clear b48_5
              try clear b53_0
              try clear b53_1
              try clear b53_2
              try clear b53_3
              try clear b53_4
              try clear b58_0
              try clear b58_1
              try clear b58_2
              try clear b58_3
              try clear b58_4
              try clear b58_5
              try clear b64_0
              try clear b64_1
              try clear b64_2
              try clear b64_3
              try clear b64_4
              try clear b74_0
              try clear b74_1
              try clear b74_2
              try clear b74_3
              try clear b74_4
              try clear b74_5
              try clear b7_0
              try clear b7_1
              try clear b7_2
              try clear b7_3
              try clear b7_4
              try clear b7_5
              try clear d10_0
              try clear d10_1
              try clear d10_2
              try clear d10_3
              try clear d10_4
              try clear d10_5
              try clear d12_0
              try clear d12_1
              try clear d12_2
              try clear d12_3
              try clear d12_4
              try clear d12_5
              try clear d14_0
              try clear d14_1
              try clear d14_2
              try clear d14_3
              try clear d14_4
              try clear d14_5
              try clear d28_0
              try clear d28_1
              try clear d28_2
              try clear d28_3
              try clear d28_4
              try clear d28_5
              try clear d32_0
              try clear d32_1
              try clear d32_2
              try clear d32_3
              try clear d32_4
              try clear d32_5
              try clear d48_0
              try clear d48_1
              try clear d48_2
              try clear d48_3
              try clear d48_4
              try clear d48_5
              try clear d53_0
              try clear d53_1
              try clear d53_2
              try clear d53_3
              try clear d53_4
              try clear d58_0
              try clear d58_1
              try clear d58_2
              try clear d58_3
              try clear d58_4
              try clear d58_5
              try clear d64_0
              try clear d64_1
              try clear d64_2
              try clear d64_3
              try clear d64_4
              try clear d74_0
              try clear d74_1
              try clear d74_2
              try clear d74_3
              try clear d74_4
              try clear d74_5
              try clear d7_0
              try clear d7_1
              try clear d7_2
              try clear d7_3
              try clear d7_4
              try clear d7_5
              try clear p2
              try clear q040
              try clear q40
              try clear q41
              obtain ⟨kq, x60_26, rfl, HA, HJ26, HO_644001, HO_644002, HO_644003, HO_644004, HO_644005, HO_679001, HO_679002, HO_679003, HO_679004, HO_697001, HO_697002, HO_697003, HO_697004, BK624, BK643, BK678, BK696, HB⟩ := hcut
              cases kq with
              | zero => exact absurd HA.out (by simp [l3_OrderTurned.j1])
              | succ kj26 =>
               have H := HA.out
               clear HA
               simp only [l3_OrderTurned.j1] at H
               by_cases c76 : x60_26 = true
               · subst c76
                 have H1 : (some false) = some true := by rw [if_pos rfl] at H; exact H
                 clear H
                 have H := H1
                 clear H1
                 cases H
               · replace c76 := Bool.eq_false_iff.mpr c76
                 subst c76
                 have H1 : (if (t665.length : Int) = (t683.length : Int) then (if t661 = t679 then (if (t662.length : Int) = (t680.length : Int) then (if t677 = 0 then ((gates_Check.f t679 t680 t683 t686 t689).bind fun t698 => (if t698 = 0 then ((l3_alive.f kj26).bind fun t699 => (some t699)) else (some false))) else ((l3_alive.f kj26).bind fun t700 => (some t700))) else (some false)) else (some false)) else (some false)) = some true := by rw [if_neg (show ¬ (false = true) by decide)] at H; exact H
                 clear H
                 have H := H1
                 clear H1
                 by_cases c77 : (t665.length : Int) = (t683.length : Int)
                 · rw [if_pos c77] at H
                   have c77b0 : ((t665.length : Int) == (t683.length : Int)) = true := beq_iff_eq.mpr c77
                   have c77b1 : ((t665.length : Int) != (t683.length : Int)) = false := bne_eq_false_iff_eq.mpr c77
                   have c77b2 : (t665.length == t683.length) = true := by first | simpa using c77 | (simp at c77 ⊢; omega)
                   clear c77
                   by_cases c78 : t661 = t679
                   · rw [if_pos c78] at H
                     have c78b0 : (t661 == t679) = true := beq_iff_eq.mpr c78
                     have c78b1 : (t661 != t679) = false := bne_eq_false_iff_eq.mpr c78
                     clear c78
                     by_cases c79 : (t662.length : Int) = (t680.length : Int)
                     · rw [if_pos c79] at H
                       have c79b0 : ((t662.length : Int) == (t680.length : Int)) = true := beq_iff_eq.mpr c79
                       have c79b1 : ((t662.length : Int) != (t680.length : Int)) = false := bne_eq_false_iff_eq.mpr c79
                       have c79b2 : (t662.length == t680.length) = true := by first | simpa using c79 | (simp at c79 ⊢; omega)
                       clear c79
                       by_cases c80 : t677 = 0
                       · rw [if_pos c80] at H
                         have c80b0 : (t677 == 0) = true := beq_iff_eq.mpr c80
                         have c80b1 : (t677 != 0) = false := bne_eq_false_iff_eq.mpr c80
                         clear c80
                         replace H := Option.bind_eq_some_iff.mp H
                         obtain ⟨t698, A810, H⟩ := H
                         replace H : (if t698 = 0 then ((l3_alive.f kj26).bind fun t699 => (some t699)) else (some false)) = some true := H
                         have A81 := Aside0.mk A810
                         clear A810
                         by_cases c82 : t698 = 0
                         · rw [if_pos c82] at H
                           have c82b0 : (t698 == 0) = true := beq_iff_eq.mpr c82
                           have c82b1 : (t698 != 0) = false := bne_eq_false_iff_eq.mpr c82
                           clear c82
                           replace H := Option.bind_eq_some_iff.mp H
                           obtain ⟨t699, A830, H⟩ := H
                           replace H : (some t699) = some true := H
                           have A83 := Aside0.mk A830
                           clear A830
                           obtain rfl := Option.some.inj H
                           have hnb84 := NB678_624.out
                           have hnc84 := NB624_678.out
                           have hnb85 := NB678_643.out
                           have hnc85 := NB643_678.out
                           have hnb86 := NB678_696.out
                           have hnc86 := NB696_678.out
                           obtain ⟨b87_0, b87_1, b87_2, b87_3, b87_4, d87_0, d87_1, d87_2, d87_3, d87_4⟩ := bk5 BK678.out
                           have hnb88 := NB696_624.out
                           have hnc88 := NB624_696.out
                           have hnb89 := NB696_643.out
                           have hnc89 := NB643_696.out
                           obtain ⟨b90_0, b90_1, b90_2, b90_3, b90_4, d90_0, d90_1, d90_2, d90_3, d90_4⟩ := bk5 BK696.out
                           go_wp2_with (first | (go_at_call 24; (with_reducible refine (gates_Check.calls t679 _ _ t680 _ _ t683 _ _ t686 _ _ t689 t698 _ ?side1 ?side2 ?side3 ?side4 ?side5 ?side6 ?side7 ?side8 A81.out).mono ?_); (case side1 => repeat (first | exact (Kd.R_reads' HO_697001.out).2.2 | (with_reducible refine Kd.C_alloc ?_ _) | (with_reducible refine Kd.C_drewN ?_ _) | (with_reducible refine Kd.C_drew ?_))); (case side2 => exact (Kd.R_reads' HO_697001.out).2.1); (case side3 => repeat (first | exact (Kd.R_reads' HO_697002.out).2.2 | (with_reducible refine Kd.C_alloc ?_ _) | (with_reducible refine Kd.C_drewN ?_ _) | (with_reducible refine Kd.C_drew ?_))); (case side4 => exact (Kd.R_reads' HO_697002.out).2.1); (case side5 => repeat (first | exact (Kd.R_reads' HO_697003.out).2.2 | (with_reducible refine Kd.C_alloc ?_ _) | (with_reducible refine Kd.C_drewN ?_ _) | (with_reducible refine Kd.C_drew ?_))); (case side6 => exact (Kd.R_reads' HO_697003.out).2.1); (case side7 => repeat (first | exact (Kd.R_reads' HO_697004.out).2.2 | (with_reducible refine Kd.C_alloc ?_ _) | (with_reducible refine Kd.C_drewN ?_ _) | (with_reducible refine Kd.C_drew ?_))); (case side8 => exact (Kd.R_reads' HO_697004.out).2.1); rintro e w91 ⟨rfl, hb⟩; have n0_ := Aside0.mk (Kd.R_below zq120 hb); have n1_ := Aside0.mk (Kd.R_below zq121 hb); have n2_ := Aside0.mk (Kd.R_below zq122 hb); have n3_ := Aside0.mk (Kd.R_below zq123 hb); have n4_ := Aside0.mk (Kd.R_below zq124 hb); have n5_ := Aside0.mk (Kd.R_below zq125 hb); have n6_ := Aside0.mk (Kd.R_below zq126 hb); have n7_ := Aside0.mk (Kd.R_below zq127 hb); have n8_ := Aside0.mk (Kd.R_below zq128 hb); have n9_ := Aside0.mk (Kd.R_below zq129 hb); have n10_ := Aside0.mk (Kd.R_below zq130 hb); have n11_ := Aside0.mk (Kd.R_below zq131 hb); have n12_ := Aside0.mk (Kd.R_below zq132 hb); have n13_ := Aside0.mk (blk_below (g := gb624) (o := .cells #[.int .i64 a0_0, .slice A0_1 l0_1.length c0_1, .slice A0_2 l0_2.length c0_2, .slice A0_3 l0_3.length c0_3, .slice A0_4 l0_4.length c0_4, .slice A0_5 l0_5.length c0_5] 30 (0, 0)) zq116 hb); have n14_ := Aside0.mk (blk_below (g := gb643) (o := .cells #[.int .i64 t627, .slice Ao33 t628.length co33, .slice Ao34 t631.length co34, .slice Ao46 y658.length co46, .slice Ao36 t637.length co36, .slice Ao37 t640.length co37] 30 (0, 0)) zq117 hb); have n15_ := Aside0.mk (blk_below (g := gb678) (o := .cells #[.int .i64 t661, .slice Ao54 t662.length co54, .slice Ao55 t665.length co55, .slice Ao56 t668.length co56, .slice Ao57 t671.length co57] 26 (0, 0)) zq118 hb); have n16_ := Aside0.mk (blk_below (g := gb696) (o := .cells #[.int .i64 t679, .slice Ao65 t680.length co65, .slice Ao66 t683.length co66, .slice Ao67 t686.length co67, .slice Ao68 t689.length co68] 26 (0, 0)) zq119 hb); have n17_ := Aside0.mk (below_step zq61 hb); clear HO_644001; clear HO_644002; clear HO_644003; clear HO_644004; clear HO_644005; clear HO_679001; clear HO_679002; clear HO_679003; clear HO_679004; clear HO_697001; clear HO_697002; clear HO_697003; clear HO_697004; clear BK624; clear BK643; clear BK678; clear BK696; clear HB; have HO_644001 := n0_; have HO_644002 := n1_; have HO_644003 := n2_; have HO_644004 := n3_; have HO_644005 := n4_; have HO_679001 := n5_; have HO_679002 := n6_; have HO_679003 := n7_; have HO_679004 := n8_; have HO_697001 := n9_; have HO_697002 := n10_; have HO_697003 := n11_; have HO_697004 := n12_; have BK624 := n13_; have BK643 := n14_; have BK678 := n15_; have BK696 := n16_; have HB := n17_; clear n0_ n1_ n2_ n3_ n4_ n5_ n6_ n7_ n8_ n9_ n10_ n11_ n12_ n13_ n14_ n15_ n16_ n17_; (try clear hb); (try clear hb2); (try clear hk); (try clear hi)) | (go_at_call 22; (with_reducible refine (l3_alive.calls kj26  true _ A83.out).mono ?_); rintro e w92 ⟨rfl, hb⟩; have n0_ := Aside0.mk (Kd.R_below zq120 hb); have n1_ := Aside0.mk (Kd.R_below zq121 hb); have n2_ := Aside0.mk (Kd.R_below zq122 hb); have n3_ := Aside0.mk (Kd.R_below zq123 hb); have n4_ := Aside0.mk (Kd.R_below zq124 hb); have n5_ := Aside0.mk (Kd.R_below zq125 hb); have n6_ := Aside0.mk (Kd.R_below zq126 hb); have n7_ := Aside0.mk (Kd.R_below zq127 hb); have n8_ := Aside0.mk (Kd.R_below zq128 hb); have n9_ := Aside0.mk (Kd.R_below zq129 hb); have n10_ := Aside0.mk (Kd.R_below zq130 hb); have n11_ := Aside0.mk (Kd.R_below zq131 hb); have n12_ := Aside0.mk (Kd.R_below zq132 hb); have n13_ := Aside0.mk (blk_below (g := gb624) (o := .cells #[.int .i64 a0_0, .slice A0_1 l0_1.length c0_1, .slice A0_2 l0_2.length c0_2, .slice A0_3 l0_3.length c0_3, .slice A0_4 l0_4.length c0_4, .slice A0_5 l0_5.length c0_5] 30 (0, 0)) zq116 hb); have n14_ := Aside0.mk (blk_below (g := gb643) (o := .cells #[.int .i64 t627, .slice Ao33 t628.length co33, .slice Ao34 t631.length co34, .slice Ao46 y658.length co46, .slice Ao36 t637.length co36, .slice Ao37 t640.length co37] 30 (0, 0)) zq117 hb); have n15_ := Aside0.mk (blk_below (g := gb678) (o := .cells #[.int .i64 t661, .slice Ao54 t662.length co54, .slice Ao55 t665.length co55, .slice Ao56 t668.length co56, .slice Ao57 t671.length co57] 26 (0, 0)) zq118 hb); have n16_ := Aside0.mk (blk_below (g := gb696) (o := .cells #[.int .i64 t679, .slice Ao65 t680.length co65, .slice Ao66 t683.length co66, .slice Ao67 t686.length co67, .slice Ao68 t689.length co68] 26 (0, 0)) zq119 hb); have n17_ := Aside0.mk (below_step zq61 hb); clear HO_644001; clear HO_644002; clear HO_644003; clear HO_644004; clear HO_644005; clear HO_679001; clear HO_679002; clear HO_679003; clear HO_679004; clear HO_697001; clear HO_697002; clear HO_697003; clear HO_697004; clear BK624; clear BK643; clear BK678; clear BK696; clear HB; have HO_644001 := n0_; have HO_644002 := n1_; have HO_644003 := n2_; have HO_644004 := n3_; have HO_644005 := n4_; have HO_679001 := n5_; have HO_679002 := n6_; have HO_679003 := n7_; have HO_679004 := n8_; have HO_697001 := n9_; have HO_697002 := n10_; have HO_697003 := n11_; have HO_697004 := n12_; have BK624 := n13_; have BK643 := n14_; have BK678 := n15_; have BK696 := n16_; have HB := n17_; clear n0_ n1_ n2_ n3_ n4_ n5_ n6_ n7_ n8_ n9_ n10_ n11_ n12_ n13_ n14_ n15_ n16_ n17_; (try clear hb); (try clear hb2); (try clear hk); (try clear hi)))
                           go_ret
                           exact ⟨zq171, zq61⟩
                         · rw [if_neg c82] at H
                           have c82b0 : (t698 == 0) = false := beq_eq_false_iff_ne.mpr c82
                           have c82b1 : (t698 != 0) = true := bne_iff_ne.mpr c82
                           cases H
                       · rw [if_neg c80] at H
                         have c80b0 : (t677 == 0) = false := beq_eq_false_iff_ne.mpr c80
                         have c80b1 : (t677 != 0) = true := bne_iff_ne.mpr c80
                         replace H := Option.bind_eq_some_iff.mp H
                         obtain ⟨t700, A1010, H⟩ := H
                         replace H : (some t700) = some true := H
                         have A101 := Aside0.mk A1010
                         clear A1010
                         obtain rfl := Option.some.inj H
                         have hnb102 := NB678_624.out
                         have hnc102 := NB624_678.out
                         have hnb103 := NB678_643.out
                         have hnc103 := NB643_678.out
                         have hnb104 := NB678_696.out
                         have hnc104 := NB696_678.out
                         obtain ⟨b105_0, b105_1, b105_2, b105_3, b105_4, d105_0, d105_1, d105_2, d105_3, d105_4⟩ := bk5 BK678.out
                         have hnb106 := NB696_624.out
                         have hnc106 := NB624_696.out
                         have hnb107 := NB696_643.out
                         have hnc107 := NB643_696.out
                         obtain ⟨b108_0, b108_1, b108_2, b108_3, b108_4, d108_0, d108_1, d108_2, d108_3, d108_4⟩ := bk5 BK696.out
                         go_wp2_with (first | (go_at_call 22; (with_reducible refine (l3_alive.calls kj26  true _ A101.out).mono ?_); rintro e w109 ⟨rfl, hb⟩; have n0_ := Aside0.mk (Kd.R_below zq120 hb); have n1_ := Aside0.mk (Kd.R_below zq121 hb); have n2_ := Aside0.mk (Kd.R_below zq122 hb); have n3_ := Aside0.mk (Kd.R_below zq123 hb); have n4_ := Aside0.mk (Kd.R_below zq124 hb); have n5_ := Aside0.mk (Kd.R_below zq125 hb); have n6_ := Aside0.mk (Kd.R_below zq126 hb); have n7_ := Aside0.mk (Kd.R_below zq127 hb); have n8_ := Aside0.mk (Kd.R_below zq128 hb); have n9_ := Aside0.mk (Kd.R_below zq129 hb); have n10_ := Aside0.mk (Kd.R_below zq130 hb); have n11_ := Aside0.mk (Kd.R_below zq131 hb); have n12_ := Aside0.mk (Kd.R_below zq132 hb); have n13_ := Aside0.mk (blk_below (g := gb624) (o := .cells #[.int .i64 a0_0, .slice A0_1 l0_1.length c0_1, .slice A0_2 l0_2.length c0_2, .slice A0_3 l0_3.length c0_3, .slice A0_4 l0_4.length c0_4, .slice A0_5 l0_5.length c0_5] 30 (0, 0)) zq116 hb); have n14_ := Aside0.mk (blk_below (g := gb643) (o := .cells #[.int .i64 t627, .slice Ao33 t628.length co33, .slice Ao34 t631.length co34, .slice Ao46 y658.length co46, .slice Ao36 t637.length co36, .slice Ao37 t640.length co37] 30 (0, 0)) zq117 hb); have n15_ := Aside0.mk (blk_below (g := gb678) (o := .cells #[.int .i64 t661, .slice Ao54 t662.length co54, .slice Ao55 t665.length co55, .slice Ao56 t668.length co56, .slice Ao57 t671.length co57] 26 (0, 0)) zq118 hb); have n16_ := Aside0.mk (blk_below (g := gb696) (o := .cells #[.int .i64 t679, .slice Ao65 t680.length co65, .slice Ao66 t683.length co66, .slice Ao67 t686.length co67, .slice Ao68 t689.length co68] 26 (0, 0)) zq119 hb); have n17_ := Aside0.mk (below_step zq61 hb); clear HO_644001; clear HO_644002; clear HO_644003; clear HO_644004; clear HO_644005; clear HO_679001; clear HO_679002; clear HO_679003; clear HO_679004; clear HO_697001; clear HO_697002; clear HO_697003; clear HO_697004; clear BK624; clear BK643; clear BK678; clear BK696; clear HB; have HO_644001 := n0_; have HO_644002 := n1_; have HO_644003 := n2_; have HO_644004 := n3_; have HO_644005 := n4_; have HO_679001 := n5_; have HO_679002 := n6_; have HO_679003 := n7_; have HO_679004 := n8_; have HO_697001 := n9_; have HO_697002 := n10_; have HO_697003 := n11_; have HO_697004 := n12_; have BK624 := n13_; have BK643 := n14_; have BK678 := n15_; have BK696 := n16_; have HB := n17_; clear n0_ n1_ n2_ n3_ n4_ n5_ n6_ n7_ n8_ n9_ n10_ n11_ n12_ n13_ n14_ n15_ n16_ n17_; (try clear hb); (try clear hb2); (try clear hk); (try clear hi)))
                         go_ret
                         exact ⟨zq171, zq61⟩
                     · rw [if_neg c79] at H
                       have c79b0 : ((t662.length : Int) == (t680.length : Int)) = false := beq_eq_false_iff_ne.mpr c79
                       have c79b1 : ((t662.length : Int) != (t680.length : Int)) = true := bne_iff_ne.mpr c79
                       have c79b2 : (t662.length == t680.length) = false := by first | simpa using c79 | (simp at c79 ⊢; omega)
                       cases H
                   · rw [if_neg c78] at H
                     have c78b0 : (t661 == t679) = false := beq_eq_false_iff_ne.mpr c78
                     have c78b1 : (t661 != t679) = true := bne_iff_ne.mpr c78
                     cases H
                 · rw [if_neg c77] at H
                   have c77b0 : ((t665.length : Int) == (t683.length : Int)) = false := beq_eq_false_iff_ne.mpr c77
                   have c77b1 : ((t665.length : Int) != (t683.length : Int)) = true := bne_iff_ne.mpr c77
                   have c77b2 : (t665.length == t683.length) = false := by first | simpa using c77 | (simp at c77 ⊢; omega)
                   cases H
           · rw [if_neg c24] at H
             exact absurd H (by simp)
         · rw [if_neg c21] at H
           exact absurd H (by simp)
       · rw [if_neg c20] at H
         exact absurd H (by simp)
     · rw [if_neg c19] at H
       exact absurd H (by simp)
end Go.Proofs.Ytpdlkjpemplhoaa.P
namespace Go.Proofs.Ytpdlkjpemplhoaa.P
open Go.RowKit Go.Proofs.YtpdlkjpemplhoaaW.PrintWords Go.Proofs.YtpdlkjpemplhoaaW.PrintLast Go.Proofs.YtpdlkjpemplhoaaW.PrintMore
set_option linter.unusedVariables false
def gt (xs : List Int) (j : Nat) : Int := xs.getD j 0
theorem rd_gt (xs : List Int) (j : Nat) : rd xs (j : Int) = gt xs j := by simp [rd, gt]
theorem gt_get (xs : List Int) (j : Nat) (h : j < xs.length) : gt xs j = xs[j] := by simp [gt, h]
theorem gt_set (xs : List Int) (i j : Nat) (v : Int) (hi : i < xs.length) : gt (xs.set i v) j = if j = i then v else gt xs j := by
  unfold gt
  rw [List.getD_eq_getElem?_getD, List.getElem?_set]
  by_cases e : i = j
  · subst e; simp [hi]
  · rw [if_neg e, if_neg (fun h => e h.symm), List.getD_eq_getElem?_getD]
theorem gt_swap (xs : List Int) (i j k : Nat) (hi : i < xs.length) (hj : j < xs.length) : gt (swapL xs i j) k = if k = j then gt xs i else if k = i then gt xs j else gt xs k := by
  unfold swapL
  rw [gt_set _ _ _ _ (by simpa using hj), gt_set _ _ _ _ hi, rd_gt, rd_gt]
theorem swap_perm (xs : List Int) (i j : Nat) (hi : i < xs.length) (hj : j < xs.length) : (swapL xs i j).Perm xs := by
  have := List.set_set_perm hi hj
  unfold swapL
  rw [rd_gt, rd_gt, gt_get _ _ hi, gt_get _ _ hj]
  exact this
def isHeap (xs : List Int) : Prop := ∀ k, 0 < k → k < xs.length → gt xs ((k - 1) / 2) ≤ gt xs k
theorem root_le (xs : List Int) (h : isHeap xs) : ∀ k, k < xs.length → gt xs 0 ≤ gt xs k := by
  intro k
  induction k using Nat.strongRecOn with
  | _ k ih =>
    intro hk
    by_cases h0 : k = 0
    · subst h0; exact Int.le_refl _
    · exact Int.le_trans (ih ((k - 1) / 2) (by omega) (by omega)) (h k (by omega) hk)
theorem up_ok (j : Nat) : ∀ xs : List Int, j < xs.length → (∀ k, 0 < k → k < xs.length → k ≠ j → gt xs ((k - 1) / 2) ≤ gt xs k) → (0 < j → ∀ k, 0 < k → k < xs.length → (k - 1) / 2 = j → gt xs ((j - 1) / 2) ≤ gt xs k) →
    isHeap (upL (j + 1) xs j) ∧ (upL (j + 1) xs j).Perm xs := by
  induction j using Nat.strongRecOn with
  | _ j ih =>
    intro xs hj h1 h2
    simp only [upL]
    by_cases h0 : (j - 1) / 2 = j
    · rw [if_pos h0]
      have : j = 0 := by omega
      subst this
      exact ⟨fun k hk hl => h1 k hk hl (by omega), List.Perm.refl _⟩
    · rw [if_neg h0]
      obtain ⟨i, hi⟩ : ∃ i, i = (j - 1) / 2 := ⟨_, rfl⟩
      rw [← hi, rd_gt, rd_gt]
      have hij : i < j := by omega
      by_cases hc : gt xs j < gt xs i
      · rw [if_pos hc, upL_more i j _ hij]
        have hsw := fun k => gt_swap xs i j k (by omega) hj
        obtain ⟨g1, g2⟩ := ih i hij (swapL xs i j) (by rw [swapL_length]; omega) (by
          intro k hk hl hne
          rw [swapL_length] at hl
          rw [hsw, hsw]
          by_cases e1 : k = j
          · subst e1; rw [← hi, if_neg (by omega), if_pos rfl, if_pos rfl]; exact Int.le_of_lt hc
          · by_cases e2 : (k - 1) / 2 = i
            · rw [e2, if_neg (by omega), if_pos rfl, if_neg e1, if_neg hne]
              have := h1 k hk hl e1
              rw [e2] at this
              omega
            · by_cases e3 : (k - 1) / 2 = j
              · rw [e3, if_pos rfl, if_neg e1, if_neg hne]
                have := h2 (by omega) k hk hl e3
                rw [← hi] at this; exact this
              · rw [if_neg e3, if_neg e2, if_neg e1, if_neg hne]; exact h1 k hk hl e1) (by
          intro hi0 k hk hl hp
          rw [swapL_length] at hl
          have hpi := h1 i hi0 (by omega) (by omega)
          rw [hsw, hsw]
          rw [if_neg (by omega : (i - 1) / 2 ≠ j), if_neg (by omega : (i - 1) / 2 ≠ i)]
          by_cases e1 : k = j
          · subst e1; rw [if_pos rfl]; exact hpi
          · rw [if_neg e1, if_neg (by omega : k ≠ i)]
            have := h1 k hk hl e1
            rw [hp] at this
            omega)
        exact ⟨g1, g2.trans (swap_perm xs i j (by omega) hj)⟩
      · rw [if_neg hc]
        refine ⟨fun k hk hl => ?_, List.Perm.refl _⟩
        by_cases e : k = j
        · subst e; rw [← hi]; omega
        · exact h1 k hk hl e
theorem gt_append_left (xs : List Int) (v : Int) (k : Nat) (h : k < xs.length) : gt (xs ++ [v]) k = gt xs k := by
  unfold gt; rw [List.getD_eq_getElem?_getD, List.getElem?_append_left h, List.getD_eq_getElem?_getD]
theorem push_ok (xs : List Int) (v : Int) (h : isHeap xs) : isHeap (pushL xs v) ∧ (pushL xs v).Perm (v :: xs) := by
  unfold pushL
  obtain ⟨g1, g2⟩ := up_ok xs.length (xs ++ [v]) (by simp) (by
    intro k hk hl hne
    simp at hl
    rw [gt_append_left _ _ _ (by omega), gt_append_left _ _ _ (by omega)]
    exact h k hk (by omega)) (by
    intro h0 k hk hl hp
    simp at hl
    omega)
  exact ⟨g1, g2.trans (List.perm_append_singleton v xs)⟩
theorem down_ok (n : Nat) : ∀ (d i : Nat) (xs : List Int), n - i ≤ d → n ≤ xs.length → (∀ k, 0 < k → k < n → (k - 1) / 2 ≠ i → gt xs ((k - 1) / 2) ≤ gt xs k) → (0 < i → ∀ k, 0 < k → k < n → (k - 1) / 2 = i → gt xs ((i - 1) / 2) ≤ gt xs k) →
    (∀ k, 0 < k → k < n → gt (downL (n - i + 1) xs i n) ((k - 1) / 2) ≤ gt (downL (n - i + 1) xs i n) k) ∧ (downL (n - i + 1) xs i n).Perm xs ∧ ∀ k, n ≤ k → gt (downL (n - i + 1) xs i n) k = gt xs k := by
  intro d
  induction d with
  | zero =>
    intro i xs hd hn h1 h2
    simp only [downL]
    rw [if_pos (by omega)]
    exact ⟨fun k hk hl => h1 k hk hl (by omega), List.Perm.refl _, fun _ _ => rfl⟩
  | succ d ih =>
    intro i xs hd hn h1 h2
    simp only [downL]
    by_cases hx : n ≤ 2 * i + 1
    · rw [if_pos hx]
      exact ⟨fun k hk hl => h1 k hk hl (by omega), List.Perm.refl _, fun _ _ => rfl⟩
    · rw [if_neg hx]
      obtain ⟨m, hm⟩ : ∃ m, m = kidL xs i n := ⟨_, rfl⟩
      have hmi : i < m := by rw [hm]; exact kidL_gt xs i n
      have hmn : m < n := by rw [hm]; exact kidL_lt xs i n (by omega)
      have hmp : (m - 1) / 2 = i := by rw [hm]; unfold kidL; split <;> omega
      have hml : ∀ k, 0 < k → k < n → (k - 1) / 2 = i → gt xs m ≤ gt xs k := by
        intro k hk hl hp
        have hk2 : k = 2 * i + 1 ∨ k = 2 * i + 2 := by omega
        rw [hm]
        unfold kidL
        rw [rd_gt, rd_gt]
        by_cases c : 2 * i + 2 < n ∧ gt xs (2 * i + 2) < gt xs (2 * i + 1)
        · rw [if_pos c]; rcases hk2 with rfl | rfl <;> omega
        · rw [if_neg c]
          rcases hk2 with rfl | rfl
          · exact Int.le_refl _
          · have : ¬ gt xs (2 * i + 2) < gt xs (2 * i + 1) := fun hc => c ⟨by omega, hc⟩
            omega
      rw [← hm, rd_gt, rd_gt]
      by_cases hc : gt xs m < gt xs i
      · rw [if_pos hc]
        have hsw := fun k => gt_swap xs i m k (by omega) (by omega)
        rw [downL_more n n (n - i) (swapL xs i m) m (by omega) (by omega)]
        obtain ⟨g1, g2, g3⟩ := ih m (swapL xs i m) (by omega) (by rw [swapL_length]; exact hn) (by
          intro k hk hl hne
          rw [hsw, hsw]
          by_cases e1 : k = m
          · subst e1; rw [hmp, if_neg (by omega), if_pos rfl, if_pos rfl]; exact Int.le_of_lt hc
          · by_cases e2 : (k - 1) / 2 = i
            · rw [e2, if_neg (by omega), if_pos rfl, if_neg e1, if_neg (by omega)]
              exact hml k hk hl e2
            · rw [if_neg hne, if_neg e2, if_neg e1]
              by_cases e3 : k = i
              · subst e3; rw [if_pos rfl]
                exact h2 hk m (by omega) hmn hmp
              · rw [if_neg e3]; exact h1 k hk hl e2) (by
          intro hm0 k hk hl hp
          rw [hsw, hsw, hmp, if_neg (by omega), if_pos rfl, if_neg (by omega), if_neg (by omega)]
          have := h1 k hk hl (by omega)
          rw [hp] at this; exact this)
        refine ⟨g1, g2.trans (swap_perm xs i m (by omega) (by omega)), fun k hk => ?_⟩
        rw [g3 k hk, hsw, if_neg (by omega), if_neg (by omega)]
      · rw [if_neg hc]
        refine ⟨fun k hk hl => ?_, List.Perm.refl _, fun _ _ => rfl⟩
        by_cases e : (k - 1) / 2 = i
        · rw [e]; have := hml k hk hl e; omega
        · exact h1 k hk hl e
theorem gt_take (xs : List Int) (n k : Nat) (h : k < n) : gt (xs.take n) k = gt xs k := by
  unfold gt; rw [List.getD_eq_getElem?_getD, List.getElem?_take, if_pos h, List.getD_eq_getElem?_getD]
theorem pop_ok (xs : List Int) (n : Nat) (hn : xs.length = n + 1) (h : isHeap xs) :
    isHeap ((popL xs n).take n) ∧ rd (popL xs n) (n : Int) = gt xs 0 ∧ (gt xs 0 :: (popL xs n).take n).Perm xs := by
  have hsw := fun k => gt_swap xs 0 n k (by omega) (by omega)
  obtain ⟨g1, g2, g3⟩ := down_ok n n 0 (swapL xs 0 n) (by omega) (by rw [swapL_length]; omega) (by
    intro k hk hl hne
    rw [hsw, hsw, if_neg (by omega), if_neg hne, if_neg (by omega), if_neg (by omega)]
    exact h k hk (by omega)) (by intro h0; omega)
  have hp : popL xs n = downL (n - 0 + 1) (swapL xs 0 n) 0 n := rfl
  rw [← hp] at g1 g2 g3
  have hlast : gt (popL xs n) n = gt xs 0 := by
    rw [g3 n (Nat.le_refl _), hsw, if_pos rfl]
  refine ⟨fun k hk hl => ?_, by rw [rd_gt]; exact hlast, ?_⟩
  · rw [List.length_take] at hl
    rw [gt_take _ _ _ (by omega), gt_take _ _ _ (by omega)]
    exact g1 k hk (by omega)
  · have hlen : (popL xs n).length = n + 1 := by rw [popL_length, hn]
    have e : popL xs n = (popL xs n).take n ++ [gt xs 0] := by
      have h1 := List.take_append_drop n (popL xs n)
      have h2 : (popL xs n).drop n = [gt xs 0] := by
        rw [List.drop_eq_getElem_cons (by omega), ← gt_get _ _ (by omega), hlast, List.drop_eq_nil_of_le (by omega)]
      rw [h2] at h1
      exact h1.symm
    have hperm : ((popL xs n).take n ++ [gt xs 0]).Perm xs := by rw [← e]; exact g2.trans (swap_perm xs 0 n (by omega) (by omega))
    exact (List.perm_append_singleton _ _).symm.trans hperm
end Go.Proofs.Ytpdlkjpemplhoaa.P
namespace Go.Proofs.Ytpdlkjpemplhoaa.P
open Go.RowKit Go.Proofs.YtpdlkjpemplhoaaW.PrintWords Go.Proofs.YtpdlkjpemplhoaaW.PrintLast Go.Proofs.YtpdlkjpemplhoaaW.PrintMore
set_option linter.unusedVariables false
set_option linter.unusedSimpArgs false
def vrD (d : S56) : Nat := (d.f0 / 2).toNat
def paD (d : S56) : Nat := (d.f1 / 2).toNat
def pbD (d : S56) : Nat := (d.f2 / 2).toNat
def vr (ands : List S56) (i : Nat) : Nat := vrD (rd_T56 ands (i : Int))
def pa (ands : List S56) (i : Nat) : Nat := paD (rd_T56 ands (i : Int))
def pb (ands : List S56) (i : Nat) : Nat := pbD (rd_T56 ands (i : Int))
def isG (ands : List S56) (u : Nat) : Bool := (List.range ands.length).any (fun i => vr ands i == u)
def rv (ands : List S56) (done : List Nat) (u : Nat) : Bool := !isG ands u || done.any (fun i => vr ands i == u)
def nextP (ands : List S56) (done : List Nat) (i : Nat) : Bool := !done.contains i && (rv ands done (pa ands i) && rv ands done (pb ands i))
def ordS (ands : List S56) : Nat → List Nat → List Nat
  | 0, done => done
  | f + 1, done => match (List.range ands.length).find? (nextP ands done) with
    | none => done
    | some i => ordS ands f (done ++ [i])
structure Ok (m : Nat) (ands : List S56) : Prop where
  lit : ∀ d ∈ ands, 0 ≤ d.f0 ∧ d.f0 / 2 ≤ (m : Int)
  p1 : ∀ d ∈ ands, 0 ≤ d.f1 ∧ d.f1 / 2 ≤ (m : Int)
  p2 : ∀ d ∈ ands, 0 ≤ d.f2 ∧ d.f2 / 2 ≤ (m : Int)
  small : m ≤ 1000 ∧ ands.length ≤ 1000
  once : ∀ i j, i < ands.length → j < ands.length → vr ands i = vr ands j → i = j
theorem rdT_mem {ands : List S56} {i : Nat} (h : i < ands.length) : rd_T56 ands (i : Int) ∈ ands := by
  have : rd_T56 ands (i : Int) = ands[i] := by simp [rd_T56, h]
  rw [this]; exact List.getElem_mem h
theorem rdT_drop {b : List S56} {i : Nat} (h : i < b.length) : b.drop i = rd_T56 b (i : Int) :: b.drop (i + 1) := by
  rw [List.drop_eq_getElem_cons h]
  simp [rd_T56, h]
section
variable {m : Nat} {ands : List S56}
theorem Ok.vr_le (h : Ok m ands) {i : Nat} (hi : i < ands.length) : vr ands i ≤ m ∧ (rd_T56 ands (i : Int)).f0 / 2 = (vr ands i : Int) ∧ 0 ≤ (rd_T56 ands (i : Int)).f0 := by
  have := h.lit _ (rdT_mem hi)
  unfold vr vrD; omega
theorem Ok.pa_le (h : Ok m ands) {i : Nat} (hi : i < ands.length) : pa ands i ≤ m ∧ (rd_T56 ands (i : Int)).f1 / 2 = (pa ands i : Int) ∧ 0 ≤ (rd_T56 ands (i : Int)).f1 := by
  have := h.p1 _ (rdT_mem hi)
  unfold pa paD; omega
theorem Ok.pb_le (h : Ok m ands) {i : Nat} (hi : i < ands.length) : pb ands i ≤ m ∧ (rd_T56 ands (i : Int)).f2 / 2 = (pb ands i : Int) ∧ 0 ≤ (rd_T56 ands (i : Int)).f2 := by
  have := h.p2 _ (rdT_mem hi)
  unfold pb pbD; omega
theorem isG_vr {i : Nat} (hi : i < ands.length) : isG ands (vr ands i) = true := by
  unfold isG; rw [List.any_eq_true]; exact ⟨i, List.mem_range.2 hi, by simp⟩
end
theorem getD_set_bool (gs : List Bool) (i j : Nat) (hi : i < gs.length) : (gs.set i true).getD j false = (gs.getD j false || i == j) := by
  rw [List.getD_eq_getElem?_getD, List.getElem?_set, List.getD_eq_getElem?_getD]
  by_cases e : i = j
  · subst e; simp [hi]
  · rw [if_neg e]; simp [e]
theorem mark_ok : ∀ (l : List S56) (gs : List Bool), (∀ d ∈ l, 0 ≤ d.f0 ∧ d.f0 / 2 < (gs.length : Int)) →
    ∃ gs', srtMark l gs = some gs' ∧ gs'.length = gs.length ∧ ∀ u, gs'.getD u false = (gs.getD u false || l.any (fun d => vrD d == u)) := by
  intro l
  induction l with
  | nil => intro gs _; exact ⟨gs, rfl, rfl, fun u => by simp⟩
  | cons d t ih =>
    intro gs h
    have hd := h d List.mem_cons_self
    obtain ⟨gs', h1, h2, h3⟩ := ih (gs.set (d.f0 / 2).toNat true) (fun x hx => by rw [List.length_set]; exact h x (List.mem_cons_of_mem _ hx))
    refine ⟨gs', by simp only [srtMark]; rw [if_pos hd]; exact h1, by rw [h2, List.length_set], fun u => ?_⟩
    rw [h3, getD_set_bool _ _ _ (by omega), List.any_cons, Bool.or_assoc]
    rfl
theorem any_range (ands : List S56) (p : S56 → Bool) : ands.any p = (List.range ands.length).any (fun i => p (rd_T56 ands (i : Int))) := by
  rw [Bool.eq_iff_iff, List.any_eq_true, List.any_eq_true]
  constructor
  · rintro ⟨d, hd, h⟩
    obtain ⟨i, hi, rfl⟩ := List.getElem_of_mem hd
    exact ⟨i, List.mem_range.2 hi, by have : rd_T56 ands (i : Int) = ands[i] := by simp [rd_T56, hi]
                                      rw [this]; exact h⟩
  · rintro ⟨i, hi, h⟩
    exact ⟨_, rdT_mem (List.mem_range.1 hi), h⟩
theorem marks (m : Nat) (ands : List S56) (h : Ok m ands) : ∃ gs, srtMark ands (List.replicate (m + 1) false) = some gs ∧ gs.length = m + 1 ∧ ∀ u, gs.getD u false = isG ands u := by
  obtain ⟨gs, h1, h2, h3⟩ := mark_ok ands (List.replicate (m + 1) false) (fun d hd => by have := h.lit d hd; rw [List.length_replicate]; omega)
  refine ⟨gs, h1, by rw [h2, List.length_replicate], fun u => ?_⟩
  rw [h3, any_range]
  have : (List.replicate (m + 1) false).getD u false = false := by
    rw [List.getD_eq_getElem?_getD, List.getElem?_replicate]; split <;> rfl
  rw [this, Bool.false_or]
  rfl
def one (b : Bool) : Int := if b then 0 else 1
def cnt (ands : List S56) (done : List Nat) (k : Nat) : Int := one (rv ands done (pa ands k)) + one (rv ands done (pb ands k))
def wl (ands : List S56) (i u : Nat) : List Int :=
  if isG ands u then (List.range i).flatMap (fun k => (if pa ands k = u then [(k : Int)] else []) ++ (if pb ands k = u then [(k : Int)] else [])) else []
theorem wl_succ (ands : List S56) (i u : Nat) : wl ands (i + 1) u = if isG ands u then wl ands i u ++ ((if pa ands i = u then [(i : Int)] else []) ++ (if pb ands i = u then [(i : Int)] else [])) else [] := by
  unfold wl
  by_cases h : isG ands u = true
  · rw [if_pos h, if_pos h, if_pos h, List.range_succ, List.flatMap_append]
    simp
  · rw [if_neg h, if_neg h]
theorem wl_len (ands : List S56) (i u : Nat) : (wl ands i u).length ≤ 2 * i := by
  induction i with
  | zero => unfold wl; split <;> simp
  | succ i ih =>
    rw [wl_succ]
    split
    · rw [List.length_append, List.length_append]
      have h1 : (if pa ands i = u then [(i : Int)] else []).length ≤ 1 := by split <;> simp
      have h2 : (if pb ands i = u then [(i : Int)] else []).length ≤ 1 := by split <;> simp
      omega
    · simp
theorem wl_mem (ands : List S56) (i u : Nat) : ∀ x ∈ wl ands i u, ∃ k, k < i ∧ x = (k : Int) := by
  intro x hx
  unfold wl at hx
  split at hx
  · obtain ⟨k, hk, h⟩ := List.mem_flatMap.1 hx
    refine ⟨k, List.mem_range.1 hk, ?_⟩
    rcases List.mem_append.1 h with h | h
    · split at h <;> simp_all
    · split at h <;> simp_all
  · cases hx
theorem wl_count (ands : List S56) (u k : Nat) (hu : isG ands u = true) (i : Nat) : (wl ands i u).count (k : Int) = if k < i then (if pa ands k = u then 1 else 0) + (if pb ands k = u then 1 else 0) else 0 := by
  induction i with
  | zero => unfold wl; rw [if_pos hu]; simp
  | succ i ih =>
    rw [wl_succ, if_pos hu, List.count_append, ih, List.count_append]
    by_cases e : k = i
    · subst e
      have h1 : (if pa ands k = u then [(k : Int)] else []).count (k : Int) = if pa ands k = u then 1 else 0 := by split <;> simp
      have h2 : (if pb ands k = u then [(k : Int)] else []).count (k : Int) = if pb ands k = u then 1 else 0 := by split <;> simp
      rw [h1, h2, if_neg (Nat.lt_irrefl k), if_pos (Nat.lt_succ_self k), Nat.zero_add]
    · have hne : (i : Int) ≠ (k : Int) := by omega
      have h1 : (if pa ands i = u then [(i : Int)] else []).count (k : Int) = 0 := by split <;> simp [List.count_cons, hne]
      have h2 : (if pb ands i = u then [(i : Int)] else []).count (k : Int) = 0 := by split <;> simp [List.count_cons, hne]
      rw [h1, h2]
      by_cases hk : k < i
      · rw [if_pos hk, if_pos (show k < i + 1 by omega)]; rfl
      · rw [if_neg hk, if_neg (show ¬ k < i + 1 by omega)]
end Go.Proofs.Ytpdlkjpemplhoaa.P
namespace Go.Proofs.Ytpdlkjpemplhoaa.P
open Go.RowKit Go.Proofs.YtpdlkjpemplhoaaW.PrintWords Go.Proofs.YtpdlkjpemplhoaaW.PrintLast Go.Proofs.YtpdlkjpemplhoaaW.PrintMore
set_option linter.unusedVariables false
set_option linter.unusedSimpArgs false
theorem one_cases (b : Bool) : one b = 0 ∨ one b = 1 := by cases b <;> simp [one]
theorem cnt_range (ands : List S56) (done : List Nat) (k : Nat) : 0 ≤ cnt ands done k ∧ cnt ands done k ≤ 2 := by
  unfold cnt
  rcases one_cases (rv ands done (pa ands k)) with h | h <;> rcases one_cases (rv ands done (pb ands k)) with h2 | h2 <;> rw [h, h2] <;> omega
theorem cnt_zero (ands : List S56) (done : List Nat) (k : Nat) : cnt ands done k = 0 ↔ (rv ands done (pa ands k) && rv ands done (pb ands k)) = true := by
  unfold cnt one
  cases rv ands done (pa ands k) <;> cases rv ands done (pb ands k) <;> simp
theorem rv_nil (ands : List S56) (u : Nat) : rv ands [] u = !isG ands u := by simp [rv]
theorem getD_set_list {α : Type} (xs : List α) (z : α) (i j : Nat) (v : α) (hi : i < xs.length) : (xs.set i v).getD j z = if j = i then v else xs.getD j z := by
  rw [List.getD_eq_getElem?_getD, List.getElem?_set]
  by_cases e : i = j
  · subst e; simp [hi]
  · rw [if_neg e, if_neg (fun h => e h.symm), List.getD_eq_getElem?_getD]
theorem part_ok (gs : List Bool) (i : Nat) (l : Int) (u : Nat) (hl : 0 ≤ l) (hu : l / 2 = (u : Int)) (ws : List (List Int)) (ms : List Int) (hg : u < gs.length) (hw : u < ws.length) (hi : i < ms.length) (hm : 0 ≤ gt ms i ∧ gt ms i ≤ 10) (hr : (ws.getD u []).length ≤ 10000) :
    ∃ ws' ms', srtPart gs i l ws ms = some (ws', ms') ∧ ws'.length = ws.length ∧ ms'.length = ms.length ∧
      (∀ v, ws'.getD v [] = if v = u ∧ gs.getD u false = true then ws.getD v [] ++ [(i : Int)] else ws.getD v []) ∧
      (∀ k, gt ms' k = if k = i ∧ gs.getD u false = true then gt ms k + 1 else gt ms k) := by
  unfold srtPart
  rw [hu, Int.toNat_natCast, rd_gt]
  rw [if_pos ⟨hl, by omega, by omega, hi, by omega, by omega, by omega⟩]
  have hrd : rdOf false gs (u : Int) = gs.getD u false := by simp [rdOf]
  rw [hrd]
  by_cases c : gs.getD u false = true
  · rw [if_pos c]
    refine ⟨_, _, rfl, by simp, by simp, fun v => ?_, fun k => ?_⟩
    · rw [getD_set_list _ _ _ _ _ hw]
      by_cases e : v = u
      · subst e; rw [if_pos rfl, if_pos ⟨rfl, c⟩]
      · rw [if_neg e, if_neg (fun h => e h.1)]
    · rw [gt_set _ _ _ _ hi]
      by_cases e : k = i
      · subst e; rw [if_pos rfl, if_pos ⟨rfl, c⟩]
      · rw [if_neg e, if_neg (fun h => e h.1)]
  · rw [if_neg c]
    refine ⟨_, _, rfl, rfl, rfl, fun v => ?_, fun k => ?_⟩
    · rw [if_neg (fun h => c h.2)]
    · rw [if_neg (fun h => c h.2)]
structure GInv (m : Nat) (ands : List S56) (i : Nat) (ws : List (List Int)) (ms hs : List Int) : Prop where
  wlen : ws.length = m + 1
  mlen : ms.length = ands.length
  rows : ∀ u, u ≤ m → ws.getD u [] = wl ands i u
  cnts : ∀ k, k < ands.length → gt ms k = if k < i then cnt ands [] k else 0
  heap : isHeap hs
  perm : hs.Perm (((List.range i).filter (fun k => decide (cnt ands [] k = 0))).map (fun k : Nat => (k : Int)))
theorem filter_len {n : Nat} (p : Nat → Bool) : ((List.range n).filter p).length ≤ n := by
  have := List.length_filter_le p (List.range n)
  rwa [List.length_range] at this
theorem gates_ok (m : Nat) (ands : List S56) (h : Ok m ands) (gs : List Bool) (hgl : gs.length = m + 1) (hgs : ∀ u, gs.getD u false = isG ands u) (d : Nat) : ∀ (i : Nat) (ws : List (List Int)) (ms hs : List Int), ands.length - i = d → i ≤ ands.length → GInv m ands i ws ms hs →
    ∃ ws' ms' hs', srtGates gs (ands.drop i) i ws ms hs = some (ws', ms', hs') ∧ GInv m ands ands.length ws' ms' hs' := by
  induction d with
  | zero =>
    intro i ws ms hs hd hi hI
    have e : i = ands.length := by omega
    subst e
    rw [List.drop_length]
    exact ⟨ws, ms, hs, rfl, hI⟩
  | succ d ih =>
    intro i ws ms hs hd hi hI
    have hlt : i < ands.length := by omega
    have hsm := h.small
    rw [rdT_drop hlt]
    simp only [srtGates]
    have hpa := h.pa_le hlt
    have hpb := h.pb_le hlt
    have hm0 : gt ms i = 0 := by rw [hI.cnts i hlt, if_neg (by omega)]
    have hwa : (ws.getD (pa ands i) []).length ≤ 10000 := by rw [hI.rows _ hpa.1]; have := wl_len ands i (pa ands i); omega
    obtain ⟨ws1, ms1, e1, l1, l2, r1, c1⟩ := part_ok gs i _ (pa ands i) hpa.2.2 hpa.2.1 ws ms (by omega) (by have := hI.wlen; omega) (by have := hI.mlen; omega) (by rw [hm0]; omega) hwa
    rw [e1]
    simp only [Option.bind_some]
    have hm1 : gt ms1 i = if isG ands (pa ands i) = true then 1 else 0 := by
      rw [c1, hm0, hgs]
      by_cases c : isG ands (pa ands i) = true
      · rw [if_pos ⟨rfl, c⟩, if_pos c]; rfl
      · rw [if_neg (fun h => c h.2), if_neg c]
    have hwb : (ws1.getD (pb ands i) []).length ≤ 10000 := by
      rw [r1, hI.rows _ hpb.1]
      have := wl_len ands i (pb ands i)
      split
      · rw [List.length_append]; simp; omega
      · omega
    obtain ⟨ws2, ms2, e2, l3, l4, r2, c2⟩ := part_ok gs i _ (pb ands i) hpb.2.2 hpb.2.1 ws1 ms1 (by omega) (by have := hI.wlen; omega) (by have := hI.mlen; omega) (by rw [hm1]; split <;> omega) hwb
    rw [e2]
    simp only [Option.bind_some]
    rw [if_pos (by have := hI.mlen; omega), rd_gt]
    have hm2 : gt ms2 i = cnt ands [] i := by
      rw [c2, hm1, hgs]
      unfold cnt one
      rw [rv_nil, rv_nil]
      cases isG ands (pa ands i) <;> cases isG ands (pb ands i) <;> simp
    have hcn : ∀ k, k < ands.length → gt ms2 k = if k < i + 1 then cnt ands [] k else 0 := by
      intro k hk
      by_cases e : k = i
      · subst e; rw [hm2, if_pos (by omega)]
      · rw [c2, if_neg (fun h => e h.1), c1, if_neg (fun h => e h.1), hI.cnts k hk]
        by_cases hki : k < i
        · rw [if_pos hki, if_pos (by omega)]
        · rw [if_neg hki, if_neg (by omega)]
    have hrw : ∀ u, u ≤ m → ws2.getD u [] = wl ands (i + 1) u := by
      intro u hu
      rw [r2, r1, hI.rows u hu, wl_succ, hgs, hgs]
      by_cases hG : isG ands u = true
      · rw [if_pos hG]
        by_cases ea : pa ands i = u <;> by_cases eb : pb ands i = u
        · rw [ea, eb, if_pos ⟨rfl, hG⟩, if_pos ⟨rfl, hG⟩, if_pos rfl]; simp
        · rw [ea, if_neg (fun h => eb h.1.symm), if_pos ⟨rfl, hG⟩, if_pos rfl, if_neg eb]; simp
        · rw [eb, if_pos ⟨rfl, hG⟩, if_neg (fun h => ea h.1.symm), if_neg ea, if_pos rfl]; simp
        · rw [if_neg (fun h => eb h.1.symm), if_neg (fun h => ea h.1.symm), if_neg ea, if_neg eb]; simp
      · rw [if_neg hG]
        have hwl : wl ands i u = [] := by unfold wl; rw [if_neg hG]
        rw [hwl]
        by_cases ea : pa ands i = u <;> by_cases eb : pb ands i = u
        · rw [ea, eb, if_neg (fun h => hG h.2), if_neg (fun h => hG h.2)]
        · rw [ea, if_neg (fun h => eb h.1.symm), if_neg (fun h => hG h.2)]
        · rw [eb, if_neg (fun h => hG h.2), if_neg (fun h => ea h.1.symm)]
        · rw [if_neg (fun h => eb h.1.symm), if_neg (fun h => ea h.1.symm)]
    by_cases hz : gt ms2 i = 0
    · rw [if_pos hz]
      have hhl : hs.length < 1000000 := by
        have := hI.perm.length_eq
        rw [List.length_map] at this
        have := filter_len (n := i) (fun k => decide (cnt ands [] k = 0))
        omega
      rw [if_pos hhl]
      obtain ⟨p1, p2⟩ := push_ok hs (i : Int) hI.heap
      refine ih (i + 1) ws2 ms2 _ (by omega) (by omega) ⟨by rw [l3, l1]; exact hI.wlen, by rw [l4, l2]; exact hI.mlen, hrw, hcn, p1, ?_⟩
      refine p2.trans ?_
      rw [List.range_succ, List.filter_append]
      have : ([i].filter (fun k => decide (cnt ands [] k = 0))) = [i] := by simp [← hm2, hz]
      rw [this, List.map_append]
      exact ((hI.perm.cons (i : Int))).trans (List.perm_append_singleton _ _).symm
    · rw [if_neg hz]
      refine ih (i + 1) ws2 ms2 _ (by omega) (by omega) ⟨by rw [l3, l1]; exact hI.wlen, by rw [l4, l2]; exact hI.mlen, hrw, hcn, hI.heap, ?_⟩
      rw [List.range_succ, List.filter_append]
      have : ([i].filter (fun k => decide (cnt ands [] k = 0))) = [] := by simp [← hm2, hz]
      rw [this, List.append_nil]
      exact hI.perm
theorem GInv.start (m : Nat) (ands : List S56) : GInv m ands 0 (List.replicate (m + 1) []) (List.replicate ands.length 0) [] := by
  refine ⟨by simp, by simp, fun u hu => ?_, fun k hk => ?_, fun k hk hl => by simp at hl, by simp⟩
  · rw [List.getD_eq_getElem?_getD, List.getElem?_replicate, if_pos (by omega)]
    unfold wl; split <;> simp
  · rw [if_neg (by omega)]
    unfold gt
    rw [List.getD_eq_getElem?_getD, List.getElem?_replicate, if_pos hk]; rfl
end Go.Proofs.Ytpdlkjpemplhoaa.P
namespace Go.Proofs.Ytpdlkjpemplhoaa.P
open Go.RowKit Go.Proofs.YtpdlkjpemplhoaaW.PrintWords Go.Proofs.YtpdlkjpemplhoaaW.PrintLast Go.Proofs.YtpdlkjpemplhoaaW.PrintMore
set_option linter.unusedVariables false
set_option linter.unusedSimpArgs false
def freed (n : Nat) (L : List Int) (ms : List Int) : List Nat := (List.range n).filter (fun j => decide (0 < L.count (j : Int)) && decide (gt ms j = (L.count (j : Int) : Int)))
theorem filter_flip {n : Nat} (p q : Nat → Bool) (k : Nat) (hk : k < n) (hp : p k = true) (hq : q k = false) (he : ∀ j, j ≠ k → p j = q j) : ((List.range n).filter p).Perm (k :: (List.range n).filter q) := by
  induction n with
  | zero => omega
  | succ n ih =>
    rw [List.range_succ, List.filter_append, List.filter_append]
    by_cases e : k = n
    · subst e
      have h1 : (List.range k).filter p = (List.range k).filter q := List.filter_congr (fun j hj => he j (by have := List.mem_range.1 hj; omega))
      have h2 : [k].filter p = [k] := by simp [hp]
      have h3 : [k].filter q = [] := by simp [hq]
      rw [h1, h2, h3, List.append_nil]
      exact List.perm_append_singleton _ _
    · have h2 : [n].filter p = [n].filter q := List.filter_congr (fun j hj => he j (by simp at hj; omega))
      rw [h2, ← List.cons_append]
      exact (ih (by omega)).append_right _
theorem in_ok (n : Nat) : ∀ (L : List Int) (ms hs : List Int), ms.length = n → (∀ x ∈ L, ∃ k, k < n ∧ x = (k : Int)) → (∀ k, k < n → 0 < L.count (k : Int) → (L.count (k : Int) : Int) ≤ gt ms k) → (∀ k, k < n → gt ms k ≤ 10) → hs.length + L.length ≤ 900000 → isHeap hs →
    ∃ ms' hs', srtIn L ms hs = some (ms', hs') ∧ ms'.length = n ∧ (∀ k, k < n → gt ms' k = gt ms k - (L.count (k : Int) : Int)) ∧ isHeap hs' ∧ hs'.Perm (hs ++ (freed n L ms).map (fun k : Nat => (k : Int))) := by
  intro L
  induction L with
  | nil =>
    intro ms hs hl hx hc hb hh hheap
    refine ⟨ms, hs, rfl, hl, fun k hk => by simp, hheap, ?_⟩
    have : freed n [] ms = [] := by unfold freed; rw [List.filter_eq_nil_iff]; intro a _; simp
    rw [this]; simp
  | cons x t ih =>
    intro ms hs hl hx hc hb hh hheap
    obtain ⟨k, hk, rfl⟩ := hx x List.mem_cons_self
    have hck : ((k : Int) :: t).count (k : Int) = t.count (k : Int) + 1 := by rw [List.count_cons]; simp
    have hcj : ∀ j : Nat, j ≠ k → ((k : Int) :: t).count (j : Int) = t.count (j : Int) := fun j hj => by rw [List.count_cons]; simp; omega
    have hkc := hc k hk (by rw [hck]; omega)
    rw [hck] at hkc
    have hkb := hb k hk
    simp only [srtIn]
    rw [rd_gt, Int.toNat_natCast, if_pos ⟨by omega, by omega, by simp at hh; omega, by omega, by omega⟩]
    have hset := fun j => gt_set ms k j (gt ms k - 1) (by omega)
    have hx' : ∀ y ∈ t, ∃ q, q < n ∧ y = (q : Int) := fun y hy => hx y (List.mem_cons_of_mem _ hy)
    have hc' : ∀ j, j < n → 0 < t.count (j : Int) → (t.count (j : Int) : Int) ≤ gt (ms.set k (gt ms k - 1)) j := by
      intro j hj h0
      rw [hset]
      by_cases e : j = k
      · subst e; rw [if_pos rfl]; omega
      · rw [if_neg e]; have := hc j hj (by rw [hcj j e]; exact h0); rw [hcj j e] at this; exact this
    have hb' : ∀ j, j < n → gt (ms.set k (gt ms k - 1)) j ≤ 10 := by
      intro j hj
      rw [hset]; split
      · omega
      · exact hb j hj
    have hcount : ∀ j, j < n → gt (ms.set k (gt ms k - 1)) j - (t.count (j : Int) : Int) = gt ms j - (((k : Int) :: t).count (j : Int) : Int) := by
      intro j hj
      rw [hset]
      by_cases e : j = k
      · subst e; rw [if_pos rfl, hck]; omega
      · rw [if_neg e, hcj j e]
    by_cases hz : gt ms k - 1 = 0
    · rw [if_pos hz]
      obtain ⟨p1, p2⟩ := push_ok hs (k : Int) hheap
      have ht0 : t.count (k : Int) = 0 := by omega
      obtain ⟨ms', hs', e1, e2, e3, e4, e5⟩ := ih (ms.set k (gt ms k - 1)) (pushL hs k) (by simpa using hl) hx' hc' hb' (by rw [pushL_length]; simp at hh; omega) p1
      refine ⟨ms', hs', e1, e2, fun j hj => by rw [e3 j hj]; exact hcount j hj, e4, ?_⟩
      have hf : (freed n ((k : Int) :: t) ms).Perm (k :: freed n t (ms.set k (gt ms k - 1))) := by
        unfold freed
        refine filter_flip _ _ k hk ?_ ?_ ?_
        · rw [hck]; simp; omega
        · rw [ht0]; simp
        · intro j hj
          rw [hcj j hj, hset, if_neg hj]
      refine e5.trans ?_
      refine ((p2.append_right _)).trans ?_
      rw [List.cons_append]
      refine (List.perm_middle.symm).trans ?_
      exact (List.Perm.append_left hs ((hf.map (fun k : Nat => (k : Int))).symm))
    · rw [if_neg hz]
      obtain ⟨ms', hs', e1, e2, e3, e4, e5⟩ := ih (ms.set k (gt ms k - 1)) hs (by simpa using hl) hx' hc' hb' (by simp at hh; omega) hheap
      refine ⟨ms', hs', e1, e2, fun j hj => by rw [e3 j hj]; exact hcount j hj, e4, ?_⟩
      have hf : freed n ((k : Int) :: t) ms = freed n t (ms.set k (gt ms k - 1)) := by
        unfold freed
        refine List.filter_congr (fun j hj => ?_)
        by_cases e : j = k
        · subst e
          rw [hck, hset, if_pos rfl, Bool.eq_iff_iff, Bool.and_eq_true, Bool.and_eq_true, decide_eq_true_iff, decide_eq_true_iff, decide_eq_true_iff, decide_eq_true_iff]
          constructor
          · rintro ⟨a, b⟩; exact ⟨by omega, by omega⟩
          · rintro ⟨a, b⟩; exact ⟨by omega, by omega⟩
        · rw [hcj j e, hset, if_neg e]
      rw [hf]; exact e5
structure OInv (ands : List S56) (done : List Nat) (ms hs : List Int) : Prop where
  mlen : ms.length = ands.length
  cnts : ∀ k, k < ands.length → gt ms k = cnt ands done k
  heap : isHeap hs
  perm : hs.Perm (((List.range ands.length).filter (nextP ands done)).map (fun k : Nat => (k : Int)))
  lt : ∀ i ∈ done, i < ands.length
  nd : done.Nodup
  zero : ∀ i ∈ done, cnt ands done i = 0
theorem rv_append (ands : List S56) (done : List Nat) (i u : Nat) : rv ands (done ++ [i]) u = (rv ands done u || vr ands i == u) := by
  unfold rv; rw [List.any_append]; simp [Bool.or_assoc]
theorem nextP_iff (ands : List S56) (done : List Nat) (i : Nat) : nextP ands done i = true ↔ i ∉ done ∧ cnt ands done i = 0 := by
  unfold nextP
  rw [cnt_zero, Bool.and_eq_true]
  simp
theorem perm_min {xs : List Int} {l : List Nat} (hp : xs.Perm (l.map (fun k : Nat => (k : Int)))) {v : Int} (hv : v ∈ xs) (hmin : ∀ x ∈ xs, v ≤ x) : ∃ i : Nat, v = (i : Int) ∧ i ∈ l ∧ ∀ j ∈ l, i ≤ j := by
  have := hp.mem_iff.1 hv
  obtain ⟨i, hi, rfl⟩ := List.mem_map.1 this
  refine ⟨i, rfl, hi, fun j hj => ?_⟩
  have := hmin (j : Int) (hp.mem_iff.2 (List.mem_map.2 ⟨j, hj, rfl⟩))
  omega
theorem find_min {n : Nat} (p : Nat → Bool) (i : Nat) (hi : i < n) (hp : p i = true) (hm : ∀ j, j < n → p j = true → i ≤ j) : (List.range n).find? p = some i := by
  induction n with
  | zero => omega
  | succ n ih =>
    rw [List.range_succ, List.find?_append]
    by_cases e : i = n
    · subst e
      have : (List.range i).find? p = none := by
        rw [List.find?_eq_none]
        intro j hj hpj
        have := List.mem_range.1 hj
        have := hm j (by omega) hpj
        omega
      rw [this]; simp [hp]
    · rw [ih (by omega) (fun j hj => hm j (by omega))]; rfl
end Go.Proofs.Ytpdlkjpemplhoaa.P
namespace Go.Proofs.Ytpdlkjpemplhoaa.P
open Go.RowKit Go.Proofs.YtpdlkjpemplhoaaW.PrintWords Go.Proofs.YtpdlkjpemplhoaaW.PrintLast Go.Proofs.YtpdlkjpemplhoaaW.PrintMore
set_option linter.unusedVariables false
set_option linter.unusedSimpArgs false
theorem filter_or_perm {n : Nat} (p q r : Nat → Bool) (h : ∀ j, j < n → r j = (p j || q j)) (hd : ∀ j, j < n → ¬ (p j = true ∧ q j = true)) : ((List.range n).filter p ++ (List.range n).filter q).Perm ((List.range n).filter r) := by
  induction n with
  | zero => simp
  | succ n ih =>
    rw [List.range_succ, List.filter_append, List.filter_append, List.filter_append]
    have h1 := ih (fun j hj => h j (by omega)) (fun j hj => hd j (by omega))
    have hn := h n (by omega)
    have hdn := hd n (by omega)
    cases hp : p n <;> cases hq : q n
    · have e : r n = false := by rw [hn, hp, hq]; rfl
      simp only [List.filter_cons, List.filter_nil, hp, hq, e, Bool.false_eq_true, if_false, List.append_nil]; exact h1
    · have e : r n = true := by rw [hn, hp, hq]; rfl
      simp only [List.filter_cons, List.filter_nil, hp, hq, e, Bool.false_eq_true, if_false, if_true, List.append_nil]
      rw [← List.append_assoc]; exact h1.append_right _
    · have e : r n = true := by rw [hn, hp, hq]; rfl
      simp only [List.filter_cons, List.filter_nil, hp, hq, e, Bool.false_eq_true, if_false, if_true, List.append_nil]
      have h2 : ((List.range n).filter p ++ [n] ++ (List.range n).filter q).Perm (((List.range n).filter p ++ (List.range n).filter q) ++ [n]) := by
        rw [List.append_assoc, List.append_assoc]
        exact (List.perm_append_comm).append_left _
      exact h2.trans (h1.append_right _)
    · exact absurd ⟨hp, hq⟩ hdn
theorem nodup_le : ∀ (n : Nat) (l : List Nat), l.Nodup → (∀ x ∈ l, x < n) → l.length ≤ n := by
  intro n
  induction n with
  | zero =>
    intro l hl h
    cases l with
    | nil => simp
    | cons a t => exact absurd (h a List.mem_cons_self) (by omega)
  | succ n ih =>
    intro l hl h
    by_cases hn : n ∈ l
    · have h1 := ih (l.erase n) (hl.erase n) (fun x hx => by
        have hx2 := (hl.mem_erase_iff).1 hx
        have := h x hx2.2
        have := hx2.1
        omega)
      rw [List.length_erase_of_mem hn] at h1
      omega
    · have h1 := ih l hl (fun x hx => by
        have := h x hx
        have : x ≠ n := fun e => hn (e ▸ hx)
        omega)
      omega
theorem out_step (m : Nat) (ands : List S56) (h : Ok m ands) (done : List Nat) (ms hs : List Int) (hI : OInv ands done ms hs) (p : Nat) (hp : hs.length = p + 1) :
    ∃ i ms' hs', i < ands.length ∧ i ∉ done ∧ (List.range ands.length).find? (nextP ands done) = some i ∧ rd (popL hs p) (p : Int) = (i : Int) ∧ srtIn (wl ands ands.length (vr ands i)) ms ((popL hs p).take p) = some (ms', hs') ∧ OInv ands (done ++ [i]) ms' hs' := by
  obtain ⟨q1, q2, q3⟩ := pop_ok hs p hp hI.heap
  have hmem : gt hs 0 ∈ hs := by rw [gt_get _ _ (by omega)]; exact List.getElem_mem _
  have hmin : ∀ x ∈ hs, gt hs 0 ≤ x := by
    intro x hx
    obtain ⟨j, hj, rfl⟩ := List.getElem_of_mem hx
    rw [← gt_get _ _ hj]
    exact root_le hs hI.heap j hj
  obtain ⟨i, hi, hif, hil⟩ := perm_min hI.perm hmem hmin
  obtain ⟨hin, hip⟩ := List.mem_filter.1 hif
  have hin' := List.mem_range.1 hin
  obtain ⟨hid, hic⟩ := (nextP_iff ands done i).1 hip
  have hsm := h.small
  have hv : rv ands done (vr ands i) = false := by
    unfold rv
    rw [isG_vr hin', Bool.not_true, Bool.false_or, Bool.eq_false_iff]
    intro hc
    obtain ⟨j, hj, he⟩ := List.any_eq_true.1 hc
    have he' : vr ands j = vr ands i := by simpa using he
    have := h.once j i (hI.lt j hj) hin' he'
    exact hid (this ▸ hj)
  have hcount := fun k => wl_count ands (vr ands i) k (isG_vr hin') ands.length
  have hone : ∀ u, one (rv ands (done ++ [i]) u) = one (rv ands done u) - (if u = vr ands i then 1 else 0) := by
    intro u
    rw [rv_append]
    by_cases e : u = vr ands i
    · subst e; rw [hv, if_pos rfl]; simp [one]
    · have : (vr ands i == u) = false := by rw [beq_eq_false_iff_ne]; exact fun h => e h.symm
      rw [this, Bool.or_false, if_neg e]; omega
  have hcnt' : ∀ k, k < ands.length → cnt ands (done ++ [i]) k = cnt ands done k - ((wl ands ands.length (vr ands i)).count (k : Int) : Int) := by
    intro k hk
    rw [hcount k, if_pos hk]
    unfold cnt
    rw [hone, hone]
    have e1 : ((if pa ands k = vr ands i then 1 else 0 : Nat) : Int) = if pa ands k = vr ands i then 1 else 0 := by split <;> rfl
    have e2 : ((if pb ands k = vr ands i then 1 else 0 : Nat) : Int) = if pb ands k = vr ands i then 1 else 0 := by split <;> rfl
    rw [Int.natCast_add, e1, e2]
    omega
  have hle : ∀ k, k < ands.length → ((wl ands ands.length (vr ands i)).count (k : Int) : Int) ≤ cnt ands done k := by
    intro k hk
    have := (cnt_range ands (done ++ [i]) k).1
    rw [hcnt' k hk] at this
    omega
  have hlen : hs.length ≤ ands.length := by
    have := hI.perm.length_eq
    rw [List.length_map] at this
    have := filter_len (n := ands.length) (nextP ands done)
    omega
  have htl : ((popL hs p).take p).length = p := by rw [List.length_take, popL_length]; omega
  obtain ⟨ms', hs', e1, e2, e3, e4, e5⟩ := in_ok ands.length (wl ands ands.length (vr ands i)) ms ((popL hs p).take p) hI.mlen (fun x hx => wl_mem ands _ _ x hx) (fun k hk _ => by rw [hI.cnts k hk]; exact hle k hk) (fun k hk => by rw [hI.cnts k hk]; have := (cnt_range ands done k).2; omega) (by
    rw [htl]; have := wl_len ands ands.length (vr ands i); omega) q1
  refine ⟨i, ms', hs', hin', hid, find_min _ i hin' hip (fun j hj hpj => hil j (List.mem_filter.2 ⟨List.mem_range.2 hj, hpj⟩)), by rw [q2, hi], e1, ⟨e2, fun k hk => by rw [e3 k hk, hI.cnts k hk, hcnt' k hk], e4, ?_, ?_, ?_, ?_⟩⟩
  · refine e5.trans ?_
    have hf1 : ((List.range ands.length).filter (nextP ands done)).Perm (i :: (List.range ands.length).filter (fun j => nextP ands done j && !(j == i))) := by
      refine filter_flip _ _ i hin' hip (by simp) (fun j hj => ?_)
      have : (j == i) = false := by rw [beq_eq_false_iff_ne]; exact hj
      rw [this]; simp
    have ht : ((popL hs p).take p).Perm (((List.range ands.length).filter (fun j => nextP ands done j && !(j == i))).map (fun k : Nat => (k : Int))) := by
      have h1 := q3.trans (hI.perm.trans (hf1.map (fun k : Nat => (k : Int))))
      rw [List.map_cons, hi] at h1
      exact h1.cons_inv
    refine (ht.append_right _).trans ?_
    rw [← List.map_append]
    refine List.Perm.map _ ?_
    unfold freed
    refine filter_or_perm _ _ _ (fun j hj => ?_) (fun j hj => ?_)
    · rw [Bool.eq_iff_iff, nextP_iff, Bool.or_eq_true, Bool.and_eq_true, Bool.and_eq_true, nextP_iff, hcnt' j hj, hI.cnts j hj]
      rw [decide_eq_true_iff, decide_eq_true_iff]
      have hc0 := hle j hj
      constructor
      · rintro ⟨a, b⟩
        have ha : j ∉ done ∧ j ≠ i := by
          constructor
          · intro hd; exact a (List.mem_append.2 (.inl hd))
          · intro hd; exact a (List.mem_append.2 (.inr (by simp [hd])))
        by_cases c : (wl ands ands.length (vr ands i)).count (j : Int) = 0
        · left
          refine ⟨⟨ha.1, by omega⟩, by simp [ha.2]⟩
        · right
          exact ⟨by omega, by omega⟩
      · rintro (⟨⟨a, b⟩, c⟩ | ⟨a, b⟩)
        · have hji : j ≠ i := by simpa using c
          refine ⟨fun hm => ?_, by omega⟩
          rcases List.mem_append.1 hm with hm | hm
          · exact a hm
          · exact hji (by simpa using hm)
        · refine ⟨fun hm => ?_, by omega⟩
          rcases List.mem_append.1 hm with hm | hm
          · have := hI.zero j hm; omega
          · have hji : j = i := by simpa using hm
            subst hji; omega
    · rintro ⟨a, b⟩
      rw [Bool.and_eq_true, nextP_iff] at a
      rw [Bool.and_eq_true, decide_eq_true_iff, decide_eq_true_iff, hI.cnts j hj] at b
      omega
  · intro j hj
    rcases List.mem_append.1 hj with hj | hj
    · exact hI.lt j hj
    · rw [List.mem_singleton.1 hj]; exact hin'
  · exact List.nodup_append.2 ⟨hI.nd, by simp, by
      intro a ha b hb
      rw [List.mem_singleton.1 hb]
      intro e; exact hid (e ▸ ha)⟩
  · intro j hj
    have hjl : j < ands.length := by
      rcases List.mem_append.1 hj with hj | hj
      · exact hI.lt j hj
      · rw [List.mem_singleton.1 hj]; exact hin'
    have h0 : cnt ands done j = 0 := by
      rcases List.mem_append.1 hj with hj | hj
      · exact hI.zero j hj
      · rw [List.mem_singleton.1 hj]; exact hic
    have := hle j hjl
    rw [hcnt' j hjl]; omega
theorem out_ok (m : Nat) (ands : List S56) (h : Ok m ands) (ws : List (List Int)) (hw : ws.length = m + 1) (hrows : ∀ u, u ≤ m → ws.getD u [] = wl ands ands.length u) (f : Nat) : ∀ (done : List Nat) (ms hs : List Int), ands.length - done.length < f → OInv ands done ms hs →
    srtOut ands ws f ms hs (done.map (fun k : Nat => (k : Int))) = some ((ordS ands (ands.length - done.length) done).map (fun k : Nat => (k : Int))) := by
  induction f with
  | zero => intro done ms hs hf; omega
  | succ f ih =>
    intro done ms hs hf hI
    simp only [srtOut]
    have hsm := h.small
    by_cases hz : hs.length = 0
    · rw [if_pos hz]
      have h0 : (List.range ands.length).filter (nextP ands done) = [] := by
        have := hI.perm.length_eq
        rw [hz, List.length_map] at this
        exact List.eq_nil_of_length_eq_zero this.symm
      have hn : (List.range ands.length).find? (nextP ands done) = none := by
        rw [List.find?_eq_none]
        intro j hj hp
        have : j ∈ (List.range ands.length).filter (nextP ands done) := List.mem_filter.2 ⟨hj, hp⟩
        rw [h0] at this; cases this
      cases e : ands.length - done.length with
      | zero => simp only [ordS]
      | succ d => simp only [ordS, hn]
    · rw [if_neg hz]
      obtain ⟨p, hp⟩ : ∃ p, hs.length = p + 1 := ⟨hs.length - 1, by omega⟩
      rw [show hs.length - 1 = p by omega]
      obtain ⟨i, ms', hs', hi, hid, hfind, hpop, hin, hI'⟩ := out_step m ands h done ms hs hI p hp
      have hdl := nodup_le ands.length (done ++ [i]) hI'.nd hI'.lt
      rw [List.length_append, List.length_singleton] at hdl
      have hlen : hs.length ≤ ands.length := by
        have := hI.perm.length_eq
        rw [List.length_map] at this
        have := filter_len (n := ands.length) (nextP ands done)
        omega
      have hvl := h.vr_le hi
      rw [hpop, hvl.2.1, Int.toNat_natCast, hrows _ hvl.1, hin]
      rw [if_pos ⟨by omega, by rw [List.length_map]; omega, by omega, by omega, hvl.2.2, by omega⟩]
      simp only [Option.bind_some]
      have h2 := ih (done ++ [i]) ms' hs' (by rw [List.length_append, List.length_singleton]; omega) hI'
      rw [List.map_append] at h2
      rw [show [(i : Int)] = [i].map (fun k : Nat => (k : Int)) from rfl, h2]
      rw [List.length_append, List.length_singleton]
      rw [show ands.length - done.length = (ands.length - (done.length + 1)) + 1 by omega]
      simp only [ordS, hfind]
theorem OInv.start (m : Nat) (ands : List S56) (ws : List (List Int)) (ms hs : List Int) (h : GInv m ands ands.length ws ms hs) : OInv ands [] ms hs := by
  refine ⟨h.mlen, fun k hk => by rw [h.cnts k hk, if_pos hk], h.heap, ?_, by simp, by simp, by simp⟩
  have : (List.range ands.length).filter (fun k => decide (cnt ands [] k = 0)) = (List.range ands.length).filter (nextP ands []) := by
    refine List.filter_congr (fun j _ => ?_)
    rw [Bool.eq_iff_iff, nextP_iff, decide_eq_true_iff]
    simp
  rw [← this]; exact h.perm
theorem sorted_eq (m : Nat) (ands : List S56) (h : Ok m ands) : order_sorted.f (ands.length + 2) (m : Int) ands = some ((ordS ands ands.length []).map (fun k : Nat => (k : Int))) := by
  have hsm := h.small
  unfold order_sorted.f
  rw [if_pos ⟨by omega, by omega, by omega⟩, show ((m : Int) + 1).toNat = m + 1 by omega]
  obtain ⟨gs, h1, h2, h3⟩ := marks m ands h
  rw [h1]
  simp only [Option.bind_some]
  obtain ⟨ws, ms, hs, h4, h5⟩ := gates_ok m ands h gs h2 h3 ands.length 0 _ _ _ (by omega) (by omega) (GInv.start m ands)
  rw [List.drop_zero] at h4
  rw [h4]
  simp only [Option.bind_some]
  exact out_ok m ands h ws h5.wlen h5.rows (ands.length + 2) [] ms hs (by simp) (OInv.start m ands ws ms hs h5)
end Go.Proofs.Ytpdlkjpemplhoaa.P
namespace Go.Proofs.Ytpdlkjpemplhoaa.P
open Go.RowKit Go.Proofs.YtpdlkjpemplhoaaW.PrintWords Go.Proofs.YtpdlkjpemplhoaaW.PrintLast Go.Proofs.YtpdlkjpemplhoaaW.PrintMore
attribute [local go_sem] max2_int min2_int max_two min_two max_three min_three max_four min_four
set_option linter.unusedVariables false
set_option linter.unusedSimpArgs false
mutual
def r3_Order.l0 : Nat → List Bool → Int → Int → List Int → List (S56) → List (S56) → List Int → List Int → Option (List Int)
 | 0, _, _, _, _, _, _, _, _ => none
 | k + 1, x3, x4, x313000, x313001, x313002, x313003, x313004, x313005 => if x4 ≤ x313000 then (if 0 ≤ x4 then (if x4 < (x3.length : Int) then (r3_Order.l0 k (x3.set (x4 : Int).toNat true) (wrap64 (x4 + 1)) x313000 x313001 x313002 x313003 x313004 x313005) else (none)) else (none)) else (r3_Order.l1 k x3 0 x313000 x313001 x313002 x313003 x313004 x313005)
def r3_Order.l1 : Nat → List Bool → Int → Int → List Int → List (S56) → List (S56) → List Int → List Int → Option (List Int)
 | 0, _, _, _, _, _, _, _, _ => none
 | k + 1, x3, x5, x313000, x313001, x313002, x313003, x313004, x313005 => if x5 < (x313003.length : Int) then (if 0 ≤ x5 then (if 0 ≤ (wrap64 (Int.tdiv ((rd_T56 x313003 x5).f0) 2)) then (if (wrap64 (Int.tdiv ((rd_T56 x313003 x5).f0) 2)) < (x3.length : Int) then (r3_Order.l1 k (x3.set ((wrap64 (Int.tdiv ((rd_T56 x313003 x5).f0) 2)) : Int).toNat false) (wrap64 (x5 + 1)) x313000 x313001 x313002 x313003 x313004 x313005) else (none)) else (none)) else (none)) else (r3_Order.l2 k x3 ([] : List Int) x313000 x313001 x313002 x313003 x313004 x313005)
def r3_Order.l2 : Nat → List Bool → List Int → Int → List Int → List (S56) → List (S56) → List Int → List Int → Option (List Int)
 | 0, _, _, _, _, _, _, _, _ => none
 | k + 1, x3, x6, x313000, x313001, x313002, x313003, x313004, x313005 => if (x6.length : Int) < (x313003.length : Int) then (r3_Order.l3 k x3 x6 (-1) (wrap64 ((x313003.length : Int) - 1)) x313000 x313001 x313002 x313003 x313004 x313005) else (some x6)
def r3_Order.l3 : Nat → List Bool → List Int → Int → Int → Int → List Int → List (S56) → List (S56) → List Int → List Int → Option (List Int)
 | 0, _, _, _, _, _, _, _, _, _, _ => none
 | k + 1, x3, x6, x7, x8, x313000, x313001, x313002, x313003, x313004, x313005 => if x8 ≥ 0 then (if 0 ≤ x8 then (if x8 < (x313003.length : Int) then (if 0 ≤ (wrap64 (Int.tdiv ((rd_T56 x313003 x8).f0) 2)) then (if (wrap64 (Int.tdiv ((rd_T56 x313003 x8).f0) 2)) < (x3.length : Int) then (if (rdOf false x3 (wrap64 (Int.tdiv ((rd_T56 x313003 x8).f0) 2)) = true) then (r3_Order.l3 k x3 x6 x7 (wrap64 (x8 - 1)) x313000 x313001 x313002 x313003 x313004 x313005) else (if 0 ≤ (wrap64 (Int.tdiv ((rd_T56 x313003 x8).f1) 2)) then (if (wrap64 (Int.tdiv ((rd_T56 x313003 x8).f1) 2)) < (x3.length : Int) then (if rdOf false x3 (wrap64 (Int.tdiv ((rd_T56 x313003 x8).f1) 2)) = true then (if 0 ≤ (wrap64 (Int.tdiv ((rd_T56 x313003 x8).f2) 2)) then (if (wrap64 (Int.tdiv ((rd_T56 x313003 x8).f2) 2)) < (x3.length : Int) then (if rdOf false x3 (wrap64 (Int.tdiv ((rd_T56 x313003 x8).f2) 2)) = true then (r3_Order.l3 k x3 x6 x8 (wrap64 (x8 - 1)) x313000 x313001 x313002 x313003 x313004 x313005) else (r3_Order.l3 k x3 x6 x7 (wrap64 (x8 - 1)) x313000 x313001 x313002 x313003 x313004 x313005)) else (none)) else (none)) else (r3_Order.l3 k x3 x6 x7 (wrap64 (x8 - 1)) x313000 x313001 x313002 x313003 x313004 x313005)) else (none)) else (none))) else (none)) else (none)) else (none)) else (none)) else (if x7 < 0 then (some x6) else (if 0 ≤ x7 then (if x7 < (x313003.length : Int) then (if 0 ≤ (wrap64 (Int.tdiv ((rd_T56 x313003 x7).f0) 2)) then (if (wrap64 (Int.tdiv ((rd_T56 x313003 x7).f0) 2)) < (x3.length : Int) then (if x6.length < 17592186044416 then (r3_Order.l2 k (x3.set ((wrap64 (Int.tdiv ((rd_T56 x313003 x7).f0) 2)) : Int).toNat true) (x6 ++ [x7]) x313000 x313001 x313002 x313003 x313004 x313005) else (none)) else (none)) else (none)) else (none)) else (none)))
end
def r3_Order.f (k : Nat) (a0_0 : Int) (l0_1 : List Int) (l0_2 : List (S56)) (l0_3 : List (S56)) (l0_4 : List Int) (l0_5 : List Int) : Option (List Int) := if 0 ≤ (wrap64 (a0_0 + 1)) then (if (wrap64 (a0_0 + 1) : Int).toNat ≤ 281474976710656 then (r3_Order.l0 k (List.replicate (wrap64 (a0_0 + 1) : Int).toNat false) 0 a0_0 l0_1 l0_2 l0_3 l0_4 l0_5) else (none)) else (none)
end Go.Proofs.Ytpdlkjpemplhoaa.P
namespace Go.Proofs.Ytpdlkjpemplhoaa.P
open Go.RowKit Go.Proofs.YtpdlkjpemplhoaaW.PrintWords Go.Proofs.YtpdlkjpemplhoaaW.PrintLast Go.Proofs.YtpdlkjpemplhoaaW.PrintMore
set_option linter.unusedVariables false
set_option linter.unusedSimpArgs false
end Go.Proofs.Ytpdlkjpemplhoaa.P
namespace Go.Proofs.Ytpdlkjpemplhoaa.P
open Go.RowKit Go.Proofs.YtpdlkjpemplhoaaW.PrintWords Go.Proofs.YtpdlkjpemplhoaaW.PrintLast Go.Proofs.YtpdlkjpemplhoaaW.PrintMore
attribute [local go_sem] max2_int min2_int max_two min_two max_three min_three max_four min_four
set_option linter.unusedVariables false
set_option linter.unusedSimpArgs false
def r2_literals.l0 : Nat → List Int → Int → Int → Option (Bool)
 | 0, _, _, _ => none
 | k + 1, x0, x1, x5 => if x5 < (x0.length : Int) then (if 0 ≤ x5 then (if (rd x0 x5) < 0 then (some false) else (if (wrap64 (Int.tdiv (rd x0 x5) 2)) > x1 then (some false) else (r2_literals.l0 k x0 x1 (wrap64 (x5 + 1))))) else (none)) else (some true)
def r2_literals.f (k : Nat) (l0 : List Int) (a1 : Int) : Option (Bool) := r2_literals.l0 k l0 a1 0
def r2_Size.f (a0_0 : Int) (l0_1 : List (S61)) (l0_2 : List (S59)) (l0_3 : List Int) (l0_4 : List Int) : Option (Int) := some (wrap64 ((wrap64 (a0_0 + (l0_1.length : Int))) + (l0_2.length : Int)))
mutual
def r2_Check.j0 : Nat → Bool → Int → List (S61) → List (S59) → List Int → List Int → Option (Int)
 | 0, _, _, _, _, _, _ => none
 | k + 1, x29, x130000, x130001, x130002, x130003, x130004 => if x29 = true then (some 4) else ((r2_Size.f x130000 x130001 x130002 x130003 x130004).bind fun t131 => ((r2_literals.f k x130003 t131).bind fun t132 => (if t132 = true then ((r2_literals.f k x130004 t131).bind fun t133 => (r2_Check.j1 k t131 (!t133) x130000 x130001 x130002 x130003 x130004)) else (r2_Check.j1 k t131 true x130000 x130001 x130002 x130003 x130004))))
def r2_Check.j1 : Nat → Int → Bool → Int → List (S61) → List (S59) → List Int → List Int → Option (Int)
 | 0, _, _, _, _, _, _, _ => none
 | k + 1, x3, x43, x130000, x130001, x130002, x130003, x130004 => if x43 = true then (some 8) else (r2_Check.l0 k x3 0 x130000 x130001 x130002 x130003 x130004)
def r2_Check.l0 : Nat → Int → Int → Int → List (S61) → List (S59) → List Int → List Int → Option (Int)
 | 0, _, _, _, _, _, _, _ => none
 | k + 1, x3, x4, x130000, x130001, x130002, x130003, x130004 => if x4 < (x130001.length : Int) then (if 0 ≤ x4 then ((r2_literals.f k (([(rd_T61 x130001 x4).f0] : List Int)) x3).bind fun t138 => (if t138 = true then (if ((rd_T61 x130001 x4).f1) < 0 then (some 8) else (if ((rd_T61 x130001 x4).f1) > 2 then (some 8) else (r2_Check.l0 k x3 (wrap64 (x4 + 1)) x130000 x130001 x130002 x130003 x130004))) else (some 8))) else (none)) else (r2_Check.l1 k 0 x130000 x130001 x130002 x130003 x130004)
def r2_Check.l1 : Nat → Int → Int → List (S61) → List (S59) → List Int → List Int → Option (Int)
 | 0, _, _, _, _, _, _ => none
 | k + 1, x5, x130000, x130001, x130002, x130003, x130004 => if x5 < (x130002.length : Int) then (if 0 ≤ x5 then (if ((rd_T59 x130002 x5).f1) < 0 then (some 8) else (if ((rd_T59 x130002 x5).f0) < ((rd_T59 x130002 x5).f1) then (some 8) else (if (wrap64 (Int.tdiv ((rd_T59 x130002 x5).f0) 2)) > (wrap64 ((wrap64 (x130000 + (x130001.length : Int))) + x5)) then (some 8) else (r2_Check.l1 k (wrap64 (x5 + 1)) x130000 x130001 x130002 x130003 x130004)))) else (none)) else (some 0)
end
end Go.Proofs.Ytpdlkjpemplhoaa.P
namespace Go.Proofs.Ytpdlkjpemplhoaa.P
open Go.RowKit Go.Proofs.YtpdlkjpemplhoaaW.PrintWords Go.Proofs.YtpdlkjpemplhoaaW.PrintLast Go.Proofs.YtpdlkjpemplhoaaW.PrintMore
set_option linter.unusedVariables false
theorem wrap_id {n : Int} (h0 : -9223372036854775808 ≤ n) (h1 : n ≤ 9223372036854775807) : wrap64 n = n := by unfold wrap64; omega
def I64 (x : Int) : Prop := -9223372036854775808 ≤ x ∧ x ≤ 9223372036854775807
theorem i64_wf {x : Int} (h : (Lit.int .i64 x).wf = true) : I64 x := by
  simp [Lit.wf, IntKind.min, IntKind.max, IntKind.bits, IntKind.signed] at h
  unfold I64; omega
end Go.Proofs.Ytpdlkjpemplhoaa.P
namespace Go.Proofs.Ytpdlkjpemplhoaa.P
open Go.RowKit Go.Proofs.YtpdlkjpemplhoaaW.PrintWords Go.Proofs.YtpdlkjpemplhoaaW.PrintLast Go.Proofs.YtpdlkjpemplhoaaW.PrintMore
set_option linter.unusedVariables false
set_option linter.unusedSimpArgs false
def gb (xs : List Bool) (u : Nat) : Bool := xs.getD u false
theorem rdOf_gb (xs : List Bool) (u : Nat) : rdOf false xs (u : Int) = gb xs u := by simp [rdOf, gb]
theorem gb_set (xs : List Bool) (i j : Nat) (v : Bool) (hi : i < xs.length) : gb (xs.set i v) j = if j = i then v else gb xs j := getD_set_list xs false i j v hi
section
variable {m : Nat} {ands : List S56}
variable (l1 : List Int) (l2 : List S56) (l4 l5 : List Int)
end
end Go.Proofs.Ytpdlkjpemplhoaa.P
namespace Go.Proofs.Ytpdlkjpemplhoaa.P
open Go.RowKit Go.Proofs.YtpdlkjpemplhoaaW.PrintWords Go.Proofs.YtpdlkjpemplhoaaW.PrintLast Go.Proofs.YtpdlkjpemplhoaaW.PrintMore
attribute [local go_sem] max2_int min2_int max_two min_two max_three min_three max_four min_four
set_option linter.unusedVariables false
set_option linter.unusedSimpArgs false
mutual
def r3_Defined.l0 : Nat → List Int → Int → Int → List Int → List (S56) → List (S56) → List Int → List Int → Option (List Int)
 | 0, _, _, _, _, _, _, _, _ => none
 | k + 1, x3, x4, x330000, x330001, x330002, x330003, x330004, x330005 => if x4 < (x330002.length : Int) then (if 0 ≤ x4 then (if x3.length < 17592186044416 then (r3_Defined.l0 k (x3 ++ [(rd_T56 x330002 x4).f0]) (wrap64 (x4 + 1)) x330000 x330001 x330002 x330003 x330004 x330005) else (none)) else (none)) else (r3_Defined.l1 k x3 0 x330000 x330001 x330002 x330003 x330004 x330005)
def r3_Defined.l1 : Nat → List Int → Int → Int → List Int → List (S56) → List (S56) → List Int → List Int → Option (List Int)
 | 0, _, _, _, _, _, _, _, _ => none
 | k + 1, x3, x5, x330000, x330001, x330002, x330003, x330004, x330005 => if x5 < (x330003.length : Int) then (if 0 ≤ x5 then (if x3.length < 17592186044416 then (r3_Defined.l1 k (x3 ++ [(rd_T56 x330003 x5).f0]) (wrap64 (x5 + 1)) x330000 x330001 x330002 x330003 x330004 x330005) else (none)) else (none)) else (some x3)
end
def r3_Defined.f (k : Nat) (a0_0 : Int) (l0_1 : List Int) (l0_2 : List (S56)) (l0_3 : List (S56)) (l0_4 : List Int) (l0_5 : List Int) : Option (List Int) := (some (([] : List Int) : List Int)).bind fun y330 => (if y330.length + l0_1.length < 17592186044416 then (r3_Defined.l0 k (y330 ++ l0_1) 0 a0_0 l0_1 l0_2 l0_3 l0_4 l0_5) else (none))
mutual
def r3_Used.l0 : Nat → List Int → Int → Int → List Int → List (S56) → List (S56) → List Int → List Int → Option (List Int)
 | 0, _, _, _, _, _, _, _, _ => none
 | k + 1, x3, x4, x345000, x345001, x345002, x345003, x345004, x345005 => if x4 < (x345002.length : Int) then (if 0 ≤ x4 then (if x3.length < 17592186044416 then (r3_Used.l0 k (x3 ++ [(rd_T56 x345002 x4).f1]) (wrap64 (x4 + 1)) x345000 x345001 x345002 x345003 x345004 x345005) else (none)) else (none)) else (r3_Used.l1 k x3 0 x345000 x345001 x345002 x345003 x345004 x345005)
def r3_Used.l1 : Nat → List Int → Int → Int → List Int → List (S56) → List (S56) → List Int → List Int → Option (List Int)
 | 0, _, _, _, _, _, _, _, _ => none
 | k + 1, x3, x5, x345000, x345001, x345002, x345003, x345004, x345005 => if x5 < (x345003.length : Int) then (if 0 ≤ x5 then ((some (([(rd_T56 x345003 x5).f1, (rd_T56 x345003 x5).f2] : List Int) : List Int)).bind fun y360 => (if x3.length + y360.length < 17592186044416 then (r3_Used.l1 k (x3 ++ y360) (wrap64 (x5 + 1)) x345000 x345001 x345002 x345003 x345004 x345005) else (none))) else (none)) else (some x3)
end
def r3_Used.f (k : Nat) (a0_0 : Int) (l0_1 : List Int) (l0_2 : List (S56)) (l0_3 : List (S56)) (l0_4 : List Int) (l0_5 : List Int) : Option (List Int) := (some (([] : List Int) : List Int)).bind fun y345 => (if y345.length + l0_4.length < 17592186044416 then ((some (y345 ++ l0_4 : List Int)).bind fun y348 => (if y348.length + l0_5.length < 17592186044416 then (r3_Used.l0 k (y348 ++ l0_5) 0 a0_0 l0_1 l0_2 l0_3 l0_4 l0_5) else (none))) else (none))
mutual
def r3_numbers.l0 : Nat → List Int → List Int → Int → Int → List Int → List (S56) → List (S56) → List Int → List Int → Option (Bool)
 | 0, _, _, _, _, _, _, _, _, _ => none
 | k + 1, x3, x4, x5, x367000, x367001, x367002, x367003, x367004, x367005 => if x5 < (x3.length : Int) then (if 0 ≤ x5 then (if (rd x3 x5) < 2 then (some false) else (if (Int.tmod (rd x3 x5) 2) = 1 then (some false) else (if (rd x3 x5) > (wrap64 ((wrap64 (2 * x367000)) + 1)) then (some false) else (r3_numbers.l0 k x3 x4 (wrap64 (x5 + 1)) x367000 x367001 x367002 x367003 x367004 x367005)))) else (none)) else (r3_numbers.l1 k x4 0 x367000 x367001 x367002 x367003 x367004 x367005)
def r3_numbers.l1 : Nat → List Int → Int → Int → List Int → List (S56) → List (S56) → List Int → List Int → Option (Bool)
 | 0, _, _, _, _, _, _, _, _ => none
 | k + 1, x4, x6, x367000, x367001, x367002, x367003, x367004, x367005 => if x6 < (x4.length : Int) then (if 0 ≤ x6 then (if (rd x4 x6) < 0 then (some false) else (if (rd x4 x6) > (wrap64 ((wrap64 (2 * x367000)) + 1)) then (some false) else (r3_numbers.l1 k x4 (wrap64 (x6 + 1)) x367000 x367001 x367002 x367003 x367004 x367005))) else (none)) else (r3_numbers.l2 k 0 x367000 x367001 x367002 x367003 x367004 x367005)
def r3_numbers.l2 : Nat → Int → Int → List Int → List (S56) → List (S56) → List Int → List Int → Option (Bool)
 | 0, _, _, _, _, _, _, _ => none
 | k + 1, x7, x367000, x367001, x367002, x367003, x367004, x367005 => if x7 < (x367002.length : Int) then (if 0 ≤ x7 then (if ((rd_T56 x367002 x7).f2) < 0 then (some false) else (if ((rd_T56 x367002 x7).f2) > 2 then (some false) else (r3_numbers.l2 k (wrap64 (x7 + 1)) x367000 x367001 x367002 x367003 x367004 x367005))) else (none)) else (some true)
end
def r3_numbers.f (k : Nat) (a0_0 : Int) (l0_1 : List Int) (l0_2 : List (S56)) (l0_3 : List (S56)) (l0_4 : List Int) (l0_5 : List Int) : Option (Bool) := (r3_Defined.f k a0_0 l0_1 l0_2 l0_3 l0_4 l0_5).bind fun t367 => ((r3_Used.f k a0_0 l0_1 l0_2 l0_3 l0_4 l0_5).bind fun t370 => (r3_numbers.l0 k t367 t370 0 a0_0 l0_1 l0_2 l0_3 l0_4 l0_5))
def r3_Times.l0 : Nat → List Int → List Int → Int → Option (List Int)
 | 0, _, _, _ => none
 | k + 1, x3, x4, x5 => if x5 < (x4.length : Int) then (if 0 ≤ x5 then (if 0 ≤ (wrap64 (Int.tdiv (rd x4 x5) 2)) then (if (wrap64 (Int.tdiv (rd x4 x5) 2)) < (x3.length : Int) then (r3_Times.l0 k (x3.set ((wrap64 (Int.tdiv (rd x4 x5) 2)) : Int).toNat (wrap64 ((rd x3 (wrap64 (Int.tdiv (rd x4 x5) 2))) + 1))) x4 (wrap64 (x5 + 1))) else (none)) else (none)) else (none)) else (some x3)
def r3_Times.f (k : Nat) (a0_0 : Int) (l0_1 : List Int) (l0_2 : List (S56)) (l0_3 : List (S56)) (l0_4 : List Int) (l0_5 : List Int) : Option (List Int) := if 0 ≤ (wrap64 (a0_0 + 1)) then (if (wrap64 (a0_0 + 1) : Int).toNat ≤ 35184372088832 then ((some (List.replicate (wrap64 (a0_0 + 1) : Int).toNat 0 : List Int)).bind fun y381 => (if 0 < (y381.length : Int) then ((r3_Defined.f k a0_0 l0_1 l0_2 l0_3 l0_4 l0_5).bind fun t385 => (r3_Times.l0 k (y381.set (0 : Int).toNat 1) t385 0)) else (none))) else (none)) else (none)
end Go.Proofs.Ytpdlkjpemplhoaa.P
namespace Go.Proofs.Ytpdlkjpemplhoaa.P
open Go.RowKit Go.Proofs.YtpdlkjpemplhoaaW.PrintWords Go.Proofs.YtpdlkjpemplhoaaW.PrintLast Go.Proofs.YtpdlkjpemplhoaaW.PrintMore
set_option linter.unusedVariables false
set_option linter.unusedSimpArgs false
def ownL (l1 : List Int) (l2 l3 : List S56) : List Int := l1 ++ l2.map (fun d => d.f0) ++ l3.map (fun d => d.f0)
def useL (l2 l3 : List S56) (l4 l5 : List Int) : List Int := l4 ++ l5 ++ l2.map (fun d => d.f1) ++ l3.flatMap (fun d => [d.f1, d.f2])
theorem wi {n : Nat} (h : n ≤ 1000000) : wrap64 ((n : Int) + 1) = ((n + 1 : Nat) : Int) := by rw [wrap_id (by omega) (by omega)]; omega
theorem loop_acc {α β : Type} (L : Nat → List α → Nat → Option β) (n B : Nat) (g : Nat → List α) (fin : Nat → List α → Option β)
    (hstep : ∀ k acc i, i < n → acc.length ≤ B → L (k + 1) acc i = L k (acc ++ g i) (i + 1)) (hend : ∀ k acc, L (k + 1) acc n = fin k acc) (hg : ∀ i, (g i).length ≤ 2) (d : Nat) :
    ∀ (i k : Nat) (acc : List α), n - i = d → i ≤ n → acc.length + 2 * d ≤ B → d < k → L k acc i = fin (k - d - 1) (acc ++ (List.range' i d).flatMap g) := by
  induction d with
  | zero =>
    intro i k acc hd hi hb hk
    obtain ⟨k, rfl⟩ : ∃ q, k = q + 1 := ⟨k - 1, by omega⟩
    obtain rfl : i = n := by omega
    rw [hend]; simp
  | succ d ih =>
    intro i k acc hd hi hb hk
    obtain ⟨k, rfl⟩ : ∃ q, k = q + 1 := ⟨k - 1, by omega⟩
    have := hg i
    rw [hstep k acc i (by omega) (by omega), ih (i + 1) k _ (by omega) (by omega) (by rw [List.length_append]; omega) (by omega), List.range'_succ, List.flatMap_cons, List.append_assoc, show k + 1 - (d + 1) - 1 = k - d - 1 by omega]
theorem flat_at {α β : Type} (ls : List α) (r : Nat → α) (hr : ∀ i (h : i < ls.length), r i = ls[i]) (f : α → List β) : (List.range' 0 ls.length).flatMap (fun i => f (r i)) = ls.flatMap f := by
  have : ls = (List.range' 0 ls.length).map r := by
    apply List.ext_getElem
    · simp
    · intro i h1 h2
      simp
      exact (hr i h1).symm
  conv => rhs; rw [this, List.flatMap_map]
theorem flat_one {α β : Type} (ls : List α) (f : α → β) : ls.flatMap (fun x => [f x]) = ls.map f := by
  induction ls with
  | nil => rfl
  | cons a t ih => simp [List.flatMap_cons, ih]
theorem rdT_get (ls : List S56) (i : Nat) (h : i < ls.length) : rd_T56 ls (i : Int) = ls[i] := by simp [rd_T56, h]
section
variable (most : Int) (l1 : List Int) (l2 l3 : List S56) (l4 l5 : List Int)
theorem defined_eq (h1 : l1.length ≤ 10000) (h2 : l2.length ≤ 10000) (h3 : l3.length ≤ 10000) (k : Nat) (hk : l2.length + l3.length + 2 ≤ k) : order_defined.f k most l1 l2 l3 l4 l5 = some (ownL l1 l2 l3) := by
  unfold order_defined.f slices_Clone_int_int.f api_Define_60.f
  rw [if_pos (by omega)]
  simp only [Option.bind_some, List.flatten_cons, List.flatten_nil, List.append_nil]
  rw [if_pos (by rw [List.length_append]; omega)]
  simp only [Option.bind_some]
  have := loop_acc (fun k acc i => order_defined.l0 k acc (l2 ++ l3) ((l2 ++ l3).length : Int) (i : Int)) (l2 ++ l3).length 1000000 (fun i => [(rd_T56 (l2 ++ l3) (i : Int)).f0]) (fun _ acc => some acc)
    (fun k acc i hi ha => by
      have hl : (l2 ++ l3).length ≤ 20000 := by rw [List.length_append]; omega
      simp only [order_defined.l0]
      rw [if_pos (by omega), if_pos (by omega), if_pos (by omega), if_pos (by omega), wi (by omega)])
    (fun k acc => by simp only [order_defined.l0]; rw [if_neg (by omega)])
    (fun i => by simp) (l2 ++ l3).length 0 k l1 (by omega) (by omega) (by rw [List.length_append]; omega) (by rw [List.length_append]; omega)
  refine this.trans ?_
  rw [flat_at (l2 ++ l3) (fun i => rd_T56 (l2 ++ l3) (i : Int)) (rdT_get _) (fun d => [d.f0]), flat_one, List.map_append]
  simp [ownL]
theorem used_eq (h2 : l2.length ≤ 10000) (h3 : l3.length ≤ 10000) (h4 : l4.length ≤ 10000) (h5 : l5.length ≤ 10000) (k : Nat) (hk : l2.length + l3.length + 3 ≤ k) : order_used.f k most l1 l2 l3 l4 l5 = some (useL l2 l3 l4 l5) := by
  unfold order_used.f slices_Concat_int_int.f
  simp only [List.flatten_cons, List.flatten_nil, List.append_nil]
  rw [if_pos (by rw [List.length_append]; omega)]
  simp only [Option.bind_some]
  have e1 := loop_acc (fun k acc i => order_used.l0 k acc l2 (l2.length : Int) (i : Int) most l1 l2 l3 l4 l5) l2.length 1000000 (fun i => [(rd_T56 l2 (i : Int)).f1]) (fun k acc => order_used.l1 k acc l3 (l3.length : Int) 0)
    (fun k acc i hi ha => by
      simp only [order_used.l0]
      rw [if_pos (by omega), if_pos (by omega), if_pos (by omega), if_pos (by omega), wi (by omega)])
    (fun k acc => by simp only [order_used.l0]; rw [if_neg (by omega)])
    (fun i => by simp) l2.length 0 k (l4 ++ l5) (by omega) (by omega) (by rw [List.length_append]; omega) (by omega)
  refine e1.trans ?_
  rw [flat_at l2 (fun i => rd_T56 l2 (i : Int)) (rdT_get _) (fun d => [d.f1]), flat_one]
  have e2 := loop_acc (fun k acc i => order_used.l1 k acc l3 (l3.length : Int) (i : Int)) l3.length 1000000 (fun i => [(rd_T56 l3 (i : Int)).f1, (rd_T56 l3 (i : Int)).f2]) (fun k acc => some acc)
    (fun k acc i hi ha => by
      simp only [order_used.l1, Option.bind_some]
      rw [if_pos (by omega), if_pos (by omega), if_pos (by omega), if_pos (by simp; omega), wi (by omega)])
    (fun k acc => by simp only [order_used.l1]; rw [if_neg (by omega)])
    (fun i => by simp) l3.length 0 (k - l2.length - 1) (l4 ++ l5 ++ l2.map (fun d => d.f1)) (by omega) (by omega) (by simp; omega) (by omega)
  refine e2.trans ?_
  rw [flat_at l3 (fun i => rd_T56 l3 (i : Int)) (rdT_get _) (fun d => [d.f1, d.f2])]
  rfl
end
end Go.Proofs.Ytpdlkjpemplhoaa.P
namespace Go.Proofs.Ytpdlkjpemplhoaa.P
open Go.RowKit Go.Proofs.YtpdlkjpemplhoaaW.PrintWords Go.Proofs.YtpdlkjpemplhoaaW.PrintLast Go.Proofs.YtpdlkjpemplhoaaW.PrintMore
attribute [local go_sem] max2_int min2_int max_two min_two max_three min_three max_four min_four
set_option linter.unusedVariables false
set_option linter.unusedSimpArgs false
mutual
def r3_Check.j0 : Nat → Bool → Int → List Int → List (S56) → List (S56) → List Int → List Int → Option (Int)
 | 0, _, _, _, _, _, _, _ => none
 | k + 1, x38, x392000, x392001, x392002, x392003, x392004, x392005 => if x38 = true then (some 4) else ((r3_numbers.f k x392000 x392001 x392002 x392003 x392004 x392005).bind fun t392 => (if t392 = true then ((r3_Times.f k x392000 x392001 x392002 x392003 x392004 x392005).bind fun t393 => (r3_Check.l0 k t393 0 x392000 x392001 x392002 x392003 x392004 x392005)) else (some 8)))
def r3_Check.l0 : Nat → List Int → Int → Int → List Int → List (S56) → List (S56) → List Int → List Int → Option (Int)
 | 0, _, _, _, _, _, _, _, _ => none
 | k + 1, x3, x4, x392000, x392001, x392002, x392003, x392004, x392005 => if x4 ≤ x392000 then (if 0 ≤ x4 then (if x4 < (x3.length : Int) then (if (rd x3 x4) > 1 then (some 43) else (r3_Check.l0 k x3 (wrap64 (x4 + 1)) x392000 x392001 x392002 x392003 x392004 x392005)) else (none)) else (none)) else ((r3_Used.f k x392000 x392001 x392002 x392003 x392004 x392005).bind fun t397 => (r3_Check.l1 k x3 t397 0 x392000 x392001 x392002 x392003 x392004 x392005))
def r3_Check.l1 : Nat → List Int → List Int → Int → Int → List Int → List (S56) → List (S56) → List Int → List Int → Option (Int)
 | 0, _, _, _, _, _, _, _, _, _ => none
 | k + 1, x3, x5, x6, x392000, x392001, x392002, x392003, x392004, x392005 => if x6 < (x5.length : Int) then (if 0 ≤ x6 then (if 0 ≤ (wrap64 (Int.tdiv (rd x5 x6) 2)) then (if (wrap64 (Int.tdiv (rd x5 x6) 2)) < (x3.length : Int) then (if (rd x3 (wrap64 (Int.tdiv (rd x5 x6) 2))) = 0 then (some 46) else (r3_Check.l1 k x3 x5 (wrap64 (x6 + 1)) x392000 x392001 x392002 x392003 x392004 x392005)) else (none)) else (none)) else (none)) else ((r3_Order.f k x392000 x392001 x392002 x392003 x392004 x392005).bind fun t402 => (if (t402.length : Int) < (x392003.length : Int) then (some 41) else (some 0)))
end
end Go.Proofs.Ytpdlkjpemplhoaa.P
namespace Go.Proofs.Ytpdlkjpemplhoaa.P
open Go.RowKit Go.Proofs.YtpdlkjpemplhoaaW.PrintWords Go.Proofs.YtpdlkjpemplhoaaW.PrintLast Go.Proofs.YtpdlkjpemplhoaaW.PrintMore
set_option linter.unusedVariables false
set_option linter.unusedSimpArgs false
def badOwn (most x : Int) : Bool := decide (x < 2) || (Int.tmod x 2 == 1) || decide (x > 2 * most + 1)
def badUse (most x : Int) : Bool := decide (x < 0) || decide (x > 2 * most + 1)
def badRe (d : S56) : Bool := decide (d.f2 < 0) || decide (d.f2 > 2)
theorem off_eq {m x : Int} (hm : 0 ≤ m ∧ m ≤ 1000) (hx : I64 x) : offB m x = badUse m x := by
  unfold offB badUse I64 at *
  by_cases c : x < 0
  · simp [c]
  · rw [Int.tdiv_eq_ediv_of_nonneg (by omega), wrap_id (by omega) (by omega), Bool.eq_iff_iff]
    simp [c]; omega
theorem own_eq {m x : Int} (hm : 0 ≤ m ∧ m ≤ 1000) (hx : I64 x) : notOwnB m x = badOwn m x := by
  unfold notOwnB
  rw [off_eq hm hx]
  unfold badUse badOwn
  rw [Bool.eq_iff_iff]
  simp only [Bool.or_eq_true, decide_eq_true_iff]
  constructor
  · rintro ((( h | h) | h) | h)
    · left; left; omega
    · right; exact h
    · left; left; exact h
    · left; right; exact h
  · rintro ((h | h) | h)
    · left; right; exact h
    · right; exact h
    · left; left; right; exact h
section
variable (most : Int) (l1 : List Int) (l2 l3 : List S56) (l4 l5 : List Int)
end
end Go.Proofs.Ytpdlkjpemplhoaa.P
namespace Go.Proofs.Ytpdlkjpemplhoaa.P
open Go.RowKit Go.Proofs.YtpdlkjpemplhoaaW.PrintWords Go.Proofs.YtpdlkjpemplhoaaW.PrintLast Go.Proofs.YtpdlkjpemplhoaaW.PrintMore
set_option linter.unusedVariables false
set_option linter.unusedSimpArgs false
def varN (x : Int) : Nat := (x / 2).toNat
theorem var_w {x : Int} (h0 : 0 ≤ x) (h1 : x ≤ 3000) : wrap64 (Int.tdiv x 2) = (varN x : Int) := by
  unfold varN
  rw [Int.tdiv_eq_ediv_of_nonneg h0, wrap_id (by omega) (by omega)]; omega
theorem twice_ok : ∀ (l : List Int) (g : List Bool), (∀ x ∈ l, 0 ≤ x ∧ x / 2 < (g.length : Int)) →
    ∃ g', chkTwice l g = some (if (l.map varN).Nodup ∧ (∀ u ∈ l.map varN, gb g u = false) then some g' else none) ∧ g'.length = g.length ∧ ∀ u, gb g' u = (gb g u || (l.map varN).contains u) := by
  intro l
  induction l with
  | nil => intro g _; exact ⟨g, by simp [chkTwice], rfl, fun u => by simp⟩
  | cons x t ih =>
    intro g h
    have hx := h x List.mem_cons_self
    have hq : x / 2 = (varN x : Int) := by unfold varN; omega
    simp only [chkTwice]
    rw [if_pos hx, hq, rdOf_gb, Int.toNat_natCast]
    obtain ⟨g', e1, e2, e3⟩ := ih (g.set (varN x) true) (fun y hy => by rw [List.length_set]; exact h y (List.mem_cons_of_mem _ hy))
    have hset := fun u => gb_set g (varN x) u true (by omega)
    refine ⟨g', ?_, by rw [e2, List.length_set], fun u => ?_⟩
    · by_cases c : gb g (varN x) = true
      · rw [if_pos c, if_neg]
        rintro ⟨_, h2⟩
        have := h2 (varN x) (by simp)
        rw [c] at this; cases this
      · rw [if_neg c, e1]
        congr 1
        have hiff : ((t.map varN).Nodup ∧ ∀ u ∈ t.map varN, gb (g.set (varN x) true) u = false) ↔ (((x :: t).map varN).Nodup ∧ ∀ u ∈ (x :: t).map varN, gb g u = false) := by
          rw [List.map_cons, List.nodup_cons]
          constructor
          · rintro ⟨a, b⟩
            have hn : varN x ∉ t.map varN := fun hm => by
              have := b _ hm
              rw [hset, if_pos rfl] at this; cases this
            refine ⟨⟨hn, a⟩, fun u hu => ?_⟩
            rcases List.mem_cons.1 hu with rfl | hu
            · exact Bool.eq_false_iff.2 c
            · have := b u hu
              rw [hset] at this
              split at this
              · cases this
              · exact this
          · rintro ⟨⟨hn, a⟩, b⟩
            refine ⟨a, fun u hu => ?_⟩
            rw [hset, if_neg (fun e : u = varN x => hn (e ▸ hu))]
            exact b u (List.mem_cons_of_mem _ hu)
        by_cases p : ((t.map varN).Nodup ∧ ∀ u ∈ t.map varN, gb (g.set (varN x) true) u = false)
        · rw [if_pos p, if_pos (hiff.1 p)]
        · rw [if_neg p, if_neg (fun q => p (hiff.2 q))]
    · rw [e3, hset, List.map_cons, List.contains_cons]
      by_cases e : u = varN x
      · subst e; simp
      · have : (u == varN x) = false := by rw [beq_eq_false_iff_ne]; exact e
        rw [if_neg e, this, Bool.false_or]
end Go.Proofs.Ytpdlkjpemplhoaa.P
namespace Go.Proofs.Ytpdlkjpemplhoaa.P
open Go.RowKit Go.Proofs.YtpdlkjpemplhoaaW.PrintWords Go.Proofs.YtpdlkjpemplhoaaW.PrintLast Go.Proofs.YtpdlkjpemplhoaaW.PrintMore
set_option linter.unusedVariables false
set_option linter.unusedSimpArgs false
def loose (own : List Int) (x : Int) : Bool := !(decide (varN x = 0) || (own.map varN).contains (varN x))
def chkVal (own use : List Int) (l3 : List S56) : Int :=
  if ¬ (own.map varN).Nodup then 43 else if use.any (loose own) = true then 46 else if (ordS l3 l3.length []).length < l3.length then 41 else 0
theorem nodup_at {α : Type} {l : List α} (h : l.Nodup) {i j : Nat} (hi : i < l.length) (hj : j < l.length) (e : l[i] = l[j]) : i = j := by
  rcases Nat.lt_trichotomy i j with c | c | c
  · exact absurd e (List.pairwise_iff_getElem.1 h i j hi hj c)
  · exact c
  · exact absurd e.symm (List.pairwise_iff_getElem.1 h j i hj hi c)
section
variable {m : Nat} {own use : List Int} {l3 : List S56}
theorem varN_pos (ho : ∀ x ∈ own, 2 ≤ x ∧ x ≤ 2 * (m : Int) + 1) : ∀ u ∈ own.map varN, 1 ≤ u ∧ u ≤ m := by
  intro u hu
  obtain ⟨x, hx, rfl⟩ := List.mem_map.1 hu
  have := ho x hx
  unfold varN; omega
theorem ok_of (hm : m ≤ 1000) (h3 : l3.length ≤ 1000) (ho : ∀ x ∈ own, 2 ≤ x ∧ x ≤ 2 * (m : Int) + 1) (hu : ∀ x ∈ use, 0 ≤ x ∧ x ≤ 2 * (m : Int) + 1) (l1 : List Int) (l2 : List S56) (l4 l5 : List Int) (eo : own = ownL l1 l2 l3) (eu : use = useL l2 l3 l4 l5) (hn : (own.map varN).Nodup) : Ok m l3 := by
  have ho0 : ∀ d ∈ l3, d.f0 ∈ own := fun d hd => by
    rw [eo]; unfold ownL; exact List.mem_append_right _ (List.mem_map_of_mem hd)
  have hu1 : ∀ d ∈ l3, d.f1 ∈ use := fun d hd => by
    rw [eu]; unfold useL; exact List.mem_append_right _ (List.mem_flatMap.2 ⟨d, hd, by simp⟩)
  have hu2 : ∀ d ∈ l3, d.f2 ∈ use := fun d hd => by
    rw [eu]; unfold useL; exact List.mem_append_right _ (List.mem_flatMap.2 ⟨d, hd, by simp⟩)
  refine ⟨fun d hd => ?_, fun d hd => ?_, fun d hd => ?_, ⟨hm, h3⟩, fun i j hi hj e => ?_⟩
  · have := ho _ (ho0 d hd); omega
  · have := hu _ (hu1 d hd); omega
  · have := hu _ (hu2 d hd); omega
  · have hq : (l3.map (fun d => vrD d)).Nodup := by
      rw [eo] at hn
      unfold ownL at hn
      rw [List.map_append, List.nodup_append] at hn
      have := hn.2.1
      rw [List.map_map] at this
      exact this
    have hg : ∀ i (h : i < l3.length), vr l3 i = (l3.map (fun d => vrD d))[i]'(by simpa using h) := fun i h => by
      unfold vr rd_T56
      simp [h]
    rw [hg i hi, hg j hj] at e
    exact (nodup_at hq _ _ e)
theorem kn_start (m : Nat) (u : Nat) : gb ((List.replicate (m + 1) false).set 0 true) u = decide (u = 0) := by
  rw [gb_set _ _ _ _ (by simp)]
  by_cases e : u = 0
  · simp [e]
  · rw [if_neg e]
    simp only [gb, List.getD_eq_getElem?_getD, List.getElem?_replicate]
    split <;> simp [e]
theorem prog_val (hm : m ≤ 1000) (h3 : l3.length ≤ 1000) (ho : ∀ x ∈ own, 2 ≤ x ∧ x ≤ 2 * (m : Int) + 1) (hu : ∀ x ∈ use, 0 ≤ x ∧ x ≤ 2 * (m : Int) + 1) (l1 : List Int) (l2 : List S56) (l4 l5 : List Int) (eo : own = ownL l1 l2 l3) (eu : use = useL l2 l3 l4 l5) :
    (chkTwice own ((List.replicate ((m : Int) + 1).toNat false).set 0 true)).bind (chkRest (m : Int) l3 use) = some (chkVal own use l3) := by
  rw [show ((m : Int) + 1).toNat = m + 1 by omega]
  obtain ⟨g', e1, e2, e3⟩ := twice_ok own ((List.replicate (m + 1) false).set 0 true) (fun x hx => by
    have := ho x hx
    simp; omega)
  rw [e1, Option.bind_some]
  have hl : g'.length = m + 1 := by rw [e2]; simp
  have hz : ∀ u ∈ own.map varN, gb ((List.replicate (m + 1) false).set 0 true) u = false := fun u hu => by
    have := varN_pos ho u hu
    rw [kn_start]; exact decide_eq_false (by omega)
  unfold chkVal
  by_cases hn : (own.map varN).Nodup
  · rw [if_pos ⟨hn, hz⟩, if_neg (fun c => c hn)]
    simp only [chkRest]
    have hv : ∀ x ∈ use, wrap64 (Int.tdiv x 2) = (varN x : Int) ∧ varN x ≤ m := fun x hx => by
      have := hu x hx
      exact ⟨var_w this.1 (by omega), by unfold varN; omega⟩
    rw [if_pos (by
      rw [List.all_eq_true]
      intro x hx
      obtain ⟨h1, h2⟩ := hv x hx
      rw [h1, hl, Bool.and_eq_true]
      exact ⟨decide_eq_true (by omega), decide_eq_true (by omega)⟩)]
    have ha : use.any (fun x => !rdOf false g' (wrap64 (Int.tdiv x 2))) = use.any (loose own) := by
      rw [Bool.eq_iff_iff, List.any_eq_true, List.any_eq_true]
      have he : ∀ x ∈ use, (!rdOf false g' (wrap64 (Int.tdiv x 2))) = loose own x := fun x hx => by
        rw [(hv x hx).1, rdOf_gb, e3, kn_start]; rfl
      constructor
      · rintro ⟨x, hx, h⟩; exact ⟨x, hx, he x hx ▸ h⟩
      · rintro ⟨x, hx, h⟩; exact ⟨x, hx, (he x hx).symm ▸ h⟩
    rw [ha, sorted_eq m l3 (ok_of hm h3 ho hu l1 l2 l4 l5 eo eu hn)]
    by_cases c : use.any (loose own) = true
    · rw [if_pos c, if_pos c]
    · rw [if_neg c, if_neg c, Option.bind_some, List.length_map]
      split <;> rfl
  · rw [if_neg (fun c => hn c.1), if_pos hn]; rfl
end
end Go.Proofs.Ytpdlkjpemplhoaa.P
namespace Go.Proofs.Ytpdlkjpemplhoaa.P
open Go.RowKit Go.Proofs.YtpdlkjpemplhoaaW.PrintWords Go.Proofs.YtpdlkjpemplhoaaW.PrintLast Go.Proofs.YtpdlkjpemplhoaaW.PrintMore
set_option linter.unusedVariables false
set_option linter.unusedSimpArgs false
def badAny (most : Int) (l1 : List Int) (l2 l3 : List S56) (l4 l5 : List Int) : Bool := (ownL l1 l2 l3).any (badOwn most) || (useL l2 l3 l4 l5).any (badUse most) || l2.any badRe
def manyP (most : Int) (l1 : List Int) (l2 l3 : List S56) (l4 l5 : List Int) : Prop := 1000 < most ∨ 1000 < l1.length + l2.length + l3.length ∨ 100 < l4.length ∨ 100 < l5.length
instance (most : Int) (l1 : List Int) (l2 l3 : List S56) (l4 l5 : List Int) : Decidable (manyP most l1 l2 l3 l4 l5) := by unfold manyP; infer_instance
def chkS (most : Int) (l1 : List Int) (l2 l3 : List S56) (l4 l5 : List Int) : Int :=
  if most < 0 then 8 else if manyP most l1 l2 l3 l4 l5 then 4 else if badAny most l1 l2 l3 l4 l5 = true then 8 else chkVal (ownL l1 l2 l3) (useL l2 l3 l4 l5) l3
section
variable {most : Int} {l1 : List Int} {l2 l3 : List S56} {l4 l5 : List Int}
structure Num (most : Int) (l1 : List Int) (l2 l3 : List S56) (l4 l5 : List Int) : Prop where
  m : 0 ≤ most ∧ most ≤ 1000
  len : l1.length + l2.length + l3.length ≤ 1000
  own : ∀ x ∈ ownL l1 l2 l3, 2 ≤ x ∧ x ≤ 2 * most + 1 ∧ x % 2 = 0
  use : ∀ x ∈ useL l2 l3 l4 l5, 0 ≤ x ∧ x ≤ 2 * most + 1
  l4 : l4.length ≤ 100
  l5 : l5.length ≤ 100
theorem num_of (h0 : ¬ most < 0) (h1 : ¬ manyP most l1 l2 l3 l4 l5) (h2 : ¬ badAny most l1 l2 l3 l4 l5 = true) : Num most l1 l2 l3 l4 l5 := by
  unfold manyP at h1
  unfold badAny at h2
  rw [Bool.or_eq_true, Bool.or_eq_true, not_or, not_or] at h2
  obtain ⟨⟨a, b⟩, -⟩ := h2
  refine ⟨by omega, by omega, fun x hx => ?_, fun x hx => ?_, by omega, by omega⟩
  · have this : ¬ badOwn most x = true := fun c => a (List.any_eq_true.2 ⟨x, hx, c⟩)
    unfold badOwn at this
    simp only [Bool.or_eq_true, decide_eq_true_eq, not_or, beq_iff_eq] at this
    obtain ⟨⟨a1, a2⟩, a3⟩ := this
    have := Int.tmod_eq_emod_of_nonneg (b := 2) (show 0 ≤ x by omega)
    omega
  · have this : ¬ badUse most x = true := fun c => b (List.any_eq_true.2 ⟨x, hx, c⟩)
    unfold badUse at this
    simp only [Bool.or_eq_true, decide_eq_true_eq, not_or] at this
    omega
theorem prog_chk (h1 : l1.length ≤ 2000) (h2 : l2.length ≤ 2000) (h3 : l3.length ≤ 2000) (h4 : l4.length ≤ 2000) (h5 : l5.length ≤ 2000) (ho : ∀ x ∈ ownL l1 l2 l3, I64 x) (hu : ∀ x ∈ useL l2 l3 l4 l5, I64 x) :
    order_Check.f most l1 l2 l3 l4 l5 = some (chkS most l1 l2 l3 l4 l5) := by
  unfold order_Check.f chkS
  by_cases c0 : most < 0
  · rw [if_pos c0, if_pos c0]
  rw [if_neg c0, if_neg c0]
  have hw : wrap64 (wrap64 ((l1.length : Int) + (l2.length : Int)) + (l3.length : Int)) = (l1.length : Int) + l2.length + l3.length := by rw [wrap_id (by omega : -9223372036854775808 ≤ (l1.length : Int) + (l2.length : Int)) (by omega), wrap_id (by omega) (by omega)]
  rw [hw]
  by_cases c1 : manyP most l1 l2 l3 l4 l5
  · rw [if_pos c1]
    unfold manyP at c1
    by_cases d1 : 1000 < most
    · rw [if_pos d1]
    rw [if_neg d1]
    by_cases d2 : 1000 < (l1.length : Int) + l2.length + l3.length
    · rw [if_pos d2]
    rw [if_neg d2, if_pos]
    unfold mx
    split <;> omega
  have hc1 := c1
  rw [if_neg c1]
  unfold manyP at c1
  rw [if_neg (by omega), if_neg (by omega), if_neg (by unfold mx; split <;> omega), defined_eq most l1 l2 l3 l4 l5 (by omega) (by omega) (by omega) _ (by omega), used_eq most l1 l2 l3 l4 l5 (by omega) (by omega) (by omega) (by omega) _ (by omega)]
  simp only [Option.bind_some]
  unfold chkMain
  have e1 : (ownL l1 l2 l3).any (notOwnB most) = (ownL l1 l2 l3).any (badOwn most) := by
    rw [Bool.eq_iff_iff, List.any_eq_true, List.any_eq_true]
    constructor
    · rintro ⟨x, hx, h⟩; exact ⟨x, hx, own_eq (m := most) (by omega) (ho x hx) ▸ h⟩
    · rintro ⟨x, hx, h⟩; exact ⟨x, hx, (own_eq (m := most) (by omega) (ho x hx)).symm ▸ h⟩
  have e2 : (useL l2 l3 l4 l5).any (offB most) = (useL l2 l3 l4 l5).any (badUse most) := by
    rw [Bool.eq_iff_iff, List.any_eq_true, List.any_eq_true]
    constructor
    · rintro ⟨x, hx, h⟩; exact ⟨x, hx, off_eq (m := most) (by omega) (hu x hx) ▸ h⟩
    · rintro ⟨x, hx, h⟩; exact ⟨x, hx, (off_eq (m := most) (by omega) (hu x hx)).symm ▸ h⟩
  rw [e1, e2]
  have e3 : (l2.any fun x => decide (x.f2 < 0) || decide (2 < x.f2)) = l2.any badRe := rfl
  rw [e3]
  by_cases c2 : badAny most l1 l2 l3 l4 l5 = true
  · rw [if_pos c2]
    unfold badAny at c2
    by_cases d1 : (ownL l1 l2 l3).any (badOwn most) = true
    · rw [if_pos d1]
    rw [if_neg d1]
    by_cases d2 : (useL l2 l3 l4 l5).any (badUse most) = true
    · rw [if_pos d2]
    rw [if_neg d2, if_pos]
    rw [Bool.eq_false_iff.2 d1, Bool.eq_false_iff.2 d2] at c2
    simpa using c2
  have hN := num_of c0 hc1 c2
  rw [if_neg c2]
  unfold badAny at c2
  rw [Bool.or_eq_true, Bool.or_eq_true, not_or, not_or] at c2
  rw [if_neg c2.1.1, if_neg c2.1.2, if_neg c2.2]
  obtain ⟨m, rfl⟩ := Int.eq_ofNat_of_zero_le hN.m.1
  have hm := hN.m.2
  have hlen := hN.len
  exact prog_val (by omega) (by omega) (fun x hx => ⟨(hN.own x hx).1, (hN.own x hx).2.1⟩) hN.use l1 l2 l4 l5 rfl rfl
end
end Go.Proofs.Ytpdlkjpemplhoaa.P
namespace Go.Proofs.Ytpdlkjpemplhoaa.P
open Go.RowKit Go.Proofs.YtpdlkjpemplhoaaW.PrintWords Go.Proofs.YtpdlkjpemplhoaaW.PrintLast Go.Proofs.YtpdlkjpemplhoaaW.PrintMore
attribute [local go_sem] max2_int min2_int max_two min_two max_three min_three max_four min_four
set_option linter.unusedVariables false
set_option linter.unusedSimpArgs false
mutual
def r3_Numbers.l0 : Nat → List Int → Int → Int → List Int → List (S56) → List (S56) → List Int → List Int → Option (List Int)
 | 0, _, _, _, _, _, _, _, _ => none
 | k + 1, x3, x4, x407000, x407001, x407002, x407003, x407004, x407005 => if x4 ≤ x407000 then (if 0 ≤ x4 then (if x4 < (x3.length : Int) then (r3_Numbers.l0 k (x3.set (x4 : Int).toNat (-1)) (wrap64 (x4 + 1)) x407000 x407001 x407002 x407003 x407004 x407005) else (none)) else (none)) else (r3_Numbers.l1 k x3 1 0 x407000 x407001 x407002 x407003 x407004 x407005)
def r3_Numbers.l1 : Nat → List Int → Int → Int → Int → List Int → List (S56) → List (S56) → List Int → List Int → Option (List Int)
 | 0, _, _, _, _, _, _, _, _, _ => none
 | k + 1, x3, x5, x6, x407000, x407001, x407002, x407003, x407004, x407005 => if x6 < (x407001.length : Int) then (if 0 ≤ x6 then (if 0 ≤ (wrap64 (Int.tdiv (rd x407001 x6) 2)) then (if (wrap64 (Int.tdiv (rd x407001 x6) 2)) < (x3.length : Int) then (r3_Numbers.l1 k (x3.set ((wrap64 (Int.tdiv (rd x407001 x6) 2)) : Int).toNat x5) (wrap64 (x5 + 1)) (wrap64 (x6 + 1)) x407000 x407001 x407002 x407003 x407004 x407005) else (none)) else (none)) else (none)) else (r3_Numbers.l2 k x3 x5 0 x407000 x407001 x407002 x407003 x407004 x407005)
def r3_Numbers.l2 : Nat → List Int → Int → Int → Int → List Int → List (S56) → List (S56) → List Int → List Int → Option (List Int)
 | 0, _, _, _, _, _, _, _, _, _ => none
 | k + 1, x3, x5, x7, x407000, x407001, x407002, x407003, x407004, x407005 => if x7 < (x407002.length : Int) then (if 0 ≤ x7 then (if 0 ≤ (wrap64 (Int.tdiv ((rd_T56 x407002 x7).f0) 2)) then (if (wrap64 (Int.tdiv ((rd_T56 x407002 x7).f0) 2)) < (x3.length : Int) then (r3_Numbers.l2 k (x3.set ((wrap64 (Int.tdiv ((rd_T56 x407002 x7).f0) 2)) : Int).toNat x5) (wrap64 (x5 + 1)) (wrap64 (x7 + 1)) x407000 x407001 x407002 x407003 x407004 x407005) else (none)) else (none)) else (none)) else ((r3_Order.f k x407000 x407001 x407002 x407003 x407004 x407005).bind fun t415 => (r3_Numbers.l3 k x3 x5 t415 0 x407000 x407001 x407002 x407003 x407004 x407005))
def r3_Numbers.l3 : Nat → List Int → Int → List Int → Int → Int → List Int → List (S56) → List (S56) → List Int → List Int → Option (List Int)
 | 0, _, _, _, _, _, _, _, _, _, _ => none
 | k + 1, x3, x5, x8, x9, x407000, x407001, x407002, x407003, x407004, x407005 => if x9 < (x8.length : Int) then (if 0 ≤ x9 then (if 0 ≤ (rd x8 x9) then (if (rd x8 x9) < (x407003.length : Int) then (if 0 ≤ (wrap64 (Int.tdiv ((rd_T56 x407003 (rd x8 x9)).f0) 2)) then (if (wrap64 (Int.tdiv ((rd_T56 x407003 (rd x8 x9)).f0) 2)) < (x3.length : Int) then (r3_Numbers.l3 k (x3.set ((wrap64 (Int.tdiv ((rd_T56 x407003 (rd x8 x9)).f0) 2)) : Int).toNat x5) (wrap64 (x5 + 1)) x8 (wrap64 (x9 + 1)) x407000 x407001 x407002 x407003 x407004 x407005) else (none)) else (none)) else (none)) else (none)) else (none)) else (some x3)
end
def r3_Told.f (l0 : List Int) (a1 : Int) : Option (Int) := if 0 ≤ (wrap64 (Int.tdiv a1 2)) then (if (wrap64 (Int.tdiv a1 2)) < (l0.length : Int) then (some (wrap64 ((wrap64 (2 * (rd l0 (wrap64 (Int.tdiv a1 2))))) + (Int.tmod a1 2)))) else (none)) else (none)
mutual
def r3_Circuit.l0 : Nat → List Int → Int → Int → List Int → List (S56) → List (S56) → List Int → List Int → Int → List (S61) → Option (Int × (List (S61)) × (List (S59)) × List Int × List Int × List Int × Int)
 | 0, _, _, _, _, _, _, _, _, _, _ => none
 | k + 1, x5, x7, x422000, x422001, x422002, x422003, x422004, x422005, x429000, x429001 => if x7 < (x422002.length : Int) then (if 0 ≤ x7 then ((r3_Told.f x5 ((rd_T56 x422002 x7).f1)).bind fun t430 => (if x429001.length < 8796093022208 then (r3_Circuit.l0 k x5 (wrap64 (x7 + 1)) x422000 x422001 x422002 x422003 x422004 x422005 x429000 (x429001 ++ [(⟨t430, (rd_T56 x422002 x7).f2⟩ : S61)])) else (none))) else (none)) else ((r3_Order.f k x422000 x422001 x422002 x422003 x422004 x422005).bind fun t435 => (r3_Circuit.l1 k x5 t435 0 x422000 x422001 x422002 x422003 x422004 x422005 x429000 x429001 ([] : List (S59))))
def r3_Circuit.l1 : Nat → List Int → List Int → Int → Int → List Int → List (S56) → List (S56) → List Int → List Int → Int → List (S61) → List (S59) → Option (Int × (List (S61)) × (List (S59)) × List Int × List Int × List Int × Int)
 | 0, _, _, _, _, _, _, _, _, _, _, _, _ => none
 | k + 1, x5, x8, x9, x422000, x422001, x422002, x422003, x422004, x422005, x429000, x429001, x429002 => if x9 < (x8.length : Int) then (if 0 ≤ x9 then (if 0 ≤ (rd x8 x9) then (if (rd x8 x9) < (x422003.length : Int) then ((r3_Told.f x5 ((rd_T56 x422003 (rd x8 x9)).f1)).bind fun t440 => ((r3_Told.f x5 ((rd_T56 x422003 (rd x8 x9)).f2)).bind fun t443 => (if x429002.length < 8796093022208 then (r3_Circuit.l1 k x5 x8 (wrap64 (x9 + 1)) x422000 x422001 x422002 x422003 x422004 x422005 x429000 x429001 (x429002 ++ [(⟨mx t440 t443, mn t440 t443⟩ : S59)])) else (none)))) else (none)) else (none)) else (none)) else (r3_Circuit.l2 k x5 0 x422000 x422001 x422002 x422003 x422004 x422005 x429000 x429001 x429002 ([] : List Int))
def r3_Circuit.l2 : Nat → List Int → Int → Int → List Int → List (S56) → List (S56) → List Int → List Int → Int → List (S61) → List (S59) → List Int → Option (Int × (List (S61)) × (List (S59)) × List Int × List Int × List Int × Int)
 | 0, _, _, _, _, _, _, _, _, _, _, _, _ => none
 | k + 1, x5, x12, x422000, x422001, x422002, x422003, x422004, x422005, x429000, x429001, x429002, x429003 => if x12 < (x422004.length : Int) then (if 0 ≤ x12 then ((r3_Told.f x5 (rd x422004 x12)).bind fun t448 => (if x429003.length < 17592186044416 then (r3_Circuit.l2 k x5 (wrap64 (x12 + 1)) x422000 x422001 x422002 x422003 x422004 x422005 x429000 x429001 x429002 (x429003 ++ [t448])) else (none))) else (none)) else (r3_Circuit.l3 k x5 0 x422000 x422001 x422002 x422003 x422004 x422005 x429000 x429001 x429002 x429003 ([] : List Int))
def r3_Circuit.l3 : Nat → List Int → Int → Int → List Int → List (S56) → List (S56) → List Int → List Int → Int → List (S61) → List (S59) → List Int → List Int → Option (Int × (List (S61)) × (List (S59)) × List Int × List Int × List Int × Int)
 | 0, _, _, _, _, _, _, _, _, _, _, _, _, _ => none
 | k + 1, x5, x13, x422000, x422001, x422002, x422003, x422004, x422005, x429000, x429001, x429002, x429003, x429004 => if x13 < (x422005.length : Int) then (if 0 ≤ x13 then ((r3_Told.f x5 (rd x422005 x13)).bind fun t453 => (if x429004.length < 17592186044416 then (r3_Circuit.l3 k x5 (wrap64 (x13 + 1)) x422000 x422001 x422002 x422003 x422004 x422005 x429000 x429001 x429002 x429003 (x429004 ++ [t453])) else (none))) else (none)) else (some (x429000, x429001, x429002, x429003, x429004, x5, 0))
end
end Go.Proofs.Ytpdlkjpemplhoaa.P
namespace Go.Proofs.Ytpdlkjpemplhoaa.P
open Go.RowKit Go.Proofs.YtpdlkjpemplhoaaW.PrintWords Go.Proofs.YtpdlkjpemplhoaaW.PrintLast Go.Proofs.YtpdlkjpemplhoaaW.PrintMore
set_option linter.unusedVariables false
set_option linter.unusedSimpArgs false
def numW : List Nat → Nat → List Int → List Int
  | [], _, g => g
  | v :: t, x, g => numW t (x + 1) (g.set v (x : Int))
theorem numW_append (a b : List Nat) : ∀ x g, numW (a ++ b) x g = numW b (x + a.length) (numW a x g) := by
  induction a with
  | nil => intro x g; rfl
  | cons v t ih => intro x g; simp only [List.cons_append, numW, ih, List.length_cons]; rw [show x + 1 + t.length = x + (t.length + 1) by omega]
theorem numW_len (a : List Nat) : ∀ x g, (numW a x g).length = g.length := by
  induction a with
  | nil => intro x g; rfl
  | cons v t ih => intro x g; simp only [numW, ih, List.length_set]
theorem numW_bd (B : Int) (a : List Nat) : ∀ (x : Nat) (g : List Int), (∀ u, u < g.length → -1 ≤ gt g u ∧ gt g u ≤ B) → (x : Int) + a.length ≤ B → (∀ v ∈ a, v < g.length) → ∀ u, u < g.length → -1 ≤ gt (numW a x g) u ∧ gt (numW a x g) u ≤ B := by
  induction a with
  | nil => intro x g h _ _; exact h
  | cons v t ih =>
    intro x g h hx hv u hu
    have hv0 := hv v List.mem_cons_self
    rw [List.length_cons] at hx
    refine ih (x + 1) _ (fun u hu => ?_) (by omega) (fun w hw => by rw [List.length_set]; exact hv w (List.mem_cons_of_mem _ hw)) u (by rw [List.length_set]; exact hu)
    rw [List.length_set] at hu
    rw [gt_set _ _ _ _ hv0]
    split
    · omega
    · exact h u hu
theorem own_num (xs : List Int) : ∀ (x : Nat) (g : List Int), (∀ l ∈ xs, 0 ≤ l ∧ varN l < g.length) → x + xs.length ≤ 1000000 → cirOwn xs (x : Int) g = some (numW (xs.map varN) (x + 1) g, ((x + xs.length : Nat) : Int)) := by
  induction xs with
  | nil => intro x g _ _; rfl
  | cons l t ih =>
    intro x g h hx
    have h0 := h l List.mem_cons_self
    rw [List.length_cons] at hx
    have hq : l / 2 = (varN l : Int) := by unfold varN; omega
    simp only [cirOwn]
    rw [hq, if_pos ⟨h0.1, by omega, by omega, by omega⟩, Int.toNat_natCast, show (x : Int) + 1 = ((x + 1 : Nat) : Int) by omega, ih (x + 1) _ (fun y hy => by rw [List.length_set]; exact h y (List.mem_cons_of_mem _ hy)) (by omega)]
    simp only [List.map_cons, numW, List.length_cons]
    rw [show x + 1 + t.length = x + (t.length + 1) by omega]
theorem gates_num (ands : List S56) (s : List Nat) : ∀ (x : Nat) (g : List Int), (∀ i ∈ s, i < ands.length ∧ 0 ≤ (rd_T56 ands (i : Int)).f0 ∧ vr ands i < g.length) → x + s.length ≤ 1000000 →
    cirGates ands (s.map (fun k : Nat => (k : Int))) (x : Int) g = some (numW (s.map (vr ands)) (x + 1) g, ((x + s.length : Nat) : Int)) := by
  induction s with
  | nil => intro x g _ _; rfl
  | cons i t ih =>
    intro x g h hx
    have h0 := h i List.mem_cons_self
    rw [List.length_cons] at hx
    have hq : (rd_T56 ands (i : Int)).f0 / 2 = (vr ands i : Int) := by unfold vr vrD; omega
    simp only [List.map_cons, cirGates]
    rw [hq, if_pos ⟨by omega, by omega, h0.2.1, by omega, by omega, by omega⟩, Int.toNat_natCast, show (x : Int) + 1 = ((x + 1 : Nat) : Int) by omega, ih (x + 1) _ (fun y hy => by rw [List.length_set]; exact h y (List.mem_cons_of_mem _ hy)) (by omega)]
    simp only [numW, List.length_cons]
    rw [show x + 1 + t.length = x + (t.length + 1) by omega]
def numS (m : Nat) : List Int := (List.replicate (m + 1) (-1)).set 0 0
theorem numS_len (m : Nat) : (numS m).length = m + 1 := by simp [numS]
theorem gt_rep (n u : Nat) (x : Int) (h : u < n) : gt (List.replicate n x) u = x := by
  rw [gt_get _ _ (by simpa using h)]; simp
theorem numS_gt (m u : Nat) (hu : u ≤ m) : gt (numS m) u = if u = 0 then 0 else -1 := by
  unfold numS
  rw [gt_set _ _ _ _ (by simp)]
  split
  · rfl
  · exact gt_rep _ _ _ (by omega)
section
variable (m : Nat) (l1 : List Int) (l2 l3 : List S56) (l4 l5 : List Int)
def varsN (l1 : List Int) (l2 l3 : List S56) (s : List Nat) : List Nat := l1.map varN ++ l2.map (fun d => varN d.f0) ++ s.map (vr l3)
end
end Go.Proofs.Ytpdlkjpemplhoaa.P
namespace Go.Proofs.Ytpdlkjpemplhoaa.P
open Go.RowKit Go.Proofs.YtpdlkjpemplhoaaW.PrintWords Go.Proofs.YtpdlkjpemplhoaaW.PrintLast Go.Proofs.YtpdlkjpemplhoaaW.PrintMore
set_option linter.unusedVariables false
set_option linter.unusedSimpArgs false
def told (g : List Int) (x : Int) : Int := 2 * gt g (varN x) + x % 2
def cirSv (g : List Int) (l1 : List Int) (l2 l3 : List S56) (l4 l5 : List Int) (s : List Nat) : Int × List S61 × List S59 × List Int × List Int × List Int × Int :=
  ((l1.length : Int), l2.map (fun d => ⟨told g d.f1, d.f2⟩), s.map (fun i : Nat => ⟨mx (told g (rd_T56 l3 (i : Int)).f1) (told g (rd_T56 l3 (i : Int)).f2), mn (told g (rd_T56 l3 (i : Int)).f1) (told g (rd_T56 l3 (i : Int)).f2)⟩), l4.map (told g), l5.map (told g), g, 0)
theorem ord_lt (ands : List S56) (f : Nat) : ∀ done : List Nat, (∀ i ∈ done, i < ands.length) → ∀ i ∈ ordS ands f done, i < ands.length := by
  induction f with
  | zero => intro done h; exact h
  | succ f ih =>
    intro done h
    unfold ordS
    split
    · exact h
    · rename_i i hf
      have := List.mem_of_find?_eq_some hf
      exact ih _ (fun j hj => by
        rcases List.mem_append.1 hj with hj | hj
        · exact h j hj
        · rw [List.mem_singleton.1 hj]; exact List.mem_range.1 this)
theorem ord_le (ands : List S56) (f : Nat) : ∀ done : List Nat, (ordS ands f done).length ≤ done.length + f := by
  induction f with
  | zero => intro done; exact Nat.le_refl _
  | succ f ih =>
    intro done
    unfold ordS
    split
    · omega
    · have := ih (done ++ [‹Nat›])
      rw [List.length_append] at this
      simp at this
      omega
section
variable {m : Nat} {g : List Int}
theorem told_prog (hm : m ≤ 1000) (hg : g.length = m + 1) (hb : ∀ u, u < g.length → -1 ≤ gt g u ∧ gt g u ≤ 10000) {x : Int} (hx : 0 ≤ x ∧ x ≤ 2 * (m : Int) + 1) : toldL g x = some (told g x) := by
  have hq : x / 2 = (varN x : Int) := by unfold varN; omega
  have := hb (varN x) (by omega)
  unfold toldL told
  rw [hq, rd_gt g (varN x), if_pos ⟨hx.1, by omega, by omega, by omega, by omega⟩]
theorem mapO_some {α β : Type} (f : α → Option β) (h : α → β) (l : List α) (hf : ∀ x ∈ l, f x = some (h x)) : mapO f l = some (l.map h) := by
  induction l with
  | nil => rfl
  | cons a t ih =>
    simp only [mapO, List.map_cons]
    rw [hf a List.mem_cons_self, ih (fun x hx => hf x (List.mem_cons_of_mem _ hx))]; rfl
section
variable {l1 : List Int} {l2 l3 : List S56} {l4 l5 : List Int} {s : List Nat}
theorem num_bd (hN : Num (m : Int) l1 l2 l3 l4 l5) (hs : s.length ≤ 1000) (hi : ∀ i ∈ s, i < l3.length) : ∀ u, u < (numW (varsN l1 l2 l3 s) 1 (numS m)).length → -1 ≤ gt (numW (varsN l1 l2 l3 s) 1 (numS m)) u ∧ gt (numW (varsN l1 l2 l3 s) 1 (numS m)) u ≤ 10000 := by
  have hl := hN.len
  have ho3 : ∀ d ∈ l3, 2 ≤ d.f0 ∧ d.f0 ≤ 2 * (m : Int) + 1 := fun d hd => by
    have := hN.own d.f0 (by unfold ownL; exact List.mem_append_right _ (List.mem_map_of_mem hd)); omega
  have hg : (numW (varsN l1 l2 l3 s) 1 (numS m)).length = m + 1 := by rw [numW_len, numS_len]
  intro u hu
  rw [hg] at hu
  refine numW_bd 10000 _ 1 (numS m) (fun u hu => ?_) (by unfold varsN; simp; omega) (fun v hv => ?_) u (by rw [numS_len]; omega)
  · rw [numS_len] at hu
    rw [numS_gt _ _ (by omega)]; split <;> omega
  · rw [numS_len]
    unfold varsN at hv
    rcases List.mem_append.1 hv with hv | hv
    · rcases List.mem_append.1 hv with hv | hv
      · obtain ⟨x, hx, rfl⟩ := List.mem_map.1 hv
        have := hN.own x (by unfold ownL; exact List.mem_append_left _ (List.mem_append_left _ hx))
        unfold varN; omega
      · obtain ⟨d, hd, rfl⟩ := List.mem_map.1 hv
        have := hN.own d.f0 (by unfold ownL; exact List.mem_append_left _ (List.mem_append_right _ (List.mem_map_of_mem hd)))
        unfold varN; omega
    · obtain ⟨i, hi', rfl⟩ := List.mem_map.1 hv
      have := ho3 _ (rdT_mem (hi i hi'))
      unfold vr vrD; omega
theorem make_eq (hN : Num (m : Int) l1 l2 l3 l4 l5) (hs : s.length ≤ 1000) (hi : ∀ i ∈ s, i < l3.length) :
    cirMake (m : Int) l1 l2 l3 l4 l5 (s.map (fun k : Nat => (k : Int))) (ownL l1 l2 l3) = some (cirSv (numW (varsN l1 l2 l3 s) 1 (numS m)) l1 l2 l3 l4 l5 s) := by
  have hm : m ≤ 1000 := by have := hN.m; omega
  have hl := hN.len
  have h4 := hN.l4
  have h5 := hN.l5
  have ho3 : ∀ d ∈ l3, 2 ≤ d.f0 ∧ d.f0 ≤ 2 * (m : Int) + 1 := fun d hd => by
    have := hN.own d.f0 (by unfold ownL; exact List.mem_append_right _ (List.mem_map_of_mem hd)); omega
  have hol : (ownL l1 l2 l3).length = l1.length + l2.length + l3.length := by simp [ownL]; omega
  have htk : (ownL l1 l2 l3).take (l1.length + l2.length) = l1 ++ l2.map (fun d => d.f0) := by
    unfold ownL
    rw [List.take_append_of_le_length (by simp), List.take_of_length_le (by simp)]
  unfold cirMake
  rw [if_pos ⟨by omega, by omega, by omega, by rw [List.length_map]; omega, by omega, by omega⟩, show ((m : Int) + 1).toNat = m + 1 by omega, htk]
  have hg0 : (List.replicate (m + 1) (-1 : Int)).set 0 0 = numS m := rfl
  rw [hg0, show (0 : Int) = ((0 : Nat) : Int) from rfl, own_num (l1 ++ l2.map (fun d => d.f0)) 0 (numS m) (fun x hx => by
    have := hN.own x (by unfold ownL; exact List.mem_append_left _ hx)
    rw [numS_len]; unfold varN; omega) (by simp; omega), Option.bind_some, gates_num l3 s _ _ (fun i hi' => by
      have := ho3 _ (rdT_mem (hi i hi'))
      have := hi i hi'
      rw [numW_len, numS_len]; unfold vr vrD; omega) (by simp; omega), Option.bind_some]
  have hv : numW (s.map (vr l3)) (0 + (l1 ++ l2.map (fun d => d.f0)).length + 1) (numW ((l1 ++ l2.map (fun d => d.f0)).map varN) (0 + 1) (numS m)) = numW (varsN l1 l2 l3 s) 1 (numS m) := by
    unfold varsN
    rw [numW_append (l1.map varN ++ l2.map (fun d => varN d.f0))]
    simp only [List.map_append, List.map_map, List.length_append, List.length_map, Nat.zero_add]
    rw [show l1.length + l2.length + 1 = 1 + (l1.length + l2.length) by omega]
    rfl
  simp only [hv]
  have hg : (numW (varsN l1 l2 l3 s) 1 (numS m)).length = m + 1 := by rw [numW_len, numS_len]
  have hb := num_bd hN hs hi
  generalize numW (varsN l1 l2 l3 s) 1 (numS m) = g at hg hb ⊢
  have ht : ∀ x, (0 ≤ x ∧ x ≤ 2 * (m : Int) + 1) → toldL g x = some (told g x) := fun x hx => told_prog hm hg hb hx
  have hu4 : ∀ x ∈ l4, 0 ≤ x ∧ x ≤ 2 * (m : Int) + 1 := fun x hx => hN.use x (by unfold useL; exact List.mem_append_left _ (List.mem_append_left _ (List.mem_append_left _ hx)))
  have hu5 : ∀ x ∈ l5, 0 ≤ x ∧ x ≤ 2 * (m : Int) + 1 := fun x hx => hN.use x (by unfold useL; exact List.mem_append_left _ (List.mem_append_left _ (List.mem_append_right _ hx)))
  have hu2 : ∀ d ∈ l2, 0 ≤ d.f1 ∧ d.f1 ≤ 2 * (m : Int) + 1 := fun d hd => hN.use d.f1 (by unfold useL; exact List.mem_append_left _ (List.mem_append_right _ (List.mem_map_of_mem hd)))
  have hu3 : ∀ d ∈ l3, (0 ≤ d.f1 ∧ d.f1 ≤ 2 * (m : Int) + 1) ∧ (0 ≤ d.f2 ∧ d.f2 ≤ 2 * (m : Int) + 1) := fun d hd => ⟨hN.use d.f1 (by unfold useL; exact List.mem_append_right _ (List.mem_flatMap.2 ⟨d, hd, by simp⟩)), hN.use d.f2 (by unfold useL; exact List.mem_append_right _ (List.mem_flatMap.2 ⟨d, hd, by simp⟩))⟩
  have m2 : mapO (latT g) l2 = some (l2.map (fun d => ⟨told g d.f1, d.f2⟩)) := mapO_some _ _ _ (fun d hd => by
    unfold latT; rw [ht _ (hu2 d hd), Option.bind_some])
  have m3 : mapO (andT g l3) (s.map (fun k : Nat => (k : Int))) = some ((s.map (fun k : Nat => (k : Int))).map (fun i : Int => ⟨mx (told g (rd_T56 l3 i).f1) (told g (rd_T56 l3 i).f2), mn (told g (rd_T56 l3 i).f1) (told g (rd_T56 l3 i).f2)⟩)) := mapO_some _ _ _ (fun i hi' => by
    obtain ⟨q, hq, rfl⟩ := List.mem_map.1 hi'
    have hq' := hi q hq
    have := hu3 _ (rdT_mem hq')
    unfold andT
    rw [if_pos (by omega), ht _ this.1, Option.bind_some, ht _ this.2, Option.bind_some]
    unfold mx mn
    generalize told g (rd_T56 l3 (q : Int)).f1 = a
    generalize told g (rd_T56 l3 (q : Int)).f2 = b
    congr 2
    split <;> split <;> omega)
  have m4 : mapO (toldL g) l4 = some (l4.map (told g)) := mapO_some _ _ _ (fun x hx => ht x (hu4 x hx))
  have m5 : mapO (toldL g) l5 = some (l5.map (told g)) := mapO_some _ _ _ (fun x hx => ht x (hu5 x hx))
  rw [m2, m3, m4, m5]
  simp only [Option.bind_some]
  unfold cirSv
  rw [List.map_map]
  rfl
end
end
end Go.Proofs.Ytpdlkjpemplhoaa.P
namespace Go.Proofs.Ytpdlkjpemplhoaa.P
open Go.RowKit Go.Proofs.YtpdlkjpemplhoaaW.PrintWords Go.Proofs.YtpdlkjpemplhoaaW.PrintLast Go.Proofs.YtpdlkjpemplhoaaW.PrintMore
set_option linter.unusedVariables false
set_option linter.unusedSimpArgs false
def circS (most : Int) (l1 : List Int) (l2 l3 : List S56) (l4 l5 : List Int) : Int × List S61 × List S59 × List Int × List Int × List Int × Int :=
  if chkS most l1 l2 l3 l4 l5 = 0 then cirSv (numW (varsN l1 l2 l3 (ordS l3 l3.length [])) 1 (numS most.toNat)) l1 l2 l3 l4 l5 (ordS l3 l3.length []) else (0, [], [], [], [], [], chkS most l1 l2 l3 l4 l5)
section
variable {most : Int} {l1 : List Int} {l2 l3 : List S56} {l4 l5 : List Int}
theorem chkS_zero (h : chkS most l1 l2 l3 l4 l5 = 0) : Num most l1 l2 l3 l4 l5 ∧ ((ownL l1 l2 l3).map varN).Nodup ∧ l3.length ≤ (ordS l3 l3.length []).length := by
  unfold chkS at h
  by_cases c0 : most < 0
  · rw [if_pos c0] at h; cases h
  rw [if_neg c0] at h
  by_cases c1 : manyP most l1 l2 l3 l4 l5
  · rw [if_pos c1] at h; cases h
  rw [if_neg c1] at h
  by_cases c2 : badAny most l1 l2 l3 l4 l5 = true
  · rw [if_pos c2] at h; cases h
  rw [if_neg c2] at h
  refine ⟨num_of c0 c1 c2, ?_⟩
  unfold chkVal at h
  by_cases d0 : ¬ ((ownL l1 l2 l3).map varN).Nodup
  · rw [if_pos d0] at h; cases h
  rw [if_neg d0] at h
  by_cases d1 : (useL l2 l3 l4 l5).any (loose (ownL l1 l2 l3)) = true
  · rw [if_pos d1] at h; cases h
  rw [if_neg d1] at h
  by_cases d2 : (ordS l3 l3.length []).length < l3.length
  · rw [if_pos d2] at h; cases h
  exact ⟨Decidable.not_not.1 d0, by omega⟩
theorem num_ok {m : Nat} (hN : Num (m : Int) l1 l2 l3 l4 l5) (hn : ((ownL l1 l2 l3).map varN).Nodup) : Ok m l3 := by
  have hm := hN.m
  have hl := hN.len
  exact ok_of (by omega) (by omega) (fun x hx => ⟨(hN.own x hx).1, (hN.own x hx).2.1⟩) hN.use l1 l2 l4 l5 rfl rfl hn
theorem ord_bd (l3 : List S56) : ∀ i ∈ ordS l3 l3.length [], i < l3.length := ord_lt l3 l3.length [] (fun i hi => by cases hi)
theorem ord_len (l3 : List S56) : (ordS l3 l3.length []).length ≤ l3.length := by
  have := ord_le l3 l3.length []
  simpa using this
theorem prog_cir (h1 : l1.length ≤ 2000) (h2 : l2.length ≤ 2000) (h3 : l3.length ≤ 2000) (h4 : l4.length ≤ 2000) (h5 : l5.length ≤ 2000) (ho : ∀ x ∈ ownL l1 l2 l3, I64 x) (hu : ∀ x ∈ useL l2 l3 l4 l5, I64 x) :
    order_Circuit.f most l1 l2 l3 l4 l5 = some (circS most l1 l2 l3 l4 l5) := by
  unfold order_Circuit.f circS
  rw [prog_chk h1 h2 h3 h4 h5 ho hu, Option.bind_some]
  by_cases c : chkS most l1 l2 l3 l4 l5 = 0
  · rw [if_pos c, if_pos c]
    obtain ⟨hN, hn, -⟩ := chkS_zero c
    obtain ⟨m, rfl⟩ := Int.eq_ofNat_of_zero_le hN.m.1
    have hm := hN.m
    have hl := hN.len
    have hol := ord_len l3
    rw [if_pos ⟨by omega, by omega⟩, sorted_eq m l3 (num_ok hN hn), Option.bind_some, defined_eq (m : Int) l1 l2 l3 l4 l5 (by omega) (by omega) (by omega) _ (by omega), Option.bind_some, make_eq hN (by omega) (ord_bd l3), Int.toNat_natCast]
  · rw [if_neg c, if_neg c]
end
end Go.Proofs.Ytpdlkjpemplhoaa.P
namespace Go.Proofs.Ytpdlkjpemplhoaa.P
open Go.RowKit Go.Proofs.YtpdlkjpemplhoaaW.PrintWords Go.Proofs.YtpdlkjpemplhoaaW.PrintLast Go.Proofs.YtpdlkjpemplhoaaW.PrintMore
set_option linter.unusedVariables false
set_option linter.unusedSimpArgs false
structure Val (n : Int) (l1 : List S61) (l2 : List S59) (l3 l4 : List Int) : Prop where
  n0 : 0 ≤ n
  len : n + l1.length + l2.length ≤ 1000
  b3 : l3.length ≤ 100
  b4 : l4.length ≤ 100
  u3 : ∀ x ∈ l3, 0 ≤ x ∧ x ≤ 2 * (n + l1.length + l2.length) + 1
  u4 : ∀ x ∈ l4, 0 ≤ x ∧ x ≤ 2 * (n + l1.length + l2.length) + 1
  u1 : ∀ d ∈ l1, (0 ≤ d.f0 ∧ d.f0 ≤ 2 * (n + l1.length + l2.length) + 1) ∧ 0 ≤ d.f1 ∧ d.f1 ≤ 2
  u2 : ∀ (i : Nat) (h : i < l2.length), 0 ≤ l2[i].f1 ∧ l2[i].f1 ≤ l2[i].f0 ∧ l2[i].f0 < 2 * (1 + n + l1.length + i)
theorem andsOk_iff (b : Int) (l : List S59) : ∀ i : Nat, andsOk b i l = true ↔ ∀ (j : Nat) (h : j < l.length), gBad b (i + j) l[j] = false := by
  induction l with
  | nil => intro i; exact ⟨fun _ j h => absurd h (Nat.not_lt_zero j), fun _ => rfl⟩
  | cons g r ih =>
    intro i
    simp only [andsOk, Bool.and_eq_true, Bool.not_eq_true', ih]
    constructor
    · rintro ⟨a, c⟩ j h
      cases j with
      | zero => exact a
      | succ j =>
        have := c j (by simpa using h)
        rw [show i + (j + 1) = i + 1 + j by omega]; exact this
    · intro h
      refine ⟨h 0 (by simp), fun j hj => ?_⟩
      have := h (j + 1) (by simpa using hj)
      rw [show i + (j + 1) = i + 1 + j by omega] at this; exact this
theorem outB_iff (s x : Int) : outB (s + 1) x = false ↔ 0 ≤ x ∧ x ≤ 2 * s + 1 := by
  unfold outB
  rw [Bool.or_eq_false_iff, decide_eq_false_iff_not, decide_eq_false_iff_not]
  omega
theorem any_false {α : Type} (l : List α) (f : α → Bool) : l.any f = false ↔ ∀ x ∈ l, f x = false := by
  rw [← Bool.not_eq_true, List.any_eq_true]
  constructor
  · intro h x hx; exact Bool.eq_false_iff.2 (fun c => h ⟨x, hx, c⟩)
  · rintro h ⟨x, hx, c⟩; rw [h x hx] at c; cases c
theorem val_iff (n : Int) (l1 : List S61) (l2 : List S59) (l3 l4 : List Int) (h1 : l1.length ≤ 2000) (h2 : l2.length ≤ 2000) (h3 : l3.length ≤ 2000) (h4 : l4.length ≤ 2000) : checkS n l1 l2 l3 l4 = 0 ↔ Val n l1 l2 l3 l4 := by
  unfold checkS
  by_cases c0 : n < 0
  · rw [if_pos c0]
    exact ⟨fun h => absurd h (by decide), fun h => absurd h.n0 (by omega)⟩
  rw [if_neg c0]
  by_cases c1 : 1000 < n
  · rw [if_pos c1]
    exact ⟨fun h => absurd h (by decide), fun h => absurd h.len (by omega)⟩
  rw [if_neg c1]
  have eA : gAnd n l1.length = 1 + n + l1.length := by
    unfold gAnd gLat
    rw [wrap_id (n := 1 + n) (by omega) (by omega), wrap_id (by omega) (by omega)]
  have eE : gEnd n l1.length l2.length = (n + l1.length + l2.length) + 1 := by
    unfold gEnd
    rw [eA, wrap_id (by omega) (by omega)]; omega
  rw [eE, eA, wrap_id (n := n + l1.length + l2.length + 1 - 1) (by omega) (by omega)]
  by_cases c2 : 1000 < n + (l1.length : Int) + l2.length + 1 - 1
  · rw [if_pos c2]
    exact ⟨fun h => absurd h (by decide), fun h => absurd h.len (by omega)⟩
  rw [if_neg c2]
  by_cases c3 : 100 < mx (l3.length : Int) (l4.length : Int)
  · rw [if_pos c3]
    refine ⟨fun h => absurd h (by decide), fun h => ?_⟩
    have a := h.b3
    have b := h.b4
    unfold mx at c3
    split at c3 <;> omega
  rw [if_neg c3]
  have b3 : l3.length ≤ 100 ∧ l4.length ≤ 100 := by
    unfold mx at c3
    split at c3 <;> omega
  clear c3
  by_cases d1 : l3.any (outB (n + l1.length + l2.length + 1)) = true
  · rw [if_pos d1]
    refine ⟨fun h => absurd h (by decide), fun h => ?_⟩
    rw [(any_false _ _).2 (fun x hx => (outB_iff _ _).2 (h.u3 x hx))] at d1; cases d1
  rw [if_neg d1]
  by_cases d2 : l4.any (outB (n + l1.length + l2.length + 1)) = true
  · rw [if_pos d2]
    refine ⟨fun h => absurd h (by decide), fun h => ?_⟩
    rw [(any_false _ _).2 (fun x hx => (outB_iff _ _).2 (h.u4 x hx))] at d2; cases d2
  rw [if_neg d2]
  have hw : ∀ d : S61, wrongB (n + l1.length + l2.length + 1) d = false ↔ (0 ≤ d.f0 ∧ d.f0 ≤ 2 * (n + l1.length + l2.length) + 1) ∧ 0 ≤ d.f1 ∧ d.f1 ≤ 2 := fun d => by
    unfold wrongB
    rw [Bool.or_eq_false_iff, Bool.or_eq_false_iff, outB_iff, decide_eq_false_iff_not, decide_eq_false_iff_not]
    omega
  by_cases d3 : l1.any (wrongB (n + l1.length + l2.length + 1)) = true
  · rw [if_pos d3]
    refine ⟨fun h => absurd h (by decide), fun h => ?_⟩
    rw [(any_false _ _).2 (fun x hx => (hw x).2 (h.u1 x hx))] at d3; cases d3
  rw [if_neg d3]
  have hg : ∀ (j : Nat) (h : j < l2.length), gBad (1 + n + l1.length) (0 + j) l2[j] = false ↔ 0 ≤ l2[j].f1 ∧ l2[j].f1 ≤ l2[j].f0 ∧ l2[j].f0 < 2 * (1 + n + l1.length + j) := fun j h => by
    unfold gBad
    rw [Nat.zero_add, wrap_id (n := 1 + n + (l1.length : Int) + (j : Int)) (by omega) (by omega), wrap_id (by omega) (by omega), Bool.or_eq_false_iff, Bool.or_eq_false_iff, decide_eq_false_iff_not, decide_eq_false_iff_not, decide_eq_false_iff_not]
    omega
  by_cases d4 : andsOk (1 + n + l1.length) 0 l2 = true
  · rw [if_pos d4]
    exact ⟨fun _ => ⟨by omega, by omega, b3.1, b3.2, fun x hx => (outB_iff _ _).1 ((any_false _ _).1 (Bool.eq_false_iff.2 d1) x hx), fun x hx => (outB_iff _ _).1 ((any_false _ _).1 (Bool.eq_false_iff.2 d2) x hx), fun x hx => (hw x).1 ((any_false _ _).1 (Bool.eq_false_iff.2 d3) x hx), fun j h => (hg j h).1 ((andsOk_iff _ _ _).1 d4 j h)⟩, fun _ => rfl⟩
  · rw [if_neg d4]
    refine ⟨fun h => absurd h (by decide), fun h => ?_⟩
    exact absurd ((andsOk_iff _ _ _).2 (fun j hj => (hg j hj).2 (h.u2 j hj))) d4
end Go.Proofs.Ytpdlkjpemplhoaa.P
namespace Go.Proofs.Ytpdlkjpemplhoaa.P
open Go.RowKit Go.Proofs.YtpdlkjpemplhoaaW.PrintWords Go.Proofs.YtpdlkjpemplhoaaW.PrintLast Go.Proofs.YtpdlkjpemplhoaaW.PrintMore
set_option linter.unusedVariables false
set_option linter.unusedSimpArgs false
theorem ord_inv (ands : List S56) (f : Nat) : ∀ done : List Nat, done.Nodup → (∀ (k : Nat) (h : k < done.length), nextP ands (done.take k) done[k] = true) →
    (ordS ands f done).Nodup ∧ (∀ (k : Nat) (h : k < (ordS ands f done).length), nextP ands ((ordS ands f done).take k) (ordS ands f done)[k] = true) ∧
      ((ordS ands f done).length = done.length + f ∨ (List.range ands.length).find? (nextP ands (ordS ands f done)) = none) := by
  induction f with
  | zero => intro done h1 h2; exact ⟨h1, h2, .inl rfl⟩
  | succ f ih =>
    intro done h1 h2
    cases hf : (List.range ands.length).find? (nextP ands done) with
    | none =>
      have e : ordS ands (f + 1) done = done := by simp [ordS, hf]
      rw [e]; exact ⟨h1, h2, .inr hf⟩
    | some i =>
      have e : ordS ands (f + 1) done = ordS ands f (done ++ [i]) := by simp [ordS, hf]
      rw [e]
      have hp := List.find?_some hf
      have hi : i ∉ done := by
        unfold nextP at hp
        rw [Bool.and_eq_true, Bool.not_eq_true'] at hp
        intro hm
        have : done.contains i = true := by simpa using hm
        rw [this] at hp; exact absurd hp.1 (by simp)
      obtain ⟨g1, g2, g3⟩ := ih (done ++ [i]) (by
        rw [List.nodup_append]
        exact ⟨h1, by simp, fun a ha b hb e => by rw [List.mem_singleton.1 hb] at e; exact hi (e ▸ ha)⟩) (fun k hk => by
        rw [List.length_append, List.length_singleton] at hk
        by_cases hkl : k < done.length
        · rw [List.getElem_append_left hkl, List.take_append_of_le_length (by omega)]
          exact h2 k hkl
        · have : k = done.length := by omega
          subst this
          simpa using hp)
      refine ⟨g1, g2, g3.imp_left fun h => ?_⟩
      rw [h, List.length_append, List.length_singleton]; omega
theorem ord_all (ands : List S56) : (ordS ands ands.length []).Nodup ∧ (∀ (k : Nat) (h : k < (ordS ands ands.length []).length), nextP ands ((ordS ands ands.length []).take k) (ordS ands ands.length [])[k] = true) ∧
      ((ordS ands ands.length []).length = ands.length ∨ (List.range ands.length).find? (nextP ands (ordS ands ands.length [])) = none) := by
  have := ord_inv ands ands.length [] (by simp) (by simp)
  simpa using this
theorem all_le : ∀ (n : Nat) (s : List Nat), (∀ i, i < n → i ∈ s) → n ≤ s.length
  | 0, _, _ => Nat.zero_le _
  | n + 1, s, h => by
    have hn := h n (Nat.lt_succ_self n)
    have := all_le n (s.erase n) (fun i hi => (List.mem_erase_of_ne (by omega)).2 (h i (by omega)))
    rw [List.length_erase_of_mem hn] at this
    have := List.length_pos_of_mem hn
    omega
theorem mem_of_full {n : Nat} {s : List Nat} (hn : s.Nodup) (hl : ∀ i ∈ s, i < n) (h : n ≤ s.length) (i : Nat) (hi : i < n) : i ∈ s := by
  by_cases c : i ∈ s
  · exact c
  · have := nodup_le n (i :: s) (List.nodup_cons.2 ⟨c, hn⟩) (fun x hx => by
      rcases List.mem_cons.1 hx with rfl | hx
      · exact hi
      · exact hl x hx)
    rw [List.length_cons] at this; omega
inductive Rdy (ands : List S56) : Nat → Prop
  | free {u} (h : isG ands u = false) : Rdy ands u
  | gate {d} (h : d ∈ ands) (h1 : Rdy ands (paD d)) (h2 : Rdy ands (pbD d)) : Rdy ands (vrD d)
theorem isG_any (ands : List S56) (u : Nat) : isG ands u = ands.any (fun d => vrD d == u) := by
  rw [any_range]; rfl
theorem isG_perm {a b : List S56} (h : ∀ d, d ∈ a ↔ d ∈ b) (u : Nat) : isG a u = isG b u := by
  rw [isG_any, isG_any, Bool.eq_iff_iff, List.any_eq_true, List.any_eq_true]
  exact ⟨fun ⟨d, hd, e⟩ => ⟨d, (h d).1 hd, e⟩, fun ⟨d, hd, e⟩ => ⟨d, (h d).2 hd, e⟩⟩
theorem Rdy.perm {a b : List S56} (h : ∀ d, d ∈ a ↔ d ∈ b) {u : Nat} (hr : Rdy a u) : Rdy b u := by
  induction hr with
  | free hf => exact .free (by rw [← isG_perm h]; exact hf)
  | gate hd _ _ i1 i2 => exact .gate ((h _).1 hd) i1 i2
theorem rv_split {ands : List S56} {done : List Nat} {u : Nat} (h : rv ands done u = true) : isG ands u = false ∨ ∃ i ∈ done, vr ands i = u := by
  unfold rv at h
  rw [Bool.or_eq_true, Bool.not_eq_true', List.any_eq_true] at h
  exact h.imp_right fun ⟨i, hi, e⟩ => ⟨i, hi, by simpa using e⟩
theorem next_split {ands : List S56} {done : List Nat} {i : Nat} (h : nextP ands done i = true) : i ∉ done ∧ rv ands done (pa ands i) = true ∧ rv ands done (pb ands i) = true := by
  unfold nextP at h
  rw [Bool.and_eq_true, Bool.and_eq_true, Bool.not_eq_true'] at h
  exact ⟨fun hm => by have : done.contains i = true := by simpa using hm
                      rw [this] at h; exact absurd h.1 (by simp), h.2⟩
theorem rdy_of_done {ands : List S56} {s : List Nat} (hs : ∀ (k : Nat) (h : k < s.length), nextP ands (s.take k) s[k] = true) (hl : ∀ i ∈ s, i < ands.length) (k : Nat) : ∀ (h : k < s.length), Rdy ands (vr ands s[k]) := by
  induction k using Nat.strongRecOn with
  | _ k ih =>
    intro hk
    obtain ⟨-, h1, h2⟩ := next_split (hs k hk)
    have part : ∀ u, rv ands (s.take k) u = true → Rdy ands u := by
      intro u hu
      rcases rv_split hu with h | ⟨i, hi, e⟩
      · exact .free h
      · obtain ⟨j, hj, ej⟩ := List.getElem_of_mem hi
        rw [List.length_take] at hj
        rw [List.getElem_take] at ej
        have := ih j (by omega) (by omega)
        rw [ej, e] at this; exact this
    exact .gate (rdT_mem (hl _ (List.getElem_mem hk))) (part _ h1) (part _ h2)
theorem full_iff {ands : List S56} (once : ∀ i j, i < ands.length → j < ands.length → vr ands i = vr ands j → i = j) : ands.length ≤ (ordS ands ands.length []).length ↔ ∀ d ∈ ands, Rdy ands (vrD d) := by
  obtain ⟨h1, h2, h3⟩ := ord_all ands
  have hb := ord_bd ands
  constructor
  · intro h d hd
    obtain ⟨i, hi, rfl⟩ := List.getElem_of_mem hd
    have hm := mem_of_full h1 hb h i hi
    obtain ⟨k, hk, e⟩ := List.getElem_of_mem hm
    have := rdy_of_done h2 hb k hk
    rw [e] at this
    unfold vr at this
    rwa [rdT_get ands i hi] at this
  · intro h
    rcases h3 with h3 | h3
    · omega
    · refine all_le _ _ fun i hi => ?_
      by_cases c : i ∈ ordS ands ands.length []
      · exact c
      exfalso
      have hno : ∀ j, j < ands.length → ¬ nextP ands (ordS ands ands.length []) j = true := fun j hj => List.find?_eq_none.1 h3 j (List.mem_range.2 hj)
      have key : ∀ u, Rdy ands u → rv ands (ordS ands ands.length []) u = true := by
        intro u hu
        induction hu with
        | free hf => unfold rv; rw [hf]; rfl
        | gate hd _ _ i1 i2 =>
          rename_i d _ _
          obtain ⟨j, hj, rfl⟩ := List.getElem_of_mem hd
          have ej : rd_T56 ands (j : Int) = ands[j] := rdT_get ands j hj
          by_cases cj : j ∈ ordS ands ands.length []
          · unfold rv
            rw [Bool.or_eq_true, List.any_eq_true]
            exact .inr ⟨j, cj, by unfold vr; rw [ej]; simp⟩
          · refine absurd ?_ (hno j hj)
            unfold nextP
            rw [Bool.and_eq_true, Bool.and_eq_true, Bool.not_eq_true']
            refine ⟨by simpa using cj, ?_, ?_⟩
            · unfold pa; rw [ej]; exact i1
            · unfold pb; rw [ej]; exact i2
      have hr := key _ (h _ (rdT_mem hi))
      rcases rv_split hr with h4 | ⟨j, hj, e⟩
      · have : isG ands (vr ands i) = true := isG_vr hi
        unfold vr at this
        rw [this] at h4; cases h4
      · exact c (once j i (hb j hj) hi e ▸ hj)
theorem once_of {l1 : List Int} {l2 l3 : List S56} (hn : ((ownL l1 l2 l3).map varN).Nodup) : ∀ i j, i < l3.length → j < l3.length → vr l3 i = vr l3 j → i = j := by
  have h3 : (l3.map vrD).Nodup := by
    unfold ownL at hn
    rw [List.map_append, List.nodup_append] at hn
    have := hn.2.1
    rw [List.map_map] at this
    exact this
  intro i j hi hj e
  refine nodup_at h3 (by simpa using hi) (by simpa using hj) ?_
  unfold vr at e
  rw [rdT_get l3 i hi, rdT_get l3 j hj] at e
  simpa using e
section
variable {most : Int} {l1 : List Int} {l2 l3 l3' : List S56} {l4 l5 : List Int}
theorem own_perm (hp : l3.Perm l3') : (ownL l1 l2 l3).Perm (ownL l1 l2 l3') := by unfold ownL; exact List.Perm.append_left _ (hp.map _)
theorem use_perm (hp : l3.Perm l3') : (useL l2 l3 l4 l5).Perm (useL l2 l3' l4 l5) := by unfold useL; exact List.Perm.append_left _ (hp.flatMap_right _)
theorem any_perm {α : Type} {a b : List α} (h : ∀ x, x ∈ a ↔ x ∈ b) {f g : α → Bool} (hf : ∀ x, f x = g x) : a.any f = b.any g := by
  rw [Bool.eq_iff_iff, List.any_eq_true, List.any_eq_true]
  exact ⟨fun ⟨d, hd, e⟩ => ⟨d, (h d).1 hd, by rw [← hf]; exact e⟩, fun ⟨d, hd, e⟩ => ⟨d, (h d).2 hd, by rw [hf]; exact e⟩⟩
theorem chkVal_perm (hp : l3.Perm l3') : chkVal (ownL l1 l2 l3') (useL l2 l3' l4 l5) l3' = chkVal (ownL l1 l2 l3) (useL l2 l3 l4 l5) l3 := by
  have ho := own_perm (l1 := l1) (l2 := l2) hp
  have hu := use_perm (l2 := l2) (l4 := l4) (l5 := l5) hp
  have hnd : ((ownL l1 l2 l3').map varN).Nodup ↔ ((ownL l1 l2 l3).map varN).Nodup := ((ho.map varN).nodup_iff).symm
  have hl : ∀ x, loose (ownL l1 l2 l3') x = loose (ownL l1 l2 l3) x := by
    intro x
    unfold loose
    congr 2
    rw [Bool.eq_iff_iff, List.contains_iff_mem, List.contains_iff_mem]
    exact ((ho.map varN).mem_iff).symm
  have ha : (useL l2 l3' l4 l5).any (loose (ownL l1 l2 l3')) = (useL l2 l3 l4 l5).any (loose (ownL l1 l2 l3)) := any_perm (fun x => hu.mem_iff.symm) hl
  unfold chkVal
  by_cases c : ((ownL l1 l2 l3).map varN).Nodup
  · rw [if_neg (not_not_intro (hnd.2 c)), if_neg (not_not_intro c), ha]
    have hf : l3'.length ≤ (ordS l3' l3'.length []).length ↔ l3.length ≤ (ordS l3 l3.length []).length := by
      rw [full_iff (once_of (hnd.2 c)), full_iff (once_of c)]
      exact ⟨fun h d hd => (h d (hp.mem_iff.1 hd)).perm (fun d => hp.mem_iff.symm), fun h d hd => (h d (hp.mem_iff.2 hd)).perm (fun d => hp.mem_iff)⟩
    have hg : (ordS l3' l3'.length []).length < l3'.length ↔ (ordS l3 l3.length []).length < l3.length := by omega
    by_cases c2 : (ordS l3 l3.length []).length < l3.length
    · rw [if_pos c2, if_pos (hg.2 c2)]
    · rw [if_neg c2, if_neg (fun h => c2 (hg.1 h))]
  · rw [if_pos c, if_pos (fun h => c (hnd.1 h))]
theorem chkS_perm (hp : l3.Perm l3') : chkS most l1 l2 l3' l4 l5 = chkS most l1 l2 l3 l4 l5 := by
  have hb : badAny most l1 l2 l3' l4 l5 = badAny most l1 l2 l3 l4 l5 := by
    unfold badAny
    rw [any_perm (fun x => (own_perm (l1 := l1) (l2 := l2) hp).mem_iff.symm) (fun _ => rfl), any_perm (fun x => (use_perm (l2 := l2) (l4 := l4) (l5 := l5) hp).mem_iff.symm) (fun _ => rfl)]
  have hm : manyP most l1 l2 l3' l4 l5 ↔ manyP most l1 l2 l3 l4 l5 := by unfold manyP; rw [hp.length_eq]
  unfold chkS
  by_cases c0 : most < 0
  · rw [if_pos c0, if_pos c0]
  rw [if_neg c0, if_neg c0]
  by_cases c1 : manyP most l1 l2 l3 l4 l5
  · rw [if_pos c1, if_pos (hm.2 c1)]
  rw [if_neg c1, if_neg (fun h => c1 (hm.1 h)), hb, chkVal_perm hp]
end
end Go.Proofs.Ytpdlkjpemplhoaa.P
namespace Go.Proofs.Ytpdlkjpemplhoaa.P
open Go.RowKit Go.Proofs.YtpdlkjpemplhoaaW.PrintWords Go.Proofs.YtpdlkjpemplhoaaW.PrintLast Go.Proofs.YtpdlkjpemplhoaaW.PrintMore
set_option linter.unusedVariables false
set_option linter.unusedSimpArgs false
theorem numW_at (vars : List Nat) : ∀ (x : Nat) (g : List Int), vars.Nodup → (∀ v ∈ vars, v < g.length) → (∀ (j : Nat) (h : j < vars.length), gt (numW vars x g) vars[j] = ((x + j : Nat) : Int)) ∧ ∀ u, u ∉ vars → gt (numW vars x g) u = gt g u := by
  induction vars with
  | nil => intro x g _ _; exact ⟨fun j h => absurd h (Nat.not_lt_zero j), fun _ _ => rfl⟩
  | cons v t ih =>
    intro x g hn hv
    have hv0 := hv v List.mem_cons_self
    obtain ⟨hvt, hn2⟩ := List.nodup_cons.1 hn
    obtain ⟨i1, i2⟩ := ih (x + 1) (g.set v (x : Int)) hn2 (fun w hw => by rw [List.length_set]; exact hv w (List.mem_cons_of_mem _ hw))
    refine ⟨fun j h => ?_, fun u hu => ?_⟩
    · cases j with
      | zero =>
        simp only [numW, List.getElem_cons_zero]
        rw [i2 v hvt, gt_set _ _ _ _ hv0, if_pos rfl]; rfl
      | succ j =>
        simp only [numW, List.getElem_cons_succ]
        rw [i1 j (by simpa using h)]
        omega
    · simp only [numW]
      have h1 : u ≠ v := fun e => hu (by rw [e]; exact List.mem_cons_self)
      rw [i2 u (fun hm => hu (List.mem_cons_of_mem _ hm)), gt_set _ _ _ _ hv0, if_neg h1]
section
variable {m : Nat} {l1 : List Int} {l2 l3 : List S56} {l4 l5 : List Int}
theorem chkS_more {most : Int} (h : chkS most l1 l2 l3 l4 l5 = 0) : (∀ x ∈ useL l2 l3 l4 l5, varN x = 0 ∨ varN x ∈ (ownL l1 l2 l3).map varN) ∧ ∀ d ∈ l2, 0 ≤ d.f2 ∧ d.f2 ≤ 2 := by
  unfold chkS at h
  by_cases c0 : most < 0
  · rw [if_pos c0] at h; cases h
  rw [if_neg c0] at h
  by_cases c1 : manyP most l1 l2 l3 l4 l5
  · rw [if_pos c1] at h; cases h
  rw [if_neg c1] at h
  by_cases c2 : badAny most l1 l2 l3 l4 l5 = true
  · rw [if_pos c2] at h; cases h
  rw [if_neg c2] at h
  unfold chkVal at h
  by_cases d0 : ¬ ((ownL l1 l2 l3).map varN).Nodup
  · rw [if_pos d0] at h; cases h
  rw [if_neg d0] at h
  by_cases d1 : (useL l2 l3 l4 l5).any (loose (ownL l1 l2 l3)) = true
  · rw [if_pos d1] at h; cases h
  refine ⟨fun x hx => ?_, fun d hd => ?_⟩
  · have : ¬ loose (ownL l1 l2 l3) x = true := fun c => d1 (List.any_eq_true.2 ⟨x, hx, c⟩)
    unfold loose at this
    rw [Bool.not_eq_true, Bool.not_eq_false', Bool.or_eq_true, decide_eq_true_eq, List.contains_iff_mem] at this
    exact this
  · unfold badAny at c2
    rw [Bool.or_eq_true, not_or] at c2
    have : ¬ badRe d = true := fun c => c2.2 (List.any_eq_true.2 ⟨d, hd, c⟩)
    unfold badRe at this
    simp only [Bool.or_eq_true, decide_eq_true_eq, not_or] at this
    omega
structure Nums (m : Nat) (l1 : List Int) (l2 l3 : List S56) (l4 l5 : List Int) (s : List Nat) (g : List Int) : Prop where
  full : s.length = l3.length
  nodup : s.Nodup
  lt : ∀ i ∈ s, i < l3.length
  len : g.length = m + 1
  vnd : (varsN l1 l2 l3 s).Nodup
  own : ∀ u, u ∈ varsN l1 l2 l3 s ↔ u ∈ (ownL l1 l2 l3).map varN
  pos : ∀ u ∈ varsN l1 l2 l3 s, 1 ≤ u ∧ u ≤ m
  at' : ∀ (j : Nat) (h : j < (varsN l1 l2 l3 s).length), gt g (varsN l1 l2 l3 s)[j] = ((1 + j : Nat) : Int)
  zero : gt g 0 = 0
  none : ∀ u, u ≤ m → u ≠ 0 → u ∉ varsN l1 l2 l3 s → gt g u = -1
  next : ∀ (k : Nat) (h : k < s.length), nextP l3 (s.take k) s[k] = true
theorem varsN_len (s : List Nat) : (varsN l1 l2 l3 s).length = l1.length + l2.length + s.length := by unfold varsN; simp; omega
theorem nums_of (h : chkS (m : Int) l1 l2 l3 l4 l5 = 0) : Nums m l1 l2 l3 l4 l5 (ordS l3 l3.length []) (numW (varsN l1 l2 l3 (ordS l3 l3.length [])) 1 (numS m)) := by
  obtain ⟨hN, hn, hfull⟩ := chkS_zero h
  obtain ⟨h1, h2, -⟩ := ord_all l3
  have hb := ord_bd l3
  have hl := ord_len l3
  have once := once_of hn
  have hn0 := hn
  have hsplit : (ownL l1 l2 l3).map varN = (l1.map varN ++ l2.map (fun d => varN d.f0)) ++ l3.map (fun d => varN d.f0) := by
    unfold ownL; simp only [List.map_append, List.map_map]; rfl
  rw [hsplit, List.nodup_append] at hn
  have hvr : ∀ i, i < l3.length → vr l3 i ∈ l3.map (fun d => varN d.f0) := fun i hi => List.mem_map.2 ⟨_, rdT_mem hi, rfl⟩
  have hsn : ((ordS l3 l3.length []).map (vr l3)).Nodup := by
    rw [List.Nodup, List.pairwise_map]
    exact List.Pairwise.imp_of_mem (fun ha hb' hne e => hne (once _ _ (hb _ ha) (hb _ hb') e)) h1
  have hvn : (varsN l1 l2 l3 (ordS l3 l3.length [])).Nodup := by
    unfold varsN
    rw [List.nodup_append]
    refine ⟨hn.1, hsn, fun a ha b hb' e => ?_⟩
    obtain ⟨i, hi, rfl⟩ := List.mem_map.1 hb'
    exact hn.2.2 a ha _ (hvr i (hb i hi)) e
  have hown : ∀ u, u ∈ varsN l1 l2 l3 (ordS l3 l3.length []) ↔ u ∈ (ownL l1 l2 l3).map varN := by
    intro u
    rw [hsplit]
    unfold varsN
    refine ⟨fun hu => List.mem_append.2 ((List.mem_append.1 hu).imp_right fun hm => ?_), fun hu => List.mem_append.2 ((List.mem_append.1 hu).imp_right fun hm => ?_)⟩
    · obtain ⟨i, hi, rfl⟩ := List.mem_map.1 hm
      exact hvr i (hb i hi)
    · obtain ⟨d, hd, rfl⟩ := List.mem_map.1 hm
      obtain ⟨i, hi, rfl⟩ := List.getElem_of_mem hd
      refine List.mem_map.2 ⟨i, mem_of_full h1 hb hfull i hi, ?_⟩
      unfold vr; rw [rdT_get l3 i hi]; rfl
  have hpos : ∀ u ∈ varsN l1 l2 l3 (ordS l3 l3.length []), 1 ≤ u ∧ u ≤ m := fun u hu => varN_pos (m := m) (own := ownL l1 l2 l3) (fun x hx => ⟨(hN.own x hx).1, (hN.own x hx).2.1⟩) u ((hown u).1 hu)
  obtain ⟨a1, a2⟩ := numW_at (varsN l1 l2 l3 (ordS l3 l3.length [])) 1 (numS m) hvn (fun v hv => by rw [numS_len]; have := hpos v hv; omega)
  refine ⟨by omega, h1, hb, by rw [numW_len, numS_len], hvn, hown, hpos, a1, ?_, fun u hu h0 hm => ?_, h2⟩
  · rw [a2 0 (fun hm => by have := hpos 0 hm; omega), numS_gt m 0 (by omega), if_pos rfl]
  · rw [a2 u hm, numS_gt m u hu, if_neg h0]
theorem Nums.num {s : List Nat} {g : List Int} (hN : Nums m l1 l2 l3 l4 l5 s g) {u : Nat} (hu : u = 0 ∨ u ∈ (ownL l1 l2 l3).map varN) : 0 ≤ gt g u ∧ gt g u ≤ (l1.length : Int) + l2.length + l3.length := by
  rcases hu with rfl | hu
  · rw [hN.zero]; omega
  · obtain ⟨j, hj, rfl⟩ := List.getElem_of_mem ((hN.own u).2 hu)
    rw [hN.at' j hj]
    rw [varsN_len, hN.full] at hj
    omega
theorem Nums.early {s : List Nat} {g : List Int} (hN : Nums m l1 l2 l3 l4 l5 s g) {u i : Nat} (hi : i ≤ s.length) (hu : u = 0 ∨ u ∈ (ownL l1 l2 l3).map varN) (hr : rv l3 (s.take i) u = true) : gt g u ≤ (l1.length : Int) + l2.length + i := by
  rcases hu with rfl | hu
  · rw [hN.zero]; omega
  rcases rv_split hr with h | ⟨k, hk, e⟩
  · have hm := (hN.own u).2 hu
    have hpre : u ∈ l1.map varN ++ l2.map (fun d => varN d.f0) := by
      unfold varsN at hm
      rcases List.mem_append.1 hm with h1 | h1
      · exact h1
      · obtain ⟨k, hk, rfl⟩ := List.mem_map.1 h1
        have := isG_vr (ands := l3) (hN.lt k hk)
        rw [this] at h; cases h
    obtain ⟨j, hj, e⟩ := List.getElem_of_mem hpre
    have hj2 : j < (varsN l1 l2 l3 s).length := by unfold varsN; rw [List.length_append]; omega
    have : (varsN l1 l2 l3 s)[j] = u := (List.getElem_append_left (bs := s.map (vr l3)) hj).trans e
    have := hN.at' j hj2
    rw [‹(varsN l1 l2 l3 s)[j] = u›] at this
    rw [this]
    simp at hj; omega
  · obtain ⟨j, hj, ej⟩ := List.getElem_of_mem hk
    rw [List.length_take] at hj
    rw [List.getElem_take] at ej
    have hj2 : l1.length + l2.length + j < (varsN l1 l2 l3 s).length := by rw [varsN_len]; omega
    have hv : (varsN l1 l2 l3 s)[l1.length + l2.length + j] = u := by
      refine (List.getElem_append_right (bs := s.map (vr l3)) (show (l1.map varN ++ l2.map (fun d => varN d.f0)).length ≤ l1.length + l2.length + j by simp)).trans ?_
      simp only [List.getElem_map, List.length_append, List.length_map, Nat.add_sub_cancel_left]
      rw [ej]; exact e
    have := hN.at' _ hj2
    rw [hv] at this
    rw [this]; omega
theorem told_bd {g : List Int} {x K : Int} (h : 0 ≤ gt g (varN x) ∧ gt g (varN x) ≤ K) : 0 ≤ told g x ∧ told g x ≤ 2 * K + 1 := by
  unfold told
  have := Int.emod_nonneg x (by decide : (2 : Int) ≠ 0)
  have := Int.emod_lt_of_pos x (by decide : (0 : Int) < 2)
  omega
theorem cir_val (h : chkS (m : Int) l1 l2 l3 l4 l5 = 0) (h1 : l1.length ≤ 2000) :
    Val (circS (m : Int) l1 l2 l3 l4 l5).1 (circS (m : Int) l1 l2 l3 l4 l5).2.1 (circS (m : Int) l1 l2 l3 l4 l5).2.2.1 (circS (m : Int) l1 l2 l3 l4 l5).2.2.2.1 (circS (m : Int) l1 l2 l3 l4 l5).2.2.2.2.1 := by
  have hS := nums_of h
  obtain ⟨hN, hn, hfull⟩ := chkS_zero h
  obtain ⟨hu, hre⟩ := chkS_more h
  have hlen := hN.len
  unfold circS
  rw [if_pos h, Int.toNat_natCast]
  generalize hg : numW (varsN l1 l2 l3 (ordS l3 l3.length [])) 1 (numS m) = g at hS
  generalize hs : ordS l3 l3.length [] = s at hS
  have hsl := hS.full
  unfold cirSv
  have tb : ∀ x ∈ useL l2 l3 l4 l5, 0 ≤ told g x ∧ told g x ≤ 2 * ((l1.length : Int) + l2.length + l3.length) + 1 := fun x hx => told_bd (hS.num (hu x hx))
  have m4 : ∀ x ∈ l4, x ∈ useL l2 l3 l4 l5 := fun x hx => by unfold useL; simp [hx]
  have m5 : ∀ x ∈ l5, x ∈ useL l2 l3 l4 l5 := fun x hx => by unfold useL; simp [hx]
  have m2 : ∀ d ∈ l2, d.f1 ∈ useL l2 l3 l4 l5 := fun d hd => by
    unfold useL; exact List.mem_append_left _ (List.mem_append_right _ (List.mem_map.2 ⟨d, hd, rfl⟩))
  have m31 : ∀ d ∈ l3, d.f1 ∈ useL l2 l3 l4 l5 := fun d hd => by
    unfold useL; exact List.mem_append_right _ (List.mem_flatMap.2 ⟨d, hd, by simp⟩)
  have m32 : ∀ d ∈ l3, d.f2 ∈ useL l2 l3 l4 l5 := fun d hd => by
    unfold useL; exact List.mem_append_right _ (List.mem_flatMap.2 ⟨d, hd, by simp⟩)
  refine ⟨by simp, by simp only [List.length_map]; omega, by simpa using hN.l4, by simpa using hN.l5, fun x hx => ?_, fun x hx => ?_, fun d hd => ?_, fun i hi => ?_⟩
  · obtain ⟨y, hy, rfl⟩ := List.mem_map.1 hx
    have := tb y (m4 y hy)
    simp only [List.length_map, hsl]; omega
  · obtain ⟨y, hy, rfl⟩ := List.mem_map.1 hx
    have := tb y (m5 y hy)
    simp only [List.length_map, hsl]; omega
  · obtain ⟨y, hy, rfl⟩ := List.mem_map.1 hd
    have := tb y.f1 (m2 y hy)
    have := hre y hy
    simp only [List.length_map, hsl]; omega
  · simp only [List.length_map] at hi
    have hil : s[i] < l3.length := hS.lt _ (List.getElem_mem hi)
    obtain ⟨-, r1, r2⟩ := next_split (hS.next i hi)
    have hd := rdT_mem (ands := l3) hil
    have b1 : 0 ≤ told g (rd_T56 l3 (s[i] : Int)).f1 ∧ told g (rd_T56 l3 (s[i] : Int)).f1 ≤ 2 * ((l1.length : Int) + l2.length + i) + 1 :=
      told_bd ⟨(hS.num (hu _ (m31 _ hd))).1, hS.early (by omega) (hu _ (m31 _ hd)) r1⟩
    have b2 : 0 ≤ told g (rd_T56 l3 (s[i] : Int)).f2 ∧ told g (rd_T56 l3 (s[i] : Int)).f2 ≤ 2 * ((l1.length : Int) + l2.length + i) + 1 :=
      told_bd ⟨(hS.num (hu _ (m32 _ hd))).1, hS.early (by omega) (hu _ (m32 _ hd)) r2⟩
    simp only [List.getElem_map, List.length_map]
    unfold mx mn
    refine ⟨?_, ?_, ?_⟩ <;> (repeat' split) <;> omega
end
end Go.Proofs.Ytpdlkjpemplhoaa.P
namespace Go.Proofs.Ytpdlkjpemplhoaa.P
open Go.RowKit Go.Proofs.YtpdlkjpemplhoaaW.PrintWords Go.Proofs.YtpdlkjpemplhoaaW.PrintLast Go.Proofs.YtpdlkjpemplhoaaW.PrintMore
attribute [local go_sem] max2_int min2_int max_two min_two max_three min_three max_four min_four
set_option linter.unusedVariables false
set_option linter.unusedSimpArgs false
mutual
def order_Raw.l0 : Nat → Int → Int → Int → Int → List (S61) → List (S59) → List Int → List Int → Int → List Int → List Int → List Int → Option (Int × List Int × (List (S56)) × (List (S56)) × List Int × List Int × Int)
 | 0, _, _, _, _, _, _, _, _, _, _, _, _ => none
 | k + 1, x7, x30, x31, x103000, x103001, x103002, x103003, x103004, x113000, x113001, x113004, x113005 => if x31 < x30 then (if x113001.length < 17592186044416 then (order_Raw.l0 k (wrap64 (x7 + 2)) x30 (wrap64 (x31 + 1)) x103000 x103001 x103002 x103003 x103004 x113000 (x113001 ++ [wrap64 (x7 + 2)]) x113004 x113005) else (none)) else (order_Raw.l1 k x7 x103001 (x103001.length : Int) 0 x103000 x103001 x103002 x103003 x103004 x113000 x113001 ([] : List (S56)) x113004 x113005)
def order_Raw.l1 : Nat → Int → List (S61) → Int → Int → Int → List (S61) → List (S59) → List Int → List Int → Int → List Int → List (S56) → List Int → List Int → Option (Int × List Int × (List (S56)) × (List (S56)) × List Int × List Int × Int)
 | 0, _, _, _, _, _, _, _, _, _, _, _, _, _, _ => none
 | k + 1, x7, x43, x44, x45, x103000, x103001, x103002, x103003, x103004, x113000, x113001, x113002, x113004, x113005 => if x45 < x44 then (if 0 ≤ x45 then (if x45 < (x43.length : Int) then (if x113002.length < 5864062014805 then (order_Raw.l1 k (wrap64 (x7 + 2)) x43 x44 (wrap64 (x45 + 1)) x103000 x103001 x103002 x103003 x103004 x113000 x113001 (x113002 ++ [(⟨wrap64 (x7 + 2), (rd_T61 x43 x45).f0, (rd_T61 x43 x45).f1⟩ : S56)]) x113004 x113005) else (none)) else (none)) else (none)) else (order_Raw.l2 k x7 x103002 (x103002.length : Int) 0 x113000 x113001 x113002 ([] : List (S56)) x113004 x113005)
def order_Raw.l2 : Nat → Int → List (S59) → Int → Int → Int → List Int → List (S56) → List (S56) → List Int → List Int → Option (Int × List Int × (List (S56)) × (List (S56)) × List Int × List Int × Int)
 | 0, _, _, _, _, _, _, _, _, _, _ => none
 | k + 1, x7, x64, x65, x66, x113000, x113001, x113002, x113003, x113004, x113005 => if x66 < x65 then (if 0 ≤ x66 then (if x66 < (x64.length : Int) then (if x113003.length < 5864062014805 then (order_Raw.l2 k (wrap64 (x7 + 2)) x64 x65 (wrap64 (x66 + 1)) x113000 x113001 x113002 (x113003 ++ [(⟨wrap64 (x7 + 2), (rd_T59 x64 x66).f0, (rd_T59 x64 x66).f1⟩ : S56)]) x113004 x113005) else (none)) else (none)) else (none)) else (some (x113000, x113001, x113002, x113003, x113004, x113005, 0))
end
mutual
def r3_Of.l0 : Nat → Int → Int → Int → List (S61) → List (S59) → List Int → List Int → Int → List Int → Option (Int × List Int × (List (S56)) × (List (S56)) × List Int × List Int)
 | 0, _, _, _, _, _, _, _, _, _ => none
 | k + 1, x4, x5, x144000, x144001, x144002, x144003, x144004, x147000, x147001 => if x5 < x144000 then (if x147001.length < 17592186044416 then (r3_Of.l0 k (wrap64 (x4 + 1)) (wrap64 (x5 + 1)) x144000 x144001 x144002 x144003 x144004 x147000 (x147001 ++ [wrap64 (2 * x4)])) else (none)) else (r3_Of.l1 k x4 0 x144000 x144001 x144002 x144003 x144004 x147000 x147001 ([] : List (S56)))
def r3_Of.l1 : Nat → Int → Int → Int → List (S61) → List (S59) → List Int → List Int → Int → List Int → List (S56) → Option (Int × List Int × (List (S56)) × (List (S56)) × List Int × List Int)
 | 0, _, _, _, _, _, _, _, _, _, _ => none
 | k + 1, x4, x6, x144000, x144001, x144002, x144003, x144004, x147000, x147001, x147002 => if x6 < (x144001.length : Int) then (if 0 ≤ x6 then (if x147002.length < 5864062014805 then (r3_Of.l1 k (wrap64 (x4 + 1)) (wrap64 (x6 + 1)) x144000 x144001 x144002 x144003 x144004 x147000 x147001 (x147002 ++ [(⟨wrap64 (2 * x4), (rd_T61 x144001 x6).f0, (rd_T61 x144001 x6).f1⟩ : S56)])) else (none)) else (none)) else (r3_Of.l2 k x4 0 x144000 x144001 x144002 x144003 x144004 x147000 x147001 x147002 ([] : List (S56)))
def r3_Of.l2 : Nat → Int → Int → Int → List (S61) → List (S59) → List Int → List Int → Int → List Int → List (S56) → List (S56) → Option (Int × List Int × (List (S56)) × (List (S56)) × List Int × List Int)
 | 0, _, _, _, _, _, _, _, _, _, _, _ => none
 | k + 1, x4, x7, x144000, x144001, x144002, x144003, x144004, x147000, x147001, x147002, x147003 => if x7 < (x144002.length : Int) then (if 0 ≤ x7 then (if x147003.length < 5864062014805 then (r3_Of.l2 k (wrap64 (x4 + 1)) (wrap64 (x7 + 1)) x144000 x144001 x144002 x144003 x144004 x147000 x147001 x147002 (x147003 ++ [(⟨wrap64 (2 * x4), (rd_T59 x144002 x7).f0, (rd_T59 x144002 x7).f1⟩ : S56)])) else (none)) else (none)) else ((some (([] : List Int) : List Int)).bind fun y160 => (if y160.length + x144003.length < 17592186044416 then ((some (([] : List Int) : List Int)).bind fun y166 => (if y166.length + x144004.length < 17592186044416 then (some (x147000, x147001, x147002, x147003, (y160 ++ x144003), (y166 ++ x144004))) else (none))) else (none)))
end
end Go.Proofs.Ytpdlkjpemplhoaa.P
