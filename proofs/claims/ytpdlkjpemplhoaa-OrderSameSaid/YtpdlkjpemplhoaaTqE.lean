/- Texts of one claim, packed: part 5 of 6 -/
import Derived.Test.YtpdlkjpemplhoaaTqD
namespace Go.Proofs.Ytpdlkjpemplhoaa.P
open Go.RowKit Go.Proofs.YtpdlkjpemplhoaaW.PrintWords Go.Proofs.YtpdlkjpemplhoaaW.PrintLast Go.Proofs.YtpdlkjpemplhoaaW.PrintMore
attribute [local go_sem] max2_int min2_int max_two min_two max_three min_three max_four min_four
set_option linter.unusedVariables false
set_option linter.unusedSimpArgs false
mutual
def l3_OrderSame.j0 : Nat → Bool → Int → List (S61) → List (S59) → List Int → List Int → Option (Bool)
 | 0, _, _, _, _, _, _ => none
 | k + 1, x15, x887000, x887001, x887002, x887003, x887004 => if x15 = true then ((l3_alive.f k).bind fun t889 => (some t889)) else ((order_Raw.f k x887000 x887001 x887002 x887003 x887004).bind fun bt890 => ((order_Circuit.f bt890.1 bt890.2.1 bt890.2.2.1 bt890.2.2.2.1 bt890.2.2.2.2.1 bt890.2.2.2.2.2.1).bind fun bt908 => (if bt890.2.2.2.2.2.2 = 0 then (if bt908.2.2.2.2.2.2 = 0 then ((r2_Same.f k x887000 x887001 x887002 x887003 x887004 bt908.1 bt908.2.1 bt908.2.2.1 bt908.2.2.2.1 bt908.2.2.2.2.1).bind fun t926 => (if t926 = true then ((order_Check.f bt890.1 bt890.2.1 bt890.2.2.1 bt890.2.2.2.1 bt890.2.2.2.2.1 bt890.2.2.2.2.2.1).bind fun t927 => (if t927 = 0 then ((r2_Size.f x887000 x887001 x887002 x887003 x887004).bind fun t928 => (l3_OrderSame.j1 k bt908.2.2.2.2.2.1 (bt890.1 != t928) bt890.1 bt890.2.1 bt890.2.2.1 bt890.2.2.2.1 bt890.2.2.2.2.1 bt890.2.2.2.2.2.1)) else (l3_OrderSame.j1 k bt908.2.2.2.2.2.1 true bt890.1 bt890.2.1 bt890.2.2.1 bt890.2.2.2.1 bt890.2.2.2.2.1 bt890.2.2.2.2.2.1))) else (l3_OrderSame.j1 k bt908.2.2.2.2.2.1 true bt890.1 bt890.2.1 bt890.2.2.1 bt890.2.2.2.1 bt890.2.2.2.2.1 bt890.2.2.2.2.2.1))) else (l3_OrderSame.j1 k bt908.2.2.2.2.2.1 true bt890.1 bt890.2.1 bt890.2.2.1 bt890.2.2.2.1 bt890.2.2.2.2.1 bt890.2.2.2.2.2.1)) else (l3_OrderSame.j1 k bt908.2.2.2.2.2.1 true bt890.1 bt890.2.1 bt890.2.2.1 bt890.2.2.2.1 bt890.2.2.2.2.1 bt890.2.2.2.2.2.1))))
def l3_OrderSame.j1 : Nat → List Int → Bool → Int → List Int → List (S56) → List (S56) → List Int → List Int → Option (Bool)
 | 0, _, _, _, _, _, _, _, _ => none
 | k + 1, x6, x51, x908000, x908001, x908002, x908003, x908004, x908005 => if x51 = true then (some false) else (l3_OrderSame.l0 k x6 0 x908000 x908001 x908002 x908003 x908004 x908005)
def l3_OrderSame.l0 : Nat → List Int → Int → Int → List Int → List (S56) → List (S56) → List Int → List Int → Option (Bool)
 | 0, _, _, _, _, _, _, _, _ => none
 | k + 1, x6, x8, x908000, x908001, x908002, x908003, x908004, x908005 => if x8 < (x6.length : Int) then (if 0 ≤ x8 then (if (rd x6 x8) = x8 then (l3_OrderSame.l0 k x6 (wrap64 (x8 + 1)) x908000 x908001 x908002 x908003 x908004 x908005) else (some false)) else (none)) else (if (x6.length : Int) = (wrap64 (x908000 + 1)) then ((l3_alive.f k).bind fun t930 => (some t930)) else (some false))
end
def l3_OrderSame.f (k : Nat) (a0_0 : Int) (l0_1 : List (S61)) (l0_2 : List (S59)) (l0_3 : List Int) (l0_4 : List Int) : Option (Bool) := (r2_Great.f a0_0 l0_1 l0_2 l0_3 l0_4).bind fun t887 => (if t887 = true then (l3_OrderSame.j0 k true a0_0 l0_1 l0_2 l0_3 l0_4) else ((r2_Check.f k a0_0 l0_1 l0_2 l0_3 l0_4).bind fun t888 => (l3_OrderSame.j0 k (t888 != 0) a0_0 l0_1 l0_2 l0_3 l0_4)))
def l3_OrderSame.T5 : Bool × List (List Nat × List Nat) := (true, [([], []), ([0], [0]), ([1], [1]), ([2], [2]), ([3, 2], [2, 3]), ([2, 4], [2, 4]), ([5, 2], [5]), ([6], [6]), ([6], [6]), ([7, 8, 6, 6], [6, 7, 8]), ([9, 6], [6, 9]), ([6, 10], [6, 10]), ([11, 9], [11]), ([12], [12]), ([13, 12, 12], [12, 13]), ([14, 12], [12, 14]), ([12, 15], [12, 15]), ([16, 14], [16]), ([17], [17]), ([18, 17], [17, 18]), ([17], [17]), ([20, 17, 17], [17, 20]), ([19, 21, 17], [17, 19, 21]), ([17, 22], [17, 22])])
def l3_OrderSame.B5 : List Nat := [0, 1, 3, 7, 15, 31, 63, 127, 127, 511, 1023, 2047, 4095, 8191, 16383, 32767, 65535, 131071, 262143, 524287, 262143, 1310719, 4194303, 8388607]
theorem l3_OrderSame.tab5 : rtab .any (opsOf Try.f9 5) = l3_OrderSame.T5 := by kernel_rfl
theorem l3_OrderSame.bits5 : waitsOk l3_OrderSame.T5.2 l3_OrderSame.B5 = true := by kernel_rfl
set_option maxHeartbeats 8000000 in
set_option maxRecDepth 100000 in
theorem l3_OrderSame.calls (k : Nat) (a0_0 : Int) (A0_1 : Option Addr) (c0_1 : Nat) (l0_1 : List (S61)) (A0_2 : Option Addr) (c0_2 : Nat) (l0_2 : List (S59)) (A0_3 : Option Addr) (c0_3 : Nat) (l0_3 : List Int) (A0_4 : Option Addr) (c0_4 : Nat) (l0_4 : List Int) (w : World) (hr0_1 : Kd.C k61 w A0_1 l0_1.length l0_1) (hc0_1 : l0_1.length ≤ c0_1) (hr0_2 : Kd.C k59 w A0_2 l0_2.length l0_2) (hc0_2 : l0_2.length ≤ c0_2) (hr0_3 : Kd.C (Kd.int .i64) w A0_3 l0_3.length l0_3) (hc0_3 : l0_3.length ≤ c0_3) (hr0_4 : Kd.C (Kd.int .i64) w A0_4 l0_4.length l0_4) (hc0_4 : l0_4.length ≤ c0_4) (h : l3_OrderSame.f k a0_0 l0_1 l0_2 l0_3 l0_4 = some true) :
 Calls Try.prog 9 #[.agg #[.int .i64 a0_0, .slice A0_1 l0_1.length c0_1, .slice A0_2 l0_2.length c0_2, .slice A0_3 l0_3.length c0_3, .slice A0_4 l0_4.length c0_4]] w fun e w' => e = .returned (.bool true) ∧ Below w.heap.size w w' := by
 have hu26 := Try.underlying26
 have hu30 := Try.underlying30
 have HR0_1 := Aside0.mk hr0_1
 have HC0_1 := Aside0.mk hc0_1
 clear hr0_1 hc0_1
 have HR0_2 := Aside0.mk hr0_2
 have HC0_2 := Aside0.mk hc0_2
 clear hr0_2 hc0_2
 have HR0_3 := Aside0.mk hr0_3
 have HC0_3 := Aside0.mk hc0_3
 clear hr0_3 hc0_3
 have HR0_4 := Aside0.mk hr0_4
 have HC0_4 := Aside0.mk hc0_4
 clear hr0_4 hc0_4
 have HB := Aside0.mk (Below.refl w.heap.size w)
 have H : ((r2_Great.f a0_0 l0_1 l0_2 l0_3 l0_4).bind fun t887 => (if t887 = true then (l3_OrderSame.j0 k true a0_0 l0_1 l0_2 l0_3 l0_4) else ((r2_Check.f k a0_0 l0_1 l0_2 l0_3 l0_4).bind fun t888 => (l3_OrderSame.j0 k (t888 != 0) a0_0 l0_1 l0_2 l0_3 l0_4)))) = some true := h
 clear h
 have HC2 := Aside0.mk H
 clear H
 go_enter Try.func9, Try.ntmps9
 go_upto_region 1 with (first | ((with_reducible refine gate_dst (N := 1) rfl ?_); refine box_event ?hg (N := 1) ?hd (cs := #[.int .i64 a0_0, .slice A0_1 l0_1.length c0_1, .slice A0_2 l0_2.length c0_2, .slice A0_3 l0_3.length c0_3, .slice A0_4 l0_4.length c0_4]) (t := 26) ?hr ?_; (case hd => rfl); (case hg => rfl); (case hr => first | (go_simp; done) | (go_simp; rfl)); intro gb886 hg w3 hbox hb; have n0_ := Aside0.mk (below_step zq125 hb); have n1_ := Aside0.mk (hbox); have n2_ := Aside0.mk ((zq110 : w.heap.size ≤ gb886)); have n3_ := Aside0.mk ((zq110 : w.heap.size ≤ gb886)); clear HB; have HB := n0_; have BK886 := n1_; have GW886 := n2_; have GE886 := n3_; clear n0_ n1_ n2_ n3_; clear hb hbox hg))
 (try simp only [Act.put, List.setIfInBounds_toArray, List.set_cons_zero, List.set_cons_succ])
 go_cut [15] (fun v15 wc => ∃ (kq : Nat) (x15_1 : Bool), v15 = .bool x15_1 ∧ Aside0 (l3_OrderSame.j0 kq x15_1 a0_0 l0_1 l0_2 l0_3 l0_4 = some true) ∧ Aside0 (kq ≤ k) ∧ Aside0 (wc.heap[gb886]? = some (.cells #[.int .i64 a0_0, (.slice A0_1 l0_1.length c0_1), (.slice A0_2 l0_2.length c0_2), (.slice A0_3 l0_3.length c0_3), (.slice A0_4 l0_4.length c0_4)] 26 (0, 0))) ∧ Aside0 (Below w.heap.size w wc))
 case first =>
  have H := HC2.out
  clear HC2
  replace H := Option.bind_eq_some_iff.mp H
  obtain ⟨t887, A40, H⟩ := H
  replace H : (if t887 = true then (l3_OrderSame.j0 k true a0_0 l0_1 l0_2 l0_3 l0_4) else ((r2_Check.f k a0_0 l0_1 l0_2 l0_3 l0_4).bind fun t888 => (l3_OrderSame.j0 k (t888 != 0) a0_0 l0_1 l0_2 l0_3 l0_4))) = some true := H
  have A4 := Aside0.mk A40
  clear A40
  by_cases c5 : t887 = true
  · subst c5
    have H1 : (l3_OrderSame.j0 k true a0_0 l0_1 l0_2 l0_3 l0_4) = some true := by rw [if_pos rfl] at H; exact H
    clear H
    have H := H1
    clear H1
    have H' := Aside0.mk H
    clear H
    obtain ⟨b6_0, b6_1, b6_2, b6_3, b6_4, d6_0, d6_1, d6_2, d6_3, d6_4⟩ := bk5 BK886.out
    go_wp2_with (first | ((with_reducible refine gate_callee (f := 10) rfl ?_); refine goesL_ (some 10) rfl rfl Try.func10 (by kernel_rfl) rfl #[.agg #[.int .i64 a0_0, .slice A0_1 l0_1.length c0_1, .slice A0_2 l0_2.length c0_2, .slice A0_3 l0_3.length c0_3, .slice A0_4 l0_4.length c0_4]] rfl zq123 ?_; (with_reducible refine (r2_Great.calls a0_0 _ _ l0_1 _ _ l0_2 _ _ l0_3 _ _ l0_4 true _ ?side1 ?side2 ?side3 ?side4 ?side5 ?side6 ?side7 ?side8 A4.out).mono ?_); (case side1 => exact zq88); (case side2 => exact HC0_1.out); (case side3 => exact zq89); (case side4 => exact HC0_2.out); (case side5 => exact zq90); (case side6 => exact HC0_3.out); (case side7 => exact zq91); (case side8 => exact HC0_4.out); rintro e w7 ⟨rfl, hb⟩; refine ⟨_, rfl, ?_⟩; have n0_ := Aside0.mk (blk_below (g := gb886) (o := .cells #[.int .i64 a0_0, .slice A0_1 l0_1.length c0_1, .slice A0_2 l0_2.length c0_2, .slice A0_3 l0_3.length c0_3, .slice A0_4 l0_4.length c0_4] 26 (0, 0)) zq136 hb); have n1_ := Aside0.mk (below_step zq118 hb); clear BK886; clear HB; have BK886 := n0_; have HB := n1_; clear n0_ n1_; (try clear hb); (try clear hb2); (try clear hk); (try clear hi)))
    go_meet
    case rel => exact ⟨_, (true), zq188, H', ⟨by first | omega | exact Nat.le_refl _⟩, ⟨zq136⟩, ⟨zq118⟩⟩
  · replace c5 := Bool.eq_false_iff.mpr c5
    subst c5
    have H1 : ((r2_Check.f k a0_0 l0_1 l0_2 l0_3 l0_4).bind fun t888 => (l3_OrderSame.j0 k (t888 != 0) a0_0 l0_1 l0_2 l0_3 l0_4)) = some true := by rw [if_neg (show ¬ (false = true) by decide)] at H; exact H
    clear H
    have H := H1
    clear H1
    replace H := Option.bind_eq_some_iff.mp H
    obtain ⟨t888, A80, H⟩ := H
    replace H : (l3_OrderSame.j0 k (t888 != 0) a0_0 l0_1 l0_2 l0_3 l0_4) = some true := H
    have A8 := Aside0.mk A80
    clear A80
    have H' := Aside0.mk H
    clear H
    obtain ⟨b9_0, b9_1, b9_2, b9_3, b9_4, d9_0, d9_1, d9_2, d9_3, d9_4⟩ := bk5 BK886.out
    go_wp2_with (first | ((with_reducible refine gate_callee (f := 10) rfl ?_); refine goesL_ (some 10) rfl rfl Try.func10 (by kernel_rfl) rfl #[.agg #[.int .i64 a0_0, .slice A0_1 l0_1.length c0_1, .slice A0_2 l0_2.length c0_2, .slice A0_3 l0_3.length c0_3, .slice A0_4 l0_4.length c0_4]] rfl zq123 ?_; (with_reducible refine (r2_Great.calls a0_0 _ _ l0_1 _ _ l0_2 _ _ l0_3 _ _ l0_4 false _ ?side1 ?side2 ?side3 ?side4 ?side5 ?side6 ?side7 ?side8 A4.out).mono ?_); (case side1 => exact zq88); (case side2 => exact HC0_1.out); (case side3 => exact zq89); (case side4 => exact HC0_2.out); (case side5 => exact zq90); (case side6 => exact HC0_3.out); (case side7 => exact zq91); (case side8 => exact HC0_4.out); rintro e w10 ⟨rfl, hb⟩; refine ⟨_, rfl, ?_⟩; have n0_ := Aside0.mk (blk_below (g := gb886) (o := .cells #[.int .i64 a0_0, .slice A0_1 l0_1.length c0_1, .slice A0_2 l0_2.length c0_2, .slice A0_3 l0_3.length c0_3, .slice A0_4 l0_4.length c0_4] 26 (0, 0)) zq136 hb); have n1_ := Aside0.mk (below_step zq118 hb); clear BK886; clear HB; have BK886 := n0_; have HB := n1_; clear n0_ n1_; (try clear hb); (try clear hb2); (try clear hk); (try clear hi); obtain ⟨b11_0, b11_1, b11_2, b11_3, b11_4, d11_0, d11_1, d11_2, d11_3, d11_4⟩ := bk5 BK886.out) | (go_at_call 28; (with_reducible refine (r2_Check.calls k a0_0 _ _ l0_1 _ _ l0_2 _ _ l0_3 _ _ l0_4 t888 _ ?side1 ?side2 ?side3 ?side4 ?side5 ?side6 ?side7 ?side8 A8.out).mono ?_); (case side1 => exact zq88); (case side2 => exact HC0_1.out); (case side3 => exact zq89); (case side4 => exact HC0_2.out); (case side5 => exact zq90); (case side6 => exact HC0_3.out); (case side7 => exact zq91); (case side8 => exact HC0_4.out); rintro e w12 ⟨rfl, hb⟩; have n0_ := Aside0.mk (blk_below (g := gb886) (o := .cells #[.int .i64 a0_0, .slice A0_1 l0_1.length c0_1, .slice A0_2 l0_2.length c0_2, .slice A0_3 l0_3.length c0_3, .slice A0_4 l0_4.length c0_4] 26 (0, 0)) zq136 hb); have n1_ := Aside0.mk (below_step zq118 hb); clear BK886; clear HB; have BK886 := n0_; have HB := n1_; clear n0_ n1_; (try clear hb); (try clear hb2); (try clear hk); (try clear hi)))
    go_meet
    case rel => exact ⟨_, ((t888 != 0)), zq188, H', ⟨by first | omega | exact Nat.le_refl _⟩, ⟨zq136⟩, ⟨zq118⟩⟩
 case rest =>
  clear HC2
  try clear c1
  try clear p2
  try clear c5
  try clear c9
  try clear c10
  try clear b11_0
  try clear b11_1
  try clear b11_2
  try clear b11_3
  try clear b11_4
  try clear b6_0
  try clear b6_1
  try clear b6_2
  try clear b6_3
  try clear b6_4
  try clear b9_0
  try clear b9_1
  try clear b9_2
  try clear b9_3
  try clear b9_4
  try clear d11_0
  try clear d11_1
  try clear d11_2
  try clear d11_3
  try clear d11_4
  try clear d6_0
  try clear d6_1
  try clear d6_2
  try clear d6_3
  try clear d6_4
  try clear d9_0
  try clear d9_1
  try clear d9_2
  try clear d9_3
  try clear d9_4
  obtain ⟨kq, x15_1, rfl, HA, HJ1, BK886, HB⟩ := hcut
  cases kq with
  | zero => exact absurd HA.out (by simp [l3_OrderSame.j0])
  | succ kj1 =>
   have H := HA.out
   clear HA
   simp only [l3_OrderSame.j0] at H
   by_cases c13 : x15_1 = true
   · subst c13
     have H1 : ((l3_alive.f kj1).bind fun t889 => (some t889)) = some true := by rw [if_pos rfl] at H; exact H
     clear H
     have H := H1
     clear H1
     replace H := Option.bind_eq_some_iff.mp H
     obtain ⟨t889, A140, H⟩ := H
     replace H : (some t889) = some true := H
     have A14 := Aside0.mk A140
     clear A140
     obtain rfl := Option.some.inj H
     go_wp2_with (first | ((with_reducible refine gate_callee (f := 22) rfl ?_); refine goesL_ (some 16) rfl rfl Try.func22 (by kernel_rfl) rfl #[] rfl zq123 ?_; (with_reducible refine (l3_alive.calls kj1  true _ A14.out).mono ?_); rintro e w15 ⟨rfl, hb⟩; refine ⟨_, rfl, ?_⟩; have n0_ := Aside0.mk (blk_below (g := gb886) (o := .cells #[.int .i64 a0_0, .slice A0_1 l0_1.length c0_1, .slice A0_2 l0_2.length c0_2, .slice A0_3 l0_3.length c0_3, .slice A0_4 l0_4.length c0_4] 26 (0, 0)) zq136 hb); have n1_ := Aside0.mk (below_step zq118 hb); clear BK886; clear HB; have BK886 := n0_; have HB := n1_; clear n0_ n1_; (try clear hb); (try clear hb2); (try clear hk); (try clear hi)))
     go_ret
     exact ⟨zq183, zq118⟩
   · replace c13 := Bool.eq_false_iff.mpr c13
     subst c13
     have H1 : ((order_Raw.f kj1 a0_0 l0_1 l0_2 l0_3 l0_4).bind fun bt890 => ((order_Circuit.f bt890.1 bt890.2.1 bt890.2.2.1 bt890.2.2.2.1 bt890.2.2.2.2.1 bt890.2.2.2.2.2.1).bind fun bt908 => (if bt890.2.2.2.2.2.2 = 0 then (if bt908.2.2.2.2.2.2 = 0 then ((r2_Same.f kj1 a0_0 l0_1 l0_2 l0_3 l0_4 bt908.1 bt908.2.1 bt908.2.2.1 bt908.2.2.2.1 bt908.2.2.2.2.1).bind fun t926 => (if t926 = true then ((order_Check.f bt890.1 bt890.2.1 bt890.2.2.1 bt890.2.2.2.1 bt890.2.2.2.2.1 bt890.2.2.2.2.2.1).bind fun t927 => (if t927 = 0 then ((r2_Size.f a0_0 l0_1 l0_2 l0_3 l0_4).bind fun t928 => (l3_OrderSame.j1 kj1 bt908.2.2.2.2.2.1 (bt890.1 != t928) bt890.1 bt890.2.1 bt890.2.2.1 bt890.2.2.2.1 bt890.2.2.2.2.1 bt890.2.2.2.2.2.1)) else (l3_OrderSame.j1 kj1 bt908.2.2.2.2.2.1 true bt890.1 bt890.2.1 bt890.2.2.1 bt890.2.2.2.1 bt890.2.2.2.2.1 bt890.2.2.2.2.2.1))) else (l3_OrderSame.j1 kj1 bt908.2.2.2.2.2.1 true bt890.1 bt890.2.1 bt890.2.2.1 bt890.2.2.2.1 bt890.2.2.2.2.1 bt890.2.2.2.2.2.1))) else (l3_OrderSame.j1 kj1 bt908.2.2.2.2.2.1 true bt890.1 bt890.2.1 bt890.2.2.1 bt890.2.2.2.1 bt890.2.2.2.2.1 bt890.2.2.2.2.2.1)) else (l3_OrderSame.j1 kj1 bt908.2.2.2.2.2.1 true bt890.1 bt890.2.1 bt890.2.2.1 bt890.2.2.2.1 bt890.2.2.2.2.1 bt890.2.2.2.2.2.1)))) = some true := by rw [if_neg (show ¬ (false = true) by decide)] at H; exact H
     clear H
     have H := H1
     clear H1
     replace H := Option.bind_eq_some_iff.mp H
     obtain ⟨⟨t890, t891, t894, t897, t900, t903, t906⟩, A160, H⟩ := H
     replace H : ((order_Circuit.f t890 t891 t894 t897 t900 t903).bind fun bt908 => (if t906 = 0 then (if bt908.2.2.2.2.2.2 = 0 then ((r2_Same.f kj1 a0_0 l0_1 l0_2 l0_3 l0_4 bt908.1 bt908.2.1 bt908.2.2.1 bt908.2.2.2.1 bt908.2.2.2.2.1).bind fun t926 => (if t926 = true then ((order_Check.f t890 t891 t894 t897 t900 t903).bind fun t927 => (if t927 = 0 then ((r2_Size.f a0_0 l0_1 l0_2 l0_3 l0_4).bind fun t928 => (l3_OrderSame.j1 kj1 bt908.2.2.2.2.2.1 (t890 != t928) t890 t891 t894 t897 t900 t903)) else (l3_OrderSame.j1 kj1 bt908.2.2.2.2.2.1 true t890 t891 t894 t897 t900 t903))) else (l3_OrderSame.j1 kj1 bt908.2.2.2.2.2.1 true t890 t891 t894 t897 t900 t903))) else (l3_OrderSame.j1 kj1 bt908.2.2.2.2.2.1 true t890 t891 t894 t897 t900 t903)) else (l3_OrderSame.j1 kj1 bt908.2.2.2.2.2.1 true t890 t891 t894 t897 t900 t903))) = some true := H
     have A16 := Aside0.mk A160
     clear A160
     replace H := Option.bind_eq_some_iff.mp H
     obtain ⟨⟨t908, t909, t912, t915, t918, t921, t924⟩, A170, H⟩ := H
     replace H : (if t906 = 0 then (if t924 = 0 then ((r2_Same.f kj1 a0_0 l0_1 l0_2 l0_3 l0_4 t908 t909 t912 t915 t918).bind fun t926 => (if t926 = true then ((order_Check.f t890 t891 t894 t897 t900 t903).bind fun t927 => (if t927 = 0 then ((r2_Size.f a0_0 l0_1 l0_2 l0_3 l0_4).bind fun t928 => (l3_OrderSame.j1 kj1 t921 (t890 != t928) t890 t891 t894 t897 t900 t903)) else (l3_OrderSame.j1 kj1 t921 true t890 t891 t894 t897 t900 t903))) else (l3_OrderSame.j1 kj1 t921 true t890 t891 t894 t897 t900 t903))) else (l3_OrderSame.j1 kj1 t921 true t890 t891 t894 t897 t900 t903)) else (l3_OrderSame.j1 kj1 t921 true t890 t891 t894 t897 t900 t903)) = some true := H
     have A17 := Aside0.mk A170
     clear A170
     have HC18 := Aside0.mk H
     clear H
     obtain ⟨b19_0, b19_1, b19_2, b19_3, b19_4, d19_0, d19_1, d19_2, d19_3, d19_4⟩ := bk5 BK886.out
     go_upto_region 5 with (first | ((with_reducible refine gate_callee (f := 11) rfl ?_); refine goesL_ (some 19) rfl rfl Try.func11 (by kernel_rfl) rfl #[.agg #[.int .i64 a0_0, .slice A0_1 l0_1.length c0_1, .slice A0_2 l0_2.length c0_2, .slice A0_3 l0_3.length c0_3, .slice A0_4 l0_4.length c0_4]] rfl zq123 ?_; (with_reducible refine (order_Raw.calls kj1 a0_0 _ _ l0_1 _ _ l0_2 _ _ l0_3 _ _ l0_4 t890 t891 t894 t897 t900 t903 t906 _ ?side1 ?side2 ?side3 ?side4 ?side5 ?side6 ?side7 ?side8 A16.out).mono ?_); (case side1 => exact zq88); (case side2 => exact HC0_1.out); (case side3 => exact zq89); (case side4 => exact HC0_2.out); (case side5 => exact zq90); (case side6 => exact HC0_3.out); (case side7 => exact zq91); (case side8 => exact HC0_4.out); rintro e w20 ⟨v892, v895, v898, v901, v904, rfl, ho0, ho1, ho2, ho3, ho4, hb⟩; refine ⟨_, rfl, ?_⟩; have n0_ := Aside0.mk (Kd.R_lower ho0 (below_size zq118)); have n1_ := Aside0.mk (Kd.R_lower ho1 (below_size zq118)); have n2_ := Aside0.mk (Kd.R_lower ho2 (below_size zq118)); have n3_ := Aside0.mk (Kd.R_lower ho3 (below_size zq118)); have n4_ := Aside0.mk (Kd.R_lower ho4 (below_size zq118)); have n5_ := Aside0.mk (blk_below (g := gb886) (o := .cells #[.int .i64 a0_0, .slice A0_1 l0_1.length c0_1, .slice A0_2 l0_2.length c0_2, .slice A0_3 l0_3.length c0_3, .slice A0_4 l0_4.length c0_4] 26 (0, 0)) zq136 hb); have n6_ := Aside0.mk (below_step zq118 hb); clear BK886; clear HB; have HO893 := n0_; have HO896 := n1_; have HO899 := n2_; have HO902 := n3_; have HO905 := n4_; have BK886 := n5_; have HB := n6_; clear n0_ n1_ n2_ n3_ n4_ n5_ n6_; (try clear hb); (try clear hb2); (try clear hk); (try clear hi); (try clear ho0); (try clear ho1); (try clear ho2); (try clear ho3); (try clear ho4)) | ((with_reducible refine gate_dst (N := 3) rfl ?_); refine box_event ?hg (N := 3) ?hd (cs := #[.int .i64 0, .slice none 0 0, .slice none 0 0, .slice none 0 0, .slice none 0 0, .slice none 0 0]) (t := 30) ?hr ?_; (case hd => rfl); (case hg => rfl); (case hr => first | (go_simp; done) | (go_simp; rfl)); intro gb907 hg w21 hbox hb; have n0_ := Aside0.mk (Kd.R_below zq166 hb); have n1_ := Aside0.mk (Kd.R_below zq167 hb); have n2_ := Aside0.mk (Kd.R_below zq168 hb); have n3_ := Aside0.mk (Kd.R_below zq169 hb); have n4_ := Aside0.mk (Kd.R_below zq170 hb); have n5_ := Aside0.mk (blk_below (g := gb886) (o := .cells #[.int .i64 a0_0, .slice A0_1 l0_1.length c0_1, .slice A0_2 l0_2.length c0_2, .slice A0_3 l0_3.length c0_3, .slice A0_4 l0_4.length c0_4] 26 (0, 0)) zq136 hb); have n6_ := Aside0.mk (below_step zq118 hb); have n7_ := Aside0.mk (hbox); have n8_ := Aside0.mk ((zq74 : w.heap.size ≤ gb907)); have n9_ := Aside0.mk ((zq74 : w.heap.size ≤ gb907)); have n10_ := Aside0.mk ((zq42 : gb886 ≠ gb907)); have n11_ := Aside0.mk ((zq39 : gb907 ≠ gb886)); clear HO893; clear HO896; clear HO899; clear HO902; clear HO905; clear BK886; clear HB; have HO893 := n0_; have HO896 := n1_; have HO899 := n2_; have HO902 := n3_; have HO905 := n4_; have BK886 := n5_; have HB := n6_; have BK907 := n7_; have GW907 := n8_; have GE907 := n9_; have NB886_907 := n10_; have NB907_886 := n11_; clear n0_ n1_ n2_ n3_ n4_ n5_ n6_ n7_ n8_ n9_ n10_ n11_; clear hb hbox hg; have hnb22 := NB907_886.out; have hnc22 := NB886_907.out; obtain ⟨b23_0, b23_1, b23_2, b23_3, b23_4, b23_5, d23_0, d23_1, d23_2, d23_3, d23_4, d23_5⟩ := bk6 BK907.out; obtain ⟨Ao24, co24, eo24⟩ := Kd.R_slice HO893.out; subst eo24; obtain ⟨Ao25, co25, eo25⟩ := Kd.R_slice HO896.out; subst eo25; obtain ⟨Ao26, co26, eo26⟩ := Kd.R_slice HO899.out; subst eo26; obtain ⟨Ao27, co27, eo27⟩ := Kd.R_slice HO902.out; subst eo27; obtain ⟨Ao28, co28, eo28⟩ := Kd.R_slice HO905.out; subst eo28) | ((with_reducible refine gate_callee (f := 16) rfl ?_); refine goesL_ (some 24) rfl rfl Try.func16 (by kernel_rfl) rfl #[.agg #[.int .i64 t890, .slice Ao24 t891.length co24, .slice Ao25 t894.length co25, .slice Ao26 t897.length co26, .slice Ao27 t900.length co27, .slice Ao28 t903.length co28]] rfl zq123 ?_; (with_reducible refine (order_Circuit.calls t890 _ _ t891 _ _ t894 _ _ t897 _ _ t900 _ _ t903 t908 t909 t912 t915 t918 t921 t924 _ ?side1 ?side2 ?side3 ?side4 ?side5 ?side6 ?side7 ?side8 ?side9 ?side10 A17.out).mono ?_); (case side1 => refine (Kd.R_reads' (e := 3) (base := w.heap.size) (ok := fun k_ => (some k_ ≠ (.slice Ao27 t900.length co27 : Value).ownBlock ∧ some k_ ≠ (.slice Ao28 t903.length co28 : Value).ownBlock)) (n := t891.length) (c := co24) ?_).2.2; exact zq1); (case side2 => exact (Kd.R_reads' HO893.out).2.1); (case side3 => refine (Kd.R_reads' (e := 56) (base := w.heap.size) (ok := fun k_ => some k_ ≠ (.slice Ao26 t897.length co26 : Value).ownBlock) (n := t894.length) (c := co25) ?_).2.2; exact zq2); (case side4 => exact (Kd.R_reads' HO896.out).2.1); (case side5 => refine (Kd.R_reads' (e := 56) (base := w.heap.size) (ok := fun k_ => some k_ ≠ (.slice Ao25 t894.length co25 : Value).ownBlock) (n := t897.length) (c := co26) ?_).2.2; exact zq3); (case side6 => exact (Kd.R_reads' HO899.out).2.1); (case side7 => refine (Kd.R_reads' (e := 3) (base := w.heap.size) (ok := fun k_ => (some k_ ≠ (.slice Ao24 t891.length co24 : Value).ownBlock ∧ some k_ ≠ (.slice Ao28 t903.length co28 : Value).ownBlock)) (n := t900.length) (c := co27) ?_).2.2; exact zq4); (case side8 => exact (Kd.R_reads' HO902.out).2.1); (case side9 => refine (Kd.R_reads' (e := 3) (base := w.heap.size) (ok := fun k_ => (some k_ ≠ (.slice Ao24 t891.length co24 : Value).ownBlock ∧ some k_ ≠ (.slice Ao27 t900.length co27 : Value).ownBlock)) (n := t903.length) (c := co28) ?_).2.2; exact zq5); (case side10 => exact (Kd.R_reads' HO905.out).2.1); rintro e w29 ⟨v910, v913, v916, v919, v922, rfl, ho0, ho1, ho2, ho3, ho4, hb⟩; refine ⟨_, rfl, ?_⟩; have n0_ := Aside0.mk (Kd.R_mono (Kd.R_told (Kd.R_told (Kd.R_told (Kd.R_old zq1 hb) (Kd.R_base ho2)) (Kd.R_base ho3)) (Kd.R_base ho4)) (fun _ h_ => h_.1)); have n1_ := Aside0.mk (Kd.R_below zq2 hb); have n2_ := Aside0.mk (Kd.R_below zq3 hb); have n3_ := Aside0.mk (Kd.R_mono (Kd.R_told (Kd.R_told (Kd.R_told (Kd.R_old zq4 hb) (Kd.R_base ho2)) (Kd.R_base ho3)) (Kd.R_base ho4)) (fun _ h_ => h_.1)); have n4_ := Aside0.mk (Kd.R_mono (Kd.R_told (Kd.R_told (Kd.R_told (Kd.R_old zq5 hb) (Kd.R_base ho2)) (Kd.R_base ho3)) (Kd.R_base ho4)) (fun _ h_ => h_.1)); have n5_ := Aside0.mk (Kd.R_lower ho0 (below_size zq82)); have n6_ := Aside0.mk (Kd.R_lower ho1 (below_size zq82)); have n7_ := Aside0.mk (Kd.R_lower (Kd.R_new' (Kd.R_new' (Kd.R_new' ho2 (Kd.R_lt zq1)) (Kd.R_lt zq4)) (Kd.R_lt zq5)) (below_size zq82)); have n8_ := Aside0.mk (Kd.R_lower (Kd.R_new' (Kd.R_new' (Kd.R_new' ho3 (Kd.R_lt zq1)) (Kd.R_lt zq4)) (Kd.R_lt zq5)) (below_size zq82)); have n9_ := Aside0.mk (Kd.R_lower (Kd.R_new' (Kd.R_new' (Kd.R_new' ho4 (Kd.R_lt zq1)) (Kd.R_lt zq4)) (Kd.R_lt zq5)) (below_size zq82)); have n10_ := Aside0.mk (blk_below (g := gb886) (o := .cells #[.int .i64 a0_0, .slice A0_1 l0_1.length c0_1, .slice A0_2 l0_2.length c0_2, .slice A0_3 l0_3.length c0_3, .slice A0_4 l0_4.length c0_4] 26 (0, 0)) (by (with_reducible repeat (first | refine blk_drewN ?_ _ | refine blk_drew ?_ | refine blk_alloc ?_ _)); refine blk_far ?_ NB886_907.out _; (with_reducible repeat (first | refine blk_drewN ?_ _ | refine blk_drew ?_ | refine blk_alloc ?_ _)); refine blk_far ?_ NB886_907.out _; (with_reducible repeat (first | refine blk_drewN ?_ _ | refine blk_drew ?_ | refine blk_alloc ?_ _)); refine blk_far ?_ NB886_907.out _; (with_reducible repeat (first | refine blk_drewN ?_ _ | refine blk_drew ?_ | refine blk_alloc ?_ _)); refine blk_far ?_ NB886_907.out _; (with_reducible repeat (first | refine blk_drewN ?_ _ | refine blk_drew ?_ | refine blk_alloc ?_ _)); refine blk_far ?_ NB886_907.out _; (with_reducible repeat (first | refine blk_drewN ?_ _ | refine blk_drew ?_ | refine blk_alloc ?_ _)); refine blk_far ?_ NB886_907.out _; (with_reducible repeat (first | refine blk_drewN ?_ _ | refine blk_drew ?_ | refine blk_alloc ?_ _)); exact BK886.out) hb); have n11_ := Aside0.mk (blk_below (g := gb907) (o := .cells #[.int .i64 t890, .slice Ao24 t891.length co24, .slice Ao25 t894.length co25, .slice Ao26 t897.length co26, .slice Ao27 t900.length co27, .slice Ao28 t903.length co28] 30 (0, 0)) (by (with_reducible repeat (first | refine blk_drewN ?_ _ | refine blk_drew ?_ | refine blk_alloc ?_ _)); refine blk_put (cs := #[.int .i64 t890, .slice Ao24 t891.length co24, .slice Ao25 t894.length co25, .slice Ao26 t897.length co26, .slice Ao27 t900.length co27, .slice none 0 0]) ?_ 5 _ rfl; (with_reducible repeat (first | refine blk_drewN ?_ _ | refine blk_drew ?_ | refine blk_alloc ?_ _)); refine blk_put (cs := #[.int .i64 t890, .slice Ao24 t891.length co24, .slice Ao25 t894.length co25, .slice Ao26 t897.length co26, .slice none 0 0, .slice none 0 0]) ?_ 4 _ rfl; (with_reducible repeat (first | refine blk_drewN ?_ _ | refine blk_drew ?_ | refine blk_alloc ?_ _)); refine blk_put (cs := #[.int .i64 t890, .slice Ao24 t891.length co24, .slice Ao25 t894.length co25, .slice none 0 0, .slice none 0 0, .slice none 0 0]) ?_ 3 _ rfl; (with_reducible repeat (first | refine blk_drewN ?_ _ | refine blk_drew ?_ | refine blk_alloc ?_ _)); refine blk_put (cs := #[.int .i64 t890, .slice Ao24 t891.length co24, .slice none 0 0, .slice none 0 0, .slice none 0 0, .slice none 0 0]) ?_ 2 _ rfl; (with_reducible repeat (first | refine blk_drewN ?_ _ | refine blk_drew ?_ | refine blk_alloc ?_ _)); refine blk_put (cs := #[.int .i64 t890, .slice none 0 0, .slice none 0 0, .slice none 0 0, .slice none 0 0, .slice none 0 0]) ?_ 1 _ rfl; (with_reducible repeat (first | refine blk_drewN ?_ _ | refine blk_drew ?_ | refine blk_alloc ?_ _)); refine blk_put (cs := #[.int .i64 0, .slice none 0 0, .slice none 0 0, .slice none 0 0, .slice none 0 0, .slice none 0 0]) ?_ 0 _ rfl; (with_reducible repeat (first | refine blk_drewN ?_ _ | refine blk_drew ?_ | refine blk_alloc ?_ _)); exact BK907.out) hb); have n12_ := Aside0.mk (below_step zq82 hb); clear HO893; clear HO896; clear HO899; clear HO902; clear HO905; clear BK886; clear BK907; clear HB; have HO893 := n0_; have HO896 := n1_; have HO899 := n2_; have HO902 := n3_; have HO905 := n4_; have HO911 := n5_; have HO914 := n6_; have HO917 := n7_; have HO920 := n8_; have HO923 := n9_; have BK886 := n10_; have BK907 := n11_; have HB := n12_; clear n0_ n1_ n2_ n3_ n4_ n5_ n6_ n7_ n8_ n9_ n10_ n11_ n12_; (try clear hb); (try clear hb2); (try clear hk); (try clear hi); (try clear ho0); (try clear ho1); (try clear ho2); (try clear ho3); (try clear ho4)) | ((with_reducible refine gate_dst (N := 5) rfl ?_); refine box_event ?hg (N := 5) ?hd (cs := #[.int .i64 0, .slice none 0 0, .slice none 0 0, .slice none 0 0, .slice none 0 0]) (t := 26) ?hr ?_; (case hd => rfl); (case hg => rfl); (case hr => first | (go_simp; done) | (go_simp; rfl)); intro gb925 hg w30 hbox hb; have n0_ := Aside0.mk (Kd.R_below zq166 hb); have n1_ := Aside0.mk (Kd.R_below zq167 hb); have n2_ := Aside0.mk (Kd.R_below zq168 hb); have n3_ := Aside0.mk (Kd.R_below zq169 hb); have n4_ := Aside0.mk (Kd.R_below zq170 hb); have n5_ := Aside0.mk (Kd.R_below zq171 hb); have n6_ := Aside0.mk (Kd.R_below zq172 hb); have n7_ := Aside0.mk (Kd.R_below zq173 hb); have n8_ := Aside0.mk (Kd.R_below zq174 hb); have n9_ := Aside0.mk (Kd.R_below zq175 hb); have n10_ := Aside0.mk (blk_below (g := gb886) (o := .cells #[.int .i64 a0_0, .slice A0_1 l0_1.length c0_1, .slice A0_2 l0_2.length c0_2, .slice A0_3 l0_3.length c0_3, .slice A0_4 l0_4.length c0_4] 26 (0, 0)) zq136 hb); have n11_ := Aside0.mk (blk_below (g := gb907) (o := .cells #[.int .i64 t890, .slice Ao24 t891.length co24, .slice Ao25 t894.length co25, .slice Ao26 t897.length co26, .slice Ao27 t900.length co27, .slice Ao28 t903.length co28] 30 (0, 0)) zq137 hb); have n12_ := Aside0.mk (below_step zq82 hb); have n13_ := Aside0.mk (hbox); have n14_ := Aside0.mk ((zq65 : w.heap.size ≤ gb925)); have n15_ := Aside0.mk ((zq65 : w.heap.size ≤ gb925)); have n16_ := Aside0.mk ((zq42 : gb886 ≠ gb925)); have n17_ := Aside0.mk ((zq39 : gb925 ≠ gb886)); have n18_ := Aside0.mk ((by rw [hg]; exact Nat.ne_of_lt (blk_lt (g := gb907) (o := .cells #[.int .i64 t890, .slice Ao24 t891.length co24, .slice Ao25 t894.length co25, .slice Ao26 t897.length co26, .slice Ao27 t900.length co27, .slice Ao28 t903.length co28] 30 (0, 0)) zq137) : gb907 ≠ gb925)); have n19_ := Aside0.mk ((by rw [hg]; exact Nat.ne_of_gt (blk_lt (g := gb907) (o := .cells #[.int .i64 t890, .slice Ao24 t891.length co24, .slice Ao25 t894.length co25, .slice Ao26 t897.length co26, .slice Ao27 t900.length co27, .slice Ao28 t903.length co28] 30 (0, 0)) zq137) : gb925 ≠ gb907)); clear HO893; clear HO896; clear HO899; clear HO902; clear HO905; clear HO911; clear HO914; clear HO917; clear HO920; clear HO923; clear BK886; clear BK907; clear HB; have HO893 := n0_; have HO896 := n1_; have HO899 := n2_; have HO902 := n3_; have HO905 := n4_; have HO911 := n5_; have HO914 := n6_; have HO917 := n7_; have HO920 := n8_; have HO923 := n9_; have BK886 := n10_; have BK907 := n11_; have HB := n12_; have BK925 := n13_; have GW925 := n14_; have GE925 := n15_; have NB886_925 := n16_; have NB925_886 := n17_; have NB907_925 := n18_; have NB925_907 := n19_; clear n0_ n1_ n2_ n3_ n4_ n5_ n6_ n7_ n8_ n9_ n10_ n11_ n12_ n13_ n14_ n15_ n16_ n17_ n18_ n19_; clear hb hbox hg; have hnb31 := NB925_886.out; have hnc31 := NB886_925.out; have hnb32 := NB925_907.out; have hnc32 := NB907_925.out; obtain ⟨b33_0, b33_1, b33_2, b33_3, b33_4, d33_0, d33_1, d33_2, d33_3, d33_4⟩ := bk5 BK925.out; obtain ⟨Ao34, co34, eo34⟩ := Kd.R_slice HO911.out; subst eo34; obtain ⟨Ao35, co35, eo35⟩ := Kd.R_slice HO914.out; subst eo35; obtain ⟨Ao36, co36, eo36⟩ := Kd.R_slice HO917.out; subst eo36; obtain ⟨Ao37, co37, eo37⟩ := Kd.R_slice HO920.out; subst eo37))
     (try simp only [Act.put, List.setIfInBounds_toArray, List.set_cons_zero, List.set_cons_succ])
     go_cut [51] (fun v51 wc => ∃ (kq : Nat) (x51_17 : Bool), v51 = .bool x51_17 ∧ Aside0 (l3_OrderSame.j1 kq t921 x51_17 t890 t891 t894 t897 t900 t903 = some true) ∧ Aside0 (kq ≤ kj1) ∧ Aside0 (Kd.R (Kd.int .i64) 3 wc w.heap.size (fun k_ => some k_ ≠ ((.slice Ao24 t891.length co24) : Value).ownBlock ∧ some k_ ≠ ((.slice Ao27 t900.length co27) : Value).ownBlock ∧ some k_ ≠ ((.slice Ao28 t903.length co28) : Value).ownBlock ∧ some k_ ≠ ((.slice Ao36 t915.length co36) : Value).ownBlock ∧ some k_ ≠ ((.slice Ao37 t918.length co37) : Value).ownBlock) v922 t921) ∧ Aside0 (Kd.R (Kd.int .i64) 3 wc w.heap.size (fun k_ => some k_ ≠ (v922 : Value).ownBlock ∧ some k_ ≠ ((.slice Ao27 t900.length co27) : Value).ownBlock ∧ some k_ ≠ ((.slice Ao28 t903.length co28) : Value).ownBlock ∧ some k_ ≠ ((.slice Ao36 t915.length co36) : Value).ownBlock ∧ some k_ ≠ ((.slice Ao37 t918.length co37) : Value).ownBlock) (.slice Ao24 t891.length co24) t891) ∧ Aside0 (Kd.R k56 56 wc w.heap.size (fun k_ => some k_ ≠ ((.slice Ao26 t897.length co26) : Value).ownBlock) (.slice Ao25 t894.length co25) t894) ∧ Aside0 (Kd.R k56 56 wc w.heap.size (fun k_ => some k_ ≠ ((.slice Ao25 t894.length co25) : Value).ownBlock) (.slice Ao26 t897.length co26) t897) ∧ Aside0 (Kd.R (Kd.int .i64) 3 wc w.heap.size (fun k_ => some k_ ≠ (v922 : Value).ownBlock ∧ some k_ ≠ ((.slice Ao24 t891.length co24) : Value).ownBlock ∧ some k_ ≠ ((.slice Ao28 t903.length co28) : Value).ownBlock ∧ some k_ ≠ ((.slice Ao36 t915.length co36) : Value).ownBlock ∧ some k_ ≠ ((.slice Ao37 t918.length co37) : Value).ownBlock) (.slice Ao27 t900.length co27) t900) ∧ Aside0 (Kd.R (Kd.int .i64) 3 wc w.heap.size (fun k_ => some k_ ≠ (v922 : Value).ownBlock ∧ some k_ ≠ ((.slice Ao24 t891.length co24) : Value).ownBlock ∧ some k_ ≠ ((.slice Ao27 t900.length co27) : Value).ownBlock ∧ some k_ ≠ ((.slice Ao36 t915.length co36) : Value).ownBlock ∧ some k_ ≠ ((.slice Ao37 t918.length co37) : Value).ownBlock) (.slice Ao28 t903.length co28) t903) ∧ Aside0 (Kd.R k61 61 wc w.heap.size (fun _ => True) (.slice Ao34 t909.length co34) t909) ∧ Aside0 (Kd.R k59 59 wc w.heap.size (fun _ => True) (.slice Ao35 t912.length co35) t912) ∧ Aside0 (Kd.R (Kd.int .i64) 3 wc w.heap.size (fun k_ => some k_ ≠ (v922 : Value).ownBlock ∧ some k_ ≠ ((.slice Ao24 t891.length co24) : Value).ownBlock ∧ some k_ ≠ ((.slice Ao27 t900.length co27) : Value).ownBlock ∧ some k_ ≠ ((.slice Ao28 t903.length co28) : Value).ownBlock ∧ some k_ ≠ ((.slice Ao37 t918.length co37) : Value).ownBlock) (.slice Ao36 t915.length co36) t915) ∧ Aside0 (Kd.R (Kd.int .i64) 3 wc w.heap.size (fun k_ => some k_ ≠ (v922 : Value).ownBlock ∧ some k_ ≠ ((.slice Ao24 t891.length co24) : Value).ownBlock ∧ some k_ ≠ ((.slice Ao27 t900.length co27) : Value).ownBlock ∧ some k_ ≠ ((.slice Ao28 t903.length co28) : Value).ownBlock ∧ some k_ ≠ ((.slice Ao36 t915.length co36) : Value).ownBlock) (.slice Ao37 t918.length co37) t918) ∧ Aside0 (wc.heap[gb886]? = some (.cells #[.int .i64 a0_0, (.slice A0_1 l0_1.length c0_1), (.slice A0_2 l0_2.length c0_2), (.slice A0_3 l0_3.length c0_3), (.slice A0_4 l0_4.length c0_4)] 26 (0, 0))) ∧ Aside0 (wc.heap[gb907]? = some (.cells #[.int .i64 t890, (.slice Ao24 t891.length co24), (.slice Ao25 t894.length co25), (.slice Ao26 t897.length co26), (.slice Ao27 t900.length co27), (.slice Ao28 t903.length co28)] 30 (0, 0))) ∧ Aside0 (wc.heap[gb925]? = some (.cells #[.int .i64 t908, (.slice Ao34 t909.length co34), (.slice Ao35 t912.length co35), (.slice Ao36 t915.length co36), (.slice Ao37 t918.length co37)] 26 (0, 0))) ∧ Aside0 (Below w.heap.size w wc))
     case first =>
      have H := HC18.out
      clear HC18
      by_cases c38 : t906 = 0
      · rw [if_pos c38] at H
        have c38b0 : (t906 == 0) = true := beq_iff_eq.mpr c38
        have c38b1 : (t906 != 0) = false := bne_eq_false_iff_eq.mpr c38
        clear c38
        (first | rw [c38b0] | (simp only [i64_w, i32_w]; rw [c38b0]) | skip)
        by_cases c39 : t924 = 0
        · rw [if_pos c39] at H
          have c39b0 : (t924 == 0) = true := beq_iff_eq.mpr c39
          have c39b1 : (t924 != 0) = false := bne_eq_false_iff_eq.mpr c39
          clear c39
          replace H := Option.bind_eq_some_iff.mp H
          obtain ⟨t926, A400, H⟩ := H
          replace H : (if t926 = true then ((order_Check.f t890 t891 t894 t897 t900 t903).bind fun t927 => (if t927 = 0 then ((r2_Size.f a0_0 l0_1 l0_2 l0_3 l0_4).bind fun t928 => (l3_OrderSame.j1 kj1 t921 (t890 != t928) t890 t891 t894 t897 t900 t903)) else (l3_OrderSame.j1 kj1 t921 true t890 t891 t894 t897 t900 t903))) else (l3_OrderSame.j1 kj1 t921 true t890 t891 t894 t897 t900 t903)) = some true := H
          have A40 := Aside0.mk A400
          clear A400
          by_cases c41 : t926 = true
          · subst c41
            have H1 : ((order_Check.f t890 t891 t894 t897 t900 t903).bind fun t927 => (if t927 = 0 then ((r2_Size.f a0_0 l0_1 l0_2 l0_3 l0_4).bind fun t928 => (l3_OrderSame.j1 kj1 t921 (t890 != t928) t890 t891 t894 t897 t900 t903)) else (l3_OrderSame.j1 kj1 t921 true t890 t891 t894 t897 t900 t903))) = some true := by rw [if_pos rfl] at H; exact H
            clear H
            have H := H1
            clear H1
            replace H := Option.bind_eq_some_iff.mp H
            obtain ⟨t927, A420, H⟩ := H
            replace H : (if t927 = 0 then ((r2_Size.f a0_0 l0_1 l0_2 l0_3 l0_4).bind fun t928 => (l3_OrderSame.j1 kj1 t921 (t890 != t928) t890 t891 t894 t897 t900 t903)) else (l3_OrderSame.j1 kj1 t921 true t890 t891 t894 t897 t900 t903)) = some true := H
            have A42 := Aside0.mk A420
            clear A420
            by_cases c43 : t927 = 0
            · rw [if_pos c43] at H
              have c43b0 : (t927 == 0) = true := beq_iff_eq.mpr c43
              have c43b1 : (t927 != 0) = false := bne_eq_false_iff_eq.mpr c43
              clear c43
              replace H := Option.bind_eq_some_iff.mp H
              obtain ⟨t928, A440, H⟩ := H
              replace H : (l3_OrderSame.j1 kj1 t921 (t890 != t928) t890 t891 t894 t897 t900 t903) = some true := H
              have A44 := Aside0.mk A440
              clear A440
              have H' := Aside0.mk H
              clear H
              try go_wp2
              have n0_ : Aside0 (Kd.R (Kd.int .i64) 3 (((((w30.setCell ⟨gb925, 0, none⟩ (.int .i64 t908)).setCell ⟨gb925, 1, none⟩ (.slice Ao34 t909.length co34)).setCell ⟨gb925, 2, none⟩ (.slice Ao35 t912.length co35)).setCell ⟨gb925, 3, none⟩ (.slice Ao36 t915.length co36)).setCell ⟨gb925, 4, none⟩ (.slice Ao37 t918.length co37)) w.heap.size (fun k_ => some k_ ≠ (.slice Ao27 t900.length co27 : Value).ownBlock ∧ some k_ ≠ (.slice Ao28 t903.length co28 : Value).ownBlock ∧ some k_ ≠ (.slice Ao36 t915.length co36 : Value).ownBlock ∧ some k_ ≠ (.slice Ao37 t918.length co37 : Value).ownBlock ∧ some k_ ≠ (v922 : Value).ownBlock) (.slice Ao24 t891.length co24) t891) := ⟨zq17⟩
              have n1_ : Aside0 (Kd.R k56 56 (((((w30.setCell ⟨gb925, 0, none⟩ (.int .i64 t908)).setCell ⟨gb925, 1, none⟩ (.slice Ao34 t909.length co34)).setCell ⟨gb925, 2, none⟩ (.slice Ao35 t912.length co35)).setCell ⟨gb925, 3, none⟩ (.slice Ao36 t915.length co36)).setCell ⟨gb925, 4, none⟩ (.slice Ao37 t918.length co37)) w.heap.size (fun k_ => some k_ ≠ (.slice Ao26 t897.length co26 : Value).ownBlock) (.slice Ao25 t894.length co25) t894) := ⟨zq23⟩
              have n2_ : Aside0 (Kd.R k56 56 (((((w30.setCell ⟨gb925, 0, none⟩ (.int .i64 t908)).setCell ⟨gb925, 1, none⟩ (.slice Ao34 t909.length co34)).setCell ⟨gb925, 2, none⟩ (.slice Ao35 t912.length co35)).setCell ⟨gb925, 3, none⟩ (.slice Ao36 t915.length co36)).setCell ⟨gb925, 4, none⟩ (.slice Ao37 t918.length co37)) w.heap.size (fun k_ => some k_ ≠ (.slice Ao25 t894.length co25 : Value).ownBlock) (.slice Ao26 t897.length co26) t897) := ⟨zq24⟩
              have n3_ : Aside0 (Kd.R (Kd.int .i64) 3 (((((w30.setCell ⟨gb925, 0, none⟩ (.int .i64 t908)).setCell ⟨gb925, 1, none⟩ (.slice Ao34 t909.length co34)).setCell ⟨gb925, 2, none⟩ (.slice Ao35 t912.length co35)).setCell ⟨gb925, 3, none⟩ (.slice Ao36 t915.length co36)).setCell ⟨gb925, 4, none⟩ (.slice Ao37 t918.length co37)) w.heap.size (fun k_ => some k_ ≠ (.slice Ao24 t891.length co24 : Value).ownBlock ∧ some k_ ≠ (.slice Ao28 t903.length co28 : Value).ownBlock ∧ some k_ ≠ (.slice Ao36 t915.length co36 : Value).ownBlock ∧ some k_ ≠ (.slice Ao37 t918.length co37 : Value).ownBlock ∧ some k_ ≠ (v922 : Value).ownBlock) (.slice Ao27 t900.length co27) t900) := ⟨zq18⟩
              have n4_ : Aside0 (Kd.R (Kd.int .i64) 3 (((((w30.setCell ⟨gb925, 0, none⟩ (.int .i64 t908)).setCell ⟨gb925, 1, none⟩ (.slice Ao34 t909.length co34)).setCell ⟨gb925, 2, none⟩ (.slice Ao35 t912.length co35)).setCell ⟨gb925, 3, none⟩ (.slice Ao36 t915.length co36)).setCell ⟨gb925, 4, none⟩ (.slice Ao37 t918.length co37)) w.heap.size (fun k_ => some k_ ≠ (.slice Ao24 t891.length co24 : Value).ownBlock ∧ some k_ ≠ (.slice Ao27 t900.length co27 : Value).ownBlock ∧ some k_ ≠ (.slice Ao36 t915.length co36 : Value).ownBlock ∧ some k_ ≠ (.slice Ao37 t918.length co37 : Value).ownBlock ∧ some k_ ≠ (v922 : Value).ownBlock) (.slice Ao28 t903.length co28) t903) := ⟨zq19⟩
              have n5_ : Aside0 (Kd.R k61 61 (((((w30.setCell ⟨gb925, 0, none⟩ (.int .i64 t908)).setCell ⟨gb925, 1, none⟩ (.slice Ao34 t909.length co34)).setCell ⟨gb925, 2, none⟩ (.slice Ao35 t912.length co35)).setCell ⟨gb925, 3, none⟩ (.slice Ao36 t915.length co36)).setCell ⟨gb925, 4, none⟩ (.slice Ao37 t918.length co37)) w.heap.size (fun _ => True) (.slice Ao34 t909.length co34) t909) := ⟨zq25⟩
              have n6_ : Aside0 (Kd.R k59 59 (((((w30.setCell ⟨gb925, 0, none⟩ (.int .i64 t908)).setCell ⟨gb925, 1, none⟩ (.slice Ao34 t909.length co34)).setCell ⟨gb925, 2, none⟩ (.slice Ao35 t912.length co35)).setCell ⟨gb925, 3, none⟩ (.slice Ao36 t915.length co36)).setCell ⟨gb925, 4, none⟩ (.slice Ao37 t918.length co37)) w.heap.size (fun _ => True) (.slice Ao35 t912.length co35) t912) := ⟨zq26⟩
              have n7_ : Aside0 (Kd.R (Kd.int .i64) 3 (((((w30.setCell ⟨gb925, 0, none⟩ (.int .i64 t908)).setCell ⟨gb925, 1, none⟩ (.slice Ao34 t909.length co34)).setCell ⟨gb925, 2, none⟩ (.slice Ao35 t912.length co35)).setCell ⟨gb925, 3, none⟩ (.slice Ao36 t915.length co36)).setCell ⟨gb925, 4, none⟩ (.slice Ao37 t918.length co37)) w.heap.size (fun k_ => some k_ ≠ (.slice Ao24 t891.length co24 : Value).ownBlock ∧ some k_ ≠ (.slice Ao27 t900.length co27 : Value).ownBlock ∧ some k_ ≠ (.slice Ao28 t903.length co28 : Value).ownBlock ∧ some k_ ≠ (.slice Ao37 t918.length co37 : Value).ownBlock ∧ some k_ ≠ (v922 : Value).ownBlock) (.slice Ao36 t915.length co36) t915) := ⟨zq20⟩
              have n8_ : Aside0 (Kd.R (Kd.int .i64) 3 (((((w30.setCell ⟨gb925, 0, none⟩ (.int .i64 t908)).setCell ⟨gb925, 1, none⟩ (.slice Ao34 t909.length co34)).setCell ⟨gb925, 2, none⟩ (.slice Ao35 t912.length co35)).setCell ⟨gb925, 3, none⟩ (.slice Ao36 t915.length co36)).setCell ⟨gb925, 4, none⟩ (.slice Ao37 t918.length co37)) w.heap.size (fun k_ => some k_ ≠ (.slice Ao24 t891.length co24 : Value).ownBlock ∧ some k_ ≠ (.slice Ao27 t900.length co27 : Value).ownBlock ∧ some k_ ≠ (.slice Ao28 t903.length co28 : Value).ownBlock ∧ some k_ ≠ (.slice Ao36 t915.length co36 : Value).ownBlock ∧ some k_ ≠ (v922 : Value).ownBlock) (.slice Ao37 t918.length co37) t918) := ⟨zq21⟩
              have n9_ : Aside0 (Kd.R (Kd.int .i64) 3 (((((w30.setCell ⟨gb925, 0, none⟩ (.int .i64 t908)).setCell ⟨gb925, 1, none⟩ (.slice Ao34 t909.length co34)).setCell ⟨gb925, 2, none⟩ (.slice Ao35 t912.length co35)).setCell ⟨gb925, 3, none⟩ (.slice Ao36 t915.length co36)).setCell ⟨gb925, 4, none⟩ (.slice Ao37 t918.length co37)) w.heap.size (fun k_ => some k_ ≠ (.slice Ao24 t891.length co24 : Value).ownBlock ∧ some k_ ≠ (.slice Ao27 t900.length co27 : Value).ownBlock ∧ some k_ ≠ (.slice Ao28 t903.length co28 : Value).ownBlock ∧ some k_ ≠ (.slice Ao36 t915.length co36 : Value).ownBlock ∧ some k_ ≠ (.slice Ao37 t918.length co37 : Value).ownBlock) v922 t921) := ⟨zq22⟩
              have n10_ : Aside0 ((((((w30.setCell ⟨gb925, 0, none⟩ (.int .i64 t908)).setCell ⟨gb925, 1, none⟩ (.slice Ao34 t909.length co34)).setCell ⟨gb925, 2, none⟩ (.slice Ao35 t912.length co35)).setCell ⟨gb925, 3, none⟩ (.slice Ao36 t915.length co36)).setCell ⟨gb925, 4, none⟩ (.slice Ao37 t918.length co37)).heap[gb886]? = some (.cells #[.int .i64 a0_0, .slice A0_1 l0_1.length c0_1, .slice A0_2 l0_2.length c0_2, .slice A0_3 l0_3.length c0_3, .slice A0_4 l0_4.length c0_4] 26 (0, 0))) := ⟨zq7⟩
              have n11_ : Aside0 ((((((w30.setCell ⟨gb925, 0, none⟩ (.int .i64 t908)).setCell ⟨gb925, 1, none⟩ (.slice Ao34 t909.length co34)).setCell ⟨gb925, 2, none⟩ (.slice Ao35 t912.length co35)).setCell ⟨gb925, 3, none⟩ (.slice Ao36 t915.length co36)).setCell ⟨gb925, 4, none⟩ (.slice Ao37 t918.length co37)).heap[gb907]? = some (.cells #[.int .i64 t890, .slice Ao24 t891.length co24, .slice Ao25 t894.length co25, .slice Ao26 t897.length co26, .slice Ao27 t900.length co27, .slice Ao28 t903.length co28] 30 (0, 0))) := ⟨zq8⟩
              have n12_ : Aside0 ((((((w30.setCell ⟨gb925, 0, none⟩ (.int .i64 t908)).setCell ⟨gb925, 1, none⟩ (.slice Ao34 t909.length co34)).setCell ⟨gb925, 2, none⟩ (.slice Ao35 t912.length co35)).setCell ⟨gb925, 3, none⟩ (.slice Ao36 t915.length co36)).setCell ⟨gb925, 4, none⟩ (.slice Ao37 t918.length co37)).heap[gb925]? = some (.cells #[.int .i64 t908, .slice Ao34 t909.length co34, .slice Ao35 t912.length co35, .slice Ao36 t915.length co36, .slice Ao37 t918.length co37] 26 (0, 0))) := ⟨zq0⟩
              have n13_ : Aside0 (Below w.heap.size w (((((w30.setCell ⟨gb925, 0, none⟩ (.int .i64 t908)).setCell ⟨gb925, 1, none⟩ (.slice Ao34 t909.length co34)).setCell ⟨gb925, 2, none⟩ (.slice Ao35 t912.length co35)).setCell ⟨gb925, 3, none⟩ (.slice Ao36 t915.length co36)).setCell ⟨gb925, 4, none⟩ (.slice Ao37 t918.length co37))) := ⟨zq67⟩
              (try clear HO893)
              (try clear HO896)
              (try clear HO899)
              (try clear HO902)
              (try clear HO905)
              (try clear HO911)
              (try clear HO914)
              (try clear HO917)
              (try clear HO920)
              (try clear HO923)
              (try clear BK886)
              (try clear BK907)
              (try clear BK925)
              (try clear HB)
              generalize (((((w30.setCell ⟨gb925, 0, none⟩ (.int .i64 t908)).setCell ⟨gb925, 1, none⟩ (.slice Ao34 t909.length co34)).setCell ⟨gb925, 2, none⟩ (.slice Ao35 t912.length co35)).setCell ⟨gb925, 3, none⟩ (.slice Ao36 t915.length co36)).setCell ⟨gb925, 4, none⟩ (.slice Ao37 t918.length co37)) = w45 at n0_ n1_ n2_ n3_ n4_ n5_ n6_ n7_ n8_ n9_ n10_ n11_ n12_ n13_ ⊢
              have HO893 := n0_
              have HO896 := n1_
              have HO899 := n2_
              have HO902 := n3_
              have HO905 := n4_
              have HO911 := n5_
              have HO914 := n6_
              have HO917 := n7_
              have HO920 := n8_
              have HO923 := n9_
              have BK886 := n10_
              have BK907 := n11_
              have BK925 := n12_
              have HB := n13_
              clear n0_ n1_ n2_ n3_ n4_ n5_ n6_ n7_ n8_ n9_ n10_ n11_ n12_ n13_
              have n0_ := Aside0.mk (Kd.R_drew HO893.out)
              have n1_ := Aside0.mk (Kd.R_drew HO896.out)
              have n2_ := Aside0.mk (Kd.R_drew HO899.out)
              have n3_ := Aside0.mk (Kd.R_drew HO902.out)
              have n4_ := Aside0.mk (Kd.R_drew HO905.out)
              have n5_ := Aside0.mk (Kd.R_drew HO911.out)
              have n6_ := Aside0.mk (Kd.R_drew HO914.out)
              have n7_ := Aside0.mk (Kd.R_drew HO917.out)
              have n8_ := Aside0.mk (Kd.R_drew HO920.out)
              have n9_ := Aside0.mk (Kd.R_drew HO923.out)
              have n10_ := Aside0.mk (blk_drew BK886.out)
              have n11_ := Aside0.mk (blk_drew BK907.out)
              have n12_ := Aside0.mk (blk_drew BK925.out)
              have n13_ := Aside0.mk (below_drew1 HB.out)
              clear HO893
              clear HO896
              clear HO899
              clear HO902
              clear HO905
              clear HO911
              clear HO914
              clear HO917
              clear HO920
              clear HO923
              clear BK886
              clear BK907
              clear BK925
              clear HB
              have HO893 := n0_
              have HO896 := n1_
              have HO899 := n2_
              have HO902 := n3_
              have HO905 := n4_
              have HO911 := n5_
              have HO914 := n6_
              have HO917 := n7_
              have HO920 := n8_
              have HO923 := n9_
              have BK886 := n10_
              have BK907 := n11_
              have BK925 := n12_
              have HB := n13_
              clear n0_ n1_ n2_ n3_ n4_ n5_ n6_ n7_ n8_ n9_ n10_ n11_ n12_ n13_
              refine start_ (n := 24) (S := fun w' => w'.cell? ⟨gb886, 0, none⟩ = some (.int .i64 a0_0) ∧ w'.cell? ⟨gb886, 1, none⟩ = some (.slice A0_1 l0_1.length c0_1) ∧ w'.cell? ⟨gb886, 2, none⟩ = some (.slice A0_2 l0_2.length c0_2) ∧ w'.cell? ⟨gb886, 3, none⟩ = some (.slice A0_3 l0_3.length c0_3) ∧ w'.cell? ⟨gb886, 4, none⟩ = some (.slice A0_4 l0_4.length c0_4) ∧ w'.cell? ⟨gb925, 0, none⟩ = some (.int .i64 t908) ∧ w'.cell? ⟨gb925, 1, none⟩ = some (.slice Ao34 t909.length co34) ∧ w'.cell? ⟨gb925, 2, none⟩ = some (.slice Ao35 t912.length co35) ∧ w'.cell? ⟨gb925, 3, none⟩ = some (.slice Ao36 t915.length co36) ∧ w'.cell? ⟨gb925, 4, none⟩ = some (.slice Ao37 t918.length co37) ∧ w'.cell? ⟨gb907, 0, none⟩ = some (.int .i64 t890) ∧ w'.cell? ⟨gb907, 1, none⟩ = some (.slice Ao24 t891.length co24) ∧ w'.cell? ⟨gb907, 2, none⟩ = some (.slice Ao25 t894.length co25) ∧ w'.cell? ⟨gb907, 3, none⟩ = some (.slice Ao26 t897.length co26) ∧ w'.cell? ⟨gb907, 4, none⟩ = some (.slice Ao27 t900.length co27) ∧ w'.cell? ⟨gb907, 5, none⟩ = some (.slice Ao28 t903.length co28)) (ds := []) #[nN,nN,nN,nN,nN,nN,nN,nN,nN,nN,nN,nN,nN,nN,nN,nN,nN,nN,nN,nN,nN,nN,nN,nN] (by kernel_rfl) rfl rfl ⟨(blk_cell BK886.out 0).trans rfl, (blk_cell BK886.out 1).trans rfl, (blk_cell BK886.out 2).trans rfl, (blk_cell BK886.out 3).trans rfl, (blk_cell BK886.out 4).trans rfl, (blk_cell BK925.out 0).trans rfl, (blk_cell BK925.out 1).trans rfl, (blk_cell BK925.out 2).trans rfl, (blk_cell BK925.out 3).trans rfl, (blk_cell BK925.out 4).trans rfl, (blk_cell BK907.out 0).trans rfl, (blk_cell BK907.out 1).trans rfl, (blk_cell BK907.out 2).trans rfl, (blk_cell BK907.out 3).trans rfl, (blk_cell BK907.out 4).trans rfl, (blk_cell BK907.out 5).trans rfl⟩ (fun hHeld => ?_); refine with_tabW l3_OrderSame.tab5 l3_OrderSame.bits5 (fun HT_ HW_ => ?_)
              generalize w45.drew = w46 at HO893 HO896 HO899 HO902 HO905 HO911 HO914 HO917 HO920 HO923 BK886 BK907 BK925 HB hHeld ⊢
              refine pz 0 28 #[yY,nN,nN,nN,nN,nN,nN,nN,nN,nN,nN,nN,nN,nN,nN,nN,nN,nN,nN,nN,nN,nN,nN,nN] (h := ?_)
              refine pz 1 29 #[yY,yY,nN,nN,nN,nN,nN,nN,nN,nN,nN,nN,nN,nN,nN,nN,nN,nN,nN,nN,nN,nN,nN,nN] (h := ?_)
              refine pz 2 30 #[yY,yY,yY,nN,nN,nN,nN,nN,nN,nN,nN,nN,nN,nN,nN,nN,nN,nN,nN,nN,nN,nN,nN,nN] (h := ?_)
              refine pz 3 31 #[yY,yY,yY,yY,nN,nN,nN,nN,nN,nN,nN,nN,nN,nN,nN,nN,nN,nN,nN,nN,nN,nN,nN,nN] (h := ?_)
              refine pz 4 32 #[yY,yY,yY,yY,yY,nN,nN,nN,nN,nN,nN,nN,nN,nN,nN,nN,nN,nN,nN,nN,nN,nN,nN,nN] (h := ?_)
              refine pz 5 33 #[yY,yY,yY,yY,yY,yY,nN,nN,nN,nN,nN,nN,nN,nN,nN,nN,nN,nN,nN,nN,nN,nN,nN,nN] (h := ?_)
              refine pz 6 34 #[yY,yY,yY,yY,yY,yY,yY,nN,nN,nN,nN,nN,nN,nN,nN,nN,nN,nN,nN,nN,nN,nN,nN,nN] (h := ?_)
              refine take_ (i := 7) (N := some 35) (v := ?_) (a' := ?_) #[yY,yY,yY,yY,yY,yY,yY,yY,nN,nN,nN,nN,nN,nN,nN,nN,nN,nN,nN,nN,nN,nN,nN,nN] rfl rfl (take_ofW HT_.out HW_.out (by kernel_rfl)) (fun _ _ _ h => h) (Or.inl ⟨by rfl, ?_⟩) hHeld ?_ ?_
              rotate_left
              · rintro w' ⟨s0, s1, s2, s3, s4, s5, s6, s7, s8, s9, s10, s11, s12, s13, s14, s15⟩
                go_simp
                with_reducible rfl
              rotate_left
              · simp only [Act.put, List.setIfInBounds_toArray, List.set_cons_zero, List.set_cons_succ, i64_w, i32_w]
                rfl
              refine take_ (i := 8) (N := some 36) (v := ?_) (a' := ?_) #[yY,yY,yY,yY,yY,yY,yY,yY,yY,nN,nN,nN,nN,nN,nN,nN,nN,nN,nN,nN,nN,nN,nN,nN] rfl rfl (take_ofW HT_.out HW_.out (by kernel_rfl)) (fun _ _ _ h => h) (Or.inl ⟨by rfl, ?_⟩) hHeld ?_ ?_
              rotate_left
              · rintro w' ⟨s0, s1, s2, s3, s4, s5, s6, s7, s8, s9, s10, s11, s12, s13, s14, s15⟩
                go_simp
                with_reducible rfl
              rotate_left
              · simp only [Act.put, List.setIfInBounds_toArray, List.set_cons_zero, List.set_cons_succ, i64_w, i32_w]
                rfl
              refine one_ (i := 9) (N := some 37) #[yY,yY,yY,yY,yY,yY,yY,yY,yY,yY,nN,nN,nN,nN,nN,nN,nN,nN,nN,nN,nN,nN,nN,nN] rfl rfl (one_of HT_.out (by kernel_rfl)) (by decide) (fun K hK => ?_)
              refine goes_ Try.func20 (by kernel_rfl) rfl #[.agg #[.int .i64 a0_0, .slice A0_1 l0_1.length c0_1, .slice A0_2 l0_2.length c0_2, .slice A0_3 l0_3.length c0_3, .slice A0_4 l0_4.length c0_4], .agg #[.int .i64 t908, .slice Ao34 t909.length co34, .slice Ao35 t912.length co35, .slice Ao36 t915.length co36, .slice Ao37 t918.length co37]] (by rfl) rfl rfl zq123 ?_
              with_reducible refine (r2_Same.calls kj1 a0_0 _ _ l0_1 _ _ l0_2 _ _ l0_3 _ _ l0_4 t908 _ _ t909 _ _ t912 _ _ t915 _ _ t918 true _ ?side1 ?side2 ?side3 ?side4 ?side5 ?side6 ?side7 ?side8 ?side9 ?side10 ?side11 ?side12 ?side13 ?side14 ?side15 ?side16 A40.out).mono ?_
              (case side1 => exact zq88)
              (case side2 => exact HC0_1.out)
              (case side3 => exact zq89)
              (case side4 => exact HC0_2.out)
              (case side5 => exact zq90)
              (case side6 => exact HC0_3.out)
              (case side7 => exact zq91)
              (case side8 => exact HC0_4.out)
              (case side9 => exact zq106)
              (case side10 => exact (Kd.R_reads' HO911.out).2.1)
              (case side11 => exact zq107)
              (case side12 => exact (Kd.R_reads' HO914.out).2.1)
              (case side13 => exact zq108)
              (case side14 => exact (Kd.R_reads' HO917.out).2.1)
              (case side15 => exact zq109)
              (case side16 => exact (Kd.R_reads' HO920.out).2.1)
              rintro e w47 ⟨rfl, hb⟩
              refine ⟨_, rfl, ?_⟩
              have n0_ := Aside0.mk (Kd.R_below zq166 hb)
              have n1_ := Aside0.mk (Kd.R_below zq167 hb)
              have n2_ := Aside0.mk (Kd.R_below zq168 hb)
              have n3_ := Aside0.mk (Kd.R_below zq169 hb)
              have n4_ := Aside0.mk (Kd.R_below zq170 hb)
              have n5_ := Aside0.mk (Kd.R_below zq171 hb)
              have n6_ := Aside0.mk (Kd.R_below zq172 hb)
              have n7_ := Aside0.mk (Kd.R_below zq173 hb)
              have n8_ := Aside0.mk (Kd.R_below zq174 hb)
              have n9_ := Aside0.mk (Kd.R_below zq175 hb)
              have n10_ := Aside0.mk (blk_below (g := gb886) (o := .cells #[.int .i64 a0_0, .slice A0_1 l0_1.length c0_1, .slice A0_2 l0_2.length c0_2, .slice A0_3 l0_3.length c0_3, .slice A0_4 l0_4.length c0_4] 26 (0, 0)) zq136 hb)
              have n11_ := Aside0.mk (blk_below (g := gb907) (o := .cells #[.int .i64 t890, .slice Ao24 t891.length co24, .slice Ao25 t894.length co25, .slice Ao26 t897.length co26, .slice Ao27 t900.length co27, .slice Ao28 t903.length co28] 30 (0, 0)) zq137 hb)
              have n12_ := Aside0.mk (blk_below (g := gb925) (o := .cells #[.int .i64 t908, .slice Ao34 t909.length co34, .slice Ao35 t912.length co35, .slice Ao36 t915.length co36, .slice Ao37 t918.length co37] 26 (0, 0)) zq138 hb)
              have n13_ := Aside0.mk (below_step zq67 hb)
              clear HO893
              clear HO896
              clear HO899
              clear HO902
              clear HO905
              clear HO911
              clear HO914
              clear HO917
              clear HO920
              clear HO923
              clear BK886
              clear BK907
              clear BK925
              clear HB
              have HO893 := n0_
              have HO896 := n1_
              have HO899 := n2_
              have HO902 := n3_
              have HO905 := n4_
              have HO911 := n5_
              have HO914 := n6_
              have HO917 := n7_
              have HO920 := n8_
              have HO923 := n9_
              have BK886 := n10_
              have BK907 := n11_
              have BK925 := n12_
              have HB := n13_
              clear n0_ n1_ n2_ n3_ n4_ n5_ n6_ n7_ n8_ n9_ n10_ n11_ n12_ n13_
              (try clear hb)
              (try clear hb2)
              (try clear hk)
              (try clear hi)
              refine hK.out _ _ ⟨(blk_cell BK886.out 0).trans rfl, (blk_cell BK886.out 1).trans rfl, (blk_cell BK886.out 2).trans rfl, (blk_cell BK886.out 3).trans rfl, (blk_cell BK886.out 4).trans rfl, (blk_cell BK925.out 0).trans rfl, (blk_cell BK925.out 1).trans rfl, (blk_cell BK925.out 2).trans rfl, (blk_cell BK925.out 3).trans rfl, (blk_cell BK925.out 4).trans rfl, (blk_cell BK907.out 0).trans rfl, (blk_cell BK907.out 1).trans rfl, (blk_cell BK907.out 2).trans rfl, (blk_cell BK907.out 3).trans rfl, (blk_cell BK907.out 4).trans rfl, (blk_cell BK907.out 5).trans rfl⟩ (fun hHeld => ?_)
              clear hK K
              refine norm_ (a' := ?_) ?_ ?_
              rotate_left
              · show Act.put _ (some 37) _ = _
                simp only [Act.put, List.setIfInBounds_toArray, List.set_cons_zero, List.set_cons_succ, i64_w, i32_w]
                rfl
              refine pz 10 38 #[yY,yY,yY,yY,yY,yY,yY,yY,yY,yY,yY,nN,nN,nN,nN,nN,nN,nN,nN,nN,nN,nN,nN,nN] (h := ?_)
              refine pz 11 39 #[yY,yY,yY,yY,yY,yY,yY,yY,yY,yY,yY,yY,nN,nN,nN,nN,nN,nN,nN,nN,nN,nN,nN,nN] (h := ?_)
              refine pz 12 40 #[yY,yY,yY,yY,yY,yY,yY,yY,yY,yY,yY,yY,yY,nN,nN,nN,nN,nN,nN,nN,nN,nN,nN,nN] (h := ?_)
              refine take_ (i := 13) (N := some 41) (v := ?_) (a' := ?_) #[yY,yY,yY,yY,yY,yY,yY,yY,yY,yY,yY,yY,yY,yY,nN,nN,nN,nN,nN,nN,nN,nN,nN,nN] rfl rfl (take_ofW HT_.out HW_.out (by kernel_rfl)) (fun _ _ _ h => h) (Or.inl ⟨by rfl, ?_⟩) hHeld ?_ ?_
              rotate_left
              · rintro w' ⟨s0, s1, s2, s3, s4, s5, s6, s7, s8, s9, s10, s11, s12, s13, s14, s15⟩
                go_simp
                with_reducible rfl
              rotate_left
              · simp only [Act.put, List.setIfInBounds_toArray, List.set_cons_zero, List.set_cons_succ, i64_w, i32_w]
                rfl
              refine one_ (i := 14) (N := some 42) #[yY,yY,yY,yY,yY,yY,yY,yY,yY,yY,yY,yY,yY,yY,yY,nN,nN,nN,nN,nN,nN,nN,nN,nN] rfl rfl (one_of HT_.out (by kernel_rfl)) (by decide) (fun K hK => ?_)
              refine goes_ Try.func18 (by kernel_rfl) rfl #[.agg #[.int .i64 t890, .slice Ao24 t891.length co24, .slice Ao25 t894.length co25, .slice Ao26 t897.length co26, .slice Ao27 t900.length co27, .slice Ao28 t903.length co28]] (by rfl) rfl rfl zq123 ?_
              with_reducible refine (order_Check.calls t890 _ _ t891 _ _ t894 _ _ t897 _ _ t900 _ _ t903 t927 _ ?side1 ?side2 ?side3 ?side4 ?side5 ?side6 ?side7 ?side8 ?side9 ?side10 A42.out).mono ?_
              (case side1 => exact zq101)
              (case side2 => exact (Kd.R_reads' HO893.out).2.1)
              (case side3 => exact zq102)
              (case side4 => exact (Kd.R_reads' HO896.out).2.1)
              (case side5 => exact zq103)
              (case side6 => exact (Kd.R_reads' HO899.out).2.1)
              (case side7 => exact zq104)
              (case side8 => exact (Kd.R_reads' HO902.out).2.1)
              (case side9 => exact zq105)
              (case side10 => exact (Kd.R_reads' HO905.out).2.1)
              rintro e w48 ⟨rfl, hb⟩
              refine ⟨_, rfl, ?_⟩
              have n0_ := Aside0.mk (Kd.R_below zq166 hb)
              have n1_ := Aside0.mk (Kd.R_below zq167 hb)
              have n2_ := Aside0.mk (Kd.R_below zq168 hb)
              have n3_ := Aside0.mk (Kd.R_below zq169 hb)
              have n4_ := Aside0.mk (Kd.R_below zq170 hb)
              have n5_ := Aside0.mk (Kd.R_below zq171 hb)
              have n6_ := Aside0.mk (Kd.R_below zq172 hb)
              have n7_ := Aside0.mk (Kd.R_below zq173 hb)
              have n8_ := Aside0.mk (Kd.R_below zq174 hb)
              have n9_ := Aside0.mk (Kd.R_below zq175 hb)
              have n10_ := Aside0.mk (blk_below (g := gb886) (o := .cells #[.int .i64 a0_0, .slice A0_1 l0_1.length c0_1, .slice A0_2 l0_2.length c0_2, .slice A0_3 l0_3.length c0_3, .slice A0_4 l0_4.length c0_4] 26 (0, 0)) zq136 hb)
              have n11_ := Aside0.mk (blk_below (g := gb907) (o := .cells #[.int .i64 t890, .slice Ao24 t891.length co24, .slice Ao25 t894.length co25, .slice Ao26 t897.length co26, .slice Ao27 t900.length co27, .slice Ao28 t903.length co28] 30 (0, 0)) zq137 hb)
              have n12_ := Aside0.mk (blk_below (g := gb925) (o := .cells #[.int .i64 t908, .slice Ao34 t909.length co34, .slice Ao35 t912.length co35, .slice Ao36 t915.length co36, .slice Ao37 t918.length co37] 26 (0, 0)) zq138 hb)
              have n13_ := Aside0.mk (below_step zq67 hb)
              clear HO893
              clear HO896
              clear HO899
              clear HO902
              clear HO905
              clear HO911
              clear HO914
              clear HO917
              clear HO920
              clear HO923
              clear BK886
              clear BK907
              clear BK925
              clear HB
              have HO893 := n0_
              have HO896 := n1_
              have HO899 := n2_
              have HO902 := n3_
              have HO905 := n4_
              have HO911 := n5_
              have HO914 := n6_
              have HO917 := n7_
              have HO920 := n8_
              have HO923 := n9_
              have BK886 := n10_
              have BK907 := n11_
              have BK925 := n12_
              have HB := n13_
              clear n0_ n1_ n2_ n3_ n4_ n5_ n6_ n7_ n8_ n9_ n10_ n11_ n12_ n13_
              (try clear hb)
              (try clear hb2)
              (try clear hk)
              (try clear hi)
              refine hK.out _ _ ⟨(blk_cell BK886.out 0).trans rfl, (blk_cell BK886.out 1).trans rfl, (blk_cell BK886.out 2).trans rfl, (blk_cell BK886.out 3).trans rfl, (blk_cell BK886.out 4).trans rfl, (blk_cell BK925.out 0).trans rfl, (blk_cell BK925.out 1).trans rfl, (blk_cell BK925.out 2).trans rfl, (blk_cell BK925.out 3).trans rfl, (blk_cell BK925.out 4).trans rfl, (blk_cell BK907.out 0).trans rfl, (blk_cell BK907.out 1).trans rfl, (blk_cell BK907.out 2).trans rfl, (blk_cell BK907.out 3).trans rfl, (blk_cell BK907.out 4).trans rfl, (blk_cell BK907.out 5).trans rfl⟩ (fun hHeld => ?_)
              clear hK K
              refine norm_ (a' := ?_) ?_ ?_
              rotate_left
              · show Act.put _ (some 42) _ = _
                simp only [Act.put, List.setIfInBounds_toArray, List.set_cons_zero, List.set_cons_succ, i64_w, i32_w]
                rfl
              refine pz 15 43 #[yY,yY,yY,yY,yY,yY,yY,yY,yY,yY,yY,yY,yY,yY,yY,yY,nN,nN,nN,nN,nN,nN,nN,nN] (h := ?_)
              refine pz 16 44 #[yY,yY,yY,yY,yY,yY,yY,yY,yY,yY,yY,yY,yY,yY,yY,yY,yY,nN,nN,nN,nN,nN,nN,nN] (h := ?_)
              refine pz 17 45 #[yY,yY,yY,yY,yY,yY,yY,yY,yY,yY,yY,yY,yY,yY,yY,yY,yY,yY,nN,nN,nN,nN,nN,nN] (h := ?_)
              refine pz 18 46 #[yY,yY,yY,yY,yY,yY,yY,yY,yY,yY,yY,yY,yY,yY,yY,yY,yY,yY,yY,nN,nN,nN,nN,nN] (h := ?_)
              refine take_ (i := 19) (N := some 47) (v := ?_) (a' := ?_) #[yY,yY,yY,yY,yY,yY,yY,yY,yY,yY,yY,yY,yY,yY,yY,yY,yY,yY,yY,yY,nN,nN,nN,nN] rfl rfl (take_ofW HT_.out HW_.out (by kernel_rfl)) (fun _ _ _ h => h) (Or.inl ⟨by rfl, ?_⟩) hHeld ?_ ?_
              rotate_left
              · rintro w' ⟨s0, s1, s2, s3, s4, s5, s6, s7, s8, s9, s10, s11, s12, s13, s14, s15⟩
                go_simp
                with_reducible rfl
              rotate_left
              · simp only [Act.put, List.setIfInBounds_toArray, List.set_cons_zero, List.set_cons_succ, i64_w, i32_w]
                rfl
              refine take_ (i := 20) (N := some 48) (v := ?_) (a' := ?_) #[yY,yY,yY,yY,yY,yY,yY,yY,yY,yY,yY,yY,yY,yY,yY,yY,yY,yY,yY,yY,yY,nN,nN,nN] rfl rfl (take_ofW HT_.out HW_.out (by kernel_rfl)) (fun _ _ _ h => h) (Or.inl ⟨by rfl, ?_⟩) hHeld ?_ ?_
              rotate_left
              · rintro w' ⟨s0, s1, s2, s3, s4, s5, s6, s7, s8, s9, s10, s11, s12, s13, s14, s15⟩
                go_simp
                with_reducible rfl
              rotate_left
              · simp only [Act.put, List.setIfInBounds_toArray, List.set_cons_zero, List.set_cons_succ, i64_w, i32_w]
                rfl
              refine one_ (i := 21) (N := some 49) #[yY,yY,yY,yY,yY,yY,yY,yY,yY,yY,yY,yY,yY,yY,yY,yY,yY,yY,yY,yY,yY,yY,nN,nN] rfl rfl (one_of HT_.out (by kernel_rfl)) (by decide) (fun K hK => ?_)
              refine goes_ Try.func29 (by kernel_rfl) rfl #[.agg #[.int .i64 a0_0, .slice A0_1 l0_1.length c0_1, .slice A0_2 l0_2.length c0_2, .slice A0_3 l0_3.length c0_3, .slice A0_4 l0_4.length c0_4]] (by rfl) rfl rfl zq123 ?_
              with_reducible refine (r2_Size.calls a0_0 _ _ l0_1 _ _ l0_2 _ _ l0_3 _ _ l0_4 t928 _ ?side1 ?side2 ?side3 ?side4 ?side5 ?side6 ?side7 ?side8 A44.out).mono ?_
              (case side1 => exact zq88)
              (case side2 => exact HC0_1.out)
              (case side3 => exact zq89)
              (case side4 => exact HC0_2.out)
              (case side5 => exact zq90)
              (case side6 => exact HC0_3.out)
              (case side7 => exact zq91)
              (case side8 => exact HC0_4.out)
              rintro e w49 ⟨rfl, hb⟩
              refine ⟨_, rfl, ?_⟩
              have n0_ := Aside0.mk (Kd.R_below zq166 hb)
              have n1_ := Aside0.mk (Kd.R_below zq167 hb)
              have n2_ := Aside0.mk (Kd.R_below zq168 hb)
              have n3_ := Aside0.mk (Kd.R_below zq169 hb)
              have n4_ := Aside0.mk (Kd.R_below zq170 hb)
              have n5_ := Aside0.mk (Kd.R_below zq171 hb)
              have n6_ := Aside0.mk (Kd.R_below zq172 hb)
              have n7_ := Aside0.mk (Kd.R_below zq173 hb)
              have n8_ := Aside0.mk (Kd.R_below zq174 hb)
              have n9_ := Aside0.mk (Kd.R_below zq175 hb)
              have n10_ := Aside0.mk (blk_below (g := gb886) (o := .cells #[.int .i64 a0_0, .slice A0_1 l0_1.length c0_1, .slice A0_2 l0_2.length c0_2, .slice A0_3 l0_3.length c0_3, .slice A0_4 l0_4.length c0_4] 26 (0, 0)) zq136 hb)
              have n11_ := Aside0.mk (blk_below (g := gb907) (o := .cells #[.int .i64 t890, .slice Ao24 t891.length co24, .slice Ao25 t894.length co25, .slice Ao26 t897.length co26, .slice Ao27 t900.length co27, .slice Ao28 t903.length co28] 30 (0, 0)) zq137 hb)
              have n12_ := Aside0.mk (blk_below (g := gb925) (o := .cells #[.int .i64 t908, .slice Ao34 t909.length co34, .slice Ao35 t912.length co35, .slice Ao36 t915.length co36, .slice Ao37 t918.length co37] 26 (0, 0)) zq138 hb)
              have n13_ := Aside0.mk (below_step zq67 hb)
              clear HO893
              clear HO896
              clear HO899
              clear HO902
              clear HO905
              clear HO911
              clear HO914
              clear HO917
              clear HO920
              clear HO923
              clear BK886
              clear BK907
              clear BK925
              clear HB
              have HO893 := n0_
              have HO896 := n1_
              have HO899 := n2_
              have HO902 := n3_
              have HO905 := n4_
              have HO911 := n5_
              have HO914 := n6_
              have HO917 := n7_
              have HO920 := n8_
              have HO923 := n9_
              have BK886 := n10_
              have BK907 := n11_
              have BK925 := n12_
              have HB := n13_
              clear n0_ n1_ n2_ n3_ n4_ n5_ n6_ n7_ n8_ n9_ n10_ n11_ n12_ n13_
              (try clear hb)
              (try clear hb2)
              (try clear hk)
              (try clear hi)
              refine hK.out _ _ ⟨(blk_cell BK886.out 0).trans rfl, (blk_cell BK886.out 1).trans rfl, (blk_cell BK886.out 2).trans rfl, (blk_cell BK886.out 3).trans rfl, (blk_cell BK886.out 4).trans rfl, (blk_cell BK925.out 0).trans rfl, (blk_cell BK925.out 1).trans rfl, (blk_cell BK925.out 2).trans rfl, (blk_cell BK925.out 3).trans rfl, (blk_cell BK925.out 4).trans rfl, (blk_cell BK907.out 0).trans rfl, (blk_cell BK907.out 1).trans rfl, (blk_cell BK907.out 2).trans rfl, (blk_cell BK907.out 3).trans rfl, (blk_cell BK907.out 4).trans rfl, (blk_cell BK907.out 5).trans rfl⟩ (fun hHeld => ?_)
              clear hK K
              refine norm_ (a' := ?_) ?_ ?_
              rotate_left
              · show Act.put _ (some 49) _ = _
                simp only [Act.put, List.setIfInBounds_toArray, List.set_cons_zero, List.set_cons_succ, i64_w, i32_w]
                rfl
              refine pz 22 50 #[yY,yY,yY,yY,yY,yY,yY,yY,yY,yY,yY,yY,yY,yY,yY,yY,yY,yY,yY,yY,yY,yY,yY,nN] (h := ?_)
              refine pz 23 51 #[yY,yY,yY,yY,yY,yY,yY,yY,yY,yY,yY,yY,yY,yY,yY,yY,yY,yY,yY,yY,yY,yY,yY,yY] (h := ?_)
              refine done_ (done_of HT_.out (by kernel_rfl)) ?_
              try go_wp2
              go_meet
              case rel => exact ⟨_, ((t890 != t928)), zq188, H', ⟨zq186⟩, ⟨zq175⟩, ⟨zq83⟩, ⟨zq167⟩, ⟨zq168⟩, ⟨zq84⟩, ⟨zq85⟩, ⟨zq171⟩, ⟨zq172⟩, ⟨zq86⟩, ⟨zq87⟩, ⟨zq136⟩, ⟨zq137⟩, ⟨zq138⟩, ⟨zq67⟩⟩
            · rw [if_neg c43] at H
              have c43b0 : (t927 == 0) = false := beq_eq_false_iff_ne.mpr c43
              have c43b1 : (t927 != 0) = true := bne_iff_ne.mpr c43
              have H' := Aside0.mk H
              clear H
              try go_wp2
              have n0_ : Aside0 (Kd.R (Kd.int .i64) 3 (((((w30.setCell ⟨gb925, 0, none⟩ (.int .i64 t908)).setCell ⟨gb925, 1, none⟩ (.slice Ao34 t909.length co34)).setCell ⟨gb925, 2, none⟩ (.slice Ao35 t912.length co35)).setCell ⟨gb925, 3, none⟩ (.slice Ao36 t915.length co36)).setCell ⟨gb925, 4, none⟩ (.slice Ao37 t918.length co37)) w.heap.size (fun k_ => some k_ ≠ (.slice Ao27 t900.length co27 : Value).ownBlock ∧ some k_ ≠ (.slice Ao28 t903.length co28 : Value).ownBlock ∧ some k_ ≠ (.slice Ao36 t915.length co36 : Value).ownBlock ∧ some k_ ≠ (.slice Ao37 t918.length co37 : Value).ownBlock ∧ some k_ ≠ (v922 : Value).ownBlock) (.slice Ao24 t891.length co24) t891) := ⟨zq17⟩
              have n1_ : Aside0 (Kd.R k56 56 (((((w30.setCell ⟨gb925, 0, none⟩ (.int .i64 t908)).setCell ⟨gb925, 1, none⟩ (.slice Ao34 t909.length co34)).setCell ⟨gb925, 2, none⟩ (.slice Ao35 t912.length co35)).setCell ⟨gb925, 3, none⟩ (.slice Ao36 t915.length co36)).setCell ⟨gb925, 4, none⟩ (.slice Ao37 t918.length co37)) w.heap.size (fun k_ => some k_ ≠ (.slice Ao26 t897.length co26 : Value).ownBlock) (.slice Ao25 t894.length co25) t894) := ⟨zq23⟩
              have n2_ : Aside0 (Kd.R k56 56 (((((w30.setCell ⟨gb925, 0, none⟩ (.int .i64 t908)).setCell ⟨gb925, 1, none⟩ (.slice Ao34 t909.length co34)).setCell ⟨gb925, 2, none⟩ (.slice Ao35 t912.length co35)).setCell ⟨gb925, 3, none⟩ (.slice Ao36 t915.length co36)).setCell ⟨gb925, 4, none⟩ (.slice Ao37 t918.length co37)) w.heap.size (fun k_ => some k_ ≠ (.slice Ao25 t894.length co25 : Value).ownBlock) (.slice Ao26 t897.length co26) t897) := ⟨zq24⟩
              have n3_ : Aside0 (Kd.R (Kd.int .i64) 3 (((((w30.setCell ⟨gb925, 0, none⟩ (.int .i64 t908)).setCell ⟨gb925, 1, none⟩ (.slice Ao34 t909.length co34)).setCell ⟨gb925, 2, none⟩ (.slice Ao35 t912.length co35)).setCell ⟨gb925, 3, none⟩ (.slice Ao36 t915.length co36)).setCell ⟨gb925, 4, none⟩ (.slice Ao37 t918.length co37)) w.heap.size (fun k_ => some k_ ≠ (.slice Ao24 t891.length co24 : Value).ownBlock ∧ some k_ ≠ (.slice Ao28 t903.length co28 : Value).ownBlock ∧ some k_ ≠ (.slice Ao36 t915.length co36 : Value).ownBlock ∧ some k_ ≠ (.slice Ao37 t918.length co37 : Value).ownBlock ∧ some k_ ≠ (v922 : Value).ownBlock) (.slice Ao27 t900.length co27) t900) := ⟨zq18⟩
              have n4_ : Aside0 (Kd.R (Kd.int .i64) 3 (((((w30.setCell ⟨gb925, 0, none⟩ (.int .i64 t908)).setCell ⟨gb925, 1, none⟩ (.slice Ao34 t909.length co34)).setCell ⟨gb925, 2, none⟩ (.slice Ao35 t912.length co35)).setCell ⟨gb925, 3, none⟩ (.slice Ao36 t915.length co36)).setCell ⟨gb925, 4, none⟩ (.slice Ao37 t918.length co37)) w.heap.size (fun k_ => some k_ ≠ (.slice Ao24 t891.length co24 : Value).ownBlock ∧ some k_ ≠ (.slice Ao27 t900.length co27 : Value).ownBlock ∧ some k_ ≠ (.slice Ao36 t915.length co36 : Value).ownBlock ∧ some k_ ≠ (.slice Ao37 t918.length co37 : Value).ownBlock ∧ some k_ ≠ (v922 : Value).ownBlock) (.slice Ao28 t903.length co28) t903) := ⟨zq19⟩
              have n5_ : Aside0 (Kd.R k61 61 (((((w30.setCell ⟨gb925, 0, none⟩ (.int .i64 t908)).setCell ⟨gb925, 1, none⟩ (.slice Ao34 t909.length co34)).setCell ⟨gb925, 2, none⟩ (.slice Ao35 t912.length co35)).setCell ⟨gb925, 3, none⟩ (.slice Ao36 t915.length co36)).setCell ⟨gb925, 4, none⟩ (.slice Ao37 t918.length co37)) w.heap.size (fun _ => True) (.slice Ao34 t909.length co34) t909) := ⟨zq25⟩
              have n6_ : Aside0 (Kd.R k59 59 (((((w30.setCell ⟨gb925, 0, none⟩ (.int .i64 t908)).setCell ⟨gb925, 1, none⟩ (.slice Ao34 t909.length co34)).setCell ⟨gb925, 2, none⟩ (.slice Ao35 t912.length co35)).setCell ⟨gb925, 3, none⟩ (.slice Ao36 t915.length co36)).setCell ⟨gb925, 4, none⟩ (.slice Ao37 t918.length co37)) w.heap.size (fun _ => True) (.slice Ao35 t912.length co35) t912) := ⟨zq26⟩
              have n7_ : Aside0 (Kd.R (Kd.int .i64) 3 (((((w30.setCell ⟨gb925, 0, none⟩ (.int .i64 t908)).setCell ⟨gb925, 1, none⟩ (.slice Ao34 t909.length co34)).setCell ⟨gb925, 2, none⟩ (.slice Ao35 t912.length co35)).setCell ⟨gb925, 3, none⟩ (.slice Ao36 t915.length co36)).setCell ⟨gb925, 4, none⟩ (.slice Ao37 t918.length co37)) w.heap.size (fun k_ => some k_ ≠ (.slice Ao24 t891.length co24 : Value).ownBlock ∧ some k_ ≠ (.slice Ao27 t900.length co27 : Value).ownBlock ∧ some k_ ≠ (.slice Ao28 t903.length co28 : Value).ownBlock ∧ some k_ ≠ (.slice Ao37 t918.length co37 : Value).ownBlock ∧ some k_ ≠ (v922 : Value).ownBlock) (.slice Ao36 t915.length co36) t915) := ⟨zq20⟩
              have n8_ : Aside0 (Kd.R (Kd.int .i64) 3 (((((w30.setCell ⟨gb925, 0, none⟩ (.int .i64 t908)).setCell ⟨gb925, 1, none⟩ (.slice Ao34 t909.length co34)).setCell ⟨gb925, 2, none⟩ (.slice Ao35 t912.length co35)).setCell ⟨gb925, 3, none⟩ (.slice Ao36 t915.length co36)).setCell ⟨gb925, 4, none⟩ (.slice Ao37 t918.length co37)) w.heap.size (fun k_ => some k_ ≠ (.slice Ao24 t891.length co24 : Value).ownBlock ∧ some k_ ≠ (.slice Ao27 t900.length co27 : Value).ownBlock ∧ some k_ ≠ (.slice Ao28 t903.length co28 : Value).ownBlock ∧ some k_ ≠ (.slice Ao36 t915.length co36 : Value).ownBlock ∧ some k_ ≠ (v922 : Value).ownBlock) (.slice Ao37 t918.length co37) t918) := ⟨zq21⟩
              have n9_ : Aside0 (Kd.R (Kd.int .i64) 3 (((((w30.setCell ⟨gb925, 0, none⟩ (.int .i64 t908)).setCell ⟨gb925, 1, none⟩ (.slice Ao34 t909.length co34)).setCell ⟨gb925, 2, none⟩ (.slice Ao35 t912.length co35)).setCell ⟨gb925, 3, none⟩ (.slice Ao36 t915.length co36)).setCell ⟨gb925, 4, none⟩ (.slice Ao37 t918.length co37)) w.heap.size (fun k_ => some k_ ≠ (.slice Ao24 t891.length co24 : Value).ownBlock ∧ some k_ ≠ (.slice Ao27 t900.length co27 : Value).ownBlock ∧ some k_ ≠ (.slice Ao28 t903.length co28 : Value).ownBlock ∧ some k_ ≠ (.slice Ao36 t915.length co36 : Value).ownBlock ∧ some k_ ≠ (.slice Ao37 t918.length co37 : Value).ownBlock) v922 t921) := ⟨zq22⟩
              have n10_ : Aside0 ((((((w30.setCell ⟨gb925, 0, none⟩ (.int .i64 t908)).setCell ⟨gb925, 1, none⟩ (.slice Ao34 t909.length co34)).setCell ⟨gb925, 2, none⟩ (.slice Ao35 t912.length co35)).setCell ⟨gb925, 3, none⟩ (.slice Ao36 t915.length co36)).setCell ⟨gb925, 4, none⟩ (.slice Ao37 t918.length co37)).heap[gb886]? = some (.cells #[.int .i64 a0_0, .slice A0_1 l0_1.length c0_1, .slice A0_2 l0_2.length c0_2, .slice A0_3 l0_3.length c0_3, .slice A0_4 l0_4.length c0_4] 26 (0, 0))) := ⟨zq7⟩
              have n11_ : Aside0 ((((((w30.setCell ⟨gb925, 0, none⟩ (.int .i64 t908)).setCell ⟨gb925, 1, none⟩ (.slice Ao34 t909.length co34)).setCell ⟨gb925, 2, none⟩ (.slice Ao35 t912.length co35)).setCell ⟨gb925, 3, none⟩ (.slice Ao36 t915.length co36)).setCell ⟨gb925, 4, none⟩ (.slice Ao37 t918.length co37)).heap[gb907]? = some (.cells #[.int .i64 t890, .slice Ao24 t891.length co24, .slice Ao25 t894.length co25, .slice Ao26 t897.length co26, .slice Ao27 t900.length co27, .slice Ao28 t903.length co28] 30 (0, 0))) := ⟨zq8⟩
              have n12_ : Aside0 ((((((w30.setCell ⟨gb925, 0, none⟩ (.int .i64 t908)).setCell ⟨gb925, 1, none⟩ (.slice Ao34 t909.length co34)).setCell ⟨gb925, 2, none⟩ (.slice Ao35 t912.length co35)).setCell ⟨gb925, 3, none⟩ (.slice Ao36 t915.length co36)).setCell ⟨gb925, 4, none⟩ (.slice Ao37 t918.length co37)).heap[gb925]? = some (.cells #[.int .i64 t908, .slice Ao34 t909.length co34, .slice Ao35 t912.length co35, .slice Ao36 t915.length co36, .slice Ao37 t918.length co37] 26 (0, 0))) := ⟨zq0⟩
              have n13_ : Aside0 (Below w.heap.size w (((((w30.setCell ⟨gb925, 0, none⟩ (.int .i64 t908)).setCell ⟨gb925, 1, none⟩ (.slice Ao34 t909.length co34)).setCell ⟨gb925, 2, none⟩ (.slice Ao35 t912.length co35)).setCell ⟨gb925, 3, none⟩ (.slice Ao36 t915.length co36)).setCell ⟨gb925, 4, none⟩ (.slice Ao37 t918.length co37))) := ⟨zq67⟩
              (try clear HO893)
              (try clear HO896)
              (try clear HO899)
              (try clear HO902)
              (try clear HO905)
              (try clear HO911)
              (try clear HO914)
              (try clear HO917)
              (try clear HO920)
              (try clear HO923)
              (try clear BK886)
              (try clear BK907)
              (try clear BK925)
              (try clear HB)
              generalize (((((w30.setCell ⟨gb925, 0, none⟩ (.int .i64 t908)).setCell ⟨gb925, 1, none⟩ (.slice Ao34 t909.length co34)).setCell ⟨gb925, 2, none⟩ (.slice Ao35 t912.length co35)).setCell ⟨gb925, 3, none⟩ (.slice Ao36 t915.length co36)).setCell ⟨gb925, 4, none⟩ (.slice Ao37 t918.length co37)) = w50 at n0_ n1_ n2_ n3_ n4_ n5_ n6_ n7_ n8_ n9_ n10_ n11_ n12_ n13_ ⊢
              have HO893 := n0_
              have HO896 := n1_
              have HO899 := n2_
              have HO902 := n3_
              have HO905 := n4_
              have HO911 := n5_
              have HO914 := n6_
              have HO917 := n7_
              have HO920 := n8_
              have HO923 := n9_
              have BK886 := n10_
              have BK907 := n11_
              have BK925 := n12_
              have HB := n13_
              clear n0_ n1_ n2_ n3_ n4_ n5_ n6_ n7_ n8_ n9_ n10_ n11_ n12_ n13_
              have n0_ := Aside0.mk (Kd.R_drew HO893.out)
              have n1_ := Aside0.mk (Kd.R_drew HO896.out)
              have n2_ := Aside0.mk (Kd.R_drew HO899.out)
              have n3_ := Aside0.mk (Kd.R_drew HO902.out)
              have n4_ := Aside0.mk (Kd.R_drew HO905.out)
              have n5_ := Aside0.mk (Kd.R_drew HO911.out)
              have n6_ := Aside0.mk (Kd.R_drew HO914.out)
              have n7_ := Aside0.mk (Kd.R_drew HO917.out)
              have n8_ := Aside0.mk (Kd.R_drew HO920.out)
              have n9_ := Aside0.mk (Kd.R_drew HO923.out)
              have n10_ := Aside0.mk (blk_drew BK886.out)
              have n11_ := Aside0.mk (blk_drew BK907.out)
              have n12_ := Aside0.mk (blk_drew BK925.out)
              have n13_ := Aside0.mk (below_drew1 HB.out)
              clear HO893
              clear HO896
              clear HO899
              clear HO902
              clear HO905
              clear HO911
              clear HO914
              clear HO917
              clear HO920
              clear HO923
              clear BK886
              clear BK907
              clear BK925
              clear HB
              have HO893 := n0_
              have HO896 := n1_
              have HO899 := n2_
              have HO902 := n3_
              have HO905 := n4_
              have HO911 := n5_
              have HO914 := n6_
              have HO917 := n7_
              have HO920 := n8_
              have HO923 := n9_
              have BK886 := n10_
              have BK907 := n11_
              have BK925 := n12_
              have HB := n13_
              clear n0_ n1_ n2_ n3_ n4_ n5_ n6_ n7_ n8_ n9_ n10_ n11_ n12_ n13_
              refine start_ (n := 24) (S := fun w' => w'.cell? ⟨gb886, 0, none⟩ = some (.int .i64 a0_0) ∧ w'.cell? ⟨gb886, 1, none⟩ = some (.slice A0_1 l0_1.length c0_1) ∧ w'.cell? ⟨gb886, 2, none⟩ = some (.slice A0_2 l0_2.length c0_2) ∧ w'.cell? ⟨gb886, 3, none⟩ = some (.slice A0_3 l0_3.length c0_3) ∧ w'.cell? ⟨gb886, 4, none⟩ = some (.slice A0_4 l0_4.length c0_4) ∧ w'.cell? ⟨gb925, 0, none⟩ = some (.int .i64 t908) ∧ w'.cell? ⟨gb925, 1, none⟩ = some (.slice Ao34 t909.length co34) ∧ w'.cell? ⟨gb925, 2, none⟩ = some (.slice Ao35 t912.length co35) ∧ w'.cell? ⟨gb925, 3, none⟩ = some (.slice Ao36 t915.length co36) ∧ w'.cell? ⟨gb925, 4, none⟩ = some (.slice Ao37 t918.length co37) ∧ w'.cell? ⟨gb907, 0, none⟩ = some (.int .i64 t890) ∧ w'.cell? ⟨gb907, 1, none⟩ = some (.slice Ao24 t891.length co24) ∧ w'.cell? ⟨gb907, 2, none⟩ = some (.slice Ao25 t894.length co25) ∧ w'.cell? ⟨gb907, 3, none⟩ = some (.slice Ao26 t897.length co26) ∧ w'.cell? ⟨gb907, 4, none⟩ = some (.slice Ao27 t900.length co27) ∧ w'.cell? ⟨gb907, 5, none⟩ = some (.slice Ao28 t903.length co28)) (ds := []) #[nN,nN,nN,nN,nN,nN,nN,nN,nN,nN,nN,nN,nN,nN,nN,nN,nN,nN,nN,nN,nN,nN,nN,nN] (by kernel_rfl) rfl rfl ⟨(blk_cell BK886.out 0).trans rfl, (blk_cell BK886.out 1).trans rfl, (blk_cell BK886.out 2).trans rfl, (blk_cell BK886.out 3).trans rfl, (blk_cell BK886.out 4).trans rfl, (blk_cell BK925.out 0).trans rfl, (blk_cell BK925.out 1).trans rfl, (blk_cell BK925.out 2).trans rfl, (blk_cell BK925.out 3).trans rfl, (blk_cell BK925.out 4).trans rfl, (blk_cell BK907.out 0).trans rfl, (blk_cell BK907.out 1).trans rfl, (blk_cell BK907.out 2).trans rfl, (blk_cell BK907.out 3).trans rfl, (blk_cell BK907.out 4).trans rfl, (blk_cell BK907.out 5).trans rfl⟩ (fun hHeld => ?_); refine with_tabW l3_OrderSame.tab5 l3_OrderSame.bits5 (fun HT_ HW_ => ?_)
              generalize w50.drew = w51 at HO893 HO896 HO899 HO902 HO905 HO911 HO914 HO917 HO920 HO923 BK886 BK907 BK925 HB hHeld ⊢
              refine pz 0 28 #[yY,nN,nN,nN,nN,nN,nN,nN,nN,nN,nN,nN,nN,nN,nN,nN,nN,nN,nN,nN,nN,nN,nN,nN] (h := ?_)
              refine pz 1 29 #[yY,yY,nN,nN,nN,nN,nN,nN,nN,nN,nN,nN,nN,nN,nN,nN,nN,nN,nN,nN,nN,nN,nN,nN] (h := ?_)
              refine pz 2 30 #[yY,yY,yY,nN,nN,nN,nN,nN,nN,nN,nN,nN,nN,nN,nN,nN,nN,nN,nN,nN,nN,nN,nN,nN] (h := ?_)
              refine pz 3 31 #[yY,yY,yY,yY,nN,nN,nN,nN,nN,nN,nN,nN,nN,nN,nN,nN,nN,nN,nN,nN,nN,nN,nN,nN] (h := ?_)
              refine pz 4 32 #[yY,yY,yY,yY,yY,nN,nN,nN,nN,nN,nN,nN,nN,nN,nN,nN,nN,nN,nN,nN,nN,nN,nN,nN] (h := ?_)
              refine pz 5 33 #[yY,yY,yY,yY,yY,yY,nN,nN,nN,nN,nN,nN,nN,nN,nN,nN,nN,nN,nN,nN,nN,nN,nN,nN] (h := ?_)
              refine pz 6 34 #[yY,yY,yY,yY,yY,yY,yY,nN,nN,nN,nN,nN,nN,nN,nN,nN,nN,nN,nN,nN,nN,nN,nN,nN] (h := ?_)
              refine take_ (i := 7) (N := some 35) (v := ?_) (a' := ?_) #[yY,yY,yY,yY,yY,yY,yY,yY,nN,nN,nN,nN,nN,nN,nN,nN,nN,nN,nN,nN,nN,nN,nN,nN] rfl rfl (take_ofW HT_.out HW_.out (by kernel_rfl)) (fun _ _ _ h => h) (Or.inl ⟨by rfl, ?_⟩) hHeld ?_ ?_
              rotate_left
              · rintro w' ⟨s0, s1, s2, s3, s4, s5, s6, s7, s8, s9, s10, s11, s12, s13, s14, s15⟩
                go_simp
                with_reducible rfl
              rotate_left
              · simp only [Act.put, List.setIfInBounds_toArray, List.set_cons_zero, List.set_cons_succ, i64_w, i32_w]
                rfl
              refine take_ (i := 8) (N := some 36) (v := ?_) (a' := ?_) #[yY,yY,yY,yY,yY,yY,yY,yY,yY,nN,nN,nN,nN,nN,nN,nN,nN,nN,nN,nN,nN,nN,nN,nN] rfl rfl (take_ofW HT_.out HW_.out (by kernel_rfl)) (fun _ _ _ h => h) (Or.inl ⟨by rfl, ?_⟩) hHeld ?_ ?_
              rotate_left
              · rintro w' ⟨s0, s1, s2, s3, s4, s5, s6, s7, s8, s9, s10, s11, s12, s13, s14, s15⟩
                go_simp
                with_reducible rfl
              rotate_left
              · simp only [Act.put, List.setIfInBounds_toArray, List.set_cons_zero, List.set_cons_succ, i64_w, i32_w]
                rfl
              refine one_ (i := 9) (N := some 37) #[yY,yY,yY,yY,yY,yY,yY,yY,yY,yY,nN,nN,nN,nN,nN,nN,nN,nN,nN,nN,nN,nN,nN,nN] rfl rfl (one_of HT_.out (by kernel_rfl)) (by decide) (fun K hK => ?_)
              refine goes_ Try.func20 (by kernel_rfl) rfl #[.agg #[.int .i64 a0_0, .slice A0_1 l0_1.length c0_1, .slice A0_2 l0_2.length c0_2, .slice A0_3 l0_3.length c0_3, .slice A0_4 l0_4.length c0_4], .agg #[.int .i64 t908, .slice Ao34 t909.length co34, .slice Ao35 t912.length co35, .slice Ao36 t915.length co36, .slice Ao37 t918.length co37]] (by rfl) rfl rfl zq123 ?_
              with_reducible refine (r2_Same.calls kj1 a0_0 _ _ l0_1 _ _ l0_2 _ _ l0_3 _ _ l0_4 t908 _ _ t909 _ _ t912 _ _ t915 _ _ t918 true _ ?side1 ?side2 ?side3 ?side4 ?side5 ?side6 ?side7 ?side8 ?side9 ?side10 ?side11 ?side12 ?side13 ?side14 ?side15 ?side16 A40.out).mono ?_
              (case side1 => exact zq88)
              (case side2 => exact HC0_1.out)
              (case side3 => exact zq89)
              (case side4 => exact HC0_2.out)
              (case side5 => exact zq90)
              (case side6 => exact HC0_3.out)
              (case side7 => exact zq91)
              (case side8 => exact HC0_4.out)
              (case side9 => exact zq106)
              (case side10 => exact (Kd.R_reads' HO911.out).2.1)
              (case side11 => exact zq107)
              (case side12 => exact (Kd.R_reads' HO914.out).2.1)
              (case side13 => exact zq108)
              (case side14 => exact (Kd.R_reads' HO917.out).2.1)
              (case side15 => exact zq109)
              (case side16 => exact (Kd.R_reads' HO920.out).2.1)
              rintro e w52 ⟨rfl, hb⟩
              refine ⟨_, rfl, ?_⟩
              have n0_ := Aside0.mk (Kd.R_below zq166 hb)
              have n1_ := Aside0.mk (Kd.R_below zq167 hb)
              have n2_ := Aside0.mk (Kd.R_below zq168 hb)
              have n3_ := Aside0.mk (Kd.R_below zq169 hb)
              have n4_ := Aside0.mk (Kd.R_below zq170 hb)
              have n5_ := Aside0.mk (Kd.R_below zq171 hb)
              have n6_ := Aside0.mk (Kd.R_below zq172 hb)
              have n7_ := Aside0.mk (Kd.R_below zq173 hb)
              have n8_ := Aside0.mk (Kd.R_below zq174 hb)
              have n9_ := Aside0.mk (Kd.R_below zq175 hb)
              have n10_ := Aside0.mk (blk_below (g := gb886) (o := .cells #[.int .i64 a0_0, .slice A0_1 l0_1.length c0_1, .slice A0_2 l0_2.length c0_2, .slice A0_3 l0_3.length c0_3, .slice A0_4 l0_4.length c0_4] 26 (0, 0)) zq136 hb)
              have n11_ := Aside0.mk (blk_below (g := gb907) (o := .cells #[.int .i64 t890, .slice Ao24 t891.length co24, .slice Ao25 t894.length co25, .slice Ao26 t897.length co26, .slice Ao27 t900.length co27, .slice Ao28 t903.length co28] 30 (0, 0)) zq137 hb)
              have n12_ := Aside0.mk (blk_below (g := gb925) (o := .cells #[.int .i64 t908, .slice Ao34 t909.length co34, .slice Ao35 t912.length co35, .slice Ao36 t915.length co36, .slice Ao37 t918.length co37] 26 (0, 0)) zq138 hb)
              have n13_ := Aside0.mk (below_step zq67 hb)
              clear HO893
              clear HO896
              clear HO899
              clear HO902
              clear HO905
              clear HO911
              clear HO914
              clear HO917
              clear HO920
              clear HO923
              clear BK886
              clear BK907
              clear BK925
              clear HB
              have HO893 := n0_
              have HO896 := n1_
              have HO899 := n2_
              have HO902 := n3_
              have HO905 := n4_
              have HO911 := n5_
              have HO914 := n6_
              have HO917 := n7_
              have HO920 := n8_
              have HO923 := n9_
              have BK886 := n10_
              have BK907 := n11_
              have BK925 := n12_
              have HB := n13_
              clear n0_ n1_ n2_ n3_ n4_ n5_ n6_ n7_ n8_ n9_ n10_ n11_ n12_ n13_
              (try clear hb)
              (try clear hb2)
              (try clear hk)
              (try clear hi)
              refine hK.out _ _ ⟨(blk_cell BK886.out 0).trans rfl, (blk_cell BK886.out 1).trans rfl, (blk_cell BK886.out 2).trans rfl, (blk_cell BK886.out 3).trans rfl, (blk_cell BK886.out 4).trans rfl, (blk_cell BK925.out 0).trans rfl, (blk_cell BK925.out 1).trans rfl, (blk_cell BK925.out 2).trans rfl, (blk_cell BK925.out 3).trans rfl, (blk_cell BK925.out 4).trans rfl, (blk_cell BK907.out 0).trans rfl, (blk_cell BK907.out 1).trans rfl, (blk_cell BK907.out 2).trans rfl, (blk_cell BK907.out 3).trans rfl, (blk_cell BK907.out 4).trans rfl, (blk_cell BK907.out 5).trans rfl⟩ (fun hHeld => ?_)
              clear hK K
              refine norm_ (a' := ?_) ?_ ?_
              rotate_left
              · show Act.put _ (some 37) _ = _
                simp only [Act.put, List.setIfInBounds_toArray, List.set_cons_zero, List.set_cons_succ, i64_w, i32_w]
                rfl
              refine pz 10 38 #[yY,yY,yY,yY,yY,yY,yY,yY,yY,yY,yY,nN,nN,nN,nN,nN,nN,nN,nN,nN,nN,nN,nN,nN] (h := ?_)
              refine pz 11 39 #[yY,yY,yY,yY,yY,yY,yY,yY,yY,yY,yY,yY,nN,nN,nN,nN,nN,nN,nN,nN,nN,nN,nN,nN] (h := ?_)
              refine pz 12 40 #[yY,yY,yY,yY,yY,yY,yY,yY,yY,yY,yY,yY,yY,nN,nN,nN,nN,nN,nN,nN,nN,nN,nN,nN] (h := ?_)
              refine take_ (i := 13) (N := some 41) (v := ?_) (a' := ?_) #[yY,yY,yY,yY,yY,yY,yY,yY,yY,yY,yY,yY,yY,yY,nN,nN,nN,nN,nN,nN,nN,nN,nN,nN] rfl rfl (take_ofW HT_.out HW_.out (by kernel_rfl)) (fun _ _ _ h => h) (Or.inl ⟨by rfl, ?_⟩) hHeld ?_ ?_
              rotate_left
              · rintro w' ⟨s0, s1, s2, s3, s4, s5, s6, s7, s8, s9, s10, s11, s12, s13, s14, s15⟩
                go_simp
                with_reducible rfl
              rotate_left
              · simp only [Act.put, List.setIfInBounds_toArray, List.set_cons_zero, List.set_cons_succ, i64_w, i32_w]
                rfl
              refine one_ (i := 14) (N := some 42) #[yY,yY,yY,yY,yY,yY,yY,yY,yY,yY,yY,yY,yY,yY,yY,nN,nN,nN,nN,nN,nN,nN,nN,nN] rfl rfl (one_of HT_.out (by kernel_rfl)) (by decide) (fun K hK => ?_)
              refine goes_ Try.func18 (by kernel_rfl) rfl #[.agg #[.int .i64 t890, .slice Ao24 t891.length co24, .slice Ao25 t894.length co25, .slice Ao26 t897.length co26, .slice Ao27 t900.length co27, .slice Ao28 t903.length co28]] (by rfl) rfl rfl zq123 ?_
              with_reducible refine (order_Check.calls t890 _ _ t891 _ _ t894 _ _ t897 _ _ t900 _ _ t903 t927 _ ?side1 ?side2 ?side3 ?side4 ?side5 ?side6 ?side7 ?side8 ?side9 ?side10 A42.out).mono ?_
              (case side1 => exact zq101)
              (case side2 => exact (Kd.R_reads' HO893.out).2.1)
              (case side3 => exact zq102)
              (case side4 => exact (Kd.R_reads' HO896.out).2.1)
              (case side5 => exact zq103)
              (case side6 => exact (Kd.R_reads' HO899.out).2.1)
              (case side7 => exact zq104)
              (case side8 => exact (Kd.R_reads' HO902.out).2.1)
              (case side9 => exact zq105)
              (case side10 => exact (Kd.R_reads' HO905.out).2.1)
              rintro e w53 ⟨rfl, hb⟩
              refine ⟨_, rfl, ?_⟩
              have n0_ := Aside0.mk (Kd.R_below zq166 hb)
              have n1_ := Aside0.mk (Kd.R_below zq167 hb)
              have n2_ := Aside0.mk (Kd.R_below zq168 hb)
              have n3_ := Aside0.mk (Kd.R_below zq169 hb)
              have n4_ := Aside0.mk (Kd.R_below zq170 hb)
              have n5_ := Aside0.mk (Kd.R_below zq171 hb)
              have n6_ := Aside0.mk (Kd.R_below zq172 hb)
              have n7_ := Aside0.mk (Kd.R_below zq173 hb)
              have n8_ := Aside0.mk (Kd.R_below zq174 hb)
              have n9_ := Aside0.mk (Kd.R_below zq175 hb)
              have n10_ := Aside0.mk (blk_below (g := gb886) (o := .cells #[.int .i64 a0_0, .slice A0_1 l0_1.length c0_1, .slice A0_2 l0_2.length c0_2, .slice A0_3 l0_3.length c0_3, .slice A0_4 l0_4.length c0_4] 26 (0, 0)) zq136 hb)
              have n11_ := Aside0.mk (blk_below (g := gb907) (o := .cells #[.int .i64 t890, .slice Ao24 t891.length co24, .slice Ao25 t894.length co25, .slice Ao26 t897.length co26, .slice Ao27 t900.length co27, .slice Ao28 t903.length co28] 30 (0, 0)) zq137 hb)
              have n12_ := Aside0.mk (blk_below (g := gb925) (o := .cells #[.int .i64 t908, .slice Ao34 t909.length co34, .slice Ao35 t912.length co35, .slice Ao36 t915.length co36, .slice Ao37 t918.length co37] 26 (0, 0)) zq138 hb)
              have n13_ := Aside0.mk (below_step zq67 hb)
              clear HO893
              clear HO896
              clear HO899
              clear HO902
              clear HO905
              clear HO911
              clear HO914
              clear HO917
              clear HO920
              clear HO923
              clear BK886
              clear BK907
              clear BK925
              clear HB
              have HO893 := n0_
              have HO896 := n1_
              have HO899 := n2_
              have HO902 := n3_
              have HO905 := n4_
              have HO911 := n5_
              have HO914 := n6_
              have HO917 := n7_
              have HO920 := n8_
              have HO923 := n9_
              have BK886 := n10_
              have BK907 := n11_
              have BK925 := n12_
              have HB := n13_
              clear n0_ n1_ n2_ n3_ n4_ n5_ n6_ n7_ n8_ n9_ n10_ n11_ n12_ n13_
              (try clear hb)
              (try clear hb2)
              (try clear hk)
              (try clear hi)
              refine hK.out _ _ ⟨(blk_cell BK886.out 0).trans rfl, (blk_cell BK886.out 1).trans rfl, (blk_cell BK886.out 2).trans rfl, (blk_cell BK886.out 3).trans rfl, (blk_cell BK886.out 4).trans rfl, (blk_cell BK925.out 0).trans rfl, (blk_cell BK925.out 1).trans rfl, (blk_cell BK925.out 2).trans rfl, (blk_cell BK925.out 3).trans rfl, (blk_cell BK925.out 4).trans rfl, (blk_cell BK907.out 0).trans rfl, (blk_cell BK907.out 1).trans rfl, (blk_cell BK907.out 2).trans rfl, (blk_cell BK907.out 3).trans rfl, (blk_cell BK907.out 4).trans rfl, (blk_cell BK907.out 5).trans rfl⟩ (fun hHeld => ?_)
              clear hK K
              refine norm_ (a' := ?_) ?_ ?_
              rotate_left
              · show Act.put _ (some 42) _ = _
                simp only [Act.put, List.setIfInBounds_toArray, List.set_cons_zero, List.set_cons_succ, i64_w, i32_w]
                rfl
              refine pz 15 43 #[yY,yY,yY,yY,yY,yY,yY,yY,yY,yY,yY,yY,yY,yY,yY,yY,nN,nN,nN,nN,nN,nN,nN,nN] (h := ?_)
              refine pz 16 44 #[yY,yY,yY,yY,yY,yY,yY,yY,yY,yY,yY,yY,yY,yY,yY,yY,yY,nN,nN,nN,nN,nN,nN,nN] (h := ?_)
              refine pz 17 45 #[yY,yY,yY,yY,yY,yY,yY,yY,yY,yY,yY,yY,yY,yY,yY,yY,yY,yY,nN,nN,nN,nN,nN,nN] (h := ?_)
              refine pu 18 46 #[yY,yY,yY,yY,yY,yY,yY,yY,yY,yY,yY,yY,yY,yY,yY,yY,yY,yY,yY,nN,nN,nN,nN,nN] (h := ?_)
              refine pu 19 47 #[yY,yY,yY,yY,yY,yY,yY,yY,yY,yY,yY,yY,yY,yY,yY,yY,yY,yY,yY,yY,nN,nN,nN,nN] (h := ?_)
              refine pu 20 48 #[yY,yY,yY,yY,yY,yY,yY,yY,yY,yY,yY,yY,yY,yY,yY,yY,yY,yY,yY,yY,yY,nN,nN,nN] (h := ?_)
              refine pu 21 49 #[yY,yY,yY,yY,yY,yY,yY,yY,yY,yY,yY,yY,yY,yY,yY,yY,yY,yY,yY,yY,yY,yY,nN,nN] (h := ?_)
              refine pu 22 50 #[yY,yY,yY,yY,yY,yY,yY,yY,yY,yY,yY,yY,yY,yY,yY,yY,yY,yY,yY,yY,yY,yY,yY,nN] (h := ?_)
              refine pz 23 51 #[yY,yY,yY,yY,yY,yY,yY,yY,yY,yY,yY,yY,yY,yY,yY,yY,yY,yY,yY,yY,yY,yY,yY,yY] (h := ?_)
              refine done_ (done_of HT_.out (by kernel_rfl)) ?_
              try go_wp2
              go_meet
              case rel => exact ⟨_, (true), zq188, H', ⟨zq186⟩, ⟨zq175⟩, ⟨zq83⟩, ⟨zq167⟩, ⟨zq168⟩, ⟨zq84⟩, ⟨zq85⟩, ⟨zq171⟩, ⟨zq172⟩, ⟨zq86⟩, ⟨zq87⟩, ⟨zq136⟩, ⟨zq137⟩, ⟨zq138⟩, ⟨zq67⟩⟩
          · replace c41 := Bool.eq_false_iff.mpr c41
            subst c41
            have H1 : (l3_OrderSame.j1 kj1 t921 true t890 t891 t894 t897 t900 t903) = some true := by rw [if_neg (show ¬ (false = true) by decide)] at H; exact H
            clear H
            have H := H1
            clear H1
            have H' := Aside0.mk H
            clear H
            try go_wp2
            have n0_ : Aside0 (Kd.R (Kd.int .i64) 3 (((((w30.setCell ⟨gb925, 0, none⟩ (.int .i64 t908)).setCell ⟨gb925, 1, none⟩ (.slice Ao34 t909.length co34)).setCell ⟨gb925, 2, none⟩ (.slice Ao35 t912.length co35)).setCell ⟨gb925, 3, none⟩ (.slice Ao36 t915.length co36)).setCell ⟨gb925, 4, none⟩ (.slice Ao37 t918.length co37)) w.heap.size (fun k_ => some k_ ≠ (.slice Ao27 t900.length co27 : Value).ownBlock ∧ some k_ ≠ (.slice Ao28 t903.length co28 : Value).ownBlock ∧ some k_ ≠ (.slice Ao36 t915.length co36 : Value).ownBlock ∧ some k_ ≠ (.slice Ao37 t918.length co37 : Value).ownBlock ∧ some k_ ≠ (v922 : Value).ownBlock) (.slice Ao24 t891.length co24) t891) := ⟨zq17⟩
            have n1_ : Aside0 (Kd.R k56 56 (((((w30.setCell ⟨gb925, 0, none⟩ (.int .i64 t908)).setCell ⟨gb925, 1, none⟩ (.slice Ao34 t909.length co34)).setCell ⟨gb925, 2, none⟩ (.slice Ao35 t912.length co35)).setCell ⟨gb925, 3, none⟩ (.slice Ao36 t915.length co36)).setCell ⟨gb925, 4, none⟩ (.slice Ao37 t918.length co37)) w.heap.size (fun k_ => some k_ ≠ (.slice Ao26 t897.length co26 : Value).ownBlock) (.slice Ao25 t894.length co25) t894) := ⟨zq23⟩
            have n2_ : Aside0 (Kd.R k56 56 (((((w30.setCell ⟨gb925, 0, none⟩ (.int .i64 t908)).setCell ⟨gb925, 1, none⟩ (.slice Ao34 t909.length co34)).setCell ⟨gb925, 2, none⟩ (.slice Ao35 t912.length co35)).setCell ⟨gb925, 3, none⟩ (.slice Ao36 t915.length co36)).setCell ⟨gb925, 4, none⟩ (.slice Ao37 t918.length co37)) w.heap.size (fun k_ => some k_ ≠ (.slice Ao25 t894.length co25 : Value).ownBlock) (.slice Ao26 t897.length co26) t897) := ⟨zq24⟩
            have n3_ : Aside0 (Kd.R (Kd.int .i64) 3 (((((w30.setCell ⟨gb925, 0, none⟩ (.int .i64 t908)).setCell ⟨gb925, 1, none⟩ (.slice Ao34 t909.length co34)).setCell ⟨gb925, 2, none⟩ (.slice Ao35 t912.length co35)).setCell ⟨gb925, 3, none⟩ (.slice Ao36 t915.length co36)).setCell ⟨gb925, 4, none⟩ (.slice Ao37 t918.length co37)) w.heap.size (fun k_ => some k_ ≠ (.slice Ao24 t891.length co24 : Value).ownBlock ∧ some k_ ≠ (.slice Ao28 t903.length co28 : Value).ownBlock ∧ some k_ ≠ (.slice Ao36 t915.length co36 : Value).ownBlock ∧ some k_ ≠ (.slice Ao37 t918.length co37 : Value).ownBlock ∧ some k_ ≠ (v922 : Value).ownBlock) (.slice Ao27 t900.length co27) t900) := ⟨zq18⟩
            have n4_ : Aside0 (Kd.R (Kd.int .i64) 3 (((((w30.setCell ⟨gb925, 0, none⟩ (.int .i64 t908)).setCell ⟨gb925, 1, none⟩ (.slice Ao34 t909.length co34)).setCell ⟨gb925, 2, none⟩ (.slice Ao35 t912.length co35)).setCell ⟨gb925, 3, none⟩ (.slice Ao36 t915.length co36)).setCell ⟨gb925, 4, none⟩ (.slice Ao37 t918.length co37)) w.heap.size (fun k_ => some k_ ≠ (.slice Ao24 t891.length co24 : Value).ownBlock ∧ some k_ ≠ (.slice Ao27 t900.length co27 : Value).ownBlock ∧ some k_ ≠ (.slice Ao36 t915.length co36 : Value).ownBlock ∧ some k_ ≠ (.slice Ao37 t918.length co37 : Value).ownBlock ∧ some k_ ≠ (v922 : Value).ownBlock) (.slice Ao28 t903.length co28) t903) := ⟨zq19⟩
            have n5_ : Aside0 (Kd.R k61 61 (((((w30.setCell ⟨gb925, 0, none⟩ (.int .i64 t908)).setCell ⟨gb925, 1, none⟩ (.slice Ao34 t909.length co34)).setCell ⟨gb925, 2, none⟩ (.slice Ao35 t912.length co35)).setCell ⟨gb925, 3, none⟩ (.slice Ao36 t915.length co36)).setCell ⟨gb925, 4, none⟩ (.slice Ao37 t918.length co37)) w.heap.size (fun _ => True) (.slice Ao34 t909.length co34) t909) := ⟨zq25⟩
            have n6_ : Aside0 (Kd.R k59 59 (((((w30.setCell ⟨gb925, 0, none⟩ (.int .i64 t908)).setCell ⟨gb925, 1, none⟩ (.slice Ao34 t909.length co34)).setCell ⟨gb925, 2, none⟩ (.slice Ao35 t912.length co35)).setCell ⟨gb925, 3, none⟩ (.slice Ao36 t915.length co36)).setCell ⟨gb925, 4, none⟩ (.slice Ao37 t918.length co37)) w.heap.size (fun _ => True) (.slice Ao35 t912.length co35) t912) := ⟨zq26⟩
            have n7_ : Aside0 (Kd.R (Kd.int .i64) 3 (((((w30.setCell ⟨gb925, 0, none⟩ (.int .i64 t908)).setCell ⟨gb925, 1, none⟩ (.slice Ao34 t909.length co34)).setCell ⟨gb925, 2, none⟩ (.slice Ao35 t912.length co35)).setCell ⟨gb925, 3, none⟩ (.slice Ao36 t915.length co36)).setCell ⟨gb925, 4, none⟩ (.slice Ao37 t918.length co37)) w.heap.size (fun k_ => some k_ ≠ (.slice Ao24 t891.length co24 : Value).ownBlock ∧ some k_ ≠ (.slice Ao27 t900.length co27 : Value).ownBlock ∧ some k_ ≠ (.slice Ao28 t903.length co28 : Value).ownBlock ∧ some k_ ≠ (.slice Ao37 t918.length co37 : Value).ownBlock ∧ some k_ ≠ (v922 : Value).ownBlock) (.slice Ao36 t915.length co36) t915) := ⟨zq20⟩
            have n8_ : Aside0 (Kd.R (Kd.int .i64) 3 (((((w30.setCell ⟨gb925, 0, none⟩ (.int .i64 t908)).setCell ⟨gb925, 1, none⟩ (.slice Ao34 t909.length co34)).setCell ⟨gb925, 2, none⟩ (.slice Ao35 t912.length co35)).setCell ⟨gb925, 3, none⟩ (.slice Ao36 t915.length co36)).setCell ⟨gb925, 4, none⟩ (.slice Ao37 t918.length co37)) w.heap.size (fun k_ => some k_ ≠ (.slice Ao24 t891.length co24 : Value).ownBlock ∧ some k_ ≠ (.slice Ao27 t900.length co27 : Value).ownBlock ∧ some k_ ≠ (.slice Ao28 t903.length co28 : Value).ownBlock ∧ some k_ ≠ (.slice Ao36 t915.length co36 : Value).ownBlock ∧ some k_ ≠ (v922 : Value).ownBlock) (.slice Ao37 t918.length co37) t918) := ⟨zq21⟩
            have n9_ : Aside0 (Kd.R (Kd.int .i64) 3 (((((w30.setCell ⟨gb925, 0, none⟩ (.int .i64 t908)).setCell ⟨gb925, 1, none⟩ (.slice Ao34 t909.length co34)).setCell ⟨gb925, 2, none⟩ (.slice Ao35 t912.length co35)).setCell ⟨gb925, 3, none⟩ (.slice Ao36 t915.length co36)).setCell ⟨gb925, 4, none⟩ (.slice Ao37 t918.length co37)) w.heap.size (fun k_ => some k_ ≠ (.slice Ao24 t891.length co24 : Value).ownBlock ∧ some k_ ≠ (.slice Ao27 t900.length co27 : Value).ownBlock ∧ some k_ ≠ (.slice Ao28 t903.length co28 : Value).ownBlock ∧ some k_ ≠ (.slice Ao36 t915.length co36 : Value).ownBlock ∧ some k_ ≠ (.slice Ao37 t918.length co37 : Value).ownBlock) v922 t921) := ⟨zq22⟩
            have n10_ : Aside0 ((((((w30.setCell ⟨gb925, 0, none⟩ (.int .i64 t908)).setCell ⟨gb925, 1, none⟩ (.slice Ao34 t909.length co34)).setCell ⟨gb925, 2, none⟩ (.slice Ao35 t912.length co35)).setCell ⟨gb925, 3, none⟩ (.slice Ao36 t915.length co36)).setCell ⟨gb925, 4, none⟩ (.slice Ao37 t918.length co37)).heap[gb886]? = some (.cells #[.int .i64 a0_0, .slice A0_1 l0_1.length c0_1, .slice A0_2 l0_2.length c0_2, .slice A0_3 l0_3.length c0_3, .slice A0_4 l0_4.length c0_4] 26 (0, 0))) := ⟨zq7⟩
            have n11_ : Aside0 ((((((w30.setCell ⟨gb925, 0, none⟩ (.int .i64 t908)).setCell ⟨gb925, 1, none⟩ (.slice Ao34 t909.length co34)).setCell ⟨gb925, 2, none⟩ (.slice Ao35 t912.length co35)).setCell ⟨gb925, 3, none⟩ (.slice Ao36 t915.length co36)).setCell ⟨gb925, 4, none⟩ (.slice Ao37 t918.length co37)).heap[gb907]? = some (.cells #[.int .i64 t890, .slice Ao24 t891.length co24, .slice Ao25 t894.length co25, .slice Ao26 t897.length co26, .slice Ao27 t900.length co27, .slice Ao28 t903.length co28] 30 (0, 0))) := ⟨zq8⟩
            have n12_ : Aside0 ((((((w30.setCell ⟨gb925, 0, none⟩ (.int .i64 t908)).setCell ⟨gb925, 1, none⟩ (.slice Ao34 t909.length co34)).setCell ⟨gb925, 2, none⟩ (.slice Ao35 t912.length co35)).setCell ⟨gb925, 3, none⟩ (.slice Ao36 t915.length co36)).setCell ⟨gb925, 4, none⟩ (.slice Ao37 t918.length co37)).heap[gb925]? = some (.cells #[.int .i64 t908, .slice Ao34 t909.length co34, .slice Ao35 t912.length co35, .slice Ao36 t915.length co36, .slice Ao37 t918.length co37] 26 (0, 0))) := ⟨zq0⟩
            have n13_ : Aside0 (Below w.heap.size w (((((w30.setCell ⟨gb925, 0, none⟩ (.int .i64 t908)).setCell ⟨gb925, 1, none⟩ (.slice Ao34 t909.length co34)).setCell ⟨gb925, 2, none⟩ (.slice Ao35 t912.length co35)).setCell ⟨gb925, 3, none⟩ (.slice Ao36 t915.length co36)).setCell ⟨gb925, 4, none⟩ (.slice Ao37 t918.length co37))) := ⟨zq67⟩
            (try clear HO893)
            (try clear HO896)
            (try clear HO899)
            (try clear HO902)
            (try clear HO905)
            (try clear HO911)
            (try clear HO914)
            (try clear HO917)
            (try clear HO920)
            (try clear HO923)
            (try clear BK886)
            (try clear BK907)
            (try clear BK925)
            (try clear HB)
            generalize (((((w30.setCell ⟨gb925, 0, none⟩ (.int .i64 t908)).setCell ⟨gb925, 1, none⟩ (.slice Ao34 t909.length co34)).setCell ⟨gb925, 2, none⟩ (.slice Ao35 t912.length co35)).setCell ⟨gb925, 3, none⟩ (.slice Ao36 t915.length co36)).setCell ⟨gb925, 4, none⟩ (.slice Ao37 t918.length co37)) = w54 at n0_ n1_ n2_ n3_ n4_ n5_ n6_ n7_ n8_ n9_ n10_ n11_ n12_ n13_ ⊢
            have HO893 := n0_
            have HO896 := n1_
            have HO899 := n2_
            have HO902 := n3_
            have HO905 := n4_
            have HO911 := n5_
            have HO914 := n6_
            have HO917 := n7_
            have HO920 := n8_
            have HO923 := n9_
            have BK886 := n10_
            have BK907 := n11_
            have BK925 := n12_
            have HB := n13_
            clear n0_ n1_ n2_ n3_ n4_ n5_ n6_ n7_ n8_ n9_ n10_ n11_ n12_ n13_
            have n0_ := Aside0.mk (Kd.R_drew HO893.out)
            have n1_ := Aside0.mk (Kd.R_drew HO896.out)
            have n2_ := Aside0.mk (Kd.R_drew HO899.out)
            have n3_ := Aside0.mk (Kd.R_drew HO902.out)
            have n4_ := Aside0.mk (Kd.R_drew HO905.out)
            have n5_ := Aside0.mk (Kd.R_drew HO911.out)
            have n6_ := Aside0.mk (Kd.R_drew HO914.out)
            have n7_ := Aside0.mk (Kd.R_drew HO917.out)
            have n8_ := Aside0.mk (Kd.R_drew HO920.out)
            have n9_ := Aside0.mk (Kd.R_drew HO923.out)
            have n10_ := Aside0.mk (blk_drew BK886.out)
            have n11_ := Aside0.mk (blk_drew BK907.out)
            have n12_ := Aside0.mk (blk_drew BK925.out)
            have n13_ := Aside0.mk (below_drew1 HB.out)
            clear HO893
            clear HO896
            clear HO899
            clear HO902
            clear HO905
            clear HO911
            clear HO914
            clear HO917
            clear HO920
            clear HO923
            clear BK886
            clear BK907
            clear BK925
            clear HB
            have HO893 := n0_
            have HO896 := n1_
            have HO899 := n2_
            have HO902 := n3_
            have HO905 := n4_
            have HO911 := n5_
            have HO914 := n6_
            have HO917 := n7_
            have HO920 := n8_
            have HO923 := n9_
            have BK886 := n10_
            have BK907 := n11_
            have BK925 := n12_
            have HB := n13_
            clear n0_ n1_ n2_ n3_ n4_ n5_ n6_ n7_ n8_ n9_ n10_ n11_ n12_ n13_
            refine start_ (n := 24) (S := fun w' => w'.cell? ⟨gb886, 0, none⟩ = some (.int .i64 a0_0) ∧ w'.cell? ⟨gb886, 1, none⟩ = some (.slice A0_1 l0_1.length c0_1) ∧ w'.cell? ⟨gb886, 2, none⟩ = some (.slice A0_2 l0_2.length c0_2) ∧ w'.cell? ⟨gb886, 3, none⟩ = some (.slice A0_3 l0_3.length c0_3) ∧ w'.cell? ⟨gb886, 4, none⟩ = some (.slice A0_4 l0_4.length c0_4) ∧ w'.cell? ⟨gb925, 0, none⟩ = some (.int .i64 t908) ∧ w'.cell? ⟨gb925, 1, none⟩ = some (.slice Ao34 t909.length co34) ∧ w'.cell? ⟨gb925, 2, none⟩ = some (.slice Ao35 t912.length co35) ∧ w'.cell? ⟨gb925, 3, none⟩ = some (.slice Ao36 t915.length co36) ∧ w'.cell? ⟨gb925, 4, none⟩ = some (.slice Ao37 t918.length co37)) (ds := []) #[nN,nN,nN,nN,nN,nN,nN,nN,nN,nN,nN,nN,nN,nN,nN,nN,nN,nN,nN,nN,nN,nN,nN,nN] (by kernel_rfl) rfl rfl ⟨(blk_cell BK886.out 0).trans rfl, (blk_cell BK886.out 1).trans rfl, (blk_cell BK886.out 2).trans rfl, (blk_cell BK886.out 3).trans rfl, (blk_cell BK886.out 4).trans rfl, (blk_cell BK925.out 0).trans rfl, (blk_cell BK925.out 1).trans rfl, (blk_cell BK925.out 2).trans rfl, (blk_cell BK925.out 3).trans rfl, (blk_cell BK925.out 4).trans rfl⟩ (fun hHeld => ?_); refine with_tabW l3_OrderSame.tab5 l3_OrderSame.bits5 (fun HT_ HW_ => ?_)
            generalize w54.drew = w55 at HO893 HO896 HO899 HO902 HO905 HO911 HO914 HO917 HO920 HO923 BK886 BK907 BK925 HB hHeld ⊢
            refine pz 0 28 #[yY,nN,nN,nN,nN,nN,nN,nN,nN,nN,nN,nN,nN,nN,nN,nN,nN,nN,nN,nN,nN,nN,nN,nN] (h := ?_)
            refine pz 1 29 #[yY,yY,nN,nN,nN,nN,nN,nN,nN,nN,nN,nN,nN,nN,nN,nN,nN,nN,nN,nN,nN,nN,nN,nN] (h := ?_)
            refine pz 2 30 #[yY,yY,yY,nN,nN,nN,nN,nN,nN,nN,nN,nN,nN,nN,nN,nN,nN,nN,nN,nN,nN,nN,nN,nN] (h := ?_)
            refine pz 3 31 #[yY,yY,yY,yY,nN,nN,nN,nN,nN,nN,nN,nN,nN,nN,nN,nN,nN,nN,nN,nN,nN,nN,nN,nN] (h := ?_)
            refine pz 4 32 #[yY,yY,yY,yY,yY,nN,nN,nN,nN,nN,nN,nN,nN,nN,nN,nN,nN,nN,nN,nN,nN,nN,nN,nN] (h := ?_)
            refine pz 5 33 #[yY,yY,yY,yY,yY,yY,nN,nN,nN,nN,nN,nN,nN,nN,nN,nN,nN,nN,nN,nN,nN,nN,nN,nN] (h := ?_)
            refine pz 6 34 #[yY,yY,yY,yY,yY,yY,yY,nN,nN,nN,nN,nN,nN,nN,nN,nN,nN,nN,nN,nN,nN,nN,nN,nN] (h := ?_)
            refine take_ (i := 7) (N := some 35) (v := ?_) (a' := ?_) #[yY,yY,yY,yY,yY,yY,yY,yY,nN,nN,nN,nN,nN,nN,nN,nN,nN,nN,nN,nN,nN,nN,nN,nN] rfl rfl (take_ofW HT_.out HW_.out (by kernel_rfl)) (fun _ _ _ h => h) (Or.inl ⟨by rfl, ?_⟩) hHeld ?_ ?_
            rotate_left
            · rintro w' ⟨s0, s1, s2, s3, s4, s5, s6, s7, s8, s9⟩
              go_simp
              with_reducible rfl
            rotate_left
            · simp only [Act.put, List.setIfInBounds_toArray, List.set_cons_zero, List.set_cons_succ, i64_w, i32_w]
              rfl
            refine take_ (i := 8) (N := some 36) (v := ?_) (a' := ?_) #[yY,yY,yY,yY,yY,yY,yY,yY,yY,nN,nN,nN,nN,nN,nN,nN,nN,nN,nN,nN,nN,nN,nN,nN] rfl rfl (take_ofW HT_.out HW_.out (by kernel_rfl)) (fun _ _ _ h => h) (Or.inl ⟨by rfl, ?_⟩) hHeld ?_ ?_
            rotate_left
            · rintro w' ⟨s0, s1, s2, s3, s4, s5, s6, s7, s8, s9⟩
              go_simp
              with_reducible rfl
            rotate_left
            · simp only [Act.put, List.setIfInBounds_toArray, List.set_cons_zero, List.set_cons_succ, i64_w, i32_w]
              rfl
            refine one_ (i := 9) (N := some 37) #[yY,yY,yY,yY,yY,yY,yY,yY,yY,yY,nN,nN,nN,nN,nN,nN,nN,nN,nN,nN,nN,nN,nN,nN] rfl rfl (one_of HT_.out (by kernel_rfl)) (by decide) (fun K hK => ?_)
            refine goes_ Try.func20 (by kernel_rfl) rfl #[.agg #[.int .i64 a0_0, .slice A0_1 l0_1.length c0_1, .slice A0_2 l0_2.length c0_2, .slice A0_3 l0_3.length c0_3, .slice A0_4 l0_4.length c0_4], .agg #[.int .i64 t908, .slice Ao34 t909.length co34, .slice Ao35 t912.length co35, .slice Ao36 t915.length co36, .slice Ao37 t918.length co37]] (by rfl) rfl rfl zq123 ?_
            with_reducible refine (r2_Same.calls kj1 a0_0 _ _ l0_1 _ _ l0_2 _ _ l0_3 _ _ l0_4 t908 _ _ t909 _ _ t912 _ _ t915 _ _ t918 false _ ?side1 ?side2 ?side3 ?side4 ?side5 ?side6 ?side7 ?side8 ?side9 ?side10 ?side11 ?side12 ?side13 ?side14 ?side15 ?side16 A40.out).mono ?_
            (case side1 => exact zq88)
            (case side2 => exact HC0_1.out)
            (case side3 => exact zq89)
            (case side4 => exact HC0_2.out)
            (case side5 => exact zq90)
            (case side6 => exact HC0_3.out)
            (case side7 => exact zq91)
            (case side8 => exact HC0_4.out)
            (case side9 => exact zq106)
            (case side10 => exact (Kd.R_reads' HO911.out).2.1)
            (case side11 => exact zq107)
            (case side12 => exact (Kd.R_reads' HO914.out).2.1)
            (case side13 => exact zq108)
            (case side14 => exact (Kd.R_reads' HO917.out).2.1)
            (case side15 => exact zq109)
            (case side16 => exact (Kd.R_reads' HO920.out).2.1)
            rintro e w56 ⟨rfl, hb⟩
            refine ⟨_, rfl, ?_⟩
            have n0_ := Aside0.mk (Kd.R_below zq166 hb)
            have n1_ := Aside0.mk (Kd.R_below zq167 hb)
            have n2_ := Aside0.mk (Kd.R_below zq168 hb)
            have n3_ := Aside0.mk (Kd.R_below zq169 hb)
            have n4_ := Aside0.mk (Kd.R_below zq170 hb)
            have n5_ := Aside0.mk (Kd.R_below zq171 hb)
            have n6_ := Aside0.mk (Kd.R_below zq172 hb)
            have n7_ := Aside0.mk (Kd.R_below zq173 hb)
            have n8_ := Aside0.mk (Kd.R_below zq174 hb)
            have n9_ := Aside0.mk (Kd.R_below zq175 hb)
            have n10_ := Aside0.mk (blk_below (g := gb886) (o := .cells #[.int .i64 a0_0, .slice A0_1 l0_1.length c0_1, .slice A0_2 l0_2.length c0_2, .slice A0_3 l0_3.length c0_3, .slice A0_4 l0_4.length c0_4] 26 (0, 0)) zq136 hb)
            have n11_ := Aside0.mk (blk_below (g := gb907) (o := .cells #[.int .i64 t890, .slice Ao24 t891.length co24, .slice Ao25 t894.length co25, .slice Ao26 t897.length co26, .slice Ao27 t900.length co27, .slice Ao28 t903.length co28] 30 (0, 0)) zq137 hb)
            have n12_ := Aside0.mk (blk_below (g := gb925) (o := .cells #[.int .i64 t908, .slice Ao34 t909.length co34, .slice Ao35 t912.length co35, .slice Ao36 t915.length co36, .slice Ao37 t918.length co37] 26 (0, 0)) zq138 hb)
            have n13_ := Aside0.mk (below_step zq67 hb)
            clear HO893
            clear HO896
            clear HO899
            clear HO902
            clear HO905
            clear HO911
            clear HO914
            clear HO917
            clear HO920
            clear HO923
            clear BK886
            clear BK907
            clear BK925
            clear HB
            have HO893 := n0_
            have HO896 := n1_
            have HO899 := n2_
            have HO902 := n3_
            have HO905 := n4_
            have HO911 := n5_
            have HO914 := n6_
            have HO917 := n7_
            have HO920 := n8_
            have HO923 := n9_
            have BK886 := n10_
            have BK907 := n11_
            have BK925 := n12_
            have HB := n13_
            clear n0_ n1_ n2_ n3_ n4_ n5_ n6_ n7_ n8_ n9_ n10_ n11_ n12_ n13_
            (try clear hb)
            (try clear hb2)
            (try clear hk)
            (try clear hi)
            refine hK.out _ _ ⟨(blk_cell BK886.out 0).trans rfl, (blk_cell BK886.out 1).trans rfl, (blk_cell BK886.out 2).trans rfl, (blk_cell BK886.out 3).trans rfl, (blk_cell BK886.out 4).trans rfl, (blk_cell BK925.out 0).trans rfl, (blk_cell BK925.out 1).trans rfl, (blk_cell BK925.out 2).trans rfl, (blk_cell BK925.out 3).trans rfl, (blk_cell BK925.out 4).trans rfl⟩ (fun hHeld => ?_)
            clear hK K
            refine norm_ (a' := ?_) ?_ ?_
            rotate_left
            · show Act.put _ (some 37) _ = _
              simp only [Act.put, List.setIfInBounds_toArray, List.set_cons_zero, List.set_cons_succ, i64_w, i32_w]
              rfl
            refine pz 10 38 #[yY,yY,yY,yY,yY,yY,yY,yY,yY,yY,yY,nN,nN,nN,nN,nN,nN,nN,nN,nN,nN,nN,nN,nN] (h := ?_)
            refine pz 11 39 #[yY,yY,yY,yY,yY,yY,yY,yY,yY,yY,yY,yY,nN,nN,nN,nN,nN,nN,nN,nN,nN,nN,nN,nN] (h := ?_)
            refine pz 12 40 #[yY,yY,yY,yY,yY,yY,yY,yY,yY,yY,yY,yY,yY,nN,nN,nN,nN,nN,nN,nN,nN,nN,nN,nN] (h := ?_)
            refine pu 13 41 #[yY,yY,yY,yY,yY,yY,yY,yY,yY,yY,yY,yY,yY,yY,nN,nN,nN,nN,nN,nN,nN,nN,nN,nN] (h := ?_)
            refine pu 14 42 #[yY,yY,yY,yY,yY,yY,yY,yY,yY,yY,yY,yY,yY,yY,yY,nN,nN,nN,nN,nN,nN,nN,nN,nN] (h := ?_)
            refine pu 15 43 #[yY,yY,yY,yY,yY,yY,yY,yY,yY,yY,yY,yY,yY,yY,yY,yY,nN,nN,nN,nN,nN,nN,nN,nN] (h := ?_)
            refine pz 16 44 #[yY,yY,yY,yY,yY,yY,yY,yY,yY,yY,yY,yY,yY,yY,yY,yY,yY,nN,nN,nN,nN,nN,nN,nN] (h := ?_)
            refine pz 17 45 #[yY,yY,yY,yY,yY,yY,yY,yY,yY,yY,yY,yY,yY,yY,yY,yY,yY,yY,nN,nN,nN,nN,nN,nN] (h := ?_)
            refine pu 18 46 #[yY,yY,yY,yY,yY,yY,yY,yY,yY,yY,yY,yY,yY,yY,yY,yY,yY,yY,yY,nN,nN,nN,nN,nN] (h := ?_)
            refine pu 19 47 #[yY,yY,yY,yY,yY,yY,yY,yY,yY,yY,yY,yY,yY,yY,yY,yY,yY,yY,yY,yY,nN,nN,nN,nN] (h := ?_)
            refine pu 20 48 #[yY,yY,yY,yY,yY,yY,yY,yY,yY,yY,yY,yY,yY,yY,yY,yY,yY,yY,yY,yY,yY,nN,nN,nN] (h := ?_)
            refine pu 21 49 #[yY,yY,yY,yY,yY,yY,yY,yY,yY,yY,yY,yY,yY,yY,yY,yY,yY,yY,yY,yY,yY,yY,nN,nN] (h := ?_)
            refine pu 22 50 #[yY,yY,yY,yY,yY,yY,yY,yY,yY,yY,yY,yY,yY,yY,yY,yY,yY,yY,yY,yY,yY,yY,yY,nN] (h := ?_)
            refine pz 23 51 #[yY,yY,yY,yY,yY,yY,yY,yY,yY,yY,yY,yY,yY,yY,yY,yY,yY,yY,yY,yY,yY,yY,yY,yY] (h := ?_)
            refine done_ (done_of HT_.out (by kernel_rfl)) ?_
            try go_wp2
            go_meet
            case rel => exact ⟨_, (true), zq188, H', ⟨zq186⟩, ⟨zq175⟩, ⟨zq83⟩, ⟨zq167⟩, ⟨zq168⟩, ⟨zq84⟩, ⟨zq85⟩, ⟨zq171⟩, ⟨zq172⟩, ⟨zq86⟩, ⟨zq87⟩, ⟨zq136⟩, ⟨zq137⟩, ⟨zq138⟩, ⟨zq67⟩⟩
        · rw [if_neg c39] at H
          have c39b0 : (t924 == 0) = false := beq_eq_false_iff_ne.mpr c39
          have c39b1 : (t924 != 0) = true := bne_iff_ne.mpr c39
          have H' := Aside0.mk H
          clear H
          try go_wp2
          have n0_ : Aside0 (Kd.R (Kd.int .i64) 3 (((((w30.setCell ⟨gb925, 0, none⟩ (.int .i64 t908)).setCell ⟨gb925, 1, none⟩ (.slice Ao34 t909.length co34)).setCell ⟨gb925, 2, none⟩ (.slice Ao35 t912.length co35)).setCell ⟨gb925, 3, none⟩ (.slice Ao36 t915.length co36)).setCell ⟨gb925, 4, none⟩ (.slice Ao37 t918.length co37)) w.heap.size (fun k_ => some k_ ≠ (.slice Ao27 t900.length co27 : Value).ownBlock ∧ some k_ ≠ (.slice Ao28 t903.length co28 : Value).ownBlock ∧ some k_ ≠ (.slice Ao36 t915.length co36 : Value).ownBlock ∧ some k_ ≠ (.slice Ao37 t918.length co37 : Value).ownBlock ∧ some k_ ≠ (v922 : Value).ownBlock) (.slice Ao24 t891.length co24) t891) := ⟨zq17⟩
          have n1_ : Aside0 (Kd.R k56 56 (((((w30.setCell ⟨gb925, 0, none⟩ (.int .i64 t908)).setCell ⟨gb925, 1, none⟩ (.slice Ao34 t909.length co34)).setCell ⟨gb925, 2, none⟩ (.slice Ao35 t912.length co35)).setCell ⟨gb925, 3, none⟩ (.slice Ao36 t915.length co36)).setCell ⟨gb925, 4, none⟩ (.slice Ao37 t918.length co37)) w.heap.size (fun k_ => some k_ ≠ (.slice Ao26 t897.length co26 : Value).ownBlock) (.slice Ao25 t894.length co25) t894) := ⟨zq23⟩
          have n2_ : Aside0 (Kd.R k56 56 (((((w30.setCell ⟨gb925, 0, none⟩ (.int .i64 t908)).setCell ⟨gb925, 1, none⟩ (.slice Ao34 t909.length co34)).setCell ⟨gb925, 2, none⟩ (.slice Ao35 t912.length co35)).setCell ⟨gb925, 3, none⟩ (.slice Ao36 t915.length co36)).setCell ⟨gb925, 4, none⟩ (.slice Ao37 t918.length co37)) w.heap.size (fun k_ => some k_ ≠ (.slice Ao25 t894.length co25 : Value).ownBlock) (.slice Ao26 t897.length co26) t897) := ⟨zq24⟩
          have n3_ : Aside0 (Kd.R (Kd.int .i64) 3 (((((w30.setCell ⟨gb925, 0, none⟩ (.int .i64 t908)).setCell ⟨gb925, 1, none⟩ (.slice Ao34 t909.length co34)).setCell ⟨gb925, 2, none⟩ (.slice Ao35 t912.length co35)).setCell ⟨gb925, 3, none⟩ (.slice Ao36 t915.length co36)).setCell ⟨gb925, 4, none⟩ (.slice Ao37 t918.length co37)) w.heap.size (fun k_ => some k_ ≠ (.slice Ao24 t891.length co24 : Value).ownBlock ∧ some k_ ≠ (.slice Ao28 t903.length co28 : Value).ownBlock ∧ some k_ ≠ (.slice Ao36 t915.length co36 : Value).ownBlock ∧ some k_ ≠ (.slice Ao37 t918.length co37 : Value).ownBlock ∧ some k_ ≠ (v922 : Value).ownBlock) (.slice Ao27 t900.length co27) t900) := ⟨zq18⟩
          have n4_ : Aside0 (Kd.R (Kd.int .i64) 3 (((((w30.setCell ⟨gb925, 0, none⟩ (.int .i64 t908)).setCell ⟨gb925, 1, none⟩ (.slice Ao34 t909.length co34)).setCell ⟨gb925, 2, none⟩ (.slice Ao35 t912.length co35)).setCell ⟨gb925, 3, none⟩ (.slice Ao36 t915.length co36)).setCell ⟨gb925, 4, none⟩ (.slice Ao37 t918.length co37)) w.heap.size (fun k_ => some k_ ≠ (.slice Ao24 t891.length co24 : Value).ownBlock ∧ some k_ ≠ (.slice Ao27 t900.length co27 : Value).ownBlock ∧ some k_ ≠ (.slice Ao36 t915.length co36 : Value).ownBlock ∧ some k_ ≠ (.slice Ao37 t918.length co37 : Value).ownBlock ∧ some k_ ≠ (v922 : Value).ownBlock) (.slice Ao28 t903.length co28) t903) := ⟨zq19⟩
          have n5_ : Aside0 (Kd.R k61 61 (((((w30.setCell ⟨gb925, 0, none⟩ (.int .i64 t908)).setCell ⟨gb925, 1, none⟩ (.slice Ao34 t909.length co34)).setCell ⟨gb925, 2, none⟩ (.slice Ao35 t912.length co35)).setCell ⟨gb925, 3, none⟩ (.slice Ao36 t915.length co36)).setCell ⟨gb925, 4, none⟩ (.slice Ao37 t918.length co37)) w.heap.size (fun _ => True) (.slice Ao34 t909.length co34) t909) := ⟨zq25⟩
          have n6_ : Aside0 (Kd.R k59 59 (((((w30.setCell ⟨gb925, 0, none⟩ (.int .i64 t908)).setCell ⟨gb925, 1, none⟩ (.slice Ao34 t909.length co34)).setCell ⟨gb925, 2, none⟩ (.slice Ao35 t912.length co35)).setCell ⟨gb925, 3, none⟩ (.slice Ao36 t915.length co36)).setCell ⟨gb925, 4, none⟩ (.slice Ao37 t918.length co37)) w.heap.size (fun _ => True) (.slice Ao35 t912.length co35) t912) := ⟨zq26⟩
          have n7_ : Aside0 (Kd.R (Kd.int .i64) 3 (((((w30.setCell ⟨gb925, 0, none⟩ (.int .i64 t908)).setCell ⟨gb925, 1, none⟩ (.slice Ao34 t909.length co34)).setCell ⟨gb925, 2, none⟩ (.slice Ao35 t912.length co35)).setCell ⟨gb925, 3, none⟩ (.slice Ao36 t915.length co36)).setCell ⟨gb925, 4, none⟩ (.slice Ao37 t918.length co37)) w.heap.size (fun k_ => some k_ ≠ (.slice Ao24 t891.length co24 : Value).ownBlock ∧ some k_ ≠ (.slice Ao27 t900.length co27 : Value).ownBlock ∧ some k_ ≠ (.slice Ao28 t903.length co28 : Value).ownBlock ∧ some k_ ≠ (.slice Ao37 t918.length co37 : Value).ownBlock ∧ some k_ ≠ (v922 : Value).ownBlock) (.slice Ao36 t915.length co36) t915) := ⟨zq20⟩
          have n8_ : Aside0 (Kd.R (Kd.int .i64) 3 (((((w30.setCell ⟨gb925, 0, none⟩ (.int .i64 t908)).setCell ⟨gb925, 1, none⟩ (.slice Ao34 t909.length co34)).setCell ⟨gb925, 2, none⟩ (.slice Ao35 t912.length co35)).setCell ⟨gb925, 3, none⟩ (.slice Ao36 t915.length co36)).setCell ⟨gb925, 4, none⟩ (.slice Ao37 t918.length co37)) w.heap.size (fun k_ => some k_ ≠ (.slice Ao24 t891.length co24 : Value).ownBlock ∧ some k_ ≠ (.slice Ao27 t900.length co27 : Value).ownBlock ∧ some k_ ≠ (.slice Ao28 t903.length co28 : Value).ownBlock ∧ some k_ ≠ (.slice Ao36 t915.length co36 : Value).ownBlock ∧ some k_ ≠ (v922 : Value).ownBlock) (.slice Ao37 t918.length co37) t918) := ⟨zq21⟩
          have n9_ : Aside0 (Kd.R (Kd.int .i64) 3 (((((w30.setCell ⟨gb925, 0, none⟩ (.int .i64 t908)).setCell ⟨gb925, 1, none⟩ (.slice Ao34 t909.length co34)).setCell ⟨gb925, 2, none⟩ (.slice Ao35 t912.length co35)).setCell ⟨gb925, 3, none⟩ (.slice Ao36 t915.length co36)).setCell ⟨gb925, 4, none⟩ (.slice Ao37 t918.length co37)) w.heap.size (fun k_ => some k_ ≠ (.slice Ao24 t891.length co24 : Value).ownBlock ∧ some k_ ≠ (.slice Ao27 t900.length co27 : Value).ownBlock ∧ some k_ ≠ (.slice Ao28 t903.length co28 : Value).ownBlock ∧ some k_ ≠ (.slice Ao36 t915.length co36 : Value).ownBlock ∧ some k_ ≠ (.slice Ao37 t918.length co37 : Value).ownBlock) v922 t921) := ⟨zq22⟩
          have n10_ : Aside0 ((((((w30.setCell ⟨gb925, 0, none⟩ (.int .i64 t908)).setCell ⟨gb925, 1, none⟩ (.slice Ao34 t909.length co34)).setCell ⟨gb925, 2, none⟩ (.slice Ao35 t912.length co35)).setCell ⟨gb925, 3, none⟩ (.slice Ao36 t915.length co36)).setCell ⟨gb925, 4, none⟩ (.slice Ao37 t918.length co37)).heap[gb886]? = some (.cells #[.int .i64 a0_0, .slice A0_1 l0_1.length c0_1, .slice A0_2 l0_2.length c0_2, .slice A0_3 l0_3.length c0_3, .slice A0_4 l0_4.length c0_4] 26 (0, 0))) := ⟨zq7⟩
          have n11_ : Aside0 ((((((w30.setCell ⟨gb925, 0, none⟩ (.int .i64 t908)).setCell ⟨gb925, 1, none⟩ (.slice Ao34 t909.length co34)).setCell ⟨gb925, 2, none⟩ (.slice Ao35 t912.length co35)).setCell ⟨gb925, 3, none⟩ (.slice Ao36 t915.length co36)).setCell ⟨gb925, 4, none⟩ (.slice Ao37 t918.length co37)).heap[gb907]? = some (.cells #[.int .i64 t890, .slice Ao24 t891.length co24, .slice Ao25 t894.length co25, .slice Ao26 t897.length co26, .slice Ao27 t900.length co27, .slice Ao28 t903.length co28] 30 (0, 0))) := ⟨zq8⟩
          have n12_ : Aside0 ((((((w30.setCell ⟨gb925, 0, none⟩ (.int .i64 t908)).setCell ⟨gb925, 1, none⟩ (.slice Ao34 t909.length co34)).setCell ⟨gb925, 2, none⟩ (.slice Ao35 t912.length co35)).setCell ⟨gb925, 3, none⟩ (.slice Ao36 t915.length co36)).setCell ⟨gb925, 4, none⟩ (.slice Ao37 t918.length co37)).heap[gb925]? = some (.cells #[.int .i64 t908, .slice Ao34 t909.length co34, .slice Ao35 t912.length co35, .slice Ao36 t915.length co36, .slice Ao37 t918.length co37] 26 (0, 0))) := ⟨zq0⟩
          have n13_ : Aside0 (Below w.heap.size w (((((w30.setCell ⟨gb925, 0, none⟩ (.int .i64 t908)).setCell ⟨gb925, 1, none⟩ (.slice Ao34 t909.length co34)).setCell ⟨gb925, 2, none⟩ (.slice Ao35 t912.length co35)).setCell ⟨gb925, 3, none⟩ (.slice Ao36 t915.length co36)).setCell ⟨gb925, 4, none⟩ (.slice Ao37 t918.length co37))) := ⟨zq67⟩
          (try clear HO893)
          (try clear HO896)
          (try clear HO899)
          (try clear HO902)
          (try clear HO905)
          (try clear HO911)
          (try clear HO914)
          (try clear HO917)
          (try clear HO920)
          (try clear HO923)
          (try clear BK886)
          (try clear BK907)
          (try clear BK925)
          (try clear HB)
          generalize (((((w30.setCell ⟨gb925, 0, none⟩ (.int .i64 t908)).setCell ⟨gb925, 1, none⟩ (.slice Ao34 t909.length co34)).setCell ⟨gb925, 2, none⟩ (.slice Ao35 t912.length co35)).setCell ⟨gb925, 3, none⟩ (.slice Ao36 t915.length co36)).setCell ⟨gb925, 4, none⟩ (.slice Ao37 t918.length co37)) = w57 at n0_ n1_ n2_ n3_ n4_ n5_ n6_ n7_ n8_ n9_ n10_ n11_ n12_ n13_ ⊢
          have HO893 := n0_
          have HO896 := n1_
          have HO899 := n2_
          have HO902 := n3_
          have HO905 := n4_
          have HO911 := n5_
          have HO914 := n6_
          have HO917 := n7_
          have HO920 := n8_
          have HO923 := n9_
          have BK886 := n10_
          have BK907 := n11_
          have BK925 := n12_
          have HB := n13_
          clear n0_ n1_ n2_ n3_ n4_ n5_ n6_ n7_ n8_ n9_ n10_ n11_ n12_ n13_
          have n0_ := Aside0.mk (Kd.R_drew HO893.out)
          have n1_ := Aside0.mk (Kd.R_drew HO896.out)
          have n2_ := Aside0.mk (Kd.R_drew HO899.out)
          have n3_ := Aside0.mk (Kd.R_drew HO902.out)
          have n4_ := Aside0.mk (Kd.R_drew HO905.out)
          have n5_ := Aside0.mk (Kd.R_drew HO911.out)
          have n6_ := Aside0.mk (Kd.R_drew HO914.out)
          have n7_ := Aside0.mk (Kd.R_drew HO917.out)
          have n8_ := Aside0.mk (Kd.R_drew HO920.out)
          have n9_ := Aside0.mk (Kd.R_drew HO923.out)
          have n10_ := Aside0.mk (blk_drew BK886.out)
          have n11_ := Aside0.mk (blk_drew BK907.out)
          have n12_ := Aside0.mk (blk_drew BK925.out)
          have n13_ := Aside0.mk (below_drew1 HB.out)
          clear HO893
          clear HO896
          clear HO899
          clear HO902
          clear HO905
          clear HO911
          clear HO914
          clear HO917
          clear HO920
          clear HO923
          clear BK886
          clear BK907
          clear BK925
          clear HB
          have HO893 := n0_
          have HO896 := n1_
          have HO899 := n2_
          have HO902 := n3_
          have HO905 := n4_
          have HO911 := n5_
          have HO914 := n6_
          have HO917 := n7_
          have HO920 := n8_
          have HO923 := n9_
          have BK886 := n10_
          have BK907 := n11_
          have BK925 := n12_
          have HB := n13_
          clear n0_ n1_ n2_ n3_ n4_ n5_ n6_ n7_ n8_ n9_ n10_ n11_ n12_ n13_
          refine start_ (n := 24) (S := fun w' => True) (ds := []) #[nN,nN,nN,nN,nN,nN,nN,nN,nN,nN,nN,nN,nN,nN,nN,nN,nN,nN,nN,nN,nN,nN,nN,nN] (by kernel_rfl) rfl rfl trivial (fun hHeld => ?_); refine with_tabW l3_OrderSame.tab5 l3_OrderSame.bits5 (fun HT_ HW_ => ?_)
          generalize w57.drew = w58 at HO893 HO896 HO899 HO902 HO905 HO911 HO914 HO917 HO920 HO923 BK886 BK907 BK925 HB hHeld ⊢
          refine pz 0 28 #[yY,nN,nN,nN,nN,nN,nN,nN,nN,nN,nN,nN,nN,nN,nN,nN,nN,nN,nN,nN,nN,nN,nN,nN] (h := ?_)
          refine pz 1 29 #[yY,yY,nN,nN,nN,nN,nN,nN,nN,nN,nN,nN,nN,nN,nN,nN,nN,nN,nN,nN,nN,nN,nN,nN] (h := ?_)
          refine pz 2 30 #[yY,yY,yY,nN,nN,nN,nN,nN,nN,nN,nN,nN,nN,nN,nN,nN,nN,nN,nN,nN,nN,nN,nN,nN] (h := ?_)
          refine pz 3 31 #[yY,yY,yY,yY,nN,nN,nN,nN,nN,nN,nN,nN,nN,nN,nN,nN,nN,nN,nN,nN,nN,nN,nN,nN] (h := ?_)
          refine pz 4 32 #[yY,yY,yY,yY,yY,nN,nN,nN,nN,nN,nN,nN,nN,nN,nN,nN,nN,nN,nN,nN,nN,nN,nN,nN] (h := ?_)
          refine pz 5 33 #[yY,yY,yY,yY,yY,yY,nN,nN,nN,nN,nN,nN,nN,nN,nN,nN,nN,nN,nN,nN,nN,nN,nN,nN] (h := ?_)
          refine pz 6 34 #[yY,yY,yY,yY,yY,yY,yY,nN,nN,nN,nN,nN,nN,nN,nN,nN,nN,nN,nN,nN,nN,nN,nN,nN] (h := ?_)
          refine pu 7 35 #[yY,yY,yY,yY,yY,yY,yY,yY,nN,nN,nN,nN,nN,nN,nN,nN,nN,nN,nN,nN,nN,nN,nN,nN] (h := ?_)
          refine pu 8 36 #[yY,yY,yY,yY,yY,yY,yY,yY,yY,nN,nN,nN,nN,nN,nN,nN,nN,nN,nN,nN,nN,nN,nN,nN] (h := ?_)
          refine pu 9 37 #[yY,yY,yY,yY,yY,yY,yY,yY,yY,yY,nN,nN,nN,nN,nN,nN,nN,nN,nN,nN,nN,nN,nN,nN] (h := ?_)
          refine pu 10 38 #[yY,yY,yY,yY,yY,yY,yY,yY,yY,yY,yY,nN,nN,nN,nN,nN,nN,nN,nN,nN,nN,nN,nN,nN] (h := ?_)
          refine pz 11 39 #[yY,yY,yY,yY,yY,yY,yY,yY,yY,yY,yY,yY,nN,nN,nN,nN,nN,nN,nN,nN,nN,nN,nN,nN] (h := ?_)
          refine pz 12 40 #[yY,yY,yY,yY,yY,yY,yY,yY,yY,yY,yY,yY,yY,nN,nN,nN,nN,nN,nN,nN,nN,nN,nN,nN] (h := ?_)
          refine pu 13 41 #[yY,yY,yY,yY,yY,yY,yY,yY,yY,yY,yY,yY,yY,yY,nN,nN,nN,nN,nN,nN,nN,nN,nN,nN] (h := ?_)
          refine pu 14 42 #[yY,yY,yY,yY,yY,yY,yY,yY,yY,yY,yY,yY,yY,yY,yY,nN,nN,nN,nN,nN,nN,nN,nN,nN] (h := ?_)
          refine pu 15 43 #[yY,yY,yY,yY,yY,yY,yY,yY,yY,yY,yY,yY,yY,yY,yY,yY,nN,nN,nN,nN,nN,nN,nN,nN] (h := ?_)
          refine pz 16 44 #[yY,yY,yY,yY,yY,yY,yY,yY,yY,yY,yY,yY,yY,yY,yY,yY,yY,nN,nN,nN,nN,nN,nN,nN] (h := ?_)
          refine pz 17 45 #[yY,yY,yY,yY,yY,yY,yY,yY,yY,yY,yY,yY,yY,yY,yY,yY,yY,yY,nN,nN,nN,nN,nN,nN] (h := ?_)
          refine pu 18 46 #[yY,yY,yY,yY,yY,yY,yY,yY,yY,yY,yY,yY,yY,yY,yY,yY,yY,yY,yY,nN,nN,nN,nN,nN] (h := ?_)
          refine pu 19 47 #[yY,yY,yY,yY,yY,yY,yY,yY,yY,yY,yY,yY,yY,yY,yY,yY,yY,yY,yY,yY,nN,nN,nN,nN] (h := ?_)
          refine pu 20 48 #[yY,yY,yY,yY,yY,yY,yY,yY,yY,yY,yY,yY,yY,yY,yY,yY,yY,yY,yY,yY,yY,nN,nN,nN] (h := ?_)
          refine pu 21 49 #[yY,yY,yY,yY,yY,yY,yY,yY,yY,yY,yY,yY,yY,yY,yY,yY,yY,yY,yY,yY,yY,yY,nN,nN] (h := ?_)
          refine pu 22 50 #[yY,yY,yY,yY,yY,yY,yY,yY,yY,yY,yY,yY,yY,yY,yY,yY,yY,yY,yY,yY,yY,yY,yY,nN] (h := ?_)
          refine pz 23 51 #[yY,yY,yY,yY,yY,yY,yY,yY,yY,yY,yY,yY,yY,yY,yY,yY,yY,yY,yY,yY,yY,yY,yY,yY] (h := ?_)
          refine done_ (done_of HT_.out (by kernel_rfl)) ?_
          try go_wp2
          go_meet
          case rel => exact ⟨_, (true), zq188, H', ⟨zq186⟩, ⟨zq175⟩, ⟨zq83⟩, ⟨zq167⟩, ⟨zq168⟩, ⟨zq84⟩, ⟨zq85⟩, ⟨zq171⟩, ⟨zq172⟩, ⟨zq86⟩, ⟨zq87⟩, ⟨zq136⟩, ⟨zq137⟩, ⟨zq138⟩, ⟨zq67⟩⟩
      · rw [if_neg c38] at H
        have c38b0 : (t906 == 0) = false := beq_eq_false_iff_ne.mpr c38
        have c38b1 : (t906 != 0) = true := bne_iff_ne.mpr c38
        (first | rw [c38b0] | (simp only [i64_w, i32_w]; rw [c38b0]) | skip)
        have H' := Aside0.mk H
        clear H
        try go_wp2
        have n0_ : Aside0 (Kd.R (Kd.int .i64) 3 (((((w30.setCell ⟨gb925, 0, none⟩ (.int .i64 t908)).setCell ⟨gb925, 1, none⟩ (.slice Ao34 t909.length co34)).setCell ⟨gb925, 2, none⟩ (.slice Ao35 t912.length co35)).setCell ⟨gb925, 3, none⟩ (.slice Ao36 t915.length co36)).setCell ⟨gb925, 4, none⟩ (.slice Ao37 t918.length co37)) w.heap.size (fun k_ => some k_ ≠ (.slice Ao27 t900.length co27 : Value).ownBlock ∧ some k_ ≠ (.slice Ao28 t903.length co28 : Value).ownBlock ∧ some k_ ≠ (.slice Ao36 t915.length co36 : Value).ownBlock ∧ some k_ ≠ (.slice Ao37 t918.length co37 : Value).ownBlock ∧ some k_ ≠ (v922 : Value).ownBlock) (.slice Ao24 t891.length co24) t891) := ⟨zq17⟩
        have n1_ : Aside0 (Kd.R k56 56 (((((w30.setCell ⟨gb925, 0, none⟩ (.int .i64 t908)).setCell ⟨gb925, 1, none⟩ (.slice Ao34 t909.length co34)).setCell ⟨gb925, 2, none⟩ (.slice Ao35 t912.length co35)).setCell ⟨gb925, 3, none⟩ (.slice Ao36 t915.length co36)).setCell ⟨gb925, 4, none⟩ (.slice Ao37 t918.length co37)) w.heap.size (fun k_ => some k_ ≠ (.slice Ao26 t897.length co26 : Value).ownBlock) (.slice Ao25 t894.length co25) t894) := ⟨zq23⟩
        have n2_ : Aside0 (Kd.R k56 56 (((((w30.setCell ⟨gb925, 0, none⟩ (.int .i64 t908)).setCell ⟨gb925, 1, none⟩ (.slice Ao34 t909.length co34)).setCell ⟨gb925, 2, none⟩ (.slice Ao35 t912.length co35)).setCell ⟨gb925, 3, none⟩ (.slice Ao36 t915.length co36)).setCell ⟨gb925, 4, none⟩ (.slice Ao37 t918.length co37)) w.heap.size (fun k_ => some k_ ≠ (.slice Ao25 t894.length co25 : Value).ownBlock) (.slice Ao26 t897.length co26) t897) := ⟨zq24⟩
        have n3_ : Aside0 (Kd.R (Kd.int .i64) 3 (((((w30.setCell ⟨gb925, 0, none⟩ (.int .i64 t908)).setCell ⟨gb925, 1, none⟩ (.slice Ao34 t909.length co34)).setCell ⟨gb925, 2, none⟩ (.slice Ao35 t912.length co35)).setCell ⟨gb925, 3, none⟩ (.slice Ao36 t915.length co36)).setCell ⟨gb925, 4, none⟩ (.slice Ao37 t918.length co37)) w.heap.size (fun k_ => some k_ ≠ (.slice Ao24 t891.length co24 : Value).ownBlock ∧ some k_ ≠ (.slice Ao28 t903.length co28 : Value).ownBlock ∧ some k_ ≠ (.slice Ao36 t915.length co36 : Value).ownBlock ∧ some k_ ≠ (.slice Ao37 t918.length co37 : Value).ownBlock ∧ some k_ ≠ (v922 : Value).ownBlock) (.slice Ao27 t900.length co27) t900) := ⟨zq18⟩
        have n4_ : Aside0 (Kd.R (Kd.int .i64) 3 (((((w30.setCell ⟨gb925, 0, none⟩ (.int .i64 t908)).setCell ⟨gb925, 1, none⟩ (.slice Ao34 t909.length co34)).setCell ⟨gb925, 2, none⟩ (.slice Ao35 t912.length co35)).setCell ⟨gb925, 3, none⟩ (.slice Ao36 t915.length co36)).setCell ⟨gb925, 4, none⟩ (.slice Ao37 t918.length co37)) w.heap.size (fun k_ => some k_ ≠ (.slice Ao24 t891.length co24 : Value).ownBlock ∧ some k_ ≠ (.slice Ao27 t900.length co27 : Value).ownBlock ∧ some k_ ≠ (.slice Ao36 t915.length co36 : Value).ownBlock ∧ some k_ ≠ (.slice Ao37 t918.length co37 : Value).ownBlock ∧ some k_ ≠ (v922 : Value).ownBlock) (.slice Ao28 t903.length co28) t903) := ⟨zq19⟩
        have n5_ : Aside0 (Kd.R k61 61 (((((w30.setCell ⟨gb925, 0, none⟩ (.int .i64 t908)).setCell ⟨gb925, 1, none⟩ (.slice Ao34 t909.length co34)).setCell ⟨gb925, 2, none⟩ (.slice Ao35 t912.length co35)).setCell ⟨gb925, 3, none⟩ (.slice Ao36 t915.length co36)).setCell ⟨gb925, 4, none⟩ (.slice Ao37 t918.length co37)) w.heap.size (fun _ => True) (.slice Ao34 t909.length co34) t909) := ⟨zq25⟩
        have n6_ : Aside0 (Kd.R k59 59 (((((w30.setCell ⟨gb925, 0, none⟩ (.int .i64 t908)).setCell ⟨gb925, 1, none⟩ (.slice Ao34 t909.length co34)).setCell ⟨gb925, 2, none⟩ (.slice Ao35 t912.length co35)).setCell ⟨gb925, 3, none⟩ (.slice Ao36 t915.length co36)).setCell ⟨gb925, 4, none⟩ (.slice Ao37 t918.length co37)) w.heap.size (fun _ => True) (.slice Ao35 t912.length co35) t912) := ⟨zq26⟩
        have n7_ : Aside0 (Kd.R (Kd.int .i64) 3 (((((w30.setCell ⟨gb925, 0, none⟩ (.int .i64 t908)).setCell ⟨gb925, 1, none⟩ (.slice Ao34 t909.length co34)).setCell ⟨gb925, 2, none⟩ (.slice Ao35 t912.length co35)).setCell ⟨gb925, 3, none⟩ (.slice Ao36 t915.length co36)).setCell ⟨gb925, 4, none⟩ (.slice Ao37 t918.length co37)) w.heap.size (fun k_ => some k_ ≠ (.slice Ao24 t891.length co24 : Value).ownBlock ∧ some k_ ≠ (.slice Ao27 t900.length co27 : Value).ownBlock ∧ some k_ ≠ (.slice Ao28 t903.length co28 : Value).ownBlock ∧ some k_ ≠ (.slice Ao37 t918.length co37 : Value).ownBlock ∧ some k_ ≠ (v922 : Value).ownBlock) (.slice Ao36 t915.length co36) t915) := ⟨zq20⟩
        have n8_ : Aside0 (Kd.R (Kd.int .i64) 3 (((((w30.setCell ⟨gb925, 0, none⟩ (.int .i64 t908)).setCell ⟨gb925, 1, none⟩ (.slice Ao34 t909.length co34)).setCell ⟨gb925, 2, none⟩ (.slice Ao35 t912.length co35)).setCell ⟨gb925, 3, none⟩ (.slice Ao36 t915.length co36)).setCell ⟨gb925, 4, none⟩ (.slice Ao37 t918.length co37)) w.heap.size (fun k_ => some k_ ≠ (.slice Ao24 t891.length co24 : Value).ownBlock ∧ some k_ ≠ (.slice Ao27 t900.length co27 : Value).ownBlock ∧ some k_ ≠ (.slice Ao28 t903.length co28 : Value).ownBlock ∧ some k_ ≠ (.slice Ao36 t915.length co36 : Value).ownBlock ∧ some k_ ≠ (v922 : Value).ownBlock) (.slice Ao37 t918.length co37) t918) := ⟨zq21⟩
        have n9_ : Aside0 (Kd.R (Kd.int .i64) 3 (((((w30.setCell ⟨gb925, 0, none⟩ (.int .i64 t908)).setCell ⟨gb925, 1, none⟩ (.slice Ao34 t909.length co34)).setCell ⟨gb925, 2, none⟩ (.slice Ao35 t912.length co35)).setCell ⟨gb925, 3, none⟩ (.slice Ao36 t915.length co36)).setCell ⟨gb925, 4, none⟩ (.slice Ao37 t918.length co37)) w.heap.size (fun k_ => some k_ ≠ (.slice Ao24 t891.length co24 : Value).ownBlock ∧ some k_ ≠ (.slice Ao27 t900.length co27 : Value).ownBlock ∧ some k_ ≠ (.slice Ao28 t903.length co28 : Value).ownBlock ∧ some k_ ≠ (.slice Ao36 t915.length co36 : Value).ownBlock ∧ some k_ ≠ (.slice Ao37 t918.length co37 : Value).ownBlock) v922 t921) := ⟨zq22⟩
        have n10_ : Aside0 ((((((w30.setCell ⟨gb925, 0, none⟩ (.int .i64 t908)).setCell ⟨gb925, 1, none⟩ (.slice Ao34 t909.length co34)).setCell ⟨gb925, 2, none⟩ (.slice Ao35 t912.length co35)).setCell ⟨gb925, 3, none⟩ (.slice Ao36 t915.length co36)).setCell ⟨gb925, 4, none⟩ (.slice Ao37 t918.length co37)).heap[gb886]? = some (.cells #[.int .i64 a0_0, .slice A0_1 l0_1.length c0_1, .slice A0_2 l0_2.length c0_2, .slice A0_3 l0_3.length c0_3, .slice A0_4 l0_4.length c0_4] 26 (0, 0))) := ⟨zq7⟩
        have n11_ : Aside0 ((((((w30.setCell ⟨gb925, 0, none⟩ (.int .i64 t908)).setCell ⟨gb925, 1, none⟩ (.slice Ao34 t909.length co34)).setCell ⟨gb925, 2, none⟩ (.slice Ao35 t912.length co35)).setCell ⟨gb925, 3, none⟩ (.slice Ao36 t915.length co36)).setCell ⟨gb925, 4, none⟩ (.slice Ao37 t918.length co37)).heap[gb907]? = some (.cells #[.int .i64 t890, .slice Ao24 t891.length co24, .slice Ao25 t894.length co25, .slice Ao26 t897.length co26, .slice Ao27 t900.length co27, .slice Ao28 t903.length co28] 30 (0, 0))) := ⟨zq8⟩
        have n12_ : Aside0 ((((((w30.setCell ⟨gb925, 0, none⟩ (.int .i64 t908)).setCell ⟨gb925, 1, none⟩ (.slice Ao34 t909.length co34)).setCell ⟨gb925, 2, none⟩ (.slice Ao35 t912.length co35)).setCell ⟨gb925, 3, none⟩ (.slice Ao36 t915.length co36)).setCell ⟨gb925, 4, none⟩ (.slice Ao37 t918.length co37)).heap[gb925]? = some (.cells #[.int .i64 t908, .slice Ao34 t909.length co34, .slice Ao35 t912.length co35, .slice Ao36 t915.length co36, .slice Ao37 t918.length co37] 26 (0, 0))) := ⟨zq0⟩
        have n13_ : Aside0 (Below w.heap.size w (((((w30.setCell ⟨gb925, 0, none⟩ (.int .i64 t908)).setCell ⟨gb925, 1, none⟩ (.slice Ao34 t909.length co34)).setCell ⟨gb925, 2, none⟩ (.slice Ao35 t912.length co35)).setCell ⟨gb925, 3, none⟩ (.slice Ao36 t915.length co36)).setCell ⟨gb925, 4, none⟩ (.slice Ao37 t918.length co37))) := ⟨zq67⟩
        (try clear HO893)
        (try clear HO896)
        (try clear HO899)
        (try clear HO902)
        (try clear HO905)
        (try clear HO911)
        (try clear HO914)
        (try clear HO917)
        (try clear HO920)
        (try clear HO923)
        (try clear BK886)
        (try clear BK907)
        (try clear BK925)
        (try clear HB)
        generalize (((((w30.setCell ⟨gb925, 0, none⟩ (.int .i64 t908)).setCell ⟨gb925, 1, none⟩ (.slice Ao34 t909.length co34)).setCell ⟨gb925, 2, none⟩ (.slice Ao35 t912.length co35)).setCell ⟨gb925, 3, none⟩ (.slice Ao36 t915.length co36)).setCell ⟨gb925, 4, none⟩ (.slice Ao37 t918.length co37)) = w59 at n0_ n1_ n2_ n3_ n4_ n5_ n6_ n7_ n8_ n9_ n10_ n11_ n12_ n13_ ⊢
        have HO893 := n0_
        have HO896 := n1_
        have HO899 := n2_
        have HO902 := n3_
        have HO905 := n4_
        have HO911 := n5_
        have HO914 := n6_
        have HO917 := n7_
        have HO920 := n8_
        have HO923 := n9_
        have BK886 := n10_
        have BK907 := n11_
        have BK925 := n12_
        have HB := n13_
        clear n0_ n1_ n2_ n3_ n4_ n5_ n6_ n7_ n8_ n9_ n10_ n11_ n12_ n13_
        have n0_ := Aside0.mk (Kd.R_drew HO893.out)
        have n1_ := Aside0.mk (Kd.R_drew HO896.out)
        have n2_ := Aside0.mk (Kd.R_drew HO899.out)
        have n3_ := Aside0.mk (Kd.R_drew HO902.out)
        have n4_ := Aside0.mk (Kd.R_drew HO905.out)
        have n5_ := Aside0.mk (Kd.R_drew HO911.out)
        have n6_ := Aside0.mk (Kd.R_drew HO914.out)
        have n7_ := Aside0.mk (Kd.R_drew HO917.out)
        have n8_ := Aside0.mk (Kd.R_drew HO920.out)
        have n9_ := Aside0.mk (Kd.R_drew HO923.out)
        have n10_ := Aside0.mk (blk_drew BK886.out)
        have n11_ := Aside0.mk (blk_drew BK907.out)
        have n12_ := Aside0.mk (blk_drew BK925.out)
        have n13_ := Aside0.mk (below_drew1 HB.out)
        clear HO893
        clear HO896
        clear HO899
        clear HO902
        clear HO905
        clear HO911
        clear HO914
        clear HO917
        clear HO920
        clear HO923
        clear BK886
        clear BK907
        clear BK925
        clear HB
        have HO893 := n0_
        have HO896 := n1_
        have HO899 := n2_
        have HO902 := n3_
        have HO905 := n4_
        have HO911 := n5_
        have HO914 := n6_
        have HO917 := n7_
        have HO920 := n8_
        have HO923 := n9_
        have BK886 := n10_
        have BK907 := n11_
        have BK925 := n12_
        have HB := n13_
        clear n0_ n1_ n2_ n3_ n4_ n5_ n6_ n7_ n8_ n9_ n10_ n11_ n12_ n13_
        refine start_ (n := 24) (S := fun w' => True) (ds := []) #[nN,nN,nN,nN,nN,nN,nN,nN,nN,nN,nN,nN,nN,nN,nN,nN,nN,nN,nN,nN,nN,nN,nN,nN] (by kernel_rfl) rfl rfl trivial (fun hHeld => ?_); refine with_tabW l3_OrderSame.tab5 l3_OrderSame.bits5 (fun HT_ HW_ => ?_)
        generalize w59.drew = w60 at HO893 HO896 HO899 HO902 HO905 HO911 HO914 HO917 HO920 HO923 BK886 BK907 BK925 HB hHeld ⊢
        refine pz 0 28 #[yY,nN,nN,nN,nN,nN,nN,nN,nN,nN,nN,nN,nN,nN,nN,nN,nN,nN,nN,nN,nN,nN,nN,nN] (h := ?_)
        refine pz 1 29 #[yY,yY,nN,nN,nN,nN,nN,nN,nN,nN,nN,nN,nN,nN,nN,nN,nN,nN,nN,nN,nN,nN,nN,nN] (h := ?_)
        refine pz 2 30 #[yY,yY,yY,nN,nN,nN,nN,nN,nN,nN,nN,nN,nN,nN,nN,nN,nN,nN,nN,nN,nN,nN,nN,nN] (h := ?_)
        refine pu 3 31 #[yY,yY,yY,yY,nN,nN,nN,nN,nN,nN,nN,nN,nN,nN,nN,nN,nN,nN,nN,nN,nN,nN,nN,nN] (h := ?_)
        refine pu 4 32 #[yY,yY,yY,yY,yY,nN,nN,nN,nN,nN,nN,nN,nN,nN,nN,nN,nN,nN,nN,nN,nN,nN,nN,nN] (h := ?_)
        refine pz 5 33 #[yY,yY,yY,yY,yY,yY,nN,nN,nN,nN,nN,nN,nN,nN,nN,nN,nN,nN,nN,nN,nN,nN,nN,nN] (h := ?_)
        refine pz 6 34 #[yY,yY,yY,yY,yY,yY,yY,nN,nN,nN,nN,nN,nN,nN,nN,nN,nN,nN,nN,nN,nN,nN,nN,nN] (h := ?_)
        refine pu 7 35 #[yY,yY,yY,yY,yY,yY,yY,yY,nN,nN,nN,nN,nN,nN,nN,nN,nN,nN,nN,nN,nN,nN,nN,nN] (h := ?_)
        refine pu 8 36 #[yY,yY,yY,yY,yY,yY,yY,yY,yY,nN,nN,nN,nN,nN,nN,nN,nN,nN,nN,nN,nN,nN,nN,nN] (h := ?_)
        refine pu 9 37 #[yY,yY,yY,yY,yY,yY,yY,yY,yY,yY,nN,nN,nN,nN,nN,nN,nN,nN,nN,nN,nN,nN,nN,nN] (h := ?_)
        refine pu 10 38 #[yY,yY,yY,yY,yY,yY,yY,yY,yY,yY,yY,nN,nN,nN,nN,nN,nN,nN,nN,nN,nN,nN,nN,nN] (h := ?_)
        refine pz 11 39 #[yY,yY,yY,yY,yY,yY,yY,yY,yY,yY,yY,yY,nN,nN,nN,nN,nN,nN,nN,nN,nN,nN,nN,nN] (h := ?_)
        refine pz 12 40 #[yY,yY,yY,yY,yY,yY,yY,yY,yY,yY,yY,yY,yY,nN,nN,nN,nN,nN,nN,nN,nN,nN,nN,nN] (h := ?_)
        refine pu 13 41 #[yY,yY,yY,yY,yY,yY,yY,yY,yY,yY,yY,yY,yY,yY,nN,nN,nN,nN,nN,nN,nN,nN,nN,nN] (h := ?_)
        refine pu 14 42 #[yY,yY,yY,yY,yY,yY,yY,yY,yY,yY,yY,yY,yY,yY,yY,nN,nN,nN,nN,nN,nN,nN,nN,nN] (h := ?_)
        refine pu 15 43 #[yY,yY,yY,yY,yY,yY,yY,yY,yY,yY,yY,yY,yY,yY,yY,yY,nN,nN,nN,nN,nN,nN,nN,nN] (h := ?_)
        refine pz 16 44 #[yY,yY,yY,yY,yY,yY,yY,yY,yY,yY,yY,yY,yY,yY,yY,yY,yY,nN,nN,nN,nN,nN,nN,nN] (h := ?_)
        refine pz 17 45 #[yY,yY,yY,yY,yY,yY,yY,yY,yY,yY,yY,yY,yY,yY,yY,yY,yY,yY,nN,nN,nN,nN,nN,nN] (h := ?_)
        refine pu 18 46 #[yY,yY,yY,yY,yY,yY,yY,yY,yY,yY,yY,yY,yY,yY,yY,yY,yY,yY,yY,nN,nN,nN,nN,nN] (h := ?_)
        refine pu 19 47 #[yY,yY,yY,yY,yY,yY,yY,yY,yY,yY,yY,yY,yY,yY,yY,yY,yY,yY,yY,yY,nN,nN,nN,nN] (h := ?_)
        refine pu 20 48 #[yY,yY,yY,yY,yY,yY,yY,yY,yY,yY,yY,yY,yY,yY,yY,yY,yY,yY,yY,yY,yY,nN,nN,nN] (h := ?_)
        refine pu 21 49 #[yY,yY,yY,yY,yY,yY,yY,yY,yY,yY,yY,yY,yY,yY,yY,yY,yY,yY,yY,yY,yY,yY,nN,nN] (h := ?_)
        refine pu 22 50 #[yY,yY,yY,yY,yY,yY,yY,yY,yY,yY,yY,yY,yY,yY,yY,yY,yY,yY,yY,yY,yY,yY,yY,nN] (h := ?_)
        refine pz 23 51 #[yY,yY,yY,yY,yY,yY,yY,yY,yY,yY,yY,yY,yY,yY,yY,yY,yY,yY,yY,yY,yY,yY,yY,yY] (h := ?_)
        refine done_ (done_of HT_.out (by kernel_rfl)) ?_
        try go_wp2
        go_meet
        case rel => exact ⟨_, (true), zq188, H', ⟨zq186⟩, ⟨zq175⟩, ⟨zq83⟩, ⟨zq167⟩, ⟨zq168⟩, ⟨zq84⟩, ⟨zq85⟩, ⟨zq171⟩, ⟨zq172⟩, ⟨zq86⟩, ⟨zq87⟩, ⟨zq136⟩, ⟨zq137⟩, ⟨zq138⟩, ⟨zq67⟩⟩
     case rest =>
      clear HC18
      try clear p2
      try clear c3
      try clear c38
      try clear c38b0
      try clear c38b1
      try clear c39
      try clear c39b0
      try clear c39b1
      obtain ⟨kq, x51_17, rfl, HA, HJ17, HO_6, HO_908001, HO_908002, HO_908003, HO_908004, HO_908005, HO_926001, HO_926002, HO_926003, HO_926004, BK886, BK907, BK925, HB⟩ := hcut
      cases kq with
      | zero => exact absurd HA.out (by simp [l3_OrderSame.j1])
      | succ kj17 =>
       have H := HA.out
       clear HA
       simp only [l3_OrderSame.j1] at H
       by_cases c61 : x51_17 = true
       · subst c61
         have H1 : (some false) = some true := by rw [if_pos rfl] at H; exact H
         clear H
         have H := H1
         clear H1
         cases H
       · replace c61 := Bool.eq_false_iff.mpr c61
         subst c61
         have H1 : (l3_OrderSame.l0 kj17 t921 0 t890 t891 t894 t897 t900 t903) = some true := by rw [if_neg (show ¬ (false = true) by decide)] at H; exact H
         clear H
         have H := H1
         clear H1
         have H' := Aside0.mk H
         clear H
         go_wp2
         go_loopg [8] kj17 (fun kq v8 w' => ∃ (x8_3 : Int), v8 = .int .i64 x8_3 ∧ Aside0 (l3_OrderSame.l0 kq t921 x8_3 t890 t891 t894 t897 t900 t903 = some true) ∧ Aside0 (kq ≤ kj17) ∧ Aside0 (Kd.R (Kd.int .i64) 3 w' w.heap.size (fun k_ => some k_ ≠ ((.slice Ao24 t891.length co24) : Value).ownBlock ∧ some k_ ≠ ((.slice Ao27 t900.length co27) : Value).ownBlock ∧ some k_ ≠ ((.slice Ao28 t903.length co28) : Value).ownBlock ∧ some k_ ≠ ((.slice Ao36 t915.length co36) : Value).ownBlock ∧ some k_ ≠ ((.slice Ao37 t918.length co37) : Value).ownBlock) v922 t921) ∧ Aside0 (Kd.R (Kd.int .i64) 3 w' w.heap.size (fun k_ => some k_ ≠ (v922 : Value).ownBlock ∧ some k_ ≠ ((.slice Ao27 t900.length co27) : Value).ownBlock ∧ some k_ ≠ ((.slice Ao28 t903.length co28) : Value).ownBlock ∧ some k_ ≠ ((.slice Ao36 t915.length co36) : Value).ownBlock ∧ some k_ ≠ ((.slice Ao37 t918.length co37) : Value).ownBlock) (.slice Ao24 t891.length co24) t891) ∧ Aside0 (Kd.R k56 56 w' w.heap.size (fun k_ => some k_ ≠ ((.slice Ao26 t897.length co26) : Value).ownBlock) (.slice Ao25 t894.length co25) t894) ∧ Aside0 (Kd.R k56 56 w' w.heap.size (fun k_ => some k_ ≠ ((.slice Ao25 t894.length co25) : Value).ownBlock) (.slice Ao26 t897.length co26) t897) ∧ Aside0 (Kd.R (Kd.int .i64) 3 w' w.heap.size (fun k_ => some k_ ≠ (v922 : Value).ownBlock ∧ some k_ ≠ ((.slice Ao24 t891.length co24) : Value).ownBlock ∧ some k_ ≠ ((.slice Ao28 t903.length co28) : Value).ownBlock ∧ some k_ ≠ ((.slice Ao36 t915.length co36) : Value).ownBlock ∧ some k_ ≠ ((.slice Ao37 t918.length co37) : Value).ownBlock) (.slice Ao27 t900.length co27) t900) ∧ Aside0 (Kd.R (Kd.int .i64) 3 w' w.heap.size (fun k_ => some k_ ≠ (v922 : Value).ownBlock ∧ some k_ ≠ ((.slice Ao24 t891.length co24) : Value).ownBlock ∧ some k_ ≠ ((.slice Ao27 t900.length co27) : Value).ownBlock ∧ some k_ ≠ ((.slice Ao36 t915.length co36) : Value).ownBlock ∧ some k_ ≠ ((.slice Ao37 t918.length co37) : Value).ownBlock) (.slice Ao28 t903.length co28) t903) ∧ Aside0 (Kd.R k61 61 w' w.heap.size (fun _ => True) (.slice Ao34 t909.length co34) t909) ∧ Aside0 (Kd.R k59 59 w' w.heap.size (fun _ => True) (.slice Ao35 t912.length co35) t912) ∧ Aside0 (Kd.R (Kd.int .i64) 3 w' w.heap.size (fun k_ => some k_ ≠ (v922 : Value).ownBlock ∧ some k_ ≠ ((.slice Ao24 t891.length co24) : Value).ownBlock ∧ some k_ ≠ ((.slice Ao27 t900.length co27) : Value).ownBlock ∧ some k_ ≠ ((.slice Ao28 t903.length co28) : Value).ownBlock ∧ some k_ ≠ ((.slice Ao37 t918.length co37) : Value).ownBlock) (.slice Ao36 t915.length co36) t915) ∧ Aside0 (Kd.R (Kd.int .i64) 3 w' w.heap.size (fun k_ => some k_ ≠ (v922 : Value).ownBlock ∧ some k_ ≠ ((.slice Ao24 t891.length co24) : Value).ownBlock ∧ some k_ ≠ ((.slice Ao27 t900.length co27) : Value).ownBlock ∧ some k_ ≠ ((.slice Ao28 t903.length co28) : Value).ownBlock ∧ some k_ ≠ ((.slice Ao36 t915.length co36) : Value).ownBlock) (.slice Ao37 t918.length co37) t918) ∧ Aside0 (w'.heap[gb886]? = some (.cells #[.int .i64 a0_0, (.slice A0_1 l0_1.length c0_1), (.slice A0_2 l0_2.length c0_2), (.slice A0_3 l0_3.length c0_3), (.slice A0_4 l0_4.length c0_4)] 26 (0, 0))) ∧ Aside0 (w'.heap[gb907]? = some (.cells #[.int .i64 t890, (.slice Ao24 t891.length co24), (.slice Ao25 t894.length co25), (.slice Ao26 t897.length co26), (.slice Ao27 t900.length co27), (.slice Ao28 t903.length co28)] 30 (0, 0))) ∧ Aside0 (w'.heap[gb925]? = some (.cells #[.int .i64 t908, (.slice Ao34 t909.length co34), (.slice Ao35 t912.length co35), (.slice Ao36 t915.length co36), (.slice Ao37 t918.length co37)] 26 (0, 0))) ∧ Aside0 (Below w.heap.size w w'))
         case atStart => exact ⟨(0), zq188, H', ⟨Nat.le_refl _⟩, ⟨zq181⟩, ⟨zq143⟩, ⟨zq144⟩, ⟨zq145⟩, ⟨zq146⟩, ⟨zq147⟩, ⟨zq148⟩, ⟨zq149⟩, ⟨zq150⟩, ⟨zq151⟩, ⟨zq136⟩, ⟨zq137⟩, ⟨zq138⟩, ⟨zq67⟩⟩
         case round =>
          clear H'
          try clear p2
          try clear c3
          try clear c6
          try clear c38
          try clear c38b0
          try clear c38b1
          try clear c39
          try clear c39b0
          try clear c39b1
          try clear c61
          try clear p2
          obtain ⟨x8_3, rfl, HA, HK3, HO_6, HO_908001, HO_908002, HO_908003, HO_908004, HO_908005, HO_926001, HO_926002, HO_926003, HO_926004, BK886, BK907, BK925, HB⟩ := hrel
          cases gk with
          | zero => exact absurd HA.out (by simp [l3_OrderSame.l0])
          | succ k3 =>
           have H := HA.out
           clear HA
           simp only [l3_OrderSame.l0] at H
           by_cases c62 : x8_3 < (t921.length : Int)
           · rw [if_pos c62] at H
             have c62b0 : decide (x8_3 < (t921.length : Int)) = true := decide_eq_true c62
             clear c62
             by_cases c63 : 0 ≤ x8_3
             · rw [if_pos c63] at H
               have c63b0 : decide (0 ≤ x8_3) = true := decide_eq_true c63
               clear c63
               by_cases c64 : (rd t921 x8_3) = x8_3
               · rw [if_pos c64] at H
                 have c64b0 : ((rd t921 x8_3) == x8_3) = true := beq_iff_eq.mpr c64
                 have c64b1 : ((rd t921 x8_3) != x8_3) = false := bne_eq_false_iff_eq.mpr c64
                 clear c64
                 have H' := Aside0.mk H
                 clear H
                 obtain ⟨Ao65, co65, eo65⟩ := Kd.R_slice HO_6.out
                 subst eo65
                 have p929 : 0 ≤ (x8_3 : Int) := of_decide_eq_true zq187
                 have q929 : x8_3 < (t921.length : Int) := of_decide_eq_true zq187
                 obtain ⟨ad929, e929, hx929_0⟩ := Kd.at_int (Kd.R_reads' HO_6.out).2.2 x8_3 p929 q929
                 cases e929
                 replace p929 := eq_true p929
                 replace q929 := eq_true q929
                 go_wp2
                 go_roundg k3
                 case measure => have := HJ1.out; have := HJ17.out; have := HK3.out; omega
                 case rel => exact ⟨(wrap64 (x8_3 + 1)), zq188, H', ⟨by have := HJ1.out; have := HJ17.out; have := HK3.out; omega⟩, ⟨zq181⟩, ⟨zq143⟩, ⟨zq144⟩, ⟨zq145⟩, ⟨zq146⟩, ⟨zq147⟩, ⟨zq148⟩, ⟨zq149⟩, ⟨zq150⟩, ⟨zq151⟩, ⟨zq136⟩, ⟨zq137⟩, ⟨zq138⟩, ⟨zq67⟩⟩
               · rw [if_neg c64] at H
                 have c64b0 : ((rd t921 x8_3) == x8_3) = false := beq_eq_false_iff_ne.mpr c64
                 have c64b1 : ((rd t921 x8_3) != x8_3) = true := bne_iff_ne.mpr c64
                 cases H
             · rw [if_neg c63] at H
               exact absurd H (by simp)
           · rw [if_neg c62] at H
             have c62b0 : decide (x8_3 < (t921.length : Int)) = false := decide_eq_false c62
             clear c62
             by_cases c67 : (t921.length : Int) = (wrap64 (t890 + 1))
             · rw [if_pos c67] at H
               have c67b0 : ((t921.length : Int) == (wrap64 (t890 + 1))) = true := beq_iff_eq.mpr c67
               have c67b1 : ((t921.length : Int) != (wrap64 (t890 + 1))) = false := bne_eq_false_iff_eq.mpr c67
               clear c67
               replace H := Option.bind_eq_some_iff.mp H
               obtain ⟨t930, A680, H⟩ := H
               replace H : (some t930) = some true := H
               have A68 := Aside0.mk A680
               clear A680
               obtain rfl := Option.some.inj H
               obtain ⟨Ao69, co69, eo69⟩ := Kd.R_slice HO_6.out
               subst eo69
               have hnb70 := NB907_886.out
               have hnc70 := NB886_907.out
               have hnb71 := NB907_925.out
               have hnc71 := NB925_907.out
               obtain ⟨b72_0, b72_1, b72_2, b72_3, b72_4, b72_5, d72_0, d72_1, d72_2, d72_3, d72_4, d72_5⟩ := bk6 BK907.out
               go_wp2_with (first | (go_at_call 22; (with_reducible refine (l3_alive.calls k3  true _ A68.out).mono ?_); rintro e w73 ⟨rfl, hb⟩; have n0_ := Aside0.mk (Kd.R_below zq181 hb); have n1_ := Aside0.mk (Kd.R_below zq143 hb); have n2_ := Aside0.mk (Kd.R_below zq144 hb); have n3_ := Aside0.mk (Kd.R_below zq145 hb); have n4_ := Aside0.mk (Kd.R_below zq146 hb); have n5_ := Aside0.mk (Kd.R_below zq147 hb); have n6_ := Aside0.mk (Kd.R_below zq148 hb); have n7_ := Aside0.mk (Kd.R_below zq149 hb); have n8_ := Aside0.mk (Kd.R_below zq150 hb); have n9_ := Aside0.mk (Kd.R_below zq151 hb); have n10_ := Aside0.mk (blk_below (g := gb886) (o := .cells #[.int .i64 a0_0, .slice A0_1 l0_1.length c0_1, .slice A0_2 l0_2.length c0_2, .slice A0_3 l0_3.length c0_3, .slice A0_4 l0_4.length c0_4] 26 (0, 0)) zq136 hb); have n11_ := Aside0.mk (blk_below (g := gb907) (o := .cells #[.int .i64 t890, .slice Ao24 t891.length co24, .slice Ao25 t894.length co25, .slice Ao26 t897.length co26, .slice Ao27 t900.length co27, .slice Ao28 t903.length co28] 30 (0, 0)) zq137 hb); have n12_ := Aside0.mk (blk_below (g := gb925) (o := .cells #[.int .i64 t908, .slice Ao34 t909.length co34, .slice Ao35 t912.length co35, .slice Ao36 t915.length co36, .slice Ao37 t918.length co37] 26 (0, 0)) zq138 hb); have n13_ := Aside0.mk (below_step zq67 hb); clear HO_6; clear HO_908001; clear HO_908002; clear HO_908003; clear HO_908004; clear HO_908005; clear HO_926001; clear HO_926002; clear HO_926003; clear HO_926004; clear BK886; clear BK907; clear BK925; clear HB; have HO_6 := n0_; have HO_908001 := n1_; have HO_908002 := n2_; have HO_908003 := n3_; have HO_908004 := n4_; have HO_908005 := n5_; have HO_926001 := n6_; have HO_926002 := n7_; have HO_926003 := n8_; have HO_926004 := n9_; have BK886 := n10_; have BK907 := n11_; have BK925 := n12_; have HB := n13_; clear n0_ n1_ n2_ n3_ n4_ n5_ n6_ n7_ n8_ n9_ n10_ n11_ n12_ n13_; (try clear hb); (try clear hb2); (try clear hk); (try clear hi)))
               go_ret
               exact ⟨zq183, zq67⟩
             · rw [if_neg c67] at H
               have c67b0 : ((t921.length : Int) == (wrap64 (t890 + 1))) = false := beq_eq_false_iff_ne.mpr c67
               have c67b1 : ((t921.length : Int) != (wrap64 (t890 + 1))) = true := bne_iff_ne.mpr c67
               cases H
end Go.Proofs.Ytpdlkjpemplhoaa.P
namespace Go.Proofs.Ytpdlkjpemplhoaa.P
open Go.RowKit Go.Proofs.YtpdlkjpemplhoaaW.PrintWords Go.Proofs.YtpdlkjpemplhoaaW.PrintLast Go.Proofs.YtpdlkjpemplhoaaW.PrintMore
set_option linter.unusedVariables false
theorem wrap_id {n : Int} (h0 : -9223372036854775808 ≤ n) (h1 : n ≤ 9223372036854775807) : wrap64 n = n := by unfold wrap64; omega
def I64 (x : Int) : Prop := -9223372036854775808 ≤ x ∧ x ≤ 9223372036854775807
theorem i64_wf {x : Int} (h : (Lit.int .i64 x).wf = true) : I64 x := by
  simp [Lit.wf, IntKind.min, IntKind.max, IntKind.bits, IntKind.signed] at h
  unfold I64; omega
theorem rd_drop {b : List Int} {i : Nat} (h : i < b.length) : b.drop i = rd b (i : Int) :: b.drop (i + 1) := by
  rw [List.drop_eq_getElem_cons h]
  simp [rd, h]
theorem rd_mem {b : List Int} {i : Nat} (h : i < b.length) : rd b (i : Int) ∈ b := by
  have : rd b (i : Int) = b[i] := by simp [rd, h]
  rw [this]; exact List.getElem_mem h
theorem rdL_drop {b : List S61} {i : Nat} (h : i < b.length) : b.drop i = rd_T61 b (i : Int) :: b.drop (i + 1) := by
  rw [List.drop_eq_getElem_cons h]
  simp [rd_T61, h]
theorem rdL_mem {b : List S61} {i : Nat} (h : i < b.length) : rd_T61 b (i : Int) ∈ b := by
  have : rd_T61 b (i : Int) = b[i] := by simp [rd_T61, h]
  rw [this]; exact List.getElem_mem h
theorem rdA_drop {b : List S59} {i : Nat} (h : i < b.length) : b.drop i = rd_T59 b (i : Int) :: b.drop (i + 1) := by
  rw [List.drop_eq_getElem_cons h]
  simp [rd_T59, h]
theorem rdA_mem {b : List S59} {i : Nat} (h : i < b.length) : rd_T59 b (i : Int) ∈ b := by
  have : rd_T59 b (i : Int) = b[i] := by simp [rd_T59, h]
  rw [this]; exact List.getElem_mem h
theorem outB_cases {x s : Int} (hx : I64 x) (hs : 0 ≤ s) (hs' : s ≤ 1000000) : outB (s + 1) x = true ↔ (x < 0 ∨ wrap64 (Int.tdiv x 2) > s) := by
  obtain ⟨h0, h1⟩ := hx
  unfold outB
  by_cases c : x < 0
  · simp [c]
  · rw [Int.tdiv_eq_ediv_of_nonneg (by omega), wrap_id (by omega) (by omega)]
    simp [c]
    omega
theorem literals_l0 (l : List Int) (s : Int) (hs : 0 ≤ s) (hs' : s ≤ 1000000) (hl : l.length ≤ 1000000) (hx : ∀ x ∈ l, I64 x) (d : Nat) : ∀ (i k : Nat), l.length - i = d → i ≤ l.length → d < k →
    r2_literals.l0 k l s (i : Int) = some (!(l.drop i).any (outB (s + 1))) := by
  induction d with
  | zero =>
    intro i k hd hi hk
    obtain ⟨k, rfl⟩ : ∃ m, k = m + 1 := ⟨k - 1, by omega⟩
    have e : i = l.length := by omega
    simp only [r2_literals.l0]
    rw [if_neg (by omega), e, List.drop_length]
    rfl
  | succ d ih =>
    intro i k hd hi hk
    obtain ⟨k, rfl⟩ : ∃ m, k = m + 1 := ⟨k - 1, by omega⟩
    have hlt : i < l.length := by omega
    simp only [r2_literals.l0]
    rw [if_pos (by omega), if_pos (by omega), rd_drop hlt, List.any_cons]
    have hm := outB_cases (hx _ (rd_mem hlt)) hs hs'
    generalize rd l (i : Int) = x at hm
    by_cases c : x < 0
    · rw [if_pos c, hm.2 (.inl c)]; rfl
    · rw [if_neg c]
      by_cases c2 : wrap64 (Int.tdiv x 2) > s
      · rw [if_pos c2, hm.2 (.inr c2)]; rfl
      · rw [if_neg c2]
        have hf : outB (s + 1) x = false := by
          cases h : outB (s + 1) x with
          | false => rfl
          | true => exact absurd (hm.1 h) (by rintro (h | h) <;> contradiction)
        have e : wrap64 ((i : Int) + 1) = ((i + 1 : Nat) : Int) := by rw [wrap_id (by omega) (by omega)]; omega
        rw [hf, e, ih (i + 1) k (by omega) (by omega) (by omega)]
        rfl
theorem literals_eq (l : List Int) (s : Int) (hs : 0 ≤ s) (hs' : s ≤ 1000000) (hl : l.length ≤ 1000000) (hx : ∀ x ∈ l, I64 x) (k : Nat) (hk : l.length < k) :
    r2_literals.f k l s = some (!l.any (outB (s + 1))) := by
  unfold r2_literals.f
  have := literals_l0 l s hs hs' hl hx l.length 0 k (by omega) (by omega) hk
  simpa using this
theorem refCheck_l1 (n : Int) (l1 : List S61) (l2 : List S59) (l3 l4 : List Int) (h0 : 0 ≤ n) (h1 : n ≤ 1000) (ha : l1.length ≤ 100000) (hb : l2.length ≤ 100000) (hx : ∀ x ∈ l2, I64 x.f0 ∧ I64 x.f1) (d : Nat) : ∀ (i k : Nat), l2.length - i = d → i ≤ l2.length → d < k →
    r2_Check.l1 k (i : Int) n l1 l2 l3 l4 = some (if andsOk (gAnd n l1.length) i (l2.drop i) then 0 else 8) := by
  have eg : gAnd n l1.length = 1 + n + l1.length := by unfold gAnd gLat; rw [wrap_id (n := 1 + n) (by omega) (by omega), wrap_id (by omega) (by omega)]
  induction d with
  | zero =>
    intro i k hd hi hk
    obtain ⟨k, rfl⟩ : ∃ m, k = m + 1 := ⟨k - 1, by omega⟩
    simp only [r2_Check.l1]
    rw [if_neg (by omega), ands_end _ _ _ (by omega)]
    rfl
  | succ d ih =>
    intro i k hd hi hk
    obtain ⟨k, rfl⟩ : ∃ m, k = m + 1 := ⟨k - 1, by omega⟩
    have hlt : i < l2.length := by omega
    simp only [r2_Check.l1]
    rw [if_pos (by omega), if_pos (by omega), ands_at _ _ _ hlt]
    have hm := hx _ (rdA_mem hlt)
    generalize rd_T59 l2 (i : Int) = x at hm
    obtain ⟨x0, x1⟩ := x
    obtain ⟨⟨p0, p1⟩, q0, q1⟩ := hm
    simp only at p0 p1 q0 q1
    have hw : wrap64 (wrap64 (n + (l1.length : Int)) + (i : Int)) = n + l1.length + i := by rw [wrap_id (n := n + l1.length) (by omega) (by omega), wrap_id (by omega) (by omega)]
    have hw2 : wrap64 (2 * wrap64 (gAnd n l1.length + (i : Int))) = 2 * (1 + n + l1.length + i) := by
      rw [eg, wrap_id (n := 1 + n + l1.length + i) (by omega) (by omega), wrap_id (by omega) (by omega)]
    have e : wrap64 ((i : Int) + 1) = ((i + 1 : Nat) : Int) := by rw [wrap_id (by omega) (by omega)]; omega
    rw [hw, e]
    unfold gBad
    rw [hw2]
    clear hw hw2 e
    simp only
    by_cases c : x1 < 0
    · rw [if_pos c, decide_eq_true c]; rfl
    · rw [if_neg c, decide_eq_false c]
      by_cases c2 : x0 < x1
      · rw [if_pos c2, decide_eq_true c2]; rfl
      · rw [if_neg c2, decide_eq_false c2]
        have ed : wrap64 (Int.tdiv x0 2) = x0 / 2 := by rw [Int.tdiv_eq_ediv_of_nonneg (by omega), wrap_id (n := x0 / 2) (by omega) (by omega)]
        rw [ed]
        clear ed
        by_cases c3 : x0 / 2 > n + l1.length + i
        · rw [if_pos c3, decide_eq_true (show 2 * (1 + n + (l1.length : Int) + i) ≤ x0 by omega)]; rfl
        · rw [if_neg c3, decide_eq_false (show ¬ 2 * (1 + n + (l1.length : Int) + i) ≤ x0 by omega), ih (i + 1) k (by omega) (by omega) (by omega)]
          rfl
theorem refCheck_l0 (n s : Int) (l1 : List S61) (l2 : List S59) (l3 l4 : List Int) (h0 : 0 ≤ n) (h1 : n ≤ 1000) (hs : 0 ≤ s) (hs' : s ≤ 1000000) (ha : l1.length ≤ 100000) (hb : l2.length ≤ 100000) (hy : ∀ x ∈ l1, I64 x.f0) (hx : ∀ x ∈ l2, I64 x.f0 ∧ I64 x.f1) (d : Nat) : ∀ (i k : Nat), l1.length - i = d → i ≤ l1.length → d + l2.length + 2 < k →
    r2_Check.l0 k s (i : Int) n l1 l2 l3 l4 = some (if (l1.drop i).any (wrongB (s + 1)) then 8 else if andsOk (gAnd n l1.length) 0 l2 then 0 else 8) := by
  induction d with
  | zero =>
    intro i k hd hi hk
    obtain ⟨k, rfl⟩ : ∃ m, k = m + 1 := ⟨k - 1, by omega⟩
    have e : i = l1.length := by omega
    simp only [r2_Check.l0]
    rw [if_neg (by omega), e, List.drop_length]
    have := refCheck_l1 n l1 l2 l3 l4 h0 h1 ha hb hx l2.length 0 k (by omega) (by omega) (by omega)
    simpa using this
  | succ d ih =>
    intro i k hd hi hk
    obtain ⟨k, rfl⟩ : ∃ m, k = m + 1 := ⟨k - 1, by omega⟩
    have hlt : i < l1.length := by omega
    simp only [r2_Check.l0]
    rw [if_pos (by omega), if_pos (by omega), rdL_drop hlt, List.any_cons]
    have hm := hy _ (rdL_mem hlt)
    generalize rd_T61 l1 (i : Int) = x at hm
    obtain ⟨x0, x1⟩ := x
    simp only at hm
    have e : wrap64 ((i : Int) + 1) = ((i + 1 : Nat) : Int) := by rw [wrap_id (by omega) (by omega)]; omega
    rw [e]
    clear e
    rw [literals_eq [x0] s hs hs' (by simp) (by intro y hy; simp at hy; rw [hy]; exact hm) k (by simp; omega)]
    have ew : wrongB (s + 1) ⟨x0, x1⟩ = (outB (s + 1) x0 || decide (x1 < 0) || decide (2 < x1)) := rfl
    rw [ew]
    clear ew
    simp only [List.any_cons, List.any_nil, Bool.or_false, Option.bind_some]
    cases c : outB (s + 1) x0 with
    | true => rfl
    | false =>
      simp only [Bool.not_false, Bool.false_or]
      rw [if_pos trivial]
      by_cases c1 : x1 < 0
      · rw [if_pos c1, decide_eq_true c1]; rfl
      · rw [if_neg c1, decide_eq_false c1]
        by_cases c2 : x1 > 2
        · rw [if_pos c2, decide_eq_true (show 2 < x1 from c2)]; rfl
        · rw [if_neg c2, decide_eq_false (show ¬ 2 < x1 from c2), ih (i + 1) k (by omega) (by omega) (by omega)]
          rfl
theorem refCheck_eq (n : Int) (l1 : List S61) (l2 : List S59) (l3 l4 : List Int) (hn : I64 n) (ha : l1.length ≤ 1000) (hb : l2.length ≤ 1000) (hc : l3.length ≤ 1000) (hd : l4.length ≤ 1000) (hy : ∀ x ∈ l1, I64 x.f0) (hx : ∀ x ∈ l2, I64 x.f0 ∧ I64 x.f1) (h3 : ∀ x ∈ l3, I64 x) (h4 : ∀ x ∈ l4, I64 x) (k : Nat) (hk : 5000 < k) :
    r2_Check.f k n l1 l2 l3 l4 = some (checkS n l1 l2 l3 l4) := by
  obtain ⟨k, rfl⟩ : ∃ m, k = m + 1 + 1 := ⟨k - 2, by omega⟩
  have hj : r2_Check.j0 (k + 1 + 1) true n l1 l2 l3 l4 = some 4 := by
    simp only [r2_Check.j0]; rw [if_pos trivial]
  unfold r2_Check.f checkS
  by_cases c1 : n < 0
  · rw [if_pos c1, if_pos c1]
  · rw [if_neg c1, if_neg c1]
    by_cases c2 : n > 1000
    · rw [if_pos c2, if_pos (show 1000 < n from c2)]; exact hj
    · have eg : gEnd n l1.length l2.length = (n + l1.length + l2.length) + 1 := by
        unfold gEnd gAnd gLat
        rw [wrap_id (n := 1 + n) (by omega) (by omega), wrap_id (n := 1 + n + l1.length) (by omega) (by omega), wrap_id (by omega) (by omega)]; omega
      have es : r2_Size.f n l1 l2 l3 l4 = some (n + l1.length + l2.length) := by
        unfold r2_Size.f
        rw [wrap_id (n := n + l1.length) (by omega) (by omega), wrap_id (by omega) (by omega)]
      have e1 : wrap64 (n + (l1.length : Int) + (l2.length : Int) + 1 - 1) = n + l1.length + l2.length := by rw [wrap_id (by omega) (by omega)]; omega
      rw [if_neg c2, if_neg (show ¬ 1000 < n from c2), eg, e1, es]
      clear e1 eg
      simp only [Option.bind_some]
      by_cases c3 : n + (l1.length : Int) + (l2.length : Int) > 1000
      · rw [if_pos c3, if_pos (show 1000 < n + (l1.length : Int) + (l2.length : Int) from c3)]; exact hj
      · rw [if_neg c3, if_neg (show ¬ 1000 < n + (l1.length : Int) + (l2.length : Int) from c3)]
        by_cases c4 : (l3.length : Int) > 100
        · rw [if_pos c4, if_pos (show 100 < mx (l3.length : Int) (l4.length : Int) by unfold mx; split <;> omega)]; exact hj
        · rw [if_neg c4]
          by_cases c5 : (l4.length : Int) > 100
          · rw [decide_eq_true c5, if_pos (show 100 < mx (l3.length : Int) (l4.length : Int) by unfold mx; split <;> omega)]; exact hj
          · rw [decide_eq_false c5, if_neg (show ¬ 100 < mx (l3.length : Int) (l4.length : Int) by unfold mx; split <;> omega)]
            simp only [r2_Check.j0]
            rw [if_neg Bool.false_ne_true, es]
            simp only [Option.bind_some]
            have hs0 : 0 ≤ n + (l1.length : Int) + (l2.length : Int) := by omega
            have hs1 : n + (l1.length : Int) + (l2.length : Int) ≤ 1000000 := by omega
            have hL := refCheck_l0 n _ l1 l2 l3 l4 (by omega) (by omega) hs0 hs1 (by omega) (by omega) hy hx l1.length 0 k (by omega) (by omega) (by omega)
            rw [literals_eq l3 _ hs0 hs1 (by omega) h3 (k + 1) (by omega), literals_eq l4 _ hs0 hs1 (by omega) h4 (k + 1) (by omega)]
            simp only [Option.bind_some]
            clear hj es
            generalize n + (l1.length : Int) + (l2.length : Int) = s at hL
            cases o3 : l3.any (outB (s + 1)) with
            | true => simp [r2_Check.j1]
            | false =>
              cases o4 : l4.any (outB (s + 1)) with
              | true => simp [r2_Check.j1]
              | false =>
                simp only [r2_Check.j1, Bool.not_false, Bool.not_true, if_true, Bool.false_eq_true, if_false]
                simpa using hL
end Go.Proofs.Ytpdlkjpemplhoaa.P
namespace Go.Proofs.Ytpdlkjpemplhoaa.P
open Go.RowKit Go.Proofs.YtpdlkjpemplhoaaW.PrintWords Go.Proofs.YtpdlkjpemplhoaaW.PrintLast Go.Proofs.YtpdlkjpemplhoaaW.PrintMore
set_option linter.unusedVariables false
set_option linter.unusedSimpArgs false
structure Val (n : Int) (l1 : List S61) (l2 : List S59) (l3 l4 : List Int) : Prop where
  n0 : 0 ≤ n
  len : n + l1.length + l2.length ≤ 1000
  b3 : l3.length ≤ 100
  b4 : l4.length ≤ 100
  u3 : ∀ x ∈ l3, 0 ≤ x ∧ x ≤ 2 * (n + l1.length + l2.length) + 1
  u4 : ∀ x ∈ l4, 0 ≤ x ∧ x ≤ 2 * (n + l1.length + l2.length) + 1
  u1 : ∀ d ∈ l1, (0 ≤ d.f0 ∧ d.f0 ≤ 2 * (n + l1.length + l2.length) + 1) ∧ 0 ≤ d.f1 ∧ d.f1 ≤ 2
  u2 : ∀ (i : Nat) (h : i < l2.length), 0 ≤ l2[i].f1 ∧ l2[i].f1 ≤ l2[i].f0 ∧ l2[i].f0 < 2 * (1 + n + l1.length + i)
theorem andsOk_iff (b : Int) (l : List S59) : ∀ i : Nat, andsOk b i l = true ↔ ∀ (j : Nat) (h : j < l.length), gBad b (i + j) l[j] = false := by
  induction l with
  | nil => intro i; exact ⟨fun _ j h => absurd h (Nat.not_lt_zero j), fun _ => rfl⟩
  | cons g r ih =>
    intro i
    simp only [andsOk, Bool.and_eq_true, Bool.not_eq_true', ih]
    constructor
    · rintro ⟨a, c⟩ j h
      cases j with
      | zero => exact a
      | succ j =>
        have := c j (by simpa using h)
        rw [show i + (j + 1) = i + 1 + j by omega]; exact this
    · intro h
      refine ⟨h 0 (by simp), fun j hj => ?_⟩
      have := h (j + 1) (by simpa using hj)
      rw [show i + (j + 1) = i + 1 + j by omega] at this; exact this
theorem outB_iff (s x : Int) : outB (s + 1) x = false ↔ 0 ≤ x ∧ x ≤ 2 * s + 1 := by
  unfold outB
  rw [Bool.or_eq_false_iff, decide_eq_false_iff_not, decide_eq_false_iff_not]
  omega
theorem any_false {α : Type} (l : List α) (f : α → Bool) : l.any f = false ↔ ∀ x ∈ l, f x = false := by
  rw [← Bool.not_eq_true, List.any_eq_true]
  constructor
  · intro h x hx; exact Bool.eq_false_iff.2 (fun c => h ⟨x, hx, c⟩)
  · rintro h ⟨x, hx, c⟩; rw [h x hx] at c; cases c
theorem val_iff (n : Int) (l1 : List S61) (l2 : List S59) (l3 l4 : List Int) (h1 : l1.length ≤ 2000) (h2 : l2.length ≤ 2000) (h3 : l3.length ≤ 2000) (h4 : l4.length ≤ 2000) : checkS n l1 l2 l3 l4 = 0 ↔ Val n l1 l2 l3 l4 := by
  unfold checkS
  by_cases c0 : n < 0
  · rw [if_pos c0]
    exact ⟨fun h => absurd h (by decide), fun h => absurd h.n0 (by omega)⟩
  rw [if_neg c0]
  by_cases c1 : 1000 < n
  · rw [if_pos c1]
    exact ⟨fun h => absurd h (by decide), fun h => absurd h.len (by omega)⟩
  rw [if_neg c1]
  have eA : gAnd n l1.length = 1 + n + l1.length := by
    unfold gAnd gLat
    rw [wrap_id (n := 1 + n) (by omega) (by omega), wrap_id (by omega) (by omega)]
  have eE : gEnd n l1.length l2.length = (n + l1.length + l2.length) + 1 := by
    unfold gEnd
    rw [eA, wrap_id (by omega) (by omega)]; omega
  rw [eE, eA, wrap_id (n := n + l1.length + l2.length + 1 - 1) (by omega) (by omega)]
  by_cases c2 : 1000 < n + (l1.length : Int) + l2.length + 1 - 1
  · rw [if_pos c2]
    exact ⟨fun h => absurd h (by decide), fun h => absurd h.len (by omega)⟩
  rw [if_neg c2]
  by_cases c3 : 100 < mx (l3.length : Int) (l4.length : Int)
  · rw [if_pos c3]
    refine ⟨fun h => absurd h (by decide), fun h => ?_⟩
    have a := h.b3
    have b := h.b4
    unfold mx at c3
    split at c3 <;> omega
  rw [if_neg c3]
  have b3 : l3.length ≤ 100 ∧ l4.length ≤ 100 := by
    unfold mx at c3
    split at c3 <;> omega
  clear c3
  by_cases d1 : l3.any (outB (n + l1.length + l2.length + 1)) = true
  · rw [if_pos d1]
    refine ⟨fun h => absurd h (by decide), fun h => ?_⟩
    rw [(any_false _ _).2 (fun x hx => (outB_iff _ _).2 (h.u3 x hx))] at d1; cases d1
  rw [if_neg d1]
  by_cases d2 : l4.any (outB (n + l1.length + l2.length + 1)) = true
  · rw [if_pos d2]
    refine ⟨fun h => absurd h (by decide), fun h => ?_⟩
    rw [(any_false _ _).2 (fun x hx => (outB_iff _ _).2 (h.u4 x hx))] at d2; cases d2
  rw [if_neg d2]
  have hw : ∀ d : S61, wrongB (n + l1.length + l2.length + 1) d = false ↔ (0 ≤ d.f0 ∧ d.f0 ≤ 2 * (n + l1.length + l2.length) + 1) ∧ 0 ≤ d.f1 ∧ d.f1 ≤ 2 := fun d => by
    unfold wrongB
    rw [Bool.or_eq_false_iff, Bool.or_eq_false_iff, outB_iff, decide_eq_false_iff_not, decide_eq_false_iff_not]
    omega
  by_cases d3 : l1.any (wrongB (n + l1.length + l2.length + 1)) = true
  · rw [if_pos d3]
    refine ⟨fun h => absurd h (by decide), fun h => ?_⟩
    rw [(any_false _ _).2 (fun x hx => (hw x).2 (h.u1 x hx))] at d3; cases d3
  rw [if_neg d3]
  have hg : ∀ (j : Nat) (h : j < l2.length), gBad (1 + n + l1.length) (0 + j) l2[j] = false ↔ 0 ≤ l2[j].f1 ∧ l2[j].f1 ≤ l2[j].f0 ∧ l2[j].f0 < 2 * (1 + n + l1.length + j) := fun j h => by
    unfold gBad
    rw [Nat.zero_add, wrap_id (n := 1 + n + (l1.length : Int) + (j : Int)) (by omega) (by omega), wrap_id (by omega) (by omega), Bool.or_eq_false_iff, Bool.or_eq_false_iff, decide_eq_false_iff_not, decide_eq_false_iff_not, decide_eq_false_iff_not]
    omega
  by_cases d4 : andsOk (1 + n + l1.length) 0 l2 = true
  · rw [if_pos d4]
    exact ⟨fun _ => ⟨by omega, by omega, b3.1, b3.2, fun x hx => (outB_iff _ _).1 ((any_false _ _).1 (Bool.eq_false_iff.2 d1) x hx), fun x hx => (outB_iff _ _).1 ((any_false _ _).1 (Bool.eq_false_iff.2 d2) x hx), fun x hx => (hw x).1 ((any_false _ _).1 (Bool.eq_false_iff.2 d3) x hx), fun j h => (hg j h).1 ((andsOk_iff _ _ _).1 d4 j h)⟩, fun _ => rfl⟩
  · rw [if_neg d4]
    refine ⟨fun h => absurd h (by decide), fun h => ?_⟩
    exact absurd ((andsOk_iff _ _ _).2 (fun j hj => (hg j hj).2 (h.u2 j hj))) d4
end Go.Proofs.Ytpdlkjpemplhoaa.P
namespace Go.Proofs.Ytpdlkjpemplhoaa.P
open Go.RowKit Go.Proofs.YtpdlkjpemplhoaaW.PrintWords Go.Proofs.YtpdlkjpemplhoaaW.PrintLast Go.Proofs.YtpdlkjpemplhoaaW.PrintMore
attribute [local go_sem] max2_int min2_int max_two min_two max_three min_three max_four min_four
set_option linter.unusedVariables false
set_option linter.unusedSimpArgs false
mutual
def r3_Of.l0 : Nat → Int → Int → Int → List (S61) → List (S59) → List Int → List Int → Int → List Int → Option (Int × List Int × (List (S56)) × (List (S56)) × List Int × List Int)
 | 0, _, _, _, _, _, _, _, _, _ => none
 | k + 1, x4, x5, x144000, x144001, x144002, x144003, x144004, x147000, x147001 => if x5 < x144000 then (if x147001.length < 17592186044416 then (r3_Of.l0 k (wrap64 (x4 + 1)) (wrap64 (x5 + 1)) x144000 x144001 x144002 x144003 x144004 x147000 (x147001 ++ [wrap64 (2 * x4)])) else (none)) else (r3_Of.l1 k x4 0 x144000 x144001 x144002 x144003 x144004 x147000 x147001 ([] : List (S56)))
def r3_Of.l1 : Nat → Int → Int → Int → List (S61) → List (S59) → List Int → List Int → Int → List Int → List (S56) → Option (Int × List Int × (List (S56)) × (List (S56)) × List Int × List Int)
 | 0, _, _, _, _, _, _, _, _, _, _ => none
 | k + 1, x4, x6, x144000, x144001, x144002, x144003, x144004, x147000, x147001, x147002 => if x6 < (x144001.length : Int) then (if 0 ≤ x6 then (if x147002.length < 5864062014805 then (r3_Of.l1 k (wrap64 (x4 + 1)) (wrap64 (x6 + 1)) x144000 x144001 x144002 x144003 x144004 x147000 x147001 (x147002 ++ [(⟨wrap64 (2 * x4), (rd_T61 x144001 x6).f0, (rd_T61 x144001 x6).f1⟩ : S56)])) else (none)) else (none)) else (r3_Of.l2 k x4 0 x144000 x144001 x144002 x144003 x144004 x147000 x147001 x147002 ([] : List (S56)))
def r3_Of.l2 : Nat → Int → Int → Int → List (S61) → List (S59) → List Int → List Int → Int → List Int → List (S56) → List (S56) → Option (Int × List Int × (List (S56)) × (List (S56)) × List Int × List Int)
 | 0, _, _, _, _, _, _, _, _, _, _, _ => none
 | k + 1, x4, x7, x144000, x144001, x144002, x144003, x144004, x147000, x147001, x147002, x147003 => if x7 < (x144002.length : Int) then (if 0 ≤ x7 then (if x147003.length < 5864062014805 then (r3_Of.l2 k (wrap64 (x4 + 1)) (wrap64 (x7 + 1)) x144000 x144001 x144002 x144003 x144004 x147000 x147001 x147002 (x147003 ++ [(⟨wrap64 (2 * x4), (rd_T59 x144002 x7).f0, (rd_T59 x144002 x7).f1⟩ : S56)])) else (none)) else (none)) else ((some (([] : List Int) : List Int)).bind fun y160 => (if y160.length + x144003.length < 17592186044416 then ((some (([] : List Int) : List Int)).bind fun y166 => (if y166.length + x144004.length < 17592186044416 then (some (x147000, x147001, x147002, x147003, (y160 ++ x144003), (y166 ++ x144004))) else (none))) else (none)))
end
end Go.Proofs.Ytpdlkjpemplhoaa.P
namespace Go.Proofs.Ytpdlkjpemplhoaa.P
open Go.RowKit Go.Proofs.YtpdlkjpemplhoaaW.PrintWords Go.Proofs.YtpdlkjpemplhoaaW.PrintLast Go.Proofs.YtpdlkjpemplhoaaW.PrintMore
attribute [local go_sem] max2_int min2_int max_two min_two max_three min_three max_four min_four
set_option linter.unusedVariables false
set_option linter.unusedSimpArgs false
theorem eqA56 (d : Nat) (w : World) (x0 y0 : Int) (x1 y1 : Int) (x2 y2 : Int) :
    (Op.equalIn (d + 2) 56 (.agg #[.int .i64 x0, .int .i64 x1, .int .i64 x2]) (.agg #[.int .i64 y0, .int .i64 y1, .int .i64 y2])).run Try.prog w = .ok (x0 == y0 && (x1 == y1 && (x2 == y2))) w := by
  refine eqA_of Try.underlying56 (by kernel_rfl) ?_
  refine eqf_cons (by rfl) (by go_simp; rfl) (by go_simp; rfl) (by go_simp) ?_
  refine eqf_cons (by rfl) (by go_simp; rfl) (by go_simp; rfl) (by go_simp) ?_
  exact eqf_last (by rfl) (by go_simp; rfl) (by go_simp; rfl) (by go_simp)
end Go.Proofs.Ytpdlkjpemplhoaa.P
namespace Go.Proofs.Ytpdlkjpemplhoaa.P
open Go.RowKit Go.Proofs.YtpdlkjpemplhoaaW.PrintWords Go.Proofs.YtpdlkjpemplhoaaW.PrintLast Go.Proofs.YtpdlkjpemplhoaaW.PrintMore
attribute [local go_sem] max2_int min2_int max_two min_two max_three min_three max_four min_four
set_option linter.unusedVariables false
set_option linter.unusedSimpArgs false
attribute [local go_sem high] eqA56
end Go.Proofs.Ytpdlkjpemplhoaa.P
namespace Go.Proofs.Ytpdlkjpemplhoaa.P
open Go.RowKit Go.Proofs.YtpdlkjpemplhoaaW.PrintWords Go.Proofs.YtpdlkjpemplhoaaW.PrintLast Go.Proofs.YtpdlkjpemplhoaaW.PrintMore
attribute [local go_sem] max2_int min2_int max_two min_two max_three min_three max_four min_four
set_option linter.unusedVariables false
set_option linter.unusedSimpArgs false
end Go.Proofs.Ytpdlkjpemplhoaa.P
namespace Go.Proofs.Ytpdlkjpemplhoaa.P
open Go.RowKit Go.Proofs.YtpdlkjpemplhoaaW.PrintWords Go.Proofs.YtpdlkjpemplhoaaW.PrintLast Go.Proofs.YtpdlkjpemplhoaaW.PrintMore
set_option linter.unusedVariables false
def rIn (x : Int) : Nat → List Int
  | 0 => []
  | d + 1 => x :: rIn (x + 2) d
def rLat (x : Int) : List S61 → List S56
  | [] => []
  | g :: r => ⟨x, g.f0, g.f1⟩ :: rLat (x + 2) r
def rAnd (x : Int) : List S59 → List S56
  | [] => []
  | g :: r => ⟨x, g.f0, g.f1⟩ :: rAnd (x + 2) r
theorem rIn_len (d : Nat) : ∀ x, (rIn x d).length = d := by
  induction d with
  | zero => intro x; rfl
  | succ d ih => intro x; simp [rIn, ih]
theorem rLat_len (l : List S61) : ∀ x, (rLat x l).length = l.length := by
  induction l with
  | nil => intro x; rfl
  | cons g r ih => intro x; simp [rLat, ih]
theorem rAnd_len (l : List S59) : ∀ x, (rAnd x l).length = l.length := by
  induction l with
  | nil => intro x; rfl
  | cons g r ih => intro x; simp [rAnd, ih]
theorem wrap_step {n m : Int} (e : n = m) (h0 : -1000000000000 ≤ m) (h1 : m ≤ 1000000000000) : wrap64 n = m := by rw [e]; exact wrap_id (by omega) (by omega)
theorem raw_l2 (l2 : List S59) (m : Int) (ins : List Int) (lat : List S56) (t5 t6 : List Int) (d : Nat) : ∀ (i k : Nat) (x : Int) (acc : List S56), l2.length - i = d → i ≤ l2.length → d < k → 0 ≤ x → x + 2 * d ≤ 1000000 → acc.length + d ≤ 1000000 → l2.length ≤ 1000000 →
    order_Raw.l2 k x l2 (l2.length : Int) (i : Int) m ins lat acc t5 t6 = some (m, ins, lat, acc ++ rAnd (x + 2) (l2.drop i), t5, t6, 0) := by
  induction d with
  | zero =>
    intro i k x acc hd hi hk h0 h1 ha hl
    obtain ⟨k, rfl⟩ : ∃ m, k = m + 1 := ⟨k - 1, by omega⟩
    have e : i = l2.length := by omega
    simp only [order_Raw.l2]
    rw [if_neg (by omega), e, List.drop_length]
    simp [rAnd]
  | succ d ih =>
    intro i k x acc hd hi hk h0 h1 ha hl
    obtain ⟨k, rfl⟩ : ∃ m, k = m + 1 := ⟨k - 1, by omega⟩
    have hlt : i < l2.length := by omega
    simp only [order_Raw.l2]
    rw [if_pos (by omega), if_pos (by omega), if_pos (by omega), if_pos (by omega), rdA_drop hlt, wrap_step (m := x + 2) rfl (by omega) (by omega), wrap_step (n := (i : Int) + 1) (m := ((i + 1 : Nat) : Int)) (by omega) (by omega) (by omega)]
    rw [ih (i + 1) k (x + 2) _ (by omega) (by omega) (by omega) (by omega) (by omega) (by simp; omega) hl]
    simp [rAnd]
theorem raw_l1 (n : Int) (l1 : List S61) (l2 : List S59) (l3 l4 : List Int) (m : Int) (ins : List Int) (t5 t6 : List Int) (hl : l1.length ≤ 100000) (hl2 : l2.length ≤ 100000) (d : Nat) : ∀ (i k : Nat) (x : Int) (acc : List S56), l1.length - i = d → i ≤ l1.length → d + l2.length + 2 < k → 0 ≤ x → x + 2 * d + 2 * l2.length ≤ 1000000 → acc.length + d ≤ 1000000 →
    order_Raw.l1 k x l1 (l1.length : Int) (i : Int) n l1 l2 l3 l4 m ins acc t5 t6 = some (m, ins, acc ++ rLat (x + 2) (l1.drop i), rAnd (x + 2 * d + 2) l2, t5, t6, 0) := by
  induction d with
  | zero =>
    intro i k x acc hd hi hk h0 h1 ha
    obtain ⟨k, rfl⟩ : ∃ m, k = m + 1 := ⟨k - 1, by omega⟩
    have e : i = l1.length := by omega
    simp only [order_Raw.l1]
    have := raw_l2 l2 m ins acc t5 t6 l2.length 0 k x [] (by omega) (by omega) (by omega) h0 (by omega) (by simp; omega) (by omega)
    rw [if_neg (by omega), e, List.drop_length]
    simp only [List.drop_zero, List.nil_append] at this
    simp only [rLat, List.append_nil, Int.natCast_zero, Int.mul_zero, Int.add_zero]
    exact this
  | succ d ih =>
    intro i k x acc hd hi hk h0 h1 ha
    obtain ⟨k, rfl⟩ : ∃ m, k = m + 1 := ⟨k - 1, by omega⟩
    have hlt : i < l1.length := by omega
    simp only [order_Raw.l1]
    rw [if_pos (by omega), if_pos (by omega), if_pos (by omega), if_pos (by omega), rdL_drop hlt, wrap_step (m := x + 2) rfl (by omega) (by omega), wrap_step (n := (i : Int) + 1) (m := ((i + 1 : Nat) : Int)) (by omega) (by omega) (by omega)]
    rw [ih (i + 1) k (x + 2) _ (by omega) (by omega) (by omega) (by omega) (by omega) (by simp; omega)]
    have e : x + 2 + 2 * (d : Int) + 2 = x + 2 * ((d + 1 : Nat) : Int) + 2 := by omega
    rw [e]
    simp [rLat]
theorem raw_l0 (N : Nat) (l1 : List S61) (l2 : List S59) (l3 l4 : List Int) (m : Int) (t5 t6 : List Int) (hN : N ≤ 100000) (hl : l1.length ≤ 100000) (hl2 : l2.length ≤ 100000) (d : Nat) : ∀ (i k : Nat) (x : Int) (acc : List Int), N - i = d → i ≤ N → d + l1.length + l2.length + 5 < k → 0 ≤ x → x + 2 * d + 2 * l1.length + 2 * l2.length ≤ 1000000 → acc.length + d ≤ 1000000 →
    order_Raw.l0 k x (N : Int) (i : Int) (N : Int) l1 l2 l3 l4 m acc t5 t6 = some (m, acc ++ rIn (x + 2) d, rLat (x + 2 * d + 2) l1, rAnd (x + 2 * d + 2 * l1.length + 2) l2, t5, t6, 0) := by
  induction d with
  | zero =>
    intro i k x acc hd hi hk h0 h1 ha
    obtain ⟨k, rfl⟩ : ∃ m, k = m + 1 := ⟨k - 1, by omega⟩
    simp only [order_Raw.l0]
    have := raw_l1 (N : Int) l1 l2 l3 l4 m acc t5 t6 hl hl2 l1.length 0 k x [] (by omega) (by omega) (by omega) h0 (by omega) (by simp; omega)
    rw [if_neg (by omega)]
    simp only [List.drop_zero, List.nil_append] at this
    simp only [rIn, List.append_nil, Int.natCast_zero, Int.mul_zero, Int.add_zero]
    exact this
  | succ d ih =>
    intro i k x acc hd hi hk h0 h1 ha
    obtain ⟨k, rfl⟩ : ∃ m, k = m + 1 := ⟨k - 1, by omega⟩
    simp only [order_Raw.l0]
    rw [if_pos (by omega), if_pos (by omega), wrap_step (m := x + 2) rfl (by omega) (by omega), wrap_step (n := (i : Int) + 1) (m := ((i + 1 : Nat) : Int)) (by omega) (by omega) (by omega)]
    rw [ih (i + 1) k (x + 2) _ (by omega) (by omega) (by omega) (by omega) (by omega) (by simp; omega)]
    have e : x + 2 + 2 * (d : Int) + 2 = x + 2 * ((d + 1 : Nat) : Int) + 2 := by omega
    have e2 : x + 2 + 2 * (d : Int) + 2 * (l1.length : Int) + 2 = x + 2 * ((d + 1 : Nat) : Int) + 2 * (l1.length : Int) + 2 := by omega
    rw [e, e2]
    simp [rIn]
def rawS (n : Int) (l1 : List S61) (l2 : List S59) (l3 l4 : List Int) : Int × List Int × (List S56) × (List S56) × List Int × List Int × Int :=
  if checkS n l1 l2 l3 l4 = 0 then (n + l1.length + l2.length, rIn 2 n.toNat, rLat (2 * n + 2) l1, rAnd (2 * n + 2 * l1.length + 2) l2, l3, l4, 0)
  else (0, [], [], [], [], [], checkS n l1 l2 l3 l4)
theorem checkS_zero {n : Int} {l1 : List S61} {l2 : List S59} {l3 l4 : List Int} (h : checkS n l1 l2 l3 l4 = 0) : 0 ≤ n ∧ n ≤ 1000 := by
  unfold checkS at h
  by_cases c1 : n < 0
  · rw [if_pos c1] at h; cases h
  · rw [if_neg c1] at h
    by_cases c2 : 1000 < n
    · rw [if_pos c2] at h; cases h
    · exact ⟨by omega, by omega⟩
theorem orderRaw_eq (n : Int) (l1 : List S61) (l2 : List S59) (l3 l4 : List Int) (ha : l1.length ≤ 1000) (hb : l2.length ≤ 1000) (hc : l3.length ≤ 1000) (hd : l4.length ≤ 1000) (k : Nat) (hk : 5000 < k) :
    order_Raw.f k n l1 l2 l3 l4 = some (rawS n l1 l2 l3 l4) := by
  unfold order_Raw.f gates_Vars.f rawS
  by_cases c : checkS n l1 l2 l3 l4 = 0
  · rw [if_pos c, if_pos c]
    obtain ⟨h0, h1⟩ := checkS_zero c
    clear c
    obtain ⟨N, rfl⟩ := Int.eq_ofNat_of_zero_le h0
    have eg : wrap64 (gEnd (N : Int) l1.length l2.length - 1) = (N : Int) + l1.length + l2.length := by
      have e : gEnd (N : Int) l1.length l2.length = ((N : Int) + l1.length + l2.length) + 1 := by
        unfold gEnd gAnd gLat
        rw [wrap_step (n := 1 + (N : Int)) rfl (by omega) (by omega), wrap_step (n := 1 + (N : Int) + l1.length) rfl (by omega) (by omega), wrap_step rfl (by omega) (by omega)]; omega
      rw [e]
      exact wrap_step (by omega) (by omega) (by omega)
    rw [eg]
    clear eg
    unfold slices_Clone_int_int.f
    simp only [Option.bind_some]
    rw [if_pos trivial, if_pos (by omega), if_pos (by omega)]
    simp only [Option.bind_some]
    have := raw_l0 N l1 l2 l3 l4 ((N : Int) + l1.length + l2.length) l3 l4 (by omega) (by omega) (by omega) N 0 k 0 [] (by omega) (by omega) (by omega) (by omega) (by omega) (by simp; omega)
    simp only [List.nil_append, Int.zero_add] at this
    rw [Int.toNat_natCast]
    exact this
  · rw [if_neg c, if_neg c]
    simp only [Option.bind_some]
    rw [if_neg c]
theorem sameInts_l0 (l : List Int) (hl : l.length ≤ 1000000) (d : Nat) : ∀ (i k : Nat), l.length - i = d → i ≤ l.length → d < k → r2_SameInts.l0 k l l (i : Int) = some true := by
  induction d with
  | zero =>
    intro i k hd hi hk
    obtain ⟨k, rfl⟩ : ∃ m, k = m + 1 := ⟨k - 1, by omega⟩
    simp only [r2_SameInts.l0]
    rw [if_neg (by omega)]
  | succ d ih =>
    intro i k hd hi hk
    obtain ⟨k, rfl⟩ : ∃ m, k = m + 1 := ⟨k - 1, by omega⟩
    simp only [r2_SameInts.l0]
    rw [if_pos (by omega), if_pos (by omega), if_pos (by omega), if_pos trivial, wrap_step (n := (i : Int) + 1) (m := ((i + 1 : Nat) : Int)) (by omega) (by omega) (by omega)]
    exact ih (i + 1) k (by omega) (by omega) (by omega)
theorem sameInts_eq (l : List Int) (hl : l.length ≤ 1000000) (k : Nat) (hk : l.length < k) : r2_SameInts.f k l l = some true := by
  unfold r2_SameInts.f
  rw [if_pos rfl]
  exact sameInts_l0 l hl l.length 0 k (by omega) (by omega) hk
end Go.Proofs.Ytpdlkjpemplhoaa.P
namespace Go.Proofs.Ytpdlkjpemplhoaa.P
open Go.RowKit Go.Proofs.YtpdlkjpemplhoaaW.PrintWords Go.Proofs.YtpdlkjpemplhoaaW.PrintLast Go.Proofs.YtpdlkjpemplhoaaW.PrintMore
set_option linter.unusedVariables false
def gt (xs : List Int) (j : Nat) : Int := xs.getD j 0
theorem rd_gt (xs : List Int) (j : Nat) : rd xs (j : Int) = gt xs j := by simp [rd, gt]
theorem gt_get (xs : List Int) (j : Nat) (h : j < xs.length) : gt xs j = xs[j] := by simp [gt, h]
theorem gt_set (xs : List Int) (i j : Nat) (v : Int) (hi : i < xs.length) : gt (xs.set i v) j = if j = i then v else gt xs j := by
  unfold gt
  rw [List.getD_eq_getElem?_getD, List.getElem?_set]
  by_cases e : i = j
  · subst e; simp [hi]
  · rw [if_neg e, if_neg (fun h => e h.symm), List.getD_eq_getElem?_getD]
theorem gt_swap (xs : List Int) (i j k : Nat) (hi : i < xs.length) (hj : j < xs.length) : gt (swapL xs i j) k = if k = j then gt xs i else if k = i then gt xs j else gt xs k := by
  unfold swapL
  rw [gt_set _ _ _ _ (by simpa using hj), gt_set _ _ _ _ hi, rd_gt, rd_gt]
theorem swap_perm (xs : List Int) (i j : Nat) (hi : i < xs.length) (hj : j < xs.length) : (swapL xs i j).Perm xs := by
  have := List.set_set_perm hi hj
  unfold swapL
  rw [rd_gt, rd_gt, gt_get _ _ hi, gt_get _ _ hj]
  exact this
def isHeap (xs : List Int) : Prop := ∀ k, 0 < k → k < xs.length → gt xs ((k - 1) / 2) ≤ gt xs k
theorem root_le (xs : List Int) (h : isHeap xs) : ∀ k, k < xs.length → gt xs 0 ≤ gt xs k := by
  intro k
  induction k using Nat.strongRecOn with
  | _ k ih =>
    intro hk
    by_cases h0 : k = 0
    · subst h0; exact Int.le_refl _
    · exact Int.le_trans (ih ((k - 1) / 2) (by omega) (by omega)) (h k (by omega) hk)
theorem up_ok (j : Nat) : ∀ xs : List Int, j < xs.length → (∀ k, 0 < k → k < xs.length → k ≠ j → gt xs ((k - 1) / 2) ≤ gt xs k) → (0 < j → ∀ k, 0 < k → k < xs.length → (k - 1) / 2 = j → gt xs ((j - 1) / 2) ≤ gt xs k) →
    isHeap (upL (j + 1) xs j) ∧ (upL (j + 1) xs j).Perm xs := by
  induction j using Nat.strongRecOn with
  | _ j ih =>
    intro xs hj h1 h2
    simp only [upL]
    by_cases h0 : (j - 1) / 2 = j
    · rw [if_pos h0]
      have : j = 0 := by omega
      subst this
      exact ⟨fun k hk hl => h1 k hk hl (by omega), List.Perm.refl _⟩
    · rw [if_neg h0]
      obtain ⟨i, hi⟩ : ∃ i, i = (j - 1) / 2 := ⟨_, rfl⟩
      rw [← hi, rd_gt, rd_gt]
      have hij : i < j := by omega
      by_cases hc : gt xs j < gt xs i
      · rw [if_pos hc, upL_more i j _ hij]
        have hsw := fun k => gt_swap xs i j k (by omega) hj
        obtain ⟨g1, g2⟩ := ih i hij (swapL xs i j) (by rw [swapL_length]; omega) (by
          intro k hk hl hne
          rw [swapL_length] at hl
          rw [hsw, hsw]
          by_cases e1 : k = j
          · subst e1; rw [← hi, if_neg (by omega), if_pos rfl, if_pos rfl]; exact Int.le_of_lt hc
          · by_cases e2 : (k - 1) / 2 = i
            · rw [e2, if_neg (by omega), if_pos rfl, if_neg e1, if_neg hne]
              have := h1 k hk hl e1
              rw [e2] at this
              omega
            · by_cases e3 : (k - 1) / 2 = j
              · rw [e3, if_pos rfl, if_neg e1, if_neg hne]
                have := h2 (by omega) k hk hl e3
                rw [← hi] at this; exact this
              · rw [if_neg e3, if_neg e2, if_neg e1, if_neg hne]; exact h1 k hk hl e1) (by
          intro hi0 k hk hl hp
          rw [swapL_length] at hl
          have hpi := h1 i hi0 (by omega) (by omega)
          rw [hsw, hsw]
          rw [if_neg (by omega : (i - 1) / 2 ≠ j), if_neg (by omega : (i - 1) / 2 ≠ i)]
          by_cases e1 : k = j
          · subst e1; rw [if_pos rfl]; exact hpi
          · rw [if_neg e1, if_neg (by omega : k ≠ i)]
            have := h1 k hk hl e1
            rw [hp] at this
            omega)
        exact ⟨g1, g2.trans (swap_perm xs i j (by omega) hj)⟩
      · rw [if_neg hc]
        refine ⟨fun k hk hl => ?_, List.Perm.refl _⟩
        by_cases e : k = j
        · subst e; rw [← hi]; omega
        · exact h1 k hk hl e
theorem gt_append_left (xs : List Int) (v : Int) (k : Nat) (h : k < xs.length) : gt (xs ++ [v]) k = gt xs k := by
  unfold gt; rw [List.getD_eq_getElem?_getD, List.getElem?_append_left h, List.getD_eq_getElem?_getD]
theorem push_ok (xs : List Int) (v : Int) (h : isHeap xs) : isHeap (pushL xs v) ∧ (pushL xs v).Perm (v :: xs) := by
  unfold pushL
  obtain ⟨g1, g2⟩ := up_ok xs.length (xs ++ [v]) (by simp) (by
    intro k hk hl hne
    simp at hl
    rw [gt_append_left _ _ _ (by omega), gt_append_left _ _ _ (by omega)]
    exact h k hk (by omega)) (by
    intro h0 k hk hl hp
    simp at hl
    omega)
  exact ⟨g1, g2.trans (List.perm_append_singleton v xs)⟩
theorem down_ok (n : Nat) : ∀ (d i : Nat) (xs : List Int), n - i ≤ d → n ≤ xs.length → (∀ k, 0 < k → k < n → (k - 1) / 2 ≠ i → gt xs ((k - 1) / 2) ≤ gt xs k) → (0 < i → ∀ k, 0 < k → k < n → (k - 1) / 2 = i → gt xs ((i - 1) / 2) ≤ gt xs k) →
    (∀ k, 0 < k → k < n → gt (downL (n - i + 1) xs i n) ((k - 1) / 2) ≤ gt (downL (n - i + 1) xs i n) k) ∧ (downL (n - i + 1) xs i n).Perm xs ∧ ∀ k, n ≤ k → gt (downL (n - i + 1) xs i n) k = gt xs k := by
  intro d
  induction d with
  | zero =>
    intro i xs hd hn h1 h2
    simp only [downL]
    rw [if_pos (by omega)]
    exact ⟨fun k hk hl => h1 k hk hl (by omega), List.Perm.refl _, fun _ _ => rfl⟩
  | succ d ih =>
    intro i xs hd hn h1 h2
    simp only [downL]
    by_cases hx : n ≤ 2 * i + 1
    · rw [if_pos hx]
      exact ⟨fun k hk hl => h1 k hk hl (by omega), List.Perm.refl _, fun _ _ => rfl⟩
    · rw [if_neg hx]
      obtain ⟨m, hm⟩ : ∃ m, m = kidL xs i n := ⟨_, rfl⟩
      have hmi : i < m := by rw [hm]; exact kidL_gt xs i n
      have hmn : m < n := by rw [hm]; exact kidL_lt xs i n (by omega)
      have hmp : (m - 1) / 2 = i := by rw [hm]; unfold kidL; split <;> omega
      have hml : ∀ k, 0 < k → k < n → (k - 1) / 2 = i → gt xs m ≤ gt xs k := by
        intro k hk hl hp
        have hk2 : k = 2 * i + 1 ∨ k = 2 * i + 2 := by omega
        rw [hm]
        unfold kidL
        rw [rd_gt, rd_gt]
        by_cases c : 2 * i + 2 < n ∧ gt xs (2 * i + 2) < gt xs (2 * i + 1)
        · rw [if_pos c]; rcases hk2 with rfl | rfl <;> omega
        · rw [if_neg c]
          rcases hk2 with rfl | rfl
          · exact Int.le_refl _
          · have : ¬ gt xs (2 * i + 2) < gt xs (2 * i + 1) := fun hc => c ⟨by omega, hc⟩
            omega
      rw [← hm, rd_gt, rd_gt]
      by_cases hc : gt xs m < gt xs i
      · rw [if_pos hc]
        have hsw := fun k => gt_swap xs i m k (by omega) (by omega)
        rw [downL_more n n (n - i) (swapL xs i m) m (by omega) (by omega)]
        obtain ⟨g1, g2, g3⟩ := ih m (swapL xs i m) (by omega) (by rw [swapL_length]; exact hn) (by
          intro k hk hl hne
          rw [hsw, hsw]
          by_cases e1 : k = m
          · subst e1; rw [hmp, if_neg (by omega), if_pos rfl, if_pos rfl]; exact Int.le_of_lt hc
          · by_cases e2 : (k - 1) / 2 = i
            · rw [e2, if_neg (by omega), if_pos rfl, if_neg e1, if_neg (by omega)]
              exact hml k hk hl e2
            · rw [if_neg hne, if_neg e2, if_neg e1]
              by_cases e3 : k = i
              · subst e3; rw [if_pos rfl]
                exact h2 hk m (by omega) hmn hmp
              · rw [if_neg e3]; exact h1 k hk hl e2) (by
          intro hm0 k hk hl hp
          rw [hsw, hsw, hmp, if_neg (by omega), if_pos rfl, if_neg (by omega), if_neg (by omega)]
          have := h1 k hk hl (by omega)
          rw [hp] at this; exact this)
        refine ⟨g1, g2.trans (swap_perm xs i m (by omega) (by omega)), fun k hk => ?_⟩
        rw [g3 k hk, hsw, if_neg (by omega), if_neg (by omega)]
      · rw [if_neg hc]
        refine ⟨fun k hk hl => ?_, List.Perm.refl _, fun _ _ => rfl⟩
        by_cases e : (k - 1) / 2 = i
        · rw [e]; have := hml k hk hl e; omega
        · exact h1 k hk hl e
theorem gt_take (xs : List Int) (n k : Nat) (h : k < n) : gt (xs.take n) k = gt xs k := by
  unfold gt; rw [List.getD_eq_getElem?_getD, List.getElem?_take, if_pos h, List.getD_eq_getElem?_getD]
theorem pop_ok (xs : List Int) (n : Nat) (hn : xs.length = n + 1) (h : isHeap xs) :
    isHeap ((popL xs n).take n) ∧ rd (popL xs n) (n : Int) = gt xs 0 ∧ (gt xs 0 :: (popL xs n).take n).Perm xs := by
  have hsw := fun k => gt_swap xs 0 n k (by omega) (by omega)
  obtain ⟨g1, g2, g3⟩ := down_ok n n 0 (swapL xs 0 n) (by omega) (by rw [swapL_length]; omega) (by
    intro k hk hl hne
    rw [hsw, hsw, if_neg (by omega), if_neg hne, if_neg (by omega), if_neg (by omega)]
    exact h k hk (by omega)) (by intro h0; omega)
  have hp : popL xs n = downL (n - 0 + 1) (swapL xs 0 n) 0 n := rfl
  rw [← hp] at g1 g2 g3
  have hlast : gt (popL xs n) n = gt xs 0 := by
    rw [g3 n (Nat.le_refl _), hsw, if_pos rfl]
  refine ⟨fun k hk hl => ?_, by rw [rd_gt]; exact hlast, ?_⟩
  · rw [List.length_take] at hl
    rw [gt_take _ _ _ (by omega), gt_take _ _ _ (by omega)]
    exact g1 k hk (by omega)
  · have hlen : (popL xs n).length = n + 1 := by rw [popL_length, hn]
    have e : popL xs n = (popL xs n).take n ++ [gt xs 0] := by
      have h1 := List.take_append_drop n (popL xs n)
      have h2 : (popL xs n).drop n = [gt xs 0] := by
        rw [List.drop_eq_getElem_cons (by omega), ← gt_get _ _ (by omega), hlast, List.drop_eq_nil_of_le (by omega)]
      rw [h2] at h1
      exact h1.symm
    have hperm : ((popL xs n).take n ++ [gt xs 0]).Perm xs := by rw [← e]; exact g2.trans (swap_perm xs 0 n (by omega) (by omega))
    exact (List.perm_append_singleton _ _).symm.trans hperm
end Go.Proofs.Ytpdlkjpemplhoaa.P
namespace Go.Proofs.Ytpdlkjpemplhoaa.P
open Go.RowKit Go.Proofs.YtpdlkjpemplhoaaW.PrintWords Go.Proofs.YtpdlkjpemplhoaaW.PrintLast Go.Proofs.YtpdlkjpemplhoaaW.PrintMore
set_option linter.unusedVariables false
set_option linter.unusedSimpArgs false
def vrD (d : S56) : Nat := (d.f0 / 2).toNat
def paD (d : S56) : Nat := (d.f1 / 2).toNat
def pbD (d : S56) : Nat := (d.f2 / 2).toNat
def vr (ands : List S56) (i : Nat) : Nat := vrD (rd_T56 ands (i : Int))
def pa (ands : List S56) (i : Nat) : Nat := paD (rd_T56 ands (i : Int))
def pb (ands : List S56) (i : Nat) : Nat := pbD (rd_T56 ands (i : Int))
def isG (ands : List S56) (u : Nat) : Bool := (List.range ands.length).any (fun i => vr ands i == u)
def rv (ands : List S56) (done : List Nat) (u : Nat) : Bool := !isG ands u || done.any (fun i => vr ands i == u)
def nextP (ands : List S56) (done : List Nat) (i : Nat) : Bool := !done.contains i && (rv ands done (pa ands i) && rv ands done (pb ands i))
def ordS (ands : List S56) : Nat → List Nat → List Nat
  | 0, done => done
  | f + 1, done => match (List.range ands.length).find? (nextP ands done) with
    | none => done
    | some i => ordS ands f (done ++ [i])
structure Ok (m : Nat) (ands : List S56) : Prop where
  lit : ∀ d ∈ ands, 0 ≤ d.f0 ∧ d.f0 / 2 ≤ (m : Int)
  p1 : ∀ d ∈ ands, 0 ≤ d.f1 ∧ d.f1 / 2 ≤ (m : Int)
  p2 : ∀ d ∈ ands, 0 ≤ d.f2 ∧ d.f2 / 2 ≤ (m : Int)
  small : m ≤ 1000 ∧ ands.length ≤ 1000
  once : ∀ i j, i < ands.length → j < ands.length → vr ands i = vr ands j → i = j
theorem rdT_mem {ands : List S56} {i : Nat} (h : i < ands.length) : rd_T56 ands (i : Int) ∈ ands := by
  have : rd_T56 ands (i : Int) = ands[i] := by simp [rd_T56, h]
  rw [this]; exact List.getElem_mem h
theorem rdT_drop {b : List S56} {i : Nat} (h : i < b.length) : b.drop i = rd_T56 b (i : Int) :: b.drop (i + 1) := by
  rw [List.drop_eq_getElem_cons h]
  simp [rd_T56, h]
section
variable {m : Nat} {ands : List S56}
theorem Ok.vr_le (h : Ok m ands) {i : Nat} (hi : i < ands.length) : vr ands i ≤ m ∧ (rd_T56 ands (i : Int)).f0 / 2 = (vr ands i : Int) ∧ 0 ≤ (rd_T56 ands (i : Int)).f0 := by
  have := h.lit _ (rdT_mem hi)
  unfold vr vrD; omega
theorem Ok.pa_le (h : Ok m ands) {i : Nat} (hi : i < ands.length) : pa ands i ≤ m ∧ (rd_T56 ands (i : Int)).f1 / 2 = (pa ands i : Int) ∧ 0 ≤ (rd_T56 ands (i : Int)).f1 := by
  have := h.p1 _ (rdT_mem hi)
  unfold pa paD; omega
theorem Ok.pb_le (h : Ok m ands) {i : Nat} (hi : i < ands.length) : pb ands i ≤ m ∧ (rd_T56 ands (i : Int)).f2 / 2 = (pb ands i : Int) ∧ 0 ≤ (rd_T56 ands (i : Int)).f2 := by
  have := h.p2 _ (rdT_mem hi)
  unfold pb pbD; omega
theorem isG_vr {i : Nat} (hi : i < ands.length) : isG ands (vr ands i) = true := by
  unfold isG; rw [List.any_eq_true]; exact ⟨i, List.mem_range.2 hi, by simp⟩
end
theorem getD_set_bool (gs : List Bool) (i j : Nat) (hi : i < gs.length) : (gs.set i true).getD j false = (gs.getD j false || i == j) := by
  rw [List.getD_eq_getElem?_getD, List.getElem?_set, List.getD_eq_getElem?_getD]
  by_cases e : i = j
  · subst e; simp [hi]
  · rw [if_neg e]; simp [e]
theorem mark_ok : ∀ (l : List S56) (gs : List Bool), (∀ d ∈ l, 0 ≤ d.f0 ∧ d.f0 / 2 < (gs.length : Int)) →
    ∃ gs', srtMark l gs = some gs' ∧ gs'.length = gs.length ∧ ∀ u, gs'.getD u false = (gs.getD u false || l.any (fun d => vrD d == u)) := by
  intro l
  induction l with
  | nil => intro gs _; exact ⟨gs, rfl, rfl, fun u => by simp⟩
  | cons d t ih =>
    intro gs h
    have hd := h d List.mem_cons_self
    obtain ⟨gs', h1, h2, h3⟩ := ih (gs.set (d.f0 / 2).toNat true) (fun x hx => by rw [List.length_set]; exact h x (List.mem_cons_of_mem _ hx))
    refine ⟨gs', by simp only [srtMark]; rw [if_pos hd]; exact h1, by rw [h2, List.length_set], fun u => ?_⟩
    rw [h3, getD_set_bool _ _ _ (by omega), List.any_cons, Bool.or_assoc]
    rfl
theorem any_range (ands : List S56) (p : S56 → Bool) : ands.any p = (List.range ands.length).any (fun i => p (rd_T56 ands (i : Int))) := by
  rw [Bool.eq_iff_iff, List.any_eq_true, List.any_eq_true]
  constructor
  · rintro ⟨d, hd, h⟩
    obtain ⟨i, hi, rfl⟩ := List.getElem_of_mem hd
    exact ⟨i, List.mem_range.2 hi, by have : rd_T56 ands (i : Int) = ands[i] := by simp [rd_T56, hi]
                                      rw [this]; exact h⟩
  · rintro ⟨i, hi, h⟩
    exact ⟨_, rdT_mem (List.mem_range.1 hi), h⟩
theorem marks (m : Nat) (ands : List S56) (h : Ok m ands) : ∃ gs, srtMark ands (List.replicate (m + 1) false) = some gs ∧ gs.length = m + 1 ∧ ∀ u, gs.getD u false = isG ands u := by
  obtain ⟨gs, h1, h2, h3⟩ := mark_ok ands (List.replicate (m + 1) false) (fun d hd => by have := h.lit d hd; rw [List.length_replicate]; omega)
  refine ⟨gs, h1, by rw [h2, List.length_replicate], fun u => ?_⟩
  rw [h3, any_range]
  have : (List.replicate (m + 1) false).getD u false = false := by
    rw [List.getD_eq_getElem?_getD, List.getElem?_replicate]; split <;> rfl
  rw [this, Bool.false_or]
  rfl
def one (b : Bool) : Int := if b then 0 else 1
def cnt (ands : List S56) (done : List Nat) (k : Nat) : Int := one (rv ands done (pa ands k)) + one (rv ands done (pb ands k))
def wl (ands : List S56) (i u : Nat) : List Int :=
  if isG ands u then (List.range i).flatMap (fun k => (if pa ands k = u then [(k : Int)] else []) ++ (if pb ands k = u then [(k : Int)] else [])) else []
theorem wl_succ (ands : List S56) (i u : Nat) : wl ands (i + 1) u = if isG ands u then wl ands i u ++ ((if pa ands i = u then [(i : Int)] else []) ++ (if pb ands i = u then [(i : Int)] else [])) else [] := by
  unfold wl
  by_cases h : isG ands u = true
  · rw [if_pos h, if_pos h, if_pos h, List.range_succ, List.flatMap_append]
    simp
  · rw [if_neg h, if_neg h]
theorem wl_len (ands : List S56) (i u : Nat) : (wl ands i u).length ≤ 2 * i := by
  induction i with
  | zero => unfold wl; split <;> simp
  | succ i ih =>
    rw [wl_succ]
    split
    · rw [List.length_append, List.length_append]
      have h1 : (if pa ands i = u then [(i : Int)] else []).length ≤ 1 := by split <;> simp
      have h2 : (if pb ands i = u then [(i : Int)] else []).length ≤ 1 := by split <;> simp
      omega
    · simp
theorem wl_mem (ands : List S56) (i u : Nat) : ∀ x ∈ wl ands i u, ∃ k, k < i ∧ x = (k : Int) := by
  intro x hx
  unfold wl at hx
  split at hx
  · obtain ⟨k, hk, h⟩ := List.mem_flatMap.1 hx
    refine ⟨k, List.mem_range.1 hk, ?_⟩
    rcases List.mem_append.1 h with h | h
    · split at h <;> simp_all
    · split at h <;> simp_all
  · cases hx
theorem wl_count (ands : List S56) (u k : Nat) (hu : isG ands u = true) (i : Nat) : (wl ands i u).count (k : Int) = if k < i then (if pa ands k = u then 1 else 0) + (if pb ands k = u then 1 else 0) else 0 := by
  induction i with
  | zero => unfold wl; rw [if_pos hu]; simp
  | succ i ih =>
    rw [wl_succ, if_pos hu, List.count_append, ih, List.count_append]
    by_cases e : k = i
    · subst e
      have h1 : (if pa ands k = u then [(k : Int)] else []).count (k : Int) = if pa ands k = u then 1 else 0 := by split <;> simp
      have h2 : (if pb ands k = u then [(k : Int)] else []).count (k : Int) = if pb ands k = u then 1 else 0 := by split <;> simp
      rw [h1, h2, if_neg (Nat.lt_irrefl k), if_pos (Nat.lt_succ_self k), Nat.zero_add]
    · have hne : (i : Int) ≠ (k : Int) := by omega
      have h1 : (if pa ands i = u then [(i : Int)] else []).count (k : Int) = 0 := by split <;> simp [List.count_cons, hne]
      have h2 : (if pb ands i = u then [(i : Int)] else []).count (k : Int) = 0 := by split <;> simp [List.count_cons, hne]
      rw [h1, h2]
      by_cases hk : k < i
      · rw [if_pos hk, if_pos (show k < i + 1 by omega)]; rfl
      · rw [if_neg hk, if_neg (show ¬ k < i + 1 by omega)]
end Go.Proofs.Ytpdlkjpemplhoaa.P
namespace Go.Proofs.Ytpdlkjpemplhoaa.P
open Go.RowKit Go.Proofs.YtpdlkjpemplhoaaW.PrintWords Go.Proofs.YtpdlkjpemplhoaaW.PrintLast Go.Proofs.YtpdlkjpemplhoaaW.PrintMore
set_option linter.unusedVariables false
set_option linter.unusedSimpArgs false
theorem one_cases (b : Bool) : one b = 0 ∨ one b = 1 := by cases b <;> simp [one]
theorem cnt_range (ands : List S56) (done : List Nat) (k : Nat) : 0 ≤ cnt ands done k ∧ cnt ands done k ≤ 2 := by
  unfold cnt
  rcases one_cases (rv ands done (pa ands k)) with h | h <;> rcases one_cases (rv ands done (pb ands k)) with h2 | h2 <;> rw [h, h2] <;> omega
theorem cnt_zero (ands : List S56) (done : List Nat) (k : Nat) : cnt ands done k = 0 ↔ (rv ands done (pa ands k) && rv ands done (pb ands k)) = true := by
  unfold cnt one
  cases rv ands done (pa ands k) <;> cases rv ands done (pb ands k) <;> simp
theorem rv_nil (ands : List S56) (u : Nat) : rv ands [] u = !isG ands u := by simp [rv]
theorem getD_set_list {α : Type} (xs : List α) (z : α) (i j : Nat) (v : α) (hi : i < xs.length) : (xs.set i v).getD j z = if j = i then v else xs.getD j z := by
  rw [List.getD_eq_getElem?_getD, List.getElem?_set]
  by_cases e : i = j
  · subst e; simp [hi]
  · rw [if_neg e, if_neg (fun h => e h.symm), List.getD_eq_getElem?_getD]
theorem part_ok (gs : List Bool) (i : Nat) (l : Int) (u : Nat) (hl : 0 ≤ l) (hu : l / 2 = (u : Int)) (ws : List (List Int)) (ms : List Int) (hg : u < gs.length) (hw : u < ws.length) (hi : i < ms.length) (hm : 0 ≤ gt ms i ∧ gt ms i ≤ 10) (hr : (ws.getD u []).length ≤ 10000) :
    ∃ ws' ms', srtPart gs i l ws ms = some (ws', ms') ∧ ws'.length = ws.length ∧ ms'.length = ms.length ∧
      (∀ v, ws'.getD v [] = if v = u ∧ gs.getD u false = true then ws.getD v [] ++ [(i : Int)] else ws.getD v []) ∧
      (∀ k, gt ms' k = if k = i ∧ gs.getD u false = true then gt ms k + 1 else gt ms k) := by
  unfold srtPart
  rw [hu, Int.toNat_natCast, rd_gt]
  rw [if_pos ⟨hl, by omega, by omega, hi, by omega, by omega, by omega⟩]
  have hrd : rdOf false gs (u : Int) = gs.getD u false := by simp [rdOf]
  rw [hrd]
  by_cases c : gs.getD u false = true
  · rw [if_pos c]
    refine ⟨_, _, rfl, by simp, by simp, fun v => ?_, fun k => ?_⟩
    · rw [getD_set_list _ _ _ _ _ hw]
      by_cases e : v = u
      · subst e; rw [if_pos rfl, if_pos ⟨rfl, c⟩]
      · rw [if_neg e, if_neg (fun h => e h.1)]
    · rw [gt_set _ _ _ _ hi]
      by_cases e : k = i
      · subst e; rw [if_pos rfl, if_pos ⟨rfl, c⟩]
      · rw [if_neg e, if_neg (fun h => e h.1)]
  · rw [if_neg c]
    refine ⟨_, _, rfl, rfl, rfl, fun v => ?_, fun k => ?_⟩
    · rw [if_neg (fun h => c h.2)]
    · rw [if_neg (fun h => c h.2)]
structure GInv (m : Nat) (ands : List S56) (i : Nat) (ws : List (List Int)) (ms hs : List Int) : Prop where
  wlen : ws.length = m + 1
  mlen : ms.length = ands.length
  rows : ∀ u, u ≤ m → ws.getD u [] = wl ands i u
  cnts : ∀ k, k < ands.length → gt ms k = if k < i then cnt ands [] k else 0
  heap : isHeap hs
  perm : hs.Perm (((List.range i).filter (fun k => decide (cnt ands [] k = 0))).map (fun k : Nat => (k : Int)))
theorem filter_len {n : Nat} (p : Nat → Bool) : ((List.range n).filter p).length ≤ n := by
  have := List.length_filter_le p (List.range n)
  rwa [List.length_range] at this
theorem gates_ok (m : Nat) (ands : List S56) (h : Ok m ands) (gs : List Bool) (hgl : gs.length = m + 1) (hgs : ∀ u, gs.getD u false = isG ands u) (d : Nat) : ∀ (i : Nat) (ws : List (List Int)) (ms hs : List Int), ands.length - i = d → i ≤ ands.length → GInv m ands i ws ms hs →
    ∃ ws' ms' hs', srtGates gs (ands.drop i) i ws ms hs = some (ws', ms', hs') ∧ GInv m ands ands.length ws' ms' hs' := by
  induction d with
  | zero =>
    intro i ws ms hs hd hi hI
    have e : i = ands.length := by omega
    subst e
    rw [List.drop_length]
    exact ⟨ws, ms, hs, rfl, hI⟩
  | succ d ih =>
    intro i ws ms hs hd hi hI
    have hlt : i < ands.length := by omega
    have hsm := h.small
    rw [rdT_drop hlt]
    simp only [srtGates]
    have hpa := h.pa_le hlt
    have hpb := h.pb_le hlt
    have hm0 : gt ms i = 0 := by rw [hI.cnts i hlt, if_neg (by omega)]
    have hwa : (ws.getD (pa ands i) []).length ≤ 10000 := by rw [hI.rows _ hpa.1]; have := wl_len ands i (pa ands i); omega
    obtain ⟨ws1, ms1, e1, l1, l2, r1, c1⟩ := part_ok gs i _ (pa ands i) hpa.2.2 hpa.2.1 ws ms (by omega) (by have := hI.wlen; omega) (by have := hI.mlen; omega) (by rw [hm0]; omega) hwa
    rw [e1]
    simp only [Option.bind_some]
    have hm1 : gt ms1 i = if isG ands (pa ands i) = true then 1 else 0 := by
      rw [c1, hm0, hgs]
      by_cases c : isG ands (pa ands i) = true
      · rw [if_pos ⟨rfl, c⟩, if_pos c]; rfl
      · rw [if_neg (fun h => c h.2), if_neg c]
    have hwb : (ws1.getD (pb ands i) []).length ≤ 10000 := by
      rw [r1, hI.rows _ hpb.1]
      have := wl_len ands i (pb ands i)
      split
      · rw [List.length_append]; simp; omega
      · omega
    obtain ⟨ws2, ms2, e2, l3, l4, r2, c2⟩ := part_ok gs i _ (pb ands i) hpb.2.2 hpb.2.1 ws1 ms1 (by omega) (by have := hI.wlen; omega) (by have := hI.mlen; omega) (by rw [hm1]; split <;> omega) hwb
    rw [e2]
    simp only [Option.bind_some]
    rw [if_pos (by have := hI.mlen; omega), rd_gt]
    have hm2 : gt ms2 i = cnt ands [] i := by
      rw [c2, hm1, hgs]
      unfold cnt one
      rw [rv_nil, rv_nil]
      cases isG ands (pa ands i) <;> cases isG ands (pb ands i) <;> simp
    have hcn : ∀ k, k < ands.length → gt ms2 k = if k < i + 1 then cnt ands [] k else 0 := by
      intro k hk
      by_cases e : k = i
      · subst e; rw [hm2, if_pos (by omega)]
      · rw [c2, if_neg (fun h => e h.1), c1, if_neg (fun h => e h.1), hI.cnts k hk]
        by_cases hki : k < i
        · rw [if_pos hki, if_pos (by omega)]
        · rw [if_neg hki, if_neg (by omega)]
    have hrw : ∀ u, u ≤ m → ws2.getD u [] = wl ands (i + 1) u := by
      intro u hu
      rw [r2, r1, hI.rows u hu, wl_succ, hgs, hgs]
      by_cases hG : isG ands u = true
      · rw [if_pos hG]
        by_cases ea : pa ands i = u <;> by_cases eb : pb ands i = u
        · rw [ea, eb, if_pos ⟨rfl, hG⟩, if_pos ⟨rfl, hG⟩, if_pos rfl]; simp
        · rw [ea, if_neg (fun h => eb h.1.symm), if_pos ⟨rfl, hG⟩, if_pos rfl, if_neg eb]; simp
        · rw [eb, if_pos ⟨rfl, hG⟩, if_neg (fun h => ea h.1.symm), if_neg ea, if_pos rfl]; simp
        · rw [if_neg (fun h => eb h.1.symm), if_neg (fun h => ea h.1.symm), if_neg ea, if_neg eb]; simp
      · rw [if_neg hG]
        have hwl : wl ands i u = [] := by unfold wl; rw [if_neg hG]
        rw [hwl]
        by_cases ea : pa ands i = u <;> by_cases eb : pb ands i = u
        · rw [ea, eb, if_neg (fun h => hG h.2), if_neg (fun h => hG h.2)]
        · rw [ea, if_neg (fun h => eb h.1.symm), if_neg (fun h => hG h.2)]
        · rw [eb, if_neg (fun h => hG h.2), if_neg (fun h => ea h.1.symm)]
        · rw [if_neg (fun h => eb h.1.symm), if_neg (fun h => ea h.1.symm)]
    by_cases hz : gt ms2 i = 0
    · rw [if_pos hz]
      have hhl : hs.length < 1000000 := by
        have := hI.perm.length_eq
        rw [List.length_map] at this
        have := filter_len (n := i) (fun k => decide (cnt ands [] k = 0))
        omega
      rw [if_pos hhl]
      obtain ⟨p1, p2⟩ := push_ok hs (i : Int) hI.heap
      refine ih (i + 1) ws2 ms2 _ (by omega) (by omega) ⟨by rw [l3, l1]; exact hI.wlen, by rw [l4, l2]; exact hI.mlen, hrw, hcn, p1, ?_⟩
      refine p2.trans ?_
      rw [List.range_succ, List.filter_append]
      have : ([i].filter (fun k => decide (cnt ands [] k = 0))) = [i] := by simp [← hm2, hz]
      rw [this, List.map_append]
      exact ((hI.perm.cons (i : Int))).trans (List.perm_append_singleton _ _).symm
    · rw [if_neg hz]
      refine ih (i + 1) ws2 ms2 _ (by omega) (by omega) ⟨by rw [l3, l1]; exact hI.wlen, by rw [l4, l2]; exact hI.mlen, hrw, hcn, hI.heap, ?_⟩
      rw [List.range_succ, List.filter_append]
      have : ([i].filter (fun k => decide (cnt ands [] k = 0))) = [] := by simp [← hm2, hz]
      rw [this, List.append_nil]
      exact hI.perm
theorem GInv.start (m : Nat) (ands : List S56) : GInv m ands 0 (List.replicate (m + 1) []) (List.replicate ands.length 0) [] := by
  refine ⟨by simp, by simp, fun u hu => ?_, fun k hk => ?_, fun k hk hl => by simp at hl, by simp⟩
  · rw [List.getD_eq_getElem?_getD, List.getElem?_replicate, if_pos (by omega)]
    unfold wl; split <;> simp
  · rw [if_neg (by omega)]
    unfold gt
    rw [List.getD_eq_getElem?_getD, List.getElem?_replicate, if_pos hk]; rfl
end Go.Proofs.Ytpdlkjpemplhoaa.P
namespace Go.Proofs.Ytpdlkjpemplhoaa.P
open Go.RowKit Go.Proofs.YtpdlkjpemplhoaaW.PrintWords Go.Proofs.YtpdlkjpemplhoaaW.PrintLast Go.Proofs.YtpdlkjpemplhoaaW.PrintMore
set_option linter.unusedVariables false
set_option linter.unusedSimpArgs false
def freed (n : Nat) (L : List Int) (ms : List Int) : List Nat := (List.range n).filter (fun j => decide (0 < L.count (j : Int)) && decide (gt ms j = (L.count (j : Int) : Int)))
theorem filter_flip {n : Nat} (p q : Nat → Bool) (k : Nat) (hk : k < n) (hp : p k = true) (hq : q k = false) (he : ∀ j, j ≠ k → p j = q j) : ((List.range n).filter p).Perm (k :: (List.range n).filter q) := by
  induction n with
  | zero => omega
  | succ n ih =>
    rw [List.range_succ, List.filter_append, List.filter_append]
    by_cases e : k = n
    · subst e
      have h1 : (List.range k).filter p = (List.range k).filter q := List.filter_congr (fun j hj => he j (by have := List.mem_range.1 hj; omega))
      have h2 : [k].filter p = [k] := by simp [hp]
      have h3 : [k].filter q = [] := by simp [hq]
      rw [h1, h2, h3, List.append_nil]
      exact List.perm_append_singleton _ _
    · have h2 : [n].filter p = [n].filter q := List.filter_congr (fun j hj => he j (by simp at hj; omega))
      rw [h2, ← List.cons_append]
      exact (ih (by omega)).append_right _
theorem in_ok (n : Nat) : ∀ (L : List Int) (ms hs : List Int), ms.length = n → (∀ x ∈ L, ∃ k, k < n ∧ x = (k : Int)) → (∀ k, k < n → 0 < L.count (k : Int) → (L.count (k : Int) : Int) ≤ gt ms k) → (∀ k, k < n → gt ms k ≤ 10) → hs.length + L.length ≤ 900000 → isHeap hs →
    ∃ ms' hs', srtIn L ms hs = some (ms', hs') ∧ ms'.length = n ∧ (∀ k, k < n → gt ms' k = gt ms k - (L.count (k : Int) : Int)) ∧ isHeap hs' ∧ hs'.Perm (hs ++ (freed n L ms).map (fun k : Nat => (k : Int))) := by
  intro L
  induction L with
  | nil =>
    intro ms hs hl hx hc hb hh hheap
    refine ⟨ms, hs, rfl, hl, fun k hk => by simp, hheap, ?_⟩
    have : freed n [] ms = [] := by unfold freed; rw [List.filter_eq_nil_iff]; intro a _; simp
    rw [this]; simp
  | cons x t ih =>
    intro ms hs hl hx hc hb hh hheap
    obtain ⟨k, hk, rfl⟩ := hx x List.mem_cons_self
    have hck : ((k : Int) :: t).count (k : Int) = t.count (k : Int) + 1 := by rw [List.count_cons]; simp
    have hcj : ∀ j : Nat, j ≠ k → ((k : Int) :: t).count (j : Int) = t.count (j : Int) := fun j hj => by rw [List.count_cons]; simp; omega
    have hkc := hc k hk (by rw [hck]; omega)
    rw [hck] at hkc
    have hkb := hb k hk
    simp only [srtIn]
    rw [rd_gt, Int.toNat_natCast, if_pos ⟨by omega, by omega, by simp at hh; omega, by omega, by omega⟩]
    have hset := fun j => gt_set ms k j (gt ms k - 1) (by omega)
    have hx' : ∀ y ∈ t, ∃ q, q < n ∧ y = (q : Int) := fun y hy => hx y (List.mem_cons_of_mem _ hy)
    have hc' : ∀ j, j < n → 0 < t.count (j : Int) → (t.count (j : Int) : Int) ≤ gt (ms.set k (gt ms k - 1)) j := by
      intro j hj h0
      rw [hset]
      by_cases e : j = k
      · subst e; rw [if_pos rfl]; omega
      · rw [if_neg e]; have := hc j hj (by rw [hcj j e]; exact h0); rw [hcj j e] at this; exact this
    have hb' : ∀ j, j < n → gt (ms.set k (gt ms k - 1)) j ≤ 10 := by
      intro j hj
      rw [hset]; split
      · omega
      · exact hb j hj
    have hcount : ∀ j, j < n → gt (ms.set k (gt ms k - 1)) j - (t.count (j : Int) : Int) = gt ms j - (((k : Int) :: t).count (j : Int) : Int) := by
      intro j hj
      rw [hset]
      by_cases e : j = k
      · subst e; rw [if_pos rfl, hck]; omega
      · rw [if_neg e, hcj j e]
    by_cases hz : gt ms k - 1 = 0
    · rw [if_pos hz]
      obtain ⟨p1, p2⟩ := push_ok hs (k : Int) hheap
      have ht0 : t.count (k : Int) = 0 := by omega
      obtain ⟨ms', hs', e1, e2, e3, e4, e5⟩ := ih (ms.set k (gt ms k - 1)) (pushL hs k) (by simpa using hl) hx' hc' hb' (by rw [pushL_length]; simp at hh; omega) p1
      refine ⟨ms', hs', e1, e2, fun j hj => by rw [e3 j hj]; exact hcount j hj, e4, ?_⟩
      have hf : (freed n ((k : Int) :: t) ms).Perm (k :: freed n t (ms.set k (gt ms k - 1))) := by
        unfold freed
        refine filter_flip _ _ k hk ?_ ?_ ?_
        · rw [hck]; simp; omega
        · rw [ht0]; simp
        · intro j hj
          rw [hcj j hj, hset, if_neg hj]
      refine e5.trans ?_
      refine ((p2.append_right _)).trans ?_
      rw [List.cons_append]
      refine (List.perm_middle.symm).trans ?_
      exact (List.Perm.append_left hs ((hf.map (fun k : Nat => (k : Int))).symm))
    · rw [if_neg hz]
      obtain ⟨ms', hs', e1, e2, e3, e4, e5⟩ := ih (ms.set k (gt ms k - 1)) hs (by simpa using hl) hx' hc' hb' (by simp at hh; omega) hheap
      refine ⟨ms', hs', e1, e2, fun j hj => by rw [e3 j hj]; exact hcount j hj, e4, ?_⟩
      have hf : freed n ((k : Int) :: t) ms = freed n t (ms.set k (gt ms k - 1)) := by
        unfold freed
        refine List.filter_congr (fun j hj => ?_)
        by_cases e : j = k
        · subst e
          rw [hck, hset, if_pos rfl, Bool.eq_iff_iff, Bool.and_eq_true, Bool.and_eq_true, decide_eq_true_iff, decide_eq_true_iff, decide_eq_true_iff, decide_eq_true_iff]
          constructor
          · rintro ⟨a, b⟩; exact ⟨by omega, by omega⟩
          · rintro ⟨a, b⟩; exact ⟨by omega, by omega⟩
        · rw [hcj j e, hset, if_neg e]
      rw [hf]; exact e5
structure OInv (ands : List S56) (done : List Nat) (ms hs : List Int) : Prop where
  mlen : ms.length = ands.length
  cnts : ∀ k, k < ands.length → gt ms k = cnt ands done k
  heap : isHeap hs
  perm : hs.Perm (((List.range ands.length).filter (nextP ands done)).map (fun k : Nat => (k : Int)))
  lt : ∀ i ∈ done, i < ands.length
  nd : done.Nodup
  zero : ∀ i ∈ done, cnt ands done i = 0
theorem rv_append (ands : List S56) (done : List Nat) (i u : Nat) : rv ands (done ++ [i]) u = (rv ands done u || vr ands i == u) := by
  unfold rv; rw [List.any_append]; simp [Bool.or_assoc]
theorem nextP_iff (ands : List S56) (done : List Nat) (i : Nat) : nextP ands done i = true ↔ i ∉ done ∧ cnt ands done i = 0 := by
  unfold nextP
  rw [cnt_zero, Bool.and_eq_true]
  simp
theorem perm_min {xs : List Int} {l : List Nat} (hp : xs.Perm (l.map (fun k : Nat => (k : Int)))) {v : Int} (hv : v ∈ xs) (hmin : ∀ x ∈ xs, v ≤ x) : ∃ i : Nat, v = (i : Int) ∧ i ∈ l ∧ ∀ j ∈ l, i ≤ j := by
  have := hp.mem_iff.1 hv
  obtain ⟨i, hi, rfl⟩ := List.mem_map.1 this
  refine ⟨i, rfl, hi, fun j hj => ?_⟩
  have := hmin (j : Int) (hp.mem_iff.2 (List.mem_map.2 ⟨j, hj, rfl⟩))
  omega
theorem find_min {n : Nat} (p : Nat → Bool) (i : Nat) (hi : i < n) (hp : p i = true) (hm : ∀ j, j < n → p j = true → i ≤ j) : (List.range n).find? p = some i := by
  induction n with
  | zero => omega
  | succ n ih =>
    rw [List.range_succ, List.find?_append]
    by_cases e : i = n
    · subst e
      have : (List.range i).find? p = none := by
        rw [List.find?_eq_none]
        intro j hj hpj
        have := List.mem_range.1 hj
        have := hm j (by omega) hpj
        omega
      rw [this]; simp [hp]
    · rw [ih (by omega) (fun j hj => hm j (by omega))]; rfl
end Go.Proofs.Ytpdlkjpemplhoaa.P
namespace Go.Proofs.Ytpdlkjpemplhoaa.P
open Go.RowKit Go.Proofs.YtpdlkjpemplhoaaW.PrintWords Go.Proofs.YtpdlkjpemplhoaaW.PrintLast Go.Proofs.YtpdlkjpemplhoaaW.PrintMore
set_option linter.unusedVariables false
set_option linter.unusedSimpArgs false
theorem filter_or_perm {n : Nat} (p q r : Nat → Bool) (h : ∀ j, j < n → r j = (p j || q j)) (hd : ∀ j, j < n → ¬ (p j = true ∧ q j = true)) : ((List.range n).filter p ++ (List.range n).filter q).Perm ((List.range n).filter r) := by
  induction n with
  | zero => simp
  | succ n ih =>
    rw [List.range_succ, List.filter_append, List.filter_append, List.filter_append]
    have h1 := ih (fun j hj => h j (by omega)) (fun j hj => hd j (by omega))
    have hn := h n (by omega)
    have hdn := hd n (by omega)
    cases hp : p n <;> cases hq : q n
    · have e : r n = false := by rw [hn, hp, hq]; rfl
      simp only [List.filter_cons, List.filter_nil, hp, hq, e, Bool.false_eq_true, if_false, List.append_nil]; exact h1
    · have e : r n = true := by rw [hn, hp, hq]; rfl
      simp only [List.filter_cons, List.filter_nil, hp, hq, e, Bool.false_eq_true, if_false, if_true, List.append_nil]
      rw [← List.append_assoc]; exact h1.append_right _
    · have e : r n = true := by rw [hn, hp, hq]; rfl
      simp only [List.filter_cons, List.filter_nil, hp, hq, e, Bool.false_eq_true, if_false, if_true, List.append_nil]
      have h2 : ((List.range n).filter p ++ [n] ++ (List.range n).filter q).Perm (((List.range n).filter p ++ (List.range n).filter q) ++ [n]) := by
        rw [List.append_assoc, List.append_assoc]
        exact (List.perm_append_comm).append_left _
      exact h2.trans (h1.append_right _)
    · exact absurd ⟨hp, hq⟩ hdn
theorem nodup_le : ∀ (n : Nat) (l : List Nat), l.Nodup → (∀ x ∈ l, x < n) → l.length ≤ n := by
  intro n
  induction n with
  | zero =>
    intro l hl h
    cases l with
    | nil => simp
    | cons a t => exact absurd (h a List.mem_cons_self) (by omega)
  | succ n ih =>
    intro l hl h
    by_cases hn : n ∈ l
    · have h1 := ih (l.erase n) (hl.erase n) (fun x hx => by
        have hx2 := (hl.mem_erase_iff).1 hx
        have := h x hx2.2
        have := hx2.1
        omega)
      rw [List.length_erase_of_mem hn] at h1
      omega
    · have h1 := ih l hl (fun x hx => by
        have := h x hx
        have : x ≠ n := fun e => hn (e ▸ hx)
        omega)
      omega
theorem out_step (m : Nat) (ands : List S56) (h : Ok m ands) (done : List Nat) (ms hs : List Int) (hI : OInv ands done ms hs) (p : Nat) (hp : hs.length = p + 1) :
    ∃ i ms' hs', i < ands.length ∧ i ∉ done ∧ (List.range ands.length).find? (nextP ands done) = some i ∧ rd (popL hs p) (p : Int) = (i : Int) ∧ srtIn (wl ands ands.length (vr ands i)) ms ((popL hs p).take p) = some (ms', hs') ∧ OInv ands (done ++ [i]) ms' hs' := by
  obtain ⟨q1, q2, q3⟩ := pop_ok hs p hp hI.heap
  have hmem : gt hs 0 ∈ hs := by rw [gt_get _ _ (by omega)]; exact List.getElem_mem _
  have hmin : ∀ x ∈ hs, gt hs 0 ≤ x := by
    intro x hx
    obtain ⟨j, hj, rfl⟩ := List.getElem_of_mem hx
    rw [← gt_get _ _ hj]
    exact root_le hs hI.heap j hj
  obtain ⟨i, hi, hif, hil⟩ := perm_min hI.perm hmem hmin
  obtain ⟨hin, hip⟩ := List.mem_filter.1 hif
  have hin' := List.mem_range.1 hin
  obtain ⟨hid, hic⟩ := (nextP_iff ands done i).1 hip
  have hsm := h.small
  have hv : rv ands done (vr ands i) = false := by
    unfold rv
    rw [isG_vr hin', Bool.not_true, Bool.false_or, Bool.eq_false_iff]
    intro hc
    obtain ⟨j, hj, he⟩ := List.any_eq_true.1 hc
    have he' : vr ands j = vr ands i := by simpa using he
    have := h.once j i (hI.lt j hj) hin' he'
    exact hid (this ▸ hj)
  have hcount := fun k => wl_count ands (vr ands i) k (isG_vr hin') ands.length
  have hone : ∀ u, one (rv ands (done ++ [i]) u) = one (rv ands done u) - (if u = vr ands i then 1 else 0) := by
    intro u
    rw [rv_append]
    by_cases e : u = vr ands i
    · subst e; rw [hv, if_pos rfl]; simp [one]
    · have : (vr ands i == u) = false := by rw [beq_eq_false_iff_ne]; exact fun h => e h.symm
      rw [this, Bool.or_false, if_neg e]; omega
  have hcnt' : ∀ k, k < ands.length → cnt ands (done ++ [i]) k = cnt ands done k - ((wl ands ands.length (vr ands i)).count (k : Int) : Int) := by
    intro k hk
    rw [hcount k, if_pos hk]
    unfold cnt
    rw [hone, hone]
    have e1 : ((if pa ands k = vr ands i then 1 else 0 : Nat) : Int) = if pa ands k = vr ands i then 1 else 0 := by split <;> rfl
    have e2 : ((if pb ands k = vr ands i then 1 else 0 : Nat) : Int) = if pb ands k = vr ands i then 1 else 0 := by split <;> rfl
    rw [Int.natCast_add, e1, e2]
    omega
  have hle : ∀ k, k < ands.length → ((wl ands ands.length (vr ands i)).count (k : Int) : Int) ≤ cnt ands done k := by
    intro k hk
    have := (cnt_range ands (done ++ [i]) k).1
    rw [hcnt' k hk] at this
    omega
  have hlen : hs.length ≤ ands.length := by
    have := hI.perm.length_eq
    rw [List.length_map] at this
    have := filter_len (n := ands.length) (nextP ands done)
    omega
  have htl : ((popL hs p).take p).length = p := by rw [List.length_take, popL_length]; omega
  obtain ⟨ms', hs', e1, e2, e3, e4, e5⟩ := in_ok ands.length (wl ands ands.length (vr ands i)) ms ((popL hs p).take p) hI.mlen (fun x hx => wl_mem ands _ _ x hx) (fun k hk _ => by rw [hI.cnts k hk]; exact hle k hk) (fun k hk => by rw [hI.cnts k hk]; have := (cnt_range ands done k).2; omega) (by
    rw [htl]; have := wl_len ands ands.length (vr ands i); omega) q1
  refine ⟨i, ms', hs', hin', hid, find_min _ i hin' hip (fun j hj hpj => hil j (List.mem_filter.2 ⟨List.mem_range.2 hj, hpj⟩)), by rw [q2, hi], e1, ⟨e2, fun k hk => by rw [e3 k hk, hI.cnts k hk, hcnt' k hk], e4, ?_, ?_, ?_, ?_⟩⟩
  · refine e5.trans ?_
    have hf1 : ((List.range ands.length).filter (nextP ands done)).Perm (i :: (List.range ands.length).filter (fun j => nextP ands done j && !(j == i))) := by
      refine filter_flip _ _ i hin' hip (by simp) (fun j hj => ?_)
      have : (j == i) = false := by rw [beq_eq_false_iff_ne]; exact hj
      rw [this]; simp
    have ht : ((popL hs p).take p).Perm (((List.range ands.length).filter (fun j => nextP ands done j && !(j == i))).map (fun k : Nat => (k : Int))) := by
      have h1 := q3.trans (hI.perm.trans (hf1.map (fun k : Nat => (k : Int))))
      rw [List.map_cons, hi] at h1
      exact h1.cons_inv
    refine (ht.append_right _).trans ?_
    rw [← List.map_append]
    refine List.Perm.map _ ?_
    unfold freed
    refine filter_or_perm _ _ _ (fun j hj => ?_) (fun j hj => ?_)
    · rw [Bool.eq_iff_iff, nextP_iff, Bool.or_eq_true, Bool.and_eq_true, Bool.and_eq_true, nextP_iff, hcnt' j hj, hI.cnts j hj]
      rw [decide_eq_true_iff, decide_eq_true_iff]
      have hc0 := hle j hj
      constructor
      · rintro ⟨a, b⟩
        have ha : j ∉ done ∧ j ≠ i := by
          constructor
          · intro hd; exact a (List.mem_append.2 (.inl hd))
          · intro hd; exact a (List.mem_append.2 (.inr (by simp [hd])))
        by_cases c : (wl ands ands.length (vr ands i)).count (j : Int) = 0
        · left
          refine ⟨⟨ha.1, by omega⟩, by simp [ha.2]⟩
        · right
          exact ⟨by omega, by omega⟩
      · rintro (⟨⟨a, b⟩, c⟩ | ⟨a, b⟩)
        · have hji : j ≠ i := by simpa using c
          refine ⟨fun hm => ?_, by omega⟩
          rcases List.mem_append.1 hm with hm | hm
          · exact a hm
          · exact hji (by simpa using hm)
        · refine ⟨fun hm => ?_, by omega⟩
          rcases List.mem_append.1 hm with hm | hm
          · have := hI.zero j hm; omega
          · have hji : j = i := by simpa using hm
            subst hji; omega
    · rintro ⟨a, b⟩
      rw [Bool.and_eq_true, nextP_iff] at a
      rw [Bool.and_eq_true, decide_eq_true_iff, decide_eq_true_iff, hI.cnts j hj] at b
      omega
  · intro j hj
    rcases List.mem_append.1 hj with hj | hj
    · exact hI.lt j hj
    · rw [List.mem_singleton.1 hj]; exact hin'
  · exact List.nodup_append.2 ⟨hI.nd, by simp, by
      intro a ha b hb
      rw [List.mem_singleton.1 hb]
      intro e; exact hid (e ▸ ha)⟩
  · intro j hj
    have hjl : j < ands.length := by
      rcases List.mem_append.1 hj with hj | hj
      · exact hI.lt j hj
      · rw [List.mem_singleton.1 hj]; exact hin'
    have h0 : cnt ands done j = 0 := by
      rcases List.mem_append.1 hj with hj | hj
      · exact hI.zero j hj
      · rw [List.mem_singleton.1 hj]; exact hic
    have := hle j hjl
    rw [hcnt' j hjl]; omega
theorem out_ok (m : Nat) (ands : List S56) (h : Ok m ands) (ws : List (List Int)) (hw : ws.length = m + 1) (hrows : ∀ u, u ≤ m → ws.getD u [] = wl ands ands.length u) (f : Nat) : ∀ (done : List Nat) (ms hs : List Int), ands.length - done.length < f → OInv ands done ms hs →
    srtOut ands ws f ms hs (done.map (fun k : Nat => (k : Int))) = some ((ordS ands (ands.length - done.length) done).map (fun k : Nat => (k : Int))) := by
  induction f with
  | zero => intro done ms hs hf; omega
  | succ f ih =>
    intro done ms hs hf hI
    simp only [srtOut]
    have hsm := h.small
    by_cases hz : hs.length = 0
    · rw [if_pos hz]
      have h0 : (List.range ands.length).filter (nextP ands done) = [] := by
        have := hI.perm.length_eq
        rw [hz, List.length_map] at this
        exact List.eq_nil_of_length_eq_zero this.symm
      have hn : (List.range ands.length).find? (nextP ands done) = none := by
        rw [List.find?_eq_none]
        intro j hj hp
        have : j ∈ (List.range ands.length).filter (nextP ands done) := List.mem_filter.2 ⟨hj, hp⟩
        rw [h0] at this; cases this
      cases e : ands.length - done.length with
      | zero => simp only [ordS]
      | succ d => simp only [ordS, hn]
    · rw [if_neg hz]
      obtain ⟨p, hp⟩ : ∃ p, hs.length = p + 1 := ⟨hs.length - 1, by omega⟩
      rw [show hs.length - 1 = p by omega]
      obtain ⟨i, ms', hs', hi, hid, hfind, hpop, hin, hI'⟩ := out_step m ands h done ms hs hI p hp
      have hdl := nodup_le ands.length (done ++ [i]) hI'.nd hI'.lt
      rw [List.length_append, List.length_singleton] at hdl
      have hlen : hs.length ≤ ands.length := by
        have := hI.perm.length_eq
        rw [List.length_map] at this
        have := filter_len (n := ands.length) (nextP ands done)
        omega
      have hvl := h.vr_le hi
      rw [hpop, hvl.2.1, Int.toNat_natCast, hrows _ hvl.1, hin]
      rw [if_pos ⟨by omega, by rw [List.length_map]; omega, by omega, by omega, hvl.2.2, by omega⟩]
      simp only [Option.bind_some]
      have h2 := ih (done ++ [i]) ms' hs' (by rw [List.length_append, List.length_singleton]; omega) hI'
      rw [List.map_append] at h2
      rw [show [(i : Int)] = [i].map (fun k : Nat => (k : Int)) from rfl, h2]
      rw [List.length_append, List.length_singleton]
      rw [show ands.length - done.length = (ands.length - (done.length + 1)) + 1 by omega]
      simp only [ordS, hfind]
theorem OInv.start (m : Nat) (ands : List S56) (ws : List (List Int)) (ms hs : List Int) (h : GInv m ands ands.length ws ms hs) : OInv ands [] ms hs := by
  refine ⟨h.mlen, fun k hk => by rw [h.cnts k hk, if_pos hk], h.heap, ?_, by simp, by simp, by simp⟩
  have : (List.range ands.length).filter (fun k => decide (cnt ands [] k = 0)) = (List.range ands.length).filter (nextP ands []) := by
    refine List.filter_congr (fun j _ => ?_)
    rw [Bool.eq_iff_iff, nextP_iff, decide_eq_true_iff]
    simp
  rw [← this]; exact h.perm
theorem sorted_eq (m : Nat) (ands : List S56) (h : Ok m ands) : order_sorted.f (ands.length + 2) (m : Int) ands = some ((ordS ands ands.length []).map (fun k : Nat => (k : Int))) := by
  have hsm := h.small
  unfold order_sorted.f
  rw [if_pos ⟨by omega, by omega, by omega⟩, show ((m : Int) + 1).toNat = m + 1 by omega]
  obtain ⟨gs, h1, h2, h3⟩ := marks m ands h
  rw [h1]
  simp only [Option.bind_some]
  obtain ⟨ws, ms, hs, h4, h5⟩ := gates_ok m ands h gs h2 h3 ands.length 0 _ _ _ (by omega) (by omega) (GInv.start m ands)
  rw [List.drop_zero] at h4
  rw [h4]
  simp only [Option.bind_some]
  exact out_ok m ands h ws h5.wlen h5.rows (ands.length + 2) [] ms hs (by simp) (OInv.start m ands ws ms hs h5)
end Go.Proofs.Ytpdlkjpemplhoaa.P
namespace Go.Proofs.Ytpdlkjpemplhoaa.P
open Go.RowKit Go.Proofs.YtpdlkjpemplhoaaW.PrintWords Go.Proofs.YtpdlkjpemplhoaaW.PrintLast Go.Proofs.YtpdlkjpemplhoaaW.PrintMore
attribute [local go_sem] max2_int min2_int max_two min_two max_three min_three max_four min_four
set_option linter.unusedVariables false
set_option linter.unusedSimpArgs false
mutual
def r3_Order.l0 : Nat → List Bool → Int → Int → List Int → List (S56) → List (S56) → List Int → List Int → Option (List Int)
 | 0, _, _, _, _, _, _, _, _ => none
 | k + 1, x3, x4, x313000, x313001, x313002, x313003, x313004, x313005 => if x4 ≤ x313000 then (if 0 ≤ x4 then (if x4 < (x3.length : Int) then (r3_Order.l0 k (x3.set (x4 : Int).toNat true) (wrap64 (x4 + 1)) x313000 x313001 x313002 x313003 x313004 x313005) else (none)) else (none)) else (r3_Order.l1 k x3 0 x313000 x313001 x313002 x313003 x313004 x313005)
def r3_Order.l1 : Nat → List Bool → Int → Int → List Int → List (S56) → List (S56) → List Int → List Int → Option (List Int)
 | 0, _, _, _, _, _, _, _, _ => none
 | k + 1, x3, x5, x313000, x313001, x313002, x313003, x313004, x313005 => if x5 < (x313003.length : Int) then (if 0 ≤ x5 then (if 0 ≤ (wrap64 (Int.tdiv ((rd_T56 x313003 x5).f0) 2)) then (if (wrap64 (Int.tdiv ((rd_T56 x313003 x5).f0) 2)) < (x3.length : Int) then (r3_Order.l1 k (x3.set ((wrap64 (Int.tdiv ((rd_T56 x313003 x5).f0) 2)) : Int).toNat false) (wrap64 (x5 + 1)) x313000 x313001 x313002 x313003 x313004 x313005) else (none)) else (none)) else (none)) else (r3_Order.l2 k x3 ([] : List Int) x313000 x313001 x313002 x313003 x313004 x313005)
def r3_Order.l2 : Nat → List Bool → List Int → Int → List Int → List (S56) → List (S56) → List Int → List Int → Option (List Int)
 | 0, _, _, _, _, _, _, _, _ => none
 | k + 1, x3, x6, x313000, x313001, x313002, x313003, x313004, x313005 => if (x6.length : Int) < (x313003.length : Int) then (r3_Order.l3 k x3 x6 (-1) (wrap64 ((x313003.length : Int) - 1)) x313000 x313001 x313002 x313003 x313004 x313005) else (some x6)
def r3_Order.l3 : Nat → List Bool → List Int → Int → Int → Int → List Int → List (S56) → List (S56) → List Int → List Int → Option (List Int)
 | 0, _, _, _, _, _, _, _, _, _, _ => none
 | k + 1, x3, x6, x7, x8, x313000, x313001, x313002, x313003, x313004, x313005 => if x8 ≥ 0 then (if 0 ≤ x8 then (if x8 < (x313003.length : Int) then (if 0 ≤ (wrap64 (Int.tdiv ((rd_T56 x313003 x8).f0) 2)) then (if (wrap64 (Int.tdiv ((rd_T56 x313003 x8).f0) 2)) < (x3.length : Int) then (if (rdOf false x3 (wrap64 (Int.tdiv ((rd_T56 x313003 x8).f0) 2)) = true) then (r3_Order.l3 k x3 x6 x7 (wrap64 (x8 - 1)) x313000 x313001 x313002 x313003 x313004 x313005) else (if 0 ≤ (wrap64 (Int.tdiv ((rd_T56 x313003 x8).f1) 2)) then (if (wrap64 (Int.tdiv ((rd_T56 x313003 x8).f1) 2)) < (x3.length : Int) then (if rdOf false x3 (wrap64 (Int.tdiv ((rd_T56 x313003 x8).f1) 2)) = true then (if 0 ≤ (wrap64 (Int.tdiv ((rd_T56 x313003 x8).f2) 2)) then (if (wrap64 (Int.tdiv ((rd_T56 x313003 x8).f2) 2)) < (x3.length : Int) then (if rdOf false x3 (wrap64 (Int.tdiv ((rd_T56 x313003 x8).f2) 2)) = true then (r3_Order.l3 k x3 x6 x8 (wrap64 (x8 - 1)) x313000 x313001 x313002 x313003 x313004 x313005) else (r3_Order.l3 k x3 x6 x7 (wrap64 (x8 - 1)) x313000 x313001 x313002 x313003 x313004 x313005)) else (none)) else (none)) else (r3_Order.l3 k x3 x6 x7 (wrap64 (x8 - 1)) x313000 x313001 x313002 x313003 x313004 x313005)) else (none)) else (none))) else (none)) else (none)) else (none)) else (none)) else (if x7 < 0 then (some x6) else (if 0 ≤ x7 then (if x7 < (x313003.length : Int) then (if 0 ≤ (wrap64 (Int.tdiv ((rd_T56 x313003 x7).f0) 2)) then (if (wrap64 (Int.tdiv ((rd_T56 x313003 x7).f0) 2)) < (x3.length : Int) then (if x6.length < 17592186044416 then (r3_Order.l2 k (x3.set ((wrap64 (Int.tdiv ((rd_T56 x313003 x7).f0) 2)) : Int).toNat true) (x6 ++ [x7]) x313000 x313001 x313002 x313003 x313004 x313005) else (none)) else (none)) else (none)) else (none)) else (none)))
end
def r3_Order.f (k : Nat) (a0_0 : Int) (l0_1 : List Int) (l0_2 : List (S56)) (l0_3 : List (S56)) (l0_4 : List Int) (l0_5 : List Int) : Option (List Int) := if 0 ≤ (wrap64 (a0_0 + 1)) then (if (wrap64 (a0_0 + 1) : Int).toNat ≤ 281474976710656 then (r3_Order.l0 k (List.replicate (wrap64 (a0_0 + 1) : Int).toNat false) 0 a0_0 l0_1 l0_2 l0_3 l0_4 l0_5) else (none)) else (none)
end Go.Proofs.Ytpdlkjpemplhoaa.P
namespace Go.Proofs.Ytpdlkjpemplhoaa.P
open Go.RowKit Go.Proofs.YtpdlkjpemplhoaaW.PrintWords Go.Proofs.YtpdlkjpemplhoaaW.PrintLast Go.Proofs.YtpdlkjpemplhoaaW.PrintMore
set_option linter.unusedVariables false
set_option linter.unusedSimpArgs false
def gb (xs : List Bool) (u : Nat) : Bool := xs.getD u false
theorem rdOf_gb (xs : List Bool) (u : Nat) : rdOf false xs (u : Int) = gb xs u := by simp [rdOf, gb]
theorem gb_set (xs : List Bool) (i j : Nat) (v : Bool) (hi : i < xs.length) : gb (xs.set i v) j = if j = i then v else gb xs j := getD_set_list xs false i j v hi
section
variable {m : Nat} {ands : List S56}
variable (l1 : List Int) (l2 : List S56) (l4 l5 : List Int)
end
end Go.Proofs.Ytpdlkjpemplhoaa.P
namespace Go.Proofs.Ytpdlkjpemplhoaa.P
open Go.RowKit Go.Proofs.YtpdlkjpemplhoaaW.PrintWords Go.Proofs.YtpdlkjpemplhoaaW.PrintLast Go.Proofs.YtpdlkjpemplhoaaW.PrintMore
attribute [local go_sem] max2_int min2_int max_two min_two max_three min_three max_four min_four
set_option linter.unusedVariables false
set_option linter.unusedSimpArgs false
mutual
def r3_Defined.l0 : Nat → List Int → Int → Int → List Int → List (S56) → List (S56) → List Int → List Int → Option (List Int)
 | 0, _, _, _, _, _, _, _, _ => none
 | k + 1, x3, x4, x330000, x330001, x330002, x330003, x330004, x330005 => if x4 < (x330002.length : Int) then (if 0 ≤ x4 then (if x3.length < 17592186044416 then (r3_Defined.l0 k (x3 ++ [(rd_T56 x330002 x4).f0]) (wrap64 (x4 + 1)) x330000 x330001 x330002 x330003 x330004 x330005) else (none)) else (none)) else (r3_Defined.l1 k x3 0 x330000 x330001 x330002 x330003 x330004 x330005)
def r3_Defined.l1 : Nat → List Int → Int → Int → List Int → List (S56) → List (S56) → List Int → List Int → Option (List Int)
 | 0, _, _, _, _, _, _, _, _ => none
 | k + 1, x3, x5, x330000, x330001, x330002, x330003, x330004, x330005 => if x5 < (x330003.length : Int) then (if 0 ≤ x5 then (if x3.length < 17592186044416 then (r3_Defined.l1 k (x3 ++ [(rd_T56 x330003 x5).f0]) (wrap64 (x5 + 1)) x330000 x330001 x330002 x330003 x330004 x330005) else (none)) else (none)) else (some x3)
end
def r3_Defined.f (k : Nat) (a0_0 : Int) (l0_1 : List Int) (l0_2 : List (S56)) (l0_3 : List (S56)) (l0_4 : List Int) (l0_5 : List Int) : Option (List Int) := (some (([] : List Int) : List Int)).bind fun y330 => (if y330.length + l0_1.length < 17592186044416 then (r3_Defined.l0 k (y330 ++ l0_1) 0 a0_0 l0_1 l0_2 l0_3 l0_4 l0_5) else (none))
mutual
def r3_Used.l0 : Nat → List Int → Int → Int → List Int → List (S56) → List (S56) → List Int → List Int → Option (List Int)
 | 0, _, _, _, _, _, _, _, _ => none
 | k + 1, x3, x4, x345000, x345001, x345002, x345003, x345004, x345005 => if x4 < (x345002.length : Int) then (if 0 ≤ x4 then (if x3.length < 17592186044416 then (r3_Used.l0 k (x3 ++ [(rd_T56 x345002 x4).f1]) (wrap64 (x4 + 1)) x345000 x345001 x345002 x345003 x345004 x345005) else (none)) else (none)) else (r3_Used.l1 k x3 0 x345000 x345001 x345002 x345003 x345004 x345005)
def r3_Used.l1 : Nat → List Int → Int → Int → List Int → List (S56) → List (S56) → List Int → List Int → Option (List Int)
 | 0, _, _, _, _, _, _, _, _ => none
 | k + 1, x3, x5, x345000, x345001, x345002, x345003, x345004, x345005 => if x5 < (x345003.length : Int) then (if 0 ≤ x5 then ((some (([(rd_T56 x345003 x5).f1, (rd_T56 x345003 x5).f2] : List Int) : List Int)).bind fun y360 => (if x3.length + y360.length < 17592186044416 then (r3_Used.l1 k (x3 ++ y360) (wrap64 (x5 + 1)) x345000 x345001 x345002 x345003 x345004 x345005) else (none))) else (none)) else (some x3)
end
def r3_Used.f (k : Nat) (a0_0 : Int) (l0_1 : List Int) (l0_2 : List (S56)) (l0_3 : List (S56)) (l0_4 : List Int) (l0_5 : List Int) : Option (List Int) := (some (([] : List Int) : List Int)).bind fun y345 => (if y345.length + l0_4.length < 17592186044416 then ((some (y345 ++ l0_4 : List Int)).bind fun y348 => (if y348.length + l0_5.length < 17592186044416 then (r3_Used.l0 k (y348 ++ l0_5) 0 a0_0 l0_1 l0_2 l0_3 l0_4 l0_5) else (none))) else (none))
mutual
def r3_numbers.l0 : Nat → List Int → List Int → Int → Int → List Int → List (S56) → List (S56) → List Int → List Int → Option (Bool)
 | 0, _, _, _, _, _, _, _, _, _ => none
 | k + 1, x3, x4, x5, x367000, x367001, x367002, x367003, x367004, x367005 => if x5 < (x3.length : Int) then (if 0 ≤ x5 then (if (rd x3 x5) < 2 then (some false) else (if (Int.tmod (rd x3 x5) 2) = 1 then (some false) else (if (rd x3 x5) > (wrap64 ((wrap64 (2 * x367000)) + 1)) then (some false) else (r3_numbers.l0 k x3 x4 (wrap64 (x5 + 1)) x367000 x367001 x367002 x367003 x367004 x367005)))) else (none)) else (r3_numbers.l1 k x4 0 x367000 x367001 x367002 x367003 x367004 x367005)
def r3_numbers.l1 : Nat → List Int → Int → Int → List Int → List (S56) → List (S56) → List Int → List Int → Option (Bool)
 | 0, _, _, _, _, _, _, _, _ => none
 | k + 1, x4, x6, x367000, x367001, x367002, x367003, x367004, x367005 => if x6 < (x4.length : Int) then (if 0 ≤ x6 then (if (rd x4 x6) < 0 then (some false) else (if (rd x4 x6) > (wrap64 ((wrap64 (2 * x367000)) + 1)) then (some false) else (r3_numbers.l1 k x4 (wrap64 (x6 + 1)) x367000 x367001 x367002 x367003 x367004 x367005))) else (none)) else (r3_numbers.l2 k 0 x367000 x367001 x367002 x367003 x367004 x367005)
def r3_numbers.l2 : Nat → Int → Int → List Int → List (S56) → List (S56) → List Int → List Int → Option (Bool)
 | 0, _, _, _, _, _, _, _ => none
 | k + 1, x7, x367000, x367001, x367002, x367003, x367004, x367005 => if x7 < (x367002.length : Int) then (if 0 ≤ x7 then (if ((rd_T56 x367002 x7).f2) < 0 then (some false) else (if ((rd_T56 x367002 x7).f2) > 2 then (some false) else (r3_numbers.l2 k (wrap64 (x7 + 1)) x367000 x367001 x367002 x367003 x367004 x367005))) else (none)) else (some true)
end
def r3_numbers.f (k : Nat) (a0_0 : Int) (l0_1 : List Int) (l0_2 : List (S56)) (l0_3 : List (S56)) (l0_4 : List Int) (l0_5 : List Int) : Option (Bool) := (r3_Defined.f k a0_0 l0_1 l0_2 l0_3 l0_4 l0_5).bind fun t367 => ((r3_Used.f k a0_0 l0_1 l0_2 l0_3 l0_4 l0_5).bind fun t370 => (r3_numbers.l0 k t367 t370 0 a0_0 l0_1 l0_2 l0_3 l0_4 l0_5))
def r3_Times.l0 : Nat → List Int → List Int → Int → Option (List Int)
 | 0, _, _, _ => none
 | k + 1, x3, x4, x5 => if x5 < (x4.length : Int) then (if 0 ≤ x5 then (if 0 ≤ (wrap64 (Int.tdiv (rd x4 x5) 2)) then (if (wrap64 (Int.tdiv (rd x4 x5) 2)) < (x3.length : Int) then (r3_Times.l0 k (x3.set ((wrap64 (Int.tdiv (rd x4 x5) 2)) : Int).toNat (wrap64 ((rd x3 (wrap64 (Int.tdiv (rd x4 x5) 2))) + 1))) x4 (wrap64 (x5 + 1))) else (none)) else (none)) else (none)) else (some x3)
def r3_Times.f (k : Nat) (a0_0 : Int) (l0_1 : List Int) (l0_2 : List (S56)) (l0_3 : List (S56)) (l0_4 : List Int) (l0_5 : List Int) : Option (List Int) := if 0 ≤ (wrap64 (a0_0 + 1)) then (if (wrap64 (a0_0 + 1) : Int).toNat ≤ 35184372088832 then ((some (List.replicate (wrap64 (a0_0 + 1) : Int).toNat 0 : List Int)).bind fun y381 => (if 0 < (y381.length : Int) then ((r3_Defined.f k a0_0 l0_1 l0_2 l0_3 l0_4 l0_5).bind fun t385 => (r3_Times.l0 k (y381.set (0 : Int).toNat 1) t385 0)) else (none))) else (none)) else (none)
end Go.Proofs.Ytpdlkjpemplhoaa.P
namespace Go.Proofs.Ytpdlkjpemplhoaa.P
open Go.RowKit Go.Proofs.YtpdlkjpemplhoaaW.PrintWords Go.Proofs.YtpdlkjpemplhoaaW.PrintLast Go.Proofs.YtpdlkjpemplhoaaW.PrintMore
set_option linter.unusedVariables false
set_option linter.unusedSimpArgs false
def ownL (l1 : List Int) (l2 l3 : List S56) : List Int := l1 ++ l2.map (fun d => d.f0) ++ l3.map (fun d => d.f0)
def useL (l2 l3 : List S56) (l4 l5 : List Int) : List Int := l4 ++ l5 ++ l2.map (fun d => d.f1) ++ l3.flatMap (fun d => [d.f1, d.f2])
theorem wi {n : Nat} (h : n ≤ 1000000) : wrap64 ((n : Int) + 1) = ((n + 1 : Nat) : Int) := by rw [wrap_id (by omega) (by omega)]; omega
theorem loop_acc {α β : Type} (L : Nat → List α → Nat → Option β) (n B : Nat) (g : Nat → List α) (fin : Nat → List α → Option β)
    (hstep : ∀ k acc i, i < n → acc.length ≤ B → L (k + 1) acc i = L k (acc ++ g i) (i + 1)) (hend : ∀ k acc, L (k + 1) acc n = fin k acc) (hg : ∀ i, (g i).length ≤ 2) (d : Nat) :
    ∀ (i k : Nat) (acc : List α), n - i = d → i ≤ n → acc.length + 2 * d ≤ B → d < k → L k acc i = fin (k - d - 1) (acc ++ (List.range' i d).flatMap g) := by
  induction d with
  | zero =>
    intro i k acc hd hi hb hk
    obtain ⟨k, rfl⟩ : ∃ q, k = q + 1 := ⟨k - 1, by omega⟩
    obtain rfl : i = n := by omega
    rw [hend]; simp
  | succ d ih =>
    intro i k acc hd hi hb hk
    obtain ⟨k, rfl⟩ : ∃ q, k = q + 1 := ⟨k - 1, by omega⟩
    have := hg i
    rw [hstep k acc i (by omega) (by omega), ih (i + 1) k _ (by omega) (by omega) (by rw [List.length_append]; omega) (by omega), List.range'_succ, List.flatMap_cons, List.append_assoc, show k + 1 - (d + 1) - 1 = k - d - 1 by omega]
theorem flat_at {α β : Type} (ls : List α) (r : Nat → α) (hr : ∀ i (h : i < ls.length), r i = ls[i]) (f : α → List β) : (List.range' 0 ls.length).flatMap (fun i => f (r i)) = ls.flatMap f := by
  have : ls = (List.range' 0 ls.length).map r := by
    apply List.ext_getElem
    · simp
    · intro i h1 h2
      simp
      exact (hr i h1).symm
  conv => rhs; rw [this, List.flatMap_map]
theorem flat_one {α β : Type} (ls : List α) (f : α → β) : ls.flatMap (fun x => [f x]) = ls.map f := by
  induction ls with
  | nil => rfl
  | cons a t ih => simp [List.flatMap_cons, ih]
theorem rdT_get (ls : List S56) (i : Nat) (h : i < ls.length) : rd_T56 ls (i : Int) = ls[i] := by simp [rd_T56, h]
section
variable (most : Int) (l1 : List Int) (l2 l3 : List S56) (l4 l5 : List Int)
theorem defined_eq (h1 : l1.length ≤ 10000) (h2 : l2.length ≤ 10000) (h3 : l3.length ≤ 10000) (k : Nat) (hk : l2.length + l3.length + 2 ≤ k) : order_defined.f k most l1 l2 l3 l4 l5 = some (ownL l1 l2 l3) := by
  unfold order_defined.f slices_Clone_int_int.f api_Define_60.f
  rw [if_pos (by omega)]
  simp only [Option.bind_some, List.flatten_cons, List.flatten_nil, List.append_nil]
  rw [if_pos (by rw [List.length_append]; omega)]
  simp only [Option.bind_some]
  have := loop_acc (fun k acc i => order_defined.l0 k acc (l2 ++ l3) ((l2 ++ l3).length : Int) (i : Int)) (l2 ++ l3).length 1000000 (fun i => [(rd_T56 (l2 ++ l3) (i : Int)).f0]) (fun _ acc => some acc)
    (fun k acc i hi ha => by
      have hl : (l2 ++ l3).length ≤ 20000 := by rw [List.length_append]; omega
      simp only [order_defined.l0]
      rw [if_pos (by omega), if_pos (by omega), if_pos (by omega), if_pos (by omega), wi (by omega)])
    (fun k acc => by simp only [order_defined.l0]; rw [if_neg (by omega)])
    (fun i => by simp) (l2 ++ l3).length 0 k l1 (by omega) (by omega) (by rw [List.length_append]; omega) (by rw [List.length_append]; omega)
  refine this.trans ?_
  rw [flat_at (l2 ++ l3) (fun i => rd_T56 (l2 ++ l3) (i : Int)) (rdT_get _) (fun d => [d.f0]), flat_one, List.map_append]
  simp [ownL]
theorem used_eq (h2 : l2.length ≤ 10000) (h3 : l3.length ≤ 10000) (h4 : l4.length ≤ 10000) (h5 : l5.length ≤ 10000) (k : Nat) (hk : l2.length + l3.length + 3 ≤ k) : order_used.f k most l1 l2 l3 l4 l5 = some (useL l2 l3 l4 l5) := by
  unfold order_used.f slices_Concat_int_int.f
  simp only [List.flatten_cons, List.flatten_nil, List.append_nil]
  rw [if_pos (by rw [List.length_append]; omega)]
  simp only [Option.bind_some]
  have e1 := loop_acc (fun k acc i => order_used.l0 k acc l2 (l2.length : Int) (i : Int) most l1 l2 l3 l4 l5) l2.length 1000000 (fun i => [(rd_T56 l2 (i : Int)).f1]) (fun k acc => order_used.l1 k acc l3 (l3.length : Int) 0)
    (fun k acc i hi ha => by
      simp only [order_used.l0]
      rw [if_pos (by omega), if_pos (by omega), if_pos (by omega), if_pos (by omega), wi (by omega)])
    (fun k acc => by simp only [order_used.l0]; rw [if_neg (by omega)])
    (fun i => by simp) l2.length 0 k (l4 ++ l5) (by omega) (by omega) (by rw [List.length_append]; omega) (by omega)
  refine e1.trans ?_
  rw [flat_at l2 (fun i => rd_T56 l2 (i : Int)) (rdT_get _) (fun d => [d.f1]), flat_one]
  have e2 := loop_acc (fun k acc i => order_used.l1 k acc l3 (l3.length : Int) (i : Int)) l3.length 1000000 (fun i => [(rd_T56 l3 (i : Int)).f1, (rd_T56 l3 (i : Int)).f2]) (fun k acc => some acc)
    (fun k acc i hi ha => by
      simp only [order_used.l1, Option.bind_some]
      rw [if_pos (by omega), if_pos (by omega), if_pos (by omega), if_pos (by simp; omega), wi (by omega)])
    (fun k acc => by simp only [order_used.l1]; rw [if_neg (by omega)])
    (fun i => by simp) l3.length 0 (k - l2.length - 1) (l4 ++ l5 ++ l2.map (fun d => d.f1)) (by omega) (by omega) (by simp; omega) (by omega)
  refine e2.trans ?_
  rw [flat_at l3 (fun i => rd_T56 l3 (i : Int)) (rdT_get _) (fun d => [d.f1, d.f2])]
  rfl
end
end Go.Proofs.Ytpdlkjpemplhoaa.P
namespace Go.Proofs.Ytpdlkjpemplhoaa.P
open Go.RowKit Go.Proofs.YtpdlkjpemplhoaaW.PrintWords Go.Proofs.YtpdlkjpemplhoaaW.PrintLast Go.Proofs.YtpdlkjpemplhoaaW.PrintMore
attribute [local go_sem] max2_int min2_int max_two min_two max_three min_three max_four min_four
set_option linter.unusedVariables false
set_option linter.unusedSimpArgs false
mutual
def r3_Check.j0 : Nat → Bool → Int → List Int → List (S56) → List (S56) → List Int → List Int → Option (Int)
 | 0, _, _, _, _, _, _, _ => none
 | k + 1, x38, x392000, x392001, x392002, x392003, x392004, x392005 => if x38 = true then (some 4) else ((r3_numbers.f k x392000 x392001 x392002 x392003 x392004 x392005).bind fun t392 => (if t392 = true then ((r3_Times.f k x392000 x392001 x392002 x392003 x392004 x392005).bind fun t393 => (r3_Check.l0 k t393 0 x392000 x392001 x392002 x392003 x392004 x392005)) else (some 8)))
def r3_Check.l0 : Nat → List Int → Int → Int → List Int → List (S56) → List (S56) → List Int → List Int → Option (Int)
 | 0, _, _, _, _, _, _, _, _ => none
 | k + 1, x3, x4, x392000, x392001, x392002, x392003, x392004, x392005 => if x4 ≤ x392000 then (if 0 ≤ x4 then (if x4 < (x3.length : Int) then (if (rd x3 x4) > 1 then (some 43) else (r3_Check.l0 k x3 (wrap64 (x4 + 1)) x392000 x392001 x392002 x392003 x392004 x392005)) else (none)) else (none)) else ((r3_Used.f k x392000 x392001 x392002 x392003 x392004 x392005).bind fun t397 => (r3_Check.l1 k x3 t397 0 x392000 x392001 x392002 x392003 x392004 x392005))
def r3_Check.l1 : Nat → List Int → List Int → Int → Int → List Int → List (S56) → List (S56) → List Int → List Int → Option (Int)
 | 0, _, _, _, _, _, _, _, _, _ => none
 | k + 1, x3, x5, x6, x392000, x392001, x392002, x392003, x392004, x392005 => if x6 < (x5.length : Int) then (if 0 ≤ x6 then (if 0 ≤ (wrap64 (Int.tdiv (rd x5 x6) 2)) then (if (wrap64 (Int.tdiv (rd x5 x6) 2)) < (x3.length : Int) then (if (rd x3 (wrap64 (Int.tdiv (rd x5 x6) 2))) = 0 then (some 46) else (r3_Check.l1 k x3 x5 (wrap64 (x6 + 1)) x392000 x392001 x392002 x392003 x392004 x392005)) else (none)) else (none)) else (none)) else ((r3_Order.f k x392000 x392001 x392002 x392003 x392004 x392005).bind fun t402 => (if (t402.length : Int) < (x392003.length : Int) then (some 41) else (some 0)))
end
end Go.Proofs.Ytpdlkjpemplhoaa.P
namespace Go.Proofs.Ytpdlkjpemplhoaa.P
open Go.RowKit Go.Proofs.YtpdlkjpemplhoaaW.PrintWords Go.Proofs.YtpdlkjpemplhoaaW.PrintLast Go.Proofs.YtpdlkjpemplhoaaW.PrintMore
set_option linter.unusedVariables false
set_option linter.unusedSimpArgs false
def badOwn (most x : Int) : Bool := decide (x < 2) || (Int.tmod x 2 == 1) || decide (x > 2 * most + 1)
def badUse (most x : Int) : Bool := decide (x < 0) || decide (x > 2 * most + 1)
def badRe (d : S56) : Bool := decide (d.f2 < 0) || decide (d.f2 > 2)
theorem off_eq {m x : Int} (hm : 0 ≤ m ∧ m ≤ 1000) (hx : I64 x) : offB m x = badUse m x := by
  unfold offB badUse I64 at *
  by_cases c : x < 0
  · simp [c]
  · rw [Int.tdiv_eq_ediv_of_nonneg (by omega), wrap_id (by omega) (by omega), Bool.eq_iff_iff]
    simp [c]; omega
theorem own_eq {m x : Int} (hm : 0 ≤ m ∧ m ≤ 1000) (hx : I64 x) : notOwnB m x = badOwn m x := by
  unfold notOwnB
  rw [off_eq hm hx]
  unfold badUse badOwn
  rw [Bool.eq_iff_iff]
  simp only [Bool.or_eq_true, decide_eq_true_iff]
  constructor
  · rintro ((( h | h) | h) | h)
    · left; left; omega
    · right; exact h
    · left; left; exact h
    · left; right; exact h
  · rintro ((h | h) | h)
    · left; right; exact h
    · right; exact h
    · left; left; right; exact h
section
variable (most : Int) (l1 : List Int) (l2 l3 : List S56) (l4 l5 : List Int)
end
end Go.Proofs.Ytpdlkjpemplhoaa.P
namespace Go.Proofs.Ytpdlkjpemplhoaa.P
open Go.RowKit Go.Proofs.YtpdlkjpemplhoaaW.PrintWords Go.Proofs.YtpdlkjpemplhoaaW.PrintLast Go.Proofs.YtpdlkjpemplhoaaW.PrintMore
set_option linter.unusedVariables false
set_option linter.unusedSimpArgs false
def varN (x : Int) : Nat := (x / 2).toNat
theorem var_w {x : Int} (h0 : 0 ≤ x) (h1 : x ≤ 3000) : wrap64 (Int.tdiv x 2) = (varN x : Int) := by
  unfold varN
  rw [Int.tdiv_eq_ediv_of_nonneg h0, wrap_id (by omega) (by omega)]; omega
theorem twice_ok : ∀ (l : List Int) (g : List Bool), (∀ x ∈ l, 0 ≤ x ∧ x / 2 < (g.length : Int)) →
    ∃ g', chkTwice l g = some (if (l.map varN).Nodup ∧ (∀ u ∈ l.map varN, gb g u = false) then some g' else none) ∧ g'.length = g.length ∧ ∀ u, gb g' u = (gb g u || (l.map varN).contains u) := by
  intro l
  induction l with
  | nil => intro g _; exact ⟨g, by simp [chkTwice], rfl, fun u => by simp⟩
  | cons x t ih =>
    intro g h
    have hx := h x List.mem_cons_self
    have hq : x / 2 = (varN x : Int) := by unfold varN; omega
    simp only [chkTwice]
    rw [if_pos hx, hq, rdOf_gb, Int.toNat_natCast]
    obtain ⟨g', e1, e2, e3⟩ := ih (g.set (varN x) true) (fun y hy => by rw [List.length_set]; exact h y (List.mem_cons_of_mem _ hy))
    have hset := fun u => gb_set g (varN x) u true (by omega)
    refine ⟨g', ?_, by rw [e2, List.length_set], fun u => ?_⟩
    · by_cases c : gb g (varN x) = true
      · rw [if_pos c, if_neg]
        rintro ⟨_, h2⟩
        have := h2 (varN x) (by simp)
        rw [c] at this; cases this
      · rw [if_neg c, e1]
        congr 1
        have hiff : ((t.map varN).Nodup ∧ ∀ u ∈ t.map varN, gb (g.set (varN x) true) u = false) ↔ (((x :: t).map varN).Nodup ∧ ∀ u ∈ (x :: t).map varN, gb g u = false) := by
          rw [List.map_cons, List.nodup_cons]
          constructor
          · rintro ⟨a, b⟩
            have hn : varN x ∉ t.map varN := fun hm => by
              have := b _ hm
              rw [hset, if_pos rfl] at this; cases this
            refine ⟨⟨hn, a⟩, fun u hu => ?_⟩
            rcases List.mem_cons.1 hu with rfl | hu
            · exact Bool.eq_false_iff.2 c
            · have := b u hu
              rw [hset] at this
              split at this
              · cases this
              · exact this
          · rintro ⟨⟨hn, a⟩, b⟩
            refine ⟨a, fun u hu => ?_⟩
            rw [hset, if_neg (fun e : u = varN x => hn (e ▸ hu))]
            exact b u (List.mem_cons_of_mem _ hu)
        by_cases p : ((t.map varN).Nodup ∧ ∀ u ∈ t.map varN, gb (g.set (varN x) true) u = false)
        · rw [if_pos p, if_pos (hiff.1 p)]
        · rw [if_neg p, if_neg (fun q => p (hiff.2 q))]
    · rw [e3, hset, List.map_cons, List.contains_cons]
      by_cases e : u = varN x
      · subst e; simp
      · have : (u == varN x) = false := by rw [beq_eq_false_iff_ne]; exact e
        rw [if_neg e, this, Bool.false_or]
end Go.Proofs.Ytpdlkjpemplhoaa.P
namespace Go.Proofs.Ytpdlkjpemplhoaa.P
open Go.RowKit Go.Proofs.YtpdlkjpemplhoaaW.PrintWords Go.Proofs.YtpdlkjpemplhoaaW.PrintLast Go.Proofs.YtpdlkjpemplhoaaW.PrintMore
set_option linter.unusedVariables false
set_option linter.unusedSimpArgs false
def loose (own : List Int) (x : Int) : Bool := !(decide (varN x = 0) || (own.map varN).contains (varN x))
def chkVal (own use : List Int) (l3 : List S56) : Int :=
  if ¬ (own.map varN).Nodup then 43 else if use.any (loose own) = true then 46 else if (ordS l3 l3.length []).length < l3.length then 41 else 0
theorem nodup_at {α : Type} {l : List α} (h : l.Nodup) {i j : Nat} (hi : i < l.length) (hj : j < l.length) (e : l[i] = l[j]) : i = j := by
  rcases Nat.lt_trichotomy i j with c | c | c
  · exact absurd e (List.pairwise_iff_getElem.1 h i j hi hj c)
  · exact c
  · exact absurd e.symm (List.pairwise_iff_getElem.1 h j i hj hi c)
section
variable {m : Nat} {own use : List Int} {l3 : List S56}
theorem varN_pos (ho : ∀ x ∈ own, 2 ≤ x ∧ x ≤ 2 * (m : Int) + 1) : ∀ u ∈ own.map varN, 1 ≤ u ∧ u ≤ m := by
  intro u hu
  obtain ⟨x, hx, rfl⟩ := List.mem_map.1 hu
  have := ho x hx
  unfold varN; omega
theorem ok_of (hm : m ≤ 1000) (h3 : l3.length ≤ 1000) (ho : ∀ x ∈ own, 2 ≤ x ∧ x ≤ 2 * (m : Int) + 1) (hu : ∀ x ∈ use, 0 ≤ x ∧ x ≤ 2 * (m : Int) + 1) (l1 : List Int) (l2 : List S56) (l4 l5 : List Int) (eo : own = ownL l1 l2 l3) (eu : use = useL l2 l3 l4 l5) (hn : (own.map varN).Nodup) : Ok m l3 := by
  have ho0 : ∀ d ∈ l3, d.f0 ∈ own := fun d hd => by
    rw [eo]; unfold ownL; exact List.mem_append_right _ (List.mem_map_of_mem hd)
  have hu1 : ∀ d ∈ l3, d.f1 ∈ use := fun d hd => by
    rw [eu]; unfold useL; exact List.mem_append_right _ (List.mem_flatMap.2 ⟨d, hd, by simp⟩)
  have hu2 : ∀ d ∈ l3, d.f2 ∈ use := fun d hd => by
    rw [eu]; unfold useL; exact List.mem_append_right _ (List.mem_flatMap.2 ⟨d, hd, by simp⟩)
  refine ⟨fun d hd => ?_, fun d hd => ?_, fun d hd => ?_, ⟨hm, h3⟩, fun i j hi hj e => ?_⟩
  · have := ho _ (ho0 d hd); omega
  · have := hu _ (hu1 d hd); omega
  · have := hu _ (hu2 d hd); omega
  · have hq : (l3.map (fun d => vrD d)).Nodup := by
      rw [eo] at hn
      unfold ownL at hn
      rw [List.map_append, List.nodup_append] at hn
      have := hn.2.1
      rw [List.map_map] at this
      exact this
    have hg : ∀ i (h : i < l3.length), vr l3 i = (l3.map (fun d => vrD d))[i]'(by simpa using h) := fun i h => by
      unfold vr rd_T56
      simp [h]
    rw [hg i hi, hg j hj] at e
    exact (nodup_at hq _ _ e)
theorem kn_start (m : Nat) (u : Nat) : gb ((List.replicate (m + 1) false).set 0 true) u = decide (u = 0) := by
  rw [gb_set _ _ _ _ (by simp)]
  by_cases e : u = 0
  · simp [e]
  · rw [if_neg e]
    simp only [gb, List.getD_eq_getElem?_getD, List.getElem?_replicate]
    split <;> simp [e]
theorem prog_val (hm : m ≤ 1000) (h3 : l3.length ≤ 1000) (ho : ∀ x ∈ own, 2 ≤ x ∧ x ≤ 2 * (m : Int) + 1) (hu : ∀ x ∈ use, 0 ≤ x ∧ x ≤ 2 * (m : Int) + 1) (l1 : List Int) (l2 : List S56) (l4 l5 : List Int) (eo : own = ownL l1 l2 l3) (eu : use = useL l2 l3 l4 l5) :
    (chkTwice own ((List.replicate ((m : Int) + 1).toNat false).set 0 true)).bind (chkRest (m : Int) l3 use) = some (chkVal own use l3) := by
  rw [show ((m : Int) + 1).toNat = m + 1 by omega]
  obtain ⟨g', e1, e2, e3⟩ := twice_ok own ((List.replicate (m + 1) false).set 0 true) (fun x hx => by
    have := ho x hx
    simp; omega)
  rw [e1, Option.bind_some]
  have hl : g'.length = m + 1 := by rw [e2]; simp
  have hz : ∀ u ∈ own.map varN, gb ((List.replicate (m + 1) false).set 0 true) u = false := fun u hu => by
    have := varN_pos ho u hu
    rw [kn_start]; exact decide_eq_false (by omega)
  unfold chkVal
  by_cases hn : (own.map varN).Nodup
  · rw [if_pos ⟨hn, hz⟩, if_neg (fun c => c hn)]
    simp only [chkRest]
    have hv : ∀ x ∈ use, wrap64 (Int.tdiv x 2) = (varN x : Int) ∧ varN x ≤ m := fun x hx => by
      have := hu x hx
      exact ⟨var_w this.1 (by omega), by unfold varN; omega⟩
    rw [if_pos (by
      rw [List.all_eq_true]
      intro x hx
      obtain ⟨h1, h2⟩ := hv x hx
      rw [h1, hl, Bool.and_eq_true]
      exact ⟨decide_eq_true (by omega), decide_eq_true (by omega)⟩)]
    have ha : use.any (fun x => !rdOf false g' (wrap64 (Int.tdiv x 2))) = use.any (loose own) := by
      rw [Bool.eq_iff_iff, List.any_eq_true, List.any_eq_true]
      have he : ∀ x ∈ use, (!rdOf false g' (wrap64 (Int.tdiv x 2))) = loose own x := fun x hx => by
        rw [(hv x hx).1, rdOf_gb, e3, kn_start]; rfl
      constructor
      · rintro ⟨x, hx, h⟩; exact ⟨x, hx, he x hx ▸ h⟩
      · rintro ⟨x, hx, h⟩; exact ⟨x, hx, (he x hx).symm ▸ h⟩
    rw [ha, sorted_eq m l3 (ok_of hm h3 ho hu l1 l2 l4 l5 eo eu hn)]
    by_cases c : use.any (loose own) = true
    · rw [if_pos c, if_pos c]
    · rw [if_neg c, if_neg c, Option.bind_some, List.length_map]
      split <;> rfl
  · rw [if_neg (fun c => hn c.1), if_pos hn]; rfl
end
end Go.Proofs.Ytpdlkjpemplhoaa.P
namespace Go.Proofs.Ytpdlkjpemplhoaa.P
open Go.RowKit Go.Proofs.YtpdlkjpemplhoaaW.PrintWords Go.Proofs.YtpdlkjpemplhoaaW.PrintLast Go.Proofs.YtpdlkjpemplhoaaW.PrintMore
set_option linter.unusedVariables false
set_option linter.unusedSimpArgs false
def badAny (most : Int) (l1 : List Int) (l2 l3 : List S56) (l4 l5 : List Int) : Bool := (ownL l1 l2 l3).any (badOwn most) || (useL l2 l3 l4 l5).any (badUse most) || l2.any badRe
def manyP (most : Int) (l1 : List Int) (l2 l3 : List S56) (l4 l5 : List Int) : Prop := 1000 < most ∨ 1000 < l1.length + l2.length + l3.length ∨ 100 < l4.length ∨ 100 < l5.length
instance (most : Int) (l1 : List Int) (l2 l3 : List S56) (l4 l5 : List Int) : Decidable (manyP most l1 l2 l3 l4 l5) := by unfold manyP; infer_instance
def chkS (most : Int) (l1 : List Int) (l2 l3 : List S56) (l4 l5 : List Int) : Int :=
  if most < 0 then 8 else if manyP most l1 l2 l3 l4 l5 then 4 else if badAny most l1 l2 l3 l4 l5 = true then 8 else chkVal (ownL l1 l2 l3) (useL l2 l3 l4 l5) l3
section
variable {most : Int} {l1 : List Int} {l2 l3 : List S56} {l4 l5 : List Int}
structure Num (most : Int) (l1 : List Int) (l2 l3 : List S56) (l4 l5 : List Int) : Prop where
  m : 0 ≤ most ∧ most ≤ 1000
  len : l1.length + l2.length + l3.length ≤ 1000
  own : ∀ x ∈ ownL l1 l2 l3, 2 ≤ x ∧ x ≤ 2 * most + 1 ∧ x % 2 = 0
  use : ∀ x ∈ useL l2 l3 l4 l5, 0 ≤ x ∧ x ≤ 2 * most + 1
  l4 : l4.length ≤ 100
  l5 : l5.length ≤ 100
theorem num_of (h0 : ¬ most < 0) (h1 : ¬ manyP most l1 l2 l3 l4 l5) (h2 : ¬ badAny most l1 l2 l3 l4 l5 = true) : Num most l1 l2 l3 l4 l5 := by
  unfold manyP at h1
  unfold badAny at h2
  rw [Bool.or_eq_true, Bool.or_eq_true, not_or, not_or] at h2
  obtain ⟨⟨a, b⟩, -⟩ := h2
  refine ⟨by omega, by omega, fun x hx => ?_, fun x hx => ?_, by omega, by omega⟩
  · have this : ¬ badOwn most x = true := fun c => a (List.any_eq_true.2 ⟨x, hx, c⟩)
    unfold badOwn at this
    simp only [Bool.or_eq_true, decide_eq_true_eq, not_or, beq_iff_eq] at this
    obtain ⟨⟨a1, a2⟩, a3⟩ := this
    have := Int.tmod_eq_emod_of_nonneg (b := 2) (show 0 ≤ x by omega)
    omega
  · have this : ¬ badUse most x = true := fun c => b (List.any_eq_true.2 ⟨x, hx, c⟩)
    unfold badUse at this
    simp only [Bool.or_eq_true, decide_eq_true_eq, not_or] at this
    omega
theorem prog_chk (h1 : l1.length ≤ 2000) (h2 : l2.length ≤ 2000) (h3 : l3.length ≤ 2000) (h4 : l4.length ≤ 2000) (h5 : l5.length ≤ 2000) (ho : ∀ x ∈ ownL l1 l2 l3, I64 x) (hu : ∀ x ∈ useL l2 l3 l4 l5, I64 x) :
    order_Check.f most l1 l2 l3 l4 l5 = some (chkS most l1 l2 l3 l4 l5) := by
  unfold order_Check.f chkS
  by_cases c0 : most < 0
  · rw [if_pos c0, if_pos c0]
  rw [if_neg c0, if_neg c0]
  have hw : wrap64 (wrap64 ((l1.length : Int) + (l2.length : Int)) + (l3.length : Int)) = (l1.length : Int) + l2.length + l3.length := by rw [wrap_id (by omega : -9223372036854775808 ≤ (l1.length : Int) + (l2.length : Int)) (by omega), wrap_id (by omega) (by omega)]
  rw [hw]
  by_cases c1 : manyP most l1 l2 l3 l4 l5
  · rw [if_pos c1]
    unfold manyP at c1
    by_cases d1 : 1000 < most
    · rw [if_pos d1]
    rw [if_neg d1]
    by_cases d2 : 1000 < (l1.length : Int) + l2.length + l3.length
    · rw [if_pos d2]
    rw [if_neg d2, if_pos]
    unfold mx
    split <;> omega
  have hc1 := c1
  rw [if_neg c1]
  unfold manyP at c1
  rw [if_neg (by omega), if_neg (by omega), if_neg (by unfold mx; split <;> omega), defined_eq most l1 l2 l3 l4 l5 (by omega) (by omega) (by omega) _ (by omega), used_eq most l1 l2 l3 l4 l5 (by omega) (by omega) (by omega) (by omega) _ (by omega)]
  simp only [Option.bind_some]
  unfold chkMain
  have e1 : (ownL l1 l2 l3).any (notOwnB most) = (ownL l1 l2 l3).any (badOwn most) := by
    rw [Bool.eq_iff_iff, List.any_eq_true, List.any_eq_true]
    constructor
    · rintro ⟨x, hx, h⟩; exact ⟨x, hx, own_eq (m := most) (by omega) (ho x hx) ▸ h⟩
    · rintro ⟨x, hx, h⟩; exact ⟨x, hx, (own_eq (m := most) (by omega) (ho x hx)).symm ▸ h⟩
  have e2 : (useL l2 l3 l4 l5).any (offB most) = (useL l2 l3 l4 l5).any (badUse most) := by
    rw [Bool.eq_iff_iff, List.any_eq_true, List.any_eq_true]
    constructor
    · rintro ⟨x, hx, h⟩; exact ⟨x, hx, off_eq (m := most) (by omega) (hu x hx) ▸ h⟩
    · rintro ⟨x, hx, h⟩; exact ⟨x, hx, (off_eq (m := most) (by omega) (hu x hx)).symm ▸ h⟩
  rw [e1, e2]
  have e3 : (l2.any fun x => decide (x.f2 < 0) || decide (2 < x.f2)) = l2.any badRe := rfl
  rw [e3]
  by_cases c2 : badAny most l1 l2 l3 l4 l5 = true
  · rw [if_pos c2]
    unfold badAny at c2
    by_cases d1 : (ownL l1 l2 l3).any (badOwn most) = true
    · rw [if_pos d1]
    rw [if_neg d1]
    by_cases d2 : (useL l2 l3 l4 l5).any (badUse most) = true
    · rw [if_pos d2]
    rw [if_neg d2, if_pos]
    rw [Bool.eq_false_iff.2 d1, Bool.eq_false_iff.2 d2] at c2
    simpa using c2
  have hN := num_of c0 hc1 c2
  rw [if_neg c2]
  unfold badAny at c2
  rw [Bool.or_eq_true, Bool.or_eq_true, not_or, not_or] at c2
  rw [if_neg c2.1.1, if_neg c2.1.2, if_neg c2.2]
  obtain ⟨m, rfl⟩ := Int.eq_ofNat_of_zero_le hN.m.1
  have hm := hN.m.2
  have hlen := hN.len
  exact prog_val (by omega) (by omega) (fun x hx => ⟨(hN.own x hx).1, (hN.own x hx).2.1⟩) hN.use l1 l2 l4 l5 rfl rfl
end
end Go.Proofs.Ytpdlkjpemplhoaa.P
namespace Go.Proofs.Ytpdlkjpemplhoaa.P
open Go.RowKit Go.Proofs.YtpdlkjpemplhoaaW.PrintWords Go.Proofs.YtpdlkjpemplhoaaW.PrintLast Go.Proofs.YtpdlkjpemplhoaaW.PrintMore
attribute [local go_sem] max2_int min2_int max_two min_two max_three min_three max_four min_four
set_option linter.unusedVariables false
set_option linter.unusedSimpArgs false
mutual
def r3_Numbers.l0 : Nat → List Int → Int → Int → List Int → List (S56) → List (S56) → List Int → List Int → Option (List Int)
 | 0, _, _, _, _, _, _, _, _ => none
 | k + 1, x3, x4, x407000, x407001, x407002, x407003, x407004, x407005 => if x4 ≤ x407000 then (if 0 ≤ x4 then (if x4 < (x3.length : Int) then (r3_Numbers.l0 k (x3.set (x4 : Int).toNat (-1)) (wrap64 (x4 + 1)) x407000 x407001 x407002 x407003 x407004 x407005) else (none)) else (none)) else (r3_Numbers.l1 k x3 1 0 x407000 x407001 x407002 x407003 x407004 x407005)
def r3_Numbers.l1 : Nat → List Int → Int → Int → Int → List Int → List (S56) → List (S56) → List Int → List Int → Option (List Int)
 | 0, _, _, _, _, _, _, _, _, _ => none
 | k + 1, x3, x5, x6, x407000, x407001, x407002, x407003, x407004, x407005 => if x6 < (x407001.length : Int) then (if 0 ≤ x6 then (if 0 ≤ (wrap64 (Int.tdiv (rd x407001 x6) 2)) then (if (wrap64 (Int.tdiv (rd x407001 x6) 2)) < (x3.length : Int) then (r3_Numbers.l1 k (x3.set ((wrap64 (Int.tdiv (rd x407001 x6) 2)) : Int).toNat x5) (wrap64 (x5 + 1)) (wrap64 (x6 + 1)) x407000 x407001 x407002 x407003 x407004 x407005) else (none)) else (none)) else (none)) else (r3_Numbers.l2 k x3 x5 0 x407000 x407001 x407002 x407003 x407004 x407005)
def r3_Numbers.l2 : Nat → List Int → Int → Int → Int → List Int → List (S56) → List (S56) → List Int → List Int → Option (List Int)
 | 0, _, _, _, _, _, _, _, _, _ => none
 | k + 1, x3, x5, x7, x407000, x407001, x407002, x407003, x407004, x407005 => if x7 < (x407002.length : Int) then (if 0 ≤ x7 then (if 0 ≤ (wrap64 (Int.tdiv ((rd_T56 x407002 x7).f0) 2)) then (if (wrap64 (Int.tdiv ((rd_T56 x407002 x7).f0) 2)) < (x3.length : Int) then (r3_Numbers.l2 k (x3.set ((wrap64 (Int.tdiv ((rd_T56 x407002 x7).f0) 2)) : Int).toNat x5) (wrap64 (x5 + 1)) (wrap64 (x7 + 1)) x407000 x407001 x407002 x407003 x407004 x407005) else (none)) else (none)) else (none)) else ((r3_Order.f k x407000 x407001 x407002 x407003 x407004 x407005).bind fun t415 => (r3_Numbers.l3 k x3 x5 t415 0 x407000 x407001 x407002 x407003 x407004 x407005))
def r3_Numbers.l3 : Nat → List Int → Int → List Int → Int → Int → List Int → List (S56) → List (S56) → List Int → List Int → Option (List Int)
 | 0, _, _, _, _, _, _, _, _, _, _ => none
 | k + 1, x3, x5, x8, x9, x407000, x407001, x407002, x407003, x407004, x407005 => if x9 < (x8.length : Int) then (if 0 ≤ x9 then (if 0 ≤ (rd x8 x9) then (if (rd x8 x9) < (x407003.length : Int) then (if 0 ≤ (wrap64 (Int.tdiv ((rd_T56 x407003 (rd x8 x9)).f0) 2)) then (if (wrap64 (Int.tdiv ((rd_T56 x407003 (rd x8 x9)).f0) 2)) < (x3.length : Int) then (r3_Numbers.l3 k (x3.set ((wrap64 (Int.tdiv ((rd_T56 x407003 (rd x8 x9)).f0) 2)) : Int).toNat x5) (wrap64 (x5 + 1)) x8 (wrap64 (x9 + 1)) x407000 x407001 x407002 x407003 x407004 x407005) else (none)) else (none)) else (none)) else (none)) else (none)) else (some x3)
end
def r3_Told.f (l0 : List Int) (a1 : Int) : Option (Int) := if 0 ≤ (wrap64 (Int.tdiv a1 2)) then (if (wrap64 (Int.tdiv a1 2)) < (l0.length : Int) then (some (wrap64 ((wrap64 (2 * (rd l0 (wrap64 (Int.tdiv a1 2))))) + (Int.tmod a1 2)))) else (none)) else (none)
mutual
def r3_Circuit.l0 : Nat → List Int → Int → Int → List Int → List (S56) → List (S56) → List Int → List Int → Int → List (S61) → Option (Int × (List (S61)) × (List (S59)) × List Int × List Int × List Int × Int)
 | 0, _, _, _, _, _, _, _, _, _, _ => none
 | k + 1, x5, x7, x422000, x422001, x422002, x422003, x422004, x422005, x429000, x429001 => if x7 < (x422002.length : Int) then (if 0 ≤ x7 then ((r3_Told.f x5 ((rd_T56 x422002 x7).f1)).bind fun t430 => (if x429001.length < 8796093022208 then (r3_Circuit.l0 k x5 (wrap64 (x7 + 1)) x422000 x422001 x422002 x422003 x422004 x422005 x429000 (x429001 ++ [(⟨t430, (rd_T56 x422002 x7).f2⟩ : S61)])) else (none))) else (none)) else ((r3_Order.f k x422000 x422001 x422002 x422003 x422004 x422005).bind fun t435 => (r3_Circuit.l1 k x5 t435 0 x422000 x422001 x422002 x422003 x422004 x422005 x429000 x429001 ([] : List (S59))))
def r3_Circuit.l1 : Nat → List Int → List Int → Int → Int → List Int → List (S56) → List (S56) → List Int → List Int → Int → List (S61) → List (S59) → Option (Int × (List (S61)) × (List (S59)) × List Int × List Int × List Int × Int)
 | 0, _, _, _, _, _, _, _, _, _, _, _, _ => none
 | k + 1, x5, x8, x9, x422000, x422001, x422002, x422003, x422004, x422005, x429000, x429001, x429002 => if x9 < (x8.length : Int) then (if 0 ≤ x9 then (if 0 ≤ (rd x8 x9) then (if (rd x8 x9) < (x422003.length : Int) then ((r3_Told.f x5 ((rd_T56 x422003 (rd x8 x9)).f1)).bind fun t440 => ((r3_Told.f x5 ((rd_T56 x422003 (rd x8 x9)).f2)).bind fun t443 => (if x429002.length < 8796093022208 then (r3_Circuit.l1 k x5 x8 (wrap64 (x9 + 1)) x422000 x422001 x422002 x422003 x422004 x422005 x429000 x429001 (x429002 ++ [(⟨mx t440 t443, mn t440 t443⟩ : S59)])) else (none)))) else (none)) else (none)) else (none)) else (r3_Circuit.l2 k x5 0 x422000 x422001 x422002 x422003 x422004 x422005 x429000 x429001 x429002 ([] : List Int))
def r3_Circuit.l2 : Nat → List Int → Int → Int → List Int → List (S56) → List (S56) → List Int → List Int → Int → List (S61) → List (S59) → List Int → Option (Int × (List (S61)) × (List (S59)) × List Int × List Int × List Int × Int)
 | 0, _, _, _, _, _, _, _, _, _, _, _, _ => none
 | k + 1, x5, x12, x422000, x422001, x422002, x422003, x422004, x422005, x429000, x429001, x429002, x429003 => if x12 < (x422004.length : Int) then (if 0 ≤ x12 then ((r3_Told.f x5 (rd x422004 x12)).bind fun t448 => (if x429003.length < 17592186044416 then (r3_Circuit.l2 k x5 (wrap64 (x12 + 1)) x422000 x422001 x422002 x422003 x422004 x422005 x429000 x429001 x429002 (x429003 ++ [t448])) else (none))) else (none)) else (r3_Circuit.l3 k x5 0 x422000 x422001 x422002 x422003 x422004 x422005 x429000 x429001 x429002 x429003 ([] : List Int))
def r3_Circuit.l3 : Nat → List Int → Int → Int → List Int → List (S56) → List (S56) → List Int → List Int → Int → List (S61) → List (S59) → List Int → List Int → Option (Int × (List (S61)) × (List (S59)) × List Int × List Int × List Int × Int)
 | 0, _, _, _, _, _, _, _, _, _, _, _, _, _ => none
 | k + 1, x5, x13, x422000, x422001, x422002, x422003, x422004, x422005, x429000, x429001, x429002, x429003, x429004 => if x13 < (x422005.length : Int) then (if 0 ≤ x13 then ((r3_Told.f x5 (rd x422005 x13)).bind fun t453 => (if x429004.length < 17592186044416 then (r3_Circuit.l3 k x5 (wrap64 (x13 + 1)) x422000 x422001 x422002 x422003 x422004 x422005 x429000 x429001 x429002 x429003 (x429004 ++ [t453])) else (none))) else (none)) else (some (x429000, x429001, x429002, x429003, x429004, x5, 0))
end
end Go.Proofs.Ytpdlkjpemplhoaa.P
namespace Go.Proofs.Ytpdlkjpemplhoaa.P
open Go.RowKit Go.Proofs.YtpdlkjpemplhoaaW.PrintWords Go.Proofs.YtpdlkjpemplhoaaW.PrintLast Go.Proofs.YtpdlkjpemplhoaaW.PrintMore
set_option linter.unusedVariables false
set_option linter.unusedSimpArgs false
def numW : List Nat → Nat → List Int → List Int
  | [], _, g => g
  | v :: t, x, g => numW t (x + 1) (g.set v (x : Int))
theorem numW_append (a b : List Nat) : ∀ x g, numW (a ++ b) x g = numW b (x + a.length) (numW a x g) := by
  induction a with
  | nil => intro x g; rfl
  | cons v t ih => intro x g; simp only [List.cons_append, numW, ih, List.length_cons]; rw [show x + 1 + t.length = x + (t.length + 1) by omega]
theorem numW_len (a : List Nat) : ∀ x g, (numW a x g).length = g.length := by
  induction a with
  | nil => intro x g; rfl
  | cons v t ih => intro x g; simp only [numW, ih, List.length_set]
theorem numW_bd (B : Int) (a : List Nat) : ∀ (x : Nat) (g : List Int), (∀ u, u < g.length → -1 ≤ gt g u ∧ gt g u ≤ B) → (x : Int) + a.length ≤ B → (∀ v ∈ a, v < g.length) → ∀ u, u < g.length → -1 ≤ gt (numW a x g) u ∧ gt (numW a x g) u ≤ B := by
  induction a with
  | nil => intro x g h _ _; exact h
  | cons v t ih =>
    intro x g h hx hv u hu
    have hv0 := hv v List.mem_cons_self
    rw [List.length_cons] at hx
    refine ih (x + 1) _ (fun u hu => ?_) (by omega) (fun w hw => by rw [List.length_set]; exact hv w (List.mem_cons_of_mem _ hw)) u (by rw [List.length_set]; exact hu)
    rw [List.length_set] at hu
    rw [gt_set _ _ _ _ hv0]
    split
    · omega
    · exact h u hu
theorem own_num (xs : List Int) : ∀ (x : Nat) (g : List Int), (∀ l ∈ xs, 0 ≤ l ∧ varN l < g.length) → x + xs.length ≤ 1000000 → cirOwn xs (x : Int) g = some (numW (xs.map varN) (x + 1) g, ((x + xs.length : Nat) : Int)) := by
  induction xs with
  | nil => intro x g _ _; rfl
  | cons l t ih =>
    intro x g h hx
    have h0 := h l List.mem_cons_self
    rw [List.length_cons] at hx
    have hq : l / 2 = (varN l : Int) := by unfold varN; omega
    simp only [cirOwn]
    rw [hq, if_pos ⟨h0.1, by omega, by omega, by omega⟩, Int.toNat_natCast, show (x : Int) + 1 = ((x + 1 : Nat) : Int) by omega, ih (x + 1) _ (fun y hy => by rw [List.length_set]; exact h y (List.mem_cons_of_mem _ hy)) (by omega)]
    simp only [List.map_cons, numW, List.length_cons]
    rw [show x + 1 + t.length = x + (t.length + 1) by omega]
theorem gates_num (ands : List S56) (s : List Nat) : ∀ (x : Nat) (g : List Int), (∀ i ∈ s, i < ands.length ∧ 0 ≤ (rd_T56 ands (i : Int)).f0 ∧ vr ands i < g.length) → x + s.length ≤ 1000000 →
    cirGates ands (s.map (fun k : Nat => (k : Int))) (x : Int) g = some (numW (s.map (vr ands)) (x + 1) g, ((x + s.length : Nat) : Int)) := by
  induction s with
  | nil => intro x g _ _; rfl
  | cons i t ih =>
    intro x g h hx
    have h0 := h i List.mem_cons_self
    rw [List.length_cons] at hx
    have hq : (rd_T56 ands (i : Int)).f0 / 2 = (vr ands i : Int) := by unfold vr vrD; omega
    simp only [List.map_cons, cirGates]
    rw [hq, if_pos ⟨by omega, by omega, h0.2.1, by omega, by omega, by omega⟩, Int.toNat_natCast, show (x : Int) + 1 = ((x + 1 : Nat) : Int) by omega, ih (x + 1) _ (fun y hy => by rw [List.length_set]; exact h y (List.mem_cons_of_mem _ hy)) (by omega)]
    simp only [numW, List.length_cons]
    rw [show x + 1 + t.length = x + (t.length + 1) by omega]
def numS (m : Nat) : List Int := (List.replicate (m + 1) (-1)).set 0 0
theorem numS_len (m : Nat) : (numS m).length = m + 1 := by simp [numS]
theorem gt_rep (n u : Nat) (x : Int) (h : u < n) : gt (List.replicate n x) u = x := by
  rw [gt_get _ _ (by simpa using h)]; simp
theorem numS_gt (m u : Nat) (hu : u ≤ m) : gt (numS m) u = if u = 0 then 0 else -1 := by
  unfold numS
  rw [gt_set _ _ _ _ (by simp)]
  split
  · rfl
  · exact gt_rep _ _ _ (by omega)
section
variable (m : Nat) (l1 : List Int) (l2 l3 : List S56) (l4 l5 : List Int)
def varsN (l1 : List Int) (l2 l3 : List S56) (s : List Nat) : List Nat := l1.map varN ++ l2.map (fun d => varN d.f0) ++ s.map (vr l3)
end
end Go.Proofs.Ytpdlkjpemplhoaa.P
