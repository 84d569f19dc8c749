/- Texts of one claim, packed: part 3 of 6 -/
import Derived.Test.YtpdlkjpemplhoaaTsB
namespace Go.Proofs.Ytpdlkjpemplhoaa.P
open Go.RowKit Go.Proofs.YtpdlkjpemplhoaaW.PrintWords Go.Proofs.YtpdlkjpemplhoaaW.PrintLast Go.Proofs.YtpdlkjpemplhoaaW.PrintMore
attribute [local go_sem] max2_int min2_int max_two min_two max_three min_three max_four min_four
set_option linter.unusedVariables false
set_option linter.unusedSimpArgs false
mutual
def r3_Numbers.l0 : Nat → List Int → Int → Int → List Int → List (S56) → List (S56) → List Int → List Int → Option (List Int)
 | 0, _, _, _, _, _, _, _, _ => none
 | k + 1, x3, x4, x407000, x407001, x407002, x407003, x407004, x407005 => if x4 ≤ x407000 then (if 0 ≤ x4 then (if x4 < (x3.length : Int) then (r3_Numbers.l0 k (x3.set (x4 : Int).toNat (-1)) (wrap64 (x4 + 1)) x407000 x407001 x407002 x407003 x407004 x407005) else (none)) else (none)) else (r3_Numbers.l1 k x3 1 0 x407000 x407001 x407002 x407003 x407004 x407005)
def r3_Numbers.l1 : Nat → List Int → Int → Int → Int → List Int → List (S56) → List (S56) → List Int → List Int → Option (List Int)
 | 0, _, _, _, _, _, _, _, _, _ => none
 | k + 1, x3, x5, x6, x407000, x407001, x407002, x407003, x407004, x407005 => if x6 < (x407001.length : Int) then (if 0 ≤ x6 then (if 0 ≤ (wrap64 (Int.tdiv (rd x407001 x6) 2)) then (if (wrap64 (Int.tdiv (rd x407001 x6) 2)) < (x3.length : Int) then (r3_Numbers.l1 k (x3.set ((wrap64 (Int.tdiv (rd x407001 x6) 2)) : Int).toNat x5) (wrap64 (x5 + 1)) (wrap64 (x6 + 1)) x407000 x407001 x407002 x407003 x407004 x407005) else (none)) else (none)) else (none)) else (r3_Numbers.l2 k x3 x5 0 x407000 x407001 x407002 x407003 x407004 x407005)
def r3_Numbers.l2 : Nat → List Int → Int → Int → Int → List Int → List (S56) → List (S56) → List Int → List Int → Option (List Int)
 | 0, _, _, _, _, _, _, _, _, _ => none
 | k + 1, x3, x5, x7, x407000, x407001, x407002, x407003, x407004, x407005 => if x7 < (x407002.length : Int) then (if 0 ≤ x7 then (if 0 ≤ (wrap64 (Int.tdiv ((rd_T56 x407002 x7).f0) 2)) then (if (wrap64 (Int.tdiv ((rd_T56 x407002 x7).f0) 2)) < (x3.length : Int) then (r3_Numbers.l2 k (x3.set ((wrap64 (Int.tdiv ((rd_T56 x407002 x7).f0) 2)) : Int).toNat x5) (wrap64 (x5 + 1)) (wrap64 (x7 + 1)) x407000 x407001 x407002 x407003 x407004 x407005) else (none)) else (none)) else (none)) else ((r3_Order.f k x407000 x407001 x407002 x407003 x407004 x407005).bind fun t415 => (r3_Numbers.l3 k x3 x5 t415 0 x407000 x407001 x407002 x407003 x407004 x407005))
def r3_Numbers.l3 : Nat → List Int → Int → List Int → Int → Int → List Int → List (S56) → List (S56) → List Int → List Int → Option (List Int)
 | 0, _, _, _, _, _, _, _, _, _, _ => none
 | k + 1, x3, x5, x8, x9, x407000, x407001, x407002, x407003, x407004, x407005 => if x9 < (x8.length : Int) then (if 0 ≤ x9 then (if 0 ≤ (rd x8 x9) then (if (rd x8 x9) < (x407003.length : Int) then (if 0 ≤ (wrap64 (Int.tdiv ((rd_T56 x407003 (rd x8 x9)).f0) 2)) then (if (wrap64 (Int.tdiv ((rd_T56 x407003 (rd x8 x9)).f0) 2)) < (x3.length : Int) then (r3_Numbers.l3 k (x3.set ((wrap64 (Int.tdiv ((rd_T56 x407003 (rd x8 x9)).f0) 2)) : Int).toNat x5) (wrap64 (x5 + 1)) x8 (wrap64 (x9 + 1)) x407000 x407001 x407002 x407003 x407004 x407005) else (none)) else (none)) else (none)) else (none)) else (none)) else (some x3)
end
def r3_Numbers.f (k : Nat) (a0_0 : Int) (l0_1 : List Int) (l0_2 : List (S56)) (l0_3 : List (S56)) (l0_4 : List Int) (l0_5 : List Int) : Option (List Int) := if 0 ≤ (wrap64 (a0_0 + 1)) then (if (wrap64 (a0_0 + 1) : Int).toNat ≤ 35184372088832 then (r3_Numbers.l0 k (List.replicate (wrap64 (a0_0 + 1) : Int).toNat 0) 1 a0_0 l0_1 l0_2 l0_3 l0_4 l0_5) else (none)) else (none)
def r3_Numbers.T21 : Bool × List (List Nat × List Nat) := (true, [([], []), ([], []), ([1], [1]), ([], []), ([], []), ([3, 4], [3, 4]), ([5], [5]), ([2, 6], [2, 6]), ([7], [7]), ([8], [8]), ([9], [9]), ([], []), ([0, 10, 0, 1, 2, 3, 4, 5, 6, 7, 8, 9, 10, 11], [0, 10]), ([12, 11, 0, 1, 2, 3, 4, 5, 6, 7, 8, 9, 10, 11], [11, 12])])
def r3_Numbers.B21 : List Nat := [0, 0, 2, 0, 0, 24, 56, 126, 254, 510, 1022, 0, 4095, 8191]
theorem r3_Numbers.tab21 : rtab .any (opsOf Try.f38 21) = r3_Numbers.T21 := by kernel_rfl
theorem r3_Numbers.bits21 : waitsOk r3_Numbers.T21.2 r3_Numbers.B21 = true := by kernel_rfl
set_option maxHeartbeats 8000000 in
set_option maxRecDepth 100000 in
theorem r3_Numbers.calls (k : Nat) (a0_0 : Int) (A0_1 : Option Addr) (c0_1 : Nat) (l0_1 : List Int) (A0_2 : Option Addr) (c0_2 : Nat) (l0_2 : List (S56)) (A0_3 : Option Addr) (c0_3 : Nat) (l0_3 : List (S56)) (A0_4 : Option Addr) (c0_4 : Nat) (l0_4 : List Int) (A0_5 : Option Addr) (c0_5 : Nat) (l0_5 : List Int) (r : List Int) (w : World) (hr0_1 : Kd.C (Kd.int .i64) w A0_1 l0_1.length l0_1) (hc0_1 : l0_1.length ≤ c0_1) (hr0_2 : Kd.C k56 w A0_2 l0_2.length l0_2) (hc0_2 : l0_2.length ≤ c0_2) (hr0_3 : Kd.C k56 w A0_3 l0_3.length l0_3) (hc0_3 : l0_3.length ≤ c0_3) (hr0_4 : Kd.C (Kd.int .i64) w A0_4 l0_4.length l0_4) (hc0_4 : l0_4.length ≤ c0_4) (hr0_5 : Kd.C (Kd.int .i64) w A0_5 l0_5.length l0_5) (hc0_5 : l0_5.length ≤ c0_5) (h : r3_Numbers.f k a0_0 l0_1 l0_2 l0_3 l0_4 l0_5 = some r) :
 Calls Try.prog 38 #[.agg #[.int .i64 a0_0, .slice A0_1 l0_1.length c0_1, .slice A0_2 l0_2.length c0_2, .slice A0_3 l0_3.length c0_3, .slice A0_4 l0_4.length c0_4, .slice A0_5 l0_5.length c0_5]] w fun e w' => ∃ v0_ : Value, e = .returned (v0_) ∧ Kd.R (Kd.int .i64) 3 w' w.heap.size (fun _ => True) v0_ r ∧ Below w.heap.size w w' := by
 have hu30 := Try.underlying30
 have HR0_1 := Aside0.mk hr0_1
 have HC0_1 := Aside0.mk hc0_1
 clear hr0_1 hc0_1
 have HR0_2 := Aside0.mk hr0_2
 have HC0_2 := Aside0.mk hc0_2
 clear hr0_2 hc0_2
 have HR0_3 := Aside0.mk hr0_3
 have HC0_3 := Aside0.mk hc0_3
 clear hr0_3 hc0_3
 have HR0_4 := Aside0.mk hr0_4
 have HC0_4 := Aside0.mk hc0_4
 clear hr0_4 hc0_4
 have HR0_5 := Aside0.mk hr0_5
 have HC0_5 := Aside0.mk hc0_5
 clear hr0_5 hc0_5
 have HB := Aside0.mk (Below.refl w.heap.size w)
 have H : (if 0 ≤ (wrap64 (a0_0 + 1)) then (if (wrap64 (a0_0 + 1) : Int).toNat ≤ 35184372088832 then (r3_Numbers.l0 k (List.replicate (wrap64 (a0_0 + 1) : Int).toNat 0) 1 a0_0 l0_1 l0_2 l0_3 l0_4 l0_5) else (none)) else (none)) = some r := h
 clear h
 obtain ⟨ji2, hji2⟩ : ∃ j_ : Int, (wrap64 (a0_0 + 1)) = j_ := ⟨_, rfl⟩
 replace H : (if 0 ≤ (ji2) then (if (ji2 : Int).toNat ≤ 35184372088832 then (r3_Numbers.l0 k (List.replicate (ji2 : Int).toNat 0) 1 a0_0 l0_1 l0_2 l0_3 l0_4 l0_5) else (none)) else (none)) = some r := by first | (rw [hji2] at H; exact H) | (simp only [hji2] at H ⊢; exact H)
 have hji2w : (IntKind.i64.wrap (a0_0 + 1)) = ji2 := (i64_w _).trans hji2
 by_cases c3 : 0 ≤ (ji2)
 · rw [if_pos c3] at H
   have c3b0 := eq_true c3
   have c3b1 : decide (0 ≤ (ji2)) = true := decide_eq_true c3
   clear c3
   by_cases c4 : (ji2 : Int).toNat ≤ 35184372088832
   · rw [if_pos c4] at H
     have c4b0 := eq_true c4
     have c4b1 : decide ((ji2 : Int).toNat ≤ 35184372088832) = true := decide_eq_true c4
     clear c4
     obtain ⟨y407, hy407⟩ : ∃ y_ : List Int, y_ = (List.replicate (ji2 : Int).toNat 0) := ⟨_, rfl⟩
     replace H : (r3_Numbers.l0 k y407 1 a0_0 l0_1 l0_2 l0_3 l0_4 l0_5) = some r := by first | (rw [hy407]; with_reducible exact H) | (have H2_ := (Option.bind_some _ _).symm.trans H; rw [hy407]; with_reducible exact H2_) | (have H2_ := (Option.bind_some _ _).symm.trans H; with_reducible exact H2_) | with_reducible exact H | (rw [hy407]; exact H) | exact H
     have Ny407 := Aside0.mk hy407
     clear hy407
     have H' := Aside0.mk H
     clear H
     go_enter Try.func38, Try.ntmps38
     go_wp2_with (first | ((with_reducible refine gate_dst (N := 1) rfl ?_); refine box_event ?hg (N := 1) ?hd (cs := #[.int .i64 a0_0, .slice A0_1 l0_1.length c0_1, .slice A0_2 l0_2.length c0_2, .slice A0_3 l0_3.length c0_3, .slice A0_4 l0_4.length c0_4, .slice A0_5 l0_5.length c0_5]) (t := 30) ?hr ?_; (case hd => rfl); (case hg => rfl); (case hr => first | (go_simp; done) | (go_simp; rfl)); intro gb406 hg w5 hbox hb; have n0_ := Aside0.mk (below_step zq109 hb); have n1_ := Aside0.mk (hbox); have n2_ := Aside0.mk ((zq89 : w.heap.size ≤ gb406)); have n3_ := Aside0.mk ((zq89 : w.heap.size ≤ gb406)); clear HB; have HB := n0_; have BK406 := n1_; have GW406 := n2_; have GE406 := n3_; clear n0_ n1_ n2_ n3_; clear hb hbox hg; obtain ⟨b6_0, b6_1, b6_2, b6_3, b6_4, b6_5, d6_0, d6_1, d6_2, d6_3, d6_4, d6_5⟩ := bk6 BK406.out) | ((with_reducible refine gate_dst (N := 13) rfl ?_); refine Kd.R_make (Kd.int .i64) _ 3 rfl (N := 13) rfl 24 _ _ rfl ji2 rfl rfl Try.underlying24 (.int .i64 0) 8 info3 rfl (by decide) (by omega) 0 (ok := fun _ => True) (okp := fun _ => True) rfl (fun _ hk => hk) trivial (of_decide_eq_true zq186) (Nat.le_trans (Nat.mul_le_mul_right _ (of_decide_eq_true zq186 : ji2.toNat ≤ 35184372088832)) (by omega)) (Below.refl _ _) (Nat.le_refl _) ?_; intro v408 w7 ho8 hb hg_ hnew_; clear hg_ hnew_; (first | rw [← Ny407.out] at ho8 | (simp only [Int.reduceToNat] at ho8; rw [← Ny407.out] at ho8)); have n0_ := Aside0.mk (Kd.R_lower ho8 (below_size zq101)); have n1_ := Aside0.mk (blk_below (g := gb406) (o := .cells #[.int .i64 a0_0, .slice A0_1 l0_1.length c0_1, .slice A0_2 l0_2.length c0_2, .slice A0_3 l0_3.length c0_3, .slice A0_4 l0_4.length c0_4, .slice A0_5 l0_5.length c0_5] 30 (0, 0)) zq130 hb); have n2_ := Aside0.mk (below_step zq101 hb); clear BK406; clear HB; have HO409 := n0_; have BK406 := n1_; have HB := n2_; clear n0_ n1_ n2_; clear hb ho8))
     go_loopg [4] k (fun kq v4 w' => ∃ (x3_1 : List Int) (x4_1 : Int), v4 = .int .i64 x4_1 ∧ Aside0 (r3_Numbers.l0 kq x3_1 x4_1 a0_0 l0_1 l0_2 l0_3 l0_4 l0_5 = some r) ∧ Aside0 (kq ≤ k) ∧ Aside0 (Kd.R (Kd.int .i64) 3 w' w.heap.size (fun _ => True) v408 x3_1) ∧ Aside0 (w'.heap[gb406]? = some (.cells #[.int .i64 a0_0, (.slice A0_1 l0_1.length c0_1), (.slice A0_2 l0_2.length c0_2), (.slice A0_3 l0_3.length c0_3), (.slice A0_4 l0_4.length c0_4), (.slice A0_5 l0_5.length c0_5)] 30 (0, 0))) ∧ Aside0 (Below w.heap.size w w'))
     case atStart => exact ⟨(y407), (1), zq187, H', ⟨Nat.le_refl _⟩, ⟨by (with_reducible repeat (first | apply Kd.R_alloc | apply Kd.R_drewN | apply Kd.R_drew)); exact HO409.out⟩, ⟨zq130⟩, ⟨zq101⟩⟩
     case round =>
      clear H'
      try clear p2
      try clear c3
      try clear c3b0
      try clear c3b1
      try clear c4
      try clear c4b0
      try clear c4b1
      try clear p6
      try clear b6_0
      try clear b6_1
      try clear b6_2
      try clear b6_3
      try clear b6_4
      try clear b6_5
      try clear d6_0
      try clear d6_1
      try clear d6_2
      try clear d6_3
      try clear d6_4
      try clear d6_5
      obtain ⟨x3_1, x4_1, rfl, HA, HK1, HO_3, BK406, HB⟩ := hrel
      cases gk with
      | zero => exact absurd HA.out (by simp [r3_Numbers.l0])
      | succ k1 =>
       have H := HA.out
       clear HA
       simp only [r3_Numbers.l0] at H
       by_cases c9 : x4_1 ≤ a0_0
       · rw [if_pos c9] at H
         have c9b0 : decide (x4_1 ≤ a0_0) = true := decide_eq_true c9
         clear c9
         by_cases c10 : 0 ≤ x4_1
         · rw [if_pos c10] at H
           have c10b0 : decide (0 ≤ x4_1) = true := decide_eq_true c10
           clear c10
           by_cases c11 : x4_1 < (x3_1.length : Int)
           · rw [if_pos c11] at H
             have c11b0 : decide (x4_1 < (x3_1.length : Int)) = true := decide_eq_true c11
             clear c11
             obtain ⟨y410, hy410⟩ : ∃ y_ : List Int, y_ = (x3_1.set (x4_1 : Int).toNat (-1)) := ⟨_, rfl⟩
             replace H : (r3_Numbers.l0 k1 y410 (wrap64 (x4_1 + 1)) a0_0 l0_1 l0_2 l0_3 l0_4 l0_5) = some r := by first | (rw [hy410]; with_reducible exact H) | (have H2_ := (Option.bind_some _ _).symm.trans H; rw [hy410]; with_reducible exact H2_) | (have H2_ := (Option.bind_some _ _).symm.trans H; with_reducible exact H2_) | with_reducible exact H | (rw [hy410]; exact H) | exact H
             have Ny410 := Aside0.mk hy410
             clear hy410
             have H' := Aside0.mk H
             clear H
             obtain ⟨b13_0, b13_1, b13_2, b13_3, b13_4, b13_5, d13_0, d13_1, d13_2, d13_3, d13_4, d13_5⟩ := bk6 BK406.out
             have p12 : 0 ≤ (x4_1 : Int) := of_decide_eq_true zq186
             have q12 : (x4_1 : Int) < ((x3_1.length : Int) : Int) := of_decide_eq_true zq186
             obtain ⟨go12, co12, eo12, gb12, gl12, cl12, HG12⟩ := Kd.R_form HO_3.out (by omega)
             (first | cases eo12 | (injection eo12 with ea_ en_ ec_; (first | subst ea_ | (injection ea_ with ea_; subst ea_)); subst ec_; clear en_))
             have GB12 := Aside0.mk gb12
             have GG12 := Aside0.mk HG12
             clear gb12 gl12 HG12
             obtain ⟨hx12_0, hf12_0⟩ := Kd.R_celln 0 HO_3.out (x4_1 : Int) p12 q12
             replace p12 := eq_true p12
             replace q12 := eq_true q12
             have HP14 := Kd.R_putg HO_3.out (x4_1 : Int) (-1)
             go_wp2_with (first | ((with_reducible refine gate_store (t := 3) (p := 22) rfl ?_); refine store_event (t := 3) (p := 22) (v := ?vo_w15) (w1 := (wr.setCell ⟨go12, (x4_1 : Int).toNat, none⟩ (.int .i64 (-1)))) ?hg ?ho ?hn ?hr ?_; (case ho => rfl); (case hg => rfl); (case hn => rfl); (case hr => first | (go_simp; done) | (go_simp; rfl)); intro w15 hw; have hg : wr.grownBy w15 (some go12) := (by rw [hw]; exact HP14.2); have hp_ : Kd.R (Kd.int .i64) 3 w15 w.heap.size (fun _ => True) (.slice (some ⟨go12, 0, none⟩) x3_1.length co12) y410 := (by rw [hw, Ny410.out]; exact HP14.1); clear HP14; have n0_ := Aside0.mk (hp_); have n1_ := Aside0.mk (blk_grown (g := gb406) (o := .cells #[.int .i64 a0_0, .slice A0_1 l0_1.length c0_1, .slice A0_2 l0_2.length c0_2, .slice A0_3 l0_3.length c0_3, .slice A0_4 l0_4.length c0_4, .slice A0_5 l0_5.length c0_5] 30 (0, 0)) zq130 hg (Kd.R_ne HO_3.out BK406.out (by decide))); have n2_ := Aside0.mk ((by rw [hw]; exact below_set (HB.out) GB12.out : Below w.heap.size w w15)); clear HO_3; clear BK406; clear HB; have HO_3 := n0_; have BK406 := n1_; have HB := n2_; clear n0_ n1_ n2_; clear hg hw hp_))
             go_roundg k1
             case measure => have := HK1.out; omega
             case rel => exact ⟨(y410), (wrap64 (x4_1 + 1)), zq187, H', ⟨by have := HK1.out; omega⟩, ⟨zq177⟩, ⟨zq130⟩, ⟨zq101⟩⟩
           · rw [if_neg c11] at H
             exact absurd H (by simp)
         · rw [if_neg c10] at H
           exact absurd H (by simp)
       · rw [if_neg c9] at H
         have c9b0 : decide (x4_1 ≤ a0_0) = false := decide_eq_false c9
         clear c9
         have H' := Aside0.mk H
         clear H
         obtain ⟨b16_0, b16_1, b16_2, b16_3, b16_4, b16_5, d16_0, d16_1, d16_2, d16_3, d16_4, d16_5⟩ := bk6 BK406.out
         go_wp2
         go_loopg [5, 6] k1 (fun kq v5 v6 w' => ∃ (x3_2 : List Int) (x5_2 : Int) (x6_2 : Int), v5 = .int .i64 x5_2 ∧ v6 = .int .i64 x6_2 ∧ Aside0 (r3_Numbers.l1 kq x3_2 x5_2 x6_2 a0_0 l0_1 l0_2 l0_3 l0_4 l0_5 = some r) ∧ Aside0 (kq ≤ k1) ∧ Aside0 (Kd.R (Kd.int .i64) 3 w' w.heap.size (fun _ => True) v408 x3_2) ∧ Aside0 (w'.heap[gb406]? = some (.cells #[.int .i64 a0_0, (.slice A0_1 l0_1.length c0_1), (.slice A0_2 l0_2.length c0_2), (.slice A0_3 l0_3.length c0_3), (.slice A0_4 l0_4.length c0_4), (.slice A0_5 l0_5.length c0_5)] 30 (0, 0))) ∧ Aside0 (Below w.heap.size w w'))
         case atStart => exact ⟨(x3_1), (1), (0), zq187, zq187, H', ⟨Nat.le_refl _⟩, ⟨zq177⟩, ⟨zq130⟩, ⟨zq101⟩⟩
         case round =>
          clear H'
          try clear c1
          try clear p1
          try clear q1
          try clear hx1
          try clear hf1
          try clear p2
          try clear c3
          try clear c3b0
          try clear c3b1
          try clear c4
          try clear c4b0
          try clear c4b1
          try clear p6
          try clear c9
          try clear c9b0
          try clear c10
          try clear c10b0
          try clear c11
          try clear c11b0
          try clear p12
          try clear q12
          try clear hx12
          try clear hf12
          try clear b13_0
          try clear b13_1
          try clear b13_2
          try clear b13_3
          try clear b13_4
          try clear b13_5
          try clear b16_0
          try clear b16_1
          try clear b16_2
          try clear b16_3
          try clear b16_4
          try clear b16_5
          try clear b6_0
          try clear b6_1
          try clear b6_2
          try clear b6_3
          try clear b6_4
          try clear b6_5
          try clear d13_0
          try clear d13_1
          try clear d13_2
          try clear d13_3
          try clear d13_4
          try clear d13_5
          try clear d16_0
          try clear d16_1
          try clear d16_2
          try clear d16_3
          try clear d16_4
          try clear d16_5
          try clear d6_0
          try clear d6_1
          try clear d6_2
          try clear d6_3
          try clear d6_4
          try clear d6_5
          try clear hx12_0
          try clear p12
          try clear p2
          try clear p6
          try clear q12
          obtain ⟨x3_2, x5_2, x6_2, rfl, rfl, HA, HK2, HO_3, BK406, HB⟩ := hrel
          cases gk with
          | zero => exact absurd HA.out (by simp [r3_Numbers.l1])
          | succ k2 =>
           have H := HA.out
           clear HA
           simp only [r3_Numbers.l1] at H
           by_cases c17 : x6_2 < (l0_1.length : Int)
           · rw [if_pos c17] at H
             have c17b0 : decide (x6_2 < (l0_1.length : Int)) = true := decide_eq_true c17
             clear c17
             by_cases c18 : 0 ≤ x6_2
             · rw [if_pos c18] at H
               have c18b0 : decide (0 ≤ x6_2) = true := decide_eq_true c18
               clear c18
               obtain ⟨ji19, hji19⟩ : ∃ j_ : Int, (wrap64 (Int.tdiv (rd l0_1 x6_2) 2)) = j_ := ⟨_, rfl⟩
               replace H : (if 0 ≤ (ji19) then (if (ji19) < (x3_2.length : Int) then (r3_Numbers.l1 k2 (x3_2.set ((ji19) : Int).toNat x5_2) (wrap64 (x5_2 + 1)) (wrap64 (x6_2 + 1)) a0_0 l0_1 l0_2 l0_3 l0_4 l0_5) else (none)) else (none)) = some r := by first | (rw [hji19] at H; exact H) | (simp only [hji19] at H ⊢; exact H)
               have hji19w : (IntKind.i64.wrap (Int.tdiv (rd l0_1 x6_2) 2)) = ji19 := (i64_w _).trans hji19
               by_cases c20 : 0 ≤ (ji19)
               · rw [if_pos c20] at H
                 have c20b0 : decide (0 ≤ (ji19)) = true := decide_eq_true c20
                 clear c20
                 by_cases c21 : (ji19) < (x3_2.length : Int)
                 · rw [if_pos c21] at H
                   have c21b0 : decide ((ji19) < (x3_2.length : Int)) = true := decide_eq_true c21
                   clear c21
                   obtain ⟨y412, hy412⟩ : ∃ y_ : List Int, y_ = (x3_2.set ((ji19) : Int).toNat x5_2) := ⟨_, rfl⟩
                   replace H : (r3_Numbers.l1 k2 y412 (wrap64 (x5_2 + 1)) (wrap64 (x6_2 + 1)) a0_0 l0_1 l0_2 l0_3 l0_4 l0_5) = some r := by first | (rw [hy412]; with_reducible exact H) | (have H2_ := (Option.bind_some _ _).symm.trans H; rw [hy412]; with_reducible exact H2_) | (have H2_ := (Option.bind_some _ _).symm.trans H; with_reducible exact H2_) | with_reducible exact H | (rw [hy412]; exact H) | exact H
                   have Ny412 := Aside0.mk hy412
                   clear hy412
                   have H' := Aside0.mk H
                   clear H
                   obtain ⟨b23_0, b23_1, b23_2, b23_3, b23_4, b23_5, d23_0, d23_1, d23_2, d23_3, d23_4, d23_5⟩ := bk6 BK406.out
                   have p411 : 0 ≤ (x6_2 : Int) := of_decide_eq_true zq186
                   have q411 : x6_2 < (l0_1.length : Int) := of_decide_eq_true zq186
                   obtain ⟨ad411, e411, hx411_0⟩ := Kd.at_int HR0_1.out x6_2 p411 q411
                   cases e411
                   replace hx411_0 := (HB.out.cell (World.block_lt_of_cell? w _ hx411_0)).trans hx411_0
                   replace p411 := eq_true p411
                   replace q411 := eq_true q411
                   have p22 : 0 ≤ ((ji19) : Int) := of_decide_eq_true zq186
                   have q22 : ((ji19) : Int) < ((x3_2.length : Int) : Int) := of_decide_eq_true zq186
                   obtain ⟨go22, co22, eo22, gb22, gl22, cl22, HG22⟩ := Kd.R_form HO_3.out (by omega)
                   (first | cases eo22 | (injection eo22 with ea_ en_ ec_; (first | subst ea_ | (injection ea_ with ea_; subst ea_)); subst ec_; clear en_))
                   have GB22 := Aside0.mk gb22
                   have GG22 := Aside0.mk HG22
                   clear gb22 gl22 HG22
                   obtain ⟨hx22_0, hf22_0⟩ := Kd.R_celln 0 HO_3.out ((ji19) : Int) p22 q22
                   replace p22 := eq_true p22
                   replace q22 := eq_true q22
                   have HP24 := Kd.R_putg HO_3.out ((ji19) : Int) x5_2
                   go_wp2_with (first | ((with_reducible refine gate_store (t := 3) (p := 38) rfl ?_); refine store_event (t := 3) (p := 38) (v := ?vo_w25) (w1 := (wr.setCell ⟨go22, ((ji19) : Int).toNat, none⟩ (.int .i64 x5_2))) ?hg ?ho ?hn ?hr ?_; (case ho => rfl); (case hg => rfl); (case hn => rfl); (case hr => first | (go_simp; done) | (go_simp; rfl)); intro w25 hw; have hg : wr.grownBy w25 (some go22) := (by rw [hw]; exact HP24.2); have hp_ : Kd.R (Kd.int .i64) 3 w25 w.heap.size (fun _ => True) (.slice (some ⟨go22, 0, none⟩) x3_2.length co22) y412 := (by rw [hw, Ny412.out]; exact HP24.1); clear HP24; have n0_ := Aside0.mk (hp_); have n1_ := Aside0.mk (blk_grown (g := gb406) (o := .cells #[.int .i64 a0_0, .slice (some ad411) l0_1.length c0_1, .slice A0_2 l0_2.length c0_2, .slice A0_3 l0_3.length c0_3, .slice A0_4 l0_4.length c0_4, .slice A0_5 l0_5.length c0_5] 30 (0, 0)) zq130 hg (Kd.R_ne HO_3.out BK406.out (by decide))); have n2_ := Aside0.mk ((by rw [hw]; exact below_set (HB.out) GB22.out : Below w.heap.size w w25)); clear HO_3; clear BK406; clear HB; have HO_3 := n0_; have BK406 := n1_; have HB := n2_; clear n0_ n1_ n2_; clear hg hw hp_))
                   go_roundg k2
                   case measure => have := HK1.out; have := HK2.out; omega
                   case rel => exact ⟨(y412), (wrap64 (x5_2 + 1)), (wrap64 (x6_2 + 1)), zq187, zq187, H', ⟨by have := HK1.out; have := HK2.out; omega⟩, ⟨zq177⟩, ⟨zq130⟩, ⟨zq101⟩⟩
                 · rw [if_neg c21] at H
                   exact absurd H (by simp)
               · rw [if_neg c20] at H
                 exact absurd H (by simp)
             · rw [if_neg c18] at H
               exact absurd H (by simp)
           · rw [if_neg c17] at H
             have c17b0 : decide (x6_2 < (l0_1.length : Int)) = false := decide_eq_false c17
             clear c17
             have H' := Aside0.mk H
             clear H
             obtain ⟨b26_0, b26_1, b26_2, b26_3, b26_4, b26_5, d26_0, d26_1, d26_2, d26_3, d26_4, d26_5⟩ := bk6 BK406.out
             go_wp2
             go_loopg [5, 7] k2 (fun kq v5 v7 w' => ∃ (x3_3 : List Int) (x5_3 : Int) (x7_3 : Int), v5 = .int .i64 x5_3 ∧ v7 = .int .i64 x7_3 ∧ Aside0 (r3_Numbers.l2 kq x3_3 x5_3 x7_3 a0_0 l0_1 l0_2 l0_3 l0_4 l0_5 = some r) ∧ Aside0 (kq ≤ k2) ∧ Aside0 (Kd.R (Kd.int .i64) 3 w' w.heap.size (fun _ => True) v408 x3_3) ∧ Aside0 (w'.heap[gb406]? = some (.cells #[.int .i64 a0_0, (.slice A0_1 l0_1.length c0_1), (.slice A0_2 l0_2.length c0_2), (.slice A0_3 l0_3.length c0_3), (.slice A0_4 l0_4.length c0_4), (.slice A0_5 l0_5.length c0_5)] 30 (0, 0))) ∧ Aside0 (Below w.heap.size w w'))
             case atStart => exact ⟨(x3_2), (x5_2), (0), zq187, zq187, H', ⟨Nat.le_refl _⟩, ⟨zq177⟩, ⟨zq130⟩, ⟨zq101⟩⟩
             case round =>
              clear H'
              try clear c1
              try clear p1
              try clear q1
              try clear hx1
              try clear hf1
              try clear c2
              try clear p2
              try clear q2
              try clear hx2
              try clear hf2
              try clear c3
              try clear c3b0
              try clear c3b1
              try clear c4
              try clear c4b0
              try clear c4b1
              try clear p4
              try clear q4
              try clear hx4
              try clear p6
              try clear c9
              try clear c9b0
              try clear c10
              try clear c10b0
              try clear c11
              try clear c11b0
              try clear p12
              try clear q12
              try clear hx12
              try clear hf12
              try clear c17
              try clear c17b0
              try clear c18
              try clear c18b0
              try clear c20
              try clear c20b0
              try clear c21
              try clear c21b0
              try clear p22
              try clear q22
              try clear hx22
              try clear hf22
              try clear b13_0
              try clear b13_1
              try clear b13_2
              try clear b13_3
              try clear b13_4
              try clear b13_5
              try clear b16_0
              try clear b16_1
              try clear b16_2
              try clear b16_3
              try clear b16_4
              try clear b16_5
              try clear b23_0
              try clear b23_1
              try clear b23_2
              try clear b23_3
              try clear b23_4
              try clear b23_5
              try clear b26_0
              try clear b26_1
              try clear b26_2
              try clear b26_3
              try clear b26_4
              try clear b26_5
              try clear b6_0
              try clear b6_1
              try clear b6_2
              try clear b6_3
              try clear b6_4
              try clear b6_5
              try clear d13_0
              try clear d13_1
              try clear d13_2
              try clear d13_3
              try clear d13_4
              try clear d13_5
              try clear d16_0
              try clear d16_1
              try clear d16_2
              try clear d16_3
              try clear d16_4
              try clear d16_5
              try clear d23_0
              try clear d23_1
              try clear d23_2
              try clear d23_3
              try clear d23_4
              try clear d23_5
              try clear d26_0
              try clear d26_1
              try clear d26_2
              try clear d26_3
              try clear d26_4
              try clear d26_5
              try clear d6_0
              try clear d6_1
              try clear d6_2
              try clear d6_3
              try clear d6_4
              try clear d6_5
              try clear hx12_0
              try clear hx22_0
              try clear hx411_0
              try clear p1
              try clear p12
              try clear p2
              try clear p22
              try clear p411
              try clear p6
              try clear q1
              try clear q12
              try clear q22
              try clear q411
              obtain ⟨x3_3, x5_3, x7_3, rfl, rfl, HA, HK3, HO_3, BK406, HB⟩ := hrel
              cases gk with
              | zero => exact absurd HA.out (by simp [r3_Numbers.l2])
              | succ k3 =>
               have H := HA.out
               clear HA
               simp only [r3_Numbers.l2] at H
               by_cases c27 : x7_3 < (l0_2.length : Int)
               · rw [if_pos c27] at H
                 have c27b0 : decide (x7_3 < (l0_2.length : Int)) = true := decide_eq_true c27
                 clear c27
                 by_cases c28 : 0 ≤ x7_3
                 · rw [if_pos c28] at H
                   have c28b0 : decide (0 ≤ x7_3) = true := decide_eq_true c28
                   clear c28
                   obtain ⟨ji29, hji29⟩ : ∃ j_ : Int, (wrap64 (Int.tdiv ((rd_T56 l0_2 x7_3).f0) 2)) = j_ := ⟨_, rfl⟩
                   replace H : (if 0 ≤ (ji29) then (if (ji29) < (x3_3.length : Int) then (r3_Numbers.l2 k3 (x3_3.set ((ji29) : Int).toNat x5_3) (wrap64 (x5_3 + 1)) (wrap64 (x7_3 + 1)) a0_0 l0_1 l0_2 l0_3 l0_4 l0_5) else (none)) else (none)) = some r := by first | (rw [hji29] at H; exact H) | (simp only [hji29] at H ⊢; exact H)
                   have hji29w : (IntKind.i64.wrap (Int.tdiv ((rd_T56 l0_2 x7_3).f0) 2)) = ji29 := (i64_w _).trans hji29
                   by_cases c30 : 0 ≤ (ji29)
                   · rw [if_pos c30] at H
                     have c30b0 : decide (0 ≤ (ji29)) = true := decide_eq_true c30
                     clear c30
                     by_cases c31 : (ji29) < (x3_3.length : Int)
                     · rw [if_pos c31] at H
                       have c31b0 : decide ((ji29) < (x3_3.length : Int)) = true := decide_eq_true c31
                       clear c31
                       obtain ⟨y414, hy414⟩ : ∃ y_ : List Int, y_ = (x3_3.set ((ji29) : Int).toNat x5_3) := ⟨_, rfl⟩
                       replace H : (r3_Numbers.l2 k3 y414 (wrap64 (x5_3 + 1)) (wrap64 (x7_3 + 1)) a0_0 l0_1 l0_2 l0_3 l0_4 l0_5) = some r := by first | (rw [hy414]; with_reducible exact H) | (have H2_ := (Option.bind_some _ _).symm.trans H; rw [hy414]; with_reducible exact H2_) | (have H2_ := (Option.bind_some _ _).symm.trans H; with_reducible exact H2_) | with_reducible exact H | (rw [hy414]; exact H) | exact H
                       have Ny414 := Aside0.mk hy414
                       clear hy414
                       have H' := Aside0.mk H
                       clear H
                       obtain ⟨b33_0, b33_1, b33_2, b33_3, b33_4, b33_5, d33_0, d33_1, d33_2, d33_3, d33_4, d33_5⟩ := bk6 BK406.out
                       have p413 : 0 ≤ (x7_3 : Int) := of_decide_eq_true zq186
                       have q413 : x7_3 < (l0_2.length : Int) := of_decide_eq_true zq186
                       obtain ⟨ad413, e413, hx413_0, hx413_1, hx413_2⟩ := at_T56 HR0_2.out x7_3 p413 q413
                       cases e413
                       replace hx413_0 := (HB.out.cell (World.block_lt_of_cell? w _ hx413_0)).trans hx413_0
                       replace hx413_1 := (HB.out.cell (World.block_lt_of_cell? w _ hx413_1)).trans hx413_1
                       replace hx413_2 := (HB.out.cell (World.block_lt_of_cell? w _ hx413_2)).trans hx413_2
                       replace p413 := eq_true p413
                       replace q413 := eq_true q413
                       have p32 : 0 ≤ ((ji29) : Int) := of_decide_eq_true zq186
                       have q32 : ((ji29) : Int) < ((x3_3.length : Int) : Int) := of_decide_eq_true zq186
                       obtain ⟨go32, co32, eo32, gb32, gl32, cl32, HG32⟩ := Kd.R_form HO_3.out (by omega)
                       (first | cases eo32 | (injection eo32 with ea_ en_ ec_; (first | subst ea_ | (injection ea_ with ea_; subst ea_)); subst ec_; clear en_))
                       have GB32 := Aside0.mk gb32
                       have GG32 := Aside0.mk HG32
                       clear gb32 gl32 HG32
                       obtain ⟨hx32_0, hf32_0⟩ := Kd.R_celln 0 HO_3.out ((ji29) : Int) p32 q32
                       replace p32 := eq_true p32
                       replace q32 := eq_true q32
                       have HP34 := Kd.R_putg HO_3.out ((ji29) : Int) x5_3
                       go_wp2_with (first | ((with_reducible refine gate_store (t := 3) (p := 57) rfl ?_); refine store_event (t := 3) (p := 57) (v := ?vo_w35) (w1 := (wr.setCell ⟨go32, ((ji29) : Int).toNat, none⟩ (.int .i64 x5_3))) ?hg ?ho ?hn ?hr ?_; (case ho => rfl); (case hg => rfl); (case hn => rfl); (case hr => first | (go_simp; done) | (go_simp; rfl)); intro w35 hw; have hg : wr.grownBy w35 (some go32) := (by rw [hw]; exact HP34.2); have hp_ : Kd.R (Kd.int .i64) 3 w35 w.heap.size (fun _ => True) (.slice (some ⟨go32, 0, none⟩) x3_3.length co32) y414 := (by rw [hw, Ny414.out]; exact HP34.1); clear HP34; have n0_ := Aside0.mk (hp_); have n1_ := Aside0.mk (blk_grown (g := gb406) (o := .cells #[.int .i64 a0_0, .slice A0_1 l0_1.length c0_1, .slice (some ad413) l0_2.length c0_2, .slice A0_3 l0_3.length c0_3, .slice A0_4 l0_4.length c0_4, .slice A0_5 l0_5.length c0_5] 30 (0, 0)) zq130 hg (Kd.R_ne HO_3.out BK406.out (by decide))); have n2_ := Aside0.mk ((by rw [hw]; exact below_set (HB.out) GB32.out : Below w.heap.size w w35)); clear HO_3; clear BK406; clear HB; have HO_3 := n0_; have BK406 := n1_; have HB := n2_; clear n0_ n1_ n2_; clear hg hw hp_))
                       go_roundg k3
                       case measure => have := HK1.out; have := HK2.out; have := HK3.out; omega
                       case rel => exact ⟨(y414), (wrap64 (x5_3 + 1)), (wrap64 (x7_3 + 1)), zq187, zq187, H', ⟨zq183⟩, ⟨zq177⟩, ⟨zq130⟩, ⟨zq101⟩⟩
                     · rw [if_neg c31] at H
                       exact absurd H (by simp)
                   · rw [if_neg c30] at H
                     exact absurd H (by simp)
                 · rw [if_neg c28] at H
                   exact absurd H (by simp)
               · rw [if_neg c27] at H
                 have c27b0 : decide (x7_3 < (l0_2.length : Int)) = false := decide_eq_false c27
                 clear c27
                 replace H := Option.bind_eq_some_iff.mp H
                 obtain ⟨t415, A360, H⟩ := H
                 replace H : (r3_Numbers.l3 k3 x3_3 x5_3 t415 0 a0_0 l0_1 l0_2 l0_3 l0_4 l0_5) = some r := H
                 have A36 := Aside0.mk A360
                 clear A360
                 have H' := Aside0.mk H
                 clear H
                 obtain ⟨b37_0, b37_1, b37_2, b37_3, b37_4, b37_5, d37_0, d37_1, d37_2, d37_3, d37_4, d37_5⟩ := bk6 BK406.out
                 go_wp2_with (first | ((with_reducible refine gate_callee (f := 39) rfl ?_); refine goesL_ (some 61) rfl rfl Try.func39 (by kernel_rfl) rfl #[.agg #[.int .i64 a0_0, .slice A0_1 l0_1.length c0_1, .slice A0_2 l0_2.length c0_2, .slice A0_3 l0_3.length c0_3, .slice A0_4 l0_4.length c0_4, .slice A0_5 l0_5.length c0_5]] rfl zq107 ?_; (with_reducible refine (r3_Order.calls k3 a0_0 _ _ l0_1 _ _ l0_2 _ _ l0_3 _ _ l0_4 _ _ l0_5 t415 _ ?side1 ?side2 ?side3 ?side4 ?side5 ?side6 ?side7 ?side8 ?side9 ?side10 A36.out).mono ?_); (case side1 => exact zq75); (case side2 => exact HC0_1.out); (case side3 => exact zq76); (case side4 => exact HC0_2.out); (case side5 => exact zq77); (case side6 => exact HC0_3.out); (case side7 => exact zq78); (case side8 => exact HC0_4.out); (case side9 => exact zq79); (case side10 => exact HC0_5.out); rintro e w38 ⟨v416, rfl, ho0, hb⟩; refine ⟨_, rfl, ?_⟩; have n0_ := Aside0.mk (Kd.R_elder' zq177 (Kd.R_base ho0) hb); have n1_ := Aside0.mk (Kd.R_lower (Kd.R_new' ho0 (Kd.R_lt zq177)) (below_size zq101)); have n2_ := Aside0.mk (blk_below (g := gb406) (o := .cells #[.int .i64 a0_0, .slice A0_1 l0_1.length c0_1, .slice A0_2 l0_2.length c0_2, .slice A0_3 l0_3.length c0_3, .slice A0_4 l0_4.length c0_4, .slice A0_5 l0_5.length c0_5] 30 (0, 0)) zq130 hb); have n3_ := Aside0.mk (below_step zq101 hb); clear HO_3; clear BK406; clear HB; have HO_3 := n0_; have HO417 := n1_; have BK406 := n2_; have HB := n3_; clear n0_ n1_ n2_ n3_; (try clear hb); (try clear hb2); (try clear hk); (try clear hi); (try clear ho0)))
                 go_loopg [5, 9] k3 (fun kq v5 v9 w' => ∃ (x3_4 : List Int) (x5_4 : Int) (x9_4 : Int), v5 = .int .i64 x5_4 ∧ v9 = .int .i64 x9_4 ∧ Aside0 (r3_Numbers.l3 kq x3_4 x5_4 t415 x9_4 a0_0 l0_1 l0_2 l0_3 l0_4 l0_5 = some r) ∧ Aside0 (kq ≤ k3) ∧ Aside0 (Kd.R (Kd.int .i64) 3 w' w.heap.size (fun k_ => some k_ ≠ (v416 : Value).ownBlock) v408 x3_4) ∧ Aside0 (Kd.R (Kd.int .i64) 3 w' w.heap.size (fun k_ => some k_ ≠ (v408 : Value).ownBlock) v416 t415) ∧ Aside0 (w'.heap[gb406]? = some (.cells #[.int .i64 a0_0, (.slice A0_1 l0_1.length c0_1), (.slice A0_2 l0_2.length c0_2), (.slice A0_3 l0_3.length c0_3), (.slice A0_4 l0_4.length c0_4), (.slice A0_5 l0_5.length c0_5)] 30 (0, 0))) ∧ Aside0 (Below w.heap.size w w'))
                 case atStart => exact ⟨(x3_3), (x5_3), (0), zq187, zq187, H', ⟨Nat.le_refl _⟩, ⟨zq105⟩, ⟨by (with_reducible repeat (first | apply Kd.R_alloc | apply Kd.R_drewN | apply Kd.R_drew)); exact Kd.R_mono HO417.out (fun _ hk => by first | exact hk.2 | exact hk)⟩, ⟨zq130⟩, ⟨zq101⟩⟩
                 case round =>
                  clear H'
                  try clear c1
                  try clear p1
                  try clear q1
                  try clear hx1
                  try clear hf1
                  try clear c2
                  try clear p2
                  try clear q2
                  try clear hx2
                  try clear hf2
                  try clear c3
                  try clear c3b0
                  try clear c3b1
                  try clear p3
                  try clear q3
                  try clear hx3
                  try clear hf3
                  try clear c4
                  try clear c4b0
                  try clear c4b1
                  try clear p4
                  try clear q4
                  try clear hx4
                  try clear p6
                  try clear c9
                  try clear c9b0
                  try clear c10
                  try clear c10b0
                  try clear c11
                  try clear c11b0
                  try clear p12
                  try clear q12
                  try clear hx12
                  try clear hf12
                  try clear c17
                  try clear c17b0
                  try clear c18
                  try clear c18b0
                  try clear c20
                  try clear c20b0
                  try clear c21
                  try clear c21b0
                  try clear p22
                  try clear q22
                  try clear hx22
                  try clear hf22
                  try clear c27
                  try clear c27b0
                  try clear c28
                  try clear c28b0
                  try clear c30
                  try clear c30b0
                  try clear c31
                  try clear c31b0
                  try clear p32
                  try clear q32
                  try clear hx32
                  try clear hf32
                  try clear c38
                  try clear b13_0
                  try clear b13_1
                  try clear b13_2
                  try clear b13_3
                  try clear b13_4
                  try clear b13_5
                  try clear b16_0
                  try clear b16_1
                  try clear b16_2
                  try clear b16_3
                  try clear b16_4
                  try clear b16_5
                  try clear b23_0
                  try clear b23_1
                  try clear b23_2
                  try clear b23_3
                  try clear b23_4
                  try clear b23_5
                  try clear b26_0
                  try clear b26_1
                  try clear b26_2
                  try clear b26_3
                  try clear b26_4
                  try clear b26_5
                  try clear b33_0
                  try clear b33_1
                  try clear b33_2
                  try clear b33_3
                  try clear b33_4
                  try clear b33_5
                  try clear b37_0
                  try clear b37_1
                  try clear b37_2
                  try clear b37_3
                  try clear b37_4
                  try clear b37_5
                  try clear b6_0
                  try clear b6_1
                  try clear b6_2
                  try clear b6_3
                  try clear b6_4
                  try clear b6_5
                  try clear d13_0
                  try clear d13_1
                  try clear d13_2
                  try clear d13_3
                  try clear d13_4
                  try clear d13_5
                  try clear d16_0
                  try clear d16_1
                  try clear d16_2
                  try clear d16_3
                  try clear d16_4
                  try clear d16_5
                  try clear d23_0
                  try clear d23_1
                  try clear d23_2
                  try clear d23_3
                  try clear d23_4
                  try clear d23_5
                  try clear d26_0
                  try clear d26_1
                  try clear d26_2
                  try clear d26_3
                  try clear d26_4
                  try clear d26_5
                  try clear d33_0
                  try clear d33_1
                  try clear d33_2
                  try clear d33_3
                  try clear d33_4
                  try clear d33_5
                  try clear d37_0
                  try clear d37_1
                  try clear d37_2
                  try clear d37_3
                  try clear d37_4
                  try clear d37_5
                  try clear d6_0
                  try clear d6_1
                  try clear d6_2
                  try clear d6_3
                  try clear d6_4
                  try clear d6_5
                  try clear hx12_0
                  try clear hx22_0
                  try clear hx32_0
                  try clear hx411_0
                  try clear hx413_0
                  try clear hx413_1
                  try clear hx413_2
                  try clear p1
                  try clear p12
                  try clear p2
                  try clear p22
                  try clear p32
                  try clear p4
                  try clear p411
                  try clear p413
                  try clear p6
                  try clear q1
                  try clear q12
                  try clear q2
                  try clear q22
                  try clear q32
                  try clear q4
                  try clear q411
                  try clear q413
                  obtain ⟨x3_4, x5_4, x9_4, rfl, rfl, HA, HK4, HO_3, HO_8, BK406, HB⟩ := hrel
                  cases gk with
                  | zero => exact absurd HA.out (by simp [r3_Numbers.l3])
                  | succ k4 =>
                   have H := HA.out
                   clear HA
                   simp only [r3_Numbers.l3] at H
                   by_cases c39 : x9_4 < (t415.length : Int)
                   · rw [if_pos c39] at H
                     have c39b0 : decide (x9_4 < (t415.length : Int)) = true := decide_eq_true c39
                     clear c39
                     by_cases c40 : 0 ≤ x9_4
                     · rw [if_pos c40] at H
                       have c40b0 : decide (0 ≤ x9_4) = true := decide_eq_true c40
                       clear c40
                       by_cases c41 : 0 ≤ (rd t415 x9_4)
                       · rw [if_pos c41] at H
                         have c41b0 : decide (0 ≤ (rd t415 x9_4)) = true := decide_eq_true c41
                         clear c41
                         by_cases c42 : (rd t415 x9_4) < (l0_3.length : Int)
                         · rw [if_pos c42] at H
                           have c42b0 : decide ((rd t415 x9_4) < (l0_3.length : Int)) = true := decide_eq_true c42
                           clear c42
                           obtain ⟨ji43, hji43⟩ : ∃ j_ : Int, (wrap64 (Int.tdiv ((rd_T56 l0_3 (rd t415 x9_4)).f0) 2)) = j_ := ⟨_, rfl⟩
                           replace H : (if 0 ≤ (ji43) then (if (ji43) < (x3_4.length : Int) then (r3_Numbers.l3 k4 (x3_4.set ((ji43) : Int).toNat x5_4) (wrap64 (x5_4 + 1)) t415 (wrap64 (x9_4 + 1)) a0_0 l0_1 l0_2 l0_3 l0_4 l0_5) else (none)) else (none)) = some r := by first | (rw [hji43] at H; exact H) | (simp only [hji43] at H ⊢; exact H)
                           have hji43w : (IntKind.i64.wrap (Int.tdiv ((rd_T56 l0_3 (rd t415 x9_4)).f0) 2)) = ji43 := (i64_w _).trans hji43
                           by_cases c44 : 0 ≤ (ji43)
                           · rw [if_pos c44] at H
                             have c44b0 : decide (0 ≤ (ji43)) = true := decide_eq_true c44
                             clear c44
                             by_cases c45 : (ji43) < (x3_4.length : Int)
                             · rw [if_pos c45] at H
                               have c45b0 : decide ((ji43) < (x3_4.length : Int)) = true := decide_eq_true c45
                               clear c45
                               obtain ⟨y420, hy420⟩ : ∃ y_ : List Int, y_ = (x3_4.set ((ji43) : Int).toNat x5_4) := ⟨_, rfl⟩
                               replace H : (r3_Numbers.l3 k4 y420 (wrap64 (x5_4 + 1)) t415 (wrap64 (x9_4 + 1)) a0_0 l0_1 l0_2 l0_3 l0_4 l0_5) = some r := by first | (rw [hy420]; with_reducible exact H) | (have H2_ := (Option.bind_some _ _).symm.trans H; rw [hy420]; with_reducible exact H2_) | (have H2_ := (Option.bind_some _ _).symm.trans H; with_reducible exact H2_) | with_reducible exact H | (rw [hy420]; exact H) | exact H
                               have Ny420 := Aside0.mk hy420
                               clear hy420
                               have H' := Aside0.mk H
                               clear H
                               obtain ⟨Ao47, co47, eo47⟩ := Kd.R_slice HO_8.out
                               subst eo47
                               try go_wp2
                               have n0_ := Aside0.mk (Kd.R_drew HO_3.out)
                               have n1_ := Aside0.mk (Kd.R_drew HO_8.out)
                               have n2_ := Aside0.mk (blk_drew BK406.out)
                               have n3_ := Aside0.mk (below_drew1 HB.out)
                               clear HO_3
                               clear HO_8
                               clear BK406
                               clear HB
                               have HO_3 := n0_
                               have HO_8 := n1_
                               have BK406 := n2_
                               have HB := n3_
                               clear n0_ n1_ n2_ n3_
                               have p418 : 0 ≤ (x9_4 : Int) := of_decide_eq_true zq186
                               have q418 : x9_4 < (t415.length : Int) := of_decide_eq_true zq186
                               obtain ⟨ad418, e418, hx418_0⟩ := Kd.at_int (Kd.R_reads' HO_8.out).2.2 x9_4 p418 q418
                               cases e418
                               replace p418 := eq_true p418
                               replace q418 := eq_true q418
                               have p419 : 0 ≤ ((rd t415 x9_4) : Int) := of_decide_eq_true zq186
                               have q419 : (rd t415 x9_4) < (l0_3.length : Int) := of_decide_eq_true zq186
                               obtain ⟨ad419, e419, hx419_0, hx419_1, hx419_2⟩ := at_T56 HR0_3.out (rd t415 x9_4) p419 q419
                               have hw419_2 := hx419_2
                               have hw419_1 := hx419_1
                               have hw419_0 := hx419_0
                               cases e419
                               replace hx419_0 := (HB.out.cell (World.block_lt_of_cell? w _ hx419_0)).trans hx419_0
                               replace hx419_1 := (HB.out.cell (World.block_lt_of_cell? w _ hx419_1)).trans hx419_1
                               replace hx419_2 := (HB.out.cell (World.block_lt_of_cell? w _ hx419_2)).trans hx419_2
                               replace p419 := eq_true p419
                               replace q419 := eq_true q419
                               have p46 : 0 ≤ ((ji43) : Int) := of_decide_eq_true zq186
                               have q46 : ((ji43) : Int) < ((x3_4.length : Int) : Int) := of_decide_eq_true zq186
                               obtain ⟨go46, co46, eo46, gb46, gl46, cl46, HG46⟩ := Kd.R_form HO_3.out (by omega)
                               (first | cases eo46 | (injection eo46 with ea_ en_ ec_; (first | subst ea_ | (injection ea_ with ea_; subst ea_)); subst ec_; clear en_))
                               have GB46 := Aside0.mk gb46
                               have GG46 := Aside0.mk HG46
                               clear gb46 gl46 HG46
                               obtain ⟨hx46_0, hf46_0⟩ := Kd.R_celln 0 HO_3.out ((ji43) : Int) p46 q46
                               replace p46 := eq_true p46
                               replace q46 := eq_true q46
                               have HP49 := Kd.R_putn HO_3.out ((ji43) : Int) x5_4
                               rw [← Ny420.out] at HP49
                               have HQ49 := Aside0.mk HP49
                               clear HP49
                               refine start_ (n := 14) (S := fun w' => w'.cell? ⟨gb406, 0, none⟩ = some (.int .i64 a0_0) ∧ w'.cell? ⟨gb406, 1, none⟩ = some (.slice A0_1 l0_1.length c0_1) ∧ w'.cell? ⟨gb406, 2, none⟩ = some (.slice A0_2 l0_2.length c0_2) ∧ w'.cell? ⟨gb406, 3, none⟩ = some (.slice (some ad419) l0_3.length c0_3) ∧ w'.cell? ⟨gb406, 4, none⟩ = some (.slice A0_4 l0_4.length c0_4) ∧ w'.cell? ⟨gb406, 5, none⟩ = some (.slice A0_5 l0_5.length c0_5) ∧ w'.cell? (ad418.add (x9_4).toNat) = some (.int .i64 (rd t415 x9_4)) ∧ w'.cell? (ad419.add (((rd t415 x9_4)).toNat * 3)) = some (.int .i64 ((rd_T56 l0_3 (rd t415 x9_4)).f0)) ∧ w'.cell? ⟨(ad419.add (((rd t415 x9_4)).toNat * 3)).block, (ad419.add (((rd t415 x9_4)).toNat * 3)).off + 1, none⟩ = some (.int .i64 ((rd_T56 l0_3 (rd t415 x9_4)).f1)) ∧ w'.cell? ⟨(ad419.add (((rd t415 x9_4)).toNat * 3)).block, (ad419.add (((rd t415 x9_4)).toNat * 3)).off + 2, none⟩ = some (.int .i64 ((rd_T56 l0_3 (rd t415 x9_4)).f2))) (ds := [13]) #[nN,nN,nN,nN,nN,nN,nN,nN,nN,nN,nN,nN,nN,nN] (by kernel_rfl) rfl rfl ⟨(blk_cell BK406.out 0).trans rfl, (blk_cell BK406.out 1).trans rfl, (blk_cell BK406.out 2).trans rfl, (blk_cell BK406.out 3).trans rfl, (blk_cell BK406.out 4).trans rfl, (blk_cell BK406.out 5).trans rfl, hx418_0, ((HB.out.cell (World.block_lt_of_cell? w _ hw419_0)).trans hw419_0), ((HB.out.cell (World.block_lt_of_cell? w _ hw419_1)).trans hw419_1), ((HB.out.cell (World.block_lt_of_cell? w _ hw419_2)).trans hw419_2)⟩ (fun hHeld => ?_); refine with_tabW r3_Numbers.tab21 r3_Numbers.bits21 (fun HT_ HW_ => ?_)
                               generalize wr.drew = w48 at HO_3 HO_8 BK406 HB GG46 HQ49 hf46_0 hx418_0 hx419_0 hx419_1 hx419_2 hx46_0 hHeld ⊢
                               refine pz 0 68 #[yY,nN,nN,nN,nN,nN,nN,nN,nN,nN,nN,nN,nN,nN] (h := ?_)
                               refine pz 1 69 #[yY,yY,nN,nN,nN,nN,nN,nN,nN,nN,nN,nN,nN,nN] (h := ?_)
                               refine pz 3 71 #[yY,yY,nN,yY,nN,nN,nN,nN,nN,nN,nN,nN,nN,nN] (h := ?_)
                               refine pz 4 72 #[yY,yY,nN,yY,yY,nN,nN,nN,nN,nN,nN,nN,nN,nN] (h := ?_)
                               refine pz 5 73 #[yY,yY,nN,yY,yY,yY,nN,nN,nN,nN,nN,nN,nN,nN] (h := ?_)
                               refine pz 11 79 #[yY,yY,nN,yY,yY,yY,nN,nN,nN,nN,nN,yY,nN,nN] (h := ?_)
                               refine take_ (i := 2) (N := some 70) (v := ?_) (a' := ?_) #[yY,yY,yY,yY,yY,yY,nN,nN,nN,nN,nN,yY,nN,nN] rfl rfl (take_ofW HT_.out HW_.out (by kernel_rfl)) (fun _ _ _ h => h) (Or.inl ⟨by rfl, ?_⟩) hHeld ?_ ?_
                               rotate_left
                               · rintro w' ⟨s0, s1, s2, s3, s4, s5, s6, s7, s8, s9⟩
                                 go_simp
                                 with_reducible rfl
                               rotate_left
                               · simp only [Act.put, List.setIfInBounds_toArray, List.set_cons_zero, List.set_cons_succ, i64_w, i32_w]
                                 rfl
                               refine take_ (i := 6) (N := some 74) (v := ?_) (a' := ?_) #[yY,yY,yY,yY,yY,yY,yY,nN,nN,nN,nN,yY,nN,nN] rfl rfl (take_ofW HT_.out HW_.out (by kernel_rfl)) (fun _ _ _ h => h) (Or.inl ⟨by rfl, ?_⟩) hHeld ?_ ?_
                               rotate_left
                               · rintro w' ⟨s0, s1, s2, s3, s4, s5, s6, s7, s8, s9⟩
                                 go_simp
                                 with_reducible rfl
                               rotate_left
                               · simp only [Act.put, List.setIfInBounds_toArray, List.set_cons_zero, List.set_cons_succ, i64_w, i32_w]
                                 rfl
                               refine pz 7 75 #[yY,yY,yY,yY,yY,yY,yY,yY,nN,nN,nN,yY,nN,nN] (h := ?_)
                               refine pz 8 76 #[yY,yY,yY,yY,yY,yY,yY,yY,yY,nN,nN,yY,nN,nN] (h := ?_)
                               refine take_ (i := 9) (N := some 77) (v := ?_) (a' := ?_) #[yY,yY,yY,yY,yY,yY,yY,yY,yY,yY,nN,yY,nN,nN] rfl rfl (take_ofW HT_.out HW_.out (by kernel_rfl)) (fun _ _ _ h => h) (Or.inl ⟨by rfl, ?_⟩) hHeld ?_ ?_
                               rotate_left
                               · rintro w' ⟨s0, s1, s2, s3, s4, s5, s6, s7, s8, s9⟩
                                 go_simp
                                 with_reducible rfl
                               rotate_left
                               · simp only [Act.put, List.setIfInBounds_toArray, List.set_cons_zero, List.set_cons_succ, i64_w, i32_w]
                                 rfl
                               refine pz 10 78 #[yY,yY,yY,yY,yY,yY,yY,yY,yY,yY,yY,yY,nN,nN] (h := ?_)
                               refine pz 12 80 #[yY,yY,yY,yY,yY,yY,yY,yY,yY,yY,yY,yY,yY,nN] (h := ?_)
                               refine last_ (i := 13) (N := none) #[yY,yY,yY,yY,yY,yY,yY,yY,yY,yY,yY,yY,yY,yY] rfl rfl (one_of HT_.out (by kernel_rfl)) (by decide) (fun K hK => ?_)
                               refine skip_ (w1 := ?_) (by rfl) rfl ?_ ?_
                               rotate_left
                               · go_simp
                                 rfl
                               refine hK.out _ _ ?_
                               clear hK K
                               refine done_ (done_of HT_.out (by kernel_rfl)) ?_
                               try go_wp2
                               go_roundg k4
                               case measure => have := HK1.out; have := HK2.out; have := HK3.out; have := HK4.out; omega
                               case rel => exact ⟨(y420), (wrap64 (x5_4 + 1)), (wrap64 (x9_4 + 1)), zq187, zq187, H', ⟨zq182⟩, ⟨by (with_reducible repeat (first | apply Kd.R_alloc | apply Kd.R_drewN | apply Kd.R_drew)); exact HQ49.out⟩, ⟨by (with_reducible repeat (first | apply Kd.R_alloc | apply Kd.R_drewN | apply Kd.R_drew)); exact Kd.R_mono (Kd.R_far (p := ⟨go46, ((ji43) : Int).toNat, none⟩) (Kd.R_mono HO_8.out (fun k_ hk => (⟨hk, fun e_ => hk (by rw [e_]; rfl)⟩ : _ ∧ k_ ≠ go46))) (fun _ hk => by first | exact hk.2 | exact hk) (.int .i64 x5_4)) (fun _ hk => by first | exact hk.1 | exact hk)⟩, ⟨by (with_reducible repeat (first | refine blk_drewN ?_ _ | refine blk_drew ?_ | refine blk_alloc ?_ _)); refine blk_far ?_ (by have h_ := Kd.R_ne HO_3.out BK406.out (by decide); intro e_; exact h_ (by rw [e_]; rfl)) _; (with_reducible repeat (first | refine blk_drewN ?_ _ | refine blk_drew ?_ | refine blk_alloc ?_ _)); exact BK406.out⟩, ⟨by repeat (first | (with_reducible first | exact HB.out | apply below_alloc | apply pw_below_drewN | apply below_drew1 | refine below_set ?_ GB46.out | refine below_set ?_ GE406.out) | exact HB.out)⟩⟩
                             · rw [if_neg c45] at H
                               exact absurd H (by simp)
                           · rw [if_neg c44] at H
                             exact absurd H (by simp)
                         · rw [if_neg c42] at H
                           exact absurd H (by simp)
                       · rw [if_neg c41] at H
                         exact absurd H (by simp)
                     · rw [if_neg c40] at H
                       exact absurd H (by simp)
                   · rw [if_neg c39] at H
                     have c39b0 : decide (x9_4 < (t415.length : Int)) = false := decide_eq_false c39
                     clear c39
                     obtain rfl := Option.some.inj H
                     obtain ⟨Ao50, co50, eo50⟩ := Kd.R_slice HO_8.out
                     subst eo50
                     go_wp2
                     go_ret
                     exact ⟨_, zq88, zq108, zq101⟩
   · rw [if_neg c4] at H
     exact absurd H (by simp)
 · rw [if_neg c3] at H
   exact absurd H (by simp)
def r3_Told.f (l0 : List Int) (a1 : Int) : Option (Int) := if 0 ≤ (wrap64 (Int.tdiv a1 2)) then (if (wrap64 (Int.tdiv a1 2)) < (l0.length : Int) then (some (wrap64 ((wrap64 (2 * (rd l0 (wrap64 (Int.tdiv a1 2))))) + (Int.tmod a1 2)))) else (none)) else (none)
set_option maxHeartbeats 8000000 in
set_option maxRecDepth 100000 in
theorem r3_Told.calls (A0 : Option Addr) (c0 : Nat) (l0 : List Int) (a1 : Int) (r : Int) (w : World) (hr0 : Kd.C (Kd.int .i64) w A0 l0.length l0) (hc0 : l0.length ≤ c0) (h : r3_Told.f l0 a1 = some r) :
 Calls Try.prog 26 #[.slice A0 l0.length c0, .int .i64 a1] w fun e w' => e = .returned (.int .i64 r) ∧ Drawn0 w w' := by
 have HR0 := Aside0.mk hr0
 have HC0 := Aside0.mk hc0
 clear hr0 hc0
 have H : (if 0 ≤ (wrap64 (Int.tdiv a1 2)) then (if (wrap64 (Int.tdiv a1 2)) < (l0.length : Int) then (some (wrap64 ((wrap64 (2 * (rd l0 (wrap64 (Int.tdiv a1 2))))) + (Int.tmod a1 2)))) else (none)) else (none)) = some r := h
 clear h
 obtain ⟨ji3, hji3⟩ : ∃ j_ : Int, (wrap64 (Int.tdiv a1 2)) = j_ := ⟨_, rfl⟩
 replace H : (if 0 ≤ (ji3) then (if (ji3) < (l0.length : Int) then (some (wrap64 ((wrap64 (2 * (rd l0 (ji3)))) + (Int.tmod a1 2)))) else (none)) else (none)) = some r := by first | (rw [hji3] at H; exact H) | (simp only [hji3] at H ⊢; exact H)
 have hji3w : (IntKind.i64.wrap (Int.tdiv a1 2)) = ji3 := (i64_w _).trans hji3
 by_cases c4 : 0 ≤ (ji3)
 · rw [if_pos c4] at H
   have c4b0 : decide (0 ≤ (ji3)) = true := decide_eq_true c4
   clear c4
   by_cases c5 : (ji3) < (l0.length : Int)
   · rw [if_pos c5] at H
     have c5b0 : decide ((ji3) < (l0.length : Int)) = true := decide_eq_true c5
     clear c5
     obtain rfl := Option.some.inj H
     have p405 : 0 ≤ ((ji3) : Int) := of_decide_eq_true zq186
     have q405 : (ji3) < (l0.length : Int) := of_decide_eq_true zq186
     obtain ⟨ad405, e405, hx405_0⟩ := Kd.at_int HR0.out (ji3) p405 q405
     cases e405
     replace p405 := eq_true p405
     replace q405 := eq_true q405
     go_enter Try.func26, Try.ntmps26
     go_wp2
     go_ret
     exact ⟨by first | rfl | (simp; done) | (simp only [← hji3] <;> (first | rfl | simp)) | (simp [*]; done), zq184⟩
   · rw [if_neg c5] at H
     exact absurd H (by simp)
 · rw [if_neg c4] at H
   exact absurd H (by simp)
mutual
def r3_Circuit.l0 : Nat → List Int → Int → Int → List Int → List (S56) → List (S56) → List Int → List Int → Int → List (S61) → Option (Int × (List (S61)) × (List (S59)) × List Int × List Int × List Int × Int)
 | 0, _, _, _, _, _, _, _, _, _, _ => none
 | k + 1, x5, x7, x422000, x422001, x422002, x422003, x422004, x422005, x429000, x429001 => if x7 < (x422002.length : Int) then (if 0 ≤ x7 then ((r3_Told.f x5 ((rd_T56 x422002 x7).f1)).bind fun t430 => (if x429001.length < 8796093022208 then (r3_Circuit.l0 k x5 (wrap64 (x7 + 1)) x422000 x422001 x422002 x422003 x422004 x422005 x429000 (x429001 ++ [(⟨t430, (rd_T56 x422002 x7).f2⟩ : S61)])) else (none))) else (none)) else ((r3_Order.f k x422000 x422001 x422002 x422003 x422004 x422005).bind fun t435 => (r3_Circuit.l1 k x5 t435 0 x422000 x422001 x422002 x422003 x422004 x422005 x429000 x429001 ([] : List (S59))))
def r3_Circuit.l1 : Nat → List Int → List Int → Int → Int → List Int → List (S56) → List (S56) → List Int → List Int → Int → List (S61) → List (S59) → Option (Int × (List (S61)) × (List (S59)) × List Int × List Int × List Int × Int)
 | 0, _, _, _, _, _, _, _, _, _, _, _, _ => none
 | k + 1, x5, x8, x9, x422000, x422001, x422002, x422003, x422004, x422005, x429000, x429001, x429002 => if x9 < (x8.length : Int) then (if 0 ≤ x9 then (if 0 ≤ (rd x8 x9) then (if (rd x8 x9) < (x422003.length : Int) then ((r3_Told.f x5 ((rd_T56 x422003 (rd x8 x9)).f1)).bind fun t440 => ((r3_Told.f x5 ((rd_T56 x422003 (rd x8 x9)).f2)).bind fun t443 => (if x429002.length < 8796093022208 then (r3_Circuit.l1 k x5 x8 (wrap64 (x9 + 1)) x422000 x422001 x422002 x422003 x422004 x422005 x429000 x429001 (x429002 ++ [(⟨mx t440 t443, mn t440 t443⟩ : S59)])) else (none)))) else (none)) else (none)) else (none)) else (r3_Circuit.l2 k x5 0 x422000 x422001 x422002 x422003 x422004 x422005 x429000 x429001 x429002 ([] : List Int))
def r3_Circuit.l2 : Nat → List Int → Int → Int → List Int → List (S56) → List (S56) → List Int → List Int → Int → List (S61) → List (S59) → List Int → Option (Int × (List (S61)) × (List (S59)) × List Int × List Int × List Int × Int)
 | 0, _, _, _, _, _, _, _, _, _, _, _, _ => none
 | k + 1, x5, x12, x422000, x422001, x422002, x422003, x422004, x422005, x429000, x429001, x429002, x429003 => if x12 < (x422004.length : Int) then (if 0 ≤ x12 then ((r3_Told.f x5 (rd x422004 x12)).bind fun t448 => (if x429003.length < 17592186044416 then (r3_Circuit.l2 k x5 (wrap64 (x12 + 1)) x422000 x422001 x422002 x422003 x422004 x422005 x429000 x429001 x429002 (x429003 ++ [t448])) else (none))) else (none)) else (r3_Circuit.l3 k x5 0 x422000 x422001 x422002 x422003 x422004 x422005 x429000 x429001 x429002 x429003 ([] : List Int))
def r3_Circuit.l3 : Nat → List Int → Int → Int → List Int → List (S56) → List (S56) → List Int → List Int → Int → List (S61) → List (S59) → List Int → List Int → Option (Int × (List (S61)) × (List (S59)) × List Int × List Int × List Int × Int)
 | 0, _, _, _, _, _, _, _, _, _, _, _, _, _ => none
 | k + 1, x5, x13, x422000, x422001, x422002, x422003, x422004, x422005, x429000, x429001, x429002, x429003, x429004 => if x13 < (x422005.length : Int) then (if 0 ≤ x13 then ((r3_Told.f x5 (rd x422005 x13)).bind fun t453 => (if x429004.length < 17592186044416 then (r3_Circuit.l3 k x5 (wrap64 (x13 + 1)) x422000 x422001 x422002 x422003 x422004 x422005 x429000 x429001 x429002 x429003 (x429004 ++ [t453])) else (none))) else (none)) else (some (x429000, x429001, x429002, x429003, x429004, x5, 0))
end
def r3_Circuit.f (k : Nat) (a0_0 : Int) (l0_1 : List Int) (l0_2 : List (S56)) (l0_3 : List (S56)) (l0_4 : List Int) (l0_5 : List Int) : Option (Int × (List (S61)) × (List (S59)) × List Int × List Int × List Int × Int) := (r3_Check.f k a0_0 l0_1 l0_2 l0_3 l0_4 l0_5).bind fun t423 => (if t423 = 0 then ((r3_Numbers.f k a0_0 l0_1 l0_2 l0_3 l0_4 l0_5).bind fun t425 => (r3_Circuit.l0 k t425 0 a0_0 l0_1 l0_2 l0_3 l0_4 l0_5 (l0_1.length : Int) ([] : List (S61)))) else ((r3_Check.f k a0_0 l0_1 l0_2 l0_3 l0_4 l0_5).bind fun t424 => (some (0, ([] : List (S61)), ([] : List (S59)), ([] : List Int), ([] : List Int), ([] : List Int), t424))))
def r3_Circuit.T8 : Bool × List (List Nat × List Nat) := (true, [([], []), ([0], [0]), ([], []), ([], []), ([3], [3]), ([], []), ([4, 5], [4, 5]), ([6], [6]), ([7], [7]), ([2, 8], [2, 8]), ([], []), ([10], [10]), ([], []), ([11, 12], [11, 12]), ([13], [13]), ([14], [14]), ([9, 15], [9, 15]), ([16], [16]), ([1, 17, 9], [1, 17]), ([0, 1, 2, 3, 4, 5, 6, 7, 8, 9, 10, 11, 12, 13, 14, 15, 16, 17, 18], []), ([19, 18, 18, 0, 1, 2, 3, 4, 5, 6, 7, 8, 9, 10, 11, 12, 13, 14, 15, 16, 17, 18], [18, 19])])
def r3_Circuit.B8 : List Nat := [0, 1, 0, 0, 8, 0, 56, 120, 248, 508, 0, 1024, 0, 7168, 15360, 31744, 65532, 131068, 262143, 524287, 1048575]
theorem r3_Circuit.tab8 : rtab .any (opsOf Try.f17 8) = r3_Circuit.T8 := by kernel_rfl
theorem r3_Circuit.bits8 : waitsOk r3_Circuit.T8.2 r3_Circuit.B8 = true := by kernel_rfl
def r3_Circuit.T13 : Bool × List (List Nat × List Nat) := (true, [([], []), ([], []), ([1], [1]), ([], []), ([], []), ([3, 4], [3, 4]), ([5], [5]), ([2, 6], [2, 6]), ([7], [7]), ([8], [8]), ([0, 9], [0, 9]), ([], []), ([], []), ([12], [12]), ([], []), ([], []), ([14, 15], [14, 15]), ([16], [16]), ([13, 17], [13, 17]), ([18], [18]), ([19], [19]), ([11, 20, 10], [11, 20]), ([10, 21, 0, 1, 2, 3, 4, 5, 6, 7, 8, 9, 10], [10]), ([21, 22, 0, 1, 2, 3, 4, 5, 6, 7, 8, 9, 10, 11, 12, 13, 14, 15, 16, 17, 18, 19, 20, 21, 22], [21])])
def r3_Circuit.B13 : List Nat := [0, 0, 2, 0, 0, 24, 56, 126, 254, 510, 1023, 0, 0, 4096, 0, 0, 49152, 114688, 258048, 520192, 1044480, 2097151, 4194303, 8388607]
theorem r3_Circuit.tab13 : rtab .any (opsOf Try.f17 13) = r3_Circuit.T13 := by kernel_rfl
theorem r3_Circuit.bits13 : waitsOk r3_Circuit.T13.2 r3_Circuit.B13 = true := by kernel_rfl
def r3_Circuit.T18 : Bool × List (List Nat × List Nat) := (true, [([], []), ([0], [0]), ([], []), ([], []), ([3], [3]), ([], []), ([4, 5], [4, 5]), ([6], [6]), ([2, 7], [2, 7]), ([8], [8]), ([1, 9, 8], [1, 9]), ([0, 1, 2, 3, 4, 5, 6, 7, 8, 9, 10], []), ([11, 10, 10, 0, 1, 2, 3, 4, 5, 6, 7, 8, 9, 10], [10, 11])])
def r3_Circuit.B18 : List Nat := [0, 1, 0, 0, 8, 0, 56, 120, 252, 508, 1023, 2047, 4095]
theorem r3_Circuit.tab18 : rtab .any (opsOf Try.f17 18) = r3_Circuit.T18 := by kernel_rfl
theorem r3_Circuit.bits18 : waitsOk r3_Circuit.T18.2 r3_Circuit.B18 = true := by kernel_rfl
def r3_Circuit.T22 : Bool × List (List Nat × List Nat) := (true, [([], []), ([0], [0]), ([], []), ([], []), ([3], [3]), ([], []), ([4, 5], [4, 5]), ([6], [6]), ([2, 7], [2, 7]), ([8], [8]), ([1, 9, 8], [1, 9]), ([0, 1, 2, 3, 4, 5, 6, 7, 8, 9, 10], []), ([11, 10, 10, 0, 1, 2, 3, 4, 5, 6, 7, 8, 9, 10], [10, 11])])
def r3_Circuit.B22 : List Nat := [0, 1, 0, 0, 8, 0, 56, 120, 252, 508, 1023, 2047, 4095]
theorem r3_Circuit.tab22 : rtab .any (opsOf Try.f17 22) = r3_Circuit.T22 := by kernel_rfl
theorem r3_Circuit.bits22 : waitsOk r3_Circuit.T22.2 r3_Circuit.B22 = true := by kernel_rfl
set_option maxHeartbeats 8000000 in
set_option maxRecDepth 100000 in
theorem r3_Circuit.calls (k : Nat) (a0_0 : Int) (A0_1 : Option Addr) (c0_1 : Nat) (l0_1 : List Int) (A0_2 : Option Addr) (c0_2 : Nat) (l0_2 : List (S56)) (A0_3 : Option Addr) (c0_3 : Nat) (l0_3 : List (S56)) (A0_4 : Option Addr) (c0_4 : Nat) (l0_4 : List Int) (A0_5 : Option Addr) (c0_5 : Nat) (l0_5 : List Int) (r1 : Int) (r2 : List (S61)) (r3 : List (S59)) (r4 : List Int) (r5 : List Int) (r6 : List Int) (r7 : Int) (w : World) (hr0_1 : Kd.C (Kd.int .i64) w A0_1 l0_1.length l0_1) (hc0_1 : l0_1.length ≤ c0_1) (hr0_2 : Kd.C k56 w A0_2 l0_2.length l0_2) (hc0_2 : l0_2.length ≤ c0_2) (hr0_3 : Kd.C k56 w A0_3 l0_3.length l0_3) (hc0_3 : l0_3.length ≤ c0_3) (hr0_4 : Kd.C (Kd.int .i64) w A0_4 l0_4.length l0_4) (hc0_4 : l0_4.length ≤ c0_4) (hr0_5 : Kd.C (Kd.int .i64) w A0_5 l0_5.length l0_5) (hc0_5 : l0_5.length ≤ c0_5) (h : r3_Circuit.f k a0_0 l0_1 l0_2 l0_3 l0_4 l0_5 = some (r1, r2, r3, r4, r5, r6, r7)) :
 Calls Try.prog 17 #[.agg #[.int .i64 a0_0, .slice A0_1 l0_1.length c0_1, .slice A0_2 l0_2.length c0_2, .slice A0_3 l0_3.length c0_3, .slice A0_4 l0_4.length c0_4, .slice A0_5 l0_5.length c0_5]] w fun e w' => ∃ v1_ v2_ v3_ v4_ v5_ : Value, e = .returned (.tuple #[.agg #[.int .i64 r1, v1_, v2_, v3_, v4_], v5_, .int .i64 r7]) ∧ Kd.R k61 61 w' w.heap.size (fun _ => True) v1_ r2 ∧ Kd.R k59 59 w' w.heap.size (fun _ => True) v2_ r3 ∧ Kd.R (Kd.int .i64) 3 w' w.heap.size (fun k_ => some k_ ≠ (v4_ : Value).ownBlock ∧ some k_ ≠ (v5_ : Value).ownBlock) v3_ r4 ∧ Kd.R (Kd.int .i64) 3 w' w.heap.size (fun k_ => some k_ ≠ (v3_ : Value).ownBlock ∧ some k_ ≠ (v5_ : Value).ownBlock) v4_ r5 ∧ Kd.R (Kd.int .i64) 3 w' w.heap.size (fun k_ => some k_ ≠ (v3_ : Value).ownBlock ∧ some k_ ≠ (v4_ : Value).ownBlock) v5_ r6 ∧ Below w.heap.size w w' := by
 have hu30 := Try.underlying30
 have hu26 := Try.underlying26
 have hu61 := Try.underlying61
 have hu59 := Try.underlying59
 have HR0_1 := Aside0.mk hr0_1
 have HC0_1 := Aside0.mk hc0_1
 clear hr0_1 hc0_1
 have HR0_2 := Aside0.mk hr0_2
 have HC0_2 := Aside0.mk hc0_2
 clear hr0_2 hc0_2
 have HR0_3 := Aside0.mk hr0_3
 have HC0_3 := Aside0.mk hc0_3
 clear hr0_3 hc0_3
 have HR0_4 := Aside0.mk hr0_4
 have HC0_4 := Aside0.mk hc0_4
 clear hr0_4 hc0_4
 have HR0_5 := Aside0.mk hr0_5
 have HC0_5 := Aside0.mk hc0_5
 clear hr0_5 hc0_5
 have HB := Aside0.mk (Below.refl w.heap.size w)
 have H : ((r3_Check.f k a0_0 l0_1 l0_2 l0_3 l0_4 l0_5).bind fun t423 => (if t423 = 0 then ((r3_Numbers.f k a0_0 l0_1 l0_2 l0_3 l0_4 l0_5).bind fun t425 => (r3_Circuit.l0 k t425 0 a0_0 l0_1 l0_2 l0_3 l0_4 l0_5 (l0_1.length : Int) ([] : List (S61)))) else ((r3_Check.f k a0_0 l0_1 l0_2 l0_3 l0_4 l0_5).bind fun t424 => (some (0, ([] : List (S61)), ([] : List (S59)), ([] : List Int), ([] : List Int), ([] : List Int), t424))))) = some (r1, r2, r3, r4, r5, r6, r7) := h
 clear h
 replace H := Option.bind_eq_some_iff.mp H
 obtain ⟨t423, A20, H⟩ := H
 replace H : (if t423 = 0 then ((r3_Numbers.f k a0_0 l0_1 l0_2 l0_3 l0_4 l0_5).bind fun t425 => (r3_Circuit.l0 k t425 0 a0_0 l0_1 l0_2 l0_3 l0_4 l0_5 (l0_1.length : Int) ([] : List (S61)))) else ((r3_Check.f k a0_0 l0_1 l0_2 l0_3 l0_4 l0_5).bind fun t424 => (some (0, ([] : List (S61)), ([] : List (S59)), ([] : List Int), ([] : List Int), ([] : List Int), t424)))) = some (r1, r2, r3, r4, r5, r6, r7) := H
 have A2 := Aside0.mk A20
 clear A20
 by_cases c3 : t423 = 0
 · rw [if_pos c3] at H
   have c3b0 : (t423 == 0) = true := beq_iff_eq.mpr c3
   have c3b1 : (t423 != 0) = false := bne_eq_false_iff_eq.mpr c3
   clear c3
   replace H := Option.bind_eq_some_iff.mp H
   obtain ⟨t425, A40, H⟩ := H
   replace H : (r3_Circuit.l0 k t425 0 a0_0 l0_1 l0_2 l0_3 l0_4 l0_5 (l0_1.length : Int) ([] : List (S61))) = some (r1, r2, r3, r4, r5, r6, r7) := H
   have A4 := Aside0.mk A40
   clear A40
   have H' := Aside0.mk H
   clear H
   go_enter Try.func17, Try.ntmps17
   go_wp2_with (first | ((with_reducible refine gate_dst (N := 1) rfl ?_); refine box_event ?hg (N := 1) ?hd (cs := #[.int .i64 a0_0, .slice A0_1 l0_1.length c0_1, .slice A0_2 l0_2.length c0_2, .slice A0_3 l0_3.length c0_3, .slice A0_4 l0_4.length c0_4, .slice A0_5 l0_5.length c0_5]) (t := 30) ?hr ?_; (case hd => rfl); (case hg => rfl); (case hr => first | (go_simp; done) | (go_simp; rfl)); intro gb421 hg w5 hbox hb; have n0_ := Aside0.mk (below_step zq109 hb); have n1_ := Aside0.mk (hbox); have n2_ := Aside0.mk ((zq89 : w.heap.size ≤ gb421)); have n3_ := Aside0.mk ((zq89 : w.heap.size ≤ gb421)); clear HB; have HB := n0_; have BK421 := n1_; have GW421 := n2_; have GE421 := n3_; clear n0_ n1_ n2_ n3_; clear hb hbox hg) | ((with_reducible refine gate_dst (N := 2) rfl ?_); refine box_event ?hg (N := 2) ?hd (cs := #[.int .i64 0, .slice none 0 0, .slice none 0 0, .slice none 0 0, .slice none 0 0]) (t := 26) ?hr ?_; (case hd => rfl); (case hg => rfl); (case hr => first | (go_simp; done) | (go_simp; rfl)); intro gb422 hg w6 hbox hb; have n0_ := Aside0.mk (blk_below (g := gb421) (o := .cells #[.int .i64 a0_0, .slice A0_1 l0_1.length c0_1, .slice A0_2 l0_2.length c0_2, .slice A0_3 l0_3.length c0_3, .slice A0_4 l0_4.length c0_4, .slice A0_5 l0_5.length c0_5] 30 (0, 0)) zq131 hb); have n1_ := Aside0.mk (below_step zq102 hb); have n2_ := Aside0.mk (hbox); have n3_ := Aside0.mk ((zq59 : w.heap.size ≤ gb422)); have n4_ := Aside0.mk ((zq59 : w.heap.size ≤ gb422)); have n5_ := Aside0.mk ((zq32 : gb421 ≠ gb422)); have n6_ := Aside0.mk ((zq28 : gb422 ≠ gb421)); clear BK421; clear HB; have BK421 := n0_; have HB := n1_; have BK422 := n2_; have GW422 := n3_; have GE422 := n4_; have NB421_422 := n5_; have NB422_421 := n6_; clear n0_ n1_ n2_ n3_ n4_ n5_ n6_; clear hb hbox hg; have hnb7 := NB421_422.out; have hnc7 := NB422_421.out; obtain ⟨b8_0, b8_1, b8_2, b8_3, b8_4, b8_5, d8_0, d8_1, d8_2, d8_3, d8_4, d8_5⟩ := bk6 BK421.out) | ((with_reducible refine gate_callee (f := 19) rfl ?_); refine goesL_ (some 15) rfl rfl Try.func19 (by kernel_rfl) rfl #[.agg #[.int .i64 a0_0, .slice A0_1 l0_1.length c0_1, .slice A0_2 l0_2.length c0_2, .slice A0_3 l0_3.length c0_3, .slice A0_4 l0_4.length c0_4, .slice A0_5 l0_5.length c0_5]] rfl zq107 ?_; (with_reducible refine (r3_Check.calls k a0_0 _ _ l0_1 _ _ l0_2 _ _ l0_3 _ _ l0_4 _ _ l0_5 t423 _ ?side1 ?side2 ?side3 ?side4 ?side5 ?side6 ?side7 ?side8 ?side9 ?side10 A2.out).mono ?_); (case side1 => exact zq75); (case side2 => exact HC0_1.out); (case side3 => exact zq76); (case side4 => exact HC0_2.out); (case side5 => exact zq77); (case side6 => exact HC0_3.out); (case side7 => exact zq78); (case side8 => exact HC0_4.out); (case side9 => exact zq79); (case side10 => exact HC0_5.out); rintro e w9 ⟨rfl, hb⟩; refine ⟨_, rfl, ?_⟩; have n0_ := Aside0.mk (blk_below (g := gb421) (o := .cells #[.int .i64 a0_0, .slice A0_1 l0_1.length c0_1, .slice A0_2 l0_2.length c0_2, .slice A0_3 l0_3.length c0_3, .slice A0_4 l0_4.length c0_4, .slice A0_5 l0_5.length c0_5] 30 (0, 0)) zq131 hb); have n1_ := Aside0.mk (blk_below (g := gb422) (o := .cells #[.int .i64 0, .slice none 0 0, .slice none 0 0, .slice none 0 0, .slice none 0 0] 26 (0, 0)) zq132 hb); have n2_ := Aside0.mk (below_step zq68 hb); clear BK421; clear BK422; clear HB; have BK421 := n0_; have BK422 := n1_; have HB := n2_; clear n0_ n1_ n2_; (try clear hb); (try clear hb2); (try clear hk); (try clear hi); obtain ⟨b10_0, b10_1, b10_2, b10_3, b10_4, b10_5, d10_0, d10_1, d10_2, d10_3, d10_4, d10_5⟩ := bk6 BK421.out) | ((with_reducible refine gate_callee (f := 38) rfl ?_); refine goesL_ (some 21) rfl rfl Try.func38 (by kernel_rfl) rfl #[.agg #[.int .i64 a0_0, .slice A0_1 l0_1.length c0_1, .slice A0_2 l0_2.length c0_2, .slice A0_3 l0_3.length c0_3, .slice A0_4 l0_4.length c0_4, .slice A0_5 l0_5.length c0_5]] rfl zq107 ?_; (with_reducible refine (r3_Numbers.calls k a0_0 _ _ l0_1 _ _ l0_2 _ _ l0_3 _ _ l0_4 _ _ l0_5 t425 _ ?side1 ?side2 ?side3 ?side4 ?side5 ?side6 ?side7 ?side8 ?side9 ?side10 A4.out).mono ?_); (case side1 => exact zq75); (case side2 => exact HC0_1.out); (case side3 => exact zq76); (case side4 => exact HC0_2.out); (case side5 => exact zq77); (case side6 => exact HC0_3.out); (case side7 => exact zq78); (case side8 => exact HC0_4.out); (case side9 => exact zq79); (case side10 => exact HC0_5.out); rintro e w11 ⟨v426, rfl, ho0, hb⟩; refine ⟨_, rfl, ?_⟩; have n0_ := Aside0.mk (Kd.R_lower ho0 (below_size zq68)); have n1_ := Aside0.mk (blk_below (g := gb421) (o := .cells #[.int .i64 a0_0, .slice A0_1 l0_1.length c0_1, .slice A0_2 l0_2.length c0_2, .slice A0_3 l0_3.length c0_3, .slice A0_4 l0_4.length c0_4, .slice A0_5 l0_5.length c0_5] 30 (0, 0)) zq131 hb); have n2_ := Aside0.mk (blk_below (g := gb422) (o := .cells #[.int .i64 0, .slice none 0 0, .slice none 0 0, .slice none 0 0, .slice none 0 0] 26 (0, 0)) zq132 hb); have n3_ := Aside0.mk (below_step zq68 hb); clear BK421; clear BK422; clear HB; have HO427 := n0_; have BK421 := n1_; have BK422 := n2_; have HB := n3_; clear n0_ n1_ n2_ n3_; (try clear hb); (try clear hb2); (try clear hk); (try clear hi); (try clear ho0); obtain ⟨b12_0, b12_1, b12_2, b12_3, b12_4, b12_5, d12_0, d12_1, d12_2, d12_3, d12_4, d12_5⟩ := bk6 BK421.out) | ((with_reducible refine gate_dst (N := 6) rfl ?_); refine box_event ?hg (N := 6) ?hd (cs := #[.int .i64 0, .slice none 0 0, .slice none 0 0, .slice none 0 0, .slice none 0 0]) (t := 26) ?hr ?_; (case hd => rfl); (case hg => rfl); (case hr => first | (go_simp; done) | (go_simp; rfl)); intro gb428 hg w13 hbox hb; have n0_ := Aside0.mk (Kd.R_below (by (with_reducible repeat (first | apply Kd.R_alloc | apply Kd.R_drewN | apply Kd.R_drew)); exact HO427.out) hb); have n1_ := Aside0.mk (blk_below (g := gb421) (o := .cells #[.int .i64 a0_0, .slice A0_1 l0_1.length c0_1, .slice A0_2 l0_2.length c0_2, .slice A0_3 l0_3.length c0_3, .slice A0_4 l0_4.length c0_4, .slice A0_5 l0_5.length c0_5] 30 (0, 0)) zq131 hb); have n2_ := Aside0.mk (blk_below (g := gb422) (o := .cells #[.int .i64 0, .slice none 0 0, .slice none 0 0, .slice none 0 0, .slice none 0 0] 26 (0, 0)) zq132 hb); have n3_ := Aside0.mk (below_step zq68 hb); have n4_ := Aside0.mk (hbox); have n5_ := Aside0.mk ((zq48 : w.heap.size ≤ gb428)); have n6_ := Aside0.mk ((zq48 : w.heap.size ≤ gb428)); have n7_ := Aside0.mk ((zq32 : gb421 ≠ gb428)); have n8_ := Aside0.mk ((zq28 : gb428 ≠ gb421)); have n9_ := Aside0.mk ((by rw [hg]; exact Nat.ne_of_lt (blk_lt (g := gb422) (o := .cells #[.int .i64 0, .slice none 0 0, .slice none 0 0, .slice none 0 0, .slice none 0 0] 26 (0, 0)) zq132) : gb422 ≠ gb428)); have n10_ := Aside0.mk ((by rw [hg]; exact Nat.ne_of_gt (blk_lt (g := gb422) (o := .cells #[.int .i64 0, .slice none 0 0, .slice none 0 0, .slice none 0 0, .slice none 0 0] 26 (0, 0)) zq132) : gb428 ≠ gb422)); clear HO427; clear BK421; clear BK422; clear HB; have HO427 := n0_; have BK421 := n1_; have BK422 := n2_; have HB := n3_; have BK428 := n4_; have GW428 := n5_; have GE428 := n6_; have NB421_428 := n7_; have NB428_421 := n8_; have NB422_428 := n9_; have NB428_422 := n10_; clear n0_ n1_ n2_ n3_ n4_ n5_ n6_ n7_ n8_ n9_ n10_; clear hb hbox hg; have hnb14 := NB428_421.out; have hnc14 := NB421_428.out; have hnb15 := NB428_422.out; have hnc15 := NB422_428.out; obtain ⟨b16_0, b16_1, b16_2, b16_3, b16_4, d16_0, d16_1, d16_2, d16_3, d16_4⟩ := bk5 BK428.out))
   go_loopg [7] k (fun kq v7 w' => ∃ (x7_1 : Int) (x429001_1 : List (S61)) (u429001 : Value), v7 = .int .i64 x7_1 ∧ Aside0 (r3_Circuit.l0 kq t425 x7_1 a0_0 l0_1 l0_2 l0_3 l0_4 l0_5 (l0_1.length : Int) x429001_1 = some (r1, r2, r3, r4, r5, r6, r7)) ∧ Aside0 (kq ≤ k) ∧ Aside0 (Kd.R (Kd.int .i64) 3 w' w.heap.size (fun _ => True) v426 t425) ∧ Aside0 (Kd.R k61 61 w' w.heap.size (fun _ => True) u429001 x429001_1) ∧ Aside0 (w'.heap[gb421]? = some (.cells #[.int .i64 a0_0, (.slice A0_1 l0_1.length c0_1), (.slice A0_2 l0_2.length c0_2), (.slice A0_3 l0_3.length c0_3), (.slice A0_4 l0_4.length c0_4), (.slice A0_5 l0_5.length c0_5)] 30 (0, 0))) ∧ Aside0 (w'.heap[gb422]? = some (.cells #[.int .i64 0, (.slice none 0 0), (.slice none 0 0), (.slice none 0 0), (.slice none 0 0)] 26 (0, 0))) ∧ Aside0 (w'.heap[gb428]? = some (.cells #[.int .i64 (l0_1.length : Int), u429001, (.slice none 0 0), (.slice none 0 0), (.slice none 0 0)] 26 (0, 0))) ∧ Aside0 (Below w.heap.size w w'))
   case atStart => exact ⟨(0), (([] : List (S61))), (.slice none 0 0), zq187, H', ⟨Nat.le_refl _⟩, ⟨by (with_reducible repeat (first | apply Kd.R_alloc | apply Kd.R_drewN | apply Kd.R_drew)); exact Kd.R_mono (Kd.R_far (p := ⟨gb428, 4, none⟩) (Kd.R_far (p := ⟨gb428, 3, none⟩) (Kd.R_far (p := ⟨gb428, 2, none⟩) (Kd.R_far (p := ⟨gb428, 1, none⟩) (Kd.R_far (p := ⟨gb428, 0, none⟩) (Kd.R_types HO427.out BK428.out (by decide)) (fun _ hk => by first | exact hk.2 | exact hk) (.int .i64 (l0_1.length : Int))) (fun _ hk => by first | exact hk.2 | exact hk) (.slice none 0 0)) (fun _ hk => by first | exact hk.2 | exact hk) (.slice none 0 0)) (fun _ hk => by first | exact hk.2 | exact hk) (.slice none 0 0)) (fun _ hk => by first | exact hk.2 | exact hk) (.slice none 0 0)) (fun _ hk => trivial)⟩, ⟨zq106⟩, ⟨by (with_reducible repeat (first | refine blk_drewN ?_ _ | refine blk_drew ?_ | refine blk_alloc ?_ _)); refine blk_far ?_ NB421_428.out _; (with_reducible repeat (first | refine blk_drewN ?_ _ | refine blk_drew ?_ | refine blk_alloc ?_ _)); refine blk_far ?_ NB421_428.out _; (with_reducible repeat (first | refine blk_drewN ?_ _ | refine blk_drew ?_ | refine blk_alloc ?_ _)); refine blk_far ?_ NB421_428.out _; (with_reducible repeat (first | refine blk_drewN ?_ _ | refine blk_drew ?_ | refine blk_alloc ?_ _)); refine blk_far ?_ NB421_428.out _; (with_reducible repeat (first | refine blk_drewN ?_ _ | refine blk_drew ?_ | refine blk_alloc ?_ _)); refine blk_far ?_ NB421_428.out _; (with_reducible repeat (first | refine blk_drewN ?_ _ | refine blk_drew ?_ | refine blk_alloc ?_ _)); exact BK421.out⟩, ⟨by (with_reducible repeat (first | refine blk_drewN ?_ _ | refine blk_drew ?_ | refine blk_alloc ?_ _)); refine blk_far ?_ NB422_428.out _; (with_reducible repeat (first | refine blk_drewN ?_ _ | refine blk_drew ?_ | refine blk_alloc ?_ _)); refine blk_far ?_ NB422_428.out _; (with_reducible repeat (first | refine blk_drewN ?_ _ | refine blk_drew ?_ | refine blk_alloc ?_ _)); refine blk_far ?_ NB422_428.out _; (with_reducible repeat (first | refine blk_drewN ?_ _ | refine blk_drew ?_ | refine blk_alloc ?_ _)); refine blk_far ?_ NB422_428.out _; (with_reducible repeat (first | refine blk_drewN ?_ _ | refine blk_drew ?_ | refine blk_alloc ?_ _)); refine blk_far ?_ NB422_428.out _; (with_reducible repeat (first | refine blk_drewN ?_ _ | refine blk_drew ?_ | refine blk_alloc ?_ _)); exact BK422.out⟩, ⟨by (with_reducible repeat (first | refine blk_drewN ?_ _ | refine blk_drew ?_ | refine blk_alloc ?_ _)); refine blk_put (cs := #[.int .i64 (l0_1.length : Int), .slice none 0 0, .slice none 0 0, .slice none 0 0, .slice none 0 0]) ?_ 4 _ rfl; (with_reducible repeat (first | refine blk_drewN ?_ _ | refine blk_drew ?_ | refine blk_alloc ?_ _)); refine blk_put (cs := #[.int .i64 (l0_1.length : Int), .slice none 0 0, .slice none 0 0, .slice none 0 0, .slice none 0 0]) ?_ 3 _ rfl; (with_reducible repeat (first | refine blk_drewN ?_ _ | refine blk_drew ?_ | refine blk_alloc ?_ _)); refine blk_put (cs := #[.int .i64 (l0_1.length : Int), .slice none 0 0, .slice none 0 0, .slice none 0 0, .slice none 0 0]) ?_ 2 _ rfl; (with_reducible repeat (first | refine blk_drewN ?_ _ | refine blk_drew ?_ | refine blk_alloc ?_ _)); refine blk_put (cs := #[.int .i64 (l0_1.length : Int), .slice none 0 0, .slice none 0 0, .slice none 0 0, .slice none 0 0]) ?_ 1 _ rfl; (with_reducible repeat (first | refine blk_drewN ?_ _ | refine blk_drew ?_ | refine blk_alloc ?_ _)); refine blk_put (cs := #[.int .i64 0, .slice none 0 0, .slice none 0 0, .slice none 0 0, .slice none 0 0]) ?_ 0 _ rfl; (with_reducible repeat (first | refine blk_drewN ?_ _ | refine blk_drew ?_ | refine blk_alloc ?_ _)); exact BK428.out⟩, ⟨zq50⟩⟩
   case round =>
    clear H'
    try clear c1
    try clear p2
    try clear c3
    try clear c3b0
    try clear c3b1
    try clear c7
    try clear c14
    try clear c15
    try clear b10_0
    try clear b10_1
    try clear b10_2
    try clear b10_3
    try clear b10_4
    try clear b10_5
    try clear b12_0
    try clear b12_1
    try clear b12_2
    try clear b12_3
    try clear b12_4
    try clear b12_5
    try clear b16_0
    try clear b16_1
    try clear b16_2
    try clear b16_3
    try clear b16_4
    try clear b8_0
    try clear b8_1
    try clear b8_2
    try clear b8_3
    try clear b8_4
    try clear b8_5
    try clear d10_0
    try clear d10_1
    try clear d10_2
    try clear d10_3
    try clear d10_4
    try clear d10_5
    try clear d12_0
    try clear d12_1
    try clear d12_2
    try clear d12_3
    try clear d12_4
    try clear d12_5
    try clear d16_0
    try clear d16_1
    try clear d16_2
    try clear d16_3
    try clear d16_4
    try clear d8_0
    try clear d8_1
    try clear d8_2
    try clear d8_3
    try clear d8_4
    try clear d8_5
    obtain ⟨x7_1, x429001_1, u429001, rfl, HA, HK1, HO_5, HO_429001, BK421, BK422, BK428, HB⟩ := hrel
    cases gk with
    | zero => exact absurd HA.out (by simp [r3_Circuit.l0])
    | succ k1 =>
     have H := HA.out
     clear HA
     simp only [r3_Circuit.l0] at H
     by_cases c17 : x7_1 < (l0_2.length : Int)
     · rw [if_pos c17] at H
       have c17b0 : decide (x7_1 < (l0_2.length : Int)) = true := decide_eq_true c17
       clear c17
       by_cases c18 : 0 ≤ x7_1
       · rw [if_pos c18] at H
         have c18b0 : decide (0 ≤ x7_1) = true := decide_eq_true c18
         clear c18
         replace H := Option.bind_eq_some_iff.mp H
         obtain ⟨t430, A190, H⟩ := H
         replace H : (if x429001_1.length < 8796093022208 then (r3_Circuit.l0 k1 t425 (wrap64 (x7_1 + 1)) a0_0 l0_1 l0_2 l0_3 l0_4 l0_5 (l0_1.length : Int) (x429001_1 ++ [(⟨t430, (rd_T56 l0_2 x7_1).f2⟩ : S61)])) else (none)) = some (r1, r2, r3, r4, r5, r6, r7) := H
         have A19 := Aside0.mk A190
         clear A190
         by_cases c20 : x429001_1.length < 8796093022208
         · rw [if_pos c20] at H
           have LMc20 := Aside0.mk c20
           clear c20
           obtain ⟨y432, hy432⟩ : ∃ y_ : List (S61), y_ = (x429001_1 ++ [(⟨t430, (rd_T56 l0_2 x7_1).f2⟩ : S61)]) := ⟨_, rfl⟩
           replace H : (r3_Circuit.l0 k1 t425 (wrap64 (x7_1 + 1)) a0_0 l0_1 l0_2 l0_3 l0_4 l0_5 (l0_1.length : Int) y432) = some (r1, r2, r3, r4, r5, r6, r7) := by first | (rw [hy432]; with_reducible exact H) | (have H2_ := (Option.bind_some _ _).symm.trans H; rw [hy432]; with_reducible exact H2_) | (have H2_ := (Option.bind_some _ _).symm.trans H; with_reducible exact H2_) | with_reducible exact H | (rw [hy432]; exact H) | exact H
           have Ny432 := Aside0.mk hy432
           clear hy432
           have H' := Aside0.mk H
           clear H
           have hnb21 := NB421_422.out
           have hnc21 := NB422_421.out
           have hnb22 := NB421_428.out
           have hnc22 := NB428_421.out
           obtain ⟨b23_0, b23_1, b23_2, b23_3, b23_4, b23_5, d23_0, d23_1, d23_2, d23_3, d23_4, d23_5⟩ := bk6 BK421.out
           try go_wp2
           have n0_ := Aside0.mk (Kd.R_drew HO_5.out)
           have n1_ := Aside0.mk (Kd.R_drew HO_429001.out)
           have n2_ := Aside0.mk (blk_drew BK421.out)
           have n3_ := Aside0.mk (blk_drew BK422.out)
           have n4_ := Aside0.mk (blk_drew BK428.out)
           have n5_ := Aside0.mk (below_drew1 HB.out)
           clear HO_5
           clear HO_429001
           clear BK421
           clear BK422
           clear BK428
           clear HB
           have HO_5 := n0_
           have HO_429001 := n1_
           have BK421 := n2_
           have BK422 := n3_
           have BK428 := n4_
           have HB := n5_
           clear n0_ n1_ n2_ n3_ n4_ n5_
           have p429 : 0 ≤ (x7_1 : Int) := of_decide_eq_true zq186
           have q429 : x7_1 < (l0_2.length : Int) := of_decide_eq_true zq186
           obtain ⟨ad429, e429, hx429_0, hx429_1, hx429_2⟩ := at_T56 HR0_2.out x7_1 p429 q429
           have hw429_2 := hx429_2
           have hw429_1 := hx429_1
           have hw429_0 := hx429_0
           cases e429
           replace hx429_0 := (HB.out.cell (World.block_lt_of_cell? w _ hx429_0)).trans hx429_0
           replace hx429_1 := (HB.out.cell (World.block_lt_of_cell? w _ hx429_1)).trans hx429_1
           replace hx429_2 := (HB.out.cell (World.block_lt_of_cell? w _ hx429_2)).trans hx429_2
           replace p429 := eq_true p429
           replace q429 := eq_true q429
           have p431 : 0 ≤ (x7_1 : Int) := of_decide_eq_true zq186
           have q431 : x7_1 < (l0_2.length : Int) := of_decide_eq_true zq186
           obtain ⟨ad431, e431, hx431_0, hx431_1, hx431_2⟩ := at_T56 HR0_2.out x7_1 p431 q431
           have hw431_2 := hx431_2
           have hw431_1 := hx431_1
           have hw431_0 := hx431_0
           obtain rfl : ad429 = ad431 := (by injection e431)
           replace hx431_0 := (HB.out.cell (World.block_lt_of_cell? w _ hx431_0)).trans hx431_0
           replace hx431_1 := (HB.out.cell (World.block_lt_of_cell? w _ hx431_1)).trans hx431_1
           replace hx431_2 := (HB.out.cell (World.block_lt_of_cell? w _ hx431_2)).trans hx431_2
           replace p431 := eq_true p431
           replace q431 := eq_true q431
           obtain ⟨Ao25, co25, eo25⟩ := Kd.R_slice HO_5.out
           (first | subst eo25 | (injection eo25 with f1_ f2_ f3_; have f4_ := f1_.symm; have f5_ := f3_.symm; clear f1_ f2_ f3_; subst f4_; subst f5_))
           refine start_ (n := 21) (S := fun w' => w'.cell? ⟨gb428, 0, none⟩ = some (.int .i64 (l0_1.length : Int)) ∧ w'.cell? ⟨gb428, 1, none⟩ = some (u429001) ∧ w'.cell? ⟨gb428, 2, none⟩ = some (.slice none 0 0) ∧ w'.cell? ⟨gb428, 3, none⟩ = some (.slice none 0 0) ∧ w'.cell? ⟨gb428, 4, none⟩ = some (.slice none 0 0) ∧ w'.cell? ⟨gb421, 0, none⟩ = some (.int .i64 a0_0) ∧ w'.cell? ⟨gb421, 1, none⟩ = some (.slice A0_1 l0_1.length c0_1) ∧ w'.cell? ⟨gb421, 2, none⟩ = some (.slice (some ad429) l0_2.length c0_2) ∧ w'.cell? ⟨gb421, 3, none⟩ = some (.slice A0_3 l0_3.length c0_3) ∧ w'.cell? ⟨gb421, 4, none⟩ = some (.slice A0_4 l0_4.length c0_4) ∧ w'.cell? ⟨gb421, 5, none⟩ = some (.slice A0_5 l0_5.length c0_5) ∧ w'.cell? (ad429.add ((x7_1).toNat * 3)) = some (.int .i64 ((rd_T56 l0_2 x7_1).f0)) ∧ w'.cell? ⟨(ad429.add ((x7_1).toNat * 3)).block, (ad429.add ((x7_1).toNat * 3)).off + 1, none⟩ = some (.int .i64 ((rd_T56 l0_2 x7_1).f1)) ∧ w'.cell? ⟨(ad429.add ((x7_1).toNat * 3)).block, (ad429.add ((x7_1).toNat * 3)).off + 2, none⟩ = some (.int .i64 ((rd_T56 l0_2 x7_1).f2)) ∧ w'.cell? (ad429.add ((x7_1).toNat * 3)) = some (.int .i64 ((rd_T56 l0_2 x7_1).f0)) ∧ w'.cell? ⟨(ad429.add ((x7_1).toNat * 3)).block, (ad429.add ((x7_1).toNat * 3)).off + 1, none⟩ = some (.int .i64 ((rd_T56 l0_2 x7_1).f1)) ∧ w'.cell? ⟨(ad429.add ((x7_1).toNat * 3)).block, (ad429.add ((x7_1).toNat * 3)).off + 2, none⟩ = some (.int .i64 ((rd_T56 l0_2 x7_1).f2))) (ds := [20]) #[nN,nN,nN,nN,nN,nN,nN,nN,nN,nN,nN,nN,nN,nN,nN,nN,nN,nN,nN,nN,nN] (by kernel_rfl) rfl rfl ⟨(blk_cell BK428.out 0).trans rfl, (blk_cell BK428.out 1).trans rfl, (blk_cell BK428.out 2).trans rfl, (blk_cell BK428.out 3).trans rfl, (blk_cell BK428.out 4).trans rfl, (blk_cell BK421.out 0).trans rfl, (blk_cell BK421.out 1).trans rfl, (blk_cell BK421.out 2).trans rfl, (blk_cell BK421.out 3).trans rfl, (blk_cell BK421.out 4).trans rfl, (blk_cell BK421.out 5).trans rfl, ((HB.out.cell (World.block_lt_of_cell? w _ hw429_0)).trans hw429_0), ((HB.out.cell (World.block_lt_of_cell? w _ hw429_1)).trans hw429_1), ((HB.out.cell (World.block_lt_of_cell? w _ hw429_2)).trans hw429_2), ((HB.out.cell (World.block_lt_of_cell? w _ hw431_0)).trans hw431_0), ((HB.out.cell (World.block_lt_of_cell? w _ hw431_1)).trans hw431_1), ((HB.out.cell (World.block_lt_of_cell? w _ hw431_2)).trans hw431_2)⟩ (fun hHeld => ?_); refine with_tabW r3_Circuit.tab8 r3_Circuit.bits8 (fun HT_ HW_ => ?_)
           generalize wr.drew = w24 at HO_5 HO_429001 BK421 BK422 BK428 HB hx429_0 hx429_1 hx429_2 hx431_0 hx431_1 hx431_2 hHeld ⊢
           refine pz 0 33 #[yY,nN,nN,nN,nN,nN,nN,nN,nN,nN,nN,nN,nN,nN,nN,nN,nN,nN,nN,nN,nN] (h := ?_)
           refine pz 2 35 #[yY,nN,yY,nN,nN,nN,nN,nN,nN,nN,nN,nN,nN,nN,nN,nN,nN,nN,nN,nN,nN] (h := ?_)
           refine pz 3 36 #[yY,nN,yY,yY,nN,nN,nN,nN,nN,nN,nN,nN,nN,nN,nN,nN,nN,nN,nN,nN,nN] (h := ?_)
           refine pz 5 38 #[yY,nN,yY,yY,nN,yY,nN,nN,nN,nN,nN,nN,nN,nN,nN,nN,nN,nN,nN,nN,nN] (h := ?_)
           refine pz 10 43 #[yY,nN,yY,yY,nN,yY,nN,nN,nN,nN,yY,nN,nN,nN,nN,nN,nN,nN,nN,nN,nN] (h := ?_)
           refine pz 12 45 #[yY,nN,yY,yY,nN,yY,nN,nN,nN,nN,yY,nN,yY,nN,nN,nN,nN,nN,nN,nN,nN] (h := ?_)
           refine take_ (i := 1) (N := some 34) (v := ?_) (a' := ?_) #[yY,yY,yY,yY,nN,yY,nN,nN,nN,nN,yY,nN,yY,nN,nN,nN,nN,nN,nN,nN,nN] rfl rfl (take_ofW HT_.out HW_.out (by kernel_rfl)) (fun _ _ _ h => h) (Or.inl ⟨by rfl, ?_⟩) hHeld ?_ ?_
           rotate_left
           · rintro w' ⟨s0, s1, s2, s3, s4, s5, s6, s7, s8, s9, s10, s11, s12, s13, s14, s15, s16⟩
             go_simp
             with_reducible rfl
           rotate_left
           · simp only [Act.put, List.setIfInBounds_toArray, List.set_cons_zero, List.set_cons_succ, i64_w, i32_w]
             rfl
           refine take_ (i := 4) (N := some 37) (v := ?_) (a' := ?_) #[yY,yY,yY,yY,yY,yY,nN,nN,nN,nN,yY,nN,yY,nN,nN,nN,nN,nN,nN,nN,nN] rfl rfl (take_ofW HT_.out HW_.out (by kernel_rfl)) (fun _ _ _ h => h) (Or.inl ⟨by rfl, ?_⟩) hHeld ?_ ?_
           rotate_left
           · rintro w' ⟨s0, s1, s2, s3, s4, s5, s6, s7, s8, s9, s10, s11, s12, s13, s14, s15, s16⟩
             go_simp
             with_reducible rfl
           rotate_left
           · simp only [Act.put, List.setIfInBounds_toArray, List.set_cons_zero, List.set_cons_succ, i64_w, i32_w]
             rfl
           refine pz 6 39 #[yY,yY,yY,yY,yY,yY,yY,nN,nN,nN,yY,nN,yY,nN,nN,nN,nN,nN,nN,nN,nN] (h := ?_)
           refine pz 7 40 #[yY,yY,yY,yY,yY,yY,yY,yY,nN,nN,yY,nN,yY,nN,nN,nN,nN,nN,nN,nN,nN] (h := ?_)
           refine take_ (i := 8) (N := some 41) (v := ?_) (a' := ?_) #[yY,yY,yY,yY,yY,yY,yY,yY,yY,nN,yY,nN,yY,nN,nN,nN,nN,nN,nN,nN,nN] rfl rfl (take_ofW HT_.out HW_.out (by kernel_rfl)) (fun _ _ _ h => h) (Or.inl ⟨by rfl, ?_⟩) hHeld ?_ ?_
           rotate_left
           · rintro w' ⟨s0, s1, s2, s3, s4, s5, s6, s7, s8, s9, s10, s11, s12, s13, s14, s15, s16⟩
             go_simp
             with_reducible rfl
           rotate_left
           · simp only [Act.put, List.setIfInBounds_toArray, List.set_cons_zero, List.set_cons_succ, i64_w, i32_w]
             rfl
           refine take_ (i := 11) (N := some 44) (v := ?_) (a' := ?_) #[yY,yY,yY,yY,yY,yY,yY,yY,yY,nN,yY,yY,yY,nN,nN,nN,nN,nN,nN,nN,nN] rfl rfl (take_ofW HT_.out HW_.out (by kernel_rfl)) (fun _ _ _ h => h) (Or.inl ⟨by rfl, ?_⟩) hHeld ?_ ?_
           rotate_left
           · rintro w' ⟨s0, s1, s2, s3, s4, s5, s6, s7, s8, s9, s10, s11, s12, s13, s14, s15, s16⟩
             go_simp
             with_reducible rfl
           rotate_left
           · simp only [Act.put, List.setIfInBounds_toArray, List.set_cons_zero, List.set_cons_succ, i64_w, i32_w]
             rfl
           refine pz 13 46 #[yY,yY,yY,yY,yY,yY,yY,yY,yY,nN,yY,yY,yY,yY,nN,nN,nN,nN,nN,nN,nN] (h := ?_)
           refine pz 14 47 #[yY,yY,yY,yY,yY,yY,yY,yY,yY,nN,yY,yY,yY,yY,yY,nN,nN,nN,nN,nN,nN] (h := ?_)
           refine take_ (i := 15) (N := some 48) (v := ?_) (a' := ?_) #[yY,yY,yY,yY,yY,yY,yY,yY,yY,nN,yY,yY,yY,yY,yY,yY,nN,nN,nN,nN,nN] rfl rfl (take_ofW HT_.out HW_.out (by kernel_rfl)) (fun _ _ _ h => h) (Or.inl ⟨by rfl, ?_⟩) hHeld ?_ ?_
           rotate_left
           · rintro w' ⟨s0, s1, s2, s3, s4, s5, s6, s7, s8, s9, s10, s11, s12, s13, s14, s15, s16⟩
             go_simp
             with_reducible rfl
           rotate_left
           · simp only [Act.put, List.setIfInBounds_toArray, List.set_cons_zero, List.set_cons_succ, i64_w, i32_w]
             rfl
           refine one_ (i := 9) (N := some 42) #[yY,yY,yY,yY,yY,yY,yY,yY,yY,yY,yY,yY,yY,yY,yY,yY,nN,nN,nN,nN,nN] rfl rfl (one_of HT_.out (by kernel_rfl)) (by decide) (fun K hK => ?_)
           refine goes_ Try.func26 (by kernel_rfl) rfl #[.slice Ao25 t425.length co25, .int .i64 ((rd_T56 l0_2 x7_1).f1)] (by rfl) rfl rfl zq107 ?_
           with_reducible refine (r3_Told.calls _ _ t425 ((rd_T56 l0_2 x7_1).f1) t430 _ ?side1 ?side2 A19.out).mono ?_
           (case side1 => exact zq87)
           (case side2 => exact (Kd.R_reads' HO_5.out).2.1)
           rintro e w' ⟨rfl, ⟨nd, rfl⟩⟩
           refine ⟨_, rfl, ?_⟩
           refine hK.out _ _ ⟨(blk_cell BK428.out 0).trans rfl, (blk_cell BK428.out 1).trans rfl, (blk_cell BK428.out 2).trans rfl, (blk_cell BK428.out 3).trans rfl, (blk_cell BK428.out 4).trans rfl, (blk_cell BK421.out 0).trans rfl, (blk_cell BK421.out 1).trans rfl, (blk_cell BK421.out 2).trans rfl, (blk_cell BK421.out 3).trans rfl, (blk_cell BK421.out 4).trans rfl, (blk_cell BK421.out 5).trans rfl, ((HB.out.cell (World.block_lt_of_cell? w _ hw429_0)).trans hw429_0), ((HB.out.cell (World.block_lt_of_cell? w _ hw429_1)).trans hw429_1), ((HB.out.cell (World.block_lt_of_cell? w _ hw429_2)).trans hw429_2), ((HB.out.cell (World.block_lt_of_cell? w _ hw431_0)).trans hw431_0), ((HB.out.cell (World.block_lt_of_cell? w _ hw431_1)).trans hw431_1), ((HB.out.cell (World.block_lt_of_cell? w _ hw431_2)).trans hw431_2)⟩ (fun hHeld => ?_)
           clear hK K
           refine norm_ (a' := ?_) ?_ ?_
           rotate_left
           · show Act.put _ (some 42) _ = _
             simp only [Act.put, List.setIfInBounds_toArray, List.set_cons_zero, List.set_cons_succ, i64_w, i32_w]
             rfl
           refine pz 16 49 #[yY,yY,yY,yY,yY,yY,yY,yY,yY,yY,yY,yY,yY,yY,yY,yY,yY,nN,nN,nN,nN] (h := ?_)
           refine one_ (i := 17) (N := some 50) #[yY,yY,yY,yY,yY,yY,yY,yY,yY,yY,yY,yY,yY,yY,yY,yY,yY,yY,nN,nN,nN] rfl rfl (one_of HT_.out (by kernel_rfl)) (by decide) (fun K hK => ?_)
           refine value_ (w1 := ?_) (v := ?_) (by rfl) rfl ?_ ?_
           rotate_left 2
           · go_simp
             constructor
             · rfl
             · rfl
           refine hK.out _ _ ⟨(blk_cell (blk_alloc BK428.out _) 0).trans rfl, (blk_cell (blk_alloc BK428.out _) 1).trans rfl, (blk_cell (blk_alloc BK428.out _) 2).trans rfl, (blk_cell (blk_alloc BK428.out _) 3).trans rfl, (blk_cell (blk_alloc BK428.out _) 4).trans rfl, (blk_cell (blk_alloc BK421.out _) 0).trans rfl, (blk_cell (blk_alloc BK421.out _) 1).trans rfl, (blk_cell (blk_alloc BK421.out _) 2).trans rfl, (blk_cell (blk_alloc BK421.out _) 3).trans rfl, (blk_cell (blk_alloc BK421.out _) 4).trans rfl, (blk_cell (blk_alloc BK421.out _) 5).trans rfl, (World.cell?_alloc_lt _ _ _ (World.block_lt_of_cell? _ _ (((HB.out.cell (World.block_lt_of_cell? w _ hw429_0)).trans hw429_0)))).trans (((HB.out.cell (World.block_lt_of_cell? w _ hw429_0)).trans hw429_0)), (World.cell?_alloc_lt _ _ _ (World.block_lt_of_cell? _ _ (((HB.out.cell (World.block_lt_of_cell? w _ hw429_1)).trans hw429_1)))).trans (((HB.out.cell (World.block_lt_of_cell? w _ hw429_1)).trans hw429_1)), (World.cell?_alloc_lt _ _ _ (World.block_lt_of_cell? _ _ (((HB.out.cell (World.block_lt_of_cell? w _ hw429_2)).trans hw429_2)))).trans (((HB.out.cell (World.block_lt_of_cell? w _ hw429_2)).trans hw429_2)), (World.cell?_alloc_lt _ _ _ (World.block_lt_of_cell? _ _ (((HB.out.cell (World.block_lt_of_cell? w _ hw431_0)).trans hw431_0)))).trans (((HB.out.cell (World.block_lt_of_cell? w _ hw431_0)).trans hw431_0)), (World.cell?_alloc_lt _ _ _ (World.block_lt_of_cell? _ _ (((HB.out.cell (World.block_lt_of_cell? w _ hw431_1)).trans hw431_1)))).trans (((HB.out.cell (World.block_lt_of_cell? w _ hw431_1)).trans hw431_1)), (World.cell?_alloc_lt _ _ _ (World.block_lt_of_cell? _ _ (((HB.out.cell (World.block_lt_of_cell? w _ hw431_2)).trans hw431_2)))).trans (((HB.out.cell (World.block_lt_of_cell? w _ hw431_2)).trans hw431_2))⟩ (fun hHeld => ?_)
           clear hK K
           refine norm_ (a' := ?_) ?_ ?_
           rotate_left
           · show Act.put _ (some 50) _ = _
             simp only [Act.put, List.setIfInBounds_toArray, List.set_cons_zero, List.set_cons_succ, i64_w, i32_w]
             rfl
           refine one_ (i := 18) (N := some 51) #[yY,yY,yY,yY,yY,yY,yY,yY,yY,yY,yY,yY,yY,yY,yY,yY,yY,yY,yY,nN,nN] rfl rfl (one_of HT_.out (by kernel_rfl)) (by decide) (fun K hK => ?_)
           refine Kd.R_append_step k61 (w0 := w) w.heap.size (by rfl) (.tmp 34) (.tmp 50) 22 61 (.agg #[(.int .i64 0), (.int .i64 0)]) 16 rfl Try.underlying22 info61 rfl (by decide) (by omega) u429001 x429001_1 (⟨t430, (rd_T56 l0_2 x7_1).f2⟩ : S61) [.int .i64 t430, .int .i64 ((rd_T56 l0_2 x7_1).f2)] (fun _ => True) (fun _ => False) rfl rfl ?aP (fun _ hk => hk.elim) ?aF ?aO ?aB ?aS ?aL ?_
           (case aP => exact k61_mkM _ _ _ (⟨t430, (rd_T56 l0_2 x7_1).f2⟩ : S61))
           (case aB => exact zq47)
           (case aF => exact (fun _ _ => trivial))
           (case aO => exact zq141)
           (case aS => exact zq46)
           (case aL => have := LMc20.out; omega)
           intro v433 w26 ho hb hg hat
           rw [← Ny432.out] at ho
           have n0_ := Aside0.mk (Kd.R_over' zq179 (Kd.R_typed zq141) (by decide) hg)
           have n1_ := Aside0.mk (blk_grown (g := gb421) (o := .cells #[.int .i64 a0_0, .slice A0_1 l0_1.length c0_1, .slice (some ad429) l0_2.length c0_2, .slice A0_3 l0_3.length c0_3, .slice A0_4 l0_4.length c0_4, .slice A0_5 l0_5.length c0_5] 30 (0, 0)) zq131 hg (Kd.R_ne HO_429001.out BK421.out (by decide)))
           have n2_ := Aside0.mk (blk_grown (g := gb422) (o := .cells #[.int .i64 0, .slice none 0 0, .slice none 0 0, .slice none 0 0, .slice none 0 0] 26 (0, 0)) zq132 hg (Kd.R_ne HO_429001.out BK422.out (by decide)))
           have n3_ := Aside0.mk (blk_grown (g := gb428) (o := .cells #[.int .i64 (l0_1.length : Int), u429001, .slice none 0 0, .slice none 0 0, .slice none 0 0] 26 (0, 0)) zq133 hg (Kd.R_ne HO_429001.out BK428.out (by decide)))
           have n4_ := Aside0.mk (hb)
           have n5_ := Aside0.mk (ho)
           clear HO_5
           clear BK421
           clear BK422
           clear BK428
           clear HB
           clear HO_429001
           have HO_5 := n0_
           have BK421 := n1_
           have BK422 := n2_
           have BK428 := n3_
           have HB := n4_
           have HO434 := n5_
           clear n0_ n1_ n2_ n3_ n4_ n5_
           clear ho hb hg hat
           obtain ⟨Ao27, co27, eo27⟩ := Kd.R_slice HO434.out
           (first | subst eo27 | (injection eo27 with f1_ f2_ f3_; have f4_ := f1_.symm; have f5_ := f3_.symm; clear f1_ f2_ f3_; subst f4_; subst f5_))
           refine hK.out _ _ ⟨(blk_cell BK428.out 0).trans rfl, (blk_cell BK428.out 1).trans rfl, (blk_cell BK428.out 2).trans rfl, (blk_cell BK428.out 3).trans rfl, (blk_cell BK428.out 4).trans rfl, (blk_cell BK421.out 0).trans rfl, (blk_cell BK421.out 1).trans rfl, (blk_cell BK421.out 2).trans rfl, (blk_cell BK421.out 3).trans rfl, (blk_cell BK421.out 4).trans rfl, (blk_cell BK421.out 5).trans rfl, ((HB.out.cell (World.block_lt_of_cell? w _ hw429_0)).trans hw429_0), ((HB.out.cell (World.block_lt_of_cell? w _ hw429_1)).trans hw429_1), ((HB.out.cell (World.block_lt_of_cell? w _ hw429_2)).trans hw429_2), ((HB.out.cell (World.block_lt_of_cell? w _ hw431_0)).trans hw431_0), ((HB.out.cell (World.block_lt_of_cell? w _ hw431_1)).trans hw431_1), ((HB.out.cell (World.block_lt_of_cell? w _ hw431_2)).trans hw431_2)⟩ (fun hHeld => ?_)
           clear hK K
           refine norm_ (a' := ?_) ?_ ?_
           rotate_left
           · show Act.put _ (some 51) _ = _
             simp only [Act.put, List.setIfInBounds_toArray, List.set_cons_zero, List.set_cons_succ, i64_w, i32_w]
             rfl
           refine pz 19 52 #[yY,yY,yY,yY,yY,yY,yY,yY,yY,yY,yY,yY,yY,yY,yY,yY,yY,yY,yY,yY,nN] (h := ?_)
           refine last_ (i := 20) (N := none) #[yY,yY,yY,yY,yY,yY,yY,yY,yY,yY,yY,yY,yY,yY,yY,yY,yY,yY,yY,yY,yY] rfl rfl (one_of HT_.out (by kernel_rfl)) (by decide) (fun K hK => ?_)
           have hs28 : w26.cell? ⟨gb428, 1, none⟩ = some (u429001) := (blk_cell BK428.out 1).trans rfl
           have hfs28 := blk_frozen BK428.out 1
           have hns28_0 := NB421_428.out
           have hns28_1 := NB422_428.out
           have hms28_0 := NB428_421.out
           have hms28_1 := NB428_422.out
           refine skip_ (w1 := ?_) (by rfl) rfl ?_ ?_
           rotate_left
           · go_simp
             rfl
           refine hK.out _ _ ?_
           clear hK K
           refine done_ (done_of HT_.out (by kernel_rfl)) ?_
           try go_wp2
           go_roundg k1
           case measure => have := HK1.out; omega
           case rel => exact ⟨(wrap64 (x7_1 + 1)), (y432), (.slice Ao27 y432.length co27), zq187, H', ⟨by have := HK1.out; omega⟩, ⟨by (with_reducible repeat (first | apply Kd.R_alloc | apply Kd.R_drewN | apply Kd.R_drew)); exact Kd.R_mono (Kd.R_far (p := ⟨gb428, 1, none⟩) (Kd.R_types HO_5.out BK428.out (by decide)) (fun _ hk => by first | exact hk.2 | exact hk) (.slice Ao27 y432.length co27)) (fun _ hk => trivial)⟩, ⟨by (with_reducible repeat (first | apply Kd.R_alloc | apply Kd.R_drewN | apply Kd.R_drew)); exact Kd.R_mono (Kd.R_far (p := ⟨gb428, 1, none⟩) (Kd.R_types HO434.out BK428.out (by decide)) (fun _ hk => by first | exact hk.2 | exact hk) (.slice Ao27 y432.length co27)) (fun _ hk => trivial)⟩, ⟨zq44⟩, ⟨zq45⟩, ⟨by (with_reducible repeat (first | refine blk_drewN ?_ _ | refine blk_drew ?_ | refine blk_alloc ?_ _)); refine blk_put (cs := #[.int .i64 (l0_1.length : Int), u429001, .slice none 0 0, .slice none 0 0, .slice none 0 0]) ?_ 1 _ rfl; (with_reducible repeat (first | refine blk_drewN ?_ _ | refine blk_drew ?_ | refine blk_alloc ?_ _)); exact BK428.out⟩, ⟨zq50⟩⟩
         · rw [if_neg c20] at H
           exact absurd H (by simp)
       · rw [if_neg c18] at H
         exact absurd H (by simp)
     · rw [if_neg c17] at H
       have c17b0 : decide (x7_1 < (l0_2.length : Int)) = false := decide_eq_false c17
       clear c17
       replace H := Option.bind_eq_some_iff.mp H
       obtain ⟨t435, A290, H⟩ := H
       replace H : (r3_Circuit.l1 k1 t425 t435 0 a0_0 l0_1 l0_2 l0_3 l0_4 l0_5 (l0_1.length : Int) x429001_1 ([] : List (S59))) = some (r1, r2, r3, r4, r5, r6, r7) := H
       have A29 := Aside0.mk A290
       clear A290
       have H' := Aside0.mk H
       clear H
       have hnb30 := NB421_422.out
       have hnc30 := NB422_421.out
       have hnb31 := NB421_428.out
       have hnc31 := NB428_421.out
       obtain ⟨b32_0, b32_1, b32_2, b32_3, b32_4, b32_5, d32_0, d32_1, d32_2, d32_3, d32_4, d32_5⟩ := bk6 BK421.out
       go_wp2_with (first | ((with_reducible refine gate_callee (f := 39) rfl ?_); refine goesL_ (some 54) rfl rfl Try.func39 (by kernel_rfl) rfl #[.agg #[.int .i64 a0_0, .slice A0_1 l0_1.length c0_1, .slice A0_2 l0_2.length c0_2, .slice A0_3 l0_3.length c0_3, .slice A0_4 l0_4.length c0_4, .slice A0_5 l0_5.length c0_5]] rfl zq107 ?_; (with_reducible refine (r3_Order.calls k1 a0_0 _ _ l0_1 _ _ l0_2 _ _ l0_3 _ _ l0_4 _ _ l0_5 t435 _ ?side1 ?side2 ?side3 ?side4 ?side5 ?side6 ?side7 ?side8 ?side9 ?side10 A29.out).mono ?_); (case side1 => exact zq75); (case side2 => exact HC0_1.out); (case side3 => exact zq76); (case side4 => exact HC0_2.out); (case side5 => exact zq77); (case side6 => exact HC0_3.out); (case side7 => exact zq78); (case side8 => exact HC0_4.out); (case side9 => exact zq79); (case side10 => exact HC0_5.out); rintro e w33 ⟨v436, rfl, ho0, hb⟩; refine ⟨_, rfl, ?_⟩; have n0_ := Aside0.mk (Kd.R_elder' zq179 (Kd.R_base ho0) hb); have n1_ := Aside0.mk (Kd.R_below zq141 hb); have n2_ := Aside0.mk (Kd.R_lower (Kd.R_new' ho0 (Kd.R_lt zq179)) (below_size zq50)); have n3_ := Aside0.mk (blk_below (g := gb421) (o := .cells #[.int .i64 a0_0, .slice A0_1 l0_1.length c0_1, .slice A0_2 l0_2.length c0_2, .slice A0_3 l0_3.length c0_3, .slice A0_4 l0_4.length c0_4, .slice A0_5 l0_5.length c0_5] 30 (0, 0)) zq131 hb); have n4_ := Aside0.mk (blk_below (g := gb422) (o := .cells #[.int .i64 0, .slice none 0 0, .slice none 0 0, .slice none 0 0, .slice none 0 0] 26 (0, 0)) zq132 hb); have n5_ := Aside0.mk (blk_below (g := gb428) (o := .cells #[.int .i64 (l0_1.length : Int), u429001, .slice none 0 0, .slice none 0 0, .slice none 0 0] 26 (0, 0)) zq133 hb); have n6_ := Aside0.mk (below_step zq50 hb); clear HO_5; clear HO_429001; clear BK421; clear BK422; clear BK428; clear HB; have HO_5 := n0_; have HO_429001 := n1_; have HO437 := n2_; have BK421 := n3_; have BK422 := n4_; have BK428 := n5_; have HB := n6_; clear n0_ n1_ n2_ n3_ n4_ n5_ n6_; (try clear hb); (try clear hb2); (try clear hk); (try clear hi); (try clear ho0)))
       go_loopg [9] k1 (fun kq v9 w' => ∃ (x9_2 : Int) (x429002_2 : List (S59)) (u429002 : Value), v9 = .int .i64 x9_2 ∧ Aside0 (r3_Circuit.l1 kq t425 t435 x9_2 a0_0 l0_1 l0_2 l0_3 l0_4 l0_5 (l0_1.length : Int) x429001_1 x429002_2 = some (r1, r2, r3, r4, r5, r6, r7)) ∧ Aside0 (kq ≤ k1) ∧ Aside0 (Kd.R (Kd.int .i64) 3 w' w.heap.size (fun k_ => some k_ ≠ (v436 : Value).ownBlock) v426 t425) ∧ Aside0 (Kd.R (Kd.int .i64) 3 w' w.heap.size (fun k_ => some k_ ≠ (v426 : Value).ownBlock) v436 t435) ∧ Aside0 (Kd.R k61 61 w' w.heap.size (fun _ => True) u429001 x429001_1) ∧ Aside0 (Kd.R k59 59 w' w.heap.size (fun _ => True) u429002 x429002_2) ∧ Aside0 (w'.heap[gb421]? = some (.cells #[.int .i64 a0_0, (.slice A0_1 l0_1.length c0_1), (.slice A0_2 l0_2.length c0_2), (.slice A0_3 l0_3.length c0_3), (.slice A0_4 l0_4.length c0_4), (.slice A0_5 l0_5.length c0_5)] 30 (0, 0))) ∧ Aside0 (w'.heap[gb422]? = some (.cells #[.int .i64 0, (.slice none 0 0), (.slice none 0 0), (.slice none 0 0), (.slice none 0 0)] 26 (0, 0))) ∧ Aside0 (w'.heap[gb428]? = some (.cells #[.int .i64 (l0_1.length : Int), u429001, u429002, (.slice none 0 0), (.slice none 0 0)] 26 (0, 0))) ∧ Aside0 (Below w.heap.size w w'))
       case atStart => exact ⟨(0), (([] : List (S59))), (.slice none 0 0), zq187, H', ⟨Nat.le_refl _⟩, ⟨by (with_reducible repeat (first | apply Kd.R_alloc | apply Kd.R_drewN | apply Kd.R_drew)); exact Kd.R_mono HO_5.out (fun _ hk => by first | exact hk.2 | exact hk)⟩, ⟨by (with_reducible repeat (first | apply Kd.R_alloc | apply Kd.R_drewN | apply Kd.R_drew)); exact Kd.R_mono HO437.out (fun _ hk => by first | exact hk.2 | exact hk)⟩, ⟨zq141⟩, ⟨zq106⟩, ⟨zq131⟩, ⟨zq132⟩, ⟨zq133⟩, ⟨zq50⟩⟩
       case round =>
        clear H'
        try clear c1
        try clear c2
        try clear p2
        try clear c3
        try clear c3b0
        try clear c3b1
        try clear p4
        try clear q4
        try clear hx4
        try clear p6
        try clear c7
        try clear c14
        try clear c15
        try clear c17
        try clear c17b0
        try clear c18
        try clear c18b0
        try clear c19
        try clear c20
        try clear c21
        try clear c22
        try clear c26
        try clear c30
        try clear c31
        try clear b10_0
        try clear b10_1
        try clear b10_2
        try clear b10_3
        try clear b10_4
        try clear b10_5
        try clear b12_0
        try clear b12_1
        try clear b12_2
        try clear b12_3
        try clear b12_4
        try clear b12_5
        try clear b16_0
        try clear b16_1
        try clear b16_2
        try clear b16_3
        try clear b16_4
        try clear b23_0
        try clear b23_1
        try clear b23_2
        try clear b23_3
        try clear b23_4
        try clear b23_5
        try clear b32_0
        try clear b32_1
        try clear b32_2
        try clear b32_3
        try clear b32_4
        try clear b32_5
        try clear b8_0
        try clear b8_1
        try clear b8_2
        try clear b8_3
        try clear b8_4
        try clear b8_5
        try clear d10_0
        try clear d10_1
        try clear d10_2
        try clear d10_3
        try clear d10_4
        try clear d10_5
        try clear d12_0
        try clear d12_1
        try clear d12_2
        try clear d12_3
        try clear d12_4
        try clear d12_5
        try clear d16_0
        try clear d16_1
        try clear d16_2
        try clear d16_3
        try clear d16_4
        try clear d23_0
        try clear d23_1
        try clear d23_2
        try clear d23_3
        try clear d23_4
        try clear d23_5
        try clear d32_0
        try clear d32_1
        try clear d32_2
        try clear d32_3
        try clear d32_4
        try clear d32_5
        try clear d8_0
        try clear d8_1
        try clear d8_2
        try clear d8_3
        try clear d8_4
        try clear d8_5
        try clear hx429_0
        try clear hx429_1
        try clear hx429_2
        try clear hx431_0
        try clear hx431_1
        try clear hx431_2
        try clear p2
        try clear p429
        try clear p431
        try clear q429
        try clear q431
        obtain ⟨x9_2, x429002_2, u429002, rfl, HA, HK2, HO_5, HO_8, HO_429001, HO_429002, BK421, BK422, BK428, HB⟩ := hrel
        cases gk with
        | zero => exact absurd HA.out (by simp [r3_Circuit.l1])
        | succ k2 =>
         have H := HA.out
         clear HA
         simp only [r3_Circuit.l1] at H
         by_cases c34 : x9_2 < (t435.length : Int)
         · rw [if_pos c34] at H
           have c34b0 : decide (x9_2 < (t435.length : Int)) = true := decide_eq_true c34
           clear c34
           by_cases c35 : 0 ≤ x9_2
           · rw [if_pos c35] at H
             have c35b0 : decide (0 ≤ x9_2) = true := decide_eq_true c35
             clear c35
             by_cases c36 : 0 ≤ (rd t435 x9_2)
             · rw [if_pos c36] at H
               have c36b0 : decide (0 ≤ (rd t435 x9_2)) = true := decide_eq_true c36
               clear c36
               by_cases c37 : (rd t435 x9_2) < (l0_3.length : Int)
               · rw [if_pos c37] at H
                 have c37b0 : decide ((rd t435 x9_2) < (l0_3.length : Int)) = true := decide_eq_true c37
                 clear c37
                 replace H := Option.bind_eq_some_iff.mp H
                 obtain ⟨t440, A380, H⟩ := H
                 replace H : ((r3_Told.f t425 ((rd_T56 l0_3 (rd t435 x9_2)).f2)).bind fun t443 => (if x429002_2.length < 8796093022208 then (r3_Circuit.l1 k2 t425 t435 (wrap64 (x9_2 + 1)) a0_0 l0_1 l0_2 l0_3 l0_4 l0_5 (l0_1.length : Int) x429001_1 (x429002_2 ++ [(⟨mx t440 t443, mn t440 t443⟩ : S59)])) else (none))) = some (r1, r2, r3, r4, r5, r6, r7) := H
                 have A38 := Aside0.mk A380
                 clear A380
                 replace H := Option.bind_eq_some_iff.mp H
                 obtain ⟨t443, A390, H⟩ := H
                 replace H : (if x429002_2.length < 8796093022208 then (r3_Circuit.l1 k2 t425 t435 (wrap64 (x9_2 + 1)) a0_0 l0_1 l0_2 l0_3 l0_4 l0_5 (l0_1.length : Int) x429001_1 (x429002_2 ++ [(⟨mx t440 t443, mn t440 t443⟩ : S59)])) else (none)) = some (r1, r2, r3, r4, r5, r6, r7) := H
                 have A39 := Aside0.mk A390
                 clear A390
                 obtain ⟨ji40, hji40⟩ : ∃ j_ : Int, (mx t440 t443) = j_ := ⟨_, rfl⟩
                 replace H : (if x429002_2.length < 8796093022208 then (r3_Circuit.l1 k2 t425 t435 (wrap64 (x9_2 + 1)) a0_0 l0_1 l0_2 l0_3 l0_4 l0_5 (l0_1.length : Int) x429001_1 (x429002_2 ++ [(⟨ji40, mn t440 t443⟩ : S59)])) else (none)) = some (r1, r2, r3, r4, r5, r6, r7) := by first | (rw [hji40] at H; exact H) | (simp only [hji40] at H ⊢; exact H)
                 (try rw [hji40] at A38)
                 (try rw [hji40] at A39)
                 have hji40_ : (if t440 < t443 then t443 else t440) = ji40 := hji40
                 obtain ⟨ji41, hji41⟩ : ∃ j_ : Int, (mn t440 t443) = j_ := ⟨_, rfl⟩
                 replace H : (if x429002_2.length < 8796093022208 then (r3_Circuit.l1 k2 t425 t435 (wrap64 (x9_2 + 1)) a0_0 l0_1 l0_2 l0_3 l0_4 l0_5 (l0_1.length : Int) x429001_1 (x429002_2 ++ [(⟨ji40, ji41⟩ : S59)])) else (none)) = some (r1, r2, r3, r4, r5, r6, r7) := by first | (rw [hji41] at H; exact H) | (simp only [hji41] at H ⊢; exact H)
                 (try rw [hji41] at A38)
                 (try rw [hji41] at A39)
                 have hji41_ : (if t443 < t440 then t443 else t440) = ji41 := hji41
                 by_cases c42 : x429002_2.length < 8796093022208
                 · rw [if_pos c42] at H
                   have LMc42 := Aside0.mk c42
                   clear c42
                   obtain ⟨y444, hy444⟩ : ∃ y_ : List (S59), y_ = (x429002_2 ++ [(⟨ji40, ji41⟩ : S59)]) := ⟨_, rfl⟩
                   replace H : (r3_Circuit.l1 k2 t425 t435 (wrap64 (x9_2 + 1)) a0_0 l0_1 l0_2 l0_3 l0_4 l0_5 (l0_1.length : Int) x429001_1 y444) = some (r1, r2, r3, r4, r5, r6, r7) := by first | (rw [hy444]; with_reducible exact H) | (have H2_ := (Option.bind_some _ _).symm.trans H; rw [hy444]; with_reducible exact H2_) | (have H2_ := (Option.bind_some _ _).symm.trans H; with_reducible exact H2_) | with_reducible exact H | (rw [hy444]; exact H) | exact H
                   have Ny444 := Aside0.mk hy444
                   clear hy444
                   have H' := Aside0.mk H
                   clear H
                   obtain ⟨Ao43, co43, eo43⟩ := Kd.R_slice HO_8.out
                   subst eo43
                   try go_wp2
                   have n0_ := Aside0.mk (Kd.R_drew HO_5.out)
                   have n1_ := Aside0.mk (Kd.R_drew HO_8.out)
                   have n2_ := Aside0.mk (Kd.R_drew HO_429001.out)
                   have n3_ := Aside0.mk (Kd.R_drew HO_429002.out)
                   have n4_ := Aside0.mk (blk_drew BK421.out)
                   have n5_ := Aside0.mk (blk_drew BK422.out)
                   have n6_ := Aside0.mk (blk_drew BK428.out)
                   have n7_ := Aside0.mk (below_drew1 HB.out)
                   clear HO_5
                   clear HO_8
                   clear HO_429001
                   clear HO_429002
                   clear BK421
                   clear BK422
                   clear BK428
                   clear HB
                   have HO_5 := n0_
                   have HO_8 := n1_
                   have HO_429001 := n2_
                   have HO_429002 := n3_
                   have BK421 := n4_
                   have BK422 := n5_
                   have BK428 := n6_
                   have HB := n7_
                   clear n0_ n1_ n2_ n3_ n4_ n5_ n6_ n7_
                   have p438 : 0 ≤ (x9_2 : Int) := of_decide_eq_true zq186
                   have q438 : x9_2 < (t435.length : Int) := of_decide_eq_true zq186
                   obtain ⟨ad438, e438, hx438_0⟩ := Kd.at_int (Kd.R_reads' HO_8.out).2.2 x9_2 p438 q438
                   cases e438
                   replace p438 := eq_true p438
                   replace q438 := eq_true q438
                   have p439 : 0 ≤ ((rd t435 x9_2) : Int) := of_decide_eq_true zq186
                   have q439 : (rd t435 x9_2) < (l0_3.length : Int) := of_decide_eq_true zq186
                   obtain ⟨ad439, e439, hx439_0, hx439_1, hx439_2⟩ := at_T56 HR0_3.out (rd t435 x9_2) p439 q439
                   have hw439_2 := hx439_2
                   have hw439_1 := hx439_1
                   have hw439_0 := hx439_0
                   cases e439
                   replace hx439_0 := (HB.out.cell (World.block_lt_of_cell? w _ hx439_0)).trans hx439_0
                   replace hx439_1 := (HB.out.cell (World.block_lt_of_cell? w _ hx439_1)).trans hx439_1
                   replace hx439_2 := (HB.out.cell (World.block_lt_of_cell? w _ hx439_2)).trans hx439_2
                   replace p439 := eq_true p439
                   replace q439 := eq_true q439
                   have p441 : 0 ≤ (x9_2 : Int) := of_decide_eq_true zq186
                   have q441 : x9_2 < (t435.length : Int) := of_decide_eq_true zq186
                   obtain ⟨ad441, e441, hx441_0⟩ := Kd.at_int (Kd.R_reads' HO_8.out).2.2 x9_2 p441 q441
                   obtain rfl : ad438 = ad441 := (by injection e441)
                   replace p441 := eq_true p441
                   replace q441 := eq_true q441
                   have p442 : 0 ≤ ((rd t435 x9_2) : Int) := of_decide_eq_true zq186
                   have q442 : (rd t435 x9_2) < (l0_3.length : Int) := of_decide_eq_true zq186
                   obtain ⟨ad442, e442, hx442_0, hx442_1, hx442_2⟩ := at_T56 HR0_3.out (rd t435 x9_2) p442 q442
                   have hw442_2 := hx442_2
                   have hw442_1 := hx442_1
                   have hw442_0 := hx442_0
                   obtain rfl : ad439 = ad442 := (by injection e442)
                   replace hx442_0 := (HB.out.cell (World.block_lt_of_cell? w _ hx442_0)).trans hx442_0
                   replace hx442_1 := (HB.out.cell (World.block_lt_of_cell? w _ hx442_1)).trans hx442_1
                   replace hx442_2 := (HB.out.cell (World.block_lt_of_cell? w _ hx442_2)).trans hx442_2
                   replace p442 := eq_true p442
                   replace q442 := eq_true q442
                   obtain ⟨Ao45, co45, eo45⟩ := Kd.R_slice HO_5.out
                   (first | subst eo45 | (injection eo45 with f1_ f2_ f3_; have f4_ := f1_.symm; have f5_ := f3_.symm; clear f1_ f2_ f3_; subst f4_; subst f5_))
                   refine start_ (n := 24) (S := fun w' => w'.cell? ⟨gb421, 0, none⟩ = some (.int .i64 a0_0) ∧ w'.cell? ⟨gb421, 1, none⟩ = some (.slice A0_1 l0_1.length c0_1) ∧ w'.cell? ⟨gb421, 2, none⟩ = some (.slice A0_2 l0_2.length c0_2) ∧ w'.cell? ⟨gb421, 3, none⟩ = some (.slice (some ad439) l0_3.length c0_3) ∧ w'.cell? ⟨gb421, 4, none⟩ = some (.slice A0_4 l0_4.length c0_4) ∧ w'.cell? ⟨gb421, 5, none⟩ = some (.slice A0_5 l0_5.length c0_5) ∧ w'.cell? (ad438.add (x9_2).toNat) = some (.int .i64 (rd t435 x9_2)) ∧ w'.cell? (ad439.add (((rd t435 x9_2)).toNat * 3)) = some (.int .i64 ((rd_T56 l0_3 (rd t435 x9_2)).f0)) ∧ w'.cell? ⟨(ad439.add (((rd t435 x9_2)).toNat * 3)).block, (ad439.add (((rd t435 x9_2)).toNat * 3)).off + 1, none⟩ = some (.int .i64 ((rd_T56 l0_3 (rd t435 x9_2)).f1)) ∧ w'.cell? ⟨(ad439.add (((rd t435 x9_2)).toNat * 3)).block, (ad439.add (((rd t435 x9_2)).toNat * 3)).off + 2, none⟩ = some (.int .i64 ((rd_T56 l0_3 (rd t435 x9_2)).f2)) ∧ w'.cell? (ad438.add (x9_2).toNat) = some (.int .i64 (rd t435 x9_2)) ∧ w'.cell? (ad439.add (((rd t435 x9_2)).toNat * 3)) = some (.int .i64 ((rd_T56 l0_3 (rd t435 x9_2)).f0)) ∧ w'.cell? ⟨(ad439.add (((rd t435 x9_2)).toNat * 3)).block, (ad439.add (((rd t435 x9_2)).toNat * 3)).off + 1, none⟩ = some (.int .i64 ((rd_T56 l0_3 (rd t435 x9_2)).f1)) ∧ w'.cell? ⟨(ad439.add (((rd t435 x9_2)).toNat * 3)).block, (ad439.add (((rd t435 x9_2)).toNat * 3)).off + 2, none⟩ = some (.int .i64 ((rd_T56 l0_3 (rd t435 x9_2)).f2))) (ds := []) #[nN,nN,nN,nN,nN,nN,nN,nN,nN,nN,nN,nN,nN,nN,nN,nN,nN,nN,nN,nN,nN,nN,nN,nN] (by kernel_rfl) rfl rfl ⟨(blk_cell BK421.out 0).trans rfl, (blk_cell BK421.out 1).trans rfl, (blk_cell BK421.out 2).trans rfl, (blk_cell BK421.out 3).trans rfl, (blk_cell BK421.out 4).trans rfl, (blk_cell BK421.out 5).trans rfl, hx438_0, ((HB.out.cell (World.block_lt_of_cell? w _ hw439_0)).trans hw439_0), ((HB.out.cell (World.block_lt_of_cell? w _ hw439_1)).trans hw439_1), ((HB.out.cell (World.block_lt_of_cell? w _ hw439_2)).trans hw439_2), hx441_0, ((HB.out.cell (World.block_lt_of_cell? w _ hw442_0)).trans hw442_0), ((HB.out.cell (World.block_lt_of_cell? w _ hw442_1)).trans hw442_1), ((HB.out.cell (World.block_lt_of_cell? w _ hw442_2)).trans hw442_2)⟩ (fun hHeld => ?_); refine with_tabW r3_Circuit.tab13 r3_Circuit.bits13 (fun HT_ HW_ => ?_)
                   generalize wr.drew = w44 at HO_5 HO_8 HO_429001 HO_429002 BK421 BK422 BK428 HB hx438_0 hx439_0 hx439_1 hx439_2 hx441_0 hx442_0 hx442_1 hx442_2 hHeld ⊢
                   refine pz 0 61 #[yY,nN,nN,nN,nN,nN,nN,nN,nN,nN,nN,nN,nN,nN,nN,nN,nN,nN,nN,nN,nN,nN,nN,nN] (h := ?_)
                   refine pz 1 62 #[yY,yY,nN,nN,nN,nN,nN,nN,nN,nN,nN,nN,nN,nN,nN,nN,nN,nN,nN,nN,nN,nN,nN,nN] (h := ?_)
                   refine pz 3 64 #[yY,yY,nN,yY,nN,nN,nN,nN,nN,nN,nN,nN,nN,nN,nN,nN,nN,nN,nN,nN,nN,nN,nN,nN] (h := ?_)
                   refine pz 4 65 #[yY,yY,nN,yY,yY,nN,nN,nN,nN,nN,nN,nN,nN,nN,nN,nN,nN,nN,nN,nN,nN,nN,nN,nN] (h := ?_)
                   refine pz 5 66 #[yY,yY,nN,yY,yY,yY,nN,nN,nN,nN,nN,nN,nN,nN,nN,nN,nN,nN,nN,nN,nN,nN,nN,nN] (h := ?_)
                   refine pz 11 72 #[yY,yY,nN,yY,yY,yY,nN,nN,nN,nN,nN,yY,nN,nN,nN,nN,nN,nN,nN,nN,nN,nN,nN,nN] (h := ?_)
                   refine pz 12 73 #[yY,yY,nN,yY,yY,yY,nN,nN,nN,nN,nN,yY,yY,nN,nN,nN,nN,nN,nN,nN,nN,nN,nN,nN] (h := ?_)
                   refine pz 14 75 #[yY,yY,nN,yY,yY,yY,nN,nN,nN,nN,nN,yY,yY,nN,yY,nN,nN,nN,nN,nN,nN,nN,nN,nN] (h := ?_)
                   refine pz 15 76 #[yY,yY,nN,yY,yY,yY,nN,nN,nN,nN,nN,yY,yY,nN,yY,yY,nN,nN,nN,nN,nN,nN,nN,nN] (h := ?_)
                   refine pz 16 77 #[yY,yY,nN,yY,yY,yY,nN,nN,nN,nN,nN,yY,yY,nN,yY,yY,yY,nN,nN,nN,nN,nN,nN,nN] (h := ?_)
                   refine take_ (i := 2) (N := some 63) (v := ?_) (a' := ?_) #[yY,yY,yY,yY,yY,yY,nN,nN,nN,nN,nN,yY,yY,nN,yY,yY,yY,nN,nN,nN,nN,nN,nN,nN] rfl rfl (take_ofW HT_.out HW_.out (by kernel_rfl)) (fun _ _ _ h => h) (Or.inl ⟨by rfl, ?_⟩) hHeld ?_ ?_
                   rotate_left
                   · rintro w' ⟨s0, s1, s2, s3, s4, s5, s6, s7, s8, s9, s10, s11, s12, s13⟩
                     go_simp
                     with_reducible rfl
                   rotate_left
                   · simp only [Act.put, List.setIfInBounds_toArray, List.set_cons_zero, List.set_cons_succ, i64_w, i32_w]
                     rfl
                   refine take_ (i := 6) (N := some 67) (v := ?_) (a' := ?_) #[yY,yY,yY,yY,yY,yY,yY,nN,nN,nN,nN,yY,yY,nN,yY,yY,yY,nN,nN,nN,nN,nN,nN,nN] rfl rfl (take_ofW HT_.out HW_.out (by kernel_rfl)) (fun _ _ _ h => h) (Or.inl ⟨by rfl, ?_⟩) hHeld ?_ ?_
                   rotate_left
                   · rintro w' ⟨s0, s1, s2, s3, s4, s5, s6, s7, s8, s9, s10, s11, s12, s13⟩
                     go_simp
                     with_reducible rfl
                   rotate_left
                   · simp only [Act.put, List.setIfInBounds_toArray, List.set_cons_zero, List.set_cons_succ, i64_w, i32_w]
                     rfl
                   refine pz 7 68 #[yY,yY,yY,yY,yY,yY,yY,yY,nN,nN,nN,yY,yY,nN,yY,yY,yY,nN,nN,nN,nN,nN,nN,nN] (h := ?_)
                   refine pz 8 69 #[yY,yY,yY,yY,yY,yY,yY,yY,yY,nN,nN,yY,yY,nN,yY,yY,yY,nN,nN,nN,nN,nN,nN,nN] (h := ?_)
                   refine take_ (i := 9) (N := some 70) (v := ?_) (a' := ?_) #[yY,yY,yY,yY,yY,yY,yY,yY,yY,yY,nN,yY,yY,nN,yY,yY,yY,nN,nN,nN,nN,nN,nN,nN] rfl rfl (take_ofW HT_.out HW_.out (by kernel_rfl)) (fun _ _ _ h => h) (Or.inl ⟨by rfl, ?_⟩) hHeld ?_ ?_
                   rotate_left
                   · rintro w' ⟨s0, s1, s2, s3, s4, s5, s6, s7, s8, s9, s10, s11, s12, s13⟩
                     go_simp
                     with_reducible rfl
                   rotate_left
                   · simp only [Act.put, List.setIfInBounds_toArray, List.set_cons_zero, List.set_cons_succ, i64_w, i32_w]
                     rfl
                   refine take_ (i := 13) (N := some 74) (v := ?_) (a' := ?_) #[yY,yY,yY,yY,yY,yY,yY,yY,yY,yY,nN,yY,yY,yY,yY,yY,yY,nN,nN,nN,nN,nN,nN,nN] rfl rfl (take_ofW HT_.out HW_.out (by kernel_rfl)) (fun _ _ _ h => h) (Or.inl ⟨by rfl, ?_⟩) hHeld ?_ ?_
                   rotate_left
                   · rintro w' ⟨s0, s1, s2, s3, s4, s5, s6, s7, s8, s9, s10, s11, s12, s13⟩
                     go_simp
                     with_reducible rfl
                   rotate_left
                   · simp only [Act.put, List.setIfInBounds_toArray, List.set_cons_zero, List.set_cons_succ, i64_w, i32_w]
                     rfl
                   refine take_ (i := 17) (N := some 78) (v := ?_) (a' := ?_) #[yY,yY,yY,yY,yY,yY,yY,yY,yY,yY,nN,yY,yY,yY,yY,yY,yY,yY,nN,nN,nN,nN,nN,nN] rfl rfl (take_ofW HT_.out HW_.out (by kernel_rfl)) (fun _ _ _ h => h) (Or.inl ⟨by rfl, ?_⟩) hHeld ?_ ?_
                   rotate_left
                   · rintro w' ⟨s0, s1, s2, s3, s4, s5, s6, s7, s8, s9, s10, s11, s12, s13⟩
                     go_simp
                     with_reducible rfl
                   rotate_left
                   · simp only [Act.put, List.setIfInBounds_toArray, List.set_cons_zero, List.set_cons_succ, i64_w, i32_w]
                     rfl
                   refine pz 18 79 #[yY,yY,yY,yY,yY,yY,yY,yY,yY,yY,nN,yY,yY,yY,yY,yY,yY,yY,yY,nN,nN,nN,nN,nN] (h := ?_)
                   refine pz 19 80 #[yY,yY,yY,yY,yY,yY,yY,yY,yY,yY,nN,yY,yY,yY,yY,yY,yY,yY,yY,yY,nN,nN,nN,nN] (h := ?_)
                   refine take_ (i := 20) (N := some 81) (v := ?_) (a' := ?_) #[yY,yY,yY,yY,yY,yY,yY,yY,yY,yY,nN,yY,yY,yY,yY,yY,yY,yY,yY,yY,yY,nN,nN,nN] rfl rfl (take_ofW HT_.out HW_.out (by kernel_rfl)) (fun _ _ _ h => h) (Or.inl ⟨by rfl, ?_⟩) hHeld ?_ ?_
                   rotate_left
                   · rintro w' ⟨s0, s1, s2, s3, s4, s5, s6, s7, s8, s9, s10, s11, s12, s13⟩
                     go_simp
                     with_reducible rfl
                   rotate_left
                   · simp only [Act.put, List.setIfInBounds_toArray, List.set_cons_zero, List.set_cons_succ, i64_w, i32_w]
                     rfl
                   refine one_ (i := 10) (N := some 71) #[yY,yY,yY,yY,yY,yY,yY,yY,yY,yY,yY,yY,yY,yY,yY,yY,yY,yY,yY,yY,yY,nN,nN,nN] rfl rfl (one_of HT_.out (by kernel_rfl)) (by decide) (fun K hK => ?_)
                   refine goes_ Try.func26 (by kernel_rfl) rfl #[.slice Ao45 t425.length co45, .int .i64 ((rd_T56 l0_3 (rd t435 x9_2)).f1)] (by rfl) rfl rfl zq107 ?_
                   with_reducible refine (r3_Told.calls _ _ t425 ((rd_T56 l0_3 (rd t435 x9_2)).f1) t440 _ ?side1 ?side2 A38.out).mono ?_
                   (case side1 => exact zq87)
                   (case side2 => exact (Kd.R_reads' HO_5.out).2.1)
                   rintro e w' ⟨rfl, ⟨nd, rfl⟩⟩
                   refine ⟨_, rfl, ?_⟩
                   refine hK.out _ _ ⟨(blk_cell BK421.out 0).trans rfl, (blk_cell BK421.out 1).trans rfl, (blk_cell BK421.out 2).trans rfl, (blk_cell BK421.out 3).trans rfl, (blk_cell BK421.out 4).trans rfl, (blk_cell BK421.out 5).trans rfl, hHeld.2.2.2.2.2.2.1, ((HB.out.cell (World.block_lt_of_cell? w _ hw439_0)).trans hw439_0), ((HB.out.cell (World.block_lt_of_cell? w _ hw439_1)).trans hw439_1), ((HB.out.cell (World.block_lt_of_cell? w _ hw439_2)).trans hw439_2), hHeld.2.2.2.2.2.2.2.2.2.2.1, ((HB.out.cell (World.block_lt_of_cell? w _ hw442_0)).trans hw442_0), ((HB.out.cell (World.block_lt_of_cell? w _ hw442_1)).trans hw442_1), ((HB.out.cell (World.block_lt_of_cell? w _ hw442_2)).trans hw442_2)⟩ (fun hHeld => ?_)
                   clear hK K
                   refine norm_ (a' := ?_) ?_ ?_
                   rotate_left
                   · show Act.put _ (some 71) _ = _
                     simp only [Act.put, List.setIfInBounds_toArray, List.set_cons_zero, List.set_cons_succ, i64_w, i32_w]
                     rfl
                   refine one_ (i := 21) (N := some 82) #[yY,yY,yY,yY,yY,yY,yY,yY,yY,yY,yY,yY,yY,yY,yY,yY,yY,yY,yY,yY,yY,yY,nN,nN] rfl rfl (one_of HT_.out (by kernel_rfl)) (by decide) (fun K hK => ?_)
                   refine goes_ Try.func26 (by kernel_rfl) rfl #[.slice Ao45 t425.length co45, .int .i64 ((rd_T56 l0_3 (rd t435 x9_2)).f2)] (by rfl) rfl rfl zq107 ?_
                   with_reducible refine (r3_Told.calls _ _ t425 ((rd_T56 l0_3 (rd t435 x9_2)).f2) t443 _ ?side1 ?side2 A39.out).mono ?_
                   (case side1 => exact zq87)
                   (case side2 => exact (Kd.R_reads' HO_5.out).2.1)
                   rintro e w' ⟨rfl, ⟨nd, rfl⟩⟩
                   refine ⟨_, rfl, ?_⟩
                   refine hK.out _ _ ⟨(blk_cell BK421.out 0).trans rfl, (blk_cell BK421.out 1).trans rfl, (blk_cell BK421.out 2).trans rfl, (blk_cell BK421.out 3).trans rfl, (blk_cell BK421.out 4).trans rfl, (blk_cell BK421.out 5).trans rfl, hHeld.2.2.2.2.2.2.1, ((HB.out.cell (World.block_lt_of_cell? w _ hw439_0)).trans hw439_0), ((HB.out.cell (World.block_lt_of_cell? w _ hw439_1)).trans hw439_1), ((HB.out.cell (World.block_lt_of_cell? w _ hw439_2)).trans hw439_2), hHeld.2.2.2.2.2.2.2.2.2.2.1, ((HB.out.cell (World.block_lt_of_cell? w _ hw442_0)).trans hw442_0), ((HB.out.cell (World.block_lt_of_cell? w _ hw442_1)).trans hw442_1), ((HB.out.cell (World.block_lt_of_cell? w _ hw442_2)).trans hw442_2)⟩ (fun hHeld => ?_)
                   clear hK K
                   refine norm_ (a' := ?_) ?_ ?_
                   rotate_left
                   · show Act.put _ (some 82) _ = _
                     simp only [Act.put, List.setIfInBounds_toArray, List.set_cons_zero, List.set_cons_succ, i64_w, i32_w]
                     rfl
                   refine pz 22 10 #[yY,yY,yY,yY,yY,yY,yY,yY,yY,yY,yY,yY,yY,yY,yY,yY,yY,yY,yY,yY,yY,yY,yY,nN] (h := ?_)
                   refine pz 23 11 #[yY,yY,yY,yY,yY,yY,yY,yY,yY,yY,yY,yY,yY,yY,yY,yY,yY,yY,yY,yY,yY,yY,yY,yY] (h := ?_)
                   refine done_ (done_of HT_.out (by kernel_rfl)) ?_
                   have hnb46 := NB428_421.out
                   have hnc46 := NB421_428.out
                   have hnb47 := NB428_422.out
                   have hnc47 := NB422_428.out
                   obtain ⟨b48_0, b48_1, b48_2, b48_3, b48_4, d48_0, d48_1, d48_2, d48_3, d48_4⟩ := bk5 BK428.out
                   try go_wp2_with (first | ((with_reducible refine gate_builtin (b := .append) (xs := #[.tmp 84, .tmp 92]) rfl ?_); at_builtin; refine Kd.R_append k59 (w0 := w) w.heap.size rfl (.tmp 84) (.tmp 92) 23 59 (.agg #[(.int .i64 0), (.int .i64 0)]) 16 rfl Try.underlying23 info59 rfl (by decide) (by omega) u429002 x429002_2 (⟨ji40, ji41⟩ : S59) [.int .i64 ji40, .int .i64 ji41] (fun _ => True) (fun _ => False) rfl rfl ?aP (fun _ hk => hk.elim) ?aF ?aO ?aB ?aS ?aL ?_; (case aP => exact k59_mkM _ _ _ (⟨ji40, ji41⟩ : S59)); (case aB => exact zq47); (case aF => exact (fun _ _ => trivial)); (case aO => exact zq142); (case aS => exact zq46); (case aL => have := LMc42.out; omega); intro v445 w49 ho hb hg hat; rw [← Ny444.out] at ho; have n0_ := Aside0.mk (Kd.R_over' zq179 (Kd.R_typed zq142) (by decide) hg); have n1_ := Aside0.mk (Kd.R_over' (by (with_reducible repeat (first | apply Kd.R_alloc | apply Kd.R_drewN | apply Kd.R_drew)); exact HO_8.out) (Kd.R_typed zq142) (by decide) hg); have n2_ := Aside0.mk (Kd.R_over' zq141 (Kd.R_typed zq142) (by decide) hg); have n3_ := Aside0.mk (blk_grown (g := gb421) (o := .cells #[.int .i64 a0_0, .slice A0_1 l0_1.length c0_1, .slice A0_2 l0_2.length c0_2, .slice (some ad439) l0_3.length c0_3, .slice A0_4 l0_4.length c0_4, .slice A0_5 l0_5.length c0_5] 30 (0, 0)) zq131 hg (Kd.R_ne HO_429002.out BK421.out (by decide))); have n4_ := Aside0.mk (blk_grown (g := gb422) (o := .cells #[.int .i64 0, .slice none 0 0, .slice none 0 0, .slice none 0 0, .slice none 0 0] 26 (0, 0)) zq132 hg (Kd.R_ne HO_429002.out BK422.out (by decide))); have n5_ := Aside0.mk (blk_grown (g := gb428) (o := .cells #[.int .i64 (l0_1.length : Int), u429001, u429002, .slice none 0 0, .slice none 0 0] 26 (0, 0)) zq133 hg (Kd.R_ne HO_429002.out BK428.out (by decide))); have n6_ := Aside0.mk (hb); have n7_ := Aside0.mk (ho); clear HO_5; clear HO_8; clear HO_429001; clear BK421; clear BK422; clear BK428; clear HB; clear HO_429002; have HO_5 := n0_; have HO_8 := n1_; have HO_429001 := n2_; have BK421 := n3_; have BK422 := n4_; have BK428 := n5_; have HB := n6_; have HO446 := n7_; clear n0_ n1_ n2_ n3_ n4_ n5_ n6_ n7_; clear ho hb hg hat; obtain ⟨Ao50, co50, eo50⟩ := Kd.R_slice HO446.out; subst eo50; obtain ⟨b51_0, b51_1, b51_2, b51_3, b51_4, d51_0, d51_1, d51_2, d51_3, d51_4⟩ := bk5 BK428.out))
                   go_roundg k2
                   case measure => have := HK1.out; have := HK2.out; omega
                   case rel => exact ⟨(wrap64 (x9_2 + 1)), (y444), (.slice Ao50 y444.length co50), zq187, H', ⟨by have := HK1.out; have := HK2.out; omega⟩, ⟨by (with_reducible repeat (first | apply Kd.R_alloc | apply Kd.R_drewN | apply Kd.R_drew)); exact Kd.R_mono (Kd.R_far (p := ⟨gb428, 2, none⟩) (Kd.R_types HO_5.out BK428.out (by decide)) (fun _ hk => by first | exact hk.2 | exact hk) (.slice Ao50 y444.length co50)) (fun _ hk => by first | exact hk.1 | exact hk)⟩, ⟨by (with_reducible repeat (first | apply Kd.R_alloc | apply Kd.R_drewN | apply Kd.R_drew)); exact Kd.R_mono (Kd.R_far (p := ⟨gb428, 2, none⟩) (Kd.R_types HO_8.out BK428.out (by decide)) (fun _ hk => by first | exact hk.2 | exact hk) (.slice Ao50 y444.length co50)) (fun _ hk => by first | exact hk.1 | exact hk)⟩, ⟨by (with_reducible repeat (first | apply Kd.R_alloc | apply Kd.R_drewN | apply Kd.R_drew)); exact Kd.R_mono (Kd.R_far (p := ⟨gb428, 2, none⟩) (Kd.R_types HO_429001.out BK428.out (by decide)) (fun _ hk => by first | exact hk.2 | exact hk) (.slice Ao50 y444.length co50)) (fun _ hk => trivial)⟩, ⟨by (with_reducible repeat (first | apply Kd.R_alloc | apply Kd.R_drewN | apply Kd.R_drew)); exact Kd.R_mono (Kd.R_far (p := ⟨gb428, 2, none⟩) (Kd.R_types HO446.out BK428.out (by decide)) (fun _ hk => by first | exact hk.2 | exact hk) (.slice Ao50 y444.length co50)) (fun _ hk => trivial)⟩, ⟨zq44⟩, ⟨zq45⟩, ⟨by (with_reducible repeat (first | refine blk_drewN ?_ _ | refine blk_drew ?_ | refine blk_alloc ?_ _)); refine blk_put (cs := #[.int .i64 (l0_1.length : Int), u429001, u429002, .slice none 0 0, .slice none 0 0]) ?_ 2 _ rfl; (with_reducible repeat (first | refine blk_drewN ?_ _ | refine blk_drew ?_ | refine blk_alloc ?_ _)); exact BK428.out⟩, ⟨zq50⟩⟩
                 · rw [if_neg c42] at H
                   exact absurd H (by simp)
               · rw [if_neg c37] at H
                 exact absurd H (by simp)
             · rw [if_neg c36] at H
               exact absurd H (by simp)
           · rw [if_neg c35] at H
             exact absurd H (by simp)
         · rw [if_neg c34] at H
           have c34b0 : decide (x9_2 < (t435.length : Int)) = false := decide_eq_false c34
           clear c34
           have H' := Aside0.mk H
           clear H
           obtain ⟨Ao52, co52, eo52⟩ := Kd.R_slice HO_8.out
           subst eo52
           go_wp2
           go_loopg [12] k2 (fun kq v12 w' => ∃ (x12_3 : Int) (x429003_3 : List Int) (u429003 : Value), v12 = .int .i64 x12_3 ∧ Aside0 (r3_Circuit.l2 kq t425 x12_3 a0_0 l0_1 l0_2 l0_3 l0_4 l0_5 (l0_1.length : Int) x429001_1 x429002_2 x429003_3 = some (r1, r2, r3, r4, r5, r6, r7)) ∧ Aside0 (kq ≤ k2) ∧ Aside0 (Kd.R (Kd.int .i64) 3 w' w.heap.size (fun k_ => some k_ ≠ (u429003 : Value).ownBlock) v426 t425) ∧ Aside0 (Kd.R k61 61 w' w.heap.size (fun _ => True) u429001 x429001_1) ∧ Aside0 (Kd.R k59 59 w' w.heap.size (fun _ => True) u429002 x429002_2) ∧ Aside0 (Kd.R (Kd.int .i64) 3 w' w.heap.size (fun k_ => some k_ ≠ (v426 : Value).ownBlock) u429003 x429003_3) ∧ Aside0 (w'.heap[gb421]? = some (.cells #[.int .i64 a0_0, (.slice A0_1 l0_1.length c0_1), (.slice A0_2 l0_2.length c0_2), (.slice A0_3 l0_3.length c0_3), (.slice A0_4 l0_4.length c0_4), (.slice A0_5 l0_5.length c0_5)] 30 (0, 0))) ∧ Aside0 (w'.heap[gb422]? = some (.cells #[.int .i64 0, (.slice none 0 0), (.slice none 0 0), (.slice none 0 0), (.slice none 0 0)] 26 (0, 0))) ∧ Aside0 (w'.heap[gb428]? = some (.cells #[.int .i64 (l0_1.length : Int), u429001, u429002, u429003, (.slice none 0 0)] 26 (0, 0))) ∧ Aside0 (Below w.heap.size w w'))
           case atStart => exact ⟨(0), (([] : List Int)), (.slice none 0 0), zq187, H', ⟨Nat.le_refl _⟩, ⟨by (with_reducible repeat (first | apply Kd.R_alloc | apply Kd.R_drewN | apply Kd.R_drew)); exact Kd.R_mono HO_5.out (fun _ hk => (by simp [Value.ownBlock]))⟩, ⟨zq141⟩, ⟨zq142⟩, ⟨zq106⟩, ⟨zq131⟩, ⟨zq132⟩, ⟨zq133⟩, ⟨zq50⟩⟩
           case round =>
            clear H'
            try clear c1
            try clear c2
            try clear p2
            try clear c3
            try clear c3b0
            try clear c3b1
            try clear c4
            try clear p4
            try clear q4
            try clear hx4
            try clear p6
            try clear c7
            try clear c14
            try clear c15
            try clear c17
            try clear c17b0
            try clear c18
            try clear c18b0
            try clear c19
            try clear c20
            try clear c21
            try clear c22
            try clear c26
            try clear c30
            try clear c31
            try clear c34
            try clear c34b0
            try clear c35
            try clear c35b0
            try clear c36
            try clear c36b0
            try clear c37
            try clear c37b0
            try clear c39
            try clear c42
            try clear p42
            try clear q42
            try clear hx42
            try clear p43
            try clear q43
            try clear hx43
            try clear p44
            try clear q44
            try clear hx44
            try clear c46
            try clear c47
            try clear b10_0
            try clear b10_1
            try clear b10_2
            try clear b10_3
            try clear b10_4
            try clear b10_5
            try clear b12_0
            try clear b12_1
            try clear b12_2
            try clear b12_3
            try clear b12_4
            try clear b12_5
            try clear b16_0
            try clear b16_1
            try clear b16_2
            try clear b16_3
            try clear b16_4
            try clear b23_0
            try clear b23_1
            try clear b23_2
            try clear b23_3
            try clear b23_4
            try clear b23_5
            try clear b32_0
            try clear b32_1
            try clear b32_2
            try clear b32_3
            try clear b32_4
            try clear b32_5
            try clear b48_0
            try clear b48_1
            try clear b48_2
            try clear b48_3
            try clear b48_4
            try clear b51_0
            try clear b51_1
            try clear b51_2
            try clear b51_3
            try clear b51_4
            try clear b8_0
            try clear b8_1
            try clear b8_2
            try clear b8_3
            try clear b8_4
            try clear b8_5
            try clear d10_0
            try clear d10_1
            try clear d10_2
            try clear d10_3
            try clear d10_4
            try clear d10_5
            try clear d12_0
            try clear d12_1
            try clear d12_2
            try clear d12_3
            try clear d12_4
            try clear d12_5
            try clear d16_0
            try clear d16_1
            try clear d16_2
            try clear d16_3
            try clear d16_4
            try clear d23_0
            try clear d23_1
            try clear d23_2
            try clear d23_3
            try clear d23_4
            try clear d23_5
            try clear d32_0
            try clear d32_1
            try clear d32_2
            try clear d32_3
            try clear d32_4
            try clear d32_5
            try clear d48_0
            try clear d48_1
            try clear d48_2
            try clear d48_3
            try clear d48_4
            try clear d51_0
            try clear d51_1
            try clear d51_2
            try clear d51_3
            try clear d51_4
            try clear d8_0
            try clear d8_1
            try clear d8_2
            try clear d8_3
            try clear d8_4
            try clear d8_5
            try clear hx429_0
            try clear hx429_1
            try clear hx429_2
            try clear hx431_0
            try clear hx431_1
            try clear hx431_2
            try clear hx438_0
            try clear hx439_0
            try clear hx439_1
            try clear hx439_2
            try clear hx441_0
            try clear hx442_0
            try clear hx442_1
            try clear hx442_2
            try clear p2
            try clear p4
            try clear p429
            try clear p431
            try clear p438
            try clear p439
            try clear p441
            try clear p442
            try clear p6
            try clear q4
            try clear q429
            try clear q431
            try clear q438
            try clear q439
            try clear q441
            try clear q442
            obtain ⟨x12_3, x429003_3, u429003, rfl, HA, HK3, HO_5, HO_429001, HO_429002, HO_429003, BK421, BK422, BK428, HB⟩ := hrel
            cases gk with
            | zero => exact absurd HA.out (by simp [r3_Circuit.l2])
            | succ k3 =>
             have H := HA.out
             clear HA
             simp only [r3_Circuit.l2] at H
             by_cases c53 : x12_3 < (l0_4.length : Int)
             · rw [if_pos c53] at H
               have c53b0 : decide (x12_3 < (l0_4.length : Int)) = true := decide_eq_true c53
               clear c53
               by_cases c54 : 0 ≤ x12_3
               · rw [if_pos c54] at H
                 have c54b0 : decide (0 ≤ x12_3) = true := decide_eq_true c54
                 clear c54
                 replace H := Option.bind_eq_some_iff.mp H
                 obtain ⟨t448, A550, H⟩ := H
                 replace H : (if x429003_3.length < 17592186044416 then (r3_Circuit.l2 k3 t425 (wrap64 (x12_3 + 1)) a0_0 l0_1 l0_2 l0_3 l0_4 l0_5 (l0_1.length : Int) x429001_1 x429002_2 (x429003_3 ++ [t448])) else (none)) = some (r1, r2, r3, r4, r5, r6, r7) := H
                 have A55 := Aside0.mk A550
                 clear A550
                 by_cases c56 : x429003_3.length < 17592186044416
                 · rw [if_pos c56] at H
                   have LMc56 := Aside0.mk c56
                   clear c56
                   obtain ⟨y449, hy449⟩ : ∃ y_ : List Int, y_ = (x429003_3 ++ [t448]) := ⟨_, rfl⟩
                   replace H : (r3_Circuit.l2 k3 t425 (wrap64 (x12_3 + 1)) a0_0 l0_1 l0_2 l0_3 l0_4 l0_5 (l0_1.length : Int) x429001_1 x429002_2 y449) = some (r1, r2, r3, r4, r5, r6, r7) := by first | (rw [hy449]; with_reducible exact H) | (have H2_ := (Option.bind_some _ _).symm.trans H; rw [hy449]; with_reducible exact H2_) | (have H2_ := (Option.bind_some _ _).symm.trans H; with_reducible exact H2_) | with_reducible exact H | (rw [hy449]; exact H) | exact H
                   have Ny449 := Aside0.mk hy449
                   clear hy449
                   have H' := Aside0.mk H
                   clear H
                   have hnb57 := NB421_422.out
                   have hnc57 := NB422_421.out
                   have hnb58 := NB421_428.out
                   have hnc58 := NB428_421.out
                   obtain ⟨b59_0, b59_1, b59_2, b59_3, b59_4, b59_5, d59_0, d59_1, d59_2, d59_3, d59_4, d59_5⟩ := bk6 BK421.out
                   try go_wp2
                   have n0_ := Aside0.mk (Kd.R_drew HO_5.out)
                   have n1_ := Aside0.mk (Kd.R_drew HO_429001.out)
                   have n2_ := Aside0.mk (Kd.R_drew HO_429002.out)
                   have n3_ := Aside0.mk (Kd.R_drew HO_429003.out)
                   have n4_ := Aside0.mk (blk_drew BK421.out)
                   have n5_ := Aside0.mk (blk_drew BK422.out)
                   have n6_ := Aside0.mk (blk_drew BK428.out)
                   have n7_ := Aside0.mk (below_drew1 HB.out)
                   clear HO_5
                   clear HO_429001
                   clear HO_429002
                   clear HO_429003
                   clear BK421
                   clear BK422
                   clear BK428
                   clear HB
                   have HO_5 := n0_
                   have HO_429001 := n1_
                   have HO_429002 := n2_
                   have HO_429003 := n3_
                   have BK421 := n4_
                   have BK422 := n5_
                   have BK428 := n6_
                   have HB := n7_
                   clear n0_ n1_ n2_ n3_ n4_ n5_ n6_ n7_
                   have p447 : 0 ≤ (x12_3 : Int) := of_decide_eq_true zq186
                   have q447 : x12_3 < (l0_4.length : Int) := of_decide_eq_true zq186
                   obtain ⟨ad447, e447, hx447_0⟩ := Kd.at_int HR0_4.out x12_3 p447 q447
                   have hw447_0 := hx447_0
                   cases e447
                   replace hx447_0 := (HB.out.cell (World.block_lt_of_cell? w _ hx447_0)).trans hx447_0
                   replace p447 := eq_true p447
                   replace q447 := eq_true q447
                   obtain ⟨Ao61, co61, eo61⟩ := Kd.R_slice HO_5.out
                   (first | subst eo61 | (injection eo61 with f1_ f2_ f3_; have f4_ := f1_.symm; have f5_ := f3_.symm; clear f1_ f2_ f3_; subst f4_; subst f5_))
                   refine start_ (n := 13) (S := fun w' => w'.cell? ⟨gb428, 0, none⟩ = some (.int .i64 (l0_1.length : Int)) ∧ w'.cell? ⟨gb428, 1, none⟩ = some (u429001) ∧ w'.cell? ⟨gb428, 2, none⟩ = some (u429002) ∧ w'.cell? ⟨gb428, 3, none⟩ = some (u429003) ∧ w'.cell? ⟨gb428, 4, none⟩ = some (.slice none 0 0) ∧ w'.cell? ⟨gb421, 0, none⟩ = some (.int .i64 a0_0) ∧ w'.cell? ⟨gb421, 1, none⟩ = some (.slice A0_1 l0_1.length c0_1) ∧ w'.cell? ⟨gb421, 2, none⟩ = some (.slice A0_2 l0_2.length c0_2) ∧ w'.cell? ⟨gb421, 3, none⟩ = some (.slice A0_3 l0_3.length c0_3) ∧ w'.cell? ⟨gb421, 4, none⟩ = some (.slice (some ad447) l0_4.length c0_4) ∧ w'.cell? ⟨gb421, 5, none⟩ = some (.slice A0_5 l0_5.length c0_5) ∧ w'.cell? (ad447.add (x12_3).toNat) = some (.int .i64 (rd l0_4 x12_3))) (ds := [12]) #[nN,nN,nN,nN,nN,nN,nN,nN,nN,nN,nN,nN,nN] (by kernel_rfl) rfl rfl ⟨(blk_cell BK428.out 0).trans rfl, (blk_cell BK428.out 1).trans rfl, (blk_cell BK428.out 2).trans rfl, (blk_cell BK428.out 3).trans rfl, (blk_cell BK428.out 4).trans rfl, (blk_cell BK421.out 0).trans rfl, (blk_cell BK421.out 1).trans rfl, (blk_cell BK421.out 2).trans rfl, (blk_cell BK421.out 3).trans rfl, (blk_cell BK421.out 4).trans rfl, (blk_cell BK421.out 5).trans rfl, ((HB.out.cell (World.block_lt_of_cell? w _ hw447_0)).trans hw447_0)⟩ (fun hHeld => ?_); refine with_tabW r3_Circuit.tab18 r3_Circuit.bits18 (fun HT_ HW_ => ?_)
                   generalize wr.drew = w60 at HO_5 HO_429001 HO_429002 HO_429003 BK421 BK422 BK428 HB hx447_0 hHeld ⊢
                   refine pz 0 102 #[yY,nN,nN,nN,nN,nN,nN,nN,nN,nN,nN,nN,nN] (h := ?_)
                   refine pz 2 104 #[yY,nN,yY,nN,nN,nN,nN,nN,nN,nN,nN,nN,nN] (h := ?_)
                   refine pz 3 105 #[yY,nN,yY,yY,nN,nN,nN,nN,nN,nN,nN,nN,nN] (h := ?_)
                   refine pz 5 107 #[yY,nN,yY,yY,nN,yY,nN,nN,nN,nN,nN,nN,nN] (h := ?_)
                   refine take_ (i := 1) (N := some 103) (v := ?_) (a' := ?_) #[yY,yY,yY,yY,nN,yY,nN,nN,nN,nN,nN,nN,nN] rfl rfl (take_ofW HT_.out HW_.out (by kernel_rfl)) (fun _ _ _ h => h) (Or.inl ⟨by rfl, ?_⟩) hHeld ?_ ?_
                   rotate_left
                   · rintro w' ⟨s0, s1, s2, s3, s4, s5, s6, s7, s8, s9, s10, s11⟩
                     go_simp
                     with_reducible rfl
                   rotate_left
                   · simp only [Act.put, List.setIfInBounds_toArray, List.set_cons_zero, List.set_cons_succ, i64_w, i32_w]
                     rfl
                   refine take_ (i := 4) (N := some 106) (v := ?_) (a' := ?_) #[yY,yY,yY,yY,yY,yY,nN,nN,nN,nN,nN,nN,nN] rfl rfl (take_ofW HT_.out HW_.out (by kernel_rfl)) (fun _ _ _ h => h) (Or.inl ⟨by rfl, ?_⟩) hHeld ?_ ?_
                   rotate_left
                   · rintro w' ⟨s0, s1, s2, s3, s4, s5, s6, s7, s8, s9, s10, s11⟩
                     go_simp
                     with_reducible rfl
                   rotate_left
                   · simp only [Act.put, List.setIfInBounds_toArray, List.set_cons_zero, List.set_cons_succ, i64_w, i32_w]
                     rfl
                   refine pz 6 108 #[yY,yY,yY,yY,yY,yY,yY,nN,nN,nN,nN,nN,nN] (h := ?_)
                   refine take_ (i := 7) (N := some 109) (v := ?_) (a' := ?_) #[yY,yY,yY,yY,yY,yY,yY,yY,nN,nN,nN,nN,nN] rfl rfl (take_ofW HT_.out HW_.out (by kernel_rfl)) (fun _ _ _ h => h) (Or.inl ⟨by rfl, ?_⟩) hHeld ?_ ?_
                   rotate_left
                   · rintro w' ⟨s0, s1, s2, s3, s4, s5, s6, s7, s8, s9, s10, s11⟩
                     go_simp
                     with_reducible rfl
                   rotate_left
                   · simp only [Act.put, List.setIfInBounds_toArray, List.set_cons_zero, List.set_cons_succ, i64_w, i32_w]
                     rfl
                   refine one_ (i := 8) (N := some 110) #[yY,yY,yY,yY,yY,yY,yY,yY,yY,nN,nN,nN,nN] rfl rfl (one_of HT_.out (by kernel_rfl)) (by decide) (fun K hK => ?_)
                   refine goes_ Try.func26 (by kernel_rfl) rfl #[.slice Ao61 t425.length co61, .int .i64 (rd l0_4 x12_3)] (by rfl) rfl rfl zq107 ?_
                   with_reducible refine (r3_Told.calls _ _ t425 (rd l0_4 x12_3) t448 _ ?side1 ?side2 A55.out).mono ?_
                   (case side1 => exact zq87)
                   (case side2 => exact (Kd.R_reads' HO_5.out).2.1)
                   rintro e w' ⟨rfl, ⟨nd, rfl⟩⟩
                   refine ⟨_, rfl, ?_⟩
                   refine hK.out _ _ ⟨(blk_cell BK428.out 0).trans rfl, (blk_cell BK428.out 1).trans rfl, (blk_cell BK428.out 2).trans rfl, (blk_cell BK428.out 3).trans rfl, (blk_cell BK428.out 4).trans rfl, (blk_cell BK421.out 0).trans rfl, (blk_cell BK421.out 1).trans rfl, (blk_cell BK421.out 2).trans rfl, (blk_cell BK421.out 3).trans rfl, (blk_cell BK421.out 4).trans rfl, (blk_cell BK421.out 5).trans rfl, ((HB.out.cell (World.block_lt_of_cell? w _ hw447_0)).trans hw447_0)⟩ (fun hHeld => ?_)
                   clear hK K
                   refine norm_ (a' := ?_) ?_ ?_
                   rotate_left
                   · show Act.put _ (some 110) _ = _
                     simp only [Act.put, List.setIfInBounds_toArray, List.set_cons_zero, List.set_cons_succ, i64_w, i32_w]
                     rfl
                   refine one_ (i := 9) (N := some 111) #[yY,yY,yY,yY,yY,yY,yY,yY,yY,yY,nN,nN,nN] rfl rfl (one_of HT_.out (by kernel_rfl)) (by decide) (fun K hK => ?_)
                   refine value_ (w1 := ?_) (v := ?_) (by rfl) rfl ?_ ?_
                   rotate_left 2
                   · go_simp
                     constructor
                     · rfl
                     · rfl
                   refine hK.out _ _ ⟨(blk_cell (blk_alloc BK428.out _) 0).trans rfl, (blk_cell (blk_alloc BK428.out _) 1).trans rfl, (blk_cell (blk_alloc BK428.out _) 2).trans rfl, (blk_cell (blk_alloc BK428.out _) 3).trans rfl, (blk_cell (blk_alloc BK428.out _) 4).trans rfl, (blk_cell (blk_alloc BK421.out _) 0).trans rfl, (blk_cell (blk_alloc BK421.out _) 1).trans rfl, (blk_cell (blk_alloc BK421.out _) 2).trans rfl, (blk_cell (blk_alloc BK421.out _) 3).trans rfl, (blk_cell (blk_alloc BK421.out _) 4).trans rfl, (blk_cell (blk_alloc BK421.out _) 5).trans rfl, (World.cell?_alloc_lt _ _ _ (World.block_lt_of_cell? _ _ (((HB.out.cell (World.block_lt_of_cell? w _ hw447_0)).trans hw447_0)))).trans (((HB.out.cell (World.block_lt_of_cell? w _ hw447_0)).trans hw447_0))⟩ (fun hHeld => ?_)
                   clear hK K
                   refine norm_ (a' := ?_) ?_ ?_
                   rotate_left
                   · show Act.put _ (some 111) _ = _
                     simp only [Act.put, List.setIfInBounds_toArray, List.set_cons_zero, List.set_cons_succ, i64_w, i32_w]
                     rfl
                   refine one_ (i := 10) (N := some 112) #[yY,yY,yY,yY,yY,yY,yY,yY,yY,yY,yY,nN,nN] rfl rfl (one_of HT_.out (by kernel_rfl)) (by decide) (fun K hK => ?_)
                   refine Kd.R_append_step (Kd.int .i64) (w0 := w) w.heap.size (by rfl) (.tmp 103) (.tmp 111) 24 3 (.int .i64 0) 8 rfl Try.underlying24 info3 rfl (by decide) (by omega) u429003 x429003_3 t448 [.int .i64 t448] (fun k_ => some k_ ≠ (.slice Ao61 t425.length co61 : Value).ownBlock) (fun _ => False) rfl rfl ?aP (fun _ hk => hk.elim) ?aF ?aO ?aB ?aS ?aL ?_
                   (case aP => exact rfl)
                   (case aB => exact zq47)
                   (case aF => exact (fun k_ hk => Kd.fresh' (Kd.R_lt zq179) k_ hk))
                   (case aO => exact zq143)
                   (case aS => exact zq46)
                   (case aL => have := LMc56.out; omega)
                   intro v450 w62 ho hb hg hat
                   rw [← Ny449.out] at ho
                   have n0_ := Aside0.mk (Kd.R_after (ok := (fun _ => True)) (by (with_reducible repeat (first | apply Kd.R_alloc | apply Kd.R_drewN | apply Kd.R_drew)); exact Kd.R_mono HO_5.out (fun _ hk => ⟨trivial, hk⟩)) hg hat)
                   have n1_ := Aside0.mk (Kd.R_over' zq141 (Kd.R_typed zq143) (by decide) hg)
                   have n2_ := Aside0.mk (Kd.R_over' zq142 (Kd.R_typed zq143) (by decide) hg)
                   have n3_ := Aside0.mk (blk_grown (g := gb421) (o := .cells #[.int .i64 a0_0, .slice A0_1 l0_1.length c0_1, .slice A0_2 l0_2.length c0_2, .slice A0_3 l0_3.length c0_3, .slice (some ad447) l0_4.length c0_4, .slice A0_5 l0_5.length c0_5] 30 (0, 0)) zq131 hg (Kd.R_ne HO_429003.out BK421.out (by decide)))
                   have n4_ := Aside0.mk (blk_grown (g := gb422) (o := .cells #[.int .i64 0, .slice none 0 0, .slice none 0 0, .slice none 0 0, .slice none 0 0] 26 (0, 0)) zq132 hg (Kd.R_ne HO_429003.out BK422.out (by decide)))
                   have n5_ := Aside0.mk (blk_grown (g := gb428) (o := .cells #[.int .i64 (l0_1.length : Int), u429001, u429002, u429003, .slice none 0 0] 26 (0, 0)) zq133 hg (Kd.R_ne HO_429003.out BK428.out (by decide)))
                   have n6_ := Aside0.mk (hb)
                   have n7_ := Aside0.mk (ho)
                   clear HO_5
                   clear HO_429001
                   clear HO_429002
                   clear BK421
                   clear BK422
                   clear BK428
                   clear HB
                   clear HO_429003
                   have HO_5 := n0_
                   have HO_429001 := n1_
                   have HO_429002 := n2_
                   have BK421 := n3_
                   have BK422 := n4_
                   have BK428 := n5_
                   have HB := n6_
                   have HO451 := n7_
                   clear n0_ n1_ n2_ n3_ n4_ n5_ n6_ n7_
                   clear ho hb hg hat
                   obtain ⟨Ao63, co63, eo63⟩ := Kd.R_slice HO451.out
                   (first | subst eo63 | (injection eo63 with f1_ f2_ f3_; have f4_ := f1_.symm; have f5_ := f3_.symm; clear f1_ f2_ f3_; subst f4_; subst f5_))
                   refine hK.out _ _ ⟨(blk_cell BK428.out 0).trans rfl, (blk_cell BK428.out 1).trans rfl, (blk_cell BK428.out 2).trans rfl, (blk_cell BK428.out 3).trans rfl, (blk_cell BK428.out 4).trans rfl, (blk_cell BK421.out 0).trans rfl, (blk_cell BK421.out 1).trans rfl, (blk_cell BK421.out 2).trans rfl, (blk_cell BK421.out 3).trans rfl, (blk_cell BK421.out 4).trans rfl, (blk_cell BK421.out 5).trans rfl, ((HB.out.cell (World.block_lt_of_cell? w _ hw447_0)).trans hw447_0)⟩ (fun hHeld => ?_)
                   clear hK K
                   refine norm_ (a' := ?_) ?_ ?_
                   rotate_left
                   · show Act.put _ (some 112) _ = _
                     simp only [Act.put, List.setIfInBounds_toArray, List.set_cons_zero, List.set_cons_succ, i64_w, i32_w]
                     rfl
                   refine pz 11 113 #[yY,yY,yY,yY,yY,yY,yY,yY,yY,yY,yY,yY,nN] (h := ?_)
                   refine last_ (i := 12) (N := none) #[yY,yY,yY,yY,yY,yY,yY,yY,yY,yY,yY,yY,yY] rfl rfl (one_of HT_.out (by kernel_rfl)) (by decide) (fun K hK => ?_)
                   have hs64 : w62.cell? ⟨gb428, 3, none⟩ = some (u429003) := (blk_cell BK428.out 3).trans rfl
                   have hfs64 := blk_frozen BK428.out 3
                   have hns64_0 := NB421_428.out
                   have hns64_1 := NB422_428.out
                   have hms64_0 := NB428_421.out
                   have hms64_1 := NB428_422.out
                   refine skip_ (w1 := ?_) (by rfl) rfl ?_ ?_
                   rotate_left
                   · go_simp
                     rfl
                   refine hK.out _ _ ?_
                   clear hK K
                   refine done_ (done_of HT_.out (by kernel_rfl)) ?_
                   try go_wp2
                   go_roundg k3
                   case measure => have := HK1.out; have := HK2.out; have := HK3.out; omega
                   case rel => exact ⟨(wrap64 (x12_3 + 1)), (y449), (.slice Ao63 y449.length co63), zq187, H', ⟨zq183⟩, ⟨by (with_reducible repeat (first | apply Kd.R_alloc | apply Kd.R_drewN | apply Kd.R_drew)); exact Kd.R_mono (Kd.R_far (p := ⟨gb428, 3, none⟩) (Kd.R_types HO_5.out BK428.out (by decide)) (fun _ hk => by first | exact hk.2 | exact hk) (.slice Ao63 y449.length co63)) (fun _ hk => by first | exact hk.1.2 | exact hk)⟩, ⟨by (with_reducible repeat (first | apply Kd.R_alloc | apply Kd.R_drewN | apply Kd.R_drew)); exact Kd.R_mono (Kd.R_far (p := ⟨gb428, 3, none⟩) (Kd.R_types HO_429001.out BK428.out (by decide)) (fun _ hk => by first | exact hk.2 | exact hk) (.slice Ao63 y449.length co63)) (fun _ hk => trivial)⟩, ⟨by (with_reducible repeat (first | apply Kd.R_alloc | apply Kd.R_drewN | apply Kd.R_drew)); exact Kd.R_mono (Kd.R_far (p := ⟨gb428, 3, none⟩) (Kd.R_types HO_429002.out BK428.out (by decide)) (fun _ hk => by first | exact hk.2 | exact hk) (.slice Ao63 y449.length co63)) (fun _ hk => trivial)⟩, ⟨by (with_reducible repeat (first | apply Kd.R_alloc | apply Kd.R_drewN | apply Kd.R_drew)); exact Kd.R_mono (Kd.R_far (p := ⟨gb428, 3, none⟩) (Kd.R_types HO451.out BK428.out (by decide)) (fun _ hk => by first | exact hk.2 | exact hk) (.slice Ao63 y449.length co63)) (fun _ hk => by first | exact hk.1 | exact hk)⟩, ⟨zq44⟩, ⟨zq45⟩, ⟨by (with_reducible repeat (first | refine blk_drewN ?_ _ | refine blk_drew ?_ | refine blk_alloc ?_ _)); refine blk_put (cs := #[.int .i64 (l0_1.length : Int), u429001, u429002, u429003, .slice none 0 0]) ?_ 3 _ rfl; (with_reducible repeat (first | refine blk_drewN ?_ _ | refine blk_drew ?_ | refine blk_alloc ?_ _)); exact BK428.out⟩, ⟨zq50⟩⟩
                 · rw [if_neg c56] at H
                   exact absurd H (by simp)
               · rw [if_neg c54] at H
                 exact absurd H (by simp)
             · rw [if_neg c53] at H
               have c53b0 : decide (x12_3 < (l0_4.length : Int)) = false := decide_eq_false c53
               clear c53
               have H' := Aside0.mk H
               clear H
               have hnb65 := NB421_422.out
               have hnc65 := NB422_421.out
               have hnb66 := NB421_428.out
               have hnc66 := NB428_421.out
               obtain ⟨b67_0, b67_1, b67_2, b67_3, b67_4, b67_5, d67_0, d67_1, d67_2, d67_3, d67_4, d67_5⟩ := bk6 BK421.out
               go_wp2
               go_loopg [13] k3 (fun kq v13 w' => ∃ (x13_4 : Int) (x429004_4 : List Int) (u429004 : Value), v13 = .int .i64 x13_4 ∧ Aside0 (r3_Circuit.l3 kq t425 x13_4 a0_0 l0_1 l0_2 l0_3 l0_4 l0_5 (l0_1.length : Int) x429001_1 x429002_2 x429003_3 x429004_4 = some (r1, r2, r3, r4, r5, r6, r7)) ∧ Aside0 (kq ≤ k3) ∧ Aside0 (Kd.R (Kd.int .i64) 3 w' w.heap.size (fun k_ => some k_ ≠ (u429003 : Value).ownBlock ∧ some k_ ≠ (u429004 : Value).ownBlock) v426 t425) ∧ Aside0 (Kd.R k61 61 w' w.heap.size (fun _ => True) u429001 x429001_1) ∧ Aside0 (Kd.R k59 59 w' w.heap.size (fun _ => True) u429002 x429002_2) ∧ Aside0 (Kd.R (Kd.int .i64) 3 w' w.heap.size (fun k_ => some k_ ≠ (v426 : Value).ownBlock ∧ some k_ ≠ (u429004 : Value).ownBlock) u429003 x429003_3) ∧ Aside0 (Kd.R (Kd.int .i64) 3 w' w.heap.size (fun k_ => some k_ ≠ (v426 : Value).ownBlock ∧ some k_ ≠ (u429003 : Value).ownBlock) u429004 x429004_4) ∧ Aside0 (w'.heap[gb421]? = some (.cells #[.int .i64 a0_0, (.slice A0_1 l0_1.length c0_1), (.slice A0_2 l0_2.length c0_2), (.slice A0_3 l0_3.length c0_3), (.slice A0_4 l0_4.length c0_4), (.slice A0_5 l0_5.length c0_5)] 30 (0, 0))) ∧ Aside0 (w'.heap[gb422]? = some (.cells #[.int .i64 0, (.slice none 0 0), (.slice none 0 0), (.slice none 0 0), (.slice none 0 0)] 26 (0, 0))) ∧ Aside0 (w'.heap[gb428]? = some (.cells #[.int .i64 (l0_1.length : Int), u429001, u429002, u429003, u429004] 26 (0, 0))) ∧ Aside0 (Below w.heap.size w w'))
               case atStart => exact ⟨(0), (([] : List Int)), (.slice none 0 0), zq187, H', ⟨Nat.le_refl _⟩, ⟨by (with_reducible repeat (first | apply Kd.R_alloc | apply Kd.R_drewN | apply Kd.R_drew)); exact Kd.R_mono HO_5.out (fun _ hk => ⟨hk, (by simp [Value.ownBlock])⟩)⟩, ⟨zq141⟩, ⟨zq142⟩, ⟨by (with_reducible repeat (first | apply Kd.R_alloc | apply Kd.R_drewN | apply Kd.R_drew)); exact Kd.R_mono HO_429003.out (fun _ hk => ⟨hk, (by simp [Value.ownBlock])⟩)⟩, ⟨zq106⟩, ⟨zq131⟩, ⟨zq132⟩, ⟨zq133⟩, ⟨zq50⟩⟩
               case round =>
                clear H'
                try clear c1
                try clear c2
                try clear p2
                try clear c3
                try clear c3b0
                try clear c3b1
                try clear c4
                try clear p4
                try clear q4
                try clear hx4
                try clear c5
                try clear c6
                try clear p6
                try clear c7
                try clear c14
                try clear c15
                try clear c17
                try clear c17b0
                try clear c18
                try clear c18b0
                try clear c19
                try clear c20
                try clear c21
                try clear c22
                try clear c26
                try clear c30
                try clear c31
                try clear c34
                try clear c34b0
                try clear c35
                try clear c35b0
                try clear c36
                try clear c36b0
                try clear c37
                try clear c37b0
                try clear c39
                try clear c42
                try clear p42
                try clear q42
                try clear hx42
                try clear p43
                try clear q43
                try clear hx43
                try clear p44
                try clear q44
                try clear hx44
                try clear c46
                try clear c47
                try clear c53
                try clear c53b0
                try clear c54
                try clear c54b0
                try clear c56
                try clear c57
                try clear c58
                try clear p64
                try clear c65
                try clear c66
                try clear b10_0
                try clear b10_1
                try clear b10_2
                try clear b10_3
                try clear b10_4
                try clear b10_5
                try clear b12_0
                try clear b12_1
                try clear b12_2
                try clear b12_3
                try clear b12_4
                try clear b12_5
                try clear b16_0
                try clear b16_1
                try clear b16_2
                try clear b16_3
                try clear b16_4
                try clear b23_0
                try clear b23_1
                try clear b23_2
                try clear b23_3
                try clear b23_4
                try clear b23_5
                try clear b32_0
                try clear b32_1
                try clear b32_2
                try clear b32_3
                try clear b32_4
                try clear b32_5
                try clear b48_0
                try clear b48_1
                try clear b48_2
                try clear b48_3
                try clear b48_4
                try clear b51_0
                try clear b51_1
                try clear b51_2
                try clear b51_3
                try clear b51_4
                try clear b59_0
                try clear b59_1
                try clear b59_2
                try clear b59_3
                try clear b59_4
                try clear b59_5
                try clear b67_0
                try clear b67_1
                try clear b67_2
                try clear b67_3
                try clear b67_4
                try clear b67_5
                try clear b8_0
                try clear b8_1
                try clear b8_2
                try clear b8_3
                try clear b8_4
                try clear b8_5
                try clear d10_0
                try clear d10_1
                try clear d10_2
                try clear d10_3
                try clear d10_4
                try clear d10_5
                try clear d12_0
                try clear d12_1
                try clear d12_2
                try clear d12_3
                try clear d12_4
                try clear d12_5
                try clear d16_0
                try clear d16_1
                try clear d16_2
                try clear d16_3
                try clear d16_4
                try clear d23_0
                try clear d23_1
                try clear d23_2
                try clear d23_3
                try clear d23_4
                try clear d23_5
                try clear d32_0
                try clear d32_1
                try clear d32_2
                try clear d32_3
                try clear d32_4
                try clear d32_5
                try clear d48_0
                try clear d48_1
                try clear d48_2
                try clear d48_3
                try clear d48_4
                try clear d51_0
                try clear d51_1
                try clear d51_2
                try clear d51_3
                try clear d51_4
                try clear d59_0
                try clear d59_1
                try clear d59_2
                try clear d59_3
                try clear d59_4
                try clear d59_5
                try clear d67_0
                try clear d67_1
                try clear d67_2
                try clear d67_3
                try clear d67_4
                try clear d67_5
                try clear d8_0
                try clear d8_1
                try clear d8_2
                try clear d8_3
                try clear d8_4
                try clear d8_5
                try clear hx429_0
                try clear hx429_1
                try clear hx429_2
                try clear hx431_0
                try clear hx431_1
                try clear hx431_2
                try clear hx438_0
                try clear hx439_0
                try clear hx439_1
                try clear hx439_2
                try clear hx441_0
                try clear hx442_0
                try clear hx442_1
                try clear hx442_2
                try clear hx447_0
                try clear p2
                try clear p4
                try clear p42
                try clear p429
                try clear p43
                try clear p431
                try clear p438
                try clear p439
                try clear p44
                try clear p441
                try clear p442
                try clear p447
                try clear p6
                try clear q4
                try clear q42
                try clear q429
                try clear q43
                try clear q431
                try clear q438
                try clear q439
                try clear q44
                try clear q441
                try clear q442
                try clear q447
                obtain ⟨x13_4, x429004_4, u429004, rfl, HA, HK4, HO_5, HO_429001, HO_429002, HO_429003, HO_429004, BK421, BK422, BK428, HB⟩ := hrel
                cases gk with
                | zero => exact absurd HA.out (by simp [r3_Circuit.l3])
                | succ k4 =>
                 have H := HA.out
                 clear HA
                 simp only [r3_Circuit.l3] at H
                 by_cases c68 : x13_4 < (l0_5.length : Int)
                 · rw [if_pos c68] at H
                   have c68b0 : decide (x13_4 < (l0_5.length : Int)) = true := decide_eq_true c68
                   clear c68
                   by_cases c69 : 0 ≤ x13_4
                   · rw [if_pos c69] at H
                     have c69b0 : decide (0 ≤ x13_4) = true := decide_eq_true c69
                     clear c69
                     replace H := Option.bind_eq_some_iff.mp H
                     obtain ⟨t453, A700, H⟩ := H
                     replace H : (if x429004_4.length < 17592186044416 then (r3_Circuit.l3 k4 t425 (wrap64 (x13_4 + 1)) a0_0 l0_1 l0_2 l0_3 l0_4 l0_5 (l0_1.length : Int) x429001_1 x429002_2 x429003_3 (x429004_4 ++ [t453])) else (none)) = some (r1, r2, r3, r4, r5, r6, r7) := H
                     have A70 := Aside0.mk A700
                     clear A700
                     by_cases c71 : x429004_4.length < 17592186044416
                     · rw [if_pos c71] at H
                       have LMc71 := Aside0.mk c71
                       clear c71
                       obtain ⟨y454, hy454⟩ : ∃ y_ : List Int, y_ = (x429004_4 ++ [t453]) := ⟨_, rfl⟩
                       replace H : (r3_Circuit.l3 k4 t425 (wrap64 (x13_4 + 1)) a0_0 l0_1 l0_2 l0_3 l0_4 l0_5 (l0_1.length : Int) x429001_1 x429002_2 x429003_3 y454) = some (r1, r2, r3, r4, r5, r6, r7) := by first | (rw [hy454]; with_reducible exact H) | (have H2_ := (Option.bind_some _ _).symm.trans H; rw [hy454]; with_reducible exact H2_) | (have H2_ := (Option.bind_some _ _).symm.trans H; with_reducible exact H2_) | with_reducible exact H | (rw [hy454]; exact H) | exact H
                       have Ny454 := Aside0.mk hy454
                       clear hy454
                       have H' := Aside0.mk H
                       clear H
                       have hnb72 := NB421_422.out
                       have hnc72 := NB422_421.out
                       have hnb73 := NB421_428.out
                       have hnc73 := NB428_421.out
                       obtain ⟨b74_0, b74_1, b74_2, b74_3, b74_4, b74_5, d74_0, d74_1, d74_2, d74_3, d74_4, d74_5⟩ := bk6 BK421.out
                       try go_wp2
                       have n0_ := Aside0.mk (Kd.R_drew HO_5.out)
                       have n1_ := Aside0.mk (Kd.R_drew HO_429001.out)
                       have n2_ := Aside0.mk (Kd.R_drew HO_429002.out)
                       have n3_ := Aside0.mk (Kd.R_drew HO_429003.out)
                       have n4_ := Aside0.mk (Kd.R_drew HO_429004.out)
                       have n5_ := Aside0.mk (blk_drew BK421.out)
                       have n6_ := Aside0.mk (blk_drew BK422.out)
                       have n7_ := Aside0.mk (blk_drew BK428.out)
                       have n8_ := Aside0.mk (below_drew1 HB.out)
                       clear HO_5
                       clear HO_429001
                       clear HO_429002
                       clear HO_429003
                       clear HO_429004
                       clear BK421
                       clear BK422
                       clear BK428
                       clear HB
                       have HO_5 := n0_
                       have HO_429001 := n1_
                       have HO_429002 := n2_
                       have HO_429003 := n3_
                       have HO_429004 := n4_
                       have BK421 := n5_
                       have BK422 := n6_
                       have BK428 := n7_
                       have HB := n8_
                       clear n0_ n1_ n2_ n3_ n4_ n5_ n6_ n7_ n8_
                       have p452 : 0 ≤ (x13_4 : Int) := of_decide_eq_true zq186
                       have q452 : x13_4 < (l0_5.length : Int) := of_decide_eq_true zq186
                       obtain ⟨ad452, e452, hx452_0⟩ := Kd.at_int HR0_5.out x13_4 p452 q452
                       have hw452_0 := hx452_0
                       cases e452
                       replace hx452_0 := (HB.out.cell (World.block_lt_of_cell? w _ hx452_0)).trans hx452_0
                       replace p452 := eq_true p452
                       replace q452 := eq_true q452
                       obtain ⟨Ao76, co76, eo76⟩ := Kd.R_slice HO_5.out
                       (first | subst eo76 | (injection eo76 with f1_ f2_ f3_; have f4_ := f1_.symm; have f5_ := f3_.symm; clear f1_ f2_ f3_; subst f4_; subst f5_))
                       refine start_ (n := 13) (S := fun w' => w'.cell? ⟨gb428, 0, none⟩ = some (.int .i64 (l0_1.length : Int)) ∧ w'.cell? ⟨gb428, 1, none⟩ = some (u429001) ∧ w'.cell? ⟨gb428, 2, none⟩ = some (u429002) ∧ w'.cell? ⟨gb428, 3, none⟩ = some (u429003) ∧ w'.cell? ⟨gb428, 4, none⟩ = some (u429004) ∧ w'.cell? ⟨gb421, 0, none⟩ = some (.int .i64 a0_0) ∧ w'.cell? ⟨gb421, 1, none⟩ = some (.slice A0_1 l0_1.length c0_1) ∧ w'.cell? ⟨gb421, 2, none⟩ = some (.slice A0_2 l0_2.length c0_2) ∧ w'.cell? ⟨gb421, 3, none⟩ = some (.slice A0_3 l0_3.length c0_3) ∧ w'.cell? ⟨gb421, 4, none⟩ = some (.slice A0_4 l0_4.length c0_4) ∧ w'.cell? ⟨gb421, 5, none⟩ = some (.slice (some ad452) l0_5.length c0_5) ∧ w'.cell? (ad452.add (x13_4).toNat) = some (.int .i64 (rd l0_5 x13_4))) (ds := [12]) #[nN,nN,nN,nN,nN,nN,nN,nN,nN,nN,nN,nN,nN] (by kernel_rfl) rfl rfl ⟨(blk_cell BK428.out 0).trans rfl, (blk_cell BK428.out 1).trans rfl, (blk_cell BK428.out 2).trans rfl, (blk_cell BK428.out 3).trans rfl, (blk_cell BK428.out 4).trans rfl, (blk_cell BK421.out 0).trans rfl, (blk_cell BK421.out 1).trans rfl, (blk_cell BK421.out 2).trans rfl, (blk_cell BK421.out 3).trans rfl, (blk_cell BK421.out 4).trans rfl, (blk_cell BK421.out 5).trans rfl, ((HB.out.cell (World.block_lt_of_cell? w _ hw452_0)).trans hw452_0)⟩ (fun hHeld => ?_); refine with_tabW r3_Circuit.tab22 r3_Circuit.bits22 (fun HT_ HW_ => ?_)
                       generalize wr.drew = w75 at HO_5 HO_429001 HO_429002 HO_429003 HO_429004 BK421 BK422 BK428 HB hx452_0 hHeld ⊢
                       refine pz 0 121 #[yY,nN,nN,nN,nN,nN,nN,nN,nN,nN,nN,nN,nN] (h := ?_)
                       refine pz 2 123 #[yY,nN,yY,nN,nN,nN,nN,nN,nN,nN,nN,nN,nN] (h := ?_)
                       refine pz 3 124 #[yY,nN,yY,yY,nN,nN,nN,nN,nN,nN,nN,nN,nN] (h := ?_)
                       refine pz 5 126 #[yY,nN,yY,yY,nN,yY,nN,nN,nN,nN,nN,nN,nN] (h := ?_)
                       refine take_ (i := 1) (N := some 122) (v := ?_) (a' := ?_) #[yY,yY,yY,yY,nN,yY,nN,nN,nN,nN,nN,nN,nN] rfl rfl (take_ofW HT_.out HW_.out (by kernel_rfl)) (fun _ _ _ h => h) (Or.inl ⟨by rfl, ?_⟩) hHeld ?_ ?_
                       rotate_left
                       · rintro w' ⟨s0, s1, s2, s3, s4, s5, s6, s7, s8, s9, s10, s11⟩
                         go_simp
                         with_reducible rfl
                       rotate_left
                       · simp only [Act.put, List.setIfInBounds_toArray, List.set_cons_zero, List.set_cons_succ, i64_w, i32_w]
                         rfl
                       refine take_ (i := 4) (N := some 125) (v := ?_) (a' := ?_) #[yY,yY,yY,yY,yY,yY,nN,nN,nN,nN,nN,nN,nN] rfl rfl (take_ofW HT_.out HW_.out (by kernel_rfl)) (fun _ _ _ h => h) (Or.inl ⟨by rfl, ?_⟩) hHeld ?_ ?_
                       rotate_left
                       · rintro w' ⟨s0, s1, s2, s3, s4, s5, s6, s7, s8, s9, s10, s11⟩
                         go_simp
                         with_reducible rfl
                       rotate_left
                       · simp only [Act.put, List.setIfInBounds_toArray, List.set_cons_zero, List.set_cons_succ, i64_w, i32_w]
                         rfl
                       refine pz 6 127 #[yY,yY,yY,yY,yY,yY,yY,nN,nN,nN,nN,nN,nN] (h := ?_)
                       refine take_ (i := 7) (N := some 128) (v := ?_) (a' := ?_) #[yY,yY,yY,yY,yY,yY,yY,yY,nN,nN,nN,nN,nN] rfl rfl (take_ofW HT_.out HW_.out (by kernel_rfl)) (fun _ _ _ h => h) (Or.inl ⟨by rfl, ?_⟩) hHeld ?_ ?_
                       rotate_left
                       · rintro w' ⟨s0, s1, s2, s3, s4, s5, s6, s7, s8, s9, s10, s11⟩
                         go_simp
                         with_reducible rfl
                       rotate_left
                       · simp only [Act.put, List.setIfInBounds_toArray, List.set_cons_zero, List.set_cons_succ, i64_w, i32_w]
                         rfl
                       refine one_ (i := 8) (N := some 129) #[yY,yY,yY,yY,yY,yY,yY,yY,yY,nN,nN,nN,nN] rfl rfl (one_of HT_.out (by kernel_rfl)) (by decide) (fun K hK => ?_)
                       refine goes_ Try.func26 (by kernel_rfl) rfl #[.slice Ao76 t425.length co76, .int .i64 (rd l0_5 x13_4)] (by rfl) rfl rfl zq107 ?_
                       with_reducible refine (r3_Told.calls _ _ t425 (rd l0_5 x13_4) t453 _ ?side1 ?side2 A70.out).mono ?_
                       (case side1 => exact zq87)
                       (case side2 => exact (Kd.R_reads' HO_5.out).2.1)
                       rintro e w' ⟨rfl, ⟨nd, rfl⟩⟩
                       refine ⟨_, rfl, ?_⟩
                       refine hK.out _ _ ⟨(blk_cell BK428.out 0).trans rfl, (blk_cell BK428.out 1).trans rfl, (blk_cell BK428.out 2).trans rfl, (blk_cell BK428.out 3).trans rfl, (blk_cell BK428.out 4).trans rfl, (blk_cell BK421.out 0).trans rfl, (blk_cell BK421.out 1).trans rfl, (blk_cell BK421.out 2).trans rfl, (blk_cell BK421.out 3).trans rfl, (blk_cell BK421.out 4).trans rfl, (blk_cell BK421.out 5).trans rfl, ((HB.out.cell (World.block_lt_of_cell? w _ hw452_0)).trans hw452_0)⟩ (fun hHeld => ?_)
                       clear hK K
                       refine norm_ (a' := ?_) ?_ ?_
                       rotate_left
                       · show Act.put _ (some 129) _ = _
                         simp only [Act.put, List.setIfInBounds_toArray, List.set_cons_zero, List.set_cons_succ, i64_w, i32_w]
                         rfl
                       refine one_ (i := 9) (N := some 130) #[yY,yY,yY,yY,yY,yY,yY,yY,yY,yY,nN,nN,nN] rfl rfl (one_of HT_.out (by kernel_rfl)) (by decide) (fun K hK => ?_)
                       refine value_ (w1 := ?_) (v := ?_) (by rfl) rfl ?_ ?_
                       rotate_left 2
                       · go_simp
                         constructor
                         · rfl
                         · rfl
                       refine hK.out _ _ ⟨(blk_cell (blk_alloc BK428.out _) 0).trans rfl, (blk_cell (blk_alloc BK428.out _) 1).trans rfl, (blk_cell (blk_alloc BK428.out _) 2).trans rfl, (blk_cell (blk_alloc BK428.out _) 3).trans rfl, (blk_cell (blk_alloc BK428.out _) 4).trans rfl, (blk_cell (blk_alloc BK421.out _) 0).trans rfl, (blk_cell (blk_alloc BK421.out _) 1).trans rfl, (blk_cell (blk_alloc BK421.out _) 2).trans rfl, (blk_cell (blk_alloc BK421.out _) 3).trans rfl, (blk_cell (blk_alloc BK421.out _) 4).trans rfl, (blk_cell (blk_alloc BK421.out _) 5).trans rfl, (World.cell?_alloc_lt _ _ _ (World.block_lt_of_cell? _ _ (((HB.out.cell (World.block_lt_of_cell? w _ hw452_0)).trans hw452_0)))).trans (((HB.out.cell (World.block_lt_of_cell? w _ hw452_0)).trans hw452_0))⟩ (fun hHeld => ?_)
                       clear hK K
                       refine norm_ (a' := ?_) ?_ ?_
                       rotate_left
                       · show Act.put _ (some 130) _ = _
                         simp only [Act.put, List.setIfInBounds_toArray, List.set_cons_zero, List.set_cons_succ, i64_w, i32_w]
                         rfl
                       refine one_ (i := 10) (N := some 131) #[yY,yY,yY,yY,yY,yY,yY,yY,yY,yY,yY,nN,nN] rfl rfl (one_of HT_.out (by kernel_rfl)) (by decide) (fun K hK => ?_)
                       refine Kd.R_append_step (Kd.int .i64) (w0 := w) w.heap.size (by rfl) (.tmp 122) (.tmp 130) 24 3 (.int .i64 0) 8 rfl Try.underlying24 info3 rfl (by decide) (by omega) u429004 x429004_4 t453 [.int .i64 t453] (fun k_ => some k_ ≠ (.slice Ao76 t425.length co76 : Value).ownBlock ∧ some k_ ≠ (u429003 : Value).ownBlock) (fun _ => False) rfl rfl ?aP (fun _ hk => hk.elim) ?aF ?aO ?aB ?aS ?aL ?_
                       (case aP => exact rfl)
                       (case aB => exact zq47)
                       (case aF => exact (fun k_ hk => ⟨Kd.fresh' (Kd.R_lt zq179) k_ hk, Kd.fresh' (Kd.R_lt zq143) k_ hk⟩))
                       (case aO => exact zq144)
                       (case aS => exact zq46)
                       (case aL => have := LMc71.out; omega)
                       intro v455 w77 ho hb hg hat
                       rw [← Ny454.out] at ho
                       have n0_ := Aside0.mk (Kd.R_after (ok := (fun k_ => some k_ ≠ (u429003 : Value).ownBlock)) zq179 hg hat)
                       have n1_ := Aside0.mk (Kd.R_over' zq141 (Kd.R_typed zq144) (by decide) hg)
                       have n2_ := Aside0.mk (Kd.R_over' zq142 (Kd.R_typed zq144) (by decide) hg)
                       have n3_ := Aside0.mk (Kd.R_after (ok := (fun k_ => some k_ ≠ (.slice Ao76 t425.length co76 : Value).ownBlock)) zq143 hg hat)
                       have n4_ := Aside0.mk (blk_grown (g := gb421) (o := .cells #[.int .i64 a0_0, .slice A0_1 l0_1.length c0_1, .slice A0_2 l0_2.length c0_2, .slice A0_3 l0_3.length c0_3, .slice A0_4 l0_4.length c0_4, .slice (some ad452) l0_5.length c0_5] 30 (0, 0)) zq131 hg (Kd.R_ne HO_429004.out BK421.out (by decide)))
                       have n5_ := Aside0.mk (blk_grown (g := gb422) (o := .cells #[.int .i64 0, .slice none 0 0, .slice none 0 0, .slice none 0 0, .slice none 0 0] 26 (0, 0)) zq132 hg (Kd.R_ne HO_429004.out BK422.out (by decide)))
                       have n6_ := Aside0.mk (blk_grown (g := gb428) (o := .cells #[.int .i64 (l0_1.length : Int), u429001, u429002, u429003, u429004] 26 (0, 0)) zq133 hg (Kd.R_ne HO_429004.out BK428.out (by decide)))
                       have n7_ := Aside0.mk (hb)
                       have n8_ := Aside0.mk (ho)
                       clear HO_5
                       clear HO_429001
                       clear HO_429002
                       clear HO_429003
                       clear BK421
                       clear BK422
                       clear BK428
                       clear HB
                       clear HO_429004
                       have HO_5 := n0_
                       have HO_429001 := n1_
                       have HO_429002 := n2_
                       have HO_429003 := n3_
                       have BK421 := n4_
                       have BK422 := n5_
                       have BK428 := n6_
                       have HB := n7_
                       have HO456 := n8_
                       clear n0_ n1_ n2_ n3_ n4_ n5_ n6_ n7_ n8_
                       clear ho hb hg hat
                       obtain ⟨Ao78, co78, eo78⟩ := Kd.R_slice HO456.out
                       (first | subst eo78 | (injection eo78 with f1_ f2_ f3_; have f4_ := f1_.symm; have f5_ := f3_.symm; clear f1_ f2_ f3_; subst f4_; subst f5_))
                       refine hK.out _ _ ⟨(blk_cell BK428.out 0).trans rfl, (blk_cell BK428.out 1).trans rfl, (blk_cell BK428.out 2).trans rfl, (blk_cell BK428.out 3).trans rfl, (blk_cell BK428.out 4).trans rfl, (blk_cell BK421.out 0).trans rfl, (blk_cell BK421.out 1).trans rfl, (blk_cell BK421.out 2).trans rfl, (blk_cell BK421.out 3).trans rfl, (blk_cell BK421.out 4).trans rfl, (blk_cell BK421.out 5).trans rfl, ((HB.out.cell (World.block_lt_of_cell? w _ hw452_0)).trans hw452_0)⟩ (fun hHeld => ?_)
                       clear hK K
                       refine norm_ (a' := ?_) ?_ ?_
                       rotate_left
                       · show Act.put _ (some 131) _ = _
                         simp only [Act.put, List.setIfInBounds_toArray, List.set_cons_zero, List.set_cons_succ, i64_w, i32_w]
                         rfl
                       refine pz 11 132 #[yY,yY,yY,yY,yY,yY,yY,yY,yY,yY,yY,yY,nN] (h := ?_)
                       refine last_ (i := 12) (N := none) #[yY,yY,yY,yY,yY,yY,yY,yY,yY,yY,yY,yY,yY] rfl rfl (one_of HT_.out (by kernel_rfl)) (by decide) (fun K hK => ?_)
                       have hs79 : w77.cell? ⟨gb428, 4, none⟩ = some (u429004) := (blk_cell BK428.out 4).trans rfl
                       have hfs79 := blk_frozen BK428.out 4
                       have hns79_0 := NB421_428.out
                       have hns79_1 := NB422_428.out
                       have hms79_0 := NB428_421.out
                       have hms79_1 := NB428_422.out
                       refine skip_ (w1 := ?_) (by rfl) rfl ?_ ?_
                       rotate_left
                       · go_simp
                         rfl
                       refine hK.out _ _ ?_
                       clear hK K
                       refine done_ (done_of HT_.out (by kernel_rfl)) ?_
                       try go_wp2
                       go_roundg k4
                       case measure => have := HK1.out; have := HK2.out; have := HK3.out; have := HK4.out; omega
                       case rel => exact ⟨(wrap64 (x13_4 + 1)), (y454), (.slice Ao78 y454.length co78), zq187, H', ⟨zq182⟩, ⟨by (with_reducible repeat (first | apply Kd.R_alloc | apply Kd.R_drewN | apply Kd.R_drew)); exact Kd.R_mono (Kd.R_far (p := ⟨gb428, 4, none⟩) (Kd.R_types HO_5.out BK428.out (by decide)) (fun _ hk => by first | exact hk.2 | exact hk) (.slice Ao78 y454.length co78)) (fun _ hk => ⟨hk.1.1, hk.1.2⟩)⟩, ⟨by (with_reducible repeat (first | apply Kd.R_alloc | apply Kd.R_drewN | apply Kd.R_drew)); exact Kd.R_mono (Kd.R_far (p := ⟨gb428, 4, none⟩) (Kd.R_types HO_429001.out BK428.out (by decide)) (fun _ hk => by first | exact hk.2 | exact hk) (.slice Ao78 y454.length co78)) (fun _ hk => trivial)⟩, ⟨by (with_reducible repeat (first | apply Kd.R_alloc | apply Kd.R_drewN | apply Kd.R_drew)); exact Kd.R_mono (Kd.R_far (p := ⟨gb428, 4, none⟩) (Kd.R_types HO_429002.out BK428.out (by decide)) (fun _ hk => by first | exact hk.2 | exact hk) (.slice Ao78 y454.length co78)) (fun _ hk => trivial)⟩, ⟨by (with_reducible repeat (first | apply Kd.R_alloc | apply Kd.R_drewN | apply Kd.R_drew)); exact Kd.R_mono (Kd.R_far (p := ⟨gb428, 4, none⟩) (Kd.R_types HO_429003.out BK428.out (by decide)) (fun _ hk => by first | exact hk.2 | exact hk) (.slice Ao78 y454.length co78)) (fun _ hk => ⟨hk.1.1, hk.1.2⟩)⟩, ⟨by (with_reducible repeat (first | apply Kd.R_alloc | apply Kd.R_drewN | apply Kd.R_drew)); exact Kd.R_mono (Kd.R_far (p := ⟨gb428, 4, none⟩) (Kd.R_types HO456.out BK428.out (by decide)) (fun _ hk => by first | exact hk.2 | exact hk) (.slice Ao78 y454.length co78)) (fun _ hk => ⟨hk.1.1, hk.1.2⟩)⟩, ⟨zq44⟩, ⟨zq45⟩, ⟨by (with_reducible repeat (first | refine blk_drewN ?_ _ | refine blk_drew ?_ | refine blk_alloc ?_ _)); refine blk_put (cs := #[.int .i64 (l0_1.length : Int), u429001, u429002, u429003, u429004]) ?_ 4 _ rfl; (with_reducible repeat (first | refine blk_drewN ?_ _ | refine blk_drew ?_ | refine blk_alloc ?_ _)); exact BK428.out⟩, ⟨zq50⟩⟩
                     · rw [if_neg c71] at H
                       exact absurd H (by simp)
                   · rw [if_neg c69] at H
                     exact absurd H (by simp)
                 · rw [if_neg c68] at H
                   have c68b0 : decide (x13_4 < (l0_5.length : Int)) = false := decide_eq_false c68
                   clear c68
                   simp only [Option.some.injEq, Prod.mk.injEq] at H
                   obtain ⟨rfl, rfl, rfl, rfl, rfl, rfl, rfl⟩ := H
                   have hnb80 := NB421_422.out
                   have hnc80 := NB422_421.out
                   have hnb81 := NB421_428.out
                   have hnc81 := NB428_421.out
                   obtain ⟨b82_0, b82_1, b82_2, b82_3, b82_4, b82_5, d82_0, d82_1, d82_2, d82_3, d82_4, d82_5⟩ := bk6 BK421.out
                   have hnb83 := NB428_422.out
                   have hnc83 := NB422_428.out
                   obtain ⟨b84_0, b84_1, b84_2, b84_3, b84_4, d84_0, d84_1, d84_2, d84_3, d84_4⟩ := bk5 BK428.out
                   obtain ⟨b85_0, b85_1, b85_2, b85_3, b85_4, d85_0, d85_1, d85_2, d85_3, d85_4⟩ := bk5 BK422.out
                   obtain ⟨Ao86, co86, eo86⟩ := Kd.R_slice HO_429001.out
                   subst eo86
                   obtain ⟨Ao87, co87, eo87⟩ := Kd.R_slice HO_429002.out
                   subst eo87
                   obtain ⟨Ao88, co88, eo88⟩ := Kd.R_slice HO_429003.out
                   subst eo88
                   obtain ⟨Ao89, co89, eo89⟩ := Kd.R_slice HO_429004.out
                   subst eo89
                   go_wp2
                   refine bodyPost_ret (results_ctt rfl _ _ gb422 26 #[.int .i64 (l0_1.length : Int), .slice Ao86 x429001_1.length co86, .slice Ao87 x429002_2.length co87, .slice Ao88 x429003_3.length co88, .slice Ao89 x429004_4.length co89] (0, 0) _ rfl (by (with_reducible repeat (first | refine blk_drewN ?_ _ | refine blk_drew ?_ | refine blk_alloc ?_ _)); refine blk_put (cs := #[.int .i64 (l0_1.length : Int), .slice Ao86 x429001_1.length co86, .slice Ao87 x429002_2.length co87, .slice Ao88 x429003_3.length co88, .slice none 0 0]) ?_ 4 _ rfl; (with_reducible repeat (first | refine blk_drewN ?_ _ | refine blk_drew ?_ | refine blk_alloc ?_ _)); refine blk_put (cs := #[.int .i64 (l0_1.length : Int), .slice Ao86 x429001_1.length co86, .slice Ao87 x429002_2.length co87, .slice none 0 0, .slice none 0 0]) ?_ 3 _ rfl; (with_reducible repeat (first | refine blk_drewN ?_ _ | refine blk_drew ?_ | refine blk_alloc ?_ _)); refine blk_put (cs := #[.int .i64 (l0_1.length : Int), .slice Ao86 x429001_1.length co86, .slice none 0 0, .slice none 0 0, .slice none 0 0]) ?_ 2 _ rfl; (with_reducible repeat (first | refine blk_drewN ?_ _ | refine blk_drew ?_ | refine blk_alloc ?_ _)); refine blk_put (cs := #[.int .i64 (l0_1.length : Int), .slice none 0 0, .slice none 0 0, .slice none 0 0, .slice none 0 0]) ?_ 1 _ rfl; (with_reducible repeat (first | refine blk_drewN ?_ _ | refine blk_drew ?_ | refine blk_alloc ?_ _)); refine blk_put (cs := #[.int .i64 0, .slice none 0 0, .slice none 0 0, .slice none 0 0, .slice none 0 0]) ?_ 0 _ rfl; (with_reducible repeat (first | refine blk_drewN ?_ _ | refine blk_drew ?_ | refine blk_alloc ?_ _)); exact BK422.out) Try.underlying26 rfl (by kernel_rfl)) rfl ?_
                   exact ⟨_, _, _, _, _, zq181, by (with_reducible repeat (first | apply Kd.R_alloc | apply Kd.R_drewN | apply Kd.R_drew)); exact Kd.R_mono (Kd.R_far (p := ⟨gb422, 4, none⟩) (Kd.R_far (p := ⟨gb422, 3, none⟩) (Kd.R_far (p := ⟨gb422, 2, none⟩) (Kd.R_far (p := ⟨gb422, 1, none⟩) (Kd.R_far (p := ⟨gb422, 0, none⟩) (Kd.R_types HO_429001.out BK422.out (by decide)) (fun _ hk => by first | exact hk.2 | exact hk) (.int .i64 (l0_1.length : Int))) (fun _ hk => by first | exact hk.2 | exact hk) (.slice Ao86 x429001_1.length co86)) (fun _ hk => by first | exact hk.2 | exact hk) (.slice Ao87 x429002_2.length co87)) (fun _ hk => by first | exact hk.2 | exact hk) (.slice Ao88 x429003_3.length co88)) (fun _ hk => by first | exact hk.2 | exact hk) (.slice Ao89 x429004_4.length co89)) (fun _ hk => trivial), by (with_reducible repeat (first | apply Kd.R_alloc | apply Kd.R_drewN | apply Kd.R_drew)); exact Kd.R_mono (Kd.R_far (p := ⟨gb422, 4, none⟩) (Kd.R_far (p := ⟨gb422, 3, none⟩) (Kd.R_far (p := ⟨gb422, 2, none⟩) (Kd.R_far (p := ⟨gb422, 1, none⟩) (Kd.R_far (p := ⟨gb422, 0, none⟩) (Kd.R_types HO_429002.out BK422.out (by decide)) (fun _ hk => by first | exact hk.2 | exact hk) (.int .i64 (l0_1.length : Int))) (fun _ hk => by first | exact hk.2 | exact hk) (.slice Ao86 x429001_1.length co86)) (fun _ hk => by first | exact hk.2 | exact hk) (.slice Ao87 x429002_2.length co87)) (fun _ hk => by first | exact hk.2 | exact hk) (.slice Ao88 x429003_3.length co88)) (fun _ hk => by first | exact hk.2 | exact hk) (.slice Ao89 x429004_4.length co89)) (fun _ hk => trivial), by (with_reducible repeat (first | apply Kd.R_alloc | apply Kd.R_drewN | apply Kd.R_drew)); exact Kd.R_mono (Kd.R_far (p := ⟨gb422, 4, none⟩) (Kd.R_far (p := ⟨gb422, 3, none⟩) (Kd.R_far (p := ⟨gb422, 2, none⟩) (Kd.R_far (p := ⟨gb422, 1, none⟩) (Kd.R_far (p := ⟨gb422, 0, none⟩) (Kd.R_types HO_429003.out BK422.out (by decide)) (fun _ hk => by first | exact hk.2 | exact hk) (.int .i64 (l0_1.length : Int))) (fun _ hk => by first | exact hk.2 | exact hk) (.slice Ao86 x429001_1.length co86)) (fun _ hk => by first | exact hk.2 | exact hk) (.slice Ao87 x429002_2.length co87)) (fun _ hk => by first | exact hk.2 | exact hk) (.slice Ao88 x429003_3.length co88)) (fun _ hk => by first | exact hk.2 | exact hk) (.slice Ao89 x429004_4.length co89)) (fun _ hk => ⟨hk.1.2, hk.1.1⟩), by (with_reducible repeat (first | apply Kd.R_alloc | apply Kd.R_drewN | apply Kd.R_drew)); exact Kd.R_mono (Kd.R_far (p := ⟨gb422, 4, none⟩) (Kd.R_far (p := ⟨gb422, 3, none⟩) (Kd.R_far (p := ⟨gb422, 2, none⟩) (Kd.R_far (p := ⟨gb422, 1, none⟩) (Kd.R_far (p := ⟨gb422, 0, none⟩) (Kd.R_types HO_429004.out BK422.out (by decide)) (fun _ hk => by first | exact hk.2 | exact hk) (.int .i64 (l0_1.length : Int))) (fun _ hk => by first | exact hk.2 | exact hk) (.slice Ao86 x429001_1.length co86)) (fun _ hk => by first | exact hk.2 | exact hk) (.slice Ao87 x429002_2.length co87)) (fun _ hk => by first | exact hk.2 | exact hk) (.slice Ao88 x429003_3.length co88)) (fun _ hk => by first | exact hk.2 | exact hk) (.slice Ao89 x429004_4.length co89)) (fun _ hk => ⟨hk.1.2, hk.1.1⟩), by (with_reducible repeat (first | apply Kd.R_alloc | apply Kd.R_drewN | apply Kd.R_drew)); exact Kd.R_mono (Kd.R_far (p := ⟨gb422, 4, none⟩) (Kd.R_far (p := ⟨gb422, 3, none⟩) (Kd.R_far (p := ⟨gb422, 2, none⟩) (Kd.R_far (p := ⟨gb422, 1, none⟩) (Kd.R_far (p := ⟨gb422, 0, none⟩) (Kd.R_types HO_5.out BK422.out (by decide)) (fun _ hk => by first | exact hk.2 | exact hk) (.int .i64 (l0_1.length : Int))) (fun _ hk => by first | exact hk.2 | exact hk) (.slice Ao86 x429001_1.length co86)) (fun _ hk => by first | exact hk.2 | exact hk) (.slice Ao87 x429002_2.length co87)) (fun _ hk => by first | exact hk.2 | exact hk) (.slice Ao88 x429003_3.length co88)) (fun _ hk => by first | exact hk.2 | exact hk) (.slice Ao89 x429004_4.length co89)) (fun _ hk => ⟨hk.1.1, hk.1.2⟩), zq50⟩
 · rw [if_neg c3] at H
   have c3b0 : (t423 == 0) = false := beq_eq_false_iff_ne.mpr c3
   have c3b1 : (t423 != 0) = true := bne_iff_ne.mpr c3
   replace H := Option.bind_eq_some_iff.mp H
   obtain ⟨t424, A900, H⟩ := H
   replace H : (some (0, ([] : List (S61)), ([] : List (S59)), ([] : List Int), ([] : List Int), ([] : List Int), t424)) = some (r1, r2, r3, r4, r5, r6, r7) := H
   have A90 := Aside0.mk A900
   clear A900
   simp only [Option.some.injEq, Prod.mk.injEq] at H
   obtain ⟨rfl, rfl, rfl, rfl, rfl, rfl, rfl⟩ := H
   go_enter Try.func17, Try.ntmps17
   go_wp2_with (first | ((with_reducible refine gate_dst (N := 1) rfl ?_); refine box_event ?hg (N := 1) ?hd (cs := #[.int .i64 a0_0, .slice A0_1 l0_1.length c0_1, .slice A0_2 l0_2.length c0_2, .slice A0_3 l0_3.length c0_3, .slice A0_4 l0_4.length c0_4, .slice A0_5 l0_5.length c0_5]) (t := 30) ?hr ?_; (case hd => rfl); (case hg => rfl); (case hr => first | (go_simp; done) | (go_simp; rfl)); intro gb421 hg w91 hbox hb; have n0_ := Aside0.mk (below_step zq109 hb); have n1_ := Aside0.mk (hbox); have n2_ := Aside0.mk ((zq89 : w.heap.size ≤ gb421)); have n3_ := Aside0.mk ((zq89 : w.heap.size ≤ gb421)); clear HB; have HB := n0_; have BK421 := n1_; have GW421 := n2_; have GE421 := n3_; clear n0_ n1_ n2_ n3_; clear hb hbox hg) | ((with_reducible refine gate_dst (N := 2) rfl ?_); refine box_event ?hg (N := 2) ?hd (cs := #[.int .i64 0, .slice none 0 0, .slice none 0 0, .slice none 0 0, .slice none 0 0]) (t := 26) ?hr ?_; (case hd => rfl); (case hg => rfl); (case hr => first | (go_simp; done) | (go_simp; rfl)); intro gb422 hg w92 hbox hb; have n0_ := Aside0.mk (blk_below (g := gb421) (o := .cells #[.int .i64 a0_0, .slice A0_1 l0_1.length c0_1, .slice A0_2 l0_2.length c0_2, .slice A0_3 l0_3.length c0_3, .slice A0_4 l0_4.length c0_4, .slice A0_5 l0_5.length c0_5] 30 (0, 0)) zq131 hb); have n1_ := Aside0.mk (below_step zq102 hb); have n2_ := Aside0.mk (hbox); have n3_ := Aside0.mk ((zq59 : w.heap.size ≤ gb422)); have n4_ := Aside0.mk ((zq59 : w.heap.size ≤ gb422)); have n5_ := Aside0.mk ((zq32 : gb421 ≠ gb422)); have n6_ := Aside0.mk ((zq28 : gb422 ≠ gb421)); clear BK421; clear HB; have BK421 := n0_; have HB := n1_; have BK422 := n2_; have GW422 := n3_; have GE422 := n4_; have NB421_422 := n5_; have NB422_421 := n6_; clear n0_ n1_ n2_ n3_ n4_ n5_ n6_; clear hb hbox hg; have hnb93 := NB421_422.out; have hnc93 := NB422_421.out; obtain ⟨b94_0, b94_1, b94_2, b94_3, b94_4, b94_5, d94_0, d94_1, d94_2, d94_3, d94_4, d94_5⟩ := bk6 BK421.out) | ((with_reducible refine gate_callee (f := 19) rfl ?_); refine goesL_ (some 15) rfl rfl Try.func19 (by kernel_rfl) rfl #[.agg #[.int .i64 a0_0, .slice A0_1 l0_1.length c0_1, .slice A0_2 l0_2.length c0_2, .slice A0_3 l0_3.length c0_3, .slice A0_4 l0_4.length c0_4, .slice A0_5 l0_5.length c0_5]] rfl zq107 ?_; (with_reducible refine (r3_Check.calls k a0_0 _ _ l0_1 _ _ l0_2 _ _ l0_3 _ _ l0_4 _ _ l0_5 t423 _ ?side1 ?side2 ?side3 ?side4 ?side5 ?side6 ?side7 ?side8 ?side9 ?side10 A2.out).mono ?_); (case side1 => exact zq75); (case side2 => exact HC0_1.out); (case side3 => exact zq76); (case side4 => exact HC0_2.out); (case side5 => exact zq77); (case side6 => exact HC0_3.out); (case side7 => exact zq78); (case side8 => exact HC0_4.out); (case side9 => exact zq79); (case side10 => exact HC0_5.out); rintro e w95 ⟨rfl, hb⟩; refine ⟨_, rfl, ?_⟩; have n0_ := Aside0.mk (blk_below (g := gb421) (o := .cells #[.int .i64 a0_0, .slice A0_1 l0_1.length c0_1, .slice A0_2 l0_2.length c0_2, .slice A0_3 l0_3.length c0_3, .slice A0_4 l0_4.length c0_4, .slice A0_5 l0_5.length c0_5] 30 (0, 0)) zq131 hb); have n1_ := Aside0.mk (blk_below (g := gb422) (o := .cells #[.int .i64 0, .slice none 0 0, .slice none 0 0, .slice none 0 0, .slice none 0 0] 26 (0, 0)) zq132 hb); have n2_ := Aside0.mk (below_step zq68 hb); clear BK421; clear BK422; clear HB; have BK421 := n0_; have BK422 := n1_; have HB := n2_; clear n0_ n1_ n2_; (try clear hb); (try clear hb2); (try clear hk); (try clear hi); obtain ⟨b96_0, b96_1, b96_2, b96_3, b96_4, b96_5, d96_0, d96_1, d96_2, d96_3, d96_4, d96_5⟩ := bk6 BK421.out) | ((with_reducible refine gate_callee (f := 19) rfl ?_); refine goesL_ (some 19) rfl rfl Try.func19 (by kernel_rfl) rfl #[.agg #[.int .i64 a0_0, .slice A0_1 l0_1.length c0_1, .slice A0_2 l0_2.length c0_2, .slice A0_3 l0_3.length c0_3, .slice A0_4 l0_4.length c0_4, .slice A0_5 l0_5.length c0_5]] rfl zq107 ?_; (with_reducible refine (r3_Check.calls k a0_0 _ _ l0_1 _ _ l0_2 _ _ l0_3 _ _ l0_4 _ _ l0_5 t424 _ ?side1 ?side2 ?side3 ?side4 ?side5 ?side6 ?side7 ?side8 ?side9 ?side10 A90.out).mono ?_); (case side1 => exact zq75); (case side2 => exact HC0_1.out); (case side3 => exact zq76); (case side4 => exact HC0_2.out); (case side5 => exact zq77); (case side6 => exact HC0_3.out); (case side7 => exact zq78); (case side8 => exact HC0_4.out); (case side9 => exact zq79); (case side10 => exact HC0_5.out); rintro e w97 ⟨rfl, hb⟩; refine ⟨_, rfl, ?_⟩; have n0_ := Aside0.mk (blk_below (g := gb421) (o := .cells #[.int .i64 a0_0, .slice A0_1 l0_1.length c0_1, .slice A0_2 l0_2.length c0_2, .slice A0_3 l0_3.length c0_3, .slice A0_4 l0_4.length c0_4, .slice A0_5 l0_5.length c0_5] 30 (0, 0)) zq131 hb); have n1_ := Aside0.mk (blk_below (g := gb422) (o := .cells #[.int .i64 0, .slice none 0 0, .slice none 0 0, .slice none 0 0, .slice none 0 0] 26 (0, 0)) zq132 hb); have n2_ := Aside0.mk (below_step zq68 hb); clear BK421; clear BK422; clear HB; have BK421 := n0_; have BK422 := n1_; have HB := n2_; clear n0_ n1_ n2_; (try clear hb); (try clear hb2); (try clear hk); (try clear hi); obtain ⟨b98_0, b98_1, b98_2, b98_3, b98_4, d98_0, d98_1, d98_2, d98_3, d98_4⟩ := bk5 BK422.out))
   refine bodyPost_ret (results_ctt rfl _ _ gb422 26 #[.int .i64 0, .slice none 0 0, .slice none 0 0, .slice none 0 0, .slice none 0 0] (0, 0) _ rfl (by (with_reducible repeat (first | refine blk_drewN ?_ _ | refine blk_drew ?_ | refine blk_alloc ?_ _)); refine blk_put (cs := #[.int .i64 0, .slice none 0 0, .slice none 0 0, .slice none 0 0, .slice none 0 0]) ?_ 4 _ rfl; (with_reducible repeat (first | refine blk_drewN ?_ _ | refine blk_drew ?_ | refine blk_alloc ?_ _)); refine blk_put (cs := #[.int .i64 0, .slice none 0 0, .slice none 0 0, .slice none 0 0, .slice none 0 0]) ?_ 3 _ rfl; (with_reducible repeat (first | refine blk_drewN ?_ _ | refine blk_drew ?_ | refine blk_alloc ?_ _)); refine blk_put (cs := #[.int .i64 0, .slice none 0 0, .slice none 0 0, .slice none 0 0, .slice none 0 0]) ?_ 2 _ rfl; (with_reducible repeat (first | refine blk_drewN ?_ _ | refine blk_drew ?_ | refine blk_alloc ?_ _)); refine blk_put (cs := #[.int .i64 0, .slice none 0 0, .slice none 0 0, .slice none 0 0, .slice none 0 0]) ?_ 1 _ rfl; (with_reducible repeat (first | refine blk_drewN ?_ _ | refine blk_drew ?_ | refine blk_alloc ?_ _)); refine blk_put (cs := #[.int .i64 0, .slice none 0 0, .slice none 0 0, .slice none 0 0, .slice none 0 0]) ?_ 0 _ rfl; (with_reducible repeat (first | refine blk_drewN ?_ _ | refine blk_drew ?_ | refine blk_alloc ?_ _)); exact BK422.out) Try.underlying26 rfl (by kernel_rfl)) rfl ?_
   exact ⟨_, _, _, _, _, zq181, zq106, zq106, zq106, zq106, zq106, zq68⟩
def r3_Great.f (a0_0 : Int) (l0_1 : List Int) (l0_2 : List (S56)) (l0_3 : List (S56)) (l0_4 : List Int) (l0_5 : List Int) : Option (Bool) := if (l0_1.length : Int) > 60 then (if (l0_1.length : Int) = 1001 then (if (l0_2.length : Int) > 60 then (some true) else (if (l0_3.length : Int) > 60 then (some true) else (if (l0_4.length : Int) > 110 then (some true) else (if (l0_5.length : Int) > 110 then (some true) else (if a0_0 > 200 then (some (decide (a0_0 < 991))) else (some false)))))) else (some true)) else (if (l0_2.length : Int) > 60 then (some true) else (if (l0_3.length : Int) > 60 then (some true) else (if (l0_4.length : Int) > 110 then (some true) else (if (l0_5.length : Int) > 110 then (some true) else (if a0_0 > 200 then (some (decide (a0_0 < 991))) else (some false))))))
set_option maxHeartbeats 8000000 in
set_option maxRecDepth 100000 in
theorem r3_Great.calls (a0_0 : Int) (A0_1 : Option Addr) (c0_1 : Nat) (l0_1 : List Int) (A0_2 : Option Addr) (c0_2 : Nat) (l0_2 : List (S56)) (A0_3 : Option Addr) (c0_3 : Nat) (l0_3 : List (S56)) (A0_4 : Option Addr) (c0_4 : Nat) (l0_4 : List Int) (A0_5 : Option Addr) (c0_5 : Nat) (l0_5 : List Int) (r : Bool) (w : World) (hr0_1 : Kd.C (Kd.int .i64) w A0_1 l0_1.length l0_1) (hc0_1 : l0_1.length ≤ c0_1) (hr0_2 : Kd.C k56 w A0_2 l0_2.length l0_2) (hc0_2 : l0_2.length ≤ c0_2) (hr0_3 : Kd.C k56 w A0_3 l0_3.length l0_3) (hc0_3 : l0_3.length ≤ c0_3) (hr0_4 : Kd.C (Kd.int .i64) w A0_4 l0_4.length l0_4) (hc0_4 : l0_4.length ≤ c0_4) (hr0_5 : Kd.C (Kd.int .i64) w A0_5 l0_5.length l0_5) (hc0_5 : l0_5.length ≤ c0_5) (h : r3_Great.f a0_0 l0_1 l0_2 l0_3 l0_4 l0_5 = some r) :
 Calls Try.prog 14 #[.agg #[.int .i64 a0_0, .slice A0_1 l0_1.length c0_1, .slice A0_2 l0_2.length c0_2, .slice A0_3 l0_3.length c0_3, .slice A0_4 l0_4.length c0_4, .slice A0_5 l0_5.length c0_5]] w fun e w' => e = .returned (.bool r) ∧ Below w.heap.size w w' := by
 have hu30 := Try.underlying30
 have HR0_1 := Aside0.mk hr0_1
 have HC0_1 := Aside0.mk hc0_1
 clear hr0_1 hc0_1
 have HR0_2 := Aside0.mk hr0_2
 have HC0_2 := Aside0.mk hc0_2
 clear hr0_2 hc0_2
 have HR0_3 := Aside0.mk hr0_3
 have HC0_3 := Aside0.mk hc0_3
 clear hr0_3 hc0_3
 have HR0_4 := Aside0.mk hr0_4
 have HC0_4 := Aside0.mk hc0_4
 clear hr0_4 hc0_4
 have HR0_5 := Aside0.mk hr0_5
 have HC0_5 := Aside0.mk hc0_5
 clear hr0_5 hc0_5
 have HB := Aside0.mk (Below.refl w.heap.size w)
 have H : (if (l0_1.length : Int) > 60 then (if (l0_1.length : Int) = 1001 then (if (l0_2.length : Int) > 60 then (some true) else (if (l0_3.length : Int) > 60 then (some true) else (if (l0_4.length : Int) > 110 then (some true) else (if (l0_5.length : Int) > 110 then (some true) else (if a0_0 > 200 then (some (decide (a0_0 < 991))) else (some false)))))) else (some true)) else (if (l0_2.length : Int) > 60 then (some true) else (if (l0_3.length : Int) > 60 then (some true) else (if (l0_4.length : Int) > 110 then (some true) else (if (l0_5.length : Int) > 110 then (some true) else (if a0_0 > 200 then (some (decide (a0_0 < 991))) else (some false))))))) = some r := h
 clear h
 by_cases c2 : (l0_1.length : Int) > 60
 · rw [if_pos c2] at H
   have c2b0 : decide (60 < (l0_1.length : Int)) = true := decide_eq_true c2
   have c2b1 : decide (60 < l0_1.length) = true := decide_eq_true (by omega)
   clear c2
   by_cases c3 : (l0_1.length : Int) = 1001
   · rw [if_pos c3] at H
     have c3b0 : ((l0_1.length : Int) == 1001) = true := beq_iff_eq.mpr c3
     have c3b1 : ((l0_1.length : Int) != 1001) = false := bne_eq_false_iff_eq.mpr c3
     clear c3
     by_cases c4 : (l0_2.length : Int) > 60
     · rw [if_pos c4] at H
       have c4b0 : decide (60 < (l0_2.length : Int)) = true := decide_eq_true c4
       have c4b1 : decide (60 < l0_2.length) = true := decide_eq_true (by omega)
       clear c4
       obtain rfl := Option.some.inj H
       go_enter Try.func14, Try.ntmps14
       go_wp2_with (first | ((with_reducible refine gate_dst (N := 1) rfl ?_); (try (refine gate_guard (by rfl) ?_; dsimp only)); refine box_event ?hg (N := 1) ?hd (cs := #[.int .i64 a0_0, .slice A0_1 l0_1.length c0_1, .slice A0_2 l0_2.length c0_2, .slice A0_3 l0_3.length c0_3, .slice A0_4 l0_4.length c0_4, .slice A0_5 l0_5.length c0_5]) (t := 30) ?hr ?_; (case hd => rfl); (case hg => rfl); (case hr => first | (go_simp; done) | (go_simp; rfl)); intro gb242 hg w5 hbox hb; have n0_ := Aside0.mk (below_step zq109 hb); have n1_ := Aside0.mk (hbox); have n2_ := Aside0.mk ((zq89 : w.heap.size ≤ gb242)); have n3_ := Aside0.mk ((zq89 : w.heap.size ≤ gb242)); clear HB; have HB := n0_; have BK242 := n1_; have GW242 := n2_; have GE242 := n3_; clear n0_ n1_ n2_ n3_; clear hb hbox hg; obtain ⟨b6_0, b6_1, b6_2, b6_3, b6_4, b6_5, d6_0, d6_1, d6_2, d6_3, d6_4, d6_5⟩ := bk6 BK242.out))
       go_ret
       exact ⟨zq181, zq91⟩
     · rw [if_neg c4] at H
       have c4b0 : decide (60 < (l0_2.length : Int)) = false := decide_eq_false c4
       have c4b1 : decide (60 < l0_2.length) = false := decide_eq_false (by omega)
       clear c4
       by_cases c7 : (l0_3.length : Int) > 60
       · rw [if_pos c7] at H
         have c7b0 : decide (60 < (l0_3.length : Int)) = true := decide_eq_true c7
         have c7b1 : decide (60 < l0_3.length) = true := decide_eq_true (by omega)
         clear c7
         obtain rfl := Option.some.inj H
         go_enter Try.func14, Try.ntmps14
         go_wp2_with (first | ((with_reducible refine gate_dst (N := 1) rfl ?_); (try (refine gate_guard (by rfl) ?_; dsimp only)); refine box_event ?hg (N := 1) ?hd (cs := #[.int .i64 a0_0, .slice A0_1 l0_1.length c0_1, .slice A0_2 l0_2.length c0_2, .slice A0_3 l0_3.length c0_3, .slice A0_4 l0_4.length c0_4, .slice A0_5 l0_5.length c0_5]) (t := 30) ?hr ?_; (case hd => rfl); (case hg => rfl); (case hr => first | (go_simp; done) | (go_simp; rfl)); intro gb242 hg w8 hbox hb; have n0_ := Aside0.mk (below_step zq109 hb); have n1_ := Aside0.mk (hbox); have n2_ := Aside0.mk ((zq89 : w.heap.size ≤ gb242)); have n3_ := Aside0.mk ((zq89 : w.heap.size ≤ gb242)); clear HB; have HB := n0_; have BK242 := n1_; have GW242 := n2_; have GE242 := n3_; clear n0_ n1_ n2_ n3_; clear hb hbox hg; obtain ⟨b9_0, b9_1, b9_2, b9_3, b9_4, b9_5, d9_0, d9_1, d9_2, d9_3, d9_4, d9_5⟩ := bk6 BK242.out))
         go_ret
         exact ⟨zq181, zq91⟩
       · rw [if_neg c7] at H
         have c7b0 : decide (60 < (l0_3.length : Int)) = false := decide_eq_false c7
         have c7b1 : decide (60 < l0_3.length) = false := decide_eq_false (by omega)
         clear c7
         by_cases c10 : (l0_4.length : Int) > 110
         · rw [if_pos c10] at H
           have c10b0 : decide (110 < (l0_4.length : Int)) = true := decide_eq_true c10
           have c10b1 : decide (110 < l0_4.length) = true := decide_eq_true (by omega)
           clear c10
           obtain rfl := Option.some.inj H
           go_enter Try.func14, Try.ntmps14
           go_wp2_with (first | ((with_reducible refine gate_dst (N := 1) rfl ?_); (try (refine gate_guard (by rfl) ?_; dsimp only)); refine box_event ?hg (N := 1) ?hd (cs := #[.int .i64 a0_0, .slice A0_1 l0_1.length c0_1, .slice A0_2 l0_2.length c0_2, .slice A0_3 l0_3.length c0_3, .slice A0_4 l0_4.length c0_4, .slice A0_5 l0_5.length c0_5]) (t := 30) ?hr ?_; (case hd => rfl); (case hg => rfl); (case hr => first | (go_simp; done) | (go_simp; rfl)); intro gb242 hg w11 hbox hb; have n0_ := Aside0.mk (below_step zq109 hb); have n1_ := Aside0.mk (hbox); have n2_ := Aside0.mk ((zq89 : w.heap.size ≤ gb242)); have n3_ := Aside0.mk ((zq89 : w.heap.size ≤ gb242)); clear HB; have HB := n0_; have BK242 := n1_; have GW242 := n2_; have GE242 := n3_; clear n0_ n1_ n2_ n3_; clear hb hbox hg; obtain ⟨b12_0, b12_1, b12_2, b12_3, b12_4, b12_5, d12_0, d12_1, d12_2, d12_3, d12_4, d12_5⟩ := bk6 BK242.out))
           go_ret
           exact ⟨zq181, zq91⟩
         · rw [if_neg c10] at H
           have c10b0 : decide (110 < (l0_4.length : Int)) = false := decide_eq_false c10
           have c10b1 : decide (110 < l0_4.length) = false := decide_eq_false (by omega)
           clear c10
           by_cases c13 : (l0_5.length : Int) > 110
           · rw [if_pos c13] at H
             have c13b0 : decide (110 < (l0_5.length : Int)) = true := decide_eq_true c13
             have c13b1 : decide (110 < l0_5.length) = true := decide_eq_true (by omega)
             clear c13
             obtain rfl := Option.some.inj H
             go_enter Try.func14, Try.ntmps14
             go_wp2_with (first | ((with_reducible refine gate_dst (N := 1) rfl ?_); (try (refine gate_guard (by rfl) ?_; dsimp only)); refine box_event ?hg (N := 1) ?hd (cs := #[.int .i64 a0_0, .slice A0_1 l0_1.length c0_1, .slice A0_2 l0_2.length c0_2, .slice A0_3 l0_3.length c0_3, .slice A0_4 l0_4.length c0_4, .slice A0_5 l0_5.length c0_5]) (t := 30) ?hr ?_; (case hd => rfl); (case hg => rfl); (case hr => first | (go_simp; done) | (go_simp; rfl)); intro gb242 hg w14 hbox hb; have n0_ := Aside0.mk (below_step zq109 hb); have n1_ := Aside0.mk (hbox); have n2_ := Aside0.mk ((zq89 : w.heap.size ≤ gb242)); have n3_ := Aside0.mk ((zq89 : w.heap.size ≤ gb242)); clear HB; have HB := n0_; have BK242 := n1_; have GW242 := n2_; have GE242 := n3_; clear n0_ n1_ n2_ n3_; clear hb hbox hg; obtain ⟨b15_0, b15_1, b15_2, b15_3, b15_4, b15_5, d15_0, d15_1, d15_2, d15_3, d15_4, d15_5⟩ := bk6 BK242.out))
             go_ret
             exact ⟨zq181, zq91⟩
           · rw [if_neg c13] at H
             have c13b0 : decide (110 < (l0_5.length : Int)) = false := decide_eq_false c13
             have c13b1 : decide (110 < l0_5.length) = false := decide_eq_false (by omega)
             clear c13
             by_cases c16 : a0_0 > 200
             · rw [if_pos c16] at H
               have c16b0 : decide (200 < a0_0) = true := decide_eq_true c16
               clear c16
               obtain rfl := Option.some.inj H
               go_enter Try.func14, Try.ntmps14
               go_wp2_with (first | ((with_reducible refine gate_dst (N := 1) rfl ?_); (try (refine gate_guard (by rfl) ?_; dsimp only)); refine box_event ?hg (N := 1) ?hd (cs := #[.int .i64 a0_0, .slice A0_1 l0_1.length c0_1, .slice A0_2 l0_2.length c0_2, .slice A0_3 l0_3.length c0_3, .slice A0_4 l0_4.length c0_4, .slice A0_5 l0_5.length c0_5]) (t := 30) ?hr ?_; (case hd => rfl); (case hg => rfl); (case hr => first | (go_simp; done) | (go_simp; rfl)); intro gb242 hg w17 hbox hb; have n0_ := Aside0.mk (below_step zq109 hb); have n1_ := Aside0.mk (hbox); have n2_ := Aside0.mk ((zq89 : w.heap.size ≤ gb242)); have n3_ := Aside0.mk ((zq89 : w.heap.size ≤ gb242)); clear HB; have HB := n0_; have BK242 := n1_; have GW242 := n2_; have GE242 := n3_; clear n0_ n1_ n2_ n3_; clear hb hbox hg; obtain ⟨b18_0, b18_1, b18_2, b18_3, b18_4, b18_5, d18_0, d18_1, d18_2, d18_3, d18_4, d18_5⟩ := bk6 BK242.out))
               go_ret
               exact ⟨zq181, zq91⟩
             · rw [if_neg c16] at H
               have c16b0 : decide (200 < a0_0) = false := decide_eq_false c16
               clear c16
               obtain rfl := Option.some.inj H
               go_enter Try.func14, Try.ntmps14
               go_wp2_with (first | ((with_reducible refine gate_dst (N := 1) rfl ?_); (try (refine gate_guard (by rfl) ?_; dsimp only)); refine box_event ?hg (N := 1) ?hd (cs := #[.int .i64 a0_0, .slice A0_1 l0_1.length c0_1, .slice A0_2 l0_2.length c0_2, .slice A0_3 l0_3.length c0_3, .slice A0_4 l0_4.length c0_4, .slice A0_5 l0_5.length c0_5]) (t := 30) ?hr ?_; (case hd => rfl); (case hg => rfl); (case hr => first | (go_simp; done) | (go_simp; rfl)); intro gb242 hg w19 hbox hb; have n0_ := Aside0.mk (below_step zq109 hb); have n1_ := Aside0.mk (hbox); have n2_ := Aside0.mk ((zq89 : w.heap.size ≤ gb242)); have n3_ := Aside0.mk ((zq89 : w.heap.size ≤ gb242)); clear HB; have HB := n0_; have BK242 := n1_; have GW242 := n2_; have GE242 := n3_; clear n0_ n1_ n2_ n3_; clear hb hbox hg; obtain ⟨b20_0, b20_1, b20_2, b20_3, b20_4, b20_5, d20_0, d20_1, d20_2, d20_3, d20_4, d20_5⟩ := bk6 BK242.out))
               go_ret
               exact ⟨zq181, zq91⟩
   · rw [if_neg c3] at H
     have c3b0 : ((l0_1.length : Int) == 1001) = false := beq_eq_false_iff_ne.mpr c3
     have c3b1 : ((l0_1.length : Int) != 1001) = true := bne_iff_ne.mpr c3
     obtain rfl := Option.some.inj H
     go_enter Try.func14, Try.ntmps14
     go_wp2_with (first | ((with_reducible refine gate_dst (N := 1) rfl ?_); (try (refine gate_guard (by rfl) ?_; dsimp only)); refine box_event ?hg (N := 1) ?hd (cs := #[.int .i64 a0_0, .slice A0_1 l0_1.length c0_1, .slice A0_2 l0_2.length c0_2, .slice A0_3 l0_3.length c0_3, .slice A0_4 l0_4.length c0_4, .slice A0_5 l0_5.length c0_5]) (t := 30) ?hr ?_; (case hd => rfl); (case hg => rfl); (case hr => first | (go_simp; done) | (go_simp; rfl)); intro gb242 hg w21 hbox hb; have n0_ := Aside0.mk (below_step zq109 hb); have n1_ := Aside0.mk (hbox); have n2_ := Aside0.mk ((zq89 : w.heap.size ≤ gb242)); have n3_ := Aside0.mk ((zq89 : w.heap.size ≤ gb242)); clear HB; have HB := n0_; have BK242 := n1_; have GW242 := n2_; have GE242 := n3_; clear n0_ n1_ n2_ n3_; clear hb hbox hg; obtain ⟨b22_0, b22_1, b22_2, b22_3, b22_4, b22_5, d22_0, d22_1, d22_2, d22_3, d22_4, d22_5⟩ := bk6 BK242.out))
     go_ret
     exact ⟨zq181, zq91⟩
 · rw [if_neg c2] at H
   have c2b0 : decide (60 < (l0_1.length : Int)) = false := decide_eq_false c2
   have c2b1 : decide (60 < l0_1.length) = false := decide_eq_false (by omega)
   clear c2
   by_cases c23 : (l0_2.length : Int) > 60
   · rw [if_pos c23] at H
     have c23b0 : decide (60 < (l0_2.length : Int)) = true := decide_eq_true c23
     have c23b1 : decide (60 < l0_2.length) = true := decide_eq_true (by omega)
     clear c23
     obtain rfl := Option.some.inj H
     go_enter Try.func14, Try.ntmps14
     go_wp2_with (first | ((with_reducible refine gate_dst (N := 1) rfl ?_); (try (refine gate_guard (by rfl) ?_; dsimp only)); refine box_event ?hg (N := 1) ?hd (cs := #[.int .i64 a0_0, .slice A0_1 l0_1.length c0_1, .slice A0_2 l0_2.length c0_2, .slice A0_3 l0_3.length c0_3, .slice A0_4 l0_4.length c0_4, .slice A0_5 l0_5.length c0_5]) (t := 30) ?hr ?_; (case hd => rfl); (case hg => rfl); (case hr => first | (go_simp; done) | (go_simp; rfl)); intro gb242 hg w24 hbox hb; have n0_ := Aside0.mk (below_step zq109 hb); have n1_ := Aside0.mk (hbox); have n2_ := Aside0.mk ((zq89 : w.heap.size ≤ gb242)); have n3_ := Aside0.mk ((zq89 : w.heap.size ≤ gb242)); clear HB; have HB := n0_; have BK242 := n1_; have GW242 := n2_; have GE242 := n3_; clear n0_ n1_ n2_ n3_; clear hb hbox hg; obtain ⟨b25_0, b25_1, b25_2, b25_3, b25_4, b25_5, d25_0, d25_1, d25_2, d25_3, d25_4, d25_5⟩ := bk6 BK242.out))
     go_ret
     exact ⟨zq181, zq91⟩
   · rw [if_neg c23] at H
     have c23b0 : decide (60 < (l0_2.length : Int)) = false := decide_eq_false c23
     have c23b1 : decide (60 < l0_2.length) = false := decide_eq_false (by omega)
     clear c23
     by_cases c26 : (l0_3.length : Int) > 60
     · rw [if_pos c26] at H
       have c26b0 : decide (60 < (l0_3.length : Int)) = true := decide_eq_true c26
       have c26b1 : decide (60 < l0_3.length) = true := decide_eq_true (by omega)
       clear c26
       obtain rfl := Option.some.inj H
       go_enter Try.func14, Try.ntmps14
       go_wp2_with (first | ((with_reducible refine gate_dst (N := 1) rfl ?_); (try (refine gate_guard (by rfl) ?_; dsimp only)); refine box_event ?hg (N := 1) ?hd (cs := #[.int .i64 a0_0, .slice A0_1 l0_1.length c0_1, .slice A0_2 l0_2.length c0_2, .slice A0_3 l0_3.length c0_3, .slice A0_4 l0_4.length c0_4, .slice A0_5 l0_5.length c0_5]) (t := 30) ?hr ?_; (case hd => rfl); (case hg => rfl); (case hr => first | (go_simp; done) | (go_simp; rfl)); intro gb242 hg w27 hbox hb; have n0_ := Aside0.mk (below_step zq109 hb); have n1_ := Aside0.mk (hbox); have n2_ := Aside0.mk ((zq89 : w.heap.size ≤ gb242)); have n3_ := Aside0.mk ((zq89 : w.heap.size ≤ gb242)); clear HB; have HB := n0_; have BK242 := n1_; have GW242 := n2_; have GE242 := n3_; clear n0_ n1_ n2_ n3_; clear hb hbox hg; obtain ⟨b28_0, b28_1, b28_2, b28_3, b28_4, b28_5, d28_0, d28_1, d28_2, d28_3, d28_4, d28_5⟩ := bk6 BK242.out))
       go_ret
       exact ⟨zq181, zq91⟩
     · rw [if_neg c26] at H
       have c26b0 : decide (60 < (l0_3.length : Int)) = false := decide_eq_false c26
       have c26b1 : decide (60 < l0_3.length) = false := decide_eq_false (by omega)
       clear c26
       by_cases c29 : (l0_4.length : Int) > 110
       · rw [if_pos c29] at H
         have c29b0 : decide (110 < (l0_4.length : Int)) = true := decide_eq_true c29
         have c29b1 : decide (110 < l0_4.length) = true := decide_eq_true (by omega)
         clear c29
         obtain rfl := Option.some.inj H
         go_enter Try.func14, Try.ntmps14
         go_wp2_with (first | ((with_reducible refine gate_dst (N := 1) rfl ?_); (try (refine gate_guard (by rfl) ?_; dsimp only)); refine box_event ?hg (N := 1) ?hd (cs := #[.int .i64 a0_0, .slice A0_1 l0_1.length c0_1, .slice A0_2 l0_2.length c0_2, .slice A0_3 l0_3.length c0_3, .slice A0_4 l0_4.length c0_4, .slice A0_5 l0_5.length c0_5]) (t := 30) ?hr ?_; (case hd => rfl); (case hg => rfl); (case hr => first | (go_simp; done) | (go_simp; rfl)); intro gb242 hg w30 hbox hb; have n0_ := Aside0.mk (below_step zq109 hb); have n1_ := Aside0.mk (hbox); have n2_ := Aside0.mk ((zq89 : w.heap.size ≤ gb242)); have n3_ := Aside0.mk ((zq89 : w.heap.size ≤ gb242)); clear HB; have HB := n0_; have BK242 := n1_; have GW242 := n2_; have GE242 := n3_; clear n0_ n1_ n2_ n3_; clear hb hbox hg; obtain ⟨b31_0, b31_1, b31_2, b31_3, b31_4, b31_5, d31_0, d31_1, d31_2, d31_3, d31_4, d31_5⟩ := bk6 BK242.out))
         go_ret
         exact ⟨zq181, zq91⟩
       · rw [if_neg c29] at H
         have c29b0 : decide (110 < (l0_4.length : Int)) = false := decide_eq_false c29
         have c29b1 : decide (110 < l0_4.length) = false := decide_eq_false (by omega)
         clear c29
         by_cases c32 : (l0_5.length : Int) > 110
         · rw [if_pos c32] at H
           have c32b0 : decide (110 < (l0_5.length : Int)) = true := decide_eq_true c32
           have c32b1 : decide (110 < l0_5.length) = true := decide_eq_true (by omega)
           clear c32
           obtain rfl := Option.some.inj H
           go_enter Try.func14, Try.ntmps14
           go_wp2_with (first | ((with_reducible refine gate_dst (N := 1) rfl ?_); (try (refine gate_guard (by rfl) ?_; dsimp only)); refine box_event ?hg (N := 1) ?hd (cs := #[.int .i64 a0_0, .slice A0_1 l0_1.length c0_1, .slice A0_2 l0_2.length c0_2, .slice A0_3 l0_3.length c0_3, .slice A0_4 l0_4.length c0_4, .slice A0_5 l0_5.length c0_5]) (t := 30) ?hr ?_; (case hd => rfl); (case hg => rfl); (case hr => first | (go_simp; done) | (go_simp; rfl)); intro gb242 hg w33 hbox hb; have n0_ := Aside0.mk (below_step zq109 hb); have n1_ := Aside0.mk (hbox); have n2_ := Aside0.mk ((zq89 : w.heap.size ≤ gb242)); have n3_ := Aside0.mk ((zq89 : w.heap.size ≤ gb242)); clear HB; have HB := n0_; have BK242 := n1_; have GW242 := n2_; have GE242 := n3_; clear n0_ n1_ n2_ n3_; clear hb hbox hg; obtain ⟨b34_0, b34_1, b34_2, b34_3, b34_4, b34_5, d34_0, d34_1, d34_2, d34_3, d34_4, d34_5⟩ := bk6 BK242.out))
           go_ret
           exact ⟨zq181, zq91⟩
         · rw [if_neg c32] at H
           have c32b0 : decide (110 < (l0_5.length : Int)) = false := decide_eq_false c32
           have c32b1 : decide (110 < l0_5.length) = false := decide_eq_false (by omega)
           clear c32
           by_cases c35 : a0_0 > 200
           · rw [if_pos c35] at H
             have c35b0 : decide (200 < a0_0) = true := decide_eq_true c35
             clear c35
             obtain rfl := Option.some.inj H
             go_enter Try.func14, Try.ntmps14
             go_wp2_with (first | ((with_reducible refine gate_dst (N := 1) rfl ?_); (try (refine gate_guard (by rfl) ?_; dsimp only)); refine box_event ?hg (N := 1) ?hd (cs := #[.int .i64 a0_0, .slice A0_1 l0_1.length c0_1, .slice A0_2 l0_2.length c0_2, .slice A0_3 l0_3.length c0_3, .slice A0_4 l0_4.length c0_4, .slice A0_5 l0_5.length c0_5]) (t := 30) ?hr ?_; (case hd => rfl); (case hg => rfl); (case hr => first | (go_simp; done) | (go_simp; rfl)); intro gb242 hg w36 hbox hb; have n0_ := Aside0.mk (below_step zq109 hb); have n1_ := Aside0.mk (hbox); have n2_ := Aside0.mk ((zq89 : w.heap.size ≤ gb242)); have n3_ := Aside0.mk ((zq89 : w.heap.size ≤ gb242)); clear HB; have HB := n0_; have BK242 := n1_; have GW242 := n2_; have GE242 := n3_; clear n0_ n1_ n2_ n3_; clear hb hbox hg; obtain ⟨b37_0, b37_1, b37_2, b37_3, b37_4, b37_5, d37_0, d37_1, d37_2, d37_3, d37_4, d37_5⟩ := bk6 BK242.out))
             go_ret
             exact ⟨zq181, zq91⟩
           · rw [if_neg c35] at H
             have c35b0 : decide (200 < a0_0) = false := decide_eq_false c35
             clear c35
             obtain rfl := Option.some.inj H
             go_enter Try.func14, Try.ntmps14
             go_wp2_with (first | ((with_reducible refine gate_dst (N := 1) rfl ?_); (try (refine gate_guard (by rfl) ?_; dsimp only)); refine box_event ?hg (N := 1) ?hd (cs := #[.int .i64 a0_0, .slice A0_1 l0_1.length c0_1, .slice A0_2 l0_2.length c0_2, .slice A0_3 l0_3.length c0_3, .slice A0_4 l0_4.length c0_4, .slice A0_5 l0_5.length c0_5]) (t := 30) ?hr ?_; (case hd => rfl); (case hg => rfl); (case hr => first | (go_simp; done) | (go_simp; rfl)); intro gb242 hg w38 hbox hb; have n0_ := Aside0.mk (below_step zq109 hb); have n1_ := Aside0.mk (hbox); have n2_ := Aside0.mk ((zq89 : w.heap.size ≤ gb242)); have n3_ := Aside0.mk ((zq89 : w.heap.size ≤ gb242)); clear HB; have HB := n0_; have BK242 := n1_; have GW242 := n2_; have GE242 := n3_; clear n0_ n1_ n2_ n3_; clear hb hbox hg; obtain ⟨b39_0, b39_1, b39_2, b39_3, b39_4, b39_5, d39_0, d39_1, d39_2, d39_3, d39_4, d39_5⟩ := bk6 BK242.out))
             go_ret
             exact ⟨zq181, zq91⟩
end Go.Proofs.Ytpdlkjpemplhoaa.P
namespace Go.Proofs.Ytpdlkjpemplhoaa.P
open Go.RowKit Go.Proofs.YtpdlkjpemplhoaaW.PrintWords Go.Proofs.YtpdlkjpemplhoaaW.PrintLast Go.Proofs.YtpdlkjpemplhoaaW.PrintMore
attribute [local go_sem] max2_int min2_int max_two min_two max_three min_three max_four min_four
set_option linter.unusedVariables false
set_option linter.unusedSimpArgs false
theorem eqA56 (d : Nat) (w : World) (x0 y0 : Int) (x1 y1 : Int) (x2 y2 : Int) :
    (Op.equalIn (d + 2) 56 (.agg #[.int .i64 x0, .int .i64 x1, .int .i64 x2]) (.agg #[.int .i64 y0, .int .i64 y1, .int .i64 y2])).run Try.prog w = .ok (x0 == y0 && (x1 == y1 && (x2 == y2))) w := by
  refine eqA_of Try.underlying56 (by kernel_rfl) ?_
  refine eqf_cons (by rfl) (by go_simp; rfl) (by go_simp; rfl) (by go_simp) ?_
  refine eqf_cons (by rfl) (by go_simp; rfl) (by go_simp; rfl) (by go_simp) ?_
  exact eqf_last (by rfl) (by go_simp; rfl) (by go_simp; rfl) (by go_simp)
end Go.Proofs.Ytpdlkjpemplhoaa.P
namespace Go.Proofs.Ytpdlkjpemplhoaa.P
open Go.RowKit Go.Proofs.YtpdlkjpemplhoaaW.PrintWords Go.Proofs.YtpdlkjpemplhoaaW.PrintLast Go.Proofs.YtpdlkjpemplhoaaW.PrintMore
attribute [local go_sem] max2_int min2_int max_two min_two max_three min_three max_four min_four
set_option linter.unusedVariables false
set_option linter.unusedSimpArgs false
attribute [local go_sem high] eqA56
def r3_sameDefines.l0 : Nat → List (S56) → List (S56) → Int → Option (Bool)
 | 0, _, _, _ => none
 | k + 1, x0, x1, x5 => if x5 < (x0.length : Int) then (if 0 ≤ x5 then (if x5 < (x1.length : Int) then (if (!(((rd_T56 x0 x5).f0) == ((rd_T56 x1 x5).f0)) || (!(((rd_T56 x0 x5).f1) == ((rd_T56 x1 x5).f1)) || (!(((rd_T56 x0 x5).f2) == ((rd_T56 x1 x5).f2))))) = true then (some false) else (r3_sameDefines.l0 k x0 x1 (wrap64 (x5 + 1)))) else (none)) else (none)) else (some true)
def r3_sameDefines.f (k : Nat) (l0 : List (S56)) (l1 : List (S56)) : Option (Bool) := if (l0.length : Int) = (l1.length : Int) then (r3_sameDefines.l0 k l0 l1 0) else (some false)
set_option maxHeartbeats 8000000 in
set_option maxRecDepth 100000 in
theorem r3_sameDefines.calls (k : Nat) (A0 : Option Addr) (c0 : Nat) (l0 : List (S56)) (A1 : Option Addr) (c1 : Nat) (l1 : List (S56)) (r : Bool) (w : World) (hr0 : Kd.C k56 w A0 l0.length l0) (hc0 : l0.length ≤ c0) (hr1 : Kd.C k56 w A1 l1.length l1) (hc1 : l1.length ≤ c1) (h : r3_sameDefines.f k l0 l1 = some r) :
 Calls Try.prog 33 #[.slice A0 l0.length c0, .slice A1 l1.length c1] w fun e w' => e = .returned (.bool r) ∧ Drawn0 w w' := by
 have hu56 := Try.underlying56
 have HR0 := Aside0.mk hr0
 have HC0 := Aside0.mk hc0
 clear hr0 hc0
 have HR1 := Aside0.mk hr1
 have HC1 := Aside0.mk hc1
 clear hr1 hc1
 have H : (if (l0.length : Int) = (l1.length : Int) then (r3_sameDefines.l0 k l0 l1 0) else (some false)) = some r := h
 clear h
 by_cases c3 : (l0.length : Int) = (l1.length : Int)
 · rw [if_pos c3] at H
   have c3b0 : ((l0.length : Int) == (l1.length : Int)) = true := beq_iff_eq.mpr c3
   have c3b1 : ((l0.length : Int) != (l1.length : Int)) = false := bne_eq_false_iff_eq.mpr c3
   have c3b2 : (l0.length == l1.length) = true := by first | simpa using c3 | (simp at c3 ⊢; omega)
   clear c3
   have H' := Aside0.mk H
   clear H
   go_enter Try.func33, Try.ntmps33
   go_wp2
   repeat (go_quiet (fail); try go_wp2)
   go_loopg [5] k (fun kq v5 w' => ∃ (x5_1 : Int), v5 = .int .i64 x5_1 ∧ Aside0 (r3_sameDefines.l0 kq l0 l1 x5_1 = some r) ∧ Aside0 (kq ≤ k) ∧ Drawn0 w w')
   case atStart => exact ⟨(0), zq187, H', ⟨Nat.le_refl _⟩, zq184⟩
   case round =>
    clear H'
    try clear c1
    try clear p2
    try clear c3
    try clear c3b0
    try clear c3b1
    try clear c3b2
    obtain ⟨x5_1, rfl, HA, HK1, ⟨m1, rfl⟩⟩ := hrel
    cases gk with
    | zero => exact absurd HA.out (by simp [r3_sameDefines.l0])
    | succ k1 =>
     have H := HA.out
     clear HA
     simp only [r3_sameDefines.l0] at H
     by_cases c4 : x5_1 < (l0.length : Int)
     · rw [if_pos c4] at H
       have c4b0 : decide (x5_1 < (l0.length : Int)) = true := decide_eq_true c4
       clear c4
       by_cases c5 : 0 ≤ x5_1
       · rw [if_pos c5] at H
         have c5b0 : decide (0 ≤ x5_1) = true := decide_eq_true c5
         clear c5
         by_cases c6 : x5_1 < (l1.length : Int)
         · rw [if_pos c6] at H
           have c6b0 : decide (x5_1 < (l1.length : Int)) = true := decide_eq_true c6
           clear c6
           by_cases c7 : (!(((rd_T56 l0 x5_1).f0) == ((rd_T56 l1 x5_1).f0)) || (!(((rd_T56 l0 x5_1).f1) == ((rd_T56 l1 x5_1).f1)) || (!(((rd_T56 l0 x5_1).f2) == ((rd_T56 l1 x5_1).f2))))) = true
           · rw [if_pos c7] at H
             have c7b0 : (!(((rd_T56 l0 x5_1).f0) == ((rd_T56 l1 x5_1).f0)) || (!(((rd_T56 l0 x5_1).f1) == ((rd_T56 l1 x5_1).f1)) || (!(((rd_T56 l0 x5_1).f2) == ((rd_T56 l1 x5_1).f2))))) = true := c7
             clear c7
             obtain rfl := Option.some.inj H
             have p194 : 0 ≤ (x5_1 : Int) := of_decide_eq_true zq186
             have q194 : x5_1 < (l0.length : Int) := of_decide_eq_true zq186
             obtain ⟨ad194, e194, hx194_0, hx194_1, hx194_2⟩ := at_T56 HR0.out x5_1 p194 q194
             cases e194
             replace p194 := eq_true p194
             replace q194 := eq_true q194
             have p195 : 0 ≤ (x5_1 : Int) := of_decide_eq_true zq186
             have q195 : x5_1 < (l1.length : Int) := of_decide_eq_true zq186
             obtain ⟨ad195, e195, hx195_0, hx195_1, hx195_2⟩ := at_T56 HR1.out x5_1 p195 q195
             cases e195
             replace p195 := eq_true p195
             replace q195 := eq_true q195
             go_wp2
             repeat (go_quiet (fail); try go_wp2)
             go_ret
             exact ⟨zq187, zq184⟩
           · rw [if_neg c7] at H
             have c7b0 : (!(((rd_T56 l0 x5_1).f0) == ((rd_T56 l1 x5_1).f0)) || (!(((rd_T56 l0 x5_1).f1) == ((rd_T56 l1 x5_1).f1)) || (!(((rd_T56 l0 x5_1).f2) == ((rd_T56 l1 x5_1).f2))))) = false := by simpa using c7
             clear c7
             have H' := Aside0.mk H
             clear H
             have p194 : 0 ≤ (x5_1 : Int) := of_decide_eq_true zq186
             have q194 : x5_1 < (l0.length : Int) := of_decide_eq_true zq186
             obtain ⟨ad194, e194, hx194_0, hx194_1, hx194_2⟩ := at_T56 HR0.out x5_1 p194 q194
             cases e194
             replace p194 := eq_true p194
             replace q194 := eq_true q194
             have p195 : 0 ≤ (x5_1 : Int) := of_decide_eq_true zq186
             have q195 : x5_1 < (l1.length : Int) := of_decide_eq_true zq186
             obtain ⟨ad195, e195, hx195_0, hx195_1, hx195_2⟩ := at_T56 HR1.out x5_1 p195 q195
             cases e195
             replace p195 := eq_true p195
             replace q195 := eq_true q195
             go_wp2
             repeat (go_quiet (fail); try go_wp2)
             go_roundg k1
             case measure => have := HK1.out; omega
             case rel => exact ⟨(wrap64 (x5_1 + 1)), zq187, H', ⟨by have := HK1.out; omega⟩, zq184⟩
         · rw [if_neg c6] at H
           exact absurd H (by simp)
       · rw [if_neg c5] at H
         exact absurd H (by simp)
     · rw [if_neg c4] at H
       have c4b0 : decide (x5_1 < (l0.length : Int)) = false := decide_eq_false c4
       clear c4
       obtain rfl := Option.some.inj H
       go_wp2
       repeat (go_quiet (fail); try go_wp2)
       go_ret
       exact ⟨zq187, zq184⟩
 · rw [if_neg c3] at H
   have c3b0 : ((l0.length : Int) == (l1.length : Int)) = false := beq_eq_false_iff_ne.mpr c3
   have c3b1 : ((l0.length : Int) != (l1.length : Int)) = true := bne_iff_ne.mpr c3
   have c3b2 : (l0.length == l1.length) = false := by first | simpa using c3 | (simp at c3 ⊢; omega)
   obtain rfl := Option.some.inj H
   go_enter Try.func33, Try.ntmps33
   go_wp2
   repeat (go_quiet (fail); try go_wp2)
   go_ret
   exact ⟨zq187, zq184⟩
end Go.Proofs.Ytpdlkjpemplhoaa.P
namespace Go.Proofs.Ytpdlkjpemplhoaa.P
open Go.RowKit Go.Proofs.YtpdlkjpemplhoaaW.PrintWords Go.Proofs.YtpdlkjpemplhoaaW.PrintLast Go.Proofs.YtpdlkjpemplhoaaW.PrintMore
attribute [local go_sem] max2_int min2_int max_two min_two max_three min_three max_four min_four
set_option linter.unusedVariables false
set_option linter.unusedSimpArgs false
def r3_Same.f (k : Nat) (a0_0 : Int) (l0_1 : List Int) (l0_2 : List (S56)) (l0_3 : List (S56)) (l0_4 : List Int) (l0_5 : List Int) (a1_0 : Int) (l1_1 : List Int) (l1_2 : List (S56)) (l1_3 : List (S56)) (l1_4 : List Int) (l1_5 : List Int) : Option (Bool) := if a0_0 = a1_0 then ((r2_SameInts.f k l0_1 l1_1).bind fun t198 => (if t198 = true then ((r3_sameDefines.f k l0_2 l1_2).bind fun t199 => (if t199 = true then ((r3_sameDefines.f k l0_3 l1_3).bind fun t200 => (if t200 = true then ((r2_SameInts.f k l0_4 l1_4).bind fun t201 => (if t201 = true then ((r2_SameInts.f k l0_5 l1_5).bind fun t202 => (some t202)) else (some false))) else (some false))) else (some false))) else (some false))) else (some false)
set_option maxHeartbeats 8000000 in
set_option maxRecDepth 100000 in
theorem r3_Same.calls (k : Nat) (a0_0 : Int) (A0_1 : Option Addr) (c0_1 : Nat) (l0_1 : List Int) (A0_2 : Option Addr) (c0_2 : Nat) (l0_2 : List (S56)) (A0_3 : Option Addr) (c0_3 : Nat) (l0_3 : List (S56)) (A0_4 : Option Addr) (c0_4 : Nat) (l0_4 : List Int) (A0_5 : Option Addr) (c0_5 : Nat) (l0_5 : List Int) (a1_0 : Int) (A1_1 : Option Addr) (c1_1 : Nat) (l1_1 : List Int) (A1_2 : Option Addr) (c1_2 : Nat) (l1_2 : List (S56)) (A1_3 : Option Addr) (c1_3 : Nat) (l1_3 : List (S56)) (A1_4 : Option Addr) (c1_4 : Nat) (l1_4 : List Int) (A1_5 : Option Addr) (c1_5 : Nat) (l1_5 : List Int) (r : Bool) (w : World) (hr0_1 : Kd.C (Kd.int .i64) w A0_1 l0_1.length l0_1) (hc0_1 : l0_1.length ≤ c0_1) (hr0_2 : Kd.C k56 w A0_2 l0_2.length l0_2) (hc0_2 : l0_2.length ≤ c0_2) (hr0_3 : Kd.C k56 w A0_3 l0_3.length l0_3) (hc0_3 : l0_3.length ≤ c0_3) (hr0_4 : Kd.C (Kd.int .i64) w A0_4 l0_4.length l0_4) (hc0_4 : l0_4.length ≤ c0_4) (hr0_5 : Kd.C (Kd.int .i64) w A0_5 l0_5.length l0_5) (hc0_5 : l0_5.length ≤ c0_5) (hr1_1 : Kd.C (Kd.int .i64) w A1_1 l1_1.length l1_1) (hc1_1 : l1_1.length ≤ c1_1) (hr1_2 : Kd.C k56 w A1_2 l1_2.length l1_2) (hc1_2 : l1_2.length ≤ c1_2) (hr1_3 : Kd.C k56 w A1_3 l1_3.length l1_3) (hc1_3 : l1_3.length ≤ c1_3) (hr1_4 : Kd.C (Kd.int .i64) w A1_4 l1_4.length l1_4) (hc1_4 : l1_4.length ≤ c1_4) (hr1_5 : Kd.C (Kd.int .i64) w A1_5 l1_5.length l1_5) (hc1_5 : l1_5.length ≤ c1_5) (h : r3_Same.f k a0_0 l0_1 l0_2 l0_3 l0_4 l0_5 a1_0 l1_1 l1_2 l1_3 l1_4 l1_5 = some r) :
 Calls Try.prog 13 #[.agg #[.int .i64 a0_0, .slice A0_1 l0_1.length c0_1, .slice A0_2 l0_2.length c0_2, .slice A0_3 l0_3.length c0_3, .slice A0_4 l0_4.length c0_4, .slice A0_5 l0_5.length c0_5], .agg #[.int .i64 a1_0, .slice A1_1 l1_1.length c1_1, .slice A1_2 l1_2.length c1_2, .slice A1_3 l1_3.length c1_3, .slice A1_4 l1_4.length c1_4, .slice A1_5 l1_5.length c1_5]] w fun e w' => e = .returned (.bool r) ∧ Below w.heap.size w w' := by
 have hu30 := Try.underlying30
 have HR0_1 := Aside0.mk hr0_1
 have HC0_1 := Aside0.mk hc0_1
 clear hr0_1 hc0_1
 have HR0_2 := Aside0.mk hr0_2
 have HC0_2 := Aside0.mk hc0_2
 clear hr0_2 hc0_2
 have HR0_3 := Aside0.mk hr0_3
 have HC0_3 := Aside0.mk hc0_3
 clear hr0_3 hc0_3
 have HR0_4 := Aside0.mk hr0_4
 have HC0_4 := Aside0.mk hc0_4
 clear hr0_4 hc0_4
 have HR0_5 := Aside0.mk hr0_5
 have HC0_5 := Aside0.mk hc0_5
 clear hr0_5 hc0_5
 have HR1_1 := Aside0.mk hr1_1
 have HC1_1 := Aside0.mk hc1_1
 clear hr1_1 hc1_1
 have HR1_2 := Aside0.mk hr1_2
 have HC1_2 := Aside0.mk hc1_2
 clear hr1_2 hc1_2
 have HR1_3 := Aside0.mk hr1_3
 have HC1_3 := Aside0.mk hc1_3
 clear hr1_3 hc1_3
 have HR1_4 := Aside0.mk hr1_4
 have HC1_4 := Aside0.mk hc1_4
 clear hr1_4 hc1_4
 have HR1_5 := Aside0.mk hr1_5
 have HC1_5 := Aside0.mk hc1_5
 clear hr1_5 hc1_5
 have HB := Aside0.mk (Below.refl w.heap.size w)
 have H : (if a0_0 = a1_0 then ((r2_SameInts.f k l0_1 l1_1).bind fun t198 => (if t198 = true then ((r3_sameDefines.f k l0_2 l1_2).bind fun t199 => (if t199 = true then ((r3_sameDefines.f k l0_3 l1_3).bind fun t200 => (if t200 = true then ((r2_SameInts.f k l0_4 l1_4).bind fun t201 => (if t201 = true then ((r2_SameInts.f k l0_5 l1_5).bind fun t202 => (some t202)) else (some false))) else (some false))) else (some false))) else (some false))) else (some false)) = some r := h
 clear h
 by_cases c3 : a0_0 = a1_0
 · rw [if_pos c3] at H
   have c3b0 : (a0_0 == a1_0) = true := beq_iff_eq.mpr c3
   have c3b1 : (a0_0 != a1_0) = false := bne_eq_false_iff_eq.mpr c3
   clear c3
   replace H := Option.bind_eq_some_iff.mp H
   obtain ⟨t198, A40, H⟩ := H
   replace H : (if t198 = true then ((r3_sameDefines.f k l0_2 l1_2).bind fun t199 => (if t199 = true then ((r3_sameDefines.f k l0_3 l1_3).bind fun t200 => (if t200 = true then ((r2_SameInts.f k l0_4 l1_4).bind fun t201 => (if t201 = true then ((r2_SameInts.f k l0_5 l1_5).bind fun t202 => (some t202)) else (some false))) else (some false))) else (some false))) else (some false)) = some r := H
   have A4 := Aside0.mk A40
   clear A40
   by_cases c5 : t198 = true
   · subst c5
     have H1 : ((r3_sameDefines.f k l0_2 l1_2).bind fun t199 => (if t199 = true then ((r3_sameDefines.f k l0_3 l1_3).bind fun t200 => (if t200 = true then ((r2_SameInts.f k l0_4 l1_4).bind fun t201 => (if t201 = true then ((r2_SameInts.f k l0_5 l1_5).bind fun t202 => (some t202)) else (some false))) else (some false))) else (some false))) = some r := by rw [if_pos rfl] at H; exact H
     clear H
     have H := H1
     clear H1
     replace H := Option.bind_eq_some_iff.mp H
     obtain ⟨t199, A60, H⟩ := H
     replace H : (if t199 = true then ((r3_sameDefines.f k l0_3 l1_3).bind fun t200 => (if t200 = true then ((r2_SameInts.f k l0_4 l1_4).bind fun t201 => (if t201 = true then ((r2_SameInts.f k l0_5 l1_5).bind fun t202 => (some t202)) else (some false))) else (some false))) else (some false)) = some r := H
     have A6 := Aside0.mk A60
     clear A60
     by_cases c7 : t199 = true
     · subst c7
       have H1 : ((r3_sameDefines.f k l0_3 l1_3).bind fun t200 => (if t200 = true then ((r2_SameInts.f k l0_4 l1_4).bind fun t201 => (if t201 = true then ((r2_SameInts.f k l0_5 l1_5).bind fun t202 => (some t202)) else (some false))) else (some false))) = some r := by rw [if_pos rfl] at H; exact H
       clear H
       have H := H1
       clear H1
       replace H := Option.bind_eq_some_iff.mp H
       obtain ⟨t200, A80, H⟩ := H
       replace H : (if t200 = true then ((r2_SameInts.f k l0_4 l1_4).bind fun t201 => (if t201 = true then ((r2_SameInts.f k l0_5 l1_5).bind fun t202 => (some t202)) else (some false))) else (some false)) = some r := H
       have A8 := Aside0.mk A80
       clear A80
       by_cases c9 : t200 = true
       · subst c9
         have H1 : ((r2_SameInts.f k l0_4 l1_4).bind fun t201 => (if t201 = true then ((r2_SameInts.f k l0_5 l1_5).bind fun t202 => (some t202)) else (some false))) = some r := by rw [if_pos rfl] at H; exact H
         clear H
         have H := H1
         clear H1
         replace H := Option.bind_eq_some_iff.mp H
         obtain ⟨t201, A100, H⟩ := H
         replace H : (if t201 = true then ((r2_SameInts.f k l0_5 l1_5).bind fun t202 => (some t202)) else (some false)) = some r := H
         have A10 := Aside0.mk A100
         clear A100
         by_cases c11 : t201 = true
         · subst c11
           have H1 : ((r2_SameInts.f k l0_5 l1_5).bind fun t202 => (some t202)) = some r := by rw [if_pos rfl] at H; exact H
           clear H
           have H := H1
           clear H1
           replace H := Option.bind_eq_some_iff.mp H
           obtain ⟨t202, A120, H⟩ := H
           replace H : (some t202) = some r := H
           have A12 := Aside0.mk A120
           clear A120
           obtain rfl := Option.some.inj H
           go_enter Try.func13, Try.ntmps13
           go_wp2_with (first | ((with_reducible refine gate_dst (N := 2) rfl ?_); refine box_event ?hg (N := 2) ?hd (cs := #[.int .i64 a0_0, .slice A0_1 l0_1.length c0_1, .slice A0_2 l0_2.length c0_2, .slice A0_3 l0_3.length c0_3, .slice A0_4 l0_4.length c0_4, .slice A0_5 l0_5.length c0_5]) (t := 30) ?hr ?_; (case hd => rfl); (case hg => rfl); (case hr => first | (go_simp; done) | (go_simp; rfl)); intro gb196 hg w13 hbox hb; have n0_ := Aside0.mk (below_step zq109 hb); have n1_ := Aside0.mk (hbox); have n2_ := Aside0.mk ((zq89 : w.heap.size ≤ gb196)); have n3_ := Aside0.mk ((zq89 : w.heap.size ≤ gb196)); clear HB; have HB := n0_; have BK196 := n1_; have GW196 := n2_; have GE196 := n3_; clear n0_ n1_ n2_ n3_; clear hb hbox hg) | ((with_reducible refine gate_dst (N := 3) rfl ?_); refine box_event ?hg (N := 3) ?hd (cs := #[.int .i64 a1_0, .slice A1_1 l1_1.length c1_1, .slice A1_2 l1_2.length c1_2, .slice A1_3 l1_3.length c1_3, .slice A1_4 l1_4.length c1_4, .slice A1_5 l1_5.length c1_5]) (t := 30) ?hr ?_; (case hd => rfl); (case hg => rfl); (case hr => first | (go_simp; done) | (go_simp; rfl)); intro gb197 hg w14 hbox hb; have n0_ := Aside0.mk (blk_below (g := gb196) (o := .cells #[.int .i64 a0_0, .slice A0_1 l0_1.length c0_1, .slice A0_2 l0_2.length c0_2, .slice A0_3 l0_3.length c0_3, .slice A0_4 l0_4.length c0_4, .slice A0_5 l0_5.length c0_5] 30 (0, 0)) zq119 hb); have n1_ := Aside0.mk (below_step zq90 hb); have n2_ := Aside0.mk (hbox); have n3_ := Aside0.mk ((zq54 : w.heap.size ≤ gb197)); have n4_ := Aside0.mk ((zq54 : w.heap.size ≤ gb197)); have n5_ := Aside0.mk ((zq31 : gb196 ≠ gb197)); have n6_ := Aside0.mk ((zq27 : gb197 ≠ gb196)); clear BK196; clear HB; have BK196 := n0_; have HB := n1_; have BK197 := n2_; have GW197 := n3_; have GE197 := n4_; have NB196_197 := n5_; have NB197_196 := n6_; clear n0_ n1_ n2_ n3_ n4_ n5_ n6_; clear hb hbox hg; have hnb15 := NB196_197.out; have hnc15 := NB197_196.out; obtain ⟨b16_0, b16_1, b16_2, b16_3, b16_4, b16_5, d16_0, d16_1, d16_2, d16_3, d16_4, d16_5⟩ := bk6 BK196.out; obtain ⟨b17_0, b17_1, b17_2, b17_3, b17_4, b17_5, d17_0, d17_1, d17_2, d17_3, d17_4, d17_5⟩ := bk6 BK197.out) | (go_at_call 21; (with_reducible refine (r2_SameInts.calls k _ _ l0_1 _ _ l1_1 true _ ?side1 ?side2 ?side3 ?side4 A4.out).mono ?_); (case side1 => exact zq75); (case side2 => exact HC0_1.out); (case side3 => exact zq80); (case side4 => exact HC1_1.out); rintro e w' ⟨rfl, ⟨nd, rfl⟩⟩) | (go_at_call 33; (with_reducible refine (r3_sameDefines.calls k _ _ l0_2 _ _ l1_2 true _ ?side1 ?side2 ?side3 ?side4 A6.out).mono ?_); (case side1 => exact zq19); (case side2 => exact HC0_2.out); (case side3 => exact zq23); (case side4 => exact HC1_2.out); rintro e w' ⟨rfl, ⟨nd, rfl⟩⟩) | (go_at_call 33; (with_reducible refine (r3_sameDefines.calls k _ _ l0_3 _ _ l1_3 true _ ?side1 ?side2 ?side3 ?side4 A8.out).mono ?_); (case side1 => exact zq20); (case side2 => exact HC0_3.out); (case side3 => exact zq24); (case side4 => exact HC1_3.out); rintro e w' ⟨rfl, ⟨nd, rfl⟩⟩) | (go_at_call 21; (with_reducible refine (r2_SameInts.calls k _ _ l0_4 _ _ l1_4 true _ ?side1 ?side2 ?side3 ?side4 A10.out).mono ?_); (case side1 => exact zq21); (case side2 => exact HC0_4.out); (case side3 => exact zq25); (case side4 => exact HC1_4.out); rintro e w' ⟨rfl, ⟨nd, rfl⟩⟩) | (go_at_call 21; (with_reducible refine (r2_SameInts.calls k _ _ l0_5 _ _ l1_5 t202 _ ?side1 ?side2 ?side3 ?side4 A12.out).mono ?_); (case side1 => repeat (first | exact (Kd.C_below HR0_5.out zq62) | (with_reducible refine Kd.C_alloc ?_ _) | (with_reducible refine Kd.C_drewN ?_ _) | (with_reducible refine Kd.C_drew ?_))); (case side2 => exact HC0_5.out); (case side3 => repeat (first | exact (Kd.C_below HR1_5.out zq62) | (with_reducible refine Kd.C_alloc ?_ _) | (with_reducible refine Kd.C_drewN ?_ _) | (with_reducible refine Kd.C_drew ?_))); (case side4 => exact HC1_5.out); rintro e w' ⟨rfl, ⟨nd, rfl⟩⟩))
           go_ret
           exact ⟨zq181, zq62⟩
         · replace c11 := Bool.eq_false_iff.mpr c11
           subst c11
           have H1 : (some false) = some r := by rw [if_neg (show ¬ (false = true) by decide)] at H; exact H
           clear H
           have H := H1
           clear H1
           obtain rfl := Option.some.inj H
           go_enter Try.func13, Try.ntmps13
           go_wp2_with (first | ((with_reducible refine gate_dst (N := 2) rfl ?_); refine box_event ?hg (N := 2) ?hd (cs := #[.int .i64 a0_0, .slice A0_1 l0_1.length c0_1, .slice A0_2 l0_2.length c0_2, .slice A0_3 l0_3.length c0_3, .slice A0_4 l0_4.length c0_4, .slice A0_5 l0_5.length c0_5]) (t := 30) ?hr ?_; (case hd => rfl); (case hg => rfl); (case hr => first | (go_simp; done) | (go_simp; rfl)); intro gb196 hg w18 hbox hb; have n0_ := Aside0.mk (below_step zq109 hb); have n1_ := Aside0.mk (hbox); have n2_ := Aside0.mk ((zq89 : w.heap.size ≤ gb196)); have n3_ := Aside0.mk ((zq89 : w.heap.size ≤ gb196)); clear HB; have HB := n0_; have BK196 := n1_; have GW196 := n2_; have GE196 := n3_; clear n0_ n1_ n2_ n3_; clear hb hbox hg) | ((with_reducible refine gate_dst (N := 3) rfl ?_); refine box_event ?hg (N := 3) ?hd (cs := #[.int .i64 a1_0, .slice A1_1 l1_1.length c1_1, .slice A1_2 l1_2.length c1_2, .slice A1_3 l1_3.length c1_3, .slice A1_4 l1_4.length c1_4, .slice A1_5 l1_5.length c1_5]) (t := 30) ?hr ?_; (case hd => rfl); (case hg => rfl); (case hr => first | (go_simp; done) | (go_simp; rfl)); intro gb197 hg w19 hbox hb; have n0_ := Aside0.mk (blk_below (g := gb196) (o := .cells #[.int .i64 a0_0, .slice A0_1 l0_1.length c0_1, .slice A0_2 l0_2.length c0_2, .slice A0_3 l0_3.length c0_3, .slice A0_4 l0_4.length c0_4, .slice A0_5 l0_5.length c0_5] 30 (0, 0)) zq119 hb); have n1_ := Aside0.mk (below_step zq90 hb); have n2_ := Aside0.mk (hbox); have n3_ := Aside0.mk ((zq54 : w.heap.size ≤ gb197)); have n4_ := Aside0.mk ((zq54 : w.heap.size ≤ gb197)); have n5_ := Aside0.mk ((zq31 : gb196 ≠ gb197)); have n6_ := Aside0.mk ((zq27 : gb197 ≠ gb196)); clear BK196; clear HB; have BK196 := n0_; have HB := n1_; have BK197 := n2_; have GW197 := n3_; have GE197 := n4_; have NB196_197 := n5_; have NB197_196 := n6_; clear n0_ n1_ n2_ n3_ n4_ n5_ n6_; clear hb hbox hg; have hnb20 := NB196_197.out; have hnc20 := NB197_196.out; obtain ⟨b21_0, b21_1, b21_2, b21_3, b21_4, b21_5, d21_0, d21_1, d21_2, d21_3, d21_4, d21_5⟩ := bk6 BK196.out; obtain ⟨b22_0, b22_1, b22_2, b22_3, b22_4, b22_5, d22_0, d22_1, d22_2, d22_3, d22_4, d22_5⟩ := bk6 BK197.out) | (go_at_call 21; (with_reducible refine (r2_SameInts.calls k _ _ l0_1 _ _ l1_1 true _ ?side1 ?side2 ?side3 ?side4 A4.out).mono ?_); (case side1 => exact zq75); (case side2 => exact HC0_1.out); (case side3 => exact zq80); (case side4 => exact HC1_1.out); rintro e w' ⟨rfl, ⟨nd, rfl⟩⟩) | (go_at_call 33; (with_reducible refine (r3_sameDefines.calls k _ _ l0_2 _ _ l1_2 true _ ?side1 ?side2 ?side3 ?side4 A6.out).mono ?_); (case side1 => exact zq19); (case side2 => exact HC0_2.out); (case side3 => exact zq23); (case side4 => exact HC1_2.out); rintro e w' ⟨rfl, ⟨nd, rfl⟩⟩) | (go_at_call 33; (with_reducible refine (r3_sameDefines.calls k _ _ l0_3 _ _ l1_3 true _ ?side1 ?side2 ?side3 ?side4 A8.out).mono ?_); (case side1 => exact zq20); (case side2 => exact HC0_3.out); (case side3 => exact zq24); (case side4 => exact HC1_3.out); rintro e w' ⟨rfl, ⟨nd, rfl⟩⟩) | (go_at_call 21; (with_reducible refine (r2_SameInts.calls k _ _ l0_4 _ _ l1_4 false _ ?side1 ?side2 ?side3 ?side4 A10.out).mono ?_); (case side1 => exact zq21); (case side2 => exact HC0_4.out); (case side3 => exact zq25); (case side4 => exact HC1_4.out); rintro e w' ⟨rfl, ⟨nd, rfl⟩⟩))
           go_ret
           exact ⟨zq181, zq62⟩
       · replace c9 := Bool.eq_false_iff.mpr c9
         subst c9
         have H1 : (some false) = some r := by rw [if_neg (show ¬ (false = true) by decide)] at H; exact H
         clear H
         have H := H1
         clear H1
         obtain rfl := Option.some.inj H
         go_enter Try.func13, Try.ntmps13
         go_wp2_with (first | ((with_reducible refine gate_dst (N := 2) rfl ?_); refine box_event ?hg (N := 2) ?hd (cs := #[.int .i64 a0_0, .slice A0_1 l0_1.length c0_1, .slice A0_2 l0_2.length c0_2, .slice A0_3 l0_3.length c0_3, .slice A0_4 l0_4.length c0_4, .slice A0_5 l0_5.length c0_5]) (t := 30) ?hr ?_; (case hd => rfl); (case hg => rfl); (case hr => first | (go_simp; done) | (go_simp; rfl)); intro gb196 hg w23 hbox hb; have n0_ := Aside0.mk (below_step zq109 hb); have n1_ := Aside0.mk (hbox); have n2_ := Aside0.mk ((zq89 : w.heap.size ≤ gb196)); have n3_ := Aside0.mk ((zq89 : w.heap.size ≤ gb196)); clear HB; have HB := n0_; have BK196 := n1_; have GW196 := n2_; have GE196 := n3_; clear n0_ n1_ n2_ n3_; clear hb hbox hg) | ((with_reducible refine gate_dst (N := 3) rfl ?_); refine box_event ?hg (N := 3) ?hd (cs := #[.int .i64 a1_0, .slice A1_1 l1_1.length c1_1, .slice A1_2 l1_2.length c1_2, .slice A1_3 l1_3.length c1_3, .slice A1_4 l1_4.length c1_4, .slice A1_5 l1_5.length c1_5]) (t := 30) ?hr ?_; (case hd => rfl); (case hg => rfl); (case hr => first | (go_simp; done) | (go_simp; rfl)); intro gb197 hg w24 hbox hb; have n0_ := Aside0.mk (blk_below (g := gb196) (o := .cells #[.int .i64 a0_0, .slice A0_1 l0_1.length c0_1, .slice A0_2 l0_2.length c0_2, .slice A0_3 l0_3.length c0_3, .slice A0_4 l0_4.length c0_4, .slice A0_5 l0_5.length c0_5] 30 (0, 0)) zq119 hb); have n1_ := Aside0.mk (below_step zq90 hb); have n2_ := Aside0.mk (hbox); have n3_ := Aside0.mk ((zq54 : w.heap.size ≤ gb197)); have n4_ := Aside0.mk ((zq54 : w.heap.size ≤ gb197)); have n5_ := Aside0.mk ((zq31 : gb196 ≠ gb197)); have n6_ := Aside0.mk ((zq27 : gb197 ≠ gb196)); clear BK196; clear HB; have BK196 := n0_; have HB := n1_; have BK197 := n2_; have GW197 := n3_; have GE197 := n4_; have NB196_197 := n5_; have NB197_196 := n6_; clear n0_ n1_ n2_ n3_ n4_ n5_ n6_; clear hb hbox hg; have hnb25 := NB196_197.out; have hnc25 := NB197_196.out; obtain ⟨b26_0, b26_1, b26_2, b26_3, b26_4, b26_5, d26_0, d26_1, d26_2, d26_3, d26_4, d26_5⟩ := bk6 BK196.out; obtain ⟨b27_0, b27_1, b27_2, b27_3, b27_4, b27_5, d27_0, d27_1, d27_2, d27_3, d27_4, d27_5⟩ := bk6 BK197.out) | (go_at_call 21; (with_reducible refine (r2_SameInts.calls k _ _ l0_1 _ _ l1_1 true _ ?side1 ?side2 ?side3 ?side4 A4.out).mono ?_); (case side1 => exact zq75); (case side2 => exact HC0_1.out); (case side3 => exact zq80); (case side4 => exact HC1_1.out); rintro e w' ⟨rfl, ⟨nd, rfl⟩⟩) | (go_at_call 33; (with_reducible refine (r3_sameDefines.calls k _ _ l0_2 _ _ l1_2 true _ ?side1 ?side2 ?side3 ?side4 A6.out).mono ?_); (case side1 => exact zq19); (case side2 => exact HC0_2.out); (case side3 => exact zq23); (case side4 => exact HC1_2.out); rintro e w' ⟨rfl, ⟨nd, rfl⟩⟩) | (go_at_call 33; (with_reducible refine (r3_sameDefines.calls k _ _ l0_3 _ _ l1_3 false _ ?side1 ?side2 ?side3 ?side4 A8.out).mono ?_); (case side1 => exact zq20); (case side2 => exact HC0_3.out); (case side3 => exact zq24); (case side4 => exact HC1_3.out); rintro e w' ⟨rfl, ⟨nd, rfl⟩⟩))
         go_ret
         exact ⟨zq181, zq62⟩
     · replace c7 := Bool.eq_false_iff.mpr c7
       subst c7
       have H1 : (some false) = some r := by rw [if_neg (show ¬ (false = true) by decide)] at H; exact H
       clear H
       have H := H1
       clear H1
       obtain rfl := Option.some.inj H
       go_enter Try.func13, Try.ntmps13
       go_wp2_with (first | ((with_reducible refine gate_dst (N := 2) rfl ?_); refine box_event ?hg (N := 2) ?hd (cs := #[.int .i64 a0_0, .slice A0_1 l0_1.length c0_1, .slice A0_2 l0_2.length c0_2, .slice A0_3 l0_3.length c0_3, .slice A0_4 l0_4.length c0_4, .slice A0_5 l0_5.length c0_5]) (t := 30) ?hr ?_; (case hd => rfl); (case hg => rfl); (case hr => first | (go_simp; done) | (go_simp; rfl)); intro gb196 hg w28 hbox hb; have n0_ := Aside0.mk (below_step zq109 hb); have n1_ := Aside0.mk (hbox); have n2_ := Aside0.mk ((zq89 : w.heap.size ≤ gb196)); have n3_ := Aside0.mk ((zq89 : w.heap.size ≤ gb196)); clear HB; have HB := n0_; have BK196 := n1_; have GW196 := n2_; have GE196 := n3_; clear n0_ n1_ n2_ n3_; clear hb hbox hg) | ((with_reducible refine gate_dst (N := 3) rfl ?_); refine box_event ?hg (N := 3) ?hd (cs := #[.int .i64 a1_0, .slice A1_1 l1_1.length c1_1, .slice A1_2 l1_2.length c1_2, .slice A1_3 l1_3.length c1_3, .slice A1_4 l1_4.length c1_4, .slice A1_5 l1_5.length c1_5]) (t := 30) ?hr ?_; (case hd => rfl); (case hg => rfl); (case hr => first | (go_simp; done) | (go_simp; rfl)); intro gb197 hg w29 hbox hb; have n0_ := Aside0.mk (blk_below (g := gb196) (o := .cells #[.int .i64 a0_0, .slice A0_1 l0_1.length c0_1, .slice A0_2 l0_2.length c0_2, .slice A0_3 l0_3.length c0_3, .slice A0_4 l0_4.length c0_4, .slice A0_5 l0_5.length c0_5] 30 (0, 0)) zq119 hb); have n1_ := Aside0.mk (below_step zq90 hb); have n2_ := Aside0.mk (hbox); have n3_ := Aside0.mk ((zq54 : w.heap.size ≤ gb197)); have n4_ := Aside0.mk ((zq54 : w.heap.size ≤ gb197)); have n5_ := Aside0.mk ((zq31 : gb196 ≠ gb197)); have n6_ := Aside0.mk ((zq27 : gb197 ≠ gb196)); clear BK196; clear HB; have BK196 := n0_; have HB := n1_; have BK197 := n2_; have GW197 := n3_; have GE197 := n4_; have NB196_197 := n5_; have NB197_196 := n6_; clear n0_ n1_ n2_ n3_ n4_ n5_ n6_; clear hb hbox hg; have hnb30 := NB196_197.out; have hnc30 := NB197_196.out; obtain ⟨b31_0, b31_1, b31_2, b31_3, b31_4, b31_5, d31_0, d31_1, d31_2, d31_3, d31_4, d31_5⟩ := bk6 BK196.out; obtain ⟨b32_0, b32_1, b32_2, b32_3, b32_4, b32_5, d32_0, d32_1, d32_2, d32_3, d32_4, d32_5⟩ := bk6 BK197.out) | (go_at_call 21; (with_reducible refine (r2_SameInts.calls k _ _ l0_1 _ _ l1_1 true _ ?side1 ?side2 ?side3 ?side4 A4.out).mono ?_); (case side1 => exact zq75); (case side2 => exact HC0_1.out); (case side3 => exact zq80); (case side4 => exact HC1_1.out); rintro e w' ⟨rfl, ⟨nd, rfl⟩⟩) | (go_at_call 33; (with_reducible refine (r3_sameDefines.calls k _ _ l0_2 _ _ l1_2 false _ ?side1 ?side2 ?side3 ?side4 A6.out).mono ?_); (case side1 => exact zq19); (case side2 => exact HC0_2.out); (case side3 => exact zq23); (case side4 => exact HC1_2.out); rintro e w' ⟨rfl, ⟨nd, rfl⟩⟩))
       go_ret
       exact ⟨zq181, zq62⟩
   · replace c5 := Bool.eq_false_iff.mpr c5
     subst c5
     have H1 : (some false) = some r := by rw [if_neg (show ¬ (false = true) by decide)] at H; exact H
     clear H
     have H := H1
     clear H1
     obtain rfl := Option.some.inj H
     go_enter Try.func13, Try.ntmps13
     go_wp2_with (first | ((with_reducible refine gate_dst (N := 2) rfl ?_); refine box_event ?hg (N := 2) ?hd (cs := #[.int .i64 a0_0, .slice A0_1 l0_1.length c0_1, .slice A0_2 l0_2.length c0_2, .slice A0_3 l0_3.length c0_3, .slice A0_4 l0_4.length c0_4, .slice A0_5 l0_5.length c0_5]) (t := 30) ?hr ?_; (case hd => rfl); (case hg => rfl); (case hr => first | (go_simp; done) | (go_simp; rfl)); intro gb196 hg w33 hbox hb; have n0_ := Aside0.mk (below_step zq109 hb); have n1_ := Aside0.mk (hbox); have n2_ := Aside0.mk ((zq89 : w.heap.size ≤ gb196)); have n3_ := Aside0.mk ((zq89 : w.heap.size ≤ gb196)); clear HB; have HB := n0_; have BK196 := n1_; have GW196 := n2_; have GE196 := n3_; clear n0_ n1_ n2_ n3_; clear hb hbox hg) | ((with_reducible refine gate_dst (N := 3) rfl ?_); refine box_event ?hg (N := 3) ?hd (cs := #[.int .i64 a1_0, .slice A1_1 l1_1.length c1_1, .slice A1_2 l1_2.length c1_2, .slice A1_3 l1_3.length c1_3, .slice A1_4 l1_4.length c1_4, .slice A1_5 l1_5.length c1_5]) (t := 30) ?hr ?_; (case hd => rfl); (case hg => rfl); (case hr => first | (go_simp; done) | (go_simp; rfl)); intro gb197 hg w34 hbox hb; have n0_ := Aside0.mk (blk_below (g := gb196) (o := .cells #[.int .i64 a0_0, .slice A0_1 l0_1.length c0_1, .slice A0_2 l0_2.length c0_2, .slice A0_3 l0_3.length c0_3, .slice A0_4 l0_4.length c0_4, .slice A0_5 l0_5.length c0_5] 30 (0, 0)) zq119 hb); have n1_ := Aside0.mk (below_step zq90 hb); have n2_ := Aside0.mk (hbox); have n3_ := Aside0.mk ((zq54 : w.heap.size ≤ gb197)); have n4_ := Aside0.mk ((zq54 : w.heap.size ≤ gb197)); have n5_ := Aside0.mk ((zq31 : gb196 ≠ gb197)); have n6_ := Aside0.mk ((zq27 : gb197 ≠ gb196)); clear BK196; clear HB; have BK196 := n0_; have HB := n1_; have BK197 := n2_; have GW197 := n3_; have GE197 := n4_; have NB196_197 := n5_; have NB197_196 := n6_; clear n0_ n1_ n2_ n3_ n4_ n5_ n6_; clear hb hbox hg; have hnb35 := NB196_197.out; have hnc35 := NB197_196.out; obtain ⟨b36_0, b36_1, b36_2, b36_3, b36_4, b36_5, d36_0, d36_1, d36_2, d36_3, d36_4, d36_5⟩ := bk6 BK196.out; obtain ⟨b37_0, b37_1, b37_2, b37_3, b37_4, b37_5, d37_0, d37_1, d37_2, d37_3, d37_4, d37_5⟩ := bk6 BK197.out) | (go_at_call 21; (with_reducible refine (r2_SameInts.calls k _ _ l0_1 _ _ l1_1 false _ ?side1 ?side2 ?side3 ?side4 A4.out).mono ?_); (case side1 => exact zq75); (case side2 => exact HC0_1.out); (case side3 => exact zq80); (case side4 => exact HC1_1.out); rintro e w' ⟨rfl, ⟨nd, rfl⟩⟩))
     go_ret
     exact ⟨zq181, zq62⟩
 · rw [if_neg c3] at H
   have c3b0 : (a0_0 == a1_0) = false := beq_eq_false_iff_ne.mpr c3
   have c3b1 : (a0_0 != a1_0) = true := bne_iff_ne.mpr c3
   obtain rfl := Option.some.inj H
   go_enter Try.func13, Try.ntmps13
   go_wp2_with (first | ((with_reducible refine gate_dst (N := 2) rfl ?_); refine box_event ?hg (N := 2) ?hd (cs := #[.int .i64 a0_0, .slice A0_1 l0_1.length c0_1, .slice A0_2 l0_2.length c0_2, .slice A0_3 l0_3.length c0_3, .slice A0_4 l0_4.length c0_4, .slice A0_5 l0_5.length c0_5]) (t := 30) ?hr ?_; (case hd => rfl); (case hg => rfl); (case hr => first | (go_simp; done) | (go_simp; rfl)); intro gb196 hg w38 hbox hb; have n0_ := Aside0.mk (below_step zq109 hb); have n1_ := Aside0.mk (hbox); have n2_ := Aside0.mk ((zq89 : w.heap.size ≤ gb196)); have n3_ := Aside0.mk ((zq89 : w.heap.size ≤ gb196)); clear HB; have HB := n0_; have BK196 := n1_; have GW196 := n2_; have GE196 := n3_; clear n0_ n1_ n2_ n3_; clear hb hbox hg) | ((with_reducible refine gate_dst (N := 3) rfl ?_); refine box_event ?hg (N := 3) ?hd (cs := #[.int .i64 a1_0, .slice A1_1 l1_1.length c1_1, .slice A1_2 l1_2.length c1_2, .slice A1_3 l1_3.length c1_3, .slice A1_4 l1_4.length c1_4, .slice A1_5 l1_5.length c1_5]) (t := 30) ?hr ?_; (case hd => rfl); (case hg => rfl); (case hr => first | (go_simp; done) | (go_simp; rfl)); intro gb197 hg w39 hbox hb; have n0_ := Aside0.mk (blk_below (g := gb196) (o := .cells #[.int .i64 a0_0, .slice A0_1 l0_1.length c0_1, .slice A0_2 l0_2.length c0_2, .slice A0_3 l0_3.length c0_3, .slice A0_4 l0_4.length c0_4, .slice A0_5 l0_5.length c0_5] 30 (0, 0)) zq119 hb); have n1_ := Aside0.mk (below_step zq90 hb); have n2_ := Aside0.mk (hbox); have n3_ := Aside0.mk ((zq54 : w.heap.size ≤ gb197)); have n4_ := Aside0.mk ((zq54 : w.heap.size ≤ gb197)); have n5_ := Aside0.mk ((zq31 : gb196 ≠ gb197)); have n6_ := Aside0.mk ((zq27 : gb197 ≠ gb196)); clear BK196; clear HB; have BK196 := n0_; have HB := n1_; have BK197 := n2_; have GW197 := n3_; have GE197 := n4_; have NB196_197 := n5_; have NB197_196 := n6_; clear n0_ n1_ n2_ n3_ n4_ n5_ n6_; clear hb hbox hg; have hnb40 := NB196_197.out; have hnc40 := NB197_196.out; obtain ⟨b41_0, b41_1, b41_2, b41_3, b41_4, b41_5, d41_0, d41_1, d41_2, d41_3, d41_4, d41_5⟩ := bk6 BK196.out; obtain ⟨b42_0, b42_1, b42_2, b42_3, b42_4, b42_5, d42_0, d42_1, d42_2, d42_3, d42_4, d42_5⟩ := bk6 BK197.out))
   go_ret
   exact ⟨zq181, zq62⟩
end Go.Proofs.Ytpdlkjpemplhoaa.P
