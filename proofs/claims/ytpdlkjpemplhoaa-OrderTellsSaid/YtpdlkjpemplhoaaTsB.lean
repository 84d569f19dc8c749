/- Texts of one claim, packed: part 2 of 6 -/
import Derived.Test.YtpdlkjpemplhoaaTsA
namespace Go.Proofs.Ytpdlkjpemplhoaa.P
open Go.RowKit Go.Proofs.YtpdlkjpemplhoaaW.PrintWords Go.Proofs.YtpdlkjpemplhoaaW.PrintLast Go.Proofs.YtpdlkjpemplhoaaW.PrintMore
attribute [local go_sem] max2_int min2_int max_two min_two max_three min_three max_four min_four
set_option linter.unusedVariables false
set_option linter.unusedSimpArgs false
mutual
def r3_Defined.l0 : Nat → List Int → Int → Int → List Int → List (S56) → List (S56) → List Int → List Int → Option (List Int)
 | 0, _, _, _, _, _, _, _, _ => none
 | k + 1, x3, x4, x330000, x330001, x330002, x330003, x330004, x330005 => if x4 < (x330002.length : Int) then (if 0 ≤ x4 then (if x3.length < 17592186044416 then (r3_Defined.l0 k (x3 ++ [(rd_T56 x330002 x4).f0]) (wrap64 (x4 + 1)) x330000 x330001 x330002 x330003 x330004 x330005) else (none)) else (none)) else (r3_Defined.l1 k x3 0 x330000 x330001 x330002 x330003 x330004 x330005)
def r3_Defined.l1 : Nat → List Int → Int → Int → List Int → List (S56) → List (S56) → List Int → List Int → Option (List Int)
 | 0, _, _, _, _, _, _, _, _ => none
 | k + 1, x3, x5, x330000, x330001, x330002, x330003, x330004, x330005 => if x5 < (x330003.length : Int) then (if 0 ≤ x5 then (if x3.length < 17592186044416 then (r3_Defined.l1 k (x3 ++ [(rd_T56 x330003 x5).f0]) (wrap64 (x5 + 1)) x330000 x330001 x330002 x330003 x330004 x330005) else (none)) else (none)) else (some x3)
end
def r3_Defined.f (k : Nat) (a0_0 : Int) (l0_1 : List Int) (l0_2 : List (S56)) (l0_3 : List (S56)) (l0_4 : List Int) (l0_5 : List Int) : Option (List Int) := (some (([] : List Int) : List Int)).bind fun y330 => (if y330.length + l0_1.length < 17592186044416 then (r3_Defined.l0 k (y330 ++ l0_1) 0 a0_0 l0_1 l0_2 l0_3 l0_4 l0_5) else (none))
set_option maxHeartbeats 8000000 in
set_option maxRecDepth 100000 in
theorem r3_Defined.calls (k : Nat) (a0_0 : Int) (A0_1 : Option Addr) (c0_1 : Nat) (l0_1 : List Int) (A0_2 : Option Addr) (c0_2 : Nat) (l0_2 : List (S56)) (A0_3 : Option Addr) (c0_3 : Nat) (l0_3 : List (S56)) (A0_4 : Option Addr) (c0_4 : Nat) (l0_4 : List Int) (A0_5 : Option Addr) (c0_5 : Nat) (l0_5 : List Int) (r : List Int) (w : World) (hr0_1 : Kd.C (Kd.int .i64) w A0_1 l0_1.length l0_1) (hc0_1 : l0_1.length ≤ c0_1) (hr0_2 : Kd.C k56 w A0_2 l0_2.length l0_2) (hc0_2 : l0_2.length ≤ c0_2) (hr0_3 : Kd.C k56 w A0_3 l0_3.length l0_3) (hc0_3 : l0_3.length ≤ c0_3) (hr0_4 : Kd.C (Kd.int .i64) w A0_4 l0_4.length l0_4) (hc0_4 : l0_4.length ≤ c0_4) (hr0_5 : Kd.C (Kd.int .i64) w A0_5 l0_5.length l0_5) (hc0_5 : l0_5.length ≤ c0_5) (h : r3_Defined.f k a0_0 l0_1 l0_2 l0_3 l0_4 l0_5 = some r) :
 Calls Try.prog 25 #[.agg #[.int .i64 a0_0, .slice A0_1 l0_1.length c0_1, .slice A0_2 l0_2.length c0_2, .slice A0_3 l0_3.length c0_3, .slice A0_4 l0_4.length c0_4, .slice A0_5 l0_5.length c0_5]] w fun e w' => ∃ v0_ : Value, e = .returned (v0_) ∧ Kd.R (Kd.int .i64) 3 w' w.heap.size (fun _ => True) v0_ r ∧ Below w.heap.size w w' := by
 have hu30 := Try.underlying30
 have HR0_1 := Aside0.mk hr0_1
 have HC0_1 := Aside0.mk hc0_1
 clear hr0_1 hc0_1
 have HR0_2 := Aside0.mk hr0_2
 have HC0_2 := Aside0.mk hc0_2
 clear hr0_2 hc0_2
 have HR0_3 := Aside0.mk hr0_3
 have HC0_3 := Aside0.mk hc0_3
 clear hr0_3 hc0_3
 have HR0_4 := Aside0.mk hr0_4
 have HC0_4 := Aside0.mk hc0_4
 clear hr0_4 hc0_4
 have HR0_5 := Aside0.mk hr0_5
 have HC0_5 := Aside0.mk hc0_5
 clear hr0_5 hc0_5
 have HB := Aside0.mk (Below.refl w.heap.size w)
 have H : ((some (([] : List Int) : List Int)).bind fun y330 => (if y330.length + l0_1.length < 17592186044416 then (r3_Defined.l0 k (y330 ++ l0_1) 0 a0_0 l0_1 l0_2 l0_3 l0_4 l0_5) else (none))) = some r := h
 clear h
 obtain ⟨y330, hy330⟩ : ∃ y_ : List Int, y_ = (([] : List Int)) := ⟨_, rfl⟩
 replace H : (if y330.length + l0_1.length < 17592186044416 then (r3_Defined.l0 k (y330 ++ l0_1) 0 a0_0 l0_1 l0_2 l0_3 l0_4 l0_5) else (none)) = some r := by first | (rw [hy330]; with_reducible exact H) | (have H2_ := (Option.bind_some _ _).symm.trans H; rw [hy330]; with_reducible exact H2_) | (have H2_ := (Option.bind_some _ _).symm.trans H; with_reducible exact H2_) | with_reducible exact H | (rw [hy330]; exact H) | exact H
 have Ny330 := Aside0.mk hy330
 clear hy330
 by_cases c2 : y330.length + l0_1.length < 17592186044416
 · rw [if_pos c2] at H
   have LMc2 := Aside0.mk c2
   clear c2
   obtain ⟨y333, hy333⟩ : ∃ y_ : List Int, y_ = (y330 ++ l0_1) := ⟨_, rfl⟩
   replace H : (r3_Defined.l0 k y333 0 a0_0 l0_1 l0_2 l0_3 l0_4 l0_5) = some r := by first | (rw [hy333]; with_reducible exact H) | (have H2_ := (Option.bind_some _ _).symm.trans H; rw [hy333]; with_reducible exact H2_) | (have H2_ := (Option.bind_some _ _).symm.trans H; with_reducible exact H2_) | with_reducible exact H | (rw [hy333]; exact H) | exact H
   have Ny333 := Aside0.mk hy333
   clear hy333
   have H' := Aside0.mk H
   clear H
   go_enter Try.func25, Try.ntmps25
   go_wp2_with (first | ((with_reducible refine gate_dst (N := 1) rfl ?_); refine box_event ?hg (N := 1) ?hd (cs := #[.int .i64 a0_0, .slice A0_1 l0_1.length c0_1, .slice A0_2 l0_2.length c0_2, .slice A0_3 l0_3.length c0_3, .slice A0_4 l0_4.length c0_4, .slice A0_5 l0_5.length c0_5]) (t := 30) ?hr ?_; (case hd => rfl); (case hg => rfl); (case hr => first | (go_simp; done) | (go_simp; rfl)); intro gb329 hg w3 hbox hb; have n0_ := Aside0.mk (below_step zq109 hb); have n1_ := Aside0.mk (hbox); have n2_ := Aside0.mk ((zq89 : w.heap.size ≤ gb329)); have n3_ := Aside0.mk ((zq89 : w.heap.size ≤ gb329)); clear HB; have HB := n0_; have BK329 := n1_; have GW329 := n2_; have GE329 := n3_; clear n0_ n1_ n2_ n3_; clear hb hbox hg) | ((with_reducible refine gate_dst (N := 6) rfl ?_); refine Kd.R_lit (Kd.int .i64) _ 3 ?hg (N := 6) ?hd (xs := ([] : List Int)) (inner := []) (ok := fun _ => True) (okp := fun _ => True) ?hr ?hp (fun _ hk => hk) trivial (Below.refl _ _) (Nat.le_refl _) (by simp) ?_; (case hd => rfl); (case hg => rfl); (case hr => first | (go_simp; done) | (go_simp; rfl)); (case hp => exact (Reps.none _ _)); intro v331 w4 ho5 hb hg_ hnew_; clear hg_ hnew_; (first | rw [← Ny330.out] at ho5 | (simp only [Int.reduceToNat] at ho5; rw [← Ny330.out] at ho5)); have n0_ := Aside0.mk (Kd.R_lower ho5 (below_size zq96)); have n1_ := Aside0.mk (blk_below (g := gb329) (o := .cells #[.int .i64 a0_0, .slice A0_1 l0_1.length c0_1, .slice A0_2 l0_2.length c0_2, .slice A0_3 l0_3.length c0_3, .slice A0_4 l0_4.length c0_4, .slice A0_5 l0_5.length c0_5] 30 (0, 0)) zq125 hb); have n2_ := Aside0.mk (below_step zq96 hb); clear BK329; clear HB; have HO332 := n0_; have BK329 := n1_; have HB := n2_; clear n0_ n1_ n2_; clear hb ho5; obtain ⟨b6_0, b6_1, b6_2, b6_3, b6_4, b6_5, d6_0, d6_1, d6_2, d6_3, d6_4, d6_5⟩ := bk6 BK329.out) | ((with_reducible refine gate_builtin (b := .append) (xs := #[.tmp 6, .tmp 8]) rfl ?_); at_builtin; refine Kd.R_append_rows (Kd.int .i64) (w0 := w) w.heap.size rfl (.tmp 6) (.tmp 8) 24 3 (.int .i64 0) 8 rfl Try.underlying24 info3 rfl (by decide) (by omega) v331 y330 l0_1 _ _ _ (fun _ => True) (fun _ => False) rfl rfl ?aO ?aR (fun _ _ h => h) (fun _ h => h.elim) ?aF ?aB ?aS ?aL ?_; (case aR => exact zq75); (case aB => exact zq73); (case aF => exact (fun _ _ => trivial)); (case aO => exact (by (with_reducible repeat (first | apply Kd.R_alloc | apply Kd.R_drewN | apply Kd.R_drew)); exact HO332.out)); (case aS => exact zq71); (case aL => have := LMc2.out; omega); intro v334 w7 ho hb hg hat; rw [← Ny333.out] at ho; have n0_ := Aside0.mk (blk_grown (g := gb329) (o := .cells #[.int .i64 a0_0, .slice A0_1 l0_1.length c0_1, .slice A0_2 l0_2.length c0_2, .slice A0_3 l0_3.length c0_3, .slice A0_4 l0_4.length c0_4, .slice A0_5 l0_5.length c0_5] 30 (0, 0)) zq125 hg (Kd.R_ne HO332.out BK329.out (by decide))); have n1_ := Aside0.mk (hb); have n2_ := Aside0.mk (ho); clear BK329; clear HB; clear HO332; have BK329 := n0_; have HB := n1_; have HO335 := n2_; clear n0_ n1_ n2_; clear ho hb hg hat))
   go_loopg [3, 4] k (fun kq v3 v4 w' => ∃ (x3_1 : List Int) (x4_1 : Int), v4 = .int .i64 x4_1 ∧ Aside0 (r3_Defined.l0 kq x3_1 x4_1 a0_0 l0_1 l0_2 l0_3 l0_4 l0_5 = some r) ∧ Aside0 (kq ≤ k) ∧ Aside0 (Kd.R (Kd.int .i64) 3 w' w.heap.size (fun _ => True) v3 x3_1) ∧ Aside0 (w'.heap[gb329]? = some (.cells #[.int .i64 a0_0, (.slice A0_1 l0_1.length c0_1), (.slice A0_2 l0_2.length c0_2), (.slice A0_3 l0_3.length c0_3), (.slice A0_4 l0_4.length c0_4), (.slice A0_5 l0_5.length c0_5)] 30 (0, 0))) ∧ Aside0 (Below w.heap.size w w'))
   case atStart => exact ⟨(y333), (0), zq187, H', ⟨Nat.le_refl _⟩, ⟨by (with_reducible repeat (first | apply Kd.R_alloc | apply Kd.R_drewN | apply Kd.R_drew)); exact HO335.out⟩, ⟨zq125⟩, ⟨zq96⟩⟩
   case round =>
    clear H'
    try clear c2
    try clear p2
    try clear b6_0
    try clear b6_1
    try clear b6_2
    try clear b6_3
    try clear b6_4
    try clear b6_5
    try clear d6_0
    try clear d6_1
    try clear d6_2
    try clear d6_3
    try clear d6_4
    try clear d6_5
    obtain ⟨x3_1, x4_1, rfl, HA, HK1, HO_3, BK329, HB⟩ := hrel
    cases gk with
    | zero => exact absurd HA.out (by simp [r3_Defined.l0])
    | succ k1 =>
     have H := HA.out
     clear HA
     simp only [r3_Defined.l0] at H
     by_cases c8 : x4_1 < (l0_2.length : Int)
     · rw [if_pos c8] at H
       have c8b0 : decide (x4_1 < (l0_2.length : Int)) = true := decide_eq_true c8
       clear c8
       by_cases c9 : 0 ≤ x4_1
       · rw [if_pos c9] at H
         have c9b0 : decide (0 ≤ x4_1) = true := decide_eq_true c9
         clear c9
         by_cases c10 : x3_1.length < 17592186044416
         · rw [if_pos c10] at H
           have LMc10 := Aside0.mk c10
           clear c10
           obtain ⟨y337, hy337⟩ : ∃ y_ : List Int, y_ = (x3_1 ++ [(rd_T56 l0_2 x4_1).f0]) := ⟨_, rfl⟩
           replace H : (r3_Defined.l0 k1 y337 (wrap64 (x4_1 + 1)) a0_0 l0_1 l0_2 l0_3 l0_4 l0_5) = some r := by first | (rw [hy337]; with_reducible exact H) | (have H2_ := (Option.bind_some _ _).symm.trans H; rw [hy337]; with_reducible exact H2_) | (have H2_ := (Option.bind_some _ _).symm.trans H; with_reducible exact H2_) | with_reducible exact H | (rw [hy337]; exact H) | exact H
           have Ny337 := Aside0.mk hy337
           clear hy337
           have H' := Aside0.mk H
           clear H
           obtain ⟨b11_0, b11_1, b11_2, b11_3, b11_4, b11_5, d11_0, d11_1, d11_2, d11_3, d11_4, d11_5⟩ := bk6 BK329.out
           have p336 : 0 ≤ (x4_1 : Int) := of_decide_eq_true zq186
           have q336 : x4_1 < (l0_2.length : Int) := of_decide_eq_true zq186
           obtain ⟨ad336, e336, hx336_0, hx336_1, hx336_2⟩ := at_T56 HR0_2.out x4_1 p336 q336
           cases e336
           replace hx336_0 := (HB.out.cell (World.block_lt_of_cell? w _ hx336_0)).trans hx336_0
           replace hx336_1 := (HB.out.cell (World.block_lt_of_cell? w _ hx336_1)).trans hx336_1
           replace hx336_2 := (HB.out.cell (World.block_lt_of_cell? w _ hx336_2)).trans hx336_2
           replace p336 := eq_true p336
           replace q336 := eq_true q336
           go_wp2_with (first | ((with_reducible refine gate_builtin (b := .append) (xs := #[.tmp 17, .tmp 24]) rfl ?_); at_builtin; refine Kd.R_append (Kd.int .i64) (w0 := w) w.heap.size rfl (.tmp 17) (.tmp 24) 24 3 (.int .i64 0) 8 rfl Try.underlying24 info3 rfl (by decide) (by omega) u3 x3_1 ((rd_T56 l0_2 x4_1).f0) [.int .i64 ((rd_T56 l0_2 x4_1).f0)] (fun _ => True) (fun _ => False) rfl rfl ?aP (fun _ hk => hk.elim) ?aF ?aO ?aB ?aS ?aL ?_; (case aP => exact rfl); (case aB => exact zq73); (case aF => exact (fun _ _ => trivial)); (case aO => exact zq140); (case aS => exact zq71); (case aL => have := LMc10.out; omega); intro v338 w12 ho hb hg hat; rw [← Ny337.out] at ho; have n0_ := Aside0.mk (blk_grown (g := gb329) (o := .cells #[.int .i64 a0_0, .slice A0_1 l0_1.length c0_1, .slice (some ad336) l0_2.length c0_2, .slice A0_3 l0_3.length c0_3, .slice A0_4 l0_4.length c0_4, .slice A0_5 l0_5.length c0_5] 30 (0, 0)) zq125 hg (Kd.R_ne HO_3.out BK329.out (by decide))); have n1_ := Aside0.mk (hb); have n2_ := Aside0.mk (ho); clear BK329; clear HB; clear HO_3; have BK329 := n0_; have HB := n1_; have HO339 := n2_; clear n0_ n1_ n2_; clear ho hb hg hat))
           go_roundg k1
           case measure => have := HK1.out; omega
           case rel => exact ⟨(y337), (wrap64 (x4_1 + 1)), zq187, H', ⟨by have := HK1.out; omega⟩, ⟨by (with_reducible repeat (first | apply Kd.R_alloc | apply Kd.R_drewN | apply Kd.R_drew)); exact HO339.out⟩, ⟨zq125⟩, ⟨zq96⟩⟩
         · rw [if_neg c10] at H
           exact absurd H (by simp)
       · rw [if_neg c9] at H
         exact absurd H (by simp)
     · rw [if_neg c8] at H
       have c8b0 : decide (x4_1 < (l0_2.length : Int)) = false := decide_eq_false c8
       clear c8
       have H' := Aside0.mk H
       clear H
       obtain ⟨b13_0, b13_1, b13_2, b13_3, b13_4, b13_5, d13_0, d13_1, d13_2, d13_3, d13_4, d13_5⟩ := bk6 BK329.out
       go_wp2
       go_loopg [3, 5] k1 (fun kq v3 v5 w' => ∃ (x3_2 : List Int) (x5_2 : Int), v5 = .int .i64 x5_2 ∧ Aside0 (r3_Defined.l1 kq x3_2 x5_2 a0_0 l0_1 l0_2 l0_3 l0_4 l0_5 = some r) ∧ Aside0 (kq ≤ k1) ∧ Aside0 (Kd.R (Kd.int .i64) 3 w' w.heap.size (fun _ => True) v3 x3_2) ∧ Aside0 (w'.heap[gb329]? = some (.cells #[.int .i64 a0_0, (.slice A0_1 l0_1.length c0_1), (.slice A0_2 l0_2.length c0_2), (.slice A0_3 l0_3.length c0_3), (.slice A0_4 l0_4.length c0_4), (.slice A0_5 l0_5.length c0_5)] 30 (0, 0))) ∧ Aside0 (Below w.heap.size w w'))
       case atStart => exact ⟨(x3_1), (0), zq187, H', ⟨Nat.le_refl _⟩, ⟨zq177⟩, ⟨zq125⟩, ⟨zq96⟩⟩
       case round =>
        clear H'
        try clear c1
        try clear c2
        try clear p2
        try clear p3
        try clear q3
        try clear hx3
        try clear p6
        try clear c8
        try clear c8b0
        try clear c9
        try clear c9b0
        try clear c10
        try clear b11_0
        try clear b11_1
        try clear b11_2
        try clear b11_3
        try clear b11_4
        try clear b11_5
        try clear b13_0
        try clear b13_1
        try clear b13_2
        try clear b13_3
        try clear b13_4
        try clear b13_5
        try clear b6_0
        try clear b6_1
        try clear b6_2
        try clear b6_3
        try clear b6_4
        try clear b6_5
        try clear d11_0
        try clear d11_1
        try clear d11_2
        try clear d11_3
        try clear d11_4
        try clear d11_5
        try clear d13_0
        try clear d13_1
        try clear d13_2
        try clear d13_3
        try clear d13_4
        try clear d13_5
        try clear d6_0
        try clear d6_1
        try clear d6_2
        try clear d6_3
        try clear d6_4
        try clear d6_5
        try clear hx336_0
        try clear hx336_1
        try clear hx336_2
        try clear p2
        try clear p336
        try clear q336
        obtain ⟨x3_2, x5_2, rfl, HA, HK2, HO_3, BK329, HB⟩ := hrel
        cases gk with
        | zero => exact absurd HA.out (by simp [r3_Defined.l1])
        | succ k2 =>
         have H := HA.out
         clear HA
         simp only [r3_Defined.l1] at H
         by_cases c14 : x5_2 < (l0_3.length : Int)
         · rw [if_pos c14] at H
           have c14b0 : decide (x5_2 < (l0_3.length : Int)) = true := decide_eq_true c14
           clear c14
           by_cases c15 : 0 ≤ x5_2
           · rw [if_pos c15] at H
             have c15b0 : decide (0 ≤ x5_2) = true := decide_eq_true c15
             clear c15
             by_cases c16 : x3_2.length < 17592186044416
             · rw [if_pos c16] at H
               have LMc16 := Aside0.mk c16
               clear c16
               obtain ⟨y341, hy341⟩ : ∃ y_ : List Int, y_ = (x3_2 ++ [(rd_T56 l0_3 x5_2).f0]) := ⟨_, rfl⟩
               replace H : (r3_Defined.l1 k2 y341 (wrap64 (x5_2 + 1)) a0_0 l0_1 l0_2 l0_3 l0_4 l0_5) = some r := by first | (rw [hy341]; with_reducible exact H) | (have H2_ := (Option.bind_some _ _).symm.trans H; rw [hy341]; with_reducible exact H2_) | (have H2_ := (Option.bind_some _ _).symm.trans H; with_reducible exact H2_) | with_reducible exact H | (rw [hy341]; exact H) | exact H
               have Ny341 := Aside0.mk hy341
               clear hy341
               have H' := Aside0.mk H
               clear H
               obtain ⟨b17_0, b17_1, b17_2, b17_3, b17_4, b17_5, d17_0, d17_1, d17_2, d17_3, d17_4, d17_5⟩ := bk6 BK329.out
               have p340 : 0 ≤ (x5_2 : Int) := of_decide_eq_true zq186
               have q340 : x5_2 < (l0_3.length : Int) := of_decide_eq_true zq186
               obtain ⟨ad340, e340, hx340_0, hx340_1, hx340_2⟩ := at_T56 HR0_3.out x5_2 p340 q340
               cases e340
               replace hx340_0 := (HB.out.cell (World.block_lt_of_cell? w _ hx340_0)).trans hx340_0
               replace hx340_1 := (HB.out.cell (World.block_lt_of_cell? w _ hx340_1)).trans hx340_1
               replace hx340_2 := (HB.out.cell (World.block_lt_of_cell? w _ hx340_2)).trans hx340_2
               replace p340 := eq_true p340
               replace q340 := eq_true q340
               go_wp2_with (first | ((with_reducible refine gate_builtin (b := .append) (xs := #[.tmp 33, .tmp 40]) rfl ?_); at_builtin; refine Kd.R_append (Kd.int .i64) (w0 := w) w.heap.size rfl (.tmp 33) (.tmp 40) 24 3 (.int .i64 0) 8 rfl Try.underlying24 info3 rfl (by decide) (by omega) u3 x3_2 ((rd_T56 l0_3 x5_2).f0) [.int .i64 ((rd_T56 l0_3 x5_2).f0)] (fun _ => True) (fun _ => False) rfl rfl ?aP (fun _ hk => hk.elim) ?aF ?aO ?aB ?aS ?aL ?_; (case aP => exact rfl); (case aB => exact zq73); (case aF => exact (fun _ _ => trivial)); (case aO => exact zq140); (case aS => exact zq71); (case aL => have := LMc16.out; omega); intro v342 w18 ho hb hg hat; rw [← Ny341.out] at ho; have n0_ := Aside0.mk (blk_grown (g := gb329) (o := .cells #[.int .i64 a0_0, .slice A0_1 l0_1.length c0_1, .slice A0_2 l0_2.length c0_2, .slice (some ad340) l0_3.length c0_3, .slice A0_4 l0_4.length c0_4, .slice A0_5 l0_5.length c0_5] 30 (0, 0)) zq125 hg (Kd.R_ne HO_3.out BK329.out (by decide))); have n1_ := Aside0.mk (hb); have n2_ := Aside0.mk (ho); clear BK329; clear HB; clear HO_3; have BK329 := n0_; have HB := n1_; have HO343 := n2_; clear n0_ n1_ n2_; clear ho hb hg hat))
               go_roundg k2
               case measure => have := HK1.out; have := HK2.out; omega
               case rel => exact ⟨(y341), (wrap64 (x5_2 + 1)), zq187, H', ⟨by have := HK1.out; have := HK2.out; omega⟩, ⟨by (with_reducible repeat (first | apply Kd.R_alloc | apply Kd.R_drewN | apply Kd.R_drew)); exact HO343.out⟩, ⟨zq125⟩, ⟨zq96⟩⟩
             · rw [if_neg c16] at H
               exact absurd H (by simp)
           · rw [if_neg c15] at H
             exact absurd H (by simp)
         · rw [if_neg c14] at H
           have c14b0 : decide (x5_2 < (l0_3.length : Int)) = false := decide_eq_false c14
           clear c14
           obtain rfl := Option.some.inj H
           obtain ⟨b19_0, b19_1, b19_2, b19_3, b19_4, b19_5, d19_0, d19_1, d19_2, d19_3, d19_4, d19_5⟩ := bk6 BK329.out
           go_wp2
           go_ret
           exact ⟨_, zq181, zq177, zq96⟩
 · rw [if_neg c2] at H
   exact absurd H (by simp)
mutual
def r3_Used.l0 : Nat → List Int → Int → Int → List Int → List (S56) → List (S56) → List Int → List Int → Option (List Int)
 | 0, _, _, _, _, _, _, _, _ => none
 | k + 1, x3, x4, x345000, x345001, x345002, x345003, x345004, x345005 => if x4 < (x345002.length : Int) then (if 0 ≤ x4 then (if x3.length < 17592186044416 then (r3_Used.l0 k (x3 ++ [(rd_T56 x345002 x4).f1]) (wrap64 (x4 + 1)) x345000 x345001 x345002 x345003 x345004 x345005) else (none)) else (none)) else (r3_Used.l1 k x3 0 x345000 x345001 x345002 x345003 x345004 x345005)
def r3_Used.l1 : Nat → List Int → Int → Int → List Int → List (S56) → List (S56) → List Int → List Int → Option (List Int)
 | 0, _, _, _, _, _, _, _, _ => none
 | k + 1, x3, x5, x345000, x345001, x345002, x345003, x345004, x345005 => if x5 < (x345003.length : Int) then (if 0 ≤ x5 then ((some (([(rd_T56 x345003 x5).f1, (rd_T56 x345003 x5).f2] : List Int) : List Int)).bind fun y360 => (if x3.length + y360.length < 17592186044416 then (r3_Used.l1 k (x3 ++ y360) (wrap64 (x5 + 1)) x345000 x345001 x345002 x345003 x345004 x345005) else (none))) else (none)) else (some x3)
end
def r3_Used.f (k : Nat) (a0_0 : Int) (l0_1 : List Int) (l0_2 : List (S56)) (l0_3 : List (S56)) (l0_4 : List Int) (l0_5 : List Int) : Option (List Int) := (some (([] : List Int) : List Int)).bind fun y345 => (if y345.length + l0_4.length < 17592186044416 then ((some (y345 ++ l0_4 : List Int)).bind fun y348 => (if y348.length + l0_5.length < 17592186044416 then (r3_Used.l0 k (y348 ++ l0_5) 0 a0_0 l0_1 l0_2 l0_3 l0_4 l0_5) else (none))) else (none))
def r3_Used.T10 : Bool × List (List Nat × List Nat) := (true, [([], []), ([], []), ([1], [1]), ([], []), ([2, 3], [2, 3]), ([4], [4]), ([5], [5]), ([], []), ([7], [7]), ([], []), ([8, 9], [8, 9]), ([10], [10]), ([11], [11]), ([6, 12], [6, 12]), ([0, 13], [0, 13]), ([14, 14, 0, 1, 2, 3, 4, 5, 6, 7, 8, 9, 10, 11, 12, 13, 14], [0, 14])])
def r3_Used.B10 : List Nat := [0, 0, 2, 0, 14, 30, 62, 0, 128, 0, 896, 1920, 3968, 8190, 16383, 32767]
theorem r3_Used.tab10 : rtab .any (opsOf Try.f49 10) = r3_Used.T10 := by kernel_rfl
theorem r3_Used.bits10 : waitsOk r3_Used.T10.2 r3_Used.B10 = true := by kernel_rfl
set_option maxHeartbeats 8000000 in
set_option maxRecDepth 100000 in
theorem r3_Used.calls (k : Nat) (a0_0 : Int) (A0_1 : Option Addr) (c0_1 : Nat) (l0_1 : List Int) (A0_2 : Option Addr) (c0_2 : Nat) (l0_2 : List (S56)) (A0_3 : Option Addr) (c0_3 : Nat) (l0_3 : List (S56)) (A0_4 : Option Addr) (c0_4 : Nat) (l0_4 : List Int) (A0_5 : Option Addr) (c0_5 : Nat) (l0_5 : List Int) (r : List Int) (w : World) (hr0_1 : Kd.C (Kd.int .i64) w A0_1 l0_1.length l0_1) (hc0_1 : l0_1.length ≤ c0_1) (hr0_2 : Kd.C k56 w A0_2 l0_2.length l0_2) (hc0_2 : l0_2.length ≤ c0_2) (hr0_3 : Kd.C k56 w A0_3 l0_3.length l0_3) (hc0_3 : l0_3.length ≤ c0_3) (hr0_4 : Kd.C (Kd.int .i64) w A0_4 l0_4.length l0_4) (hc0_4 : l0_4.length ≤ c0_4) (hr0_5 : Kd.C (Kd.int .i64) w A0_5 l0_5.length l0_5) (hc0_5 : l0_5.length ≤ c0_5) (h : r3_Used.f k a0_0 l0_1 l0_2 l0_3 l0_4 l0_5 = some r) :
 Calls Try.prog 49 #[.agg #[.int .i64 a0_0, .slice A0_1 l0_1.length c0_1, .slice A0_2 l0_2.length c0_2, .slice A0_3 l0_3.length c0_3, .slice A0_4 l0_4.length c0_4, .slice A0_5 l0_5.length c0_5]] w fun e w' => ∃ v0_ : Value, e = .returned (v0_) ∧ Kd.R (Kd.int .i64) 3 w' w.heap.size (fun _ => True) v0_ r ∧ Below w.heap.size w w' := by
 have hu30 := Try.underlying30
 have HR0_1 := Aside0.mk hr0_1
 have HC0_1 := Aside0.mk hc0_1
 clear hr0_1 hc0_1
 have HR0_2 := Aside0.mk hr0_2
 have HC0_2 := Aside0.mk hc0_2
 clear hr0_2 hc0_2
 have HR0_3 := Aside0.mk hr0_3
 have HC0_3 := Aside0.mk hc0_3
 clear hr0_3 hc0_3
 have HR0_4 := Aside0.mk hr0_4
 have HC0_4 := Aside0.mk hc0_4
 clear hr0_4 hc0_4
 have HR0_5 := Aside0.mk hr0_5
 have HC0_5 := Aside0.mk hc0_5
 clear hr0_5 hc0_5
 have HB := Aside0.mk (Below.refl w.heap.size w)
 have H : ((some (([] : List Int) : List Int)).bind fun y345 => (if y345.length + l0_4.length < 17592186044416 then ((some (y345 ++ l0_4 : List Int)).bind fun y348 => (if y348.length + l0_5.length < 17592186044416 then (r3_Used.l0 k (y348 ++ l0_5) 0 a0_0 l0_1 l0_2 l0_3 l0_4 l0_5) else (none))) else (none))) = some r := h
 clear h
 obtain ⟨y345, hy345⟩ : ∃ y_ : List Int, y_ = (([] : List Int)) := ⟨_, rfl⟩
 replace H : (if y345.length + l0_4.length < 17592186044416 then ((some (y345 ++ l0_4 : List Int)).bind fun y348 => (if y348.length + l0_5.length < 17592186044416 then (r3_Used.l0 k (y348 ++ l0_5) 0 a0_0 l0_1 l0_2 l0_3 l0_4 l0_5) else (none))) else (none)) = some r := by first | (rw [hy345]; with_reducible exact H) | (have H2_ := (Option.bind_some _ _).symm.trans H; rw [hy345]; with_reducible exact H2_) | (have H2_ := (Option.bind_some _ _).symm.trans H; with_reducible exact H2_) | with_reducible exact H | (rw [hy345]; exact H) | exact H
 have Ny345 := Aside0.mk hy345
 clear hy345
 by_cases c2 : y345.length + l0_4.length < 17592186044416
 · rw [if_pos c2] at H
   have LMc2 := Aside0.mk c2
   clear c2
   obtain ⟨y348, hy348⟩ : ∃ y_ : List Int, y_ = (y345 ++ l0_4) := ⟨_, rfl⟩
   replace H : (if y348.length + l0_5.length < 17592186044416 then (r3_Used.l0 k (y348 ++ l0_5) 0 a0_0 l0_1 l0_2 l0_3 l0_4 l0_5) else (none)) = some r := by first | (rw [hy348]; with_reducible exact H) | (have H2_ := (Option.bind_some _ _).symm.trans H; rw [hy348]; with_reducible exact H2_) | (have H2_ := (Option.bind_some _ _).symm.trans H; with_reducible exact H2_) | with_reducible exact H | (rw [hy348]; exact H) | exact H
   have Ny348 := Aside0.mk hy348
   clear hy348
   by_cases c3 : y348.length + l0_5.length < 17592186044416
   · rw [if_pos c3] at H
     have LMc3 := Aside0.mk c3
     clear c3
     obtain ⟨y351, hy351⟩ : ∃ y_ : List Int, y_ = (y348 ++ l0_5) := ⟨_, rfl⟩
     replace H : (r3_Used.l0 k y351 0 a0_0 l0_1 l0_2 l0_3 l0_4 l0_5) = some r := by first | (rw [hy351]; with_reducible exact H) | (have H2_ := (Option.bind_some _ _).symm.trans H; rw [hy351]; with_reducible exact H2_) | (have H2_ := (Option.bind_some _ _).symm.trans H; with_reducible exact H2_) | with_reducible exact H | (rw [hy351]; exact H) | exact H
     have Ny351 := Aside0.mk hy351
     clear hy351
     have H' := Aside0.mk H
     clear H
     go_enter Try.func49, Try.ntmps49
     go_wp2_with (first | ((with_reducible refine gate_dst (N := 1) rfl ?_); refine box_event ?hg (N := 1) ?hd (cs := #[.int .i64 a0_0, .slice A0_1 l0_1.length c0_1, .slice A0_2 l0_2.length c0_2, .slice A0_3 l0_3.length c0_3, .slice A0_4 l0_4.length c0_4, .slice A0_5 l0_5.length c0_5]) (t := 30) ?hr ?_; (case hd => rfl); (case hg => rfl); (case hr => first | (go_simp; done) | (go_simp; rfl)); intro gb344 hg w4 hbox hb; have n0_ := Aside0.mk (below_step zq109 hb); have n1_ := Aside0.mk (hbox); have n2_ := Aside0.mk ((zq89 : w.heap.size ≤ gb344)); have n3_ := Aside0.mk ((zq89 : w.heap.size ≤ gb344)); clear HB; have HB := n0_; have BK344 := n1_; have GW344 := n2_; have GE344 := n3_; clear n0_ n1_ n2_ n3_; clear hb hbox hg) | ((with_reducible refine gate_dst (N := 6) rfl ?_); refine Kd.R_lit (Kd.int .i64) _ 3 ?hg (N := 6) ?hd (xs := ([] : List Int)) (inner := []) (ok := fun _ => True) (okp := fun _ => True) ?hr ?hp (fun _ hk => hk) trivial (Below.refl _ _) (Nat.le_refl _) (by simp) ?_; (case hd => rfl); (case hg => rfl); (case hr => first | (go_simp; done) | (go_simp; rfl)); (case hp => exact (Reps.none _ _)); intro v346 w5 ho6 hb hg_ hnew_; clear hg_ hnew_; (first | rw [← Ny345.out] at ho6 | (simp only [Int.reduceToNat] at ho6; rw [← Ny345.out] at ho6)); have n0_ := Aside0.mk (Kd.R_lower ho6 (below_size zq97)); have n1_ := Aside0.mk (blk_below (g := gb344) (o := .cells #[.int .i64 a0_0, .slice A0_1 l0_1.length c0_1, .slice A0_2 l0_2.length c0_2, .slice A0_3 l0_3.length c0_3, .slice A0_4 l0_4.length c0_4, .slice A0_5 l0_5.length c0_5] 30 (0, 0)) zq126 hb); have n2_ := Aside0.mk (below_step zq97 hb); clear BK344; clear HB; have HO347 := n0_; have BK344 := n1_; have HB := n2_; clear n0_ n1_ n2_; clear hb ho6; obtain ⟨b7_0, b7_1, b7_2, b7_3, b7_4, b7_5, d7_0, d7_1, d7_2, d7_3, d7_4, d7_5⟩ := bk6 BK344.out) | ((with_reducible refine gate_builtin (b := .append) (xs := #[.tmp 6, .tmp 8]) rfl ?_); at_builtin; refine Kd.R_append_rows (Kd.int .i64) (w0 := w) w.heap.size rfl (.tmp 6) (.tmp 8) 24 3 (.int .i64 0) 8 rfl Try.underlying24 info3 rfl (by decide) (by omega) v346 y345 l0_4 _ _ _ (fun _ => True) (fun _ => False) rfl rfl ?aO ?aR (fun _ _ h => h) (fun _ h => h.elim) ?aF ?aB ?aS ?aL ?_; (case aR => exact zq78); (case aB => exact zq74); (case aF => exact (fun _ _ => trivial)); (case aO => exact (by (with_reducible repeat (first | apply Kd.R_alloc | apply Kd.R_drewN | apply Kd.R_drew)); exact HO347.out)); (case aS => exact zq72); (case aL => have := LMc2.out; omega); intro v349 w8 ho hb hg hat; rw [← Ny348.out] at ho; have n0_ := Aside0.mk (blk_grown (g := gb344) (o := .cells #[.int .i64 a0_0, .slice A0_1 l0_1.length c0_1, .slice A0_2 l0_2.length c0_2, .slice A0_3 l0_3.length c0_3, .slice A0_4 l0_4.length c0_4, .slice A0_5 l0_5.length c0_5] 30 (0, 0)) zq126 hg (Kd.R_ne HO347.out BK344.out (by decide))); have n1_ := Aside0.mk (hb); have n2_ := Aside0.mk (ho); clear BK344; clear HB; clear HO347; have BK344 := n0_; have HB := n1_; have HO350 := n2_; clear n0_ n1_ n2_; clear ho hb hg hat; obtain ⟨b9_0, b9_1, b9_2, b9_3, b9_4, b9_5, d9_0, d9_1, d9_2, d9_3, d9_4, d9_5⟩ := bk6 BK344.out) | ((with_reducible refine gate_builtin (b := .append) (xs := #[.tmp 10, .tmp 12]) rfl ?_); at_builtin; refine Kd.R_append_rows (Kd.int .i64) (w0 := w) w.heap.size rfl (.tmp 10) (.tmp 12) 24 3 (.int .i64 0) 8 rfl Try.underlying24 info3 rfl (by decide) (by omega) v349 y348 l0_5 _ _ _ (fun _ => True) (fun _ => False) rfl rfl ?aO ?aR (fun _ _ h => h) (fun _ h => h.elim) ?aF ?aB ?aS ?aL ?_; (case aR => exact zq79); (case aB => exact zq74); (case aF => exact (fun _ _ => trivial)); (case aO => exact (by (with_reducible repeat (first | apply Kd.R_alloc | apply Kd.R_drewN | apply Kd.R_drew)); exact HO350.out)); (case aS => exact zq72); (case aL => have := LMc3.out; omega); intro v352 w10 ho hb hg hat; rw [← Ny351.out] at ho; have n0_ := Aside0.mk (blk_grown (g := gb344) (o := .cells #[.int .i64 a0_0, .slice A0_1 l0_1.length c0_1, .slice A0_2 l0_2.length c0_2, .slice A0_3 l0_3.length c0_3, .slice A0_4 l0_4.length c0_4, .slice A0_5 l0_5.length c0_5] 30 (0, 0)) zq126 hg (Kd.R_ne HO350.out BK344.out (by decide))); have n1_ := Aside0.mk (hb); have n2_ := Aside0.mk (ho); clear BK344; clear HB; clear HO350; have BK344 := n0_; have HB := n1_; have HO353 := n2_; clear n0_ n1_ n2_; clear ho hb hg hat))
     go_loopg [3, 4] k (fun kq v3 v4 w' => ∃ (x3_1 : List Int) (x4_1 : Int), v4 = .int .i64 x4_1 ∧ Aside0 (r3_Used.l0 kq x3_1 x4_1 a0_0 l0_1 l0_2 l0_3 l0_4 l0_5 = some r) ∧ Aside0 (kq ≤ k) ∧ Aside0 (Kd.R (Kd.int .i64) 3 w' w.heap.size (fun _ => True) v3 x3_1) ∧ Aside0 (w'.heap[gb344]? = some (.cells #[.int .i64 a0_0, (.slice A0_1 l0_1.length c0_1), (.slice A0_2 l0_2.length c0_2), (.slice A0_3 l0_3.length c0_3), (.slice A0_4 l0_4.length c0_4), (.slice A0_5 l0_5.length c0_5)] 30 (0, 0))) ∧ Aside0 (Below w.heap.size w w'))
     case atStart => exact ⟨(y351), (0), zq187, H', ⟨Nat.le_refl _⟩, ⟨by (with_reducible repeat (first | apply Kd.R_alloc | apply Kd.R_drewN | apply Kd.R_drew)); exact HO353.out⟩, ⟨zq126⟩, ⟨zq97⟩⟩
     case round =>
      clear H'
      try clear c2
      try clear p2
      try clear c3
      try clear c4
      try clear b7_0
      try clear b7_1
      try clear b7_2
      try clear b7_3
      try clear b7_4
      try clear b7_5
      try clear b9_0
      try clear b9_1
      try clear b9_2
      try clear b9_3
      try clear b9_4
      try clear b9_5
      try clear d7_0
      try clear d7_1
      try clear d7_2
      try clear d7_3
      try clear d7_4
      try clear d7_5
      try clear d9_0
      try clear d9_1
      try clear d9_2
      try clear d9_3
      try clear d9_4
      try clear d9_5
      obtain ⟨x3_1, x4_1, rfl, HA, HK1, HO_3, BK344, HB⟩ := hrel
      cases gk with
      | zero => exact absurd HA.out (by simp [r3_Used.l0])
      | succ k1 =>
       have H := HA.out
       clear HA
       simp only [r3_Used.l0] at H
       by_cases c11 : x4_1 < (l0_2.length : Int)
       · rw [if_pos c11] at H
         have c11b0 : decide (x4_1 < (l0_2.length : Int)) = true := decide_eq_true c11
         clear c11
         by_cases c12 : 0 ≤ x4_1
         · rw [if_pos c12] at H
           have c12b0 : decide (0 ≤ x4_1) = true := decide_eq_true c12
           clear c12
           by_cases c13 : x3_1.length < 17592186044416
           · rw [if_pos c13] at H
             have LMc13 := Aside0.mk c13
             clear c13
             obtain ⟨y355, hy355⟩ : ∃ y_ : List Int, y_ = (x3_1 ++ [(rd_T56 l0_2 x4_1).f1]) := ⟨_, rfl⟩
             replace H : (r3_Used.l0 k1 y355 (wrap64 (x4_1 + 1)) a0_0 l0_1 l0_2 l0_3 l0_4 l0_5) = some r := by first | (rw [hy355]; with_reducible exact H) | (have H2_ := (Option.bind_some _ _).symm.trans H; rw [hy355]; with_reducible exact H2_) | (have H2_ := (Option.bind_some _ _).symm.trans H; with_reducible exact H2_) | with_reducible exact H | (rw [hy355]; exact H) | exact H
             have Ny355 := Aside0.mk hy355
             clear hy355
             have H' := Aside0.mk H
             clear H
             obtain ⟨b14_0, b14_1, b14_2, b14_3, b14_4, b14_5, d14_0, d14_1, d14_2, d14_3, d14_4, d14_5⟩ := bk6 BK344.out
             have p354 : 0 ≤ (x4_1 : Int) := of_decide_eq_true zq186
             have q354 : x4_1 < (l0_2.length : Int) := of_decide_eq_true zq186
             obtain ⟨ad354, e354, hx354_0, hx354_1, hx354_2⟩ := at_T56 HR0_2.out x4_1 p354 q354
             cases e354
             replace hx354_0 := (HB.out.cell (World.block_lt_of_cell? w _ hx354_0)).trans hx354_0
             replace hx354_1 := (HB.out.cell (World.block_lt_of_cell? w _ hx354_1)).trans hx354_1
             replace hx354_2 := (HB.out.cell (World.block_lt_of_cell? w _ hx354_2)).trans hx354_2
             replace p354 := eq_true p354
             replace q354 := eq_true q354
             go_wp2_with (first | ((with_reducible refine gate_builtin (b := .append) (xs := #[.tmp 21, .tmp 28]) rfl ?_); at_builtin; refine Kd.R_append (Kd.int .i64) (w0 := w) w.heap.size rfl (.tmp 21) (.tmp 28) 24 3 (.int .i64 0) 8 rfl Try.underlying24 info3 rfl (by decide) (by omega) u3 x3_1 ((rd_T56 l0_2 x4_1).f1) [.int .i64 ((rd_T56 l0_2 x4_1).f1)] (fun _ => True) (fun _ => False) rfl rfl ?aP (fun _ hk => hk.elim) ?aF ?aO ?aB ?aS ?aL ?_; (case aP => exact rfl); (case aB => exact zq74); (case aF => exact (fun _ _ => trivial)); (case aO => exact zq140); (case aS => exact zq72); (case aL => have := LMc13.out; omega); intro v356 w15 ho hb hg hat; rw [← Ny355.out] at ho; have n0_ := Aside0.mk (blk_grown (g := gb344) (o := .cells #[.int .i64 a0_0, .slice A0_1 l0_1.length c0_1, .slice (some ad354) l0_2.length c0_2, .slice A0_3 l0_3.length c0_3, .slice A0_4 l0_4.length c0_4, .slice A0_5 l0_5.length c0_5] 30 (0, 0)) zq126 hg (Kd.R_ne HO_3.out BK344.out (by decide))); have n1_ := Aside0.mk (hb); have n2_ := Aside0.mk (ho); clear BK344; clear HB; clear HO_3; have BK344 := n0_; have HB := n1_; have HO357 := n2_; clear n0_ n1_ n2_; clear ho hb hg hat))
             go_roundg k1
             case measure => have := HK1.out; omega
             case rel => exact ⟨(y355), (wrap64 (x4_1 + 1)), zq187, H', ⟨by have := HK1.out; omega⟩, ⟨by (with_reducible repeat (first | apply Kd.R_alloc | apply Kd.R_drewN | apply Kd.R_drew)); exact HO357.out⟩, ⟨zq126⟩, ⟨zq97⟩⟩
           · rw [if_neg c13] at H
             exact absurd H (by simp)
         · rw [if_neg c12] at H
           exact absurd H (by simp)
       · rw [if_neg c11] at H
         have c11b0 : decide (x4_1 < (l0_2.length : Int)) = false := decide_eq_false c11
         clear c11
         have H' := Aside0.mk H
         clear H
         obtain ⟨b16_0, b16_1, b16_2, b16_3, b16_4, b16_5, d16_0, d16_1, d16_2, d16_3, d16_4, d16_5⟩ := bk6 BK344.out
         go_wp2
         go_loopg [3, 5] k1 (fun kq v3 v5 w' => ∃ (x3_2 : List Int) (x5_2 : Int), v5 = .int .i64 x5_2 ∧ Aside0 (r3_Used.l1 kq x3_2 x5_2 a0_0 l0_1 l0_2 l0_3 l0_4 l0_5 = some r) ∧ Aside0 (kq ≤ k1) ∧ Aside0 (Kd.R (Kd.int .i64) 3 w' w.heap.size (fun _ => True) v3 x3_2) ∧ Aside0 (w'.heap[gb344]? = some (.cells #[.int .i64 a0_0, (.slice A0_1 l0_1.length c0_1), (.slice A0_2 l0_2.length c0_2), (.slice A0_3 l0_3.length c0_3), (.slice A0_4 l0_4.length c0_4), (.slice A0_5 l0_5.length c0_5)] 30 (0, 0))) ∧ Aside0 (Below w.heap.size w w'))
         case atStart => exact ⟨(x3_1), (0), zq187, H', ⟨Nat.le_refl _⟩, ⟨zq177⟩, ⟨zq126⟩, ⟨zq97⟩⟩
         case round =>
          clear H'
          try clear c1
          try clear c2
          try clear p2
          try clear c3
          try clear p3
          try clear q3
          try clear hx3
          try clear c4
          try clear p6
          try clear c11
          try clear c11b0
          try clear c12
          try clear c12b0
          try clear c13
          try clear b14_0
          try clear b14_1
          try clear b14_2
          try clear b14_3
          try clear b14_4
          try clear b14_5
          try clear b16_0
          try clear b16_1
          try clear b16_2
          try clear b16_3
          try clear b16_4
          try clear b16_5
          try clear b7_0
          try clear b7_1
          try clear b7_2
          try clear b7_3
          try clear b7_4
          try clear b7_5
          try clear b9_0
          try clear b9_1
          try clear b9_2
          try clear b9_3
          try clear b9_4
          try clear b9_5
          try clear d14_0
          try clear d14_1
          try clear d14_2
          try clear d14_3
          try clear d14_4
          try clear d14_5
          try clear d16_0
          try clear d16_1
          try clear d16_2
          try clear d16_3
          try clear d16_4
          try clear d16_5
          try clear d7_0
          try clear d7_1
          try clear d7_2
          try clear d7_3
          try clear d7_4
          try clear d7_5
          try clear d9_0
          try clear d9_1
          try clear d9_2
          try clear d9_3
          try clear d9_4
          try clear d9_5
          try clear hx354_0
          try clear hx354_1
          try clear hx354_2
          try clear p2
          try clear p354
          try clear q354
          obtain ⟨x3_2, x5_2, rfl, HA, HK2, HO_3, BK344, HB⟩ := hrel
          cases gk with
          | zero => exact absurd HA.out (by simp [r3_Used.l1])
          | succ k2 =>
           have H := HA.out
           clear HA
           simp only [r3_Used.l1] at H
           by_cases c17 : x5_2 < (l0_3.length : Int)
           · rw [if_pos c17] at H
             have c17b0 : decide (x5_2 < (l0_3.length : Int)) = true := decide_eq_true c17
             clear c17
             by_cases c18 : 0 ≤ x5_2
             · rw [if_pos c18] at H
               have c18b0 : decide (0 ≤ x5_2) = true := decide_eq_true c18
               clear c18
               obtain ⟨y360, hy360⟩ : ∃ y_ : List Int, y_ = (([(rd_T56 l0_3 x5_2).f1, (rd_T56 l0_3 x5_2).f2] : List Int)) := ⟨_, rfl⟩
               replace H : (if x3_2.length + y360.length < 17592186044416 then (r3_Used.l1 k2 (x3_2 ++ y360) (wrap64 (x5_2 + 1)) a0_0 l0_1 l0_2 l0_3 l0_4 l0_5) else (none)) = some r := by first | (rw [hy360]; with_reducible exact H) | (have H2_ := (Option.bind_some _ _).symm.trans H; rw [hy360]; with_reducible exact H2_) | (have H2_ := (Option.bind_some _ _).symm.trans H; with_reducible exact H2_) | with_reducible exact H | (rw [hy360]; exact H) | exact H
               have Ny360 := Aside0.mk hy360
               clear hy360
               by_cases c19 : x3_2.length + y360.length < 17592186044416
               · rw [if_pos c19] at H
                 have LMc19 := Aside0.mk c19
                 clear c19
                 obtain ⟨y363, hy363⟩ : ∃ y_ : List Int, y_ = (x3_2 ++ y360) := ⟨_, rfl⟩
                 replace H : (r3_Used.l1 k2 y363 (wrap64 (x5_2 + 1)) a0_0 l0_1 l0_2 l0_3 l0_4 l0_5) = some r := by first | (rw [hy363]; with_reducible exact H) | (have H2_ := (Option.bind_some _ _).symm.trans H; rw [hy363]; with_reducible exact H2_) | (have H2_ := (Option.bind_some _ _).symm.trans H; with_reducible exact H2_) | with_reducible exact H | (rw [hy363]; exact H) | exact H
                 have Ny363 := Aside0.mk hy363
                 clear hy363
                 have H' := Aside0.mk H
                 clear H
                 obtain ⟨b20_0, b20_1, b20_2, b20_3, b20_4, b20_5, d20_0, d20_1, d20_2, d20_3, d20_4, d20_5⟩ := bk6 BK344.out
                 try go_wp2
                 have n0_ := Aside0.mk (Kd.R_drew HO_3.out)
                 have n1_ := Aside0.mk (blk_drew BK344.out)
                 have n2_ := Aside0.mk (below_drew1 HB.out)
                 clear HO_3
                 clear BK344
                 clear HB
                 have HO_3 := n0_
                 have BK344 := n1_
                 have HB := n2_
                 clear n0_ n1_ n2_
                 have p358 : 0 ≤ (x5_2 : Int) := of_decide_eq_true zq186
                 have q358 : x5_2 < (l0_3.length : Int) := of_decide_eq_true zq186
                 obtain ⟨ad358, e358, hx358_0, hx358_1, hx358_2⟩ := at_T56 HR0_3.out x5_2 p358 q358
                 have hw358_2 := hx358_2
                 have hw358_1 := hx358_1
                 have hw358_0 := hx358_0
                 cases e358
                 replace hx358_0 := (HB.out.cell (World.block_lt_of_cell? w _ hx358_0)).trans hx358_0
                 replace hx358_1 := (HB.out.cell (World.block_lt_of_cell? w _ hx358_1)).trans hx358_1
                 replace hx358_2 := (HB.out.cell (World.block_lt_of_cell? w _ hx358_2)).trans hx358_2
                 replace p358 := eq_true p358
                 replace q358 := eq_true q358
                 have p359 : 0 ≤ (x5_2 : Int) := of_decide_eq_true zq186
                 have q359 : x5_2 < (l0_3.length : Int) := of_decide_eq_true zq186
                 obtain ⟨ad359, e359, hx359_0, hx359_1, hx359_2⟩ := at_T56 HR0_3.out x5_2 p359 q359
                 have hw359_2 := hx359_2
                 have hw359_1 := hx359_1
                 have hw359_0 := hx359_0
                 obtain rfl : ad358 = ad359 := (by injection e359)
                 replace hx359_0 := (HB.out.cell (World.block_lt_of_cell? w _ hx359_0)).trans hx359_0
                 replace hx359_1 := (HB.out.cell (World.block_lt_of_cell? w _ hx359_1)).trans hx359_1
                 replace hx359_2 := (HB.out.cell (World.block_lt_of_cell? w _ hx359_2)).trans hx359_2
                 replace p359 := eq_true p359
                 replace q359 := eq_true q359
                 refine start_ (n := 16) (S := fun w' => w'.cell? ⟨gb344, 0, none⟩ = some (.int .i64 a0_0) ∧ w'.cell? ⟨gb344, 1, none⟩ = some (.slice A0_1 l0_1.length c0_1) ∧ w'.cell? ⟨gb344, 2, none⟩ = some (.slice A0_2 l0_2.length c0_2) ∧ w'.cell? ⟨gb344, 3, none⟩ = some (.slice (some ad358) l0_3.length c0_3) ∧ w'.cell? ⟨gb344, 4, none⟩ = some (.slice A0_4 l0_4.length c0_4) ∧ w'.cell? ⟨gb344, 5, none⟩ = some (.slice A0_5 l0_5.length c0_5) ∧ w'.cell? (ad358.add ((x5_2).toNat * 3)) = some (.int .i64 ((rd_T56 l0_3 x5_2).f0)) ∧ w'.cell? ⟨(ad358.add ((x5_2).toNat * 3)).block, (ad358.add ((x5_2).toNat * 3)).off + 1, none⟩ = some (.int .i64 ((rd_T56 l0_3 x5_2).f1)) ∧ w'.cell? ⟨(ad358.add ((x5_2).toNat * 3)).block, (ad358.add ((x5_2).toNat * 3)).off + 2, none⟩ = some (.int .i64 ((rd_T56 l0_3 x5_2).f2)) ∧ w'.cell? (ad358.add ((x5_2).toNat * 3)) = some (.int .i64 ((rd_T56 l0_3 x5_2).f0)) ∧ w'.cell? ⟨(ad358.add ((x5_2).toNat * 3)).block, (ad358.add ((x5_2).toNat * 3)).off + 1, none⟩ = some (.int .i64 ((rd_T56 l0_3 x5_2).f1)) ∧ w'.cell? ⟨(ad358.add ((x5_2).toNat * 3)).block, (ad358.add ((x5_2).toNat * 3)).off + 2, none⟩ = some (.int .i64 ((rd_T56 l0_3 x5_2).f2))) (ds := []) #[nN,nN,nN,nN,nN,nN,nN,nN,nN,nN,nN,nN,nN,nN,nN,nN] (by kernel_rfl) rfl rfl ⟨(blk_cell BK344.out 0).trans rfl, (blk_cell BK344.out 1).trans rfl, (blk_cell BK344.out 2).trans rfl, (blk_cell BK344.out 3).trans rfl, (blk_cell BK344.out 4).trans rfl, (blk_cell BK344.out 5).trans rfl, ((HB.out.cell (World.block_lt_of_cell? w _ hw358_0)).trans hw358_0), ((HB.out.cell (World.block_lt_of_cell? w _ hw358_1)).trans hw358_1), ((HB.out.cell (World.block_lt_of_cell? w _ hw358_2)).trans hw358_2), ((HB.out.cell (World.block_lt_of_cell? w _ hw359_0)).trans hw359_0), ((HB.out.cell (World.block_lt_of_cell? w _ hw359_1)).trans hw359_1), ((HB.out.cell (World.block_lt_of_cell? w _ hw359_2)).trans hw359_2)⟩ (fun hHeld => ?_); refine with_tabW r3_Used.tab10 r3_Used.bits10 (fun HT_ HW_ => ?_)
                 generalize wr.drew = w21 at HO_3 BK344 HB hx358_0 hx358_1 hx358_2 hx359_0 hx359_1 hx359_2 hHeld ⊢
                 refine pz 0 37 #[yY,nN,nN,nN,nN,nN,nN,nN,nN,nN,nN,nN,nN,nN,nN,nN] (h := ?_)
                 refine pz 1 38 #[yY,yY,nN,nN,nN,nN,nN,nN,nN,nN,nN,nN,nN,nN,nN,nN] (h := ?_)
                 refine pz 3 40 #[yY,yY,nN,yY,nN,nN,nN,nN,nN,nN,nN,nN,nN,nN,nN,nN] (h := ?_)
                 refine pz 7 44 #[yY,yY,nN,yY,nN,nN,nN,yY,nN,nN,nN,nN,nN,nN,nN,nN] (h := ?_)
                 refine pz 9 46 #[yY,yY,nN,yY,nN,nN,nN,yY,nN,yY,nN,nN,nN,nN,nN,nN] (h := ?_)
                 refine take_ (i := 2) (N := some 39) (v := ?_) (a' := ?_) #[yY,yY,yY,yY,nN,nN,nN,yY,nN,yY,nN,nN,nN,nN,nN,nN] rfl rfl (take_ofW HT_.out HW_.out (by kernel_rfl)) (fun _ _ _ h => h) (Or.inl ⟨by rfl, ?_⟩) hHeld ?_ ?_
                 rotate_left
                 · rintro w' ⟨s0, s1, s2, s3, s4, s5, s6, s7, s8, s9, s10, s11⟩
                   go_simp
                   with_reducible rfl
                 rotate_left
                 · simp only [Act.put, List.setIfInBounds_toArray, List.set_cons_zero, List.set_cons_succ, i64_w, i32_w]
                   rfl
                 refine pz 4 41 #[yY,yY,yY,yY,yY,nN,nN,yY,nN,yY,nN,nN,nN,nN,nN,nN] (h := ?_)
                 refine pz 5 42 #[yY,yY,yY,yY,yY,yY,nN,yY,nN,yY,nN,nN,nN,nN,nN,nN] (h := ?_)
                 refine take_ (i := 6) (N := some 43) (v := ?_) (a' := ?_) #[yY,yY,yY,yY,yY,yY,yY,yY,nN,yY,nN,nN,nN,nN,nN,nN] rfl rfl (take_ofW HT_.out HW_.out (by kernel_rfl)) (fun _ _ _ h => h) (Or.inl ⟨by rfl, ?_⟩) hHeld ?_ ?_
                 rotate_left
                 · rintro w' ⟨s0, s1, s2, s3, s4, s5, s6, s7, s8, s9, s10, s11⟩
                   go_simp
                   with_reducible rfl
                 rotate_left
                 · simp only [Act.put, List.setIfInBounds_toArray, List.set_cons_zero, List.set_cons_succ, i64_w, i32_w]
                   rfl
                 refine take_ (i := 8) (N := some 45) (v := ?_) (a' := ?_) #[yY,yY,yY,yY,yY,yY,yY,yY,yY,yY,nN,nN,nN,nN,nN,nN] rfl rfl (take_ofW HT_.out HW_.out (by kernel_rfl)) (fun _ _ _ h => h) (Or.inl ⟨by rfl, ?_⟩) hHeld ?_ ?_
                 rotate_left
                 · rintro w' ⟨s0, s1, s2, s3, s4, s5, s6, s7, s8, s9, s10, s11⟩
                   go_simp
                   with_reducible rfl
                 rotate_left
                 · simp only [Act.put, List.setIfInBounds_toArray, List.set_cons_zero, List.set_cons_succ, i64_w, i32_w]
                   rfl
                 refine pz 10 47 #[yY,yY,yY,yY,yY,yY,yY,yY,yY,yY,yY,nN,nN,nN,nN,nN] (h := ?_)
                 refine pz 11 48 #[yY,yY,yY,yY,yY,yY,yY,yY,yY,yY,yY,yY,nN,nN,nN,nN] (h := ?_)
                 refine take_ (i := 12) (N := some 49) (v := ?_) (a' := ?_) #[yY,yY,yY,yY,yY,yY,yY,yY,yY,yY,yY,yY,yY,nN,nN,nN] rfl rfl (take_ofW HT_.out HW_.out (by kernel_rfl)) (fun _ _ _ h => h) (Or.inl ⟨by rfl, ?_⟩) hHeld ?_ ?_
                 rotate_left
                 · rintro w' ⟨s0, s1, s2, s3, s4, s5, s6, s7, s8, s9, s10, s11⟩
                   go_simp
                   with_reducible rfl
                 rotate_left
                 · simp only [Act.put, List.setIfInBounds_toArray, List.set_cons_zero, List.set_cons_succ, i64_w, i32_w]
                   rfl
                 refine one_ (i := 13) (N := some 50) #[yY,yY,yY,yY,yY,yY,yY,yY,yY,yY,yY,yY,yY,yY,nN,nN] rfl rfl (one_of HT_.out (by kernel_rfl)) (by decide) (fun K hK => ?_)
                 refine Kd.R_lit_step (Kd.int .i64) _ 3 ?hg (N := 50) ?hd (xs := ([(rd_T56 l0_3 x5_2).f1, (rd_T56 l0_3 x5_2).f2] : List Int)) (inner := [.int .i64 ((rd_T56 l0_3 x5_2).f1), .int .i64 ((rd_T56 l0_3 x5_2).f2)]) (ok := fun _ => True) (okp := fun _ => True) ?hr ?hp (fun _ hk => hk) trivial (Below.refl _ _) (Nat.le_refl _) (by simp) ?_; (case hd => rfl); (case hg => rfl); (case hr => first | (go_simp; done) | (go_simp; rfl)); (case hp => exact (Reps.one (show Kd.M (Kd.int .i64) _ _ _ ((rd_T56 l0_3 x5_2).f1) [.int .i64 ((rd_T56 l0_3 x5_2).f1)] from rfl) (Reps.one (show Kd.M (Kd.int .i64) _ _ _ ((rd_T56 l0_3 x5_2).f2) [.int .i64 ((rd_T56 l0_3 x5_2).f2)] from rfl) (Reps.none _ _))))
                 intro v361 w22 ho23 hb hg_ hnew_
                 clear hg_ hnew_
                 (first | rw [← Ny360.out] at ho23 | (simp only [Int.reduceToNat] at ho23; rw [← Ny360.out] at ho23))
                 have n0_ := Aside0.mk (Kd.R_elder' zq177 (Kd.R_base ho23) hb)
                 have n1_ := Aside0.mk (Kd.R_lower (Kd.R_new' ho23 (Kd.R_lt zq177)) (below_size zq97))
                 have n2_ := Aside0.mk (blk_below (g := gb344) (o := .cells #[.int .i64 a0_0, .slice A0_1 l0_1.length c0_1, .slice A0_2 l0_2.length c0_2, .slice (some ad358) l0_3.length c0_3, .slice A0_4 l0_4.length c0_4, .slice A0_5 l0_5.length c0_5] 30 (0, 0)) zq126 hb)
                 have n3_ := Aside0.mk (below_step zq97 hb)
                 clear HO_3
                 clear BK344
                 clear HB
                 have HO_3 := n0_
                 have HO362 := n1_
                 have BK344 := n2_
                 have HB := n3_
                 clear n0_ n1_ n2_ n3_
                 clear hb ho23
                 obtain ⟨Ao25, co25, eo25⟩ := Kd.R_slice HO362.out
                 (first | subst eo25 | (injection eo25 with f1_ f2_ f3_; have f4_ := f1_.symm; have f5_ := f3_.symm; clear f1_ f2_ f3_; subst f4_; subst f5_))
                 refine hK.out _ _ ⟨(blk_cell BK344.out 0).trans rfl, (blk_cell BK344.out 1).trans rfl, (blk_cell BK344.out 2).trans rfl, (blk_cell BK344.out 3).trans rfl, (blk_cell BK344.out 4).trans rfl, (blk_cell BK344.out 5).trans rfl, ((HB.out.cell (World.block_lt_of_cell? w _ hw358_0)).trans hw358_0), ((HB.out.cell (World.block_lt_of_cell? w _ hw358_1)).trans hw358_1), ((HB.out.cell (World.block_lt_of_cell? w _ hw358_2)).trans hw358_2), ((HB.out.cell (World.block_lt_of_cell? w _ hw359_0)).trans hw359_0), ((HB.out.cell (World.block_lt_of_cell? w _ hw359_1)).trans hw359_1), ((HB.out.cell (World.block_lt_of_cell? w _ hw359_2)).trans hw359_2)⟩ (fun hHeld => ?_)
                 clear hK K
                 refine norm_ (a' := ?_) ?_ ?_
                 rotate_left
                 · show Act.put _ (some 50) _ = _
                   simp only [Act.put, List.setIfInBounds_toArray, List.set_cons_zero, List.set_cons_succ, i64_w, i32_w]
                   rfl
                 refine one_ (i := 14) (N := some 51) #[yY,yY,yY,yY,yY,yY,yY,yY,yY,yY,yY,yY,yY,yY,yY,nN] rfl rfl (one_of HT_.out (by kernel_rfl)) (by decide) (fun K hK => ?_)
                 refine Kd.R_append_rows_step (Kd.int .i64) (w0 := w) w.heap.size (by rfl) (.tmp 37) (.tmp 50) 24 3 (.int .i64 0) 8 rfl Try.underlying24 info3 rfl (by decide) (by omega) u3 x3_2 y360 _ _ _ (fun k_ => some k_ ≠ (.slice Ao25 y360.length co25 : Value).ownBlock) (fun _ => False) rfl rfl ?aO ?aR (fun _ _ h => h) (fun _ h => h.elim) ?aF ?aB ?aS ?aL ?_
                 (case aR => repeat (first | exact (Kd.R_reads' HO362.out).2.2 | (with_reducible refine Kd.C_alloc ?_ _) | (with_reducible refine Kd.C_drewN ?_ _) | (with_reducible refine Kd.C_drew ?_)))
                 (case aB => exact zq74)
                 (case aF => exact (fun k_ hk => Kd.fresh' (Kd.R_lt zq155) k_ hk))
                 (case aO => exact zq105)
                 (case aS => exact zq72)
                 (case aL => have := LMc19.out; omega)
                 intro v364 w24 ho hb hg hat
                 rw [← Ny363.out] at ho
                 have n0_ := Aside0.mk (blk_grown (g := gb344) (o := .cells #[.int .i64 a0_0, .slice A0_1 l0_1.length c0_1, .slice A0_2 l0_2.length c0_2, .slice (some ad358) l0_3.length c0_3, .slice A0_4 l0_4.length c0_4, .slice A0_5 l0_5.length c0_5] 30 (0, 0)) zq126 hg (Kd.R_ne HO_3.out BK344.out (by decide)))
                 have n1_ := Aside0.mk (Kd.R_after (ok := (fun _ => True)) zq155 hg hat)
                 have n2_ := Aside0.mk (hb)
                 have n3_ := Aside0.mk (ho)
                 clear BK344
                 clear HO362
                 clear HB
                 clear HO_3
                 have BK344 := n0_
                 have HO362 := n1_
                 have HB := n2_
                 have HO365 := n3_
                 clear n0_ n1_ n2_ n3_
                 clear ho hb hg hat
                 refine hK.out _ _ ⟨(blk_cell BK344.out 0).trans rfl, (blk_cell BK344.out 1).trans rfl, (blk_cell BK344.out 2).trans rfl, (blk_cell BK344.out 3).trans rfl, (blk_cell BK344.out 4).trans rfl, (blk_cell BK344.out 5).trans rfl, ((HB.out.cell (World.block_lt_of_cell? w _ hw358_0)).trans hw358_0), ((HB.out.cell (World.block_lt_of_cell? w _ hw358_1)).trans hw358_1), ((HB.out.cell (World.block_lt_of_cell? w _ hw358_2)).trans hw358_2), ((HB.out.cell (World.block_lt_of_cell? w _ hw359_0)).trans hw359_0), ((HB.out.cell (World.block_lt_of_cell? w _ hw359_1)).trans hw359_1), ((HB.out.cell (World.block_lt_of_cell? w _ hw359_2)).trans hw359_2)⟩ (fun hHeld => ?_)
                 clear hK K
                 refine norm_ (a' := ?_) ?_ ?_
                 rotate_left
                 · show Act.put _ (some 51) _ = _
                   simp only [Act.put, List.setIfInBounds_toArray, List.set_cons_zero, List.set_cons_succ, i64_w, i32_w]
                   rfl
                 refine pz 15 3 #[yY,yY,yY,yY,yY,yY,yY,yY,yY,yY,yY,yY,yY,yY,yY,yY] (h := ?_)
                 refine done_ (done_of HT_.out (by kernel_rfl)) ?_
                 try go_wp2
                 go_roundg k2
                 case measure => have := HK1.out; have := HK2.out; omega
                 case rel => exact ⟨(y363), (wrap64 (x5_2 + 1)), zq187, H', ⟨by have := HK1.out; have := HK2.out; omega⟩, ⟨by (with_reducible repeat (first | apply Kd.R_alloc | apply Kd.R_drewN | apply Kd.R_drew)); exact Kd.R_mono HO365.out (fun _ hk => trivial)⟩, ⟨zq126⟩, ⟨zq97⟩⟩
               · rw [if_neg c19] at H
                 exact absurd H (by simp)
             · rw [if_neg c18] at H
               exact absurd H (by simp)
           · rw [if_neg c17] at H
             have c17b0 : decide (x5_2 < (l0_3.length : Int)) = false := decide_eq_false c17
             clear c17
             obtain rfl := Option.some.inj H
             obtain ⟨b26_0, b26_1, b26_2, b26_3, b26_4, b26_5, d26_0, d26_1, d26_2, d26_3, d26_4, d26_5⟩ := bk6 BK344.out
             go_wp2
             go_ret
             exact ⟨_, zq181, zq177, zq97⟩
   · rw [if_neg c3] at H
     exact absurd H (by simp)
 · rw [if_neg c2] at H
   exact absurd H (by simp)
mutual
def r3_numbers.l0 : Nat → List Int → List Int → Int → Int → List Int → List (S56) → List (S56) → List Int → List Int → Option (Bool)
 | 0, _, _, _, _, _, _, _, _, _ => none
 | k + 1, x3, x4, x5, x367000, x367001, x367002, x367003, x367004, x367005 => if x5 < (x3.length : Int) then (if 0 ≤ x5 then (if (rd x3 x5) < 2 then (some false) else (if (Int.tmod (rd x3 x5) 2) = 1 then (some false) else (if (rd x3 x5) > (wrap64 ((wrap64 (2 * x367000)) + 1)) then (some false) else (r3_numbers.l0 k x3 x4 (wrap64 (x5 + 1)) x367000 x367001 x367002 x367003 x367004 x367005)))) else (none)) else (r3_numbers.l1 k x4 0 x367000 x367001 x367002 x367003 x367004 x367005)
def r3_numbers.l1 : Nat → List Int → Int → Int → List Int → List (S56) → List (S56) → List Int → List Int → Option (Bool)
 | 0, _, _, _, _, _, _, _, _ => none
 | k + 1, x4, x6, x367000, x367001, x367002, x367003, x367004, x367005 => if x6 < (x4.length : Int) then (if 0 ≤ x6 then (if (rd x4 x6) < 0 then (some false) else (if (rd x4 x6) > (wrap64 ((wrap64 (2 * x367000)) + 1)) then (some false) else (r3_numbers.l1 k x4 (wrap64 (x6 + 1)) x367000 x367001 x367002 x367003 x367004 x367005))) else (none)) else (r3_numbers.l2 k 0 x367000 x367001 x367002 x367003 x367004 x367005)
def r3_numbers.l2 : Nat → Int → Int → List Int → List (S56) → List (S56) → List Int → List Int → Option (Bool)
 | 0, _, _, _, _, _, _, _ => none
 | k + 1, x7, x367000, x367001, x367002, x367003, x367004, x367005 => if x7 < (x367002.length : Int) then (if 0 ≤ x7 then (if ((rd_T56 x367002 x7).f2) < 0 then (some false) else (if ((rd_T56 x367002 x7).f2) > 2 then (some false) else (r3_numbers.l2 k (wrap64 (x7 + 1)) x367000 x367001 x367002 x367003 x367004 x367005))) else (none)) else (some true)
end
def r3_numbers.f (k : Nat) (a0_0 : Int) (l0_1 : List Int) (l0_2 : List (S56)) (l0_3 : List (S56)) (l0_4 : List Int) (l0_5 : List Int) : Option (Bool) := (r3_Defined.f k a0_0 l0_1 l0_2 l0_3 l0_4 l0_5).bind fun t367 => ((r3_Used.f k a0_0 l0_1 l0_2 l0_3 l0_4 l0_5).bind fun t370 => (r3_numbers.l0 k t367 t370 0 a0_0 l0_1 l0_2 l0_3 l0_4 l0_5))
def r3_numbers.T5 : Bool × List (List Nat × List Nat) := (true, [([], []), ([], []), ([0, 1], [0, 1]), ([2], [2]), ([3], [3]), ([4], [4]), ([5], [5]), ([5], [5]), ([6, 7, 5], [5, 6, 7]), ([8, 5], [5, 8]), ([9, 5], [5, 9]), ([10, 5], [5, 10]), ([5, 11], [5, 11]), ([12, 5], [12]), ([13], [13]), ([13], [13]), ([14, 15, 13], [13, 14, 15]), ([16, 13], [13, 16]), ([13], [13]), ([18, 13], [13, 18]), ([19, 13], [13, 19]), ([20, 13], [13, 20]), ([17, 21, 13], [13, 17, 21]), ([13, 22], [13, 22])])
def r3_numbers.B5 : List Nat := [0, 0, 3, 7, 15, 31, 63, 63, 255, 511, 1023, 2047, 4095, 8191, 16383, 16383, 65535, 131071, 16383, 278527, 802815, 1851391, 4194303, 8388607]
theorem r3_numbers.tab5 : rtab .any (opsOf Try.f47 5) = r3_numbers.T5 := by kernel_rfl
theorem r3_numbers.bits5 : waitsOk r3_numbers.T5.2 r3_numbers.B5 = true := by kernel_rfl
def r3_numbers.T10 : Bool × List (List Nat × List Nat) := (true, [([], []), ([], []), ([0, 1], [0, 1]), ([2], [2]), ([3], [3]), ([4], [4]), ([5], [5]), ([5], [5]), ([6, 7, 5], [5, 6, 7]), ([8, 5], [5, 8]), ([5], [5]), ([10, 5], [5, 10]), ([11, 5], [5, 11]), ([12, 5], [5, 12]), ([9, 13, 5], [5, 9, 13]), ([5, 14], [5, 14])])
def r3_numbers.B10 : List Nat := [0, 0, 3, 7, 15, 31, 63, 63, 255, 511, 63, 1087, 3135, 7231, 16383, 32767]
theorem r3_numbers.tab10 : rtab .any (opsOf Try.f47 10) = r3_numbers.T10 := by kernel_rfl
theorem r3_numbers.bits10 : waitsOk r3_numbers.T10.2 r3_numbers.B10 = true := by kernel_rfl
set_option maxHeartbeats 8000000 in
set_option maxRecDepth 100000 in
theorem r3_numbers.calls (k : Nat) (a0_0 : Int) (A0_1 : Option Addr) (c0_1 : Nat) (l0_1 : List Int) (A0_2 : Option Addr) (c0_2 : Nat) (l0_2 : List (S56)) (A0_3 : Option Addr) (c0_3 : Nat) (l0_3 : List (S56)) (A0_4 : Option Addr) (c0_4 : Nat) (l0_4 : List Int) (A0_5 : Option Addr) (c0_5 : Nat) (l0_5 : List Int) (r : Bool) (w : World) (hr0_1 : Kd.C (Kd.int .i64) w A0_1 l0_1.length l0_1) (hc0_1 : l0_1.length ≤ c0_1) (hr0_2 : Kd.C k56 w A0_2 l0_2.length l0_2) (hc0_2 : l0_2.length ≤ c0_2) (hr0_3 : Kd.C k56 w A0_3 l0_3.length l0_3) (hc0_3 : l0_3.length ≤ c0_3) (hr0_4 : Kd.C (Kd.int .i64) w A0_4 l0_4.length l0_4) (hc0_4 : l0_4.length ≤ c0_4) (hr0_5 : Kd.C (Kd.int .i64) w A0_5 l0_5.length l0_5) (hc0_5 : l0_5.length ≤ c0_5) (h : r3_numbers.f k a0_0 l0_1 l0_2 l0_3 l0_4 l0_5 = some r) :
 Calls Try.prog 47 #[.agg #[.int .i64 a0_0, .slice A0_1 l0_1.length c0_1, .slice A0_2 l0_2.length c0_2, .slice A0_3 l0_3.length c0_3, .slice A0_4 l0_4.length c0_4, .slice A0_5 l0_5.length c0_5]] w fun e w' => e = .returned (.bool r) ∧ Below w.heap.size w w' := by
 have hu30 := Try.underlying30
 have HR0_1 := Aside0.mk hr0_1
 have HC0_1 := Aside0.mk hc0_1
 clear hr0_1 hc0_1
 have HR0_2 := Aside0.mk hr0_2
 have HC0_2 := Aside0.mk hc0_2
 clear hr0_2 hc0_2
 have HR0_3 := Aside0.mk hr0_3
 have HC0_3 := Aside0.mk hc0_3
 clear hr0_3 hc0_3
 have HR0_4 := Aside0.mk hr0_4
 have HC0_4 := Aside0.mk hc0_4
 clear hr0_4 hc0_4
 have HR0_5 := Aside0.mk hr0_5
 have HC0_5 := Aside0.mk hc0_5
 clear hr0_5 hc0_5
 have HB := Aside0.mk (Below.refl w.heap.size w)
 have H : ((r3_Defined.f k a0_0 l0_1 l0_2 l0_3 l0_4 l0_5).bind fun t367 => ((r3_Used.f k a0_0 l0_1 l0_2 l0_3 l0_4 l0_5).bind fun t370 => (r3_numbers.l0 k t367 t370 0 a0_0 l0_1 l0_2 l0_3 l0_4 l0_5))) = some r := h
 clear h
 replace H := Option.bind_eq_some_iff.mp H
 obtain ⟨t367, A20, H⟩ := H
 replace H : ((r3_Used.f k a0_0 l0_1 l0_2 l0_3 l0_4 l0_5).bind fun t370 => (r3_numbers.l0 k t367 t370 0 a0_0 l0_1 l0_2 l0_3 l0_4 l0_5)) = some r := H
 have A2 := Aside0.mk A20
 clear A20
 replace H := Option.bind_eq_some_iff.mp H
 obtain ⟨t370, A30, H⟩ := H
 replace H : (r3_numbers.l0 k t367 t370 0 a0_0 l0_1 l0_2 l0_3 l0_4 l0_5) = some r := H
 have A3 := Aside0.mk A30
 clear A30
 have H' := Aside0.mk H
 clear H
 go_enter Try.func47, Try.ntmps47
 try go_wp2_with (first | ((with_reducible refine gate_dst (N := 1) rfl ?_); refine box_event ?hg (N := 1) ?hd (cs := #[.int .i64 a0_0, .slice A0_1 l0_1.length c0_1, .slice A0_2 l0_2.length c0_2, .slice A0_3 l0_3.length c0_3, .slice A0_4 l0_4.length c0_4, .slice A0_5 l0_5.length c0_5]) (t := 30) ?hr ?_; (case hd => rfl); (case hg => rfl); (case hr => first | (go_simp; done) | (go_simp; rfl)); intro gb366 hg w4 hbox hb; have n0_ := Aside0.mk (below_step zq109 hb); have n1_ := Aside0.mk (hbox); have n2_ := Aside0.mk ((zq89 : w.heap.size ≤ gb366)); have n3_ := Aside0.mk ((zq89 : w.heap.size ≤ gb366)); clear HB; have HB := n0_; have BK366 := n1_; have GW366 := n2_; have GE366 := n3_; clear n0_ n1_ n2_ n3_; clear hb hbox hg))
 have n0_ := Aside0.mk (blk_drew BK366.out)
 have n1_ := Aside0.mk (below_drew1 HB.out)
 clear BK366
 clear HB
 have BK366 := n0_
 have HB := n1_
 clear n0_ n1_
 refine start_ (n := 6) (S := fun w' => w'.cell? ⟨gb366, 0, none⟩ = some (.int .i64 a0_0) ∧ w'.cell? ⟨gb366, 1, none⟩ = some (.slice A0_1 l0_1.length c0_1) ∧ w'.cell? ⟨gb366, 2, none⟩ = some (.slice A0_2 l0_2.length c0_2) ∧ w'.cell? ⟨gb366, 3, none⟩ = some (.slice A0_3 l0_3.length c0_3) ∧ w'.cell? ⟨gb366, 4, none⟩ = some (.slice A0_4 l0_4.length c0_4) ∧ w'.cell? ⟨gb366, 5, none⟩ = some (.slice A0_5 l0_5.length c0_5)) (ds := []) #[nN,nN,nN,nN,nN,nN] (by kernel_rfl) rfl rfl ⟨(blk_cell BK366.out 0).trans rfl, (blk_cell BK366.out 1).trans rfl, (blk_cell BK366.out 2).trans rfl, (blk_cell BK366.out 3).trans rfl, (blk_cell BK366.out 4).trans rfl, (blk_cell BK366.out 5).trans rfl⟩ (fun hHeld => ?_)
 generalize w4.drew = w5 at BK366 HB hHeld ⊢
 refine take_ (i := 0) (N := some 8) (v := ?_) (a' := ?_) #[yY,nN,nN,nN,nN,nN] rfl rfl (by kernel_rfl) (fun _ _ _ h => h) (Or.inl ⟨by rfl, ?_⟩) hHeld ?_ ?_
 rotate_left
 · rintro w' ⟨s0, s1, s2, s3, s4, s5⟩
   go_simp
   with_reducible rfl
 rotate_left
 · simp only [Act.put, List.setIfInBounds_toArray, List.set_cons_zero, List.set_cons_succ, i64_w, i32_w]
   rfl
 refine take_ (i := 2) (N := some 10) (v := ?_) (a' := ?_) #[yY,nN,yY,nN,nN,nN] rfl rfl (by kernel_rfl) (fun _ _ _ h => h) (Or.inl ⟨by rfl, ?_⟩) hHeld ?_ ?_
 rotate_left
 · rintro w' ⟨s0, s1, s2, s3, s4, s5⟩
   go_simp
   with_reducible rfl
 rotate_left
 · simp only [Act.put, List.setIfInBounds_toArray, List.set_cons_zero, List.set_cons_succ, i64_w, i32_w]
   rfl
 refine one_ (i := 1) (N := some 9) #[yY,yY,yY,nN,nN,nN] rfl rfl (by kernel_rfl) (by decide) (fun K hK => ?_)
 refine goes_ Try.func25 (by kernel_rfl) rfl #[.agg #[.int .i64 a0_0, .slice A0_1 l0_1.length c0_1, .slice A0_2 l0_2.length c0_2, .slice A0_3 l0_3.length c0_3, .slice A0_4 l0_4.length c0_4, .slice A0_5 l0_5.length c0_5]] (by rfl) rfl rfl zq107 ?_
 with_reducible refine (r3_Defined.calls k a0_0 _ _ l0_1 _ _ l0_2 _ _ l0_3 _ _ l0_4 _ _ l0_5 t367 _ ?side1 ?side2 ?side3 ?side4 ?side5 ?side6 ?side7 ?side8 ?side9 ?side10 A2.out).mono ?_
 (case side1 => exact zq75)
 (case side2 => exact HC0_1.out)
 (case side3 => exact zq76)
 (case side4 => exact HC0_2.out)
 (case side5 => exact zq77)
 (case side6 => exact HC0_3.out)
 (case side7 => exact zq78)
 (case side8 => exact HC0_4.out)
 (case side9 => exact zq79)
 (case side10 => exact HC0_5.out)
 rintro e w6 ⟨v368, rfl, ho0, hb⟩
 refine ⟨_, rfl, ?_⟩
 have n0_ := Aside0.mk (Kd.R_lower ho0 (below_size zq98))
 have n1_ := Aside0.mk (blk_below (g := gb366) (o := .cells #[.int .i64 a0_0, .slice A0_1 l0_1.length c0_1, .slice A0_2 l0_2.length c0_2, .slice A0_3 l0_3.length c0_3, .slice A0_4 l0_4.length c0_4, .slice A0_5 l0_5.length c0_5] 30 (0, 0)) zq127 hb)
 have n2_ := Aside0.mk (below_step zq98 hb)
 clear BK366
 clear HB
 have HO369 := n0_
 have BK366 := n1_
 have HB := n2_
 clear n0_ n1_ n2_
 (try clear hb)
 (try clear hb2)
 (try clear hk)
 (try clear hi)
 (try clear ho0)
 refine hK.out _ _ ⟨(blk_cell BK366.out 0).trans rfl, (blk_cell BK366.out 1).trans rfl, (blk_cell BK366.out 2).trans rfl, (blk_cell BK366.out 3).trans rfl, (blk_cell BK366.out 4).trans rfl, (blk_cell BK366.out 5).trans rfl⟩ (fun hHeld => ?_)
 clear hK K
 refine norm_ (a' := ?_) ?_ ?_
 rotate_left
 · show Act.put _ (some 9) _ = _
   simp only [Act.put, List.setIfInBounds_toArray, List.set_cons_zero, List.set_cons_succ, i64_w, i32_w]
   rfl
 refine one_ (i := 3) (N := some 11) #[yY,yY,yY,yY,nN,nN] rfl rfl (by kernel_rfl) (by decide) (fun K hK => ?_)
 refine goes_ Try.func49 (by kernel_rfl) rfl #[.agg #[.int .i64 a0_0, .slice A0_1 l0_1.length c0_1, .slice A0_2 l0_2.length c0_2, .slice A0_3 l0_3.length c0_3, .slice A0_4 l0_4.length c0_4, .slice A0_5 l0_5.length c0_5]] (by rfl) rfl rfl zq107 ?_
 with_reducible refine (r3_Used.calls k a0_0 _ _ l0_1 _ _ l0_2 _ _ l0_3 _ _ l0_4 _ _ l0_5 t370 _ ?side1 ?side2 ?side3 ?side4 ?side5 ?side6 ?side7 ?side8 ?side9 ?side10 A3.out).mono ?_
 (case side1 => exact zq75)
 (case side2 => exact HC0_1.out)
 (case side3 => exact zq76)
 (case side4 => exact HC0_2.out)
 (case side5 => exact zq77)
 (case side6 => exact HC0_3.out)
 (case side7 => exact zq78)
 (case side8 => exact HC0_4.out)
 (case side9 => exact zq79)
 (case side10 => exact HC0_5.out)
 rintro e w7 ⟨v371, rfl, ho0, hb⟩
 refine ⟨_, rfl, ?_⟩
 have n0_ := Aside0.mk (Kd.R_elder' zq156 (Kd.R_base ho0) hb)
 have n1_ := Aside0.mk (Kd.R_lower (Kd.R_new' ho0 (Kd.R_lt zq156)) (below_size zq98))
 have n2_ := Aside0.mk (blk_below (g := gb366) (o := .cells #[.int .i64 a0_0, .slice A0_1 l0_1.length c0_1, .slice A0_2 l0_2.length c0_2, .slice A0_3 l0_3.length c0_3, .slice A0_4 l0_4.length c0_4, .slice A0_5 l0_5.length c0_5] 30 (0, 0)) zq127 hb)
 have n3_ := Aside0.mk (below_step zq98 hb)
 clear HO369
 clear BK366
 clear HB
 have HO369 := n0_
 have HO372 := n1_
 have BK366 := n2_
 have HB := n3_
 clear n0_ n1_ n2_ n3_
 (try clear hb)
 (try clear hb2)
 (try clear hk)
 (try clear hi)
 (try clear ho0)
 refine hK.out _ _ ⟨(blk_cell BK366.out 0).trans rfl, (blk_cell BK366.out 1).trans rfl, (blk_cell BK366.out 2).trans rfl, (blk_cell BK366.out 3).trans rfl, (blk_cell BK366.out 4).trans rfl, (blk_cell BK366.out 5).trans rfl⟩ (fun hHeld => ?_)
 clear hK K
 refine norm_ (a' := ?_) ?_ ?_
 rotate_left
 · show Act.put _ (some 11) _ = _
   simp only [Act.put, List.setIfInBounds_toArray, List.set_cons_zero, List.set_cons_succ, i64_w, i32_w]
   rfl
 refine pure_ (i := 4) (N := some 3) (v := ?_) (a' := ?_) #[yY,yY,yY,yY,yY,nN] rfl rfl (by kernel_rfl) (fun _ _ _ h => h) (Or.inl ⟨by rfl, ?_⟩) ?_ ?_
 rotate_left
 · intro w'
   go_simp
   with_reducible rfl
 rotate_left
 · simp only [Act.put, List.setIfInBounds_toArray, List.set_cons_zero, List.set_cons_succ, i64_w, i32_w]
   rfl
 refine pure_ (i := 5) (N := some 4) (v := ?_) (a' := ?_) #[yY,yY,yY,yY,yY,yY] rfl rfl (by kernel_rfl) (fun _ _ _ h => h) (Or.inl ⟨by rfl, ?_⟩) ?_ ?_
 rotate_left
 · intro w'
   go_simp
   with_reducible rfl
 rotate_left
 · simp only [Act.put, List.setIfInBounds_toArray, List.set_cons_zero, List.set_cons_succ, i64_w, i32_w]
   rfl
 refine done_ (by kernel_rfl) ?_
 try go_wp2
 go_loopg [5] k (fun kq v5 w' => ∃ (x5_1 : Int), v5 = .int .i64 x5_1 ∧ Aside0 (r3_numbers.l0 kq t367 t370 x5_1 a0_0 l0_1 l0_2 l0_3 l0_4 l0_5 = some r) ∧ Aside0 (kq ≤ k) ∧ Aside0 (Kd.R (Kd.int .i64) 3 w' w.heap.size (fun k_ => some k_ ≠ (v371 : Value).ownBlock) v368 t367) ∧ Aside0 (Kd.R (Kd.int .i64) 3 w' w.heap.size (fun k_ => some k_ ≠ (v368 : Value).ownBlock) v371 t370) ∧ Aside0 (w'.heap[gb366]? = some (.cells #[.int .i64 a0_0, (.slice A0_1 l0_1.length c0_1), (.slice A0_2 l0_2.length c0_2), (.slice A0_3 l0_3.length c0_3), (.slice A0_4 l0_4.length c0_4), (.slice A0_5 l0_5.length c0_5)] 30 (0, 0))) ∧ Aside0 (Below w.heap.size w w'))
 case atStart => exact ⟨(0), zq187, H', ⟨Nat.le_refl _⟩, ⟨by (with_reducible repeat (first | apply Kd.R_alloc | apply Kd.R_drewN | apply Kd.R_drew)); exact Kd.R_mono HO369.out (fun _ hk => by first | exact hk.2 | exact hk)⟩, ⟨by (with_reducible repeat (first | apply Kd.R_alloc | apply Kd.R_drewN | apply Kd.R_drew)); exact Kd.R_mono HO372.out (fun _ hk => by first | exact hk.2 | exact hk)⟩, ⟨zq127⟩, ⟨zq98⟩⟩
 case round =>
  clear H'
  try clear c2
  try clear p2
  try clear c4
  obtain ⟨x5_1, rfl, HA, HK1, HO_3, HO_4, BK366, HB⟩ := hrel
  cases gk with
  | zero => exact absurd HA.out (by simp [r3_numbers.l0])
  | succ k1 =>
   have H := HA.out
   clear HA
   simp only [r3_numbers.l0] at H
   by_cases c8 : x5_1 < (t367.length : Int)
   · rw [if_pos c8] at H
     have c8b0 : decide (x5_1 < (t367.length : Int)) = true := decide_eq_true c8
     clear c8
     by_cases c9 : 0 ≤ x5_1
     · rw [if_pos c9] at H
       have c9b0 : decide (0 ≤ x5_1) = true := decide_eq_true c9
       clear c9
       by_cases c10 : (rd t367 x5_1) < 2
       · rw [if_pos c10] at H
         have c10b0 : decide ((rd t367 x5_1) < 2) = true := decide_eq_true c10
         clear c10
         obtain rfl := Option.some.inj H
         obtain ⟨Ao11, co11, eo11⟩ := Kd.R_slice HO_3.out
         subst eo11
         try go_wp2
         have n0_ := Aside0.mk (Kd.R_drew HO_3.out)
         have n1_ := Aside0.mk (Kd.R_drew HO_4.out)
         have n2_ := Aside0.mk (blk_drew BK366.out)
         have n3_ := Aside0.mk (below_drew1 HB.out)
         clear HO_3
         clear HO_4
         clear BK366
         clear HB
         have HO_3 := n0_
         have HO_4 := n1_
         have BK366 := n2_
         have HB := n3_
         clear n0_ n1_ n2_ n3_
         have p373 : 0 ≤ (x5_1 : Int) := of_decide_eq_true zq186
         have q373 : x5_1 < (t367.length : Int) := of_decide_eq_true zq186
         obtain ⟨ad373, e373, hx373_0⟩ := Kd.at_int (Kd.R_reads' HO_3.out).2.2 x5_1 p373 q373
         cases e373
         replace p373 := eq_true p373
         replace q373 := eq_true q373
         refine start_ (n := 24) (S := fun w' => w'.cell? (ad373.add (x5_1).toNat) = some (.int .i64 (rd t367 x5_1))) (ds := []) #[nN,nN,nN,nN,nN,nN,nN,nN,nN,nN,nN,nN,nN,nN,nN,nN,nN,nN,nN,nN,nN,nN,nN,nN] (by kernel_rfl) rfl rfl (hx373_0) (fun hHeld => ?_); refine with_tabW r3_numbers.tab5 r3_numbers.bits5 (fun HT_ HW_ => ?_)
         generalize wr.drew = w12 at HO_3 HO_4 BK366 HB hx373_0 hHeld ⊢
         refine pz 0 18 #[yY,nN,nN,nN,nN,nN,nN,nN,nN,nN,nN,nN,nN,nN,nN,nN,nN,nN,nN,nN,nN,nN,nN,nN] (h := ?_)
         refine pz 1 19 #[yY,yY,nN,nN,nN,nN,nN,nN,nN,nN,nN,nN,nN,nN,nN,nN,nN,nN,nN,nN,nN,nN,nN,nN] (h := ?_)
         refine pz 2 20 #[yY,yY,yY,nN,nN,nN,nN,nN,nN,nN,nN,nN,nN,nN,nN,nN,nN,nN,nN,nN,nN,nN,nN,nN] (h := ?_)
         refine take_ (i := 3) (N := some 21) (v := ?_) (a' := ?_) #[yY,yY,yY,yY,nN,nN,nN,nN,nN,nN,nN,nN,nN,nN,nN,nN,nN,nN,nN,nN,nN,nN,nN,nN] rfl rfl (take_ofW HT_.out HW_.out (by kernel_rfl)) (fun _ _ _ h => h) (Or.inl ⟨by rfl, ?_⟩) hHeld ?_ ?_
         rotate_left
         · intro w' s0
           go_simp
           with_reducible rfl
         rotate_left
         · simp only [Act.put, List.setIfInBounds_toArray, List.set_cons_zero, List.set_cons_succ, i64_w, i32_w]
           rfl
         refine pz 4 22 #[yY,yY,yY,yY,yY,nN,nN,nN,nN,nN,nN,nN,nN,nN,nN,nN,nN,nN,nN,nN,nN,nN,nN,nN] (h := ?_)
         refine pz 5 23 #[yY,yY,yY,yY,yY,yY,nN,nN,nN,nN,nN,nN,nN,nN,nN,nN,nN,nN,nN,nN,nN,nN,nN,nN] (h := ?_)
         refine pu 6 24 #[yY,yY,yY,yY,yY,yY,yY,nN,nN,nN,nN,nN,nN,nN,nN,nN,nN,nN,nN,nN,nN,nN,nN,nN] (h := ?_)
         refine pu 7 25 #[yY,yY,yY,yY,yY,yY,yY,yY,nN,nN,nN,nN,nN,nN,nN,nN,nN,nN,nN,nN,nN,nN,nN,nN] (h := ?_)
         refine pu 8 26 #[yY,yY,yY,yY,yY,yY,yY,yY,yY,nN,nN,nN,nN,nN,nN,nN,nN,nN,nN,nN,nN,nN,nN,nN] (h := ?_)
         refine pu 9 27 #[yY,yY,yY,yY,yY,yY,yY,yY,yY,yY,nN,nN,nN,nN,nN,nN,nN,nN,nN,nN,nN,nN,nN,nN] (h := ?_)
         refine pu 10 28 #[yY,yY,yY,yY,yY,yY,yY,yY,yY,yY,yY,nN,nN,nN,nN,nN,nN,nN,nN,nN,nN,nN,nN,nN] (h := ?_)
         refine pu 11 29 #[yY,yY,yY,yY,yY,yY,yY,yY,yY,yY,yY,yY,nN,nN,nN,nN,nN,nN,nN,nN,nN,nN,nN,nN] (h := ?_)
         refine pz 12 30 #[yY,yY,yY,yY,yY,yY,yY,yY,yY,yY,yY,yY,yY,nN,nN,nN,nN,nN,nN,nN,nN,nN,nN,nN] (h := ?_)
         refine pz 13 31 #[yY,yY,yY,yY,yY,yY,yY,yY,yY,yY,yY,yY,yY,yY,nN,nN,nN,nN,nN,nN,nN,nN,nN,nN] (h := ?_)
         refine pu 14 32 #[yY,yY,yY,yY,yY,yY,yY,yY,yY,yY,yY,yY,yY,yY,yY,nN,nN,nN,nN,nN,nN,nN,nN,nN] (h := ?_)
         refine pu 15 33 #[yY,yY,yY,yY,yY,yY,yY,yY,yY,yY,yY,yY,yY,yY,yY,yY,nN,nN,nN,nN,nN,nN,nN,nN] (h := ?_)
         refine pu 16 34 #[yY,yY,yY,yY,yY,yY,yY,yY,yY,yY,yY,yY,yY,yY,yY,yY,yY,nN,nN,nN,nN,nN,nN,nN] (h := ?_)
         refine pu 17 35 #[yY,yY,yY,yY,yY,yY,yY,yY,yY,yY,yY,yY,yY,yY,yY,yY,yY,yY,nN,nN,nN,nN,nN,nN] (h := ?_)
         refine pu 18 36 #[yY,yY,yY,yY,yY,yY,yY,yY,yY,yY,yY,yY,yY,yY,yY,yY,yY,yY,yY,nN,nN,nN,nN,nN] (h := ?_)
         refine pu 19 37 #[yY,yY,yY,yY,yY,yY,yY,yY,yY,yY,yY,yY,yY,yY,yY,yY,yY,yY,yY,yY,nN,nN,nN,nN] (h := ?_)
         refine pu 20 38 #[yY,yY,yY,yY,yY,yY,yY,yY,yY,yY,yY,yY,yY,yY,yY,yY,yY,yY,yY,yY,yY,nN,nN,nN] (h := ?_)
         refine pu 21 39 #[yY,yY,yY,yY,yY,yY,yY,yY,yY,yY,yY,yY,yY,yY,yY,yY,yY,yY,yY,yY,yY,yY,nN,nN] (h := ?_)
         refine pu 22 40 #[yY,yY,yY,yY,yY,yY,yY,yY,yY,yY,yY,yY,yY,yY,yY,yY,yY,yY,yY,yY,yY,yY,yY,nN] (h := ?_)
         refine pz 23 41 #[yY,yY,yY,yY,yY,yY,yY,yY,yY,yY,yY,yY,yY,yY,yY,yY,yY,yY,yY,yY,yY,yY,yY,yY] (h := ?_)
         refine done_ (done_of HT_.out (by kernel_rfl)) ?_
         try go_wp2
         go_ret
         exact ⟨zq181, zq98⟩
       · rw [if_neg c10] at H
         have c10b0 : decide ((rd t367 x5_1) < 2) = false := decide_eq_false c10
         clear c10
         by_cases c13 : (Int.tmod (rd t367 x5_1) 2) = 1
         · rw [if_pos c13] at H
           have c13b0 : ((Int.tmod (rd t367 x5_1) 2) == 1) = true := beq_iff_eq.mpr c13
           have c13b1 : ((Int.tmod (rd t367 x5_1) 2) != 1) = false := bne_eq_false_iff_eq.mpr c13
           clear c13
           obtain rfl := Option.some.inj H
           obtain ⟨Ao14, co14, eo14⟩ := Kd.R_slice HO_3.out
           subst eo14
           try go_wp2
           have n0_ := Aside0.mk (Kd.R_drew HO_3.out)
           have n1_ := Aside0.mk (Kd.R_drew HO_4.out)
           have n2_ := Aside0.mk (blk_drew BK366.out)
           have n3_ := Aside0.mk (below_drew1 HB.out)
           clear HO_3
           clear HO_4
           clear BK366
           clear HB
           have HO_3 := n0_
           have HO_4 := n1_
           have BK366 := n2_
           have HB := n3_
           clear n0_ n1_ n2_ n3_
           have p373 : 0 ≤ (x5_1 : Int) := of_decide_eq_true zq186
           have q373 : x5_1 < (t367.length : Int) := of_decide_eq_true zq186
           obtain ⟨ad373, e373, hx373_0⟩ := Kd.at_int (Kd.R_reads' HO_3.out).2.2 x5_1 p373 q373
           cases e373
           replace p373 := eq_true p373
           replace q373 := eq_true q373
           have p374 : 0 ≤ (x5_1 : Int) := of_decide_eq_true zq186
           have q374 : x5_1 < (t367.length : Int) := of_decide_eq_true zq186
           obtain ⟨ad374, e374, hx374_0⟩ := Kd.at_int (Kd.R_reads' HO_3.out).2.2 x5_1 p374 q374
           obtain rfl : ad373 = ad374 := (by injection e374)
           replace p374 := eq_true p374
           replace q374 := eq_true q374
           refine start_ (n := 24) (S := fun w' => w'.cell? (ad373.add (x5_1).toNat) = some (.int .i64 (rd t367 x5_1)) ∧ w'.cell? (ad373.add (x5_1).toNat) = some (.int .i64 (rd t367 x5_1))) (ds := []) #[nN,nN,nN,nN,nN,nN,nN,nN,nN,nN,nN,nN,nN,nN,nN,nN,nN,nN,nN,nN,nN,nN,nN,nN] (by kernel_rfl) rfl rfl ⟨hx373_0, hx374_0⟩ (fun hHeld => ?_); refine with_tabW r3_numbers.tab5 r3_numbers.bits5 (fun HT_ HW_ => ?_)
           generalize wr.drew = w15 at HO_3 HO_4 BK366 HB hx373_0 hx374_0 hHeld ⊢
           refine pz 0 18 #[yY,nN,nN,nN,nN,nN,nN,nN,nN,nN,nN,nN,nN,nN,nN,nN,nN,nN,nN,nN,nN,nN,nN,nN] (h := ?_)
           refine pz 1 19 #[yY,yY,nN,nN,nN,nN,nN,nN,nN,nN,nN,nN,nN,nN,nN,nN,nN,nN,nN,nN,nN,nN,nN,nN] (h := ?_)
           refine pz 2 20 #[yY,yY,yY,nN,nN,nN,nN,nN,nN,nN,nN,nN,nN,nN,nN,nN,nN,nN,nN,nN,nN,nN,nN,nN] (h := ?_)
           refine take_ (i := 3) (N := some 21) (v := ?_) (a' := ?_) #[yY,yY,yY,yY,nN,nN,nN,nN,nN,nN,nN,nN,nN,nN,nN,nN,nN,nN,nN,nN,nN,nN,nN,nN] rfl rfl (take_ofW HT_.out HW_.out (by kernel_rfl)) (fun _ _ _ h => h) (Or.inl ⟨by rfl, ?_⟩) hHeld ?_ ?_
           rotate_left
           · rintro w' ⟨s0, s1⟩
             go_simp
             with_reducible rfl
           rotate_left
           · simp only [Act.put, List.setIfInBounds_toArray, List.set_cons_zero, List.set_cons_succ, i64_w, i32_w]
             rfl
           refine pz 4 22 #[yY,yY,yY,yY,yY,nN,nN,nN,nN,nN,nN,nN,nN,nN,nN,nN,nN,nN,nN,nN,nN,nN,nN,nN] (h := ?_)
           refine pz 5 23 #[yY,yY,yY,yY,yY,yY,nN,nN,nN,nN,nN,nN,nN,nN,nN,nN,nN,nN,nN,nN,nN,nN,nN,nN] (h := ?_)
           refine pz 6 24 #[yY,yY,yY,yY,yY,yY,yY,nN,nN,nN,nN,nN,nN,nN,nN,nN,nN,nN,nN,nN,nN,nN,nN,nN] (h := ?_)
           refine pz 7 25 #[yY,yY,yY,yY,yY,yY,yY,yY,nN,nN,nN,nN,nN,nN,nN,nN,nN,nN,nN,nN,nN,nN,nN,nN] (h := ?_)
           refine pz 8 26 #[yY,yY,yY,yY,yY,yY,yY,yY,yY,nN,nN,nN,nN,nN,nN,nN,nN,nN,nN,nN,nN,nN,nN,nN] (h := ?_)
           refine take_ (i := 9) (N := some 27) (v := ?_) (a' := ?_) #[yY,yY,yY,yY,yY,yY,yY,yY,yY,yY,nN,nN,nN,nN,nN,nN,nN,nN,nN,nN,nN,nN,nN,nN] rfl rfl (take_ofW HT_.out HW_.out (by kernel_rfl)) (fun _ _ _ h => h) (Or.inl ⟨by rfl, ?_⟩) hHeld ?_ ?_
           rotate_left
           · rintro w' ⟨s0, s1⟩
             go_simp
             with_reducible rfl
           rotate_left
           · simp only [Act.put, List.setIfInBounds_toArray, List.set_cons_zero, List.set_cons_succ, i64_w, i32_w]
             rfl
           refine pz 10 28 #[yY,yY,yY,yY,yY,yY,yY,yY,yY,yY,yY,nN,nN,nN,nN,nN,nN,nN,nN,nN,nN,nN,nN,nN] (h := ?_)
           refine pz 11 29 #[yY,yY,yY,yY,yY,yY,yY,yY,yY,yY,yY,yY,nN,nN,nN,nN,nN,nN,nN,nN,nN,nN,nN,nN] (h := ?_)
           refine pz 12 30 #[yY,yY,yY,yY,yY,yY,yY,yY,yY,yY,yY,yY,yY,nN,nN,nN,nN,nN,nN,nN,nN,nN,nN,nN] (h := ?_)
           refine pz 13 31 #[yY,yY,yY,yY,yY,yY,yY,yY,yY,yY,yY,yY,yY,yY,nN,nN,nN,nN,nN,nN,nN,nN,nN,nN] (h := ?_)
           refine pu 14 32 #[yY,yY,yY,yY,yY,yY,yY,yY,yY,yY,yY,yY,yY,yY,yY,nN,nN,nN,nN,nN,nN,nN,nN,nN] (h := ?_)
           refine pu 15 33 #[yY,yY,yY,yY,yY,yY,yY,yY,yY,yY,yY,yY,yY,yY,yY,yY,nN,nN,nN,nN,nN,nN,nN,nN] (h := ?_)
           refine pu 16 34 #[yY,yY,yY,yY,yY,yY,yY,yY,yY,yY,yY,yY,yY,yY,yY,yY,yY,nN,nN,nN,nN,nN,nN,nN] (h := ?_)
           refine pu 17 35 #[yY,yY,yY,yY,yY,yY,yY,yY,yY,yY,yY,yY,yY,yY,yY,yY,yY,yY,nN,nN,nN,nN,nN,nN] (h := ?_)
           refine pu 18 36 #[yY,yY,yY,yY,yY,yY,yY,yY,yY,yY,yY,yY,yY,yY,yY,yY,yY,yY,yY,nN,nN,nN,nN,nN] (h := ?_)
           refine pu 19 37 #[yY,yY,yY,yY,yY,yY,yY,yY,yY,yY,yY,yY,yY,yY,yY,yY,yY,yY,yY,yY,nN,nN,nN,nN] (h := ?_)
           refine pu 20 38 #[yY,yY,yY,yY,yY,yY,yY,yY,yY,yY,yY,yY,yY,yY,yY,yY,yY,yY,yY,yY,yY,nN,nN,nN] (h := ?_)
           refine pu 21 39 #[yY,yY,yY,yY,yY,yY,yY,yY,yY,yY,yY,yY,yY,yY,yY,yY,yY,yY,yY,yY,yY,yY,nN,nN] (h := ?_)
           refine pu 22 40 #[yY,yY,yY,yY,yY,yY,yY,yY,yY,yY,yY,yY,yY,yY,yY,yY,yY,yY,yY,yY,yY,yY,yY,nN] (h := ?_)
           refine pz 23 41 #[yY,yY,yY,yY,yY,yY,yY,yY,yY,yY,yY,yY,yY,yY,yY,yY,yY,yY,yY,yY,yY,yY,yY,yY] (h := ?_)
           refine done_ (done_of HT_.out (by kernel_rfl)) ?_
           try go_wp2
           go_ret
           exact ⟨zq181, zq98⟩
         · rw [if_neg c13] at H
           have c13b0 : ((Int.tmod (rd t367 x5_1) 2) == 1) = false := beq_eq_false_iff_ne.mpr c13
           have c13b1 : ((Int.tmod (rd t367 x5_1) 2) != 1) = true := bne_iff_ne.mpr c13
           by_cases c16 : (rd t367 x5_1) > (wrap64 ((wrap64 (2 * a0_0)) + 1))
           · rw [if_pos c16] at H
             have c16b0 : decide ((wrap64 ((wrap64 (2 * a0_0)) + 1)) < (rd t367 x5_1)) = true := decide_eq_true c16
             clear c16
             obtain rfl := Option.some.inj H
             obtain ⟨Ao17, co17, eo17⟩ := Kd.R_slice HO_3.out
             subst eo17
             try go_wp2
             have n0_ := Aside0.mk (Kd.R_drew HO_3.out)
             have n1_ := Aside0.mk (Kd.R_drew HO_4.out)
             have n2_ := Aside0.mk (blk_drew BK366.out)
             have n3_ := Aside0.mk (below_drew1 HB.out)
             clear HO_3
             clear HO_4
             clear BK366
             clear HB
             have HO_3 := n0_
             have HO_4 := n1_
             have BK366 := n2_
             have HB := n3_
             clear n0_ n1_ n2_ n3_
             have p373 : 0 ≤ (x5_1 : Int) := of_decide_eq_true zq186
             have q373 : x5_1 < (t367.length : Int) := of_decide_eq_true zq186
             obtain ⟨ad373, e373, hx373_0⟩ := Kd.at_int (Kd.R_reads' HO_3.out).2.2 x5_1 p373 q373
             cases e373
             replace p373 := eq_true p373
             replace q373 := eq_true q373
             have p374 : 0 ≤ (x5_1 : Int) := of_decide_eq_true zq186
             have q374 : x5_1 < (t367.length : Int) := of_decide_eq_true zq186
             obtain ⟨ad374, e374, hx374_0⟩ := Kd.at_int (Kd.R_reads' HO_3.out).2.2 x5_1 p374 q374
             obtain rfl : ad373 = ad374 := (by injection e374)
             replace p374 := eq_true p374
             replace q374 := eq_true q374
             have p375 : 0 ≤ (x5_1 : Int) := of_decide_eq_true zq186
             have q375 : x5_1 < (t367.length : Int) := of_decide_eq_true zq186
             obtain ⟨ad375, e375, hx375_0⟩ := Kd.at_int (Kd.R_reads' HO_3.out).2.2 x5_1 p375 q375
             obtain rfl : ad373 = ad375 := (by injection e375)
             replace p375 := eq_true p375
             replace q375 := eq_true q375
             refine start_ (n := 24) (S := fun w' => w'.cell? ⟨gb366, 0, none⟩ = some (.int .i64 a0_0) ∧ w'.cell? ⟨gb366, 1, none⟩ = some (.slice A0_1 l0_1.length c0_1) ∧ w'.cell? ⟨gb366, 2, none⟩ = some (.slice A0_2 l0_2.length c0_2) ∧ w'.cell? ⟨gb366, 3, none⟩ = some (.slice A0_3 l0_3.length c0_3) ∧ w'.cell? ⟨gb366, 4, none⟩ = some (.slice A0_4 l0_4.length c0_4) ∧ w'.cell? ⟨gb366, 5, none⟩ = some (.slice A0_5 l0_5.length c0_5) ∧ w'.cell? (ad373.add (x5_1).toNat) = some (.int .i64 (rd t367 x5_1)) ∧ w'.cell? (ad373.add (x5_1).toNat) = some (.int .i64 (rd t367 x5_1)) ∧ w'.cell? (ad373.add (x5_1).toNat) = some (.int .i64 (rd t367 x5_1))) (ds := []) #[nN,nN,nN,nN,nN,nN,nN,nN,nN,nN,nN,nN,nN,nN,nN,nN,nN,nN,nN,nN,nN,nN,nN,nN] (by kernel_rfl) rfl rfl ⟨(blk_cell BK366.out 0).trans rfl, (blk_cell BK366.out 1).trans rfl, (blk_cell BK366.out 2).trans rfl, (blk_cell BK366.out 3).trans rfl, (blk_cell BK366.out 4).trans rfl, (blk_cell BK366.out 5).trans rfl, hx373_0, hx374_0, hx375_0⟩ (fun hHeld => ?_); refine with_tabW r3_numbers.tab5 r3_numbers.bits5 (fun HT_ HW_ => ?_)
             generalize wr.drew = w18 at HO_3 HO_4 BK366 HB hx373_0 hx374_0 hx375_0 hHeld ⊢
             refine pz 0 18 #[yY,nN,nN,nN,nN,nN,nN,nN,nN,nN,nN,nN,nN,nN,nN,nN,nN,nN,nN,nN,nN,nN,nN,nN] (h := ?_)
             refine pz 1 19 #[yY,yY,nN,nN,nN,nN,nN,nN,nN,nN,nN,nN,nN,nN,nN,nN,nN,nN,nN,nN,nN,nN,nN,nN] (h := ?_)
             refine pz 2 20 #[yY,yY,yY,nN,nN,nN,nN,nN,nN,nN,nN,nN,nN,nN,nN,nN,nN,nN,nN,nN,nN,nN,nN,nN] (h := ?_)
             refine take_ (i := 3) (N := some 21) (v := ?_) (a' := ?_) #[yY,yY,yY,yY,nN,nN,nN,nN,nN,nN,nN,nN,nN,nN,nN,nN,nN,nN,nN,nN,nN,nN,nN,nN] rfl rfl (take_ofW HT_.out HW_.out (by kernel_rfl)) (fun _ _ _ h => h) (Or.inl ⟨by rfl, ?_⟩) hHeld ?_ ?_
             rotate_left
             · rintro w' ⟨s0, s1, s2, s3, s4, s5, s6, s7, s8⟩
               go_simp
               with_reducible rfl
             rotate_left
             · simp only [Act.put, List.setIfInBounds_toArray, List.set_cons_zero, List.set_cons_succ, i64_w, i32_w]
               rfl
             refine pz 4 22 #[yY,yY,yY,yY,yY,nN,nN,nN,nN,nN,nN,nN,nN,nN,nN,nN,nN,nN,nN,nN,nN,nN,nN,nN] (h := ?_)
             refine pz 5 23 #[yY,yY,yY,yY,yY,yY,nN,nN,nN,nN,nN,nN,nN,nN,nN,nN,nN,nN,nN,nN,nN,nN,nN,nN] (h := ?_)
             refine pz 6 24 #[yY,yY,yY,yY,yY,yY,yY,nN,nN,nN,nN,nN,nN,nN,nN,nN,nN,nN,nN,nN,nN,nN,nN,nN] (h := ?_)
             refine pz 7 25 #[yY,yY,yY,yY,yY,yY,yY,yY,nN,nN,nN,nN,nN,nN,nN,nN,nN,nN,nN,nN,nN,nN,nN,nN] (h := ?_)
             refine pz 8 26 #[yY,yY,yY,yY,yY,yY,yY,yY,yY,nN,nN,nN,nN,nN,nN,nN,nN,nN,nN,nN,nN,nN,nN,nN] (h := ?_)
             refine take_ (i := 9) (N := some 27) (v := ?_) (a' := ?_) #[yY,yY,yY,yY,yY,yY,yY,yY,yY,yY,nN,nN,nN,nN,nN,nN,nN,nN,nN,nN,nN,nN,nN,nN] rfl rfl (take_ofW HT_.out HW_.out (by kernel_rfl)) (fun _ _ _ h => h) (Or.inl ⟨by rfl, ?_⟩) hHeld ?_ ?_
             rotate_left
             · rintro w' ⟨s0, s1, s2, s3, s4, s5, s6, s7, s8⟩
               go_simp
               with_reducible rfl
             rotate_left
             · simp only [Act.put, List.setIfInBounds_toArray, List.set_cons_zero, List.set_cons_succ, i64_w, i32_w]
               rfl
             refine pz 10 28 #[yY,yY,yY,yY,yY,yY,yY,yY,yY,yY,yY,nN,nN,nN,nN,nN,nN,nN,nN,nN,nN,nN,nN,nN] (h := ?_)
             refine pz 11 29 #[yY,yY,yY,yY,yY,yY,yY,yY,yY,yY,yY,yY,nN,nN,nN,nN,nN,nN,nN,nN,nN,nN,nN,nN] (h := ?_)
             refine pz 12 30 #[yY,yY,yY,yY,yY,yY,yY,yY,yY,yY,yY,yY,yY,nN,nN,nN,nN,nN,nN,nN,nN,nN,nN,nN] (h := ?_)
             refine pz 13 31 #[yY,yY,yY,yY,yY,yY,yY,yY,yY,yY,yY,yY,yY,yY,nN,nN,nN,nN,nN,nN,nN,nN,nN,nN] (h := ?_)
             refine pz 14 32 #[yY,yY,yY,yY,yY,yY,yY,yY,yY,yY,yY,yY,yY,yY,yY,nN,nN,nN,nN,nN,nN,nN,nN,nN] (h := ?_)
             refine pz 15 33 #[yY,yY,yY,yY,yY,yY,yY,yY,yY,yY,yY,yY,yY,yY,yY,yY,nN,nN,nN,nN,nN,nN,nN,nN] (h := ?_)
             refine pz 16 34 #[yY,yY,yY,yY,yY,yY,yY,yY,yY,yY,yY,yY,yY,yY,yY,yY,yY,nN,nN,nN,nN,nN,nN,nN] (h := ?_)
             refine pz 18 36 #[yY,yY,yY,yY,yY,yY,yY,yY,yY,yY,yY,yY,yY,yY,yY,yY,yY,nN,yY,nN,nN,nN,nN,nN] (h := ?_)
             refine take_ (i := 17) (N := some 35) (v := ?_) (a' := ?_) #[yY,yY,yY,yY,yY,yY,yY,yY,yY,yY,yY,yY,yY,yY,yY,yY,yY,yY,yY,nN,nN,nN,nN,nN] rfl rfl (take_ofW HT_.out HW_.out (by kernel_rfl)) (fun _ _ _ h => h) (Or.inl ⟨by rfl, ?_⟩) hHeld ?_ ?_
             rotate_left
             · rintro w' ⟨s0, s1, s2, s3, s4, s5, s6, s7, s8⟩
               go_simp
               with_reducible rfl
             rotate_left
             · simp only [Act.put, List.setIfInBounds_toArray, List.set_cons_zero, List.set_cons_succ, i64_w, i32_w]
               rfl
             refine take_ (i := 19) (N := some 37) (v := ?_) (a' := ?_) #[yY,yY,yY,yY,yY,yY,yY,yY,yY,yY,yY,yY,yY,yY,yY,yY,yY,yY,yY,yY,nN,nN,nN,nN] rfl rfl (take_ofW HT_.out HW_.out (by kernel_rfl)) (fun _ _ _ h => h) (Or.inl ⟨by rfl, ?_⟩) hHeld ?_ ?_
             rotate_left
             · rintro w' ⟨s0, s1, s2, s3, s4, s5, s6, s7, s8⟩
               go_simp
               with_reducible rfl
             rotate_left
             · simp only [Act.put, List.setIfInBounds_toArray, List.set_cons_zero, List.set_cons_succ, i64_w, i32_w]
               rfl
             refine pz 20 38 #[yY,yY,yY,yY,yY,yY,yY,yY,yY,yY,yY,yY,yY,yY,yY,yY,yY,yY,yY,yY,yY,nN,nN,nN] (h := ?_)
             refine pz 21 39 #[yY,yY,yY,yY,yY,yY,yY,yY,yY,yY,yY,yY,yY,yY,yY,yY,yY,yY,yY,yY,yY,yY,nN,nN] (h := ?_)
             refine pz 22 40 #[yY,yY,yY,yY,yY,yY,yY,yY,yY,yY,yY,yY,yY,yY,yY,yY,yY,yY,yY,yY,yY,yY,yY,nN] (h := ?_)
             refine pz 23 41 #[yY,yY,yY,yY,yY,yY,yY,yY,yY,yY,yY,yY,yY,yY,yY,yY,yY,yY,yY,yY,yY,yY,yY,yY] (h := ?_)
             refine done_ (done_of HT_.out (by kernel_rfl)) ?_
             try go_wp2
             go_ret
             exact ⟨zq181, zq98⟩
           · rw [if_neg c16] at H
             have c16b0 : decide ((wrap64 ((wrap64 (2 * a0_0)) + 1)) < (rd t367 x5_1)) = false := decide_eq_false c16
             clear c16
             have H' := Aside0.mk H
             clear H
             obtain ⟨Ao19, co19, eo19⟩ := Kd.R_slice HO_3.out
             subst eo19
             try go_wp2
             have n0_ := Aside0.mk (Kd.R_drew HO_3.out)
             have n1_ := Aside0.mk (Kd.R_drew HO_4.out)
             have n2_ := Aside0.mk (blk_drew BK366.out)
             have n3_ := Aside0.mk (below_drew1 HB.out)
             clear HO_3
             clear HO_4
             clear BK366
             clear HB
             have HO_3 := n0_
             have HO_4 := n1_
             have BK366 := n2_
             have HB := n3_
             clear n0_ n1_ n2_ n3_
             have p373 : 0 ≤ (x5_1 : Int) := of_decide_eq_true zq186
             have q373 : x5_1 < (t367.length : Int) := of_decide_eq_true zq186
             obtain ⟨ad373, e373, hx373_0⟩ := Kd.at_int (Kd.R_reads' HO_3.out).2.2 x5_1 p373 q373
             cases e373
             replace p373 := eq_true p373
             replace q373 := eq_true q373
             have p374 : 0 ≤ (x5_1 : Int) := of_decide_eq_true zq186
             have q374 : x5_1 < (t367.length : Int) := of_decide_eq_true zq186
             obtain ⟨ad374, e374, hx374_0⟩ := Kd.at_int (Kd.R_reads' HO_3.out).2.2 x5_1 p374 q374
             obtain rfl : ad373 = ad374 := (by injection e374)
             replace p374 := eq_true p374
             replace q374 := eq_true q374
             have p375 : 0 ≤ (x5_1 : Int) := of_decide_eq_true zq186
             have q375 : x5_1 < (t367.length : Int) := of_decide_eq_true zq186
             obtain ⟨ad375, e375, hx375_0⟩ := Kd.at_int (Kd.R_reads' HO_3.out).2.2 x5_1 p375 q375
             obtain rfl : ad373 = ad375 := (by injection e375)
             replace p375 := eq_true p375
             replace q375 := eq_true q375
             refine start_ (n := 24) (S := fun w' => w'.cell? ⟨gb366, 0, none⟩ = some (.int .i64 a0_0) ∧ w'.cell? ⟨gb366, 1, none⟩ = some (.slice A0_1 l0_1.length c0_1) ∧ w'.cell? ⟨gb366, 2, none⟩ = some (.slice A0_2 l0_2.length c0_2) ∧ w'.cell? ⟨gb366, 3, none⟩ = some (.slice A0_3 l0_3.length c0_3) ∧ w'.cell? ⟨gb366, 4, none⟩ = some (.slice A0_4 l0_4.length c0_4) ∧ w'.cell? ⟨gb366, 5, none⟩ = some (.slice A0_5 l0_5.length c0_5) ∧ w'.cell? (ad373.add (x5_1).toNat) = some (.int .i64 (rd t367 x5_1)) ∧ w'.cell? (ad373.add (x5_1).toNat) = some (.int .i64 (rd t367 x5_1)) ∧ w'.cell? (ad373.add (x5_1).toNat) = some (.int .i64 (rd t367 x5_1))) (ds := []) #[nN,nN,nN,nN,nN,nN,nN,nN,nN,nN,nN,nN,nN,nN,nN,nN,nN,nN,nN,nN,nN,nN,nN,nN] (by kernel_rfl) rfl rfl ⟨(blk_cell BK366.out 0).trans rfl, (blk_cell BK366.out 1).trans rfl, (blk_cell BK366.out 2).trans rfl, (blk_cell BK366.out 3).trans rfl, (blk_cell BK366.out 4).trans rfl, (blk_cell BK366.out 5).trans rfl, hx373_0, hx374_0, hx375_0⟩ (fun hHeld => ?_); refine with_tabW r3_numbers.tab5 r3_numbers.bits5 (fun HT_ HW_ => ?_)
             generalize wr.drew = w20 at HO_3 HO_4 BK366 HB hx373_0 hx374_0 hx375_0 hHeld ⊢
             refine pz 0 18 #[yY,nN,nN,nN,nN,nN,nN,nN,nN,nN,nN,nN,nN,nN,nN,nN,nN,nN,nN,nN,nN,nN,nN,nN] (h := ?_)
             refine pz 1 19 #[yY,yY,nN,nN,nN,nN,nN,nN,nN,nN,nN,nN,nN,nN,nN,nN,nN,nN,nN,nN,nN,nN,nN,nN] (h := ?_)
             refine pz 2 20 #[yY,yY,yY,nN,nN,nN,nN,nN,nN,nN,nN,nN,nN,nN,nN,nN,nN,nN,nN,nN,nN,nN,nN,nN] (h := ?_)
             refine take_ (i := 3) (N := some 21) (v := ?_) (a' := ?_) #[yY,yY,yY,yY,nN,nN,nN,nN,nN,nN,nN,nN,nN,nN,nN,nN,nN,nN,nN,nN,nN,nN,nN,nN] rfl rfl (take_ofW HT_.out HW_.out (by kernel_rfl)) (fun _ _ _ h => h) (Or.inl ⟨by rfl, ?_⟩) hHeld ?_ ?_
             rotate_left
             · rintro w' ⟨s0, s1, s2, s3, s4, s5, s6, s7, s8⟩
               go_simp
               with_reducible rfl
             rotate_left
             · simp only [Act.put, List.setIfInBounds_toArray, List.set_cons_zero, List.set_cons_succ, i64_w, i32_w]
               rfl
             refine pz 4 22 #[yY,yY,yY,yY,yY,nN,nN,nN,nN,nN,nN,nN,nN,nN,nN,nN,nN,nN,nN,nN,nN,nN,nN,nN] (h := ?_)
             refine pz 5 23 #[yY,yY,yY,yY,yY,yY,nN,nN,nN,nN,nN,nN,nN,nN,nN,nN,nN,nN,nN,nN,nN,nN,nN,nN] (h := ?_)
             refine pz 6 24 #[yY,yY,yY,yY,yY,yY,yY,nN,nN,nN,nN,nN,nN,nN,nN,nN,nN,nN,nN,nN,nN,nN,nN,nN] (h := ?_)
             refine pz 7 25 #[yY,yY,yY,yY,yY,yY,yY,yY,nN,nN,nN,nN,nN,nN,nN,nN,nN,nN,nN,nN,nN,nN,nN,nN] (h := ?_)
             refine pz 8 26 #[yY,yY,yY,yY,yY,yY,yY,yY,yY,nN,nN,nN,nN,nN,nN,nN,nN,nN,nN,nN,nN,nN,nN,nN] (h := ?_)
             refine take_ (i := 9) (N := some 27) (v := ?_) (a' := ?_) #[yY,yY,yY,yY,yY,yY,yY,yY,yY,yY,nN,nN,nN,nN,nN,nN,nN,nN,nN,nN,nN,nN,nN,nN] rfl rfl (take_ofW HT_.out HW_.out (by kernel_rfl)) (fun _ _ _ h => h) (Or.inl ⟨by rfl, ?_⟩) hHeld ?_ ?_
             rotate_left
             · rintro w' ⟨s0, s1, s2, s3, s4, s5, s6, s7, s8⟩
               go_simp
               with_reducible rfl
             rotate_left
             · simp only [Act.put, List.setIfInBounds_toArray, List.set_cons_zero, List.set_cons_succ, i64_w, i32_w]
               rfl
             refine pz 10 28 #[yY,yY,yY,yY,yY,yY,yY,yY,yY,yY,yY,nN,nN,nN,nN,nN,nN,nN,nN,nN,nN,nN,nN,nN] (h := ?_)
             refine pz 11 29 #[yY,yY,yY,yY,yY,yY,yY,yY,yY,yY,yY,yY,nN,nN,nN,nN,nN,nN,nN,nN,nN,nN,nN,nN] (h := ?_)
             refine pz 12 30 #[yY,yY,yY,yY,yY,yY,yY,yY,yY,yY,yY,yY,yY,nN,nN,nN,nN,nN,nN,nN,nN,nN,nN,nN] (h := ?_)
             refine pz 13 31 #[yY,yY,yY,yY,yY,yY,yY,yY,yY,yY,yY,yY,yY,yY,nN,nN,nN,nN,nN,nN,nN,nN,nN,nN] (h := ?_)
             refine pz 14 32 #[yY,yY,yY,yY,yY,yY,yY,yY,yY,yY,yY,yY,yY,yY,yY,nN,nN,nN,nN,nN,nN,nN,nN,nN] (h := ?_)
             refine pz 15 33 #[yY,yY,yY,yY,yY,yY,yY,yY,yY,yY,yY,yY,yY,yY,yY,yY,nN,nN,nN,nN,nN,nN,nN,nN] (h := ?_)
             refine pz 16 34 #[yY,yY,yY,yY,yY,yY,yY,yY,yY,yY,yY,yY,yY,yY,yY,yY,yY,nN,nN,nN,nN,nN,nN,nN] (h := ?_)
             refine pz 18 36 #[yY,yY,yY,yY,yY,yY,yY,yY,yY,yY,yY,yY,yY,yY,yY,yY,yY,nN,yY,nN,nN,nN,nN,nN] (h := ?_)
             refine take_ (i := 17) (N := some 35) (v := ?_) (a' := ?_) #[yY,yY,yY,yY,yY,yY,yY,yY,yY,yY,yY,yY,yY,yY,yY,yY,yY,yY,yY,nN,nN,nN,nN,nN] rfl rfl (take_ofW HT_.out HW_.out (by kernel_rfl)) (fun _ _ _ h => h) (Or.inl ⟨by rfl, ?_⟩) hHeld ?_ ?_
             rotate_left
             · rintro w' ⟨s0, s1, s2, s3, s4, s5, s6, s7, s8⟩
               go_simp
               with_reducible rfl
             rotate_left
             · simp only [Act.put, List.setIfInBounds_toArray, List.set_cons_zero, List.set_cons_succ, i64_w, i32_w]
               rfl
             refine take_ (i := 19) (N := some 37) (v := ?_) (a' := ?_) #[yY,yY,yY,yY,yY,yY,yY,yY,yY,yY,yY,yY,yY,yY,yY,yY,yY,yY,yY,yY,nN,nN,nN,nN] rfl rfl (take_ofW HT_.out HW_.out (by kernel_rfl)) (fun _ _ _ h => h) (Or.inl ⟨by rfl, ?_⟩) hHeld ?_ ?_
             rotate_left
             · rintro w' ⟨s0, s1, s2, s3, s4, s5, s6, s7, s8⟩
               go_simp
               with_reducible rfl
             rotate_left
             · simp only [Act.put, List.setIfInBounds_toArray, List.set_cons_zero, List.set_cons_succ, i64_w, i32_w]
               rfl
             refine pz 20 38 #[yY,yY,yY,yY,yY,yY,yY,yY,yY,yY,yY,yY,yY,yY,yY,yY,yY,yY,yY,yY,yY,nN,nN,nN] (h := ?_)
             refine pz 21 39 #[yY,yY,yY,yY,yY,yY,yY,yY,yY,yY,yY,yY,yY,yY,yY,yY,yY,yY,yY,yY,yY,yY,nN,nN] (h := ?_)
             refine pz 22 40 #[yY,yY,yY,yY,yY,yY,yY,yY,yY,yY,yY,yY,yY,yY,yY,yY,yY,yY,yY,yY,yY,yY,yY,nN] (h := ?_)
             refine pz 23 41 #[yY,yY,yY,yY,yY,yY,yY,yY,yY,yY,yY,yY,yY,yY,yY,yY,yY,yY,yY,yY,yY,yY,yY,yY] (h := ?_)
             refine done_ (done_of HT_.out (by kernel_rfl)) ?_
             try go_wp2
             go_roundg k1
             case measure => have := HK1.out; omega
             case rel => exact ⟨(wrap64 (x5_1 + 1)), zq187, H', ⟨by have := HK1.out; omega⟩, ⟨zq177⟩, ⟨zq178⟩, ⟨zq127⟩, ⟨zq98⟩⟩
     · rw [if_neg c9] at H
       exact absurd H (by simp)
   · rw [if_neg c8] at H
     have c8b0 : decide (x5_1 < (t367.length : Int)) = false := decide_eq_false c8
     clear c8
     have H' := Aside0.mk H
     clear H
     obtain ⟨Ao21, co21, eo21⟩ := Kd.R_slice HO_3.out
     subst eo21
     go_wp2
     go_loopg [6] k1 (fun kq v6 w' => ∃ (x6_2 : Int), v6 = .int .i64 x6_2 ∧ Aside0 (r3_numbers.l1 kq t370 x6_2 a0_0 l0_1 l0_2 l0_3 l0_4 l0_5 = some r) ∧ Aside0 (kq ≤ k1) ∧ Aside0 (Kd.R (Kd.int .i64) 3 w' w.heap.size (fun _ => True) v371 t370) ∧ Aside0 (w'.heap[gb366]? = some (.cells #[.int .i64 a0_0, (.slice A0_1 l0_1.length c0_1), (.slice A0_2 l0_2.length c0_2), (.slice A0_3 l0_3.length c0_3), (.slice A0_4 l0_4.length c0_4), (.slice A0_5 l0_5.length c0_5)] 30 (0, 0))) ∧ Aside0 (Below w.heap.size w w'))
     case atStart => exact ⟨(0), zq187, H', ⟨Nat.le_refl _⟩, ⟨by (with_reducible repeat (first | apply Kd.R_alloc | apply Kd.R_drewN | apply Kd.R_drew)); exact Kd.R_mono HO_4.out (fun _ hk => trivial)⟩, ⟨zq127⟩, ⟨zq98⟩⟩
     case round =>
      clear H'
      try clear c1
      try clear p2
      try clear p3
      try clear q3
      try clear hx3
      try clear p6
      try clear c8
      try clear c8b0
      try clear c9
      try clear c13
      try clear c13b0
      try clear c13b1
      try clear c16
      try clear c16b0
      try clear hx373_0
      try clear hx374_0
      try clear hx375_0
      try clear p373
      try clear p374
      try clear p375
      try clear q373
      try clear q374
      try clear q375
      obtain ⟨x6_2, rfl, HA, HK2, HO_4, BK366, HB⟩ := hrel
      cases gk with
      | zero => exact absurd HA.out (by simp [r3_numbers.l1])
      | succ k2 =>
       have H := HA.out
       clear HA
       simp only [r3_numbers.l1] at H
       by_cases c22 : x6_2 < (t370.length : Int)
       · rw [if_pos c22] at H
         have c22b0 : decide (x6_2 < (t370.length : Int)) = true := decide_eq_true c22
         clear c22
         by_cases c23 : 0 ≤ x6_2
         · rw [if_pos c23] at H
           have c23b0 : decide (0 ≤ x6_2) = true := decide_eq_true c23
           clear c23
           by_cases c24 : (rd t370 x6_2) < 0
           · rw [if_pos c24] at H
             have c24b0 : decide ((rd t370 x6_2) < 0) = true := decide_eq_true c24
             clear c24
             obtain rfl := Option.some.inj H
             obtain ⟨Ao25, co25, eo25⟩ := Kd.R_slice HO_4.out
             subst eo25
             try go_wp2
             have n0_ := Aside0.mk (Kd.R_drew HO_4.out)
             have n1_ := Aside0.mk (blk_drew BK366.out)
             have n2_ := Aside0.mk (below_drew1 HB.out)
             clear HO_4
             clear BK366
             clear HB
             have HO_4 := n0_
             have BK366 := n1_
             have HB := n2_
             clear n0_ n1_ n2_
             have p376 : 0 ≤ (x6_2 : Int) := of_decide_eq_true zq186
             have q376 : x6_2 < (t370.length : Int) := of_decide_eq_true zq186
             obtain ⟨ad376, e376, hx376_0⟩ := Kd.at_int (Kd.R_reads' HO_4.out).2.2 x6_2 p376 q376
             cases e376
             replace p376 := eq_true p376
             replace q376 := eq_true q376
             refine start_ (n := 16) (S := fun w' => w'.cell? (ad376.add (x6_2).toNat) = some (.int .i64 (rd t370 x6_2))) (ds := []) #[nN,nN,nN,nN,nN,nN,nN,nN,nN,nN,nN,nN,nN,nN,nN,nN] (by kernel_rfl) rfl rfl (hx376_0) (fun hHeld => ?_); refine with_tabW r3_numbers.tab10 r3_numbers.bits10 (fun HT_ HW_ => ?_)
             generalize wr.drew = w26 at HO_4 BK366 HB hx376_0 hHeld ⊢
             refine pz 0 48 #[yY,nN,nN,nN,nN,nN,nN,nN,nN,nN,nN,nN,nN,nN,nN,nN] (h := ?_)
             refine pz 1 49 #[yY,yY,nN,nN,nN,nN,nN,nN,nN,nN,nN,nN,nN,nN,nN,nN] (h := ?_)
             refine pz 2 50 #[yY,yY,yY,nN,nN,nN,nN,nN,nN,nN,nN,nN,nN,nN,nN,nN] (h := ?_)
             refine take_ (i := 3) (N := some 51) (v := ?_) (a' := ?_) #[yY,yY,yY,yY,nN,nN,nN,nN,nN,nN,nN,nN,nN,nN,nN,nN] rfl rfl (take_ofW HT_.out HW_.out (by kernel_rfl)) (fun _ _ _ h => h) (Or.inl ⟨by rfl, ?_⟩) hHeld ?_ ?_
             rotate_left
             · intro w' s0
               go_simp
               with_reducible rfl
             rotate_left
             · simp only [Act.put, List.setIfInBounds_toArray, List.set_cons_zero, List.set_cons_succ, i64_w, i32_w]
               rfl
             refine pz 4 52 #[yY,yY,yY,yY,yY,nN,nN,nN,nN,nN,nN,nN,nN,nN,nN,nN] (h := ?_)
             refine pz 5 53 #[yY,yY,yY,yY,yY,yY,nN,nN,nN,nN,nN,nN,nN,nN,nN,nN] (h := ?_)
             refine pu 6 54 #[yY,yY,yY,yY,yY,yY,yY,nN,nN,nN,nN,nN,nN,nN,nN,nN] (h := ?_)
             refine pu 7 55 #[yY,yY,yY,yY,yY,yY,yY,yY,nN,nN,nN,nN,nN,nN,nN,nN] (h := ?_)
             refine pu 8 56 #[yY,yY,yY,yY,yY,yY,yY,yY,yY,nN,nN,nN,nN,nN,nN,nN] (h := ?_)
             refine pu 9 57 #[yY,yY,yY,yY,yY,yY,yY,yY,yY,yY,nN,nN,nN,nN,nN,nN] (h := ?_)
             refine pu 10 58 #[yY,yY,yY,yY,yY,yY,yY,yY,yY,yY,yY,nN,nN,nN,nN,nN] (h := ?_)
             refine pu 11 59 #[yY,yY,yY,yY,yY,yY,yY,yY,yY,yY,yY,yY,nN,nN,nN,nN] (h := ?_)
             refine pu 12 60 #[yY,yY,yY,yY,yY,yY,yY,yY,yY,yY,yY,yY,yY,nN,nN,nN] (h := ?_)
             refine pu 13 61 #[yY,yY,yY,yY,yY,yY,yY,yY,yY,yY,yY,yY,yY,yY,nN,nN] (h := ?_)
             refine pu 14 62 #[yY,yY,yY,yY,yY,yY,yY,yY,yY,yY,yY,yY,yY,yY,yY,nN] (h := ?_)
             refine pz 15 63 #[yY,yY,yY,yY,yY,yY,yY,yY,yY,yY,yY,yY,yY,yY,yY,yY] (h := ?_)
             refine done_ (done_of HT_.out (by kernel_rfl)) ?_
             try go_wp2
             go_ret
             exact ⟨zq181, zq98⟩
           · rw [if_neg c24] at H
             have c24b0 : decide ((rd t370 x6_2) < 0) = false := decide_eq_false c24
             clear c24
             by_cases c27 : (rd t370 x6_2) > (wrap64 ((wrap64 (2 * a0_0)) + 1))
             · rw [if_pos c27] at H
               have c27b0 : decide ((wrap64 ((wrap64 (2 * a0_0)) + 1)) < (rd t370 x6_2)) = true := decide_eq_true c27
               clear c27
               obtain rfl := Option.some.inj H
               obtain ⟨Ao28, co28, eo28⟩ := Kd.R_slice HO_4.out
               subst eo28
               try go_wp2
               have n0_ := Aside0.mk (Kd.R_drew HO_4.out)
               have n1_ := Aside0.mk (blk_drew BK366.out)
               have n2_ := Aside0.mk (below_drew1 HB.out)
               clear HO_4
               clear BK366
               clear HB
               have HO_4 := n0_
               have BK366 := n1_
               have HB := n2_
               clear n0_ n1_ n2_
               have p376 : 0 ≤ (x6_2 : Int) := of_decide_eq_true zq186
               have q376 : x6_2 < (t370.length : Int) := of_decide_eq_true zq186
               obtain ⟨ad376, e376, hx376_0⟩ := Kd.at_int (Kd.R_reads' HO_4.out).2.2 x6_2 p376 q376
               cases e376
               replace p376 := eq_true p376
               replace q376 := eq_true q376
               have p377 : 0 ≤ (x6_2 : Int) := of_decide_eq_true zq186
               have q377 : x6_2 < (t370.length : Int) := of_decide_eq_true zq186
               obtain ⟨ad377, e377, hx377_0⟩ := Kd.at_int (Kd.R_reads' HO_4.out).2.2 x6_2 p377 q377
               obtain rfl : ad376 = ad377 := (by injection e377)
               replace p377 := eq_true p377
               replace q377 := eq_true q377
               refine start_ (n := 16) (S := fun w' => w'.cell? ⟨gb366, 0, none⟩ = some (.int .i64 a0_0) ∧ w'.cell? ⟨gb366, 1, none⟩ = some (.slice A0_1 l0_1.length c0_1) ∧ w'.cell? ⟨gb366, 2, none⟩ = some (.slice A0_2 l0_2.length c0_2) ∧ w'.cell? ⟨gb366, 3, none⟩ = some (.slice A0_3 l0_3.length c0_3) ∧ w'.cell? ⟨gb366, 4, none⟩ = some (.slice A0_4 l0_4.length c0_4) ∧ w'.cell? ⟨gb366, 5, none⟩ = some (.slice A0_5 l0_5.length c0_5) ∧ w'.cell? (ad376.add (x6_2).toNat) = some (.int .i64 (rd t370 x6_2)) ∧ w'.cell? (ad376.add (x6_2).toNat) = some (.int .i64 (rd t370 x6_2))) (ds := []) #[nN,nN,nN,nN,nN,nN,nN,nN,nN,nN,nN,nN,nN,nN,nN,nN] (by kernel_rfl) rfl rfl ⟨(blk_cell BK366.out 0).trans rfl, (blk_cell BK366.out 1).trans rfl, (blk_cell BK366.out 2).trans rfl, (blk_cell BK366.out 3).trans rfl, (blk_cell BK366.out 4).trans rfl, (blk_cell BK366.out 5).trans rfl, hx376_0, hx377_0⟩ (fun hHeld => ?_); refine with_tabW r3_numbers.tab10 r3_numbers.bits10 (fun HT_ HW_ => ?_)
               generalize wr.drew = w29 at HO_4 BK366 HB hx376_0 hx377_0 hHeld ⊢
               refine pz 0 48 #[yY,nN,nN,nN,nN,nN,nN,nN,nN,nN,nN,nN,nN,nN,nN,nN] (h := ?_)
               refine pz 1 49 #[yY,yY,nN,nN,nN,nN,nN,nN,nN,nN,nN,nN,nN,nN,nN,nN] (h := ?_)
               refine pz 2 50 #[yY,yY,yY,nN,nN,nN,nN,nN,nN,nN,nN,nN,nN,nN,nN,nN] (h := ?_)
               refine take_ (i := 3) (N := some 51) (v := ?_) (a' := ?_) #[yY,yY,yY,yY,nN,nN,nN,nN,nN,nN,nN,nN,nN,nN,nN,nN] rfl rfl (take_ofW HT_.out HW_.out (by kernel_rfl)) (fun _ _ _ h => h) (Or.inl ⟨by rfl, ?_⟩) hHeld ?_ ?_
               rotate_left
               · rintro w' ⟨s0, s1, s2, s3, s4, s5, s6, s7⟩
                 go_simp
                 with_reducible rfl
               rotate_left
               · simp only [Act.put, List.setIfInBounds_toArray, List.set_cons_zero, List.set_cons_succ, i64_w, i32_w]
                 rfl
               refine pz 4 52 #[yY,yY,yY,yY,yY,nN,nN,nN,nN,nN,nN,nN,nN,nN,nN,nN] (h := ?_)
               refine pz 5 53 #[yY,yY,yY,yY,yY,yY,nN,nN,nN,nN,nN,nN,nN,nN,nN,nN] (h := ?_)
               refine pz 6 54 #[yY,yY,yY,yY,yY,yY,yY,nN,nN,nN,nN,nN,nN,nN,nN,nN] (h := ?_)
               refine pz 7 55 #[yY,yY,yY,yY,yY,yY,yY,yY,nN,nN,nN,nN,nN,nN,nN,nN] (h := ?_)
               refine pz 8 56 #[yY,yY,yY,yY,yY,yY,yY,yY,yY,nN,nN,nN,nN,nN,nN,nN] (h := ?_)
               refine pz 10 58 #[yY,yY,yY,yY,yY,yY,yY,yY,yY,nN,yY,nN,nN,nN,nN,nN] (h := ?_)
               refine take_ (i := 9) (N := some 57) (v := ?_) (a' := ?_) #[yY,yY,yY,yY,yY,yY,yY,yY,yY,yY,yY,nN,nN,nN,nN,nN] rfl rfl (take_ofW HT_.out HW_.out (by kernel_rfl)) (fun _ _ _ h => h) (Or.inl ⟨by rfl, ?_⟩) hHeld ?_ ?_
               rotate_left
               · rintro w' ⟨s0, s1, s2, s3, s4, s5, s6, s7⟩
                 go_simp
                 with_reducible rfl
               rotate_left
               · simp only [Act.put, List.setIfInBounds_toArray, List.set_cons_zero, List.set_cons_succ, i64_w, i32_w]
                 rfl
               refine take_ (i := 11) (N := some 59) (v := ?_) (a' := ?_) #[yY,yY,yY,yY,yY,yY,yY,yY,yY,yY,yY,yY,nN,nN,nN,nN] rfl rfl (take_ofW HT_.out HW_.out (by kernel_rfl)) (fun _ _ _ h => h) (Or.inl ⟨by rfl, ?_⟩) hHeld ?_ ?_
               rotate_left
               · rintro w' ⟨s0, s1, s2, s3, s4, s5, s6, s7⟩
                 go_simp
                 with_reducible rfl
               rotate_left
               · simp only [Act.put, List.setIfInBounds_toArray, List.set_cons_zero, List.set_cons_succ, i64_w, i32_w]
                 rfl
               refine pz 12 60 #[yY,yY,yY,yY,yY,yY,yY,yY,yY,yY,yY,yY,yY,nN,nN,nN] (h := ?_)
               refine pz 13 61 #[yY,yY,yY,yY,yY,yY,yY,yY,yY,yY,yY,yY,yY,yY,nN,nN] (h := ?_)
               refine pz 14 62 #[yY,yY,yY,yY,yY,yY,yY,yY,yY,yY,yY,yY,yY,yY,yY,nN] (h := ?_)
               refine pz 15 63 #[yY,yY,yY,yY,yY,yY,yY,yY,yY,yY,yY,yY,yY,yY,yY,yY] (h := ?_)
               refine done_ (done_of HT_.out (by kernel_rfl)) ?_
               try go_wp2
               go_ret
               exact ⟨zq181, zq98⟩
             · rw [if_neg c27] at H
               have c27b0 : decide ((wrap64 ((wrap64 (2 * a0_0)) + 1)) < (rd t370 x6_2)) = false := decide_eq_false c27
               clear c27
               have H' := Aside0.mk H
               clear H
               obtain ⟨Ao30, co30, eo30⟩ := Kd.R_slice HO_4.out
               subst eo30
               try go_wp2
               have n0_ := Aside0.mk (Kd.R_drew HO_4.out)
               have n1_ := Aside0.mk (blk_drew BK366.out)
               have n2_ := Aside0.mk (below_drew1 HB.out)
               clear HO_4
               clear BK366
               clear HB
               have HO_4 := n0_
               have BK366 := n1_
               have HB := n2_
               clear n0_ n1_ n2_
               have p376 : 0 ≤ (x6_2 : Int) := of_decide_eq_true zq186
               have q376 : x6_2 < (t370.length : Int) := of_decide_eq_true zq186
               obtain ⟨ad376, e376, hx376_0⟩ := Kd.at_int (Kd.R_reads' HO_4.out).2.2 x6_2 p376 q376
               cases e376
               replace p376 := eq_true p376
               replace q376 := eq_true q376
               have p377 : 0 ≤ (x6_2 : Int) := of_decide_eq_true zq186
               have q377 : x6_2 < (t370.length : Int) := of_decide_eq_true zq186
               obtain ⟨ad377, e377, hx377_0⟩ := Kd.at_int (Kd.R_reads' HO_4.out).2.2 x6_2 p377 q377
               obtain rfl : ad376 = ad377 := (by injection e377)
               replace p377 := eq_true p377
               replace q377 := eq_true q377
               refine start_ (n := 16) (S := fun w' => w'.cell? ⟨gb366, 0, none⟩ = some (.int .i64 a0_0) ∧ w'.cell? ⟨gb366, 1, none⟩ = some (.slice A0_1 l0_1.length c0_1) ∧ w'.cell? ⟨gb366, 2, none⟩ = some (.slice A0_2 l0_2.length c0_2) ∧ w'.cell? ⟨gb366, 3, none⟩ = some (.slice A0_3 l0_3.length c0_3) ∧ w'.cell? ⟨gb366, 4, none⟩ = some (.slice A0_4 l0_4.length c0_4) ∧ w'.cell? ⟨gb366, 5, none⟩ = some (.slice A0_5 l0_5.length c0_5) ∧ w'.cell? (ad376.add (x6_2).toNat) = some (.int .i64 (rd t370 x6_2)) ∧ w'.cell? (ad376.add (x6_2).toNat) = some (.int .i64 (rd t370 x6_2))) (ds := []) #[nN,nN,nN,nN,nN,nN,nN,nN,nN,nN,nN,nN,nN,nN,nN,nN] (by kernel_rfl) rfl rfl ⟨(blk_cell BK366.out 0).trans rfl, (blk_cell BK366.out 1).trans rfl, (blk_cell BK366.out 2).trans rfl, (blk_cell BK366.out 3).trans rfl, (blk_cell BK366.out 4).trans rfl, (blk_cell BK366.out 5).trans rfl, hx376_0, hx377_0⟩ (fun hHeld => ?_); refine with_tabW r3_numbers.tab10 r3_numbers.bits10 (fun HT_ HW_ => ?_)
               generalize wr.drew = w31 at HO_4 BK366 HB hx376_0 hx377_0 hHeld ⊢
               refine pz 0 48 #[yY,nN,nN,nN,nN,nN,nN,nN,nN,nN,nN,nN,nN,nN,nN,nN] (h := ?_)
               refine pz 1 49 #[yY,yY,nN,nN,nN,nN,nN,nN,nN,nN,nN,nN,nN,nN,nN,nN] (h := ?_)
               refine pz 2 50 #[yY,yY,yY,nN,nN,nN,nN,nN,nN,nN,nN,nN,nN,nN,nN,nN] (h := ?_)
               refine take_ (i := 3) (N := some 51) (v := ?_) (a' := ?_) #[yY,yY,yY,yY,nN,nN,nN,nN,nN,nN,nN,nN,nN,nN,nN,nN] rfl rfl (take_ofW HT_.out HW_.out (by kernel_rfl)) (fun _ _ _ h => h) (Or.inl ⟨by rfl, ?_⟩) hHeld ?_ ?_
               rotate_left
               · rintro w' ⟨s0, s1, s2, s3, s4, s5, s6, s7⟩
                 go_simp
                 with_reducible rfl
               rotate_left
               · simp only [Act.put, List.setIfInBounds_toArray, List.set_cons_zero, List.set_cons_succ, i64_w, i32_w]
                 rfl
               refine pz 4 52 #[yY,yY,yY,yY,yY,nN,nN,nN,nN,nN,nN,nN,nN,nN,nN,nN] (h := ?_)
               refine pz 5 53 #[yY,yY,yY,yY,yY,yY,nN,nN,nN,nN,nN,nN,nN,nN,nN,nN] (h := ?_)
               refine pz 6 54 #[yY,yY,yY,yY,yY,yY,yY,nN,nN,nN,nN,nN,nN,nN,nN,nN] (h := ?_)
               refine pz 7 55 #[yY,yY,yY,yY,yY,yY,yY,yY,nN,nN,nN,nN,nN,nN,nN,nN] (h := ?_)
               refine pz 8 56 #[yY,yY,yY,yY,yY,yY,yY,yY,yY,nN,nN,nN,nN,nN,nN,nN] (h := ?_)
               refine pz 10 58 #[yY,yY,yY,yY,yY,yY,yY,yY,yY,nN,yY,nN,nN,nN,nN,nN] (h := ?_)
               refine take_ (i := 9) (N := some 57) (v := ?_) (a' := ?_) #[yY,yY,yY,yY,yY,yY,yY,yY,yY,yY,yY,nN,nN,nN,nN,nN] rfl rfl (take_ofW HT_.out HW_.out (by kernel_rfl)) (fun _ _ _ h => h) (Or.inl ⟨by rfl, ?_⟩) hHeld ?_ ?_
               rotate_left
               · rintro w' ⟨s0, s1, s2, s3, s4, s5, s6, s7⟩
                 go_simp
                 with_reducible rfl
               rotate_left
               · simp only [Act.put, List.setIfInBounds_toArray, List.set_cons_zero, List.set_cons_succ, i64_w, i32_w]
                 rfl
               refine take_ (i := 11) (N := some 59) (v := ?_) (a' := ?_) #[yY,yY,yY,yY,yY,yY,yY,yY,yY,yY,yY,yY,nN,nN,nN,nN] rfl rfl (take_ofW HT_.out HW_.out (by kernel_rfl)) (fun _ _ _ h => h) (Or.inl ⟨by rfl, ?_⟩) hHeld ?_ ?_
               rotate_left
               · rintro w' ⟨s0, s1, s2, s3, s4, s5, s6, s7⟩
                 go_simp
                 with_reducible rfl
               rotate_left
               · simp only [Act.put, List.setIfInBounds_toArray, List.set_cons_zero, List.set_cons_succ, i64_w, i32_w]
                 rfl
               refine pz 12 60 #[yY,yY,yY,yY,yY,yY,yY,yY,yY,yY,yY,yY,yY,nN,nN,nN] (h := ?_)
               refine pz 13 61 #[yY,yY,yY,yY,yY,yY,yY,yY,yY,yY,yY,yY,yY,yY,nN,nN] (h := ?_)
               refine pz 14 62 #[yY,yY,yY,yY,yY,yY,yY,yY,yY,yY,yY,yY,yY,yY,yY,nN] (h := ?_)
               refine pz 15 63 #[yY,yY,yY,yY,yY,yY,yY,yY,yY,yY,yY,yY,yY,yY,yY,yY] (h := ?_)
               refine done_ (done_of HT_.out (by kernel_rfl)) ?_
               try go_wp2
               go_roundg k2
               case measure => have := HK1.out; have := HK2.out; omega
               case rel => exact ⟨(wrap64 (x6_2 + 1)), zq187, H', ⟨by have := HK1.out; have := HK2.out; omega⟩, ⟨zq178⟩, ⟨zq127⟩, ⟨zq98⟩⟩
         · rw [if_neg c23] at H
           exact absurd H (by simp)
       · rw [if_neg c22] at H
         have c22b0 : decide (x6_2 < (t370.length : Int)) = false := decide_eq_false c22
         clear c22
         have H' := Aside0.mk H
         clear H
         obtain ⟨Ao32, co32, eo32⟩ := Kd.R_slice HO_4.out
         subst eo32
         go_wp2
         go_loopg [7] k2 (fun kq v7 w' => ∃ (x7_3 : Int), v7 = .int .i64 x7_3 ∧ Aside0 (r3_numbers.l2 kq x7_3 a0_0 l0_1 l0_2 l0_3 l0_4 l0_5 = some r) ∧ Aside0 (kq ≤ k2) ∧ Aside0 (w'.heap[gb366]? = some (.cells #[.int .i64 a0_0, (.slice A0_1 l0_1.length c0_1), (.slice A0_2 l0_2.length c0_2), (.slice A0_3 l0_3.length c0_3), (.slice A0_4 l0_4.length c0_4), (.slice A0_5 l0_5.length c0_5)] 30 (0, 0))) ∧ Aside0 (Below w.heap.size w w'))
         case atStart => exact ⟨(0), zq187, H', ⟨Nat.le_refl _⟩, ⟨zq127⟩, ⟨zq98⟩⟩
         case round =>
          clear H'
          try clear c1
          try clear c2
          try clear p2
          try clear p3
          try clear q3
          try clear hx3
          try clear p6
          try clear c8
          try clear c8b0
          try clear c9
          try clear c13
          try clear c13b0
          try clear c13b1
          try clear c16
          try clear c16b0
          try clear c22
          try clear c22b0
          try clear c23
          try clear c23b0
          try clear c24
          try clear c24b0
          try clear c27
          try clear c27b0
          try clear hx373_0
          try clear hx374_0
          try clear hx375_0
          try clear hx376_0
          try clear hx377_0
          try clear p2
          try clear p3
          try clear p373
          try clear p374
          try clear p375
          try clear p376
          try clear p377
          try clear p6
          try clear q3
          try clear q373
          try clear q374
          try clear q375
          try clear q376
          try clear q377
          obtain ⟨x7_3, rfl, HA, HK3, BK366, HB⟩ := hrel
          cases gk with
          | zero => exact absurd HA.out (by simp [r3_numbers.l2])
          | succ k3 =>
           have H := HA.out
           clear HA
           simp only [r3_numbers.l2] at H
           by_cases c33 : x7_3 < (l0_2.length : Int)
           · rw [if_pos c33] at H
             have c33b0 : decide (x7_3 < (l0_2.length : Int)) = true := decide_eq_true c33
             clear c33
             by_cases c34 : 0 ≤ x7_3
             · rw [if_pos c34] at H
               have c34b0 : decide (0 ≤ x7_3) = true := decide_eq_true c34
               clear c34
               by_cases c35 : ((rd_T56 l0_2 x7_3).f2) < 0
               · rw [if_pos c35] at H
                 have c35b0 : decide (((rd_T56 l0_2 x7_3).f2) < 0) = true := decide_eq_true c35
                 clear c35
                 obtain rfl := Option.some.inj H
                 obtain ⟨b36_0, b36_1, b36_2, b36_3, b36_4, b36_5, d36_0, d36_1, d36_2, d36_3, d36_4, d36_5⟩ := bk6 BK366.out
                 have p378 : 0 ≤ (x7_3 : Int) := of_decide_eq_true zq186
                 have q378 : x7_3 < (l0_2.length : Int) := of_decide_eq_true zq186
                 obtain ⟨ad378, e378, hx378_0, hx378_1, hx378_2⟩ := at_T56 HR0_2.out x7_3 p378 q378
                 cases e378
                 replace hx378_0 := (HB.out.cell (World.block_lt_of_cell? w _ hx378_0)).trans hx378_0
                 replace hx378_1 := (HB.out.cell (World.block_lt_of_cell? w _ hx378_1)).trans hx378_1
                 replace hx378_2 := (HB.out.cell (World.block_lt_of_cell? w _ hx378_2)).trans hx378_2
                 replace p378 := eq_true p378
                 replace q378 := eq_true q378
                 go_wp2
                 go_ret
                 exact ⟨zq181, zq98⟩
               · rw [if_neg c35] at H
                 have c35b0 : decide (((rd_T56 l0_2 x7_3).f2) < 0) = false := decide_eq_false c35
                 clear c35
                 by_cases c37 : ((rd_T56 l0_2 x7_3).f2) > 2
                 · rw [if_pos c37] at H
                   have c37b0 : decide (2 < ((rd_T56 l0_2 x7_3).f2)) = true := decide_eq_true c37
                   clear c37
                   obtain rfl := Option.some.inj H
                   obtain ⟨b38_0, b38_1, b38_2, b38_3, b38_4, b38_5, d38_0, d38_1, d38_2, d38_3, d38_4, d38_5⟩ := bk6 BK366.out
                   have p378 : 0 ≤ (x7_3 : Int) := of_decide_eq_true zq186
                   have q378 : x7_3 < (l0_2.length : Int) := of_decide_eq_true zq186
                   obtain ⟨ad378, e378, hx378_0, hx378_1, hx378_2⟩ := at_T56 HR0_2.out x7_3 p378 q378
                   cases e378
                   replace hx378_0 := (HB.out.cell (World.block_lt_of_cell? w _ hx378_0)).trans hx378_0
                   replace hx378_1 := (HB.out.cell (World.block_lt_of_cell? w _ hx378_1)).trans hx378_1
                   replace hx378_2 := (HB.out.cell (World.block_lt_of_cell? w _ hx378_2)).trans hx378_2
                   replace p378 := eq_true p378
                   replace q378 := eq_true q378
                   have p379 : 0 ≤ (x7_3 : Int) := of_decide_eq_true zq186
                   have q379 : x7_3 < (l0_2.length : Int) := of_decide_eq_true zq186
                   obtain ⟨ad379, e379, hx379_0, hx379_1, hx379_2⟩ := at_T56 HR0_2.out x7_3 p379 q379
                   obtain rfl : ad378 = ad379 := (by injection e379)
                   replace hx379_0 := (HB.out.cell (World.block_lt_of_cell? w _ hx379_0)).trans hx379_0
                   replace hx379_1 := (HB.out.cell (World.block_lt_of_cell? w _ hx379_1)).trans hx379_1
                   replace hx379_2 := (HB.out.cell (World.block_lt_of_cell? w _ hx379_2)).trans hx379_2
                   replace p379 := eq_true p379
                   replace q379 := eq_true q379
                   go_wp2
                   go_ret
                   exact ⟨zq181, zq98⟩
                 · rw [if_neg c37] at H
                   have c37b0 : decide (2 < ((rd_T56 l0_2 x7_3).f2)) = false := decide_eq_false c37
                   clear c37
                   have H' := Aside0.mk H
                   clear H
                   obtain ⟨b39_0, b39_1, b39_2, b39_3, b39_4, b39_5, d39_0, d39_1, d39_2, d39_3, d39_4, d39_5⟩ := bk6 BK366.out
                   have p378 : 0 ≤ (x7_3 : Int) := of_decide_eq_true zq186
                   have q378 : x7_3 < (l0_2.length : Int) := of_decide_eq_true zq186
                   obtain ⟨ad378, e378, hx378_0, hx378_1, hx378_2⟩ := at_T56 HR0_2.out x7_3 p378 q378
                   cases e378
                   replace hx378_0 := (HB.out.cell (World.block_lt_of_cell? w _ hx378_0)).trans hx378_0
                   replace hx378_1 := (HB.out.cell (World.block_lt_of_cell? w _ hx378_1)).trans hx378_1
                   replace hx378_2 := (HB.out.cell (World.block_lt_of_cell? w _ hx378_2)).trans hx378_2
                   replace p378 := eq_true p378
                   replace q378 := eq_true q378
                   have p379 : 0 ≤ (x7_3 : Int) := of_decide_eq_true zq186
                   have q379 : x7_3 < (l0_2.length : Int) := of_decide_eq_true zq186
                   obtain ⟨ad379, e379, hx379_0, hx379_1, hx379_2⟩ := at_T56 HR0_2.out x7_3 p379 q379
                   obtain rfl : ad378 = ad379 := (by injection e379)
                   replace hx379_0 := (HB.out.cell (World.block_lt_of_cell? w _ hx379_0)).trans hx379_0
                   replace hx379_1 := (HB.out.cell (World.block_lt_of_cell? w _ hx379_1)).trans hx379_1
                   replace hx379_2 := (HB.out.cell (World.block_lt_of_cell? w _ hx379_2)).trans hx379_2
                   replace p379 := eq_true p379
                   replace q379 := eq_true q379
                   go_wp2
                   go_roundg k3
                   case measure => have := HK1.out; have := HK2.out; have := HK3.out; omega
                   case rel => exact ⟨(wrap64 (x7_3 + 1)), zq187, H', ⟨zq183⟩, ⟨zq127⟩, ⟨zq98⟩⟩
             · rw [if_neg c34] at H
               exact absurd H (by simp)
           · rw [if_neg c33] at H
             have c33b0 : decide (x7_3 < (l0_2.length : Int)) = false := decide_eq_false c33
             clear c33
             obtain rfl := Option.some.inj H
             obtain ⟨b40_0, b40_1, b40_2, b40_3, b40_4, b40_5, d40_0, d40_1, d40_2, d40_3, d40_4, d40_5⟩ := bk6 BK366.out
             go_wp2
             go_ret
             exact ⟨zq181, zq98⟩
mutual
def r3_Order.l0 : Nat → List Bool → Int → Int → List Int → List (S56) → List (S56) → List Int → List Int → Option (List Int)
 | 0, _, _, _, _, _, _, _, _ => none
 | k + 1, x3, x4, x313000, x313001, x313002, x313003, x313004, x313005 => if x4 ≤ x313000 then (if 0 ≤ x4 then (if x4 < (x3.length : Int) then (r3_Order.l0 k (x3.set (x4 : Int).toNat true) (wrap64 (x4 + 1)) x313000 x313001 x313002 x313003 x313004 x313005) else (none)) else (none)) else (r3_Order.l1 k x3 0 x313000 x313001 x313002 x313003 x313004 x313005)
def r3_Order.l1 : Nat → List Bool → Int → Int → List Int → List (S56) → List (S56) → List Int → List Int → Option (List Int)
 | 0, _, _, _, _, _, _, _, _ => none
 | k + 1, x3, x5, x313000, x313001, x313002, x313003, x313004, x313005 => if x5 < (x313003.length : Int) then (if 0 ≤ x5 then (if 0 ≤ (wrap64 (Int.tdiv ((rd_T56 x313003 x5).f0) 2)) then (if (wrap64 (Int.tdiv ((rd_T56 x313003 x5).f0) 2)) < (x3.length : Int) then (r3_Order.l1 k (x3.set ((wrap64 (Int.tdiv ((rd_T56 x313003 x5).f0) 2)) : Int).toNat false) (wrap64 (x5 + 1)) x313000 x313001 x313002 x313003 x313004 x313005) else (none)) else (none)) else (none)) else (r3_Order.l2 k x3 ([] : List Int) x313000 x313001 x313002 x313003 x313004 x313005)
def r3_Order.l2 : Nat → List Bool → List Int → Int → List Int → List (S56) → List (S56) → List Int → List Int → Option (List Int)
 | 0, _, _, _, _, _, _, _, _ => none
 | k + 1, x3, x6, x313000, x313001, x313002, x313003, x313004, x313005 => if (x6.length : Int) < (x313003.length : Int) then (r3_Order.l3 k x3 x6 (-1) (wrap64 ((x313003.length : Int) - 1)) x313000 x313001 x313002 x313003 x313004 x313005) else (some x6)
def r3_Order.l3 : Nat → List Bool → List Int → Int → Int → Int → List Int → List (S56) → List (S56) → List Int → List Int → Option (List Int)
 | 0, _, _, _, _, _, _, _, _, _, _ => none
 | k + 1, x3, x6, x7, x8, x313000, x313001, x313002, x313003, x313004, x313005 => if x8 ≥ 0 then (if 0 ≤ x8 then (if x8 < (x313003.length : Int) then (if 0 ≤ (wrap64 (Int.tdiv ((rd_T56 x313003 x8).f0) 2)) then (if (wrap64 (Int.tdiv ((rd_T56 x313003 x8).f0) 2)) < (x3.length : Int) then (if (rdOf false x3 (wrap64 (Int.tdiv ((rd_T56 x313003 x8).f0) 2)) = true) then (r3_Order.l3 k x3 x6 x7 (wrap64 (x8 - 1)) x313000 x313001 x313002 x313003 x313004 x313005) else (if 0 ≤ (wrap64 (Int.tdiv ((rd_T56 x313003 x8).f1) 2)) then (if (wrap64 (Int.tdiv ((rd_T56 x313003 x8).f1) 2)) < (x3.length : Int) then (if rdOf false x3 (wrap64 (Int.tdiv ((rd_T56 x313003 x8).f1) 2)) = true then (if 0 ≤ (wrap64 (Int.tdiv ((rd_T56 x313003 x8).f2) 2)) then (if (wrap64 (Int.tdiv ((rd_T56 x313003 x8).f2) 2)) < (x3.length : Int) then (if rdOf false x3 (wrap64 (Int.tdiv ((rd_T56 x313003 x8).f2) 2)) = true then (r3_Order.l3 k x3 x6 x8 (wrap64 (x8 - 1)) x313000 x313001 x313002 x313003 x313004 x313005) else (r3_Order.l3 k x3 x6 x7 (wrap64 (x8 - 1)) x313000 x313001 x313002 x313003 x313004 x313005)) else (none)) else (none)) else (r3_Order.l3 k x3 x6 x7 (wrap64 (x8 - 1)) x313000 x313001 x313002 x313003 x313004 x313005)) else (none)) else (none))) else (none)) else (none)) else (none)) else (none)) else (if x7 < 0 then (some x6) else (if 0 ≤ x7 then (if x7 < (x313003.length : Int) then (if 0 ≤ (wrap64 (Int.tdiv ((rd_T56 x313003 x7).f0) 2)) then (if (wrap64 (Int.tdiv ((rd_T56 x313003 x7).f0) 2)) < (x3.length : Int) then (if x6.length < 17592186044416 then (r3_Order.l2 k (x3.set ((wrap64 (Int.tdiv ((rd_T56 x313003 x7).f0) 2)) : Int).toNat true) (x6 ++ [x7]) x313000 x313001 x313002 x313003 x313004 x313005) else (none)) else (none)) else (none)) else (none)) else (none)))
end
def r3_Order.f (k : Nat) (a0_0 : Int) (l0_1 : List Int) (l0_2 : List (S56)) (l0_3 : List (S56)) (l0_4 : List Int) (l0_5 : List Int) : Option (List Int) := if 0 ≤ (wrap64 (a0_0 + 1)) then (if (wrap64 (a0_0 + 1) : Int).toNat ≤ 281474976710656 then (r3_Order.l0 k (List.replicate (wrap64 (a0_0 + 1) : Int).toNat false) 0 a0_0 l0_1 l0_2 l0_3 l0_4 l0_5) else (none)) else (none)
set_option maxHeartbeats 8000000 in
set_option maxRecDepth 100000 in
theorem r3_Order.calls (k : Nat) (a0_0 : Int) (A0_1 : Option Addr) (c0_1 : Nat) (l0_1 : List Int) (A0_2 : Option Addr) (c0_2 : Nat) (l0_2 : List (S56)) (A0_3 : Option Addr) (c0_3 : Nat) (l0_3 : List (S56)) (A0_4 : Option Addr) (c0_4 : Nat) (l0_4 : List Int) (A0_5 : Option Addr) (c0_5 : Nat) (l0_5 : List Int) (r : List Int) (w : World) (hr0_1 : Kd.C (Kd.int .i64) w A0_1 l0_1.length l0_1) (hc0_1 : l0_1.length ≤ c0_1) (hr0_2 : Kd.C k56 w A0_2 l0_2.length l0_2) (hc0_2 : l0_2.length ≤ c0_2) (hr0_3 : Kd.C k56 w A0_3 l0_3.length l0_3) (hc0_3 : l0_3.length ≤ c0_3) (hr0_4 : Kd.C (Kd.int .i64) w A0_4 l0_4.length l0_4) (hc0_4 : l0_4.length ≤ c0_4) (hr0_5 : Kd.C (Kd.int .i64) w A0_5 l0_5.length l0_5) (hc0_5 : l0_5.length ≤ c0_5) (h : r3_Order.f k a0_0 l0_1 l0_2 l0_3 l0_4 l0_5 = some r) :
 Calls Try.prog 39 #[.agg #[.int .i64 a0_0, .slice A0_1 l0_1.length c0_1, .slice A0_2 l0_2.length c0_2, .slice A0_3 l0_3.length c0_3, .slice A0_4 l0_4.length c0_4, .slice A0_5 l0_5.length c0_5]] w fun e w' => ∃ v0_ : Value, e = .returned (v0_) ∧ Kd.R (Kd.int .i64) 3 w' w.heap.size (fun _ => True) v0_ r ∧ Below w.heap.size w w' := by
 have hu30 := Try.underlying30
 have hu56 := Try.underlying56
 have HR0_1 := Aside0.mk hr0_1
 have HC0_1 := Aside0.mk hc0_1
 clear hr0_1 hc0_1
 have HR0_2 := Aside0.mk hr0_2
 have HC0_2 := Aside0.mk hc0_2
 clear hr0_2 hc0_2
 have HR0_3 := Aside0.mk hr0_3
 have HC0_3 := Aside0.mk hc0_3
 clear hr0_3 hc0_3
 have HR0_4 := Aside0.mk hr0_4
 have HC0_4 := Aside0.mk hc0_4
 clear hr0_4 hc0_4
 have HR0_5 := Aside0.mk hr0_5
 have HC0_5 := Aside0.mk hc0_5
 clear hr0_5 hc0_5
 have HB := Aside0.mk (Below.refl w.heap.size w)
 have H : (if 0 ≤ (wrap64 (a0_0 + 1)) then (if (wrap64 (a0_0 + 1) : Int).toNat ≤ 281474976710656 then (r3_Order.l0 k (List.replicate (wrap64 (a0_0 + 1) : Int).toNat false) 0 a0_0 l0_1 l0_2 l0_3 l0_4 l0_5) else (none)) else (none)) = some r := h
 clear h
 obtain ⟨ji2, hji2⟩ : ∃ j_ : Int, (wrap64 (a0_0 + 1)) = j_ := ⟨_, rfl⟩
 replace H : (if 0 ≤ (ji2) then (if (ji2 : Int).toNat ≤ 281474976710656 then (r3_Order.l0 k (List.replicate (ji2 : Int).toNat false) 0 a0_0 l0_1 l0_2 l0_3 l0_4 l0_5) else (none)) else (none)) = some r := by first | (rw [hji2] at H; exact H) | (simp only [hji2] at H ⊢; exact H)
 have hji2w : (IntKind.i64.wrap (a0_0 + 1)) = ji2 := (i64_w _).trans hji2
 by_cases c3 : 0 ≤ (ji2)
 · rw [if_pos c3] at H
   have c3b0 := eq_true c3
   have c3b1 : decide (0 ≤ (ji2)) = true := decide_eq_true c3
   clear c3
   by_cases c4 : (ji2 : Int).toNat ≤ 281474976710656
   · rw [if_pos c4] at H
     have c4b0 := eq_true c4
     have c4b1 : decide ((ji2 : Int).toNat ≤ 281474976710656) = true := decide_eq_true c4
     clear c4
     obtain ⟨y313, hy313⟩ : ∃ y_ : List Bool, y_ = (List.replicate (ji2 : Int).toNat false) := ⟨_, rfl⟩
     replace H : (r3_Order.l0 k y313 0 a0_0 l0_1 l0_2 l0_3 l0_4 l0_5) = some r := by first | (rw [hy313]; with_reducible exact H) | (have H2_ := (Option.bind_some _ _).symm.trans H; rw [hy313]; with_reducible exact H2_) | (have H2_ := (Option.bind_some _ _).symm.trans H; with_reducible exact H2_) | with_reducible exact H | (rw [hy313]; exact H) | exact H
     have Ny313 := Aside0.mk hy313
     clear hy313
     have H' := Aside0.mk H
     clear H
     go_enter Try.func39, Try.ntmps39
     go_wp2_with (first | ((with_reducible refine gate_dst (N := 1) rfl ?_); refine box_event ?hg (N := 1) ?hd (cs := #[.int .i64 a0_0, .slice A0_1 l0_1.length c0_1, .slice A0_2 l0_2.length c0_2, .slice A0_3 l0_3.length c0_3, .slice A0_4 l0_4.length c0_4, .slice A0_5 l0_5.length c0_5]) (t := 30) ?hr ?_; (case hd => rfl); (case hg => rfl); (case hr => first | (go_simp; done) | (go_simp; rfl)); intro gb312 hg w5 hbox hb; have n0_ := Aside0.mk (below_step zq109 hb); have n1_ := Aside0.mk (hbox); have n2_ := Aside0.mk ((zq89 : w.heap.size ≤ gb312)); have n3_ := Aside0.mk ((zq89 : w.heap.size ≤ gb312)); clear HB; have HB := n0_; have BK312 := n1_; have GW312 := n2_; have GE312 := n3_; clear n0_ n1_ n2_ n3_; clear hb hbox hg; obtain ⟨b6_0, b6_1, b6_2, b6_3, b6_4, b6_5, d6_0, d6_1, d6_2, d6_3, d6_4, d6_5⟩ := bk6 BK312.out) | ((with_reducible refine gate_dst (N := 13) rfl ?_); refine Kd.R_make Kd.bool _ 4 rfl (N := 13) rfl 76 _ _ rfl ji2 rfl rfl Try.underlying76 (.bool false) 1 info4 rfl (by decide) (by omega) false (ok := fun _ => True) (okp := fun _ => True) rfl (fun _ hk => hk) trivial (of_decide_eq_true zq186) (Nat.le_trans (Nat.mul_le_mul_right _ (of_decide_eq_true zq186 : ji2.toNat ≤ 281474976710656)) (by omega)) (Below.refl _ _) (Nat.le_refl _) ?_; intro v314 w7 ho8 hb hg_ hnew_; clear hg_ hnew_; (first | rw [← Ny313.out] at ho8 | (simp only [Int.reduceToNat] at ho8; rw [← Ny313.out] at ho8)); have n0_ := Aside0.mk (Kd.R_lower ho8 (below_size zq95)); have n1_ := Aside0.mk (blk_below (g := gb312) (o := .cells #[.int .i64 a0_0, .slice A0_1 l0_1.length c0_1, .slice A0_2 l0_2.length c0_2, .slice A0_3 l0_3.length c0_3, .slice A0_4 l0_4.length c0_4, .slice A0_5 l0_5.length c0_5] 30 (0, 0)) zq124 hb); have n2_ := Aside0.mk (below_step zq95 hb); clear BK312; clear HB; have HO315 := n0_; have BK312 := n1_; have HB := n2_; clear n0_ n1_ n2_; clear hb ho8))
     go_loopg [4] k (fun kq v4 w' => ∃ (x3_1 : List Bool) (x4_1 : Int), v4 = .int .i64 x4_1 ∧ Aside0 (r3_Order.l0 kq x3_1 x4_1 a0_0 l0_1 l0_2 l0_3 l0_4 l0_5 = some r) ∧ Aside0 (kq ≤ k) ∧ Aside0 (Kd.R Kd.bool 4 w' w.heap.size (fun _ => True) v314 x3_1) ∧ Aside0 (w'.heap[gb312]? = some (.cells #[.int .i64 a0_0, (.slice A0_1 l0_1.length c0_1), (.slice A0_2 l0_2.length c0_2), (.slice A0_3 l0_3.length c0_3), (.slice A0_4 l0_4.length c0_4), (.slice A0_5 l0_5.length c0_5)] 30 (0, 0))) ∧ Aside0 (Below w.heap.size w w'))
     case atStart => exact ⟨(y313), (0), zq187, H', ⟨Nat.le_refl _⟩, ⟨by (with_reducible repeat (first | apply Kd.R_alloc | apply Kd.R_drewN | apply Kd.R_drew)); exact HO315.out⟩, ⟨zq124⟩, ⟨zq95⟩⟩
     case round =>
      clear H'
      try clear p2
      try clear c3
      try clear c3b0
      try clear c3b1
      try clear c4
      try clear c4b0
      try clear c4b1
      try clear p6
      try clear b6_0
      try clear b6_1
      try clear b6_2
      try clear b6_3
      try clear b6_4
      try clear b6_5
      try clear d6_0
      try clear d6_1
      try clear d6_2
      try clear d6_3
      try clear d6_4
      try clear d6_5
      obtain ⟨x3_1, x4_1, rfl, HA, HK1, HO_3, BK312, HB⟩ := hrel
      cases gk with
      | zero => exact absurd HA.out (by simp [r3_Order.l0])
      | succ k1 =>
       have H := HA.out
       clear HA
       simp only [r3_Order.l0] at H
       by_cases c9 : x4_1 ≤ a0_0
       · rw [if_pos c9] at H
         have c9b0 : decide (x4_1 ≤ a0_0) = true := decide_eq_true c9
         clear c9
         by_cases c10 : 0 ≤ x4_1
         · rw [if_pos c10] at H
           have c10b0 : decide (0 ≤ x4_1) = true := decide_eq_true c10
           clear c10
           by_cases c11 : x4_1 < (x3_1.length : Int)
           · rw [if_pos c11] at H
             have c11b0 : decide (x4_1 < (x3_1.length : Int)) = true := decide_eq_true c11
             clear c11
             obtain ⟨y316, hy316⟩ : ∃ y_ : List Bool, y_ = (x3_1.set (x4_1 : Int).toNat true) := ⟨_, rfl⟩
             replace H : (r3_Order.l0 k1 y316 (wrap64 (x4_1 + 1)) a0_0 l0_1 l0_2 l0_3 l0_4 l0_5) = some r := by first | (rw [hy316]; with_reducible exact H) | (have H2_ := (Option.bind_some _ _).symm.trans H; rw [hy316]; with_reducible exact H2_) | (have H2_ := (Option.bind_some _ _).symm.trans H; with_reducible exact H2_) | with_reducible exact H | (rw [hy316]; exact H) | exact H
             have Ny316 := Aside0.mk hy316
             clear hy316
             have H' := Aside0.mk H
             clear H
             obtain ⟨b13_0, b13_1, b13_2, b13_3, b13_4, b13_5, d13_0, d13_1, d13_2, d13_3, d13_4, d13_5⟩ := bk6 BK312.out
             have p12 : 0 ≤ (x4_1 : Int) := of_decide_eq_true zq186
             have q12 : (x4_1 : Int) < ((x3_1.length : Int) : Int) := of_decide_eq_true zq186
             obtain ⟨go12, co12, eo12, gb12, gl12, cl12, HG12⟩ := Kd.R_form HO_3.out (by omega)
             (first | cases eo12 | (injection eo12 with ea_ en_ ec_; (first | subst ea_ | (injection ea_ with ea_; subst ea_)); subst ec_; clear en_))
             have GB12 := Aside0.mk gb12
             have GG12 := Aside0.mk HG12
             clear gb12 gl12 HG12
             obtain ⟨hx12_0, hf12_0⟩ := Kd.R_celln false HO_3.out (x4_1 : Int) p12 q12
             replace p12 := eq_true p12
             replace q12 := eq_true q12
             have HP14 := Kd.R_putg HO_3.out (x4_1 : Int) true
             go_wp2_with (first | ((with_reducible refine gate_store (t := 4) (p := 22) rfl ?_); refine store_event (t := 4) (p := 22) (v := ?vo_w15) (w1 := (wr.setCell ⟨go12, (x4_1 : Int).toNat, none⟩ (.bool true))) ?hg ?ho ?hn ?hr ?_; (case ho => rfl); (case hg => rfl); (case hn => rfl); (case hr => first | (go_simp; done) | (go_simp; rfl)); intro w15 hw; have hg : wr.grownBy w15 (some go12) := (by rw [hw]; exact HP14.2); have hp_ : Kd.R Kd.bool 4 w15 w.heap.size (fun _ => True) (.slice (some ⟨go12, 0, none⟩) x3_1.length co12) y316 := (by rw [hw, Ny316.out]; exact HP14.1); clear HP14; have n0_ := Aside0.mk (hp_); have n1_ := Aside0.mk (blk_grown (g := gb312) (o := .cells #[.int .i64 a0_0, .slice A0_1 l0_1.length c0_1, .slice A0_2 l0_2.length c0_2, .slice A0_3 l0_3.length c0_3, .slice A0_4 l0_4.length c0_4, .slice A0_5 l0_5.length c0_5] 30 (0, 0)) zq124 hg (Kd.R_ne HO_3.out BK312.out (by decide))); have n2_ := Aside0.mk ((by rw [hw]; exact below_set (HB.out) GB12.out : Below w.heap.size w w15)); clear HO_3; clear BK312; clear HB; have HO_3 := n0_; have BK312 := n1_; have HB := n2_; clear n0_ n1_ n2_; clear hg hw hp_))
             go_roundg k1
             case measure => have := HK1.out; omega
             case rel => exact ⟨(y316), (wrap64 (x4_1 + 1)), zq187, H', ⟨by have := HK1.out; omega⟩, ⟨zq177⟩, ⟨zq124⟩, ⟨zq95⟩⟩
           · rw [if_neg c11] at H
             exact absurd H (by simp)
         · rw [if_neg c10] at H
           exact absurd H (by simp)
       · rw [if_neg c9] at H
         have c9b0 : decide (x4_1 ≤ a0_0) = false := decide_eq_false c9
         clear c9
         have H' := Aside0.mk H
         clear H
         obtain ⟨b16_0, b16_1, b16_2, b16_3, b16_4, b16_5, d16_0, d16_1, d16_2, d16_3, d16_4, d16_5⟩ := bk6 BK312.out
         go_wp2
         go_loopg [5] k1 (fun kq v5 w' => ∃ (x3_2 : List Bool) (x5_2 : Int), v5 = .int .i64 x5_2 ∧ Aside0 (r3_Order.l1 kq x3_2 x5_2 a0_0 l0_1 l0_2 l0_3 l0_4 l0_5 = some r) ∧ Aside0 (kq ≤ k1) ∧ Aside0 (Kd.R Kd.bool 4 w' w.heap.size (fun _ => True) v314 x3_2) ∧ Aside0 (w'.heap[gb312]? = some (.cells #[.int .i64 a0_0, (.slice A0_1 l0_1.length c0_1), (.slice A0_2 l0_2.length c0_2), (.slice A0_3 l0_3.length c0_3), (.slice A0_4 l0_4.length c0_4), (.slice A0_5 l0_5.length c0_5)] 30 (0, 0))) ∧ Aside0 (Below w.heap.size w w'))
         case atStart => exact ⟨(x3_1), (0), zq187, H', ⟨Nat.le_refl _⟩, ⟨zq177⟩, ⟨zq124⟩, ⟨zq95⟩⟩
         case round =>
          clear H'
          try clear c1
          try clear p1
          try clear q1
          try clear hx1
          try clear hf1
          try clear p2
          try clear c3
          try clear c3b0
          try clear c3b1
          try clear c4
          try clear c4b0
          try clear c4b1
          try clear p6
          try clear c9
          try clear c9b0
          try clear c10
          try clear c10b0
          try clear c11
          try clear c11b0
          try clear p12
          try clear q12
          try clear hx12
          try clear hf12
          try clear b13_0
          try clear b13_1
          try clear b13_2
          try clear b13_3
          try clear b13_4
          try clear b13_5
          try clear b16_0
          try clear b16_1
          try clear b16_2
          try clear b16_3
          try clear b16_4
          try clear b16_5
          try clear b6_0
          try clear b6_1
          try clear b6_2
          try clear b6_3
          try clear b6_4
          try clear b6_5
          try clear d13_0
          try clear d13_1
          try clear d13_2
          try clear d13_3
          try clear d13_4
          try clear d13_5
          try clear d16_0
          try clear d16_1
          try clear d16_2
          try clear d16_3
          try clear d16_4
          try clear d16_5
          try clear d6_0
          try clear d6_1
          try clear d6_2
          try clear d6_3
          try clear d6_4
          try clear d6_5
          try clear hx12_0
          try clear p12
          try clear p2
          try clear p6
          try clear q12
          obtain ⟨x3_2, x5_2, rfl, HA, HK2, HO_3, BK312, HB⟩ := hrel
          cases gk with
          | zero => exact absurd HA.out (by simp [r3_Order.l1])
          | succ k2 =>
           have H := HA.out
           clear HA
           simp only [r3_Order.l1] at H
           by_cases c17 : x5_2 < (l0_3.length : Int)
           · rw [if_pos c17] at H
             have c17b0 : decide (x5_2 < (l0_3.length : Int)) = true := decide_eq_true c17
             clear c17
             by_cases c18 : 0 ≤ x5_2
             · rw [if_pos c18] at H
               have c18b0 : decide (0 ≤ x5_2) = true := decide_eq_true c18
               clear c18
               obtain ⟨ji19, hji19⟩ : ∃ j_ : Int, (wrap64 (Int.tdiv ((rd_T56 l0_3 x5_2).f0) 2)) = j_ := ⟨_, rfl⟩
               replace H : (if 0 ≤ (ji19) then (if (ji19) < (x3_2.length : Int) then (r3_Order.l1 k2 (x3_2.set ((ji19) : Int).toNat false) (wrap64 (x5_2 + 1)) a0_0 l0_1 l0_2 l0_3 l0_4 l0_5) else (none)) else (none)) = some r := by first | (rw [hji19] at H; exact H) | (simp only [hji19] at H ⊢; exact H)
               have hji19w : (IntKind.i64.wrap (Int.tdiv ((rd_T56 l0_3 x5_2).f0) 2)) = ji19 := (i64_w _).trans hji19
               by_cases c20 : 0 ≤ (ji19)
               · rw [if_pos c20] at H
                 have c20b0 : decide (0 ≤ (ji19)) = true := decide_eq_true c20
                 clear c20
                 by_cases c21 : (ji19) < (x3_2.length : Int)
                 · rw [if_pos c21] at H
                   have c21b0 : decide ((ji19) < (x3_2.length : Int)) = true := decide_eq_true c21
                   clear c21
                   obtain ⟨y318, hy318⟩ : ∃ y_ : List Bool, y_ = (x3_2.set ((ji19) : Int).toNat false) := ⟨_, rfl⟩
                   replace H : (r3_Order.l1 k2 y318 (wrap64 (x5_2 + 1)) a0_0 l0_1 l0_2 l0_3 l0_4 l0_5) = some r := by first | (rw [hy318]; with_reducible exact H) | (have H2_ := (Option.bind_some _ _).symm.trans H; rw [hy318]; with_reducible exact H2_) | (have H2_ := (Option.bind_some _ _).symm.trans H; with_reducible exact H2_) | with_reducible exact H | (rw [hy318]; exact H) | exact H
                   have Ny318 := Aside0.mk hy318
                   clear hy318
                   have H' := Aside0.mk H
                   clear H
                   obtain ⟨b23_0, b23_1, b23_2, b23_3, b23_4, b23_5, d23_0, d23_1, d23_2, d23_3, d23_4, d23_5⟩ := bk6 BK312.out
                   have p317 : 0 ≤ (x5_2 : Int) := of_decide_eq_true zq186
                   have q317 : x5_2 < (l0_3.length : Int) := of_decide_eq_true zq186
                   obtain ⟨ad317, e317, hx317_0, hx317_1, hx317_2⟩ := at_T56 HR0_3.out x5_2 p317 q317
                   cases e317
                   replace hx317_0 := (HB.out.cell (World.block_lt_of_cell? w _ hx317_0)).trans hx317_0
                   replace hx317_1 := (HB.out.cell (World.block_lt_of_cell? w _ hx317_1)).trans hx317_1
                   replace hx317_2 := (HB.out.cell (World.block_lt_of_cell? w _ hx317_2)).trans hx317_2
                   replace p317 := eq_true p317
                   replace q317 := eq_true q317
                   have p22 : 0 ≤ ((ji19) : Int) := of_decide_eq_true zq186
                   have q22 : ((ji19) : Int) < ((x3_2.length : Int) : Int) := of_decide_eq_true zq186
                   obtain ⟨go22, co22, eo22, gb22, gl22, cl22, HG22⟩ := Kd.R_form HO_3.out (by omega)
                   (first | cases eo22 | (injection eo22 with ea_ en_ ec_; (first | subst ea_ | (injection ea_ with ea_; subst ea_)); subst ec_; clear en_))
                   have GB22 := Aside0.mk gb22
                   have GG22 := Aside0.mk HG22
                   clear gb22 gl22 HG22
                   obtain ⟨hx22_0, hf22_0⟩ := Kd.R_celln false HO_3.out ((ji19) : Int) p22 q22
                   replace p22 := eq_true p22
                   replace q22 := eq_true q22
                   have HP24 := Kd.R_putg HO_3.out ((ji19) : Int) false
                   go_wp2_with (first | ((with_reducible refine gate_store (t := 4) (p := 38) rfl ?_); refine store_event (t := 4) (p := 38) (v := ?vo_w25) (w1 := (wr.setCell ⟨go22, ((ji19) : Int).toNat, none⟩ (.bool false))) ?hg ?ho ?hn ?hr ?_; (case ho => rfl); (case hg => rfl); (case hn => rfl); (case hr => first | (go_simp; done) | (go_simp; rfl)); intro w25 hw; have hg : wr.grownBy w25 (some go22) := (by rw [hw]; exact HP24.2); have hp_ : Kd.R Kd.bool 4 w25 w.heap.size (fun _ => True) (.slice (some ⟨go22, 0, none⟩) x3_2.length co22) y318 := (by rw [hw, Ny318.out]; exact HP24.1); clear HP24; have n0_ := Aside0.mk (hp_); have n1_ := Aside0.mk (blk_grown (g := gb312) (o := .cells #[.int .i64 a0_0, .slice A0_1 l0_1.length c0_1, .slice A0_2 l0_2.length c0_2, .slice (some ad317) l0_3.length c0_3, .slice A0_4 l0_4.length c0_4, .slice A0_5 l0_5.length c0_5] 30 (0, 0)) zq124 hg (Kd.R_ne HO_3.out BK312.out (by decide))); have n2_ := Aside0.mk ((by rw [hw]; exact below_set (HB.out) GB22.out : Below w.heap.size w w25)); clear HO_3; clear BK312; clear HB; have HO_3 := n0_; have BK312 := n1_; have HB := n2_; clear n0_ n1_ n2_; clear hg hw hp_))
                   go_roundg k2
                   case measure => have := HK1.out; have := HK2.out; omega
                   case rel => exact ⟨(y318), (wrap64 (x5_2 + 1)), zq187, H', ⟨by have := HK1.out; have := HK2.out; omega⟩, ⟨zq177⟩, ⟨zq124⟩, ⟨zq95⟩⟩
                 · rw [if_neg c21] at H
                   exact absurd H (by simp)
               · rw [if_neg c20] at H
                 exact absurd H (by simp)
             · rw [if_neg c18] at H
               exact absurd H (by simp)
           · rw [if_neg c17] at H
             have c17b0 : decide (x5_2 < (l0_3.length : Int)) = false := decide_eq_false c17
             clear c17
             have H' := Aside0.mk H
             clear H
             obtain ⟨b26_0, b26_1, b26_2, b26_3, b26_4, b26_5, d26_0, d26_1, d26_2, d26_3, d26_4, d26_5⟩ := bk6 BK312.out
             go_wp2
             go_loopg [6] k2 (fun kq v6 w' => ∃ (x3_3 : List Bool) (x6_3 : List Int), Aside0 (r3_Order.l2 kq x3_3 x6_3 a0_0 l0_1 l0_2 l0_3 l0_4 l0_5 = some r) ∧ Aside0 (kq ≤ k2) ∧ Aside0 (Kd.R Kd.bool 4 w' w.heap.size (fun _ => True) v314 x3_3) ∧ Aside0 (Kd.R (Kd.int .i64) 3 w' w.heap.size (fun _ => True) v6 x6_3) ∧ Aside0 (w'.heap[gb312]? = some (.cells #[.int .i64 a0_0, (.slice A0_1 l0_1.length c0_1), (.slice A0_2 l0_2.length c0_2), (.slice A0_3 l0_3.length c0_3), (.slice A0_4 l0_4.length c0_4), (.slice A0_5 l0_5.length c0_5)] 30 (0, 0))) ∧ Aside0 (Below w.heap.size w w'))
             case atStart => exact ⟨(x3_2), (([] : List Int)), H', ⟨Nat.le_refl _⟩, ⟨zq177⟩, ⟨zq106⟩, ⟨zq124⟩, ⟨zq95⟩⟩
             case round =>
              clear H'
              try clear c1
              try clear p1
              try clear q1
              try clear hx1
              try clear hf1
              try clear c2
              try clear p2
              try clear q2
              try clear hx2
              try clear hf2
              try clear c3
              try clear c3b0
              try clear c3b1
              try clear p3
              try clear q3
              try clear hx3
              try clear c4
              try clear c4b0
              try clear c4b1
              try clear p6
              try clear c9
              try clear c9b0
              try clear c10
              try clear c10b0
              try clear c11
              try clear c11b0
              try clear p12
              try clear q12
              try clear hx12
              try clear hf12
              try clear c17
              try clear c17b0
              try clear c18
              try clear c18b0
              try clear c20
              try clear c20b0
              try clear c21
              try clear c21b0
              try clear p22
              try clear q22
              try clear hx22
              try clear hf22
              try clear b13_0
              try clear b13_1
              try clear b13_2
              try clear b13_3
              try clear b13_4
              try clear b13_5
              try clear b16_0
              try clear b16_1
              try clear b16_2
              try clear b16_3
              try clear b16_4
              try clear b16_5
              try clear b23_0
              try clear b23_1
              try clear b23_2
              try clear b23_3
              try clear b23_4
              try clear b23_5
              try clear b26_0
              try clear b26_1
              try clear b26_2
              try clear b26_3
              try clear b26_4
              try clear b26_5
              try clear b6_0
              try clear b6_1
              try clear b6_2
              try clear b6_3
              try clear b6_4
              try clear b6_5
              try clear d13_0
              try clear d13_1
              try clear d13_2
              try clear d13_3
              try clear d13_4
              try clear d13_5
              try clear d16_0
              try clear d16_1
              try clear d16_2
              try clear d16_3
              try clear d16_4
              try clear d16_5
              try clear d23_0
              try clear d23_1
              try clear d23_2
              try clear d23_3
              try clear d23_4
              try clear d23_5
              try clear d26_0
              try clear d26_1
              try clear d26_2
              try clear d26_3
              try clear d26_4
              try clear d26_5
              try clear d6_0
              try clear d6_1
              try clear d6_2
              try clear d6_3
              try clear d6_4
              try clear d6_5
              try clear hx12_0
              try clear hx22_0
              try clear hx317_0
              try clear hx317_1
              try clear hx317_2
              try clear p1
              try clear p12
              try clear p2
              try clear p22
              try clear p317
              try clear p6
              try clear q1
              try clear q12
              try clear q22
              try clear q317
              obtain ⟨x3_3, x6_3, HA, HK3, HO_3, HO_6, BK312, HB⟩ := hrel
              cases gk with
              | zero => exact absurd HA.out (by simp [r3_Order.l2])
              | succ k3 =>
               have H := HA.out
               clear HA
               simp only [r3_Order.l2] at H
               by_cases c27 : (x6_3.length : Int) < (l0_3.length : Int)
               · rw [if_pos c27] at H
                 have c27b0 : decide ((x6_3.length : Int) < (l0_3.length : Int)) = true := decide_eq_true c27
                 have c27b1 : decide (x6_3.length < l0_3.length) = true := decide_eq_true (Int.ofNat_lt.mp c27)
                 clear c27
                 have H' := Aside0.mk H
                 clear H
                 obtain ⟨Ao28, co28, eo28⟩ := Kd.R_slice HO_6.out
                 subst eo28
                 obtain ⟨b29_0, b29_1, b29_2, b29_3, b29_4, b29_5, d29_0, d29_1, d29_2, d29_3, d29_4, d29_5⟩ := bk6 BK312.out
                 go_wp2
                 go_loopg [7, 8] k3 (fun kq v7 v8 w' => ∃ (x7_4 : Int) (x8_4 : Int), v7 = .int .i64 x7_4 ∧ v8 = .int .i64 x8_4 ∧ Aside0 (r3_Order.l3 kq x3_3 x6_3 x7_4 x8_4 a0_0 l0_1 l0_2 l0_3 l0_4 l0_5 = some r) ∧ Aside0 (kq ≤ k3) ∧ Aside0 (Kd.R Kd.bool 4 w' w.heap.size (fun _ => True) v314 x3_3) ∧ Aside0 (Kd.R (Kd.int .i64) 3 w' w.heap.size (fun _ => True) (.slice Ao28 x6_3.length co28) x6_3) ∧ Aside0 (w'.heap[gb312]? = some (.cells #[.int .i64 a0_0, (.slice A0_1 l0_1.length c0_1), (.slice A0_2 l0_2.length c0_2), (.slice A0_3 l0_3.length c0_3), (.slice A0_4 l0_4.length c0_4), (.slice A0_5 l0_5.length c0_5)] 30 (0, 0))) ∧ Aside0 (Below w.heap.size w w'))
                 case atStart => exact ⟨((-1)), (wrap64 ((l0_3.length : Int) - 1)), zq187, zq187, H', ⟨Nat.le_refl _⟩, ⟨zq177⟩, ⟨zq180⟩, ⟨zq124⟩, ⟨zq95⟩⟩
                 case round =>
                  clear H'
                  try clear c1
                  try clear p1
                  try clear q1
                  try clear hx1
                  try clear hf1
                  try clear c2
                  try clear p2
                  try clear q2
                  try clear hx2
                  try clear hf2
                  try clear c3
                  try clear c3b0
                  try clear c3b1
                  try clear p3
                  try clear q3
                  try clear hx3
                  try clear c4
                  try clear c4b0
                  try clear c4b1
                  try clear p6
                  try clear c9
                  try clear c9b0
                  try clear c10
                  try clear c10b0
                  try clear c11
                  try clear c11b0
                  try clear p12
                  try clear q12
                  try clear hx12
                  try clear hf12
                  try clear c17
                  try clear c17b0
                  try clear c18
                  try clear c18b0
                  try clear c20
                  try clear c20b0
                  try clear c21
                  try clear c21b0
                  try clear p22
                  try clear q22
                  try clear hx22
                  try clear hf22
                  try clear c27
                  try clear c27b0
                  try clear c27b1
                  try clear b13_0
                  try clear b13_1
                  try clear b13_2
                  try clear b13_3
                  try clear b13_4
                  try clear b13_5
                  try clear b16_0
                  try clear b16_1
                  try clear b16_2
                  try clear b16_3
                  try clear b16_4
                  try clear b16_5
                  try clear b23_0
                  try clear b23_1
                  try clear b23_2
                  try clear b23_3
                  try clear b23_4
                  try clear b23_5
                  try clear b26_0
                  try clear b26_1
                  try clear b26_2
                  try clear b26_3
                  try clear b26_4
                  try clear b26_5
                  try clear b29_0
                  try clear b29_1
                  try clear b29_2
                  try clear b29_3
                  try clear b29_4
                  try clear b29_5
                  try clear b6_0
                  try clear b6_1
                  try clear b6_2
                  try clear b6_3
                  try clear b6_4
                  try clear b6_5
                  try clear d13_0
                  try clear d13_1
                  try clear d13_2
                  try clear d13_3
                  try clear d13_4
                  try clear d13_5
                  try clear d16_0
                  try clear d16_1
                  try clear d16_2
                  try clear d16_3
                  try clear d16_4
                  try clear d16_5
                  try clear d23_0
                  try clear d23_1
                  try clear d23_2
                  try clear d23_3
                  try clear d23_4
                  try clear d23_5
                  try clear d26_0
                  try clear d26_1
                  try clear d26_2
                  try clear d26_3
                  try clear d26_4
                  try clear d26_5
                  try clear d29_0
                  try clear d29_1
                  try clear d29_2
                  try clear d29_3
                  try clear d29_4
                  try clear d29_5
                  try clear d6_0
                  try clear d6_1
                  try clear d6_2
                  try clear d6_3
                  try clear d6_4
                  try clear d6_5
                  try clear hx12_0
                  try clear hx22_0
                  try clear hx317_0
                  try clear hx317_1
                  try clear hx317_2
                  try clear p1
                  try clear p12
                  try clear p2
                  try clear p22
                  try clear p3
                  try clear p317
                  try clear p6
                  try clear q1
                  try clear q12
                  try clear q2
                  try clear q22
                  try clear q3
                  try clear q317
                  obtain ⟨x7_4, x8_4, rfl, rfl, HA, HK4, HO_3, HO_6, BK312, HB⟩ := hrel
                  cases gk with
                  | zero => exact absurd HA.out (by simp [r3_Order.l3])
                  | succ k4 =>
                   have H := HA.out
                   clear HA
                   simp only [r3_Order.l3] at H
                   by_cases c30 : x8_4 ≥ 0
                   · rw [if_pos c30] at H
                     have c30b0 : decide (0 ≤ x8_4) = true := decide_eq_true c30
                     clear c30
                     by_cases c31 : 0 ≤ x8_4
                     · rw [if_pos c31] at H
                       have c31b0 : decide (0 ≤ x8_4) = true := decide_eq_true c31
                       clear c31
                       by_cases c32 : x8_4 < (l0_3.length : Int)
                       · rw [if_pos c32] at H
                         have c32b0 : decide (x8_4 < (l0_3.length : Int)) = true := decide_eq_true c32
                         clear c32
                         obtain ⟨ji33, hji33⟩ : ∃ j_ : Int, (wrap64 (Int.tdiv ((rd_T56 l0_3 x8_4).f0) 2)) = j_ := ⟨_, rfl⟩
                         replace H : (if 0 ≤ (ji33) then (if (ji33) < (x3_3.length : Int) then (if (rdOf false x3_3 (ji33) = true) then (r3_Order.l3 k4 x3_3 x6_3 x7_4 (wrap64 (x8_4 - 1)) a0_0 l0_1 l0_2 l0_3 l0_4 l0_5) else (if 0 ≤ (wrap64 (Int.tdiv ((rd_T56 l0_3 x8_4).f1) 2)) then (if (wrap64 (Int.tdiv ((rd_T56 l0_3 x8_4).f1) 2)) < (x3_3.length : Int) then (if rdOf false x3_3 (wrap64 (Int.tdiv ((rd_T56 l0_3 x8_4).f1) 2)) = true then (if 0 ≤ (wrap64 (Int.tdiv ((rd_T56 l0_3 x8_4).f2) 2)) then (if (wrap64 (Int.tdiv ((rd_T56 l0_3 x8_4).f2) 2)) < (x3_3.length : Int) then (if rdOf false x3_3 (wrap64 (Int.tdiv ((rd_T56 l0_3 x8_4).f2) 2)) = true then (r3_Order.l3 k4 x3_3 x6_3 x8_4 (wrap64 (x8_4 - 1)) a0_0 l0_1 l0_2 l0_3 l0_4 l0_5) else (r3_Order.l3 k4 x3_3 x6_3 x7_4 (wrap64 (x8_4 - 1)) a0_0 l0_1 l0_2 l0_3 l0_4 l0_5)) else (none)) else (none)) else (r3_Order.l3 k4 x3_3 x6_3 x7_4 (wrap64 (x8_4 - 1)) a0_0 l0_1 l0_2 l0_3 l0_4 l0_5)) else (none)) else (none))) else (none)) else (none)) = some r := by first | (rw [hji33] at H; exact H) | (simp only [hji33] at H ⊢; exact H)
                         have hji33w : (IntKind.i64.wrap (Int.tdiv ((rd_T56 l0_3 x8_4).f0) 2)) = ji33 := (i64_w _).trans hji33
                         by_cases c34 : 0 ≤ (ji33)
                         · rw [if_pos c34] at H
                           have c34b0 : decide (0 ≤ (ji33)) = true := decide_eq_true c34
                           clear c34
                           by_cases c35 : (ji33) < (x3_3.length : Int)
                           · rw [if_pos c35] at H
                             have c35b0 : decide ((ji33) < (x3_3.length : Int)) = true := decide_eq_true c35
                             clear c35
                             obtain ⟨bq36, hbq36⟩ : ∃ b_ : Bool, b_ = (rdOf false x3_3 (ji33)) := ⟨_, rfl⟩
                             replace H : (if (bq36 = true) then (r3_Order.l3 k4 x3_3 x6_3 x7_4 (wrap64 (x8_4 - 1)) a0_0 l0_1 l0_2 l0_3 l0_4 l0_5) else (if 0 ≤ (wrap64 (Int.tdiv ((rd_T56 l0_3 x8_4).f1) 2)) then (if (wrap64 (Int.tdiv ((rd_T56 l0_3 x8_4).f1) 2)) < (x3_3.length : Int) then (if rdOf false x3_3 (wrap64 (Int.tdiv ((rd_T56 l0_3 x8_4).f1) 2)) = true then (if 0 ≤ (wrap64 (Int.tdiv ((rd_T56 l0_3 x8_4).f2) 2)) then (if (wrap64 (Int.tdiv ((rd_T56 l0_3 x8_4).f2) 2)) < (x3_3.length : Int) then (if rdOf false x3_3 (wrap64 (Int.tdiv ((rd_T56 l0_3 x8_4).f2) 2)) = true then (r3_Order.l3 k4 x3_3 x6_3 x8_4 (wrap64 (x8_4 - 1)) a0_0 l0_1 l0_2 l0_3 l0_4 l0_5) else (r3_Order.l3 k4 x3_3 x6_3 x7_4 (wrap64 (x8_4 - 1)) a0_0 l0_1 l0_2 l0_3 l0_4 l0_5)) else (none)) else (none)) else (r3_Order.l3 k4 x3_3 x6_3 x7_4 (wrap64 (x8_4 - 1)) a0_0 l0_1 l0_2 l0_3 l0_4 l0_5)) else (none)) else (none))) = some r := by rw [← hbq36] at H; exact H
                             have Nbq36 := Aside0.mk hbq36
                             clear hbq36
                             by_cases c37 : (bq36 = true)
                             · subst c37
                               have H1 : (r3_Order.l3 k4 x3_3 x6_3 x7_4 (wrap64 (x8_4 - 1)) a0_0 l0_1 l0_2 l0_3 l0_4 l0_5) = some r := by rw [if_pos rfl] at H; exact H
                               clear H
                               have H := H1
                               clear H1
                               have H' := Aside0.mk H
                               clear H
                               obtain ⟨b38_0, b38_1, b38_2, b38_3, b38_4, b38_5, d38_0, d38_1, d38_2, d38_3, d38_4, d38_5⟩ := bk6 BK312.out
                               have p319 : 0 ≤ (x8_4 : Int) := of_decide_eq_true zq186
                               have q319 : x8_4 < (l0_3.length : Int) := of_decide_eq_true zq186
                               obtain ⟨ad319, e319, hx319_0, hx319_1, hx319_2⟩ := at_T56 HR0_3.out x8_4 p319 q319
                               cases e319
                               replace hx319_0 := (HB.out.cell (World.block_lt_of_cell? w _ hx319_0)).trans hx319_0
                               replace hx319_1 := (HB.out.cell (World.block_lt_of_cell? w _ hx319_1)).trans hx319_1
                               replace hx319_2 := (HB.out.cell (World.block_lt_of_cell? w _ hx319_2)).trans hx319_2
                               replace p319 := eq_true p319
                               replace q319 := eq_true q319
                               go_wp2_with (first | ((with_reducible refine gate_dst (N := 9) rfl ?_); refine box_event ?hg (N := 9) ?hd (cs := #[.int .i64 0, .int .i64 0, .int .i64 0]) (t := 56) ?hr ?_; (case hd => rfl); (case hg => rfl); (case hr => first | (go_simp; done) | (go_simp; rfl)); intro gb320 hg w39 hbox hb; have n0_ := Aside0.mk (Kd.R_below zq177 hb); have n1_ := Aside0.mk (Kd.R_below zq180 hb); have n2_ := Aside0.mk (blk_below (g := gb312) (o := .cells #[.int .i64 a0_0, .slice A0_1 l0_1.length c0_1, .slice A0_2 l0_2.length c0_2, .slice (some ad319) l0_3.length c0_3, .slice A0_4 l0_4.length c0_4, .slice A0_5 l0_5.length c0_5] 30 (0, 0)) zq124 hb); have n3_ := Aside0.mk (below_step zq95 hb); have n4_ := Aside0.mk (hbox); have n5_ := Aside0.mk ((zq58 : w.heap.size ≤ gb320)); have n6_ := Aside0.mk ((zq58 : w.heap.size ≤ gb320)); have n7_ := Aside0.mk ((zq18 : gb312 ≠ gb320)); have n8_ := Aside0.mk ((zq17 : gb320 ≠ gb312)); clear HO_3; clear HO_6; clear BK312; clear HB; have HO_3 := n0_; have HO_6 := n1_; have BK312 := n2_; have HB := n3_; have BK320 := n4_; have GW320 := n5_; have GE320 := n6_; have NB312_320 := n7_; have NB320_312 := n8_; clear n0_ n1_ n2_ n3_ n4_ n5_ n6_ n7_ n8_; clear hb hbox hg; have hnb40 := NB320_312.out; have hnc40 := NB312_320.out; obtain ⟨b41_0, b41_1, b41_2, d41_0, d41_1, d41_2⟩ := bk3 BK320.out; obtain ⟨Ao42, co42, eo42⟩ := Kd.R_slice HO_3.out; subst eo42; have p321 : 0 ≤ ((ji33) : Int) := of_decide_eq_true zq186; have q321 : (ji33) < (x3_3.length : Int) := of_decide_eq_true zq186; obtain ⟨ad321, e321, hx321_0⟩ := Kd.at_bool (Kd.R_reads' HO_3.out).2.2 (ji33) p321 q321; (try rw [← Nbq36.out] at hx321_0); cases e321; have hn321_0 : ad321.block ≠ gb320 := Kd.own_blk (Kd.R_ne HO_3.out BK320.out (by decide)); have hn321_1 : ad321.block ≠ gb320 := Kd.own_blk (Kd.R_ne HO_3.out BK320.out (by decide)); have hn321_2 : ad321.block ≠ gb320 := Kd.own_blk (Kd.R_ne HO_3.out BK320.out (by decide)); replace hx321_0 := (cell_far (p := ⟨gb320, 0, none⟩) zq110 (.int .i64 ((rd_T56 l0_3 x8_4).f0))).trans hx321_0; replace hx321_0 := (cell_far (p := ⟨gb320, 1, none⟩) zq111 (.int .i64 ((rd_T56 l0_3 x8_4).f1))).trans hx321_0; replace hx321_0 := (cell_far (p := ⟨gb320, 2, none⟩) zq112 (.int .i64 ((rd_T56 l0_3 x8_4).f2))).trans hx321_0; clear hn321_0; clear hn321_1; clear hn321_2; replace p321 := eq_true p321; replace q321 := eq_true q321))
                               go_roundg k4
                               case measure => have := HK1.out; have := HK2.out; have := HK3.out; have := HK4.out; omega
                               case rel => exact ⟨(x7_4), (wrap64 (x8_4 - 1)), zq187, zq187, H', ⟨zq182⟩, ⟨zq15⟩, ⟨zq16⟩, ⟨zq13⟩, ⟨zq67⟩⟩
                             · replace c37 := Bool.eq_false_iff.mpr c37
                               subst c37
                               have H1 : (if 0 ≤ (wrap64 (Int.tdiv ((rd_T56 l0_3 x8_4).f1) 2)) then (if (wrap64 (Int.tdiv ((rd_T56 l0_3 x8_4).f1) 2)) < (x3_3.length : Int) then (if rdOf false x3_3 (wrap64 (Int.tdiv ((rd_T56 l0_3 x8_4).f1) 2)) = true then (if 0 ≤ (wrap64 (Int.tdiv ((rd_T56 l0_3 x8_4).f2) 2)) then (if (wrap64 (Int.tdiv ((rd_T56 l0_3 x8_4).f2) 2)) < (x3_3.length : Int) then (if rdOf false x3_3 (wrap64 (Int.tdiv ((rd_T56 l0_3 x8_4).f2) 2)) = true then (r3_Order.l3 k4 x3_3 x6_3 x8_4 (wrap64 (x8_4 - 1)) a0_0 l0_1 l0_2 l0_3 l0_4 l0_5) else (r3_Order.l3 k4 x3_3 x6_3 x7_4 (wrap64 (x8_4 - 1)) a0_0 l0_1 l0_2 l0_3 l0_4 l0_5)) else (none)) else (none)) else (r3_Order.l3 k4 x3_3 x6_3 x7_4 (wrap64 (x8_4 - 1)) a0_0 l0_1 l0_2 l0_3 l0_4 l0_5)) else (none)) else (none)) = some r := by rw [if_neg (show ¬ (false = true) by decide)] at H; exact H
                               clear H
                               have H := H1
                               clear H1
                               obtain ⟨ji43, hji43⟩ : ∃ j_ : Int, (wrap64 (Int.tdiv ((rd_T56 l0_3 x8_4).f1) 2)) = j_ := ⟨_, rfl⟩
                               replace H : (if 0 ≤ (ji43) then (if (ji43) < (x3_3.length : Int) then (if rdOf false x3_3 (ji43) = true then (if 0 ≤ (wrap64 (Int.tdiv ((rd_T56 l0_3 x8_4).f2) 2)) then (if (wrap64 (Int.tdiv ((rd_T56 l0_3 x8_4).f2) 2)) < (x3_3.length : Int) then (if rdOf false x3_3 (wrap64 (Int.tdiv ((rd_T56 l0_3 x8_4).f2) 2)) = true then (r3_Order.l3 k4 x3_3 x6_3 x8_4 (wrap64 (x8_4 - 1)) a0_0 l0_1 l0_2 l0_3 l0_4 l0_5) else (r3_Order.l3 k4 x3_3 x6_3 x7_4 (wrap64 (x8_4 - 1)) a0_0 l0_1 l0_2 l0_3 l0_4 l0_5)) else (none)) else (none)) else (r3_Order.l3 k4 x3_3 x6_3 x7_4 (wrap64 (x8_4 - 1)) a0_0 l0_1 l0_2 l0_3 l0_4 l0_5)) else (none)) else (none)) = some r := by first | (rw [hji43] at H; exact H) | (simp only [hji43] at H ⊢; exact H)
                               have hji43w : (IntKind.i64.wrap (Int.tdiv ((rd_T56 l0_3 x8_4).f1) 2)) = ji43 := (i64_w _).trans hji43
                               by_cases c44 : 0 ≤ (ji43)
                               · rw [if_pos c44] at H
                                 have c44b0 : decide (0 ≤ (ji43)) = true := decide_eq_true c44
                                 clear c44
                                 by_cases c45 : (ji43) < (x3_3.length : Int)
                                 · rw [if_pos c45] at H
                                   have c45b0 : decide ((ji43) < (x3_3.length : Int)) = true := decide_eq_true c45
                                   clear c45
                                   obtain ⟨bq46, hbq46⟩ : ∃ b_ : Bool, b_ = (rdOf false x3_3 (ji43)) := ⟨_, rfl⟩
                                   replace H : (if bq46 = true then (if 0 ≤ (wrap64 (Int.tdiv ((rd_T56 l0_3 x8_4).f2) 2)) then (if (wrap64 (Int.tdiv ((rd_T56 l0_3 x8_4).f2) 2)) < (x3_3.length : Int) then (if rdOf false x3_3 (wrap64 (Int.tdiv ((rd_T56 l0_3 x8_4).f2) 2)) = true then (r3_Order.l3 k4 x3_3 x6_3 x8_4 (wrap64 (x8_4 - 1)) a0_0 l0_1 l0_2 l0_3 l0_4 l0_5) else (r3_Order.l3 k4 x3_3 x6_3 x7_4 (wrap64 (x8_4 - 1)) a0_0 l0_1 l0_2 l0_3 l0_4 l0_5)) else (none)) else (none)) else (r3_Order.l3 k4 x3_3 x6_3 x7_4 (wrap64 (x8_4 - 1)) a0_0 l0_1 l0_2 l0_3 l0_4 l0_5)) = some r := by rw [← hbq46] at H; exact H
                                   have Nbq46 := Aside0.mk hbq46
                                   clear hbq46
                                   by_cases c47 : bq46 = true
                                   · subst c47
                                     have H1 : (if 0 ≤ (wrap64 (Int.tdiv ((rd_T56 l0_3 x8_4).f2) 2)) then (if (wrap64 (Int.tdiv ((rd_T56 l0_3 x8_4).f2) 2)) < (x3_3.length : Int) then (if rdOf false x3_3 (wrap64 (Int.tdiv ((rd_T56 l0_3 x8_4).f2) 2)) = true then (r3_Order.l3 k4 x3_3 x6_3 x8_4 (wrap64 (x8_4 - 1)) a0_0 l0_1 l0_2 l0_3 l0_4 l0_5) else (r3_Order.l3 k4 x3_3 x6_3 x7_4 (wrap64 (x8_4 - 1)) a0_0 l0_1 l0_2 l0_3 l0_4 l0_5)) else (none)) else (none)) = some r := by rw [if_pos rfl] at H; exact H
                                     clear H
                                     have H := H1
                                     clear H1
                                     obtain ⟨ji48, hji48⟩ : ∃ j_ : Int, (wrap64 (Int.tdiv ((rd_T56 l0_3 x8_4).f2) 2)) = j_ := ⟨_, rfl⟩
                                     replace H : (if 0 ≤ (ji48) then (if (ji48) < (x3_3.length : Int) then (if rdOf false x3_3 (ji48) = true then (r3_Order.l3 k4 x3_3 x6_3 x8_4 (wrap64 (x8_4 - 1)) a0_0 l0_1 l0_2 l0_3 l0_4 l0_5) else (r3_Order.l3 k4 x3_3 x6_3 x7_4 (wrap64 (x8_4 - 1)) a0_0 l0_1 l0_2 l0_3 l0_4 l0_5)) else (none)) else (none)) = some r := by first | (rw [hji48] at H; exact H) | (simp only [hji48] at H ⊢; exact H)
                                     have hji48w : (IntKind.i64.wrap (Int.tdiv ((rd_T56 l0_3 x8_4).f2) 2)) = ji48 := (i64_w _).trans hji48
                                     by_cases c49 : 0 ≤ (ji48)
                                     · rw [if_pos c49] at H
                                       have c49b0 : decide (0 ≤ (ji48)) = true := decide_eq_true c49
                                       clear c49
                                       by_cases c50 : (ji48) < (x3_3.length : Int)
                                       · rw [if_pos c50] at H
                                         have c50b0 : decide ((ji48) < (x3_3.length : Int)) = true := decide_eq_true c50
                                         clear c50
                                         obtain ⟨bq51, hbq51⟩ : ∃ b_ : Bool, b_ = (rdOf false x3_3 (ji48)) := ⟨_, rfl⟩
                                         replace H : (if bq51 = true then (r3_Order.l3 k4 x3_3 x6_3 x8_4 (wrap64 (x8_4 - 1)) a0_0 l0_1 l0_2 l0_3 l0_4 l0_5) else (r3_Order.l3 k4 x3_3 x6_3 x7_4 (wrap64 (x8_4 - 1)) a0_0 l0_1 l0_2 l0_3 l0_4 l0_5)) = some r := by rw [← hbq51] at H; exact H
                                         have Nbq51 := Aside0.mk hbq51
                                         clear hbq51
                                         by_cases c52 : bq51 = true
                                         · subst c52
                                           have H1 : (r3_Order.l3 k4 x3_3 x6_3 x8_4 (wrap64 (x8_4 - 1)) a0_0 l0_1 l0_2 l0_3 l0_4 l0_5) = some r := by rw [if_pos rfl] at H; exact H
                                           clear H
                                           have H := H1
                                           clear H1
                                           have H' := Aside0.mk H
                                           clear H
                                           obtain ⟨b53_0, b53_1, b53_2, b53_3, b53_4, b53_5, d53_0, d53_1, d53_2, d53_3, d53_4, d53_5⟩ := bk6 BK312.out
                                           have p319 : 0 ≤ (x8_4 : Int) := of_decide_eq_true zq186
                                           have q319 : x8_4 < (l0_3.length : Int) := of_decide_eq_true zq186
                                           obtain ⟨ad319, e319, hx319_0, hx319_1, hx319_2⟩ := at_T56 HR0_3.out x8_4 p319 q319
                                           cases e319
                                           replace hx319_0 := (HB.out.cell (World.block_lt_of_cell? w _ hx319_0)).trans hx319_0
                                           replace hx319_1 := (HB.out.cell (World.block_lt_of_cell? w _ hx319_1)).trans hx319_1
                                           replace hx319_2 := (HB.out.cell (World.block_lt_of_cell? w _ hx319_2)).trans hx319_2
                                           replace p319 := eq_true p319
                                           replace q319 := eq_true q319
                                           go_wp2_with (first | ((with_reducible refine gate_dst (N := 9) rfl ?_); refine box_event ?hg (N := 9) ?hd (cs := #[.int .i64 0, .int .i64 0, .int .i64 0]) (t := 56) ?hr ?_; (case hd => rfl); (case hg => rfl); (case hr => first | (go_simp; done) | (go_simp; rfl)); intro gb320 hg w54 hbox hb; have n0_ := Aside0.mk (Kd.R_below zq177 hb); have n1_ := Aside0.mk (Kd.R_below zq180 hb); have n2_ := Aside0.mk (blk_below (g := gb312) (o := .cells #[.int .i64 a0_0, .slice A0_1 l0_1.length c0_1, .slice A0_2 l0_2.length c0_2, .slice (some ad319) l0_3.length c0_3, .slice A0_4 l0_4.length c0_4, .slice A0_5 l0_5.length c0_5] 30 (0, 0)) zq124 hb); have n3_ := Aside0.mk (below_step zq95 hb); have n4_ := Aside0.mk (hbox); have n5_ := Aside0.mk ((zq58 : w.heap.size ≤ gb320)); have n6_ := Aside0.mk ((zq58 : w.heap.size ≤ gb320)); have n7_ := Aside0.mk ((zq18 : gb312 ≠ gb320)); have n8_ := Aside0.mk ((zq17 : gb320 ≠ gb312)); clear HO_3; clear HO_6; clear BK312; clear HB; have HO_3 := n0_; have HO_6 := n1_; have BK312 := n2_; have HB := n3_; have BK320 := n4_; have GW320 := n5_; have GE320 := n6_; have NB312_320 := n7_; have NB320_312 := n8_; clear n0_ n1_ n2_ n3_ n4_ n5_ n6_ n7_ n8_; clear hb hbox hg; have hnb55 := NB320_312.out; have hnc55 := NB312_320.out; obtain ⟨b56_0, b56_1, b56_2, d56_0, d56_1, d56_2⟩ := bk3 BK320.out; obtain ⟨Ao57, co57, eo57⟩ := Kd.R_slice HO_3.out; subst eo57; have p321 : 0 ≤ ((ji33) : Int) := of_decide_eq_true zq186; have q321 : (ji33) < (x3_3.length : Int) := of_decide_eq_true zq186; obtain ⟨ad321, e321, hx321_0⟩ := Kd.at_bool (Kd.R_reads' HO_3.out).2.2 (ji33) p321 q321; (try rw [← Nbq36.out] at hx321_0); (try rw [← Nbq46.out] at hx321_0); (try rw [← Nbq51.out] at hx321_0); cases e321; have hn321_0 : ad321.block ≠ gb320 := Kd.own_blk (Kd.R_ne HO_3.out BK320.out (by decide)); have hn321_1 : ad321.block ≠ gb320 := Kd.own_blk (Kd.R_ne HO_3.out BK320.out (by decide)); have hn321_2 : ad321.block ≠ gb320 := Kd.own_blk (Kd.R_ne HO_3.out BK320.out (by decide)); replace hx321_0 := (cell_far (p := ⟨gb320, 0, none⟩) zq110 (.int .i64 ((rd_T56 l0_3 x8_4).f0))).trans hx321_0; replace hx321_0 := (cell_far (p := ⟨gb320, 1, none⟩) zq111 (.int .i64 ((rd_T56 l0_3 x8_4).f1))).trans hx321_0; replace hx321_0 := (cell_far (p := ⟨gb320, 2, none⟩) zq112 (.int .i64 ((rd_T56 l0_3 x8_4).f2))).trans hx321_0; clear hn321_0; clear hn321_1; clear hn321_2; replace p321 := eq_true p321; replace q321 := eq_true q321; have p322 : 0 ≤ ((ji43) : Int) := of_decide_eq_true zq186; have q322 : (ji43) < (x3_3.length : Int) := of_decide_eq_true zq186; obtain ⟨ad322, e322, hx322_0⟩ := Kd.at_bool (Kd.R_reads' HO_3.out).2.2 (ji43) p322 q322; (try rw [← Nbq36.out] at hx322_0); (try rw [← Nbq46.out] at hx322_0); (try rw [← Nbq51.out] at hx322_0); obtain rfl : ad321 = ad322 := (by injection e322); have hn322_0 : ad321.block ≠ gb320 := Kd.own_blk (Kd.R_ne HO_3.out BK320.out (by decide)); have hn322_1 : ad321.block ≠ gb320 := Kd.own_blk (Kd.R_ne HO_3.out BK320.out (by decide)); have hn322_2 : ad321.block ≠ gb320 := Kd.own_blk (Kd.R_ne HO_3.out BK320.out (by decide)); replace hx322_0 := (cell_far (p := ⟨gb320, 0, none⟩) zq113 (.int .i64 ((rd_T56 l0_3 x8_4).f0))).trans hx322_0; replace hx322_0 := (cell_far (p := ⟨gb320, 1, none⟩) zq114 (.int .i64 ((rd_T56 l0_3 x8_4).f1))).trans hx322_0; replace hx322_0 := (cell_far (p := ⟨gb320, 2, none⟩) zq115 (.int .i64 ((rd_T56 l0_3 x8_4).f2))).trans hx322_0; clear hn322_0; clear hn322_1; clear hn322_2; replace p322 := eq_true p322; replace q322 := eq_true q322; have p323 : 0 ≤ ((ji48) : Int) := of_decide_eq_true zq186; have q323 : (ji48) < (x3_3.length : Int) := of_decide_eq_true zq186; obtain ⟨ad323, e323, hx323_0⟩ := Kd.at_bool (Kd.R_reads' HO_3.out).2.2 (ji48) p323 q323; (try rw [← Nbq36.out] at hx323_0); (try rw [← Nbq46.out] at hx323_0); (try rw [← Nbq51.out] at hx323_0); obtain rfl : ad321 = ad323 := (by injection e323); have hn323_0 : ad321.block ≠ gb320 := Kd.own_blk (Kd.R_ne HO_3.out BK320.out (by decide)); have hn323_1 : ad321.block ≠ gb320 := Kd.own_blk (Kd.R_ne HO_3.out BK320.out (by decide)); have hn323_2 : ad321.block ≠ gb320 := Kd.own_blk (Kd.R_ne HO_3.out BK320.out (by decide)); replace hx323_0 := (cell_far (p := ⟨gb320, 0, none⟩) zq116 (.int .i64 ((rd_T56 l0_3 x8_4).f0))).trans hx323_0; replace hx323_0 := (cell_far (p := ⟨gb320, 1, none⟩) zq117 (.int .i64 ((rd_T56 l0_3 x8_4).f1))).trans hx323_0; replace hx323_0 := (cell_far (p := ⟨gb320, 2, none⟩) zq118 (.int .i64 ((rd_T56 l0_3 x8_4).f2))).trans hx323_0; clear hn323_0; clear hn323_1; clear hn323_2; replace p323 := eq_true p323; replace q323 := eq_true q323))
                                           go_roundg k4
                                           case measure => have := HK1.out; have := HK2.out; have := HK3.out; have := HK4.out; omega
                                           case rel => exact ⟨(x8_4), (wrap64 (x8_4 - 1)), zq187, zq187, H', ⟨zq182⟩, ⟨zq15⟩, ⟨zq16⟩, ⟨zq13⟩, ⟨zq67⟩⟩
                                         · replace c52 := Bool.eq_false_iff.mpr c52
                                           subst c52
                                           have H1 : (r3_Order.l3 k4 x3_3 x6_3 x7_4 (wrap64 (x8_4 - 1)) a0_0 l0_1 l0_2 l0_3 l0_4 l0_5) = some r := by rw [if_neg (show ¬ (false = true) by decide)] at H; exact H
                                           clear H
                                           have H := H1
                                           clear H1
                                           have H' := Aside0.mk H
                                           clear H
                                           obtain ⟨b58_0, b58_1, b58_2, b58_3, b58_4, b58_5, d58_0, d58_1, d58_2, d58_3, d58_4, d58_5⟩ := bk6 BK312.out
                                           have p319 : 0 ≤ (x8_4 : Int) := of_decide_eq_true zq186
                                           have q319 : x8_4 < (l0_3.length : Int) := of_decide_eq_true zq186
                                           obtain ⟨ad319, e319, hx319_0, hx319_1, hx319_2⟩ := at_T56 HR0_3.out x8_4 p319 q319
                                           cases e319
                                           replace hx319_0 := (HB.out.cell (World.block_lt_of_cell? w _ hx319_0)).trans hx319_0
                                           replace hx319_1 := (HB.out.cell (World.block_lt_of_cell? w _ hx319_1)).trans hx319_1
                                           replace hx319_2 := (HB.out.cell (World.block_lt_of_cell? w _ hx319_2)).trans hx319_2
                                           replace p319 := eq_true p319
                                           replace q319 := eq_true q319
                                           go_wp2_with (first | ((with_reducible refine gate_dst (N := 9) rfl ?_); refine box_event ?hg (N := 9) ?hd (cs := #[.int .i64 0, .int .i64 0, .int .i64 0]) (t := 56) ?hr ?_; (case hd => rfl); (case hg => rfl); (case hr => first | (go_simp; done) | (go_simp; rfl)); intro gb320 hg w59 hbox hb; have n0_ := Aside0.mk (Kd.R_below zq177 hb); have n1_ := Aside0.mk (Kd.R_below zq180 hb); have n2_ := Aside0.mk (blk_below (g := gb312) (o := .cells #[.int .i64 a0_0, .slice A0_1 l0_1.length c0_1, .slice A0_2 l0_2.length c0_2, .slice (some ad319) l0_3.length c0_3, .slice A0_4 l0_4.length c0_4, .slice A0_5 l0_5.length c0_5] 30 (0, 0)) zq124 hb); have n3_ := Aside0.mk (below_step zq95 hb); have n4_ := Aside0.mk (hbox); have n5_ := Aside0.mk ((zq58 : w.heap.size ≤ gb320)); have n6_ := Aside0.mk ((zq58 : w.heap.size ≤ gb320)); have n7_ := Aside0.mk ((zq18 : gb312 ≠ gb320)); have n8_ := Aside0.mk ((zq17 : gb320 ≠ gb312)); clear HO_3; clear HO_6; clear BK312; clear HB; have HO_3 := n0_; have HO_6 := n1_; have BK312 := n2_; have HB := n3_; have BK320 := n4_; have GW320 := n5_; have GE320 := n6_; have NB312_320 := n7_; have NB320_312 := n8_; clear n0_ n1_ n2_ n3_ n4_ n5_ n6_ n7_ n8_; clear hb hbox hg; have hnb60 := NB320_312.out; have hnc60 := NB312_320.out; obtain ⟨b61_0, b61_1, b61_2, d61_0, d61_1, d61_2⟩ := bk3 BK320.out; obtain ⟨Ao62, co62, eo62⟩ := Kd.R_slice HO_3.out; subst eo62; have p321 : 0 ≤ ((ji33) : Int) := of_decide_eq_true zq186; have q321 : (ji33) < (x3_3.length : Int) := of_decide_eq_true zq186; obtain ⟨ad321, e321, hx321_0⟩ := Kd.at_bool (Kd.R_reads' HO_3.out).2.2 (ji33) p321 q321; (try rw [← Nbq36.out] at hx321_0); (try rw [← Nbq46.out] at hx321_0); (try rw [← Nbq51.out] at hx321_0); cases e321; have hn321_0 : ad321.block ≠ gb320 := Kd.own_blk (Kd.R_ne HO_3.out BK320.out (by decide)); have hn321_1 : ad321.block ≠ gb320 := Kd.own_blk (Kd.R_ne HO_3.out BK320.out (by decide)); have hn321_2 : ad321.block ≠ gb320 := Kd.own_blk (Kd.R_ne HO_3.out BK320.out (by decide)); replace hx321_0 := (cell_far (p := ⟨gb320, 0, none⟩) zq110 (.int .i64 ((rd_T56 l0_3 x8_4).f0))).trans hx321_0; replace hx321_0 := (cell_far (p := ⟨gb320, 1, none⟩) zq111 (.int .i64 ((rd_T56 l0_3 x8_4).f1))).trans hx321_0; replace hx321_0 := (cell_far (p := ⟨gb320, 2, none⟩) zq112 (.int .i64 ((rd_T56 l0_3 x8_4).f2))).trans hx321_0; clear hn321_0; clear hn321_1; clear hn321_2; replace p321 := eq_true p321; replace q321 := eq_true q321; have p322 : 0 ≤ ((ji43) : Int) := of_decide_eq_true zq186; have q322 : (ji43) < (x3_3.length : Int) := of_decide_eq_true zq186; obtain ⟨ad322, e322, hx322_0⟩ := Kd.at_bool (Kd.R_reads' HO_3.out).2.2 (ji43) p322 q322; (try rw [← Nbq36.out] at hx322_0); (try rw [← Nbq46.out] at hx322_0); (try rw [← Nbq51.out] at hx322_0); obtain rfl : ad321 = ad322 := (by injection e322); have hn322_0 : ad321.block ≠ gb320 := Kd.own_blk (Kd.R_ne HO_3.out BK320.out (by decide)); have hn322_1 : ad321.block ≠ gb320 := Kd.own_blk (Kd.R_ne HO_3.out BK320.out (by decide)); have hn322_2 : ad321.block ≠ gb320 := Kd.own_blk (Kd.R_ne HO_3.out BK320.out (by decide)); replace hx322_0 := (cell_far (p := ⟨gb320, 0, none⟩) zq113 (.int .i64 ((rd_T56 l0_3 x8_4).f0))).trans hx322_0; replace hx322_0 := (cell_far (p := ⟨gb320, 1, none⟩) zq114 (.int .i64 ((rd_T56 l0_3 x8_4).f1))).trans hx322_0; replace hx322_0 := (cell_far (p := ⟨gb320, 2, none⟩) zq115 (.int .i64 ((rd_T56 l0_3 x8_4).f2))).trans hx322_0; clear hn322_0; clear hn322_1; clear hn322_2; replace p322 := eq_true p322; replace q322 := eq_true q322; have p323 : 0 ≤ ((ji48) : Int) := of_decide_eq_true zq186; have q323 : (ji48) < (x3_3.length : Int) := of_decide_eq_true zq186; obtain ⟨ad323, e323, hx323_0⟩ := Kd.at_bool (Kd.R_reads' HO_3.out).2.2 (ji48) p323 q323; (try rw [← Nbq36.out] at hx323_0); (try rw [← Nbq46.out] at hx323_0); (try rw [← Nbq51.out] at hx323_0); obtain rfl : ad321 = ad323 := (by injection e323); have hn323_0 : ad321.block ≠ gb320 := Kd.own_blk (Kd.R_ne HO_3.out BK320.out (by decide)); have hn323_1 : ad321.block ≠ gb320 := Kd.own_blk (Kd.R_ne HO_3.out BK320.out (by decide)); have hn323_2 : ad321.block ≠ gb320 := Kd.own_blk (Kd.R_ne HO_3.out BK320.out (by decide)); replace hx323_0 := (cell_far (p := ⟨gb320, 0, none⟩) zq116 (.int .i64 ((rd_T56 l0_3 x8_4).f0))).trans hx323_0; replace hx323_0 := (cell_far (p := ⟨gb320, 1, none⟩) zq117 (.int .i64 ((rd_T56 l0_3 x8_4).f1))).trans hx323_0; replace hx323_0 := (cell_far (p := ⟨gb320, 2, none⟩) zq118 (.int .i64 ((rd_T56 l0_3 x8_4).f2))).trans hx323_0; clear hn323_0; clear hn323_1; clear hn323_2; replace p323 := eq_true p323; replace q323 := eq_true q323))
                                           go_roundg k4
                                           case measure => have := HK1.out; have := HK2.out; have := HK3.out; have := HK4.out; omega
                                           case rel => exact ⟨(x7_4), (wrap64 (x8_4 - 1)), zq187, zq187, H', ⟨zq182⟩, ⟨zq15⟩, ⟨zq16⟩, ⟨zq13⟩, ⟨zq67⟩⟩
                                       · rw [if_neg c50] at H
                                         exact absurd H (by simp)
                                     · rw [if_neg c49] at H
                                       exact absurd H (by simp)
                                   · replace c47 := Bool.eq_false_iff.mpr c47
                                     subst c47
                                     have H1 : (r3_Order.l3 k4 x3_3 x6_3 x7_4 (wrap64 (x8_4 - 1)) a0_0 l0_1 l0_2 l0_3 l0_4 l0_5) = some r := by rw [if_neg (show ¬ (false = true) by decide)] at H; exact H
                                     clear H
                                     have H := H1
                                     clear H1
                                     have H' := Aside0.mk H
                                     clear H
                                     obtain ⟨b63_0, b63_1, b63_2, b63_3, b63_4, b63_5, d63_0, d63_1, d63_2, d63_3, d63_4, d63_5⟩ := bk6 BK312.out
                                     have p319 : 0 ≤ (x8_4 : Int) := of_decide_eq_true zq186
                                     have q319 : x8_4 < (l0_3.length : Int) := of_decide_eq_true zq186
                                     obtain ⟨ad319, e319, hx319_0, hx319_1, hx319_2⟩ := at_T56 HR0_3.out x8_4 p319 q319
                                     cases e319
                                     replace hx319_0 := (HB.out.cell (World.block_lt_of_cell? w _ hx319_0)).trans hx319_0
                                     replace hx319_1 := (HB.out.cell (World.block_lt_of_cell? w _ hx319_1)).trans hx319_1
                                     replace hx319_2 := (HB.out.cell (World.block_lt_of_cell? w _ hx319_2)).trans hx319_2
                                     replace p319 := eq_true p319
                                     replace q319 := eq_true q319
                                     go_wp2_with (first | ((with_reducible refine gate_dst (N := 9) rfl ?_); refine box_event ?hg (N := 9) ?hd (cs := #[.int .i64 0, .int .i64 0, .int .i64 0]) (t := 56) ?hr ?_; (case hd => rfl); (case hg => rfl); (case hr => first | (go_simp; done) | (go_simp; rfl)); intro gb320 hg w64 hbox hb; have n0_ := Aside0.mk (Kd.R_below zq177 hb); have n1_ := Aside0.mk (Kd.R_below zq180 hb); have n2_ := Aside0.mk (blk_below (g := gb312) (o := .cells #[.int .i64 a0_0, .slice A0_1 l0_1.length c0_1, .slice A0_2 l0_2.length c0_2, .slice (some ad319) l0_3.length c0_3, .slice A0_4 l0_4.length c0_4, .slice A0_5 l0_5.length c0_5] 30 (0, 0)) zq124 hb); have n3_ := Aside0.mk (below_step zq95 hb); have n4_ := Aside0.mk (hbox); have n5_ := Aside0.mk ((zq58 : w.heap.size ≤ gb320)); have n6_ := Aside0.mk ((zq58 : w.heap.size ≤ gb320)); have n7_ := Aside0.mk ((zq18 : gb312 ≠ gb320)); have n8_ := Aside0.mk ((zq17 : gb320 ≠ gb312)); clear HO_3; clear HO_6; clear BK312; clear HB; have HO_3 := n0_; have HO_6 := n1_; have BK312 := n2_; have HB := n3_; have BK320 := n4_; have GW320 := n5_; have GE320 := n6_; have NB312_320 := n7_; have NB320_312 := n8_; clear n0_ n1_ n2_ n3_ n4_ n5_ n6_ n7_ n8_; clear hb hbox hg; have hnb65 := NB320_312.out; have hnc65 := NB312_320.out; obtain ⟨b66_0, b66_1, b66_2, d66_0, d66_1, d66_2⟩ := bk3 BK320.out; obtain ⟨Ao67, co67, eo67⟩ := Kd.R_slice HO_3.out; subst eo67; have p321 : 0 ≤ ((ji33) : Int) := of_decide_eq_true zq186; have q321 : (ji33) < (x3_3.length : Int) := of_decide_eq_true zq186; obtain ⟨ad321, e321, hx321_0⟩ := Kd.at_bool (Kd.R_reads' HO_3.out).2.2 (ji33) p321 q321; (try rw [← Nbq36.out] at hx321_0); (try rw [← Nbq46.out] at hx321_0); cases e321; have hn321_0 : ad321.block ≠ gb320 := Kd.own_blk (Kd.R_ne HO_3.out BK320.out (by decide)); have hn321_1 : ad321.block ≠ gb320 := Kd.own_blk (Kd.R_ne HO_3.out BK320.out (by decide)); have hn321_2 : ad321.block ≠ gb320 := Kd.own_blk (Kd.R_ne HO_3.out BK320.out (by decide)); replace hx321_0 := (cell_far (p := ⟨gb320, 0, none⟩) zq110 (.int .i64 ((rd_T56 l0_3 x8_4).f0))).trans hx321_0; replace hx321_0 := (cell_far (p := ⟨gb320, 1, none⟩) zq111 (.int .i64 ((rd_T56 l0_3 x8_4).f1))).trans hx321_0; replace hx321_0 := (cell_far (p := ⟨gb320, 2, none⟩) zq112 (.int .i64 ((rd_T56 l0_3 x8_4).f2))).trans hx321_0; clear hn321_0; clear hn321_1; clear hn321_2; replace p321 := eq_true p321; replace q321 := eq_true q321; have p322 : 0 ≤ ((ji43) : Int) := of_decide_eq_true zq186; have q322 : (ji43) < (x3_3.length : Int) := of_decide_eq_true zq186; obtain ⟨ad322, e322, hx322_0⟩ := Kd.at_bool (Kd.R_reads' HO_3.out).2.2 (ji43) p322 q322; (try rw [← Nbq36.out] at hx322_0); (try rw [← Nbq46.out] at hx322_0); obtain rfl : ad321 = ad322 := (by injection e322); have hn322_0 : ad321.block ≠ gb320 := Kd.own_blk (Kd.R_ne HO_3.out BK320.out (by decide)); have hn322_1 : ad321.block ≠ gb320 := Kd.own_blk (Kd.R_ne HO_3.out BK320.out (by decide)); have hn322_2 : ad321.block ≠ gb320 := Kd.own_blk (Kd.R_ne HO_3.out BK320.out (by decide)); replace hx322_0 := (cell_far (p := ⟨gb320, 0, none⟩) zq113 (.int .i64 ((rd_T56 l0_3 x8_4).f0))).trans hx322_0; replace hx322_0 := (cell_far (p := ⟨gb320, 1, none⟩) zq114 (.int .i64 ((rd_T56 l0_3 x8_4).f1))).trans hx322_0; replace hx322_0 := (cell_far (p := ⟨gb320, 2, none⟩) zq115 (.int .i64 ((rd_T56 l0_3 x8_4).f2))).trans hx322_0; clear hn322_0; clear hn322_1; clear hn322_2; replace p322 := eq_true p322; replace q322 := eq_true q322))
                                     go_roundg k4
                                     case measure => have := HK1.out; have := HK2.out; have := HK3.out; have := HK4.out; omega
                                     case rel => exact ⟨(x7_4), (wrap64 (x8_4 - 1)), zq187, zq187, H', ⟨zq182⟩, ⟨zq15⟩, ⟨zq16⟩, ⟨zq13⟩, ⟨zq67⟩⟩
                                 · rw [if_neg c45] at H
                                   exact absurd H (by simp)
                               · rw [if_neg c44] at H
                                 exact absurd H (by simp)
                           · rw [if_neg c35] at H
                             exact absurd H (by simp)
                         · rw [if_neg c34] at H
                           exact absurd H (by simp)
                       · rw [if_neg c32] at H
                         exact absurd H (by simp)
                     · rw [if_neg c31] at H
                       exact absurd H (by simp)
                   · rw [if_neg c30] at H
                     have c30b0 : decide (0 ≤ x8_4) = false := decide_eq_false c30
                     clear c30
                     by_cases c68 : x7_4 < 0
                     · rw [if_pos c68] at H
                       have c68b0 : decide (x7_4 < 0) = true := decide_eq_true c68
                       clear c68
                       obtain rfl := Option.some.inj H
                       go_wp2
                       go_ret
                       exact ⟨_, zq88, zq180, zq95⟩
                     · rw [if_neg c68] at H
                       have c68b0 : decide (x7_4 < 0) = false := decide_eq_false c68
                       clear c68
                       by_cases c69 : 0 ≤ x7_4
                       · rw [if_pos c69] at H
                         have c69b0 : decide (0 ≤ x7_4) = true := decide_eq_true c69
                         clear c69
                         by_cases c70 : x7_4 < (l0_3.length : Int)
                         · rw [if_pos c70] at H
                           have c70b0 : decide (x7_4 < (l0_3.length : Int)) = true := decide_eq_true c70
                           clear c70
                           obtain ⟨ji71, hji71⟩ : ∃ j_ : Int, (wrap64 (Int.tdiv ((rd_T56 l0_3 x7_4).f0) 2)) = j_ := ⟨_, rfl⟩
                           replace H : (if 0 ≤ (ji71) then (if (ji71) < (x3_3.length : Int) then (if x6_3.length < 17592186044416 then (r3_Order.l2 k4 (x3_3.set ((ji71) : Int).toNat true) (x6_3 ++ [x7_4]) a0_0 l0_1 l0_2 l0_3 l0_4 l0_5) else (none)) else (none)) else (none)) = some r := by first | (rw [hji71] at H; exact H) | (simp only [hji71] at H ⊢; exact H)
                           have hji71w : (IntKind.i64.wrap (Int.tdiv ((rd_T56 l0_3 x7_4).f0) 2)) = ji71 := (i64_w _).trans hji71
                           by_cases c72 : 0 ≤ (ji71)
                           · rw [if_pos c72] at H
                             have c72b0 : decide (0 ≤ (ji71)) = true := decide_eq_true c72
                             clear c72
                             by_cases c73 : (ji71) < (x3_3.length : Int)
                             · rw [if_pos c73] at H
                               have c73b0 : decide ((ji71) < (x3_3.length : Int)) = true := decide_eq_true c73
                               clear c73
                               obtain ⟨y325, hy325⟩ : ∃ y_ : List Bool, y_ = (x3_3.set ((ji71) : Int).toNat true) := ⟨_, rfl⟩
                               replace H : (if x6_3.length < 17592186044416 then (r3_Order.l2 k4 y325 (x6_3 ++ [x7_4]) a0_0 l0_1 l0_2 l0_3 l0_4 l0_5) else (none)) = some r := by first | (rw [hy325]; with_reducible exact H) | (have H2_ := (Option.bind_some _ _).symm.trans H; rw [hy325]; with_reducible exact H2_) | (have H2_ := (Option.bind_some _ _).symm.trans H; with_reducible exact H2_) | with_reducible exact H | (rw [hy325]; exact H) | exact H
                               have Ny325 := Aside0.mk hy325
                               clear hy325
                               by_cases c75 : x6_3.length < 17592186044416
                               · rw [if_pos c75] at H
                                 have LMc75 := Aside0.mk c75
                                 clear c75
                                 obtain ⟨y326, hy326⟩ : ∃ y_ : List Int, y_ = (x6_3 ++ [x7_4]) := ⟨_, rfl⟩
                                 replace H : (r3_Order.l2 k4 y325 y326 a0_0 l0_1 l0_2 l0_3 l0_4 l0_5) = some r := by first | (rw [hy326]; with_reducible exact H) | (have H2_ := (Option.bind_some _ _).symm.trans H; rw [hy326]; with_reducible exact H2_) | (have H2_ := (Option.bind_some _ _).symm.trans H; with_reducible exact H2_) | with_reducible exact H | (rw [hy326]; exact H) | exact H
                                 have Ny326 := Aside0.mk hy326
                                 clear hy326
                                 have H' := Aside0.mk H
                                 clear H
                                 obtain ⟨b76_0, b76_1, b76_2, b76_3, b76_4, b76_5, d76_0, d76_1, d76_2, d76_3, d76_4, d76_5⟩ := bk6 BK312.out
                                 have p324 : 0 ≤ (x7_4 : Int) := of_decide_eq_true zq186
                                 have q324 : x7_4 < (l0_3.length : Int) := of_decide_eq_true zq186
                                 obtain ⟨ad324, e324, hx324_0, hx324_1, hx324_2⟩ := at_T56 HR0_3.out x7_4 p324 q324
                                 cases e324
                                 replace hx324_0 := (HB.out.cell (World.block_lt_of_cell? w _ hx324_0)).trans hx324_0
                                 replace hx324_1 := (HB.out.cell (World.block_lt_of_cell? w _ hx324_1)).trans hx324_1
                                 replace hx324_2 := (HB.out.cell (World.block_lt_of_cell? w _ hx324_2)).trans hx324_2
                                 replace p324 := eq_true p324
                                 replace q324 := eq_true q324
                                 have p74 : 0 ≤ ((ji71) : Int) := of_decide_eq_true zq186
                                 have q74 : ((ji71) : Int) < ((x3_3.length : Int) : Int) := of_decide_eq_true zq186
                                 obtain ⟨go74, co74, eo74, gb74, gl74, cl74, HG74⟩ := Kd.R_form HO_3.out (by omega)
                                 (first | cases eo74 | (injection eo74 with ea_ en_ ec_; (first | subst ea_ | (injection ea_ with ea_; subst ea_)); subst ec_; clear en_))
                                 have GB74 := Aside0.mk gb74
                                 have GG74 := Aside0.mk HG74
                                 clear gb74 gl74 HG74
                                 obtain ⟨hx74_0, hf74_0⟩ := Kd.R_celln false HO_3.out ((ji71) : Int) p74 q74
                                 replace p74 := eq_true p74
                                 replace q74 := eq_true q74
                                 have HP77 := Kd.R_putg HO_3.out ((ji71) : Int) true
                                 go_wp2_with (first | ((with_reducible refine gate_store (t := 4) (p := 93) rfl ?_); refine store_event (t := 4) (p := 93) (v := ?vo_w78) (w1 := (wr.setCell ⟨go74, ((ji71) : Int).toNat, none⟩ (.bool true))) ?hg ?ho ?hn ?hr ?_; (case ho => rfl); (case hg => rfl); (case hn => rfl); (case hr => first | (go_simp; done) | (go_simp; rfl)); intro w78 hw; have hg : wr.grownBy w78 (some go74) := (by rw [hw]; exact HP77.2); have hp_ : Kd.R Kd.bool 4 w78 w.heap.size (fun _ => True) (.slice (some ⟨go74, 0, none⟩) x3_3.length co74) y325 := (by rw [hw, Ny325.out]; exact HP77.1); clear HP77; have n0_ := Aside0.mk (hp_); have n1_ := Aside0.mk (Kd.R_over' (v := (.slice (some ⟨go74, 0, none⟩) x3_3.length co74)) zq180 (Kd.R_typed HO_3.out) (by decide) hg); have n2_ := Aside0.mk (blk_grown (g := gb312) (o := .cells #[.int .i64 a0_0, .slice A0_1 l0_1.length c0_1, .slice A0_2 l0_2.length c0_2, .slice (some ad324) l0_3.length c0_3, .slice A0_4 l0_4.length c0_4, .slice A0_5 l0_5.length c0_5] 30 (0, 0)) zq124 hg (Kd.R_ne HO_3.out BK312.out (by decide))); have n3_ := Aside0.mk ((by rw [hw]; exact below_set (HB.out) GB74.out : Below w.heap.size w w78)); clear HO_3; clear HO_6; clear BK312; clear HB; have HO_3 := n0_; have HO_6 := n1_; have BK312 := n2_; have HB := n3_; clear n0_ n1_ n2_ n3_; clear hg hw hp_) | ((with_reducible refine gate_builtin (b := .append) (xs := #[.tmp 94, .tmp 96]) rfl ?_); at_builtin; refine Kd.R_append (Kd.int .i64) (w0 := w) w.heap.size rfl (.tmp 94) (.tmp 96) 24 3 (.int .i64 0) 8 rfl Try.underlying24 info3 rfl (by decide) (by omega) (.slice Ao28 x6_3.length co28) x6_3 x7_4 [.int .i64 x7_4] (fun _ => True) (fun _ => False) rfl rfl ?aP (fun _ hk => hk.elim) ?aF ?aO ?aB ?aS ?aL ?_; (case aP => exact rfl); (case aB => exact zq95); (case aF => exact (fun _ _ => trivial)); (case aO => exact zq180); (case aS => exact (below_size zq95)); (case aL => have := LMc75.out; omega); intro v327 w79 ho hb hg hat; rw [← Ny326.out] at ho; have n0_ := Aside0.mk (Kd.R_over' zq177 (Kd.R_typed zq180) (by decide) hg); have n1_ := Aside0.mk (blk_grown (g := gb312) (o := .cells #[.int .i64 a0_0, .slice A0_1 l0_1.length c0_1, .slice A0_2 l0_2.length c0_2, .slice (some ad324) l0_3.length c0_3, .slice A0_4 l0_4.length c0_4, .slice A0_5 l0_5.length c0_5] 30 (0, 0)) zq124 hg (Kd.R_ne HO_6.out BK312.out (by decide))); have n2_ := Aside0.mk (hb); have n3_ := Aside0.mk (ho); clear HO_3; clear BK312; clear HB; clear HO_6; have HO_3 := n0_; have BK312 := n1_; have HB := n2_; have HO328 := n3_; clear n0_ n1_ n2_ n3_; clear ho hb hg hat))
                                 go_roundg k4
                                 case measure => have := HK1.out; have := HK2.out; have := HK3.out; have := HK4.out; omega
                                 case rel => exact ⟨(y325), (y326), H', ⟨zq182⟩, ⟨zq177⟩, ⟨by (with_reducible repeat (first | apply Kd.R_alloc | apply Kd.R_drewN | apply Kd.R_drew)); exact HO328.out⟩, ⟨zq124⟩, ⟨zq95⟩⟩
                               · rw [if_neg c75] at H
                                 exact absurd H (by simp)
                             · rw [if_neg c73] at H
                               exact absurd H (by simp)
                           · rw [if_neg c72] at H
                             exact absurd H (by simp)
                         · rw [if_neg c70] at H
                           exact absurd H (by simp)
                       · rw [if_neg c69] at H
                         exact absurd H (by simp)
               · rw [if_neg c27] at H
                 have c27b0 : decide ((x6_3.length : Int) < (l0_3.length : Int)) = false := decide_eq_false c27
                 have c27b1 : decide (x6_3.length < l0_3.length) = false := decide_eq_false (fun h => c27 (Int.ofNat_lt.mpr h))
                 clear c27
                 obtain rfl := Option.some.inj H
                 obtain ⟨Ao80, co80, eo80⟩ := Kd.R_slice HO_6.out
                 subst eo80
                 obtain ⟨b81_0, b81_1, b81_2, b81_3, b81_4, b81_5, d81_0, d81_1, d81_2, d81_3, d81_4, d81_5⟩ := bk6 BK312.out
                 go_wp2
                 go_ret
                 exact ⟨_, zq88, zq180, zq95⟩
   · rw [if_neg c4] at H
     exact absurd H (by simp)
 · rw [if_neg c3] at H
   exact absurd H (by simp)
def r3_Times.l0 : Nat → List Int → List Int → Int → Option (List Int)
 | 0, _, _, _ => none
 | k + 1, x3, x4, x5 => if x5 < (x4.length : Int) then (if 0 ≤ x5 then (if 0 ≤ (wrap64 (Int.tdiv (rd x4 x5) 2)) then (if (wrap64 (Int.tdiv (rd x4 x5) 2)) < (x3.length : Int) then (r3_Times.l0 k (x3.set ((wrap64 (Int.tdiv (rd x4 x5) 2)) : Int).toNat (wrap64 ((rd x3 (wrap64 (Int.tdiv (rd x4 x5) 2))) + 1))) x4 (wrap64 (x5 + 1))) else (none)) else (none)) else (none)) else (some x3)
def r3_Times.f (k : Nat) (a0_0 : Int) (l0_1 : List Int) (l0_2 : List (S56)) (l0_3 : List (S56)) (l0_4 : List Int) (l0_5 : List Int) : Option (List Int) := if 0 ≤ (wrap64 (a0_0 + 1)) then (if (wrap64 (a0_0 + 1) : Int).toNat ≤ 35184372088832 then ((some (List.replicate (wrap64 (a0_0 + 1) : Int).toNat 0 : List Int)).bind fun y381 => (if 0 < (y381.length : Int) then ((r3_Defined.f k a0_0 l0_1 l0_2 l0_3 l0_4 l0_5).bind fun t385 => (r3_Times.l0 k (y381.set (0 : Int).toNat 1) t385 0)) else (none))) else (none)) else (none)
set_option maxHeartbeats 8000000 in
set_option maxRecDepth 100000 in
theorem r3_Times.calls (k : Nat) (a0_0 : Int) (A0_1 : Option Addr) (c0_1 : Nat) (l0_1 : List Int) (A0_2 : Option Addr) (c0_2 : Nat) (l0_2 : List (S56)) (A0_3 : Option Addr) (c0_3 : Nat) (l0_3 : List (S56)) (A0_4 : Option Addr) (c0_4 : Nat) (l0_4 : List Int) (A0_5 : Option Addr) (c0_5 : Nat) (l0_5 : List Int) (r : List Int) (w : World) (hr0_1 : Kd.C (Kd.int .i64) w A0_1 l0_1.length l0_1) (hc0_1 : l0_1.length ≤ c0_1) (hr0_2 : Kd.C k56 w A0_2 l0_2.length l0_2) (hc0_2 : l0_2.length ≤ c0_2) (hr0_3 : Kd.C k56 w A0_3 l0_3.length l0_3) (hc0_3 : l0_3.length ≤ c0_3) (hr0_4 : Kd.C (Kd.int .i64) w A0_4 l0_4.length l0_4) (hc0_4 : l0_4.length ≤ c0_4) (hr0_5 : Kd.C (Kd.int .i64) w A0_5 l0_5.length l0_5) (hc0_5 : l0_5.length ≤ c0_5) (h : r3_Times.f k a0_0 l0_1 l0_2 l0_3 l0_4 l0_5 = some r) :
 Calls Try.prog 48 #[.agg #[.int .i64 a0_0, .slice A0_1 l0_1.length c0_1, .slice A0_2 l0_2.length c0_2, .slice A0_3 l0_3.length c0_3, .slice A0_4 l0_4.length c0_4, .slice A0_5 l0_5.length c0_5]] w fun e w' => ∃ v0_ : Value, e = .returned (v0_) ∧ Kd.R (Kd.int .i64) 3 w' w.heap.size (fun _ => True) v0_ r ∧ Below w.heap.size w w' := by
 have hu30 := Try.underlying30
 have HR0_1 := Aside0.mk hr0_1
 have HC0_1 := Aside0.mk hc0_1
 clear hr0_1 hc0_1
 have HR0_2 := Aside0.mk hr0_2
 have HC0_2 := Aside0.mk hc0_2
 clear hr0_2 hc0_2
 have HR0_3 := Aside0.mk hr0_3
 have HC0_3 := Aside0.mk hc0_3
 clear hr0_3 hc0_3
 have HR0_4 := Aside0.mk hr0_4
 have HC0_4 := Aside0.mk hc0_4
 clear hr0_4 hc0_4
 have HR0_5 := Aside0.mk hr0_5
 have HC0_5 := Aside0.mk hc0_5
 clear hr0_5 hc0_5
 have HB := Aside0.mk (Below.refl w.heap.size w)
 have H : (if 0 ≤ (wrap64 (a0_0 + 1)) then (if (wrap64 (a0_0 + 1) : Int).toNat ≤ 35184372088832 then ((some (List.replicate (wrap64 (a0_0 + 1) : Int).toNat 0 : List Int)).bind fun y381 => (if 0 < (y381.length : Int) then ((r3_Defined.f k a0_0 l0_1 l0_2 l0_3 l0_4 l0_5).bind fun t385 => (r3_Times.l0 k (y381.set (0 : Int).toNat 1) t385 0)) else (none))) else (none)) else (none)) = some r := h
 clear h
 obtain ⟨ji2, hji2⟩ : ∃ j_ : Int, (wrap64 (a0_0 + 1)) = j_ := ⟨_, rfl⟩
 replace H : (if 0 ≤ (ji2) then (if (ji2 : Int).toNat ≤ 35184372088832 then ((some (List.replicate (ji2 : Int).toNat 0 : List Int)).bind fun y381 => (if 0 < (y381.length : Int) then ((r3_Defined.f k a0_0 l0_1 l0_2 l0_3 l0_4 l0_5).bind fun t385 => (r3_Times.l0 k (y381.set (0 : Int).toNat 1) t385 0)) else (none))) else (none)) else (none)) = some r := by first | (rw [hji2] at H; exact H) | (simp only [hji2] at H ⊢; exact H)
 have hji2w : (IntKind.i64.wrap (a0_0 + 1)) = ji2 := (i64_w _).trans hji2
 by_cases c3 : 0 ≤ (ji2)
 · rw [if_pos c3] at H
   have c3b0 := eq_true c3
   have c3b1 : decide (0 ≤ (ji2)) = true := decide_eq_true c3
   clear c3
   by_cases c4 : (ji2 : Int).toNat ≤ 35184372088832
   · rw [if_pos c4] at H
     have c4b0 := eq_true c4
     have c4b1 : decide ((ji2 : Int).toNat ≤ 35184372088832) = true := decide_eq_true c4
     clear c4
     obtain ⟨y381, hy381⟩ : ∃ y_ : List Int, y_ = (List.replicate (ji2 : Int).toNat 0) := ⟨_, rfl⟩
     replace H : (if 0 < (y381.length : Int) then ((r3_Defined.f k a0_0 l0_1 l0_2 l0_3 l0_4 l0_5).bind fun t385 => (r3_Times.l0 k (y381.set (0 : Int).toNat 1) t385 0)) else (none)) = some r := by first | (rw [hy381]; with_reducible exact H) | (have H2_ := (Option.bind_some _ _).symm.trans H; rw [hy381]; with_reducible exact H2_) | (have H2_ := (Option.bind_some _ _).symm.trans H; with_reducible exact H2_) | with_reducible exact H | (rw [hy381]; exact H) | exact H
     have Ny381 := Aside0.mk hy381
     clear hy381
     by_cases c5 : 0 < (y381.length : Int)
     · rw [if_pos c5] at H
       have c5b0 : decide (0 < (y381.length : Int)) = true := decide_eq_true c5
       have c5b1 : decide (0 < y381.length) = true := decide_eq_true (by omega)
       clear c5
       obtain ⟨y384, hy384⟩ : ∃ y_ : List Int, y_ = (y381.set (0 : Int).toNat 1) := ⟨_, rfl⟩
       replace H : ((r3_Defined.f k a0_0 l0_1 l0_2 l0_3 l0_4 l0_5).bind fun t385 => (r3_Times.l0 k y384 t385 0)) = some r := by first | (rw [hy384]; with_reducible exact H) | (have H2_ := (Option.bind_some _ _).symm.trans H; rw [hy384]; with_reducible exact H2_) | (have H2_ := (Option.bind_some _ _).symm.trans H; with_reducible exact H2_) | with_reducible exact H | (rw [hy384]; exact H) | exact H
       have Ny384 := Aside0.mk hy384
       clear hy384
       replace H := Option.bind_eq_some_iff.mp H
       obtain ⟨t385, A70, H⟩ := H
       replace H : (r3_Times.l0 k y384 t385 0) = some r := H
       have A7 := Aside0.mk A70
       clear A70
       have H' := Aside0.mk H
       clear H
       go_enter Try.func48, Try.ntmps48
       go_wp2_with (first | ((with_reducible refine gate_dst (N := 1) rfl ?_); refine box_event ?hg (N := 1) ?hd (cs := #[.int .i64 a0_0, .slice A0_1 l0_1.length c0_1, .slice A0_2 l0_2.length c0_2, .slice A0_3 l0_3.length c0_3, .slice A0_4 l0_4.length c0_4, .slice A0_5 l0_5.length c0_5]) (t := 30) ?hr ?_; (case hd => rfl); (case hg => rfl); (case hr => first | (go_simp; done) | (go_simp; rfl)); intro gb380 hg w8 hbox hb; have n0_ := Aside0.mk (below_step zq109 hb); have n1_ := Aside0.mk (hbox); have n2_ := Aside0.mk ((zq89 : w.heap.size ≤ gb380)); have n3_ := Aside0.mk ((zq89 : w.heap.size ≤ gb380)); clear HB; have HB := n0_; have BK380 := n1_; have GW380 := n2_; have GE380 := n3_; clear n0_ n1_ n2_ n3_; clear hb hbox hg; obtain ⟨b9_0, b9_1, b9_2, b9_3, b9_4, b9_5, d9_0, d9_1, d9_2, d9_3, d9_4, d9_5⟩ := bk6 BK380.out) | ((with_reducible refine gate_dst (N := 9) rfl ?_); refine Kd.R_make (Kd.int .i64) _ 3 rfl (N := 9) rfl 24 _ _ rfl ji2 rfl rfl Try.underlying24 (.int .i64 0) 8 info3 rfl (by decide) (by omega) 0 (ok := fun _ => True) (okp := fun _ => True) rfl (fun _ hk => hk) trivial (of_decide_eq_true zq186) (Nat.le_trans (Nat.mul_le_mul_right _ (of_decide_eq_true zq186 : ji2.toNat ≤ 35184372088832)) (by omega)) (Below.refl _ _) (Nat.le_refl _) ?_; intro v382 w10 ho11 hb hg_ hnew_; clear hg_ hnew_; (first | rw [← Ny381.out] at ho11 | (simp only [Int.reduceToNat] at ho11; rw [← Ny381.out] at ho11)); have n0_ := Aside0.mk (Kd.R_lower ho11 (below_size zq99)); have n1_ := Aside0.mk (blk_below (g := gb380) (o := .cells #[.int .i64 a0_0, .slice A0_1 l0_1.length c0_1, .slice A0_2 l0_2.length c0_2, .slice A0_3 l0_3.length c0_3, .slice A0_4 l0_4.length c0_4, .slice A0_5 l0_5.length c0_5] 30 (0, 0)) zq128 hb); have n2_ := Aside0.mk (below_step zq99 hb); clear BK380; clear HB; have HO383 := n0_; have BK380 := n1_; have HB := n2_; clear n0_ n1_ n2_; clear hb ho11; have p6 : 0 ≤ (0 : Int) := (by omega); have q6 : (0 : Int) < ((y381.length : Int) : Int) := of_decide_eq_true zq186; have qi6 : (0 < y381.length) = True := eq_true (by omega); obtain ⟨go6, co6, eo6, gb6, gl6, cl6, HG6⟩ := Kd.R_form HO383.out (by omega); (first | cases eo6 | (injection eo6 with ea_ en_ ec_; (first | subst ea_ | (injection ea_ with ea_; subst ea_)); subst ec_; clear en_)); have GB6 := Aside0.mk gb6; have GG6 := Aside0.mk HG6; clear gb6 gl6 HG6; obtain ⟨hx6_0, hf6_0⟩ := Kd.R_celln 0 HO383.out (0 : Int) p6 q6; (try rw [show ((0 : Int)).toNat = 0 from rfl] at hx6_0); (try simp only [Nat.reduceMul, Nat.zero_mul, Nat.zero_add, Nat.reduceAdd] at hx6_0); (try rw [show ((0 : Int)).toNat = 0 from rfl] at hf6_0); (try simp only [Nat.reduceMul, Nat.zero_mul, Nat.zero_add, Nat.reduceAdd] at hf6_0); replace p6 := eq_true p6; replace q6 := eq_true q6; obtain ⟨hy12_, hz12_⟩ := Kd.R_celln 0 HO383.out (0 : Int) (by omega) (of_decide_eq_true zq186); (try simp only [Int.reduceToNat, Int.toNat_zero, Int.toNat_ofNat, Nat.reduceMul, Nat.zero_mul, Nat.zero_add] at hy12_ hz12_); (try rw [show ((0 : Int)).toNat = 0 from rfl] at hy12_); (try rw [show ((0 : Int)).toNat = 0 from rfl] at hz12_); have HP12 := Kd.R_putg HO383.out (0 : Int) 1) | ((with_reducible refine gate_store (t := 3) (p := 11) rfl ?_); refine store_event (t := 3) (p := 11) (v := ?vo_w13) (w1 := (w10.setCell ⟨go6, (0 : Int).toNat, none⟩ (.int .i64 1))) ?hg ?ho ?hn ?hr ?_; (case ho => rfl); (case hg => rfl); (case hn => rfl); (case hr => first | (go_simp; done) | (go_simp; rfl)); intro w13 hw; have hg : w10.grownBy w13 (some go6) := (by rw [hw]; exact HP12.2); have hp_ : Kd.R (Kd.int .i64) 3 w13 w.heap.size (fun _ => True) (.slice (some ⟨go6, 0, none⟩) y381.length co6) y384 := (by rw [hw, Ny384.out]; exact HP12.1); clear HP12; have n0_ := Aside0.mk (blk_grown (g := gb380) (o := .cells #[.int .i64 a0_0, .slice A0_1 l0_1.length c0_1, .slice A0_2 l0_2.length c0_2, .slice A0_3 l0_3.length c0_3, .slice A0_4 l0_4.length c0_4, .slice A0_5 l0_5.length c0_5] 30 (0, 0)) zq128 hg (Kd.R_ne HO383.out BK380.out (by decide))); have n1_ := Aside0.mk (hp_); have n2_ := Aside0.mk ((by rw [hw]; exact below_set (HB.out) GB6.out : Below w.heap.size w w13)); clear BK380; clear HO383; clear HB; have BK380 := n0_; have HO383 := n1_; have HB := n2_; clear n0_ n1_ n2_; clear hg hw hp_; obtain ⟨b14_0, b14_1, b14_2, b14_3, b14_4, b14_5, d14_0, d14_1, d14_2, d14_3, d14_4, d14_5⟩ := bk6 BK380.out) | ((with_reducible refine gate_callee (f := 25) rfl ?_); refine goesL_ (some 13) rfl rfl Try.func25 (by kernel_rfl) rfl #[.agg #[.int .i64 a0_0, .slice A0_1 l0_1.length c0_1, .slice A0_2 l0_2.length c0_2, .slice A0_3 l0_3.length c0_3, .slice A0_4 l0_4.length c0_4, .slice A0_5 l0_5.length c0_5]] rfl zq107 ?_; (with_reducible refine (r3_Defined.calls k a0_0 _ _ l0_1 _ _ l0_2 _ _ l0_3 _ _ l0_4 _ _ l0_5 t385 _ ?side1 ?side2 ?side3 ?side4 ?side5 ?side6 ?side7 ?side8 ?side9 ?side10 A7.out).mono ?_); (case side1 => exact zq75); (case side2 => exact HC0_1.out); (case side3 => exact zq76); (case side4 => exact HC0_2.out); (case side5 => exact zq77); (case side6 => exact HC0_3.out); (case side7 => exact zq78); (case side8 => exact HC0_4.out); (case side9 => exact zq79); (case side10 => exact HC0_5.out); rintro e w15 ⟨v386, rfl, ho0, hb⟩; refine ⟨_, rfl, ?_⟩; have n0_ := Aside0.mk (Kd.R_elder' zq157 (Kd.R_base ho0) hb); have n1_ := Aside0.mk (Kd.R_lower (Kd.R_new' ho0 (Kd.R_lt zq157)) (below_size zq99)); have n2_ := Aside0.mk (blk_below (g := gb380) (o := .cells #[.int .i64 a0_0, .slice A0_1 l0_1.length c0_1, .slice A0_2 l0_2.length c0_2, .slice A0_3 l0_3.length c0_3, .slice A0_4 l0_4.length c0_4, .slice A0_5 l0_5.length c0_5] 30 (0, 0)) zq128 hb); have n3_ := Aside0.mk (below_step zq99 hb); clear HO383; clear BK380; clear HB; have HO383 := n0_; have HO387 := n1_; have BK380 := n2_; have HB := n3_; clear n0_ n1_ n2_ n3_; (try clear hb); (try clear hb2); (try clear hk); (try clear hi); (try clear ho0)))
       go_loopg [5] k (fun kq v5 w' => ∃ (x3_1 : List Int) (x5_1 : Int), v5 = .int .i64 x5_1 ∧ Aside0 (r3_Times.l0 kq x3_1 t385 x5_1 = some r) ∧ Aside0 (kq ≤ k) ∧ Aside0 (Kd.R (Kd.int .i64) 3 w' w.heap.size (fun k_ => some k_ ≠ (v386 : Value).ownBlock) (.slice (some ⟨go6, 0, none⟩) y381.length co6) x3_1) ∧ Aside0 (Kd.R (Kd.int .i64) 3 w' w.heap.size (fun k_ => some k_ ≠ ((.slice (some ⟨go6, 0, none⟩) y381.length co6) : Value).ownBlock) v386 t385) ∧ Aside0 (w'.heap[gb380]? = some (.cells #[.int .i64 a0_0, (.slice A0_1 l0_1.length c0_1), (.slice A0_2 l0_2.length c0_2), (.slice A0_3 l0_3.length c0_3), (.slice A0_4 l0_4.length c0_4), (.slice A0_5 l0_5.length c0_5)] 30 (0, 0))) ∧ Aside0 (Below w.heap.size w w'))
       case atStart => exact ⟨(y384), (0), zq187, H', ⟨Nat.le_refl _⟩, ⟨by (with_reducible repeat (first | apply Kd.R_alloc | apply Kd.R_drewN | apply Kd.R_drew)); exact Kd.R_mono HO383.out (fun _ hk => by first | exact hk.2 | exact hk)⟩, ⟨by (with_reducible repeat (first | apply Kd.R_alloc | apply Kd.R_drewN | apply Kd.R_drew)); exact Kd.R_mono HO387.out (fun _ hk => by first | exact hk.2 | exact hk)⟩, ⟨zq128⟩, ⟨zq99⟩⟩
       case round =>
        clear H'
        try clear c2
        try clear p2
        try clear c3
        try clear c3b0
        try clear c3b1
        try clear c4
        try clear c4b0
        try clear c4b1
        try clear c5
        try clear c5b0
        try clear c5b1
        try clear p6
        try clear q6
        try clear hx6
        try clear qi6
        try clear hf6
        try clear b14_0
        try clear b14_1
        try clear b14_2
        try clear b14_3
        try clear b14_4
        try clear b14_5
        try clear b9_0
        try clear b9_1
        try clear b9_2
        try clear b9_3
        try clear b9_4
        try clear b9_5
        try clear d14_0
        try clear d14_1
        try clear d14_2
        try clear d14_3
        try clear d14_4
        try clear d14_5
        try clear d9_0
        try clear d9_1
        try clear d9_2
        try clear d9_3
        try clear d9_4
        try clear d9_5
        try clear hx6_0
        try clear p6
        try clear q6
        obtain ⟨x3_1, x5_1, rfl, HA, HK1, HO_3, HO_4, BK380, HB⟩ := hrel
        have hl3_1 := (Kd.R_reads' HO_3.out).1
        rw [hl3_1] at HO_3
        (try simp only [hl3_1])
        (try simp only [hl3_1] at BK380)
        (try simp only [hl3_1] at HO_4)
        cases gk with
        | zero => exact absurd HA.out (by simp [r3_Times.l0])
        | succ k1 =>
         have H := HA.out
         clear HA
         simp only [r3_Times.l0] at H
         by_cases c16 : x5_1 < (t385.length : Int)
         · rw [if_pos c16] at H
           have c16b0 : decide (x5_1 < (t385.length : Int)) = true := decide_eq_true c16
           clear c16
           by_cases c17 : 0 ≤ x5_1
           · rw [if_pos c17] at H
             have c17b0 : decide (0 ≤ x5_1) = true := decide_eq_true c17
             clear c17
             obtain ⟨ji18, hji18⟩ : ∃ j_ : Int, (wrap64 (Int.tdiv (rd t385 x5_1) 2)) = j_ := ⟨_, rfl⟩
             replace H : (if 0 ≤ (ji18) then (if (ji18) < (x3_1.length : Int) then (r3_Times.l0 k1 (x3_1.set ((ji18) : Int).toNat (wrap64 ((rd x3_1 (ji18)) + 1))) t385 (wrap64 (x5_1 + 1))) else (none)) else (none)) = some r := by first | (rw [hji18] at H; exact H) | (simp only [hji18] at H ⊢; exact H)
             have hji18w : (IntKind.i64.wrap (Int.tdiv (rd t385 x5_1) 2)) = ji18 := (i64_w _).trans hji18
             by_cases c19 : 0 ≤ (ji18)
             · rw [if_pos c19] at H
               have c19b0 : decide (0 ≤ (ji18)) = true := decide_eq_true c19
               clear c19
               by_cases c20 : (ji18) < (x3_1.length : Int)
               · rw [if_pos c20] at H
                 have c20b0 : decide ((ji18) < (x3_1.length : Int)) = true := decide_eq_true c20
                 clear c20
                 obtain ⟨y390, hy390⟩ : ∃ y_ : List Int, y_ = (x3_1.set ((ji18) : Int).toNat (wrap64 ((rd x3_1 (ji18)) + 1))) := ⟨_, rfl⟩
                 replace H : (r3_Times.l0 k1 y390 t385 (wrap64 (x5_1 + 1))) = some r := by first | (rw [hy390]; with_reducible exact H) | (have H2_ := (Option.bind_some _ _).symm.trans H; rw [hy390]; with_reducible exact H2_) | (have H2_ := (Option.bind_some _ _).symm.trans H; with_reducible exact H2_) | with_reducible exact H | (rw [hy390]; exact H) | exact H
                 have Ny390 := Aside0.mk hy390
                 clear hy390
                 have H' := Aside0.mk H
                 clear H
                 obtain ⟨Ao22, co22, eo22⟩ := Kd.R_slice HO_4.out
                 subst eo22
                 have p388 : 0 ≤ (x5_1 : Int) := of_decide_eq_true zq186
                 have q388 : x5_1 < (t385.length : Int) := of_decide_eq_true zq186
                 obtain ⟨ad388, e388, hx388_0⟩ := Kd.at_int (Kd.R_reads' HO_4.out).2.2 x5_1 p388 q388
                 cases e388
                 replace p388 := eq_true p388
                 replace q388 := eq_true q388
                 have p389 : 0 ≤ ((ji18) : Int) := of_decide_eq_true zq186
                 have q389 : (ji18) < (x3_1.length : Int) := of_decide_eq_true zq186
                 obtain ⟨ad389, e389, hx389_0⟩ := Kd.at_int (Kd.R_reads' HO_3.out).2.2 (ji18) p389 q389
                 obtain rfl : (⟨go6, 0, none⟩ : Addr) = ad389 := (by injection e389)
                 (first | simp only [add_plain] at hx389_0 | simp only [add_at] at hx389_0 | simp only [Addr.add, Nat.zero_add] at hx389_0 | skip)
                 replace p389 := eq_true p389
                 replace q389 := eq_true q389
                 have p21 : 0 ≤ ((ji18) : Int) := of_decide_eq_true zq186
                 have q21 : ((ji18) : Int) < ((x3_1.length : Int) : Int) := of_decide_eq_true zq186
                 obtain ⟨hx21_0, hf21_0⟩ := Kd.R_celln 0 HO_3.out ((ji18) : Int) p21 q21
                 replace p21 := eq_true p21
                 replace q21 := eq_true q21
                 have HP23 := Kd.R_putg HO_3.out ((ji18) : Int) (wrap64 ((rd x3_1 (ji18)) + 1))
                 go_wp2_with (first | ((with_reducible refine gate_store (t := 3) (p := 29) rfl ?_); refine store_event (t := 3) (p := 29) (v := ?vo_w24) (w1 := (wr.setCell ⟨go6, ((ji18) : Int).toNat, none⟩ (.int .i64 (wrap64 ((rd x3_1 (ji18)) + 1))))) ?hg ?ho ?hn ?hr ?_; (case ho => rfl); (case hg => rfl); (case hn => rfl); (case hr => first | (go_simp; done) | (go_simp; rfl)); intro w24 hw; have hg : wr.grownBy w24 (some go6) := (by rw [hw]; exact HP23.2); have hp_ : Kd.R (Kd.int .i64) 3 w24 w.heap.size (fun k_ => some k_ ≠ (.slice (some ad388) t385.length co22 : Value).ownBlock) (.slice (some ⟨go6, 0, none⟩) x3_1.length co6) y390 := (by rw [hw, Ny390.out]; exact HP23.1); clear HP23; have n0_ := Aside0.mk (hp_); have n1_ := Aside0.mk (Kd.R_after (v := (.slice (some ⟨go6, 0, none⟩) x3_1.length co6)) (v1 := (.slice (some ⟨go6, 0, none⟩) x3_1.length co6)) (ok := (fun _ => True)) (by (with_reducible repeat (first | apply Kd.R_alloc | apply Kd.R_drewN | apply Kd.R_drew)); exact Kd.R_mono HO_4.out (fun _ hk => ⟨trivial, hk⟩)) hg (.inl rfl)); have n2_ := Aside0.mk (blk_grown (g := gb380) (o := .cells #[.int .i64 a0_0, .slice A0_1 l0_1.length c0_1, .slice A0_2 l0_2.length c0_2, .slice A0_3 l0_3.length c0_3, .slice A0_4 l0_4.length c0_4, .slice A0_5 l0_5.length c0_5] 30 (0, 0)) zq128 hg (Kd.R_ne HO_3.out BK380.out (by decide))); have n3_ := Aside0.mk ((by rw [hw]; exact below_set (HB.out) GB6.out : Below w.heap.size w w24)); clear HO_3; clear HO_4; clear BK380; clear HB; have HO_3 := n0_; have HO_4 := n1_; have BK380 := n2_; have HB := n3_; clear n0_ n1_ n2_ n3_; clear hg hw hp_))
                 (try simp only [← hl3_1])
                 go_roundg k1
                 case measure => have := HK1.out; omega
                 case rel => exact ⟨(y390), (wrap64 (x5_1 + 1)), zq187, H', ⟨by have := HK1.out; omega⟩, ⟨by (try simp only [hl3_1]); (with_reducible repeat (first | apply Kd.R_alloc | apply Kd.R_drewN | apply Kd.R_drew)); exact HO_3.out⟩, ⟨by (try simp only [hl3_1]); (with_reducible repeat (first | apply Kd.R_alloc | apply Kd.R_drewN | apply Kd.R_drew)); exact Kd.R_mono HO_4.out (fun _ hk => by first | exact hk.2 | exact hk)⟩, ⟨by (try simp only [hl3_1]); (with_reducible repeat (first | refine blk_drewN ?_ _ | refine blk_drew ?_ | refine blk_alloc ?_ _)); exact BK380.out⟩, ⟨zq99⟩⟩
               · rw [if_neg c20] at H
                 exact absurd H (by simp)
             · rw [if_neg c19] at H
               exact absurd H (by simp)
           · rw [if_neg c17] at H
             exact absurd H (by simp)
         · rw [if_neg c16] at H
           have c16b0 : decide (x5_1 < (t385.length : Int)) = false := decide_eq_false c16
           clear c16
           obtain rfl := Option.some.inj H
           obtain ⟨Ao25, co25, eo25⟩ := Kd.R_slice HO_4.out
           subst eo25
           go_wp2
           go_ret
           exact ⟨_, zq88, zq108, zq99⟩
     · rw [if_neg c5] at H
       exact absurd H (by simp)
   · rw [if_neg c4] at H
     exact absurd H (by simp)
 · rw [if_neg c3] at H
   exact absurd H (by simp)
mutual
def r3_Check.j0 : Nat → Bool → Int → List Int → List (S56) → List (S56) → List Int → List Int → Option (Int)
 | 0, _, _, _, _, _, _, _ => none
 | k + 1, x38, x392000, x392001, x392002, x392003, x392004, x392005 => if x38 = true then (some 4) else ((r3_numbers.f k x392000 x392001 x392002 x392003 x392004 x392005).bind fun t392 => (if t392 = true then ((r3_Times.f k x392000 x392001 x392002 x392003 x392004 x392005).bind fun t393 => (r3_Check.l0 k t393 0 x392000 x392001 x392002 x392003 x392004 x392005)) else (some 8)))
def r3_Check.l0 : Nat → List Int → Int → Int → List Int → List (S56) → List (S56) → List Int → List Int → Option (Int)
 | 0, _, _, _, _, _, _, _, _ => none
 | k + 1, x3, x4, x392000, x392001, x392002, x392003, x392004, x392005 => if x4 ≤ x392000 then (if 0 ≤ x4 then (if x4 < (x3.length : Int) then (if (rd x3 x4) > 1 then (some 43) else (r3_Check.l0 k x3 (wrap64 (x4 + 1)) x392000 x392001 x392002 x392003 x392004 x392005)) else (none)) else (none)) else ((r3_Used.f k x392000 x392001 x392002 x392003 x392004 x392005).bind fun t397 => (r3_Check.l1 k x3 t397 0 x392000 x392001 x392002 x392003 x392004 x392005))
def r3_Check.l1 : Nat → List Int → List Int → Int → Int → List Int → List (S56) → List (S56) → List Int → List Int → Option (Int)
 | 0, _, _, _, _, _, _, _, _, _ => none
 | k + 1, x3, x5, x6, x392000, x392001, x392002, x392003, x392004, x392005 => if x6 < (x5.length : Int) then (if 0 ≤ x6 then (if 0 ≤ (wrap64 (Int.tdiv (rd x5 x6) 2)) then (if (wrap64 (Int.tdiv (rd x5 x6) 2)) < (x3.length : Int) then (if (rd x3 (wrap64 (Int.tdiv (rd x5 x6) 2))) = 0 then (some 46) else (r3_Check.l1 k x3 x5 (wrap64 (x6 + 1)) x392000 x392001 x392002 x392003 x392004 x392005)) else (none)) else (none)) else (none)) else ((r3_Order.f k x392000 x392001 x392002 x392003 x392004 x392005).bind fun t402 => (if (t402.length : Int) < (x392003.length : Int) then (some 41) else (some 0)))
end
def r3_Check.f (k : Nat) (a0_0 : Int) (l0_1 : List Int) (l0_2 : List (S56)) (l0_3 : List (S56)) (l0_4 : List Int) (l0_5 : List Int) : Option (Int) := if a0_0 < 0 then (some 8) else (if a0_0 > 1000 then (r3_Check.j0 k true a0_0 l0_1 l0_2 l0_3 l0_4 l0_5) else (if (wrap64 ((wrap64 ((l0_1.length : Int) + (l0_2.length : Int))) + (l0_3.length : Int))) > 1000 then (r3_Check.j0 k true a0_0 l0_1 l0_2 l0_3 l0_4 l0_5) else (if (l0_4.length : Int) > 100 then (r3_Check.j0 k true a0_0 l0_1 l0_2 l0_3 l0_4 l0_5) else (r3_Check.j0 k (decide ((l0_5.length : Int) > 100)) a0_0 l0_1 l0_2 l0_3 l0_4 l0_5))))
set_option maxHeartbeats 8000000 in
set_option maxRecDepth 100000 in
theorem r3_Check.calls (k : Nat) (a0_0 : Int) (A0_1 : Option Addr) (c0_1 : Nat) (l0_1 : List Int) (A0_2 : Option Addr) (c0_2 : Nat) (l0_2 : List (S56)) (A0_3 : Option Addr) (c0_3 : Nat) (l0_3 : List (S56)) (A0_4 : Option Addr) (c0_4 : Nat) (l0_4 : List Int) (A0_5 : Option Addr) (c0_5 : Nat) (l0_5 : List Int) (r : Int) (w : World) (hr0_1 : Kd.C (Kd.int .i64) w A0_1 l0_1.length l0_1) (hc0_1 : l0_1.length ≤ c0_1) (hr0_2 : Kd.C k56 w A0_2 l0_2.length l0_2) (hc0_2 : l0_2.length ≤ c0_2) (hr0_3 : Kd.C k56 w A0_3 l0_3.length l0_3) (hc0_3 : l0_3.length ≤ c0_3) (hr0_4 : Kd.C (Kd.int .i64) w A0_4 l0_4.length l0_4) (hc0_4 : l0_4.length ≤ c0_4) (hr0_5 : Kd.C (Kd.int .i64) w A0_5 l0_5.length l0_5) (hc0_5 : l0_5.length ≤ c0_5) (h : r3_Check.f k a0_0 l0_1 l0_2 l0_3 l0_4 l0_5 = some r) :
 Calls Try.prog 19 #[.agg #[.int .i64 a0_0, .slice A0_1 l0_1.length c0_1, .slice A0_2 l0_2.length c0_2, .slice A0_3 l0_3.length c0_3, .slice A0_4 l0_4.length c0_4, .slice A0_5 l0_5.length c0_5]] w fun e w' => e = .returned (.int .i64 r) ∧ Below w.heap.size w w' := by
 have hu30 := Try.underlying30
 have HR0_1 := Aside0.mk hr0_1
 have HC0_1 := Aside0.mk hc0_1
 clear hr0_1 hc0_1
 have HR0_2 := Aside0.mk hr0_2
 have HC0_2 := Aside0.mk hc0_2
 clear hr0_2 hc0_2
 have HR0_3 := Aside0.mk hr0_3
 have HC0_3 := Aside0.mk hc0_3
 clear hr0_3 hc0_3
 have HR0_4 := Aside0.mk hr0_4
 have HC0_4 := Aside0.mk hc0_4
 clear hr0_4 hc0_4
 have HR0_5 := Aside0.mk hr0_5
 have HC0_5 := Aside0.mk hc0_5
 clear hr0_5 hc0_5
 have HB := Aside0.mk (Below.refl w.heap.size w)
 have H : (if a0_0 < 0 then (some 8) else (if a0_0 > 1000 then (r3_Check.j0 k true a0_0 l0_1 l0_2 l0_3 l0_4 l0_5) else (if (wrap64 ((wrap64 ((l0_1.length : Int) + (l0_2.length : Int))) + (l0_3.length : Int))) > 1000 then (r3_Check.j0 k true a0_0 l0_1 l0_2 l0_3 l0_4 l0_5) else (if (l0_4.length : Int) > 100 then (r3_Check.j0 k true a0_0 l0_1 l0_2 l0_3 l0_4 l0_5) else (r3_Check.j0 k (decide ((l0_5.length : Int) > 100)) a0_0 l0_1 l0_2 l0_3 l0_4 l0_5))))) = some r := h
 clear h
 by_cases c2 : a0_0 < 0
 · rw [if_pos c2] at H
   have c2b0 : decide (a0_0 < 0) = true := decide_eq_true c2
   clear c2
   obtain rfl := Option.some.inj H
   go_enter Try.func19, Try.ntmps19
   go_wp2_with (first | ((with_reducible refine gate_dst (N := 1) rfl ?_); (try (refine gate_guard (by rfl) ?_; dsimp only)); refine box_event ?hg (N := 1) ?hd (cs := #[.int .i64 a0_0, .slice A0_1 l0_1.length c0_1, .slice A0_2 l0_2.length c0_2, .slice A0_3 l0_3.length c0_3, .slice A0_4 l0_4.length c0_4, .slice A0_5 l0_5.length c0_5]) (t := 30) ?hr ?_; (case hd => rfl); (case hg => rfl); (case hr => first | (go_simp; done) | (go_simp; rfl)); intro gb391 hg w3 hbox hb; have n0_ := Aside0.mk (below_step zq109 hb); have n1_ := Aside0.mk (hbox); have n2_ := Aside0.mk ((zq89 : w.heap.size ≤ gb391)); have n3_ := Aside0.mk ((zq89 : w.heap.size ≤ gb391)); clear HB; have HB := n0_; have BK391 := n1_; have GW391 := n2_; have GE391 := n3_; clear n0_ n1_ n2_ n3_; clear hb hbox hg; obtain ⟨b4_0, b4_1, b4_2, b4_3, b4_4, b4_5, d4_0, d4_1, d4_2, d4_3, d4_4, d4_5⟩ := bk6 BK391.out))
   go_ret
   exact ⟨zq181, zq100⟩
 · rw [if_neg c2] at H
   have c2b0 : decide (a0_0 < 0) = false := decide_eq_false c2
   clear c2
   have HC5 := Aside0.mk H
   clear H
   go_enter Try.func19, Try.ntmps19
   go_upto_region 3 with (first | ((with_reducible refine gate_dst (N := 1) rfl ?_); (try (refine gate_guard (by rfl) ?_; dsimp only)); refine box_event ?hg (N := 1) ?hd (cs := #[.int .i64 a0_0, .slice A0_1 l0_1.length c0_1, .slice A0_2 l0_2.length c0_2, .slice A0_3 l0_3.length c0_3, .slice A0_4 l0_4.length c0_4, .slice A0_5 l0_5.length c0_5]) (t := 30) ?hr ?_; (case hd => rfl); (case hg => rfl); (case hr => first | (go_simp; done) | (go_simp; rfl)); intro gb391 hg w6 hbox hb; have n0_ := Aside0.mk (below_step zq109 hb); have n1_ := Aside0.mk (hbox); have n2_ := Aside0.mk ((zq89 : w.heap.size ≤ gb391)); have n3_ := Aside0.mk ((zq89 : w.heap.size ≤ gb391)); clear HB; have HB := n0_; have BK391 := n1_; have GW391 := n2_; have GE391 := n3_; clear n0_ n1_ n2_ n3_; clear hb hbox hg; obtain ⟨b7_0, b7_1, b7_2, b7_3, b7_4, b7_5, d7_0, d7_1, d7_2, d7_3, d7_4, d7_5⟩ := bk6 BK391.out))
   (try simp only [Act.put, List.setIfInBounds_toArray, List.set_cons_zero, List.set_cons_succ])
   go_cut [38] (fun v38 wc => ∃ (kq : Nat) (x38_4 : Bool), v38 = .bool x38_4 ∧ Aside0 (r3_Check.j0 kq x38_4 a0_0 l0_1 l0_2 l0_3 l0_4 l0_5 = some r) ∧ Aside0 (kq ≤ k) ∧ Aside0 (wc.heap[gb391]? = some (.cells #[.int .i64 a0_0, (.slice A0_1 l0_1.length c0_1), (.slice A0_2 l0_2.length c0_2), (.slice A0_3 l0_3.length c0_3), (.slice A0_4 l0_4.length c0_4), (.slice A0_5 l0_5.length c0_5)] 30 (0, 0))) ∧ Aside0 (Below w.heap.size w wc))
   case first =>
    have H := HC5.out
    clear HC5
    by_cases c8 : a0_0 > 1000
    · rw [if_pos c8] at H
      have c8b0 : decide (1000 < a0_0) = true := decide_eq_true c8
      clear c8
      (first | rw [c8b0] | (simp only [i64_w, i32_w]; rw [c8b0]) | skip)
      have H' := Aside0.mk H
      clear H
      obtain ⟨b9_0, b9_1, b9_2, b9_3, b9_4, b9_5, d9_0, d9_1, d9_2, d9_3, d9_4, d9_5⟩ := bk6 BK391.out
      go_wp2
      go_meet
      case rel => exact ⟨_, (true), zq187, H', ⟨by first | omega | exact Nat.le_refl _⟩, ⟨zq129⟩, ⟨zq100⟩⟩
    · rw [if_neg c8] at H
      have c8b0 : decide (1000 < a0_0) = false := decide_eq_false c8
      clear c8
      (first | rw [c8b0] | (simp only [i64_w, i32_w]; rw [c8b0]) | skip)
      by_cases c10 : (wrap64 ((wrap64 ((l0_1.length : Int) + (l0_2.length : Int))) + (l0_3.length : Int))) > 1000
      · rw [if_pos c10] at H
        have c10b0 : decide (1000 < (wrap64 ((wrap64 ((l0_1.length : Int) + (l0_2.length : Int))) + (l0_3.length : Int)))) = true := decide_eq_true c10
        clear c10
        have H' := Aside0.mk H
        clear H
        obtain ⟨b11_0, b11_1, b11_2, b11_3, b11_4, b11_5, d11_0, d11_1, d11_2, d11_3, d11_4, d11_5⟩ := bk6 BK391.out
        go_wp2
        go_meet
        case rel => exact ⟨_, (true), zq187, H', ⟨by first | omega | exact Nat.le_refl _⟩, ⟨zq129⟩, ⟨zq100⟩⟩
      · rw [if_neg c10] at H
        have c10b0 : decide (1000 < (wrap64 ((wrap64 ((l0_1.length : Int) + (l0_2.length : Int))) + (l0_3.length : Int)))) = false := decide_eq_false c10
        clear c10
        by_cases c12 : (l0_4.length : Int) > 100
        · rw [if_pos c12] at H
          have c12b0 : decide (100 < (l0_4.length : Int)) = true := decide_eq_true c12
          have c12b1 : decide (100 < l0_4.length) = true := decide_eq_true (by omega)
          clear c12
          have H' := Aside0.mk H
          clear H
          obtain ⟨b13_0, b13_1, b13_2, b13_3, b13_4, b13_5, d13_0, d13_1, d13_2, d13_3, d13_4, d13_5⟩ := bk6 BK391.out
          go_wp2
          go_meet
          case rel => exact ⟨_, (true), zq187, H', ⟨by first | omega | exact Nat.le_refl _⟩, ⟨zq129⟩, ⟨zq100⟩⟩
        · rw [if_neg c12] at H
          have c12b0 : decide (100 < (l0_4.length : Int)) = false := decide_eq_false c12
          have c12b1 : decide (100 < l0_4.length) = false := decide_eq_false (by omega)
          clear c12
          have H' := Aside0.mk H
          clear H
          obtain ⟨b14_0, b14_1, b14_2, b14_3, b14_4, b14_5, d14_0, d14_1, d14_2, d14_3, d14_4, d14_5⟩ := bk6 BK391.out
          go_wp2
          go_meet
          case rel => exact ⟨_, (decide ((l0_5.length : Int) > 100)), zq187, H', ⟨by first | omega | exact Nat.le_refl _⟩, ⟨zq129⟩, ⟨zq100⟩⟩
   case rest =>
    clear HC5
    try clear c1
    try clear c2
    try clear c2b0
    try clear p2
    try clear p6
    try clear c8
    try clear c8b0
    try clear c10
    try clear c10b0
    try clear c12
    try clear c12b0
    try clear c12b1
    try clear b11_0
    try clear b11_1
    try clear b11_2
    try clear b11_3
    try clear b11_4
    try clear b11_5
    try clear b13_0
    try clear b13_1
    try clear b13_2
    try clear b13_3
    try clear b13_4
    try clear b13_5
    try clear b14_0
    try clear b14_1
    try clear b14_2
    try clear b14_3
    try clear b14_4
    try clear b14_5
    try clear b4_0
    try clear b4_1
    try clear b4_2
    try clear b4_3
    try clear b4_4
    try clear b4_5
    try clear b7_0
    try clear b7_1
    try clear b7_2
    try clear b7_3
    try clear b7_4
    try clear b7_5
    try clear b9_0
    try clear b9_1
    try clear b9_2
    try clear b9_3
    try clear b9_4
    try clear b9_5
    try clear d11_0
    try clear d11_1
    try clear d11_2
    try clear d11_3
    try clear d11_4
    try clear d11_5
    try clear d13_0
    try clear d13_1
    try clear d13_2
    try clear d13_3
    try clear d13_4
    try clear d13_5
    try clear d14_0
    try clear d14_1
    try clear d14_2
    try clear d14_3
    try clear d14_4
    try clear d14_5
    try clear d4_0
    try clear d4_1
    try clear d4_2
    try clear d4_3
    try clear d4_4
    try clear d4_5
    try clear d7_0
    try clear d7_1
    try clear d7_2
    try clear d7_3
    try clear d7_4
    try clear d7_5
    try clear d9_0
    try clear d9_1
    try clear d9_2
    try clear d9_3
    try clear d9_4
    try clear d9_5
    obtain ⟨kq, x38_4, rfl, HA, HJ4, BK391, HB⟩ := hcut
    cases kq with
    | zero => exact absurd HA.out (by simp [r3_Check.j0])
    | succ kj4 =>
     have H := HA.out
     clear HA
     simp only [r3_Check.j0] at H
     by_cases c15 : x38_4 = true
     · subst c15
       have H1 : (some 4) = some r := by rw [if_pos rfl] at H; exact H
       clear H
       have H := H1
       clear H1
       obtain rfl := Option.some.inj H
       go_wp2
       go_ret
       exact ⟨zq181, zq100⟩
     · replace c15 := Bool.eq_false_iff.mpr c15
       subst c15
       have H1 : ((r3_numbers.f kj4 a0_0 l0_1 l0_2 l0_3 l0_4 l0_5).bind fun t392 => (if t392 = true then ((r3_Times.f kj4 a0_0 l0_1 l0_2 l0_3 l0_4 l0_5).bind fun t393 => (r3_Check.l0 kj4 t393 0 a0_0 l0_1 l0_2 l0_3 l0_4 l0_5)) else (some 8))) = some r := by rw [if_neg (show ¬ (false = true) by decide)] at H; exact H
       clear H
       have H := H1
       clear H1
       replace H := Option.bind_eq_some_iff.mp H
       obtain ⟨t392, A160, H⟩ := H
       replace H : (if t392 = true then ((r3_Times.f kj4 a0_0 l0_1 l0_2 l0_3 l0_4 l0_5).bind fun t393 => (r3_Check.l0 kj4 t393 0 a0_0 l0_1 l0_2 l0_3 l0_4 l0_5)) else (some 8)) = some r := H
       have A16 := Aside0.mk A160
       clear A160
       by_cases c17 : t392 = true
       · subst c17
         have H1 : ((r3_Times.f kj4 a0_0 l0_1 l0_2 l0_3 l0_4 l0_5).bind fun t393 => (r3_Check.l0 kj4 t393 0 a0_0 l0_1 l0_2 l0_3 l0_4 l0_5)) = some r := by rw [if_pos rfl] at H; exact H
         clear H
         have H := H1
         clear H1
         replace H := Option.bind_eq_some_iff.mp H
         obtain ⟨t393, A180, H⟩ := H
         replace H : (r3_Check.l0 kj4 t393 0 a0_0 l0_1 l0_2 l0_3 l0_4 l0_5) = some r := H
         have A18 := Aside0.mk A180
         clear A180
         have H' := Aside0.mk H
         clear H
         obtain ⟨b19_0, b19_1, b19_2, b19_3, b19_4, b19_5, d19_0, d19_1, d19_2, d19_3, d19_4, d19_5⟩ := bk6 BK391.out
         go_wp2_with (first | ((with_reducible refine gate_callee (f := 47) rfl ?_); refine goesL_ (some 40) rfl rfl Try.func47 (by kernel_rfl) rfl #[.agg #[.int .i64 a0_0, .slice A0_1 l0_1.length c0_1, .slice A0_2 l0_2.length c0_2, .slice A0_3 l0_3.length c0_3, .slice A0_4 l0_4.length c0_4, .slice A0_5 l0_5.length c0_5]] rfl zq107 ?_; (with_reducible refine (r3_numbers.calls kj4 a0_0 _ _ l0_1 _ _ l0_2 _ _ l0_3 _ _ l0_4 _ _ l0_5 true _ ?side1 ?side2 ?side3 ?side4 ?side5 ?side6 ?side7 ?side8 ?side9 ?side10 A16.out).mono ?_); (case side1 => exact zq75); (case side2 => exact HC0_1.out); (case side3 => exact zq76); (case side4 => exact HC0_2.out); (case side5 => exact zq77); (case side6 => exact HC0_3.out); (case side7 => exact zq78); (case side8 => exact HC0_4.out); (case side9 => exact zq79); (case side10 => exact HC0_5.out); rintro e w20 ⟨rfl, hb⟩; refine ⟨_, rfl, ?_⟩; have n0_ := Aside0.mk (blk_below (g := gb391) (o := .cells #[.int .i64 a0_0, .slice A0_1 l0_1.length c0_1, .slice A0_2 l0_2.length c0_2, .slice A0_3 l0_3.length c0_3, .slice A0_4 l0_4.length c0_4, .slice A0_5 l0_5.length c0_5] 30 (0, 0)) zq129 hb); have n1_ := Aside0.mk (below_step zq100 hb); clear BK391; clear HB; have BK391 := n0_; have HB := n1_; clear n0_ n1_; (try clear hb); (try clear hb2); (try clear hk); (try clear hi); obtain ⟨b21_0, b21_1, b21_2, b21_3, b21_4, b21_5, d21_0, d21_1, d21_2, d21_3, d21_4, d21_5⟩ := bk6 BK391.out) | ((with_reducible refine gate_callee (f := 48) rfl ?_); refine goesL_ (some 43) rfl rfl Try.func48 (by kernel_rfl) rfl #[.agg #[.int .i64 a0_0, .slice A0_1 l0_1.length c0_1, .slice A0_2 l0_2.length c0_2, .slice A0_3 l0_3.length c0_3, .slice A0_4 l0_4.length c0_4, .slice A0_5 l0_5.length c0_5]] rfl zq107 ?_; (with_reducible refine (r3_Times.calls kj4 a0_0 _ _ l0_1 _ _ l0_2 _ _ l0_3 _ _ l0_4 _ _ l0_5 t393 _ ?side1 ?side2 ?side3 ?side4 ?side5 ?side6 ?side7 ?side8 ?side9 ?side10 A18.out).mono ?_); (case side1 => exact zq75); (case side2 => exact HC0_1.out); (case side3 => exact zq76); (case side4 => exact HC0_2.out); (case side5 => exact zq77); (case side6 => exact HC0_3.out); (case side7 => exact zq78); (case side8 => exact HC0_4.out); (case side9 => exact zq79); (case side10 => exact HC0_5.out); rintro e w22 ⟨v394, rfl, ho0, hb⟩; refine ⟨_, rfl, ?_⟩; have n0_ := Aside0.mk (Kd.R_lower ho0 (below_size zq100)); have n1_ := Aside0.mk (blk_below (g := gb391) (o := .cells #[.int .i64 a0_0, .slice A0_1 l0_1.length c0_1, .slice A0_2 l0_2.length c0_2, .slice A0_3 l0_3.length c0_3, .slice A0_4 l0_4.length c0_4, .slice A0_5 l0_5.length c0_5] 30 (0, 0)) zq129 hb); have n2_ := Aside0.mk (below_step zq100 hb); clear BK391; clear HB; have HO395 := n0_; have BK391 := n1_; have HB := n2_; clear n0_ n1_ n2_; (try clear hb); (try clear hb2); (try clear hk); (try clear hi); (try clear ho0)))
         go_loopg [4] kj4 (fun kq v4 w' => ∃ (x4_2 : Int), v4 = .int .i64 x4_2 ∧ Aside0 (r3_Check.l0 kq t393 x4_2 a0_0 l0_1 l0_2 l0_3 l0_4 l0_5 = some r) ∧ Aside0 (kq ≤ kj4) ∧ Aside0 (Kd.R (Kd.int .i64) 3 w' w.heap.size (fun _ => True) v394 t393) ∧ Aside0 (w'.heap[gb391]? = some (.cells #[.int .i64 a0_0, (.slice A0_1 l0_1.length c0_1), (.slice A0_2 l0_2.length c0_2), (.slice A0_3 l0_3.length c0_3), (.slice A0_4 l0_4.length c0_4), (.slice A0_5 l0_5.length c0_5)] 30 (0, 0))) ∧ Aside0 (Below w.heap.size w w'))
         case atStart => exact ⟨(0), zq187, H', ⟨Nat.le_refl _⟩, ⟨by (with_reducible repeat (first | apply Kd.R_alloc | apply Kd.R_drewN | apply Kd.R_drew)); exact HO395.out⟩, ⟨zq129⟩, ⟨zq100⟩⟩
         case round =>
          clear H'
          try clear c1
          try clear c2
          try clear c2b0
          try clear p2
          try clear c4
          try clear p6
          try clear c8
          try clear c8b0
          try clear c10
          try clear c10b0
          try clear c12
          try clear c12b0
          try clear c12b1
          try clear c15
          try clear c17
          try clear c19
          try clear b11_0
          try clear b11_1
          try clear b11_2
          try clear b11_3
          try clear b11_4
          try clear b11_5
          try clear b13_0
          try clear b13_1
          try clear b13_2
          try clear b13_3
          try clear b13_4
          try clear b13_5
          try clear b14_0
          try clear b14_1
          try clear b14_2
          try clear b14_3
          try clear b14_4
          try clear b14_5
          try clear b19_0
          try clear b19_1
          try clear b19_2
          try clear b19_3
          try clear b19_4
          try clear b19_5
          try clear b21_0
          try clear b21_1
          try clear b21_2
          try clear b21_3
          try clear b21_4
          try clear b21_5
          try clear b4_0
          try clear b4_1
          try clear b4_2
          try clear b4_3
          try clear b4_4
          try clear b4_5
          try clear b7_0
          try clear b7_1
          try clear b7_2
          try clear b7_3
          try clear b7_4
          try clear b7_5
          try clear b9_0
          try clear b9_1
          try clear b9_2
          try clear b9_3
          try clear b9_4
          try clear b9_5
          try clear d11_0
          try clear d11_1
          try clear d11_2
          try clear d11_3
          try clear d11_4
          try clear d11_5
          try clear d13_0
          try clear d13_1
          try clear d13_2
          try clear d13_3
          try clear d13_4
          try clear d13_5
          try clear d14_0
          try clear d14_1
          try clear d14_2
          try clear d14_3
          try clear d14_4
          try clear d14_5
          try clear d19_0
          try clear d19_1
          try clear d19_2
          try clear d19_3
          try clear d19_4
          try clear d19_5
          try clear d21_0
          try clear d21_1
          try clear d21_2
          try clear d21_3
          try clear d21_4
          try clear d21_5
          try clear d4_0
          try clear d4_1
          try clear d4_2
          try clear d4_3
          try clear d4_4
          try clear d4_5
          try clear d7_0
          try clear d7_1
          try clear d7_2
          try clear d7_3
          try clear d7_4
          try clear d7_5
          try clear d9_0
          try clear d9_1
          try clear d9_2
          try clear d9_3
          try clear d9_4
          try clear d9_5
          try clear p2
          try clear p6
          obtain ⟨x4_2, rfl, HA, HK2, HO_3, BK391, HB⟩ := hrel
          cases gk with
          | zero => exact absurd HA.out (by simp [r3_Check.l0])
          | succ k2 =>
           have H := HA.out
           clear HA
           simp only [r3_Check.l0] at H
           by_cases c23 : x4_2 ≤ a0_0
           · rw [if_pos c23] at H
             have c23b0 : decide (x4_2 ≤ a0_0) = true := decide_eq_true c23
             clear c23
             by_cases c24 : 0 ≤ x4_2
             · rw [if_pos c24] at H
               have c24b0 : decide (0 ≤ x4_2) = true := decide_eq_true c24
               clear c24
               by_cases c25 : x4_2 < (t393.length : Int)
               · rw [if_pos c25] at H
                 have c25b0 : decide (x4_2 < (t393.length : Int)) = true := decide_eq_true c25
                 clear c25
                 by_cases c26 : (rd t393 x4_2) > 1
                 · rw [if_pos c26] at H
                   have c26b0 : decide (1 < (rd t393 x4_2)) = true := decide_eq_true c26
                   clear c26
                   obtain rfl := Option.some.inj H
                   obtain ⟨b27_0, b27_1, b27_2, b27_3, b27_4, b27_5, d27_0, d27_1, d27_2, d27_3, d27_4, d27_5⟩ := bk6 BK391.out
                   obtain ⟨Ao28, co28, eo28⟩ := Kd.R_slice HO_3.out
                   subst eo28
                   have p396 : 0 ≤ (x4_2 : Int) := of_decide_eq_true zq186
                   have q396 : x4_2 < (t393.length : Int) := of_decide_eq_true zq186
                   obtain ⟨ad396, e396, hx396_0⟩ := Kd.at_int (Kd.R_reads' HO_3.out).2.2 x4_2 p396 q396
                   cases e396
                   replace p396 := eq_true p396
                   replace q396 := eq_true q396
                   go_wp2
                   go_ret
                   exact ⟨zq181, zq100⟩
                 · rw [if_neg c26] at H
                   have c26b0 : decide (1 < (rd t393 x4_2)) = false := decide_eq_false c26
                   clear c26
                   have H' := Aside0.mk H
                   clear H
                   obtain ⟨b29_0, b29_1, b29_2, b29_3, b29_4, b29_5, d29_0, d29_1, d29_2, d29_3, d29_4, d29_5⟩ := bk6 BK391.out
                   obtain ⟨Ao30, co30, eo30⟩ := Kd.R_slice HO_3.out
                   subst eo30
                   have p396 : 0 ≤ (x4_2 : Int) := of_decide_eq_true zq186
                   have q396 : x4_2 < (t393.length : Int) := of_decide_eq_true zq186
                   obtain ⟨ad396, e396, hx396_0⟩ := Kd.at_int (Kd.R_reads' HO_3.out).2.2 x4_2 p396 q396
                   cases e396
                   replace p396 := eq_true p396
                   replace q396 := eq_true q396
                   go_wp2
                   go_roundg k2
                   case measure => have := HJ4.out; have := HK2.out; omega
                   case rel => exact ⟨(wrap64 (x4_2 + 1)), zq187, H', ⟨by have := HJ4.out; have := HK2.out; omega⟩, ⟨zq177⟩, ⟨zq129⟩, ⟨zq100⟩⟩
               · rw [if_neg c25] at H
                 exact absurd H (by simp)
             · rw [if_neg c24] at H
               exact absurd H (by simp)
           · rw [if_neg c23] at H
             have c23b0 : decide (x4_2 ≤ a0_0) = false := decide_eq_false c23
             clear c23
             replace H := Option.bind_eq_some_iff.mp H
             obtain ⟨t397, A310, H⟩ := H
             replace H : (r3_Check.l1 k2 t393 t397 0 a0_0 l0_1 l0_2 l0_3 l0_4 l0_5) = some r := H
             have A31 := Aside0.mk A310
             clear A310
             have H' := Aside0.mk H
             clear H
             obtain ⟨b32_0, b32_1, b32_2, b32_3, b32_4, b32_5, d32_0, d32_1, d32_2, d32_3, d32_4, d32_5⟩ := bk6 BK391.out
             go_wp2_with (first | ((with_reducible refine gate_callee (f := 49) rfl ?_); refine goesL_ (some 56) rfl rfl Try.func49 (by kernel_rfl) rfl #[.agg #[.int .i64 a0_0, .slice A0_1 l0_1.length c0_1, .slice A0_2 l0_2.length c0_2, .slice A0_3 l0_3.length c0_3, .slice A0_4 l0_4.length c0_4, .slice A0_5 l0_5.length c0_5]] rfl zq107 ?_; (with_reducible refine (r3_Used.calls k2 a0_0 _ _ l0_1 _ _ l0_2 _ _ l0_3 _ _ l0_4 _ _ l0_5 t397 _ ?side1 ?side2 ?side3 ?side4 ?side5 ?side6 ?side7 ?side8 ?side9 ?side10 A31.out).mono ?_); (case side1 => exact zq75); (case side2 => exact HC0_1.out); (case side3 => exact zq76); (case side4 => exact HC0_2.out); (case side5 => exact zq77); (case side6 => exact HC0_3.out); (case side7 => exact zq78); (case side8 => exact HC0_4.out); (case side9 => exact zq79); (case side10 => exact HC0_5.out); rintro e w33 ⟨v398, rfl, ho0, hb⟩; refine ⟨_, rfl, ?_⟩; have n0_ := Aside0.mk (Kd.R_elder' zq177 (Kd.R_base ho0) hb); have n1_ := Aside0.mk (Kd.R_lower (Kd.R_new' ho0 (Kd.R_lt zq177)) (below_size zq100)); have n2_ := Aside0.mk (blk_below (g := gb391) (o := .cells #[.int .i64 a0_0, .slice A0_1 l0_1.length c0_1, .slice A0_2 l0_2.length c0_2, .slice A0_3 l0_3.length c0_3, .slice A0_4 l0_4.length c0_4, .slice A0_5 l0_5.length c0_5] 30 (0, 0)) zq129 hb); have n3_ := Aside0.mk (below_step zq100 hb); clear HO_3; clear BK391; clear HB; have HO_3 := n0_; have HO399 := n1_; have BK391 := n2_; have HB := n3_; clear n0_ n1_ n2_ n3_; (try clear hb); (try clear hb2); (try clear hk); (try clear hi); (try clear ho0)))
             go_loopg [6] k2 (fun kq v6 w' => ∃ (x6_3 : Int), v6 = .int .i64 x6_3 ∧ Aside0 (r3_Check.l1 kq t393 t397 x6_3 a0_0 l0_1 l0_2 l0_3 l0_4 l0_5 = some r) ∧ Aside0 (kq ≤ k2) ∧ Aside0 (Kd.R (Kd.int .i64) 3 w' w.heap.size (fun k_ => some k_ ≠ (v398 : Value).ownBlock) v394 t393) ∧ Aside0 (Kd.R (Kd.int .i64) 3 w' w.heap.size (fun k_ => some k_ ≠ (v394 : Value).ownBlock) v398 t397) ∧ Aside0 (w'.heap[gb391]? = some (.cells #[.int .i64 a0_0, (.slice A0_1 l0_1.length c0_1), (.slice A0_2 l0_2.length c0_2), (.slice A0_3 l0_3.length c0_3), (.slice A0_4 l0_4.length c0_4), (.slice A0_5 l0_5.length c0_5)] 30 (0, 0))) ∧ Aside0 (Below w.heap.size w w'))
             case atStart => exact ⟨(0), zq187, H', ⟨Nat.le_refl _⟩, ⟨zq105⟩, ⟨by (with_reducible repeat (first | apply Kd.R_alloc | apply Kd.R_drewN | apply Kd.R_drew)); exact Kd.R_mono HO399.out (fun _ hk => by first | exact hk.2 | exact hk)⟩, ⟨zq129⟩, ⟨zq100⟩⟩
             case round =>
              clear H'
              try clear c1
              try clear c2
              try clear c2b0
              try clear p2
              try clear p3
              try clear q3
              try clear hx3
              try clear c4
              try clear p6
              try clear c8
              try clear c8b0
              try clear c10
              try clear c10b0
              try clear c12
              try clear c12b0
              try clear c12b1
              try clear c15
              try clear c17
              try clear c19
              try clear c23
              try clear c23b0
              try clear c24
              try clear c24b0
              try clear c25
              try clear c25b0
              try clear c26
              try clear c26b0
              try clear b11_0
              try clear b11_1
              try clear b11_2
              try clear b11_3
              try clear b11_4
              try clear b11_5
              try clear b13_0
              try clear b13_1
              try clear b13_2
              try clear b13_3
              try clear b13_4
              try clear b13_5
              try clear b14_0
              try clear b14_1
              try clear b14_2
              try clear b14_3
              try clear b14_4
              try clear b14_5
              try clear b19_0
              try clear b19_1
              try clear b19_2
              try clear b19_3
              try clear b19_4
              try clear b19_5
              try clear b21_0
              try clear b21_1
              try clear b21_2
              try clear b21_3
              try clear b21_4
              try clear b21_5
              try clear b27_0
              try clear b27_1
              try clear b27_2
              try clear b27_3
              try clear b27_4
              try clear b27_5
              try clear b29_0
              try clear b29_1
              try clear b29_2
              try clear b29_3
              try clear b29_4
              try clear b29_5
              try clear b32_0
              try clear b32_1
              try clear b32_2
              try clear b32_3
              try clear b32_4
              try clear b32_5
              try clear b4_0
              try clear b4_1
              try clear b4_2
              try clear b4_3
              try clear b4_4
              try clear b4_5
              try clear b7_0
              try clear b7_1
              try clear b7_2
              try clear b7_3
              try clear b7_4
              try clear b7_5
              try clear b9_0
              try clear b9_1
              try clear b9_2
              try clear b9_3
              try clear b9_4
              try clear b9_5
              try clear d11_0
              try clear d11_1
              try clear d11_2
              try clear d11_3
              try clear d11_4
              try clear d11_5
              try clear d13_0
              try clear d13_1
              try clear d13_2
              try clear d13_3
              try clear d13_4
              try clear d13_5
              try clear d14_0
              try clear d14_1
              try clear d14_2
              try clear d14_3
              try clear d14_4
              try clear d14_5
              try clear d19_0
              try clear d19_1
              try clear d19_2
              try clear d19_3
              try clear d19_4
              try clear d19_5
              try clear d21_0
              try clear d21_1
              try clear d21_2
              try clear d21_3
              try clear d21_4
              try clear d21_5
              try clear d27_0
              try clear d27_1
              try clear d27_2
              try clear d27_3
              try clear d27_4
              try clear d27_5
              try clear d29_0
              try clear d29_1
              try clear d29_2
              try clear d29_3
              try clear d29_4
              try clear d29_5
              try clear d32_0
              try clear d32_1
              try clear d32_2
              try clear d32_3
              try clear d32_4
              try clear d32_5
              try clear d4_0
              try clear d4_1
              try clear d4_2
              try clear d4_3
              try clear d4_4
              try clear d4_5
              try clear d7_0
              try clear d7_1
              try clear d7_2
              try clear d7_3
              try clear d7_4
              try clear d7_5
              try clear d9_0
              try clear d9_1
              try clear d9_2
              try clear d9_3
              try clear d9_4
              try clear d9_5
              try clear hx396_0
              try clear p2
              try clear p396
              try clear p6
              try clear q396
              obtain ⟨x6_3, rfl, HA, HK3, HO_3, HO_5, BK391, HB⟩ := hrel
              cases gk with
              | zero => exact absurd HA.out (by simp [r3_Check.l1])
              | succ k3 =>
               have H := HA.out
               clear HA
               simp only [r3_Check.l1] at H
               by_cases c34 : x6_3 < (t397.length : Int)
               · rw [if_pos c34] at H
                 have c34b0 : decide (x6_3 < (t397.length : Int)) = true := decide_eq_true c34
                 clear c34
                 by_cases c35 : 0 ≤ x6_3
                 · rw [if_pos c35] at H
                   have c35b0 : decide (0 ≤ x6_3) = true := decide_eq_true c35
                   clear c35
                   obtain ⟨ji36, hji36⟩ : ∃ j_ : Int, (wrap64 (Int.tdiv (rd t397 x6_3) 2)) = j_ := ⟨_, rfl⟩
                   replace H : (if 0 ≤ (ji36) then (if (ji36) < (t393.length : Int) then (if (rd t393 (ji36)) = 0 then (some 46) else (r3_Check.l1 k3 t393 t397 (wrap64 (x6_3 + 1)) a0_0 l0_1 l0_2 l0_3 l0_4 l0_5)) else (none)) else (none)) = some r := by first | (rw [hji36] at H; exact H) | (simp only [hji36] at H ⊢; exact H)
                   have hji36w : (IntKind.i64.wrap (Int.tdiv (rd t397 x6_3) 2)) = ji36 := (i64_w _).trans hji36
                   by_cases c37 : 0 ≤ (ji36)
                   · rw [if_pos c37] at H
                     have c37b0 : decide (0 ≤ (ji36)) = true := decide_eq_true c37
                     clear c37
                     by_cases c38 : (ji36) < (t393.length : Int)
                     · rw [if_pos c38] at H
                       have c38b0 : decide ((ji36) < (t393.length : Int)) = true := decide_eq_true c38
                       clear c38
                       by_cases c39 : (rd t393 (ji36)) = 0
                       · rw [if_pos c39] at H
                         have c39b0 : ((rd t393 (ji36)) == 0) = true := beq_iff_eq.mpr c39
                         have c39b1 : ((rd t393 (ji36)) != 0) = false := bne_eq_false_iff_eq.mpr c39
                         clear c39
                         obtain rfl := Option.some.inj H
                         obtain ⟨Ao40, co40, eo40⟩ := Kd.R_slice HO_5.out
                         subst eo40
                         have p400 : 0 ≤ (x6_3 : Int) := of_decide_eq_true zq186
                         have q400 : x6_3 < (t397.length : Int) := of_decide_eq_true zq186
                         obtain ⟨ad400, e400, hx400_0⟩ := Kd.at_int (Kd.R_reads' HO_5.out).2.2 x6_3 p400 q400
                         cases e400
                         replace p400 := eq_true p400
                         replace q400 := eq_true q400
                         obtain ⟨Ao41, co41, eo41⟩ := Kd.R_slice HO_3.out
                         subst eo41
                         have p401 : 0 ≤ ((ji36) : Int) := of_decide_eq_true zq186
                         have q401 : (ji36) < (t393.length : Int) := of_decide_eq_true zq186
                         obtain ⟨ad401, e401, hx401_0⟩ := Kd.at_int (Kd.R_reads' HO_3.out).2.2 (ji36) p401 q401
                         cases e401
                         replace p401 := eq_true p401
                         replace q401 := eq_true q401
                         go_wp2
                         go_ret
                         exact ⟨by first | rfl | (simp [errW_none, errW_some] <;> rfl) | (simp only [← hji36]; first | rfl | (simp [errW_none, errW_some] <;> rfl)) | (simp [*, errW_none, errW_some] <;> rfl), zq100⟩
                       · rw [if_neg c39] at H
                         have c39b0 : ((rd t393 (ji36)) == 0) = false := beq_eq_false_iff_ne.mpr c39
                         have c39b1 : ((rd t393 (ji36)) != 0) = true := bne_iff_ne.mpr c39
                         have H' := Aside0.mk H
                         clear H
                         obtain ⟨Ao42, co42, eo42⟩ := Kd.R_slice HO_5.out
                         subst eo42
                         have p400 : 0 ≤ (x6_3 : Int) := of_decide_eq_true zq186
                         have q400 : x6_3 < (t397.length : Int) := of_decide_eq_true zq186
                         obtain ⟨ad400, e400, hx400_0⟩ := Kd.at_int (Kd.R_reads' HO_5.out).2.2 x6_3 p400 q400
                         cases e400
                         replace p400 := eq_true p400
                         replace q400 := eq_true q400
                         obtain ⟨Ao43, co43, eo43⟩ := Kd.R_slice HO_3.out
                         subst eo43
                         have p401 : 0 ≤ ((ji36) : Int) := of_decide_eq_true zq186
                         have q401 : (ji36) < (t393.length : Int) := of_decide_eq_true zq186
                         obtain ⟨ad401, e401, hx401_0⟩ := Kd.at_int (Kd.R_reads' HO_3.out).2.2 (ji36) p401 q401
                         cases e401
                         replace p401 := eq_true p401
                         replace q401 := eq_true q401
                         go_wp2
                         go_roundg k3
                         case measure => have := HJ4.out; have := HK2.out; have := HK3.out; omega
                         case rel => exact ⟨(wrap64 (x6_3 + 1)), zq187, H', ⟨by have := HJ4.out; have := HK2.out; have := HK3.out; omega⟩, ⟨zq177⟩, ⟨zq179⟩, ⟨zq129⟩, ⟨zq100⟩⟩
                     · rw [if_neg c38] at H
                       exact absurd H (by simp)
                   · rw [if_neg c37] at H
                     exact absurd H (by simp)
                 · rw [if_neg c35] at H
                   exact absurd H (by simp)
               · rw [if_neg c34] at H
                 have c34b0 : decide (x6_3 < (t397.length : Int)) = false := decide_eq_false c34
                 clear c34
                 replace H := Option.bind_eq_some_iff.mp H
                 obtain ⟨t402, A440, H⟩ := H
                 replace H : (if (t402.length : Int) < (l0_3.length : Int) then (some 41) else (some 0)) = some r := H
                 have A44 := Aside0.mk A440
                 clear A440
                 by_cases c45 : (t402.length : Int) < (l0_3.length : Int)
                 · rw [if_pos c45] at H
                   have c45b0 : decide ((t402.length : Int) < (l0_3.length : Int)) = true := decide_eq_true c45
                   have c45b1 : decide (t402.length < l0_3.length) = true := decide_eq_true (Int.ofNat_lt.mp c45)
                   clear c45
                   obtain rfl := Option.some.inj H
                   obtain ⟨Ao46, co46, eo46⟩ := Kd.R_slice HO_5.out
                   subst eo46
                   try go_wp2
                   have n0_ := Aside0.mk (Kd.R_drew HO_3.out)
                   have n1_ := Aside0.mk (Kd.R_drew HO_5.out)
                   have n2_ := Aside0.mk (blk_drew BK391.out)
                   have n3_ := Aside0.mk (below_drew1 HB.out)
                   clear HO_3
                   clear HO_5
                   clear BK391
                   clear HB
                   have HO_3 := n0_
                   have HO_5 := n1_
                   have BK391 := n2_
                   have HB := n3_
                   clear n0_ n1_ n2_ n3_
                   refine start_ (n := 7) (S := fun w' => w'.cell? ⟨gb391, 0, none⟩ = some (.int .i64 a0_0) ∧ w'.cell? ⟨gb391, 1, none⟩ = some (.slice A0_1 l0_1.length c0_1) ∧ w'.cell? ⟨gb391, 2, none⟩ = some (.slice A0_2 l0_2.length c0_2) ∧ w'.cell? ⟨gb391, 3, none⟩ = some (.slice A0_3 l0_3.length c0_3) ∧ w'.cell? ⟨gb391, 4, none⟩ = some (.slice A0_4 l0_4.length c0_4) ∧ w'.cell? ⟨gb391, 5, none⟩ = some (.slice A0_5 l0_5.length c0_5)) (ds := []) #[nN,nN,nN,nN,nN,nN,nN] (by kernel_rfl) rfl rfl ⟨(blk_cell BK391.out 0).trans rfl, (blk_cell BK391.out 1).trans rfl, (blk_cell BK391.out 2).trans rfl, (blk_cell BK391.out 3).trans rfl, (blk_cell BK391.out 4).trans rfl, (blk_cell BK391.out 5).trans rfl⟩ (fun hHeld => ?_)
                   generalize wr.drew = w47 at HO_3 HO_5 BK391 HB hHeld ⊢
                   refine pure_ (i := 3) (N := some 75) (v := ?_) (a' := ?_) #[nN,nN,nN,yY,nN,nN,nN] rfl rfl (by kernel_rfl) (fun _ _ _ h => h) (Or.inl ⟨by rfl, ?_⟩) ?_ ?_
                   rotate_left
                   · intro w'
                     go_simp
                     with_reducible rfl
                   rotate_left
                   · simp only [Act.put, List.setIfInBounds_toArray, List.set_cons_zero, List.set_cons_succ, i64_w, i32_w]
                     rfl
                   refine take_ (i := 0) (N := some 72) (v := ?_) (a' := ?_) #[yY,nN,nN,yY,nN,nN,nN] rfl rfl (by kernel_rfl) (fun _ _ _ h => h) (Or.inl ⟨by rfl, ?_⟩) hHeld ?_ ?_
                   rotate_left
                   · rintro w' ⟨s0, s1, s2, s3, s4, s5⟩
                     go_simp
                     with_reducible rfl
                   rotate_left
                   · simp only [Act.put, List.setIfInBounds_toArray, List.set_cons_zero, List.set_cons_succ, i64_w, i32_w]
                     rfl
                   refine take_ (i := 4) (N := some 76) (v := ?_) (a' := ?_) #[yY,nN,nN,yY,yY,nN,nN] rfl rfl (by kernel_rfl) (fun _ _ _ h => h) (Or.inl ⟨by rfl, ?_⟩) hHeld ?_ ?_
                   rotate_left
                   · rintro w' ⟨s0, s1, s2, s3, s4, s5⟩
                     go_simp
                     with_reducible rfl
                   rotate_left
                   · simp only [Act.put, List.setIfInBounds_toArray, List.set_cons_zero, List.set_cons_succ, i64_w, i32_w]
                     rfl
                   refine pure_ (i := 5) (N := some 77) (v := ?_) (a' := ?_) #[yY,nN,nN,yY,yY,yY,nN] rfl rfl (by kernel_rfl) (fun _ _ _ h => h) (Or.inl ⟨by rfl, ?_⟩) ?_ ?_
                   rotate_left
                   · intro w'
                     go_simp
                     with_reducible rfl
                   rotate_left
                   · simp only [Act.put, List.setIfInBounds_toArray, List.set_cons_zero, List.set_cons_succ, i64_w, i32_w]
                     rfl
                   refine one_ (i := 1) (N := some 73) #[yY,yY,nN,yY,yY,yY,nN] rfl rfl (by kernel_rfl) (by decide) (fun K hK => ?_)
                   refine goes_ Try.func39 (by kernel_rfl) rfl #[.agg #[.int .i64 a0_0, .slice A0_1 l0_1.length c0_1, .slice A0_2 l0_2.length c0_2, .slice A0_3 l0_3.length c0_3, .slice A0_4 l0_4.length c0_4, .slice A0_5 l0_5.length c0_5]] (by rfl) rfl rfl zq107 ?_
                   with_reducible refine (r3_Order.calls k3 a0_0 _ _ l0_1 _ _ l0_2 _ _ l0_3 _ _ l0_4 _ _ l0_5 t402 _ ?side1 ?side2 ?side3 ?side4 ?side5 ?side6 ?side7 ?side8 ?side9 ?side10 A44.out).mono ?_
                   (case side1 => exact zq75)
                   (case side2 => exact HC0_1.out)
                   (case side3 => exact zq76)
                   (case side4 => exact HC0_2.out)
                   (case side5 => exact zq77)
                   (case side6 => exact HC0_3.out)
                   (case side7 => exact zq78)
                   (case side8 => exact HC0_4.out)
                   (case side9 => exact zq79)
                   (case side10 => exact HC0_5.out)
                   rintro e w48 ⟨v403, rfl, ho0, hb⟩
                   refine ⟨_, rfl, ?_⟩
                   have n0_ := Aside0.mk (Kd.R_elder' zq177 (Kd.R_base ho0) hb)
                   have n1_ := Aside0.mk (Kd.R_elder' zq179 (Kd.R_base ho0) hb)
                   have n2_ := Aside0.mk (Kd.R_lower (Kd.R_new' (Kd.R_new' ho0 (Kd.R_lt zq177)) (Kd.R_lt zq179)) (below_size zq100))
                   have n3_ := Aside0.mk (blk_below (g := gb391) (o := .cells #[.int .i64 a0_0, .slice A0_1 l0_1.length c0_1, .slice A0_2 l0_2.length c0_2, .slice A0_3 l0_3.length c0_3, .slice A0_4 l0_4.length c0_4, .slice A0_5 l0_5.length c0_5] 30 (0, 0)) zq129 hb)
                   have n4_ := Aside0.mk (below_step zq100 hb)
                   clear HO_3
                   clear HO_5
                   clear BK391
                   clear HB
                   have HO_3 := n0_
                   have HO_5 := n1_
                   have HO404 := n2_
                   have BK391 := n3_
                   have HB := n4_
                   clear n0_ n1_ n2_ n3_ n4_
                   (try clear hb)
                   (try clear hb2)
                   (try clear hk)
                   (try clear hi)
                   (try clear ho0)
                   obtain ⟨Ao49, co49, eo49⟩ := Kd.R_slice HO404.out
                   (first | subst eo49 | (injection eo49 with f1_ f2_ f3_; have f4_ := f1_.symm; have f5_ := f3_.symm; clear f1_ f2_ f3_; subst f4_; subst f5_))
                   refine hK.out _ _ ⟨(blk_cell BK391.out 0).trans rfl, (blk_cell BK391.out 1).trans rfl, (blk_cell BK391.out 2).trans rfl, (blk_cell BK391.out 3).trans rfl, (blk_cell BK391.out 4).trans rfl, (blk_cell BK391.out 5).trans rfl⟩ (fun hHeld => ?_)
                   clear hK K
                   refine norm_ (a' := ?_) ?_ ?_
                   rotate_left
                   · show Act.put _ (some 73) _ = _
                     simp only [Act.put, List.setIfInBounds_toArray, List.set_cons_zero, List.set_cons_succ, i64_w, i32_w]
                     rfl
                   refine pure_ (i := 2) (N := some 74) (v := ?_) (a' := ?_) #[yY,yY,yY,yY,yY,yY,nN] rfl rfl (by kernel_rfl) (fun _ _ _ h => h) (Or.inl ⟨by rfl, ?_⟩) ?_ ?_
                   rotate_left
                   · intro w'
                     go_simp
                     with_reducible rfl
                   rotate_left
                   · simp only [Act.put, List.setIfInBounds_toArray, List.set_cons_zero, List.set_cons_succ, i64_w, i32_w]
                     rfl
                   refine pure_ (i := 6) (N := some 78) (v := ?_) (a' := ?_) #[yY,yY,yY,yY,yY,yY,yY] rfl rfl (by kernel_rfl) (fun _ _ _ h => h) (Or.inl ⟨by rfl, ?_⟩) ?_ ?_
                   rotate_left
                   · intro w'
                     go_simp
                     with_reducible rfl
                   rotate_left
                   · simp only [Act.put, List.setIfInBounds_toArray, List.set_cons_zero, List.set_cons_succ, i64_w, i32_w]
                     rfl
                   refine done_ (by kernel_rfl) ?_
                   try go_wp2
                   go_ret
                   exact ⟨zq181, zq100⟩
                 · rw [if_neg c45] at H
                   have c45b0 : decide ((t402.length : Int) < (l0_3.length : Int)) = false := decide_eq_false c45
                   have c45b1 : decide (t402.length < l0_3.length) = false := decide_eq_false (fun h => c45 (Int.ofNat_lt.mpr h))
                   clear c45
                   obtain rfl := Option.some.inj H
                   obtain ⟨Ao50, co50, eo50⟩ := Kd.R_slice HO_5.out
                   subst eo50
                   try go_wp2
                   have n0_ := Aside0.mk (Kd.R_drew HO_3.out)
                   have n1_ := Aside0.mk (Kd.R_drew HO_5.out)
                   have n2_ := Aside0.mk (blk_drew BK391.out)
                   have n3_ := Aside0.mk (below_drew1 HB.out)
                   clear HO_3
                   clear HO_5
                   clear BK391
                   clear HB
                   have HO_3 := n0_
                   have HO_5 := n1_
                   have BK391 := n2_
                   have HB := n3_
                   clear n0_ n1_ n2_ n3_
                   refine start_ (n := 7) (S := fun w' => w'.cell? ⟨gb391, 0, none⟩ = some (.int .i64 a0_0) ∧ w'.cell? ⟨gb391, 1, none⟩ = some (.slice A0_1 l0_1.length c0_1) ∧ w'.cell? ⟨gb391, 2, none⟩ = some (.slice A0_2 l0_2.length c0_2) ∧ w'.cell? ⟨gb391, 3, none⟩ = some (.slice A0_3 l0_3.length c0_3) ∧ w'.cell? ⟨gb391, 4, none⟩ = some (.slice A0_4 l0_4.length c0_4) ∧ w'.cell? ⟨gb391, 5, none⟩ = some (.slice A0_5 l0_5.length c0_5)) (ds := []) #[nN,nN,nN,nN,nN,nN,nN] (by kernel_rfl) rfl rfl ⟨(blk_cell BK391.out 0).trans rfl, (blk_cell BK391.out 1).trans rfl, (blk_cell BK391.out 2).trans rfl, (blk_cell BK391.out 3).trans rfl, (blk_cell BK391.out 4).trans rfl, (blk_cell BK391.out 5).trans rfl⟩ (fun hHeld => ?_)
                   generalize wr.drew = w51 at HO_3 HO_5 BK391 HB hHeld ⊢
                   refine pure_ (i := 3) (N := some 75) (v := ?_) (a' := ?_) #[nN,nN,nN,yY,nN,nN,nN] rfl rfl (by kernel_rfl) (fun _ _ _ h => h) (Or.inl ⟨by rfl, ?_⟩) ?_ ?_
                   rotate_left
                   · intro w'
                     go_simp
                     with_reducible rfl
                   rotate_left
                   · simp only [Act.put, List.setIfInBounds_toArray, List.set_cons_zero, List.set_cons_succ, i64_w, i32_w]
                     rfl
                   refine take_ (i := 0) (N := some 72) (v := ?_) (a' := ?_) #[yY,nN,nN,yY,nN,nN,nN] rfl rfl (by kernel_rfl) (fun _ _ _ h => h) (Or.inl ⟨by rfl, ?_⟩) hHeld ?_ ?_
                   rotate_left
                   · rintro w' ⟨s0, s1, s2, s3, s4, s5⟩
                     go_simp
                     with_reducible rfl
                   rotate_left
                   · simp only [Act.put, List.setIfInBounds_toArray, List.set_cons_zero, List.set_cons_succ, i64_w, i32_w]
                     rfl
                   refine take_ (i := 4) (N := some 76) (v := ?_) (a' := ?_) #[yY,nN,nN,yY,yY,nN,nN] rfl rfl (by kernel_rfl) (fun _ _ _ h => h) (Or.inl ⟨by rfl, ?_⟩) hHeld ?_ ?_
                   rotate_left
                   · rintro w' ⟨s0, s1, s2, s3, s4, s5⟩
                     go_simp
                     with_reducible rfl
                   rotate_left
                   · simp only [Act.put, List.setIfInBounds_toArray, List.set_cons_zero, List.set_cons_succ, i64_w, i32_w]
                     rfl
                   refine pure_ (i := 5) (N := some 77) (v := ?_) (a' := ?_) #[yY,nN,nN,yY,yY,yY,nN] rfl rfl (by kernel_rfl) (fun _ _ _ h => h) (Or.inl ⟨by rfl, ?_⟩) ?_ ?_
                   rotate_left
                   · intro w'
                     go_simp
                     with_reducible rfl
                   rotate_left
                   · simp only [Act.put, List.setIfInBounds_toArray, List.set_cons_zero, List.set_cons_succ, i64_w, i32_w]
                     rfl
                   refine one_ (i := 1) (N := some 73) #[yY,yY,nN,yY,yY,yY,nN] rfl rfl (by kernel_rfl) (by decide) (fun K hK => ?_)
                   refine goes_ Try.func39 (by kernel_rfl) rfl #[.agg #[.int .i64 a0_0, .slice A0_1 l0_1.length c0_1, .slice A0_2 l0_2.length c0_2, .slice A0_3 l0_3.length c0_3, .slice A0_4 l0_4.length c0_4, .slice A0_5 l0_5.length c0_5]] (by rfl) rfl rfl zq107 ?_
                   with_reducible refine (r3_Order.calls k3 a0_0 _ _ l0_1 _ _ l0_2 _ _ l0_3 _ _ l0_4 _ _ l0_5 t402 _ ?side1 ?side2 ?side3 ?side4 ?side5 ?side6 ?side7 ?side8 ?side9 ?side10 A44.out).mono ?_
                   (case side1 => exact zq75)
                   (case side2 => exact HC0_1.out)
                   (case side3 => exact zq76)
                   (case side4 => exact HC0_2.out)
                   (case side5 => exact zq77)
                   (case side6 => exact HC0_3.out)
                   (case side7 => exact zq78)
                   (case side8 => exact HC0_4.out)
                   (case side9 => exact zq79)
                   (case side10 => exact HC0_5.out)
                   rintro e w52 ⟨v403, rfl, ho0, hb⟩
                   refine ⟨_, rfl, ?_⟩
                   have n0_ := Aside0.mk (Kd.R_elder' zq177 (Kd.R_base ho0) hb)
                   have n1_ := Aside0.mk (Kd.R_elder' zq179 (Kd.R_base ho0) hb)
                   have n2_ := Aside0.mk (Kd.R_lower (Kd.R_new' (Kd.R_new' ho0 (Kd.R_lt zq177)) (Kd.R_lt zq179)) (below_size zq100))
                   have n3_ := Aside0.mk (blk_below (g := gb391) (o := .cells #[.int .i64 a0_0, .slice A0_1 l0_1.length c0_1, .slice A0_2 l0_2.length c0_2, .slice A0_3 l0_3.length c0_3, .slice A0_4 l0_4.length c0_4, .slice A0_5 l0_5.length c0_5] 30 (0, 0)) zq129 hb)
                   have n4_ := Aside0.mk (below_step zq100 hb)
                   clear HO_3
                   clear HO_5
                   clear BK391
                   clear HB
                   have HO_3 := n0_
                   have HO_5 := n1_
                   have HO404 := n2_
                   have BK391 := n3_
                   have HB := n4_
                   clear n0_ n1_ n2_ n3_ n4_
                   (try clear hb)
                   (try clear hb2)
                   (try clear hk)
                   (try clear hi)
                   (try clear ho0)
                   obtain ⟨Ao53, co53, eo53⟩ := Kd.R_slice HO404.out
                   (first | subst eo53 | (injection eo53 with f1_ f2_ f3_; have f4_ := f1_.symm; have f5_ := f3_.symm; clear f1_ f2_ f3_; subst f4_; subst f5_))
                   refine hK.out _ _ ⟨(blk_cell BK391.out 0).trans rfl, (blk_cell BK391.out 1).trans rfl, (blk_cell BK391.out 2).trans rfl, (blk_cell BK391.out 3).trans rfl, (blk_cell BK391.out 4).trans rfl, (blk_cell BK391.out 5).trans rfl⟩ (fun hHeld => ?_)
                   clear hK K
                   refine norm_ (a' := ?_) ?_ ?_
                   rotate_left
                   · show Act.put _ (some 73) _ = _
                     simp only [Act.put, List.setIfInBounds_toArray, List.set_cons_zero, List.set_cons_succ, i64_w, i32_w]
                     rfl
                   refine pure_ (i := 2) (N := some 74) (v := ?_) (a' := ?_) #[yY,yY,yY,yY,yY,yY,nN] rfl rfl (by kernel_rfl) (fun _ _ _ h => h) (Or.inl ⟨by rfl, ?_⟩) ?_ ?_
                   rotate_left
                   · intro w'
                     go_simp
                     with_reducible rfl
                   rotate_left
                   · simp only [Act.put, List.setIfInBounds_toArray, List.set_cons_zero, List.set_cons_succ, i64_w, i32_w]
                     rfl
                   refine pure_ (i := 6) (N := some 78) (v := ?_) (a' := ?_) #[yY,yY,yY,yY,yY,yY,yY] rfl rfl (by kernel_rfl) (fun _ _ _ h => h) (Or.inl ⟨by rfl, ?_⟩) ?_ ?_
                   rotate_left
                   · intro w'
                     go_simp
                     with_reducible rfl
                   rotate_left
                   · simp only [Act.put, List.setIfInBounds_toArray, List.set_cons_zero, List.set_cons_succ, i64_w, i32_w]
                     rfl
                   refine done_ (by kernel_rfl) ?_
                   try go_wp2
                   go_ret
                   exact ⟨zq181, zq100⟩
       · replace c17 := Bool.eq_false_iff.mpr c17
         subst c17
         have H1 : (some 8) = some r := by rw [if_neg (show ¬ (false = true) by decide)] at H; exact H
         clear H
         have H := H1
         clear H1
         obtain rfl := Option.some.inj H
         obtain ⟨b54_0, b54_1, b54_2, b54_3, b54_4, b54_5, d54_0, d54_1, d54_2, d54_3, d54_4, d54_5⟩ := bk6 BK391.out
         go_wp2_with (first | ((with_reducible refine gate_callee (f := 47) rfl ?_); refine goesL_ (some 40) rfl rfl Try.func47 (by kernel_rfl) rfl #[.agg #[.int .i64 a0_0, .slice A0_1 l0_1.length c0_1, .slice A0_2 l0_2.length c0_2, .slice A0_3 l0_3.length c0_3, .slice A0_4 l0_4.length c0_4, .slice A0_5 l0_5.length c0_5]] rfl zq107 ?_; (with_reducible refine (r3_numbers.calls kj4 a0_0 _ _ l0_1 _ _ l0_2 _ _ l0_3 _ _ l0_4 _ _ l0_5 false _ ?side1 ?side2 ?side3 ?side4 ?side5 ?side6 ?side7 ?side8 ?side9 ?side10 A16.out).mono ?_); (case side1 => exact zq75); (case side2 => exact HC0_1.out); (case side3 => exact zq76); (case side4 => exact HC0_2.out); (case side5 => exact zq77); (case side6 => exact HC0_3.out); (case side7 => exact zq78); (case side8 => exact HC0_4.out); (case side9 => exact zq79); (case side10 => exact HC0_5.out); rintro e w55 ⟨rfl, hb⟩; refine ⟨_, rfl, ?_⟩; have n0_ := Aside0.mk (blk_below (g := gb391) (o := .cells #[.int .i64 a0_0, .slice A0_1 l0_1.length c0_1, .slice A0_2 l0_2.length c0_2, .slice A0_3 l0_3.length c0_3, .slice A0_4 l0_4.length c0_4, .slice A0_5 l0_5.length c0_5] 30 (0, 0)) zq129 hb); have n1_ := Aside0.mk (below_step zq100 hb); clear BK391; clear HB; have BK391 := n0_; have HB := n1_; clear n0_ n1_; (try clear hb); (try clear hb2); (try clear hk); (try clear hi)))
         go_ret
         exact ⟨zq181, zq100⟩
end Go.Proofs.Ytpdlkjpemplhoaa.P
