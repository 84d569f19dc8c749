/- Texts of one claim, packed: part 4 of 6 -/
import Derived.Test.YtpdlkjpemplhoaaTqC
namespace Go.Proofs.Ytpdlkjpemplhoaa.P
open Go.RowKit Go.Proofs.YtpdlkjpemplhoaaW.PrintWords Go.Proofs.YtpdlkjpemplhoaaW.PrintLast Go.Proofs.YtpdlkjpemplhoaaW.PrintMore
attribute [local go_sem] max2_int min2_int max_two min_two max_three min_three max_four min_four
set_option linter.unusedVariables false
set_option linter.unusedSimpArgs false
mutual
def order_Raw.l0 : Nat → Int → Int → Int → Int → List (S61) → List (S59) → List Int → List Int → Int → List Int → List Int → List Int → Option (Int × List Int × (List (S56)) × (List (S56)) × List Int × List Int × Int)
 | 0, _, _, _, _, _, _, _, _, _, _, _, _ => none
 | k + 1, x7, x30, x31, x103000, x103001, x103002, x103003, x103004, x113000, x113001, x113004, x113005 => if x31 < x30 then (if x113001.length < 17592186044416 then (order_Raw.l0 k (wrap64 (x7 + 2)) x30 (wrap64 (x31 + 1)) x103000 x103001 x103002 x103003 x103004 x113000 (x113001 ++ [wrap64 (x7 + 2)]) x113004 x113005) else (none)) else (order_Raw.l1 k x7 x103001 (x103001.length : Int) 0 x103000 x103001 x103002 x103003 x103004 x113000 x113001 ([] : List (S56)) x113004 x113005)
def order_Raw.l1 : Nat → Int → List (S61) → Int → Int → Int → List (S61) → List (S59) → List Int → List Int → Int → List Int → List (S56) → List Int → List Int → Option (Int × List Int × (List (S56)) × (List (S56)) × List Int × List Int × Int)
 | 0, _, _, _, _, _, _, _, _, _, _, _, _, _, _ => none
 | k + 1, x7, x43, x44, x45, x103000, x103001, x103002, x103003, x103004, x113000, x113001, x113002, x113004, x113005 => if x45 < x44 then (if 0 ≤ x45 then (if x45 < (x43.length : Int) then (if x113002.length < 5864062014805 then (order_Raw.l1 k (wrap64 (x7 + 2)) x43 x44 (wrap64 (x45 + 1)) x103000 x103001 x103002 x103003 x103004 x113000 x113001 (x113002 ++ [(⟨wrap64 (x7 + 2), (rd_T61 x43 x45).f0, (rd_T61 x43 x45).f1⟩ : S56)]) x113004 x113005) else (none)) else (none)) else (none)) else (order_Raw.l2 k x7 x103002 (x103002.length : Int) 0 x113000 x113001 x113002 ([] : List (S56)) x113004 x113005)
def order_Raw.l2 : Nat → Int → List (S59) → Int → Int → Int → List Int → List (S56) → List (S56) → List Int → List Int → Option (Int × List Int × (List (S56)) × (List (S56)) × List Int × List Int × Int)
 | 0, _, _, _, _, _, _, _, _, _, _ => none
 | k + 1, x7, x64, x65, x66, x113000, x113001, x113002, x113003, x113004, x113005 => if x66 < x65 then (if 0 ≤ x66 then (if x66 < (x64.length : Int) then (if x113003.length < 5864062014805 then (order_Raw.l2 k (wrap64 (x7 + 2)) x64 x65 (wrap64 (x66 + 1)) x113000 x113001 x113002 (x113003 ++ [(⟨wrap64 (x7 + 2), (rd_T59 x64 x66).f0, (rd_T59 x64 x66).f1⟩ : S56)]) x113004 x113005) else (none)) else (none)) else (none)) else (some (x113000, x113001, x113002, x113003, x113004, x113005, 0))
end
def order_Raw.f (k : Nat) (a0_0 : Int) (l0_1 : List (S61)) (l0_2 : List (S59)) (l0_3 : List Int) (l0_4 : List Int) : Option (Int × List Int × (List (S56)) × (List (S56)) × List Int × List Int × Int) := (gates_Vars.f a0_0 l0_1 l0_2 l0_3 l0_4).bind fun bt104 => (if bt104.2 = 0 then ((slices_Clone_int_int.f l0_3).bind fun t106 => ((slices_Clone_int_int.f l0_4).bind fun t109 => (order_Raw.l0 k 0 a0_0 0 a0_0 l0_1 l0_2 l0_3 l0_4 bt104.1 ([] : List Int) t106 t109))) else (some (0, ([] : List Int), ([] : List (S56)), ([] : List (S56)), ([] : List Int), ([] : List Int), bt104.2)))
def order_Raw.T4 : Bool × List (List Nat × List Nat) := (true, [([], []), ([], []), ([1], [1]), ([2], [2]), ([], []), ([4], [4]), ([5, 3], [5]), ([0, 3, 6], [0, 3, 6]), ([], []), ([8, 7, 6, 0, 1, 2, 3, 4, 5, 6, 7, 8], [7, 8])])
def order_Raw.B4 : List Nat := [0, 0, 2, 6, 0, 16, 62, 127, 0, 511]
theorem order_Raw.tab4 : rtab .any (opsOf Try.f11 4) = order_Raw.T4 := by kernel_rfl
theorem order_Raw.bits4 : waitsOk order_Raw.T4.2 order_Raw.B4 = true := by kernel_rfl
set_option maxHeartbeats 8000000 in
set_option maxRecDepth 100000 in
theorem order_Raw.calls (k : Nat) (a0_0 : Int) (A0_1 : Option Addr) (c0_1 : Nat) (l0_1 : List (S61)) (A0_2 : Option Addr) (c0_2 : Nat) (l0_2 : List (S59)) (A0_3 : Option Addr) (c0_3 : Nat) (l0_3 : List Int) (A0_4 : Option Addr) (c0_4 : Nat) (l0_4 : List Int) (r1 : Int) (r2 : List Int) (r3 : List (S56)) (r4 : List (S56)) (r5 : List Int) (r6 : List Int) (r7 : Int) (w : World) (hr0_1 : Kd.C k61 w A0_1 l0_1.length l0_1) (hc0_1 : l0_1.length ≤ c0_1) (hr0_2 : Kd.C k59 w A0_2 l0_2.length l0_2) (hc0_2 : l0_2.length ≤ c0_2) (hr0_3 : Kd.C (Kd.int .i64) w A0_3 l0_3.length l0_3) (hc0_3 : l0_3.length ≤ c0_3) (hr0_4 : Kd.C (Kd.int .i64) w A0_4 l0_4.length l0_4) (hc0_4 : l0_4.length ≤ c0_4) (h : order_Raw.f k a0_0 l0_1 l0_2 l0_3 l0_4 = some (r1, r2, r3, r4, r5, r6, r7)) :
 Calls Try.prog 11 #[.agg #[.int .i64 a0_0, .slice A0_1 l0_1.length c0_1, .slice A0_2 l0_2.length c0_2, .slice A0_3 l0_3.length c0_3, .slice A0_4 l0_4.length c0_4]] w fun e w' => ∃ v1_ v2_ v3_ v4_ v5_ : Value, e = .returned (.tuple #[.agg #[.int .i64 r1, v1_, v2_, v3_, v4_, v5_], .int .i64 r7]) ∧ Kd.R (Kd.int .i64) 3 w' w.heap.size (fun k_ => some k_ ≠ (v4_ : Value).ownBlock ∧ some k_ ≠ (v5_ : Value).ownBlock) v1_ r2 ∧ Kd.R k56 56 w' w.heap.size (fun k_ => some k_ ≠ (v3_ : Value).ownBlock) v2_ r3 ∧ Kd.R k56 56 w' w.heap.size (fun k_ => some k_ ≠ (v2_ : Value).ownBlock) v3_ r4 ∧ Kd.R (Kd.int .i64) 3 w' w.heap.size (fun k_ => some k_ ≠ (v1_ : Value).ownBlock ∧ some k_ ≠ (v5_ : Value).ownBlock) v4_ r5 ∧ Kd.R (Kd.int .i64) 3 w' w.heap.size (fun k_ => some k_ ≠ (v1_ : Value).ownBlock ∧ some k_ ≠ (v4_ : Value).ownBlock) v5_ r6 ∧ Below w.heap.size w w' := by
 have hu26 := Try.underlying26
 have hu30 := Try.underlying30
 have hu61 := Try.underlying61
 have hu56 := Try.underlying56
 have hu59 := Try.underlying59
 have HR0_1 := Aside0.mk hr0_1
 have HC0_1 := Aside0.mk hc0_1
 clear hr0_1 hc0_1
 have HR0_2 := Aside0.mk hr0_2
 have HC0_2 := Aside0.mk hc0_2
 clear hr0_2 hc0_2
 have HR0_3 := Aside0.mk hr0_3
 have HC0_3 := Aside0.mk hc0_3
 clear hr0_3 hc0_3
 have HR0_4 := Aside0.mk hr0_4
 have HC0_4 := Aside0.mk hc0_4
 clear hr0_4 hc0_4
 have HB := Aside0.mk (Below.refl w.heap.size w)
 have H : ((gates_Vars.f a0_0 l0_1 l0_2 l0_3 l0_4).bind fun bt104 => (if bt104.2 = 0 then ((slices_Clone_int_int.f l0_3).bind fun t106 => ((slices_Clone_int_int.f l0_4).bind fun t109 => (order_Raw.l0 k 0 a0_0 0 a0_0 l0_1 l0_2 l0_3 l0_4 bt104.1 ([] : List Int) t106 t109))) else (some (0, ([] : List Int), ([] : List (S56)), ([] : List (S56)), ([] : List Int), ([] : List Int), bt104.2)))) = some (r1, r2, r3, r4, r5, r6, r7) := h
 clear h
 replace H := Option.bind_eq_some_iff.mp H
 obtain ⟨⟨t104, t105⟩, A20, H⟩ := H
 replace H : (if t105 = 0 then ((slices_Clone_int_int.f l0_3).bind fun t106 => ((slices_Clone_int_int.f l0_4).bind fun t109 => (order_Raw.l0 k 0 a0_0 0 a0_0 l0_1 l0_2 l0_3 l0_4 t104 ([] : List Int) t106 t109))) else (some (0, ([] : List Int), ([] : List (S56)), ([] : List (S56)), ([] : List Int), ([] : List Int), t105))) = some (r1, r2, r3, r4, r5, r6, r7) := H
 have A2 := Aside0.mk A20
 clear A20
 by_cases c3 : t105 = 0
 · rw [if_pos c3] at H
   have c3b0 : (t105 == 0) = true := beq_iff_eq.mpr c3
   have c3b1 : (t105 != 0) = false := bne_eq_false_iff_eq.mpr c3
   clear c3
   replace H := Option.bind_eq_some_iff.mp H
   obtain ⟨t106, A40, H⟩ := H
   replace H : ((slices_Clone_int_int.f l0_4).bind fun t109 => (order_Raw.l0 k 0 a0_0 0 a0_0 l0_1 l0_2 l0_3 l0_4 t104 ([] : List Int) t106 t109)) = some (r1, r2, r3, r4, r5, r6, r7) := H
   have A4 := Aside0.mk A40
   clear A40
   replace H := Option.bind_eq_some_iff.mp H
   obtain ⟨t109, A50, H⟩ := H
   replace H : (order_Raw.l0 k 0 a0_0 0 a0_0 l0_1 l0_2 l0_3 l0_4 t104 ([] : List Int) t106 t109) = some (r1, r2, r3, r4, r5, r6, r7) := H
   have A5 := Aside0.mk A50
   clear A50
   have H' := Aside0.mk H
   clear H
   go_enter Try.func11, Try.ntmps11
   try go_wp2_with (first | ((with_reducible refine gate_dst (N := 1) rfl ?_); refine box_event ?hg (N := 1) ?hd (cs := #[.int .i64 a0_0, .slice A0_1 l0_1.length c0_1, .slice A0_2 l0_2.length c0_2, .slice A0_3 l0_3.length c0_3, .slice A0_4 l0_4.length c0_4]) (t := 26) ?hr ?_; (case hd => rfl); (case hg => rfl); (case hr => first | (go_simp; done) | (go_simp; rfl)); intro gb102 hg w6 hbox hb; have n0_ := Aside0.mk (below_step zq125 hb); have n1_ := Aside0.mk (hbox); have n2_ := Aside0.mk ((zq110 : w.heap.size ≤ gb102)); have n3_ := Aside0.mk ((zq110 : w.heap.size ≤ gb102)); clear HB; have HB := n0_; have BK102 := n1_; have GW102 := n2_; have GE102 := n3_; clear n0_ n1_ n2_ n3_; clear hb hbox hg) | ((with_reducible refine gate_dst (N := 2) rfl ?_); refine box_event ?hg (N := 2) ?hd (cs := #[.int .i64 0, .slice none 0 0, .slice none 0 0, .slice none 0 0, .slice none 0 0, .slice none 0 0]) (t := 30) ?hr ?_; (case hd => rfl); (case hg => rfl); (case hr => first | (go_simp; done) | (go_simp; rfl)); intro gb103 hg w7 hbox hb; have n0_ := Aside0.mk (blk_below (g := gb102) (o := .cells #[.int .i64 a0_0, .slice A0_1 l0_1.length c0_1, .slice A0_2 l0_2.length c0_2, .slice A0_3 l0_3.length c0_3, .slice A0_4 l0_4.length c0_4] 26 (0, 0)) zq126 hb); have n1_ := Aside0.mk (below_step zq112 hb); have n2_ := Aside0.mk (hbox); have n3_ := Aside0.mk ((zq68 : w.heap.size ≤ gb103)); have n4_ := Aside0.mk ((zq68 : w.heap.size ≤ gb103)); have n5_ := Aside0.mk ((zq40 : gb102 ≠ gb103)); have n6_ := Aside0.mk ((zq37 : gb103 ≠ gb102)); clear BK102; clear HB; have BK102 := n0_; have HB := n1_; have BK103 := n2_; have GW103 := n3_; have GE103 := n4_; have NB102_103 := n5_; have NB103_102 := n6_; clear n0_ n1_ n2_ n3_ n4_ n5_ n6_; clear hb hbox hg; have hnb8 := NB102_103.out; have hnc8 := NB103_102.out; obtain ⟨b9_0, b9_1, b9_2, b9_3, b9_4, d9_0, d9_1, d9_2, d9_3, d9_4⟩ := bk5 BK102.out) | ((with_reducible refine gate_callee (f := 30) rfl ?_); refine goesL_ (some 14) rfl rfl Try.func30 (by kernel_rfl) rfl #[.agg #[.int .i64 a0_0, .slice A0_1 l0_1.length c0_1, .slice A0_2 l0_2.length c0_2, .slice A0_3 l0_3.length c0_3, .slice A0_4 l0_4.length c0_4]] rfl zq123 ?_; (with_reducible refine (gates_Vars.calls a0_0 _ _ l0_1 _ _ l0_2 _ _ l0_3 _ _ l0_4 t104 t105 _ ?side1 ?side2 ?side3 ?side4 ?side5 ?side6 ?side7 ?side8 A2.out).mono ?_); (case side1 => exact zq88); (case side2 => exact HC0_1.out); (case side3 => exact zq89); (case side4 => exact HC0_2.out); (case side5 => exact zq90); (case side6 => exact HC0_3.out); (case side7 => exact zq91); (case side8 => exact HC0_4.out); rintro e w10 ⟨rfl, hb⟩; refine ⟨_, rfl, ?_⟩; have n0_ := Aside0.mk (blk_below (g := gb102) (o := .cells #[.int .i64 a0_0, .slice A0_1 l0_1.length c0_1, .slice A0_2 l0_2.length c0_2, .slice A0_3 l0_3.length c0_3, .slice A0_4 l0_4.length c0_4] 26 (0, 0)) zq126 hb); have n1_ := Aside0.mk (blk_below (g := gb103) (o := .cells #[.int .i64 0, .slice none 0 0, .slice none 0 0, .slice none 0 0, .slice none 0 0, .slice none 0 0] 30 (0, 0)) zq127 hb); have n2_ := Aside0.mk (below_step zq75 hb); clear BK102; clear BK103; clear HB; have BK102 := n0_; have BK103 := n1_; have HB := n2_; clear n0_ n1_ n2_; (try clear hb); (try clear hb2); (try clear hk); (try clear hi)))
   have n0_ := Aside0.mk (blk_drew BK102.out)
   have n1_ := Aside0.mk (blk_drew BK103.out)
   have n2_ := Aside0.mk (below_drew1 HB.out)
   clear BK102
   clear BK103
   clear HB
   have BK102 := n0_
   have BK103 := n1_
   have HB := n2_
   clear n0_ n1_ n2_
   refine start_ (n := 10) (S := fun w' => w'.cell? ⟨gb102, 0, none⟩ = some (.int .i64 a0_0) ∧ w'.cell? ⟨gb102, 1, none⟩ = some (.slice A0_1 l0_1.length c0_1) ∧ w'.cell? ⟨gb102, 2, none⟩ = some (.slice A0_2 l0_2.length c0_2) ∧ w'.cell? ⟨gb102, 3, none⟩ = some (.slice A0_3 l0_3.length c0_3) ∧ w'.cell? ⟨gb102, 4, none⟩ = some (.slice A0_4 l0_4.length c0_4)) (ds := []) #[nN,nN,nN,nN,nN,nN,nN,nN,nN,nN] (by kernel_rfl) rfl rfl ⟨(blk_cell BK102.out 0).trans rfl, (blk_cell BK102.out 1).trans rfl, (blk_cell BK102.out 2).trans rfl, (blk_cell BK102.out 3).trans rfl, (blk_cell BK102.out 4).trans rfl⟩ (fun hHeld => ?_); refine with_tabW order_Raw.tab4 order_Raw.bits4 (fun HT_ HW_ => ?_)
   generalize w10.drew = w11 at BK102 BK103 HB hHeld ⊢
   refine pz 0 21 #[yY,nN,nN,nN,nN,nN,nN,nN,nN,nN] (h := ?_)
   refine pz 1 22 #[yY,yY,nN,nN,nN,nN,nN,nN,nN,nN] (h := ?_)
   refine pz 4 25 #[yY,yY,nN,nN,yY,nN,nN,nN,nN,nN] (h := ?_)
   refine take_ (i := 2) (N := some 23) (v := ?_) (a' := ?_) #[yY,yY,yY,nN,yY,nN,nN,nN,nN,nN] rfl rfl (take_ofW HT_.out HW_.out (by kernel_rfl)) (fun _ _ _ h => h) (Or.inl ⟨by rfl, ?_⟩) hHeld ?_ ?_
   rotate_left
   · rintro w' ⟨s0, s1, s2, s3, s4⟩
     go_simp
     with_reducible rfl
   rotate_left
   · simp only [Act.put, List.setIfInBounds_toArray, List.set_cons_zero, List.set_cons_succ, i64_w, i32_w]
     rfl
   refine take_ (i := 5) (N := some 26) (v := ?_) (a' := ?_) #[yY,yY,yY,nN,yY,yY,nN,nN,nN,nN] rfl rfl (take_ofW HT_.out HW_.out (by kernel_rfl)) (fun _ _ _ h => h) (Or.inl ⟨by rfl, ?_⟩) hHeld ?_ ?_
   rotate_left
   · rintro w' ⟨s0, s1, s2, s3, s4⟩
     go_simp
     with_reducible rfl
   rotate_left
   · simp only [Act.put, List.setIfInBounds_toArray, List.set_cons_zero, List.set_cons_succ, i64_w, i32_w]
     rfl
   refine join_ (σ := Value × Value × Nat) 1 #[yY,yY,yY,yY,yY,yY,yY,yY,yY,nN] (fun s_ => [(24, s_.1), (27, s_.2.1), (6, .pointer (some ⟨s_.2.2, 0, none⟩)), (28, .agg #[.int .i64 t104, .slice none 0 0, .slice none 0 0, .slice none 0 0, s_.1, s_.2.1])]) (fun s_ w' => (w'.cell? ⟨gb102, 0, none⟩ = some (.int .i64 a0_0) ∧ w'.cell? ⟨gb102, 1, none⟩ = some (.slice A0_1 l0_1.length c0_1) ∧ w'.cell? ⟨gb102, 2, none⟩ = some (.slice A0_2 l0_2.length c0_2) ∧ w'.cell? ⟨gb102, 3, none⟩ = some (.slice A0_3 l0_3.length c0_3) ∧ w'.cell? ⟨gb102, 4, none⟩ = some (.slice A0_4 l0_4.length c0_4)) ∧ (Kd.R (Kd.int .i64) 3 w' w.heap.size (fun k_ => some k_ ≠ (s_.2.1 : Value).ownBlock) s_.1 t106) ∧ (Kd.R (Kd.int .i64) 3 w' w.heap.size (fun k_ => some k_ ≠ (s_.1 : Value).ownBlock) s_.2.1 t109) ∧ (w'.heap[gb102]? = some (.cells #[.int .i64 a0_0, .slice A0_1 l0_1.length c0_1, .slice A0_2 l0_2.length c0_2, .slice A0_3 l0_3.length c0_3, .slice A0_4 l0_4.length c0_4] 26 (0, 0))) ∧ (w'.heap[gb103]? = some (.cells #[.int .i64 0, .slice none 0 0, .slice none 0 0, .slice none 0 0, .slice none 0 0, .slice none 0 0] 30 (0, 0))) ∧ (w'.heap[s_.2.2]? = some (.cells #[.int .i64 0, .slice none 0 0, .slice none 0 0, .slice none 0 0, .slice none 0 0, .slice none 0 0] 30 (0, 0))) ∧ (w.heap.size ≤ s_.2.2) ∧ (w.heap.size ≤ s_.2.2) ∧ (gb102 ≠ s_.2.2) ∧ (s_.2.2 ≠ gb102) ∧ (gb103 ≠ s_.2.2) ∧ (s_.2.2 ≠ gb103) ∧ (Below w.heap.size w w')) ?_ ?_
   rotate_left
   · intro hCont
     refine two_ (i := 3) (j := 8) (Ni := some 24) (Nj := some 6) #[yY,yY,yY,yY,yY,yY,nN,nN,nN,nN] #[yY,yY,yY,nN,yY,yY,nN,nN,yY,nN] rfl rfl rfl rfl (two_of HT_.out (by kernel_rfl)) (by decide) (by decide) (fun K hK => ?_) (fun K hK => ?_)
     · skip
       refine goes_ Try.func31 (by kernel_rfl) rfl #[.slice A0_3 l0_3.length c0_3] (by rfl) rfl rfl zq123 ?_
       with_reducible refine (slices_Clone_int_int.calls _ _ l0_3 t106 _ ?side1 ?side2 A4.out).mono ?_
       (case side1 => exact zq90)
       (case side2 => exact HC0_3.out)
       rintro e w12 ⟨v107, rfl, ho0, hb⟩
       refine ⟨_, rfl, ?_⟩
       have n0_ := Aside0.mk (Kd.R_lower ho0 (below_size zq75))
       have n1_ := Aside0.mk (blk_below (g := gb102) (o := .cells #[.int .i64 a0_0, .slice A0_1 l0_1.length c0_1, .slice A0_2 l0_2.length c0_2, .slice A0_3 l0_3.length c0_3, .slice A0_4 l0_4.length c0_4] 26 (0, 0)) zq126 hb)
       have n2_ := Aside0.mk (blk_below (g := gb103) (o := .cells #[.int .i64 0, .slice none 0 0, .slice none 0 0, .slice none 0 0, .slice none 0 0, .slice none 0 0] 30 (0, 0)) zq127 hb)
       have n3_ := Aside0.mk (below_step zq75 hb)
       clear BK102
       clear BK103
       clear HB
       have HO108 := n0_
       have BK102 := n1_
       have BK103 := n2_
       have HB := n3_
       clear n0_ n1_ n2_ n3_
       (try clear hb)
       (try clear hb2)
       (try clear hk)
       (try clear hi)
       (try clear ho0)
       refine hK.out _ _ ⟨(blk_cell BK102.out 0).trans rfl, (blk_cell BK102.out 1).trans rfl, (blk_cell BK102.out 2).trans rfl, (blk_cell BK102.out 3).trans rfl, (blk_cell BK102.out 4).trans rfl⟩ (fun hHeld => ?_)
       clear hK K
       refine norm_ (a' := ?_) ?_ ?_
       rotate_left
       · show Act.put _ (some 24) _ = _
         simp only [Act.put, List.setIfInBounds_toArray, List.set_cons_zero, List.set_cons_succ, i64_w, i32_w]
         rfl
       refine two_ (i := 6) (j := 8) (Ni := some 27) (Nj := some 6) #[yY,yY,yY,yY,yY,yY,yY,nN,nN,nN] #[yY,yY,yY,yY,yY,yY,nN,nN,yY,nN] rfl rfl rfl rfl (two_of HT_.out (by kernel_rfl)) (by decide) (by decide) (fun K hK => ?_) (fun K hK => ?_)
       · skip
         refine goes_ Try.func31 (by kernel_rfl) rfl #[.slice A0_4 l0_4.length c0_4] (by rfl) rfl rfl zq123 ?_
         with_reducible refine (slices_Clone_int_int.calls _ _ l0_4 t109 _ ?side1 ?side2 A5.out).mono ?_
         (case side1 => exact zq91)
         (case side2 => exact HC0_4.out)
         rintro e w13 ⟨v110, rfl, ho0, hb⟩
         refine ⟨_, rfl, ?_⟩
         have n0_ := Aside0.mk (Kd.R_elder' zq154 (Kd.R_base ho0) hb)
         have n1_ := Aside0.mk (Kd.R_lower (Kd.R_new' ho0 (Kd.R_lt zq154)) (below_size zq75))
         have n2_ := Aside0.mk (blk_below (g := gb102) (o := .cells #[.int .i64 a0_0, .slice A0_1 l0_1.length c0_1, .slice A0_2 l0_2.length c0_2, .slice A0_3 l0_3.length c0_3, .slice A0_4 l0_4.length c0_4] 26 (0, 0)) zq126 hb)
         have n3_ := Aside0.mk (blk_below (g := gb103) (o := .cells #[.int .i64 0, .slice none 0 0, .slice none 0 0, .slice none 0 0, .slice none 0 0, .slice none 0 0] 30 (0, 0)) zq127 hb)
         have n4_ := Aside0.mk (below_step zq75 hb)
         clear HO108
         clear BK102
         clear BK103
         clear HB
         have HO108 := n0_
         have HO111 := n1_
         have BK102 := n2_
         have BK103 := n3_
         have HB := n4_
         clear n0_ n1_ n2_ n3_ n4_
         (try clear hb)
         (try clear hb2)
         (try clear hk)
         (try clear hi)
         (try clear ho0)
         obtain ⟨Ao14, co14, eo14⟩ := Kd.R_slice HO111.out
         (first | subst eo14 | (injection eo14 with f1_ f2_ f3_; have f4_ := f1_.symm; have f5_ := f3_.symm; clear f1_ f2_ f3_; subst f4_; subst f5_))
         obtain ⟨Ao15, co15, eo15⟩ := Kd.R_slice HO108.out
         (first | subst eo15 | (injection eo15 with f1_ f2_ f3_; have f4_ := f1_.symm; have f5_ := f3_.symm; clear f1_ f2_ f3_; subst f4_; subst f5_))
         refine hK.out _ _ ⟨(blk_cell BK102.out 0).trans rfl, (blk_cell BK102.out 1).trans rfl, (blk_cell BK102.out 2).trans rfl, (blk_cell BK102.out 3).trans rfl, (blk_cell BK102.out 4).trans rfl⟩ (fun hHeld => ?_)
         clear hK K
         refine norm_ (a' := ?_) ?_ ?_
         rotate_left
         · show Act.put _ (some 27) _ = _
           simp only [Act.put, List.setIfInBounds_toArray, List.set_cons_zero, List.set_cons_succ, i64_w, i32_w]
           rfl
         refine pz 7 28 #[yY,yY,yY,yY,yY,yY,yY,yY,nN,nN] (h := ?_)
         refine one_ (i := 8) (N := some 6) #[yY,yY,yY,yY,yY,yY,yY,yY,yY,nN] rfl rfl (one_of HT_.out (by kernel_rfl)) (by decide) (fun K hK => ?_)
         refine box_step ?hg (N := 6) ?hd (cs := #[.int .i64 0, .slice none 0 0, .slice none 0 0, .slice none 0 0, .slice none 0 0, .slice none 0 0]) (t := 30) ?hr ?_; (case hd => rfl); (case hg => rfl); (case hr => first | (go_simp; done) | (go_simp; rfl))
         intro gb112 hg w16 hbox hb
         have n0_ := Aside0.mk (Kd.R_below zq154 hb)
         have n1_ := Aside0.mk (Kd.R_below (by (with_reducible repeat (first | apply Kd.R_alloc | apply Kd.R_drewN | apply Kd.R_drew)); exact HO111.out) hb)
         have n2_ := Aside0.mk (blk_below (g := gb102) (o := .cells #[.int .i64 a0_0, .slice A0_1 l0_1.length c0_1, .slice A0_2 l0_2.length c0_2, .slice A0_3 l0_3.length c0_3, .slice A0_4 l0_4.length c0_4] 26 (0, 0)) zq126 hb)
         have n3_ := Aside0.mk (blk_below (g := gb103) (o := .cells #[.int .i64 0, .slice none 0 0, .slice none 0 0, .slice none 0 0, .slice none 0 0, .slice none 0 0] 30 (0, 0)) zq127 hb)
         have n4_ := Aside0.mk (below_step zq75 hb)
         have n5_ := Aside0.mk (hbox)
         have n6_ := Aside0.mk ((zq64 : w.heap.size ≤ gb112))
         have n7_ := Aside0.mk ((zq64 : w.heap.size ≤ gb112))
         have n8_ := Aside0.mk ((zq40 : gb102 ≠ gb112))
         have n9_ := Aside0.mk ((zq37 : gb112 ≠ gb102))
         have n10_ := Aside0.mk ((zq44 : gb103 ≠ gb112))
         have n11_ := Aside0.mk ((zq43 : gb112 ≠ gb103))
         clear HO108
         clear HO111
         clear BK102
         clear BK103
         clear HB
         have HO108 := n0_
         have HO111 := n1_
         have BK102 := n2_
         have BK103 := n3_
         have HB := n4_
         have BK112 := n5_
         have GW112 := n6_
         have GE112 := n7_
         have NB102_112 := n8_
         have NB112_102 := n9_
         have NB103_112 := n10_
         have NB112_103 := n11_
         clear n0_ n1_ n2_ n3_ n4_ n5_ n6_ n7_ n8_ n9_ n10_ n11_
         clear hb hbox hg
         refine hK.out _ _ ⟨(blk_cell BK102.out 0).trans rfl, (blk_cell BK102.out 1).trans rfl, (blk_cell BK102.out 2).trans rfl, (blk_cell BK102.out 3).trans rfl, (blk_cell BK102.out 4).trans rfl⟩ (fun hHeld => ?_)
         clear hK K
         refine norm_ (a' := ?_) ?_ ?_
         rotate_left
         · show Act.put _ (some 6) _ = _
           simp only [Act.put, List.setIfInBounds_toArray, List.set_cons_zero, List.set_cons_succ, i64_w, i32_w]
           rfl
         exact norm_ zq182 (hCont (.slice Ao15 t106.length co15, .slice Ao14 t109.length co14, gb112) _ ⟨hHeld, zq119, zq120, zq126, zq127, zq128, GW112.out, GE112.out, NB102_112.out, NB112_102.out, NB103_112.out, NB112_103.out, zq66⟩)
       · skip
         refine box_step ?hg (N := 6) ?hd (cs := #[.int .i64 0, .slice none 0 0, .slice none 0 0, .slice none 0 0, .slice none 0 0, .slice none 0 0]) (t := 30) ?hr ?_; (case hd => rfl); (case hg => rfl); (case hr => first | (go_simp; done) | (go_simp; rfl))
         intro gb112 hg w13 hbox hb
         have n0_ := Aside0.mk (Kd.R_below zq154 hb)
         have n1_ := Aside0.mk (blk_below (g := gb102) (o := .cells #[.int .i64 a0_0, .slice A0_1 l0_1.length c0_1, .slice A0_2 l0_2.length c0_2, .slice A0_3 l0_3.length c0_3, .slice A0_4 l0_4.length c0_4] 26 (0, 0)) zq126 hb)
         have n2_ := Aside0.mk (blk_below (g := gb103) (o := .cells #[.int .i64 0, .slice none 0 0, .slice none 0 0, .slice none 0 0, .slice none 0 0, .slice none 0 0] 30 (0, 0)) zq127 hb)
         have n3_ := Aside0.mk (below_step zq75 hb)
         have n4_ := Aside0.mk (hbox)
         have n5_ := Aside0.mk ((zq64 : w.heap.size ≤ gb112))
         have n6_ := Aside0.mk ((zq64 : w.heap.size ≤ gb112))
         have n7_ := Aside0.mk ((zq40 : gb102 ≠ gb112))
         have n8_ := Aside0.mk ((zq37 : gb112 ≠ gb102))
         have n9_ := Aside0.mk ((zq44 : gb103 ≠ gb112))
         have n10_ := Aside0.mk ((zq43 : gb112 ≠ gb103))
         clear HO108
         clear BK102
         clear BK103
         clear HB
         have HO108 := n0_
         have BK102 := n1_
         have BK103 := n2_
         have HB := n3_
         have BK112 := n4_
         have GW112 := n5_
         have GE112 := n6_
         have NB102_112 := n7_
         have NB112_102 := n8_
         have NB103_112 := n9_
         have NB112_103 := n10_
         clear n0_ n1_ n2_ n3_ n4_ n5_ n6_ n7_ n8_ n9_ n10_
         clear hb hbox hg
         refine hK.out _ _ ⟨(blk_cell BK102.out 0).trans rfl, (blk_cell BK102.out 1).trans rfl, (blk_cell BK102.out 2).trans rfl, (blk_cell BK102.out 3).trans rfl, (blk_cell BK102.out 4).trans rfl⟩ (fun hHeld => ?_)
         clear hK K
         refine norm_ (a' := ?_) ?_ ?_
         rotate_left
         · show Act.put _ (some 6) _ = _
           simp only [Act.put, List.setIfInBounds_toArray, List.set_cons_zero, List.set_cons_succ, i64_w, i32_w]
           rfl
         refine one_ (i := 6) (N := some 27) #[yY,yY,yY,yY,yY,yY,yY,nN,yY,nN] rfl rfl (one_of HT_.out (by kernel_rfl)) (by decide) (fun K hK => ?_)
         refine goes_ Try.func31 (by kernel_rfl) rfl #[.slice A0_4 l0_4.length c0_4] (by rfl) rfl rfl zq123 ?_
         with_reducible refine (slices_Clone_int_int.calls _ _ l0_4 t109 _ ?side1 ?side2 A5.out).mono ?_
         (case side1 => exact zq91)
         (case side2 => exact HC0_4.out)
         rintro e w14 ⟨v110, rfl, ho0, hb⟩
         refine ⟨_, rfl, ?_⟩
         have n0_ := Aside0.mk (Kd.R_elder' zq154 (Kd.R_base ho0) hb)
         have n1_ := Aside0.mk (Kd.R_lower (Kd.R_new' ho0 (Kd.R_lt zq154)) (below_size zq66))
         have n2_ := Aside0.mk (blk_below (g := gb102) (o := .cells #[.int .i64 a0_0, .slice A0_1 l0_1.length c0_1, .slice A0_2 l0_2.length c0_2, .slice A0_3 l0_3.length c0_3, .slice A0_4 l0_4.length c0_4] 26 (0, 0)) zq126 hb)
         have n3_ := Aside0.mk (blk_below (g := gb103) (o := .cells #[.int .i64 0, .slice none 0 0, .slice none 0 0, .slice none 0 0, .slice none 0 0, .slice none 0 0] 30 (0, 0)) zq127 hb)
         have n4_ := Aside0.mk (blk_below (g := gb112) (o := .cells #[.int .i64 0, .slice none 0 0, .slice none 0 0, .slice none 0 0, .slice none 0 0, .slice none 0 0] 30 (0, 0)) zq128 hb)
         have n5_ := Aside0.mk (below_step zq66 hb)
         clear HO108
         clear BK102
         clear BK103
         clear BK112
         clear HB
         have HO108 := n0_
         have HO111 := n1_
         have BK102 := n2_
         have BK103 := n3_
         have BK112 := n4_
         have HB := n5_
         clear n0_ n1_ n2_ n3_ n4_ n5_
         (try clear hb)
         (try clear hb2)
         (try clear hk)
         (try clear hi)
         (try clear ho0)
         obtain ⟨Ao15, co15, eo15⟩ := Kd.R_slice HO111.out
         (first | subst eo15 | (injection eo15 with f1_ f2_ f3_; have f4_ := f1_.symm; have f5_ := f3_.symm; clear f1_ f2_ f3_; subst f4_; subst f5_))
         obtain ⟨Ao16, co16, eo16⟩ := Kd.R_slice HO108.out
         (first | subst eo16 | (injection eo16 with f1_ f2_ f3_; have f4_ := f1_.symm; have f5_ := f3_.symm; clear f1_ f2_ f3_; subst f4_; subst f5_))
         refine hK.out _ _ ⟨(blk_cell BK102.out 0).trans rfl, (blk_cell BK102.out 1).trans rfl, (blk_cell BK102.out 2).trans rfl, (blk_cell BK102.out 3).trans rfl, (blk_cell BK102.out 4).trans rfl⟩ (fun hHeld => ?_)
         clear hK K
         refine norm_ (a' := ?_) ?_ ?_
         rotate_left
         · show Act.put _ (some 27) _ = _
           simp only [Act.put, List.setIfInBounds_toArray, List.set_cons_zero, List.set_cons_succ, i64_w, i32_w]
           rfl
         refine pz 7 28 #[yY,yY,yY,yY,yY,yY,yY,yY,yY,nN] (h := ?_)
         exact norm_ zq182 (hCont (.slice Ao16 t106.length co16, .slice Ao15 t109.length co15, gb112) _ ⟨hHeld, zq119, zq120, zq126, zq127, zq128, GW112.out, GE112.out, NB102_112.out, NB112_102.out, NB103_112.out, NB112_103.out, zq66⟩)
     · skip
       refine box_step ?hg (N := 6) ?hd (cs := #[.int .i64 0, .slice none 0 0, .slice none 0 0, .slice none 0 0, .slice none 0 0, .slice none 0 0]) (t := 30) ?hr ?_; (case hd => rfl); (case hg => rfl); (case hr => first | (go_simp; done) | (go_simp; rfl))
       intro gb112 hg w12 hbox hb
       have n0_ := Aside0.mk (blk_below (g := gb102) (o := .cells #[.int .i64 a0_0, .slice A0_1 l0_1.length c0_1, .slice A0_2 l0_2.length c0_2, .slice A0_3 l0_3.length c0_3, .slice A0_4 l0_4.length c0_4] 26 (0, 0)) zq126 hb)
       have n1_ := Aside0.mk (blk_below (g := gb103) (o := .cells #[.int .i64 0, .slice none 0 0, .slice none 0 0, .slice none 0 0, .slice none 0 0, .slice none 0 0] 30 (0, 0)) zq127 hb)
       have n2_ := Aside0.mk (below_step zq75 hb)
       have n3_ := Aside0.mk (hbox)
       have n4_ := Aside0.mk ((zq64 : w.heap.size ≤ gb112))
       have n5_ := Aside0.mk ((zq64 : w.heap.size ≤ gb112))
       have n6_ := Aside0.mk ((zq40 : gb102 ≠ gb112))
       have n7_ := Aside0.mk ((zq37 : gb112 ≠ gb102))
       have n8_ := Aside0.mk ((zq44 : gb103 ≠ gb112))
       have n9_ := Aside0.mk ((zq43 : gb112 ≠ gb103))
       clear BK102
       clear BK103
       clear HB
       have BK102 := n0_
       have BK103 := n1_
       have HB := n2_
       have BK112 := n3_
       have GW112 := n4_
       have GE112 := n5_
       have NB102_112 := n6_
       have NB112_102 := n7_
       have NB103_112 := n8_
       have NB112_103 := n9_
       clear n0_ n1_ n2_ n3_ n4_ n5_ n6_ n7_ n8_ n9_
       clear hb hbox hg
       refine hK.out _ _ ⟨(blk_cell BK102.out 0).trans rfl, (blk_cell BK102.out 1).trans rfl, (blk_cell BK102.out 2).trans rfl, (blk_cell BK102.out 3).trans rfl, (blk_cell BK102.out 4).trans rfl⟩ (fun hHeld => ?_)
       clear hK K
       refine norm_ (a' := ?_) ?_ ?_
       rotate_left
       · show Act.put _ (some 6) _ = _
         simp only [Act.put, List.setIfInBounds_toArray, List.set_cons_zero, List.set_cons_succ, i64_w, i32_w]
         rfl
       refine one_ (i := 3) (N := some 24) #[yY,yY,yY,yY,yY,yY,nN,nN,yY,nN] rfl rfl (one_of HT_.out (by kernel_rfl)) (by decide) (fun K hK => ?_)
       refine goes_ Try.func31 (by kernel_rfl) rfl #[.slice A0_3 l0_3.length c0_3] (by rfl) rfl rfl zq123 ?_
       with_reducible refine (slices_Clone_int_int.calls _ _ l0_3 t106 _ ?side1 ?side2 A4.out).mono ?_
       (case side1 => exact zq90)
       (case side2 => exact HC0_3.out)
       rintro e w13 ⟨v107, rfl, ho0, hb⟩
       refine ⟨_, rfl, ?_⟩
       have n0_ := Aside0.mk (Kd.R_lower ho0 (below_size zq66))
       have n1_ := Aside0.mk (blk_below (g := gb102) (o := .cells #[.int .i64 a0_0, .slice A0_1 l0_1.length c0_1, .slice A0_2 l0_2.length c0_2, .slice A0_3 l0_3.length c0_3, .slice A0_4 l0_4.length c0_4] 26 (0, 0)) zq126 hb)
       have n2_ := Aside0.mk (blk_below (g := gb103) (o := .cells #[.int .i64 0, .slice none 0 0, .slice none 0 0, .slice none 0 0, .slice none 0 0, .slice none 0 0] 30 (0, 0)) zq127 hb)
       have n3_ := Aside0.mk (blk_below (g := gb112) (o := .cells #[.int .i64 0, .slice none 0 0, .slice none 0 0, .slice none 0 0, .slice none 0 0, .slice none 0 0] 30 (0, 0)) zq128 hb)
       have n4_ := Aside0.mk (below_step zq66 hb)
       clear BK102
       clear BK103
       clear BK112
       clear HB
       have HO108 := n0_
       have BK102 := n1_
       have BK103 := n2_
       have BK112 := n3_
       have HB := n4_
       clear n0_ n1_ n2_ n3_ n4_
       (try clear hb)
       (try clear hb2)
       (try clear hk)
       (try clear hi)
       (try clear ho0)
       refine hK.out _ _ ⟨(blk_cell BK102.out 0).trans rfl, (blk_cell BK102.out 1).trans rfl, (blk_cell BK102.out 2).trans rfl, (blk_cell BK102.out 3).trans rfl, (blk_cell BK102.out 4).trans rfl⟩ (fun hHeld => ?_)
       clear hK K
       refine norm_ (a' := ?_) ?_ ?_
       rotate_left
       · show Act.put _ (some 24) _ = _
         simp only [Act.put, List.setIfInBounds_toArray, List.set_cons_zero, List.set_cons_succ, i64_w, i32_w]
         rfl
       refine one_ (i := 6) (N := some 27) #[yY,yY,yY,yY,yY,yY,yY,nN,yY,nN] rfl rfl (one_of HT_.out (by kernel_rfl)) (by decide) (fun K hK => ?_)
       refine goes_ Try.func31 (by kernel_rfl) rfl #[.slice A0_4 l0_4.length c0_4] (by rfl) rfl rfl zq123 ?_
       with_reducible refine (slices_Clone_int_int.calls _ _ l0_4 t109 _ ?side1 ?side2 A5.out).mono ?_
       (case side1 => exact zq91)
       (case side2 => exact HC0_4.out)
       rintro e w14 ⟨v110, rfl, ho0, hb⟩
       refine ⟨_, rfl, ?_⟩
       have n0_ := Aside0.mk (Kd.R_elder' zq154 (Kd.R_base ho0) hb)
       have n1_ := Aside0.mk (Kd.R_lower (Kd.R_new' ho0 (Kd.R_lt zq154)) (below_size zq66))
       have n2_ := Aside0.mk (blk_below (g := gb102) (o := .cells #[.int .i64 a0_0, .slice A0_1 l0_1.length c0_1, .slice A0_2 l0_2.length c0_2, .slice A0_3 l0_3.length c0_3, .slice A0_4 l0_4.length c0_4] 26 (0, 0)) zq126 hb)
       have n3_ := Aside0.mk (blk_below (g := gb103) (o := .cells #[.int .i64 0, .slice none 0 0, .slice none 0 0, .slice none 0 0, .slice none 0 0, .slice none 0 0] 30 (0, 0)) zq127 hb)
       have n4_ := Aside0.mk (blk_below (g := gb112) (o := .cells #[.int .i64 0, .slice none 0 0, .slice none 0 0, .slice none 0 0, .slice none 0 0, .slice none 0 0] 30 (0, 0)) zq128 hb)
       have n5_ := Aside0.mk (below_step zq66 hb)
       clear HO108
       clear BK102
       clear BK103
       clear BK112
       clear HB
       have HO108 := n0_
       have HO111 := n1_
       have BK102 := n2_
       have BK103 := n3_
       have BK112 := n4_
       have HB := n5_
       clear n0_ n1_ n2_ n3_ n4_ n5_
       (try clear hb)
       (try clear hb2)
       (try clear hk)
       (try clear hi)
       (try clear ho0)
       obtain ⟨Ao15, co15, eo15⟩ := Kd.R_slice HO111.out
       (first | subst eo15 | (injection eo15 with f1_ f2_ f3_; have f4_ := f1_.symm; have f5_ := f3_.symm; clear f1_ f2_ f3_; subst f4_; subst f5_))
       obtain ⟨Ao16, co16, eo16⟩ := Kd.R_slice HO108.out
       (first | subst eo16 | (injection eo16 with f1_ f2_ f3_; have f4_ := f1_.symm; have f5_ := f3_.symm; clear f1_ f2_ f3_; subst f4_; subst f5_))
       refine hK.out _ _ ⟨(blk_cell BK102.out 0).trans rfl, (blk_cell BK102.out 1).trans rfl, (blk_cell BK102.out 2).trans rfl, (blk_cell BK102.out 3).trans rfl, (blk_cell BK102.out 4).trans rfl⟩ (fun hHeld => ?_)
       clear hK K
       refine norm_ (a' := ?_) ?_ ?_
       rotate_left
       · show Act.put _ (some 27) _ = _
         simp only [Act.put, List.setIfInBounds_toArray, List.set_cons_zero, List.set_cons_succ, i64_w, i32_w]
         rfl
       refine pz 7 28 #[yY,yY,yY,yY,yY,yY,yY,yY,yY,nN] (h := ?_)
       exact norm_ zq182 (hCont (.slice Ao16 t106.length co16, .slice Ao15 t109.length co15, gb112) _ ⟨hHeld, zq119, zq120, zq126, zq127, zq128, GW112.out, GE112.out, NB102_112.out, NB112_102.out, NB103_112.out, NB112_103.out, zq66⟩)
   rintro ⟨v107, v110, gb112⟩ w17 ⟨hS_, h0_, h1_, h2_, h3_, h4_, h5_, h6_, h7_, h8_, h9_, h10_, h11_⟩
   have n0_ : Aside0 (Kd.R (Kd.int .i64) 3 w17 w.heap.size (fun k_ => some k_ ≠ (v110 : Value).ownBlock) v107 t106) := ⟨h0_⟩
   have n1_ : Aside0 (Kd.R (Kd.int .i64) 3 w17 w.heap.size (fun k_ => some k_ ≠ (v107 : Value).ownBlock) v110 t109) := ⟨h1_⟩
   have n2_ : Aside0 (w17.heap[gb102]? = some (.cells #[.int .i64 a0_0, .slice A0_1 l0_1.length c0_1, .slice A0_2 l0_2.length c0_2, .slice A0_3 l0_3.length c0_3, .slice A0_4 l0_4.length c0_4] 26 (0, 0))) := ⟨h2_⟩
   have n3_ : Aside0 (w17.heap[gb103]? = some (.cells #[.int .i64 0, .slice none 0 0, .slice none 0 0, .slice none 0 0, .slice none 0 0, .slice none 0 0] 30 (0, 0))) := ⟨h3_⟩
   have n4_ : Aside0 (w17.heap[gb112]? = some (.cells #[.int .i64 0, .slice none 0 0, .slice none 0 0, .slice none 0 0, .slice none 0 0, .slice none 0 0] 30 (0, 0))) := ⟨h4_⟩
   have n5_ : Aside0 (w.heap.size ≤ gb112) := ⟨h5_⟩
   have n6_ : Aside0 (w.heap.size ≤ gb112) := ⟨h6_⟩
   have n7_ : Aside0 (gb102 ≠ gb112) := ⟨h7_⟩
   have n8_ : Aside0 (gb112 ≠ gb102) := ⟨h8_⟩
   have n9_ : Aside0 (gb103 ≠ gb112) := ⟨h9_⟩
   have n10_ : Aside0 (gb112 ≠ gb103) := ⟨h10_⟩
   have n11_ : Aside0 (Below w.heap.size w w17) := ⟨h11_⟩
   clear BK102
   clear BK103
   clear HB
   clear h0_ h1_ h2_ h3_ h4_ h5_ h6_ h7_ h8_ h9_ h10_ h11_
   have HO108 := n0_
   have HO111 := n1_
   have BK102 := n2_
   have BK103 := n3_
   have BK112 := n4_
   have GW112 := n5_
   have GE112 := n6_
   have NB102_112 := n7_
   have NB112_102 := n8_
   have NB103_112 := n9_
   have NB112_103 := n10_
   have HB := n11_
   clear n0_ n1_ n2_ n3_ n4_ n5_ n6_ n7_ n8_ n9_ n10_ n11_
   have hHeld : w17.cell? ⟨gb102, 0, none⟩ = some (.int .i64 a0_0) ∧ w17.cell? ⟨gb102, 1, none⟩ = some (.slice A0_1 l0_1.length c0_1) ∧ w17.cell? ⟨gb102, 2, none⟩ = some (.slice A0_2 l0_2.length c0_2) ∧ w17.cell? ⟨gb102, 3, none⟩ = some (.slice A0_3 l0_3.length c0_3) ∧ w17.cell? ⟨gb102, 4, none⟩ = some (.slice A0_4 l0_4.length c0_4) := hS_
   obtain ⟨Ao18, co18, eo18⟩ := Kd.R_slice HO111.out
   (first | subst eo18 | (injection eo18 with f1_ f2_ f3_; have f4_ := f1_.symm; have f5_ := f3_.symm; clear f1_ f2_ f3_; subst f4_; subst f5_))
   obtain ⟨Ao19, co19, eo19⟩ := Kd.R_slice HO108.out
   (first | subst eo19 | (injection eo19 with f1_ f2_ f3_; have f4_ := f1_.symm; have f5_ := f3_.symm; clear f1_ f2_ f3_; subst f4_; subst f5_))
   refine norm_ (a' := ?_) ?_ ?_
   rotate_left
   · simp only [putAll, Act.put, List.setIfInBounds_toArray, List.set_cons_zero, List.set_cons_succ]
     rfl
   refine one_ (i := 9) (N := none) #[yY,yY,yY,yY,yY,yY,yY,yY,yY,yY] rfl rfl (one_of HT_.out (by kernel_rfl)) (by decide) (fun K hK => ?_)
   have hs20 : w17.cell? ⟨gb112, 0, none⟩ = some (.int .i64 0) := (blk_cell BK112.out 0).trans rfl
   have hfs20 := blk_frozen BK112.out 0
   have hns20_0 := NB102_112.out
   have hns20_1 := NB103_112.out
   have hms20_0 := NB112_102.out
   have hms20_1 := NB112_103.out
   have hs21 : w17.cell? ⟨gb112, 1, none⟩ = some (.slice none 0 0) := (blk_cell BK112.out 1).trans rfl
   have hfs21 := blk_frozen BK112.out 1
   have hns21_0 := NB102_112.out
   have hns21_1 := NB103_112.out
   have hms21_0 := NB112_102.out
   have hms21_1 := NB112_103.out
   have hs22 : w17.cell? ⟨gb112, 2, none⟩ = some (.slice none 0 0) := (blk_cell BK112.out 2).trans rfl
   have hfs22 := blk_frozen BK112.out 2
   have hns22_0 := NB102_112.out
   have hns22_1 := NB103_112.out
   have hms22_0 := NB112_102.out
   have hms22_1 := NB112_103.out
   have hs23 : w17.cell? ⟨gb112, 3, none⟩ = some (.slice none 0 0) := (blk_cell BK112.out 3).trans rfl
   have hfs23 := blk_frozen BK112.out 3
   have hns23_0 := NB102_112.out
   have hns23_1 := NB103_112.out
   have hms23_0 := NB112_102.out
   have hms23_1 := NB112_103.out
   have hs24 : w17.cell? ⟨gb112, 4, none⟩ = some (.slice none 0 0) := (blk_cell BK112.out 4).trans rfl
   have hfs24 := blk_frozen BK112.out 4
   have hns24_0 := NB102_112.out
   have hns24_1 := NB103_112.out
   have hms24_0 := NB112_102.out
   have hms24_1 := NB112_103.out
   have hs25 : w17.cell? ⟨gb112, 5, none⟩ = some (.slice none 0 0) := (blk_cell BK112.out 5).trans rfl
   have hfs25 := blk_frozen BK112.out 5
   have hns25_0 := NB102_112.out
   have hns25_1 := NB103_112.out
   have hms25_0 := NB112_102.out
   have hms25_1 := NB112_103.out
   refine skip_ (w1 := ?_) (by rfl) rfl ?_ ?_
   rotate_left
   · go_simp
     rfl
   refine hK.out _ _ ⟨((cell_far (p := ⟨gb112, _, none⟩) NB102_112.out _).trans (((cell_far (p := ⟨gb112, _, none⟩) NB102_112.out _).trans (((cell_far (p := ⟨gb112, _, none⟩) NB102_112.out _).trans (((cell_far (p := ⟨gb112, _, none⟩) NB102_112.out _).trans (((cell_far (p := ⟨gb112, _, none⟩) NB102_112.out _).trans (((cell_far (p := ⟨gb112, _, none⟩) NB102_112.out _).trans (hHeld.1)))))))))))), ((cell_far (p := ⟨gb112, _, none⟩) NB102_112.out _).trans (((cell_far (p := ⟨gb112, _, none⟩) NB102_112.out _).trans (((cell_far (p := ⟨gb112, _, none⟩) NB102_112.out _).trans (((cell_far (p := ⟨gb112, _, none⟩) NB102_112.out _).trans (((cell_far (p := ⟨gb112, _, none⟩) NB102_112.out _).trans (((cell_far (p := ⟨gb112, _, none⟩) NB102_112.out _).trans (hHeld.2.1)))))))))))), ((cell_far (p := ⟨gb112, _, none⟩) NB102_112.out _).trans (((cell_far (p := ⟨gb112, _, none⟩) NB102_112.out _).trans (((cell_far (p := ⟨gb112, _, none⟩) NB102_112.out _).trans (((cell_far (p := ⟨gb112, _, none⟩) NB102_112.out _).trans (((cell_far (p := ⟨gb112, _, none⟩) NB102_112.out _).trans (((cell_far (p := ⟨gb112, _, none⟩) NB102_112.out _).trans (hHeld.2.2.1)))))))))))), ((cell_far (p := ⟨gb112, _, none⟩) NB102_112.out _).trans (((cell_far (p := ⟨gb112, _, none⟩) NB102_112.out _).trans (((cell_far (p := ⟨gb112, _, none⟩) NB102_112.out _).trans (((cell_far (p := ⟨gb112, _, none⟩) NB102_112.out _).trans (((cell_far (p := ⟨gb112, _, none⟩) NB102_112.out _).trans (((cell_far (p := ⟨gb112, _, none⟩) NB102_112.out _).trans (hHeld.2.2.2.1)))))))))))), ((cell_far (p := ⟨gb112, _, none⟩) NB102_112.out _).trans (((cell_far (p := ⟨gb112, _, none⟩) NB102_112.out _).trans (((cell_far (p := ⟨gb112, _, none⟩) NB102_112.out _).trans (((cell_far (p := ⟨gb112, _, none⟩) NB102_112.out _).trans (((cell_far (p := ⟨gb112, _, none⟩) NB102_112.out _).trans (((cell_far (p := ⟨gb112, _, none⟩) NB102_112.out _).trans (hHeld.2.2.2.2))))))))))))⟩ (fun hHeld => ?_)
   clear hK K
   refine done_ (done_of HT_.out (by kernel_rfl)) ?_
   have hnb26 := NB102_112.out
   have hnc26 := NB112_102.out
   obtain ⟨b27_0, b27_1, b27_2, b27_3, b27_4, d27_0, d27_1, d27_2, d27_3, d27_4⟩ := bk5 BK102.out
   try go_wp2
   go_loopg [7, 31] k (fun kq v7 v31 w' => ∃ (x7_1 : Int) (x31_1 : Int) (x113001_1 : List Int) (u113001 : Value), v7 = .int .i64 x7_1 ∧ v31 = .int .i64 x31_1 ∧ Aside0 (order_Raw.l0 kq x7_1 a0_0 x31_1 a0_0 l0_1 l0_2 l0_3 l0_4 t104 x113001_1 t106 t109 = some (r1, r2, r3, r4, r5, r6, r7)) ∧ Aside0 (kq ≤ k) ∧ Aside0 (Kd.R (Kd.int .i64) 3 w' w.heap.size (fun k_ => some k_ ≠ ((.slice Ao19 t106.length co19) : Value).ownBlock ∧ some k_ ≠ ((.slice Ao18 t109.length co18) : Value).ownBlock) u113001 x113001_1) ∧ Aside0 (Kd.R (Kd.int .i64) 3 w' w.heap.size (fun k_ => some k_ ≠ (u113001 : Value).ownBlock ∧ some k_ ≠ ((.slice Ao18 t109.length co18) : Value).ownBlock) (.slice Ao19 t106.length co19) t106) ∧ Aside0 (Kd.R (Kd.int .i64) 3 w' w.heap.size (fun k_ => some k_ ≠ (u113001 : Value).ownBlock ∧ some k_ ≠ ((.slice Ao19 t106.length co19) : Value).ownBlock) (.slice Ao18 t109.length co18) t109) ∧ Aside0 (w'.heap[gb102]? = some (.cells #[.int .i64 a0_0, (.slice A0_1 l0_1.length c0_1), (.slice A0_2 l0_2.length c0_2), (.slice A0_3 l0_3.length c0_3), (.slice A0_4 l0_4.length c0_4)] 26 (0, 0))) ∧ Aside0 (w'.heap[gb103]? = some (.cells #[.int .i64 0, (.slice none 0 0), (.slice none 0 0), (.slice none 0 0), (.slice none 0 0), (.slice none 0 0)] 30 (0, 0))) ∧ Aside0 (w'.heap[gb112]? = some (.cells #[.int .i64 t104, u113001, (.slice none 0 0), (.slice none 0 0), (.slice Ao19 t106.length co19), (.slice Ao18 t109.length co18)] 30 (0, 0))) ∧ Aside0 (Below w.heap.size w w'))
   case atStart => exact ⟨(0), (0), (([] : List Int)), (.slice none 0 0), zq188, zq188, H', ⟨Nat.le_refl _⟩, ⟨zq122⟩, ⟨by (with_reducible repeat (first | apply Kd.R_alloc | apply Kd.R_drewN | apply Kd.R_drew)); exact Kd.R_mono (Kd.R_far (p := ⟨gb112, 5, none⟩) (Kd.R_far (p := ⟨gb112, 4, none⟩) (Kd.R_far (p := ⟨gb112, 3, none⟩) (Kd.R_far (p := ⟨gb112, 2, none⟩) (Kd.R_far (p := ⟨gb112, 1, none⟩) (Kd.R_far (p := ⟨gb112, 0, none⟩) (Kd.R_types HO108.out BK112.out (by decide)) (fun _ hk => by first | exact hk.2 | exact hk) (.int .i64 t104)) (fun _ hk => by first | exact hk.2 | exact hk) (.slice none 0 0)) (fun _ hk => by first | exact hk.2 | exact hk) (.slice none 0 0)) (fun _ hk => by first | exact hk.2 | exact hk) (.slice none 0 0)) (fun _ hk => by first | exact hk.2 | exact hk) (.slice Ao19 t106.length co19)) (fun _ hk => by first | exact hk.2 | exact hk) (.slice Ao18 t109.length co18)) (fun _ hk => ⟨(by simp [Value.ownBlock]), hk.1⟩)⟩, ⟨by (with_reducible repeat (first | apply Kd.R_alloc | apply Kd.R_drewN | apply Kd.R_drew)); exact Kd.R_mono (Kd.R_far (p := ⟨gb112, 5, none⟩) (Kd.R_far (p := ⟨gb112, 4, none⟩) (Kd.R_far (p := ⟨gb112, 3, none⟩) (Kd.R_far (p := ⟨gb112, 2, none⟩) (Kd.R_far (p := ⟨gb112, 1, none⟩) (Kd.R_far (p := ⟨gb112, 0, none⟩) (Kd.R_types HO111.out BK112.out (by decide)) (fun _ hk => by first | exact hk.2 | exact hk) (.int .i64 t104)) (fun _ hk => by first | exact hk.2 | exact hk) (.slice none 0 0)) (fun _ hk => by first | exact hk.2 | exact hk) (.slice none 0 0)) (fun _ hk => by first | exact hk.2 | exact hk) (.slice none 0 0)) (fun _ hk => by first | exact hk.2 | exact hk) (.slice Ao19 t106.length co19)) (fun _ hk => by first | exact hk.2 | exact hk) (.slice Ao18 t109.length co18)) (fun _ hk => ⟨(by simp [Value.ownBlock]), hk.1⟩)⟩, ⟨by (with_reducible repeat (first | refine blk_drewN ?_ _ | refine blk_drew ?_ | refine blk_alloc ?_ _)); refine blk_far ?_ NB102_112.out _; (with_reducible repeat (first | refine blk_drewN ?_ _ | refine blk_drew ?_ | refine blk_alloc ?_ _)); refine blk_far ?_ NB102_112.out _; (with_reducible repeat (first | refine blk_drewN ?_ _ | refine blk_drew ?_ | refine blk_alloc ?_ _)); refine blk_far ?_ NB102_112.out _; (with_reducible repeat (first | refine blk_drewN ?_ _ | refine blk_drew ?_ | refine blk_alloc ?_ _)); refine blk_far ?_ NB102_112.out _; (with_reducible repeat (first | refine blk_drewN ?_ _ | refine blk_drew ?_ | refine blk_alloc ?_ _)); refine blk_far ?_ NB102_112.out _; (with_reducible repeat (first | refine blk_drewN ?_ _ | refine blk_drew ?_ | refine blk_alloc ?_ _)); refine blk_far ?_ NB102_112.out _; (with_reducible repeat (first | refine blk_drewN ?_ _ | refine blk_drew ?_ | refine blk_alloc ?_ _)); exact BK102.out⟩, ⟨by (with_reducible repeat (first | refine blk_drewN ?_ _ | refine blk_drew ?_ | refine blk_alloc ?_ _)); refine blk_far ?_ NB103_112.out _; (with_reducible repeat (first | refine blk_drewN ?_ _ | refine blk_drew ?_ | refine blk_alloc ?_ _)); refine blk_far ?_ NB103_112.out _; (with_reducible repeat (first | refine blk_drewN ?_ _ | refine blk_drew ?_ | refine blk_alloc ?_ _)); refine blk_far ?_ NB103_112.out _; (with_reducible repeat (first | refine blk_drewN ?_ _ | refine blk_drew ?_ | refine blk_alloc ?_ _)); refine blk_far ?_ NB103_112.out _; (with_reducible repeat (first | refine blk_drewN ?_ _ | refine blk_drew ?_ | refine blk_alloc ?_ _)); refine blk_far ?_ NB103_112.out _; (with_reducible repeat (first | refine blk_drewN ?_ _ | refine blk_drew ?_ | refine blk_alloc ?_ _)); refine blk_far ?_ NB103_112.out _; (with_reducible repeat (first | refine blk_drewN ?_ _ | refine blk_drew ?_ | refine blk_alloc ?_ _)); exact BK103.out⟩, ⟨by (with_reducible repeat (first | refine blk_drewN ?_ _ | refine blk_drew ?_ | refine blk_alloc ?_ _)); refine blk_put (cs := #[.int .i64 t104, .slice none 0 0, .slice none 0 0, .slice none 0 0, .slice Ao19 t106.length co19, .slice none 0 0]) ?_ 5 _ rfl; (with_reducible repeat (first | refine blk_drewN ?_ _ | refine blk_drew ?_ | refine blk_alloc ?_ _)); refine blk_put (cs := #[.int .i64 t104, .slice none 0 0, .slice none 0 0, .slice none 0 0, .slice none 0 0, .slice none 0 0]) ?_ 4 _ rfl; (with_reducible repeat (first | refine blk_drewN ?_ _ | refine blk_drew ?_ | refine blk_alloc ?_ _)); refine blk_put (cs := #[.int .i64 t104, .slice none 0 0, .slice none 0 0, .slice none 0 0, .slice none 0 0, .slice none 0 0]) ?_ 3 _ rfl; (with_reducible repeat (first | refine blk_drewN ?_ _ | refine blk_drew ?_ | refine blk_alloc ?_ _)); refine blk_put (cs := #[.int .i64 t104, .slice none 0 0, .slice none 0 0, .slice none 0 0, .slice none 0 0, .slice none 0 0]) ?_ 2 _ rfl; (with_reducible repeat (first | refine blk_drewN ?_ _ | refine blk_drew ?_ | refine blk_alloc ?_ _)); refine blk_put (cs := #[.int .i64 t104, .slice none 0 0, .slice none 0 0, .slice none 0 0, .slice none 0 0, .slice none 0 0]) ?_ 1 _ rfl; (with_reducible repeat (first | refine blk_drewN ?_ _ | refine blk_drew ?_ | refine blk_alloc ?_ _)); refine blk_put (cs := #[.int .i64 0, .slice none 0 0, .slice none 0 0, .slice none 0 0, .slice none 0 0, .slice none 0 0]) ?_ 0 _ rfl; (with_reducible repeat (first | refine blk_drewN ?_ _ | refine blk_drew ?_ | refine blk_alloc ?_ _)); exact BK112.out⟩, ⟨zq66⟩⟩
   case round =>
    clear H'
    try clear c1
    try clear c2
    try clear p2
    try clear c3
    try clear c3b0
    try clear c3b1
    try clear c8
    try clear c11
    try clear c26
    try clear b27_0
    try clear b27_1
    try clear b27_2
    try clear b27_3
    try clear b27_4
    try clear b9_0
    try clear b9_1
    try clear b9_2
    try clear b9_3
    try clear b9_4
    try clear d27_0
    try clear d27_1
    try clear d27_2
    try clear d27_3
    try clear d27_4
    try clear d9_0
    try clear d9_1
    try clear d9_2
    try clear d9_3
    try clear d9_4
    obtain ⟨x7_1, x31_1, x113001_1, u113001, rfl, rfl, HA, HK1, HO_113001, HO_113004, HO_113005, BK102, BK103, BK112, HB⟩ := hrel
    cases gk with
    | zero => exact absurd HA.out (by simp [order_Raw.l0])
    | succ k1 =>
     have H := HA.out
     clear HA
     simp only [order_Raw.l0] at H
     by_cases c28 : x31_1 < a0_0
     · rw [if_pos c28] at H
       have c28b0 : decide (x31_1 < a0_0) = true := decide_eq_true c28
       clear c28
       by_cases c29 : x113001_1.length < 17592186044416
       · rw [if_pos c29] at H
         have LMc29 := Aside0.mk c29
         clear c29
         obtain ⟨y113, hy113⟩ : ∃ y_ : List Int, y_ = (x113001_1 ++ [wrap64 (x7_1 + 2)]) := ⟨_, rfl⟩
         replace H : (order_Raw.l0 k1 (wrap64 (x7_1 + 2)) a0_0 (wrap64 (x31_1 + 1)) a0_0 l0_1 l0_2 l0_3 l0_4 t104 y113 t106 t109) = some (r1, r2, r3, r4, r5, r6, r7) := by first | (rw [hy113]; with_reducible exact H) | (have H2_ := (Option.bind_some _ _).symm.trans H; rw [hy113]; with_reducible exact H2_) | (have H2_ := (Option.bind_some _ _).symm.trans H; with_reducible exact H2_) | with_reducible exact H | (rw [hy113]; exact H) | exact H
         have Ny113 := Aside0.mk hy113
         clear hy113
         have H' := Aside0.mk H
         clear H
         have hnb30 := NB112_102.out
         have hnc30 := NB102_112.out
         have hnb31 := NB112_103.out
         have hnc31 := NB103_112.out
         obtain ⟨b32_0, b32_1, b32_2, b32_3, b32_4, b32_5, d32_0, d32_1, d32_2, d32_3, d32_4, d32_5⟩ := bk6 BK112.out
         go_wp2_with (first | ((with_reducible refine gate_builtin (b := .append) (xs := #[.tmp 36, .tmp 38]) rfl ?_); at_builtin; refine Kd.R_append (Kd.int .i64) (w0 := w) w.heap.size rfl (.tmp 36) (.tmp 38) 24 3 (.int .i64 0) 8 rfl Try.underlying24 info3 rfl (by decide) (by omega) u113001 x113001_1 (wrap64 (x7_1 + 2)) [.int .i64 (wrap64 (x7_1 + 2))] (fun k_ => some k_ ≠ (.slice Ao19 t106.length co19 : Value).ownBlock ∧ some k_ ≠ (.slice Ao18 t109.length co18 : Value).ownBlock) (fun _ => False) rfl rfl ?aP (fun _ hk => hk.elim) ?aF ?aO ?aB ?aS ?aL ?_; (case aP => exact rfl); (case aB => exact zq66); (case aF => exact (fun k_ hk => ⟨Kd.fresh' (Kd.R_lt zq141) k_ hk, Kd.fresh' (Kd.R_lt zq142) k_ hk⟩)); (case aO => exact zq139); (case aS => exact (below_size zq66)); (case aL => have := LMc29.out; omega); intro v114 w33 ho hb hg hat; rw [← Ny113.out] at ho; have n0_ := Aside0.mk (Kd.R_after (ok := (fun k_ => some k_ ≠ (.slice Ao18 t109.length co18 : Value).ownBlock)) (by (with_reducible repeat (first | apply Kd.R_alloc | apply Kd.R_drewN | apply Kd.R_drew)); exact Kd.R_mono HO_113004.out (fun _ hk => ⟨hk.2, hk.1⟩)) hg hat); have n1_ := Aside0.mk (Kd.R_after (ok := (fun k_ => some k_ ≠ (.slice Ao19 t106.length co19 : Value).ownBlock)) (by (with_reducible repeat (first | apply Kd.R_alloc | apply Kd.R_drewN | apply Kd.R_drew)); exact Kd.R_mono HO_113005.out (fun _ hk => ⟨hk.2, hk.1⟩)) hg hat); have n2_ := Aside0.mk (blk_grown (g := gb102) (o := .cells #[.int .i64 a0_0, .slice A0_1 l0_1.length c0_1, .slice A0_2 l0_2.length c0_2, .slice A0_3 l0_3.length c0_3, .slice A0_4 l0_4.length c0_4] 26 (0, 0)) zq126 hg (Kd.R_ne HO_113001.out BK102.out (by decide))); have n3_ := Aside0.mk (blk_grown (g := gb103) (o := .cells #[.int .i64 0, .slice none 0 0, .slice none 0 0, .slice none 0 0, .slice none 0 0, .slice none 0 0] 30 (0, 0)) zq127 hg (Kd.R_ne HO_113001.out BK103.out (by decide))); have n4_ := Aside0.mk (blk_grown (g := gb112) (o := .cells #[.int .i64 t104, u113001, .slice none 0 0, .slice none 0 0, .slice Ao19 t106.length co19, .slice Ao18 t109.length co18] 30 (0, 0)) zq128 hg (Kd.R_ne HO_113001.out BK112.out (by decide))); have n5_ := Aside0.mk (hb); have n6_ := Aside0.mk (ho); clear HO_113004; clear HO_113005; clear BK102; clear BK103; clear BK112; clear HB; clear HO_113001; have HO_113004 := n0_; have HO_113005 := n1_; have BK102 := n2_; have BK103 := n3_; have BK112 := n4_; have HB := n5_; have HO115 := n6_; clear n0_ n1_ n2_ n3_ n4_ n5_ n6_; clear ho hb hg hat; obtain ⟨Ao34, co34, eo34⟩ := Kd.R_slice HO115.out; subst eo34; obtain ⟨b35_0, b35_1, b35_2, b35_3, b35_4, b35_5, d35_0, d35_1, d35_2, d35_3, d35_4, d35_5⟩ := bk6 BK112.out))
         go_roundg k1
         case measure => have := HK1.out; omega
         case rel => exact ⟨(wrap64 (x7_1 + 2)), (wrap64 (x31_1 + 1)), (y113), (.slice Ao34 y113.length co34), zq188, zq188, H', ⟨by have := HK1.out; omega⟩, ⟨by (with_reducible repeat (first | apply Kd.R_alloc | apply Kd.R_drewN | apply Kd.R_drew)); exact Kd.R_mono (Kd.R_far (p := ⟨gb112, 1, none⟩) (Kd.R_types HO115.out BK112.out (by decide)) (fun _ hk => by first | exact hk.2 | exact hk) (.slice Ao34 y113.length co34)) (fun _ hk => ⟨hk.1.1, hk.1.2⟩)⟩, ⟨by (with_reducible repeat (first | apply Kd.R_alloc | apply Kd.R_drewN | apply Kd.R_drew)); exact Kd.R_mono (Kd.R_far (p := ⟨gb112, 1, none⟩) (Kd.R_types HO_113004.out BK112.out (by decide)) (fun _ hk => by first | exact hk.2 | exact hk) (.slice Ao34 y113.length co34)) (fun _ hk => ⟨hk.1.2, hk.1.1⟩)⟩, ⟨by (with_reducible repeat (first | apply Kd.R_alloc | apply Kd.R_drewN | apply Kd.R_drew)); exact Kd.R_mono (Kd.R_far (p := ⟨gb112, 1, none⟩) (Kd.R_types HO_113005.out BK112.out (by decide)) (fun _ hk => by first | exact hk.2 | exact hk) (.slice Ao34 y113.length co34)) (fun _ hk => ⟨hk.1.2, hk.1.1⟩)⟩, ⟨zq60⟩, ⟨zq61⟩, ⟨by (with_reducible repeat (first | refine blk_drewN ?_ _ | refine blk_drew ?_ | refine blk_alloc ?_ _)); refine blk_put (cs := #[.int .i64 t104, u113001, .slice none 0 0, .slice none 0 0, .slice Ao19 t106.length co19, .slice Ao18 t109.length co18]) ?_ 1 _ rfl; (with_reducible repeat (first | refine blk_drewN ?_ _ | refine blk_drew ?_ | refine blk_alloc ?_ _)); exact BK112.out⟩, ⟨zq66⟩⟩
       · rw [if_neg c29] at H
         exact absurd H (by simp)
     · rw [if_neg c28] at H
       have c28b0 : decide (x31_1 < a0_0) = false := decide_eq_false c28
       clear c28
       have H' := Aside0.mk H
       clear H
       have hnb36 := NB102_103.out
       have hnc36 := NB103_102.out
       have hnb37 := NB102_112.out
       have hnc37 := NB112_102.out
       obtain ⟨b38_0, b38_1, b38_2, b38_3, b38_4, d38_0, d38_1, d38_2, d38_3, d38_4⟩ := bk5 BK102.out
       go_wp2
       go_loopg [7, 45] k1 (fun kq v7 v45 w' => ∃ (x7_2 : Int) (x45_2 : Int) (x113002_2 : List (S56)) (u113002 : Value), v7 = .int .i64 x7_2 ∧ v45 = .int .i64 x45_2 ∧ Aside0 (order_Raw.l1 kq x7_2 l0_1 (l0_1.length : Int) x45_2 a0_0 l0_1 l0_2 l0_3 l0_4 t104 x113001_1 x113002_2 t106 t109 = some (r1, r2, r3, r4, r5, r6, r7)) ∧ Aside0 (kq ≤ k1) ∧ Aside0 (Kd.R (Kd.int .i64) 3 w' w.heap.size (fun k_ => some k_ ≠ ((.slice Ao19 t106.length co19) : Value).ownBlock ∧ some k_ ≠ ((.slice Ao18 t109.length co18) : Value).ownBlock) u113001 x113001_1) ∧ Aside0 (Kd.R k56 56 w' w.heap.size (fun _ => True) u113002 x113002_2) ∧ Aside0 (Kd.R (Kd.int .i64) 3 w' w.heap.size (fun k_ => some k_ ≠ (u113001 : Value).ownBlock ∧ some k_ ≠ ((.slice Ao18 t109.length co18) : Value).ownBlock) (.slice Ao19 t106.length co19) t106) ∧ Aside0 (Kd.R (Kd.int .i64) 3 w' w.heap.size (fun k_ => some k_ ≠ (u113001 : Value).ownBlock ∧ some k_ ≠ ((.slice Ao19 t106.length co19) : Value).ownBlock) (.slice Ao18 t109.length co18) t109) ∧ Aside0 (w'.heap[gb102]? = some (.cells #[.int .i64 a0_0, (.slice A0_1 l0_1.length c0_1), (.slice A0_2 l0_2.length c0_2), (.slice A0_3 l0_3.length c0_3), (.slice A0_4 l0_4.length c0_4)] 26 (0, 0))) ∧ Aside0 (w'.heap[gb103]? = some (.cells #[.int .i64 0, (.slice none 0 0), (.slice none 0 0), (.slice none 0 0), (.slice none 0 0), (.slice none 0 0)] 30 (0, 0))) ∧ Aside0 (w'.heap[gb112]? = some (.cells #[.int .i64 t104, u113001, u113002, (.slice none 0 0), (.slice Ao19 t106.length co19), (.slice Ao18 t109.length co18)] 30 (0, 0))) ∧ Aside0 (Below w.heap.size w w'))
       case atStart => exact ⟨(x7_1), (0), (([] : List (S56))), (.slice none 0 0), zq188, zq188, H', ⟨Nat.le_refl _⟩, ⟨zq139⟩, ⟨zq122⟩, ⟨zq141⟩, ⟨zq142⟩, ⟨zq126⟩, ⟨zq127⟩, ⟨zq128⟩, ⟨zq66⟩⟩
       case round =>
        clear H'
        try clear c1
        try clear c2
        try clear p2
        try clear c3
        try clear c3b0
        try clear c3b1
        try clear p6
        try clear c8
        try clear c11
        try clear c26
        try clear c28
        try clear c28b0
        try clear c29
        try clear c30
        try clear c31
        try clear c36
        try clear c37
        try clear b27_0
        try clear b27_1
        try clear b27_2
        try clear b27_3
        try clear b27_4
        try clear b32_0
        try clear b32_1
        try clear b32_2
        try clear b32_3
        try clear b32_4
        try clear b32_5
        try clear b35_0
        try clear b35_1
        try clear b35_2
        try clear b35_3
        try clear b35_4
        try clear b35_5
        try clear b38_0
        try clear b38_1
        try clear b38_2
        try clear b38_3
        try clear b38_4
        try clear b9_0
        try clear b9_1
        try clear b9_2
        try clear b9_3
        try clear b9_4
        try clear d27_0
        try clear d27_1
        try clear d27_2
        try clear d27_3
        try clear d27_4
        try clear d32_0
        try clear d32_1
        try clear d32_2
        try clear d32_3
        try clear d32_4
        try clear d32_5
        try clear d35_0
        try clear d35_1
        try clear d35_2
        try clear d35_3
        try clear d35_4
        try clear d35_5
        try clear d38_0
        try clear d38_1
        try clear d38_2
        try clear d38_3
        try clear d38_4
        try clear d9_0
        try clear d9_1
        try clear d9_2
        try clear d9_3
        try clear d9_4
        try clear p2
        obtain ⟨x7_2, x45_2, x113002_2, u113002, rfl, rfl, HA, HK2, HO_113001, HO_113002, HO_113004, HO_113005, BK102, BK103, BK112, HB⟩ := hrel
        cases gk with
        | zero => exact absurd HA.out (by simp [order_Raw.l1])
        | succ k2 =>
         have H := HA.out
         clear HA
         simp only [order_Raw.l1] at H
         by_cases c39 : x45_2 < (l0_1.length : Int)
         · rw [if_pos c39] at H
           have c39b0 : decide (x45_2 < (l0_1.length : Int)) = true := decide_eq_true c39
           clear c39
           by_cases c40 : 0 ≤ x45_2
           · rw [if_pos c40] at H
             have c40b0 : decide (0 ≤ x45_2) = true := decide_eq_true c40
             clear c40
             by_cases c41 : x45_2 < (l0_1.length : Int)
             · rw [if_pos c41] at H
               have c41b0 : decide (x45_2 < (l0_1.length : Int)) = true := decide_eq_true c41
               clear c41
               by_cases c42 : x113002_2.length < 5864062014805
               · rw [if_pos c42] at H
                 have LMc42 := Aside0.mk c42
                 clear c42
                 obtain ⟨y118, hy118⟩ : ∃ y_ : List (S56), y_ = (x113002_2 ++ [(⟨wrap64 (x7_2 + 2), (rd_T61 l0_1 x45_2).f0, (rd_T61 l0_1 x45_2).f1⟩ : S56)]) := ⟨_, rfl⟩
                 replace H : (order_Raw.l1 k2 (wrap64 (x7_2 + 2)) l0_1 (l0_1.length : Int) (wrap64 (x45_2 + 1)) a0_0 l0_1 l0_2 l0_3 l0_4 t104 x113001_1 y118 t106 t109) = some (r1, r2, r3, r4, r5, r6, r7) := by first | (rw [hy118]; with_reducible exact H) | (have H2_ := (Option.bind_some _ _).symm.trans H; rw [hy118]; with_reducible exact H2_) | (have H2_ := (Option.bind_some _ _).symm.trans H; with_reducible exact H2_) | with_reducible exact H | (rw [hy118]; exact H) | exact H
                 have Ny118 := Aside0.mk hy118
                 clear hy118
                 have H' := Aside0.mk H
                 clear H
                 have p116 : 0 ≤ (x45_2 : Int) := of_decide_eq_true zq187
                 have q116 : x45_2 < (l0_1.length : Int) := of_decide_eq_true zq187
                 obtain ⟨ad116, e116, hx116_0, hx116_1⟩ := at_T61 HR0_1.out x45_2 p116 q116
                 cases e116
                 replace hx116_0 := (HB.out.cell (World.block_lt_of_cell? w _ hx116_0)).trans hx116_0
                 replace hx116_1 := (HB.out.cell (World.block_lt_of_cell? w _ hx116_1)).trans hx116_1
                 replace p116 := eq_true p116
                 replace q116 := eq_true q116
                 go_wp2_with (first | ((with_reducible refine gate_dst (N := 9) rfl ?_); refine box_event ?hg (N := 9) ?hd (cs := #[.int .i64 0, .int .i64 0]) (t := 61) ?hr ?_; (case hd => rfl); (case hg => rfl); (case hr => first | (go_simp; done) | (go_simp; rfl)); intro gb117 hg w43 hbox hb; have n0_ := Aside0.mk (Kd.R_below zq139 hb); have n1_ := Aside0.mk (Kd.R_below zq140 hb); have n2_ := Aside0.mk (Kd.R_below zq141 hb); have n3_ := Aside0.mk (Kd.R_below zq142 hb); have n4_ := Aside0.mk (blk_below (g := gb102) (o := .cells #[.int .i64 a0_0, .slice (some ad116) l0_1.length c0_1, .slice A0_2 l0_2.length c0_2, .slice A0_3 l0_3.length c0_3, .slice A0_4 l0_4.length c0_4] 26 (0, 0)) zq126 hb); have n5_ := Aside0.mk (blk_below (g := gb103) (o := .cells #[.int .i64 0, .slice none 0 0, .slice none 0 0, .slice none 0 0, .slice none 0 0, .slice none 0 0] 30 (0, 0)) zq127 hb); have n6_ := Aside0.mk (blk_below (g := gb112) (o := .cells #[.int .i64 t104, u113001, u113002, .slice none 0 0, .slice Ao19 t106.length co19, .slice Ao18 t109.length co18] 30 (0, 0)) zq128 hb); have n7_ := Aside0.mk (below_step zq66 hb); have n8_ := Aside0.mk (hbox); have n9_ := Aside0.mk ((zq57 : w.heap.size ≤ gb117)); have n10_ := Aside0.mk ((zq57 : w.heap.size ≤ gb117)); have n11_ := Aside0.mk ((by rw [hg]; exact Nat.ne_of_lt (blk_lt (g := gb102) (o := .cells #[.int .i64 a0_0, .slice (some ad116) l0_1.length c0_1, .slice A0_2 l0_2.length c0_2, .slice A0_3 l0_3.length c0_3, .slice A0_4 l0_4.length c0_4] 26 (0, 0)) zq126) : gb102 ≠ gb117)); have n12_ := Aside0.mk ((by rw [hg]; exact Nat.ne_of_gt (blk_lt (g := gb102) (o := .cells #[.int .i64 a0_0, .slice (some ad116) l0_1.length c0_1, .slice A0_2 l0_2.length c0_2, .slice A0_3 l0_3.length c0_3, .slice A0_4 l0_4.length c0_4] 26 (0, 0)) zq126) : gb117 ≠ gb102)); have n13_ := Aside0.mk ((zq44 : gb103 ≠ gb117)); have n14_ := Aside0.mk ((zq43 : gb117 ≠ gb103)); have n15_ := Aside0.mk ((by rw [hg]; exact Nat.ne_of_lt (blk_lt (g := gb112) (o := .cells #[.int .i64 t104, u113001, u113002, .slice none 0 0, .slice Ao19 t106.length co19, .slice Ao18 t109.length co18] 30 (0, 0)) zq128) : gb112 ≠ gb117)); have n16_ := Aside0.mk ((by rw [hg]; exact Nat.ne_of_gt (blk_lt (g := gb112) (o := .cells #[.int .i64 t104, u113001, u113002, .slice none 0 0, .slice Ao19 t106.length co19, .slice Ao18 t109.length co18] 30 (0, 0)) zq128) : gb117 ≠ gb112)); clear HO_113001; clear HO_113002; clear HO_113004; clear HO_113005; clear BK102; clear BK103; clear BK112; clear HB; have HO_113001 := n0_; have HO_113002 := n1_; have HO_113004 := n2_; have HO_113005 := n3_; have BK102 := n4_; have BK103 := n5_; have BK112 := n6_; have HB := n7_; have BK117 := n8_; have GW117 := n9_; have GE117 := n10_; have NB102_117 := n11_; have NB117_102 := n12_; have NB103_117 := n13_; have NB117_103 := n14_; have NB112_117 := n15_; have NB117_112 := n16_; clear n0_ n1_ n2_ n3_ n4_ n5_ n6_ n7_ n8_ n9_ n10_ n11_ n12_ n13_ n14_ n15_ n16_; clear hb hbox hg; have hnb44 := NB117_102.out; have hnc44 := NB102_117.out; have hnb45 := NB117_103.out; have hnc45 := NB103_117.out; have hnb46 := NB117_112.out; have hnc46 := NB112_117.out; obtain ⟨b47_0, b47_1, d47_0, d47_1⟩ := bk2 BK117.out; have hnb48 := NB112_102.out; have hnc48 := NB102_112.out; have hnb49 := NB112_103.out; have hnc49 := NB103_112.out; obtain ⟨b50_0, b50_1, b50_2, b50_3, b50_4, b50_5, d50_0, d50_1, d50_2, d50_3, d50_4, d50_5⟩ := bk6 BK112.out) | ((with_reducible refine gate_builtin (b := .append) (xs := #[.tmp 52, .tmp 59]) rfl ?_); at_builtin; refine Kd.R_append k56 (w0 := w) w.heap.size rfl (.tmp 52) (.tmp 59) 28 56 (.agg #[(.int .i64 0), (.int .i64 0), (.int .i64 0)]) 24 rfl Try.underlying28 info56 rfl (by decide) (by omega) u113002 x113002_2 (⟨wrap64 (x7_2 + 2), (rd_T61 l0_1 x45_2).f0, (rd_T61 l0_1 x45_2).f1⟩ : S56) [.int .i64 (wrap64 (x7_2 + 2)), .int .i64 ((rd_T61 l0_1 x45_2).f0), .int .i64 ((rd_T61 l0_1 x45_2).f1)] (fun _ => True) (fun _ => False) rfl (by first | (go_simp; done) | (go_simp; rfl)) ?aP (fun _ hk => hk.elim) ?aF ?aO ?aB ?aS ?aL ?_; (case aP => exact k56_mkM _ _ _ (⟨wrap64 (x7_2 + 2), (rd_T61 l0_1 x45_2).f0, (rd_T61 l0_1 x45_2).f1⟩ : S56)); (case aB => exact zq58); (case aF => exact (fun _ _ => trivial)); (case aO => exact (by (with_reducible repeat (first | apply Kd.R_alloc | apply Kd.R_drewN | apply Kd.R_drew)); exact Kd.R_mono (Kd.R_far (p := ⟨gb117, 1, none⟩) (Kd.R_far (p := ⟨gb117, 0, none⟩) (Kd.R_types HO_113002.out BK117.out (by decide)) (fun _ hk => by first | exact hk.2 | exact hk) (.int .i64 ((rd_T61 l0_1 x45_2).f0))) (fun _ hk => by first | exact hk.2 | exact hk) (.int .i64 ((rd_T61 l0_1 x45_2).f1))) (fun _ hk => trivial))); (case aS => exact (below_size zq58)); (case aL => have := LMc42.out; omega); intro v119 w51 ho hb hg hat; rw [← Ny118.out] at ho; have n0_ := Aside0.mk (Kd.R_over' (by (with_reducible repeat (first | apply Kd.R_alloc | apply Kd.R_drewN | apply Kd.R_drew)); exact (Kd.R_mono (Kd.R_far (p := ⟨gb117, 1, none⟩) (Kd.R_far (p := ⟨gb117, 0, none⟩) (Kd.R_types HO_113001.out BK117.out (by decide)) (fun _ hk => by first | exact hk.2 | exact hk) (.int .i64 ((rd_T61 l0_1 x45_2).f0))) (fun _ hk => by first | exact hk.2 | exact hk) (.int .i64 ((rd_T61 l0_1 x45_2).f1))) (fun _ h_ => h_.1))) (Kd.R_typed zq28) (by decide) hg); have n1_ := Aside0.mk (Kd.R_over' (by (with_reducible repeat (first | apply Kd.R_alloc | apply Kd.R_drewN | apply Kd.R_drew)); exact (Kd.R_mono (Kd.R_far (p := ⟨gb117, 1, none⟩) (Kd.R_far (p := ⟨gb117, 0, none⟩) (Kd.R_types HO_113004.out BK117.out (by decide)) (fun _ hk => by first | exact hk.2 | exact hk) (.int .i64 ((rd_T61 l0_1 x45_2).f0))) (fun _ hk => by first | exact hk.2 | exact hk) (.int .i64 ((rd_T61 l0_1 x45_2).f1))) (fun _ h_ => h_.1))) (Kd.R_typed zq28) (by decide) hg); have n2_ := Aside0.mk (Kd.R_over' (by (with_reducible repeat (first | apply Kd.R_alloc | apply Kd.R_drewN | apply Kd.R_drew)); exact (Kd.R_mono (Kd.R_far (p := ⟨gb117, 1, none⟩) (Kd.R_far (p := ⟨gb117, 0, none⟩) (Kd.R_types HO_113005.out BK117.out (by decide)) (fun _ hk => by first | exact hk.2 | exact hk) (.int .i64 ((rd_T61 l0_1 x45_2).f0))) (fun _ hk => by first | exact hk.2 | exact hk) (.int .i64 ((rd_T61 l0_1 x45_2).f1))) (fun _ h_ => h_.1))) (Kd.R_typed zq28) (by decide) hg); have n3_ := Aside0.mk (blk_grown (g := gb102) (o := .cells #[.int .i64 a0_0, .slice (some ad116) l0_1.length c0_1, .slice A0_2 l0_2.length c0_2, .slice A0_3 l0_3.length c0_3, .slice A0_4 l0_4.length c0_4] 26 (0, 0)) (by (with_reducible repeat (first | refine blk_drewN ?_ _ | refine blk_drew ?_ | refine blk_alloc ?_ _)); refine blk_far ?_ NB102_117.out _; (with_reducible repeat (first | refine blk_drewN ?_ _ | refine blk_drew ?_ | refine blk_alloc ?_ _)); refine blk_far ?_ NB102_117.out _; (with_reducible repeat (first | refine blk_drewN ?_ _ | refine blk_drew ?_ | refine blk_alloc ?_ _)); exact BK102.out) hg (Kd.R_ne HO_113002.out BK102.out (by decide))); have n4_ := Aside0.mk (blk_grown (g := gb103) (o := .cells #[.int .i64 0, .slice none 0 0, .slice none 0 0, .slice none 0 0, .slice none 0 0, .slice none 0 0] 30 (0, 0)) (by (with_reducible repeat (first | refine blk_drewN ?_ _ | refine blk_drew ?_ | refine blk_alloc ?_ _)); refine blk_far ?_ NB103_117.out _; (with_reducible repeat (first | refine blk_drewN ?_ _ | refine blk_drew ?_ | refine blk_alloc ?_ _)); refine blk_far ?_ NB103_117.out _; (with_reducible repeat (first | refine blk_drewN ?_ _ | refine blk_drew ?_ | refine blk_alloc ?_ _)); exact BK103.out) hg (Kd.R_ne HO_113002.out BK103.out (by decide))); have n5_ := Aside0.mk (blk_grown (g := gb112) (o := .cells #[.int .i64 t104, u113001, u113002, .slice none 0 0, .slice Ao19 t106.length co19, .slice Ao18 t109.length co18] 30 (0, 0)) (by (with_reducible repeat (first | refine blk_drewN ?_ _ | refine blk_drew ?_ | refine blk_alloc ?_ _)); refine blk_far ?_ NB112_117.out _; (with_reducible repeat (first | refine blk_drewN ?_ _ | refine blk_drew ?_ | refine blk_alloc ?_ _)); refine blk_far ?_ NB112_117.out _; (with_reducible repeat (first | refine blk_drewN ?_ _ | refine blk_drew ?_ | refine blk_alloc ?_ _)); exact BK112.out) hg (Kd.R_ne HO_113002.out BK112.out (by decide))); have n6_ := Aside0.mk (blk_grown (g := gb117) (o := .cells #[.int .i64 ((rd_T61 l0_1 x45_2).f0), .int .i64 ((rd_T61 l0_1 x45_2).f1)] 61 (0, 0)) (by (with_reducible repeat (first | refine blk_drewN ?_ _ | refine blk_drew ?_ | refine blk_alloc ?_ _)); refine blk_put (cs := #[.int .i64 ((rd_T61 l0_1 x45_2).f0), .int .i64 0]) ?_ 1 _ rfl; (with_reducible repeat (first | refine blk_drewN ?_ _ | refine blk_drew ?_ | refine blk_alloc ?_ _)); refine blk_put (cs := #[.int .i64 0, .int .i64 0]) ?_ 0 _ rfl; (with_reducible repeat (first | refine blk_drewN ?_ _ | refine blk_drew ?_ | refine blk_alloc ?_ _)); exact BK117.out) hg (Kd.R_ne HO_113002.out BK117.out (by decide))); have n7_ := Aside0.mk (hb); have n8_ := Aside0.mk (ho); clear HO_113001; clear HO_113004; clear HO_113005; clear BK102; clear BK103; clear BK112; clear BK117; clear HB; clear HO_113002; have HO_113001 := n0_; have HO_113004 := n1_; have HO_113005 := n2_; have BK102 := n3_; have BK103 := n4_; have BK112 := n5_; have BK117 := n6_; have HB := n7_; have HO120 := n8_; clear n0_ n1_ n2_ n3_ n4_ n5_ n6_ n7_ n8_; clear ho hb hg hat; obtain ⟨Ao52, co52, eo52⟩ := Kd.R_slice HO120.out; subst eo52; obtain ⟨b53_0, b53_1, b53_2, b53_3, b53_4, b53_5, d53_0, d53_1, d53_2, d53_3, d53_4, d53_5⟩ := bk6 BK112.out))
                 go_roundg k2
                 case measure => have := HK1.out; have := HK2.out; omega
                 case rel => exact ⟨(wrap64 (x7_2 + 2)), (wrap64 (x45_2 + 1)), (y118), (.slice Ao52 y118.length co52), zq188, zq188, H', ⟨by have := HK1.out; have := HK2.out; omega⟩, ⟨by (with_reducible repeat (first | apply Kd.R_alloc | apply Kd.R_drewN | apply Kd.R_drew)); exact Kd.R_mono (Kd.R_far (p := ⟨gb112, 2, none⟩) (Kd.R_types HO_113001.out BK112.out (by decide)) (fun _ hk => by first | exact hk.2 | exact hk) (.slice Ao52 y118.length co52)) (fun _ hk => ⟨hk.1.1, hk.1.2⟩)⟩, ⟨by (with_reducible repeat (first | apply Kd.R_alloc | apply Kd.R_drewN | apply Kd.R_drew)); exact Kd.R_mono (Kd.R_far (p := ⟨gb112, 2, none⟩) (Kd.R_types HO120.out BK112.out (by decide)) (fun _ hk => by first | exact hk.2 | exact hk) (.slice Ao52 y118.length co52)) (fun _ hk => trivial)⟩, ⟨by (with_reducible repeat (first | apply Kd.R_alloc | apply Kd.R_drewN | apply Kd.R_drew)); exact Kd.R_mono (Kd.R_far (p := ⟨gb112, 2, none⟩) (Kd.R_types HO_113004.out BK112.out (by decide)) (fun _ hk => by first | exact hk.2 | exact hk) (.slice Ao52 y118.length co52)) (fun _ hk => ⟨hk.1.1, hk.1.2⟩)⟩, ⟨by (with_reducible repeat (first | apply Kd.R_alloc | apply Kd.R_drewN | apply Kd.R_drew)); exact Kd.R_mono (Kd.R_far (p := ⟨gb112, 2, none⟩) (Kd.R_types HO_113005.out BK112.out (by decide)) (fun _ hk => by first | exact hk.2 | exact hk) (.slice Ao52 y118.length co52)) (fun _ hk => ⟨hk.1.1, hk.1.2⟩)⟩, ⟨zq60⟩, ⟨zq61⟩, ⟨by (with_reducible repeat (first | refine blk_drewN ?_ _ | refine blk_drew ?_ | refine blk_alloc ?_ _)); refine blk_put (cs := #[.int .i64 t104, u113001, u113002, .slice none 0 0, .slice Ao19 t106.length co19, .slice Ao18 t109.length co18]) ?_ 2 _ rfl; (with_reducible repeat (first | refine blk_drewN ?_ _ | refine blk_drew ?_ | refine blk_alloc ?_ _)); exact BK112.out⟩, ⟨zq58⟩⟩
               · rw [if_neg c42] at H
                 exact absurd H (by simp)
             · rw [if_neg c41] at H
               exact absurd H (by simp)
           · rw [if_neg c40] at H
             exact absurd H (by simp)
         · rw [if_neg c39] at H
           have c39b0 : decide (x45_2 < (l0_1.length : Int)) = false := decide_eq_false c39
           clear c39
           have H' := Aside0.mk H
           clear H
           have hnb54 := NB102_103.out
           have hnc54 := NB103_102.out
           have hnb55 := NB102_112.out
           have hnc55 := NB112_102.out
           obtain ⟨b56_0, b56_1, b56_2, b56_3, b56_4, d56_0, d56_1, d56_2, d56_3, d56_4⟩ := bk5 BK102.out
           go_wp2
           go_loopg [7, 66] k2 (fun kq v7 v66 w' => ∃ (x7_3 : Int) (x66_3 : Int) (x113003_3 : List (S56)) (u113003 : Value), v7 = .int .i64 x7_3 ∧ v66 = .int .i64 x66_3 ∧ Aside0 (order_Raw.l2 kq x7_3 l0_2 (l0_2.length : Int) x66_3 t104 x113001_1 x113002_2 x113003_3 t106 t109 = some (r1, r2, r3, r4, r5, r6, r7)) ∧ Aside0 (kq ≤ k2) ∧ Aside0 (Kd.R (Kd.int .i64) 3 w' w.heap.size (fun k_ => some k_ ≠ ((.slice Ao19 t106.length co19) : Value).ownBlock ∧ some k_ ≠ ((.slice Ao18 t109.length co18) : Value).ownBlock) u113001 x113001_1) ∧ Aside0 (Kd.R k56 56 w' w.heap.size (fun k_ => some k_ ≠ (u113003 : Value).ownBlock) u113002 x113002_2) ∧ Aside0 (Kd.R k56 56 w' w.heap.size (fun k_ => some k_ ≠ (u113002 : Value).ownBlock) u113003 x113003_3) ∧ Aside0 (Kd.R (Kd.int .i64) 3 w' w.heap.size (fun k_ => some k_ ≠ (u113001 : Value).ownBlock ∧ some k_ ≠ ((.slice Ao18 t109.length co18) : Value).ownBlock) (.slice Ao19 t106.length co19) t106) ∧ Aside0 (Kd.R (Kd.int .i64) 3 w' w.heap.size (fun k_ => some k_ ≠ (u113001 : Value).ownBlock ∧ some k_ ≠ ((.slice Ao19 t106.length co19) : Value).ownBlock) (.slice Ao18 t109.length co18) t109) ∧ Aside0 (w'.heap[gb102]? = some (.cells #[.int .i64 a0_0, (.slice A0_1 l0_1.length c0_1), (.slice A0_2 l0_2.length c0_2), (.slice A0_3 l0_3.length c0_3), (.slice A0_4 l0_4.length c0_4)] 26 (0, 0))) ∧ Aside0 (w'.heap[gb103]? = some (.cells #[.int .i64 0, (.slice none 0 0), (.slice none 0 0), (.slice none 0 0), (.slice none 0 0), (.slice none 0 0)] 30 (0, 0))) ∧ Aside0 (w'.heap[gb112]? = some (.cells #[.int .i64 t104, u113001, u113002, u113003, (.slice Ao19 t106.length co19), (.slice Ao18 t109.length co18)] 30 (0, 0))) ∧ Aside0 (Below w.heap.size w w'))
           case atStart => exact ⟨(x7_2), (0), (([] : List (S56))), (.slice none 0 0), zq188, zq188, H', ⟨Nat.le_refl _⟩, ⟨zq139⟩, ⟨by (with_reducible repeat (first | apply Kd.R_alloc | apply Kd.R_drewN | apply Kd.R_drew)); exact Kd.R_mono HO_113002.out (fun _ hk => (by simp [Value.ownBlock]))⟩, ⟨zq122⟩, ⟨zq141⟩, ⟨zq142⟩, ⟨zq126⟩, ⟨zq127⟩, ⟨zq128⟩, ⟨zq66⟩⟩
           case round =>
            clear H'
            try clear c1
            try clear p1
            try clear q1
            try clear hx1
            try clear c2
            try clear p2
            try clear c3
            try clear c3b0
            try clear c3b1
            try clear c4
            try clear c5
            try clear p6
            try clear c8
            try clear c11
            try clear p11
            try clear q11
            try clear hx11
            try clear c26
            try clear c28
            try clear c28b0
            try clear c29
            try clear c30
            try clear c31
            try clear c36
            try clear c37
            try clear c39
            try clear c39b0
            try clear c40
            try clear c40b0
            try clear c41
            try clear c41b0
            try clear c42
            try clear c44
            try clear c45
            try clear c46
            try clear c48
            try clear c49
            try clear c54
            try clear c55
            try clear b27_0
            try clear b27_1
            try clear b27_2
            try clear b27_3
            try clear b27_4
            try clear b32_0
            try clear b32_1
            try clear b32_2
            try clear b32_3
            try clear b32_4
            try clear b32_5
            try clear b35_0
            try clear b35_1
            try clear b35_2
            try clear b35_3
            try clear b35_4
            try clear b35_5
            try clear b38_0
            try clear b38_1
            try clear b38_2
            try clear b38_3
            try clear b38_4
            try clear b47_0
            try clear b47_1
            try clear b50_0
            try clear b50_1
            try clear b50_2
            try clear b50_3
            try clear b50_4
            try clear b50_5
            try clear b53_0
            try clear b53_1
            try clear b53_2
            try clear b53_3
            try clear b53_4
            try clear b53_5
            try clear b56_0
            try clear b56_1
            try clear b56_2
            try clear b56_3
            try clear b56_4
            try clear b9_0
            try clear b9_1
            try clear b9_2
            try clear b9_3
            try clear b9_4
            try clear d27_0
            try clear d27_1
            try clear d27_2
            try clear d27_3
            try clear d27_4
            try clear d32_0
            try clear d32_1
            try clear d32_2
            try clear d32_3
            try clear d32_4
            try clear d32_5
            try clear d35_0
            try clear d35_1
            try clear d35_2
            try clear d35_3
            try clear d35_4
            try clear d35_5
            try clear d38_0
            try clear d38_1
            try clear d38_2
            try clear d38_3
            try clear d38_4
            try clear d47_0
            try clear d47_1
            try clear d50_0
            try clear d50_1
            try clear d50_2
            try clear d50_3
            try clear d50_4
            try clear d50_5
            try clear d53_0
            try clear d53_1
            try clear d53_2
            try clear d53_3
            try clear d53_4
            try clear d53_5
            try clear d56_0
            try clear d56_1
            try clear d56_2
            try clear d56_3
            try clear d56_4
            try clear d9_0
            try clear d9_1
            try clear d9_2
            try clear d9_3
            try clear d9_4
            try clear hx116_0
            try clear hx116_1
            try clear p116
            try clear p2
            try clear p6
            try clear q116
            obtain ⟨x7_3, x66_3, x113003_3, u113003, rfl, rfl, HA, HK3, HO_113001, HO_113002, HO_113003, HO_113004, HO_113005, BK102, BK103, BK112, HB⟩ := hrel
            cases gk with
            | zero => exact absurd HA.out (by simp [order_Raw.l2])
            | succ k3 =>
             have H := HA.out
             clear HA
             simp only [order_Raw.l2] at H
             by_cases c57 : x66_3 < (l0_2.length : Int)
             · rw [if_pos c57] at H
               have c57b0 : decide (x66_3 < (l0_2.length : Int)) = true := decide_eq_true c57
               clear c57
               by_cases c58 : 0 ≤ x66_3
               · rw [if_pos c58] at H
                 have c58b0 : decide (0 ≤ x66_3) = true := decide_eq_true c58
                 clear c58
                 by_cases c59 : x66_3 < (l0_2.length : Int)
                 · rw [if_pos c59] at H
                   have c59b0 : decide (x66_3 < (l0_2.length : Int)) = true := decide_eq_true c59
                   clear c59
                   by_cases c60 : x113003_3.length < 5864062014805
                   · rw [if_pos c60] at H
                     have LMc60 := Aside0.mk c60
                     clear c60
                     obtain ⟨y123, hy123⟩ : ∃ y_ : List (S56), y_ = (x113003_3 ++ [(⟨wrap64 (x7_3 + 2), (rd_T59 l0_2 x66_3).f0, (rd_T59 l0_2 x66_3).f1⟩ : S56)]) := ⟨_, rfl⟩
                     replace H : (order_Raw.l2 k3 (wrap64 (x7_3 + 2)) l0_2 (l0_2.length : Int) (wrap64 (x66_3 + 1)) t104 x113001_1 x113002_2 y123 t106 t109) = some (r1, r2, r3, r4, r5, r6, r7) := by first | (rw [hy123]; with_reducible exact H) | (have H2_ := (Option.bind_some _ _).symm.trans H; rw [hy123]; with_reducible exact H2_) | (have H2_ := (Option.bind_some _ _).symm.trans H; with_reducible exact H2_) | with_reducible exact H | (rw [hy123]; exact H) | exact H
                     have Ny123 := Aside0.mk hy123
                     clear hy123
                     have H' := Aside0.mk H
                     clear H
                     have p121 : 0 ≤ (x66_3 : Int) := of_decide_eq_true zq187
                     have q121 : x66_3 < (l0_2.length : Int) := of_decide_eq_true zq187
                     obtain ⟨ad121, e121, hx121_0, hx121_1⟩ := at_T59 HR0_2.out x66_3 p121 q121
                     cases e121
                     replace hx121_0 := (HB.out.cell (World.block_lt_of_cell? w _ hx121_0)).trans hx121_0
                     replace hx121_1 := (HB.out.cell (World.block_lt_of_cell? w _ hx121_1)).trans hx121_1
                     replace p121 := eq_true p121
                     replace q121 := eq_true q121
                     go_wp2_with (first | ((with_reducible refine gate_dst (N := 11) rfl ?_); refine box_event ?hg (N := 11) ?hd (cs := #[.int .i64 0, .int .i64 0]) (t := 59) ?hr ?_; (case hd => rfl); (case hg => rfl); (case hr => first | (go_simp; done) | (go_simp; rfl)); intro gb122 hg w61 hbox hb; have n0_ := Aside0.mk (Kd.R_below zq139 hb); have n1_ := Aside0.mk (Kd.R_below zq140 hb); have n2_ := Aside0.mk (Kd.R_below (by (with_reducible repeat (first | apply Kd.R_alloc | apply Kd.R_drewN | apply Kd.R_drew)); exact HO_113003.out) hb); have n3_ := Aside0.mk (Kd.R_below zq141 hb); have n4_ := Aside0.mk (Kd.R_below zq142 hb); have n5_ := Aside0.mk (blk_below (g := gb102) (o := .cells #[.int .i64 a0_0, .slice A0_1 l0_1.length c0_1, .slice (some ad121) l0_2.length c0_2, .slice A0_3 l0_3.length c0_3, .slice A0_4 l0_4.length c0_4] 26 (0, 0)) zq126 hb); have n6_ := Aside0.mk (blk_below (g := gb103) (o := .cells #[.int .i64 0, .slice none 0 0, .slice none 0 0, .slice none 0 0, .slice none 0 0, .slice none 0 0] 30 (0, 0)) zq127 hb); have n7_ := Aside0.mk (blk_below (g := gb112) (o := .cells #[.int .i64 t104, u113001, u113002, u113003, .slice Ao19 t106.length co19, .slice Ao18 t109.length co18] 30 (0, 0)) zq128 hb); have n8_ := Aside0.mk (below_step zq66 hb); have n9_ := Aside0.mk (hbox); have n10_ := Aside0.mk ((zq57 : w.heap.size ≤ gb122)); have n11_ := Aside0.mk ((zq57 : w.heap.size ≤ gb122)); have n12_ := Aside0.mk ((by rw [hg]; exact Nat.ne_of_lt (blk_lt (g := gb102) (o := .cells #[.int .i64 a0_0, .slice A0_1 l0_1.length c0_1, .slice (some ad121) l0_2.length c0_2, .slice A0_3 l0_3.length c0_3, .slice A0_4 l0_4.length c0_4] 26 (0, 0)) zq126) : gb102 ≠ gb122)); have n13_ := Aside0.mk ((by rw [hg]; exact Nat.ne_of_gt (blk_lt (g := gb102) (o := .cells #[.int .i64 a0_0, .slice A0_1 l0_1.length c0_1, .slice (some ad121) l0_2.length c0_2, .slice A0_3 l0_3.length c0_3, .slice A0_4 l0_4.length c0_4] 26 (0, 0)) zq126) : gb122 ≠ gb102)); have n14_ := Aside0.mk ((zq44 : gb103 ≠ gb122)); have n15_ := Aside0.mk ((zq43 : gb122 ≠ gb103)); have n16_ := Aside0.mk ((by rw [hg]; exact Nat.ne_of_lt (blk_lt (g := gb112) (o := .cells #[.int .i64 t104, u113001, u113002, u113003, .slice Ao19 t106.length co19, .slice Ao18 t109.length co18] 30 (0, 0)) zq128) : gb112 ≠ gb122)); have n17_ := Aside0.mk ((by rw [hg]; exact Nat.ne_of_gt (blk_lt (g := gb112) (o := .cells #[.int .i64 t104, u113001, u113002, u113003, .slice Ao19 t106.length co19, .slice Ao18 t109.length co18] 30 (0, 0)) zq128) : gb122 ≠ gb112)); clear HO_113001; clear HO_113002; clear HO_113003; clear HO_113004; clear HO_113005; clear BK102; clear BK103; clear BK112; clear HB; have HO_113001 := n0_; have HO_113002 := n1_; have HO_113003 := n2_; have HO_113004 := n3_; have HO_113005 := n4_; have BK102 := n5_; have BK103 := n6_; have BK112 := n7_; have HB := n8_; have BK122 := n9_; have GW122 := n10_; have GE122 := n11_; have NB102_122 := n12_; have NB122_102 := n13_; have NB103_122 := n14_; have NB122_103 := n15_; have NB112_122 := n16_; have NB122_112 := n17_; clear n0_ n1_ n2_ n3_ n4_ n5_ n6_ n7_ n8_ n9_ n10_ n11_ n12_ n13_ n14_ n15_ n16_ n17_; clear hb hbox hg; have hnb62 := NB122_102.out; have hnc62 := NB102_122.out; have hnb63 := NB122_103.out; have hnc63 := NB103_122.out; have hnb64 := NB122_112.out; have hnc64 := NB112_122.out; obtain ⟨b65_0, b65_1, d65_0, d65_1⟩ := bk2 BK122.out; have hnb66 := NB112_102.out; have hnc66 := NB102_112.out; have hnb67 := NB112_103.out; have hnc67 := NB103_112.out; obtain ⟨b68_0, b68_1, b68_2, b68_3, b68_4, b68_5, d68_0, d68_1, d68_2, d68_3, d68_4, d68_5⟩ := bk6 BK112.out) | ((with_reducible refine gate_builtin (b := .append) (xs := #[.tmp 73, .tmp 80]) rfl ?_); at_builtin; refine Kd.R_append k56 (w0 := w) w.heap.size rfl (.tmp 73) (.tmp 80) 28 56 (.agg #[(.int .i64 0), (.int .i64 0), (.int .i64 0)]) 24 rfl Try.underlying28 info56 rfl (by decide) (by omega) u113003 x113003_3 (⟨wrap64 (x7_3 + 2), (rd_T59 l0_2 x66_3).f0, (rd_T59 l0_2 x66_3).f1⟩ : S56) [.int .i64 (wrap64 (x7_3 + 2)), .int .i64 ((rd_T59 l0_2 x66_3).f0), .int .i64 ((rd_T59 l0_2 x66_3).f1)] (fun k_ => some k_ ≠ (u113002 : Value).ownBlock) (fun _ => False) rfl (by first | (go_simp; done) | (go_simp; rfl)) ?aP (fun _ hk => hk.elim) ?aF ?aO ?aB ?aS ?aL ?_; (case aP => exact k56_mkM _ _ _ (⟨wrap64 (x7_3 + 2), (rd_T59 l0_2 x66_3).f0, (rd_T59 l0_2 x66_3).f1⟩ : S56)); (case aB => exact zq59); (case aF => exact (fun k_ hk => Kd.fresh' (Kd.R_lt (by (with_reducible repeat (first | apply Kd.R_alloc | apply Kd.R_drewN | apply Kd.R_drew)); exact (Kd.R_mono (Kd.R_far (p := ⟨gb122, 1, none⟩) (Kd.R_far (p := ⟨gb122, 0, none⟩) (Kd.R_types HO_113002.out BK122.out (by decide)) (fun _ hk => by first | exact hk.2 | exact hk) (.int .i64 ((rd_T59 l0_2 x66_3).f0))) (fun _ hk => by first | exact hk.2 | exact hk) (.int .i64 ((rd_T59 l0_2 x66_3).f1))) (fun _ h_ => h_.1)))) k_ hk)); (case aO => exact (by (with_reducible repeat (first | apply Kd.R_alloc | apply Kd.R_drewN | apply Kd.R_drew)); exact Kd.R_mono (Kd.R_far (p := ⟨gb122, 1, none⟩) (Kd.R_far (p := ⟨gb122, 0, none⟩) (Kd.R_types HO_113003.out BK122.out (by decide)) (fun _ hk => by first | exact hk.2 | exact hk) (.int .i64 ((rd_T59 l0_2 x66_3).f0))) (fun _ hk => by first | exact hk.2 | exact hk) (.int .i64 ((rd_T59 l0_2 x66_3).f1))) (fun _ hk => by first | exact hk.1 | exact hk))); (case aS => exact (below_size zq59)); (case aL => have := LMc60.out; omega); intro v124 w69 ho hb hg hat; rw [← Ny123.out] at ho; have n0_ := Aside0.mk (Kd.R_over' (by (with_reducible repeat (first | apply Kd.R_alloc | apply Kd.R_drewN | apply Kd.R_drew)); exact (Kd.R_mono (Kd.R_far (p := ⟨gb122, 1, none⟩) (Kd.R_far (p := ⟨gb122, 0, none⟩) (Kd.R_types HO_113001.out BK122.out (by decide)) (fun _ hk => by first | exact hk.2 | exact hk) (.int .i64 ((rd_T59 l0_2 x66_3).f0))) (fun _ hk => by first | exact hk.2 | exact hk) (.int .i64 ((rd_T59 l0_2 x66_3).f1))) (fun _ h_ => h_.1))) (Kd.R_typed zq29) (by decide) hg); have n1_ := Aside0.mk (Kd.R_after (ok := (fun _ => True)) (by (with_reducible repeat (first | apply Kd.R_alloc | apply Kd.R_drewN | apply Kd.R_drew)); exact Kd.R_mono (Kd.R_far (p := ⟨gb122, 1, none⟩) (Kd.R_far (p := ⟨gb122, 0, none⟩) (Kd.R_types HO_113002.out BK122.out (by decide)) (fun _ hk => by first | exact hk.2 | exact hk) (.int .i64 ((rd_T59 l0_2 x66_3).f0))) (fun _ hk => by first | exact hk.2 | exact hk) (.int .i64 ((rd_T59 l0_2 x66_3).f1))) (fun _ hk => ⟨trivial, hk.1⟩)) hg hat); have n2_ := Aside0.mk (Kd.R_over' (by (with_reducible repeat (first | apply Kd.R_alloc | apply Kd.R_drewN | apply Kd.R_drew)); exact (Kd.R_mono (Kd.R_far (p := ⟨gb122, 1, none⟩) (Kd.R_far (p := ⟨gb122, 0, none⟩) (Kd.R_types HO_113004.out BK122.out (by decide)) (fun _ hk => by first | exact hk.2 | exact hk) (.int .i64 ((rd_T59 l0_2 x66_3).f0))) (fun _ hk => by first | exact hk.2 | exact hk) (.int .i64 ((rd_T59 l0_2 x66_3).f1))) (fun _ h_ => h_.1))) (Kd.R_typed zq29) (by decide) hg); have n3_ := Aside0.mk (Kd.R_over' (by (with_reducible repeat (first | apply Kd.R_alloc | apply Kd.R_drewN | apply Kd.R_drew)); exact (Kd.R_mono (Kd.R_far (p := ⟨gb122, 1, none⟩) (Kd.R_far (p := ⟨gb122, 0, none⟩) (Kd.R_types HO_113005.out BK122.out (by decide)) (fun _ hk => by first | exact hk.2 | exact hk) (.int .i64 ((rd_T59 l0_2 x66_3).f0))) (fun _ hk => by first | exact hk.2 | exact hk) (.int .i64 ((rd_T59 l0_2 x66_3).f1))) (fun _ h_ => h_.1))) (Kd.R_typed zq29) (by decide) hg); have n4_ := Aside0.mk (blk_grown (g := gb102) (o := .cells #[.int .i64 a0_0, .slice A0_1 l0_1.length c0_1, .slice (some ad121) l0_2.length c0_2, .slice A0_3 l0_3.length c0_3, .slice A0_4 l0_4.length c0_4] 26 (0, 0)) (by (with_reducible repeat (first | refine blk_drewN ?_ _ | refine blk_drew ?_ | refine blk_alloc ?_ _)); refine blk_far ?_ NB102_122.out _; (with_reducible repeat (first | refine blk_drewN ?_ _ | refine blk_drew ?_ | refine blk_alloc ?_ _)); refine blk_far ?_ NB102_122.out _; (with_reducible repeat (first | refine blk_drewN ?_ _ | refine blk_drew ?_ | refine blk_alloc ?_ _)); exact BK102.out) hg (Kd.R_ne HO_113003.out BK102.out (by decide))); have n5_ := Aside0.mk (blk_grown (g := gb103) (o := .cells #[.int .i64 0, .slice none 0 0, .slice none 0 0, .slice none 0 0, .slice none 0 0, .slice none 0 0] 30 (0, 0)) (by (with_reducible repeat (first | refine blk_drewN ?_ _ | refine blk_drew ?_ | refine blk_alloc ?_ _)); refine blk_far ?_ NB103_122.out _; (with_reducible repeat (first | refine blk_drewN ?_ _ | refine blk_drew ?_ | refine blk_alloc ?_ _)); refine blk_far ?_ NB103_122.out _; (with_reducible repeat (first | refine blk_drewN ?_ _ | refine blk_drew ?_ | refine blk_alloc ?_ _)); exact BK103.out) hg (Kd.R_ne HO_113003.out BK103.out (by decide))); have n6_ := Aside0.mk (blk_grown (g := gb112) (o := .cells #[.int .i64 t104, u113001, u113002, u113003, .slice Ao19 t106.length co19, .slice Ao18 t109.length co18] 30 (0, 0)) (by (with_reducible repeat (first | refine blk_drewN ?_ _ | refine blk_drew ?_ | refine blk_alloc ?_ _)); refine blk_far ?_ NB112_122.out _; (with_reducible repeat (first | refine blk_drewN ?_ _ | refine blk_drew ?_ | refine blk_alloc ?_ _)); refine blk_far ?_ NB112_122.out _; (with_reducible repeat (first | refine blk_drewN ?_ _ | refine blk_drew ?_ | refine blk_alloc ?_ _)); exact BK112.out) hg (Kd.R_ne HO_113003.out BK112.out (by decide))); have n7_ := Aside0.mk (blk_grown (g := gb122) (o := .cells #[.int .i64 ((rd_T59 l0_2 x66_3).f0), .int .i64 ((rd_T59 l0_2 x66_3).f1)] 59 (0, 0)) (by (with_reducible repeat (first | refine blk_drewN ?_ _ | refine blk_drew ?_ | refine blk_alloc ?_ _)); refine blk_put (cs := #[.int .i64 ((rd_T59 l0_2 x66_3).f0), .int .i64 0]) ?_ 1 _ rfl; (with_reducible repeat (first | refine blk_drewN ?_ _ | refine blk_drew ?_ | refine blk_alloc ?_ _)); refine blk_put (cs := #[.int .i64 0, .int .i64 0]) ?_ 0 _ rfl; (with_reducible repeat (first | refine blk_drewN ?_ _ | refine blk_drew ?_ | refine blk_alloc ?_ _)); exact BK122.out) hg (Kd.R_ne HO_113003.out BK122.out (by decide))); have n8_ := Aside0.mk (hb); have n9_ := Aside0.mk (ho); clear HO_113001; clear HO_113002; clear HO_113004; clear HO_113005; clear BK102; clear BK103; clear BK112; clear BK122; clear HB; clear HO_113003; have HO_113001 := n0_; have HO_113002 := n1_; have HO_113004 := n2_; have HO_113005 := n3_; have BK102 := n4_; have BK103 := n5_; have BK112 := n6_; have BK122 := n7_; have HB := n8_; have HO125 := n9_; clear n0_ n1_ n2_ n3_ n4_ n5_ n6_ n7_ n8_ n9_; clear ho hb hg hat; obtain ⟨Ao70, co70, eo70⟩ := Kd.R_slice HO125.out; subst eo70; obtain ⟨b71_0, b71_1, b71_2, b71_3, b71_4, b71_5, d71_0, d71_1, d71_2, d71_3, d71_4, d71_5⟩ := bk6 BK112.out))
                     go_roundg k3
                     case measure => have := HK1.out; have := HK2.out; have := HK3.out; omega
                     case rel => exact ⟨(wrap64 (x7_3 + 2)), (wrap64 (x66_3 + 1)), (y123), (.slice Ao70 y123.length co70), zq188, zq188, H', ⟨by have := HK1.out; have := HK2.out; have := HK3.out; omega⟩, ⟨by (with_reducible repeat (first | apply Kd.R_alloc | apply Kd.R_drewN | apply Kd.R_drew)); exact Kd.R_mono (Kd.R_far (p := ⟨gb112, 3, none⟩) (Kd.R_types HO_113001.out BK112.out (by decide)) (fun _ hk => by first | exact hk.2 | exact hk) (.slice Ao70 y123.length co70)) (fun _ hk => ⟨hk.1.1, hk.1.2⟩)⟩, ⟨by (with_reducible repeat (first | apply Kd.R_alloc | apply Kd.R_drewN | apply Kd.R_drew)); exact Kd.R_mono (Kd.R_far (p := ⟨gb112, 3, none⟩) (Kd.R_types HO_113002.out BK112.out (by decide)) (fun _ hk => by first | exact hk.2 | exact hk) (.slice Ao70 y123.length co70)) (fun _ hk => by first | exact hk.1.2 | exact hk)⟩, ⟨by (with_reducible repeat (first | apply Kd.R_alloc | apply Kd.R_drewN | apply Kd.R_drew)); exact Kd.R_mono (Kd.R_far (p := ⟨gb112, 3, none⟩) (Kd.R_types HO125.out BK112.out (by decide)) (fun _ hk => by first | exact hk.2 | exact hk) (.slice Ao70 y123.length co70)) (fun _ hk => by first | exact hk.1 | exact hk)⟩, ⟨by (with_reducible repeat (first | apply Kd.R_alloc | apply Kd.R_drewN | apply Kd.R_drew)); exact Kd.R_mono (Kd.R_far (p := ⟨gb112, 3, none⟩) (Kd.R_types HO_113004.out BK112.out (by decide)) (fun _ hk => by first | exact hk.2 | exact hk) (.slice Ao70 y123.length co70)) (fun _ hk => ⟨hk.1.1, hk.1.2⟩)⟩, ⟨by (with_reducible repeat (first | apply Kd.R_alloc | apply Kd.R_drewN | apply Kd.R_drew)); exact Kd.R_mono (Kd.R_far (p := ⟨gb112, 3, none⟩) (Kd.R_types HO_113005.out BK112.out (by decide)) (fun _ hk => by first | exact hk.2 | exact hk) (.slice Ao70 y123.length co70)) (fun _ hk => ⟨hk.1.1, hk.1.2⟩)⟩, ⟨zq60⟩, ⟨zq61⟩, ⟨by (with_reducible repeat (first | refine blk_drewN ?_ _ | refine blk_drew ?_ | refine blk_alloc ?_ _)); refine blk_put (cs := #[.int .i64 t104, u113001, u113002, u113003, .slice Ao19 t106.length co19, .slice Ao18 t109.length co18]) ?_ 3 _ rfl; (with_reducible repeat (first | refine blk_drewN ?_ _ | refine blk_drew ?_ | refine blk_alloc ?_ _)); exact BK112.out⟩, ⟨zq59⟩⟩
                   · rw [if_neg c60] at H
                     exact absurd H (by simp)
                 · rw [if_neg c59] at H
                   exact absurd H (by simp)
               · rw [if_neg c58] at H
                 exact absurd H (by simp)
             · rw [if_neg c57] at H
               have c57b0 : decide (x66_3 < (l0_2.length : Int)) = false := decide_eq_false c57
               clear c57
               simp only [Option.some.injEq, Prod.mk.injEq] at H
               obtain ⟨rfl, rfl, rfl, rfl, rfl, rfl, rfl⟩ := H
               have hnb72 := NB112_102.out
               have hnc72 := NB102_112.out
               have hnb73 := NB112_103.out
               have hnc73 := NB103_112.out
               obtain ⟨b74_0, b74_1, b74_2, b74_3, b74_4, b74_5, d74_0, d74_1, d74_2, d74_3, d74_4, d74_5⟩ := bk6 BK112.out
               have hnb75 := NB103_102.out
               have hnc75 := NB102_103.out
               obtain ⟨b76_0, b76_1, b76_2, b76_3, b76_4, b76_5, d76_0, d76_1, d76_2, d76_3, d76_4, d76_5⟩ := bk6 BK103.out
               obtain ⟨Ao77, co77, eo77⟩ := Kd.R_slice HO_113001.out
               subst eo77
               obtain ⟨Ao78, co78, eo78⟩ := Kd.R_slice HO_113002.out
               subst eo78
               obtain ⟨Ao79, co79, eo79⟩ := Kd.R_slice HO_113003.out
               subst eo79
               go_wp2
               refine bodyPost_ret (results_ct rfl _ _ gb103 30 #[.int .i64 t104, .slice Ao77 x113001_1.length co77, .slice Ao78 x113002_2.length co78, .slice Ao79 x113003_3.length co79, .slice Ao19 t106.length co19, .slice Ao18 t109.length co18] (0, 0) _ rfl (by (with_reducible repeat (first | refine blk_drewN ?_ _ | refine blk_drew ?_ | refine blk_alloc ?_ _)); refine blk_put (cs := #[.int .i64 t104, .slice Ao77 x113001_1.length co77, .slice Ao78 x113002_2.length co78, .slice Ao79 x113003_3.length co79, .slice Ao19 t106.length co19, .slice none 0 0]) ?_ 5 _ rfl; (with_reducible repeat (first | refine blk_drewN ?_ _ | refine blk_drew ?_ | refine blk_alloc ?_ _)); refine blk_put (cs := #[.int .i64 t104, .slice Ao77 x113001_1.length co77, .slice Ao78 x113002_2.length co78, .slice Ao79 x113003_3.length co79, .slice none 0 0, .slice none 0 0]) ?_ 4 _ rfl; (with_reducible repeat (first | refine blk_drewN ?_ _ | refine blk_drew ?_ | refine blk_alloc ?_ _)); refine blk_put (cs := #[.int .i64 t104, .slice Ao77 x113001_1.length co77, .slice Ao78 x113002_2.length co78, .slice none 0 0, .slice none 0 0, .slice none 0 0]) ?_ 3 _ rfl; (with_reducible repeat (first | refine blk_drewN ?_ _ | refine blk_drew ?_ | refine blk_alloc ?_ _)); refine blk_put (cs := #[.int .i64 t104, .slice Ao77 x113001_1.length co77, .slice none 0 0, .slice none 0 0, .slice none 0 0, .slice none 0 0]) ?_ 2 _ rfl; (with_reducible repeat (first | refine blk_drewN ?_ _ | refine blk_drew ?_ | refine blk_alloc ?_ _)); refine blk_put (cs := #[.int .i64 t104, .slice none 0 0, .slice none 0 0, .slice none 0 0, .slice none 0 0, .slice none 0 0]) ?_ 1 _ rfl; (with_reducible repeat (first | refine blk_drewN ?_ _ | refine blk_drew ?_ | refine blk_alloc ?_ _)); refine blk_put (cs := #[.int .i64 0, .slice none 0 0, .slice none 0 0, .slice none 0 0, .slice none 0 0, .slice none 0 0]) ?_ 0 _ rfl; (with_reducible repeat (first | refine blk_drewN ?_ _ | refine blk_drew ?_ | refine blk_alloc ?_ _)); exact BK103.out) Try.underlying30 rfl (by kernel_rfl)) rfl ?_
               exact ⟨_, _, _, _, _, zq183, by (with_reducible repeat (first | apply Kd.R_alloc | apply Kd.R_drewN | apply Kd.R_drew)); exact Kd.R_mono (Kd.R_far (p := ⟨gb103, 5, none⟩) (Kd.R_far (p := ⟨gb103, 4, none⟩) (Kd.R_far (p := ⟨gb103, 3, none⟩) (Kd.R_far (p := ⟨gb103, 2, none⟩) (Kd.R_far (p := ⟨gb103, 1, none⟩) (Kd.R_far (p := ⟨gb103, 0, none⟩) (Kd.R_types HO_113001.out BK103.out (by decide)) (fun _ hk => by first | exact hk.2 | exact hk) (.int .i64 t104)) (fun _ hk => by first | exact hk.2 | exact hk) (.slice Ao77 x113001_1.length co77)) (fun _ hk => by first | exact hk.2 | exact hk) (.slice Ao78 x113002_2.length co78)) (fun _ hk => by first | exact hk.2 | exact hk) (.slice Ao79 x113003_3.length co79)) (fun _ hk => by first | exact hk.2 | exact hk) (.slice Ao19 t106.length co19)) (fun _ hk => by first | exact hk.2 | exact hk) (.slice Ao18 t109.length co18)) (fun _ hk => ⟨hk.1.1, hk.1.2⟩), by (with_reducible repeat (first | apply Kd.R_alloc | apply Kd.R_drewN | apply Kd.R_drew)); exact Kd.R_mono (Kd.R_far (p := ⟨gb103, 5, none⟩) (Kd.R_far (p := ⟨gb103, 4, none⟩) (Kd.R_far (p := ⟨gb103, 3, none⟩) (Kd.R_far (p := ⟨gb103, 2, none⟩) (Kd.R_far (p := ⟨gb103, 1, none⟩) (Kd.R_far (p := ⟨gb103, 0, none⟩) (Kd.R_types HO_113002.out BK103.out (by decide)) (fun _ hk => by first | exact hk.2 | exact hk) (.int .i64 t104)) (fun _ hk => by first | exact hk.2 | exact hk) (.slice Ao77 x113001_1.length co77)) (fun _ hk => by first | exact hk.2 | exact hk) (.slice Ao78 x113002_2.length co78)) (fun _ hk => by first | exact hk.2 | exact hk) (.slice Ao79 x113003_3.length co79)) (fun _ hk => by first | exact hk.2 | exact hk) (.slice Ao19 t106.length co19)) (fun _ hk => by first | exact hk.2 | exact hk) (.slice Ao18 t109.length co18)) (fun _ hk => by first | exact hk.1 | exact hk), by (with_reducible repeat (first | apply Kd.R_alloc | apply Kd.R_drewN | apply Kd.R_drew)); exact Kd.R_mono (Kd.R_far (p := ⟨gb103, 5, none⟩) (Kd.R_far (p := ⟨gb103, 4, none⟩) (Kd.R_far (p := ⟨gb103, 3, none⟩) (Kd.R_far (p := ⟨gb103, 2, none⟩) (Kd.R_far (p := ⟨gb103, 1, none⟩) (Kd.R_far (p := ⟨gb103, 0, none⟩) (Kd.R_types HO_113003.out BK103.out (by decide)) (fun _ hk => by first | exact hk.2 | exact hk) (.int .i64 t104)) (fun _ hk => by first | exact hk.2 | exact hk) (.slice Ao77 x113001_1.length co77)) (fun _ hk => by first | exact hk.2 | exact hk) (.slice Ao78 x113002_2.length co78)) (fun _ hk => by first | exact hk.2 | exact hk) (.slice Ao79 x113003_3.length co79)) (fun _ hk => by first | exact hk.2 | exact hk) (.slice Ao19 t106.length co19)) (fun _ hk => by first | exact hk.2 | exact hk) (.slice Ao18 t109.length co18)) (fun _ hk => by first | exact hk.1 | exact hk), by (with_reducible repeat (first | apply Kd.R_alloc | apply Kd.R_drewN | apply Kd.R_drew)); exact Kd.R_mono (Kd.R_far (p := ⟨gb103, 5, none⟩) (Kd.R_far (p := ⟨gb103, 4, none⟩) (Kd.R_far (p := ⟨gb103, 3, none⟩) (Kd.R_far (p := ⟨gb103, 2, none⟩) (Kd.R_far (p := ⟨gb103, 1, none⟩) (Kd.R_far (p := ⟨gb103, 0, none⟩) (Kd.R_types HO_113004.out BK103.out (by decide)) (fun _ hk => by first | exact hk.2 | exact hk) (.int .i64 t104)) (fun _ hk => by first | exact hk.2 | exact hk) (.slice Ao77 x113001_1.length co77)) (fun _ hk => by first | exact hk.2 | exact hk) (.slice Ao78 x113002_2.length co78)) (fun _ hk => by first | exact hk.2 | exact hk) (.slice Ao79 x113003_3.length co79)) (fun _ hk => by first | exact hk.2 | exact hk) (.slice Ao19 t106.length co19)) (fun _ hk => by first | exact hk.2 | exact hk) (.slice Ao18 t109.length co18)) (fun _ hk => ⟨hk.1.1, hk.1.2⟩), by (with_reducible repeat (first | apply Kd.R_alloc | apply Kd.R_drewN | apply Kd.R_drew)); exact Kd.R_mono (Kd.R_far (p := ⟨gb103, 5, none⟩) (Kd.R_far (p := ⟨gb103, 4, none⟩) (Kd.R_far (p := ⟨gb103, 3, none⟩) (Kd.R_far (p := ⟨gb103, 2, none⟩) (Kd.R_far (p := ⟨gb103, 1, none⟩) (Kd.R_far (p := ⟨gb103, 0, none⟩) (Kd.R_types HO_113005.out BK103.out (by decide)) (fun _ hk => by first | exact hk.2 | exact hk) (.int .i64 t104)) (fun _ hk => by first | exact hk.2 | exact hk) (.slice Ao77 x113001_1.length co77)) (fun _ hk => by first | exact hk.2 | exact hk) (.slice Ao78 x113002_2.length co78)) (fun _ hk => by first | exact hk.2 | exact hk) (.slice Ao79 x113003_3.length co79)) (fun _ hk => by first | exact hk.2 | exact hk) (.slice Ao19 t106.length co19)) (fun _ hk => by first | exact hk.2 | exact hk) (.slice Ao18 t109.length co18)) (fun _ hk => ⟨hk.1.1, hk.1.2⟩), zq66⟩
 · rw [if_neg c3] at H
   have c3b0 : (t105 == 0) = false := beq_eq_false_iff_ne.mpr c3
   have c3b1 : (t105 != 0) = true := bne_iff_ne.mpr c3
   simp only [Option.some.injEq, Prod.mk.injEq] at H
   obtain ⟨rfl, rfl, rfl, rfl, rfl, rfl, rfl⟩ := H
   go_enter Try.func11, Try.ntmps11
   go_wp2_with (first | ((with_reducible refine gate_dst (N := 1) rfl ?_); refine box_event ?hg (N := 1) ?hd (cs := #[.int .i64 a0_0, .slice A0_1 l0_1.length c0_1, .slice A0_2 l0_2.length c0_2, .slice A0_3 l0_3.length c0_3, .slice A0_4 l0_4.length c0_4]) (t := 26) ?hr ?_; (case hd => rfl); (case hg => rfl); (case hr => first | (go_simp; done) | (go_simp; rfl)); intro gb102 hg w80 hbox hb; have n0_ := Aside0.mk (below_step zq125 hb); have n1_ := Aside0.mk (hbox); have n2_ := Aside0.mk ((zq110 : w.heap.size ≤ gb102)); have n3_ := Aside0.mk ((zq110 : w.heap.size ≤ gb102)); clear HB; have HB := n0_; have BK102 := n1_; have GW102 := n2_; have GE102 := n3_; clear n0_ n1_ n2_ n3_; clear hb hbox hg) | ((with_reducible refine gate_dst (N := 2) rfl ?_); refine box_event ?hg (N := 2) ?hd (cs := #[.int .i64 0, .slice none 0 0, .slice none 0 0, .slice none 0 0, .slice none 0 0, .slice none 0 0]) (t := 30) ?hr ?_; (case hd => rfl); (case hg => rfl); (case hr => first | (go_simp; done) | (go_simp; rfl)); intro gb103 hg w81 hbox hb; have n0_ := Aside0.mk (blk_below (g := gb102) (o := .cells #[.int .i64 a0_0, .slice A0_1 l0_1.length c0_1, .slice A0_2 l0_2.length c0_2, .slice A0_3 l0_3.length c0_3, .slice A0_4 l0_4.length c0_4] 26 (0, 0)) zq126 hb); have n1_ := Aside0.mk (below_step zq112 hb); have n2_ := Aside0.mk (hbox); have n3_ := Aside0.mk ((zq68 : w.heap.size ≤ gb103)); have n4_ := Aside0.mk ((zq68 : w.heap.size ≤ gb103)); have n5_ := Aside0.mk ((zq40 : gb102 ≠ gb103)); have n6_ := Aside0.mk ((zq37 : gb103 ≠ gb102)); clear BK102; clear HB; have BK102 := n0_; have HB := n1_; have BK103 := n2_; have GW103 := n3_; have GE103 := n4_; have NB102_103 := n5_; have NB103_102 := n6_; clear n0_ n1_ n2_ n3_ n4_ n5_ n6_; clear hb hbox hg; have hnb82 := NB102_103.out; have hnc82 := NB103_102.out; obtain ⟨b83_0, b83_1, b83_2, b83_3, b83_4, d83_0, d83_1, d83_2, d83_3, d83_4⟩ := bk5 BK102.out) | ((with_reducible refine gate_callee (f := 30) rfl ?_); refine goesL_ (some 14) rfl rfl Try.func30 (by kernel_rfl) rfl #[.agg #[.int .i64 a0_0, .slice A0_1 l0_1.length c0_1, .slice A0_2 l0_2.length c0_2, .slice A0_3 l0_3.length c0_3, .slice A0_4 l0_4.length c0_4]] rfl zq123 ?_; (with_reducible refine (gates_Vars.calls a0_0 _ _ l0_1 _ _ l0_2 _ _ l0_3 _ _ l0_4 t104 t105 _ ?side1 ?side2 ?side3 ?side4 ?side5 ?side6 ?side7 ?side8 A2.out).mono ?_); (case side1 => exact zq88); (case side2 => exact HC0_1.out); (case side3 => exact zq89); (case side4 => exact HC0_2.out); (case side5 => exact zq90); (case side6 => exact HC0_3.out); (case side7 => exact zq91); (case side8 => exact HC0_4.out); rintro e w84 ⟨rfl, hb⟩; refine ⟨_, rfl, ?_⟩; have n0_ := Aside0.mk (blk_below (g := gb102) (o := .cells #[.int .i64 a0_0, .slice A0_1 l0_1.length c0_1, .slice A0_2 l0_2.length c0_2, .slice A0_3 l0_3.length c0_3, .slice A0_4 l0_4.length c0_4] 26 (0, 0)) zq126 hb); have n1_ := Aside0.mk (blk_below (g := gb103) (o := .cells #[.int .i64 0, .slice none 0 0, .slice none 0 0, .slice none 0 0, .slice none 0 0, .slice none 0 0] 30 (0, 0)) zq127 hb); have n2_ := Aside0.mk (below_step zq75 hb); clear BK102; clear BK103; clear HB; have BK102 := n0_; have BK103 := n1_; have HB := n2_; clear n0_ n1_ n2_; (try clear hb); (try clear hb2); (try clear hk); (try clear hi); obtain ⟨b85_0, b85_1, b85_2, b85_3, b85_4, b85_5, d85_0, d85_1, d85_2, d85_3, d85_4, d85_5⟩ := bk6 BK103.out))
   refine bodyPost_ret (results_ct rfl _ _ gb103 30 #[.int .i64 0, .slice none 0 0, .slice none 0 0, .slice none 0 0, .slice none 0 0, .slice none 0 0] (0, 0) _ rfl (by (with_reducible repeat (first | refine blk_drewN ?_ _ | refine blk_drew ?_ | refine blk_alloc ?_ _)); refine blk_put (cs := #[.int .i64 0, .slice none 0 0, .slice none 0 0, .slice none 0 0, .slice none 0 0, .slice none 0 0]) ?_ 5 _ rfl; (with_reducible repeat (first | refine blk_drewN ?_ _ | refine blk_drew ?_ | refine blk_alloc ?_ _)); refine blk_put (cs := #[.int .i64 0, .slice none 0 0, .slice none 0 0, .slice none 0 0, .slice none 0 0, .slice none 0 0]) ?_ 4 _ rfl; (with_reducible repeat (first | refine blk_drewN ?_ _ | refine blk_drew ?_ | refine blk_alloc ?_ _)); refine blk_put (cs := #[.int .i64 0, .slice none 0 0, .slice none 0 0, .slice none 0 0, .slice none 0 0, .slice none 0 0]) ?_ 3 _ rfl; (with_reducible repeat (first | refine blk_drewN ?_ _ | refine blk_drew ?_ | refine blk_alloc ?_ _)); refine blk_put (cs := #[.int .i64 0, .slice none 0 0, .slice none 0 0, .slice none 0 0, .slice none 0 0, .slice none 0 0]) ?_ 2 _ rfl; (with_reducible repeat (first | refine blk_drewN ?_ _ | refine blk_drew ?_ | refine blk_alloc ?_ _)); refine blk_put (cs := #[.int .i64 0, .slice none 0 0, .slice none 0 0, .slice none 0 0, .slice none 0 0, .slice none 0 0]) ?_ 1 _ rfl; (with_reducible repeat (first | refine blk_drewN ?_ _ | refine blk_drew ?_ | refine blk_alloc ?_ _)); refine blk_put (cs := #[.int .i64 0, .slice none 0 0, .slice none 0 0, .slice none 0 0, .slice none 0 0, .slice none 0 0]) ?_ 0 _ rfl; (with_reducible repeat (first | refine blk_drewN ?_ _ | refine blk_drew ?_ | refine blk_alloc ?_ _)); exact BK103.out) Try.underlying30 rfl (by kernel_rfl)) rfl ?_
   exact ⟨_, _, _, _, _, zq183, zq122, zq122, zq122, zq122, zq122, zq75⟩
def r2_literals.l0 : Nat → List Int → Int → Int → Option (Bool)
 | 0, _, _, _ => none
 | k + 1, x0, x1, x5 => if x5 < (x0.length : Int) then (if 0 ≤ x5 then (if (rd x0 x5) < 0 then (some false) else (if (wrap64 (Int.tdiv (rd x0 x5) 2)) > x1 then (some false) else (r2_literals.l0 k x0 x1 (wrap64 (x5 + 1))))) else (none)) else (some true)
def r2_literals.f (k : Nat) (l0 : List Int) (a1 : Int) : Option (Bool) := r2_literals.l0 k l0 a1 0
set_option maxHeartbeats 8000000 in
set_option maxRecDepth 100000 in
theorem r2_literals.calls (k : Nat) (A0 : Option Addr) (c0 : Nat) (l0 : List Int) (a1 : Int) (r : Bool) (w : World) (hr0 : Kd.C (Kd.int .i64) w A0 l0.length l0) (hc0 : l0.length ≤ c0) (h : r2_literals.f k l0 a1 = some r) :
 Calls Try.prog 55 #[.slice A0 l0.length c0, .int .i64 a1] w fun e w' => e = .returned (.bool r) ∧ Drawn0 w w' := by
 have HR0 := Aside0.mk hr0
 have HC0 := Aside0.mk hc0
 clear hr0 hc0
 have H : (r2_literals.l0 k l0 a1 0) = some r := h
 clear h
 have H' := Aside0.mk H
 clear H
 go_enter Try.func55, Try.ntmps55
 go_wp2
 go_loopg [5] k (fun kq v5 w' => ∃ (x5_1 : Int), v5 = .int .i64 x5_1 ∧ Aside0 (r2_literals.l0 kq l0 a1 x5_1 = some r) ∧ Aside0 (kq ≤ k) ∧ Drawn0 w w')
 case atStart => exact ⟨(0), zq188, H', ⟨Nat.le_refl _⟩, zq184⟩
 case round =>
  clear H'
  try clear p2
  obtain ⟨x5_1, rfl, HA, HK1, ⟨m1, rfl⟩⟩ := hrel
  cases gk with
  | zero => exact absurd HA.out (by simp [r2_literals.l0])
  | succ k1 =>
   have H := HA.out
   clear HA
   simp only [r2_literals.l0] at H
   by_cases c3 : x5_1 < (l0.length : Int)
   · rw [if_pos c3] at H
     have c3b0 : decide (x5_1 < (l0.length : Int)) = true := decide_eq_true c3
     clear c3
     by_cases c4 : 0 ≤ x5_1
     · rw [if_pos c4] at H
       have c4b0 : decide (0 ≤ x5_1) = true := decide_eq_true c4
       clear c4
       by_cases c5 : (rd l0 x5_1) < 0
       · rw [if_pos c5] at H
         have c5b0 : decide ((rd l0 x5_1) < 0) = true := decide_eq_true c5
         clear c5
         obtain rfl := Option.some.inj H
         have p127 : 0 ≤ (x5_1 : Int) := of_decide_eq_true zq187
         have q127 : x5_1 < (l0.length : Int) := of_decide_eq_true zq187
         obtain ⟨ad127, e127, hx127_0⟩ := Kd.at_int HR0.out x5_1 p127 q127
         cases e127
         replace p127 := eq_true p127
         replace q127 := eq_true q127
         go_wp2
         go_ret
         exact ⟨zq188, zq184⟩
       · rw [if_neg c5] at H
         have c5b0 : decide ((rd l0 x5_1) < 0) = false := decide_eq_false c5
         clear c5
         by_cases c6 : (wrap64 (Int.tdiv (rd l0 x5_1) 2)) > a1
         · rw [if_pos c6] at H
           have c6b0 : decide (a1 < (wrap64 (Int.tdiv (rd l0 x5_1) 2))) = true := decide_eq_true c6
           clear c6
           obtain rfl := Option.some.inj H
           have p127 : 0 ≤ (x5_1 : Int) := of_decide_eq_true zq187
           have q127 : x5_1 < (l0.length : Int) := of_decide_eq_true zq187
           obtain ⟨ad127, e127, hx127_0⟩ := Kd.at_int HR0.out x5_1 p127 q127
           cases e127
           replace p127 := eq_true p127
           replace q127 := eq_true q127
           have p128 : 0 ≤ (x5_1 : Int) := of_decide_eq_true zq187
           have q128 : x5_1 < (l0.length : Int) := of_decide_eq_true zq187
           obtain ⟨ad128, e128, hx128_0⟩ := Kd.at_int HR0.out x5_1 p128 q128
           obtain rfl : ad127 = ad128 := (by injection e128)
           replace p128 := eq_true p128
           replace q128 := eq_true q128
           go_wp2
           go_ret
           exact ⟨zq188, zq184⟩
         · rw [if_neg c6] at H
           have c6b0 : decide (a1 < (wrap64 (Int.tdiv (rd l0 x5_1) 2))) = false := decide_eq_false c6
           clear c6
           have H' := Aside0.mk H
           clear H
           have p127 : 0 ≤ (x5_1 : Int) := of_decide_eq_true zq187
           have q127 : x5_1 < (l0.length : Int) := of_decide_eq_true zq187
           obtain ⟨ad127, e127, hx127_0⟩ := Kd.at_int HR0.out x5_1 p127 q127
           cases e127
           replace p127 := eq_true p127
           replace q127 := eq_true q127
           have p128 : 0 ≤ (x5_1 : Int) := of_decide_eq_true zq187
           have q128 : x5_1 < (l0.length : Int) := of_decide_eq_true zq187
           obtain ⟨ad128, e128, hx128_0⟩ := Kd.at_int HR0.out x5_1 p128 q128
           obtain rfl : ad127 = ad128 := (by injection e128)
           replace p128 := eq_true p128
           replace q128 := eq_true q128
           go_wp2
           go_roundg k1
           case measure => have := HK1.out; omega
           case rel => exact ⟨(wrap64 (x5_1 + 1)), zq188, H', ⟨by have := HK1.out; omega⟩, zq184⟩
     · rw [if_neg c4] at H
       exact absurd H (by simp)
   · rw [if_neg c3] at H
     have c3b0 : decide (x5_1 < (l0.length : Int)) = false := decide_eq_false c3
     clear c3
     obtain rfl := Option.some.inj H
     go_wp2
     go_ret
     exact ⟨zq188, zq184⟩
def r2_Size.f (a0_0 : Int) (l0_1 : List (S61)) (l0_2 : List (S59)) (l0_3 : List Int) (l0_4 : List Int) : Option (Int) := some (wrap64 ((wrap64 (a0_0 + (l0_1.length : Int))) + (l0_2.length : Int)))
set_option maxHeartbeats 8000000 in
set_option maxRecDepth 100000 in
theorem r2_Size.calls (a0_0 : Int) (A0_1 : Option Addr) (c0_1 : Nat) (l0_1 : List (S61)) (A0_2 : Option Addr) (c0_2 : Nat) (l0_2 : List (S59)) (A0_3 : Option Addr) (c0_3 : Nat) (l0_3 : List Int) (A0_4 : Option Addr) (c0_4 : Nat) (l0_4 : List Int) (r : Int) (w : World) (hr0_1 : Kd.C k61 w A0_1 l0_1.length l0_1) (hc0_1 : l0_1.length ≤ c0_1) (hr0_2 : Kd.C k59 w A0_2 l0_2.length l0_2) (hc0_2 : l0_2.length ≤ c0_2) (hr0_3 : Kd.C (Kd.int .i64) w A0_3 l0_3.length l0_3) (hc0_3 : l0_3.length ≤ c0_3) (hr0_4 : Kd.C (Kd.int .i64) w A0_4 l0_4.length l0_4) (hc0_4 : l0_4.length ≤ c0_4) (h : r2_Size.f a0_0 l0_1 l0_2 l0_3 l0_4 = some r) :
 Calls Try.prog 29 #[.agg #[.int .i64 a0_0, .slice A0_1 l0_1.length c0_1, .slice A0_2 l0_2.length c0_2, .slice A0_3 l0_3.length c0_3, .slice A0_4 l0_4.length c0_4]] w fun e w' => e = .returned (.int .i64 r) ∧ Below w.heap.size w w' := by
 have hu26 := Try.underlying26
 have HR0_1 := Aside0.mk hr0_1
 have HC0_1 := Aside0.mk hc0_1
 clear hr0_1 hc0_1
 have HR0_2 := Aside0.mk hr0_2
 have HC0_2 := Aside0.mk hc0_2
 clear hr0_2 hc0_2
 have HR0_3 := Aside0.mk hr0_3
 have HC0_3 := Aside0.mk hc0_3
 clear hr0_3 hc0_3
 have HR0_4 := Aside0.mk hr0_4
 have HC0_4 := Aside0.mk hc0_4
 clear hr0_4 hc0_4
 have HB := Aside0.mk (Below.refl w.heap.size w)
 have H : (some (wrap64 ((wrap64 (a0_0 + (l0_1.length : Int))) + (l0_2.length : Int)))) = some r := h
 clear h
 obtain rfl := Option.some.inj H
 go_enter Try.func29, Try.ntmps29
 go_wp2_with (first | ((with_reducible refine gate_dst (N := 1) rfl ?_); refine box_event ?hg (N := 1) ?hd (cs := #[.int .i64 a0_0, .slice A0_1 l0_1.length c0_1, .slice A0_2 l0_2.length c0_2, .slice A0_3 l0_3.length c0_3, .slice A0_4 l0_4.length c0_4]) (t := 26) ?hr ?_; (case hd => rfl); (case hg => rfl); (case hr => first | (go_simp; done) | (go_simp; rfl)); intro gb126 hg w2 hbox hb; have n0_ := Aside0.mk (below_step zq125 hb); have n1_ := Aside0.mk (hbox); have n2_ := Aside0.mk ((zq110 : w.heap.size ≤ gb126)); have n3_ := Aside0.mk ((zq110 : w.heap.size ≤ gb126)); clear HB; have HB := n0_; have BK126 := n1_; have GW126 := n2_; have GE126 := n3_; clear n0_ n1_ n2_ n3_; clear hb hbox hg; obtain ⟨b3_0, b3_1, b3_2, b3_3, b3_4, d3_0, d3_1, d3_2, d3_3, d3_4⟩ := bk5 BK126.out))
 go_ret
 exact ⟨zq183, by repeat (first | (with_reducible first | exact HB.out | apply below_alloc | apply pw_below_drewN | apply below_drew1 | refine below_set ?_ GE126.out) | exact HB.out)⟩
mutual
def r2_Check.j0 : Nat → Bool → Int → List (S61) → List (S59) → List Int → List Int → Option (Int)
 | 0, _, _, _, _, _, _ => none
 | k + 1, x29, x130000, x130001, x130002, x130003, x130004 => if x29 = true then (some 4) else ((r2_Size.f x130000 x130001 x130002 x130003 x130004).bind fun t131 => ((r2_literals.f k x130003 t131).bind fun t132 => (if t132 = true then ((r2_literals.f k x130004 t131).bind fun t133 => (r2_Check.j1 k t131 (!t133) x130000 x130001 x130002 x130003 x130004)) else (r2_Check.j1 k t131 true x130000 x130001 x130002 x130003 x130004))))
def r2_Check.j1 : Nat → Int → Bool → Int → List (S61) → List (S59) → List Int → List Int → Option (Int)
 | 0, _, _, _, _, _, _, _ => none
 | k + 1, x3, x43, x130000, x130001, x130002, x130003, x130004 => if x43 = true then (some 8) else (r2_Check.l0 k x3 0 x130000 x130001 x130002 x130003 x130004)
def r2_Check.l0 : Nat → Int → Int → Int → List (S61) → List (S59) → List Int → List Int → Option (Int)
 | 0, _, _, _, _, _, _, _ => none
 | k + 1, x3, x4, x130000, x130001, x130002, x130003, x130004 => if x4 < (x130001.length : Int) then (if 0 ≤ x4 then ((r2_literals.f k (([(rd_T61 x130001 x4).f0] : List Int)) x3).bind fun t138 => (if t138 = true then (if ((rd_T61 x130001 x4).f1) < 0 then (some 8) else (if ((rd_T61 x130001 x4).f1) > 2 then (some 8) else (r2_Check.l0 k x3 (wrap64 (x4 + 1)) x130000 x130001 x130002 x130003 x130004))) else (some 8))) else (none)) else (r2_Check.l1 k 0 x130000 x130001 x130002 x130003 x130004)
def r2_Check.l1 : Nat → Int → Int → List (S61) → List (S59) → List Int → List Int → Option (Int)
 | 0, _, _, _, _, _, _ => none
 | k + 1, x5, x130000, x130001, x130002, x130003, x130004 => if x5 < (x130002.length : Int) then (if 0 ≤ x5 then (if ((rd_T59 x130002 x5).f1) < 0 then (some 8) else (if ((rd_T59 x130002 x5).f0) < ((rd_T59 x130002 x5).f1) then (some 8) else (if (wrap64 (Int.tdiv ((rd_T59 x130002 x5).f0) 2)) > (wrap64 ((wrap64 (x130000 + (x130001.length : Int))) + x5)) then (some 8) else (r2_Check.l1 k (wrap64 (x5 + 1)) x130000 x130001 x130002 x130003 x130004)))) else (none)) else (some 0)
end
def r2_Check.f (k : Nat) (a0_0 : Int) (l0_1 : List (S61)) (l0_2 : List (S59)) (l0_3 : List Int) (l0_4 : List Int) : Option (Int) := if a0_0 < 0 then (some 8) else (if a0_0 > 1000 then (r2_Check.j0 k true a0_0 l0_1 l0_2 l0_3 l0_4) else ((r2_Size.f a0_0 l0_1 l0_2 l0_3 l0_4).bind fun t130 => (if t130 > 1000 then (r2_Check.j0 k true a0_0 l0_1 l0_2 l0_3 l0_4) else (if (l0_3.length : Int) > 100 then (r2_Check.j0 k true a0_0 l0_1 l0_2 l0_3 l0_4) else (r2_Check.j0 k (decide ((l0_4.length : Int) > 100)) a0_0 l0_1 l0_2 l0_3 l0_4)))))
set_option maxHeartbeats 8000000 in
set_option maxRecDepth 100000 in
theorem r2_Check.calls (k : Nat) (a0_0 : Int) (A0_1 : Option Addr) (c0_1 : Nat) (l0_1 : List (S61)) (A0_2 : Option Addr) (c0_2 : Nat) (l0_2 : List (S59)) (A0_3 : Option Addr) (c0_3 : Nat) (l0_3 : List Int) (A0_4 : Option Addr) (c0_4 : Nat) (l0_4 : List Int) (r : Int) (w : World) (hr0_1 : Kd.C k61 w A0_1 l0_1.length l0_1) (hc0_1 : l0_1.length ≤ c0_1) (hr0_2 : Kd.C k59 w A0_2 l0_2.length l0_2) (hc0_2 : l0_2.length ≤ c0_2) (hr0_3 : Kd.C (Kd.int .i64) w A0_3 l0_3.length l0_3) (hc0_3 : l0_3.length ≤ c0_3) (hr0_4 : Kd.C (Kd.int .i64) w A0_4 l0_4.length l0_4) (hc0_4 : l0_4.length ≤ c0_4) (h : r2_Check.f k a0_0 l0_1 l0_2 l0_3 l0_4 = some r) :
 Calls Try.prog 28 #[.agg #[.int .i64 a0_0, .slice A0_1 l0_1.length c0_1, .slice A0_2 l0_2.length c0_2, .slice A0_3 l0_3.length c0_3, .slice A0_4 l0_4.length c0_4]] w fun e w' => e = .returned (.int .i64 r) ∧ Below w.heap.size w w' := by
 have hu26 := Try.underlying26
 have hu59 := Try.underlying59
 have HR0_1 := Aside0.mk hr0_1
 have HC0_1 := Aside0.mk hc0_1
 clear hr0_1 hc0_1
 have HR0_2 := Aside0.mk hr0_2
 have HC0_2 := Aside0.mk hc0_2
 clear hr0_2 hc0_2
 have HR0_3 := Aside0.mk hr0_3
 have HC0_3 := Aside0.mk hc0_3
 clear hr0_3 hc0_3
 have HR0_4 := Aside0.mk hr0_4
 have HC0_4 := Aside0.mk hc0_4
 clear hr0_4 hc0_4
 have HB := Aside0.mk (Below.refl w.heap.size w)
 have H : (if a0_0 < 0 then (some 8) else (if a0_0 > 1000 then (r2_Check.j0 k true a0_0 l0_1 l0_2 l0_3 l0_4) else ((r2_Size.f a0_0 l0_1 l0_2 l0_3 l0_4).bind fun t130 => (if t130 > 1000 then (r2_Check.j0 k true a0_0 l0_1 l0_2 l0_3 l0_4) else (if (l0_3.length : Int) > 100 then (r2_Check.j0 k true a0_0 l0_1 l0_2 l0_3 l0_4) else (r2_Check.j0 k (decide ((l0_4.length : Int) > 100)) a0_0 l0_1 l0_2 l0_3 l0_4)))))) = some r := h
 clear h
 by_cases c2 : a0_0 < 0
 · rw [if_pos c2] at H
   have c2b0 : decide (a0_0 < 0) = true := decide_eq_true c2
   clear c2
   obtain rfl := Option.some.inj H
   go_enter Try.func28, Try.ntmps28
   go_wp2_with (first | ((with_reducible refine gate_dst (N := 1) rfl ?_); (try (refine gate_guard (by rfl) ?_; dsimp only)); refine box_event ?hg (N := 1) ?hd (cs := #[.int .i64 a0_0, .slice A0_1 l0_1.length c0_1, .slice A0_2 l0_2.length c0_2, .slice A0_3 l0_3.length c0_3, .slice A0_4 l0_4.length c0_4]) (t := 26) ?hr ?_; (case hd => rfl); (case hg => rfl); (case hr => first | (go_simp; done) | (go_simp; rfl)); intro gb129 hg w3 hbox hb; have n0_ := Aside0.mk (below_step zq125 hb); have n1_ := Aside0.mk (hbox); have n2_ := Aside0.mk ((zq110 : w.heap.size ≤ gb129)); have n3_ := Aside0.mk ((zq110 : w.heap.size ≤ gb129)); clear HB; have HB := n0_; have BK129 := n1_; have GW129 := n2_; have GE129 := n3_; clear n0_ n1_ n2_ n3_; clear hb hbox hg; obtain ⟨b4_0, b4_1, b4_2, b4_3, b4_4, d4_0, d4_1, d4_2, d4_3, d4_4⟩ := bk5 BK129.out))
   go_ret
   exact ⟨zq183, zq113⟩
 · rw [if_neg c2] at H
   have c2b0 : decide (a0_0 < 0) = false := decide_eq_false c2
   clear c2
   have HC5 := Aside0.mk H
   clear H
   go_enter Try.func28, Try.ntmps28
   go_upto_region 3 with (first | ((with_reducible refine gate_dst (N := 1) rfl ?_); (try (refine gate_guard (by rfl) ?_; dsimp only)); refine box_event ?hg (N := 1) ?hd (cs := #[.int .i64 a0_0, .slice A0_1 l0_1.length c0_1, .slice A0_2 l0_2.length c0_2, .slice A0_3 l0_3.length c0_3, .slice A0_4 l0_4.length c0_4]) (t := 26) ?hr ?_; (case hd => rfl); (case hg => rfl); (case hr => first | (go_simp; done) | (go_simp; rfl)); intro gb129 hg w6 hbox hb; have n0_ := Aside0.mk (below_step zq125 hb); have n1_ := Aside0.mk (hbox); have n2_ := Aside0.mk ((zq110 : w.heap.size ≤ gb129)); have n3_ := Aside0.mk ((zq110 : w.heap.size ≤ gb129)); clear HB; have HB := n0_; have BK129 := n1_; have GW129 := n2_; have GE129 := n3_; clear n0_ n1_ n2_ n3_; clear hb hbox hg; obtain ⟨b7_0, b7_1, b7_2, b7_3, b7_4, d7_0, d7_1, d7_2, d7_3, d7_4⟩ := bk5 BK129.out))
   (try simp only [Act.put, List.setIfInBounds_toArray, List.set_cons_zero, List.set_cons_succ])
   go_cut [29] (fun v29 wc => ∃ (kq : Nat) (x29_4 : Bool), v29 = .bool x29_4 ∧ Aside0 (r2_Check.j0 kq x29_4 a0_0 l0_1 l0_2 l0_3 l0_4 = some r) ∧ Aside0 (kq ≤ k) ∧ Aside0 (wc.heap[gb129]? = some (.cells #[.int .i64 a0_0, (.slice A0_1 l0_1.length c0_1), (.slice A0_2 l0_2.length c0_2), (.slice A0_3 l0_3.length c0_3), (.slice A0_4 l0_4.length c0_4)] 26 (0, 0))) ∧ Aside0 (Below w.heap.size w wc))
   case first =>
    have H := HC5.out
    clear HC5
    by_cases c8 : a0_0 > 1000
    · rw [if_pos c8] at H
      have c8b0 : decide (1000 < a0_0) = true := decide_eq_true c8
      clear c8
      (first | rw [c8b0] | (simp only [i64_w, i32_w]; rw [c8b0]) | skip)
      have H' := Aside0.mk H
      clear H
      obtain ⟨b9_0, b9_1, b9_2, b9_3, b9_4, d9_0, d9_1, d9_2, d9_3, d9_4⟩ := bk5 BK129.out
      go_wp2
      go_meet
      case rel => exact ⟨_, (true), zq188, H', ⟨by first | omega | exact Nat.le_refl _⟩, ⟨zq129⟩, ⟨zq113⟩⟩
    · rw [if_neg c8] at H
      have c8b0 : decide (1000 < a0_0) = false := decide_eq_false c8
      clear c8
      (first | rw [c8b0] | (simp only [i64_w, i32_w]; rw [c8b0]) | skip)
      replace H := Option.bind_eq_some_iff.mp H
      obtain ⟨t130, A100, H⟩ := H
      replace H : (if t130 > 1000 then (r2_Check.j0 k true a0_0 l0_1 l0_2 l0_3 l0_4) else (if (l0_3.length : Int) > 100 then (r2_Check.j0 k true a0_0 l0_1 l0_2 l0_3 l0_4) else (r2_Check.j0 k (decide ((l0_4.length : Int) > 100)) a0_0 l0_1 l0_2 l0_3 l0_4))) = some r := H
      have A10 := Aside0.mk A100
      clear A100
      by_cases c11 : t130 > 1000
      · rw [if_pos c11] at H
        have c11b0 : decide (1000 < t130) = true := decide_eq_true c11
        clear c11
        have H' := Aside0.mk H
        clear H
        obtain ⟨b12_0, b12_1, b12_2, b12_3, b12_4, d12_0, d12_1, d12_2, d12_3, d12_4⟩ := bk5 BK129.out
        go_wp2_with (first | (go_at_call 29; (with_reducible refine (r2_Size.calls a0_0 _ _ l0_1 _ _ l0_2 _ _ l0_3 _ _ l0_4 t130 _ ?side1 ?side2 ?side3 ?side4 ?side5 ?side6 ?side7 ?side8 A10.out).mono ?_); (case side1 => exact zq88); (case side2 => exact HC0_1.out); (case side3 => exact zq89); (case side4 => exact HC0_2.out); (case side5 => exact zq90); (case side6 => exact HC0_3.out); (case side7 => exact zq91); (case side8 => exact HC0_4.out); rintro e w13 ⟨rfl, hb⟩; have n0_ := Aside0.mk (blk_below (g := gb129) (o := .cells #[.int .i64 a0_0, .slice A0_1 l0_1.length c0_1, .slice A0_2 l0_2.length c0_2, .slice A0_3 l0_3.length c0_3, .slice A0_4 l0_4.length c0_4] 26 (0, 0)) zq129 hb); have n1_ := Aside0.mk (below_step zq113 hb); clear BK129; clear HB; have BK129 := n0_; have HB := n1_; clear n0_ n1_; (try clear hb); (try clear hb2); (try clear hk); (try clear hi)))
        go_meet
        case rel => exact ⟨_, (true), zq188, H', ⟨by first | omega | exact Nat.le_refl _⟩, ⟨zq129⟩, ⟨zq113⟩⟩
      · rw [if_neg c11] at H
        have c11b0 : decide (1000 < t130) = false := decide_eq_false c11
        clear c11
        by_cases c14 : (l0_3.length : Int) > 100
        · rw [if_pos c14] at H
          have c14b0 : decide (100 < (l0_3.length : Int)) = true := decide_eq_true c14
          have c14b1 : decide (100 < l0_3.length) = true := decide_eq_true (by omega)
          clear c14
          have H' := Aside0.mk H
          clear H
          obtain ⟨b15_0, b15_1, b15_2, b15_3, b15_4, d15_0, d15_1, d15_2, d15_3, d15_4⟩ := bk5 BK129.out
          go_wp2_with (first | (go_at_call 29; (with_reducible refine (r2_Size.calls a0_0 _ _ l0_1 _ _ l0_2 _ _ l0_3 _ _ l0_4 t130 _ ?side1 ?side2 ?side3 ?side4 ?side5 ?side6 ?side7 ?side8 A10.out).mono ?_); (case side1 => exact zq88); (case side2 => exact HC0_1.out); (case side3 => exact zq89); (case side4 => exact HC0_2.out); (case side5 => exact zq90); (case side6 => exact HC0_3.out); (case side7 => exact zq91); (case side8 => exact HC0_4.out); rintro e w16 ⟨rfl, hb⟩; have n0_ := Aside0.mk (blk_below (g := gb129) (o := .cells #[.int .i64 a0_0, .slice A0_1 l0_1.length c0_1, .slice A0_2 l0_2.length c0_2, .slice A0_3 l0_3.length c0_3, .slice A0_4 l0_4.length c0_4] 26 (0, 0)) zq129 hb); have n1_ := Aside0.mk (below_step zq113 hb); clear BK129; clear HB; have BK129 := n0_; have HB := n1_; clear n0_ n1_; (try clear hb); (try clear hb2); (try clear hk); (try clear hi); obtain ⟨b17_0, b17_1, b17_2, b17_3, b17_4, d17_0, d17_1, d17_2, d17_3, d17_4⟩ := bk5 BK129.out))
          go_meet
          case rel => exact ⟨_, (true), zq188, H', ⟨by first | omega | exact Nat.le_refl _⟩, ⟨zq129⟩, ⟨zq113⟩⟩
        · rw [if_neg c14] at H
          have c14b0 : decide (100 < (l0_3.length : Int)) = false := decide_eq_false c14
          have c14b1 : decide (100 < l0_3.length) = false := decide_eq_false (by omega)
          clear c14
          have H' := Aside0.mk H
          clear H
          obtain ⟨b18_0, b18_1, b18_2, b18_3, b18_4, d18_0, d18_1, d18_2, d18_3, d18_4⟩ := bk5 BK129.out
          go_wp2_with (first | (go_at_call 29; (with_reducible refine (r2_Size.calls a0_0 _ _ l0_1 _ _ l0_2 _ _ l0_3 _ _ l0_4 t130 _ ?side1 ?side2 ?side3 ?side4 ?side5 ?side6 ?side7 ?side8 A10.out).mono ?_); (case side1 => exact zq88); (case side2 => exact HC0_1.out); (case side3 => exact zq89); (case side4 => exact HC0_2.out); (case side5 => exact zq90); (case side6 => exact HC0_3.out); (case side7 => exact zq91); (case side8 => exact HC0_4.out); rintro e w19 ⟨rfl, hb⟩; have n0_ := Aside0.mk (blk_below (g := gb129) (o := .cells #[.int .i64 a0_0, .slice A0_1 l0_1.length c0_1, .slice A0_2 l0_2.length c0_2, .slice A0_3 l0_3.length c0_3, .slice A0_4 l0_4.length c0_4] 26 (0, 0)) zq129 hb); have n1_ := Aside0.mk (below_step zq113 hb); clear BK129; clear HB; have BK129 := n0_; have HB := n1_; clear n0_ n1_; (try clear hb); (try clear hb2); (try clear hk); (try clear hi); obtain ⟨b20_0, b20_1, b20_2, b20_3, b20_4, d20_0, d20_1, d20_2, d20_3, d20_4⟩ := bk5 BK129.out))
          go_meet
          case rel => exact ⟨_, (decide ((l0_4.length : Int) > 100)), zq188, H', ⟨by first | omega | exact Nat.le_refl _⟩, ⟨zq129⟩, ⟨zq113⟩⟩
   case rest =>
    clear HC5
    try clear c1
    try clear c2
    try clear c2b0
    try clear p2
    try clear c8
    try clear c8b0
    try clear c11
    try clear c11b0
    try clear c14
    try clear c14b0
    try clear c14b1
    try clear b12_0
    try clear b12_1
    try clear b12_2
    try clear b12_3
    try clear b12_4
    try clear b15_0
    try clear b15_1
    try clear b15_2
    try clear b15_3
    try clear b15_4
    try clear b17_0
    try clear b17_1
    try clear b17_2
    try clear b17_3
    try clear b17_4
    try clear b18_0
    try clear b18_1
    try clear b18_2
    try clear b18_3
    try clear b18_4
    try clear b20_0
    try clear b20_1
    try clear b20_2
    try clear b20_3
    try clear b20_4
    try clear b4_0
    try clear b4_1
    try clear b4_2
    try clear b4_3
    try clear b4_4
    try clear b7_0
    try clear b7_1
    try clear b7_2
    try clear b7_3
    try clear b7_4
    try clear b9_0
    try clear b9_1
    try clear b9_2
    try clear b9_3
    try clear b9_4
    try clear d12_0
    try clear d12_1
    try clear d12_2
    try clear d12_3
    try clear d12_4
    try clear d15_0
    try clear d15_1
    try clear d15_2
    try clear d15_3
    try clear d15_4
    try clear d17_0
    try clear d17_1
    try clear d17_2
    try clear d17_3
    try clear d17_4
    try clear d18_0
    try clear d18_1
    try clear d18_2
    try clear d18_3
    try clear d18_4
    try clear d20_0
    try clear d20_1
    try clear d20_2
    try clear d20_3
    try clear d20_4
    try clear d4_0
    try clear d4_1
    try clear d4_2
    try clear d4_3
    try clear d4_4
    try clear d7_0
    try clear d7_1
    try clear d7_2
    try clear d7_3
    try clear d7_4
    try clear d9_0
    try clear d9_1
    try clear d9_2
    try clear d9_3
    try clear d9_4
    obtain ⟨kq, x29_4, rfl, HA, HJ4, BK129, HB⟩ := hcut
    cases kq with
    | zero => exact absurd HA.out (by simp [r2_Check.j0])
    | succ kj4 =>
     have H := HA.out
     clear HA
     simp only [r2_Check.j0] at H
     by_cases c21 : x29_4 = true
     · subst c21
       have H1 : (some 4) = some r := by rw [if_pos rfl] at H; exact H
       clear H
       have H := H1
       clear H1
       obtain rfl := Option.some.inj H
       go_wp2
       go_ret
       exact ⟨zq183, zq113⟩
     · replace c21 := Bool.eq_false_iff.mpr c21
       subst c21
       have H1 : ((r2_Size.f a0_0 l0_1 l0_2 l0_3 l0_4).bind fun t131 => ((r2_literals.f kj4 l0_3 t131).bind fun t132 => (if t132 = true then ((r2_literals.f kj4 l0_4 t131).bind fun t133 => (r2_Check.j1 kj4 t131 (!t133) a0_0 l0_1 l0_2 l0_3 l0_4)) else (r2_Check.j1 kj4 t131 true a0_0 l0_1 l0_2 l0_3 l0_4)))) = some r := by rw [if_neg (show ¬ (false = true) by decide)] at H; exact H
       clear H
       have H := H1
       clear H1
       replace H := Option.bind_eq_some_iff.mp H
       obtain ⟨t131, A220, H⟩ := H
       replace H : ((r2_literals.f kj4 l0_3 t131).bind fun t132 => (if t132 = true then ((r2_literals.f kj4 l0_4 t131).bind fun t133 => (r2_Check.j1 kj4 t131 (!t133) a0_0 l0_1 l0_2 l0_3 l0_4)) else (r2_Check.j1 kj4 t131 true a0_0 l0_1 l0_2 l0_3 l0_4))) = some r := H
       have A22 := Aside0.mk A220
       clear A220
       have HC23 := Aside0.mk H
       clear H
       obtain ⟨b24_0, b24_1, b24_2, b24_3, b24_4, d24_0, d24_1, d24_2, d24_3, d24_4⟩ := bk5 BK129.out
       go_upto_region 6 with (first | ((with_reducible refine gate_callee (f := 29) rfl ?_); refine goesL_ (some 31) rfl rfl Try.func29 (by kernel_rfl) rfl #[.agg #[.int .i64 a0_0, .slice A0_1 l0_1.length c0_1, .slice A0_2 l0_2.length c0_2, .slice A0_3 l0_3.length c0_3, .slice A0_4 l0_4.length c0_4]] rfl zq123 ?_; (with_reducible refine (r2_Size.calls a0_0 _ _ l0_1 _ _ l0_2 _ _ l0_3 _ _ l0_4 t131 _ ?side1 ?side2 ?side3 ?side4 ?side5 ?side6 ?side7 ?side8 A22.out).mono ?_); (case side1 => exact zq88); (case side2 => exact HC0_1.out); (case side3 => exact zq89); (case side4 => exact HC0_2.out); (case side5 => exact zq90); (case side6 => exact HC0_3.out); (case side7 => exact zq91); (case side8 => exact HC0_4.out); rintro e w25 ⟨rfl, hb⟩; refine ⟨_, rfl, ?_⟩; have n0_ := Aside0.mk (blk_below (g := gb129) (o := .cells #[.int .i64 a0_0, .slice A0_1 l0_1.length c0_1, .slice A0_2 l0_2.length c0_2, .slice A0_3 l0_3.length c0_3, .slice A0_4 l0_4.length c0_4] 26 (0, 0)) zq129 hb); have n1_ := Aside0.mk (below_step zq113 hb); clear BK129; clear HB; have BK129 := n0_; have HB := n1_; clear n0_ n1_; (try clear hb); (try clear hb2); (try clear hk); (try clear hi)))
       (try simp only [Act.put, List.setIfInBounds_toArray, List.set_cons_zero, List.set_cons_succ])
       go_cut [43] (fun v43 wc => ∃ (kq : Nat) (x43_22 : Bool), v43 = .bool x43_22 ∧ Aside0 (r2_Check.j1 kq t131 x43_22 a0_0 l0_1 l0_2 l0_3 l0_4 = some r) ∧ Aside0 (kq ≤ kj4) ∧ Aside0 (wc.heap[gb129]? = some (.cells #[.int .i64 a0_0, (.slice A0_1 l0_1.length c0_1), (.slice A0_2 l0_2.length c0_2), (.slice A0_3 l0_3.length c0_3), (.slice A0_4 l0_4.length c0_4)] 26 (0, 0))) ∧ Aside0 (Below w.heap.size w wc))
       case first =>
        have H := HC23.out
        clear HC23
        replace H := Option.bind_eq_some_iff.mp H
        obtain ⟨t132, A260, H⟩ := H
        replace H : (if t132 = true then ((r2_literals.f kj4 l0_4 t131).bind fun t133 => (r2_Check.j1 kj4 t131 (!t133) a0_0 l0_1 l0_2 l0_3 l0_4)) else (r2_Check.j1 kj4 t131 true a0_0 l0_1 l0_2 l0_3 l0_4)) = some r := H
        have A26 := Aside0.mk A260
        clear A260
        by_cases c27 : t132 = true
        · subst c27
          have H1 : ((r2_literals.f kj4 l0_4 t131).bind fun t133 => (r2_Check.j1 kj4 t131 (!t133) a0_0 l0_1 l0_2 l0_3 l0_4)) = some r := by rw [if_pos rfl] at H; exact H
          clear H
          have H := H1
          clear H1
          replace H := Option.bind_eq_some_iff.mp H
          obtain ⟨t133, A280, H⟩ := H
          replace H : (r2_Check.j1 kj4 t131 (!t133) a0_0 l0_1 l0_2 l0_3 l0_4) = some r := H
          have A28 := Aside0.mk A280
          clear A280
          have H' := Aside0.mk H
          clear H
          obtain ⟨b29_0, b29_1, b29_2, b29_3, b29_4, d29_0, d29_1, d29_2, d29_3, d29_4⟩ := bk5 BK129.out
          go_wp2_with (first | ((with_reducible refine gate_callee (f := 55) rfl ?_); refine goesL_ (some 35) rfl rfl Try.func55 (by kernel_rfl) rfl #[.slice A0_3 l0_3.length c0_3, .int .i64 t131] rfl zq123 ?_; (with_reducible refine (r2_literals.calls kj4 _ _ l0_3 t131 true _ ?side1 ?side2 A26.out).mono ?_); (case side1 => exact zq90); (case side2 => exact HC0_3.out); rintro e w' ⟨rfl, ⟨nd, rfl⟩⟩; refine ⟨_, rfl, ?_⟩) | (go_at_call 55; (with_reducible refine (r2_literals.calls kj4 _ _ l0_4 t131 t133 _ ?side1 ?side2 A28.out).mono ?_); (case side1 => repeat (first | exact (Kd.C_below HR0_4.out zq113) | (with_reducible refine Kd.C_alloc ?_ _) | (with_reducible refine Kd.C_drewN ?_ _) | (with_reducible refine Kd.C_drew ?_))); (case side2 => exact HC0_4.out); rintro e w' ⟨rfl, ⟨nd, rfl⟩⟩))
          go_meet
          case rel => exact ⟨_, (!t133), zq188, H', ⟨by have := HJ4.out; first | omega | exact Nat.le_refl _⟩, ⟨zq129⟩, ⟨zq113⟩⟩
        · replace c27 := Bool.eq_false_iff.mpr c27
          subst c27
          have H1 : (r2_Check.j1 kj4 t131 true a0_0 l0_1 l0_2 l0_3 l0_4) = some r := by rw [if_neg (show ¬ (false = true) by decide)] at H; exact H
          clear H
          have H := H1
          clear H1
          have H' := Aside0.mk H
          clear H
          obtain ⟨b30_0, b30_1, b30_2, b30_3, b30_4, d30_0, d30_1, d30_2, d30_3, d30_4⟩ := bk5 BK129.out
          go_wp2_with (first | ((with_reducible refine gate_callee (f := 55) rfl ?_); refine goesL_ (some 35) rfl rfl Try.func55 (by kernel_rfl) rfl #[.slice A0_3 l0_3.length c0_3, .int .i64 t131] rfl zq123 ?_; (with_reducible refine (r2_literals.calls kj4 _ _ l0_3 t131 false _ ?side1 ?side2 A26.out).mono ?_); (case side1 => exact zq90); (case side2 => exact HC0_3.out); rintro e w' ⟨rfl, ⟨nd, rfl⟩⟩; refine ⟨_, rfl, ?_⟩))
          go_meet
          case rel => exact ⟨_, (true), zq188, H', ⟨by have := HJ4.out; first | omega | exact Nat.le_refl _⟩, ⟨zq129⟩, ⟨zq113⟩⟩
       case rest =>
        clear HC23
        try clear c1
        try clear c2
        try clear c2b0
        try clear p2
        try clear c5
        try clear c8
        try clear c8b0
        try clear c11
        try clear c11b0
        try clear c14
        try clear c14b0
        try clear c14b1
        try clear c21
        try clear c27
        try clear c28
        try clear c29
        try clear b12_0
        try clear b12_1
        try clear b12_2
        try clear b12_3
        try clear b12_4
        try clear b15_0
        try clear b15_1
        try clear b15_2
        try clear b15_3
        try clear b15_4
        try clear b17_0
        try clear b17_1
        try clear b17_2
        try clear b17_3
        try clear b17_4
        try clear b18_0
        try clear b18_1
        try clear b18_2
        try clear b18_3
        try clear b18_4
        try clear b20_0
        try clear b20_1
        try clear b20_2
        try clear b20_3
        try clear b20_4
        try clear b24_0
        try clear b24_1
        try clear b24_2
        try clear b24_3
        try clear b24_4
        try clear b29_0
        try clear b29_1
        try clear b29_2
        try clear b29_3
        try clear b29_4
        try clear b30_0
        try clear b30_1
        try clear b30_2
        try clear b30_3
        try clear b30_4
        try clear b4_0
        try clear b4_1
        try clear b4_2
        try clear b4_3
        try clear b4_4
        try clear b7_0
        try clear b7_1
        try clear b7_2
        try clear b7_3
        try clear b7_4
        try clear b9_0
        try clear b9_1
        try clear b9_2
        try clear b9_3
        try clear b9_4
        try clear d12_0
        try clear d12_1
        try clear d12_2
        try clear d12_3
        try clear d12_4
        try clear d15_0
        try clear d15_1
        try clear d15_2
        try clear d15_3
        try clear d15_4
        try clear d17_0
        try clear d17_1
        try clear d17_2
        try clear d17_3
        try clear d17_4
        try clear d18_0
        try clear d18_1
        try clear d18_2
        try clear d18_3
        try clear d18_4
        try clear d20_0
        try clear d20_1
        try clear d20_2
        try clear d20_3
        try clear d20_4
        try clear d24_0
        try clear d24_1
        try clear d24_2
        try clear d24_3
        try clear d24_4
        try clear d29_0
        try clear d29_1
        try clear d29_2
        try clear d29_3
        try clear d29_4
        try clear d30_0
        try clear d30_1
        try clear d30_2
        try clear d30_3
        try clear d30_4
        try clear d4_0
        try clear d4_1
        try clear d4_2
        try clear d4_3
        try clear d4_4
        try clear d7_0
        try clear d7_1
        try clear d7_2
        try clear d7_3
        try clear d7_4
        try clear d9_0
        try clear d9_1
        try clear d9_2
        try clear d9_3
        try clear d9_4
        try clear p2
        obtain ⟨kq, x43_22, rfl, HA, HJ22, BK129, HB⟩ := hcut
        cases kq with
        | zero => exact absurd HA.out (by simp [r2_Check.j1])
        | succ kj22 =>
         have H := HA.out
         clear HA
         simp only [r2_Check.j1] at H
         by_cases c31 : x43_22 = true
         · subst c31
           have H1 : (some 8) = some r := by rw [if_pos rfl] at H; exact H
           clear H
           have H := H1
           clear H1
           obtain rfl := Option.some.inj H
           go_wp2
           go_ret
           exact ⟨zq183, zq113⟩
         · replace c31 := Bool.eq_false_iff.mpr c31
           subst c31
           have H1 : (r2_Check.l0 kj22 t131 0 a0_0 l0_1 l0_2 l0_3 l0_4) = some r := by rw [if_neg (show ¬ (false = true) by decide)] at H; exact H
           clear H
           have H := H1
           clear H1
           have H' := Aside0.mk H
           clear H
           go_wp2
           go_loopg [4] kj22 (fun kq v4 w' => ∃ (x4_3 : Int), v4 = .int .i64 x4_3 ∧ Aside0 (r2_Check.l0 kq t131 x4_3 a0_0 l0_1 l0_2 l0_3 l0_4 = some r) ∧ Aside0 (kq ≤ kj22) ∧ Aside0 (w'.heap[gb129]? = some (.cells #[.int .i64 a0_0, (.slice A0_1 l0_1.length c0_1), (.slice A0_2 l0_2.length c0_2), (.slice A0_3 l0_3.length c0_3), (.slice A0_4 l0_4.length c0_4)] 26 (0, 0))) ∧ Aside0 (Below w.heap.size w w'))
           case atStart => exact ⟨(0), zq188, H', ⟨Nat.le_refl _⟩, ⟨zq129⟩, ⟨zq113⟩⟩
           case round =>
            clear H'
            try clear c1
            try clear c2
            try clear c2b0
            try clear p2
            try clear c3
            try clear c5
            try clear c8
            try clear c8b0
            try clear c11
            try clear c11b0
            try clear c14
            try clear c14b0
            try clear c14b1
            try clear c21
            try clear c27
            try clear c28
            try clear c29
            try clear c31
            try clear b12_0
            try clear b12_1
            try clear b12_2
            try clear b12_3
            try clear b12_4
            try clear b15_0
            try clear b15_1
            try clear b15_2
            try clear b15_3
            try clear b15_4
            try clear b17_0
            try clear b17_1
            try clear b17_2
            try clear b17_3
            try clear b17_4
            try clear b18_0
            try clear b18_1
            try clear b18_2
            try clear b18_3
            try clear b18_4
            try clear b20_0
            try clear b20_1
            try clear b20_2
            try clear b20_3
            try clear b20_4
            try clear b24_0
            try clear b24_1
            try clear b24_2
            try clear b24_3
            try clear b24_4
            try clear b29_0
            try clear b29_1
            try clear b29_2
            try clear b29_3
            try clear b29_4
            try clear b30_0
            try clear b30_1
            try clear b30_2
            try clear b30_3
            try clear b30_4
            try clear b4_0
            try clear b4_1
            try clear b4_2
            try clear b4_3
            try clear b4_4
            try clear b7_0
            try clear b7_1
            try clear b7_2
            try clear b7_3
            try clear b7_4
            try clear b9_0
            try clear b9_1
            try clear b9_2
            try clear b9_3
            try clear b9_4
            try clear d12_0
            try clear d12_1
            try clear d12_2
            try clear d12_3
            try clear d12_4
            try clear d15_0
            try clear d15_1
            try clear d15_2
            try clear d15_3
            try clear d15_4
            try clear d17_0
            try clear d17_1
            try clear d17_2
            try clear d17_3
            try clear d17_4
            try clear d18_0
            try clear d18_1
            try clear d18_2
            try clear d18_3
            try clear d18_4
            try clear d20_0
            try clear d20_1
            try clear d20_2
            try clear d20_3
            try clear d20_4
            try clear d24_0
            try clear d24_1
            try clear d24_2
            try clear d24_3
            try clear d24_4
            try clear d29_0
            try clear d29_1
            try clear d29_2
            try clear d29_3
            try clear d29_4
            try clear d30_0
            try clear d30_1
            try clear d30_2
            try clear d30_3
            try clear d30_4
            try clear d4_0
            try clear d4_1
            try clear d4_2
            try clear d4_3
            try clear d4_4
            try clear d7_0
            try clear d7_1
            try clear d7_2
            try clear d7_3
            try clear d7_4
            try clear d9_0
            try clear d9_1
            try clear d9_2
            try clear d9_3
            try clear d9_4
            try clear p2
            obtain ⟨x4_3, rfl, HA, HK3, BK129, HB⟩ := hrel
            cases gk with
            | zero => exact absurd HA.out (by simp [r2_Check.l0])
            | succ k3 =>
             have H := HA.out
             clear HA
             simp only [r2_Check.l0] at H
             by_cases c32 : x4_3 < (l0_1.length : Int)
             · rw [if_pos c32] at H
               have c32b0 : decide (x4_3 < (l0_1.length : Int)) = true := decide_eq_true c32
               clear c32
               by_cases c33 : 0 ≤ x4_3
               · rw [if_pos c33] at H
                 have c33b0 : decide (0 ≤ x4_3) = true := decide_eq_true c33
                 clear c33
                 obtain ⟨y135, hy135⟩ : ∃ y_ : List Int, y_ = (([(rd_T61 l0_1 x4_3).f0] : List Int)) := ⟨_, rfl⟩
                 replace H : ((r2_literals.f k3 y135 t131).bind fun t138 => (if t138 = true then (if ((rd_T61 l0_1 x4_3).f1) < 0 then (some 8) else (if ((rd_T61 l0_1 x4_3).f1) > 2 then (some 8) else (r2_Check.l0 k3 t131 (wrap64 (x4_3 + 1)) a0_0 l0_1 l0_2 l0_3 l0_4))) else (some 8))) = some r := by first | (rw [hy135]; with_reducible exact H) | (have H2_ := (Option.bind_some _ _).symm.trans H; rw [hy135]; with_reducible exact H2_) | (have H2_ := (Option.bind_some _ _).symm.trans H; with_reducible exact H2_) | with_reducible exact H | (rw [hy135]; exact H) | exact H
                 have Ny135 := Aside0.mk hy135
                 clear hy135
                 replace H := Option.bind_eq_some_iff.mp H
                 obtain ⟨t138, A340, H⟩ := H
                 replace H : (if t138 = true then (if ((rd_T61 l0_1 x4_3).f1) < 0 then (some 8) else (if ((rd_T61 l0_1 x4_3).f1) > 2 then (some 8) else (r2_Check.l0 k3 t131 (wrap64 (x4_3 + 1)) a0_0 l0_1 l0_2 l0_3 l0_4))) else (some 8)) = some r := H
                 have A34 := Aside0.mk A340
                 clear A340
                 by_cases c35 : t138 = true
                 · subst c35
                   have H1 : (if ((rd_T61 l0_1 x4_3).f1) < 0 then (some 8) else (if ((rd_T61 l0_1 x4_3).f1) > 2 then (some 8) else (r2_Check.l0 k3 t131 (wrap64 (x4_3 + 1)) a0_0 l0_1 l0_2 l0_3 l0_4))) = some r := by rw [if_pos rfl] at H; exact H
                   clear H
                   have H := H1
                   clear H1
                   by_cases c36 : ((rd_T61 l0_1 x4_3).f1) < 0
                   · rw [if_pos c36] at H
                     have c36b0 : decide (((rd_T61 l0_1 x4_3).f1) < 0) = true := decide_eq_true c36
                     clear c36
                     obtain rfl := Option.some.inj H
                     obtain ⟨b37_0, b37_1, b37_2, b37_3, b37_4, d37_0, d37_1, d37_2, d37_3, d37_4⟩ := bk5 BK129.out
                     have p134 : 0 ≤ (x4_3 : Int) := of_decide_eq_true zq187
                     have q134 : x4_3 < (l0_1.length : Int) := of_decide_eq_true zq187
                     obtain ⟨ad134, e134, hx134_0, hx134_1⟩ := at_T61 HR0_1.out x4_3 p134 q134
                     cases e134
                     replace hx134_0 := (HB.out.cell (World.block_lt_of_cell? w _ hx134_0)).trans hx134_0
                     replace hx134_1 := (HB.out.cell (World.block_lt_of_cell? w _ hx134_1)).trans hx134_1
                     replace p134 := eq_true p134
                     replace q134 := eq_true q134
                     go_wp2_with (first | ((with_reducible refine gate_dst (N := 57) rfl ?_); (try (refine gate_guard (by rfl) ?_; dsimp only)); refine Kd.R_lit (Kd.int .i64) _ 3 ?hg (N := 57) ?hd (xs := ([(rd_T61 l0_1 x4_3).f0] : List Int)) (inner := [.int .i64 ((rd_T61 l0_1 x4_3).f0)]) (ok := fun _ => True) (okp := fun _ => True) ?hr ?hp (fun _ hk => hk) trivial (Below.refl _ _) (Nat.le_refl _) (by simp) ?_; (case hd => rfl); (case hg => rfl); (case hr => first | (go_simp; done) | (go_simp; rfl)); (case hp => exact zq124); intro v136 w38 ho39 hb hg_ hnew_; clear hg_ hnew_; (first | rw [← Ny135.out] at ho39 | (simp only [Int.reduceToNat] at ho39; rw [← Ny135.out] at ho39)); have n0_ := Aside0.mk (Kd.R_lower ho39 (below_size zq113)); have n1_ := Aside0.mk (blk_below (g := gb129) (o := .cells #[.int .i64 a0_0, .slice (some ad134) l0_1.length c0_1, .slice A0_2 l0_2.length c0_2, .slice A0_3 l0_3.length c0_3, .slice A0_4 l0_4.length c0_4] 26 (0, 0)) zq129 hb); have n2_ := Aside0.mk (below_step zq113 hb); clear BK129; clear HB; have HO137 := n0_; have BK129 := n1_; have HB := n2_; clear n0_ n1_ n2_; clear hb ho39; obtain ⟨Ao40, co40, eo40⟩ := Kd.R_slice HO137.out; subst eo40) | ((with_reducible refine gate_callee (f := 55) rfl ?_); refine goesL_ (some 59) rfl rfl Try.func55 (by kernel_rfl) rfl #[.slice Ao40 y135.length co40, .int .i64 t131] rfl zq123 ?_; (with_reducible refine (r2_literals.calls k3 _ _ y135 t131 true _ ?side1 ?side2 A34.out).mono ?_); (case side1 => exact zq93); (case side2 => exact (Kd.R_reads' HO137.out).2.1); rintro e w' ⟨rfl, ⟨nd, rfl⟩⟩; refine ⟨_, rfl, ?_⟩; obtain ⟨b41_0, b41_1, b41_2, b41_3, b41_4, d41_0, d41_1, d41_2, d41_3, d41_4⟩ := bk5 BK129.out; have p139 : 0 ≤ (x4_3 : Int) := of_decide_eq_true zq187; have q139 : x4_3 < (l0_1.length : Int) := of_decide_eq_true zq187; obtain ⟨ad139, e139, hx139_0, hx139_1⟩ := at_T61 HR0_1.out x4_3 p139 q139; obtain rfl : ad134 = ad139 := (by injection e139); replace hx139_0 := (HB.out.cell (World.block_lt_of_cell? w _ hx139_0)).trans hx139_0; replace hx139_1 := (HB.out.cell (World.block_lt_of_cell? w _ hx139_1)).trans hx139_1; replace p139 := eq_true p139; replace q139 := eq_true q139))
                     go_ret
                     exact ⟨zq183, zq113⟩
                   · rw [if_neg c36] at H
                     have c36b0 : decide (((rd_T61 l0_1 x4_3).f1) < 0) = false := decide_eq_false c36
                     clear c36
                     by_cases c42 : ((rd_T61 l0_1 x4_3).f1) > 2
                     · rw [if_pos c42] at H
                       have c42b0 : decide (2 < ((rd_T61 l0_1 x4_3).f1)) = true := decide_eq_true c42
                       clear c42
                       obtain rfl := Option.some.inj H
                       obtain ⟨b43_0, b43_1, b43_2, b43_3, b43_4, d43_0, d43_1, d43_2, d43_3, d43_4⟩ := bk5 BK129.out
                       have p134 : 0 ≤ (x4_3 : Int) := of_decide_eq_true zq187
                       have q134 : x4_3 < (l0_1.length : Int) := of_decide_eq_true zq187
                       obtain ⟨ad134, e134, hx134_0, hx134_1⟩ := at_T61 HR0_1.out x4_3 p134 q134
                       cases e134
                       replace hx134_0 := (HB.out.cell (World.block_lt_of_cell? w _ hx134_0)).trans hx134_0
                       replace hx134_1 := (HB.out.cell (World.block_lt_of_cell? w _ hx134_1)).trans hx134_1
                       replace p134 := eq_true p134
                       replace q134 := eq_true q134
                       go_wp2_with (first | ((with_reducible refine gate_dst (N := 57) rfl ?_); (try (refine gate_guard (by rfl) ?_; dsimp only)); refine Kd.R_lit (Kd.int .i64) _ 3 ?hg (N := 57) ?hd (xs := ([(rd_T61 l0_1 x4_3).f0] : List Int)) (inner := [.int .i64 ((rd_T61 l0_1 x4_3).f0)]) (ok := fun _ => True) (okp := fun _ => True) ?hr ?hp (fun _ hk => hk) trivial (Below.refl _ _) (Nat.le_refl _) (by simp) ?_; (case hd => rfl); (case hg => rfl); (case hr => first | (go_simp; done) | (go_simp; rfl)); (case hp => exact zq124); intro v136 w44 ho45 hb hg_ hnew_; clear hg_ hnew_; (first | rw [← Ny135.out] at ho45 | (simp only [Int.reduceToNat] at ho45; rw [← Ny135.out] at ho45)); have n0_ := Aside0.mk (Kd.R_lower ho45 (below_size zq113)); have n1_ := Aside0.mk (blk_below (g := gb129) (o := .cells #[.int .i64 a0_0, .slice (some ad134) l0_1.length c0_1, .slice A0_2 l0_2.length c0_2, .slice A0_3 l0_3.length c0_3, .slice A0_4 l0_4.length c0_4] 26 (0, 0)) zq129 hb); have n2_ := Aside0.mk (below_step zq113 hb); clear BK129; clear HB; have HO137 := n0_; have BK129 := n1_; have HB := n2_; clear n0_ n1_ n2_; clear hb ho45; obtain ⟨Ao46, co46, eo46⟩ := Kd.R_slice HO137.out; subst eo46) | ((with_reducible refine gate_callee (f := 55) rfl ?_); refine goesL_ (some 59) rfl rfl Try.func55 (by kernel_rfl) rfl #[.slice Ao46 y135.length co46, .int .i64 t131] rfl zq123 ?_; (with_reducible refine (r2_literals.calls k3 _ _ y135 t131 true _ ?side1 ?side2 A34.out).mono ?_); (case side1 => exact zq93); (case side2 => exact (Kd.R_reads' HO137.out).2.1); rintro e w' ⟨rfl, ⟨nd, rfl⟩⟩; refine ⟨_, rfl, ?_⟩; obtain ⟨b47_0, b47_1, b47_2, b47_3, b47_4, d47_0, d47_1, d47_2, d47_3, d47_4⟩ := bk5 BK129.out; have p139 : 0 ≤ (x4_3 : Int) := of_decide_eq_true zq187; have q139 : x4_3 < (l0_1.length : Int) := of_decide_eq_true zq187; obtain ⟨ad139, e139, hx139_0, hx139_1⟩ := at_T61 HR0_1.out x4_3 p139 q139; obtain rfl : ad134 = ad139 := (by injection e139); replace hx139_0 := (HB.out.cell (World.block_lt_of_cell? w _ hx139_0)).trans hx139_0; replace hx139_1 := (HB.out.cell (World.block_lt_of_cell? w _ hx139_1)).trans hx139_1; replace p139 := eq_true p139; replace q139 := eq_true q139; have p140 : 0 ≤ (x4_3 : Int) := of_decide_eq_true zq187; have q140 : x4_3 < (l0_1.length : Int) := of_decide_eq_true zq187; obtain ⟨ad140, e140, hx140_0, hx140_1⟩ := at_T61 HR0_1.out x4_3 p140 q140; obtain rfl : ad134 = ad140 := (by injection e140); replace hx140_0 := (HB.out.cell (World.block_lt_of_cell? w _ hx140_0)).trans hx140_0; replace hx140_1 := (HB.out.cell (World.block_lt_of_cell? w _ hx140_1)).trans hx140_1; replace p140 := eq_true p140; replace q140 := eq_true q140))
                       go_ret
                       exact ⟨zq183, zq113⟩
                     · rw [if_neg c42] at H
                       have c42b0 : decide (2 < ((rd_T61 l0_1 x4_3).f1)) = false := decide_eq_false c42
                       clear c42
                       have H' := Aside0.mk H
                       clear H
                       obtain ⟨b48_0, b48_1, b48_2, b48_3, b48_4, d48_0, d48_1, d48_2, d48_3, d48_4⟩ := bk5 BK129.out
                       have p134 : 0 ≤ (x4_3 : Int) := of_decide_eq_true zq187
                       have q134 : x4_3 < (l0_1.length : Int) := of_decide_eq_true zq187
                       obtain ⟨ad134, e134, hx134_0, hx134_1⟩ := at_T61 HR0_1.out x4_3 p134 q134
                       cases e134
                       replace hx134_0 := (HB.out.cell (World.block_lt_of_cell? w _ hx134_0)).trans hx134_0
                       replace hx134_1 := (HB.out.cell (World.block_lt_of_cell? w _ hx134_1)).trans hx134_1
                       replace p134 := eq_true p134
                       replace q134 := eq_true q134
                       go_wp2_with (first | ((with_reducible refine gate_dst (N := 57) rfl ?_); (try (refine gate_guard (by rfl) ?_; dsimp only)); refine Kd.R_lit (Kd.int .i64) _ 3 ?hg (N := 57) ?hd (xs := ([(rd_T61 l0_1 x4_3).f0] : List Int)) (inner := [.int .i64 ((rd_T61 l0_1 x4_3).f0)]) (ok := fun _ => True) (okp := fun _ => True) ?hr ?hp (fun _ hk => hk) trivial (Below.refl _ _) (Nat.le_refl _) (by simp) ?_; (case hd => rfl); (case hg => rfl); (case hr => first | (go_simp; done) | (go_simp; rfl)); (case hp => exact zq124); intro v136 w49 ho50 hb hg_ hnew_; clear hg_ hnew_; (first | rw [← Ny135.out] at ho50 | (simp only [Int.reduceToNat] at ho50; rw [← Ny135.out] at ho50)); have n0_ := Aside0.mk (Kd.R_lower ho50 (below_size zq113)); have n1_ := Aside0.mk (blk_below (g := gb129) (o := .cells #[.int .i64 a0_0, .slice (some ad134) l0_1.length c0_1, .slice A0_2 l0_2.length c0_2, .slice A0_3 l0_3.length c0_3, .slice A0_4 l0_4.length c0_4] 26 (0, 0)) zq129 hb); have n2_ := Aside0.mk (below_step zq113 hb); clear BK129; clear HB; have HO137 := n0_; have BK129 := n1_; have HB := n2_; clear n0_ n1_ n2_; clear hb ho50; obtain ⟨Ao51, co51, eo51⟩ := Kd.R_slice HO137.out; subst eo51) | ((with_reducible refine gate_callee (f := 55) rfl ?_); refine goesL_ (some 59) rfl rfl Try.func55 (by kernel_rfl) rfl #[.slice Ao51 y135.length co51, .int .i64 t131] rfl zq123 ?_; (with_reducible refine (r2_literals.calls k3 _ _ y135 t131 true _ ?side1 ?side2 A34.out).mono ?_); (case side1 => exact zq93); (case side2 => exact (Kd.R_reads' HO137.out).2.1); rintro e w' ⟨rfl, ⟨nd, rfl⟩⟩; refine ⟨_, rfl, ?_⟩; obtain ⟨b52_0, b52_1, b52_2, b52_3, b52_4, d52_0, d52_1, d52_2, d52_3, d52_4⟩ := bk5 BK129.out; have p139 : 0 ≤ (x4_3 : Int) := of_decide_eq_true zq187; have q139 : x4_3 < (l0_1.length : Int) := of_decide_eq_true zq187; obtain ⟨ad139, e139, hx139_0, hx139_1⟩ := at_T61 HR0_1.out x4_3 p139 q139; obtain rfl : ad134 = ad139 := (by injection e139); replace hx139_0 := (HB.out.cell (World.block_lt_of_cell? w _ hx139_0)).trans hx139_0; replace hx139_1 := (HB.out.cell (World.block_lt_of_cell? w _ hx139_1)).trans hx139_1; replace p139 := eq_true p139; replace q139 := eq_true q139; have p140 : 0 ≤ (x4_3 : Int) := of_decide_eq_true zq187; have q140 : x4_3 < (l0_1.length : Int) := of_decide_eq_true zq187; obtain ⟨ad140, e140, hx140_0, hx140_1⟩ := at_T61 HR0_1.out x4_3 p140 q140; obtain rfl : ad134 = ad140 := (by injection e140); replace hx140_0 := (HB.out.cell (World.block_lt_of_cell? w _ hx140_0)).trans hx140_0; replace hx140_1 := (HB.out.cell (World.block_lt_of_cell? w _ hx140_1)).trans hx140_1; replace p140 := eq_true p140; replace q140 := eq_true q140))
                       go_roundg k3
                       case measure => have := HJ4.out; have := HJ22.out; have := HK3.out; omega
                       case rel => exact ⟨(wrap64 (x4_3 + 1)), zq188, H', ⟨by have := HJ4.out; have := HJ22.out; have := HK3.out; omega⟩, ⟨zq129⟩, ⟨zq113⟩⟩
                 · replace c35 := Bool.eq_false_iff.mpr c35
                   subst c35
                   have H1 : (some 8) = some r := by rw [if_neg (show ¬ (false = true) by decide)] at H; exact H
                   clear H
                   have H := H1
                   clear H1
                   obtain rfl := Option.some.inj H
                   obtain ⟨b53_0, b53_1, b53_2, b53_3, b53_4, d53_0, d53_1, d53_2, d53_3, d53_4⟩ := bk5 BK129.out
                   have p134 : 0 ≤ (x4_3 : Int) := of_decide_eq_true zq187
                   have q134 : x4_3 < (l0_1.length : Int) := of_decide_eq_true zq187
                   obtain ⟨ad134, e134, hx134_0, hx134_1⟩ := at_T61 HR0_1.out x4_3 p134 q134
                   cases e134
                   replace hx134_0 := (HB.out.cell (World.block_lt_of_cell? w _ hx134_0)).trans hx134_0
                   replace hx134_1 := (HB.out.cell (World.block_lt_of_cell? w _ hx134_1)).trans hx134_1
                   replace p134 := eq_true p134
                   replace q134 := eq_true q134
                   go_wp2_with (first | ((with_reducible refine gate_dst (N := 57) rfl ?_); (try (refine gate_guard (by rfl) ?_; dsimp only)); refine Kd.R_lit (Kd.int .i64) _ 3 ?hg (N := 57) ?hd (xs := ([(rd_T61 l0_1 x4_3).f0] : List Int)) (inner := [.int .i64 ((rd_T61 l0_1 x4_3).f0)]) (ok := fun _ => True) (okp := fun _ => True) ?hr ?hp (fun _ hk => hk) trivial (Below.refl _ _) (Nat.le_refl _) (by simp) ?_; (case hd => rfl); (case hg => rfl); (case hr => first | (go_simp; done) | (go_simp; rfl)); (case hp => exact zq124); intro v136 w54 ho55 hb hg_ hnew_; clear hg_ hnew_; (first | rw [← Ny135.out] at ho55 | (simp only [Int.reduceToNat] at ho55; rw [← Ny135.out] at ho55)); have n0_ := Aside0.mk (Kd.R_lower ho55 (below_size zq113)); have n1_ := Aside0.mk (blk_below (g := gb129) (o := .cells #[.int .i64 a0_0, .slice (some ad134) l0_1.length c0_1, .slice A0_2 l0_2.length c0_2, .slice A0_3 l0_3.length c0_3, .slice A0_4 l0_4.length c0_4] 26 (0, 0)) zq129 hb); have n2_ := Aside0.mk (below_step zq113 hb); clear BK129; clear HB; have HO137 := n0_; have BK129 := n1_; have HB := n2_; clear n0_ n1_ n2_; clear hb ho55; obtain ⟨Ao56, co56, eo56⟩ := Kd.R_slice HO137.out; subst eo56) | ((with_reducible refine gate_callee (f := 55) rfl ?_); refine goesL_ (some 59) rfl rfl Try.func55 (by kernel_rfl) rfl #[.slice Ao56 y135.length co56, .int .i64 t131] rfl zq123 ?_; (with_reducible refine (r2_literals.calls k3 _ _ y135 t131 false _ ?side1 ?side2 A34.out).mono ?_); (case side1 => exact zq93); (case side2 => exact (Kd.R_reads' HO137.out).2.1); rintro e w' ⟨rfl, ⟨nd, rfl⟩⟩; refine ⟨_, rfl, ?_⟩))
                   go_ret
                   exact ⟨zq183, zq113⟩
               · rw [if_neg c33] at H
                 exact absurd H (by simp)
             · rw [if_neg c32] at H
               have c32b0 : decide (x4_3 < (l0_1.length : Int)) = false := decide_eq_false c32
               clear c32
               have H' := Aside0.mk H
               clear H
               obtain ⟨b57_0, b57_1, b57_2, b57_3, b57_4, d57_0, d57_1, d57_2, d57_3, d57_4⟩ := bk5 BK129.out
               go_wp2
               go_loopg [5] k3 (fun kq v5 w' => ∃ (x5_4 : Int), v5 = .int .i64 x5_4 ∧ Aside0 (r2_Check.l1 kq x5_4 a0_0 l0_1 l0_2 l0_3 l0_4 = some r) ∧ Aside0 (kq ≤ k3) ∧ Aside0 (w'.heap[gb129]? = some (.cells #[.int .i64 a0_0, (.slice A0_1 l0_1.length c0_1), (.slice A0_2 l0_2.length c0_2), (.slice A0_3 l0_3.length c0_3), (.slice A0_4 l0_4.length c0_4)] 26 (0, 0))) ∧ Aside0 (Below w.heap.size w w'))
               case atStart => exact ⟨(0), zq188, H', ⟨Nat.le_refl _⟩, ⟨zq129⟩, ⟨zq113⟩⟩
               case round =>
                clear H'
                try clear c1
                try clear p1
                try clear q1
                try clear hx1
                try clear c2
                try clear c2b0
                try clear p2
                try clear c3
                try clear c4
                try clear c5
                try clear p6
                try clear c8
                try clear c8b0
                try clear c11
                try clear c11b0
                try clear p13
                try clear q13
                try clear hx13
                try clear c14
                try clear c14b0
                try clear c14b1
                try clear p14
                try clear q14
                try clear hx14
                try clear c21
                try clear c27
                try clear c28
                try clear c29
                try clear c31
                try clear c32
                try clear c32b0
                try clear c33
                try clear c33b0
                try clear c35
                try clear c36
                try clear c36b0
                try clear c42
                try clear c42b0
                try clear c55
                try clear b12_0
                try clear b12_1
                try clear b12_2
                try clear b12_3
                try clear b12_4
                try clear b15_0
                try clear b15_1
                try clear b15_2
                try clear b15_3
                try clear b15_4
                try clear b17_0
                try clear b17_1
                try clear b17_2
                try clear b17_3
                try clear b17_4
                try clear b18_0
                try clear b18_1
                try clear b18_2
                try clear b18_3
                try clear b18_4
                try clear b20_0
                try clear b20_1
                try clear b20_2
                try clear b20_3
                try clear b20_4
                try clear b24_0
                try clear b24_1
                try clear b24_2
                try clear b24_3
                try clear b24_4
                try clear b29_0
                try clear b29_1
                try clear b29_2
                try clear b29_3
                try clear b29_4
                try clear b30_0
                try clear b30_1
                try clear b30_2
                try clear b30_3
                try clear b30_4
                try clear b37_0
                try clear b37_1
                try clear b37_2
                try clear b37_3
                try clear b37_4
                try clear b41_0
                try clear b41_1
                try clear b41_2
                try clear b41_3
                try clear b41_4
                try clear b43_0
                try clear b43_1
                try clear b43_2
                try clear b43_3
                try clear b43_4
                try clear b47_0
                try clear b47_1
                try clear b47_2
                try clear b47_3
                try clear b47_4
                try clear b48_0
                try clear b48_1
                try clear b48_2
                try clear b48_3
                try clear b48_4
                try clear b4_0
                try clear b4_1
                try clear b4_2
                try clear b4_3
                try clear b4_4
                try clear b52_0
                try clear b52_1
                try clear b52_2
                try clear b52_3
                try clear b52_4
                try clear b53_0
                try clear b53_1
                try clear b53_2
                try clear b53_3
                try clear b53_4
                try clear b57_0
                try clear b57_1
                try clear b57_2
                try clear b57_3
                try clear b57_4
                try clear b7_0
                try clear b7_1
                try clear b7_2
                try clear b7_3
                try clear b7_4
                try clear b9_0
                try clear b9_1
                try clear b9_2
                try clear b9_3
                try clear b9_4
                try clear d12_0
                try clear d12_1
                try clear d12_2
                try clear d12_3
                try clear d12_4
                try clear d15_0
                try clear d15_1
                try clear d15_2
                try clear d15_3
                try clear d15_4
                try clear d17_0
                try clear d17_1
                try clear d17_2
                try clear d17_3
                try clear d17_4
                try clear d18_0
                try clear d18_1
                try clear d18_2
                try clear d18_3
                try clear d18_4
                try clear d20_0
                try clear d20_1
                try clear d20_2
                try clear d20_3
                try clear d20_4
                try clear d24_0
                try clear d24_1
                try clear d24_2
                try clear d24_3
                try clear d24_4
                try clear d29_0
                try clear d29_1
                try clear d29_2
                try clear d29_3
                try clear d29_4
                try clear d30_0
                try clear d30_1
                try clear d30_2
                try clear d30_3
                try clear d30_4
                try clear d37_0
                try clear d37_1
                try clear d37_2
                try clear d37_3
                try clear d37_4
                try clear d41_0
                try clear d41_1
                try clear d41_2
                try clear d41_3
                try clear d41_4
                try clear d43_0
                try clear d43_1
                try clear d43_2
                try clear d43_3
                try clear d43_4
                try clear d47_0
                try clear d47_1
                try clear d47_2
                try clear d47_3
                try clear d47_4
                try clear d48_0
                try clear d48_1
                try clear d48_2
                try clear d48_3
                try clear d48_4
                try clear d4_0
                try clear d4_1
                try clear d4_2
                try clear d4_3
                try clear d4_4
                try clear d52_0
                try clear d52_1
                try clear d52_2
                try clear d52_3
                try clear d52_4
                try clear d53_0
                try clear d53_1
                try clear d53_2
                try clear d53_3
                try clear d53_4
                try clear d57_0
                try clear d57_1
                try clear d57_2
                try clear d57_3
                try clear d57_4
                try clear d7_0
                try clear d7_1
                try clear d7_2
                try clear d7_3
                try clear d7_4
                try clear d9_0
                try clear d9_1
                try clear d9_2
                try clear d9_3
                try clear d9_4
                try clear hx134_0
                try clear hx134_1
                try clear hx139_0
                try clear hx139_1
                try clear hx140_0
                try clear hx140_1
                try clear p134
                try clear p139
                try clear p140
                try clear p2
                try clear q134
                try clear q139
                try clear q140
                obtain ⟨x5_4, rfl, HA, HK4, BK129, HB⟩ := hrel
                cases gk with
                | zero => exact absurd HA.out (by simp [r2_Check.l1])
                | succ k4 =>
                 have H := HA.out
                 clear HA
                 simp only [r2_Check.l1] at H
                 by_cases c58 : x5_4 < (l0_2.length : Int)
                 · rw [if_pos c58] at H
                   have c58b0 : decide (x5_4 < (l0_2.length : Int)) = true := decide_eq_true c58
                   clear c58
                   by_cases c59 : 0 ≤ x5_4
                   · rw [if_pos c59] at H
                     have c59b0 : decide (0 ≤ x5_4) = true := decide_eq_true c59
                     clear c59
                     by_cases c60 : ((rd_T59 l0_2 x5_4).f1) < 0
                     · rw [if_pos c60] at H
                       have c60b0 : decide (((rd_T59 l0_2 x5_4).f1) < 0) = true := decide_eq_true c60
                       clear c60
                       obtain rfl := Option.some.inj H
                       obtain ⟨b61_0, b61_1, b61_2, b61_3, b61_4, d61_0, d61_1, d61_2, d61_3, d61_4⟩ := bk5 BK129.out
                       have p141 : 0 ≤ (x5_4 : Int) := of_decide_eq_true zq187
                       have q141 : x5_4 < (l0_2.length : Int) := of_decide_eq_true zq187
                       obtain ⟨ad141, e141, hx141_0, hx141_1⟩ := at_T59 HR0_2.out x5_4 p141 q141
                       cases e141
                       replace hx141_0 := (HB.out.cell (World.block_lt_of_cell? w _ hx141_0)).trans hx141_0
                       replace hx141_1 := (HB.out.cell (World.block_lt_of_cell? w _ hx141_1)).trans hx141_1
                       replace p141 := eq_true p141
                       replace q141 := eq_true q141
                       go_wp2_with (first | ((with_reducible refine gate_dst (N := 6) rfl ?_); (try (refine gate_guard (by rfl) ?_; dsimp only)); refine box_event ?hg (N := 6) ?hd (cs := #[.int .i64 0, .int .i64 0]) (t := 59) ?hr ?_; (case hd => rfl); (case hg => rfl); (case hr => first | (go_simp; done) | (go_simp; rfl)); intro gb142 hg w62 hbox hb; have n0_ := Aside0.mk (blk_below (g := gb129) (o := .cells #[.int .i64 a0_0, .slice A0_1 l0_1.length c0_1, .slice (some ad141) l0_2.length c0_2, .slice A0_3 l0_3.length c0_3, .slice A0_4 l0_4.length c0_4] 26 (0, 0)) zq129 hb); have n1_ := Aside0.mk (below_step zq113 hb); have n2_ := Aside0.mk (hbox); have n3_ := Aside0.mk ((zq69 : w.heap.size ≤ gb142)); have n4_ := Aside0.mk ((zq69 : w.heap.size ≤ gb142)); have n5_ := Aside0.mk ((zq34 : gb129 ≠ gb142)); have n6_ := Aside0.mk ((zq33 : gb142 ≠ gb129)); clear BK129; clear HB; have BK129 := n0_; have HB := n1_; have BK142 := n2_; have GW142 := n3_; have GE142 := n4_; have NB129_142 := n5_; have NB142_129 := n6_; clear n0_ n1_ n2_ n3_ n4_ n5_ n6_; clear hb hbox hg; have hnb63 := NB142_129.out; have hnc63 := NB129_142.out; obtain ⟨b64_0, b64_1, d64_0, d64_1⟩ := bk2 BK142.out))
                       go_ret
                       exact ⟨zq183, zq76⟩
                     · rw [if_neg c60] at H
                       have c60b0 : decide (((rd_T59 l0_2 x5_4).f1) < 0) = false := decide_eq_false c60
                       clear c60
                       by_cases c65 : ((rd_T59 l0_2 x5_4).f0) < ((rd_T59 l0_2 x5_4).f1)
                       · rw [if_pos c65] at H
                         have c65b0 : decide (((rd_T59 l0_2 x5_4).f0) < ((rd_T59 l0_2 x5_4).f1)) = true := decide_eq_true c65
                         clear c65
                         obtain rfl := Option.some.inj H
                         obtain ⟨b66_0, b66_1, b66_2, b66_3, b66_4, d66_0, d66_1, d66_2, d66_3, d66_4⟩ := bk5 BK129.out
                         have p141 : 0 ≤ (x5_4 : Int) := of_decide_eq_true zq187
                         have q141 : x5_4 < (l0_2.length : Int) := of_decide_eq_true zq187
                         obtain ⟨ad141, e141, hx141_0, hx141_1⟩ := at_T59 HR0_2.out x5_4 p141 q141
                         cases e141
                         replace hx141_0 := (HB.out.cell (World.block_lt_of_cell? w _ hx141_0)).trans hx141_0
                         replace hx141_1 := (HB.out.cell (World.block_lt_of_cell? w _ hx141_1)).trans hx141_1
                         replace p141 := eq_true p141
                         replace q141 := eq_true q141
                         go_wp2_with (first | ((with_reducible refine gate_dst (N := 6) rfl ?_); (try (refine gate_guard (by rfl) ?_; dsimp only)); refine box_event ?hg (N := 6) ?hd (cs := #[.int .i64 0, .int .i64 0]) (t := 59) ?hr ?_; (case hd => rfl); (case hg => rfl); (case hr => first | (go_simp; done) | (go_simp; rfl)); intro gb142 hg w67 hbox hb; have n0_ := Aside0.mk (blk_below (g := gb129) (o := .cells #[.int .i64 a0_0, .slice A0_1 l0_1.length c0_1, .slice (some ad141) l0_2.length c0_2, .slice A0_3 l0_3.length c0_3, .slice A0_4 l0_4.length c0_4] 26 (0, 0)) zq129 hb); have n1_ := Aside0.mk (below_step zq113 hb); have n2_ := Aside0.mk (hbox); have n3_ := Aside0.mk ((zq69 : w.heap.size ≤ gb142)); have n4_ := Aside0.mk ((zq69 : w.heap.size ≤ gb142)); have n5_ := Aside0.mk ((zq34 : gb129 ≠ gb142)); have n6_ := Aside0.mk ((zq33 : gb142 ≠ gb129)); clear BK129; clear HB; have BK129 := n0_; have HB := n1_; have BK142 := n2_; have GW142 := n3_; have GE142 := n4_; have NB129_142 := n5_; have NB142_129 := n6_; clear n0_ n1_ n2_ n3_ n4_ n5_ n6_; clear hb hbox hg; have hnb68 := NB142_129.out; have hnc68 := NB129_142.out; obtain ⟨b69_0, b69_1, d69_0, d69_1⟩ := bk2 BK142.out))
                         go_ret
                         exact ⟨zq183, zq76⟩
                       · rw [if_neg c65] at H
                         have c65b0 : decide (((rd_T59 l0_2 x5_4).f0) < ((rd_T59 l0_2 x5_4).f1)) = false := decide_eq_false c65
                         clear c65
                         by_cases c70 : (wrap64 (Int.tdiv ((rd_T59 l0_2 x5_4).f0) 2)) > (wrap64 ((wrap64 (a0_0 + (l0_1.length : Int))) + x5_4))
                         · rw [if_pos c70] at H
                           have c70b0 : decide ((wrap64 ((wrap64 (a0_0 + (l0_1.length : Int))) + x5_4)) < (wrap64 (Int.tdiv ((rd_T59 l0_2 x5_4).f0) 2))) = true := decide_eq_true c70
                           clear c70
                           obtain rfl := Option.some.inj H
                           obtain ⟨b71_0, b71_1, b71_2, b71_3, b71_4, d71_0, d71_1, d71_2, d71_3, d71_4⟩ := bk5 BK129.out
                           have p141 : 0 ≤ (x5_4 : Int) := of_decide_eq_true zq187
                           have q141 : x5_4 < (l0_2.length : Int) := of_decide_eq_true zq187
                           obtain ⟨ad141, e141, hx141_0, hx141_1⟩ := at_T59 HR0_2.out x5_4 p141 q141
                           cases e141
                           replace hx141_0 := (HB.out.cell (World.block_lt_of_cell? w _ hx141_0)).trans hx141_0
                           replace hx141_1 := (HB.out.cell (World.block_lt_of_cell? w _ hx141_1)).trans hx141_1
                           replace p141 := eq_true p141
                           replace q141 := eq_true q141
                           go_wp2_with (first | ((with_reducible refine gate_dst (N := 6) rfl ?_); (try (refine gate_guard (by rfl) ?_; dsimp only)); refine box_event ?hg (N := 6) ?hd (cs := #[.int .i64 0, .int .i64 0]) (t := 59) ?hr ?_; (case hd => rfl); (case hg => rfl); (case hr => first | (go_simp; done) | (go_simp; rfl)); intro gb142 hg w72 hbox hb; have n0_ := Aside0.mk (blk_below (g := gb129) (o := .cells #[.int .i64 a0_0, .slice A0_1 l0_1.length c0_1, .slice (some ad141) l0_2.length c0_2, .slice A0_3 l0_3.length c0_3, .slice A0_4 l0_4.length c0_4] 26 (0, 0)) zq129 hb); have n1_ := Aside0.mk (below_step zq113 hb); have n2_ := Aside0.mk (hbox); have n3_ := Aside0.mk ((zq69 : w.heap.size ≤ gb142)); have n4_ := Aside0.mk ((zq69 : w.heap.size ≤ gb142)); have n5_ := Aside0.mk ((zq34 : gb129 ≠ gb142)); have n6_ := Aside0.mk ((zq33 : gb142 ≠ gb129)); clear BK129; clear HB; have BK129 := n0_; have HB := n1_; have BK142 := n2_; have GW142 := n3_; have GE142 := n4_; have NB129_142 := n5_; have NB142_129 := n6_; clear n0_ n1_ n2_ n3_ n4_ n5_ n6_; clear hb hbox hg; have hnb73 := NB142_129.out; have hnc73 := NB129_142.out; obtain ⟨b74_0, b74_1, d74_0, d74_1⟩ := bk2 BK142.out; obtain ⟨b75_0, b75_1, b75_2, b75_3, b75_4, d75_0, d75_1, d75_2, d75_3, d75_4⟩ := bk5 BK129.out))
                           go_ret
                           exact ⟨zq183, zq76⟩
                         · rw [if_neg c70] at H
                           have c70b0 : decide ((wrap64 ((wrap64 (a0_0 + (l0_1.length : Int))) + x5_4)) < (wrap64 (Int.tdiv ((rd_T59 l0_2 x5_4).f0) 2))) = false := decide_eq_false c70
                           clear c70
                           have H' := Aside0.mk H
                           clear H
                           obtain ⟨b76_0, b76_1, b76_2, b76_3, b76_4, d76_0, d76_1, d76_2, d76_3, d76_4⟩ := bk5 BK129.out
                           have p141 : 0 ≤ (x5_4 : Int) := of_decide_eq_true zq187
                           have q141 : x5_4 < (l0_2.length : Int) := of_decide_eq_true zq187
                           obtain ⟨ad141, e141, hx141_0, hx141_1⟩ := at_T59 HR0_2.out x5_4 p141 q141
                           cases e141
                           replace hx141_0 := (HB.out.cell (World.block_lt_of_cell? w _ hx141_0)).trans hx141_0
                           replace hx141_1 := (HB.out.cell (World.block_lt_of_cell? w _ hx141_1)).trans hx141_1
                           replace p141 := eq_true p141
                           replace q141 := eq_true q141
                           go_wp2_with (first | ((with_reducible refine gate_dst (N := 6) rfl ?_); (try (refine gate_guard (by rfl) ?_; dsimp only)); refine box_event ?hg (N := 6) ?hd (cs := #[.int .i64 0, .int .i64 0]) (t := 59) ?hr ?_; (case hd => rfl); (case hg => rfl); (case hr => first | (go_simp; done) | (go_simp; rfl)); intro gb142 hg w77 hbox hb; have n0_ := Aside0.mk (blk_below (g := gb129) (o := .cells #[.int .i64 a0_0, .slice A0_1 l0_1.length c0_1, .slice (some ad141) l0_2.length c0_2, .slice A0_3 l0_3.length c0_3, .slice A0_4 l0_4.length c0_4] 26 (0, 0)) zq129 hb); have n1_ := Aside0.mk (below_step zq113 hb); have n2_ := Aside0.mk (hbox); have n3_ := Aside0.mk ((zq69 : w.heap.size ≤ gb142)); have n4_ := Aside0.mk ((zq69 : w.heap.size ≤ gb142)); have n5_ := Aside0.mk ((zq34 : gb129 ≠ gb142)); have n6_ := Aside0.mk ((zq33 : gb142 ≠ gb129)); clear BK129; clear HB; have BK129 := n0_; have HB := n1_; have BK142 := n2_; have GW142 := n3_; have GE142 := n4_; have NB129_142 := n5_; have NB142_129 := n6_; clear n0_ n1_ n2_ n3_ n4_ n5_ n6_; clear hb hbox hg; have hnb78 := NB142_129.out; have hnc78 := NB129_142.out; obtain ⟨b79_0, b79_1, d79_0, d79_1⟩ := bk2 BK142.out; obtain ⟨b80_0, b80_1, b80_2, b80_3, b80_4, d80_0, d80_1, d80_2, d80_3, d80_4⟩ := bk5 BK129.out))
                           go_roundg k4
                           case measure => have := HJ4.out; have := HJ22.out; have := HK3.out; have := HK4.out; omega
                           case rel => exact ⟨(wrap64 (x5_4 + 1)), zq188, H', ⟨by have := HJ4.out; have := HJ22.out; have := HK3.out; have := HK4.out; omega⟩, ⟨by (with_reducible repeat (first | refine blk_drewN ?_ _ | refine blk_drew ?_ | refine blk_alloc ?_ _)); refine blk_far ?_ NB129_142.out _; (with_reducible repeat (first | refine blk_drewN ?_ _ | refine blk_drew ?_ | refine blk_alloc ?_ _)); refine blk_far ?_ NB129_142.out _; (with_reducible repeat (first | refine blk_drewN ?_ _ | refine blk_drew ?_ | refine blk_alloc ?_ _)); exact BK129.out⟩, ⟨zq76⟩⟩
                   · rw [if_neg c59] at H
                     exact absurd H (by simp)
                 · rw [if_neg c58] at H
                   have c58b0 : decide (x5_4 < (l0_2.length : Int)) = false := decide_eq_false c58
                   clear c58
                   obtain rfl := Option.some.inj H
                   obtain ⟨b81_0, b81_1, b81_2, b81_3, b81_4, d81_0, d81_1, d81_2, d81_3, d81_4⟩ := bk5 BK129.out
                   go_wp2
                   go_ret
                   exact ⟨zq183, zq113⟩
def r2_Great.f (a0_0 : Int) (l0_1 : List (S61)) (l0_2 : List (S59)) (l0_3 : List Int) (l0_4 : List Int) : Option (Bool) := if (l0_1.length : Int) > 60 then (some true) else (if (l0_2.length : Int) > 120 then (some true) else (if (l0_3.length : Int) > 110 then (some true) else (if (l0_4.length : Int) > 110 then (some true) else (if a0_0 > 40 then (some (decide (a0_0 < 996))) else (some false)))))
set_option maxHeartbeats 8000000 in
set_option maxRecDepth 100000 in
theorem r2_Great.calls (a0_0 : Int) (A0_1 : Option Addr) (c0_1 : Nat) (l0_1 : List (S61)) (A0_2 : Option Addr) (c0_2 : Nat) (l0_2 : List (S59)) (A0_3 : Option Addr) (c0_3 : Nat) (l0_3 : List Int) (A0_4 : Option Addr) (c0_4 : Nat) (l0_4 : List Int) (r : Bool) (w : World) (hr0_1 : Kd.C k61 w A0_1 l0_1.length l0_1) (hc0_1 : l0_1.length ≤ c0_1) (hr0_2 : Kd.C k59 w A0_2 l0_2.length l0_2) (hc0_2 : l0_2.length ≤ c0_2) (hr0_3 : Kd.C (Kd.int .i64) w A0_3 l0_3.length l0_3) (hc0_3 : l0_3.length ≤ c0_3) (hr0_4 : Kd.C (Kd.int .i64) w A0_4 l0_4.length l0_4) (hc0_4 : l0_4.length ≤ c0_4) (h : r2_Great.f a0_0 l0_1 l0_2 l0_3 l0_4 = some r) :
 Calls Try.prog 10 #[.agg #[.int .i64 a0_0, .slice A0_1 l0_1.length c0_1, .slice A0_2 l0_2.length c0_2, .slice A0_3 l0_3.length c0_3, .slice A0_4 l0_4.length c0_4]] w fun e w' => e = .returned (.bool r) ∧ Below w.heap.size w w' := by
 have hu26 := Try.underlying26
 have HR0_1 := Aside0.mk hr0_1
 have HC0_1 := Aside0.mk hc0_1
 clear hr0_1 hc0_1
 have HR0_2 := Aside0.mk hr0_2
 have HC0_2 := Aside0.mk hc0_2
 clear hr0_2 hc0_2
 have HR0_3 := Aside0.mk hr0_3
 have HC0_3 := Aside0.mk hc0_3
 clear hr0_3 hc0_3
 have HR0_4 := Aside0.mk hr0_4
 have HC0_4 := Aside0.mk hc0_4
 clear hr0_4 hc0_4
 have HB := Aside0.mk (Below.refl w.heap.size w)
 have H : (if (l0_1.length : Int) > 60 then (some true) else (if (l0_2.length : Int) > 120 then (some true) else (if (l0_3.length : Int) > 110 then (some true) else (if (l0_4.length : Int) > 110 then (some true) else (if a0_0 > 40 then (some (decide (a0_0 < 996))) else (some false)))))) = some r := h
 clear h
 by_cases c2 : (l0_1.length : Int) > 60
 · rw [if_pos c2] at H
   have c2b0 : decide (60 < (l0_1.length : Int)) = true := decide_eq_true c2
   have c2b1 : decide (60 < l0_1.length) = true := decide_eq_true (by omega)
   clear c2
   obtain rfl := Option.some.inj H
   go_enter Try.func10, Try.ntmps10
   go_wp2_with (first | ((with_reducible refine gate_dst (N := 1) rfl ?_); (try (refine gate_guard (by rfl) ?_; dsimp only)); refine box_event ?hg (N := 1) ?hd (cs := #[.int .i64 a0_0, .slice A0_1 l0_1.length c0_1, .slice A0_2 l0_2.length c0_2, .slice A0_3 l0_3.length c0_3, .slice A0_4 l0_4.length c0_4]) (t := 26) ?hr ?_; (case hd => rfl); (case hg => rfl); (case hr => first | (go_simp; done) | (go_simp; rfl)); intro gb101 hg w3 hbox hb; have n0_ := Aside0.mk (below_step zq125 hb); have n1_ := Aside0.mk (hbox); have n2_ := Aside0.mk ((zq110 : w.heap.size ≤ gb101)); have n3_ := Aside0.mk ((zq110 : w.heap.size ≤ gb101)); clear HB; have HB := n0_; have BK101 := n1_; have GW101 := n2_; have GE101 := n3_; clear n0_ n1_ n2_ n3_; clear hb hbox hg; obtain ⟨b4_0, b4_1, b4_2, b4_3, b4_4, d4_0, d4_1, d4_2, d4_3, d4_4⟩ := bk5 BK101.out))
   go_ret
   exact ⟨zq183, zq111⟩
 · rw [if_neg c2] at H
   have c2b0 : decide (60 < (l0_1.length : Int)) = false := decide_eq_false c2
   have c2b1 : decide (60 < l0_1.length) = false := decide_eq_false (by omega)
   clear c2
   by_cases c5 : (l0_2.length : Int) > 120
   · rw [if_pos c5] at H
     have c5b0 : decide (120 < (l0_2.length : Int)) = true := decide_eq_true c5
     have c5b1 : decide (120 < l0_2.length) = true := decide_eq_true (by omega)
     clear c5
     obtain rfl := Option.some.inj H
     go_enter Try.func10, Try.ntmps10
     go_wp2_with (first | ((with_reducible refine gate_dst (N := 1) rfl ?_); (try (refine gate_guard (by rfl) ?_; dsimp only)); refine box_event ?hg (N := 1) ?hd (cs := #[.int .i64 a0_0, .slice A0_1 l0_1.length c0_1, .slice A0_2 l0_2.length c0_2, .slice A0_3 l0_3.length c0_3, .slice A0_4 l0_4.length c0_4]) (t := 26) ?hr ?_; (case hd => rfl); (case hg => rfl); (case hr => first | (go_simp; done) | (go_simp; rfl)); intro gb101 hg w6 hbox hb; have n0_ := Aside0.mk (below_step zq125 hb); have n1_ := Aside0.mk (hbox); have n2_ := Aside0.mk ((zq110 : w.heap.size ≤ gb101)); have n3_ := Aside0.mk ((zq110 : w.heap.size ≤ gb101)); clear HB; have HB := n0_; have BK101 := n1_; have GW101 := n2_; have GE101 := n3_; clear n0_ n1_ n2_ n3_; clear hb hbox hg; obtain ⟨b7_0, b7_1, b7_2, b7_3, b7_4, d7_0, d7_1, d7_2, d7_3, d7_4⟩ := bk5 BK101.out))
     go_ret
     exact ⟨zq183, zq111⟩
   · rw [if_neg c5] at H
     have c5b0 : decide (120 < (l0_2.length : Int)) = false := decide_eq_false c5
     have c5b1 : decide (120 < l0_2.length) = false := decide_eq_false (by omega)
     clear c5
     by_cases c8 : (l0_3.length : Int) > 110
     · rw [if_pos c8] at H
       have c8b0 : decide (110 < (l0_3.length : Int)) = true := decide_eq_true c8
       have c8b1 : decide (110 < l0_3.length) = true := decide_eq_true (by omega)
       clear c8
       obtain rfl := Option.some.inj H
       go_enter Try.func10, Try.ntmps10
       go_wp2_with (first | ((with_reducible refine gate_dst (N := 1) rfl ?_); (try (refine gate_guard (by rfl) ?_; dsimp only)); refine box_event ?hg (N := 1) ?hd (cs := #[.int .i64 a0_0, .slice A0_1 l0_1.length c0_1, .slice A0_2 l0_2.length c0_2, .slice A0_3 l0_3.length c0_3, .slice A0_4 l0_4.length c0_4]) (t := 26) ?hr ?_; (case hd => rfl); (case hg => rfl); (case hr => first | (go_simp; done) | (go_simp; rfl)); intro gb101 hg w9 hbox hb; have n0_ := Aside0.mk (below_step zq125 hb); have n1_ := Aside0.mk (hbox); have n2_ := Aside0.mk ((zq110 : w.heap.size ≤ gb101)); have n3_ := Aside0.mk ((zq110 : w.heap.size ≤ gb101)); clear HB; have HB := n0_; have BK101 := n1_; have GW101 := n2_; have GE101 := n3_; clear n0_ n1_ n2_ n3_; clear hb hbox hg; obtain ⟨b10_0, b10_1, b10_2, b10_3, b10_4, d10_0, d10_1, d10_2, d10_3, d10_4⟩ := bk5 BK101.out))
       go_ret
       exact ⟨zq183, zq111⟩
     · rw [if_neg c8] at H
       have c8b0 : decide (110 < (l0_3.length : Int)) = false := decide_eq_false c8
       have c8b1 : decide (110 < l0_3.length) = false := decide_eq_false (by omega)
       clear c8
       by_cases c11 : (l0_4.length : Int) > 110
       · rw [if_pos c11] at H
         have c11b0 : decide (110 < (l0_4.length : Int)) = true := decide_eq_true c11
         have c11b1 : decide (110 < l0_4.length) = true := decide_eq_true (by omega)
         clear c11
         obtain rfl := Option.some.inj H
         go_enter Try.func10, Try.ntmps10
         go_wp2_with (first | ((with_reducible refine gate_dst (N := 1) rfl ?_); (try (refine gate_guard (by rfl) ?_; dsimp only)); refine box_event ?hg (N := 1) ?hd (cs := #[.int .i64 a0_0, .slice A0_1 l0_1.length c0_1, .slice A0_2 l0_2.length c0_2, .slice A0_3 l0_3.length c0_3, .slice A0_4 l0_4.length c0_4]) (t := 26) ?hr ?_; (case hd => rfl); (case hg => rfl); (case hr => first | (go_simp; done) | (go_simp; rfl)); intro gb101 hg w12 hbox hb; have n0_ := Aside0.mk (below_step zq125 hb); have n1_ := Aside0.mk (hbox); have n2_ := Aside0.mk ((zq110 : w.heap.size ≤ gb101)); have n3_ := Aside0.mk ((zq110 : w.heap.size ≤ gb101)); clear HB; have HB := n0_; have BK101 := n1_; have GW101 := n2_; have GE101 := n3_; clear n0_ n1_ n2_ n3_; clear hb hbox hg; obtain ⟨b13_0, b13_1, b13_2, b13_3, b13_4, d13_0, d13_1, d13_2, d13_3, d13_4⟩ := bk5 BK101.out))
         go_ret
         exact ⟨zq183, zq111⟩
       · rw [if_neg c11] at H
         have c11b0 : decide (110 < (l0_4.length : Int)) = false := decide_eq_false c11
         have c11b1 : decide (110 < l0_4.length) = false := decide_eq_false (by omega)
         clear c11
         by_cases c14 : a0_0 > 40
         · rw [if_pos c14] at H
           have c14b0 : decide (40 < a0_0) = true := decide_eq_true c14
           clear c14
           obtain rfl := Option.some.inj H
           go_enter Try.func10, Try.ntmps10
           go_wp2_with (first | ((with_reducible refine gate_dst (N := 1) rfl ?_); (try (refine gate_guard (by rfl) ?_; dsimp only)); refine box_event ?hg (N := 1) ?hd (cs := #[.int .i64 a0_0, .slice A0_1 l0_1.length c0_1, .slice A0_2 l0_2.length c0_2, .slice A0_3 l0_3.length c0_3, .slice A0_4 l0_4.length c0_4]) (t := 26) ?hr ?_; (case hd => rfl); (case hg => rfl); (case hr => first | (go_simp; done) | (go_simp; rfl)); intro gb101 hg w15 hbox hb; have n0_ := Aside0.mk (below_step zq125 hb); have n1_ := Aside0.mk (hbox); have n2_ := Aside0.mk ((zq110 : w.heap.size ≤ gb101)); have n3_ := Aside0.mk ((zq110 : w.heap.size ≤ gb101)); clear HB; have HB := n0_; have BK101 := n1_; have GW101 := n2_; have GE101 := n3_; clear n0_ n1_ n2_ n3_; clear hb hbox hg; obtain ⟨b16_0, b16_1, b16_2, b16_3, b16_4, d16_0, d16_1, d16_2, d16_3, d16_4⟩ := bk5 BK101.out))
           go_ret
           exact ⟨zq183, zq111⟩
         · rw [if_neg c14] at H
           have c14b0 : decide (40 < a0_0) = false := decide_eq_false c14
           clear c14
           obtain rfl := Option.some.inj H
           go_enter Try.func10, Try.ntmps10
           go_wp2_with (first | ((with_reducible refine gate_dst (N := 1) rfl ?_); (try (refine gate_guard (by rfl) ?_; dsimp only)); refine box_event ?hg (N := 1) ?hd (cs := #[.int .i64 a0_0, .slice A0_1 l0_1.length c0_1, .slice A0_2 l0_2.length c0_2, .slice A0_3 l0_3.length c0_3, .slice A0_4 l0_4.length c0_4]) (t := 26) ?hr ?_; (case hd => rfl); (case hg => rfl); (case hr => first | (go_simp; done) | (go_simp; rfl)); intro gb101 hg w17 hbox hb; have n0_ := Aside0.mk (below_step zq125 hb); have n1_ := Aside0.mk (hbox); have n2_ := Aside0.mk ((zq110 : w.heap.size ≤ gb101)); have n3_ := Aside0.mk ((zq110 : w.heap.size ≤ gb101)); clear HB; have HB := n0_; have BK101 := n1_; have GW101 := n2_; have GE101 := n3_; clear n0_ n1_ n2_ n3_; clear hb hbox hg; obtain ⟨b18_0, b18_1, b18_2, b18_3, b18_4, d18_0, d18_1, d18_2, d18_3, d18_4⟩ := bk5 BK101.out))
           go_ret
           exact ⟨zq183, zq111⟩
end Go.Proofs.Ytpdlkjpemplhoaa.P
