/- Texts of one claim, packed: part 3 of 5 -/
import Derived.Test.YtpdlkjpemplhoaaTuB
import Derived.Laws.EntriesVeiled
import Derived.Outline
namespace Go.Proofs.Ytpdlkjpemplhoaa.P
open Go.RowKit Go.Proofs.YtpdlkjpemplhoaaW.PrintWords Go.Proofs.YtpdlkjpemplhoaaW.PrintLast Go.Proofs.YtpdlkjpemplhoaaW.PrintMore
attribute [local go_sem] max2_int min2_int max_two min_two max_three min_three max_four min_four
set_option linter.unusedVariables false
set_option linter.unusedSimpArgs false
theorem NS_start {w W : World} {ca : Array Value} {gb g2 : Nat} {vN : Value} {nums : List Int} (bel : Below w.heap.size w W) (box : W.heap[gb]? = some (.cells ca 30 (0, 0)))
    (res : W.heap[g2]? = some (.cells #[.int .i64 0, .slice none 0 0, .slice none 0 0, .slice none 0 0, .slice none 0 0] 26 (0, 0))) (rN : IR W w.heap.size vN nums) (lo : w.heap.size ≤ gb ∧ w.heap.size ≤ g2) :
    NS w (W.alloc (.cells #[vN] 24)) ca gb g2 W.heap.size vN (.slice none 0 0) (.slice none 0 0) nums [] [] :=
  ⟨below_alloc bel _, blk_alloc box _, blk_alloc res _, blk_new _ _, Kd.R_alloc rN _, Kd.R_nil _ _ _ _ _, Kd.R_nil _ _ _ _ _, ⟨lo.1, lo.2, bel.size⟩, ne_nil' _, ne_nil' _⟩
theorem NS.six {w W : World} {m : Int} {x1 x2 x3 x4 x5 : Value} {gb g2 g6 : Nat} {vN vS vO : Value} {nums s own : List Int} (h : NS w W #[.int .i64 m, x1, x2, x3, x4, x5] gb g2 g6 vN vS vO nums s own) :
    W.cell? ⟨gb, 0, none⟩ = some (.int .i64 m) ∧ W.cell? ⟨gb, 1, none⟩ = some x1 ∧ W.cell? ⟨gb, 2, none⟩ = some x2 ∧ W.cell? ⟨gb, 3, none⟩ = some x3 ∧ W.cell? ⟨gb, 4, none⟩ = some x4 ∧ W.cell? ⟨gb, 5, none⟩ = some x5 :=
  ⟨(blk_cell h.box 0).trans rfl, (blk_cell h.box 1).trans rfl, (blk_cell h.box 2).trans rfl, (blk_cell h.box 3).trans rfl, (blk_cell h.box 4).trans rfl, (blk_cell h.box 5).trans rfl⟩
theorem CS_start (W : World) (n : Int) : CS W (W.alloc (.cells #[.int .i64 n, .slice none 0 0, .slice none 0 0, .slice none 0 0, .slice none 0 0] 26)) W.heap.size n (.slice none 0 0) (.slice none 0 0) (.slice none 0 0) (.slice none 0 0) [] [] [] [] :=
  ⟨below_alloc (Below.refl _ _) _, blk_new _ _, Nat.le_refl _, Kd.R_nil _ _ _ _ _, Kd.R_nil _ _ _ _ _, Kd.R_nil _ _ _ _ _, Kd.R_nil _ _ _ _ _, ne_nil _⟩
theorem mapO_step {α β : Type} {f : α → Option β} {x : α} {t : List α} {ys : List β} (h : mapO f (x :: t) = some ys) : ∃ y r, f x = some y ∧ mapO f t = some r ∧ ys = y :: r := by
  obtain ⟨y, hy, h⟩ := Option.bind_eq_some_iff.1 h
  obtain ⟨r, hr, h⟩ := Option.bind_eq_some_iff.1 h
  exact ⟨y, r, hy, hr, (Option.some.inj h).symm⟩
theorem R_fin5 {α : Type} {d : Kd α} {e base g t : Nat} {ok : Nat → Prop} {W : World} {v : Value} {xs : List α} {cells : Array Value} (h : d.R e W base ok v xs) (hb : W.heap[g]? = some (.cells cells t (0, 0))) (ht : ∀ q, q ∈ e :: d.E → q ≠ t) (u0 u1 u2 u3 u4 : Value) :
    d.R e ((((((W.setCell ⟨g, 0, none⟩ u0).setCell ⟨g, 1, none⟩ u1).setCell ⟨g, 2, none⟩ u2).setCell ⟨g, 3, none⟩ u3).setCell ⟨g, 4, none⟩ u4).drew) base ok v xs :=
  Kd.R_mono (Kd.R_drew (Kd.R_far (p := ⟨g, 4, none⟩) (Kd.R_far (p := ⟨g, 3, none⟩) (Kd.R_far (p := ⟨g, 2, none⟩) (Kd.R_far (p := ⟨g, 1, none⟩) (Kd.R_far (p := ⟨g, 0, none⟩) (Kd.R_types h hb ht) (fun _ hk => hk.2) u0) (fun _ hk => hk.2) u1) (fun _ hk => hk.2) u2) (fun _ hk => hk.2) u3) (fun _ hk => hk.2) u4)) (fun _ hk => hk.1)
theorem one_row (W : World) (x : Int) : Kd.C (Kd.int .i64) (W.alloc (.cells #[.int .i64 x] 3)) (some ⟨W.heap.size, 0, none⟩) 1 [x] := by
  have h := own_lit W 0 3 .i64 [x] (Nat.zero_le _) (by simp)
  have h2 : IR (W.alloc (.cells #[.int .i64 x] 3)) 0 (.slice (some ⟨W.heap.size, 0, none⟩) 1 1) [x] := Kd.R_of_own h (fun _ _ => trivial)
  exact (Kd.R_reads' h2).2.2
set_option maxHeartbeats 4000000 in
set_option maxRecDepth 100000 in
theorem order_Circuit.calls (most : Int) (A1 : Option Addr) (c1 : Nat) (l1 : List Int) (A2 : Option Addr) (c2 : Nat) (l2 : List S56) (A3 : Option Addr) (c3 : Nat) (l3 : List S56) (A4 : Option Addr) (c4 : Nat) (l4 : List Int) (A5 : Option Addr) (c5 : Nat) (l5 : List Int) (r1 : Int) (r2 : List S61) (r3 : List S59) (r4 r5 r6 : List Int) (r7 : Int) (w : World)
    (hr1 : Kd.C (Kd.int .i64) w A1 l1.length l1) (hc1 : l1.length ≤ c1) (hr2 : Kd.C k56 w A2 l2.length l2) (hc2 : l2.length ≤ c2) (hr3 : Kd.C k56 w A3 l3.length l3) (hc3 : l3.length ≤ c3) (hr4 : Kd.C (Kd.int .i64) w A4 l4.length l4) (hc4 : l4.length ≤ c4) (hr5 : Kd.C (Kd.int .i64) w A5 l5.length l5) (hc5 : l5.length ≤ c5)
    (h : order_Circuit.f most l1 l2 l3 l4 l5 = some (r1, r2, r3, r4, r5, r6, r7)) :
    Calls Try.prog 16 #[.agg #[.int .i64 most, .slice A1 l1.length c1, .slice A2 l2.length c2, .slice A3 l3.length c3, .slice A4 l4.length c4, .slice A5 l5.length c5]] w fun e w' => ∃ v1_ v2_ v3_ v4_ v5_ : Value, e = .returned (.tuple #[.agg #[.int .i64 r1, v1_, v2_, v3_, v4_], v5_, .int .i64 r7]) ∧
      Kd.R k61 61 w' w.heap.size (fun _ => True) v1_ r2 ∧ Kd.R k59 59 w' w.heap.size (fun _ => True) v2_ r3 ∧ Kd.R (Kd.int .i64) 3 w' w.heap.size (fun k_ => some k_ ≠ (v4_ : Value).ownBlock ∧ some k_ ≠ (v5_ : Value).ownBlock) v3_ r4 ∧
      Kd.R (Kd.int .i64) 3 w' w.heap.size (fun k_ => some k_ ≠ (v3_ : Value).ownBlock ∧ some k_ ≠ (v5_ : Value).ownBlock) v4_ r5 ∧ Kd.R (Kd.int .i64) 3 w' w.heap.size (fun k_ => some k_ ≠ (v3_ : Value).ownBlock ∧ some k_ ≠ (v4_ : Value).ownBlock) v5_ r6 ∧ Below w.heap.size w w' := by
  have hu30 := Try.underlying30
  have hu26 := Try.underlying26
  have hu56 := Try.underlying56
  have HC1 := Aside0.mk hc1
  have HC2 := Aside0.mk hc2
  have HC3 := Aside0.mk hc3
  have HC4 := Aside0.mk hc4
  have HC5 := Aside0.mk hc5
  have HR1 := Aside0.mk hr1
  have HR2 := Aside0.mk hr2
  have HR3 := Aside0.mk hr3
  have HR4 := Aside0.mk hr4
  have HR5 := Aside0.mk hr5
  have HCK : Aside0 (∀ V, Below w.heap.size w V → ∀ e, order_Check.f most l1 l2 l3 l4 l5 = some e → Calls Try.prog 18 #[.agg #[.int .i64 most, .slice A1 l1.length c1, .slice A2 l2.length c2, .slice A3 l3.length c3, .slice A4 l4.length c4, .slice A5 l5.length c5]] V fun e' w' => e' = .returned (.int .i64 e) ∧ Below V.heap.size V w') :=
    ⟨fun V hV e he => order_Check.calls most A1 c1 l1 A2 c2 l2 A3 c3 l3 A4 c4 l4 A5 c5 l5 e V (Kd.C_below hr1 hV) hc1 (Kd.C_below hr2 hV) hc2 (Kd.C_below hr3 hV) hc3 (Kd.C_below hr4 hV) hc4 (Kd.C_below hr5 hV) hc5 he⟩
  have HSR : Aside0 (∀ V, Below w.heap.size w V → ∀ k s, order_sorted.f k most l3 = some s → Calls Try.prog 35 #[.agg #[.int .i64 most, .slice A1 l1.length c1, .slice A2 l2.length c2, .slice A3 l3.length c3, .slice A4 l4.length c4, .slice A5 l5.length c5]] V fun e w' => ∃ v : Value, e = .returned v ∧ Kd.R (Kd.int .i64) 3 w' V.heap.size (fun _ => True) v s ∧ Below V.heap.size V w') :=
    ⟨fun V hV k s hs => order_sorted.calls k most A1 l1.length c1 A2 l2.length c2 A3 c3 l3 A4 l4.length c4 A5 l5.length c5 s V (Kd.C_below hr3 hV) hc3 hs⟩
  have HDF : Aside0 (∀ V, Below w.heap.size w V → ∀ k own, order_defined.f k most l1 l2 l3 l4 l5 = some own → Calls Try.prog 36 #[.agg #[.int .i64 most, .slice A1 l1.length c1, .slice A2 l2.length c2, .slice A3 l3.length c3, .slice A4 l4.length c4, .slice A5 l5.length c5]] V fun e w' => ∃ v : Value, e = .returned v ∧ Kd.R (Kd.int .i64) 3 w' V.heap.size (fun k_ => V.heap.size ≤ k_) v own ∧ Below V.heap.size V w') :=
    ⟨fun V hV k own ho => order_defined.calls k most A1 c1 l1 _ A2 c2 l2 _ A3 c3 l3 A4 c4 l4 A5 c5 l5 own V (Kd.C_below hr1 hV) hc1 (Kd.V_mk hc2 (Kd.C_F k56_heap (Kd.C_below hr2 hV))) (Kd.V_mk hc3 (Kd.C_F k56_heap (Kd.C_below hr3 hV))) (Kd.C_below hr4 hV) hc4 (Kd.C_below hr5 hV) hc5 ho⟩
  clear hr1 hr2 hr3 hr4 hr5 hc1 hc2 hc3 hc4 hc5
  unfold order_Circuit.f at h
  obtain ⟨e0, he0, h⟩ := Option.bind_eq_some_iff.1 h
  have HE0 := Aside0.mk he0
  clear he0
  go_enter Try.func16, Try.ntmps16
  go_upto_region 1 with (fail)
  have hbx := blk_alloc (blk_new w (.cells #[.int .i64 most, .slice A1 l1.length c1, .slice A2 l2.length c2, .slice A3 l3.length c3, .slice A4 l4.length c4, .slice A5 l5.length c5] 30)) (.cells #[.int .i64 0, .slice none 0 0, .slice none 0 0, .slice none 0 0, .slice none 0 0] 26)
  have hg2 := blk_new (w.alloc (.cells #[.int .i64 most, .slice A1 l1.length c1, .slice A2 l2.length c2, .slice A3 l3.length c3, .slice A4 l4.length c4, .slice A5 l5.length c5] 30)) (.cells #[.int .i64 0, .slice none 0 0, .slice none 0 0, .slice none 0 0, .slice none 0 0] 26)
  rw [show (w.alloc (.cells #[.int .i64 most, .slice A1 l1.length c1, .slice A2 l2.length c2, .slice A3 l3.length c3, .slice A4 l4.length c4, .slice A5 l5.length c5] 30)).heap.size = w.heap.size + 1 by simp] at hg2
  have hbw : Below w.heap.size w ((w.alloc (.cells #[.int .i64 most, .slice A1 l1.length c1, .slice A2 l2.length c2, .slice A3 l3.length c3, .slice A4 l4.length c4, .slice A5 l5.length c5] 30)).alloc (.cells #[.int .i64 0, .slice none 0 0, .slice none 0 0, .slice none 0 0, .slice none 0 0] 26)) := below_alloc (below_alloc (Below.refl _ _) _) _
  generalize ((w.alloc (.cells #[.int .i64 most, .slice A1 l1.length c1, .slice A2 l2.length c2, .slice A3 l3.length c3, .slice A4 l4.length c4, .slice A5 l5.length c5] 30)).alloc (.cells #[.int .i64 0, .slice none 0 0, .slice none 0 0, .slice none 0 0, .slice none 0 0] 26)) = W0 at hbx hg2 hbw ⊢
  have hg2w : w.heap.size ≤ w.heap.size + 1 := by omega
  generalize w.heap.size + 1 = g2 at hg2 hg2w ⊢
  obtain ⟨gb, hgb⟩ : ∃ gb, gb = w.heap.size := ⟨_, rfl⟩
  rw [← hgb]
  rw [← hgb] at hbx
  have HLO := Aside0.mk (And.intro (Nat.le_of_eq hgb.symm : w.heap.size ≤ gb) hg2w)
  have HBX := Aside0.mk hbx
  have HG2 := Aside0.mk hg2
  have HBW := Aside0.mk hbw
  clear hgb hg2w
  have hcb : W0.cell? ⟨gb, 0, none⟩ = some (.int .i64 most) ∧ W0.cell? ⟨gb, 1, none⟩ = some (.slice A1 l1.length c1) ∧ W0.cell? ⟨gb, 2, none⟩ = some (.slice A2 l2.length c2) ∧ W0.cell? ⟨gb, 3, none⟩ = some (.slice A3 l3.length c3) ∧ W0.cell? ⟨gb, 4, none⟩ = some (.slice A4 l4.length c4) ∧ W0.cell? ⟨gb, 5, none⟩ = some (.slice A5 l5.length c5) :=
    ⟨(blk_cell hbx 0).trans rfl, (blk_cell hbx 1).trans rfl, (blk_cell hbx 2).trans rfl, (blk_cell hbx 3).trans rfl, (blk_cell hbx 4).trans rfl, (blk_cell hbx 5).trans rfl⟩
  obtain ⟨hcb0, hcb1, hcb2, hcb3, hcb4, hcb5⟩ := hcb
  clear hbx hg2 hbw
  by_cases d1 : e0 = 0
  case neg =>
    rw [if_neg d1] at h
    obtain ⟨rfl, rfl, rfl, rfl, rfl, rfl, rfl⟩ : 0 = r1 ∧ [] = r2 ∧ [] = r3 ∧ [] = r4 ∧ [] = r5 ∧ [] = r6 ∧ e0 = r7 := by simpa using h
    have hne : (e0 == 0) = false := by rw [beq_eq_false_iff_ne]; exact d1
    have hnd : decide (e0 = 0) = false := decide_eq_false d1
    have hne2 : (e0 != 0) = true := by rw [bne_iff_ne]; exact d1
    clear h d1
    go_wp2_with (go_at_call 18; refine (HCK.out _ HBW.out _ HE0.out).mono ?_; rintro e w1 ⟨rfl, hb⟩; have hg2 := blk_below HG2.out hb; have hz0 := (blk_cell hg2 0).trans rfl; have hz1 := (blk_cell hg2 1).trans rfl; have hz2 := (blk_cell hg2 2).trans rfl; have hz3 := (blk_cell hg2 3).trans rfl; have hz4 := (blk_cell hg2 4).trans rfl; have hf0 := blk_frozen hg2 0; have hf1 := blk_frozen hg2 1; have hf2 := blk_frozen hg2 2; have hf3 := blk_frozen hg2 3; have hf4 := blk_frozen hg2 4; have HG2' := Aside0.mk hg2; have HB1 := Aside0.mk (below_step HBW.out hb); clear hg2 hb)
    refine bodyPost_ret (results_ctt rfl _ _ g2 26 #[.int .i64 0, .slice none 0 0, .slice none 0 0, .slice none 0 0, .slice none 0 0] (0, 0) _ rfl (by refine blk_put (cs := #[.int .i64 0, .slice none 0 0, .slice none 0 0, .slice none 0 0, .slice none 0 0]) ?_ 4 _ rfl; refine blk_put (cs := #[.int .i64 0, .slice none 0 0, .slice none 0 0, .slice none 0 0, .slice none 0 0]) ?_ 3 _ rfl; refine blk_put (cs := #[.int .i64 0, .slice none 0 0, .slice none 0 0, .slice none 0 0, .slice none 0 0]) ?_ 2 _ rfl; refine blk_put (cs := #[.int .i64 0, .slice none 0 0, .slice none 0 0, .slice none 0 0, .slice none 0 0]) ?_ 1 _ rfl; refine blk_put (cs := #[.int .i64 0, .slice none 0 0, .slice none 0 0, .slice none 0 0, .slice none 0 0]) ?_ 0 _ rfl; exact HG2'.out) hu26 rfl (by kernel_rfl)) rfl ?_
    exact ⟨_, _, _, _, _, rfl, Kd.R_nil _ _ _ _ _, Kd.R_nil _ _ _ _ _, Kd.R_nil _ _ _ _ _, Kd.R_nil _ _ _ _ _, Kd.R_nil _ _ _ _ _, (((((HB1.out.setCell HLO.out.2 _).setCell HLO.out.2 _).setCell HLO.out.2 _).setCell HLO.out.2 _).setCell HLO.out.2 _)⟩
  subst d1
  rw [if_pos rfl] at h
  by_cases d2 : 0 ≤ most ∧ most ≤ 1000000
  case neg => rw [if_neg d2] at h; cases h
  rw [if_pos d2] at h
  obtain ⟨s, hs, h⟩ := Option.bind_eq_some_iff.1 h
  obtain ⟨own, ho, h⟩ := Option.bind_eq_some_iff.1 h
  have HS := Aside0.mk hs
  have HO := Aside0.mk ho
  have HH := Aside0.mk h
  obtain ⟨hm0, hm1⟩ := d2
  clear hs ho h
  obtain ⟨m, hmm⟩ : ∃ m : Nat, most = (m : Int) := ⟨most.toNat, by omega⟩
  subst hmm
  have HRP : Aside0 (∀ V A c, Kd.C (Kd.int .i64) V A 1 [-1] → Calls Try.prog 34 #[.slice A 1 c, .int .i64 ((m : Int) + 1)] V fun e w' => ∃ v, e = .returned v ∧ Kd.R (Kd.int .i64) 3 w' V.heap.size (fun _ => True) v (List.replicate (m + 1) (-1)) ∧ Below V.heap.size V w') :=
    ⟨fun V A c hC => repeat_calls A c (m + 1) V hC (by omega) (by omega)⟩
  go_upto_region 5 with (first
    | (go_at_call 34; refine (HRP.out _ _ _ (one_row _ _)).mono ?_; rintro e w2 ⟨vN, rfl, ho, hb⟩; obtain ⟨gN, cN, evN, -, -, -⟩ := Kd.R_form ho (by simp); subst evN; rw [List.length_replicate] at ho; have hb2 := below_step (below_alloc (Below.refl w1.heap.size w1) _) hb; have HB2 := Aside0.mk (below_step HB1.out hb2); have HS2 := Aside0.mk (NS_start HB2.out (blk_below HBX1.out hb2) (blk_below HG21.out hb2) (Kd.R_lower ho (by have := HB1.out.size; simp; omega)) HLO.out); clear ho hb hb2)
    | (go_at_call 18; refine (HCK.out _ HBW.out _ HE0.out).mono ?_; rintro e w1 ⟨rfl, hb⟩; have HBX1 := Aside0.mk (blk_below HBX.out hb); have HG21 := Aside0.mk (blk_below HG2.out hb); have HB1 := Aside0.mk (below_step HBW.out hb); have hcb1' := fun o => pw_cell_below (below_alloc (Below.refl w1.heap.size w1) o) ((blk_cell HBX1.out 0).trans rfl); clear hb))
  have HSN := HS2
  clear HS2 HRP HBX1 HG21 HB1 HB2 HBX HG2 HCK hcb0 hcb1 hcb2 hcb3 hcb4 hcb5 hcb1' HE0
  generalize w2.alloc (.cells #[.slice (some ⟨gN, 0, none⟩) (m + 1) cN] 24) = W2 at HSN ⊢
  generalize w2.heap.size = g6 at HSN ⊢
  have hnb := (blk_cell HSN.out.nb 0).trans rfl
  obtain ⟨hx0, hf0⟩ := Kd.R_celln (0 : Int) HSN.out.rN (0 : Int) (by omega) (by omega)
  have hx0' : W2.cell? ⟨gN, 0, none⟩ = some (.int .i64 (-1)) := hx0
  rw [show (0 : Int).toNat = 0 from rfl] at hf0
  have HS3 := Aside0.mk (HSN.out.num 0 0)
  clear hx0
  go_upto_region 6 with (fail)
  clear HSN hnb hx0' hf0
  generalize W2.setCell ⟨gN, 0, none⟩ (.int .i64 0) = W3 at HS3 ⊢
  obtain ⟨hs0, hs1, hs2, hs3, hs4, hs5⟩ := HS3.out.six
  have HH2 := HH.out
  unfold cirMake at HH2
  by_cases cg : l1.length + l2.length ≤ own.length ∧ own.length ≤ 1000000 ∧ l2.length ≤ 1000000 ∧ s.length ≤ 1000000 ∧ l4.length ≤ 1000000 ∧ l5.length ≤ 1000000
  case neg => rw [if_neg cg] at HH2; cases HH2
  rw [if_pos cg] at HH2
  obtain ⟨hg1, hg2, hg3, hg4, hg5, hg6⟩ := cg
  obtain ⟨nn, hnn⟩ : ∃ nn, nn = l1.length + l2.length := ⟨_, rfl⟩
  rw [← hnn] at hg1 HH2
  obtain ⟨⟨nums1, next1⟩, hco, HH2⟩ := Option.bind_eq_some_iff.1 HH2
  obtain ⟨⟨nums2, next2⟩, hcg, HH2⟩ := Option.bind_eq_some_iff.1 HH2
  obtain ⟨lat, hlat, HH2⟩ := Option.bind_eq_some_iff.1 HH2
  obtain ⟨ands, hands, HH2⟩ := Option.bind_eq_some_iff.1 HH2
  obtain ⟨bads, hbads, HH2⟩ := Option.bind_eq_some_iff.1 HH2
  obtain ⟨cons, hcons, HH2⟩ := Option.bind_eq_some_iff.1 HH2
  have HRES := Aside0.mk (Option.some.inj HH2)
  have HCO := Aside0.mk hco
  have HCG := Aside0.mk hcg
  have HLAT := Aside0.mk hlat
  have HANDS := Aside0.mk hands
  have HBADS := Aside0.mk hbads
  have HCONS := Aside0.mk hcons
  clear HH HH2 hco hcg hlat hands hbads hcons
  have hsum : IntKind.i64.wrap ((l1.length : Int) + (l2.length : Int)) = (nn : Int) := by rw [i64_w]; unfold wrap64; omega
  have HSUM := Aside0.mk hsum
  have HNN := Aside0.mk (And.intro hnn (And.intro hg1 hg2))
  have HGL := Aside0.mk (And.intro hg3 (And.intro hg4 (And.intro hg5 hg6)))
  clear hsum hnn hg1 hg2 hg3 hg4 hg5 hg6
  go_upto_region 8 with (go_at_call 35; refine (HSR.out _ HS3.out.bel _ _ HS.out).mono ?_; rintro e w4 ⟨vS, rfl, ho, hb⟩; have HS4 := Aside0.mk (HS3.out.newS hb ho); obtain ⟨AS, cS, evS⟩ := Kd.R_slice ho; subst evS; clear ho hb)
  clear hs0 hs1 hs2 hs3 hs4 hs5 HS3 HSR
  have hs4 := HS4.out.six
  obtain ⟨i0, hi0, hzz⟩ := Option.map_eq_some_iff.1 info3
  have HI0 := Aside0.mk hi0
  have hsum := HSUM.out
  clear hzz hi0
  go_region_held3 (fun V => V.cell? ⟨gb, 0, none⟩ = some (.int .i64 (m : Int)) ∧ V.cell? ⟨gb, 1, none⟩ = some (.slice A1 l1.length c1) ∧ V.cell? ⟨gb, 2, none⟩ = some (.slice A2 l2.length c2) ∧ V.cell? ⟨gb, 3, none⟩ = some (.slice A3 l3.length c3) ∧ V.cell? ⟨gb, 4, none⟩ = some (.slice A4 l4.length c4) ∧ V.cell? ⟨gb, 5, none⟩ = some (.slice A5 l5.length c5)) (first | exact hs5 | exact hs4)
    (first
      | (go_at_call 36; refine (HDF.out _ (by first | exact HS4.out.bel | exact below_drew HS4.out.bel | exact pw_below_drewN HS4.out.bel _) _ _ HO.out).mono ?_; rintro e w5 ⟨vO, rfl, ho, hb⟩; have HS5 := Aside0.mk (by first | exact HS4.out.newO hb (Kd.R_mono ho (fun _ _ => trivial)) | exact (HS4.out.below (below_drew (Below.refl _ _))).newO hb (Kd.R_mono ho (fun _ _ => trivial)) | exact (HS4.out.below (pw_below_drewN (Below.refl _ _) _)).newO hb (Kd.R_mono ho (fun _ _ => trivial)) : NS w w5 _ gb g2 g6 _ _ vO _ _ _); have hs5 := HS5.out.six; obtain ⟨AO, cO, evO, hcO, -⟩ := Kd.R_reads ho; subst evO; have hcut := fun W => cut_to (P := Try.prog) 24 3 .i64 Try.underlying24 HI0.out AO own.length cO (nn : Int) (Int.natCast_nonneg nn) (Int.ofNat_le.2 HNN.out.2.1) hcO W; simp only [Int.toNat_natCast] at hcut; clear ho hb hcO))
  go_wp2
  have HNI : Aside0 (((List.replicate ((m : Int) + 1).toNat (-1 : Int)).set 0 0) = ((List.replicate (m + 1) (-1 : Int)).set 0 0)) := ⟨by rw [show ((m : Int) + 1).toNat = m + 1 by omega]⟩
  clear hs4 hs5 hcut hsum HS4 HDF
  go_loopw [51, 8] (fun v51 v8 wr => ∃ (i : Nat) (nx : Int) (nums : List Int), v51 = .int .i64 (i : Int) ∧ v8 = .int .i64 nx ∧ Aside0 (i ≤ nn) ∧ Aside0 (cirOwn ((own.take nn).drop i) nx nums = some (nums1, next1)) ∧ Aside0 (NS w wr #[.int .i64 (m : Int), .slice A1 l1.length c1, .slice A2 l2.length c2, .slice A3 l3.length c3, .slice A4 l4.length c4, .slice A5 l5.length c5] gb g2 g6 (.slice (some ⟨gN, 0, none⟩) (m + 1) cN) (.slice AS s.length cS) (.slice AO own.length cO) nums s own)) (fun v51 _ _ => nn - (intOf v51).toNat)
  case atStart => exact ⟨0, 0, _, rfl, rfl, ⟨Nat.zero_le _⟩, ⟨by rw [List.drop_zero, ← HNI.out]; exact HCO.out⟩, HS5⟩
  case round =>
    obtain ⟨i, nx, nums, rfl, rfl, HI, HQ, HS⟩ := hrel
    clear HS5 HCO
    have HNL : Aside0 (nums.length = m + 1) := ⟨(Kd.R_reads' HS.out.rN).1.symm⟩
    by_cases hlt : i < nn
    · have hnl := HNN.out.2.1
      have hown := HNN.out.2.2
      have h := HQ.out
      rw [List.drop_eq_getElem_cons (by rw [List.length_take]; omega : i < (own.take nn).length)] at h
      have e : (own.take nn)[i]'(by rw [List.length_take]; omega) = rd own (i : Int) := by rw [List.getElem_take]; simp [rd, (by omega : i < own.length)]
      rw [e] at h
      simp only [cirOwn] at h
      by_cases cg : 0 ≤ rd own (i : Int) ∧ rd own (i : Int) / 2 < (nums.length : Int) ∧ 0 ≤ nx ∧ nx ≤ 1000000
      case neg => rw [if_neg cg] at h; cases h
      rw [if_pos cg] at h
      obtain ⟨hl0, hl1, hn0, hn1⟩ := cg
      obtain ⟨ad, e1, hx⟩ := Kd.at_int (Kd.R_reads' HS.out.rO).2.2 (i : Int) (by omega) (by omega)
      rw [Int.toNat_natCast] at hx
      subst e1
      generalize rd own (i : Int) = l at h hl0 hl1 hx
      obtain ⟨q, hq⟩ : ∃ q : Nat, l / 2 = (q : Int) := ⟨(l / 2).toNat, by omega⟩
      have hkl := HNL.out
      rw [hq] at h hl1
      rw [Int.toNat_natCast] at h
      have hlb : l ≤ 4000000 := by omega
      have hq2 : q < m + 1 := by omega
      have hqd2 : decide ((q : Int) < (m : Int) + 1) = true := decide_eq_true (by omega)
      obtain ⟨hg0, hf0⟩ := Kd.R_celln (0 : Int) HS.out.rN (q : Int) (by omega) (by omega)
      rw [Int.toNat_natCast] at hg0 hf0
      have hnb := (blk_cell HS.out.nb 0).trans rfl
      have HLT := Aside0.mk hlt
      have HN := Aside0.mk h
      have HSN := Aside0.mk (HS.out.num q (nx + 1))
      clear e hl1 hkl h
      go_wp2
      go_roundw
      case rel => exact ⟨i + 1, nx + 1, _, by go_num, rfl, ⟨HLT.out⟩, HN, HSN⟩
      case measure => have := HLT.out; simp [intOf]; omega
    · obtain ⟨rfl, rfl⟩ : nums = nums1 ∧ nx = next1 := by
        have h := HQ.out
        rw [List.drop_eq_nil_of_le (by rw [List.length_take]; omega)] at h
        simpa [cirOwn] using h
      clear HI HQ
      go_wp2
      go_loopw [65, 8] (fun v65 v8 wr => ∃ (i : Nat) (nx : Int) (nums : List Int), v65 = .int .i64 (i : Int) ∧ v8 = .int .i64 nx ∧ Aside0 (i ≤ s.length) ∧ Aside0 (cirGates l3 (s.drop i) nx nums = some (nums2, next2)) ∧ Aside0 (NS w wr #[.int .i64 (m : Int), .slice A1 l1.length c1, .slice A2 l2.length c2, .slice A3 l3.length c3, .slice A4 l4.length c4, .slice A5 l5.length c5] gb g2 g6 (.slice (some ⟨gN, 0, none⟩) (m + 1) cN) (.slice AS s.length cS) (.slice AO own.length cO) nums s own)) (fun v65 _ _ => s.length - (intOf v65).toNat)
      case atStart => exact ⟨0, _, _, rfl, rfl, ⟨Nat.zero_le _⟩, HCG, HS⟩
      case round =>
        obtain ⟨i, nx, nums, rfl, rfl, HI, HQ, HS⟩ := hrel
        clear HNL
        have HNL : Aside0 (nums.length = m + 1) := ⟨(Kd.R_reads' HS.out.rN).1.symm⟩
        have hsl := HGL.out.2.1
        by_cases hlt : i < s.length
        · have h := HQ.out
          rw [List.drop_eq_getElem_cons hlt] at h
          have e : s[i] = rd s (i : Int) := by simp [rd, hlt]
          rw [e] at h
          simp only [cirGates] at h
          by_cases cg : 0 ≤ rd s (i : Int) ∧ rd s (i : Int) < (l3.length : Int) ∧ 0 ≤ (rd_T56 l3 (rd s (i : Int))).f0 ∧ (rd_T56 l3 (rd s (i : Int))).f0 / 2 < (nums.length : Int) ∧ 0 ≤ nx ∧ nx ≤ 1000000
          case neg => rw [if_neg cg] at h; cases h
          rw [if_pos cg] at h
          obtain ⟨hi0, hi1, hl0, hl1, hn0, hn1⟩ := cg
          obtain ⟨ad, e1, hx⟩ := Kd.at_int (Kd.R_reads' HS.out.rS).2.2 (i : Int) (by omega) (by omega)
          rw [Int.toNat_natCast] at hx
          subst e1
          obtain ⟨x, hxx⟩ : ∃ x : Nat, rd s (i : Int) = (x : Int) := ⟨(rd s (i : Int)).toNat, by omega⟩
          rw [hxx] at h hi0 hi1 hl0 hl1 hx
          obtain ⟨ad3, e3, hy0, hy1, hy2⟩ := at_T56 (Kd.C_below HR3.out HS.out.bel) (x : Int) hi0 hi1
          rw [Int.toNat_natCast] at hy0
          subst e3
          clear hy1 hy2
          generalize hle : (rd_T56 l3 (x : Int)).f0 = l at h hl0 hl1 hy0
          obtain ⟨q, hq⟩ : ∃ q : Nat, l / 2 = (q : Int) := ⟨(l / 2).toNat, by omega⟩
          have hkl := HNL.out
          rw [hq] at h hl1
          rw [Int.toNat_natCast] at h
          have hlb : l ≤ 4000000 := by omega
          have hq2 : q < m + 1 := by omega
          have hqd2 : decide ((q : Int) < (m : Int) + 1) = true := decide_eq_true (by omega)
          have hx3 : x < l3.length := by omega
          obtain ⟨hg0, hf0⟩ := Kd.R_celln (0 : Int) HS.out.rN (q : Int) (by omega) (by omega)
          rw [Int.toNat_natCast] at hg0 hf0
          have hnb : wr.cell? ⟨g6, 0, none⟩ = some (.slice (some ⟨gN, 0, none⟩) (m + 1) cN) := (blk_cell HS.out.nb 0).trans rfl
          have hb3 := HS.out.six.2.2.2.1
          have HLT := Aside0.mk hlt
          have HN := Aside0.mk h
          have HSN := Aside0.mk ((HS.out.num q (nx + 1)).below (below_drew (Below.refl _ _)))
          have hl6 : 0 ≤ l / 2 := by omega
          clear e hl1 hkl h hxx hle
          go_wp2
          go_region
          all_goals go_wp2
          go_roundw
          case rel => exact ⟨i + 1, nx + 1, _, by go_num, rfl, ⟨HLT.out⟩, HN, HSN⟩
          case measure => have := HLT.out; simp [intOf]; omega
        · obtain ⟨rfl, rfl⟩ : nums = nums2 ∧ nx = next2 := by
            have h := HQ.out
            rw [List.drop_eq_nil_of_le (by omega)] at h
            simpa [cirGates] using h
          have hnb := (blk_cell HS.out.nb 0).trans rfl
          have hbs := HS.out.six
          obtain ⟨hbs0, hbs1, hbs2, hbs3, hbs4, hbs5⟩ := hbs
          clear HI HQ
          go_upto_region 22 with (fail)
          have hcs := CS_start wr (l1.length : Int)
          generalize hW6 : wr.alloc (.cells #[.int .i64 (l1.length : Int), .slice none 0 0, .slice none 0 0, .slice none 0 0, .slice none 0 0] 26) = W6 at hcs ⊢
          have HW6 := Aside0.mk hW6
          generalize wr.heap.size = g14 at hcs ⊢
          have HCS := Aside0.mk hcs
          have HX : Aside0 (∀ V, Below wr.heap.size wr V → NS w V #[.int .i64 (m : Int), .slice A1 l1.length c1, .slice A2 l2.length c2, .slice A3 l3.length c3, .slice A4 l4.length c4, .slice A5 l5.length c5] gb g2 g6 (.slice (some ⟨gN, 0, none⟩) (m + 1) cN) (.slice AS s.length cS) (.slice AO own.length cO) nums s own) := ⟨fun V hV => HS.out.below hV⟩
          have hb2 := (HX.out W6 HCS.out.bel).six.2.2.1
          clear hcs hW6 hbs0 hbs1 hbs2 hbs3 hbs4 hbs5 hnb HS HCG
          go_wp2
          clear hb2
          have hcf := cf_told
          have HTD : Aside0 (∀ V, Below wr.heap.size wr V → ∀ x y, toldL nums x = some y → Calls Try.prog 37 #[.int .i64 x, .pointer (some ⟨g6, 0, none⟩)] V fun e w' => e = .returned (.int .i64 y) ∧ V = w') :=
            ⟨fun V hV x y hy => by
              have hv := HX.out V hV
              have hl := (Kd.R_reads' hv.rN)
              have hc := (blk_cell hv.nb 0).trans rfl
              have hC := hl.2.2
              rw [hl.1] at hc
              exact told_calls x g6 _ cN nums y V hc hC hy⟩
          have HTQ : Aside0 (∀ V, Below wr.heap.size wr V → ∀ n x y, toldL nums x = some y → Calls Try.prog 37 #[.int .i64 x, .pointer (some ⟨g6, 0, none⟩)] (V.drewN n) fun e w' => e = .returned (.int .i64 y) ∧ w' = V.drewN n) :=
            ⟨fun V hV n x y hy => (HTD.out (V.drewN n) (pw_below_drewN hV n) x y hy).mono fun _ _ h => ⟨h.1, h.2.symm⟩⟩
          go_loopw [90] (fun v90 wx => ∃ (i : Nat), v90 = .int .i64 (i : Int) ∧ Aside0 (i ≤ l2.length ∧ ∃ vL lt rest, mapO (latT nums) (l2.drop i) = some rest ∧ lt ++ rest = lat ∧ lt.length = i ∧ CS wr wx g14 (l1.length : Int) vL (.slice none 0 0) (.slice none 0 0) (.slice none 0 0) lt [] [] [])) (fun v90 _ => l2.length - (intOf v90).toNat)
          case atStart => exact ⟨0, rfl, ⟨Nat.zero_le _, _, [], lat, HLAT.out, rfl, rfl, HCS.out⟩⟩
          case round =>
            obtain ⟨i, rfl, ⟨hi, vL, lt, rest, hq1, hq2, hq3, hzs⟩⟩ := hrel
            have HI := Aside0.mk hi
            have HQ := Aside0.mk (And.intro hq1 (And.intro hq2 hq3))
            have HZS := Aside0.mk hzs
            clear hzs hi hq1 hq2 hq3
            rename World => wr2
            clear HCS
            by_cases hlt : i < l2.length
            · have hi6 : (i : Int) ≤ 1000000 := by have := HGL.out.1; omega
              have h := HQ.out.1
              rw [List.drop_eq_getElem_cons hlt] at h
              have e : l2[i] = rd_T56 l2 (i : Int) := by simp [rd_T56, hlt]
              rw [e] at h
              obtain ⟨y, r, hy, hr, rfl⟩ := mapO_step h
              obtain ⟨ad, e1, hx0, hx1, hx2⟩ := at_T56 (Kd.C_below HR2.out (HX.out _ HZS.out.bel).bel) (i : Int) (by omega) (by omega)
              rw [Int.toNat_natCast] at hx0 hx1 hx2
              subst e1
              generalize rd_T56 l2 (i : Int) = d at hx0 hx1 hx2 hy
              obtain ⟨x0, x1, x2⟩ := d
              unfold latT at hy
              obtain ⟨z, hz, hy⟩ := Option.bind_eq_some_iff.1 hy
              obtain rfl := Option.some.inj hy
              simp only at hx0 hx1 hx2 hz
              have HZ := Aside0.mk hz
              have HR := Aside0.mk hr
              have HLT := Aside0.mk hlt
              clear h e hy hz hr
              go_upto_region 25 with (fail)
              have hs7 := HZS.out.below (below_alloc (Below.refl wr2.heap.size wr2) (.cells #[.int .i64 x0, .int .i64 x1, .int .i64 x2] 56))
              have hbn := blk_new wr2 (.cells #[.int .i64 x0, .int .i64 x1, .int .i64 x2] 56)
              generalize wr2.alloc (.cells #[.int .i64 x0, .int .i64 x1, .int .i64 x2] 56) = W7 at hs7 hbn ⊢
              generalize wr2.heap.size = gd at hbn ⊢
              have hll : lt.length ≤ 1000000 := by have := HQ.out.2.2; have := HGL.out.1; have := HLT.out; omega
              clear hx0 hx1 hx2
              refine Code.wp_mono (OnlyNormal.imp (fun _ _ h => h)) (circ_r25 wr W7 g14 g6 _ nums gd vL lt x0 x1 x2 z _ _ _ _ _ _ _ _ _ _ _ _ _ _ _ _ _ _ _ _ _ _ _ _ _ _ _ _ _ _ _ _ _ _ _ _ _ _ _ _ _ _ _ _ _ _ _ _ _ _ _ _ _ _ _ _ _ _ _ _ _ _ _ _ _ _ _ _ _ _ _ _ _ _ _ _ _ _ _ _ _ _ _ _ _ _ _ _ _ _ _ _ _ _ _ _ _ _ _ _ _ _ _ _ _ _ _ _ _ _ _ _ _ _ _ _ _ _ _ _ _ _ _ _ _ _ _ _ _ _ _ _ _ _ _ _ _ _ _ _ _ _ _ _ _ _ _ _ _ _ _ _ _ _ _ _ _ _ _ _ _ _ _ _ _ _ _ _ _ _ _ _ _ _ HTD.out hs7 hbn HZ.out hll ?_)
              clear hs7 hbn hll
              intro y94 y95 y96 y97 y98 y99 y100 y101 y102 y103 y104 y105 vL' wx HS9
              go_wp2
              go_roundw
              case rel => exact ⟨i + 1, by go_num, ⟨HLT.out, _, _, r, HR.out, by rw [List.append_assoc]; exact HQ.out.2.1, by rw [List.length_append, HQ.out.2.2]; rfl, HS9⟩⟩
              case measure => have := HLT.out; simp [intOf]; omega
            · obtain rfl : lt = lat := by
                have h := HQ.out.1
                rw [List.drop_eq_nil_of_le (by omega)] at h
                have h2 : [] = rest := by simpa [mapO] using h
                have h3 := HQ.out.2.1
                rw [← h2, List.append_nil] at h3
                exact h3
              clear HI HQ
              go_wp2
              go_loopw [109] (fun v109 wx => ∃ (i : Nat), v109 = .int .i64 (i : Int) ∧ Aside0 (i ≤ s.length ∧ ∃ vA at_ rest, mapO (andT nums l3) (s.drop i) = some rest ∧ at_ ++ rest = ands ∧ at_.length = i ∧ CS wr wx g14 (l1.length : Int) vL vA (.slice none 0 0) (.slice none 0 0) lt at_ [] [])) (fun v109 _ => s.length - (intOf v109).toNat)
              case atStart => exact ⟨0, rfl, ⟨Nat.zero_le _, _, [], ands, HANDS.out, rfl, rfl, HZS.out⟩⟩
              case round =>
                rename World => wr3
                obtain ⟨i, rfl, ⟨hi, vA, at_, rest, hq1, hq2, hq3, hzd⟩⟩ := hrel
                have HI := Aside0.mk hi
                have HQ := Aside0.mk (And.intro hq1 (And.intro hq2 hq3))
                have HZD := Aside0.mk hzd
                clear hzd hi hq1 hq2 hq3
                by_cases hlt : i < s.length
                · have hi6 : (i : Int) ≤ 1000000 := by have := HGL.out.2.1; omega
                  have h := HQ.out.1
                  rw [List.drop_eq_getElem_cons hlt] at h
                  have e : s[i] = rd s (i : Int) := by simp [rd, hlt]
                  rw [e] at h
                  obtain ⟨y, r, hy, hr, rfl⟩ := mapO_step h
                  obtain ⟨ad, e1, hx⟩ := Kd.at_int (Kd.R_reads' (HX.out _ HZD.out.bel).rS).2.2 (i : Int) (by omega) (by omega)
                  rw [Int.toNat_natCast] at hx
                  subst e1
                  unfold andT at hy
                  by_cases cg : 0 ≤ rd s (i : Int) ∧ rd s (i : Int) < (l3.length : Int)
                  case neg => rw [if_neg cg] at hy; cases hy
                  rw [if_pos cg] at hy
                  obtain ⟨x, hxx⟩ : ∃ x : Nat, rd s (i : Int) = (x : Int) := ⟨(rd s (i : Int)).toNat, by omega⟩
                  rw [hxx] at hy hx cg
                  obtain ⟨ad3, e3, hy0, hy1, hy2⟩ := at_T56 (Kd.C_below HR3.out (HX.out _ HZD.out.bel).bel) (x : Int) cg.1 cg.2
                  rw [Int.toNat_natCast] at hy1 hy2
                  subst e3
                  clear hy0
                  have hx3 : x < l3.length := by omega
                  have hb3 := (HX.out _ HZD.out.bel).six.2.2.2.1
                  generalize (rd_T56 l3 (x : Int)).f1 = l1_ at hy hy1
                  generalize (rd_T56 l3 (x : Int)).f2 = l2_ at hy hy2
                  obtain ⟨za, hza, hy⟩ := Option.bind_eq_some_iff.1 hy
                  obtain ⟨zb, hzb, hy⟩ := Option.bind_eq_some_iff.1 hy
                  have hyy := Option.some.inj hy
                  have hqa := fun n => HTQ.out wr3 HZD.out.bel n l1_ za hza
                  have hqb := fun n => HTQ.out wr3 HZD.out.bel n l2_ zb hzb
                  have HQA := Aside0.mk hqa
                  have HQB := Aside0.mk hqb
                  have HYY := Aside0.mk hyy
                  have HR := Aside0.mk hr
                  have HLT := Aside0.mk hlt
                  have hx5 : (x : Int) < (l3.length : Int) := by omega
                  have hx6 : (0 : Int) ≤ (x : Int) := by omega
                  have hv2 : wr3.cell? ⟨g14, 2, none⟩ = some vA := (blk_cell HZD.out.blk 2).trans rfl
                  have HLL := Aside0.mk (by have := HQ.out.2.2; have := HGL.out.2.1; omega : at_.length ≤ 1000000)
                  clear h e hy hr hza hzb hqa hqb hyy hxx cg
                  go_upto_region 30 with (fail)
                  go_quiet ((first | (go_at_call_of 37 (Value.int IntKind.i64 l1_); exact Calls.quiet_of_same (HQA.out _)) | (go_at_call_of 37 (Value.int IntKind.i64 l2_); exact Calls.quiet_of_same (HQB.out _))))
                  rename Nat => nq
                  have hzn := HZD.out.below (pw_below_drewN (Below.refl wr3.heap.size wr3) nq)
                  have hv3 : (wr3.drewN nq).cell? ⟨g14, 2, none⟩ = some vA := hv2
                  generalize wr3.drewN nq = W8 at hzn hv3 ⊢
                  have HZN := Aside0.mk hzn
                  clear hzn hv2
                  rcases (by omega : za < zb ∨ zb < za ∨ za = zb) with hab | hba | rfl
                  · skip
                    have hdc : decide (za < zb) = true := decide_eq_true hab
                    have hdd : decide (zb < za) = false := decide_eq_false (by omega)
                    obtain rfl : (⟨zb, za⟩ : S59) = y := by have := HYY.out; rw [if_pos hab, if_pos hab] at this; exact this
                    clear HYY
                    go_wp2_with (at_builtin; refine Kd.R_append k59 (w0 := wr) wr.heap.size rfl (.tmp 130) (.tmp 138) 23 59 (.agg #[(.int .i64 0), (.int .i64 0)]) 16 rfl Try.underlying23 info59 rfl (by decide) (by omega) vA at_ (⟨zb, za⟩ : S59) [.int .i64 zb, .int .i64 za] (fun _ => True) (fun _ => False) rfl rfl ?aP (fun _ hk => hk.elim) ?aF ?aO ?aB ?aS ?aL ?_; (case aP => exact k59_mkM _ _ _ (⟨zb, za⟩ : S59)); (case aF => exact fun _ _ => trivial); (case aO => exact HZN.out.rA); (case aB => exact HZN.out.bel); (case aS => exact HZN.out.bel.size); (case aL => have := HLL.out; omega); intro v9 w9 ho hb hg hat; have hs9 := HZN.out.addAnd hg ho; obtain ⟨A9, c9, ev9⟩ := Kd.R_slice ho; subst ev9; rw [show (at_ ++ [(⟨zb, za⟩ : S59)]).length = at_.length + 1 by simp] at hs9; have HS9 := Aside0.mk hs9; have hbk := HZN.out.blk_over (Kd.R_typed HZN.out.rA) (by decide) hg; have hcw := (blk_cell hbk 2).trans rfl; have hfw := blk_frozen hbk 2; clear ho hb hg hat hs9 hbk)
                    go_roundw
                    case rel => exact ⟨i + 1, by go_num, ⟨HLT.out, _, _, r, HR.out, by rw [List.append_assoc]; exact HQ.out.2.1, by rw [List.length_append, HQ.out.2.2]; rfl, HS9.out⟩⟩
                    case measure => have := HLT.out; simp [intOf]; omega
                  · have hab : ¬ za < zb := by omega
                    have hdc : decide (za < zb) = false := decide_eq_false hab
                    have hdd : decide (zb < za) = true := decide_eq_true hba
                    obtain rfl : (⟨za, zb⟩ : S59) = y := by have := HYY.out; rw [if_neg hab, if_neg hab] at this; exact this
                    clear HYY
                    go_wp2_with (at_builtin; refine Kd.R_append k59 (w0 := wr) wr.heap.size rfl (.tmp 130) (.tmp 138) 23 59 (.agg #[(.int .i64 0), (.int .i64 0)]) 16 rfl Try.underlying23 info59 rfl (by decide) (by omega) vA at_ (⟨za, zb⟩ : S59) [.int .i64 za, .int .i64 zb] (fun _ => True) (fun _ => False) rfl rfl ?aP (fun _ hk => hk.elim) ?aF ?aO ?aB ?aS ?aL ?_; (case aP => exact k59_mkM _ _ _ (⟨za, zb⟩ : S59)); (case aF => exact fun _ _ => trivial); (case aO => exact HZN.out.rA); (case aB => exact HZN.out.bel); (case aS => exact HZN.out.bel.size); (case aL => have := HLL.out; omega); intro v9 w9 ho hb hg hat; have hs9 := HZN.out.addAnd hg ho; obtain ⟨A9, c9, ev9⟩ := Kd.R_slice ho; subst ev9; rw [show (at_ ++ [(⟨za, zb⟩ : S59)]).length = at_.length + 1 by simp] at hs9; have HS9 := Aside0.mk hs9; have hbk := HZN.out.blk_over (Kd.R_typed HZN.out.rA) (by decide) hg; have hcw := (blk_cell hbk 2).trans rfl; have hfw := blk_frozen hbk 2; clear ho hb hg hat hs9 hbk)
                    go_roundw
                    case rel => exact ⟨i + 1, by go_num, ⟨HLT.out, _, _, r, HR.out, by rw [List.append_assoc]; exact HQ.out.2.1, by rw [List.length_append, HQ.out.2.2]; rfl, HS9.out⟩⟩
                    case measure => have := HLT.out; simp [intOf]; omega
                  · skip
                    have hdc : decide (za < za) = false := decide_eq_false (by omega)
                    obtain rfl : (⟨za, za⟩ : S59) = y := by have := HYY.out; simpa using this
                    clear HYY
                    go_wp2_with (at_builtin; refine Kd.R_append k59 (w0 := wr) wr.heap.size rfl (.tmp 130) (.tmp 138) 23 59 (.agg #[(.int .i64 0), (.int .i64 0)]) 16 rfl Try.underlying23 info59 rfl (by decide) (by omega) vA at_ (⟨za, za⟩ : S59) [.int .i64 za, .int .i64 za] (fun _ => True) (fun _ => False) rfl rfl ?aP (fun _ hk => hk.elim) ?aF ?aO ?aB ?aS ?aL ?_; (case aP => exact k59_mkM _ _ _ (⟨za, za⟩ : S59)); (case aF => exact fun _ _ => trivial); (case aO => exact HZN.out.rA); (case aB => exact HZN.out.bel); (case aS => exact HZN.out.bel.size); (case aL => have := HLL.out; omega); intro v9 w9 ho hb hg hat; have hs9 := HZN.out.addAnd hg ho; obtain ⟨A9, c9, ev9⟩ := Kd.R_slice ho; subst ev9; rw [show (at_ ++ [(⟨za, za⟩ : S59)]).length = at_.length + 1 by simp] at hs9; have HS9 := Aside0.mk hs9; have hbk := HZN.out.blk_over (Kd.R_typed HZN.out.rA) (by decide) hg; have hcw := (blk_cell hbk 2).trans rfl; have hfw := blk_frozen hbk 2; clear ho hb hg hat hs9 hbk)
                    go_roundw
                    case rel => exact ⟨i + 1, by go_num, ⟨HLT.out, _, _, r, HR.out, by rw [List.append_assoc]; exact HQ.out.2.1, by rw [List.length_append, HQ.out.2.2]; rfl, HS9.out⟩⟩
                    case measure => have := HLT.out; simp [intOf]; omega
                · obtain rfl : at_ = ands := by
                    have h := HQ.out.1
                    rw [List.drop_eq_nil_of_le (by omega)] at h
                    have h2 : [] = rest := by simpa [mapO] using h
                    have h3 := HQ.out.2.1
                    rw [← h2, List.append_nil] at h3
                    exact h3
                  have hb4 := (HX.out _ HZD.out.bel).six.2.2.2.2.1
                  clear HI HQ
                  go_wp2
                  clear hb4
                  go_loopw [145] (fun v145 wx => ∃ (i : Nat), v145 = .int .i64 (i : Int) ∧ Aside0 (i ≤ l4.length ∧ ∃ vB bs rest, mapO (toldL nums) (l4.drop i) = some rest ∧ bs ++ rest = bads ∧ bs.length = i ∧ CS wr wx g14 (l1.length : Int) vL vA vB (.slice none 0 0) lt at_ bs [])) (fun v145 _ => l4.length - (intOf v145).toNat)
                  case atStart => exact ⟨0, rfl, ⟨Nat.zero_le _, _, [], bads, HBADS.out, rfl, rfl, HZD.out⟩⟩
                  case round =>
                    rename World => wr4
                    obtain ⟨i, rfl, ⟨hi, vB, bs, rest, hq1, hq2, hq3, hzd⟩⟩ := hrel
                    have HI := Aside0.mk hi
                    have HQ := Aside0.mk (And.intro hq1 (And.intro hq2 hq3))
                    have HZE := Aside0.mk hzd
                    clear hzd hi hq1 hq2 hq3
                    by_cases hlt : i < l4.length
                    · have hi6 : (i : Int) ≤ 1000000 := by have := HGL.out.2.2.1; omega
                      have h := HQ.out.1
                      rw [List.drop_eq_getElem_cons hlt] at h
                      have e : l4[i] = rd l4 (i : Int) := by simp [rd, hlt]
                      rw [e] at h
                      obtain ⟨z, r, hz, hr, rfl⟩ := mapO_step h
                      obtain ⟨ad, e1, hx⟩ := Kd.at_int (Kd.C_below HR4.out (HX.out _ HZE.out.bel).bel) (i : Int) (by omega) (by omega)
                      rw [Int.toNat_natCast] at hx
                      subst e1
                      generalize rd l4 (i : Int) = x1 at hx hz
                      have HZ := Aside0.mk hz
                      have HR := Aside0.mk hr
                      have HLT := Aside0.mk hlt
                      have hll : bs.length ≤ 1000000 := by have := HQ.out.2.2; have := HGL.out.2.2.1; omega
                      have HLL := Aside0.mk hll
                      clear h e hz hr hll
                      go_upto_region 36 with (fail)
                      refine Code.wp_mono (OnlyNormal.imp (fun _ _ h => h)) (circ_r36 wr wr4 g14 g6 _ nums vL vA vB (.slice none 0 0) lt at_ bs []  x1 z _ _ _ _ _ _ _ _ _ _ _ _ _ _ _ _ _ _ _ _ _ _ _ _ _ _ _ _ _ _ _ _ _ _ _ _ _ _ _ _ _ _ _ _ _ _ _ _ _ _ _ _ _ _ _ _ _ _ _ _ _ _ _ _ _ _ _ _ _ _ _ _ _ _ _ _ _ _ _ _ _ _ _ _ _ _ _ _ _ _ _ _ _ _ _ _ _ _ _ _ _ _ _ _ _ _ _ _ _ _ _ _ _ _ _ _ _ _ _ _ _ _ _ _ _ _ _ _ _ _ _ _ _ _ _ _ _ _ _ _ _ _ _ _ _ _ _ _ _ _ _ _ _ _ _ _ _ _ _ _ _ _ _ _ _ _ _ _ _ _ _ _ _ _ HTD.out HZE.out HZ.out HLL.out ?_)
                      intro y149 y150 y151 y152 y153 y154 y155 y156 vL' wx HS9
                      go_wp2
                      refine ⟨?_, ?_⟩
                      · (repeat apply Exists.intro)
                        refine ⟨?_, rfl⟩
                        exact ⟨i + 1, by go_num, ⟨HLT.out, _, _, r, HR.out, by rw [List.append_assoc]; exact HQ.out.2.1, by rw [List.length_append, HQ.out.2.2]; rfl, HS9⟩⟩
                      · have := HLT.out
                        simp [intOf]
                        omega
                    · have hfin : bs = bads := by
                        have h := HQ.out.1
                        rw [List.drop_eq_nil_of_le (by omega)] at h
                        have h2 : [] = rest := by simpa [mapO] using h
                        have h3 := HQ.out.2.1
                        rw [← h2, List.append_nil] at h3
                        exact h3
                      have HFINbad := Aside0.mk hfin
                      clear hfin HI HQ
                      have hb5 := (HX.out _ HZE.out.bel).six.2.2.2.2.2
                      go_wp2
                      clear hb5
                      go_loopw [161] (fun v161 wx => ∃ (i : Nat), v161 = .int .i64 (i : Int) ∧ Aside0 (i ≤ l5.length ∧ ∃ vC cs rest, mapO (toldL nums) (l5.drop i) = some rest ∧ cs ++ rest = cons ∧ cs.length = i ∧ CS wr wx g14 (l1.length : Int) vL vA vB vC lt at_ bs cs)) (fun v161 _ => l5.length - (intOf v161).toNat)
                      case atStart => exact ⟨0, rfl, ⟨Nat.zero_le _, _, [], cons, HCONS.out, rfl, rfl, HZE.out⟩⟩
                      case round =>
                        rename World => wr5
                        obtain ⟨i, rfl, ⟨hi, vC, cs, rest, hq1, hq2, hq3, hzd⟩⟩ := hrel
                        have HI := Aside0.mk hi
                        have HQ := Aside0.mk (And.intro hq1 (And.intro hq2 hq3))
                        have HZF := Aside0.mk hzd
                        clear hzd hi hq1 hq2 hq3
                        by_cases hlt : i < l5.length
                        · have hi6 : (i : Int) ≤ 1000000 := by have := HGL.out.2.2.2; omega
                          have h := HQ.out.1
                          rw [List.drop_eq_getElem_cons hlt] at h
                          have e : l5[i] = rd l5 (i : Int) := by simp [rd, hlt]
                          rw [e] at h
                          obtain ⟨z, r, hz, hr, rfl⟩ := mapO_step h
                          obtain ⟨ad, e1, hx⟩ := Kd.at_int (Kd.C_below HR5.out (HX.out _ HZF.out.bel).bel) (i : Int) (by omega) (by omega)
                          rw [Int.toNat_natCast] at hx
                          subst e1
                          generalize rd l5 (i : Int) = x1 at hx hz
                          have HZ := Aside0.mk hz
                          have HR := Aside0.mk hr
                          have HLT := Aside0.mk hlt
                          have hll : cs.length ≤ 1000000 := by have := HQ.out.2.2; have := HGL.out.2.2.2; omega
                          have HLL := Aside0.mk hll
                          clear h e hz hr hll
                          go_upto_region 41 with (fail)
                          refine Code.wp_mono (OnlyNormal.imp (fun _ _ h => h)) (circ_r41 wr wr5 g14 g6 _ nums vL vA vB vC lt at_ bs cs  x1 z _ _ _ _ _ _ _ _ _ _ _ _ _ _ _ _ _ _ _ _ _ _ _ _ _ _ _ _ _ _ _ _ _ _ _ _ _ _ _ _ _ _ _ _ _ _ _ _ _ _ _ _ _ _ _ _ _ _ _ _ _ _ _ _ _ _ _ _ _ _ _ _ _ _ _ _ _ _ _ _ _ _ _ _ _ _ _ _ _ _ _ _ _ _ _ _ _ _ _ _ _ _ _ _ _ _ _ _ _ _ _ _ _ _ _ _ _ _ _ _ _ _ _ _ _ _ _ _ _ _ _ _ _ _ _ _ _ _ _ _ _ _ _ _ _ _ _ _ _ _ _ _ _ _ _ _ _ _ _ _ _ _ _ _ _ _ _ _ _ _ _ _ _ _ HTD.out HZF.out HZ.out HLL.out ?_)
                          intro y165 y166 y167 y168 y169 y170 y171 y172 vL' wx HS9
                          go_wp2
                          refine ⟨?_, ?_⟩
                          · (repeat apply Exists.intro)
                            refine ⟨?_, rfl⟩
                            exact ⟨i + 1, by go_num, ⟨HLT.out, _, _, r, HR.out, by rw [List.append_assoc]; exact HQ.out.2.1, by rw [List.length_append, HQ.out.2.2]; rfl, HS9⟩⟩
                          · have := HLT.out
                            simp [intOf]
                            omega
                        · have hfin : cs = cons := by
                            have h := HQ.out.1
                            rw [List.drop_eq_nil_of_le (by omega)] at h
                            have h2 : [] = rest := by simpa [mapO] using h
                            have h3 := HQ.out.2.1
                            rw [← h2, List.append_nil] at h3
                            exact h3
                          have HFINcon := Aside0.mk hfin
                          clear hfin HI HQ
                          have hzf := HZF.out.blk
                          have hv0 : wr5.cell? ⟨g14, 0, none⟩ = some (.int .i64 (l1.length : Int)) := (blk_cell hzf 0).trans rfl
                          have hv1 : wr5.cell? ⟨g14, 1, none⟩ = some vL := (blk_cell hzf 1).trans rfl
                          have hv2 : wr5.cell? ⟨g14, 2, none⟩ = some vA := (blk_cell hzf 2).trans rfl
                          have hv3 : wr5.cell? ⟨g14, 3, none⟩ = some vB := (blk_cell hzf 3).trans rfl
                          have hv4 : wr5.cell? ⟨g14, 4, none⟩ = some vC := (blk_cell hzf 4).trans rfl
                          have hnf := HX.out _ HZF.out.bel
                          have hnb : wr5.cell? ⟨g6, 0, none⟩ = some (.slice (some ⟨gN, 0, none⟩) (m + 1) cN) := (blk_cell hnf.nb 0).trans rfl
                          have hr0 := (blk_cell hnf.res 0).trans rfl
                          have hr1 := (blk_cell hnf.res 1).trans rfl
                          have hr2 := (blk_cell hnf.res 2).trans rfl
                          have hr3 := (blk_cell hnf.res 3).trans rfl
                          have hr4 := (blk_cell hnf.res 4).trans rfl
                          have hf0 := blk_frozen hnf.res 0
                          have hf1 := blk_frozen hnf.res 1
                          have hf2 := blk_frozen hnf.res 2
                          have hf3 := blk_frozen hnf.res 3
                          have hf4 := blk_frozen hnf.res 4
                          obtain ⟨AL, cL, eL⟩ := Kd.R_slice HZF.out.rL
                          subst eL
                          obtain ⟨AA, cA, eA⟩ := Kd.R_slice HZF.out.rA
                          subst eA
                          obtain ⟨AB, cB, eB⟩ := Kd.R_slice HZF.out.rB
                          subst eB
                          obtain ⟨AC, cC, eC⟩ := Kd.R_slice HZF.out.rC
                          subst eC
                          have hne1 : ¬ g6 = g2 := typed_ne hnf.nb hnf.res (by decide)
                          have hne2 : ¬ g2 = g6 := fun e => hne1 e.symm
                          have HNF := Aside0.mk hnf
                          clear hzf hnf
                          go_upto_region 43 with (fail)
                          go_region
                          all_goals go_wp2
                          obtain rfl := HFINbad.out
                          obtain rfl := HFINcon.out
                          obtain ⟨rfl, rfl, rfl, rfl, rfl, rfl, rfl⟩ : (l1.length : Int) = r1 ∧ lt = r2 ∧ at_ = r3 ∧ bs = r4 ∧ cs = r5 ∧ nums = r6 ∧ 0 = r7 := by simpa using HRES.out
                          refine bodyPost_ret (results_ctt rfl _ _ g2 26 #[.int .i64 (l1.length : Int), .slice AL lt.length cL, .slice AA at_.length cA, .slice AB bs.length cB, .slice AC cs.length cC] (0, 0) _ rfl (by refine blk_drew ?_; refine blk_put (cs := #[.int .i64 (l1.length : Int), .slice AL lt.length cL, .slice AA at_.length cA, .slice AB bs.length cB, .slice none 0 0]) ?_ 4 _ rfl; refine blk_put (cs := #[.int .i64 (l1.length : Int), .slice AL lt.length cL, .slice AA at_.length cA, .slice none 0 0, .slice none 0 0]) ?_ 3 _ rfl; refine blk_put (cs := #[.int .i64 (l1.length : Int), .slice AL lt.length cL, .slice none 0 0, .slice none 0 0, .slice none 0 0]) ?_ 2 _ rfl; refine blk_put (cs := #[.int .i64 (l1.length : Int), .slice none 0 0, .slice none 0 0, .slice none 0 0, .slice none 0 0]) ?_ 1 _ rfl; refine blk_put (cs := #[.int .i64 0, .slice none 0 0, .slice none 0 0, .slice none 0 0, .slice none 0 0]) ?_ 0 _ rfl; exact HNF.out.res) hu26 rfl (by kernel_rfl)) rfl ?_
                          have hwz : w.heap.size ≤ wr.heap.size := (HX.out wr (Below.refl _ _)).bel.size
                          have hNlt : ∀ k, (Value.slice (some ⟨gN, 0, none⟩) (m + 1) cN).ownBlock = some k → k < wr.heap.size := (HX.out wr (Below.refl _ _)).rN.lt
                          have hBge := fun k hk => Kd.R_base HZF.out.rB k hk
                          have hCge := fun k hk => Kd.R_base HZF.out.rC k hk
                          refine ⟨_, _, _, _, _, rfl, R_fin5 (Kd.R_lower HZF.out.rL hwz) HNF.out.res (by decide) _ _ _ _ _, R_fin5 (Kd.R_lower HZF.out.rA hwz) HNF.out.res (by decide) _ _ _ _ _, ?_, ?_, ?_, ?_⟩
                          · refine R_fin5 (Kd.R_mono (Kd.R_tight rfl (Kd.R_lower HZF.out.rB hwz)) (fun k hk => ⟨fun e => HZF.out.nBC k hk.symm e.symm, fun e => ?_⟩)) HNF.out.res (by decide) _ _ _ _ _
                            have h1 := hBge k hk.symm
                            have h2 := hNlt k e.symm
                            omega
                          · refine R_fin5 (Kd.R_mono (Kd.R_tight rfl (Kd.R_lower HZF.out.rC hwz)) (fun k hk => ⟨fun e => HZF.out.nBC k e.symm hk.symm, fun e => ?_⟩)) HNF.out.res (by decide) _ _ _ _ _
                            have h1 := hCge k hk.symm
                            have h2 := hNlt k e.symm
                            omega
                          · refine R_fin5 (Kd.R_mono (Kd.R_tight rfl HNF.out.rN) (fun k hk => ⟨fun e => ?_, fun e => ?_⟩)) HNF.out.res (by decide) _ _ _ _ _
                            · have h1 := hBge k e.symm
                              have h2 := hNlt k hk.symm
                              omega
                            · have h1 := hCge k e.symm
                              have h2 := hNlt k hk.symm
                              omega
                          · exact below_drew (((((HNF.out.bel.setCell HLO.out.2 _).setCell HLO.out.2 _).setCell HLO.out.2 _).setCell HLO.out.2 _).setCell HLO.out.2 _)
end Go.Proofs.Ytpdlkjpemplhoaa.P
namespace Go.Proofs.Ytpdlkjpemplhoaa.P
open Go.RowKit Go.Proofs.YtpdlkjpemplhoaaW.PrintWords Go.Proofs.YtpdlkjpemplhoaaW.PrintLast Go.Proofs.YtpdlkjpemplhoaaW.PrintMore
attribute [local go_sem] max2_int min2_int max_two min_two max_three min_three max_four min_four
set_option linter.unusedVariables false
set_option linter.unusedSimpArgs false
def l3_alive.f (k : Nat)  : Option (Bool) := (some (([2, 4] : List Int) : List Int)).bind fun y526 => ((l3_gate.f 6 4 8).bind fun bt529 => ((l3_gate.f 8 2 4).bind fun bt532 => ((order_Circuit.f 4 y526 ([] : List (S56)) (([(⟨bt529.1, bt529.2.1, bt529.2.2⟩ : S56), (⟨bt532.1, bt532.2.1, bt532.2.2⟩ : S56)] : List (S56))) ([] : List Int) ([] : List Int)).bind fun bt539 => ((l3_gate.f 6 8 2).bind fun bt557 => ((l3_gate.f 8 6 2).bind fun bt560 => (if bt539.2.2.2.2.2.2 = 0 then ((r2_SameInts.f k bt539.2.2.2.2.2.1 (([0, 1, 2, 4, 3] : List Int))).bind fun t569 => (if t569 = true then ((r2_Same.f k bt539.1 bt539.2.1 bt539.2.2.1 bt539.2.2.2.1 bt539.2.2.2.2.1 2 ([] : List (S61)) (([(⟨4, 2⟩ : S59), (⟨6, 4⟩ : S59)] : List (S59))) ([] : List Int) ([] : List Int)).bind fun t573 => (if t573 = true then ((order_Check.f 4 y526 ([] : List (S56)) (([(⟨bt557.1, bt557.2.1, bt557.2.2⟩ : S56), (⟨bt560.1, bt560.2.1, bt560.2.2⟩ : S56)] : List (S56))) ([] : List Int) ([] : List Int)).bind fun t574 => (some (t574 == 41))) else (some false))) else (some false))) else (some false)))))))
set_option maxHeartbeats 8000000 in
set_option maxRecDepth 100000 in
theorem l3_alive.calls (k : Nat)  (r : Bool) (w : World) (h : l3_alive.f k  = some r) :
 Calls Try.prog 22 #[] w fun e w' => e = .returned (.bool r) ∧ Below w.heap.size w w' := by
 have hu30 := Try.underlying30
 have hu26 := Try.underlying26
 have hu59 := Try.underlying59
 have HB := Aside0.mk (Below.refl w.heap.size w)
 have H : ((some (([2, 4] : List Int) : List Int)).bind fun y526 => ((l3_gate.f 6 4 8).bind fun bt529 => ((l3_gate.f 8 2 4).bind fun bt532 => ((order_Circuit.f 4 y526 ([] : List (S56)) (([(⟨bt529.1, bt529.2.1, bt529.2.2⟩ : S56), (⟨bt532.1, bt532.2.1, bt532.2.2⟩ : S56)] : List (S56))) ([] : List Int) ([] : List Int)).bind fun bt539 => ((l3_gate.f 6 8 2).bind fun bt557 => ((l3_gate.f 8 6 2).bind fun bt560 => (if bt539.2.2.2.2.2.2 = 0 then ((r2_SameInts.f k bt539.2.2.2.2.2.1 (([0, 1, 2, 4, 3] : List Int))).bind fun t569 => (if t569 = true then ((r2_Same.f k bt539.1 bt539.2.1 bt539.2.2.1 bt539.2.2.2.1 bt539.2.2.2.2.1 2 ([] : List (S61)) (([(⟨4, 2⟩ : S59), (⟨6, 4⟩ : S59)] : List (S59))) ([] : List Int) ([] : List Int)).bind fun t573 => (if t573 = true then ((order_Check.f 4 y526 ([] : List (S56)) (([(⟨bt557.1, bt557.2.1, bt557.2.2⟩ : S56), (⟨bt560.1, bt560.2.1, bt560.2.2⟩ : S56)] : List (S56))) ([] : List Int) ([] : List Int)).bind fun t574 => (some (t574 == 41))) else (some false))) else (some false))) else (some false)))))))) = some r := h
 clear h
 obtain ⟨y526, hy526⟩ : ∃ y_ : List Int, y_ = (([2, 4] : List Int)) := ⟨_, rfl⟩
 replace H : ((l3_gate.f 6 4 8).bind fun bt529 => ((l3_gate.f 8 2 4).bind fun bt532 => ((order_Circuit.f 4 y526 ([] : List (S56)) (([(⟨bt529.1, bt529.2.1, bt529.2.2⟩ : S56), (⟨bt532.1, bt532.2.1, bt532.2.2⟩ : S56)] : List (S56))) ([] : List Int) ([] : List Int)).bind fun bt539 => ((l3_gate.f 6 8 2).bind fun bt557 => ((l3_gate.f 8 6 2).bind fun bt560 => (if bt539.2.2.2.2.2.2 = 0 then ((r2_SameInts.f k bt539.2.2.2.2.2.1 (([0, 1, 2, 4, 3] : List Int))).bind fun t569 => (if t569 = true then ((r2_Same.f k bt539.1 bt539.2.1 bt539.2.2.1 bt539.2.2.2.1 bt539.2.2.2.2.1 2 ([] : List (S61)) (([(⟨4, 2⟩ : S59), (⟨6, 4⟩ : S59)] : List (S59))) ([] : List Int) ([] : List Int)).bind fun t573 => (if t573 = true then ((order_Check.f 4 y526 ([] : List (S56)) (([(⟨bt557.1, bt557.2.1, bt557.2.2⟩ : S56), (⟨bt560.1, bt560.2.1, bt560.2.2⟩ : S56)] : List (S56))) ([] : List Int) ([] : List Int)).bind fun t574 => (some (t574 == 41))) else (some false))) else (some false))) else (some false))))))) = some r := by first | (rw [hy526]; with_reducible exact H) | (have H2_ := (Option.bind_some _ _).symm.trans H; rw [hy526]; with_reducible exact H2_) | (have H2_ := (Option.bind_some _ _).symm.trans H; with_reducible exact H2_) | with_reducible exact H | (rw [hy526]; exact H) | exact H
 have Ny526 := Aside0.mk hy526
 clear hy526
 replace H := Option.bind_eq_some_iff.mp H
 obtain ⟨⟨t529, t530, t531⟩, A10, H⟩ := H
 replace H : ((l3_gate.f 8 2 4).bind fun bt532 => ((order_Circuit.f 4 y526 ([] : List (S56)) (([(⟨t529, t530, t531⟩ : S56), (⟨bt532.1, bt532.2.1, bt532.2.2⟩ : S56)] : List (S56))) ([] : List Int) ([] : List Int)).bind fun bt539 => ((l3_gate.f 6 8 2).bind fun bt557 => ((l3_gate.f 8 6 2).bind fun bt560 => (if bt539.2.2.2.2.2.2 = 0 then ((r2_SameInts.f k bt539.2.2.2.2.2.1 (([0, 1, 2, 4, 3] : List Int))).bind fun t569 => (if t569 = true then ((r2_Same.f k bt539.1 bt539.2.1 bt539.2.2.1 bt539.2.2.2.1 bt539.2.2.2.2.1 2 ([] : List (S61)) (([(⟨4, 2⟩ : S59), (⟨6, 4⟩ : S59)] : List (S59))) ([] : List Int) ([] : List Int)).bind fun t573 => (if t573 = true then ((order_Check.f 4 y526 ([] : List (S56)) (([(⟨bt557.1, bt557.2.1, bt557.2.2⟩ : S56), (⟨bt560.1, bt560.2.1, bt560.2.2⟩ : S56)] : List (S56))) ([] : List Int) ([] : List Int)).bind fun t574 => (some (t574 == 41))) else (some false))) else (some false))) else (some false)))))) = some r := H
 have A1 := Aside0.mk A10
 clear A10
 replace H := Option.bind_eq_some_iff.mp H
 obtain ⟨⟨t532, t533, t534⟩, A20, H⟩ := H
 replace H : ((order_Circuit.f 4 y526 ([] : List (S56)) (([(⟨t529, t530, t531⟩ : S56), (⟨t532, t533, t534⟩ : S56)] : List (S56))) ([] : List Int) ([] : List Int)).bind fun bt539 => ((l3_gate.f 6 8 2).bind fun bt557 => ((l3_gate.f 8 6 2).bind fun bt560 => (if bt539.2.2.2.2.2.2 = 0 then ((r2_SameInts.f k bt539.2.2.2.2.2.1 (([0, 1, 2, 4, 3] : List Int))).bind fun t569 => (if t569 = true then ((r2_Same.f k bt539.1 bt539.2.1 bt539.2.2.1 bt539.2.2.2.1 bt539.2.2.2.2.1 2 ([] : List (S61)) (([(⟨4, 2⟩ : S59), (⟨6, 4⟩ : S59)] : List (S59))) ([] : List Int) ([] : List Int)).bind fun t573 => (if t573 = true then ((order_Check.f 4 y526 ([] : List (S56)) (([(⟨bt557.1, bt557.2.1, bt557.2.2⟩ : S56), (⟨bt560.1, bt560.2.1, bt560.2.2⟩ : S56)] : List (S56))) ([] : List Int) ([] : List Int)).bind fun t574 => (some (t574 == 41))) else (some false))) else (some false))) else (some false))))) = some r := H
 have A2 := Aside0.mk A20
 clear A20
 obtain ⟨y535, hy535⟩ : ∃ y_ : List (S56), y_ = (([(⟨t529, t530, t531⟩ : S56), (⟨t532, t533, t534⟩ : S56)] : List (S56))) := ⟨_, rfl⟩
 replace H : ((order_Circuit.f 4 y526 ([] : List (S56)) y535 ([] : List Int) ([] : List Int)).bind fun bt539 => ((l3_gate.f 6 8 2).bind fun bt557 => ((l3_gate.f 8 6 2).bind fun bt560 => (if bt539.2.2.2.2.2.2 = 0 then ((r2_SameInts.f k bt539.2.2.2.2.2.1 (([0, 1, 2, 4, 3] : List Int))).bind fun t569 => (if t569 = true then ((r2_Same.f k bt539.1 bt539.2.1 bt539.2.2.1 bt539.2.2.2.1 bt539.2.2.2.2.1 2 ([] : List (S61)) (([(⟨4, 2⟩ : S59), (⟨6, 4⟩ : S59)] : List (S59))) ([] : List Int) ([] : List Int)).bind fun t573 => (if t573 = true then ((order_Check.f 4 y526 ([] : List (S56)) (([(⟨bt557.1, bt557.2.1, bt557.2.2⟩ : S56), (⟨bt560.1, bt560.2.1, bt560.2.2⟩ : S56)] : List (S56))) ([] : List Int) ([] : List Int)).bind fun t574 => (some (t574 == 41))) else (some false))) else (some false))) else (some false))))) = some r := by first | (rw [hy535]; with_reducible exact H) | (have H2_ := (Option.bind_some _ _).symm.trans H; rw [hy535]; with_reducible exact H2_) | (have H2_ := (Option.bind_some _ _).symm.trans H; with_reducible exact H2_) | with_reducible exact H | (rw [hy535]; exact H) | exact H
 have Ny535 := Aside0.mk hy535
 clear hy535
 replace H := Option.bind_eq_some_iff.mp H
 obtain ⟨⟨t539, t540, t543, t546, t549, t552, t555⟩, A30, H⟩ := H
 replace H : ((l3_gate.f 6 8 2).bind fun bt557 => ((l3_gate.f 8 6 2).bind fun bt560 => (if t555 = 0 then ((r2_SameInts.f k t552 (([0, 1, 2, 4, 3] : List Int))).bind fun t569 => (if t569 = true then ((r2_Same.f k t539 t540 t543 t546 t549 2 ([] : List (S61)) (([(⟨4, 2⟩ : S59), (⟨6, 4⟩ : S59)] : List (S59))) ([] : List Int) ([] : List Int)).bind fun t573 => (if t573 = true then ((order_Check.f 4 y526 ([] : List (S56)) (([(⟨bt557.1, bt557.2.1, bt557.2.2⟩ : S56), (⟨bt560.1, bt560.2.1, bt560.2.2⟩ : S56)] : List (S56))) ([] : List Int) ([] : List Int)).bind fun t574 => (some (t574 == 41))) else (some false))) else (some false))) else (some false)))) = some r := H
 have A3 := Aside0.mk A30
 clear A30
 replace H := Option.bind_eq_some_iff.mp H
 obtain ⟨⟨t557, t558, t559⟩, A40, H⟩ := H
 replace H : ((l3_gate.f 8 6 2).bind fun bt560 => (if t555 = 0 then ((r2_SameInts.f k t552 (([0, 1, 2, 4, 3] : List Int))).bind fun t569 => (if t569 = true then ((r2_Same.f k t539 t540 t543 t546 t549 2 ([] : List (S61)) (([(⟨4, 2⟩ : S59), (⟨6, 4⟩ : S59)] : List (S59))) ([] : List Int) ([] : List Int)).bind fun t573 => (if t573 = true then ((order_Check.f 4 y526 ([] : List (S56)) (([(⟨t557, t558, t559⟩ : S56), (⟨bt560.1, bt560.2.1, bt560.2.2⟩ : S56)] : List (S56))) ([] : List Int) ([] : List Int)).bind fun t574 => (some (t574 == 41))) else (some false))) else (some false))) else (some false))) = some r := H
 have A4 := Aside0.mk A40
 clear A40
 replace H := Option.bind_eq_some_iff.mp H
 obtain ⟨⟨t560, t561, t562⟩, A50, H⟩ := H
 replace H : (if t555 = 0 then ((r2_SameInts.f k t552 (([0, 1, 2, 4, 3] : List Int))).bind fun t569 => (if t569 = true then ((r2_Same.f k t539 t540 t543 t546 t549 2 ([] : List (S61)) (([(⟨4, 2⟩ : S59), (⟨6, 4⟩ : S59)] : List (S59))) ([] : List Int) ([] : List Int)).bind fun t573 => (if t573 = true then ((order_Check.f 4 y526 ([] : List (S56)) (([(⟨t557, t558, t559⟩ : S56), (⟨t560, t561, t562⟩ : S56)] : List (S56))) ([] : List Int) ([] : List Int)).bind fun t574 => (some (t574 == 41))) else (some false))) else (some false))) else (some false)) = some r := H
 have A5 := Aside0.mk A50
 clear A50
 obtain ⟨y563, hy563⟩ : ∃ y_ : List (S56), y_ = (([(⟨t557, t558, t559⟩ : S56), (⟨t560, t561, t562⟩ : S56)] : List (S56))) := ⟨_, rfl⟩
 replace H : (if t555 = 0 then ((r2_SameInts.f k t552 (([0, 1, 2, 4, 3] : List Int))).bind fun t569 => (if t569 = true then ((r2_Same.f k t539 t540 t543 t546 t549 2 ([] : List (S61)) (([(⟨4, 2⟩ : S59), (⟨6, 4⟩ : S59)] : List (S59))) ([] : List Int) ([] : List Int)).bind fun t573 => (if t573 = true then ((order_Check.f 4 y526 ([] : List (S56)) y563 ([] : List Int) ([] : List Int)).bind fun t574 => (some (t574 == 41))) else (some false))) else (some false))) else (some false)) = some r := by first | (rw [hy563]; with_reducible exact H) | (have H2_ := (Option.bind_some _ _).symm.trans H; rw [hy563]; with_reducible exact H2_) | (have H2_ := (Option.bind_some _ _).symm.trans H; with_reducible exact H2_) | with_reducible exact H | (rw [hy563]; exact H) | exact H
 have Ny563 := Aside0.mk hy563
 clear hy563
 by_cases c6 : t555 = 0
 · rw [if_pos c6] at H
   have c6b0 : (t555 == 0) = true := beq_iff_eq.mpr c6
   have c6b1 : (t555 != 0) = false := bne_eq_false_iff_eq.mpr c6
   clear c6
   obtain ⟨y566, hy566⟩ : ∃ y_ : List Int, y_ = (([0, 1, 2, 4, 3] : List Int)) := ⟨_, rfl⟩
   replace H : ((r2_SameInts.f k t552 y566).bind fun t569 => (if t569 = true then ((r2_Same.f k t539 t540 t543 t546 t549 2 ([] : List (S61)) (([(⟨4, 2⟩ : S59), (⟨6, 4⟩ : S59)] : List (S59))) ([] : List Int) ([] : List Int)).bind fun t573 => (if t573 = true then ((order_Check.f 4 y526 ([] : List (S56)) y563 ([] : List Int) ([] : List Int)).bind fun t574 => (some (t574 == 41))) else (some false))) else (some false))) = some r := by first | (rw [hy566]; with_reducible exact H) | (have H2_ := (Option.bind_some _ _).symm.trans H; rw [hy566]; with_reducible exact H2_) | (have H2_ := (Option.bind_some _ _).symm.trans H; with_reducible exact H2_) | with_reducible exact H | (rw [hy566]; exact H) | exact H
   have Ny566 := Aside0.mk hy566
   clear hy566
   replace H := Option.bind_eq_some_iff.mp H
   obtain ⟨t569, A70, H⟩ := H
   replace H : (if t569 = true then ((r2_Same.f k t539 t540 t543 t546 t549 2 ([] : List (S61)) (([(⟨4, 2⟩ : S59), (⟨6, 4⟩ : S59)] : List (S59))) ([] : List Int) ([] : List Int)).bind fun t573 => (if t573 = true then ((order_Check.f 4 y526 ([] : List (S56)) y563 ([] : List Int) ([] : List Int)).bind fun t574 => (some (t574 == 41))) else (some false))) else (some false)) = some r := H
   have A7 := Aside0.mk A70
   clear A70
   by_cases c8 : t569 = true
   · subst c8
     have H1 : ((r2_Same.f k t539 t540 t543 t546 t549 2 ([] : List (S61)) (([(⟨4, 2⟩ : S59), (⟨6, 4⟩ : S59)] : List (S59))) ([] : List Int) ([] : List Int)).bind fun t573 => (if t573 = true then ((order_Check.f 4 y526 ([] : List (S56)) y563 ([] : List Int) ([] : List Int)).bind fun t574 => (some (t574 == 41))) else (some false))) = some r := by rw [if_pos rfl] at H; exact H
     clear H
     have H := H1
     clear H1
     obtain ⟨y570, hy570⟩ : ∃ y_ : List (S59), y_ = (([(⟨4, 2⟩ : S59), (⟨6, 4⟩ : S59)] : List (S59))) := ⟨_, rfl⟩
     replace H : ((r2_Same.f k t539 t540 t543 t546 t549 2 ([] : List (S61)) y570 ([] : List Int) ([] : List Int)).bind fun t573 => (if t573 = true then ((order_Check.f 4 y526 ([] : List (S56)) y563 ([] : List Int) ([] : List Int)).bind fun t574 => (some (t574 == 41))) else (some false))) = some r := by first | (rw [hy570]; with_reducible exact H) | (have H2_ := (Option.bind_some _ _).symm.trans H; rw [hy570]; with_reducible exact H2_) | (have H2_ := (Option.bind_some _ _).symm.trans H; with_reducible exact H2_) | with_reducible exact H | (rw [hy570]; exact H) | exact H
     have Ny570 := Aside0.mk hy570
     clear hy570
     replace H := Option.bind_eq_some_iff.mp H
     obtain ⟨t573, A90, H⟩ := H
     replace H : (if t573 = true then ((order_Check.f 4 y526 ([] : List (S56)) y563 ([] : List Int) ([] : List Int)).bind fun t574 => (some (t574 == 41))) else (some false)) = some r := H
     have A9 := Aside0.mk A90
     clear A90
     by_cases c10 : t573 = true
     · subst c10
       have H1 : ((order_Check.f 4 y526 ([] : List (S56)) y563 ([] : List Int) ([] : List Int)).bind fun t574 => (some (t574 == 41))) = some r := by rw [if_pos rfl] at H; exact H
       clear H
       have H := H1
       clear H1
       replace H := Option.bind_eq_some_iff.mp H
       obtain ⟨t574, A110, H⟩ := H
       replace H : (some (t574 == 41)) = some r := H
       have A11 := Aside0.mk A110
       clear A110
       obtain rfl := Option.some.inj H
       go_enter Try.func22, Try.ntmps22
       go_wp2_with (first | ((with_reducible refine gate_dst (N := 5) rfl ?_); (try (refine gate_guard (by rfl) ?_; dsimp only)); refine Kd.R_lit (Kd.int .i64) _ 3 ?hg (N := 5) ?hd (xs := ([2, 4] : List Int)) (inner := [.int .i64 2, .int .i64 4]) (ok := fun _ => True) (okp := fun _ => True) ?hr ?hp (fun _ hk => hk) trivial (Below.refl _ _) (Nat.le_refl _) (by simp) ?_; (case hd => rfl); (case hg => rfl); (case hr => first | (go_simp; done) | (go_simp; rfl)); (case hp => exact zq105); intro v527 w12 ho13 hb hg_ hnew_; clear hg_ hnew_; (first | rw [← Ny526.out] at ho13 | (simp only [Int.reduceToNat] at ho13; rw [← Ny526.out] at ho13)); have n0_ := Aside0.mk (Kd.R_lower ho13 (below_size zq107)); have n1_ := Aside0.mk (below_step zq107 hb); clear HB; have HO528 := n0_; have HB := n1_; clear n0_ n1_; clear hb ho13) | ((with_reducible refine gate_callee (f := 50) rfl ?_); refine goesL_ (some 6) rfl rfl Try.func50 (by kernel_rfl) rfl #[.int .i64 6, .int .i64 4, .int .i64 8] rfl zq106 ?_; (with_reducible refine (l3_gate.calls 6 4 8 t529 t530 t531 _ A1.out).mono ?_); rintro e w14 ⟨rfl, hb⟩; refine ⟨_, rfl, ?_⟩; have n0_ := Aside0.mk (Kd.R_below zq143 hb); have n1_ := Aside0.mk (below_step zq107 hb); clear HO528; clear HB; have HO528 := n0_; have HB := n1_; clear n0_ n1_; (try clear hb); (try clear hb2); (try clear hk); (try clear hi)) | ((with_reducible refine gate_callee (f := 50) rfl ?_); refine goesL_ (some 7) rfl rfl Try.func50 (by kernel_rfl) rfl #[.int .i64 8, .int .i64 2, .int .i64 4] rfl zq106 ?_; (with_reducible refine (l3_gate.calls 8 2 4 t532 t533 t534 _ A2.out).mono ?_); rintro e w15 ⟨rfl, hb⟩; refine ⟨_, rfl, ?_⟩; have n0_ := Aside0.mk (Kd.R_below zq143 hb); have n1_ := Aside0.mk (below_step zq107 hb); clear HO528; clear HB; have HO528 := n0_; have HB := n1_; clear n0_ n1_; (try clear hb); (try clear hb2); (try clear hk); (try clear hi)) | ((with_reducible refine gate_dst (N := 8) rfl ?_); (try (refine gate_guard (by rfl) ?_; dsimp only)); refine Kd.R_lit k56 _ 56 ?hg (N := 8) ?hd (xs := ([(⟨t529, t530, t531⟩ : S56), (⟨t532, t533, t534⟩ : S56)] : List (S56))) (inner := [.int .i64 t529, .int .i64 t530, .int .i64 t531, .int .i64 t532, .int .i64 t533, .int .i64 t534]) (ok := fun _ => True) (okp := fun _ => True) ?hr ?hp (fun _ hk => hk) trivial (Below.refl _ _) (Nat.le_refl _) (by simp) ?_; (case hd => rfl); (case hg => rfl); (case hr => first | (go_simp; done) | (go_simp; rfl)); (case hp => exact zq36); intro v536 w16 ho17 hb hg_ hnew_; clear hg_ hnew_; (first | rw [← Ny535.out] at ho17 | (simp only [Int.reduceToNat] at ho17; rw [← Ny535.out] at ho17)); have n0_ := Aside0.mk (Kd.R_below zq143 hb); have n1_ := Aside0.mk (Kd.R_lower ho17 (below_size zq107)); have n2_ := Aside0.mk (below_step zq107 hb); clear HO528; clear HB; have HO528 := n0_; have HO537 := n1_; have HB := n2_; clear n0_ n1_ n2_; clear hb ho17; obtain ⟨Ao18, co18, eo18⟩ := Kd.R_slice HO537.out; subst eo18; obtain ⟨Ao19, co19, eo19⟩ := Kd.R_slice HO528.out; subst eo19) | ((with_reducible refine gate_dst (N := 1) rfl ?_); (try (refine gate_guard (by rfl) ?_; dsimp only)); refine box_event ?hg (N := 1) ?hd (cs := #[.int .i64 0, .slice none 0 0, .slice none 0 0, .slice none 0 0, .slice none 0 0, .slice none 0 0]) (t := 30) ?hr ?_; (case hd => rfl); (case hg => rfl); (case hr => first | (go_simp; done) | (go_simp; rfl)); intro gb538 hg w20 hbox hb; have n0_ := Aside0.mk (Kd.R_below zq143 hb); have n1_ := Aside0.mk (Kd.R_below zq144 hb); have n2_ := Aside0.mk (below_step zq107 hb); have n3_ := Aside0.mk (hbox); have n4_ := Aside0.mk ((zq97 : w.heap.size ≤ gb538)); have n5_ := Aside0.mk ((zq97 : w.heap.size ≤ gb538)); clear HO528; clear HO537; clear HB; have HO528 := n0_; have HO537 := n1_; have HB := n2_; have BK538 := n3_; have GW538 := n4_; have GE538 := n5_; clear n0_ n1_ n2_ n3_ n4_ n5_; clear hb hbox hg; obtain ⟨b21_0, b21_1, b21_2, b21_3, b21_4, b21_5, d21_0, d21_1, d21_2, d21_3, d21_4, d21_5⟩ := bk6 BK538.out) | ((with_reducible refine gate_callee (f := 16) rfl ?_); refine goesL_ (some 12) rfl rfl Try.func16 (by kernel_rfl) rfl #[.agg #[.int .i64 4, .slice Ao19 y526.length co19, .slice none 0 0, .slice Ao18 y535.length co18, .slice none 0 0, .slice none 0 0]] rfl zq106 ?_; (refine (order_Circuit.calls 4 _ _ y526 _ _ ([] : List (S56)) _ _ y535 _ _ ([] : List Int) _ _ ([] : List Int) t539 t540 t543 t546 t549 t552 t555 _ ?side1 ?side2 ?side3 ?side4 ?side5 ?side6 ?side7 ?side8 ?side9 ?side10 A3.out).mono ?_); (case side1 => refine (Kd.R_reads' (e := 3) (base := w.heap.size) (ok := fun k_ => True) (n := y526.length) (c := co19) ?_).2.2; exact zq7); (case side2 => exact (Kd.R_reads' HO528.out).2.1); (case side3 => exact Kd.C_nil _ _); (case side4 => exact Nat.le_refl _); (case side5 => refine (Kd.R_reads' (e := 56) (base := w.heap.size) (ok := fun k_ => True) (n := y535.length) (c := co18) ?_).2.2; exact zq10); (case side6 => exact (Kd.R_reads' HO537.out).2.1); (case side7 => exact Kd.C_nil _ _); (case side8 => exact Nat.le_refl _); (case side9 => exact Kd.C_nil _ _); (case side10 => exact Nat.le_refl _); rintro e w22 ⟨v541, v544, v547, v550, v553, rfl, ho0, ho1, ho2, ho3, ho4, hb⟩; refine ⟨_, rfl, ?_⟩; have n0_ := Aside0.mk (Kd.R_mono (Kd.R_told (Kd.R_told (Kd.R_told (Kd.R_old zq7 hb) (Kd.R_base ho2)) (Kd.R_base ho3)) (Kd.R_base ho4)) (fun _ h_ => h_.1)); have n1_ := Aside0.mk (Kd.R_below zq10 hb); have n2_ := Aside0.mk (Kd.R_lower ho0 (below_size zq103)); have n3_ := Aside0.mk (Kd.R_lower ho1 (below_size zq103)); have n4_ := Aside0.mk (Kd.R_lower (Kd.R_new' ho2 (Kd.R_lt zq7)) (below_size zq103)); have n5_ := Aside0.mk (Kd.R_lower (Kd.R_new' ho3 (Kd.R_lt zq7)) (below_size zq103)); have n6_ := Aside0.mk (Kd.R_lower (Kd.R_new' ho4 (Kd.R_lt zq7)) (below_size zq103)); have n7_ := Aside0.mk (blk_below (g := gb538) (o := .cells #[.int .i64 4, .slice Ao19 y526.length co19, .slice none 0 0, .slice Ao18 y535.length co18, .slice none 0 0, .slice none 0 0] 30 (0, 0)) (by (with_reducible repeat (first | refine blk_drewN ?_ _ | refine blk_drew ?_ | refine blk_alloc ?_ _)); refine blk_put (cs := #[.int .i64 4, .slice Ao19 y526.length co19, .slice none 0 0, .slice Ao18 y535.length co18, .slice none 0 0, .slice none 0 0]) ?_ 5 _ rfl; (with_reducible repeat (first | refine blk_drewN ?_ _ | refine blk_drew ?_ | refine blk_alloc ?_ _)); refine blk_put (cs := #[.int .i64 4, .slice Ao19 y526.length co19, .slice none 0 0, .slice Ao18 y535.length co18, .slice none 0 0, .slice none 0 0]) ?_ 4 _ rfl; (with_reducible repeat (first | refine blk_drewN ?_ _ | refine blk_drew ?_ | refine blk_alloc ?_ _)); refine blk_put (cs := #[.int .i64 4, .slice Ao19 y526.length co19, .slice none 0 0, .slice none 0 0, .slice none 0 0, .slice none 0 0]) ?_ 3 _ rfl; (with_reducible repeat (first | refine blk_drewN ?_ _ | refine blk_drew ?_ | refine blk_alloc ?_ _)); refine blk_put (cs := #[.int .i64 4, .slice Ao19 y526.length co19, .slice none 0 0, .slice none 0 0, .slice none 0 0, .slice none 0 0]) ?_ 2 _ rfl; (with_reducible repeat (first | refine blk_drewN ?_ _ | refine blk_drew ?_ | refine blk_alloc ?_ _)); refine blk_put (cs := #[.int .i64 4, .slice none 0 0, .slice none 0 0, .slice none 0 0, .slice none 0 0, .slice none 0 0]) ?_ 1 _ rfl; (with_reducible repeat (first | refine blk_drewN ?_ _ | refine blk_drew ?_ | refine blk_alloc ?_ _)); refine blk_put (cs := #[.int .i64 0, .slice none 0 0, .slice none 0 0, .slice none 0 0, .slice none 0 0, .slice none 0 0]) ?_ 0 _ rfl; (with_reducible repeat (first | refine blk_drewN ?_ _ | refine blk_drew ?_ | refine blk_alloc ?_ _)); exact BK538.out) hb); have n8_ := Aside0.mk (below_step zq103 hb); clear HO528; clear HO537; clear BK538; clear HB; have HO528 := n0_; have HO537 := n1_; have HO542 := n2_; have HO545 := n3_; have HO548 := n4_; have HO551 := n5_; have HO554 := n6_; have BK538 := n7_; have HB := n8_; clear n0_ n1_ n2_ n3_ n4_ n5_ n6_ n7_ n8_; (try clear hb); (try clear hb2); (try clear hk); (try clear hi); (try clear ho0); (try clear ho1); (try clear ho2); (try clear ho3); (try clear ho4)) | ((with_reducible refine gate_dst (N := 2) rfl ?_); (try (refine gate_guard (by rfl) ?_; dsimp only)); refine box_event ?hg (N := 2) ?hd (cs := #[.int .i64 0, .slice none 0 0, .slice none 0 0, .slice none 0 0, .slice none 0 0]) (t := 26) ?hr ?_; (case hd => rfl); (case hg => rfl); (case hr => first | (go_simp; done) | (go_simp; rfl)); intro gb556 hg w23 hbox hb; have n0_ := Aside0.mk (Kd.R_below zq143 hb); have n1_ := Aside0.mk (Kd.R_below zq144 hb); have n2_ := Aside0.mk (Kd.R_below zq145 hb); have n3_ := Aside0.mk (Kd.R_below zq146 hb); have n4_ := Aside0.mk (Kd.R_below zq147 hb); have n5_ := Aside0.mk (Kd.R_below zq148 hb); have n6_ := Aside0.mk (Kd.R_below zq149 hb); have n7_ := Aside0.mk (blk_below (g := gb538) (o := .cells #[.int .i64 4, .slice Ao19 y526.length co19, .slice none 0 0, .slice Ao18 y535.length co18, .slice none 0 0, .slice none 0 0] 30 (0, 0)) zq114 hb); have n8_ := Aside0.mk (below_step zq103 hb); have n9_ := Aside0.mk (hbox); have n10_ := Aside0.mk ((zq75 : w.heap.size ≤ gb556)); have n11_ := Aside0.mk ((zq75 : w.heap.size ≤ gb556)); have n12_ := Aside0.mk ((by rw [hg]; exact Nat.ne_of_lt (blk_lt (g := gb538) (o := .cells #[.int .i64 4, .slice Ao19 y526.length co19, .slice none 0 0, .slice Ao18 y535.length co18, .slice none 0 0, .slice none 0 0] 30 (0, 0)) zq114) : gb538 ≠ gb556)); have n13_ := Aside0.mk ((by rw [hg]; exact Nat.ne_of_gt (blk_lt (g := gb538) (o := .cells #[.int .i64 4, .slice Ao19 y526.length co19, .slice none 0 0, .slice Ao18 y535.length co18, .slice none 0 0, .slice none 0 0] 30 (0, 0)) zq114) : gb556 ≠ gb538)); clear HO528; clear HO537; clear HO542; clear HO545; clear HO548; clear HO551; clear HO554; clear BK538; clear HB; have HO528 := n0_; have HO537 := n1_; have HO542 := n2_; have HO545 := n3_; have HO548 := n4_; have HO551 := n5_; have HO554 := n6_; have BK538 := n7_; have HB := n8_; have BK556 := n9_; have GW556 := n10_; have GE556 := n11_; have NB538_556 := n12_; have NB556_538 := n13_; clear n0_ n1_ n2_ n3_ n4_ n5_ n6_ n7_ n8_ n9_ n10_ n11_ n12_ n13_; clear hb hbox hg; have hnb24 := NB556_538.out; have hnc24 := NB538_556.out; obtain ⟨b25_0, b25_1, b25_2, b25_3, b25_4, d25_0, d25_1, d25_2, d25_3, d25_4⟩ := bk5 BK556.out; obtain ⟨Ao26, co26, eo26⟩ := Kd.R_slice HO542.out; subst eo26; obtain ⟨Ao27, co27, eo27⟩ := Kd.R_slice HO545.out; subst eo27; obtain ⟨Ao28, co28, eo28⟩ := Kd.R_slice HO548.out; subst eo28; obtain ⟨Ao29, co29, eo29⟩ := Kd.R_slice HO551.out; subst eo29) | ((with_reducible refine gate_callee (f := 50) rfl ?_); refine goesL_ (some 16) rfl rfl Try.func50 (by kernel_rfl) rfl #[.int .i64 6, .int .i64 8, .int .i64 2] rfl zq106 ?_; (with_reducible refine (l3_gate.calls 6 8 2 t557 t558 t559 _ A4.out).mono ?_); rintro e w30 ⟨rfl, hb⟩; refine ⟨_, rfl, ?_⟩; have n0_ := Aside0.mk (Kd.R_below (by (with_reducible repeat (first | apply Kd.R_alloc | apply Kd.R_drewN | apply Kd.R_drew)); exact (Kd.R_mono (Kd.R_far (p := ⟨gb556, 4, none⟩) (Kd.R_far (p := ⟨gb556, 3, none⟩) (Kd.R_far (p := ⟨gb556, 2, none⟩) (Kd.R_far (p := ⟨gb556, 1, none⟩) (Kd.R_far (p := ⟨gb556, 0, none⟩) (Kd.R_types HO528.out BK556.out (by decide)) (fun _ hk => by first | exact hk.2 | exact hk) (.int .i64 t539)) (fun _ hk => by first | exact hk.2 | exact hk) (.slice Ao26 t540.length co26)) (fun _ hk => by first | exact hk.2 | exact hk) (.slice Ao27 t543.length co27)) (fun _ hk => by first | exact hk.2 | exact hk) (.slice Ao28 t546.length co28)) (fun _ hk => by first | exact hk.2 | exact hk) (.slice Ao29 t549.length co29)) (fun _ h_ => h_.1))) hb); have n1_ := Aside0.mk (Kd.R_below (by (with_reducible repeat (first | apply Kd.R_alloc | apply Kd.R_drewN | apply Kd.R_drew)); exact (Kd.R_mono (Kd.R_far (p := ⟨gb556, 4, none⟩) (Kd.R_far (p := ⟨gb556, 3, none⟩) (Kd.R_far (p := ⟨gb556, 2, none⟩) (Kd.R_far (p := ⟨gb556, 1, none⟩) (Kd.R_far (p := ⟨gb556, 0, none⟩) (Kd.R_types HO537.out BK556.out (by decide)) (fun _ hk => by first | exact hk.2 | exact hk) (.int .i64 t539)) (fun _ hk => by first | exact hk.2 | exact hk) (.slice Ao26 t540.length co26)) (fun _ hk => by first | exact hk.2 | exact hk) (.slice Ao27 t543.length co27)) (fun _ hk => by first | exact hk.2 | exact hk) (.slice Ao28 t546.length co28)) (fun _ hk => by first | exact hk.2 | exact hk) (.slice Ao29 t549.length co29)) (fun _ h_ => h_.1))) hb); have n2_ := Aside0.mk (Kd.R_below (by (with_reducible repeat (first | apply Kd.R_alloc | apply Kd.R_drewN | apply Kd.R_drew)); exact (Kd.R_mono (Kd.R_far (p := ⟨gb556, 4, none⟩) (Kd.R_far (p := ⟨gb556, 3, none⟩) (Kd.R_far (p := ⟨gb556, 2, none⟩) (Kd.R_far (p := ⟨gb556, 1, none⟩) (Kd.R_far (p := ⟨gb556, 0, none⟩) (Kd.R_types HO542.out BK556.out (by decide)) (fun _ hk => by first | exact hk.2 | exact hk) (.int .i64 t539)) (fun _ hk => by first | exact hk.2 | exact hk) (.slice Ao26 t540.length co26)) (fun _ hk => by first | exact hk.2 | exact hk) (.slice Ao27 t543.length co27)) (fun _ hk => by first | exact hk.2 | exact hk) (.slice Ao28 t546.length co28)) (fun _ hk => by first | exact hk.2 | exact hk) (.slice Ao29 t549.length co29)) (fun _ h_ => h_.1))) hb); have n3_ := Aside0.mk (Kd.R_below (by (with_reducible repeat (first | apply Kd.R_alloc | apply Kd.R_drewN | apply Kd.R_drew)); exact (Kd.R_mono (Kd.R_far (p := ⟨gb556, 4, none⟩) (Kd.R_far (p := ⟨gb556, 3, none⟩) (Kd.R_far (p := ⟨gb556, 2, none⟩) (Kd.R_far (p := ⟨gb556, 1, none⟩) (Kd.R_far (p := ⟨gb556, 0, none⟩) (Kd.R_types HO545.out BK556.out (by decide)) (fun _ hk => by first | exact hk.2 | exact hk) (.int .i64 t539)) (fun _ hk => by first | exact hk.2 | exact hk) (.slice Ao26 t540.length co26)) (fun _ hk => by first | exact hk.2 | exact hk) (.slice Ao27 t543.length co27)) (fun _ hk => by first | exact hk.2 | exact hk) (.slice Ao28 t546.length co28)) (fun _ hk => by first | exact hk.2 | exact hk) (.slice Ao29 t549.length co29)) (fun _ h_ => h_.1))) hb); have n4_ := Aside0.mk (Kd.R_below (by (with_reducible repeat (first | apply Kd.R_alloc | apply Kd.R_drewN | apply Kd.R_drew)); exact (Kd.R_mono (Kd.R_far (p := ⟨gb556, 4, none⟩) (Kd.R_far (p := ⟨gb556, 3, none⟩) (Kd.R_far (p := ⟨gb556, 2, none⟩) (Kd.R_far (p := ⟨gb556, 1, none⟩) (Kd.R_far (p := ⟨gb556, 0, none⟩) (Kd.R_types HO548.out BK556.out (by decide)) (fun _ hk => by first | exact hk.2 | exact hk) (.int .i64 t539)) (fun _ hk => by first | exact hk.2 | exact hk) (.slice Ao26 t540.length co26)) (fun _ hk => by first | exact hk.2 | exact hk) (.slice Ao27 t543.length co27)) (fun _ hk => by first | exact hk.2 | exact hk) (.slice Ao28 t546.length co28)) (fun _ hk => by first | exact hk.2 | exact hk) (.slice Ao29 t549.length co29)) (fun _ h_ => h_.1))) hb); have n5_ := Aside0.mk (Kd.R_below (by (with_reducible repeat (first | apply Kd.R_alloc | apply Kd.R_drewN | apply Kd.R_drew)); exact (Kd.R_mono (Kd.R_far (p := ⟨gb556, 4, none⟩) (Kd.R_far (p := ⟨gb556, 3, none⟩) (Kd.R_far (p := ⟨gb556, 2, none⟩) (Kd.R_far (p := ⟨gb556, 1, none⟩) (Kd.R_far (p := ⟨gb556, 0, none⟩) (Kd.R_types HO551.out BK556.out (by decide)) (fun _ hk => by first | exact hk.2 | exact hk) (.int .i64 t539)) (fun _ hk => by first | exact hk.2 | exact hk) (.slice Ao26 t540.length co26)) (fun _ hk => by first | exact hk.2 | exact hk) (.slice Ao27 t543.length co27)) (fun _ hk => by first | exact hk.2 | exact hk) (.slice Ao28 t546.length co28)) (fun _ hk => by first | exact hk.2 | exact hk) (.slice Ao29 t549.length co29)) (fun _ h_ => h_.1))) hb); have n6_ := Aside0.mk (Kd.R_below (by (with_reducible repeat (first | apply Kd.R_alloc | apply Kd.R_drewN | apply Kd.R_drew)); exact (Kd.R_mono (Kd.R_far (p := ⟨gb556, 4, none⟩) (Kd.R_far (p := ⟨gb556, 3, none⟩) (Kd.R_far (p := ⟨gb556, 2, none⟩) (Kd.R_far (p := ⟨gb556, 1, none⟩) (Kd.R_far (p := ⟨gb556, 0, none⟩) (Kd.R_types HO554.out BK556.out (by decide)) (fun _ hk => by first | exact hk.2 | exact hk) (.int .i64 t539)) (fun _ hk => by first | exact hk.2 | exact hk) (.slice Ao26 t540.length co26)) (fun _ hk => by first | exact hk.2 | exact hk) (.slice Ao27 t543.length co27)) (fun _ hk => by first | exact hk.2 | exact hk) (.slice Ao28 t546.length co28)) (fun _ hk => by first | exact hk.2 | exact hk) (.slice Ao29 t549.length co29)) (fun _ h_ => h_.1))) hb); have n7_ := Aside0.mk (blk_below (g := gb538) (o := .cells #[.int .i64 4, .slice Ao19 y526.length co19, .slice none 0 0, .slice Ao18 y535.length co18, .slice none 0 0, .slice none 0 0] 30 (0, 0)) zq1 hb); have n8_ := Aside0.mk (blk_below (g := gb556) (o := .cells #[.int .i64 t539, .slice Ao26 t540.length co26, .slice Ao27 t543.length co27, .slice Ao28 t546.length co28, .slice Ao29 t549.length co29] 26 (0, 0)) (by (with_reducible repeat (first | refine blk_drewN ?_ _ | refine blk_drew ?_ | refine blk_alloc ?_ _)); refine blk_put (cs := #[.int .i64 t539, .slice Ao26 t540.length co26, .slice Ao27 t543.length co27, .slice Ao28 t546.length co28, .slice none 0 0]) ?_ 4 _ rfl; (with_reducible repeat (first | refine blk_drewN ?_ _ | refine blk_drew ?_ | refine blk_alloc ?_ _)); refine blk_put (cs := #[.int .i64 t539, .slice Ao26 t540.length co26, .slice Ao27 t543.length co27, .slice none 0 0, .slice none 0 0]) ?_ 3 _ rfl; (with_reducible repeat (first | refine blk_drewN ?_ _ | refine blk_drew ?_ | refine blk_alloc ?_ _)); refine blk_put (cs := #[.int .i64 t539, .slice Ao26 t540.length co26, .slice none 0 0, .slice none 0 0, .slice none 0 0]) ?_ 2 _ rfl; (with_reducible repeat (first | refine blk_drewN ?_ _ | refine blk_drew ?_ | refine blk_alloc ?_ _)); refine blk_put (cs := #[.int .i64 t539, .slice none 0 0, .slice none 0 0, .slice none 0 0, .slice none 0 0]) ?_ 1 _ rfl; (with_reducible repeat (first | refine blk_drewN ?_ _ | refine blk_drew ?_ | refine blk_alloc ?_ _)); refine blk_put (cs := #[.int .i64 0, .slice none 0 0, .slice none 0 0, .slice none 0 0, .slice none 0 0]) ?_ 0 _ rfl; (with_reducible repeat (first | refine blk_drewN ?_ _ | refine blk_drew ?_ | refine blk_alloc ?_ _)); exact BK556.out) hb); have n9_ := Aside0.mk (below_step zq82 hb); clear HO528; clear HO537; clear HO542; clear HO545; clear HO548; clear HO551; clear HO554; clear BK538; clear BK556; clear HB; have HO528 := n0_; have HO537 := n1_; have HO542 := n2_; have HO545 := n3_; have HO548 := n4_; have HO551 := n5_; have HO554 := n6_; have BK538 := n7_; have BK556 := n8_; have HB := n9_; clear n0_ n1_ n2_ n3_ n4_ n5_ n6_ n7_ n8_ n9_; (try clear hb); (try clear hb2); (try clear hk); (try clear hi)) | ((with_reducible refine gate_callee (f := 50) rfl ?_); refine goesL_ (some 17) rfl rfl Try.func50 (by kernel_rfl) rfl #[.int .i64 8, .int .i64 6, .int .i64 2] rfl zq106 ?_; (with_reducible refine (l3_gate.calls 8 6 2 t560 t561 t562 _ A5.out).mono ?_); rintro e w31 ⟨rfl, hb⟩; refine ⟨_, rfl, ?_⟩; have n0_ := Aside0.mk (Kd.R_below zq143 hb); have n1_ := Aside0.mk (Kd.R_below zq144 hb); have n2_ := Aside0.mk (Kd.R_below zq145 hb); have n3_ := Aside0.mk (Kd.R_below zq146 hb); have n4_ := Aside0.mk (Kd.R_below zq147 hb); have n5_ := Aside0.mk (Kd.R_below zq148 hb); have n6_ := Aside0.mk (Kd.R_below zq149 hb); have n7_ := Aside0.mk (blk_below (g := gb538) (o := .cells #[.int .i64 4, .slice Ao19 y526.length co19, .slice none 0 0, .slice Ao18 y535.length co18, .slice none 0 0, .slice none 0 0] 30 (0, 0)) zq114 hb); have n8_ := Aside0.mk (blk_below (g := gb556) (o := .cells #[.int .i64 t539, .slice Ao26 t540.length co26, .slice Ao27 t543.length co27, .slice Ao28 t546.length co28, .slice Ao29 t549.length co29] 26 (0, 0)) zq115 hb); have n9_ := Aside0.mk (below_step zq82 hb); clear HO528; clear HO537; clear HO542; clear HO545; clear HO548; clear HO551; clear HO554; clear BK538; clear BK556; clear HB; have HO528 := n0_; have HO537 := n1_; have HO542 := n2_; have HO545 := n3_; have HO548 := n4_; have HO551 := n5_; have HO554 := n6_; have BK538 := n7_; have BK556 := n8_; have HB := n9_; clear n0_ n1_ n2_ n3_ n4_ n5_ n6_ n7_ n8_ n9_; (try clear hb); (try clear hb2); (try clear hk); (try clear hi)) | ((with_reducible refine gate_dst (N := 18) rfl ?_); (try (refine gate_guard (by rfl) ?_; dsimp only)); refine Kd.R_lit k56 _ 56 ?hg (N := 18) ?hd (xs := ([(⟨t557, t558, t559⟩ : S56), (⟨t560, t561, t562⟩ : S56)] : List (S56))) (inner := [.int .i64 t557, .int .i64 t558, .int .i64 t559, .int .i64 t560, .int .i64 t561, .int .i64 t562]) (ok := fun _ => True) (okp := fun _ => True) ?hr ?hp (fun _ hk => hk) trivial (Below.refl _ _) (Nat.le_refl _) (by simp) ?_; (case hd => rfl); (case hg => rfl); (case hr => first | (go_simp; done) | (go_simp; rfl)); (case hp => exact zq37); intro v564 w32 ho33 hb hg_ hnew_; clear hg_ hnew_; (first | rw [← Ny563.out] at ho33 | (simp only [Int.reduceToNat] at ho33; rw [← Ny563.out] at ho33)); have n0_ := Aside0.mk (Kd.R_below zq143 hb); have n1_ := Aside0.mk (Kd.R_elder' zq144 (Kd.R_base ho33) hb); have n2_ := Aside0.mk (Kd.R_below zq145 hb); have n3_ := Aside0.mk (Kd.R_below zq146 hb); have n4_ := Aside0.mk (Kd.R_below zq147 hb); have n5_ := Aside0.mk (Kd.R_below zq148 hb); have n6_ := Aside0.mk (Kd.R_below zq149 hb); have n7_ := Aside0.mk (Kd.R_lower (Kd.R_new' ho33 (Kd.R_lt zq144)) (below_size zq82)); have n8_ := Aside0.mk (blk_below (g := gb538) (o := .cells #[.int .i64 4, .slice Ao19 y526.length co19, .slice none 0 0, .slice Ao18 y535.length co18, .slice none 0 0, .slice none 0 0] 30 (0, 0)) zq114 hb); have n9_ := Aside0.mk (blk_below (g := gb556) (o := .cells #[.int .i64 t539, .slice Ao26 t540.length co26, .slice Ao27 t543.length co27, .slice Ao28 t546.length co28, .slice Ao29 t549.length co29] 26 (0, 0)) zq115 hb); have n10_ := Aside0.mk (below_step zq82 hb); clear HO528; clear HO537; clear HO542; clear HO545; clear HO548; clear HO551; clear HO554; clear BK538; clear BK556; clear HB; have HO528 := n0_; have HO537 := n1_; have HO542 := n2_; have HO545 := n3_; have HO548 := n4_; have HO551 := n5_; have HO554 := n6_; have HO565 := n7_; have BK538 := n8_; have BK556 := n9_; have HB := n10_; clear n0_ n1_ n2_ n3_ n4_ n5_ n6_ n7_ n8_ n9_ n10_; clear hb ho33; obtain ⟨Ao34, co34, eo34⟩ := Kd.R_slice HO565.out; subst eo34; obtain ⟨b35_0, b35_1, b35_2, b35_3, b35_4, b35_5, d35_0, d35_1, d35_2, d35_3, d35_4, d35_5⟩ := bk6 BK538.out) | ((with_reducible refine gate_dst (N := 24) rfl ?_); (try (refine gate_guard (by rfl) ?_; dsimp only)); refine Kd.R_lit (Kd.int .i64) _ 3 ?hg (N := 24) ?hd (xs := ([0, 1, 2, 4, 3] : List Int)) (inner := [.int .i64 0, .int .i64 1, .int .i64 2, .int .i64 4, .int .i64 3]) (ok := fun _ => True) (okp := fun _ => True) ?hr ?hp (fun _ hk => hk) trivial (Below.refl _ _) (Nat.le_refl _) (by simp) ?_; (case hd => rfl); (case hg => rfl); (case hr => first | (go_simp; done) | (go_simp; rfl)); (case hp => exact zq35); intro v567 w36 ho37 hb hg_ hnew_; clear hg_ hnew_; (first | rw [← Ny566.out] at ho37 | (simp only [Int.reduceToNat] at ho37; rw [← Ny566.out] at ho37)); have n0_ := Aside0.mk (Kd.R_elder' zq49 (Kd.R_base ho37) hb); have n1_ := Aside0.mk (Kd.R_below (by (with_reducible repeat (first | apply Kd.R_alloc | apply Kd.R_drewN | apply Kd.R_drew)); exact (Kd.R_mono (Kd.R_far (p := ⟨gb538, 3, none⟩) (Kd.R_types HO537.out BK538.out (by decide)) (fun _ hk => by first | exact hk.2 | exact hk) (.slice Ao34 y563.length co34)) (fun _ h_ => h_.1))) hb); have n2_ := Aside0.mk (Kd.R_below (by (with_reducible repeat (first | apply Kd.R_alloc | apply Kd.R_drewN | apply Kd.R_drew)); exact (Kd.R_mono (Kd.R_far (p := ⟨gb538, 3, none⟩) (Kd.R_types HO542.out BK538.out (by decide)) (fun _ hk => by first | exact hk.2 | exact hk) (.slice Ao34 y563.length co34)) (fun _ h_ => h_.1))) hb); have n3_ := Aside0.mk (Kd.R_below (by (with_reducible repeat (first | apply Kd.R_alloc | apply Kd.R_drewN | apply Kd.R_drew)); exact (Kd.R_mono (Kd.R_far (p := ⟨gb538, 3, none⟩) (Kd.R_types HO545.out BK538.out (by decide)) (fun _ hk => by first | exact hk.2 | exact hk) (.slice Ao34 y563.length co34)) (fun _ h_ => h_.1))) hb); have n4_ := Aside0.mk (Kd.R_elder' zq51 (Kd.R_base ho37) hb); have n5_ := Aside0.mk (Kd.R_elder' zq53 (Kd.R_base ho37) hb); have n6_ := Aside0.mk (Kd.R_elder' zq55 (Kd.R_base ho37) hb); have n7_ := Aside0.mk (Kd.R_below (by (with_reducible repeat (first | apply Kd.R_alloc | apply Kd.R_drewN | apply Kd.R_drew)); exact (Kd.R_mono (Kd.R_far (p := ⟨gb538, 3, none⟩) (Kd.R_types HO565.out BK538.out (by decide)) (fun _ hk => by first | exact hk.2 | exact hk) (.slice Ao34 y563.length co34)) (fun _ h_ => h_.1))) hb); have n8_ := Aside0.mk (Kd.R_lower (Kd.R_new' (Kd.R_new' (Kd.R_new' (Kd.R_new' ho37 (Kd.R_lt zq49)) (Kd.R_lt zq51)) (Kd.R_lt zq53)) (Kd.R_lt zq55)) (below_size zq82)); have n9_ := Aside0.mk (blk_below (g := gb538) (o := .cells #[.int .i64 4, .slice Ao19 y526.length co19, .slice none 0 0, .slice Ao34 y563.length co34, .slice none 0 0, .slice none 0 0] 30 (0, 0)) (by (with_reducible repeat (first | refine blk_drewN ?_ _ | refine blk_drew ?_ | refine blk_alloc ?_ _)); refine blk_put (cs := #[.int .i64 4, .slice Ao19 y526.length co19, .slice none 0 0, .slice Ao18 y535.length co18, .slice none 0 0, .slice none 0 0]) ?_ 3 _ rfl; (with_reducible repeat (first | refine blk_drewN ?_ _ | refine blk_drew ?_ | refine blk_alloc ?_ _)); exact BK538.out) hb); have n10_ := Aside0.mk (blk_below (g := gb556) (o := .cells #[.int .i64 t539, .slice Ao26 t540.length co26, .slice Ao27 t543.length co27, .slice Ao28 t546.length co28, .slice Ao29 t549.length co29] 26 (0, 0)) zq63 hb); have n11_ := Aside0.mk (below_step zq82 hb); clear HO528; clear HO537; clear HO542; clear HO545; clear HO548; clear HO551; clear HO554; clear HO565; clear BK538; clear BK556; clear HB; have HO528 := n0_; have HO537 := n1_; have HO542 := n2_; have HO545 := n3_; have HO548 := n4_; have HO551 := n5_; have HO554 := n6_; have HO565 := n7_; have HO568 := n8_; have BK538 := n9_; have BK556 := n10_; have HB := n11_; clear n0_ n1_ n2_ n3_ n4_ n5_ n6_ n7_ n8_ n9_ n10_ n11_; clear hb ho37; obtain ⟨Ao38, co38, eo38⟩ := Kd.R_slice HO554.out; subst eo38; obtain ⟨Ao39, co39, eo39⟩ := Kd.R_slice HO568.out; subst eo39) | (go_at_call 21; (with_reducible refine (r2_SameInts.calls k _ _ t552 _ _ y566 true _ ?side1 ?side2 ?side3 ?side4 A7.out).mono ?_); (case side1 => exact zq94); (case side2 => exact (Kd.R_reads' HO554.out).2.1); (case side3 => exact zq95); (case side4 => exact (Kd.R_reads' HO568.out).2.1); rintro e w' ⟨rfl, ⟨nd, rfl⟩⟩; obtain ⟨b40_0, b40_1, b40_2, b40_3, b40_4, d40_0, d40_1, d40_2, d40_3, d40_4⟩ := bk5 BK556.out) | ((with_reducible refine gate_dst (N := 31) rfl ?_); (try (refine gate_guard (by rfl) ?_; dsimp only)); refine Kd.R_lit k59 _ 59 ?hg (N := 31) ?hd (xs := ([(⟨4, 2⟩ : S59), (⟨6, 4⟩ : S59)] : List (S59))) (inner := [.int .i64 4, .int .i64 2, .int .i64 6, .int .i64 4]) (ok := fun _ => True) (okp := fun _ => True) ?hr ?hp (fun _ hk => hk) trivial (Below.refl _ _) (Nat.le_refl _) (by simp) ?_; (case hd => rfl); (case hg => rfl); (case hr => first | (go_simp; done) | (go_simp; rfl)); (case hp => exact zq64); intro v571 w41 ho42 hb hg_ hnew_; clear hg_ hnew_; (first | rw [← Ny570.out] at ho42 | (simp only [Int.reduceToNat] at ho42; rw [← Ny570.out] at ho42)); have n0_ := Aside0.mk (Kd.R_below zq143 hb); have n1_ := Aside0.mk (Kd.R_below zq144 hb); have n2_ := Aside0.mk (Kd.R_below zq145 hb); have n3_ := Aside0.mk (Kd.R_elder' zq146 (Kd.R_base ho42) hb); have n4_ := Aside0.mk (Kd.R_below zq147 hb); have n5_ := Aside0.mk (Kd.R_below zq148 hb); have n6_ := Aside0.mk (Kd.R_below zq149 hb); have n7_ := Aside0.mk (Kd.R_below zq150 hb); have n8_ := Aside0.mk (Kd.R_below zq151 hb); have n9_ := Aside0.mk (Kd.R_lower (Kd.R_new' ho42 (Kd.R_lt zq146)) (below_size zq82)); have n10_ := Aside0.mk (blk_below (g := gb538) (o := .cells #[.int .i64 4, .slice Ao19 y526.length co19, .slice none 0 0, .slice Ao34 y563.length co34, .slice none 0 0, .slice none 0 0] 30 (0, 0)) zq114 hb); have n11_ := Aside0.mk (blk_below (g := gb556) (o := .cells #[.int .i64 t539, .slice Ao26 t540.length co26, .slice Ao27 t543.length co27, .slice Ao28 t546.length co28, .slice Ao29 t549.length co29] 26 (0, 0)) zq115 hb); have n12_ := Aside0.mk (below_step zq82 hb); clear HO528; clear HO537; clear HO542; clear HO545; clear HO548; clear HO551; clear HO554; clear HO565; clear HO568; clear BK538; clear BK556; clear HB; have HO528 := n0_; have HO537 := n1_; have HO542 := n2_; have HO545 := n3_; have HO548 := n4_; have HO551 := n5_; have HO554 := n6_; have HO565 := n7_; have HO568 := n8_; have HO572 := n9_; have BK538 := n10_; have BK556 := n11_; have HB := n12_; clear n0_ n1_ n2_ n3_ n4_ n5_ n6_ n7_ n8_ n9_ n10_ n11_ n12_; clear hb ho42; obtain ⟨Ao43, co43, eo43⟩ := Kd.R_slice HO572.out; subst eo43) | (go_at_call 20; (refine (r2_Same.calls k t539 _ _ t540 _ _ t543 _ _ t546 _ _ t549 2 _ _ ([] : List (S61)) _ _ y570 _ _ ([] : List Int) _ _ ([] : List Int) true _ ?side1 ?side2 ?side3 ?side4 ?side5 ?side6 ?side7 ?side8 ?side9 ?side10 ?side11 ?side12 ?side13 ?side14 ?side15 ?side16 A9.out).mono ?_); (case side1 => exact zq90); (case side2 => exact (Kd.R_reads' HO542.out).2.1); (case side3 => exact zq91); (case side4 => exact (Kd.R_reads' HO545.out).2.1); (case side5 => exact zq92); (case side6 => exact (Kd.R_reads' HO548.out).2.1); (case side7 => exact zq93); (case side8 => exact (Kd.R_reads' HO551.out).2.1); (case side9 => exact Kd.C_nil _ _); (case side10 => exact Nat.le_refl _); (case side11 => exact zq96); (case side12 => exact (Kd.R_reads' HO572.out).2.1); (case side13 => exact Kd.C_nil _ _); (case side14 => exact Nat.le_refl _); (case side15 => exact Kd.C_nil _ _); (case side16 => exact Nat.le_refl _); rintro e w44 ⟨rfl, hb⟩; have n0_ := Aside0.mk (Kd.R_below zq143 hb); have n1_ := Aside0.mk (Kd.R_below zq144 hb); have n2_ := Aside0.mk (Kd.R_below zq145 hb); have n3_ := Aside0.mk (Kd.R_below zq146 hb); have n4_ := Aside0.mk (Kd.R_below zq147 hb); have n5_ := Aside0.mk (Kd.R_below zq148 hb); have n6_ := Aside0.mk (Kd.R_below zq149 hb); have n7_ := Aside0.mk (Kd.R_below zq150 hb); have n8_ := Aside0.mk (Kd.R_below zq151 hb); have n9_ := Aside0.mk (Kd.R_below zq152 hb); have n10_ := Aside0.mk (blk_below (g := gb538) (o := .cells #[.int .i64 4, .slice Ao19 y526.length co19, .slice none 0 0, .slice Ao34 y563.length co34, .slice none 0 0, .slice none 0 0] 30 (0, 0)) zq114 hb); have n11_ := Aside0.mk (blk_below (g := gb556) (o := .cells #[.int .i64 t539, .slice Ao26 t540.length co26, .slice Ao27 t543.length co27, .slice Ao28 t546.length co28, .slice Ao29 t549.length co29] 26 (0, 0)) zq115 hb); have n12_ := Aside0.mk (below_step zq82 hb); clear HO528; clear HO537; clear HO542; clear HO545; clear HO548; clear HO551; clear HO554; clear HO565; clear HO568; clear HO572; clear BK538; clear BK556; clear HB; have HO528 := n0_; have HO537 := n1_; have HO542 := n2_; have HO545 := n3_; have HO548 := n4_; have HO551 := n5_; have HO554 := n6_; have HO565 := n7_; have HO568 := n8_; have HO572 := n9_; have BK538 := n10_; have BK556 := n11_; have HB := n12_; clear n0_ n1_ n2_ n3_ n4_ n5_ n6_ n7_ n8_ n9_ n10_ n11_ n12_; (try clear hb); (try clear hb2); (try clear hk); (try clear hi); obtain ⟨b45_0, b45_1, b45_2, b45_3, b45_4, b45_5, d45_0, d45_1, d45_2, d45_3, d45_4, d45_5⟩ := bk6 BK538.out) | (go_at_call 18; (refine (order_Check.calls 4 _ _ y526 _ _ ([] : List (S56)) _ _ y563 _ _ ([] : List Int) _ _ ([] : List Int) t574 _ ?side1 ?side2 ?side3 ?side4 ?side5 ?side6 ?side7 ?side8 ?side9 ?side10 A11.out).mono ?_); (case side1 => repeat (first | exact (Kd.R_reads' HO528.out).2.2 | (with_reducible refine Kd.C_alloc ?_ _) | (with_reducible refine Kd.C_drewN ?_ _) | (with_reducible refine Kd.C_drew ?_))); (case side2 => exact (Kd.R_reads' HO528.out).2.1); (case side3 => exact Kd.C_nil _ _); (case side4 => exact Nat.le_refl _); (case side5 => repeat (first | exact (Kd.R_reads' HO565.out).2.2 | (with_reducible refine Kd.C_alloc ?_ _) | (with_reducible refine Kd.C_drewN ?_ _) | (with_reducible refine Kd.C_drew ?_))); (case side6 => exact (Kd.R_reads' HO565.out).2.1); (case side7 => exact Kd.C_nil _ _); (case side8 => exact Nat.le_refl _); (case side9 => exact Kd.C_nil _ _); (case side10 => exact Nat.le_refl _); rintro e w46 ⟨rfl, hb⟩; have n0_ := Aside0.mk (Kd.R_below zq143 hb); have n1_ := Aside0.mk (Kd.R_below zq144 hb); have n2_ := Aside0.mk (Kd.R_below zq145 hb); have n3_ := Aside0.mk (Kd.R_below zq146 hb); have n4_ := Aside0.mk (Kd.R_below zq147 hb); have n5_ := Aside0.mk (Kd.R_below zq148 hb); have n6_ := Aside0.mk (Kd.R_below zq149 hb); have n7_ := Aside0.mk (Kd.R_below zq150 hb); have n8_ := Aside0.mk (Kd.R_below zq151 hb); have n9_ := Aside0.mk (Kd.R_below zq152 hb); have n10_ := Aside0.mk (blk_below (g := gb538) (o := .cells #[.int .i64 4, .slice Ao19 y526.length co19, .slice none 0 0, .slice Ao34 y563.length co34, .slice none 0 0, .slice none 0 0] 30 (0, 0)) zq114 hb); have n11_ := Aside0.mk (blk_below (g := gb556) (o := .cells #[.int .i64 t539, .slice Ao26 t540.length co26, .slice Ao27 t543.length co27, .slice Ao28 t546.length co28, .slice Ao29 t549.length co29] 26 (0, 0)) zq115 hb); have n12_ := Aside0.mk (below_step zq82 hb); clear HO528; clear HO537; clear HO542; clear HO545; clear HO548; clear HO551; clear HO554; clear HO565; clear HO568; clear HO572; clear BK538; clear BK556; clear HB; have HO528 := n0_; have HO537 := n1_; have HO542 := n2_; have HO545 := n3_; have HO548 := n4_; have HO551 := n5_; have HO554 := n6_; have HO565 := n7_; have HO568 := n8_; have HO572 := n9_; have BK538 := n10_; have BK556 := n11_; have HB := n12_; clear n0_ n1_ n2_ n3_ n4_ n5_ n6_ n7_ n8_ n9_ n10_ n11_ n12_; (try clear hb); (try clear hb2); (try clear hk); (try clear hi)))
       go_ret
       exact ⟨zq171, zq82⟩
     · replace c10 := Bool.eq_false_iff.mpr c10
       subst c10
       have H1 : (some false) = some r := by rw [if_neg (show ¬ (false = true) by decide)] at H; exact H
       clear H
       have H := H1
       clear H1
       obtain rfl := Option.some.inj H
       go_enter Try.func22, Try.ntmps22
       go_wp2_with (first | ((with_reducible refine gate_dst (N := 5) rfl ?_); (try (refine gate_guard (by rfl) ?_; dsimp only)); refine Kd.R_lit (Kd.int .i64) _ 3 ?hg (N := 5) ?hd (xs := ([2, 4] : List Int)) (inner := [.int .i64 2, .int .i64 4]) (ok := fun _ => True) (okp := fun _ => True) ?hr ?hp (fun _ hk => hk) trivial (Below.refl _ _) (Nat.le_refl _) (by simp) ?_; (case hd => rfl); (case hg => rfl); (case hr => first | (go_simp; done) | (go_simp; rfl)); (case hp => exact zq105); intro v527 w47 ho48 hb hg_ hnew_; clear hg_ hnew_; (first | rw [← Ny526.out] at ho48 | (simp only [Int.reduceToNat] at ho48; rw [← Ny526.out] at ho48)); have n0_ := Aside0.mk (Kd.R_lower ho48 (below_size zq107)); have n1_ := Aside0.mk (below_step zq107 hb); clear HB; have HO528 := n0_; have HB := n1_; clear n0_ n1_; clear hb ho48) | ((with_reducible refine gate_callee (f := 50) rfl ?_); refine goesL_ (some 6) rfl rfl Try.func50 (by kernel_rfl) rfl #[.int .i64 6, .int .i64 4, .int .i64 8] rfl zq106 ?_; (with_reducible refine (l3_gate.calls 6 4 8 t529 t530 t531 _ A1.out).mono ?_); rintro e w49 ⟨rfl, hb⟩; refine ⟨_, rfl, ?_⟩; have n0_ := Aside0.mk (Kd.R_below zq143 hb); have n1_ := Aside0.mk (below_step zq107 hb); clear HO528; clear HB; have HO528 := n0_; have HB := n1_; clear n0_ n1_; (try clear hb); (try clear hb2); (try clear hk); (try clear hi)) | ((with_reducible refine gate_callee (f := 50) rfl ?_); refine goesL_ (some 7) rfl rfl Try.func50 (by kernel_rfl) rfl #[.int .i64 8, .int .i64 2, .int .i64 4] rfl zq106 ?_; (with_reducible refine (l3_gate.calls 8 2 4 t532 t533 t534 _ A2.out).mono ?_); rintro e w50 ⟨rfl, hb⟩; refine ⟨_, rfl, ?_⟩; have n0_ := Aside0.mk (Kd.R_below zq143 hb); have n1_ := Aside0.mk (below_step zq107 hb); clear HO528; clear HB; have HO528 := n0_; have HB := n1_; clear n0_ n1_; (try clear hb); (try clear hb2); (try clear hk); (try clear hi)) | ((with_reducible refine gate_dst (N := 8) rfl ?_); (try (refine gate_guard (by rfl) ?_; dsimp only)); refine Kd.R_lit k56 _ 56 ?hg (N := 8) ?hd (xs := ([(⟨t529, t530, t531⟩ : S56), (⟨t532, t533, t534⟩ : S56)] : List (S56))) (inner := [.int .i64 t529, .int .i64 t530, .int .i64 t531, .int .i64 t532, .int .i64 t533, .int .i64 t534]) (ok := fun _ => True) (okp := fun _ => True) ?hr ?hp (fun _ hk => hk) trivial (Below.refl _ _) (Nat.le_refl _) (by simp) ?_; (case hd => rfl); (case hg => rfl); (case hr => first | (go_simp; done) | (go_simp; rfl)); (case hp => exact zq36); intro v536 w51 ho52 hb hg_ hnew_; clear hg_ hnew_; (first | rw [← Ny535.out] at ho52 | (simp only [Int.reduceToNat] at ho52; rw [← Ny535.out] at ho52)); have n0_ := Aside0.mk (Kd.R_below zq143 hb); have n1_ := Aside0.mk (Kd.R_lower ho52 (below_size zq107)); have n2_ := Aside0.mk (below_step zq107 hb); clear HO528; clear HB; have HO528 := n0_; have HO537 := n1_; have HB := n2_; clear n0_ n1_ n2_; clear hb ho52; obtain ⟨Ao53, co53, eo53⟩ := Kd.R_slice HO537.out; subst eo53; obtain ⟨Ao54, co54, eo54⟩ := Kd.R_slice HO528.out; subst eo54) | ((with_reducible refine gate_dst (N := 1) rfl ?_); (try (refine gate_guard (by rfl) ?_; dsimp only)); refine box_event ?hg (N := 1) ?hd (cs := #[.int .i64 0, .slice none 0 0, .slice none 0 0, .slice none 0 0, .slice none 0 0, .slice none 0 0]) (t := 30) ?hr ?_; (case hd => rfl); (case hg => rfl); (case hr => first | (go_simp; done) | (go_simp; rfl)); intro gb538 hg w55 hbox hb; have n0_ := Aside0.mk (Kd.R_below zq143 hb); have n1_ := Aside0.mk (Kd.R_below zq144 hb); have n2_ := Aside0.mk (below_step zq107 hb); have n3_ := Aside0.mk (hbox); have n4_ := Aside0.mk ((zq97 : w.heap.size ≤ gb538)); have n5_ := Aside0.mk ((zq97 : w.heap.size ≤ gb538)); clear HO528; clear HO537; clear HB; have HO528 := n0_; have HO537 := n1_; have HB := n2_; have BK538 := n3_; have GW538 := n4_; have GE538 := n5_; clear n0_ n1_ n2_ n3_ n4_ n5_; clear hb hbox hg; obtain ⟨b56_0, b56_1, b56_2, b56_3, b56_4, b56_5, d56_0, d56_1, d56_2, d56_3, d56_4, d56_5⟩ := bk6 BK538.out) | ((with_reducible refine gate_callee (f := 16) rfl ?_); refine goesL_ (some 12) rfl rfl Try.func16 (by kernel_rfl) rfl #[.agg #[.int .i64 4, .slice Ao54 y526.length co54, .slice none 0 0, .slice Ao53 y535.length co53, .slice none 0 0, .slice none 0 0]] rfl zq106 ?_; (refine (order_Circuit.calls 4 _ _ y526 _ _ ([] : List (S56)) _ _ y535 _ _ ([] : List Int) _ _ ([] : List Int) t539 t540 t543 t546 t549 t552 t555 _ ?side1 ?side2 ?side3 ?side4 ?side5 ?side6 ?side7 ?side8 ?side9 ?side10 A3.out).mono ?_); (case side1 => refine (Kd.R_reads' (e := 3) (base := w.heap.size) (ok := fun k_ => True) (n := y526.length) (c := co54) ?_).2.2; exact zq8); (case side2 => exact (Kd.R_reads' HO528.out).2.1); (case side3 => exact Kd.C_nil _ _); (case side4 => exact Nat.le_refl _); (case side5 => refine (Kd.R_reads' (e := 56) (base := w.heap.size) (ok := fun k_ => True) (n := y535.length) (c := co53) ?_).2.2; exact zq11); (case side6 => exact (Kd.R_reads' HO537.out).2.1); (case side7 => exact Kd.C_nil _ _); (case side8 => exact Nat.le_refl _); (case side9 => exact Kd.C_nil _ _); (case side10 => exact Nat.le_refl _); rintro e w57 ⟨v541, v544, v547, v550, v553, rfl, ho0, ho1, ho2, ho3, ho4, hb⟩; refine ⟨_, rfl, ?_⟩; have n0_ := Aside0.mk (Kd.R_mono (Kd.R_told (Kd.R_told (Kd.R_told (Kd.R_old zq8 hb) (Kd.R_base ho2)) (Kd.R_base ho3)) (Kd.R_base ho4)) (fun _ h_ => h_.1)); have n1_ := Aside0.mk (Kd.R_below zq11 hb); have n2_ := Aside0.mk (Kd.R_lower ho0 (below_size zq103)); have n3_ := Aside0.mk (Kd.R_lower ho1 (below_size zq103)); have n4_ := Aside0.mk (Kd.R_lower (Kd.R_new' ho2 (Kd.R_lt zq8)) (below_size zq103)); have n5_ := Aside0.mk (Kd.R_lower (Kd.R_new' ho3 (Kd.R_lt zq8)) (below_size zq103)); have n6_ := Aside0.mk (Kd.R_lower (Kd.R_new' ho4 (Kd.R_lt zq8)) (below_size zq103)); have n7_ := Aside0.mk (blk_below (g := gb538) (o := .cells #[.int .i64 4, .slice Ao54 y526.length co54, .slice none 0 0, .slice Ao53 y535.length co53, .slice none 0 0, .slice none 0 0] 30 (0, 0)) (by (with_reducible repeat (first | refine blk_drewN ?_ _ | refine blk_drew ?_ | refine blk_alloc ?_ _)); refine blk_put (cs := #[.int .i64 4, .slice Ao54 y526.length co54, .slice none 0 0, .slice Ao53 y535.length co53, .slice none 0 0, .slice none 0 0]) ?_ 5 _ rfl; (with_reducible repeat (first | refine blk_drewN ?_ _ | refine blk_drew ?_ | refine blk_alloc ?_ _)); refine blk_put (cs := #[.int .i64 4, .slice Ao54 y526.length co54, .slice none 0 0, .slice Ao53 y535.length co53, .slice none 0 0, .slice none 0 0]) ?_ 4 _ rfl; (with_reducible repeat (first | refine blk_drewN ?_ _ | refine blk_drew ?_ | refine blk_alloc ?_ _)); refine blk_put (cs := #[.int .i64 4, .slice Ao54 y526.length co54, .slice none 0 0, .slice none 0 0, .slice none 0 0, .slice none 0 0]) ?_ 3 _ rfl; (with_reducible repeat (first | refine blk_drewN ?_ _ | refine blk_drew ?_ | refine blk_alloc ?_ _)); refine blk_put (cs := #[.int .i64 4, .slice Ao54 y526.length co54, .slice none 0 0, .slice none 0 0, .slice none 0 0, .slice none 0 0]) ?_ 2 _ rfl; (with_reducible repeat (first | refine blk_drewN ?_ _ | refine blk_drew ?_ | refine blk_alloc ?_ _)); refine blk_put (cs := #[.int .i64 4, .slice none 0 0, .slice none 0 0, .slice none 0 0, .slice none 0 0, .slice none 0 0]) ?_ 1 _ rfl; (with_reducible repeat (first | refine blk_drewN ?_ _ | refine blk_drew ?_ | refine blk_alloc ?_ _)); refine blk_put (cs := #[.int .i64 0, .slice none 0 0, .slice none 0 0, .slice none 0 0, .slice none 0 0, .slice none 0 0]) ?_ 0 _ rfl; (with_reducible repeat (first | refine blk_drewN ?_ _ | refine blk_drew ?_ | refine blk_alloc ?_ _)); exact BK538.out) hb); have n8_ := Aside0.mk (below_step zq103 hb); clear HO528; clear HO537; clear BK538; clear HB; have HO528 := n0_; have HO537 := n1_; have HO542 := n2_; have HO545 := n3_; have HO548 := n4_; have HO551 := n5_; have HO554 := n6_; have BK538 := n7_; have HB := n8_; clear n0_ n1_ n2_ n3_ n4_ n5_ n6_ n7_ n8_; (try clear hb); (try clear hb2); (try clear hk); (try clear hi); (try clear ho0); (try clear ho1); (try clear ho2); (try clear ho3); (try clear ho4)) | ((with_reducible refine gate_dst (N := 2) rfl ?_); (try (refine gate_guard (by rfl) ?_; dsimp only)); refine box_event ?hg (N := 2) ?hd (cs := #[.int .i64 0, .slice none 0 0, .slice none 0 0, .slice none 0 0, .slice none 0 0]) (t := 26) ?hr ?_; (case hd => rfl); (case hg => rfl); (case hr => first | (go_simp; done) | (go_simp; rfl)); intro gb556 hg w58 hbox hb; have n0_ := Aside0.mk (Kd.R_below zq143 hb); have n1_ := Aside0.mk (Kd.R_below zq144 hb); have n2_ := Aside0.mk (Kd.R_below zq145 hb); have n3_ := Aside0.mk (Kd.R_below zq146 hb); have n4_ := Aside0.mk (Kd.R_below zq147 hb); have n5_ := Aside0.mk (Kd.R_below zq148 hb); have n6_ := Aside0.mk (Kd.R_below zq149 hb); have n7_ := Aside0.mk (blk_below (g := gb538) (o := .cells #[.int .i64 4, .slice Ao54 y526.length co54, .slice none 0 0, .slice Ao53 y535.length co53, .slice none 0 0, .slice none 0 0] 30 (0, 0)) zq114 hb); have n8_ := Aside0.mk (below_step zq103 hb); have n9_ := Aside0.mk (hbox); have n10_ := Aside0.mk ((zq75 : w.heap.size ≤ gb556)); have n11_ := Aside0.mk ((zq75 : w.heap.size ≤ gb556)); have n12_ := Aside0.mk ((by rw [hg]; exact Nat.ne_of_lt (blk_lt (g := gb538) (o := .cells #[.int .i64 4, .slice Ao54 y526.length co54, .slice none 0 0, .slice Ao53 y535.length co53, .slice none 0 0, .slice none 0 0] 30 (0, 0)) zq114) : gb538 ≠ gb556)); have n13_ := Aside0.mk ((by rw [hg]; exact Nat.ne_of_gt (blk_lt (g := gb538) (o := .cells #[.int .i64 4, .slice Ao54 y526.length co54, .slice none 0 0, .slice Ao53 y535.length co53, .slice none 0 0, .slice none 0 0] 30 (0, 0)) zq114) : gb556 ≠ gb538)); clear HO528; clear HO537; clear HO542; clear HO545; clear HO548; clear HO551; clear HO554; clear BK538; clear HB; have HO528 := n0_; have HO537 := n1_; have HO542 := n2_; have HO545 := n3_; have HO548 := n4_; have HO551 := n5_; have HO554 := n6_; have BK538 := n7_; have HB := n8_; have BK556 := n9_; have GW556 := n10_; have GE556 := n11_; have NB538_556 := n12_; have NB556_538 := n13_; clear n0_ n1_ n2_ n3_ n4_ n5_ n6_ n7_ n8_ n9_ n10_ n11_ n12_ n13_; clear hb hbox hg; have hnb59 := NB556_538.out; have hnc59 := NB538_556.out; obtain ⟨b60_0, b60_1, b60_2, b60_3, b60_4, d60_0, d60_1, d60_2, d60_3, d60_4⟩ := bk5 BK556.out; obtain ⟨Ao61, co61, eo61⟩ := Kd.R_slice HO542.out; subst eo61; obtain ⟨Ao62, co62, eo62⟩ := Kd.R_slice HO545.out; subst eo62; obtain ⟨Ao63, co63, eo63⟩ := Kd.R_slice HO548.out; subst eo63; obtain ⟨Ao64, co64, eo64⟩ := Kd.R_slice HO551.out; subst eo64) | ((with_reducible refine gate_callee (f := 50) rfl ?_); refine goesL_ (some 16) rfl rfl Try.func50 (by kernel_rfl) rfl #[.int .i64 6, .int .i64 8, .int .i64 2] rfl zq106 ?_; (with_reducible refine (l3_gate.calls 6 8 2 t557 t558 t559 _ A4.out).mono ?_); rintro e w65 ⟨rfl, hb⟩; refine ⟨_, rfl, ?_⟩; have n0_ := Aside0.mk (Kd.R_below (by (with_reducible repeat (first | apply Kd.R_alloc | apply Kd.R_drewN | apply Kd.R_drew)); exact (Kd.R_mono (Kd.R_far (p := ⟨gb556, 4, none⟩) (Kd.R_far (p := ⟨gb556, 3, none⟩) (Kd.R_far (p := ⟨gb556, 2, none⟩) (Kd.R_far (p := ⟨gb556, 1, none⟩) (Kd.R_far (p := ⟨gb556, 0, none⟩) (Kd.R_types HO528.out BK556.out (by decide)) (fun _ hk => by first | exact hk.2 | exact hk) (.int .i64 t539)) (fun _ hk => by first | exact hk.2 | exact hk) (.slice Ao61 t540.length co61)) (fun _ hk => by first | exact hk.2 | exact hk) (.slice Ao62 t543.length co62)) (fun _ hk => by first | exact hk.2 | exact hk) (.slice Ao63 t546.length co63)) (fun _ hk => by first | exact hk.2 | exact hk) (.slice Ao64 t549.length co64)) (fun _ h_ => h_.1))) hb); have n1_ := Aside0.mk (Kd.R_below (by (with_reducible repeat (first | apply Kd.R_alloc | apply Kd.R_drewN | apply Kd.R_drew)); exact (Kd.R_mono (Kd.R_far (p := ⟨gb556, 4, none⟩) (Kd.R_far (p := ⟨gb556, 3, none⟩) (Kd.R_far (p := ⟨gb556, 2, none⟩) (Kd.R_far (p := ⟨gb556, 1, none⟩) (Kd.R_far (p := ⟨gb556, 0, none⟩) (Kd.R_types HO537.out BK556.out (by decide)) (fun _ hk => by first | exact hk.2 | exact hk) (.int .i64 t539)) (fun _ hk => by first | exact hk.2 | exact hk) (.slice Ao61 t540.length co61)) (fun _ hk => by first | exact hk.2 | exact hk) (.slice Ao62 t543.length co62)) (fun _ hk => by first | exact hk.2 | exact hk) (.slice Ao63 t546.length co63)) (fun _ hk => by first | exact hk.2 | exact hk) (.slice Ao64 t549.length co64)) (fun _ h_ => h_.1))) hb); have n2_ := Aside0.mk (Kd.R_below (by (with_reducible repeat (first | apply Kd.R_alloc | apply Kd.R_drewN | apply Kd.R_drew)); exact (Kd.R_mono (Kd.R_far (p := ⟨gb556, 4, none⟩) (Kd.R_far (p := ⟨gb556, 3, none⟩) (Kd.R_far (p := ⟨gb556, 2, none⟩) (Kd.R_far (p := ⟨gb556, 1, none⟩) (Kd.R_far (p := ⟨gb556, 0, none⟩) (Kd.R_types HO542.out BK556.out (by decide)) (fun _ hk => by first | exact hk.2 | exact hk) (.int .i64 t539)) (fun _ hk => by first | exact hk.2 | exact hk) (.slice Ao61 t540.length co61)) (fun _ hk => by first | exact hk.2 | exact hk) (.slice Ao62 t543.length co62)) (fun _ hk => by first | exact hk.2 | exact hk) (.slice Ao63 t546.length co63)) (fun _ hk => by first | exact hk.2 | exact hk) (.slice Ao64 t549.length co64)) (fun _ h_ => h_.1))) hb); have n3_ := Aside0.mk (Kd.R_below (by (with_reducible repeat (first | apply Kd.R_alloc | apply Kd.R_drewN | apply Kd.R_drew)); exact (Kd.R_mono (Kd.R_far (p := ⟨gb556, 4, none⟩) (Kd.R_far (p := ⟨gb556, 3, none⟩) (Kd.R_far (p := ⟨gb556, 2, none⟩) (Kd.R_far (p := ⟨gb556, 1, none⟩) (Kd.R_far (p := ⟨gb556, 0, none⟩) (Kd.R_types HO545.out BK556.out (by decide)) (fun _ hk => by first | exact hk.2 | exact hk) (.int .i64 t539)) (fun _ hk => by first | exact hk.2 | exact hk) (.slice Ao61 t540.length co61)) (fun _ hk => by first | exact hk.2 | exact hk) (.slice Ao62 t543.length co62)) (fun _ hk => by first | exact hk.2 | exact hk) (.slice Ao63 t546.length co63)) (fun _ hk => by first | exact hk.2 | exact hk) (.slice Ao64 t549.length co64)) (fun _ h_ => h_.1))) hb); have n4_ := Aside0.mk (Kd.R_below (by (with_reducible repeat (first | apply Kd.R_alloc | apply Kd.R_drewN | apply Kd.R_drew)); exact (Kd.R_mono (Kd.R_far (p := ⟨gb556, 4, none⟩) (Kd.R_far (p := ⟨gb556, 3, none⟩) (Kd.R_far (p := ⟨gb556, 2, none⟩) (Kd.R_far (p := ⟨gb556, 1, none⟩) (Kd.R_far (p := ⟨gb556, 0, none⟩) (Kd.R_types HO548.out BK556.out (by decide)) (fun _ hk => by first | exact hk.2 | exact hk) (.int .i64 t539)) (fun _ hk => by first | exact hk.2 | exact hk) (.slice Ao61 t540.length co61)) (fun _ hk => by first | exact hk.2 | exact hk) (.slice Ao62 t543.length co62)) (fun _ hk => by first | exact hk.2 | exact hk) (.slice Ao63 t546.length co63)) (fun _ hk => by first | exact hk.2 | exact hk) (.slice Ao64 t549.length co64)) (fun _ h_ => h_.1))) hb); have n5_ := Aside0.mk (Kd.R_below (by (with_reducible repeat (first | apply Kd.R_alloc | apply Kd.R_drewN | apply Kd.R_drew)); exact (Kd.R_mono (Kd.R_far (p := ⟨gb556, 4, none⟩) (Kd.R_far (p := ⟨gb556, 3, none⟩) (Kd.R_far (p := ⟨gb556, 2, none⟩) (Kd.R_far (p := ⟨gb556, 1, none⟩) (Kd.R_far (p := ⟨gb556, 0, none⟩) (Kd.R_types HO551.out BK556.out (by decide)) (fun _ hk => by first | exact hk.2 | exact hk) (.int .i64 t539)) (fun _ hk => by first | exact hk.2 | exact hk) (.slice Ao61 t540.length co61)) (fun _ hk => by first | exact hk.2 | exact hk) (.slice Ao62 t543.length co62)) (fun _ hk => by first | exact hk.2 | exact hk) (.slice Ao63 t546.length co63)) (fun _ hk => by first | exact hk.2 | exact hk) (.slice Ao64 t549.length co64)) (fun _ h_ => h_.1))) hb); have n6_ := Aside0.mk (Kd.R_below (by (with_reducible repeat (first | apply Kd.R_alloc | apply Kd.R_drewN | apply Kd.R_drew)); exact (Kd.R_mono (Kd.R_far (p := ⟨gb556, 4, none⟩) (Kd.R_far (p := ⟨gb556, 3, none⟩) (Kd.R_far (p := ⟨gb556, 2, none⟩) (Kd.R_far (p := ⟨gb556, 1, none⟩) (Kd.R_far (p := ⟨gb556, 0, none⟩) (Kd.R_types HO554.out BK556.out (by decide)) (fun _ hk => by first | exact hk.2 | exact hk) (.int .i64 t539)) (fun _ hk => by first | exact hk.2 | exact hk) (.slice Ao61 t540.length co61)) (fun _ hk => by first | exact hk.2 | exact hk) (.slice Ao62 t543.length co62)) (fun _ hk => by first | exact hk.2 | exact hk) (.slice Ao63 t546.length co63)) (fun _ hk => by first | exact hk.2 | exact hk) (.slice Ao64 t549.length co64)) (fun _ h_ => h_.1))) hb); have n7_ := Aside0.mk (blk_below (g := gb538) (o := .cells #[.int .i64 4, .slice Ao54 y526.length co54, .slice none 0 0, .slice Ao53 y535.length co53, .slice none 0 0, .slice none 0 0] 30 (0, 0)) zq1 hb); have n8_ := Aside0.mk (blk_below (g := gb556) (o := .cells #[.int .i64 t539, .slice Ao61 t540.length co61, .slice Ao62 t543.length co62, .slice Ao63 t546.length co63, .slice Ao64 t549.length co64] 26 (0, 0)) (by (with_reducible repeat (first | refine blk_drewN ?_ _ | refine blk_drew ?_ | refine blk_alloc ?_ _)); refine blk_put (cs := #[.int .i64 t539, .slice Ao61 t540.length co61, .slice Ao62 t543.length co62, .slice Ao63 t546.length co63, .slice none 0 0]) ?_ 4 _ rfl; (with_reducible repeat (first | refine blk_drewN ?_ _ | refine blk_drew ?_ | refine blk_alloc ?_ _)); refine blk_put (cs := #[.int .i64 t539, .slice Ao61 t540.length co61, .slice Ao62 t543.length co62, .slice none 0 0, .slice none 0 0]) ?_ 3 _ rfl; (with_reducible repeat (first | refine blk_drewN ?_ _ | refine blk_drew ?_ | refine blk_alloc ?_ _)); refine blk_put (cs := #[.int .i64 t539, .slice Ao61 t540.length co61, .slice none 0 0, .slice none 0 0, .slice none 0 0]) ?_ 2 _ rfl; (with_reducible repeat (first | refine blk_drewN ?_ _ | refine blk_drew ?_ | refine blk_alloc ?_ _)); refine blk_put (cs := #[.int .i64 t539, .slice none 0 0, .slice none 0 0, .slice none 0 0, .slice none 0 0]) ?_ 1 _ rfl; (with_reducible repeat (first | refine blk_drewN ?_ _ | refine blk_drew ?_ | refine blk_alloc ?_ _)); refine blk_put (cs := #[.int .i64 0, .slice none 0 0, .slice none 0 0, .slice none 0 0, .slice none 0 0]) ?_ 0 _ rfl; (with_reducible repeat (first | refine blk_drewN ?_ _ | refine blk_drew ?_ | refine blk_alloc ?_ _)); exact BK556.out) hb); have n9_ := Aside0.mk (below_step zq82 hb); clear HO528; clear HO537; clear HO542; clear HO545; clear HO548; clear HO551; clear HO554; clear BK538; clear BK556; clear HB; have HO528 := n0_; have HO537 := n1_; have HO542 := n2_; have HO545 := n3_; have HO548 := n4_; have HO551 := n5_; have HO554 := n6_; have BK538 := n7_; have BK556 := n8_; have HB := n9_; clear n0_ n1_ n2_ n3_ n4_ n5_ n6_ n7_ n8_ n9_; (try clear hb); (try clear hb2); (try clear hk); (try clear hi)) | ((with_reducible refine gate_callee (f := 50) rfl ?_); refine goesL_ (some 17) rfl rfl Try.func50 (by kernel_rfl) rfl #[.int .i64 8, .int .i64 6, .int .i64 2] rfl zq106 ?_; (with_reducible refine (l3_gate.calls 8 6 2 t560 t561 t562 _ A5.out).mono ?_); rintro e w66 ⟨rfl, hb⟩; refine ⟨_, rfl, ?_⟩; have n0_ := Aside0.mk (Kd.R_below zq143 hb); have n1_ := Aside0.mk (Kd.R_below zq144 hb); have n2_ := Aside0.mk (Kd.R_below zq145 hb); have n3_ := Aside0.mk (Kd.R_below zq146 hb); have n4_ := Aside0.mk (Kd.R_below zq147 hb); have n5_ := Aside0.mk (Kd.R_below zq148 hb); have n6_ := Aside0.mk (Kd.R_below zq149 hb); have n7_ := Aside0.mk (blk_below (g := gb538) (o := .cells #[.int .i64 4, .slice Ao54 y526.length co54, .slice none 0 0, .slice Ao53 y535.length co53, .slice none 0 0, .slice none 0 0] 30 (0, 0)) zq114 hb); have n8_ := Aside0.mk (blk_below (g := gb556) (o := .cells #[.int .i64 t539, .slice Ao61 t540.length co61, .slice Ao62 t543.length co62, .slice Ao63 t546.length co63, .slice Ao64 t549.length co64] 26 (0, 0)) zq115 hb); have n9_ := Aside0.mk (below_step zq82 hb); clear HO528; clear HO537; clear HO542; clear HO545; clear HO548; clear HO551; clear HO554; clear BK538; clear BK556; clear HB; have HO528 := n0_; have HO537 := n1_; have HO542 := n2_; have HO545 := n3_; have HO548 := n4_; have HO551 := n5_; have HO554 := n6_; have BK538 := n7_; have BK556 := n8_; have HB := n9_; clear n0_ n1_ n2_ n3_ n4_ n5_ n6_ n7_ n8_ n9_; (try clear hb); (try clear hb2); (try clear hk); (try clear hi)) | ((with_reducible refine gate_dst (N := 18) rfl ?_); (try (refine gate_guard (by rfl) ?_; dsimp only)); refine Kd.R_lit k56 _ 56 ?hg (N := 18) ?hd (xs := ([(⟨t557, t558, t559⟩ : S56), (⟨t560, t561, t562⟩ : S56)] : List (S56))) (inner := [.int .i64 t557, .int .i64 t558, .int .i64 t559, .int .i64 t560, .int .i64 t561, .int .i64 t562]) (ok := fun _ => True) (okp := fun _ => True) ?hr ?hp (fun _ hk => hk) trivial (Below.refl _ _) (Nat.le_refl _) (by simp) ?_; (case hd => rfl); (case hg => rfl); (case hr => first | (go_simp; done) | (go_simp; rfl)); (case hp => exact zq37); intro v564 w67 ho68 hb hg_ hnew_; clear hg_ hnew_; (first | rw [← Ny563.out] at ho68 | (simp only [Int.reduceToNat] at ho68; rw [← Ny563.out] at ho68)); have n0_ := Aside0.mk (Kd.R_below zq143 hb); have n1_ := Aside0.mk (Kd.R_elder' zq144 (Kd.R_base ho68) hb); have n2_ := Aside0.mk (Kd.R_below zq145 hb); have n3_ := Aside0.mk (Kd.R_below zq146 hb); have n4_ := Aside0.mk (Kd.R_below zq147 hb); have n5_ := Aside0.mk (Kd.R_below zq148 hb); have n6_ := Aside0.mk (Kd.R_below zq149 hb); have n7_ := Aside0.mk (Kd.R_lower (Kd.R_new' ho68 (Kd.R_lt zq144)) (below_size zq82)); have n8_ := Aside0.mk (blk_below (g := gb538) (o := .cells #[.int .i64 4, .slice Ao54 y526.length co54, .slice none 0 0, .slice Ao53 y535.length co53, .slice none 0 0, .slice none 0 0] 30 (0, 0)) zq114 hb); have n9_ := Aside0.mk (blk_below (g := gb556) (o := .cells #[.int .i64 t539, .slice Ao61 t540.length co61, .slice Ao62 t543.length co62, .slice Ao63 t546.length co63, .slice Ao64 t549.length co64] 26 (0, 0)) zq115 hb); have n10_ := Aside0.mk (below_step zq82 hb); clear HO528; clear HO537; clear HO542; clear HO545; clear HO548; clear HO551; clear HO554; clear BK538; clear BK556; clear HB; have HO528 := n0_; have HO537 := n1_; have HO542 := n2_; have HO545 := n3_; have HO548 := n4_; have HO551 := n5_; have HO554 := n6_; have HO565 := n7_; have BK538 := n8_; have BK556 := n9_; have HB := n10_; clear n0_ n1_ n2_ n3_ n4_ n5_ n6_ n7_ n8_ n9_ n10_; clear hb ho68; obtain ⟨Ao69, co69, eo69⟩ := Kd.R_slice HO565.out; subst eo69; obtain ⟨b70_0, b70_1, b70_2, b70_3, b70_4, b70_5, d70_0, d70_1, d70_2, d70_3, d70_4, d70_5⟩ := bk6 BK538.out) | ((with_reducible refine gate_dst (N := 24) rfl ?_); (try (refine gate_guard (by rfl) ?_; dsimp only)); refine Kd.R_lit (Kd.int .i64) _ 3 ?hg (N := 24) ?hd (xs := ([0, 1, 2, 4, 3] : List Int)) (inner := [.int .i64 0, .int .i64 1, .int .i64 2, .int .i64 4, .int .i64 3]) (ok := fun _ => True) (okp := fun _ => True) ?hr ?hp (fun _ hk => hk) trivial (Below.refl _ _) (Nat.le_refl _) (by simp) ?_; (case hd => rfl); (case hg => rfl); (case hr => first | (go_simp; done) | (go_simp; rfl)); (case hp => exact zq35); intro v567 w71 ho72 hb hg_ hnew_; clear hg_ hnew_; (first | rw [← Ny566.out] at ho72 | (simp only [Int.reduceToNat] at ho72; rw [← Ny566.out] at ho72)); have n0_ := Aside0.mk (Kd.R_elder' zq50 (Kd.R_base ho72) hb); have n1_ := Aside0.mk (Kd.R_below (by (with_reducible repeat (first | apply Kd.R_alloc | apply Kd.R_drewN | apply Kd.R_drew)); exact (Kd.R_mono (Kd.R_far (p := ⟨gb538, 3, none⟩) (Kd.R_types HO537.out BK538.out (by decide)) (fun _ hk => by first | exact hk.2 | exact hk) (.slice Ao69 y563.length co69)) (fun _ h_ => h_.1))) hb); have n2_ := Aside0.mk (Kd.R_below (by (with_reducible repeat (first | apply Kd.R_alloc | apply Kd.R_drewN | apply Kd.R_drew)); exact (Kd.R_mono (Kd.R_far (p := ⟨gb538, 3, none⟩) (Kd.R_types HO542.out BK538.out (by decide)) (fun _ hk => by first | exact hk.2 | exact hk) (.slice Ao69 y563.length co69)) (fun _ h_ => h_.1))) hb); have n3_ := Aside0.mk (Kd.R_below (by (with_reducible repeat (first | apply Kd.R_alloc | apply Kd.R_drewN | apply Kd.R_drew)); exact (Kd.R_mono (Kd.R_far (p := ⟨gb538, 3, none⟩) (Kd.R_types HO545.out BK538.out (by decide)) (fun _ hk => by first | exact hk.2 | exact hk) (.slice Ao69 y563.length co69)) (fun _ h_ => h_.1))) hb); have n4_ := Aside0.mk (Kd.R_elder' zq52 (Kd.R_base ho72) hb); have n5_ := Aside0.mk (Kd.R_elder' zq54 (Kd.R_base ho72) hb); have n6_ := Aside0.mk (Kd.R_elder' zq56 (Kd.R_base ho72) hb); have n7_ := Aside0.mk (Kd.R_below (by (with_reducible repeat (first | apply Kd.R_alloc | apply Kd.R_drewN | apply Kd.R_drew)); exact (Kd.R_mono (Kd.R_far (p := ⟨gb538, 3, none⟩) (Kd.R_types HO565.out BK538.out (by decide)) (fun _ hk => by first | exact hk.2 | exact hk) (.slice Ao69 y563.length co69)) (fun _ h_ => h_.1))) hb); have n8_ := Aside0.mk (Kd.R_lower (Kd.R_new' (Kd.R_new' (Kd.R_new' (Kd.R_new' ho72 (Kd.R_lt zq50)) (Kd.R_lt zq52)) (Kd.R_lt zq54)) (Kd.R_lt zq56)) (below_size zq82)); have n9_ := Aside0.mk (blk_below (g := gb538) (o := .cells #[.int .i64 4, .slice Ao54 y526.length co54, .slice none 0 0, .slice Ao69 y563.length co69, .slice none 0 0, .slice none 0 0] 30 (0, 0)) (by (with_reducible repeat (first | refine blk_drewN ?_ _ | refine blk_drew ?_ | refine blk_alloc ?_ _)); refine blk_put (cs := #[.int .i64 4, .slice Ao54 y526.length co54, .slice none 0 0, .slice Ao53 y535.length co53, .slice none 0 0, .slice none 0 0]) ?_ 3 _ rfl; (with_reducible repeat (first | refine blk_drewN ?_ _ | refine blk_drew ?_ | refine blk_alloc ?_ _)); exact BK538.out) hb); have n10_ := Aside0.mk (blk_below (g := gb556) (o := .cells #[.int .i64 t539, .slice Ao61 t540.length co61, .slice Ao62 t543.length co62, .slice Ao63 t546.length co63, .slice Ao64 t549.length co64] 26 (0, 0)) zq63 hb); have n11_ := Aside0.mk (below_step zq82 hb); clear HO528; clear HO537; clear HO542; clear HO545; clear HO548; clear HO551; clear HO554; clear HO565; clear BK538; clear BK556; clear HB; have HO528 := n0_; have HO537 := n1_; have HO542 := n2_; have HO545 := n3_; have HO548 := n4_; have HO551 := n5_; have HO554 := n6_; have HO565 := n7_; have HO568 := n8_; have BK538 := n9_; have BK556 := n10_; have HB := n11_; clear n0_ n1_ n2_ n3_ n4_ n5_ n6_ n7_ n8_ n9_ n10_ n11_; clear hb ho72; obtain ⟨Ao73, co73, eo73⟩ := Kd.R_slice HO554.out; subst eo73; obtain ⟨Ao74, co74, eo74⟩ := Kd.R_slice HO568.out; subst eo74) | (go_at_call 21; (with_reducible refine (r2_SameInts.calls k _ _ t552 _ _ y566 true _ ?side1 ?side2 ?side3 ?side4 A7.out).mono ?_); (case side1 => exact zq94); (case side2 => exact (Kd.R_reads' HO554.out).2.1); (case side3 => exact zq95); (case side4 => exact (Kd.R_reads' HO568.out).2.1); rintro e w' ⟨rfl, ⟨nd, rfl⟩⟩; obtain ⟨b75_0, b75_1, b75_2, b75_3, b75_4, d75_0, d75_1, d75_2, d75_3, d75_4⟩ := bk5 BK556.out) | ((with_reducible refine gate_dst (N := 31) rfl ?_); (try (refine gate_guard (by rfl) ?_; dsimp only)); refine Kd.R_lit k59 _ 59 ?hg (N := 31) ?hd (xs := ([(⟨4, 2⟩ : S59), (⟨6, 4⟩ : S59)] : List (S59))) (inner := [.int .i64 4, .int .i64 2, .int .i64 6, .int .i64 4]) (ok := fun _ => True) (okp := fun _ => True) ?hr ?hp (fun _ hk => hk) trivial (Below.refl _ _) (Nat.le_refl _) (by simp) ?_; (case hd => rfl); (case hg => rfl); (case hr => first | (go_simp; done) | (go_simp; rfl)); (case hp => exact zq64); intro v571 w76 ho77 hb hg_ hnew_; clear hg_ hnew_; (first | rw [← Ny570.out] at ho77 | (simp only [Int.reduceToNat] at ho77; rw [← Ny570.out] at ho77)); have n0_ := Aside0.mk (Kd.R_below zq143 hb); have n1_ := Aside0.mk (Kd.R_below zq144 hb); have n2_ := Aside0.mk (Kd.R_below zq145 hb); have n3_ := Aside0.mk (Kd.R_elder' zq146 (Kd.R_base ho77) hb); have n4_ := Aside0.mk (Kd.R_below zq147 hb); have n5_ := Aside0.mk (Kd.R_below zq148 hb); have n6_ := Aside0.mk (Kd.R_below zq149 hb); have n7_ := Aside0.mk (Kd.R_below zq150 hb); have n8_ := Aside0.mk (Kd.R_below zq151 hb); have n9_ := Aside0.mk (Kd.R_lower (Kd.R_new' ho77 (Kd.R_lt zq146)) (below_size zq82)); have n10_ := Aside0.mk (blk_below (g := gb538) (o := .cells #[.int .i64 4, .slice Ao54 y526.length co54, .slice none 0 0, .slice Ao69 y563.length co69, .slice none 0 0, .slice none 0 0] 30 (0, 0)) zq114 hb); have n11_ := Aside0.mk (blk_below (g := gb556) (o := .cells #[.int .i64 t539, .slice Ao61 t540.length co61, .slice Ao62 t543.length co62, .slice Ao63 t546.length co63, .slice Ao64 t549.length co64] 26 (0, 0)) zq115 hb); have n12_ := Aside0.mk (below_step zq82 hb); clear HO528; clear HO537; clear HO542; clear HO545; clear HO548; clear HO551; clear HO554; clear HO565; clear HO568; clear BK538; clear BK556; clear HB; have HO528 := n0_; have HO537 := n1_; have HO542 := n2_; have HO545 := n3_; have HO548 := n4_; have HO551 := n5_; have HO554 := n6_; have HO565 := n7_; have HO568 := n8_; have HO572 := n9_; have BK538 := n10_; have BK556 := n11_; have HB := n12_; clear n0_ n1_ n2_ n3_ n4_ n5_ n6_ n7_ n8_ n9_ n10_ n11_ n12_; clear hb ho77; obtain ⟨Ao78, co78, eo78⟩ := Kd.R_slice HO572.out; subst eo78) | (go_at_call 20; (refine (r2_Same.calls k t539 _ _ t540 _ _ t543 _ _ t546 _ _ t549 2 _ _ ([] : List (S61)) _ _ y570 _ _ ([] : List Int) _ _ ([] : List Int) false _ ?side1 ?side2 ?side3 ?side4 ?side5 ?side6 ?side7 ?side8 ?side9 ?side10 ?side11 ?side12 ?side13 ?side14 ?side15 ?side16 A9.out).mono ?_); (case side1 => exact zq90); (case side2 => exact (Kd.R_reads' HO542.out).2.1); (case side3 => exact zq91); (case side4 => exact (Kd.R_reads' HO545.out).2.1); (case side5 => exact zq92); (case side6 => exact (Kd.R_reads' HO548.out).2.1); (case side7 => exact zq93); (case side8 => exact (Kd.R_reads' HO551.out).2.1); (case side9 => exact Kd.C_nil _ _); (case side10 => exact Nat.le_refl _); (case side11 => exact zq96); (case side12 => exact (Kd.R_reads' HO572.out).2.1); (case side13 => exact Kd.C_nil _ _); (case side14 => exact Nat.le_refl _); (case side15 => exact Kd.C_nil _ _); (case side16 => exact Nat.le_refl _); rintro e w79 ⟨rfl, hb⟩; have n0_ := Aside0.mk (Kd.R_below zq143 hb); have n1_ := Aside0.mk (Kd.R_below zq144 hb); have n2_ := Aside0.mk (Kd.R_below zq145 hb); have n3_ := Aside0.mk (Kd.R_below zq146 hb); have n4_ := Aside0.mk (Kd.R_below zq147 hb); have n5_ := Aside0.mk (Kd.R_below zq148 hb); have n6_ := Aside0.mk (Kd.R_below zq149 hb); have n7_ := Aside0.mk (Kd.R_below zq150 hb); have n8_ := Aside0.mk (Kd.R_below zq151 hb); have n9_ := Aside0.mk (Kd.R_below zq152 hb); have n10_ := Aside0.mk (blk_below (g := gb538) (o := .cells #[.int .i64 4, .slice Ao54 y526.length co54, .slice none 0 0, .slice Ao69 y563.length co69, .slice none 0 0, .slice none 0 0] 30 (0, 0)) zq114 hb); have n11_ := Aside0.mk (blk_below (g := gb556) (o := .cells #[.int .i64 t539, .slice Ao61 t540.length co61, .slice Ao62 t543.length co62, .slice Ao63 t546.length co63, .slice Ao64 t549.length co64] 26 (0, 0)) zq115 hb); have n12_ := Aside0.mk (below_step zq82 hb); clear HO528; clear HO537; clear HO542; clear HO545; clear HO548; clear HO551; clear HO554; clear HO565; clear HO568; clear HO572; clear BK538; clear BK556; clear HB; have HO528 := n0_; have HO537 := n1_; have HO542 := n2_; have HO545 := n3_; have HO548 := n4_; have HO551 := n5_; have HO554 := n6_; have HO565 := n7_; have HO568 := n8_; have HO572 := n9_; have BK538 := n10_; have BK556 := n11_; have HB := n12_; clear n0_ n1_ n2_ n3_ n4_ n5_ n6_ n7_ n8_ n9_ n10_ n11_ n12_; (try clear hb); (try clear hb2); (try clear hk); (try clear hi)))
       go_ret
       exact ⟨zq171, zq82⟩
   · replace c8 := Bool.eq_false_iff.mpr c8
     subst c8
     have H1 : (some false) = some r := by rw [if_neg (show ¬ (false = true) by decide)] at H; exact H
     clear H
     have H := H1
     clear H1
     obtain rfl := Option.some.inj H
     go_enter Try.func22, Try.ntmps22
     go_wp2_with (first | ((with_reducible refine gate_dst (N := 5) rfl ?_); (try (refine gate_guard (by rfl) ?_; dsimp only)); refine Kd.R_lit (Kd.int .i64) _ 3 ?hg (N := 5) ?hd (xs := ([2, 4] : List Int)) (inner := [.int .i64 2, .int .i64 4]) (ok := fun _ => True) (okp := fun _ => True) ?hr ?hp (fun _ hk => hk) trivial (Below.refl _ _) (Nat.le_refl _) (by simp) ?_; (case hd => rfl); (case hg => rfl); (case hr => first | (go_simp; done) | (go_simp; rfl)); (case hp => exact zq105); intro v527 w80 ho81 hb hg_ hnew_; clear hg_ hnew_; (first | rw [← Ny526.out] at ho81 | (simp only [Int.reduceToNat] at ho81; rw [← Ny526.out] at ho81)); have n0_ := Aside0.mk (Kd.R_lower ho81 (below_size zq107)); have n1_ := Aside0.mk (below_step zq107 hb); clear HB; have HO528 := n0_; have HB := n1_; clear n0_ n1_; clear hb ho81) | ((with_reducible refine gate_callee (f := 50) rfl ?_); refine goesL_ (some 6) rfl rfl Try.func50 (by kernel_rfl) rfl #[.int .i64 6, .int .i64 4, .int .i64 8] rfl zq106 ?_; (with_reducible refine (l3_gate.calls 6 4 8 t529 t530 t531 _ A1.out).mono ?_); rintro e w82 ⟨rfl, hb⟩; refine ⟨_, rfl, ?_⟩; have n0_ := Aside0.mk (Kd.R_below zq143 hb); have n1_ := Aside0.mk (below_step zq107 hb); clear HO528; clear HB; have HO528 := n0_; have HB := n1_; clear n0_ n1_; (try clear hb); (try clear hb2); (try clear hk); (try clear hi)) | ((with_reducible refine gate_callee (f := 50) rfl ?_); refine goesL_ (some 7) rfl rfl Try.func50 (by kernel_rfl) rfl #[.int .i64 8, .int .i64 2, .int .i64 4] rfl zq106 ?_; (with_reducible refine (l3_gate.calls 8 2 4 t532 t533 t534 _ A2.out).mono ?_); rintro e w83 ⟨rfl, hb⟩; refine ⟨_, rfl, ?_⟩; have n0_ := Aside0.mk (Kd.R_below zq143 hb); have n1_ := Aside0.mk (below_step zq107 hb); clear HO528; clear HB; have HO528 := n0_; have HB := n1_; clear n0_ n1_; (try clear hb); (try clear hb2); (try clear hk); (try clear hi)) | ((with_reducible refine gate_dst (N := 8) rfl ?_); (try (refine gate_guard (by rfl) ?_; dsimp only)); refine Kd.R_lit k56 _ 56 ?hg (N := 8) ?hd (xs := ([(⟨t529, t530, t531⟩ : S56), (⟨t532, t533, t534⟩ : S56)] : List (S56))) (inner := [.int .i64 t529, .int .i64 t530, .int .i64 t531, .int .i64 t532, .int .i64 t533, .int .i64 t534]) (ok := fun _ => True) (okp := fun _ => True) ?hr ?hp (fun _ hk => hk) trivial (Below.refl _ _) (Nat.le_refl _) (by simp) ?_; (case hd => rfl); (case hg => rfl); (case hr => first | (go_simp; done) | (go_simp; rfl)); (case hp => exact zq36); intro v536 w84 ho85 hb hg_ hnew_; clear hg_ hnew_; (first | rw [← Ny535.out] at ho85 | (simp only [Int.reduceToNat] at ho85; rw [← Ny535.out] at ho85)); have n0_ := Aside0.mk (Kd.R_below zq143 hb); have n1_ := Aside0.mk (Kd.R_lower ho85 (below_size zq107)); have n2_ := Aside0.mk (below_step zq107 hb); clear HO528; clear HB; have HO528 := n0_; have HO537 := n1_; have HB := n2_; clear n0_ n1_ n2_; clear hb ho85; obtain ⟨Ao86, co86, eo86⟩ := Kd.R_slice HO537.out; subst eo86; obtain ⟨Ao87, co87, eo87⟩ := Kd.R_slice HO528.out; subst eo87) | ((with_reducible refine gate_dst (N := 1) rfl ?_); (try (refine gate_guard (by rfl) ?_; dsimp only)); refine box_event ?hg (N := 1) ?hd (cs := #[.int .i64 0, .slice none 0 0, .slice none 0 0, .slice none 0 0, .slice none 0 0, .slice none 0 0]) (t := 30) ?hr ?_; (case hd => rfl); (case hg => rfl); (case hr => first | (go_simp; done) | (go_simp; rfl)); intro gb538 hg w88 hbox hb; have n0_ := Aside0.mk (Kd.R_below zq143 hb); have n1_ := Aside0.mk (Kd.R_below zq144 hb); have n2_ := Aside0.mk (below_step zq107 hb); have n3_ := Aside0.mk (hbox); have n4_ := Aside0.mk ((zq97 : w.heap.size ≤ gb538)); have n5_ := Aside0.mk ((zq97 : w.heap.size ≤ gb538)); clear HO528; clear HO537; clear HB; have HO528 := n0_; have HO537 := n1_; have HB := n2_; have BK538 := n3_; have GW538 := n4_; have GE538 := n5_; clear n0_ n1_ n2_ n3_ n4_ n5_; clear hb hbox hg; obtain ⟨b89_0, b89_1, b89_2, b89_3, b89_4, b89_5, d89_0, d89_1, d89_2, d89_3, d89_4, d89_5⟩ := bk6 BK538.out) | ((with_reducible refine gate_callee (f := 16) rfl ?_); refine goesL_ (some 12) rfl rfl Try.func16 (by kernel_rfl) rfl #[.agg #[.int .i64 4, .slice Ao87 y526.length co87, .slice none 0 0, .slice Ao86 y535.length co86, .slice none 0 0, .slice none 0 0]] rfl zq106 ?_; (refine (order_Circuit.calls 4 _ _ y526 _ _ ([] : List (S56)) _ _ y535 _ _ ([] : List Int) _ _ ([] : List Int) t539 t540 t543 t546 t549 t552 t555 _ ?side1 ?side2 ?side3 ?side4 ?side5 ?side6 ?side7 ?side8 ?side9 ?side10 A3.out).mono ?_); (case side1 => refine (Kd.R_reads' (e := 3) (base := w.heap.size) (ok := fun k_ => True) (n := y526.length) (c := co87) ?_).2.2; exact zq9); (case side2 => exact (Kd.R_reads' HO528.out).2.1); (case side3 => exact Kd.C_nil _ _); (case side4 => exact Nat.le_refl _); (case side5 => refine (Kd.R_reads' (e := 56) (base := w.heap.size) (ok := fun k_ => True) (n := y535.length) (c := co86) ?_).2.2; exact zq12); (case side6 => exact (Kd.R_reads' HO537.out).2.1); (case side7 => exact Kd.C_nil _ _); (case side8 => exact Nat.le_refl _); (case side9 => exact Kd.C_nil _ _); (case side10 => exact Nat.le_refl _); rintro e w90 ⟨v541, v544, v547, v550, v553, rfl, ho0, ho1, ho2, ho3, ho4, hb⟩; refine ⟨_, rfl, ?_⟩; have n0_ := Aside0.mk (Kd.R_mono (Kd.R_told (Kd.R_told (Kd.R_told (Kd.R_old zq9 hb) (Kd.R_base ho2)) (Kd.R_base ho3)) (Kd.R_base ho4)) (fun _ h_ => h_.1)); have n1_ := Aside0.mk (Kd.R_below zq12 hb); have n2_ := Aside0.mk (Kd.R_lower ho0 (below_size zq103)); have n3_ := Aside0.mk (Kd.R_lower ho1 (below_size zq103)); have n4_ := Aside0.mk (Kd.R_lower (Kd.R_new' ho2 (Kd.R_lt zq9)) (below_size zq103)); have n5_ := Aside0.mk (Kd.R_lower (Kd.R_new' ho3 (Kd.R_lt zq9)) (below_size zq103)); have n6_ := Aside0.mk (Kd.R_lower (Kd.R_new' ho4 (Kd.R_lt zq9)) (below_size zq103)); have n7_ := Aside0.mk (blk_below (g := gb538) (o := .cells #[.int .i64 4, .slice Ao87 y526.length co87, .slice none 0 0, .slice Ao86 y535.length co86, .slice none 0 0, .slice none 0 0] 30 (0, 0)) (by (with_reducible repeat (first | refine blk_drewN ?_ _ | refine blk_drew ?_ | refine blk_alloc ?_ _)); refine blk_put (cs := #[.int .i64 4, .slice Ao87 y526.length co87, .slice none 0 0, .slice Ao86 y535.length co86, .slice none 0 0, .slice none 0 0]) ?_ 5 _ rfl; (with_reducible repeat (first | refine blk_drewN ?_ _ | refine blk_drew ?_ | refine blk_alloc ?_ _)); refine blk_put (cs := #[.int .i64 4, .slice Ao87 y526.length co87, .slice none 0 0, .slice Ao86 y535.length co86, .slice none 0 0, .slice none 0 0]) ?_ 4 _ rfl; (with_reducible repeat (first | refine blk_drewN ?_ _ | refine blk_drew ?_ | refine blk_alloc ?_ _)); refine blk_put (cs := #[.int .i64 4, .slice Ao87 y526.length co87, .slice none 0 0, .slice none 0 0, .slice none 0 0, .slice none 0 0]) ?_ 3 _ rfl; (with_reducible repeat (first | refine blk_drewN ?_ _ | refine blk_drew ?_ | refine blk_alloc ?_ _)); refine blk_put (cs := #[.int .i64 4, .slice Ao87 y526.length co87, .slice none 0 0, .slice none 0 0, .slice none 0 0, .slice none 0 0]) ?_ 2 _ rfl; (with_reducible repeat (first | refine blk_drewN ?_ _ | refine blk_drew ?_ | refine blk_alloc ?_ _)); refine blk_put (cs := #[.int .i64 4, .slice none 0 0, .slice none 0 0, .slice none 0 0, .slice none 0 0, .slice none 0 0]) ?_ 1 _ rfl; (with_reducible repeat (first | refine blk_drewN ?_ _ | refine blk_drew ?_ | refine blk_alloc ?_ _)); refine blk_put (cs := #[.int .i64 0, .slice none 0 0, .slice none 0 0, .slice none 0 0, .slice none 0 0, .slice none 0 0]) ?_ 0 _ rfl; (with_reducible repeat (first | refine blk_drewN ?_ _ | refine blk_drew ?_ | refine blk_alloc ?_ _)); exact BK538.out) hb); have n8_ := Aside0.mk (below_step zq103 hb); clear HO528; clear HO537; clear BK538; clear HB; have HO528 := n0_; have HO537 := n1_; have HO542 := n2_; have HO545 := n3_; have HO548 := n4_; have HO551 := n5_; have HO554 := n6_; have BK538 := n7_; have HB := n8_; clear n0_ n1_ n2_ n3_ n4_ n5_ n6_ n7_ n8_; (try clear hb); (try clear hb2); (try clear hk); (try clear hi); (try clear ho0); (try clear ho1); (try clear ho2); (try clear ho3); (try clear ho4)) | ((with_reducible refine gate_dst (N := 2) rfl ?_); (try (refine gate_guard (by rfl) ?_; dsimp only)); refine box_event ?hg (N := 2) ?hd (cs := #[.int .i64 0, .slice none 0 0, .slice none 0 0, .slice none 0 0, .slice none 0 0]) (t := 26) ?hr ?_; (case hd => rfl); (case hg => rfl); (case hr => first | (go_simp; done) | (go_simp; rfl)); intro gb556 hg w91 hbox hb; have n0_ := Aside0.mk (Kd.R_below zq143 hb); have n1_ := Aside0.mk (Kd.R_below zq144 hb); have n2_ := Aside0.mk (Kd.R_below zq145 hb); have n3_ := Aside0.mk (Kd.R_below zq146 hb); have n4_ := Aside0.mk (Kd.R_below zq147 hb); have n5_ := Aside0.mk (Kd.R_below zq148 hb); have n6_ := Aside0.mk (Kd.R_below zq149 hb); have n7_ := Aside0.mk (blk_below (g := gb538) (o := .cells #[.int .i64 4, .slice Ao87 y526.length co87, .slice none 0 0, .slice Ao86 y535.length co86, .slice none 0 0, .slice none 0 0] 30 (0, 0)) zq114 hb); have n8_ := Aside0.mk (below_step zq103 hb); have n9_ := Aside0.mk (hbox); have n10_ := Aside0.mk ((zq75 : w.heap.size ≤ gb556)); have n11_ := Aside0.mk ((zq75 : w.heap.size ≤ gb556)); have n12_ := Aside0.mk ((by rw [hg]; exact Nat.ne_of_lt (blk_lt (g := gb538) (o := .cells #[.int .i64 4, .slice Ao87 y526.length co87, .slice none 0 0, .slice Ao86 y535.length co86, .slice none 0 0, .slice none 0 0] 30 (0, 0)) zq114) : gb538 ≠ gb556)); have n13_ := Aside0.mk ((by rw [hg]; exact Nat.ne_of_gt (blk_lt (g := gb538) (o := .cells #[.int .i64 4, .slice Ao87 y526.length co87, .slice none 0 0, .slice Ao86 y535.length co86, .slice none 0 0, .slice none 0 0] 30 (0, 0)) zq114) : gb556 ≠ gb538)); clear HO528; clear HO537; clear HO542; clear HO545; clear HO548; clear HO551; clear HO554; clear BK538; clear HB; have HO528 := n0_; have HO537 := n1_; have HO542 := n2_; have HO545 := n3_; have HO548 := n4_; have HO551 := n5_; have HO554 := n6_; have BK538 := n7_; have HB := n8_; have BK556 := n9_; have GW556 := n10_; have GE556 := n11_; have NB538_556 := n12_; have NB556_538 := n13_; clear n0_ n1_ n2_ n3_ n4_ n5_ n6_ n7_ n8_ n9_ n10_ n11_ n12_ n13_; clear hb hbox hg; have hnb92 := NB556_538.out; have hnc92 := NB538_556.out; obtain ⟨b93_0, b93_1, b93_2, b93_3, b93_4, d93_0, d93_1, d93_2, d93_3, d93_4⟩ := bk5 BK556.out; obtain ⟨Ao94, co94, eo94⟩ := Kd.R_slice HO542.out; subst eo94; obtain ⟨Ao95, co95, eo95⟩ := Kd.R_slice HO545.out; subst eo95; obtain ⟨Ao96, co96, eo96⟩ := Kd.R_slice HO548.out; subst eo96; obtain ⟨Ao97, co97, eo97⟩ := Kd.R_slice HO551.out; subst eo97) | ((with_reducible refine gate_callee (f := 50) rfl ?_); refine goesL_ (some 16) rfl rfl Try.func50 (by kernel_rfl) rfl #[.int .i64 6, .int .i64 8, .int .i64 2] rfl zq106 ?_; (with_reducible refine (l3_gate.calls 6 8 2 t557 t558 t559 _ A4.out).mono ?_); rintro e w98 ⟨rfl, hb⟩; refine ⟨_, rfl, ?_⟩; have n0_ := Aside0.mk (Kd.R_below (by (with_reducible repeat (first | apply Kd.R_alloc | apply Kd.R_drewN | apply Kd.R_drew)); exact (Kd.R_mono (Kd.R_far (p := ⟨gb556, 4, none⟩) (Kd.R_far (p := ⟨gb556, 3, none⟩) (Kd.R_far (p := ⟨gb556, 2, none⟩) (Kd.R_far (p := ⟨gb556, 1, none⟩) (Kd.R_far (p := ⟨gb556, 0, none⟩) (Kd.R_types HO528.out BK556.out (by decide)) (fun _ hk => by first | exact hk.2 | exact hk) (.int .i64 t539)) (fun _ hk => by first | exact hk.2 | exact hk) (.slice Ao94 t540.length co94)) (fun _ hk => by first | exact hk.2 | exact hk) (.slice Ao95 t543.length co95)) (fun _ hk => by first | exact hk.2 | exact hk) (.slice Ao96 t546.length co96)) (fun _ hk => by first | exact hk.2 | exact hk) (.slice Ao97 t549.length co97)) (fun _ h_ => h_.1))) hb); have n1_ := Aside0.mk (Kd.R_below (by (with_reducible repeat (first | apply Kd.R_alloc | apply Kd.R_drewN | apply Kd.R_drew)); exact (Kd.R_mono (Kd.R_far (p := ⟨gb556, 4, none⟩) (Kd.R_far (p := ⟨gb556, 3, none⟩) (Kd.R_far (p := ⟨gb556, 2, none⟩) (Kd.R_far (p := ⟨gb556, 1, none⟩) (Kd.R_far (p := ⟨gb556, 0, none⟩) (Kd.R_types HO537.out BK556.out (by decide)) (fun _ hk => by first | exact hk.2 | exact hk) (.int .i64 t539)) (fun _ hk => by first | exact hk.2 | exact hk) (.slice Ao94 t540.length co94)) (fun _ hk => by first | exact hk.2 | exact hk) (.slice Ao95 t543.length co95)) (fun _ hk => by first | exact hk.2 | exact hk) (.slice Ao96 t546.length co96)) (fun _ hk => by first | exact hk.2 | exact hk) (.slice Ao97 t549.length co97)) (fun _ h_ => h_.1))) hb); have n2_ := Aside0.mk (Kd.R_below (by (with_reducible repeat (first | apply Kd.R_alloc | apply Kd.R_drewN | apply Kd.R_drew)); exact (Kd.R_mono (Kd.R_far (p := ⟨gb556, 4, none⟩) (Kd.R_far (p := ⟨gb556, 3, none⟩) (Kd.R_far (p := ⟨gb556, 2, none⟩) (Kd.R_far (p := ⟨gb556, 1, none⟩) (Kd.R_far (p := ⟨gb556, 0, none⟩) (Kd.R_types HO542.out BK556.out (by decide)) (fun _ hk => by first | exact hk.2 | exact hk) (.int .i64 t539)) (fun _ hk => by first | exact hk.2 | exact hk) (.slice Ao94 t540.length co94)) (fun _ hk => by first | exact hk.2 | exact hk) (.slice Ao95 t543.length co95)) (fun _ hk => by first | exact hk.2 | exact hk) (.slice Ao96 t546.length co96)) (fun _ hk => by first | exact hk.2 | exact hk) (.slice Ao97 t549.length co97)) (fun _ h_ => h_.1))) hb); have n3_ := Aside0.mk (Kd.R_below (by (with_reducible repeat (first | apply Kd.R_alloc | apply Kd.R_drewN | apply Kd.R_drew)); exact (Kd.R_mono (Kd.R_far (p := ⟨gb556, 4, none⟩) (Kd.R_far (p := ⟨gb556, 3, none⟩) (Kd.R_far (p := ⟨gb556, 2, none⟩) (Kd.R_far (p := ⟨gb556, 1, none⟩) (Kd.R_far (p := ⟨gb556, 0, none⟩) (Kd.R_types HO545.out BK556.out (by decide)) (fun _ hk => by first | exact hk.2 | exact hk) (.int .i64 t539)) (fun _ hk => by first | exact hk.2 | exact hk) (.slice Ao94 t540.length co94)) (fun _ hk => by first | exact hk.2 | exact hk) (.slice Ao95 t543.length co95)) (fun _ hk => by first | exact hk.2 | exact hk) (.slice Ao96 t546.length co96)) (fun _ hk => by first | exact hk.2 | exact hk) (.slice Ao97 t549.length co97)) (fun _ h_ => h_.1))) hb); have n4_ := Aside0.mk (Kd.R_below (by (with_reducible repeat (first | apply Kd.R_alloc | apply Kd.R_drewN | apply Kd.R_drew)); exact (Kd.R_mono (Kd.R_far (p := ⟨gb556, 4, none⟩) (Kd.R_far (p := ⟨gb556, 3, none⟩) (Kd.R_far (p := ⟨gb556, 2, none⟩) (Kd.R_far (p := ⟨gb556, 1, none⟩) (Kd.R_far (p := ⟨gb556, 0, none⟩) (Kd.R_types HO548.out BK556.out (by decide)) (fun _ hk => by first | exact hk.2 | exact hk) (.int .i64 t539)) (fun _ hk => by first | exact hk.2 | exact hk) (.slice Ao94 t540.length co94)) (fun _ hk => by first | exact hk.2 | exact hk) (.slice Ao95 t543.length co95)) (fun _ hk => by first | exact hk.2 | exact hk) (.slice Ao96 t546.length co96)) (fun _ hk => by first | exact hk.2 | exact hk) (.slice Ao97 t549.length co97)) (fun _ h_ => h_.1))) hb); have n5_ := Aside0.mk (Kd.R_below (by (with_reducible repeat (first | apply Kd.R_alloc | apply Kd.R_drewN | apply Kd.R_drew)); exact (Kd.R_mono (Kd.R_far (p := ⟨gb556, 4, none⟩) (Kd.R_far (p := ⟨gb556, 3, none⟩) (Kd.R_far (p := ⟨gb556, 2, none⟩) (Kd.R_far (p := ⟨gb556, 1, none⟩) (Kd.R_far (p := ⟨gb556, 0, none⟩) (Kd.R_types HO551.out BK556.out (by decide)) (fun _ hk => by first | exact hk.2 | exact hk) (.int .i64 t539)) (fun _ hk => by first | exact hk.2 | exact hk) (.slice Ao94 t540.length co94)) (fun _ hk => by first | exact hk.2 | exact hk) (.slice Ao95 t543.length co95)) (fun _ hk => by first | exact hk.2 | exact hk) (.slice Ao96 t546.length co96)) (fun _ hk => by first | exact hk.2 | exact hk) (.slice Ao97 t549.length co97)) (fun _ h_ => h_.1))) hb); have n6_ := Aside0.mk (Kd.R_below (by (with_reducible repeat (first | apply Kd.R_alloc | apply Kd.R_drewN | apply Kd.R_drew)); exact (Kd.R_mono (Kd.R_far (p := ⟨gb556, 4, none⟩) (Kd.R_far (p := ⟨gb556, 3, none⟩) (Kd.R_far (p := ⟨gb556, 2, none⟩) (Kd.R_far (p := ⟨gb556, 1, none⟩) (Kd.R_far (p := ⟨gb556, 0, none⟩) (Kd.R_types HO554.out BK556.out (by decide)) (fun _ hk => by first | exact hk.2 | exact hk) (.int .i64 t539)) (fun _ hk => by first | exact hk.2 | exact hk) (.slice Ao94 t540.length co94)) (fun _ hk => by first | exact hk.2 | exact hk) (.slice Ao95 t543.length co95)) (fun _ hk => by first | exact hk.2 | exact hk) (.slice Ao96 t546.length co96)) (fun _ hk => by first | exact hk.2 | exact hk) (.slice Ao97 t549.length co97)) (fun _ h_ => h_.1))) hb); have n7_ := Aside0.mk (blk_below (g := gb538) (o := .cells #[.int .i64 4, .slice Ao87 y526.length co87, .slice none 0 0, .slice Ao86 y535.length co86, .slice none 0 0, .slice none 0 0] 30 (0, 0)) zq1 hb); have n8_ := Aside0.mk (blk_below (g := gb556) (o := .cells #[.int .i64 t539, .slice Ao94 t540.length co94, .slice Ao95 t543.length co95, .slice Ao96 t546.length co96, .slice Ao97 t549.length co97] 26 (0, 0)) (by (with_reducible repeat (first | refine blk_drewN ?_ _ | refine blk_drew ?_ | refine blk_alloc ?_ _)); refine blk_put (cs := #[.int .i64 t539, .slice Ao94 t540.length co94, .slice Ao95 t543.length co95, .slice Ao96 t546.length co96, .slice none 0 0]) ?_ 4 _ rfl; (with_reducible repeat (first | refine blk_drewN ?_ _ | refine blk_drew ?_ | refine blk_alloc ?_ _)); refine blk_put (cs := #[.int .i64 t539, .slice Ao94 t540.length co94, .slice Ao95 t543.length co95, .slice none 0 0, .slice none 0 0]) ?_ 3 _ rfl; (with_reducible repeat (first | refine blk_drewN ?_ _ | refine blk_drew ?_ | refine blk_alloc ?_ _)); refine blk_put (cs := #[.int .i64 t539, .slice Ao94 t540.length co94, .slice none 0 0, .slice none 0 0, .slice none 0 0]) ?_ 2 _ rfl; (with_reducible repeat (first | refine blk_drewN ?_ _ | refine blk_drew ?_ | refine blk_alloc ?_ _)); refine blk_put (cs := #[.int .i64 t539, .slice none 0 0, .slice none 0 0, .slice none 0 0, .slice none 0 0]) ?_ 1 _ rfl; (with_reducible repeat (first | refine blk_drewN ?_ _ | refine blk_drew ?_ | refine blk_alloc ?_ _)); refine blk_put (cs := #[.int .i64 0, .slice none 0 0, .slice none 0 0, .slice none 0 0, .slice none 0 0]) ?_ 0 _ rfl; (with_reducible repeat (first | refine blk_drewN ?_ _ | refine blk_drew ?_ | refine blk_alloc ?_ _)); exact BK556.out) hb); have n9_ := Aside0.mk (below_step zq82 hb); clear HO528; clear HO537; clear HO542; clear HO545; clear HO548; clear HO551; clear HO554; clear BK538; clear BK556; clear HB; have HO528 := n0_; have HO537 := n1_; have HO542 := n2_; have HO545 := n3_; have HO548 := n4_; have HO551 := n5_; have HO554 := n6_; have BK538 := n7_; have BK556 := n8_; have HB := n9_; clear n0_ n1_ n2_ n3_ n4_ n5_ n6_ n7_ n8_ n9_; (try clear hb); (try clear hb2); (try clear hk); (try clear hi)) | ((with_reducible refine gate_callee (f := 50) rfl ?_); refine goesL_ (some 17) rfl rfl Try.func50 (by kernel_rfl) rfl #[.int .i64 8, .int .i64 6, .int .i64 2] rfl zq106 ?_; (with_reducible refine (l3_gate.calls 8 6 2 t560 t561 t562 _ A5.out).mono ?_); rintro e w99 ⟨rfl, hb⟩; refine ⟨_, rfl, ?_⟩; have n0_ := Aside0.mk (Kd.R_below zq143 hb); have n1_ := Aside0.mk (Kd.R_below zq144 hb); have n2_ := Aside0.mk (Kd.R_below zq145 hb); have n3_ := Aside0.mk (Kd.R_below zq146 hb); have n4_ := Aside0.mk (Kd.R_below zq147 hb); have n5_ := Aside0.mk (Kd.R_below zq148 hb); have n6_ := Aside0.mk (Kd.R_below zq149 hb); have n7_ := Aside0.mk (blk_below (g := gb538) (o := .cells #[.int .i64 4, .slice Ao87 y526.length co87, .slice none 0 0, .slice Ao86 y535.length co86, .slice none 0 0, .slice none 0 0] 30 (0, 0)) zq114 hb); have n8_ := Aside0.mk (blk_below (g := gb556) (o := .cells #[.int .i64 t539, .slice Ao94 t540.length co94, .slice Ao95 t543.length co95, .slice Ao96 t546.length co96, .slice Ao97 t549.length co97] 26 (0, 0)) zq115 hb); have n9_ := Aside0.mk (below_step zq82 hb); clear HO528; clear HO537; clear HO542; clear HO545; clear HO548; clear HO551; clear HO554; clear BK538; clear BK556; clear HB; have HO528 := n0_; have HO537 := n1_; have HO542 := n2_; have HO545 := n3_; have HO548 := n4_; have HO551 := n5_; have HO554 := n6_; have BK538 := n7_; have BK556 := n8_; have HB := n9_; clear n0_ n1_ n2_ n3_ n4_ n5_ n6_ n7_ n8_ n9_; (try clear hb); (try clear hb2); (try clear hk); (try clear hi)) | ((with_reducible refine gate_dst (N := 18) rfl ?_); (try (refine gate_guard (by rfl) ?_; dsimp only)); refine Kd.R_lit k56 _ 56 ?hg (N := 18) ?hd (xs := ([(⟨t557, t558, t559⟩ : S56), (⟨t560, t561, t562⟩ : S56)] : List (S56))) (inner := [.int .i64 t557, .int .i64 t558, .int .i64 t559, .int .i64 t560, .int .i64 t561, .int .i64 t562]) (ok := fun _ => True) (okp := fun _ => True) ?hr ?hp (fun _ hk => hk) trivial (Below.refl _ _) (Nat.le_refl _) (by simp) ?_; (case hd => rfl); (case hg => rfl); (case hr => first | (go_simp; done) | (go_simp; rfl)); (case hp => exact zq37); intro v564 w100 ho101 hb hg_ hnew_; clear hg_ hnew_; (first | rw [← Ny563.out] at ho101 | (simp only [Int.reduceToNat] at ho101; rw [← Ny563.out] at ho101)); have n0_ := Aside0.mk (Kd.R_below zq143 hb); have n1_ := Aside0.mk (Kd.R_elder' zq144 (Kd.R_base ho101) hb); have n2_ := Aside0.mk (Kd.R_below zq145 hb); have n3_ := Aside0.mk (Kd.R_below zq146 hb); have n4_ := Aside0.mk (Kd.R_below zq147 hb); have n5_ := Aside0.mk (Kd.R_below zq148 hb); have n6_ := Aside0.mk (Kd.R_below zq149 hb); have n7_ := Aside0.mk (Kd.R_lower (Kd.R_new' ho101 (Kd.R_lt zq144)) (below_size zq82)); have n8_ := Aside0.mk (blk_below (g := gb538) (o := .cells #[.int .i64 4, .slice Ao87 y526.length co87, .slice none 0 0, .slice Ao86 y535.length co86, .slice none 0 0, .slice none 0 0] 30 (0, 0)) zq114 hb); have n9_ := Aside0.mk (blk_below (g := gb556) (o := .cells #[.int .i64 t539, .slice Ao94 t540.length co94, .slice Ao95 t543.length co95, .slice Ao96 t546.length co96, .slice Ao97 t549.length co97] 26 (0, 0)) zq115 hb); have n10_ := Aside0.mk (below_step zq82 hb); clear HO528; clear HO537; clear HO542; clear HO545; clear HO548; clear HO551; clear HO554; clear BK538; clear BK556; clear HB; have HO528 := n0_; have HO537 := n1_; have HO542 := n2_; have HO545 := n3_; have HO548 := n4_; have HO551 := n5_; have HO554 := n6_; have HO565 := n7_; have BK538 := n8_; have BK556 := n9_; have HB := n10_; clear n0_ n1_ n2_ n3_ n4_ n5_ n6_ n7_ n8_ n9_ n10_; clear hb ho101; obtain ⟨Ao102, co102, eo102⟩ := Kd.R_slice HO565.out; subst eo102; obtain ⟨b103_0, b103_1, b103_2, b103_3, b103_4, b103_5, d103_0, d103_1, d103_2, d103_3, d103_4, d103_5⟩ := bk6 BK538.out) | ((with_reducible refine gate_dst (N := 24) rfl ?_); (try (refine gate_guard (by rfl) ?_; dsimp only)); refine Kd.R_lit (Kd.int .i64) _ 3 ?hg (N := 24) ?hd (xs := ([0, 1, 2, 4, 3] : List Int)) (inner := [.int .i64 0, .int .i64 1, .int .i64 2, .int .i64 4, .int .i64 3]) (ok := fun _ => True) (okp := fun _ => True) ?hr ?hp (fun _ hk => hk) trivial (Below.refl _ _) (Nat.le_refl _) (by simp) ?_; (case hd => rfl); (case hg => rfl); (case hr => first | (go_simp; done) | (go_simp; rfl)); (case hp => exact zq35); intro v567 w104 ho105 hb hg_ hnew_; clear hg_ hnew_; (first | rw [← Ny566.out] at ho105 | (simp only [Int.reduceToNat] at ho105; rw [← Ny566.out] at ho105)); have n0_ := Aside0.mk (Kd.R_elder' zq41 (Kd.R_base ho105) hb); have n1_ := Aside0.mk (Kd.R_below (by (with_reducible repeat (first | apply Kd.R_alloc | apply Kd.R_drewN | apply Kd.R_drew)); exact (Kd.R_mono (Kd.R_far (p := ⟨gb538, 3, none⟩) (Kd.R_types HO537.out BK538.out (by decide)) (fun _ hk => by first | exact hk.2 | exact hk) (.slice Ao102 y563.length co102)) (fun _ h_ => h_.1))) hb); have n2_ := Aside0.mk (Kd.R_below (by (with_reducible repeat (first | apply Kd.R_alloc | apply Kd.R_drewN | apply Kd.R_drew)); exact (Kd.R_mono (Kd.R_far (p := ⟨gb538, 3, none⟩) (Kd.R_types HO542.out BK538.out (by decide)) (fun _ hk => by first | exact hk.2 | exact hk) (.slice Ao102 y563.length co102)) (fun _ h_ => h_.1))) hb); have n3_ := Aside0.mk (Kd.R_below (by (with_reducible repeat (first | apply Kd.R_alloc | apply Kd.R_drewN | apply Kd.R_drew)); exact (Kd.R_mono (Kd.R_far (p := ⟨gb538, 3, none⟩) (Kd.R_types HO545.out BK538.out (by decide)) (fun _ hk => by first | exact hk.2 | exact hk) (.slice Ao102 y563.length co102)) (fun _ h_ => h_.1))) hb); have n4_ := Aside0.mk (Kd.R_elder' zq42 (Kd.R_base ho105) hb); have n5_ := Aside0.mk (Kd.R_elder' zq43 (Kd.R_base ho105) hb); have n6_ := Aside0.mk (Kd.R_elder' zq44 (Kd.R_base ho105) hb); have n7_ := Aside0.mk (Kd.R_below (by (with_reducible repeat (first | apply Kd.R_alloc | apply Kd.R_drewN | apply Kd.R_drew)); exact (Kd.R_mono (Kd.R_far (p := ⟨gb538, 3, none⟩) (Kd.R_types HO565.out BK538.out (by decide)) (fun _ hk => by first | exact hk.2 | exact hk) (.slice Ao102 y563.length co102)) (fun _ h_ => h_.1))) hb); have n8_ := Aside0.mk (Kd.R_lower (Kd.R_new' (Kd.R_new' (Kd.R_new' (Kd.R_new' ho105 (Kd.R_lt zq41)) (Kd.R_lt zq42)) (Kd.R_lt zq43)) (Kd.R_lt zq44)) (below_size zq82)); have n9_ := Aside0.mk (blk_below (g := gb538) (o := .cells #[.int .i64 4, .slice Ao87 y526.length co87, .slice none 0 0, .slice Ao102 y563.length co102, .slice none 0 0, .slice none 0 0] 30 (0, 0)) (by (with_reducible repeat (first | refine blk_drewN ?_ _ | refine blk_drew ?_ | refine blk_alloc ?_ _)); refine blk_put (cs := #[.int .i64 4, .slice Ao87 y526.length co87, .slice none 0 0, .slice Ao86 y535.length co86, .slice none 0 0, .slice none 0 0]) ?_ 3 _ rfl; (with_reducible repeat (first | refine blk_drewN ?_ _ | refine blk_drew ?_ | refine blk_alloc ?_ _)); exact BK538.out) hb); have n10_ := Aside0.mk (blk_below (g := gb556) (o := .cells #[.int .i64 t539, .slice Ao94 t540.length co94, .slice Ao95 t543.length co95, .slice Ao96 t546.length co96, .slice Ao97 t549.length co97] 26 (0, 0)) zq63 hb); have n11_ := Aside0.mk (below_step zq82 hb); clear HO528; clear HO537; clear HO542; clear HO545; clear HO548; clear HO551; clear HO554; clear HO565; clear BK538; clear BK556; clear HB; have HO528 := n0_; have HO537 := n1_; have HO542 := n2_; have HO545 := n3_; have HO548 := n4_; have HO551 := n5_; have HO554 := n6_; have HO565 := n7_; have HO568 := n8_; have BK538 := n9_; have BK556 := n10_; have HB := n11_; clear n0_ n1_ n2_ n3_ n4_ n5_ n6_ n7_ n8_ n9_ n10_ n11_; clear hb ho105; obtain ⟨Ao106, co106, eo106⟩ := Kd.R_slice HO554.out; subst eo106; obtain ⟨Ao107, co107, eo107⟩ := Kd.R_slice HO568.out; subst eo107) | (go_at_call 21; (with_reducible refine (r2_SameInts.calls k _ _ t552 _ _ y566 false _ ?side1 ?side2 ?side3 ?side4 A7.out).mono ?_); (case side1 => exact zq94); (case side2 => exact (Kd.R_reads' HO554.out).2.1); (case side3 => exact zq95); (case side4 => exact (Kd.R_reads' HO568.out).2.1); rintro e w' ⟨rfl, ⟨nd, rfl⟩⟩))
     go_ret
     exact ⟨zq171, zq82⟩
 · rw [if_neg c6] at H
   have c6b0 : (t555 == 0) = false := beq_eq_false_iff_ne.mpr c6
   have c6b1 : (t555 != 0) = true := bne_iff_ne.mpr c6
   obtain rfl := Option.some.inj H
   go_enter Try.func22, Try.ntmps22
   go_wp2_with (first | ((with_reducible refine gate_dst (N := 5) rfl ?_); (try (refine gate_guard (by rfl) ?_; dsimp only)); refine Kd.R_lit (Kd.int .i64) _ 3 ?hg (N := 5) ?hd (xs := ([2, 4] : List Int)) (inner := [.int .i64 2, .int .i64 4]) (ok := fun _ => True) (okp := fun _ => True) ?hr ?hp (fun _ hk => hk) trivial (Below.refl _ _) (Nat.le_refl _) (by simp) ?_; (case hd => rfl); (case hg => rfl); (case hr => first | (go_simp; done) | (go_simp; rfl)); (case hp => exact zq105); intro v527 w108 ho109 hb hg_ hnew_; clear hg_ hnew_; (first | rw [← Ny526.out] at ho109 | (simp only [Int.reduceToNat] at ho109; rw [← Ny526.out] at ho109)); have n0_ := Aside0.mk (Kd.R_lower ho109 (below_size zq107)); have n1_ := Aside0.mk (below_step zq107 hb); clear HB; have HO528 := n0_; have HB := n1_; clear n0_ n1_; clear hb ho109) | ((with_reducible refine gate_callee (f := 50) rfl ?_); refine goesL_ (some 6) rfl rfl Try.func50 (by kernel_rfl) rfl #[.int .i64 6, .int .i64 4, .int .i64 8] rfl zq106 ?_; (with_reducible refine (l3_gate.calls 6 4 8 t529 t530 t531 _ A1.out).mono ?_); rintro e w110 ⟨rfl, hb⟩; refine ⟨_, rfl, ?_⟩; have n0_ := Aside0.mk (Kd.R_below zq143 hb); have n1_ := Aside0.mk (below_step zq107 hb); clear HO528; clear HB; have HO528 := n0_; have HB := n1_; clear n0_ n1_; (try clear hb); (try clear hb2); (try clear hk); (try clear hi)) | ((with_reducible refine gate_callee (f := 50) rfl ?_); refine goesL_ (some 7) rfl rfl Try.func50 (by kernel_rfl) rfl #[.int .i64 8, .int .i64 2, .int .i64 4] rfl zq106 ?_; (with_reducible refine (l3_gate.calls 8 2 4 t532 t533 t534 _ A2.out).mono ?_); rintro e w111 ⟨rfl, hb⟩; refine ⟨_, rfl, ?_⟩; have n0_ := Aside0.mk (Kd.R_below zq143 hb); have n1_ := Aside0.mk (below_step zq107 hb); clear HO528; clear HB; have HO528 := n0_; have HB := n1_; clear n0_ n1_; (try clear hb); (try clear hb2); (try clear hk); (try clear hi)) | ((with_reducible refine gate_dst (N := 8) rfl ?_); (try (refine gate_guard (by rfl) ?_; dsimp only)); refine Kd.R_lit k56 _ 56 ?hg (N := 8) ?hd (xs := ([(⟨t529, t530, t531⟩ : S56), (⟨t532, t533, t534⟩ : S56)] : List (S56))) (inner := [.int .i64 t529, .int .i64 t530, .int .i64 t531, .int .i64 t532, .int .i64 t533, .int .i64 t534]) (ok := fun _ => True) (okp := fun _ => True) ?hr ?hp (fun _ hk => hk) trivial (Below.refl _ _) (Nat.le_refl _) (by simp) ?_; (case hd => rfl); (case hg => rfl); (case hr => first | (go_simp; done) | (go_simp; rfl)); (case hp => exact zq36); intro v536 w112 ho113 hb hg_ hnew_; clear hg_ hnew_; (first | rw [← Ny535.out] at ho113 | (simp only [Int.reduceToNat] at ho113; rw [← Ny535.out] at ho113)); have n0_ := Aside0.mk (Kd.R_below zq143 hb); have n1_ := Aside0.mk (Kd.R_lower ho113 (below_size zq107)); have n2_ := Aside0.mk (below_step zq107 hb); clear HO528; clear HB; have HO528 := n0_; have HO537 := n1_; have HB := n2_; clear n0_ n1_ n2_; clear hb ho113; obtain ⟨Ao114, co114, eo114⟩ := Kd.R_slice HO537.out; subst eo114; obtain ⟨Ao115, co115, eo115⟩ := Kd.R_slice HO528.out; subst eo115) | ((with_reducible refine gate_dst (N := 1) rfl ?_); (try (refine gate_guard (by rfl) ?_; dsimp only)); refine box_event ?hg (N := 1) ?hd (cs := #[.int .i64 0, .slice none 0 0, .slice none 0 0, .slice none 0 0, .slice none 0 0, .slice none 0 0]) (t := 30) ?hr ?_; (case hd => rfl); (case hg => rfl); (case hr => first | (go_simp; done) | (go_simp; rfl)); intro gb538 hg w116 hbox hb; have n0_ := Aside0.mk (Kd.R_below zq143 hb); have n1_ := Aside0.mk (Kd.R_below zq144 hb); have n2_ := Aside0.mk (below_step zq107 hb); have n3_ := Aside0.mk (hbox); have n4_ := Aside0.mk ((zq97 : w.heap.size ≤ gb538)); have n5_ := Aside0.mk ((zq97 : w.heap.size ≤ gb538)); clear HO528; clear HO537; clear HB; have HO528 := n0_; have HO537 := n1_; have HB := n2_; have BK538 := n3_; have GW538 := n4_; have GE538 := n5_; clear n0_ n1_ n2_ n3_ n4_ n5_; clear hb hbox hg; obtain ⟨b117_0, b117_1, b117_2, b117_3, b117_4, b117_5, d117_0, d117_1, d117_2, d117_3, d117_4, d117_5⟩ := bk6 BK538.out) | ((with_reducible refine gate_callee (f := 16) rfl ?_); refine goesL_ (some 12) rfl rfl Try.func16 (by kernel_rfl) rfl #[.agg #[.int .i64 4, .slice Ao115 y526.length co115, .slice none 0 0, .slice Ao114 y535.length co114, .slice none 0 0, .slice none 0 0]] rfl zq106 ?_; (refine (order_Circuit.calls 4 _ _ y526 _ _ ([] : List (S56)) _ _ y535 _ _ ([] : List Int) _ _ ([] : List Int) t539 t540 t543 t546 t549 t552 t555 _ ?side1 ?side2 ?side3 ?side4 ?side5 ?side6 ?side7 ?side8 ?side9 ?side10 A3.out).mono ?_); (case side1 => refine (Kd.R_reads' (e := 3) (base := w.heap.size) (ok := fun k_ => True) (n := y526.length) (c := co115) ?_).2.2; exact zq5); (case side2 => exact (Kd.R_reads' HO528.out).2.1); (case side3 => exact Kd.C_nil _ _); (case side4 => exact Nat.le_refl _); (case side5 => refine (Kd.R_reads' (e := 56) (base := w.heap.size) (ok := fun k_ => True) (n := y535.length) (c := co114) ?_).2.2; exact zq6); (case side6 => exact (Kd.R_reads' HO537.out).2.1); (case side7 => exact Kd.C_nil _ _); (case side8 => exact Nat.le_refl _); (case side9 => exact Kd.C_nil _ _); (case side10 => exact Nat.le_refl _); rintro e w118 ⟨v541, v544, v547, v550, v553, rfl, ho0, ho1, ho2, ho3, ho4, hb⟩; refine ⟨_, rfl, ?_⟩; have n0_ := Aside0.mk (Kd.R_mono (Kd.R_told (Kd.R_told (Kd.R_told (Kd.R_old zq5 hb) (Kd.R_base ho2)) (Kd.R_base ho3)) (Kd.R_base ho4)) (fun _ h_ => h_.1)); have n1_ := Aside0.mk (Kd.R_below zq6 hb); have n2_ := Aside0.mk (Kd.R_lower ho0 (below_size zq103)); have n3_ := Aside0.mk (Kd.R_lower ho1 (below_size zq103)); have n4_ := Aside0.mk (Kd.R_lower (Kd.R_new' ho2 (Kd.R_lt zq5)) (below_size zq103)); have n5_ := Aside0.mk (Kd.R_lower (Kd.R_new' ho3 (Kd.R_lt zq5)) (below_size zq103)); have n6_ := Aside0.mk (Kd.R_lower (Kd.R_new' ho4 (Kd.R_lt zq5)) (below_size zq103)); have n7_ := Aside0.mk (blk_below (g := gb538) (o := .cells #[.int .i64 4, .slice Ao115 y526.length co115, .slice none 0 0, .slice Ao114 y535.length co114, .slice none 0 0, .slice none 0 0] 30 (0, 0)) (by (with_reducible repeat (first | refine blk_drewN ?_ _ | refine blk_drew ?_ | refine blk_alloc ?_ _)); refine blk_put (cs := #[.int .i64 4, .slice Ao115 y526.length co115, .slice none 0 0, .slice Ao114 y535.length co114, .slice none 0 0, .slice none 0 0]) ?_ 5 _ rfl; (with_reducible repeat (first | refine blk_drewN ?_ _ | refine blk_drew ?_ | refine blk_alloc ?_ _)); refine blk_put (cs := #[.int .i64 4, .slice Ao115 y526.length co115, .slice none 0 0, .slice Ao114 y535.length co114, .slice none 0 0, .slice none 0 0]) ?_ 4 _ rfl; (with_reducible repeat (first | refine blk_drewN ?_ _ | refine blk_drew ?_ | refine blk_alloc ?_ _)); refine blk_put (cs := #[.int .i64 4, .slice Ao115 y526.length co115, .slice none 0 0, .slice none 0 0, .slice none 0 0, .slice none 0 0]) ?_ 3 _ rfl; (with_reducible repeat (first | refine blk_drewN ?_ _ | refine blk_drew ?_ | refine blk_alloc ?_ _)); refine blk_put (cs := #[.int .i64 4, .slice Ao115 y526.length co115, .slice none 0 0, .slice none 0 0, .slice none 0 0, .slice none 0 0]) ?_ 2 _ rfl; (with_reducible repeat (first | refine blk_drewN ?_ _ | refine blk_drew ?_ | refine blk_alloc ?_ _)); refine blk_put (cs := #[.int .i64 4, .slice none 0 0, .slice none 0 0, .slice none 0 0, .slice none 0 0, .slice none 0 0]) ?_ 1 _ rfl; (with_reducible repeat (first | refine blk_drewN ?_ _ | refine blk_drew ?_ | refine blk_alloc ?_ _)); refine blk_put (cs := #[.int .i64 0, .slice none 0 0, .slice none 0 0, .slice none 0 0, .slice none 0 0, .slice none 0 0]) ?_ 0 _ rfl; (with_reducible repeat (first | refine blk_drewN ?_ _ | refine blk_drew ?_ | refine blk_alloc ?_ _)); exact BK538.out) hb); have n8_ := Aside0.mk (below_step zq103 hb); clear HO528; clear HO537; clear BK538; clear HB; have HO528 := n0_; have HO537 := n1_; have HO542 := n2_; have HO545 := n3_; have HO548 := n4_; have HO551 := n5_; have HO554 := n6_; have BK538 := n7_; have HB := n8_; clear n0_ n1_ n2_ n3_ n4_ n5_ n6_ n7_ n8_; (try clear hb); (try clear hb2); (try clear hk); (try clear hi); (try clear ho0); (try clear ho1); (try clear ho2); (try clear ho3); (try clear ho4)) | ((with_reducible refine gate_dst (N := 2) rfl ?_); (try (refine gate_guard (by rfl) ?_; dsimp only)); refine box_event ?hg (N := 2) ?hd (cs := #[.int .i64 0, .slice none 0 0, .slice none 0 0, .slice none 0 0, .slice none 0 0]) (t := 26) ?hr ?_; (case hd => rfl); (case hg => rfl); (case hr => first | (go_simp; done) | (go_simp; rfl)); intro gb556 hg w119 hbox hb; have n0_ := Aside0.mk (Kd.R_below zq143 hb); have n1_ := Aside0.mk (Kd.R_below zq144 hb); have n2_ := Aside0.mk (Kd.R_below zq145 hb); have n3_ := Aside0.mk (Kd.R_below zq146 hb); have n4_ := Aside0.mk (Kd.R_below zq147 hb); have n5_ := Aside0.mk (Kd.R_below zq148 hb); have n6_ := Aside0.mk (Kd.R_below zq149 hb); have n7_ := Aside0.mk (blk_below (g := gb538) (o := .cells #[.int .i64 4, .slice Ao115 y526.length co115, .slice none 0 0, .slice Ao114 y535.length co114, .slice none 0 0, .slice none 0 0] 30 (0, 0)) zq114 hb); have n8_ := Aside0.mk (below_step zq103 hb); have n9_ := Aside0.mk (hbox); have n10_ := Aside0.mk ((zq75 : w.heap.size ≤ gb556)); have n11_ := Aside0.mk ((zq75 : w.heap.size ≤ gb556)); have n12_ := Aside0.mk ((by rw [hg]; exact Nat.ne_of_lt (blk_lt (g := gb538) (o := .cells #[.int .i64 4, .slice Ao115 y526.length co115, .slice none 0 0, .slice Ao114 y535.length co114, .slice none 0 0, .slice none 0 0] 30 (0, 0)) zq114) : gb538 ≠ gb556)); have n13_ := Aside0.mk ((by rw [hg]; exact Nat.ne_of_gt (blk_lt (g := gb538) (o := .cells #[.int .i64 4, .slice Ao115 y526.length co115, .slice none 0 0, .slice Ao114 y535.length co114, .slice none 0 0, .slice none 0 0] 30 (0, 0)) zq114) : gb556 ≠ gb538)); clear HO528; clear HO537; clear HO542; clear HO545; clear HO548; clear HO551; clear HO554; clear BK538; clear HB; have HO528 := n0_; have HO537 := n1_; have HO542 := n2_; have HO545 := n3_; have HO548 := n4_; have HO551 := n5_; have HO554 := n6_; have BK538 := n7_; have HB := n8_; have BK556 := n9_; have GW556 := n10_; have GE556 := n11_; have NB538_556 := n12_; have NB556_538 := n13_; clear n0_ n1_ n2_ n3_ n4_ n5_ n6_ n7_ n8_ n9_ n10_ n11_ n12_ n13_; clear hb hbox hg; have hnb120 := NB556_538.out; have hnc120 := NB538_556.out; obtain ⟨b121_0, b121_1, b121_2, b121_3, b121_4, d121_0, d121_1, d121_2, d121_3, d121_4⟩ := bk5 BK556.out; obtain ⟨Ao122, co122, eo122⟩ := Kd.R_slice HO542.out; subst eo122; obtain ⟨Ao123, co123, eo123⟩ := Kd.R_slice HO545.out; subst eo123; obtain ⟨Ao124, co124, eo124⟩ := Kd.R_slice HO548.out; subst eo124; obtain ⟨Ao125, co125, eo125⟩ := Kd.R_slice HO551.out; subst eo125) | ((with_reducible refine gate_callee (f := 50) rfl ?_); refine goesL_ (some 16) rfl rfl Try.func50 (by kernel_rfl) rfl #[.int .i64 6, .int .i64 8, .int .i64 2] rfl zq106 ?_; (with_reducible refine (l3_gate.calls 6 8 2 t557 t558 t559 _ A4.out).mono ?_); rintro e w126 ⟨rfl, hb⟩; refine ⟨_, rfl, ?_⟩; have n0_ := Aside0.mk (Kd.R_below (by (with_reducible repeat (first | apply Kd.R_alloc | apply Kd.R_drewN | apply Kd.R_drew)); exact (Kd.R_mono (Kd.R_far (p := ⟨gb556, 4, none⟩) (Kd.R_far (p := ⟨gb556, 3, none⟩) (Kd.R_far (p := ⟨gb556, 2, none⟩) (Kd.R_far (p := ⟨gb556, 1, none⟩) (Kd.R_far (p := ⟨gb556, 0, none⟩) (Kd.R_types HO528.out BK556.out (by decide)) (fun _ hk => by first | exact hk.2 | exact hk) (.int .i64 t539)) (fun _ hk => by first | exact hk.2 | exact hk) (.slice Ao122 t540.length co122)) (fun _ hk => by first | exact hk.2 | exact hk) (.slice Ao123 t543.length co123)) (fun _ hk => by first | exact hk.2 | exact hk) (.slice Ao124 t546.length co124)) (fun _ hk => by first | exact hk.2 | exact hk) (.slice Ao125 t549.length co125)) (fun _ h_ => h_.1))) hb); have n1_ := Aside0.mk (Kd.R_below (by (with_reducible repeat (first | apply Kd.R_alloc | apply Kd.R_drewN | apply Kd.R_drew)); exact (Kd.R_mono (Kd.R_far (p := ⟨gb556, 4, none⟩) (Kd.R_far (p := ⟨gb556, 3, none⟩) (Kd.R_far (p := ⟨gb556, 2, none⟩) (Kd.R_far (p := ⟨gb556, 1, none⟩) (Kd.R_far (p := ⟨gb556, 0, none⟩) (Kd.R_types HO537.out BK556.out (by decide)) (fun _ hk => by first | exact hk.2 | exact hk) (.int .i64 t539)) (fun _ hk => by first | exact hk.2 | exact hk) (.slice Ao122 t540.length co122)) (fun _ hk => by first | exact hk.2 | exact hk) (.slice Ao123 t543.length co123)) (fun _ hk => by first | exact hk.2 | exact hk) (.slice Ao124 t546.length co124)) (fun _ hk => by first | exact hk.2 | exact hk) (.slice Ao125 t549.length co125)) (fun _ h_ => h_.1))) hb); have n2_ := Aside0.mk (Kd.R_below (by (with_reducible repeat (first | apply Kd.R_alloc | apply Kd.R_drewN | apply Kd.R_drew)); exact (Kd.R_mono (Kd.R_far (p := ⟨gb556, 4, none⟩) (Kd.R_far (p := ⟨gb556, 3, none⟩) (Kd.R_far (p := ⟨gb556, 2, none⟩) (Kd.R_far (p := ⟨gb556, 1, none⟩) (Kd.R_far (p := ⟨gb556, 0, none⟩) (Kd.R_types HO542.out BK556.out (by decide)) (fun _ hk => by first | exact hk.2 | exact hk) (.int .i64 t539)) (fun _ hk => by first | exact hk.2 | exact hk) (.slice Ao122 t540.length co122)) (fun _ hk => by first | exact hk.2 | exact hk) (.slice Ao123 t543.length co123)) (fun _ hk => by first | exact hk.2 | exact hk) (.slice Ao124 t546.length co124)) (fun _ hk => by first | exact hk.2 | exact hk) (.slice Ao125 t549.length co125)) (fun _ h_ => h_.1))) hb); have n3_ := Aside0.mk (Kd.R_below (by (with_reducible repeat (first | apply Kd.R_alloc | apply Kd.R_drewN | apply Kd.R_drew)); exact (Kd.R_mono (Kd.R_far (p := ⟨gb556, 4, none⟩) (Kd.R_far (p := ⟨gb556, 3, none⟩) (Kd.R_far (p := ⟨gb556, 2, none⟩) (Kd.R_far (p := ⟨gb556, 1, none⟩) (Kd.R_far (p := ⟨gb556, 0, none⟩) (Kd.R_types HO545.out BK556.out (by decide)) (fun _ hk => by first | exact hk.2 | exact hk) (.int .i64 t539)) (fun _ hk => by first | exact hk.2 | exact hk) (.slice Ao122 t540.length co122)) (fun _ hk => by first | exact hk.2 | exact hk) (.slice Ao123 t543.length co123)) (fun _ hk => by first | exact hk.2 | exact hk) (.slice Ao124 t546.length co124)) (fun _ hk => by first | exact hk.2 | exact hk) (.slice Ao125 t549.length co125)) (fun _ h_ => h_.1))) hb); have n4_ := Aside0.mk (Kd.R_below (by (with_reducible repeat (first | apply Kd.R_alloc | apply Kd.R_drewN | apply Kd.R_drew)); exact (Kd.R_mono (Kd.R_far (p := ⟨gb556, 4, none⟩) (Kd.R_far (p := ⟨gb556, 3, none⟩) (Kd.R_far (p := ⟨gb556, 2, none⟩) (Kd.R_far (p := ⟨gb556, 1, none⟩) (Kd.R_far (p := ⟨gb556, 0, none⟩) (Kd.R_types HO548.out BK556.out (by decide)) (fun _ hk => by first | exact hk.2 | exact hk) (.int .i64 t539)) (fun _ hk => by first | exact hk.2 | exact hk) (.slice Ao122 t540.length co122)) (fun _ hk => by first | exact hk.2 | exact hk) (.slice Ao123 t543.length co123)) (fun _ hk => by first | exact hk.2 | exact hk) (.slice Ao124 t546.length co124)) (fun _ hk => by first | exact hk.2 | exact hk) (.slice Ao125 t549.length co125)) (fun _ h_ => h_.1))) hb); have n5_ := Aside0.mk (Kd.R_below (by (with_reducible repeat (first | apply Kd.R_alloc | apply Kd.R_drewN | apply Kd.R_drew)); exact (Kd.R_mono (Kd.R_far (p := ⟨gb556, 4, none⟩) (Kd.R_far (p := ⟨gb556, 3, none⟩) (Kd.R_far (p := ⟨gb556, 2, none⟩) (Kd.R_far (p := ⟨gb556, 1, none⟩) (Kd.R_far (p := ⟨gb556, 0, none⟩) (Kd.R_types HO551.out BK556.out (by decide)) (fun _ hk => by first | exact hk.2 | exact hk) (.int .i64 t539)) (fun _ hk => by first | exact hk.2 | exact hk) (.slice Ao122 t540.length co122)) (fun _ hk => by first | exact hk.2 | exact hk) (.slice Ao123 t543.length co123)) (fun _ hk => by first | exact hk.2 | exact hk) (.slice Ao124 t546.length co124)) (fun _ hk => by first | exact hk.2 | exact hk) (.slice Ao125 t549.length co125)) (fun _ h_ => h_.1))) hb); have n6_ := Aside0.mk (Kd.R_below (by (with_reducible repeat (first | apply Kd.R_alloc | apply Kd.R_drewN | apply Kd.R_drew)); exact (Kd.R_mono (Kd.R_far (p := ⟨gb556, 4, none⟩) (Kd.R_far (p := ⟨gb556, 3, none⟩) (Kd.R_far (p := ⟨gb556, 2, none⟩) (Kd.R_far (p := ⟨gb556, 1, none⟩) (Kd.R_far (p := ⟨gb556, 0, none⟩) (Kd.R_types HO554.out BK556.out (by decide)) (fun _ hk => by first | exact hk.2 | exact hk) (.int .i64 t539)) (fun _ hk => by first | exact hk.2 | exact hk) (.slice Ao122 t540.length co122)) (fun _ hk => by first | exact hk.2 | exact hk) (.slice Ao123 t543.length co123)) (fun _ hk => by first | exact hk.2 | exact hk) (.slice Ao124 t546.length co124)) (fun _ hk => by first | exact hk.2 | exact hk) (.slice Ao125 t549.length co125)) (fun _ h_ => h_.1))) hb); have n7_ := Aside0.mk (blk_below (g := gb538) (o := .cells #[.int .i64 4, .slice Ao115 y526.length co115, .slice none 0 0, .slice Ao114 y535.length co114, .slice none 0 0, .slice none 0 0] 30 (0, 0)) zq1 hb); have n8_ := Aside0.mk (blk_below (g := gb556) (o := .cells #[.int .i64 t539, .slice Ao122 t540.length co122, .slice Ao123 t543.length co123, .slice Ao124 t546.length co124, .slice Ao125 t549.length co125] 26 (0, 0)) (by (with_reducible repeat (first | refine blk_drewN ?_ _ | refine blk_drew ?_ | refine blk_alloc ?_ _)); refine blk_put (cs := #[.int .i64 t539, .slice Ao122 t540.length co122, .slice Ao123 t543.length co123, .slice Ao124 t546.length co124, .slice none 0 0]) ?_ 4 _ rfl; (with_reducible repeat (first | refine blk_drewN ?_ _ | refine blk_drew ?_ | refine blk_alloc ?_ _)); refine blk_put (cs := #[.int .i64 t539, .slice Ao122 t540.length co122, .slice Ao123 t543.length co123, .slice none 0 0, .slice none 0 0]) ?_ 3 _ rfl; (with_reducible repeat (first | refine blk_drewN ?_ _ | refine blk_drew ?_ | refine blk_alloc ?_ _)); refine blk_put (cs := #[.int .i64 t539, .slice Ao122 t540.length co122, .slice none 0 0, .slice none 0 0, .slice none 0 0]) ?_ 2 _ rfl; (with_reducible repeat (first | refine blk_drewN ?_ _ | refine blk_drew ?_ | refine blk_alloc ?_ _)); refine blk_put (cs := #[.int .i64 t539, .slice none 0 0, .slice none 0 0, .slice none 0 0, .slice none 0 0]) ?_ 1 _ rfl; (with_reducible repeat (first | refine blk_drewN ?_ _ | refine blk_drew ?_ | refine blk_alloc ?_ _)); refine blk_put (cs := #[.int .i64 0, .slice none 0 0, .slice none 0 0, .slice none 0 0, .slice none 0 0]) ?_ 0 _ rfl; (with_reducible repeat (first | refine blk_drewN ?_ _ | refine blk_drew ?_ | refine blk_alloc ?_ _)); exact BK556.out) hb); have n9_ := Aside0.mk (below_step zq82 hb); clear HO528; clear HO537; clear HO542; clear HO545; clear HO548; clear HO551; clear HO554; clear BK538; clear BK556; clear HB; have HO528 := n0_; have HO537 := n1_; have HO542 := n2_; have HO545 := n3_; have HO548 := n4_; have HO551 := n5_; have HO554 := n6_; have BK538 := n7_; have BK556 := n8_; have HB := n9_; clear n0_ n1_ n2_ n3_ n4_ n5_ n6_ n7_ n8_ n9_; (try clear hb); (try clear hb2); (try clear hk); (try clear hi)) | ((with_reducible refine gate_callee (f := 50) rfl ?_); refine goesL_ (some 17) rfl rfl Try.func50 (by kernel_rfl) rfl #[.int .i64 8, .int .i64 6, .int .i64 2] rfl zq106 ?_; (with_reducible refine (l3_gate.calls 8 6 2 t560 t561 t562 _ A5.out).mono ?_); rintro e w127 ⟨rfl, hb⟩; refine ⟨_, rfl, ?_⟩; have n0_ := Aside0.mk (Kd.R_below zq143 hb); have n1_ := Aside0.mk (Kd.R_below zq144 hb); have n2_ := Aside0.mk (Kd.R_below zq145 hb); have n3_ := Aside0.mk (Kd.R_below zq146 hb); have n4_ := Aside0.mk (Kd.R_below zq147 hb); have n5_ := Aside0.mk (Kd.R_below zq148 hb); have n6_ := Aside0.mk (Kd.R_below zq149 hb); have n7_ := Aside0.mk (blk_below (g := gb538) (o := .cells #[.int .i64 4, .slice Ao115 y526.length co115, .slice none 0 0, .slice Ao114 y535.length co114, .slice none 0 0, .slice none 0 0] 30 (0, 0)) zq114 hb); have n8_ := Aside0.mk (blk_below (g := gb556) (o := .cells #[.int .i64 t539, .slice Ao122 t540.length co122, .slice Ao123 t543.length co123, .slice Ao124 t546.length co124, .slice Ao125 t549.length co125] 26 (0, 0)) zq115 hb); have n9_ := Aside0.mk (below_step zq82 hb); clear HO528; clear HO537; clear HO542; clear HO545; clear HO548; clear HO551; clear HO554; clear BK538; clear BK556; clear HB; have HO528 := n0_; have HO537 := n1_; have HO542 := n2_; have HO545 := n3_; have HO548 := n4_; have HO551 := n5_; have HO554 := n6_; have BK538 := n7_; have BK556 := n8_; have HB := n9_; clear n0_ n1_ n2_ n3_ n4_ n5_ n6_ n7_ n8_ n9_; (try clear hb); (try clear hb2); (try clear hk); (try clear hi)) | ((with_reducible refine gate_dst (N := 18) rfl ?_); (try (refine gate_guard (by rfl) ?_; dsimp only)); refine Kd.R_lit k56 _ 56 ?hg (N := 18) ?hd (xs := ([(⟨t557, t558, t559⟩ : S56), (⟨t560, t561, t562⟩ : S56)] : List (S56))) (inner := [.int .i64 t557, .int .i64 t558, .int .i64 t559, .int .i64 t560, .int .i64 t561, .int .i64 t562]) (ok := fun _ => True) (okp := fun _ => True) ?hr ?hp (fun _ hk => hk) trivial (Below.refl _ _) (Nat.le_refl _) (by simp) ?_; (case hd => rfl); (case hg => rfl); (case hr => first | (go_simp; done) | (go_simp; rfl)); (case hp => exact zq37); intro v564 w128 ho129 hb hg_ hnew_; clear hg_ hnew_; (first | rw [← Ny563.out] at ho129 | (simp only [Int.reduceToNat] at ho129; rw [← Ny563.out] at ho129)); have n0_ := Aside0.mk (Kd.R_below zq143 hb); have n1_ := Aside0.mk (Kd.R_elder' zq144 (Kd.R_base ho129) hb); have n2_ := Aside0.mk (Kd.R_below zq145 hb); have n3_ := Aside0.mk (Kd.R_below zq146 hb); have n4_ := Aside0.mk (Kd.R_below zq147 hb); have n5_ := Aside0.mk (Kd.R_below zq148 hb); have n6_ := Aside0.mk (Kd.R_below zq149 hb); have n7_ := Aside0.mk (Kd.R_lower (Kd.R_new' ho129 (Kd.R_lt zq144)) (below_size zq82)); have n8_ := Aside0.mk (blk_below (g := gb538) (o := .cells #[.int .i64 4, .slice Ao115 y526.length co115, .slice none 0 0, .slice Ao114 y535.length co114, .slice none 0 0, .slice none 0 0] 30 (0, 0)) zq114 hb); have n9_ := Aside0.mk (blk_below (g := gb556) (o := .cells #[.int .i64 t539, .slice Ao122 t540.length co122, .slice Ao123 t543.length co123, .slice Ao124 t546.length co124, .slice Ao125 t549.length co125] 26 (0, 0)) zq115 hb); have n10_ := Aside0.mk (below_step zq82 hb); clear HO528; clear HO537; clear HO542; clear HO545; clear HO548; clear HO551; clear HO554; clear BK538; clear BK556; clear HB; have HO528 := n0_; have HO537 := n1_; have HO542 := n2_; have HO545 := n3_; have HO548 := n4_; have HO551 := n5_; have HO554 := n6_; have HO565 := n7_; have BK538 := n8_; have BK556 := n9_; have HB := n10_; clear n0_ n1_ n2_ n3_ n4_ n5_ n6_ n7_ n8_ n9_ n10_; clear hb ho129; obtain ⟨Ao130, co130, eo130⟩ := Kd.R_slice HO565.out; subst eo130; obtain ⟨b131_0, b131_1, b131_2, b131_3, b131_4, b131_5, d131_0, d131_1, d131_2, d131_3, d131_4, d131_5⟩ := bk6 BK538.out))
   go_ret
   exact ⟨zq171, zq82⟩
def r3_Great.f (a0_0 : Int) (l0_1 : List Int) (l0_2 : List (S56)) (l0_3 : List (S56)) (l0_4 : List Int) (l0_5 : List Int) : Option (Bool) := if (l0_1.length : Int) > 60 then (if (l0_1.length : Int) = 1001 then (if (l0_2.length : Int) > 60 then (some true) else (if (l0_3.length : Int) > 60 then (some true) else (if (l0_4.length : Int) > 110 then (some true) else (if (l0_5.length : Int) > 110 then (some true) else (if a0_0 > 200 then (some (decide (a0_0 < 991))) else (some false)))))) else (some true)) else (if (l0_2.length : Int) > 60 then (some true) else (if (l0_3.length : Int) > 60 then (some true) else (if (l0_4.length : Int) > 110 then (some true) else (if (l0_5.length : Int) > 110 then (some true) else (if a0_0 > 200 then (some (decide (a0_0 < 991))) else (some false))))))
set_option maxHeartbeats 8000000 in
set_option maxRecDepth 100000 in
theorem r3_Great.calls (a0_0 : Int) (A0_1 : Option Addr) (c0_1 : Nat) (l0_1 : List Int) (A0_2 : Option Addr) (c0_2 : Nat) (l0_2 : List (S56)) (A0_3 : Option Addr) (c0_3 : Nat) (l0_3 : List (S56)) (A0_4 : Option Addr) (c0_4 : Nat) (l0_4 : List Int) (A0_5 : Option Addr) (c0_5 : Nat) (l0_5 : List Int) (r : Bool) (w : World) (hr0_1 : Kd.C (Kd.int .i64) w A0_1 l0_1.length l0_1) (hc0_1 : l0_1.length ≤ c0_1) (hr0_2 : Kd.C k56 w A0_2 l0_2.length l0_2) (hc0_2 : l0_2.length ≤ c0_2) (hr0_3 : Kd.C k56 w A0_3 l0_3.length l0_3) (hc0_3 : l0_3.length ≤ c0_3) (hr0_4 : Kd.C (Kd.int .i64) w A0_4 l0_4.length l0_4) (hc0_4 : l0_4.length ≤ c0_4) (hr0_5 : Kd.C (Kd.int .i64) w A0_5 l0_5.length l0_5) (hc0_5 : l0_5.length ≤ c0_5) (h : r3_Great.f a0_0 l0_1 l0_2 l0_3 l0_4 l0_5 = some r) :
 Calls Try.prog 14 #[.agg #[.int .i64 a0_0, .slice A0_1 l0_1.length c0_1, .slice A0_2 l0_2.length c0_2, .slice A0_3 l0_3.length c0_3, .slice A0_4 l0_4.length c0_4, .slice A0_5 l0_5.length c0_5]] w fun e w' => e = .returned (.bool r) ∧ Below w.heap.size w w' := by
 have hu30 := Try.underlying30
 have HR0_1 := Aside0.mk hr0_1
 have HC0_1 := Aside0.mk hc0_1
 clear hr0_1 hc0_1
 have HR0_2 := Aside0.mk hr0_2
 have HC0_2 := Aside0.mk hc0_2
 clear hr0_2 hc0_2
 have HR0_3 := Aside0.mk hr0_3
 have HC0_3 := Aside0.mk hc0_3
 clear hr0_3 hc0_3
 have HR0_4 := Aside0.mk hr0_4
 have HC0_4 := Aside0.mk hc0_4
 clear hr0_4 hc0_4
 have HR0_5 := Aside0.mk hr0_5
 have HC0_5 := Aside0.mk hc0_5
 clear hr0_5 hc0_5
 have HB := Aside0.mk (Below.refl w.heap.size w)
 have H : (if (l0_1.length : Int) > 60 then (if (l0_1.length : Int) = 1001 then (if (l0_2.length : Int) > 60 then (some true) else (if (l0_3.length : Int) > 60 then (some true) else (if (l0_4.length : Int) > 110 then (some true) else (if (l0_5.length : Int) > 110 then (some true) else (if a0_0 > 200 then (some (decide (a0_0 < 991))) else (some false)))))) else (some true)) else (if (l0_2.length : Int) > 60 then (some true) else (if (l0_3.length : Int) > 60 then (some true) else (if (l0_4.length : Int) > 110 then (some true) else (if (l0_5.length : Int) > 110 then (some true) else (if a0_0 > 200 then (some (decide (a0_0 < 991))) else (some false))))))) = some r := h
 clear h
 by_cases c2 : (l0_1.length : Int) > 60
 · rw [if_pos c2] at H
   have c2b0 : decide (60 < (l0_1.length : Int)) = true := decide_eq_true c2
   have c2b1 : decide (60 < l0_1.length) = true := decide_eq_true (by omega)
   clear c2
   by_cases c3 : (l0_1.length : Int) = 1001
   · rw [if_pos c3] at H
     have c3b0 : ((l0_1.length : Int) == 1001) = true := beq_iff_eq.mpr c3
     have c3b1 : ((l0_1.length : Int) != 1001) = false := bne_eq_false_iff_eq.mpr c3
     clear c3
     by_cases c4 : (l0_2.length : Int) > 60
     · rw [if_pos c4] at H
       have c4b0 : decide (60 < (l0_2.length : Int)) = true := decide_eq_true c4
       have c4b1 : decide (60 < l0_2.length) = true := decide_eq_true (by omega)
       clear c4
       obtain rfl := Option.some.inj H
       go_enter Try.func14, Try.ntmps14
       go_wp2_with (first | ((with_reducible refine gate_dst (N := 1) rfl ?_); (try (refine gate_guard (by rfl) ?_; dsimp only)); refine box_event ?hg (N := 1) ?hd (cs := #[.int .i64 a0_0, .slice A0_1 l0_1.length c0_1, .slice A0_2 l0_2.length c0_2, .slice A0_3 l0_3.length c0_3, .slice A0_4 l0_4.length c0_4, .slice A0_5 l0_5.length c0_5]) (t := 30) ?hr ?_; (case hd => rfl); (case hg => rfl); (case hr => first | (go_simp; done) | (go_simp; rfl)); intro gb242 hg w5 hbox hb; have n0_ := Aside0.mk (below_step zq107 hb); have n1_ := Aside0.mk (hbox); have n2_ := Aside0.mk ((zq97 : w.heap.size ≤ gb242)); have n3_ := Aside0.mk ((zq97 : w.heap.size ≤ gb242)); clear HB; have HB := n0_; have BK242 := n1_; have GW242 := n2_; have GE242 := n3_; clear n0_ n1_ n2_ n3_; clear hb hbox hg; obtain ⟨b6_0, b6_1, b6_2, b6_3, b6_4, b6_5, d6_0, d6_1, d6_2, d6_3, d6_4, d6_5⟩ := bk6 BK242.out))
       go_ret
       exact ⟨zq171, zq98⟩
     · rw [if_neg c4] at H
       have c4b0 : decide (60 < (l0_2.length : Int)) = false := decide_eq_false c4
       have c4b1 : decide (60 < l0_2.length) = false := decide_eq_false (by omega)
       clear c4
       by_cases c7 : (l0_3.length : Int) > 60
       · rw [if_pos c7] at H
         have c7b0 : decide (60 < (l0_3.length : Int)) = true := decide_eq_true c7
         have c7b1 : decide (60 < l0_3.length) = true := decide_eq_true (by omega)
         clear c7
         obtain rfl := Option.some.inj H
         go_enter Try.func14, Try.ntmps14
         go_wp2_with (first | ((with_reducible refine gate_dst (N := 1) rfl ?_); (try (refine gate_guard (by rfl) ?_; dsimp only)); refine box_event ?hg (N := 1) ?hd (cs := #[.int .i64 a0_0, .slice A0_1 l0_1.length c0_1, .slice A0_2 l0_2.length c0_2, .slice A0_3 l0_3.length c0_3, .slice A0_4 l0_4.length c0_4, .slice A0_5 l0_5.length c0_5]) (t := 30) ?hr ?_; (case hd => rfl); (case hg => rfl); (case hr => first | (go_simp; done) | (go_simp; rfl)); intro gb242 hg w8 hbox hb; have n0_ := Aside0.mk (below_step zq107 hb); have n1_ := Aside0.mk (hbox); have n2_ := Aside0.mk ((zq97 : w.heap.size ≤ gb242)); have n3_ := Aside0.mk ((zq97 : w.heap.size ≤ gb242)); clear HB; have HB := n0_; have BK242 := n1_; have GW242 := n2_; have GE242 := n3_; clear n0_ n1_ n2_ n3_; clear hb hbox hg; obtain ⟨b9_0, b9_1, b9_2, b9_3, b9_4, b9_5, d9_0, d9_1, d9_2, d9_3, d9_4, d9_5⟩ := bk6 BK242.out))
         go_ret
         exact ⟨zq171, zq98⟩
       · rw [if_neg c7] at H
         have c7b0 : decide (60 < (l0_3.length : Int)) = false := decide_eq_false c7
         have c7b1 : decide (60 < l0_3.length) = false := decide_eq_false (by omega)
         clear c7
         by_cases c10 : (l0_4.length : Int) > 110
         · rw [if_pos c10] at H
           have c10b0 : decide (110 < (l0_4.length : Int)) = true := decide_eq_true c10
           have c10b1 : decide (110 < l0_4.length) = true := decide_eq_true (by omega)
           clear c10
           obtain rfl := Option.some.inj H
           go_enter Try.func14, Try.ntmps14
           go_wp2_with (first | ((with_reducible refine gate_dst (N := 1) rfl ?_); (try (refine gate_guard (by rfl) ?_; dsimp only)); refine box_event ?hg (N := 1) ?hd (cs := #[.int .i64 a0_0, .slice A0_1 l0_1.length c0_1, .slice A0_2 l0_2.length c0_2, .slice A0_3 l0_3.length c0_3, .slice A0_4 l0_4.length c0_4, .slice A0_5 l0_5.length c0_5]) (t := 30) ?hr ?_; (case hd => rfl); (case hg => rfl); (case hr => first | (go_simp; done) | (go_simp; rfl)); intro gb242 hg w11 hbox hb; have n0_ := Aside0.mk (below_step zq107 hb); have n1_ := Aside0.mk (hbox); have n2_ := Aside0.mk ((zq97 : w.heap.size ≤ gb242)); have n3_ := Aside0.mk ((zq97 : w.heap.size ≤ gb242)); clear HB; have HB := n0_; have BK242 := n1_; have GW242 := n2_; have GE242 := n3_; clear n0_ n1_ n2_ n3_; clear hb hbox hg; obtain ⟨b12_0, b12_1, b12_2, b12_3, b12_4, b12_5, d12_0, d12_1, d12_2, d12_3, d12_4, d12_5⟩ := bk6 BK242.out))
           go_ret
           exact ⟨zq171, zq98⟩
         · rw [if_neg c10] at H
           have c10b0 : decide (110 < (l0_4.length : Int)) = false := decide_eq_false c10
           have c10b1 : decide (110 < l0_4.length) = false := decide_eq_false (by omega)
           clear c10
           by_cases c13 : (l0_5.length : Int) > 110
           · rw [if_pos c13] at H
             have c13b0 : decide (110 < (l0_5.length : Int)) = true := decide_eq_true c13
             have c13b1 : decide (110 < l0_5.length) = true := decide_eq_true (by omega)
             clear c13
             obtain rfl := Option.some.inj H
             go_enter Try.func14, Try.ntmps14
             go_wp2_with (first | ((with_reducible refine gate_dst (N := 1) rfl ?_); (try (refine gate_guard (by rfl) ?_; dsimp only)); refine box_event ?hg (N := 1) ?hd (cs := #[.int .i64 a0_0, .slice A0_1 l0_1.length c0_1, .slice A0_2 l0_2.length c0_2, .slice A0_3 l0_3.length c0_3, .slice A0_4 l0_4.length c0_4, .slice A0_5 l0_5.length c0_5]) (t := 30) ?hr ?_; (case hd => rfl); (case hg => rfl); (case hr => first | (go_simp; done) | (go_simp; rfl)); intro gb242 hg w14 hbox hb; have n0_ := Aside0.mk (below_step zq107 hb); have n1_ := Aside0.mk (hbox); have n2_ := Aside0.mk ((zq97 : w.heap.size ≤ gb242)); have n3_ := Aside0.mk ((zq97 : w.heap.size ≤ gb242)); clear HB; have HB := n0_; have BK242 := n1_; have GW242 := n2_; have GE242 := n3_; clear n0_ n1_ n2_ n3_; clear hb hbox hg; obtain ⟨b15_0, b15_1, b15_2, b15_3, b15_4, b15_5, d15_0, d15_1, d15_2, d15_3, d15_4, d15_5⟩ := bk6 BK242.out))
             go_ret
             exact ⟨zq171, zq98⟩
           · rw [if_neg c13] at H
             have c13b0 : decide (110 < (l0_5.length : Int)) = false := decide_eq_false c13
             have c13b1 : decide (110 < l0_5.length) = false := decide_eq_false (by omega)
             clear c13
             by_cases c16 : a0_0 > 200
             · rw [if_pos c16] at H
               have c16b0 : decide (200 < a0_0) = true := decide_eq_true c16
               clear c16
               obtain rfl := Option.some.inj H
               go_enter Try.func14, Try.ntmps14
               go_wp2_with (first | ((with_reducible refine gate_dst (N := 1) rfl ?_); (try (refine gate_guard (by rfl) ?_; dsimp only)); refine box_event ?hg (N := 1) ?hd (cs := #[.int .i64 a0_0, .slice A0_1 l0_1.length c0_1, .slice A0_2 l0_2.length c0_2, .slice A0_3 l0_3.length c0_3, .slice A0_4 l0_4.length c0_4, .slice A0_5 l0_5.length c0_5]) (t := 30) ?hr ?_; (case hd => rfl); (case hg => rfl); (case hr => first | (go_simp; done) | (go_simp; rfl)); intro gb242 hg w17 hbox hb; have n0_ := Aside0.mk (below_step zq107 hb); have n1_ := Aside0.mk (hbox); have n2_ := Aside0.mk ((zq97 : w.heap.size ≤ gb242)); have n3_ := Aside0.mk ((zq97 : w.heap.size ≤ gb242)); clear HB; have HB := n0_; have BK242 := n1_; have GW242 := n2_; have GE242 := n3_; clear n0_ n1_ n2_ n3_; clear hb hbox hg; obtain ⟨b18_0, b18_1, b18_2, b18_3, b18_4, b18_5, d18_0, d18_1, d18_2, d18_3, d18_4, d18_5⟩ := bk6 BK242.out))
               go_ret
               exact ⟨zq171, zq98⟩
             · rw [if_neg c16] at H
               have c16b0 : decide (200 < a0_0) = false := decide_eq_false c16
               clear c16
               obtain rfl := Option.some.inj H
               go_enter Try.func14, Try.ntmps14
               go_wp2_with (first | ((with_reducible refine gate_dst (N := 1) rfl ?_); (try (refine gate_guard (by rfl) ?_; dsimp only)); refine box_event ?hg (N := 1) ?hd (cs := #[.int .i64 a0_0, .slice A0_1 l0_1.length c0_1, .slice A0_2 l0_2.length c0_2, .slice A0_3 l0_3.length c0_3, .slice A0_4 l0_4.length c0_4, .slice A0_5 l0_5.length c0_5]) (t := 30) ?hr ?_; (case hd => rfl); (case hg => rfl); (case hr => first | (go_simp; done) | (go_simp; rfl)); intro gb242 hg w19 hbox hb; have n0_ := Aside0.mk (below_step zq107 hb); have n1_ := Aside0.mk (hbox); have n2_ := Aside0.mk ((zq97 : w.heap.size ≤ gb242)); have n3_ := Aside0.mk ((zq97 : w.heap.size ≤ gb242)); clear HB; have HB := n0_; have BK242 := n1_; have GW242 := n2_; have GE242 := n3_; clear n0_ n1_ n2_ n3_; clear hb hbox hg; obtain ⟨b20_0, b20_1, b20_2, b20_3, b20_4, b20_5, d20_0, d20_1, d20_2, d20_3, d20_4, d20_5⟩ := bk6 BK242.out))
               go_ret
               exact ⟨zq171, zq98⟩
   · rw [if_neg c3] at H
     have c3b0 : ((l0_1.length : Int) == 1001) = false := beq_eq_false_iff_ne.mpr c3
     have c3b1 : ((l0_1.length : Int) != 1001) = true := bne_iff_ne.mpr c3
     obtain rfl := Option.some.inj H
     go_enter Try.func14, Try.ntmps14
     go_wp2_with (first | ((with_reducible refine gate_dst (N := 1) rfl ?_); (try (refine gate_guard (by rfl) ?_; dsimp only)); refine box_event ?hg (N := 1) ?hd (cs := #[.int .i64 a0_0, .slice A0_1 l0_1.length c0_1, .slice A0_2 l0_2.length c0_2, .slice A0_3 l0_3.length c0_3, .slice A0_4 l0_4.length c0_4, .slice A0_5 l0_5.length c0_5]) (t := 30) ?hr ?_; (case hd => rfl); (case hg => rfl); (case hr => first | (go_simp; done) | (go_simp; rfl)); intro gb242 hg w21 hbox hb; have n0_ := Aside0.mk (below_step zq107 hb); have n1_ := Aside0.mk (hbox); have n2_ := Aside0.mk ((zq97 : w.heap.size ≤ gb242)); have n3_ := Aside0.mk ((zq97 : w.heap.size ≤ gb242)); clear HB; have HB := n0_; have BK242 := n1_; have GW242 := n2_; have GE242 := n3_; clear n0_ n1_ n2_ n3_; clear hb hbox hg; obtain ⟨b22_0, b22_1, b22_2, b22_3, b22_4, b22_5, d22_0, d22_1, d22_2, d22_3, d22_4, d22_5⟩ := bk6 BK242.out))
     go_ret
     exact ⟨zq171, zq98⟩
 · rw [if_neg c2] at H
   have c2b0 : decide (60 < (l0_1.length : Int)) = false := decide_eq_false c2
   have c2b1 : decide (60 < l0_1.length) = false := decide_eq_false (by omega)
   clear c2
   by_cases c23 : (l0_2.length : Int) > 60
   · rw [if_pos c23] at H
     have c23b0 : decide (60 < (l0_2.length : Int)) = true := decide_eq_true c23
     have c23b1 : decide (60 < l0_2.length) = true := decide_eq_true (by omega)
     clear c23
     obtain rfl := Option.some.inj H
     go_enter Try.func14, Try.ntmps14
     go_wp2_with (first | ((with_reducible refine gate_dst (N := 1) rfl ?_); (try (refine gate_guard (by rfl) ?_; dsimp only)); refine box_event ?hg (N := 1) ?hd (cs := #[.int .i64 a0_0, .slice A0_1 l0_1.length c0_1, .slice A0_2 l0_2.length c0_2, .slice A0_3 l0_3.length c0_3, .slice A0_4 l0_4.length c0_4, .slice A0_5 l0_5.length c0_5]) (t := 30) ?hr ?_; (case hd => rfl); (case hg => rfl); (case hr => first | (go_simp; done) | (go_simp; rfl)); intro gb242 hg w24 hbox hb; have n0_ := Aside0.mk (below_step zq107 hb); have n1_ := Aside0.mk (hbox); have n2_ := Aside0.mk ((zq97 : w.heap.size ≤ gb242)); have n3_ := Aside0.mk ((zq97 : w.heap.size ≤ gb242)); clear HB; have HB := n0_; have BK242 := n1_; have GW242 := n2_; have GE242 := n3_; clear n0_ n1_ n2_ n3_; clear hb hbox hg; obtain ⟨b25_0, b25_1, b25_2, b25_3, b25_4, b25_5, d25_0, d25_1, d25_2, d25_3, d25_4, d25_5⟩ := bk6 BK242.out))
     go_ret
     exact ⟨zq171, zq98⟩
   · rw [if_neg c23] at H
     have c23b0 : decide (60 < (l0_2.length : Int)) = false := decide_eq_false c23
     have c23b1 : decide (60 < l0_2.length) = false := decide_eq_false (by omega)
     clear c23
     by_cases c26 : (l0_3.length : Int) > 60
     · rw [if_pos c26] at H
       have c26b0 : decide (60 < (l0_3.length : Int)) = true := decide_eq_true c26
       have c26b1 : decide (60 < l0_3.length) = true := decide_eq_true (by omega)
       clear c26
       obtain rfl := Option.some.inj H
       go_enter Try.func14, Try.ntmps14
       go_wp2_with (first | ((with_reducible refine gate_dst (N := 1) rfl ?_); (try (refine gate_guard (by rfl) ?_; dsimp only)); refine box_event ?hg (N := 1) ?hd (cs := #[.int .i64 a0_0, .slice A0_1 l0_1.length c0_1, .slice A0_2 l0_2.length c0_2, .slice A0_3 l0_3.length c0_3, .slice A0_4 l0_4.length c0_4, .slice A0_5 l0_5.length c0_5]) (t := 30) ?hr ?_; (case hd => rfl); (case hg => rfl); (case hr => first | (go_simp; done) | (go_simp; rfl)); intro gb242 hg w27 hbox hb; have n0_ := Aside0.mk (below_step zq107 hb); have n1_ := Aside0.mk (hbox); have n2_ := Aside0.mk ((zq97 : w.heap.size ≤ gb242)); have n3_ := Aside0.mk ((zq97 : w.heap.size ≤ gb242)); clear HB; have HB := n0_; have BK242 := n1_; have GW242 := n2_; have GE242 := n3_; clear n0_ n1_ n2_ n3_; clear hb hbox hg; obtain ⟨b28_0, b28_1, b28_2, b28_3, b28_4, b28_5, d28_0, d28_1, d28_2, d28_3, d28_4, d28_5⟩ := bk6 BK242.out))
       go_ret
       exact ⟨zq171, zq98⟩
     · rw [if_neg c26] at H
       have c26b0 : decide (60 < (l0_3.length : Int)) = false := decide_eq_false c26
       have c26b1 : decide (60 < l0_3.length) = false := decide_eq_false (by omega)
       clear c26
       by_cases c29 : (l0_4.length : Int) > 110
       · rw [if_pos c29] at H
         have c29b0 : decide (110 < (l0_4.length : Int)) = true := decide_eq_true c29
         have c29b1 : decide (110 < l0_4.length) = true := decide_eq_true (by omega)
         clear c29
         obtain rfl := Option.some.inj H
         go_enter Try.func14, Try.ntmps14
         go_wp2_with (first | ((with_reducible refine gate_dst (N := 1) rfl ?_); (try (refine gate_guard (by rfl) ?_; dsimp only)); refine box_event ?hg (N := 1) ?hd (cs := #[.int .i64 a0_0, .slice A0_1 l0_1.length c0_1, .slice A0_2 l0_2.length c0_2, .slice A0_3 l0_3.length c0_3, .slice A0_4 l0_4.length c0_4, .slice A0_5 l0_5.length c0_5]) (t := 30) ?hr ?_; (case hd => rfl); (case hg => rfl); (case hr => first | (go_simp; done) | (go_simp; rfl)); intro gb242 hg w30 hbox hb; have n0_ := Aside0.mk (below_step zq107 hb); have n1_ := Aside0.mk (hbox); have n2_ := Aside0.mk ((zq97 : w.heap.size ≤ gb242)); have n3_ := Aside0.mk ((zq97 : w.heap.size ≤ gb242)); clear HB; have HB := n0_; have BK242 := n1_; have GW242 := n2_; have GE242 := n3_; clear n0_ n1_ n2_ n3_; clear hb hbox hg; obtain ⟨b31_0, b31_1, b31_2, b31_3, b31_4, b31_5, d31_0, d31_1, d31_2, d31_3, d31_4, d31_5⟩ := bk6 BK242.out))
         go_ret
         exact ⟨zq171, zq98⟩
       · rw [if_neg c29] at H
         have c29b0 : decide (110 < (l0_4.length : Int)) = false := decide_eq_false c29
         have c29b1 : decide (110 < l0_4.length) = false := decide_eq_false (by omega)
         clear c29
         by_cases c32 : (l0_5.length : Int) > 110
         · rw [if_pos c32] at H
           have c32b0 : decide (110 < (l0_5.length : Int)) = true := decide_eq_true c32
           have c32b1 : decide (110 < l0_5.length) = true := decide_eq_true (by omega)
           clear c32
           obtain rfl := Option.some.inj H
           go_enter Try.func14, Try.ntmps14
           go_wp2_with (first | ((with_reducible refine gate_dst (N := 1) rfl ?_); (try (refine gate_guard (by rfl) ?_; dsimp only)); refine box_event ?hg (N := 1) ?hd (cs := #[.int .i64 a0_0, .slice A0_1 l0_1.length c0_1, .slice A0_2 l0_2.length c0_2, .slice A0_3 l0_3.length c0_3, .slice A0_4 l0_4.length c0_4, .slice A0_5 l0_5.length c0_5]) (t := 30) ?hr ?_; (case hd => rfl); (case hg => rfl); (case hr => first | (go_simp; done) | (go_simp; rfl)); intro gb242 hg w33 hbox hb; have n0_ := Aside0.mk (below_step zq107 hb); have n1_ := Aside0.mk (hbox); have n2_ := Aside0.mk ((zq97 : w.heap.size ≤ gb242)); have n3_ := Aside0.mk ((zq97 : w.heap.size ≤ gb242)); clear HB; have HB := n0_; have BK242 := n1_; have GW242 := n2_; have GE242 := n3_; clear n0_ n1_ n2_ n3_; clear hb hbox hg; obtain ⟨b34_0, b34_1, b34_2, b34_3, b34_4, b34_5, d34_0, d34_1, d34_2, d34_3, d34_4, d34_5⟩ := bk6 BK242.out))
           go_ret
           exact ⟨zq171, zq98⟩
         · rw [if_neg c32] at H
           have c32b0 : decide (110 < (l0_5.length : Int)) = false := decide_eq_false c32
           have c32b1 : decide (110 < l0_5.length) = false := decide_eq_false (by omega)
           clear c32
           by_cases c35 : a0_0 > 200
           · rw [if_pos c35] at H
             have c35b0 : decide (200 < a0_0) = true := decide_eq_true c35
             clear c35
             obtain rfl := Option.some.inj H
             go_enter Try.func14, Try.ntmps14
             go_wp2_with (first | ((with_reducible refine gate_dst (N := 1) rfl ?_); (try (refine gate_guard (by rfl) ?_; dsimp only)); refine box_event ?hg (N := 1) ?hd (cs := #[.int .i64 a0_0, .slice A0_1 l0_1.length c0_1, .slice A0_2 l0_2.length c0_2, .slice A0_3 l0_3.length c0_3, .slice A0_4 l0_4.length c0_4, .slice A0_5 l0_5.length c0_5]) (t := 30) ?hr ?_; (case hd => rfl); (case hg => rfl); (case hr => first | (go_simp; done) | (go_simp; rfl)); intro gb242 hg w36 hbox hb; have n0_ := Aside0.mk (below_step zq107 hb); have n1_ := Aside0.mk (hbox); have n2_ := Aside0.mk ((zq97 : w.heap.size ≤ gb242)); have n3_ := Aside0.mk ((zq97 : w.heap.size ≤ gb242)); clear HB; have HB := n0_; have BK242 := n1_; have GW242 := n2_; have GE242 := n3_; clear n0_ n1_ n2_ n3_; clear hb hbox hg; obtain ⟨b37_0, b37_1, b37_2, b37_3, b37_4, b37_5, d37_0, d37_1, d37_2, d37_3, d37_4, d37_5⟩ := bk6 BK242.out))
             go_ret
             exact ⟨zq171, zq98⟩
           · rw [if_neg c35] at H
             have c35b0 : decide (200 < a0_0) = false := decide_eq_false c35
             clear c35
             obtain rfl := Option.some.inj H
             go_enter Try.func14, Try.ntmps14
             go_wp2_with (first | ((with_reducible refine gate_dst (N := 1) rfl ?_); (try (refine gate_guard (by rfl) ?_; dsimp only)); refine box_event ?hg (N := 1) ?hd (cs := #[.int .i64 a0_0, .slice A0_1 l0_1.length c0_1, .slice A0_2 l0_2.length c0_2, .slice A0_3 l0_3.length c0_3, .slice A0_4 l0_4.length c0_4, .slice A0_5 l0_5.length c0_5]) (t := 30) ?hr ?_; (case hd => rfl); (case hg => rfl); (case hr => first | (go_simp; done) | (go_simp; rfl)); intro gb242 hg w38 hbox hb; have n0_ := Aside0.mk (below_step zq107 hb); have n1_ := Aside0.mk (hbox); have n2_ := Aside0.mk ((zq97 : w.heap.size ≤ gb242)); have n3_ := Aside0.mk ((zq97 : w.heap.size ≤ gb242)); clear HB; have HB := n0_; have BK242 := n1_; have GW242 := n2_; have GE242 := n3_; clear n0_ n1_ n2_ n3_; clear hb hbox hg; obtain ⟨b39_0, b39_1, b39_2, b39_3, b39_4, b39_5, d39_0, d39_1, d39_2, d39_3, d39_4, d39_5⟩ := bk6 BK242.out))
             go_ret
             exact ⟨zq171, zq98⟩
def r3_Twin.f (a0_0 : Int) (l0_1 : List Int) (l0_2 : List (S56)) (l0_3 : List (S56)) (l0_4 : List Int) (l0_5 : List Int) : Option (Int × List Int × (List (S56)) × (List (S56)) × List Int × List Int) := (some (([] : List Int) : List Int)).bind fun y245 => (if y245.length + l0_1.length < 17592186044416 then ((some (([] : List (S56)) : List (S56))).bind fun y251 => (if y251.length + l0_2.length < 5864062014805 then ((some (([] : List (S56)) : List (S56))).bind fun y257 => (if y257.length + l0_3.length < 5864062014805 then ((some (([] : List Int) : List Int)).bind fun y263 => (if y263.length + l0_4.length < 17592186044416 then ((some (([] : List Int) : List Int)).bind fun y269 => (if y269.length + l0_5.length < 17592186044416 then (some (a0_0, (y245 ++ l0_1), (y251 ++ l0_2), (y257 ++ l0_3), (y263 ++ l0_4), (y269 ++ l0_5))) else (none))) else (none))) else (none))) else (none))) else (none))
set_option maxHeartbeats 8000000 in
set_option maxRecDepth 100000 in
theorem r3_Twin.calls (a0_0 : Int) (A0_1 : Option Addr) (c0_1 : Nat) (l0_1 : List Int) (A0_2 : Option Addr) (c0_2 : Nat) (l0_2 : List (S56)) (A0_3 : Option Addr) (c0_3 : Nat) (l0_3 : List (S56)) (A0_4 : Option Addr) (c0_4 : Nat) (l0_4 : List Int) (A0_5 : Option Addr) (c0_5 : Nat) (l0_5 : List Int) (r1 : Int) (r2 : List Int) (r3 : List (S56)) (r4 : List (S56)) (r5 : List Int) (r6 : List Int) (w : World) (hr0_1 : Kd.C (Kd.int .i64) w A0_1 l0_1.length l0_1) (hc0_1 : l0_1.length ≤ c0_1) (hr0_2 : Kd.C k56 w A0_2 l0_2.length l0_2) (hc0_2 : l0_2.length ≤ c0_2) (hr0_3 : Kd.C k56 w A0_3 l0_3.length l0_3) (hc0_3 : l0_3.length ≤ c0_3) (hr0_4 : Kd.C (Kd.int .i64) w A0_4 l0_4.length l0_4) (hc0_4 : l0_4.length ≤ c0_4) (hr0_5 : Kd.C (Kd.int .i64) w A0_5 l0_5.length l0_5) (hc0_5 : l0_5.length ≤ c0_5) (h : r3_Twin.f a0_0 l0_1 l0_2 l0_3 l0_4 l0_5 = some (r1, r2, r3, r4, r5, r6)) :
 Calls Try.prog 15 #[.agg #[.int .i64 a0_0, .slice A0_1 l0_1.length c0_1, .slice A0_2 l0_2.length c0_2, .slice A0_3 l0_3.length c0_3, .slice A0_4 l0_4.length c0_4, .slice A0_5 l0_5.length c0_5]] w fun e w' => ∃ v1_ v2_ v3_ v4_ v5_ : Value, e = .returned (.agg #[.int .i64 r1, v1_, v2_, v3_, v4_, v5_]) ∧ Kd.R (Kd.int .i64) 3 w' w.heap.size (fun k_ => some k_ ≠ (v4_ : Value).ownBlock ∧ some k_ ≠ (v5_ : Value).ownBlock) v1_ r2 ∧ Kd.R k56 56 w' w.heap.size (fun k_ => some k_ ≠ (v3_ : Value).ownBlock) v2_ r3 ∧ Kd.R k56 56 w' w.heap.size (fun k_ => some k_ ≠ (v2_ : Value).ownBlock) v3_ r4 ∧ Kd.R (Kd.int .i64) 3 w' w.heap.size (fun k_ => some k_ ≠ (v1_ : Value).ownBlock ∧ some k_ ≠ (v5_ : Value).ownBlock) v4_ r5 ∧ Kd.R (Kd.int .i64) 3 w' w.heap.size (fun k_ => some k_ ≠ (v1_ : Value).ownBlock ∧ some k_ ≠ (v4_ : Value).ownBlock) v5_ r6 ∧ Below w.heap.size w w' := by
 have hu30 := Try.underlying30
 have HR0_1 := Aside0.mk hr0_1
 have HC0_1 := Aside0.mk hc0_1
 clear hr0_1 hc0_1
 have HR0_2 := Aside0.mk hr0_2
 have HC0_2 := Aside0.mk hc0_2
 clear hr0_2 hc0_2
 have HR0_3 := Aside0.mk hr0_3
 have HC0_3 := Aside0.mk hc0_3
 clear hr0_3 hc0_3
 have HR0_4 := Aside0.mk hr0_4
 have HC0_4 := Aside0.mk hc0_4
 clear hr0_4 hc0_4
 have HR0_5 := Aside0.mk hr0_5
 have HC0_5 := Aside0.mk hc0_5
 clear hr0_5 hc0_5
 have HB := Aside0.mk (Below.refl w.heap.size w)
 have H : ((some (([] : List Int) : List Int)).bind fun y245 => (if y245.length + l0_1.length < 17592186044416 then ((some (([] : List (S56)) : List (S56))).bind fun y251 => (if y251.length + l0_2.length < 5864062014805 then ((some (([] : List (S56)) : List (S56))).bind fun y257 => (if y257.length + l0_3.length < 5864062014805 then ((some (([] : List Int) : List Int)).bind fun y263 => (if y263.length + l0_4.length < 17592186044416 then ((some (([] : List Int) : List Int)).bind fun y269 => (if y269.length + l0_5.length < 17592186044416 then (some (a0_0, (y245 ++ l0_1), (y251 ++ l0_2), (y257 ++ l0_3), (y263 ++ l0_4), (y269 ++ l0_5))) else (none))) else (none))) else (none))) else (none))) else (none))) = some (r1, r2, r3, r4, r5, r6) := h
 clear h
 obtain ⟨y245, hy245⟩ : ∃ y_ : List Int, y_ = (([] : List Int)) := ⟨_, rfl⟩
 replace H : (if y245.length + l0_1.length < 17592186044416 then ((some (([] : List (S56)) : List (S56))).bind fun y251 => (if y251.length + l0_2.length < 5864062014805 then ((some (([] : List (S56)) : List (S56))).bind fun y257 => (if y257.length + l0_3.length < 5864062014805 then ((some (([] : List Int) : List Int)).bind fun y263 => (if y263.length + l0_4.length < 17592186044416 then ((some (([] : List Int) : List Int)).bind fun y269 => (if y269.length + l0_5.length < 17592186044416 then (some (a0_0, (y245 ++ l0_1), (y251 ++ l0_2), (y257 ++ l0_3), (y263 ++ l0_4), (y269 ++ l0_5))) else (none))) else (none))) else (none))) else (none))) else (none)) = some (r1, r2, r3, r4, r5, r6) := by first | (rw [hy245]; with_reducible exact H) | (have H2_ := (Option.bind_some _ _).symm.trans H; rw [hy245]; with_reducible exact H2_) | (have H2_ := (Option.bind_some _ _).symm.trans H; with_reducible exact H2_) | with_reducible exact H | (rw [hy245]; exact H) | exact H
 have Ny245 := Aside0.mk hy245
 clear hy245
 by_cases c2 : y245.length + l0_1.length < 17592186044416
 · rw [if_pos c2] at H
   have LMc2 := Aside0.mk c2
   clear c2
   obtain ⟨y248, hy248⟩ : ∃ y_ : List Int, y_ = (y245 ++ l0_1) := ⟨_, rfl⟩
   replace H : ((some (([] : List (S56)) : List (S56))).bind fun y251 => (if y251.length + l0_2.length < 5864062014805 then ((some (([] : List (S56)) : List (S56))).bind fun y257 => (if y257.length + l0_3.length < 5864062014805 then ((some (([] : List Int) : List Int)).bind fun y263 => (if y263.length + l0_4.length < 17592186044416 then ((some (([] : List Int) : List Int)).bind fun y269 => (if y269.length + l0_5.length < 17592186044416 then (some (a0_0, y248, (y251 ++ l0_2), (y257 ++ l0_3), (y263 ++ l0_4), (y269 ++ l0_5))) else (none))) else (none))) else (none))) else (none))) = some (r1, r2, r3, r4, r5, r6) := by first | (rw [hy248]; with_reducible exact H) | (have H2_ := (Option.bind_some _ _).symm.trans H; rw [hy248]; with_reducible exact H2_) | (have H2_ := (Option.bind_some _ _).symm.trans H; with_reducible exact H2_) | with_reducible exact H | (rw [hy248]; exact H) | exact H
   have Ny248 := Aside0.mk hy248
   clear hy248
   obtain ⟨y251, hy251⟩ : ∃ y_ : List (S56), y_ = (([] : List (S56))) := ⟨_, rfl⟩
   replace H : (if y251.length + l0_2.length < 5864062014805 then ((some (([] : List (S56)) : List (S56))).bind fun y257 => (if y257.length + l0_3.length < 5864062014805 then ((some (([] : List Int) : List Int)).bind fun y263 => (if y263.length + l0_4.length < 17592186044416 then ((some (([] : List Int) : List Int)).bind fun y269 => (if y269.length + l0_5.length < 17592186044416 then (some (a0_0, y248, (y251 ++ l0_2), (y257 ++ l0_3), (y263 ++ l0_4), (y269 ++ l0_5))) else (none))) else (none))) else (none))) else (none)) = some (r1, r2, r3, r4, r5, r6) := by first | (rw [hy251]; with_reducible exact H) | (have H2_ := (Option.bind_some _ _).symm.trans H; rw [hy251]; with_reducible exact H2_) | (have H2_ := (Option.bind_some _ _).symm.trans H; with_reducible exact H2_) | with_reducible exact H | (rw [hy251]; exact H) | exact H
   have Ny251 := Aside0.mk hy251
   clear hy251
   by_cases c3 : y251.length + l0_2.length < 5864062014805
   · rw [if_pos c3] at H
     have LMc3 := Aside0.mk c3
     clear c3
     obtain ⟨y254, hy254⟩ : ∃ y_ : List (S56), y_ = (y251 ++ l0_2) := ⟨_, rfl⟩
     replace H : ((some (([] : List (S56)) : List (S56))).bind fun y257 => (if y257.length + l0_3.length < 5864062014805 then ((some (([] : List Int) : List Int)).bind fun y263 => (if y263.length + l0_4.length < 17592186044416 then ((some (([] : List Int) : List Int)).bind fun y269 => (if y269.length + l0_5.length < 17592186044416 then (some (a0_0, y248, y254, (y257 ++ l0_3), (y263 ++ l0_4), (y269 ++ l0_5))) else (none))) else (none))) else (none))) = some (r1, r2, r3, r4, r5, r6) := by first | (rw [hy254]; with_reducible exact H) | (have H2_ := (Option.bind_some _ _).symm.trans H; rw [hy254]; with_reducible exact H2_) | (have H2_ := (Option.bind_some _ _).symm.trans H; with_reducible exact H2_) | with_reducible exact H | (rw [hy254]; exact H) | exact H
     have Ny254 := Aside0.mk hy254
     clear hy254
     obtain ⟨y257, hy257⟩ : ∃ y_ : List (S56), y_ = (([] : List (S56))) := ⟨_, rfl⟩
     replace H : (if y257.length + l0_3.length < 5864062014805 then ((some (([] : List Int) : List Int)).bind fun y263 => (if y263.length + l0_4.length < 17592186044416 then ((some (([] : List Int) : List Int)).bind fun y269 => (if y269.length + l0_5.length < 17592186044416 then (some (a0_0, y248, y254, (y257 ++ l0_3), (y263 ++ l0_4), (y269 ++ l0_5))) else (none))) else (none))) else (none)) = some (r1, r2, r3, r4, r5, r6) := by first | (rw [hy257]; with_reducible exact H) | (have H2_ := (Option.bind_some _ _).symm.trans H; rw [hy257]; with_reducible exact H2_) | (have H2_ := (Option.bind_some _ _).symm.trans H; with_reducible exact H2_) | with_reducible exact H | (rw [hy257]; exact H) | exact H
     have Ny257 := Aside0.mk hy257
     clear hy257
     by_cases c4 : y257.length + l0_3.length < 5864062014805
     · rw [if_pos c4] at H
       have LMc4 := Aside0.mk c4
       clear c4
       obtain ⟨y260, hy260⟩ : ∃ y_ : List (S56), y_ = (y257 ++ l0_3) := ⟨_, rfl⟩
       replace H : ((some (([] : List Int) : List Int)).bind fun y263 => (if y263.length + l0_4.length < 17592186044416 then ((some (([] : List Int) : List Int)).bind fun y269 => (if y269.length + l0_5.length < 17592186044416 then (some (a0_0, y248, y254, y260, (y263 ++ l0_4), (y269 ++ l0_5))) else (none))) else (none))) = some (r1, r2, r3, r4, r5, r6) := by first | (rw [hy260]; with_reducible exact H) | (have H2_ := (Option.bind_some _ _).symm.trans H; rw [hy260]; with_reducible exact H2_) | (have H2_ := (Option.bind_some _ _).symm.trans H; with_reducible exact H2_) | with_reducible exact H | (rw [hy260]; exact H) | exact H
       have Ny260 := Aside0.mk hy260
       clear hy260
       obtain ⟨y263, hy263⟩ : ∃ y_ : List Int, y_ = (([] : List Int)) := ⟨_, rfl⟩
       replace H : (if y263.length + l0_4.length < 17592186044416 then ((some (([] : List Int) : List Int)).bind fun y269 => (if y269.length + l0_5.length < 17592186044416 then (some (a0_0, y248, y254, y260, (y263 ++ l0_4), (y269 ++ l0_5))) else (none))) else (none)) = some (r1, r2, r3, r4, r5, r6) := by first | (rw [hy263]; with_reducible exact H) | (have H2_ := (Option.bind_some _ _).symm.trans H; rw [hy263]; with_reducible exact H2_) | (have H2_ := (Option.bind_some _ _).symm.trans H; with_reducible exact H2_) | with_reducible exact H | (rw [hy263]; exact H) | exact H
       have Ny263 := Aside0.mk hy263
       clear hy263
       by_cases c5 : y263.length + l0_4.length < 17592186044416
       · rw [if_pos c5] at H
         have LMc5 := Aside0.mk c5
         clear c5
         obtain ⟨y266, hy266⟩ : ∃ y_ : List Int, y_ = (y263 ++ l0_4) := ⟨_, rfl⟩
         replace H : ((some (([] : List Int) : List Int)).bind fun y269 => (if y269.length + l0_5.length < 17592186044416 then (some (a0_0, y248, y254, y260, y266, (y269 ++ l0_5))) else (none))) = some (r1, r2, r3, r4, r5, r6) := by first | (rw [hy266]; with_reducible exact H) | (have H2_ := (Option.bind_some _ _).symm.trans H; rw [hy266]; with_reducible exact H2_) | (have H2_ := (Option.bind_some _ _).symm.trans H; with_reducible exact H2_) | with_reducible exact H | (rw [hy266]; exact H) | exact H
         have Ny266 := Aside0.mk hy266
         clear hy266
         obtain ⟨y269, hy269⟩ : ∃ y_ : List Int, y_ = (([] : List Int)) := ⟨_, rfl⟩
         replace H : (if y269.length + l0_5.length < 17592186044416 then (some (a0_0, y248, y254, y260, y266, (y269 ++ l0_5))) else (none)) = some (r1, r2, r3, r4, r5, r6) := by first | (rw [hy269]; with_reducible exact H) | (have H2_ := (Option.bind_some _ _).symm.trans H; rw [hy269]; with_reducible exact H2_) | (have H2_ := (Option.bind_some _ _).symm.trans H; with_reducible exact H2_) | with_reducible exact H | (rw [hy269]; exact H) | exact H
         have Ny269 := Aside0.mk hy269
         clear hy269
         by_cases c6 : y269.length + l0_5.length < 17592186044416
         · rw [if_pos c6] at H
           have LMc6 := Aside0.mk c6
           clear c6
           obtain ⟨y272, hy272⟩ : ∃ y_ : List Int, y_ = (y269 ++ l0_5) := ⟨_, rfl⟩
           replace H : (some (a0_0, y248, y254, y260, y266, y272)) = some (r1, r2, r3, r4, r5, r6) := by first | (rw [hy272]; with_reducible exact H) | (have H2_ := (Option.bind_some _ _).symm.trans H; rw [hy272]; with_reducible exact H2_) | (have H2_ := (Option.bind_some _ _).symm.trans H; with_reducible exact H2_) | with_reducible exact H | (rw [hy272]; exact H) | exact H
           have Ny272 := Aside0.mk hy272
           clear hy272
           simp only [Option.some.injEq, Prod.mk.injEq] at H
           obtain ⟨rfl, rfl, rfl, rfl, rfl, rfl⟩ := H
           go_enter Try.func15, Try.ntmps15
           go_wp2_with (first | ((with_reducible refine gate_dst (N := 1) rfl ?_); refine box_event ?hg (N := 1) ?hd (cs := #[.int .i64 a0_0, .slice A0_1 l0_1.length c0_1, .slice A0_2 l0_2.length c0_2, .slice A0_3 l0_3.length c0_3, .slice A0_4 l0_4.length c0_4, .slice A0_5 l0_5.length c0_5]) (t := 30) ?hr ?_; (case hd => rfl); (case hg => rfl); (case hr => first | (go_simp; done) | (go_simp; rfl)); intro gb243 hg w7 hbox hb; have n0_ := Aside0.mk (below_step zq107 hb); have n1_ := Aside0.mk (hbox); have n2_ := Aside0.mk ((zq97 : w.heap.size ≤ gb243)); have n3_ := Aside0.mk ((zq97 : w.heap.size ≤ gb243)); clear HB; have HB := n0_; have BK243 := n1_; have GW243 := n2_; have GE243 := n3_; clear n0_ n1_ n2_ n3_; clear hb hbox hg) | ((with_reducible refine gate_dst (N := 2) rfl ?_); refine box_event ?hg (N := 2) ?hd (cs := #[.int .i64 0, .slice none 0 0, .slice none 0 0, .slice none 0 0, .slice none 0 0, .slice none 0 0]) (t := 30) ?hr ?_; (case hd => rfl); (case hg => rfl); (case hr => first | (go_simp; done) | (go_simp; rfl)); intro gb244 hg w8 hbox hb; have n0_ := Aside0.mk (blk_below (g := gb243) (o := .cells #[.int .i64 a0_0, .slice A0_1 l0_1.length c0_1, .slice A0_2 l0_2.length c0_2, .slice A0_3 l0_3.length c0_3, .slice A0_4 l0_4.length c0_4, .slice A0_5 l0_5.length c0_5] 30 (0, 0)) zq108 hb); have n1_ := Aside0.mk (below_step zq99 hb); have n2_ := Aside0.mk (hbox); have n3_ := Aside0.mk ((zq71 : w.heap.size ≤ gb244)); have n4_ := Aside0.mk ((zq71 : w.heap.size ≤ gb244)); have n5_ := Aside0.mk ((by rw [hg]; exact Nat.ne_of_lt (blk_lt (g := gb243) (o := .cells #[.int .i64 a0_0, .slice A0_1 l0_1.length c0_1, .slice A0_2 l0_2.length c0_2, .slice A0_3 l0_3.length c0_3, .slice A0_4 l0_4.length c0_4, .slice A0_5 l0_5.length c0_5] 30 (0, 0)) zq108) : gb243 ≠ gb244)); have n6_ := Aside0.mk ((by rw [hg]; exact Nat.ne_of_gt (blk_lt (g := gb243) (o := .cells #[.int .i64 a0_0, .slice A0_1 l0_1.length c0_1, .slice A0_2 l0_2.length c0_2, .slice A0_3 l0_3.length c0_3, .slice A0_4 l0_4.length c0_4, .slice A0_5 l0_5.length c0_5] 30 (0, 0)) zq108) : gb244 ≠ gb243)); clear BK243; clear HB; have BK243 := n0_; have HB := n1_; have BK244 := n2_; have GW244 := n3_; have GE244 := n4_; have NB243_244 := n5_; have NB244_243 := n6_; clear n0_ n1_ n2_ n3_ n4_ n5_ n6_; clear hb hbox hg) | ((with_reducible refine gate_dst (N := 3) rfl ?_); refine Kd.R_lit (Kd.int .i64) _ 3 ?hg (N := 3) ?hd (xs := ([] : List Int)) (inner := []) (ok := fun _ => True) (okp := fun _ => True) ?hr ?hp (fun _ hk => hk) trivial (Below.refl _ _) (Nat.le_refl _) (by simp) ?_; (case hd => rfl); (case hg => rfl); (case hr => first | (go_simp; done) | (go_simp; rfl)); (case hp => exact (Reps.none _ _)); intro v246 w9 ho10 hb hg_ hnew_; clear hg_ hnew_; (first | rw [← Ny245.out] at ho10 | (simp only [Int.reduceToNat] at ho10; rw [← Ny245.out] at ho10)); have n0_ := Aside0.mk (Kd.R_lower ho10 (below_size zq77)); have n1_ := Aside0.mk (blk_below (g := gb243) (o := .cells #[.int .i64 a0_0, .slice A0_1 l0_1.length c0_1, .slice A0_2 l0_2.length c0_2, .slice A0_3 l0_3.length c0_3, .slice A0_4 l0_4.length c0_4, .slice A0_5 l0_5.length c0_5] 30 (0, 0)) zq108 hb); have n2_ := Aside0.mk (blk_below (g := gb244) (o := .cells #[.int .i64 0, .slice none 0 0, .slice none 0 0, .slice none 0 0, .slice none 0 0, .slice none 0 0] 30 (0, 0)) zq109 hb); have n3_ := Aside0.mk (below_step zq77 hb); clear BK243; clear BK244; clear HB; have HO247 := n0_; have BK243 := n1_; have BK244 := n2_; have HB := n3_; clear n0_ n1_ n2_ n3_; clear hb ho10; have hnb11 := NB243_244.out; have hnc11 := NB244_243.out; obtain ⟨b12_0, b12_1, b12_2, b12_3, b12_4, b12_5, d12_0, d12_1, d12_2, d12_3, d12_4, d12_5⟩ := bk6 BK243.out) | ((with_reducible refine gate_builtin (b := .append) (xs := #[.tmp 3, .tmp 5]) rfl ?_); at_builtin; refine Kd.R_append_rows (Kd.int .i64) (w0 := w) w.heap.size rfl (.tmp 3) (.tmp 5) 24 3 (.int .i64 0) 8 rfl Try.underlying24 info3 rfl (by decide) (by omega) v246 y245 l0_1 _ _ _ (fun _ => True) (fun _ => False) rfl rfl ?aO ?aR (fun _ _ h => h) (fun _ h => h.elim) ?aF ?aB ?aS ?aL ?_; (case aR => exact zq84); (case aB => exact zq69); (case aF => exact (fun _ _ => trivial)); (case aO => exact (by (with_reducible repeat (first | apply Kd.R_alloc | apply Kd.R_drewN | apply Kd.R_drew)); exact HO247.out)); (case aS => exact zq67); (case aL => have := LMc2.out; omega); intro v249 w13 ho hb hg hat; rw [← Ny248.out] at ho; have n0_ := Aside0.mk (blk_grown (g := gb243) (o := .cells #[.int .i64 a0_0, .slice A0_1 l0_1.length c0_1, .slice A0_2 l0_2.length c0_2, .slice A0_3 l0_3.length c0_3, .slice A0_4 l0_4.length c0_4, .slice A0_5 l0_5.length c0_5] 30 (0, 0)) zq108 hg (Kd.R_ne HO247.out BK243.out (by decide))); have n1_ := Aside0.mk (blk_grown (g := gb244) (o := .cells #[.int .i64 0, .slice none 0 0, .slice none 0 0, .slice none 0 0, .slice none 0 0, .slice none 0 0] 30 (0, 0)) zq109 hg (Kd.R_ne HO247.out BK244.out (by decide))); have n2_ := Aside0.mk (hb); have n3_ := Aside0.mk (ho); clear BK243; clear BK244; clear HB; clear HO247; have BK243 := n0_; have BK244 := n1_; have HB := n2_; have HO250 := n3_; clear n0_ n1_ n2_ n3_; clear ho hb hg hat; obtain ⟨Ao14, co14, eo14⟩ := Kd.R_slice HO250.out; subst eo14; obtain ⟨b15_0, b15_1, b15_2, b15_3, b15_4, b15_5, d15_0, d15_1, d15_2, d15_3, d15_4, d15_5⟩ := bk6 BK243.out) | ((with_reducible refine gate_dst (N := 8) rfl ?_); refine Kd.R_lit k56 _ 56 ?hg (N := 8) ?hd (xs := ([] : List (S56))) (inner := []) (ok := fun _ => True) (okp := fun _ => True) ?hr ?hp (fun _ hk => hk) trivial (Below.refl _ _) (Nat.le_refl _) (by simp) ?_; (case hd => rfl); (case hg => rfl); (case hr => first | (go_simp; done) | (go_simp; rfl)); (case hp => exact (Reps.none _ _)); intro v252 w16 ho17 hb hg_ hnew_; clear hg_ hnew_; (first | rw [← Ny251.out] at ho17 | (simp only [Int.reduceToNat] at ho17; rw [← Ny251.out] at ho17)); have n0_ := Aside0.mk (Kd.R_below (by (with_reducible repeat (first | apply Kd.R_alloc | apply Kd.R_drewN | apply Kd.R_drew)); exact (Kd.R_mono (Kd.R_far (p := ⟨gb243, 1, none⟩) (Kd.R_types HO250.out BK243.out (by decide)) (fun _ hk => by first | exact hk.2 | exact hk) (.slice Ao14 y248.length co14)) (fun _ h_ => h_.1))) hb); have n1_ := Aside0.mk (Kd.R_lower ho17 (below_size zq77)); have n2_ := Aside0.mk (blk_below (g := gb243) (o := .cells #[.int .i64 a0_0, .slice Ao14 y248.length co14, .slice A0_2 l0_2.length c0_2, .slice A0_3 l0_3.length c0_3, .slice A0_4 l0_4.length c0_4, .slice A0_5 l0_5.length c0_5] 30 (0, 0)) (by (with_reducible repeat (first | refine blk_drewN ?_ _ | refine blk_drew ?_ | refine blk_alloc ?_ _)); refine blk_put (cs := #[.int .i64 a0_0, .slice A0_1 l0_1.length c0_1, .slice A0_2 l0_2.length c0_2, .slice A0_3 l0_3.length c0_3, .slice A0_4 l0_4.length c0_4, .slice A0_5 l0_5.length c0_5]) ?_ 1 _ rfl; (with_reducible repeat (first | refine blk_drewN ?_ _ | refine blk_drew ?_ | refine blk_alloc ?_ _)); exact BK243.out) hb); have n3_ := Aside0.mk (blk_below (g := gb244) (o := .cells #[.int .i64 0, .slice none 0 0, .slice none 0 0, .slice none 0 0, .slice none 0 0, .slice none 0 0] 30 (0, 0)) zq62 hb); have n4_ := Aside0.mk (below_step zq77 hb); clear HO250; clear BK243; clear BK244; clear HB; have HO250 := n0_; have HO253 := n1_; have BK243 := n2_; have BK244 := n3_; have HB := n4_; clear n0_ n1_ n2_ n3_ n4_; clear hb ho17; obtain ⟨b18_0, b18_1, b18_2, b18_3, b18_4, b18_5, d18_0, d18_1, d18_2, d18_3, d18_4, d18_5⟩ := bk6 BK243.out) | ((with_reducible refine gate_builtin (b := .append) (xs := #[.tmp 8, .tmp 10]) rfl ?_); at_builtin; refine Kd.R_append_rows k56 (w0 := w) w.heap.size rfl (.tmp 8) (.tmp 10) 28 56 (.agg #[(.int .i64 0), (.int .i64 0), (.int .i64 0)]) 24 rfl Try.underlying28 info56 rfl (by decide) (by omega) v252 y251 l0_2 _ _ _ (fun _ => True) (fun _ => False) rfl rfl ?aO ?aR (fun _ _ h => h) (fun _ h => h.elim) ?aF ?aB ?aS ?aL ?_; (case aR => exact zq85); (case aB => exact zq69); (case aF => exact (fun _ _ => trivial)); (case aO => exact zq136); (case aS => exact zq67); (case aL => have := LMc3.out; omega); intro v255 w19 ho hb hg hat; rw [← Ny254.out] at ho; have n0_ := Aside0.mk (blk_grown (g := gb243) (o := .cells #[.int .i64 a0_0, .slice Ao14 y248.length co14, .slice A0_2 l0_2.length c0_2, .slice A0_3 l0_3.length c0_3, .slice A0_4 l0_4.length c0_4, .slice A0_5 l0_5.length c0_5] 30 (0, 0)) zq108 hg (Kd.R_ne HO253.out BK243.out (by decide))); have n1_ := Aside0.mk (blk_grown (g := gb244) (o := .cells #[.int .i64 0, .slice none 0 0, .slice none 0 0, .slice none 0 0, .slice none 0 0, .slice none 0 0] 30 (0, 0)) zq109 hg (Kd.R_ne HO253.out BK244.out (by decide))); have n2_ := Aside0.mk (Kd.R_over' zq135 (Kd.R_typed zq136) (by decide) hg); have n3_ := Aside0.mk (hb); have n4_ := Aside0.mk (ho); clear BK243; clear BK244; clear HO250; clear HB; clear HO253; have BK243 := n0_; have BK244 := n1_; have HO250 := n2_; have HB := n3_; have HO256 := n4_; clear n0_ n1_ n2_ n3_ n4_; clear ho hb hg hat; obtain ⟨Ao20, co20, eo20⟩ := Kd.R_slice HO256.out; subst eo20; obtain ⟨b21_0, b21_1, b21_2, b21_3, b21_4, b21_5, d21_0, d21_1, d21_2, d21_3, d21_4, d21_5⟩ := bk6 BK243.out) | ((with_reducible refine gate_dst (N := 13) rfl ?_); refine Kd.R_lit k56 _ 56 ?hg (N := 13) ?hd (xs := ([] : List (S56))) (inner := []) (ok := fun _ => True) (okp := fun _ => True) ?hr ?hp (fun _ hk => hk) trivial (Below.refl _ _) (Nat.le_refl _) (by simp) ?_; (case hd => rfl); (case hg => rfl); (case hr => first | (go_simp; done) | (go_simp; rfl)); (case hp => exact (Reps.none _ _)); intro v258 w22 ho23 hb hg_ hnew_; clear hg_ hnew_; (first | rw [← Ny257.out] at ho23 | (simp only [Int.reduceToNat] at ho23; rw [← Ny257.out] at ho23)); have n0_ := Aside0.mk (Kd.R_below (by (with_reducible repeat (first | apply Kd.R_alloc | apply Kd.R_drewN | apply Kd.R_drew)); exact (Kd.R_mono (Kd.R_far (p := ⟨gb243, 2, none⟩) (Kd.R_types HO250.out BK243.out (by decide)) (fun _ hk => by first | exact hk.2 | exact hk) (.slice Ao20 y254.length co20)) (fun _ h_ => h_.1))) hb); have n1_ := Aside0.mk (Kd.R_elder' zq45 (Kd.R_base ho23) hb); have n2_ := Aside0.mk (Kd.R_lower (Kd.R_new' ho23 (Kd.R_lt zq45)) (below_size zq77)); have n3_ := Aside0.mk (blk_below (g := gb243) (o := .cells #[.int .i64 a0_0, .slice Ao14 y248.length co14, .slice Ao20 y254.length co20, .slice A0_3 l0_3.length c0_3, .slice A0_4 l0_4.length c0_4, .slice A0_5 l0_5.length c0_5] 30 (0, 0)) (by (with_reducible repeat (first | refine blk_drewN ?_ _ | refine blk_drew ?_ | refine blk_alloc ?_ _)); refine blk_put (cs := #[.int .i64 a0_0, .slice Ao14 y248.length co14, .slice A0_2 l0_2.length c0_2, .slice A0_3 l0_3.length c0_3, .slice A0_4 l0_4.length c0_4, .slice A0_5 l0_5.length c0_5]) ?_ 2 _ rfl; (with_reducible repeat (first | refine blk_drewN ?_ _ | refine blk_drew ?_ | refine blk_alloc ?_ _)); exact BK243.out) hb); have n4_ := Aside0.mk (blk_below (g := gb244) (o := .cells #[.int .i64 0, .slice none 0 0, .slice none 0 0, .slice none 0 0, .slice none 0 0, .slice none 0 0] 30 (0, 0)) zq62 hb); have n5_ := Aside0.mk (below_step zq77 hb); clear HO250; clear HO256; clear BK243; clear BK244; clear HB; have HO250 := n0_; have HO256 := n1_; have HO259 := n2_; have BK243 := n3_; have BK244 := n4_; have HB := n5_; clear n0_ n1_ n2_ n3_ n4_ n5_; clear hb ho23; obtain ⟨b24_0, b24_1, b24_2, b24_3, b24_4, b24_5, d24_0, d24_1, d24_2, d24_3, d24_4, d24_5⟩ := bk6 BK243.out) | ((with_reducible refine gate_builtin (b := .append) (xs := #[.tmp 13, .tmp 15]) rfl ?_); at_builtin; refine Kd.R_append_rows k56 (w0 := w) w.heap.size rfl (.tmp 13) (.tmp 15) 28 56 (.agg #[(.int .i64 0), (.int .i64 0), (.int .i64 0)]) 24 rfl Try.underlying28 info56 rfl (by decide) (by omega) v258 y257 l0_3 _ _ _ (fun k_ => some k_ ≠ (.slice Ao20 y254.length co20 : Value).ownBlock) (fun _ => False) rfl rfl ?aO ?aR (fun _ _ h => h) (fun _ h => h.elim) ?aF ?aB ?aS ?aL ?_; (case aR => exact zq86); (case aB => exact zq69); (case aF => exact (fun k_ hk => Kd.fresh' (Kd.R_lt zq137) k_ hk)); (case aO => exact (by (with_reducible repeat (first | apply Kd.R_alloc | apply Kd.R_drewN | apply Kd.R_drew)); exact Kd.R_mono HO259.out (fun _ hk => by first | exact hk.2 | exact hk))); (case aS => exact zq67); (case aL => have := LMc4.out; omega); intro v261 w25 ho hb hg hat; rw [← Ny260.out] at ho; have n0_ := Aside0.mk (blk_grown (g := gb243) (o := .cells #[.int .i64 a0_0, .slice Ao14 y248.length co14, .slice Ao20 y254.length co20, .slice A0_3 l0_3.length c0_3, .slice A0_4 l0_4.length c0_4, .slice A0_5 l0_5.length c0_5] 30 (0, 0)) zq108 hg (Kd.R_ne HO259.out BK243.out (by decide))); have n1_ := Aside0.mk (blk_grown (g := gb244) (o := .cells #[.int .i64 0, .slice none 0 0, .slice none 0 0, .slice none 0 0, .slice none 0 0, .slice none 0 0] 30 (0, 0)) zq109 hg (Kd.R_ne HO259.out BK244.out (by decide))); have n2_ := Aside0.mk (Kd.R_over' zq135 (Kd.R_typed (by (with_reducible repeat (first | apply Kd.R_alloc | apply Kd.R_drewN | apply Kd.R_drew)); exact HO259.out)) (by decide) hg); have n3_ := Aside0.mk (Kd.R_after (ok := (fun _ => True)) zq137 hg hat); have n4_ := Aside0.mk (hb); have n5_ := Aside0.mk (ho); clear BK243; clear BK244; clear HO250; clear HO256; clear HB; clear HO259; have BK243 := n0_; have BK244 := n1_; have HO250 := n2_; have HO256 := n3_; have HB := n4_; have HO262 := n5_; clear n0_ n1_ n2_ n3_ n4_ n5_; clear ho hb hg hat; obtain ⟨Ao26, co26, eo26⟩ := Kd.R_slice HO262.out; subst eo26; obtain ⟨b27_0, b27_1, b27_2, b27_3, b27_4, b27_5, d27_0, d27_1, d27_2, d27_3, d27_4, d27_5⟩ := bk6 BK243.out) | ((with_reducible refine gate_dst (N := 18) rfl ?_); refine Kd.R_lit (Kd.int .i64) _ 3 ?hg (N := 18) ?hd (xs := ([] : List Int)) (inner := []) (ok := fun _ => True) (okp := fun _ => True) ?hr ?hp (fun _ hk => hk) trivial (Below.refl _ _) (Nat.le_refl _) (by simp) ?_; (case hd => rfl); (case hg => rfl); (case hr => first | (go_simp; done) | (go_simp; rfl)); (case hp => exact (Reps.none _ _)); intro v264 w28 ho29 hb hg_ hnew_; clear hg_ hnew_; (first | rw [← Ny263.out] at ho29 | (simp only [Int.reduceToNat] at ho29; rw [← Ny263.out] at ho29)); have n0_ := Aside0.mk (Kd.R_elder' zq46 (Kd.R_base ho29) hb); have n1_ := Aside0.mk (Kd.R_below (by (with_reducible repeat (first | apply Kd.R_alloc | apply Kd.R_drewN | apply Kd.R_drew)); exact (Kd.R_mono (Kd.R_far (p := ⟨gb243, 3, none⟩) (Kd.R_types HO256.out BK243.out (by decide)) (fun _ hk => by first | exact hk.2 | exact hk) (.slice Ao26 y260.length co26)) (fun _ h_ => h_.1))) hb); have n2_ := Aside0.mk (Kd.R_below (by (with_reducible repeat (first | apply Kd.R_alloc | apply Kd.R_drewN | apply Kd.R_drew)); exact (Kd.R_mono (Kd.R_far (p := ⟨gb243, 3, none⟩) (Kd.R_types HO262.out BK243.out (by decide)) (fun _ hk => by first | exact hk.2 | exact hk) (.slice Ao26 y260.length co26)) (fun _ h_ => h_.1))) hb); have n3_ := Aside0.mk (Kd.R_lower (Kd.R_new' ho29 (Kd.R_lt zq46)) (below_size zq77)); have n4_ := Aside0.mk (blk_below (g := gb243) (o := .cells #[.int .i64 a0_0, .slice Ao14 y248.length co14, .slice Ao20 y254.length co20, .slice Ao26 y260.length co26, .slice A0_4 l0_4.length c0_4, .slice A0_5 l0_5.length c0_5] 30 (0, 0)) (by (with_reducible repeat (first | refine blk_drewN ?_ _ | refine blk_drew ?_ | refine blk_alloc ?_ _)); refine blk_put (cs := #[.int .i64 a0_0, .slice Ao14 y248.length co14, .slice Ao20 y254.length co20, .slice A0_3 l0_3.length c0_3, .slice A0_4 l0_4.length c0_4, .slice A0_5 l0_5.length c0_5]) ?_ 3 _ rfl; (with_reducible repeat (first | refine blk_drewN ?_ _ | refine blk_drew ?_ | refine blk_alloc ?_ _)); exact BK243.out) hb); have n5_ := Aside0.mk (blk_below (g := gb244) (o := .cells #[.int .i64 0, .slice none 0 0, .slice none 0 0, .slice none 0 0, .slice none 0 0, .slice none 0 0] 30 (0, 0)) zq62 hb); have n6_ := Aside0.mk (below_step zq77 hb); clear HO250; clear HO256; clear HO262; clear BK243; clear BK244; clear HB; have HO250 := n0_; have HO256 := n1_; have HO262 := n2_; have HO265 := n3_; have BK243 := n4_; have BK244 := n5_; have HB := n6_; clear n0_ n1_ n2_ n3_ n4_ n5_ n6_; clear hb ho29; obtain ⟨b30_0, b30_1, b30_2, b30_3, b30_4, b30_5, d30_0, d30_1, d30_2, d30_3, d30_4, d30_5⟩ := bk6 BK243.out) | ((with_reducible refine gate_builtin (b := .append) (xs := #[.tmp 18, .tmp 20]) rfl ?_); at_builtin; refine Kd.R_append_rows (Kd.int .i64) (w0 := w) w.heap.size rfl (.tmp 18) (.tmp 20) 24 3 (.int .i64 0) 8 rfl Try.underlying24 info3 rfl (by decide) (by omega) v264 y263 l0_4 _ _ _ (fun k_ => some k_ ≠ (.slice Ao14 y248.length co14 : Value).ownBlock) (fun _ => False) rfl rfl ?aO ?aR (fun _ _ h => h) (fun _ h => h.elim) ?aF ?aB ?aS ?aL ?_; (case aR => exact zq87); (case aB => exact zq69); (case aF => exact (fun k_ hk => Kd.fresh' (Kd.R_lt zq135) k_ hk)); (case aO => exact (by (with_reducible repeat (first | apply Kd.R_alloc | apply Kd.R_drewN | apply Kd.R_drew)); exact Kd.R_mono HO265.out (fun _ hk => by first | exact hk.2 | exact hk))); (case aS => exact zq67); (case aL => have := LMc5.out; omega); intro v267 w31 ho hb hg hat; rw [← Ny266.out] at ho; have n0_ := Aside0.mk (blk_grown (g := gb243) (o := .cells #[.int .i64 a0_0, .slice Ao14 y248.length co14, .slice Ao20 y254.length co20, .slice Ao26 y260.length co26, .slice A0_4 l0_4.length c0_4, .slice A0_5 l0_5.length c0_5] 30 (0, 0)) zq108 hg (Kd.R_ne HO265.out BK243.out (by decide))); have n1_ := Aside0.mk (blk_grown (g := gb244) (o := .cells #[.int .i64 0, .slice none 0 0, .slice none 0 0, .slice none 0 0, .slice none 0 0, .slice none 0 0] 30 (0, 0)) zq109 hg (Kd.R_ne HO265.out BK244.out (by decide))); have n2_ := Aside0.mk (Kd.R_after (ok := (fun _ => True)) zq135 hg hat); have n3_ := Aside0.mk (Kd.R_over' zq137 (Kd.R_typed zq139) (by decide) hg); have n4_ := Aside0.mk (Kd.R_over' zq138 (Kd.R_typed zq139) (by decide) hg); have n5_ := Aside0.mk (hb); have n6_ := Aside0.mk (ho); clear BK243; clear BK244; clear HO250; clear HO256; clear HO262; clear HB; clear HO265; have BK243 := n0_; have BK244 := n1_; have HO250 := n2_; have HO256 := n3_; have HO262 := n4_; have HB := n5_; have HO268 := n6_; clear n0_ n1_ n2_ n3_ n4_ n5_ n6_; clear ho hb hg hat; obtain ⟨Ao32, co32, eo32⟩ := Kd.R_slice HO268.out; subst eo32; obtain ⟨b33_0, b33_1, b33_2, b33_3, b33_4, b33_5, d33_0, d33_1, d33_2, d33_3, d33_4, d33_5⟩ := bk6 BK243.out) | ((with_reducible refine gate_dst (N := 23) rfl ?_); refine Kd.R_lit (Kd.int .i64) _ 3 ?hg (N := 23) ?hd (xs := ([] : List Int)) (inner := []) (ok := fun _ => True) (okp := fun _ => True) ?hr ?hp (fun _ hk => hk) trivial (Below.refl _ _) (Nat.le_refl _) (by simp) ?_; (case hd => rfl); (case hg => rfl); (case hr => first | (go_simp; done) | (go_simp; rfl)); (case hp => exact (Reps.none _ _)); intro v270 w34 ho35 hb hg_ hnew_; clear hg_ hnew_; (first | rw [← Ny269.out] at ho35 | (simp only [Int.reduceToNat] at ho35; rw [← Ny269.out] at ho35)); have n0_ := Aside0.mk (Kd.R_elder' zq47 (Kd.R_base ho35) hb); have n1_ := Aside0.mk (Kd.R_below (by (with_reducible repeat (first | apply Kd.R_alloc | apply Kd.R_drewN | apply Kd.R_drew)); exact (Kd.R_mono (Kd.R_far (p := ⟨gb243, 4, none⟩) (Kd.R_types HO256.out BK243.out (by decide)) (fun _ hk => by first | exact hk.2 | exact hk) (.slice Ao32 y266.length co32)) (fun _ h_ => h_.1))) hb); have n2_ := Aside0.mk (Kd.R_below (by (with_reducible repeat (first | apply Kd.R_alloc | apply Kd.R_drewN | apply Kd.R_drew)); exact (Kd.R_mono (Kd.R_far (p := ⟨gb243, 4, none⟩) (Kd.R_types HO262.out BK243.out (by decide)) (fun _ hk => by first | exact hk.2 | exact hk) (.slice Ao32 y266.length co32)) (fun _ h_ => h_.1))) hb); have n3_ := Aside0.mk (Kd.R_elder' zq48 (Kd.R_base ho35) hb); have n4_ := Aside0.mk (Kd.R_lower (Kd.R_new' (Kd.R_new' ho35 (Kd.R_lt zq47)) (Kd.R_lt zq48)) (below_size zq77)); have n5_ := Aside0.mk (blk_below (g := gb243) (o := .cells #[.int .i64 a0_0, .slice Ao14 y248.length co14, .slice Ao20 y254.length co20, .slice Ao26 y260.length co26, .slice Ao32 y266.length co32, .slice A0_5 l0_5.length c0_5] 30 (0, 0)) (by (with_reducible repeat (first | refine blk_drewN ?_ _ | refine blk_drew ?_ | refine blk_alloc ?_ _)); refine blk_put (cs := #[.int .i64 a0_0, .slice Ao14 y248.length co14, .slice Ao20 y254.length co20, .slice Ao26 y260.length co26, .slice A0_4 l0_4.length c0_4, .slice A0_5 l0_5.length c0_5]) ?_ 4 _ rfl; (with_reducible repeat (first | refine blk_drewN ?_ _ | refine blk_drew ?_ | refine blk_alloc ?_ _)); exact BK243.out) hb); have n6_ := Aside0.mk (blk_below (g := gb244) (o := .cells #[.int .i64 0, .slice none 0 0, .slice none 0 0, .slice none 0 0, .slice none 0 0, .slice none 0 0] 30 (0, 0)) zq62 hb); have n7_ := Aside0.mk (below_step zq77 hb); clear HO250; clear HO256; clear HO262; clear HO268; clear BK243; clear BK244; clear HB; have HO250 := n0_; have HO256 := n1_; have HO262 := n2_; have HO268 := n3_; have HO271 := n4_; have BK243 := n5_; have BK244 := n6_; have HB := n7_; clear n0_ n1_ n2_ n3_ n4_ n5_ n6_ n7_; clear hb ho35; obtain ⟨b36_0, b36_1, b36_2, b36_3, b36_4, b36_5, d36_0, d36_1, d36_2, d36_3, d36_4, d36_5⟩ := bk6 BK243.out) | ((with_reducible refine gate_builtin (b := .append) (xs := #[.tmp 23, .tmp 25]) rfl ?_); at_builtin; refine Kd.R_append_rows (Kd.int .i64) (w0 := w) w.heap.size rfl (.tmp 23) (.tmp 25) 24 3 (.int .i64 0) 8 rfl Try.underlying24 info3 rfl (by decide) (by omega) v270 y269 l0_5 _ _ _ (fun k_ => some k_ ≠ (.slice Ao14 y248.length co14 : Value).ownBlock ∧ some k_ ≠ (.slice Ao32 y266.length co32 : Value).ownBlock) (fun _ => False) rfl rfl ?aO ?aR (fun _ _ h => h) (fun _ h => h.elim) ?aF ?aB ?aS ?aL ?_; (case aR => exact zq88); (case aB => exact zq69); (case aF => exact (fun k_ hk => ⟨Kd.fresh' (Kd.R_lt zq135) k_ hk, Kd.fresh' (Kd.R_lt zq140) k_ hk⟩)); (case aO => exact (by (with_reducible repeat (first | apply Kd.R_alloc | apply Kd.R_drewN | apply Kd.R_drew)); exact Kd.R_mono HO271.out (fun _ hk => ⟨hk.1.2, hk.2⟩))); (case aS => exact zq67); (case aL => have := LMc6.out; omega); intro v273 w37 ho hb hg hat; rw [← Ny272.out] at ho; have n0_ := Aside0.mk (blk_grown (g := gb243) (o := .cells #[.int .i64 a0_0, .slice Ao14 y248.length co14, .slice Ao20 y254.length co20, .slice Ao26 y260.length co26, .slice Ao32 y266.length co32, .slice A0_5 l0_5.length c0_5] 30 (0, 0)) zq108 hg (Kd.R_ne HO271.out BK243.out (by decide))); have n1_ := Aside0.mk (blk_grown (g := gb244) (o := .cells #[.int .i64 0, .slice none 0 0, .slice none 0 0, .slice none 0 0, .slice none 0 0, .slice none 0 0] 30 (0, 0)) zq109 hg (Kd.R_ne HO271.out BK244.out (by decide))); have n2_ := Aside0.mk (Kd.R_after (ok := (fun k_ => some k_ ≠ (.slice Ao32 y266.length co32 : Value).ownBlock)) (by (with_reducible repeat (first | apply Kd.R_alloc | apply Kd.R_drewN | apply Kd.R_drew)); exact Kd.R_mono HO250.out (fun _ hk => ⟨hk.1.2, hk.2⟩)) hg hat); have n3_ := Aside0.mk (Kd.R_over' zq137 (Kd.R_typed zq141) (by decide) hg); have n4_ := Aside0.mk (Kd.R_over' zq138 (Kd.R_typed zq141) (by decide) hg); have n5_ := Aside0.mk (Kd.R_after (ok := (fun k_ => some k_ ≠ (.slice Ao14 y248.length co14 : Value).ownBlock)) zq140 hg hat); have n6_ := Aside0.mk (hb); have n7_ := Aside0.mk (ho); clear BK243; clear BK244; clear HO250; clear HO256; clear HO262; clear HO268; clear HB; clear HO271; have BK243 := n0_; have BK244 := n1_; have HO250 := n2_; have HO256 := n3_; have HO262 := n4_; have HO268 := n5_; have HB := n6_; have HO274 := n7_; clear n0_ n1_ n2_ n3_ n4_ n5_ n6_ n7_; clear ho hb hg hat; obtain ⟨Ao38, co38, eo38⟩ := Kd.R_slice HO274.out; subst eo38; obtain ⟨b39_0, b39_1, b39_2, b39_3, b39_4, b39_5, d39_0, d39_1, d39_2, d39_3, d39_4, d39_5⟩ := bk6 BK243.out; obtain ⟨b40_0, b40_1, b40_2, b40_3, b40_4, b40_5, d40_0, d40_1, d40_2, d40_3, d40_4, d40_5⟩ := bk6 BK244.out))
           refine bodyPost_ret (results_cell_row rfl _ _ gb244 30 #[.int .i64 a0_0, .slice Ao14 y248.length co14, .slice Ao20 y254.length co20, .slice Ao26 y260.length co26, .slice Ao32 y266.length co32, .slice Ao38 y272.length co38] (0, 0) _ rfl (by (with_reducible repeat (first | refine blk_drewN ?_ _ | refine blk_drew ?_ | refine blk_alloc ?_ _)); refine blk_put (cs := #[.int .i64 a0_0, .slice Ao14 y248.length co14, .slice Ao20 y254.length co20, .slice Ao26 y260.length co26, .slice Ao32 y266.length co32, .slice none 0 0]) ?_ 5 _ rfl; (with_reducible repeat (first | refine blk_drewN ?_ _ | refine blk_drew ?_ | refine blk_alloc ?_ _)); refine blk_put (cs := #[.int .i64 a0_0, .slice Ao14 y248.length co14, .slice Ao20 y254.length co20, .slice Ao26 y260.length co26, .slice none 0 0, .slice none 0 0]) ?_ 4 _ rfl; (with_reducible repeat (first | refine blk_drewN ?_ _ | refine blk_drew ?_ | refine blk_alloc ?_ _)); refine blk_put (cs := #[.int .i64 a0_0, .slice Ao14 y248.length co14, .slice Ao20 y254.length co20, .slice none 0 0, .slice none 0 0, .slice none 0 0]) ?_ 3 _ rfl; (with_reducible repeat (first | refine blk_drewN ?_ _ | refine blk_drew ?_ | refine blk_alloc ?_ _)); refine blk_put (cs := #[.int .i64 a0_0, .slice Ao14 y248.length co14, .slice none 0 0, .slice none 0 0, .slice none 0 0, .slice none 0 0]) ?_ 2 _ rfl; (with_reducible repeat (first | refine blk_drewN ?_ _ | refine blk_drew ?_ | refine blk_alloc ?_ _)); refine blk_put (cs := #[.int .i64 a0_0, .slice none 0 0, .slice none 0 0, .slice none 0 0, .slice none 0 0, .slice none 0 0]) ?_ 1 _ rfl; (with_reducible repeat (first | refine blk_drewN ?_ _ | refine blk_drew ?_ | refine blk_alloc ?_ _)); refine blk_put (cs := #[.int .i64 0, .slice none 0 0, .slice none 0 0, .slice none 0 0, .slice none 0 0, .slice none 0 0]) ?_ 0 _ rfl; (with_reducible repeat (first | refine blk_drewN ?_ _ | refine blk_drew ?_ | refine blk_alloc ?_ _)); refine blk_far ?_ NB244_243.out _; (with_reducible repeat (first | refine blk_drewN ?_ _ | refine blk_drew ?_ | refine blk_alloc ?_ _)); exact BK244.out) Try.underlying30 rfl (by kernel_rfl)) rfl ?_
           exact ⟨_, _, _, _, _, zq171, by (with_reducible repeat (first | apply Kd.R_alloc | apply Kd.R_drewN | apply Kd.R_drew)); exact Kd.R_mono (Kd.R_far (p := ⟨gb244, 5, none⟩) (Kd.R_far (p := ⟨gb244, 4, none⟩) (Kd.R_far (p := ⟨gb244, 3, none⟩) (Kd.R_far (p := ⟨gb244, 2, none⟩) (Kd.R_far (p := ⟨gb244, 1, none⟩) (Kd.R_far (p := ⟨gb244, 0, none⟩) (Kd.R_far (p := ⟨gb243, 5, none⟩) (Kd.R_types (Kd.R_types HO250.out BK243.out (by decide)) BK244.out (by decide)) (fun _ hk => by first | exact hk.1.2 | exact hk) (.slice Ao38 y272.length co38)) (fun _ hk => by first | exact hk.2 | exact hk) (.int .i64 a0_0)) (fun _ hk => by first | exact hk.2 | exact hk) (.slice Ao14 y248.length co14)) (fun _ hk => by first | exact hk.2 | exact hk) (.slice Ao20 y254.length co20)) (fun _ hk => by first | exact hk.2 | exact hk) (.slice Ao26 y260.length co26)) (fun _ hk => by first | exact hk.2 | exact hk) (.slice Ao32 y266.length co32)) (fun _ hk => by first | exact hk.2 | exact hk) (.slice Ao38 y272.length co38)) (fun _ hk => ⟨hk.1.1.1, hk.1.1.2⟩), by (with_reducible repeat (first | apply Kd.R_alloc | apply Kd.R_drewN | apply Kd.R_drew)); exact Kd.R_mono (Kd.R_far (p := ⟨gb244, 5, none⟩) (Kd.R_far (p := ⟨gb244, 4, none⟩) (Kd.R_far (p := ⟨gb244, 3, none⟩) (Kd.R_far (p := ⟨gb244, 2, none⟩) (Kd.R_far (p := ⟨gb244, 1, none⟩) (Kd.R_far (p := ⟨gb244, 0, none⟩) (Kd.R_far (p := ⟨gb243, 5, none⟩) (Kd.R_types (Kd.R_types HO256.out BK243.out (by decide)) BK244.out (by decide)) (fun _ hk => by first | exact hk.1.2 | exact hk) (.slice Ao38 y272.length co38)) (fun _ hk => by first | exact hk.2 | exact hk) (.int .i64 a0_0)) (fun _ hk => by first | exact hk.2 | exact hk) (.slice Ao14 y248.length co14)) (fun _ hk => by first | exact hk.2 | exact hk) (.slice Ao20 y254.length co20)) (fun _ hk => by first | exact hk.2 | exact hk) (.slice Ao26 y260.length co26)) (fun _ hk => by first | exact hk.2 | exact hk) (.slice Ao32 y266.length co32)) (fun _ hk => by first | exact hk.2 | exact hk) (.slice Ao38 y272.length co38)) (fun _ hk => by first | exact hk.1.1.2 | exact hk), by (with_reducible repeat (first | apply Kd.R_alloc | apply Kd.R_drewN | apply Kd.R_drew)); exact Kd.R_mono (Kd.R_far (p := ⟨gb244, 5, none⟩) (Kd.R_far (p := ⟨gb244, 4, none⟩) (Kd.R_far (p := ⟨gb244, 3, none⟩) (Kd.R_far (p := ⟨gb244, 2, none⟩) (Kd.R_far (p := ⟨gb244, 1, none⟩) (Kd.R_far (p := ⟨gb244, 0, none⟩) (Kd.R_far (p := ⟨gb243, 5, none⟩) (Kd.R_types (Kd.R_types HO262.out BK243.out (by decide)) BK244.out (by decide)) (fun _ hk => by first | exact hk.1.2 | exact hk) (.slice Ao38 y272.length co38)) (fun _ hk => by first | exact hk.2 | exact hk) (.int .i64 a0_0)) (fun _ hk => by first | exact hk.2 | exact hk) (.slice Ao14 y248.length co14)) (fun _ hk => by first | exact hk.2 | exact hk) (.slice Ao20 y254.length co20)) (fun _ hk => by first | exact hk.2 | exact hk) (.slice Ao26 y260.length co26)) (fun _ hk => by first | exact hk.2 | exact hk) (.slice Ao32 y266.length co32)) (fun _ hk => by first | exact hk.2 | exact hk) (.slice Ao38 y272.length co38)) (fun _ hk => by first | exact hk.1.1 | exact hk), by (with_reducible repeat (first | apply Kd.R_alloc | apply Kd.R_drewN | apply Kd.R_drew)); exact Kd.R_mono (Kd.R_far (p := ⟨gb244, 5, none⟩) (Kd.R_far (p := ⟨gb244, 4, none⟩) (Kd.R_far (p := ⟨gb244, 3, none⟩) (Kd.R_far (p := ⟨gb244, 2, none⟩) (Kd.R_far (p := ⟨gb244, 1, none⟩) (Kd.R_far (p := ⟨gb244, 0, none⟩) (Kd.R_far (p := ⟨gb243, 5, none⟩) (Kd.R_types (Kd.R_types HO268.out BK243.out (by decide)) BK244.out (by decide)) (fun _ hk => by first | exact hk.1.2 | exact hk) (.slice Ao38 y272.length co38)) (fun _ hk => by first | exact hk.2 | exact hk) (.int .i64 a0_0)) (fun _ hk => by first | exact hk.2 | exact hk) (.slice Ao14 y248.length co14)) (fun _ hk => by first | exact hk.2 | exact hk) (.slice Ao20 y254.length co20)) (fun _ hk => by first | exact hk.2 | exact hk) (.slice Ao26 y260.length co26)) (fun _ hk => by first | exact hk.2 | exact hk) (.slice Ao32 y266.length co32)) (fun _ hk => by first | exact hk.2 | exact hk) (.slice Ao38 y272.length co38)) (fun _ hk => ⟨hk.1.1.1, hk.1.1.2⟩), by (with_reducible repeat (first | apply Kd.R_alloc | apply Kd.R_drewN | apply Kd.R_drew)); exact Kd.R_mono (Kd.R_far (p := ⟨gb244, 5, none⟩) (Kd.R_far (p := ⟨gb244, 4, none⟩) (Kd.R_far (p := ⟨gb244, 3, none⟩) (Kd.R_far (p := ⟨gb244, 2, none⟩) (Kd.R_far (p := ⟨gb244, 1, none⟩) (Kd.R_far (p := ⟨gb244, 0, none⟩) (Kd.R_far (p := ⟨gb243, 5, none⟩) (Kd.R_types (Kd.R_types HO274.out BK243.out (by decide)) BK244.out (by decide)) (fun _ hk => by first | exact hk.1.2 | exact hk) (.slice Ao38 y272.length co38)) (fun _ hk => by first | exact hk.2 | exact hk) (.int .i64 a0_0)) (fun _ hk => by first | exact hk.2 | exact hk) (.slice Ao14 y248.length co14)) (fun _ hk => by first | exact hk.2 | exact hk) (.slice Ao20 y254.length co20)) (fun _ hk => by first | exact hk.2 | exact hk) (.slice Ao26 y260.length co26)) (fun _ hk => by first | exact hk.2 | exact hk) (.slice Ao32 y266.length co32)) (fun _ hk => by first | exact hk.2 | exact hk) (.slice Ao38 y272.length co38)) (fun _ hk => ⟨hk.1.1.1, hk.1.1.2⟩), zq77⟩
         · rw [if_neg c6] at H
           exact absurd H (by simp)
       · rw [if_neg c5] at H
         exact absurd H (by simp)
     · rw [if_neg c4] at H
       exact absurd H (by simp)
   · rw [if_neg c3] at H
     exact absurd H (by simp)
 · rw [if_neg c2] at H
   exact absurd H (by simp)
end Go.Proofs.Ytpdlkjpemplhoaa.P
namespace Go.Proofs.Ytpdlkjpemplhoaa.P
open Go.RowKit Go.Proofs.YtpdlkjpemplhoaaW.PrintWords Go.Proofs.YtpdlkjpemplhoaaW.PrintLast Go.Proofs.YtpdlkjpemplhoaaW.PrintMore
set_option linter.unusedVariables false
set_option linter.unusedSimpArgs false
theorem rd_get_Latch (xs : List S61) (i : Nat) (hi : i < xs.length) : rd_T61 xs (i : Int) = xs[i] := by simp [rd_T61, hi]
set_option maxHeartbeats 1000000 in
set_option maxRecDepth 100000 in
theorem idxLatch (A0 : Option Addr) (c0 : Nat) (xs : List S61) (fv : Value) (p : S61 → Bool) (w : World) (hr : Kd.C k61 w A0 xs.length xs) (hc : xs.length ≤ c0)
    (hp : PredOn Try.prog w fv (fun x : S61 => .agg #[.int .i64 x.f0, .int .i64 x.f1]) p xs) :
    Calls Try.prog 64 #[.slice A0 xs.length c0, fv] w fun e w' => e = .returned (.int .i64 (idxBy p xs)) ∧ Below w.heap.size w w' := by
  obtain ⟨q, caps, rfl, hcf, hq⟩ := hp
  have HQ := Aside0.mk hq
  have HR := Aside0.mk hr
  clear hq hr
  have hlen := hc
  have hmax := Kd.C_max HR.out
  have hu := Try.underlying61
  go_enter Try.func64, Try.ntmps64
  go_wp2
  go_loopw [8] (fun v8 w' => ∃ i : Nat, i ≤ xs.length ∧ v8 = .int .i64 (i : Int) ∧ Aside0 (∀ j : Nat, j < i → p (rd_T61 xs (j : Int)) = false) ∧ Aside0 (Below w.heap.size w w')) (fun v8 _ => xs.length - (intOf v8).toNat)
  case atStart => exact ⟨0, Nat.zero_le _, rfl, ⟨by omega⟩, ⟨Below.refl _ _⟩⟩
  case round =>
    obtain ⟨i, hi, rfl, hno, HB⟩ := hrel
    by_cases hlt : i < xs.length
    · obtain ⟨ad, e1, hx0, hx1⟩ := at_T61 HR.out (i : Int) (by omega) (by omega)
      cases e1
      rw [Int.toNat_natCast] at hx0 hx1
      replace hx0 := (HB.out.cell (World.block_lt_of_cell? w _ hx0)).trans hx0
      replace hx1 := (HB.out.cell (World.block_lt_of_cell? w _ hx1)).trans hx1
      have hmem : rd_T61 xs (i : Int) ∈ xs := by
        have : rd_T61 xs (i : Int) = xs[i] := by simp [rd_T61, hlt]
        rw [this]; exact List.getElem_mem hlt
      have HM := Aside0.mk hmem
      clear hmem
      cases hpx : p (rd_T61 xs (i : Int)) with
      | true =>
        have HP := Aside0.mk hpx
        clear hpx
        go_wp2_with (refine (HQ.out _ HM.out _ HB.out).mono ?_; rw [HP.out]; rintro e w1 ⟨rfl, hb⟩)
        go_ret
        exact ⟨by rw [idxBy_found p xs i hlt (fun j hj => by rw [← rd_get_Latch]; exact hno.out j hj) (by rw [← rd_get_Latch]; exact HP.out)]; rfl, below_step HB.out hb⟩
      | false =>
        have HP := Aside0.mk hpx
        clear hpx
        have hno' : Aside0 (∀ j : Nat, j < i + 1 → p (rd_T61 xs (j : Int)) = false) := ⟨fun j hj => by
          by_cases e : j = i
          · rw [e]; exact HP.out
          · exact hno.out j (by omega)⟩
        go_wp2_with (refine (HQ.out _ HM.out _ HB.out).mono ?_; rw [HP.out]; rintro e w1 ⟨rfl, hb⟩)
        go_roundw
        case rel => exact ⟨i + 1, by omega, by go_num, hno', ⟨below_step HB.out hb⟩⟩
        case measure => simp [intOf]; omega
    · go_wp2
      go_ret
      exact ⟨by rw [idxBy_none p xs (fun x hx => by
        obtain ⟨j, hj, rfl⟩ := List.getElem_of_mem hx
        rw [← rd_get_Latch]; exact hno.out j (by omega))]; rfl, HB.out⟩
theorem hasLatch (A0 : Option Addr) (c0 : Nat) (xs : List S61) (fv : Value) (p : S61 → Bool) (w : World) (hr : Kd.C k61 w A0 xs.length xs) (hc : xs.length ≤ c0)
    (hp : PredOn Try.prog w fv (fun x : S61 => .agg #[.int .i64 x.f0, .int .i64 x.f1]) p xs) :
    Calls Try.prog 54 #[.slice A0 xs.length c0, fv] w fun e w' => e = .returned (.bool (xs.any p)) ∧ Below w.heap.size w w' := by
  have HI := Aside0.mk (idxLatch A0 c0 xs fv p w hr hc hp)
  obtain ⟨q, caps, rfl, _⟩ := hp
  clear hr hc
  have HA := Aside0.mk (idxBy_any p xs)
  go_enter Try.func54, Try.ntmps54
  go_wp2_with (go_at_call 64; refine HI.out.mono ?_; rintro e w1 ⟨rfl, hb⟩)
  go_ret
  exact ⟨by rw [← HA.out]; rfl, hb⟩
end Go.Proofs.Ytpdlkjpemplhoaa.P
namespace Go.Proofs.Ytpdlkjpemplhoaa.P
open Go.RowKit Go.Proofs.YtpdlkjpemplhoaaW.PrintWords Go.Proofs.YtpdlkjpemplhoaaW.PrintLast Go.Proofs.YtpdlkjpemplhoaaW.PrintMore
set_option linter.unusedVariables false
set_option linter.unusedSimpArgs false
theorem _root_.Go.World.cell?_alloc_lt_any {w : World} {a : Addr} {v : Value} (h : w.cell? a = some v) (o : Obj) : (w.alloc o).cell? a = some v := pw_cell_below (below_alloc (Below.refl _ _) o) h
def gLat (n : Int) : Int := wrap64 (1 + n)
def gAnd (n : Int) (a : Nat) : Int := wrap64 (gLat n + (a : Int))
def gEnd (n : Int) (a b : Nat) : Int := wrap64 (gAnd n a + (b : Int))
set_option maxRecDepth 100000 in
theorem starts_calls (n : Int) (A1 : Option Addr) (n1 c1 : Nat) (A2 : Option Addr) (n2 c2 : Nat) (v3 v4 : Value) (h3 : ∃ A n c, v3 = .slice A n c) (h4 : ∃ A n c, v4 = .slice A n c) (w : World) :
    Calls Try.prog 51 #[.agg #[.int .i64 n, .slice A1 n1 c1, .slice A2 n2 c2, v3, v4]] w fun e w' =>
      e = .returned (.agg #[.int .i64 1, .int .i64 (gLat n), .int .i64 (gAnd n n1), .int .i64 (gEnd n n1 n2)]) ∧ Below w.heap.size w w' := by
  have hu := Try.underlying26
  obtain ⟨A3, n3, c3, rfl⟩ := h3
  obtain ⟨A4, n4, c4, rfl⟩ := h4
  go_enter Try.func51, Try.ntmps51
  go_wp2
  exact bodyPost_ret (v := .agg #[.int .i64 1, .int .i64 (gLat n), .int .i64 (gAnd n n1), .int .i64 (gEnd n n1 n2)]) (by simp [results, Try.results51, go_sem, gLat, gAnd, gEnd]) rfl ⟨rfl, by repeat (first | exact Below.refl _ _ | apply below_alloc | (refine below_set ?_ (by simp)))⟩
def outB (s3 l : Int) : Bool := decide (l < 0) || decide (s3 ≤ l / 2)
theorem out_calls (l : Int) (g : Nat) (s3 : Int) (w : World) (h : w.cell? ⟨g, 3, none⟩ = some (.int .i64 s3)) :
    Calls Try.prog 52 #[.int .i64 l, .pointer (some ⟨g, 0, none⟩)] w fun e w' => e = .returned (.bool (outB s3 l)) ∧ w = w' := by
  by_cases c : l < 0
  · have cb : decide (l < 0) = true := decide_eq_true c
    have he : outB s3 l = true := by unfold outB; rw [cb]; rfl
    have HE := Aside0.mk he
    clear he c
    go_enter Try.func52, Try.ntmps52
    go_wp2
    go_ret
    exact ⟨by rw [HE.out]; rfl, rfl⟩
  · have c0 : 0 ≤ l := by omega
    have cb : decide (l < 0) = false := decide_eq_false c
    have he : outB s3 l = decide (s3 ≤ l / 2) := by unfold outB; rw [cb]; rfl
    have HE := Aside0.mk he
    clear he c
    go_enter Try.func52, Try.ntmps52
    go_wp2
    go_ret
    exact ⟨by rw [HE.out]; rfl, rfl⟩
def wrongB (s3 : Int) (x : S61) : Bool := outB s3 x.f0 || decide (x.f1 < 0) || decide (2 < x.f1)
set_option maxRecDepth 100000 in
theorem wrong_calls (x : S61) (g g4 : Nat) (s3 : Int) (w : World) (h : w.cell? ⟨g, 3, none⟩ = some (.int .i64 s3))
    (h4 : w.cell? ⟨g4, 0, none⟩ = some (.func (.func 52) #[] #[.pointer (some ⟨g, 0, none⟩)])) :
    Calls Try.prog 53 #[.agg #[.int .i64 x.f0, .int .i64 x.f1], .pointer (some ⟨g4, 0, none⟩)] w fun e w' => e = .returned (.bool (wrongB s3 x)) ∧ Below w.heap.size w w' := by
  have hu := Try.underlying61
  have H3 := Aside0.mk (fun o => World.cell?_alloc_lt_any h o)
  have h4' := fun o => World.cell?_alloc_lt_any h4 o
  have HW := Aside0.mk (show wrongB s3 x = (outB s3 x.f0 || decide (x.f1 < 0) || decide (2 < x.f1)) from rfl)
  cases hb : outB s3 x.f0 with
  | true =>
    have HB := Aside0.mk hb
    clear hb
    go_enter Try.func53, Try.ntmps53
    go_wp2_with (go_at_call 52; refine (out_calls _ g s3 _ (H3.out _)).mono ?_; rw [HB.out]; rintro e w1 ⟨rfl, rfl⟩)
    go_ret
    exact ⟨by rw [HW.out, HB.out]; rfl, below_alloc (Below.refl _ _) _⟩
  | false =>
    have HB := Aside0.mk hb
    clear hb
    by_cases c : x.f1 < 0
    · have cb : decide (x.f1 < 0) = true := decide_eq_true c
      have HC := Aside0.mk cb
      clear c
      go_enter Try.func53, Try.ntmps53
      go_wp2_with (go_at_call 52; refine (out_calls _ g s3 _ (H3.out _)).mono ?_; rw [HB.out]; rintro e w1 ⟨rfl, rfl⟩)
      go_ret
      exact ⟨by rw [HW.out, HB.out, HC.out]; rfl, below_alloc (Below.refl _ _) _⟩
    · have cb : decide (x.f1 < 0) = false := decide_eq_false c
      have HC := Aside0.mk cb
      clear c
      go_enter Try.func53, Try.ntmps53
      go_wp2_with (go_at_call 52; refine (out_calls _ g s3 _ (H3.out _)).mono ?_; rw [HB.out]; rintro e w1 ⟨rfl, rfl⟩)
      go_ret
      exact ⟨by rw [HW.out, HB.out, HC.out]; rfl, below_alloc (Below.refl _ _) _⟩
end Go.Proofs.Ytpdlkjpemplhoaa.P
namespace Go.Proofs.Ytpdlkjpemplhoaa.P
open Go.RowKit Go.Proofs.YtpdlkjpemplhoaaW.PrintWords Go.Proofs.YtpdlkjpemplhoaaW.PrintLast Go.Proofs.YtpdlkjpemplhoaaW.PrintMore
attribute [local go_sem] max2_int min2_int max_two min_two max_three min_three max_four min_four
set_option linter.unusedVariables false
set_option linter.unusedSimpArgs false
theorem cf_out (args : Array Value) (W : World) : Sem.run Try.prog (callFunc 52 args) W = .ok (.enter 52 args) W := by rfl
theorem cf_wrong (args : Array Value) (W : World) : Sem.run Try.prog (callFunc 53 args) W = .ok (.enter 53 args) W := by rfl
theorem pred_out (g : Nat) (s3 : Int) (w : World) (h : w.cell? ⟨g, 3, none⟩ = some (.int .i64 s3)) (xs : List Int) :
    PredOn Try.prog w (.func (.func 52) #[] #[.pointer (some ⟨g, 0, none⟩)]) (Value.int .i64) (outB s3) xs :=
  ⟨_, _, rfl, cf_out, fun x _ W hW => (out_calls x g s3 W (pw_cell_below hW h)).mono fun e w' ⟨he, hw⟩ => ⟨he, by rw [← hw]; exact Below.refl _ _⟩⟩
theorem pred_wrong (g g4 : Nat) (s3 : Int) (w : World) (h : w.cell? ⟨g, 3, none⟩ = some (.int .i64 s3))
    (h4 : w.cell? ⟨g4, 0, none⟩ = some (.func (.func 52) #[] #[.pointer (some ⟨g, 0, none⟩)])) (xs : List S61) :
    PredOn Try.prog w (.func (.func 53) #[] #[.pointer (some ⟨g4, 0, none⟩)]) (fun x : S61 => .agg #[.int .i64 x.f0, .int .i64 x.f1]) (wrongB s3) xs :=
  ⟨_, _, rfl, cf_wrong, fun x _ W hW => wrong_calls x g g4 s3 W (pw_cell_below hW h) (pw_cell_below hW h4)⟩
theorem bcell {W w1 : World} (hb : Below W.heap.size W w1) : (∀ b o, b < W.heap.size → w1.cell? ⟨b, o, none⟩ = W.cell? ⟨b, o, none⟩) ∧ (∀ b o, b < W.heap.size → w1.frozen? ⟨b, o, none⟩ = W.frozen? ⟨b, o, none⟩) :=
  ⟨fun b o h => hb.cell (p := ⟨b, o, none⟩) h, fun b o h => hb.frozen (p := ⟨b, o, none⟩) h⟩
def gBad (b : Int) (i : Nat) (g : S59) : Bool := decide (g.f1 < 0) || decide (g.f0 < g.f1) || decide (wrap64 (2 * wrap64 (b + (i : Int))) ≤ g.f0)
def andsOk (b : Int) : Nat → List S59 → Bool
  | _, [] => true
  | i, g :: r => !gBad b i g && andsOk b (i + 1) r
def checkS (n : Int) (l1 : List S61) (l2 : List S59) (l3 l4 : List Int) : Int :=
  if n < 0 then 8
  else if 1000 < n then 4
  else if 1000 < wrap64 (gEnd n l1.length l2.length - 1) then 4
  else if 100 < mx (l3.length : Int) (l4.length : Int) then 4
  else if l3.any (outB (gEnd n l1.length l2.length)) then 8
  else if l4.any (outB (gEnd n l1.length l2.length)) then 8
  else if l1.any (wrongB (gEnd n l1.length l2.length)) then 8
  else if andsOk (gAnd n l1.length) 0 l2 then 0 else 8
def gates_Check.f (n : Int) (l1 : List S61) (l2 : List S59) (l3 l4 : List Int) : Option Int := some (checkS n l1 l2 l3 l4)
theorem ands_at (b : Int) (l : List S59) (i : Nat) (h : i < l.length) : andsOk b i (l.drop i) = (!gBad b i (rd_T59 l (i : Int)) && andsOk b (i + 1) (l.drop (i + 1))) := by
  rw [List.drop_eq_getElem_cons h]
  have e : rd_T59 l (i : Int) = l[i] := by simp [rd_T59, h]
  rw [e]; rfl
theorem ands_end (b : Int) (l : List S59) (i : Nat) (h : ¬ i < l.length) : andsOk b i (l.drop i) = true := by
  rw [List.drop_eq_nil_of_le (by omega)]; rfl
set_option maxHeartbeats 4000000 in
set_option maxRecDepth 100000 in
theorem check_calls (n : Int) (A1 : Option Addr) (c1 : Nat) (l1 : List S61) (A2 : Option Addr) (c2 : Nat) (l2 : List S59) (A3 : Option Addr) (c3 : Nat) (l3 : List Int) (A4 : Option Addr) (c4 : Nat) (l4 : List Int) (w : World)
    (hr1 : Kd.C k61 w A1 l1.length l1) (hc1 : l1.length ≤ c1) (hr2 : Kd.C k59 w A2 l2.length l2) (hc2 : l2.length ≤ c2) (hr3 : Kd.C (Kd.int .i64) w A3 l3.length l3) (hc3 : l3.length ≤ c3) (hr4 : Kd.C (Kd.int .i64) w A4 l4.length l4) (hc4 : l4.length ≤ c4) (r : Int) (h : checkS n l1 l2 l3 l4 = r) :
    Calls Try.prog 24 #[.agg #[.int .i64 n, .slice A1 l1.length c1, .slice A2 l2.length c2, .slice A3 l3.length c3, .slice A4 l4.length c4]] w fun e w' => e = .returned (.int .i64 r) ∧ Below w.heap.size w w' := by
  have hu := Try.underlying26
  have hu2 := Try.underlying59
  have HR1 := Aside0.mk hr1
  have HR2 := Aside0.mk hr2
  have HR3 := Aside0.mk hr3
  have HR4 := Aside0.mk hr4
  have HC1 := Aside0.mk hc1
  have HC2 := Aside0.mk hc2
  have HC3 := Aside0.mk hc3
  have HC4 := Aside0.mk hc4
  clear hr1 hr2 hr3 hr4 hc1 hc2 hc3 hc4
  unfold checkS at h
  have ix3 : ∀ (x0 x1 x2 x3 : Value) (W : World), (Instr.index 79 (.agg #[x0, x1, x2, x3]) (.int .i64 3)).run Try.prog W = .ok x3 W := fun _ _ _ _ _ => by rfl
  have HST := Aside0.mk (starts_calls n A1 l1.length c1 A2 l2.length c2 (.slice A3 l3.length c3) (.slice A4 l4.length c4) ⟨_, _, _, rfl⟩ ⟨_, _, _, rfl⟩)
  generalize gEnd n l1.length l2.length = s3 at h HST
  generalize gAnd n l1.length = s2 at h HST
  generalize gLat n = s1 at HST
  by_cases d1 : n < 0
  · have b1 : decide (n < 0) = true := decide_eq_true d1
    rw [if_pos d1] at h
    subst h
    clear d1
    go_enter Try.func24, Try.ntmps24
    go_wp2
    go_ret
    exact ⟨rfl, below_alloc (Below.refl _ _) _⟩
  · have b1 : decide (n < 0) = false := decide_eq_false d1
    rw [if_neg d1] at h
    clear d1
    by_cases d2 : 1000 < n
    · have b2 : decide (1000 < n) = true := decide_eq_true d2
      rw [if_pos d2] at h
      subst h
      clear d2
      go_enter Try.func24, Try.ntmps24
      go_wp2
      go_ret
      exact ⟨rfl, below_alloc (Below.refl _ _) _⟩
    · have b2 : decide (1000 < n) = false := decide_eq_false d2
      rw [if_neg d2] at h
      clear d2
      by_cases d3 : 1000 < wrap64 (s3 - 1)
      · have b3 : decide (1000 < wrap64 (s3 - 1)) = true := decide_eq_true d3
        rw [if_pos d3] at h
        subst h
        clear d3
        go_enter Try.func24, Try.ntmps24
        go_wp2_with (go_at_call 51; refine (HST.out _).mono ?_; rintro e w1 ⟨rfl, hb⟩; obtain ⟨hcc, hff⟩ := bcell hb)
        go_ret
        exact ⟨rfl, below_step (below_alloc (Below.refl _ _) _) hb⟩
      · have b3 : decide (1000 < wrap64 (s3 - 1)) = false := decide_eq_false d3
        rw [if_neg d3] at h
        clear d3
        have emx : mx (l3.length : Int) (l4.length : Int) = (if l3.length < l4.length then (l4.length : Int) else (l3.length : Int)) := by unfold mx; split <;> split <;> omega
        rw [emx] at h
        by_cases d4 : 100 < (if l3.length < l4.length then (l4.length : Int) else (l3.length : Int))
        · have b4 : decide (100 < (if l3.length < l4.length then (l4.length : Int) else (l3.length : Int))) = true := decide_eq_true d4
          rw [if_pos d4] at h
          subst h
          clear d4 emx
          go_enter Try.func24, Try.ntmps24
          go_wp2_with (go_at_call 51; refine (HST.out _).mono ?_; rintro e w1 ⟨rfl, hb⟩; obtain ⟨hcc, hff⟩ := bcell hb)
          all_goals (go_ret; exact ⟨rfl, below_step (below_alloc (Below.refl _ _) _) hb⟩)
        · have b4 : decide (100 < (if l3.length < l4.length then (l4.length : Int) else (l3.length : Int))) = false := decide_eq_false d4
          rw [if_neg d4] at h
          clear d4 emx
          go_enter Try.func24, Try.ntmps24
          go_upto_region 8 with (first | (go_at_call 51; refine (HST.out _).mono ?_; rintro e w1 ⟨rfl, hb⟩; obtain ⟨hcc, hff⟩ := bcell hb; first | (have HA2 := Aside0.mk (below_step HA.out hb)) | (have HA := Aside0.mk hb)))
          obtain ⟨W, hW⟩ : ∃ W, W = ((w1.alloc (Obj.cells #[.int .i64 1, .int .i64 s1, .int .i64 s2, .int .i64 s3] 79)).alloc (Obj.cells #[.func (.func 52) #[] #[.pointer (some ⟨w1.heap.size, 0, none⟩)]] 72)) := ⟨_, rfl⟩
          rw [← hW]
          have h1W : Below w1.heap.size w1 W := by rw [hW]; exact below_alloc (below_alloc (Below.refl _ _) _) _
          have HB0 := Aside0.mk (below_step (below_step (below_alloc (Below.refl w.heap.size w) _) HA2.out) h1W)
          have hbeg := below_step HA2.out h1W
          have g0 : W.cell? ⟨w1.heap.size, 2, none⟩ = some (.int .i64 s2) := by rw [hW]; rw [World.cell?_alloc_lt _ _ _ (by simp [go_sem])]; simp
          have g1 : W.cell? ⟨w1.heap.size, 3, none⟩ = some (.int .i64 s3) := by rw [hW]; rw [World.cell?_alloc_lt _ _ _ (by simp [go_sem])]; simp
          have g2 : W.cell? ⟨w1.heap.size + 1, 0, none⟩ = some (.func (.func 52) #[] #[.pointer (some ⟨w1.heap.size, 0, none⟩)]) := by
            have e : w1.heap.size + 1 = (w1.alloc (Obj.cells #[.int .i64 1, .int .i64 s1, .int .i64 s2, .int .i64 s3] 79)).heap.size := by simp [go_sem]
            rw [hW, e, World.cell?_alloc_new]; rfl
          have q1 : W.cell? ⟨w.heap.size, 1, none⟩ = some (.slice A1 l1.length c1) := pw_cell_below hbeg (by simp)
          have q2 : W.cell? ⟨w.heap.size, 2, none⟩ = some (.slice A2 l2.length c2) := pw_cell_below hbeg (by simp)
          have q3 : W.cell? ⟨w.heap.size, 3, none⟩ = some (.slice A3 l3.length c3) := pw_cell_below hbeg (by simp)
          have q4 : W.cell? ⟨w.heap.size, 4, none⟩ = some (.slice A4 l4.length c4) := pw_cell_below hbeg (by simp)
          have HK : Aside0 (∀ V, Below W.heap.size W V → V.cell? ⟨w1.heap.size, 2, none⟩ = some (.int .i64 s2) ∧ V.cell? ⟨w1.heap.size + 1, 0, none⟩ = some (.func (.func 52) #[] #[.pointer (some ⟨w1.heap.size, 0, none⟩)]) ∧ V.cell? ⟨w.heap.size, 1, none⟩ = some (.slice A1 l1.length c1) ∧ V.cell? ⟨w.heap.size, 2, none⟩ = some (.slice A2 l2.length c2) ∧ V.cell? ⟨w.heap.size, 3, none⟩ = some (.slice A3 l3.length c3) ∧ V.cell? ⟨w.heap.size, 4, none⟩ = some (.slice A4 l4.length c4)) :=
            ⟨fun V hV => ⟨pw_cell_below hV g0, pw_cell_below hV g2, pw_cell_below hV q1, pw_cell_below hV q2, pw_cell_below hV q3, pw_cell_below hV q4⟩⟩
          have H3 : Aside0 (∀ V, Below W.heap.size W V → Calls Try.prog 42 #[.slice A3 l3.length c3, .func (.func 52) #[] #[.pointer (some ⟨w1.heap.size, 0, none⟩)]] V fun e w' => e = .returned (.bool (l3.any (outB s3))) ∧ Below V.heap.size V w') :=
            ⟨fun V hV => hasInt A3 c3 l3 _ (outB s3) V (Kd.C_below HR3.out (below_step HB0.out hV)) HC3.out (pred_out _ s3 V (pw_cell_below hV g1) l3)⟩
          have H4 : Aside0 (∀ V, Below W.heap.size W V → Calls Try.prog 42 #[.slice A4 l4.length c4, .func (.func 52) #[] #[.pointer (some ⟨w1.heap.size, 0, none⟩)]] V fun e w' => e = .returned (.bool (l4.any (outB s3))) ∧ Below V.heap.size V w') :=
            ⟨fun V hV => hasInt A4 c4 l4 _ (outB s3) V (Kd.C_below HR4.out (below_step HB0.out hV)) HC4.out (pred_out _ s3 V (pw_cell_below hV g1) l4)⟩
          have H1 : Aside0 (∀ V, Below W.heap.size W V → Calls Try.prog 54 #[.slice A1 l1.length c1, .func (.func 53) #[] #[.pointer (some ⟨w1.heap.size + 1, 0, none⟩)]] V fun e w' => e = .returned (.bool (l1.any (wrongB s3))) ∧ Below V.heap.size V w') :=
            ⟨fun V hV => hasLatch A1 c1 l1 _ (wrongB s3) V (Kd.C_below HR1.out (below_step HB0.out hV)) HC1.out (pred_wrong _ _ s3 V (pw_cell_below hV g1) (pw_cell_below hV g2) l1)⟩
          have H2 : Aside0 (∀ V, Below W.heap.size W V → Kd.C k59 V A2 l2.length l2) := ⟨fun V hV => Kd.C_below HR2.out (below_step HB0.out hV)⟩
          have hmax := Kd.C_max (H2.out W (Below.refl _ _))
          have HBW : Aside0 (Below W.heap.size W W) := ⟨Below.refl _ _⟩
          have hlen := HC2.out
          clear g1 h1W hbeg HA HA2 hb hcc hff hW HST b1 b2 b3 b4
          generalize (if l3.length < l4.length then (l4.length : Int) else (l3.length : Int)) = mm
          cases o3 : l3.any (outB s3) with
          | true =>
            have O3 := Aside0.mk o3
            rw [if_pos o3] at h
            subst h
            clear o3
            go_wp2_with (go_at_call 42; refine (H3.out _ HBW.out).mono ?_; rw [O3.out]; rintro e w2 ⟨rfl, hb⟩)
            go_ret
            exact ⟨rfl, below_step HB0.out hb⟩
          | false =>
            have O3 := Aside0.mk o3
            rw [if_neg (by rw [o3]; exact Bool.false_ne_true)] at h
            clear o3
            cases o4 : l4.any (outB s3) with
            | true =>
              have O4 := Aside0.mk o4
              rw [if_pos o4] at h
              subst h
              clear o4
              go_wp2_with (first | (go_at_call 42; refine (H4.out _ HB2.out).mono ?_; rw [O4.out]; rintro e w3 ⟨rfl, hb⟩; replace hb := below_step HB2.out hb; obtain ⟨k1, k2, k3, k4, k5, k6⟩ := HK.out _ hb; have HB3 := Aside0.mk hb; clear hb) | (go_at_call 42; refine (H3.out _ HBW.out).mono ?_; rw [O3.out]; rintro e w2 ⟨rfl, hb⟩; obtain ⟨k1, k2, k3, k4, k5, k6⟩ := HK.out _ hb; have HB2 := Aside0.mk hb; clear hb))
              go_ret
              exact ⟨rfl, below_step HB0.out HB3.out⟩
            | false =>
              have O4 := Aside0.mk o4
              rw [if_neg (by rw [o4]; exact Bool.false_ne_true)] at h
              clear o4
              cases o1 : l1.any (wrongB s3) with
              | true =>
                have O1 := Aside0.mk o1
                rw [if_pos o1] at h
                subst h
                clear o1
                go_wp2_with (first | (go_at_call 54; refine (H1.out _ HB3.out).mono ?_; rw [O1.out]; rintro e w4 ⟨rfl, hb⟩; replace hb := below_step HB3.out hb; obtain ⟨k1, k2, k3, k4, k5, k6⟩ := HK.out _ hb; have HB4 := Aside0.mk hb; clear hb) | (go_at_call 42; refine (H4.out _ HB2.out).mono ?_; rw [O4.out]; rintro e w3 ⟨rfl, hb⟩; replace hb := below_step HB2.out hb; obtain ⟨k1, k2, k3, k4, k5, k6⟩ := HK.out _ hb; have HB3 := Aside0.mk hb; clear hb) | (go_at_call 42; refine (H3.out _ HBW.out).mono ?_; rw [O3.out]; rintro e w2 ⟨rfl, hb⟩; obtain ⟨k1, k2, k3, k4, k5, k6⟩ := HK.out _ hb; have HB2 := Aside0.mk hb; clear hb))
                go_ret
                exact ⟨rfl, below_step HB0.out HB4.out⟩
              | false =>
                have O1 := Aside0.mk o1
                rw [if_neg (by rw [o1]; exact Bool.false_ne_true)] at h
                clear o1
                have HH := Aside0.mk h
                clear h
                go_wp2_with (first | (go_at_call 54; refine (H1.out _ HB3.out).mono ?_; rw [O1.out]; rintro e w4 ⟨rfl, hb⟩; replace hb := below_step HB3.out hb; obtain ⟨k1, k2, k3, k4, k5, k6⟩ := HK.out _ hb; have HB4 := Aside0.mk hb; clear hb) | (go_at_call 42; refine (H4.out _ HB2.out).mono ?_; rw [O4.out]; rintro e w3 ⟨rfl, hb⟩; replace hb := below_step HB2.out hb; obtain ⟨k1, k2, k3, k4, k5, k6⟩ := HK.out _ hb; have HB3 := Aside0.mk hb; clear hb) | (go_at_call 42; refine (H3.out _ HBW.out).mono ?_; rw [O3.out]; rintro e w2 ⟨rfl, hb⟩; obtain ⟨k1, k2, k3, k4, k5, k6⟩ := HK.out _ hb; have HB2 := Aside0.mk hb; clear hb))
                clear k1 k2 k3 k4 k5 k6
                go_loopw [54] (fun v54 w' => ∃ i : Nat, i ≤ l2.length ∧ v54 = .int .i64 (i : Int) ∧ Aside0 (andsOk s2 0 l2 = andsOk s2 i (l2.drop i)) ∧ Aside0 (Below W.heap.size W w')) (fun v54 _ => l2.length - (intOf v54).toNat)
                case atStart => exact ⟨0, Nat.zero_le _, rfl, ⟨by rw [List.drop_zero]⟩, HB4⟩
                case round =>
                  obtain ⟨i, hi, rfl, hno, HB⟩ := hrel
                  obtain ⟨k1, k2, k3, k4, k5, k6⟩ := HK.out _ HB.out
                  have k1a := fun o => World.cell?_alloc_lt_any k1 o
                  by_cases hlt : i < l2.length
                  · obtain ⟨ad, e1, hx0, hx1⟩ := at_T59 (H2.out _ HB.out) (i : Int) (by omega) (by omega)
                    have HE1 := Aside0.mk e1
                    rw [Int.toNat_natCast] at hx0 hx1
                    subst e1
                    have HA := Aside0.mk (ands_at s2 l2 i hlt)
                    generalize rd_T59 l2 (i : Int) = x at hx0 hx1 HA
                    obtain ⟨x0, x1⟩ := x
                    cases e1 : decide (x1 < 0) with
                    | true =>
                      have E1 := Aside0.mk e1
                      have HG : Aside0 (r = 8) := ⟨by rw [← HH.out, hno.out, HA.out]; unfold gBad; rw [E1.out]; rfl⟩
                      go_wp2
                      go_ret
                      exact ⟨by rw [HG.out]; rfl, below_step HB0.out (below_alloc HB.out _)⟩
                    | false =>
                    have E1 := Aside0.mk e1
                    cases e2 : decide (x0 < x1) with
                    | true =>
                      have E2 := Aside0.mk e2
                      have HG : Aside0 (r = 8) := ⟨by rw [← HH.out, hno.out, HA.out]; unfold gBad; rw [E1.out, E2.out]; rfl⟩
                      go_wp2
                      go_ret
                      exact ⟨by rw [HG.out]; rfl, below_step HB0.out (below_alloc HB.out _)⟩
                    | false =>
                    have E2 := Aside0.mk e2
                    cases e3 : decide (wrap64 (2 * wrap64 (s2 + (i : Int))) ≤ x0) with
                    | true =>
                      have E3 := Aside0.mk e3
                      have HG : Aside0 (r = 8) := ⟨by rw [← HH.out, hno.out, HA.out]; unfold gBad; rw [E1.out, E2.out, E3.out]; rfl⟩
                      go_wp2
                      go_ret
                      exact ⟨by rw [HG.out]; rfl, below_step HB0.out (below_alloc HB.out _)⟩
                    | false =>
                      have E3 := Aside0.mk e3
                      have HG : Aside0 (andsOk s2 0 l2 = andsOk s2 (i + 1) (l2.drop (i + 1))) := ⟨by rw [hno.out, HA.out]; unfold gBad; rw [E1.out, E2.out, E3.out]; rfl⟩
                      go_wp2
                      go_roundw
                      case rel => exact ⟨i + 1, by omega, by go_num, HG, ⟨below_alloc HB.out _⟩⟩
                      case measure => simp [intOf]; omega
                  · have HG : Aside0 (r = 0) := ⟨by rw [← HH.out, hno.out, ands_end s2 l2 i hlt]; rfl⟩
                    go_wp2
                    go_ret
                    exact ⟨by rw [HG.out]; rfl, below_step HB0.out HB.out⟩
theorem gates_Check.calls (n : Int) (A1 : Option Addr) (c1 : Nat) (l1 : List S61) (A2 : Option Addr) (c2 : Nat) (l2 : List S59) (A3 : Option Addr) (c3 : Nat) (l3 : List Int) (A4 : Option Addr) (c4 : Nat) (l4 : List Int) (r : Int) (w : World)
    (hr1 : Kd.C k61 w A1 l1.length l1) (hc1 : l1.length ≤ c1) (hr2 : Kd.C k59 w A2 l2.length l2) (hc2 : l2.length ≤ c2) (hr3 : Kd.C (Kd.int .i64) w A3 l3.length l3) (hc3 : l3.length ≤ c3) (hr4 : Kd.C (Kd.int .i64) w A4 l4.length l4) (hc4 : l4.length ≤ c4) (h : gates_Check.f n l1 l2 l3 l4 = some r) :
    Calls Try.prog 24 #[.agg #[.int .i64 n, .slice A1 l1.length c1, .slice A2 l2.length c2, .slice A3 l3.length c3, .slice A4 l4.length c4]] w fun e w' => e = .returned (.int .i64 r) ∧ Below w.heap.size w w' :=
  check_calls n A1 c1 l1 A2 c2 l2 A3 c3 l3 A4 c4 l4 w hr1 hc1 hr2 hc2 hr3 hc3 hr4 hc4 r (Option.some.inj h)
end Go.Proofs.Ytpdlkjpemplhoaa.P
