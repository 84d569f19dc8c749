/- gates.Check: what it answers, and that its call does just this. -/
import Derived.Test.YtpdlkjpemplhoaaGates
import Derived.Laws.EntriesVeiled
import Derived.Outline
namespace Go.Proofs.Ytpdlkjpemplhoaa.P
open Go.RowKit Go.Proofs.YtpdlkjpemplhoaaW.PrintWords Go.Proofs.YtpdlkjpemplhoaaW.PrintLast Go.Proofs.YtpdlkjpemplhoaaW.PrintMore
attribute [local go_sem] max2_int min2_int max_two min_two max_three min_three max_four min_four
set_option linter.unusedVariables false
set_option linter.unusedSimpArgs false

theorem cf_out (args : Array Value) (W : World) : Sem.run Try.prog (callFunc 52 args) W = .ok (.enter 52 args) W := by rfl
theorem cf_wrong (args : Array Value) (W : World) : Sem.run Try.prog (callFunc 53 args) W = .ok (.enter 53 args) W := by rfl

theorem pred_out (g : Nat) (s3 : Int) (w : World) (h : w.cell? ⟨g, 3, none⟩ = some (.int .i64 s3)) (xs : List Int) :
    PredOn Try.prog w (.func (.func 52) #[] #[.pointer (some ⟨g, 0, none⟩)]) (Value.int .i64) (outB s3) xs :=
  ⟨_, _, rfl, cf_out, fun x _ W hW => (out_calls x g s3 W (pw_cell_below hW h)).mono fun e w' ⟨he, hw⟩ => ⟨he, by rw [← hw]; exact Below.refl _ _⟩⟩

theorem pred_wrong (g g4 : Nat) (s3 : Int) (w : World) (h : w.cell? ⟨g, 3, none⟩ = some (.int .i64 s3))
    (h4 : w.cell? ⟨g4, 0, none⟩ = some (.func (.func 52) #[] #[.pointer (some ⟨g, 0, none⟩)])) (xs : List S61) :
    PredOn Try.prog w (.func (.func 53) #[] #[.pointer (some ⟨g4, 0, none⟩)]) (fun x : S61 => .agg #[.int .i64 x.f0, .int .i64 x.f1]) (wrongB s3) xs :=
  ⟨_, _, rfl, cf_wrong, fun x _ W hW => wrong_calls x g g4 s3 W (pw_cell_below hW h) (pw_cell_below hW h4)⟩

/-- What lay below a call reads behind it as it did. -/
theorem bcell {W w1 : World} (hb : Below W.heap.size W w1) : (∀ b o, b < W.heap.size → w1.cell? ⟨b, o, none⟩ = W.cell? ⟨b, o, none⟩) ∧ (∀ b o, b < W.heap.size → w1.frozen? ⟨b, o, none⟩ = W.frozen? ⟨b, o, none⟩) :=
  ⟨fun b o h => hb.cell (p := ⟨b, o, none⟩) h, fun b o h => hb.frozen (p := ⟨b, o, none⟩) h⟩

/-- The gate of index i is such as it may be; the first gate's variable is b. -/
def gBad (b : Int) (i : Nat) (g : S59) : Bool := decide (g.f1 < 0) || decide (g.f0 < g.f1) || decide (wrap64 (2 * wrap64 (b + (i : Int))) ≤ g.f0)
def andsOk (b : Int) : Nat → List S59 → Bool
  | _, [] => true
  | i, g :: r => !gBad b i g && andsOk b (i + 1) r

def checkS (n : Int) (l1 : List S61) (l2 : List S59) (l3 l4 : List Int) : Int :=
  if n < 0 then 8
  else if 1000 < n then 4
  else if 1000 < wrap64 (gEnd n l1.length l2.length - 1) then 4
  else if 100 < mx (l3.length : Int) (l4.length : Int) then 4
  else if l3.any (outB (gEnd n l1.length l2.length)) then 8
  else if l4.any (outB (gEnd n l1.length l2.length)) then 8
  else if l1.any (wrongB (gEnd n l1.length l2.length)) then 8
  else if andsOk (gAnd n l1.length) 0 l2 then 0 else 8

def gates_Check.f (n : Int) (l1 : List S61) (l2 : List S59) (l3 l4 : List Int) : Option Int := some (checkS n l1 l2 l3 l4)

theorem ands_at (b : Int) (l : List S59) (i : Nat) (h : i < l.length) : andsOk b i (l.drop i) = (!gBad b i (rd_T59 l (i : Int)) && andsOk b (i + 1) (l.drop (i + 1))) := by
  rw [List.drop_eq_getElem_cons h]
  have e : rd_T59 l (i : Int) = l[i] := by simp [rd_T59, h]
  rw [e]; rfl
theorem ands_end (b : Int) (l : List S59) (i : Nat) (h : ¬ i < l.length) : andsOk b i (l.drop i) = true := by
  rw [List.drop_eq_nil_of_le (by omega)]; rfl

set_option maxHeartbeats 4000000 in
set_option maxRecDepth 100000 in
theorem check_calls (n : Int) (A1 : Option Addr) (c1 : Nat) (l1 : List S61) (A2 : Option Addr) (c2 : Nat) (l2 : List S59) (A3 : Option Addr) (c3 : Nat) (l3 : List Int) (A4 : Option Addr) (c4 : Nat) (l4 : List Int) (w : World)
    (hr1 : Kd.C k61 w A1 l1.length l1) (hc1 : l1.length ≤ c1) (hr2 : Kd.C k59 w A2 l2.length l2) (hc2 : l2.length ≤ c2) (hr3 : Kd.C (Kd.int .i64) w A3 l3.length l3) (hc3 : l3.length ≤ c3) (hr4 : Kd.C (Kd.int .i64) w A4 l4.length l4) (hc4 : l4.length ≤ c4) (r : Int) (h : checkS n l1 l2 l3 l4 = r) :
    Calls Try.prog 24 #[.agg #[.int .i64 n, .slice A1 l1.length c1, .slice A2 l2.length c2, .slice A3 l3.length c3, .slice A4 l4.length c4]] w fun e w' => e = .returned (.int .i64 r) ∧ Below w.heap.size w w' := by
  have hu := Try.underlying26
  have hu2 := Try.underlying59
  have HR1 := Aside0.mk hr1
  have HR2 := Aside0.mk hr2
  have HR3 := Aside0.mk hr3
  have HR4 := Aside0.mk hr4
  have HC1 := Aside0.mk hc1
  have HC2 := Aside0.mk hc2
  have HC3 := Aside0.mk hc3
  have HC4 := Aside0.mk hc4
  clear hr1 hr2 hr3 hr4 hc1 hc2 hc3 hc4
  unfold checkS at h
  have ix3 : ∀ (x0 x1 x2 x3 : Value) (W : World), (Instr.index 79 (.agg #[x0, x1, x2, x3]) (.int .i64 3)).run Try.prog W = .ok x3 W := fun _ _ _ _ _ => by rfl
  have HST := Aside0.mk (starts_calls n A1 l1.length c1 A2 l2.length c2 (.slice A3 l3.length c3) (.slice A4 l4.length c4) ⟨_, _, _, rfl⟩ ⟨_, _, _, rfl⟩)
  generalize gEnd n l1.length l2.length = s3 at h HST
  generalize gAnd n l1.length = s2 at h HST
  generalize gLat n = s1 at HST
  by_cases d1 : n < 0
  · have b1 : decide (n < 0) = true := decide_eq_true d1
    rw [if_pos d1] at h
    subst h
    clear d1
    go_enter Try.func24, Try.ntmps24
    go_wp2
    go_ret
    exact ⟨rfl, below_alloc (Below.refl _ _) _⟩
  · have b1 : decide (n < 0) = false := decide_eq_false d1
    rw [if_neg d1] at h
    clear d1
    by_cases d2 : 1000 < n
    · have b2 : decide (1000 < n) = true := decide_eq_true d2
      rw [if_pos d2] at h
      subst h
      clear d2
      go_enter Try.func24, Try.ntmps24
      go_wp2
      go_ret
      exact ⟨rfl, below_alloc (Below.refl _ _) _⟩
    · have b2 : decide (1000 < n) = false := decide_eq_false d2
      rw [if_neg d2] at h
      clear d2
      by_cases d3 : 1000 < wrap64 (s3 - 1)
      · have b3 : decide (1000 < wrap64 (s3 - 1)) = true := decide_eq_true d3
        rw [if_pos d3] at h
        subst h
        clear d3
        go_enter Try.func24, Try.ntmps24
        go_wp2_with (go_at_call 51; refine (HST.out _).mono ?_; rintro e w1 ⟨rfl, hb⟩; obtain ⟨hcc, hff⟩ := bcell hb)
        go_ret
        exact ⟨rfl, below_step (below_alloc (Below.refl _ _) _) hb⟩
      · have b3 : decide (1000 < wrap64 (s3 - 1)) = false := decide_eq_false d3
        rw [if_neg d3] at h
        clear d3
        have emx : mx (l3.length : Int) (l4.length : Int) = (if l3.length < l4.length then (l4.length : Int) else (l3.length : Int)) := by unfold mx; split <;> split <;> omega
        rw [emx] at h
        by_cases d4 : 100 < (if l3.length < l4.length then (l4.length : Int) else (l3.length : Int))
        · have b4 : decide (100 < (if l3.length < l4.length then (l4.length : Int) else (l3.length : Int))) = true := decide_eq_true d4
          rw [if_pos d4] at h
          subst h
          clear d4 emx
          go_enter Try.func24, Try.ntmps24
          go_wp2_with (go_at_call 51; refine (HST.out _).mono ?_; rintro e w1 ⟨rfl, hb⟩; obtain ⟨hcc, hff⟩ := bcell hb)
          all_goals (go_ret; exact ⟨rfl, below_step (below_alloc (Below.refl _ _) _) hb⟩)
        · have b4 : decide (100 < (if l3.length < l4.length then (l4.length : Int) else (l3.length : Int))) = false := decide_eq_false d4
          rw [if_neg d4] at h
          clear d4 emx
          go_enter Try.func24, Try.ntmps24
          go_upto_region 8 with (first | (go_at_call 51; refine (HST.out _).mono ?_; rintro e w1 ⟨rfl, hb⟩; obtain ⟨hcc, hff⟩ := bcell hb; first | (have HA2 := Aside0.mk (below_step HA.out hb)) | (have HA := Aside0.mk hb)))
          obtain ⟨W, hW⟩ : ∃ W, W = ((w1.alloc (Obj.cells #[.int .i64 1, .int .i64 s1, .int .i64 s2, .int .i64 s3] 79)).alloc (Obj.cells #[.func (.func 52) #[] #[.pointer (some ⟨w1.heap.size, 0, none⟩)]] 72)) := ⟨_, rfl⟩
          rw [← hW]
          have h1W : Below w1.heap.size w1 W := by rw [hW]; exact below_alloc (below_alloc (Below.refl _ _) _) _
          have HB0 := Aside0.mk (below_step (below_step (below_alloc (Below.refl w.heap.size w) _) HA2.out) h1W)
          have hbeg := below_step HA2.out h1W
          have g0 : W.cell? ⟨w1.heap.size, 2, none⟩ = some (.int .i64 s2) := by rw [hW]; rw [World.cell?_alloc_lt _ _ _ (by simp [go_sem])]; simp
          have g1 : W.cell? ⟨w1.heap.size, 3, none⟩ = some (.int .i64 s3) := by rw [hW]; rw [World.cell?_alloc_lt _ _ _ (by simp [go_sem])]; simp
          have g2 : W.cell? ⟨w1.heap.size + 1, 0, none⟩ = some (.func (.func 52) #[] #[.pointer (some ⟨w1.heap.size, 0, none⟩)]) := by
            have e : w1.heap.size + 1 = (w1.alloc (Obj.cells #[.int .i64 1, .int .i64 s1, .int .i64 s2, .int .i64 s3] 79)).heap.size := by simp [go_sem]
            rw [hW, e, World.cell?_alloc_new]; rfl
          have q1 : W.cell? ⟨w.heap.size, 1, none⟩ = some (.slice A1 l1.length c1) := pw_cell_below hbeg (by simp)
          have q2 : W.cell? ⟨w.heap.size, 2, none⟩ = some (.slice A2 l2.length c2) := pw_cell_below hbeg (by simp)
          have q3 : W.cell? ⟨w.heap.size, 3, none⟩ = some (.slice A3 l3.length c3) := pw_cell_below hbeg (by simp)
          have q4 : W.cell? ⟨w.heap.size, 4, none⟩ = some (.slice A4 l4.length c4) := pw_cell_below hbeg (by simp)
          have HK : Aside0 (∀ V, Below W.heap.size W V → V.cell? ⟨w1.heap.size, 2, none⟩ = some (.int .i64 s2) ∧ V.cell? ⟨w1.heap.size + 1, 0, none⟩ = some (.func (.func 52) #[] #[.pointer (some ⟨w1.heap.size, 0, none⟩)]) ∧ V.cell? ⟨w.heap.size, 1, none⟩ = some (.slice A1 l1.length c1) ∧ V.cell? ⟨w.heap.size, 2, none⟩ = some (.slice A2 l2.length c2) ∧ V.cell? ⟨w.heap.size, 3, none⟩ = some (.slice A3 l3.length c3) ∧ V.cell? ⟨w.heap.size, 4, none⟩ = some (.slice A4 l4.length c4)) :=
            ⟨fun V hV => ⟨pw_cell_below hV g0, pw_cell_below hV g2, pw_cell_below hV q1, pw_cell_below hV q2, pw_cell_below hV q3, pw_cell_below hV q4⟩⟩
          have H3 : Aside0 (∀ V, Below W.heap.size W V → Calls Try.prog 42 #[.slice A3 l3.length c3, .func (.func 52) #[] #[.pointer (some ⟨w1.heap.size, 0, none⟩)]] V fun e w' => e = .returned (.bool (l3.any (outB s3))) ∧ Below V.heap.size V w') :=
            ⟨fun V hV => hasInt A3 c3 l3 _ (outB s3) V (Kd.C_below HR3.out (below_step HB0.out hV)) HC3.out (pred_out _ s3 V (pw_cell_below hV g1) l3)⟩
          have H4 : Aside0 (∀ V, Below W.heap.size W V → Calls Try.prog 42 #[.slice A4 l4.length c4, .func (.func 52) #[] #[.pointer (some ⟨w1.heap.size, 0, none⟩)]] V fun e w' => e = .returned (.bool (l4.any (outB s3))) ∧ Below V.heap.size V w') :=
            ⟨fun V hV => hasInt A4 c4 l4 _ (outB s3) V (Kd.C_below HR4.out (below_step HB0.out hV)) HC4.out (pred_out _ s3 V (pw_cell_below hV g1) l4)⟩
          have H1 : Aside0 (∀ V, Below W.heap.size W V → Calls Try.prog 54 #[.slice A1 l1.length c1, .func (.func 53) #[] #[.pointer (some ⟨w1.heap.size + 1, 0, none⟩)]] V fun e w' => e = .returned (.bool (l1.any (wrongB s3))) ∧ Below V.heap.size V w') :=
            ⟨fun V hV => hasLatch A1 c1 l1 _ (wrongB s3) V (Kd.C_below HR1.out (below_step HB0.out hV)) HC1.out (pred_wrong _ _ s3 V (pw_cell_below hV g1) (pw_cell_below hV g2) l1)⟩
          have H2 : Aside0 (∀ V, Below W.heap.size W V → Kd.C k59 V A2 l2.length l2) := ⟨fun V hV => Kd.C_below HR2.out (below_step HB0.out hV)⟩
          have hmax := Kd.C_max (H2.out W (Below.refl _ _))
          have HBW : Aside0 (Below W.heap.size W W) := ⟨Below.refl _ _⟩
          have hlen := HC2.out
          clear g1 h1W hbeg HA HA2 hb hcc hff hW HST b1 b2 b3 b4
          generalize (if l3.length < l4.length then (l4.length : Int) else (l3.length : Int)) = mm
          cases o3 : l3.any (outB s3) with
          | true =>
            have O3 := Aside0.mk o3
            rw [if_pos o3] at h
            subst h
            clear o3
            go_wp2_with (go_at_call 42; refine (H3.out _ HBW.out).mono ?_; rw [O3.out]; rintro e w2 ⟨rfl, hb⟩)
            go_ret
            exact ⟨rfl, below_step HB0.out hb⟩
          | false =>
            have O3 := Aside0.mk o3
            rw [if_neg (by rw [o3]; exact Bool.false_ne_true)] at h
            clear o3
            cases o4 : l4.any (outB s3) with
            | true =>
              have O4 := Aside0.mk o4
              rw [if_pos o4] at h
              subst h
              clear o4
              go_wp2_with (first | (go_at_call 42; refine (H4.out _ HB2.out).mono ?_; rw [O4.out]; rintro e w3 ⟨rfl, hb⟩; replace hb := below_step HB2.out hb; obtain ⟨k1, k2, k3, k4, k5, k6⟩ := HK.out _ hb; have HB3 := Aside0.mk hb; clear hb) | (go_at_call 42; refine (H3.out _ HBW.out).mono ?_; rw [O3.out]; rintro e w2 ⟨rfl, hb⟩; obtain ⟨k1, k2, k3, k4, k5, k6⟩ := HK.out _ hb; have HB2 := Aside0.mk hb; clear hb))
              go_ret
              exact ⟨rfl, below_step HB0.out HB3.out⟩
            | false =>
              have O4 := Aside0.mk o4
              rw [if_neg (by rw [o4]; exact Bool.false_ne_true)] at h
              clear o4
              cases o1 : l1.any (wrongB s3) with
              | true =>
                have O1 := Aside0.mk o1
                rw [if_pos o1] at h
                subst h
                clear o1
                go_wp2_with (first | (go_at_call 54; refine (H1.out _ HB3.out).mono ?_; rw [O1.out]; rintro e w4 ⟨rfl, hb⟩; replace hb := below_step HB3.out hb; obtain ⟨k1, k2, k3, k4, k5, k6⟩ := HK.out _ hb; have HB4 := Aside0.mk hb; clear hb) | (go_at_call 42; refine (H4.out _ HB2.out).mono ?_; rw [O4.out]; rintro e w3 ⟨rfl, hb⟩; replace hb := below_step HB2.out hb; obtain ⟨k1, k2, k3, k4, k5, k6⟩ := HK.out _ hb; have HB3 := Aside0.mk hb; clear hb) | (go_at_call 42; refine (H3.out _ HBW.out).mono ?_; rw [O3.out]; rintro e w2 ⟨rfl, hb⟩; obtain ⟨k1, k2, k3, k4, k5, k6⟩ := HK.out _ hb; have HB2 := Aside0.mk hb; clear hb))
                go_ret
                exact ⟨rfl, below_step HB0.out HB4.out⟩
              | false =>
                have O1 := Aside0.mk o1
                rw [if_neg (by rw [o1]; exact Bool.false_ne_true)] at h
                clear o1
                have HH := Aside0.mk h
                clear h
                go_wp2_with (first | (go_at_call 54; refine (H1.out _ HB3.out).mono ?_; rw [O1.out]; rintro e w4 ⟨rfl, hb⟩; replace hb := below_step HB3.out hb; obtain ⟨k1, k2, k3, k4, k5, k6⟩ := HK.out _ hb; have HB4 := Aside0.mk hb; clear hb) | (go_at_call 42; refine (H4.out _ HB2.out).mono ?_; rw [O4.out]; rintro e w3 ⟨rfl, hb⟩; replace hb := below_step HB2.out hb; obtain ⟨k1, k2, k3, k4, k5, k6⟩ := HK.out _ hb; have HB3 := Aside0.mk hb; clear hb) | (go_at_call 42; refine (H3.out _ HBW.out).mono ?_; rw [O3.out]; rintro e w2 ⟨rfl, hb⟩; obtain ⟨k1, k2, k3, k4, k5, k6⟩ := HK.out _ hb; have HB2 := Aside0.mk hb; clear hb))
                clear k1 k2 k3 k4 k5 k6
                go_loopw [54] (fun v54 w' => ∃ i : Nat, i ≤ l2.length ∧ v54 = .int .i64 (i : Int) ∧ Aside0 (andsOk s2 0 l2 = andsOk s2 i (l2.drop i)) ∧ Aside0 (Below W.heap.size W w')) (fun v54 _ => l2.length - (intOf v54).toNat)
                case atStart => exact ⟨0, Nat.zero_le _, rfl, ⟨by rw [List.drop_zero]⟩, HB4⟩
                case round =>
                  obtain ⟨i, hi, rfl, hno, HB⟩ := hrel
                  obtain ⟨k1, k2, k3, k4, k5, k6⟩ := HK.out _ HB.out
                  have k1a := fun o => World.cell?_alloc_lt_any k1 o
                  by_cases hlt : i < l2.length
                  · obtain ⟨ad, e1, hx0, hx1⟩ := at_T59 (H2.out _ HB.out) (i : Int) (by omega) (by omega)
                    have HE1 := Aside0.mk e1
                    rw [Int.toNat_natCast] at hx0 hx1
                    subst e1
                    have HA := Aside0.mk (ands_at s2 l2 i hlt)
                    generalize rd_T59 l2 (i : Int) = x at hx0 hx1 HA
                    obtain ⟨x0, x1⟩ := x
                    cases e1 : decide (x1 < 0) with
                    | true =>
                      have E1 := Aside0.mk e1
                      have HG : Aside0 (r = 8) := ⟨by rw [← HH.out, hno.out, HA.out]; unfold gBad; rw [E1.out]; rfl⟩
                      go_wp2
                      go_ret
                      exact ⟨by rw [HG.out]; rfl, below_step HB0.out (below_alloc HB.out _)⟩
                    | false =>
                    have E1 := Aside0.mk e1
                    cases e2 : decide (x0 < x1) with
                    | true =>
                      have E2 := Aside0.mk e2
                      have HG : Aside0 (r = 8) := ⟨by rw [← HH.out, hno.out, HA.out]; unfold gBad; rw [E1.out, E2.out]; rfl⟩
                      go_wp2
                      go_ret
                      exact ⟨by rw [HG.out]; rfl, below_step HB0.out (below_alloc HB.out _)⟩
                    | false =>
                    have E2 := Aside0.mk e2
                    cases e3 : decide (wrap64 (2 * wrap64 (s2 + (i : Int))) ≤ x0) with
                    | true =>
                      have E3 := Aside0.mk e3
                      have HG : Aside0 (r = 8) := ⟨by rw [← HH.out, hno.out, HA.out]; unfold gBad; rw [E1.out, E2.out, E3.out]; rfl⟩
                      go_wp2
                      go_ret
                      exact ⟨by rw [HG.out]; rfl, below_step HB0.out (below_alloc HB.out _)⟩
                    | false =>
                      have E3 := Aside0.mk e3
                      have HG : Aside0 (andsOk s2 0 l2 = andsOk s2 (i + 1) (l2.drop (i + 1))) := ⟨by rw [hno.out, HA.out]; unfold gBad; rw [E1.out, E2.out, E3.out]; rfl⟩
                      go_wp2
                      go_roundw
                      case rel => exact ⟨i + 1, by omega, by go_num, HG, ⟨below_alloc HB.out _⟩⟩
                      case measure => simp [intOf]; omega
                  · have HG : Aside0 (r = 0) := ⟨by rw [← HH.out, hno.out, ands_end s2 l2 i hlt]; rfl⟩
                    go_wp2
                    go_ret
                    exact ⟨by rw [HG.out]; rfl, below_step HB0.out HB.out⟩

theorem gates_Check.calls (n : Int) (A1 : Option Addr) (c1 : Nat) (l1 : List S61) (A2 : Option Addr) (c2 : Nat) (l2 : List S59) (A3 : Option Addr) (c3 : Nat) (l3 : List Int) (A4 : Option Addr) (c4 : Nat) (l4 : List Int) (r : Int) (w : World)
    (hr1 : Kd.C k61 w A1 l1.length l1) (hc1 : l1.length ≤ c1) (hr2 : Kd.C k59 w A2 l2.length l2) (hc2 : l2.length ≤ c2) (hr3 : Kd.C (Kd.int .i64) w A3 l3.length l3) (hc3 : l3.length ≤ c3) (hr4 : Kd.C (Kd.int .i64) w A4 l4.length l4) (hc4 : l4.length ≤ c4) (h : gates_Check.f n l1 l2 l3 l4 = some r) :
    Calls Try.prog 24 #[.agg #[.int .i64 n, .slice A1 l1.length c1, .slice A2 l2.length c2, .slice A3 l3.length c3, .slice A4 l4.length c4]] w fun e w' => e = .returned (.int .i64 r) ∧ Below w.heap.size w w' :=
  check_calls n A1 c1 l1 A2 c2 l2 A3 c3 l3 A4 c4 l4 w hr1 hc1 hr2 hc2 hr3 hc3 hr4 hc4 r (Option.some.inj h)
end Go.Proofs.Ytpdlkjpemplhoaa.P
