/- gates.Vars: what it answers, and that its call does just this. -/
import Derived.Test.YtpdlkjpemplhoaaGatesCheck
namespace Go.Proofs.Ytpdlkjpemplhoaa.P
open Go.RowKit Go.Proofs.YtpdlkjpemplhoaaW.PrintWords Go.Proofs.YtpdlkjpemplhoaaW.PrintLast Go.Proofs.YtpdlkjpemplhoaaW.PrintMore
set_option linter.unusedVariables false
set_option linter.unusedSimpArgs false

def gates_Vars.f (n : Int) (l1 : List S61) (l2 : List S59) (l3 l4 : List Int) : Option (Int × Int) :=
  some (if checkS n l1 l2 l3 l4 = 0 then (wrap64 (gEnd n l1.length l2.length - 1), 0) else (0, checkS n l1 l2 l3 l4))

set_option maxHeartbeats 1000000 in
set_option maxRecDepth 100000 in
theorem gates_Vars.calls (n : Int) (A1 : Option Addr) (c1 : Nat) (l1 : List S61) (A2 : Option Addr) (c2 : Nat) (l2 : List S59) (A3 : Option Addr) (c3 : Nat) (l3 : List Int) (A4 : Option Addr) (c4 : Nat) (l4 : List Int) (r1 r2 : Int) (w : World)
    (hr1 : Kd.C k61 w A1 l1.length l1) (hc1 : l1.length ≤ c1) (hr2 : Kd.C k59 w A2 l2.length l2) (hc2 : l2.length ≤ c2) (hr3 : Kd.C (Kd.int .i64) w A3 l3.length l3) (hc3 : l3.length ≤ c3) (hr4 : Kd.C (Kd.int .i64) w A4 l4.length l4) (hc4 : l4.length ≤ c4) (h : gates_Vars.f n l1 l2 l3 l4 = some (r1, r2)) :
    Calls Try.prog 30 #[.agg #[.int .i64 n, .slice A1 l1.length c1, .slice A2 l2.length c2, .slice A3 l3.length c3, .slice A4 l4.length c4]] w fun e w' => e = .returned (.tuple #[.int .i64 r1, .int .i64 r2]) ∧ Below w.heap.size w w' := by
  have hu := Try.underlying26
  have ix3 : ∀ (x0 x1 x2 x3 : Value) (W : World), (Instr.index 79 (.agg #[x0, x1, x2, x3]) (.int .i64 3)).run Try.prog W = .ok x3 W := fun _ _ _ _ _ => by rfl
  have HC : Aside0 (∀ V, Below w.heap.size w V → Calls Try.prog 24 #[.agg #[.int .i64 n, .slice A1 l1.length c1, .slice A2 l2.length c2, .slice A3 l3.length c3, .slice A4 l4.length c4]] V fun e w' => e = .returned (.int .i64 (checkS n l1 l2 l3 l4)) ∧ Below V.heap.size V w') :=
    ⟨fun V hV => check_calls n A1 c1 l1 A2 c2 l2 A3 c3 l3 A4 c4 l4 V (Kd.C_below hr1 hV) hc1 (Kd.C_below hr2 hV) hc2 (Kd.C_below hr3 hV) hc3 (Kd.C_below hr4 hV) hc4 _ rfl⟩
  have HST := Aside0.mk (starts_calls n A1 l1.length c1 A2 l2.length c2 (.slice A3 l3.length c3) (.slice A4 l4.length c4) ⟨_, _, _, rfl⟩ ⟨_, _, _, rfl⟩)
  clear hr1 hc1 hr2 hc2 hr3 hc3 hr4 hc4
  replace h := Option.some.inj h
  have HB : Aside0 (∀ o, Below w.heap.size w (w.alloc o)) := ⟨fun o => below_alloc (Below.refl _ _) o⟩
  generalize checkS n l1 l2 l3 l4 = q at h HC
  generalize gEnd n l1.length l2.length = s3 at h HST
  generalize gAnd n l1.length = s2 at HST
  by_cases d : q = 0
  · rw [if_pos d] at h
    obtain ⟨rfl, rfl⟩ := Prod.mk.inj h
    subst d
    go_enter Try.func30, Try.ntmps30
    go_wp2_with (first | (go_at_call 24; refine (HC.out _ (HB.out _)).mono ?_; rintro e w1 ⟨rfl, hb⟩; obtain ⟨hcc, hff⟩ := bcell hb; have HB1 := Aside0.mk (below_step (HB.out _) hb)) | (go_at_call 51; refine (HST.out _).mono ?_; rintro e w2 ⟨rfl, hb⟩))
    go_ret2
    exact ⟨rfl, below_step HB1.out hb⟩
  · rw [if_neg d] at h
    obtain ⟨rfl, rfl⟩ := Prod.mk.inj h
    have b : decide (q = 0) = false := decide_eq_false d
    go_enter Try.func30, Try.ntmps30
    go_wp2_with (first | (go_at_call 24; refine (HC.out _ (HB.out _)).mono ?_; rintro e w1 ⟨rfl, hb⟩; have HB1 := Aside0.mk (below_step (HB.out _) hb)))
    go_ret2
    exact ⟨rfl, HB1.out⟩
end Go.Proofs.Ytpdlkjpemplhoaa.P
