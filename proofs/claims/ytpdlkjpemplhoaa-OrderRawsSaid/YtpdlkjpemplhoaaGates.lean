/- gates.starts and the closures of gates.Check, by their calls. -/
import Derived.Test.YtpdlkjpemplhoaaIdxInt
import Derived.Test.YtpdlkjpemplhoaaIdxLatch
namespace Go.Proofs.Ytpdlkjpemplhoaa.P
open Go.RowKit Go.Proofs.YtpdlkjpemplhoaaW.PrintWords Go.Proofs.YtpdlkjpemplhoaaW.PrintLast Go.Proofs.YtpdlkjpemplhoaaW.PrintMore
set_option linter.unusedVariables false
set_option linter.unusedSimpArgs false

theorem _root_.Go.World.cell?_alloc_lt_any {w : World} {a : Addr} {v : Value} (h : w.cell? a = some v) (o : Obj) : (w.alloc o).cell? a = some v := pw_cell_below (below_alloc (Below.refl _ _) o) h

/-- The first variables of latches and gates, and the one behind the last one. -/
def gLat (n : Int) : Int := wrap64 (1 + n)
def gAnd (n : Int) (a : Nat) : Int := wrap64 (gLat n + (a : Int))
def gEnd (n : Int) (a b : Nat) : Int := wrap64 (gAnd n a + (b : Int))

set_option maxRecDepth 100000 in
theorem starts_calls (n : Int) (A1 : Option Addr) (n1 c1 : Nat) (A2 : Option Addr) (n2 c2 : Nat) (v3 v4 : Value) (h3 : ∃ A n c, v3 = .slice A n c) (h4 : ∃ A n c, v4 = .slice A n c) (w : World) :
    Calls Try.prog 51 #[.agg #[.int .i64 n, .slice A1 n1 c1, .slice A2 n2 c2, v3, v4]] w fun e w' =>
      e = .returned (.agg #[.int .i64 1, .int .i64 (gLat n), .int .i64 (gAnd n n1), .int .i64 (gEnd n n1 n2)]) ∧ Below w.heap.size w w' := by
  have hu := Try.underlying26
  obtain ⟨A3, n3, c3, rfl⟩ := h3
  obtain ⟨A4, n4, c4, rfl⟩ := h4
  go_enter Try.func51, Try.ntmps51
  go_wp2
  exact bodyPost_ret (v := .agg #[.int .i64 1, .int .i64 (gLat n), .int .i64 (gAnd n n1), .int .i64 (gEnd n n1 n2)]) (by simp [results, Try.results51, go_sem, gLat, gAnd, gEnd]) rfl ⟨rfl, by repeat (first | exact Below.refl _ _ | apply below_alloc | (refine below_set ?_ (by simp)))⟩

/-- A literal of no variable below the last. -/
def outB (s3 l : Int) : Bool := decide (l < 0) || decide (s3 ≤ l / 2)

theorem out_calls (l : Int) (g : Nat) (s3 : Int) (w : World) (h : w.cell? ⟨g, 3, none⟩ = some (.int .i64 s3)) :
    Calls Try.prog 52 #[.int .i64 l, .pointer (some ⟨g, 0, none⟩)] w fun e w' => e = .returned (.bool (outB s3 l)) ∧ w = w' := by
  by_cases c : l < 0
  · have cb : decide (l < 0) = true := decide_eq_true c
    have he : outB s3 l = true := by unfold outB; rw [cb]; rfl
    have HE := Aside0.mk he
    clear he c
    go_enter Try.func52, Try.ntmps52
    go_wp2
    go_ret
    exact ⟨by rw [HE.out]; rfl, rfl⟩
  · have c0 : 0 ≤ l := by omega
    have cb : decide (l < 0) = false := decide_eq_false c
    have he : outB s3 l = decide (s3 ≤ l / 2) := by unfold outB; rw [cb]; rfl
    have HE := Aside0.mk he
    clear he c
    go_enter Try.func52, Try.ntmps52
    go_wp2
    go_ret
    exact ⟨by rw [HE.out]; rfl, rfl⟩

def wrongB (s3 : Int) (x : S61) : Bool := outB s3 x.f0 || decide (x.f1 < 0) || decide (2 < x.f1)

set_option maxRecDepth 100000 in
theorem wrong_calls (x : S61) (g g4 : Nat) (s3 : Int) (w : World) (h : w.cell? ⟨g, 3, none⟩ = some (.int .i64 s3))
    (h4 : w.cell? ⟨g4, 0, none⟩ = some (.func (.func 52) #[] #[.pointer (some ⟨g, 0, none⟩)])) :
    Calls Try.prog 53 #[.agg #[.int .i64 x.f0, .int .i64 x.f1], .pointer (some ⟨g4, 0, none⟩)] w fun e w' => e = .returned (.bool (wrongB s3 x)) ∧ Below w.heap.size w w' := by
  have hu := Try.underlying61
  have H3 := Aside0.mk (fun o => World.cell?_alloc_lt_any h o)
  have h4' := fun o => World.cell?_alloc_lt_any h4 o
  have HW := Aside0.mk (show wrongB s3 x = (outB s3 x.f0 || decide (x.f1 < 0) || decide (2 < x.f1)) from rfl)
  cases hb : outB s3 x.f0 with
  | true =>
    have HB := Aside0.mk hb
    clear hb
    go_enter Try.func53, Try.ntmps53
    go_wp2_with (go_at_call 52; refine (out_calls _ g s3 _ (H3.out _)).mono ?_; rw [HB.out]; rintro e w1 ⟨rfl, rfl⟩)
    go_ret
    exact ⟨by rw [HW.out, HB.out]; rfl, below_alloc (Below.refl _ _) _⟩
  | false =>
    have HB := Aside0.mk hb
    clear hb
    by_cases c : x.f1 < 0
    · have cb : decide (x.f1 < 0) = true := decide_eq_true c
      have HC := Aside0.mk cb
      clear c
      go_enter Try.func53, Try.ntmps53
      go_wp2_with (go_at_call 52; refine (out_calls _ g s3 _ (H3.out _)).mono ?_; rw [HB.out]; rintro e w1 ⟨rfl, rfl⟩)
      go_ret
      exact ⟨by rw [HW.out, HB.out, HC.out]; rfl, below_alloc (Below.refl _ _) _⟩
    · have cb : decide (x.f1 < 0) = false := decide_eq_false c
      have HC := Aside0.mk cb
      clear c
      go_enter Try.func53, Try.ntmps53
      go_wp2_with (go_at_call 52; refine (out_calls _ g s3 _ (H3.out _)).mono ?_; rw [HB.out]; rintro e w1 ⟨rfl, rfl⟩)
      go_ret
      exact ⟨by rw [HW.out, HB.out, HC.out]; rfl, below_alloc (Below.refl _ _) _⟩
end Go.Proofs.Ytpdlkjpemplhoaa.P
