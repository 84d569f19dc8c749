/- slices.IndexFunc and slices.ContainsFunc at []api.Latch, for a predicate that is known by its calls. -/
import Derived.Test.YtpdlkjpemplhoaaIdx
namespace Go.Proofs.Ytpdlkjpemplhoaa.P
open Go.RowKit Go.Proofs.YtpdlkjpemplhoaaW.PrintWords Go.Proofs.YtpdlkjpemplhoaaW.PrintLast Go.Proofs.YtpdlkjpemplhoaaW.PrintMore
set_option linter.unusedVariables false
set_option linter.unusedSimpArgs false

theorem rd_get_Latch (xs : List S61) (i : Nat) (hi : i < xs.length) : rd_T61 xs (i : Int) = xs[i] := by simp [rd_T61, hi]

set_option maxHeartbeats 1000000 in
set_option maxRecDepth 100000 in
theorem idxLatch (A0 : Option Addr) (c0 : Nat) (xs : List S61) (fv : Value) (p : S61 → Bool) (w : World) (hr : Kd.C k61 w A0 xs.length xs) (hc : xs.length ≤ c0)
    (hp : PredOn Try.prog w fv (fun x : S61 => .agg #[.int .i64 x.f0, .int .i64 x.f1]) p xs) :
    Calls Try.prog 64 #[.slice A0 xs.length c0, fv] w fun e w' => e = .returned (.int .i64 (idxBy p xs)) ∧ Below w.heap.size w w' := by
  obtain ⟨q, caps, rfl, hcf, hq⟩ := hp
  have HQ := Aside0.mk hq
  have HR := Aside0.mk hr
  clear hq hr
  have hlen := hc
  have hmax := Kd.C_max HR.out
  have hu := Try.underlying61
  go_enter Try.func64, Try.ntmps64
  go_wp2
  go_loopw [8] (fun v8 w' => ∃ i : Nat, i ≤ xs.length ∧ v8 = .int .i64 (i : Int) ∧ Aside0 (∀ j : Nat, j < i → p (rd_T61 xs (j : Int)) = false) ∧ Aside0 (Below w.heap.size w w')) (fun v8 _ => xs.length - (intOf v8).toNat)
  case atStart => exact ⟨0, Nat.zero_le _, rfl, ⟨by omega⟩, ⟨Below.refl _ _⟩⟩
  case round =>
    obtain ⟨i, hi, rfl, hno, HB⟩ := hrel
    by_cases hlt : i < xs.length
    · obtain ⟨ad, e1, hx0, hx1⟩ := at_T61 HR.out (i : Int) (by omega) (by omega)
      cases e1
      rw [Int.toNat_natCast] at hx0 hx1
      replace hx0 := (HB.out.cell (World.block_lt_of_cell? w _ hx0)).trans hx0
      replace hx1 := (HB.out.cell (World.block_lt_of_cell? w _ hx1)).trans hx1
      have hmem : rd_T61 xs (i : Int) ∈ xs := by
        have : rd_T61 xs (i : Int) = xs[i] := by simp [rd_T61, hlt]
        rw [this]; exact List.getElem_mem hlt
      have HM := Aside0.mk hmem
      clear hmem
      cases hpx : p (rd_T61 xs (i : Int)) with
      | true =>
        have HP := Aside0.mk hpx
        clear hpx
        go_wp2_with (refine (HQ.out _ HM.out _ HB.out).mono ?_; rw [HP.out]; rintro e w1 ⟨rfl, hb⟩)
        go_ret
        exact ⟨by rw [idxBy_found p xs i hlt (fun j hj => by rw [← rd_get_Latch]; exact hno.out j hj) (by rw [← rd_get_Latch]; exact HP.out)]; rfl, below_step HB.out hb⟩
      | false =>
        have HP := Aside0.mk hpx
        clear hpx
        have hno' : Aside0 (∀ j : Nat, j < i + 1 → p (rd_T61 xs (j : Int)) = false) := ⟨fun j hj => by
          by_cases e : j = i
          · rw [e]; exact HP.out
          · exact hno.out j (by omega)⟩
        go_wp2_with (refine (HQ.out _ HM.out _ HB.out).mono ?_; rw [HP.out]; rintro e w1 ⟨rfl, hb⟩)
        go_roundw
        case rel => exact ⟨i + 1, by omega, by go_num, hno', ⟨below_step HB.out hb⟩⟩
        case measure => simp [intOf]; omega
    · go_wp2
      go_ret
      exact ⟨by rw [idxBy_none p xs (fun x hx => by
        obtain ⟨j, hj, rfl⟩ := List.getElem_of_mem hx
        rw [← rd_get_Latch]; exact hno.out j (by omega))]; rfl, HB.out⟩

/-- slices.ContainsFunc. -/
theorem hasLatch (A0 : Option Addr) (c0 : Nat) (xs : List S61) (fv : Value) (p : S61 → Bool) (w : World) (hr : Kd.C k61 w A0 xs.length xs) (hc : xs.length ≤ c0)
    (hp : PredOn Try.prog w fv (fun x : S61 => .agg #[.int .i64 x.f0, .int .i64 x.f1]) p xs) :
    Calls Try.prog 54 #[.slice A0 xs.length c0, fv] w fun e w' => e = .returned (.bool (xs.any p)) ∧ Below w.heap.size w w' := by
  have HI := Aside0.mk (idxLatch A0 c0 xs fv p w hr hc hp)
  obtain ⟨q, caps, rfl, _⟩ := hp
  clear hr hc
  have HA := Aside0.mk (idxBy_any p xs)
  go_enter Try.func54, Try.ntmps54
  go_wp2_with (go_at_call 64; refine HI.out.mono ?_; rintro e w1 ⟨rfl, hb⟩)
  go_ret
  exact ⟨by rw [← HA.out]; rfl, hb⟩
end Go.Proofs.Ytpdlkjpemplhoaa.P
