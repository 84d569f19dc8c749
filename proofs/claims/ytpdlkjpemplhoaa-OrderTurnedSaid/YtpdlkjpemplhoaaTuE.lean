/- Texts of one claim, packed: part 5 of 5 -/
import Derived.Test.YtpdlkjpemplhoaaTuD
import Derived.Deep.Slices
import Derived.ProofKit
import Derived.OpenShut
import Derived.ShutString
import Derived.Below
import Derived.Test.YtpdlkjpemplhoaaRows
import Derived.WalkKit
import Derived.ChangeOld
import Derived.SizedLaws
namespace Go.Proofs.Ytpdlkjpemplhoaa.P
open Go.RowKit Go.Proofs.YtpdlkjpemplhoaaW.PrintWords Go.Proofs.YtpdlkjpemplhoaaW.PrintLast Go.Proofs.YtpdlkjpemplhoaaW.PrintMore
attribute [local go_sem] max2_int min2_int max_two min_two max_three min_three max_four min_four
set_option linter.unusedVariables false
set_option linter.unusedSimpArgs false
end Go.Proofs.Ytpdlkjpemplhoaa.P
namespace Go.Proofs.Ytpdlkjpemplhoaa.P
open Go.RowKit Go.Proofs.YtpdlkjpemplhoaaW.PrintWords Go.Proofs.YtpdlkjpemplhoaaW.PrintLast Go.Proofs.YtpdlkjpemplhoaaW.PrintMore
attribute [local go_sem] max2_int min2_int max_two min_two max_three min_three max_four min_four
set_option linter.unusedVariables false
set_option linter.unusedSimpArgs false
theorem eqA56 (d : Nat) (w : World) (x0 y0 : Int) (x1 y1 : Int) (x2 y2 : Int) :
    (Op.equalIn (d + 2) 56 (.agg #[.int .i64 x0, .int .i64 x1, .int .i64 x2]) (.agg #[.int .i64 y0, .int .i64 y1, .int .i64 y2])).run Try.prog w = .ok (x0 == y0 && (x1 == y1 && (x2 == y2))) w := by
  refine eqA_of Try.underlying56 (by kernel_rfl) ?_
  refine eqf_cons (by rfl) (by go_simp; rfl) (by go_simp; rfl) (by go_simp) ?_
  refine eqf_cons (by rfl) (by go_simp; rfl) (by go_simp; rfl) (by go_simp) ?_
  exact eqf_last (by rfl) (by go_simp; rfl) (by go_simp; rfl) (by go_simp)
end Go.Proofs.Ytpdlkjpemplhoaa.P
namespace Go.Proofs.Ytpdlkjpemplhoaa.P
open Go.RowKit Go.Proofs.YtpdlkjpemplhoaaW.PrintWords Go.Proofs.YtpdlkjpemplhoaaW.PrintLast Go.Proofs.YtpdlkjpemplhoaaW.PrintMore
attribute [local go_sem] max2_int min2_int max_two min_two max_three min_three max_four min_four
set_option linter.unusedVariables false
set_option linter.unusedSimpArgs false
attribute [local go_sem high] eqA56
end Go.Proofs.Ytpdlkjpemplhoaa.P
namespace Go.Proofs.Ytpdlkjpemplhoaa.P
open Go.RowKit Go.Proofs.YtpdlkjpemplhoaaW.PrintWords Go.Proofs.YtpdlkjpemplhoaaW.PrintLast Go.Proofs.YtpdlkjpemplhoaaW.PrintMore
attribute [local go_sem] max2_int min2_int max_two min_two max_three min_three max_four min_four
set_option linter.unusedVariables false
set_option linter.unusedSimpArgs false
end Go.Proofs.Ytpdlkjpemplhoaa.P
namespace Go.Proofs.Ytpdlkjpemplhoaa.P
open Go.RowKit Go.Proofs.YtpdlkjpemplhoaaW.PrintWords Go.Proofs.YtpdlkjpemplhoaaW.PrintLast Go.Proofs.YtpdlkjpemplhoaaW.PrintMore
set_option linter.unusedVariables false
theorem wrap_step {n m : Int} (e : n = m) (h0 : -1000000000000 ≤ m) (h1 : m ≤ 1000000000000) : wrap64 n = m := by rw [e]; exact wrap_id (by omega) (by omega)
theorem sameInts_l0 (l : List Int) (hl : l.length ≤ 1000000) (d : Nat) : ∀ (i k : Nat), l.length - i = d → i ≤ l.length → d < k → r2_SameInts.l0 k l l (i : Int) = some true := by
  induction d with
  | zero =>
    intro i k hd hi hk
    obtain ⟨k, rfl⟩ : ∃ m, k = m + 1 := ⟨k - 1, by omega⟩
    simp only [r2_SameInts.l0]
    rw [if_neg (by omega)]
  | succ d ih =>
    intro i k hd hi hk
    obtain ⟨k, rfl⟩ : ∃ m, k = m + 1 := ⟨k - 1, by omega⟩
    simp only [r2_SameInts.l0]
    rw [if_pos (by omega), if_pos (by omega), if_pos (by omega), if_pos trivial, wrap_step (n := (i : Int) + 1) (m := ((i + 1 : Nat) : Int)) (by omega) (by omega) (by omega)]
    exact ih (i + 1) k (by omega) (by omega) (by omega)
theorem sameInts_eq (l : List Int) (hl : l.length ≤ 1000000) (k : Nat) (hk : l.length < k) : r2_SameInts.f k l l = some true := by
  unfold r2_SameInts.f
  rw [if_pos rfl]
  exact sameInts_l0 l hl l.length 0 k (by omega) (by omega) hk
end Go.Proofs.Ytpdlkjpemplhoaa.P
namespace Go.Proofs.Ytpdlkjpemplhoaa.Pure
open Go.RowKit Go.Proofs.Ytpdlkjpemplhoaa.P Go.Proofs.YtpdlkjpemplhoaaW.PrintWords Go.Proofs.YtpdlkjpemplhoaaW.PrintLast Go.Proofs.YtpdlkjpemplhoaaW.PrintMore
set_option linter.unusedVariables false
set_option linter.unusedSimpArgs false
section
variable (n : Int) (a : List S61) (b : List S59) (c d : List Int)
theorem sameCir_l1 (hb : b.length ≤ 10000) (f : Nat) : ∀ (i k : Nat), b.length - i = f → i ≤ b.length → f < k → r2_Same.l1 k (i : Int) n a b c d n a b c d = some true := by
  induction f with
  | zero =>
    intro i k hd hi hk
    obtain ⟨k, rfl⟩ : ∃ q, k = q + 1 := ⟨k - 1, by omega⟩
    simp only [r2_Same.l1]
    rw [if_neg (by omega)]
  | succ f ih =>
    intro i k hd hi hk
    obtain ⟨k, rfl⟩ : ∃ q, k = q + 1 := ⟨k - 1, by omega⟩
    simp only [r2_Same.l1]
    rw [if_pos (by omega), if_pos (by omega), if_pos (by omega), if_neg (by simp), wi (by omega)]
    exact ih (i + 1) k (by omega) (by omega) (by omega)
theorem sameCir_l0 (ha : a.length ≤ 10000) (hb : b.length ≤ 10000) (f : Nat) : ∀ (i k : Nat), a.length - i = f → i ≤ a.length → f + b.length + 2 < k → r2_Same.l0 k (i : Int) n a b c d n a b c d = some true := by
  induction f with
  | zero =>
    intro i k hd hi hk
    obtain ⟨k, rfl⟩ : ∃ q, k = q + 1 := ⟨k - 1, by omega⟩
    simp only [r2_Same.l0]
    rw [if_neg (by omega)]
    exact sameCir_l1 n a b c d hb b.length 0 k (by omega) (by omega) (by omega)
  | succ f ih =>
    intro i k hd hi hk
    obtain ⟨k, rfl⟩ : ∃ q, k = q + 1 := ⟨k - 1, by omega⟩
    simp only [r2_Same.l0]
    rw [if_pos (by omega), if_pos (by omega), if_pos (by omega), if_neg (by simp), wi (by omega)]
    exact ih (i + 1) k (by omega) (by omega) (by omega)
theorem sameCir_eq (ha : a.length ≤ 10000) (hb : b.length ≤ 10000) (hc : c.length ≤ 10000) (hd : d.length ≤ 10000) (k : Nat) (hk : 100000 ≤ k) : r2_Same.f k n a b c d n a b c d = some true := by
  obtain ⟨k, rfl⟩ : ∃ q, k = q + 1 := ⟨k - 1, by omega⟩
  unfold r2_Same.f
  rw [if_pos rfl, if_pos rfl, if_pos rfl, sameInts_eq c (by omega) _ (by omega), Option.bind_some, if_pos rfl, sameInts_eq d (by omega) _ (by omega), Option.bind_some]
  simp only [r2_Same.j0]
  rw [if_neg (by simp)]
  exact sameCir_l0 n a b c d ha hb a.length 0 k (by omega) (by omega) (by omega)
end
section
variable (most : Int) (l1 : List Int) (l2 l3 : List S56) (l4 l5 : List Int)
theorem great_of (h : ¬ r3_Great.f most l1 l2 l3 l4 l5 = some true) : r3_Great.f most l1 l2 l3 l4 l5 = some false ∧ l1.length ≤ 1001 ∧ l2.length ≤ 60 ∧ l3.length ≤ 60 ∧ l4.length ≤ 110 ∧ l5.length ≤ 110 ∧ (most ≤ 200 ∨ 991 ≤ most) := by
  unfold r3_Great.f at *
  split at h
  · rename_i c0
    rw [if_pos c0]
    split at h
    · rename_i c1
      rw [if_pos c1]
      split at h
      · exact absurd rfl h
      · rename_i c2
        rw [if_neg c2]
        split at h
        · exact absurd rfl h
        · rename_i c3
          rw [if_neg c3]
          split at h
          · exact absurd rfl h
          · rename_i c4
            rw [if_neg c4]
            split at h
            · exact absurd rfl h
            · rename_i c5
              rw [if_neg c5]
              split at h
              · rename_i c6
                rw [if_pos c6]
                have : ¬ most < 991 := fun c => h (by rw [decide_eq_true c])
                exact ⟨by rw [decide_eq_false this], by omega, by omega, by omega, by omega, by omega, by omega⟩
              · rename_i c6
                rw [if_neg c6]
                exact ⟨rfl, by omega, by omega, by omega, by omega, by omega, by omega⟩
    · exact absurd rfl h
  · rename_i c0
    rw [if_neg c0]
    split at h
    · exact absurd rfl h
    · rename_i c2
      rw [if_neg c2]
      split at h
      · exact absurd rfl h
      · rename_i c3
        rw [if_neg c3]
        split at h
        · exact absurd rfl h
        · rename_i c4
          rw [if_neg c4]
          split at h
          · exact absurd rfl h
          · rename_i c5
            rw [if_neg c5]
            split at h
            · rename_i c6
              rw [if_pos c6]
              have : ¬ most < 991 := fun c => h (by rw [decide_eq_true c])
              exact ⟨by rw [decide_eq_false this], by omega, by omega, by omega, by omega, by omega, by omega⟩
            · rename_i c6
              rw [if_neg c6]
              exact ⟨rfl, by omega, by omega, by omega, by omega, by omega, by omega⟩
theorem twin_eq (h1 : l1.length ≤ 10000) (h2 : l2.length ≤ 10000) (h3 : l3.length ≤ 10000) (h4 : l4.length ≤ 10000) (h5 : l5.length ≤ 10000) : r3_Twin.f most l1 l2 l3 l4 l5 = some (most, l1, l2, l3, l4, l5) := by
  unfold r3_Twin.f
  simp only [Option.bind_some, List.nil_append, List.length_nil]
  rw [if_pos (by omega), if_pos (by omega), if_pos (by omega), if_pos (by omega), if_pos (by omega)]
theorem own_i64 (h1 : ∀ x ∈ l1, I64 x) (h2 : ∀ d ∈ l2, I64 d.f0 ∧ I64 d.f1 ∧ I64 d.f2) (h3 : ∀ d ∈ l3, I64 d.f0 ∧ I64 d.f1 ∧ I64 d.f2) : ∀ x ∈ ownL l1 l2 l3, I64 x := by
  intro x hx
  unfold ownL at hx
  rcases List.mem_append.1 hx with hx | hx
  · rcases List.mem_append.1 hx with hx | hx
    · exact h1 x hx
    · obtain ⟨d, hd, rfl⟩ := List.mem_map.1 hx; exact (h2 d hd).1
  · obtain ⟨d, hd, rfl⟩ := List.mem_map.1 hx; exact (h3 d hd).1
theorem use_i64 (h4 : ∀ x ∈ l4, I64 x) (h5 : ∀ x ∈ l5, I64 x) (h2 : ∀ d ∈ l2, I64 d.f0 ∧ I64 d.f1 ∧ I64 d.f2) (h3 : ∀ d ∈ l3, I64 d.f0 ∧ I64 d.f1 ∧ I64 d.f2) : ∀ x ∈ useL l2 l3 l4 l5, I64 x := by
  intro x hx
  unfold useL at hx
  rcases List.mem_append.1 hx with hx | hx
  · rcases List.mem_append.1 hx with hx | hx
    · rcases List.mem_append.1 hx with hx | hx
      · exact h4 x hx
      · exact h5 x hx
    · obtain ⟨d, hd, rfl⟩ := List.mem_map.1 hx; exact (h2 d hd).2.1
  · obtain ⟨d, hd, hx⟩ := List.mem_flatMap.1 hx
    simp only [List.mem_cons, List.not_mem_nil, or_false] at hx
    rcases hx with rfl | rfl
    · exact (h3 d hd).2.1
    · exact (h3 d hd).2.2
end
end Go.Proofs.Ytpdlkjpemplhoaa.Pure
namespace Go.Proofs.Ytpdlkjpemplhoaa.Pure
open Go.RowKit Go.Proofs.Ytpdlkjpemplhoaa.P Go.Proofs.YtpdlkjpemplhoaaW.PrintWords Go.Proofs.YtpdlkjpemplhoaaW.PrintLast Go.Proofs.YtpdlkjpemplhoaaW.PrintMore
set_option linter.unusedVariables false
set_option linter.unusedSimpArgs false
theorem alive_eq (k : Nat) (hk : 100000 ≤ k) : l3_alive.f k = some true := by
  have i1 : ∀ x ∈ ownL [2, 4] [] [(⟨6, 4, 8⟩ : S56), ⟨8, 2, 4⟩], I64 x := by unfold I64; decide
  have i2 : ∀ x ∈ useL [] [(⟨6, 4, 8⟩ : S56), ⟨8, 2, 4⟩] [] [], I64 x := by unfold I64; decide
  have j1 : ∀ x ∈ ownL [2, 4] [] [(⟨6, 8, 2⟩ : S56), ⟨8, 6, 2⟩], I64 x := by unfold I64; decide
  have j2 : ∀ x ∈ useL [] [(⟨6, 8, 2⟩ : S56), ⟨8, 6, 2⟩] [] [], I64 x := by unfold I64; decide
  have e1 : circS 4 [2, 4] [] [(⟨6, 4, 8⟩ : S56), ⟨8, 2, 4⟩] [] [] = (2, [], [⟨4, 2⟩, ⟨6, 4⟩], [], [], [0, 1, 2, 4, 3], 0) := by kernel_rfl
  have e2 : chkS 4 [2, 4] [] [(⟨6, 8, 2⟩ : S56), ⟨8, 6, 2⟩] [] [] = 41 := by kernel_rfl
  have c1 := prog_cir (most := 4) (l1 := [2, 4]) (l2 := []) (l3 := [⟨6, 4, 8⟩, ⟨8, 2, 4⟩]) (l4 := []) (l5 := []) (by decide) (by decide) (by decide) (by decide) (by decide) i1 i2
  have c2 := prog_chk (most := 4) (l1 := [2, 4]) (l2 := []) (l3 := [⟨6, 8, 2⟩, ⟨8, 6, 2⟩]) (l4 := []) (l5 := []) (by decide) (by decide) (by decide) (by decide) (by decide) j1 j2
  rw [e1] at c1
  rw [e2] at c2
  have s1 := sameInts_eq [0, 1, 2, 4, 3] (by decide) k (by show 5 < k; omega)
  have s2 := sameCir_eq 2 [] [⟨4, 2⟩, ⟨6, 4⟩] [] [] (by decide) (by decide) (by decide) (by decide) k hk
  clear i1 i2 j1 j2 e1 e2
  unfold l3_alive.f l3_gate.f
  generalize order_Circuit.f = F at c1 ⊢
  generalize order_Check.f = G at c2 ⊢
  generalize r2_SameInts.f = H at s1 ⊢
  generalize r2_Same.f = I at s2 ⊢
  dsimp only [Option.bind_some]
  rw [c1, c2]
  dsimp only [Option.bind_some]
  rw [if_pos rfl, s1, Option.bind_some, if_pos rfl, s2, Option.bind_some, if_pos rfl]
  rfl
end Go.Proofs.Ytpdlkjpemplhoaa.Pure
namespace Go.Proofs.Ytpdlkjpemplhoaa.Pure
open Go.RowKit Go.Proofs.Ytpdlkjpemplhoaa.P Go.Proofs.YtpdlkjpemplhoaaW.PrintWords Go.Proofs.YtpdlkjpemplhoaaW.PrintLast Go.Proofs.YtpdlkjpemplhoaaW.PrintMore
set_option linter.unusedVariables false
set_option linter.unusedSimpArgs false
theorem turn_perm {α : Type} (l : List α) (n : Nat) : l.Perm (l.drop n ++ l.take n) := by
  have h : (l.take n ++ l.drop n).Perm (l.drop n ++ l.take n) := List.perm_append_comm
  rwa [List.take_append_drop] at h
theorem cir_shape (most : Int) (l1 : List Int) (l2 l3 : List S56) (l4 l5 : List Int) :
    (circS most l1 l2 l3 l4 l5).2.2.2.2.2.2 = chkS most l1 l2 l3 l4 l5 ∧ ((circS most l1 l2 l3 l4 l5).1 = if chkS most l1 l2 l3 l4 l5 = 0 then (l1.length : Int) else 0) ∧
      ((circS most l1 l2 l3 l4 l5).2.1.length = if chkS most l1 l2 l3 l4 l5 = 0 then l2.length else 0) ∧ ((circS most l1 l2 l3 l4 l5).2.2.1.length = if chkS most l1 l2 l3 l4 l5 = 0 then l3.length else 0) := by
  unfold circS
  by_cases c : chkS most l1 l2 l3 l4 l5 = 0
  · obtain ⟨-, -, hf⟩ := chkS_zero c
    have hl := ord_len l3
    rw [if_pos c, if_pos c, if_pos c, if_pos c, c]
    unfold cirSv
    simp only [List.length_map]
    exact ⟨trivial, trivial, trivial, by omega⟩
  · rw [if_neg c, if_neg c, if_neg c, if_neg c]
    exact ⟨rfl, rfl, rfl, rfl⟩
theorem turned_j0 (most : Int) (l1 : List Int) (l2 l3 : List S56) (l4 l5 : List Int) (n : Int) (hn : 0 ≤ n) (hn2 : n ≤ (l3.length : Int)) (h1 : l1.length ≤ 1001) (h2 : l2.length ≤ 60) (h3 : l3.length ≤ 60) (h4 : l4.length ≤ 110) (h5 : l5.length ≤ 110)
    (k1 : ∀ x ∈ l1, I64 x) (k2 : ∀ d ∈ l2, I64 d.f0 ∧ I64 d.f1 ∧ I64 d.f2) (k3 : ∀ d ∈ l3, I64 d.f0 ∧ I64 d.f1 ∧ I64 d.f2) (k4 : ∀ x ∈ l4, I64 x) (k5 : ∀ x ∈ l5, I64 x) :
    l3_OrderTurned.j0 1000000 n false most l1 l2 l3 l4 l5 = some true := by
  obtain ⟨a, rfl⟩ := Int.eq_ofNat_of_zero_le hn
  have hp := turn_perm l3 a
  have hlen : (l3.drop a ++ l3.take a).length = l3.length := hp.length_eq.symm
  have kt : ∀ d ∈ l3.drop a ++ l3.take a, I64 d.f0 ∧ I64 d.f1 ∧ I64 d.f2 := fun d hd => k3 d (hp.mem_iff.2 hd)
  have e1 := prog_cir (most := most) (l1 := l1) (l2 := l2) (l3 := l3) (l4 := l4) (l5 := l5) (by omega) (by omega) (by omega) (by omega) (by omega) (own_i64 l1 l2 l3 k1 k2 k3) (use_i64 l2 l3 l4 l5 k4 k5 k2 k3)
  have e2 := prog_cir (most := most) (l1 := l1) (l2 := l2) (l3 := l3.drop a ++ l3.take a) (l4 := l4) (l5 := l5) (by omega) (by omega) (by omega) (by omega) (by omega) (own_i64 l1 l2 _ k1 k2 kt) (use_i64 l2 _ l4 l5 k4 k5 k2 kt)
  have e3 := prog_chk (most := most) (l1 := l1) (l2 := l2) (l3 := l3.drop a ++ l3.take a) (l4 := l4) (l5 := l5) (by omega) (by omega) (by omega) (by omega) (by omega) (own_i64 l1 l2 _ k1 k2 kt) (use_i64 l2 _ l4 l5 k4 k5 k2 kt)
  have hc := chkS_perm (most := most) (l1 := l1) (l2 := l2) (l4 := l4) (l5 := l5) hp
  obtain ⟨s1, s2, s3, s4⟩ := cir_shape most l1 l2 l3 l4 l5
  obtain ⟨t1, t2, t3, t4⟩ := cir_shape most l1 l2 (l3.drop a ++ l3.take a) l4 l5
  rw [hc] at t1 t2 t3 t4
  rw [hlen] at t4
  have hval : chkS most l1 l2 l3 l4 l5 = 0 → gates_Check.f (circS most l1 l2 (l3.drop a ++ l3.take a) l4 l5).1 (circS most l1 l2 (l3.drop a ++ l3.take a) l4 l5).2.1 (circS most l1 l2 (l3.drop a ++ l3.take a) l4 l5).2.2.1 (circS most l1 l2 (l3.drop a ++ l3.take a) l4 l5).2.2.2.1 (circS most l1 l2 (l3.drop a ++ l3.take a) l4 l5).2.2.2.2.1 = some 0 := by
    intro h0
    have h0' : chkS most l1 l2 (l3.drop a ++ l3.take a) l4 l5 = 0 := by rw [hc]; exact h0
    obtain ⟨m, rfl⟩ := Int.eq_ofNat_of_zero_le (chkS_zero h0').1.m.1
    have hv := cir_val h0' (by omega)
    unfold gates_Check.f
    rw [(val_iff _ _ _ _ _ (by rw [t3]; split <;> omega) (by rw [t4]; split <;> omega) (by have := hv.b3; omega) (by have := hv.b4; omega)).2 hv]
  show l3_OrderTurned.j0 (999999 + 1) (a : Int) false most l1 l2 l3 l4 l5 = some true
  rw [l3_OrderTurned.j0, if_neg (by decide), twin_eq most l1 l2 l3 l4 l5 (by omega) (by omega) (by omega) (by omega) (by omega), Option.bind_some]
  dsimp only [Option.bind_some]
  rw [if_pos hn, if_pos hn2, if_pos (by simp; omega), if_pos (by simp; omega), List.nil_append, Int.toNat_natCast, e1, Option.bind_some, e2, Option.bind_some]
  generalize circS most l1 l2 l3 l4 l5 = C at s1 s2 s3 s4
  generalize circS most l1 l2 (l3.drop a ++ l3.take a) l4 l5 = D at t1 t2 t3 t4 hval
  rw [if_pos (by rw [s1, t1]), e3, Option.bind_some, hc]
  have hne : (C.2.2.2.2.2.2 != chkS most l1 l2 l3 l4 l5) = false := by rw [s1]; simp
  rw [hne]
  show l3_OrderTurned.j1 (999998 + 1) _ _ _ _ _ _ _ _ _ _ _ _ = some true
  rw [l3_OrderTurned.j1, if_neg (by decide), if_pos (by rw [s4, t4]), if_pos (by rw [s2, t2]), if_pos (by rw [s3, t3])]
  by_cases c : chkS most l1 l2 l3 l4 l5 = 0
  · rw [if_pos (by rw [s1]; exact c), hval c, Option.bind_some, if_pos rfl, alive_eq 999998 (by omega), Option.bind_some]
  · rw [if_neg (by rw [s1]; exact c), alive_eq 999998 (by omega), Option.bind_some]
theorem turned_pure (most : Int) (l1 : List Int) (l2 l3 : List S56) (l4 l5 : List Int) (n : Int)
    (k1 : ∀ x ∈ l1, I64 x) (k2 : ∀ d ∈ l2, I64 d.f0 ∧ I64 d.f1 ∧ I64 d.f2) (k3 : ∀ d ∈ l3, I64 d.f0 ∧ I64 d.f1 ∧ I64 d.f2) (k4 : ∀ x ∈ l4, I64 x) (k5 : ∀ x ∈ l5, I64 x) :
    l3_OrderTurned.f 1000000 most l1 l2 l3 l4 l5 n = some true := by
  have ja : l3_OrderTurned.j0 1000000 n true most l1 l2 l3 l4 l5 = some true := by
    show l3_OrderTurned.j0 (999999 + 1) n true most l1 l2 l3 l4 l5 = some true
    rw [l3_OrderTurned.j0, if_pos rfl, alive_eq 999999 (by omega), Option.bind_some]
  unfold l3_OrderTurned.f
  by_cases c : r3_Great.f most l1 l2 l3 l4 l5 = some true
  · rw [c, Option.bind_some, if_pos rfl, ja]
  obtain ⟨g, h1, h2, h3, h4, h5, -⟩ := great_of most l1 l2 l3 l4 l5 c
  rw [g, Option.bind_some, if_neg (by decide)]
  by_cases c1 : n < 0
  · rw [if_pos c1, ja]
  rw [if_neg c1]
  by_cases c2 : n > (l3.length : Int)
  · rw [decide_eq_true c2, ja]
  rw [decide_eq_false c2]
  exact turned_j0 most l1 l2 l3 l4 l5 n (by omega) (by omega) h1 h2 h3 h4 h5 k1 k2 k3 k4 k5
theorem OrderTurned (a : S30) (n : Int) (h : (Lit.int .i64 a.f0).wf = true ∧ (a.f1.length ≤ maxLen ∧ ∀ x ∈ a.f1, (Lit.int .i64 x).wf = true) ∧ (a.f2.length ≤ maxLen ∧ ∀ x ∈ a.f2, (Lit.int .i64 x.f0).wf = true ∧ (Lit.int .i64 x.f1).wf = true ∧ (Lit.int .i64 x.f2).wf = true) ∧ (a.f3.length ≤ maxLen ∧ ∀ x ∈ a.f3, (Lit.int .i64 x.f0).wf = true ∧ (Lit.int .i64 x.f1).wf = true ∧ (Lit.int .i64 x.f2).wf = true) ∧ (a.f4.length ≤ maxLen ∧ ∀ x ∈ a.f4, (Lit.int .i64 x).wf = true) ∧ (a.f5.length ≤ maxLen ∧ ∀ x ∈ a.f5, (Lit.int .i64 x).wf = true)) (hn : (Lit.int .i64 n).wf = true) :
    ∃ k, l3_OrderTurned.f k a.f0 a.f1 a.f2 a.f3 a.f4 a.f5 n = some true :=
  ⟨1000000, turned_pure a.f0 a.f1 a.f2 a.f3 a.f4 a.f5 n (fun x hx => i64_wf (h.2.1.2 x hx)) (fun x hx => ⟨i64_wf (h.2.2.1.2 x hx).1, i64_wf (h.2.2.1.2 x hx).2.1, i64_wf (h.2.2.1.2 x hx).2.2⟩) (fun x hx => ⟨i64_wf (h.2.2.2.1.2 x hx).1, i64_wf (h.2.2.2.1.2 x hx).2.1, i64_wf (h.2.2.2.1.2 x hx).2.2⟩) (fun x hx => i64_wf (h.2.2.2.2.1.2 x hx)) (fun x hx => i64_wf (h.2.2.2.2.2.2 x hx))⟩
end Go.Proofs.Ytpdlkjpemplhoaa.Pure
namespace Go.Proofs.YtpdlkjpemplhoaaO
open Go.RowKit Go.Proofs.YtpdlkjpemplhoaaW.PrintWords Go.ChangeShapes Go.WideShapes
structure Opens (P : Program) {α : Type} (t : TypeId) (d : Kd α) (ok : α → Prop) : Prop where
  out : ∀ {H : Type} {enc : TypeId × Value → H} {w : World} {base : Nat} {held : Bool} {n : Nat} {cs : List Value} {x : DataW H × List MemPlace},
    DataW.trod enc P w base (fun _ => true) held n t cs = some x → ∃ a, d.K w a cs ∧ ok a
theorem opens_int {P : Program} {t : TypeId} {k : IntKind} (ht : P.underlying t = some (.int k)) : Opens P t (Kd.int k) (fun n => (Lit.int k n).wf = true) := by
  constructor
  intro H enc w base held n cs x h
  cases n with
  | zero => simp [DataW.trod] at h
  | succ n =>
    unfold DataW.trod at h
    rw [ht] at h
    split at h <;> simp_all
    obtain ⟨⟨rfl, hw⟩, _⟩ := h
    exact ⟨_, rfl, hw⟩
theorem opens_slice {P : Program} {α : Type} {t e : TypeId} {d : Kd α} {ok : α → Prop} (ht : P.underlying t = some (.slice e)) (he : P.cellsOf e = d.sz) (ho : Opens P e d ok) :
    Opens P t (Kd.slice e d) (fun l => l.length ≤ maxLen ∧ ∀ x ∈ l, ok x) := by
  constructor
  intro H enc w base held n cs x h
  rcases Go.Deep.open_slice ht h with ⟨rfl, _⟩ | ⟨a, len, cap, m, n', D, Pl, rfl, hb, hl, hm, hmm, _, hx⟩
  · exact ⟨[], ⟨none, 0, rfl, Nat.le_refl _, Kd.C_nil d w⟩, by simp, by simp⟩
  · have hlm : len ≤ m := by rw [hmm]; simp; exact hl
    have hL : len ≤ maxLen := Nat.le_trans hl hm
    have each : ∀ i, i < len → ∃ y, ok y ∧ ∃ c, c.length = d.sz ∧ d.K w y c ∧ ∀ j u, c[j]? = some u → w.cell? (a.add (i * d.sz + j)) = some u := by
      intro i hi
      obtain ⟨cs', h1, h2⟩ := hx i (by omega)
      obtain ⟨y, hK, hy⟩ := ho.out h2
      obtain ⟨_, hlen, hcell⟩ := World.cells?_some h1
      rw [he] at hlen hcell
      refine ⟨y, hy, cs', hlen, hK, fun j u hj => ?_⟩
      have hjl : j < d.sz := by rw [← hlen]; exact (List.getElem?_eq_some_iff.1 hj).1
      rw [← add_add, hcell j hjl, hj]
    clear hx
    have build : ∀ k, k ≤ len → ∃ ys : List α, ys.length = k ∧ (∀ y ∈ ys, ok y) ∧ ∀ j p, ys[j]? = some p → ∃ c, c.length = d.sz ∧ d.K w p c ∧ ∀ i u, c[i]? = some u → w.cell? (a.add (j * d.sz + i)) = some u := by
      intro k
      induction k with
      | zero => intro _; exact ⟨[], rfl, by simp, by simp⟩
      | succ k ih =>
        intro hk
        obtain ⟨ys, h1, h2, h3⟩ := ih (by omega)
        obtain ⟨y, hy, c, hc⟩ := each k (by omega)
        refine ⟨ys ++ [y], by simp [h1], ?_, ?_⟩
        · intro z hz
          rcases List.mem_append.mp hz with hz | hz
          · exact h2 z hz
          · rw [List.mem_singleton.1 hz]; exact hy
        · intro j p hj
          by_cases hjk : j < k
          · rw [List.getElem?_append_left (by omega)] at hj
            exact h3 j p hj
          · have hjl : j < (ys ++ [y]).length := (List.getElem?_eq_some_iff.1 hj).1
            have : j = k := by simp at hjl; omega
            subst this
            rw [List.getElem?_append_right (by omega), h1, Nat.sub_self] at hj
            simp at hj
            subst hj
            exact ⟨c, hc⟩
    obtain ⟨ys, h1, h2, h3⟩ := build len (Nat.le_refl _)
    refine ⟨ys, ⟨some a, cap, by rw [h1], by rw [h1]; exact hl, ⟨rfl, ?_, fun _ => ⟨a, rfl, h3⟩⟩⟩, ?_, h2⟩
    · rw [h1]; unfold maxLen at hL; omega
    · rw [h1]; exact hL
structure OpensF (P : Program) {α : Type} (fs : List Field) (off : Nat) (d : Kd α) (ok : α → Prop) : Prop where
  out : ∀ {H : Type} {enc : TypeId × Value → H} {w : World} {base : Nat} {held : Bool} {n : Nat} {cs : List Value}, cs.length = off + d.sz →
    (∀ (j : Nat) (f : Field), fs[j]? = some f → ∃ y, DataW.trod enc P w base (fun _ => true) held n f.type ((cs.drop f.offset).take (P.cellsOf f.type)) = some y) → ∃ a, d.K w a (cs.drop off) ∧ ok a
theorem opensF_one {P : Program} {α : Type} {f : Field} {off : Nat} {d : Kd α} {ok : α → Prop} (ho : f.offset = off) (hc : P.cellsOf f.type = d.sz) (h : Opens P f.type d ok) : OpensF P [f] off d ok := by
  constructor
  intro H enc w base held n cs hl hf
  obtain ⟨y, hy⟩ := hf 0 f rfl
  obtain ⟨a, hK, ha⟩ := h.out hy
  rw [ho, hc, List.take_of_length_le (by rw [List.length_drop]; omega)] at hK
  exact ⟨a, hK, ha⟩
theorem opensF_cons {P : Program} {α β : Type} {f : Field} {fs : List Field} {off : Nat} {d : Kd α} {e : Kd β} {ok : α → Prop} {ok' : β → Prop} (ho : f.offset = off) (hc : P.cellsOf f.type = d.sz) (h : Opens P f.type d ok) (hr : OpensF P fs (off + d.sz) e ok') :
    OpensF P (f :: fs) off (Kd.pair d e) (fun x => ok x.1 ∧ ok' x.2) := by
  constructor
  intro H enc w base held n cs hl hf
  have hl' : cs.length = off + (d.sz + e.sz) := hl
  obtain ⟨y, hy⟩ := hf 0 f rfl
  obtain ⟨a, hK, ha⟩ := h.out hy
  obtain ⟨b, hK', hb⟩ := hr.out (by omega) (fun j g hg => hf (j + 1) g hg)
  rw [ho, hc] at hK
  refine ⟨(a, b), ⟨(cs.drop off).take d.sz, cs.drop (off + d.sz), ?_, hK, hK'⟩, ha, hb⟩
  rw [← List.drop_drop, List.take_append_drop]
theorem opens_struct {P : Program} {α σ : Type} {t : TypeId} {fs : Array Field} {d : Kd α} {ok : α → Prop} (ht : P.underlying t = some (.struct fs)) (hc : P.cellsOf t = d.sz) (h : OpensF P fs.toList 0 d ok) (f : σ → α) (mk : α → σ) (hf : ∀ a, f (mk a) = a) :
    Opens P t (Kd.iso d f) (fun s => ok (f s)) := by
  constructor
  intro H enc w base held n cs x hx
  obtain ⟨xs, m, rfl, _, hl, hxl, hfs⟩ := DataW.trod_struct ht hx
  obtain ⟨a, hK, ha⟩ := h.out (cs := cs) (by omega) (fun j g hg => by
    have hg' : fs[j]? = some g := by rw [← Array.getElem?_toList]; exact hg
    have h1 := hfs j g hg'
    have hj : j < xs.length := by rw [hxl]; exact (Array.getElem?_eq_some_iff.1 hg').1
    rw [List.getElem?_eq_getElem hj] at h1
    exact ⟨_, h1⟩)
  rw [List.drop_zero] at hK
  refine ⟨mk a, ?_, by show ok (f (mk a)); rw [hf]; exact ha⟩
  show d.K w (f (mk a)) cs
  rw [hf]
  exact hK
theorem open_arg_struct {P : Program} {H : Type} {enc : TypeId × Value → H} {w : World} {α : Type} {t : TypeId} {fs : Array Field} {d : Kd α} {ok : α → Prop} {base : Nat} {held : Bool} {v : Value} {x : DataW H} {ps : List MemPlace} {r : Reach} {b0 : Nat}
    (ht : P.underlying t = some (.struct fs)) (ho : Opens P t d ok) (hv : Value.okWide P w r b0 t v) (h : DataW.Trod enc P w base (fun _ => true) held t v x ps) :
    ∃ cs a, v = .agg cs ∧ d.K w a cs.toList ∧ ok a := by
  obtain ⟨cs, rfl, _⟩ := okWide_struct ht hv
  obtain ⟨n, h⟩ := h
  obtain ⟨a, hK, hok⟩ := ho.out h
  exact ⟨cs, a, rfl, by simpa [Value.cells] using hK, hok⟩
end Go.Proofs.YtpdlkjpemplhoaaO
namespace Go.Proofs.Ytpdlkjpemplhoaa.orderTurned
open Go.ChangeShapes Go.WideShapes Go.ChangeAt Go.RowKit Go.Proofs.YtpdlkjpemplhoaaW.PrintWords Go.Proofs.YtpdlkjpemplhoaaW.PrintLast Go.Proofs.YtpdlkjpemplhoaaO Go.Proofs.Ytpdlkjpemplhoaa.P
open Go.ChangeMaps (open_string shut_string)
set_option linter.unusedVariables false
theorem own : ownKnob Try.prog.godebug = none := by kernel_rfl
theorem laidOut : laidOutB Try.prog = true := by kernel_rfl
theorem op3 : Opens Try.prog 3 (Kd.int .i64) (fun n : Int => (Lit.int .i64 n).wf = true) := opens_int Try.underlying3
theorem op24 : Opens Try.prog 24 (Kd.slice 3 (Kd.int .i64)) (fun l : List (Int) => l.length ≤ maxLen ∧ ∀ x ∈ l, (fun n : Int => (Lit.int .i64 n).wf = true) x) := opens_slice Try.underlying24 (by kernel_rfl) op3
theorem op56 : Opens Try.prog 56 k56 (fun s : S56 => (fun x : ((Int) × ((Int) × (Int))) => (fun n : Int => (Lit.int .i64 n).wf = true) x.1 ∧ (fun x : ((Int) × (Int)) => (fun n : Int => (Lit.int .i64 n).wf = true) x.1 ∧ (fun n : Int => (Lit.int .i64 n).wf = true) x.2) x.2) ((fun x : S56 => (x.f0, x.f1, x.f2)) s)) := opens_struct (d := (Kd.pair (Kd.int .i64) (Kd.pair (Kd.int .i64) (Kd.int .i64)))) (ok := (fun x : ((Int) × ((Int) × (Int))) => (fun n : Int => (Lit.int .i64 n).wf = true) x.1 ∧ (fun x : ((Int) × (Int)) => (fun n : Int => (Lit.int .i64 n).wf = true) x.1 ∧ (fun n : Int => (Lit.int .i64 n).wf = true) x.2) x.2)) Try.underlying56 (by kernel_rfl) (by show OpensF _ [_, _, _] 0 _ _; refine opensF_cons (off := 0) (d := (Kd.int .i64)) (e := (Kd.pair (Kd.int .i64) (Kd.int .i64))) (ok := (fun n : Int => (Lit.int .i64 n).wf = true)) (ok' := (fun x : ((Int) × (Int)) => (fun n : Int => (Lit.int .i64 n).wf = true) x.1 ∧ (fun n : Int => (Lit.int .i64 n).wf = true) x.2)) rfl (by kernel_rfl) op3 ?_; refine opensF_cons (off := 1) (d := (Kd.int .i64)) (e := (Kd.int .i64)) (ok := (fun n : Int => (Lit.int .i64 n).wf = true)) (ok' := (fun n : Int => (Lit.int .i64 n).wf = true)) rfl (by kernel_rfl) op3 ?_; exact opensF_one (off := 2) (d := (Kd.int .i64)) (ok := (fun n : Int => (Lit.int .i64 n).wf = true)) rfl (by kernel_rfl) op3) (fun x : S56 => (x.f0, x.f1, x.f2)) (fun a => ⟨a.1, a.2.1, a.2.2⟩) (fun _ => rfl)
theorem op28 : Opens Try.prog 28 (Kd.slice 56 k56) (fun l : List (S56) => l.length ≤ maxLen ∧ ∀ x ∈ l, (fun s : S56 => (fun x : ((Int) × ((Int) × (Int))) => (fun n : Int => (Lit.int .i64 n).wf = true) x.1 ∧ (fun x : ((Int) × (Int)) => (fun n : Int => (Lit.int .i64 n).wf = true) x.1 ∧ (fun n : Int => (Lit.int .i64 n).wf = true) x.2) x.2) ((fun x : S56 => (x.f0, x.f1, x.f2)) s)) x) := opens_slice Try.underlying28 (by kernel_rfl) op56
theorem op30 : Opens Try.prog 30 k30 (fun s : S30 => (fun x : ((Int) × ((List (Int)) × ((List (S56)) × ((List (S56)) × ((List (Int)) × (List (Int))))))) => (fun n : Int => (Lit.int .i64 n).wf = true) x.1 ∧ (fun x : ((List (Int)) × ((List (S56)) × ((List (S56)) × ((List (Int)) × (List (Int)))))) => (fun l : List (Int) => l.length ≤ maxLen ∧ ∀ x ∈ l, (fun n : Int => (Lit.int .i64 n).wf = true) x) x.1 ∧ (fun x : ((List (S56)) × ((List (S56)) × ((List (Int)) × (List (Int))))) => (fun l : List (S56) => l.length ≤ maxLen ∧ ∀ x ∈ l, (fun s : S56 => (fun x : ((Int) × ((Int) × (Int))) => (fun n : Int => (Lit.int .i64 n).wf = true) x.1 ∧ (fun x : ((Int) × (Int)) => (fun n : Int => (Lit.int .i64 n).wf = true) x.1 ∧ (fun n : Int => (Lit.int .i64 n).wf = true) x.2) x.2) ((fun x : S56 => (x.f0, x.f1, x.f2)) s)) x) x.1 ∧ (fun x : ((List (S56)) × ((List (Int)) × (List (Int)))) => (fun l : List (S56) => l.length ≤ maxLen ∧ ∀ x ∈ l, (fun s : S56 => (fun x : ((Int) × ((Int) × (Int))) => (fun n : Int => (Lit.int .i64 n).wf = true) x.1 ∧ (fun x : ((Int) × (Int)) => (fun n : Int => (Lit.int .i64 n).wf = true) x.1 ∧ (fun n : Int => (Lit.int .i64 n).wf = true) x.2) x.2) ((fun x : S56 => (x.f0, x.f1, x.f2)) s)) x) x.1 ∧ (fun x : ((List (Int)) × (List (Int))) => (fun l : List (Int) => l.length ≤ maxLen ∧ ∀ x ∈ l, (fun n : Int => (Lit.int .i64 n).wf = true) x) x.1 ∧ (fun l : List (Int) => l.length ≤ maxLen ∧ ∀ x ∈ l, (fun n : Int => (Lit.int .i64 n).wf = true) x) x.2) x.2) x.2) x.2) x.2) ((fun x : S30 => (x.f0, x.f1, x.f2, x.f3, x.f4, x.f5)) s)) := opens_struct (d := (Kd.pair (Kd.int .i64) (Kd.pair (Kd.slice 3 (Kd.int .i64)) (Kd.pair (Kd.slice 56 k56) (Kd.pair (Kd.slice 56 k56) (Kd.pair (Kd.slice 3 (Kd.int .i64)) (Kd.slice 3 (Kd.int .i64)))))))) (ok := (fun x : ((Int) × ((List (Int)) × ((List (S56)) × ((List (S56)) × ((List (Int)) × (List (Int))))))) => (fun n : Int => (Lit.int .i64 n).wf = true) x.1 ∧ (fun x : ((List (Int)) × ((List (S56)) × ((List (S56)) × ((List (Int)) × (List (Int)))))) => (fun l : List (Int) => l.length ≤ maxLen ∧ ∀ x ∈ l, (fun n : Int => (Lit.int .i64 n).wf = true) x) x.1 ∧ (fun x : ((List (S56)) × ((List (S56)) × ((List (Int)) × (List (Int))))) => (fun l : List (S56) => l.length ≤ maxLen ∧ ∀ x ∈ l, (fun s : S56 => (fun x : ((Int) × ((Int) × (Int))) => (fun n : Int => (Lit.int .i64 n).wf = true) x.1 ∧ (fun x : ((Int) × (Int)) => (fun n : Int => (Lit.int .i64 n).wf = true) x.1 ∧ (fun n : Int => (Lit.int .i64 n).wf = true) x.2) x.2) ((fun x : S56 => (x.f0, x.f1, x.f2)) s)) x) x.1 ∧ (fun x : ((List (S56)) × ((List (Int)) × (List (Int)))) => (fun l : List (S56) => l.length ≤ maxLen ∧ ∀ x ∈ l, (fun s : S56 => (fun x : ((Int) × ((Int) × (Int))) => (fun n : Int => (Lit.int .i64 n).wf = true) x.1 ∧ (fun x : ((Int) × (Int)) => (fun n : Int => (Lit.int .i64 n).wf = true) x.1 ∧ (fun n : Int => (Lit.int .i64 n).wf = true) x.2) x.2) ((fun x : S56 => (x.f0, x.f1, x.f2)) s)) x) x.1 ∧ (fun x : ((List (Int)) × (List (Int))) => (fun l : List (Int) => l.length ≤ maxLen ∧ ∀ x ∈ l, (fun n : Int => (Lit.int .i64 n).wf = true) x) x.1 ∧ (fun l : List (Int) => l.length ≤ maxLen ∧ ∀ x ∈ l, (fun n : Int => (Lit.int .i64 n).wf = true) x) x.2) x.2) x.2) x.2) x.2)) Try.underlying30 (by kernel_rfl) (by show OpensF _ [_, _, _, _, _, _] 0 _ _; refine opensF_cons (off := 0) (d := (Kd.int .i64)) (e := (Kd.pair (Kd.slice 3 (Kd.int .i64)) (Kd.pair (Kd.slice 56 k56) (Kd.pair (Kd.slice 56 k56) (Kd.pair (Kd.slice 3 (Kd.int .i64)) (Kd.slice 3 (Kd.int .i64))))))) (ok := (fun n : Int => (Lit.int .i64 n).wf = true)) (ok' := (fun x : ((List (Int)) × ((List (S56)) × ((List (S56)) × ((List (Int)) × (List (Int)))))) => (fun l : List (Int) => l.length ≤ maxLen ∧ ∀ x ∈ l, (fun n : Int => (Lit.int .i64 n).wf = true) x) x.1 ∧ (fun x : ((List (S56)) × ((List (S56)) × ((List (Int)) × (List (Int))))) => (fun l : List (S56) => l.length ≤ maxLen ∧ ∀ x ∈ l, (fun s : S56 => (fun x : ((Int) × ((Int) × (Int))) => (fun n : Int => (Lit.int .i64 n).wf = true) x.1 ∧ (fun x : ((Int) × (Int)) => (fun n : Int => (Lit.int .i64 n).wf = true) x.1 ∧ (fun n : Int => (Lit.int .i64 n).wf = true) x.2) x.2) ((fun x : S56 => (x.f0, x.f1, x.f2)) s)) x) x.1 ∧ (fun x : ((List (S56)) × ((List (Int)) × (List (Int)))) => (fun l : List (S56) => l.length ≤ maxLen ∧ ∀ x ∈ l, (fun s : S56 => (fun x : ((Int) × ((Int) × (Int))) => (fun n : Int => (Lit.int .i64 n).wf = true) x.1 ∧ (fun x : ((Int) × (Int)) => (fun n : Int => (Lit.int .i64 n).wf = true) x.1 ∧ (fun n : Int => (Lit.int .i64 n).wf = true) x.2) x.2) ((fun x : S56 => (x.f0, x.f1, x.f2)) s)) x) x.1 ∧ (fun x : ((List (Int)) × (List (Int))) => (fun l : List (Int) => l.length ≤ maxLen ∧ ∀ x ∈ l, (fun n : Int => (Lit.int .i64 n).wf = true) x) x.1 ∧ (fun l : List (Int) => l.length ≤ maxLen ∧ ∀ x ∈ l, (fun n : Int => (Lit.int .i64 n).wf = true) x) x.2) x.2) x.2) x.2)) rfl (by kernel_rfl) op3 ?_; refine opensF_cons (off := 1) (d := (Kd.slice 3 (Kd.int .i64))) (e := (Kd.pair (Kd.slice 56 k56) (Kd.pair (Kd.slice 56 k56) (Kd.pair (Kd.slice 3 (Kd.int .i64)) (Kd.slice 3 (Kd.int .i64)))))) (ok := (fun l : List (Int) => l.length ≤ maxLen ∧ ∀ x ∈ l, (fun n : Int => (Lit.int .i64 n).wf = true) x)) (ok' := (fun x : ((List (S56)) × ((List (S56)) × ((List (Int)) × (List (Int))))) => (fun l : List (S56) => l.length ≤ maxLen ∧ ∀ x ∈ l, (fun s : S56 => (fun x : ((Int) × ((Int) × (Int))) => (fun n : Int => (Lit.int .i64 n).wf = true) x.1 ∧ (fun x : ((Int) × (Int)) => (fun n : Int => (Lit.int .i64 n).wf = true) x.1 ∧ (fun n : Int => (Lit.int .i64 n).wf = true) x.2) x.2) ((fun x : S56 => (x.f0, x.f1, x.f2)) s)) x) x.1 ∧ (fun x : ((List (S56)) × ((List (Int)) × (List (Int)))) => (fun l : List (S56) => l.length ≤ maxLen ∧ ∀ x ∈ l, (fun s : S56 => (fun x : ((Int) × ((Int) × (Int))) => (fun n : Int => (Lit.int .i64 n).wf = true) x.1 ∧ (fun x : ((Int) × (Int)) => (fun n : Int => (Lit.int .i64 n).wf = true) x.1 ∧ (fun n : Int => (Lit.int .i64 n).wf = true) x.2) x.2) ((fun x : S56 => (x.f0, x.f1, x.f2)) s)) x) x.1 ∧ (fun x : ((List (Int)) × (List (Int))) => (fun l : List (Int) => l.length ≤ maxLen ∧ ∀ x ∈ l, (fun n : Int => (Lit.int .i64 n).wf = true) x) x.1 ∧ (fun l : List (Int) => l.length ≤ maxLen ∧ ∀ x ∈ l, (fun n : Int => (Lit.int .i64 n).wf = true) x) x.2) x.2) x.2)) rfl (by kernel_rfl) op24 ?_; refine opensF_cons (off := 2) (d := (Kd.slice 56 k56)) (e := (Kd.pair (Kd.slice 56 k56) (Kd.pair (Kd.slice 3 (Kd.int .i64)) (Kd.slice 3 (Kd.int .i64))))) (ok := (fun l : List (S56) => l.length ≤ maxLen ∧ ∀ x ∈ l, (fun s : S56 => (fun x : ((Int) × ((Int) × (Int))) => (fun n : Int => (Lit.int .i64 n).wf = true) x.1 ∧ (fun x : ((Int) × (Int)) => (fun n : Int => (Lit.int .i64 n).wf = true) x.1 ∧ (fun n : Int => (Lit.int .i64 n).wf = true) x.2) x.2) ((fun x : S56 => (x.f0, x.f1, x.f2)) s)) x)) (ok' := (fun x : ((List (S56)) × ((List (Int)) × (List (Int)))) => (fun l : List (S56) => l.length ≤ maxLen ∧ ∀ x ∈ l, (fun s : S56 => (fun x : ((Int) × ((Int) × (Int))) => (fun n : Int => (Lit.int .i64 n).wf = true) x.1 ∧ (fun x : ((Int) × (Int)) => (fun n : Int => (Lit.int .i64 n).wf = true) x.1 ∧ (fun n : Int => (Lit.int .i64 n).wf = true) x.2) x.2) ((fun x : S56 => (x.f0, x.f1, x.f2)) s)) x) x.1 ∧ (fun x : ((List (Int)) × (List (Int))) => (fun l : List (Int) => l.length ≤ maxLen ∧ ∀ x ∈ l, (fun n : Int => (Lit.int .i64 n).wf = true) x) x.1 ∧ (fun l : List (Int) => l.length ≤ maxLen ∧ ∀ x ∈ l, (fun n : Int => (Lit.int .i64 n).wf = true) x) x.2) x.2)) rfl (by kernel_rfl) op28 ?_; refine opensF_cons (off := 3) (d := (Kd.slice 56 k56)) (e := (Kd.pair (Kd.slice 3 (Kd.int .i64)) (Kd.slice 3 (Kd.int .i64)))) (ok := (fun l : List (S56) => l.length ≤ maxLen ∧ ∀ x ∈ l, (fun s : S56 => (fun x : ((Int) × ((Int) × (Int))) => (fun n : Int => (Lit.int .i64 n).wf = true) x.1 ∧ (fun x : ((Int) × (Int)) => (fun n : Int => (Lit.int .i64 n).wf = true) x.1 ∧ (fun n : Int => (Lit.int .i64 n).wf = true) x.2) x.2) ((fun x : S56 => (x.f0, x.f1, x.f2)) s)) x)) (ok' := (fun x : ((List (Int)) × (List (Int))) => (fun l : List (Int) => l.length ≤ maxLen ∧ ∀ x ∈ l, (fun n : Int => (Lit.int .i64 n).wf = true) x) x.1 ∧ (fun l : List (Int) => l.length ≤ maxLen ∧ ∀ x ∈ l, (fun n : Int => (Lit.int .i64 n).wf = true) x) x.2)) rfl (by kernel_rfl) op28 ?_; refine opensF_cons (off := 4) (d := (Kd.slice 3 (Kd.int .i64))) (e := (Kd.slice 3 (Kd.int .i64))) (ok := (fun l : List (Int) => l.length ≤ maxLen ∧ ∀ x ∈ l, (fun n : Int => (Lit.int .i64 n).wf = true) x)) (ok' := (fun l : List (Int) => l.length ≤ maxLen ∧ ∀ x ∈ l, (fun n : Int => (Lit.int .i64 n).wf = true) x)) rfl (by kernel_rfl) op24 ?_; exact opensF_one (off := 5) (d := (Kd.slice 3 (Kd.int .i64))) (ok := (fun l : List (Int) => l.length ≤ maxLen ∧ ∀ x ∈ l, (fun n : Int => (Lit.int .i64 n).wf = true) x)) rfl (by kernel_rfl) op24) (fun x : S30 => (x.f0, x.f1, x.f2, x.f3, x.f4, x.f5)) (fun a => ⟨a.1, a.2.1, a.2.2.1, a.2.2.2.1, a.2.2.2.2.1, a.2.2.2.2.2⟩) (fun _ => rfl)
set_option maxRecDepth 100000 in
theorem lifted (os : Os) (started : os.Started) (H : Type) (enc : TypeId × Value → H) :
    ReturnsInHanded {} Try.checked os 7 .any (Rows.orderTurnedSpec.pre6 enc Try.prog Try.f7 Rows.orderTurnedRow.domain false) (Rows.orderTurnedSpec.post enc Try.prog Try.f7 false true false false) := by
  refine returnsInHanded_of_change_sized (C := Try.checked) own started (by kernel_rfl) Try.func7
    (ChangeSpec.witness6 (enc := enc) (C := Try.checked) false ⟨#[], #[.agg #[.int .i64 0, .slice none 0 0, .slice none 0 0, .slice none 0 0, .slice none 0 0, .slice none 0 0], .int .i64 0], []⟩ 8 (by kernel_rfl) (by kernel_rfl) (by kernel_rfl) (by kernel_rfl)) ?_
  intro W base args ds gs before hval0 hW hcnd hsz0 _
  have hval : ∀ (j : Nat) t v, Try.f7.params[j]? = some t → args[j]? = some v → Value.okWide Try.prog W .any base t v := hval0
  have hW' := hW
  obtain ⟨p, q, hA0, hV, rfl, hfz, hnd⟩ := hW
  have hA : DataW.TrodAll enc Try.prog W 0 (fun _ => true) true Try.f7.params.toList args.toList ds p := hA0
  rw [Try.params7] at hA hval
  obtain ⟨v0, vs0, d0, ds0, p0, q0, hargs, rfl, rfl, h0, r0⟩ := trodAll_cons hA
  obtain ⟨v1, vs1, d1, ds1, p1, q1, rfl, rfl, rfl, h1, r1⟩ := trodAll_cons r0
  obtain ⟨rfl, rfl, rfl⟩ := trodAll_nil r1
  obtain rfl : args = #[v0, v1] := by cases args; simp_all
  obtain ⟨rfl, rfl⟩ := trodVars_none hV
  have k0 := h0
  have lt0 : ∀ x ∈ p0, x.block < W.heap.size := by obtain ⟨m, hm⟩ := k0; exact DataW.trod_lt m _ _ _ hm
  obtain ⟨cs0, a0, rfl, hK0, ok0⟩ := open_arg_struct Try.underlying30 op30 (hval 0 30 v0 rfl rfl) h0
  obtain ⟨A0_1, c0_1, A0_2, c0_2, A0_3, c0_3, A0_4, c0_4, A0_5, c0_5, hcs0, hc0_1, hr0_1, hc0_2, hr0_2, hc0_3, hr0_3, hc0_4, hr0_4, hc0_5, hr0_5⟩ := k30_open hK0
  obtain rfl : cs0 = #[.int .i64 a0.f0, .slice A0_1 a0.f1.length c0_1, .slice A0_2 a0.f2.length c0_2, .slice A0_3 a0.f3.length c0_3, .slice A0_4 a0.f4.length c0_4, .slice A0_5 a0.f5.length c0_5] := by rw [← Array.toList_inj]; exact hcs0
  obtain ⟨a1, rfl, rfl, rfl, w1⟩ := open_int Try.underlying3 (hval 1 3 v1 rfl rfl) h1
  clear hA0 hval0 hsz0
  obtain ⟨k, hP⟩ := Pure.OrderTurned a0 a1 ok0 w1
  refine (l3_OrderTurned.calls k a0.f0 A0_1 c0_1 a0.f1 A0_2 c0_2 a0.f2 A0_3 c0_3 a0.f3 A0_4 c0_4 a0.f4 A0_5 c0_5 a0.f5 a1 W hr0_1 hc0_1 hr0_2 hc0_2 hr0_3 hc0_3 hr0_4 hc0_4 hr0_5 hc0_5 hP).mono fun e W' ⟨he, bel⟩ => ?_
  subst he
  exact ⟨_, rfl, _, _, _, [], _, [], hW', trodAll_mk1 (shut_bool Try.underlying4 _), (trodAll_cons_mk (Below.trod laidOut (by kernel_rfl) (of_decide_eq_true (by kernel_rfl)) k0 bel lt0) (trodAll_cons_mk (shut_int Try.underlying3 w1) trodAll_mk0)), rfl, bel.frame _, fun h => by cases h⟩
theorem over : Rows.orderTurnedRow.holds Try.pinned (OpenSpec.ofChange Rows.orderTurnedSpec) :=
  OpenClaim.holds_of_wide 7 Try.f7 rfl rfl rfl rfl rfl rfl rfl ⟨rfl, rfl, rfl, rfl, rfl⟩ rfl rfl rfl rfl rfl (by kernel_rfl) Try.func7 (by kernel_rfl)
    (of_decide_eq_true (by kernel_rfl)) (by unfold Func.isWrapper; first | (rw [if_pos (by decide +kernel)]; kernel_rfl) | (rw [if_neg (by decide +kernel)]; exact ⟨rfl, rfl⟩))
    (fun os started H enc _ => lifted os started H enc)
theorem proved : Rows.OrderTurnedSaid := over
end Go.Proofs.Ytpdlkjpemplhoaa.orderTurned
namespace Go.Proofs.Ytpdlkjpemplhoaa
theorem orderTurned_holds : Rows.OrderTurnedSaid := orderTurned.proved
end Go.Proofs.Ytpdlkjpemplhoaa
