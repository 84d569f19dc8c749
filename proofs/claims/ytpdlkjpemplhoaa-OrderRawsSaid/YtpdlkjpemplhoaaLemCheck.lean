/- What the reference's check of a circuit comes to: the same as the program's (plain laws on the printed functions). -/
import Derived.Test.YtpdlkjpemplhoaaGatesVars
import Derived.Test.YtpdlkjpemplhoaaFRef02Check
namespace Go.Proofs.Ytpdlkjpemplhoaa.P
open Go.RowKit Go.Proofs.YtpdlkjpemplhoaaW.PrintWords Go.Proofs.YtpdlkjpemplhoaaW.PrintLast Go.Proofs.YtpdlkjpemplhoaaW.PrintMore
set_option linter.unusedVariables false

theorem wrap_id {n : Int} (h0 : -9223372036854775808 ≤ n) (h1 : n ≤ 9223372036854775807) : wrap64 n = n := by unfold wrap64; omega

/-- A number of 64 bits. -/
def I64 (x : Int) : Prop := -9223372036854775808 ≤ x ∧ x ≤ 9223372036854775807

theorem i64_wf {x : Int} (h : (Lit.int .i64 x).wf = true) : I64 x := by
  simp [Lit.wf, IntKind.min, IntKind.max, IntKind.bits, IntKind.signed] at h
  unfold I64; omega

theorem rd_drop {b : List Int} {i : Nat} (h : i < b.length) : b.drop i = rd b (i : Int) :: b.drop (i + 1) := by
  rw [List.drop_eq_getElem_cons h]
  simp [rd, h]
theorem rd_mem {b : List Int} {i : Nat} (h : i < b.length) : rd b (i : Int) ∈ b := by
  have : rd b (i : Int) = b[i] := by simp [rd, h]
  rw [this]; exact List.getElem_mem h
theorem rdL_drop {b : List S61} {i : Nat} (h : i < b.length) : b.drop i = rd_T61 b (i : Int) :: b.drop (i + 1) := by
  rw [List.drop_eq_getElem_cons h]
  simp [rd_T61, h]
theorem rdL_mem {b : List S61} {i : Nat} (h : i < b.length) : rd_T61 b (i : Int) ∈ b := by
  have : rd_T61 b (i : Int) = b[i] := by simp [rd_T61, h]
  rw [this]; exact List.getElem_mem h
theorem rdA_drop {b : List S59} {i : Nat} (h : i < b.length) : b.drop i = rd_T59 b (i : Int) :: b.drop (i + 1) := by
  rw [List.drop_eq_getElem_cons h]
  simp [rd_T59, h]
theorem rdA_mem {b : List S59} {i : Nat} (h : i < b.length) : rd_T59 b (i : Int) ∈ b := by
  have : rd_T59 b (i : Int) = b[i] := by simp [rd_T59, h]
  rw [this]; exact List.getElem_mem h

theorem outB_cases {x s : Int} (hx : I64 x) (hs : 0 ≤ s) (hs' : s ≤ 1000000) : outB (s + 1) x = true ↔ (x < 0 ∨ wrap64 (Int.tdiv x 2) > s) := by
  obtain ⟨h0, h1⟩ := hx
  unfold outB
  by_cases c : x < 0
  · simp [c]
  · rw [Int.tdiv_eq_ediv_of_nonneg (by omega), wrap_id (by omega) (by omega)]
    simp [c]
    omega

theorem literals_l0 (l : List Int) (s : Int) (hs : 0 ≤ s) (hs' : s ≤ 1000000) (hl : l.length ≤ 1000000) (hx : ∀ x ∈ l, I64 x) (d : Nat) : ∀ (i k : Nat), l.length - i = d → i ≤ l.length → d < k →
    spiritlevelref02_literals.l0 k l s (i : Int) = some (!(l.drop i).any (outB (s + 1))) := by
  induction d with
  | zero =>
    intro i k hd hi hk
    obtain ⟨k, rfl⟩ : ∃ m, k = m + 1 := ⟨k - 1, by omega⟩
    have e : i = l.length := by omega
    simp only [spiritlevelref02_literals.l0]
    rw [if_neg (by omega), e, List.drop_length]
    rfl
  | succ d ih =>
    intro i k hd hi hk
    obtain ⟨k, rfl⟩ : ∃ m, k = m + 1 := ⟨k - 1, by omega⟩
    have hlt : i < l.length := by omega
    simp only [spiritlevelref02_literals.l0]
    rw [if_pos (by omega), if_pos (by omega), rd_drop hlt, List.any_cons]
    have hm := outB_cases (hx _ (rd_mem hlt)) hs hs'
    generalize rd l (i : Int) = x at hm
    by_cases c : x < 0
    · rw [if_pos c, hm.2 (.inl c)]; rfl
    · rw [if_neg c]
      by_cases c2 : wrap64 (Int.tdiv x 2) > s
      · rw [if_pos c2, hm.2 (.inr c2)]; rfl
      · rw [if_neg c2]
        have hf : outB (s + 1) x = false := by
          cases h : outB (s + 1) x with
          | false => rfl
          | true => exact absurd (hm.1 h) (by rintro (h | h) <;> contradiction)
        have e : wrap64 ((i : Int) + 1) = ((i + 1 : Nat) : Int) := by rw [wrap_id (by omega) (by omega)]; omega
        rw [hf, e, ih (i + 1) k (by omega) (by omega) (by omega)]
        rfl

theorem literals_eq (l : List Int) (s : Int) (hs : 0 ≤ s) (hs' : s ≤ 1000000) (hl : l.length ≤ 1000000) (hx : ∀ x ∈ l, I64 x) (k : Nat) (hk : l.length < k) :
    spiritlevelref02_literals.f k l s = some (!l.any (outB (s + 1))) := by
  unfold spiritlevelref02_literals.f
  have := literals_l0 l s hs hs' hl hx l.length 0 k (by omega) (by omega) hk
  simpa using this

theorem refCheck_l1 (n : Int) (l1 : List S61) (l2 : List S59) (l3 l4 : List Int) (h0 : 0 ≤ n) (h1 : n ≤ 1000) (ha : l1.length ≤ 100000) (hb : l2.length ≤ 100000) (hx : ∀ x ∈ l2, I64 x.f0 ∧ I64 x.f1) (d : Nat) : ∀ (i k : Nat), l2.length - i = d → i ≤ l2.length → d < k →
    spiritlevelref02_Check.l1 k (i : Int) n l1 l2 l3 l4 = some (if andsOk (gAnd n l1.length) i (l2.drop i) then 0 else 8) := by
  have eg : gAnd n l1.length = 1 + n + l1.length := by unfold gAnd gLat; rw [wrap_id (n := 1 + n) (by omega) (by omega), wrap_id (by omega) (by omega)]
  induction d with
  | zero =>
    intro i k hd hi hk
    obtain ⟨k, rfl⟩ : ∃ m, k = m + 1 := ⟨k - 1, by omega⟩
    simp only [spiritlevelref02_Check.l1]
    rw [if_neg (by omega), ands_end _ _ _ (by omega)]
    rfl
  | succ d ih =>
    intro i k hd hi hk
    obtain ⟨k, rfl⟩ : ∃ m, k = m + 1 := ⟨k - 1, by omega⟩
    have hlt : i < l2.length := by omega
    simp only [spiritlevelref02_Check.l1]
    rw [if_pos (by omega), if_pos (by omega), ands_at _ _ _ hlt]
    have hm := hx _ (rdA_mem hlt)
    generalize rd_T59 l2 (i : Int) = x at hm
    obtain ⟨x0, x1⟩ := x
    obtain ⟨⟨p0, p1⟩, q0, q1⟩ := hm
    simp only at p0 p1 q0 q1
    have hw : wrap64 (wrap64 (n + (l1.length : Int)) + (i : Int)) = n + l1.length + i := by rw [wrap_id (n := n + l1.length) (by omega) (by omega), wrap_id (by omega) (by omega)]
    have hw2 : wrap64 (2 * wrap64 (gAnd n l1.length + (i : Int))) = 2 * (1 + n + l1.length + i) := by
      rw [eg, wrap_id (n := 1 + n + l1.length + i) (by omega) (by omega), wrap_id (by omega) (by omega)]
    have e : wrap64 ((i : Int) + 1) = ((i + 1 : Nat) : Int) := by rw [wrap_id (by omega) (by omega)]; omega
    rw [hw, e]
    unfold gBad
    rw [hw2]
    clear hw hw2 e
    simp only
    by_cases c : x1 < 0
    · rw [if_pos c, decide_eq_true c]; rfl
    · rw [if_neg c, decide_eq_false c]
      by_cases c2 : x0 < x1
      · rw [if_pos c2, decide_eq_true c2]; rfl
      · rw [if_neg c2, decide_eq_false c2]
        have ed : wrap64 (Int.tdiv x0 2) = x0 / 2 := by rw [Int.tdiv_eq_ediv_of_nonneg (by omega), wrap_id (n := x0 / 2) (by omega) (by omega)]
        rw [ed]
        clear ed
        by_cases c3 : x0 / 2 > n + l1.length + i
        · rw [if_pos c3, decide_eq_true (show 2 * (1 + n + (l1.length : Int) + i) ≤ x0 by omega)]; rfl
        · rw [if_neg c3, decide_eq_false (show ¬ 2 * (1 + n + (l1.length : Int) + i) ≤ x0 by omega), ih (i + 1) k (by omega) (by omega) (by omega)]
          rfl

theorem refCheck_l0 (n s : Int) (l1 : List S61) (l2 : List S59) (l3 l4 : List Int) (h0 : 0 ≤ n) (h1 : n ≤ 1000) (hs : 0 ≤ s) (hs' : s ≤ 1000000) (ha : l1.length ≤ 100000) (hb : l2.length ≤ 100000) (hy : ∀ x ∈ l1, I64 x.f0) (hx : ∀ x ∈ l2, I64 x.f0 ∧ I64 x.f1) (d : Nat) : ∀ (i k : Nat), l1.length - i = d → i ≤ l1.length → d + l2.length + 2 < k →
    spiritlevelref02_Check.l0 k s (i : Int) n l1 l2 l3 l4 = some (if (l1.drop i).any (wrongB (s + 1)) then 8 else if andsOk (gAnd n l1.length) 0 l2 then 0 else 8) := by
  induction d with
  | zero =>
    intro i k hd hi hk
    obtain ⟨k, rfl⟩ : ∃ m, k = m + 1 := ⟨k - 1, by omega⟩
    have e : i = l1.length := by omega
    simp only [spiritlevelref02_Check.l0]
    rw [if_neg (by omega), e, List.drop_length]
    have := refCheck_l1 n l1 l2 l3 l4 h0 h1 ha hb hx l2.length 0 k (by omega) (by omega) (by omega)
    simpa using this
  | succ d ih =>
    intro i k hd hi hk
    obtain ⟨k, rfl⟩ : ∃ m, k = m + 1 := ⟨k - 1, by omega⟩
    have hlt : i < l1.length := by omega
    simp only [spiritlevelref02_Check.l0]
    rw [if_pos (by omega), if_pos (by omega), rdL_drop hlt, List.any_cons]
    have hm := hy _ (rdL_mem hlt)
    generalize rd_T61 l1 (i : Int) = x at hm
    obtain ⟨x0, x1⟩ := x
    simp only at hm
    have e : wrap64 ((i : Int) + 1) = ((i + 1 : Nat) : Int) := by rw [wrap_id (by omega) (by omega)]; omega
    rw [e]
    clear e
    rw [literals_eq [x0] s hs hs' (by simp) (by intro y hy; simp at hy; rw [hy]; exact hm) k (by simp; omega)]
    have ew : wrongB (s + 1) ⟨x0, x1⟩ = (outB (s + 1) x0 || decide (x1 < 0) || decide (2 < x1)) := rfl
    rw [ew]
    clear ew
    simp only [List.any_cons, List.any_nil, Bool.or_false, Option.bind_some]
    cases c : outB (s + 1) x0 with
    | true => rfl
    | false =>
      simp only [Bool.not_false, Bool.false_or]
      rw [if_pos trivial]
      by_cases c1 : x1 < 0
      · rw [if_pos c1, decide_eq_true c1]; rfl
      · rw [if_neg c1, decide_eq_false c1]
        by_cases c2 : x1 > 2
        · rw [if_pos c2, decide_eq_true (show 2 < x1 from c2)]; rfl
        · rw [if_neg c2, decide_eq_false (show ¬ 2 < x1 from c2), ih (i + 1) k (by omega) (by omega) (by omega)]
          rfl

theorem refCheck_eq (n : Int) (l1 : List S61) (l2 : List S59) (l3 l4 : List Int) (hn : I64 n) (ha : l1.length ≤ 1000) (hb : l2.length ≤ 1000) (hc : l3.length ≤ 1000) (hd : l4.length ≤ 1000) (hy : ∀ x ∈ l1, I64 x.f0) (hx : ∀ x ∈ l2, I64 x.f0 ∧ I64 x.f1) (h3 : ∀ x ∈ l3, I64 x) (h4 : ∀ x ∈ l4, I64 x) (k : Nat) (hk : 5000 < k) :
    spiritlevelref02_Check.f k n l1 l2 l3 l4 = some (checkS n l1 l2 l3 l4) := by
  obtain ⟨k, rfl⟩ : ∃ m, k = m + 1 + 1 := ⟨k - 2, by omega⟩
  have hj : spiritlevelref02_Check.j0 (k + 1 + 1) true n l1 l2 l3 l4 = some 4 := by
    simp only [spiritlevelref02_Check.j0]; rw [if_pos trivial]
  unfold spiritlevelref02_Check.f checkS
  by_cases c1 : n < 0
  · rw [if_pos c1, if_pos c1]
  · rw [if_neg c1, if_neg c1]
    by_cases c2 : n > 1000
    · rw [if_pos c2, if_pos (show 1000 < n from c2)]; exact hj
    · have eg : gEnd n l1.length l2.length = (n + l1.length + l2.length) + 1 := by
        unfold gEnd gAnd gLat
        rw [wrap_id (n := 1 + n) (by omega) (by omega), wrap_id (n := 1 + n + l1.length) (by omega) (by omega), wrap_id (by omega) (by omega)]; omega
      have es : spiritlevelref02_Size.f n l1 l2 l3 l4 = some (n + l1.length + l2.length) := by
        unfold spiritlevelref02_Size.f
        rw [wrap_id (n := n + l1.length) (by omega) (by omega), wrap_id (by omega) (by omega)]
      have e1 : wrap64 (n + (l1.length : Int) + (l2.length : Int) + 1 - 1) = n + l1.length + l2.length := by rw [wrap_id (by omega) (by omega)]; omega
      rw [if_neg c2, if_neg (show ¬ 1000 < n from c2), eg, e1, es]
      clear e1 eg
      simp only [Option.bind_some]
      by_cases c3 : n + (l1.length : Int) + (l2.length : Int) > 1000
      · rw [if_pos c3, if_pos (show 1000 < n + (l1.length : Int) + (l2.length : Int) from c3)]; exact hj
      · rw [if_neg c3, if_neg (show ¬ 1000 < n + (l1.length : Int) + (l2.length : Int) from c3)]
        by_cases c4 : (l3.length : Int) > 100
        · rw [if_pos c4, if_pos (show 100 < mx (l3.length : Int) (l4.length : Int) by unfold mx; split <;> omega)]; exact hj
        · rw [if_neg c4]
          by_cases c5 : (l4.length : Int) > 100
          · rw [decide_eq_true c5, if_pos (show 100 < mx (l3.length : Int) (l4.length : Int) by unfold mx; split <;> omega)]; exact hj
          · rw [decide_eq_false c5, if_neg (show ¬ 100 < mx (l3.length : Int) (l4.length : Int) by unfold mx; split <;> omega)]
            simp only [spiritlevelref02_Check.j0]
            rw [if_neg Bool.false_ne_true, es]
            simp only [Option.bind_some]
            have hs0 : 0 ≤ n + (l1.length : Int) + (l2.length : Int) := by omega
            have hs1 : n + (l1.length : Int) + (l2.length : Int) ≤ 1000000 := by omega
            have hL := refCheck_l0 n _ l1 l2 l3 l4 (by omega) (by omega) hs0 hs1 (by omega) (by omega) hy hx l1.length 0 k (by omega) (by omega) (by omega)
            rw [literals_eq l3 _ hs0 hs1 (by omega) h3 (k + 1) (by omega), literals_eq l4 _ hs0 hs1 (by omega) h4 (k + 1) (by omega)]
            simp only [Option.bind_some]
            clear hj es
            generalize n + (l1.length : Int) + (l2.length : Int) = s at hL
            cases o3 : l3.any (outB (s + 1)) with
            | true => simp [spiritlevelref02_Check.j1]
            | false =>
              cases o4 : l4.any (outB (s + 1)) with
              | true => simp [spiritlevelref02_Check.j1]
              | false =>
                simp only [spiritlevelref02_Check.j1, Bool.not_false, Bool.not_true, if_true, Bool.false_eq_true, if_false]
                simpa using hL
end Go.Proofs.Ytpdlkjpemplhoaa.P
