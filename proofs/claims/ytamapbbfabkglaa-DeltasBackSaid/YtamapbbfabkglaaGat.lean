/- What the functions on gates as bytes come to (deltas.Pack, deltas.Unpack and the reference's). -/
import Derived.Test.YtamapbbfabkglaaNum
import Derived.Test.YtamapbbfabkglaaPack
import Derived.Test.YtamapbbfabkglaaUnpack
import Derived.Test.YtamapbbfabkglaaFRef09Asked
import Derived.Test.YtamapbbfabkglaaFRef09Right
import Derived.Test.YtamapbbfabkglaaFRef09Pack
import Derived.Test.YtamapbbfabkglaaFRef09Unpack
import Derived.Test.YtamapbbfabkglaaFRef09Same
import Derived.Test.YtamapbbfabkglaaFLaw09Right
namespace Go.Proofs.Ytamapbbfabkglaa.P
open Go.RowKit Go.Proofs.YtamapbbfabkglaaW.PrintWords Go.Proofs.YtamapbbfabkglaaW.PrintLast Go.Proofs.YtamapbbfabkglaaW.PrintMore Go.Proofs.YtamapbbfabkglaaE

/-- A wrap that does nothing. (No equation between wraps stays in a context in which omega is called: the kernel opens them.) -/
theorem ws {n m : Int} (h : n = m ∧ -5000000000 ≤ m ∧ m ≤ 4000000000) : wrap64 n = m := by
  obtain ⟨rfl, h0, h1⟩ := h
  exact wrap_id (by omega) (by omega)

abbrev Gate := S36

def askS (first n : Int) : Int := if first < 1 ∨ first > 1000 ∨ n < 0 then 2 else if n > 1001 - first then 4 else 0

theorem check_eq (first n : Int) (k : Nat) (hk : 1 < k) : deltas_check.f k first n = some (askS first n) := by
  obtain ⟨k, rfl⟩ : ∃ m, k = m + 1 := ⟨k - 1, by omega⟩
  unfold deltas_check.f askS
  simp only [deltas_check.j0]
  by_cases h1 : first < 1
  · simp [h1]
  · by_cases h2 : first > 1000
    · simp [h1, h2]
    · by_cases h3 : n < 0
      · simp [h1, h2, h3]
      · have e1 : wrap64 (1000 - first) = 1000 - first := wrap_id (by omega) (by omega)
        have e2 : wrap64 (1000 - first + 1) = 1000 - first + 1 := wrap_id (by omega) (by omega)
        by_cases h4 : n > 1001 - first
        · have h5 : n > 1000 - first + 1 := by omega
          simp [h1, h2, h3, h4, e1, e2, h5]
        · have h5 : ¬ n > 1000 - first + 1 := by omega
          simp [h1, h2, h3, h4, e1, e2, h5]

theorem asked_eq (first n : Int) (k : Nat) (hk : 1 < k) : spiritlevelref09_Asked.f k first n = some (askS first n) := by
  obtain ⟨k, rfl⟩ : ∃ m, k = m + 1 := ⟨k - 1, by omega⟩
  unfold spiritlevelref09_Asked.f askS
  simp only [spiritlevelref09_Asked.j0]
  by_cases h1 : first < 1
  · simp [h1]
  · by_cases h2 : first > 1000
    · simp [h1, h2]
    · by_cases h3 : n < 0
      · simp [h1, h2, h3]
      · have e1 : wrap64 (1001 - first) = 1001 - first := wrap_id (by omega) (by omega)
        by_cases h4 : n > 1001 - first
        · simp [h1, h2, h3, h4, e1]
        · simp [h1, h2, h3, h4, e1]

theorem askS_zero {first n : Int} (h : askS first n = 0) : 1 ≤ first ∧ first ≤ 1000 ∧ 0 ≤ n ∧ n ≤ 1001 - first := by
  unfold askS at h
  by_cases h1 : first < 1 ∨ first > 1000 ∨ n < 0
  · rw [if_pos h1] at h; simp at h
  · rw [if_neg h1] at h
    by_cases h2 : n > 1001 - first
    · rw [if_pos h2] at h; simp at h
    · omega

/-- A gate of a variable is right. -/
def RightG (v : Int) (g : Gate) : Prop := 0 ≤ g.f1 ∧ g.f1 ≤ g.f0 ∧ g.f0 < 2 * v
instance (v : Int) (g : Gate) : Decidable (RightG v g) := inferInstanceAs (Decidable (_ ∧ _ ∧ _))

theorem right_eq (v a b : Int) (h0 : -1000000 ≤ v) (h1 : v ≤ 1000000) : spiritlevelref09_Right.f v a b = some (decide (RightG v ⟨a, b⟩)) := by
  unfold spiritlevelref09_Right.f
  have e : wrap64 (2 * v) = 2 * v := wrap_id (by omega) (by omega)
  rw [e]
  by_cases c1 : b ≥ 0
  · rw [if_pos c1]
    by_cases c2 : a ≥ b
    · rw [if_pos c2]
      by_cases c3 : a < 2 * v
      · have h : RightG v ⟨a, b⟩ := ⟨c1, c2, c3⟩
        rw [decide_eq_true c3, decide_eq_true h]
      · have h : ¬ RightG v ⟨a, b⟩ := fun h => c3 h.2.2
        rw [decide_eq_false c3, decide_eq_false h]
    · have h : ¬ RightG v ⟨a, b⟩ := fun h => c2 h.2.1
      rw [if_neg c2, decide_eq_false h]
  · have h : ¬ RightG v ⟨a, b⟩ := fun h => c1 h.1
    rw [if_neg c1, decide_eq_false h]

def packGo (v : Int) : List Gate → List Int → List Int × Int
  | [], acc => (acc, 0)
  | g :: r, acc => if RightG v g then packGo (v + 1) r (acc ++ enc (2 * v - g.f0).toNat ++ enc (g.f0 - g.f1).toNat) else ([], 8)

def packS (first : Int) (l : List Gate) : List Int × Int := if askS first l.length = 0 then packGo first l [] else ([], askS first l.length)

theorem rdT_drop {l : List Gate} {i : Nat} (h : i < l.length) : l.drop i = rd_T36 l i :: l.drop (i + 1) := by
  rw [List.drop_eq_getElem_cons h]
  simp [rd_T36, h]

theorem writeS_ok {n : Int} (h0 : 0 ≤ n) (h1 : n ≤ 2147483647) : writeS n = (enc n.toNat, 0) := by
  unfold writeS; rw [if_neg (by omega)]

theorem pack_l0 (a0 : Int) (l : List Gate) (ha : 1 ≤ a0) (hl : a0 + l.length ≤ 1001) (d : Nat) : ∀ (i : Nat) (all : List Int) (k : Nat), l.length - i = d → i ≤ l.length → all.length ≤ 10 * i → d + 3000 < k →
    deltas_Pack.l0 k a0 l all (i : Int) = some (packGo (a0 + i) (l.drop i) all) := by
  induction d with
  | zero =>
    intro i all k hd hi _ hk
    obtain ⟨k, rfl⟩ : ∃ m, k = m + 1 := ⟨k - 1, by omega⟩
    have hi' : i = l.length := by omega
    simp only [deltas_Pack.l0]
    rw [if_neg (by omega), hi', List.drop_length]
    rfl
  | succ d ih =>
    intro i all k hd hi hall hk
    obtain ⟨k, rfl⟩ : ∃ m, k = m + 1 := ⟨k - 1, by omega⟩
    have hlt : i < l.length := by omega
    simp only [deltas_Pack.l0]
    have e1 : wrap64 (a0 + (i : Int)) = a0 + i := wrap_id (by omega) (by omega)
    have e2 : wrap64 (2 * (a0 + (i : Int))) = 2 * (a0 + i) := wrap_id (by omega) (by omega)
    have e3 : wrap64 ((i : Int) + 1) = ((i + 1 : Nat) : Int) := by rw [wrap_id (by omega) (by omega)]; omega
    rw [if_pos (by omega), if_pos (by omega), rdT_drop hlt, e1, e2, e3]
    simp only [packGo]
    generalize rd_T36 l (i : Int) = g
    by_cases hr : RightG (a0 + (i : Int)) g
    · obtain ⟨r1, r2, r3⟩ := hr
      have e4 : wrap64 (2 * (a0 + (i : Int)) - g.f0) = 2 * (a0 + i) - g.f0 := wrap_id (by omega) (by omega)
      have e5 : wrap64 (g.f0 - g.f1) = g.f0 - g.f1 := wrap_id (by omega) (by omega)
      have l1 := enc_len5 (2 * (a0 + (i : Int)) - g.f0).toNat (by omega)
      have l2 := enc_len5 (g.f0 - g.f1).toNat (by omega)
      rw [if_neg (by omega), if_neg (by omega), if_neg (by omega), if_pos ⟨r1, r2, r3⟩, e4, e5, write_eq _ k (by omega), writeS_ok (by omega) (by omega)]
      simp only [Option.bind_some]
      rw [if_pos trivial, if_pos (by omega), write_eq _ k (by omega), writeS_ok (by omega) (by omega)]
      simp only [Option.bind_some]
      rw [if_pos trivial, if_pos (by simp only [List.length_append]; omega), ih (i + 1) _ k (by omega) (by omega) (by simp only [List.length_append]; omega) (by omega)]
      have : a0 + ((i + 1 : Nat) : Int) = a0 + (i : Int) + 1 := by omega
      rw [this]
    · rw [if_neg hr]
      unfold RightG at hr
      by_cases c1 : g.f1 < 0
      · rw [if_pos c1]
      · rw [if_neg c1]
        by_cases c2 : g.f0 < g.f1
        · rw [if_pos c2]
        · rw [if_neg c2, if_pos (by omega)]

theorem pack_eq (a0 : Int) (l : List Gate) (k : Nat) (hk : l.length + 4000 < k) : deltas_Pack.f k a0 l = some (packS a0 l) := by
  unfold deltas_Pack.f packS
  rw [check_eq _ _ k (by omega)]
  simp only [Option.bind_some]
  by_cases h : askS a0 l.length = 0
  · obtain ⟨h1, h2, h3, h4⟩ := askS_zero h
    rw [if_pos h, if_pos h]
    have := pack_l0 a0 l h1 (by omega) l.length 0 [] k (by omega) (by omega) (by simp) (by omega)
    simpa using this
  · rw [if_neg h, if_neg h]

theorem refPack_l0 (a0 : Int) (l : List Gate) (ha : 1 ≤ a0) (hl : a0 + l.length ≤ 1001) (d : Nat) : ∀ (i : Nat) (all : List Int) (k : Nat), l.length - i = d → i ≤ l.length → all.length ≤ 10 * i → d + 3000 < k →
    spiritlevelref09_Pack.l0 k a0 l all (i : Int) = some (packGo (a0 + i) (l.drop i) all) := by
  induction d with
  | zero =>
    intro i all k hd hi _ hk
    obtain ⟨k, rfl⟩ : ∃ m, k = m + 1 := ⟨k - 1, by omega⟩
    have hi' : i = l.length := by omega
    simp only [spiritlevelref09_Pack.l0]
    rw [if_neg (by omega), hi', List.drop_length]
    rfl
  | succ d ih =>
    intro i all k hd hi hall hk
    obtain ⟨k, rfl⟩ : ∃ m, k = m + 1 := ⟨k - 1, by omega⟩
    have hlt : i < l.length := by omega
    simp only [spiritlevelref09_Pack.l0]
    have e1 : wrap64 (a0 + (i : Int)) = a0 + i := wrap_id (by omega) (by omega)
    have e2 : wrap64 (2 * (a0 + (i : Int))) = 2 * (a0 + i) := wrap_id (by omega) (by omega)
    have e3 : wrap64 ((i : Int) + 1) = ((i + 1 : Nat) : Int) := by rw [wrap_id (by omega) (by omega)]; omega
    rw [if_pos (by omega), if_pos (by omega), rdT_drop hlt, e1, e2, e3, right_eq _ _ _ (by omega) (by omega)]
    simp only [packGo, Option.bind_some]
    generalize rd_T36 l (i : Int) = g
    by_cases hr : RightG (a0 + (i : Int)) g
    · obtain ⟨r1, r2, r3⟩ := hr
      have e4 : wrap64 (2 * (a0 + (i : Int)) - g.f0) = 2 * (a0 + i) - g.f0 := wrap_id (by omega) (by omega)
      have e5 : wrap64 (g.f0 - g.f1) = g.f0 - g.f1 := wrap_id (by omega) (by omega)
      have l1 := enc_len5 (2 * (a0 + (i : Int)) - g.f0).toNat (by omega)
      have l2 := enc_len5 (g.f0 - g.f1).toNat (by omega)
      have b1 := bytes_eq (2 * (a0 + (i : Int)) - g.f0).toNat k (by omega) (by omega)
      have b2 := bytes_eq (g.f0 - g.f1).toNat k (by omega) (by omega)
      rw [Int.toNat_of_nonneg (by omega)] at b1 b2
      have hG : RightG (a0 + (i : Int)) ⟨g.f0, g.f1⟩ := ⟨r1, r2, r3⟩
      have hG' : RightG (a0 + (i : Int)) g := ⟨r1, r2, r3⟩
      rw [decide_eq_true hG, if_pos rfl, if_pos hG', e4, e5, b1]
      simp only [Option.bind_some]
      rw [if_pos (by omega), b2]
      simp only [Option.bind_some]
      rw [if_pos (by simp only [List.length_append]; omega), ih (i + 1) _ k (by omega) (by omega) (by simp only [List.length_append]; omega) (by omega)]
      have : a0 + ((i + 1 : Nat) : Int) = a0 + (i : Int) + 1 := by omega
      rw [this]
    · have hG : ¬ RightG (a0 + (i : Int)) ⟨g.f0, g.f1⟩ := hr
      rw [if_neg hr, decide_eq_false hG, if_neg (by simp)]

theorem refPack_eq (a0 : Int) (l : List Gate) (k : Nat) (hk : l.length + 4000 < k) : spiritlevelref09_Pack.f k a0 l = some (packS a0 l) := by
  unfold spiritlevelref09_Pack.f packS
  rw [asked_eq _ _ k (by omega)]
  simp only [Option.bind_some]
  by_cases h : askS a0 l.length = 0
  · obtain ⟨h1, h2, h3, h4⟩ := askS_zero h
    rw [if_pos h, if_pos h]
    have := refPack_l0 a0 l h1 (by omega) l.length 0 [] k (by omega) (by omega) (by simp) (by omega)
    simpa using this
  · rw [if_neg h, if_neg h]

/-- n gates from a variable on. -/
def unpackGo (v : Int) : Nat → List Int → Nat → List Gate → List Gate × Int × Int
  | 0, _, at_, acc => (acc, (at_ : Int), 0)
  | n + 1, b, at_, acc =>
    if (readS (b.drop at_)).2.2 = 0 then
      (if 2 * v < (readS (b.drop at_)).1 ∨ (readS (b.drop at_)).1 = 0 then ([], 0, 8) else
       if (readS (b.drop (at_ + (readS (b.drop at_)).2.1.toNat))).2.2 = 0 then
        (if 2 * v - (readS (b.drop at_)).1 < (readS (b.drop (at_ + (readS (b.drop at_)).2.1.toNat))).1 then ([], 0, 8)
         else unpackGo (v + 1) n b (at_ + (readS (b.drop at_)).2.1.toNat + (readS (b.drop (at_ + (readS (b.drop at_)).2.1.toNat))).2.1.toNat)
           (acc ++ [⟨2 * v - (readS (b.drop at_)).1, 2 * v - (readS (b.drop at_)).1 - (readS (b.drop (at_ + (readS (b.drop at_)).2.1.toNat))).1⟩]))
       else ([], 0, (readS (b.drop (at_ + (readS (b.drop at_)).2.1.toNat))).2.2))
    else ([], 0, (readS (b.drop at_)).2.2)

def unpackS (first n : Int) (b : List Int) : List Gate × Int × Int := if askS first n = 0 then unpackGo first n.toNat b 0 [] else ([], 0, askS first n)

theorem bytes_drop {b : List Int} (h : Bytes b) (i : Nat) : Bytes (b.drop i) := fun x hx => h x (List.mem_of_mem_drop hx)

theorem unpack_l0 (a0 : Int) (n : Nat) (b : List Int) (hb : Bytes b) (hm : b.length ≤ 1000000) (ha : 1 ≤ a0) (hl : a0 + n ≤ 1001) (d : Nat) : ∀ (i : Nat) (at_ : Nat) (l : List Gate) (k : Nat), i + d = n → at_ ≤ b.length → l.length = i → d + b.length + 3000 < k →
    deltas_Unpack.l0 k a0 (n : Int) b l (at_ : Int) (i : Int) = some (unpackGo (a0 + i) d b at_ l) := by
  induction d with
  | zero =>
    intro i at_ l k hd _ _ hk
    obtain ⟨k, rfl⟩ : ∃ m, k = m + 1 := ⟨k - 1, by omega⟩
    simp only [deltas_Unpack.l0]
    rw [if_neg (by omega)]
    rfl
  | succ d ih =>
    intro i at_ l k hd hat hll hk
    obtain ⟨k, rfl⟩ : ∃ m, k = m + 1 := ⟨k - 1, by omega⟩
    have t1 : (i : Int) < (n : Int) := by omega
    have t2 : (at_ : Int) ≤ (b.length : Int) := by omega
    have t3 : a0 + ((i + 1 : Nat) : Int) = a0 + (i : Int) + 1 := by omega
    have t4 : 1 ≤ a0 + (i : Int) ∧ a0 + (i : Int) ≤ 1001 := by omega
    have t5 : l.length < 8796093022208 := by omega
    have t6 : ∀ j, (b.drop j).length ≤ 9223372036854775807 := fun j => by rw [List.length_drop]; omega
    have t7 : ∀ j, (b.drop j).length + 10 < k := fun j => by rw [List.length_drop]; omega
    have b1 : a0 + (i : Int) = a0 + i ∧ -5000000000 ≤ a0 + (i : Int) ∧ a0 + (i : Int) ≤ 4000000000 := by omega
    have b2 : 2 * (a0 + (i : Int)) = 2 * (a0 + i) ∧ -5000000000 ≤ 2 * (a0 + (i : Int)) ∧ 2 * (a0 + (i : Int)) ≤ 4000000000 := by omega
    have b3 : (i : Int) + 1 = ((i + 1 : Nat) : Int) ∧ -5000000000 ≤ ((i + 1 : Nat) : Int) ∧ ((i + 1 : Nat) : Int) ≤ 4000000000 := by omega
    have t8 : ∀ at2, at2 ≤ b.length → ∀ g : Gate, deltas_Unpack.l0 k a0 (n : Int) b (l ++ [g]) (at2 : Int) ((i + 1 : Nat) : Int) = some (unpackGo (a0 + (i : Int) + 1) d b at2 (l ++ [g])) := fun at2 h2 g => by
      rw [← t3]; exact ih (i + 1) at2 _ k (by omega) h2 (by simp [hll]) (by omega)
    simp only [deltas_Unpack.l0]
    rw [if_pos t1, if_pos (Int.natCast_nonneg _), if_pos t2, ws b1, ws b2, ws b3, Int.toNat_natCast, read_eq _ (bytes_drop hb _) (t6 _) k (Nat.lt_of_le_of_lt (Nat.le_add_right _ 10) (t7 _))]
    simp only [Option.bind_some, unpackGo]
    have hr := readS_range (b.drop at_)
    generalize readS (b.drop at_) = p at hr ⊢
    obtain ⟨a, s, e⟩ := p
    simp only [List.length_drop] at hr ⊢
    generalize a0 + (i : Int) = v at *
    clear ih t1 t3 hd hk b1 b2 b3
    by_cases z1 : e = 0
    · have hr1 : 0 ≤ a ∧ a ≤ 2147483647 ∧ 0 < s ∧ s ≤ ((b.length - at_ : Nat) : Int) := by
        rcases hr with ⟨_, q1, q2, q3, q4, _⟩ | ⟨_, _, q3⟩
        · exact ⟨q1, q2, q3, q4⟩
        · exact absurd z1 (by omega)
      clear hr
      obtain ⟨q1, q2, q3, q4⟩ := hr1
      obtain ⟨s, rfl⟩ := Int.eq_ofNat_of_zero_le (Int.le_of_lt q3)
      have h2 : at_ + s ≤ b.length := by omega
      have b4 : (at_ : Int) + (s : Int) = ((at_ + s : Nat) : Int) ∧ -5000000000 ≤ ((at_ + s : Nat) : Int) ∧ ((at_ + s : Nat) : Int) ≤ 4000000000 := by omega
      have b5 : 2 * v - a = 2 * v - a ∧ -5000000000 ≤ 2 * v - a ∧ 2 * v - a ≤ 4000000000 := by omega
      have t9 : ((at_ + s : Nat) : Int) ≤ (b.length : Int) := by omega
      rw [if_pos z1, if_pos z1, Int.toNat_natCast]
      clear q3 q4 z1
      by_cases z2 : 2 * v < a
      · rw [if_pos z2, if_pos (.inl z2)]
      · rw [if_neg z2]
        by_cases z3 : a = 0
        · rw [if_pos z3, if_pos (.inr z3)]
        · have hz : ¬ (2 * v < a ∨ a = 0) := fun h => h.elim z2 z3
          rw [if_neg z3, if_neg hz, ws b4, ws b5, if_pos (Int.natCast_nonneg _), if_pos t9, Int.toNat_natCast, read_eq _ (bytes_drop hb _) (t6 _) k (Nat.lt_of_le_of_lt (Nat.le_add_right _ 10) (t7 _))]
          simp only [Option.bind_some]
          have hr := readS_range (b.drop (at_ + s))
          generalize readS (b.drop (at_ + s)) = q at hr ⊢
          obtain ⟨c, s2, e'⟩ := q
          simp only [List.length_drop] at hr ⊢
          by_cases z4 : e' = 0
          · have hr1 : 0 ≤ c ∧ c ≤ 2147483647 ∧ 0 < s2 ∧ s2 ≤ ((b.length - (at_ + s) : Nat) : Int) := by
              rcases hr with ⟨_, q1, q2, q3, q4, _⟩ | ⟨_, _, q3⟩
              · exact ⟨q1, q2, q3, q4⟩
              · exact absurd z4 (by omega)
            clear hr
            obtain ⟨w1, w2, w3, w4⟩ := hr1
            obtain ⟨s2, rfl⟩ := Int.eq_ofNat_of_zero_le (Int.le_of_lt w3)
            have h3 : at_ + s + s2 ≤ b.length := by omega
            have b6 : 2 * v - a - c = 2 * v - a - c ∧ -5000000000 ≤ 2 * v - a - c ∧ 2 * v - a - c ≤ 4000000000 := by omega
            have b7 : ((at_ + s : Nat) : Int) + (s2 : Int) = ((at_ + s + s2 : Nat) : Int) ∧ -5000000000 ≤ ((at_ + s + s2 : Nat) : Int) ∧ ((at_ + s + s2 : Nat) : Int) ≤ 4000000000 := by omega
            rw [if_pos z4, if_pos z4, Int.toNat_natCast, ws b6]
            by_cases z5 : 2 * v - a < c
            · rw [if_pos z5, if_pos z5]
            · rw [if_neg z5, if_neg z5, if_pos t5, ws b7, t8 _ h3]
          · rw [if_neg z4, if_neg z4]
    · rw [if_neg z1, if_neg z1]

theorem unpack_eq (a0 a1 : Int) (b : List Int) (hb : Bytes b) (hm : b.length ≤ 1000000) (k : Nat) (hk : b.length + 10000 < k) : deltas_Unpack.f k a0 a1 b = some (unpackS a0 a1 b) := by
  unfold deltas_Unpack.f unpackS
  rw [check_eq _ _ k (by omega)]
  simp only [Option.bind_some]
  by_cases h : askS a0 a1 = 0
  · obtain ⟨h1, h2, h3, h4⟩ := askS_zero h
    rw [if_pos h, if_pos h]
    obtain ⟨n, rfl⟩ := Int.eq_ofNat_of_zero_le h3
    have := unpack_l0 a0 n b hb hm h1 (by omega) n 0 0 [] k (by omega) (by omega) rfl (by omega)
    simpa using this
  · rw [if_neg h, if_neg h]

theorem refUnpack_l0 (a0 : Int) (n : Nat) (b : List Int) (hb : Bytes b) (hm : b.length ≤ 1000000) (ha : 1 ≤ a0) (hl : a0 + n ≤ 1001) (d : Nat) : ∀ (i : Nat) (at_ : Nat) (l : List Gate) (k : Nat), i + d = n → at_ ≤ b.length → l.length = i → d + b.length + 3000 < k →
    spiritlevelref09_Unpack.l0 k a0 (n : Int) b l (at_ : Int) (i : Int) = some (unpackGo (a0 + i) d b at_ l) := by
  induction d with
  | zero =>
    intro i at_ l k hd _ _ hk
    obtain ⟨k, rfl⟩ : ∃ m, k = m + 1 := ⟨k - 1, by omega⟩
    simp only [spiritlevelref09_Unpack.l0]
    rw [if_neg (by omega)]
    rfl
  | succ d ih =>
    intro i at_ l k hd hat hll hk
    obtain ⟨k, rfl⟩ : ∃ m, k = m + 1 := ⟨k - 1, by omega⟩
    have t1 : (i : Int) < (n : Int) := by omega
    have t2 : (at_ : Int) ≤ (b.length : Int) := by omega
    have t3 : a0 + ((i + 1 : Nat) : Int) = a0 + (i : Int) + 1 := by omega
    have t4 : 1 ≤ a0 + (i : Int) ∧ a0 + (i : Int) ≤ 1001 := by omega
    have t5 : l.length < 8796093022208 := by omega
    have t6 : ∀ j, (b.drop j).length ≤ 9223372036854775807 := fun j => by rw [List.length_drop]; omega
    have t7 : ∀ j, (b.drop j).length + 10 < k := fun j => by rw [List.length_drop]; omega
    have b1 : a0 + (i : Int) = a0 + i ∧ -5000000000 ≤ a0 + (i : Int) ∧ a0 + (i : Int) ≤ 4000000000 := by omega
    have b2 : 2 * (a0 + (i : Int)) = 2 * (a0 + i) ∧ -5000000000 ≤ 2 * (a0 + (i : Int)) ∧ 2 * (a0 + (i : Int)) ≤ 4000000000 := by omega
    have b3 : (i : Int) + 1 = ((i + 1 : Nat) : Int) ∧ -5000000000 ≤ ((i + 1 : Nat) : Int) ∧ ((i + 1 : Nat) : Int) ≤ 4000000000 := by omega
    have t8 : ∀ at2, at2 ≤ b.length → ∀ g : Gate, spiritlevelref09_Unpack.l0 k a0 (n : Int) b (l ++ [g]) (at2 : Int) ((i + 1 : Nat) : Int) = some (unpackGo (a0 + (i : Int) + 1) d b at2 (l ++ [g])) := fun at2 h2 g => by
      rw [← t3]; exact ih (i + 1) at2 _ k (by omega) h2 (by simp [hll]) (by omega)
    simp only [spiritlevelref09_Unpack.l0]
    rw [if_pos t1, if_pos (Int.natCast_nonneg _), if_pos t2, ws b1, ws b2, ws b3, Int.toNat_natCast, refRead_eq _ (bytes_drop hb _) (t6 _) k (t7 _)]
    simp only [Option.bind_some, unpackGo]
    have hr := readS_range (b.drop at_)
    generalize readS (b.drop at_) = p at hr ⊢
    obtain ⟨a, s, e⟩ := p
    simp only [List.length_drop] at hr ⊢
    generalize a0 + (i : Int) = v at *
    clear ih t1 t3 hd hk b1 b2 b3
    by_cases z1 : e = 0
    · have hr1 : 0 ≤ a ∧ a ≤ 2147483647 ∧ 0 < s ∧ s ≤ ((b.length - at_ : Nat) : Int) := by
        rcases hr with ⟨_, q1, q2, q3, q4, _⟩ | ⟨_, _, q3⟩
        · exact ⟨q1, q2, q3, q4⟩
        · exact absurd z1 (by omega)
      clear hr
      obtain ⟨q1, q2, q3, q4⟩ := hr1
      obtain ⟨s, rfl⟩ := Int.eq_ofNat_of_zero_le (Int.le_of_lt q3)
      have h2 : at_ + s ≤ b.length := by omega
      have b4 : (at_ : Int) + (s : Int) = ((at_ + s : Nat) : Int) ∧ -5000000000 ≤ ((at_ + s : Nat) : Int) ∧ ((at_ + s : Nat) : Int) ≤ 4000000000 := by omega
      have b5 : 2 * v - a = 2 * v - a ∧ -5000000000 ≤ 2 * v - a ∧ 2 * v - a ≤ 4000000000 := by omega
      have t9 : ((at_ + s : Nat) : Int) ≤ (b.length : Int) := by omega
      rw [if_pos z1, if_pos z1, Int.toNat_natCast, ws b5]
      clear q3 q4 z1
      rw [right_eq v _ _ (by omega) (by omega)]
      simp only [Option.bind_some]
      by_cases hz : 2 * v < a ∨ a = 0
      · have hG : ¬ RightG v ⟨2 * v - a, 0⟩ := by rintro ⟨g1, g2, g3⟩; dsimp only at g1 g2 g3; omega
        rw [if_pos hz, decide_eq_false hG, if_neg (by simp)]
      · have hG : RightG v ⟨2 * v - a, 0⟩ := ⟨Int.le_refl _, by dsimp only; omega, by dsimp only; omega⟩
        · rw [if_neg hz, decide_eq_true hG, if_pos rfl, ws b4, if_pos (Int.natCast_nonneg _), if_pos t9, Int.toNat_natCast, refRead_eq _ (bytes_drop hb _) (t6 _) k (t7 _)]
          simp only [Option.bind_some]
          have hr := readS_range (b.drop (at_ + s))
          generalize readS (b.drop (at_ + s)) = q at hr ⊢
          obtain ⟨c, s2, e'⟩ := q
          simp only [List.length_drop] at hr ⊢
          by_cases z4 : e' = 0
          · have hr1 : 0 ≤ c ∧ c ≤ 2147483647 ∧ 0 < s2 ∧ s2 ≤ ((b.length - (at_ + s) : Nat) : Int) := by
              rcases hr with ⟨_, q1, q2, q3, q4, _⟩ | ⟨_, _, q3⟩
              · exact ⟨q1, q2, q3, q4⟩
              · exact absurd z4 (by omega)
            clear hr
            obtain ⟨w1, w2, w3, w4⟩ := hr1
            obtain ⟨s2, rfl⟩ := Int.eq_ofNat_of_zero_le (Int.le_of_lt w3)
            have h3 : at_ + s + s2 ≤ b.length := by omega
            have b6 : 2 * v - a - c = 2 * v - a - c ∧ -5000000000 ≤ 2 * v - a - c ∧ 2 * v - a - c ≤ 4000000000 := by omega
            have b7 : ((at_ + s : Nat) : Int) + (s2 : Int) = ((at_ + s + s2 : Nat) : Int) ∧ -5000000000 ≤ ((at_ + s + s2 : Nat) : Int) ∧ ((at_ + s + s2 : Nat) : Int) ≤ 4000000000 := by omega
            rw [if_pos z4, if_pos z4, Int.toNat_natCast, ws b6]
            rw [right_eq v _ _ (by omega) (by omega)]
            simp only [Option.bind_some]
            by_cases z5 : 2 * v - a < c
            · have hG2 : ¬ RightG v ⟨2 * v - a, 2 * v - a - c⟩ := by rintro ⟨g1, g2, g3⟩; dsimp only at g1 g2 g3; omega
              rw [if_pos z5, decide_eq_false hG2, if_neg (by simp)]
            · have hG2 : RightG v ⟨2 * v - a, 2 * v - a - c⟩ := ⟨by dsimp only; omega, by dsimp only; omega, hG.2.2⟩
              rw [if_neg z5, decide_eq_true hG2, if_pos rfl, if_pos t5, ws b7, t8 _ h3]
          · rw [if_neg z4, if_neg z4]
    · rw [if_neg z1, if_neg z1]

theorem refUnpack_eq (a0 a1 : Int) (b : List Int) (hb : Bytes b) (hm : b.length ≤ 1000000) (k : Nat) (hk : b.length + 10000 < k) : spiritlevelref09_Unpack.f k a0 a1 b = some (unpackS a0 a1 b) := by
  unfold spiritlevelref09_Unpack.f unpackS
  rw [asked_eq _ _ k (by omega)]
  simp only [Option.bind_some]
  by_cases h : askS a0 a1 = 0
  · obtain ⟨h1, h2, h3, h4⟩ := askS_zero h
    rw [if_pos h, if_pos h]
    obtain ⟨n, rfl⟩ := Int.eq_ofNat_of_zero_le h3
    have := refUnpack_l0 a0 n b hb hm h1 (by omega) n 0 0 [] k (by omega) (by omega) rfl (by omega)
    simpa using this
  · rw [if_neg h, if_neg h]

theorem same_l0 (l : List Gate) (hl : l.length ≤ 1000000) (d : Nat) : ∀ (i : Nat) (k : Nat), l.length - i = d → i ≤ l.length → d < k → spiritlevelref09_Same.l0 k l l (i : Int) = some true := by
  induction d with
  | zero =>
    intro i k hd hi hk
    obtain ⟨k, rfl⟩ : ∃ m, k = m + 1 := ⟨k - 1, by omega⟩
    simp only [spiritlevelref09_Same.l0]
    rw [if_neg (by omega)]
  | succ d ih =>
    intro i k hd hi hk
    obtain ⟨k, rfl⟩ : ∃ m, k = m + 1 := ⟨k - 1, by omega⟩
    have e3 : wrap64 ((i : Int) + 1) = ((i + 1 : Nat) : Int) := by rw [wrap_id (by omega) (by omega)]; omega
    simp only [spiritlevelref09_Same.l0]
    rw [if_pos (by omega), if_pos (by omega), if_pos (by omega), if_neg (by simp), e3, ih (i + 1) k (by omega) (by omega) (by omega)]

theorem same_eq (l : List Gate) (hl : l.length ≤ 1000000) (k : Nat) (hk : l.length < k) : spiritlevelref09_Same.f k l l = some true := by
  unfold spiritlevelref09_Same.f
  rw [if_pos rfl]
  have := same_l0 l hl l.length 0 k (by omega) (by omega) hk
  simpa using this

/-- Gates are right from a variable on. -/
def Rights (v : Int) : List Gate → Prop
  | [] => True
  | g :: r => RightG v g ∧ Rights (v + 1) r

instance rightsDec : (v : Int) → (l : List Gate) → Decidable (Rights v l)
  | _, [] => .isTrue trivial
  | v, g :: r => by
    have := rightsDec (v + 1) r
    exact inferInstanceAs (Decidable (RightG v g ∧ Rights (v + 1) r))

theorem lawRight_l0 (a0 : Int) (l : List Gate) (ha : 0 ≤ a0) (hl : a0 + l.length ≤ 1000000) (d : Nat) : ∀ (i : Nat) (k : Nat), l.length - i = d → i ≤ l.length → d < k →
    spiritlevellaw09_right.l0 k a0 l (i : Int) = some (decide (Rights (a0 + i) (l.drop i))) := by
  induction d with
  | zero =>
    intro i k hd hi hk
    obtain ⟨k, rfl⟩ : ∃ m, k = m + 1 := ⟨k - 1, by omega⟩
    have hi' : i = l.length := by omega
    simp only [spiritlevellaw09_right.l0]
    have hR : Rights (a0 + (l.length : Int)) [] := trivial
    rw [if_neg (by omega), hi', List.drop_length, decide_eq_true hR]
  | succ d ih =>
    intro i k hd hi hk
    obtain ⟨k, rfl⟩ : ∃ m, k = m + 1 := ⟨k - 1, by omega⟩
    have hlt : i < l.length := by omega
    have e1 : wrap64 (a0 + (i : Int)) = a0 + i := wrap_id (by omega) (by omega)
    have e3 : wrap64 ((i : Int) + 1) = ((i + 1 : Nat) : Int) := by rw [wrap_id (by omega) (by omega)]; omega
    simp only [spiritlevellaw09_right.l0]
    rw [if_pos (by omega), if_pos (by omega), rdT_drop hlt, e1, e3, right_eq _ _ _ (by omega) (by omega)]
    simp only [Option.bind_some]
    generalize rd_T36 l (i : Int) = g
    by_cases hr : RightG (a0 + (i : Int)) g
    · have h : RightG (a0 + (i : Int)) ⟨g.f0, g.f1⟩ := hr
      rw [decide_eq_true h, if_pos rfl, ih (i + 1) k (by omega) (by omega) (by omega)]
      have : a0 + ((i + 1 : Nat) : Int) = a0 + (i : Int) + 1 := by omega
      rw [this]
      congr 1
      rw [decide_eq_decide]
      simp only [Rights]
      exact ⟨fun h => ⟨hr, h⟩, fun h => h.2⟩
    · have h : ¬ RightG (a0 + (i : Int)) ⟨g.f0, g.f1⟩ := hr
      rw [decide_eq_false h, if_neg (by simp), decide_eq_false (by simp only [Rights]; exact fun h => hr h.1)]

theorem lawRight_eq (a0 : Int) (l : List Gate) (ha : 0 ≤ a0) (hl : a0 + l.length ≤ 1000000) (k : Nat) (hk : l.length < k) : spiritlevellaw09_right.f k a0 l = some (decide (Rights a0 l)) := by
  unfold spiritlevellaw09_right.f
  have := lawRight_l0 a0 l ha hl l.length 0 k (by omega) (by omega) hk
  simpa using this

end Go.Proofs.Ytamapbbfabkglaa.P
