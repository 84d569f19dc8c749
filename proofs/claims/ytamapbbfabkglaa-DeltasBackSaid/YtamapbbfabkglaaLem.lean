/- Laws of bytes of numbers and gates, and the small functions of the statements (writes, reads, alive). -/
import Derived.Test.YtamapbbfabkglaaGat
import Derived.Test.YtamapbbfabkglaaFLaw09Writes
import Derived.Test.YtamapbbfabkglaaFLaw09Reads
import Derived.Test.YtamapbbfabkglaaFLaw09Alive
namespace Go.Proofs.Ytamapbbfabkglaa.P
open Go.RowKit Go.Proofs.YtamapbbfabkglaaW.PrintWords Go.Proofs.YtamapbbfabkglaaW.PrintLast Go.Proofs.YtamapbbfabkglaaW.PrintMore Go.Proofs.YtamapbbfabkglaaE

theorem wf_i64 {n : Int} (h : (Lit.int .i64 n).wf = true) : -9223372036854775808 ≤ n ∧ n ≤ 9223372036854775807 := by
  simp [Lit.wf, IntKind.min, IntKind.max, IntKind.bits, IntKind.signed] at h
  exact h

theorem enc_bytes (n : Nat) : Bytes (enc n) := enc_byte n

theorem writes_true (n : Nat) (h : n ≤ 2147483647) (k : Nat) (hk : n + 20 < k) : spiritlevellaw09_writes.f k (n : Int) (enc n) = some true := by
  have hl := enc_len5 n h
  have hr := readS_enc n h []
  rw [List.append_nil] at hr
  unfold spiritlevellaw09_writes.f
  rw [write_eq _ k (by simp; omega), writeS_ok (by omega) (by omega), read_eq _ (enc_bytes n) (by omega) k (by omega), hr]
  simp

theorem reads_true (l : List Int) (hb : Bytes l) (hm : l.length ≤ 1000000) (e : Int) (h : readS l = (0, 0, e)) (k : Nat) (hk : l.length < k) : spiritlevellaw09_reads.f k e l = some true := by
  unfold spiritlevellaw09_reads.f
  rw [read_eq _ hb (by omega) k hk, h]
  simp

theorem enc5 : enc 5 = [5] := by rw [enc_small (by decide)]; rfl
theorem enc300 : enc 300 = [172, 2] := by rw [enc_big (by decide), enc_small (by decide)]; rfl
theorem enc4 : enc 4 = [4] := by rw [enc_small (by decide)]; rfl
theorem enc2 : enc 2 = [2] := by rw [enc_small (by decide)]; rfl

theorem alive_true (k : Nat) (hk : 20000 < k) : spiritlevellaw09_alive.f k = some true := by
  have h1 : packS 4 [⟨4, 2⟩] = ([4, 2], 0) := by
    have a1 : askS 4 (([⟨4, 2⟩] : List Gate).length : Int) = 0 := by decide
    have a2 : RightG 4 ⟨4, 2⟩ := by decide
    unfold packS
    rw [if_pos a1]
    simp only [packGo]
    rw [if_pos a2]
    have e1 : (2 * (4 : Int) - 4).toNat = 4 := by decide
    have e2 : ((4 : Int) - 2).toNat = 2 := by decide
    rw [e1, e2, enc4, enc2]
    rfl
  have h2 : unpackS 4 1 [0, 2] = ([], 0, 8) := by
    have a1 : askS 4 1 = 0 := by decide
    have a2 : readS (([0, 2] : List Int).drop 0) = (0, 1, 0) := by decide
    unfold unpackS
    rw [if_pos a1]
    show unpackGo 4 1 [0, 2] 0 [] = _
    simp only [unpackGo]
    rw [a2]
    simp
  have h3 := writes_true 5 (by decide) k (by omega)
  have h4 := writes_true 300 (by decide) k (by omega)
  rw [enc5] at h3
  rw [enc300] at h4
  have b02 : Bytes [0, 2] := by intro x hx; simp at hx; omega
  unfold spiritlevellaw09_alive.f
  rw [pack_eq _ _ k (by simp; omega), unpack_eq _ _ _ b02 (by simp) k (by simp; omega), h1, h2]
  simp only [Option.bind_some]
  have h3' : spiritlevellaw09_writes.f k 5 [5] = some true := h3
  have h4' : spiritlevellaw09_writes.f k 300 [172, 2] = some true := h4
  rw [h3']
  simp only [Option.bind_some, if_true]
  rw [h4']
  simp only [Option.bind_some, if_true]
  rw [if_pos (by rw [ByteArray.toList_eq]; decide)]
  rfl

/-! ### more bytes -/
theorem enc_init (n : Nat) : ∀ x ∈ (enc n).dropLast, 128 ≤ x := by
  induction n using Nat.strongRecOn with
  | _ n ih =>
    by_cases h : n < 128
    · simp [enc_small h]
    · rw [enc_big h, List.dropLast_cons_of_ne_nil (enc_ne _)]
      intro x hx
      rcases List.mem_cons.mp hx with rfl | hx
      · omega
      · exact ih (n / 128) (by omega) x hx

theorem enc_last (n : Nat) : (enc n).getLast (enc_ne n) < 128 := by
  induction n using Nat.strongRecOn with
  | _ n ih =>
    by_cases h : n < 128
    · simp [enc_small h]; omega
    · have := ih (n / 128) (by omega)
      simp only [enc_big h]
      rw [List.getLast_cons (enc_ne _)]
      exact this

theorem enc_mono (m : Nat) : ∀ n, n ≤ m → (enc n).length ≤ (enc m).length := by
  induction m using Nat.strongRecOn with
  | _ m ih =>
    intro n hn
    by_cases h : n < 128
    · rw [enc_small h]
      have := List.length_pos_iff.mpr (enc_ne m)
      simp only [List.length_cons, List.length_nil]; omega
    · have := ih (m / 128) (by omega) (n / 128) (by omega)
      rw [enc_big h, enc_big (by omega : ¬ m < 128)]
      simpa using this

theorem readGo_none (l : List Int) : ∀ (i : Nat) (acc : Int), (∀ x ∈ l, 128 ≤ x) → l.length + i < 5 → readGo i acc l = (0, 0, 6) := by
  induction l with
  | nil =>
    intro i acc _ h
    simp only [readGo]
    rw [if_pos (by simpa using h)]
  | cons c r ih =>
    intro i acc hx h
    have hc := hx c List.mem_cons_self
    simp only [List.length_cons] at h
    simp only [readGo]
    rw [if_neg (by omega), if_pos hc, ih (i + 1) _ (fun x hx' => hx x (List.mem_cons_of_mem _ hx')) (by omega)]

theorem readS_init (n : Nat) (h : n ≤ 2147483647) : readS (enc n).dropLast = (0, 0, 6) := by
  have hl := enc_len5 n h
  have hp := List.length_pos_iff.mpr (enc_ne n)
  exact readGo_none _ 0 0 (enc_init n) (by rw [List.length_dropLast]; omega)

/-! ### gates -/
/-- The bytes of gates that are right. -/
def bytesG (v : Int) : List Gate → List Int
  | [] => []
  | g :: r => enc (2 * v - g.f0).toNat ++ enc (g.f0 - g.f1).toNat ++ bytesG (v + 1) r

theorem packGo_right (l : List Gate) : ∀ (v : Int) (acc : List Int), Rights v l → packGo v l acc = (acc ++ bytesG v l, 0) := by
  induction l with
  | nil => intro v acc _; simp [packGo, bytesG]
  | cons g r ih =>
    intro v acc h
    simp only [packGo]
    rw [if_pos h.1, ih _ _ h.2]
    simp [bytesG]

theorem bytesG_append (l1 : List Gate) : ∀ (v : Int) (l2 : List Gate), bytesG v (l1 ++ l2) = bytesG v l1 ++ bytesG (v + l1.length) l2 := by
  induction l1 with
  | nil => intro v l2; simp [bytesG]
  | cons g r ih =>
    intro v l2
    have : v + 1 + (r.length : Int) = v + ((g :: r).length : Int) := by simp only [List.length_cons]; omega
    simp only [List.cons_append, bytesG, ih, this, List.append_assoc]

theorem rights_append (l1 : List Gate) : ∀ (v : Int) (l2 : List Gate), Rights v (l1 ++ l2) ↔ Rights v l1 ∧ Rights (v + l1.length) l2 := by
  induction l1 with
  | nil => intro v l2; simp [Rights]
  | cons g r ih =>
    intro v l2
    have : v + 1 + (r.length : Int) = v + ((g :: r).length : Int) := by simp only [List.length_cons]; omega
    simp only [List.cons_append, Rights, ih, this, and_assoc]

theorem bytesG_bytes (l : List Gate) : ∀ v, Bytes (bytesG v l) := by
  induction l with
  | nil => intro v x hx; simp [bytesG] at hx
  | cons g r ih =>
    intro v x hx
    simp only [bytesG, List.mem_append] at hx
    rcases hx with (hx | hx) | hx
    · exact enc_byte _ x hx
    · exact enc_byte _ x hx
    · exact ih _ x hx

theorem bytesG_len (l : List Gate) : ∀ v : Int, 0 ≤ v → v + l.length ≤ 1000000 → Rights v l → (bytesG v l).length ≤ 10 * l.length := by
  induction l with
  | nil => intro v _ _ _; simp [bytesG]
  | cons g r ih =>
    intro v hv0 hv h
    simp only [List.length_cons] at hv
    have := ih (v + 1) (by omega) (by omega) h.2
    obtain ⟨r1, r2, r3⟩ := h.1
    have l1 := enc_len5 (2 * v - g.f0).toNat (by omega)
    have l2 := enc_len5 (g.f0 - g.f1).toNat (by omega)
    simp only [bytesG, List.length_append, List.length_cons]
    omega

/-- Gates that are packed are unpacked, whatever stands before and behind their bytes. -/
theorem unpackGo_pack (rest : List Int) (l : List Gate) : ∀ (v : Int) (pre : List Int) (acc : List Gate), 0 ≤ v → v + l.length ≤ 1000000 → Rights v l →
    unpackGo v l.length (pre ++ bytesG v l ++ rest) pre.length acc = (acc ++ l, ((pre.length + (bytesG v l).length : Nat) : Int), 0) := by
  induction l with
  | nil => intro v pre acc _ _ _; simp [unpackGo, bytesG]
  | cons g r ih =>
    intro v pre acc hv0 hv h
    obtain ⟨⟨r1, r2, r3⟩, hr⟩ := h
    simp only [List.length_cons] at hv
    have d1 : (pre ++ bytesG v (g :: r) ++ rest).drop pre.length = enc (2 * v - g.f0).toNat ++ (enc (g.f0 - g.f1).toNat ++ bytesG (v + 1) r ++ rest) := by
      simp [bytesG]
    have s1 := readS_enc (2 * v - g.f0).toNat (by omega) (enc (g.f0 - g.f1).toNat ++ bytesG (v + 1) r ++ rest)
    have d2 : (pre ++ bytesG v (g :: r) ++ rest).drop (pre.length + (enc (2 * v - g.f0).toNat).length) = enc (g.f0 - g.f1).toNat ++ (bytesG (v + 1) r ++ rest) := by
      rw [← List.drop_drop, d1]; simp
    have s2 := readS_enc (g.f0 - g.f1).toNat (by omega) (bytesG (v + 1) r ++ rest)
    rw [← d1] at s1
    rw [← d2] at s2
    simp only [List.length_cons, unpackGo]
    rw [s1]
    simp only [Int.toNat_natCast]
    rw [s2]
    simp only [Int.toNat_natCast, if_true]
    have t1 : ((2 * v - g.f0).toNat : Int) = 2 * v - g.f0 := Int.toNat_of_nonneg (by omega)
    have t2 : ((g.f0 - g.f1).toNat : Int) = g.f0 - g.f1 := Int.toNat_of_nonneg (by omega)
    rw [t1, t2, if_neg (by omega), if_neg (by omega)]
    have t3 : 2 * v - (2 * v - g.f0) = g.f0 := by omega
    have t4 : g.f0 - (g.f0 - g.f1) = g.f1 := by omega
    rw [t3, t4]
    have hpre : pre ++ bytesG v (g :: r) ++ rest = (pre ++ enc (2 * v - g.f0).toNat ++ enc (g.f0 - g.f1).toNat) ++ bytesG (v + 1) r ++ rest := by
      simp [bytesG]
    have hlen : pre.length + (enc (2 * v - g.f0).toNat).length + (enc (g.f0 - g.f1).toNat).length = (pre ++ enc (2 * v - g.f0).toNat ++ enc (g.f0 - g.f1).toNat).length := by
      simp only [List.length_append]
    rw [hpre, hlen, ih (v + 1) _ _ (by omega) (by omega) hr]
    have hb : (bytesG v (g :: r)).length = (enc (2 * v - g.f0).toNat).length + (enc (g.f0 - g.f1).toNat).length + (bytesG (v + 1) r).length := by
      simp [bytesG]; omega
    rw [hb, ← hlen]
    refine Prod.ext ?_ (Prod.ext ?_ rfl)
    · simp
    · simp only; omega

/-- What is unpacked is right, and has just the bytes of which it is. -/
theorem unpackGo_right (b : List Int) (hb : Bytes b) (n : Nat) : ∀ (v : Int) (at_ : Nat) (acc : List Gate), at_ ≤ b.length → (unpackGo v n b at_ acc).2.2 = 0 →
    ∃ (l : List Gate) (s : Nat), unpackGo v n b at_ acc = (acc ++ l, (s : Int), 0) ∧ l.length = n ∧ Rights v l ∧ at_ ≤ s ∧ s ≤ b.length ∧ bytesG v l = (b.drop at_).take (s - at_) := by
  induction n with
  | zero => intro v at_ acc hat _; exact ⟨[], at_, by simp [unpackGo], rfl, trivial, Nat.le_refl _, hat, by simp [bytesG]⟩
  | succ n ih =>
    intro v at_ acc hat h
    simp only [unpackGo] at h ⊢
    have hr := readS_range (b.drop at_)
    have he := enc_readS (b.drop at_) (bytes_drop hb _)
    generalize readS (b.drop at_) = p at hr he h ⊢
    obtain ⟨a, s, e⟩ := p
    simp only [List.length_drop] at hr he h ⊢
    by_cases z1 : e = 0
    · rw [if_pos z1] at h ⊢
      have hr1 : 0 ≤ a ∧ 0 < s ∧ s ≤ ((b.length - at_ : Nat) : Int) := by
        rcases hr with ⟨_, q1, q2, q3, q4, _⟩ | ⟨_, _, q3⟩
        · exact ⟨q1, q3, q4⟩
        · exact absurd z1 (by omega)
      obtain ⟨q1, q3, q4⟩ := hr1
      obtain ⟨s, rfl⟩ := Int.eq_ofNat_of_zero_le (Int.le_of_lt q3)
      have he1 := he z1
      rw [Int.toNat_natCast] at he1 h ⊢
      by_cases z2 : 2 * v < a ∨ a = 0
      · rw [if_pos z2] at h; simp at h
      · rw [if_neg z2] at h ⊢
        have hr := readS_range (b.drop (at_ + s))
        have he := enc_readS (b.drop (at_ + s)) (bytes_drop hb _)
        generalize readS (b.drop (at_ + s)) = q at hr he h ⊢
        obtain ⟨c, s2, e'⟩ := q
        simp only [List.length_drop] at hr he h ⊢
        by_cases z4 : e' = 0
        · rw [if_pos z4] at h ⊢
          have hr1 : 0 ≤ c ∧ 0 < s2 ∧ s2 ≤ ((b.length - (at_ + s) : Nat) : Int) := by
            rcases hr with ⟨_, q1, q2, q3, q4, _⟩ | ⟨_, _, q3⟩
            · exact ⟨q1, q3, q4⟩
            · exact absurd z4 (by omega)
          obtain ⟨w1, w3, w4⟩ := hr1
          obtain ⟨s2, rfl⟩ := Int.eq_ofNat_of_zero_le (Int.le_of_lt w3)
          have he2 := he z4
          rw [Int.toNat_natCast] at he2 h ⊢
          by_cases z5 : 2 * v - a < c
          · rw [if_pos z5] at h; simp at h
          · rw [if_neg z5] at h ⊢
            obtain ⟨l, s3, g1, g2, g3, g4, g5, g6⟩ := ih (v + 1) (at_ + s + s2) _ (by omega) h
            refine ⟨⟨2 * v - a, 2 * v - a - c⟩ :: l, s3, ?_, by simp [g2], ⟨⟨?_, ?_, ?_⟩, g3⟩, by omega, g5, ?_⟩
            · rw [g1]; simp
            · dsimp only; omega
            · dsimp only; omega
            · dsimp only; omega
            · have t1 : 2 * v - (2 * v - a) = a := by omega
              have t2 : 2 * v - a - (2 * v - a - c) = c := by omega
              simp only [bytesG, t1, t2]
              rw [he1, he2, g6]
              have t3 : s3 - at_ = s + (s2 + (s3 - (at_ + s + s2))) := by omega
              rw [t3, List.take_add, List.take_add, List.drop_drop, List.drop_drop, List.append_assoc]
        · rw [if_neg z4] at h; exact absurd h z4
    · rw [if_neg z1] at h; exact absurd h z1

theorem unpackGo_bad (b : List Int) (n : Nat) : ∀ (v : Int) (at_ : Nat) (acc : List Gate), ¬ (unpackGo v n b at_ acc).2.2 = 0 → (unpackGo v n b at_ acc).1 = [] ∧ (unpackGo v n b at_ acc).2.1 = 0 := by
  induction n with
  | zero => intro v at_ acc h; simp [unpackGo] at h
  | succ n ih =>
    intro v at_ acc h
    simp only [unpackGo] at h ⊢
    by_cases z1 : (readS (b.drop at_)).2.2 = 0
    · rw [if_pos z1] at h ⊢
      by_cases z2 : 2 * v < (readS (b.drop at_)).1 ∨ (readS (b.drop at_)).1 = 0
      · rw [if_pos z2]; exact ⟨rfl, rfl⟩
      · rw [if_neg z2] at h ⊢
        by_cases z3 : (readS (b.drop (at_ + (readS (b.drop at_)).2.1.toNat))).2.2 = 0
        · rw [if_pos z3] at h ⊢
          by_cases z4 : 2 * v - (readS (b.drop at_)).1 < (readS (b.drop (at_ + (readS (b.drop at_)).2.1.toNat))).1
          · rw [if_pos z4]; exact ⟨rfl, rfl⟩
          · rw [if_neg z4] at h ⊢
            exact ih _ _ _ h
        · rw [if_neg z3]; exact ⟨rfl, rfl⟩
    · rw [if_neg z1]; exact ⟨rfl, rfl⟩

end Go.Proofs.Ytamapbbfabkglaa.P
