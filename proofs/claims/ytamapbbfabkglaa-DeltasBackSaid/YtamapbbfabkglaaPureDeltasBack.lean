/- Gates that are packed are unpacked, whatever stands behind their bytes, and each part of them from their own variable on. -/
import Derived.Test.YtamapbbfabkglaaLem
import Derived.Test.YtamapbbfabkglaaFLaw09DeltasBack
namespace Go.Proofs.Ytamapbbfabkglaa.Pure
open Go.RowKit Go.Proofs.Ytamapbbfabkglaa.P Go.Proofs.YtamapbbfabkglaaW.PrintWords Go.Proofs.YtamapbbfabkglaaW.PrintLast Go.Proofs.YtamapbbfabkglaaW.PrintMore Go.Proofs.YtamapbbfabkglaaE

theorem strOf_append (a b : List Int) : (strOfNums a ++ strOfNums b).toList = (strOfNums (a ++ b)).toList := by
  rw [ByteArray.toList_eq, ByteArray.toList_eq, ByteArray.data_append]
  simp [strOfNums]

theorem back_pure (v : Int) (l : List Gate) (b : List Int) (cut : Int) (hb : Bytes b) : ∃ k, spiritlevellaw09_DeltasBack.f k v l b cut = some true := by
  refine ⟨l.length + b.length + 3000004, ?_⟩
  generalize hk : l.length + b.length + 3000004 = k
  have k1 : l.length + 3000000 < k := by omega
  have k2 : b.length + 3000000 < k := by omega
  clear hk
  obtain ⟨k, rfl⟩ : ∃ m, k = m + 1 := ⟨k - 1, by omega⟩
  have hal : ∀ m, 20000 < m → ((spiritlevellaw09_alive.f m).bind fun t => some t) = some true := fun m hm => by rw [alive_true m hm]; rfl
  have hj : spiritlevellaw09_DeltasBack.j0 (k + 1) v l b cut true = some true := by
    simp only [spiritlevellaw09_DeltasBack.j0]
    rw [if_pos trivial]
    exact hal k (by omega)
  unfold spiritlevellaw09_DeltasBack.f
  by_cases c1 : (l.length : Int) > 150
  · rw [if_pos c1]; exact hj
  · rw [if_neg c1]
    by_cases c2 : (b.length : Int) > 100
    · rw [if_pos c2]; exact hj
    · rw [if_neg c2, asked_eq v l.length (k + 1) (by omega), Option.bind_some]
      by_cases ha : askS v l.length = 0
      · rw [if_pos ha]
        obtain ⟨a1, a2, _, a4⟩ := askS_zero ha
        replace ha := Aside0.mk ha
        rw [lawRight_eq v l (by omega) (by omega) (k + 1) (by omega), Option.bind_some]
        by_cases hr : Rights v l
        · rw [decide_eq_true hr, Bool.not_true]
          have hp : packS v l = (bytesG v l, 0) := by
            unfold packS
            rw [if_pos ha.out, packGo_right l v [] hr, List.nil_append]
          have hlen := bytesG_len l v (by omega) (by omega) hr
          have hu : unpackS v l.length (bytesG v l ++ b) = (l, ((bytesG v l).length : Int), 0) := by
            unfold unpackS
            rw [if_pos ha.out, Int.toNat_natCast]
            have := unpackGo_pack b l v [] [] (by omega) (by omega) hr
            simpa using this
          have hB : Bytes (bytesG v l ++ b) := by
            intro x hx
            rcases List.mem_append.mp hx with hx | hx
            · exact bytesG_bytes l v x hx
            · exact hb x hx
          obtain ⟨k, rfl⟩ : ∃ m, k = m + 1 := ⟨k - 1, by omega⟩
          have t1 : (bytesG v l).length < 140737488355328 := by omega
          have t2 : (bytesG v l).length + b.length < 140737488355328 := by omega
          have t3 : (bytesG v l ++ b).length ≤ 1000000 := by rw [List.length_append]; omega
          have t4 : (bytesG v l ++ b).length + 10000 < k + 1 := by rw [List.length_append]; omega
          simp only [spiritlevellaw09_DeltasBack.j0]
          rw [if_neg (by decide), pack_eq v l (k + 1) (by omega), hp]
          simp only [Option.bind_some, List.nil_append, List.length_nil, Nat.zero_add]
          rw [if_pos t1, if_pos t2, unpack_eq v l.length _ hB t3 (k + 1) t4, hu]
          simp only [Option.bind_some]
          rw [if_pos trivial, if_pos trivial, if_pos trivial, same_eq l (by omega) (k + 1) (by omega), Option.bind_some, Bool.not_true]
          simp only [spiritlevellaw09_DeltasBack.j1]
          rw [if_neg (by decide)]
          obtain ⟨k, rfl⟩ : ∃ m, k = m + 1 := ⟨k - 1, by omega⟩
          have hj2 : spiritlevellaw09_DeltasBack.j2 (k + 1) v l cut (bytesG v l) true = some true := by
            simp only [spiritlevellaw09_DeltasBack.j2]
            rw [if_pos trivial]
            exact hal k (by omega)
          by_cases d1 : cut < 0
          · rw [if_pos d1]; exact hj2
          · rw [if_neg d1]
            by_cases d2 : cut ≥ (l.length : Int)
            · rw [decide_eq_true d2]; exact hj2
            · rw [decide_eq_false d2]
              obtain ⟨c, rfl⟩ := Int.eq_ofNat_of_zero_le (show 0 ≤ cut by omega)
              have b1 : v + (c : Int) = v + c ∧ -5000000000 ≤ v + (c : Int) ∧ v + (c : Int) ≤ 4000000000 := by omega
              have hsplit := rights_append (l.take c) v (l.drop c)
              have hbs := bytesG_append (l.take c) v (l.drop c)
              have hlt : (l.take c).length = c := by rw [List.length_take]; omega
              have hld : (l.drop c).length = l.length - c := List.length_drop
              rw [List.take_append_drop, hlt] at hsplit hbs
              have hrs := hsplit.1 hr
              have ha1 : askS v ((l.take c).length : Int) = 0 := by
                unfold askS; rw [hlt, if_neg (by omega), if_neg (by omega)]
              have ha2 : askS (v + (c : Int)) ((l.drop c).length : Int) = 0 := by
                unfold askS; rw [hld, if_neg (by omega), if_neg (by omega)]
              have hp1 : packS v (l.take c) = (bytesG v (l.take c), 0) := by
                unfold packS
                rw [if_pos ha1, packGo_right _ v [] hrs.1, List.nil_append]
              have hp2 : packS (v + (c : Int)) (l.drop c) = (bytesG (v + (c : Int)) (l.drop c), 0) := by
                unfold packS
                rw [if_pos ha2, packGo_right _ _ [] hrs.2, List.nil_append]
              have hl1 := bytesG_len (l.take c) v (by omega) (by omega) hrs.1
              have hl2 := bytesG_len (l.drop c) (v + (c : Int)) (by omega) (by omega) hrs.2
              have t5 : (bytesG v (l.take c)).length + (bytesG (v + (c : Int)) (l.drop c)).length ≤ 9223372036854775807 := by omega
              have t6 : (c : Int) ≤ (l.length : Int) := by omega
              have t7 : (l.take c).length + 4000 < k := by omega
              have t8 : (l.drop c).length + 4000 < k := by omega
              simp only [spiritlevellaw09_DeltasBack.j2]
              rw [if_neg (by decide), if_pos (Int.natCast_nonneg _), if_pos t6, Int.toNat_natCast, ws b1, pack_eq v _ k t7, hp1, pack_eq _ _ k t8, hp2]
              simp only [Option.bind_some]
              rw [if_pos trivial, if_pos trivial, strOfNums_size, strOfNums_size, if_pos t5, strOf_append, ← hbs, if_pos rfl]
              exact hal k (by omega)
        · rw [decide_eq_false hr, Bool.not_false]
          exact hj
      · rw [if_neg ha]; exact hj

theorem DeltasBack (v : Int) (l : List Gate) (b : List Int) (cut : Int) {p q r : Prop} (_ : p) (_ : q) (h : b.length ≤ maxLen ∧ ∀ x ∈ b, (fun n => (Lit.int .u8 n).wf = true) x) (_ : r) : ∃ k, spiritlevellaw09_DeltasBack.f k v l b cut = some true :=
  back_pure v l b cut (bytes_wf h.2)

end Go.Proofs.Ytamapbbfabkglaa.Pure
