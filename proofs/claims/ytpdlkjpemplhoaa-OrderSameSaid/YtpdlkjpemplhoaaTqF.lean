/- Texts of one claim, packed: part 6 of 6 -/
import Derived.Test.YtpdlkjpemplhoaaTqE
import Derived.Deep.Slices
import Derived.ProofKit
import Derived.OpenShut
import Derived.ShutString
import Derived.Below
import Derived.Test.YtpdlkjpemplhoaaRows
import Derived.WalkKit
import Derived.ChangeOld
import Derived.SizedLaws
namespace Go.Proofs.Ytpdlkjpemplhoaa.P
open Go.RowKit Go.Proofs.YtpdlkjpemplhoaaW.PrintWords Go.Proofs.YtpdlkjpemplhoaaW.PrintLast Go.Proofs.YtpdlkjpemplhoaaW.PrintMore
set_option linter.unusedVariables false
set_option linter.unusedSimpArgs false
def told (g : List Int) (x : Int) : Int := 2 * gt g (varN x) + x % 2
def cirSv (g : List Int) (l1 : List Int) (l2 l3 : List S56) (l4 l5 : List Int) (s : List Nat) : Int × List S61 × List S59 × List Int × List Int × List Int × Int :=
  ((l1.length : Int), l2.map (fun d => ⟨told g d.f1, d.f2⟩), s.map (fun i : Nat => ⟨mx (told g (rd_T56 l3 (i : Int)).f1) (told g (rd_T56 l3 (i : Int)).f2), mn (told g (rd_T56 l3 (i : Int)).f1) (told g (rd_T56 l3 (i : Int)).f2)⟩), l4.map (told g), l5.map (told g), g, 0)
theorem ord_lt (ands : List S56) (f : Nat) : ∀ done : List Nat, (∀ i ∈ done, i < ands.length) → ∀ i ∈ ordS ands f done, i < ands.length := by
  induction f with
  | zero => intro done h; exact h
  | succ f ih =>
    intro done h
    unfold ordS
    split
    · exact h
    · rename_i i hf
      have := List.mem_of_find?_eq_some hf
      exact ih _ (fun j hj => by
        rcases List.mem_append.1 hj with hj | hj
        · exact h j hj
        · rw [List.mem_singleton.1 hj]; exact List.mem_range.1 this)
theorem ord_le (ands : List S56) (f : Nat) : ∀ done : List Nat, (ordS ands f done).length ≤ done.length + f := by
  induction f with
  | zero => intro done; exact Nat.le_refl _
  | succ f ih =>
    intro done
    unfold ordS
    split
    · omega
    · have := ih (done ++ [‹Nat›])
      rw [List.length_append] at this
      simp at this
      omega
section
variable {m : Nat} {g : List Int}
theorem told_prog (hm : m ≤ 1000) (hg : g.length = m + 1) (hb : ∀ u, u < g.length → -1 ≤ gt g u ∧ gt g u ≤ 10000) {x : Int} (hx : 0 ≤ x ∧ x ≤ 2 * (m : Int) + 1) : toldL g x = some (told g x) := by
  have hq : x / 2 = (varN x : Int) := by unfold varN; omega
  have := hb (varN x) (by omega)
  unfold toldL told
  rw [hq, rd_gt g (varN x), if_pos ⟨hx.1, by omega, by omega, by omega, by omega⟩]
theorem mapO_some {α β : Type} (f : α → Option β) (h : α → β) (l : List α) (hf : ∀ x ∈ l, f x = some (h x)) : mapO f l = some (l.map h) := by
  induction l with
  | nil => rfl
  | cons a t ih =>
    simp only [mapO, List.map_cons]
    rw [hf a List.mem_cons_self, ih (fun x hx => hf x (List.mem_cons_of_mem _ hx))]; rfl
section
variable {l1 : List Int} {l2 l3 : List S56} {l4 l5 : List Int} {s : List Nat}
theorem num_bd (hN : Num (m : Int) l1 l2 l3 l4 l5) (hs : s.length ≤ 1000) (hi : ∀ i ∈ s, i < l3.length) : ∀ u, u < (numW (varsN l1 l2 l3 s) 1 (numS m)).length → -1 ≤ gt (numW (varsN l1 l2 l3 s) 1 (numS m)) u ∧ gt (numW (varsN l1 l2 l3 s) 1 (numS m)) u ≤ 10000 := by
  have hl := hN.len
  have ho3 : ∀ d ∈ l3, 2 ≤ d.f0 ∧ d.f0 ≤ 2 * (m : Int) + 1 := fun d hd => by
    have := hN.own d.f0 (by unfold ownL; exact List.mem_append_right _ (List.mem_map_of_mem hd)); omega
  have hg : (numW (varsN l1 l2 l3 s) 1 (numS m)).length = m + 1 := by rw [numW_len, numS_len]
  intro u hu
  rw [hg] at hu
  refine numW_bd 10000 _ 1 (numS m) (fun u hu => ?_) (by unfold varsN; simp; omega) (fun v hv => ?_) u (by rw [numS_len]; omega)
  · rw [numS_len] at hu
    rw [numS_gt _ _ (by omega)]; split <;> omega
  · rw [numS_len]
    unfold varsN at hv
    rcases List.mem_append.1 hv with hv | hv
    · rcases List.mem_append.1 hv with hv | hv
      · obtain ⟨x, hx, rfl⟩ := List.mem_map.1 hv
        have := hN.own x (by unfold ownL; exact List.mem_append_left _ (List.mem_append_left _ hx))
        unfold varN; omega
      · obtain ⟨d, hd, rfl⟩ := List.mem_map.1 hv
        have := hN.own d.f0 (by unfold ownL; exact List.mem_append_left _ (List.mem_append_right _ (List.mem_map_of_mem hd)))
        unfold varN; omega
    · obtain ⟨i, hi', rfl⟩ := List.mem_map.1 hv
      have := ho3 _ (rdT_mem (hi i hi'))
      unfold vr vrD; omega
theorem make_eq (hN : Num (m : Int) l1 l2 l3 l4 l5) (hs : s.length ≤ 1000) (hi : ∀ i ∈ s, i < l3.length) :
    cirMake (m : Int) l1 l2 l3 l4 l5 (s.map (fun k : Nat => (k : Int))) (ownL l1 l2 l3) = some (cirSv (numW (varsN l1 l2 l3 s) 1 (numS m)) l1 l2 l3 l4 l5 s) := by
  have hm : m ≤ 1000 := by have := hN.m; omega
  have hl := hN.len
  have h4 := hN.l4
  have h5 := hN.l5
  have ho3 : ∀ d ∈ l3, 2 ≤ d.f0 ∧ d.f0 ≤ 2 * (m : Int) + 1 := fun d hd => by
    have := hN.own d.f0 (by unfold ownL; exact List.mem_append_right _ (List.mem_map_of_mem hd)); omega
  have hol : (ownL l1 l2 l3).length = l1.length + l2.length + l3.length := by simp [ownL]; omega
  have htk : (ownL l1 l2 l3).take (l1.length + l2.length) = l1 ++ l2.map (fun d => d.f0) := by
    unfold ownL
    rw [List.take_append_of_le_length (by simp), List.take_of_length_le (by simp)]
  unfold cirMake
  rw [if_pos ⟨by omega, by omega, by omega, by rw [List.length_map]; omega, by omega, by omega⟩, show ((m : Int) + 1).toNat = m + 1 by omega, htk]
  have hg0 : (List.replicate (m + 1) (-1 : Int)).set 0 0 = numS m := rfl
  rw [hg0, show (0 : Int) = ((0 : Nat) : Int) from rfl, own_num (l1 ++ l2.map (fun d => d.f0)) 0 (numS m) (fun x hx => by
    have := hN.own x (by unfold ownL; exact List.mem_append_left _ hx)
    rw [numS_len]; unfold varN; omega) (by simp; omega), Option.bind_some, gates_num l3 s _ _ (fun i hi' => by
      have := ho3 _ (rdT_mem (hi i hi'))
      have := hi i hi'
      rw [numW_len, numS_len]; unfold vr vrD; omega) (by simp; omega), Option.bind_some]
  have hv : numW (s.map (vr l3)) (0 + (l1 ++ l2.map (fun d => d.f0)).length + 1) (numW ((l1 ++ l2.map (fun d => d.f0)).map varN) (0 + 1) (numS m)) = numW (varsN l1 l2 l3 s) 1 (numS m) := by
    unfold varsN
    rw [numW_append (l1.map varN ++ l2.map (fun d => varN d.f0))]
    simp only [List.map_append, List.map_map, List.length_append, List.length_map, Nat.zero_add]
    rw [show l1.length + l2.length + 1 = 1 + (l1.length + l2.length) by omega]
    rfl
  simp only [hv]
  have hg : (numW (varsN l1 l2 l3 s) 1 (numS m)).length = m + 1 := by rw [numW_len, numS_len]
  have hb := num_bd hN hs hi
  generalize numW (varsN l1 l2 l3 s) 1 (numS m) = g at hg hb ⊢
  have ht : ∀ x, (0 ≤ x ∧ x ≤ 2 * (m : Int) + 1) → toldL g x = some (told g x) := fun x hx => told_prog hm hg hb hx
  have hu4 : ∀ x ∈ l4, 0 ≤ x ∧ x ≤ 2 * (m : Int) + 1 := fun x hx => hN.use x (by unfold useL; exact List.mem_append_left _ (List.mem_append_left _ (List.mem_append_left _ hx)))
  have hu5 : ∀ x ∈ l5, 0 ≤ x ∧ x ≤ 2 * (m : Int) + 1 := fun x hx => hN.use x (by unfold useL; exact List.mem_append_left _ (List.mem_append_left _ (List.mem_append_right _ hx)))
  have hu2 : ∀ d ∈ l2, 0 ≤ d.f1 ∧ d.f1 ≤ 2 * (m : Int) + 1 := fun d hd => hN.use d.f1 (by unfold useL; exact List.mem_append_left _ (List.mem_append_right _ (List.mem_map_of_mem hd)))
  have hu3 : ∀ d ∈ l3, (0 ≤ d.f1 ∧ d.f1 ≤ 2 * (m : Int) + 1) ∧ (0 ≤ d.f2 ∧ d.f2 ≤ 2 * (m : Int) + 1) := fun d hd => ⟨hN.use d.f1 (by unfold useL; exact List.mem_append_right _ (List.mem_flatMap.2 ⟨d, hd, by simp⟩)), hN.use d.f2 (by unfold useL; exact List.mem_append_right _ (List.mem_flatMap.2 ⟨d, hd, by simp⟩))⟩
  have m2 : mapO (latT g) l2 = some (l2.map (fun d => ⟨told g d.f1, d.f2⟩)) := mapO_some _ _ _ (fun d hd => by
    unfold latT; rw [ht _ (hu2 d hd), Option.bind_some])
  have m3 : mapO (andT g l3) (s.map (fun k : Nat => (k : Int))) = some ((s.map (fun k : Nat => (k : Int))).map (fun i : Int => ⟨mx (told g (rd_T56 l3 i).f1) (told g (rd_T56 l3 i).f2), mn (told g (rd_T56 l3 i).f1) (told g (rd_T56 l3 i).f2)⟩)) := mapO_some _ _ _ (fun i hi' => by
    obtain ⟨q, hq, rfl⟩ := List.mem_map.1 hi'
    have hq' := hi q hq
    have := hu3 _ (rdT_mem hq')
    unfold andT
    rw [if_pos (by omega), ht _ this.1, Option.bind_some, ht _ this.2, Option.bind_some]
    unfold mx mn
    generalize told g (rd_T56 l3 (q : Int)).f1 = a
    generalize told g (rd_T56 l3 (q : Int)).f2 = b
    congr 2
    split <;> split <;> omega)
  have m4 : mapO (toldL g) l4 = some (l4.map (told g)) := mapO_some _ _ _ (fun x hx => ht x (hu4 x hx))
  have m5 : mapO (toldL g) l5 = some (l5.map (told g)) := mapO_some _ _ _ (fun x hx => ht x (hu5 x hx))
  rw [m2, m3, m4, m5]
  simp only [Option.bind_some]
  unfold cirSv
  rw [List.map_map]
  rfl
end
end
end Go.Proofs.Ytpdlkjpemplhoaa.P
namespace Go.Proofs.Ytpdlkjpemplhoaa.P
open Go.RowKit Go.Proofs.YtpdlkjpemplhoaaW.PrintWords Go.Proofs.YtpdlkjpemplhoaaW.PrintLast Go.Proofs.YtpdlkjpemplhoaaW.PrintMore
set_option linter.unusedVariables false
set_option linter.unusedSimpArgs false
def circS (most : Int) (l1 : List Int) (l2 l3 : List S56) (l4 l5 : List Int) : Int × List S61 × List S59 × List Int × List Int × List Int × Int :=
  if chkS most l1 l2 l3 l4 l5 = 0 then cirSv (numW (varsN l1 l2 l3 (ordS l3 l3.length [])) 1 (numS most.toNat)) l1 l2 l3 l4 l5 (ordS l3 l3.length []) else (0, [], [], [], [], [], chkS most l1 l2 l3 l4 l5)
section
variable {most : Int} {l1 : List Int} {l2 l3 : List S56} {l4 l5 : List Int}
theorem chkS_zero (h : chkS most l1 l2 l3 l4 l5 = 0) : Num most l1 l2 l3 l4 l5 ∧ ((ownL l1 l2 l3).map varN).Nodup ∧ l3.length ≤ (ordS l3 l3.length []).length := by
  unfold chkS at h
  by_cases c0 : most < 0
  · rw [if_pos c0] at h; cases h
  rw [if_neg c0] at h
  by_cases c1 : manyP most l1 l2 l3 l4 l5
  · rw [if_pos c1] at h; cases h
  rw [if_neg c1] at h
  by_cases c2 : badAny most l1 l2 l3 l4 l5 = true
  · rw [if_pos c2] at h; cases h
  rw [if_neg c2] at h
  refine ⟨num_of c0 c1 c2, ?_⟩
  unfold chkVal at h
  by_cases d0 : ¬ ((ownL l1 l2 l3).map varN).Nodup
  · rw [if_pos d0] at h; cases h
  rw [if_neg d0] at h
  by_cases d1 : (useL l2 l3 l4 l5).any (loose (ownL l1 l2 l3)) = true
  · rw [if_pos d1] at h; cases h
  rw [if_neg d1] at h
  by_cases d2 : (ordS l3 l3.length []).length < l3.length
  · rw [if_pos d2] at h; cases h
  exact ⟨Decidable.not_not.1 d0, by omega⟩
theorem num_ok {m : Nat} (hN : Num (m : Int) l1 l2 l3 l4 l5) (hn : ((ownL l1 l2 l3).map varN).Nodup) : Ok m l3 := by
  have hm := hN.m
  have hl := hN.len
  exact ok_of (by omega) (by omega) (fun x hx => ⟨(hN.own x hx).1, (hN.own x hx).2.1⟩) hN.use l1 l2 l4 l5 rfl rfl hn
theorem ord_bd (l3 : List S56) : ∀ i ∈ ordS l3 l3.length [], i < l3.length := ord_lt l3 l3.length [] (fun i hi => by cases hi)
theorem ord_len (l3 : List S56) : (ordS l3 l3.length []).length ≤ l3.length := by
  have := ord_le l3 l3.length []
  simpa using this
theorem prog_cir (h1 : l1.length ≤ 2000) (h2 : l2.length ≤ 2000) (h3 : l3.length ≤ 2000) (h4 : l4.length ≤ 2000) (h5 : l5.length ≤ 2000) (ho : ∀ x ∈ ownL l1 l2 l3, I64 x) (hu : ∀ x ∈ useL l2 l3 l4 l5, I64 x) :
    order_Circuit.f most l1 l2 l3 l4 l5 = some (circS most l1 l2 l3 l4 l5) := by
  unfold order_Circuit.f circS
  rw [prog_chk h1 h2 h3 h4 h5 ho hu, Option.bind_some]
  by_cases c : chkS most l1 l2 l3 l4 l5 = 0
  · rw [if_pos c, if_pos c]
    obtain ⟨hN, hn, -⟩ := chkS_zero c
    obtain ⟨m, rfl⟩ := Int.eq_ofNat_of_zero_le hN.m.1
    have hm := hN.m
    have hl := hN.len
    have hol := ord_len l3
    rw [if_pos ⟨by omega, by omega⟩, sorted_eq m l3 (num_ok hN hn), Option.bind_some, defined_eq (m : Int) l1 l2 l3 l4 l5 (by omega) (by omega) (by omega) _ (by omega), Option.bind_some, make_eq hN (by omega) (ord_bd l3), Int.toNat_natCast]
  · rw [if_neg c, if_neg c]
end
end Go.Proofs.Ytpdlkjpemplhoaa.P
namespace Go.Proofs.Ytpdlkjpemplhoaa.P
open Go.RowKit Go.Proofs.YtpdlkjpemplhoaaW.PrintWords Go.Proofs.YtpdlkjpemplhoaaW.PrintLast Go.Proofs.YtpdlkjpemplhoaaW.PrintMore
attribute [local go_sem] max2_int min2_int max_two min_two max_three min_three max_four min_four
set_option linter.unusedVariables false
set_option linter.unusedSimpArgs false
end Go.Proofs.Ytpdlkjpemplhoaa.P
namespace Go.Proofs.Ytpdlkjpemplhoaa.Pure
open Go.RowKit Go.Proofs.Ytpdlkjpemplhoaa.P Go.Proofs.YtpdlkjpemplhoaaW.PrintWords Go.Proofs.YtpdlkjpemplhoaaW.PrintLast Go.Proofs.YtpdlkjpemplhoaaW.PrintMore
set_option linter.unusedVariables false
set_option linter.unusedSimpArgs false
section
variable (n : Int) (a : List S61) (b : List S59) (c d : List Int)
theorem sameCir_l1 (hb : b.length ≤ 10000) (f : Nat) : ∀ (i k : Nat), b.length - i = f → i ≤ b.length → f < k → r2_Same.l1 k (i : Int) n a b c d n a b c d = some true := by
  induction f with
  | zero =>
    intro i k hd hi hk
    obtain ⟨k, rfl⟩ : ∃ q, k = q + 1 := ⟨k - 1, by omega⟩
    simp only [r2_Same.l1]
    rw [if_neg (by omega)]
  | succ f ih =>
    intro i k hd hi hk
    obtain ⟨k, rfl⟩ : ∃ q, k = q + 1 := ⟨k - 1, by omega⟩
    simp only [r2_Same.l1]
    rw [if_pos (by omega), if_pos (by omega), if_pos (by omega), if_neg (by simp), wi (by omega)]
    exact ih (i + 1) k (by omega) (by omega) (by omega)
theorem sameCir_l0 (ha : a.length ≤ 10000) (hb : b.length ≤ 10000) (f : Nat) : ∀ (i k : Nat), a.length - i = f → i ≤ a.length → f + b.length + 2 < k → r2_Same.l0 k (i : Int) n a b c d n a b c d = some true := by
  induction f with
  | zero =>
    intro i k hd hi hk
    obtain ⟨k, rfl⟩ : ∃ q, k = q + 1 := ⟨k - 1, by omega⟩
    simp only [r2_Same.l0]
    rw [if_neg (by omega)]
    exact sameCir_l1 n a b c d hb b.length 0 k (by omega) (by omega) (by omega)
  | succ f ih =>
    intro i k hd hi hk
    obtain ⟨k, rfl⟩ : ∃ q, k = q + 1 := ⟨k - 1, by omega⟩
    simp only [r2_Same.l0]
    rw [if_pos (by omega), if_pos (by omega), if_pos (by omega), if_neg (by simp), wi (by omega)]
    exact ih (i + 1) k (by omega) (by omega) (by omega)
theorem sameCir_eq (ha : a.length ≤ 10000) (hb : b.length ≤ 10000) (hc : c.length ≤ 10000) (hd : d.length ≤ 10000) (k : Nat) (hk : 100000 ≤ k) : r2_Same.f k n a b c d n a b c d = some true := by
  obtain ⟨k, rfl⟩ : ∃ q, k = q + 1 := ⟨k - 1, by omega⟩
  unfold r2_Same.f
  rw [if_pos rfl, if_pos rfl, if_pos rfl, sameInts_eq c (by omega) _ (by omega), Option.bind_some, if_pos rfl, sameInts_eq d (by omega) _ (by omega), Option.bind_some]
  simp only [r2_Same.j0]
  rw [if_neg (by simp)]
  exact sameCir_l0 n a b c d ha hb a.length 0 k (by omega) (by omega) (by omega)
end
section
variable (most : Int) (l1 : List Int) (l2 l3 : List S56) (l4 l5 : List Int)
end
end Go.Proofs.Ytpdlkjpemplhoaa.Pure
namespace Go.Proofs.Ytpdlkjpemplhoaa.P
open Go.RowKit Go.Proofs.YtpdlkjpemplhoaaW.PrintWords Go.Proofs.YtpdlkjpemplhoaaW.PrintLast Go.Proofs.YtpdlkjpemplhoaaW.PrintMore
set_option linter.unusedVariables false
set_option linter.unusedSimpArgs false
theorem rIn_get (d : Nat) : ∀ (x : Int) (i : Nat) (h : i < (rIn x d).length), (rIn x d)[i] = x + 2 * i := by
  induction d with
  | zero => intro x i h; exact absurd h (Nat.not_lt_zero i)
  | succ d ih =>
    intro x i h
    cases i with
    | zero => simp [rIn]
    | succ i =>
      simp only [rIn, List.getElem_cons_succ]
      rw [ih]; omega
theorem rLat_f0 (l : List S61) : ∀ x, (rLat x l).map (fun d => d.f0) = rIn x l.length := by
  induction l with
  | nil => intro x; rfl
  | cons g r ih => intro x; simp [rLat, rIn, ih]
theorem rAnd_f0 (l : List S59) : ∀ x, (rAnd x l).map (fun d => d.f0) = rIn x l.length := by
  induction l with
  | nil => intro x; rfl
  | cons g r ih => intro x; simp [rAnd, rIn, ih]
theorem rIn_append (d e : Nat) : ∀ x, rIn x (d + e) = rIn x d ++ rIn (x + 2 * d) e := by
  induction d with
  | zero => intro x; simp [rIn]
  | succ d ih =>
    intro x
    rw [show d + 1 + e = (d + e) + 1 by omega]
    simp only [rIn, List.cons_append]
    rw [ih, show x + 2 + 2 * (d : Int) = x + 2 * ((d + 1 : Nat) : Int) by omega]
theorem rIn_var (d : Nat) : ∀ s : Nat, (rIn (2 * (s : Int)) d).map varN = List.range' s d := by
  induction d with
  | zero => intro s; rfl
  | succ d ih =>
    intro s
    simp only [rIn, List.map_cons, List.range'_succ]
    rw [show 2 * (s : Int) + 2 = 2 * ((s + 1 : Nat) : Int) by omega, ih]
    congr 1
    unfold varN; omega
theorem rAnd_get (l : List S59) : ∀ (x : Int) (i : Nat) (h : i < l.length), rd_T56 (rAnd x l) (i : Int) = ⟨x + 2 * i, l[i].f0, l[i].f1⟩ := by
  induction l with
  | nil => intro x i h; exact absurd h (Nat.not_lt_zero i)
  | cons g r ih =>
    intro x i h
    have hl : i < (rAnd x (g :: r)).length := by rw [rAnd_len]; exact h
    rw [rdT_get _ _ hl]
    cases i with
    | zero => simp [rAnd]
    | succ i =>
      have h' : i < r.length := by simpa using h
      have := ih (x + 2) i h'
      rw [rdT_get _ _ (by rw [rAnd_len]; exact h')] at this
      simp only [rAnd, List.getElem_cons_succ]
      rw [this]
      congr 1
      omega
section
variable {x : Int} {l : List S59} {v : Nat}
theorem vr_r (hx : x = 2 * (v : Int)) (i : Nat) (h : i < l.length) : vr (rAnd x l) i = v + i := by
  unfold vr vrD
  rw [rAnd_get l x i h, hx]
  show ((2 * (v : Int) + 2 * i) / 2).toNat = v + i
  omega
theorem isG_r (hx : x = 2 * (v : Int)) (u : Nat) : isG (rAnd x l) u = true ↔ v ≤ u ∧ u < v + l.length := by
  unfold isG
  rw [rAnd_len, List.any_eq_true]
  constructor
  · rintro ⟨i, hi, h⟩
    have hi := List.mem_range.1 hi
    rw [vr_r hx i hi, beq_iff_eq] at h
    omega
  · rintro ⟨h1, h2⟩
    refine ⟨u - v, List.mem_range.2 (by omega), ?_⟩
    rw [vr_r hx _ (by omega), beq_iff_eq]; omega
theorem rv_r (hx : x = 2 * (v : Int)) (i u : Nat) (hi : i ≤ l.length) (hu : u < v + i) : rv (rAnd x l) (List.range i) u = true := by
  unfold rv
  by_cases c : isG (rAnd x l) u = true
  · obtain ⟨h1, h2⟩ := (isG_r hx u).1 c
    rw [Bool.or_eq_true]; right
    rw [List.any_eq_true]
    refine ⟨u - v, List.mem_range.2 (by omega), ?_⟩
    rw [vr_r hx _ (by omega), beq_iff_eq]; omega
  · rw [Bool.eq_false_iff.2 c]; rfl
theorem next_r (hx : x = 2 * (v : Int)) (hp : ∀ (i : Nat) (h : i < l.length), 0 ≤ l[i].f1 ∧ l[i].f1 ≤ l[i].f0 ∧ l[i].f0 < 2 * (v + i : Int)) (i : Nat) (hi : i < l.length) : nextP (rAnd x l) (List.range i) i = true := by
  have := hp i hi
  have e1 : pa (rAnd x l) i < v + i := by unfold pa paD; rw [rAnd_get l x i hi]; show (l[i].f0 / 2).toNat < v + i; omega
  have e2 : pb (rAnd x l) i < v + i := by unfold pb pbD; rw [rAnd_get l x i hi]; show (l[i].f1 / 2).toNat < v + i; omega
  unfold nextP
  rw [rv_r hx i _ (by omega) e1, rv_r hx i _ (by omega) e2]
  have : (List.range i).contains i = false := by
    rw [Bool.eq_false_iff]; intro c
    exact absurd (List.mem_range.1 (List.contains_iff_mem.1 c)) (by omega)
  rw [this]; rfl
theorem ord_r (hx : x = 2 * (v : Int)) (hp : ∀ (i : Nat) (h : i < l.length), 0 ≤ l[i].f1 ∧ l[i].f1 ≤ l[i].f0 ∧ l[i].f0 < 2 * (v + i : Int)) (f : Nat) : ∀ i, i + f = l.length → ordS (rAnd x l) f (List.range i) = List.range l.length := by
  induction f with
  | zero => intro i h; simp only [ordS]; rw [show i = l.length by omega]
  | succ f ih =>
    intro i h
    have hf : (List.range (rAnd x l).length).find? (nextP (rAnd x l) (List.range i)) = some i := by
      rw [rAnd_len, List.find?_range_eq_some]
      refine ⟨next_r hx hp i (by omega), List.mem_range.2 (by omega), fun j hj => ?_⟩
      unfold nextP
      rw [List.contains_iff_mem.2 (List.mem_range.2 hj)]; rfl
    simp only [ordS, hf]
    rw [← List.range_succ]
    exact ih (i + 1) (by omega)
end
theorem numW_id (d : Nat) : ∀ (s : Nat) (g : List Int) (u : Nat), s + d ≤ g.length → gt (numW (List.range' s d) s g) u = if s ≤ u ∧ u < s + d then (u : Int) else gt g u := by
  induction d with
  | zero => intro s g u h; rw [if_neg (by omega)]; rfl
  | succ d ih =>
    intro s g u h
    rw [List.range'_succ]
    simp only [numW]
    rw [ih (s + 1) _ u (by rw [List.length_set]; omega), gt_set _ _ _ _ (by omega)]
    by_cases c : s + 1 ≤ u ∧ u < s + 1 + d
    · rw [if_pos c, if_pos (by omega)]
    · rw [if_neg c]
      by_cases e : u = s
      · rw [if_pos e, if_pos (by omega), e]
      · rw [if_neg e, if_neg (by omega)]
end Go.Proofs.Ytpdlkjpemplhoaa.P
namespace Go.Proofs.Ytpdlkjpemplhoaa.P
open Go.RowKit Go.Proofs.YtpdlkjpemplhoaaW.PrintWords Go.Proofs.YtpdlkjpemplhoaaW.PrintLast Go.Proofs.YtpdlkjpemplhoaaW.PrintMore
set_option linter.unusedVariables false
set_option linter.unusedSimpArgs false
section
variable {n : Nat} {l1 : List S61} {l2 : List S59} {l3 l4 : List Int}
theorem own_r (n : Nat) (l1 : List S61) (l2 : List S59) : ownL (rIn 2 n) (rLat (2 * (n : Int) + 2) l1) (rAnd (2 * (n : Int) + 2 * l1.length + 2) l2) = rIn 2 (n + l1.length + l2.length) := by
  unfold ownL
  rw [rLat_f0, rAnd_f0, rIn_append (n + l1.length), rIn_append n, show (2 : Int) + 2 * (n : Int) = 2 * (n : Int) + 2 by omega, show (2 : Int) + 2 * ((n + l1.length : Nat) : Int) = 2 * (n : Int) + 2 * l1.length + 2 by omega]
theorem lat_parts (l : List S61) : ∀ x, ∀ d ∈ rLat x l, ∃ g ∈ l, d.f1 = g.f0 ∧ d.f2 = g.f1 := by
  induction l with
  | nil => intro x d hd; cases hd
  | cons g r ih =>
    intro x d hd
    simp only [rLat, List.mem_cons] at hd
    rcases hd with rfl | hd
    · exact ⟨g, List.mem_cons_self, rfl, rfl⟩
    · obtain ⟨g', h1, h2⟩ := ih _ d hd
      exact ⟨g', List.mem_cons_of_mem _ h1, h2⟩
theorem and_parts (l : List S59) : ∀ x, ∀ d ∈ rAnd x l, ∃ (i : Nat) (h : i < l.length), d.f1 = l[i].f0 ∧ d.f2 = l[i].f1 := by
  induction l with
  | nil => intro x d hd; cases hd
  | cons g r ih =>
    intro x d hd
    simp only [rAnd, List.mem_cons] at hd
    rcases hd with rfl | hd
    · exact ⟨0, by simp, rfl, rfl⟩
    · obtain ⟨i, h1, h2⟩ := ih _ d hd
      exact ⟨i + 1, by simpa using h1, by simpa using h2⟩
theorem use_r (hv : Val (n : Int) l1 l2 l3 l4) : ∀ x ∈ useL (rLat (2 * (n : Int) + 2) l1) (rAnd (2 * (n : Int) + 2 * l1.length + 2) l2) l3 l4, 0 ≤ x ∧ x ≤ 2 * ((n + l1.length + l2.length : Nat) : Int) + 1 := by
  intro x hx
  unfold useL at hx
  rcases List.mem_append.1 hx with hx | hx
  · rcases List.mem_append.1 hx with hx | hx
    · rcases List.mem_append.1 hx with hx | hx
      · have := hv.u3 x hx; omega
      · have := hv.u4 x hx; omega
    · obtain ⟨d, hd, rfl⟩ := List.mem_map.1 hx
      obtain ⟨g, hg, e1, -⟩ := lat_parts _ _ d hd
      have := (hv.u1 g hg).1
      rw [e1]; omega
  · obtain ⟨d, hd, hx⟩ := List.mem_flatMap.1 hx
    obtain ⟨i, hi, e1, e2⟩ := and_parts _ _ d hd
    have := hv.u2 i hi
    simp only [List.mem_cons, List.not_mem_nil, or_false] at hx
    rcases hx with rfl | rfl
    · rw [e1]; omega
    · rw [e2]; omega
theorem own_rb (M : Nat) : ∀ x ∈ rIn 2 M, 2 ≤ x ∧ x ≤ 2 * (M : Int) + 1 ∧ x % 2 = 0 := by
  intro x hx
  obtain ⟨i, hi, rfl⟩ := List.getElem_of_mem hx
  rw [rIn_get]
  rw [rIn_len] at hi
  omega
theorem num_r (hv : Val (n : Int) l1 l2 l3 l4) : Num ((n + l1.length + l2.length : Nat) : Int) (rIn 2 n) (rLat (2 * (n : Int) + 2) l1) (rAnd (2 * (n : Int) + 2 * l1.length + 2) l2) l3 l4 := by
  have := hv.len
  refine ⟨by omega, by rw [rIn_len, rLat_len, rAnd_len]; omega, fun x hx => ?_, use_r hv, hv.b3, hv.b4⟩
  rw [own_r] at hx
  exact own_rb _ x hx
theorem ordR (hv : Val (n : Int) l1 l2 l3 l4) : ordS (rAnd (2 * (n : Int) + 2 * l1.length + 2) l2) (rAnd (2 * (n : Int) + 2 * l1.length + 2) l2).length [] = List.range l2.length := by
  rw [rAnd_len]
  exact ord_r (v := n + l1.length + 1) (by omega) (fun i h => by have := hv.u2 i h; omega) l2.length 0 (by omega)
theorem chk_r (hv : Val (n : Int) l1 l2 l3 l4) : chkS ((n + l1.length + l2.length : Nat) : Int) (rIn 2 n) (rLat (2 * (n : Int) + 2) l1) (rAnd (2 * (n : Int) + 2 * l1.length + 2) l2) l3 l4 = 0 := by
  have hN := num_r hv
  have hlen := hv.len
  unfold chkS
  rw [if_neg (by omega), if_neg (by
    unfold manyP
    rw [rIn_len, rLat_len, rAnd_len]
    have := hv.b3
    have := hv.b4
    omega)]
  have hb : badAny ((n + l1.length + l2.length : Nat) : Int) (rIn 2 n) (rLat (2 * (n : Int) + 2) l1) (rAnd (2 * (n : Int) + 2 * l1.length + 2) l2) l3 l4 = false := by
    unfold badAny
    rw [Bool.or_eq_false_iff, Bool.or_eq_false_iff]
    refine ⟨⟨(any_false _ _).2 (fun x hx => ?_), (any_false _ _).2 (fun x hx => ?_)⟩, (any_false _ _).2 (fun d hd => ?_)⟩
    · have := hN.own x hx
      unfold badOwn
      have e := Int.tmod_eq_emod_of_nonneg (b := 2) (show 0 ≤ x by omega)
      rw [e, this.2.2]
      simp; omega
    · have := hN.use x hx
      unfold badUse
      simp; omega
    · obtain ⟨g, hg, -, e2⟩ := lat_parts _ _ d hd
      have := (hv.u1 g hg).2
      unfold badRe
      rw [e2]
      simp; omega
  rw [hb, if_neg (by decide)]
  unfold chkVal
  have hvr : ((ownL (rIn 2 n) (rLat (2 * (n : Int) + 2) l1) (rAnd (2 * (n : Int) + 2 * l1.length + 2) l2)).map varN) = List.range' 1 (n + l1.length + l2.length) := by
    rw [own_r]; exact rIn_var _ 1
  rw [if_neg (fun c => c (by rw [hvr]; exact List.nodup_range')), if_neg, ordR hv, List.length_range, rAnd_len, if_neg (by omega)]
  intro c
  obtain ⟨x, hx, h⟩ := List.any_eq_true.1 c
  have := hN.use x hx
  unfold loose at h
  rw [hvr, Bool.not_eq_true', Bool.or_eq_false_iff, decide_eq_false_iff_not] at h
  have hm : varN x ∈ List.range' 1 (n + l1.length + l2.length) := by
    rw [List.mem_range'_1]; unfold varN at h ⊢; omega
  rw [List.contains_iff_mem.2 hm] at h
  cases h.2
end
end Go.Proofs.Ytpdlkjpemplhoaa.P
namespace Go.Proofs.Ytpdlkjpemplhoaa.P
open Go.RowKit Go.Proofs.YtpdlkjpemplhoaaW.PrintWords Go.Proofs.YtpdlkjpemplhoaaW.PrintLast Go.Proofs.YtpdlkjpemplhoaaW.PrintMore
set_option linter.unusedVariables false
set_option linter.unusedSimpArgs false
section
variable {n : Nat} {l1 : List S61} {l2 : List S59} {l3 l4 : List Int}
theorem vars_r (n : Nat) (l1 : List S61) (l2 : List S59) : varsN (rIn 2 n) (rLat (2 * (n : Int) + 2) l1) (rAnd (2 * (n : Int) + 2 * l1.length + 2) l2) (List.range l2.length) = List.range' 1 (n + l1.length + l2.length) := by
  have e3 : (List.range l2.length).map (vr (rAnd (2 * (n : Int) + 2 * l1.length + 2) l2)) = (rIn (2 * (n : Int) + 2 * l1.length + 2) l2.length).map varN := by
    rw [show (2 * (n : Int) + 2 * l1.length + 2) = 2 * ((n + l1.length + 1 : Nat) : Int) by omega, rIn_var]
    apply List.ext_getElem
    · simp
    · intro i h1 h2
      simp only [List.getElem_map, List.getElem_range, List.getElem_range']
      rw [vr_r (v := n + l1.length + 1) rfl i (by simpa using h1)]; omega
  have e2 : (rLat (2 * (n : Int) + 2) l1).map (fun d => varN d.f0) = (rIn (2 * (n : Int) + 2) l1.length).map varN := by
    rw [← rLat_f0, List.map_map]; rfl
  unfold varsN
  rw [e3, e2, ← List.map_append, ← List.map_append]
  have := own_r n l1 l2
  unfold ownL at this
  rw [rLat_f0, rAnd_f0] at this
  rw [this]
  exact rIn_var _ 1
theorem rLat_told (g : List Int) (l : List S61) (hg : ∀ d ∈ l, told g d.f0 = d.f0) : ∀ x, (rLat x l).map (fun d => (⟨told g d.f1, d.f2⟩ : S61)) = l := by
  induction l with
  | nil => intro x; rfl
  | cons a r ih =>
    intro x
    simp only [rLat, List.map_cons]
    rw [ih (fun d hd => hg d (List.mem_cons_of_mem _ hd)), hg a List.mem_cons_self]
theorem circ_r (hv : Val (n : Int) l1 l2 l3 l4) : ∃ g, circS ((n + l1.length + l2.length : Nat) : Int) (rIn 2 n) (rLat (2 * (n : Int) + 2) l1) (rAnd (2 * (n : Int) + 2 * l1.length + 2) l2) l3 l4 = ((n : Int), l1, l2, l3, l4, g, 0) ∧ g.length = n + l1.length + l2.length + 1 ∧ ∀ u, u < g.length → gt g u = (u : Int) := by
  have hlen := hv.len
  unfold circS
  rw [if_pos (chk_r hv), ordR hv, vars_r, Int.toNat_natCast]
  have hg : (numW (List.range' 1 (n + l1.length + l2.length)) 1 (numS (n + l1.length + l2.length))).length = n + l1.length + l2.length + 1 := by rw [numW_len, numS_len]
  have hid : ∀ u, u < n + l1.length + l2.length + 1 → gt (numW (List.range' 1 (n + l1.length + l2.length)) 1 (numS (n + l1.length + l2.length))) u = (u : Int) := fun u hu => by
    rw [numW_id _ _ _ _ (by rw [numS_len]; omega), numS_gt _ _ (by omega)]
    by_cases c : u = 0
    · rw [if_neg (by omega), if_pos c, c]; rfl
    · rw [if_pos (by omega)]
  generalize numW (List.range' 1 (n + l1.length + l2.length)) 1 (numS (n + l1.length + l2.length)) = g at hg hid ⊢
  have ht : ∀ x : Int, 0 ≤ x → x ≤ 2 * ((n + l1.length + l2.length : Nat) : Int) + 1 → told g x = x := fun x h0 h1 => by
    unfold told
    rw [hid (varN x) (by unfold varN; omega)]
    unfold varN; omega
  refine ⟨g, ?_, hg, fun u hu => hid u (by omega)⟩
  unfold cirSv
  rw [rIn_len, rLat_told g l1 (fun d hd => by have := (hv.u1 d hd).1; exact ht _ (by omega) (by omega))]
  have e3 : l3.map (told g) = l3 := by
    conv => rhs; rw [← List.map_id l3]
    exact List.map_congr_left (fun x hx => by have := hv.u3 x hx; exact ht x (by omega) (by omega))
  have e4 : l4.map (told g) = l4 := by
    conv => rhs; rw [← List.map_id l4]
    exact List.map_congr_left (fun x hx => by have := hv.u4 x hx; exact ht x (by omega) (by omega))
  have e2 : (List.range l2.length).map (fun i : Nat => (⟨mx (told g (rd_T56 (rAnd (2 * (n : Int) + 2 * l1.length + 2) l2) (i : Int)).f1) (told g (rd_T56 (rAnd (2 * (n : Int) + 2 * l1.length + 2) l2) (i : Int)).f2), mn (told g (rd_T56 (rAnd (2 * (n : Int) + 2 * l1.length + 2) l2) (i : Int)).f1) (told g (rd_T56 (rAnd (2 * (n : Int) + 2 * l1.length + 2) l2) (i : Int)).f2)⟩ : S59)) = l2 := by
    apply List.ext_getElem
    · simp
    · intro i h1 h2
      have hu := hv.u2 i h2
      simp only [List.getElem_map, List.getElem_range]
      rw [rAnd_get l2 _ i h2]
      show (⟨mx (told g l2[i].f0) (told g l2[i].f1), mn (told g l2[i].f0) (told g l2[i].f1)⟩ : S59) = l2[i]
      rw [ht l2[i].f0 (by omega) (by omega), ht l2[i].f1 (by omega) (by omega)]
      unfold mx mn
      rw [if_neg (by omega)]
      by_cases c : l2[i].f1 < l2[i].f0
      · rw [if_pos c]
      · rw [if_neg c]
        have e : l2[i].f0 = l2[i].f1 := by omega
        show (⟨l2[i].f0, l2[i].f0⟩ : S59) = ⟨l2[i].f0, l2[i].f1⟩
        rw [e]
  rw [e2, e3, e4]
end
end Go.Proofs.Ytpdlkjpemplhoaa.P
namespace Go.Proofs.Ytpdlkjpemplhoaa.Pure
open Go.RowKit Go.Proofs.Ytpdlkjpemplhoaa.P Go.Proofs.YtpdlkjpemplhoaaW.PrintWords Go.Proofs.YtpdlkjpemplhoaaW.PrintLast Go.Proofs.YtpdlkjpemplhoaaW.PrintMore
set_option linter.unusedVariables false
set_option linter.unusedSimpArgs false
theorem alive_eq (k : Nat) (hk : 100000 ≤ k) : l3_alive.f k = some true := by
  have i1 : ∀ x ∈ ownL [2, 4] [] [(⟨6, 4, 8⟩ : S56), ⟨8, 2, 4⟩], I64 x := by unfold I64; decide
  have i2 : ∀ x ∈ useL [] [(⟨6, 4, 8⟩ : S56), ⟨8, 2, 4⟩] [] [], I64 x := by unfold I64; decide
  have j1 : ∀ x ∈ ownL [2, 4] [] [(⟨6, 8, 2⟩ : S56), ⟨8, 6, 2⟩], I64 x := by unfold I64; decide
  have j2 : ∀ x ∈ useL [] [(⟨6, 8, 2⟩ : S56), ⟨8, 6, 2⟩] [] [], I64 x := by unfold I64; decide
  have e1 : circS 4 [2, 4] [] [(⟨6, 4, 8⟩ : S56), ⟨8, 2, 4⟩] [] [] = (2, [], [⟨4, 2⟩, ⟨6, 4⟩], [], [], [0, 1, 2, 4, 3], 0) := by kernel_rfl
  have e2 : chkS 4 [2, 4] [] [(⟨6, 8, 2⟩ : S56), ⟨8, 6, 2⟩] [] [] = 41 := by kernel_rfl
  have c1 := prog_cir (most := 4) (l1 := [2, 4]) (l2 := []) (l3 := [⟨6, 4, 8⟩, ⟨8, 2, 4⟩]) (l4 := []) (l5 := []) (by decide) (by decide) (by decide) (by decide) (by decide) i1 i2
  have c2 := prog_chk (most := 4) (l1 := [2, 4]) (l2 := []) (l3 := [⟨6, 8, 2⟩, ⟨8, 6, 2⟩]) (l4 := []) (l5 := []) (by decide) (by decide) (by decide) (by decide) (by decide) j1 j2
  rw [e1] at c1
  rw [e2] at c2
  have s1 := sameInts_eq [0, 1, 2, 4, 3] (by decide) k (by show 5 < k; omega)
  have s2 := sameCir_eq 2 [] [⟨4, 2⟩, ⟨6, 4⟩] [] [] (by decide) (by decide) (by decide) (by decide) k hk
  clear i1 i2 j1 j2 e1 e2
  unfold l3_alive.f l3_gate.f
  generalize order_Circuit.f = F at c1 ⊢
  generalize order_Check.f = G at c2 ⊢
  generalize r2_SameInts.f = H at s1 ⊢
  generalize r2_Same.f = I at s2 ⊢
  dsimp only [Option.bind_some]
  rw [c1, c2]
  dsimp only [Option.bind_some]
  rw [if_pos rfl, s1, Option.bind_some, if_pos rfl, s2, Option.bind_some, if_pos rfl]
  rfl
end Go.Proofs.Ytpdlkjpemplhoaa.Pure
namespace Go.Proofs.Ytpdlkjpemplhoaa.Pure
open Go.RowKit Go.Proofs.Ytpdlkjpemplhoaa.P Go.Proofs.YtpdlkjpemplhoaaW.PrintWords Go.Proofs.YtpdlkjpemplhoaaW.PrintLast Go.Proofs.YtpdlkjpemplhoaaW.PrintMore
set_option linter.unusedVariables false
set_option linter.unusedSimpArgs false
theorem same_l0 (g : List Int) (m : Int) (a1 : List Int) (a2 a3 : List S56) (a4 a5 : List Int) (hl : g.length ≤ 100000) (hg : ∀ u, u < g.length → gt g u = (u : Int)) (hm : (g.length : Int) = m + 1) (d : Nat) : ∀ (i k : Nat), g.length - i = d → i ≤ g.length → d + 100001 ≤ k → l3_OrderSame.l0 k g (i : Int) m a1 a2 a3 a4 a5 = some true := by
  induction d with
  | zero =>
    intro i k hd hi hk
    obtain ⟨k, rfl⟩ : ∃ q, k = q + 1 := ⟨k - 1, by omega⟩
    simp only [l3_OrderSame.l0]
    rw [if_neg (by omega), wrap_id (by omega) (by omega), if_pos hm, alive_eq k (by omega), Option.bind_some]
  | succ d ih =>
    intro i k hd hi hk
    obtain ⟨k, rfl⟩ : ∃ q, k = q + 1 := ⟨k - 1, by omega⟩
    simp only [l3_OrderSame.l0]
    rw [if_pos (by omega), if_pos (by omega), rd_gt, hg i (by omega), if_pos rfl, wi (by omega)]
    exact ih (i + 1) k (by omega) (by omega) (by omega)
theorem raw_i64 (n : Nat) (l1 : List S61) (l2 : List S59) (l3 l4 : List Int) (hv : Val (n : Int) l1 l2 l3 l4) :
    (∀ x ∈ ownL (rIn 2 n) (rLat (2 * (n : Int) + 2) l1) (rAnd (2 * (n : Int) + 2 * l1.length + 2) l2), I64 x) ∧ ∀ x ∈ useL (rLat (2 * (n : Int) + 2) l1) (rAnd (2 * (n : Int) + 2 * l1.length + 2) l2) l3 l4, I64 x := by
  have hN := num_r hv
  have := hv.len
  exact ⟨fun x hx => by have := hN.own x hx; unfold I64; omega, fun x hx => by have := hN.use x hx; unfold I64; omega⟩
theorem same_j0 (n : Int) (l1 : List S61) (l2 : List S59) (l3 l4 : List Int) (ha : l1.length ≤ 200) (hb : l2.length ≤ 200) (hc : l3.length ≤ 200) (hd : l4.length ≤ 200) (h : checkS n l1 l2 l3 l4 = 0) : l3_OrderSame.j0 1000000 false n l1 l2 l3 l4 = some true := by
  have hv := (val_iff n l1 l2 l3 l4 (by omega) (by omega) (by omega) (by omega)).1 h
  obtain ⟨N, rfl⟩ := Int.eq_ofNat_of_zero_le hv.n0
  have hlen := hv.len
  obtain ⟨i1, i2⟩ := raw_i64 N l1 l2 l3 l4 hv
  obtain ⟨g, eg, gl, gg⟩ := circ_r hv
  have hchk := chk_r hv
  have e1 := orderRaw_eq (N : Int) l1 l2 l3 l4 (by omega) (by omega) (by omega) (by omega) 999999 (by omega)
  unfold rawS at e1
  rw [if_pos h, Int.toNat_natCast] at e1
  have em : (N : Int) + l1.length + l2.length = ((N + l1.length + l2.length : Nat) : Int) := by omega
  rw [em] at e1
  have e2 := prog_cir (most := ((N + l1.length + l2.length : Nat) : Int)) (l1 := rIn 2 N) (l2 := rLat (2 * (N : Int) + 2) l1) (l3 := rAnd (2 * (N : Int) + 2 * l1.length + 2) l2) (l4 := l3) (l5 := l4) (by rw [rIn_len]; omega) (by rw [rLat_len]; omega) (by rw [rAnd_len]; omega) (by omega) (by omega) i1 i2
  rw [eg] at e2
  have e3 := prog_chk (most := ((N + l1.length + l2.length : Nat) : Int)) (l1 := rIn 2 N) (l2 := rLat (2 * (N : Int) + 2) l1) (l3 := rAnd (2 * (N : Int) + 2 * l1.length + 2) l2) (l4 := l3) (l5 := l4) (by rw [rIn_len]; omega) (by rw [rLat_len]; omega) (by rw [rAnd_len]; omega) (by omega) (by omega) i1 i2
  rw [hchk] at e3
  have e4 := sameCir_eq (N : Int) l1 l2 l3 l4 (by omega) (by omega) (by omega) (by omega) 999999 (by omega)
  have e5 : r2_Size.f (N : Int) l1 l2 l3 l4 = some ((N + l1.length + l2.length : Nat) : Int) := by
    unfold r2_Size.f
    rw [wrap_id (n := (N : Int) + l1.length) (by omega) (by omega), wrap_id (by omega) (by omega)]
    congr 1
  show l3_OrderSame.j0 (999999 + 1) false (N : Int) l1 l2 l3 l4 = some true
  rw [l3_OrderSame.j0, if_neg (by decide), e1, Option.bind_some]
  dsimp only
  rw [e2, Option.bind_some]
  dsimp only
  rw [if_pos rfl, if_pos rfl, e4, Option.bind_some, if_pos rfl, e3, Option.bind_some, if_pos rfl, e5, Option.bind_some]
  show l3_OrderSame.j1 (999998 + 1) _ _ _ _ _ _ _ _ = some true
  rw [l3_OrderSame.j1, if_neg (by simp)]
  exact same_l0 g _ _ _ _ _ _ (by omega) gg (by omega) g.length 0 999998 (by omega) (by omega) (by omega)
theorem same_pure (n : Int) (l1 : List S61) (l2 : List S59) (l3 l4 : List Int) (hn : I64 n) (hy : ∀ x ∈ l1, I64 x.f0) (hx : ∀ x ∈ l2, I64 x.f0 ∧ I64 x.f1) (h3 : ∀ x ∈ l3, I64 x) (h4 : ∀ x ∈ l4, I64 x) : l3_OrderSame.f 1000000 n l1 l2 l3 l4 = some true := by
  have ja : l3_OrderSame.j0 1000000 true n l1 l2 l3 l4 = some true := by
    show l3_OrderSame.j0 (999999 + 1) true n l1 l2 l3 l4 = some true
    rw [l3_OrderSame.j0, if_pos rfl, alive_eq 999999 (by omega), Option.bind_some]
  unfold l3_OrderSame.f r2_Great.f
  by_cases c1 : (l1.length : Int) > 60
  · rw [if_pos c1, Option.bind_some, if_pos rfl, ja]
  rw [if_neg c1]
  by_cases c2 : (l2.length : Int) > 120
  · rw [if_pos c2, Option.bind_some, if_pos rfl, ja]
  rw [if_neg c2]
  by_cases c3 : (l3.length : Int) > 110
  · rw [if_pos c3, Option.bind_some, if_pos rfl, ja]
  rw [if_neg c3]
  by_cases c4 : (l4.length : Int) > 110
  · rw [if_pos c4, Option.bind_some, if_pos rfl, ja]
  rw [if_neg c4]
  have hc : ((r2_Check.f 1000000 n l1 l2 l3 l4).bind fun t888 => l3_OrderSame.j0 1000000 (t888 != 0) n l1 l2 l3 l4) = some true := by
    rw [refCheck_eq n l1 l2 l3 l4 hn (by omega) (by omega) (by omega) (by omega) hy hx h3 h4 1000000 (by omega), Option.bind_some]
    by_cases c : checkS n l1 l2 l3 l4 = 0
    · rw [c]
      exact same_j0 n l1 l2 l3 l4 (by omega) (by omega) (by omega) (by omega) c
    · rw [show (checkS n l1 l2 l3 l4 != 0) = true by simpa using c, ja]
  by_cases c5 : n > 40
  · rw [if_pos c5, Option.bind_some]
    by_cases c6 : n < 996
    · rw [decide_eq_true c6, if_pos rfl, ja]
    · rw [decide_eq_false c6, if_neg (by decide), hc]
  · rw [if_neg c5, Option.bind_some, if_neg (by decide), hc]
theorem OrderSame (a : S26) (h : (Lit.int .i64 a.f0).wf = true ∧ (a.f1.length ≤ maxLen ∧ ∀ x ∈ a.f1, (Lit.int .i64 x.f0).wf = true ∧ (Lit.int .i64 x.f1).wf = true) ∧ (a.f2.length ≤ maxLen ∧ ∀ x ∈ a.f2, (Lit.int .i64 x.f0).wf = true ∧ (Lit.int .i64 x.f1).wf = true) ∧ (a.f3.length ≤ maxLen ∧ ∀ x ∈ a.f3, (Lit.int .i64 x).wf = true) ∧ (a.f4.length ≤ maxLen ∧ ∀ x ∈ a.f4, (Lit.int .i64 x).wf = true)) :
    ∃ k, l3_OrderSame.f k a.f0 a.f1 a.f2 a.f3 a.f4 = some true :=
  ⟨1000000, same_pure a.f0 a.f1 a.f2 a.f3 a.f4 (i64_wf h.1) (fun x hx => i64_wf (h.2.1.2 x hx).1) (fun x hx => ⟨i64_wf (h.2.2.1.2 x hx).1, i64_wf (h.2.2.1.2 x hx).2⟩) (fun x hx => i64_wf (h.2.2.2.1.2 x hx)) (fun x hx => i64_wf (h.2.2.2.2.2 x hx))⟩
end Go.Proofs.Ytpdlkjpemplhoaa.Pure
namespace Go.Proofs.YtpdlkjpemplhoaaO
open Go.RowKit Go.Proofs.YtpdlkjpemplhoaaW.PrintWords Go.ChangeShapes Go.WideShapes
structure Opens (P : Program) {α : Type} (t : TypeId) (d : Kd α) (ok : α → Prop) : Prop where
  out : ∀ {H : Type} {enc : TypeId × Value → H} {w : World} {base : Nat} {held : Bool} {n : Nat} {cs : List Value} {x : DataW H × List MemPlace},
    DataW.trod enc P w base (fun _ => true) held n t cs = some x → ∃ a, d.K w a cs ∧ ok a
theorem opens_int {P : Program} {t : TypeId} {k : IntKind} (ht : P.underlying t = some (.int k)) : Opens P t (Kd.int k) (fun n => (Lit.int k n).wf = true) := by
  constructor
  intro H enc w base held n cs x h
  cases n with
  | zero => simp [DataW.trod] at h
  | succ n =>
    unfold DataW.trod at h
    rw [ht] at h
    split at h <;> simp_all
    obtain ⟨⟨rfl, hw⟩, _⟩ := h
    exact ⟨_, rfl, hw⟩
theorem opens_slice {P : Program} {α : Type} {t e : TypeId} {d : Kd α} {ok : α → Prop} (ht : P.underlying t = some (.slice e)) (he : P.cellsOf e = d.sz) (ho : Opens P e d ok) :
    Opens P t (Kd.slice e d) (fun l => l.length ≤ maxLen ∧ ∀ x ∈ l, ok x) := by
  constructor
  intro H enc w base held n cs x h
  rcases Go.Deep.open_slice ht h with ⟨rfl, _⟩ | ⟨a, len, cap, m, n', D, Pl, rfl, hb, hl, hm, hmm, _, hx⟩
  · exact ⟨[], ⟨none, 0, rfl, Nat.le_refl _, Kd.C_nil d w⟩, by simp, by simp⟩
  · have hlm : len ≤ m := by rw [hmm]; simp; exact hl
    have hL : len ≤ maxLen := Nat.le_trans hl hm
    have each : ∀ i, i < len → ∃ y, ok y ∧ ∃ c, c.length = d.sz ∧ d.K w y c ∧ ∀ j u, c[j]? = some u → w.cell? (a.add (i * d.sz + j)) = some u := by
      intro i hi
      obtain ⟨cs', h1, h2⟩ := hx i (by omega)
      obtain ⟨y, hK, hy⟩ := ho.out h2
      obtain ⟨_, hlen, hcell⟩ := World.cells?_some h1
      rw [he] at hlen hcell
      refine ⟨y, hy, cs', hlen, hK, fun j u hj => ?_⟩
      have hjl : j < d.sz := by rw [← hlen]; exact (List.getElem?_eq_some_iff.1 hj).1
      rw [← add_add, hcell j hjl, hj]
    clear hx
    have build : ∀ k, k ≤ len → ∃ ys : List α, ys.length = k ∧ (∀ y ∈ ys, ok y) ∧ ∀ j p, ys[j]? = some p → ∃ c, c.length = d.sz ∧ d.K w p c ∧ ∀ i u, c[i]? = some u → w.cell? (a.add (j * d.sz + i)) = some u := by
      intro k
      induction k with
      | zero => intro _; exact ⟨[], rfl, by simp, by simp⟩
      | succ k ih =>
        intro hk
        obtain ⟨ys, h1, h2, h3⟩ := ih (by omega)
        obtain ⟨y, hy, c, hc⟩ := each k (by omega)
        refine ⟨ys ++ [y], by simp [h1], ?_, ?_⟩
        · intro z hz
          rcases List.mem_append.mp hz with hz | hz
          · exact h2 z hz
          · rw [List.mem_singleton.1 hz]; exact hy
        · intro j p hj
          by_cases hjk : j < k
          · rw [List.getElem?_append_left (by omega)] at hj
            exact h3 j p hj
          · have hjl : j < (ys ++ [y]).length := (List.getElem?_eq_some_iff.1 hj).1
            have : j = k := by simp at hjl; omega
            subst this
            rw [List.getElem?_append_right (by omega), h1, Nat.sub_self] at hj
            simp at hj
            subst hj
            exact ⟨c, hc⟩
    obtain ⟨ys, h1, h2, h3⟩ := build len (Nat.le_refl _)
    refine ⟨ys, ⟨some a, cap, by rw [h1], by rw [h1]; exact hl, ⟨rfl, ?_, fun _ => ⟨a, rfl, h3⟩⟩⟩, ?_, h2⟩
    · rw [h1]; unfold maxLen at hL; omega
    · rw [h1]; exact hL
structure OpensF (P : Program) {α : Type} (fs : List Field) (off : Nat) (d : Kd α) (ok : α → Prop) : Prop where
  out : ∀ {H : Type} {enc : TypeId × Value → H} {w : World} {base : Nat} {held : Bool} {n : Nat} {cs : List Value}, cs.length = off + d.sz →
    (∀ (j : Nat) (f : Field), fs[j]? = some f → ∃ y, DataW.trod enc P w base (fun _ => true) held n f.type ((cs.drop f.offset).take (P.cellsOf f.type)) = some y) → ∃ a, d.K w a (cs.drop off) ∧ ok a
theorem opensF_one {P : Program} {α : Type} {f : Field} {off : Nat} {d : Kd α} {ok : α → Prop} (ho : f.offset = off) (hc : P.cellsOf f.type = d.sz) (h : Opens P f.type d ok) : OpensF P [f] off d ok := by
  constructor
  intro H enc w base held n cs hl hf
  obtain ⟨y, hy⟩ := hf 0 f rfl
  obtain ⟨a, hK, ha⟩ := h.out hy
  rw [ho, hc, List.take_of_length_le (by rw [List.length_drop]; omega)] at hK
  exact ⟨a, hK, ha⟩
theorem opensF_cons {P : Program} {α β : Type} {f : Field} {fs : List Field} {off : Nat} {d : Kd α} {e : Kd β} {ok : α → Prop} {ok' : β → Prop} (ho : f.offset = off) (hc : P.cellsOf f.type = d.sz) (h : Opens P f.type d ok) (hr : OpensF P fs (off + d.sz) e ok') :
    OpensF P (f :: fs) off (Kd.pair d e) (fun x => ok x.1 ∧ ok' x.2) := by
  constructor
  intro H enc w base held n cs hl hf
  have hl' : cs.length = off + (d.sz + e.sz) := hl
  obtain ⟨y, hy⟩ := hf 0 f rfl
  obtain ⟨a, hK, ha⟩ := h.out hy
  obtain ⟨b, hK', hb⟩ := hr.out (by omega) (fun j g hg => hf (j + 1) g hg)
  rw [ho, hc] at hK
  refine ⟨(a, b), ⟨(cs.drop off).take d.sz, cs.drop (off + d.sz), ?_, hK, hK'⟩, ha, hb⟩
  rw [← List.drop_drop, List.take_append_drop]
theorem opens_struct {P : Program} {α σ : Type} {t : TypeId} {fs : Array Field} {d : Kd α} {ok : α → Prop} (ht : P.underlying t = some (.struct fs)) (hc : P.cellsOf t = d.sz) (h : OpensF P fs.toList 0 d ok) (f : σ → α) (mk : α → σ) (hf : ∀ a, f (mk a) = a) :
    Opens P t (Kd.iso d f) (fun s => ok (f s)) := by
  constructor
  intro H enc w base held n cs x hx
  obtain ⟨xs, m, rfl, _, hl, hxl, hfs⟩ := DataW.trod_struct ht hx
  obtain ⟨a, hK, ha⟩ := h.out (cs := cs) (by omega) (fun j g hg => by
    have hg' : fs[j]? = some g := by rw [← Array.getElem?_toList]; exact hg
    have h1 := hfs j g hg'
    have hj : j < xs.length := by rw [hxl]; exact (Array.getElem?_eq_some_iff.1 hg').1
    rw [List.getElem?_eq_getElem hj] at h1
    exact ⟨_, h1⟩)
  rw [List.drop_zero] at hK
  refine ⟨mk a, ?_, by show ok (f (mk a)); rw [hf]; exact ha⟩
  show d.K w (f (mk a)) cs
  rw [hf]
  exact hK
theorem open_arg_struct {P : Program} {H : Type} {enc : TypeId × Value → H} {w : World} {α : Type} {t : TypeId} {fs : Array Field} {d : Kd α} {ok : α → Prop} {base : Nat} {held : Bool} {v : Value} {x : DataW H} {ps : List MemPlace} {r : Reach} {b0 : Nat}
    (ht : P.underlying t = some (.struct fs)) (ho : Opens P t d ok) (hv : Value.okWide P w r b0 t v) (h : DataW.Trod enc P w base (fun _ => true) held t v x ps) :
    ∃ cs a, v = .agg cs ∧ d.K w a cs.toList ∧ ok a := by
  obtain ⟨cs, rfl, _⟩ := okWide_struct ht hv
  obtain ⟨n, h⟩ := h
  obtain ⟨a, hK, hok⟩ := ho.out h
  exact ⟨cs, a, rfl, by simpa [Value.cells] using hK, hok⟩
end Go.Proofs.YtpdlkjpemplhoaaO
namespace Go.Proofs.Ytpdlkjpemplhoaa.orderSame
open Go.ChangeShapes Go.WideShapes Go.ChangeAt Go.RowKit Go.Proofs.YtpdlkjpemplhoaaW.PrintWords Go.Proofs.YtpdlkjpemplhoaaW.PrintLast Go.Proofs.YtpdlkjpemplhoaaO Go.Proofs.Ytpdlkjpemplhoaa.P
open Go.ChangeMaps (open_string shut_string)
set_option linter.unusedVariables false
theorem own : ownKnob Try.prog.godebug = none := by kernel_rfl
theorem laidOut : laidOutB Try.prog = true := by kernel_rfl
theorem op3 : Opens Try.prog 3 (Kd.int .i64) (fun n : Int => (Lit.int .i64 n).wf = true) := opens_int Try.underlying3
theorem op61 : Opens Try.prog 61 k61 (fun s : S61 => (fun x : ((Int) × (Int)) => (fun n : Int => (Lit.int .i64 n).wf = true) x.1 ∧ (fun n : Int => (Lit.int .i64 n).wf = true) x.2) ((fun x : S61 => (x.f0, x.f1)) s)) := opens_struct (d := (Kd.pair (Kd.int .i64) (Kd.int .i64))) (ok := (fun x : ((Int) × (Int)) => (fun n : Int => (Lit.int .i64 n).wf = true) x.1 ∧ (fun n : Int => (Lit.int .i64 n).wf = true) x.2)) Try.underlying61 (by kernel_rfl) (by show OpensF _ [_, _] 0 _ _; refine opensF_cons (off := 0) (d := (Kd.int .i64)) (e := (Kd.int .i64)) (ok := (fun n : Int => (Lit.int .i64 n).wf = true)) (ok' := (fun n : Int => (Lit.int .i64 n).wf = true)) rfl (by kernel_rfl) op3 ?_; exact opensF_one (off := 1) (d := (Kd.int .i64)) (ok := (fun n : Int => (Lit.int .i64 n).wf = true)) rfl (by kernel_rfl) op3) (fun x : S61 => (x.f0, x.f1)) (fun a => ⟨a.1, a.2⟩) (fun _ => rfl)
theorem op22 : Opens Try.prog 22 (Kd.slice 61 k61) (fun l : List (S61) => l.length ≤ maxLen ∧ ∀ x ∈ l, (fun s : S61 => (fun x : ((Int) × (Int)) => (fun n : Int => (Lit.int .i64 n).wf = true) x.1 ∧ (fun n : Int => (Lit.int .i64 n).wf = true) x.2) ((fun x : S61 => (x.f0, x.f1)) s)) x) := opens_slice Try.underlying22 (by kernel_rfl) op61
theorem op59 : Opens Try.prog 59 k59 (fun s : S59 => (fun x : ((Int) × (Int)) => (fun n : Int => (Lit.int .i64 n).wf = true) x.1 ∧ (fun n : Int => (Lit.int .i64 n).wf = true) x.2) ((fun x : S59 => (x.f0, x.f1)) s)) := opens_struct (d := (Kd.pair (Kd.int .i64) (Kd.int .i64))) (ok := (fun x : ((Int) × (Int)) => (fun n : Int => (Lit.int .i64 n).wf = true) x.1 ∧ (fun n : Int => (Lit.int .i64 n).wf = true) x.2)) Try.underlying59 (by kernel_rfl) (by show OpensF _ [_, _] 0 _ _; refine opensF_cons (off := 0) (d := (Kd.int .i64)) (e := (Kd.int .i64)) (ok := (fun n : Int => (Lit.int .i64 n).wf = true)) (ok' := (fun n : Int => (Lit.int .i64 n).wf = true)) rfl (by kernel_rfl) op3 ?_; exact opensF_one (off := 1) (d := (Kd.int .i64)) (ok := (fun n : Int => (Lit.int .i64 n).wf = true)) rfl (by kernel_rfl) op3) (fun x : S59 => (x.f0, x.f1)) (fun a => ⟨a.1, a.2⟩) (fun _ => rfl)
theorem op23 : Opens Try.prog 23 (Kd.slice 59 k59) (fun l : List (S59) => l.length ≤ maxLen ∧ ∀ x ∈ l, (fun s : S59 => (fun x : ((Int) × (Int)) => (fun n : Int => (Lit.int .i64 n).wf = true) x.1 ∧ (fun n : Int => (Lit.int .i64 n).wf = true) x.2) ((fun x : S59 => (x.f0, x.f1)) s)) x) := opens_slice Try.underlying23 (by kernel_rfl) op59
theorem op24 : Opens Try.prog 24 (Kd.slice 3 (Kd.int .i64)) (fun l : List (Int) => l.length ≤ maxLen ∧ ∀ x ∈ l, (fun n : Int => (Lit.int .i64 n).wf = true) x) := opens_slice Try.underlying24 (by kernel_rfl) op3
theorem op26 : Opens Try.prog 26 k26 (fun s : S26 => (fun x : ((Int) × ((List (S61)) × ((List (S59)) × ((List (Int)) × (List (Int)))))) => (fun n : Int => (Lit.int .i64 n).wf = true) x.1 ∧ (fun x : ((List (S61)) × ((List (S59)) × ((List (Int)) × (List (Int))))) => (fun l : List (S61) => l.length ≤ maxLen ∧ ∀ x ∈ l, (fun s : S61 => (fun x : ((Int) × (Int)) => (fun n : Int => (Lit.int .i64 n).wf = true) x.1 ∧ (fun n : Int => (Lit.int .i64 n).wf = true) x.2) ((fun x : S61 => (x.f0, x.f1)) s)) x) x.1 ∧ (fun x : ((List (S59)) × ((List (Int)) × (List (Int)))) => (fun l : List (S59) => l.length ≤ maxLen ∧ ∀ x ∈ l, (fun s : S59 => (fun x : ((Int) × (Int)) => (fun n : Int => (Lit.int .i64 n).wf = true) x.1 ∧ (fun n : Int => (Lit.int .i64 n).wf = true) x.2) ((fun x : S59 => (x.f0, x.f1)) s)) x) x.1 ∧ (fun x : ((List (Int)) × (List (Int))) => (fun l : List (Int) => l.length ≤ maxLen ∧ ∀ x ∈ l, (fun n : Int => (Lit.int .i64 n).wf = true) x) x.1 ∧ (fun l : List (Int) => l.length ≤ maxLen ∧ ∀ x ∈ l, (fun n : Int => (Lit.int .i64 n).wf = true) x) x.2) x.2) x.2) x.2) ((fun x : S26 => (x.f0, x.f1, x.f2, x.f3, x.f4)) s)) := opens_struct (d := (Kd.pair (Kd.int .i64) (Kd.pair (Kd.slice 61 k61) (Kd.pair (Kd.slice 59 k59) (Kd.pair (Kd.slice 3 (Kd.int .i64)) (Kd.slice 3 (Kd.int .i64))))))) (ok := (fun x : ((Int) × ((List (S61)) × ((List (S59)) × ((List (Int)) × (List (Int)))))) => (fun n : Int => (Lit.int .i64 n).wf = true) x.1 ∧ (fun x : ((List (S61)) × ((List (S59)) × ((List (Int)) × (List (Int))))) => (fun l : List (S61) => l.length ≤ maxLen ∧ ∀ x ∈ l, (fun s : S61 => (fun x : ((Int) × (Int)) => (fun n : Int => (Lit.int .i64 n).wf = true) x.1 ∧ (fun n : Int => (Lit.int .i64 n).wf = true) x.2) ((fun x : S61 => (x.f0, x.f1)) s)) x) x.1 ∧ (fun x : ((List (S59)) × ((List (Int)) × (List (Int)))) => (fun l : List (S59) => l.length ≤ maxLen ∧ ∀ x ∈ l, (fun s : S59 => (fun x : ((Int) × (Int)) => (fun n : Int => (Lit.int .i64 n).wf = true) x.1 ∧ (fun n : Int => (Lit.int .i64 n).wf = true) x.2) ((fun x : S59 => (x.f0, x.f1)) s)) x) x.1 ∧ (fun x : ((List (Int)) × (List (Int))) => (fun l : List (Int) => l.length ≤ maxLen ∧ ∀ x ∈ l, (fun n : Int => (Lit.int .i64 n).wf = true) x) x.1 ∧ (fun l : List (Int) => l.length ≤ maxLen ∧ ∀ x ∈ l, (fun n : Int => (Lit.int .i64 n).wf = true) x) x.2) x.2) x.2) x.2)) Try.underlying26 (by kernel_rfl) (by show OpensF _ [_, _, _, _, _] 0 _ _; refine opensF_cons (off := 0) (d := (Kd.int .i64)) (e := (Kd.pair (Kd.slice 61 k61) (Kd.pair (Kd.slice 59 k59) (Kd.pair (Kd.slice 3 (Kd.int .i64)) (Kd.slice 3 (Kd.int .i64)))))) (ok := (fun n : Int => (Lit.int .i64 n).wf = true)) (ok' := (fun x : ((List (S61)) × ((List (S59)) × ((List (Int)) × (List (Int))))) => (fun l : List (S61) => l.length ≤ maxLen ∧ ∀ x ∈ l, (fun s : S61 => (fun x : ((Int) × (Int)) => (fun n : Int => (Lit.int .i64 n).wf = true) x.1 ∧ (fun n : Int => (Lit.int .i64 n).wf = true) x.2) ((fun x : S61 => (x.f0, x.f1)) s)) x) x.1 ∧ (fun x : ((List (S59)) × ((List (Int)) × (List (Int)))) => (fun l : List (S59) => l.length ≤ maxLen ∧ ∀ x ∈ l, (fun s : S59 => (fun x : ((Int) × (Int)) => (fun n : Int => (Lit.int .i64 n).wf = true) x.1 ∧ (fun n : Int => (Lit.int .i64 n).wf = true) x.2) ((fun x : S59 => (x.f0, x.f1)) s)) x) x.1 ∧ (fun x : ((List (Int)) × (List (Int))) => (fun l : List (Int) => l.length ≤ maxLen ∧ ∀ x ∈ l, (fun n : Int => (Lit.int .i64 n).wf = true) x) x.1 ∧ (fun l : List (Int) => l.length ≤ maxLen ∧ ∀ x ∈ l, (fun n : Int => (Lit.int .i64 n).wf = true) x) x.2) x.2) x.2)) rfl (by kernel_rfl) op3 ?_; refine opensF_cons (off := 1) (d := (Kd.slice 61 k61)) (e := (Kd.pair (Kd.slice 59 k59) (Kd.pair (Kd.slice 3 (Kd.int .i64)) (Kd.slice 3 (Kd.int .i64))))) (ok := (fun l : List (S61) => l.length ≤ maxLen ∧ ∀ x ∈ l, (fun s : S61 => (fun x : ((Int) × (Int)) => (fun n : Int => (Lit.int .i64 n).wf = true) x.1 ∧ (fun n : Int => (Lit.int .i64 n).wf = true) x.2) ((fun x : S61 => (x.f0, x.f1)) s)) x)) (ok' := (fun x : ((List (S59)) × ((List (Int)) × (List (Int)))) => (fun l : List (S59) => l.length ≤ maxLen ∧ ∀ x ∈ l, (fun s : S59 => (fun x : ((Int) × (Int)) => (fun n : Int => (Lit.int .i64 n).wf = true) x.1 ∧ (fun n : Int => (Lit.int .i64 n).wf = true) x.2) ((fun x : S59 => (x.f0, x.f1)) s)) x) x.1 ∧ (fun x : ((List (Int)) × (List (Int))) => (fun l : List (Int) => l.length ≤ maxLen ∧ ∀ x ∈ l, (fun n : Int => (Lit.int .i64 n).wf = true) x) x.1 ∧ (fun l : List (Int) => l.length ≤ maxLen ∧ ∀ x ∈ l, (fun n : Int => (Lit.int .i64 n).wf = true) x) x.2) x.2)) rfl (by kernel_rfl) op22 ?_; refine opensF_cons (off := 2) (d := (Kd.slice 59 k59)) (e := (Kd.pair (Kd.slice 3 (Kd.int .i64)) (Kd.slice 3 (Kd.int .i64)))) (ok := (fun l : List (S59) => l.length ≤ maxLen ∧ ∀ x ∈ l, (fun s : S59 => (fun x : ((Int) × (Int)) => (fun n : Int => (Lit.int .i64 n).wf = true) x.1 ∧ (fun n : Int => (Lit.int .i64 n).wf = true) x.2) ((fun x : S59 => (x.f0, x.f1)) s)) x)) (ok' := (fun x : ((List (Int)) × (List (Int))) => (fun l : List (Int) => l.length ≤ maxLen ∧ ∀ x ∈ l, (fun n : Int => (Lit.int .i64 n).wf = true) x) x.1 ∧ (fun l : List (Int) => l.length ≤ maxLen ∧ ∀ x ∈ l, (fun n : Int => (Lit.int .i64 n).wf = true) x) x.2)) rfl (by kernel_rfl) op23 ?_; refine opensF_cons (off := 3) (d := (Kd.slice 3 (Kd.int .i64))) (e := (Kd.slice 3 (Kd.int .i64))) (ok := (fun l : List (Int) => l.length ≤ maxLen ∧ ∀ x ∈ l, (fun n : Int => (Lit.int .i64 n).wf = true) x)) (ok' := (fun l : List (Int) => l.length ≤ maxLen ∧ ∀ x ∈ l, (fun n : Int => (Lit.int .i64 n).wf = true) x)) rfl (by kernel_rfl) op24 ?_; exact opensF_one (off := 4) (d := (Kd.slice 3 (Kd.int .i64))) (ok := (fun l : List (Int) => l.length ≤ maxLen ∧ ∀ x ∈ l, (fun n : Int => (Lit.int .i64 n).wf = true) x)) rfl (by kernel_rfl) op24) (fun x : S26 => (x.f0, x.f1, x.f2, x.f3, x.f4)) (fun a => ⟨a.1, a.2.1, a.2.2.1, a.2.2.2.1, a.2.2.2.2⟩) (fun _ => rfl)
set_option maxRecDepth 100000 in
theorem lifted (os : Os) (started : os.Started) (H : Type) (enc : TypeId × Value → H) :
    ReturnsInHanded {} Try.checked os 9 .any (Rows.orderSameSpec.pre6 enc Try.prog Try.f9 Rows.orderSameRow.domain false) (Rows.orderSameSpec.post enc Try.prog Try.f9 false true false false) := by
  refine returnsInHanded_of_change_sized (C := Try.checked) own started (by kernel_rfl) Try.func9
    (ChangeSpec.witness6 (enc := enc) (C := Try.checked) false ⟨#[], #[.agg #[.int .i64 0, .slice none 0 0, .slice none 0 0, .slice none 0 0, .slice none 0 0]], []⟩ 8 (by kernel_rfl) (by kernel_rfl) (by kernel_rfl) (by kernel_rfl)) ?_
  intro W base args ds gs before hval0 hW hcnd hsz0 _
  have hval : ∀ (j : Nat) t v, Try.f9.params[j]? = some t → args[j]? = some v → Value.okWide Try.prog W .any base t v := hval0
  have hW' := hW
  obtain ⟨p, q, hA0, hV, rfl, hfz, hnd⟩ := hW
  have hA : DataW.TrodAll enc Try.prog W 0 (fun _ => true) true Try.f9.params.toList args.toList ds p := hA0
  rw [Try.params9] at hA hval
  obtain ⟨v0, vs0, d0, ds0, p0, q0, hargs, rfl, rfl, h0, r0⟩ := trodAll_cons hA
  obtain ⟨rfl, rfl, rfl⟩ := trodAll_nil r0
  obtain rfl : args = #[v0] := by cases args; simp_all
  obtain ⟨rfl, rfl⟩ := trodVars_none hV
  have k0 := h0
  have lt0 : ∀ x ∈ p0, x.block < W.heap.size := by obtain ⟨m, hm⟩ := k0; exact DataW.trod_lt m _ _ _ hm
  obtain ⟨cs0, a0, rfl, hK0, ok0⟩ := open_arg_struct Try.underlying26 op26 (hval 0 26 v0 rfl rfl) h0
  obtain ⟨A0_1, c0_1, A0_2, c0_2, A0_3, c0_3, A0_4, c0_4, hcs0, hc0_1, hr0_1, hc0_2, hr0_2, hc0_3, hr0_3, hc0_4, hr0_4⟩ := k26_open hK0
  obtain rfl : cs0 = #[.int .i64 a0.f0, .slice A0_1 a0.f1.length c0_1, .slice A0_2 a0.f2.length c0_2, .slice A0_3 a0.f3.length c0_3, .slice A0_4 a0.f4.length c0_4] := by rw [← Array.toList_inj]; exact hcs0
  clear hA0 hval0 hsz0
  obtain ⟨k, hP⟩ := Pure.OrderSame a0 ok0
  refine (l3_OrderSame.calls k a0.f0 A0_1 c0_1 a0.f1 A0_2 c0_2 a0.f2 A0_3 c0_3 a0.f3 A0_4 c0_4 a0.f4 W hr0_1 hc0_1 hr0_2 hc0_2 hr0_3 hc0_3 hr0_4 hc0_4 hP).mono fun e W' ⟨he, bel⟩ => ?_
  subst he
  exact ⟨_, rfl, _, _, _, [], _, [], hW', trodAll_mk1 (shut_bool Try.underlying4 _), (trodAll_cons_mk (Below.trod laidOut (by kernel_rfl) (of_decide_eq_true (by kernel_rfl)) k0 bel lt0) trodAll_mk0), rfl, bel.frame _, fun h => by cases h⟩
theorem over : Rows.orderSameRow.holds Try.pinned (OpenSpec.ofChange Rows.orderSameSpec) :=
  OpenClaim.holds_of_wide 9 Try.f9 rfl rfl rfl rfl rfl rfl rfl ⟨rfl, rfl, rfl, rfl, rfl⟩ rfl rfl rfl rfl rfl (by kernel_rfl) Try.func9 (by kernel_rfl)
    (of_decide_eq_true (by kernel_rfl)) (by unfold Func.isWrapper; first | (rw [if_pos (by decide +kernel)]; kernel_rfl) | (rw [if_neg (by decide +kernel)]; exact ⟨rfl, rfl⟩))
    (fun os started H enc _ => lifted os started H enc)
theorem proved : Rows.OrderSameSaid := over
end Go.Proofs.Ytpdlkjpemplhoaa.orderSame
namespace Go.Proofs.Ytpdlkjpemplhoaa
theorem orderSame_holds : Rows.OrderSameSaid := orderSame.proved
end Go.Proofs.Ytpdlkjpemplhoaa
