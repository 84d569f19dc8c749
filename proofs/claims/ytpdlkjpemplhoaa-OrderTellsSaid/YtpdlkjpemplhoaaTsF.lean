/- Texts of one claim, packed: part 6 of 6 -/
import Derived.Test.YtpdlkjpemplhoaaTsE
import Derived.Deep.Slices
import Derived.ProofKit
import Derived.OpenShut
import Derived.ShutString
import Derived.Below
import Derived.Test.YtpdlkjpemplhoaaRows
import Derived.WalkKit
import Derived.ChangeOld
import Derived.SizedLaws
namespace Go.Proofs.Ytpdlkjpemplhoaa.P
open Go.RowKit Go.Proofs.YtpdlkjpemplhoaaW.PrintWords Go.Proofs.YtpdlkjpemplhoaaW.PrintLast Go.Proofs.YtpdlkjpemplhoaaW.PrintMore
set_option linter.unusedVariables false
set_option linter.unusedSimpArgs false
theorem loop_any {β : Type} (L : Nat → Nat → Option β) (n : Nat) (bad : Nat → Bool) (r : Option β) (fin : Nat → Option β) (hstep : ∀ k i, i < n → L (k + 1) i = if bad i = true then r else L k (i + 1)) (hend : ∀ k, L (k + 1) n = fin k) (d : Nat) :
 ∀ (i k : Nat), n - i = d → i ≤ n → d < k → L k i = if (List.range' i d).any bad = true then r else fin (k - d - 1) := by
 induction d with
 | zero =>
  intro i k hd hi hk
  obtain ⟨k, rfl⟩ : ∃ q, k = q + 1 := ⟨k - 1, by omega⟩
  obtain rfl : i = n := by omega
  rw [hend]; simp
 | succ d ih =>
  intro i k hd hi hk
  obtain ⟨k, rfl⟩ : ∃ q, k = q + 1 := ⟨k - 1, by omega⟩
  rw [hstep k i (by omega), List.range'_succ, List.any_cons]
  by_cases c : bad i = true
  · rw [if_pos c, c]; simp
  · rw [if_neg c, ih (i + 1) k (by omega) (by omega) (by omega), Bool.eq_false_iff.2 c, Bool.false_or, show k + 1 - (d + 1) - 1 = k - d - 1 by omega]
theorem any_at {α : Type} (ls : List α) (r : Nat → α) (hr : ∀ i (h : i < ls.length), r i = ls[i]) (f : α → Bool) : (List.range' 0 ls.length).any (fun i => f (r i)) = ls.any f := by
 have : ls = (List.range' 0 ls.length).map r := by
  apply List.ext_getElem
  · simp
  · intro i h1 h2
    simp
    exact (hr i h1).symm
 conv => rhs; rw [this, List.any_map]
 rfl
def badOwn (most x : Int) : Bool := decide (x < 2) || (Int.tmod x 2 == 1) || decide (x > 2 * most + 1)
def badUse (most x : Int) : Bool := decide (x < 0) || decide (x > 2 * most + 1)
def badRe (d : S56) : Bool := decide (d.f2 < 0) || decide (d.f2 > 2)
theorem off_eq {m x : Int} (hm : 0 ≤ m ∧ m ≤ 1000) (hx : I64 x) : offB m x = badUse m x := by
 unfold offB badUse I64 at *
 by_cases c : x < 0
 · simp [c]
 · rw [Int.tdiv_eq_ediv_of_nonneg (by omega), wrap_id (by omega) (by omega), Bool.eq_iff_iff]
   simp [c]; omega
theorem own_eq {m x : Int} (hm : 0 ≤ m ∧ m ≤ 1000) (hx : I64 x) : notOwnB m x = badOwn m x := by
 unfold notOwnB
 rw [off_eq hm hx]
 unfold badUse badOwn
 rw [Bool.eq_iff_iff]
 simp only [Bool.or_eq_true, decide_eq_true_iff]
 constructor
 · rintro ((( h | h) | h) | h)
   · left; left; omega
   · right; exact h
   · left; left; exact h
   · left; right; exact h
 · rintro ((h | h) | h)
   · left; right; exact h
   · right; exact h
   · left; left; right; exact h
theorem flat2_len (l3 : List S56) : (l3.flatMap (fun d => [d.f1, d.f2])).length = 2 * l3.length := by
 induction l3 with
 | nil => rfl
 | cons a t ih => rw [List.flatMap_cons, List.length_append, ih]; simp; omega
theorem use_len (l2 l3 : List S56) (l4 l5 : List Int) : (useL l2 l3 l4 l5).length = l4.length + l5.length + l2.length + 2 * l3.length := by
 unfold useL; rw [List.length_append, List.length_append, List.length_append, flat2_len, List.length_map]
section
variable (most : Int) (l1 : List Int) (l2 l3 : List S56) (l4 l5 : List Int)
theorem numbers_eq (hm : 0 ≤ most ∧ most ≤ 1000) (h1 : l1.length ≤ 10000) (h2 : l2.length ≤ 10000) (h3 : l3.length ≤ 10000) (h4 : l4.length ≤ 10000) (h5 : l5.length ≤ 10000) (k : Nat) (hk : 200000 ≤ k) :
 r3_numbers.f k most l1 l2 l3 l4 l5 = some (!((ownL l1 l2 l3).any (badOwn most) || (useL l2 l3 l4 l5).any (badUse most) || l2.any badRe)) := by
 unfold r3_numbers.f
 rw [refDefined_eq most l1 l2 l3 l4 l5 h1 h2 h3 k (by omega), Option.bind_some, refUsed_eq most l1 l2 l3 l4 l5 h2 h3 h4 h5 k (by omega), Option.bind_some]
 have hw : wrap64 (wrap64 (2 * most) + 1) = 2 * most + 1 := by rw [wrap_id (by omega : -9223372036854775808 ≤ 2 * most) (by omega), wrap_id (by omega) (by omega)]
 have ho : (ownL l1 l2 l3).length ≤ 30000 := by simp [ownL]; omega
 have hu : (useL l2 l3 l4 l5).length ≤ 60000 := by
  rw [use_len]; omega
 generalize ownL l1 l2 l3 = own at *
 generalize useL l2 l3 l4 l5 = use at *
 have e1 := loop_any (fun k i => r3_numbers.l0 k own use (i : Int) most l1 l2 l3 l4 l5) own.length (fun i => badOwn most (rd own (i : Int))) (some false) (fun k => r3_numbers.l1 k use 0 most l1 l2 l3 l4 l5)
  (fun k i hi => by
   simp only [r3_numbers.l0]
   rw [if_pos (by omega), if_pos (by omega), wi (by omega), hw]
   unfold badOwn
   by_cases c1 : rd own (i : Int) < 2
   · rw [if_pos c1]; simp [c1]
   · rw [if_neg c1]
     by_cases c2 : Int.tmod (rd own (i : Int)) 2 = 1
     · rw [if_pos c2]; simp [c1, c2]
     · rw [if_neg c2]
       by_cases c3 : rd own (i : Int) > 2 * most + 1
       · rw [if_pos c3]; simp [c1, c2, c3]
       · rw [if_neg c3]; simp [c1, c2, c3])
  (fun k => by simp only [r3_numbers.l0]; rw [if_neg (by omega)]) own.length 0 k (by omega) (by omega) (by omega)
 refine e1.trans ?_
 rw [any_at own (fun i => rd own (i : Int)) (fun i h => by simp [rd, h]) (badOwn most)]
 by_cases c : own.any (badOwn most) = true
 · rw [if_pos c, c]; rfl
 rw [if_neg c, Bool.eq_false_iff.2 c, Bool.false_or]
 have e2 := loop_any (fun k i => r3_numbers.l1 k use (i : Int) most l1 l2 l3 l4 l5) use.length (fun i => badUse most (rd use (i : Int))) (some false) (fun k => r3_numbers.l2 k 0 most l1 l2 l3 l4 l5)
  (fun k i hi => by
   simp only [r3_numbers.l1]
   rw [if_pos (by omega), if_pos (by omega), wi (by omega), hw]
   unfold badUse
   by_cases c1 : rd use (i : Int) < 0
   · rw [if_pos c1]; simp [c1]
   · rw [if_neg c1]
     by_cases c3 : rd use (i : Int) > 2 * most + 1
     · rw [if_pos c3]; simp [c1, c3]
     · rw [if_neg c3]; simp [c1, c3])
  (fun k => by simp only [r3_numbers.l1]; rw [if_neg (by omega)]) use.length 0 (k - own.length - 1) (by omega) (by omega) (by omega)
 refine e2.trans ?_
 rw [any_at use (fun i => rd use (i : Int)) (fun i h => by simp [rd, h]) (badUse most)]
 by_cases c : use.any (badUse most) = true
 · rw [if_pos c, c]; rfl
 rw [if_neg c, Bool.eq_false_iff.2 c, Bool.false_or]
 have e3 := loop_any (fun k i => r3_numbers.l2 k (i : Int) most l1 l2 l3 l4 l5) l2.length (fun i => badRe (rd_T56 l2 (i : Int))) (some false) (fun k => some true)
  (fun k i hi => by
   simp only [r3_numbers.l2]
   rw [if_pos (by omega), if_pos (by omega), wi (by omega)]
   unfold badRe
   by_cases c1 : (rd_T56 l2 (i : Int)).f2 < 0
   · rw [if_pos c1]; simp [c1]
   · rw [if_neg c1]
     by_cases c3 : (rd_T56 l2 (i : Int)).f2 > 2
     · rw [if_pos c3]; simp [c1, c3]
     · rw [if_neg c3]; simp [c1, c3])
  (fun k => by simp only [r3_numbers.l2]; rw [if_neg (by omega)]) l2.length 0 (k - own.length - 1 - use.length - 1) (by omega) (by omega) (by omega)
 refine e3.trans ?_
 rw [any_at l2 (fun i => rd_T56 l2 (i : Int)) (rdT_get _) badRe]
 cases l2.any badRe <;> simp
end
end Go.Proofs.Ytpdlkjpemplhoaa.P
namespace Go.Proofs.Ytpdlkjpemplhoaa.P
open Go.RowKit Go.Proofs.YtpdlkjpemplhoaaW.PrintWords Go.Proofs.YtpdlkjpemplhoaaW.PrintLast Go.Proofs.YtpdlkjpemplhoaaW.PrintMore
set_option linter.unusedVariables false
set_option linter.unusedSimpArgs false
def varN (x : Int) : Nat := (x / 2).toNat
theorem var_w {x : Int} (h0 : 0 ≤ x) (h1 : x ≤ 3000) : wrap64 (Int.tdiv x 2) = (varN x : Int) := by
 unfold varN
 rw [Int.tdiv_eq_ediv_of_nonneg h0, wrap_id (by omega) (by omega)]; omega
theorem times_l0 (m : Nat) (own : List Int) (hl : own.length ≤ 100000) (ho : ∀ x ∈ own, 0 ≤ x ∧ x ≤ 2 * (m : Int) + 1) (hm : m ≤ 1000) (d : Nat) : ∀ (i k : Nat) (x3 : List Int), own.length - i = d → i ≤ own.length → d < k → x3.length = m + 1 → (∀ u, u ≤ m → 0 ≤ gt x3 u ∧ gt x3 u ≤ (i : Int) + 1) →
 ∃ x3', r3_Times.l0 k x3 own (i : Int) = some x3' ∧ x3'.length = m + 1 ∧ ∀ u, u ≤ m → gt x3' u = gt x3 u + (((own.drop i).map varN).count u : Int) := by
 induction d with
 | zero =>
  intro i k x3 hd hi hk h3 hb
  obtain ⟨k, rfl⟩ : ∃ q, k = q + 1 := ⟨k - 1, by omega⟩
  simp only [r3_Times.l0]
  rw [if_neg (by omega), List.drop_eq_nil_of_le (by omega)]
  exact ⟨x3, rfl, h3, fun u hu => by simp⟩
 | succ d ih =>
  intro i k x3 hd hi hk h3 hb
  obtain ⟨k, rfl⟩ : ∃ q, k = q + 1 := ⟨k - 1, by omega⟩
  have hlt : i < own.length := by omega
  have hx := ho _ (rd_mem hlt)
  have hv : varN (rd own (i : Int)) ≤ m := by unfold varN; omega
  have hb0 := hb _ hv
  simp only [r3_Times.l0]
  rw [var_w hx.1 (by omega), if_pos (by omega), if_pos (by omega), if_pos (by omega), if_pos (by omega), Int.toNat_natCast, rd_gt x3 (varN (rd own (i : Int))), wi (by omega), wrap_id (by omega : -9223372036854775808 ≤ gt x3 (varN (rd own (i : Int))) + 1) (by omega)]
  obtain ⟨x3', e1, e2, e3⟩ := ih (i + 1) k (x3.set (varN (rd own (i : Int))) (gt x3 (varN (rd own (i : Int))) + 1)) (by omega) (by omega) (by omega) (by simpa using h3) (fun u hu => by
   rw [gt_set _ _ _ _ (by omega)]
   have := hb u hu
   split
   · rename_i e; subst e; omega
   · omega)
  refine ⟨x3', e1, e2, fun u hu => ?_⟩
  rw [e3 u hu, gt_set _ _ _ _ (by omega), rd_drop hlt, List.map_cons, List.count_cons]
  by_cases e : u = varN (rd own (i : Int))
  · rw [← e, if_pos rfl]; simp +arith <;> omega
  · rw [if_neg e]
    have : (varN (rd own (i : Int)) == u) = false := by rw [beq_eq_false_iff_ne]; exact fun h => e h.symm
    rw [this]; simp
theorem times_eq (m : Nat) (l1 : List Int) (l2 l3 : List S56) (l4 l5 : List Int) (hm : m ≤ 1000) (h1 : l1.length ≤ 10000) (h2 : l2.length ≤ 10000) (h3 : l3.length ≤ 10000) (ho : ∀ x ∈ ownL l1 l2 l3, 0 ≤ x ∧ x ≤ 2 * (m : Int) + 1) (k : Nat) (hk : 200000 ≤ k) :
 ∃ t, r3_Times.f k (m : Int) l1 l2 l3 l4 l5 = some t ∧ t.length = m + 1 ∧ ∀ u, u ≤ m → gt t u = (if u = 0 then 1 else 0) + (((ownL l1 l2 l3).map varN).count u : Int) := by
 unfold r3_Times.f
 rw [wrap_id (by omega : -9223372036854775808 ≤ (m : Int) + 1) (by omega), if_pos (by omega), if_pos (by omega), show ((m : Int) + 1).toNat = m + 1 by omega]
 simp only [Option.bind_some]
 rw [if_pos (by simp), refDefined_eq (m : Int) l1 l2 l3 l4 l5 h1 h2 h3 k (by omega), Option.bind_some]
 have hol : (ownL l1 l2 l3).length ≤ 100000 := by simp [ownL]; omega
 have hg0 : ∀ u, u ≤ m → gt ((List.replicate (m + 1) (0 : Int)).set (0 : Int).toNat 1) u = if u = 0 then 1 else 0 := by
  intro u hu
  rw [show (0 : Int).toNat = 0 from rfl, gt_set _ _ _ _ (by simp)]
  by_cases e : u = 0
  · rw [if_pos e, if_pos e]
  · rw [if_neg e, if_neg e]; unfold gt; rw [List.getD_eq_getElem?_getD, List.getElem?_replicate, if_pos (by omega)]; rfl
 obtain ⟨t, e1, e2, e3⟩ := times_l0 m (ownL l1 l2 l3) hol ho hm (ownL l1 l2 l3).length 0 k ((List.replicate (m + 1) (0 : Int)).set (0 : Int).toNat 1) (by omega) (by omega) (by omega) (by simp) (fun u hu => by rw [hg0 u hu]; split <;> omega)
 refine ⟨t, e1, e2, fun u hu => ?_⟩
 rw [e3 u hu, hg0 u hu, List.drop_zero]
theorem twice_ok : ∀ (l : List Int) (g : List Bool), (∀ x ∈ l, 0 ≤ x ∧ x / 2 < (g.length : Int)) →
 ∃ g', chkTwice l g = some (if (l.map varN).Nodup ∧ (∀ u ∈ l.map varN, gb g u = false) then some g' else none) ∧ g'.length = g.length ∧ ∀ u, gb g' u = (gb g u || (l.map varN).contains u) := by
 intro l
 induction l with
 | nil => intro g _; exact ⟨g, by simp [chkTwice], rfl, fun u => by simp⟩
 | cons x t ih =>
  intro g h
  have hx := h x List.mem_cons_self
  have hq : x / 2 = (varN x : Int) := by unfold varN; omega
  simp only [chkTwice]
  rw [if_pos hx, hq, rdOf_gb, Int.toNat_natCast]
  obtain ⟨g', e1, e2, e3⟩ := ih (g.set (varN x) true) (fun y hy => by rw [List.length_set]; exact h y (List.mem_cons_of_mem _ hy))
  have hset := fun u => gb_set g (varN x) u true (by omega)
  refine ⟨g', ?_, by rw [e2, List.length_set], fun u => ?_⟩
  · by_cases c : gb g (varN x) = true
    · rw [if_pos c, if_neg]
      rintro ⟨_, h2⟩
      have := h2 (varN x) (by simp)
      rw [c] at this; cases this
    · rw [if_neg c, e1]
      congr 1
      have hiff : ((t.map varN).Nodup ∧ ∀ u ∈ t.map varN, gb (g.set (varN x) true) u = false) ↔ (((x :: t).map varN).Nodup ∧ ∀ u ∈ (x :: t).map varN, gb g u = false) := by
       rw [List.map_cons, List.nodup_cons]
       constructor
       · rintro ⟨a, b⟩
         have hn : varN x ∉ t.map varN := fun hm => by
          have := b _ hm
          rw [hset, if_pos rfl] at this; cases this
         refine ⟨⟨hn, a⟩, fun u hu => ?_⟩
         rcases List.mem_cons.1 hu with rfl | hu
         · exact Bool.eq_false_iff.2 c
         · have := b u hu
           rw [hset] at this
           split at this
           · cases this
           · exact this
       · rintro ⟨⟨hn, a⟩, b⟩
         refine ⟨a, fun u hu => ?_⟩
         rw [hset, if_neg (fun e : u = varN x => hn (e ▸ hu))]
         exact b u (List.mem_cons_of_mem _ hu)
      by_cases p : ((t.map varN).Nodup ∧ ∀ u ∈ t.map varN, gb (g.set (varN x) true) u = false)
      · rw [if_pos p, if_pos (hiff.1 p)]
      · rw [if_neg p, if_neg (fun q => p (hiff.2 q))]
  · rw [e3, hset, List.map_cons, List.contains_cons]
    by_cases e : u = varN x
    · subst e; simp
    · have : (u == varN x) = false := by rw [beq_eq_false_iff_ne]; exact e
      rw [if_neg e, this, Bool.false_or]
end Go.Proofs.Ytpdlkjpemplhoaa.P
namespace Go.Proofs.Ytpdlkjpemplhoaa.P
open Go.RowKit Go.Proofs.YtpdlkjpemplhoaaW.PrintWords Go.Proofs.YtpdlkjpemplhoaaW.PrintLast Go.Proofs.YtpdlkjpemplhoaaW.PrintMore
set_option linter.unusedVariables false
set_option linter.unusedSimpArgs false
def loose (own : List Int) (x : Int) : Bool := !(decide (varN x = 0) || (own.map varN).contains (varN x))
def chkVal (own use : List Int) (l3 : List S56) : Int :=
 if ¬ (own.map varN).Nodup then 43 else if use.any (loose own) = true then 46 else if (ordS l3 l3.length []).length < l3.length then 41 else 0
theorem nodup_at {α : Type} {l : List α} (h : l.Nodup) {i j : Nat} (hi : i < l.length) (hj : j < l.length) (e : l[i] = l[j]) : i = j := by
 rcases Nat.lt_trichotomy i j with c | c | c
 · exact absurd e (List.pairwise_iff_getElem.1 h i j hi hj c)
 · exact c
 · exact absurd e.symm (List.pairwise_iff_getElem.1 h j i hj hi c)
section
variable {m : Nat} {own use : List Int} {l3 : List S56}
theorem varN_pos (ho : ∀ x ∈ own, 2 ≤ x ∧ x ≤ 2 * (m : Int) + 1) : ∀ u ∈ own.map varN, 1 ≤ u ∧ u ≤ m := by
 intro u hu
 obtain ⟨x, hx, rfl⟩ := List.mem_map.1 hu
 have := ho x hx
 unfold varN; omega
theorem twice_any (ho : ∀ x ∈ own, 2 ≤ x ∧ x ≤ 2 * (m : Int) + 1) (t : List Int) (ht : ∀ u, u ≤ m → gt t u = (if u = 0 then 1 else 0) + (((own.map varN).count u : Nat) : Int)) :
 (List.range' 0 (m + 1)).any (fun u => decide (gt t u > 1)) = true ↔ ¬ (own.map varN).Nodup := by
 have hp := varN_pos ho
 rw [List.any_eq_true, List.nodup_iff_count]
 constructor
 · rintro ⟨u, hu, h⟩ hn
   have hu' : u ≤ m := by rw [List.mem_range'_1] at hu; omega
   have h := of_decide_eq_true h
   rw [ht u hu'] at h
   have := hn u
   by_cases e : u = 0
   · subst e
     have h0 : List.count 0 (own.map varN) = 0 := List.count_eq_zero.2 (fun hm => by have := hp 0 hm; omega)
     rw [h0, if_pos rfl] at h; omega
   · rw [if_neg e] at h; omega
 · intro hn
   by_cases h : ∃ u, 1 < List.count u (own.map varN)
   · obtain ⟨u, h⟩ := h
     have hm : u ∈ own.map varN := List.count_pos_iff.1 (by omega)
     have := hp u hm
     refine ⟨u, by rw [List.mem_range'_1]; omega, decide_eq_true ?_⟩
     rw [ht u (by omega)]; split <;> omega
   · exact absurd (fun u => by
      have : ¬ 1 < List.count u (own.map varN) := fun c => h ⟨u, c⟩
      omega) hn
theorem ok_of (hm : m ≤ 1000) (h3 : l3.length ≤ 1000) (ho : ∀ x ∈ own, 2 ≤ x ∧ x ≤ 2 * (m : Int) + 1) (hu : ∀ x ∈ use, 0 ≤ x ∧ x ≤ 2 * (m : Int) + 1) (l1 : List Int) (l2 : List S56) (l4 l5 : List Int) (eo : own = ownL l1 l2 l3) (eu : use = useL l2 l3 l4 l5) (hn : (own.map varN).Nodup) : Ok m l3 := by
 have ho0 : ∀ d ∈ l3, d.f0 ∈ own := fun d hd => by
  rw [eo]; unfold ownL; exact List.mem_append_right _ (List.mem_map_of_mem hd)
 have hu1 : ∀ d ∈ l3, d.f1 ∈ use := fun d hd => by
  rw [eu]; unfold useL; exact List.mem_append_right _ (List.mem_flatMap.2 ⟨d, hd, by simp⟩)
 have hu2 : ∀ d ∈ l3, d.f2 ∈ use := fun d hd => by
  rw [eu]; unfold useL; exact List.mem_append_right _ (List.mem_flatMap.2 ⟨d, hd, by simp⟩)
 refine ⟨fun d hd => ?_, fun d hd => ?_, fun d hd => ?_, ⟨hm, h3⟩, fun i j hi hj e => ?_⟩
 · have := ho _ (ho0 d hd); omega
 · have := hu _ (hu1 d hd); omega
 · have := hu _ (hu2 d hd); omega
 · have hq : (l3.map (fun d => vrD d)).Nodup := by
    rw [eo] at hn
    unfold ownL at hn
    rw [List.map_append, List.nodup_append] at hn
    have := hn.2.1
    rw [List.map_map] at this
    exact this
   have hg : ∀ i (h : i < l3.length), vr l3 i = (l3.map (fun d => vrD d))[i]'(by simpa using h) := fun i h => by
    unfold vr rd_T56
    simp [h]
   rw [hg i hi, hg j hj] at e
   exact (nodup_at hq _ _ e)
theorem kn_start (m : Nat) (u : Nat) : gb ((List.replicate (m + 1) false).set 0 true) u = decide (u = 0) := by
 rw [gb_set _ _ _ _ (by simp)]
 by_cases e : u = 0
 · simp [e]
 · rw [if_neg e]
   simp only [gb, List.getD_eq_getElem?_getD, List.getElem?_replicate]
   split <;> simp [e]
theorem prog_val (hm : m ≤ 1000) (h3 : l3.length ≤ 1000) (ho : ∀ x ∈ own, 2 ≤ x ∧ x ≤ 2 * (m : Int) + 1) (hu : ∀ x ∈ use, 0 ≤ x ∧ x ≤ 2 * (m : Int) + 1) (l1 : List Int) (l2 : List S56) (l4 l5 : List Int) (eo : own = ownL l1 l2 l3) (eu : use = useL l2 l3 l4 l5) :
 (chkTwice own ((List.replicate ((m : Int) + 1).toNat false).set 0 true)).bind (chkRest (m : Int) l3 use) = some (chkVal own use l3) := by
 rw [show ((m : Int) + 1).toNat = m + 1 by omega]
 obtain ⟨g', e1, e2, e3⟩ := twice_ok own ((List.replicate (m + 1) false).set 0 true) (fun x hx => by
  have := ho x hx
  simp; omega)
 rw [e1, Option.bind_some]
 have hl : g'.length = m + 1 := by rw [e2]; simp
 have hz : ∀ u ∈ own.map varN, gb ((List.replicate (m + 1) false).set 0 true) u = false := fun u hu => by
  have := varN_pos ho u hu
  rw [kn_start]; exact decide_eq_false (by omega)
 unfold chkVal
 by_cases hn : (own.map varN).Nodup
 · rw [if_pos ⟨hn, hz⟩, if_neg (fun c => c hn)]
   simp only [chkRest]
   have hv : ∀ x ∈ use, wrap64 (Int.tdiv x 2) = (varN x : Int) ∧ varN x ≤ m := fun x hx => by
    have := hu x hx
    exact ⟨var_w this.1 (by omega), by unfold varN; omega⟩
   rw [if_pos (by
    rw [List.all_eq_true]
    intro x hx
    obtain ⟨h1, h2⟩ := hv x hx
    rw [h1, hl, Bool.and_eq_true]
    exact ⟨decide_eq_true (by omega), decide_eq_true (by omega)⟩)]
   have ha : use.any (fun x => !rdOf false g' (wrap64 (Int.tdiv x 2))) = use.any (loose own) := by
    rw [Bool.eq_iff_iff, List.any_eq_true, List.any_eq_true]
    have he : ∀ x ∈ use, (!rdOf false g' (wrap64 (Int.tdiv x 2))) = loose own x := fun x hx => by
     rw [(hv x hx).1, rdOf_gb, e3, kn_start]; rfl
    constructor
    · rintro ⟨x, hx, h⟩; exact ⟨x, hx, he x hx ▸ h⟩
    · rintro ⟨x, hx, h⟩; exact ⟨x, hx, (he x hx).symm ▸ h⟩
   rw [ha, sorted_eq m l3 (ok_of hm h3 ho hu l1 l2 l4 l5 eo eu hn)]
   by_cases c : use.any (loose own) = true
   · rw [if_pos c, if_pos c]
   · rw [if_neg c, if_neg c, Option.bind_some, List.length_map]
     split <;> rfl
 · rw [if_neg (fun c => hn c.1), if_pos hn]; rfl
theorem ref_val (l1 : List Int) (l2 : List S56) (l4 l5 : List Int) (hm : m ≤ 1000) (h1 : l1.length ≤ 1000) (h2 : l2.length ≤ 1000) (h3 : l3.length ≤ 1000) (h4 : l4.length ≤ 1000) (h5 : l5.length ≤ 1000) (ho : ∀ x ∈ own, 2 ≤ x ∧ x ≤ 2 * (m : Int) + 1) (hu : ∀ x ∈ use, 0 ≤ x ∧ x ≤ 2 * (m : Int) + 1) (eo : own = ownL l1 l2 l3) (eu : use = useL l2 l3 l4 l5) (k : Nat) (hk : 3000000 ≤ k) :
 ((r3_Times.f k (m : Int) l1 l2 l3 l4 l5).bind fun t => r3_Check.l0 k t 0 (m : Int) l1 l2 l3 l4 l5) = some (chkVal own use l3) := by
 obtain ⟨t, e1, e2, e3⟩ := times_eq m l1 l2 l3 l4 l5 hm (by omega) (by omega) (by omega) (fun x hx => by have := ho x (eo ▸ hx); omega) k (by omega)
 rw [← eo] at e3
 rw [e1, Option.bind_some]
 have hul : use.length ≤ 10000 := by rw [eu, use_len]; omega
 have s1 := loop_any (fun k i => r3_Check.l0 k t (i : Int) (m : Int) l1 l2 l3 l4 l5) (m + 1) (fun u => decide (gt t u > 1)) (some 43) (fun k => (r3_Used.f k (m : Int) l1 l2 l3 l4 l5).bind fun t397 => (r3_Check.l1 k t t397 0 (m : Int) l1 l2 l3 l4 l5))
  (fun k i hi => by
   simp only [r3_Check.l0]
   rw [if_pos (by omega), if_pos (by omega), if_pos (by omega), wi (by omega), rd_gt]
   by_cases c : gt t i > 1
   · rw [if_pos c, if_pos (decide_eq_true c)]
   · rw [if_neg c, if_neg (by rw [decide_eq_true_iff]; exact c)])
  (fun k => by simp only [r3_Check.l0]; rw [if_neg (by omega)]) (m + 1) 0 k (by omega) (by omega) (by omega)
 refine s1.trans ?_
 unfold chkVal
 by_cases hn : (own.map varN).Nodup
 · rw [if_neg (fun c => (twice_any ho t e3).1 c hn), if_neg (fun c => c hn), refUsed_eq (m : Int) l1 l2 l3 l4 l5 (by omega) (by omega) (by omega) (by omega) _ (by omega), Option.bind_some, ← eu]
   have s2 := loop_any (fun k i => r3_Check.l1 k t use (i : Int) (m : Int) l1 l2 l3 l4 l5) use.length (fun i => loose own (rd use (i : Int))) (some 46) (fun k => ((r3_Order.f k (m : Int) l1 l2 l3 l4 l5).bind fun t402 => (if (t402.length : Int) < (l3.length : Int) then (some 41) else (some 0))))
    (fun k i hi => by
     have hx := hu _ (rd_mem hi)
     have hv : varN (rd use (i : Int)) ≤ m := by unfold varN; omega
     simp only [r3_Check.l1]
     rw [if_pos (by omega), if_pos (by omega), wi (by omega), var_w hx.1 (by omega), if_pos (by omega), if_pos (by omega), rd_gt t (varN (rd use (i : Int))), e3 _ hv]
     unfold loose
     by_cases c : varN (rd use (i : Int)) = 0
     · rw [if_pos c, if_neg (by omega)]; simp [c]
     · rw [if_neg c]
       by_cases d : varN (rd use (i : Int)) ∈ own.map varN
       · have := List.count_pos_iff.2 d
         rw [if_neg (by omega), List.contains_iff_mem.2 d]; simp
       · have := List.count_eq_zero.2 d
         rw [if_pos (by omega), Bool.eq_false_iff.2 (fun h => d (List.contains_iff_mem.1 h))]; simp [c])
    (fun k => by simp only [r3_Check.l1]; rw [if_neg (by omega)]) use.length 0 (k - (m + 1) - 1) (by omega) (by omega) (by omega)
   refine s2.trans ?_
   rw [any_at use (fun i => rd use (i : Int)) (fun i h => by simp [rd, h]) (loose own), refOrder_eq l1 l2 l4 l5 (ok_of hm h3 ho hu l1 l2 l4 l5 eo eu hn) _ (by omega)]
   by_cases c : use.any (loose own) = true
   · rw [if_pos c, if_pos c]
   · rw [if_neg c, if_neg c, Option.bind_some, List.length_map]
     by_cases d : (ordS l3 l3.length []).length < l3.length
     · rw [if_pos d, if_pos (by omega)]
     · rw [if_neg d, if_neg (by omega)]
 · rw [if_pos ((twice_any ho t e3).2 hn), if_pos hn]
end
end Go.Proofs.Ytpdlkjpemplhoaa.P
namespace Go.Proofs.Ytpdlkjpemplhoaa.P
open Go.RowKit Go.Proofs.YtpdlkjpemplhoaaW.PrintWords Go.Proofs.YtpdlkjpemplhoaaW.PrintLast Go.Proofs.YtpdlkjpemplhoaaW.PrintMore
set_option linter.unusedVariables false
set_option linter.unusedSimpArgs false
def badAny (most : Int) (l1 : List Int) (l2 l3 : List S56) (l4 l5 : List Int) : Bool := (ownL l1 l2 l3).any (badOwn most) || (useL l2 l3 l4 l5).any (badUse most) || l2.any badRe
def manyP (most : Int) (l1 : List Int) (l2 l3 : List S56) (l4 l5 : List Int) : Prop := 1000 < most ∨ 1000 < l1.length + l2.length + l3.length ∨ 100 < l4.length ∨ 100 < l5.length
instance (most : Int) (l1 : List Int) (l2 l3 : List S56) (l4 l5 : List Int) : Decidable (manyP most l1 l2 l3 l4 l5) := by unfold manyP; infer_instance
def chkS (most : Int) (l1 : List Int) (l2 l3 : List S56) (l4 l5 : List Int) : Int :=
 if most < 0 then 8 else if manyP most l1 l2 l3 l4 l5 then 4 else if badAny most l1 l2 l3 l4 l5 = true then 8 else chkVal (ownL l1 l2 l3) (useL l2 l3 l4 l5) l3
section
variable {most : Int} {l1 : List Int} {l2 l3 : List S56} {l4 l5 : List Int}
structure Num (most : Int) (l1 : List Int) (l2 l3 : List S56) (l4 l5 : List Int) : Prop where
 m : 0 ≤ most ∧ most ≤ 1000
 len : l1.length + l2.length + l3.length ≤ 1000
 own : ∀ x ∈ ownL l1 l2 l3, 2 ≤ x ∧ x ≤ 2 * most + 1 ∧ x % 2 = 0
 use : ∀ x ∈ useL l2 l3 l4 l5, 0 ≤ x ∧ x ≤ 2 * most + 1
 l4 : l4.length ≤ 100
 l5 : l5.length ≤ 100
theorem num_of (h0 : ¬ most < 0) (h1 : ¬ manyP most l1 l2 l3 l4 l5) (h2 : ¬ badAny most l1 l2 l3 l4 l5 = true) : Num most l1 l2 l3 l4 l5 := by
 unfold manyP at h1
 unfold badAny at h2
 rw [Bool.or_eq_true, Bool.or_eq_true, not_or, not_or] at h2
 obtain ⟨⟨a, b⟩, -⟩ := h2
 refine ⟨by omega, by omega, fun x hx => ?_, fun x hx => ?_, by omega, by omega⟩
 · have this : ¬ badOwn most x = true := fun c => a (List.any_eq_true.2 ⟨x, hx, c⟩)
   unfold badOwn at this
   simp only [Bool.or_eq_true, decide_eq_true_eq, not_or, beq_iff_eq] at this
   obtain ⟨⟨a1, a2⟩, a3⟩ := this
   have := Int.tmod_eq_emod_of_nonneg (b := 2) (show 0 ≤ x by omega)
   omega
 · have this : ¬ badUse most x = true := fun c => b (List.any_eq_true.2 ⟨x, hx, c⟩)
   unfold badUse at this
   simp only [Bool.or_eq_true, decide_eq_true_eq, not_or] at this
   omega
theorem prog_chk (h1 : l1.length ≤ 2000) (h2 : l2.length ≤ 2000) (h3 : l3.length ≤ 2000) (h4 : l4.length ≤ 2000) (h5 : l5.length ≤ 2000) (ho : ∀ x ∈ ownL l1 l2 l3, I64 x) (hu : ∀ x ∈ useL l2 l3 l4 l5, I64 x) :
 order_Check.f most l1 l2 l3 l4 l5 = some (chkS most l1 l2 l3 l4 l5) := by
 unfold order_Check.f chkS
 by_cases c0 : most < 0
 · rw [if_pos c0, if_pos c0]
 rw [if_neg c0, if_neg c0]
 have hw : wrap64 (wrap64 ((l1.length : Int) + (l2.length : Int)) + (l3.length : Int)) = (l1.length : Int) + l2.length + l3.length := by rw [wrap_id (by omega : -9223372036854775808 ≤ (l1.length : Int) + (l2.length : Int)) (by omega), wrap_id (by omega) (by omega)]
 rw [hw]
 by_cases c1 : manyP most l1 l2 l3 l4 l5
 · rw [if_pos c1]
   unfold manyP at c1
   by_cases d1 : 1000 < most
   · rw [if_pos d1]
   rw [if_neg d1]
   by_cases d2 : 1000 < (l1.length : Int) + l2.length + l3.length
   · rw [if_pos d2]
   rw [if_neg d2, if_pos]
   unfold mx
   split <;> omega
 have hc1 := c1
 rw [if_neg c1]
 unfold manyP at c1
 rw [if_neg (by omega), if_neg (by omega), if_neg (by unfold mx; split <;> omega), defined_eq most l1 l2 l3 l4 l5 (by omega) (by omega) (by omega) _ (by omega), used_eq most l1 l2 l3 l4 l5 (by omega) (by omega) (by omega) (by omega) _ (by omega)]
 simp only [Option.bind_some]
 unfold chkMain
 have e1 : (ownL l1 l2 l3).any (notOwnB most) = (ownL l1 l2 l3).any (badOwn most) := by
  rw [Bool.eq_iff_iff, List.any_eq_true, List.any_eq_true]
  constructor
  · rintro ⟨x, hx, h⟩; exact ⟨x, hx, own_eq (m := most) (by omega) (ho x hx) ▸ h⟩
  · rintro ⟨x, hx, h⟩; exact ⟨x, hx, (own_eq (m := most) (by omega) (ho x hx)).symm ▸ h⟩
 have e2 : (useL l2 l3 l4 l5).any (offB most) = (useL l2 l3 l4 l5).any (badUse most) := by
  rw [Bool.eq_iff_iff, List.any_eq_true, List.any_eq_true]
  constructor
  · rintro ⟨x, hx, h⟩; exact ⟨x, hx, off_eq (m := most) (by omega) (hu x hx) ▸ h⟩
  · rintro ⟨x, hx, h⟩; exact ⟨x, hx, (off_eq (m := most) (by omega) (hu x hx)).symm ▸ h⟩
 rw [e1, e2]
 have e3 : (l2.any fun x => decide (x.f2 < 0) || decide (2 < x.f2)) = l2.any badRe := rfl
 rw [e3]
 by_cases c2 : badAny most l1 l2 l3 l4 l5 = true
 · rw [if_pos c2]
   unfold badAny at c2
   by_cases d1 : (ownL l1 l2 l3).any (badOwn most) = true
   · rw [if_pos d1]
   rw [if_neg d1]
   by_cases d2 : (useL l2 l3 l4 l5).any (badUse most) = true
   · rw [if_pos d2]
   rw [if_neg d2, if_pos]
   rw [Bool.eq_false_iff.2 d1, Bool.eq_false_iff.2 d2] at c2
   simpa using c2
 have hN := num_of c0 hc1 c2
 rw [if_neg c2]
 unfold badAny at c2
 rw [Bool.or_eq_true, Bool.or_eq_true, not_or, not_or] at c2
 rw [if_neg c2.1.1, if_neg c2.1.2, if_neg c2.2]
 obtain ⟨m, rfl⟩ := Int.eq_ofNat_of_zero_le hN.m.1
 have hm := hN.m.2
 have hlen := hN.len
 exact prog_val (by omega) (by omega) (fun x hx => ⟨(hN.own x hx).1, (hN.own x hx).2.1⟩) hN.use l1 l2 l4 l5 rfl rfl
theorem ref_chk (h1 : l1.length ≤ 2000) (h2 : l2.length ≤ 2000) (h3 : l3.length ≤ 2000) (h4 : l4.length ≤ 2000) (h5 : l5.length ≤ 2000) (k : Nat) (hk : 3000002 ≤ k) :
 r3_Check.f k most l1 l2 l3 l4 l5 = some (chkS most l1 l2 l3 l4 l5) := by
 obtain ⟨k, rfl⟩ : ∃ q, k = q + 1 := ⟨k - 1, by omega⟩
 unfold r3_Check.f chkS
 simp only [r3_Check.j0]
 by_cases c0 : most < 0
 · rw [if_pos c0, if_pos c0]
 rw [if_neg c0, if_neg c0]
 have hw : wrap64 (wrap64 ((l1.length : Int) + (l2.length : Int)) + (l3.length : Int)) = (l1.length : Int) + l2.length + l3.length := by rw [wrap_id (by omega : -9223372036854775808 ≤ (l1.length : Int) + (l2.length : Int)) (by omega), wrap_id (by omega) (by omega)]
 rw [hw]
 by_cases c1 : manyP most l1 l2 l3 l4 l5
 · rw [if_pos c1]
   unfold manyP at c1
   simp only [if_true]
   by_cases d1 : most > 1000
   · rw [if_pos d1]
   rw [if_neg d1]
   by_cases d2 : (l1.length : Int) + l2.length + l3.length > 1000
   · rw [if_pos d2]
   rw [if_neg d2]
   by_cases d3 : (l4.length : Int) > 100
   · rw [if_pos d3]
   rw [if_neg d3, if_pos (decide_eq_true (by omega))]
 have hc1 := c1
 rw [if_neg c1]
 unfold manyP at c1
 rw [if_neg (by omega), if_neg (by omega), if_neg (by omega), if_neg (by rw [decide_eq_true_iff]; omega), numbers_eq most l1 l2 l3 l4 l5 (by omega) (by omega) (by omega) (by omega) (by omega) (by omega) k (by omega), Option.bind_some]
 by_cases c2 : badAny most l1 l2 l3 l4 l5 = true
 · rw [if_pos c2]
   unfold badAny at c2
   rw [c2]; rfl
 have hN := num_of c0 hc1 c2
 rw [if_neg c2]
 have hc2 := Bool.eq_false_iff.2 c2
 unfold badAny at hc2
 rw [hc2, if_pos (by rfl)]
 obtain ⟨m, rfl⟩ := Int.eq_ofNat_of_zero_le hN.m.1
 have hm := hN.m.2
 have hlen := hN.len
 exact ref_val l1 l2 l4 l5 (by omega) (by omega) (by omega) (by omega) (by omega) (by omega) (fun x hx => ⟨(hN.own x hx).1, (hN.own x hx).2.1⟩) hN.use rfl rfl k (by omega)
end
end Go.Proofs.Ytpdlkjpemplhoaa.P
namespace Go.Proofs.Ytpdlkjpemplhoaa.P
open Go.RowKit Go.Proofs.YtpdlkjpemplhoaaW.PrintWords Go.Proofs.YtpdlkjpemplhoaaW.PrintLast Go.Proofs.YtpdlkjpemplhoaaW.PrintMore
set_option linter.unusedVariables false
set_option linter.unusedSimpArgs false
def numW : List Nat → Nat → List Int → List Int
 | [], _, g => g
 | v :: t, x, g => numW t (x + 1) (g.set v (x : Int))
theorem numW_append (a b : List Nat) : ∀ x g, numW (a ++ b) x g = numW b (x + a.length) (numW a x g) := by
 induction a with
 | nil => intro x g; rfl
 | cons v t ih => intro x g; simp only [List.cons_append, numW, ih, List.length_cons]; rw [show x + 1 + t.length = x + (t.length + 1) by omega]
theorem numW_len (a : List Nat) : ∀ x g, (numW a x g).length = g.length := by
 induction a with
 | nil => intro x g; rfl
 | cons v t ih => intro x g; simp only [numW, ih, List.length_set]
theorem numW_bd (B : Int) (a : List Nat) : ∀ (x : Nat) (g : List Int), (∀ u, u < g.length → -1 ≤ gt g u ∧ gt g u ≤ B) → (x : Int) + a.length ≤ B → (∀ v ∈ a, v < g.length) → ∀ u, u < g.length → -1 ≤ gt (numW a x g) u ∧ gt (numW a x g) u ≤ B := by
 induction a with
 | nil => intro x g h _ _; exact h
 | cons v t ih =>
  intro x g h hx hv u hu
  have hv0 := hv v List.mem_cons_self
  rw [List.length_cons] at hx
  refine ih (x + 1) _ (fun u hu => ?_) (by omega) (fun w hw => by rw [List.length_set]; exact hv w (List.mem_cons_of_mem _ hw)) u (by rw [List.length_set]; exact hu)
  rw [List.length_set] at hu
  rw [gt_set _ _ _ _ hv0]
  split
  · omega
  · exact h u hu
theorem own_num (xs : List Int) : ∀ (x : Nat) (g : List Int), (∀ l ∈ xs, 0 ≤ l ∧ varN l < g.length) → x + xs.length ≤ 1000000 → cirOwn xs (x : Int) g = some (numW (xs.map varN) (x + 1) g, ((x + xs.length : Nat) : Int)) := by
 induction xs with
 | nil => intro x g _ _; rfl
 | cons l t ih =>
  intro x g h hx
  have h0 := h l List.mem_cons_self
  rw [List.length_cons] at hx
  have hq : l / 2 = (varN l : Int) := by unfold varN; omega
  simp only [cirOwn]
  rw [hq, if_pos ⟨h0.1, by omega, by omega, by omega⟩, Int.toNat_natCast, show (x : Int) + 1 = ((x + 1 : Nat) : Int) by omega, ih (x + 1) _ (fun y hy => by rw [List.length_set]; exact h y (List.mem_cons_of_mem _ hy)) (by omega)]
  simp only [List.map_cons, numW, List.length_cons]
  rw [show x + 1 + t.length = x + (t.length + 1) by omega]
theorem gates_num (ands : List S56) (s : List Nat) : ∀ (x : Nat) (g : List Int), (∀ i ∈ s, i < ands.length ∧ 0 ≤ (rd_T56 ands (i : Int)).f0 ∧ vr ands i < g.length) → x + s.length ≤ 1000000 →
 cirGates ands (s.map (fun k : Nat => (k : Int))) (x : Int) g = some (numW (s.map (vr ands)) (x + 1) g, ((x + s.length : Nat) : Int)) := by
 induction s with
 | nil => intro x g _ _; rfl
 | cons i t ih =>
  intro x g h hx
  have h0 := h i List.mem_cons_self
  rw [List.length_cons] at hx
  have hq : (rd_T56 ands (i : Int)).f0 / 2 = (vr ands i : Int) := by unfold vr vrD; omega
  simp only [List.map_cons, cirGates]
  rw [hq, if_pos ⟨by omega, by omega, h0.2.1, by omega, by omega, by omega⟩, Int.toNat_natCast, show (x : Int) + 1 = ((x + 1 : Nat) : Int) by omega, ih (x + 1) _ (fun y hy => by rw [List.length_set]; exact h y (List.mem_cons_of_mem _ hy)) (by omega)]
  simp only [numW, List.length_cons]
  rw [show x + 1 + t.length = x + (t.length + 1) by omega]
theorem loop_num {β : Type} (L : Nat → List Int → Int → Nat → Option β) (vs : List Nat) (M base : Nat) (fin : Nat → List Int → Int → Option β) (hv : ∀ v ∈ vs, v < M)
 (hstep : ∀ k g i (hi : i < vs.length), g.length = M → vs[i] < M → L (k + 1) g ((base + i : Nat) : Int) i = L k (g.set vs[i] ((base + i : Nat) : Int)) ((base + i + 1 : Nat) : Int) (i + 1))
 (hend : ∀ k g x, L (k + 1) g x vs.length = fin k g x) (d : Nat) :
 ∀ (i k : Nat) (g : List Int), vs.length - i = d → i ≤ vs.length → d < k → g.length = M → L k g ((base + i : Nat) : Int) i = fin (k - d - 1) (numW (vs.drop i) (base + i) g) ((base + vs.length : Nat) : Int) := by
 induction d with
 | zero =>
  intro i k g hd hi hk hg
  obtain ⟨k, rfl⟩ : ∃ q, k = q + 1 := ⟨k - 1, by omega⟩
  obtain rfl : i = vs.length := by omega
  rw [hend, List.drop_length]; rfl
 | succ d ih =>
  intro i k g hd hi hk hg
  obtain ⟨k, rfl⟩ : ∃ q, k = q + 1 := ⟨k - 1, by omega⟩
  rw [hstep k g i (by omega) hg (hv _ (List.getElem_mem (by omega))), List.drop_eq_getElem_cons (show i < vs.length by omega)]
  simp only [numW]
  rw [show base + i + 1 = base + (i + 1) by omega, ih (i + 1) k _ (by omega) (by omega) (by omega) (by rw [List.length_set]; exact hg), show k + 1 - (d + 1) - 1 = k - d - 1 by omega]
theorem gt_ext {a b : List Int} (hl : a.length = b.length) (h : ∀ u, u < a.length → gt a u = gt b u) : a = b := by
 apply List.ext_getElem hl
 intro i h1 h2
 have := h i h1
 rw [gt_get _ _ h1, gt_get _ _ h2] at this
 exact this
def numS (m : Nat) : List Int := (List.replicate (m + 1) (-1)).set 0 0
theorem numS_len (m : Nat) : (numS m).length = m + 1 := by simp [numS]
theorem gt_rep (n u : Nat) (x : Int) (h : u < n) : gt (List.replicate n x) u = x := by
 rw [gt_get _ _ (by simpa using h)]; simp
theorem numS_gt (m u : Nat) (hu : u ≤ m) : gt (numS m) u = if u = 0 then 0 else -1 := by
 unfold numS
 rw [gt_set _ _ _ _ (by simp)]
 split
 · rfl
 · exact gt_rep _ _ _ (by omega)
section
variable (m : Nat) (l1 : List Int) (l2 l3 : List S56) (l4 l5 : List Int)
theorem numbers_l0 (hm : m ≤ 1000) (d : Nat) : ∀ (i k : Nat) (g : List Int), m + 1 - i = d → i ≤ m + 1 → d < k → g.length = m + 1 → ∃ g', r3_Numbers.l0 k g (i : Int) (m : Int) l1 l2 l3 l4 l5 = r3_Numbers.l1 (k - d - 1) g' 1 0 (m : Int) l1 l2 l3 l4 l5 ∧ g'.length = m + 1 ∧ ∀ u, u ≤ m → gt g' u = if u < i then gt g u else -1 := by
 induction d with
 | zero =>
  intro i k g hd hi hk hg
  obtain ⟨k, rfl⟩ : ∃ q, k = q + 1 := ⟨k - 1, by omega⟩
  simp only [r3_Numbers.l0]
  rw [if_neg (by omega)]
  exact ⟨g, rfl, hg, fun u hu => by rw [if_pos (by omega)]⟩
 | succ d ih =>
  intro i k g hd hi hk hg
  obtain ⟨k, rfl⟩ : ∃ q, k = q + 1 := ⟨k - 1, by omega⟩
  simp only [r3_Numbers.l0]
  rw [if_pos (by omega), if_pos (by omega), if_pos (by omega), wi (by omega), Int.toNat_natCast]
  obtain ⟨g', e1, e2, e3⟩ := ih (i + 1) k (g.set i (-1)) (by omega) (by omega) (by omega) (by rw [List.length_set]; exact hg)
  refine ⟨g', by rw [e1, show k + 1 - (d + 1) - 1 = k - d - 1 by omega], e2, fun u hu => ?_⟩
  rw [e3 u hu, gt_set _ _ _ _ (by omega)]
  by_cases c : u < i
  · rw [if_pos (by omega), if_pos c, if_neg (by omega)]
  · rw [if_neg c]
    by_cases c2 : u = i
    · rw [if_pos (by omega), if_pos c2]
    · rw [if_neg (by omega)]
def varsN (l1 : List Int) (l2 l3 : List S56) (s : List Nat) : List Nat := l1.map varN ++ l2.map (fun d => varN d.f0) ++ s.map (vr l3)
theorem refNumbers_eq (hm : m ≤ 1000) (h1 : l1.length ≤ 1000) (h2 : l2.length ≤ 1000) (h3 : l3.length ≤ 1000) (s : List Nat) (hs : s.length ≤ 1000) (hso : ∀ k, 2000000 ≤ k → r3_Order.f k (m : Int) l1 l2 l3 l4 l5 = some (s.map (fun k : Nat => (k : Int))))
 (hi : ∀ i ∈ s, i < l3.length) (ho : ∀ x ∈ ownL l1 l2 l3, 2 ≤ x ∧ x ≤ 2 * (m : Int) + 1) (k : Nat) (hk : 2100000 ≤ k) :
 r3_Numbers.f k (m : Int) l1 l2 l3 l4 l5 = some (numW (varsN l1 l2 l3 s) 1 (numS m)) := by
 unfold r3_Numbers.f
 rw [wrap_id (by omega : -9223372036854775808 ≤ (m : Int) + 1) (by omega), if_pos (by omega), if_pos (by omega), show ((m : Int) + 1).toNat = m + 1 by omega]
 obtain ⟨g, e1, e2, e3⟩ := numbers_l0 m l1 l2 l3 l4 l5 hm m 1 k (List.replicate (m + 1) 0) (by omega) (by omega) (by omega) (by simp)
 refine e1.trans ?_
 have eg : g = numS m := by
  apply gt_ext (by rw [e2, numS_len])
  intro u hu
  rw [e3 u (by omega), numS_gt m u (by omega)]
  by_cases c : u = 0
  · rw [if_pos (by omega), if_pos c]; exact gt_rep _ _ _ (by omega)
  · rw [if_neg (by omega), if_neg c]
 subst eg
 have o1 : ∀ x ∈ l1, 2 ≤ x ∧ x ≤ 2 * (m : Int) + 1 := fun x hx => ho x (by unfold ownL; exact List.mem_append_left _ (List.mem_append_left _ hx))
 have o2 : ∀ d ∈ l2, 2 ≤ d.f0 ∧ d.f0 ≤ 2 * (m : Int) + 1 := fun d hd => ho d.f0 (by unfold ownL; exact List.mem_append_left _ (List.mem_append_right _ (List.mem_map_of_mem hd)))
 have o3 : ∀ d ∈ l3, 2 ≤ d.f0 ∧ d.f0 ≤ 2 * (m : Int) + 1 := fun d hd => ho d.f0 (by unfold ownL; exact List.mem_append_right _ (List.mem_map_of_mem hd))
 have s1 := loop_num (fun k g x i => r3_Numbers.l1 k g x (i : Int) (m : Int) l1 l2 l3 l4 l5) (l1.map varN) (m + 1) 1 (fun k g x => r3_Numbers.l2 k g x 0 (m : Int) l1 l2 l3 l4 l5)
  (fun v hv => by
   obtain ⟨x, hx, rfl⟩ := List.mem_map.1 hv
   have := o1 x hx
   unfold varN; omega)
  (fun k g i hi hg hv => by
   rw [List.length_map] at hi
   have hx := o1 _ (rd_mem hi)
   have er : (l1.map varN)[i]'(by simpa using hi) = varN (rd l1 (i : Int)) := by simp [rd, hi]
   rw [er] at hv ⊢
   simp only [r3_Numbers.l1]
   rw [if_pos (by omega), if_pos (by omega), var_w (by omega) (by omega), if_pos (by omega), if_pos (by omega), Int.toNat_natCast, wi (by omega), wi (by omega)])
  (fun k g x => by
   simp only [r3_Numbers.l1, List.length_map]
   rw [if_neg (by omega)]) l1.length 0 (k - m - 1) (numS m) (by simp) (by simp) (by omega) (numS_len m)
 refine s1.trans ?_
 simp only [List.drop_zero, List.length_map, Nat.add_zero]
 have s2 := loop_num (fun k g x i => r3_Numbers.l2 k g x (i : Int) (m : Int) l1 l2 l3 l4 l5) (l2.map (fun d => varN d.f0)) (m + 1) (1 + l1.length) (fun k g x => (r3_Order.f k (m : Int) l1 l2 l3 l4 l5).bind fun t415 => (r3_Numbers.l3 k g x t415 0 (m : Int) l1 l2 l3 l4 l5))
  (fun v hv => by
   obtain ⟨x, hx, rfl⟩ := List.mem_map.1 hv
   have := o2 x hx
   unfold varN; omega)
  (fun k g i hi hg hv => by
   rw [List.length_map] at hi
   have hx := o2 _ (rdT_mem hi)
   have er : (l2.map (fun d => varN d.f0))[i]'(by simpa using hi) = varN (rd_T56 l2 (i : Int)).f0 := by simp [rd_T56, hi]
   rw [er] at hv ⊢
   simp only [r3_Numbers.l2]
   rw [if_pos (by omega), if_pos (by omega), var_w (by omega) (by omega), if_pos (by omega), if_pos (by omega), Int.toNat_natCast, wi (by omega), wi (by omega)])
  (fun k g x => by
   simp only [r3_Numbers.l2, List.length_map]
   rw [if_neg (by omega)]) l2.length 0 (k - m - 1 - l1.length - 1) (numW (l1.map varN) 1 (numS m)) (by simp) (by simp) (by omega) (by rw [numW_len, numS_len])
 refine s2.trans ?_
 simp only [List.drop_zero, List.length_map, Nat.add_zero]
 rw [hso _ (by omega), Option.bind_some]
 have s3 := loop_num (fun k g x i => r3_Numbers.l3 k g x (s.map (fun k : Nat => (k : Int))) (i : Int) (m : Int) l1 l2 l3 l4 l5) (s.map (vr l3)) (m + 1) (1 + l1.length + l2.length) (fun k g x => some g)
  (fun v hv => by
   obtain ⟨x, hx, rfl⟩ := List.mem_map.1 hv
   have := o3 _ (rdT_mem (hi x hx))
   unfold vr vrD; omega)
  (fun k g i hi' hg hv => by
   rw [List.length_map] at hi'
   have hm := hi _ (List.getElem_mem hi')
   have hx := o3 _ (rdT_mem hm)
   have es : rd (s.map (fun k : Nat => (k : Int))) (i : Int) = ((s[i] : Nat) : Int) := by simp [rd, hi']
   have er : (s.map (vr l3))[i]'(by simpa using hi') = varN (rd_T56 l3 ((s[i] : Nat) : Int)).f0 := by simp [vr, vrD, varN]
   rw [er] at hv ⊢
   simp only [r3_Numbers.l3, List.length_map]
   rw [if_pos (by omega), if_pos (by omega), es, if_pos (by omega), if_pos (by omega), var_w (by omega) (by omega), if_pos (by omega), if_pos (by omega), Int.toNat_natCast, wi (by omega), wi (by omega)])
  (fun k g x => by
   simp only [r3_Numbers.l3, List.length_map]
   rw [if_neg (by omega)]) s.length 0 (k - m - 1 - l1.length - 1 - l2.length - 1) (numW (l2.map (fun d => varN d.f0)) (1 + l1.length) (numW (l1.map varN) 1 (numS m))) (by simp) (by simp) (by omega) (by rw [numW_len, numW_len, numS_len])
 refine s3.trans ?_
 unfold varsN
 rw [numW_append, numW_append, List.length_append, List.length_map, List.length_map, List.drop_zero, Nat.add_zero, show 1 + l1.length + l2.length = 1 + (l1.length + l2.length) by omega]
end
end Go.Proofs.Ytpdlkjpemplhoaa.P
namespace Go.Proofs.Ytpdlkjpemplhoaa.P
open Go.RowKit Go.Proofs.YtpdlkjpemplhoaaW.PrintWords Go.Proofs.YtpdlkjpemplhoaaW.PrintLast Go.Proofs.YtpdlkjpemplhoaaW.PrintMore
set_option linter.unusedVariables false
set_option linter.unusedSimpArgs false
def told (g : List Int) (x : Int) : Int := 2 * gt g (varN x) + x % 2
def cirSv (g : List Int) (l1 : List Int) (l2 l3 : List S56) (l4 l5 : List Int) (s : List Nat) : Int × List S61 × List S59 × List Int × List Int × List Int × Int :=
 ((l1.length : Int), l2.map (fun d => ⟨told g d.f1, d.f2⟩), s.map (fun i : Nat => ⟨mx (told g (rd_T56 l3 (i : Int)).f1) (told g (rd_T56 l3 (i : Int)).f2), mn (told g (rd_T56 l3 (i : Int)).f1) (told g (rd_T56 l3 (i : Int)).f2)⟩), l4.map (told g), l5.map (told g), g, 0)
theorem ord_lt (ands : List S56) (f : Nat) : ∀ done : List Nat, (∀ i ∈ done, i < ands.length) → ∀ i ∈ ordS ands f done, i < ands.length := by
 induction f with
 | zero => intro done h; exact h
 | succ f ih =>
  intro done h
  unfold ordS
  split
  · exact h
  · rename_i i hf
    have := List.mem_of_find?_eq_some hf
    exact ih _ (fun j hj => by
     rcases List.mem_append.1 hj with hj | hj
     · exact h j hj
     · rw [List.mem_singleton.1 hj]; exact List.mem_range.1 this)
theorem ord_le (ands : List S56) (f : Nat) : ∀ done : List Nat, (ordS ands f done).length ≤ done.length + f := by
 induction f with
 | zero => intro done; exact Nat.le_refl _
 | succ f ih =>
  intro done
  unfold ordS
  split
  · omega
  · have := ih (done ++ [‹Nat›])
    rw [List.length_append] at this
    simp at this
    omega
section
variable {m : Nat} {g : List Int}
theorem told_prog (hm : m ≤ 1000) (hg : g.length = m + 1) (hb : ∀ u, u < g.length → -1 ≤ gt g u ∧ gt g u ≤ 10000) {x : Int} (hx : 0 ≤ x ∧ x ≤ 2 * (m : Int) + 1) : toldL g x = some (told g x) := by
 have hq : x / 2 = (varN x : Int) := by unfold varN; omega
 have := hb (varN x) (by omega)
 unfold toldL told
 rw [hq, rd_gt g (varN x), if_pos ⟨hx.1, by omega, by omega, by omega, by omega⟩]
theorem told_ref (hm : m ≤ 1000) (hg : g.length = m + 1) (hb : ∀ u, u < g.length → -1 ≤ gt g u ∧ gt g u ≤ 10000) {x : Int} (hx : 0 ≤ x ∧ x ≤ 2 * (m : Int) + 1) : r3_Told.f g x = some (told g x) := by
 have hq : varN x ≤ m := by unfold varN; omega
 have := hb (varN x) (by omega)
 unfold r3_Told.f told
 rw [var_w hx.1 (by omega), if_pos (by omega), if_pos (by omega), rd_gt g (varN x), Int.tmod_eq_emod_of_nonneg hx.1, wrap_id (by omega : -9223372036854775808 ≤ 2 * gt g (varN x)) (by omega), wrap_id (by omega) (by omega)]
theorem mapO_some {α β : Type} (f : α → Option β) (h : α → β) (l : List α) (hf : ∀ x ∈ l, f x = some (h x)) : mapO f l = some (l.map h) := by
 induction l with
 | nil => rfl
 | cons a t ih =>
  simp only [mapO, List.map_cons]
  rw [hf a List.mem_cons_self, ih (fun x hx => hf x (List.mem_cons_of_mem _ hx))]; rfl
section
variable {l1 : List Int} {l2 l3 : List S56} {l4 l5 : List Int} {s : List Nat}
theorem num_bd (hN : Num (m : Int) l1 l2 l3 l4 l5) (hs : s.length ≤ 1000) (hi : ∀ i ∈ s, i < l3.length) : ∀ u, u < (numW (varsN l1 l2 l3 s) 1 (numS m)).length → -1 ≤ gt (numW (varsN l1 l2 l3 s) 1 (numS m)) u ∧ gt (numW (varsN l1 l2 l3 s) 1 (numS m)) u ≤ 10000 := by
 have hl := hN.len
 have ho3 : ∀ d ∈ l3, 2 ≤ d.f0 ∧ d.f0 ≤ 2 * (m : Int) + 1 := fun d hd => by
  have := hN.own d.f0 (by unfold ownL; exact List.mem_append_right _ (List.mem_map_of_mem hd)); omega
 have hg : (numW (varsN l1 l2 l3 s) 1 (numS m)).length = m + 1 := by rw [numW_len, numS_len]
 intro u hu
 rw [hg] at hu
 refine numW_bd 10000 _ 1 (numS m) (fun u hu => ?_) (by unfold varsN; simp; omega) (fun v hv => ?_) u (by rw [numS_len]; omega)
 · rw [numS_len] at hu
   rw [numS_gt _ _ (by omega)]; split <;> omega
 · rw [numS_len]
   unfold varsN at hv
   rcases List.mem_append.1 hv with hv | hv
   · rcases List.mem_append.1 hv with hv | hv
     · obtain ⟨x, hx, rfl⟩ := List.mem_map.1 hv
       have := hN.own x (by unfold ownL; exact List.mem_append_left _ (List.mem_append_left _ hx))
       unfold varN; omega
     · obtain ⟨d, hd, rfl⟩ := List.mem_map.1 hv
       have := hN.own d.f0 (by unfold ownL; exact List.mem_append_left _ (List.mem_append_right _ (List.mem_map_of_mem hd)))
       unfold varN; omega
   · obtain ⟨i, hi', rfl⟩ := List.mem_map.1 hv
     have := ho3 _ (rdT_mem (hi i hi'))
     unfold vr vrD; omega
theorem make_eq (hN : Num (m : Int) l1 l2 l3 l4 l5) (hs : s.length ≤ 1000) (hi : ∀ i ∈ s, i < l3.length) :
 cirMake (m : Int) l1 l2 l3 l4 l5 (s.map (fun k : Nat => (k : Int))) (ownL l1 l2 l3) = some (cirSv (numW (varsN l1 l2 l3 s) 1 (numS m)) l1 l2 l3 l4 l5 s) := by
 have hm : m ≤ 1000 := by have := hN.m; omega
 have hl := hN.len
 have h4 := hN.l4
 have h5 := hN.l5
 have ho3 : ∀ d ∈ l3, 2 ≤ d.f0 ∧ d.f0 ≤ 2 * (m : Int) + 1 := fun d hd => by
  have := hN.own d.f0 (by unfold ownL; exact List.mem_append_right _ (List.mem_map_of_mem hd)); omega
 have hol : (ownL l1 l2 l3).length = l1.length + l2.length + l3.length := by simp [ownL]; omega
 have htk : (ownL l1 l2 l3).take (l1.length + l2.length) = l1 ++ l2.map (fun d => d.f0) := by
  unfold ownL
  rw [List.take_append_of_le_length (by simp), List.take_of_length_le (by simp)]
 unfold cirMake
 rw [if_pos ⟨by omega, by omega, by omega, by rw [List.length_map]; omega, by omega, by omega⟩, show ((m : Int) + 1).toNat = m + 1 by omega, htk]
 have hg0 : (List.replicate (m + 1) (-1 : Int)).set 0 0 = numS m := rfl
 rw [hg0, show (0 : Int) = ((0 : Nat) : Int) from rfl, own_num (l1 ++ l2.map (fun d => d.f0)) 0 (numS m) (fun x hx => by
  have := hN.own x (by unfold ownL; exact List.mem_append_left _ hx)
  rw [numS_len]; unfold varN; omega) (by simp; omega), Option.bind_some, gates_num l3 s _ _ (fun i hi' => by
   have := ho3 _ (rdT_mem (hi i hi'))
   have := hi i hi'
   rw [numW_len, numS_len]; unfold vr vrD; omega) (by simp; omega), Option.bind_some]
 have hv : numW (s.map (vr l3)) (0 + (l1 ++ l2.map (fun d => d.f0)).length + 1) (numW ((l1 ++ l2.map (fun d => d.f0)).map varN) (0 + 1) (numS m)) = numW (varsN l1 l2 l3 s) 1 (numS m) := by
  unfold varsN
  rw [numW_append (l1.map varN ++ l2.map (fun d => varN d.f0))]
  simp only [List.map_append, List.map_map, List.length_append, List.length_map, Nat.zero_add]
  rw [show l1.length + l2.length + 1 = 1 + (l1.length + l2.length) by omega]
  rfl
 simp only [hv]
 have hg : (numW (varsN l1 l2 l3 s) 1 (numS m)).length = m + 1 := by rw [numW_len, numS_len]
 have hb := num_bd hN hs hi
 generalize numW (varsN l1 l2 l3 s) 1 (numS m) = g at hg hb ⊢
 have ht : ∀ x, (0 ≤ x ∧ x ≤ 2 * (m : Int) + 1) → toldL g x = some (told g x) := fun x hx => told_prog hm hg hb hx
 have hu4 : ∀ x ∈ l4, 0 ≤ x ∧ x ≤ 2 * (m : Int) + 1 := fun x hx => hN.use x (by unfold useL; exact List.mem_append_left _ (List.mem_append_left _ (List.mem_append_left _ hx)))
 have hu5 : ∀ x ∈ l5, 0 ≤ x ∧ x ≤ 2 * (m : Int) + 1 := fun x hx => hN.use x (by unfold useL; exact List.mem_append_left _ (List.mem_append_left _ (List.mem_append_right _ hx)))
 have hu2 : ∀ d ∈ l2, 0 ≤ d.f1 ∧ d.f1 ≤ 2 * (m : Int) + 1 := fun d hd => hN.use d.f1 (by unfold useL; exact List.mem_append_left _ (List.mem_append_right _ (List.mem_map_of_mem hd)))
 have hu3 : ∀ d ∈ l3, (0 ≤ d.f1 ∧ d.f1 ≤ 2 * (m : Int) + 1) ∧ (0 ≤ d.f2 ∧ d.f2 ≤ 2 * (m : Int) + 1) := fun d hd => ⟨hN.use d.f1 (by unfold useL; exact List.mem_append_right _ (List.mem_flatMap.2 ⟨d, hd, by simp⟩)), hN.use d.f2 (by unfold useL; exact List.mem_append_right _ (List.mem_flatMap.2 ⟨d, hd, by simp⟩))⟩
 have m2 : mapO (latT g) l2 = some (l2.map (fun d => ⟨told g d.f1, d.f2⟩)) := mapO_some _ _ _ (fun d hd => by
  unfold latT; rw [ht _ (hu2 d hd), Option.bind_some])
 have m3 : mapO (andT g l3) (s.map (fun k : Nat => (k : Int))) = some ((s.map (fun k : Nat => (k : Int))).map (fun i : Int => ⟨mx (told g (rd_T56 l3 i).f1) (told g (rd_T56 l3 i).f2), mn (told g (rd_T56 l3 i).f1) (told g (rd_T56 l3 i).f2)⟩)) := mapO_some _ _ _ (fun i hi' => by
  obtain ⟨q, hq, rfl⟩ := List.mem_map.1 hi'
  have hq' := hi q hq
  have := hu3 _ (rdT_mem hq')
  unfold andT
  rw [if_pos (by omega), ht _ this.1, Option.bind_some, ht _ this.2, Option.bind_some]
  unfold mx mn
  generalize told g (rd_T56 l3 (q : Int)).f1 = a
  generalize told g (rd_T56 l3 (q : Int)).f2 = b
  congr 2
  split <;> split <;> omega)
 have m4 : mapO (toldL g) l4 = some (l4.map (told g)) := mapO_some _ _ _ (fun x hx => ht x (hu4 x hx))
 have m5 : mapO (toldL g) l5 = some (l5.map (told g)) := mapO_some _ _ _ (fun x hx => ht x (hu5 x hx))
 rw [m2, m3, m4, m5]
 simp only [Option.bind_some]
 unfold cirSv
 rw [List.map_map]
 rfl
end
end
end Go.Proofs.Ytpdlkjpemplhoaa.P
namespace Go.Proofs.Ytpdlkjpemplhoaa.P
open Go.RowKit Go.Proofs.YtpdlkjpemplhoaaW.PrintWords Go.Proofs.YtpdlkjpemplhoaaW.PrintLast Go.Proofs.YtpdlkjpemplhoaaW.PrintMore
set_option linter.unusedVariables false
set_option linter.unusedSimpArgs false
def circS (most : Int) (l1 : List Int) (l2 l3 : List S56) (l4 l5 : List Int) : Int × List S61 × List S59 × List Int × List Int × List Int × Int :=
 if chkS most l1 l2 l3 l4 l5 = 0 then cirSv (numW (varsN l1 l2 l3 (ordS l3 l3.length [])) 1 (numS most.toNat)) l1 l2 l3 l4 l5 (ordS l3 l3.length []) else (0, [], [], [], [], [], chkS most l1 l2 l3 l4 l5)
section
variable {most : Int} {l1 : List Int} {l2 l3 : List S56} {l4 l5 : List Int}
theorem chkS_zero (h : chkS most l1 l2 l3 l4 l5 = 0) : Num most l1 l2 l3 l4 l5 ∧ ((ownL l1 l2 l3).map varN).Nodup ∧ l3.length ≤ (ordS l3 l3.length []).length := by
 unfold chkS at h
 by_cases c0 : most < 0
 · rw [if_pos c0] at h; cases h
 rw [if_neg c0] at h
 by_cases c1 : manyP most l1 l2 l3 l4 l5
 · rw [if_pos c1] at h; cases h
 rw [if_neg c1] at h
 by_cases c2 : badAny most l1 l2 l3 l4 l5 = true
 · rw [if_pos c2] at h; cases h
 rw [if_neg c2] at h
 refine ⟨num_of c0 c1 c2, ?_⟩
 unfold chkVal at h
 by_cases d0 : ¬ ((ownL l1 l2 l3).map varN).Nodup
 · rw [if_pos d0] at h; cases h
 rw [if_neg d0] at h
 by_cases d1 : (useL l2 l3 l4 l5).any (loose (ownL l1 l2 l3)) = true
 · rw [if_pos d1] at h; cases h
 rw [if_neg d1] at h
 by_cases d2 : (ordS l3 l3.length []).length < l3.length
 · rw [if_pos d2] at h; cases h
 exact ⟨Decidable.not_not.1 d0, by omega⟩
theorem num_ok {m : Nat} (hN : Num (m : Int) l1 l2 l3 l4 l5) (hn : ((ownL l1 l2 l3).map varN).Nodup) : Ok m l3 := by
 have hm := hN.m
 have hl := hN.len
 exact ok_of (by omega) (by omega) (fun x hx => ⟨(hN.own x hx).1, (hN.own x hx).2.1⟩) hN.use l1 l2 l4 l5 rfl rfl hn
theorem ord_bd (l3 : List S56) : ∀ i ∈ ordS l3 l3.length [], i < l3.length := ord_lt l3 l3.length [] (fun i hi => by cases hi)
theorem ord_len (l3 : List S56) : (ordS l3 l3.length []).length ≤ l3.length := by
 have := ord_le l3 l3.length []
 simpa using this
theorem prog_cir (h1 : l1.length ≤ 2000) (h2 : l2.length ≤ 2000) (h3 : l3.length ≤ 2000) (h4 : l4.length ≤ 2000) (h5 : l5.length ≤ 2000) (ho : ∀ x ∈ ownL l1 l2 l3, I64 x) (hu : ∀ x ∈ useL l2 l3 l4 l5, I64 x) :
 order_Circuit.f most l1 l2 l3 l4 l5 = some (circS most l1 l2 l3 l4 l5) := by
 unfold order_Circuit.f circS
 rw [prog_chk h1 h2 h3 h4 h5 ho hu, Option.bind_some]
 by_cases c : chkS most l1 l2 l3 l4 l5 = 0
 · rw [if_pos c, if_pos c]
   obtain ⟨hN, hn, -⟩ := chkS_zero c
   obtain ⟨m, rfl⟩ := Int.eq_ofNat_of_zero_le hN.m.1
   have hm := hN.m
   have hl := hN.len
   have hol := ord_len l3
   rw [if_pos ⟨by omega, by omega⟩, sorted_eq m l3 (num_ok hN hn), Option.bind_some, defined_eq (m : Int) l1 l2 l3 l4 l5 (by omega) (by omega) (by omega) _ (by omega), Option.bind_some, make_eq hN (by omega) (ord_bd l3), Int.toNat_natCast]
 · rw [if_neg c, if_neg c]
theorem ref_cir (h1 : l1.length ≤ 2000) (h2 : l2.length ≤ 2000) (h3 : l3.length ≤ 2000) (h4 : l4.length ≤ 2000) (h5 : l5.length ≤ 2000) (k : Nat) (hk : 3000002 ≤ k) :
 r3_Circuit.f k most l1 l2 l3 l4 l5 = some (circS most l1 l2 l3 l4 l5) := by
 unfold r3_Circuit.f circS
 rw [ref_chk h1 h2 h3 h4 h5 k hk, Option.bind_some]
 by_cases c : chkS most l1 l2 l3 l4 l5 = 0
 · rw [if_pos c, if_pos c]
   obtain ⟨hN, hn, -⟩ := chkS_zero c
   obtain ⟨m, rfl⟩ := Int.eq_ofNat_of_zero_le hN.m.1
   have hm : m ≤ 1000 := by have := hN.m; omega
   have hl := hN.len
   have hl4 := hN.l4
   have hl5 := hN.l5
   have hol := ord_len l3
   have hbd := ord_bd l3
   have hOk := num_ok hN hn
   have hO : ∀ k, 2000000 ≤ k → r3_Order.f k (m : Int) l1 l2 l3 l4 l5 = some ((ordS l3 l3.length []).map (fun k : Nat => (k : Int))) := fun k hk => refOrder_eq l1 l2 l4 l5 hOk k hk
   generalize ordS l3 l3.length [] = s at hol hbd hO ⊢
   rw [refNumbers_eq m l1 l2 l3 l4 l5 hm (by omega) (by omega) (by omega) s (by omega) hO hbd (fun x hx => ⟨(hN.own x hx).1, (hN.own x hx).2.1⟩) k (by omega), Option.bind_some, Int.toNat_natCast]
   have hg : (numW (varsN l1 l2 l3 s) 1 (numS m)).length = m + 1 := by rw [numW_len, numS_len]
   have hb := num_bd hN (by omega) hbd
   generalize numW (varsN l1 l2 l3 s) 1 (numS m) = g at hg hb ⊢
   have ht : ∀ x, (0 ≤ x ∧ x ≤ 2 * (m : Int) + 1) → r3_Told.f g x = some (told g x) := fun x hx => told_ref hm hg hb hx
   have hu4 : ∀ x ∈ l4, 0 ≤ x ∧ x ≤ 2 * (m : Int) + 1 := fun x hx => hN.use x (by unfold useL; exact List.mem_append_left _ (List.mem_append_left _ (List.mem_append_left _ hx)))
   have hu5 : ∀ x ∈ l5, 0 ≤ x ∧ x ≤ 2 * (m : Int) + 1 := fun x hx => hN.use x (by unfold useL; exact List.mem_append_left _ (List.mem_append_left _ (List.mem_append_right _ hx)))
   have hu2 : ∀ d ∈ l2, 0 ≤ d.f1 ∧ d.f1 ≤ 2 * (m : Int) + 1 := fun d hd => hN.use d.f1 (by unfold useL; exact List.mem_append_left _ (List.mem_append_right _ (List.mem_map_of_mem hd)))
   have hu3 : ∀ d ∈ l3, (0 ≤ d.f1 ∧ d.f1 ≤ 2 * (m : Int) + 1) ∧ (0 ≤ d.f2 ∧ d.f2 ≤ 2 * (m : Int) + 1) := fun d hd => ⟨hN.use d.f1 (by unfold useL; exact List.mem_append_right _ (List.mem_flatMap.2 ⟨d, hd, by simp⟩)), hN.use d.f2 (by unfold useL; exact List.mem_append_right _ (List.mem_flatMap.2 ⟨d, hd, by simp⟩))⟩
   have s0 := loop_acc (fun k acc i => r3_Circuit.l0 k g (i : Int) (m : Int) l1 l2 l3 l4 l5 (l1.length : Int) acc) l2.length 100000 (fun i => [(⟨told g (rd_T56 l2 (i : Int)).f1, (rd_T56 l2 (i : Int)).f2⟩ : S61)]) (fun k acc => (r3_Order.f k (m : Int) l1 l2 l3 l4 l5).bind fun t435 => (r3_Circuit.l1 k g t435 0 (m : Int) l1 l2 l3 l4 l5 (l1.length : Int) acc ([] : List (S59))))
    (fun k acc i hi ha => by
     simp only [r3_Circuit.l0]
     rw [if_pos (by omega), if_pos (by omega), ht _ (hu2 _ (rdT_mem hi)), Option.bind_some, if_pos (by omega), wi (by omega)])
    (fun k acc => by
     simp only [r3_Circuit.l0]
     rw [if_neg (by omega)]) (fun i => by simp) l2.length 0 k [] (by omega) (by omega) (by simp; omega) (by omega)
   refine s0.trans ?_
   rw [flat_at l2 (fun i => rd_T56 l2 (i : Int)) (rdT_get l2) (fun d => [(⟨told g d.f1, d.f2⟩ : S61)]), flat_one, List.nil_append, hO _ (by omega), Option.bind_some]
   have s1 := loop_acc (fun k acc i => r3_Circuit.l1 k g (s.map (fun k : Nat => (k : Int))) (i : Int) (m : Int) l1 l2 l3 l4 l5 (l1.length : Int) (l2.map (fun d => (⟨told g d.f1, d.f2⟩ : S61))) acc) s.length 100000 (fun i => [(⟨mx (told g (rd_T56 l3 (rd (s.map (fun k : Nat => (k : Int))) (i : Int))).f1) (told g (rd_T56 l3 (rd (s.map (fun k : Nat => (k : Int))) (i : Int))).f2), mn (told g (rd_T56 l3 (rd (s.map (fun k : Nat => (k : Int))) (i : Int))).f1) (told g (rd_T56 l3 (rd (s.map (fun k : Nat => (k : Int))) (i : Int))).f2)⟩ : S59)]) (fun k acc => (r3_Circuit.l2 k g 0 (m : Int) l1 l2 l3 l4 l5 (l1.length : Int) (l2.map (fun d => (⟨told g d.f1, d.f2⟩ : S61))) acc ([] : List Int)))
    (fun k acc i hi ha => by
     have es : rd (s.map (fun k : Nat => (k : Int))) (i : Int) = ((s[i] : Nat) : Int) := by simp [rd, hi]
     have hm := hbd _ (List.getElem_mem hi)
     have hx := hu3 _ (rdT_mem hm)
     simp only [r3_Circuit.l1, List.length_map]
     rw [if_pos (by omega), if_pos (by omega), es, if_pos (by omega), if_pos (by omega), ht _ hx.1, Option.bind_some, ht _ hx.2, Option.bind_some, if_pos (by omega), wi (by omega)])
    (fun k acc => by
     simp only [r3_Circuit.l1, List.length_map]
     rw [if_neg (by omega)]) (fun i => by simp) s.length 0 (k - l2.length - 1) [] (by omega) (by omega) (by simp; omega) (by omega)
   refine s1.trans ?_
   have es : (List.range' 0 s.length).flatMap (fun i : Nat => [(⟨mx (told g (rd_T56 l3 (rd (s.map (fun k : Nat => (k : Int))) (i : Int))).f1) (told g (rd_T56 l3 (rd (s.map (fun k : Nat => (k : Int))) (i : Int))).f2), mn (told g (rd_T56 l3 (rd (s.map (fun k : Nat => (k : Int))) (i : Int))).f1) (told g (rd_T56 l3 (rd (s.map (fun k : Nat => (k : Int))) (i : Int))).f2)⟩ : S59)]) = s.map (fun i : Nat => ⟨mx (told g (rd_T56 l3 (i : Int)).f1) (told g (rd_T56 l3 (i : Int)).f2), mn (told g (rd_T56 l3 (i : Int)).f1) (told g (rd_T56 l3 (i : Int)).f2)⟩) := by
    have := flat_at (s.map (fun k : Nat => (k : Int))) (fun i => rd (s.map (fun k : Nat => (k : Int))) (i : Int)) (fun i h => by simp [rd] at h ⊢; simp [h]) (fun i : Int => [(⟨mx (told g (rd_T56 l3 i).f1) (told g (rd_T56 l3 i).f2), mn (told g (rd_T56 l3 i).f1) (told g (rd_T56 l3 i).f2)⟩ : S59)])
    rw [List.length_map] at this
    rw [this, flat_one, List.map_map]
    rfl
   rw [es, List.nil_append]
   generalize eA : l2.map (fun d => (⟨told g d.f1, d.f2⟩ : S61)) = A
   generalize eB : s.map (fun i : Nat => (⟨mx (told g (rd_T56 l3 (i : Int)).f1) (told g (rd_T56 l3 (i : Int)).f2), mn (told g (rd_T56 l3 (i : Int)).f1) (told g (rd_T56 l3 (i : Int)).f2)⟩ : S59)) = B
   have s2 := loop_acc (fun k acc i => r3_Circuit.l2 k g (i : Int) (m : Int) l1 l2 l3 l4 l5 (l1.length : Int) A B acc) l4.length 100000 (fun i => [told g (rd l4 (i : Int))]) (fun k acc => r3_Circuit.l3 k g 0 (m : Int) l1 l2 l3 l4 l5 (l1.length : Int) A B acc ([] : List Int))
    (fun k acc i hi ha => by
     simp only [r3_Circuit.l2]
     rw [if_pos (by omega), if_pos (by omega), ht _ (hu4 _ (rd_mem hi)), Option.bind_some, if_pos (by omega), wi (by omega)])
    (fun k acc => by
     simp only [r3_Circuit.l2]
     rw [if_neg (by omega)]) (fun i => by simp) l4.length 0 (k - l2.length - 1 - s.length - 1) [] (by omega) (by omega) (by simp; omega) (by omega)
   refine s2.trans ?_
   rw [flat_at l4 (fun i => rd l4 (i : Int)) (fun i h => by simp [rd, h]) (fun x => [told g x]), flat_one, List.nil_append]
   have s3 := loop_acc (fun k acc i => r3_Circuit.l3 k g (i : Int) (m : Int) l1 l2 l3 l4 l5 (l1.length : Int) A B (l4.map (told g)) acc) l5.length 100000 (fun i => [told g (rd l5 (i : Int))]) (fun k acc => some ((l1.length : Int), A, B, l4.map (told g), acc, g, 0))
    (fun k acc i hi ha => by
     simp only [r3_Circuit.l3]
     rw [if_pos (by omega), if_pos (by omega), ht _ (hu5 _ (rd_mem hi)), Option.bind_some, if_pos (by omega), wi (by omega)])
    (fun k acc => by
     simp only [r3_Circuit.l3]
     rw [if_neg (by omega)]) (fun i => by simp) l5.length 0 (k - l2.length - 1 - s.length - 1 - l4.length - 1) [] (by omega) (by omega) (by simp; omega) (by omega)
   refine s3.trans ?_
   rw [flat_at l5 (fun i => rd l5 (i : Int)) (fun i h => by simp [rd, h]) (fun x => [told g x]), flat_one, List.nil_append]
   unfold cirSv
   rw [eA, eB]
 · rw [if_neg c, if_neg c, Option.bind_some]
end
end Go.Proofs.Ytpdlkjpemplhoaa.P
namespace Go.Proofs.Ytpdlkjpemplhoaa.Pure
open Go.RowKit Go.Proofs.Ytpdlkjpemplhoaa.P Go.Proofs.YtpdlkjpemplhoaaW.PrintWords Go.Proofs.YtpdlkjpemplhoaaW.PrintLast Go.Proofs.YtpdlkjpemplhoaaW.PrintMore
set_option linter.unusedVariables false
set_option linter.unusedSimpArgs false
theorem sameRaw_any (m : Int) (a : List Int) (b c : List S56) (d e : List Int) (k : Nat) (ha : a.length ≤ 10000) (hb : b.length ≤ 10000) (hc : c.length ≤ 10000) (hd : d.length ≤ 10000) (he : e.length ≤ 10000) (hk : 100000 ≤ k) : r3_Same.f k m a b c d e m a b c d e = some true := by
 unfold r3_Same.f
 rw [if_pos rfl, sameInts_eq a (by omega) k (by omega), sameDefines_eq b (by omega) k (by omega), sameDefines_eq c (by omega) k (by omega), sameInts_eq d (by omega) k (by omega), sameInts_eq e (by omega) k (by omega)]
 rfl
section
variable (n : Int) (a : List S61) (b : List S59) (c d : List Int)
theorem sameCir_l1 (hb : b.length ≤ 10000) (f : Nat) : ∀ (i k : Nat), b.length - i = f → i ≤ b.length → f < k → r2_Same.l1 k (i : Int) n a b c d n a b c d = some true := by
 induction f with
 | zero =>
  intro i k hd hi hk
  obtain ⟨k, rfl⟩ : ∃ q, k = q + 1 := ⟨k - 1, by omega⟩
  simp only [r2_Same.l1]
  rw [if_neg (by omega)]
 | succ f ih =>
  intro i k hd hi hk
  obtain ⟨k, rfl⟩ : ∃ q, k = q + 1 := ⟨k - 1, by omega⟩
  simp only [r2_Same.l1]
  rw [if_pos (by omega), if_pos (by omega), if_pos (by omega), if_neg (by simp), wi (by omega)]
  exact ih (i + 1) k (by omega) (by omega) (by omega)
theorem sameCir_l0 (ha : a.length ≤ 10000) (hb : b.length ≤ 10000) (f : Nat) : ∀ (i k : Nat), a.length - i = f → i ≤ a.length → f + b.length + 2 < k → r2_Same.l0 k (i : Int) n a b c d n a b c d = some true := by
 induction f with
 | zero =>
  intro i k hd hi hk
  obtain ⟨k, rfl⟩ : ∃ q, k = q + 1 := ⟨k - 1, by omega⟩
  simp only [r2_Same.l0]
  rw [if_neg (by omega)]
  exact sameCir_l1 n a b c d hb b.length 0 k (by omega) (by omega) (by omega)
 | succ f ih =>
  intro i k hd hi hk
  obtain ⟨k, rfl⟩ : ∃ q, k = q + 1 := ⟨k - 1, by omega⟩
  simp only [r2_Same.l0]
  rw [if_pos (by omega), if_pos (by omega), if_pos (by omega), if_neg (by simp), wi (by omega)]
  exact ih (i + 1) k (by omega) (by omega) (by omega)
theorem sameCir_eq (ha : a.length ≤ 10000) (hb : b.length ≤ 10000) (hc : c.length ≤ 10000) (hd : d.length ≤ 10000) (k : Nat) (hk : 100000 ≤ k) : r2_Same.f k n a b c d n a b c d = some true := by
 obtain ⟨k, rfl⟩ : ∃ q, k = q + 1 := ⟨k - 1, by omega⟩
 unfold r2_Same.f
 rw [if_pos rfl, if_pos rfl, if_pos rfl, sameInts_eq c (by omega) _ (by omega), Option.bind_some, if_pos rfl, sameInts_eq d (by omega) _ (by omega), Option.bind_some]
 simp only [r2_Same.j0]
 rw [if_neg (by simp)]
 exact sameCir_l0 n a b c d ha hb a.length 0 k (by omega) (by omega) (by omega)
end
section
variable (most : Int) (l1 : List Int) (l2 l3 : List S56) (l4 l5 : List Int)
theorem great_of (h : ¬ r3_Great.f most l1 l2 l3 l4 l5 = some true) : r3_Great.f most l1 l2 l3 l4 l5 = some false ∧ l1.length ≤ 1001 ∧ l2.length ≤ 60 ∧ l3.length ≤ 60 ∧ l4.length ≤ 110 ∧ l5.length ≤ 110 ∧ (most ≤ 200 ∨ 991 ≤ most) := by
 unfold r3_Great.f at *
 split at h
 · rename_i c0
   rw [if_pos c0]
   split at h
   · rename_i c1
     rw [if_pos c1]
     split at h
     · exact absurd rfl h
     · rename_i c2
       rw [if_neg c2]
       split at h
       · exact absurd rfl h
       · rename_i c3
         rw [if_neg c3]
         split at h
         · exact absurd rfl h
         · rename_i c4
           rw [if_neg c4]
           split at h
           · exact absurd rfl h
           · rename_i c5
             rw [if_neg c5]
             split at h
             · rename_i c6
               rw [if_pos c6]
               have : ¬ most < 991 := fun c => h (by rw [decide_eq_true c])
               exact ⟨by rw [decide_eq_false this], by omega, by omega, by omega, by omega, by omega, by omega⟩
             · rename_i c6
               rw [if_neg c6]
               exact ⟨rfl, by omega, by omega, by omega, by omega, by omega, by omega⟩
   · exact absurd rfl h
 · rename_i c0
   rw [if_neg c0]
   split at h
   · exact absurd rfl h
   · rename_i c2
     rw [if_neg c2]
     split at h
     · exact absurd rfl h
     · rename_i c3
       rw [if_neg c3]
       split at h
       · exact absurd rfl h
       · rename_i c4
         rw [if_neg c4]
         split at h
         · exact absurd rfl h
         · rename_i c5
           rw [if_neg c5]
           split at h
           · rename_i c6
             rw [if_pos c6]
             have : ¬ most < 991 := fun c => h (by rw [decide_eq_true c])
             exact ⟨by rw [decide_eq_false this], by omega, by omega, by omega, by omega, by omega, by omega⟩
           · rename_i c6
             rw [if_neg c6]
             exact ⟨rfl, by omega, by omega, by omega, by omega, by omega, by omega⟩
theorem twin_eq (h1 : l1.length ≤ 10000) (h2 : l2.length ≤ 10000) (h3 : l3.length ≤ 10000) (h4 : l4.length ≤ 10000) (h5 : l5.length ≤ 10000) : r3_Twin.f most l1 l2 l3 l4 l5 = some (most, l1, l2, l3, l4, l5) := by
 unfold r3_Twin.f
 simp only [Option.bind_some, List.nil_append, List.length_nil]
 rw [if_pos (by omega), if_pos (by omega), if_pos (by omega), if_pos (by omega), if_pos (by omega)]
theorem own_i64 (h1 : ∀ x ∈ l1, I64 x) (h2 : ∀ d ∈ l2, I64 d.f0 ∧ I64 d.f1 ∧ I64 d.f2) (h3 : ∀ d ∈ l3, I64 d.f0 ∧ I64 d.f1 ∧ I64 d.f2) : ∀ x ∈ ownL l1 l2 l3, I64 x := by
 intro x hx
 unfold ownL at hx
 rcases List.mem_append.1 hx with hx | hx
 · rcases List.mem_append.1 hx with hx | hx
   · exact h1 x hx
   · obtain ⟨d, hd, rfl⟩ := List.mem_map.1 hx; exact (h2 d hd).1
 · obtain ⟨d, hd, rfl⟩ := List.mem_map.1 hx; exact (h3 d hd).1
theorem use_i64 (h4 : ∀ x ∈ l4, I64 x) (h5 : ∀ x ∈ l5, I64 x) (h2 : ∀ d ∈ l2, I64 d.f0 ∧ I64 d.f1 ∧ I64 d.f2) (h3 : ∀ d ∈ l3, I64 d.f0 ∧ I64 d.f1 ∧ I64 d.f2) : ∀ x ∈ useL l2 l3 l4 l5, I64 x := by
 intro x hx
 unfold useL at hx
 rcases List.mem_append.1 hx with hx | hx
 · rcases List.mem_append.1 hx with hx | hx
   · rcases List.mem_append.1 hx with hx | hx
     · exact h4 x hx
     · exact h5 x hx
   · obtain ⟨d, hd, rfl⟩ := List.mem_map.1 hx; exact (h2 d hd).2.1
 · obtain ⟨d, hd, hx⟩ := List.mem_flatMap.1 hx
   simp only [List.mem_cons, List.not_mem_nil, or_false] at hx
   rcases hx with rfl | rfl
   · exact (h3 d hd).2.1
   · exact (h3 d hd).2.2
theorem circS_len (h1 : l1.length ≤ 2000) (h2 : l2.length ≤ 2000) (h3 : l3.length ≤ 2000) (h4 : l4.length ≤ 2000) (h5 : l5.length ≤ 2000) :
 (circS most l1 l2 l3 l4 l5).2.1.length ≤ 2000 ∧ (circS most l1 l2 l3 l4 l5).2.2.1.length ≤ 2000 ∧ (circS most l1 l2 l3 l4 l5).2.2.2.1.length ≤ 2000 ∧ (circS most l1 l2 l3 l4 l5).2.2.2.2.1.length ≤ 2000 ∧ (circS most l1 l2 l3 l4 l5).2.2.2.2.2.1.length ≤ 2000 := by
 unfold circS
 by_cases c : chkS most l1 l2 l3 l4 l5 = 0
 · rw [if_pos c]
   have hN := (chkS_zero c).1
   have := hN.m
   have := ord_len l3
   unfold cirSv
   simp only [List.length_map, numW_len, numS_len]
   exact ⟨h2, by omega, h4, h5, by omega⟩
 · rw [if_neg c]
   exact ⟨by simp, by simp, by simp, by simp, by simp⟩
end
end Go.Proofs.Ytpdlkjpemplhoaa.Pure
namespace Go.Proofs.Ytpdlkjpemplhoaa.Pure
open Go.RowKit Go.Proofs.Ytpdlkjpemplhoaa.P Go.Proofs.YtpdlkjpemplhoaaW.PrintWords Go.Proofs.YtpdlkjpemplhoaaW.PrintLast Go.Proofs.YtpdlkjpemplhoaaW.PrintMore
set_option linter.unusedVariables false
theorem tells_pure (most : Int) (l1 : List Int) (l2 l3 : List S56) (l4 l5 : List Int) (h1 : ∀ x ∈ l1, I64 x) (h2 : ∀ d ∈ l2, I64 d.f0 ∧ I64 d.f1 ∧ I64 d.f2) (h3 : ∀ d ∈ l3, I64 d.f0 ∧ I64 d.f1 ∧ I64 d.f2) (h4 : ∀ x ∈ l4, I64 x) (h5 : ∀ x ∈ l5, I64 x) : l3_OrderTells.f 4000000 most l1 l2 l3 l4 l5 = some true := by
 unfold l3_OrderTells.f
 by_cases cg : r3_Great.f most l1 l2 l3 l4 l5 = some true
 · rw [cg, Option.bind_some, if_pos rfl]
 obtain ⟨eg, g1, g2, g3, g4, g5, -⟩ := great_of most l1 l2 l3 l4 l5 cg
 rw [eg, Option.bind_some, if_neg (by decide), twin_eq most l1 l2 l3 l4 l5 (by omega) (by omega) (by omega) (by omega) (by omega), Option.bind_some]
 dsimp only
 have ho := own_i64 l1 l2 l3 h1 h2 h3
 have hu := use_i64 l2 l3 l4 l5 h4 h5 h2 h3
 rw [prog_cir (by omega) (by omega) (by omega) (by omega) (by omega) ho hu, Option.bind_some, ref_cir (by omega) (by omega) (by omega) (by omega) (by omega) 4000000 (by omega), Option.bind_some, prog_chk (by omega) (by omega) (by omega) (by omega) (by omega) ho hu, Option.bind_some, ref_chk (by omega) (by omega) (by omega) (by omega) (by omega) 4000000 (by omega), Option.bind_some, if_pos rfl]
 obtain ⟨c1, c2, c3, c4, c5⟩ := circS_len most l1 l2 l3 l4 l5 (by omega) (by omega) (by omega) (by omega) (by omega)
 rw [sameCir_eq _ _ _ _ _ (by omega) (by omega) (by omega) (by omega) 4000000 (by omega), Option.bind_some, if_pos rfl, sameInts_eq _ (by omega) 4000000 (by omega), Option.bind_some, if_pos rfl, if_pos rfl, sameRaw_any _ _ _ _ _ _ 4000000 (by show l1.length ≤ 10000; omega) (by show l2.length ≤ 10000; omega) (by show l3.length ≤ 10000; omega) (by show l4.length ≤ 10000; omega) (by show l5.length ≤ 10000; omega) (by omega), Option.bind_some]
theorem OrderTells (a : S30) (h : (Lit.int .i64 a.f0).wf = true ∧ (a.f1.length ≤ maxLen ∧ ∀ x ∈ a.f1, (Lit.int .i64 x).wf = true) ∧ (a.f2.length ≤ maxLen ∧ ∀ x ∈ a.f2, (Lit.int .i64 x.f0).wf = true ∧ (Lit.int .i64 x.f1).wf = true ∧ (Lit.int .i64 x.f2).wf = true) ∧ (a.f3.length ≤ maxLen ∧ ∀ x ∈ a.f3, (Lit.int .i64 x.f0).wf = true ∧ (Lit.int .i64 x.f1).wf = true ∧ (Lit.int .i64 x.f2).wf = true) ∧ (a.f4.length ≤ maxLen ∧ ∀ x ∈ a.f4, (Lit.int .i64 x).wf = true) ∧ (a.f5.length ≤ maxLen ∧ ∀ x ∈ a.f5, (Lit.int .i64 x).wf = true)) :
 ∃ k, l3_OrderTells.f k a.f0 a.f1 a.f2 a.f3 a.f4 a.f5 = some true :=
 ⟨4000000, tells_pure a.f0 a.f1 a.f2 a.f3 a.f4 a.f5 (fun x hx => i64_wf (h.2.1.2 x hx)) (fun x hx => ⟨i64_wf (h.2.2.1.2 x hx).1, i64_wf (h.2.2.1.2 x hx).2.1, i64_wf (h.2.2.1.2 x hx).2.2⟩) (fun x hx => ⟨i64_wf (h.2.2.2.1.2 x hx).1, i64_wf (h.2.2.2.1.2 x hx).2.1, i64_wf (h.2.2.2.1.2 x hx).2.2⟩) (fun x hx => i64_wf (h.2.2.2.2.1.2 x hx)) (fun x hx => i64_wf (h.2.2.2.2.2.2 x hx))⟩
end Go.Proofs.Ytpdlkjpemplhoaa.Pure
namespace Go.Proofs.YtpdlkjpemplhoaaO
open Go.RowKit Go.Proofs.YtpdlkjpemplhoaaW.PrintWords Go.ChangeShapes Go.WideShapes
structure Opens (P : Program) {α : Type} (t : TypeId) (d : Kd α) (ok : α → Prop) : Prop where
 out : ∀ {H : Type} {enc : TypeId × Value → H} {w : World} {base : Nat} {held : Bool} {n : Nat} {cs : List Value} {x : DataW H × List MemPlace},
  DataW.trod enc P w base (fun _ => true) held n t cs = some x → ∃ a, d.K w a cs ∧ ok a
theorem opens_int {P : Program} {t : TypeId} {k : IntKind} (ht : P.underlying t = some (.int k)) : Opens P t (Kd.int k) (fun n => (Lit.int k n).wf = true) := by
 constructor
 intro H enc w base held n cs x h
 cases n with
 | zero => simp [DataW.trod] at h
 | succ n =>
  unfold DataW.trod at h
  rw [ht] at h
  split at h <;> simp_all
  obtain ⟨⟨rfl, hw⟩, _⟩ := h
  exact ⟨_, rfl, hw⟩
theorem opens_slice {P : Program} {α : Type} {t e : TypeId} {d : Kd α} {ok : α → Prop} (ht : P.underlying t = some (.slice e)) (he : P.cellsOf e = d.sz) (ho : Opens P e d ok) :
 Opens P t (Kd.slice e d) (fun l => l.length ≤ maxLen ∧ ∀ x ∈ l, ok x) := by
 constructor
 intro H enc w base held n cs x h
 rcases Go.Deep.open_slice ht h with ⟨rfl, _⟩ | ⟨a, len, cap, m, n', D, Pl, rfl, hb, hl, hm, hmm, _, hx⟩
 · exact ⟨[], ⟨none, 0, rfl, Nat.le_refl _, Kd.C_nil d w⟩, by simp, by simp⟩
 · have hlm : len ≤ m := by rw [hmm]; simp; exact hl
   have hL : len ≤ maxLen := Nat.le_trans hl hm
   have each : ∀ i, i < len → ∃ y, ok y ∧ ∃ c, c.length = d.sz ∧ d.K w y c ∧ ∀ j u, c[j]? = some u → w.cell? (a.add (i * d.sz + j)) = some u := by
    intro i hi
    obtain ⟨cs', h1, h2⟩ := hx i (by omega)
    obtain ⟨y, hK, hy⟩ := ho.out h2
    obtain ⟨_, hlen, hcell⟩ := World.cells?_some h1
    rw [he] at hlen hcell
    refine ⟨y, hy, cs', hlen, hK, fun j u hj => ?_⟩
    have hjl : j < d.sz := by rw [← hlen]; exact (List.getElem?_eq_some_iff.1 hj).1
    rw [← add_add, hcell j hjl, hj]
   clear hx
   have build : ∀ k, k ≤ len → ∃ ys : List α, ys.length = k ∧ (∀ y ∈ ys, ok y) ∧ ∀ j p, ys[j]? = some p → ∃ c, c.length = d.sz ∧ d.K w p c ∧ ∀ i u, c[i]? = some u → w.cell? (a.add (j * d.sz + i)) = some u := by
    intro k
    induction k with
    | zero => intro _; exact ⟨[], rfl, by simp, by simp⟩
    | succ k ih =>
     intro hk
     obtain ⟨ys, h1, h2, h3⟩ := ih (by omega)
     obtain ⟨y, hy, c, hc⟩ := each k (by omega)
     refine ⟨ys ++ [y], by simp [h1], ?_, ?_⟩
     · intro z hz
       rcases List.mem_append.mp hz with hz | hz
       · exact h2 z hz
       · rw [List.mem_singleton.1 hz]; exact hy
     · intro j p hj
       by_cases hjk : j < k
       · rw [List.getElem?_append_left (by omega)] at hj
         exact h3 j p hj
       · have hjl : j < (ys ++ [y]).length := (List.getElem?_eq_some_iff.1 hj).1
         have : j = k := by simp at hjl; omega
         subst this
         rw [List.getElem?_append_right (by omega), h1, Nat.sub_self] at hj
         simp at hj
         subst hj
         exact ⟨c, hc⟩
   obtain ⟨ys, h1, h2, h3⟩ := build len (Nat.le_refl _)
   refine ⟨ys, ⟨some a, cap, by rw [h1], by rw [h1]; exact hl, ⟨rfl, ?_, fun _ => ⟨a, rfl, h3⟩⟩⟩, ?_, h2⟩
   · rw [h1]; unfold maxLen at hL; omega
   · rw [h1]; exact hL
structure OpensF (P : Program) {α : Type} (fs : List Field) (off : Nat) (d : Kd α) (ok : α → Prop) : Prop where
 out : ∀ {H : Type} {enc : TypeId × Value → H} {w : World} {base : Nat} {held : Bool} {n : Nat} {cs : List Value}, cs.length = off + d.sz →
  (∀ (j : Nat) (f : Field), fs[j]? = some f → ∃ y, DataW.trod enc P w base (fun _ => true) held n f.type ((cs.drop f.offset).take (P.cellsOf f.type)) = some y) → ∃ a, d.K w a (cs.drop off) ∧ ok a
theorem opensF_one {P : Program} {α : Type} {f : Field} {off : Nat} {d : Kd α} {ok : α → Prop} (ho : f.offset = off) (hc : P.cellsOf f.type = d.sz) (h : Opens P f.type d ok) : OpensF P [f] off d ok := by
 constructor
 intro H enc w base held n cs hl hf
 obtain ⟨y, hy⟩ := hf 0 f rfl
 obtain ⟨a, hK, ha⟩ := h.out hy
 rw [ho, hc, List.take_of_length_le (by rw [List.length_drop]; omega)] at hK
 exact ⟨a, hK, ha⟩
theorem opensF_cons {P : Program} {α β : Type} {f : Field} {fs : List Field} {off : Nat} {d : Kd α} {e : Kd β} {ok : α → Prop} {ok' : β → Prop} (ho : f.offset = off) (hc : P.cellsOf f.type = d.sz) (h : Opens P f.type d ok) (hr : OpensF P fs (off + d.sz) e ok') :
 OpensF P (f :: fs) off (Kd.pair d e) (fun x => ok x.1 ∧ ok' x.2) := by
 constructor
 intro H enc w base held n cs hl hf
 have hl' : cs.length = off + (d.sz + e.sz) := hl
 obtain ⟨y, hy⟩ := hf 0 f rfl
 obtain ⟨a, hK, ha⟩ := h.out hy
 obtain ⟨b, hK', hb⟩ := hr.out (by omega) (fun j g hg => hf (j + 1) g hg)
 rw [ho, hc] at hK
 refine ⟨(a, b), ⟨(cs.drop off).take d.sz, cs.drop (off + d.sz), ?_, hK, hK'⟩, ha, hb⟩
 rw [← List.drop_drop, List.take_append_drop]
theorem opens_struct {P : Program} {α σ : Type} {t : TypeId} {fs : Array Field} {d : Kd α} {ok : α → Prop} (ht : P.underlying t = some (.struct fs)) (hc : P.cellsOf t = d.sz) (h : OpensF P fs.toList 0 d ok) (f : σ → α) (mk : α → σ) (hf : ∀ a, f (mk a) = a) :
 Opens P t (Kd.iso d f) (fun s => ok (f s)) := by
 constructor
 intro H enc w base held n cs x hx
 obtain ⟨xs, m, rfl, _, hl, hxl, hfs⟩ := DataW.trod_struct ht hx
 obtain ⟨a, hK, ha⟩ := h.out (cs := cs) (by omega) (fun j g hg => by
  have hg' : fs[j]? = some g := by rw [← Array.getElem?_toList]; exact hg
  have h1 := hfs j g hg'
  have hj : j < xs.length := by rw [hxl]; exact (Array.getElem?_eq_some_iff.1 hg').1
  rw [List.getElem?_eq_getElem hj] at h1
  exact ⟨_, h1⟩)
 rw [List.drop_zero] at hK
 refine ⟨mk a, ?_, by show ok (f (mk a)); rw [hf]; exact ha⟩
 show d.K w (f (mk a)) cs
 rw [hf]
 exact hK
theorem open_arg_struct {P : Program} {H : Type} {enc : TypeId × Value → H} {w : World} {α : Type} {t : TypeId} {fs : Array Field} {d : Kd α} {ok : α → Prop} {base : Nat} {held : Bool} {v : Value} {x : DataW H} {ps : List MemPlace} {r : Reach} {b0 : Nat}
 (ht : P.underlying t = some (.struct fs)) (ho : Opens P t d ok) (hv : Value.okWide P w r b0 t v) (h : DataW.Trod enc P w base (fun _ => true) held t v x ps) :
 ∃ cs a, v = .agg cs ∧ d.K w a cs.toList ∧ ok a := by
 obtain ⟨cs, rfl, _⟩ := okWide_struct ht hv
 obtain ⟨n, h⟩ := h
 obtain ⟨a, hK, hok⟩ := ho.out h
 exact ⟨cs, a, rfl, by simpa [Value.cells] using hK, hok⟩
end Go.Proofs.YtpdlkjpemplhoaaO
namespace Go.Proofs.Ytpdlkjpemplhoaa.orderTells
open Go.ChangeShapes Go.WideShapes Go.ChangeAt Go.RowKit Go.Proofs.YtpdlkjpemplhoaaW.PrintWords Go.Proofs.YtpdlkjpemplhoaaW.PrintLast Go.Proofs.YtpdlkjpemplhoaaO Go.Proofs.Ytpdlkjpemplhoaa.P
open Go.ChangeMaps (open_string shut_string)
set_option linter.unusedVariables false
theorem own : ownKnob Try.prog.godebug = none := by kernel_rfl
theorem laidOut : laidOutB Try.prog = true := by kernel_rfl
theorem op3 : Opens Try.prog 3 (Kd.int .i64) (fun n : Int => (Lit.int .i64 n).wf = true) := opens_int Try.underlying3
theorem op24 : Opens Try.prog 24 (Kd.slice 3 (Kd.int .i64)) (fun l : List (Int) => l.length ≤ maxLen ∧ ∀ x ∈ l, (fun n : Int => (Lit.int .i64 n).wf = true) x) := opens_slice Try.underlying24 (by kernel_rfl) op3
theorem op56 : Opens Try.prog 56 k56 (fun s : S56 => (fun x : ((Int) × ((Int) × (Int))) => (fun n : Int => (Lit.int .i64 n).wf = true) x.1 ∧ (fun x : ((Int) × (Int)) => (fun n : Int => (Lit.int .i64 n).wf = true) x.1 ∧ (fun n : Int => (Lit.int .i64 n).wf = true) x.2) x.2) ((fun x : S56 => (x.f0, x.f1, x.f2)) s)) := opens_struct (d := (Kd.pair (Kd.int .i64) (Kd.pair (Kd.int .i64) (Kd.int .i64)))) (ok := (fun x : ((Int) × ((Int) × (Int))) => (fun n : Int => (Lit.int .i64 n).wf = true) x.1 ∧ (fun x : ((Int) × (Int)) => (fun n : Int => (Lit.int .i64 n).wf = true) x.1 ∧ (fun n : Int => (Lit.int .i64 n).wf = true) x.2) x.2)) Try.underlying56 (by kernel_rfl) (by show OpensF _ [_, _, _] 0 _ _; refine opensF_cons (off := 0) (d := (Kd.int .i64)) (e := (Kd.pair (Kd.int .i64) (Kd.int .i64))) (ok := (fun n : Int => (Lit.int .i64 n).wf = true)) (ok' := (fun x : ((Int) × (Int)) => (fun n : Int => (Lit.int .i64 n).wf = true) x.1 ∧ (fun n : Int => (Lit.int .i64 n).wf = true) x.2)) rfl (by kernel_rfl) op3 ?_; refine opensF_cons (off := 1) (d := (Kd.int .i64)) (e := (Kd.int .i64)) (ok := (fun n : Int => (Lit.int .i64 n).wf = true)) (ok' := (fun n : Int => (Lit.int .i64 n).wf = true)) rfl (by kernel_rfl) op3 ?_; exact opensF_one (off := 2) (d := (Kd.int .i64)) (ok := (fun n : Int => (Lit.int .i64 n).wf = true)) rfl (by kernel_rfl) op3) (fun x : S56 => (x.f0, x.f1, x.f2)) (fun a => ⟨a.1, a.2.1, a.2.2⟩) (fun _ => rfl)
theorem op28 : Opens Try.prog 28 (Kd.slice 56 k56) (fun l : List (S56) => l.length ≤ maxLen ∧ ∀ x ∈ l, (fun s : S56 => (fun x : ((Int) × ((Int) × (Int))) => (fun n : Int => (Lit.int .i64 n).wf = true) x.1 ∧ (fun x : ((Int) × (Int)) => (fun n : Int => (Lit.int .i64 n).wf = true) x.1 ∧ (fun n : Int => (Lit.int .i64 n).wf = true) x.2) x.2) ((fun x : S56 => (x.f0, x.f1, x.f2)) s)) x) := opens_slice Try.underlying28 (by kernel_rfl) op56
theorem op30 : Opens Try.prog 30 k30 (fun s : S30 => (fun x : ((Int) × ((List (Int)) × ((List (S56)) × ((List (S56)) × ((List (Int)) × (List (Int))))))) => (fun n : Int => (Lit.int .i64 n).wf = true) x.1 ∧ (fun x : ((List (Int)) × ((List (S56)) × ((List (S56)) × ((List (Int)) × (List (Int)))))) => (fun l : List (Int) => l.length ≤ maxLen ∧ ∀ x ∈ l, (fun n : Int => (Lit.int .i64 n).wf = true) x) x.1 ∧ (fun x : ((List (S56)) × ((List (S56)) × ((List (Int)) × (List (Int))))) => (fun l : List (S56) => l.length ≤ maxLen ∧ ∀ x ∈ l, (fun s : S56 => (fun x : ((Int) × ((Int) × (Int))) => (fun n : Int => (Lit.int .i64 n).wf = true) x.1 ∧ (fun x : ((Int) × (Int)) => (fun n : Int => (Lit.int .i64 n).wf = true) x.1 ∧ (fun n : Int => (Lit.int .i64 n).wf = true) x.2) x.2) ((fun x : S56 => (x.f0, x.f1, x.f2)) s)) x) x.1 ∧ (fun x : ((List (S56)) × ((List (Int)) × (List (Int)))) => (fun l : List (S56) => l.length ≤ maxLen ∧ ∀ x ∈ l, (fun s : S56 => (fun x : ((Int) × ((Int) × (Int))) => (fun n : Int => (Lit.int .i64 n).wf = true) x.1 ∧ (fun x : ((Int) × (Int)) => (fun n : Int => (Lit.int .i64 n).wf = true) x.1 ∧ (fun n : Int => (Lit.int .i64 n).wf = true) x.2) x.2) ((fun x : S56 => (x.f0, x.f1, x.f2)) s)) x) x.1 ∧ (fun x : ((List (Int)) × (List (Int))) => (fun l : List (Int) => l.length ≤ maxLen ∧ ∀ x ∈ l, (fun n : Int => (Lit.int .i64 n).wf = true) x) x.1 ∧ (fun l : List (Int) => l.length ≤ maxLen ∧ ∀ x ∈ l, (fun n : Int => (Lit.int .i64 n).wf = true) x) x.2) x.2) x.2) x.2) x.2) ((fun x : S30 => (x.f0, x.f1, x.f2, x.f3, x.f4, x.f5)) s)) := opens_struct (d := (Kd.pair (Kd.int .i64) (Kd.pair (Kd.slice 3 (Kd.int .i64)) (Kd.pair (Kd.slice 56 k56) (Kd.pair (Kd.slice 56 k56) (Kd.pair (Kd.slice 3 (Kd.int .i64)) (Kd.slice 3 (Kd.int .i64)))))))) (ok := (fun x : ((Int) × ((List (Int)) × ((List (S56)) × ((List (S56)) × ((List (Int)) × (List (Int))))))) => (fun n : Int => (Lit.int .i64 n).wf = true) x.1 ∧ (fun x : ((List (Int)) × ((List (S56)) × ((List (S56)) × ((List (Int)) × (List (Int)))))) => (fun l : List (Int) => l.length ≤ maxLen ∧ ∀ x ∈ l, (fun n : Int => (Lit.int .i64 n).wf = true) x) x.1 ∧ (fun x : ((List (S56)) × ((List (S56)) × ((List (Int)) × (List (Int))))) => (fun l : List (S56) => l.length ≤ maxLen ∧ ∀ x ∈ l, (fun s : S56 => (fun x : ((Int) × ((Int) × (Int))) => (fun n : Int => (Lit.int .i64 n).wf = true) x.1 ∧ (fun x : ((Int) × (Int)) => (fun n : Int => (Lit.int .i64 n).wf = true) x.1 ∧ (fun n : Int => (Lit.int .i64 n).wf = true) x.2) x.2) ((fun x : S56 => (x.f0, x.f1, x.f2)) s)) x) x.1 ∧ (fun x : ((List (S56)) × ((List (Int)) × (List (Int)))) => (fun l : List (S56) => l.length ≤ maxLen ∧ ∀ x ∈ l, (fun s : S56 => (fun x : ((Int) × ((Int) × (Int))) => (fun n : Int => (Lit.int .i64 n).wf = true) x.1 ∧ (fun x : ((Int) × (Int)) => (fun n : Int => (Lit.int .i64 n).wf = true) x.1 ∧ (fun n : Int => (Lit.int .i64 n).wf = true) x.2) x.2) ((fun x : S56 => (x.f0, x.f1, x.f2)) s)) x) x.1 ∧ (fun x : ((List (Int)) × (List (Int))) => (fun l : List (Int) => l.length ≤ maxLen ∧ ∀ x ∈ l, (fun n : Int => (Lit.int .i64 n).wf = true) x) x.1 ∧ (fun l : List (Int) => l.length ≤ maxLen ∧ ∀ x ∈ l, (fun n : Int => (Lit.int .i64 n).wf = true) x) x.2) x.2) x.2) x.2) x.2)) Try.underlying30 (by kernel_rfl) (by show OpensF _ [_, _, _, _, _, _] 0 _ _; refine opensF_cons (off := 0) (d := (Kd.int .i64)) (e := (Kd.pair (Kd.slice 3 (Kd.int .i64)) (Kd.pair (Kd.slice 56 k56) (Kd.pair (Kd.slice 56 k56) (Kd.pair (Kd.slice 3 (Kd.int .i64)) (Kd.slice 3 (Kd.int .i64))))))) (ok := (fun n : Int => (Lit.int .i64 n).wf = true)) (ok' := (fun x : ((List (Int)) × ((List (S56)) × ((List (S56)) × ((List (Int)) × (List (Int)))))) => (fun l : List (Int) => l.length ≤ maxLen ∧ ∀ x ∈ l, (fun n : Int => (Lit.int .i64 n).wf = true) x) x.1 ∧ (fun x : ((List (S56)) × ((List (S56)) × ((List (Int)) × (List (Int))))) => (fun l : List (S56) => l.length ≤ maxLen ∧ ∀ x ∈ l, (fun s : S56 => (fun x : ((Int) × ((Int) × (Int))) => (fun n : Int => (Lit.int .i64 n).wf = true) x.1 ∧ (fun x : ((Int) × (Int)) => (fun n : Int => (Lit.int .i64 n).wf = true) x.1 ∧ (fun n : Int => (Lit.int .i64 n).wf = true) x.2) x.2) ((fun x : S56 => (x.f0, x.f1, x.f2)) s)) x) x.1 ∧ (fun x : ((List (S56)) × ((List (Int)) × (List (Int)))) => (fun l : List (S56) => l.length ≤ maxLen ∧ ∀ x ∈ l, (fun s : S56 => (fun x : ((Int) × ((Int) × (Int))) => (fun n : Int => (Lit.int .i64 n).wf = true) x.1 ∧ (fun x : ((Int) × (Int)) => (fun n : Int => (Lit.int .i64 n).wf = true) x.1 ∧ (fun n : Int => (Lit.int .i64 n).wf = true) x.2) x.2) ((fun x : S56 => (x.f0, x.f1, x.f2)) s)) x) x.1 ∧ (fun x : ((List (Int)) × (List (Int))) => (fun l : List (Int) => l.length ≤ maxLen ∧ ∀ x ∈ l, (fun n : Int => (Lit.int .i64 n).wf = true) x) x.1 ∧ (fun l : List (Int) => l.length ≤ maxLen ∧ ∀ x ∈ l, (fun n : Int => (Lit.int .i64 n).wf = true) x) x.2) x.2) x.2) x.2)) rfl (by kernel_rfl) op3 ?_; refine opensF_cons (off := 1) (d := (Kd.slice 3 (Kd.int .i64))) (e := (Kd.pair (Kd.slice 56 k56) (Kd.pair (Kd.slice 56 k56) (Kd.pair (Kd.slice 3 (Kd.int .i64)) (Kd.slice 3 (Kd.int .i64)))))) (ok := (fun l : List (Int) => l.length ≤ maxLen ∧ ∀ x ∈ l, (fun n : Int => (Lit.int .i64 n).wf = true) x)) (ok' := (fun x : ((List (S56)) × ((List (S56)) × ((List (Int)) × (List (Int))))) => (fun l : List (S56) => l.length ≤ maxLen ∧ ∀ x ∈ l, (fun s : S56 => (fun x : ((Int) × ((Int) × (Int))) => (fun n : Int => (Lit.int .i64 n).wf = true) x.1 ∧ (fun x : ((Int) × (Int)) => (fun n : Int => (Lit.int .i64 n).wf = true) x.1 ∧ (fun n : Int => (Lit.int .i64 n).wf = true) x.2) x.2) ((fun x : S56 => (x.f0, x.f1, x.f2)) s)) x) x.1 ∧ (fun x : ((List (S56)) × ((List (Int)) × (List (Int)))) => (fun l : List (S56) => l.length ≤ maxLen ∧ ∀ x ∈ l, (fun s : S56 => (fun x : ((Int) × ((Int) × (Int))) => (fun n : Int => (Lit.int .i64 n).wf = true) x.1 ∧ (fun x : ((Int) × (Int)) => (fun n : Int => (Lit.int .i64 n).wf = true) x.1 ∧ (fun n : Int => (Lit.int .i64 n).wf = true) x.2) x.2) ((fun x : S56 => (x.f0, x.f1, x.f2)) s)) x) x.1 ∧ (fun x : ((List (Int)) × (List (Int))) => (fun l : List (Int) => l.length ≤ maxLen ∧ ∀ x ∈ l, (fun n : Int => (Lit.int .i64 n).wf = true) x) x.1 ∧ (fun l : List (Int) => l.length ≤ maxLen ∧ ∀ x ∈ l, (fun n : Int => (Lit.int .i64 n).wf = true) x) x.2) x.2) x.2)) rfl (by kernel_rfl) op24 ?_; refine opensF_cons (off := 2) (d := (Kd.slice 56 k56)) (e := (Kd.pair (Kd.slice 56 k56) (Kd.pair (Kd.slice 3 (Kd.int .i64)) (Kd.slice 3 (Kd.int .i64))))) (ok := (fun l : List (S56) => l.length ≤ maxLen ∧ ∀ x ∈ l, (fun s : S56 => (fun x : ((Int) × ((Int) × (Int))) => (fun n : Int => (Lit.int .i64 n).wf = true) x.1 ∧ (fun x : ((Int) × (Int)) => (fun n : Int => (Lit.int .i64 n).wf = true) x.1 ∧ (fun n : Int => (Lit.int .i64 n).wf = true) x.2) x.2) ((fun x : S56 => (x.f0, x.f1, x.f2)) s)) x)) (ok' := (fun x : ((List (S56)) × ((List (Int)) × (List (Int)))) => (fun l : List (S56) => l.length ≤ maxLen ∧ ∀ x ∈ l, (fun s : S56 => (fun x : ((Int) × ((Int) × (Int))) => (fun n : Int => (Lit.int .i64 n).wf = true) x.1 ∧ (fun x : ((Int) × (Int)) => (fun n : Int => (Lit.int .i64 n).wf = true) x.1 ∧ (fun n : Int => (Lit.int .i64 n).wf = true) x.2) x.2) ((fun x : S56 => (x.f0, x.f1, x.f2)) s)) x) x.1 ∧ (fun x : ((List (Int)) × (List (Int))) => (fun l : List (Int) => l.length ≤ maxLen ∧ ∀ x ∈ l, (fun n : Int => (Lit.int .i64 n).wf = true) x) x.1 ∧ (fun l : List (Int) => l.length ≤ maxLen ∧ ∀ x ∈ l, (fun n : Int => (Lit.int .i64 n).wf = true) x) x.2) x.2)) rfl (by kernel_rfl) op28 ?_; refine opensF_cons (off := 3) (d := (Kd.slice 56 k56)) (e := (Kd.pair (Kd.slice 3 (Kd.int .i64)) (Kd.slice 3 (Kd.int .i64)))) (ok := (fun l : List (S56) => l.length ≤ maxLen ∧ ∀ x ∈ l, (fun s : S56 => (fun x : ((Int) × ((Int) × (Int))) => (fun n : Int => (Lit.int .i64 n).wf = true) x.1 ∧ (fun x : ((Int) × (Int)) => (fun n : Int => (Lit.int .i64 n).wf = true) x.1 ∧ (fun n : Int => (Lit.int .i64 n).wf = true) x.2) x.2) ((fun x : S56 => (x.f0, x.f1, x.f2)) s)) x)) (ok' := (fun x : ((List (Int)) × (List (Int))) => (fun l : List (Int) => l.length ≤ maxLen ∧ ∀ x ∈ l, (fun n : Int => (Lit.int .i64 n).wf = true) x) x.1 ∧ (fun l : List (Int) => l.length ≤ maxLen ∧ ∀ x ∈ l, (fun n : Int => (Lit.int .i64 n).wf = true) x) x.2)) rfl (by kernel_rfl) op28 ?_; refine opensF_cons (off := 4) (d := (Kd.slice 3 (Kd.int .i64))) (e := (Kd.slice 3 (Kd.int .i64))) (ok := (fun l : List (Int) => l.length ≤ maxLen ∧ ∀ x ∈ l, (fun n : Int => (Lit.int .i64 n).wf = true) x)) (ok' := (fun l : List (Int) => l.length ≤ maxLen ∧ ∀ x ∈ l, (fun n : Int => (Lit.int .i64 n).wf = true) x)) rfl (by kernel_rfl) op24 ?_; exact opensF_one (off := 5) (d := (Kd.slice 3 (Kd.int .i64))) (ok := (fun l : List (Int) => l.length ≤ maxLen ∧ ∀ x ∈ l, (fun n : Int => (Lit.int .i64 n).wf = true) x)) rfl (by kernel_rfl) op24) (fun x : S30 => (x.f0, x.f1, x.f2, x.f3, x.f4, x.f5)) (fun a => ⟨a.1, a.2.1, a.2.2.1, a.2.2.2.1, a.2.2.2.2.1, a.2.2.2.2.2⟩) (fun _ => rfl)
set_option maxRecDepth 100000 in
theorem lifted (os : Os) (started : os.Started) (H : Type) (enc : TypeId × Value → H) :
 ReturnsInHanded {} Try.checked os 4 .any (Rows.orderTellsSpec.pre6 enc Try.prog Try.f4 Rows.orderTellsRow.domain false) (Rows.orderTellsSpec.post enc Try.prog Try.f4 false true false false) := by
 refine returnsInHanded_of_change_sized (C := Try.checked) own started (by kernel_rfl) Try.func4
  (ChangeSpec.witness6 (enc := enc) (C := Try.checked) false ⟨#[], #[.agg #[.int .i64 0, .slice none 0 0, .slice none 0 0, .slice none 0 0, .slice none 0 0, .slice none 0 0]], []⟩ 8 (by kernel_rfl) (by kernel_rfl) (by kernel_rfl) (by kernel_rfl)) ?_
 intro W base args ds gs before hval0 hW hcnd hsz0 _
 have hval : ∀ (j : Nat) t v, Try.f4.params[j]? = some t → args[j]? = some v → Value.okWide Try.prog W .any base t v := hval0
 have hW' := hW
 obtain ⟨p, q, hA0, hV, rfl, hfz, hnd⟩ := hW
 have hA : DataW.TrodAll enc Try.prog W 0 (fun _ => true) true Try.f4.params.toList args.toList ds p := hA0
 rw [Try.params4] at hA hval
 obtain ⟨v0, vs0, d0, ds0, p0, q0, hargs, rfl, rfl, h0, r0⟩ := trodAll_cons hA
 obtain ⟨rfl, rfl, rfl⟩ := trodAll_nil r0
 obtain rfl : args = #[v0] := by cases args; simp_all
 obtain ⟨rfl, rfl⟩ := trodVars_none hV
 have k0 := h0
 have lt0 : ∀ x ∈ p0, x.block < W.heap.size := by obtain ⟨m, hm⟩ := k0; exact DataW.trod_lt m _ _ _ hm
 obtain ⟨cs0, a0, rfl, hK0, ok0⟩ := open_arg_struct Try.underlying30 op30 (hval 0 30 v0 rfl rfl) h0
 obtain ⟨A0_1, c0_1, A0_2, c0_2, A0_3, c0_3, A0_4, c0_4, A0_5, c0_5, hcs0, hc0_1, hr0_1, hc0_2, hr0_2, hc0_3, hr0_3, hc0_4, hr0_4, hc0_5, hr0_5⟩ := k30_open hK0
 obtain rfl : cs0 = #[.int .i64 a0.f0, .slice A0_1 a0.f1.length c0_1, .slice A0_2 a0.f2.length c0_2, .slice A0_3 a0.f3.length c0_3, .slice A0_4 a0.f4.length c0_4, .slice A0_5 a0.f5.length c0_5] := by rw [← Array.toList_inj]; exact hcs0
 clear hA0 hval0 hsz0
 obtain ⟨k, hP⟩ := Pure.OrderTells a0 ok0
 refine (l3_OrderTells.calls k a0.f0 A0_1 c0_1 a0.f1 A0_2 c0_2 a0.f2 A0_3 c0_3 a0.f3 A0_4 c0_4 a0.f4 A0_5 c0_5 a0.f5 W hr0_1 hc0_1 hr0_2 hc0_2 hr0_3 hc0_3 hr0_4 hc0_4 hr0_5 hc0_5 hP).mono fun e W' ⟨he, bel⟩ => ?_
 subst he
 exact ⟨_, rfl, _, _, _, [], _, [], hW', trodAll_mk1 (shut_bool Try.underlying4 _), (trodAll_cons_mk (Below.trod laidOut (by kernel_rfl) (of_decide_eq_true (by kernel_rfl)) k0 bel lt0) trodAll_mk0), rfl, bel.frame _, fun h => by cases h⟩
theorem over : Rows.orderTellsRow.holds Try.pinned (OpenSpec.ofChange Rows.orderTellsSpec) :=
 OpenClaim.holds_of_wide 4 Try.f4 rfl rfl rfl rfl rfl rfl rfl ⟨rfl, rfl, rfl, rfl, rfl⟩ rfl rfl rfl rfl rfl (by kernel_rfl) Try.func4 (by kernel_rfl)
  (of_decide_eq_true (by kernel_rfl)) (by unfold Func.isWrapper; first | (rw [if_pos (by decide +kernel)]; kernel_rfl) | (rw [if_neg (by decide +kernel)]; exact ⟨rfl, rfl⟩))
  (fun os started H enc _ => lifted os started H enc)
theorem proved : Rows.OrderTellsSaid := over
end Go.Proofs.Ytpdlkjpemplhoaa.orderTells
namespace Go.Proofs.Ytpdlkjpemplhoaa
theorem orderTells_holds : Rows.OrderTellsSaid := orderTells.proved
end Go.Proofs.Ytpdlkjpemplhoaa
