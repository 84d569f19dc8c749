/- Texts of this claim, one behind the other: The check of a raw circuit, as a plain value. .. -/
import Derived.Test.YtihbpbdmhiihnaaDoorReD
import Derived.Test.YtihbpbdmhiihnaaDoorReC
/- The check of a raw circuit, as a plain value. -/
namespace Go.Proofs.YtihbpbdmhiihnaaDoor.Pl
open Go Go.Proofs.YtihbpbdmhiihnaaDoor.Sy
set_option linter.unusedVariables false
set_option linter.unusedSimpArgs false
/-- A truth value of a row. -/
def gb (xs : List Bool) (u : Nat) : Bool := xs.getD u false
theorem gb_set (xs : List Bool) (i j : Nat) (v : Bool) (hi : i < xs.length) : gb (xs.set i v) j = if j = i then v else gb xs j := getD_set_list xs false i j v hi

def ownL (l1 : List Int) (l2 l3 : List Df) : List Int := l1 ++ l2.map (fun d => d.lit) ++ l3.map (fun d => d.lit)
def useL (l2 l3 : List Df) (l4 l5 : List Int) : List Int := l4 ++ l5 ++ l2.map (fun d => d.a) ++ l3.flatMap (fun d => [d.a, d.b])

theorem flat_one {α β : Type} (ls : List α) (f : α → β) : ls.flatMap (fun x => [f x]) = ls.map f := by
  induction ls with
  | nil => rfl
  | cons a t ih => simp [List.flatMap_cons, ih]
def badOwn (most x : Int) : Bool := decide (x < 2) || (Int.tmod x 2 == 1) || decide (x > 2 * most + 1)
def badUse (most x : Int) : Bool := decide (x < 0) || decide (x > 2 * most + 1)
def badRe (d : Df) : Bool := decide (d.b < 0) || decide (d.b > 2)

theorem flat2_len (l3 : List Df) : (l3.flatMap (fun d => [d.a, d.b])).length = 2 * l3.length := by
  induction l3 with
  | nil => rfl
  | cons a t ih => rw [List.flatMap_cons, List.length_append, ih]; simp; omega
theorem use_len (l2 l3 : List Df) (l4 l5 : List Int) : (useL l2 l3 l4 l5).length = l4.length + l5.length + l2.length + 2 * l3.length := by
  unfold useL; rw [List.length_append, List.length_append, List.length_append, flat2_len, List.length_map]

def varN (x : Int) : Nat := (x / 2).toNat
theorem twice_ok : ∀ (l : List Int) (g : List Bool), (∀ x ∈ l, 0 ≤ x ∧ x / 2 < (g.length : Int)) →
    ∃ g', Chk.tw l g = (if (l.map varN).Nodup ∧ (∀ u ∈ l.map varN, gb g u = false) then some g' else none) ∧ g'.length = g.length ∧ ∀ u, gb g' u = (gb g u || (l.map varN).contains u) := by
  intro l
  induction l with
  | nil => intro g _; exact ⟨g, by simp [Chk.tw], rfl, fun u => by simp⟩
  | cons x t ih =>
    intro g h
    have hx := h x List.mem_cons_self
    have hq : x / 2 = (varN x : Int) := by unfold varN; omega
    rw [Chk.tw, show g.getD (x / 2).toNat default = gb g (varN x) from rfl, show (x / 2).toNat = varN x from rfl]
    obtain ⟨g', e1, e2, e3⟩ := ih (g.set (varN x) true) (fun y hy => by rw [List.length_set]; exact h y (List.mem_cons_of_mem _ hy))
    have hset := fun u => gb_set g (varN x) u true (by omega)
    refine ⟨g', ?_, by rw [e2, List.length_set], fun u => ?_⟩
    · by_cases c : gb g (varN x) = true
      · rw [if_pos c, if_neg]
        rintro ⟨_, h2⟩
        have := h2 (varN x) (by simp)
        rw [c] at this; cases this
      · rw [if_neg c, e1]
        have hiff : ((t.map varN).Nodup ∧ ∀ u ∈ t.map varN, gb (g.set (varN x) true) u = false) ↔ (((x :: t).map varN).Nodup ∧ ∀ u ∈ (x :: t).map varN, gb g u = false) := by
          rw [List.map_cons, List.nodup_cons]
          constructor
          · rintro ⟨a, b⟩
            have hn : varN x ∉ t.map varN := fun hm => by
              have := b _ hm
              rw [hset, if_pos rfl] at this; cases this
            refine ⟨⟨hn, a⟩, fun u hu => ?_⟩
            rcases List.mem_cons.1 hu with rfl | hu
            · exact Bool.eq_false_iff.2 c
            · have := b u hu
              rw [hset] at this
              split at this
              · cases this
              · exact this
          · rintro ⟨⟨hn, a⟩, b⟩
            refine ⟨a, fun u hu => ?_⟩
            rw [hset, if_neg (fun e : u = varN x => hn (e ▸ hu))]
            exact b u (List.mem_cons_of_mem _ hu)
        by_cases p : ((t.map varN).Nodup ∧ ∀ u ∈ t.map varN, gb (g.set (varN x) true) u = false)
        · rw [if_pos p, if_pos (hiff.1 p)]
        · rw [if_neg p, if_neg (fun q => p (hiff.2 q))]
    · rw [e3, hset, List.map_cons, List.contains_cons]
      by_cases e : u = varN x
      · subst e; simp
      · have : (u == varN x) = false := by rw [beq_eq_false_iff_ne]; exact e
        rw [if_neg e, this, Bool.false_or]/-- A literal that is told of no variable. -/
def loose (own : List Int) (x : Int) : Bool := !(decide (varN x = 0) || (own.map varN).contains (varN x))
/-- The check after the numbers are good. -/
def chkVal (own use : List Int) (l3 : List Df) : Int :=
  if ¬ (own.map varN).Nodup then 43 else if use.any (loose own) = true then 46 else if (ordS l3 l3.length []).length < l3.length then 41 else 0

theorem nodup_at {α : Type} {l : List α} (h : l.Nodup) {i j : Nat} (hi : i < l.length) (hj : j < l.length) (e : l[i] = l[j]) : i = j := by
  rcases Nat.lt_trichotomy i j with c | c | c
  · exact absurd e (List.pairwise_iff_getElem.1 h i j hi hj c)
  · exact c
  · exact absurd e.symm (List.pairwise_iff_getElem.1 h j i hj hi c)

section
variable {m : Nat} {own use : List Int} {l3 : List Df}
theorem varN_pos (ho : ∀ x ∈ own, 2 ≤ x ∧ x ≤ 2 * (m : Int) + 1) : ∀ u ∈ own.map varN, 1 ≤ u ∧ u ≤ m := by
  intro u hu
  obtain ⟨x, hx, rfl⟩ := List.mem_map.1 hu
  have := ho x hx
  unfold varN; omega

theorem twice_any (ho : ∀ x ∈ own, 2 ≤ x ∧ x ≤ 2 * (m : Int) + 1) (t : List Int) (ht : ∀ u, u ≤ m → gt t u = (if u = 0 then 1 else 0) + (((own.map varN).count u : Nat) : Int)) :
    (List.range' 0 (m + 1)).any (fun u => decide (gt t u > 1)) = true ↔ ¬ (own.map varN).Nodup := by
  have hp := varN_pos ho
  rw [List.any_eq_true, List.nodup_iff_count]
  constructor
  · rintro ⟨u, hu, h⟩ hn
    have hu' : u ≤ m := by rw [List.mem_range'_1] at hu; omega
    have h := of_decide_eq_true h
    rw [ht u hu'] at h
    have := hn u
    by_cases e : u = 0
    · subst e
      have h0 : List.count 0 (own.map varN) = 0 := List.count_eq_zero.2 (fun hm => by have := hp 0 hm; omega)
      rw [h0, if_pos rfl] at h; omega
    · rw [if_neg e] at h; omega
  · intro hn
    by_cases h : ∃ u, 1 < List.count u (own.map varN)
    · obtain ⟨u, h⟩ := h
      have hm : u ∈ own.map varN := List.count_pos_iff.1 (by omega)
      have := hp u hm
      refine ⟨u, by rw [List.mem_range'_1]; omega, decide_eq_true ?_⟩
      rw [ht u (by omega)]; split <;> omega
    · exact absurd (fun u => by
        have : ¬ 1 < List.count u (own.map varN) := fun c => h ⟨u, c⟩
        omega) hn

theorem ok_of (hm : m ≤ 1000) (h3 : l3.length ≤ 1000) (ho : ∀ x ∈ own, 2 ≤ x ∧ x ≤ 2 * (m : Int) + 1) (hu : ∀ x ∈ use, 0 ≤ x ∧ x ≤ 2 * (m : Int) + 1) (l1 : List Int) (l2 : List Df) (l4 l5 : List Int) (eo : own = ownL l1 l2 l3) (eu : use = useL l2 l3 l4 l5) (hn : (own.map varN).Nodup) : Ok m l3 := by
  have ho0 : ∀ d ∈ l3, d.lit ∈ own := fun d hd => by
    rw [eo]; unfold ownL; exact List.mem_append_right _ (List.mem_map_of_mem hd)
  have hu1 : ∀ d ∈ l3, d.a ∈ use := fun d hd => by
    rw [eu]; unfold useL; exact List.mem_append_right _ (List.mem_flatMap.2 ⟨d, hd, by simp⟩)
  have hu2 : ∀ d ∈ l3, d.b ∈ use := fun d hd => by
    rw [eu]; unfold useL; exact List.mem_append_right _ (List.mem_flatMap.2 ⟨d, hd, by simp⟩)
  refine ⟨fun d hd => ?_, fun d hd => ?_, fun d hd => ?_, ⟨hm, h3⟩, fun i j hi hj e => ?_⟩
  · have := ho _ (ho0 d hd); omega
  · have := hu _ (hu1 d hd); omega
  · have := hu _ (hu2 d hd); omega
  · have hq : (l3.map (fun d => vrD d)).Nodup := by
      rw [eo] at hn
      unfold ownL at hn
      rw [List.map_append, List.nodup_append] at hn
      have := hn.2.1
      rw [List.map_map] at this
      exact this
    have hg : ∀ i (h : i < l3.length), vr l3 i = (l3.map (fun d => vrD d))[i]'(by simpa using h) := fun i h => by
      unfold vr rdD
      simp [h]
    rw [hg i hi, hg j hj] at e
    exact (nodup_at hq _ _ e)

theorem kn_start (m : Nat) (u : Nat) : gb ((List.replicate (m + 1) false).set 0 true) u = decide (u = 0) := by
  rw [gb_set _ _ _ _ (by simp)]
  by_cases e : u = 0
  · simp [e]
  · rw [if_neg e]
    simp only [gb, List.getD_eq_getElem?_getD, List.getElem?_replicate]
    split <;> simp [e]

end
/-- Whether a number is such as it may not be. -/
def badAny (most : Int) (l1 : List Int) (l2 l3 : List Df) (l4 l5 : List Int) : Bool := (ownL l1 l2 l3).any (badOwn most) || (useL l2 l3 l4 l5).any (badUse most) || l2.any badRe
/-- What is asked of a raw circuit's size. -/
def manyP (most : Int) (l1 : List Int) (l2 l3 : List Df) (l4 l5 : List Int) : Prop := 1000 < most ∨ 1000 < l1.length + l2.length + l3.length ∨ 100 < l4.length ∨ 100 < l5.length
instance (most : Int) (l1 : List Int) (l2 l3 : List Df) (l4 l5 : List Int) : Decidable (manyP most l1 l2 l3 l4 l5) := by unfold manyP; infer_instance
def chkS (most : Int) (l1 : List Int) (l2 l3 : List Df) (l4 l5 : List Int) : Int :=
  if most < 0 then 8 else if manyP most l1 l2 l3 l4 l5 then 4 else if badAny most l1 l2 l3 l4 l5 = true then 8 else chkVal (ownL l1 l2 l3) (useL l2 l3 l4 l5) l3

section
variable {most : Int} {l1 : List Int} {l2 l3 : List Df} {l4 l5 : List Int}
/-- The numbers of a raw circuit whose check comes past them. -/
structure Num (most : Int) (l1 : List Int) (l2 l3 : List Df) (l4 l5 : List Int) : Prop where
  m : 0 ≤ most ∧ most ≤ 1000
  len : l1.length + l2.length + l3.length ≤ 1000
  own : ∀ x ∈ ownL l1 l2 l3, 2 ≤ x ∧ x ≤ 2 * most + 1 ∧ x % 2 = 0
  use : ∀ x ∈ useL l2 l3 l4 l5, 0 ≤ x ∧ x ≤ 2 * most + 1
  l4 : l4.length ≤ 100
  l5 : l5.length ≤ 100

theorem num_of (h0 : ¬ most < 0) (h1 : ¬ manyP most l1 l2 l3 l4 l5) (h2 : ¬ badAny most l1 l2 l3 l4 l5 = true) : Num most l1 l2 l3 l4 l5 := by
  unfold manyP at h1
  unfold badAny at h2
  rw [Bool.or_eq_true, Bool.or_eq_true, not_or, not_or] at h2
  obtain ⟨⟨a, b⟩, -⟩ := h2
  refine ⟨by omega, by omega, fun x hx => ?_, fun x hx => ?_, by omega, by omega⟩
  · have this : ¬ badOwn most x = true := fun c => a (List.any_eq_true.2 ⟨x, hx, c⟩)
    unfold badOwn at this
    simp only [Bool.or_eq_true, decide_eq_true_eq, not_or, beq_iff_eq] at this
    obtain ⟨⟨a1, a2⟩, a3⟩ := this
    have := Int.tmod_eq_emod_of_nonneg (b := 2) (show 0 ≤ x by omega)
    omega
  · have this : ¬ badUse most x = true := fun c => b (List.any_eq_true.2 ⟨x, hx, c⟩)
    unfold badUse at this
    simp only [Bool.or_eq_true, decide_eq_true_eq, not_or] at this
    omega

end

theorem own_defs (r : Rw) : Def.defs r = ownL r.ins r.lats r.ands := by
  unfold Def.defs ownL; rw [List.map_append, List.append_assoc]
theorem use_uses (r : Rw) : Def.uses r = useL r.lats r.ands r.bads r.cons := rfl
theorem ownB_eq (m x : Int) : ownB m x = badOwn m x := by
  unfold ownB Sy.offB badOwn
  by_cases h : x < 2
  · simp [h]
  · rw [Int.tmod_eq_emod_of_nonneg (show 0 ≤ x by omega), Bool.eq_iff_iff]
    simp only [Bool.or_eq_true, decide_eq_true_eq, beq_iff_eq]
    omega
theorem offB_eq (m x : Int) : Sy.offB m x = badUse m x := by
  unfold Sy.offB badUse
  rw [Bool.eq_iff_iff]
  simp only [Bool.or_eq_true, decide_eq_true_eq]
  omega
theorem any_eq {α : Type} {l : List α} {f g : α → Bool} (h : ∀ x ∈ l, f x = g x) : l.any f = l.any g := by
  induction l with
  | nil => rfl
  | cons x t ih => rw [List.any_cons, List.any_cons, h x List.mem_cons_self, ih (fun y hy => h y (List.mem_cons_of_mem _ hy))]
/-- order.Check's value is the plain one; and where it comes to the order, the gates are good. -/
theorem val_eq (r : Rw) : Chk.val r ((ordS r.ands r.ands.length []).map (fun k : Nat => (k : Int))) = chkS r.most r.ins r.lats r.ands r.bads r.cons ∧
    (Chk.pre r = none → ∃ m : Nat, r.most = (m : Int) ∧ Ok m r.ands) := by
  unfold Chk.val Chk.pre chkS
  by_cases c0 : r.most < 0
  · rw [if_pos c0, if_pos c0]; exact ⟨rfl, fun h => by cases h⟩
  rw [if_neg c0, if_neg c0]
  by_cases c1 : manyP r.most r.ins r.lats r.ands r.bads r.cons
  · rw [if_pos c1]
    unfold manyP at c1
    by_cases d1 : r.most > 1000
    · rw [if_pos d1]; exact ⟨rfl, fun h => by cases h⟩
    rw [if_neg d1]
    by_cases d2 : r.ins.length + r.lats.length + r.ands.length > 1000
    · rw [if_pos d2]; exact ⟨rfl, fun h => by cases h⟩
    rw [if_neg d2, if_pos (by omega)]; exact ⟨rfl, fun h => by cases h⟩
  have hc1 := c1
  rw [if_neg c1]
  unfold manyP at c1
  rw [if_neg (by omega), if_neg (by omega), if_neg (by omega), any_eq (fun x _ => ownB_eq r.most x), any_eq (l := Def.uses r) (fun x _ => offB_eq r.most x), own_defs, use_uses, show r.lats.any reB = r.lats.any badRe from rfl]
  by_cases c2 : badAny r.most r.ins r.lats r.ands r.bads r.cons = true
  · rw [if_pos c2]
    unfold badAny at c2
    by_cases d1 : (ownL r.ins r.lats r.ands).any (badOwn r.most) = true
    · rw [if_pos d1]; exact ⟨rfl, fun h => by cases h⟩
    rw [if_neg d1]
    by_cases d2 : (useL r.lats r.ands r.bads r.cons).any (badUse r.most) = true
    · rw [if_pos d2]; exact ⟨rfl, fun h => by cases h⟩
    rw [Bool.eq_false_iff.2 d1, Bool.eq_false_iff.2 d2] at c2
    rw [if_neg d2, if_pos (by simpa using c2)]; exact ⟨rfl, fun h => by cases h⟩
  have hN := num_of c0 hc1 c2
  rw [if_neg c2]
  unfold badAny at c2
  rw [Bool.or_eq_true, Bool.or_eq_true, not_or, not_or] at c2
  rw [if_neg c2.1.1, if_neg c2.1.2, if_neg c2.2]
  obtain ⟨m, em⟩ := Int.eq_ofNat_of_zero_le hN.m.1
  have hm := hN.m.2
  have hlen := hN.len
  have ho : ∀ x ∈ ownL r.ins r.lats r.ands, 2 ≤ x ∧ x ≤ 2 * (m : Int) + 1 := fun x hx => by have := hN.own x hx; omega
  have hu : ∀ x ∈ useL r.lats r.ands r.bads r.cons, 0 ≤ x ∧ x ≤ 2 * (m : Int) + 1 := fun x hx => by have := hN.use x hx; omega
  rw [show (r.most + 1).toNat = m + 1 by omega]
  obtain ⟨g', e1, e2, e3⟩ := twice_ok (ownL r.ins r.lats r.ands) ((List.replicate (m + 1) false).set 0 true) (fun x hx => by
    have := ho x hx
    simp; omega)
  rw [e1]
  have hl : g'.length = m + 1 := by rw [e2]; simp
  have hz : ∀ u ∈ (ownL r.ins r.lats r.ands).map varN, gb ((List.replicate (m + 1) false).set 0 true) u = false := fun u hu => by
    have := varN_pos ho u hu
    rw [kn_start]; exact decide_eq_false (by omega)
  unfold chkVal
  by_cases hn : ((ownL r.ins r.lats r.ands).map varN).Nodup
  · rw [if_pos ⟨hn, hz⟩, if_neg (show ¬ ¬ ((ownL r.ins r.lats r.ands).map varN).Nodup from fun c => c hn)]
    simp only
    have ha : (useL r.lats r.ands r.bads r.cons).any (looseB g') = (useL r.lats r.ands r.bads r.cons).any (loose (ownL r.ins r.lats r.ands)) := any_eq (fun x _ => by
      have h3 := e3 (varN x)
      rw [kn_start] at h3
      unfold looseB loose
      rw [show g'.getD (x / 2).toNat default = gb g' (varN x) from rfl, h3])
    rw [ha]
    by_cases c : (useL r.lats r.ands r.bads r.cons).any (loose (ownL r.ins r.lats r.ands)) = true
    · rw [if_pos c, if_pos c]; exact ⟨rfl, fun h => by cases h⟩
    · rw [if_neg c, if_neg c, Option.getD_none, List.length_map]
      exact ⟨rfl, fun _ => ⟨m, em, ok_of (by omega) (by omega) ho hu r.ins r.lats r.bads r.cons rfl rfl hn⟩⟩
  · rw [if_neg (fun c => hn c.1), if_pos hn]; exact ⟨rfl, fun h => by cases h⟩
end Go.Proofs.YtihbpbdmhiihnaaDoor.Pl
/- The circuit of a raw circuit, as a plain value. -/
namespace Go.Proofs.YtihbpbdmhiihnaaDoor.Pl
open Go Go.Proofs.YtihbpbdmhiihnaaDoor.Sy
set_option linter.unusedVariables false
set_option linter.unusedSimpArgs false
/-- Numbers for a list of variables, from x on. -/
def numW : List Nat → Nat → List Int → List Int
  | [], _, g => g
  | v :: t, x, g => numW t (x + 1) (g.set v (x : Int))

theorem numW_append (a b : List Nat) : ∀ x g, numW (a ++ b) x g = numW b (x + a.length) (numW a x g) := by
  induction a with
  | nil => intro x g; rfl
  | cons v t ih => intro x g; simp only [List.cons_append, numW, ih, List.length_cons]; rw [show x + 1 + t.length = x + (t.length + 1) by omega]
theorem numW_len (a : List Nat) : ∀ x g, (numW a x g).length = g.length := by
  induction a with
  | nil => intro x g; rfl
  | cons v t ih => intro x g; simp only [numW, ih, List.length_set]
theorem numW_bd (B : Int) (a : List Nat) : ∀ (x : Nat) (g : List Int), (∀ u, u < g.length → -1 ≤ gt g u ∧ gt g u ≤ B) → (x : Int) + a.length ≤ B → (∀ v ∈ a, v < g.length) → ∀ u, u < g.length → -1 ≤ gt (numW a x g) u ∧ gt (numW a x g) u ≤ B := by
  induction a with
  | nil => intro x g h _ _; exact h
  | cons v t ih =>
    intro x g h hx hv u hu
    have hv0 := hv v List.mem_cons_self
    rw [List.length_cons] at hx
    refine ih (x + 1) _ (fun u hu => ?_) (by omega) (fun w hw => by rw [List.length_set]; exact hv w (List.mem_cons_of_mem _ hw)) u (by rw [List.length_set]; exact hu)
    rw [List.length_set] at hu
    rw [gt_set _ _ _ _ hv0]
    split
    · omega
    · exact h u hu

theorem gt_ext {a b : List Int} (hl : a.length = b.length) (h : ∀ u, u < a.length → gt a u = gt b u) : a = b := by
  apply List.ext_getElem hl
  intro i h1 h2
  have := h i h1
  rw [gt_get _ _ h1, gt_get _ _ h2] at this
  exact this

/-- Before a variable is numbered. -/
def numS (m : Nat) : List Int := (List.replicate (m + 1) (-1)).set 0 0
theorem numS_len (m : Nat) : (numS m).length = m + 1 := by simp [numS]
theorem gt_rep (n u : Nat) (x : Int) (h : u < n) : gt (List.replicate n x) u = x := by
  rw [gt_get _ _ (by simpa using h)]; simp
theorem numS_gt (m u : Nat) (hu : u ≤ m) : gt (numS m) u = if u = 0 then 0 else -1 := by
  unfold numS
  rw [gt_set _ _ _ _ (by simp)]
  split
  · rfl
  · exact gt_rep _ _ _ (by omega)

/-- The variables in their new order. -/
def varsN (l1 : List Int) (l2 l3 : List Df) (s : List Nat) : List Nat := l1.map varN ++ l2.map (fun d => varN d.lit) ++ s.map (vr l3)

/-- A literal by its new variable. -/
def told (g : List Int) (x : Int) : Int := 2 * gt g (varN x) + x % 2
def mx (a b : Int) : Int := if b > a then b else a
def mn (a b : Int) : Int := if b < a then b else a
def cirSv (g : List Int) (l1 : List Int) (l2 l3 : List Df) (l4 l5 : List Int) (s : List Nat) : Ci :=
  ⟨(l1.length : Int), l2.map (fun d => ⟨told g d.a, d.b⟩), s.map (fun i : Nat => ⟨mx (told g (rdD l3 (i : Int)).a) (told g (rdD l3 (i : Int)).b), mn (told g (rdD l3 (i : Int)).a) (told g (rdD l3 (i : Int)).b)⟩), l4.map (told g), l5.map (told g)⟩

theorem ord_lt (ands : List Df) (f : Nat) : ∀ done : List Nat, (∀ i ∈ done, i < ands.length) → ∀ i ∈ ordS ands f done, i < ands.length := by
  induction f with
  | zero => intro done h; exact h
  | succ f ih =>
    intro done h
    unfold ordS
    split
    · exact h
    · rename_i i hf
      have := List.mem_of_find?_eq_some hf
      exact ih _ (fun j hj => by
        rcases List.mem_append.1 hj with hj | hj
        · exact h j hj
        · rw [List.mem_singleton.1 hj]; exact List.mem_range.1 this)
theorem ord_le (ands : List Df) (f : Nat) : ∀ done : List Nat, (ordS ands f done).length ≤ done.length + f := by
  induction f with
  | zero => intro done; exact Nat.le_refl _
  | succ f ih =>
    intro done
    unfold ordS
    split
    · omega
    · have := ih (done ++ [‹Nat›])
      rw [List.length_append] at this
      simp at this
      omega

section
variable {m : Nat} {g : List Int}
variable {l1 : List Int} {l2 l3 : List Df} {l4 l5 : List Int} {s : List Nat}
theorem num_bd (hN : Num (m : Int) l1 l2 l3 l4 l5) (hs : s.length ≤ 1000) (hi : ∀ i ∈ s, i < l3.length) : ∀ u, u < (numW (varsN l1 l2 l3 s) 1 (numS m)).length → -1 ≤ gt (numW (varsN l1 l2 l3 s) 1 (numS m)) u ∧ gt (numW (varsN l1 l2 l3 s) 1 (numS m)) u ≤ 10000 := by
  have hl := hN.len
  have ho3 : ∀ d ∈ l3, 2 ≤ d.lit ∧ d.lit ≤ 2 * (m : Int) + 1 := fun d hd => by
    have := hN.own d.lit (by unfold ownL; exact List.mem_append_right _ (List.mem_map_of_mem hd)); omega
  have hg : (numW (varsN l1 l2 l3 s) 1 (numS m)).length = m + 1 := by rw [numW_len, numS_len]
  intro u hu
  rw [hg] at hu
  refine numW_bd 10000 _ 1 (numS m) (fun u hu => ?_) (by unfold varsN; simp; omega) (fun v hv => ?_) u (by rw [numS_len]; omega)
  · rw [numS_len] at hu
    rw [numS_gt _ _ (by omega)]; split <;> omega
  · rw [numS_len]
    unfold varsN at hv
    rcases List.mem_append.1 hv with hv | hv
    · rcases List.mem_append.1 hv with hv | hv
      · obtain ⟨x, hx, rfl⟩ := List.mem_map.1 hv
        have := hN.own x (by unfold ownL; exact List.mem_append_left _ (List.mem_append_left _ hx))
        unfold varN; omega
      · obtain ⟨d, hd, rfl⟩ := List.mem_map.1 hv
        have := hN.own d.lit (by unfold ownL; exact List.mem_append_left _ (List.mem_append_right _ (List.mem_map_of_mem hd)))
        unfold varN; omega
    · obtain ⟨i, hi', rfl⟩ := List.mem_map.1 hv
      have := ho3 _ (rdT_mem (hi i hi'))
      unfold vr vrD; omega

end
/-- The new numbers, and the circuit. -/
def numsS (most : Int) (l1 : List Int) (l2 l3 : List Df) : List Int := numW (varsN l1 l2 l3 (ordS l3 l3.length [])) 1 (numS most.toNat)
def circS (most : Int) (l1 : List Int) (l2 l3 : List Df) (l4 l5 : List Int) : Ci := cirSv (numsS most l1 l2 l3) l1 l2 l3 l4 l5 (ordS l3 l3.length [])

section
variable {most : Int} {l1 : List Int} {l2 l3 : List Df} {l4 l5 : List Int}
theorem chkS_zero (h : chkS most l1 l2 l3 l4 l5 = 0) : Num most l1 l2 l3 l4 l5 ∧ ((ownL l1 l2 l3).map varN).Nodup ∧ l3.length ≤ (ordS l3 l3.length []).length := by
  unfold chkS at h
  by_cases c0 : most < 0
  · rw [if_pos c0] at h; cases h
  rw [if_neg c0] at h
  by_cases c1 : manyP most l1 l2 l3 l4 l5
  · rw [if_pos c1] at h; cases h
  rw [if_neg c1] at h
  by_cases c2 : badAny most l1 l2 l3 l4 l5 = true
  · rw [if_pos c2] at h; cases h
  rw [if_neg c2] at h
  refine ⟨num_of c0 c1 c2, ?_⟩
  unfold chkVal at h
  by_cases d0 : ¬ ((ownL l1 l2 l3).map varN).Nodup
  · rw [if_pos d0] at h; cases h
  rw [if_neg d0] at h
  by_cases d1 : (useL l2 l3 l4 l5).any (loose (ownL l1 l2 l3)) = true
  · rw [if_pos d1] at h; cases h
  rw [if_neg d1] at h
  by_cases d2 : (ordS l3 l3.length []).length < l3.length
  · rw [if_pos d2] at h; cases h
  exact ⟨Decidable.not_not.1 d0, by omega⟩

theorem num_ok {m : Nat} (hN : Num (m : Int) l1 l2 l3 l4 l5) (hn : ((ownL l1 l2 l3).map varN).Nodup) : Ok m l3 := by
  have hm := hN.m
  have hl := hN.len
  exact ok_of (by omega) (by omega) (fun x hx => ⟨(hN.own x hx).1, (hN.own x hx).2.1⟩) hN.use l1 l2 l4 l5 rfl rfl hn

theorem ord_bd (l3 : List Df) : ∀ i ∈ ordS l3 l3.length [], i < l3.length := ord_lt l3 l3.length [] (fun i hi => by cases hi)
theorem ord_len (l3 : List Df) : (ordS l3 l3.length []).length ≤ l3.length := by
  have := ord_le l3 l3.length []
  simpa using this

end
end Go.Proofs.YtihbpbdmhiihnaaDoor.Pl
/- The order of the gates: it is complete when every gate is ready, whatever the order in which they stand. -/
namespace Go.Proofs.YtihbpbdmhiihnaaDoor.Pl
open Go Go.Proofs.YtihbpbdmhiihnaaDoor.Sy
set_option linter.unusedVariables false
set_option linter.unusedSimpArgs false
theorem rdT_get (ls : List Df) (i : Nat) (h : i < ls.length) : rdD ls (i : Int) = ls[i] := by simp [rdD, h]
/-! ### the order, step by step -/
theorem ord_inv (ands : List Df) (f : Nat) : ∀ done : List Nat, done.Nodup → (∀ (k : Nat) (h : k < done.length), nextP ands (done.take k) done[k] = true) →
    (ordS ands f done).Nodup ∧ (∀ (k : Nat) (h : k < (ordS ands f done).length), nextP ands ((ordS ands f done).take k) (ordS ands f done)[k] = true) ∧
      ((ordS ands f done).length = done.length + f ∨ (List.range ands.length).find? (nextP ands (ordS ands f done)) = none) := by
  induction f with
  | zero => intro done h1 h2; exact ⟨h1, h2, .inl rfl⟩
  | succ f ih =>
    intro done h1 h2
    cases hf : (List.range ands.length).find? (nextP ands done) with
    | none =>
      have e : ordS ands (f + 1) done = done := by simp [ordS, hf]
      rw [e]; exact ⟨h1, h2, .inr hf⟩
    | some i =>
      have e : ordS ands (f + 1) done = ordS ands f (done ++ [i]) := by simp [ordS, hf]
      rw [e]
      have hp := List.find?_some hf
      have hi : i ∉ done := by
        unfold nextP at hp
        rw [Bool.and_eq_true, Bool.not_eq_true'] at hp
        intro hm
        have : done.contains i = true := by simpa using hm
        rw [this] at hp; exact absurd hp.1 (by simp)
      obtain ⟨g1, g2, g3⟩ := ih (done ++ [i]) (by
        rw [List.nodup_append]
        exact ⟨h1, by simp, fun a ha b hb e => by rw [List.mem_singleton.1 hb] at e; exact hi (e ▸ ha)⟩) (fun k hk => by
        rw [List.length_append, List.length_singleton] at hk
        by_cases hkl : k < done.length
        · rw [List.getElem_append_left hkl, List.take_append_of_le_length (by omega)]
          exact h2 k hkl
        · have : k = done.length := by omega
          subst this
          simpa using hp)
      refine ⟨g1, g2, g3.imp_left fun h => ?_⟩
      rw [h, List.length_append, List.length_singleton]; omega

theorem ord_all (ands : List Df) : (ordS ands ands.length []).Nodup ∧ (∀ (k : Nat) (h : k < (ordS ands ands.length []).length), nextP ands ((ordS ands ands.length []).take k) (ordS ands ands.length [])[k] = true) ∧
      ((ordS ands ands.length []).length = ands.length ∨ (List.range ands.length).find? (nextP ands (ordS ands ands.length [])) = none) := by
  have := ord_inv ands ands.length [] (by simp) (by simp)
  simpa using this

theorem all_le : ∀ (n : Nat) (s : List Nat), (∀ i, i < n → i ∈ s) → n ≤ s.length
  | 0, _, _ => Nat.zero_le _
  | n + 1, s, h => by
    have hn := h n (Nat.lt_succ_self n)
    have := all_le n (s.erase n) (fun i hi => (List.mem_erase_of_ne (by omega)).2 (h i (by omega)))
    rw [List.length_erase_of_mem hn] at this
    have := List.length_pos_of_mem hn
    omega

theorem mem_of_full {n : Nat} {s : List Nat} (hn : s.Nodup) (hl : ∀ i ∈ s, i < n) (h : n ≤ s.length) (i : Nat) (hi : i < n) : i ∈ s := by
  by_cases c : i ∈ s
  · exact c
  · have := nodup_le n (i :: s) (List.nodup_cons.2 ⟨c, hn⟩) (fun x hx => by
      rcases List.mem_cons.1 hx with rfl | hx
      · exact hi
      · exact hl x hx)
    rw [List.length_cons] at this; omega

/-! ### what is ready -/
inductive Rdy (ands : List Df) : Nat → Prop
  | free {u} (h : isG ands u = false) : Rdy ands u
  | gate {d} (h : d ∈ ands) (h1 : Rdy ands (paD d)) (h2 : Rdy ands (pbD d)) : Rdy ands (vrD d)

theorem isG_any (ands : List Df) (u : Nat) : isG ands u = ands.any (fun d => vrD d == u) := by
  rw [any_range]; rfl

theorem isG_perm {a b : List Df} (h : ∀ d, d ∈ a ↔ d ∈ b) (u : Nat) : isG a u = isG b u := by
  rw [isG_any, isG_any, Bool.eq_iff_iff, List.any_eq_true, List.any_eq_true]
  exact ⟨fun ⟨d, hd, e⟩ => ⟨d, (h d).1 hd, e⟩, fun ⟨d, hd, e⟩ => ⟨d, (h d).2 hd, e⟩⟩

theorem Rdy.perm {a b : List Df} (h : ∀ d, d ∈ a ↔ d ∈ b) {u : Nat} (hr : Rdy a u) : Rdy b u := by
  induction hr with
  | free hf => exact .free (by rw [← isG_perm h]; exact hf)
  | gate hd _ _ i1 i2 => exact .gate ((h _).1 hd) i1 i2

theorem rv_split {ands : List Df} {done : List Nat} {u : Nat} (h : rv ands done u = true) : isG ands u = false ∨ ∃ i ∈ done, vr ands i = u := by
  unfold rv at h
  rw [Bool.or_eq_true, Bool.not_eq_true', List.any_eq_true] at h
  exact h.imp_right fun ⟨i, hi, e⟩ => ⟨i, hi, by simpa using e⟩

theorem next_split {ands : List Df} {done : List Nat} {i : Nat} (h : nextP ands done i = true) : i ∉ done ∧ rv ands done (pa ands i) = true ∧ rv ands done (pb ands i) = true := by
  unfold nextP at h
  rw [Bool.and_eq_true, Bool.and_eq_true, Bool.not_eq_true'] at h
  exact ⟨fun hm => by have : done.contains i = true := by simpa using hm
                      rw [this] at h; exact absurd h.1 (by simp), h.2⟩

theorem rdy_of_done {ands : List Df} {s : List Nat} (hs : ∀ (k : Nat) (h : k < s.length), nextP ands (s.take k) s[k] = true) (hl : ∀ i ∈ s, i < ands.length) (k : Nat) : ∀ (h : k < s.length), Rdy ands (vr ands s[k]) := by
  induction k using Nat.strongRecOn with
  | _ k ih =>
    intro hk
    obtain ⟨-, h1, h2⟩ := next_split (hs k hk)
    have part : ∀ u, rv ands (s.take k) u = true → Rdy ands u := by
      intro u hu
      rcases rv_split hu with h | ⟨i, hi, e⟩
      · exact .free h
      · obtain ⟨j, hj, ej⟩ := List.getElem_of_mem hi
        rw [List.length_take] at hj
        rw [List.getElem_take] at ej
        have := ih j (by omega) (by omega)
        rw [ej, e] at this; exact this
    exact .gate (rdT_mem (hl _ (List.getElem_mem hk))) (part _ h1) (part _ h2)

theorem full_iff {ands : List Df} (once : ∀ i j, i < ands.length → j < ands.length → vr ands i = vr ands j → i = j) : ands.length ≤ (ordS ands ands.length []).length ↔ ∀ d ∈ ands, Rdy ands (vrD d) := by
  obtain ⟨h1, h2, h3⟩ := ord_all ands
  have hb := ord_bd ands
  constructor
  · intro h d hd
    obtain ⟨i, hi, rfl⟩ := List.getElem_of_mem hd
    have hm := mem_of_full h1 hb h i hi
    obtain ⟨k, hk, e⟩ := List.getElem_of_mem hm
    have := rdy_of_done h2 hb k hk
    rw [e] at this
    unfold vr at this
    rwa [rdT_get ands i hi] at this
  · intro h
    rcases h3 with h3 | h3
    · omega
    · refine all_le _ _ fun i hi => ?_
      by_cases c : i ∈ ordS ands ands.length []
      · exact c
      exfalso
      have hno : ∀ j, j < ands.length → ¬ nextP ands (ordS ands ands.length []) j = true := fun j hj => List.find?_eq_none.1 h3 j (List.mem_range.2 hj)
      have key : ∀ u, Rdy ands u → rv ands (ordS ands ands.length []) u = true := by
        intro u hu
        induction hu with
        | free hf => unfold rv; rw [hf]; rfl
        | gate hd _ _ i1 i2 =>
          rename_i d _ _
          obtain ⟨j, hj, rfl⟩ := List.getElem_of_mem hd
          have ej : rdD ands (j : Int) = ands[j] := rdT_get ands j hj
          by_cases cj : j ∈ ordS ands ands.length []
          · unfold rv
            rw [Bool.or_eq_true, List.any_eq_true]
            exact .inr ⟨j, cj, by unfold vr; rw [ej]; simp⟩
          · refine absurd ?_ (hno j hj)
            unfold nextP
            rw [Bool.and_eq_true, Bool.and_eq_true, Bool.not_eq_true']
            refine ⟨by simpa using cj, ?_, ?_⟩
            · unfold pa; rw [ej]; exact i1
            · unfold pb; rw [ej]; exact i2
      have hr := key _ (h _ (rdT_mem hi))
      rcases rv_split hr with h4 | ⟨j, hj, e⟩
      · have : isG ands (vr ands i) = true := isG_vr hi
        unfold vr at this
        rw [this] at h4; cases h4
      · exact c (once j i (hb j hj) hi e ▸ hj)

/-! ### gates in another order -/
theorem once_of {l1 : List Int} {l2 l3 : List Df} (hn : ((ownL l1 l2 l3).map varN).Nodup) : ∀ i j, i < l3.length → j < l3.length → vr l3 i = vr l3 j → i = j := by
  have h3 : (l3.map vrD).Nodup := by
    unfold ownL at hn
    rw [List.map_append, List.nodup_append] at hn
    have := hn.2.1
    rw [List.map_map] at this
    exact this
  intro i j hi hj e
  refine nodup_at h3 (by simpa using hi) (by simpa using hj) ?_
  unfold vr at e
  rw [rdT_get l3 i hi, rdT_get l3 j hj] at e
  simpa using e

section
variable {most : Int} {l1 : List Int} {l2 l3 l3' : List Df} {l4 l5 : List Int}
theorem own_perm (hp : l3.Perm l3') : (ownL l1 l2 l3).Perm (ownL l1 l2 l3') := by unfold ownL; exact List.Perm.append_left _ (hp.map _)
theorem use_perm (hp : l3.Perm l3') : (useL l2 l3 l4 l5).Perm (useL l2 l3' l4 l5) := by unfold useL; exact List.Perm.append_left _ (hp.flatMap_right _)

theorem any_perm {α : Type} {a b : List α} (h : ∀ x, x ∈ a ↔ x ∈ b) {f g : α → Bool} (hf : ∀ x, f x = g x) : a.any f = b.any g := by
  rw [Bool.eq_iff_iff, List.any_eq_true, List.any_eq_true]
  exact ⟨fun ⟨d, hd, e⟩ => ⟨d, (h d).1 hd, by rw [← hf]; exact e⟩, fun ⟨d, hd, e⟩ => ⟨d, (h d).2 hd, by rw [hf]; exact e⟩⟩

theorem chkVal_perm (hp : l3.Perm l3') : chkVal (ownL l1 l2 l3') (useL l2 l3' l4 l5) l3' = chkVal (ownL l1 l2 l3) (useL l2 l3 l4 l5) l3 := by
  have ho := own_perm (l1 := l1) (l2 := l2) hp
  have hu := use_perm (l2 := l2) (l4 := l4) (l5 := l5) hp
  have hnd : ((ownL l1 l2 l3').map varN).Nodup ↔ ((ownL l1 l2 l3).map varN).Nodup := ((ho.map varN).nodup_iff).symm
  have hl : ∀ x, loose (ownL l1 l2 l3') x = loose (ownL l1 l2 l3) x := by
    intro x
    unfold loose
    congr 2
    rw [Bool.eq_iff_iff, List.contains_iff_mem, List.contains_iff_mem]
    exact ((ho.map varN).mem_iff).symm
  have ha : (useL l2 l3' l4 l5).any (loose (ownL l1 l2 l3')) = (useL l2 l3 l4 l5).any (loose (ownL l1 l2 l3)) := any_perm (fun x => hu.mem_iff.symm) hl
  unfold chkVal
  by_cases c : ((ownL l1 l2 l3).map varN).Nodup
  · rw [if_neg (not_not_intro (hnd.2 c)), if_neg (not_not_intro c), ha]
    have hf : l3'.length ≤ (ordS l3' l3'.length []).length ↔ l3.length ≤ (ordS l3 l3.length []).length := by
      rw [full_iff (once_of (hnd.2 c)), full_iff (once_of c)]
      exact ⟨fun h d hd => (h d (hp.mem_iff.1 hd)).perm (fun d => hp.mem_iff.symm), fun h d hd => (h d (hp.mem_iff.2 hd)).perm (fun d => hp.mem_iff)⟩
    have hg : (ordS l3' l3'.length []).length < l3'.length ↔ (ordS l3 l3.length []).length < l3.length := by omega
    by_cases c2 : (ordS l3 l3.length []).length < l3.length
    · rw [if_pos c2, if_pos (hg.2 c2)]
    · rw [if_neg c2, if_neg (fun h => c2 (hg.1 h))]
  · rw [if_pos c, if_pos (fun h => c (hnd.1 h))]

theorem chkS_perm (hp : l3.Perm l3') : chkS most l1 l2 l3' l4 l5 = chkS most l1 l2 l3 l4 l5 := by
  have hb : badAny most l1 l2 l3' l4 l5 = badAny most l1 l2 l3 l4 l5 := by
    unfold badAny
    rw [any_perm (fun x => (own_perm (l1 := l1) (l2 := l2) hp).mem_iff.symm) (fun _ => rfl), any_perm (fun x => (use_perm (l2 := l2) (l4 := l4) (l5 := l5) hp).mem_iff.symm) (fun _ => rfl)]
  have hm : manyP most l1 l2 l3' l4 l5 ↔ manyP most l1 l2 l3 l4 l5 := by unfold manyP; rw [hp.length_eq]
  unfold chkS
  by_cases c0 : most < 0
  · rw [if_pos c0, if_pos c0]
  rw [if_neg c0, if_neg c0]
  by_cases c1 : manyP most l1 l2 l3 l4 l5
  · rw [if_pos c1, if_pos (hm.2 c1)]
  rw [if_neg c1, if_neg (fun h => c1 (hm.1 h)), hb, chkVal_perm hp]
end
end Go.Proofs.YtihbpbdmhiihnaaDoor.Pl
/- gates.Check's question: whether a literal is outside. -/
namespace Go.Proofs.YtihbpbdmhiihnaaDoor.Sy
open Go Go.Proofs.YtihbpbdmhiihnaaDoor.Ab
set_option maxRecDepth 1000000
def outB (s3 x : Int) : Bool := decide (x < 0) || decide (x / 2 ≥ s3)
section
variable (x s0 s1 s2 s3 : Int)
theorem out1 : callX Tryd.prog wr false O 66 [.d (I x), .ptr 0 0] [.box [.d (I s0), .d (I s1), .d (I s2), .d (I s3)]] [.br true] = some (.d (.bool true), [.box [.d (I s0), .d (I s1), .d (I s2), .d (I s3)]], [decide (x < 0) = true]) := by kernel_rfl
theorem out2 (b : Bool) : callX Tryd.prog wr false O 66 [.d (I x), .ptr 0 0] [.box [.d (I s0), .d (I s1), .d (I s2), .d (I s3)]] [.br false, .is (x / 2), .br b] = some (.d (.bool b), [.box [.d (I s0), .d (I s1), .d (I s2), .d (I s3)]], [decide (x < 0) = false, x.fdiv (2 ^ min (Int.toNat 1) IntKind.i64.bits) = x / 2, decide (x / 2 ≥ s3) = b]) := by kernel_rfl
theorem out : ICall Tryd.prog 66 [.d (I x), .ptr 0 0] [.box [.d (I s0), .d (I s1), .d (I s2), .d (I s3)]] (.d (.bool (outB s3 x))) [.box [.d (I s0), .d (I s1), .d (I s2), .d (I s3)]] := by
  unfold outB
  by_cases h : x < 0
  · rw [decide_eq_true h, Bool.true_or]
    exact callX_ok hO hm (out1 x s0 s1 s2 s3) (by simpa [AllP] using h)
  · rw [decide_eq_false h, Bool.false_or]
    refine callX_ok hO hm (out2 x s0 s1 s2 s3 _) ⟨by simpa using h, ?_, rfl⟩
    rw [Int.fdiv_eq_ediv_of_nonneg _ (by decide)]
    rfl
end
end Go.Proofs.YtihbpbdmhiihnaaDoor.Sy
/- Whether a list has an element of which a closure says so: spiritlevel/gates.Check$1. -/
namespace Go.Proofs.YtihbpbdmhiihnaaDoor.Sy.Gc1
open Go Go.Proofs.YtihbpbdmhiihnaaDoor.Ab Go.Proofs.YtihbpbdmhiihnaaDoor.Sy
set_option maxRecDepth 1000000
set_option linter.unusedVariables false
section
variable (s0 s1 s2 s3 : Int) (xs : List Int) (i : Nat)
def H (xs : List Int) (s0 s1 s2 s3 : Int) (i : Nat) : St := ⟨mk 19 [(0, .d (.sl (xs.map I))), (1, .func 66 [.ptr 0 0]), (7, .d (I ((xs.map I).length : Nat))), (8, .d (I i))] [], [.box [.d (I s0), .d (I s1), .d (I s2), .d (I s3)]]⟩
def E (s0 s1 s2 s3 : Int) : St := ⟨mk 19 [] [], [.box [.d (I s0), .d (I s1), .d (I s2), .d (I s3)]]⟩
def R (s0 s1 s2 s3 : Int) (i : Nat) : St := ⟨mk 19 [(4, .d (I i))] [], [.box [.d (I s0), .d (I s1), .d (I s2), .d (I s3)]]⟩
theorem rd1 : round Tryd.prog wr false O (loopOf Tryd.prog 58 0) (H xs s0 s1 s2 s3 i) [It.br true, It.el i (I (xs.getD i default)), .icall [0] (.d (.bool false)) [.box [.d (I s0), .d (I s1), .d (I s2), .d (I s3)]], .is ((i + 1 : Nat) : Int)] [0, 1, 7, 8] 1 = some (.normal, H xs s0 s1 s2 s3 (i + 1),
  [decide ((↑i : Int) < (((xs.map I).length : Nat) : Int)) = true, (↑i : Int) = (↑i : Int) ∧ (xs.map I)[i]? = some (I (xs.getD i default)), ICall Tryd.prog 66 [.d (I (xs.getD i default)), .ptr 0 0] [.box [.d (I s0), .d (I s1), .d (I s2), .d (I s3)]] (.d (.bool false)) [.box [.d (I s0), .d (I s1), .d (I s2), .d (I s3)]], IntKind.i64.wrap ((i : Int) + 1) = ((i + 1 : Nat) : Int)]) := by kernel_rfl
theorem rd2 : round Tryd.prog wr false O (loopOf Tryd.prog 58 0) (H xs s0 s1 s2 s3 i) [It.br true, It.el i (I (xs.getD i default)), .icall [0] (.d (.bool true)) [.box [.d (I s0), .d (I s1), .d (I s2), .d (I s3)]]] [4] 1 = some (.ret, R s0 s1 s2 s3 i,
  [decide ((↑i : Int) < (((xs.map I).length : Nat) : Int)) = true, (↑i : Int) = (↑i : Int) ∧ (xs.map I)[i]? = some (I (xs.getD i default)), ICall Tryd.prog 66 [.d (I (xs.getD i default)), .ptr 0 0] [.box [.d (I s0), .d (I s1), .d (I s2), .d (I s3)]] (.d (.bool true)) [.box [.d (I s0), .d (I s1), .d (I s2), .d (I s3)]]]) := by kernel_rfl
theorem rd3 : round Tryd.prog wr false O (loopOf Tryd.prog 58 0) (H xs s0 s1 s2 s3 i) [It.br false] [] 1 = some (.exit 0, E s0 s1 s2 s3, [decide ((↑i : Int) < (((xs.map I).length : Nat) : Int)) = false]) := by kernel_rfl
theorem f1 (j : Nat) : callX Tryd.prog wr false O 58 [.d (.sl (xs.map I)), .func 66 [.ptr 0 0]] [.box [.d (I s0), .d (I s1), .d (I s2), .d (I s3)]] [.lp [0, 1, 7, 8] .ret (R s0 s1 s2 s3 j)] = some (.d (I j), [.box [.d (I s0), .d (I s1), .d (I s2), .d (I s3)]], [GoesL Tryd.prog (loopOf Tryd.prog 58 0) (H xs s0 s1 s2 s3 0) .ret (R s0 s1 s2 s3 j)]) := by kernel_rfl
theorem f2 : callX Tryd.prog wr false O 58 [.d (.sl (xs.map I)), .func 66 [.ptr 0 0]] [.box [.d (I s0), .d (I s1), .d (I s2), .d (I s3)]] [.lp [0, 1, 7, 8] (.exit 0) (E s0 s1 s2 s3)] = some (.d (I (-1)), [.box [.d (I s0), .d (I s1), .d (I s2), .d (I s3)]], [GoesL Tryd.prog (loopOf Tryd.prog 58 0) (H xs s0 s1 s2 s3 0) (.exit 0) (E s0 s1 s2 s3)]) := by kernel_rfl
theorem g1 (j : Nat) : callX Tryd.prog wr false O 44 [.d (.sl (xs.map I)), .func 66 [.ptr 0 0]] [.box [.d (I s0), .d (I s1), .d (I s2), .d (I s3)]] [.icall [0] (.d (I j)) [.box [.d (I s0), .d (I s1), .d (I s2), .d (I s3)]], .br true] = some (.d (.bool true), [.box [.d (I s0), .d (I s1), .d (I s2), .d (I s3)]], [ICall Tryd.prog 58 [.d (.sl (xs.map I)), .func 66 [.ptr 0 0]] [.box [.d (I s0), .d (I s1), .d (I s2), .d (I s3)]] (.d (I j)) [.box [.d (I s0), .d (I s1), .d (I s2), .d (I s3)]], decide ((j : Int) ≥ 0) = true]) := by kernel_rfl
theorem g2 : callX Tryd.prog wr false O 44 [.d (.sl (xs.map I)), .func 66 [.ptr 0 0]] [.box [.d (I s0), .d (I s1), .d (I s2), .d (I s3)]] [.icall [0] (.d (I (-1))) [.box [.d (I s0), .d (I s1), .d (I s2), .d (I s3)]], .br false] = some (.d (.bool false), [.box [.d (I s0), .d (I s1), .d (I s2), .d (I s3)]], [ICall Tryd.prog 58 [.d (.sl (xs.map I)), .func 66 [.ptr 0 0]] [.box [.d (I s0), .d (I s1), .d (I s2), .d (I s3)]] (.d (I (-1))) [.box [.d (I s0), .d (I s1), .d (I s2), .d (I s3)]], decide ((-1 : Int) ≥ 0) = false]) := by kernel_rfl
end
/-- ContainsFunc: whether one is such. -/
theorem icall (s0 s1 s2 s3 : Int) (xs : List Int) (hl : xs.length ≤ 1000000) (hc : ∀ x ∈ xs, ICall Tryd.prog 66 [.d (I x), .ptr 0 0] [.box [.d (I s0), .d (I s1), .d (I s2), .d (I s3)]] (.d (.bool (outB s3 x))) [.box [.d (I s0), .d (I s1), .d (I s2), .d (I s3)]]) : ICall Tryd.prog 44 [.d (.sl (xs.map I)), .func 66 [.ptr 0 0]] [.box [.d (I s0), .d (I s1), .d (I s2), .d (I s3)]] (.d (.bool (xs.any (outB s3)))) [.box [.d (I s0), .d (I s1), .d (I s2), .d (I s3)]] := by
  have hm1 : ∀ i, i < xs.length → xs.getD i default ∈ xs := fun i h => by rw [List.getD_eq_getElem?_getD, List.getElem?_eq_getElem h]; exact List.getElem_mem h
  have hlt : ∀ i, i < xs.length → decide ((↑i : Int) < (((xs.map I).length : Nat) : Int)) = true := fun i h => by simp; omega
  obtain ⟨a1, a2⟩ := any_at xs (fun i => H xs s0 s1 s2 s3 i) (.exit 0) (R s0 s1 s2 s3) (E s0 s1 s2 s3) (outB s3)
    (fun i h hb => .stop hO hm (rd2 s0 s1 s2 s3 xs i) (by simp) ⟨hlt i h, ⟨rfl, get_map I xs i h⟩, by rw [← hb]; exact hc _ (hm1 i h)⟩)
    (fun i h hb e s hg => .step hO hm (rd1 s0 s1 s2 s3 xs i) ⟨hlt i h, ⟨rfl, get_map I xs i h⟩, by rw [← hb]; exact hc _ (hm1 i h), wrap_succ (by omega)⟩ hg)
    (.stop hO hm (rd3 s0 s1 s2 s3 xs xs.length) (by simp) (by simp [AllP])) xs.length 0 rfl (by omega)
  rw [List.drop_zero] at a1 a2
  cases hx : xs.any (outB s3) with
  | true =>
    obtain ⟨j, hj⟩ := a1 hx
    exact callX_ok hO hm (g1 s0 s1 s2 s3 xs j) ⟨callX_ok hO hm (f1 s0 s1 s2 s3 xs j) hj, by simp [AllP]⟩
  | false => exact callX_ok hO hm (g2 s0 s1 s2 s3 xs) ⟨callX_ok hO hm (f2 s0 s1 s2 s3 xs) (a2 hx), by simp [AllP]⟩
end Go.Proofs.YtihbpbdmhiihnaaDoor.Sy.Gc1
/- gates.Check's question: whether a latch is wrong; where inputs, latches and gates start. -/
namespace Go.Proofs.YtihbpbdmhiihnaaDoor.Sy
open Go Go.Proofs.YtihbpbdmhiihnaaDoor.Ab
set_option maxRecDepth 1000000
def wrongB (s3 : Int) (l : Lt) : Bool := outB s3 l.next || (decide (l.reset < 0) || decide (l.reset > 2))
section
variable (l : Lt) (s0 s1 s2 s3 : Int)
theorem wrong1 : callX Tryd.prog wr false O 67 [.d l.d, .ptr 0 0] [.box [.func 66 [.ptr 1 0]], .box [.d (I s0), .d (I s1), .d (I s2), .d (I s3)]] [.icall [1] (.d (.bool true)) [.box [.d (I s0), .d (I s1), .d (I s2), .d (I s3)]]]
  = some (.d (.bool true), [.box [.func 66 [.ptr 1 0]], .box [.d (I s0), .d (I s1), .d (I s2), .d (I s3)]],
    [ICall Tryd.prog 66 [.d (I l.next), .ptr 0 0] [.box [.d (I s0), .d (I s1), .d (I s2), .d (I s3)]] (.d (.bool true)) [.box [.d (I s0), .d (I s1), .d (I s2), .d (I s3)]]]) := by kernel_rfl
theorem wrong2 : callX Tryd.prog wr false O 67 [.d l.d, .ptr 0 0] [.box [.func 66 [.ptr 1 0]], .box [.d (I s0), .d (I s1), .d (I s2), .d (I s3)]] [.icall [1] (.d (.bool false)) [.box [.d (I s0), .d (I s1), .d (I s2), .d (I s3)]], .br true]
  = some (.d (.bool true), [.box [.func 66 [.ptr 1 0]], .box [.d (I s0), .d (I s1), .d (I s2), .d (I s3)]],
    [ICall Tryd.prog 66 [.d (I l.next), .ptr 0 0] [.box [.d (I s0), .d (I s1), .d (I s2), .d (I s3)]] (.d (.bool false)) [.box [.d (I s0), .d (I s1), .d (I s2), .d (I s3)]], decide (l.reset < 0) = true]) := by kernel_rfl
theorem wrong3 (b : Bool) : callX Tryd.prog wr false O 67 [.d l.d, .ptr 0 0] [.box [.func 66 [.ptr 1 0]], .box [.d (I s0), .d (I s1), .d (I s2), .d (I s3)]] [.icall [1] (.d (.bool false)) [.box [.d (I s0), .d (I s1), .d (I s2), .d (I s3)]], .br false, .br b]
  = some (.d (.bool b), [.box [.func 66 [.ptr 1 0]], .box [.d (I s0), .d (I s1), .d (I s2), .d (I s3)]],
    [ICall Tryd.prog 66 [.d (I l.next), .ptr 0 0] [.box [.d (I s0), .d (I s1), .d (I s2), .d (I s3)]] (.d (.bool false)) [.box [.d (I s0), .d (I s1), .d (I s2), .d (I s3)]], decide (l.reset < 0) = false, decide (l.reset > 2) = b]) := by kernel_rfl
theorem wrong : ICall Tryd.prog 67 [.d l.d, .ptr 0 0] [.box [.func 66 [.ptr 1 0]], .box [.d (I s0), .d (I s1), .d (I s2), .d (I s3)]] (.d (.bool (wrongB s3 l))) [.box [.func 66 [.ptr 1 0]], .box [.d (I s0), .d (I s1), .d (I s2), .d (I s3)]] := by
  have ho := out l.next s0 s1 s2 s3
  unfold wrongB
  cases h : outB s3 l.next with
  | true => rw [h] at ho; exact callX_ok hO hm (wrong1 l s0 s1 s2 s3) ho
  | false =>
    rw [h] at ho
    by_cases h2 : l.reset < 0
    · rw [decide_eq_true h2]
      exact callX_ok hO hm (wrong2 l s0 s1 s2 s3) ⟨ho, by simpa [AllP] using h2⟩
    · rw [decide_eq_false h2, Bool.false_or, Bool.false_or]
      exact callX_ok hO hm (wrong3 l s0 s1 s2 s3 _) ⟨ho, by simpa using h2, rfl⟩
end

section
variable (c : Ci)
def st1 : Int := 1 + c.ins
def st2 : Int := 1 + c.ins + ((c.lats.map Lt.d).length : Nat)
def st3 : Int := 1 + c.ins + ((c.lats.map Lt.d).length : Nat) + ((c.ands.map An.d).length : Nat)
theorem starts1 : callX Tryd.prog wr false O 55 [.d c.d] [] [.is (st1 c), .is (st2 c), .is (st3 c)] = some (.d (.agg [I 1, I (st1 c), I (st2 c), I (st3 c)]), [],
  [IntKind.i64.wrap (1 + c.ins) = st1 c, IntKind.i64.wrap (st1 c + ((c.lats.map Lt.d).length : Nat)) = st2 c, IntKind.i64.wrap (st2 c + ((c.ands.map An.d).length : Nat)) = st3 c]) := by kernel_rfl
theorem starts (h0 : 0 ≤ c.ins) (h1 : c.ins ≤ 1000) (h2 : c.lats.length ≤ 1000000) (h3 : c.ands.length ≤ 1000000) : ICall Tryd.prog 55 [.d c.d] [] (.d (.agg [I 1, I (st1 c), I (st2 c), I (st3 c)])) [] := by
  refine callX_ok hO hm (starts1 c) ⟨?_, ?_, ?_⟩ <;> simp only [st1, st2, st3, List.length_map] <;> exact wrap_id (by omega) (by omega)
end
end Go.Proofs.YtihbpbdmhiihnaaDoor.Sy
/- Whether a list has an element of which a closure says so: spiritlevel/gates.Check$2. -/
namespace Go.Proofs.YtihbpbdmhiihnaaDoor.Sy.Gc2
open Go Go.Proofs.YtihbpbdmhiihnaaDoor.Ab Go.Proofs.YtihbpbdmhiihnaaDoor.Sy
set_option maxRecDepth 1000000
set_option linter.unusedVariables false
section
variable (s0 s1 s2 s3 : Int) (xs : List Lt) (i : Nat)
def H (xs : List Lt) (s0 s1 s2 s3 : Int) (i : Nat) : St := ⟨mk 19 [(0, .d (.sl (xs.map Lt.d))), (1, .func 67 [.ptr 0 0]), (7, .d (I ((xs.map Lt.d).length : Nat))), (8, .d (I i))] [], [.box [.func 66 [.ptr 1 0]], .box [.d (I s0), .d (I s1), .d (I s2), .d (I s3)]]⟩
def E (s0 s1 s2 s3 : Int) : St := ⟨mk 19 [] [], [.box [.func 66 [.ptr 1 0]], .box [.d (I s0), .d (I s1), .d (I s2), .d (I s3)]]⟩
def R (s0 s1 s2 s3 : Int) (i : Nat) : St := ⟨mk 19 [(4, .d (I i))] [], [.box [.func 66 [.ptr 1 0]], .box [.d (I s0), .d (I s1), .d (I s2), .d (I s3)]]⟩
theorem rd1 : round Tryd.prog wr false O (loopOf Tryd.prog 74 0) (H xs s0 s1 s2 s3 i) [It.br true, It.el i (Lt.d (xs.getD i default)), .icall [0, 1] (.d (.bool false)) [.box [.func 66 [.ptr 1 0]], .box [.d (I s0), .d (I s1), .d (I s2), .d (I s3)]], .is ((i + 1 : Nat) : Int)] [0, 1, 7, 8] 2 = some (.normal, H xs s0 s1 s2 s3 (i + 1),
  [decide ((↑i : Int) < (((xs.map Lt.d).length : Nat) : Int)) = true, (↑i : Int) = (↑i : Int) ∧ (xs.map Lt.d)[i]? = some (Lt.d (xs.getD i default)), ICall Tryd.prog 67 [.d (Lt.d (xs.getD i default)), .ptr 0 0] [.box [.func 66 [.ptr 1 0]], .box [.d (I s0), .d (I s1), .d (I s2), .d (I s3)]] (.d (.bool false)) [.box [.func 66 [.ptr 1 0]], .box [.d (I s0), .d (I s1), .d (I s2), .d (I s3)]], IntKind.i64.wrap ((i : Int) + 1) = ((i + 1 : Nat) : Int)]) := by kernel_rfl
theorem rd2 : round Tryd.prog wr false O (loopOf Tryd.prog 74 0) (H xs s0 s1 s2 s3 i) [It.br true, It.el i (Lt.d (xs.getD i default)), .icall [0, 1] (.d (.bool true)) [.box [.func 66 [.ptr 1 0]], .box [.d (I s0), .d (I s1), .d (I s2), .d (I s3)]]] [4] 2 = some (.ret, R s0 s1 s2 s3 i,
  [decide ((↑i : Int) < (((xs.map Lt.d).length : Nat) : Int)) = true, (↑i : Int) = (↑i : Int) ∧ (xs.map Lt.d)[i]? = some (Lt.d (xs.getD i default)), ICall Tryd.prog 67 [.d (Lt.d (xs.getD i default)), .ptr 0 0] [.box [.func 66 [.ptr 1 0]], .box [.d (I s0), .d (I s1), .d (I s2), .d (I s3)]] (.d (.bool true)) [.box [.func 66 [.ptr 1 0]], .box [.d (I s0), .d (I s1), .d (I s2), .d (I s3)]]]) := by kernel_rfl
theorem rd3 : round Tryd.prog wr false O (loopOf Tryd.prog 74 0) (H xs s0 s1 s2 s3 i) [It.br false] [] 2 = some (.exit 0, E s0 s1 s2 s3, [decide ((↑i : Int) < (((xs.map Lt.d).length : Nat) : Int)) = false]) := by kernel_rfl
theorem f1 (j : Nat) : callX Tryd.prog wr false O 74 [.d (.sl (xs.map Lt.d)), .func 67 [.ptr 0 0]] [.box [.func 66 [.ptr 1 0]], .box [.d (I s0), .d (I s1), .d (I s2), .d (I s3)]] [.lp [0, 1, 7, 8] .ret (R s0 s1 s2 s3 j)] = some (.d (I j), [.box [.func 66 [.ptr 1 0]], .box [.d (I s0), .d (I s1), .d (I s2), .d (I s3)]], [GoesL Tryd.prog (loopOf Tryd.prog 74 0) (H xs s0 s1 s2 s3 0) .ret (R s0 s1 s2 s3 j)]) := by kernel_rfl
theorem f2 : callX Tryd.prog wr false O 74 [.d (.sl (xs.map Lt.d)), .func 67 [.ptr 0 0]] [.box [.func 66 [.ptr 1 0]], .box [.d (I s0), .d (I s1), .d (I s2), .d (I s3)]] [.lp [0, 1, 7, 8] (.exit 0) (E s0 s1 s2 s3)] = some (.d (I (-1)), [.box [.func 66 [.ptr 1 0]], .box [.d (I s0), .d (I s1), .d (I s2), .d (I s3)]], [GoesL Tryd.prog (loopOf Tryd.prog 74 0) (H xs s0 s1 s2 s3 0) (.exit 0) (E s0 s1 s2 s3)]) := by kernel_rfl
theorem g1 (j : Nat) : callX Tryd.prog wr false O 68 [.d (.sl (xs.map Lt.d)), .func 67 [.ptr 0 0]] [.box [.func 66 [.ptr 1 0]], .box [.d (I s0), .d (I s1), .d (I s2), .d (I s3)]] [.icall [0, 1] (.d (I j)) [.box [.func 66 [.ptr 1 0]], .box [.d (I s0), .d (I s1), .d (I s2), .d (I s3)]], .br true] = some (.d (.bool true), [.box [.func 66 [.ptr 1 0]], .box [.d (I s0), .d (I s1), .d (I s2), .d (I s3)]], [ICall Tryd.prog 74 [.d (.sl (xs.map Lt.d)), .func 67 [.ptr 0 0]] [.box [.func 66 [.ptr 1 0]], .box [.d (I s0), .d (I s1), .d (I s2), .d (I s3)]] (.d (I j)) [.box [.func 66 [.ptr 1 0]], .box [.d (I s0), .d (I s1), .d (I s2), .d (I s3)]], decide ((j : Int) ≥ 0) = true]) := by kernel_rfl
theorem g2 : callX Tryd.prog wr false O 68 [.d (.sl (xs.map Lt.d)), .func 67 [.ptr 0 0]] [.box [.func 66 [.ptr 1 0]], .box [.d (I s0), .d (I s1), .d (I s2), .d (I s3)]] [.icall [0, 1] (.d (I (-1))) [.box [.func 66 [.ptr 1 0]], .box [.d (I s0), .d (I s1), .d (I s2), .d (I s3)]], .br false] = some (.d (.bool false), [.box [.func 66 [.ptr 1 0]], .box [.d (I s0), .d (I s1), .d (I s2), .d (I s3)]], [ICall Tryd.prog 74 [.d (.sl (xs.map Lt.d)), .func 67 [.ptr 0 0]] [.box [.func 66 [.ptr 1 0]], .box [.d (I s0), .d (I s1), .d (I s2), .d (I s3)]] (.d (I (-1))) [.box [.func 66 [.ptr 1 0]], .box [.d (I s0), .d (I s1), .d (I s2), .d (I s3)]], decide ((-1 : Int) ≥ 0) = false]) := by kernel_rfl
end
/-- ContainsFunc: whether one is such. -/
theorem icall (s0 s1 s2 s3 : Int) (xs : List Lt) (hl : xs.length ≤ 1000000) (hc : ∀ x ∈ xs, ICall Tryd.prog 67 [.d (Lt.d x), .ptr 0 0] [.box [.func 66 [.ptr 1 0]], .box [.d (I s0), .d (I s1), .d (I s2), .d (I s3)]] (.d (.bool (wrongB s3 x))) [.box [.func 66 [.ptr 1 0]], .box [.d (I s0), .d (I s1), .d (I s2), .d (I s3)]]) : ICall Tryd.prog 68 [.d (.sl (xs.map Lt.d)), .func 67 [.ptr 0 0]] [.box [.func 66 [.ptr 1 0]], .box [.d (I s0), .d (I s1), .d (I s2), .d (I s3)]] (.d (.bool (xs.any (wrongB s3)))) [.box [.func 66 [.ptr 1 0]], .box [.d (I s0), .d (I s1), .d (I s2), .d (I s3)]] := by
  have hm1 : ∀ i, i < xs.length → xs.getD i default ∈ xs := fun i h => by rw [List.getD_eq_getElem?_getD, List.getElem?_eq_getElem h]; exact List.getElem_mem h
  have hlt : ∀ i, i < xs.length → decide ((↑i : Int) < (((xs.map Lt.d).length : Nat) : Int)) = true := fun i h => by simp; omega
  obtain ⟨a1, a2⟩ := any_at xs (fun i => H xs s0 s1 s2 s3 i) (.exit 0) (R s0 s1 s2 s3) (E s0 s1 s2 s3) (wrongB s3)
    (fun i h hb => .stop hO hm (rd2 s0 s1 s2 s3 xs i) (by simp) ⟨hlt i h, ⟨rfl, get_map Lt.d xs i h⟩, by rw [← hb]; exact hc _ (hm1 i h)⟩)
    (fun i h hb e s hg => .step hO hm (rd1 s0 s1 s2 s3 xs i) ⟨hlt i h, ⟨rfl, get_map Lt.d xs i h⟩, by rw [← hb]; exact hc _ (hm1 i h), wrap_succ (by omega)⟩ hg)
    (.stop hO hm (rd3 s0 s1 s2 s3 xs xs.length) (by simp) (by simp [AllP])) xs.length 0 rfl (by omega)
  rw [List.drop_zero] at a1 a2
  cases hx : xs.any (wrongB s3) with
  | true =>
    obtain ⟨j, hj⟩ := a1 hx
    exact callX_ok hO hm (g1 s0 s1 s2 s3 xs j) ⟨callX_ok hO hm (f1 s0 s1 s2 s3 xs j) hj, by simp [AllP]⟩
  | false => exact callX_ok hO hm (g2 s0 s1 s2 s3 xs) ⟨callX_ok hO hm (f2 s0 s1 s2 s3 xs) (a2 hx), by simp [AllP]⟩
end Go.Proofs.YtihbpbdmhiihnaaDoor.Sy.Gc2
/- gates.Check, on symbols. -/
namespace Go.Proofs.YtihbpbdmhiihnaaDoor.Sy.Gates
open Go Go.Proofs.YtihbpbdmhiihnaaDoor.Ab Go.Proofs.YtihbpbdmhiihnaaDoor.Sy
set_option maxRecDepth 1000000
set_option linter.unusedVariables false
def badA (s2 : Int) (i : Nat) (g : An) : Bool := decide (g.b < 0) || (decide (g.a < g.b) || decide (g.a ≥ 2 * (s2 + i)))
/-- What gates.Check answers. -/
def chk (c : Ci) : Int :=
  if c.ins < 0 then 8 else if c.ins > 1000 then 4 else if st3 c - 1 > 1000 then 4 else if (if ((c.cons.map I).length : Int) > ((c.bads.map I).length : Int) then ((c.cons.map I).length : Int) else ((c.bads.map I).length : Int)) > 100 then 4
  else if c.bads.any (outB (st3 c)) || (c.cons.any (outB (st3 c)) || c.lats.any (wrongB (st3 c))) then 8 else if anyIx (badA (st2 c)) c.ands 0 then 8 else 0
section
variable (c : Ci) (s0 s1 s2 s3 : Int) (i : Nat)
def H (c : Ci) (s0 s1 s2 s3 : Int) (i : Nat) : St := ⟨mk 80 [(3, .ptr 1 0), (52, .d (.sl (c.ands.map An.d))), (53, .d (I ((c.ands.map An.d).length : Nat))), (54, .d (I i))] [], [.box [.d (I c.ins), .d (.sl (c.lats.map Lt.d)), .d (.sl (c.ands.map An.d)), .d (L c.bads), .d (L c.cons)], .box [.d (I s0), .d (I s1), .d (I s2), .d (I s3)], .box [.func 66 [.ptr 1 0]]]⟩
def B (c : Ci) (s0 s1 s2 s3 : Int) : St := ⟨mk 80 [(2, .d (I 8))] [], [.box [.d (I c.ins), .d (.sl (c.lats.map Lt.d)), .d (.sl (c.ands.map An.d)), .d (L c.bads), .d (L c.cons)], .box [.d (I s0), .d (I s1), .d (I s2), .d (I s3)], .box [.func 66 [.ptr 1 0]]]⟩
def E (c : Ci) (s0 s1 s2 s3 : Int) : St := ⟨mk 80 [] [], [.box [.d (I c.ins), .d (.sl (c.lats.map Lt.d)), .d (.sl (c.ands.map An.d)), .d (L c.bads), .d (L c.cons)], .box [.d (I s0), .d (I s1), .d (I s2), .d (I s3)], .box [.func 66 [.ptr 1 0]]]⟩
theorem rd1 : round Tryd.prog wr false O (loopOf Tryd.prog 54 0) (H c s0 s1 s2 s3 i) [It.br true, It.el i (c.ands.getD i default).d, .br true] [2] 3 = some (.ret, B c s0 s1 s2 s3, [decide ((↑i : Int) < (((c.ands.map An.d).length : Nat) : Int)) = true, (↑i : Int) = (↑i : Int) ∧ (c.ands.map An.d)[i]? = some (c.ands.getD i default).d, decide ((c.ands.getD i default).b < 0) = true]) := by kernel_rfl
theorem rd2 : round Tryd.prog wr false O (loopOf Tryd.prog 54 0) (H c s0 s1 s2 s3 i) [It.br true, It.el i (c.ands.getD i default).d, .br false, .br true] [2] 3 = some (.ret, B c s0 s1 s2 s3, [decide ((↑i : Int) < (((c.ands.map An.d).length : Nat) : Int)) = true, (↑i : Int) = (↑i : Int) ∧ (c.ands.map An.d)[i]? = some (c.ands.getD i default).d, decide ((c.ands.getD i default).b < 0) = false, decide ((c.ands.getD i default).a < (c.ands.getD i default).b) = true]) := by kernel_rfl
theorem rd3 : round Tryd.prog wr false O (loopOf Tryd.prog 54 0) (H c s0 s1 s2 s3 i) [It.br true, It.el i (c.ands.getD i default).d, .br false, .br false, .is (s2 + (↑i : Int)), .is (2 * (s2 + (↑i : Int))), .br true] [2] 3 = some (.ret, B c s0 s1 s2 s3, [decide ((↑i : Int) < (((c.ands.map An.d).length : Nat) : Int)) = true, (↑i : Int) = (↑i : Int) ∧ (c.ands.map An.d)[i]? = some (c.ands.getD i default).d, decide ((c.ands.getD i default).b < 0) = false, decide ((c.ands.getD i default).a < (c.ands.getD i default).b) = false, IntKind.i64.wrap (s2 + (↑i : Int)) = s2 + (↑i : Int), IntKind.i64.wrap (2 * (s2 + (↑i : Int))) = 2 * (s2 + (↑i : Int)), decide ((c.ands.getD i default).a ≥ 2 * (s2 + (↑i : Int))) = true]) := by kernel_rfl
theorem rd4 : round Tryd.prog wr false O (loopOf Tryd.prog 54 0) (H c s0 s1 s2 s3 i) [It.br true, It.el i (c.ands.getD i default).d, .br false, .br false, .is (s2 + (↑i : Int)), .is (2 * (s2 + (↑i : Int))), .br false, .is ((i + 1 : Nat) : Int)] [3, 52, 53, 54] 3 = some (.normal, H c s0 s1 s2 s3 (i + 1), [decide ((↑i : Int) < (((c.ands.map An.d).length : Nat) : Int)) = true, (↑i : Int) = (↑i : Int) ∧ (c.ands.map An.d)[i]? = some (c.ands.getD i default).d, decide ((c.ands.getD i default).b < 0) = false, decide ((c.ands.getD i default).a < (c.ands.getD i default).b) = false, IntKind.i64.wrap (s2 + (↑i : Int)) = s2 + (↑i : Int), IntKind.i64.wrap (2 * (s2 + (↑i : Int))) = 2 * (s2 + (↑i : Int)), decide ((c.ands.getD i default).a ≥ 2 * (s2 + (↑i : Int))) = false, IntKind.i64.wrap ((i : Int) + 1) = ((i + 1 : Nat) : Int)]) := by kernel_rfl
theorem rd5 : round Tryd.prog wr false O (loopOf Tryd.prog 54 0) (H c s0 s1 s2 s3 i) [.br false] [] 3 = some (.exit 0, E c s0 s1 s2 s3, [decide ((↑i : Int) < (((c.ands.map An.d).length : Nat) : Int)) = false]) := by kernel_rfl
end
theorem loop (c : Ci) (s0 s1 s2 s3 : Int) (hl : c.ands.length ≤ 1000000) (hs : 0 ≤ s2 ∧ s2 ≤ 3000000) :
    (anyIx (badA s2) c.ands 0 = true → GoesL Tryd.prog (loopOf Tryd.prog 54 0) (H c s0 s1 s2 s3 0) .ret (B c s0 s1 s2 s3)) ∧ (anyIx (badA s2) c.ands 0 = false → GoesL Tryd.prog (loopOf Tryd.prog 54 0) (H c s0 s1 s2 s3 0) (.exit 0) (E c s0 s1 s2 s3)) := by
  have hlt : ∀ i, i < c.ands.length → decide ((↑i : Int) < (((c.ands.map An.d).length : Nat) : Int)) = true := fun i h => by simp; omega
  have w1 : ∀ i : Nat, i < c.ands.length → IntKind.i64.wrap (s2 + (↑i : Int)) = s2 + (↑i : Int) := fun i h => wrap_id (by omega) (by omega)
  have w2 : ∀ i : Nat, i < c.ands.length → IntKind.i64.wrap (2 * (s2 + (↑i : Int))) = 2 * (s2 + (↑i : Int)) := fun i h => wrap_id (by omega) (by omega)
  have := any_ix c.ands (fun i => H c s0 s1 s2 s3 i) .ret (.exit 0) (B c s0 s1 s2 s3) (E c s0 s1 s2 s3) (badA s2)
    (fun i h hb => by
      by_cases c1 : (c.ands.getD i default).b < 0
      · exact .stop hO hm (rd1 c s0 s1 s2 s3 i) (by simp) ⟨hlt i h, ⟨rfl, get_map An.d c.ands i h⟩, decide_eq_true c1⟩
      · by_cases c2 : (c.ands.getD i default).a < (c.ands.getD i default).b
        · exact .stop hO hm (rd2 c s0 s1 s2 s3 i) (by simp) ⟨hlt i h, ⟨rfl, get_map An.d c.ands i h⟩, decide_eq_false c1, decide_eq_true c2⟩
        · refine .stop hO hm (rd3 c s0 s1 s2 s3 i) (by simp) ⟨hlt i h, ⟨rfl, get_map An.d c.ands i h⟩, decide_eq_false c1, decide_eq_false c2, w1 i h, w2 i h, ?_⟩
          unfold badA at hb
          rw [decide_eq_false c1, decide_eq_false c2, Bool.false_or, Bool.false_or] at hb
          exact hb)
    (fun i h hb e s hg => by
      unfold badA at hb
      rw [Bool.or_eq_false_iff, Bool.or_eq_false_iff] at hb
      exact .step hO hm (rd4 c s0 s1 s2 s3 i) ⟨hlt i h, ⟨rfl, get_map An.d c.ands i h⟩, hb.1, hb.2.1, w1 i h, w2 i h, hb.2.2, wrap_succ (by omega)⟩ hg)
    (.stop hO hm (rd5 c s0 s1 s2 s3 c.ands.length) (by simp) (by simp [AllP])) c.ands.length 0 rfl (by omega)
  rwa [List.drop_zero] at this
section
variable (c : Ci)
theorem f1 : callX Tryd.prog wr false O 54 [.d c.d] [] [.br true] = some (.d (I 8), [], [decide (c.ins < 0) = true]) := by kernel_rfl
theorem f2 : callX Tryd.prog wr false O 54 [.d c.d] [] [.br false, .br true] = some (.d (I 4), [], [decide (c.ins < 0) = false, decide (c.ins > 1000) = true]) := by kernel_rfl
theorem f3 : callX Tryd.prog wr false O 54 [.d c.d] [] [.br false, .br false, .ret (.d (.agg [I 1, I (st1 c), I (st2 c), I (st3 c)])), .is (st3 c - 1), .br true] = some (.d (I 4), [], [decide (c.ins < 0) = false, decide (c.ins > 1000) = false, (ICall Tryd.prog 55 [.d c.d] [] (.d (.agg [I 1, I (st1 c), I (st2 c), I (st3 c)])) [] ∧ (([] : List Nat) = [] ∨ V.safe (.d (.agg [I 1, I (st1 c), I (st2 c), I (st3 c)])) = true)), IntKind.i64.wrap (st3 c - 1) = st3 c - 1, decide (st3 c - 1 > 1000) = true]) := by kernel_rfl
theorem f4 : callX Tryd.prog wr false O 54 [.d c.d] [] [.br false, .br false, .ret (.d (.agg [I 1, I (st1 c), I (st2 c), I (st3 c)])), .is (st3 c - 1), .br false, .is (if ((c.cons.map I).length : Int) > ((c.bads.map I).length : Int) then ((c.cons.map I).length : Int) else ((c.bads.map I).length : Int)), .br true] = some (.d (I 4), [], [decide (c.ins < 0) = false, decide (c.ins > 1000) = false, (ICall Tryd.prog 55 [.d c.d] [] (.d (.agg [I 1, I (st1 c), I (st2 c), I (st3 c)])) [] ∧ (([] : List Nat) = [] ∨ V.safe (.d (.agg [I 1, I (st1 c), I (st2 c), I (st3 c)])) = true)), IntKind.i64.wrap (st3 c - 1) = st3 c - 1, decide (st3 c - 1 > 1000) = false, (if ((c.cons.map I).length : Int) > ((c.bads.map I).length : Int) then ((c.cons.map I).length : Int) else ((c.bads.map I).length : Int)) = (if ((c.cons.map I).length : Int) > ((c.bads.map I).length : Int) then ((c.cons.map I).length : Int) else ((c.bads.map I).length : Int)), decide ((if ((c.cons.map I).length : Int) > ((c.bads.map I).length : Int) then ((c.cons.map I).length : Int) else ((c.bads.map I).length : Int)) > 100) = true]) := by kernel_rfl
theorem f5 : callX Tryd.prog wr false O 54 [.d c.d] [] [.br false, .br false, .ret (.d (.agg [I 1, I (st1 c), I (st2 c), I (st3 c)])), .is (st3 c - 1), .br false, .is (if ((c.cons.map I).length : Int) > ((c.bads.map I).length : Int) then ((c.cons.map I).length : Int) else ((c.bads.map I).length : Int)), .br false, .ret (.d (.agg [I 1, I (st1 c), I (st2 c), I (st3 c)])), .icall [1] (.d (.bool true)) [.box [.d (I 1), .d (I (st1 c)), .d (I (st2 c)), .d (I (st3 c))]]] = some (.d (I 8), [], [decide (c.ins < 0) = false, decide (c.ins > 1000) = false, (ICall Tryd.prog 55 [.d c.d] [] (.d (.agg [I 1, I (st1 c), I (st2 c), I (st3 c)])) [] ∧ (([] : List Nat) = [] ∨ V.safe (.d (.agg [I 1, I (st1 c), I (st2 c), I (st3 c)])) = true)), IntKind.i64.wrap (st3 c - 1) = st3 c - 1, decide (st3 c - 1 > 1000) = false, (if ((c.cons.map I).length : Int) > ((c.bads.map I).length : Int) then ((c.cons.map I).length : Int) else ((c.bads.map I).length : Int)) = (if ((c.cons.map I).length : Int) > ((c.bads.map I).length : Int) then ((c.cons.map I).length : Int) else ((c.bads.map I).length : Int)), decide ((if ((c.cons.map I).length : Int) > ((c.bads.map I).length : Int) then ((c.cons.map I).length : Int) else ((c.bads.map I).length : Int)) > 100) = false, (ICall Tryd.prog 55 [.d c.d] [] (.d (.agg [I 1, I (st1 c), I (st2 c), I (st3 c)])) [] ∧ (([] : List Nat) = [] ∨ V.safe (.d (.agg [I 1, I (st1 c), I (st2 c), I (st3 c)])) = true)), ICall Tryd.prog 44 [.d (L c.bads), .func 66 [.ptr 0 0]] [.box [.d (I 1), .d (I (st1 c)), .d (I (st2 c)), .d (I (st3 c))]] (.d (.bool true)) [.box [.d (I 1), .d (I (st1 c)), .d (I (st2 c)), .d (I (st3 c))]]]) := by kernel_rfl
theorem f6 : callX Tryd.prog wr false O 54 [.d c.d] [] [.br false, .br false, .ret (.d (.agg [I 1, I (st1 c), I (st2 c), I (st3 c)])), .is (st3 c - 1), .br false, .is (if ((c.cons.map I).length : Int) > ((c.bads.map I).length : Int) then ((c.cons.map I).length : Int) else ((c.bads.map I).length : Int)), .br false, .ret (.d (.agg [I 1, I (st1 c), I (st2 c), I (st3 c)])), .icall [1] (.d (.bool false)) [.box [.d (I 1), .d (I (st1 c)), .d (I (st2 c)), .d (I (st3 c))]], .icall [1] (.d (.bool true)) [.box [.d (I 1), .d (I (st1 c)), .d (I (st2 c)), .d (I (st3 c))]]] = some (.d (I 8), [], [decide (c.ins < 0) = false, decide (c.ins > 1000) = false, (ICall Tryd.prog 55 [.d c.d] [] (.d (.agg [I 1, I (st1 c), I (st2 c), I (st3 c)])) [] ∧ (([] : List Nat) = [] ∨ V.safe (.d (.agg [I 1, I (st1 c), I (st2 c), I (st3 c)])) = true)), IntKind.i64.wrap (st3 c - 1) = st3 c - 1, decide (st3 c - 1 > 1000) = false, (if ((c.cons.map I).length : Int) > ((c.bads.map I).length : Int) then ((c.cons.map I).length : Int) else ((c.bads.map I).length : Int)) = (if ((c.cons.map I).length : Int) > ((c.bads.map I).length : Int) then ((c.cons.map I).length : Int) else ((c.bads.map I).length : Int)), decide ((if ((c.cons.map I).length : Int) > ((c.bads.map I).length : Int) then ((c.cons.map I).length : Int) else ((c.bads.map I).length : Int)) > 100) = false, (ICall Tryd.prog 55 [.d c.d] [] (.d (.agg [I 1, I (st1 c), I (st2 c), I (st3 c)])) [] ∧ (([] : List Nat) = [] ∨ V.safe (.d (.agg [I 1, I (st1 c), I (st2 c), I (st3 c)])) = true)), ICall Tryd.prog 44 [.d (L c.bads), .func 66 [.ptr 0 0]] [.box [.d (I 1), .d (I (st1 c)), .d (I (st2 c)), .d (I (st3 c))]] (.d (.bool false)) [.box [.d (I 1), .d (I (st1 c)), .d (I (st2 c)), .d (I (st3 c))]], ICall Tryd.prog 44 [.d (L c.cons), .func 66 [.ptr 0 0]] [.box [.d (I 1), .d (I (st1 c)), .d (I (st2 c)), .d (I (st3 c))]] (.d (.bool true)) [.box [.d (I 1), .d (I (st1 c)), .d (I (st2 c)), .d (I (st3 c))]]]) := by kernel_rfl
theorem f7 : callX Tryd.prog wr false O 54 [.d c.d] [] [.br false, .br false, .ret (.d (.agg [I 1, I (st1 c), I (st2 c), I (st3 c)])), .is (st3 c - 1), .br false, .is (if ((c.cons.map I).length : Int) > ((c.bads.map I).length : Int) then ((c.cons.map I).length : Int) else ((c.bads.map I).length : Int)), .br false, .ret (.d (.agg [I 1, I (st1 c), I (st2 c), I (st3 c)])), .icall [1] (.d (.bool false)) [.box [.d (I 1), .d (I (st1 c)), .d (I (st2 c)), .d (I (st3 c))]], .icall [1] (.d (.bool false)) [.box [.d (I 1), .d (I (st1 c)), .d (I (st2 c)), .d (I (st3 c))]], .icall [2, 1] (.d (.bool true)) [.box [.func 66 [.ptr 1 0]], .box [.d (I 1), .d (I (st1 c)), .d (I (st2 c)), .d (I (st3 c))]]] = some (.d (I 8), [], [decide (c.ins < 0) = false, decide (c.ins > 1000) = false, (ICall Tryd.prog 55 [.d c.d] [] (.d (.agg [I 1, I (st1 c), I (st2 c), I (st3 c)])) [] ∧ (([] : List Nat) = [] ∨ V.safe (.d (.agg [I 1, I (st1 c), I (st2 c), I (st3 c)])) = true)), IntKind.i64.wrap (st3 c - 1) = st3 c - 1, decide (st3 c - 1 > 1000) = false, (if ((c.cons.map I).length : Int) > ((c.bads.map I).length : Int) then ((c.cons.map I).length : Int) else ((c.bads.map I).length : Int)) = (if ((c.cons.map I).length : Int) > ((c.bads.map I).length : Int) then ((c.cons.map I).length : Int) else ((c.bads.map I).length : Int)), decide ((if ((c.cons.map I).length : Int) > ((c.bads.map I).length : Int) then ((c.cons.map I).length : Int) else ((c.bads.map I).length : Int)) > 100) = false, (ICall Tryd.prog 55 [.d c.d] [] (.d (.agg [I 1, I (st1 c), I (st2 c), I (st3 c)])) [] ∧ (([] : List Nat) = [] ∨ V.safe (.d (.agg [I 1, I (st1 c), I (st2 c), I (st3 c)])) = true)), ICall Tryd.prog 44 [.d (L c.bads), .func 66 [.ptr 0 0]] [.box [.d (I 1), .d (I (st1 c)), .d (I (st2 c)), .d (I (st3 c))]] (.d (.bool false)) [.box [.d (I 1), .d (I (st1 c)), .d (I (st2 c)), .d (I (st3 c))]], ICall Tryd.prog 44 [.d (L c.cons), .func 66 [.ptr 0 0]] [.box [.d (I 1), .d (I (st1 c)), .d (I (st2 c)), .d (I (st3 c))]] (.d (.bool false)) [.box [.d (I 1), .d (I (st1 c)), .d (I (st2 c)), .d (I (st3 c))]], ICall Tryd.prog 68 [.d (.sl (c.lats.map Lt.d)), .func 67 [.ptr 0 0]] [.box [.func 66 [.ptr 1 0]], .box [.d (I 1), .d (I (st1 c)), .d (I (st2 c)), .d (I (st3 c))]] (.d (.bool true)) [.box [.func 66 [.ptr 1 0]], .box [.d (I 1), .d (I (st1 c)), .d (I (st2 c)), .d (I (st3 c))]]]) := by kernel_rfl
theorem f8 : callX Tryd.prog wr false O 54 [.d c.d] [] [.br false, .br false, .ret (.d (.agg [I 1, I (st1 c), I (st2 c), I (st3 c)])), .is (st3 c - 1), .br false, .is (if ((c.cons.map I).length : Int) > ((c.bads.map I).length : Int) then ((c.cons.map I).length : Int) else ((c.bads.map I).length : Int)), .br false, .ret (.d (.agg [I 1, I (st1 c), I (st2 c), I (st3 c)])), .icall [1] (.d (.bool false)) [.box [.d (I 1), .d (I (st1 c)), .d (I (st2 c)), .d (I (st3 c))]], .icall [1] (.d (.bool false)) [.box [.d (I 1), .d (I (st1 c)), .d (I (st2 c)), .d (I (st3 c))]], .icall [2, 1] (.d (.bool false)) [.box [.func 66 [.ptr 1 0]], .box [.d (I 1), .d (I (st1 c)), .d (I (st2 c)), .d (I (st3 c))]], .lp [3, 52, 53, 54] .ret (B c 1 (st1 c) (st2 c) (st3 c))] = some (.d (I 8), [], [decide (c.ins < 0) = false, decide (c.ins > 1000) = false, (ICall Tryd.prog 55 [.d c.d] [] (.d (.agg [I 1, I (st1 c), I (st2 c), I (st3 c)])) [] ∧ (([] : List Nat) = [] ∨ V.safe (.d (.agg [I 1, I (st1 c), I (st2 c), I (st3 c)])) = true)), IntKind.i64.wrap (st3 c - 1) = st3 c - 1, decide (st3 c - 1 > 1000) = false, (if ((c.cons.map I).length : Int) > ((c.bads.map I).length : Int) then ((c.cons.map I).length : Int) else ((c.bads.map I).length : Int)) = (if ((c.cons.map I).length : Int) > ((c.bads.map I).length : Int) then ((c.cons.map I).length : Int) else ((c.bads.map I).length : Int)), decide ((if ((c.cons.map I).length : Int) > ((c.bads.map I).length : Int) then ((c.cons.map I).length : Int) else ((c.bads.map I).length : Int)) > 100) = false, (ICall Tryd.prog 55 [.d c.d] [] (.d (.agg [I 1, I (st1 c), I (st2 c), I (st3 c)])) [] ∧ (([] : List Nat) = [] ∨ V.safe (.d (.agg [I 1, I (st1 c), I (st2 c), I (st3 c)])) = true)), ICall Tryd.prog 44 [.d (L c.bads), .func 66 [.ptr 0 0]] [.box [.d (I 1), .d (I (st1 c)), .d (I (st2 c)), .d (I (st3 c))]] (.d (.bool false)) [.box [.d (I 1), .d (I (st1 c)), .d (I (st2 c)), .d (I (st3 c))]], ICall Tryd.prog 44 [.d (L c.cons), .func 66 [.ptr 0 0]] [.box [.d (I 1), .d (I (st1 c)), .d (I (st2 c)), .d (I (st3 c))]] (.d (.bool false)) [.box [.d (I 1), .d (I (st1 c)), .d (I (st2 c)), .d (I (st3 c))]], ICall Tryd.prog 68 [.d (.sl (c.lats.map Lt.d)), .func 67 [.ptr 0 0]] [.box [.func 66 [.ptr 1 0]], .box [.d (I 1), .d (I (st1 c)), .d (I (st2 c)), .d (I (st3 c))]] (.d (.bool false)) [.box [.func 66 [.ptr 1 0]], .box [.d (I 1), .d (I (st1 c)), .d (I (st2 c)), .d (I (st3 c))]], GoesL Tryd.prog (loopOf Tryd.prog 54 0) (H c 1 (st1 c) (st2 c) (st3 c) 0) .ret (B c 1 (st1 c) (st2 c) (st3 c))]) := by kernel_rfl
theorem f9 : callX Tryd.prog wr false O 54 [.d c.d] [] [.br false, .br false, .ret (.d (.agg [I 1, I (st1 c), I (st2 c), I (st3 c)])), .is (st3 c - 1), .br false, .is (if ((c.cons.map I).length : Int) > ((c.bads.map I).length : Int) then ((c.cons.map I).length : Int) else ((c.bads.map I).length : Int)), .br false, .ret (.d (.agg [I 1, I (st1 c), I (st2 c), I (st3 c)])), .icall [1] (.d (.bool false)) [.box [.d (I 1), .d (I (st1 c)), .d (I (st2 c)), .d (I (st3 c))]], .icall [1] (.d (.bool false)) [.box [.d (I 1), .d (I (st1 c)), .d (I (st2 c)), .d (I (st3 c))]], .icall [2, 1] (.d (.bool false)) [.box [.func 66 [.ptr 1 0]], .box [.d (I 1), .d (I (st1 c)), .d (I (st2 c)), .d (I (st3 c))]], .lp [3, 52, 53, 54] (.exit 0) (E c 1 (st1 c) (st2 c) (st3 c))] = some (.d (I 0), [], [decide (c.ins < 0) = false, decide (c.ins > 1000) = false, (ICall Tryd.prog 55 [.d c.d] [] (.d (.agg [I 1, I (st1 c), I (st2 c), I (st3 c)])) [] ∧ (([] : List Nat) = [] ∨ V.safe (.d (.agg [I 1, I (st1 c), I (st2 c), I (st3 c)])) = true)), IntKind.i64.wrap (st3 c - 1) = st3 c - 1, decide (st3 c - 1 > 1000) = false, (if ((c.cons.map I).length : Int) > ((c.bads.map I).length : Int) then ((c.cons.map I).length : Int) else ((c.bads.map I).length : Int)) = (if ((c.cons.map I).length : Int) > ((c.bads.map I).length : Int) then ((c.cons.map I).length : Int) else ((c.bads.map I).length : Int)), decide ((if ((c.cons.map I).length : Int) > ((c.bads.map I).length : Int) then ((c.cons.map I).length : Int) else ((c.bads.map I).length : Int)) > 100) = false, (ICall Tryd.prog 55 [.d c.d] [] (.d (.agg [I 1, I (st1 c), I (st2 c), I (st3 c)])) [] ∧ (([] : List Nat) = [] ∨ V.safe (.d (.agg [I 1, I (st1 c), I (st2 c), I (st3 c)])) = true)), ICall Tryd.prog 44 [.d (L c.bads), .func 66 [.ptr 0 0]] [.box [.d (I 1), .d (I (st1 c)), .d (I (st2 c)), .d (I (st3 c))]] (.d (.bool false)) [.box [.d (I 1), .d (I (st1 c)), .d (I (st2 c)), .d (I (st3 c))]], ICall Tryd.prog 44 [.d (L c.cons), .func 66 [.ptr 0 0]] [.box [.d (I 1), .d (I (st1 c)), .d (I (st2 c)), .d (I (st3 c))]] (.d (.bool false)) [.box [.d (I 1), .d (I (st1 c)), .d (I (st2 c)), .d (I (st3 c))]], ICall Tryd.prog 68 [.d (.sl (c.lats.map Lt.d)), .func 67 [.ptr 0 0]] [.box [.func 66 [.ptr 1 0]], .box [.d (I 1), .d (I (st1 c)), .d (I (st2 c)), .d (I (st3 c))]] (.d (.bool false)) [.box [.func 66 [.ptr 1 0]], .box [.d (I 1), .d (I (st1 c)), .d (I (st2 c)), .d (I (st3 c))]], GoesL Tryd.prog (loopOf Tryd.prog 54 0) (H c 1 (st1 c) (st2 c) (st3 c) 0) (.exit 0) (E c 1 (st1 c) (st2 c) (st3 c))]) := by kernel_rfl
end
theorem icall (c : Ci) (h2 : c.lats.length ≤ 1000000) (h3 : c.ands.length ≤ 1000000) (h4 : c.bads.length ≤ 1000000) (h5 : c.cons.length ≤ 1000000) : ICall Tryd.prog 54 [.d c.d] [] (.d (I (chk c))) [] := by
  unfold chk
  by_cases c1 : c.ins < 0
  · rw [if_pos c1]; exact callX_ok hO hm (f1 c) (by simpa [AllP] using c1)
  rw [if_neg c1]
  have k1 : decide (c.ins < 0) = false := decide_eq_false c1
  by_cases c2 : c.ins > 1000
  · rw [if_pos c2]; exact callX_ok hO hm (f2 c) ⟨k1, decide_eq_true c2⟩
  rw [if_neg c2]
  have k2 : decide (c.ins > 1000) = false := decide_eq_false c2
  have hs : (ICall Tryd.prog 55 [.d c.d] [] (.d (.agg [I 1, I (st1 c), I (st2 c), I (st3 c)])) [] ∧ (([] : List Nat) = [] ∨ V.safe (.d (.agg [I 1, I (st1 c), I (st2 c), I (st3 c)])) = true)) := ⟨starts c (by omega) (by omega) h2 h3, .inl rfl⟩
  have w3 : IntKind.i64.wrap (st3 c - 1) = st3 c - 1 := by simp only [st3, List.length_map]; exact wrap_id (by omega) (by omega)
  by_cases c3 : st3 c - 1 > 1000
  · rw [if_pos c3]; exact callX_ok hO hm (f3 c) ⟨k1, k2, hs, w3, decide_eq_true c3⟩
  rw [if_neg c3]
  have k3 : decide (st3 c - 1 > 1000) = false := decide_eq_false c3
  by_cases c4 : (if ((c.cons.map I).length : Int) > ((c.bads.map I).length : Int) then ((c.cons.map I).length : Int) else ((c.bads.map I).length : Int)) > 100
  · rw [if_pos c4]; exact callX_ok hO hm (f4 c) ⟨k1, k2, hs, w3, k3, rfl, decide_eq_true c4⟩
  rw [if_neg c4]
  have k4 : decide ((if ((c.cons.map I).length : Int) > ((c.bads.map I).length : Int) then ((c.cons.map I).length : Int) else ((c.bads.map I).length : Int)) > 100) = false := decide_eq_false c4
  have hb := Gc1.icall 1 (st1 c) (st2 c) (st3 c) c.bads h4 (fun x _ => out x 1 (st1 c) (st2 c) (st3 c))
  have hc := Gc1.icall 1 (st1 c) (st2 c) (st3 c) c.cons h5 (fun x _ => out x 1 (st1 c) (st2 c) (st3 c))
  have hl := Gc2.icall 1 (st1 c) (st2 c) (st3 c) c.lats h2 (fun x _ => wrong x 1 (st1 c) (st2 c) (st3 c))
  cases e1 : c.bads.any (outB (st3 c)) with
  | true => rw [e1] at hb; exact callX_ok hO hm (f5 c) ⟨k1, k2, hs, w3, k3, rfl, k4, hs, hb⟩
  | false =>
  rw [e1] at hb
  cases e2 : c.cons.any (outB (st3 c)) with
  | true => rw [e2] at hc; exact callX_ok hO hm (f6 c) ⟨k1, k2, hs, w3, k3, rfl, k4, hs, hb, hc⟩
  | false =>
  rw [e2] at hc
  cases e3 : c.lats.any (wrongB (st3 c)) with
  | true => rw [e3] at hl; exact callX_ok hO hm (f7 c) ⟨k1, k2, hs, w3, k3, rfl, k4, hs, hb, hc, hl⟩
  | false =>
  rw [e3] at hl
  obtain ⟨l1, l2⟩ := loop c 1 (st1 c) (st2 c) (st3 c) h3 (by simp only [st2, List.length_map]; omega)
  cases e4 : anyIx (badA (st2 c)) c.ands 0 with
  | true => exact callX_ok hO hm (f8 c) ⟨k1, k2, hs, w3, k3, rfl, k4, hs, hb, hc, hl, l1 e4⟩
  | false => exact callX_ok hO hm (f9 c) ⟨k1, k2, hs, w3, k3, rfl, k4, hs, hb, hc, hl, l2 e4⟩
end Go.Proofs.YtihbpbdmhiihnaaDoor.Sy.Gates
/- The circuit of a raw circuit that is good is one that gates.Check takes. -/
namespace Go.Proofs.YtihbpbdmhiihnaaDoor.Pl
open Go Go.Proofs.YtihbpbdmhiihnaaDoor.Sy
set_option linter.unusedVariables false
set_option linter.unusedSimpArgs false
theorem numW_at (vars : List Nat) : ∀ (x : Nat) (g : List Int), vars.Nodup → (∀ v ∈ vars, v < g.length) → (∀ (j : Nat) (h : j < vars.length), gt (numW vars x g) vars[j] = ((x + j : Nat) : Int)) ∧ ∀ u, u ∉ vars → gt (numW vars x g) u = gt g u := by
  induction vars with
  | nil => intro x g _ _; exact ⟨fun j h => absurd h (Nat.not_lt_zero j), fun _ _ => rfl⟩
  | cons v t ih =>
    intro x g hn hv
    have hv0 := hv v List.mem_cons_self
    obtain ⟨hvt, hn2⟩ := List.nodup_cons.1 hn
    obtain ⟨i1, i2⟩ := ih (x + 1) (g.set v (x : Int)) hn2 (fun w hw => by rw [List.length_set]; exact hv w (List.mem_cons_of_mem _ hw))
    refine ⟨fun j h => ?_, fun u hu => ?_⟩
    · cases j with
      | zero =>
        simp only [numW, List.getElem_cons_zero]
        rw [i2 v hvt, gt_set _ _ _ _ hv0, if_pos rfl]; rfl
      | succ j =>
        simp only [numW, List.getElem_cons_succ]
        rw [i1 j (by simpa using h)]
        omega
    · simp only [numW]
      have h1 : u ≠ v := fun e => hu (by rw [e]; exact List.mem_cons_self)
      rw [i2 u (fun hm => hu (List.mem_cons_of_mem _ hm)), gt_set _ _ _ _ hv0, if_neg h1]

structure Val (c : Ci) : Prop where
  n0 : 0 ≤ c.ins
  len : c.ins + c.lats.length + c.ands.length ≤ 1000
  b3 : c.bads.length ≤ 100
  b4 : c.cons.length ≤ 100
  u3 : ∀ x ∈ c.bads, 0 ≤ x ∧ x ≤ 2 * (c.ins + c.lats.length + c.ands.length) + 1
  u4 : ∀ x ∈ c.cons, 0 ≤ x ∧ x ≤ 2 * (c.ins + c.lats.length + c.ands.length) + 1
  u1 : ∀ d ∈ c.lats, (0 ≤ d.next ∧ d.next ≤ 2 * (c.ins + c.lats.length + c.ands.length) + 1) ∧ 0 ≤ d.reset ∧ d.reset ≤ 2
  u2 : ∀ (i : Nat) (h : i < c.ands.length), 0 ≤ c.ands[i].b ∧ c.ands[i].b ≤ c.ands[i].a ∧ c.ands[i].a < 2 * (1 + c.ins + c.lats.length + i)

theorem anyIx_false {α : Type} (f : Nat → α → Bool) : ∀ (l : List α) (i : Nat), (∀ (j : Nat) (h : j < l.length), f (i + j) l[j] = false) → anyIx f l i = false
  | [], _, _ => rfl
  | x :: t, i, h => by
    rw [anyIx, anyIx_false f t (i + 1) (fun j hj => by have := h (j + 1) (by simpa using hj); rw [show i + (j + 1) = i + 1 + j by omega] at this; exact this), Bool.or_false]
    exact h 0 (by simp)
/-- gates.Check takes it. -/
theorem Val.chk {c : Ci} (h : Val c) : Gates.chk c = 0 := by
  obtain ⟨a0, a1, a2, a3, a4, a5, a6, a7⟩ := h
  have e3 : st3 c = 1 + (c.ins + c.lats.length + c.ands.length) := by unfold st3; rw [List.length_map, List.length_map]; omega
  have e2 : st2 c = 1 + c.ins + c.lats.length := by unfold st2; rw [List.length_map]
  have o : ∀ x : Int, 0 ≤ x ∧ x ≤ 2 * (c.ins + c.lats.length + c.ands.length) + 1 → outB (st3 c) x = false := fun x hx => by
    unfold outB; rw [e3, Bool.or_eq_false_iff]; exact ⟨decide_eq_false (by omega), decide_eq_false (by omega)⟩
  unfold Gates.chk
  rw [if_neg (by omega), if_neg (by omega), if_neg (by omega), if_neg (by rw [List.length_map, List.length_map]; split <;> omega)]
  rw [if_neg (by
    rw [List.any_eq_false.2 (fun x hx => by rw [o x (a4 x hx)]; simp), List.any_eq_false.2 (fun x hx => by rw [o x (a5 x hx)]; simp), List.any_eq_false.2 (fun d hd => by
      have := a6 d hd
      unfold wrongB; rw [o _ this.1]; simp; omega)]; simp), if_neg]
  rw [Bool.not_eq_true]
  refine anyIx_false _ _ _ fun j hj => ?_
  have := a7 j hj
  unfold Gates.badA
  rw [e2, Bool.or_eq_false_iff, Bool.or_eq_false_iff]
  exact ⟨decide_eq_false (by omega), decide_eq_false (by omega), decide_eq_false (by omega)⟩

section
variable {m : Nat} {l1 : List Int} {l2 l3 : List Df} {l4 l5 : List Int}

theorem chkS_more {most : Int} (h : chkS most l1 l2 l3 l4 l5 = 0) : (∀ x ∈ useL l2 l3 l4 l5, varN x = 0 ∨ varN x ∈ (ownL l1 l2 l3).map varN) ∧ ∀ d ∈ l2, 0 ≤ d.b ∧ d.b ≤ 2 := by
  unfold chkS at h
  by_cases c0 : most < 0
  · rw [if_pos c0] at h; cases h
  rw [if_neg c0] at h
  by_cases c1 : manyP most l1 l2 l3 l4 l5
  · rw [if_pos c1] at h; cases h
  rw [if_neg c1] at h
  by_cases c2 : badAny most l1 l2 l3 l4 l5 = true
  · rw [if_pos c2] at h; cases h
  rw [if_neg c2] at h
  unfold chkVal at h
  by_cases d0 : ¬ ((ownL l1 l2 l3).map varN).Nodup
  · rw [if_pos d0] at h; cases h
  rw [if_neg d0] at h
  by_cases d1 : (useL l2 l3 l4 l5).any (loose (ownL l1 l2 l3)) = true
  · rw [if_pos d1] at h; cases h
  refine ⟨fun x hx => ?_, fun d hd => ?_⟩
  · have : ¬ loose (ownL l1 l2 l3) x = true := fun c => d1 (List.any_eq_true.2 ⟨x, hx, c⟩)
    unfold loose at this
    rw [Bool.not_eq_true, Bool.not_eq_false', Bool.or_eq_true, decide_eq_true_eq, List.contains_iff_mem] at this
    exact this
  · unfold badAny at c2
    rw [Bool.or_eq_true, not_or] at c2
    have : ¬ badRe d = true := fun c => c2.2 (List.any_eq_true.2 ⟨d, hd, c⟩)
    unfold badRe at this
    simp only [Bool.or_eq_true, decide_eq_true_eq, not_or] at this
    omega

/-- The numbers of a good raw circuit. -/
structure Nums (m : Nat) (l1 : List Int) (l2 l3 : List Df) (l4 l5 : List Int) (s : List Nat) (g : List Int) : Prop where
  full : s.length = l3.length
  nodup : s.Nodup
  lt : ∀ i ∈ s, i < l3.length
  len : g.length = m + 1
  vnd : (varsN l1 l2 l3 s).Nodup
  own : ∀ u, u ∈ varsN l1 l2 l3 s ↔ u ∈ (ownL l1 l2 l3).map varN
  pos : ∀ u ∈ varsN l1 l2 l3 s, 1 ≤ u ∧ u ≤ m
  at' : ∀ (j : Nat) (h : j < (varsN l1 l2 l3 s).length), gt g (varsN l1 l2 l3 s)[j] = ((1 + j : Nat) : Int)
  zero : gt g 0 = 0
  none : ∀ u, u ≤ m → u ≠ 0 → u ∉ varsN l1 l2 l3 s → gt g u = -1
  next : ∀ (k : Nat) (h : k < s.length), nextP l3 (s.take k) s[k] = true

theorem varsN_len (s : List Nat) : (varsN l1 l2 l3 s).length = l1.length + l2.length + s.length := by unfold varsN; simp; omega

theorem nums_of (h : chkS (m : Int) l1 l2 l3 l4 l5 = 0) : Nums m l1 l2 l3 l4 l5 (ordS l3 l3.length []) (numW (varsN l1 l2 l3 (ordS l3 l3.length [])) 1 (numS m)) := by
  obtain ⟨hN, hn, hfull⟩ := chkS_zero h
  obtain ⟨h1, h2, -⟩ := ord_all l3
  have hb := ord_bd l3
  have hl := ord_len l3
  have once := once_of hn
  have hn0 := hn
  have hsplit : (ownL l1 l2 l3).map varN = (l1.map varN ++ l2.map (fun d => varN d.lit)) ++ l3.map (fun d => varN d.lit) := by
    unfold ownL; simp only [List.map_append, List.map_map]; rfl
  rw [hsplit, List.nodup_append] at hn
  have hvr : ∀ i, i < l3.length → vr l3 i ∈ l3.map (fun d => varN d.lit) := fun i hi => List.mem_map.2 ⟨_, rdT_mem hi, rfl⟩
  have hsn : ((ordS l3 l3.length []).map (vr l3)).Nodup := by
    rw [List.Nodup, List.pairwise_map]
    exact List.Pairwise.imp_of_mem (fun ha hb' hne e => hne (once _ _ (hb _ ha) (hb _ hb') e)) h1
  have hvn : (varsN l1 l2 l3 (ordS l3 l3.length [])).Nodup := by
    unfold varsN
    rw [List.nodup_append]
    refine ⟨hn.1, hsn, fun a ha b hb' e => ?_⟩
    obtain ⟨i, hi, rfl⟩ := List.mem_map.1 hb'
    exact hn.2.2 a ha _ (hvr i (hb i hi)) e
  have hown : ∀ u, u ∈ varsN l1 l2 l3 (ordS l3 l3.length []) ↔ u ∈ (ownL l1 l2 l3).map varN := by
    intro u
    rw [hsplit]
    unfold varsN
    refine ⟨fun hu => List.mem_append.2 ((List.mem_append.1 hu).imp_right fun hm => ?_), fun hu => List.mem_append.2 ((List.mem_append.1 hu).imp_right fun hm => ?_)⟩
    · obtain ⟨i, hi, rfl⟩ := List.mem_map.1 hm
      exact hvr i (hb i hi)
    · obtain ⟨d, hd, rfl⟩ := List.mem_map.1 hm
      obtain ⟨i, hi, rfl⟩ := List.getElem_of_mem hd
      refine List.mem_map.2 ⟨i, mem_of_full h1 hb hfull i hi, ?_⟩
      unfold vr; rw [rdT_get l3 i hi]; rfl
  have hpos : ∀ u ∈ varsN l1 l2 l3 (ordS l3 l3.length []), 1 ≤ u ∧ u ≤ m := fun u hu => varN_pos (m := m) (own := ownL l1 l2 l3) (fun x hx => ⟨(hN.own x hx).1, (hN.own x hx).2.1⟩) u ((hown u).1 hu)
  obtain ⟨a1, a2⟩ := numW_at (varsN l1 l2 l3 (ordS l3 l3.length [])) 1 (numS m) hvn (fun v hv => by rw [numS_len]; have := hpos v hv; omega)
  refine ⟨by omega, h1, hb, by rw [numW_len, numS_len], hvn, hown, hpos, a1, ?_, fun u hu h0 hm => ?_, h2⟩
  · rw [a2 0 (fun hm => by have := hpos 0 hm; omega), numS_gt m 0 (by omega), if_pos rfl]
  · rw [a2 u hm, numS_gt m u hu, if_neg h0]

/-- A variable that is known has a number; one that stands early, a small one. -/
theorem Nums.num {s : List Nat} {g : List Int} (hN : Nums m l1 l2 l3 l4 l5 s g) {u : Nat} (hu : u = 0 ∨ u ∈ (ownL l1 l2 l3).map varN) : 0 ≤ gt g u ∧ gt g u ≤ (l1.length : Int) + l2.length + l3.length := by
  rcases hu with rfl | hu
  · rw [hN.zero]; omega
  · obtain ⟨j, hj, rfl⟩ := List.getElem_of_mem ((hN.own u).2 hu)
    rw [hN.at' j hj]
    rw [varsN_len, hN.full] at hj
    omega

theorem Nums.early {s : List Nat} {g : List Int} (hN : Nums m l1 l2 l3 l4 l5 s g) {u i : Nat} (hi : i ≤ s.length) (hu : u = 0 ∨ u ∈ (ownL l1 l2 l3).map varN) (hr : rv l3 (s.take i) u = true) : gt g u ≤ (l1.length : Int) + l2.length + i := by
  rcases hu with rfl | hu
  · rw [hN.zero]; omega
  rcases rv_split hr with h | ⟨k, hk, e⟩
  · have hm := (hN.own u).2 hu
    have hpre : u ∈ l1.map varN ++ l2.map (fun d => varN d.lit) := by
      unfold varsN at hm
      rcases List.mem_append.1 hm with h1 | h1
      · exact h1
      · obtain ⟨k, hk, rfl⟩ := List.mem_map.1 h1
        have := isG_vr (ands := l3) (hN.lt k hk)
        rw [this] at h; cases h
    obtain ⟨j, hj, e⟩ := List.getElem_of_mem hpre
    have hj2 : j < (varsN l1 l2 l3 s).length := by unfold varsN; rw [List.length_append]; omega
    have : (varsN l1 l2 l3 s)[j] = u := (List.getElem_append_left (bs := s.map (vr l3)) hj).trans e
    have := hN.at' j hj2
    rw [‹(varsN l1 l2 l3 s)[j] = u›] at this
    rw [this]
    simp at hj; omega
  · obtain ⟨j, hj, ej⟩ := List.getElem_of_mem hk
    rw [List.length_take] at hj
    rw [List.getElem_take] at ej
    have hj2 : l1.length + l2.length + j < (varsN l1 l2 l3 s).length := by rw [varsN_len]; omega
    have hv : (varsN l1 l2 l3 s)[l1.length + l2.length + j] = u := by
      refine (List.getElem_append_right (bs := s.map (vr l3)) (show (l1.map varN ++ l2.map (fun d => varN d.lit)).length ≤ l1.length + l2.length + j by simp)).trans ?_
      simp only [List.getElem_map, List.length_append, List.length_map, Nat.add_sub_cancel_left]
      rw [ej]; exact e
    have := hN.at' _ hj2
    rw [hv] at this
    rw [this]; omega

theorem told_bd {g : List Int} {x K : Int} (h : 0 ≤ gt g (varN x) ∧ gt g (varN x) ≤ K) : 0 ≤ told g x ∧ told g x ≤ 2 * K + 1 := by
  unfold told
  have := Int.emod_nonneg x (by decide : (2 : Int) ≠ 0)
  have := Int.emod_lt_of_pos x (by decide : (0 : Int) < 2)
  omega

theorem cir_val (h : chkS (m : Int) l1 l2 l3 l4 l5 = 0) : Val (circS (m : Int) l1 l2 l3 l4 l5) := by
  have hS := nums_of h
  obtain ⟨hN, hn, hfull⟩ := chkS_zero h
  obtain ⟨hu, hre⟩ := chkS_more h
  have hlen := hN.len
  unfold circS numsS
  rw [Int.toNat_natCast]
  generalize hg : numW (varsN l1 l2 l3 (ordS l3 l3.length [])) 1 (numS m) = g at hS
  generalize hs : ordS l3 l3.length [] = s at hS
  have hsl := hS.full
  unfold cirSv
  have tb : ∀ x ∈ useL l2 l3 l4 l5, 0 ≤ told g x ∧ told g x ≤ 2 * ((l1.length : Int) + l2.length + l3.length) + 1 := fun x hx => told_bd (hS.num (hu x hx))
  have m4 : ∀ x ∈ l4, x ∈ useL l2 l3 l4 l5 := fun x hx => by unfold useL; simp [hx]
  have m5 : ∀ x ∈ l5, x ∈ useL l2 l3 l4 l5 := fun x hx => by unfold useL; simp [hx]
  have m2 : ∀ d ∈ l2, d.a ∈ useL l2 l3 l4 l5 := fun d hd => by
    unfold useL; exact List.mem_append_left _ (List.mem_append_right _ (List.mem_map.2 ⟨d, hd, rfl⟩))
  have m31 : ∀ d ∈ l3, d.a ∈ useL l2 l3 l4 l5 := fun d hd => by
    unfold useL; exact List.mem_append_right _ (List.mem_flatMap.2 ⟨d, hd, by simp⟩)
  have m32 : ∀ d ∈ l3, d.b ∈ useL l2 l3 l4 l5 := fun d hd => by
    unfold useL; exact List.mem_append_right _ (List.mem_flatMap.2 ⟨d, hd, by simp⟩)
  refine ⟨by simp, by simp only [List.length_map]; omega, by simpa using hN.l4, by simpa using hN.l5, fun x hx => ?_, fun x hx => ?_, fun d hd => ?_, fun i hi => ?_⟩
  · obtain ⟨y, hy, rfl⟩ := List.mem_map.1 hx
    have := tb y (m4 y hy)
    simp only [List.length_map, hsl]; omega
  · obtain ⟨y, hy, rfl⟩ := List.mem_map.1 hx
    have := tb y (m5 y hy)
    simp only [List.length_map, hsl]; omega
  · obtain ⟨y, hy, rfl⟩ := List.mem_map.1 hd
    have := tb y.a (m2 y hy)
    have := hre y hy
    simp only [List.length_map, hsl]; omega
  · simp only [List.length_map] at hi
    have hil : s[i] < l3.length := hS.lt _ (List.getElem_mem hi)
    obtain ⟨-, r1, r2⟩ := next_split (hS.next i hi)
    have hd := rdT_mem (ands := l3) hil
    have b1 : 0 ≤ told g (rdD l3 (s[i] : Int)).a ∧ told g (rdD l3 (s[i] : Int)).a ≤ 2 * ((l1.length : Int) + l2.length + i) + 1 :=
      told_bd ⟨(hS.num (hu _ (m31 _ hd))).1, hS.early (by omega) (hu _ (m31 _ hd)) r1⟩
    have b2 : 0 ≤ told g (rdD l3 (s[i] : Int)).b ∧ told g (rdD l3 (s[i] : Int)).b ≤ 2 * ((l1.length : Int) + l2.length + i) + 1 :=
      told_bd ⟨(hS.num (hu _ (m32 _ hd))).1, hS.early (by omega) (hu _ (m32 _ hd)) r2⟩
    simp only [List.getElem_map, List.length_map]
    unfold mx mn
    refine ⟨?_, ?_, ?_⟩ <;> (repeat' split) <;> omega
end
end Go.Proofs.YtihbpbdmhiihnaaDoor.Pl
/- order.Circuit, whole. -/
namespace Go.Proofs.YtihbpbdmhiihnaaDoor.Sy.Cir
open Go Go.Proofs.YtihbpbdmhiihnaaDoor.Ab Go.Proofs.YtihbpbdmhiihnaaDoor.Sy Go.Proofs.YtihbpbdmhiihnaaDoor.Pl
set_option maxRecDepth 1000000
set_option linter.unusedVariables false
/-- A row of a raw circuit that is not too large: lists and numbers. -/
structure Wf (r : Rw) : Prop where
  fits : Def.Fits r
  defs : ∀ x ∈ Def.defs r, x ≤ 9223372036854775807
  uses : ∀ x ∈ Def.uses r, x ≤ 9223372036854775807
def ordI (r : Rw) : List Int := (ordS r.ands r.ands.length []).map (fun k : Nat => (k : Int))
def chkR (r : Rw) : Int := chkS r.most r.ins r.lats r.ands r.bads r.cons
theorem sorted_of {r : Rw} (h : ∃ m : Nat, r.most = (m : Int) ∧ Ok m r.ands) : ICall Tryd.prog 49 [.d r.d] [] (.own 3 ((ordI r).map I)) [] := by
  obtain ⟨m, em, hk⟩ := h
  exact Sort.sorted r _ _ (by rw [em]; exact sorted_eq m r.ands hk)
/-- order.Check is the plain check. -/
theorem check {r : Rw} (h : Wf r) : ICall Tryd.prog 24 [.d r.d] [] (.d (I (chkR r))) [] := by
  obtain ⟨h1, h2⟩ := val_eq r
  have := Chk.check r h.fits h.defs h.uses (ordI r) (fun hp => sorted_of (h2 hp))
  unfold ordI at this
  rwa [h1] at this
section
variable {c : Code}
/-- A list behind which something is put for each element. -/
theorem map_loop {α : Type} [Inhabited α] (xs : List α) (H : Nat → List D → St) (e0 : Ex) (E : List D → St) (f : α → D)
    (hs : ∀ i acc, i < xs.length → acc.length = i → ∀ e s, GoesL Tryd.prog c (H (i + 1) (acc ++ [f (xs.getD i default)])) e s → GoesL Tryd.prog c (H i acc) e s)
    (he : ∀ acc, acc.length = xs.length → GoesL Tryd.prog c (H xs.length acc) e0 (E acc)) : GoesL Tryd.prog c (H 0 []) e0 (E (xs.map f)) := by
  have key : ∀ (d i : Nat) (acc : List D), xs.length - i = d → i ≤ xs.length → acc.length = i → GoesL Tryd.prog c (H i acc) e0 (E (acc ++ (xs.drop i).map f)) := by
    intro d
    induction d with
    | zero =>
      intro i acc hd hi hl
      obtain rfl : i = xs.length := by omega
      rw [List.drop_length, List.map_nil, List.append_nil]
      exact he acc hl
    | succ d ih =>
      intro i acc hd hi hl
      refine hs i acc (by omega) hl _ _ ?_
      rw [drop_getD xs i (by omega), List.map_cons]
      have := ih (i + 1) (acc ++ [f (xs.getD i default)]) (by omega) (by omega) (by rw [List.length_append, hl]; rfl)
      rw [List.append_assoc] at this
      exact this
  have := key _ 0 [] rfl (Nat.zero_le _) rfl
  rwa [List.drop_zero, List.nil_append] at this
/-- Variables that are numbered, one after the other. -/
theorem num_loop (vs : List Nat) (q0 M : Nat) (H : Nat → List D → St) (e0 : Ex) (E : List D → St)
    (hs : ∀ i (G : List Int), i < vs.length → G.length = M → ∀ e s, GoesL Tryd.prog c (H (i + 1) ((G.set (vs.getD i default) ((q0 + i + 1 : Nat) : Int)).map I)) e s → GoesL Tryd.prog c (H i (G.map I)) e s)
    (he : ∀ G : List Int, GoesL Tryd.prog c (H vs.length (G.map I)) e0 (E (G.map I))) (G : List Int) (hG : G.length = M) : GoesL Tryd.prog c (H 0 (G.map I)) e0 (E ((numW vs (q0 + 1) G).map I)) := by
  have key : ∀ (d i : Nat) (G : List Int), vs.length - i = d → i ≤ vs.length → G.length = M → GoesL Tryd.prog c (H i (G.map I)) e0 (E ((numW (vs.drop i) (q0 + i + 1) G).map I)) := by
    intro d
    induction d with
    | zero =>
      intro i G hd hi hl
      obtain rfl : i = vs.length := by omega
      rw [List.drop_length]
      exact he G
    | succ d ih =>
      intro i G hd hi hl
      refine hs i G (by omega) hl _ _ ?_
      rw [drop_getD vs i (by omega), numW]
      exact ih (i + 1) _ (by omega) (by omega) (by rw [List.length_set]; exact hl)
  exact key _ 0 G rfl (Nat.zero_le _) hG
end
section
variable (r : Rw) (g l ow : List Int)
theorem z1 : szOf Tryd.prog 3 = some 1 := by kernel_rfl
end
def cirR (r : Rw) : Ci := circS r.most r.ins r.lats r.ands r.bads r.cons
def numR (r : Rw) : List Int := numsS r.most r.ins r.lats r.ands
end Go.Proofs.YtihbpbdmhiihnaaDoor.Sy.Cir
/- ascii.Raw: round by round. -/
namespace Go.Proofs.YtihbpbdmhiihnaaDoor.Sy.Asc
open Go Go.Proofs.YtihbpbdmhiihnaaDoor.Ab Go.Proofs.YtihbpbdmhiihnaaDoor.Sy
set_option maxRecDepth 1000000
set_option linter.unusedVariables false
def Bs (r : Rw) (l : List UInt8) : List B := [r.box, .bx (some 58) [.ptr 1 0, .arr 2], .lst 5 (l.map u8)]
def Ha (r : Rw) (l : List UInt8) (sl : List (Nat × V)) : St := ⟨mk 122 ([(1, .ptr 0 0), (5, .ptr 1 0)] ++ sl) [], Bs r l⟩
def aag : List UInt8 := [97, 97, 103, 32]
def BC (r : Rw) : Nat × V := (90, .d (.agg [L r.bads, L r.cons]))
def W3 (xs : List Int) (i : Nat) : List (Nat × V) := [(94, .d (L xs)), (95, .d (I (xs.map I).length)), (96, .d (I i))]
section
variable (r : Rw) (l l1 l2 l3 l4 l5 : List UInt8) (i : Nat) (xs : List Int) (e : Int) (q : Nat)
theorem a1 : round Tryd.prog wr false O (loopOf Tryd.prog 11 0) (Ha r l ([(42, .d (L r.ins)), (43, .d (I (r.ins.map I).length)), (44, .d (I (i : Nat)))])) [It.br true, It.el i (I (r.ins.getD i default)), It.raw, It.icall [1, 2] (V.tup []) (Str.SB l1), It.is (↑(i + 1) : Int)] [1, 5, 42, 43, 44] 3 = some (.normal, Ha r l1 ([(42, .d (L r.ins)), (43, .d (I (r.ins.map I).length)), (44, .d (I (i + 1 : Nat)))]),
  [decide ((↑i : Int) < (↑(List.map I r.ins).length : Int)) = true,
   (↑i : Int) = (↑i : Int) ∧ (List.map I r.ins)[i]? = some (I (r.ins.getD i default)),
   ICall Tryd.prog 26 [V.ptr 0 0, V.d (D.sl [I (r.ins.getD i default)])] [B.bx (some 58) [V.ptr 0 0, V.arr 1], B.lst 5 (List.map u8 l)] (V.tup []) (Str.SB l1),
   IntKind.i64.wrap ((↑i : Int) + 1) = (↑(i + 1) : Int)]) := by kernel_rfl
theorem a2 : round Tryd.prog wr false O (loopOf Tryd.prog 11 0) (Ha r l ([(42, .d (L r.ins)), (43, .d (I (r.ins.map I).length)), (44, .d (I (i : Nat)))])) [It.br false] [1, 5] 3 = some (.exit 0, Ha r l [],
  [decide ((↑i : Int) < (↑(List.map I r.ins).length : Int)) = false]) := by kernel_rfl
theorem b1 : round Tryd.prog wr false O (loopOf Tryd.prog 11 1) (Ha r l ([(53, .d (.sl (r.lats.map Df.d))), (54, .d (I (r.lats.map Df.d).length)), (55, .d (I (i : Nat)))])) [It.br true, It.el i (r.lats.getD i default).d, It.br true, It.raw, It.icall [1, 2] (V.tup []) (Str.SB l1), It.is (↑(i + 1) : Int)] [1, 5, 53, 54, 55] 3 = some (.normal, Ha r l1 ([(53, .d (.sl (r.lats.map Df.d))), (54, .d (I (r.lats.map Df.d).length)), (55, .d (I (i + 1 : Nat)))]),
  [decide ((↑i : Int) < (↑(List.map Df.d r.lats).length : Int)) = true,
   (↑i : Int) = (↑i : Int) ∧ (List.map Df.d r.lats)[i]? = some (r.lats.getD i default).d,
   ((r.lats.getD i default).b == 0) = true,
   ICall Tryd.prog 26 [V.ptr 0 0, V.d (D.sl [I (r.lats.getD i default).lit, I (r.lats.getD i default).a])] [B.bx (some 58) [V.ptr 0 0, V.arr 1], B.lst 5 (List.map u8 l)] (V.tup []) (Str.SB l1),
   IntKind.i64.wrap ((↑i : Int) + 1) = (↑(i + 1) : Int)]) := by kernel_rfl
theorem b2 : round Tryd.prog wr false O (loopOf Tryd.prog 11 1) (Ha r l ([(53, .d (.sl (r.lats.map Df.d))), (54, .d (I (r.lats.map Df.d).length)), (55, .d (I (i : Nat)))])) [It.br true, It.el i (r.lats.getD i default).d, It.br false, It.br true, It.raw, It.icall [1, 2] (V.tup []) (Str.SB l1), It.is (↑(i + 1) : Int)] [1, 5, 53, 54, 55] 3 = some (.normal, Ha r l1 ([(53, .d (.sl (r.lats.map Df.d))), (54, .d (I (r.lats.map Df.d).length)), (55, .d (I (i + 1 : Nat)))]),
  [decide ((↑i : Int) < (↑(List.map Df.d r.lats).length : Int)) = true,
   (↑i : Int) = (↑i : Int) ∧ (List.map Df.d r.lats)[i]? = some (r.lats.getD i default).d,
   ((r.lats.getD i default).b == 0) = false,
   ((r.lats.getD i default).b == 1) = true,
   ICall Tryd.prog 26 [V.ptr 0 0, V.d (D.sl [I (r.lats.getD i default).lit, I (r.lats.getD i default).a, D.int IntKind.i64 1])] [B.bx (some 58) [V.ptr 0 0, V.arr 1], B.lst 5 (List.map u8 l)] (V.tup []) (Str.SB l1),
   IntKind.i64.wrap ((↑i : Int) + 1) = (↑(i + 1) : Int)]) := by kernel_rfl
theorem b3 : round Tryd.prog wr false O (loopOf Tryd.prog 11 1) (Ha r l ([(53, .d (.sl (r.lats.map Df.d))), (54, .d (I (r.lats.map Df.d).length)), (55, .d (I (i : Nat)))])) [It.br true, It.el i (r.lats.getD i default).d, It.br false, It.br false, It.raw, It.icall [1, 2] (V.tup []) (Str.SB l1), It.is (↑(i + 1) : Int)] [1, 5, 53, 54, 55] 3 = some (.normal, Ha r l1 ([(53, .d (.sl (r.lats.map Df.d))), (54, .d (I (r.lats.map Df.d).length)), (55, .d (I (i + 1 : Nat)))]),
  [decide ((↑i : Int) < (↑(List.map Df.d r.lats).length : Int)) = true,
   (↑i : Int) = (↑i : Int) ∧ (List.map Df.d r.lats)[i]? = some (r.lats.getD i default).d,
   ((r.lats.getD i default).b == 0) = false,
   ((r.lats.getD i default).b == 1) = false,
   ICall Tryd.prog 26 [V.ptr 0 0, V.d (D.sl [I (r.lats.getD i default).lit, I (r.lats.getD i default).a, I (r.lats.getD i default).lit])] [B.bx (some 58) [V.ptr 0 0, V.arr 1], B.lst 5 (List.map u8 l)] (V.tup []) (Str.SB l1),
   IntKind.i64.wrap ((↑i : Int) + 1) = (↑(i + 1) : Int)]) := by kernel_rfl
theorem b4 : round Tryd.prog wr false O (loopOf Tryd.prog 11 1) (Ha r l ([(53, .d (.sl (r.lats.map Df.d))), (54, .d (I (r.lats.map Df.d).length)), (55, .d (I (i : Nat)))])) [It.br false] [1, 5] 3 = some (.exit 2, Ha r l [],
  [decide ((↑i : Int) < (↑(List.map Df.d r.lats).length : Int)) = false]) := by kernel_rfl
theorem c1 : round Tryd.prog wr false O (loopOf Tryd.prog 11 2) (Ha r l [BC r, (91, .d (I 0))]) [It.br true, It.ix 0, It.lp [1, 5, 90, 91, 94, 95, 96] (Ex.exit 7) (Ha r l1 [BC r, (91, V.d (I 0))]), It.is 1] [1, 5, 90, 91] 3 = some (.normal, Ha r l1 [BC r, (91, .d (I 1))],
  [decide (0 < 2) = true,
   0 = (↑0 : Int) ∧ 0 < 2,
   GoesL Tryd.prog (loopOf Tryd.prog 11 3) (⟨mk 122 [(1, V.ptr 0 0), (5, V.ptr 1 0), (90, V.d (D.agg [D.sl (List.map I r.bads), D.sl (List.map I r.cons)])), (91, V.d (D.int IntKind.i64 0)), (94, V.d (D.sl (List.map I r.bads))), (95, V.d (D.int IntKind.i64 (↑(List.map I r.bads).length : Int))), (96, V.d (D.int IntKind.i64 0))] [], [B.bx none [V.d (D.int IntKind.i64 r.most), V.d (D.sl (List.map I r.ins)), V.d (D.sl (List.map Df.d r.lats)), V.d (D.sl (List.map Df.d r.ands)), V.d (D.sl (List.map I r.bads)), V.d (D.sl (List.map I r.cons))], B.bx (some 58) [V.ptr 1 0, V.arr 2], B.lst 5 (List.map u8 l)]⟩) (Ex.exit 7) (Ha r l1 [BC r, (91, V.d (I 0))]),
   IntKind.i64.wrap (0 + 1) = 1]) := by kernel_rfl
theorem c2 : round Tryd.prog wr false O (loopOf Tryd.prog 11 2) (Ha r l [BC r, (91, .d (I 1))]) [It.br true, It.ix 1, It.lp [1, 5, 90, 91, 94, 95, 96] (Ex.exit 7) (Ha r l1 [BC r, (91, V.d (I 1))]), It.is 2] [1, 5, 90, 91] 3 = some (.normal, Ha r l1 [BC r, (91, .d (I 2))],
  [decide (1 < 2) = true,
   1 = (↑1 : Int) ∧ 1 < 2,
   GoesL Tryd.prog (loopOf Tryd.prog 11 3) (⟨mk 122 [(1, V.ptr 0 0), (5, V.ptr 1 0), (90, V.d (D.agg [D.sl (List.map I r.bads), D.sl (List.map I r.cons)])), (91, V.d (D.int IntKind.i64 1)), (94, V.d (D.sl (List.map I r.cons))), (95, V.d (D.int IntKind.i64 (↑(List.map I r.cons).length : Int))), (96, V.d (D.int IntKind.i64 0))] [], [B.bx none [V.d (D.int IntKind.i64 r.most), V.d (D.sl (List.map I r.ins)), V.d (D.sl (List.map Df.d r.lats)), V.d (D.sl (List.map Df.d r.ands)), V.d (D.sl (List.map I r.bads)), V.d (D.sl (List.map I r.cons))], B.bx (some 58) [V.ptr 1 0, V.arr 2], B.lst 5 (List.map u8 l)]⟩) (Ex.exit 7) (Ha r l1 [BC r, (91, V.d (I 1))]),
   IntKind.i64.wrap (1 + 1) = 2]) := by kernel_rfl
theorem c3 : round Tryd.prog wr false O (loopOf Tryd.prog 11 2) (Ha r l [BC r, (91, .d (I 2))]) [It.br false] [1, 5] 3 = some (.exit 5, Ha r l [],
  [decide (2 < 2) = false]) := by kernel_rfl
theorem d1 : round Tryd.prog wr false O (loopOf Tryd.prog 11 3) (Ha r l ([BC r, (91, .d (I e))] ++ W3 xs i)) [It.br true, It.el i (I (xs.getD i default)), It.raw, It.icall [1, 2] (V.tup []) (Str.SB l1), It.is (↑(i + 1) : Int)] [1, 5, 90, 91, 94, 95, 96] 3 = some (.normal, Ha r l1 ([BC r, (91, .d (I e))] ++ W3 xs (i + 1)),
  [decide ((↑i : Int) < (↑(List.map I xs).length : Int)) = true,
   (↑i : Int) = (↑i : Int) ∧ (List.map I xs)[i]? = some (I (xs.getD i default)),
   ICall Tryd.prog 26 [V.ptr 0 0, V.d (D.sl [I (xs.getD i default)])] [B.bx (some 58) [V.ptr 0 0, V.arr 1], B.lst 5 (List.map u8 l)] (V.tup []) (Str.SB l1),
   IntKind.i64.wrap ((↑i : Int) + 1) = (↑(i + 1) : Int)]) := by kernel_rfl
theorem d2 : round Tryd.prog wr false O (loopOf Tryd.prog 11 3) (Ha r l ([BC r, (91, .d (I e))] ++ W3 xs i)) [It.br false] [1, 5, 90, 91] 3 = some (.exit 7, Ha r l [BC r, (91, .d (I e))],
  [decide ((↑i : Int) < (↑(List.map I xs).length : Int)) = false]) := by kernel_rfl
theorem e1 : round Tryd.prog wr false O (loopOf Tryd.prog 11 4) (Ha r l ([(106, .d (.sl (r.ands.map Df.d))), (107, .d (I (r.ands.map Df.d).length)), (108, .d (I (i : Nat)))])) [It.br true, It.el i (r.ands.getD i default).d, It.raw, It.icall [1, 2] (V.tup []) (Str.SB l1), It.is (↑(i + 1) : Int)] [1, 5, 106, 107, 108] 3 = some (.normal, Ha r l1 ([(106, .d (.sl (r.ands.map Df.d))), (107, .d (I (r.ands.map Df.d).length)), (108, .d (I (i + 1 : Nat)))]),
  [decide ((↑i : Int) < (↑(List.map Df.d r.ands).length : Int)) = true,
   (↑i : Int) = (↑i : Int) ∧ (List.map Df.d r.ands)[i]? = some (r.ands.getD i default).d,
   ICall Tryd.prog 26 [V.ptr 0 0, V.d (D.sl [I (r.ands.getD i default).lit, I (r.ands.getD i default).a, I (r.ands.getD i default).b])] [B.bx (some 58) [V.ptr 0 0, V.arr 1], B.lst 5 (List.map u8 l)] (V.tup []) (Str.SB l1),
   IntKind.i64.wrap ((↑i : Int) + 1) = (↑(i + 1) : Int)]) := by kernel_rfl
theorem e2 : round Tryd.prog wr false O (loopOf Tryd.prog 11 4) (Ha r l ([(106, .d (.sl (r.ands.map Df.d))), (107, .d (I (r.ands.map Df.d).length)), (108, .d (I (i : Nat)))])) [It.br false] [1, 5] 3 = some (.exit 9, Ha r l [],
  [decide ((↑i : Int) < (↑(List.map Df.d r.ands).length : Int)) = false]) := by kernel_rfl
theorem raw0  : callX Tryd.prog wr false O 11 [.d r.d] [] [It.icall [] (V.d (I 0)) [], It.br false, It.icall [1] (Str.wrote aag) (Str.SB aag), It.raw, It.icall [1, 2] (V.tup []) (Str.SB l1), It.lp [1, 5, 42, 43, 44] (Ex.exit 0) (Ha r l2 []), It.lp [1, 5, 53, 54, 55] (Ex.exit 2) (Ha r l3 []), It.lp [1, 5, 90, 91] (Ex.exit 5) (Ha r l4 []), It.lp [1, 5, 106, 107, 108] (Ex.exit 9) (Ha r l5 []), It.icall [1, 2] (V.d (D.str l5)) [B.bx (some 58) [V.ptr 0 0, V.undef], B.dead]] = some (V.tup [V.d (D.str l5), V.d (D.int IntKind.i64 0)], [],
  [ICall Tryd.prog 24 [V.d (D.agg [I r.most, L r.ins, D.sl (List.map Df.d r.lats), D.sl (List.map Df.d r.ands), L r.bads, L r.cons])] [] (V.d (I 0)) [],
   (0 != 0) = false,
   ICall Tryd.prog 25 [V.ptr 0 0, V.d (D.str (ByteArray.mk #[97, 97, 103, 32]).data.toList)] [B.bx (some 58) [V.nilp, V.emp true]] (Str.wrote aag) (Str.SB aag),
   ICall Tryd.prog 26 [V.ptr 0 0, V.d (D.sl [I r.most, D.int IntKind.i64 (↑(List.map I r.ins).length : Int), D.int IntKind.i64 (↑(List.map Df.d r.lats).length : Int), D.int IntKind.i64 0, D.int IntKind.i64 (↑(List.map Df.d r.ands).length : Int), D.int IntKind.i64 (↑(List.map I r.bads).length : Int), D.int IntKind.i64 (↑(List.map I r.cons).length : Int)])] [B.bx (some 58) [V.ptr 0 0, V.arr 1], B.lst 5 (List.map u8 aag)] (V.tup []) (Str.SB l1),
   GoesL Tryd.prog (loopOf Tryd.prog 11 0) (⟨mk 122 [(1, V.ptr 0 0), (5, V.ptr 1 0), (42, V.d (D.sl (List.map I r.ins))), (43, V.d (D.int IntKind.i64 (↑(List.map I r.ins).length : Int))), (44, V.d (D.int IntKind.i64 0))] [], [B.bx none [V.d (D.int IntKind.i64 r.most), V.d (D.sl (List.map I r.ins)), V.d (D.sl (List.map Df.d r.lats)), V.d (D.sl (List.map Df.d r.ands)), V.d (D.sl (List.map I r.bads)), V.d (D.sl (List.map I r.cons))], B.bx (some 58) [V.ptr 1 0, V.arr 2], B.lst 5 (List.map u8 l1)]⟩) (Ex.exit 0) (Ha r l2 []),
   GoesL Tryd.prog (loopOf Tryd.prog 11 1) (⟨mk 122 [(1, V.ptr 0 0), (5, V.ptr 1 0), (53, V.d (D.sl (List.map Df.d r.lats))), (54, V.d (D.int IntKind.i64 (↑(List.map Df.d r.lats).length : Int))), (55, V.d (D.int IntKind.i64 0))] [], [B.bx none [V.d (D.int IntKind.i64 r.most), V.d (D.sl (List.map I r.ins)), V.d (D.sl (List.map Df.d r.lats)), V.d (D.sl (List.map Df.d r.ands)), V.d (D.sl (List.map I r.bads)), V.d (D.sl (List.map I r.cons))], B.bx (some 58) [V.ptr 1 0, V.arr 2], B.lst 5 (List.map u8 l2)]⟩) (Ex.exit 2) (Ha r l3 []),
   GoesL Tryd.prog (loopOf Tryd.prog 11 2) (⟨mk 122 [(1, V.ptr 0 0), (5, V.ptr 1 0), (90, V.d (D.agg [D.sl (List.map I r.bads), D.sl (List.map I r.cons)])), (91, V.d (D.int IntKind.i64 0))] [], [B.bx none [V.d (D.int IntKind.i64 r.most), V.d (D.sl (List.map I r.ins)), V.d (D.sl (List.map Df.d r.lats)), V.d (D.sl (List.map Df.d r.ands)), V.d (D.sl (List.map I r.bads)), V.d (D.sl (List.map I r.cons))], B.bx (some 58) [V.ptr 1 0, V.arr 2], B.lst 5 (List.map u8 l3)]⟩) (Ex.exit 5) (Ha r l4 []),
   GoesL Tryd.prog (loopOf Tryd.prog 11 4) (⟨mk 122 [(1, V.ptr 0 0), (5, V.ptr 1 0), (106, V.d (D.sl (List.map Df.d r.ands))), (107, V.d (D.int IntKind.i64 (↑(List.map Df.d r.ands).length : Int))), (108, V.d (D.int IntKind.i64 0))] [], [B.bx none [V.d (D.int IntKind.i64 r.most), V.d (D.sl (List.map I r.ins)), V.d (D.sl (List.map Df.d r.lats)), V.d (D.sl (List.map Df.d r.ands)), V.d (D.sl (List.map I r.bads)), V.d (D.sl (List.map I r.cons))], B.bx (some 58) [V.ptr 1 0, V.arr 2], B.lst 5 (List.map u8 l4)]⟩) (Ex.exit 9) (Ha r l5 []),
   ICall Tryd.prog 27 [V.ptr 0 0] [B.bx (some 58) [V.ptr 0 0, V.arr 1], B.lst 5 (List.map u8 l5)] (V.d (D.str l5)) [B.bx (some 58) [V.ptr 0 0, V.undef], B.dead]]) := by kernel_rfl
theorem raw1  : callX Tryd.prog wr false O 11 [.d r.d] [] [It.icall [] (V.d (I e)) [], It.br true] = some (V.tup [V.d (D.str (ByteArray.mk #[]).data.toList), V.d (D.int IntKind.i64 e)], [],
  [ICall Tryd.prog 24 [V.d (D.agg [I r.most, L r.ins, D.sl (List.map Df.d r.lats), D.sl (List.map Df.d r.ands), L r.bads, L r.cons])] [] (V.d (I e)) [],
   (e != 0) = true]) := by kernel_rfl
theorem lines1  : callX Tryd.prog wr false O 13 [.d r.d] [] [It.icall [] (V.d (I e)) [], It.br true] = some (V.tup [V.d (D.int IntKind.i64 0), V.d (D.int IntKind.i64 e)], [],
  [ICall Tryd.prog 24 [V.d (D.agg [I r.most, L r.ins, D.sl (List.map Df.d r.lats), D.sl (List.map Df.d r.ands), L r.bads, L r.cons])] [] (V.d (I e)) [],
   (e != 0) = true]) := by kernel_rfl
theorem lines0  : callX Tryd.prog wr false O 13 [.d r.d] [] [It.icall [] (V.d (I e)) [], It.br false, It.is (↑(1 + (List.map I r.ins).length) : Int), It.is (↑(1 + (List.map I r.ins).length + (List.map Df.d r.lats).length) : Int), It.is (↑(1 + (List.map I r.ins).length + (List.map Df.d r.lats).length + (List.map Df.d r.ands).length) : Int), It.is (↑(1 + (List.map I r.ins).length + (List.map Df.d r.lats).length + (List.map Df.d r.ands).length + (List.map I r.bads).length) : Int), It.is (↑(1 + (List.map I r.ins).length + (List.map Df.d r.lats).length + (List.map Df.d r.ands).length + (List.map I r.bads).length + (List.map I r.cons).length) : Int)] = some (V.tup [V.d (D.int IntKind.i64 (↑(1 + (List.map I r.ins).length + (List.map Df.d r.lats).length + (List.map Df.d r.ands).length + (List.map I r.bads).length + (List.map I r.cons).length) : Int)), V.d (D.int IntKind.i64 0)], [],
  [ICall Tryd.prog 24 [V.d (D.agg [I r.most, L r.ins, D.sl (List.map Df.d r.lats), D.sl (List.map Df.d r.ands), L r.bads, L r.cons])] [] (V.d (I e)) [],
   (e != 0) = false,
   IntKind.i64.wrap (1 + (↑(List.map I r.ins).length : Int)) = (↑(1 + (List.map I r.ins).length) : Int),
   IntKind.i64.wrap ((↑(1 + (List.map I r.ins).length) : Int) + (↑(List.map Df.d r.lats).length : Int)) = (↑(1 + (List.map I r.ins).length + (List.map Df.d r.lats).length) : Int),
   IntKind.i64.wrap ((↑(1 + (List.map I r.ins).length + (List.map Df.d r.lats).length) : Int) + (↑(List.map Df.d r.ands).length : Int)) = (↑(1 + (List.map I r.ins).length + (List.map Df.d r.lats).length + (List.map Df.d r.ands).length) : Int),
   IntKind.i64.wrap ((↑(1 + (List.map I r.ins).length + (List.map Df.d r.lats).length + (List.map Df.d r.ands).length) : Int) + (↑(List.map I r.bads).length : Int)) = (↑(1 + (List.map I r.ins).length + (List.map Df.d r.lats).length + (List.map Df.d r.ands).length + (List.map I r.bads).length) : Int),
   IntKind.i64.wrap ((↑(1 + (List.map I r.ins).length + (List.map Df.d r.lats).length + (List.map Df.d r.ands).length + (List.map I r.bads).length) : Int) + (↑(List.map I r.cons).length : Int)) = (↑(1 + (List.map I r.ins).length + (List.map Df.d r.lats).length + (List.map Df.d r.ands).length + (List.map I r.bads).length + (List.map I r.cons).length) : Int)]) := by kernel_rfl
end
end Go.Proofs.YtihbpbdmhiihnaaDoor.Sy.Asc
/- ascii.Raw and Lines, whole. -/
namespace Go.Proofs.YtihbpbdmhiihnaaDoor.Sy.Asc
open Go Go.Proofs.YtihbpbdmhiihnaaDoor.Ab Go.Proofs.YtihbpbdmhiihnaaDoor.Sy Go.Proofs.YtihbpbdmhiihnaaDoor.Pl
set_option maxRecDepth 1000000
set_option linter.unusedVariables false
section
variable {c : Code}
/-- A text behind which something is put for each element. -/
theorem str_loop {α : Type} [Inhabited α] (xs : List α) (H : Nat → List UInt8 → St) (e0 : Ex) (E : List UInt8 → St) (f : α → List UInt8) (B : Nat) (hf : ∀ x ∈ xs, (f x).length ≤ 100)
    (hs : ∀ i l, i < xs.length → xs.getD i default ∈ xs → l.length ≤ B + 100 * i → ∀ e s, GoesL Tryd.prog c (H (i + 1) (l ++ f (xs.getD i default))) e s → GoesL Tryd.prog c (H i l) e s)
    (he : ∀ l, l.length ≤ B + 100 * xs.length → GoesL Tryd.prog c (H xs.length l) e0 (E l)) (l : List UInt8) (hl : l.length ≤ B) : GoesL Tryd.prog c (H 0 l) e0 (E (l ++ xs.flatMap f)) := by
  have key : ∀ (d i : Nat) (l : List UInt8), xs.length - i = d → i ≤ xs.length → l.length ≤ B + 100 * i → GoesL Tryd.prog c (H i l) e0 (E (l ++ (xs.drop i).flatMap f)) := by
    intro d
    induction d with
    | zero =>
      intro i l hd hi hl
      obtain rfl : i = xs.length := by omega
      rw [List.drop_length, List.flatMap_nil, List.append_nil]
      exact he l hl
    | succ d ih =>
      intro i l hd hi hl
      have hlt : i < xs.length := by omega
      have hmem : xs.getD i default ∈ xs := by rw [List.getD_eq_getElem?_getD, List.getElem?_eq_getElem hlt]; exact List.getElem_mem hlt
      refine hs i l hlt hmem hl _ _ ?_
      rw [drop_getD xs i hlt, List.flatMap_cons, ← List.append_assoc]
      exact ih (i + 1) _ (by omega) (by omega) (by rw [List.length_append]; have := hf _ hmem; omega)
  exact key _ 0 l rfl (Nat.zero_le _) (by omega)
end
/-- The head's numbers. -/
def headR (r : Rw) : List Int := [r.most, (r.ins.length : Int), (r.lats.length : Int), 0, (r.ands.length : Int), (r.bads.length : Int), (r.cons.length : Int)]
/-- A latch's numbers. -/
def latL (d : Df) : List Int := if d.b == 0 then [d.lit, d.a] else if d.b == 1 then [d.lit, d.a, 1] else [d.lit, d.a, d.lit]
/-- The text of a raw circuit. -/
def rawS (r : Rw) : List UInt8 := aag ++ lineS (headR r) ++ r.ins.flatMap (fun x => lineS [x]) ++ r.lats.flatMap (fun d => lineS (latL d)) ++ r.bads.flatMap (fun x => lineS [x]) ++ r.cons.flatMap (fun x => lineS [x]) ++ r.ands.flatMap (fun d => lineS [d.lit, d.a, d.b])
theorem flat_len {α : Type} (xs : List α) (f : α → List UInt8) (hf : ∀ x ∈ xs, (f x).length ≤ 100) : (xs.flatMap f).length ≤ 100 * xs.length := by
  induction xs with
  | nil => simp
  | cons x r ih =>
    rw [List.flatMap_cons, List.length_append, List.length_cons]
    have := hf x (by simp)
    have := ih (fun y hy => hf y (by simp [hy]))
    omega
theorem inner (r : Rw) (e : Int) (xs : List Int) (hx : ∀ x ∈ xs, I64 x) (hl : xs.length ≤ 100000) (l : List UInt8) (hb : l.length ≤ 200000000) :
    GoesL Tryd.prog (loopOf Tryd.prog 11 3) (Ha r l ([BC r, (91, .d (I e))] ++ W3 xs 0)) (.exit 7) (Ha r (l ++ xs.flatMap (fun x => lineS [x])) [BC r, (91, .d (I e))]) := by
  have h1 : ∀ x ∈ xs, (lineS [x]).length ≤ 100 := fun x hm' => by
    have := lineS_len [x] (fun n hn => by rw [List.mem_singleton.1 hn]; exact hx x hm')
    simp at this; omega
  refine str_loop xs (fun i l => Ha r l ([BC r, (91, .d (I e))] ++ W3 xs i)) (.exit 7) (fun l => Ha r l [BC r, (91, .d (I e))]) (fun x => lineS [x]) 200000000 h1 (fun i l hi hmem hl' e' s h => ?_) (fun l _ => ?_) l hb
  · exact .step hO hm (d1 r l _ i xs e) ⟨decide_eq_true (by rw [List.length_map]; omega), ⟨rfl, get_map I xs i hi⟩, line [xs.getD i default] l (fun n hn => by rw [List.mem_singleton.1 hn]; exact hx _ hmem) (by simp) (by omega), wrap_succ (by omega)⟩ h
  · exact .stop hO hm (d2 r l xs.length xs e) (by simp) (decide_eq_false (by rw [List.length_map]; omega))
section
variable {r : Rw}
theorem raw_bad (h : Cir.Wf r) (hc : Cir.chkR r ≠ 0) : ICall Tryd.prog 11 [.d r.d] [] (.tup [.d (.str []), .d (I (Cir.chkR r))]) [] :=
  callX_ok hO hm (raw1 r (Cir.chkR r)) ⟨Cir.check h, bne_iff_ne.2 hc⟩
/-- All numbers of a good raw circuit are small. -/
structure Tiny (r : Rw) : Prop where
  m : 0 ≤ r.most ∧ r.most ≤ 1000
  len : r.ins.length + r.lats.length + r.ands.length ≤ 1000
  ins : ∀ x ∈ r.ins, 0 ≤ x ∧ x ≤ 2001
  lats : ∀ d ∈ r.lats, (0 ≤ d.lit ∧ d.lit ≤ 2001) ∧ (0 ≤ d.a ∧ d.a ≤ 2001)
  ands : ∀ d ∈ r.ands, (0 ≤ d.lit ∧ d.lit ≤ 2001) ∧ (0 ≤ d.a ∧ d.a ≤ 2001) ∧ (0 ≤ d.b ∧ d.b ≤ 2001)
  bads : ∀ x ∈ r.bads, 0 ≤ x ∧ x ≤ 2001
  cons : ∀ x ∈ r.cons, 0 ≤ x ∧ x ≤ 2001
  l4 : r.bads.length ≤ 100
  l5 : r.cons.length ≤ 100
theorem tiny (hc : Cir.chkR r = 0) : Tiny r := by
  obtain ⟨hN, -, -⟩ := chkS_zero (show chkS r.most r.ins r.lats r.ands r.bads r.cons = 0 from hc)
  have hm1 := hN.m
  have ow : ∀ x, x ∈ Def.defs r → 0 ≤ x ∧ x ≤ 2001 := fun x hx => by
    have := hN.own x (by rw [← own_defs]; exact hx); omega
  have us : ∀ x, x ∈ Def.uses r → 0 ≤ x ∧ x ≤ 2001 := fun x hx => by
    have := hN.use x (by rw [← use_uses]; exact hx); omega
  refine ⟨hm1, hN.len, fun x hx => ow x ?_, fun d hd => ⟨ow _ ?_, us _ ?_⟩, fun d hd => ⟨ow _ ?_, us _ ?_, us _ ?_⟩, fun x hx => us x ?_, fun x hx => us x ?_, hN.l4, hN.l5⟩
  · exact List.mem_append_left _ hx
  · exact List.mem_append_right _ (List.mem_map.2 ⟨d, List.mem_append_left _ hd, rfl⟩)
  · unfold Def.uses; exact List.mem_append_left _ (List.mem_append_right _ (List.mem_map.2 ⟨d, hd, rfl⟩))
  · exact List.mem_append_right _ (List.mem_map.2 ⟨d, List.mem_append_right _ hd, rfl⟩)
  · unfold Def.uses; exact List.mem_append_right _ (List.mem_flatMap.2 ⟨d, hd, by simp⟩)
  · unfold Def.uses; exact List.mem_append_right _ (List.mem_flatMap.2 ⟨d, hd, by simp⟩)
  · unfold Def.uses; exact List.mem_append_left _ (List.mem_append_left _ (List.mem_append_left _ hx))
  · unfold Def.uses; exact List.mem_append_left _ (List.mem_append_left _ (List.mem_append_right _ hx))
theorem i64_of {x : Int} (h : 0 ≤ x ∧ x ≤ 2001) : I64 x := ⟨by omega, by omega⟩
theorem Tiny.head (h : Tiny r) : ∀ n ∈ headR r, I64 n := by
  have := h.m; have := h.len; have := h.l4; have := h.l5
  intro n hn
  simp only [headR, List.mem_cons, List.not_mem_nil, or_false] at hn
  unfold I64
  rcases hn with rfl | rfl | rfl | rfl | rfl | rfl | rfl <;> omega
theorem Tiny.lat (h : Tiny r) {d : Df} (hd : d ∈ r.lats) : (∀ n ∈ latL d, I64 n) ∧ (latL d).length ≤ 3 := by
  obtain ⟨h1, h2⟩ := h.lats d hd
  unfold latL
  split
  · exact ⟨fun n hn => by simp at hn; rcases hn with rfl | rfl; exact i64_of h1; exact i64_of h2, by simp⟩
  · split
    · exact ⟨fun n hn => by simp at hn; rcases hn with rfl | rfl | rfl; exact i64_of h1; exact i64_of h2; exact ⟨by omega, by omega⟩, by simp⟩
    · exact ⟨fun n hn => by simp at hn; rcases hn with rfl | rfl | rfl; exact i64_of h1; exact i64_of h2; exact i64_of h1, by simp⟩
theorem Tiny.and (h : Tiny r) {d : Df} (hd : d ∈ r.ands) : ∀ n ∈ [d.lit, d.a, d.b], I64 n := by
  obtain ⟨h1, h2, h3⟩ := h.ands d hd
  intro n hn
  simp at hn
  rcases hn with rfl | rfl | rfl
  exact i64_of h1; exact i64_of h2; exact i64_of h3
theorem line100 (ns : List Int) (h : ∀ n ∈ ns, I64 n) (hl : ns.length ≤ 3) : (lineS ns).length ≤ 100 := by
  have := lineS_len ns h; omega
theorem raw_good (h : Cir.Wf r) (hc : Cir.chkR r = 0) : ICall Tryd.prog 11 [.d r.d] [] (.tup [.d (.str (rawS r)), .d (I 0)]) [] := by
  have hT := tiny hc
  have hlen := hT.len
  have hl4 := hT.l4
  have hl5 := hT.l5
  have hck := Cir.check h
  rw [hc] at hck
  have hh := lineS_len (headR r) hT.head
  have hh' : (lineS (headR r)).length ≤ 155 := by simpa [headR] using hh
  have haag : aag.length = 4 := rfl
  have f1 : ∀ x ∈ r.ins, (lineS [x]).length ≤ 100 := fun x hx => line100 _ (fun n hn => by rw [List.mem_singleton.1 hn]; exact i64_of (hT.ins x hx)) (by simp)
  have f2 : ∀ d ∈ r.lats, (lineS (latL d)).length ≤ 100 := fun d hd => line100 _ (hT.lat hd).1 (hT.lat hd).2
  have f3 : ∀ x ∈ r.bads, (lineS [x]).length ≤ 100 := fun x hx => line100 _ (fun n hn => by rw [List.mem_singleton.1 hn]; exact i64_of (hT.bads x hx)) (by simp)
  have f4 : ∀ x ∈ r.cons, (lineS [x]).length ≤ 100 := fun x hx => line100 _ (fun n hn => by rw [List.mem_singleton.1 hn]; exact i64_of (hT.cons x hx)) (by simp)
  have f5 : ∀ d ∈ r.ands, (lineS [d.lit, d.a, d.b]).length ≤ 100 := fun d hd => line100 _ (hT.and hd) (by simp)
  have g1 := flat_len r.ins _ f1
  have g2 := flat_len r.lats _ f2
  have g3 := flat_len r.bads _ f3
  have g4 := flat_len r.cons _ f4
  have g5 := flat_len r.ands _ f5
  have e1 := str_loop r.ins (fun i l => Ha r l [(42, .d (L r.ins)), (43, .d (I (r.ins.map I).length)), (44, .d (I (i : Nat)))]) (.exit 0) (fun l => Ha r l []) (fun x => lineS [x]) 1000 f1
    (fun i l hi hmem hl e s h' => .step hO hm (a1 r l _ i) ⟨decide_eq_true (by rw [List.length_map]; omega), ⟨rfl, get_map I r.ins i hi⟩, line [r.ins.getD i default] l (fun n hn => by rw [List.mem_singleton.1 hn]; exact i64_of (hT.ins _ hmem)) (by simp) (by omega), wrap_succ (by omega)⟩ h')
    (fun l _ => .stop hO hm (a2 r l r.ins.length) (by simp) (decide_eq_false (by rw [List.length_map]; omega)))
    (aag ++ lineS (headR r)) (by rw [List.length_append]; omega)
  have e2 := str_loop r.lats (fun i l => Ha r l [(53, .d (.sl (r.lats.map Df.d))), (54, .d (I (r.lats.map Df.d).length)), (55, .d (I (i : Nat)))]) (.exit 2) (fun l => Ha r l []) (fun d => lineS (latL d)) 200000 f2
    (fun i l hi hmem hl e s h' => by
      have hL := line (latL (r.lats.getD i default)) l (hT.lat hmem).1 (by have := (hT.lat hmem).2; omega) (by omega)
      have q0 : decide ((i : Int) < (((r.lats.map Df.d).length : Nat) : Int)) = true := decide_eq_true (by rw [List.length_map]; omega)
      have q1 := get_map Df.d r.lats i hi
      unfold latL at hL h'
      cases c0 : ((r.lats.getD i default).b == 0) with
      | true =>
        rw [c0, if_pos rfl] at hL h'
        exact .step hO hm (b1 r l _ i) ⟨q0, ⟨rfl, q1⟩, c0, hL, wrap_succ (by omega)⟩ h'
      | false =>
      cases c1 : ((r.lats.getD i default).b == 1) with
      | true =>
        rw [c0, c1, if_neg (by simp), if_pos rfl] at hL h'
        exact .step hO hm (b2 r l _ i) ⟨q0, ⟨rfl, q1⟩, c0, c1, hL, wrap_succ (by omega)⟩ h'
      | false =>
        rw [c0, c1, if_neg (by simp), if_neg (by simp)] at hL h'
        exact .step hO hm (b3 r l _ i) ⟨q0, ⟨rfl, q1⟩, c0, c1, hL, wrap_succ (by omega)⟩ h')
    (fun l _ => .stop hO hm (b4 r l r.lats.length) (by simp) (decide_eq_false (by rw [List.length_map]; omega)))
    (aag ++ lineS (headR r) ++ r.ins.flatMap (fun x => lineS [x])) (by rw [List.length_append, List.length_append]; omega)
  have i64b : ∀ x ∈ r.bads, I64 x := fun x hx => i64_of (hT.bads x hx)
  have i64c : ∀ x ∈ r.cons, I64 x := fun x hx => i64_of (hT.cons x hx)
  have e3 : GoesL Tryd.prog (loopOf Tryd.prog 11 2) (Ha r (aag ++ lineS (headR r) ++ r.ins.flatMap (fun x => lineS [x]) ++ r.lats.flatMap (fun d => lineS (latL d))) [BC r, (91, .d (I 0))]) (.exit 5)
      (Ha r (aag ++ lineS (headR r) ++ r.ins.flatMap (fun x => lineS [x]) ++ r.lats.flatMap (fun d => lineS (latL d)) ++ r.bads.flatMap (fun x => lineS [x]) ++ r.cons.flatMap (fun x => lineS [x])) []) :=
    .step hO hm (c1 r _ _) ⟨rfl, ⟨rfl, by decide⟩, inner r 0 r.bads i64b (by omega) _ (by simp only [List.length_append]; omega), wrap_id (by omega) (by omega)⟩
      (.step hO hm (c2 r _ _) ⟨rfl, ⟨rfl, by decide⟩, inner r 1 r.cons i64c (by omega) _ (by simp only [List.length_append]; omega), wrap_id (by omega) (by omega)⟩
        (.stop hO hm (c3 r _) (by simp) rfl))
  have e4 := str_loop r.ands (fun i l => Ha r l [(106, .d (.sl (r.ands.map Df.d))), (107, .d (I (r.ands.map Df.d).length)), (108, .d (I (i : Nat)))]) (.exit 9) (fun l => Ha r l []) (fun d => lineS [d.lit, d.a, d.b]) 400000 f5
    (fun i l hi hmem hl e s h' => .step hO hm (Asc.e1 r l _ i) ⟨decide_eq_true (by rw [List.length_map]; omega), ⟨rfl, get_map Df.d r.ands i hi⟩, line [(r.ands.getD i default).lit, (r.ands.getD i default).a, (r.ands.getD i default).b] l (hT.and hmem) (by simp) (by omega), wrap_succ (by omega)⟩ h')
    (fun l _ => .stop hO hm (Asc.e2 r l r.ands.length) (by simp) (decide_eq_false (by rw [List.length_map]; omega)))
    (aag ++ lineS (headR r) ++ r.ins.flatMap (fun x => lineS [x]) ++ r.lats.flatMap (fun d => lineS (latL d)) ++ r.bads.flatMap (fun x => lineS [x]) ++ r.cons.flatMap (fun x => lineS [x])) (by simp only [List.length_append]; omega)
  have hL := line (headR r) aag hT.head (by simp [headR]) (by rw [haag]; omega)
  unfold headR at hL
  have hne : rawS r ≠ [] := by unfold rawS aag; simp
  refine callX_ok hO hm (raw0 r (aag ++ lineS (headR r)) _ _ _ (rawS r)) ⟨hck, rfl, Str.write1 aag (by rw [haag]; omega), ?_, e1, e2, e3, e4, Str.string_ok _ hne⟩
  simp only [List.length_map]
  exact hL
theorem lines_bad (h : Cir.Wf r) (hc : Cir.chkR r ≠ 0) : ICall Tryd.prog 13 [.d r.d] [] (.tup [.d (I 0), .d (I (Cir.chkR r))]) [] :=
  callX_ok hO hm (lines1 r (Cir.chkR r)) ⟨Cir.check h, bne_iff_ne.2 hc⟩
def countR (r : Rw) : Nat := 1 + r.ins.length + r.lats.length + r.ands.length + r.bads.length + r.cons.length
theorem lines_good (h : Cir.Wf r) (hc : Cir.chkR r = 0) : ICall Tryd.prog 13 [.d r.d] [] (.tup [.d (I (countR r)), .d (I 0)]) [] := by
  have hT := tiny hc
  have hlen := hT.len
  have hl4 := hT.l4
  have hl5 := hT.l5
  have hck := Cir.check h
  rw [hc] at hck
  have := callX_ok hO hm (lines0 r 0) ⟨hck, rfl, by rw [wrap_id (by simp only [List.length_map]; omega) (by simp only [List.length_map]; omega)]; omega, by rw [wrap_id (by simp only [List.length_map]; omega) (by simp only [List.length_map]; omega)]; omega, by rw [wrap_id (by simp only [List.length_map]; omega) (by simp only [List.length_map]; omega)]; omega, by rw [wrap_id (by simp only [List.length_map]; omega) (by simp only [List.length_map]; omega)]; omega, by show IntKind.i64.wrap _ = _; rw [wrap_id (by simp only [List.length_map]; omega) (by simp only [List.length_map]; omega)]; omega⟩
  simp only [List.length_map] at this
  exact this
end
end Go.Proofs.YtihbpbdmhiihnaaDoor.Sy.Asc
/- The reference's Defined, Used, Told, round by round. -/
namespace Go.Proofs.YtihbpbdmhiihnaaDoor.Sy.Ref
open Go Go.Proofs.YtihbpbdmhiihnaaDoor.Ab Go.Proofs.YtihbpbdmhiihnaaDoor.Sy
set_option maxRecDepth 1000000
set_option linter.unusedVariables false
def Hd (r : Rw) (xs : List D) (sl : List (Nat × V)) : St := ⟨mk 43 ([(1, .ptr 0 0), (3, .arr 1)] ++ sl) [], [r.box, .lst 3 xs]⟩
def Hu (r : Rw) (xs : List D) (sl : List (Nat × V)) : St := ⟨mk 53 ([(1, .ptr 0 0), (3, .arr 1)] ++ sl) [], [r.box, .lst 3 xs]⟩
section
variable (r : Rw) (x : Int) (g : List Int) (i : Nat) (xs ys : List D) (a b : List Int)
theorem d1 : round Tryd.prog wr false O (loopOf Tryd.prog 53 0) (Hd r xs [(4, .d (I i))]) [It.br true, It.el i (r.lats.getD i default).d, It.raw, It.raw, It.raw, It.is (↑(i + 1) : Int)] [1, 3, 4] 2 = some (.normal, Hd r (xs ++ [I (r.lats.getD i default).lit]) [(4, .d (I (i + 1 : Nat)))],
  [decide ((↑i : Int) < (↑(List.map Df.d r.lats).length : Int)) = true,
   (↑i : Int) = (↑i : Int) ∧ (List.map Df.d r.lats)[i]? = some (r.lats.getD i default).d,
   xs.length + [I (r.lats.getD i default).lit].length ≤ maxItems,
   IntKind.i64.wrap ((↑i : Int) + 1) = (↑(i + 1) : Int)]) := by kernel_rfl
theorem d2 : round Tryd.prog wr false O (loopOf Tryd.prog 53 0) (Hd r xs [(4, .d (I i))]) [It.br false] [1, 3] 2 = some (.exit 0, Hd r xs [],
  [decide ((↑i : Int) < (↑(List.map Df.d r.lats).length : Int)) = false]) := by kernel_rfl
theorem d3 : round Tryd.prog wr false O (loopOf Tryd.prog 53 1) (Hd r xs [(5, .d (I i))]) [It.br true, It.el i (r.ands.getD i default).d, It.raw, It.raw, It.raw, It.is (↑(i + 1) : Int)] [1, 3, 5] 2 = some (.normal, Hd r (xs ++ [I (r.ands.getD i default).lit]) [(5, .d (I (i + 1 : Nat)))],
  [decide ((↑i : Int) < (↑(List.map Df.d r.ands).length : Int)) = true,
   (↑i : Int) = (↑i : Int) ∧ (List.map Df.d r.ands)[i]? = some (r.ands.getD i default).d,
   xs.length + [I (r.ands.getD i default).lit].length ≤ maxItems,
   IntKind.i64.wrap ((↑i : Int) + 1) = (↑(i + 1) : Int)]) := by kernel_rfl
theorem d4 : round Tryd.prog wr false O (loopOf Tryd.prog 53 1) (Hd r xs [(5, .d (I i))]) [It.br false] [1, 3] 2 = some (.exit 2, Hd r xs [],
  [decide ((↑i : Int) < (↑(List.map Df.d r.ands).length : Int)) = false]) := by kernel_rfl
theorem d5  : callX Tryd.prog wr false O 53 [.d r.d] [] [It.raw, It.own, It.raw, It.lp [1, 3, 4] (Ex.exit 0) (Hd r xs []), It.lp [1, 3, 5] (Ex.exit 2) (Hd r ys [])] = some (V.own 3 ys, [],
  [∀ (y : D), y ∈ List.map I r.ins → y.cells.length = (fun x => x.size) Tryd.prog.types[3],
   (List.map I r.ins).length ≤ maxItems,
   GoesL Tryd.prog (loopOf Tryd.prog 53 0) (⟨mk 43 [(1, V.ptr 0 0), (3, V.arr 1), (4, V.d (D.int IntKind.i64 0))] [], [B.box [V.d (D.int IntKind.i64 r.most), V.d (D.sl (List.map I r.ins)), V.d (D.sl (List.map Df.d r.lats)), V.d (D.sl (List.map Df.d r.ands)), V.d (D.sl (List.map I r.bads)), V.d (D.sl (List.map I r.cons))], B.lst 3 (List.map I r.ins)]⟩) (Ex.exit 0) (Hd r xs []),
   GoesL Tryd.prog (loopOf Tryd.prog 53 1) (⟨mk 43 [(1, V.ptr 0 0), (3, V.arr 1), (5, V.d (D.int IntKind.i64 0))] [], [B.box [V.d (D.int IntKind.i64 r.most), V.d (D.sl (List.map I r.ins)), V.d (D.sl (List.map Df.d r.lats)), V.d (D.sl (List.map Df.d r.ands)), V.d (D.sl (List.map I r.bads)), V.d (D.sl (List.map I r.cons))], B.lst 3 xs]⟩) (Ex.exit 2) (Hd r ys [])]) := by kernel_rfl
theorem u1 : round Tryd.prog wr false O (loopOf Tryd.prog 35 0) (Hu r xs [(4, .d (I i))]) [It.br true, It.el i (r.lats.getD i default).d, It.raw, It.raw, It.raw, It.is (↑(i + 1) : Int)] [1, 3, 4] 2 = some (.normal, Hu r (xs ++ [I (r.lats.getD i default).a]) [(4, .d (I (i + 1 : Nat)))],
  [decide ((↑i : Int) < (↑(List.map Df.d r.lats).length : Int)) = true,
   (↑i : Int) = (↑i : Int) ∧ (List.map Df.d r.lats)[i]? = some (r.lats.getD i default).d,
   xs.length + [I (r.lats.getD i default).a].length ≤ maxItems,
   IntKind.i64.wrap ((↑i : Int) + 1) = (↑(i + 1) : Int)]) := by kernel_rfl
theorem u2 : round Tryd.prog wr false O (loopOf Tryd.prog 35 0) (Hu r xs [(4, .d (I i))]) [It.br false] [1, 3] 2 = some (.exit 0, Hu r xs [],
  [decide ((↑i : Int) < (↑(List.map Df.d r.lats).length : Int)) = false]) := by kernel_rfl
theorem u3 : round Tryd.prog wr false O (loopOf Tryd.prog 35 1) (Hu r xs [(5, .d (I i))]) [It.br true, It.el i (r.ands.getD i default).d, It.el i (r.ands.getD i default).d, It.raw, It.raw, It.raw, It.is (↑(i + 1) : Int)] [1, 3, 5] 2 = some (.normal, Hu r (xs ++ [I (r.ands.getD i default).a, I (r.ands.getD i default).b]) [(5, .d (I (i + 1 : Nat)))],
  [decide ((↑i : Int) < (↑(List.map Df.d r.ands).length : Int)) = true,
   (↑i : Int) = (↑i : Int) ∧ (List.map Df.d r.ands)[i]? = some (r.ands.getD i default).d,
   (↑i : Int) = (↑i : Int) ∧ (List.map Df.d r.ands)[i]? = some (r.ands.getD i default).d,
   xs.length + [I (r.ands.getD i default).a, I (r.ands.getD i default).b].length ≤ maxItems,
   IntKind.i64.wrap ((↑i : Int) + 1) = (↑(i + 1) : Int)]) := by kernel_rfl
theorem u4 : round Tryd.prog wr false O (loopOf Tryd.prog 35 1) (Hu r xs [(5, .d (I i))]) [It.br false] [1, 3] 2 = some (.exit 2, Hu r xs [],
  [decide ((↑i : Int) < (↑(List.map Df.d r.ands).length : Int)) = false]) := by kernel_rfl
theorem u5  : callX Tryd.prog wr false O 35 [.d r.d] [] [It.raw, It.own, It.raw, It.own, It.raw, It.lp [1, 3, 4] (Ex.exit 0) (Hu r xs []), It.lp [1, 3, 5] (Ex.exit 2) (Hu r ys [])] = some (V.own 3 ys, [],
  [∀ (y : D), y ∈ List.map I r.bads → y.cells.length = (fun x => x.size) Tryd.prog.types[3],
   (List.map I r.bads).length ≤ maxItems,
   ∀ (y : D), y ∈ List.map I r.cons → y.cells.length = (fun x => x.size) Tryd.prog.types[3],
   (List.map I r.bads).length + (List.map I r.cons).length ≤ maxItems,
   GoesL Tryd.prog (loopOf Tryd.prog 35 0) (⟨mk 53 [(1, V.ptr 0 0), (3, V.arr 1), (4, V.d (D.int IntKind.i64 0))] [], [B.box [V.d (D.int IntKind.i64 r.most), V.d (D.sl (List.map I r.ins)), V.d (D.sl (List.map Df.d r.lats)), V.d (D.sl (List.map Df.d r.ands)), V.d (D.sl (List.map I r.bads)), V.d (D.sl (List.map I r.cons))], B.lst 3 (List.map I r.bads ++ List.map I r.cons)]⟩) (Ex.exit 0) (Hu r xs []),
   GoesL Tryd.prog (loopOf Tryd.prog 35 1) (⟨mk 53 [(1, V.ptr 0 0), (3, V.arr 1), (5, V.d (D.int IntKind.i64 0))] [], [B.box [V.d (D.int IntKind.i64 r.most), V.d (D.sl (List.map I r.ins)), V.d (D.sl (List.map Df.d r.lats)), V.d (D.sl (List.map Df.d r.ands)), V.d (D.sl (List.map I r.bads)), V.d (D.sl (List.map I r.cons))], B.lst 3 xs]⟩) (Ex.exit 2) (Hu r ys [])]) := by kernel_rfl
end
end Go.Proofs.YtihbpbdmhiihnaaDoor.Sy.Ref
/- The reference's numbers and Times, round by round. -/
namespace Go.Proofs.YtihbpbdmhiihnaaDoor.Sy.Ref
open Go Go.Proofs.YtihbpbdmhiihnaaDoor.Ab Go.Proofs.YtihbpbdmhiihnaaDoor.Sy
set_option maxRecDepth 1000000
set_option linter.unusedVariables false
def Hn (r : Rw) (a b : List Int) (sl : List (Nat × V)) : St := ⟨mk 87 ([(1, .ptr 0 0), (3, .arr 1), (4, .arr 2)] ++ sl) [], [r.box, .lst 3 (a.map I), .lst 3 (b.map I)]⟩
def Rn (r : Rw) (a b : List Int) : St := ⟨mk 87 [(2, .d (.bool false))] [], [r.box, .lst 3 (a.map I), .lst 3 (b.map I)]⟩
def Ht (r : Rw) (ml : List D) (a : List Int) (sl : List (Nat × V)) : St := ⟨mk 31 ([(1, .ptr 0 0), (3, .arr 1), (4, .arr 2)] ++ sl) [], [r.box, .lst 3 ml, .lst 3 (a.map I)]⟩
section
variable (r : Rw) (x v : Int) (g : List Int) (i u N : Nat) (xs ys ml : List D) (a b : List Int)
theorem n1 : round Tryd.prog wr false O (loopOf Tryd.prog 33 0) (Hn r a b [(5, .d (I i))]) [It.br true, It.ix i, It.el i (I (a.getD i default)), It.br true] [2] 3 = some (.ret, Rn r a b,
  [decide ((↑i : Int) < (↑(List.map I a).length : Int)) = true,
   (↑i : Int) = (↑i : Int) ∧ i < (List.map I a).length,
   (List.map I a)[i]? = some (I (a.getD i default)),
   decide (a.getD i default < 2) = true]) := by kernel_rfl
theorem n2 : round Tryd.prog wr false O (loopOf Tryd.prog 33 0) (Hn r a b [(5, .d (I i))]) [It.br true, It.ix i, It.el i (I (a.getD i default)), It.br false, It.ix i, It.el i (I (a.getD i default)), It.is (a.getD i default % 2), It.br true] [2] 3 = some (.ret, Rn r a b,
  [decide ((↑i : Int) < (↑(List.map I a).length : Int)) = true,
   (↑i : Int) = (↑i : Int) ∧ i < (List.map I a).length,
   (List.map I a)[i]? = some (I (a.getD i default)),
   decide (a.getD i default < 2) = false,
   (↑i : Int) = (↑i : Int) ∧ i < (List.map I a).length,
   (List.map I a)[i]? = some (I (a.getD i default)),
   (a.getD i default).tmod 2 = a.getD i default % 2,
   (a.getD i default % 2 == 1) = true]) := by kernel_rfl
theorem n3 : round Tryd.prog wr false O (loopOf Tryd.prog 33 0) (Hn r a b [(5, .d (I i))]) [It.br true, It.ix i, It.el i (I (a.getD i default)), It.br false, It.ix i, It.el i (I (a.getD i default)), It.is (a.getD i default % 2), It.br false, It.ix i, It.el i (I (a.getD i default)), It.is (2 * r.most), It.is (2 * r.most + 1), It.br true] [2] 3 = some (.ret, Rn r a b,
  [decide ((↑i : Int) < (↑(List.map I a).length : Int)) = true,
   (↑i : Int) = (↑i : Int) ∧ i < (List.map I a).length,
   (List.map I a)[i]? = some (I (a.getD i default)),
   decide (a.getD i default < 2) = false,
   (↑i : Int) = (↑i : Int) ∧ i < (List.map I a).length,
   (List.map I a)[i]? = some (I (a.getD i default)),
   (a.getD i default).tmod 2 = a.getD i default % 2,
   (a.getD i default % 2 == 1) = false,
   (↑i : Int) = (↑i : Int) ∧ i < (List.map I a).length,
   (List.map I a)[i]? = some (I (a.getD i default)),
   IntKind.i64.wrap (2 * r.most) = 2 * r.most,
   IntKind.i64.wrap (2 * r.most + 1) = 2 * r.most + 1,
   decide (a.getD i default > 2 * r.most + 1) = true]) := by kernel_rfl
theorem n4 : round Tryd.prog wr false O (loopOf Tryd.prog 33 0) (Hn r a b [(5, .d (I i))]) [It.br true, It.ix i, It.el i (I (a.getD i default)), It.br false, It.ix i, It.el i (I (a.getD i default)), It.is (a.getD i default % 2), It.br false, It.ix i, It.el i (I (a.getD i default)), It.is (2 * r.most), It.is (2 * r.most + 1), It.br false, It.is (↑(i + 1) : Int)] [1, 3, 4, 5] 3 = some (.normal, Hn r a b [(5, .d (I (i + 1 : Nat)))],
  [decide ((↑i : Int) < (↑(List.map I a).length : Int)) = true,
   (↑i : Int) = (↑i : Int) ∧ i < (List.map I a).length,
   (List.map I a)[i]? = some (I (a.getD i default)),
   decide (a.getD i default < 2) = false,
   (↑i : Int) = (↑i : Int) ∧ i < (List.map I a).length,
   (List.map I a)[i]? = some (I (a.getD i default)),
   (a.getD i default).tmod 2 = a.getD i default % 2,
   (a.getD i default % 2 == 1) = false,
   (↑i : Int) = (↑i : Int) ∧ i < (List.map I a).length,
   (List.map I a)[i]? = some (I (a.getD i default)),
   IntKind.i64.wrap (2 * r.most) = 2 * r.most,
   IntKind.i64.wrap (2 * r.most + 1) = 2 * r.most + 1,
   decide (a.getD i default > 2 * r.most + 1) = false,
   IntKind.i64.wrap ((↑i : Int) + 1) = (↑(i + 1) : Int)]) := by kernel_rfl
theorem n5 : round Tryd.prog wr false O (loopOf Tryd.prog 33 0) (Hn r a b [(5, .d (I i))]) [It.br false] [1, 3, 4] 3 = some (.exit 0, Hn r a b [],
  [decide ((↑i : Int) < (↑(List.map I a).length : Int)) = false]) := by kernel_rfl
theorem n6 : round Tryd.prog wr false O (loopOf Tryd.prog 33 1) (Hn r a b [(6, .d (I i))]) [It.br true, It.ix i, It.el i (I (b.getD i default)), It.br true] [2] 3 = some (.ret, Rn r a b,
  [decide ((↑i : Int) < (↑(List.map I b).length : Int)) = true,
   (↑i : Int) = (↑i : Int) ∧ i < (List.map I b).length,
   (List.map I b)[i]? = some (I (b.getD i default)),
   decide (b.getD i default < 0) = true]) := by kernel_rfl
theorem n7 : round Tryd.prog wr false O (loopOf Tryd.prog 33 1) (Hn r a b [(6, .d (I i))]) [It.br true, It.ix i, It.el i (I (b.getD i default)), It.br false, It.ix i, It.el i (I (b.getD i default)), It.is (2 * r.most), It.is (2 * r.most + 1), It.br true] [2] 3 = some (.ret, Rn r a b,
  [decide ((↑i : Int) < (↑(List.map I b).length : Int)) = true,
   (↑i : Int) = (↑i : Int) ∧ i < (List.map I b).length,
   (List.map I b)[i]? = some (I (b.getD i default)),
   decide (b.getD i default < 0) = false,
   (↑i : Int) = (↑i : Int) ∧ i < (List.map I b).length,
   (List.map I b)[i]? = some (I (b.getD i default)),
   IntKind.i64.wrap (2 * r.most) = 2 * r.most,
   IntKind.i64.wrap (2 * r.most + 1) = 2 * r.most + 1,
   decide (b.getD i default > 2 * r.most + 1) = true]) := by kernel_rfl
theorem n8 : round Tryd.prog wr false O (loopOf Tryd.prog 33 1) (Hn r a b [(6, .d (I i))]) [It.br true, It.ix i, It.el i (I (b.getD i default)), It.br false, It.ix i, It.el i (I (b.getD i default)), It.is (2 * r.most), It.is (2 * r.most + 1), It.br false, It.is (↑(i + 1) : Int)] [1, 3, 4, 6] 3 = some (.normal, Hn r a b [(6, .d (I (i + 1 : Nat)))],
  [decide ((↑i : Int) < (↑(List.map I b).length : Int)) = true,
   (↑i : Int) = (↑i : Int) ∧ i < (List.map I b).length,
   (List.map I b)[i]? = some (I (b.getD i default)),
   decide (b.getD i default < 0) = false,
   (↑i : Int) = (↑i : Int) ∧ i < (List.map I b).length,
   (List.map I b)[i]? = some (I (b.getD i default)),
   IntKind.i64.wrap (2 * r.most) = 2 * r.most,
   IntKind.i64.wrap (2 * r.most + 1) = 2 * r.most + 1,
   decide (b.getD i default > 2 * r.most + 1) = false,
   IntKind.i64.wrap ((↑i : Int) + 1) = (↑(i + 1) : Int)]) := by kernel_rfl
theorem n9 : round Tryd.prog wr false O (loopOf Tryd.prog 33 1) (Hn r a b [(6, .d (I i))]) [It.br false] [1, 3, 4] 3 = some (.exit 2, Hn r a b [],
  [decide ((↑i : Int) < (↑(List.map I b).length : Int)) = false]) := by kernel_rfl
theorem n10 : round Tryd.prog wr false O (loopOf Tryd.prog 33 2) (Hn r a b [(7, .d (I i))]) [It.br true, It.el i (r.lats.getD i default).d, It.br true] [2] 3 = some (.ret, Rn r a b,
  [decide ((↑i : Int) < (↑(List.map Df.d r.lats).length : Int)) = true,
   (↑i : Int) = (↑i : Int) ∧ (List.map Df.d r.lats)[i]? = some (r.lats.getD i default).d,
   decide ((r.lats.getD i default).b < 0) = true]) := by kernel_rfl
theorem n11 : round Tryd.prog wr false O (loopOf Tryd.prog 33 2) (Hn r a b [(7, .d (I i))]) [It.br true, It.el i (r.lats.getD i default).d, It.br false, It.el i (r.lats.getD i default).d, It.br true] [2] 3 = some (.ret, Rn r a b,
  [decide ((↑i : Int) < (↑(List.map Df.d r.lats).length : Int)) = true,
   (↑i : Int) = (↑i : Int) ∧ (List.map Df.d r.lats)[i]? = some (r.lats.getD i default).d,
   decide ((r.lats.getD i default).b < 0) = false,
   (↑i : Int) = (↑i : Int) ∧ (List.map Df.d r.lats)[i]? = some (r.lats.getD i default).d,
   decide ((r.lats.getD i default).b > 2) = true]) := by kernel_rfl
theorem n12 : round Tryd.prog wr false O (loopOf Tryd.prog 33 2) (Hn r a b [(7, .d (I i))]) [It.br true, It.el i (r.lats.getD i default).d, It.br false, It.el i (r.lats.getD i default).d, It.br false, It.is (↑(i + 1) : Int)] [1, 3, 4, 7] 3 = some (.normal, Hn r a b [(7, .d (I (i + 1 : Nat)))],
  [decide ((↑i : Int) < (↑(List.map Df.d r.lats).length : Int)) = true,
   (↑i : Int) = (↑i : Int) ∧ (List.map Df.d r.lats)[i]? = some (r.lats.getD i default).d,
   decide ((r.lats.getD i default).b < 0) = false,
   (↑i : Int) = (↑i : Int) ∧ (List.map Df.d r.lats)[i]? = some (r.lats.getD i default).d,
   decide ((r.lats.getD i default).b > 2) = false,
   IntKind.i64.wrap ((↑i : Int) + 1) = (↑(i + 1) : Int)]) := by kernel_rfl
theorem n13 : round Tryd.prog wr false O (loopOf Tryd.prog 33 2) (Hn r a b [(7, .d (I i))]) [It.br false] [1, 3, 4] 3 = some (.exit 4, Hn r a b [],
  [decide ((↑i : Int) < (↑(List.map Df.d r.lats).length : Int)) = false]) := by kernel_rfl
theorem m1  : callX Tryd.prog wr false O 33 [.d r.d] [] [It.icall [] (V.own 3 (List.map I a)) [], It.icall [] (V.own 3 (List.map I b)) [], It.lp [1, 3, 4, 5] Ex.ret (Rn r a b)] = some (V.d (D.bool false), [],
  [ICall Tryd.prog 53 [V.d (D.agg [I r.most, L r.ins, D.sl (List.map Df.d r.lats), D.sl (List.map Df.d r.ands), L r.bads, L r.cons])] [] (V.own 3 (List.map I a)) [],
   ICall Tryd.prog 35 [V.d (D.agg [I r.most, L r.ins, D.sl (List.map Df.d r.lats), D.sl (List.map Df.d r.ands), L r.bads, L r.cons])] [] (V.own 3 (List.map I b)) [],
   GoesL Tryd.prog (loopOf Tryd.prog 33 0) (⟨mk 87 [(1, V.ptr 0 0), (3, V.arr 1), (4, V.arr 2), (5, V.d (D.int IntKind.i64 0))] [], [B.box [V.d (D.int IntKind.i64 r.most), V.d (D.sl (List.map I r.ins)), V.d (D.sl (List.map Df.d r.lats)), V.d (D.sl (List.map Df.d r.ands)), V.d (D.sl (List.map I r.bads)), V.d (D.sl (List.map I r.cons))], B.lst 3 (List.map I a), B.lst 3 (List.map I b)]⟩) (Ex.ret) (Rn r a b)]) := by kernel_rfl
theorem m2  : callX Tryd.prog wr false O 33 [.d r.d] [] [It.icall [] (V.own 3 (List.map I a)) [], It.icall [] (V.own 3 (List.map I b)) [], It.lp [1, 3, 4, 5] (Ex.exit 0) (Hn r a b []), It.lp [1, 3, 4, 6] Ex.ret (Rn r a b)] = some (V.d (D.bool false), [],
  [ICall Tryd.prog 53 [V.d (D.agg [I r.most, L r.ins, D.sl (List.map Df.d r.lats), D.sl (List.map Df.d r.ands), L r.bads, L r.cons])] [] (V.own 3 (List.map I a)) [],
   ICall Tryd.prog 35 [V.d (D.agg [I r.most, L r.ins, D.sl (List.map Df.d r.lats), D.sl (List.map Df.d r.ands), L r.bads, L r.cons])] [] (V.own 3 (List.map I b)) [],
   GoesL Tryd.prog (loopOf Tryd.prog 33 0) (⟨mk 87 [(1, V.ptr 0 0), (3, V.arr 1), (4, V.arr 2), (5, V.d (D.int IntKind.i64 0))] [], [B.box [V.d (D.int IntKind.i64 r.most), V.d (D.sl (List.map I r.ins)), V.d (D.sl (List.map Df.d r.lats)), V.d (D.sl (List.map Df.d r.ands)), V.d (D.sl (List.map I r.bads)), V.d (D.sl (List.map I r.cons))], B.lst 3 (List.map I a), B.lst 3 (List.map I b)]⟩) (Ex.exit 0) (Hn r a b []),
   GoesL Tryd.prog (loopOf Tryd.prog 33 1) (⟨mk 87 [(1, V.ptr 0 0), (3, V.arr 1), (4, V.arr 2), (6, V.d (D.int IntKind.i64 0))] [], [B.box [V.d (D.int IntKind.i64 r.most), V.d (D.sl (List.map I r.ins)), V.d (D.sl (List.map Df.d r.lats)), V.d (D.sl (List.map Df.d r.ands)), V.d (D.sl (List.map I r.bads)), V.d (D.sl (List.map I r.cons))], B.lst 3 (List.map I a), B.lst 3 (List.map I b)]⟩) (Ex.ret) (Rn r a b)]) := by kernel_rfl
theorem m3  : callX Tryd.prog wr false O 33 [.d r.d] [] [It.icall [] (V.own 3 (List.map I a)) [], It.icall [] (V.own 3 (List.map I b)) [], It.lp [1, 3, 4, 5] (Ex.exit 0) (Hn r a b []), It.lp [1, 3, 4, 6] (Ex.exit 2) (Hn r a b []), It.lp [1, 3, 4, 7] Ex.ret (Rn r a b)] = some (V.d (D.bool false), [],
  [ICall Tryd.prog 53 [V.d (D.agg [I r.most, L r.ins, D.sl (List.map Df.d r.lats), D.sl (List.map Df.d r.ands), L r.bads, L r.cons])] [] (V.own 3 (List.map I a)) [],
   ICall Tryd.prog 35 [V.d (D.agg [I r.most, L r.ins, D.sl (List.map Df.d r.lats), D.sl (List.map Df.d r.ands), L r.bads, L r.cons])] [] (V.own 3 (List.map I b)) [],
   GoesL Tryd.prog (loopOf Tryd.prog 33 0) (⟨mk 87 [(1, V.ptr 0 0), (3, V.arr 1), (4, V.arr 2), (5, V.d (D.int IntKind.i64 0))] [], [B.box [V.d (D.int IntKind.i64 r.most), V.d (D.sl (List.map I r.ins)), V.d (D.sl (List.map Df.d r.lats)), V.d (D.sl (List.map Df.d r.ands)), V.d (D.sl (List.map I r.bads)), V.d (D.sl (List.map I r.cons))], B.lst 3 (List.map I a), B.lst 3 (List.map I b)]⟩) (Ex.exit 0) (Hn r a b []),
   GoesL Tryd.prog (loopOf Tryd.prog 33 1) (⟨mk 87 [(1, V.ptr 0 0), (3, V.arr 1), (4, V.arr 2), (6, V.d (D.int IntKind.i64 0))] [], [B.box [V.d (D.int IntKind.i64 r.most), V.d (D.sl (List.map I r.ins)), V.d (D.sl (List.map Df.d r.lats)), V.d (D.sl (List.map Df.d r.ands)), V.d (D.sl (List.map I r.bads)), V.d (D.sl (List.map I r.cons))], B.lst 3 (List.map I a), B.lst 3 (List.map I b)]⟩) (Ex.exit 2) (Hn r a b []),
   GoesL Tryd.prog (loopOf Tryd.prog 33 2) (⟨mk 87 [(1, V.ptr 0 0), (3, V.arr 1), (4, V.arr 2), (7, V.d (D.int IntKind.i64 0))] [], [B.box [V.d (D.int IntKind.i64 r.most), V.d (D.sl (List.map I r.ins)), V.d (D.sl (List.map Df.d r.lats)), V.d (D.sl (List.map Df.d r.ands)), V.d (D.sl (List.map I r.bads)), V.d (D.sl (List.map I r.cons))], B.lst 3 (List.map I a), B.lst 3 (List.map I b)]⟩) (Ex.ret) (Rn r a b)]) := by kernel_rfl
theorem m4  : callX Tryd.prog wr false O 33 [.d r.d] [] [It.icall [] (V.own 3 (List.map I a)) [], It.icall [] (V.own 3 (List.map I b)) [], It.lp [1, 3, 4, 5] (Ex.exit 0) (Hn r a b []), It.lp [1, 3, 4, 6] (Ex.exit 2) (Hn r a b []), It.lp [1, 3, 4, 7] (Ex.exit 4) (Hn r a b [])] = some (V.d (D.bool true), [],
  [ICall Tryd.prog 53 [V.d (D.agg [I r.most, L r.ins, D.sl (List.map Df.d r.lats), D.sl (List.map Df.d r.ands), L r.bads, L r.cons])] [] (V.own 3 (List.map I a)) [],
   ICall Tryd.prog 35 [V.d (D.agg [I r.most, L r.ins, D.sl (List.map Df.d r.lats), D.sl (List.map Df.d r.ands), L r.bads, L r.cons])] [] (V.own 3 (List.map I b)) [],
   GoesL Tryd.prog (loopOf Tryd.prog 33 0) (⟨mk 87 [(1, V.ptr 0 0), (3, V.arr 1), (4, V.arr 2), (5, V.d (D.int IntKind.i64 0))] [], [B.box [V.d (D.int IntKind.i64 r.most), V.d (D.sl (List.map I r.ins)), V.d (D.sl (List.map Df.d r.lats)), V.d (D.sl (List.map Df.d r.ands)), V.d (D.sl (List.map I r.bads)), V.d (D.sl (List.map I r.cons))], B.lst 3 (List.map I a), B.lst 3 (List.map I b)]⟩) (Ex.exit 0) (Hn r a b []),
   GoesL Tryd.prog (loopOf Tryd.prog 33 1) (⟨mk 87 [(1, V.ptr 0 0), (3, V.arr 1), (4, V.arr 2), (6, V.d (D.int IntKind.i64 0))] [], [B.box [V.d (D.int IntKind.i64 r.most), V.d (D.sl (List.map I r.ins)), V.d (D.sl (List.map Df.d r.lats)), V.d (D.sl (List.map Df.d r.ands)), V.d (D.sl (List.map I r.bads)), V.d (D.sl (List.map I r.cons))], B.lst 3 (List.map I a), B.lst 3 (List.map I b)]⟩) (Ex.exit 2) (Hn r a b []),
   GoesL Tryd.prog (loopOf Tryd.prog 33 2) (⟨mk 87 [(1, V.ptr 0 0), (3, V.arr 1), (4, V.arr 2), (7, V.d (D.int IntKind.i64 0))] [], [B.box [V.d (D.int IntKind.i64 r.most), V.d (D.sl (List.map I r.ins)), V.d (D.sl (List.map Df.d r.lats)), V.d (D.sl (List.map Df.d r.ands)), V.d (D.sl (List.map I r.bads)), V.d (D.sl (List.map I r.cons))], B.lst 3 (List.map I a), B.lst 3 (List.map I b)]⟩) (Ex.exit 4) (Hn r a b [])]) := by kernel_rfl
theorem t2 : round Tryd.prog wr false O (loopOf Tryd.prog 34 0) (Ht r ml a [(5, .d (I i))]) [It.br true, It.ix i, It.el i (I (a.getD i default)), It.is (a.getD i default / 2), It.ix (a.getD i default / 2).toNat, It.el (a.getD i default / 2).toNat (I v), It.is (v + 1), It.ix (a.getD i default / 2).toNat, It.is (↑(i + 1) : Int)] [1, 3, 4, 5] 3 = some (.normal, Ht r (ml.set (a.getD i default / 2).toNat (I (v + 1))) a [(5, .d (I (i + 1 : Nat)))],
  [decide ((↑i : Int) < (↑(List.map I a).length : Int)) = true,
   (↑i : Int) = (↑i : Int) ∧ i < (List.map I a).length,
   (List.map I a)[i]? = some (I (a.getD i default)),
   IntKind.i64.wrap ((a.getD i default).tdiv 2) = a.getD i default / 2,
   a.getD i default / 2 = (↑(a.getD i default / 2).toNat : Int) ∧ (a.getD i default / 2).toNat < ml.length,
   ml[(a.getD i default / 2).toNat]? = some (I v),
   IntKind.i64.wrap (v + 1) = v + 1,
   a.getD i default / 2 = (↑(a.getD i default / 2).toNat : Int) ∧ (a.getD i default / 2).toNat < ml.length,
   IntKind.i64.wrap ((↑i : Int) + 1) = (↑(i + 1) : Int)]) := by kernel_rfl
theorem t3 : round Tryd.prog wr false O (loopOf Tryd.prog 34 0) (Ht r ml a [(5, .d (I i))]) [It.br false] [1, 3, 4] 3 = some (.exit 0, Ht r ml a [],
  [decide ((↑i : Int) < (↑(List.map I a).length : Int)) = false]) := by kernel_rfl
theorem t4  : callX Tryd.prog wr false O 34 [.d r.d] [] [It.is (r.most + 1), It.len (r.most + 1).toNat, It.ix 0, It.icall [] (V.own 3 (List.map I a)) [], It.lp [1, 3, 4, 5] (Ex.exit 0) (Ht r ml a [])] = some (V.own 3 ml, [],
  [IntKind.i64.wrap (r.most + 1) = r.most + 1,
   r.most + 1 = (↑(r.most + 1).toNat : Int) ∧ r.most + 1 = (↑(r.most + 1).toNat : Int) ∧ (r.most + 1).toNat ≤ maxItems,
   0 = (↑0 : Int) ∧ 0 < (List.replicate (r.most + 1).toNat (D.int IntKind.i64 0)).length,
   ICall Tryd.prog 53 [V.d (D.agg [I r.most, L r.ins, D.sl (List.map Df.d r.lats), D.sl (List.map Df.d r.ands), L r.bads, L r.cons])] [] (V.own 3 (List.map I a)) [],
   GoesL Tryd.prog (loopOf Tryd.prog 34 0) (⟨mk 31 [(1, V.ptr 0 0), (3, V.arr 1), (4, V.arr 2), (5, V.d (D.int IntKind.i64 0))] [], [B.box [V.d (D.int IntKind.i64 r.most), V.d (D.sl (List.map I r.ins)), V.d (D.sl (List.map Df.d r.lats)), V.d (D.sl (List.map Df.d r.ands)), V.d (D.sl (List.map I r.bads)), V.d (D.sl (List.map I r.cons))], B.lst 3 ((List.replicate (r.most + 1).toNat (D.int IntKind.i64 0)).set 0 (D.int IntKind.i64 1)), B.lst 3 (List.map I a)]⟩) (Ex.exit 0) (Ht r ml a [])]) := by kernel_rfl
end
end Go.Proofs.YtihbpbdmhiihnaaDoor.Sy.Ref
/- The reference's Order, round by round. -/
namespace Go.Proofs.YtihbpbdmhiihnaaDoor.Sy.Ref
open Go Go.Proofs.YtihbpbdmhiihnaaDoor.Ab Go.Proofs.YtihbpbdmhiihnaaDoor.Sy
set_option maxRecDepth 1000000
set_option linter.unusedVariables false
def Ho (r : Rw) (gl : List D) (sl : List (Nat × V)) : St := ⟨mk 99 ([(1, .ptr 0 0), (3, .arr 1)] ++ sl) [], [r.box, .lst 4 gl]⟩
def Hp (r : Rw) (gl ol : List D) (sl : List (Nat × V)) : St := ⟨mk 99 ([(1, .ptr 0 0), (3, .arr 1), (6, .arr 2)] ++ sl) [], [r.box, .lst 4 gl, .lst 3 ol]⟩
def Eo (r : Rw) (gl ol : List D) : St := ⟨mk 99 [(2, .arr 2)] [], [r.box, .lst 4 gl, .lst 3 ol]⟩
section
variable (r : Rw) (x z : Int) (g : List Int) (i u N : Nat) (gl ol xs ys ml : List D) (a b : List Int)
theorem o1 : round Tryd.prog wr false O (loopOf Tryd.prog 36 0) (Ho r gl [(2, .emp true), (4, .d (I i))]) [It.br true, It.ix i, It.is (↑(i + 1) : Int)] [1, 2, 3, 4] 2 = some (.normal, Ho r (gl.set i (.bool true)) [(2, .emp true), (4, .d (I (i + 1 : Nat)))],
  [decide ((↑i : Int) ≤ r.most) = true,
   (↑i : Int) = (↑i : Int) ∧ i < gl.length,
   IntKind.i64.wrap ((↑i : Int) + 1) = (↑(i + 1) : Int)]) := by kernel_rfl
theorem o2 : round Tryd.prog wr false O (loopOf Tryd.prog 36 0) (Ho r gl [(2, .emp true), (4, .d (I i))]) [It.br false] [1, 2, 3] 2 = some (.exit 0, Ho r gl [(2, .emp true)],
  [decide ((↑i : Int) ≤ r.most) = false]) := by kernel_rfl
theorem o3 : round Tryd.prog wr false O (loopOf Tryd.prog 36 1) (Ho r gl [(2, .emp true), (5, .d (I i))]) [It.br true, It.el i (r.ands.getD i default).d, It.is ((r.ands.getD i default).lit / 2), It.ix ((r.ands.getD i default).lit / 2).toNat, It.is (↑(i + 1) : Int)] [1, 2, 3, 5] 2 = some (.normal, Ho r (gl.set ((r.ands.getD i default).lit / 2).toNat (.bool false)) [(2, .emp true), (5, .d (I (i + 1 : Nat)))],
  [decide ((↑i : Int) < (↑(List.map Df.d r.ands).length : Int)) = true,
   (↑i : Int) = (↑i : Int) ∧ (List.map Df.d r.ands)[i]? = some (r.ands.getD i default).d,
   IntKind.i64.wrap ((r.ands.getD i default).lit.tdiv 2) = (r.ands.getD i default).lit / 2,
   (r.ands.getD i default).lit / 2 = (↑((r.ands.getD i default).lit / 2).toNat : Int) ∧ ((r.ands.getD i default).lit / 2).toNat < gl.length,
   IntKind.i64.wrap ((↑i : Int) + 1) = (↑(i + 1) : Int)]) := by kernel_rfl
theorem o4 : round Tryd.prog wr false O (loopOf Tryd.prog 36 1) (Ho r gl [(2, .emp true), (5, .d (I i))]) [It.br false] [1, 2, 3] 2 = some (.exit 2, Ho r gl [(2, .emp true)],
  [decide ((↑i : Int) < (↑(List.map Df.d r.ands).length : Int)) = false]) := by kernel_rfl
theorem p1 : round Tryd.prog wr false O (loopOf Tryd.prog 36 3) (Hp r gl ol [(7, .d (I x)), (8, .d (I i))]) [It.br true, It.el i (r.ands.getD i default).d, It.is ((r.ands.getD i default).lit / 2), It.ix ((r.ands.getD i default).lit / 2).toNat, It.el ((r.ands.getD i default).lit / 2).toNat (D.bool true), It.br false, It.is ((↑i : Int) - 1)] [1, 3, 6, 7, 8] 3 = some (.normal, Hp r gl ol [(7, .d (I x)), (8, .d (I ((i : Int) - 1)))],
  [decide ((↑i : Int) ≥ 0) = true,
   (↑i : Int) = (↑i : Int) ∧ (List.map Df.d r.ands)[i]? = some (r.ands.getD i default).d,
   IntKind.i64.wrap ((r.ands.getD i default).lit.tdiv 2) = (r.ands.getD i default).lit / 2,
   (r.ands.getD i default).lit / 2 = (↑((r.ands.getD i default).lit / 2).toNat : Int) ∧ ((r.ands.getD i default).lit / 2).toNat < gl.length,
   gl[((r.ands.getD i default).lit / 2).toNat]? = some (D.bool true),
   (!true) = false,
   IntKind.i64.wrap ((↑i : Int) - 1) = (↑i : Int) - 1]) := by kernel_rfl
theorem p2 : round Tryd.prog wr false O (loopOf Tryd.prog 36 3) (Hp r gl ol [(7, .d (I x)), (8, .d (I i))]) [It.br true, It.el i (r.ands.getD i default).d, It.is ((r.ands.getD i default).lit / 2), It.ix ((r.ands.getD i default).lit / 2).toNat, It.el ((r.ands.getD i default).lit / 2).toNat (D.bool false), It.br true, It.is ((r.ands.getD i default).a / 2), It.ix ((r.ands.getD i default).a / 2).toNat, It.el ((r.ands.getD i default).a / 2).toNat (D.bool false), It.is ((↑i : Int) - 1)] [1, 3, 6, 7, 8] 3 = some (.normal, Hp r gl ol [(7, .d (I x)), (8, .d (I ((i : Int) - 1)))],
  [decide ((↑i : Int) ≥ 0) = true,
   (↑i : Int) = (↑i : Int) ∧ (List.map Df.d r.ands)[i]? = some (r.ands.getD i default).d,
   IntKind.i64.wrap ((r.ands.getD i default).lit.tdiv 2) = (r.ands.getD i default).lit / 2,
   (r.ands.getD i default).lit / 2 = (↑((r.ands.getD i default).lit / 2).toNat : Int) ∧ ((r.ands.getD i default).lit / 2).toNat < gl.length,
   gl[((r.ands.getD i default).lit / 2).toNat]? = some (D.bool false),
   (!false) = true,
   IntKind.i64.wrap ((r.ands.getD i default).a.tdiv 2) = (r.ands.getD i default).a / 2,
   (r.ands.getD i default).a / 2 = (↑((r.ands.getD i default).a / 2).toNat : Int) ∧ ((r.ands.getD i default).a / 2).toNat < gl.length,
   gl[((r.ands.getD i default).a / 2).toNat]? = some (D.bool false),
   IntKind.i64.wrap ((↑i : Int) - 1) = (↑i : Int) - 1]) := by kernel_rfl
theorem p3 : round Tryd.prog wr false O (loopOf Tryd.prog 36 3) (Hp r gl ol [(7, .d (I x)), (8, .d (I i))]) [It.br true, It.el i (r.ands.getD i default).d, It.is ((r.ands.getD i default).lit / 2), It.ix ((r.ands.getD i default).lit / 2).toNat, It.el ((r.ands.getD i default).lit / 2).toNat (D.bool false), It.br true, It.is ((r.ands.getD i default).a / 2), It.ix ((r.ands.getD i default).a / 2).toNat, It.el ((r.ands.getD i default).a / 2).toNat (D.bool true), It.is ((r.ands.getD i default).b / 2), It.ix ((r.ands.getD i default).b / 2).toNat, It.el ((r.ands.getD i default).b / 2).toNat (D.bool false), It.is ((↑i : Int) - 1)] [1, 3, 6, 7, 8] 3 = some (.normal, Hp r gl ol [(7, .d (I x)), (8, .d (I ((i : Int) - 1)))],
  [decide ((↑i : Int) ≥ 0) = true,
   (↑i : Int) = (↑i : Int) ∧ (List.map Df.d r.ands)[i]? = some (r.ands.getD i default).d,
   IntKind.i64.wrap ((r.ands.getD i default).lit.tdiv 2) = (r.ands.getD i default).lit / 2,
   (r.ands.getD i default).lit / 2 = (↑((r.ands.getD i default).lit / 2).toNat : Int) ∧ ((r.ands.getD i default).lit / 2).toNat < gl.length,
   gl[((r.ands.getD i default).lit / 2).toNat]? = some (D.bool false),
   (!false) = true,
   IntKind.i64.wrap ((r.ands.getD i default).a.tdiv 2) = (r.ands.getD i default).a / 2,
   (r.ands.getD i default).a / 2 = (↑((r.ands.getD i default).a / 2).toNat : Int) ∧ ((r.ands.getD i default).a / 2).toNat < gl.length,
   gl[((r.ands.getD i default).a / 2).toNat]? = some (D.bool true),
   IntKind.i64.wrap ((r.ands.getD i default).b.tdiv 2) = (r.ands.getD i default).b / 2,
   (r.ands.getD i default).b / 2 = (↑((r.ands.getD i default).b / 2).toNat : Int) ∧ ((r.ands.getD i default).b / 2).toNat < gl.length,
   gl[((r.ands.getD i default).b / 2).toNat]? = some (D.bool false),
   IntKind.i64.wrap ((↑i : Int) - 1) = (↑i : Int) - 1]) := by kernel_rfl
theorem p4 : round Tryd.prog wr false O (loopOf Tryd.prog 36 3) (Hp r gl ol [(7, .d (I x)), (8, .d (I i))]) [It.br true, It.el i (r.ands.getD i default).d, It.is ((r.ands.getD i default).lit / 2), It.ix ((r.ands.getD i default).lit / 2).toNat, It.el ((r.ands.getD i default).lit / 2).toNat (D.bool false), It.br true, It.is ((r.ands.getD i default).a / 2), It.ix ((r.ands.getD i default).a / 2).toNat, It.el ((r.ands.getD i default).a / 2).toNat (D.bool true), It.is ((r.ands.getD i default).b / 2), It.ix ((r.ands.getD i default).b / 2).toNat, It.el ((r.ands.getD i default).b / 2).toNat (D.bool true), It.is ((↑i : Int) - 1)] [1, 3, 6, 7, 8] 3 = some (.normal, Hp r gl ol [(7, .d (I i)), (8, .d (I ((i : Int) - 1)))],
  [decide ((↑i : Int) ≥ 0) = true,
   (↑i : Int) = (↑i : Int) ∧ (List.map Df.d r.ands)[i]? = some (r.ands.getD i default).d,
   IntKind.i64.wrap ((r.ands.getD i default).lit.tdiv 2) = (r.ands.getD i default).lit / 2,
   (r.ands.getD i default).lit / 2 = (↑((r.ands.getD i default).lit / 2).toNat : Int) ∧ ((r.ands.getD i default).lit / 2).toNat < gl.length,
   gl[((r.ands.getD i default).lit / 2).toNat]? = some (D.bool false),
   (!false) = true,
   IntKind.i64.wrap ((r.ands.getD i default).a.tdiv 2) = (r.ands.getD i default).a / 2,
   (r.ands.getD i default).a / 2 = (↑((r.ands.getD i default).a / 2).toNat : Int) ∧ ((r.ands.getD i default).a / 2).toNat < gl.length,
   gl[((r.ands.getD i default).a / 2).toNat]? = some (D.bool true),
   IntKind.i64.wrap ((r.ands.getD i default).b.tdiv 2) = (r.ands.getD i default).b / 2,
   (r.ands.getD i default).b / 2 = (↑((r.ands.getD i default).b / 2).toNat : Int) ∧ ((r.ands.getD i default).b / 2).toNat < gl.length,
   gl[((r.ands.getD i default).b / 2).toNat]? = some (D.bool true),
   IntKind.i64.wrap ((↑i : Int) - 1) = (↑i : Int) - 1]) := by kernel_rfl
theorem p5 : round Tryd.prog wr false O (loopOf Tryd.prog 36 3) (Hp r gl ol [(7, .d (I x)), (8, .d (I z))]) [It.br false] [1, 3, 6, 7] 3 = some (.exit 6, Hp r gl ol [(7, .d (I x))],
  [decide (z ≥ 0) = false]) := by kernel_rfl
theorem q1 : round Tryd.prog wr false O (loopOf Tryd.prog 36 2) (Hp r gl ol []) [It.br true, It.is ((↑(List.map Df.d r.ands).length : Int) - 1), It.lp [1, 3, 6, 7, 8] (Ex.exit 6) (Hp r gl ol [(7, V.d (I x))]), It.br true] [2] 3 = some (.ret, Eo r gl ol,
  [decide ((↑ol.length : Int) < (↑(List.map Df.d r.ands).length : Int)) = true,
   IntKind.i64.wrap ((↑(List.map Df.d r.ands).length : Int) - 1) = (↑(List.map Df.d r.ands).length : Int) - 1,
   GoesL Tryd.prog (loopOf Tryd.prog 36 3) (⟨mk 99 [(1, V.ptr 0 0), (3, V.arr 1), (6, V.arr 2), (7, V.d (D.int IntKind.i64 (-1))), (8, V.d (D.int IntKind.i64 ((↑(List.map Df.d r.ands).length : Int) - 1)))] [], [B.box [V.d (D.int IntKind.i64 r.most), V.d (D.sl (List.map I r.ins)), V.d (D.sl (List.map Df.d r.lats)), V.d (D.sl (List.map Df.d r.ands)), V.d (D.sl (List.map I r.bads)), V.d (D.sl (List.map I r.cons))], B.lst 4 gl, B.lst 3 ol]⟩) (Ex.exit 6) (Hp r gl ol [(7, V.d (I x))]),
   decide (x < 0) = true]) := by kernel_rfl
theorem q2 : round Tryd.prog wr false O (loopOf Tryd.prog 36 2) (Hp r gl ol []) [It.br true, It.is ((↑(List.map Df.d r.ands).length : Int) - 1), It.lp [1, 3, 6, 7, 8] (Ex.exit 6) (Hp r gl ol [(7, V.d (I x))]), It.br false, It.el x.toNat (r.ands.getD x.toNat default).d, It.is ((r.ands.getD x.toNat default).lit / 2), It.ix ((r.ands.getD x.toNat default).lit / 2).toNat, It.raw, It.raw, It.raw] [1, 3, 6] 3 = some (.normal, Hp r (gl.set ((r.ands.getD x.toNat default).lit / 2).toNat (.bool true)) (ol ++ [I x]) [],
  [decide ((↑ol.length : Int) < (↑(List.map Df.d r.ands).length : Int)) = true,
   IntKind.i64.wrap ((↑(List.map Df.d r.ands).length : Int) - 1) = (↑(List.map Df.d r.ands).length : Int) - 1,
   GoesL Tryd.prog (loopOf Tryd.prog 36 3) (⟨mk 99 [(1, V.ptr 0 0), (3, V.arr 1), (6, V.arr 2), (7, V.d (D.int IntKind.i64 (-1))), (8, V.d (D.int IntKind.i64 ((↑(List.map Df.d r.ands).length : Int) - 1)))] [], [B.box [V.d (D.int IntKind.i64 r.most), V.d (D.sl (List.map I r.ins)), V.d (D.sl (List.map Df.d r.lats)), V.d (D.sl (List.map Df.d r.ands)), V.d (D.sl (List.map I r.bads)), V.d (D.sl (List.map I r.cons))], B.lst 4 gl, B.lst 3 ol]⟩) (Ex.exit 6) (Hp r gl ol [(7, V.d (I x))]),
   decide (x < 0) = false,
   x = (↑x.toNat : Int) ∧ (List.map Df.d r.ands)[x.toNat]? = some (r.ands.getD x.toNat default).d,
   IntKind.i64.wrap ((r.ands.getD x.toNat default).lit.tdiv 2) = (r.ands.getD x.toNat default).lit / 2,
   (r.ands.getD x.toNat default).lit / 2 = (↑((r.ands.getD x.toNat default).lit / 2).toNat : Int) ∧ ((r.ands.getD x.toNat default).lit / 2).toNat < gl.length,
   ol.length + [I x].length ≤ maxItems]) := by kernel_rfl
theorem q3 : round Tryd.prog wr false O (loopOf Tryd.prog 36 2) (Hp r gl ol []) [It.br false] [1, 3, 6] 3 = some (.exit 4, Hp r gl ol [],
  [decide ((↑ol.length : Int) < (↑(List.map Df.d r.ands).length : Int)) = false]) := by kernel_rfl
theorem w1  : callX Tryd.prog wr false O 36 [.d r.d] [] [It.is (r.most + 1), It.len (r.most + 1).toNat, It.lp [1, 2, 3, 4] (Ex.exit 0) (Ho r xs [(2, V.emp true)]), It.lp [1, 2, 3, 5] (Ex.exit 2) (Ho r ys [(2, V.emp true)]), It.lp [1, 3, 6] (Ex.exit 4) (Hp r gl ol [])] = some (V.own 3 ol, [],
  [IntKind.i64.wrap (r.most + 1) = r.most + 1,
   r.most + 1 = (↑(r.most + 1).toNat : Int) ∧ r.most + 1 = (↑(r.most + 1).toNat : Int) ∧ (r.most + 1).toNat ≤ maxItems,
   GoesL Tryd.prog (loopOf Tryd.prog 36 0) (⟨mk 99 [(1, V.ptr 0 0), (2, V.emp true), (3, V.arr 1), (4, V.d (D.int IntKind.i64 0))] [], [B.box [V.d (D.int IntKind.i64 r.most), V.d (D.sl (List.map I r.ins)), V.d (D.sl (List.map Df.d r.lats)), V.d (D.sl (List.map Df.d r.ands)), V.d (D.sl (List.map I r.bads)), V.d (D.sl (List.map I r.cons))], B.lst 4 (List.replicate (r.most + 1).toNat (D.bool false))]⟩) (Ex.exit 0) (Ho r xs [(2, V.emp true)]),
   GoesL Tryd.prog (loopOf Tryd.prog 36 1) (⟨mk 99 [(1, V.ptr 0 0), (2, V.emp true), (3, V.arr 1), (5, V.d (D.int IntKind.i64 0))] [], [B.box [V.d (D.int IntKind.i64 r.most), V.d (D.sl (List.map I r.ins)), V.d (D.sl (List.map Df.d r.lats)), V.d (D.sl (List.map Df.d r.ands)), V.d (D.sl (List.map I r.bads)), V.d (D.sl (List.map I r.cons))], B.lst 4 xs]⟩) (Ex.exit 2) (Ho r ys [(2, V.emp true)]),
   GoesL Tryd.prog (loopOf Tryd.prog 36 2) (⟨mk 99 [(1, V.ptr 0 0), (3, V.arr 1), (6, V.emp true)] [], [B.box [V.d (D.int IntKind.i64 r.most), V.d (D.sl (List.map I r.ins)), V.d (D.sl (List.map Df.d r.lats)), V.d (D.sl (List.map Df.d r.ands)), V.d (D.sl (List.map I r.bads)), V.d (D.sl (List.map I r.cons))], B.lst 4 ys]⟩) (Ex.exit 4) (Hp r gl ol [])]) := by kernel_rfl
theorem w2  : callX Tryd.prog wr false O 36 [.d r.d] [] [It.is (r.most + 1), It.len (r.most + 1).toNat, It.lp [1, 2, 3, 4] (Ex.exit 0) (Ho r xs [(2, V.emp true)]), It.lp [1, 2, 3, 5] (Ex.exit 2) (Ho r ys [(2, V.emp true)]), It.lp [1, 3, 6] Ex.ret (Eo r gl ol)] = some (V.own 3 ol, [],
  [IntKind.i64.wrap (r.most + 1) = r.most + 1,
   r.most + 1 = (↑(r.most + 1).toNat : Int) ∧ r.most + 1 = (↑(r.most + 1).toNat : Int) ∧ (r.most + 1).toNat ≤ maxItems,
   GoesL Tryd.prog (loopOf Tryd.prog 36 0) (⟨mk 99 [(1, V.ptr 0 0), (2, V.emp true), (3, V.arr 1), (4, V.d (D.int IntKind.i64 0))] [], [B.box [V.d (D.int IntKind.i64 r.most), V.d (D.sl (List.map I r.ins)), V.d (D.sl (List.map Df.d r.lats)), V.d (D.sl (List.map Df.d r.ands)), V.d (D.sl (List.map I r.bads)), V.d (D.sl (List.map I r.cons))], B.lst 4 (List.replicate (r.most + 1).toNat (D.bool false))]⟩) (Ex.exit 0) (Ho r xs [(2, V.emp true)]),
   GoesL Tryd.prog (loopOf Tryd.prog 36 1) (⟨mk 99 [(1, V.ptr 0 0), (2, V.emp true), (3, V.arr 1), (5, V.d (D.int IntKind.i64 0))] [], [B.box [V.d (D.int IntKind.i64 r.most), V.d (D.sl (List.map I r.ins)), V.d (D.sl (List.map Df.d r.lats)), V.d (D.sl (List.map Df.d r.ands)), V.d (D.sl (List.map I r.bads)), V.d (D.sl (List.map I r.cons))], B.lst 4 xs]⟩) (Ex.exit 2) (Ho r ys [(2, V.emp true)]),
   GoesL Tryd.prog (loopOf Tryd.prog 36 2) (⟨mk 99 [(1, V.ptr 0 0), (3, V.arr 1), (6, V.emp true)] [], [B.box [V.d (D.int IntKind.i64 r.most), V.d (D.sl (List.map I r.ins)), V.d (D.sl (List.map Df.d r.lats)), V.d (D.sl (List.map Df.d r.ands)), V.d (D.sl (List.map I r.bads)), V.d (D.sl (List.map I r.cons))], B.lst 4 ys]⟩) (Ex.ret) (Eo r gl ol)]) := by kernel_rfl
end
end Go.Proofs.YtihbpbdmhiihnaaDoor.Sy.Ref
/- The reference's Check, round by round. -/
namespace Go.Proofs.YtihbpbdmhiihnaaDoor.Sy.Ref
open Go Go.Proofs.YtihbpbdmhiihnaaDoor.Ab Go.Proofs.YtihbpbdmhiihnaaDoor.Sy
set_option maxRecDepth 1000000
set_option linter.unusedVariables false
def Hc (r : Rw) (tl : List D) (sl : List (Nat × V)) : St := ⟨mk 79 ([(1, .ptr 0 0), (3, .arr 1)] ++ sl) [], [r.box, .lst 3 tl]⟩
def Rc (r : Rw) (tl : List D) (e : Int) : St := ⟨mk 79 [(2, .d (I e))] [], [r.box, .lst 3 tl]⟩
def Hd2 (r : Rw) (tl al : List D) (sl : List (Nat × V)) : St := ⟨mk 79 ([(1, .ptr 0 0), (3, .arr 1), (5, .arr 2)] ++ sl) [], [r.box, .lst 3 tl, .lst 3 al]⟩
def Rd2 (r : Rw) (tl al : List D) (e : Int) : St := ⟨mk 79 [(2, .d (I e))] [], [r.box, .lst 3 tl, .lst 3 al]⟩
section
variable (r : Rw) (x y z : Int) (g : List Int) (i u N : Nat) (gl ol tl al xs ys ml : List D) (a b : List Int)
theorem k1 : round Tryd.prog wr false O (loopOf Tryd.prog 19 0) (Hc r tl [(4, .d (I i))]) [It.br true, It.ix i, It.el i (I x), It.br true] [2] 2 = some (.ret, Rc r tl 43,
  [decide ((↑i : Int) ≤ r.most) = true,
   (↑i : Int) = (↑i : Int) ∧ i < tl.length,
   tl[i]? = some (I x),
   decide (x > 1) = true]) := by kernel_rfl
theorem k2 : round Tryd.prog wr false O (loopOf Tryd.prog 19 0) (Hc r tl [(4, .d (I i))]) [It.br true, It.ix i, It.el i (I x), It.br false, It.is (↑(i + 1) : Int)] [1, 3, 4] 2 = some (.normal, Hc r tl [(4, .d (I (i + 1 : Nat)))],
  [decide ((↑i : Int) ≤ r.most) = true,
   (↑i : Int) = (↑i : Int) ∧ i < tl.length,
   tl[i]? = some (I x),
   decide (x > 1) = false,
   IntKind.i64.wrap ((↑i : Int) + 1) = (↑(i + 1) : Int)]) := by kernel_rfl
theorem k3 : round Tryd.prog wr false O (loopOf Tryd.prog 19 0) (Hc r tl [(4, .d (I i))]) [It.br false] [1, 3] 2 = some (.exit 0, Hc r tl [],
  [decide ((↑i : Int) ≤ r.most) = false]) := by kernel_rfl
theorem k4 : round Tryd.prog wr false O (loopOf Tryd.prog 19 1) (Hd2 r tl (a.map I) [(6, .d (I i))]) [It.br true, It.ix i, It.el i (I (a.getD i default)), It.is (a.getD i default / 2), It.ix (a.getD i default / 2).toNat, It.el (a.getD i default / 2).toNat (I x), It.br true] [2] 3 = some (.ret, Rd2 r tl (a.map I) 46,
  [decide ((↑i : Int) < (↑(List.map I a).length : Int)) = true,
   (↑i : Int) = (↑i : Int) ∧ i < (List.map I a).length,
   (List.map I a)[i]? = some (I (a.getD i default)),
   IntKind.i64.wrap ((a.getD i default).tdiv 2) = a.getD i default / 2,
   a.getD i default / 2 = (↑(a.getD i default / 2).toNat : Int) ∧ (a.getD i default / 2).toNat < tl.length,
   tl[(a.getD i default / 2).toNat]? = some (I x),
   (x == 0) = true]) := by kernel_rfl
theorem k5 : round Tryd.prog wr false O (loopOf Tryd.prog 19 1) (Hd2 r tl (a.map I) [(6, .d (I i))]) [It.br true, It.ix i, It.el i (I (a.getD i default)), It.is (a.getD i default / 2), It.ix (a.getD i default / 2).toNat, It.el (a.getD i default / 2).toNat (I x), It.br false, It.is (↑(i + 1) : Int)] [1, 3, 5, 6] 3 = some (.normal, Hd2 r tl (a.map I) [(6, .d (I (i + 1 : Nat)))],
  [decide ((↑i : Int) < (↑(List.map I a).length : Int)) = true,
   (↑i : Int) = (↑i : Int) ∧ i < (List.map I a).length,
   (List.map I a)[i]? = some (I (a.getD i default)),
   IntKind.i64.wrap ((a.getD i default).tdiv 2) = a.getD i default / 2,
   a.getD i default / 2 = (↑(a.getD i default / 2).toNat : Int) ∧ (a.getD i default / 2).toNat < tl.length,
   tl[(a.getD i default / 2).toNat]? = some (I x),
   (x == 0) = false,
   IntKind.i64.wrap ((↑i : Int) + 1) = (↑(i + 1) : Int)]) := by kernel_rfl
theorem k6 : round Tryd.prog wr false O (loopOf Tryd.prog 19 1) (Hd2 r tl (a.map I) [(6, .d (I i))]) [It.br false] [1, 3, 5] 3 = some (.exit 2, Hd2 r tl (a.map I) [],
  [decide ((↑i : Int) < (↑(List.map I a).length : Int)) = false]) := by kernel_rfl
theorem c1  : callX Tryd.prog wr false O 19 [.d r.d] [] [It.br true] = some (V.d (D.int IntKind.i64 8), [],
  [decide (r.most < 0) = true]) := by kernel_rfl
theorem c2  : callX Tryd.prog wr false O 19 [.d r.d] [] [It.br false, It.br true] = some (V.d (D.int IntKind.i64 4), [],
  [decide (r.most < 0) = false,
   decide (r.most > 1000) = true]) := by kernel_rfl
theorem c3  : callX Tryd.prog wr false O 19 [.d r.d] [] [It.br false, It.br false, It.is (↑((List.map I r.ins).length + (List.map Df.d r.lats).length) : Int), It.is (↑((List.map I r.ins).length + (List.map Df.d r.lats).length + (List.map Df.d r.ands).length) : Int), It.br true] = some (V.d (D.int IntKind.i64 4), [],
  [decide (r.most < 0) = false,
   decide (r.most > 1000) = false,
   IntKind.i64.wrap ((↑(List.map I r.ins).length : Int) + (↑(List.map Df.d r.lats).length : Int)) = (↑((List.map I r.ins).length + (List.map Df.d r.lats).length) : Int),
   IntKind.i64.wrap ((↑((List.map I r.ins).length + (List.map Df.d r.lats).length) : Int) + (↑(List.map Df.d r.ands).length : Int)) = (↑((List.map I r.ins).length + (List.map Df.d r.lats).length + (List.map Df.d r.ands).length) : Int),
   decide ((↑((List.map I r.ins).length + (List.map Df.d r.lats).length + (List.map Df.d r.ands).length) : Int) > 1000) = true]) := by kernel_rfl
theorem c4  : callX Tryd.prog wr false O 19 [.d r.d] [] [It.br false, It.br false, It.is (↑((List.map I r.ins).length + (List.map Df.d r.lats).length) : Int), It.is (↑((List.map I r.ins).length + (List.map Df.d r.lats).length + (List.map Df.d r.ands).length) : Int), It.br false, It.br true] = some (V.d (D.int IntKind.i64 4), [],
  [decide (r.most < 0) = false,
   decide (r.most > 1000) = false,
   IntKind.i64.wrap ((↑(List.map I r.ins).length : Int) + (↑(List.map Df.d r.lats).length : Int)) = (↑((List.map I r.ins).length + (List.map Df.d r.lats).length) : Int),
   IntKind.i64.wrap ((↑((List.map I r.ins).length + (List.map Df.d r.lats).length) : Int) + (↑(List.map Df.d r.ands).length : Int)) = (↑((List.map I r.ins).length + (List.map Df.d r.lats).length + (List.map Df.d r.ands).length) : Int),
   decide ((↑((List.map I r.ins).length + (List.map Df.d r.lats).length + (List.map Df.d r.ands).length) : Int) > 1000) = false,
   decide ((↑(List.map I r.bads).length : Int) > 100) = true]) := by kernel_rfl
theorem c5  : callX Tryd.prog wr false O 19 [.d r.d] [] [It.br false, It.br false, It.is (↑((List.map I r.ins).length + (List.map Df.d r.lats).length) : Int), It.is (↑((List.map I r.ins).length + (List.map Df.d r.lats).length + (List.map Df.d r.ands).length) : Int), It.br false, It.br false, It.br true] = some (V.d (D.int IntKind.i64 4), [],
  [decide (r.most < 0) = false,
   decide (r.most > 1000) = false,
   IntKind.i64.wrap ((↑(List.map I r.ins).length : Int) + (↑(List.map Df.d r.lats).length : Int)) = (↑((List.map I r.ins).length + (List.map Df.d r.lats).length) : Int),
   IntKind.i64.wrap ((↑((List.map I r.ins).length + (List.map Df.d r.lats).length) : Int) + (↑(List.map Df.d r.ands).length : Int)) = (↑((List.map I r.ins).length + (List.map Df.d r.lats).length + (List.map Df.d r.ands).length) : Int),
   decide ((↑((List.map I r.ins).length + (List.map Df.d r.lats).length + (List.map Df.d r.ands).length) : Int) > 1000) = false,
   decide ((↑(List.map I r.bads).length : Int) > 100) = false,
   decide ((↑(List.map I r.cons).length : Int) > 100) = true]) := by kernel_rfl
theorem c6  : callX Tryd.prog wr false O 19 [.d r.d] [] [It.br false, It.br false, It.is (↑((List.map I r.ins).length + (List.map Df.d r.lats).length) : Int), It.is (↑((List.map I r.ins).length + (List.map Df.d r.lats).length + (List.map Df.d r.ands).length) : Int), It.br false, It.br false, It.br false, It.icall [] (V.d (D.bool false)) [], It.br true] = some (V.d (D.int IntKind.i64 8), [],
  [decide (r.most < 0) = false,
   decide (r.most > 1000) = false,
   IntKind.i64.wrap ((↑(List.map I r.ins).length : Int) + (↑(List.map Df.d r.lats).length : Int)) = (↑((List.map I r.ins).length + (List.map Df.d r.lats).length) : Int),
   IntKind.i64.wrap ((↑((List.map I r.ins).length + (List.map Df.d r.lats).length) : Int) + (↑(List.map Df.d r.ands).length : Int)) = (↑((List.map I r.ins).length + (List.map Df.d r.lats).length + (List.map Df.d r.ands).length) : Int),
   decide ((↑((List.map I r.ins).length + (List.map Df.d r.lats).length + (List.map Df.d r.ands).length) : Int) > 1000) = false,
   decide ((↑(List.map I r.bads).length : Int) > 100) = false,
   decide ((↑(List.map I r.cons).length : Int) > 100) = false,
   ICall Tryd.prog 33 [V.d (D.agg [I r.most, L r.ins, D.sl (List.map Df.d r.lats), D.sl (List.map Df.d r.ands), L r.bads, L r.cons])] [] (V.d (D.bool false)) [],
   (!false) = true]) := by kernel_rfl
theorem c7  : callX Tryd.prog wr false O 19 [.d r.d] [] [It.br false, It.br false, It.is (↑((List.map I r.ins).length + (List.map Df.d r.lats).length) : Int), It.is (↑((List.map I r.ins).length + (List.map Df.d r.lats).length + (List.map Df.d r.ands).length) : Int), It.br false, It.br false, It.br false, It.icall [] (V.d (D.bool true)) [], It.br false, It.icall [] (V.own 3 tl) [], It.lp [1, 3, 4] Ex.ret (Rc r tl 43)] = some (V.d (D.int IntKind.i64 43), [],
  [decide (r.most < 0) = false,
   decide (r.most > 1000) = false,
   IntKind.i64.wrap ((↑(List.map I r.ins).length : Int) + (↑(List.map Df.d r.lats).length : Int)) = (↑((List.map I r.ins).length + (List.map Df.d r.lats).length) : Int),
   IntKind.i64.wrap ((↑((List.map I r.ins).length + (List.map Df.d r.lats).length) : Int) + (↑(List.map Df.d r.ands).length : Int)) = (↑((List.map I r.ins).length + (List.map Df.d r.lats).length + (List.map Df.d r.ands).length) : Int),
   decide ((↑((List.map I r.ins).length + (List.map Df.d r.lats).length + (List.map Df.d r.ands).length) : Int) > 1000) = false,
   decide ((↑(List.map I r.bads).length : Int) > 100) = false,
   decide ((↑(List.map I r.cons).length : Int) > 100) = false,
   ICall Tryd.prog 33 [V.d (D.agg [I r.most, L r.ins, D.sl (List.map Df.d r.lats), D.sl (List.map Df.d r.ands), L r.bads, L r.cons])] [] (V.d (D.bool true)) [],
   (!true) = false,
   ICall Tryd.prog 34 [V.d (D.agg [I r.most, L r.ins, D.sl (List.map Df.d r.lats), D.sl (List.map Df.d r.ands), L r.bads, L r.cons])] [] (V.own 3 tl) [],
   GoesL Tryd.prog (loopOf Tryd.prog 19 0) (⟨mk 79 [(1, V.ptr 0 0), (3, V.arr 1), (4, V.d (D.int IntKind.i64 0))] [], [B.box [V.d (D.int IntKind.i64 r.most), V.d (D.sl (List.map I r.ins)), V.d (D.sl (List.map Df.d r.lats)), V.d (D.sl (List.map Df.d r.ands)), V.d (D.sl (List.map I r.bads)), V.d (D.sl (List.map I r.cons))], B.lst 3 tl]⟩) (Ex.ret) (Rc r tl 43)]) := by kernel_rfl
theorem c8  : callX Tryd.prog wr false O 19 [.d r.d] [] [It.br false, It.br false, It.is (↑((List.map I r.ins).length + (List.map Df.d r.lats).length) : Int), It.is (↑((List.map I r.ins).length + (List.map Df.d r.lats).length + (List.map Df.d r.ands).length) : Int), It.br false, It.br false, It.br false, It.icall [] (V.d (D.bool true)) [], It.br false, It.icall [] (V.own 3 tl) [], It.lp [1, 3, 4] (Ex.exit 0) (Hc r tl []), It.icall [] (V.own 3 (List.map I a)) [], It.lp [1, 3, 5, 6] Ex.ret (Rd2 r tl (List.map I a) 46)] = some (V.d (D.int IntKind.i64 46), [],
  [decide (r.most < 0) = false,
   decide (r.most > 1000) = false,
   IntKind.i64.wrap ((↑(List.map I r.ins).length : Int) + (↑(List.map Df.d r.lats).length : Int)) = (↑((List.map I r.ins).length + (List.map Df.d r.lats).length) : Int),
   IntKind.i64.wrap ((↑((List.map I r.ins).length + (List.map Df.d r.lats).length) : Int) + (↑(List.map Df.d r.ands).length : Int)) = (↑((List.map I r.ins).length + (List.map Df.d r.lats).length + (List.map Df.d r.ands).length) : Int),
   decide ((↑((List.map I r.ins).length + (List.map Df.d r.lats).length + (List.map Df.d r.ands).length) : Int) > 1000) = false,
   decide ((↑(List.map I r.bads).length : Int) > 100) = false,
   decide ((↑(List.map I r.cons).length : Int) > 100) = false,
   ICall Tryd.prog 33 [V.d (D.agg [I r.most, L r.ins, D.sl (List.map Df.d r.lats), D.sl (List.map Df.d r.ands), L r.bads, L r.cons])] [] (V.d (D.bool true)) [],
   (!true) = false,
   ICall Tryd.prog 34 [V.d (D.agg [I r.most, L r.ins, D.sl (List.map Df.d r.lats), D.sl (List.map Df.d r.ands), L r.bads, L r.cons])] [] (V.own 3 tl) [],
   GoesL Tryd.prog (loopOf Tryd.prog 19 0) (⟨mk 79 [(1, V.ptr 0 0), (3, V.arr 1), (4, V.d (D.int IntKind.i64 0))] [], [B.box [V.d (D.int IntKind.i64 r.most), V.d (D.sl (List.map I r.ins)), V.d (D.sl (List.map Df.d r.lats)), V.d (D.sl (List.map Df.d r.ands)), V.d (D.sl (List.map I r.bads)), V.d (D.sl (List.map I r.cons))], B.lst 3 tl]⟩) (Ex.exit 0) (Hc r tl []),
   ICall Tryd.prog 35 [V.d (D.agg [I r.most, L r.ins, D.sl (List.map Df.d r.lats), D.sl (List.map Df.d r.ands), L r.bads, L r.cons])] [] (V.own 3 (List.map I a)) [],
   GoesL Tryd.prog (loopOf Tryd.prog 19 1) (⟨mk 79 [(1, V.ptr 0 0), (3, V.arr 1), (5, V.arr 2), (6, V.d (D.int IntKind.i64 0))] [], [B.box [V.d (D.int IntKind.i64 r.most), V.d (D.sl (List.map I r.ins)), V.d (D.sl (List.map Df.d r.lats)), V.d (D.sl (List.map Df.d r.ands)), V.d (D.sl (List.map I r.bads)), V.d (D.sl (List.map I r.cons))], B.lst 3 tl, B.lst 3 (List.map I a)]⟩) (Ex.ret) (Rd2 r tl (List.map I a) 46)]) := by kernel_rfl
theorem c9  : callX Tryd.prog wr false O 19 [.d r.d] [] [It.br false, It.br false, It.is (↑((List.map I r.ins).length + (List.map Df.d r.lats).length) : Int), It.is (↑((List.map I r.ins).length + (List.map Df.d r.lats).length + (List.map Df.d r.ands).length) : Int), It.br false, It.br false, It.br false, It.icall [] (V.d (D.bool true)) [], It.br false, It.icall [] (V.own 3 tl) [], It.lp [1, 3, 4] (Ex.exit 0) (Hc r tl []), It.icall [] (V.own 3 (List.map I a)) [], It.lp [1, 3, 5, 6] (Ex.exit 2) (Hd2 r tl (List.map I a) []), It.icall [] (V.own 3 (List.map I b)) [], It.br true] = some (V.d (D.int IntKind.i64 41), [],
  [decide (r.most < 0) = false,
   decide (r.most > 1000) = false,
   IntKind.i64.wrap ((↑(List.map I r.ins).length : Int) + (↑(List.map Df.d r.lats).length : Int)) = (↑((List.map I r.ins).length + (List.map Df.d r.lats).length) : Int),
   IntKind.i64.wrap ((↑((List.map I r.ins).length + (List.map Df.d r.lats).length) : Int) + (↑(List.map Df.d r.ands).length : Int)) = (↑((List.map I r.ins).length + (List.map Df.d r.lats).length + (List.map Df.d r.ands).length) : Int),
   decide ((↑((List.map I r.ins).length + (List.map Df.d r.lats).length + (List.map Df.d r.ands).length) : Int) > 1000) = false,
   decide ((↑(List.map I r.bads).length : Int) > 100) = false,
   decide ((↑(List.map I r.cons).length : Int) > 100) = false,
   ICall Tryd.prog 33 [V.d (D.agg [I r.most, L r.ins, D.sl (List.map Df.d r.lats), D.sl (List.map Df.d r.ands), L r.bads, L r.cons])] [] (V.d (D.bool true)) [],
   (!true) = false,
   ICall Tryd.prog 34 [V.d (D.agg [I r.most, L r.ins, D.sl (List.map Df.d r.lats), D.sl (List.map Df.d r.ands), L r.bads, L r.cons])] [] (V.own 3 tl) [],
   GoesL Tryd.prog (loopOf Tryd.prog 19 0) (⟨mk 79 [(1, V.ptr 0 0), (3, V.arr 1), (4, V.d (D.int IntKind.i64 0))] [], [B.box [V.d (D.int IntKind.i64 r.most), V.d (D.sl (List.map I r.ins)), V.d (D.sl (List.map Df.d r.lats)), V.d (D.sl (List.map Df.d r.ands)), V.d (D.sl (List.map I r.bads)), V.d (D.sl (List.map I r.cons))], B.lst 3 tl]⟩) (Ex.exit 0) (Hc r tl []),
   ICall Tryd.prog 35 [V.d (D.agg [I r.most, L r.ins, D.sl (List.map Df.d r.lats), D.sl (List.map Df.d r.ands), L r.bads, L r.cons])] [] (V.own 3 (List.map I a)) [],
   GoesL Tryd.prog (loopOf Tryd.prog 19 1) (⟨mk 79 [(1, V.ptr 0 0), (3, V.arr 1), (5, V.arr 2), (6, V.d (D.int IntKind.i64 0))] [], [B.box [V.d (D.int IntKind.i64 r.most), V.d (D.sl (List.map I r.ins)), V.d (D.sl (List.map Df.d r.lats)), V.d (D.sl (List.map Df.d r.ands)), V.d (D.sl (List.map I r.bads)), V.d (D.sl (List.map I r.cons))], B.lst 3 tl, B.lst 3 (List.map I a)]⟩) (Ex.exit 2) (Hd2 r tl (List.map I a) []),
   ICall Tryd.prog 36 [V.d (D.agg [I r.most, L r.ins, D.sl (List.map Df.d r.lats), D.sl (List.map Df.d r.ands), L r.bads, L r.cons])] [] (V.own 3 (List.map I b)) [],
   decide ((↑(List.map I b).length : Int) < (↑(List.map Df.d r.ands).length : Int)) = true]) := by kernel_rfl
theorem c10  : callX Tryd.prog wr false O 19 [.d r.d] [] [It.br false, It.br false, It.is (↑((List.map I r.ins).length + (List.map Df.d r.lats).length) : Int), It.is (↑((List.map I r.ins).length + (List.map Df.d r.lats).length + (List.map Df.d r.ands).length) : Int), It.br false, It.br false, It.br false, It.icall [] (V.d (D.bool true)) [], It.br false, It.icall [] (V.own 3 tl) [], It.lp [1, 3, 4] (Ex.exit 0) (Hc r tl []), It.icall [] (V.own 3 (List.map I a)) [], It.lp [1, 3, 5, 6] (Ex.exit 2) (Hd2 r tl (List.map I a) []), It.icall [] (V.own 3 (List.map I b)) [], It.br false] = some (V.d (D.int IntKind.i64 0), [],
  [decide (r.most < 0) = false,
   decide (r.most > 1000) = false,
   IntKind.i64.wrap ((↑(List.map I r.ins).length : Int) + (↑(List.map Df.d r.lats).length : Int)) = (↑((List.map I r.ins).length + (List.map Df.d r.lats).length) : Int),
   IntKind.i64.wrap ((↑((List.map I r.ins).length + (List.map Df.d r.lats).length) : Int) + (↑(List.map Df.d r.ands).length : Int)) = (↑((List.map I r.ins).length + (List.map Df.d r.lats).length + (List.map Df.d r.ands).length) : Int),
   decide ((↑((List.map I r.ins).length + (List.map Df.d r.lats).length + (List.map Df.d r.ands).length) : Int) > 1000) = false,
   decide ((↑(List.map I r.bads).length : Int) > 100) = false,
   decide ((↑(List.map I r.cons).length : Int) > 100) = false,
   ICall Tryd.prog 33 [V.d (D.agg [I r.most, L r.ins, D.sl (List.map Df.d r.lats), D.sl (List.map Df.d r.ands), L r.bads, L r.cons])] [] (V.d (D.bool true)) [],
   (!true) = false,
   ICall Tryd.prog 34 [V.d (D.agg [I r.most, L r.ins, D.sl (List.map Df.d r.lats), D.sl (List.map Df.d r.ands), L r.bads, L r.cons])] [] (V.own 3 tl) [],
   GoesL Tryd.prog (loopOf Tryd.prog 19 0) (⟨mk 79 [(1, V.ptr 0 0), (3, V.arr 1), (4, V.d (D.int IntKind.i64 0))] [], [B.box [V.d (D.int IntKind.i64 r.most), V.d (D.sl (List.map I r.ins)), V.d (D.sl (List.map Df.d r.lats)), V.d (D.sl (List.map Df.d r.ands)), V.d (D.sl (List.map I r.bads)), V.d (D.sl (List.map I r.cons))], B.lst 3 tl]⟩) (Ex.exit 0) (Hc r tl []),
   ICall Tryd.prog 35 [V.d (D.agg [I r.most, L r.ins, D.sl (List.map Df.d r.lats), D.sl (List.map Df.d r.ands), L r.bads, L r.cons])] [] (V.own 3 (List.map I a)) [],
   GoesL Tryd.prog (loopOf Tryd.prog 19 1) (⟨mk 79 [(1, V.ptr 0 0), (3, V.arr 1), (5, V.arr 2), (6, V.d (D.int IntKind.i64 0))] [], [B.box [V.d (D.int IntKind.i64 r.most), V.d (D.sl (List.map I r.ins)), V.d (D.sl (List.map Df.d r.lats)), V.d (D.sl (List.map Df.d r.ands)), V.d (D.sl (List.map I r.bads)), V.d (D.sl (List.map I r.cons))], B.lst 3 tl, B.lst 3 (List.map I a)]⟩) (Ex.exit 2) (Hd2 r tl (List.map I a) []),
   ICall Tryd.prog 36 [V.d (D.agg [I r.most, L r.ins, D.sl (List.map Df.d r.lats), D.sl (List.map Df.d r.ands), L r.bads, L r.cons])] [] (V.own 3 (List.map I b)) [],
   decide ((↑(List.map I b).length : Int) < (↑(List.map Df.d r.ands).length : Int)) = false]) := by kernel_rfl
end
end Go.Proofs.YtihbpbdmhiihnaaDoor.Sy.Ref
/- The reference's lists, numbers and Times, whole. -/
namespace Go.Proofs.YtihbpbdmhiihnaaDoor.Sy.Ref
open Go Go.Proofs.YtihbpbdmhiihnaaDoor.Ab Go.Proofs.YtihbpbdmhiihnaaDoor.Sy Go.Proofs.YtihbpbdmhiihnaaDoor.Pl
set_option maxRecDepth 1000000
set_option linter.unusedVariables false
/-- A raw circuit that is not great. -/
structure Sm (r : Rw) : Prop where
  ins : r.ins.length ≤ 2000
  lats : r.lats.length ≤ 2000
  ands : r.ands.length ≤ 2000
  bads : r.bads.length ≤ 2000
  cons : r.cons.length ≤ 2000
  defs : ∀ x ∈ Def.defs r, x ≤ 9223372036854775807
  uses : ∀ x ∈ Def.uses r, x ≤ 9223372036854775807
theorem Sm.wf {r : Rw} (h : Sm r) : Cir.Wf r := ⟨⟨by have := h.ins; omega, by have := h.lats; omega, by have := h.ands; omega, by have := h.bads; omega, by have := h.cons; omega⟩, h.defs, h.uses⟩
section
variable {c : Code}
/-- A list behind which up to two things are put for each element. -/
theorem flat_loop {α : Type} [Inhabited α] (xs : List α) (H : Nat → List D → St) (e0 : Ex) (E : List D → St) (f : α → List D) (acc0 : List D) (hf : ∀ x, (f x).length ≤ 2)
    (hs : ∀ i acc, i < xs.length → acc.length ≤ acc0.length + 2 * i → ∀ e s, GoesL Tryd.prog c (H (i + 1) (acc ++ f (xs.getD i default))) e s → GoesL Tryd.prog c (H i acc) e s)
    (he : ∀ acc, GoesL Tryd.prog c (H xs.length acc) e0 (E acc)) : GoesL Tryd.prog c (H 0 acc0) e0 (E (acc0 ++ xs.flatMap f)) := by
  have key : ∀ (d i : Nat) (acc : List D), xs.length - i = d → i ≤ xs.length → acc.length ≤ acc0.length + 2 * i → GoesL Tryd.prog c (H i acc) e0 (E (acc ++ (xs.drop i).flatMap f)) := by
    intro d
    induction d with
    | zero =>
      intro i acc hd hi hl
      obtain rfl : i = xs.length := by omega
      rw [List.drop_length, List.flatMap_nil, List.append_nil]
      exact he acc
    | succ d ih =>
      intro i acc hd hi hl
      refine hs i acc (by omega) hl _ _ ?_
      rw [drop_getD xs i (by omega), List.flatMap_cons, ← List.append_assoc]
      exact ih (i + 1) (acc ++ f (xs.getD i default)) (by omega) (by omega) (by rw [List.length_append]; have := hf (xs.getD i default); omega)
  exact key _ 0 acc0 rfl (Nat.zero_le _) (by omega)
end
theorem defined {r : Rw} (h : Sm r) : ICall Tryd.prog 53 [.d r.d] [] (.own 3 ((Def.defs r).map I)) [] := by
  have h1 := h.ins
  have h2 := h.lats
  have h3 := h.ands
  have l1 := flat_loop r.lats (fun i xs => Hd r xs [(4, .d (I i))]) (.exit 0) (fun xs => Hd r xs []) (fun d => [I d.lit]) (r.ins.map I) (fun _ => by simp)
    (fun i acc hi hl e s hh => .step hO hm (d1 r i acc) ⟨decide_eq_true (by rw [List.length_map]; omega), ⟨rfl, get_map Df.d r.lats i hi⟩, Nat.le_trans (show _ ≤ 100000 by rw [List.length_map] at hl; simp; omega) (by decide), wrap_succ (by omega)⟩ hh)
    (fun acc => .stop hO hm (d2 r r.lats.length acc) (by simp) (decide_eq_false (by rw [List.length_map]; omega)))
  have l2 := flat_loop r.ands (fun i xs => Hd r xs [(5, .d (I i))]) (.exit 2) (fun xs => Hd r xs []) (fun d => [I d.lit]) (r.ins.map I ++ r.lats.flatMap (fun d => [I d.lit])) (fun _ => by simp)
    (fun i acc hi hl e s hh => .step hO hm (d3 r i acc) ⟨decide_eq_true (by rw [List.length_map]; omega), ⟨rfl, get_map Df.d r.ands i hi⟩, Nat.le_trans (show _ ≤ 100000 by rw [flat_one, List.length_append, List.length_map, List.length_map] at hl; simp; omega) (by decide), wrap_succ (by omega)⟩ hh)
    (fun acc => .stop hO hm (d4 r r.ands.length acc) (by simp) (decide_eq_false (by rw [List.length_map]; omega)))
  have := callX_ok hO hm (d5 r _ _) ⟨LInt.sz _, Nat.le_trans (show _ ≤ 100000 by rw [List.length_map]; omega) (by decide), l1, l2⟩
  rw [flat_one, flat_one] at this
  unfold Def.defs
  rwa [List.map_append, List.map_append, List.map_append, List.map_map, List.map_map, ← List.append_assoc]
theorem used {r : Rw} (h : Sm r) : ICall Tryd.prog 35 [.d r.d] [] (.own 3 ((Def.uses r).map I)) [] := by
  have h1 := h.bads
  have h0 := h.cons
  have h2 := h.lats
  have h3 := h.ands
  have l1 := flat_loop r.lats (fun i xs => Hu r xs [(4, .d (I i))]) (.exit 0) (fun xs => Hu r xs []) (fun d => [I d.a]) (r.bads.map I ++ r.cons.map I) (fun _ => by simp)
    (fun i acc hi hl e s hh => .step hO hm (u1 r i acc) ⟨decide_eq_true (by rw [List.length_map]; omega), ⟨rfl, get_map Df.d r.lats i hi⟩, Nat.le_trans (show _ ≤ 100000 by rw [List.length_append, List.length_map, List.length_map] at hl; simp; omega) (by decide), wrap_succ (by omega)⟩ hh)
    (fun acc => .stop hO hm (u2 r r.lats.length acc) (by simp) (decide_eq_false (by rw [List.length_map]; omega)))
  have l2 := flat_loop r.ands (fun i xs => Hu r xs [(5, .d (I i))]) (.exit 2) (fun xs => Hu r xs []) (fun d => [I d.a, I d.b]) (r.bads.map I ++ r.cons.map I ++ r.lats.flatMap (fun d => [I d.a])) (fun _ => by simp)
    (fun i acc hi hl e s hh => .step hO hm (u3 r i acc) ⟨decide_eq_true (by rw [List.length_map]; omega), ⟨rfl, get_map Df.d r.ands i hi⟩, ⟨rfl, get_map Df.d r.ands i hi⟩, Nat.le_trans (show _ ≤ 100000 by rw [flat_one, List.length_append, List.length_append, List.length_map, List.length_map, List.length_map] at hl; simp; omega) (by decide), wrap_succ (by omega)⟩ hh)
    (fun acc => .stop hO hm (u4 r r.ands.length acc) (by simp) (decide_eq_false (by rw [List.length_map]; omega)))
  have := callX_ok hO hm (u5 r _ _) ⟨LInt.sz _, Nat.le_trans (show _ ≤ 100000 by rw [List.length_map]; omega) (by decide), LInt.sz _, Nat.le_trans (show _ ≤ 100000 by rw [List.length_map, List.length_map]; omega) (by decide), l1, l2⟩
  rw [flat_one] at this
  unfold Def.uses
  rw [List.map_append, List.map_append, List.map_append, List.map_map, List.map_flatMap]
  exact this
theorem badAny_eq (r : Rw) : badAny r.most r.ins r.lats r.ands r.bads r.cons = ((Def.defs r).any (badOwn r.most) || (Def.uses r).any (badUse r.most) || r.lats.any badRe) := by rw [own_defs]; rfl
theorem numbers {r : Rw} (h : Sm r) (hm0 : 0 ≤ r.most ∧ r.most ≤ 1000) : ICall Tryd.prog 33 [.d r.d] [] (.d (.bool (!badAny r.most r.ins r.lats r.ands r.bads r.cons))) [] := by
  have hd := defined h
  have hu := used h
  have h1 := h.ins
  have h2 := h.lats
  have h3 := h.ands
  have h4 := h.bads
  have h5 := h.cons
  have hl1 : (Def.defs r).length ≤ 10000 := by unfold Def.defs; simp; omega
  have hl2 : (Def.uses r).length ≤ 20000 := by rw [use_uses, use_len]; omega
  have w1 : IntKind.i64.wrap (2 * r.most) = 2 * r.most := wrap_id (by omega) (by omega)
  have w2 : IntKind.i64.wrap (2 * r.most + 1) = 2 * r.most + 1 := wrap_id (by omega) (by omega)
  obtain ⟨a1, a2⟩ := any_loop (c := loopOf Tryd.prog 33 0) (Def.defs r) (fun i => Hn r (Def.defs r) (Def.uses r) [(5, .d (I i))]) .ret (.exit 0) (Rn r (Def.defs r) (Def.uses r)) (Hn r (Def.defs r) (Def.uses r) []) (badOwn r.most)
    (fun i hi hb => by
      unfold badOwn at hb
      have g0 : decide ((i : Int) < (((Def.defs r).map I).length : Nat)) = true := decide_eq_true (by rw [List.length_map]; omega)
      have g1 : (i : Int) = (i : Int) ∧ i < ((Def.defs r).map I).length := ⟨rfl, by rw [List.length_map]; exact hi⟩
      have g2 := get_map I (Def.defs r) i hi
      have k1 := n1 r i (Def.defs r) (Def.uses r)
      have k2 := n2 r i (Def.defs r) (Def.uses r)
      have k3 := n3 r i (Def.defs r) (Def.uses r)
      generalize (Def.defs r).getD i default = x at hb g2 k1 k2 k3
      by_cases c1 : x < 2
      · exact .stop hO hm k1 (by simp) ⟨g0, g1, g2, decide_eq_true c1⟩
      have hm2 : x.tmod 2 = x % 2 := rem2 (by omega)
      cases c2 : x % 2 == 1 with
      | true => exact .stop hO hm k2 (by simp) ⟨g0, g1, g2, decide_eq_false c1, g1, g2, hm2, c2⟩
      | false =>
        rw [hm2, c2, decide_eq_false c1] at hb
        exact .stop hO hm k3 (by simp) ⟨g0, g1, g2, decide_eq_false c1, g1, g2, hm2, c2, g1, g2, w1, w2, by simpa [AllP] using hb⟩)
    (fun i hi hb e s hh => by
      unfold badOwn at hb
      have g0 : decide ((i : Int) < (((Def.defs r).map I).length : Nat)) = true := decide_eq_true (by rw [List.length_map]; omega)
      have g1 : (i : Int) = (i : Int) ∧ i < ((Def.defs r).map I).length := ⟨rfl, by rw [List.length_map]; exact hi⟩
      have g2 := get_map I (Def.defs r) i hi
      have k4 := n4 r i (Def.defs r) (Def.uses r)
      generalize (Def.defs r).getD i default = x at hb g2 k4
      rw [Bool.or_eq_false_iff, Bool.or_eq_false_iff] at hb
      have c1 := of_decide_eq_false hb.1.1
      have hm2 : x.tmod 2 = x % 2 := rem2 (by omega)
      exact .step hO hm k4 ⟨g0, g1, g2, hb.1.1, g1, g2, hm2, hm2 ▸ hb.1.2, g1, g2, w1, w2, hb.2, wrap_succ (by omega)⟩ hh)
    (.stop hO hm (n5 r _ (Def.defs r) (Def.uses r)) (by simp) (decide_eq_false (by rw [List.length_map]; omega))) _ 0 rfl (Nat.zero_le _)
  obtain ⟨b1, b2⟩ := any_loop (c := loopOf Tryd.prog 33 1) (Def.uses r) (fun i => Hn r (Def.defs r) (Def.uses r) [(6, .d (I i))]) .ret (.exit 2) (Rn r (Def.defs r) (Def.uses r)) (Hn r (Def.defs r) (Def.uses r) []) (badUse r.most)
    (fun i hi hb => by
      unfold badUse at hb
      have g0 : decide ((i : Int) < (((Def.uses r).map I).length : Nat)) = true := decide_eq_true (by rw [List.length_map]; omega)
      have g1 : (i : Int) = (i : Int) ∧ i < ((Def.uses r).map I).length := ⟨rfl, by rw [List.length_map]; exact hi⟩
      have g2 := get_map I (Def.uses r) i hi
      have k6 := n6 r i (Def.defs r) (Def.uses r)
      have k7 := n7 r i (Def.defs r) (Def.uses r)
      generalize (Def.uses r).getD i default = x at hb g2 k6 k7
      by_cases c1 : x < 0
      · exact .stop hO hm k6 (by simp) ⟨g0, g1, g2, decide_eq_true c1⟩
      rw [decide_eq_false c1] at hb
      exact .stop hO hm k7 (by simp) ⟨g0, g1, g2, decide_eq_false c1, g1, g2, w1, w2, by simpa [AllP] using hb⟩)
    (fun i hi hb e s hh => by
      unfold badUse at hb
      have g0 : decide ((i : Int) < (((Def.uses r).map I).length : Nat)) = true := decide_eq_true (by rw [List.length_map]; omega)
      have g1 : (i : Int) = (i : Int) ∧ i < ((Def.uses r).map I).length := ⟨rfl, by rw [List.length_map]; exact hi⟩
      have g2 := get_map I (Def.uses r) i hi
      have k8 := n8 r i (Def.defs r) (Def.uses r)
      generalize (Def.uses r).getD i default = x at hb g2 k8
      rw [Bool.or_eq_false_iff] at hb
      exact .step hO hm k8 ⟨g0, g1, g2, hb.1, g1, g2, w1, w2, hb.2, wrap_succ (by omega)⟩ hh)
    (.stop hO hm (n9 r _ (Def.defs r) (Def.uses r)) (by simp) (decide_eq_false (by rw [List.length_map]; omega))) _ 0 rfl (Nat.zero_le _)
  obtain ⟨e1, e2⟩ := any_loop (c := loopOf Tryd.prog 33 2) r.lats (fun i => Hn r (Def.defs r) (Def.uses r) [(7, .d (I i))]) .ret (.exit 4) (Rn r (Def.defs r) (Def.uses r)) (Hn r (Def.defs r) (Def.uses r) []) badRe
    (fun i hi hb => by
      unfold badRe at hb
      have g0 : decide ((i : Int) < ((r.lats.map Df.d).length : Nat)) = true := decide_eq_true (by rw [List.length_map]; omega)
      have g2 := get_map Df.d r.lats i hi
      by_cases c1 : (r.lats.getD i default).b < 0
      · exact .stop hO hm (n10 r i (Def.defs r) (Def.uses r)) (by simp) ⟨g0, ⟨rfl, g2⟩, decide_eq_true c1⟩
      rw [decide_eq_false c1] at hb
      exact .stop hO hm (n11 r i (Def.defs r) (Def.uses r)) (by simp) ⟨g0, ⟨rfl, g2⟩, decide_eq_false c1, ⟨rfl, g2⟩, by simpa [AllP] using hb⟩)
    (fun i hi hb e s hh => by
      unfold badRe at hb
      have g0 : decide ((i : Int) < ((r.lats.map Df.d).length : Nat)) = true := decide_eq_true (by rw [List.length_map]; omega)
      have g2 := get_map Df.d r.lats i hi
      rw [Bool.or_eq_false_iff] at hb
      exact .step hO hm (n12 r i (Def.defs r) (Def.uses r)) ⟨g0, ⟨rfl, g2⟩, hb.1, ⟨rfl, g2⟩, hb.2, wrap_succ (by omega)⟩ hh)
    (.stop hO hm (n13 r _ (Def.defs r) (Def.uses r)) (by simp) (decide_eq_false (by rw [List.length_map]; omega))) _ 0 rfl (Nat.zero_le _)
  rw [List.drop_zero] at a1 a2 b1 b2 e1 e2
  rw [badAny_eq]
  cases c1 : (Def.defs r).any (badOwn r.most) with
  | true => exact callX_ok hO hm (m1 r (Def.defs r) (Def.uses r)) ⟨hd, hu, a1 c1⟩
  | false =>
  cases c2 : (Def.uses r).any (badUse r.most) with
  | true => exact callX_ok hO hm (m2 r (Def.defs r) (Def.uses r)) ⟨hd, hu, a2 c1, b1 c2⟩
  | false =>
  cases c3 : r.lats.any badRe with
  | true => exact callX_ok hO hm (m3 r (Def.defs r) (Def.uses r)) ⟨hd, hu, a2 c1, b2 c2, e1 c3⟩
  | false => exact callX_ok hO hm (m4 r (Def.defs r) (Def.uses r)) ⟨hd, hu, a2 c1, b2 c2, e2 c3⟩
/-- How often each variable is defined. -/
def tmS (G : List Int) (x : Int) : List Int := G.set (varN x) (gt G (varN x) + 1)
def times (m : Nat) (own : List Int) : List Int := own.foldl tmS ((List.replicate (m + 1) 0).set 0 1)
theorem tm_fold (xs : List Int) : ∀ G : List Int, (∀ x ∈ xs, varN x < G.length) → (xs.foldl tmS G).length = G.length ∧ ∀ u, gt (xs.foldl tmS G) u = gt G u + (((xs.map varN).count u : Nat) : Int) := by
  induction xs with
  | nil => intro G _; exact ⟨rfl, fun u => by simp⟩
  | cons x t ih =>
    intro G h
    have hx := h x List.mem_cons_self
    obtain ⟨i1, i2⟩ := ih (tmS G x) (fun y hy => by unfold tmS; rw [List.length_set]; exact h y (List.mem_cons_of_mem _ hy))
    refine ⟨by rw [List.foldl_cons, i1]; unfold tmS; rw [List.length_set], fun u => ?_⟩
    rw [List.foldl_cons, i2, List.map_cons, List.count_cons]
    unfold tmS
    rw [gt_set _ _ _ _ hx]
    by_cases e : u = varN x
    · subst e; simp; omega
    · have : (varN x == u) = false := by rw [beq_eq_false_iff_ne]; exact fun h => e h.symm
      rw [if_neg e, this]; simp
theorem timesC {r : Rw} {m : Nat} (h : Sm r) (em : r.most = (m : Int)) (hm1 : m ≤ 1000) (ho : ∀ x ∈ Def.defs r, 2 ≤ x ∧ x ≤ 2 * (m : Int) + 1) : ICall Tryd.prog 34 [.d r.d] [] (.own 3 ((times m (Def.defs r)).map I)) [] := by
  have hd := defined h
  have h1 := h.ins
  have h2 := h.lats
  have h3 := h.ands
  have hl1 : (Def.defs r).length ≤ 10000 := by unfold Def.defs; simp; omega
  have l1 := fold_loop (c := loopOf Tryd.prog 34 0) (Def.defs r) (fun i G => Ht r (G.map I) (Def.defs r) [(5, .d (I i))]) (fun G => Ht r (G.map I) (Def.defs r) []) (.exit 0) tmS (fun i G => G.length = m + 1 ∧ ∀ u, 0 ≤ gt G u ∧ gt G u ≤ (i : Int) + 1)
    (fun i G hi hI => by
      have hmem : (Def.defs r).getD i default ∈ Def.defs r := by rw [List.getD_eq_getElem?_getD, List.getElem?_eq_getElem hi]; exact List.getElem_mem hi
      have hx := ho _ hmem
      have g2 := get_map I (Def.defs r) i hi
      have k2 := t2 r (gt G (varN ((Def.defs r).getD i default))) i (G.map I) (Def.defs r)
      generalize (Def.defs r).getD i default = x at hx g2 k2
      have hv : varN x < G.length := by rw [hI.1]; unfold varN; omega
      have hb := hI.2 (varN x)
      refine ⟨⟨by unfold tmS; rw [List.length_set]; exact hI.1, fun u => ?_⟩, fun e s hh => ?_⟩
      · unfold tmS
        rw [gt_set _ _ _ _ hv]
        have := hI.2 u
        split <;> omega
      · have g3 : x / 2 = ((x / 2).toNat : Int) ∧ (x / 2).toNat < (G.map I).length := ⟨by omega, by rw [List.length_map]; exact hv⟩
        unfold tmS at hh
        rw [List.map_set] at hh
        exact .step hO hm k2 ⟨decide_eq_true (by rw [List.length_map]; omega), ⟨rfl, by rw [List.length_map]; exact hi⟩, g2, quo2 (by omega) (by omega), g3, get_map I G _ hv, wrap_id (by omega) (by omega), g3, wrap_succ (by omega)⟩ hh)
    (fun G _ => by
      have k3 := t3 r (Def.defs r).length (G.map I) (Def.defs r)
      exact .stop hO hm k3 (by simp) (decide_eq_false (by rw [List.length_map]; omega))) _ 0 ((List.replicate (m + 1) 0).set 0 1) rfl (Nat.zero_le _)
    ⟨by simp, fun u => by
      rw [gt_set _ _ _ _ (by simp)]
      split
      · omega
      · unfold gt
        rw [List.getD_eq_getElem?_getD, List.getElem?_replicate]
        split <;> simp⟩
  rw [List.drop_zero, List.map_set, List.map_replicate] at l1
  have hN : (r.most + 1).toNat = m + 1 := by omega
  refine callX_ok hO hm (t4 r _ (Def.defs r)) ⟨wrap_id (by omega) (by omega), ⟨by omega, by omega, Nat.le_trans (show _ ≤ 100000 by omega) (by decide)⟩, ⟨rfl, by rw [List.length_replicate]; omega⟩, hd, ?_⟩
  rw [hN]
  exact l1
end Go.Proofs.YtihbpbdmhiihnaaDoor.Sy.Ref
/- The reference's Order and Check, whole. -/
namespace Go.Proofs.YtihbpbdmhiihnaaDoor.Sy.Ref
open Go Go.Proofs.YtihbpbdmhiihnaaDoor.Ab Go.Proofs.YtihbpbdmhiihnaaDoor.Sy Go.Proofs.YtihbpbdmhiihnaaDoor.Pl
set_option maxRecDepth 1000000
set_option linter.unusedVariables false
set_option linter.unusedSimpArgs false
def GB (G : List Bool) : List D := G.map D.bool
theorem gb_get (G : List Bool) (u : Nat) (h : u < G.length) : (GB G)[u]? = some (.bool (gb G u)) := get_map D.bool G u h
theorem GB_set (G : List Bool) (u : Nat) (b : Bool) : (GB G).set u (.bool b) = GB (G.set u b) := by unfold GB; rw [List.map_set]
theorem GB_len (G : List Bool) : (GB G).length = G.length := List.length_map _
section
variable {r : Rw} {m : Nat}
def fnd (ands : List Df) (done : List Nat) (i : Nat) (x : Int) : Int := match (List.range i).find? (nextP ands done) with | some j => (j : Int) | none => x
theorem fnd_succ (ands : List Df) (done : List Nat) (i : Nat) (x x' : Int) (h : x' = (if nextP ands done i = true then (i : Int) else x)) : fnd ands done (i + 1) x = fnd ands done i x' := by
  unfold fnd
  rw [List.range_succ, List.find?_append]
  cases (List.range i).find? (nextP ands done) with
  | some j => rfl
  | none =>
    simp only [List.find?_cons, List.find?_nil, Option.none_or]
    cases c : nextP ands done i with
    | true => rw [h, c]; rfl
    | false => rw [h, c]; simp
theorem inner (h : Ok m r.ands) (done : List Nat) (hd : ∀ i ∈ done, i < r.ands.length) (G : List Bool) (hl : G.length = m + 1) (hG : ∀ u, u ≤ m → gb G u = rv r.ands done u) (ol : List D) : ∀ (i : Nat) (x : Int), i ≤ r.ands.length →
    GoesL Tryd.prog (loopOf Tryd.prog 36 3) (Hp r (GB G) ol [(7, .d (I x)), (8, .d (I ((i : Int) - 1)))]) (.exit 6) (Hp r (GB G) ol [(7, .d (I (fnd r.ands done i x)))]) := by
  intro i
  induction i with
  | zero => intro x _; exact .stop hO hm (p5 r x (((0 : Nat) : Int) - 1) (GB G) ol) (by simp) (decide_eq_false (by omega))
  | succ i ih =>
    intro x hi
    have hlt : i < r.ands.length := by omega
    have hsm := h.small
    have hv := h.vr_le hlt
    have ha := h.pa_le hlt
    have hb := h.pb_le hlt
    have hdd : r.ands.getD i default = rdD r.ands (i : Int) := by unfold rdD; rw [Int.toNat_natCast]
    rw [show (((i + 1 : Nat) : Int) - 1) = (i : Int) by omega]
    have hdone : rv r.ands done (vr r.ands i) = true ↔ i ∈ done := by
      unfold rv
      rw [isG_vr hlt, Bool.not_true, Bool.false_or, List.any_eq_true]
      constructor
      · rintro ⟨j, hj, he⟩
        have := h.once j i (hd j hj) hlt (by simpa using he)
        exact this ▸ hj
      · intro hj; exact ⟨i, hj, by simp⟩
    have g0 : decide ((i : Int) ≥ 0) = true := decide_eq_true (by omega)
    have g1 : (i : Int) = (i : Int) ∧ (r.ands.map Df.d)[i]? = some (r.ands.getD i default).d := ⟨rfl, get_map Df.d r.ands i hlt⟩
    have v1 : ((r.ands.getD i default).lit / 2).toNat = vr r.ands i := by rw [hdd]; rfl
    have v2 : ((r.ands.getD i default).a / 2).toNat = pa r.ands i := by rw [hdd]; rfl
    have v3 : ((r.ands.getD i default).b / 2).toNat = pb r.ands i := by rw [hdd]; rfl
    have q1 : IntKind.i64.wrap ((r.ands.getD i default).lit.tdiv 2) = (r.ands.getD i default).lit / 2 := by rw [hdd]; exact quo2 hv.2.2 (by omega)
    have q2 : IntKind.i64.wrap ((r.ands.getD i default).a.tdiv 2) = (r.ands.getD i default).a / 2 := by rw [hdd]; exact quo2 ha.2.2 (by omega)
    have q3 : IntKind.i64.wrap ((r.ands.getD i default).b.tdiv 2) = (r.ands.getD i default).b / 2 := by rw [hdd]; exact quo2 hb.2.2 (by omega)
    have u1 : (r.ands.getD i default).lit / 2 = ((((r.ands.getD i default).lit / 2).toNat : Nat) : Int) ∧ ((r.ands.getD i default).lit / 2).toNat < (GB G).length := ⟨by rw [v1, hdd]; exact hv.2.1, by rw [v1, GB_len]; omega⟩
    have u2 : (r.ands.getD i default).a / 2 = ((((r.ands.getD i default).a / 2).toNat : Nat) : Int) ∧ ((r.ands.getD i default).a / 2).toNat < (GB G).length := ⟨by rw [v2, hdd]; exact ha.2.1, by rw [v2, GB_len]; omega⟩
    have u3 : (r.ands.getD i default).b / 2 = ((((r.ands.getD i default).b / 2).toNat : Nat) : Int) ∧ ((r.ands.getD i default).b / 2).toNat < (GB G).length := ⟨by rw [v3, hdd]; exact hb.2.1, by rw [v3, GB_len]; omega⟩
    have e1 : (GB G)[((r.ands.getD i default).lit / 2).toNat]? = some (.bool (rv r.ands done (vr r.ands i))) := by rw [v1, gb_get G _ (by omega), hG _ hv.1]
    have e2 : (GB G)[((r.ands.getD i default).a / 2).toNat]? = some (.bool (rv r.ands done (pa r.ands i))) := by rw [v2, gb_get G _ (by omega), hG _ ha.1]
    have e3 : (GB G)[((r.ands.getD i default).b / 2).toNat]? = some (.bool (rv r.ands done (pb r.ands i))) := by rw [v3, gb_get G _ (by omega), hG _ hb.1]
    have w1 : IntKind.i64.wrap ((i : Int) - 1) = (i : Int) - 1 := wrap_id (by omega) (by omega)
    cases c1 : rv r.ands done (vr r.ands i) with
    | true =>
      rw [c1] at e1
      rw [fnd_succ r.ands done i x x (by rw [if_neg]; intro hn; exact ((nextP_iff r.ands done i).1 hn).1 (hdone.1 c1))]
      exact .step hO hm (p1 r x i (GB G) ol) ⟨g0, g1, q1, u1, e1, rfl, w1⟩ (ih x (by omega))
    | false =>
    rw [c1] at e1
    have hnd : i ∉ done := fun hm' => by rw [hdone.2 hm'] at c1; cases c1
    cases c2 : rv r.ands done (pa r.ands i) with
    | false =>
      rw [c2] at e2
      rw [fnd_succ r.ands done i x x (by rw [if_neg]; unfold nextP; simp [c2])]
      exact .step hO hm (p2 r x i (GB G) ol) ⟨g0, g1, q1, u1, e1, rfl, q2, u2, e2, w1⟩ (ih x (by omega))
    | true =>
    rw [c2] at e2
    cases c3 : rv r.ands done (pb r.ands i) with
    | false =>
      rw [c3] at e3
      rw [fnd_succ r.ands done i x x (by rw [if_neg]; unfold nextP; simp [c3])]
      exact .step hO hm (p3 r x i (GB G) ol) ⟨g0, g1, q1, u1, e1, rfl, q2, u2, e2, q3, u3, e3, w1⟩ (ih x (by omega))
    | true =>
      rw [c3] at e3
      rw [fnd_succ r.ands done i x i (by rw [if_pos]; unfold nextP; simp [hnd, c2, c3])]
      exact .step hO hm (p4 r x i (GB G) ol) ⟨g0, g1, q1, u1, e1, rfl, q2, u2, e2, q3, u3, e3, w1⟩ (ih i (by omega))
/-- The outer loop: until all are done, or none is found. -/
theorem outer (h : Ok m r.ands) (d : Nat) : ∀ (done : List Nat) (G : List Bool), r.ands.length - done.length = d → (∀ i ∈ done, i < r.ands.length) → done.Nodup → G.length = m + 1 → (∀ u, u ≤ m → gb G u = rv r.ands done u) →
    (∃ G', GoesL Tryd.prog (loopOf Tryd.prog 36 2) (Hp r (GB G) ((done.map (fun k : Nat => (k : Int))).map I) []) (.exit 4) (Hp r G' (((ordS r.ands d done).map (fun k : Nat => (k : Int))).map I) [])) ∨
    (∃ G', GoesL Tryd.prog (loopOf Tryd.prog 36 2) (Hp r (GB G) ((done.map (fun k : Nat => (k : Int))).map I) []) .ret (Eo r G' (((ordS r.ands d done).map (fun k : Nat => (k : Int))).map I))) := by
  induction d with
  | zero =>
    intro done G hd hlt hnd hl hG
    exact .inl ⟨GB G, .stop hO hm (q3 r (GB G) _) (by simp) (decide_eq_false (by rw [List.length_map, List.length_map, List.length_map]; omega))⟩
  | succ d ih =>
    intro done G hd hlt hnd hl hG
    have hsm := h.small
    have hin := inner h done hlt G hl hG ((done.map (fun k : Nat => (k : Int))).map I) r.ands.length (-1) (Nat.le_refl _)
    have g0 : decide (((((done.map (fun k : Nat => (k : Int))).map I).length : Nat) : Int) < (((r.ands.map Df.d).length : Nat) : Int)) = true := decide_eq_true (by rw [List.length_map, List.length_map, List.length_map]; omega)
    have w1 : IntKind.i64.wrap ((((r.ands.map Df.d).length : Nat) : Int) - 1) = (((r.ands.map Df.d).length : Nat) : Int) - 1 := wrap_id (by rw [List.length_map]; omega) (by rw [List.length_map]; omega)
    have hlm : (r.ands.map Df.d).length = r.ands.length := List.length_map _
    rw [← hlm] at hin
    cases hf : (List.range r.ands.length).find? (nextP r.ands done) with
    | none =>
      have ef : fnd r.ands done (r.ands.map Df.d).length (-1) = -1 := by unfold fnd; rw [List.length_map, hf]
      rw [ef] at hin
      have e : ordS r.ands (d + 1) done = done := by simp only [ordS, hf]
      rw [e]
      exact .inr ⟨GB G, .stop hO hm (q1 r (-1) (GB G) _) (by simp) ⟨g0, w1, hin, (rfl : decide ((-1 : Int) < 0) = true)⟩⟩
    | some i =>
      have ef : fnd r.ands done (r.ands.map Df.d).length (-1) = (i : Int) := by unfold fnd; rw [List.length_map, hf]
      rw [ef] at hin
      have e : ordS r.ands (d + 1) done = ordS r.ands d (done ++ [i]) := by simp only [ordS, hf]
      rw [e]
      have hi : i < r.ands.length := List.mem_range.1 (List.mem_of_find?_eq_some hf)
      obtain ⟨hid, hic⟩ := (nextP_iff r.ands done i).1 (List.find?_some hf)
      have hv := h.vr_le hi
      have hdd : r.ands.getD i default = rdD r.ands (i : Int) := by unfold rdD; rw [Int.toNat_natCast]
      have hnd2 : (done ++ [i]).Nodup := List.nodup_append.2 ⟨hnd, by simp, by
        intro a ha b hb
        rw [List.mem_singleton.1 hb]
        intro e; exact hid (e ▸ ha)⟩
      have hlt2 : ∀ j ∈ done ++ [i], j < r.ands.length := fun j hj => by
        rcases List.mem_append.1 hj with hj | hj
        · exact hlt j hj
        · rw [List.mem_singleton.1 hj]; exact hi
      have hdl := nodup_le r.ands.length (done ++ [i]) hnd2 hlt2
      rw [List.length_append, List.length_singleton] at hdl
      have hx := ih (done ++ [i]) (G.set (vr r.ands i) true) (by rw [List.length_append, List.length_singleton]; omega) hlt2 hnd2 (by simpa using hl) (fun u hu => by
        rw [gb_set _ _ _ _ (by omega), rv_append, hG u hu]
        by_cases e : u = vr r.ands i
        · subst e; simp
        · have : (vr r.ands i == u) = false := by rw [beq_eq_false_iff_ne]; exact fun h => e h.symm
          rw [if_neg e, this, Bool.or_false])
      have e4 : ((done ++ [i]).map (fun k : Nat => (k : Int))).map I = (done.map (fun k : Nat => (k : Int))).map I ++ [I (i : Int)] := by rw [List.map_append, List.map_append]; rfl
      rw [e4] at hx
      have k2 := q2 r (i : Int) (GB G) ((done.map (fun k : Nat => (k : Int))).map I)
      rw [Int.toNat_natCast, hdd, show ((rdD r.ands (i : Int)).lit / 2).toNat = vr r.ands i from rfl, GB_set] at k2
      have step : ∀ {e s}, GoesL Tryd.prog (loopOf Tryd.prog 36 2) (Hp r (GB (G.set (vr r.ands i) true)) ((done.map (fun k : Nat => (k : Int))).map I ++ [I (i : Int)]) []) e s → GoesL Tryd.prog (loopOf Tryd.prog 36 2) (Hp r (GB G) ((done.map (fun k : Nat => (k : Int))).map I) []) e s := fun hh =>
        .step hO hm k2 ⟨g0, w1, hin, decide_eq_false (by omega), ⟨rfl, hdd ▸ get_map Df.d r.ands i hi⟩, quo2 hv.2.2 (by omega), ⟨hv.2.1, by rw [GB_len]; omega⟩, Nat.le_trans (show _ ≤ 100000 by simp; omega) (by decide)⟩ hh
      rcases hx with ⟨G', hx⟩ | ⟨G', hx⟩
      · exact .inl ⟨G', step hx⟩
      · exact .inr ⟨G', step hx⟩
theorem fill_loop (em : r.most = (m : Int)) (hm1 : m ≤ 1000) (d : Nat) : ∀ i, m + 1 - i = d → i ≤ m + 1 → GoesL Tryd.prog (loopOf Tryd.prog 36 0) (Ho r (GB (List.replicate i true ++ List.replicate (m + 1 - i) false)) [(2, .emp true), (4, .d (I i))]) (.exit 0) (Ho r (GB (List.replicate (m + 1) true)) [(2, .emp true)]) := by
  induction d with
  | zero =>
    intro i hd hi
    obtain rfl : i = m + 1 := by omega
    rw [Nat.sub_self, List.replicate_zero, List.append_nil]
    exact .stop hO hm (o2 r (m + 1) _) (by simp) (decide_eq_false (by omega))
  | succ d ih =>
    intro i hd hi
    have k1 := o1 r i (GB (List.replicate i true ++ List.replicate (m + 1 - i) false))
    have e : (List.replicate i true ++ List.replicate (m + 1 - i) false).set i true = List.replicate (i + 1) true ++ List.replicate (m + 1 - (i + 1)) false := by
      rw [List.set_append, if_neg (by simp), List.length_replicate, Nat.sub_self, show m + 1 - i = (m + 1 - (i + 1)) + 1 by omega, List.replicate_succ, List.set_cons_zero, List.replicate_succ', List.append_assoc]; rfl
    rw [GB_set, e] at k1
    exact .step hO hm k1 ⟨decide_eq_true (by omega), ⟨rfl, by rw [GB_len]; simp; omega⟩, wrap_succ (by omega)⟩ (ih (i + 1) (by omega) (by omega))
theorem unmark_loop (h : Ok m r.ands) (d : Nat) : ∀ (i : Nat) (G : List Bool), r.ands.length - i = d → i ≤ r.ands.length → G.length = m + 1 → (∀ u, u ≤ m → gb G u = !(List.range i).any (fun j => vr r.ands j == u)) →
    ∃ G', G'.length = m + 1 ∧ (∀ u, u ≤ m → gb G' u = rv r.ands [] u) ∧ GoesL Tryd.prog (loopOf Tryd.prog 36 1) (Ho r (GB G) [(2, .emp true), (5, .d (I i))]) (.exit 2) (Ho r (GB G') [(2, .emp true)]) := by
  induction d with
  | zero =>
    intro i G hd hi hl hG
    obtain rfl : i = r.ands.length := by omega
    refine ⟨G, hl, fun u hu => by rw [hG u hu, rv_nil]; rfl, .stop hO hm (o4 r r.ands.length (GB G)) (by simp) (decide_eq_false (by rw [List.length_map]; omega))⟩
  | succ d ih =>
    intro i G hd hi hl hG
    have hlt : i < r.ands.length := by omega
    have hv := h.vr_le hlt
    have hsm := h.small
    have hdd : r.ands.getD i default = rdD r.ands (i : Int) := by unfold rdD; rw [Int.toNat_natCast]
    obtain ⟨G', g1, g2, g3⟩ := ih (i + 1) (G.set (vr r.ands i) false) (by omega) (by omega) (by simpa using hl) (fun u hu => by
      rw [gb_set _ _ _ _ (by omega), hG u hu, List.range_succ, List.any_append]
      by_cases e : u = vr r.ands i
      · subst e; simp
      · have : (vr r.ands i == u) = false := by rw [beq_eq_false_iff_ne]; exact fun h => e h.symm
        rw [if_neg e]; simp [this])
    have k3 := o3 r i (GB G)
    rw [hdd, show ((rdD r.ands (i : Int)).lit / 2).toNat = vr r.ands i from rfl, GB_set] at k3
    exact ⟨G', g1, g2, .step hO hm k3 ⟨decide_eq_true (by rw [List.length_map]; omega), ⟨rfl, hdd ▸ get_map Df.d r.ands i hlt⟩, quo2 hv.2.2 (by omega), ⟨hv.2.1, by rw [GB_len]; omega⟩, wrap_succ (by omega)⟩ g3⟩
theorem order (h : Ok m r.ands) (em : r.most = (m : Int)) : ICall Tryd.prog 36 [.d r.d] [] (.own 3 ((Cir.ordI r).map I)) [] := by
  have hsm := h.small
  have l0 := fill_loop (r := r) em hsm.1 _ 0 rfl (Nat.zero_le _)
  obtain ⟨G, g1, g2, l1⟩ := unmark_loop h _ 0 (List.replicate (m + 1) true) rfl (Nat.zero_le _) (by simp) (fun u hu => by
    unfold gb
    rw [List.getD_eq_getElem?_getD, List.getElem?_replicate, if_pos (by omega)]; rfl)
  have l2 := outer h _ [] G rfl (fun i hi => by cases hi) List.nodup_nil g1 g2
  have hN : (r.most + 1).toNat = m + 1 := by omega
  have w1 : IntKind.i64.wrap (r.most + 1) = r.most + 1 := wrap_id (by omega) (by omega)
  have hmk : r.most + 1 = (((r.most + 1).toNat : Nat) : Int) ∧ r.most + 1 = (((r.most + 1).toNat : Nat) : Int) ∧ (r.most + 1).toNat ≤ maxItems := ⟨by omega, by omega, Nat.le_trans (show _ ≤ 100000 by omega) (by decide)⟩
  have e0 : GB (List.replicate 0 true ++ List.replicate (m + 1 - 0) false) = List.replicate (r.most + 1).toNat (D.bool false) := by unfold GB; rw [hN]; simp
  rw [e0] at l0
  have zz : szOf Tryd.prog 3 = some 1 := Cir.z1
  have ad : ∀ {e s} (gl : List D), GoesL Tryd.prog (loopOf Tryd.prog 36 2) (Hp r gl [] []) e s → GoesL Tryd.prog (loopOf Tryd.prog 36 2) (⟨mk 99 [(1, .ptr 0 0), (3, .arr 1), (6, .emp true)] [], [r.box, .lst 4 gl]⟩) e s := fun gl hh => .adoptS (j := 6) zz hh
  rcases l2 with ⟨G', l2⟩ | ⟨G', l2⟩
  · exact callX_ok hO hm (Ref.w1 r _ _ _ _) ⟨w1, hmk, l0, l1, ad _ l2⟩
  · exact callX_ok hO hm (Ref.w2 r _ _ _ _) ⟨w1, hmk, l0, l1, ad _ l2⟩
theorem twice_times {m : Nat} {own : List Int} (ho : ∀ x ∈ own, 2 ≤ x ∧ x ≤ 2 * (m : Int) + 1) : (times m own).length = m + 1 ∧ (∀ u, u ≤ m → gt (times m own) u = (if u = 0 then 1 else 0) + (((own.map varN).count u : Nat) : Int)) ∧
    ((times m own).any (fun x => decide (x > 1)) = true ↔ ¬ (own.map varN).Nodup) := by
  obtain ⟨f1, f2⟩ := tm_fold own ((List.replicate (m + 1) 0).set 0 1) (fun x hx => by have := ho x hx; simp; unfold varN; omega)
  have hl : (times m own).length = m + 1 := by unfold times; rw [f1]; simp
  have hg : ∀ u, u ≤ m → gt (times m own) u = (if u = 0 then 1 else 0) + (((own.map varN).count u : Nat) : Int) := fun u hu => by
    unfold times
    rw [f2, gt_set _ _ _ _ (by simp)]
    by_cases e : u = 0
    · rw [if_pos e, if_pos e]
    · rw [if_neg e, if_neg e]
      unfold gt
      rw [List.getD_eq_getElem?_getD, List.getElem?_replicate]
      split <;> simp
  refine ⟨hl, hg, ?_⟩
  rw [← twice_any ho (times m own) hg, List.any_eq_true, List.any_eq_true]
  constructor
  · rintro ⟨x, hx, h⟩
    obtain ⟨i, hi, rfl⟩ := List.getElem_of_mem hx
    exact ⟨i, by rw [List.mem_range'_1]; omega, by rw [gt_get _ _ hi]; exact h⟩
  · rintro ⟨u, hu, h⟩
    rw [List.mem_range'_1] at hu
    have hu2 : u < (times m own).length := by omega
    rw [gt_get _ _ hu2] at h
    exact ⟨_, List.getElem_mem hu2, h⟩
/-- The reference's check is the plain check. -/
theorem check {r : Rw} (h : Sm r) : ICall Tryd.prog 19 [.d r.d] [] (.d (I (Cir.chkR r))) [] := by
  have h1 := h.ins
  have h2 := h.lats
  have h3 := h.ands
  have h4 := h.bads
  have h5 := h.cons
  have w1 : IntKind.i64.wrap ((((r.ins.map I).length : Nat) : Int) + (((r.lats.map Df.d).length : Nat) : Int)) = (((r.ins.map I).length + (r.lats.map Df.d).length : Nat) : Int) := by rw [List.length_map, List.length_map, wrap_id (by omega) (by omega)]; omega
  have w2 : IntKind.i64.wrap ((((r.ins.map I).length + (r.lats.map Df.d).length : Nat) : Int) + (((r.ands.map Df.d).length : Nat) : Int)) = (((r.ins.map I).length + (r.lats.map Df.d).length + (r.ands.map Df.d).length : Nat) : Int) := by rw [List.length_map, List.length_map, List.length_map, wrap_id (by omega) (by omega)]; omega
  unfold Cir.chkR chkS
  by_cases c0 : r.most < 0
  · rw [if_pos c0]; exact callX_ok hO hm (c1 r) (decide_eq_true c0)
  rw [if_neg c0]
  have t0 := decide_eq_false c0
  by_cases c1 : manyP r.most r.ins r.lats r.ands r.bads r.cons
  · rw [if_pos c1]
    unfold manyP at c1
    by_cases d1 : r.most > 1000
    · exact callX_ok hO hm (c2 r) ⟨t0, decide_eq_true d1⟩
    have s1 := decide_eq_false d1
    by_cases d2 : (((r.ins.map I).length + (r.lats.map Df.d).length + (r.ands.map Df.d).length : Nat) : Int) > 1000
    · exact callX_ok hO hm (c3 r) ⟨t0, s1, w1, w2, decide_eq_true d2⟩
    have s2 := decide_eq_false d2
    rw [List.length_map, List.length_map, List.length_map] at d2
    by_cases d3 : (((r.bads.map I).length : Nat) : Int) > 100
    · exact callX_ok hO hm (c4 r) ⟨t0, s1, w1, w2, s2, decide_eq_true d3⟩
    have s3 := decide_eq_false d3
    rw [List.length_map] at d3
    exact callX_ok hO hm (c5 r) ⟨t0, s1, w1, w2, s2, s3, decide_eq_true (by rw [List.length_map]; omega)⟩
  have hc1 := c1
  rw [if_neg c1]
  unfold manyP at c1
  have s1 : decide (r.most > 1000) = false := decide_eq_false (by omega)
  have s2 : decide ((((r.ins.map I).length + (r.lats.map Df.d).length + (r.ands.map Df.d).length : Nat) : Int) > 1000) = false := decide_eq_false (by rw [List.length_map, List.length_map, List.length_map]; omega)
  have s3 : decide ((((r.bads.map I).length : Nat) : Int) > 100) = false := decide_eq_false (by rw [List.length_map]; omega)
  have s4 : decide ((((r.cons.map I).length : Nat) : Int) > 100) = false := decide_eq_false (by rw [List.length_map]; omega)
  have hn := numbers h (by omega)
  by_cases c2 : badAny r.most r.ins r.lats r.ands r.bads r.cons = true
  · rw [if_pos c2]
    rw [c2] at hn
    exact callX_ok hO hm (c6 r) ⟨t0, s1, w1, w2, s2, s3, s4, hn, rfl⟩
  rw [if_neg c2]
  rw [Bool.eq_false_iff.2 c2] at hn
  have hN := num_of c0 hc1 c2
  obtain ⟨m, em⟩ := Int.eq_ofNat_of_zero_le hN.m.1
  have hm1 := hN.m.2
  have hlen := hN.len
  have ho : ∀ x ∈ Def.defs r, 2 ≤ x ∧ x ≤ 2 * (m : Int) + 1 := fun x hx => by have := hN.own x (by rw [← own_defs]; exact hx); omega
  have hu : ∀ x ∈ Def.uses r, 0 ≤ x ∧ x ≤ 2 * (m : Int) + 1 := fun x hx => by have := hN.use x hx; omega
  have ht := timesC h em (by omega) ho
  have hus := used h
  obtain ⟨tl, tg, tw⟩ := twice_times ho
  obtain ⟨a1, a2⟩ := any_loop (c := loopOf Tryd.prog 19 0) (times m (Def.defs r)) (fun i => Hc r ((times m (Def.defs r)).map I) [(4, .d (I i))]) .ret (.exit 0) (Rc r ((times m (Def.defs r)).map I) 43) (Hc r ((times m (Def.defs r)).map I) []) (fun x => decide (x > 1))
    (fun i hi hb => .stop hO hm (k1 r ((times m (Def.defs r)).getD i default) i ((times m (Def.defs r)).map I)) (by simp) ⟨decide_eq_true (by omega), ⟨rfl, by rw [List.length_map]; exact hi⟩, get_map I _ i hi, hb⟩)
    (fun i hi hb e s hh => .step hO hm (k2 r ((times m (Def.defs r)).getD i default) i ((times m (Def.defs r)).map I)) ⟨decide_eq_true (by omega), ⟨rfl, by rw [List.length_map]; exact hi⟩, get_map I _ i hi, hb, wrap_succ (by omega)⟩ hh)
    (.stop hO hm (k3 r (times m (Def.defs r)).length ((times m (Def.defs r)).map I)) (by simp) (decide_eq_false (by omega))) _ 0 rfl (Nat.zero_le _)
  rw [List.drop_zero] at a1 a2
  unfold chkVal
  rw [← own_defs, ← use_uses]
  by_cases hnd : ((Def.defs r).map varN).Nodup
  · rw [if_neg (show ¬ ¬ ((Def.defs r).map varN).Nodup from fun c => c hnd)]
    have a3 := a2 (Bool.eq_false_iff.2 fun c => tw.1 c hnd)
    have hul : (Def.uses r).length ≤ 10000 := by rw [use_uses, use_len]; omega
    obtain ⟨b1, b2⟩ := any_loop (c := loopOf Tryd.prog 19 1) (Def.uses r) (fun i => Hd2 r ((times m (Def.defs r)).map I) ((Def.uses r).map I) [(6, .d (I i))]) .ret (.exit 2) (Rd2 r ((times m (Def.defs r)).map I) ((Def.uses r).map I) 46) (Hd2 r ((times m (Def.defs r)).map I) ((Def.uses r).map I) []) (fun x => gt (times m (Def.defs r)) (varN x) == 0)
      (fun i hi hb => by
        have hx := hu _ (show (Def.uses r).getD i default ∈ Def.uses r by rw [List.getD_eq_getElem?_getD, List.getElem?_eq_getElem hi]; exact List.getElem_mem hi)
        have kk := k4 r (gt (times m (Def.defs r)) (varN ((Def.uses r).getD i default))) i ((times m (Def.defs r)).map I) (Def.uses r)
        have g2 := get_map I (Def.uses r) i hi
        generalize (Def.uses r).getD i default = x at hx hb kk g2
        have hv : varN x < (times m (Def.defs r)).length := by rw [tl]; unfold varN; omega
        exact .stop hO hm kk (by simp) ⟨decide_eq_true (by rw [List.length_map]; omega), ⟨rfl, by rw [List.length_map]; exact hi⟩, g2, quo2 hx.1 (by omega), ⟨by omega, by rw [List.length_map]; exact hv⟩, get_map I _ _ hv, hb⟩)
      (fun i hi hb e s hh => by
        have hx := hu _ (show (Def.uses r).getD i default ∈ Def.uses r by rw [List.getD_eq_getElem?_getD, List.getElem?_eq_getElem hi]; exact List.getElem_mem hi)
        have kk := k5 r (gt (times m (Def.defs r)) (varN ((Def.uses r).getD i default))) i ((times m (Def.defs r)).map I) (Def.uses r)
        have g2 := get_map I (Def.uses r) i hi
        generalize (Def.uses r).getD i default = x at hx hb kk g2
        have hv : varN x < (times m (Def.defs r)).length := by rw [tl]; unfold varN; omega
        exact .step hO hm kk ⟨decide_eq_true (by rw [List.length_map]; omega), ⟨rfl, by rw [List.length_map]; exact hi⟩, g2, quo2 hx.1 (by omega), ⟨by omega, by rw [List.length_map]; exact hv⟩, get_map I _ _ hv, hb, wrap_succ (by omega)⟩ hh)
      (.stop hO hm (k6 r (Def.uses r).length ((times m (Def.defs r)).map I) (Def.uses r)) (by simp) (decide_eq_false (by rw [List.length_map]; omega))) _ 0 rfl (Nat.zero_le _)
    rw [List.drop_zero] at b1 b2
    have ha : (Def.uses r).any (Pl.loose (Def.defs r)) = (Def.uses r).any (fun x => gt (times m (Def.defs r)) (varN x) == 0) := any_eq (fun x hx => by
      have hxu := hu x hx
      rw [tg _ (show varN x ≤ m by unfold varN; omega)]
      unfold Pl.loose
      by_cases c : varN x = 0
      · rw [if_pos c, Bool.eq_iff_iff]; simp [c]; omega
      · rw [if_neg c]
        by_cases d : varN x ∈ (Def.defs r).map varN
        · have := List.count_pos_iff.2 d
          rw [List.contains_iff_mem.2 d, Bool.eq_iff_iff]; simp; omega
        · have e0 := List.count_eq_zero.2 d
          rw [e0, Bool.eq_false_iff.2 (fun h => d (List.contains_iff_mem.1 h))]; simp [c])
    rw [ha]
    by_cases c : (Def.uses r).any (fun x => gt (times m (Def.defs r)) (varN x) == 0) = true
    · rw [if_pos c]
      exact callX_ok hO hm (c8 r _ (Def.uses r)) ⟨t0, s1, w1, w2, s2, s3, s4, hn, rfl, ht, a3, hus, b1 c⟩
    · rw [if_neg c]
      have hok : Ok m r.ands := num_ok (by rw [← em]; exact hN) (by rw [← own_defs]; exact hnd)
      have hor := order hok em
      by_cases c9 : (ordS r.ands r.ands.length []).length < r.ands.length
      · rw [if_pos c9]
        exact callX_ok hO hm (Ref.c9 r _ (Def.uses r) (Cir.ordI r)) ⟨t0, s1, w1, w2, s2, s3, s4, hn, rfl, ht, a3, hus, b2 (Bool.eq_false_iff.2 c), hor, decide_eq_true (by unfold Cir.ordI; rw [List.length_map, List.length_map, List.length_map]; omega)⟩
      · rw [if_neg c9]
        exact callX_ok hO hm (c10 r _ (Def.uses r) (Cir.ordI r)) ⟨t0, s1, w1, w2, s2, s3, s4, hn, rfl, ht, a3, hus, b2 (Bool.eq_false_iff.2 c), hor, decide_eq_false (by unfold Cir.ordI; rw [List.length_map, List.length_map, List.length_map]; omega)⟩
  · rw [if_pos hnd]
    exact callX_ok hO hm (c7 r _) ⟨t0, s1, w1, w2, s2, s3, s4, hn, rfl, ht, a1 (tw.2 hnd)⟩
end
end Go.Proofs.YtihbpbdmhiihnaaDoor.Sy.Ref
/- The reference's comparison of lists of numbers. -/
namespace Go.Proofs.YtihbpbdmhiihnaaDoor.Sy.SameInts
open Go Go.Proofs.YtihbpbdmhiihnaaDoor.Ab Go.Proofs.YtihbpbdmhiihnaaDoor.Sy
set_option maxRecDepth 1000000
def H (a b : List Int) (i : Nat) : St := ⟨mk 26 [(0, .d (L a)), (1, .d (L b)), (5, .d (I i))] [], []⟩
def E : St := ⟨mk 26 [] [], []⟩
def R : St := ⟨mk 26 [(4, .d (.bool false))] [], []⟩
section
variable (a b : List Int) (i : Nat)
theorem s1 : round Tryd.prog wr false O (loopOf Tryd.prog 30 0) (H a b i) [It.br true, It.el i (I (a.getD i default)), It.el i (I (b.getD i default)), It.br true] [4] 0
  = some (.ret, R,
      [decide ((↑i : Int) < (↑(List.map I a).length : Int)) = true,
      (↑i : Int) = (↑i : Int) ∧ (List.map I a)[i]? = some (I (a.getD i default)),
      (↑i : Int) = (↑i : Int) ∧ (List.map I b)[i]? = some (I (b.getD i default)),
      (a.getD i default != b.getD i default) = true]) := by kernel_rfl
theorem s2 : round Tryd.prog wr false O (loopOf Tryd.prog 30 0) (H a b i) [It.br true, It.el i (I (a.getD i default)), It.el i (I (b.getD i default)), It.br false, It.is (↑(i + 1) : Int)] [0, 1, 5] 0
  = some (.normal, H a b (i + 1),
      [decide ((↑i : Int) < (↑(List.map I a).length : Int)) = true,
      (↑i : Int) = (↑i : Int) ∧ (List.map I a)[i]? = some (I (a.getD i default)),
      (↑i : Int) = (↑i : Int) ∧ (List.map I b)[i]? = some (I (b.getD i default)),
      (a.getD i default != b.getD i default) = false,
      IntKind.i64.wrap ((↑i : Int) + 1) = (↑(i + 1) : Int)]) := by kernel_rfl
theorem s3 : round Tryd.prog wr false O (loopOf Tryd.prog 30 0) (H a b i) [It.br false] [] 0 = some (.exit 0, E, [decide ((↑i : Int) < (↑(List.map I a).length : Int)) = false]) := by kernel_rfl
end

theorem loop (a b : List Int) (hl : a.length = b.length) (hs : a.length ≤ 1000000) (d : Nat) : ∀ i, a.length - i = d → i ≤ a.length →
    (a.drop i = b.drop i → GoesL Tryd.prog (loopOf Tryd.prog 30 0) (H a b i) (.exit 0) E) ∧ (a.drop i ≠ b.drop i → GoesL Tryd.prog (loopOf Tryd.prog 30 0) (H a b i) .ret R) := by
  induction d with
  | zero =>
    intro i hd hi
    have h1 : a.drop i = b.drop i := by rw [List.drop_of_length_le (by omega), List.drop_of_length_le (by omega)]
    exact ⟨fun _ => .stop hO hm (s3 a b i) (by simp) (by simp [AllP]; omega), fun h => absurd h1 h⟩
  | succ d ih =>
    intro i hd hi
    have ha : i < a.length := by omega
    have hb : i < b.length := by omega
    obtain ⟨i1, i2⟩ := ih (i + 1) (by omega) (by omega)
    have ea := drop_getD a i ha
    have eb := drop_getD b i hb
    have q1 : decide ((↑i : Int) < (↑(List.map I a).length : Int)) = true := by simp; omega
    by_cases c : a.getD i default = b.getD i default
    · have q : (a.getD i default != b.getD i default) = false := by rw [c]; simp
      refine ⟨fun h => .step hO hm (s2 a b i) ⟨q1, ⟨rfl, get_map I a i ha⟩, ⟨rfl, get_map I b i hb⟩, q, wrap_succ (by omega)⟩ (i1 ?_), fun h => .step hO hm (s2 a b i) ⟨q1, ⟨rfl, get_map I a i ha⟩, ⟨rfl, get_map I b i hb⟩, q, wrap_succ (by omega)⟩ (i2 ?_)⟩
      · rw [ea, eb] at h; exact (List.cons.inj h).2
      · rw [ea, eb, c] at h; exact fun e => h (by rw [e])
    · have q : (a.getD i default != b.getD i default) = true := bne_iff_ne.2 c
      have hne : a.drop i ≠ b.drop i := by rw [ea, eb]; exact fun e => c (List.cons.inj e).1
      exact ⟨fun h => absurd h hne, fun _ => .stop hO hm (s1 a b i) (by simp) ⟨q1, ⟨rfl, get_map I a i ha⟩, ⟨rfl, get_map I b i hb⟩, q⟩⟩

section
variable (a b : List Int)
theorem f1 : callX Tryd.prog wr false O 30 [.d (L a), .d (L b)] [] [.br true] = some (.d (.bool false), [], [((((a.map I).length : Nat) : Int) != (((b.map I).length : Nat) : Int)) = true]) := by kernel_rfl
theorem f2 : callX Tryd.prog wr false O 30 [.d (L a), .d (L b)] [] [.br false, .lp [0, 1, 5] (.exit 0) E] = some (.d (.bool true), [], [((((a.map I).length : Nat) : Int) != (((b.map I).length : Nat) : Int)) = false, GoesL Tryd.prog (loopOf Tryd.prog 30 0) (H a b 0) (.exit 0) E]) := by kernel_rfl
theorem f3 : callX Tryd.prog wr false O 30 [.d (L a), .d (L b)] [] [.br false, .lp [0, 1, 5] .ret R] = some (.d (.bool false), [], [((((a.map I).length : Nat) : Int) != (((b.map I).length : Nat) : Int)) = false, GoesL Tryd.prog (loopOf Tryd.prog 30 0) (H a b 0) .ret R]) := by kernel_rfl
end

theorem icall (a b : List Int) (hs : a.length ≤ 1000000) : ICall Tryd.prog 30 [.d (L a), .d (L b)] [] (.d (.bool (decide (a = b)))) [] := by
  by_cases hl : a.length = b.length
  · have hd : ((((a.map I).length : Nat) : Int) != (((b.map I).length : Nat) : Int)) = false := by simp [hl]
    obtain ⟨l1, l2⟩ := loop a b hl hs a.length 0 rfl (by omega)
    by_cases c : a = b
    · rw [decide_eq_true c]
      exact callX_ok hO hm (f2 a b) ⟨hd, l1 (by simpa using c)⟩
    · rw [decide_eq_false c]
      exact callX_ok hO hm (f3 a b) ⟨hd, l2 (by simpa using c)⟩
  · have c : a ≠ b := fun e => hl (by rw [e])
    rw [decide_eq_false c]
    exact callX_ok hO hm (f1 a b) (by simp [AllP]; omega)
end Go.Proofs.YtihbpbdmhiihnaaDoor.Sy.SameInts
/- Same, of one circuit with itself; gate. -/
namespace Go.Proofs.YtihbpbdmhiihnaaDoor.Sy.Law
open Go Go.Proofs.YtihbpbdmhiihnaaDoor.Ab Go.Proofs.YtihbpbdmhiihnaaDoor.Sy
set_option maxRecDepth 1000000
set_option linter.unusedVariables false
section
variable (c : Ci) (r : Rw) (x y z : Int) (g : List Int) (i u N : Nat)
theorem g1  : callX Tryd.prog wr false O 9 [.d r.d] [] [It.br true, It.br true] = some (V.d (D.bool true), [],
  [decide ((↑(List.map I r.ins).length : Int) > 60) = true,
   ((↑(List.map I r.ins).length : Int) != 1001) = true]) := by kernel_rfl
theorem g2  : callX Tryd.prog wr false O 9 [.d r.d] [] [It.br true, It.br false, It.br true] = some (V.d (D.bool true), [],
  [decide ((↑(List.map I r.ins).length : Int) > 60) = true,
   ((↑(List.map I r.ins).length : Int) != 1001) = false,
   decide ((↑(List.map Df.d r.lats).length : Int) > 60) = true]) := by kernel_rfl
theorem g3  : callX Tryd.prog wr false O 9 [.d r.d] [] [It.br true, It.br false, It.br false, It.br true] = some (V.d (D.bool true), [],
  [decide ((↑(List.map I r.ins).length : Int) > 60) = true,
   ((↑(List.map I r.ins).length : Int) != 1001) = false,
   decide ((↑(List.map Df.d r.lats).length : Int) > 60) = false,
   decide ((↑(List.map Df.d r.ands).length : Int) > 60) = true]) := by kernel_rfl
theorem g4  : callX Tryd.prog wr false O 9 [.d r.d] [] [It.br true, It.br false, It.br false, It.br false, It.br true] = some (V.d (D.bool true), [],
  [decide ((↑(List.map I r.ins).length : Int) > 60) = true,
   ((↑(List.map I r.ins).length : Int) != 1001) = false,
   decide ((↑(List.map Df.d r.lats).length : Int) > 60) = false,
   decide ((↑(List.map Df.d r.ands).length : Int) > 60) = false,
   decide ((↑(List.map I r.bads).length : Int) > 110) = true]) := by kernel_rfl
theorem g5  : callX Tryd.prog wr false O 9 [.d r.d] [] [It.br true, It.br false, It.br false, It.br false, It.br false, It.br true] = some (V.d (D.bool true), [],
  [decide ((↑(List.map I r.ins).length : Int) > 60) = true,
   ((↑(List.map I r.ins).length : Int) != 1001) = false,
   decide ((↑(List.map Df.d r.lats).length : Int) > 60) = false,
   decide ((↑(List.map Df.d r.ands).length : Int) > 60) = false,
   decide ((↑(List.map I r.bads).length : Int) > 110) = false,
   decide ((↑(List.map I r.cons).length : Int) > 110) = true]) := by kernel_rfl
theorem g6  : callX Tryd.prog wr false O 9 [.d r.d] [] [It.br true, It.br false, It.br false, It.br false, It.br false, It.br false, It.br true, It.br true] = some (V.d (D.bool true), [],
  [decide ((↑(List.map I r.ins).length : Int) > 60) = true,
   ((↑(List.map I r.ins).length : Int) != 1001) = false,
   decide ((↑(List.map Df.d r.lats).length : Int) > 60) = false,
   decide ((↑(List.map Df.d r.ands).length : Int) > 60) = false,
   decide ((↑(List.map I r.bads).length : Int) > 110) = false,
   decide ((↑(List.map I r.cons).length : Int) > 110) = false,
   decide (r.most > 200) = true,
   decide (r.most < 991) = true]) := by kernel_rfl
theorem g7  : callX Tryd.prog wr false O 9 [.d r.d] [] [It.br true, It.br false, It.br false, It.br false, It.br false, It.br false, It.br true, It.br false] = some (V.d (D.bool false), [],
  [decide ((↑(List.map I r.ins).length : Int) > 60) = true,
   ((↑(List.map I r.ins).length : Int) != 1001) = false,
   decide ((↑(List.map Df.d r.lats).length : Int) > 60) = false,
   decide ((↑(List.map Df.d r.ands).length : Int) > 60) = false,
   decide ((↑(List.map I r.bads).length : Int) > 110) = false,
   decide ((↑(List.map I r.cons).length : Int) > 110) = false,
   decide (r.most > 200) = true,
   decide (r.most < 991) = false]) := by kernel_rfl
theorem g8  : callX Tryd.prog wr false O 9 [.d r.d] [] [It.br true, It.br false, It.br false, It.br false, It.br false, It.br false, It.br false] = some (V.d (D.bool false), [],
  [decide ((↑(List.map I r.ins).length : Int) > 60) = true,
   ((↑(List.map I r.ins).length : Int) != 1001) = false,
   decide ((↑(List.map Df.d r.lats).length : Int) > 60) = false,
   decide ((↑(List.map Df.d r.ands).length : Int) > 60) = false,
   decide ((↑(List.map I r.bads).length : Int) > 110) = false,
   decide ((↑(List.map I r.cons).length : Int) > 110) = false,
   decide (r.most > 200) = false]) := by kernel_rfl
theorem g9  : callX Tryd.prog wr false O 9 [.d r.d] [] [It.br false, It.br true] = some (V.d (D.bool true), [],
  [decide ((↑(List.map I r.ins).length : Int) > 60) = false,
   decide ((↑(List.map Df.d r.lats).length : Int) > 60) = true]) := by kernel_rfl
theorem g10  : callX Tryd.prog wr false O 9 [.d r.d] [] [It.br false, It.br false, It.br true] = some (V.d (D.bool true), [],
  [decide ((↑(List.map I r.ins).length : Int) > 60) = false,
   decide ((↑(List.map Df.d r.lats).length : Int) > 60) = false,
   decide ((↑(List.map Df.d r.ands).length : Int) > 60) = true]) := by kernel_rfl
theorem g11  : callX Tryd.prog wr false O 9 [.d r.d] [] [It.br false, It.br false, It.br false, It.br true] = some (V.d (D.bool true), [],
  [decide ((↑(List.map I r.ins).length : Int) > 60) = false,
   decide ((↑(List.map Df.d r.lats).length : Int) > 60) = false,
   decide ((↑(List.map Df.d r.ands).length : Int) > 60) = false,
   decide ((↑(List.map I r.bads).length : Int) > 110) = true]) := by kernel_rfl
theorem g12  : callX Tryd.prog wr false O 9 [.d r.d] [] [It.br false, It.br false, It.br false, It.br false, It.br true] = some (V.d (D.bool true), [],
  [decide ((↑(List.map I r.ins).length : Int) > 60) = false,
   decide ((↑(List.map Df.d r.lats).length : Int) > 60) = false,
   decide ((↑(List.map Df.d r.ands).length : Int) > 60) = false,
   decide ((↑(List.map I r.bads).length : Int) > 110) = false,
   decide ((↑(List.map I r.cons).length : Int) > 110) = true]) := by kernel_rfl
theorem g13  : callX Tryd.prog wr false O 9 [.d r.d] [] [It.br false, It.br false, It.br false, It.br false, It.br false, It.br true, It.br true] = some (V.d (D.bool true), [],
  [decide ((↑(List.map I r.ins).length : Int) > 60) = false,
   decide ((↑(List.map Df.d r.lats).length : Int) > 60) = false,
   decide ((↑(List.map Df.d r.ands).length : Int) > 60) = false,
   decide ((↑(List.map I r.bads).length : Int) > 110) = false,
   decide ((↑(List.map I r.cons).length : Int) > 110) = false,
   decide (r.most > 200) = true,
   decide (r.most < 991) = true]) := by kernel_rfl
theorem g14  : callX Tryd.prog wr false O 9 [.d r.d] [] [It.br false, It.br false, It.br false, It.br false, It.br false, It.br true, It.br false] = some (V.d (D.bool false), [],
  [decide ((↑(List.map I r.ins).length : Int) > 60) = false,
   decide ((↑(List.map Df.d r.lats).length : Int) > 60) = false,
   decide ((↑(List.map Df.d r.ands).length : Int) > 60) = false,
   decide ((↑(List.map I r.bads).length : Int) > 110) = false,
   decide ((↑(List.map I r.cons).length : Int) > 110) = false,
   decide (r.most > 200) = true,
   decide (r.most < 991) = false]) := by kernel_rfl
theorem g15  : callX Tryd.prog wr false O 9 [.d r.d] [] [It.br false, It.br false, It.br false, It.br false, It.br false, It.br false] = some (V.d (D.bool false), [],
  [decide ((↑(List.map I r.ins).length : Int) > 60) = false,
   decide ((↑(List.map Df.d r.lats).length : Int) > 60) = false,
   decide ((↑(List.map Df.d r.ands).length : Int) > 60) = false,
   decide ((↑(List.map I r.bads).length : Int) > 110) = false,
   decide ((↑(List.map I r.cons).length : Int) > 110) = false,
   decide (r.most > 200) = false]) := by kernel_rfl
end
def great (r : Rw) : Bool := decide ((r.ins.length : Int) > 60) && (((r.ins.length : Nat) : Int) != 1001) || (decide ((r.lats.length : Int) > 60) || (decide ((r.ands.length : Int) > 60) || (decide ((r.bads.length : Int) > 110) || (decide ((r.cons.length : Int) > 110) || (decide (r.most > 200) && decide (r.most < 991))))))
theorem great_ok (r : Rw) : ICall Tryd.prog 9 [.d r.d] [] (.d (.bool (great r))) [] := by
  unfold great
  have e1 : (r.ins.map I).length = r.ins.length := List.length_map _
  have e2 : (r.lats.map Df.d).length = r.lats.length := List.length_map _
  have e3 : (r.ands.map Df.d).length = r.ands.length := List.length_map _
  have e4 : (r.bads.map I).length = r.bads.length := List.length_map _
  have e5 : (r.cons.map I).length = r.cons.length := List.length_map _
  rw [← e1, ← e2, ← e3, ← e4, ← e5]
  cases c1 : decide ((((r.ins.map I).length : Nat) : Int) > 60) with
  | true =>
    cases c2 : (((r.ins.map I).length : Nat) : Int) != 1001 with
    | true => exact callX_ok hO hm (g1 r) ⟨c1, c2⟩
    | false =>
    cases c3 : decide ((((r.lats.map Df.d).length : Nat) : Int) > 60) with
    | true => exact callX_ok hO hm (g2 r) ⟨c1, c2, c3⟩
    | false =>
    cases c4 : decide ((((r.ands.map Df.d).length : Nat) : Int) > 60) with
    | true => exact callX_ok hO hm (g3 r) ⟨c1, c2, c3, c4⟩
    | false =>
    cases c5 : decide ((((r.bads.map I).length : Nat) : Int) > 110) with
    | true => exact callX_ok hO hm (g4 r) ⟨c1, c2, c3, c4, c5⟩
    | false =>
    cases c6 : decide ((((r.cons.map I).length : Nat) : Int) > 110) with
    | true => exact callX_ok hO hm (g5 r) ⟨c1, c2, c3, c4, c5, c6⟩
    | false =>
    cases c7 : decide (r.most > 200) with
    | false => exact callX_ok hO hm (g8 r) ⟨c1, c2, c3, c4, c5, c6, c7⟩
    | true =>
    cases c8 : decide (r.most < 991) with
    | true => exact callX_ok hO hm (g6 r) ⟨c1, c2, c3, c4, c5, c6, c7, c8⟩
    | false => exact callX_ok hO hm (g7 r) ⟨c1, c2, c3, c4, c5, c6, c7, c8⟩
  | false =>
    cases c3 : decide ((((r.lats.map Df.d).length : Nat) : Int) > 60) with
    | true => exact callX_ok hO hm (g9 r) ⟨c1, c3⟩
    | false =>
    cases c4 : decide ((((r.ands.map Df.d).length : Nat) : Int) > 60) with
    | true => exact callX_ok hO hm (g10 r) ⟨c1, c3, c4⟩
    | false =>
    cases c5 : decide ((((r.bads.map I).length : Nat) : Int) > 110) with
    | true => exact callX_ok hO hm (g11 r) ⟨c1, c3, c4, c5⟩
    | false =>
    cases c6 : decide ((((r.cons.map I).length : Nat) : Int) > 110) with
    | true => exact callX_ok hO hm (g12 r) ⟨c1, c3, c4, c5, c6⟩
    | false =>
    cases c7 : decide (r.most > 200) with
    | false => exact callX_ok hO hm (g15 r) ⟨c1, c3, c4, c5, c6, c7⟩
    | true =>
    cases c8 : decide (r.most < 991) with
    | true => exact callX_ok hO hm (g13 r) ⟨c1, c3, c4, c5, c6, c7, c8⟩
    | false => exact callX_ok hO hm (g14 r) ⟨c1, c3, c4, c5, c6, c7, c8⟩

end Go.Proofs.YtihbpbdmhiihnaaDoor.Sy.Law
/- ref07: round by round. -/
namespace Go.Proofs.YtihbpbdmhiihnaaDoor.Sy.R7
open Go Go.Proofs.YtihbpbdmhiihnaaDoor.Ab Go.Proofs.YtihbpbdmhiihnaaDoor.Sy
set_option maxRecDepth 1000000
set_option linter.unusedVariables false
def Hg (n : Int) (s : List UInt8) : St := ⟨mk 23 [(0, .d (I n)), (3, .d (.str s))] [], []⟩
def Hn (ns : List Int) (s : List UInt8) (i : Nat) : St := ⟨mk 24 [(0, .d (L ns)), (3, .d (.str s)), (4, .d (I i))] [], []⟩
def En (s : List UInt8) : St := ⟨mk 24 [(3, .d (.str s))] [], []⟩
def Hw (r : Rw) (s : List UInt8) (sl : List (Nat × V)) : St := ⟨mk 144 ([(1, .ptr 0 0), (3, .d (.str s))] ++ sl) [], [r.box]⟩
section
variable (r : Rw) (s s1 s2 s3 s4 s5 s6 : List UInt8) (n e : Int) (i : Nat) (ns : List Int) (c : UInt8)
theorem g1 : round Tryd.prog wr false O (loopOf Tryd.prog 65 0) (Hg n s) [It.br true, It.is (n % 10), It.is (48 + n % 10), It.is (48 + n % 10), It.raw, It.st [c], It.raw, It.is (n / 10)] [0, 3] 0 = some (.normal, Hg (n / 10) (c :: s),
  [decide (n > 9) = true,
   n.tmod 10 = n % 10,
   IntKind.i64.wrap (48 + n % 10) = 48 + n % 10,
   IntKind.u8.wrap (48 + n % 10) = 48 + n % 10,
   [D.int IntKind.u8 (48 + n % 10)] = List.map u8 [c],
   [c].length + s.length < 4611686018427387904,
   IntKind.i64.wrap (n.tdiv 10) = n / 10]) := by kernel_rfl
theorem g2 : round Tryd.prog wr false O (loopOf Tryd.prog 65 0) (Hg n s) [It.br false] [0, 3] 0 = some (.exit 0, Hg n s,
  [decide (n > 9) = false]) := by kernel_rfl
theorem g3  : callX Tryd.prog wr false O 65 [.d (I e)] [] [It.lp [0, 3] (Ex.exit 0) (Hg n s), It.is (48 + n), It.is (48 + n), It.raw, It.st [c], It.raw] = some (.d (.str (c :: s)), [],
  [GoesL Tryd.prog (loopOf Tryd.prog 65 0) (⟨mk 23 [(0, V.d (D.int IntKind.i64 e)), (3, V.d (D.str (ByteArray.mk #[]).data.toList))] [], []⟩) (Ex.exit 0) (Hg n s),
   IntKind.i64.wrap (48 + n) = 48 + n,
   IntKind.u8.wrap (48 + n) = 48 + n,
   [D.int IntKind.u8 (48 + n)] = List.map u8 [c],
   [c].length + s.length < 4611686018427387904]) := by kernel_rfl
theorem n1 : round Tryd.prog wr false O (loopOf Tryd.prog 52 0) (Hn ns s i) [It.br true, It.br true, It.raw, It.el i (I (ns.getD i default)), It.icall [] (V.d (D.str s1)) [], It.raw, It.is (↑(i + 1) : Int)] [0, 3, 4] 0 = some (.normal, Hn ns (s ++ [32] ++ s1) (i + 1),
  [decide ((↑i : Int) < (↑(List.map I ns).length : Int)) = true,
   decide ((↑i : Int) > 0) = true,
   s.length + 1 < 4611686018427387904,
   (↑i : Int) = (↑i : Int) ∧ (List.map I ns)[i]? = some (I (ns.getD i default)),
   ICall Tryd.prog 65 [V.d (I (ns.getD i default))] [] (V.d (D.str s1)) [],
   (s ++ (ByteArray.mk #[32]).data.toList).length + s1.length < 4611686018427387904,
   IntKind.i64.wrap ((↑i : Int) + 1) = (↑(i + 1) : Int)]) := by kernel_rfl
theorem n2 : round Tryd.prog wr false O (loopOf Tryd.prog 52 0) (Hn ns s i) [It.br true, It.br false, It.el i (I (ns.getD i default)), It.icall [] (V.d (D.str s1)) [], It.raw, It.is (↑(i + 1) : Int)] [0, 3, 4] 0 = some (.normal, Hn ns (s ++ s1) (i + 1),
  [decide ((↑i : Int) < (↑(List.map I ns).length : Int)) = true,
   decide ((↑i : Int) > 0) = false,
   (↑i : Int) = (↑i : Int) ∧ (List.map I ns)[i]? = some (I (ns.getD i default)),
   ICall Tryd.prog 65 [V.d (I (ns.getD i default))] [] (V.d (D.str s1)) [],
   s.length + s1.length < 4611686018427387904,
   IntKind.i64.wrap ((↑i : Int) + 1) = (↑(i + 1) : Int)]) := by kernel_rfl
theorem n3 : round Tryd.prog wr false O (loopOf Tryd.prog 52 0) (Hn ns s i) [It.br false] [3] 0 = some (.exit 0, En s,
  [decide ((↑i : Int) < (↑(List.map I ns).length : Int)) = false]) := by kernel_rfl
theorem n4  : callX Tryd.prog wr false O 52 [.d (L ns)] [] [It.lp [0, 3, 4] (Ex.exit 0) (En s), It.raw] = some (.d (.str (s ++ [10])), [],
  [GoesL Tryd.prog (loopOf Tryd.prog 52 0) (⟨mk 24 [(0, V.d (D.sl (List.map I ns))), (3, V.d (D.str (ByteArray.mk #[]).data.toList)), (4, V.d (D.int IntKind.i64 0))] [], []⟩) (Ex.exit 0) (En s),
   s.length + 1 < 4611686018427387904]) := by kernel_rfl
theorem a1 : round Tryd.prog wr false O (loopOf Tryd.prog 28 0) (Hw r s [(4, .d (I i))]) [It.br true, It.el i (I (r.ins.getD i default)), It.raw, It.icall [] (V.d (D.str s1)) [], It.raw, It.is (↑(i + 1) : Int)] [1, 3, 4] 1 = some (.normal, Hw r (s ++ s1) [(4, .d (I (i + 1 : Nat)))],
  [decide ((↑i : Int) < (↑(List.map I r.ins).length : Int)) = true,
   (↑i : Int) = (↑i : Int) ∧ (List.map I r.ins)[i]? = some (I (r.ins.getD i default)),
   ICall Tryd.prog 52 [V.d (D.sl [I (r.ins.getD i default)])] [] (V.d (D.str s1)) [],
   s.length + s1.length < 4611686018427387904,
   IntKind.i64.wrap ((↑i : Int) + 1) = (↑(i + 1) : Int)]) := by kernel_rfl
theorem a2 : round Tryd.prog wr false O (loopOf Tryd.prog 28 0) (Hw r s [(4, .d (I i))]) [It.br false] [1, 3] 1 = some (.exit 0, Hw r s [],
  [decide ((↑i : Int) < (↑(List.map I r.ins).length : Int)) = false]) := by kernel_rfl
theorem c1 : round Tryd.prog wr false O (loopOf Tryd.prog 28 2) (Hw r s [(8, .d (I i))]) [It.br true, It.el i (I (r.bads.getD i default)), It.raw, It.icall [] (V.d (D.str s1)) [], It.raw, It.is (↑(i + 1) : Int)] [1, 3, 8] 1 = some (.normal, Hw r (s ++ s1) [(8, .d (I (i + 1 : Nat)))],
  [decide ((↑i : Int) < (↑(List.map I r.bads).length : Int)) = true,
   (↑i : Int) = (↑i : Int) ∧ (List.map I r.bads)[i]? = some (I (r.bads.getD i default)),
   ICall Tryd.prog 52 [V.d (D.sl [I (r.bads.getD i default)])] [] (V.d (D.str s1)) [],
   s.length + s1.length < 4611686018427387904,
   IntKind.i64.wrap ((↑i : Int) + 1) = (↑(i + 1) : Int)]) := by kernel_rfl
theorem c2 : round Tryd.prog wr false O (loopOf Tryd.prog 28 2) (Hw r s [(8, .d (I i))]) [It.br false] [1, 3] 1 = some (.exit 4, Hw r s [],
  [decide ((↑i : Int) < (↑(List.map I r.bads).length : Int)) = false]) := by kernel_rfl
theorem d1 : round Tryd.prog wr false O (loopOf Tryd.prog 28 3) (Hw r s [(9, .d (I i))]) [It.br true, It.el i (I (r.cons.getD i default)), It.raw, It.icall [] (V.d (D.str s1)) [], It.raw, It.is (↑(i + 1) : Int)] [1, 3, 9] 1 = some (.normal, Hw r (s ++ s1) [(9, .d (I (i + 1 : Nat)))],
  [decide ((↑i : Int) < (↑(List.map I r.cons).length : Int)) = true,
   (↑i : Int) = (↑i : Int) ∧ (List.map I r.cons)[i]? = some (I (r.cons.getD i default)),
   ICall Tryd.prog 52 [V.d (D.sl [I (r.cons.getD i default)])] [] (V.d (D.str s1)) [],
   s.length + s1.length < 4611686018427387904,
   IntKind.i64.wrap ((↑i : Int) + 1) = (↑(i + 1) : Int)]) := by kernel_rfl
theorem d2 : round Tryd.prog wr false O (loopOf Tryd.prog 28 3) (Hw r s [(9, .d (I i))]) [It.br false] [1, 3] 1 = some (.exit 6, Hw r s [],
  [decide ((↑i : Int) < (↑(List.map I r.cons).length : Int)) = false]) := by kernel_rfl
theorem e1 : round Tryd.prog wr false O (loopOf Tryd.prog 28 4) (Hw r s [(10, .d (I i))]) [It.br true, It.el i (r.ands.getD i default).d, It.el i (r.ands.getD i default).d, It.el i (r.ands.getD i default).d, It.raw, It.icall [] (V.d (D.str s1)) [], It.raw, It.is (↑(i + 1) : Int)] [1, 3, 10] 1 = some (.normal, Hw r (s ++ s1) [(10, .d (I (i + 1 : Nat)))],
  [decide ((↑i : Int) < (↑(List.map Df.d r.ands).length : Int)) = true,
   (↑i : Int) = (↑i : Int) ∧ (List.map Df.d r.ands)[i]? = some (r.ands.getD i default).d,
   (↑i : Int) = (↑i : Int) ∧ (List.map Df.d r.ands)[i]? = some (r.ands.getD i default).d,
   (↑i : Int) = (↑i : Int) ∧ (List.map Df.d r.ands)[i]? = some (r.ands.getD i default).d,
   ICall Tryd.prog 52 [V.d (D.sl [I (r.ands.getD i default).lit, I (r.ands.getD i default).a, I (r.ands.getD i default).b])] [] (V.d (D.str s1)) [],
   s.length + s1.length < 4611686018427387904,
   IntKind.i64.wrap ((↑i : Int) + 1) = (↑(i + 1) : Int)]) := by kernel_rfl
theorem e2 : round Tryd.prog wr false O (loopOf Tryd.prog 28 4) (Hw r s [(10, .d (I i))]) [It.br false] [1, 3] 1 = some (.exit 8, Hw r s [],
  [decide ((↑i : Int) < (↑(List.map Df.d r.ands).length : Int)) = false]) := by kernel_rfl
theorem b1 : round Tryd.prog wr false O (loopOf Tryd.prog 28 1) (Hw r s [(5, .d (I i))]) [It.br true, It.el i (r.lats.getD i default).d, It.own, It.br true, It.raw, It.raw, It.raw, It.br false, It.ret (V.d (D.str s1)), It.raw, It.is (↑(i + 1) : Int)] [1, 3, 5] 1 = some (.normal, Hw r (s ++ s1) [(5, .d (I (i + 1 : Nat)))],
  [decide ((↑i : Int) < (↑(List.map Df.d r.lats).length : Int)) = true,
   (↑i : Int) = (↑i : Int) ∧ (List.map Df.d r.lats)[i]? = some (r.lats.getD i default).d,
   ((r.lats.getD i default).b == 1) = true,
   [I (r.lats.getD i default).lit, I (r.lats.getD i default).a].length + 1 ≤ maxItems,
   ((r.lats.getD i default).b == 2) = false,
   ICall Tryd.prog 52 [V.d (D.sl [D.int IntKind.i64 (r.lats.getD i default).lit, D.int IntKind.i64 (r.lats.getD i default).a, D.int IntKind.i64 1])] [] (V.d (D.str s1)) [] ∧ (List.flatMap refs ([V.arr 2] ++ []) = [] ∨ (V.d (D.str s1)).safe = true),
   s.length + s1.length < 4611686018427387904,
   IntKind.i64.wrap ((↑i : Int) + 1) = (↑(i + 1) : Int)]) := by kernel_rfl
theorem b2 : round Tryd.prog wr false O (loopOf Tryd.prog 28 1) (Hw r s [(5, .d (I i))]) [It.br true, It.el i (r.lats.getD i default).d, It.own, It.br false, It.br true, It.raw, It.raw, It.raw, It.ret (V.d (D.str s1)), It.raw, It.is (↑(i + 1) : Int)] [1, 3, 5] 1 = some (.normal, Hw r (s ++ s1) [(5, .d (I (i + 1 : Nat)))],
  [decide ((↑i : Int) < (↑(List.map Df.d r.lats).length : Int)) = true,
   (↑i : Int) = (↑i : Int) ∧ (List.map Df.d r.lats)[i]? = some (r.lats.getD i default).d,
   ((r.lats.getD i default).b == 1) = false,
   ((r.lats.getD i default).b == 2) = true,
   [I (r.lats.getD i default).lit, I (r.lats.getD i default).a].length + [I (r.lats.getD i default).lit].length ≤ maxItems,
   ICall Tryd.prog 52 [V.d (D.sl [D.int IntKind.i64 (r.lats.getD i default).lit, D.int IntKind.i64 (r.lats.getD i default).a, D.int IntKind.i64 (r.lats.getD i default).lit])] [] (V.d (D.str s1)) [] ∧ (List.flatMap refs ([V.arr 2] ++ []) = [] ∨ (V.d (D.str s1)).safe = true),
   s.length + s1.length < 4611686018427387904,
   IntKind.i64.wrap ((↑i : Int) + 1) = (↑(i + 1) : Int)]) := by kernel_rfl
theorem b3 : round Tryd.prog wr false O (loopOf Tryd.prog 28 1) (Hw r s [(5, .d (I i))]) [It.br true, It.el i (r.lats.getD i default).d, It.own, It.br false, It.br false, It.ret (V.d (D.str s1)), It.raw, It.is (↑(i + 1) : Int)] [1, 3, 5] 1 = some (.normal, Hw r (s ++ s1) [(5, .d (I (i + 1 : Nat)))],
  [decide ((↑i : Int) < (↑(List.map Df.d r.lats).length : Int)) = true,
   (↑i : Int) = (↑i : Int) ∧ (List.map Df.d r.lats)[i]? = some (r.lats.getD i default).d,
   ((r.lats.getD i default).b == 1) = false,
   ((r.lats.getD i default).b == 2) = false,
   ICall Tryd.prog 52 [V.d (D.sl [D.int IntKind.i64 (r.lats.getD i default).lit, D.int IntKind.i64 (r.lats.getD i default).a])] [] (V.d (D.str s1)) [] ∧ (List.flatMap refs ([V.arr 2] ++ []) = [] ∨ (V.d (D.str s1)).safe = true),
   s.length + s1.length < 4611686018427387904,
   IntKind.i64.wrap ((↑i : Int) + 1) = (↑(i + 1) : Int)]) := by kernel_rfl
theorem b4 : round Tryd.prog wr false O (loopOf Tryd.prog 28 1) (Hw r s [(5, .d (I i))]) [It.br false] [1, 3] 1 = some (.exit 2, Hw r s [],
  [decide ((↑i : Int) < (↑(List.map Df.d r.lats).length : Int)) = false]) := by kernel_rfl
theorem w1  : callX Tryd.prog wr false O 28 [.d r.d] [] [It.raw, It.icall [] (V.d (D.str s)) [], It.raw, It.lp [1, 3, 4] (Ex.exit 0) (Hw r s1 []), It.lp [1, 3, 5] (Ex.exit 2) (Hw r s2 []), It.lp [1, 3, 8] (Ex.exit 4) (Hw r s3 []), It.lp [1, 3, 9] (Ex.exit 6) (Hw r s4 []), It.lp [1, 3, 10] (Ex.exit 8) (Hw r s5 [])] = some (V.d (D.str s5), [],
  [ICall Tryd.prog 52 [V.d (D.sl [I r.most, D.int IntKind.i64 (↑(List.map I r.ins).length : Int), D.int IntKind.i64 (↑(List.map Df.d r.lats).length : Int), D.int IntKind.i64 0, D.int IntKind.i64 (↑(List.map Df.d r.ands).length : Int), D.int IntKind.i64 (↑(List.map I r.bads).length : Int), D.int IntKind.i64 (↑(List.map I r.cons).length : Int)])] [] (V.d (D.str s)) [],
   4 + s.length < 4611686018427387904,
   GoesL Tryd.prog (loopOf Tryd.prog 28 0) (⟨mk 144 [(1, V.ptr 0 0), (3, V.d (D.str ((ByteArray.mk #[97, 97, 103, 32]).data.toList ++ s))), (4, V.d (D.int IntKind.i64 0))] [], [B.bx none [V.d (D.int IntKind.i64 r.most), V.d (D.sl (List.map I r.ins)), V.d (D.sl (List.map Df.d r.lats)), V.d (D.sl (List.map Df.d r.ands)), V.d (D.sl (List.map I r.bads)), V.d (D.sl (List.map I r.cons))]]⟩) (Ex.exit 0) (Hw r s1 []),
   GoesL Tryd.prog (loopOf Tryd.prog 28 1) (⟨mk 144 [(1, V.ptr 0 0), (3, V.d (D.str s1)), (5, V.d (D.int IntKind.i64 0))] [], [B.bx none [V.d (D.int IntKind.i64 r.most), V.d (D.sl (List.map I r.ins)), V.d (D.sl (List.map Df.d r.lats)), V.d (D.sl (List.map Df.d r.ands)), V.d (D.sl (List.map I r.bads)), V.d (D.sl (List.map I r.cons))]]⟩) (Ex.exit 2) (Hw r s2 []),
   GoesL Tryd.prog (loopOf Tryd.prog 28 2) (⟨mk 144 [(1, V.ptr 0 0), (3, V.d (D.str s2)), (8, V.d (D.int IntKind.i64 0))] [], [B.bx none [V.d (D.int IntKind.i64 r.most), V.d (D.sl (List.map I r.ins)), V.d (D.sl (List.map Df.d r.lats)), V.d (D.sl (List.map Df.d r.ands)), V.d (D.sl (List.map I r.bads)), V.d (D.sl (List.map I r.cons))]]⟩) (Ex.exit 4) (Hw r s3 []),
   GoesL Tryd.prog (loopOf Tryd.prog 28 3) (⟨mk 144 [(1, V.ptr 0 0), (3, V.d (D.str s3)), (9, V.d (D.int IntKind.i64 0))] [], [B.bx none [V.d (D.int IntKind.i64 r.most), V.d (D.sl (List.map I r.ins)), V.d (D.sl (List.map Df.d r.lats)), V.d (D.sl (List.map Df.d r.ands)), V.d (D.sl (List.map I r.bads)), V.d (D.sl (List.map I r.cons))]]⟩) (Ex.exit 6) (Hw r s4 []),
   GoesL Tryd.prog (loopOf Tryd.prog 28 4) (⟨mk 144 [(1, V.ptr 0 0), (3, V.d (D.str s4)), (10, V.d (D.int IntKind.i64 0))] [], [B.bx none [V.d (D.int IntKind.i64 r.most), V.d (D.sl (List.map I r.ins)), V.d (D.sl (List.map Df.d r.lats)), V.d (D.sl (List.map Df.d r.ands)), V.d (D.sl (List.map I r.bads)), V.d (D.sl (List.map I r.cons))]]⟩) (Ex.exit 8) (Hw r s5 [])]) := by kernel_rfl
theorem raw1  : callX Tryd.prog wr false O 12 [.d r.d] [] [It.icall [] (V.d (I e)) [], It.br true, It.icall [] (V.d (I e)) []] = some (V.tup [V.d (D.str (ByteArray.mk #[]).data.toList), V.d (D.int IntKind.i64 e)], [],
  [ICall Tryd.prog 19 [V.d (D.agg [I r.most, L r.ins, D.sl (List.map Df.d r.lats), D.sl (List.map Df.d r.ands), L r.bads, L r.cons])] [] (V.d (I e)) [],
   (e != 0) = true,
   ICall Tryd.prog 19 [V.d (D.agg [I r.most, L r.ins, D.sl (List.map Df.d r.lats), D.sl (List.map Df.d r.ands), L r.bads, L r.cons])] [] (V.d (I e)) []]) := by kernel_rfl
theorem raw0  : callX Tryd.prog wr false O 12 [.d r.d] [] [It.icall [] (V.d (I 0)) [], It.br false, It.icall [] (V.d (D.str s)) []] = some (V.tup [V.d (D.str s), V.d (D.int IntKind.i64 0)], [],
  [ICall Tryd.prog 19 [V.d (D.agg [I r.most, L r.ins, D.sl (List.map Df.d r.lats), D.sl (List.map Df.d r.ands), L r.bads, L r.cons])] [] (V.d (I 0)) [],
   (0 != 0) = false,
   ICall Tryd.prog 28 [V.d (D.agg [I r.most, L r.ins, D.sl (List.map Df.d r.lats), D.sl (List.map Df.d r.ands), L r.bads, L r.cons])] [] (V.d (D.str s)) []]) := by kernel_rfl
theorem lin1  : callX Tryd.prog wr false O 14 [.d r.d] [] [It.icall [] (V.d (I e)) [], It.br true, It.icall [] (V.d (I e)) []] = some (V.tup [V.d (D.int IntKind.i64 0), V.d (D.int IntKind.i64 e)], [],
  [ICall Tryd.prog 19 [V.d (D.agg [I r.most, L r.ins, D.sl (List.map Df.d r.lats), D.sl (List.map Df.d r.ands), L r.bads, L r.cons])] [] (V.d (I e)) [],
   (e != 0) = true,
   ICall Tryd.prog 19 [V.d (D.agg [I r.most, L r.ins, D.sl (List.map Df.d r.lats), D.sl (List.map Df.d r.ands), L r.bads, L r.cons])] [] (V.d (I e)) []]) := by kernel_rfl
theorem lin0  : callX Tryd.prog wr false O 14 [.d r.d] [] [It.icall [] (V.d (I 0)) [], It.br false, It.icall [] (V.d (I n)) []] = some (V.tup [V.d (D.int IntKind.i64 n), V.d (D.int IntKind.i64 0)], [],
  [ICall Tryd.prog 19 [V.d (D.agg [I r.most, L r.ins, D.sl (List.map Df.d r.lats), D.sl (List.map Df.d r.ands), L r.bads, L r.cons])] [] (V.d (I 0)) [],
   (0 != 0) = false,
   ICall Tryd.prog 29 [V.d (D.agg [I r.most, L r.ins, D.sl (List.map Df.d r.lats), D.sl (List.map Df.d r.ands), L r.bads, L r.cons])] [] (V.d (I n)) []]) := by kernel_rfl
theorem cnt  : callX Tryd.prog wr false O 29 [.d r.d] [] [It.is (↑(1 + (List.map I r.ins).length) : Int), It.is (↑(1 + (List.map I r.ins).length + (List.map Df.d r.lats).length) : Int), It.is (↑(1 + (List.map I r.ins).length + (List.map Df.d r.lats).length + (List.map Df.d r.ands).length) : Int), It.is (↑(1 + (List.map I r.ins).length + (List.map Df.d r.lats).length + (List.map Df.d r.ands).length + (List.map I r.bads).length) : Int), It.is (↑(1 + (List.map I r.ins).length + (List.map Df.d r.lats).length + (List.map Df.d r.ands).length + (List.map I r.bads).length + (List.map I r.cons).length) : Int)] = some (V.d (D.int IntKind.i64 (↑(1 + (List.map I r.ins).length + (List.map Df.d r.lats).length + (List.map Df.d r.ands).length + (List.map I r.bads).length + (List.map I r.cons).length) : Int)), [],
  [IntKind.i64.wrap (1 + (↑(List.map I r.ins).length : Int)) = (↑(1 + (List.map I r.ins).length) : Int),
   IntKind.i64.wrap ((↑(1 + (List.map I r.ins).length) : Int) + (↑(List.map Df.d r.lats).length : Int)) = (↑(1 + (List.map I r.ins).length + (List.map Df.d r.lats).length) : Int),
   IntKind.i64.wrap ((↑(1 + (List.map I r.ins).length + (List.map Df.d r.lats).length) : Int) + (↑(List.map Df.d r.ands).length : Int)) = (↑(1 + (List.map I r.ins).length + (List.map Df.d r.lats).length + (List.map Df.d r.ands).length) : Int),
   IntKind.i64.wrap ((↑(1 + (List.map I r.ins).length + (List.map Df.d r.lats).length + (List.map Df.d r.ands).length) : Int) + (↑(List.map I r.bads).length : Int)) = (↑(1 + (List.map I r.ins).length + (List.map Df.d r.lats).length + (List.map Df.d r.ands).length + (List.map I r.bads).length) : Int),
   IntKind.i64.wrap ((↑(1 + (List.map I r.ins).length + (List.map Df.d r.lats).length + (List.map Df.d r.ands).length + (List.map I r.bads).length) : Int) + (↑(List.map I r.cons).length : Int)) = (↑(1 + (List.map I r.ins).length + (List.map Df.d r.lats).length + (List.map Df.d r.ands).length + (List.map I r.bads).length + (List.map I r.cons).length) : Int)]) := by kernel_rfl
end
end Go.Proofs.YtihbpbdmhiihnaaDoor.Sy.R7
