/- The row of OrderBefore: the circuit of a valid raw circuit is valid, and each gate has the parts of its own, for any raw circuit. Out of the walk on symbols and the plain law. -/
import Derived.Test.YtbbefbgomdmldaaBfE
import Derived.Test.YtbbefbgomdmldaaBfC
import Derived.Deep.Slices
import Derived.ProofKit
import Derived.OpenShut
import Derived.ShutString
import Derived.Below
import Derived.RowKit
import Derived.Test.YtbbefbgomdmldaaRows
import Derived.WalkKit
import Derived.ChangeOld
import Derived.SizedLaws
import Derived.RowKit3
/- moved, OrderMoved, whole. -/
namespace Go.Proofs.Ytbbefbgomdmldaa.Sy.Law
open Go Go.Proofs.Ytbbefbgomdmldaa.Ab Go.Proofs.Ytbbefbgomdmldaa.Sy Go.Proofs.Ytbbefbgomdmldaa.Pl
set_option maxRecDepth 1000000
set_option linter.unusedVariables false
set_option linter.unusedSectionVars false
section
variable {c : Code}
/-- A list whose elements are written, one after the other. -/
theorem upd_loop {α : Type} [Inhabited α] (xs : List α) (g g2 : α → D) (H : Nat → List D → St) (e0 : Ex) (E : List D → St)
    (hs : ∀ i ys, i < xs.length → ys.length = xs.length → ys[i]? = some (g (xs.getD i default)) → ∀ e s, GoesL Try.prog c (H (i + 1) (ys.set i (g2 (xs.getD i default)))) e s → GoesL Try.prog c (H i ys) e s)
    (he : ∀ ys, ys.length = xs.length → GoesL Try.prog c (H xs.length ys) e0 (E ys)) : GoesL Try.prog c (H 0 (xs.map g)) e0 (E (xs.map g2)) := by
  have key : ∀ (d i : Nat), xs.length - i = d → i ≤ xs.length → GoesL Try.prog c (H i ((xs.take i).map g2 ++ (xs.drop i).map g)) e0 (E (xs.map g2)) := by
    intro d
    induction d with
    | zero =>
      intro i hd hi
      obtain rfl : i = xs.length := by omega
      rw [List.drop_length, List.take_length, List.map_nil, List.append_nil]
      exact he _ (by simp)
    | succ d ih =>
      intro i hd hi
      have hlt : i < xs.length := by omega
      refine hs i _ hlt (by simp; omega) ?_ _ _ ?_
      · rw [List.getElem?_append_right (by simp; omega), drop_getD xs i hlt]
        simp [Nat.min_eq_left (Nat.le_of_lt hlt)]
      · have e : ((xs.take i).map g2 ++ (xs.drop i).map g).set i (g2 (xs.getD i default)) = (xs.take (i + 1)).map g2 ++ (xs.drop (i + 1)).map g := by
          rw [List.set_append, if_neg (by simp; omega), List.length_map, List.length_take, Nat.min_eq_left (by omega), Nat.sub_self, drop_getD xs i hlt, List.map_cons, List.set_cons_zero]
          rw [List.take_add_one, List.getElem?_eq_getElem hlt, List.map_append, List.append_assoc]
          simp [List.getD_eq_getElem?_getD, List.getElem?_eq_getElem hlt]
        rw [e]
        exact ih (i + 1) (by omega) (by omega)
  have := key _ 0 rfl (Nat.zero_le _)
  rwa [List.take_zero, List.drop_zero, List.map_nil, List.nil_append] at this
end
theorem getD_mem {α : Type} [Inhabited α] {l : List α} {i : Nat} (h : i < l.length) : l.getD i default ∈ l := by
  rw [List.getD_eq_getElem?_getD, List.getElem?_eq_getElem h]; exact List.getElem_mem h
theorem told_ok (g : List Int) (x : Int) (h0 : 0 ≤ x) (hl : varN x < g.length) (hx : x ≤ 10000) (hb : -1 ≤ gt g (varN x) ∧ gt g (varN x) ≤ 10000) :
    ICall Try.prog 15 [.d (L g), .d (I x)] [] (.d (I (told g x))) [] := by
  have e : g.getD (x / 2).toNat default = gt g (varN x) := rfl
  have t := Ref.t1 x g
  rw [e] at t
  exact callX_ok hO hm t ⟨quo2 h0 (by omega), ⟨by omega, e ▸ get_map I g _ hl⟩, wrap_id (by omega) (by omega), rem2 h0, wrap_id (by omega) (by omega)⟩
theorem twin (r : Rw) (h : Ref.Sm r) : ICall Try.prog 16 [.d r.d] [] (TwR r) [] := by
  have h1 := h.ins
  have h2 := h.lats
  have h3 := h.ands
  have h4 := h.bads
  have h5 := h.cons
  have sz : ∀ l : List Df, ∀ y : D, y ∈ l.map Df.d → y.cells.length = 3 := fun l y hy => by
    obtain ⟨x, _, rfl⟩ := List.mem_map.1 hy; rfl
  have le : ∀ n : Nat, n ≤ 2000 → n ≤ maxItems := fun n h => Nat.le_trans h (by decide)
  exact callX_ok hO hm (tw r) ⟨LInt.sz _, le _ (by simpa using h1), sz _, le _ (by simpa using h2), sz _, le _ (by simpa using h3), LInt.sz _, le _ (by simpa using h4), LInt.sz _, le _ (by simpa using h5)⟩
section
variable {r : Rw} {m : Nat} {l : List Int}
theorem moved (h : Ref.Sm r) (hl : Pm m l) (hm1 : m ≤ 1000) (hN : Num (m : Int) r.ins r.lats r.ands r.bads r.cons) : ICall Try.prog 11 [.d r.d, .d (L l)] [] (.d (movR l r).d) [] := by
  have h1 := h.ins
  have h2 := h.lats
  have h3 := h.ands
  have h4 := h.bads
  have h5 := h.cons
  have tk : ∀ x : Int, 0 ≤ x ∧ x ≤ 2 * (m : Int) + 1 → ICall Try.prog 15 [.d (L l), .d (I x)] [] (.d (I (told l x))) [] := fun x hx => by
    have := hl.bd (varN x) (by unfold varN; omega)
    exact told_ok l x hx.1 (by rw [hl.len]; unfold varN; omega) (by omega) (by omega)
  have o1 : ∀ x ∈ r.ins, 0 ≤ x ∧ x ≤ 2 * (m : Int) + 1 := fun x hx => by have := hN.own x (by unfold ownL; simp [hx]); omega
  have o2 : ∀ d ∈ r.lats, 0 ≤ d.lit ∧ d.lit ≤ 2 * (m : Int) + 1 := fun d hd => by have := hN.own d.lit (by unfold ownL; exact List.mem_append_left _ (List.mem_append_right _ (List.mem_map_of_mem hd))); omega
  have o3 : ∀ d ∈ r.lats, 0 ≤ d.a ∧ d.a ≤ 2 * (m : Int) + 1 := fun d hd => hN.use d.a (by unfold useL; exact List.mem_append_left _ (List.mem_append_right _ (List.mem_map_of_mem hd)))
  have hs := sml_of hN
  have o4 : ∀ x ∈ r.bads, 0 ≤ x ∧ x ≤ 2 * (m : Int) + 1 := fun x hx => hN.use x (by unfold useL; simp [hx])
  have o5 : ∀ x ∈ r.cons, 0 ≤ x ∧ x ≤ 2 * (m : Int) + 1 := fun x hx => hN.use x (by unfold useL; simp [hx])
  have l1 := upd_loop (c := loopOf Try.prog 11 0) r.ins I (fun x => I (told l x)) (fun i ys => Hm r l ys (r.lats.map Df.d) (r.ands.map Df.d) (r.bads.map I) (r.cons.map I) [(6, .d (I i))]) (.exit 0) (fun ys => Hm r l ys (r.lats.map Df.d) (r.ands.map Df.d) (r.bads.map I) (r.cons.map I) [])
    (fun i ys hi hy hg e s hh => .step hO hm (m1 r l ys _ _ _ _ (r.ins.getD i default) (told l (r.ins.getD i default)) i) ⟨decide_eq_true (by omega), ⟨rfl, by omega⟩, hg, tk _ (o1 _ (getD_mem hi)), ⟨rfl, by omega⟩, wrap_succ (by omega)⟩ hh)
    (fun ys hy => by have k := m2 r l ys (r.lats.map Df.d) (r.ands.map Df.d) (r.bads.map I) (r.cons.map I) r.ins.length; exact .stop hO hm k (by simp) (decide_eq_false (by omega)))
  have l2 := upd_loop (c := loopOf Try.prog 11 1) r.lats Df.d (fun d => (movD l d).d) (fun i ys => Hm r l (r.ins.map (fun x => I (told l x))) ys (r.ands.map Df.d) (r.bads.map I) (r.cons.map I) [(7, .d (I i))]) (.exit 2) (fun ys => Hm r l (r.ins.map (fun x => I (told l x))) ys (r.ands.map Df.d) (r.bads.map I) (r.cons.map I) [])
    (fun i ys hi hy hg e s hh => by
      have hmem := getD_mem hi
      have k := m3 r l (r.ins.map (fun x => I (told l x))) ys (r.ands.map Df.d) (r.bads.map I) (r.cons.map I) (r.lats.getD i default) (told l (r.lats.getD i default).lit) (told l (r.lats.getD i default).a) i
      rw [List.set_set] at k
      exact .step hO hm k ⟨decide_eq_true (by omega), ⟨rfl, by omega⟩, hg, tk _ (o2 _ hmem), hg, tk _ (o3 _ hmem), hg, by rw [List.getElem?_set_self (by omega)]; rfl, wrap_succ (by omega)⟩ hh)
    (fun ys hy => by have k := m4 r l (r.ins.map (fun x => I (told l x))) ys (r.ands.map Df.d) (r.bads.map I) (r.cons.map I) r.lats.length; exact .stop hO hm k (by simp) (decide_eq_false (by omega)))
  have l3 := upd_loop (c := loopOf Try.prog 11 2) r.ands Df.d (fun d => (movA l d).d) (fun i ys => Hm r l (r.ins.map (fun x => I (told l x))) (r.lats.map (fun d => (movD l d).d)) ys (r.bads.map I) (r.cons.map I) [(9, .d (I i))]) (.exit 4) (fun ys => Hm r l (r.ins.map (fun x => I (told l x))) (r.lats.map (fun d => (movD l d).d)) ys (r.bads.map I) (r.cons.map I) [])
    (fun i ys hi hy hg e s hh => by
      have hmem := hs _ (getD_mem hi)
      have k := m5 r l (r.ins.map (fun x => I (told l x))) (r.lats.map (fun d => (movD l d).d)) ys (r.bads.map I) (r.cons.map I) (r.ands.getD i default) (told l (r.ands.getD i default).lit) (told l (r.ands.getD i default).a) (told l (r.ands.getD i default).b) i
      rw [List.set_set, List.set_set] at k
      exact .step hO hm k ⟨decide_eq_true (by omega), ⟨rfl, by omega⟩, hg, tk _ hmem.1, hg, tk _ hmem.2.1, hg, tk _ hmem.2.2, hg, by rw [List.getElem?_set_self (by omega)]; rfl, by rw [List.getElem?_set_self (by rw [List.length_set]; omega)]; rfl, wrap_succ (by omega)⟩ hh)
    (fun ys hy => by have k := m6 r l (r.ins.map (fun x => I (told l x))) (r.lats.map (fun d => (movD l d).d)) ys (r.bads.map I) (r.cons.map I) r.ands.length; exact .stop hO hm k (by simp) (decide_eq_false (by omega)))
  have l4 := upd_loop (c := loopOf Try.prog 11 3) r.bads I (fun x => I (told l x)) (fun i ys => Hm r l (r.ins.map (fun x => I (told l x))) (r.lats.map (fun d => (movD l d).d)) (r.ands.map (fun d => (movA l d).d)) ys (r.cons.map I) [(11, .d (I i))]) (.exit 6) (fun ys => Hm r l (r.ins.map (fun x => I (told l x))) (r.lats.map (fun d => (movD l d).d)) (r.ands.map (fun d => (movA l d).d)) ys (r.cons.map I) [])
    (fun i ys hi hy hg e s hh => .step hO hm (m7 r l _ _ _ ys _ (r.bads.getD i default) (told l (r.bads.getD i default)) i) ⟨decide_eq_true (by omega), ⟨rfl, by omega⟩, hg, tk _ (o4 _ (getD_mem hi)), ⟨rfl, by omega⟩, wrap_succ (by omega)⟩ hh)
    (fun ys hy => by have k := m8 r l (r.ins.map (fun x => I (told l x))) (r.lats.map (fun d => (movD l d).d)) (r.ands.map (fun d => (movA l d).d)) ys (r.cons.map I) r.bads.length; exact .stop hO hm k (by simp) (decide_eq_false (by omega)))
  have l5 := upd_loop (c := loopOf Try.prog 11 4) r.cons I (fun x => I (told l x)) (fun i ys => Hm r l (r.ins.map (fun x => I (told l x))) (r.lats.map (fun d => (movD l d).d)) (r.ands.map (fun d => (movA l d).d)) (r.bads.map (fun x => I (told l x))) ys [(12, .d (I i))]) (.exit 8) (fun ys => Hm r l (r.ins.map (fun x => I (told l x))) (r.lats.map (fun d => (movD l d).d)) (r.ands.map (fun d => (movA l d).d)) (r.bads.map (fun x => I (told l x))) ys [])
    (fun i ys hi hy hg e s hh => .step hO hm (m9 r l _ _ _ _ ys (r.cons.getD i default) (told l (r.cons.getD i default)) i) ⟨decide_eq_true (by omega), ⟨rfl, by omega⟩, hg, tk _ (o5 _ (getD_mem hi)), ⟨rfl, by omega⟩, wrap_succ (by omega)⟩ hh)
    (fun ys hy => by have k := m10 r l (r.ins.map (fun x => I (told l x))) (r.lats.map (fun d => (movD l d).d)) (r.ands.map (fun d => (movA l d).d)) (r.bads.map (fun x => I (told l x))) ys r.cons.length; exact .stop hO hm k (by simp) (decide_eq_false (by omega)))
  have := callX_ok hO hm (m11 r l _ _ _ _ _) ⟨twin r h, l1, l2, l3, l4, l5⟩
  refine this.frz ?_
  unfold movR Rw.d L
  simp only [List.map_map]
  rfl
end
def cirA (r : Rw) : Ci := if Cir.chkR r = 0 then Cir.cirR r else ⟨0, [], [], [], []⟩
def numA (r : Rw) : List Int := if Cir.chkR r = 0 then Cir.numR r else []
theorem circuit {r : Rw} (h : Cir.Wf r) : ICall Try.prog 10 [.d r.d] [] (ans (cirA r) (numA r) (Cir.chkR r)) [] := by
  unfold cirA numA
  by_cases c : Cir.chkR r = 0
  · rw [if_pos c, if_pos c, c]
    exact (Cir.circuit_good h c).frz rfl
  · rw [if_neg c, if_neg c]
    exact (Cir.circuit_bad h c).frz rfl
theorem alive : ICall Try.prog 8 [] [] (.d (.bool true)) [] := MemoAlive.icall
theorem cir_small {r : Rw} : (cirA r).lats.length ≤ 1000 ∧ (cirA r).ands.length ≤ 1000 ∧ (cirA r).bads.length ≤ 100 ∧ (cirA r).cons.length ≤ 100 := by
  unfold cirA
  by_cases c : Cir.chkR r = 0
  · rw [if_pos c]
    obtain ⟨hN, -, -⟩ := chkS_zero (show chkS r.most r.ins r.lats r.ands r.bads r.cons = 0 from c)
    have := hN.len
    have := ord_len r.ands
    unfold Cir.cirR circS cirSv
    exact ⟨by simp; omega, by simp; omega, by simpa using hN.l4, by simpa using hN.l5⟩
  · rw [if_neg c]; simp
theorem sm_of {r : Rw} (hg : great r = false) (hd : ∀ x ∈ Def.defs r, x ≤ 9223372036854775807) (hu : ∀ x ∈ Def.uses r, x ≤ 9223372036854775807) : Ref.Sm r := by
  unfold great at hg
  simp only [Bool.or_eq_false_iff, Bool.and_eq_false_iff, decide_eq_false_iff_not, bne_eq_false_iff_eq] at hg
  obtain ⟨g1, g2, g3, g4, g5, -⟩ := hg
  exact ⟨by omega, by omega, by omega, by omega, by omega, hd, hu⟩
/-- What the pairs do to the row. -/
def swp (m : Nat) (l : List Int) (p : Int × Int) : List Int := if 1 ≤ p.1 ∧ 1 ≤ p.2 ∧ p.1 ≤ m ∧ p.2 ≤ m then (l.set p.1.toNat (gt l p.2.toNat)).set p.2.toNat (gt l p.1.toNat) else l
theorem swp_pm {m : Nat} {l : List Int} (h : Pm m l) (p : Int × Int) : Pm m (swp m l p) := by
  unfold swp
  split
  · exact h.swap (by omega) (by omega)
  · exact h
section
variable {r : Rw} {m : Nat} (em : r.most = (m : Int)) (hm1 : m ≤ 1000) (ps : List (Int × Int))
include em hm1
theorem start_loop : GoesL Try.prog (loopOf Try.prog 3 0) (Ho r ps (List.replicate (m + 1) (I 0)) [(7, .d (I 0))]) (.exit 0) (Ho r ps (((List.range (m + 1)).map (fun k : Nat => (k : Int))).map I) []) := by
  have l1 := upd_loop (c := loopOf Try.prog 3 0) (List.range (m + 1)) (fun _ => I 0) (fun k : Nat => I (k : Int)) (fun i ys => Ho r ps ys [(7, .d (I i))]) (.exit 0) (fun ys => Ho r ps ys [])
    (fun i ys hi hy hg e s hh => by
      have e1 : (List.range (m + 1)).getD i default = i := by rw [List.getD_eq_getElem?_getD, List.getElem?_eq_getElem hi]; simp
      rw [List.length_range] at hi hy
      rw [e1] at hh
      exact .step hO hm (o1 r i ps ys) ⟨decide_eq_true (by omega), ⟨rfl, by omega⟩, wrap_succ (by omega)⟩ hh)
    (fun ys hy => by have k := o2 r (List.range (m + 1)).length ps ys; exact .stop hO hm k (by simp) (decide_eq_false (by omega)))
  have e0 : (List.range (m + 1)).map (fun _ : Nat => I 0) = List.replicate (m + 1) (I 0) := by
    apply List.ext_getElem
    · simp
    · intro i h1 h2; simp
  rw [e0] at l1
  rw [List.map_map]
  exact l1
theorem swap_loop (hp : ps.length ≤ 20) (l0 : List Int) (h0 : Pm m l0) : GoesL Try.prog (loopOf Try.prog 3 1) (Ho r ps (l0.map I) [(8, .d (I 0))]) (.exit 2) (Ho r ps ((ps.foldl (swp m) l0).map I) []) ∧ Pm m (ps.foldl (swp m) l0) := by
  constructor
  · have := fold_loop (c := loopOf Try.prog 3 1) ps (fun i l => Ho r ps (l.map I) [(8, .d (I i))]) (fun l => Ho r ps (l.map I) []) (.exit 2) (swp m) (fun _ l => Pm m l)
      (fun i l hi hl => ⟨swp_pm hl _, fun e s hh => by
        have g0 : decide ((i : Int) < ((ps.map Pr2).length : Nat)) = true := decide_eq_true (by rw [List.length_map]; omega)
        have g1 : (i : Int) = (i : Int) ∧ (ps.map Pr2)[i]? = some (Pr2 (ps.getD i default)) := ⟨rfl, get_map Pr2 ps i hi⟩
        have k3 := o3 r i ps (l.map I) (gt l (ps.getD i default).2.toNat) (gt l (ps.getD i default).1.toNat)
        have k4 := o4 r i ps (l.map I)
        have k5 := o5 r i ps (l.map I)
        have k6 := o6 r i ps (l.map I)
        have k7 := o7 r i ps (l.map I)
        generalize ps.getD i default = p at hh g1 k3 k4 k5 k6 k7
        unfold swp at hh
        have hll := hl.len
        by_cases c1 : p.1 ≥ 1
        · by_cases c2 : p.2 ≥ 1
          · by_cases c3 : p.1 ≤ r.most
            · by_cases c4 : p.2 ≤ r.most
              · rw [if_pos (by omega), List.map_set, List.map_set] at hh
                have n1 : p.1.toNat < l.length := by omega
                have n2 : p.2.toNat < l.length := by omega
                exact .step hO hm k3 ⟨g0, g1, g1, decide_eq_true c1, decide_eq_true c2, decide_eq_true c3, decide_eq_true c4, ⟨by omega, by rw [List.length_map]; exact n2⟩, get_map I l _ n2, ⟨by omega, by rw [List.length_map]; exact n1⟩, get_map I l _ n1, ⟨by omega, by rw [List.length_map]; exact n1⟩, ⟨by omega, by rw [List.length_set, List.length_map]; exact n2⟩, wrap_succ (by omega)⟩ hh
              · rw [if_neg (by omega)] at hh
                exact .step hO hm k4 ⟨g0, g1, g1, decide_eq_true c1, decide_eq_true c2, decide_eq_true c3, decide_eq_false c4, wrap_succ (by omega)⟩ hh
            · rw [if_neg (by omega)] at hh
              exact .step hO hm k5 ⟨g0, g1, g1, decide_eq_true c1, decide_eq_true c2, decide_eq_false c3, wrap_succ (by omega)⟩ hh
          · rw [if_neg (by omega)] at hh
            exact .step hO hm k6 ⟨g0, g1, g1, decide_eq_true c1, decide_eq_false c2, wrap_succ (by omega)⟩ hh
        · rw [if_neg (by omega)] at hh
          exact .step hO hm k7 ⟨g0, g1, g1, decide_eq_false c1, wrap_succ (by omega)⟩ hh⟩)
      (fun l _ => by have k := o8 r ps.length ps (l.map I); exact .stop hO hm k (by simp) (decide_eq_false (by rw [List.length_map]; omega))) _ 0 l0 rfl (Nat.zero_le _) h0
    rwa [List.drop_zero] at this
  · clear hp
    induction ps generalizing l0 with
    | nil => exact h0
    | cons p t ih => exact ih (swp m l0 p) (swp_pm h0 p)
end
/-- OrderMoved holds. -/
theorem orderMoved (r : Rw) (ps : List (Int × Int)) (hd : ∀ x ∈ Def.defs r, x ≤ 9223372036854775807) (hu : ∀ x ∈ Def.uses r, x ≤ 9223372036854775807) :
    ICall Try.prog 3 [.d r.d, .d (.sl (ps.map Pr2))] [] (.d (.bool true)) [] := by
  have hgr := great_ok r
  cases cg : great r with
  | true => rw [cg] at hgr; exact callX_ok hO hm (q1 r ps) ⟨hgr, alive⟩
  | false =>
  rw [cg] at hgr
  have hS := sm_of cg hd hu
  by_cases c1 : (((ps.map Pr2).length : Nat) : Int) > 20
  · exact callX_ok hO hm (q2 r ps) ⟨hgr, decide_eq_true c1, alive⟩
  have s1 := decide_eq_false c1
  by_cases c2 : r.most < 0
  · exact callX_ok hO hm (q3 r ps) ⟨hgr, s1, decide_eq_true c2, alive⟩
  have s2 := decide_eq_false c2
  by_cases c3 : r.most > 1000
  · exact callX_ok hO hm (q4 r ps) ⟨hgr, s1, s2, decide_eq_true c3, alive⟩
  have s3 := decide_eq_false c3
  have hck := Ref.check hS
  by_cases c4 : Cir.chkR r = 0 ∨ Cir.chkR r = 41 ∨ Cir.chkR r = 43 ∨ Cir.chkR r = 46
  · have hnum : ¬ manyP r.most r.ins r.lats r.ands r.bads r.cons ∧ ¬ badAny r.most r.ins r.lats r.ands r.bads r.cons = true := by
      have e : Cir.chkR r = chkS r.most r.ins r.lats r.ands r.bads r.cons := rfl
      unfold chkS at e
      rw [if_neg c2] at e
      refine ⟨fun c => ?_, fun c => ?_⟩
      · rw [if_pos c] at e; omega
      · by_cases d : manyP r.most r.ins r.lats r.ands r.bads r.cons
        · rw [if_pos d] at e; omega
        · rw [if_neg d, if_pos c] at e; omega
    obtain ⟨hn1, hn2⟩ := hnum
    have hN := num_of c2 hn1 hn2
    obtain ⟨m, em⟩ := Int.eq_ofNat_of_zero_le hN.m.1
    have hm1 : m ≤ 1000 := by omega
    have hN' := hN
    rw [em] at hN'
    have hPm0 := Pm.start m
    have l0 := start_loop em hm1 ps
    obtain ⟨l1, hPm⟩ := swap_loop em hm1 ps (by rw [List.length_map] at c1; omega) _ hPm0
    have l1' := l1.frz 1
    rw [frzHo] at l1'
    generalize ps.foldl (swp m) ((List.range (m + 1)).map (fun k : Nat => (k : Int))) = l at hPm l1'
    have hmv := moved hS hPm hm1 hN'
    have hcir := circuit hS.wf
    have hchk : Cir.chkR (movR l r) = Cir.chkR r := by
      have := chk_mov hPm (by omega) (by rw [← em]; exact hn1) (by rw [← em]; exact hn2)
      unfold Cir.chkR movR
      rw [em]; exact this
    have hcA : cirA (movR l r) = cirA r := by
      unfold cirA
      rw [hchk]
      by_cases c : Cir.chkR r = 0
      · rw [if_pos c, if_pos c]
        have := cir_mov hPm (show chkS (m : Int) r.ins r.lats r.ands r.bads r.cons = 0 by rw [← em]; exact c)
        unfold Cir.cirR movR
        rw [em]; exact this
      · rw [if_neg c, if_neg c]
    have hW2 : Cir.Wf (movR l r) := by
      have hb : ∀ x : Int, 0 ≤ x ∧ x ≤ 2 * (m : Int) + 1 → told l x ≤ 9223372036854775807 := fun x hx => by
        have := (told_var hPm hx).2.2.2
        omega
      have g1 := hS.ins
      have g2 := hS.lats
      have g3 := hS.ands
      have g4 := hS.bads
      have g5 := hS.cons
      refine ⟨⟨by unfold movR; simp; omega, by unfold movR; simp; omega, by unfold movR; simp; omega, by unfold movR; simp; omega, by unfold movR; simp; omega⟩, fun x hx => ?_, fun x hx => ?_⟩
      · rw [own_defs] at hx
        unfold movR at hx
        rw [own_mov] at hx
        obtain ⟨y, hy, rfl⟩ := List.mem_map.1 hx
        have := hN'.own y hy
        exact hb y (by omega)
      · rw [use_uses] at hx
        unfold movR at hx
        rw [use_mov] at hx
        obtain ⟨y, hy, rfl⟩ := List.mem_map.1 hx
        exact hb y (hN'.use y hy)
    have hcir2 := circuit hW2
    rw [hcA, hchk] at hcir2
    obtain ⟨z1, z2, z3, z4⟩ := cir_small (r := r)
    have hsm := same (cirA r) (by omega) (by omega) (by omega) (by omega)
    have w1 : IntKind.i64.wrap (r.most + 1) = r.most + 1 := wrap_id (by omega) (by omega)
    have hNn : (r.most + 1).toNat = m + 1 := by omega
    have hmk : r.most + 1 = (((r.most + 1).toNat : Nat) : Int) ∧ r.most + 1 = (((r.most + 1).toNat : Nat) : Int) ∧ (r.most + 1).toNat ≤ maxItems := ⟨by omega, by omega, Nat.le_trans (show _ ≤ 100000 by omega) (by decide)⟩
    rw [← hNn] at l0 l1'
    have t0 : (Cir.chkR r != Cir.chkR r) = false := by simp
    rcases c4 with c4 | c4 | c4 | c4
    · rw [c4] at hck hcir hcir2
      have hg2 : (numA (movR l r)).length = m + 1 := by
        unfold numA
        rw [hchk, if_pos c4]
        have := nums_of (m := m) (l1 := (movR l r).ins) (l2 := (movR l r).lats) (l3 := (movR l r).ands) (l4 := (movR l r).bads) (l5 := (movR l r).cons) (by
          have : chkS (movR l r).most (movR l r).ins (movR l r).lats (movR l r).ands (movR l r).bads (movR l r).cons = 0 := hchk.trans c4
          rwa [show (movR l r).most = (m : Int) from em] at this)
        have h9 := this.len
        unfold Cir.numR numsS
        rw [show (movR l r).most.toNat = m by show r.most.toNat = m; omega]
        exact h9
      exact callX_ok hO hm (q9 r ps _ (movR l r) (cirA r) (numA r) (numA (movR l r)) l 0) ⟨hgr, s1, s2, s3, hck, rfl, w1, hmk, l0, l1', hcir, hmv, hcir2, rfl, hsm, rfl, rfl, w1, by rw [List.length_map, hg2]; simp; omega, alive⟩
    · rw [c4] at hck hcir hcir2
      exact callX_ok hO hm (q8 r ps _ (movR l r) (cirA r) (numA r) (numA (movR l r)) l 41) ⟨hgr, s1, s2, s3, hck, rfl, rfl, w1, hmk, l0, l1', hcir, hmv, hcir2, rfl, hsm, rfl, rfl, alive⟩
    · rw [c4] at hck hcir hcir2
      exact callX_ok hO hm (q7 r ps _ (movR l r) (cirA r) (numA r) (numA (movR l r)) l 43) ⟨hgr, s1, s2, s3, hck, rfl, rfl, rfl, w1, hmk, l0, l1', hcir, hmv, hcir2, rfl, hsm, rfl, rfl, alive⟩
    · rw [c4] at hck hcir hcir2
      exact callX_ok hO hm (q6 r ps _ (movR l r) (cirA r) (numA r) (numA (movR l r)) l 46) ⟨hgr, s1, s2, s3, hck, rfl, rfl, rfl, rfl, w1, hmk, l0, l1', hcir, hmv, hcir2, rfl, hsm, rfl, rfl, alive⟩
  · have c5 : Cir.chkR r ≠ 0 ∧ Cir.chkR r ≠ 41 ∧ Cir.chkR r ≠ 43 ∧ Cir.chkR r ≠ 46 := ⟨fun c => c4 (.inl c), fun c => c4 (.inr (.inl c)), fun c => c4 (.inr (.inr (.inl c))), fun c => c4 (.inr (.inr (.inr c)))⟩
    exact callX_ok hO hm (q5 r ps (Cir.chkR r)) ⟨hgr, s1, s2, s3, hck, bne_iff_ne.2 c5.1, bne_iff_ne.2 c5.2.1, bne_iff_ne.2 c5.2.2.1, bne_iff_ne.2 c5.2.2.2, alive⟩
end Go.Proofs.Ytbbefbgomdmldaa.Sy.Law
/- OrderBefore: round by round. -/
namespace Go.Proofs.Ytbbefbgomdmldaa.Sy.Bef
open Go Go.Proofs.Ytbbefbgomdmldaa.Ab Go.Proofs.Ytbbefbgomdmldaa.Sy Go.Proofs.Ytbbefbgomdmldaa.Sy.Law
set_option maxRecDepth 1000000
set_option linter.unusedVariables false
def U1 : List V := List.replicate 1001 .undef
def Bl (r : Rw) (c : Ci) (ow : List Int) (cs : List V) : List B := [r.box, Law.Bc c, .lst 3 (ow.map I), .box cs]
def Hb (r : Rw) (c : Ci) (g ow : List Int) (cs : List V) (sl : List (Nat × V)) : St := ⟨mk 229 ([(1, .ptr 0 0), (3, .ptr 1 0), (4, .d (L g)), (6, .arr 2), (7, .ptr 3 0)] ++ sl) [], Bl r c ow cs⟩
section
variable (r : Rw) (c : Ci) (g ow : List Int) (cs cs1 cs2 cs3 : List V) (a b x y z ee : Int) (i k u v : Nat)
theorem b1 : roundP Try.prog wr false O (loopOf Try.prog 4 0) (Hb r c g ow cs [(8, .d (I i))]) [It.br true, It.ix i, It.el i (I (ow.getD i default)), It.is (ow.getD i default / 2), It.el (ow.getD i default / 2).toNat (I (g.getD (ow.getD i default / 2).toNat default)), It.br false, It.br false, It.cut u 0, It.el u (D.bool false), It.is (↑((List.map I r.ins).length + (List.map Df.d r.lats).length) : Int), It.br true, It.is (↑(i + 1) : Int), It.br false, It.cut u 0, It.raw, It.is (↑(i + 1) : Int)] [1, 3, 4, 6, 7, 8] 4 = some (.normal, (Hb r c g ow (over cs (0 + u * 1 + 0) [.d (.bool true)]) [(8, .d (I (i + 1 : Nat)))]),
  [stays 4 ((Hb r c g ow (over cs (0 + u * 1 + 0) [.d (.bool true)]) [(8, .d (I (i + 1 : Nat)))]).blks) = true,
   decide ((↑i : Int) < (↑(List.map I ow).length : Int)) = true,
   (↑i : Int) = (↑i : Int) ∧ i < (List.map I ow).length,
   (List.map I ow)[i]? = some (I (ow.getD i default)),
   IntKind.i64.wrap ((ow.getD i default).tdiv 2) = ow.getD i default / 2,
   ow.getD i default / 2 = (↑(ow.getD i default / 2).toNat : Int) ∧ (List.map I g)[(ow.getD i default / 2).toNat]? = some (I (g.getD (ow.getD i default / 2).toNat default)),
   decide (g.getD (ow.getD i default / 2).toNat default < 1) = false,
   decide (g.getD (ow.getD i default / 2).toNat default > (↑(List.map I ow).length : Int)) = false,
   g.getD (ow.getD i default / 2).toNat default = (↑u : Int) ∧ u < 1001,
   cs[0 + u * 1 + 0]? = some (V.d (D.bool false)),
   IntKind.i64.wrap ((↑(List.map I r.ins).length : Int) + (↑(List.map Df.d r.lats).length : Int)) = (↑((List.map I r.ins).length + (List.map Df.d r.lats).length) : Int),
   decide ((↑i : Int) < (↑((List.map I r.ins).length + (List.map Df.d r.lats).length) : Int)) = true,
   IntKind.i64.wrap ((↑i : Int) + 1) = (↑(i + 1) : Int),
   (g.getD (ow.getD i default / 2).toNat default != (↑(i + 1) : Int)) = false,
   g.getD (ow.getD i default / 2).toNat default = (↑u : Int) ∧ u < 1001,
   0 + u * 1 + 0 < cs.length,
   IntKind.i64.wrap ((↑i : Int) + 1) = (↑(i + 1) : Int)]) := by kernel_rfl
theorem b2 : roundP Try.prog wr false O (loopOf Try.prog 4 0) (Hb r c g ow cs [(8, .d (I i))]) [It.br true, It.ix i, It.el i (I (ow.getD i default)), It.is (ow.getD i default / 2), It.el (ow.getD i default / 2).toNat (I (g.getD (ow.getD i default / 2).toNat default)), It.br false, It.br false, It.cut u 0, It.el u (D.bool false), It.is (↑((List.map I r.ins).length + (List.map Df.d r.lats).length) : Int), It.br false, It.cut u 0, It.raw, It.is (↑(i + 1) : Int)] [1, 3, 4, 6, 7, 8] 4 = some (.normal, (Hb r c g ow (over cs (0 + u * 1 + 0) [.d (.bool true)]) [(8, .d (I (i + 1 : Nat)))]),
  [stays 4 ((Hb r c g ow (over cs (0 + u * 1 + 0) [.d (.bool true)]) [(8, .d (I (i + 1 : Nat)))]).blks) = true,
   decide ((↑i : Int) < (↑(List.map I ow).length : Int)) = true,
   (↑i : Int) = (↑i : Int) ∧ i < (List.map I ow).length,
   (List.map I ow)[i]? = some (I (ow.getD i default)),
   IntKind.i64.wrap ((ow.getD i default).tdiv 2) = ow.getD i default / 2,
   ow.getD i default / 2 = (↑(ow.getD i default / 2).toNat : Int) ∧ (List.map I g)[(ow.getD i default / 2).toNat]? = some (I (g.getD (ow.getD i default / 2).toNat default)),
   decide (g.getD (ow.getD i default / 2).toNat default < 1) = false,
   decide (g.getD (ow.getD i default / 2).toNat default > (↑(List.map I ow).length : Int)) = false,
   g.getD (ow.getD i default / 2).toNat default = (↑u : Int) ∧ u < 1001,
   cs[0 + u * 1 + 0]? = some (V.d (D.bool false)),
   IntKind.i64.wrap ((↑(List.map I r.ins).length : Int) + (↑(List.map Df.d r.lats).length : Int)) = (↑((List.map I r.ins).length + (List.map Df.d r.lats).length) : Int),
   decide ((↑i : Int) < (↑((List.map I r.ins).length + (List.map Df.d r.lats).length) : Int)) = false,
   g.getD (ow.getD i default / 2).toNat default = (↑u : Int) ∧ u < 1001,
   0 + u * 1 + 0 < cs.length,
   IntKind.i64.wrap ((↑i : Int) + 1) = (↑(i + 1) : Int)]) := by kernel_rfl
theorem b3 : roundP Try.prog wr false O (loopOf Try.prog 4 0) (Hb r c g ow cs [(8, .d (I i))]) [It.br false] [1, 3, 4, 6, 7] 4 = some (.exit 0, (Hb r c g ow cs []),
  [stays 4 ((Hb r c g ow cs []).blks) = true,
   decide ((↑i : Int) < (↑(List.map I ow).length : Int)) = false]) := by kernel_rfl
theorem b4 : round Try.prog wr false O (loopOf Try.prog 4 1) (Hb r c g ow U1 [(10, .d (I i))]) [It.br true, It.el i (r.ands.getD i default).d, It.is ((r.ands.getD i default).lit / 2), It.el ((r.ands.getD i default).lit / 2).toNat (I (g.getD ((r.ands.getD i default).lit / 2).toNat default)), It.is (g.getD ((r.ands.getD i default).lit / 2).toNat default - 1), It.is (g.getD ((r.ands.getD i default).lit / 2).toNat default - 1 - (↑(List.map I r.ins).length : Int)), It.is (g.getD ((r.ands.getD i default).lit / 2).toNat default - 1 - (↑(List.map I r.ins).length : Int) - (↑(List.map Df.d r.lats).length : Int)), It.br false, It.br false, It.el i (r.ands.getD i default).d, It.icall [] (V.d (I a)) [], It.el i (r.ands.getD i default).d, It.icall [] (V.d (I b)) [], It.el (g.getD ((r.ands.getD i default).lit / 2).toNat default - 1 - (↑(List.map I r.ins).length : Int) - (↑(List.map Df.d r.lats).length : Int)).toNat (c.ands.getD (g.getD ((r.ands.getD i default).lit / 2).toNat default - 1 - (↑(List.map I r.ins).length : Int) - (↑(List.map Df.d r.lats).length : Int)).toNat default).d, It.is (if b > a then b else a), It.is (if b < a then b else a), It.br false, It.is (↑(i + 1) : Int)] [1, 3, 4, 6, 7, 10] 4 = some (.normal, Hb r c g ow U1 [(10, .d (I (i + 1 : Nat)))],
  [decide ((↑i : Int) < (↑(List.map Df.d r.ands).length : Int)) = true,
   (↑i : Int) = (↑i : Int) ∧ (List.map Df.d r.ands)[i]? = some (r.ands.getD i default).d,
   IntKind.i64.wrap ((r.ands.getD i default).lit.tdiv 2) = (r.ands.getD i default).lit / 2,
   (r.ands.getD i default).lit / 2 = (↑((r.ands.getD i default).lit / 2).toNat : Int) ∧ (List.map I g)[((r.ands.getD i default).lit / 2).toNat]? = some (I (g.getD ((r.ands.getD i default).lit / 2).toNat default)),
   IntKind.i64.wrap (g.getD ((r.ands.getD i default).lit / 2).toNat default - 1) = g.getD ((r.ands.getD i default).lit / 2).toNat default - 1,
   IntKind.i64.wrap (g.getD ((r.ands.getD i default).lit / 2).toNat default - 1 - (↑(List.map I r.ins).length : Int)) = g.getD ((r.ands.getD i default).lit / 2).toNat default - 1 - (↑(List.map I r.ins).length : Int),
   IntKind.i64.wrap (g.getD ((r.ands.getD i default).lit / 2).toNat default - 1 - (↑(List.map I r.ins).length : Int) - (↑(List.map Df.d r.lats).length : Int)) = g.getD ((r.ands.getD i default).lit / 2).toNat default - 1 - (↑(List.map I r.ins).length : Int) - (↑(List.map Df.d r.lats).length : Int),
   decide (g.getD ((r.ands.getD i default).lit / 2).toNat default - 1 - (↑(List.map I r.ins).length : Int) - (↑(List.map Df.d r.lats).length : Int) < 0) = false,
   decide (g.getD ((r.ands.getD i default).lit / 2).toNat default - 1 - (↑(List.map I r.ins).length : Int) - (↑(List.map Df.d r.lats).length : Int) ≥ (↑(List.map An.d c.ands).length : Int)) = false,
   (↑i : Int) = (↑i : Int) ∧ (List.map Df.d r.ands)[i]? = some (r.ands.getD i default).d,
   ICall Try.prog 15 [V.d (L g), V.d (I (r.ands.getD i default).a)] [] (V.d (I a)) [],
   (↑i : Int) = (↑i : Int) ∧ (List.map Df.d r.ands)[i]? = some (r.ands.getD i default).d,
   ICall Try.prog 15 [V.d (L g), V.d (I (r.ands.getD i default).b)] [] (V.d (I b)) [],
   g.getD ((r.ands.getD i default).lit / 2).toNat default - 1 - (↑(List.map I r.ins).length : Int) - (↑(List.map Df.d r.lats).length : Int) = (↑(g.getD ((r.ands.getD i default).lit / 2).toNat default - 1 - (↑(List.map I r.ins).length : Int) - (↑(List.map Df.d r.lats).length : Int)).toNat : Int) ∧ (List.map An.d c.ands)[(g.getD ((r.ands.getD i default).lit / 2).toNat default - 1 - (↑(List.map I r.ins).length : Int) - (↑(List.map Df.d r.lats).length : Int)).toNat]? = some (c.ands.getD (g.getD ((r.ands.getD i default).lit / 2).toNat default - 1 - (↑(List.map I r.ins).length : Int) - (↑(List.map Df.d r.lats).length : Int)).toNat default).d,
   (if b > a then b else a) = if b > a then b else a,
   (if b < a then b else a) = if b < a then b else a,
   (!decide ([(c.ands.getD (g.getD ((r.ands.getD i default).lit / 2).toNat default - 1 - (↑(List.map I r.ins).length : Int) - (↑(List.map Df.d r.lats).length : Int)).toNat default).a, (c.ands.getD (g.getD ((r.ands.getD i default).lit / 2).toNat default - 1 - (↑(List.map I r.ins).length : Int) - (↑(List.map Df.d r.lats).length : Int)).toNat default).b] = [if b > a then b else a, if b < a then b else a])) = false,
   IntKind.i64.wrap ((↑i : Int) + 1) = (↑(i + 1) : Int)]) := by kernel_rfl
theorem b5 : round Try.prog wr false O (loopOf Try.prog 4 1) (Hb r c g ow U1 [(10, .d (I i))]) [It.br false] [1, 3, 4, 6, 7] 4 = some (.exit 2, Hb r c g ow U1 [],
  [decide ((↑i : Int) < (↑(List.map Df.d r.ands).length : Int)) = false]) := by kernel_rfl
theorem b6 : round Try.prog wr false O (loopOf Try.prog 4 2) (Hb r c g ow U1 [(14, .d (I i))]) [It.br true, It.el i (c.lats.getD i default).d, It.el i (r.lats.getD i default).d, It.icall [] (V.d (I a)) [], It.el i (r.lats.getD i default).d, It.br false, It.is (↑(i + 1) : Int)] [1, 3, 4, 6, 7, 14] 4 = some (.normal, Hb r c g ow U1 [(14, .d (I (i + 1 : Nat)))],
  [decide ((↑i : Int) < (↑(List.map Df.d r.lats).length : Int)) = true,
   (↑i : Int) = (↑i : Int) ∧ (List.map Lt.d c.lats)[i]? = some (c.lats.getD i default).d,
   (↑i : Int) = (↑i : Int) ∧ (List.map Df.d r.lats)[i]? = some (r.lats.getD i default).d,
   ICall Try.prog 15 [V.d (L g), V.d (I (r.lats.getD i default).a)] [] (V.d (I a)) [],
   (↑i : Int) = (↑i : Int) ∧ (List.map Df.d r.lats)[i]? = some (r.lats.getD i default).d,
   (!decide ([(c.lats.getD i default).next, (c.lats.getD i default).reset] = [a, (r.lats.getD i default).b])) = false,
   IntKind.i64.wrap ((↑i : Int) + 1) = (↑(i + 1) : Int)]) := by kernel_rfl
theorem b7 : round Try.prog wr false O (loopOf Try.prog 4 2) (Hb r c g ow U1 [(14, .d (I i))]) [It.br false] [1, 3, 4, 6, 7] 4 = some (.exit 4, Hb r c g ow U1 [],
  [decide ((↑i : Int) < (↑(List.map Df.d r.lats).length : Int)) = false]) := by kernel_rfl
theorem p1  : callX Try.prog wr false O 4 [.d r.d] [] [It.icall [] (V.d (D.bool true)) [], It.icall [] (V.d (D.bool true)) []] = some (V.d (D.bool true), [],
  [ICall Try.prog 7 [V.d (D.agg [I r.most, L r.ins, D.sl (List.map Df.d r.lats), D.sl (List.map Df.d r.ands), L r.bads, L r.cons])] [] (V.d (D.bool true)) [],
   ICall Try.prog 8 [] [] (V.d (D.bool true)) []]) := by kernel_rfl
theorem p2  : callX Try.prog wr false O 4 [.d r.d] [] [It.icall [] (V.d (D.bool false)) [], It.icall [] (V.d (I ee)) [], It.br true, It.icall [] (V.d (D.bool true)) []] = some (V.d (D.bool true), [],
  [ICall Try.prog 7 [V.d (D.agg [I r.most, L r.ins, D.sl (List.map Df.d r.lats), D.sl (List.map Df.d r.ands), L r.bads, L r.cons])] [] (V.d (D.bool false)) [],
   ICall Try.prog 9 [V.d (D.agg [I r.most, L r.ins, D.sl (List.map Df.d r.lats), D.sl (List.map Df.d r.ands), L r.bads, L r.cons])] [] (V.d (I ee)) [],
   (ee != 0) = true,
   ICall Try.prog 8 [] [] (V.d (D.bool true)) []]) := by kernel_rfl
theorem p3  : callX Try.prog wr false O 4 [.d r.d] [] [It.icall [] (V.d (D.bool false)) [], It.icall [] (V.d (I 0)) [], It.br false, It.icall [] (ans c g 0) [], It.br false, It.icall [] (V.d (I 0)) [], It.br false, It.br false, It.br false, It.br false, It.is (r.most + 1), It.br false, It.br false, It.br false, It.icall [] (V.own 3 (List.map I ow)) [], It.lp [1, 3, 4, 6, 7, 8] (Ex.exit 0) (Hb r c g ow U1 []), It.lp [1, 3, 4, 6, 7, 10] (Ex.exit 2) (Hb r c g ow U1 []), It.lp [1, 3, 4, 6, 7, 14] (Ex.exit 4) (Hb r c g ow U1 []), It.icall [] (V.d (D.bool true)) []] = some (V.d (D.bool true), [],
  [ICall Try.prog 7 [V.d (D.agg [I r.most, L r.ins, D.sl (List.map Df.d r.lats), D.sl (List.map Df.d r.ands), L r.bads, L r.cons])] [] (V.d (D.bool false)) [],
   ICall Try.prog 9 [V.d (D.agg [I r.most, L r.ins, D.sl (List.map Df.d r.lats), D.sl (List.map Df.d r.ands), L r.bads, L r.cons])] [] (V.d (I 0)) [],
   (0 != 0) = false,
   ICall Try.prog 10 [V.d (D.agg [I r.most, L r.ins, D.sl (List.map Df.d r.lats), D.sl (List.map Df.d r.ands), L r.bads, L r.cons])] [] (ans c g 0) [],
   (0 != 0) = false,
   ICall Try.prog 13 [V.d (D.agg [I c.ins, D.sl (List.map Lt.d c.lats), D.sl (List.map An.d c.ands), L c.bads, L c.cons])] [] (V.d (I 0)) [],
   (0 != 0) = false,
   (c.ins != (↑(List.map I r.ins).length : Int)) = false,
   ((↑(List.map Lt.d c.lats).length : Int) != (↑(List.map Df.d r.lats).length : Int)) = false,
   ((↑(List.map An.d c.ands).length : Int) != (↑(List.map Df.d r.ands).length : Int)) = false,
   IntKind.i64.wrap (r.most + 1) = r.most + 1,
   ((↑(List.map I g).length : Int) != r.most + 1) = false,
   ((↑(List.map I c.bads).length : Int) != (↑(List.map I r.bads).length : Int)) = false,
   ((↑(List.map I c.cons).length : Int) != (↑(List.map I r.cons).length : Int)) = false,
   ICall Try.prog 14 [V.d (D.agg [I r.most, L r.ins, D.sl (List.map Df.d r.lats), D.sl (List.map Df.d r.ands), L r.bads, L r.cons])] [] (V.own 3 (List.map I ow)) [],
   GoesL Try.prog (loopOf Try.prog 4 0) (⟨mk 229 [(1, V.ptr 0 0), (3, V.ptr 1 0), (4, V.d (D.sl (List.map I g))), (6, V.arr 2), (7, V.ptr 3 0), (8, V.d (D.int IntKind.i64 0))] [], [B.box [V.d (D.int IntKind.i64 r.most), V.d (D.sl (List.map I r.ins)), V.d (D.sl (List.map Df.d r.lats)), V.d (D.sl (List.map Df.d r.ands)), V.d (D.sl (List.map I r.bads)), V.d (D.sl (List.map I r.cons))], B.box [V.d (D.int IntKind.i64 c.ins), V.d (D.sl (List.map Lt.d c.lats)), V.d (D.sl (List.map An.d c.ands)), V.d (D.sl (List.map I c.bads)), V.d (D.sl (List.map I c.cons))], B.lst 3 (List.map I ow), B.box (List.replicate 1001 (V.d (D.bool false)))]⟩) (Ex.exit 0) (Hb r c g ow U1 []),
   GoesL Try.prog (loopOf Try.prog 4 1) (⟨mk 229 [(1, V.ptr 0 0), (3, V.ptr 1 0), (4, V.d (D.sl (List.map I g))), (6, V.arr 2), (7, V.ptr 3 0), (10, V.d (D.int IntKind.i64 0))] [], [B.box [V.d (D.int IntKind.i64 r.most), V.d (D.sl (List.map I r.ins)), V.d (D.sl (List.map Df.d r.lats)), V.d (D.sl (List.map Df.d r.ands)), V.d (D.sl (List.map I r.bads)), V.d (D.sl (List.map I r.cons))], B.box [V.d (D.int IntKind.i64 c.ins), V.d (D.sl (List.map Lt.d c.lats)), V.d (D.sl (List.map An.d c.ands)), V.d (D.sl (List.map I c.bads)), V.d (D.sl (List.map I c.cons))], B.lst 3 (List.map I ow), B.box [V.undef, V.undef, V.undef, V.undef, V.undef, V.undef, V.undef, V.undef, V.undef, V.undef, V.undef, V.undef, V.undef, V.undef, V.undef, V.undef, V.undef, V.undef, V.undef, V.undef, V.undef, V.undef, V.undef, V.undef, V.undef, V.undef, V.undef, V.undef, V.undef, V.undef, V.undef, V.undef, V.undef, V.undef, V.undef, V.undef, V.undef, V.undef, V.undef, V.undef, V.undef, V.undef, V.undef, V.undef, V.undef, V.undef, V.undef, V.undef, V.undef, V.undef, V.undef, V.undef, V.undef, V.undef, V.undef, V.undef, V.undef, V.undef, V.undef, V.undef, V.undef, V.undef, V.undef, V.undef, V.undef, V.undef, V.undef, V.undef, V.undef, V.undef, V.undef, V.undef, V.undef, V.undef, V.undef, V.undef, V.undef, V.undef, V.undef, V.undef, V.undef, V.undef, V.undef, V.undef, V.undef, V.undef, V.undef, V.undef, V.undef, V.undef, V.undef, V.undef, V.undef, V.undef, V.undef, V.undef, V.undef, V.undef, V.undef, V.undef, V.undef, V.undef, V.undef, V.undef, V.undef, V.undef, V.undef, V.undef, V.undef, V.undef, V.undef, V.undef, V.undef, V.undef, V.undef, V.undef, V.undef, V.undef, V.undef, V.undef, V.undef, V.undef, V.undef, V.undef, V.undef, V.undef, V.undef, V.undef, V.undef, V.undef, V.undef, V.undef, V.undef, V.undef, V.undef, V.undef, V.undef, V.undef, V.undef, V.undef, V.undef, V.undef, V.undef, V.undef, V.undef, V.undef, V.undef, V.undef, V.undef, V.undef, V.undef, V.undef, V.undef, V.undef, V.undef, V.undef, V.undef, V.undef, V.undef, V.undef, V.undef, V.undef, V.undef, V.undef, V.undef, V.undef, V.undef, V.undef, V.undef, V.undef, V.undef, V.undef, V.undef, V.undef, V.undef, V.undef, V.undef, V.undef, V.undef, V.undef, V.undef, V.undef, V.undef, V.undef, V.undef, V.undef, V.undef, V.undef, V.undef, V.undef, V.undef, V.undef, V.undef, V.undef, V.undef, V.undef, V.undef, V.undef, V.undef, V.undef, V.undef, V.undef, V.undef, V.undef, V.undef, V.undef, V.undef, V.undef, V.undef, V.undef, V.undef, V.undef, V.undef, V.undef, V.undef, V.undef, V.undef, V.undef, V.undef, V.undef, V.undef, V.undef, V.undef, V.undef, V.undef, V.undef, V.undef, V.undef, V.undef, V.undef, V.undef, V.undef, V.undef, V.undef, V.undef, V.undef, V.undef, V.undef, V.undef, V.undef, V.undef, V.undef, V.undef, V.undef, V.undef, V.undef, V.undef, V.undef, V.undef, V.undef, V.undef, V.undef, V.undef, V.undef, V.undef, V.undef, V.undef, V.undef, V.undef, V.undef, V.undef, V.undef, V.undef, V.undef, V.undef, V.undef, V.undef, V.undef, V.undef, V.undef, V.undef, V.undef, V.undef, V.undef, V.undef, V.undef, V.undef, V.undef, V.undef, V.undef, V.undef, V.undef, V.undef, V.undef, V.undef, V.undef, V.undef, V.undef, V.undef, V.undef, V.undef, V.undef, V.undef, V.undef, V.undef, V.undef, V.undef, V.undef, V.undef, V.undef, V.undef, V.undef, V.undef, V.undef, V.undef, V.undef, V.undef, V.undef, V.undef, V.undef, V.undef, V.undef, V.undef, V.undef, V.undef, V.undef, V.undef, V.undef, V.undef, V.undef, V.undef, V.undef, V.undef, V.undef, V.undef, V.undef, V.undef, V.undef, V.undef, V.undef, V.undef, V.undef, V.undef, V.undef, V.undef, V.undef, V.undef, V.undef, V.undef, V.undef, V.undef, V.undef, V.undef, V.undef, V.undef, V.undef, V.undef, V.undef, V.undef, V.undef, V.undef, V.undef, V.undef, V.undef, V.undef, V.undef, V.undef, V.undef, V.undef, V.undef, V.undef, V.undef, V.undef, V.undef, V.undef, V.undef, V.undef, V.undef, V.undef, V.undef, V.undef, V.undef, V.undef, V.undef, V.undef, V.undef, V.undef, V.undef, V.undef, V.undef, V.undef, V.undef, V.undef, V.undef, V.undef, V.undef, V.undef, V.undef, V.undef, V.undef, V.undef, V.undef, V.undef, V.undef, V.undef, V.undef, V.undef, V.undef, V.undef, V.undef, V.undef, V.undef, V.undef, V.undef, V.undef, V.undef, V.undef, V.undef, V.undef, V.undef, V.undef, V.undef, V.undef, V.undef, V.undef, V.undef, V.undef, V.undef, V.undef, V.undef, V.undef, V.undef, V.undef, V.undef, V.undef, V.undef, V.undef, V.undef, V.undef, V.undef, V.undef, V.undef, V.undef, V.undef, V.undef, V.undef, V.undef, V.undef, V.undef, V.undef, V.undef, V.undef, V.undef, V.undef, V.undef, V.undef, V.undef, V.undef, V.undef, V.undef, V.undef, V.undef, V.undef, V.undef, V.undef, V.undef, V.undef, V.undef, V.undef, V.undef, V.undef, V.undef, V.undef, V.undef, V.undef, V.undef, V.undef, V.undef, V.undef, V.undef, V.undef, V.undef, V.undef, V.undef, V.undef, V.undef, V.undef, V.undef, V.undef, V.undef, V.undef, V.undef, V.undef, V.undef, V.undef, V.undef, V.undef, V.undef, V.undef, V.undef, V.undef, V.undef, V.undef, V.undef, V.undef, V.undef, V.undef, V.undef, V.undef, V.undef, V.undef, V.undef, V.undef, V.undef, V.undef, V.undef, V.undef, V.undef, V.undef, V.undef, V.undef, V.undef, V.undef, V.undef, V.undef, V.undef, V.undef, V.undef, V.undef, V.undef, V.undef, V.undef, V.undef, V.undef, V.undef, V.undef, V.undef, V.undef, V.undef, V.undef, V.undef, V.undef, V.undef, V.undef, V.undef, V.undef, V.undef, V.undef, V.undef, V.undef, V.undef, V.undef, V.undef, V.undef, V.undef, V.undef, V.undef, V.undef, V.undef, V.undef, V.undef, V.undef, V.undef, V.undef, V.undef, V.undef, V.undef, V.undef, V.undef, V.undef, V.undef, V.undef, V.undef, V.undef, V.undef, V.undef, V.undef, V.undef, V.undef, V.undef, V.undef, V.undef, V.undef, V.undef, V.undef, V.undef, V.undef, V.undef, V.undef, V.undef, V.undef, V.undef, V.undef, V.undef, V.undef, V.undef, V.undef, V.undef, V.undef, V.undef, V.undef, V.undef, V.undef, V.undef, V.undef, V.undef, V.undef, V.undef, V.undef, V.undef, V.undef, V.undef, V.undef, V.undef, V.undef, V.undef, V.undef, V.undef, V.undef, V.undef, V.undef, V.undef, V.undef, V.undef, V.undef, V.undef, V.undef, V.undef, V.undef, V.undef, V.undef, V.undef, V.undef, V.undef, V.undef, V.undef, V.undef, V.undef, V.undef, V.undef, V.undef, V.undef, V.undef, V.undef, V.undef, V.undef, V.undef, V.undef, V.undef, V.undef, V.undef, V.undef, V.undef, V.undef, V.undef, V.undef, V.undef, V.undef, V.undef, V.undef, V.undef, V.undef, V.undef, V.undef, V.undef, V.undef, V.undef, V.undef, V.undef, V.undef, V.undef, V.undef, V.undef, V.undef, V.undef, V.undef, V.undef, V.undef, V.undef, V.undef, V.undef, V.undef, V.undef, V.undef, V.undef, V.undef, V.undef, V.undef, V.undef, V.undef, V.undef, V.undef, V.undef, V.undef, V.undef, V.undef, V.undef, V.undef, V.undef, V.undef, V.undef, V.undef, V.undef, V.undef, V.undef, V.undef, V.undef, V.undef, V.undef, V.undef, V.undef, V.undef, V.undef, V.undef, V.undef, V.undef, V.undef, V.undef, V.undef, V.undef, V.undef, V.undef, V.undef, V.undef, V.undef, V.undef, V.undef, V.undef, V.undef, V.undef, V.undef, V.undef, V.undef, V.undef, V.undef, V.undef, V.undef, V.undef, V.undef, V.undef, V.undef, V.undef, V.undef, V.undef, V.undef, V.undef, V.undef, V.undef, V.undef, V.undef, V.undef, V.undef, V.undef, V.undef, V.undef, V.undef, V.undef, V.undef, V.undef, V.undef, V.undef, V.undef, V.undef, V.undef, V.undef, V.undef, V.undef, V.undef, V.undef, V.undef, V.undef, V.undef, V.undef, V.undef, V.undef, V.undef, V.undef, V.undef, V.undef, V.undef, V.undef, V.undef, V.undef, V.undef, V.undef, V.undef, V.undef, V.undef, V.undef, V.undef, V.undef, V.undef, V.undef, V.undef, V.undef, V.undef, V.undef, V.undef, V.undef, V.undef, V.undef, V.undef, V.undef, V.undef, V.undef, V.undef, V.undef, V.undef, V.undef, V.undef, V.undef, V.undef, V.undef, V.undef, V.undef, V.undef, V.undef, V.undef, V.undef, V.undef, V.undef, V.undef, V.undef, V.undef, V.undef, V.undef, V.undef, V.undef, V.undef, V.undef, V.undef, V.undef, V.undef, V.undef, V.undef, V.undef, V.undef, V.undef, V.undef, V.undef, V.undef, V.undef, V.undef, V.undef, V.undef, V.undef, V.undef, V.undef, V.undef, V.undef, V.undef, V.undef, V.undef, V.undef, V.undef, V.undef, V.undef, V.undef, V.undef, V.undef, V.undef, V.undef, V.undef, V.undef, V.undef, V.undef, V.undef, V.undef, V.undef, V.undef, V.undef, V.undef, V.undef, V.undef, V.undef, V.undef, V.undef, V.undef, V.undef, V.undef, V.undef, V.undef, V.undef, V.undef, V.undef, V.undef, V.undef, V.undef, V.undef, V.undef, V.undef, V.undef, V.undef, V.undef, V.undef, V.undef, V.undef, V.undef, V.undef, V.undef, V.undef, V.undef, V.undef, V.undef, V.undef, V.undef, V.undef, V.undef, V.undef, V.undef, V.undef, V.undef, V.undef, V.undef, V.undef, V.undef, V.undef, V.undef, V.undef, V.undef, V.undef, V.undef, V.undef, V.undef, V.undef, V.undef, V.undef, V.undef, V.undef, V.undef, V.undef, V.undef, V.undef, V.undef, V.undef, V.undef, V.undef, V.undef, V.undef, V.undef, V.undef, V.undef, V.undef, V.undef, V.undef, V.undef, V.undef, V.undef, V.undef, V.undef, V.undef, V.undef, V.undef, V.undef, V.undef, V.undef, V.undef, V.undef, V.undef, V.undef, V.undef, V.undef, V.undef, V.undef, V.undef, V.undef, V.undef, V.undef, V.undef, V.undef, V.undef, V.undef, V.undef, V.undef, V.undef, V.undef, V.undef, V.undef, V.undef, V.undef, V.undef, V.undef, V.undef, V.undef, V.undef, V.undef, V.undef, V.undef, V.undef, V.undef, V.undef, V.undef, V.undef, V.undef, V.undef, V.undef, V.undef, V.undef, V.undef, V.undef, V.undef, V.undef, V.undef, V.undef, V.undef, V.undef, V.undef, V.undef, V.undef, V.undef, V.undef]]⟩) (Ex.exit 2) (Hb r c g ow U1 []),
   GoesL Try.prog (loopOf Try.prog 4 2) (⟨mk 229 [(1, V.ptr 0 0), (3, V.ptr 1 0), (4, V.d (D.sl (List.map I g))), (6, V.arr 2), (7, V.ptr 3 0), (14, V.d (D.int IntKind.i64 0))] [], [B.box [V.d (D.int IntKind.i64 r.most), V.d (D.sl (List.map I r.ins)), V.d (D.sl (List.map Df.d r.lats)), V.d (D.sl (List.map Df.d r.ands)), V.d (D.sl (List.map I r.bads)), V.d (D.sl (List.map I r.cons))], B.box [V.d (D.int IntKind.i64 c.ins), V.d (D.sl (List.map Lt.d c.lats)), V.d (D.sl (List.map An.d c.ands)), V.d (D.sl (List.map I c.bads)), V.d (D.sl (List.map I c.cons))], B.lst 3 (List.map I ow), B.box [V.undef, V.undef, V.undef, V.undef, V.undef, V.undef, V.undef, V.undef, V.undef, V.undef, V.undef, V.undef, V.undef, V.undef, V.undef, V.undef, V.undef, V.undef, V.undef, V.undef, V.undef, V.undef, V.undef, V.undef, V.undef, V.undef, V.undef, V.undef, V.undef, V.undef, V.undef, V.undef, V.undef, V.undef, V.undef, V.undef, V.undef, V.undef, V.undef, V.undef, V.undef, V.undef, V.undef, V.undef, V.undef, V.undef, V.undef, V.undef, V.undef, V.undef, V.undef, V.undef, V.undef, V.undef, V.undef, V.undef, V.undef, V.undef, V.undef, V.undef, V.undef, V.undef, V.undef, V.undef, V.undef, V.undef, V.undef, V.undef, V.undef, V.undef, V.undef, V.undef, V.undef, V.undef, V.undef, V.undef, V.undef, V.undef, V.undef, V.undef, V.undef, V.undef, V.undef, V.undef, V.undef, V.undef, V.undef, V.undef, V.undef, V.undef, V.undef, V.undef, V.undef, V.undef, V.undef, V.undef, V.undef, V.undef, V.undef, V.undef, V.undef, V.undef, V.undef, V.undef, V.undef, V.undef, V.undef, V.undef, V.undef, V.undef, V.undef, V.undef, V.undef, V.undef, V.undef, V.undef, V.undef, V.undef, V.undef, V.undef, V.undef, V.undef, V.undef, V.undef, V.undef, V.undef, V.undef, V.undef, V.undef, V.undef, V.undef, V.undef, V.undef, V.undef, V.undef, V.undef, V.undef, V.undef, V.undef, V.undef, V.undef, V.undef, V.undef, V.undef, V.undef, V.undef, V.undef, V.undef, V.undef, V.undef, V.undef, V.undef, V.undef, V.undef, V.undef, V.undef, V.undef, V.undef, V.undef, V.undef, V.undef, V.undef, V.undef, V.undef, V.undef, V.undef, V.undef, V.undef, V.undef, V.undef, V.undef, V.undef, V.undef, V.undef, V.undef, V.undef, V.undef, V.undef, V.undef, V.undef, V.undef, V.undef, V.undef, V.undef, V.undef, V.undef, V.undef, V.undef, V.undef, V.undef, V.undef, V.undef, V.undef, V.undef, V.undef, V.undef, V.undef, V.undef, V.undef, V.undef, V.undef, V.undef, V.undef, V.undef, V.undef, V.undef, V.undef, V.undef, V.undef, V.undef, V.undef, V.undef, V.undef, V.undef, V.undef, V.undef, V.undef, V.undef, V.undef, V.undef, V.undef, V.undef, V.undef, V.undef, V.undef, V.undef, V.undef, V.undef, V.undef, V.undef, V.undef, V.undef, V.undef, V.undef, V.undef, V.undef, V.undef, V.undef, V.undef, V.undef, V.undef, V.undef, V.undef, V.undef, V.undef, V.undef, V.undef, V.undef, V.undef, V.undef, V.undef, V.undef, V.undef, V.undef, V.undef, V.undef, V.undef, V.undef, V.undef, V.undef, V.undef, V.undef, V.undef, V.undef, V.undef, V.undef, V.undef, V.undef, V.undef, V.undef, V.undef, V.undef, V.undef, V.undef, V.undef, V.undef, V.undef, V.undef, V.undef, V.undef, V.undef, V.undef, V.undef, V.undef, V.undef, V.undef, V.undef, V.undef, V.undef, V.undef, V.undef, V.undef, V.undef, V.undef, V.undef, V.undef, V.undef, V.undef, V.undef, V.undef, V.undef, V.undef, V.undef, V.undef, V.undef, V.undef, V.undef, V.undef, V.undef, V.undef, V.undef, V.undef, V.undef, V.undef, V.undef, V.undef, V.undef, V.undef, V.undef, V.undef, V.undef, V.undef, V.undef, V.undef, V.undef, V.undef, V.undef, V.undef, V.undef, V.undef, V.undef, V.undef, V.undef, V.undef, V.undef, V.undef, V.undef, V.undef, V.undef, V.undef, V.undef, V.undef, V.undef, V.undef, V.undef, V.undef, V.undef, V.undef, V.undef, V.undef, V.undef, V.undef, V.undef, V.undef, V.undef, V.undef, V.undef, V.undef, V.undef, V.undef, V.undef, V.undef, V.undef, V.undef, V.undef, V.undef, V.undef, V.undef, V.undef, V.undef, V.undef, V.undef, V.undef, V.undef, V.undef, V.undef, V.undef, V.undef, V.undef, V.undef, V.undef, V.undef, V.undef, V.undef, V.undef, V.undef, V.undef, V.undef, V.undef, V.undef, V.undef, V.undef, V.undef, V.undef, V.undef, V.undef, V.undef, V.undef, V.undef, V.undef, V.undef, V.undef, V.undef, V.undef, V.undef, V.undef, V.undef, V.undef, V.undef, V.undef, V.undef, V.undef, V.undef, V.undef, V.undef, V.undef, V.undef, V.undef, V.undef, V.undef, V.undef, V.undef, V.undef, V.undef, V.undef, V.undef, V.undef, V.undef, V.undef, V.undef, V.undef, V.undef, V.undef, V.undef, V.undef, V.undef, V.undef, V.undef, V.undef, V.undef, V.undef, V.undef, V.undef, V.undef, V.undef, V.undef, V.undef, V.undef, V.undef, V.undef, V.undef, V.undef, V.undef, V.undef, V.undef, V.undef, V.undef, V.undef, V.undef, V.undef, V.undef, V.undef, V.undef, V.undef, V.undef, V.undef, V.undef, V.undef, V.undef, V.undef, V.undef, V.undef, V.undef, V.undef, V.undef, V.undef, V.undef, V.undef, V.undef, V.undef, V.undef, V.undef, V.undef, V.undef, V.undef, V.undef, V.undef, V.undef, V.undef, V.undef, V.undef, V.undef, V.undef, V.undef, V.undef, V.undef, V.undef, V.undef, V.undef, V.undef, V.undef, V.undef, V.undef, V.undef, V.undef, V.undef, V.undef, V.undef, V.undef, V.undef, V.undef, V.undef, V.undef, V.undef, V.undef, V.undef, V.undef, V.undef, V.undef, V.undef, V.undef, V.undef, V.undef, V.undef, V.undef, V.undef, V.undef, V.undef, V.undef, V.undef, V.undef, V.undef, V.undef, V.undef, V.undef, V.undef, V.undef, V.undef, V.undef, V.undef, V.undef, V.undef, V.undef, V.undef, V.undef, V.undef, V.undef, V.undef, V.undef, V.undef, V.undef, V.undef, V.undef, V.undef, V.undef, V.undef, V.undef, V.undef, V.undef, V.undef, V.undef, V.undef, V.undef, V.undef, V.undef, V.undef, V.undef, V.undef, V.undef, V.undef, V.undef, V.undef, V.undef, V.undef, V.undef, V.undef, V.undef, V.undef, V.undef, V.undef, V.undef, V.undef, V.undef, V.undef, V.undef, V.undef, V.undef, V.undef, V.undef, V.undef, V.undef, V.undef, V.undef, V.undef, V.undef, V.undef, V.undef, V.undef, V.undef, V.undef, V.undef, V.undef, V.undef, V.undef, V.undef, V.undef, V.undef, V.undef, V.undef, V.undef, V.undef, V.undef, V.undef, V.undef, V.undef, V.undef, V.undef, V.undef, V.undef, V.undef, V.undef, V.undef, V.undef, V.undef, V.undef, V.undef, V.undef, V.undef, V.undef, V.undef, V.undef, V.undef, V.undef, V.undef, V.undef, V.undef, V.undef, V.undef, V.undef, V.undef, V.undef, V.undef, V.undef, V.undef, V.undef, V.undef, V.undef, V.undef, V.undef, V.undef, V.undef, V.undef, V.undef, V.undef, V.undef, V.undef, V.undef, V.undef, V.undef, V.undef, V.undef, V.undef, V.undef, V.undef, V.undef, V.undef, V.undef, V.undef, V.undef, V.undef, V.undef, V.undef, V.undef, V.undef, V.undef, V.undef, V.undef, V.undef, V.undef, V.undef, V.undef, V.undef, V.undef, V.undef, V.undef, V.undef, V.undef, V.undef, V.undef, V.undef, V.undef, V.undef, V.undef, V.undef, V.undef, V.undef, V.undef, V.undef, V.undef, V.undef, V.undef, V.undef, V.undef, V.undef, V.undef, V.undef, V.undef, V.undef, V.undef, V.undef, V.undef, V.undef, V.undef, V.undef, V.undef, V.undef, V.undef, V.undef, V.undef, V.undef, V.undef, V.undef, V.undef, V.undef, V.undef, V.undef, V.undef, V.undef, V.undef, V.undef, V.undef, V.undef, V.undef, V.undef, V.undef, V.undef, V.undef, V.undef, V.undef, V.undef, V.undef, V.undef, V.undef, V.undef, V.undef, V.undef, V.undef, V.undef, V.undef, V.undef, V.undef, V.undef, V.undef, V.undef, V.undef, V.undef, V.undef, V.undef, V.undef, V.undef, V.undef, V.undef, V.undef, V.undef, V.undef, V.undef, V.undef, V.undef, V.undef, V.undef, V.undef, V.undef, V.undef, V.undef, V.undef, V.undef, V.undef, V.undef, V.undef, V.undef, V.undef, V.undef, V.undef, V.undef, V.undef, V.undef, V.undef, V.undef, V.undef, V.undef, V.undef, V.undef, V.undef, V.undef, V.undef, V.undef, V.undef, V.undef, V.undef, V.undef, V.undef, V.undef, V.undef, V.undef, V.undef, V.undef, V.undef, V.undef, V.undef, V.undef, V.undef, V.undef, V.undef, V.undef, V.undef, V.undef, V.undef, V.undef, V.undef, V.undef, V.undef, V.undef, V.undef, V.undef, V.undef, V.undef, V.undef, V.undef, V.undef, V.undef, V.undef, V.undef, V.undef, V.undef, V.undef, V.undef, V.undef, V.undef, V.undef, V.undef, V.undef, V.undef, V.undef, V.undef, V.undef, V.undef, V.undef, V.undef, V.undef, V.undef, V.undef, V.undef, V.undef, V.undef, V.undef, V.undef, V.undef, V.undef, V.undef, V.undef, V.undef, V.undef, V.undef, V.undef, V.undef, V.undef, V.undef, V.undef, V.undef, V.undef, V.undef, V.undef, V.undef, V.undef, V.undef, V.undef, V.undef, V.undef, V.undef, V.undef, V.undef, V.undef, V.undef, V.undef, V.undef, V.undef, V.undef, V.undef, V.undef, V.undef, V.undef, V.undef, V.undef, V.undef, V.undef, V.undef, V.undef, V.undef, V.undef, V.undef, V.undef, V.undef, V.undef, V.undef, V.undef, V.undef, V.undef, V.undef, V.undef, V.undef, V.undef, V.undef, V.undef, V.undef, V.undef, V.undef, V.undef, V.undef, V.undef, V.undef, V.undef, V.undef, V.undef, V.undef, V.undef, V.undef, V.undef, V.undef, V.undef, V.undef, V.undef, V.undef, V.undef, V.undef, V.undef, V.undef, V.undef, V.undef, V.undef, V.undef, V.undef, V.undef, V.undef, V.undef, V.undef, V.undef, V.undef, V.undef, V.undef, V.undef, V.undef, V.undef, V.undef, V.undef, V.undef, V.undef, V.undef, V.undef, V.undef, V.undef, V.undef, V.undef, V.undef, V.undef, V.undef, V.undef, V.undef, V.undef, V.undef, V.undef, V.undef, V.undef, V.undef, V.undef, V.undef, V.undef, V.undef, V.undef, V.undef, V.undef, V.undef, V.undef, V.undef, V.undef, V.undef, V.undef, V.undef, V.undef, V.undef, V.undef, V.undef, V.undef, V.undef, V.undef, V.undef, V.undef, V.undef, V.undef, V.undef, V.undef, V.undef]]⟩) (Ex.exit 4) (Hb r c g ow U1 []),
   ICall Try.prog 8 [] [] (V.d (D.bool true)) []]) := by kernel_rfl
end
end Go.Proofs.Ytbbefbgomdmldaa.Sy.Bef
/- OrderBefore, whole. -/
namespace Go.Proofs.Ytbbefbgomdmldaa.Sy.Bef
open Go Go.Proofs.Ytbbefbgomdmldaa.Ab Go.Proofs.Ytbbefbgomdmldaa.Sy Go.Proofs.Ytbbefbgomdmldaa.Sy.Law Go.Proofs.Ytbbefbgomdmldaa.Pl
set_option maxRecDepth 1000000
set_option linter.unusedVariables false
set_option linter.unusedSimpArgs false
def bx (b : Bool) : V := .d (.bool b)
theorem over_set {cs : List V} {u : Nat} {v : V} (h : u < cs.length) : over cs (0 + u * 1 + 0) [v] = cs.set u v := by
  unfold over
  rw [List.set_eq_take_append_cons_drop, if_pos h]
  simp
theorem stays_bl (r : Rw) (c : Ci) (g ow : List Int) (S : List Bool) (sl : List (Nat × V)) : stays 4 ((Hb r c g ow (S.map bx) sl).blks) = true := by
  have e : (S.map bx).flatMap ids1 = [] := by
    rw [List.flatMap_eq_nil_iff]
    intro v hv
    obtain ⟨b, _, rfl⟩ := List.mem_map.1 hv
    rfl
  show ([r.box, Law.Bc c, .lst 3 (ow.map I), .box (S.map bx)] : List B).all (fun b => (idsB b).all fun i => decide (i < 4)) = true
  have e2 : idsB (.box (S.map bx)) = [] := e
  rw [List.all_cons, List.all_cons, List.all_cons, List.all_cons, e2]
  rfl
section
variable {r : Rw} {m : Nat}
/-- What is known of the numbers of a good raw circuit. -/
structure Gd (r : Rw) (m : Nat) (s : List Nat) (g : List Int) : Prop where
  em : r.most = (m : Int)
  hN : Num (m : Int) r.ins r.lats r.ands r.bads r.cons
  hn : ((ownL r.ins r.lats r.ands).map varN).Nodup
  hS : Nums m r.ins r.lats r.ands r.bads r.cons s g
  hu : ∀ x ∈ useL r.lats r.ands r.bads r.cons, varN x = 0 ∨ varN x ∈ (ownL r.ins r.lats r.ands).map varN
theorem gd_of (hc : Cir.chkR r = 0) : ∃ m, Gd r m (ordS r.ands r.ands.length []) (Cir.numR r) := by
  have hc' : chkS r.most r.ins r.lats r.ands r.bads r.cons = 0 := hc
  obtain ⟨hN, hn, hfull⟩ := chkS_zero hc'
  obtain ⟨m, em⟩ := Int.eq_ofNat_of_zero_le hN.m.1
  refine ⟨m, em, by rw [← em]; exact hN, hn, ?_, (chkS_more hc').1⟩
  have := nums_of (m := m) (by rw [← em]; exact hc')
  unfold Cir.numR numsS
  rwa [em, Int.toNat_natCast]
variable {s : List Nat} {g : List Int}
theorem Gd.len (h : Gd r m s g) : (Def.defs r).length = r.ins.length + r.lats.length + r.ands.length ∧ r.ins.length + r.lats.length + r.ands.length ≤ 1000 ∧ m ≤ 1000 := by
  refine ⟨by unfold Def.defs; simp; omega, h.hN.len, by have := h.hN.m; omega⟩
theorem Gd.own (h : Gd r m s g) {i : Nat} (hi : i < (Def.defs r).length) : 2 ≤ (Def.defs r).getD i default ∧ (Def.defs r).getD i default ≤ 2 * (m : Int) + 1 := by
  have := h.hN.own ((Def.defs r).getD i default) (by rw [← own_defs]; exact getD_mem hi)
  omega
theorem mem_var {i : Nat} (hi : i < (Def.defs r).length) : varN ((Def.defs r).getD i default) ∈ (ownL r.ins r.lats r.ands).map varN := by
  rw [← own_defs]; exact List.mem_map_of_mem (getD_mem hi)
/-- Each definition has a number in its range. -/
theorem Gd.num (h : Gd r m s g) {i : Nat} (hi : i < (Def.defs r).length) : ∃ j, ∃ hj : j < (varsN r.ins r.lats r.ands s).length, (varsN r.ins r.lats r.ands s)[j] = varN ((Def.defs r).getD i default) ∧ gt g (varN ((Def.defs r).getD i default)) = ((1 + j : Nat) : Int) := by
  obtain ⟨j, hj, e⟩ := List.getElem_of_mem ((h.hS.own _).2 (mem_var hi))
  exact ⟨j, hj, e, by rw [← e]; exact h.hS.at' j hj⟩
theorem Gd.range (h : Gd r m s g) {i : Nat} (hi : i < (Def.defs r).length) : 1 ≤ gt g (varN ((Def.defs r).getD i default)) ∧ gt g (varN ((Def.defs r).getD i default)) ≤ (Def.defs r).length := by
  obtain ⟨j, hj, e, e2⟩ := h.num hi
  rw [varsN_len, h.hS.full] at hj
  have := h.len
  omega
theorem Gd.inj (h : Gd r m s g) {i k : Nat} (hi : i < (Def.defs r).length) (hk : k < (Def.defs r).length) (e : gt g (varN ((Def.defs r).getD i default)) = gt g (varN ((Def.defs r).getD k default))) : i = k := by
  obtain ⟨j, hj, e1, e2⟩ := h.num hi
  obtain ⟨j', hj', e3, e4⟩ := h.num hk
  obtain rfl : j = j' := by omega
  have hvv := e1.symm.trans e3
  have hn := h.hn
  rw [← own_defs] at hn
  have hl : ((Def.defs r).map varN).length = (Def.defs r).length := List.length_map _
  refine nodup_at hn (by rw [hl]; exact hi) (by rw [hl]; exact hk) ?_
  rw [List.getElem_map, List.getElem_map]
  rw [List.getD_eq_getElem?_getD, List.getElem?_eq_getElem hi, List.getD_eq_getElem?_getD, List.getElem?_eq_getElem hk] at hvv
  exact hvv
theorem Gd.first (h : Gd r m s g) {i : Nat} (hi : i < r.ins.length + r.lats.length) : gt g (varN ((Def.defs r).getD i default)) = ((i + 1 : Nat) : Int) := by
  have hl := h.len
  have hj : i < (varsN r.ins r.lats r.ands s).length := by rw [varsN_len]; omega
  have hd : i < (Def.defs r).length := by omega
  have e : (varsN r.ins r.lats r.ands s)[i] = varN ((Def.defs r).getD i default) := by
    have e1 : (Def.defs r).map varN = (r.ins.map varN ++ r.lats.map (fun d => varN d.lit)) ++ r.ands.map (fun d => varN d.lit) := by
      unfold Def.defs; simp [List.map_append, List.map_map]; rfl
    have e2 : ((Def.defs r).map varN)[i]? = (varsN r.ins r.lats r.ands s)[i]? := by
      rw [e1]
      unfold varsN
      exact (List.getElem?_append_left (by simp; omega)).trans (List.getElem?_append_left (by simp; omega)).symm
    rw [List.getElem?_eq_getElem hj, List.getElem?_map, List.getElem?_eq_getElem hd] at e2
    rw [List.getD_eq_getElem?_getD, List.getElem?_eq_getElem hd]
    exact (Option.some.inj e2).symm
  rw [← e, h.hS.at' i hj]
  omega
theorem Gd.gate (h : Gd r m s g) {i : Nat} (hi : i < r.ands.length) : ∃ j, j < s.length ∧ s[j]? = some i ∧ gt g (vr r.ands i) = ((1 + (r.ins.length + r.lats.length + j) : Nat) : Int) := by
  have hm := mem_of_full h.hS.nodup h.hS.lt (by rw [h.hS.full]; exact Nat.le_refl _) i hi
  obtain ⟨j, hj, e⟩ := List.getElem_of_mem hm
  have hj2 : r.ins.length + r.lats.length + j < (varsN r.ins r.lats r.ands s).length := by rw [varsN_len]; omega
  have hv : (varsN r.ins r.lats r.ands s)[r.ins.length + r.lats.length + j] = vr r.ands i := by
    refine (List.getElem_append_right (bs := s.map (vr r.ands)) (show (r.ins.map varN ++ r.lats.map (fun d => varN d.lit)).length ≤ r.ins.length + r.lats.length + j by simp)).trans ?_
    simp only [List.getElem_map, List.length_append, List.length_map, Nat.add_sub_cancel_left]
    rw [e]
  exact ⟨j, hj, by rw [List.getElem?_eq_getElem hj, e], by rw [← hv]; exact h.hS.at' _ hj2⟩
variable (c : Ci)
theorem seen_loop (h : Gd r m s g) (d : Nat) : ∀ (i : Nat) (S : List Bool), (Def.defs r).length - i = d → i ≤ (Def.defs r).length → S.length = 1001 → (∀ u, gb S u = true ↔ ∃ k, k < i ∧ gt g (varN ((Def.defs r).getD k default)) = (u : Int)) →
    GoesL Try.prog (loopOf Try.prog 4 0) (Hb r c g (Def.defs r) (S.map bx) [(8, .d (I i))]) (.exit 0) (Hb r c g (Def.defs r) U1 []) := by
  induction d with
  | zero =>
    intro i S hd hi hl hI
    obtain rfl : i = (Def.defs r).length := by omega
    have h1 := GoesL.stopP hO hm (b3 r c g (Def.defs r) (S.map bx) (Def.defs r).length) (by simp) ⟨stays_bl r c g _ S _, decide_eq_false (by rw [List.length_map]; omega)⟩
    have h2 := h1.blur 3
    have e : blurB 3 (Hb r c g (Def.defs r) (S.map bx) []) = Hb r c g (Def.defs r) ((S.map bx).map fun _ => V.undef) [] := rfl
    rw [e, List.map_map] at h2
    have e2 : S.map ((fun _ => V.undef) ∘ bx) = U1 := by
      unfold U1
      rw [← hl]
      apply List.ext_getElem
      · simp
      · intro i h1 h2; simp
    rwa [e2] at h2
  | succ d ih =>
    intro i S hd hi hl hI
    have hlt : i < (Def.defs r).length := by omega
    obtain ⟨hdl, hle, hm1⟩ := h.len
    have hx := h.own hlt
    have hr := h.range hlt
    have hgl := h.hS.len
    have hvl : varN ((Def.defs r).getD i default) < g.length := by rw [hgl]; unfold varN; omega
    obtain ⟨u, hu⟩ := Int.eq_ofNat_of_zero_le (show 0 ≤ gt g (varN ((Def.defs r).getD i default)) by omega)
    have hu1 : u < 1001 := by omega
    have hSu : gb S u = false := by
      rw [← Bool.not_eq_true, hI u]
      rintro ⟨k, hk, e⟩
      have := h.inj hlt (show k < (Def.defs r).length by omega) (by rw [e, hu])
      omega
    have hsl : u < (S.map bx).length := by rw [List.length_map, hl]; exact hu1
    have hov : over (S.map bx) (0 + u * 1 + 0) [.d (.bool true)] = (S.set u true).map bx := by rw [over_set hsl, List.map_set]; rfl
    have hnext := ih (i + 1) (S.set u true) (by omega) (by omega) (by simpa using hl) (fun v => by
      rw [gb_set _ _ _ _ (by omega)]
      by_cases e : v = u
      · subst e
        rw [if_pos rfl]
        exact ⟨fun _ => ⟨i, by omega, hu⟩, fun _ => rfl⟩
      · rw [if_neg e, hI v]
        constructor
        · rintro ⟨k, hk, e1⟩; exact ⟨k, by omega, e1⟩
        · rintro ⟨k, hk, e1⟩
          by_cases hki : k = i
          · subst hki; rw [hu] at e1; exact (e (by omega)).elim
          · exact ⟨k, by omega, e1⟩)
    have k1 := b1 r c g (Def.defs r) (S.map bx) i u
    have k2 := b2 r c g (Def.defs r) (S.map bx) i u
    rw [hov] at k1 k2
    have g0 := stays_bl r c g (Def.defs r) (S.set u true) [(8, .d (I (i + 1 : Nat)))]
    have g1 : decide ((i : Int) < (((Def.defs r).map I).length : Nat)) = true := decide_eq_true (by rw [List.length_map]; omega)
    have g2 : (i : Int) = (i : Int) ∧ i < ((Def.defs r).map I).length := ⟨rfl, by rw [List.length_map]; exact hlt⟩
    have g3 := get_map I (Def.defs r) i hlt
    have g5 : (Def.defs r).getD i default / 2 = ((((Def.defs r).getD i default / 2).toNat : Nat) : Int) ∧ (g.map I)[((Def.defs r).getD i default / 2).toNat]? = some (I (g.getD ((Def.defs r).getD i default / 2).toNat default)) := ⟨by omega, get_map I g _ hvl⟩
    have en : g.getD ((Def.defs r).getD i default / 2).toNat default = gt g (varN ((Def.defs r).getD i default)) := rfl
    have g8 : g.getD ((Def.defs r).getD i default / 2).toNat default = (u : Int) ∧ u < 1001 := ⟨hu, hu1⟩
    have g9 : (S.map bx)[0 + u * 1 + 0]? = some (V.d (D.bool false)) := by
      rw [show 0 + u * 1 + 0 = u by omega, List.getElem?_map, List.getElem?_eq_getElem (by omega)]
      unfold gb at hSu
      rw [List.getD_eq_getElem?_getD, List.getElem?_eq_getElem (by omega)] at hSu
      have : S[u] = false := hSu
      rw [this]; rfl
    have g10 : IntKind.i64.wrap ((((r.ins.map I).length : Nat) : Int) + (((r.lats.map Df.d).length : Nat) : Int)) = (((r.ins.map I).length + (r.lats.map Df.d).length : Nat) : Int) := by rw [List.length_map, List.length_map, wrap_id (by omega) (by omega)]; omega
    have g15 : 0 + u * 1 + 0 < (S.map bx).length := by omega
    by_cases c1 : i < r.ins.length + r.lats.length
    · have hf := h.first c1
      exact GoesL.stepP hO hm k1 ⟨g0, g1, g2, g3, quo2 (by omega) (by omega), g5, decide_eq_false (by rw [en]; omega), decide_eq_false (by rw [en, List.length_map]; omega), g8, g9, g10, decide_eq_true (by rw [List.length_map, List.length_map]; omega), wrap_succ (by omega), by rw [en, hf]; simp, g8, g15, wrap_succ (by omega)⟩ hnext
    · exact GoesL.stepP hO hm k2 ⟨g0, g1, g2, g3, quo2 (by omega) (by omega), g5, decide_eq_false (by rw [en]; omega), decide_eq_false (by rw [en, List.length_map]; omega), g8, g9, g10, decide_eq_false (by rw [List.length_map, List.length_map]; omega), g8, g15, wrap_succ (by omega)⟩ hnext
end
section
variable {r : Rw} {m : Nat} {s : List Nat} {g : List Int}
theorem tk (h : Gd r m s g) {x : Int} (hx : x ∈ useL r.lats r.ands r.bads r.cons) : ICall Try.prog 15 [.d (L g), .d (I x)] [] (.d (I (told g x))) [] := by
  have h1 := h.hN.use x hx
  have h2 := h.hS.num (h.hu x hx)
  have h3 := h.len
  exact told_ok g x h1.1 (by rw [h.hS.len]; unfold varN; omega) (by omega) (by omega)
theorem gates_loop (h : Gd r m s g) : GoesL Try.prog (loopOf Try.prog 4 1) (Hb r (cirSv g r.ins r.lats r.ands r.bads r.cons s) g (Def.defs r) U1 [(10, .d (I 0))]) (.exit 2) (Hb r (cirSv g r.ins r.lats r.ands r.bads r.cons s) g (Def.defs r) U1 []) := by
  have h3 := h.len
  have hsl := h.hS.full
  have hca : ∀ c : Ci, c = cirSv g r.ins r.lats r.ands r.bads r.cons s → c.ands.length = s.length := fun c e => by rw [e]; unfold cirSv; simp
  generalize hcc : cirSv g r.ins r.lats r.ands r.bads r.cons s = c
  have hcl := hca c hcc.symm
  have := fold_loop (c := loopOf Try.prog 4 1) r.ands (fun i (_ : Unit) => Hb r c g (Def.defs r) U1 [(10, .d (I i))]) (fun _ => Hb r c g (Def.defs r) U1 []) (.exit 2) (fun _ _ => ()) (fun _ _ => True)
    (fun i _ hi _ => ⟨trivial, fun e s' hh => by
      have hmem := rdT_mem hi
      have hdd : r.ands.getD i default = rdD r.ands (i : Int) := by unfold rdD; rw [Int.toNat_natCast]
      obtain ⟨j, hj, hsj, hgj⟩ := h.gate hi
      have ho := h.hN.own (rdD r.ands (i : Int)).lit (by unfold ownL; exact List.mem_append_right _ (List.mem_map_of_mem hmem))
      have en : g.getD ((r.ands.getD i default).lit / 2).toNat default = ((1 + (r.ins.length + r.lats.length + j) : Nat) : Int) := by rw [hdd]; exact hgj
      have hvl : ((r.ands.getD i default).lit / 2).toNat < g.length := by rw [h.hS.len, hdd]; omega
      have k4 := b4 r c g (Def.defs r) (told g (r.ands.getD i default).a) (told g (r.ands.getD i default).b) i
      rw [en] at k4
      have el : (r.ins.map I).length = r.ins.length := List.length_map _
      have el2 : (r.lats.map Df.d).length = r.lats.length := List.length_map _
      have egi : ((1 + (r.ins.length + r.lats.length + j) : Nat) : Int) - 1 - (((r.ins.map I).length : Nat) : Int) - (((r.lats.map Df.d).length : Nat) : Int) = (j : Int) := by rw [el, el2]; omega
      rw [egi, Int.toNat_natCast] at k4
      have hcj : c.ands.getD j default = (⟨mx (told g (r.ands.getD i default).a) (told g (r.ands.getD i default).b), mn (told g (r.ands.getD i default).a) (told g (r.ands.getD i default).b)⟩ : An) := by
        rw [← hcc]
        unfold cirSv
        rw [List.getD_eq_getElem?_getD, List.getElem?_map, hsj, hdd]; rfl
      have g1 : (i : Int) = (i : Int) ∧ (r.ands.map Df.d)[i]? = some (r.ands.getD i default).d := ⟨rfl, get_map Df.d r.ands i hi⟩
      refine .step hO hm k4 ⟨decide_eq_true (by rw [List.length_map]; omega), g1, by rw [hdd]; exact quo2 (by omega) (by omega), ⟨by rw [hdd]; omega, en ▸ get_map I g _ hvl⟩, wrap_id (by omega) (by omega), wrap_id (by rw [el]; omega) (by rw [el]; omega), wrap_id (by omega) (by omega), decide_eq_false (by omega), decide_eq_false (by rw [List.length_map]; omega), g1, ?_, g1, ?_, ⟨rfl, get_map An.d c.ands j (by omega)⟩, rfl, rfl, ?_, wrap_succ (by omega)⟩ hh
      · rw [hdd]; exact tk h (by unfold useL; exact List.mem_append_right _ (List.mem_flatMap.2 ⟨_, hmem, by simp⟩))
      · rw [hdd]; exact tk h (by unfold useL; exact List.mem_append_right _ (List.mem_flatMap.2 ⟨_, hmem, by simp⟩))
      · rw [hcj]
        show (!decide ([mx _ _, mn _ _] = [mx _ _, mn _ _])) = false
        simp⟩)
    (fun _ _ => by have k := b5 r c g (Def.defs r) r.ands.length; exact .stop hO hm k (by simp) (decide_eq_false (by rw [List.length_map]; omega))) _ 0 () rfl (Nat.zero_le _) trivial
  exact this
theorem lats_loop (h : Gd r m s g) : GoesL Try.prog (loopOf Try.prog 4 2) (Hb r (cirSv g r.ins r.lats r.ands r.bads r.cons s) g (Def.defs r) U1 [(14, .d (I 0))]) (.exit 4) (Hb r (cirSv g r.ins r.lats r.ands r.bads r.cons s) g (Def.defs r) U1 []) := by
  have h3 := h.len
  generalize hcc : cirSv g r.ins r.lats r.ands r.bads r.cons s = c
  have hcl : c.lats.length = r.lats.length := by rw [← hcc]; unfold cirSv; simp
  have := fold_loop (c := loopOf Try.prog 4 2) r.lats (fun i (_ : Unit) => Hb r c g (Def.defs r) U1 [(14, .d (I i))]) (fun _ => Hb r c g (Def.defs r) U1 []) (.exit 4) (fun _ _ => ()) (fun _ _ => True)
    (fun i _ hi _ => ⟨trivial, fun e s' hh => by
      have hmem := getD_mem hi
      have hci : c.lats.getD i default = (⟨told g (r.lats.getD i default).a, (r.lats.getD i default).b⟩ : Lt) := by
        rw [← hcc]
        unfold cirSv
        rw [List.getD_eq_getElem?_getD, List.getElem?_map, List.getElem?_eq_getElem hi, List.getD_eq_getElem?_getD, List.getElem?_eq_getElem hi]; rfl
      have g1 : (i : Int) = (i : Int) ∧ (r.lats.map Df.d)[i]? = some (r.lats.getD i default).d := ⟨rfl, get_map Df.d r.lats i hi⟩
      exact .step hO hm (b6 r c g (Def.defs r) (told g (r.lats.getD i default).a) i) ⟨decide_eq_true (by rw [List.length_map]; omega), ⟨rfl, get_map Lt.d c.lats i (by omega)⟩, g1, tk h (by unfold useL; exact List.mem_append_left _ (List.mem_append_right _ (List.mem_map_of_mem hmem))), g1, by rw [hci]; simp, wrap_succ (by omega)⟩ hh⟩)
    (fun _ _ => by have k := b7 r c g (Def.defs r) r.lats.length; exact .stop hO hm k (by simp) (decide_eq_false (by rw [List.length_map]; omega))) _ 0 () rfl (Nat.zero_le _) trivial
  exact this
end
/-- OrderBefore holds. -/
theorem orderBefore (r : Rw) (hd : ∀ x ∈ Def.defs r, x ≤ 9223372036854775807) (hu : ∀ x ∈ Def.uses r, x ≤ 9223372036854775807) :
    ICall Try.prog 4 [.d r.d] [] (.d (.bool true)) [] := by
  have hgr := great_ok r
  cases cg : great r with
  | true => rw [cg] at hgr; exact callX_ok hO hm (p1 r) ⟨hgr, alive⟩
  | false =>
  rw [cg] at hgr
  have hS := sm_of cg hd hu
  have hck := Ref.check hS
  by_cases c4 : Cir.chkR r = 0
  · obtain ⟨m, hG⟩ := gd_of c4
    have hcir := circuit hS.wf
    rw [c4] at hck hcir
    have hcA : cirA r = Cir.cirR r := by unfold cirA; rw [if_pos c4]
    have hnA : numA r = Cir.numR r := by unfold numA; rw [if_pos c4]
    rw [hcA, hnA] at hcir
    have hval : Val (Cir.cirR r) := by
      have := cir_val (m := m) (by rw [← hG.em]; exact c4)
      unfold Cir.cirR
      rw [hG.em]; exact this
    obtain ⟨h3, h4, h5⟩ := hG.len
    have hgc := Gates.icall (Cir.cirR r) (by have := hval.len; have := hval.n0; omega) (by have := hval.len; have := hval.n0; omega) (by have := hval.b3; omega) (by have := hval.b4; omega)
    rw [hval.chk] at hgc
    have w1 : IntKind.i64.wrap (r.most + 1) = r.most + 1 := by have := hG.em; exact wrap_id (by omega) (by omega)
    have l0 := seen_loop (Cir.cirR r) hG _ 0 (List.replicate 1001 false) rfl (Nat.zero_le _) (by simp) (fun u => by
      constructor
      · intro h
        unfold gb at h
        rw [List.getD_eq_getElem?_getD, List.getElem?_replicate] at h
        split at h <;> simp at h
      · rintro ⟨k, hk, -⟩; omega)
    rw [List.map_replicate] at l0
    have l1 := gates_loop hG
    have l2 := lats_loop hG
    have ecc : cirSv (Cir.numR r) r.ins r.lats r.ands r.bads r.cons (ordS r.ands r.ands.length []) = Cir.cirR r := rfl
    rw [ecc] at l1 l2
    have e1 : (Cir.cirR r).ins = ((r.ins.map I).length : Nat) := by rw [List.length_map]; rfl
    have e2 : (Cir.cirR r).lats.length = r.lats.length := by rw [← ecc]; unfold cirSv; simp
    have e3 : (Cir.cirR r).ands.length = r.ands.length := by rw [← ecc]; unfold cirSv; simp [hG.hS.full]
    have e4 : (Cir.cirR r).bads.length = r.bads.length := by rw [← ecc]; unfold cirSv; simp
    have e5 : (Cir.cirR r).cons.length = r.cons.length := by rw [← ecc]; unfold cirSv; simp
    have e6 : (Cir.numR r).length = m + 1 := hG.hS.len
    refine callX_ok hO hm (p3 r (Cir.cirR r) (Cir.numR r) (Def.defs r)) ⟨hgr, hck, rfl, hcir, rfl, hgc, rfl, by rw [e1]; simp, by rw [List.length_map, List.length_map, e2]; simp, by rw [List.length_map, List.length_map, e3]; simp, w1, ?_, by rw [List.length_map, List.length_map, e4]; simp, by rw [List.length_map, List.length_map, e5]; simp, Ref.defined hS, l0, l1, l2, alive⟩
    rw [List.length_map, e6, hG.em]
    simp
  · exact callX_ok hO hm (p2 r (Cir.chkR r)) ⟨hgr, hck, bne_iff_ne.2 c4, alive⟩
end Go.Proofs.Ytbbefbgomdmldaa.Sy.Bef
/- Arguments that come in, as plain data. -/
namespace Go.Proofs.Ytbbefbgomdmldaa.Ab
open Go Go.ChangeShapes Go.WideShapes Go.RowKit
set_option linter.unusedVariables false

theorem addr_add (a : Addr) (m n : Nat) : (a.add m).add n = a.add (m + n) := by
  by_cases h1 : m = 0
  · subst h1; simp [Addr.add]
  · by_cases h2 : n = 0
    · subst h2; simp [Addr.add]
    · simp [Addr.add, h1, h2, Nat.add_assoc]
/-- All blocks that stand. -/
abbrev Old (w : World) : Nat → Prop := fun b => b < w.heap.size
/-- Cells that read as data. -/
def Cs (w : World) (ds : List D) (cs : List Value) : Prop := All2 (fun d u => DRel w (Old w) d u ∧ u.oneCell' = true) ds cs

/-- What is read at type t, in so many cells. -/
structure OpA (P : Program) {α : Type} (t : TypeId) (sz : Nat) (f : α → List D) (ok : α → Prop) : Prop where
  out : ∀ {H : Type} {enc : TypeId × Value → H} {w : World} {base : Nat} {held : Bool} {n : Nat} {cs : List Value} {x : DataW H × List MemPlace},
    DataW.trod enc P w base (fun _ => true) held n t cs = some x → ∃ a, ok a ∧ (f a).length = sz ∧ Cs w (f a) cs

theorem opA_int {P : Program} {t : TypeId} {k : IntKind} (ht : P.underlying t = some (.int k)) : OpA P t 1 (fun n : Int => [.int k n]) (fun n => (Lit.int k n).wf = true) := by
  constructor
  intro H enc w base held n cs x h
  cases n with
  | zero => simp [DataW.trod] at h
  | succ n =>
    unfold DataW.trod at h
    rw [ht] at h
    split at h <;> simp_all
    obtain ⟨⟨rfl, hw⟩, _⟩ := h
    exact ⟨_, hw, ⟨.int _ _, rfl⟩, trivial⟩
theorem opA_bool {P : Program} {t : TypeId} (ht : P.underlying t = some .bool) : OpA P t 1 (fun b : Bool => [.bool b]) (fun _ => True) := by
  constructor
  intro H enc w base held n cs x h
  cases n with
  | zero => simp [DataW.trod] at h
  | succ n =>
    unfold DataW.trod at h
    rw [ht] at h
    split at h <;> first | (cases h; done) | exact ⟨_, trivial, rfl, ⟨.bool _, rfl⟩, trivial⟩ | simp_all
theorem opA_string {P : Program} {t : TypeId} (ht : P.underlying t = some .string) : OpA P t 1 (fun s : ByteArray => [.str s.data.toList]) (fun s => s.size ≤ maxLen) := by
  constructor
  intro H enc w base held n cs x h
  cases n with
  | zero => simp [DataW.trod] at h
  | succ n =>
    unfold DataW.trod at h
    rw [ht] at h
    split at h <;> simp_all
    exact ⟨_, h.1, ⟨.str _, rfl⟩, trivial⟩

theorem opA_slice {P : Program} {α : Type} {t e : TypeId} {sz : Nat} {f : α → List D} {ok : α → Prop} (ht : P.underlying t = some (.slice e)) (he : P.cellsOf e = sz) (hz : 0 < sz) (ho : OpA P e sz f ok) (g : α → D) (hg : ∀ a, (f a).length = sz → (g a).cells = f a) :
    OpA P t 1 (fun l : List α => [.sl (l.map g)]) (fun l => l.length ≤ maxLen ∧ ∀ x ∈ l, ok x) := by
  constructor
  intro H enc w base held n cs x h
  rcases Go.Deep.open_slice ht h with ⟨rfl, _⟩ | ⟨a, len, cap, m, n', D', Pl, rfl, hb, hl, hm, hmm, _, hx⟩
  · exact ⟨[], ⟨by simp, by simp⟩, rfl, ⟨.sl0 _ _, rfl⟩, trivial⟩
  · have hlm : len ≤ m := by rw [hmm]; simp; exact hl
    have hL : len ≤ maxLen := Nat.le_trans hl hm
    have each : ∀ i, i < len → ∃ y, ok y ∧ (f y).length = sz ∧ ∀ j d, (f y)[j]? = some d → ∃ u, w.cell? (a.add (i * sz + j)) = some u ∧ u.oneCell' = true ∧ DRel w (Old w) d u := by
      intro i hi
      obtain ⟨cs', h1, h2⟩ := hx i (by omega)
      obtain ⟨y, hy, hfl, hC⟩ := ho.out h2
      obtain ⟨_, hlen, hcell⟩ := World.cells?_some h1
      rw [he] at hlen hcell
      refine ⟨y, hy, hfl, fun j d hj => ?_⟩
      have hjl : j < sz := by rw [← hfl]; exact (List.getElem?_eq_some_iff.1 hj).1
      obtain ⟨u, hu, hr, h1'⟩ := All2.get hC j d hj
      refine ⟨u, ?_, h1', hr⟩
      rw [← addr_add, hcell j hjl, hu]
    clear hx
    have build : ∀ k, k ≤ len → ∃ ys : List α, ys.length = k ∧ (∀ y ∈ ys, ok y ∧ (f y).length = sz) ∧ ∀ i p, ys[i]? = some p → ∀ j d, (f p)[j]? = some d → ∃ u, w.cell? (a.add (i * sz + j)) = some u ∧ u.oneCell' = true ∧ DRel w (Old w) d u := by
      intro k
      induction k with
      | zero => intro _; exact ⟨[], rfl, by simp, by simp⟩
      | succ k ih =>
        intro hk
        obtain ⟨ys, h1, h2, h3⟩ := ih (by omega)
        obtain ⟨y, hy, hfl, hc⟩ := each k (by omega)
        refine ⟨ys ++ [y], by simp [h1], ?_, ?_⟩
        · intro z hz
          rcases List.mem_append.mp hz with hz | hz
          · exact h2 z hz
          · rw [List.mem_singleton.1 hz]; exact ⟨hy, hfl⟩
        · intro j p hj
          by_cases hjk : j < k
          · rw [List.getElem?_append_left (by omega)] at hj
            exact h3 j p hj
          · have hjl : j < (ys ++ [y]).length := (List.getElem?_eq_some_iff.1 hj).1
            have : j = k := by simp at hjl; omega
            subst this
            rw [List.getElem?_append_right (by omega), h1, Nat.sub_self] at hj
            simp at hj
            subst hj
            exact hc
    obtain ⟨ys, h1, h2, h3⟩ := build len (Nat.le_refl _)
    refine ⟨ys, ⟨by rw [h1]; exact hL, fun y hy => (h2 y hy).1⟩, rfl, ⟨?_, rfl⟩, trivial⟩
    by_cases hw : ys = []
    · subst hw; simp at h1; subst h1; exact .sl0 _ _
    · have hpos : 0 < sz := hz
      obtain ⟨y0, yt, hy0⟩ : ∃ y0 yt, ys = y0 :: yt := by cases ys with
        | nil => exact (hw rfl).elim
        | cons y t => exact ⟨y, t, rfl⟩
      have hf0 := (h2 y0 (by rw [hy0]; simp)).2
      obtain ⟨d0, hd0⟩ : ∃ d0, (f y0)[0]? = some d0 := ⟨_, List.getElem?_eq_getElem (by omega)⟩
      obtain ⟨u0, hu0, _⟩ := h3 0 y0 (by rw [hy0]; rfl) 0 d0 hd0
      obtain ⟨hbs, hsp⟩ : a.block < w.heap.size ∧ a.spot = none := by
        unfold World.cell? at hu0
        split at hu0
        · rename_i c _ _ hc
          split at hu0
          · cases hu0
          · rename_i hs
            refine ⟨by simpa [Addr.add] using (Array.getElem?_eq_some_iff.1 hc).1, ?_⟩
            have : a.spot.isSome = false := Bool.eq_false_iff.2 (by simpa [Addr.add] using hs)
            simpa using this
        · cases hu0
      obtain ⟨b, o, sp⟩ := a
      simp only at hsp hbs
      subst hsp
      have hlen : (ys.map g).length = len := by rw [List.length_map, h1]
      have hR : Reads w (Old w) sz (ys.map g) b o := by
        refine ⟨fun i x hx => ?_, fun i x j y hx hy => ?_⟩
        · rw [List.getElem?_map, Option.map_eq_some_iff] at hx
          obtain ⟨p, hp, rfl⟩ := hx
          have hf := (h2 p (List.mem_of_getElem? hp)).2
          rw [hg p hf, hf]
        · rw [List.getElem?_map, Option.map_eq_some_iff] at hx
          obtain ⟨p, hp, rfl⟩ := hx
          have hf := (h2 p (List.mem_of_getElem? hp)).2
          rw [hg p hf] at hy
          obtain ⟨u, g1, g2, g3⟩ := h3 i p hp j y hy
          have ea : (⟨b, o, none⟩ : Addr).add (i * sz + j) = ⟨b, o + i * sz + j, none⟩ := by simp [Addr.add, Nat.add_assoc]
          exact ⟨u, ea ▸ g1, g2, g3⟩
      have := drel_of_reads (Pr' := Old w) (cap := cap) (show Old w b from hbs) (by rw [hlen]; exact hl) hR
      rwa [hlen] at this

/-- The fields from one on, in line. -/
structure OpF (P : Program) {α : Type} (fs : List Field) (off sz : Nat) (f : α → List D) (ok : α → Prop) : Prop where
  out : ∀ {H : Type} {enc : TypeId × Value → H} {w : World} {base : Nat} {held : Bool} {n : Nat} {cs : List Value}, cs.length = off + sz →
    (∀ (j : Nat) (f : Field), fs[j]? = some f → ∃ y, DataW.trod enc P w base (fun _ => true) held n f.type ((cs.drop f.offset).take (P.cellsOf f.type)) = some y) → ∃ a, ok a ∧ (f a).length = sz ∧ Cs w (f a) (cs.drop off)

theorem opF_one {P : Program} {α : Type} {fd : Field} {off sz : Nat} {f : α → List D} {ok : α → Prop} (ho : fd.offset = off) (hc : P.cellsOf fd.type = sz) (h : OpA P fd.type sz f ok) : OpF P [fd] off sz f ok := by
  constructor
  intro H enc w base held n cs hl hf
  obtain ⟨y, hy⟩ := hf 0 fd rfl
  obtain ⟨a, ha, hfl, hC⟩ := h.out hy
  rw [ho, hc, List.take_of_length_le (by rw [List.length_drop]; omega)] at hC
  exact ⟨a, ha, hfl, hC⟩

theorem opF_cons {P : Program} {α β : Type} {fd : Field} {fs : List Field} {off s1 s2 : Nat} {f : α → List D} {g : β → List D} {ok : α → Prop} {ok' : β → Prop} (ho : fd.offset = off) (hc : P.cellsOf fd.type = s1) (h : OpA P fd.type s1 f ok) (hr : OpF P fs (off + s1) s2 g ok') :
    OpF P (fd :: fs) off (s1 + s2) (fun x : α × β => f x.1 ++ g x.2) (fun x => ok x.1 ∧ ok' x.2) := by
  constructor
  intro H enc w base held n cs hl hf
  obtain ⟨y, hy⟩ := hf 0 fd rfl
  obtain ⟨a, ha, hfl, hC⟩ := h.out hy
  obtain ⟨b, hb, hgl, hC'⟩ := hr.out (by omega) (fun j g hg => hf (j + 1) g hg)
  rw [ho, hc] at hC
  refine ⟨(a, b), ⟨ha, hb⟩, by rw [List.length_append, hfl, hgl], ?_⟩
  have e : cs.drop off = (cs.drop off).take s1 ++ cs.drop (off + s1) := by rw [← List.drop_drop, List.take_append_drop]
  rw [e]
  exact All2.append hC hC'

theorem opA_struct {P : Program} {α σ : Type} {t : TypeId} {fs : Array Field} {sz : Nat} {f : α → List D} {ok : α → Prop} (ht : P.underlying t = some (.struct fs)) (hc : P.cellsOf t = sz) (h : OpF P fs.toList 0 sz f ok) (mk : α → σ) (g : σ → List D) (hg : ∀ a, g (mk a) = f a) (ok' : σ → Prop) (hok : ∀ a, ok a → ok' (mk a)) :
    OpA P t sz g ok' := by
  constructor
  intro H enc w base held n cs x hx
  obtain ⟨xs, m, rfl, _, hl, hxl, hfs⟩ := DataW.trod_struct ht hx
  obtain ⟨a, ha, hfl, hC⟩ := h.out (cs := cs) (by omega) (fun j g hg => by
    have hg' : fs[j]? = some g := by rw [← Array.getElem?_toList]; exact hg
    have h1 := hfs j g hg'
    have hj : j < xs.length := by rw [hxl]; exact (Array.getElem?_eq_some_iff.1 hg').1
    rw [List.getElem?_eq_getElem hj] at h1
    exact ⟨_, h1⟩)
  rw [List.drop_zero] at hC
  exact ⟨mk a, hok a ha, by rw [hg]; exact hfl, by rw [hg]; exact hC⟩

/-- Two in a row. -/
theorem opA_array2 {P : Program} {α : Type} {t e : TypeId} {f : α → List D} {ok : α → Prop} (ht : P.underlying t = some (.array 2 e)) (hc : P.cellsOf t = 2) (he : P.cellsOf e = 1) (h : OpA P e 1 f ok) : OpA P t 2 (fun p : α × α => f p.1 ++ f p.2) (fun p => ok p.1 ∧ ok p.2) := by
  constructor
  intro H enc w base held n cs x hx
  obtain ⟨xs, m, rfl, _, hl, hxl, hfs⟩ := DataW.trod_array ht hx
  have h0 := hfs 0 (by omega)
  have h1 := hfs 1 (by omega)
  rw [List.getElem?_eq_getElem (by omega)] at h0 h1
  rw [he] at h0 h1
  obtain ⟨a, ha, hal, hA⟩ := h.out h0
  obtain ⟨b, hb, hbl, hB⟩ := h.out h1
  refine ⟨(a, b), ⟨ha, hb⟩, by rw [List.length_append, hal, hbl], ?_⟩
  match cs, hl.trans hc with
  | [c0, c1], _ =>
    have hA' : Cs w (f a) [c0] := by simpa using hA
    have hB' : Cs w (f b) [c1] := by simpa using hB
    exact All2.append hA' hB'

/-- An argument that is a struct, or a slice. -/
theorem drel_struct {P : Program} {H : Type} {enc : TypeId × Value → H} {w : World} {α : Type} {t : TypeId} {fs : Array Field} {sz : Nat} {f : α → List D} {ok : α → Prop} {base : Nat} {held : Bool} {v : Value} {x : DataW H} {ps : List MemPlace} {r : Reach} {b0 : Nat}
    (ht : P.underlying t = some (.struct fs)) (ho : OpA P t sz f ok) (hv : Value.okWide P w r b0 t v) (h : DataW.Trod enc P w base (fun _ => true) held t v x ps) : ∃ a, ok a ∧ DRel w (Old w) (.agg (f a)) v := by
  obtain ⟨cs, rfl, _⟩ := okWide_struct ht hv
  obtain ⟨n, h⟩ := h
  obtain ⟨a, hok, _, hC⟩ := ho.out h
  have hC' : Cs w (f a) cs.toList := by simpa [Value.cells] using hC
  exact ⟨a, hok, drel_agg2 hC'⟩
theorem drel_slice {P : Program} {H : Type} {enc : TypeId × Value → H} {w : World} {α : Type} {t e : TypeId} {f : List α → D} {ok : List α → Prop} {base : Nat} {held : Bool} {v : Value} {x : DataW H} {ps : List MemPlace} {r : Reach} {b0 : Nat}
    (ht : P.underlying t = some (.slice e)) (ho : OpA P t 1 (fun l => [f l]) ok) (hv : Value.okWide P w r b0 t v) (h : DataW.Trod enc P w base (fun _ => true) held t v x ps) : ∃ a, ok a ∧ DRel w (Old w) (f a) v := by
  obtain ⟨a, len, cap, rfl⟩ := okWide_slice ht hv
  obtain ⟨n, h⟩ := h
  obtain ⟨l, hok, _, hC⟩ := ho.out h
  exact ⟨l, hok, hC.1.1⟩
end Go.Proofs.Ytbbefbgomdmldaa.Ab
/- The row of OrderBefore: the circuit of a valid raw circuit is valid, and each gate has the parts of its own, for any raw circuit. Out of the walk on symbols and the plain law. -/
namespace Go.Proofs.Ytbbefbgomdmldaa.orderBefore
open Go.ChangeShapes Go.WideShapes Go.ChangeAt Go.RowKit Go.Proofs.Ytbbefbgomdmldaa.Ab Go.Proofs.Ytbbefbgomdmldaa.Sy
set_option linter.unusedVariables false
theorem own : ownKnob Try.prog.godebug = none := by kernel_rfl
theorem laidOut : laidOutB Try.prog = true := by kernel_rfl
abbrev okI (n : Int) : Prop := (Lit.int .i64 n).wf = true
abbrev okIs (l : List Int) : Prop := l.length ≤ maxLen ∧ ∀ x ∈ l, okI x
abbrev okD (d : Df) : Prop := okI d.lit ∧ okI d.a ∧ okI d.b
abbrev okDs (l : List Df) : Prop := l.length ≤ maxLen ∧ ∀ x ∈ l, okD x
abbrev okR (r : Rw) : Prop := okI r.most ∧ okIs r.ins ∧ okDs r.lats ∧ okDs r.ands ∧ okIs r.bads ∧ okIs r.cons
theorem opI : OpA Try.prog 3 1 (fun n : Int => [I n]) okI := opA_int Try.underlying3
theorem opIs : OpA Try.prog 22 1 (fun l : List Int => [L l]) okIs := opA_slice Try.underlying22 (by kernel_rfl) (by decide) opI I (fun _ _ => rfl)
theorem opD : OpA Try.prog 45 3 (fun d : Df => [I d.lit, I d.a, I d.b]) okD := by
  refine opA_struct (f := (fun x : Int × Int × Int => [I x.1] ++ ([I x.2.1] ++ ([I x.2.2])))) (ok := (fun x : Int × Int × Int => okI x.1 ∧ okI x.2.1 ∧ okI x.2.2)) Try.underlying45 (by kernel_rfl) ?_ (fun x => (⟨x.1, x.2.1, x.2.2⟩ : Df)) _ (fun _ => rfl) okD (fun _ h => h)
  show OpF _ [_, _, _] 0 _ _ _
  apply opF_cons (s1 := 1) (s2 := 2) (f := (fun x : Int => [I x])) (ok := (fun x : Int => okI x)) (g := (fun x : Int × Int => [I x.1] ++ ([I x.2]))) (ok' := (fun x : Int × Int => okI x.1 ∧ okI x.2))
  · rfl
  · kernel_rfl
  · exact opI
  apply opF_cons (s1 := 1) (s2 := 1) (f := (fun x : Int => [I x])) (ok := (fun x : Int => okI x)) (g := (fun x : Int => [I x])) (ok' := (fun x : Int => okI x))
  · rfl
  · kernel_rfl
  · exact opI
  apply opF_one (f := (fun x : Int => [I x])) (ok := (fun x : Int => okI x))
  · rfl
  · kernel_rfl
  · exact opI
theorem opDs : OpA Try.prog 23 1 (fun l : List Df => [.sl (l.map Df.d)]) okDs := opA_slice Try.underlying23 (by kernel_rfl) (by decide) opD Df.d (fun _ _ => rfl)
theorem opR : OpA Try.prog 25 6 (fun r : Rw => [I r.most, L r.ins, .sl (r.lats.map Df.d), .sl (r.ands.map Df.d), L r.bads, L r.cons]) okR := by
  refine opA_struct (f := (fun x : Int × (List Int) × (List Df) × (List Df) × (List Int) × (List Int) => [I x.1] ++ ([L x.2.1] ++ ([D.sl (x.2.2.1.map Df.d)] ++ ([D.sl (x.2.2.2.1.map Df.d)] ++ ([L x.2.2.2.2.1] ++ ([L x.2.2.2.2.2]))))))) (ok := (fun x : Int × (List Int) × (List Df) × (List Df) × (List Int) × (List Int) => okI x.1 ∧ okIs x.2.1 ∧ okDs x.2.2.1 ∧ okDs x.2.2.2.1 ∧ okIs x.2.2.2.2.1 ∧ okIs x.2.2.2.2.2)) Try.underlying25 (by kernel_rfl) ?_ (fun x => (⟨x.1, x.2.1, x.2.2.1, x.2.2.2.1, x.2.2.2.2.1, x.2.2.2.2.2⟩ : Rw)) _ (fun _ => rfl) okR (fun _ h => h)
  show OpF _ [_, _, _, _, _, _] 0 _ _ _
  apply opF_cons (s1 := 1) (s2 := 5) (f := (fun x : Int => [I x])) (ok := (fun x : Int => okI x)) (g := (fun x : (List Int) × (List Df) × (List Df) × (List Int) × (List Int) => [L x.1] ++ ([D.sl (x.2.1.map Df.d)] ++ ([D.sl (x.2.2.1.map Df.d)] ++ ([L x.2.2.2.1] ++ ([L x.2.2.2.2])))))) (ok' := (fun x : (List Int) × (List Df) × (List Df) × (List Int) × (List Int) => okIs x.1 ∧ okDs x.2.1 ∧ okDs x.2.2.1 ∧ okIs x.2.2.2.1 ∧ okIs x.2.2.2.2))
  · rfl
  · kernel_rfl
  · exact opI
  apply opF_cons (s1 := 1) (s2 := 4) (f := (fun x : (List Int) => [L x])) (ok := (fun x : (List Int) => okIs x)) (g := (fun x : (List Df) × (List Df) × (List Int) × (List Int) => [D.sl (x.1.map Df.d)] ++ ([D.sl (x.2.1.map Df.d)] ++ ([L x.2.2.1] ++ ([L x.2.2.2]))))) (ok' := (fun x : (List Df) × (List Df) × (List Int) × (List Int) => okDs x.1 ∧ okDs x.2.1 ∧ okIs x.2.2.1 ∧ okIs x.2.2.2))
  · rfl
  · kernel_rfl
  · exact opIs
  apply opF_cons (s1 := 1) (s2 := 3) (f := (fun x : (List Df) => [D.sl (x.map Df.d)])) (ok := (fun x : (List Df) => okDs x)) (g := (fun x : (List Df) × (List Int) × (List Int) => [D.sl (x.1.map Df.d)] ++ ([L x.2.1] ++ ([L x.2.2])))) (ok' := (fun x : (List Df) × (List Int) × (List Int) => okDs x.1 ∧ okIs x.2.1 ∧ okIs x.2.2))
  · rfl
  · kernel_rfl
  · exact opDs
  apply opF_cons (s1 := 1) (s2 := 2) (f := (fun x : (List Df) => [D.sl (x.map Df.d)])) (ok := (fun x : (List Df) => okDs x)) (g := (fun x : (List Int) × (List Int) => [L x.1] ++ ([L x.2]))) (ok' := (fun x : (List Int) × (List Int) => okIs x.1 ∧ okIs x.2))
  · rfl
  · kernel_rfl
  · exact opDs
  apply opF_cons (s1 := 1) (s2 := 1) (f := (fun x : (List Int) => [L x])) (ok := (fun x : (List Int) => okIs x)) (g := (fun x : (List Int) => [L x])) (ok' := (fun x : (List Int) => okIs x))
  · rfl
  · kernel_rfl
  · exact opIs
  apply opF_one (f := (fun x : (List Int) => [L x])) (ok := (fun x : (List Int) => okIs x))
  · rfl
  · kernel_rfl
  · exact opIs
theorem okI_le {n : Int} (h : okI n) : n ≤ 9223372036854775807 := by
  simp [okI, Lit.wf, IntKind.min, IntKind.max, IntKind.signed, IntKind.bits] at h
  omega
theorem defs_le {r : Rw} (h : okR r) : ∀ x ∈ Def.defs r, x ≤ 9223372036854775807 := by
  intro x hx
  unfold Def.defs at hx
  rcases List.mem_append.1 hx with hx | hx
  · exact okI_le (h.2.1.2 x hx)
  · obtain ⟨d, hd, rfl⟩ := List.mem_map.1 hx
    rcases List.mem_append.1 hd with hd | hd
    · exact okI_le (h.2.2.1.2 d hd).1
    · exact okI_le (h.2.2.2.1.2 d hd).1
theorem uses_le {r : Rw} (h : okR r) : ∀ x ∈ Def.uses r, x ≤ 9223372036854775807 := by
  intro x hx
  unfold Def.uses at hx
  rcases List.mem_append.1 hx with hx | hx
  · rcases List.mem_append.1 hx with hx | hx
    · rcases List.mem_append.1 hx with hx | hx
      · exact okI_le (h.2.2.2.2.1.2 x hx)
      · exact okI_le (h.2.2.2.2.2.2 x hx)
    · obtain ⟨d, hd, rfl⟩ := List.mem_map.1 hx
      exact okI_le (h.2.2.1.2 d hd).2.1
  · obtain ⟨d, hd, hx⟩ := List.mem_flatMap.1 hx
    have := h.2.2.2.1.2 d hd
    simp only [List.mem_cons, List.not_mem_nil, or_false] at hx
    rcases hx with rfl | rfl
    · exact okI_le this.2.1
    · exact okI_le this.2.2
theorem calls (W : World) (r : Rw) (v0 : Value) (hr : okR r) (h0 : DRel W (Old W) r.d v0) :
    Calls Try.prog 4 #[v0] W (fun e W' => e = .returned (.bool true) ∧ Below W.heap.size W W') := by
  have h := Sy.Bef.orderBefore r (defs_le hr) (uses_le hr) W (Old W) [] [v0] (srel_nil (fun _ h => h) (fun _ _ h => by cases h)) ⟨h0, trivial⟩
  refine h.mono fun e W' ⟨x, μ', Pr', he, _, hx, hev, _⟩ => ?_
  obtain rfl : x = .bool true := Ab.drel_bool (show Ab.DRel W' Pr' (.bool true) x from hx)
  exact ⟨he, hev.os, hev.tape, hev.output, hev.size, fun k hk => hev.block k hk (by simp [Ab.owns])⟩
set_option maxRecDepth 100000 in
theorem lifted (os : Os) (started : os.Started) (H : Type) (enc : TypeId × Value → H) :
    ReturnsInHanded {} Try.checked os 4 .any (Rows.orderBeforeSpec.pre6 enc Try.prog Try.f4 Rows.orderBeforeRow.domain false) (Rows.orderBeforeSpec.post enc Try.prog Try.f4 false true false false) := by
  refine returnsInHanded_of_change_sized (C := Try.checked) own started (by kernel_rfl) Try.func4
    (ChangeSpec.witness6 (enc := enc) (C := Try.checked) false ⟨#[], #[.agg #[.int .i64 0, .slice none 0 0, .slice none 0 0, .slice none 0 0, .slice none 0 0, .slice none 0 0]], []⟩ 8 (by kernel_rfl) (by kernel_rfl) (by kernel_rfl) (by kernel_rfl)) ?_
  intro W base args ds gs before hval0 hW hcnd hsz0 _
  have hval : ∀ (j : Nat) t v, Try.f4.params[j]? = some t → args[j]? = some v → Value.okWide Try.prog W .any base t v := hval0
  have hW' := hW
  obtain ⟨p, q, hA0, hV, rfl, hfz, hnd⟩ := hW
  have hA : DataW.TrodAll enc Try.prog W 0 (fun _ => true) true Try.f4.params.toList args.toList ds p := hA0
  rw [Try.params4] at hA hval
  obtain ⟨v0, vs0, d0, ds0, p0, q0, hargs, rfl, rfl, h0, r0⟩ := trodAll_cons hA
  obtain ⟨rfl, rfl, rfl⟩ := trodAll_nil r0
  obtain rfl : args = #[v0] := by cases args; simp_all
  obtain ⟨rfl, rfl⟩ := trodVars_none hV
  have k0 := h0
  have lt0 : ∀ x ∈ p0, x.block < W.heap.size := by obtain ⟨m, hm⟩ := k0; exact DataW.trod_lt m _ _ _ hm
  obtain ⟨r, ok0, g0⟩ := drel_struct Try.underlying25 opR (hval 0 25 v0 rfl rfl) h0
  clear hA0 hval0 hsz0
  refine (calls W r v0 ok0 g0).mono fun e W' ⟨he, bel⟩ => ?_
  subst he
  exact ⟨_, rfl, _, _, _, [], _, [], hW', trodAll_mk1 (shut_bool Try.underlying4 _), (trodAll_cons_mk (Below.trod laidOut (by kernel_rfl) (of_decide_eq_true (by kernel_rfl)) k0 bel lt0) trodAll_mk0), rfl, bel.frame _, fun h => by cases h⟩
theorem over : Rows.orderBeforeRow.holds Try.pinned (OpenSpec.ofChange Rows.orderBeforeSpec) :=
  OpenClaim.holds_of_wide 4 Try.f4 rfl rfl rfl rfl rfl rfl rfl ⟨rfl, rfl, rfl, rfl, rfl⟩ rfl rfl rfl rfl rfl (by kernel_rfl) Try.func4 (by kernel_rfl)
    (of_decide_eq_true (by kernel_rfl)) (by unfold Func.isWrapper; first | (rw [if_pos (by decide +kernel)]; kernel_rfl) | (rw [if_neg (by decide +kernel)]; exact ⟨rfl, rfl⟩))
    (fun os started H enc _ => lifted os started H enc)
theorem proved : Rows.OrderBeforeSaid := over
end Go.Proofs.Ytbbefbgomdmldaa.orderBefore
namespace Go.Proofs.Ytbbefbgomdmldaa
/-- The row, under a short name, for the claim. -/
theorem orderBefore_holds : Rows.OrderBeforeSaid := orderBefore.proved
end Go.Proofs.Ytbbefbgomdmldaa
