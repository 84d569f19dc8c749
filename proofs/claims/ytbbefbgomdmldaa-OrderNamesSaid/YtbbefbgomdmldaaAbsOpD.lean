/- Loads. -/
import Derived.Test.YtbbefbgomdmldaaAbsOpC
namespace Go.Proofs.Ytbbefbgomdmldaa.Ab
open Go
set_option linter.unusedVariables false
set_option linter.unusedSimpArgs false

variable {P : Program} {O : Orc} {s : St} {sc sc' : Script} {w : World} {Pr : Nat → Prop} {vw : Nat → Option VW} {bl : List B} {μ : List CB}

theorem VRel1.toV {v : V} {x : Value} (h : VRel1 P w Pr vw v x) : VRel P w Pr vw v x := by
  cases v with
  | tup vs => exact (show VRel0 P w Pr vw (.tup vs) x from h).elim
  | _ => exact h
theorem VRel0.to1 {v : V} {x : Value} (h : VRel0 P w Pr vw v x) : VRel1 P w Pr vw v x := by
  cases v with
  | func f c => exact (show False from h).elim
  | iface t y => exact (show False from h).elim
  | agg cs => exact (show False from h).elim
  | _ => exact h
theorem VRel0.toV {v : V} {x : Value} (h : VRel0 P w Pr vw v x) : VRel P w Pr vw v x := h.to1.toV
theorem VRel1.simple {v : V} {x : Value} (h : VRel1 P w Pr vw v x) (hs : simple0 v = true) : VRel0 P w Pr vw v x := by
  cases v with
  | func f c => simp [simple0] at hs
  | iface t y => simp [simple0] at hs
  | agg cs => simp [simple0] at hs
  | _ => exact h
theorem VRel.d {x : D} {v : Value} (h : DRel w Pr x v) : VRel P w Pr vw (.d x) v := h

theorem allD_ok : ∀ {cs : List V} {ds : List D}, allD cs = some ds → cs = ds.map .d
  | [], ds, h => by simp [allD] at h; subst h; rfl
  | c :: r, ds, h => by
    cases c with
    | d x =>
      simp only [allD, Option.map_eq_some_iff] at h
      obtain ⟨es, he, rfl⟩ := h
      rw [allD_ok he]; rfl
    | _ => simp [allD] at h

theorem agg_d {ds : List D} {us : List Value} (h : All2 (fun v u => VRel0 P w Pr vw v u ∧ u.oneCell' = true) (ds.map .d) us) : DRel w Pr (.agg ds) (.agg us.toArray) := by
  refine .agg ds us (by simpa using h.length) (fun u hu => ?_) (fun j d v hd hv => ?_)
  · obtain ⟨i, hi⟩ := List.getElem?_of_mem hu
    have hlt : i < ds.length := by have := h.length; simp at this; rw [this]; exact (List.getElem?_eq_some_iff.1 hi).1
    obtain ⟨y, hy, h1⟩ := h.get i (.d ds[i]) (by simp [List.getElem?_eq_getElem hlt])
    rw [hi] at hy; cases hy
    exact h1.2
  · obtain ⟨y, hy, h1⟩ := h.get j (.d d) (by simp [hd])
    rw [hv] at hy; cases hy
    exact h1.1

theorem mkAgg_ok {vs : List V} {us : List Value} (h : All2 (fun v u => VRel0 P w Pr vw v u ∧ u.oneCell' = true) vs us) : VRel P w Pr vw (mkAgg vs) (.agg us.toArray) := by
  unfold mkAgg
  split
  · rename_i ds hd
    obtain rfl := allD_ok hd
    exact agg_d h
  · exact ⟨us, rfl, h⟩

theorem cell_of_cells {w : World} {b off : Nat} {c : Array Value} {e : TypeId} {fr : Nat × Nat} (h : w.heap[b]? = some (.cells c e fr)) : w.cell? ⟨b, off, none⟩ = c[off]? := by
  simp [World.cell?, h]

theorem load_one {t : TypeId} {b o : Nat} {u : Value} (hk : kindT P t = some false) (h : w.cell? ⟨b, o, none⟩ = some u) : (Instr.loadAt t (.pointer (some ⟨b, o, none⟩))).run P w = .ok u w := by
  simp [Instr.loadAt, Instr.sureAddr, loadVar, run_isAgg_false hk, h]

theorem All2.drop {α β : Type} {R : α → β → Prop} : ∀ {xs : List α} {ys : List β} (n : Nat), All2 R xs ys → All2 R (xs.drop n) (ys.drop n)
  | _, _, 0, h => h
  | [], [], n + 1, h => trivial
  | _ :: _, _ :: _, n + 1, h => All2.drop n h.2
  | [], _ :: _, _, h => h.elim
  | _ :: _, [], _, h => h.elim
theorem All2.take {α β : Type} {R : α → β → Prop} : ∀ {xs : List α} {ys : List β} (n : Nat), All2 R xs ys → All2 R (xs.take n) (ys.take n)
  | _, _, 0, h => trivial
  | [], [], n + 1, h => trivial
  | _ :: _, _ :: _, n + 1, h => ⟨h.1, All2.take n h.2⟩
  | [], _ :: _, _, h => h.elim
  | _ :: _, [], _, h => h.elim
theorem All2.append {α β : Type} {R : α → β → Prop} : ∀ {xs : List α} {ys : List β} {xs' : List α} {ys' : List β}, All2 R xs ys → All2 R xs' ys' → All2 R (xs ++ xs') (ys ++ ys')
  | [], [], _, _, _, h => h
  | _ :: _, _ :: _, _, _, h, h' => ⟨h.1, All2.append h.2 h'⟩
  | [], _ :: _, _, _, h, _ => h.elim
  | _ :: _, [], _, _, h, _ => h.elim

/-- A part of an element that lies at an address. -/
theorem cellOf_ok {t : TypeId} {sub : Nat} {x : D} {r : V} {b o : Nat} (hc : ∀ (j : Nat) (y : D), x.cells[j]? = some y → ∃ u, w.cell? ⟨b, o + j, none⟩ = some u ∧ u.oneCell' = true ∧ DRel w Pr y u)
    (h : Hold O s (cellOf P t sub x) sc r sc') : ∃ v, (Instr.loadAt t (.pointer (some ⟨b, o + sub, none⟩))).run P w = .ok v w ∧ VRel P w Pr vw r v := by
  unfold cellOf at h
  split at h
  · rename_i hk
    split at h
    · rename_i ds
      split at h
      · rename_i hz
        obtain ⟨rfl, hz⟩ := hz
        obtain ⟨rfl, _⟩ := hold_ret.1 h
        obtain ⟨d, hu, hr⟩ := kind_true hk
        have hex : ∀ n, n ≤ ds.length → ∃ us : List Value, us.length = n ∧ ∀ j, j < n → ∃ y u, ds[j]? = some y ∧ us[j]? = some u ∧ w.cell? ⟨b, o + j, none⟩ = some u ∧ u.oneCell' = true ∧ DRel w Pr y u := by
          intro n
          induction n with
          | zero => intro _; exact ⟨[], rfl, fun j hj => by omega⟩
          | succ n ih =>
            intro hn
            obtain ⟨us, hl, hus⟩ := ih (by omega)
            have hy : ds[n]? = some ds[n] := List.getElem?_eq_getElem (by omega)
            obtain ⟨u, h1, h2, h3⟩ := hc n ds[n] hy
            refine ⟨us ++ [u], by simp [hl], fun j hj => ?_⟩
            by_cases hjn : j < n
            · obtain ⟨y, u', g1, g2, g3⟩ := hus j hjn
              exact ⟨y, u', g1, by rw [List.getElem?_append_left (by omega)]; exact g2, g3⟩
            · obtain rfl : j = n := by omega
              exact ⟨ds[j], u, hy, by rw [List.getElem?_append_right (by omega), hl]; simp, h1, h2, h3⟩
        obtain ⟨us, hl, hus⟩ := hex ds.length (Nat.le_refl _)
        have hall : All2 (fun v u => VRel0 P w Pr vw v u ∧ u.oneCell' = true) (ds.map V.d) us := All2.of (by simp [hl]) (fun i v u hv hu => by
          rw [List.getElem?_map, Option.map_eq_some_iff] at hv
          obtain ⟨y, hy, rfl⟩ := hv
          obtain ⟨y', u', g1, g2, g3, g4, g5⟩ := hus i (List.getElem?_eq_some_iff.1 hy).1
          rw [hy] at g1; cases g1
          rw [hu] at g2; cases g2
          exact ⟨g5, g4⟩)
        refine ⟨.agg us.toArray, run_loadAt_mid w b (o + 0) t us d (fun j v hv => ?_) hu hr (by rw [info_szOf hz, hl]), agg_d hall⟩
        obtain ⟨y', u', g1, g2, g3, g4, g5⟩ := hus j (by have := (List.getElem?_eq_some_iff.1 hv).1; omega)
        rw [hv] at g2; cases g2
        exact g3
      · exact (hold_fail.1 h).elim
    · exact (hold_fail.1 h).elim
  · rename_i hk
    split at h
    · exact (hold_fail.1 h).elim
    · rename_i y hne hy
      obtain ⟨rfl, _⟩ := hold_ret.1 h
      obtain ⟨u, g1, g2, g3⟩ := hc sub y hy
      exact ⟨u, load_one hk g1, g3⟩
    · exact (hold_fail.1 h).elim
  · exact (hold_fail.1 h).elim

theorem loadV_ok (hS : SRel P s.blks w μ Pr) {t : TypeId} {x r : V} {a : Value} (hx : VRel P w Pr (view s.blks μ) x a) (h : Hold O s (loadV P t x) sc r sc') :
    ∃ v, (Instr.loadAt t a).run P w = .ok v w ∧ VRel P w Pr (view s.blks μ) r v := by
  unfold loadV at h
  split at h
  · -- a box
    rename_i id off
    rw [hold_blk] at h
    split at h
    · rename_i cs hb
      obtain ⟨b, k1, rfl⟩ := hx
      obtain ⟨b', c, e, g1, g2, g3, g4⟩ := hS.box (blk_some hb (by simp))
      rw [g2] at k1; cases k1
      have hl := g4.length
      split at h
      · rename_i hk
        split at h
        · rename_i sz hz
          split at h
          · rename_i hle
            obtain ⟨hle, hsim⟩ := hle
            obtain ⟨rfl, _⟩ := hold_ret.1 h
            obtain ⟨d, hu, hr⟩ := kind_true hk
            have hall := (g4.drop off).take sz
            refine ⟨.agg ((c.toList.drop off).take sz).toArray, run_loadAt_mid w b off t _ d (fun j v hv => ?_) hu hr ?_, mkAgg_ok ?_⟩
            · rw [cell_of_cells g3]
              rw [List.getElem?_take] at hv
              split at hv
              · rw [List.getElem?_drop, Array.getElem?_toList] at hv; exact hv
              · cases hv
            · rw [info_szOf hz]
              simp at hl ⊢; omega
            · exact All2.monoMem (fun v hv u hu => ⟨hu.1.simple (List.all_eq_true.1 hsim v hv), hu.2⟩) hall
          · exact (hold_fail.1 h).elim
        · exact (hold_fail.1 h).elim
      · rename_i hk
        split at h
        · rename_i v hv
          obtain ⟨rfl, _⟩ := hold_ret.1 h
          obtain ⟨u, hu, h1, h2⟩ := g4.get off _ hv
          exact ⟨u, load_one hk (by rw [cell_of_cells g3, ← Array.getElem?_toList]; exact hu), h1.toV⟩
        · exact (hold_fail.1 h).elim
      · exact (hold_fail.1 h).elim
    · exact (hold_fail.1 h).elim
  · -- an element of a list
    rename_i id i sub
    rw [hold_blk] at h
    split at h
    · rename_i e xs hb
      have hd : ∃ d sc1, xs[i]? = some d ∧ Hold O s (cellOf P t sub d) sc1 r sc' := by
        rw [hold_pop] at h
        rcases h with ⟨_, h⟩ | ⟨it, u, _, h⟩
        · simp only at h
          split at h
          · rename_i d hd; exact ⟨d, _, hd, h⟩
          · exact (hold_fail.1 h).elim
        · split at h
          · obtain ⟨h1, h2⟩ := hold_req.1 h; exact ⟨_, _, h1, h2⟩
          · exact (hold_fail.1 h).elim
          · rename_i he; cases he
      obtain ⟨d, sc1, hd, h⟩ := hd
      obtain ⟨hh, wd, cs, g1, g2, g3, g4, g5⟩ := hS.lst (blk_some hb (by simp))
      rcases hx with ⟨e', n, b, cap, wd', k1, k2, k3, rfl⟩ | ⟨s', lens, b, cap, inner, k1, k2, k3, rfl⟩
      · rw [g2] at k1; cases k1
        rw [g3] at k3; cases k3
        have hr := (reads_of_row g4 g5).2
        exact cellOf_ok (fun j y hy => by have := hr.2 i d j y hd hy; rwa [Nat.zero_add] at this) h
      · rw [g2] at k1; cases k1
    · rename_i s' xss hb
      split at h
      · rename_i hk
        have hd : ∃ ys, xss[i]? = some (some ys) ∧ r = .inn id i := by
          rw [hold_pop] at h
          rcases h with ⟨_, h⟩ | ⟨it, u, _, h⟩
          · simp only at h
            split at h
            · rename_i ys hys; exact ⟨ys, hys, (hold_ret.1 h).1⟩
            · exact (hold_fail.1 h).elim
          · split at h
            · obtain ⟨h1, h2⟩ := hold_req.1 h; exact ⟨_, h1, (hold_ret.1 h2).1⟩
            · exact (hold_fail.1 h).elim
            · rename_i he; cases he
        obtain ⟨ys, hys, rfl⟩ := hd
        obtain ⟨c, g1, g2, g3⟩ := hS.at (blk_some hb (by simp))
        rcases hx with ⟨e', n, b, cap, wd', k1, k2, k3, rfl⟩ | ⟨s'', lens, b, cap, inner, k1, k2, k3, rfl⟩
        · rw [g3] at k1; cases c <;> simp [vwOf] at k1
        · have k1' := k1
          rw [g3] at k1
          cases c with
          | lst2 b0 cap0 in0 =>
            simp [vwOf] at k1
            obtain ⟨rfl, rfl, rfl, rfl, rfl⟩ := k1
            obtain ⟨cur, e, wd, r1, r2, r3, r4, r5, r6, r7, r8, r9, r10⟩ := g2
            have hil : i < xss.length := (List.getElem?_eq_some_iff.1 hys).1
            have hi2 : i < in0.length := by omega
            obtain ⟨q1, cs, q2, q3⟩ := r10 i ys _ hys (List.getElem?_eq_getElem hi2)
            exact ⟨_, load_one hk (by rw [cell_of_cells r1]; exact q1), _, _, _, _, _, ys.length, in0[i], k1', by simp [hys], List.getElem?_eq_getElem hi2, rfl⟩
          | _ => simp [vwOf] at k1
      · exact (hold_fail.1 h).elim
    · exact (hold_fail.1 h).elim
  · -- an element of an inner list
    rename_i id i k
    rw [hold_blk] at h
    split at h
    · rename_i s' xss hb
      have hd : ∃ ys d sc1, xss[i]? = some (some ys) ∧ ys[k]? = some d ∧ Hold O s (cellOf P t 0 d) sc1 r sc' := by
        rw [hold_pop] at h
        rcases h with ⟨_, h⟩ | ⟨it, u, _, h⟩
        · simp only at h
          split at h
          · rename_i ys hys
            split at h
            · rename_i d hd; exact ⟨ys, d, _, hys, hd, h⟩
            · exact (hold_fail.1 h).elim
          · exact (hold_fail.1 h).elim
        · split at h
          · obtain ⟨⟨ys, h1, h2⟩, h3⟩ := hold_req.1 h; exact ⟨ys, _, _, h1, h2, h3⟩
          · exact (hold_fail.1 h).elim
          · rename_i he; cases he
      obtain ⟨ys, d, sc1, hys, hd, h⟩ := hd
      obtain ⟨c, g1, g2, g3⟩ := hS.at (blk_some hb (by simp))
      obtain ⟨s2, lens, b, cap, inner, n, e, b', cap', wd, k1, k2, k3, k4, k5, k6, rfl⟩ := hx
      rw [g3] at k1
      cases c <;> simp [vwOf] at k1
      obtain ⟨rfl, rfl, rfl, rfl, rfl⟩ := k1
      obtain ⟨cur, e', wd', r1, r2, r3, r4, r5, r6, r7, r8, r9, r10⟩ := g2
      rw [k5] at r7; cases r7
      rw [k6] at r8; cases r8
      obtain ⟨q1, cs, q2, q3⟩ := r10 i ys _ hys k3
      have hr := (reads_of_row q2 q3).2
      have := cellOf_ok (P := P) (vw := view s.blks μ) (b := b') (o := k * wd) (sub := 0) (fun j y hy => by have := hr.2 k d j y hd hy; rwa [Nat.zero_add] at this) h
      simpa using this
    · exact (hold_fail.1 h).elim
  · -- plain data
    rename_i x sub
    obtain ⟨b, o, hp, rfl, hc⟩ := hx
    exact cellOf_ok hc h
  · exact (hold_fail.1 h).elim

end Go.Proofs.Ytbbefbgomdmldaa.Ab
