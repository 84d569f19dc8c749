/- Operations that read: lengths, elements, fields, loads. -/
import Derived.Test.YtbbefbgomdmldaaAbsOpB
namespace Go.Proofs.Ytbbefbgomdmldaa.Ab
open Go
set_option linter.unusedVariables false
set_option linter.unusedSimpArgs false

section
variable {P : Program} {O : Orc} {s : St} {sc sc' : Script} {w : World} {Pr : Nat → Prop} {vw : Nat → Option VW} {bl : List B} {μ : List CB}

theorem run_szOf {t : TypeId} {n : Nat} (h : szOf P t = some n) : (sizeOf t).run P w = .ok n w := by
  simp only [szOf, Option.map_eq_some_iff] at h
  obtain ⟨i, hi, rfl⟩ := h
  simp [sizeOf, typeInfo, hi]
theorem info_szOf {t : TypeId} {n : Nat} (h : szOf P t = some n) : (P.info? t).map (·.size) = some n := h

theorem kind_true {t : TypeId} (h : kindT P t = some true) : ∃ d, P.underlying t = some d ∧ d.isRow = true := by
  simp only [kindT, Option.map_eq_some_iff] at h
  obtain ⟨d, hd, h⟩ := h
  exact ⟨d, hd, by cases d <;> simp_all [aggD, TypeDesc.isRow]⟩
theorem run_isAgg_false {t : TypeId} (h : kindT P t = some false) : (isAgg t).run P w = .ok false w := by
  simp only [kindT, Option.map_eq_some_iff] at h
  obtain ⟨d, hd, h⟩ := h
  unfold isAgg
  rw [Sem.run_bind, run_und hd]
  cases d <;> simp_all [aggD]

theorem blk_some {id : Nat} {b : B} (h : s.blk id = b) (hb : b ≠ .dead) : s.blks[id]? = some b := by
  unfold St.blk at h
  cases hx : s.blks[id]? with
  | none => rw [hx] at h; exact (hb h.symm).elim
  | some c => rw [hx] at h; simp at h; rw [h]

theorem SRel.at (h : SRel P bl w μ Pr) {id : Nat} {b : B} (hb : bl[id]? = some b) : ∃ c, μ[id]? = some c ∧ BRel P w Pr (view bl μ) b c ∧ view bl μ id = vwOf b c := by
  have hlt : id < μ.length := by rw [h.mu]; exact (List.getElem?_eq_some_iff.1 hb).1
  exact ⟨μ[id], List.getElem?_eq_getElem hlt, h.blks id b _ hb (List.getElem?_eq_getElem hlt), by simp [view, hb, List.getElem?_eq_getElem hlt]⟩

theorem SRel.lst (h : SRel P bl w μ Pr) {id e : Nat} {xs : List D} (hb : bl[id]? = some (.lst e xs)) :
    ∃ hh wd cs, μ[id]? = some (.lst hh) ∧ view bl μ id = some (.lst e xs.length hh) ∧ szOf P e = some wd ∧ OwnR w e wd hh xs.length cs ∧ Rows' w Pr wd xs cs := by
  obtain ⟨c, h1, h2, h3⟩ := h.at hb
  cases c with
  | lst hh => obtain ⟨wd, cs, g1, g2, g3⟩ := h2; exact ⟨hh, wd, cs, h1, h3, g1, g2, g3⟩
  | _ => exact h2.elim
theorem SRel.box (h : SRel P bl w μ Pr) {id : Nat} {cells : List V} (hb : bl[id]? = some (.box cells)) :
    ∃ b c e, μ[id]? = some (.box b) ∧ view bl μ id = some (.box b) ∧ w.heap[b]? = some (.cells c e (0, 0)) ∧ All2 (fun v u => VRel1 P w Pr (view bl μ) v u ∧ u.oneCell' = true) cells c.toList := by
  obtain ⟨c, h1, h2, h3⟩ := h.at hb
  cases c with
  | box b => obtain ⟨cs, e, g1, g2⟩ := h2; exact ⟨b, cs, e, h1, h3, g1, g2⟩
  | _ => exact h2.elim

/-- Elements in a block from an offset on. -/
def Reads (w : World) (Pr : Nat → Prop) (wd : Nat) (xs : List D) (b o : Nat) : Prop :=
  (∀ (i : Nat) (x : D), xs[i]? = some x → x.cells.length = wd) ∧
  ∀ (i : Nat) (x : D) (j : Nat) (y : D), xs[i]? = some x → x.cells[j]? = some y → ∃ u, w.cell? ⟨b, o + i * wd + j, none⟩ = some u ∧ u.oneCell' = true ∧ DRel w Pr y u

/-- A slice's value and its elements. -/
def SlRel (w : World) (Pr : Nat → Prop) (L : Nat → Prop) (xs : List D) (a : Value) : Prop :=
  ∃ base cap, a = .slice base xs.length cap ∧ xs.length ≤ cap + 0 ∧ (xs = [] ∨ ∃ b o wd, base = some ⟨b, o, none⟩ ∧ L b ∧ Reads w Pr wd xs b o)

theorem slRel_of_drel {xs : List D} {a : Value} (h : DRel w Pr (.sl xs) a) : ∃ base cap, a = .slice base xs.length cap ∧ (xs = [] ∨ (xs.length ≤ cap ∧ ∃ b o wd, base = some ⟨b, o, none⟩ ∧ Pr b ∧ Reads w Pr wd xs b o)) := by
  cases h with
  | sl0 a cap => exact ⟨a, cap, rfl, .inl rfl⟩
  | sl _ b o cap wd f hb hc hw hm h1 hd => exact ⟨_, cap, rfl, .inr ⟨hc, b, o, wd, rfl, hb, hw, fun i x j y hx hy => ⟨f i j, hm i x j y hx hy, h1 i x j y hx hy, hd i x j y hx hy⟩⟩⟩

theorem drel_of_reads {xs : List D} {b o cap wd : Nat} {Pr' : Nat → Prop} (hb : Pr b) (hc : xs.length ≤ cap) (h : Reads w Pr wd xs b o) : DRel w Pr (.sl xs) (.slice (some ⟨b, o, none⟩) xs.length cap) := by
  have hex : ∀ i j, ∃ u, ∀ (x y : D), xs[i]? = some x → x.cells[j]? = some y → w.cell? ⟨b, o + i * wd + j, none⟩ = some u ∧ u.oneCell' = true ∧ DRel w Pr y u := by
    intro i j
    cases hx : xs[i]? with
    | none => exact ⟨undef, by simp⟩
    | some x =>
      cases hy : x.cells[j]? with
      | none => exact ⟨undef, fun x' y hx' hy' => by cases hx'; rw [hy] at hy'; cases hy'⟩
      | some y =>
        obtain ⟨u, hu⟩ := h.2 i x j y hx hy
        exact ⟨u, fun x' y' hx' hy' => by cases hx'; rw [hy] at hy'; cases hy'; exact hu⟩
  exact .sl xs b o cap wd (fun i j => Classical.choose (hex i j)) hb hc h.1
    (fun i x j y hx hy => (Classical.choose_spec (hex i j) x y hx hy).1) (fun i x j y hx hy => (Classical.choose_spec (hex i j) x y hx hy).2.1) (fun i x j y hx hy => (Classical.choose_spec (hex i j) x y hx hy).2.2)

theorem reads_of_row {e wd : Nat} {b cap : Nat} {xs : List D} {cs : List Value} (ho : OwnR w e wd (.row b cap) xs.length cs) (hr : Rows' w Pr wd xs cs) : xs.length ≤ cap ∧ Reads w Pr wd xs b 0 := by
  have hc := World.ownsRow.cells ho (g := b) rfl
  refine ⟨?_, fun i x hx => (hr.2 i x hx).1, fun i x j y hx hy => ?_⟩
  · rcases ho.2 with ⟨hn, _⟩ | ⟨g, c, cur, hv, _, _, h1, _⟩
    · simp at hn
    · simp at hv; omega
  · obtain ⟨u, h1, h2⟩ := (hr.2 i x hx).2 j y hy
    have := hc _ u h1
    rw [Addr.add_mid] at this
    refine ⟨u, ?_, hr.1 u (List.mem_of_getElem? h1), h2⟩
    rw [← this]
    congr 2
    omega

theorem row_nil {e wd : Nat} {a : Option Addr} {xs : List D} {cs : List Value} (ho : OwnR w e wd (.zero a) xs.length cs) : xs = [] := List.eq_nil_of_length_eq_zero ho.1

/-- The value of a list. -/
theorem hdr_slice {e wd : Nat} {xs : List D} {cs : List Value} {hh : H} (ho : OwnR w e wd hh xs.length cs) : ∃ base cap, hdr hh xs.length = .slice base xs.length cap := by
  cases hh with
  | zero a => have := row_nil ho; subst this; exact ⟨a, 0, rfl⟩
  | row b cap => exact ⟨_, _, rfl⟩

/-! ### elements -/

/-- What 'items' reads: the value is a slice or a string of these elements. -/
theorem items_ok (hS : SRel P s.blks w μ Pr) {v : V} {a : Value} {xs : List D} (hv : VRel0 P w Pr (view s.blks μ) v a) (h : Hold O s (items v) sc xs sc') :
    (∃ t : ByteArray, a = .string t ∧ xs = t.data.toList.map u8) ∨ ∃ base cap, a = .slice base xs.length cap ∧ (xs = [] ∨ ∃ b o wd, base = some ⟨b, o, none⟩ ∧ Reads w Pr wd xs b o) := by
  have hrow : ∀ {e wd : Nat} {ys : List D} {cs : List Value} {hh : H}, OwnR w e wd hh ys.length cs → Rows' w Pr wd ys cs → ∃ base cap, hdr hh ys.length = .slice base ys.length cap ∧ (ys = [] ∨ ∃ b o wd, base = some ⟨b, o, none⟩ ∧ Reads w Pr wd ys b o) := by
    intro e wd ys cs hh ho hr
    cases hh with
    | zero a => have := row_nil ho; subst this; exact ⟨a, 0, rfl, .inl rfl⟩
    | row b cap => exact ⟨_, _, rfl, .inr ⟨b, 0, wd, rfl, (reads_of_row ho hr).2⟩⟩
  unfold items at h
  split at h
  · obtain ⟨rfl, _⟩ := hold_ret.1 h
    obtain ⟨base, cap, h1, h2⟩ := slRel_of_drel (show DRel w Pr (.sl _) a from hv)
    exact .inr ⟨base, cap, h1, h2.imp_right fun ⟨_, b, o, wd, g1, _, g3⟩ => ⟨b, o, wd, g1, g3⟩⟩
  · obtain ⟨rfl, _⟩ := hold_ret.1 h
    obtain ⟨t, rfl, rfl⟩ := drel_str (show DRel w Pr (.str _) a from hv)
    exact .inl ⟨t, rfl, rfl⟩
  · rename_i b
    obtain ⟨rfl, _⟩ := hold_ret.1 h
    cases b
    · obtain ⟨p, rfl⟩ := hv; exact .inr ⟨p, 0, rfl, .inl rfl⟩
    · obtain rfl := hv; exact .inr ⟨none, 0, rfl, .inl rfl⟩
  · obtain ⟨rfl, _⟩ := hold_ret.1 h
    obtain ⟨p, cap, rfl⟩ := hv; exact .inr ⟨_, cap, rfl, .inl rfl⟩
  · rename_i id
    rw [hold_blk] at h
    split at h
    · rename_i e ys hb
      obtain ⟨rfl, _⟩ := hold_ret.1 h
      obtain ⟨hh, wd, cs, g1, g2, g3, g4, g5⟩ := hS.lst (blk_some hb (by simp))
      rcases hv with ⟨e', n, h', k1, k2⟩ | ⟨s', lens, b, cap, inner, k1, k2⟩
      · rw [g2] at k1; cases k1
        obtain ⟨base, cap, q1, q2⟩ := hrow g4 g5
        exact .inr ⟨base, cap, by rw [k2, q1], q2⟩
      · rw [g2] at k1; cases k1
    · exact (hold_fail.1 h).elim
  · rename_i id lo n
    rw [hold_blk] at h
    split at h
    · rename_i e ys hb
      obtain ⟨rfl, _⟩ := hold_ret.1 h
      obtain ⟨hh, wd, cs, g1, g2, g3, g4, g5⟩ := hS.lst (blk_some hb (by simp))
      obtain ⟨e', len, h', wd', a', cap, k1, k2, rfl, k4, k5, k6, k7⟩ := hv
      rw [g2] at k1; cases k1
      rw [g3] at k2; cases k2
      have hl : ((ys.drop lo).take n).length = n := by simp; omega
      refine .inr ⟨a', cap, by rw [hl], ?_⟩
      by_cases hn : n = 0
      · subst hn; exact .inl (by simp)
      · cases hh with
        | zero a => have := row_nil g4; subst this; simp at k5; omega
        | row b c =>
          obtain rfl := k6 b c rfl (by omega)
          obtain ⟨q1, q2, q3⟩ := reads_of_row g4 g5
          refine .inr ⟨b, lo * wd, wd, rfl, fun i x hx => ?_, fun i x j y hx hy => ?_⟩
          · rw [List.getElem?_take] at hx; split at hx
            · rw [List.getElem?_drop] at hx; exact q2 _ x hx
            · cases hx
          · rw [List.getElem?_take] at hx; split at hx
            · rw [List.getElem?_drop] at hx
              obtain ⟨u, r1, r2⟩ := q3 _ x j y hx hy
              refine ⟨u, ?_, r2⟩
              rw [← r1]; congr 2; rw [Nat.add_mul]; omega
            · cases hx
    · exact (hold_fail.1 h).elim
  · rename_i id i
    rw [hold_blk] at h
    split at h
    · rename_i e xss hb
      have hk : xss[i]? = some (some xs) := by
        rw [hold_pop] at h
        rcases h with ⟨_, h⟩ | ⟨it, u, _, h⟩
        · simp only at h
          split at h
          · rename_i ys hys; obtain ⟨rfl, _⟩ := hold_ret.1 h; exact hys
          · exact (hold_fail.1 h).elim
        · split at h
          · rename_i ys he; obtain ⟨hq, h⟩ := hold_req.1 h; obtain ⟨rfl, _⟩ := hold_ret.1 h; exact hq
          · exact (hold_fail.1 h).elim
          · rename_i he; cases he
      obtain ⟨c, g1, g2, g3⟩ := hS.at (blk_some hb (by simp))
      obtain ⟨s', lens, b, cap, inner, n, h', k1, k2, k3, rfl⟩ := hv
      rw [g3] at k1
      cases c <;> simp [vwOf] at k1
      obtain ⟨rfl, rfl, rfl, rfl, rfl⟩ := k1
      obtain ⟨cur, e, wd, r1, r2, r3, r4, r5, r6, r7, r8, r9, r10⟩ := g2
      have hn : n = xs.length := by
        rw [List.getElem?_map, hk] at k2; simp at k2; exact k2.symm
      subst hn
      obtain ⟨_, cs, q1, q2⟩ := r10 i xs h' hk k3
      obtain ⟨base, cap, z1, z2⟩ := hrow q1 q2
      exact .inr ⟨base, cap, z1, z2⟩
    · exact (hold_fail.1 h).elim
  · exact (hold_fail.1 h).elim


theorem items_simple {v : V} {a : Value} {xs : List D} (hv : VRel P w Pr vw v a) (h : Hold O s (items v) sc xs sc') : VRel0 P w Pr vw v a := by
  cases v with
  | func f c => simp only [items, hold_fail] at h
  | iface t v => simp only [items, hold_fail] at h
  | agg cs => simp only [items, hold_fail] at h
  | tup cs => simp only [items, hold_fail] at h
  | _ => exact hv
theorem items_noStr {v : V} {t : ByteArray} {xs : List D} (hv : VRel0 P w Pr (view s.blks μ) v (.string t)) (h : Hold O s (items v) sc xs sc') : ∃ l, v = .d (.str l) := by
  cases v with
  | d x => have hv' : DRel w Pr x (.string t) := hv; cases hv'; exact ⟨_, rfl⟩
  | emp b => cases b <;> simp [VRel0] at hv
  | nnil => simp [VRel0] at hv
  | arr id => simp only [VRel0, hdr] at hv; rcases hv with ⟨_, _, h', _, hh⟩ | ⟨_, _, _, _, _, _, hh⟩ <;> (try cases h') <;> simp at hh
  | inn id i => simp only [VRel0, hdr] at hv; obtain ⟨_, _, _, _, _, _, h', _, _, _, hh⟩ := hv; cases h' <;> simp at hh
  | win id lo n => simp only [VRel0] at hv; obtain ⟨_, _, _, _, _, _, _, _, hh, _⟩ := hv; simp at hh
  | _ => simp only [items, hold_fail] at h

theorem lenV_ok (hS : SRel P s.blks w μ Pr) {t : TypeId} {ts : Array TypeId} {ty : TypeId} {as : Array Value} {v r : V} {a : Value} (ht : ts[0]? = some t) (ha : as[0]? = some a) (hv : VRel P w Pr (view s.blks μ) v a) (h : Hold O s (lenV P t v) sc r sc') :
    ∃ n : Int, r = .d (.int .i64 n) ∧ (Builtin.len_ ts ty as).run P w = .ok (.int .i64 n) w := by
  unfold lenV at h
  split at h
  · rename_i l hu
    obtain ⟨rfl, _⟩ := hold_ret.1 h
    obtain ⟨q, rfl, rfl⟩ := drel_str (show DRel w Pr (.str _) a from hv)
    refine ⟨_, rfl, ?_⟩
    have := bytes_size q
    simp [Builtin.len_, ht, ha, run_und hu, goInt]
  · rename_i n e hu
    obtain ⟨rfl, _⟩ := hold_ret.1 h
    exact ⟨_, rfl, by simp [Builtin.len_, ht, ha, run_und hu, goInt]⟩
  · exact (hold_fail.1 h).elim
  · rename_i e hu hne
    obtain ⟨xs, sc1, h1, h2⟩ := hold_bind.1 h
    obtain ⟨rfl, _⟩ := hold_ret.1 h2
    have hv0 := items_simple hv h1
    rcases items_ok hS hv0 h1 with ⟨q, rfl, hq⟩ | ⟨base, cap, rfl, _⟩
    · obtain ⟨l, rfl⟩ := items_noStr hv0 h1
      exact (hne l rfl).elim
    · exact ⟨_, rfl, by simp [Builtin.len_, ht, ha, run_und hu, goInt]⟩
  · exact (hold_fail.1 h).elim

/-! ### indices -/

theorem ixQ_ok {v : V} {a : Value} {len : Nat} {k : Nat → Q V} {r : V} (hv : VRel P w Pr vw v a) (h : Hold O s (ixQ v len k) sc r sc') : ∃ (kd : IntKind) (i : Nat) (sc1 : Script), a = .int kd (i : Int) ∧ i < len ∧ Hold O s (k i) sc1 r sc' := by
  unfold ixQ at h
  split at h
  · rename_i kd n
    obtain rfl := drel_int (show DRel w Pr (.int kd n) a from hv)
    rw [hold_pop] at h
    rcases h with ⟨_, h⟩ | ⟨it, u, _, h⟩
    · simp only at h
      split at h
      · rename_i hb; exact ⟨kd, n.toNat, _, by rw [Int.toNat_of_nonneg hb.1], by omega, h⟩
      · exact (hold_fail.1 h).elim
    · split at h
      · obtain ⟨⟨rfl, h1⟩, h2⟩ := hold_req.1 h; exact ⟨kd, _, _, rfl, h1, h2⟩
      · exact (hold_fail.1 h).elim
      · rename_i he; cases he
  · exact (hold_fail.1 h).elim
theorem elQ_ok {v : V} {a : Value} {xs : List D} {k : Nat → D → Q V} {r : V} (hv : VRel P w Pr vw v a) (h : Hold O s (elQ v xs k) sc r sc') : ∃ (kd : IntKind) (i : Nat) (d : D) (sc1 : Script), a = .int kd (i : Int) ∧ xs[i]? = some d ∧ Hold O s (k i d) sc1 r sc' := by
  unfold elQ at h
  split at h
  · rename_i kd n
    obtain rfl := drel_int (show DRel w Pr (.int kd n) a from hv)
    rw [hold_pop] at h
    rcases h with ⟨_, h⟩ | ⟨it, u, _, h⟩
    · simp only at h
      split at h
      · rename_i hb
        split at h
        · rename_i d hd; exact ⟨kd, n.toNat, d, _, by rw [Int.toNat_of_nonneg hb], hd, h⟩
        · exact (hold_fail.1 h).elim
      · exact (hold_fail.1 h).elim
    · split at h
      · obtain ⟨⟨rfl, h1⟩, h2⟩ := hold_req.1 h; exact ⟨kd, _, _, _, rfl, h1, h2⟩
      · exact (hold_fail.1 h).elim
      · rename_i he; cases he
  · exact (hold_fail.1 h).elim

theorem index_slice {t e : TypeId} {sz n cap : Nat} {base : Option Addr} {b o i : Nat} {kd : IntKind} (hu : P.underlying t = some (.slice e)) (hz : szOf P e = some sz) (hb : base = some ⟨b, o, none⟩) (hi : i < n) :
    (Instr.indexAt t (.slice base n cap) (.int kd (i : Int))).run P w = .ok (.pointer (some ⟨b, o + i * sz, none⟩)) w := by
  subst hb
  have h1 : (0 : Int) ≤ (i : Int) ∧ (i : Int) < (n : Int) := by omega
  simp [Instr.indexAt, asIntOf, run_und hu, run_szOf hz, hi, Addr.add_mid]
theorem index_array {t e : TypeId} {sz n : Nat} {b o : Nat} {kd : IntKind} {i : Int} (hu : P.underlying t = some (.array n e)) (hz : szOf P e = some sz) (h0 : 0 ≤ i) (hi : i < n) :
    (Instr.indexAt t (.pointer (some ⟨b, o, none⟩)) (.int kd i)).run P w = .ok (.pointer (some ⟨b, o + i.toNat * sz, none⟩)) w := by
  simp [Instr.indexAt, asIntOf, run_und hu, run_szOf hz, h0, hi, Addr.add_mid, Instr.sureAddr]

theorem indexAddrV_ok (hS : SRel P s.blks w μ Pr) {t : TypeId} {c : Bool} {x ix r : V} {a k : Value} (hx : VRel P w Pr (view s.blks μ) x a) (hk : VRel P w Pr (view s.blks μ) ix k) (h : Hold O s (indexAddrV P t c x ix) sc r sc') :
    ∃ v, (Instr.indexAt t a k).run P w = .ok v w ∧ VRel P w Pr (view s.blks μ) r v := by
  unfold indexAddrV at h
  split at h
  · rename_i e hu
    split at h
    · rename_i sz hz
      split at h
      · -- plain data
        rename_i xs
        obtain ⟨kd, i, d, sc1, rfl, hd, h⟩ := elQ_ok hk h
        split at h
        · rename_i hw
          obtain ⟨rfl, _⟩ := hold_ret.1 h
          obtain ⟨base, cap, rfl, hor⟩ := slRel_of_drel (show DRel w Pr (.sl xs) a from hx)
          rcases hor with rfl | ⟨hc, b, o, wd, hb, hp, hr⟩
          · simp at hd
          · have hi : i < xs.length := (List.getElem?_eq_some_iff.1 hd).1
            have hwd : wd = sz := by rw [← hr.1 i d hd, hw]
            subst hwd
            exact ⟨_, index_slice hu hz hb hi, b, o + i * wd, hp, rfl, fun j y hy => hr.2 i d j y hd hy⟩
        · exact (hold_fail.1 h).elim
      · -- a list
        rename_i id
        rw [hold_shp] at h
        split at h
        · rename_i e' len0 hb0
          obtain ⟨xs, hb, rfl⟩ := shape_lst hb0
          split at h
          · rename_i he; subst he
            obtain ⟨kd, i, sc1, rfl, hi, h⟩ := ixQ_ok hk h
            obtain ⟨rfl, _⟩ := hold_ret.1 h
            obtain ⟨hh, wd, cs, g1, g2, g3, g4, g5⟩ := hS.lst (blk_some hb (by simp))
            rcases hx with ⟨e', n, h', k1, k2⟩ | ⟨s', lens, b, cap, inner, k1, k2⟩
            · rw [g2] at k1; cases k1
              cases hh with
              | zero a => have := row_nil g4; subst this; simp at hi
              | row b cap =>
                subst k2
                refine ⟨_, index_slice hu hz rfl hi, .inl ⟨_, _, b, cap, sz, g2, hi, hz, by simp⟩⟩
            · rw [g2] at k1; cases k1
          · exact (hold_fail.1 h).elim
        · rename_i e' len0 hb0
          obtain ⟨xss, hb, rfl⟩ := shape_lst2 hb0
          split at h
          · rename_i he
            obtain ⟨rfl, rfl⟩ := he
            obtain ⟨kd, i, sc1, rfl, hi, h⟩ := ixQ_ok hk h
            obtain ⟨rfl, _⟩ := hold_ret.1 h
            obtain ⟨c, g1, g2, g3⟩ := hS.at (blk_some hb (by simp))
            rcases hx with ⟨e', n, h', k1, k2⟩ | ⟨s', lens, b, cap, inner, k1, k2⟩
            · rw [g3] at k1; cases c <;> simp [vwOf] at k1
            · rw [g3] at k1
              cases c <;> simp [vwOf] at k1
              obtain ⟨rfl, rfl, rfl, rfl, rfl⟩ := k1
              subst k2
              refine ⟨_, index_slice hu hz rfl (by simpa using hi), .inr ⟨_, _, _, _, _, g3, by simpa using hi, rfl, by simp⟩⟩
          · exact (hold_fail.1 h).elim
        · exact (hold_fail.1 h).elim
      · -- a window
        rename_i id lo n
        rw [hold_shp] at h
        split at h
        · rename_i e' len0 hb0
          obtain ⟨xs, hb, rfl⟩ := shape_lst hb0
          split at h
          · rename_i he; subst he
            have hkey : ∃ sc9, lo + n ≤ xs.length ∧ Hold O s (ixQ ix n fun i => .ret (.eptr id (lo + i) 0)) sc9 r sc' := by
              rw [hold_pop] at h
              rcases h with ⟨_, h⟩ | ⟨it, u, _, h⟩
              · simp only at h
                split at h
                · rename_i hln; exact ⟨_, hln, h⟩
                · exact (hold_fail.1 h).elim
              · obtain ⟨h1, h2⟩ := hold_req.1 h; exact ⟨_, h1, h2⟩
            replace h := hkey
            obtain ⟨sc9, hln, h⟩ := h
            obtain ⟨kd, i, sc1, rfl, hi, h⟩ := ixQ_ok hk h
            obtain ⟨rfl, _⟩ := hold_ret.1 h
            obtain ⟨hh, wd, cs, g1, g2, g3, g4, g5⟩ := hS.lst (blk_some hb (by simp))
            obtain ⟨e', len, h', wd', a', cap, k1, k2, rfl, k4, k5, k6, k7⟩ := hx
            rw [g2] at k1; cases k1
            rw [hz] at k2; cases k2
            cases hh with
            | zero a => have := row_nil g4; subst this; simp at k5; omega
            | row b cap' =>
              refine ⟨_, index_slice hu hz (k6 b cap' rfl (by omega)) hi, .inl ⟨_, _, b, cap', sz, g2, by omega, hz, ?_⟩⟩
              rw [Nat.add_mul]; simp
          · exact (hold_fail.1 h).elim
        · exact (hold_fail.1 h).elim
      · -- an inner list
        rename_i id j
        rw [hold_blk] at h
        split at h
        · rename_i s' xss hb
          split at h
          · rename_i he
            obtain ⟨ys, sc1, h1, h2⟩ := hold_bind.1 h
            obtain ⟨kd, i, sc2, rfl, hi, h3⟩ := ixQ_ok hk h2
            obtain ⟨rfl, _⟩ := hold_ret.1 h3
            have hx0 : VRel0 P w Pr (view s.blks μ) (.inn id j) a := hx
            obtain ⟨s2, lens, b, cap, inner, n, h', k1, k2, k3, rfl⟩ := hx
            have hit := items_ok hS hx0 h1
            obtain ⟨c, g1, g2, g3⟩ := hS.at (blk_some hb (by simp))
            have k1' := k1
            rw [g3] at k1
            cases c <;> simp [vwOf] at k1
            obtain ⟨rfl, rfl, rfl, rfl, rfl⟩ := k1
            cases h' with
            | zero a =>
              rcases hit with ⟨t', ht, _⟩ | ⟨base, cap2, ht, _⟩
              · simp [hdr] at ht
              · simp [hdr] at ht; omega
            | row b' cap' =>
              have hn : n = ys.length := by
                rcases hit with ⟨t', ht, _⟩ | ⟨base, cap2, ht, _⟩
                · simp [hdr] at ht
                · simp [hdr] at ht; exact ht.2.1
              subst hn
              exact ⟨_, index_slice hu hz rfl hi, _, _, _, _, _, _, e, b', cap', sz, k1', k2, k3, hi, he, hz, by simp⟩
          · exact (hold_fail.1 h).elim
        · exact (hold_fail.1 h).elim
      · exact (hold_fail.1 h).elim
    · exact (hold_fail.1 h).elim
  · rename_i len e hu
    split at h
    · rename_i sz id off hz
      obtain ⟨b, k1, rfl⟩ := hx
      split at h
      · split at h
        · rename_i kd n
          obtain rfl := drel_int (show DRel w Pr (.int kd n) k from hk)
          split at h
          · rename_i hb
            obtain ⟨rfl, _⟩ := hold_ret.1 h
            exact ⟨_, index_array hu hz hb.1 hb.2, b, k1, rfl⟩
          · exact (hold_fail.1 h).elim
        · exact (hold_fail.1 h).elim
      · obtain ⟨kd, i, sc1, rfl, hi, h⟩ := ixQ_ok hk h
        obtain ⟨rfl, _⟩ := hold_ret.1 h
        exact ⟨_, index_array hu hz (by omega) (by omega), b, k1, by simp⟩
    · exact (hold_fail.1 h).elim
  · exact (hold_fail.1 h).elim

end
end Go.Proofs.Ytbbefbgomdmldaa.Ab
