/- Slices; literals; what only makes a value, as operations. -/
import Derived.Test.YtbbefbgomdmldaaAbsOpE
namespace Go.Proofs.Ytbbefbgomdmldaa.Ab
open Go
set_option linter.unusedVariables false
set_option linter.unusedSimpArgs false

variable {P : Program} {O : Orc} {s : St} {sc sc' : Script} {w : World} {Pr : Nat → Prop} {vw : Nat → Option VW} {bl : List B} {μ : List CB}

/-- Boxes stay where they are. -/
def Keep (μ μ' : List CB) : Prop := ∀ (i q : Nat), μ[i]? = some (.box q) → μ'[i]? = some (.box q)
theorem Keep.refl (μ : List CB) : Keep μ μ := fun _ _ h => h
theorem Keep.trans {μ μ' μ'' : List CB} (h : Keep μ μ') (h' : Keep μ' μ'') : Keep μ μ'' := fun i q hi => h' i q (h i q hi)
theorem Keep.push (μ ν : List CB) : Keep μ (μ ++ ν) := fun i q hi => by rw [List.getElem?_append_left (List.getElem?_eq_some_iff.1 hi).1]; exact hi
theorem Keep.set {μ : List CB} {id : Nat} {c c' : CB} (hc : μ[id]? = some c) (hb : ∀ q, c ≠ .box q) : Keep μ (μ.set id c') := fun i q hi => by
  by_cases h : id = i
  · subst h; rw [hc] at hi; cases hi; exact (hb q rfl).elim
  · rw [List.getElem?_set, if_neg h]; exact hi

/-- Where a step leads. -/
def After (P : Program) (s' : St) (μ : List CB) (Pr : Nat → Prop) (w : World) (a' : Act) (w' : World) : Prop :=
  ∃ μ' Pr', Rel P s' a' w' μ' Pr' ∧ Evo (owns μ) Pr w (owns μ') Pr' w' ∧ Keep μ μ'

theorem goes_put {a : Act} {o : Oper} {w' : World} {Pr' : Nat → Prop} {r : V} {x : Value} {Q : Exit → Act → World → Prop} (hR : Rel P s a w μ Pr) (hq : Quiet w Pr w' Pr')
    (hrun : (execOp a.eval o).run P w = .ok (.value x) w') (hv : VRel P w' Pr' (view s.blks μ) r x) : o.wp P a w (After P ((putP o.dst r).apply s) μ Pr w) Q := by
  unfold Oper.wp
  rw [hrun]
  exact ⟨μ, Pr', by rw [putP_apply]; exact (hq.rel hR).setSlot P _ hv, hq.evo _, .refl _⟩

theorem hdr_cap {e wd n : Nat} {xs : List D} {cs : List Value} {hh : H} (ho : OwnR w e wd hh xs.length cs) : ∃ base cap, hdr hh xs.length = .slice base xs.length cap ∧ xs.length ≤ cap := by
  cases hh with
  | zero a => have := row_nil ho; subst this; exact ⟨a, 0, rfl, Nat.le_refl _⟩
  | row b c =>
    refine ⟨_, c, rfl, ?_⟩
    rcases ho.2 with ⟨h, _⟩ | ⟨g, cap, cur, hv, _, _, h1, _⟩
    · simp at h
    · simp at hv; omega

/-! ### slice expressions -/

def OptRel (P : Program) (w : World) (Pr : Nat → Prop) (vw : Nat → Option VW) : Option V → Option Value → Prop
  | none, none => True
  | some v, some u => VRel P w Pr vw v u
  | _, _ => False

theorem bound_ok {x : Value} {n y : Nat} {k : IntKind} {c : BoundsCode} (hx : x = .int k (n : Int)) (hn : n ≤ y) : (Instr.sliceBound x y c).run P w = .ok n w := by
  subst hx
  simp [Instr.sliceBound, asIntOf, hn]

theorem cutQ_ok {lo hi : Option V} {lo' hi' : Option Value} {len : Nat} {k : Nat → Nat → Q Patch} {p : Patch} (hl : OptRel P w Pr vw lo lo') (hh : OptRel P w Pr vw hi hi') (h : Hold O s (cutQ lo hi len k) sc p sc') :
    ∃ (a b : Nat) (sc1 : Script), a ≤ b ∧ b ≤ len ∧ (∀ isSl cap, len ≤ cap → (Instr.sliceBounds isSl len cap lo' hi' none).run P w = .ok (a, b, cap) w) ∧ Hold O s (k a b) sc1 p sc' := by
  have hb : ∀ {v : Option V} {v' : Option Value} {d : Nat} {kk : Int → Q Patch} {sc : Script}, OptRel P w Pr vw v v' → Hold O s (boundQ v d kk) sc p sc' → ∃ n : Int, Hold O s (kk n) sc p sc' ∧ ((v = none ∧ v' = none ∧ n = d) ∨ ∃ kd, v' = some (.int kd n)) := by
    intro v v' d kk sc hv h
    unfold boundQ at h
    split at h
    · cases v' with
      | none => exact ⟨_, h, .inl ⟨rfl, rfl, rfl⟩⟩
      | some u => exact hv.elim
    · rename_i kd n
      cases v' with
      | none => exact hv.elim
      | some u =>
        obtain rfl := drel_int (show DRel w Pr (.int kd n) u from hv)
        exact ⟨n, h, .inr ⟨kd, rfl⟩⟩
    · exact (hold_fail.1 h).elim
  unfold cutQ at h
  obtain ⟨l, h, hlo⟩ := hb hl h
  obtain ⟨m, h, hhi⟩ := hb hh h
  have key : ∃ (a b : Nat) (sc1 : Script), l = (a : Int) ∧ m = (b : Int) ∧ a ≤ b ∧ b ≤ len ∧ Hold O s (k a b) sc1 p sc' := by
    rw [hold_pop] at h
    rcases h with ⟨_, h⟩ | ⟨it, u, _, h⟩
    · simp only at h
      split at h
      · rename_i hc; exact ⟨l.toNat, m.toNat, _, by omega, by omega, by omega, by omega, h⟩
      · exact (hold_fail.1 h).elim
    · split at h
      · obtain ⟨⟨h1, h2, h3, h4⟩, h5⟩ := hold_req.1 h; exact ⟨_, _, _, h1, h2, h3, h4, h5⟩
      · exact (hold_fail.1 h).elim
      · rename_i he; cases he
  obtain ⟨a, b, sc1, rfl, rfl, hab, hbl, h⟩ := key
  refine ⟨a, b, sc1, hab, hbl, fun isSl cap hcap => ?_, h⟩
  have hbc : b ≤ cap := by omega
  rcases hlo with ⟨_, rfl, h2⟩ | ⟨kd, rfl⟩ <;> rcases hhi with ⟨_, rfl, h3⟩ | ⟨kd', rfl⟩
  · obtain rfl : a = 0 := by omega
    obtain rfl : b = len := by omega
    simp [Instr.sliceBounds]
  · obtain rfl : a = 0 := by omega
    cases isSl <;> simp [Instr.sliceBounds, Instr.sliceBound, asIntOf, hbc]
  · obtain rfl : b = len := by omega
    simp [Instr.sliceBounds, Instr.sliceBound, asIntOf, hab]
  · cases isSl <;> simp [Instr.sliceBounds, Instr.sliceBound, asIntOf, hab, hbc]

theorem widthsQ_ok {α : Type} {ys : List D} {sz : Nat} {k : Q α} {r : α} (h : Hold O s (widthsQ ys sz k) sc r sc') : (∀ y ∈ ys, y.cells.length = sz) ∧ ∃ sc1, Hold O s k sc1 r sc' := by
  unfold widthsQ at h
  have hall : ys.all (fun y => y.cells.length == sz) = true → ∀ y ∈ ys, y.cells.length = sz := fun h y hy => by
    have := List.all_eq_true.1 h y hy; simpa using this
  rw [hold_pop] at h
  rcases h with ⟨_, h⟩ | ⟨it, u, _, h⟩
  · simp only at h
    split at h
    · rename_i hc; exact ⟨hall hc, _, h⟩
    · exact (hold_fail.1 h).elim
  · split at h
    · obtain ⟨h1, h2⟩ := hold_req.1 h; exact ⟨h1, _, h2⟩
    · split at h
      · rename_i hc; exact ⟨hall hc, _, h⟩
      · exact (hold_fail.1 h).elim

theorem elemOf_und {t e : TypeId} (h : elemOf P t = some e) : P.underlying t = some (.slice e) := by
  unfold elemOf at h
  split at h
  · rename_i e' hu; cases h; exact hu
  · cases h

theorem run_slice {t e : TypeId} {sz n cap a b : Nat} {base : Option Addr} {lo hi : Option Value} (hu : P.underlying t = some (.slice e)) (hz : szOf P e = some sz) (hb : (Instr.sliceBounds true n cap lo hi none).run P w = .ok (a, b, cap) w) :
    (Instr.sliceAt t (.slice base n cap) lo hi none).run P w = .ok (.slice (if cap = a then base else base.map (·.add (a * sz))) (b - a) (cap - a)) w := by
  simp only [Instr.sliceAt, Sem.run_bind, run_und hu, Result.andThen_ok, Instr.slice, hb, run_szOf hz, Sem.run_pure]

theorem sliceQ_ok (hS : SRel P s.blks w μ Pr) {dst : Option Nat} {t : TypeId} {x : V} {v : Value} {lo hi mx : Option V} {lo' hi' mx' : Option Value} {p : Patch}
    (hx : VRel P w Pr (view s.blks μ) x v) (hlo : OptRel P w Pr (view s.blks μ) lo lo') (hhi : OptRel P w Pr (view s.blks μ) hi hi') (hmx : OptRel P w Pr (view s.blks μ) mx mx')
    (h : Hold O s (sliceQ P dst t x lo hi mx) sc p sc') : ∃ r u, p = putP dst r ∧ (Instr.sliceAt t v lo' hi' mx').run P w = .ok u w ∧ VRel P w Pr (view s.blks μ) r u := by
  have zero : ∀ {z : Option V} {z' : Option Value} {k : IntKind}, z = some (.d (.int k 0)) → OptRel P w Pr (view s.blks μ) z z' → z' = some (.int k 0) := by
    intro z z' k hz h
    subst hz
    cases z' with
    | none => exact h.elim
    | some u => rw [drel_int (show DRel w Pr (.int k 0) u from h)]
  have nonev : ∀ {z : Option V} {z' : Option Value}, z = none → OptRel P w Pr (view s.blks μ) z z' → z' = none := by
    intro z z' hz h; subst hz; cases z' with | none => rfl | some u => exact h.elim
  unfold sliceQ at h
  split at h
  · rename_i k
    split at h
    · rename_i k2 e xs he
      split at h
      · rename_i sz hz
        obtain ⟨rfl, _⟩ := hold_ret.1 h
        obtain rfl := zero rfl hmx
        obtain rfl := zero rfl hhi
        obtain rfl := nonev rfl hlo
        obtain ⟨base, cap, rfl, _⟩ := slRel_of_drel (show DRel w Pr (.sl xs) v from hx)
        refine ⟨_, .slice base 0 0, rfl, ?_, base, rfl⟩
        have hsb : (Instr.sliceBounds true xs.length cap none (some (.int k2 0)) (some (.int k 0))).run P w = .ok (0, 0, 0) w := by
          simp [Instr.sliceBounds, Instr.sliceBound, asIntOf]
        simp [Instr.sliceAt, run_und (elemOf_und he), Instr.slice, hsb, run_szOf hz]
      · exact (hold_fail.1 h).elim
    · exact (hold_fail.1 h).elim
  · exact (hold_fail.1 h).elim
  · obtain rfl := nonev rfl hmx
    split at h
    · -- plain data
      rename_i xs
      split at h
      · rename_i e he
        split at h
        · rename_i sz hz
          obtain ⟨a, b, sc1, hab, hbl, hsb, h⟩ := cutQ_ok hlo hhi h
          obtain ⟨hw, sc2, h⟩ := widthsQ_ok h
          obtain ⟨rfl, _⟩ := hold_ret.1 h
          obtain ⟨base, cap, rfl, hor⟩ := slRel_of_drel (show DRel w Pr (.sl xs) v from hx)
          have hl : ((xs.drop a).take (b - a)).length = b - a := by simp; omega
          rcases hor with rfl | ⟨hc, bb, o, wd, rfl, hp, hr⟩
          · have ha0 : a = 0 := by simp at hbl; omega
            have hb0 : b = 0 := by simp at hbl; omega
            subst ha0; subst hb0
            refine ⟨_, _, rfl, run_slice (elemOf_und he) hz (hsb true cap (by simp)), ?_⟩
            exact DRel.sl0 _ _
          · refine ⟨_, _, rfl, run_slice (elemOf_und he) hz (hsb true cap hc), ?_⟩
            show DRel w Pr _ _
            by_cases hba : b = a
            · subst hba; simp only [Nat.sub_self, List.take_zero]; exact DRel.sl0 _ _
            · have hca : cap ≠ a := by omega
              rw [if_neg hca]
              have hwd : wd = sz := by
                have hlt : a < xs.length := by omega
                rw [← hr.1 a xs[a] (List.getElem?_eq_getElem hlt)]
                exact hw _ (List.getElem_mem _)
              subst hwd
              have hr1 : ∀ (i : Nat) (x : D), ((xs.drop a).take (b - a))[i]? = some x → xs[a + i]? = some x := by
                intro i x hx
                rw [List.getElem?_take] at hx
                split at hx
                · rwa [List.getElem?_drop] at hx
                · cases hx
              have hr2 : Reads w Pr wd ((xs.drop a).take (b - a)) bb (o + a * wd) := by
                refine ⟨fun i x hx => hr.1 _ x (hr1 i x hx), fun i x j y hx hy => ?_⟩
                obtain ⟨u, g1, g2⟩ := hr.2 _ x j y (hr1 i x hx) hy
                refine ⟨u, ?_, g2⟩
                rw [← g1]; congr 2; rw [Nat.add_mul]; omega
              have := drel_of_reads (Pr' := Pr) (cap := cap - a) hp (by rw [hl]; omega) hr2
              rw [hl] at this
              simpa [Addr.add_mid] using this
        · exact (hold_fail.1 h).elim
      · exact (hold_fail.1 h).elim
    · -- a string
      rename_i l
      split at h
      · rename_i hu
        obtain ⟨a, b, sc1, hab, hbl, hsb, h⟩ := cutQ_ok hlo hhi h
        obtain ⟨rfl, _⟩ := hold_ret.1 h
        obtain ⟨q, rfl, rfl⟩ := drel_str (show DRel w Pr (.str _) v from hx)
        have hq := bytes_size q
        have hs1 := hsb false q.size (by omega)
        rw [← hq] at hs1
        refine ⟨_, .string (q.extract a b), rfl, ?_, ?_⟩
        · simp [Instr.sliceAt, run_und hu, Instr.slice, hs1]
        · show DRel w Pr _ _
          have : (q.data.toList.drop a).take (b - a) = (q.extract a b).data.toList := by
            rw [ByteArray.data_extract, Array.toList_extract, List.extract_eq_take_drop]
          rw [this]
          exact DRel.str _
      · exact (hold_fail.1 h).elim
    · -- an empty one
      rename_i bb
      split at h
      · rename_i k sz hz
        obtain ⟨rfl, _⟩ := hold_ret.1 h
        obtain rfl := zero rfl hhi
        obtain rfl := nonev rfl hlo
        obtain ⟨e, he, hz⟩ := Option.bind_eq_some_iff.1 hz
        have hsb : (Instr.sliceBounds true 0 0 none (some (.int k 0)) none).run P w = .ok (0, 0, 0) w := by
          simp [Instr.sliceBounds, Instr.sliceBound, asIntOf]
        cases bb
        · obtain ⟨p, rfl⟩ := hx
          exact ⟨_, .slice p 0 0, rfl, by rw [run_slice (elemOf_und he) hz hsb]; simp, p, rfl⟩
        · obtain rfl := hx
          exact ⟨_, .slice none 0 0, rfl, by rw [run_slice (elemOf_und he) hz hsb]; simp, rfl⟩
      · exact (hold_fail.1 h).elim
    · -- a list
      rename_i id
      rw [hold_blk] at h
      split at h
      · rename_i e xs hb
        split at h
        · rename_i he
          obtain ⟨a, b, sc1, hab, hbl, hsb, h⟩ := cutQ_ok hlo hhi h
          obtain ⟨rfl, _⟩ := hold_ret.1 h
          obtain ⟨hh, wd, cs, g1, g2, g3, g4, g5⟩ := hS.lst (blk_some hb (by simp))
          rcases hx with ⟨e', n, h', k1, k2⟩ | ⟨s', lens, bb, cap, inner, k1, k2⟩
          · rw [g2] at k1; cases k1
            subst k2
            obtain ⟨base, cap, q1, q2⟩ := hdr_cap (n := 0) g4
            rw [q1]
            refine ⟨_, _, rfl, run_slice (elemOf_und he) g3 (hsb true cap q2), _, _, _, wd, _, cap - a, g2, g3, rfl, by omega, by omega, fun bb c hc hn => ?_, fun ha => ?_⟩
            · subst hc
              simp [hdr] at q1
              obtain ⟨rfl, rfl⟩ := q1
              rw [if_neg (by omega)]
              simp [Addr.add_mid]
            · subst ha
              cases hh with
              | zero z => have := row_nil g4; subst this; simp [hdr] at q1; obtain ⟨rfl, rfl⟩ := q1; simp at hbl; subst hbl; simp [hdr]
              | row bb cc =>
                simp [hdr] at q1
                obtain ⟨rfl, rfl⟩ := q1
                simp [hdr, Addr.add]
          · rw [g2] at k1; cases k1
        · exact (hold_fail.1 h).elim
      · exact (hold_fail.1 h).elim
    · exact (hold_fail.1 h).elim

end Go.Proofs.Ytbbefbgomdmldaa.Ab
