/- The operations that only make a value. -/
import Derived.Test.YtbbefbgomdmldaaAbsOpO
namespace Go.Proofs.Ytbbefbgomdmldaa.Ab
open Go
set_option linter.unusedVariables false
set_option linter.unusedSimpArgs false

variable {P : Program} {O : Orc} {s : St} {sc sc' : Script} {w w' : World} {Pr Pr' : Nat → Prop} {vw vw' : Nat → Option VW} {bl : List B} {μ : List CB} {a : Act}
  {wr : Nat → Bool} {IC : Nat → List V → List B → V → List B → Prop} {lit : Bool} {p : Patch} {Q : Exit → Act → World → Prop}

/-- The frame's world as it is. -/
theorem goes_val {o : Oper} {r : V} {x : Value} (hR : Rel P s a w μ Pr) (hrun : (execOp a.eval o).run P w = .ok (.value x) w) (hv : VRel P w Pr (view s.blks μ) r x) : o.wp P a w (After P ((putP o.dst r).apply s) μ Pr w) Q :=
  goes_put hR (Quiet.refl w Pr) hrun hv

theorem op_move {o : Oper} {x : Operand} (hR : Rel P s a w μ Pr) (ho : o.op = .move x ∨ o.op = .assign x) (h : Hold O s (evOp P wr IC lit o) sc p sc') : o.wp P a w (After P (p.apply s) μ Pr w) Q := by
  have h' : Hold O s ((opd x).bind fun v => .ret (putP o.dst v)) sc p sc' := by rcases ho with ho | ho <;> simpa only [evOp, ho] using h
  obtain ⟨v, sc1, h1, h2⟩ := hold_bind.1 h'
  obtain ⟨rfl, _⟩ := hold_ret.1 h2
  exact goes_val hR (by rcases ho with ho | ho <;> simp only [execOp, ho, Sem.run_pure]) (opd_ok hR h1)

theorem op_pick {o : Oper} {c x y : Operand} (hR : Rel P s a w μ Pr) (ho : o.op = .pick c x y) (h : Hold O s (evOp P wr IC lit o) sc p sc') : o.wp P a w (After P (p.apply s) μ Pr w) Q := by
  simp only [evOp, ho] at h
  obtain ⟨v, sc1, h1, h2⟩ := hold_bind.1 h
  split at h2
  · rename_i t
    have hc := drel_bool (show DRel w Pr (.bool t) _ from opd_ok hR h1)
    obtain ⟨v, sc2, h3, h4⟩ := hold_bind.1 h2
    obtain ⟨rfl, _⟩ := hold_ret.1 h4
    have hv := opd_ok hR h3
    refine goes_val hR (x := if t then a.eval x else a.eval y) ?_ (by cases t <;> simpa using hv)
    simp only [execOp, ho, hc, asBool, Sem.run_bind, Sem.run_pure, Result.andThen_ok]
  · exact (hold_fail.1 h2).elim

theorem op_alloc {o : Oper} {t : TypeId} (hR : Rel P s a w μ Pr) (ho : o.op = .alloc t) (h : Hold O s (evOp P wr IC lit o) sc p sc') : o.wp P a w (After P (p.apply s) μ Pr w) Q := by
  simp only [evOp, ho] at h
  split at h
  · rename_i cs hz
    rw [hold_nblk] at h
    obtain ⟨rfl, _⟩ := hold_ret.1 h
    exact goes_alloc hR ho hz
  · exact (hold_fail.1 h).elim

theorem op_box {o : Oper} {t : TypeId} {x : Operand} (hR : Rel P s a w μ Pr) (ho : o.op = .box t x) (h : Hold O s (evOp P wr IC lit o) sc p sc') : o.wp P a w (After P (p.apply s) μ Pr w) Q := by
  simp only [evOp, ho] at h
  obtain ⟨v, sc1, h1, h2⟩ := hold_bind.1 h
  split at h2
  · rename_i cs n hc hs
    split at h2
    · rw [hold_nblk] at h2
      obtain ⟨rfl, _⟩ := hold_ret.1 h2
      exact goes_box hR ho (opd_ok hR h1) hc
    · exact (hold_fail.1 h2).elim
  · exact (hold_fail.1 h2).elim

theorem op_build {o : Oper} {t : TypeId} {parts : Array (Nat × Operand)} (hR : Rel P s a w μ Pr) (ho : o.op = .build t parts) (h : Hold O s (evOp P wr IC lit o) sc p sc') : o.wp P a w (After P (p.apply s) μ Pr w) Q := by
  simp only [evOp, ho] at h
  obtain ⟨l, sc1, h1, h2⟩ := hold_bind.1 h
  have hp := plainParts_ok hR h1
  split at h2
  · rename_i v hv
    obtain ⟨rfl, _⟩ := hold_ret.1 h2
    have pl : (parts.map fun x => (x.1, a.eval x.2)).toList = parts.toList.map fun x => (x.1, a.eval x.2) := by simp
    obtain ⟨u, g1, g2⟩ := buildV_ok (parts' := parts.map fun x => (x.1, a.eval x.2)) (by rw [pl]; exact hp) hv
    refine goes_val hR (x := u) ?_ g2
    simp only [execOp, ho, Sem.run_bind, g1, Result.andThen_ok, Sem.run_pure]
  · exact (hold_fail.1 h2).elim

theorem op_load {o : Oper} {t : TypeId} {x : Operand} (hR : Rel P s a w μ Pr) (ho : o.op = .load t x) (h : Hold O s (evOp P wr IC lit o) sc p sc') : o.wp P a w (After P (p.apply s) μ Pr w) Q := by
  simp only [evOp, ho] at h
  obtain ⟨v, sc1, h1, h2⟩ := hold_bind.1 h
  obtain ⟨r, sc2, h3, h4⟩ := hold_bind.1 h2
  obtain ⟨rfl, _⟩ := hold_ret.1 h4
  obtain ⟨u, g1, g2⟩ := loadV_ok hR.toSRel (opd_ok hR h1) h3
  exact goes_val hR (by simp only [execOp, ho, Sem.run_bind, g1, Result.andThen_ok, Sem.run_pure]) g2

theorem op_nilCheck {o : Oper} {x : Operand} (hR : Rel P s a w μ Pr) (ho : o.op = .nilCheck x) (h : Hold O s (evOp P wr IC lit o) sc p sc') : o.wp P a w (After P (p.apply s) μ Pr w) Q := by
  simp only [evOp, ho] at h
  obtain ⟨v, sc1, h1, h2⟩ := hold_bind.1 h
  have hv := opd_ok hR h1
  split at h2
  · obtain ⟨rfl, _⟩ := hold_ret.1 h2
    obtain ⟨b, k1, k2⟩ := id hv
    exact goes_val hR (by simp only [execOp, ho, k2, Sem.run_pure]; rfl) (by rw [← k2]; exact hv)
  · obtain ⟨rfl, _⟩ := hold_ret.1 h2
    obtain ⟨vs, k1, k2⟩ := id hv
    exact goes_val hR (by simp only [execOp, ho, k1, Sem.run_pure]; rfl) (by rw [← k1]; exact hv)
  · obtain ⟨rfl, _⟩ := hold_ret.1 h2
    obtain ⟨u, k1, k2⟩ := id hv
    exact goes_val hR (by simp only [execOp, ho, k1, Sem.run_pure]; rfl) (by rw [← k1]; exact hv)
  · exact (hold_fail.1 h2).elim

theorem op_bin {o : Oper} {op : BinOp} {t yt : TypeId} {x y : Operand} (hR : Rel P s a w μ Pr) (ho : o.op = .binOp op t x y yt) (h : Hold O s (evOp P wr IC lit o) sc p sc') : o.wp P a w (After P (p.apply s) μ Pr w) Q := by
  simp only [evOp, ho] at h
  obtain ⟨v, sc1, h1, h2⟩ := hold_bind.1 h
  obtain ⟨u, sc2, h3, h4⟩ := hold_bind.1 h2
  obtain ⟨r, sc3, h5, h6⟩ := hold_bind.1 h4
  obtain ⟨rfl, _⟩ := hold_ret.1 h6
  obtain ⟨d, rfl, z, g1, g2⟩ := binV_ok (xo := x) (opd_ok hR h1) (opd_ok hR h3) h5
  refine goes_val hR (x := z) ?_ g2
  simp only [execOp, ho]
  rw [Sem.run_bind, g1]
  rfl

theorem op_un {o : Oper} {op : UnOp} {t : TypeId} {x : Operand} (hR : Rel P s a w μ Pr) (ho : o.op = .unOp op t x) (h : Hold O s (evOp P wr IC lit o) sc p sc') : o.wp P a w (After P (p.apply s) μ Pr w) Q := by
  simp only [evOp, ho] at h
  obtain ⟨v, sc1, h1, h2⟩ := hold_bind.1 h
  obtain ⟨r, sc3, h5, h6⟩ := hold_bind.1 h2
  obtain ⟨rfl, _⟩ := hold_ret.1 h6
  obtain ⟨d, rfl, z, g1, g2⟩ := unV_ok (opd_ok hR h1) h5
  exact goes_val hR (by simp only [execOp, ho, Sem.run_bind, g1, Result.andThen_ok, Sem.run_pure]) g2

theorem u8_inj {l l' : List UInt8} (h : l.map u8 = l'.map u8) : l = l' := by
  induction l generalizing l' with
  | nil => cases l' with | nil => rfl | cons _ _ => simp at h
  | cons x r ih =>
    cases l' with
    | nil => simp at h
    | cons y r' =>
      simp only [List.map_cons, List.cons.injEq, u8, D.int.injEq, true_and] at h
      obtain ⟨h1, h2⟩ := h
      have hxy : x = y := UInt8.toNat_inj.1 (by exact_mod_cast h1)
      rw [ih h2, hxy]

theorem op_convert {o : Oper} {src dst : TypeId} {x : Operand} (hR : Rel P s a w μ Pr) (ho : o.op = .convert src dst x) (h : Hold O s (evOp P wr IC lit o) sc p sc') : o.wp P a w (After P (p.apply s) μ Pr w) Q := by
  simp only [evOp, ho] at h
  obtain ⟨v, sc1, h1, h2⟩ := hold_bind.1 h
  obtain ⟨r, sc3, h5, h6⟩ := hold_bind.1 h2
  obtain ⟨rfl, _⟩ := hold_ret.1 h6
  have hv := opd_ok hR h1
  have hexec : ∀ {z w'}, (convert src dst (a.eval x)).run P w = .ok z w' → (execOp a.eval o).run P w = .ok (.value z) w' := fun hz => by
    simp only [execOp, ho, Sem.run_bind, hz, Result.andThen_ok, Sem.run_pure]
  unfold convV at h5
  split at h5
  · rename_i k1 k2 k3 n hs hd
    have hx := drel_int (show DRel w Pr (.int k3 n) _ from hv)
    obtain rfl := hold_popInt h5
    refine goes_val hR (hexec ?_) (show DRel w Pr (.int k2 (k2.wrap n)) (.int k2 (k2.wrap n)) from .int _ _)
    simp only [convert, Sem.run_bind, run_und hs, run_und hd, hx, Result.andThen_ok, Conv.intToInt, Sem.run_pure]
  · rename_i l hs hd
    obtain ⟨t, hx, ht⟩ := drel_str (show DRel w Pr (.str l) _ from hv)
    obtain ⟨rfl, _⟩ := hold_ret.1 h5
    refine goes_val hR (hexec (z := a.eval x) ?_) hv
    simp only [convert, Sem.run_bind, run_und hs, run_und hd, hx, Result.andThen_ok, Sem.run_pure]
  · rename_i e l hs hd
    obtain ⟨t, hx, ht⟩ := drel_str (show DRel w Pr (.str l) _ from hv)
    split at h5
    · rename_i he
      obtain ⟨rfl, _⟩ := hold_ret.1 h5
      obtain ⟨z, w', Pr', g1, g2, g3⟩ := run_stringToBytes (P := P) e t w Pr
      rw [ht] at g3
      refine goes_put hR g2 (hexec (z := z) ?_) (r := .d (.sl (l.map u8))) g3
      simp only [convert, Sem.run_bind, run_und hs, run_und hd, run_und he, hx, Result.andThen_ok, g1]
    · exact (hold_fail.1 h5).elim
  · rename_i e hs hd
    split at h5
    · rename_i he
      obtain ⟨xs, sc4, h7, h8⟩ := hold_bind.1 h5
      have key : ∃ l, xs = l.map u8 ∧ r = .d (.str l) := by
        rw [hold_pop] at h8
        rcases h8 with ⟨_, h8⟩ | ⟨it, u, _, h8⟩
        · simp only at h8
          split at h8
          · rename_i l hl; exact ⟨l, unU8_ok hl, (hold_ret.1 h8).1⟩
          · exact (hold_fail.1 h8).elim
        · split at h8
          · obtain ⟨k1, k2⟩ := hold_req.1 h8; exact ⟨_, k1, (hold_ret.1 k2).1⟩
          · exact (hold_fail.1 h8).elim
          · rename_i hn; cases hn
      obtain ⟨l, rfl, rfl⟩ := key
      rcases items_ok hR.toSRel (items_simple hv h7) h7 with ⟨t, hx, ht⟩ | ⟨base, cap, hx, hor⟩
      · have := u8_inj ht
        subst this
        refine goes_val hR (hexec (z := a.eval x) ?_) (by rw [hx]; exact DRel.str t)
        simp only [convert, Sem.run_bind, run_und hs, run_und hd, hx, Result.andThen_ok, Sem.run_pure]
      · have g1 := run_bytesToString (P := P) (w := w) (Pr := Pr) (base := base) (cap := cap) hor
        refine goes_val hR (hexec (z := .string ⟨l.toArray⟩) ?_) (show DRel w Pr (.str l) _ from by have := DRel.str (w := w) (Pr := Pr) ⟨l.toArray⟩; simpa using this)
        simp only [convert, Sem.run_bind, run_und hs, run_und hd, run_und he, hx, Result.andThen_ok, g1]
    · exact (hold_fail.1 h5).elim
  · exact (hold_fail.1 h5).elim

theorem vrel_simple {v : V} {x : Value} (h : VRel P w Pr vw v x) (hs : simple0 v = true) : VRel0 P w Pr vw v x := by
  have key : VRel1 P w Pr vw v x → VRel0 P w Pr vw v x := fun h => h.simple hs
  cases v with
  | tup _ => cases hs
  | _ => exact key h

theorem op_makeInterface {o : Oper} {t : TypeId} {x : Operand} (hR : Rel P s a w μ Pr) (ho : o.op = .makeInterface t x) (h : Hold O s (evOp P wr IC lit o) sc p sc') : o.wp P a w (After P (p.apply s) μ Pr w) Q := by
  simp only [evOp, ho] at h
  obtain ⟨v, sc1, h1, h2⟩ := hold_bind.1 h
  have hv := opd_ok hR h1
  split at h2
  · exact (hold_fail.1 h2).elim
  · exact (hold_fail.1 h2).elim
  · rename_i d hni hd
    split at h2
    · rename_i hs
      obtain ⟨rfl, _⟩ := hold_ret.1 h2
      refine goes_val hR (x := .iface t (a.eval x)) ?_ ⟨_, rfl, vrel_simple hv hs⟩
      simp only [execOp, ho, Instr.makeInterface, Sem.run_bind, run_und hd, Result.andThen_ok]
      cases d <;> first | exact (hni _ rfl).elim | rfl
    · exact (hold_fail.1 h2).elim

theorem op_makeFunc {o : Oper} {fn : Fn} {first cap : Array Operand} (hR : Rel P s a w μ Pr) (ho : o.op = .makeFunc fn first cap) (h : Hold O s (evOp P wr IC lit o) sc p sc') : o.wp P a w (After P (p.apply s) μ Pr w) Q := by
  simp only [evOp, ho] at h
  split at h
  · rename_i f
    obtain ⟨vs, sc1, h1, h2⟩ := hold_bind.1 h
    have hv := opds_ok hR h1
    split at h2
    · rename_i hc
      obtain ⟨rfl, _⟩ := hold_ret.1 h2
      have hfe : first = #[] := Array.size_eq_zero_iff.1 hc.1
      subst hfe
      refine goes_val hR (x := .func (.func f) #[] (cap.map a.eval)) ?_ ⟨cap.toList.map a.eval, by rw [← Array.toList_map], All2.monoMem (fun v hm u hu => vrel_simple hu (List.all_eq_true.1 hc.2 v hm)) hv⟩
      simp only [execOp, ho, Instr.makeFunc, Sem.run_bind, Sem.run_pure, Result.andThen_ok, Array.map_empty]
    · exact (hold_fail.1 h2).elim
  · exact (hold_fail.1 h).elim

theorem op_indexAddr {o : Oper} {t : TypeId} {x ix : Operand} (hR : Rel P s a w μ Pr) (ho : o.op = .indexAddr t x ix) (h : Hold O s (evOp P wr IC lit o) sc p sc') : o.wp P a w (After P (p.apply s) μ Pr w) Q := by
  simp only [evOp, ho] at h
  obtain ⟨v, sc1, h1, h2⟩ := hold_bind.1 h
  obtain ⟨u, sc2, h3, h4⟩ := hold_bind.1 h2
  obtain ⟨r, sc3, h5, h6⟩ := hold_bind.1 h4
  obtain ⟨rfl, _⟩ := hold_ret.1 h6
  obtain ⟨z, g1, g2⟩ := indexAddrV_ok hR.toSRel (opd_ok hR h1) (opd_ok hR h3) h5
  exact goes_val hR (by simp only [execOp, ho, Sem.run_bind, g1, Result.andThen_ok, Sem.run_pure]) g2

theorem op_extract {o : Oper} {x : Operand} {i : Nat} (hR : Rel P s a w μ Pr) (ho : o.op = .extract x i) (h : Hold O s (evOp P wr IC lit o) sc p sc') : o.wp P a w (After P (p.apply s) μ Pr w) Q := by
  simp only [evOp, ho] at h
  obtain ⟨v, sc1, h1, h2⟩ := hold_bind.1 h
  have hv := opd_ok hR h1
  split at h2
  · rename_i vs
    split at h2
    · rename_i y hy
      obtain ⟨rfl, _⟩ := hold_ret.1 h2
      obtain ⟨us, k1, k2⟩ := hv
      obtain ⟨u, hu, hu2⟩ := k2.get i y hy
      refine goes_val hR (x := u) ?_ hu2.toV
      simp only [execOp, ho, k1, Instr.extract, Sem.run_bind]
      rw [List.getElem?_toArray, hu]
      rfl
    · exact (hold_fail.1 h2).elim
  · exact (hold_fail.1 h2).elim

theorem op_typeAssert {o : Oper} {x : Operand} {xt t : TypeId} {ok : Bool} (hR : Rel P s a w μ Pr) (ho : o.op = .typeAssert x xt t ok) (h : Hold O s (evOp P wr IC lit o) sc p sc') : o.wp P a w (After P (p.apply s) μ Pr w) Q := by
  simp only [evOp, ho] at h
  obtain ⟨v, sc1, h1, h2⟩ := hold_bind.1 h
  have hv := opd_ok hR h1
  split at h2
  · rename_i t' v
    split at h2
    · rename_i htt
      subst htt
      split at h2
      · exact (hold_fail.1 h2).elim
      · exact (hold_fail.1 h2).elim
      · rename_i d hni hd
        obtain ⟨rfl, _⟩ := hold_ret.1 h2
        obtain ⟨u, k1, k2⟩ := hv
        refine goes_val hR (x := if ok then .tuple #[u, .bool true] else u) ?_ ?_
        · simp only [execOp, ho, k1, Instr.typeAssert, Sem.run_bind, run_und hd, Result.andThen_ok]
          cases d <;> first | exact (hni _ rfl).elim | (simp only [if_true]; rfl)
        · cases ok
          · exact k2.toV
          · exact ⟨[u, .bool true], rfl, k2.to1, (show DRel w Pr (.bool true) _ from .bool _), trivial⟩
    · exact (hold_fail.1 h2).elim
  · exact (hold_fail.1 h2).elim

end Go.Proofs.Ytbbefbgomdmldaa.Ab
