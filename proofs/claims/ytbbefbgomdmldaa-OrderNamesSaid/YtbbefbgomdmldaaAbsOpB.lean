/- Binary operations, all of them. -/
import Derived.Test.YtbbefbgomdmldaaAbsEq
namespace Go.Proofs.Ytbbefbgomdmldaa.Ab
open Go
set_option linter.unusedVariables false
set_option linter.unusedSimpArgs false

variable {P : Program} {O : Orc} {s : St} {sc sc' : Script} {w : World} {Pr : Nat → Prop} {vw : Nat → Option VW}

theorem run_und' {t : TypeId} {d : TypeDesc} (h : P.underlying t = some d) : (underlying t).run P w = .ok d w := by
  simp [underlying, h]

theorem eq_bool {t : TypeId} (h : P.underlying t = some .bool) (a b : Bool) : (Op.equal t (.bool a) (.bool b)).run P w = .ok (a == b) w := by
  unfold Op.equal
  rw [show Op.maxDepth = 9999 + 1 from rfl, Op.equalIn]
  simp [run_und h]
theorem eq_slice {t e : TypeId} (h : P.underlying t = some (.slice e)) (a : Option Addr) (n c m k : Nat) : (Op.equal t (.slice a n c) (.slice none m k)).run P w = .ok a.isNone w := by
  unfold Op.equal
  rw [show Op.maxDepth = 9999 + 1 from rfl, Op.equalIn]
  cases a <;> simp [run_und h]
theorem eq_nil {t : TypeId} {m : Array (String × TypeId)} (h : P.underlying t = some (.interface m)) : (Op.equal t .nilIface .nilIface).run P w = .ok true w := by
  unfold Op.equal
  rw [show Op.maxDepth = 9999 + 1 from rfl, Op.equalIn]
  simp [run_und h]
theorem eq_some {t u : TypeId} {v : Value} {m : Array (String × TypeId)} (h : P.underlying t = some (.interface m)) : (Op.equal t (.iface u v) .nilIface).run P w = .ok false w := by
  unfold Op.equal
  rw [show Op.maxDepth = 9999 + 1 from rfl, Op.equalIn]
  simp [run_und h]

theorem ints_ok : ∀ {ds : List D} {is : List Int}, ints ds = some is → ds = is.map (D.int .i64)
  | [], is, h => by simp [ints] at h; subst h; rfl
  | d :: r, is, h => by
    cases d with
    | int k n =>
      cases k <;> simp only [ints] at h <;> try (cases h; done)
      cases hr : ints r with
      | none => rw [hr] at h; cases h
      | some js =>
        rw [hr] at h
        simp at h
        subst h
        rw [ints_ok hr]; rfl
    | _ => simp [ints] at h

theorem agg_ints {is : List Int} {v : Value} (h : DRel w Pr (.agg (is.map (D.int .i64))) v) : v = .agg (is.map (Value.int .i64)).toArray := by
  obtain ⟨cs, rfl, hl, h1, hd⟩ := drel_agg h
  congr 2
  apply List.ext_getElem? 
  intro i
  rw [List.getElem?_map]
  cases hi : is[i]? with
  | none =>
    rw [List.getElem?_eq_none_iff] at hi
    simp at hl
    simp; omega
  | some n =>
    have hlt : i < is.length := (List.getElem?_eq_some_iff.1 hi).1
    simp at hl
    have hc : i < cs.length := by omega
    rw [List.getElem?_eq_getElem hc]
    have := hd i (.int .i64 n) cs[i] (by simp [hi]) (List.getElem?_eq_getElem hc)
    rw [drel_int this]; rfl

theorem bin_str {op : BinOp} {t : TypeId} {a b : ByteArray} {r : V} (h : Hold O s (binStr op a.data.toList b.data.toList) sc r sc') :
    ∃ d : D, r = .d d ∧ ∃ v, (binOp op t (.string a) (.string b)).run P w = .ok v w ∧ DRel w Pr d v := by
  cases op <;> simp only [binStr] at h <;> try exact (hold_fail.1 h).elim
  · have key : a.data.toList.length + b.data.toList.length < 2 ^ 62 ∧ r = .d (.str (a.data.toList ++ b.data.toList)) := by
      rw [hold_pop] at h
      rcases h with ⟨_, h⟩ | ⟨i, u, _, h⟩
      · simp only at h
        split at h
        · rename_i hb; exact ⟨hb, (hold_ret.1 h).1⟩
        · exact (hold_fail.1 h).elim
      · obtain ⟨hb, h⟩ := hold_req.1 h
        exact ⟨hb, (hold_ret.1 h).1⟩
    obtain ⟨hb, rfl⟩ := key
    refine ⟨_, rfl, .string (a ++ b), ?_, by rw [← str_data]; exact .str _⟩
    have hs : ¬ (((a.size + b.size : Nat) : Int) > IntKind.i64.max) := by
      have h1 := bytes_size a
      have h2 := bytes_size b
      simp only [IntKind.max, IntKind.signed, IntKind.bits]
      simp
      omega
    simp only [binOp, Op.stringOp]
    rw [if_neg hs]; rfl
  · have e := hold_popBool h; subst e
    refine ⟨_, rfl, .bool (a.data.toList == b.data.toList), ?_, .bool _⟩
    simp [binOp, Op.stringOp, bytes_toList]
  · have e := hold_popBool h; subst e
    refine ⟨_, rfl, .bool (!(a.data.toList == b.data.toList)), ?_, .bool _⟩
    simp [binOp, Op.stringOp, bytes_toList]

/-- THE OPERATION. -/
theorem binV_ok {op : BinOp} {t : TypeId} {xo yo : Operand} {x y r : V} {a b : Value} (hx : VRel P w Pr vw x a) (hy : VRel P w Pr vw y b) (h : Hold O s (binV P (isConst yo) op t x y) sc r sc') :
    ∃ d : D, r = .d d ∧ ∃ v, (do eqGuard op t xo yo a b; binOp op t a b).run P w = .ok v w ∧ DRel w Pr d v := by
  unfold binV at h
  split at h
  · -- whole numbers
    rename_i k m k' n
    obtain rfl := drel_int (show DRel w Pr (.int k m) a from hx)
    obtain rfl := drel_int (show DRel w Pr (.int k' n) b from hy)
    simp only [Sem.run_bind, guard_int, Result.andThen_ok]
    split at h
    · exact bin_shift (.inl rfl) h
    · exact bin_shift (.inr rfl) h
    · rename_i h1 h2
      split at h
      · rename_i hk; subst hk; exact bin_int (fun e => h1 e) (fun e => h2 e) h
      · exact (hold_fail.1 h).elim
  · -- strings
    obtain ⟨sa, rfl, rfl⟩ := drel_str (show DRel w Pr (.str _) a from hx)
    obtain ⟨sb, rfl, rfl⟩ := drel_str (show DRel w Pr (.str _) b from hy)
    have hg : (eqGuard op t xo yo (.string sa) (.string sb)).run P w = .ok () w := by unfold eqGuard; cases op <;> rfl
    simp only [Sem.run_bind, hg, Result.andThen_ok]
    exact bin_str h
  · -- bools
    rename_i m n
    obtain rfl := drel_bool (show DRel w Pr (.bool m) a from hx)
    obtain rfl := drel_bool (show DRel w Pr (.bool n) b from hy)
    have hg : (eqGuard op t xo yo (.bool m) (.bool n)).run P w = .ok () w := by unfold eqGuard; cases op <;> rfl
    simp only [Sem.run_bind, hg, Result.andThen_ok]
    split at h
    · rename_i hu
      have e := hold_popBool h; subst e
      exact ⟨_, rfl, .bool (m == n), by simp [binOp, eq_bool hu], .bool _⟩
    · rename_i hu
      have e := hold_popBool h; subst e
      exact ⟨_, rfl, .bool (!(m == n)), by simp [binOp, eq_bool hu], .bool _⟩
    · exact (hold_fail.1 h).elim
  · -- structs
    rename_i xs ys
    split at h
    · rename_i is js h1 h2
      split at h
      · rename_i hl
        obtain ⟨hl, hE⟩ := hl
        replace hE := eqOk_of hE
        obtain rfl := ints_ok h1
        obtain rfl := ints_ok h2
        obtain rfl := agg_ints (show DRel w Pr (.agg _) a from hx)
        obtain rfl := agg_ints (show DRel w Pr (.agg _) b from hy)
        obtain ⟨he, hg0⟩ := hE is js w rfl hl.symm
        have hg : (eqGuard op t xo yo (.agg (is.map (Value.int .i64)).toArray) (.agg (js.map (Value.int .i64)).toArray)).run P w = .ok () w := by
          unfold eqGuard
          cases op <;> simp [hg0]
        simp only [Sem.run_bind, hg, Result.andThen_ok]
        split at h
        · have e := hold_popBool h; subst e
          exact ⟨_, rfl, .bool (decide (is = js)), by simp only [binOp, Sem.run_bind, he, Result.andThen_ok, Sem.run_pure], .bool _⟩
        · have e := hold_popBool h; subst e
          exact ⟨_, rfl, .bool (!decide (is = js)), by simp only [binOp, Sem.run_bind, he, Result.andThen_ok, Sem.run_pure], .bool _⟩
        · exact (hold_fail.1 h).elim
      · exact (hold_fail.1 h).elim
    · exact (hold_fail.1 h).elim
  · -- against a nil slice
    obtain rfl : b = .slice none 0 0 := hy
    have key : ∀ q : Bool, nilB x = some q → ∃ p n c, a = .slice p n c ∧ p.isNone = q := by
      intro q hq
      unfold nilB at hq
      split at hq
      · cases hq; exact ⟨none, 0, 0, hx, rfl⟩
      · cases hq; obtain ⟨p, c, rfl⟩ := (show ∃ p c, a = .slice (some p) 0 c from hx); exact ⟨_, _, _, rfl, rfl⟩
      · cases hq
        have hx' : DRel w Pr (.sl (_ :: _)) a := hx
        cases hx' with
        | sl => exact ⟨_, _, _, rfl, rfl⟩
      · cases hq
    have hg : ∀ p n c, (eqGuard op t xo yo (.slice p n c) (.slice none 0 0)).run P w = .ok () w := by intro p n c; unfold eqGuard; cases op <;> rfl
    split at h
    · rename_i q e hq hu
      obtain ⟨p, n, c, rfl, hp⟩ := key _ hq
      obtain ⟨rfl, _⟩ := hold_ret.1 h
      simp only [Sem.run_bind, hg, Result.andThen_ok]
      exact ⟨_, rfl, .bool q, by simp [binOp, eq_slice hu, hp], .bool _⟩
    · rename_i q e hq hu
      obtain ⟨p, n, c, rfl, hp⟩ := key _ hq
      obtain ⟨rfl, _⟩ := hold_ret.1 h
      simp only [Sem.run_bind, hg, Result.andThen_ok]
      exact ⟨_, rfl, .bool (!q), by simp [binOp, eq_slice hu, hp], .bool _⟩
    · exact (hold_fail.1 h).elim
  · -- against a nil interface
    rename_i x
    have hb : b = .nilIface := by have hy' : DRel w Pr .inil b := hy; cases hy'; rfl
    subst hb
    have hx' : DRel w Pr x a := hx
    have key : ∀ q : Bool, inilB x = some q → (a = .nilIface ∧ q = true) ∨ ∃ u v, a = .iface u v ∧ q = false := by
      intro q hq
      unfold inilB at hq
      split at hq
      · cases hq; cases hx'; exact .inl ⟨rfl, rfl⟩
      · cases hq; cases hx'; exact .inr ⟨_, _, rfl, rfl⟩
      · cases hq
    have hc : ∀ {z : Operand}, isConst z = true → ∃ v, z = .const v := by intro z hz; cases z <;> simp [isConst] at hz; exact ⟨_, rfl⟩
    split at h
    · rename_i q m hq hu
      split at h
      · rename_i hcy
        obtain ⟨cv, rfl⟩ := hc hcy
        obtain ⟨rfl, _⟩ := hold_ret.1 h
        refine ⟨_, rfl, .bool q, ?_, .bool _⟩
        rcases key _ hq with ⟨rfl, rfl⟩ | ⟨u, v, rfl, rfl⟩
        · have hg : (eqGuard .eql t xo (.const cv) .nilIface .nilIface).run P w = .ok () w := by unfold eqGuard; cases xo <;> simp
          simp only [Sem.run_bind, hg, Result.andThen_ok]; simp [binOp, eq_nil hu]
        · have hg : (eqGuard .eql t xo (.const cv) (.iface u v) .nilIface).run P w = .ok () w := by unfold eqGuard; simp
          simp only [Sem.run_bind, hg, Result.andThen_ok]; simp [binOp, eq_some hu]
      · exact (hold_fail.1 h).elim
    · rename_i q m hq hu
      split at h
      · rename_i hcy
        obtain ⟨cv, rfl⟩ := hc hcy
        obtain ⟨rfl, _⟩ := hold_ret.1 h
        refine ⟨_, rfl, .bool (!q), ?_, .bool _⟩
        rcases key _ hq with ⟨rfl, rfl⟩ | ⟨u, v, rfl, rfl⟩
        · have hg : (eqGuard .neq t xo (.const cv) .nilIface .nilIface).run P w = .ok () w := by unfold eqGuard; cases xo <;> simp
          simp only [Sem.run_bind, hg, Result.andThen_ok]; simp [binOp, eq_nil hu]
        · have hg : (eqGuard .neq t xo (.const cv) (.iface u v) .nilIface).run P w = .ok () w := by unfold eqGuard; simp
          simp only [Sem.run_bind, hg, Result.andThen_ok]; simp [binOp, eq_some hu]
      · exact (hold_fail.1 h).elim
    · exact (hold_fail.1 h).elim
  · exact (hold_fail.1 h).elim

theorem unV_ok {op : UnOp} {x r : V} {a : Value} (hx : VRel P w Pr vw x a) (h : Hold O s (unV op x) sc r sc') :
    ∃ d : D, r = .d d ∧ ∃ v, (Op.unary op a).run P w = .ok v w ∧ DRel w Pr d v := by
  unfold unV at h
  split at h
  · rename_i m; obtain rfl := drel_bool (show DRel w Pr (.bool m) a from hx)
    have e := hold_popBool h; subst e
    exact ⟨_, rfl, .bool (!m), by simp [Op.unary], .bool _⟩
  · rename_i k n; obtain rfl := drel_int (show DRel w Pr (.int k n) a from hx)
    have e := hold_popInt h; subst e
    exact ⟨_, rfl, _, by simp [Op.unary, Op.intArith], .int _ _⟩
  · rename_i k n; obtain rfl := drel_int (show DRel w Pr (.int k n) a from hx)
    have e := hold_popInt h; subst e
    exact ⟨_, rfl, _, by simp [Op.unary, Op.intBits], .int _ _⟩
  · exact (hold_fail.1 h).elim

end Go.Proofs.Ytbbefbgomdmldaa.Ab
