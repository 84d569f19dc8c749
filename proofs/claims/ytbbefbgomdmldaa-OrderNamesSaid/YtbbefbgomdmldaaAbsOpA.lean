/- Operations that only make a value: what the abstract machine says is what the model does. -/
import Derived.Test.YtbbefbgomdmldaaAbsUpd
namespace Go.Proofs.Ytbbefbgomdmldaa.Ab
open Go
set_option linter.unusedVariables false
set_option linter.unusedSimpArgs false

/-- It runs so, and its conditions hold. -/
def Hold {α : Type} (O : Orc) (s : St) (q : Q α) (sc : Script) (r : α) (sc' : Script) : Prop := ∃ ps, q.run O s sc = some (r, sc', ps) ∧ ∀ p ∈ ps, p

section hold
variable {α β : Type} {O : Orc} {s : St} {sc sc' : Script} {r : α}

theorem hold_ret {a : α} : Hold O s (.ret a) sc r sc' ↔ r = a ∧ sc' = sc := by
  constructor
  · rintro ⟨ps, h, _⟩; simp [Q.run] at h; exact ⟨h.1.symm, h.2.1.symm⟩
  · rintro ⟨rfl, rfl⟩; exact ⟨[], rfl, by simp⟩
theorem hold_fail : Hold O s (.fail : Q α) sc r sc' ↔ False := ⟨fun ⟨_, h, _⟩ => by simp [Q.run] at h, False.elim⟩
theorem hold_slot {n : Nat} {k : V → Q α} : Hold O s (.slot n k) sc r sc' ↔ Hold O s (k (s.slot n)) sc r sc' := Iff.rfl
theorem hold_blk {n : Nat} {k : B → Q α} : Hold O s (.blk n k) sc r sc' ↔ Hold O s (k (s.blk n)) sc r sc' := Iff.rfl
theorem hold_shp {n : Nat} {k : BS → Q α} : Hold O s (.shp n k) sc r sc' ↔ Hold O s (k (s.blk n).shape) sc r sc' := Iff.rfl
theorem shape_lst {b : B} {e n : Nat} (h : b.shape = .lst e n) : ∃ xs, b = .lst e xs ∧ xs.length = n := by
  cases b <;> simp [B.shape] at h
  exact ⟨_, by rw [h.1], h.2⟩
theorem shape_lst2 {b : B} {e n : Nat} (h : b.shape = .lst2 e n) : ∃ xs, b = .lst2 e xs ∧ xs.length = n := by
  cases b <;> simp [B.shape] at h
  exact ⟨_, by rw [h.1], h.2⟩
theorem hold_nblk {k : Nat → Q α} : Hold O s (.nblk k) sc r sc' ↔ Hold O s (k s.blks.length) sc r sc' := Iff.rfl
theorem hold_req {p : Prop} {k : Q α} : Hold O s (.req p k) sc r sc' ↔ p ∧ Hold O s k sc r sc' := by
  constructor
  · rintro ⟨ps, h, hp⟩
    simp only [Q.run] at h
    split at h
    · rename_i a sc1 qs he
      simp only [Option.some.injEq, Prod.mk.injEq] at h
      obtain ⟨rfl, rfl, rfl⟩ := h
      exact ⟨hp p (List.mem_cons_self ..), qs, he, fun q hq => hp q (List.mem_cons_of_mem _ hq)⟩
    · cases h
  · rintro ⟨hp, ps, h, hps⟩
    exact ⟨p :: ps, by simp [Q.run, h], fun q hq => by rcases List.mem_cons.1 hq with rfl | hq; exact hp; exact hps q hq⟩
theorem hold_pop {k : Option It → Q α} : Hold O s (.pop k) sc r sc' ↔ (sc = none ∧ Hold O s (k none) none r sc') ∨ ∃ i t, sc = some (i :: t) ∧ Hold O s (k (some i)) (some t) r sc' := by
  cases sc with
  | none => simp [Hold, Q.run]
  | some l => cases l with
    | nil => simp [Hold, Q.run]
    | cons i t =>
      constructor
      · intro h; exact .inr ⟨i, t, rfl, h⟩
      · rintro (⟨h, _⟩ | ⟨i', t', h, h'⟩)
        · cases h
        · cases h; exact h'
theorem hold_call {f : Nat} {as : List V} {bs : List B} {k : V → List B → Q α} : Hold O s (.call f as bs k) sc r sc' ↔ ∃ x bs', O f as bs = some (x, bs') ∧ Hold O s (k x bs') sc r sc' := by
  constructor
  · rintro ⟨ps, h, hp⟩
    simp only [Q.run] at h
    split at h
    · rename_i x bs' he; exact ⟨x, bs', he, ps, h, hp⟩
    · cases h
  · rintro ⟨x, bs', he, ps, h, hp⟩
    exact ⟨ps, by simp [Q.run, he, h], hp⟩

theorem hold_bind {q : Q α} {f : α → Q β} {x : β} : ∀ {sc : Script}, Hold O s (q.bind f) sc x sc' ↔ ∃ a sc1, Hold O s q sc a sc1 ∧ Hold O s (f a) sc1 x sc' := by
  induction q with
  | ret a => intro sc; simp only [Q.bind, hold_ret]; exact ⟨fun h => ⟨a, sc, ⟨rfl, rfl⟩, h⟩, fun ⟨_, _, ⟨e1, e2⟩, h⟩ => by subst e1; subst e2; exact h⟩
  | fail => intro sc; simp [Q.bind, hold_fail]
  | slot n k ih => intro sc; simp only [Q.bind, hold_slot]; exact ih _
  | blk n k ih => intro sc; simp only [Q.bind, hold_blk]; exact ih _
  | shp n k ih => intro sc; simp only [Q.bind, hold_shp]; exact ih _
  | nblk k ih => intro sc; simp only [Q.bind, hold_nblk]; exact ih _
  | req p k ih =>
    intro sc
    simp only [Q.bind, hold_req, ih]
    constructor
    · rintro ⟨hp, a, sc1, h1, h2⟩; exact ⟨a, sc1, ⟨hp, h1⟩, h2⟩
    · rintro ⟨a, sc1, ⟨hp, h1⟩, h2⟩; exact ⟨hp, a, sc1, h1, h2⟩
  | pop k ih =>
    intro sc
    simp only [Q.bind, hold_pop, ih]
    constructor
    · rintro (⟨h, a, sc1, h1, h2⟩ | ⟨i, t, h, a, sc1, h1, h2⟩)
      · exact ⟨a, sc1, .inl ⟨h, h1⟩, h2⟩
      · exact ⟨a, sc1, .inr ⟨i, t, h, h1⟩, h2⟩
    · rintro ⟨a, sc1, (⟨h, h1⟩ | ⟨i, t, h, h1⟩), h2⟩
      · exact .inl ⟨h, a, sc1, h1, h2⟩
      · exact .inr ⟨i, t, h, a, sc1, h1, h2⟩
  | call g as bs k ih =>
    intro sc
    simp only [Q.bind, hold_call, ih]
    constructor
    · rintro ⟨y, bs', h, a, sc1, h1, h2⟩; exact ⟨a, sc1, ⟨y, bs', h, h1⟩, h2⟩
    · rintro ⟨a, sc1, ⟨y, bs', h, h1⟩, h2⟩; exact ⟨y, bs', h, a, sc1, h1, h2⟩
end hold

variable {P : Program} {O : Orc} {s : St} {sc sc' : Script} {w : World} {Pr : Nat → Prop} {vw : Nat → Option VW}

theorem hold_popInt {v : Int} {k : IntKind} {r : V} (h : Hold O s (popInt v k) sc r sc') : r = .d (.int k v) := by
  unfold popInt at h
  rw [hold_pop] at h
  rcases h with ⟨_, h⟩ | ⟨i, t, _, h⟩
  · exact (hold_ret.1 h).1
  · cases i <;> first | exact (hold_ret.1 h).1 | (obtain ⟨rfl, h⟩ := hold_req.1 h; exact (hold_ret.1 h).1)
theorem hold_popBool {v : Bool} {r : V} (h : Hold O s (popBool v) sc r sc') : r = .d (.bool v) := by
  unfold popBool at h
  rw [hold_pop] at h
  rcases h with ⟨_, h⟩ | ⟨i, t, _, h⟩
  · exact (hold_ret.1 h).1
  · cases i <;> first | exact (hold_ret.1 h).1 | (obtain ⟨rfl, h⟩ := hold_req.1 h; exact (hold_ret.1 h).1)

/-! ### what a datum's value is -/

theorem drel_int {k : IntKind} {n : Int} {v : Value} (h : DRel w Pr (.int k n) v) : v = .int k n := by cases h; rfl
theorem drel_bool {b : Bool} {v : Value} (h : DRel w Pr (.bool b) v) : v = .bool b := by cases h; rfl
theorem drel_str {l : List UInt8} {v : Value} (h : DRel w Pr (.str l) v) : ∃ t : ByteArray, v = .string t ∧ t.data.toList = l := by cases h; exact ⟨_, rfl, rfl⟩
theorem drel_agg {ds : List D} {v : Value} (h : DRel w Pr (.agg ds) v) : ∃ cs : List Value, v = .agg cs.toArray ∧ ds.length = cs.length ∧ (∀ v ∈ cs, v.oneCell' = true) ∧ ∀ (j : Nat) (d : D) (v : Value), ds[j]? = some d → cs[j]? = some v → DRel w Pr d v := by
  cases h with | agg _ cs hl h1 hd => exact ⟨cs, rfl, hl, h1, hd⟩

theorem bytes_toList (x : ByteArray) : x.toList = x.data.toList := by
  have key : ∀ (n i : Nat) (r : List UInt8), n = x.size - i → ByteArray.toList.loop x i r = r.reverse ++ x.data.toList.drop i := by
    intro n
    induction n with
    | zero =>
      intro i r hn
      rw [ByteArray.toList.loop]
      have hs : x.data.toList.length = x.size := by simp
      rw [if_neg (by omega), List.drop_of_length_le (by omega), List.append_nil]
    | succ n ih =>
      intro i r hn
      rw [ByteArray.toList.loop, if_pos (by omega), ih (i + 1) _ (by omega)]
      have hs : x.data.toList.length = x.size := by simp
      have hi : i < x.data.toList.length := by omega
      rw [List.drop_eq_getElem_cons hi, List.reverse_cons, List.append_assoc]
      congr 1
      have hi' : i < x.data.size := by simpa using hi
      simp [ByteArray.get!, getElem!_pos x.data i hi']
  simpa [ByteArray.toList] using key _ 0 [] rfl

theorem str_data (a b : ByteArray) : (a ++ b).data.toList = a.data.toList ++ b.data.toList := by
  rw [ByteArray.data_append, Array.toList_append]

theorem str_ext {a b : ByteArray} (h : a.data.toList = b.data.toList) : a = b := by
  cases a; cases b; simp at h; cases h; rfl

theorem bytes_size (a : ByteArray) : a.size = a.data.toList.length := by simp

/-! ### binary operations -/

theorem guard_int (op : BinOp) (t : TypeId) (x y : Operand) (k k' : IntKind) (a b : Int) : (eqGuard op t x y (.int k a) (.int k' b)).run P w = .ok () w := by
  unfold eqGuard; cases op <;> rfl

theorem bin_int {op : BinOp} {t : TypeId} {k : IntKind} {a b : Int} {r : V} (h1 : op ≠ .shl) (h2 : op ≠ .shr) (h : Hold O s (binInt op k a b) sc r sc') :
    ∃ d : D, r = .d d ∧ ∃ v, (binOp op t (.int k a) (.int k b)).run P w = .ok v w ∧ DRel w Pr d v := by
  cases op <;> simp only [binInt] at h <;> first
    | exact (h1 rfl).elim
    | exact (h2 rfl).elim
    | exact (hold_fail.1 h).elim
    | (have e := hold_popInt h; subst e; refine ⟨_, rfl, _, ?_, .int _ _⟩; simp [binOp, Op.intArith, Op.intBits]; done)
    | (have e := hold_popBool h; subst e; refine ⟨_, rfl, _, ?_, .bool _⟩; simp [binOp, Op.intCmp]; done)
    | (split at h <;> first
        | exact (hold_fail.1 h).elim
        | (rename_i hb
           have e := hold_popInt h; subst e; refine ⟨_, rfl, _, ?_, .int _ _⟩; simp [binOp, Op.intDiv, hb]; done))

theorem bin_shift {op : BinOp} {t : TypeId} {k k' : IntKind} {a b : Int} {r : V} (h1 : op = .shl ∨ op = .shr) (h : Hold O s (shiftInt op k a b) sc r sc') :
    ∃ d : D, r = .d d ∧ ∃ v, (binOp op t (.int k a) (.int k' b)).run P w = .ok v w ∧ DRel w Pr d v := by
  unfold shiftInt at h
  split at h
  · exact (hold_fail.1 h).elim
  · rename_i hb
    rcases h1 with rfl | rfl <;> (simp only at h; have e := hold_popInt h; subst e; refine ⟨_, rfl, _, ?_, .int _ _⟩; simp [binOp, Op.shift, hb])

end Go.Proofs.Ytbbefbgomdmldaa.Ab
