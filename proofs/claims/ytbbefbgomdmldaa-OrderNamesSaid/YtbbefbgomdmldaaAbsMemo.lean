/- The evaluator with calls that are known already. -/
import Derived.Test.YtbbefbgomdmldaaAbsFun
namespace Go.Proofs.Ytbbefbgomdmldaa.Ab
open Go
set_option linter.unusedVariables false

mutual
def beqD : D → D → Bool
  | .int k n, .int k' n' => decide (k = k') && decide (n = n')
  | .bool a, .bool b => a == b
  | .str a, .str b => a == b
  | .sl a, .sl b => beqDL a b
  | .agg a, .agg b => beqDL a b
  | .inil, .inil => true
  | .iany, .iany => true
  | _, _ => false
def beqDL : List D → List D → Bool
  | [], [] => true
  | x :: xs, y :: ys => beqD x y && beqDL xs ys
  | _, _ => false
end

mutual
theorem beqD_eq : ∀ {a b : D}, beqD a b = true → a = b
  | .int k n, b, h => by cases b <;> simp [beqD] at h; rw [h.1, h.2]
  | .bool a, b, h => by cases b <;> simp [beqD] at h; rw [h]
  | .str a, b, h => by cases b <;> simp [beqD] at h; rw [h]
  | .sl a, b, h => by cases b <;> simp [beqD] at h; rw [beqDL_eq h]
  | .agg a, b, h => by cases b <;> simp [beqD] at h; rw [beqDL_eq h]
  | .inil, b, h => by cases b <;> simp [beqD] at h; rfl
  | .iany, b, h => by cases b <;> simp [beqD] at h; rfl
theorem beqDL_eq : ∀ {a b : List D}, beqDL a b = true → a = b
  | [], b, h => by cases b <;> simp [beqDL] at h; rfl
  | x :: xs, b, h => by
    cases b with
    | nil => simp [beqDL] at h
    | cons y ys => simp [beqDL] at h; rw [beqD_eq h.1, beqDL_eq h.2]
end

/-- Values that may stand in a known call. -/
def beq0 : V → V → Bool
  | .d a, .d b => beqD a b
  | .emp a, .emp b => a == b
  | .nnil, .nnil => true
  | .undef, .undef => true
  | .void, .void => true
  | _, _ => false
theorem beq0_eq {a b : V} (h : beq0 a b = true) : a = b := by
  cases a <;> cases b <;> simp [beq0] at h <;> first | rfl | (rw [beqD_eq h]) | (rw [h])
def beq0L : List V → List V → Bool
  | [], [] => true
  | x :: xs, y :: ys => beq0 x y && beq0L xs ys
  | _, _ => false
theorem beq0L_eq : ∀ {a b : List V}, beq0L a b = true → a = b
  | [], b, h => by cases b <;> simp [beq0L] at h; rfl
  | x :: xs, b, h => by
    cases b with
    | nil => simp [beq0L] at h
    | cons y ys => simp [beq0L] at h; rw [beq0_eq h.1, beq0L_eq h.2]
def beq1 : V → V → Bool
  | .agg a, .agg b => beq0L a b
  | a, b => beq0 a b
theorem beq1_eq {a b : V} (h : beq1 a b = true) : a = b := by
  unfold beq1 at h
  split at h
  · rw [beq0L_eq h]
  · exact beq0_eq h
def beq1L : List V → List V → Bool
  | [], [] => true
  | x :: xs, y :: ys => beq1 x y && beq1L xs ys
  | _, _ => false
theorem beq1L_eq : ∀ {a b : List V}, beq1L a b = true → a = b
  | [], b, h => by cases b <;> simp [beq1L] at h; rfl
  | x :: xs, b, h => by
    cases b with
    | nil => simp [beq1L] at h
    | cons y ys => simp [beq1L] at h; rw [beq1_eq h.1, beq1L_eq h.2]

/-- A call without blocks that is known. -/
structure Known1 where
  f : Nat
  as : List V
  r : V

def look : List Known1 → Nat → List V → Option V
  | [], _, _ => none
  | e :: t, f, as => if e.f = f then (if beq1L e.as as then some e.r else look t f as) else look t f as

variable {P : Program} {wr : Nat → Bool} {lits : Nat → Bool}

def TabOk (P : Program) : List Known1 → Prop
  | [] => True
  | e :: t => ICall P e.f e.as [] e.r [] ∧ TabOk P t

theorem look_ok : ∀ {tab : List Known1}, TabOk P tab → ∀ {f : Nat} {as : List V} {r : V}, look tab f as = some r → ICall P f as [] r []
  | [], _, f, as, r, h => by simp [look] at h
  | e :: t, ht, f, as, r, h => by
    simp only [look] at h
    split at h
    · rename_i hf
      split at h
      · rename_i ha
        cases h
        subst hf
        rw [← beq1L_eq ha]
        exact ht.1
      · exact look_ok ht.2 h
    · exact look_ok ht.2 h

def evT (P : Program) (wr : Nat → Bool) (lits : Nat → Bool) (tab : List Known1) : Nat → Orc
  | 0 => fun _ _ _ => none
  | n + 1 => fun f as bs => match bs, look tab f as with
    | [], some r => some (r, [])
    | _, _ => match P.funcs[f]? with
      | some fn => match fn.body with
        | some c => match ev P wr (ICall P) (lits f) (evT P wr lits tab n) 100000 c (entry fn as bs) none with
          | some (.ret, s, _, []) => finish P fn bs.length s
          | some (.normal, s, _, []) => finish P fn bs.length s
          | _ => none
        | none => none
      | none => none

theorem evT_ok {tab : List Known1} (hm : P.follows .mixedOrders = true) (ht : TabOk P tab) : ∀ n, OrcOk P (evT P wr lits tab n)
  | 0 => fun f as bs r bs' h => by simp [evT] at h
  | n + 1 => fun f as bs r bs' h => by
    simp only [evT] at h
    split at h
    · rename_i r0 hl
      cases h
      exact look_ok ht hl
    · split at h
      · rename_i fn hf
        split at h
        · rename_i c hb
          split at h
          · rename_i s sc he
            exact icall_of_ev (evT_ok hm ht n) hm hf hb he (.inl rfl) (by simp) h
          · rename_i s sc he
            exact icall_of_ev (evT_ok hm ht n) hm hf hb he (.inr rfl) (by simp) h
          · cases h
        · cases h
      · cases h

end Go.Proofs.Ytbbefbgomdmldaa.Ab
