/- Literals of slices; what only makes a value, as operations. -/
import Derived.Test.YtbbefbgomdmldaaAbsOpN
namespace Go.Proofs.Ytbbefbgomdmldaa.Ab
open Go
set_option linter.unusedVariables false
set_option linter.unusedSimpArgs false

variable {P : Program} {O : Orc} {s : St} {sc sc' : Script} {w w' : World} {Pr Pr' : Nat → Prop} {vw vw' : Nat → Option VW} {bl : List B} {μ : List CB} {a : Act}
  {wr : Nat → Bool} {IC : Nat → List V → List B → V → List B → Prop} {lit : Bool} {p : Patch} {Q : Exit → Act → World → Prop}

theorem all2_replicate {R : V → Value → Prop} {cs : List V} {us : List Value} (h : All2 R cs us) : ∀ n : Nat, All2 R (List.replicate n cs).flatten (List.replicate n us).flatten
  | 0 => trivial
  | n + 1 => by rw [List.replicate_succ, List.replicate_succ, List.flatten_cons, List.flatten_cons]; exact h.append (all2_replicate h n)

theorem fold_size (off : Nat) : ∀ (vs : List (Value × Nat)) (cs : Array Value), (vs.foldl (fun cs (x : Value × Nat) => cs.setIfInBounds (off + x.2) x.1) cs).size = cs.size
  | [], cs => rfl
  | v :: r, cs => by rw [List.foldl_cons, fold_size off r]; simp

theorem fill_len {places : Nat → Option (Nat × Nat)} : ∀ {parts : List (Nat × Value)} {us us' : Array Value}, Instr.fill places us parts = some us' → us'.size = us.size
  | [], us, us', h => by simp [Instr.fill] at h; rw [h]
  | (i, v) :: r, us, us', h => by
    simp only [Instr.fill] at h
    split at h
    · cases h
    · split at h
      · cases h
      · rw [fill_len h, ← Array.foldl_toList, fold_size]

theorem op_buildSlice {o : Oper} {t : TypeId} {len : Nat} {parts : Array (Nat × Operand)} (hR : Rel P s a w μ Pr) (ho : o.op = .buildSlice t len parts) (h : Hold O s (evOp P wr IC lit o) sc p sc') :
    o.wp P a w (After P (p.apply s) μ Pr w) Q := by
  have hmi : maxItems = 1099511627776 := by decide
  simp only [evOp, ho] at h
  split at h
  · rename_i e sz z he hsz hz
    rw [he, Option.bind_some] at hsz hz
    obtain ⟨l, sc1, h1, h2⟩ := hold_bind.1 h
    have hp := plainParts_ok hR h1
    obtain ⟨zv, hzr, hza⟩ := zeroC_ok (P := P) (w := w) (Pr := Pr) (vw := view s.blks μ) hz
    have hzl := hza.length
    simp only [Array.length_toList] at hzl
    have pl : (parts.map fun x => (x.1, a.eval x.2)).toList = parts.toList.map fun x => (x.1, a.eval x.2) := by simp
    split at h2
    · -- an empty one
      rename_i hlen
      subst hlen
      split at h2
      · exact (hold_fail.1 h2).elim
      rename_i hc
      simp only [not_or, Bool.not_eq_false, ne_eq, Decidable.not_not] at hc
      have hpe : parts = #[] := Array.size_eq_zero_iff.1 hc.1
      have hrun : (execOp a.eval o).run P w = .ok (.value (.slice (some ⟨w.heap.size, 0, none⟩) 0 0)) { w with heap := w.heap.push (.cells #[] e) } := by
        have hr0 : ∀ f : Nat → Value, Array.map f (Array.range 0) = #[] := fun f => by simp [Array.range]
        subst hpe
        simp only [execOp, ho, Instr.buildSlice, Sem.run_bind, run_und (elemOf_und he), Result.andThen_ok, run_szOf hsz, Nat.zero_mul, Sem.run_pure, hr0]
        rw [if_neg (by decide)]
        simp only [Array.map_empty, Instr.fill, newRow, if_true, Sem.run_bind, run_newObj, Sem.run_pure, Result.andThen_ok]
      have fin : Hold O s (.ret (putP o.dst (.emp false)) : Ab.Q Patch) sc' p sc' → o.wp P a w (After P (p.apply s) μ Pr w) Q := by
        intro h
        obtain ⟨rfl, _⟩ := hold_ret.1 h
        exact goes_put hR (quiet_new w Pr _) hrun (r := .emp false) (show ∃ q, Value.slice (some ⟨w.heap.size, 0, none⟩) 0 0 = .slice q 0 0 from ⟨_, rfl⟩)
      rw [hold_pop] at h2
      rcases h2 with ⟨_, h2⟩ | ⟨it, u, _, h2⟩
      · exact fin (hold_ret.2 ⟨(hold_ret.1 h2).1, rfl⟩)
      · split at h2
        · rw [hold_nblk] at h2
          obtain ⟨rfl, _⟩ := hold_ret.1 h2
          exact goes_newList (t := t) hR hsz (Nat.zero_le _) rfl (by simp) (by simp) (by simp) hrun
        · exact fin (hold_ret.2 ⟨(hold_ret.1 h2).1, rfl⟩)
    · split at h2
      · exact (hold_fail.1 h2).elim
      · rename_i hlen hc
        simp only [not_or] at hc
        obtain ⟨hc1, hc2, hc3⟩ := hc
        have hc2 : z.length = sz := by omega
        split at h2
        · rename_i cs hf
          obtain ⟨us, g1, g2⟩ := fill_ok (us := (Array.range (len * sz)).map (fun i => zv.cells[i % zv.cells.size]!)) (places' := fun i => some (i * sz, sz)) rfl (parts' := (parts.map fun x => (x.1, a.eval x.2)).toList) (by rw [pl]; exact hp)
            (by rw [← hc2, hzl, zero_cells]; exact all2_replicate hza len) hf
          split at h2
          · rename_i xs hx
            have husz : us.toList.length = len * sz := by
              have := fill_len g1
              rw [Array.length_toList, this]; simp
            obtain ⟨k1, k2⟩ := chunk_ok (by omega) g2 husz hx
            have hone : ∀ u ∈ us.toList, u.oneCell' = true := fun u hu => by
              obtain ⟨j, hj⟩ := List.getElem?_of_mem hu
              have hlt : j < cs.length := by rw [g2.length]; exact (List.getElem?_eq_some_iff.1 hj).1
              obtain ⟨y, hy, h1⟩ := g2.get j cs[j] (List.getElem?_eq_getElem hlt)
              rw [hj] at hy; cases hy; exact h1.2
            have hn0 : len * sz ≠ 0 := Nat.mul_ne_zero hlen hc3
            have hrun : (execOp a.eval o).run P w = .ok (.value (.slice (some ⟨w.heap.size, 0, none⟩) len len)) { w with heap := w.heap.push (.cells us e) } := by
              simp only [execOp, ho, Instr.buildSlice, Sem.run_bind, run_und (elemOf_und he), Result.andThen_ok, run_szOf hsz, if_neg hc1, Sem.run_pure, if_neg hn0, hzr]
              rw [g1]
              simp only [Sem.run_bind, newRow, run_newObj, Result.andThen_ok, Sem.run_pure]
            rw [hold_pop] at h2
            have fin : ∀ {b : Bool} {sc : Script}, Hold O s (if b = true then (if rowOk P e = true then .nblk fun n => .ret { putP o.dst (.arr n) with push := [.lst e xs] } else .fail) else .ret (putP o.dst (.d (.sl xs))) : Ab.Q Patch) sc p sc' →
                o.wp P a w (After P (p.apply s) μ Pr w) Q := by
              intro b sc h
              split at h
              · split at h
                · rw [hold_nblk] at h
                  obtain ⟨rfl, _⟩ := hold_ret.1 h
                  have hlm : len ≤ maxItems := by
                    have : len * 1 ≤ len * sz := Nat.mul_le_mul_left _ (by omega)
                    rw [Nat.mul_one] at this
                    omega
                  exact goes_newList (t := t) hR hsz hlm k1 (by rw [← Array.length_toList]; exact husz) hone k2 hrun
                · exact (hold_fail.1 h).elim
              · obtain ⟨rfl, _⟩ := hold_ret.1 h
                exact goes_newData hR k1 hone k2 hrun
            rcases h2 with ⟨_, h2⟩ | ⟨it, u, _, h2⟩ <;> exact fin h2
          · exact (hold_fail.1 h2).elim
        · exact (hold_fail.1 h2).elim
  · exact (hold_fail.1 h).elim

end Go.Proofs.Ytbbefbgomdmldaa.Ab
