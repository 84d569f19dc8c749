/- Operands; conversions, slices, literals. -/
import Derived.Test.YtbbefbgomdmldaaAbsOpD
namespace Go.Proofs.Ytbbefbgomdmldaa.Ab
open Go
set_option linter.unusedVariables false
set_option linter.unusedSimpArgs false

variable {P : Program} {O : Orc} {s : St} {sc sc' : Script} {w : World} {Pr : Nat → Prop} {vw : Nat → Option VW} {bl : List B} {μ : List CB}

theorem constV_ok {c : Value} {v : V} (h : constV c = some v) : VRel0 P w Pr vw v c ∧ c.oneCell' = true := by
  unfold constV at h
  split at h <;> cases h
  · exact ⟨DRel.int _ _, rfl⟩
  · exact ⟨DRel.bool _, rfl⟩
  · exact ⟨DRel.str _, rfl⟩
  · exact ⟨DRel.inil, rfl⟩
  · exact ⟨rfl, rfl⟩
  · exact ⟨trivial, rfl⟩
  · exact ⟨trivial, rfl⟩
theorem constC_ok : ∀ {cs : List Value} {vs : List V}, constC cs = some vs → All2 (fun v u => VRel0 P w Pr vw v u ∧ u.oneCell' = true) vs cs
  | [], vs, h => by simp [constC] at h; subst h; trivial
  | c :: r, vs, h => by
    simp only [constC] at h
    split at h
    · rename_i x y h1 h2; cases h; exact ⟨constV_ok h1, constC_ok h2⟩
    · cases h
theorem constVA_ok {c : Value} {v : V} (h : constVA c = some v) : VRel P w Pr vw v c := by
  unfold constVA at h
  split at h
  · rename_i cs
    simp only [Option.map_eq_some_iff] at h
    obtain ⟨vs, hv, rfl⟩ := h
    have := mkAgg_ok (P := P) (w := w) (Pr := Pr) (vw := vw) (constC_ok hv)
    simpa using this
  · exact (constV_ok h).1.toV

theorem slot_ok {a : Act} (hR : Rel P s a w μ Pr) (n : Nat) : VRel P w Pr (view s.blks μ) (s.slot n) (a.tmps.getD n undef) := by
  unfold St.slot
  cases h : s.slots[n]? with
  | none => exact trivial
  | some v => exact hR.slots n v h

theorem opd_ok {a : Act} (hR : Rel P s a w μ Pr) {x : Operand} {v : V} (h : Hold O s (opd x) sc v sc') : VRel P w Pr (view s.blks μ) v (a.eval x) := by
  cases x with
  | tmp t => rw [opd, hold_slot] at h; obtain ⟨rfl, _⟩ := hold_ret.1 h; exact slot_ok hR t
  | const c =>
    simp only [opd] at h
    split at h
    · rename_i u hu; obtain ⟨rfl, _⟩ := hold_ret.1 h; exact constVA_ok hu
    · exact (hold_fail.1 h).elim
  | func f => obtain ⟨rfl, _⟩ := hold_ret.1 h; exact ⟨[], rfl, trivial⟩
  | global g => exact (hold_fail.1 h).elim
theorem opds_ok {a : Act} (hR : Rel P s a w μ Pr) : ∀ {xs : List Operand} {vs : List V} {sc sc' : Script}, Hold O s (opds xs) sc vs sc' → All2 (VRel P w Pr (view s.blks μ)) vs (xs.map a.eval)
  | [], vs, sc, sc', h => by obtain ⟨rfl, _⟩ := hold_ret.1 h; trivial
  | x :: r, vs, sc, sc', h => by
    obtain ⟨v, sc1, h1, h2⟩ := hold_bind.1 h
    obtain ⟨vs', sc2, h3, h4⟩ := hold_bind.1 h2
    obtain ⟨rfl, _⟩ := hold_ret.1 h4
    exact ⟨opd_ok hR h1, opds_ok hR h3⟩

/-! ### conversions that make no memory -/

theorem unU8_ok : ∀ {xs : List D} {l : List UInt8}, unU8 xs = some l → xs = l.map u8
  | [], l, h => by simp [unU8] at h; subst h; rfl
  | x :: r, l, h => by
    cases x with
    | int k n =>
      cases k <;> simp only [unU8] at h <;> try (cases h; done)
      split at h
      · rename_i hb
        simp only [Option.map_eq_some_iff] at h
        obtain ⟨l', h', rfl⟩ := h
        simp only [List.map_cons]
        rw [unU8_ok h']
        congr 1
        simp only [u8]
        have : (UInt8.ofNat n.toNat).toNat = n.toNat := by simp; omega
        rw [this]; congr 1; omega
      · cases h
    | _ => simp [unU8] at h

theorem bytes_fold (l : List UInt8) : ∀ (acc : ByteArray), l.foldl (fun s b => s.push b) acc = ⟨acc.data ++ l.toArray⟩ := by
  induction l with
  | nil => intro acc; simp
  | cons x r ih =>
    intro acc
    rw [List.foldl_cons, ih]
    congr 1
    simp [ByteArray.push]

theorem push_cells (f : Value → ByteArray → Sem (ForInStep ByteArray)) (hf : ∀ (n : Int) (r : ByteArray), (f (.int .u8 n) r).run P w = .ok (.yield (r.push (UInt8.ofNat n.toNat))) w) :
    ∀ (l : List UInt8) (acc : ByteArray), (forIn (l.map (fun b => Value.int .u8 b.toNat)) acc f).run P w = .ok ⟨acc.data ++ l.toArray⟩ w
  | [], acc => by simp
  | x :: r, acc => by
    have := push_cells f hf r (acc.push x)
    simp only [List.map_cons, List.forIn_cons, Sem.run_bind, hf, Result.andThen_ok, Int.toNat_natCast, UInt8.ofNat_toNat]
    rw [this]
    simp [ByteArray.push]

/-- Memory has grown, at most by blocks that nobody writes. -/
structure Quiet (w : World) (Pr : Nat → Prop) (w' : World) (Pr' : Nat → Prop) : Prop where
  os : w'.os = w.os
  tape : w'.tape = w.tape
  output : w'.output = w.output
  size : w.heap.size ≤ w'.heap.size
  block : ∀ k, k < w.heap.size → w'.heap[k]? = w.heap[k]?
  prm : ∀ b, Pr b → Pr' b
  prn : ∀ b, Pr' b → Pr b ∨ (w.heap.size ≤ b ∧ b < w'.heap.size)

theorem Quiet.refl (w : World) (Pr : Nat → Prop) : Quiet w Pr w Pr := ⟨rfl, rfl, rfl, Nat.le_refl _, fun _ _ => rfl, fun _ h => h, fun _ h => .inl h⟩
theorem Quiet.evo {w' : World} {Pr' : Nat → Prop} (h : Quiet w Pr w' Pr') (O : List Nat) : Evo O Pr w O Pr' w' :=
  ⟨h.os, h.tape, h.output, h.size, fun k hk _ => h.block k hk, fun _ h => .inl h, h.prm, fun b hb => (h.prn b hb).imp_right fun h => .inr h.1⟩
theorem Quiet.rel {a : Act} {w' : World} {Pr' : Nat → Prop} (hq : Quiet w Pr w' Pr') (h : Rel P s a w μ Pr) : Rel P s a w' μ Pr' :=
  h.grow P (hq.evo _) hq.block (fun b hb hp => by
    rcases hq.prn b hp with h1 | h1
    · exact (h.lt b hb).2 h1
    · have := (h.lt b hb).1; omega) (fun b hb => by
    rcases hq.prn b hb with h1 | h1
    · exact Nat.lt_of_lt_of_le (h.pr b h1) hq.size
    · exact h1.2)

/-- New cells that nobody writes. -/
theorem quiet_new (w : World) (Pr : Nat → Prop) (o : Obj) : Quiet w Pr { w with heap := w.heap.push o } (fun b => Pr b ∨ b = w.heap.size) := by
  refine ⟨rfl, rfl, rfl, by simp, fun k hk => ?_, fun _ h => .inl h, fun b hb => hb.imp_right fun e => ⟨by omega, by simp; omega⟩⟩
  show (w.heap.push o)[k]? = _
  rw [Array.getElem?_push, if_neg (by omega)]

theorem quiet_drawn {w' : World} {Pr' : Nat → Prop} (h : Quiet w Pr w' Pr') (n : Nat) : Quiet w Pr { w' with drawn := n } Pr' := ⟨h.os, h.tape, h.output, h.size, h.block, h.prm, h.prn⟩
theorem quiet_drawn' {n : Nat} {w' : World} {Pr' : Nat → Prop} (h : Quiet { w with drawn := n } Pr w' Pr') : Quiet w Pr w' Pr' := ⟨h.os, h.tape, h.output, h.size, h.block, h.prm, h.prn⟩

theorem run_stringToBytes (e : TypeId) (q : ByteArray) (w : World) (Pr : Nat → Prop) : ∃ v w' Pr', (Conv.stringToBytes e q).run P w = .ok v w' ∧ Quiet w Pr w' Pr' ∧ DRel w' Pr' (.sl (q.data.toList.map u8)) v := by
  let cap := (Question.appendCap q.size 0 e).cut (w.tape w.drawn (.appendCap q.size 0 e))
  have hcap : q.size ≤ cap := by simp [cap, Question.cut]
  let cells : Array Value := (q.data.map fun b => .int .u8 b.toNat) ++ Array.replicate (cap - q.size) (.int .u8 0)
  let w1 : World := { w with drawn := w.drawn + 1, heap := w.heap.push (.cells cells e) }
  let w2 : World := w1.freeze ⟨w.heap.size, cells.size, none⟩ 1
  have hsh : w1.shape? w.heap.size = some (e, cells.size) := by simp [World.shape?, w1]
  have hrun : (Conv.stringToBytes e q).run P w = .ok (.slice (some ⟨w.heap.size, 0, none⟩) q.size cap) w2 := by
    have e1 : (Conv.stringToBytes e q).run P w = (markStringish ⟨w.heap.size, 0, none⟩ >>= fun _ => (pure (.slice (some ⟨w.heap.size, 0, none⟩) q.size cap) : Sem Value)).run P w1 := rfl
    rw [e1]
    simp only [markStringish, Sem.run_bind, run_shape, hsh, Result.andThen_ok, run_freeze, Sem.run_pure]
    rfl
  have hheap : w2.heap[w.heap.size]? = some (.cells cells e (cells.size, cells.size + 1)) := by
    have hw1 : w1.heap[w.heap.size]? = some (.cells cells e (0, 0)) := by
      show (w.heap.push (Obj.cells cells e))[w.heap.size]? = _
      simp
    show (w1.heap.modify w.heap.size _)[w.heap.size]? = _
    rw [Array.getElem?_modify, if_pos rfl, hw1]
    rfl
  have hold : ∀ k, k < w.heap.size → w2.heap[k]? = w.heap[k]? := by
    intro k hk
    show (w1.heap.modify w.heap.size _)[k]? = _
    rw [Array.getElem?_modify, if_neg (by omega)]
    show (w.heap.push (Obj.cells cells e))[k]? = _
    rw [Array.getElem?_push, if_neg (by omega)]
  have hsize : w2.heap.size = w.heap.size + 1 := by
    show (w1.heap.modify w.heap.size _).size = _
    rw [Array.size_modify]
    show (w.heap.push _).size = _
    simp
  refine ⟨_, w2, fun b => Pr b ∨ b = w.heap.size, hrun, ⟨rfl, rfl, rfl, by omega, hold, fun _ h => .inl h, fun b hb => hb.imp_right fun h => ⟨by omega, by omega⟩⟩, ?_⟩
  have hl : (q.data.toList.map u8).length = q.size := by simp
  rw [← hl]
  refine drel_of_reads (wd := 1) (Pr' := Pr) (.inr rfl) (by rw [hl]; exact hcap) ⟨fun i x hx => ?_, fun i x j y hx hy => ?_⟩
  · rw [List.getElem?_map, Option.map_eq_some_iff] at hx
    obtain ⟨b, _, rfl⟩ := hx; rfl
  · rw [List.getElem?_map, Option.map_eq_some_iff] at hx
    obtain ⟨b, hb, rfl⟩ := hx
    have hj : j = 0 ∧ y = u8 b := by
      simp only [u8, D.cells] at hy
      cases j with
      | zero => simp at hy; exact ⟨rfl, by simp [u8, hy]⟩
      | succ j => simp at hy
    obtain ⟨rfl, rfl⟩ := hj
    refine ⟨.int .u8 b.toNat, ?_, rfl, .int _ _⟩
    rw [cell_of_cells hheap]
    have hi : i < q.data.size := by have := (List.getElem?_eq_some_iff.1 hb).1; simpa using this
    have hlt : i < (q.data.map fun b => Value.int .u8 b.toNat).size := by simpa using hi
    simp only [Nat.mul_one, Nat.zero_add, Nat.add_zero, cells]
    rw [Array.getElem?_append_left hlt, Array.getElem?_map]
    rw [Array.getElem?_toList] at hb
    rw [hb]; rfl

theorem run_bytesToString {q : List UInt8} {base : Option Addr} {cap : Nat} (h : q.map u8 = [] ∨ ∃ b o wd, base = some ⟨b, o, none⟩ ∧ Reads w Pr wd (q.map u8) b o) :
    (Conv.bytesToString (.slice base (q.map u8).length cap)).run P w = .ok (.string ⟨q.toArray⟩) w := by
  have hcells : ∀ {b o : Nat}, Reads w Pr 1 (q.map u8) b o → (loadCells ⟨b, o, none⟩ (q.map u8).length).run P w = .ok ((q.map fun b => Value.int .u8 b.toNat).toArray) w := by
    intro b o hr
    have := run_loadCells_list (P := P) w ⟨b, o, none⟩ (q.map fun b => Value.int .u8 b.toNat) (fun j v hv => by
      rw [List.getElem?_map, Option.map_eq_some_iff] at hv
      obtain ⟨x, hx, rfl⟩ := hv
      obtain ⟨u, g1, g2, g3⟩ := hr.2 j (u8 x) 0 (u8 x) (by simp [hx]) rfl
      rw [Addr.add_mid]
      have := drel_int g3
      subst this
      simpa using g1)
    simpa using this
  rcases h with h | ⟨b, o, wd, rfl, hr⟩
  · have hq : q = [] := by simpa using h
    subst hq
    cases base with
    | none => rfl
    | some a => simp [Conv.bytesToString, loadCells, loadCellsFrom]; rfl
  · cases hq : q with
    | nil => simp [Conv.bytesToString, loadCells, loadCellsFrom]; rfl
    | cons x r =>
      have hwd : wd = 1 := by have := hr.1 0 (u8 x) (by simp [hq]); simpa [u8, D.cells] using this.symm
      subst hwd
      rw [← hq]
      simp only [Conv.bytesToString, Sem.run_bind, hcells hr, Result.andThen_ok]
      simp only [List.forIn_toArray]
      rw [push_cells (P := P) (w := w) _ (fun n r => rfl) q ByteArray.empty]
      simp

end Go.Proofs.Ytbbefbgomdmldaa.Ab
