/- Regions that draw their order: what is evaluated in the order of the text holds in every order. -/
import Derived.Test.YtbbefbgomdmldaaAbsOpS
import Derived.Orders
namespace Go.Proofs.Ytbbefbgomdmldaa.Ab
open Go
set_option linter.unusedVariables false
set_option linter.unusedSimpArgs false

variable {P : Program} {O : Orc} {s s' : St} {sc sc' : Script} {w w' : World} {Pr Pr' : Nat → Prop} {bl : List B} {μ : List CB} {a : Act} {wr : Nat → Bool} {lit : Bool} {p : Patch}

def AgrR (r : Rec) (s s' : St) : Prop := (∀ n ∈ r.reads, s'.slot n = s.slot n) ∧ (∀ n ∈ r.blks, s'.blk n = s.blk n) ∧ (∀ n ∈ r.shps, (s'.blk n).shape = (s.blk n).shape) ∧ (r.nb = true → s'.blks.length = s.blks.length)
def Agr (l : Log) (s s' : St) : Prop := (∀ n ∈ l.slots, s'.slot n = s.slot n) ∧ (∀ n ∈ l.blks, s'.blk n = s.blk n) ∧ (∀ n ∈ l.shps, (s'.blk n).shape = (s.blk n).shape) ∧ (l.nb = true → s'.blks.length = s.blks.length)
/-- What is read is what was noted. -/
def Known (r : Rec) (s : St) : Prop := (∀ n ∈ r.reads, s.slot n ∈ r.vals) ∧ (∀ n ∈ r.blks, s.blk n ∈ r.bvals)
theorem Known.agr {r : Rec} (h : Known r s) (hA : AgrR r s s') : Known r s' := ⟨fun n hn => by rw [hA.1 n hn]; exact h.1 n hn, fun n hn => by rw [hA.2.1 n hn]; exact h.2 n hn⟩

theorem runL_frame {α : Type} (q : Q α) : ∀ {sc : Script} {x : α} {ps : List Prop} {l : Log}, q.runL O s sc = some (x, sc', ps, l) → Agr l s s' → q.run O s' sc = some (x, sc', ps) := by
  induction q with
  | ret a => intro sc x ps l h _; simp only [Q.runL, Option.some.injEq, Prod.mk.injEq] at h; obtain ⟨rfl, rfl, rfl, _⟩ := h; rfl
  | fail => intro sc x ps l h; simp [Q.runL] at h
  | slot n k ih =>
    intro sc x ps l h hA
    simp only [Q.runL] at h
    split at h
    · rename_i a sc1 qs l' he
      simp only [Option.some.injEq, Prod.mk.injEq] at h
      obtain ⟨rfl, rfl, rfl, rfl⟩ := h
      simp only [Q.run]
      rw [hA.1 n (List.mem_cons_self ..)]
      exact ih _ he ⟨fun m hm => hA.1 m (List.mem_cons_of_mem _ hm), hA.2⟩
    · cases h
  | blk n k ih =>
    intro sc x ps l h hA
    simp only [Q.runL] at h
    split at h
    · rename_i a sc1 qs l' he
      simp only [Option.some.injEq, Prod.mk.injEq] at h
      obtain ⟨rfl, rfl, rfl, rfl⟩ := h
      simp only [Q.run]
      rw [hA.2.1 n (List.mem_cons_self ..)]
      exact ih _ he ⟨hA.1, fun m hm => hA.2.1 m (List.mem_cons_of_mem _ hm), hA.2.2⟩
    · cases h
  | shp n k ih =>
    intro sc x ps l h hA
    simp only [Q.runL] at h
    split at h
    · rename_i a sc1 qs l' he
      simp only [Option.some.injEq, Prod.mk.injEq] at h
      obtain ⟨rfl, rfl, rfl, rfl⟩ := h
      simp only [Q.run]
      rw [hA.2.2.1 n (List.mem_cons_self ..)]
      exact ih _ he ⟨hA.1, hA.2.1, fun m hm => hA.2.2.1 m (List.mem_cons_of_mem _ hm), hA.2.2.2⟩
    · cases h
  | nblk k ih =>
    intro sc x ps l h hA
    simp only [Q.runL] at h
    split at h
    · rename_i a sc1 qs l' he
      simp only [Option.some.injEq, Prod.mk.injEq] at h
      obtain ⟨rfl, rfl, rfl, rfl⟩ := h
      simp only [Q.run]
      rw [hA.2.2.2 rfl]
      exact ih _ he ⟨hA.1, hA.2.1, hA.2.2.1, fun _ => hA.2.2.2 rfl⟩
    · cases h
  | pop k ih =>
    intro sc x ps l h hA
    cases sc with
    | none => exact ih _ h hA
    | some t => cases t with
      | nil => simp [Q.runL] at h
      | cons i t => exact ih _ h hA
  | req p k ih =>
    intro sc x ps l h hA
    simp only [Q.runL] at h
    split at h
    · rename_i a sc1 qs l' he
      simp only [Option.some.injEq, Prod.mk.injEq] at h
      obtain ⟨rfl, rfl, rfl, rfl⟩ := h
      simp only [Q.run, ih he hA]
    · cases h
  | call f as bs k ih =>
    intro sc x ps l h hA
    simp only [Q.runL] at h
    split at h
    · rename_i r bs' he
      simp only [Q.run, he]
      exact ih _ _ h hA
    · cases h

theorem runL_hold {α : Type} {q : Q α} {x : α} {ps : List Prop} {l : Log} (h : q.runL O s sc = some (x, sc', ps, l)) (hA : Agr l s s') (hp : ∀ p ∈ ps, p) : Hold O s' q sc x sc' := ⟨ps, runL_frame q h hA, hp⟩

/-! ### guards -/

theorem wanted_ok (hR : Rel P s a w μ Pr) {all : List Oper} {o : Oper} {b : Bool} (h : wantedV s all o = some b) : Region.wanted o (yielded all.toArray a.tmps) = b := by
  unfold wantedV at h
  unfold Region.wanted
  split at h
  · rename_i hg; rw [hg]; cases h; rfl
  · rename_i j want hg
    rw [hg]
    split at h
    · rename_i t ht
      have hs := slot_ok hR t
      have ht' : (all.toArray[j]?).bind (·.dst) = some t := by simpa using ht
      split at h
      · rename_i c hc
        cases h
        rw [hc] at hs
        have := drel_bool (show DRel w Pr (.bool c) _ from hs)
        simp only [yielded, ht', Option.bind_some]
        rw [Array.getD_eq_getD_getElem?] at this
        cases hq : a.tmps[t]? with
        | none => rw [hq] at this; simp [undef] at this
        | some v => rw [hq] at this; simp at this; subst this; cases c <;> cases want <;> rfl
      · rename_i hc
        cases h
        rw [hc] at hs
        have : a.tmps.getD t undef = undef := hs
        simp only [yielded, ht', Option.bind_some]
        rw [Array.getD_eq_getD_getElem?] at this
        cases hq : a.tmps[t]? with
        | none => rfl
        | some v => rw [hq] at this; simp at this; subst this; rfl
      · cases h
    · cases h


theorem wanted_frame {all : List Oper} {o : Oper} (h : ∀ n ∈ guardSlots all o, s'.slot n = s.slot n) : wantedV s' all o = wantedV s all o := by
  unfold wantedV
  cases hg : o.guard with
  | none => rfl
  | some g =>
    obtain ⟨j, want⟩ := g
    simp only
    cases hd : (all[j]?).bind (·.dst) with
    | none => rfl
    | some t =>
      simp only
      rw [h t (by simp [guardSlots, hg, hd])]

/-! ### patches that stand apart -/

/-- What a patch's losses make of a value, of a block. -/
def KV (l : List (Nat × KK)) (v : V) : V := l.foldl (fun v k => kill1 k.1 k.2 v) v
def KB (l : List (Nat × KK)) (b : B) : B := l.foldl (fun b k => killB k.1 k.2 b) b

theorem fold_kill : ∀ (l : List (Nat × KK)) (s : St), l.foldl St.kill s = ⟨s.slots.map (KV l), s.blks.map (KB l)⟩
  | [], s => by
    have h1 : KV [] = id := rfl
    have h2 : KB [] = id := rfl
    simp [h1, h2]
  | k :: r, s => by
    rw [List.foldl_cons, fold_kill r]
    simp only [St.kill, List.map_map]
    rfl

theorem apply_eq (p : Patch) (s : St) : p.apply s = ⟨setAll p.sets (s.slots.map (KV p.kill)), modAll p.mods (setAll p.bsets (s.blks.map (KB p.kill))) ++ p.push⟩ := by
  simp only [Patch.apply, fold_kill]

theorem kill0_fix {id : Nat} {k : KK} {v : V} (h : id ∉ kids0 v) : kill0 id k v = v := by
  cases v <;> simp only [kids0, List.mem_singleton] at h <;> simp only [kill0] <;> first | rfl | (rw [if_neg (fun e => h e.symm)]; done)
theorem map_fix {f : V → V} : ∀ {cs : List V}, (∀ c ∈ cs, f c = c) → cs.map f = cs
  | [], _ => rfl
  | c :: r, h => by rw [List.map_cons, h c (List.mem_cons_self ..), map_fix fun x hx => h x (List.mem_cons_of_mem _ hx)]
theorem kill1_fix {id : Nat} {k : KK} {v : V} (ht : noTup v = true) (h : id ∉ kids1 v) : kill1 id k v = v := by
  cases v with
  | agg cs => simp only [kill1]; rw [map_fix fun c hc => kill0_fix fun hm => h (List.mem_flatMap.2 ⟨c, hc, hm⟩)]
  | func f cs => simp only [kill1]; rw [map_fix fun c hc => kill0_fix fun hm => h (List.mem_flatMap.2 ⟨c, hc, hm⟩)]
  | iface t v => simp only [kill1]; rw [kill0_fix h]
  | tup vs => simp [noTup] at ht
  | _ => simp only [kill1]; exact kill0_fix (by simpa only [kids1] using h)

theorem kill0_clean {id : Nat} {k : KK} {v : V} (hk : isFrz k = false) (h : clean0 (kill0 id k v) = true) : kill0 id k v = v := by
  cases v <;> simp only [kill0] at h ⊢ <;> (try split at h) <;> (try split) <;> first | rfl | (simp [clean0] at h; done) | (cases k <;> simp_all [clean0, isFrz]; done)
theorem all_fix {f : V → V} (hf : ∀ c, clean0 (f c) = true → f c = c) : ∀ {cs : List V}, (cs.map f).all clean0 = true → cs.map f = cs
  | [], _ => rfl
  | c :: r, h => by
    rw [List.map_cons, List.all_cons, Bool.and_eq_true] at h
    rw [List.map_cons, hf c h.1, all_fix hf h.2]
theorem kill1_clean {id : Nat} {k : KK} {v : V} (hk : isFrz k = false) (h : clean1 (kill1 id k v) = true) : kill1 id k v = v := by
  have key : ∀ {v : V}, clean1 (kill0 id k v) = true → kill0 id k v = v := by
    intro v h
    refine kill0_clean hk ?_
    cases hv : kill0 id k v <;> first | rfl | (rw [hv] at h; simp [clean1] at h)
  cases v with
  | agg cs => simp only [kill1] at h ⊢; rw [all_fix (fun c => kill0_clean hk) h]
  | func f cs => simp only [kill1] at h ⊢; rw [all_fix (fun c => kill0_clean hk) h]
  | iface t v => simp only [kill1, clean1] at h ⊢; rw [kill0_clean hk h]
  | tup vs => simp [kill1, clean1] at h
  | _ => simp only [kill1] at h ⊢; exact key h

theorem KV_fix {kl : List Nat} : ∀ {l : List (Nat × KK)} {v : V}, (∀ k ∈ l, k.1 ∈ kl) → fixV kl v = true → KV l v = v
  | [], _, _, _ => rfl
  | k :: r, v, hl, h => by
    have h1 := h
    simp only [fixV, Bool.and_eq_true, List.all_eq_true, Bool.not_eq_true'] at h1
    show KV r (kill1 k.1 k.2 v) = v
    rw [kill1_fix h1.1 (fun hm => by have := h1.2 _ hm; have h2 := hl k (List.mem_cons_self ..); simp [h2] at this)]
    exact KV_fix (fun x hx => hl x (List.mem_cons_of_mem _ hx)) h
theorem KV_clean : ∀ {l : List (Nat × KK)} {v : V}, (∀ k ∈ l, isFrz k.2 = false) → clean1 (KV l v) = true → KV l v = v
  | [], _, _, _ => rfl
  | k :: r, v, hl, h => by
    have h1 : KV r (kill1 k.1 k.2 v) = kill1 k.1 k.2 v := KV_clean (fun x hx => hl x (List.mem_cons_of_mem _ hx)) h
    show KV r (kill1 k.1 k.2 v) = v
    have h' : clean1 (KV r (kill1 k.1 k.2 v)) = true := h
    rw [h1] at h'
    rw [h1, kill1_clean (hl k (List.mem_cons_self ..)) h']

theorem KB_box : ∀ (l : List (Nat × KK)) (cs : List V), KB l (.box cs) = .box (cs.map (KV l))
  | [], cs => by
    have h1 : KV [] = id := rfl
    simp [h1, KB]
  | k :: r, cs => by
    show KB r (killB k.1 k.2 (.box cs)) = _
    simp only [killB]
    rw [KB_box r, List.map_map]
    rfl
theorem KB_other : ∀ (l : List (Nat × KK)) (b : B), (∀ cs, b ≠ .box cs) → KB l b = b
  | [], b, _ => rfl
  | k :: r, b, h => by
    show KB r (killB k.1 k.2 b) = b
    have : killB k.1 k.2 b = b := by cases b <;> first | rfl | exact (h _ rfl).elim
    rw [this]; exact KB_other r b h
theorem KB_fix {kl : List Nat} {l : List (Nat × KK)} {b : B} (hl : ∀ k ∈ l, k.1 ∈ kl) (h : fixB kl b = true) : KB l b = b := by
  cases b with
  | box cs => rw [KB_box, map_fix fun c hc => KV_fix hl (List.all_eq_true.1 h c hc)]
  | _ => exact KB_other l _ (by simp)
theorem KB_clean {l : List (Nat × KK)} {b : B} (hl : ∀ k ∈ l, isFrz k.2 = false) (h : cleanB (KB l b) = true) : KB l b = b := by
  cases b with
  | box cs =>
    rw [KB_box] at h ⊢
    have : ∀ {cs : List V}, (cs.map (KV l)).all clean1 = true → cs.map (KV l) = cs := by
      intro cs
      induction cs with
      | nil => intro _; rfl
      | cons c r ih =>
        intro h
        rw [List.map_cons, List.all_cons, Bool.and_eq_true] at h
        rw [List.map_cons, KV_clean hl h.1, ih h.2]
    rw [this h]
  | _ => exact KB_other l _ (by simp)
theorem KB_shape (l : List (Nat × KK)) (b : B) : (KB l b).shape = b.shape := by
  cases b with
  | box cs => rw [KB_box]; rfl
  | _ => rw [KB_other l _ (by simp)]
theorem KB_mod (l : List (Nat × KK)) (i : Nat) (x : D) (b : B) : KB l (modB i x b) = modB i x (KB l b) := by
  cases b with
  | box cs => simp only [modB, KB_box]
  | lst e xs => simp only [modB]; rw [KB_other l _ (by simp), KB_other l _ (by simp)]
  | _ => simp only [modB]; rw [KB_other l _ (by simp)]

structure PatchOk (r : Rec) (p : Patch) : Prop where
  sets : ∀ x ∈ p.sets, some x.1 = r.dst ∧ x.2 ∈ r.vals
  wr : ∀ x ∈ p.bsets, x.1 ∈ r.wr ∧ x.2 ∈ r.bvals
  mw : ∀ x ∈ p.mods, x.1 ∈ r.mw
  push : r.push = false → p.push = []
  pushv : ∀ b ∈ p.push, b ∈ r.bvals
  kl : ∀ k ∈ p.kill, k.1 ∈ r.kl
  frz : r.frz = false → ∀ k ∈ p.kill, isFrz k.2 = false

theorem setAll_other {α : Type} : ∀ (A : List (Nat × α)) (l : List α) (m : Nat), (∀ x ∈ A, x.1 ≠ m) → (setAll A l)[m]? = l[m]?
  | [], l, m, _ => rfl
  | (n, v) :: r, l, m, h => by
    rw [setAll, setAll_other r _ m (fun x hx => h x (List.mem_cons_of_mem _ hx)), List.getElem?_set, if_neg (h (n, v) (List.mem_cons_self ..))]
theorem setAll_set {α : Type} : ∀ (A : List (Nat × α)) (l : List α) (m : Nat) (v : α), (∀ x ∈ A, x.1 ≠ m) → setAll A (l.set m v) = (setAll A l).set m v
  | [], l, m, v, _ => rfl
  | (n, u) :: r, l, m, v, h => by
    rw [setAll, setAll, ← setAll_set r _ m v (fun x hx => h x (List.mem_cons_of_mem _ hx)), List.set_comm _ _ (Ne.symm (h (n, u) (List.mem_cons_self ..)))]
theorem setAll_comm {α : Type} : ∀ (A B : List (Nat × α)) (l : List α), (∀ x ∈ A, ∀ y ∈ B, x.1 ≠ y.1) → setAll A (setAll B l) = setAll B (setAll A l)
  | A, [], l, _ => rfl
  | A, (n, v) :: B, l, h => by
    rw [setAll, setAll, setAll_comm A B _ (fun x hx y hy => h x hx y (List.mem_cons_of_mem _ hy)), setAll_set A l n v (fun x hx => h x hx (n, v) (List.mem_cons_self ..))]
theorem map_setAll {α : Type} {f : α → α} : ∀ (A : List (Nat × α)) (l : List α), (∀ x ∈ A, f x.2 = x.2) → (setAll A l).map f = setAll A (l.map f)
  | [], l, _ => rfl
  | (n, v) :: r, l, h => by
    rw [setAll, setAll, map_setAll r _ (fun x hx => h x (List.mem_cons_of_mem _ hx)), List.map_set, h (n, v) (List.mem_cons_self ..)]
theorem setAll_append {α : Type} : ∀ (A : List (Nat × α)) (l m : List α), (∀ x ∈ A, x.1 < l.length) → setAll A (l ++ m) = setAll A l ++ m
  | [], l, m, _ => rfl
  | (n, v) :: r, l, m, h => by
    have hn := h (n, v) (List.mem_cons_self ..)
    rw [setAll, setAll, List.set_append_left _ _ hn, setAll_append r _ m (fun x hx => by rw [List.length_set]; exact h x (List.mem_cons_of_mem _ hx))]

theorem modify_set {f : B → B} {n m : Nat} {b : B} (l : List B) (h : n ≠ m) : (l.set m b).modify n f = (l.modify n f).set m b := by
  apply List.ext_getElem?
  intro k
  simp only [List.getElem?_modify, List.getElem?_set, List.length_modify]
  by_cases h1 : m = k
  · subst h1; simp [h]
  · simp [h1]
theorem modify_modify {f g : B → B} {n m : Nat} (l : List B) (h : n ≠ m) : (l.modify m g).modify n f = (l.modify n f).modify m g := by
  apply List.ext_getElem?
  intro k
  simp only [List.getElem?_modify]
  cases l[k]? with
  | none => rfl
  | some b =>
    by_cases h1 : m = k
    · subst h1; simp [h]
    · by_cases h2 : n = k
      · subst h2; simp [h1]
      · simp [h1, h2]
theorem modAll_len : ∀ (A : List (Nat × Nat × D)) (l : List B), (modAll A l).length = l.length
  | [], l => rfl
  | (n, i, x) :: r, l => by rw [modAll, modAll_len r]; simp
theorem modAll_other : ∀ (A : List (Nat × Nat × D)) (l : List B) (m : Nat), (∀ x ∈ A, x.1 ≠ m) → (modAll A l)[m]? = l[m]?
  | [], l, m, _ => rfl
  | (n, i, x) :: r, l, m, h => by
    rw [modAll, modAll_other r _ m (fun x hx => h x (List.mem_cons_of_mem _ hx)), List.getElem?_modify]
    cases l[m]? <;> simp [h (n, i, x) (List.mem_cons_self ..)]
theorem modB_shape (i : Nat) (x : D) (b : B) : (modB i x b).shape = b.shape := by cases b <;> simp [modB, B.shape]
theorem modAll_shape : ∀ (A : List (Nat × Nat × D)) (l : List B) (m : Nat), ((modAll A l)[m]?).map B.shape = (l[m]?).map B.shape
  | [], l, m => rfl
  | (n, i, x) :: r, l, m => by
    rw [modAll, modAll_shape r, List.getElem?_modify]
    cases l[m]? with
    | none => rfl
    | some b => by_cases h : n = m <;> simp [h, modB_shape]
theorem modAll_set : ∀ (A : List (Nat × Nat × D)) (l : List B) (m : Nat) (b : B), (∀ x ∈ A, x.1 ≠ m) → modAll A (l.set m b) = (modAll A l).set m b
  | [], l, m, b, _ => rfl
  | (n, i, x) :: r, l, m, b, h => by
    rw [modAll, modAll, modify_set l (h (n, i, x) (List.mem_cons_self ..)), modAll_set r _ m b (fun x hx => h x (List.mem_cons_of_mem _ hx))]
theorem modAll_setAll : ∀ (A : List (Nat × Nat × D)) (C : List (Nat × B)) (l : List B), (∀ x ∈ A, ∀ y ∈ C, x.1 ≠ y.1) → modAll A (setAll C l) = setAll C (modAll A l)
  | A, [], l, _ => rfl
  | A, (n, v) :: C, l, h => by
    rw [setAll, setAll, modAll_setAll A C _ (fun x hx y hy => h x hx y (List.mem_cons_of_mem _ hy)), modAll_set A l n v (fun x hx => h x hx (n, v) (List.mem_cons_self ..))]
theorem modAll_modify : ∀ (A : List (Nat × Nat × D)) (l : List B) (m : Nat) (g : B → B), (∀ x ∈ A, x.1 ≠ m) → modAll A (l.modify m g) = (modAll A l).modify m g
  | [], l, m, g, _ => rfl
  | (n, i, x) :: r, l, m, g, h => by
    rw [modAll, modAll, modify_modify l (h (n, i, x) (List.mem_cons_self ..)), modAll_modify r _ m g (fun x hx => h x (List.mem_cons_of_mem _ hx))]
theorem modAll_comm : ∀ (A C : List (Nat × Nat × D)) (l : List B), (∀ x ∈ A, ∀ y ∈ C, x.1 ≠ y.1) → modAll A (modAll C l) = modAll C (modAll A l)
  | A, [], l, _ => rfl
  | A, (n, i, v) :: C, l, h => by
    rw [modAll, modAll, modAll_comm A C _ (fun x hx y hy => h x hx y (List.mem_cons_of_mem _ hy)), modAll_modify A l n _ (fun x hx => h x hx (n, i, v) (List.mem_cons_self ..))]
theorem map_modAll {f : B → B} (hf : ∀ i x b, f (modB i x b) = modB i x (f b)) : ∀ (A : List (Nat × Nat × D)) (l : List B), (modAll A l).map f = modAll A (l.map f)
  | [], l => rfl
  | (n, i, x) :: r, l => by
    rw [modAll, modAll, map_modAll hf r]
    congr 1
    apply List.ext_getElem?
    intro k
    simp only [List.getElem?_map, List.getElem?_modify]
    cases l[k]? with
    | none => rfl
    | some b => by_cases h : n = k <;> simp [h, hf]
theorem modAll_append : ∀ (A : List (Nat × Nat × D)) (l m : List B), (∀ x ∈ A, x.1 < l.length) → modAll A (l ++ m) = modAll A l ++ m
  | [], l, m, _ => rfl
  | (n, i, x) :: r, l, m, h => by
    have hn := h (n, i, x) (List.mem_cons_self ..)
    have e : (l ++ m).modify n (modB i x) = l.modify n (modB i x) ++ m := by
      apply List.ext_getElem?
      intro k
      rw [List.getElem?_modify]
      by_cases hk : k < l.length
      · rw [List.getElem?_append_left hk, List.getElem?_append_left (by simpa using hk), List.getElem?_modify]
      · rw [List.getElem?_append_right (by omega), List.getElem?_append_right (by simp; omega), List.length_modify]
        cases m[k - l.length]? with
        | none => rfl
        | some b => simp; omega
    rw [modAll, modAll, e, modAll_append r _ m (fun x hx => by rw [List.length_modify]; exact h x (List.mem_cons_of_mem _ hx))]

/-- What x does leaves what y reads and makes. -/
structure Leaves (n : Nat) (x y : Rec) : Prop where
  frz : x.frz = false
  dst : ∀ d, x.dst = some d → d ∉ y.reads ∧ y.dst ≠ some d
  wr : ∀ i ∈ x.wr, i < n ∧ i ∉ y.blks ∧ i ∉ y.shps ∧ i ∉ y.wr ∧ i ∉ y.mw
  mw : ∀ i ∈ x.mw, i < n ∧ i ∉ y.blks ∧ i ∉ y.wr ∧ i ∉ y.mw
  push : x.push = true → y.nb = false ∧ (∀ i ∈ y.blks, i < n) ∧ ∀ i ∈ y.shps, i < n
  kl : x.kl = [] ∨ ((∀ v ∈ y.vals, fixV x.kl v = true ∧ clean1 v = true) ∧ ∀ b ∈ y.bvals, fixB x.kl b = true ∧ cleanB b = true)
structure Apart (n : Nat) (x y : Rec) : Prop where
  xy : Leaves n x y
  yx : Leaves n y x
  pp : x.push = false ∨ y.push = false
  kk : x.kl = [] ∨ y.kl = []

theorem leaves_of {n : Nat} {x y : Rec} (h : leavesB n x y = true) : Leaves n x y := by
  simp only [leavesB, Bool.and_eq_true, Bool.not_eq_true', Bool.or_eq_true, List.all_eq_true, decide_eq_true_eq] at h
  obtain ⟨⟨⟨⟨⟨h1, h2⟩, h3⟩, h4⟩, h5⟩, h6⟩ := h
  refine ⟨h1, fun d hd => ?_, fun i hi => ?_, fun i hi => ?_, fun hp => ?_, ?_⟩
  · rw [hd] at h2; simp at h2; exact h2
  · have := h3 i hi; simp at this; simp [this]
  · have := h4 i hi; simp at this; simp [this]
  · rcases h5 with h5 | h5
    · rw [hp] at h5; cases h5
    · exact ⟨h5.1.1, h5.1.2, h5.2⟩
  · rcases h6 with h6 | h6
    · exact .inl (by simpa using h6)
    · exact .inr h6

theorem apart_of {n : Nat} {x y : Rec} (h : apartB n x y = true) : Apart n x y := by
  simp only [apartB, Bool.and_eq_true, Bool.not_eq_true', Bool.or_eq_true] at h
  obtain ⟨⟨⟨h1, h2⟩, h3⟩, h4⟩ := h
  refine ⟨leaves_of h1, leaves_of h2, ?_, ?_⟩
  · cases hx : x.push <;> cases hy : y.push <;> simp_all
  · simpa using h4

theorem Apart.symm {n : Nat} {x y : Rec} (h : Apart n x y) : Apart n y x := ⟨h.yx, h.xy, h.pp.symm, h.kk.symm⟩

theorem KV_undef (l : List (Nat × KK)) : KV l .undef = .undef := by
  induction l with
  | nil => rfl
  | cons k r ih => exact ih
theorem KB_dead (l : List (Nat × KK)) : KB l .dead = .dead := KB_other l _ (by simp)

theorem kill_nil {r : Rec} (h : PatchOk r p) (hk : r.kl = []) : p.kill = [] := by
  apply List.eq_nil_iff_forall_not_mem.2
  intro k hkm
  have := h.kl k hkm
  rw [hk] at this
  cases this

theorem KV_same {n : Nat} {x y : Rec} (h : Leaves n x y) (hp : PatchOk x p) {v : V} (hv : v ∈ y.vals ∨ KV p.kill v ∈ y.vals) : KV p.kill v = v := by
  rcases h.kl with hk | ⟨hk, _⟩
  · rw [kill_nil hp hk]; rfl
  · rcases hv with hv | hv
    · exact KV_fix hp.kl (hk v hv).1
    · exact KV_clean (hp.frz h.frz) (hk _ hv).2
theorem KB_same {n : Nat} {x y : Rec} (h : Leaves n x y) (hp : PatchOk x p) {b : B} (hb : b ∈ y.bvals ∨ KB p.kill b ∈ y.bvals) : KB p.kill b = b := by
  rcases h.kl with hk | ⟨_, hk⟩
  · rw [kill_nil hp hk]; rfl
  · rcases hb with hb | hb
    · exact KB_fix hp.kl (hk b hb).1
    · exact KB_clean (hp.frz h.frz) (hk _ hb).2

theorem setAll_len' {α : Type} : ∀ (A : List (Nat × α)) (l : List α), (setAll A l).length = l.length
  | [], l => rfl
  | (n, v) :: r, l => by rw [setAll, setAll_len' r]; simp

theorem blk_apply {n : Nat} {x y : Rec} (h : Leaves n x y) (hp : PatchOk x p) {s : St} (hn : n ≤ s.blks.length) {m : Nat} (hm : m ∈ y.blks) : (p.apply s).blk m = KB p.kill (s.blk m) := by
  rw [apply_eq]
  simp only [St.blk]
  have e : (modAll p.mods (setAll p.bsets (s.blks.map (KB p.kill))))[m]? = (s.blks[m]?).map (KB p.kill) := by
    rw [modAll_other _ _ _ (fun a ha e => (h.mw a.1 (hp.mw a ha)).2.1 (e ▸ hm)), setAll_other _ _ _ (fun a ha e => (h.wr a.1 (hp.wr a ha).1).2.1 (e ▸ hm)), List.getElem?_map]
  have hl : (modAll p.mods (setAll p.bsets (s.blks.map (KB p.kill)))).length = s.blks.length := by rw [modAll_len, setAll_len']; simp
  have e2 : (modAll p.mods (setAll p.bsets (s.blks.map (KB p.kill))) ++ p.push)[m]? = (s.blks[m]?).map (KB p.kill) := by
    cases hx : x.push with
    | false => rw [hp.push hx, List.append_nil]; exact e
    | true => rw [List.getElem?_append_left (by have := (h.push hx).2.1 m hm; omega)]; exact e
  rw [e2]
  cases s.blks[m]? with
  | none => simp [KB_dead]
  | some b => rfl

theorem shp_apply {n : Nat} {x y : Rec} (h : Leaves n x y) (hp : PatchOk x p) {s : St} (hn : n ≤ s.blks.length) {m : Nat} (hm : m ∈ y.shps) : ((p.apply s).blk m).shape = (s.blk m).shape := by
  rw [apply_eq]
  simp only [St.blk]
  have e : ((modAll p.mods (setAll p.bsets (s.blks.map (KB p.kill))))[m]?).map B.shape = (s.blks[m]?).map B.shape := by
    rw [modAll_shape, setAll_other _ _ _ (fun a ha e => (h.wr a.1 (hp.wr a ha).1).2.2.1 (e ▸ hm)), List.getElem?_map]
    cases s.blks[m]? with
    | none => rfl
    | some b => simp [KB_shape]
  have hl : (modAll p.mods (setAll p.bsets (s.blks.map (KB p.kill)))).length = s.blks.length := by rw [modAll_len, setAll_len']; simp
  have e2 : ((modAll p.mods (setAll p.bsets (s.blks.map (KB p.kill))) ++ p.push)[m]?).map B.shape = (s.blks[m]?).map B.shape := by
    cases hx : x.push with
    | false => rw [hp.push hx, List.append_nil]; exact e
    | true => rw [List.getElem?_append_left (by have := (h.push hx).2.2 m hm; omega)]; exact e
  cases h1 : (modAll p.mods (setAll p.bsets (s.blks.map (KB p.kill))) ++ p.push)[m]? with
  | none => rw [h1] at e2; cases h2 : s.blks[m]? with
    | none => rfl
    | some b => rw [h2] at e2; cases e2
  | some b => rw [h1] at e2; cases h2 : s.blks[m]? with
    | none => rw [h2] at e2; cases e2
    | some c => rw [h2] at e2; simpa using e2

theorem slot_apply {n : Nat} {x y : Rec} (h : Leaves n x y) (hp : PatchOk x p) {s : St} {m : Nat} (hm : m ∈ y.reads) : (p.apply s).slot m = KV p.kill (s.slot m) := by
  rw [apply_eq]
  simp only [St.slot]
  rw [setAll_other, List.getElem?_map]
  · cases s.slots[m]? with
    | none => simp [KV_undef]
    | some v => rfl
  · intro a ha e
    exact (h.dst a.1 (hp.sets a ha).1.symm).1 (by rw [e]; exact hm)

theorem apart_agr {n : Nat} {x y : Rec} (h : Leaves n x y) (hp : PatchOk x p) {s : St} (hn : n ≤ s.blks.length) (hK : Known y s ∨ Known y (p.apply s)) : AgrR y s (p.apply s) := by
  refine ⟨fun m hm => ?_, fun m hm => ?_, fun m hm => shp_apply h hp hn hm, fun hb => ?_⟩
  · have e := slot_apply h hp (s := s) hm
    rw [e]
    exact KV_same h hp (hK.imp (fun k => k.1 m hm) (fun k => by have := k.1 m hm; rwa [e] at this))
  · have e := blk_apply h hp hn hm
    rw [e]
    exact KB_same h hp (hK.imp (fun k => k.2 m hm) (fun k => by have := k.2 m hm; rwa [e] at this))
  · rw [apply_eq]
    cases hx : x.push with
    | false => simp [hp.push hx, modAll_len, setAll_len']
    | true => have := (h.push hx).1; rw [hb] at this; cases this

theorem apart_comm {n : Nat} {x y : Rec} {p q : Patch} (h : Apart n x y) (hp : PatchOk x p) (hq : PatchOk y q) (s : St) (hn : n ≤ s.blks.length) : p.apply (q.apply s) = q.apply (p.apply s) := by
  rw [apply_eq p, apply_eq q, apply_eq q, apply_eq p]
  have hs : ∀ a ∈ p.sets, ∀ b ∈ q.sets, a.1 ≠ b.1 := fun a ha b hb e => by
    have h1 := (hp.sets a ha).1
    have h2 := (hq.sets b hb).1
    exact (h.xy.dst a.1 h1.symm).2 (by rw [← h2, e])
  have kk : ∀ l : List V, (l.map (KV q.kill)).map (KV p.kill) = (l.map (KV p.kill)).map (KV q.kill) := by
    intro l
    have e : KV [] = id := rfl
    rcases h.kk with h1 | h1
    · rw [kill_nil hp h1, e]; simp
    · rw [kill_nil hq h1, e]; simp
  have kb : ∀ l : List B, (l.map (KB q.kill)).map (KB p.kill) = (l.map (KB p.kill)).map (KB q.kill) := by
    intro l
    have e : KB [] = id := rfl
    rcases h.kk with h1 | h1
    · rw [kill_nil hp h1, e]; simp
    · rw [kill_nil hq h1, e]; simp
  have s1 : setAll p.sets ((setAll q.sets (s.slots.map (KV q.kill))).map (KV p.kill)) = setAll q.sets ((setAll p.sets (s.slots.map (KV p.kill))).map (KV q.kill)) := by
    rw [map_setAll _ _ (fun a ha => KV_same h.xy hp (.inl (hq.sets a ha).2)), map_setAll _ _ (fun a ha => KV_same h.yx hq (.inl (hp.sets a ha).2)), kk, setAll_comm _ _ _ hs]
  have half : ∀ {x y : Rec} {p q : Patch}, Apart n x y → PatchOk x p → PatchOk y q →
      modAll p.mods (setAll p.bsets ((modAll q.mods (setAll q.bsets (s.blks.map (KB q.kill))) ++ q.push).map (KB p.kill))) ++ p.push
        = modAll p.mods (modAll q.mods (setAll p.bsets (setAll q.bsets ((s.blks.map (KB q.kill)).map (KB p.kill))))) ++ q.push ++ p.push := by
    intro x y p q h hp hq
    have e1 : q.push.map (KB p.kill) = q.push := by
      have : ∀ {l : List B}, (∀ b ∈ l, KB p.kill b = b) → l.map (KB p.kill) = l := by
        intro l
        induction l with
        | nil => intro _; rfl
        | cons b r ih => intro hb; rw [List.map_cons, hb b (List.mem_cons_self ..), ih fun x hx => hb x (List.mem_cons_of_mem _ hx)]
      exact this fun b hb => KB_same h.xy hp (.inl (hq.pushv b hb))
    have hl : (modAll q.mods (setAll q.bsets ((s.blks.map (KB q.kill)).map (KB p.kill)))).length = s.blks.length := by rw [modAll_len, setAll_len']; simp
    rw [List.map_append, e1, map_modAll (KB_mod p.kill), map_setAll _ _ (fun a ha => KB_same h.xy hp (.inl (hq.wr a ha).2)),
      setAll_append _ _ _ (fun a ha => by rw [hl]; have := (h.xy.wr a.1 (hp.wr a ha).1).1; omega), modAll_append _ _ _ (fun a ha => by rw [setAll_len', hl]; have := (h.xy.mw a.1 (hp.mw a ha)).1; omega),
      ← modAll_setAll _ _ _ (fun a ha b hb e => (h.xy.wr b.1 (hp.wr b hb).1).2.2.2.2 (by rw [← e]; exact hq.mw a ha))]
  have s2 : modAll p.mods (setAll p.bsets ((modAll q.mods (setAll q.bsets (s.blks.map (KB q.kill))) ++ q.push).map (KB p.kill))) ++ p.push = modAll q.mods (setAll q.bsets ((modAll p.mods (setAll p.bsets (s.blks.map (KB p.kill))) ++ p.push).map (KB q.kill))) ++ q.push := by
    rw [half h hp hq, half h.symm hq hp, kb, setAll_comm p.bsets q.bsets _ (fun a ha b hb e => (h.xy.wr a.1 (hp.wr a ha).1).2.2.2.1 (by rw [e]; exact (hq.wr b hb).1)),
      modAll_comm p.mods q.mods _ (fun a ha b hb e => (h.xy.mw a.1 (hp.mw a ha)).2.2.2 (by rw [e]; exact hq.mw b hb)), List.append_assoc, List.append_assoc]
    congr 1
    rcases h.pp with h1 | h1
    · simp [hp.push h1]
    · simp [hq.push h1]
  simp only
  rw [s1, s2]

theorem AgrR.trans {r : Rec} {s1 s2 s3 : St} (h : AgrR r s1 s2) (k : AgrR r s2 s3) : AgrR r s1 s3 :=
  ⟨fun n hn => (k.1 n hn).trans (h.1 n hn), fun n hn => (k.2.1 n hn).trans (h.2.1 n hn), fun n hn => (k.2.2.1 n hn).trans (h.2.2.1 n hn), fun hb => (k.2.2.2 hb).trans (h.2.2.2 hb)⟩
theorem AgrR.symm {r : Rec} {s1 s2 : St} (h : AgrR r s1 s2) : AgrR r s2 s1 := ⟨fun n hn => (h.1 n hn).symm, fun n hn => (h.2.1 n hn).symm, fun n hn => (h.2.2.1 n hn).symm, fun hb => (h.2.2.2 hb).symm⟩
theorem AgrR.refl {r : Rec} {s1 : St} : AgrR r s1 s1 := ⟨fun _ _ => rfl, fun _ _ => rfl, fun _ _ => rfl, fun _ => rfl⟩

theorem apply_len (p : Patch) (s : St) : s.blks.length ≤ (p.apply s).blks.length := by
  rw [apply_eq]
  simp [modAll_len, setAll_len']

end Go.Proofs.Ytbbefbgomdmldaa.Ab
