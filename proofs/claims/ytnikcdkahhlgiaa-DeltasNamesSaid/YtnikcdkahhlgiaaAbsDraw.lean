/- Regions that draw their order: what is evaluated in the order of the text holds in every order. -/
import Derived.Test.YtnikcdkahhlgiaaAbsOpS
import Derived.Orders
namespace Go.Proofs.Ytnikcdkahhlgiaa.Ab
open Go
set_option linter.unusedVariables false
set_option linter.unusedSimpArgs false

variable {P : Program} {O : Orc} {s s' : St} {sc sc' : Script} {w w' : World} {Pr Pr' : Nat → Prop} {bl : List B} {μ : List CB} {a : Act} {wr : Nat → Bool} {lit : Bool} {p : Patch}

def AgrR (r : Rec) (s s' : St) : Prop := (∀ n ∈ r.reads, s'.slot n = s.slot n) ∧ (∀ n ∈ r.blks, s'.blk n = s.blk n) ∧ (r.nb = true → s'.blks.length = s.blks.length)
def Agr (l : Log) (s s' : St) : Prop := (∀ n ∈ l.slots, s'.slot n = s.slot n) ∧ (∀ n ∈ l.blks, s'.blk n = s.blk n) ∧ (l.nb = true → s'.blks.length = s.blks.length)

theorem runL_frame {α : Type} (q : Q α) : ∀ {sc : Script} {x : α} {ps : List Prop} {l : Log}, q.runL O s sc = some (x, sc', ps, l) → Agr l s s' → q.run O s' sc = some (x, sc', ps) := by
  induction q with
  | ret a => intro sc x ps l h _; simp only [Q.runL, Option.some.injEq, Prod.mk.injEq] at h; obtain ⟨rfl, rfl, rfl, _⟩ := h; rfl
  | fail => intro sc x ps l h; simp [Q.runL] at h
  | slot n k ih =>
    intro sc x ps l h hA
    simp only [Q.runL] at h
    split at h
    · rename_i a sc1 qs l' he
      simp only [Option.some.injEq, Prod.mk.injEq] at h
      obtain ⟨rfl, rfl, rfl, rfl⟩ := h
      simp only [Q.run]
      rw [hA.1 n (List.mem_cons_self ..)]
      exact ih _ he ⟨fun m hm => hA.1 m (List.mem_cons_of_mem _ hm), hA.2⟩
    · cases h
  | blk n k ih =>
    intro sc x ps l h hA
    simp only [Q.runL] at h
    split at h
    · rename_i a sc1 qs l' he
      simp only [Option.some.injEq, Prod.mk.injEq] at h
      obtain ⟨rfl, rfl, rfl, rfl⟩ := h
      simp only [Q.run]
      rw [hA.2.1 n (List.mem_cons_self ..)]
      exact ih _ he ⟨hA.1, fun m hm => hA.2.1 m (List.mem_cons_of_mem _ hm), hA.2.2⟩
    · cases h
  | nblk k ih =>
    intro sc x ps l h hA
    simp only [Q.runL] at h
    split at h
    · rename_i a sc1 qs l' he
      simp only [Option.some.injEq, Prod.mk.injEq] at h
      obtain ⟨rfl, rfl, rfl, rfl⟩ := h
      simp only [Q.run]
      rw [hA.2.2 rfl]
      exact ih _ he ⟨hA.1, hA.2.1, fun _ => hA.2.2 rfl⟩
    · cases h
  | pop k ih =>
    intro sc x ps l h hA
    cases sc with
    | none => exact ih _ h hA
    | some t => cases t with
      | nil => simp [Q.runL] at h
      | cons i t => exact ih _ h hA
  | req p k ih =>
    intro sc x ps l h hA
    simp only [Q.runL] at h
    split at h
    · rename_i a sc1 qs l' he
      simp only [Option.some.injEq, Prod.mk.injEq] at h
      obtain ⟨rfl, rfl, rfl, rfl⟩ := h
      simp only [Q.run, ih he hA]
    · cases h
  | call f as bs k ih =>
    intro sc x ps l h hA
    simp only [Q.runL] at h
    split at h
    · rename_i r bs' he
      simp only [Q.run, he]
      exact ih _ _ h hA
    · cases h

theorem runL_hold {α : Type} {q : Q α} {x : α} {ps : List Prop} {l : Log} (h : q.runL O s sc = some (x, sc', ps, l)) (hA : Agr l s s') (hp : ∀ p ∈ ps, p) : Hold O s' q sc x sc' := ⟨ps, runL_frame q h hA, hp⟩

/-! ### guards -/

theorem wanted_ok (hR : Rel P s a w μ Pr) {all : List Oper} {o : Oper} {b : Bool} (h : wantedV s all o = some b) : Region.wanted o (yielded all.toArray a.tmps) = b := by
  unfold wantedV at h
  unfold Region.wanted
  split at h
  · rename_i hg; rw [hg]; cases h; rfl
  · rename_i j want hg
    rw [hg]
    split at h
    · rename_i t ht
      have hs := slot_ok hR t
      have ht' : (all.toArray[j]?).bind (·.dst) = some t := by simpa using ht
      split at h
      · rename_i c hc
        cases h
        rw [hc] at hs
        have := drel_bool (show DRel w Pr (.bool c) _ from hs)
        simp only [yielded, ht', Option.bind_some]
        rw [Array.getD_eq_getD_getElem?] at this
        cases hq : a.tmps[t]? with
        | none => rw [hq] at this; simp [undef] at this
        | some v => rw [hq] at this; simp at this; subst this; cases c <;> cases want <;> rfl
      · rename_i hc
        cases h
        rw [hc] at hs
        have : a.tmps.getD t undef = undef := hs
        simp only [yielded, ht', Option.bind_some]
        rw [Array.getD_eq_getD_getElem?] at this
        cases hq : a.tmps[t]? with
        | none => rfl
        | some v => rw [hq] at this; simp at this; subst this; rfl
      · cases h
    · cases h


theorem wanted_frame {all : List Oper} {o : Oper} (h : ∀ n ∈ guardSlots all o, s'.slot n = s.slot n) : wantedV s' all o = wantedV s all o := by
  unfold wantedV
  cases hg : o.guard with
  | none => rfl
  | some g =>
    obtain ⟨j, want⟩ := g
    simp only
    cases hd : (all[j]?).bind (·.dst) with
    | none => rfl
    | some t =>
      simp only
      rw [h t (by simp [guardSlots, hg, hd])]

/-! ### patches that stand apart -/

structure PatchOk (r : Rec) (p : Patch) : Prop where
  sets : ∀ x ∈ p.sets, some x.1 = r.dst
  quiet : r.loud = false → p.bsets = [] ∧ p.kill = []
  push : r.push = false → p.push = []

theorem setAll_other : ∀ (A : List (Nat × V)) (l : List V) (m : Nat), (∀ x ∈ A, x.1 ≠ m) → (setAll A l)[m]? = l[m]?
  | [], l, m, _ => rfl
  | (n, v) :: r, l, m, h => by
    rw [setAll, setAll_other r _ m (fun x hx => h x (List.mem_cons_of_mem _ hx)), List.getElem?_set, if_neg (h (n, v) (List.mem_cons_self ..))]
theorem setAll_set : ∀ (A : List (Nat × V)) (l : List V) (m : Nat) (v : V), (∀ x ∈ A, x.1 ≠ m) → setAll A (l.set m v) = (setAll A l).set m v
  | [], l, m, v, _ => rfl
  | (n, u) :: r, l, m, v, h => by
    rw [setAll, setAll, ← setAll_set r _ m v (fun x hx => h x (List.mem_cons_of_mem _ hx)), List.set_comm _ _ (Ne.symm (h (n, u) (List.mem_cons_self ..)))]
theorem setAll_comm : ∀ (A B : List (Nat × V)) (l : List V), (∀ x ∈ A, ∀ y ∈ B, x.1 ≠ y.1) → setAll A (setAll B l) = setAll B (setAll A l)
  | A, [], l, _ => rfl
  | A, (n, v) :: B, l, h => by
    rw [setAll, setAll, setAll_comm A B _ (fun x hx y hy => h x hx y (List.mem_cons_of_mem _ hy)), setAll_set A l n v (fun x hx => h x hx (n, v) (List.mem_cons_self ..))]

theorem apply_quiet {r : Rec} (h : PatchOk r p) (hl : r.loud = false) (s : St) : p.apply s = ⟨setAll p.sets s.slots, s.blks ++ p.push⟩ := by
  obtain ⟨h1, h2⟩ := h.quiet hl
  simp [Patch.apply, h1, h2, setAll]

structure Apart (n : Nat) (x y : Rec) : Prop where
  lx : x.loud = false
  ly : y.loud = false
  pp : x.push = false ∨ y.push = false
  xd : ∀ d, x.dst = some d → d ∉ y.reads ∧ y.dst ≠ some d
  yd : ∀ d, y.dst = some d → d ∉ x.reads
  xp : x.push = true → y.nb = false ∧ ∀ i ∈ y.blks, i < n
  yp : y.push = true → x.nb = false ∧ ∀ i ∈ x.blks, i < n

theorem apart_of {n : Nat} {x y : Rec} (h : apartB n x y = true) : Apart n x y := by
  simp only [apartB, Bool.and_eq_true, Bool.not_eq_true', Bool.or_eq_true, List.all_eq_true, decide_eq_true_eq] at h
  obtain ⟨⟨⟨⟨⟨⟨h1, h2⟩, h3⟩, h4⟩, h5⟩, h6⟩, h7⟩ := h
  refine ⟨h1, h2, ?_, fun d hd => ?_, fun d hd => ?_, fun hp => ?_, fun hp => ?_⟩
  · cases hx : x.push <;> cases hy : y.push <;> simp_all
  · rw [hd] at h4; simp at h4; exact h4
  · rw [hd] at h5; simpa using h5
  · rw [hp] at h6; simpa using h6
  · rw [hp] at h7; simpa using h7

theorem Apart.symm {n : Nat} {x y : Rec} (h : Apart n x y) : Apart n y x :=
  ⟨h.ly, h.lx, h.pp.symm, fun d hd => ⟨h.yd d hd, fun e => (h.xd d e).2 hd⟩, fun d hd => (h.xd d hd).1, h.yp, h.xp⟩

theorem apart_comm {n : Nat} {x y : Rec} {p q : Patch} (h : Apart n x y) (hp : PatchOk x p) (hq : PatchOk y q) (s : St) : p.apply (q.apply s) = q.apply (p.apply s) := by
  rw [apply_quiet hp h.lx, apply_quiet hq h.ly, apply_quiet hq h.ly, apply_quiet hp h.lx]
  have hs : ∀ a ∈ p.sets, ∀ b ∈ q.sets, a.1 ≠ b.1 := fun a ha b hb e => by
    have h1 := hp.sets a ha
    have h2 := hq.sets b hb
    exact (h.xd a.1 h1.symm).2 (by rw [← h2, e])
  simp only [setAll_comm _ _ _ hs]
  rcases h.pp with h1 | h1
  · simp [hp.push h1]
  · simp [hq.push h1]

theorem apart_agr {n : Nat} {x y : Rec} {p : Patch} (h : Apart n x y) (hp : PatchOk x p) {s : St} (hn : n ≤ s.blks.length) : AgrR y s (p.apply s) := by
  rw [apply_quiet hp h.lx]
  refine ⟨fun m hm => ?_, fun m hm => ?_, fun hb => ?_⟩
  · simp only [St.slot]
    rw [setAll_other]
    intro a ha e
    exact (h.xd a.1 (hp.sets a ha).symm).1 (by rw [e]; exact hm)
  · simp only [St.blk]
    cases hx : x.push with
    | false => simp [hp.push hx]
    | true => rw [List.getElem?_append_left (by have := (h.xp hx).2 m hm; omega)]
  · cases hx : x.push with
    | false => simp [hp.push hx]
    | true => have := (h.xp hx).1; rw [hb] at this; cases this

theorem AgrR.trans {r : Rec} {s1 s2 s3 : St} (h : AgrR r s1 s2) (k : AgrR r s2 s3) : AgrR r s1 s3 :=
  ⟨fun n hn => (k.1 n hn).trans (h.1 n hn), fun n hn => (k.2.1 n hn).trans (h.2.1 n hn), fun hb => (k.2.2 hb).trans (h.2.2 hb)⟩
theorem AgrR.symm {r : Rec} {s1 s2 : St} (h : AgrR r s1 s2) : AgrR r s2 s1 := ⟨fun n hn => (h.1 n hn).symm, fun n hn => (h.2.1 n hn).symm, fun hb => (h.2.2 hb).symm⟩
theorem AgrR.refl {r : Rec} {s1 : St} : AgrR r s1 s1 := ⟨fun _ _ => rfl, fun _ _ => rfl, fun _ => rfl⟩

theorem apply_len (p : Patch) (s : St) : s.blks.length ≤ (p.apply s).blks.length := by
  have hk : ∀ (l : List (Nat × KK)) (s : St), (l.foldl St.kill s).blks.length = s.blks.length := by
    intro l
    induction l with
    | nil => intro s; rfl
    | cons k r ih => intro s; rw [List.foldl_cons, ih]; simp [St.kill]
  simp [Patch.apply, setAll_len, hk]

end Go.Proofs.Ytnikcdkahhlgiaa.Ab
