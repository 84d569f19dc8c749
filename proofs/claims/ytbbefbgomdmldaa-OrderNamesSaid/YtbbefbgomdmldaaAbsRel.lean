/- What an abstract state says of a frame's slots and of memory. -/
import Derived.Test.YtbbefbgomdmldaaAbs
import Derived.Laws.AppendOwn
import Derived.Laws.OwnMore
import Derived.Deep.MidRow
namespace Go.Proofs.Ytbbefbgomdmldaa.Ab
open Go
set_option linter.unusedVariables false

variable (P : Program)

/-- A value that reads as plain data, out of blocks that nobody writes. -/
inductive DRel (w : World) (Pr : Nat → Prop) : D → Value → Prop
  | int (k n) : DRel w Pr (.int k n) (.int k n)
  | bool (b) : DRel w Pr (.bool b) (.bool b)
  | str (s : ByteArray) : DRel w Pr (.str s.data.toList) (.string s)
  | sl0 (a : Option Addr) (cap : Nat) : DRel w Pr (.sl []) (.slice a 0 cap)
  | sl (xs : List D) (b o cap wd : Nat) (f : Nat → Nat → Value) (hb : Pr b) (hc : xs.length ≤ cap)
      (hw : ∀ (i : Nat) (x : D), xs[i]? = some x → x.cells.length = wd)
      (hm : ∀ (i : Nat) (x : D) (j : Nat) (y : D), xs[i]? = some x → x.cells[j]? = some y → w.cell? ⟨b, o + i * wd + j, none⟩ = some (f i j))
      (h1 : ∀ (i : Nat) (x : D) (j : Nat) (y : D), xs[i]? = some x → x.cells[j]? = some y → (f i j).oneCell' = true)
      (hd : ∀ (i : Nat) (x : D) (j : Nat) (y : D), xs[i]? = some x → x.cells[j]? = some y → DRel w Pr y (f i j)) : DRel w Pr (.sl xs) (.slice (some ⟨b, o, none⟩) xs.length cap)
  | agg (ds : List D) (cs : List Value) (hl : ds.length = cs.length) (h1 : ∀ v ∈ cs, v.oneCell' = true)
      (hd : ∀ (j : Nat) (d : D) (v : Value), ds[j]? = some d → cs[j]? = some v → DRel w Pr d v) : DRel w Pr (.agg ds) (.agg cs.toArray)
  | inil : DRel w Pr .inil .nilIface
  | iany (t v) : DRel w Pr .iany (.iface t v)

theorem cell_same {w w' : World} {b o : Nat} (h : w'.heap[b]? = w.heap[b]?) : w'.cell? ⟨b, o, none⟩ = w.cell? ⟨b, o, none⟩ := by simp [World.cell?, h]

theorem DRel.mono {w w' : World} {Pr Pr' : Nat → Prop} (hp : ∀ b, Pr b → Pr' b) (hw : ∀ b, Pr b → w'.heap[b]? = w.heap[b]?) {d : D} {v : Value} (h : DRel w Pr d v) : DRel w' Pr' d v := by
  induction h with
  | int k n => exact .int k n
  | bool b => exact .bool b
  | str s => exact .str s
  | sl0 a c => exact .sl0 a c
  | sl xs b o cap wd f hb hc hwd hm h1 hd ih =>
    exact .sl xs b o cap wd f (hp b hb) hc hwd (fun i x j y hx hy => by rw [cell_same (hw b hb)]; exact hm i x j y hx hy) h1 ih
  | agg ds cs hl h1 hd ih => exact .agg ds cs hl h1 ih
  | inil => exact .inil
  | iany t v => exact .iany t v

/-- A list's header: without room, or a row of the call's own. -/
inductive H where
  | zero (a : Option Addr)
  | row (b cap : Nat)

/-- Where a block of the store lies. -/
inductive CB where
  | box (b : Nat)
  | lst (h : H)
  | lst2 (b cap : Nat) (inner : List (H))
  | dead

def hdr (h : H) (n : Nat) : Value := match h with
  | .zero a => .slice a 0 0
  | .row b cap => .slice (some ⟨b, 0, none⟩) n cap

def H.own : H → List Nat
  | .zero _ => []
  | .row b _ => [b]

def OwnR (w : World) (e wd : Nat) (h : H) (n : Nat) (cs : List Value) : Prop := match h with
  | .zero _ => n = 0 ∧ cs = []
  | .row b cap => w.ownsRow 0 e wd (.slice (some ⟨b, 0, none⟩) n cap) n cs

def CB.own : CB → List Nat
  | .box b => [b]
  | .lst h => h.own
  | .lst2 b _ inner => b :: inner.flatMap H.own
  | .dead => []

/-- What a reference sees of a block. -/
inductive VW where
  | box (b : Nat)
  | lst (e n : Nat) (h : H)
  | lst2 (s : Nat) (lens : List (Option Nat)) (b cap : Nat) (inner : List (H))

def vwOf : B → CB → Option VW
  | .box _, .box b => some (.box b)
  | .lst e xs, .lst h => some (.lst e xs.length h)
  | .lst2 s xss, .lst2 b cap inner => some (.lst2 s (xss.map (·.map List.length)) b cap inner)
  | _, _ => none

def view (bl : List B) (μ : List CB) (id : Nat) : Option VW := match bl[id]?, μ[id]? with
  | some x, some c => vwOf x c
  | _, _ => none

def All2 {α β : Type} (R : α → β → Prop) : List α → List β → Prop
  | [], [] => True
  | a :: as, b :: bs => R a b ∧ All2 R as bs
  | _, _ => False

theorem All2.mono {α β : Type} {R R' : α → β → Prop} (h : ∀ a b, R a b → R' a b) : ∀ {xs : List α} {ys : List β}, All2 R xs ys → All2 R' xs ys
  | [], [], _ => trivial
  | _ :: _, _ :: _, hx => ⟨h _ _ hx.1, All2.mono h hx.2⟩
  | [], _ :: _, hx => hx.elim
  | _ :: _, [], hx => hx.elim
theorem All2.monoMem {α β : Type} {R R' : α → β → Prop} : ∀ {xs : List α} {ys : List β}, (∀ a ∈ xs, ∀ b, R a b → R' a b) → All2 R xs ys → All2 R' xs ys
  | [], [], _, _ => trivial
  | a :: _, _ :: _, h, hx => ⟨h a (List.mem_cons_self ..) _ hx.1, All2.monoMem (fun a ha => h a (List.mem_cons_of_mem _ ha)) hx.2⟩
  | [], _ :: _, _, hx => hx.elim
  | _ :: _, [], _, hx => hx.elim
theorem All2.length {α β : Type} {R : α → β → Prop} : ∀ {xs : List α} {ys : List β}, All2 R xs ys → xs.length = ys.length
  | [], [], _ => rfl
  | _ :: _, _ :: _, h => by simp [All2.length h.2]
  | [], _ :: _, h => h.elim
  | _ :: _, [], h => h.elim
theorem All2.get {α β : Type} {R : α → β → Prop} : ∀ {xs : List α} {ys : List β} (_ : All2 R xs ys) (i : Nat) (x : α), xs[i]? = some x → ∃ y, ys[i]? = some y ∧ R x y
  | [], [], _, i, x, h => by simp at h
  | a :: _, b :: _, h, 0, x, hx => by simp at hx; subst hx; exact ⟨b, rfl, h.1⟩
  | _ :: as, _ :: bs, h, i + 1, x, hx => by simpa using All2.get h.2 i x (by simpa using hx)
  | [], _ :: _, h, _, _, _ => h.elim
  | _ :: _, [], h, _, _, _ => h.elim
theorem All2.of {α β : Type} {R : α → β → Prop} : ∀ {xs : List α} {ys : List β}, xs.length = ys.length → (∀ (i : Nat) (x : α) (y : β), xs[i]? = some x → ys[i]? = some y → R x y) → All2 R xs ys
  | [], [], _, _ => trivial
  | a :: as, b :: bs, hl, h => ⟨h 0 a b rfl rfl, All2.of (by simpa using hl) fun i x y hx hy => h (i + 1) x y (by simpa using hx) (by simpa using hy)⟩
  | [], _ :: _, h, _ => by simp at h
  | _ :: _, [], h, _ => by simp at h

/-- A simple value of a slot or a cell. -/
def VRel0 (w : World) (Pr : Nat → Prop) (vw : Nat → Option VW) : V → Value → Prop
  | .undef, _ => True
  | .void, v => v = undef
  | .d x, v => DRel w Pr x v
  | .emp true, v => v = .slice none 0 0
  | .emp false, v => ∃ a, v = .slice a 0 0
  | .nnil, v => ∃ a cap, v = .slice (some a) 0 cap
  | .arr id, v => (∃ e n h, vw id = some (.lst e n h) ∧ v = hdr h n) ∨ (∃ s lens b cap inner, vw id = some (.lst2 s lens b cap inner) ∧ v = .slice (some ⟨b, 0, none⟩) lens.length cap)
  | .inn id i, v => ∃ s lens b cap inner n h, vw id = some (.lst2 s lens b cap inner) ∧ lens[i]? = some (some n) ∧ inner[i]? = some h ∧ v = hdr h n
  | .win id lo n, v => ∃ e len h wd a cap, vw id = some (.lst e len h) ∧ szOf P e = some wd ∧ v = .slice a n cap ∧ n ≤ cap ∧ lo + n ≤ len ∧
      (∀ b c, h = .row b c → 0 < n → a = some ⟨b, lo * wd, none⟩) ∧ (lo = 0 → v = hdr h n)
  | .ptr id off, v => ∃ b, vw id = some (.box b) ∧ v = .pointer (some ⟨b, off, none⟩)
  | .eptr id i sub, v => (∃ e n b cap wd, vw id = some (.lst e n (.row b cap)) ∧ i < n ∧ szOf P e = some wd ∧ v = .pointer (some ⟨b, i * wd + sub, none⟩)) ∨
      (∃ s lens b cap inner, vw id = some (.lst2 s lens b cap inner) ∧ i < lens.length ∧ sub = 0 ∧ v = .pointer (some ⟨b, i, none⟩))
  | .iptr id i k, v => ∃ s lens b cap inner n e b' cap' wd, vw id = some (.lst2 s lens b cap inner) ∧ lens[i]? = some (some n) ∧ inner[i]? = some (.row b' cap') ∧
      k < n ∧ elemOf P s = some e ∧ szOf P e = some wd ∧ v = .pointer (some ⟨b', k * wd, none⟩)
  | .dptr x sub, v => ∃ b o, Pr b ∧ v = .pointer (some ⟨b, o + sub, none⟩) ∧ ∀ (j : Nat) (y : D), x.cells[j]? = some y → ∃ u, w.cell? ⟨b, o + j, none⟩ = some u ∧ u.oneCell' = true ∧ DRel w Pr y u
  | _, _ => False

def VRel1 (w : World) (Pr : Nat → Prop) (vw : Nat → Option VW) : V → Value → Prop
  | .func f cap, v => ∃ vs : List Value, v = .func (.func f) #[] vs.toArray ∧ All2 (VRel0 P w Pr vw) cap vs
  | .iface t x, v => ∃ u, v = .iface t u ∧ VRel0 P w Pr vw x u
  | .agg cs, v => ∃ vs : List Value, v = .agg vs.toArray ∧ All2 (fun c u => VRel0 P w Pr vw c u ∧ u.oneCell' = true) cs vs
  | x, v => VRel0 P w Pr vw x v

def VRel (w : World) (Pr : Nat → Prop) (vw : Nat → Option VW) : V → Value → Prop
  | .tup xs, v => ∃ vs : List Value, v = .tuple vs.toArray ∧ All2 (VRel1 P w Pr vw) xs vs
  | x, v => VRel1 P w Pr vw x v

section mono
variable {w w' : World} {Pr Pr' : Nat → Prop} {vw vw' : Nat → Option VW}

theorem VRel0.mono (hp : ∀ b, Pr b → Pr' b) (hw : ∀ b, Pr b → w'.heap[b]? = w.heap[b]?) {v : V} (hv : ∀ id ∈ ids0 v, vw id ≠ none → vw' id = vw id) {x : Value} (h : VRel0 P w Pr vw v x) : VRel0 P w' Pr' vw' v x := by
  have key : ∀ id u, id ∈ ids0 v → vw id = some u → vw' id = some u := fun id u hi hu => by rw [hv id hi (by simp [hu])]; exact hu
  cases v with
  | d x => exact DRel.mono hp hw h
  | arr id =>
    rcases h with ⟨e, n, h', h1, h2⟩ | ⟨s, lens, b, cap, inner, h1, h2⟩
    · exact .inl ⟨e, n, h', key _ _ (by simp [ids0]) h1, h2⟩
    · exact .inr ⟨s, lens, b, cap, inner, key _ _ (by simp [ids0]) h1, h2⟩
  | inn id i => obtain ⟨s, lens, b, cap, inner, n, h', h1, h2⟩ := h; exact ⟨s, lens, b, cap, inner, n, h', key _ _ (by simp [ids0]) h1, h2⟩
  | win id lo n => obtain ⟨e, len, h', wd, a, cap, h1, h2⟩ := h; exact ⟨e, len, h', wd, a, cap, key _ _ (by simp [ids0]) h1, h2⟩
  | ptr id off => obtain ⟨b, h1, h2⟩ := h; exact ⟨b, key _ _ (by simp [ids0]) h1, h2⟩
  | eptr id i sub =>
    rcases h with ⟨e, n, b, cap, wd, h1, h2⟩ | ⟨s, lens, b, cap, inner, h1, h2⟩
    · exact .inl ⟨e, n, b, cap, wd, key _ _ (by simp [ids0]) h1, h2⟩
    · exact .inr ⟨s, lens, b, cap, inner, key _ _ (by simp [ids0]) h1, h2⟩
  | iptr id i k => obtain ⟨s, lens, b, cap, inner, n, e, b', cap', wd, h1, h2⟩ := h; exact ⟨s, lens, b, cap, inner, n, e, b', cap', wd, key _ _ (by simp [ids0]) h1, h2⟩
  | dptr x sub =>
    obtain ⟨b, o, hb, hx, hc⟩ := h
    exact ⟨b, o, hp b hb, hx, fun j y hy => by rw [cell_same (hw b hb)]; obtain ⟨u, g1, g2, g3⟩ := hc j y hy; exact ⟨u, g1, g2, g3.mono hp hw⟩⟩
  | emp b => cases b <;> exact h
  | _ => exact h

theorem VRel1.mono (hp : ∀ b, Pr b → Pr' b) (hw : ∀ b, Pr b → w'.heap[b]? = w.heap[b]?) {v : V} (hv : ∀ id ∈ ids1 v, vw id ≠ none → vw' id = vw id) {x : Value} (h : VRel1 P w Pr vw v x) : VRel1 P w' Pr' vw' v x := by
  have key : (∀ id ∈ ids0 v, vw id ≠ none → vw' id = vw id) → VRel0 P w Pr vw v x → VRel0 P w' Pr' vw' v x := fun a b => VRel0.mono P hp hw a b
  cases v with
  | func f cap =>
    obtain ⟨vs, rfl, h⟩ := h
    exact ⟨vs, rfl, All2.monoMem (fun a ha b hab => hab.mono P hp hw (fun id hi => hv id (List.mem_flatMap.2 ⟨a, ha, hi⟩))) h⟩
  | iface t y => obtain ⟨u, rfl, h⟩ := h; exact ⟨u, rfl, h.mono P hp hw (by simpa only [ids1] using hv)⟩
  | agg cs =>
    obtain ⟨vs, rfl, h⟩ := h
    exact ⟨vs, rfl, All2.monoMem (fun a ha b hab => ⟨hab.1.mono P hp hw (fun id hi => hv id (List.mem_flatMap.2 ⟨a, ha, hi⟩)), hab.2⟩) h⟩
  | _ => exact key hv h

theorem VRel.mono (hp : ∀ b, Pr b → Pr' b) (hw : ∀ b, Pr b → w'.heap[b]? = w.heap[b]?) {v : V} (hv : ∀ id ∈ idsV v, vw id ≠ none → vw' id = vw id) {x : Value} (h : VRel P w Pr vw v x) : VRel P w' Pr' vw' v x := by
  have key : (∀ id ∈ ids1 v, vw id ≠ none → vw' id = vw id) → VRel1 P w Pr vw v x → VRel1 P w' Pr' vw' v x := fun a b => VRel1.mono P hp hw a b
  cases v with
  | tup xs =>
    obtain ⟨vs, rfl, h⟩ := h
    exact ⟨vs, rfl, All2.monoMem (fun a ha b hab => hab.mono P hp hw (fun id hi => hv id (List.mem_flatMap.2 ⟨a, ha, hi⟩))) h⟩
  | _ => exact key hv h
end mono

/-- The cells of a list, in line. -/
def Rows' (w : World) (Pr : Nat → Prop) (wd : Nat) (xs : List D) (cs : List Value) : Prop :=
  (∀ u ∈ cs, u.oneCell' = true) ∧ ∀ (i : Nat) (x : D), xs[i]? = some x → x.cells.length = wd ∧ ∀ (j : Nat) (y : D), x.cells[j]? = some y → ∃ u, cs[i * wd + j]? = some u ∧ DRel w Pr y u

def BRel (w : World) (Pr : Nat → Prop) (vw : Nat → Option VW) : B → CB → Prop
  | .box cells, .box b => ∃ c e, w.heap[b]? = some (.cells c e (0, 0)) ∧ All2 (fun v u => VRel1 P w Pr vw v u ∧ u.oneCell' = true) cells c.toList
  | .lst e xs, .lst h => ∃ wd cs, szOf P e = some wd ∧ OwnR w e wd h xs.length cs ∧ Rows' w Pr wd xs cs
  | .lst2 s xss, .lst2 b cap inner => ∃ cur e wd, w.heap[b]? = some (.cells cur s (0, 0)) ∧ xss.length ≤ cap ∧ cap ≤ maxLen ∧ cur.size = cap ∧ inner.length = xss.length ∧ szOf P s = some 1 ∧
      elemOf P s = some e ∧ szOf P e = some wd ∧ (∀ u ∈ cur.toList, u.oneCell' = true) ∧
      ∀ (i : Nat) (ys : List D) (h : H), xss[i]? = some (some ys) → inner[i]? = some h → cur[i]? = some (hdr h ys.length) ∧ ∃ cs, OwnR w e wd h ys.length cs ∧ Rows' w Pr wd ys cs
  | .dead, .dead => True
  | _, _ => False

def owns (μ : List CB) : List Nat := μ.flatMap CB.own

/-- The store. -/
structure SRel (bl : List B) (w : World) (μ : List CB) (Pr : Nat → Prop) : Prop where
  mu : μ.length = bl.length
  blks : ∀ (id : Nat) (b : B) (c : CB), bl[id]? = some b → μ[id]? = some c → BRel P w Pr (view bl μ) b c
  nodup : (owns μ).Nodup
  lt : ∀ b ∈ owns μ, b < w.heap.size ∧ ¬ Pr b
  pr : ∀ b, Pr b → b < w.heap.size

/-- A frame over its store. -/
structure Rel (s : St) (a : Act) (w : World) (μ : List CB) (Pr : Nat → Prop) : Prop extends SRel P s.blks w μ Pr where
  defers : a.defers = []
  len : s.slots.length = a.tmps.size
  slots : ∀ (n : Nat) (v : V), s.slots[n]? = some v → VRel P w Pr (view s.blks μ) v (a.tmps.getD n undef)

/-- What becomes of memory. -/
structure Evo (O : List Nat) (Pr : Nat → Prop) (w : World) (O' : List Nat) (Pr' : Nat → Prop) (w' : World) : Prop where
  os : w'.os = w.os
  tape : w'.tape = w.tape
  output : w'.output = w.output
  size : w.heap.size ≤ w'.heap.size
  block : ∀ k, k < w.heap.size → k ∉ O → w'.heap[k]? = w.heap[k]?
  own : ∀ k ∈ O', k ∈ O ∨ w.heap.size ≤ k
  prm : ∀ b, Pr b → Pr' b
  prn : ∀ b, Pr' b → Pr b ∨ b ∈ O ∨ w.heap.size ≤ b

theorem Evo.refl (O : List Nat) (Pr : Nat → Prop) (w : World) : Evo O Pr w O Pr w := ⟨rfl, rfl, rfl, Nat.le_refl _, fun _ _ _ => rfl, fun _ h => .inl h, fun _ h => h, fun _ h => .inl h⟩
theorem Evo.trans {O O1 O2 : List Nat} {Pr Pr1 Pr2 : Nat → Prop} {w w1 w2 : World} (h : Evo O Pr w O1 Pr1 w1) (k : Evo O1 Pr1 w1 O2 Pr2 w2) : Evo O Pr w O2 Pr2 w2 where
  os := k.os.trans h.os
  tape := k.tape.trans h.tape
  output := k.output.trans h.output
  size := Nat.le_trans h.size k.size
  block i hi ho := by
    rw [k.block i (Nat.lt_of_lt_of_le hi h.size) (fun hm => by rcases h.own i hm with h1 | h1; exact ho h1; omega)]
    exact h.block i hi ho
  own i hi := by
    rcases k.own i hi with h1 | h1
    · exact h.own i h1
    · exact .inr (Nat.le_trans h.size h1)
  prm b hb := k.prm b (h.prm b hb)
  prn b hb := by
    rcases k.prn b hb with h1 | h1 | h1
    · exact h.prn b h1
    · rcases h.own b h1 with h2 | h2
      · exact .inr (.inl h2)
      · exact .inr (.inr h2)
    · exact .inr (.inr (Nat.le_trans h.size h1))

end Go.Proofs.Ytbbefbgomdmldaa.Ab
