/- append. -/
import Derived.Test.YtbbefbgomdmldaaAbsOpI
import Derived.Deep.AppendSrc
namespace Go.Proofs.Ytbbefbgomdmldaa.Ab
open Go
set_option linter.unusedVariables false
set_option linter.unusedSimpArgs false

variable {P : Program} {O : Orc} {s : St} {sc sc' : Script} {w w' : World} {Pr Pr' : Nat → Prop} {vw vw' : Nat → Option VW} {bl : List B} {μ : List CB} {a : Act}

/-- Memory but for some blocks as it was. -/
structure Same (w w' : World) (S : Nat → Prop) : Prop where
  os : w'.os = w.os
  tape : w'.tape = w.tape
  output : w'.output = w.output
  size : w.heap.size ≤ w'.heap.size
  block : ∀ k, k < w.heap.size → ¬ S k → w'.heap[k]? = w.heap[k]?


/-- 'append' onto a row of the call's own. -/
theorem append_row {t tx ty e : TypeId} {i : TypeInfo} {z : Value} (ht : P.underlying t = some (.slice e)) (hi : P.info? e = some i) (hz : i.zero = some z) (hzs : z.cells.size = i.size) (hsz : 0 < i.size)
    {hh : H} {n m : Nat} {cs news : List Value} {x : Value} (ho : OwnR w e i.size hh n cs) (hcs1 : ∀ u ∈ cs, u.oneCell' = true) (hs : Src P i.size tx x m news w)
    (hm : n + m ≤ maxItems) (hb : maxItems * i.bytes ≤ 140737488355328) :
    ∃ hh' w', (Builtin.append_ #[t, tx] ty #[hdr hh n, x]).run P w = .ok (hdr hh' (n + m)) w' ∧ OwnR w' e i.size hh' (n + m) (cs ++ news) ∧ Same w w' (· ∈ hh.own) ∧
      (hh' = hh ∨ ∃ cap, hh' = .row w.heap.size cap ∧ w.heap.size < w'.heap.size) := by
  have hmi : maxItems = 1099511627776 := by decide
  have hml : maxLen = 9223372036854775807 := by decide
  have hcl : cs.length = n * i.size := by
    cases hh with
    | zero a => rw [ho.1, ho.2]; simp
    | row b cap => exact ho.1
  have hlen : (cs ++ news).length = (n + m) * i.size := by rw [List.length_append, hcl, hs.newsLen, Nat.add_mul]
  have grown : ∀ (old : Nat), old < n + m → ∀ (base : Option Addr) (olds : cs = cs), (Builtin.firstCells i.size n (.slice base n old)).run P w.drew = .ok cs.toArray w.drew →
      ∃ hh' w', (Builtin.append_ #[t, tx] ty #[.slice base n old, x]).run P w = .ok (hdr hh' (n + m)) w' ∧ OwnR w' e i.size hh' (n + m) (cs ++ news) ∧ Same w w' (fun _ => False) ∧
      (∃ cap, hh' = .row w.heap.size cap ∧ w.heap.size < w'.heap.size) := by
    intro old hold base _ hfirst
    have hfit : Builtin.nextslicecap (n + m) old * i.bytes ≤ 281474976710656 := growslice_fits hold (Nat.le_trans (Nat.mul_le_mul_right _ hm) hb)
    have hr := run_append_grow_src (P := P) w t tx ty e i z ht hi hz base n old cs hfirst x m news hs hold (by omega) hfit
    have hge := grownCap_ge w (n + m) old e
    have hcm : grownCap w (n + m) old e ≤ maxLen := grownCap_le_maxLen w (n + m) old e (by omega)
    refine ⟨.row w.heap.size (grownCap w (n + m) old e), _, hr, ⟨hlen, .inr ⟨w.heap.size, _, _, rfl, Nat.zero_le _, heap_alloc_new w.drew _, hge, hcm, ?_, ?_⟩⟩, ⟨rfl, rfl, rfl, by simp, fun k hk _ => heap_alloc_old w.drew _ k hk⟩, _, rfl, by simp⟩
    · simp only [Array.size_append, List.size_toArray, size_zeroCells, hzs, hlen, ← Nat.add_mul]
      congr 1
      omega
    · simp only [Array.toList_append]
      rw [← hlen]
      exact List.take_left
  cases hh with
  | zero q =>
    obtain ⟨rfl, rfl⟩ := ho
    by_cases hm0 : m = 0
    · subst hm0
      have hnews : news = [] := List.eq_nil_of_length_eq_zero (by simpa using hs.newsLen)
      subst hnews
      refine ⟨.zero q, w, ?_, ⟨rfl, rfl⟩, ⟨rfl, rfl, rfl, Nat.le_refl _, fun _ _ _ => rfl⟩, .inl rfl⟩
      rcases hs.kind with ⟨e', hk⟩ | hk <;> cases q <;> simp [Builtin.append_, run_underlying ht, run_underlying hk, sizeOf, typeInfo, hi, hs.len, hs.cells, hdr, storeCells]
    · obtain ⟨hh', w', h1, h2, h3, h4⟩ := grown 0 (by omega) q rfl (by cases q <;> simp [Builtin.firstCells, loadCells, loadCellsFrom])
      exact ⟨hh', w', h1, h2, ⟨h3.os, h3.tape, h3.output, h3.size, fun k hk _ => h3.block k hk id⟩, .inr h4⟩
  | row g cap =>
    rcases ho.2 with ⟨hv, _⟩ | ⟨g', cap', cur, hv, hbg, hg, hnc, hcm, hcz, htake⟩
    · simp at hv
    · simp at hv
      obtain ⟨rfl, rfl⟩ := hv
      by_cases hroom : n + m ≤ cap
      · have hfit : n * i.size + 0 + news.length ≤ cur.size := by rw [hs.newsLen, hcz, Nat.add_zero, ← Nat.add_mul]; exact Nat.mul_le_mul_right _ hroom
        have hst := run_storeCells_at P g (n * i.size) e news 0 cur w hg hfit hs.one
        simp only [Nat.add_zero] at hst hfit
        refine ⟨.row g cap, w.setRow g (cur.toList.take (n * i.size) ++ news ++ cur.toList.drop (n * i.size + news.length)).toArray, ?_, ⟨hlen, .inr ⟨g, cap, _, rfl, hbg, setRow_heap w g cur _ e _ hg, hroom, hcm, ?_, ?_⟩⟩, ⟨rfl, rfl, rfl, by simp, fun k hk hS => setRow_other w g k _ (fun e => hS (by simp [H.own, e]))⟩, .inl rfl⟩
        · rcases hs.kind with ⟨e', hk⟩ | hk <;> simp [Builtin.append_, run_underlying ht, run_underlying hk, sizeOf, typeInfo, hi, hs.len, hroom, hs.cells, Addr.add_lit, hst, hdr]
        · simp only [List.size_toArray, List.length_append, List.length_take, List.length_drop, Array.length_toList]
          omega
        · rw [htake, ← hlen]
          exact List.take_left
      · have hfirst : (Builtin.firstCells i.size n (.slice (some ⟨g, 0, none⟩) n cap)).run P w.drew = .ok cs.toArray w.drew := by
          refine run_firstCells_some w.drew i.size n ⟨g, 0, none⟩ n cap cs ho.1 (fun j v hj => ?_)
          have := World.ownsRow.cells ho (g := g) rfl j v hj
          simpa using this
        obtain ⟨hh', w', h1, h2, h3, h4⟩ := grown cap (by omega) _ rfl hfirst
        exact ⟨hh', w', h1, h2, ⟨h3.os, h3.tape, h3.output, h3.size, fun k hk _ => h3.block k hk id⟩, .inr h4⟩

/-- Elements read in line. -/
theorem flat_reads {wd b o : Nat} {ys : List D} (h : Reads w Pr wd ys b o) : ∃ news : List Value, news.length = ys.length * wd ∧ (∀ j v, news[j]? = some v → w.cell? ⟨b, o + j, none⟩ = some v) ∧ (∀ u ∈ news, u.oneCell' = true) ∧
    ∀ i y, ys[i]? = some y → ∀ j d, y.cells[j]? = some d → ∃ u, news[i * wd + j]? = some u ∧ DRel w Pr d u := by
  have hcell : ∀ k, k < ys.length * wd → ∃ u, w.cell? ⟨b, o + k, none⟩ = some u ∧ u.oneCell' = true := by
    intro k hk
    have hwd : 0 < wd := by rcases Nat.eq_zero_or_pos wd with h0 | h0; rw [h0] at hk; simp at hk; exact h0
    have hi : k / wd < ys.length := (Nat.div_lt_iff_lt_mul hwd).2 hk
    have hj : k % wd < wd := Nat.mod_lt _ hwd
    have hl := h.1 (k / wd) ys[k / wd] (List.getElem?_eq_getElem hi)
    obtain ⟨u, h1, h2, _⟩ := h.2 (k / wd) ys[k / wd] (k % wd) (ys[k / wd].cells[k % wd]'(by omega)) (List.getElem?_eq_getElem hi) (List.getElem?_eq_getElem _)
    refine ⟨u, ?_, h2⟩
    rw [← h1]; congr 2
    have := Nat.div_add_mod' k wd
    omega
  let f : Nat → Value := fun k => (w.cell? ⟨b, o + k, none⟩).getD undef
  have hf : ∀ k, k < ys.length * wd → ((List.range (ys.length * wd)).map f)[k]? = some (f k) := by
    intro k hk; simp [hk]
  refine ⟨(List.range (ys.length * wd)).map f, by simp, fun j v hj => ?_, fun u hu => ?_, fun i y hy j d hd => ?_⟩
  · have hlt : j < ys.length * wd := by have := (List.getElem?_eq_some_iff.1 hj).1; simpa using this
    rw [hf j hlt] at hj
    obtain ⟨u, h1, _⟩ := hcell j hlt
    simp only [f, h1, Option.getD_some, Option.some.injEq] at hj
    rw [h1, hj]
  · obtain ⟨k, hk, rfl⟩ := List.mem_map.1 hu
    obtain ⟨u, h1, h2⟩ := hcell k (by simpa using hk)
    simp only [f, h1, Option.getD_some]
    exact h2
  · obtain ⟨u, h1, _, h3⟩ := h.2 i y j d hy hd
    have hil : i < ys.length := (List.getElem?_eq_some_iff.1 hy).1
    have hjl : j < wd := by rw [← h.1 i y hy]; exact (List.getElem?_eq_some_iff.1 hd).1
    have hlt : i * wd + j < ys.length * wd := by
      have : (i + 1) * wd ≤ ys.length * wd := Nat.mul_le_mul_right _ hil
      rw [Nat.add_mul] at this; omega
    refine ⟨u, ?_, h3⟩
    rw [hf _ hlt]
    have e1 : o + (i * wd + j) = o + i * wd + j := by omega
    simp only [f, e1, h1, Option.getD_some]

/-- What is appended, as the model reads it. -/
theorem src_of_items (hS : SRel P s.blks w μ Pr) {v : V} {x : Value} {ys : List D} {tx : TypeId} {sz : Nat} (hk : (∃ e', P.underlying tx = some (.slice e')) ∨ P.underlying tx = some .string)
    (hv : VRel P w Pr (view s.blks μ) v x) (h : Hold O s (items v) sc ys sc') (hw : ∀ y ∈ ys, y.cells.length = sz) (hsz : 0 < sz) :
    ∃ news, Src P sz tx x ys.length news w ∧ ∀ i y, ys[i]? = some y → y.cells.length = sz ∧ ∀ j d, y.cells[j]? = some d → ∃ u, news[i * sz + j]? = some u ∧ DRel w Pr d u := by
  have hv0 := items_simple hv h
  rcases items_ok hS hv0 h with ⟨q, rfl, rfl⟩ | ⟨base, cap, rfl, hor⟩
  · have hl : (q.data.toList.map u8).length = q.size := by simp
    have hsz1 : q.size ≠ 0 → sz = 1 := by
      intro hq
      cases hd : q.data.toList with
      | nil => have := hl; simp [hd] at this; omega
      | cons b r => have := hw (u8 b) (by simp [hd]); simpa [u8, D.cells] using this.symm
    refine ⟨byteCells q, ⟨hk, fun w' => by simp [Builtin.lenOf], ?_, ?_, ?_, fun u hu => by obtain ⟨_, _, rfl⟩ := List.mem_map.1 hu; rfl⟩, fun i y hy => ⟨hw y (List.mem_of_getElem? hy), fun j d hd => ?_⟩⟩
    · rw [hl]
      simp [Builtin.firstCells, byteCells]
      apply Array.ext'
      simp
    · rw [hl]
      simp [Builtin.firstCells, byteCells]
      apply Array.ext'
      simp
    · rw [hl, byteCells_length]
      by_cases hq : q.size = 0
      · simp [hq]
      · rw [hsz1 hq, Nat.mul_one]
    · rw [List.getElem?_map, Option.map_eq_some_iff] at hy
      obtain ⟨b, hb, rfl⟩ := hy
      have hq : q.size ≠ 0 := by have := (List.getElem?_eq_some_iff.1 hb).1; simp at this; omega
      obtain rfl := hsz1 hq
      cases j with
      | zero =>
        simp [u8, D.cells] at hd
        subst hd
        exact ⟨.int .u8 b.toNat, by simp [byteCells, hb], .int _ _⟩
      | succ j => simp [u8, D.cells] at hd
  · rcases hor with rfl | ⟨b, o, wd, rfl, hr⟩
    · refine ⟨[], ⟨hk, fun _ => rfl, ?_, ?_, by simp, by simp⟩, by simp⟩ <;> cases base <;> simp [Builtin.firstCells, loadCells, loadCellsFrom]
    · obtain ⟨news, h1, h2, h3, h4⟩ := flat_reads hr
      by_cases hys : ys = []
      · subst hys
        refine ⟨[], ⟨hk, fun _ => rfl, ?_, ?_, by simp, by simp⟩, by simp⟩ <;> simp [Builtin.firstCells, loadCells, loadCellsFrom]
      · have hwd : wd = sz := by
          obtain ⟨y, r, rfl⟩ := List.exists_cons_of_ne_nil hys
          rw [← hr.1 0 y rfl, hw y (List.mem_cons_self ..)]
        subst hwd
        have hc : ∀ j v, news[j]? = some v → w.cell? ((⟨b, o, none⟩ : Addr).add j) = some v := fun j v hj => by rw [Addr.add_mid]; exact h2 j v hj
        refine ⟨news, ⟨hk, fun _ => rfl, run_firstCells_some w wd _ _ _ _ news h1 hc, run_firstCells_some w.drew wd _ _ _ _ news h1 (by simpa using hc), h1, h3⟩, fun i y hy => ⟨hr.1 i y hy, h4 i y hy⟩⟩

end Go.Proofs.Ytbbefbgomdmldaa.Ab
