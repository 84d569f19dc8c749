/- The row of AsciiReset. -/
import Derived.Test.YtihbpbdmhiihnaaDoorReE
import Derived.Test.YtihbpbdmhiihnaaDoorReC
import Derived.Test.YtihbpbdmhiihnaaDoorReD
import Derived.Test.YtihbpbdmhiihnaaDoorRows
import Derived.Test.YtihbpbdmhiihnaaDoorCards
import Derived.Test.YtihbpbdmhiihnaaDoorTie
import Derived.SevenTiedAt
import Derived.Stop.Joined
/- ref07: Digits, Line, Written, Raw, Lines, whole. -/
namespace Go.Proofs.YtihbpbdmhiihnaaDoor.Sy.R7
open Go Go.Proofs.YtihbpbdmhiihnaaDoor.Ab Go.Proofs.YtihbpbdmhiihnaaDoor.Sy Go.Proofs.YtihbpbdmhiihnaaDoor.Pl Go.Proofs.YtihbpbdmhiihnaaDoor.Sy.Asc
set_option maxRecDepth 1000000
set_option linter.unusedVariables false
theorem dig (k : Nat) (h : k < 10) : [D.int IntKind.u8 (48 + (k : Int))] = List.map u8 [UInt8.ofNat (48 + k)] := by
  have : (UInt8.ofNat (48 + k)).toNat = 48 + k := by rw [UInt8.toNat_ofNat']; omega
  simp only [List.map_cons, List.map_nil, u8, this]
  rfl
theorem w8 (k : Nat) (h : k < 10) : IntKind.u8.wrap (48 + (k : Int)) = 48 + (k : Int) := by
  rw [IntKind.wrap_u8]; omega
theorem digits_loop (m : Nat) : ∀ (n : Nat) (s : List UInt8), n ≤ m → n ≤ 1000000000000000000 → s.length + n ≤ 2000000000000000000 →
    ∃ (k : Nat) (s' : List UInt8), GoesL Tryd.prog (loopOf Tryd.prog 65 0) (Hg n s) (.exit 0) (Hg k s') ∧ k < 10 ∧ UInt8.ofNat (48 + k) :: s' = Lib.decDigits n ++ s ∧ s'.length ≤ 2000000000000000000 := by
  induction m with
  | zero =>
    intro n s hn _ hs
    obtain rfl : n = 0 := by omega
    refine ⟨0, s, .stop hO hm (g2 s (0 : Nat)) (by simp) rfl, by omega, ?_, by omega⟩
    rw [Lib.decDigits, dif_pos (by omega)]; rfl
  | succ m ih =>
    intro n s hn hb hs
    by_cases h : n < 10
    · refine ⟨n, s, .stop hO hm (g2 s n) (by simp) (decide_eq_false (by omega)), h, ?_, by omega⟩
      rw [Lib.decDigits, dif_pos h]; rfl
    · obtain ⟨k, s', h1, h2, h3, h4⟩ := ih (n / 10) (UInt8.ofNat (48 + n % 10) :: s) (by omega) (by omega) (by rw [List.length_cons]; omega)
      refine ⟨k, s', ?_, h2, ?_, h4⟩
      · have e1 : (n : Int) % 10 = ((n % 10 : Nat) : Int) := by omega
        have e2 : (n : Int) / 10 = ((n / 10 : Nat) : Int) := by omega
        refine .step hO hm (g1 s n (UInt8.ofNat (48 + n % 10))) ⟨decide_eq_true (by omega), by rw [Int.tmod_eq_emod_of_nonneg (by omega)], by rw [wrap_id (by omega) (by omega)], by rw [e1]; exact w8 _ (by omega), by rw [e1]; exact dig _ (by omega), by simp; omega, ?_⟩ (by rw [e2]; exact h1)
        show IntKind.i64.wrap _ = _
        rw [Int.tdiv_eq_ediv_of_nonneg (by omega), wrap_id (by omega) (by omega)]
      · rw [h3, Lib.decDigits.eq_def n, dif_neg h, List.append_assoc]; rfl
theorem digits (n : Int) (h0 : 0 ≤ n) (h1 : n ≤ 1000000000000000000) : ICall Tryd.prog 65 [.d (I n)] [] (.d (.str (Lib.itoa n))) [] := by
  obtain ⟨m, rfl⟩ := Int.eq_ofNat_of_zero_le h0
  obtain ⟨k, s', g1', g2', g3', g4'⟩ := digits_loop m m [] (Nat.le_refl _) (by omega) (by simp; omega)
  have := callX_ok hO hm (g3 s' (k : Int) (m : Int) (UInt8.ofNat (48 + k))) ⟨g1', by rw [wrap_id (by omega) (by omega)], w8 k g2', dig k g2', by show ([UInt8.ofNat (48 + k)] : List UInt8).length + s'.length < 4611686018427387904; simp; omega⟩
  rw [g3', List.append_nil] at this
  have e : Lib.itoa ((m : Nat) : Int) = Lib.decDigits m := by unfold Lib.itoa; rw [if_neg (by omega)]; simp
  rw [e]; exact this
/-- A number that a text holds. -/
def Pos (n : Int) : Prop := 0 ≤ n ∧ n ≤ 1000000000000000000
theorem pos64 {n : Int} (h : Pos n) : I64 n := ⟨by have := h.1; omega, by have := h.2; omega⟩
theorem line_loop (ns : List Int) (hn : ∀ n ∈ ns, Pos n) (hl : ns.length ≤ 100000) (d : Nat) : ∀ (i : Nat) (s : List UInt8), ns.length - i = d → i ≤ ns.length → s.length ≤ 22 * i →
    GoesL Tryd.prog (loopOf Tryd.prog 52 0) (Hn ns s i) (.exit 0) (En (s ++ body (if i = 0 then [] else [32]) (ns.drop i))) := by
  induction d with
  | zero =>
    intro i s hd hi hs
    obtain rfl : i = ns.length := by omega
    rw [List.drop_length, body, List.append_nil]
    exact .stop hO hm (n3 s ns.length ns) (by simp) (decide_eq_false (by rw [List.length_map]; omega))
  | succ d ih =>
    intro i s hd hi hs
    have hlt : i < ns.length := by omega
    have hmem : ns.getD i default ∈ ns := by rw [List.getD_eq_getElem?_getD, List.getElem?_eq_getElem hlt]; exact List.getElem_mem hlt
    obtain ⟨p0, p1⟩ := hn _ hmem
    have h1 := Lib.itoa_length_le (ns.getD i default) (by omega) (by omega)
    have hd1 := digits _ p0 p1
    rw [drop_getD ns i hlt, body]
    by_cases hz : i = 0
    · subst hz
      rw [if_pos rfl, List.nil_append, ← List.append_assoc]
      have := ih 1 (s ++ Lib.itoa (ns.getD 0 default)) (by omega) (by omega) (by rw [List.length_append]; omega)
      rw [if_neg (by omega)] at this
      exact .step hO hm (n2 s (Lib.itoa (ns.getD 0 default)) 0 ns) ⟨decide_eq_true (by rw [List.length_map]; omega), rfl, ⟨rfl, get_map I ns 0 hlt⟩, hd1, by omega, wrap_succ (by omega)⟩ this
    · rw [if_neg hz, ← List.append_assoc, ← List.append_assoc]
      have := ih (i + 1) (s ++ [32] ++ Lib.itoa (ns.getD i default)) (by omega) (by omega) (by rw [List.length_append, List.length_append, List.length_singleton]; omega)
      rw [if_neg (by omega)] at this
      exact .step hO hm (n1 s (Lib.itoa (ns.getD i default)) i ns) ⟨decide_eq_true (by rw [List.length_map]; omega), decide_eq_true (by omega), by omega, ⟨rfl, get_map I ns i hlt⟩, hd1, by
        show (s ++ [32]).length + _ < _
        rw [List.length_append, List.length_singleton]; omega, wrap_succ (by omega)⟩ this
theorem line (ns : List Int) (hn : ∀ n ∈ ns, Pos n) (hl : ns.length ≤ 100000) : ICall Tryd.prog 52 [.d (L ns)] [] (.d (.str (lineS ns))) [] := by
  have h := line_loop ns hn hl ns.length 0 [] (by omega) (by omega) (by simp)
  rw [List.drop_zero, if_pos rfl, List.nil_append] at h
  have hb := body_len ns [] (fun n hx => pos64 (hn n hx)) (by simp)
  exact callX_ok hO hm (n4 (body [] ns) ns) ⟨h, by show (body [] ns).length + 1 < _; omega⟩
theorem pos_of {x : Int} (h : 0 ≤ x ∧ x ≤ 2001) : Pos x := ⟨h.1, by omega⟩
theorem resets {r : Rw} (h : Cir.chkR r = 0) : ∀ d ∈ r.lats, d.b = 0 ∨ d.b = 1 ∨ d.b = 2 := by
  intro d hd
  have h : chkS r.most r.ins r.lats r.ands r.bads r.cons = 0 := h
  unfold chkS at h
  by_cases c0 : r.most < 0
  · rw [if_pos c0] at h; cases h
  rw [if_neg c0] at h
  by_cases c1 : manyP r.most r.ins r.lats r.ands r.bads r.cons
  · rw [if_pos c1] at h; cases h
  rw [if_neg c1] at h
  by_cases c2 : badAny r.most r.ins r.lats r.ands r.bads r.cons = true
  · rw [if_pos c2] at h; cases h
  unfold badAny at c2
  rw [Bool.or_eq_true, not_or] at c2
  have : ¬ badRe d = true := fun c => c2.2 (List.any_eq_true.2 ⟨d, hd, c⟩)
  unfold badRe at this
  simp at this
  omega
theorem b00 : ((0 : Int) == 0) = true := rfl
theorem b10 : ¬ ((1 : Int) == 0) = true := by decide
theorem b11 : ((1 : Int) == 1) = true := rfl
theorem b20 : ¬ ((2 : Int) == 0) = true := by decide
theorem b21 : ¬ ((2 : Int) == 1) = true := by decide
section
variable {r : Rw}
theorem written (hc : Cir.chkR r = 0) : ICall Tryd.prog 28 [.d r.d] [] (.d (.str (rawS r))) [] := by
  have hT := tiny hc
  have hR := resets hc
  have hlen := hT.len
  have hl4 := hT.l4
  have hl5 := hT.l5
  have hhead : ∀ n ∈ headR r, Pos n := by
    have := hT.m
    intro n hn
    simp only [headR, List.mem_cons, List.not_mem_nil, or_false] at hn
    unfold Pos
    rcases hn with rfl | rfl | rfl | rfl | rfl | rfl | rfl <;> omega
  have hh := lineS_len (headR r) hT.head
  have hh' : (lineS (headR r)).length ≤ 155 := by simpa [headR] using hh
  have haag : aag.length = 4 := rfl
  have f1 : ∀ x ∈ r.ins, (lineS [x]).length ≤ 100 := fun x hx => line100 _ (fun n hn => by rw [List.mem_singleton.1 hn]; exact i64_of (hT.ins x hx)) (by simp)
  have f2 : ∀ d ∈ r.lats, (lineS (latL d)).length ≤ 100 := fun d hd => line100 _ (hT.lat hd).1 (hT.lat hd).2
  have f3 : ∀ x ∈ r.bads, (lineS [x]).length ≤ 100 := fun x hx => line100 _ (fun n hn => by rw [List.mem_singleton.1 hn]; exact i64_of (hT.bads x hx)) (by simp)
  have f4 : ∀ x ∈ r.cons, (lineS [x]).length ≤ 100 := fun x hx => line100 _ (fun n hn => by rw [List.mem_singleton.1 hn]; exact i64_of (hT.cons x hx)) (by simp)
  have f5 : ∀ d ∈ r.ands, (lineS [d.lit, d.a, d.b]).length ≤ 100 := fun d hd => line100 _ (hT.and hd) (by simp)
  have g1 := flat_len r.ins _ f1
  have g2 := flat_len r.lats _ f2
  have g3 := flat_len r.bads _ f3
  have g4 := flat_len r.cons _ f4
  have g5 := flat_len r.ands _ f5
  have one : ∀ x, 0 ≤ x ∧ x ≤ 2001 → (∀ n ∈ [x], Pos n) ∧ (lineS [x]).length ≤ 100 := fun x hx => ⟨fun n hn => by rw [List.mem_singleton.1 hn]; exact pos_of hx, line100 _ (fun n hn => by rw [List.mem_singleton.1 hn]; exact i64_of hx) (by simp)⟩
  have e1 := str_loop r.ins (fun i l => Hw r l [(4, .d (I i))]) (.exit 0) (fun l => Hw r l []) (fun x => lineS [x]) 1000 f1
    (fun i l hi hmem hl e s h' => .step hO hm (a1 r l _ i) ⟨decide_eq_true (by rw [List.length_map]; omega), ⟨rfl, get_map I r.ins i hi⟩, line [r.ins.getD i default] (one _ (hT.ins _ hmem)).1 (by simp), by have := (one _ (hT.ins _ hmem)).2; omega, wrap_succ (by omega)⟩ h')
    (fun l _ => .stop hO hm (a2 r l r.ins.length) (by simp) (decide_eq_false (by rw [List.length_map]; omega)))
    (aag ++ lineS (headR r)) (by rw [List.length_append]; omega)
  have e2 := str_loop r.lats (fun i l => Hw r l [(5, .d (I i))]) (.exit 2) (fun l => Hw r l []) (fun d => lineS (latL d)) 200000 f2
    (fun i l hi hmem hl e s h' => by
      obtain ⟨p1, p2⟩ := hT.lats _ hmem
      have hb := hR _ hmem
      have hlen2 := f2 _ hmem
      have hL := line (latL (r.lats.getD i default)) (fun n hn => by
        have h64 := (hT.lat hmem).1 n hn
        unfold latL at hn
        split at hn
        · simp at hn; rcases hn with rfl | rfl; exact pos_of p1; exact pos_of p2
        · split at hn
          · simp at hn; rcases hn with rfl | rfl | rfl; exact pos_of p1; exact pos_of p2; exact ⟨by omega, by omega⟩
          · simp at hn; rcases hn with rfl | rfl | rfl; exact pos_of p1; exact pos_of p2; exact pos_of p1) (by have := (hT.lat hmem).2; omega)
      have q0 : decide ((i : Int) < (((r.lats.map Df.d).length : Nat) : Int)) = true := decide_eq_true (by rw [List.length_map]; omega)
      have q1 := get_map Df.d r.lats i hi
      unfold latL at hL h' hlen2
      rcases hb with hb | hb | hb
      · rw [hb, if_pos b00] at hL h' hlen2
        exact .step hO hm (b3 r l _ i) ⟨q0, ⟨rfl, q1⟩, by rw [hb]; rfl, by rw [hb]; rfl, ⟨hL, .inr rfl⟩, by omega, wrap_succ (by omega)⟩ h'
      · rw [hb, if_neg b10, if_pos b11] at hL h' hlen2
        exact .step hO hm (b1 r l _ i) ⟨q0, ⟨rfl, q1⟩, by rw [hb]; rfl, by simp [maxItems], by rw [hb]; rfl, ⟨hL, .inr rfl⟩, by omega, wrap_succ (by omega)⟩ h'
      · rw [hb, if_neg b20, if_neg b21] at hL h' hlen2
        exact .step hO hm (b2 r l _ i) ⟨q0, ⟨rfl, q1⟩, by rw [hb]; rfl, by rw [hb]; rfl, by simp [maxItems], ⟨hL, .inr rfl⟩, by omega, wrap_succ (by omega)⟩ h')
    (fun l _ => .stop hO hm (b4 r l r.lats.length) (by simp) (decide_eq_false (by rw [List.length_map]; omega)))
    (aag ++ lineS (headR r) ++ r.ins.flatMap (fun x => lineS [x])) (by rw [List.length_append, List.length_append]; omega)
  have e3 := str_loop r.bads (fun i l => Hw r l [(8, .d (I i))]) (.exit 4) (fun l => Hw r l []) (fun x => lineS [x]) 400000 f3
    (fun i l hi hmem hl e s h' => .step hO hm (c1 r l _ i) ⟨decide_eq_true (by rw [List.length_map]; omega), ⟨rfl, get_map I r.bads i hi⟩, line [r.bads.getD i default] (one _ (hT.bads _ hmem)).1 (by simp), by have := (one _ (hT.bads _ hmem)).2; omega, wrap_succ (by omega)⟩ h')
    (fun l _ => .stop hO hm (c2 r l r.bads.length) (by simp) (decide_eq_false (by rw [List.length_map]; omega)))
    (aag ++ lineS (headR r) ++ r.ins.flatMap (fun x => lineS [x]) ++ r.lats.flatMap (fun d => lineS (latL d))) (by simp only [List.length_append]; omega)
  have e4 := str_loop r.cons (fun i l => Hw r l [(9, .d (I i))]) (.exit 6) (fun l => Hw r l []) (fun x => lineS [x]) 600000 f4
    (fun i l hi hmem hl e s h' => .step hO hm (d1 r l _ i) ⟨decide_eq_true (by rw [List.length_map]; omega), ⟨rfl, get_map I r.cons i hi⟩, line [r.cons.getD i default] (one _ (hT.cons _ hmem)).1 (by simp), by have := (one _ (hT.cons _ hmem)).2; omega, wrap_succ (by omega)⟩ h')
    (fun l _ => .stop hO hm (d2 r l r.cons.length) (by simp) (decide_eq_false (by rw [List.length_map]; omega)))
    (aag ++ lineS (headR r) ++ r.ins.flatMap (fun x => lineS [x]) ++ r.lats.flatMap (fun d => lineS (latL d)) ++ r.bads.flatMap (fun x => lineS [x])) (by simp only [List.length_append]; omega)
  have e5 := str_loop r.ands (fun i l => Hw r l [(10, .d (I i))]) (.exit 8) (fun l => Hw r l []) (fun d => lineS [d.lit, d.a, d.b]) 800000 f5
    (fun i l hi hmem hl e s h' => .step hO hm (R7.e1 r l _ i) ⟨decide_eq_true (by rw [List.length_map]; omega), ⟨rfl, get_map Df.d r.ands i hi⟩, ⟨rfl, get_map Df.d r.ands i hi⟩, ⟨rfl, get_map Df.d r.ands i hi⟩, line [(r.ands.getD i default).lit, (r.ands.getD i default).a, (r.ands.getD i default).b] (fun n hn => by
        obtain ⟨q1, q2, q3⟩ := hT.ands _ hmem
        simp at hn; rcases hn with rfl | rfl | rfl; exact pos_of q1; exact pos_of q2; exact pos_of q3) (by simp), by have := f5 _ hmem; omega, wrap_succ (by omega)⟩ h')
    (fun l _ => .stop hO hm (R7.e2 r l r.ands.length) (by simp) (decide_eq_false (by rw [List.length_map]; omega)))
    (aag ++ lineS (headR r) ++ r.ins.flatMap (fun x => lineS [x]) ++ r.lats.flatMap (fun d => lineS (latL d)) ++ r.bads.flatMap (fun x => lineS [x]) ++ r.cons.flatMap (fun x => lineS [x])) (by simp only [List.length_append]; omega)
  have hL := line (headR r) hhead (by simp [headR])
  unfold headR at hL
  refine callX_ok hO hm (w1 r (lineS (headR r)) _ _ _ _ (rawS r)) ⟨by simp only [List.length_map]; exact hL, by show 4 + (lineS (headR r)).length < _; omega, e1, e2, e3, e4, e5⟩
theorem raw_bad (h : Ref.Sm r) (hc : Cir.chkR r ≠ 0) : ICall Tryd.prog 12 [.d r.d] [] (.tup [.d (.str []), .d (I (Cir.chkR r))]) [] :=
  callX_ok hO hm (raw1 r (Cir.chkR r)) ⟨Ref.check h, bne_iff_ne.2 hc, Ref.check h⟩
theorem raw_good (h : Ref.Sm r) (hc : Cir.chkR r = 0) : ICall Tryd.prog 12 [.d r.d] [] (.tup [.d (.str (rawS r)), .d (I 0)]) [] := by
  have hck := Ref.check h
  rw [hc] at hck
  exact callX_ok hO hm (raw0 r (rawS r)) ⟨hck, rfl, written hc⟩
theorem lines_bad (h : Ref.Sm r) (hc : Cir.chkR r ≠ 0) : ICall Tryd.prog 14 [.d r.d] [] (.tup [.d (I 0), .d (I (Cir.chkR r))]) [] :=
  callX_ok hO hm (lin1 r (Cir.chkR r)) ⟨Ref.check h, bne_iff_ne.2 hc, Ref.check h⟩
theorem count (h : Ref.Sm r) : ICall Tryd.prog 29 [.d r.d] [] (.d (I (countR r))) [] := by
  have h1 := h.ins; have h2 := h.lats; have h3 := h.ands; have h4 := h.bads; have h5 := h.cons
  have := callX_ok hO hm (cnt r) ⟨by rw [wrap_id (by simp only [List.length_map]; omega) (by simp only [List.length_map]; omega)]; omega, by rw [wrap_id (by simp only [List.length_map]; omega) (by simp only [List.length_map]; omega)]; omega, by rw [wrap_id (by simp only [List.length_map]; omega) (by simp only [List.length_map]; omega)]; omega, by rw [wrap_id (by simp only [List.length_map]; omega) (by simp only [List.length_map]; omega)]; omega, by show IntKind.i64.wrap _ = _; rw [wrap_id (by simp only [List.length_map]; omega) (by simp only [List.length_map]; omega)]; omega⟩
  simp only [List.length_map] at this
  exact this
theorem lines_good (h : Ref.Sm r) (hc : Cir.chkR r = 0) : ICall Tryd.prog 14 [.d r.d] [] (.tup [.d (I (countR r)), .d (I 0)]) [] := by
  have hck := Ref.check h
  rw [hc] at hck
  exact callX_ok hO hm (lin0 r (countR r)) ⟨hck, rfl, count h⟩
end
end Go.Proofs.YtihbpbdmhiihnaaDoor.Sy.R7
/- Twin, moved: round by round. -/
namespace Go.Proofs.YtihbpbdmhiihnaaDoor.Sy.Law
open Go Go.Proofs.YtihbpbdmhiihnaaDoor.Ab Go.Proofs.YtihbpbdmhiihnaaDoor.Sy
set_option maxRecDepth 1000000
set_option linter.unusedVariables false
def TwR (r : Rw) : V := .agg [.d (I r.most), .own 3 (r.ins.map I), .own 65 (r.lats.map Df.d), .own 65 (r.ands.map Df.d), .own 3 (r.bads.map I), .own 3 (r.cons.map I)]
section
variable (r : Rw) (l : List Int) (a b c d e : List D) (u : Df) (v x y z : Int) (i : Nat) (a1 b1 c1 d1 e1 : List D) (ps : List (Int × Int)) (ll : List D) (p q : Int) (w : Nat) (r2 : Rw) (cc : Ci) (g g2 l1 : List Int) (ee : Int)
theorem tw  : callX Tryd.prog wr false O 10 [.d r.d] [] [It.raw, It.own, It.raw, It.raw, It.own, It.raw, It.raw, It.own, It.raw, It.raw, It.own, It.raw, It.raw, It.own, It.raw] = some (TwR r, [],
  [∀ (y : D), y ∈ List.map I r.ins → y.cells.length = (fun x => x.size) Tryd.prog.types[3],
   (List.map I r.ins).length ≤ maxItems,
   ∀ (y : D), y ∈ List.map Df.d r.lats → y.cells.length = (fun x => x.size) Tryd.prog.types[65],
   (List.map Df.d r.lats).length ≤ maxItems,
   ∀ (y : D), y ∈ List.map Df.d r.ands → y.cells.length = (fun x => x.size) Tryd.prog.types[65],
   (List.map Df.d r.ands).length ≤ maxItems,
   ∀ (y : D), y ∈ List.map I r.bads → y.cells.length = (fun x => x.size) Tryd.prog.types[3],
   (List.map I r.bads).length ≤ maxItems,
   ∀ (y : D), y ∈ List.map I r.cons → y.cells.length = (fun x => x.size) Tryd.prog.types[3],
   (List.map I r.cons).length ≤ maxItems]) := by kernel_rfl
end
end Go.Proofs.YtihbpbdmhiihnaaDoor.Sy.Law
/- ref03.Same, AsciiRaws: round by round. -/
namespace Go.Proofs.YtihbpbdmhiihnaaDoor.Sy.Rq
open Go Go.Proofs.YtihbpbdmhiihnaaDoor.Ab Go.Proofs.YtihbpbdmhiihnaaDoor.Sy
set_option maxRecDepth 1000000
set_option linter.unusedVariables false
def Hq (a b : List Df) (i : Nat) : St := ⟨mk 26 [(0, .d (.sl (a.map Df.d))), (1, .d (.sl (b.map Df.d))), (5, .d (I i))] [], []⟩
def Eq0 : St := ⟨mk 26 [] [], []⟩
def Rq : St := ⟨mk 26 [(4, .d (.bool false))] [], []⟩
section
variable (r r2 : Rw) (s s1 : List UInt8) (n e : Int) (i : Nat) (a b : List Df) (t : Bool)
theorem q1 : round Tryd.prog wr false O (loopOf Tryd.prog 31 0) (Hq a b i) [It.br true, It.el i (a.getD i default).d, It.el i (b.getD i default).d, It.br true] [4] 0 = some (.ret, Rq,
  [decide ((↑i : Int) < (↑(List.map Df.d a).length : Int)) = true,
   (↑i : Int) = (↑i : Int) ∧ (List.map Df.d a)[i]? = some (a.getD i default).d,
   (↑i : Int) = (↑i : Int) ∧ (List.map Df.d b)[i]? = some (b.getD i default).d,
   (!decide ([(a.getD i default).lit, (a.getD i default).a, (a.getD i default).b] = [(b.getD i default).lit, (b.getD i default).a, (b.getD i default).b])) = true]) := by kernel_rfl
theorem q2 : round Tryd.prog wr false O (loopOf Tryd.prog 31 0) (Hq a b i) [It.br true, It.el i (a.getD i default).d, It.el i (b.getD i default).d, It.br false, It.is (↑(i + 1) : Int)] [0, 1, 5] 0 = some (.normal, Hq a b (i + 1),
  [decide ((↑i : Int) < (↑(List.map Df.d a).length : Int)) = true,
   (↑i : Int) = (↑i : Int) ∧ (List.map Df.d a)[i]? = some (a.getD i default).d,
   (↑i : Int) = (↑i : Int) ∧ (List.map Df.d b)[i]? = some (b.getD i default).d,
   (!decide ([(a.getD i default).lit, (a.getD i default).a, (a.getD i default).b] = [(b.getD i default).lit, (b.getD i default).a, (b.getD i default).b])) = false,
   IntKind.i64.wrap ((↑i : Int) + 1) = (↑(i + 1) : Int)]) := by kernel_rfl
theorem q3 : round Tryd.prog wr false O (loopOf Tryd.prog 31 0) (Hq a b i) [It.br false] [] 0 = some (.exit 0, Eq0,
  [decide ((↑i : Int) < (↑(List.map Df.d a).length : Int)) = false]) := by kernel_rfl
theorem q4  : callX Tryd.prog wr false O 31 [.d (.sl (a.map Df.d)), .d (.sl (b.map Df.d))] [] [It.br true] = some (V.d (D.bool false), [],
  [((↑(List.map Df.d a).length : Int) != (↑(List.map Df.d b).length : Int)) = true]) := by kernel_rfl
theorem q5  : callX Tryd.prog wr false O 31 [.d (.sl (a.map Df.d)), .d (.sl (b.map Df.d))] [] [It.br false, It.lp [0, 1, 5] (Ex.exit 0) Eq0] = some (V.d (D.bool true), [],
  [((↑(List.map Df.d a).length : Int) != (↑(List.map Df.d b).length : Int)) = false,
   GoesL Tryd.prog (loopOf Tryd.prog 31 0) (⟨mk 26 [(0, V.d (D.sl (List.map Df.d a))), (1, V.d (D.sl (List.map Df.d b))), (5, V.d (D.int IntKind.i64 0))] [], []⟩) (Ex.exit 0) (Eq0)]) := by kernel_rfl
theorem q6  : callX Tryd.prog wr false O 31 [.d (.sl (a.map Df.d)), .d (.sl (b.map Df.d))] [] [It.br false, It.lp [0, 1, 5] Ex.ret Rq] = some (V.d (D.bool false), [],
  [((↑(List.map Df.d a).length : Int) != (↑(List.map Df.d b).length : Int)) = false,
   GoesL Tryd.prog (loopOf Tryd.prog 31 0) (⟨mk 26 [(0, V.d (D.sl (List.map Df.d a))), (1, V.d (D.sl (List.map Df.d b))), (5, V.d (D.int IntKind.i64 0))] [], []⟩) (Ex.ret) (Rq)]) := by kernel_rfl
theorem m0  : callX Tryd.prog wr false O 15 [.d r.d, .d r2.d] [] [It.br true, It.icall [] (V.d (D.bool false)) []] = some (V.d (D.bool false), [],
  [(r.most == r2.most) = true,
   ICall Tryd.prog 30 [V.d (L r.ins), V.d (L r2.ins)] [] (V.d (D.bool false)) []]) := by kernel_rfl
theorem m1  : callX Tryd.prog wr false O 15 [.d r.d, .d r2.d] [] [It.br true, It.icall [] (V.d (D.bool true)) [], It.icall [] (V.d (D.bool false)) []] = some (V.d (D.bool false), [],
  [(r.most == r2.most) = true,
   ICall Tryd.prog 30 [V.d (L r.ins), V.d (L r2.ins)] [] (V.d (D.bool true)) [],
   ICall Tryd.prog 31 [V.d (D.sl (List.map Df.d r.lats)), V.d (D.sl (List.map Df.d r2.lats))] [] (V.d (D.bool false)) []]) := by kernel_rfl
theorem m2  : callX Tryd.prog wr false O 15 [.d r.d, .d r2.d] [] [It.br true, It.icall [] (V.d (D.bool true)) [], It.icall [] (V.d (D.bool true)) [], It.icall [] (V.d (D.bool false)) []] = some (V.d (D.bool false), [],
  [(r.most == r2.most) = true,
   ICall Tryd.prog 30 [V.d (L r.ins), V.d (L r2.ins)] [] (V.d (D.bool true)) [],
   ICall Tryd.prog 31 [V.d (D.sl (List.map Df.d r.lats)), V.d (D.sl (List.map Df.d r2.lats))] [] (V.d (D.bool true)) [],
   ICall Tryd.prog 31 [V.d (D.sl (List.map Df.d r.ands)), V.d (D.sl (List.map Df.d r2.ands))] [] (V.d (D.bool false)) []]) := by kernel_rfl
theorem m3  : callX Tryd.prog wr false O 15 [.d r.d, .d r2.d] [] [It.br true, It.icall [] (V.d (D.bool true)) [], It.icall [] (V.d (D.bool true)) [], It.icall [] (V.d (D.bool true)) [], It.icall [] (V.d (D.bool false)) []] = some (V.d (D.bool false), [],
  [(r.most == r2.most) = true,
   ICall Tryd.prog 30 [V.d (L r.ins), V.d (L r2.ins)] [] (V.d (D.bool true)) [],
   ICall Tryd.prog 31 [V.d (D.sl (List.map Df.d r.lats)), V.d (D.sl (List.map Df.d r2.lats))] [] (V.d (D.bool true)) [],
   ICall Tryd.prog 31 [V.d (D.sl (List.map Df.d r.ands)), V.d (D.sl (List.map Df.d r2.ands))] [] (V.d (D.bool true)) [],
   ICall Tryd.prog 30 [V.d (L r.bads), V.d (L r2.bads)] [] (V.d (D.bool false)) []]) := by kernel_rfl
theorem m4  : callX Tryd.prog wr false O 15 [.d r.d, .d r2.d] [] [It.br true, It.icall [] (V.d (D.bool true)) [], It.icall [] (V.d (D.bool true)) [], It.icall [] (V.d (D.bool true)) [], It.icall [] (V.d (D.bool true)) [], It.icall [] (V.d (D.bool false)) []] = some (V.d (D.bool false), [],
  [(r.most == r2.most) = true,
   ICall Tryd.prog 30 [V.d (L r.ins), V.d (L r2.ins)] [] (V.d (D.bool true)) [],
   ICall Tryd.prog 31 [V.d (D.sl (List.map Df.d r.lats)), V.d (D.sl (List.map Df.d r2.lats))] [] (V.d (D.bool true)) [],
   ICall Tryd.prog 31 [V.d (D.sl (List.map Df.d r.ands)), V.d (D.sl (List.map Df.d r2.ands))] [] (V.d (D.bool true)) [],
   ICall Tryd.prog 30 [V.d (L r.bads), V.d (L r2.bads)] [] (V.d (D.bool true)) [],
   ICall Tryd.prog 30 [V.d (L r.cons), V.d (L r2.cons)] [] (V.d (D.bool false)) []]) := by kernel_rfl
theorem m5  : callX Tryd.prog wr false O 15 [.d r.d, .d r2.d] [] [It.br true, It.icall [] (V.d (D.bool true)) [], It.icall [] (V.d (D.bool true)) [], It.icall [] (V.d (D.bool true)) [], It.icall [] (V.d (D.bool true)) [], It.icall [] (V.d (D.bool true)) []] = some (V.d (D.bool true), [],
  [(r.most == r2.most) = true,
   ICall Tryd.prog 30 [V.d (L r.ins), V.d (L r2.ins)] [] (V.d (D.bool true)) [],
   ICall Tryd.prog 31 [V.d (D.sl (List.map Df.d r.lats)), V.d (D.sl (List.map Df.d r2.lats))] [] (V.d (D.bool true)) [],
   ICall Tryd.prog 31 [V.d (D.sl (List.map Df.d r.ands)), V.d (D.sl (List.map Df.d r2.ands))] [] (V.d (D.bool true)) [],
   ICall Tryd.prog 30 [V.d (L r.bads), V.d (L r2.bads)] [] (V.d (D.bool true)) [],
   ICall Tryd.prog 30 [V.d (L r.cons), V.d (L r2.cons)] [] (V.d (D.bool true)) []]) := by kernel_rfl
theorem t0  : callX Tryd.prog wr false O 15 [.d r.d, .d r2.d] [] [It.br false] = some (V.d (D.bool false), [],
  [(r.most == r2.most) = false]) := by kernel_rfl
theorem l0  : callX Tryd.prog wr false O 3 [.d r.d] [] [It.icall [] (V.d (D.bool true)) []] = some (V.d (D.bool true), [],
  [ICall Tryd.prog 9 [V.d (D.agg [I r.most, L r.ins, D.sl (List.map Df.d r.lats), D.sl (List.map Df.d r.ands), L r.bads, L r.cons])] [] (V.d (D.bool true)) []]) := by kernel_rfl
theorem l1  : callX Tryd.prog wr false O 3 [.d r.d] [] [It.icall [] (V.d (D.bool false)) [], It.icall [] (V.d r.d) [], It.icall [] (V.tup [V.d (D.str s), V.d (I n)]) [], It.icall [] (V.tup [V.d (D.str s), V.d (I n)]) [], It.icall [] (V.tup [V.d (I e), V.d (I n)]) [], It.icall [] (V.tup [V.d (I e), V.d (I n)]) [], It.br true, It.br true, It.br true, It.br true, It.icall [] (V.d (D.bool true)) []] = some (V.d (D.bool true), [],
  [ICall Tryd.prog 9 [V.d (D.agg [I r.most, L r.ins, D.sl (List.map Df.d r.lats), D.sl (List.map Df.d r.ands), L r.bads, L r.cons])] [] (V.d (D.bool false)) [],
   ICall Tryd.prog 10 [V.d (D.agg [I r.most, L r.ins, D.sl (List.map Df.d r.lats), D.sl (List.map Df.d r.ands), L r.bads, L r.cons])] [] (V.d r.d) [],
   ICall Tryd.prog 11 [V.d (D.agg [I r.most, L r.ins, D.sl (List.map Df.d r.lats), D.sl (List.map Df.d r.ands), L r.bads, L r.cons])] [] (V.tup [V.d (D.str s), V.d (I n)]) [],
   ICall Tryd.prog 12 [V.d (D.agg [I r.most, L r.ins, D.sl (List.map Df.d r.lats), D.sl (List.map Df.d r.ands), L r.bads, L r.cons])] [] (V.tup [V.d (D.str s), V.d (I n)]) [],
   ICall Tryd.prog 13 [V.d (D.agg [I r.most, L r.ins, D.sl (List.map Df.d r.lats), D.sl (List.map Df.d r.ands), L r.bads, L r.cons])] [] (V.tup [V.d (I e), V.d (I n)]) [],
   ICall Tryd.prog 14 [V.d (D.agg [I r.most, L r.ins, D.sl (List.map Df.d r.lats), D.sl (List.map Df.d r.ands), L r.bads, L r.cons])] [] (V.tup [V.d (I e), V.d (I n)]) [],
   (s == s) = true,
   (n == n) = true,
   (e == e) = true,
   (n == n) = true,
   ICall Tryd.prog 15 [V.d (D.agg [I r.most, L r.ins, D.sl (List.map Df.d r.lats), D.sl (List.map Df.d r.ands), L r.bads, L r.cons]), V.d (D.agg [I r.most, L r.ins, D.sl (List.map Df.d r.lats), D.sl (List.map Df.d r.ands), L r.bads, L r.cons])] [] (V.d (D.bool true)) []]) := by kernel_rfl
end
end Go.Proofs.YtihbpbdmhiihnaaDoor.Sy.Rq
/- ref03.Same, Twin; AsciiRaws, whole. -/
namespace Go.Proofs.YtihbpbdmhiihnaaDoor.Sy.Rq
open Go Go.Proofs.YtihbpbdmhiihnaaDoor.Ab Go.Proofs.YtihbpbdmhiihnaaDoor.Sy Go.Proofs.YtihbpbdmhiihnaaDoor.Pl
set_option maxRecDepth 1000000
set_option linter.unusedVariables false
def T3 (d : Df) : List Int := [d.lit, d.a, d.b]
theorem t3_inj {a b : Df} (h : T3 a = T3 b) : a = b := by
  cases a; cases b; unfold T3 at h; simp at h; obtain ⟨rfl, rfl, rfl⟩ := h; rfl
theorem t3_map : ∀ {a b : List Df}, a.map T3 = b.map T3 → a = b
  | [], [], _ => rfl
  | [], _ :: _, h => by simp at h
  | _ :: _, [], h => by simp at h
  | x :: a, y :: b, h => by
    simp only [List.map_cons, List.cons.injEq] at h
    rw [t3_inj h.1, t3_map h.2]
theorem loop (a b : List Df) (hl : a.length = b.length) (hs : a.length ≤ 1000000) (d : Nat) : ∀ i, a.length - i = d → i ≤ a.length →
    (a.drop i = b.drop i → GoesL Tryd.prog (loopOf Tryd.prog 31 0) (Hq a b i) (.exit 0) Eq0) ∧ (a.drop i ≠ b.drop i → GoesL Tryd.prog (loopOf Tryd.prog 31 0) (Hq a b i) .ret Rq) := by
  induction d with
  | zero =>
    intro i hd hi
    have h1 : a.drop i = b.drop i := by rw [List.drop_of_length_le (by omega), List.drop_of_length_le (by omega)]
    exact ⟨fun _ => .stop hO hm (q3 i a b) (by simp) (decide_eq_false (by rw [List.length_map]; omega)), fun h => absurd h1 h⟩
  | succ d ih =>
    intro i hd hi
    have ha : i < a.length := by omega
    have hb : i < b.length := by omega
    obtain ⟨i1, i2⟩ := ih (i + 1) (by omega) (by omega)
    have ea := drop_getD a i ha
    have eb := drop_getD b i hb
    have p1 : decide ((↑i : Int) < (↑(List.map Df.d a).length : Int)) = true := decide_eq_true (by rw [List.length_map]; omega)
    by_cases c : a.getD i default = b.getD i default
    · have q : (!decide ([(a.getD i default).lit, (a.getD i default).a, (a.getD i default).b] = [(b.getD i default).lit, (b.getD i default).a, (b.getD i default).b])) = false := by rw [c]; simp
      refine ⟨fun h => .step hO hm (q2 i a b) ⟨p1, ⟨rfl, get_map Df.d a i ha⟩, ⟨rfl, get_map Df.d b i hb⟩, q, wrap_succ (by omega)⟩ (i1 ?_), fun h => .step hO hm (q2 i a b) ⟨p1, ⟨rfl, get_map Df.d a i ha⟩, ⟨rfl, get_map Df.d b i hb⟩, q, wrap_succ (by omega)⟩ (i2 ?_)⟩
      · rw [ea, eb] at h; exact (List.cons.inj h).2
      · rw [ea, eb, c] at h; exact fun e => h (by rw [e])
    · have q : (!decide ([(a.getD i default).lit, (a.getD i default).a, (a.getD i default).b] = [(b.getD i default).lit, (b.getD i default).a, (b.getD i default).b])) = true := by
        rw [Bool.not_eq_true', decide_eq_false_iff_not]
        exact fun h => c (t3_inj h)
      have hne : a.drop i ≠ b.drop i := by rw [ea, eb]; exact fun e => c (List.cons.inj e).1
      exact ⟨fun h => absurd h hne, fun _ => .stop hO hm (q1 i a b) (by simp) ⟨p1, ⟨rfl, get_map Df.d a i ha⟩, ⟨rfl, get_map Df.d b i hb⟩, q⟩⟩
theorem sameDefs (a b : List Df) (hs : a.length ≤ 1000000) : ICall Tryd.prog 31 [.d (.sl (a.map Df.d)), .d (.sl (b.map Df.d))] [] (.d (.bool (decide (a.map T3 = b.map T3)))) [] := by
  by_cases hl : a.length = b.length
  · have hd : ((↑(List.map Df.d a).length : Int) != (↑(List.map Df.d b).length : Int)) = false := by simp [hl]
    obtain ⟨l1, l2⟩ := loop a b hl hs a.length 0 rfl (by omega)
    by_cases c : a = b
    · rw [decide_eq_true (by rw [c])]
      exact callX_ok hO hm (q5 a b) ⟨hd, l1 (by simpa using c)⟩
    · rw [decide_eq_false (fun e => c (t3_map e))]
      exact callX_ok hO hm (q6 a b) ⟨hd, l2 (by simpa using c)⟩
  · have c : a.map T3 ≠ b.map T3 := fun e => hl (by rw [t3_map e])
    rw [decide_eq_false c]
    exact callX_ok hO hm (q4 a b) (by simp [AllP]; omega)
/-- Two raw circuits are the same. -/
def sameR (r r2 : Rw) : Bool := (r.most == r2.most) && (decide (r.ins = r2.ins) && (decide (r.lats.map T3 = r2.lats.map T3) && (decide (r.ands.map T3 = r2.ands.map T3) && (decide (r.bads = r2.bads) && decide (r.cons = r2.cons)))))
theorem same (r r2 : Rw) (h1 : r.ins.length ≤ 1000000) (h2 : r.lats.length ≤ 1000000) (h3 : r.ands.length ≤ 1000000) (h4 : r.bads.length ≤ 1000000) (h5 : r.cons.length ≤ 1000000) :
    ICall Tryd.prog 15 [.d r.d, .d r2.d] [] (.d (.bool (sameR r r2))) [] := by
  have k1 := SameInts.icall r.ins r2.ins h1
  have k2 := sameDefs r.lats r2.lats h2
  have k3 := sameDefs r.ands r2.ands h3
  have k4 := SameInts.icall r.bads r2.bads h4
  have k5 := SameInts.icall r.cons r2.cons h5
  unfold sameR
  cases c0 : (r.most == r2.most) with
  | false => exact callX_ok hO hm (t0 r r2) c0
  | true =>
  revert k1
  cases decide (r.ins = r2.ins) with
  | false => intro k1; exact callX_ok hO hm (m0 r r2) ⟨c0, k1⟩
  | true =>
  intro k1
  revert k2
  cases decide (r.lats.map T3 = r2.lats.map T3) with
  | false => intro k2; exact callX_ok hO hm (m1 r r2) ⟨c0, k1, k2⟩
  | true =>
  intro k2
  revert k3
  cases decide (r.ands.map T3 = r2.ands.map T3) with
  | false => intro k3; exact callX_ok hO hm (m2 r r2) ⟨c0, k1, k2, k3⟩
  | true =>
  intro k3
  revert k4
  cases decide (r.bads = r2.bads) with
  | false => intro k4; exact callX_ok hO hm (m3 r r2) ⟨c0, k1, k2, k3, k4⟩
  | true =>
  intro k4
  revert k5
  cases decide (r.cons = r2.cons) with
  | false => intro k5; exact callX_ok hO hm (m4 r r2) ⟨c0, k1, k2, k3, k4, k5⟩
  | true => intro k5; exact callX_ok hO hm (m5 r r2) ⟨c0, k1, k2, k3, k4, k5⟩
theorem sameR_refl (r : Rw) : sameR r r = true := by unfold sameR; simp
theorem sameR_eq {r r2 : Rw} (h : sameR r r2 = true) : r = r2 := by
  unfold sameR at h
  simp only [Bool.and_eq_true, decide_eq_true_eq, beq_iff_eq] at h
  obtain ⟨h1, h2, h3, h4, h5, h6⟩ := h
  have k3 := t3_map h3
  have k4 := t3_map h4
  cases r; cases r2
  exact Rw.mk.injEq .. ▸ ⟨h1, h2, k3, k4, h5, h6⟩
theorem twin (r : Rw) (h : Ref.Sm r) : ICall Tryd.prog 10 [.d r.d] [] (Law.TwR r) [] := by
  have h1 := h.ins
  have h2 := h.lats
  have h3 := h.ands
  have h4 := h.bads
  have h5 := h.cons
  have sz : ∀ l : List Df, ∀ y : D, y ∈ l.map Df.d → y.cells.length = 3 := fun l y hy => by
    obtain ⟨x, _, rfl⟩ := List.mem_map.1 hy; rfl
  have le : ∀ n : Nat, n ≤ 2000 → n ≤ maxItems := fun n h => Nat.le_trans h (by decide)
  exact callX_ok hO hm (Law.tw r) ⟨LInt.sz _, le _ (by simpa using h1), sz _, le _ (by simpa using h2), sz _, le _ (by simpa using h3), LInt.sz _, le _ (by simpa using h4), LInt.sz _, le _ (by simpa using h5)⟩
theorem twinD (r : Rw) (h : Ref.Sm r) : ICall Tryd.prog 10 [.d r.d] [] (.d r.d) [] := (twin r h).frz rfl
theorem sm_of {r : Rw} (hg : Law.great r = false) (hd : ∀ x ∈ Def.defs r, x ≤ 9223372036854775807) (hu : ∀ x ∈ Def.uses r, x ≤ 9223372036854775807) : Ref.Sm r := by
  unfold Law.great at hg
  simp only [Bool.or_eq_false_iff, Bool.and_eq_false_iff, decide_eq_false_iff_not, bne_eq_false_iff_eq] at hg
  obtain ⟨g1, g2, g3, g4, g5, -⟩ := hg
  exact ⟨by omega, by omega, by omega, by omega, by omega, hd, hu⟩
/-- What Raw and Lines answer, the program's and the reference's alike. -/
def rawT (r : Rw) : List UInt8 := if Cir.chkR r = 0 then Asc.rawS r else []
def linN (r : Rw) : Int := if Cir.chkR r = 0 then (Asc.countR r : Int) else 0
section
variable {r : Rw} (h : Ref.Sm r)
include h
theorem araw : ICall Tryd.prog 11 [.d r.d] [] (.tup [.d (.str (rawT r)), .d (I (Cir.chkR r))]) [] := by
  unfold rawT
  by_cases c : Cir.chkR r = 0
  · rw [if_pos c]; have := Asc.raw_good h.wf c; rwa [c]
  · rw [if_neg c]; exact Asc.raw_bad h.wf c
theorem rraw : ICall Tryd.prog 12 [.d r.d] [] (.tup [.d (.str (rawT r)), .d (I (Cir.chkR r))]) [] := by
  unfold rawT
  by_cases c : Cir.chkR r = 0
  · rw [if_pos c]; have := R7.raw_good h c; rwa [c]
  · rw [if_neg c]; exact R7.raw_bad h c
theorem alin : ICall Tryd.prog 13 [.d r.d] [] (.tup [.d (I (linN r)), .d (I (Cir.chkR r))]) [] := by
  unfold linN
  by_cases c : Cir.chkR r = 0
  · rw [if_pos c]; have := Asc.lines_good h.wf c; rwa [c]
  · rw [if_neg c]; exact Asc.lines_bad h.wf c
theorem rlin : ICall Tryd.prog 14 [.d r.d] [] (.tup [.d (I (linN r)), .d (I (Cir.chkR r))]) [] := by
  unfold linN
  by_cases c : Cir.chkR r = 0
  · rw [if_pos c]; have := R7.lines_good h c; rwa [c]
  · rw [if_neg c]; exact R7.lines_bad h c
end
theorem asciiRaws (r : Rw) (hd : ∀ x ∈ Def.defs r, x ≤ 9223372036854775807) (hu : ∀ x ∈ Def.uses r, x ≤ 9223372036854775807) : ICall Tryd.prog 3 [.d r.d] [] (.d (.bool true)) [] := by
  have hgr := Law.great_ok r
  cases cg : Law.great r with
  | true => rw [cg] at hgr; exact callX_ok hO hm (l0 r) hgr
  | false =>
    rw [cg] at hgr
    have h := sm_of cg hd hu
    have hs := same r r (by have := h.ins; omega) (by have := h.lats; omega) (by have := h.ands; omega) (by have := h.bads; omega) (by have := h.cons; omega)
    rw [sameR_refl] at hs
    exact callX_ok hO hm (l1 r (rawT r) (Cir.chkR r) (linN r)) ⟨hgr, twinD r h, araw h, rraw h, alin h, rlin h, by simp, by simp, by simp, by simp, hs⟩
end Go.Proofs.YtihbpbdmhiihnaaDoor.Sy.Rq
/- order.Raw, gates.Vars, ref02.Check, ref03.Of, ascii.Text: round by round. -/
namespace Go.Proofs.YtihbpbdmhiihnaaDoor.Sy.Tx
open Go Go.Proofs.YtihbpbdmhiihnaaDoor.Ab Go.Proofs.YtihbpbdmhiihnaaDoor.Sy
set_option maxRecDepth 1000000
set_option linter.unusedVariables false
def Bc (c : Ci) : B := .box [.d (I c.ins), .d (.sl (c.lats.map Lt.d)), .d (.sl (c.ands.map An.d)), .d (L c.bads), .d (L c.cons)]
def B0 : B := .box [.d (I 0), .emp true, .emp true, .emp true, .emp true, .emp true]
def Bo (c : Ci) (n : Int) (a b d : List D) : List B := [Bc c, B0, .box [.d (I n), .arr 3, .arr 4, .arr 5, .d (L c.bads), .d (L c.cons)], .lst 3 a, .lst 65 b, .lst 65 d]
def Ho (c : Ci) (n lit : Int) (a b d : List D) (sl : List (Nat × V)) : St := ⟨mk 85 ([(1, .ptr 0 0), (2, .ptr 1 0), (6, .ptr 2 0), (7, .d (I lit))] ++ sl) [], Bo c n a b d⟩
def Bf (c : Ci) (n : Int) (a b d : List D) : List B := [Bc c, B0, .box [.d (I n), .arr 3, .arr 4, .arr 5, .emp true, .emp true], .lst 3 a, .lst 65 b, .lst 65 d]
def Hf (c : Ci) (n v : Int) (a b d : List D) (sl : List (Nat × V)) : St := ⟨mk 95 ([(1, .ptr 0 0), (2, .ptr 1 0), (3, .ptr 2 0), (4, .d (I v))] ++ sl) [], Bf c n a b d⟩
def Hk (c : Ci) (n : Int) (sl : List (Nat × V)) : St := ⟨mk 115 ([(1, .ptr 0 0), (3, .d (I n))] ++ sl) [], [Bc c]⟩
def Rk (c : Ci) : St := ⟨mk 115 [(2, .d (I 8))] [], [Bc c]⟩
def Hl (ls : List Int) (n : Int) (i : Nat) : St := ⟨mk 26 [(0, .d (L ls)), (1, .d (I n)), (5, .d (I i))] [], []⟩
def Rl : St := ⟨mk 26 [(4, .d (.bool false))] [], []⟩
def El : St := ⟨mk 26 [] [], []⟩
section
variable (c : Ci) (n e x lit v s1 s2 : Int) (i : Nat) (ls : List Int) (a b d : List D) (r : Rw) (st : List UInt8) (t : Bool) (n1 n2 n3 : Int) (a1 a2 a3 b1 b2 b3 d1 d2 d3 : List D)
theorem gv1  : callX Tryd.prog wr false O 37 [.d c.d] [] [It.icall [] (V.d (I e)) [], It.br true] = some (V.tup [V.d (D.int IntKind.i64 0), V.d (D.int IntKind.i64 e)], [],
  [ICall Tryd.prog 54 [V.d (D.agg [I c.ins, D.sl (List.map Lt.d c.lats), D.sl (List.map An.d c.ands), L c.bads, L c.cons])] [] (V.d (I e)) [],
   (e != 0) = true]) := by kernel_rfl
theorem gv0  : callX Tryd.prog wr false O 37 [.d c.d] [] [It.icall [] (V.d (I 0)) [], It.br false, It.icall [] (V.d (D.agg [I 1, I s1, I s2, I x])) [], It.is (x - 1)] = some (V.tup [V.d (D.int IntKind.i64 (x - 1)), V.d (D.int IntKind.i64 0)], [],
  [ICall Tryd.prog 54 [V.d (D.agg [I c.ins, D.sl (List.map Lt.d c.lats), D.sl (List.map An.d c.ands), L c.bads, L c.cons])] [] (V.d (I 0)) [],
   (0 != 0) = false,
   ICall Tryd.prog 55 [V.d (D.agg [I c.ins, D.sl (List.map Lt.d c.lats), D.sl (List.map An.d c.ands), L c.bads, L c.cons])] [] (V.d (D.agg [I 1, I s1, I s2, I x])) [],
   IntKind.i64.wrap (x - 1) = x - 1]) := by kernel_rfl
theorem o1 : round Tryd.prog wr false O (loopOf Tryd.prog 21 0) (Ho c n lit a b d [(30, .d (I x)), (31, .d (I i))]) [It.br true, It.is (lit + 2), It.raw, It.raw, It.raw, It.is (↑(i + 1) : Int)] [1, 2, 6, 7, 30, 31] 6 = some (.normal, Ho c n (lit + 2) (a ++ [I (lit + 2)]) b d [(30, .d (I x)), (31, .d (I (i + 1 : Nat)))],
  [decide ((↑i : Int) < x) = true,
   IntKind.i64.wrap (lit + 2) = lit + 2,
   a.length + [D.int IntKind.i64 (lit + 2)].length ≤ maxItems,
   IntKind.i64.wrap ((↑i : Int) + 1) = (↑(i + 1) : Int)]) := by kernel_rfl
theorem o2 : round Tryd.prog wr false O (loopOf Tryd.prog 21 0) (Ho c n lit a b d [(30, .d (I x)), (31, .d (I i))]) [It.br false] [1, 2, 6, 7] 6 = some (.exit 0, Ho c n lit a b d [],
  [decide ((↑i : Int) < x) = false]) := by kernel_rfl
theorem o3 : round Tryd.prog wr false O (loopOf Tryd.prog 21 1) (Ho c n lit a b d [(43, .d (.sl (c.lats.map Lt.d))), (44, .d (I (c.lats.map Lt.d).length)), (45, .d (I i))]) [It.br true, It.el i (c.lats.getD i default).d, It.is (lit + 2), It.raw, It.raw, It.raw, It.is (↑(i + 1) : Int)] [1, 2, 6, 7, 43, 44, 45] 6 = some (.normal, Ho c n (lit + 2) a (b ++ [(⟨lit + 2, (c.lats.getD i default).next, (c.lats.getD i default).reset⟩ : Df).d]) d [(43, .d (.sl (c.lats.map Lt.d))), (44, .d (I (c.lats.map Lt.d).length)), (45, .d (I (i + 1 : Nat)))],
  [decide ((↑i : Int) < (↑(List.map Lt.d c.lats).length : Int)) = true,
   (↑i : Int) = (↑i : Int) ∧ (List.map Lt.d c.lats)[i]? = some (c.lats.getD i default).d,
   IntKind.i64.wrap (lit + 2) = lit + 2,
   b.length + [D.agg [D.int IntKind.i64 (lit + 2), I (c.lats.getD i default).next, I (c.lats.getD i default).reset]].length ≤ maxItems,
   IntKind.i64.wrap ((↑i : Int) + 1) = (↑(i + 1) : Int)]) := by kernel_rfl
theorem o4 : round Tryd.prog wr false O (loopOf Tryd.prog 21 1) (Ho c n lit a b d [(43, .d (.sl (c.lats.map Lt.d))), (44, .d (I (c.lats.map Lt.d).length)), (45, .d (I i))]) [It.br false] [1, 2, 6, 7] 6 = some (.exit 2, Ho c n lit a b d [],
  [decide ((↑i : Int) < (↑(List.map Lt.d c.lats).length : Int)) = false]) := by kernel_rfl
theorem o5 : round Tryd.prog wr false O (loopOf Tryd.prog 21 2) (Ho c n lit a b d [(64, .d (.sl (c.ands.map An.d))), (65, .d (I (c.ands.map An.d).length)), (66, .d (I i))]) [It.br true, It.el i (c.ands.getD i default).d, It.is (lit + 2), It.raw, It.raw, It.raw, It.is (↑(i + 1) : Int)] [1, 2, 6, 7, 64, 65, 66] 6 = some (.normal, Ho c n (lit + 2) a b (d ++ [(⟨lit + 2, (c.ands.getD i default).a, (c.ands.getD i default).b⟩ : Df).d]) [(64, .d (.sl (c.ands.map An.d))), (65, .d (I (c.ands.map An.d).length)), (66, .d (I (i + 1 : Nat)))],
  [decide ((↑i : Int) < (↑(List.map An.d c.ands).length : Int)) = true,
   (↑i : Int) = (↑i : Int) ∧ (List.map An.d c.ands)[i]? = some (c.ands.getD i default).d,
   IntKind.i64.wrap (lit + 2) = lit + 2,
   d.length + [D.agg [D.int IntKind.i64 (lit + 2), I (c.ands.getD i default).a, I (c.ands.getD i default).b]].length ≤ maxItems,
   IntKind.i64.wrap ((↑i : Int) + 1) = (↑(i + 1) : Int)]) := by kernel_rfl
theorem o6 : round Tryd.prog wr false O (loopOf Tryd.prog 21 2) (Ho c n lit a b d [(64, .d (.sl (c.ands.map An.d))), (65, .d (I (c.ands.map An.d).length)), (66, .d (I i))]) [It.br false] [1, 2, 6, 7] 6 = some (.exit 4, Ho c n lit a b d [],
  [decide ((↑i : Int) < (↑(List.map An.d c.ands).length : Int)) = false]) := by kernel_rfl
theorem raw0  : callX Tryd.prog wr false O 21 [.d c.d] [] [It.icall [] (V.tup [V.d (I n), V.d (I 0)]) [], It.br false, It.ret (V.d (L c.bads)), It.ret (V.d (L c.cons)), It.lp [1, 2, 6, 7, 30, 31] (Ex.exit 0) (Ho c n n1 a1 b1 d1 []), It.lp [1, 2, 6, 7, 43, 44, 45] (Ex.exit 2) (Ho c n n2 a2 b2 d2 []), It.lp [1, 2, 6, 7, 64, 65, 66] (Ex.exit 4) (Ho c n n3 a3 b3 d3 [])] = some (V.tup [V.agg [V.d (D.int IntKind.i64 n), V.own 3 a3, V.own 65 b3, V.own 65 d3, V.d (D.sl (List.map I c.bads)), V.d (D.sl (List.map I c.cons))], V.d (D.int IntKind.i64 0)], [],
  [ICall Tryd.prog 37 [V.d (D.agg [I c.ins, D.sl (List.map Lt.d c.lats), D.sl (List.map An.d c.ands), L c.bads, L c.cons])] [] (V.tup [V.d (I n), V.d (I 0)]) [],
   (0 != 0) = false,
   ICall Tryd.prog 38 [V.d (D.sl (List.map I c.bads))] [] (V.d (L c.bads)) [] ∧ (List.flatMap refs ([V.d (L c.bads)] ++ []) = [] ∨ (V.d (L c.bads)).safe = true),
   ICall Tryd.prog 38 [V.d (D.sl (List.map I c.cons))] [] (V.d (L c.cons)) [] ∧ (List.flatMap refs ([V.d (L c.cons)] ++ []) = [] ∨ (V.d (L c.cons)).safe = true),
   GoesL Tryd.prog (loopOf Tryd.prog 21 0) (⟨mk 85 [(1, V.ptr 0 0), (2, V.ptr 1 0), (6, V.ptr 2 0), (7, V.d (D.int IntKind.i64 0)), (30, V.d (D.int IntKind.i64 c.ins)), (31, V.d (D.int IntKind.i64 0))] [], [B.bx none [V.d (D.int IntKind.i64 c.ins), V.d (D.sl (List.map Lt.d c.lats)), V.d (D.sl (List.map An.d c.ands)), V.d (D.sl (List.map I c.bads)), V.d (D.sl (List.map I c.cons))], B.bx none [V.d (D.int IntKind.i64 0), V.emp true, V.emp true, V.emp true, V.emp true, V.emp true], B.bx none [V.d (D.int IntKind.i64 n), V.emp true, V.emp true, V.emp true, V.d (D.sl (List.map I c.bads)), V.d (D.sl (List.map I c.cons))]]⟩) (Ex.exit 0) (Ho c n n1 a1 b1 d1 []),
   GoesL Tryd.prog (loopOf Tryd.prog 21 1) (⟨mk 85 [(1, V.ptr 0 0), (2, V.ptr 1 0), (6, V.ptr 2 0), (7, V.d (D.int IntKind.i64 n1)), (43, V.d (D.sl (List.map Lt.d c.lats))), (44, V.d (D.int IntKind.i64 (↑(List.map Lt.d c.lats).length : Int))), (45, V.d (D.int IntKind.i64 0))] [], [B.bx none [V.d (D.int IntKind.i64 c.ins), V.d (D.sl (List.map Lt.d c.lats)), V.d (D.sl (List.map An.d c.ands)), V.d (D.sl (List.map I c.bads)), V.d (D.sl (List.map I c.cons))], B.bx none [V.d (D.int IntKind.i64 0), V.emp true, V.emp true, V.emp true, V.emp true, V.emp true], B.bx none [V.d (D.int IntKind.i64 n), V.arr 3, V.arr 4, V.arr 5, V.d (D.sl (List.map I c.bads)), V.d (D.sl (List.map I c.cons))], B.lst 3 a1, B.lst 65 b1, B.lst 65 d1]⟩) (Ex.exit 2) (Ho c n n2 a2 b2 d2 []),
   GoesL Tryd.prog (loopOf Tryd.prog 21 2) (⟨mk 85 [(1, V.ptr 0 0), (2, V.ptr 1 0), (6, V.ptr 2 0), (7, V.d (D.int IntKind.i64 n2)), (64, V.d (D.sl (List.map An.d c.ands))), (65, V.d (D.int IntKind.i64 (↑(List.map An.d c.ands).length : Int))), (66, V.d (D.int IntKind.i64 0))] [], [B.bx none [V.d (D.int IntKind.i64 c.ins), V.d (D.sl (List.map Lt.d c.lats)), V.d (D.sl (List.map An.d c.ands)), V.d (D.sl (List.map I c.bads)), V.d (D.sl (List.map I c.cons))], B.bx none [V.d (D.int IntKind.i64 0), V.emp true, V.emp true, V.emp true, V.emp true, V.emp true], B.bx none [V.d (D.int IntKind.i64 n), V.arr 3, V.arr 4, V.arr 5, V.d (D.sl (List.map I c.bads)), V.d (D.sl (List.map I c.cons))], B.lst 3 a2, B.lst 65 b2, B.lst 65 d2]⟩) (Ex.exit 4) (Ho c n n3 a3 b3 d3 [])]) := by kernel_rfl
theorem raw1  : callX Tryd.prog wr false O 21 [.d c.d] [] [It.icall [] (V.tup [V.d (I 0), V.d (I e)]) [], It.br true] = some (V.tup [V.agg [V.d (D.int IntKind.i64 0), V.emp true, V.emp true, V.emp true, V.emp true, V.emp true], V.d (D.int IntKind.i64 e)], [],
  [ICall Tryd.prog 37 [V.d (D.agg [I c.ins, D.sl (List.map Lt.d c.lats), D.sl (List.map An.d c.ands), L c.bads, L c.cons])] [] (V.tup [V.d (I 0), V.d (I e)]) [],
   (e != 0) = true]) := by kernel_rfl
theorem f1 : round Tryd.prog wr false O (loopOf Tryd.prog 32 0) (Hf c n v a b d [(5, .d (I i))]) [It.br true, It.is (2 * v), It.raw, It.raw, It.raw, It.is (v + 1), It.is (↑(i + 1) : Int)] [1, 2, 3, 4, 5] 6 = some (.normal, Hf c n (v + 1) (a ++ [I (2 * v)]) b d [(5, .d (I (i + 1 : Nat)))],
  [decide ((↑i : Int) < c.ins) = true,
   IntKind.i64.wrap (2 * v) = 2 * v,
   a.length + [D.int IntKind.i64 (2 * v)].length ≤ maxItems,
   IntKind.i64.wrap (v + 1) = v + 1,
   IntKind.i64.wrap ((↑i : Int) + 1) = (↑(i + 1) : Int)]) := by kernel_rfl
theorem f2 : round Tryd.prog wr false O (loopOf Tryd.prog 32 0) (Hf c n v a b d [(5, .d (I i))]) [It.br false] [1, 2, 3, 4] 6 = some (.exit 0, Hf c n v a b d [],
  [decide ((↑i : Int) < c.ins) = false]) := by kernel_rfl
theorem f3 : round Tryd.prog wr false O (loopOf Tryd.prog 32 1) (Hf c n v a b d [(6, .d (I i))]) [It.br true, It.is (2 * v), It.el i (c.lats.getD i default).d, It.el i (c.lats.getD i default).d, It.raw, It.raw, It.raw, It.is (v + 1), It.is (↑(i + 1) : Int)] [1, 2, 3, 4, 6] 6 = some (.normal, Hf c n (v + 1) a (b ++ [(⟨2 * v, (c.lats.getD i default).next, (c.lats.getD i default).reset⟩ : Df).d]) d [(6, .d (I (i + 1 : Nat)))],
  [decide ((↑i : Int) < (↑(List.map Lt.d c.lats).length : Int)) = true,
   IntKind.i64.wrap (2 * v) = 2 * v,
   (↑i : Int) = (↑i : Int) ∧ (List.map Lt.d c.lats)[i]? = some (c.lats.getD i default).d,
   (↑i : Int) = (↑i : Int) ∧ (List.map Lt.d c.lats)[i]? = some (c.lats.getD i default).d,
   b.length + [D.agg [D.int IntKind.i64 (2 * v), I (c.lats.getD i default).next, I (c.lats.getD i default).reset]].length ≤ maxItems,
   IntKind.i64.wrap (v + 1) = v + 1,
   IntKind.i64.wrap ((↑i : Int) + 1) = (↑(i + 1) : Int)]) := by kernel_rfl
theorem f4 : round Tryd.prog wr false O (loopOf Tryd.prog 32 1) (Hf c n v a b d [(6, .d (I i))]) [It.br false] [1, 2, 3, 4] 6 = some (.exit 2, Hf c n v a b d [],
  [decide ((↑i : Int) < (↑(List.map Lt.d c.lats).length : Int)) = false]) := by kernel_rfl
theorem f5 : round Tryd.prog wr false O (loopOf Tryd.prog 32 2) (Hf c n v a b d [(7, .d (I i))]) [It.br true, It.is (2 * v), It.el i (c.ands.getD i default).d, It.el i (c.ands.getD i default).d, It.raw, It.raw, It.raw, It.is (v + 1), It.is (↑(i + 1) : Int)] [1, 2, 3, 4, 7] 6 = some (.normal, Hf c n (v + 1) a b (d ++ [(⟨2 * v, (c.ands.getD i default).a, (c.ands.getD i default).b⟩ : Df).d]) [(7, .d (I (i + 1 : Nat)))],
  [decide ((↑i : Int) < (↑(List.map An.d c.ands).length : Int)) = true,
   IntKind.i64.wrap (2 * v) = 2 * v,
   (↑i : Int) = (↑i : Int) ∧ (List.map An.d c.ands)[i]? = some (c.ands.getD i default).d,
   (↑i : Int) = (↑i : Int) ∧ (List.map An.d c.ands)[i]? = some (c.ands.getD i default).d,
   d.length + [D.agg [D.int IntKind.i64 (2 * v), I (c.ands.getD i default).a, I (c.ands.getD i default).b]].length ≤ maxItems,
   IntKind.i64.wrap (v + 1) = v + 1,
   IntKind.i64.wrap ((↑i : Int) + 1) = (↑(i + 1) : Int)]) := by kernel_rfl
theorem f6 : round Tryd.prog wr false O (loopOf Tryd.prog 32 2) (Hf c n v a b d [(7, .d (I i))]) [It.br false] [1, 2, 3, 4] 6 = some (.exit 4, Hf c n v a b d [],
  [decide ((↑i : Int) < (↑(List.map An.d c.ands).length : Int)) = false]) := by kernel_rfl
theorem of  : callX Tryd.prog wr false O 32 [.d c.d] [] [It.icall [] (V.d (I n)) [], It.lp [1, 2, 3, 4, 5] (Ex.exit 0) (Hf c n n1 a1 b1 d1 []), It.lp [1, 2, 3, 4, 6] (Ex.exit 2) (Hf c n n2 a2 b2 d2 []), It.lp [1, 2, 3, 4, 7] (Ex.exit 4) (Hf c n n3 a3 b3 d3 []), It.raw, It.own, It.raw, It.raw, It.own, It.raw] = some (V.agg [V.d (D.int IntKind.i64 n), V.own 3 a3, V.own 65 b3, V.own 65 d3, V.own 3 (List.map I c.bads), V.own 3 (List.map I c.cons)], [],
  [ICall Tryd.prog 39 [V.d (D.agg [I c.ins, D.sl (List.map Lt.d c.lats), D.sl (List.map An.d c.ands), L c.bads, L c.cons])] [] (V.d (I n)) [],
   GoesL Tryd.prog (loopOf Tryd.prog 32 0) (⟨mk 95 [(1, V.ptr 0 0), (2, V.ptr 1 0), (3, V.ptr 2 0), (4, V.d (D.int IntKind.i64 1)), (5, V.d (D.int IntKind.i64 0))] [], [B.bx none [V.d (D.int IntKind.i64 c.ins), V.d (D.sl (List.map Lt.d c.lats)), V.d (D.sl (List.map An.d c.ands)), V.d (D.sl (List.map I c.bads)), V.d (D.sl (List.map I c.cons))], B.bx none [V.d (D.int IntKind.i64 0), V.emp true, V.emp true, V.emp true, V.emp true, V.emp true], B.bx none [V.d (D.int IntKind.i64 n), V.emp true, V.emp true, V.emp true, V.emp true, V.emp true]]⟩) (Ex.exit 0) (Hf c n n1 a1 b1 d1 []),
   GoesL Tryd.prog (loopOf Tryd.prog 32 1) (⟨mk 95 [(1, V.ptr 0 0), (2, V.ptr 1 0), (3, V.ptr 2 0), (4, V.d (D.int IntKind.i64 n1)), (6, V.d (D.int IntKind.i64 0))] [], [B.bx none [V.d (D.int IntKind.i64 c.ins), V.d (D.sl (List.map Lt.d c.lats)), V.d (D.sl (List.map An.d c.ands)), V.d (D.sl (List.map I c.bads)), V.d (D.sl (List.map I c.cons))], B.bx none [V.d (D.int IntKind.i64 0), V.emp true, V.emp true, V.emp true, V.emp true, V.emp true], B.bx none [V.d (D.int IntKind.i64 n), V.arr 3, V.arr 4, V.arr 5, V.emp true, V.emp true], B.lst 3 a1, B.lst 65 b1, B.lst 65 d1]⟩) (Ex.exit 2) (Hf c n n2 a2 b2 d2 []),
   GoesL Tryd.prog (loopOf Tryd.prog 32 2) (⟨mk 95 [(1, V.ptr 0 0), (2, V.ptr 1 0), (3, V.ptr 2 0), (4, V.d (D.int IntKind.i64 n2)), (7, V.d (D.int IntKind.i64 0))] [], [B.bx none [V.d (D.int IntKind.i64 c.ins), V.d (D.sl (List.map Lt.d c.lats)), V.d (D.sl (List.map An.d c.ands)), V.d (D.sl (List.map I c.bads)), V.d (D.sl (List.map I c.cons))], B.bx none [V.d (D.int IntKind.i64 0), V.emp true, V.emp true, V.emp true, V.emp true, V.emp true], B.bx none [V.d (D.int IntKind.i64 n), V.arr 3, V.arr 4, V.arr 5, V.emp true, V.emp true], B.lst 3 a2, B.lst 65 b2, B.lst 65 d2]⟩) (Ex.exit 4) (Hf c n n3 a3 b3 d3 []),
   ∀ (y : D), y ∈ List.map I c.bads → y.cells.length = (fun x => x.size) Tryd.prog.types[3],
   (List.map I c.bads).length ≤ maxItems,
   ∀ (y : D), y ∈ List.map I c.cons → y.cells.length = (fun x => x.size) Tryd.prog.types[3],
   (List.map I c.cons).length ≤ maxItems]) := by kernel_rfl
theorem k0 : round Tryd.prog wr false O (loopOf Tryd.prog 22 0) (Hk c n [(4, .d (I i))]) [It.br true, It.el i (c.lats.getD i default).d, It.raw, It.icall [] (V.d (D.bool t)) [], It.br true] [2] 1 = some (.ret, Rk c,
  [decide ((↑i : Int) < (↑(List.map Lt.d c.lats).length : Int)) = true,
   (↑i : Int) = (↑i : Int) ∧ (List.map Lt.d c.lats)[i]? = some (c.lats.getD i default).d,
   ICall Tryd.prog 40 [V.d (D.sl [I (c.lats.getD i default).next]), V.d (I n)] [] (V.d (D.bool t)) [],
   (!t) = true]) := by kernel_rfl
theorem k1 : round Tryd.prog wr false O (loopOf Tryd.prog 22 0) (Hk c n [(4, .d (I i))]) [It.br true, It.el i (c.lats.getD i default).d, It.raw, It.icall [] (V.d (D.bool t)) [], It.br false, It.el i (c.lats.getD i default).d, It.br true] [2] 1 = some (.ret, Rk c,
  [decide ((↑i : Int) < (↑(List.map Lt.d c.lats).length : Int)) = true,
   (↑i : Int) = (↑i : Int) ∧ (List.map Lt.d c.lats)[i]? = some (c.lats.getD i default).d,
   ICall Tryd.prog 40 [V.d (D.sl [I (c.lats.getD i default).next]), V.d (I n)] [] (V.d (D.bool t)) [],
   (!t) = false,
   (↑i : Int) = (↑i : Int) ∧ (List.map Lt.d c.lats)[i]? = some (c.lats.getD i default).d,
   decide ((c.lats.getD i default).reset < 0) = true]) := by kernel_rfl
theorem k2 : round Tryd.prog wr false O (loopOf Tryd.prog 22 0) (Hk c n [(4, .d (I i))]) [It.br true, It.el i (c.lats.getD i default).d, It.raw, It.icall [] (V.d (D.bool t)) [], It.br false, It.el i (c.lats.getD i default).d, It.br false, It.el i (c.lats.getD i default).d, It.br true] [2] 1 = some (.ret, Rk c,
  [decide ((↑i : Int) < (↑(List.map Lt.d c.lats).length : Int)) = true,
   (↑i : Int) = (↑i : Int) ∧ (List.map Lt.d c.lats)[i]? = some (c.lats.getD i default).d,
   ICall Tryd.prog 40 [V.d (D.sl [I (c.lats.getD i default).next]), V.d (I n)] [] (V.d (D.bool t)) [],
   (!t) = false,
   (↑i : Int) = (↑i : Int) ∧ (List.map Lt.d c.lats)[i]? = some (c.lats.getD i default).d,
   decide ((c.lats.getD i default).reset < 0) = false,
   (↑i : Int) = (↑i : Int) ∧ (List.map Lt.d c.lats)[i]? = some (c.lats.getD i default).d,
   decide ((c.lats.getD i default).reset > 2) = true]) := by kernel_rfl
theorem k3 : round Tryd.prog wr false O (loopOf Tryd.prog 22 0) (Hk c n [(4, .d (I i))]) [It.br true, It.el i (c.lats.getD i default).d, It.raw, It.icall [] (V.d (D.bool t)) [], It.br false, It.el i (c.lats.getD i default).d, It.br false, It.el i (c.lats.getD i default).d, It.br false, It.is (↑(i + 1) : Int)] [1, 3, 4] 1 = some (.normal, Hk c n [(4, .d (I (i + 1 : Nat)))],
  [decide ((↑i : Int) < (↑(List.map Lt.d c.lats).length : Int)) = true,
   (↑i : Int) = (↑i : Int) ∧ (List.map Lt.d c.lats)[i]? = some (c.lats.getD i default).d,
   ICall Tryd.prog 40 [V.d (D.sl [I (c.lats.getD i default).next]), V.d (I n)] [] (V.d (D.bool t)) [],
   (!t) = false,
   (↑i : Int) = (↑i : Int) ∧ (List.map Lt.d c.lats)[i]? = some (c.lats.getD i default).d,
   decide ((c.lats.getD i default).reset < 0) = false,
   (↑i : Int) = (↑i : Int) ∧ (List.map Lt.d c.lats)[i]? = some (c.lats.getD i default).d,
   decide ((c.lats.getD i default).reset > 2) = false,
   IntKind.i64.wrap ((↑i : Int) + 1) = (↑(i + 1) : Int)]) := by kernel_rfl
theorem k4 : round Tryd.prog wr false O (loopOf Tryd.prog 22 0) (Hk c n [(4, .d (I i))]) [It.br false] [1, 3] 1 = some (.exit 0, Hk c n [],
  [decide ((↑i : Int) < (↑(List.map Lt.d c.lats).length : Int)) = false]) := by kernel_rfl
theorem k5 : round Tryd.prog wr false O (loopOf Tryd.prog 22 1) (Hk c n [(5, .d (I i))]) [It.br true, It.el i (c.ands.getD i default).d, It.br true] [2] 1 = some (.ret, Rk c,
  [decide ((↑i : Int) < (↑(List.map An.d c.ands).length : Int)) = true,
   (↑i : Int) = (↑i : Int) ∧ (List.map An.d c.ands)[i]? = some (c.ands.getD i default).d,
   decide ((c.ands.getD i default).b < 0) = true]) := by kernel_rfl
theorem k6 : round Tryd.prog wr false O (loopOf Tryd.prog 22 1) (Hk c n [(5, .d (I i))]) [It.br true, It.el i (c.ands.getD i default).d, It.br false, It.br true] [2] 1 = some (.ret, Rk c,
  [decide ((↑i : Int) < (↑(List.map An.d c.ands).length : Int)) = true,
   (↑i : Int) = (↑i : Int) ∧ (List.map An.d c.ands)[i]? = some (c.ands.getD i default).d,
   decide ((c.ands.getD i default).b < 0) = false,
   decide ((c.ands.getD i default).a < (c.ands.getD i default).b) = true]) := by kernel_rfl
theorem k7 : round Tryd.prog wr false O (loopOf Tryd.prog 22 1) (Hk c n [(5, .d (I i))]) [It.br true, It.el i (c.ands.getD i default).d, It.br false, It.br false, It.is ((c.ands.getD i default).a / 2), It.is (c.ins + (↑(List.map Lt.d c.lats).length : Int)), It.is (c.ins + (↑(List.map Lt.d c.lats).length : Int) + (↑i : Int)), It.br true] [2] 1 = some (.ret, Rk c,
  [decide ((↑i : Int) < (↑(List.map An.d c.ands).length : Int)) = true,
   (↑i : Int) = (↑i : Int) ∧ (List.map An.d c.ands)[i]? = some (c.ands.getD i default).d,
   decide ((c.ands.getD i default).b < 0) = false,
   decide ((c.ands.getD i default).a < (c.ands.getD i default).b) = false,
   IntKind.i64.wrap ((c.ands.getD i default).a.tdiv 2) = (c.ands.getD i default).a / 2,
   IntKind.i64.wrap (c.ins + (↑(List.map Lt.d c.lats).length : Int)) = c.ins + (↑(List.map Lt.d c.lats).length : Int),
   IntKind.i64.wrap (c.ins + (↑(List.map Lt.d c.lats).length : Int) + (↑i : Int)) = c.ins + (↑(List.map Lt.d c.lats).length : Int) + (↑i : Int),
   decide ((c.ands.getD i default).a / 2 > c.ins + (↑(List.map Lt.d c.lats).length : Int) + (↑i : Int)) = true]) := by kernel_rfl
theorem k8 : round Tryd.prog wr false O (loopOf Tryd.prog 22 1) (Hk c n [(5, .d (I i))]) [It.br true, It.el i (c.ands.getD i default).d, It.br false, It.br false, It.is ((c.ands.getD i default).a / 2), It.is (c.ins + (↑(List.map Lt.d c.lats).length : Int)), It.is (c.ins + (↑(List.map Lt.d c.lats).length : Int) + (↑i : Int)), It.br false, It.is (↑(i + 1) : Int)] [1, 3, 5] 1 = some (.normal, Hk c n [(5, .d (I (i + 1 : Nat)))],
  [decide ((↑i : Int) < (↑(List.map An.d c.ands).length : Int)) = true,
   (↑i : Int) = (↑i : Int) ∧ (List.map An.d c.ands)[i]? = some (c.ands.getD i default).d,
   decide ((c.ands.getD i default).b < 0) = false,
   decide ((c.ands.getD i default).a < (c.ands.getD i default).b) = false,
   IntKind.i64.wrap ((c.ands.getD i default).a.tdiv 2) = (c.ands.getD i default).a / 2,
   IntKind.i64.wrap (c.ins + (↑(List.map Lt.d c.lats).length : Int)) = c.ins + (↑(List.map Lt.d c.lats).length : Int),
   IntKind.i64.wrap (c.ins + (↑(List.map Lt.d c.lats).length : Int) + (↑i : Int)) = c.ins + (↑(List.map Lt.d c.lats).length : Int) + (↑i : Int),
   decide ((c.ands.getD i default).a / 2 > c.ins + (↑(List.map Lt.d c.lats).length : Int) + (↑i : Int)) = false,
   IntKind.i64.wrap ((↑i : Int) + 1) = (↑(i + 1) : Int)]) := by kernel_rfl
theorem k9 : round Tryd.prog wr false O (loopOf Tryd.prog 22 1) (Hk c n [(5, .d (I i))]) [It.br false] [1, 3] 1 = some (.exit 2, Hk c n [],
  [decide ((↑i : Int) < (↑(List.map An.d c.ands).length : Int)) = false]) := by kernel_rfl
theorem ck0  : callX Tryd.prog wr false O 22 [.d c.d] [] [It.br true] = some (V.d (D.int IntKind.i64 8), [],
  [decide (c.ins < 0) = true]) := by kernel_rfl
theorem ck1  : callX Tryd.prog wr false O 22 [.d c.d] [] [It.br false, It.br true] = some (V.d (D.int IntKind.i64 4), [],
  [decide (c.ins < 0) = false,
   decide (c.ins > 1000) = true]) := by kernel_rfl
theorem ck2  : callX Tryd.prog wr false O 22 [.d c.d] [] [It.br false, It.br false, It.icall [] (V.d (I n)) [], It.br true] = some (V.d (D.int IntKind.i64 4), [],
  [decide (c.ins < 0) = false,
   decide (c.ins > 1000) = false,
   ICall Tryd.prog 39 [V.d (D.agg [I c.ins, D.sl (List.map Lt.d c.lats), D.sl (List.map An.d c.ands), L c.bads, L c.cons])] [] (V.d (I n)) [],
   decide (n > 1000) = true]) := by kernel_rfl
theorem ck3  : callX Tryd.prog wr false O 22 [.d c.d] [] [It.br false, It.br false, It.icall [] (V.d (I n)) [], It.br false, It.br true] = some (V.d (D.int IntKind.i64 4), [],
  [decide (c.ins < 0) = false,
   decide (c.ins > 1000) = false,
   ICall Tryd.prog 39 [V.d (D.agg [I c.ins, D.sl (List.map Lt.d c.lats), D.sl (List.map An.d c.ands), L c.bads, L c.cons])] [] (V.d (I n)) [],
   decide (n > 1000) = false,
   decide ((↑(List.map I c.bads).length : Int) > 100) = true]) := by kernel_rfl
theorem ck4  : callX Tryd.prog wr false O 22 [.d c.d] [] [It.br false, It.br false, It.icall [] (V.d (I n)) [], It.br false, It.br false, It.br true] = some (V.d (D.int IntKind.i64 4), [],
  [decide (c.ins < 0) = false,
   decide (c.ins > 1000) = false,
   ICall Tryd.prog 39 [V.d (D.agg [I c.ins, D.sl (List.map Lt.d c.lats), D.sl (List.map An.d c.ands), L c.bads, L c.cons])] [] (V.d (I n)) [],
   decide (n > 1000) = false,
   decide ((↑(List.map I c.bads).length : Int) > 100) = false,
   decide ((↑(List.map I c.cons).length : Int) > 100) = true]) := by kernel_rfl
theorem ck5  : callX Tryd.prog wr false O 22 [.d c.d] [] [It.br false, It.br false, It.icall [] (V.d (I n)) [], It.br false, It.br false, It.br false, It.icall [] (V.d (I n)) [], It.icall [] (V.d (D.bool false)) [], It.br true] = some (V.d (D.int IntKind.i64 8), [],
  [decide (c.ins < 0) = false,
   decide (c.ins > 1000) = false,
   ICall Tryd.prog 39 [V.d (D.agg [I c.ins, D.sl (List.map Lt.d c.lats), D.sl (List.map An.d c.ands), L c.bads, L c.cons])] [] (V.d (I n)) [],
   decide (n > 1000) = false,
   decide ((↑(List.map I c.bads).length : Int) > 100) = false,
   decide ((↑(List.map I c.cons).length : Int) > 100) = false,
   ICall Tryd.prog 39 [V.d (D.agg [I c.ins, D.sl (List.map Lt.d c.lats), D.sl (List.map An.d c.ands), L c.bads, L c.cons])] [] (V.d (I n)) [],
   ICall Tryd.prog 40 [V.d (L c.bads), V.d (I n)] [] (V.d (D.bool false)) [],
   (!false) = true]) := by kernel_rfl
theorem ck7  : callX Tryd.prog wr false O 22 [.d c.d] [] [It.br false, It.br false, It.icall [] (V.d (I n)) [], It.br false, It.br false, It.br false, It.icall [] (V.d (I n)) [], It.icall [] (V.d (D.bool true)) [], It.br false, It.icall [] (V.d (D.bool false)) [], It.br true] = some (V.d (D.int IntKind.i64 8), [],
  [decide (c.ins < 0) = false,
   decide (c.ins > 1000) = false,
   ICall Tryd.prog 39 [V.d (D.agg [I c.ins, D.sl (List.map Lt.d c.lats), D.sl (List.map An.d c.ands), L c.bads, L c.cons])] [] (V.d (I n)) [],
   decide (n > 1000) = false,
   decide ((↑(List.map I c.bads).length : Int) > 100) = false,
   decide ((↑(List.map I c.cons).length : Int) > 100) = false,
   ICall Tryd.prog 39 [V.d (D.agg [I c.ins, D.sl (List.map Lt.d c.lats), D.sl (List.map An.d c.ands), L c.bads, L c.cons])] [] (V.d (I n)) [],
   ICall Tryd.prog 40 [V.d (L c.bads), V.d (I n)] [] (V.d (D.bool true)) [],
   (!true) = false,
   ICall Tryd.prog 40 [V.d (L c.cons), V.d (I n)] [] (V.d (D.bool false)) [],
   (!false) = true]) := by kernel_rfl
theorem ck8  : callX Tryd.prog wr false O 22 [.d c.d] [] [It.br false, It.br false, It.icall [] (V.d (I n)) [], It.br false, It.br false, It.br false, It.icall [] (V.d (I n)) [], It.icall [] (V.d (D.bool true)) [], It.br false, It.icall [] (V.d (D.bool true)) [], It.br false, It.lp [1, 3, 4] Ex.ret (Rk c)] = some (V.d (D.int IntKind.i64 8), [],
  [decide (c.ins < 0) = false,
   decide (c.ins > 1000) = false,
   ICall Tryd.prog 39 [V.d (D.agg [I c.ins, D.sl (List.map Lt.d c.lats), D.sl (List.map An.d c.ands), L c.bads, L c.cons])] [] (V.d (I n)) [],
   decide (n > 1000) = false,
   decide ((↑(List.map I c.bads).length : Int) > 100) = false,
   decide ((↑(List.map I c.cons).length : Int) > 100) = false,
   ICall Tryd.prog 39 [V.d (D.agg [I c.ins, D.sl (List.map Lt.d c.lats), D.sl (List.map An.d c.ands), L c.bads, L c.cons])] [] (V.d (I n)) [],
   ICall Tryd.prog 40 [V.d (L c.bads), V.d (I n)] [] (V.d (D.bool true)) [],
   (!true) = false,
   ICall Tryd.prog 40 [V.d (L c.cons), V.d (I n)] [] (V.d (D.bool true)) [],
   (!true) = false,
   GoesL Tryd.prog (loopOf Tryd.prog 22 0) (⟨mk 115 [(1, V.ptr 0 0), (3, V.d (D.int IntKind.i64 n)), (4, V.d (D.int IntKind.i64 0))] [], [B.bx none [V.d (D.int IntKind.i64 c.ins), V.d (D.sl (List.map Lt.d c.lats)), V.d (D.sl (List.map An.d c.ands)), V.d (D.sl (List.map I c.bads)), V.d (D.sl (List.map I c.cons))]]⟩) (Ex.ret) (Rk c)]) := by kernel_rfl
theorem ck9  : callX Tryd.prog wr false O 22 [.d c.d] [] [It.br false, It.br false, It.icall [] (V.d (I n)) [], It.br false, It.br false, It.br false, It.icall [] (V.d (I n)) [], It.icall [] (V.d (D.bool true)) [], It.br false, It.icall [] (V.d (D.bool true)) [], It.br false, It.lp [1, 3, 4] (Ex.exit 0) (Hk c n []), It.lp [1, 3, 5] Ex.ret (Rk c)] = some (V.d (D.int IntKind.i64 8), [],
  [decide (c.ins < 0) = false,
   decide (c.ins > 1000) = false,
   ICall Tryd.prog 39 [V.d (D.agg [I c.ins, D.sl (List.map Lt.d c.lats), D.sl (List.map An.d c.ands), L c.bads, L c.cons])] [] (V.d (I n)) [],
   decide (n > 1000) = false,
   decide ((↑(List.map I c.bads).length : Int) > 100) = false,
   decide ((↑(List.map I c.cons).length : Int) > 100) = false,
   ICall Tryd.prog 39 [V.d (D.agg [I c.ins, D.sl (List.map Lt.d c.lats), D.sl (List.map An.d c.ands), L c.bads, L c.cons])] [] (V.d (I n)) [],
   ICall Tryd.prog 40 [V.d (L c.bads), V.d (I n)] [] (V.d (D.bool true)) [],
   (!true) = false,
   ICall Tryd.prog 40 [V.d (L c.cons), V.d (I n)] [] (V.d (D.bool true)) [],
   (!true) = false,
   GoesL Tryd.prog (loopOf Tryd.prog 22 0) (⟨mk 115 [(1, V.ptr 0 0), (3, V.d (D.int IntKind.i64 n)), (4, V.d (D.int IntKind.i64 0))] [], [B.bx none [V.d (D.int IntKind.i64 c.ins), V.d (D.sl (List.map Lt.d c.lats)), V.d (D.sl (List.map An.d c.ands)), V.d (D.sl (List.map I c.bads)), V.d (D.sl (List.map I c.cons))]]⟩) (Ex.exit 0) (Hk c n []),
   GoesL Tryd.prog (loopOf Tryd.prog 22 1) (⟨mk 115 [(1, V.ptr 0 0), (3, V.d (D.int IntKind.i64 n)), (5, V.d (D.int IntKind.i64 0))] [], [B.bx none [V.d (D.int IntKind.i64 c.ins), V.d (D.sl (List.map Lt.d c.lats)), V.d (D.sl (List.map An.d c.ands)), V.d (D.sl (List.map I c.bads)), V.d (D.sl (List.map I c.cons))]]⟩) (Ex.ret) (Rk c)]) := by kernel_rfl
theorem ck10  : callX Tryd.prog wr false O 22 [.d c.d] [] [It.br false, It.br false, It.icall [] (V.d (I n)) [], It.br false, It.br false, It.br false, It.icall [] (V.d (I n)) [], It.icall [] (V.d (D.bool true)) [], It.br false, It.icall [] (V.d (D.bool true)) [], It.br false, It.lp [1, 3, 4] (Ex.exit 0) (Hk c n []), It.lp [1, 3, 5] (Ex.exit 2) (Hk c n [])] = some (V.d (D.int IntKind.i64 0), [],
  [decide (c.ins < 0) = false,
   decide (c.ins > 1000) = false,
   ICall Tryd.prog 39 [V.d (D.agg [I c.ins, D.sl (List.map Lt.d c.lats), D.sl (List.map An.d c.ands), L c.bads, L c.cons])] [] (V.d (I n)) [],
   decide (n > 1000) = false,
   decide ((↑(List.map I c.bads).length : Int) > 100) = false,
   decide ((↑(List.map I c.cons).length : Int) > 100) = false,
   ICall Tryd.prog 39 [V.d (D.agg [I c.ins, D.sl (List.map Lt.d c.lats), D.sl (List.map An.d c.ands), L c.bads, L c.cons])] [] (V.d (I n)) [],
   ICall Tryd.prog 40 [V.d (L c.bads), V.d (I n)] [] (V.d (D.bool true)) [],
   (!true) = false,
   ICall Tryd.prog 40 [V.d (L c.cons), V.d (I n)] [] (V.d (D.bool true)) [],
   (!true) = false,
   GoesL Tryd.prog (loopOf Tryd.prog 22 0) (⟨mk 115 [(1, V.ptr 0 0), (3, V.d (D.int IntKind.i64 n)), (4, V.d (D.int IntKind.i64 0))] [], [B.bx none [V.d (D.int IntKind.i64 c.ins), V.d (D.sl (List.map Lt.d c.lats)), V.d (D.sl (List.map An.d c.ands)), V.d (D.sl (List.map I c.bads)), V.d (D.sl (List.map I c.cons))]]⟩) (Ex.exit 0) (Hk c n []),
   GoesL Tryd.prog (loopOf Tryd.prog 22 1) (⟨mk 115 [(1, V.ptr 0 0), (3, V.d (D.int IntKind.i64 n)), (5, V.d (D.int IntKind.i64 0))] [], [B.bx none [V.d (D.int IntKind.i64 c.ins), V.d (D.sl (List.map Lt.d c.lats)), V.d (D.sl (List.map An.d c.ands)), V.d (D.sl (List.map I c.bads)), V.d (D.sl (List.map I c.cons))]]⟩) (Ex.exit 2) (Hk c n [])]) := by kernel_rfl
theorem l1 : round Tryd.prog wr false O (loopOf Tryd.prog 40 0) (Hl ls n i) [It.br true, It.el i (I (ls.getD i default)), It.br true] [4] 0 = some (.ret, Rl,
  [decide ((↑i : Int) < (↑(List.map I ls).length : Int)) = true,
   (↑i : Int) = (↑i : Int) ∧ (List.map I ls)[i]? = some (I (ls.getD i default)),
   decide (ls.getD i default < 0) = true]) := by kernel_rfl
theorem l2 : round Tryd.prog wr false O (loopOf Tryd.prog 40 0) (Hl ls n i) [It.br true, It.el i (I (ls.getD i default)), It.br false, It.el i (I (ls.getD i default)), It.is (ls.getD i default / 2), It.br true] [4] 0 = some (.ret, Rl,
  [decide ((↑i : Int) < (↑(List.map I ls).length : Int)) = true,
   (↑i : Int) = (↑i : Int) ∧ (List.map I ls)[i]? = some (I (ls.getD i default)),
   decide (ls.getD i default < 0) = false,
   (↑i : Int) = (↑i : Int) ∧ (List.map I ls)[i]? = some (I (ls.getD i default)),
   IntKind.i64.wrap ((ls.getD i default).tdiv 2) = ls.getD i default / 2,
   decide (ls.getD i default / 2 > n) = true]) := by kernel_rfl
theorem l3 : round Tryd.prog wr false O (loopOf Tryd.prog 40 0) (Hl ls n i) [It.br true, It.el i (I (ls.getD i default)), It.br false, It.el i (I (ls.getD i default)), It.is (ls.getD i default / 2), It.br false, It.is (↑(i + 1) : Int)] [0, 1, 5] 0 = some (.normal, Hl ls n (i + 1),
  [decide ((↑i : Int) < (↑(List.map I ls).length : Int)) = true,
   (↑i : Int) = (↑i : Int) ∧ (List.map I ls)[i]? = some (I (ls.getD i default)),
   decide (ls.getD i default < 0) = false,
   (↑i : Int) = (↑i : Int) ∧ (List.map I ls)[i]? = some (I (ls.getD i default)),
   IntKind.i64.wrap ((ls.getD i default).tdiv 2) = ls.getD i default / 2,
   decide (ls.getD i default / 2 > n) = false,
   IntKind.i64.wrap ((↑i : Int) + 1) = (↑(i + 1) : Int)]) := by kernel_rfl
theorem l4 : round Tryd.prog wr false O (loopOf Tryd.prog 40 0) (Hl ls n i) [It.br false] [] 0 = some (.exit 0, El,
  [decide ((↑i : Int) < (↑(List.map I ls).length : Int)) = false]) := by kernel_rfl
theorem l5  : callX Tryd.prog wr false O 40 [.d (L ls), .d (I n)] [] [It.lp [0, 1, 5] (Ex.exit 0) El] = some (V.d (D.bool true), [],
  [GoesL Tryd.prog (loopOf Tryd.prog 40 0) (⟨mk 26 [(0, V.d (D.sl (List.map I ls))), (1, V.d (D.int IntKind.i64 n)), (5, V.d (D.int IntKind.i64 0))] [], []⟩) (Ex.exit 0) (El)]) := by kernel_rfl
theorem l6  : callX Tryd.prog wr false O 40 [.d (L ls), .d (I n)] [] [It.lp [0, 1, 5] Ex.ret Rl] = some (V.d (D.bool false), [],
  [GoesL Tryd.prog (loopOf Tryd.prog 40 0) (⟨mk 26 [(0, V.d (D.sl (List.map I ls))), (1, V.d (D.int IntKind.i64 n)), (5, V.d (D.int IntKind.i64 0))] [], []⟩) (Ex.ret) (Rl)]) := by kernel_rfl
theorem sz  : callX Tryd.prog wr false O 39 [.d c.d] [] [It.is (c.ins + (↑(List.map Lt.d c.lats).length : Int)), It.is (c.ins + (↑(List.map Lt.d c.lats).length : Int) + (↑(List.map An.d c.ands).length : Int))] = some (V.d (D.int IntKind.i64 (c.ins + (↑(List.map Lt.d c.lats).length : Int) + (↑(List.map An.d c.ands).length : Int))), [],
  [IntKind.i64.wrap (c.ins + (↑(List.map Lt.d c.lats).length : Int)) = c.ins + (↑(List.map Lt.d c.lats).length : Int),
   IntKind.i64.wrap (c.ins + (↑(List.map Lt.d c.lats).length : Int) + (↑(List.map An.d c.ands).length : Int)) = c.ins + (↑(List.map Lt.d c.lats).length : Int) + (↑(List.map An.d c.ands).length : Int)]) := by kernel_rfl
theorem tx1  : callX Tryd.prog wr false O 17 [.d c.d] [] [It.icall [] (V.tup [V.d r.d, V.d (I e)]) [], It.br true] = some (V.tup [V.d (D.str (ByteArray.mk #[]).data.toList), V.d (D.int IntKind.i64 e)], [],
  [ICall Tryd.prog 21 [V.d (D.agg [I c.ins, D.sl (List.map Lt.d c.lats), D.sl (List.map An.d c.ands), L c.bads, L c.cons])] [] (V.tup [V.d r.d, V.d (I e)]) [],
   (e != 0) = true]) := by kernel_rfl
theorem tx0  : callX Tryd.prog wr false O 17 [.d c.d] [] [It.icall [] (V.tup [V.d r.d, V.d (I 0)]) [], It.br false, It.icall [] (V.tup [V.d (D.str st), V.d (I e)]) []] = some (V.tup [V.d (D.str st), V.d (D.int IntKind.i64 e)], [],
  [ICall Tryd.prog 21 [V.d (D.agg [I c.ins, D.sl (List.map Lt.d c.lats), D.sl (List.map An.d c.ands), L c.bads, L c.cons])] [] (V.tup [V.d r.d, V.d (I 0)]) [],
   (0 != 0) = false,
   ICall Tryd.prog 11 [V.d (D.agg [I r.most, L r.ins, D.sl (List.map Df.d r.lats), D.sl (List.map Df.d r.ands), L r.bads, L r.cons])] [] (V.tup [V.d (D.str st), V.d (I e)]) []]) := by kernel_rfl
theorem rt1  : callX Tryd.prog wr false O 18 [.d c.d] [] [It.icall [] (V.d (I e)) [], It.br true, It.icall [] (V.d (I e)) []] = some (V.tup [V.d (D.str (ByteArray.mk #[]).data.toList), V.d (D.int IntKind.i64 e)], [],
  [ICall Tryd.prog 22 [V.d (D.agg [I c.ins, D.sl (List.map Lt.d c.lats), D.sl (List.map An.d c.ands), L c.bads, L c.cons])] [] (V.d (I e)) [],
   (e != 0) = true,
   ICall Tryd.prog 22 [V.d (D.agg [I c.ins, D.sl (List.map Lt.d c.lats), D.sl (List.map An.d c.ands), L c.bads, L c.cons])] [] (V.d (I e)) []]) := by kernel_rfl
theorem rt0  : callX Tryd.prog wr false O 18 [.d c.d] [] [It.icall [] (V.d (I 0)) [], It.br false, It.icall [] (V.d r.d) [], It.icall [] (V.tup [V.d (D.str st), V.d (I e)]) []] = some (V.tup [V.d (D.str st), V.d (D.int IntKind.i64 e)], [],
  [ICall Tryd.prog 22 [V.d (D.agg [I c.ins, D.sl (List.map Lt.d c.lats), D.sl (List.map An.d c.ands), L c.bads, L c.cons])] [] (V.d (I 0)) [],
   (0 != 0) = false,
   ICall Tryd.prog 32 [V.d (D.agg [I c.ins, D.sl (List.map Lt.d c.lats), D.sl (List.map An.d c.ands), L c.bads, L c.cons])] [] (V.d r.d) [],
   ICall Tryd.prog 12 [V.d r.d] [] (V.tup [V.d (D.str st), V.d (I e)]) []]) := by kernel_rfl
theorem gr0  : callX Tryd.prog wr false O 16 [.d c.d] [] [It.br true] = some (V.d (D.bool true), [],
  [decide ((↑(List.map Lt.d c.lats).length : Int) > 60) = true]) := by kernel_rfl
theorem gr1  : callX Tryd.prog wr false O 16 [.d c.d] [] [It.br false, It.br true] = some (V.d (D.bool true), [],
  [decide ((↑(List.map Lt.d c.lats).length : Int) > 60) = false,
   decide ((↑(List.map An.d c.ands).length : Int) > 120) = true]) := by kernel_rfl
theorem gr2  : callX Tryd.prog wr false O 16 [.d c.d] [] [It.br false, It.br false, It.br true] = some (V.d (D.bool true), [],
  [decide ((↑(List.map Lt.d c.lats).length : Int) > 60) = false,
   decide ((↑(List.map An.d c.ands).length : Int) > 120) = false,
   decide ((↑(List.map I c.bads).length : Int) > 110) = true]) := by kernel_rfl
theorem gr3  : callX Tryd.prog wr false O 16 [.d c.d] [] [It.br false, It.br false, It.br false, It.br true] = some (V.d (D.bool true), [],
  [decide ((↑(List.map Lt.d c.lats).length : Int) > 60) = false,
   decide ((↑(List.map An.d c.ands).length : Int) > 120) = false,
   decide ((↑(List.map I c.bads).length : Int) > 110) = false,
   decide ((↑(List.map I c.cons).length : Int) > 110) = true]) := by kernel_rfl
theorem gr4  : callX Tryd.prog wr false O 16 [.d c.d] [] [It.br false, It.br false, It.br false, It.br false, It.br true, It.br true] = some (V.d (D.bool true), [],
  [decide ((↑(List.map Lt.d c.lats).length : Int) > 60) = false,
   decide ((↑(List.map An.d c.ands).length : Int) > 120) = false,
   decide ((↑(List.map I c.bads).length : Int) > 110) = false,
   decide ((↑(List.map I c.cons).length : Int) > 110) = false,
   decide (c.ins > 40) = true,
   decide (c.ins < 996) = true]) := by kernel_rfl
theorem gr5  : callX Tryd.prog wr false O 16 [.d c.d] [] [It.br false, It.br false, It.br false, It.br false, It.br true, It.br false] = some (V.d (D.bool false), [],
  [decide ((↑(List.map Lt.d c.lats).length : Int) > 60) = false,
   decide ((↑(List.map An.d c.ands).length : Int) > 120) = false,
   decide ((↑(List.map I c.bads).length : Int) > 110) = false,
   decide ((↑(List.map I c.cons).length : Int) > 110) = false,
   decide (c.ins > 40) = true,
   decide (c.ins < 996) = false]) := by kernel_rfl
theorem gr6  : callX Tryd.prog wr false O 16 [.d c.d] [] [It.br false, It.br false, It.br false, It.br false, It.br false] = some (V.d (D.bool false), [],
  [decide ((↑(List.map Lt.d c.lats).length : Int) > 60) = false,
   decide ((↑(List.map An.d c.ands).length : Int) > 120) = false,
   decide ((↑(List.map I c.bads).length : Int) > 110) = false,
   decide ((↑(List.map I c.cons).length : Int) > 110) = false,
   decide (c.ins > 40) = false]) := by kernel_rfl
end
end Go.Proofs.YtihbpbdmhiihnaaDoor.Sy.Tx
/- gates.Vars, ref02.literals, Size, Check, whole. -/
namespace Go.Proofs.YtihbpbdmhiihnaaDoor.Sy.Tx
open Go Go.Proofs.YtihbpbdmhiihnaaDoor.Ab Go.Proofs.YtihbpbdmhiihnaaDoor.Sy Go.Proofs.YtihbpbdmhiihnaaDoor.Pl
set_option maxRecDepth 1000000
set_option linter.unusedVariables false
/-- A circuit that is not great, of numbers that an int holds. -/
structure Cw (c : Ci) : Prop where
  lats : c.lats.length ≤ 2000
  ands : c.ands.length ≤ 2000
  bads : c.bads.length ≤ 2000
  cons : c.cons.length ≤ 2000
  xb : ∀ x ∈ c.bads, x ≤ 9223372036854775807
  xc : ∀ x ∈ c.cons, x ≤ 9223372036854775807
  xl : ∀ l ∈ c.lats, l.next ≤ 9223372036854775807
  xa : ∀ g ∈ c.ands, g.a ≤ 9223372036854775807
  xd : ∀ g ∈ c.ands, g.b ≤ 9223372036854775807
def szC (c : Ci) : Int := c.ins + (c.lats.length : Int) + (c.ands.length : Int)
theorem st3_sz (c : Ci) : st3 c = szC c + 1 := by simp only [st3, szC, List.length_map]; omega
theorem mem_getD {α : Type} [Inhabited α] {l : List α} {i : Nat} (h : i < l.length) : l.getD i default ∈ l := by
  rw [List.getD_eq_getElem?_getD, List.getElem?_eq_getElem h]; exact List.getElem_mem h
theorem size {c : Ci} (h : Cw c) (h0 : -5000 ≤ c.ins) (h1 : c.ins ≤ 5000) : ICall Tryd.prog 39 [.d c.d] [] (.d (I (szC c))) [] := by
  have h2 := h.lats
  have h3 := h.ands
  have := callX_ok hO hm (sz c) ⟨by simp only [List.length_map]; exact wrap_id (by omega) (by omega), by
    show IntKind.i64.wrap _ = _
    simp only [List.length_map]; exact wrap_id (by omega) (by omega)⟩
  simp only [List.length_map] at this
  exact this
theorem quo {x : Int} (h0 : ¬ x < 0) (h1 : x ≤ 9223372036854775807) : IntKind.i64.wrap (x.tdiv 2) = x / 2 := by
  rw [Int.tdiv_eq_ediv_of_nonneg (by omega), wrap_id (by omega) (by omega)]
theorem literals (ls : List Int) (n : Int) (hl : ls.length ≤ 100000) (hx : ∀ x ∈ ls, x ≤ 9223372036854775807) :
    ICall Tryd.prog 40 [.d (L ls), .d (I n)] [] (.d (.bool (!ls.any (outB (n + 1))))) [] := by
  have key := any_loop (c := loopOf Tryd.prog 40 0) ls (fun i => Hl ls n i) .ret (.exit 0) Rl El (outB (n + 1))
    (fun i hi hb => by
      have p1 : decide ((i : Int) < (((ls.map I).length : Nat) : Int)) = true := decide_eq_true (by rw [List.length_map]; omega)
      have p2 := get_map I ls i hi
      by_cases c0 : ls.getD i default < 0
      · exact .stop hO hm (l1 n i ls) (by simp) ⟨p1, ⟨rfl, p2⟩, decide_eq_true c0⟩
      · have c1 : ls.getD i default / 2 > n := by
          unfold outB at hb
          rw [decide_eq_false c0, Bool.false_or, decide_eq_true_eq] at hb
          omega
        exact .stop hO hm (l2 n i ls) (by simp) ⟨p1, ⟨rfl, p2⟩, decide_eq_false c0, ⟨rfl, p2⟩, quo c0 (hx _ (mem_getD hi)), decide_eq_true c1⟩)
    (fun i hi hb e s h => by
      have p1 : decide ((i : Int) < (((ls.map I).length : Nat) : Int)) = true := decide_eq_true (by rw [List.length_map]; omega)
      have p2 := get_map I ls i hi
      unfold outB at hb
      rw [Bool.or_eq_false_iff, decide_eq_false_iff_not, decide_eq_false_iff_not] at hb
      exact .step hO hm (l3 n i ls) ⟨p1, ⟨rfl, p2⟩, decide_eq_false hb.1, ⟨rfl, p2⟩, quo hb.1 (hx _ (mem_getD hi)), decide_eq_false (by omega), wrap_succ (by omega)⟩ h)
    (.stop hO hm (l4 n ls.length ls) (by simp) (decide_eq_false (by rw [List.length_map]; omega))) ls.length 0 rfl (Nat.zero_le _)
  rw [List.drop_zero] at key
  cases h : ls.any (outB (n + 1)) with
  | true => exact callX_ok hO hm (l6 n ls) (key.1 h)
  | false => exact callX_ok hO hm (l5 n ls) (key.2 h)
def badL (n : Int) (l : Lt) : Bool := wrongB (n + 1) l
theorem lats_loop {c : Ci} (h : Cw c) (n : Int) :
    (c.lats.any (wrongB (n + 1)) = true → GoesL Tryd.prog (loopOf Tryd.prog 22 0) (Hk c n [(4, .d (I 0))]) .ret (Rk c)) ∧
    (c.lats.any (wrongB (n + 1)) = false → GoesL Tryd.prog (loopOf Tryd.prog 22 0) (Hk c n [(4, .d (I 0))]) (.exit 0) (Hk c n [])) := by
  have hl := h.lats
  have key := any_loop (c := loopOf Tryd.prog 22 0) c.lats (fun i => Hk c n [(4, .d (I i))]) .ret (.exit 0) (Rk c) (Hk c n []) (wrongB (n + 1))
    (fun i hi hb => by
      have p1 : decide ((i : Int) < (((c.lats.map Lt.d).length : Nat) : Int)) = true := decide_eq_true (by rw [List.length_map]; omega)
      have p2 := get_map Lt.d c.lats i hi
      have p3 := literals [(c.lats.getD i default).next] n (by simp) (fun x hx => by rw [List.mem_singleton.1 hx]; exact h.xl _ (mem_getD hi))
      simp only [List.any_cons, List.any_nil, Bool.or_false] at p3
      unfold wrongB at hb
      cases c0 : outB (n + 1) (c.lats.getD i default).next with
      | true => rw [c0] at p3; exact .stop hO hm (k0 c n i false) (by simp) ⟨p1, ⟨rfl, p2⟩, p3, rfl⟩
      | false =>
      rw [c0] at p3
      rw [c0, Bool.false_or] at hb
      cases c1 : decide ((c.lats.getD i default).reset < 0) with
      | true => exact .stop hO hm (k1 c n i true) (by simp) ⟨p1, ⟨rfl, p2⟩, p3, rfl, ⟨rfl, p2⟩, c1⟩
      | false =>
      rw [c1, Bool.false_or] at hb
      exact .stop hO hm (k2 c n i true) (by simp) ⟨p1, ⟨rfl, p2⟩, p3, rfl, ⟨rfl, p2⟩, c1, ⟨rfl, p2⟩, hb⟩)
    (fun i hi hb e s hh => by
      have p1 : decide ((i : Int) < (((c.lats.map Lt.d).length : Nat) : Int)) = true := decide_eq_true (by rw [List.length_map]; omega)
      have p2 := get_map Lt.d c.lats i hi
      have p3 := literals [(c.lats.getD i default).next] n (by simp) (fun x hx => by rw [List.mem_singleton.1 hx]; exact h.xl _ (mem_getD hi))
      simp only [List.any_cons, List.any_nil, Bool.or_false] at p3
      unfold wrongB at hb
      rw [Bool.or_eq_false_iff, Bool.or_eq_false_iff] at hb
      rw [hb.1] at p3
      exact .step hO hm (k3 c n i true) ⟨p1, ⟨rfl, p2⟩, p3, rfl, ⟨rfl, p2⟩, hb.2.1, ⟨rfl, p2⟩, hb.2.2, wrap_succ (by omega)⟩ hh)
    (.stop hO hm (k4 c n c.lats.length) (by simp) (decide_eq_false (by rw [List.length_map]; omega))) c.lats.length 0 rfl (Nat.zero_le _)
  rw [List.drop_zero] at key
  exact key
theorem ands_loop {c : Ci} (h : Cw c) (n : Int) (h0 : 0 ≤ c.ins) (h1 : c.ins ≤ 5000) :
    (anyIx (Gates.badA (st2 c)) c.ands 0 = true → GoesL Tryd.prog (loopOf Tryd.prog 22 1) (Hk c n [(5, .d (I 0))]) .ret (Rk c)) ∧
    (anyIx (Gates.badA (st2 c)) c.ands 0 = false → GoesL Tryd.prog (loopOf Tryd.prog 22 1) (Hk c n [(5, .d (I 0))]) (.exit 2) (Hk c n [])) := by
  have hl := h.ands
  have hl2 := h.lats
  have e2 : st2 c = 1 + c.ins + (c.lats.length : Int) := by simp only [st2, List.length_map]
  have w1 : IntKind.i64.wrap (c.ins + (((c.lats.map Lt.d).length : Nat) : Int)) = c.ins + (((c.lats.map Lt.d).length : Nat) : Int) := by rw [List.length_map]; exact wrap_id (by omega) (by omega)
  have key := any_ix (c := loopOf Tryd.prog 22 1) c.ands (fun i => Hk c n [(5, .d (I i))]) .ret (.exit 2) (Rk c) (Hk c n []) (Gates.badA (st2 c))
    (fun i hi hb => by
      have p1 : decide ((i : Int) < (((c.ands.map An.d).length : Nat) : Int)) = true := decide_eq_true (by rw [List.length_map]; omega)
      have p2 := get_map An.d c.ands i hi
      unfold Gates.badA at hb
      by_cases c0 : (c.ands.getD i default).b < 0
      · exact .stop hO hm (k5 c n i) (by simp) ⟨p1, ⟨rfl, p2⟩, decide_eq_true c0⟩
      by_cases c1 : (c.ands.getD i default).a < (c.ands.getD i default).b
      · exact .stop hO hm (k6 c n i) (by simp) ⟨p1, ⟨rfl, p2⟩, decide_eq_false c0, decide_eq_true c1⟩
      rw [decide_eq_false c0, decide_eq_false c1, Bool.false_or, Bool.false_or, decide_eq_true_eq, e2] at hb
      have w2 : IntKind.i64.wrap (c.ins + (((c.lats.map Lt.d).length : Nat) : Int) + (i : Int)) = c.ins + (((c.lats.map Lt.d).length : Nat) : Int) + (i : Int) := by rw [List.length_map]; exact wrap_id (by omega) (by omega)
      exact .stop hO hm (k7 c n i) (by simp) ⟨p1, ⟨rfl, p2⟩, decide_eq_false c0, decide_eq_false c1, quo (by omega) (h.xa _ (mem_getD hi)), w1, w2, decide_eq_true (by rw [List.length_map]; omega)⟩)
    (fun i hi hb e s hh => by
      have p1 : decide ((i : Int) < (((c.ands.map An.d).length : Nat) : Int)) = true := decide_eq_true (by rw [List.length_map]; omega)
      have p2 := get_map An.d c.ands i hi
      unfold Gates.badA at hb
      rw [Bool.or_eq_false_iff, Bool.or_eq_false_iff, decide_eq_false_iff_not, decide_eq_false_iff_not, decide_eq_false_iff_not, e2] at hb
      obtain ⟨c0, c1, c2⟩ := hb
      have w2 : IntKind.i64.wrap (c.ins + (((c.lats.map Lt.d).length : Nat) : Int) + (i : Int)) = c.ins + (((c.lats.map Lt.d).length : Nat) : Int) + (i : Int) := by rw [List.length_map]; exact wrap_id (by omega) (by omega)
      exact .step hO hm (k8 c n i) ⟨p1, ⟨rfl, p2⟩, decide_eq_false c0, decide_eq_false c1, quo (by omega) (h.xa _ (mem_getD hi)), w1, w2, decide_eq_false (by rw [List.length_map]; omega), wrap_succ (by omega)⟩ hh)
    (.stop hO hm (k9 c n c.ands.length) (by simp) (decide_eq_false (by rw [List.length_map]; omega))) c.ands.length 0 rfl (Nat.zero_le _)
  rw [List.drop_zero] at key
  exact key
/-- The reference's check and the program's answer alike. -/
theorem check {c : Ci} (h : Cw c) : ICall Tryd.prog 22 [.d c.d] [] (.d (I (Gates.chk c))) [] := by
  have h1 := h.lats
  have h2 := h.ands
  unfold Gates.chk
  by_cases c1 : c.ins < 0
  · rw [if_pos c1]; exact callX_ok hO hm (ck0 c) (decide_eq_true c1)
  rw [if_neg c1]
  have q1 : decide (c.ins < 0) = false := decide_eq_false c1
  by_cases c2 : c.ins > 1000
  · rw [if_pos c2]; exact callX_ok hO hm (ck1 c) ⟨q1, decide_eq_true c2⟩
  rw [if_neg c2]
  have q2 : decide (c.ins > 1000) = false := decide_eq_false c2
  have hs := size h (by omega) (by omega)
  by_cases c3 : szC c > 1000
  · rw [if_pos (by rw [st3_sz]; omega)]; exact callX_ok hO hm (ck2 c (szC c)) ⟨q1, q2, hs, decide_eq_true c3⟩
  rw [if_neg (by rw [st3_sz]; omega)]
  have q3 : decide (szC c > 1000) = false := decide_eq_false c3
  by_cases c4 : (((c.bads.map I).length : Nat) : Int) > 100
  · rw [if_pos (by split <;> omega)]; exact callX_ok hO hm (ck3 c (szC c)) ⟨q1, q2, hs, q3, decide_eq_true c4⟩
  have q4 := decide_eq_false c4
  by_cases c5 : (((c.cons.map I).length : Nat) : Int) > 100
  · rw [if_pos (by split <;> omega)]; exact callX_ok hO hm (ck4 c (szC c)) ⟨q1, q2, hs, q3, q4, decide_eq_true c5⟩
  have q5 := decide_eq_false c5
  rw [if_neg (by split <;> omega), st3_sz]
  have hb := literals c.bads (szC c) (by have := h.bads; omega) h.xb
  have hc := literals c.cons (szC c) (by have := h.cons; omega) h.xc
  cases e1 : c.bads.any (outB (szC c + 1)) with
  | true => rw [e1] at hb; exact callX_ok hO hm (ck5 c (szC c)) ⟨q1, q2, hs, q3, q4, q5, hs, hb, rfl⟩
  | false =>
  rw [e1] at hb
  cases e2 : c.cons.any (outB (szC c + 1)) with
  | true => rw [e2] at hc; exact callX_ok hO hm (ck7 c (szC c)) ⟨q1, q2, hs, q3, q4, q5, hs, hb, rfl, hc, rfl⟩
  | false =>
  rw [e2] at hc
  obtain ⟨l1, l2⟩ := lats_loop h (szC c)
  cases e3 : c.lats.any (wrongB (szC c + 1)) with
  | true => exact callX_ok hO hm (ck8 c (szC c)) ⟨q1, q2, hs, q3, q4, q5, hs, hb, rfl, hc, rfl, l1 e3⟩
  | false =>
  obtain ⟨a1, a2⟩ := ands_loop h (szC c) (by omega) (by omega)
  cases e4 : anyIx (Gates.badA (st2 c)) c.ands 0 with
  | true => exact callX_ok hO hm (ck9 c (szC c)) ⟨q1, q2, hs, q3, q4, q5, hs, hb, rfl, hc, rfl, l2 e3, a1 e4⟩
  | false => exact callX_ok hO hm (ck10 c (szC c)) ⟨q1, q2, hs, q3, q4, q5, hs, hb, rfl, hc, rfl, l2 e3, a2 e4⟩
theorem gates_check {c : Ci} (h : Cw c) : ICall Tryd.prog 54 [.d c.d] [] (.d (I (Gates.chk c))) [] :=
  Gates.icall c (by have := h.lats; omega) (by have := h.ands; omega) (by have := h.bads; omega) (by have := h.cons; omega)
theorem chk_ins {c : Ci} (hc : Gates.chk c = 0) : 0 ≤ c.ins ∧ c.ins ≤ 1000 ∧ szC c ≤ 1000 := by
  unfold Gates.chk at hc
  by_cases c1 : c.ins < 0
  · rw [if_pos c1] at hc; cases hc
  rw [if_neg c1] at hc
  by_cases c2 : c.ins > 1000
  · rw [if_pos c2] at hc; cases hc
  rw [if_neg c2] at hc
  by_cases c3 : st3 c - 1 > 1000
  · rw [if_pos c3] at hc; cases hc
  rw [st3_sz] at c3
  omega
theorem vars_bad {c : Ci} (h : Cw c) (hc : Gates.chk c ≠ 0) : ICall Tryd.prog 37 [.d c.d] [] (.tup [.d (I 0), .d (I (Gates.chk c))]) [] :=
  callX_ok hO hm (gv1 c (Gates.chk c)) ⟨gates_check h, bne_iff_ne.2 hc⟩
theorem vars_good {c : Ci} (h : Cw c) (hc : Gates.chk c = 0) : ICall Tryd.prog 37 [.d c.d] [] (.tup [.d (I (szC c)), .d (I 0)]) [] := by
  have hck := gates_check h
  rw [hc] at hck
  have hi := chk_ins hc
  have h1 := h.lats
  have h2 := h.ands
  have hz : 0 ≤ szC c := by unfold szC; omega
  have := callX_ok hO hm (gv0 c (st3 c) (st1 c) (st2 c)) ⟨hck, rfl, Sy.starts c (by omega) (by omega) (by omega) (by omega), by
    show IntKind.i64.wrap _ = _
    rw [st3_sz]; exact wrap_id (by omega) (by omega)⟩
  rw [st3_sz, show szC c + 1 - 1 = szC c by omega] at this
  exact this
/-- Numbers that an int holds. -/
structure Cx (c : Ci) : Prop where
  xb : ∀ x ∈ c.bads, x ≤ 9223372036854775807
  xc : ∀ x ∈ c.cons, x ≤ 9223372036854775807
  xl : ∀ l ∈ c.lats, l.next ≤ 9223372036854775807
  xa : ∀ g ∈ c.ands, g.a ≤ 9223372036854775807
  xd : ∀ g ∈ c.ands, g.b ≤ 9223372036854775807
def great2 (c : Ci) : Bool := decide ((c.lats.length : Int) > 60) || (decide ((c.ands.length : Int) > 120) || (decide ((c.bads.length : Int) > 110) || (decide ((c.cons.length : Int) > 110) || (decide (c.ins > 40) && decide (c.ins < 996)))))
theorem great2_ok (c : Ci) : ICall Tryd.prog 16 [.d c.d] [] (.d (.bool (great2 c))) [] := by
  unfold great2
  have e1 : (c.lats.map Lt.d).length = c.lats.length := List.length_map _
  have e2 : (c.ands.map An.d).length = c.ands.length := List.length_map _
  have e3 : (c.bads.map I).length = c.bads.length := List.length_map _
  have e4 : (c.cons.map I).length = c.cons.length := List.length_map _
  rw [← e1, ← e2, ← e3, ← e4]
  cases c1 : decide ((((c.lats.map Lt.d).length : Nat) : Int) > 60) with
  | true => exact callX_ok hO hm (gr0 c) c1
  | false =>
  cases c2 : decide ((((c.ands.map An.d).length : Nat) : Int) > 120) with
  | true => exact callX_ok hO hm (gr1 c) ⟨c1, c2⟩
  | false =>
  cases c3 : decide ((((c.bads.map I).length : Nat) : Int) > 110) with
  | true => exact callX_ok hO hm (gr2 c) ⟨c1, c2, c3⟩
  | false =>
  cases c4 : decide ((((c.cons.map I).length : Nat) : Int) > 110) with
  | true => exact callX_ok hO hm (gr3 c) ⟨c1, c2, c3, c4⟩
  | false =>
  cases c5 : decide (c.ins > 40) with
  | false => exact callX_ok hO hm (gr6 c) ⟨c1, c2, c3, c4, c5⟩
  | true =>
  cases c6 : decide (c.ins < 996) with
  | true => exact callX_ok hO hm (gr4 c) ⟨c1, c2, c3, c4, c5, c6⟩
  | false => exact callX_ok hO hm (gr5 c) ⟨c1, c2, c3, c4, c5, c6⟩
theorem cw_of {c : Ci} (hg : great2 c = false) (hx : Cx c) : Cw c := by
  unfold great2 at hg
  simp only [Bool.or_eq_false_iff, decide_eq_false_iff_not] at hg
  obtain ⟨g1, g2, g3, g4, -⟩ := hg
  exact ⟨by omega, by omega, by omega, by omega, hx.xb, hx.xc, hx.xl, hx.xa, hx.xd⟩
end Go.Proofs.YtihbpbdmhiihnaaDoor.Sy.Tx
/- order.Raw, ref03.Of, ascii.Text, ref07.Text, whole. -/
namespace Go.Proofs.YtihbpbdmhiihnaaDoor.Sy.Tx
open Go Go.Proofs.YtihbpbdmhiihnaaDoor.Ab Go.Proofs.YtihbpbdmhiihnaaDoor.Sy Go.Proofs.YtihbpbdmhiihnaaDoor.Pl
set_option maxRecDepth 1000000
set_option linter.unusedVariables false
theorem range_getD (n i : Nat) (h : i < n) : (List.range n).getD i default = i := by
  rw [List.getD_eq_getElem?_getD, List.getElem?_eq_getElem (by rw [List.length_range]; exact h)]; simp
section
variable {k : Code}
/-- A list behind which something is put for each number below n. -/
theorem range_loop (n : Nat) (H : Nat → List D → St) (e0 : Ex) (E : List D → St) (f : Nat → D)
    (hs : ∀ i acc, i < n → acc.length = i → ∀ e s, GoesL Tryd.prog k (H (i + 1) (acc ++ [f i])) e s → GoesL Tryd.prog k (H i acc) e s)
    (he : ∀ acc, acc.length = n → GoesL Tryd.prog k (H n acc) e0 (E acc)) : GoesL Tryd.prog k (H 0 []) e0 (E ((List.range n).map f)) := by
  have := Cir.map_loop (c := k) (List.range n) H e0 E f (fun i acc hi ha e s h => by
    rw [List.length_range] at hi
    rw [range_getD n i hi] at h
    exact hs i acc hi ha e s h) (fun acc ha => by rw [List.length_range] at ha ⊢; exact he acc ha)
  exact this
end
def insL (m : Nat) : List Int := (List.range m).map (fun i : Nat => 2 * ((i : Int) + 1))
def latsL (c : Ci) : List Df := (List.range c.lats.length).map (fun i : Nat => ⟨2 * (c.ins + (i : Int) + 1), (c.lats.getD i default).next, (c.lats.getD i default).reset⟩)
def andsL (c : Ci) : List Df := (List.range c.ands.length).map (fun i : Nat => ⟨2 * (c.ins + (c.lats.length : Int) + (i : Int) + 1), (c.ands.getD i default).a, (c.ands.getD i default).b⟩)
/-- The raw circuit of a circuit. -/
def rawC (c : Ci) : Rw := ⟨szC c, insL c.ins.toNat, latsL c, andsL c, c.bads, c.cons⟩
def r00 : Rw := ⟨0, [], [], [], [], []⟩
section
variable {c : Ci} (h : Cw c) (n : Int) (h0 : 0 ≤ c.ins) (h1 : c.ins ≤ 1000)
def So (c : Ci) (n : Int) : St := ⟨mk 85 [(1, .ptr 0 0), (2, .ptr 1 0), (6, .ptr 2 0), (7, .d (I 0)), (30, .d (I c.ins)), (31, .d (I 0))] [], [Bc c, B0, .box [.d (I n), .emp true, .emp true, .emp true, .d (L c.bads), .d (L c.cons)]]⟩
theorem so_adopt (c : Ci) (n : Int) : adoptB 2 3 65 (adoptB 2 2 65 (adoptB 2 1 3 (So c n))) = Ho c n 0 [] [] [] [(30, .d (I c.ins)), (31, .d (I 0))] := by kernel_rfl
theorem y1 : szOf Tryd.prog 3 = some 1 := by kernel_rfl
theorem y3 : szOf Tryd.prog 65 = some 3 := by kernel_rfl
theorem m100 (a : Nat) (h : a ≤ 100000) : a ≤ maxItems := Nat.le_trans h (by decide)
include h0 h1 in
theorem oins : GoesL Tryd.prog (loopOf Tryd.prog 21 0) (So c n) (.exit 0) (Ho c n (2 * c.ins) ((insL c.ins.toNat).map I) [] [] []) := by
  refine .adoptB (id := 2) (j := 1) y1 (.adoptB (id := 2) (j := 2) y3 (.adoptB (id := 2) (j := 3) y3 ?_))
  rw [so_adopt]
  have hm' : ((c.ins.toNat : Nat) : Int) = c.ins := by omega
  have := range_loop (k := loopOf Tryd.prog 21 0) c.ins.toNat (fun i acc => Ho c n (2 * (i : Int)) acc [] [] [(30, .d (I c.ins)), (31, .d (I i))]) (.exit 0) (fun acc => Ho c n (2 * c.ins) acc [] [] []) (fun i => I (2 * ((i : Int) + 1)))
    (fun i acc hi ha e s hh => by
      have e1 : 2 * (((i + 1 : Nat)) : Int) = 2 * (i : Int) + 2 := by omega
      have e2 : 2 * ((i : Int) + 1) = 2 * (i : Int) + 2 := by omega
      rw [e1, e2] at hh
      exact .step hO hm (o1 c n c.ins (2 * (i : Int)) i acc [] []) ⟨decide_eq_true (by omega), wrap_id (by omega) (by omega), m100 _ (by simp; omega), wrap_succ (by omega)⟩ hh)
    (fun acc ha => by
      have := o2 c n c.ins (2 * ((c.ins.toNat : Nat) : Int)) c.ins.toNat acc [] []
      rw [hm'] at this ⊢
      exact .stop hO hm this (by simp) (decide_eq_false (by omega)))
  unfold insL
  rw [List.map_map]
  exact this
include h h0 h1 in
theorem olats (a : List D) : GoesL Tryd.prog (loopOf Tryd.prog 21 1) (Ho c n (2 * c.ins) a [] [] [(43, .d (.sl (c.lats.map Lt.d))), (44, .d (I (c.lats.map Lt.d).length)), (45, .d (I 0))]) (.exit 2)
    (Ho c n (2 * (c.ins + (c.lats.length : Int))) a ((latsL c).map Df.d) [] []) := by
  have hl := h.lats
  have := range_loop (k := loopOf Tryd.prog 21 1) c.lats.length (fun i acc => Ho c n (2 * (c.ins + (i : Int))) a acc [] [(43, .d (.sl (c.lats.map Lt.d))), (44, .d (I (c.lats.map Lt.d).length)), (45, .d (I i))]) (.exit 2) (fun acc => Ho c n (2 * (c.ins + (c.lats.length : Int))) a acc [] [])
    (fun i => (⟨2 * (c.ins + (i : Int) + 1), (c.lats.getD i default).next, (c.lats.getD i default).reset⟩ : Df).d)
    (fun i acc hi ha e s hh => by
      have e1 : 2 * (c.ins + ((i + 1 : Nat) : Int)) = 2 * (c.ins + (i : Int)) + 2 := by omega
      have e2 : 2 * (c.ins + (i : Int) + 1) = 2 * (c.ins + (i : Int)) + 2 := by omega
      rw [e1, e2] at hh
      exact .step hO hm (o3 c n (2 * (c.ins + (i : Int))) i a acc []) ⟨decide_eq_true (by rw [List.length_map]; omega), ⟨rfl, get_map Lt.d c.lats i hi⟩, wrap_id (by omega) (by omega), m100 _ (by simp; omega), wrap_succ (by omega)⟩ hh)
    (fun acc ha => .stop hO hm (o4 c n _ c.lats.length a acc []) (by simp) (decide_eq_false (by rw [List.length_map]; omega)))
  rw [show 2 * (c.ins + ((0 : Nat) : Int)) = 2 * c.ins by omega] at this
  unfold latsL
  rw [List.map_map]
  exact this
include h h0 h1 in
theorem oands (a b : List D) : GoesL Tryd.prog (loopOf Tryd.prog 21 2) (Ho c n (2 * (c.ins + (c.lats.length : Int))) a b [] [(64, .d (.sl (c.ands.map An.d))), (65, .d (I (c.ands.map An.d).length)), (66, .d (I 0))]) (.exit 4)
    (Ho c n (2 * szC c) a b ((andsL c).map Df.d) []) := by
  have hl := h.lats
  have ha2 := h.ands
  have := range_loop (k := loopOf Tryd.prog 21 2) c.ands.length (fun i acc => Ho c n (2 * (c.ins + (c.lats.length : Int) + (i : Int))) a b acc [(64, .d (.sl (c.ands.map An.d))), (65, .d (I (c.ands.map An.d).length)), (66, .d (I i))]) (.exit 4) (fun acc => Ho c n (2 * szC c) a b acc [])
    (fun i => (⟨2 * (c.ins + (c.lats.length : Int) + (i : Int) + 1), (c.ands.getD i default).a, (c.ands.getD i default).b⟩ : Df).d)
    (fun i acc hi ha e s hh => by
      have e1 : 2 * (c.ins + (c.lats.length : Int) + ((i + 1 : Nat) : Int)) = 2 * (c.ins + (c.lats.length : Int) + (i : Int)) + 2 := by omega
      have e2 : 2 * (c.ins + (c.lats.length : Int) + (i : Int) + 1) = 2 * (c.ins + (c.lats.length : Int) + (i : Int)) + 2 := by omega
      rw [e1, e2] at hh
      exact .step hO hm (o5 c n (2 * (c.ins + (c.lats.length : Int) + (i : Int))) i a b acc) ⟨decide_eq_true (by rw [List.length_map]; omega), ⟨rfl, get_map An.d c.ands i hi⟩, wrap_id (by omega) (by omega), m100 _ (by simp; omega), wrap_succ (by omega)⟩ hh)
    (fun acc ha => .stop hO hm (o6 c n _ c.ands.length a b acc) (by simp) (decide_eq_false (by rw [List.length_map]; omega)))
  rw [show 2 * (c.ins + (c.lats.length : Int) + ((0 : Nat) : Int)) = 2 * (c.ins + (c.lats.length : Int)) by omega] at this
  unfold andsL
  rw [List.map_map]
  exact this
end
section
variable {c : Ci} (h : Cw c)
include h
theorem oraw_good (hc : Gates.chk c = 0) : ICall Tryd.prog 21 [.d c.d] [] (.tup [.d (rawC c).d, .d (I 0)]) [] := by
  obtain ⟨h0, h1, h2⟩ := chk_ins hc
  have k1 := (LInt.clone (a := c.bads) (by have := h.bads; omega)).frz (r' := .d (L c.bads)) rfl
  have k2 := (LInt.clone (a := c.cons) (by have := h.cons; omega)).frz (r' := .d (L c.cons)) rfl
  have := callX_ok hO hm (raw0 c (szC c) (2 * c.ins) (2 * (c.ins + (c.lats.length : Int))) (2 * szC c) ((insL c.ins.toNat).map I) ((insL c.ins.toNat).map I) ((insL c.ins.toNat).map I) [] ((latsL c).map Df.d) ((latsL c).map Df.d) [] [] ((andsL c).map Df.d))
    ⟨vars_good h hc, rfl, ⟨k1, .inl rfl⟩, ⟨k2, .inl rfl⟩, oins (szC c) h0 h1, olats h (szC c) h0 h1 _, oands h (szC c) h0 h1 _ _⟩
  exact this.frz rfl
theorem oraw_bad (hc : Gates.chk c ≠ 0) : ICall Tryd.prog 21 [.d c.d] [] (.tup [.d r00.d, .d (I (Gates.chk c))]) [] := by
  have := callX_ok hO hm (raw1 c (Gates.chk c)) ⟨vars_bad h hc, bne_iff_ne.2 hc⟩
  exact this.frz rfl
end
section
variable {c : Ci} (n : Int)
def Sf (c : Ci) (n : Int) : St := ⟨mk 95 [(1, .ptr 0 0), (2, .ptr 1 0), (3, .ptr 2 0), (4, .d (I 1)), (5, .d (I 0))] [], [Bc c, B0, .box [.d (I n), .emp true, .emp true, .emp true, .emp true, .emp true]]⟩
theorem sf_adopt (c : Ci) (n : Int) : adoptB 2 3 65 (adoptB 2 2 65 (adoptB 2 1 3 (Sf c n))) = Hf c n 1 [] [] [] [(5, .d (I 0))] := by kernel_rfl
theorem fins (h0 : 0 ≤ c.ins) (h1 : c.ins ≤ 1000) : GoesL Tryd.prog (loopOf Tryd.prog 32 0) (Sf c n) (.exit 0) (Hf c n (c.ins + 1) ((insL c.ins.toNat).map I) [] [] []) := by
  refine .adoptB (id := 2) (j := 1) y1 (.adoptB (id := 2) (j := 2) y3 (.adoptB (id := 2) (j := 3) y3 ?_))
  rw [sf_adopt]
  have hm' : ((c.ins.toNat : Nat) : Int) = c.ins := by omega
  have := range_loop (k := loopOf Tryd.prog 32 0) c.ins.toNat (fun i acc => Hf c n ((i : Int) + 1) acc [] [] [(5, .d (I i))]) (.exit 0) (fun acc => Hf c n (c.ins + 1) acc [] [] []) (fun i => I (2 * ((i : Int) + 1)))
    (fun i acc hi ha e s hh => by
      have e1 : (((i + 1 : Nat)) : Int) = (i : Int) + 1 := by omega
      rw [show (((i + 1 : Nat) : Int) + 1) = (i : Int) + 1 + 1 by omega] at hh
      exact .step hO hm (f1 c n ((i : Int) + 1) i acc [] []) ⟨decide_eq_true (by omega), wrap_id (by omega) (by omega), m100 _ (by simp; omega), wrap_id (by omega) (by omega), wrap_succ (by omega)⟩ hh)
    (fun acc ha => by
      have := f2 c n (((c.ins.toNat : Nat) : Int) + 1) c.ins.toNat acc [] []
      rw [hm'] at this ⊢
      exact .stop hO hm this (by simp) (decide_eq_false (by omega)))
  unfold insL
  rw [List.map_map]
  exact this
theorem flats (h : Cw c) (h0 : 0 ≤ c.ins) (h1 : c.ins ≤ 1000) (a : List D) : GoesL Tryd.prog (loopOf Tryd.prog 32 1) (Hf c n (c.ins + 1) a [] [] [(6, .d (I 0))]) (.exit 2) (Hf c n (c.ins + (c.lats.length : Int) + 1) a ((latsL c).map Df.d) [] []) := by
  have hl := h.lats
  have := range_loop (k := loopOf Tryd.prog 32 1) c.lats.length (fun i acc => Hf c n (c.ins + (i : Int) + 1) a acc [] [(6, .d (I i))]) (.exit 2) (fun acc => Hf c n (c.ins + (c.lats.length : Int) + 1) a acc [] [])
    (fun i => (⟨2 * (c.ins + (i : Int) + 1), (c.lats.getD i default).next, (c.lats.getD i default).reset⟩ : Df).d)
    (fun i acc hi ha e s hh => by
      rw [show c.ins + ((i + 1 : Nat) : Int) + 1 = c.ins + (i : Int) + 1 + 1 by omega] at hh
      exact .step hO hm (f3 c n (c.ins + (i : Int) + 1) i a acc []) ⟨decide_eq_true (by rw [List.length_map]; omega), wrap_id (by omega) (by omega), ⟨rfl, get_map Lt.d c.lats i hi⟩, ⟨rfl, get_map Lt.d c.lats i hi⟩, m100 _ (by simp; omega), wrap_id (by omega) (by omega), wrap_succ (by omega)⟩ hh)
    (fun acc ha => .stop hO hm (f4 c n _ c.lats.length a acc []) (by simp) (decide_eq_false (by rw [List.length_map]; omega)))
  rw [show c.ins + ((0 : Nat) : Int) + 1 = c.ins + 1 by omega] at this
  unfold latsL
  rw [List.map_map]
  exact this
theorem fands (h : Cw c) (h0 : 0 ≤ c.ins) (h1 : c.ins ≤ 1000) (a b : List D) : GoesL Tryd.prog (loopOf Tryd.prog 32 2) (Hf c n (c.ins + (c.lats.length : Int) + 1) a b [] [(7, .d (I 0))]) (.exit 4) (Hf c n (szC c + 1) a b ((andsL c).map Df.d) []) := by
  have hl := h.lats
  have ha2 := h.ands
  have := range_loop (k := loopOf Tryd.prog 32 2) c.ands.length (fun i acc => Hf c n (c.ins + (c.lats.length : Int) + (i : Int) + 1) a b acc [(7, .d (I i))]) (.exit 4) (fun acc => Hf c n (szC c + 1) a b acc [])
    (fun i => (⟨2 * (c.ins + (c.lats.length : Int) + (i : Int) + 1), (c.ands.getD i default).a, (c.ands.getD i default).b⟩ : Df).d)
    (fun i acc hi ha e s hh => by
      rw [show c.ins + (c.lats.length : Int) + ((i + 1 : Nat) : Int) + 1 = c.ins + (c.lats.length : Int) + (i : Int) + 1 + 1 by omega] at hh
      exact .step hO hm (f5 c n (c.ins + (c.lats.length : Int) + (i : Int) + 1) i a b acc) ⟨decide_eq_true (by rw [List.length_map]; omega), wrap_id (by omega) (by omega), ⟨rfl, get_map An.d c.ands i hi⟩, ⟨rfl, get_map An.d c.ands i hi⟩, m100 _ (by simp; omega), wrap_id (by omega) (by omega), wrap_succ (by omega)⟩ hh)
    (fun acc ha => .stop hO hm (f6 c n _ c.ands.length a b acc) (by simp) (decide_eq_false (by rw [List.length_map]; omega)))
  rw [show c.ins + (c.lats.length : Int) + ((0 : Nat) : Int) + 1 = c.ins + (c.lats.length : Int) + 1 by omega] at this
  unfold andsL
  rw [List.map_map]
  exact this
theorem ofC (h : Cw c) (hc : Gates.chk c = 0) : ICall Tryd.prog 32 [.d c.d] [] (.d (rawC c).d) [] := by
  obtain ⟨h0, h1, h2⟩ := chk_ins hc
  have := callX_ok hO hm (of c (szC c) (c.ins + 1) (c.ins + (c.lats.length : Int) + 1) (szC c + 1) ((insL c.ins.toNat).map I) ((insL c.ins.toNat).map I) ((insL c.ins.toNat).map I) [] ((latsL c).map Df.d) ((latsL c).map Df.d) [] [] ((andsL c).map Df.d))
    ⟨size h (by omega) (by omega), fins (szC c) h0 h1, flats (szC c) h h0 h1 _, fands (szC c) h h0 h1 _ _, LInt.sz _, m100 _ (by rw [List.length_map]; have := h.bads; omega), LInt.sz _, m100 _ (by rw [List.length_map]; have := h.cons; omega)⟩
  exact this.frz rfl
end
section
variable {c : Ci} (h : Cw c)
include h
theorem rawC_sm (hc : Gates.chk c = 0) : Ref.Sm (rawC c) := by
  obtain ⟨h0, h1, h2⟩ := chk_ins hc
  have hl := h.lats
  have ha := h.ands
  have e1 : (rawC c).ins.length = c.ins.toNat := by simp [rawC, insL]
  have e2 : (rawC c).lats.length = c.lats.length := by simp [rawC, latsL]
  have e3 : (rawC c).ands.length = c.ands.length := by simp [rawC, andsL]
  refine ⟨by omega, by omega, by omega, h.bads, h.cons, fun x hx => ?_, fun x hx => ?_⟩
  · unfold Def.defs at hx
    rcases List.mem_append.1 hx with hx | hx
    · obtain ⟨i, hi, rfl⟩ := List.mem_map.1 (show x ∈ insL _ from hx)
      have := List.mem_range.1 hi; omega
    · obtain ⟨d, hd, rfl⟩ := List.mem_map.1 hx
      rcases List.mem_append.1 hd with hd | hd
      · obtain ⟨i, hi, rfl⟩ := List.mem_map.1 (show d ∈ latsL c from hd)
        have := List.mem_range.1 hi
        show 2 * (c.ins + (i : Int) + 1) ≤ _
        omega
      · obtain ⟨i, hi, rfl⟩ := List.mem_map.1 (show d ∈ andsL c from hd)
        have := List.mem_range.1 hi
        show 2 * (c.ins + (c.lats.length : Int) + (i : Int) + 1) ≤ _
        omega
  · unfold Def.uses at hx
    rcases List.mem_append.1 hx with hx | hx
    · rcases List.mem_append.1 hx with hx | hx
      · rcases List.mem_append.1 hx with hx | hx
        · exact h.xb x hx
        · exact h.xc x hx
      · obtain ⟨d, hd, rfl⟩ := List.mem_map.1 hx
        obtain ⟨i, hi, rfl⟩ := List.mem_map.1 (show d ∈ latsL c from hd)
        exact h.xl _ (mem_getD (List.mem_range.1 hi))
    · obtain ⟨d, hd, hx⟩ := List.mem_flatMap.1 hx
      obtain ⟨i, hi, rfl⟩ := List.mem_map.1 (show d ∈ andsL c from hd)
      simp only [List.mem_cons, List.not_mem_nil, or_false] at hx
      rcases hx with rfl | rfl
      · exact h.xa _ (mem_getD (List.mem_range.1 hi))
      · exact h.xd _ (mem_getD (List.mem_range.1 hi))
/-- The text of a circuit, and its error. -/
def txtS (c : Ci) : List UInt8 := if Gates.chk c = 0 then Rq.rawT (rawC c) else []
def txtE (c : Ci) : Int := if Gates.chk c = 0 then Cir.chkR (rawC c) else Gates.chk c
theorem text : ICall Tryd.prog 17 [.d c.d] [] (.tup [.d (.str (txtS c)), .d (I (txtE c))]) [] := by
  unfold txtS txtE
  by_cases hc : Gates.chk c = 0
  · rw [if_pos hc, if_pos hc]
    exact callX_ok hO hm (tx0 c (Cir.chkR (rawC c)) (rawC c) (Rq.rawT (rawC c))) ⟨oraw_good h hc, rfl, Rq.araw (rawC_sm h hc)⟩
  · rw [if_neg hc, if_neg hc]
    exact callX_ok hO hm (tx1 c (Gates.chk c) r00) ⟨oraw_bad h hc, bne_iff_ne.2 hc⟩
theorem rtext : ICall Tryd.prog 18 [.d c.d] [] (.tup [.d (.str (txtS c)), .d (I (txtE c))]) [] := by
  unfold txtS txtE
  have hck := check h
  by_cases hc : Gates.chk c = 0
  · rw [if_pos hc, if_pos hc]
    rw [hc] at hck
    exact callX_ok hO hm (rt0 c (Cir.chkR (rawC c)) (rawC c) (Rq.rawT (rawC c))) ⟨hck, rfl, ofC h hc, Rq.rraw (rawC_sm h hc)⟩
  · rw [if_neg hc, if_neg hc]
    exact callX_ok hO hm (rt1 c (Gates.chk c)) ⟨hck, bne_iff_ne.2 hc, hck⟩
end
end Go.Proofs.YtihbpbdmhiihnaaDoor.Sy.Tx
/- alive, AsciiTexts, AsciiSame, AsciiOne: round by round. -/
namespace Go.Proofs.YtihbpbdmhiihnaaDoor.Sy.Tx
open Go Go.Proofs.YtihbpbdmhiihnaaDoor.Ab Go.Proofs.YtihbpbdmhiihnaaDoor.Sy
set_option maxRecDepth 1000000
set_option linter.unusedVariables false
section
variable (c : Ci) (n e x : Int) (i : Nat) (r r2 : Rw) (st st2 : List UInt8) (t : Bool)
theorem al  : callX Tryd.prog wr false O 20 [] [] [It.own, It.own, It.ret (V.tup [V.d (D.str st), V.d (I 0)]), It.ix 0, It.el 0 (Lt.mk 3 0).d, It.ret (V.tup [V.d (D.str st2), V.d (I 0)]), It.br true, It.br true, It.br true, It.br true] = some (V.d (D.bool true), [],
  [ICall Tryd.prog 17 [V.d (D.agg [D.int IntKind.i64 0, D.sl [D.agg [D.int IntKind.i64 3, D.int IntKind.i64 0]], D.sl [], D.sl [D.int IntKind.i64 2], D.sl []])] [] (V.tup [V.d (D.str st), V.d (I 0)]) [] ∧ (List.flatMap refs ([V.agg (List.take 5 (List.drop 0 (over [V.d (D.int IntKind.i64 0), V.emp true, V.emp true, V.emp true, V.emp true] 0 (over (over [V.d (D.int IntKind.i64 0), V.emp true, V.emp true, V.emp true, V.emp true] 1 [V.arr 0]) 3 [V.arr 1]))))] ++ []) = [] ∨ (V.tup [V.d (D.str st), V.d (I 0)]).safe = true),
   0 = (↑0 : Int) ∧ 0 < 1,
   [D.agg [D.int IntKind.i64 3, D.int IntKind.i64 0]][0]? = some (D.agg [I (Lt.mk 3 0).next, I (Lt.mk 3 0).reset]),
   ICall Tryd.prog 17 [V.d (D.agg [D.int IntKind.i64 0, D.sl [D.agg [D.int IntKind.i64 (Lt.mk 3 0).next, D.int IntKind.i64 2]], D.sl [], D.sl [D.int IntKind.i64 2], D.sl []])] [] (V.tup [V.d (D.str st2), V.d (I 0)]) [] ∧ (List.flatMap refs ([V.agg (List.take 5 (List.drop 0 (over [V.d (D.int IntKind.i64 0), V.emp true, V.emp true, V.emp true, V.emp true] 0 (over (over [V.d (D.int IntKind.i64 0), V.emp true, V.emp true, V.emp true, V.emp true] 1 [V.arr 0]) 3 [V.arr 1]))))] ++ []) = [] ∨ (V.tup [V.d (D.str st2), V.d (I 0)]).safe = true),
   (0 == 0) = true,
   (st == (ByteArray.mk #[97, 97, 103, 32, 49, 32, 48, 32, 49, 32, 48, 32, 48, 32, 49, 32, 48, 10, 50, 32, 51, 10, 50, 10]).data.toList) = true,
   (0 == 0) = true,
   (st2 == (ByteArray.mk #[97, 97, 103, 32, 49, 32, 48, 32, 49, 32, 48, 32, 48, 32, 49, 32, 48, 10, 50, 32, 51, 32, 50, 10, 50, 10]).data.toList) = true]) := by kernel_rfl
theorem lt0  : callX Tryd.prog wr false O 4 [.d c.d] [] [It.icall [] (V.d (D.bool true)) []] = some (V.d (D.bool true), [],
  [ICall Tryd.prog 16 [V.d (D.agg [I c.ins, D.sl (List.map Lt.d c.lats), D.sl (List.map An.d c.ands), L c.bads, L c.cons])] [] (V.d (D.bool true)) []]) := by kernel_rfl
theorem lt1  : callX Tryd.prog wr false O 4 [.d c.d] [] [It.icall [] (V.d (D.bool false)) [], It.icall [] (V.tup [V.d (D.str st), V.d (I e)]) [], It.icall [] (V.tup [V.d (D.str st), V.d (I e)]) [], It.br true, It.br true] = some (V.d (D.bool true), [],
  [ICall Tryd.prog 16 [V.d (D.agg [I c.ins, D.sl (List.map Lt.d c.lats), D.sl (List.map An.d c.ands), L c.bads, L c.cons])] [] (V.d (D.bool false)) [],
   ICall Tryd.prog 17 [V.d (D.agg [I c.ins, D.sl (List.map Lt.d c.lats), D.sl (List.map An.d c.ands), L c.bads, L c.cons])] [] (V.tup [V.d (D.str st), V.d (I e)]) [],
   ICall Tryd.prog 18 [V.d (D.agg [I c.ins, D.sl (List.map Lt.d c.lats), D.sl (List.map An.d c.ands), L c.bads, L c.cons])] [] (V.tup [V.d (D.str st), V.d (I e)]) [],
   (st == st) = true,
   (e == e) = true]) := by kernel_rfl
theorem sa0  : callX Tryd.prog wr false O 6 [.d c.d] [] [It.icall [] (V.d (D.bool true)) [], It.icall [] (V.d (D.bool true)) []] = some (V.d (D.bool true), [],
  [ICall Tryd.prog 16 [V.d (D.agg [I c.ins, D.sl (List.map Lt.d c.lats), D.sl (List.map An.d c.ands), L c.bads, L c.cons])] [] (V.d (D.bool true)) [],
   ICall Tryd.prog 20 [] [] (V.d (D.bool true)) []]) := by kernel_rfl
theorem sa1  : callX Tryd.prog wr false O 6 [.d c.d] [] [It.icall [] (V.d (D.bool false)) [], It.icall [] (V.tup [V.d (D.str st), V.d (I 0)]) [], It.icall [] (V.tup [V.d r.d, V.d (I 0)]) [], It.br false, It.icall [] (V.tup [V.d (D.str st), V.d (I 0)]) [], It.br true, It.br true, It.br true, It.icall [] (V.d (D.bool true)) []] = some (V.d (D.bool true), [],
  [ICall Tryd.prog 16 [V.d (D.agg [I c.ins, D.sl (List.map Lt.d c.lats), D.sl (List.map An.d c.ands), L c.bads, L c.cons])] [] (V.d (D.bool false)) [],
   ICall Tryd.prog 17 [V.d (D.agg [I c.ins, D.sl (List.map Lt.d c.lats), D.sl (List.map An.d c.ands), L c.bads, L c.cons])] [] (V.tup [V.d (D.str st), V.d (I 0)]) [],
   ICall Tryd.prog 21 [V.d (D.agg [I c.ins, D.sl (List.map Lt.d c.lats), D.sl (List.map An.d c.ands), L c.bads, L c.cons])] [] (V.tup [V.d r.d, V.d (I 0)]) [],
   (0 != 0) = false,
   ICall Tryd.prog 11 [V.d (D.agg [I r.most, L r.ins, D.sl (List.map Df.d r.lats), D.sl (List.map Df.d r.ands), L r.bads, L r.cons])] [] (V.tup [V.d (D.str st), V.d (I 0)]) [],
   (0 == 0) = true,
   (0 == 0) = true,
   (st == st) = true,
   ICall Tryd.prog 20 [] [] (V.d (D.bool true)) []]) := by kernel_rfl
theorem sa2  : callX Tryd.prog wr false O 6 [.d c.d] [] [It.icall [] (V.d (D.bool false)) [], It.icall [] (V.tup [V.d (D.str []), V.d (I e)]) [], It.icall [] (V.tup [V.d r.d, V.d (I e)]) [], It.br true, It.br true, It.br true, It.icall [] (V.d (D.bool true)) []] = some (V.d (D.bool true), [],
  [ICall Tryd.prog 16 [V.d (D.agg [I c.ins, D.sl (List.map Lt.d c.lats), D.sl (List.map An.d c.ands), L c.bads, L c.cons])] [] (V.d (D.bool false)) [],
   ICall Tryd.prog 17 [V.d (D.agg [I c.ins, D.sl (List.map Lt.d c.lats), D.sl (List.map An.d c.ands), L c.bads, L c.cons])] [] (V.tup [V.d (D.str []), V.d (I e)]) [],
   ICall Tryd.prog 21 [V.d (D.agg [I c.ins, D.sl (List.map Lt.d c.lats), D.sl (List.map An.d c.ands), L c.bads, L c.cons])] [] (V.tup [V.d r.d, V.d (I e)]) [],
   (e != 0) = true,
   (e == e) = true,
   ([] == (ByteArray.mk #[]).data.toList) = true,
   ICall Tryd.prog 20 [] [] (V.d (D.bool true)) []]) := by kernel_rfl
theorem on0  : callX Tryd.prog wr false O 5 [.d r.d, .d r2.d] [] [It.icall [] (V.d (D.bool true)) [], It.icall [] (V.d (D.bool true)) []] = some (V.d (D.bool true), [],
  [ICall Tryd.prog 9 [V.d (D.agg [I r.most, L r.ins, D.sl (List.map Df.d r.lats), D.sl (List.map Df.d r.ands), L r.bads, L r.cons])] [] (V.d (D.bool true)) [],
   ICall Tryd.prog 20 [] [] (V.d (D.bool true)) []]) := by kernel_rfl
theorem on1  : callX Tryd.prog wr false O 5 [.d r.d, .d r2.d] [] [It.icall [] (V.d (D.bool false)) [], It.icall [] (V.d (D.bool true)) [], It.icall [] (V.d (D.bool true)) []] = some (V.d (D.bool true), [],
  [ICall Tryd.prog 9 [V.d (D.agg [I r.most, L r.ins, D.sl (List.map Df.d r.lats), D.sl (List.map Df.d r.ands), L r.bads, L r.cons])] [] (V.d (D.bool false)) [],
   ICall Tryd.prog 9 [V.d (D.agg [I r2.most, L r2.ins, D.sl (List.map Df.d r2.lats), D.sl (List.map Df.d r2.ands), L r2.bads, L r2.cons])] [] (V.d (D.bool true)) [],
   ICall Tryd.prog 20 [] [] (V.d (D.bool true)) []]) := by kernel_rfl
theorem on2  : callX Tryd.prog wr false O 5 [.d r.d, .d r2.d] [] [It.icall [] (V.d (D.bool false)) [], It.icall [] (V.d (D.bool false)) [], It.icall [] (V.d (I e)) [], It.br true, It.icall [] (V.d (D.bool true)) []] = some (V.d (D.bool true), [],
  [ICall Tryd.prog 9 [V.d (D.agg [I r.most, L r.ins, D.sl (List.map Df.d r.lats), D.sl (List.map Df.d r.ands), L r.bads, L r.cons])] [] (V.d (D.bool false)) [],
   ICall Tryd.prog 9 [V.d (D.agg [I r2.most, L r2.ins, D.sl (List.map Df.d r2.lats), D.sl (List.map Df.d r2.ands), L r2.bads, L r2.cons])] [] (V.d (D.bool false)) [],
   ICall Tryd.prog 19 [V.d (D.agg [I r.most, L r.ins, D.sl (List.map Df.d r.lats), D.sl (List.map Df.d r.ands), L r.bads, L r.cons])] [] (V.d (I e)) [],
   (e != 0) = true,
   ICall Tryd.prog 20 [] [] (V.d (D.bool true)) []]) := by kernel_rfl
theorem on3  : callX Tryd.prog wr false O 5 [.d r.d, .d r2.d] [] [It.icall [] (V.d (D.bool false)) [], It.icall [] (V.d (D.bool false)) [], It.icall [] (V.d (I 0)) [], It.br false, It.icall [] (V.d (I e)) [], It.br true, It.icall [] (V.d (D.bool true)) []] = some (V.d (D.bool true), [],
  [ICall Tryd.prog 9 [V.d (D.agg [I r.most, L r.ins, D.sl (List.map Df.d r.lats), D.sl (List.map Df.d r.ands), L r.bads, L r.cons])] [] (V.d (D.bool false)) [],
   ICall Tryd.prog 9 [V.d (D.agg [I r2.most, L r2.ins, D.sl (List.map Df.d r2.lats), D.sl (List.map Df.d r2.ands), L r2.bads, L r2.cons])] [] (V.d (D.bool false)) [],
   ICall Tryd.prog 19 [V.d (D.agg [I r.most, L r.ins, D.sl (List.map Df.d r.lats), D.sl (List.map Df.d r.ands), L r.bads, L r.cons])] [] (V.d (I 0)) [],
   (0 != 0) = false,
   ICall Tryd.prog 19 [V.d (D.agg [I r2.most, L r2.ins, D.sl (List.map Df.d r2.lats), D.sl (List.map Df.d r2.ands), L r2.bads, L r2.cons])] [] (V.d (I e)) [],
   (e != 0) = true,
   ICall Tryd.prog 20 [] [] (V.d (D.bool true)) []]) := by kernel_rfl
theorem on4  : callX Tryd.prog wr false O 5 [.d r.d, .d r2.d] [] [It.icall [] (V.d (D.bool false)) [], It.icall [] (V.d (D.bool false)) [], It.icall [] (V.d (I 0)) [], It.br false, It.icall [] (V.d (I 0)) [], It.br false, It.icall [] (V.tup [V.d (D.str st), V.d (I 0)]) [], It.icall [] (V.tup [V.d (D.str st2), V.d (I 0)]) [], It.br true, It.br true, It.br true, It.icall [] (V.d (D.bool t)) [], It.br true, It.icall [] (V.d (D.bool true)) []] = some (V.d (D.bool true), [],
  [ICall Tryd.prog 9 [V.d (D.agg [I r.most, L r.ins, D.sl (List.map Df.d r.lats), D.sl (List.map Df.d r.ands), L r.bads, L r.cons])] [] (V.d (D.bool false)) [],
   ICall Tryd.prog 9 [V.d (D.agg [I r2.most, L r2.ins, D.sl (List.map Df.d r2.lats), D.sl (List.map Df.d r2.ands), L r2.bads, L r2.cons])] [] (V.d (D.bool false)) [],
   ICall Tryd.prog 19 [V.d (D.agg [I r.most, L r.ins, D.sl (List.map Df.d r.lats), D.sl (List.map Df.d r.ands), L r.bads, L r.cons])] [] (V.d (I 0)) [],
   (0 != 0) = false,
   ICall Tryd.prog 19 [V.d (D.agg [I r2.most, L r2.ins, D.sl (List.map Df.d r2.lats), D.sl (List.map Df.d r2.ands), L r2.bads, L r2.cons])] [] (V.d (I 0)) [],
   (0 != 0) = false,
   ICall Tryd.prog 11 [V.d (D.agg [I r.most, L r.ins, D.sl (List.map Df.d r.lats), D.sl (List.map Df.d r.ands), L r.bads, L r.cons])] [] (V.tup [V.d (D.str st), V.d (I 0)]) [],
   ICall Tryd.prog 11 [V.d (D.agg [I r2.most, L r2.ins, D.sl (List.map Df.d r2.lats), D.sl (List.map Df.d r2.ands), L r2.bads, L r2.cons])] [] (V.tup [V.d (D.str st2), V.d (I 0)]) [],
   (0 == 0) = true,
   (0 == 0) = true,
   (st == st2) = true,
   ICall Tryd.prog 15 [V.d (D.agg [I r.most, L r.ins, D.sl (List.map Df.d r.lats), D.sl (List.map Df.d r.ands), L r.bads, L r.cons]), V.d (D.agg [I r2.most, L r2.ins, D.sl (List.map Df.d r2.lats), D.sl (List.map Df.d r2.ands), L r2.bads, L r2.cons])] [] (V.d (D.bool t)) [],
   (true == t) = true,
   ICall Tryd.prog 20 [] [] (V.d (D.bool true)) []]) := by kernel_rfl
theorem on5  : callX Tryd.prog wr false O 5 [.d r.d, .d r2.d] [] [It.icall [] (V.d (D.bool false)) [], It.icall [] (V.d (D.bool false)) [], It.icall [] (V.d (I 0)) [], It.br false, It.icall [] (V.d (I 0)) [], It.br false, It.icall [] (V.tup [V.d (D.str st), V.d (I 0)]) [], It.icall [] (V.tup [V.d (D.str st2), V.d (I 0)]) [], It.br true, It.br true, It.br false, It.icall [] (V.d (D.bool t)) [], It.br true, It.icall [] (V.d (D.bool true)) []] = some (V.d (D.bool true), [],
  [ICall Tryd.prog 9 [V.d (D.agg [I r.most, L r.ins, D.sl (List.map Df.d r.lats), D.sl (List.map Df.d r.ands), L r.bads, L r.cons])] [] (V.d (D.bool false)) [],
   ICall Tryd.prog 9 [V.d (D.agg [I r2.most, L r2.ins, D.sl (List.map Df.d r2.lats), D.sl (List.map Df.d r2.ands), L r2.bads, L r2.cons])] [] (V.d (D.bool false)) [],
   ICall Tryd.prog 19 [V.d (D.agg [I r.most, L r.ins, D.sl (List.map Df.d r.lats), D.sl (List.map Df.d r.ands), L r.bads, L r.cons])] [] (V.d (I 0)) [],
   (0 != 0) = false,
   ICall Tryd.prog 19 [V.d (D.agg [I r2.most, L r2.ins, D.sl (List.map Df.d r2.lats), D.sl (List.map Df.d r2.ands), L r2.bads, L r2.cons])] [] (V.d (I 0)) [],
   (0 != 0) = false,
   ICall Tryd.prog 11 [V.d (D.agg [I r.most, L r.ins, D.sl (List.map Df.d r.lats), D.sl (List.map Df.d r.ands), L r.bads, L r.cons])] [] (V.tup [V.d (D.str st), V.d (I 0)]) [],
   ICall Tryd.prog 11 [V.d (D.agg [I r2.most, L r2.ins, D.sl (List.map Df.d r2.lats), D.sl (List.map Df.d r2.ands), L r2.bads, L r2.cons])] [] (V.tup [V.d (D.str st2), V.d (I 0)]) [],
   (0 == 0) = true,
   (0 == 0) = true,
   (st == st2) = false,
   ICall Tryd.prog 15 [V.d (D.agg [I r.most, L r.ins, D.sl (List.map Df.d r.lats), D.sl (List.map Df.d r.ands), L r.bads, L r.cons]), V.d (D.agg [I r2.most, L r2.ins, D.sl (List.map Df.d r2.lats), D.sl (List.map Df.d r2.ands), L r2.bads, L r2.cons])] [] (V.d (D.bool t)) [],
   (false == t) = true,
   ICall Tryd.prog 20 [] [] (V.d (D.bool true)) []]) := by kernel_rfl
end
end Go.Proofs.YtihbpbdmhiihnaaDoor.Sy.Tx
/- alive, AsciiTexts, whole. -/
namespace Go.Proofs.YtihbpbdmhiihnaaDoor.Sy.Tx
open Go Go.Proofs.YtihbpbdmhiihnaaDoor.Ab Go.Proofs.YtihbpbdmhiihnaaDoor.Sy Go.Proofs.YtihbpbdmhiihnaaDoor.Pl
set_option maxRecDepth 1000000
set_option linter.unusedVariables false
/-! ### the examples -/
theorem it_d (n : Nat) (h : n < 10) : Lib.itoa (n : Int) = [UInt8.ofNat (48 + n)] := by
  unfold Lib.itoa
  rw [if_neg (by omega), Int.toNat_natCast, Lib.decDigits_one h]
theorem it0 : Lib.itoa 0 = [48] := it_d 0 (by omega)
theorem it1 : Lib.itoa 1 = [49] := it_d 1 (by omega)
theorem it2 : Lib.itoa 2 = [50] := it_d 2 (by omega)
theorem it3 : Lib.itoa 3 = [51] := it_d 3 (by omega)
def c0 (z : Int) : Ci := ⟨0, [⟨3, z⟩], [], [2], []⟩
theorem cw0 (z : Int) : Cw (c0 z) := ⟨by simp [c0], by simp [c0], by simp [c0], by simp [c0], by simp [c0], by simp [c0], by simp [c0], by simp [c0], by simp [c0]⟩
theorem txt0 : txtS (c0 0) = [97, 97, 103, 32, 49, 32, 48, 32, 49, 32, 48, 32, 48, 32, 49, 32, 48, 10, 50, 32, 51, 10, 50, 10] ∧ txtE (c0 0) = 0 := by
  have e1 : Gates.chk (c0 0) = 0 := by kernel_rfl
  have e2 : Cir.chkR (rawC (c0 0)) = 0 := by kernel_rfl
  have e3 : rawC (c0 0) = ⟨1, [], [⟨2, 3, 0⟩], [], [2], []⟩ := by kernel_rfl
  unfold txtS txtE Rq.rawT
  rw [if_pos e1, if_pos e1, if_pos e2, e3]
  refine ⟨?_, by rw [e3] at e2; exact e2⟩
  have h1 : Asc.lineS (Asc.headR ⟨1, [], [⟨2, 3, 0⟩], [], [2], []⟩) = [49, 32, 48, 32, 49, 32, 48, 32, 48, 32, 49, 32, 48, 10] := by
    show ([] ++ Lib.itoa 1 ++ ([32] ++ Lib.itoa 0 ++ ([32] ++ Lib.itoa 1 ++ ([32] ++ Lib.itoa 0 ++ ([32] ++ Lib.itoa 0 ++ ([32] ++ Lib.itoa 1 ++ ([32] ++ Lib.itoa 0 ++ []))))))) ++ [10] = _
    rw [it0, it1]; rfl
  have h2 : Asc.lineS [2, 3] = [50, 32, 51, 10] := by
    show ([] ++ Lib.itoa 2 ++ ([32] ++ Lib.itoa 3 ++ [])) ++ [10] = _
    rw [it2, it3]; rfl
  have h3 : Asc.lineS [2] = [50, 10] := by
    show ([] ++ Lib.itoa 2 ++ []) ++ [10] = _
    rw [it2]; rfl
  show Asc.aag ++ Asc.lineS (Asc.headR ⟨1, [], [⟨2, 3, 0⟩], [], [2], []⟩) ++ [] ++ (Asc.lineS [2, 3] ++ []) ++ (Asc.lineS [2] ++ []) ++ [] ++ [] = _
  rw [h1, h2, h3]; rfl
theorem txt2 : txtS (c0 2) = [97, 97, 103, 32, 49, 32, 48, 32, 49, 32, 48, 32, 48, 32, 49, 32, 48, 10, 50, 32, 51, 32, 50, 10, 50, 10] ∧ txtE (c0 2) = 0 := by
  have e1 : Gates.chk (c0 2) = 0 := by kernel_rfl
  have e2 : Cir.chkR (rawC (c0 2)) = 0 := by kernel_rfl
  have e3 : rawC (c0 2) = ⟨1, [], [⟨2, 3, 2⟩], [], [2], []⟩ := by kernel_rfl
  unfold txtS txtE Rq.rawT
  rw [if_pos e1, if_pos e1, if_pos e2, e3]
  refine ⟨?_, by rw [e3] at e2; exact e2⟩
  have h1 : Asc.lineS (Asc.headR ⟨1, [], [⟨2, 3, 2⟩], [], [2], []⟩) = [49, 32, 48, 32, 49, 32, 48, 32, 48, 32, 49, 32, 48, 10] := by
    show ([] ++ Lib.itoa 1 ++ ([32] ++ Lib.itoa 0 ++ ([32] ++ Lib.itoa 1 ++ ([32] ++ Lib.itoa 0 ++ ([32] ++ Lib.itoa 0 ++ ([32] ++ Lib.itoa 1 ++ ([32] ++ Lib.itoa 0 ++ []))))))) ++ [10] = _
    rw [it0, it1]; rfl
  have h2 : Asc.lineS [2, 3, 2] = [50, 32, 51, 32, 50, 10] := by
    show ([] ++ Lib.itoa 2 ++ ([32] ++ Lib.itoa 3 ++ ([32] ++ Lib.itoa 2 ++ []))) ++ [10] = _
    rw [it2, it3]; rfl
  have h3 : Asc.lineS [2] = [50, 10] := by
    show ([] ++ Lib.itoa 2 ++ []) ++ [10] = _
    rw [it2]; rfl
  show Asc.aag ++ Asc.lineS (Asc.headR ⟨1, [], [⟨2, 3, 2⟩], [], [2], []⟩) ++ [] ++ (Asc.lineS [2, 3, 2] ++ []) ++ (Asc.lineS [2] ++ []) ++ [] ++ [] = _
  rw [h1, h2, h3]; rfl
theorem alive : ICall Tryd.prog 20 [] [] (.d (.bool true)) [] := by
  have k1 := text (cw0 0)
  have k2 := text (cw0 2)
  rw [txt0.1, txt0.2] at k1
  rw [txt2.1, txt2.2] at k2
  exact callX_ok hO hm (al [97, 97, 103, 32, 49, 32, 48, 32, 49, 32, 48, 32, 48, 32, 49, 32, 48, 10, 50, 32, 51, 10, 50, 10] [97, 97, 103, 32, 49, 32, 48, 32, 49, 32, 48, 32, 48, 32, 49, 32, 48, 10, 50, 32, 51, 32, 50, 10, 50, 10])
    ⟨⟨k1, .inr rfl⟩, ⟨rfl, by decide⟩, rfl, ⟨k2, .inr rfl⟩, rfl, rfl, rfl, rfl⟩
theorem asciiTexts (c : Ci) (hx : Cx c) : ICall Tryd.prog 4 [.d c.d] [] (.d (.bool true)) [] := by
  have hg := great2_ok c
  cases cg : great2 c with
  | true => rw [cg] at hg; exact callX_ok hO hm (lt0 c) hg
  | false =>
    rw [cg] at hg
    have h := cw_of cg hx
    exact callX_ok hO hm (lt1 c (txtE c) (txtS c)) ⟨hg, text h, rtext h, by simp, by show (_ == _) = true; simp⟩
end Go.Proofs.YtihbpbdmhiihnaaDoor.Sy.Tx
/- What the rows over circuits share. -/
namespace Go.Proofs.YtihbpbdmhiihnaaDoor.Lk
open Go.Proofs.YtihbpbdmhiihnaaDoor.Ab Go.Proofs.YtihbpbdmhiihnaaDoor.Sy
theorem cx_of {c : Ci} (k : okC c) : Tx.Cx c :=
  ⟨fun x hx => okI_le (k.2.2.2.1.2 x hx), fun x hx => okI_le (k.2.2.2.2.2 x hx), fun l hl => okI_le (k.2.1.2 l hl).1, fun g hg => okI_le (k.2.2.1.2 g hg).1, fun g hg => okI_le (k.2.2.1.2 g hg).2⟩
end Go.Proofs.YtihbpbdmhiihnaaDoor.Lk
/- Different raw circuits have different texts: the plain law. -/
namespace Go.Proofs.YtihbpbdmhiihnaaDoor.Sy.Asc
open Go Go.Proofs.YtihbpbdmhiihnaaDoor.Ab Go.Proofs.YtihbpbdmhiihnaaDoor.Sy Go.Proofs.YtihbpbdmhiihnaaDoor.Pl
set_option linter.unusedVariables false
set_option linter.unusedSimpArgs false
def dig (b : UInt8) : Bool := decide (48 ≤ b.toNat) && decide (b.toNat ≤ 57)
theorem dig_of (k : Nat) (h : k < 10) : dig (UInt8.ofNat (48 + k)) = true := by
  have : (UInt8.ofNat (48 + k)).toNat = 48 + k := by rw [UInt8.toNat_ofNat']; omega
  unfold dig
  rw [this]; simp; omega
theorem of_inj {a b : Nat} (ha : a < 10) (hb : b < 10) (h : UInt8.ofNat (48 + a) = UInt8.ofNat (48 + b)) : a = b := by
  have := congrArg UInt8.toNat h
  rw [UInt8.toNat_ofNat', UInt8.toNat_ofNat'] at this
  omega
theorem dec_dig (m : Nat) : ∀ u, u ≤ m → (∀ b ∈ Lib.decDigits u, dig b = true) ∧ Lib.decDigits u ≠ [] := by
  induction m with
  | zero =>
    intro u hu
    rw [Lib.decDigits, dif_pos (by omega)]
    exact ⟨fun b hb => by rw [List.mem_singleton.1 hb]; exact dig_of u (by omega), by simp⟩
  | succ m ih =>
    intro u hu
    rw [Lib.decDigits]
    by_cases c : u < 10
    · rw [dif_pos c]
      exact ⟨fun b hb => by rw [List.mem_singleton.1 hb]; exact dig_of u c, by simp⟩
    · rw [dif_neg c]
      refine ⟨fun b hb => ?_, by simp⟩
      rcases List.mem_append.1 hb with hb | hb
      · exact (ih (u / 10) (by omega)).1 b hb
      · rw [List.mem_singleton.1 hb]; exact dig_of _ (by omega)
theorem dec_inj (m : Nat) : ∀ u v, u ≤ m → Lib.decDigits u = Lib.decDigits v → u = v := by
  induction m with
  | zero =>
    intro u v hu h
    rw [Lib.decDigits.eq_def u, Lib.decDigits.eq_def v, dif_pos (by omega)] at h
    by_cases c : v < 10
    · rw [dif_pos c] at h
      exact of_inj (by omega) c (by simpa using h)
    · rw [dif_neg c] at h
      have := (dec_dig (v / 10) (v / 10) (Nat.le_refl _)).2
      cases hd : Lib.decDigits (v / 10) with
      | nil => exact absurd hd this
      | cons x r => rw [hd] at h; simp at h
  | succ m ih =>
    intro u v hu h
    rw [Lib.decDigits.eq_def u, Lib.decDigits.eq_def v] at h
    by_cases d : u < 10
    · rw [dif_pos d] at h
      by_cases c : v < 10
      · rw [dif_pos c] at h
        exact of_inj d c (by simpa using h)
      · rw [dif_neg c] at h
        have := (dec_dig (v / 10) (v / 10) (Nat.le_refl _)).2
        cases hd : Lib.decDigits (v / 10) with
        | nil => exact absurd hd this
        | cons x r => rw [hd] at h; simp at h
    · rw [dif_neg d] at h
      by_cases c : v < 10
      · rw [dif_pos c] at h
        have := (dec_dig (u / 10) (u / 10) (Nat.le_refl _)).2
        cases hd : Lib.decDigits (u / 10) with
        | nil => exact absurd hd this
        | cons x r => rw [hd] at h; simp at h
      · rw [dif_neg c] at h
        obtain ⟨h1, h2⟩ := List.append_inj' h rfl
        have e1 := ih (u / 10) (v / 10) (by omega) h1
        have e2 := of_inj (by omega) (by omega) (show UInt8.ofNat (48 + u % 10) = UInt8.ofNat (48 + v % 10) by simpa using h2)
        omega
theorem itoa_nn {n : Int} (h : 0 ≤ n) : Lib.itoa n = Lib.decDigits n.toNat := by
  unfold Lib.itoa; rw [if_neg (by omega)]
theorem itoa_dig {n : Int} (h : 0 ≤ n) : ∀ b ∈ Lib.itoa n, dig b = true := by
  rw [itoa_nn h]; exact (dec_dig _ _ (Nat.le_refl _)).1
theorem itoa_inj {n m : Int} (h0 : 0 ≤ n) (h1 : 0 ≤ m) (h : Lib.itoa n = Lib.itoa m) : n = m := by
  rw [itoa_nn h0, itoa_nn h1] at h
  have := dec_inj _ _ _ (Nat.le_refl _) h
  omega
/-- Digits, and what does not begin with one. -/
theorem span {a b : List UInt8} (ha : ∀ x ∈ a, dig x = true) (hb : ∀ x ∈ b, dig x = true) {s t : UInt8} {x y : List UInt8} (hs : dig s = false) (ht : dig t = false) (h : a ++ s :: x = b ++ t :: y) : a = b ∧ s :: x = t :: y := by
  induction a generalizing b with
  | nil =>
    cases b with
    | nil => exact ⟨rfl, h⟩
    | cons z r =>
      simp only [List.nil_append, List.cons_append, List.cons.injEq] at h
      have := hb z (by simp)
      rw [← h.1, hs] at this; cases this
  | cons z r ih =>
    cases b with
    | nil =>
      simp only [List.nil_append, List.cons_append, List.cons.injEq] at h
      have := ha z (by simp)
      rw [h.1, ht] at this; cases this
    | cons w q =>
      simp only [List.cons_append, List.cons.injEq] at h
      obtain ⟨h1, h2⟩ := ih (fun x hx => ha x (by simp [hx])) (fun x hx => hb x (by simp [hx])) h.2
      exact ⟨by rw [h.1, h1], h2⟩
/-- What stands behind a number in a line. -/
def rest : List Int → List UInt8
  | [] => [10]
  | n :: r => 32 :: (Lib.itoa n ++ rest r)
theorem rest_body : ∀ r, body [32] r ++ [10] = rest r
  | [] => rfl
  | n :: r => by
    simp only [body, rest, List.append_assoc, List.singleton_append, List.cons_append, List.nil_append]
    rw [rest_body r]
theorem lineS_cons (n : Int) (r : List Int) : lineS (n :: r) = Lib.itoa n ++ rest r := by
  unfold lineS
  simp only [body, List.nil_append, List.append_assoc]
  rw [rest_body]
theorem rest_head (r : List Int) (x : List UInt8) : ∃ s y, rest r ++ x = s :: y ∧ dig s = false := by
  cases r with
  | nil => exact ⟨10, x, rfl, by decide⟩
  | cons n r => exact ⟨32, _, rfl, by decide⟩
theorem num_inj {n m : Int} (h0 : 0 ≤ n) (h1 : 0 ≤ m) {r s : List Int} {x y : List UInt8} (h : Lib.itoa n ++ (rest r ++ x) = Lib.itoa m ++ (rest s ++ y)) : n = m ∧ rest r ++ x = rest s ++ y := by
  obtain ⟨a, x', e1, d1⟩ := rest_head r x
  obtain ⟨b, y', e2, d2⟩ := rest_head s y
  rw [e1, e2] at h ⊢
  obtain ⟨g1, g2⟩ := span (itoa_dig h0) (itoa_dig h1) d1 d2 h
  exact ⟨itoa_inj h0 h1 g1, g2⟩
theorem rest_inj : ∀ (r s : List Int) {x y : List UInt8}, (∀ n ∈ r, 0 ≤ n) → (∀ n ∈ s, 0 ≤ n) → rest r ++ x = rest s ++ y → r = s ∧ x = y
  | [], [], x, y, _, _, h => ⟨rfl, by simpa [rest] using h⟩
  | [], m :: s, x, y, _, _, h => by simp [rest] at h
  | n :: r, [], x, y, _, _, h => by simp [rest] at h
  | n :: r, m :: s, x, y, hr, hs, h => by
    simp only [rest, List.cons_append, List.cons.injEq, true_and, List.append_assoc] at h
    obtain ⟨g1, g2⟩ := num_inj (hr n (by simp)) (hs m (by simp)) h
    obtain ⟨g3, g4⟩ := rest_inj r s (fun k hk => hr k (by simp [hk])) (fun k hk => hs k (by simp [hk])) g2
    exact ⟨by rw [g1, g3], g4⟩
theorem line_inj {a b : List Int} {x y : List UInt8} (ha : a ≠ []) (hb : b ≠ []) (pa : ∀ n ∈ a, 0 ≤ n) (pb : ∀ n ∈ b, 0 ≤ n) (h : lineS a ++ x = lineS b ++ y) : a = b ∧ x = y := by
  cases a with
  | nil => exact absurd rfl ha
  | cons n r =>
    cases b with
    | nil => exact absurd rfl hb
    | cons m s =>
      rw [lineS_cons, lineS_cons, List.append_assoc, List.append_assoc] at h
      obtain ⟨g1, g2⟩ := num_inj (pa n (by simp)) (pb m (by simp)) h
      obtain ⟨g3, g4⟩ := rest_inj r s (fun k hk => pa k (by simp [hk])) (fun k hk => pb k (by simp [hk])) g2
      exact ⟨by rw [g1, g3], g4⟩
theorem lineS_ne {a : List Int} (ha : a ≠ []) : lineS a ≠ [] := by unfold lineS; simp
/-- Lines, one behind the other. -/
theorem lines_inj : ∀ (p q : List (List Int)), (∀ a ∈ p, a ≠ [] ∧ ∀ n ∈ a, 0 ≤ n) → (∀ a ∈ q, a ≠ [] ∧ ∀ n ∈ a, 0 ≤ n) → p.flatMap lineS = q.flatMap lineS → p = q
  | [], [], _, _, _ => rfl
  | [], b :: q, _, hq, h => by
    rw [List.flatMap_cons, List.flatMap_nil] at h
    have := lineS_ne (hq b (by simp)).1
    cases hl : lineS b with
    | nil => exact absurd hl this
    | cons z r => rw [hl] at h; simp at h
  | a :: p, [], hp, _, h => by
    rw [List.flatMap_cons, List.flatMap_nil] at h
    have := lineS_ne (hp a (by simp)).1
    cases hl : lineS a with
    | nil => exact absurd hl this
    | cons z r => rw [hl] at h; simp at h
  | a :: p, b :: q, hp, hq, h => by
    rw [List.flatMap_cons, List.flatMap_cons] at h
    obtain ⟨g1, g2⟩ := line_inj (hp a (by simp)).1 (hq b (by simp)).1 (hp a (by simp)).2 (hq b (by simp)).2 h
    rw [g1, lines_inj p q (fun c hc => hp c (by simp [hc])) (fun c hc => hq c (by simp [hc])) g2]
/-- The lines of a raw circuit's text. -/
def linesR (r : Rw) : List (List Int) := headR r :: (r.ins.map (fun x => [x]) ++ (r.lats.map latL ++ (r.bads.map (fun x => [x]) ++ (r.cons.map (fun x => [x]) ++ r.ands.map (fun d => [d.lit, d.a, d.b])))))
theorem rawS_lines (r : Rw) : rawS r = aag ++ (linesR r).flatMap lineS := by
  unfold rawS linesR
  simp only [List.flatMap_cons, List.flatMap_append, List.flatMap_map, List.append_assoc]
theorem linesR_ok {r : Rw} (h : Tiny r) : ∀ a ∈ linesR r, a ≠ [] ∧ ∀ n ∈ a, 0 ≤ n := by
  have hm := h.m
  intro a ha
  unfold linesR at ha
  rcases List.mem_cons.1 ha with rfl | ha
  · refine ⟨by simp [headR], fun n hn => ?_⟩
    simp only [headR, List.mem_cons, List.not_mem_nil, or_false] at hn
    rcases hn with rfl | rfl | rfl | rfl | rfl | rfl | rfl <;> omega
  rcases List.mem_append.1 ha with ha | ha
  · obtain ⟨x, hx, rfl⟩ := List.mem_map.1 ha
    exact ⟨by simp, fun n hn => by rw [List.mem_singleton.1 hn]; exact (h.ins x hx).1⟩
  rcases List.mem_append.1 ha with ha | ha
  · obtain ⟨d, hd, rfl⟩ := List.mem_map.1 ha
    obtain ⟨h1, h2⟩ := h.lats d hd
    unfold latL
    split
    · exact ⟨by simp, fun n hn => by simp at hn; rcases hn with rfl | rfl; exact h1.1; exact h2.1⟩
    · split
      · exact ⟨by simp, fun n hn => by simp at hn; rcases hn with rfl | rfl | rfl; exact h1.1; exact h2.1; omega⟩
      · exact ⟨by simp, fun n hn => by simp at hn; rcases hn with rfl | rfl | rfl; exact h1.1; exact h2.1; exact h1.1⟩
  rcases List.mem_append.1 ha with ha | ha
  · obtain ⟨x, hx, rfl⟩ := List.mem_map.1 ha
    exact ⟨by simp, fun n hn => by rw [List.mem_singleton.1 hn]; exact (h.bads x hx).1⟩
  rcases List.mem_append.1 ha with ha | ha
  · obtain ⟨x, hx, rfl⟩ := List.mem_map.1 ha
    exact ⟨by simp, fun n hn => by rw [List.mem_singleton.1 hn]; exact (h.cons x hx).1⟩
  · obtain ⟨d, hd, rfl⟩ := List.mem_map.1 ha
    obtain ⟨h1, h2, h3⟩ := h.ands d hd
    exact ⟨by simp, fun n hn => by simp at hn; rcases hn with rfl | rfl | rfl; exact h1.1; exact h2.1; exact h3.1⟩
theorem latL_inj {d e : Df} (hd : d.b = 0 ∨ d.b = 1 ∨ d.b = 2) (he : e.b = 0 ∨ e.b = 1 ∨ e.b = 2) (h2 : 2 ≤ d.lit) (h3 : 2 ≤ e.lit) (h : latL d = latL e) : d = e := by
  obtain ⟨d1, d2, d3⟩ := d
  obtain ⟨e1, e2, e3⟩ := e
  simp only at hd he h2 h3
  unfold latL at h
  rcases hd with rfl | rfl | rfl <;> rcases he with rfl | rfl | rfl <;> simp at h <;> (first | (obtain ⟨rfl, rfl⟩ := h; rfl) | (obtain ⟨rfl, rfl, _⟩ := h; rfl) | omega)
theorem single_inj {a b : List Int} (h : a.map (fun x => [x]) = b.map (fun x => [x])) : a = b :=
  List.map_inj_right (f := fun x : Int => [x]) (fun x y h => by simpa using h) |>.1 h
theorem map_inj_on {α β : Type} {f : α → β} : ∀ {l m : List α}, (∀ x ∈ l, ∀ y ∈ m, f x = f y → x = y) → l.map f = m.map f → l = m
  | [], [], _, _ => rfl
  | [], _ :: _, _, h => by simp at h
  | _ :: _, [], _, h => by simp at h
  | x :: l, y :: m, hf, h => by
    simp only [List.map_cons, List.cons.injEq] at h
    rw [hf x (by simp) y (by simp) h.1, map_inj_on (fun a ha b hb => hf a (by simp [ha]) b (by simp [hb])) h.2]
/-- Different valid raw circuits have different texts. -/
theorem rawS_inj {r r2 : Rw} (h : Cir.chkR r = 0) (h2 : Cir.chkR r2 = 0) (e : rawS r = rawS r2) : r = r2 := by
  have t1 := tiny h
  have t2 := tiny h2
  rw [rawS_lines, rawS_lines] at e
  have e := lines_inj _ _ (linesR_ok t1) (linesR_ok t2) (List.append_cancel_left e)
  unfold linesR at e
  simp only [List.cons.injEq] at e
  obtain ⟨eh, e⟩ := e
  unfold headR at eh
  simp only [List.cons.injEq, and_true, true_and] at eh
  obtain ⟨m1, m2, m3, m4, m5, m6⟩ := eh
  obtain ⟨e1, e⟩ := List.append_inj e (by simp; omega)
  obtain ⟨e2, e⟩ := List.append_inj e (by simp; omega)
  obtain ⟨e3, e⟩ := List.append_inj e (by simp; omega)
  obtain ⟨e4, e5⟩ := List.append_inj e (by simp; omega)
  obtain ⟨n1, -, -⟩ := chkS_zero (show chkS r.most r.ins r.lats r.ands r.bads r.cons = 0 from h)
  obtain ⟨n2, -, -⟩ := chkS_zero (show chkS r2.most r2.ins r2.lats r2.ands r2.bads r2.cons = 0 from h2)
  have own1 : ∀ d ∈ r.lats, 2 ≤ d.lit := fun d hd => (n1.own d.lit (by rw [← own_defs]; exact List.mem_append_right _ (List.mem_map.2 ⟨d, List.mem_append_left _ hd, rfl⟩))).1
  have own2 : ∀ d ∈ r2.lats, 2 ≤ d.lit := fun d hd => (n2.own d.lit (by rw [← own_defs]; exact List.mem_append_right _ (List.mem_map.2 ⟨d, List.mem_append_left _ hd, rfl⟩))).1
  have q1 := single_inj e1
  have q2 := map_inj_on (fun x hx y hy hh => latL_inj (R7.resets h x hx) (R7.resets h2 y hy) (own1 x hx) (own2 y hy) hh) e2
  have q3 := single_inj e3
  have q4 := single_inj e4
  have q5 := map_inj_on (f := fun d : Df => [d.lit, d.a, d.b]) (fun x hx y hy hh => by
    obtain ⟨x1, x2, x3⟩ := x
    obtain ⟨y1, y2, y3⟩ := y
    simp at hh
    obtain ⟨rfl, rfl, rfl⟩ := hh; rfl) e5
  obtain ⟨a1, a2, a3, a4, a5, a6⟩ := r
  obtain ⟨b1, b2, b3, b4, b5, b6⟩ := r2
  simp only at m1 q1 q2 q3 q4 q5
  subst m1; subst q1; subst q2; subst q3; subst q4; subst q5; rfl
end Go.Proofs.YtihbpbdmhiihnaaDoor.Sy.Asc
/- The raw circuit of a valid circuit is valid. -/
namespace Go.Proofs.YtihbpbdmhiihnaaDoor.Pl
open Go Go.Proofs.YtihbpbdmhiihnaaDoor.Sy
set_option linter.unusedVariables false
set_option linter.unusedSimpArgs false
theorem any_false {α : Type} (f : α → Bool) (l : List α) : l.any f = false ↔ ∀ x ∈ l, f x = false := by simp
def rIn (x : Int) : Nat → List Int
  | 0 => []
  | d + 1 => x :: rIn (x + 2) d
def rLat (x : Int) : List Lt → List Df
  | [] => []
  | g :: r => ⟨x, g.next, g.reset⟩ :: rLat (x + 2) r
def rAnd (x : Int) : List An → List Df
  | [] => []
  | g :: r => ⟨x, g.a, g.b⟩ :: rAnd (x + 2) r
theorem rIn_len (d : Nat) : ∀ x, (rIn x d).length = d := by
  induction d with
  | zero => intro x; rfl
  | succ d ih => intro x; simp [rIn, ih]
theorem rLat_len (l : List Lt) : ∀ x, (rLat x l).length = l.length := by
  induction l with
  | nil => intro x; rfl
  | cons g r ih => intro x; simp [rLat, ih]
theorem rAnd_len (l : List An) : ∀ x, (rAnd x l).length = l.length := by
  induction l with
  | nil => intro x; rfl
  | cons g r ih => intro x; simp [rAnd, ih]
/-- A valid circuit. -/
structure ValR (n : Nat) (l1 : List Lt) (l2 : List An) (l3 l4 : List Int) : Prop where
  len : n + l1.length + l2.length ≤ 1000
  b3 : l3.length ≤ 100
  b4 : l4.length ≤ 100
  u3 : ∀ x ∈ l3, 0 ≤ x ∧ x ≤ 2 * ((n : Int) + l1.length + l2.length) + 1
  u4 : ∀ x ∈ l4, 0 ≤ x ∧ x ≤ 2 * ((n : Int) + l1.length + l2.length) + 1
  u1 : ∀ d ∈ l1, (0 ≤ d.next ∧ d.next ≤ 2 * ((n : Int) + l1.length + l2.length) + 1) ∧ 0 ≤ d.reset ∧ d.reset ≤ 2
  u2 : ∀ (i : Nat) (h : i < l2.length), 0 ≤ l2[i].b ∧ l2[i].b ≤ l2[i].a ∧ l2[i].a < 2 * (1 + (n : Int) + l1.length + i)
theorem rIn_get (d : Nat) : ∀ (x : Int) (i : Nat) (h : i < (rIn x d).length), (rIn x d)[i] = x + 2 * i := by
  induction d with
  | zero => intro x i h; exact absurd h (Nat.not_lt_zero i)
  | succ d ih =>
    intro x i h
    cases i with
    | zero => simp [rIn]
    | succ i =>
      simp only [rIn, List.getElem_cons_succ]
      rw [ih]; omega
theorem rLat_f0 (l : List Lt) : ∀ x, (rLat x l).map (fun d => d.lit) = rIn x l.length := by
  induction l with
  | nil => intro x; rfl
  | cons g r ih => intro x; simp [rLat, rIn, ih]
theorem rAnd_f0 (l : List An) : ∀ x, (rAnd x l).map (fun d => d.lit) = rIn x l.length := by
  induction l with
  | nil => intro x; rfl
  | cons g r ih => intro x; simp [rAnd, rIn, ih]
theorem rIn_append (d e : Nat) : ∀ x, rIn x (d + e) = rIn x d ++ rIn (x + 2 * d) e := by
  induction d with
  | zero => intro x; simp [rIn]
  | succ d ih =>
    intro x
    rw [show d + 1 + e = (d + e) + 1 by omega]
    simp only [rIn, List.cons_append]
    rw [ih, show x + 2 + 2 * (d : Int) = x + 2 * ((d + 1 : Nat) : Int) by omega]
theorem rIn_var (d : Nat) : ∀ s : Nat, (rIn (2 * (s : Int)) d).map varN = List.range' s d := by
  induction d with
  | zero => intro s; rfl
  | succ d ih =>
    intro s
    simp only [rIn, List.map_cons, List.range'_succ]
    rw [show 2 * (s : Int) + 2 = 2 * ((s + 1 : Nat) : Int) by omega, ih]
    congr 1
    unfold varN; omega
theorem rAnd_get (l : List An) : ∀ (x : Int) (i : Nat) (h : i < l.length), rdD (rAnd x l) (i : Int) = ⟨x + 2 * i, l[i].a, l[i].b⟩ := by
  induction l with
  | nil => intro x i h; exact absurd h (Nat.not_lt_zero i)
  | cons g r ih =>
    intro x i h
    have hl : i < (rAnd x (g :: r)).length := by rw [rAnd_len]; exact h
    rw [rdT_get _ _ hl]
    cases i with
    | zero => simp [rAnd]
    | succ i =>
      have h' : i < r.length := by simpa using h
      have := ih (x + 2) i h'
      rw [rdT_get _ _ (by rw [rAnd_len]; exact h')] at this
      simp only [rAnd, List.getElem_cons_succ]
      rw [this]
      congr 1
      omega

/-! ### the order of a valid circuit's gates is their own -/
section
variable {x : Int} {l : List An} {v : Nat}
theorem vr_r (hx : x = 2 * (v : Int)) (i : Nat) (h : i < l.length) : vr (rAnd x l) i = v + i := by
  unfold vr vrD
  rw [rAnd_get l x i h, hx]
  show ((2 * (v : Int) + 2 * i) / 2).toNat = v + i
  omega
theorem isG_r (hx : x = 2 * (v : Int)) (u : Nat) : isG (rAnd x l) u = true ↔ v ≤ u ∧ u < v + l.length := by
  unfold isG
  rw [rAnd_len, List.any_eq_true]
  constructor
  · rintro ⟨i, hi, h⟩
    have hi := List.mem_range.1 hi
    rw [vr_r hx i hi, beq_iff_eq] at h
    omega
  · rintro ⟨h1, h2⟩
    refine ⟨u - v, List.mem_range.2 (by omega), ?_⟩
    rw [vr_r hx _ (by omega), beq_iff_eq]; omega
theorem rv_r (hx : x = 2 * (v : Int)) (i u : Nat) (hi : i ≤ l.length) (hu : u < v + i) : rv (rAnd x l) (List.range i) u = true := by
  unfold rv
  by_cases c : isG (rAnd x l) u = true
  · obtain ⟨h1, h2⟩ := (isG_r hx u).1 c
    rw [Bool.or_eq_true]; right
    rw [List.any_eq_true]
    refine ⟨u - v, List.mem_range.2 (by omega), ?_⟩
    rw [vr_r hx _ (by omega), beq_iff_eq]; omega
  · rw [Bool.eq_false_iff.2 c]; rfl
theorem next_r (hx : x = 2 * (v : Int)) (hp : ∀ (i : Nat) (h : i < l.length), 0 ≤ l[i].b ∧ l[i].b ≤ l[i].a ∧ l[i].a < 2 * (v + i : Int)) (i : Nat) (hi : i < l.length) : nextP (rAnd x l) (List.range i) i = true := by
  have := hp i hi
  have e1 : pa (rAnd x l) i < v + i := by unfold pa paD; rw [rAnd_get l x i hi]; show (l[i].a / 2).toNat < v + i; omega
  have e2 : pb (rAnd x l) i < v + i := by unfold pb pbD; rw [rAnd_get l x i hi]; show (l[i].b / 2).toNat < v + i; omega
  unfold nextP
  rw [rv_r hx i _ (by omega) e1, rv_r hx i _ (by omega) e2]
  have : (List.range i).contains i = false := by
    rw [Bool.eq_false_iff]; intro c
    exact absurd (List.mem_range.1 (List.contains_iff_mem.1 c)) (by omega)
  rw [this]; rfl
theorem ord_r (hx : x = 2 * (v : Int)) (hp : ∀ (i : Nat) (h : i < l.length), 0 ≤ l[i].b ∧ l[i].b ≤ l[i].a ∧ l[i].a < 2 * (v + i : Int)) (f : Nat) : ∀ i, i + f = l.length → ordS (rAnd x l) f (List.range i) = List.range l.length := by
  induction f with
  | zero => intro i h; simp only [ordS]; rw [show i = l.length by omega]
  | succ f ih =>
    intro i h
    have hf : (List.range (rAnd x l).length).find? (nextP (rAnd x l) (List.range i)) = some i := by
      rw [rAnd_len, List.find?_range_eq_some]
      refine ⟨next_r hx hp i (by omega), List.mem_range.2 (by omega), fun j hj => ?_⟩
      unfold nextP
      rw [List.contains_iff_mem.2 (List.mem_range.2 hj)]; rfl
    simp only [ordS, hf]
    rw [← List.range_succ]
    exact ih (i + 1) (by omega)
end
section
variable {n : Nat} {l1 : List Lt} {l2 : List An} {l3 l4 : List Int}
theorem own_r (n : Nat) (l1 : List Lt) (l2 : List An) : ownL (rIn 2 n) (rLat (2 * (n : Int) + 2) l1) (rAnd (2 * (n : Int) + 2 * l1.length + 2) l2) = rIn 2 (n + l1.length + l2.length) := by
  unfold ownL
  rw [rLat_f0, rAnd_f0, rIn_append (n + l1.length), rIn_append n, show (2 : Int) + 2 * (n : Int) = 2 * (n : Int) + 2 by omega, show (2 : Int) + 2 * ((n + l1.length : Nat) : Int) = 2 * (n : Int) + 2 * l1.length + 2 by omega]
theorem lat_parts (l : List Lt) : ∀ x, ∀ d ∈ rLat x l, ∃ g ∈ l, d.a = g.next ∧ d.b = g.reset := by
  induction l with
  | nil => intro x d hd; cases hd
  | cons g r ih =>
    intro x d hd
    simp only [rLat, List.mem_cons] at hd
    rcases hd with rfl | hd
    · exact ⟨g, List.mem_cons_self, rfl, rfl⟩
    · obtain ⟨g', h1, h2⟩ := ih _ d hd
      exact ⟨g', List.mem_cons_of_mem _ h1, h2⟩
theorem and_parts (l : List An) : ∀ x, ∀ d ∈ rAnd x l, ∃ (i : Nat) (h : i < l.length), d.a = l[i].a ∧ d.b = l[i].b := by
  induction l with
  | nil => intro x d hd; cases hd
  | cons g r ih =>
    intro x d hd
    simp only [rAnd, List.mem_cons] at hd
    rcases hd with rfl | hd
    · exact ⟨0, by simp, rfl, rfl⟩
    · obtain ⟨i, h1, h2⟩ := ih _ d hd
      exact ⟨i + 1, by simpa using h1, by simpa using h2⟩

theorem use_r (hv : ValR n l1 l2 l3 l4) : ∀ x ∈ useL (rLat (2 * (n : Int) + 2) l1) (rAnd (2 * (n : Int) + 2 * l1.length + 2) l2) l3 l4, 0 ≤ x ∧ x ≤ 2 * ((n + l1.length + l2.length : Nat) : Int) + 1 := by
  intro x hx
  unfold useL at hx
  rcases List.mem_append.1 hx with hx | hx
  · rcases List.mem_append.1 hx with hx | hx
    · rcases List.mem_append.1 hx with hx | hx
      · have := hv.u3 x hx; omega
      · have := hv.u4 x hx; omega
    · obtain ⟨d, hd, rfl⟩ := List.mem_map.1 hx
      obtain ⟨g, hg, e1, -⟩ := lat_parts _ _ d hd
      have := (hv.u1 g hg).1
      rw [e1]; omega
  · obtain ⟨d, hd, hx⟩ := List.mem_flatMap.1 hx
    obtain ⟨i, hi, e1, e2⟩ := and_parts _ _ d hd
    have := hv.u2 i hi
    simp only [List.mem_cons, List.not_mem_nil, or_false] at hx
    rcases hx with rfl | rfl
    · rw [e1]; omega
    · rw [e2]; omega

theorem own_rb (M : Nat) : ∀ x ∈ rIn 2 M, 2 ≤ x ∧ x ≤ 2 * (M : Int) + 1 ∧ x % 2 = 0 := by
  intro x hx
  obtain ⟨i, hi, rfl⟩ := List.getElem_of_mem hx
  rw [rIn_get]
  rw [rIn_len] at hi
  omega

theorem num_r (hv : ValR n l1 l2 l3 l4) : Num ((n + l1.length + l2.length : Nat) : Int) (rIn 2 n) (rLat (2 * (n : Int) + 2) l1) (rAnd (2 * (n : Int) + 2 * l1.length + 2) l2) l3 l4 := by
  have := hv.len
  refine ⟨by omega, by rw [rIn_len, rLat_len, rAnd_len]; omega, fun x hx => ?_, use_r hv, hv.b3, hv.b4⟩
  rw [own_r] at hx
  exact own_rb _ x hx

theorem ordR (hv : ValR n l1 l2 l3 l4) : ordS (rAnd (2 * (n : Int) + 2 * l1.length + 2) l2) (rAnd (2 * (n : Int) + 2 * l1.length + 2) l2).length [] = List.range l2.length := by
  rw [rAnd_len]
  exact ord_r (v := n + l1.length + 1) (by omega) (fun i h => by have := hv.u2 i h; omega) l2.length 0 (by omega)

theorem chk_r (hv : ValR n l1 l2 l3 l4) : chkS ((n + l1.length + l2.length : Nat) : Int) (rIn 2 n) (rLat (2 * (n : Int) + 2) l1) (rAnd (2 * (n : Int) + 2 * l1.length + 2) l2) l3 l4 = 0 := by
  have hN := num_r hv
  have hlen := hv.len
  unfold chkS
  rw [if_neg (by omega), if_neg (by
    unfold manyP
    rw [rIn_len, rLat_len, rAnd_len]
    have := hv.b3
    have := hv.b4
    omega)]
  have hb : badAny ((n + l1.length + l2.length : Nat) : Int) (rIn 2 n) (rLat (2 * (n : Int) + 2) l1) (rAnd (2 * (n : Int) + 2 * l1.length + 2) l2) l3 l4 = false := by
    unfold badAny
    rw [Bool.or_eq_false_iff, Bool.or_eq_false_iff]
    refine ⟨⟨(any_false _ _).2 (fun x hx => ?_), (any_false _ _).2 (fun x hx => ?_)⟩, (any_false _ _).2 (fun d hd => ?_)⟩
    · have := hN.own x hx
      unfold badOwn
      have e := Int.tmod_eq_emod_of_nonneg (b := 2) (show 0 ≤ x by omega)
      rw [e, this.2.2]
      simp; omega
    · have := hN.use x hx
      unfold badUse
      simp; omega
    · obtain ⟨g, hg, -, e2⟩ := lat_parts _ _ d hd
      have := (hv.u1 g hg).2
      unfold badRe
      rw [e2]
      simp; omega
  rw [hb, if_neg (by decide)]
  unfold chkVal
  have hvr : ((ownL (rIn 2 n) (rLat (2 * (n : Int) + 2) l1) (rAnd (2 * (n : Int) + 2 * l1.length + 2) l2)).map varN) = List.range' 1 (n + l1.length + l2.length) := by
    rw [own_r]; exact rIn_var _ 1
  rw [if_neg (fun c => c (by rw [hvr]; exact List.nodup_range')), if_neg, ordR hv, List.length_range, rAnd_len, if_neg (by omega)]
  intro c
  obtain ⟨x, hx, h⟩ := List.any_eq_true.1 c
  have := hN.use x hx
  unfold loose at h
  rw [hvr, Bool.not_eq_true', Bool.or_eq_false_iff, decide_eq_false_iff_not] at h
  have hm : varN x ∈ List.range' 1 (n + l1.length + l2.length) := by
    rw [List.mem_range'_1]; unfold varN at h ⊢; omega
  rw [List.contains_iff_mem.2 hm] at h
  cases h.2
end
theorem anyIx_at {α : Type} (f : Nat → α → Bool) : ∀ (l : List α) (i : Nat), anyIx f l i = false → ∀ (j : Nat) (h : j < l.length), f (i + j) l[j] = false
  | [], _, _, j, hj => by simp at hj
  | x :: t, i, h, j, hj => by
    rw [anyIx, Bool.or_eq_false_iff] at h
    cases j with
    | zero => exact h.1
    | succ j =>
      have := anyIx_at f t (i + 1) h.2 j (by simpa using hj)
      rw [show i + (j + 1) = i + 1 + j by omega]
      exact this
/-- What the program's check of a circuit lets in. -/
theorem valR {c : Ci} (h : Gates.chk c = 0) : ValR c.ins.toNat c.lats c.ands c.bads c.cons := by
  unfold Gates.chk at h
  by_cases c1 : c.ins < 0
  · rw [if_pos c1] at h; cases h
  rw [if_neg c1] at h
  by_cases c2 : c.ins > 1000
  · rw [if_pos c2] at h; cases h
  rw [if_neg c2] at h
  have e3 : st3 c = 1 + c.ins + (c.lats.length : Int) + (c.ands.length : Int) := by simp only [st3, List.length_map]
  have e2 : st2 c = 1 + c.ins + (c.lats.length : Int) := by simp only [st2, List.length_map]
  by_cases c3 : st3 c - 1 > 1000
  · rw [if_pos c3] at h; cases h
  rw [if_neg c3] at h
  simp only [List.length_map] at h
  by_cases c4 : (if (c.cons.length : Int) > (c.bads.length : Int) then (c.cons.length : Int) else (c.bads.length : Int)) > 100
  · rw [if_pos c4] at h; cases h
  rw [if_neg c4] at h
  by_cases c5 : (c.bads.any (outB (st3 c)) || (c.cons.any (outB (st3 c)) || c.lats.any (wrongB (st3 c)))) = true
  · rw [if_pos c5] at h; cases h
  rw [if_neg c5] at h
  by_cases c6 : anyIx (Gates.badA (st2 c)) c.ands 0 = true
  · rw [if_pos c6] at h; cases h
  rw [Bool.not_eq_true, Bool.or_eq_false_iff, Bool.or_eq_false_iff, any_false, any_false, any_false] at c5
  obtain ⟨d1, d2, d3⟩ := c5
  have hn : ((c.ins.toNat : Nat) : Int) = c.ins := by omega
  have out : ∀ x : Int, outB (st3 c) x = false → 0 ≤ x ∧ x ≤ 2 * (c.ins + (c.lats.length : Int) + (c.ands.length : Int)) + 1 := fun x hx => by
    unfold outB at hx
    rw [Bool.or_eq_false_iff, decide_eq_false_iff_not, decide_eq_false_iff_not] at hx
    omega
  have l34 : c.bads.length ≤ 100 ∧ c.cons.length ≤ 100 := by split at c4 <;> omega
  refine ⟨by omega, l34.1, l34.2, fun x hx => ?_, fun x hx => ?_, fun d hd => ?_, fun i hi => ?_⟩
  · rw [hn]; exact out x (d1 x hx)
  · rw [hn]; exact out x (d2 x hx)
  · have := d3 d hd
    unfold wrongB at this
    rw [Bool.or_eq_false_iff, Bool.or_eq_false_iff, decide_eq_false_iff_not, decide_eq_false_iff_not] at this
    rw [hn]
    exact ⟨out _ this.1, by omega, by omega⟩
  · have := anyIx_at (Gates.badA (st2 c)) c.ands 0 (Bool.not_eq_true _ ▸ c6) i hi
    unfold Gates.badA at this
    rw [Bool.or_eq_false_iff, Bool.or_eq_false_iff, decide_eq_false_iff_not, decide_eq_false_iff_not, decide_eq_false_iff_not, e2] at this
    rw [hn]
    omega
end Go.Proofs.YtihbpbdmhiihnaaDoor.Pl
/- AsciiSame, AsciiOne, whole. -/
namespace Go.Proofs.YtihbpbdmhiihnaaDoor.Sy.Tx
open Go Go.Proofs.YtihbpbdmhiihnaaDoor.Ab Go.Proofs.YtihbpbdmhiihnaaDoor.Sy Go.Proofs.YtihbpbdmhiihnaaDoor.Pl
set_option maxRecDepth 1000000
set_option linter.unusedVariables false
theorem insL_eq (m : Nat) : insL m = rIn 2 m :=
  List.ext_getElem (by simp [insL, rIn_len]) fun i h1 h2 => by rw [rIn_get]; simp [insL]; omega
theorem rLat_at (l : List Lt) : ∀ (x : Int) (i : Nat) (h : i < (rLat x l).length), (rLat x l)[i] = ⟨x + 2 * i, (l.getD i default).next, (l.getD i default).reset⟩ := by
  induction l with
  | nil => intro x i h; exact absurd h (Nat.not_lt_zero i)
  | cons g r ih =>
    intro x i h
    cases i with
    | zero => simp [rLat]
    | succ i =>
      simp only [rLat, List.getElem_cons_succ]
      rw [ih, List.getD_cons_succ, show x + 2 + 2 * (i : Int) = x + 2 * ((i + 1 : Nat) : Int) by omega]
theorem rAnd_at (l : List An) : ∀ (x : Int) (i : Nat) (h : i < (rAnd x l).length), (rAnd x l)[i] = ⟨x + 2 * i, (l.getD i default).a, (l.getD i default).b⟩ := by
  induction l with
  | nil => intro x i h; exact absurd h (Nat.not_lt_zero i)
  | cons g r ih =>
    intro x i h
    cases i with
    | zero => simp [rAnd]
    | succ i =>
      simp only [rAnd, List.getElem_cons_succ]
      rw [ih, List.getD_cons_succ, show x + 2 + 2 * (i : Int) = x + 2 * ((i + 1 : Nat) : Int) by omega]
/-- The raw circuit of a valid circuit is valid. -/
theorem chkR_rawC {c : Ci} (h : Gates.chk c = 0) : Cir.chkR (rawC c) = 0 := by
  have hv := valR h
  obtain ⟨i0, i1, i2⟩ := chk_ins h
  have hn : ((c.ins.toNat : Nat) : Int) = c.ins := by omega
  have e2 : latsL c = rLat (2 * ((c.ins.toNat : Nat) : Int) + 2) c.lats := by
    refine List.ext_getElem (by simp [latsL, rLat_len]) fun i h1 h2 => ?_
    rw [rLat_at]
    simp only [latsL, List.getElem_map, List.getElem_range, Df.mk.injEq, and_true]
    omega
  have e3 : andsL c = rAnd (2 * ((c.ins.toNat : Nat) : Int) + 2 * c.lats.length + 2) c.ands := by
    refine List.ext_getElem (by simp [andsL, rAnd_len]) fun i h1 h2 => ?_
    rw [rAnd_at]
    simp only [andsL, List.getElem_map, List.getElem_range, Df.mk.injEq, and_true]
    omega
  have e1 : szC c = ((c.ins.toNat + c.lats.length + c.ands.length : Nat) : Int) := by unfold szC; omega
  show chkS (szC c) (insL c.ins.toNat) (latsL c) (andsL c) c.bads c.cons = 0
  rw [e1, e2, e3, insL_eq]
  exact chk_r hv
theorem asciiSame (c : Ci) (hx : Cx c) : ICall Tryd.prog 6 [.d c.d] [] (.d (.bool true)) [] := by
  have hg := great2_ok c
  cases cg : great2 c with
  | true => rw [cg] at hg; exact callX_ok hO hm (sa0 c) ⟨hg, alive⟩
  | false =>
    rw [cg] at hg
    have h := cw_of cg hx
    have ht := text h
    unfold txtS txtE at ht
    by_cases hc : Gates.chk c = 0
    · have hr := chkR_rawC hc
      have ha := Rq.araw (rawC_sm h hc)
      rw [if_pos hc, if_pos hc] at ht
      rw [hr] at ht ha
      exact callX_ok hO hm (sa1 c (rawC c) (Rq.rawT (rawC c))) ⟨hg, ht, oraw_good h hc, rfl, ha, rfl, rfl, by simp, alive⟩
    · rw [if_neg hc, if_neg hc] at ht
      exact callX_ok hO hm (sa2 c (Gates.chk c) r00) ⟨hg, ht, oraw_bad h hc, bne_iff_ne.2 hc, by simp, rfl, alive⟩
theorem asciiOne (r r2 : Rw) (hd : ∀ x ∈ Def.defs r, x ≤ 9223372036854775807) (hu : ∀ x ∈ Def.uses r, x ≤ 9223372036854775807) (hd2 : ∀ x ∈ Def.defs r2, x ≤ 9223372036854775807) (hu2 : ∀ x ∈ Def.uses r2, x ≤ 9223372036854775807) :
    ICall Tryd.prog 5 [.d r.d, .d r2.d] [] (.d (.bool true)) [] := by
  have hg := Law.great_ok r
  have hg2 := Law.great_ok r2
  cases cg : Law.great r with
  | true => rw [cg] at hg; exact callX_ok hO hm (on0 r r2) ⟨hg, alive⟩
  | false =>
  rw [cg] at hg
  cases cg2 : Law.great r2 with
  | true => rw [cg2] at hg2; exact callX_ok hO hm (on1 r r2) ⟨hg, hg2, alive⟩
  | false =>
  rw [cg2] at hg2
  have h := Rq.sm_of cg hd hu
  have h2 := Rq.sm_of cg2 hd2 hu2
  have k1 := Ref.check h
  have k2 := Ref.check h2
  by_cases c1 : Cir.chkR r ≠ 0
  · exact callX_ok hO hm (on2 (Cir.chkR r) r r2) ⟨hg, hg2, k1, bne_iff_ne.2 c1, alive⟩
  have c1 := Decidable.not_not.1 c1
  rw [c1] at k1
  by_cases c2 : Cir.chkR r2 ≠ 0
  · exact callX_ok hO hm (on3 (Cir.chkR r2) r r2) ⟨hg, hg2, k1, rfl, k2, bne_iff_ne.2 c2, alive⟩
  have c2 := Decidable.not_not.1 c2
  rw [c2] at k2
  have a1 := Rq.araw h
  have a2 := Rq.araw h2
  unfold Rq.rawT at a1 a2
  rw [c1, if_pos rfl] at a1
  rw [c2, if_pos rfl] at a2
  have hs := Rq.same r r2 (by have := h.ins; omega) (by have := h.lats; omega) (by have := h.ands; omega) (by have := h.bads; omega) (by have := h.cons; omega)
  by_cases e : Asc.rawS r = Asc.rawS r2
  · have er := Asc.rawS_inj c1 c2 e
    rw [show Rq.sameR r r2 = true by rw [er]; exact Rq.sameR_refl r2] at hs
    exact callX_ok hO hm (on4 r r2 (Asc.rawS r) (Asc.rawS r2) true) ⟨hg, hg2, k1, rfl, k2, rfl, a1, a2, rfl, rfl, by rw [e]; simp, hs, rfl, alive⟩
  · rw [show Rq.sameR r r2 = false by rw [Bool.eq_false_iff]; exact fun hh => e (by rw [Rq.sameR_eq hh])] at hs
    exact callX_ok hO hm (on5 r r2 (Asc.rawS r) (Asc.rawS r2) false) ⟨hg, hg2, k1, rfl, k2, rfl, a1, a2, rfl, rfl, by simpa using e, hs, rfl, alive⟩
end Go.Proofs.YtihbpbdmhiihnaaDoor.Sy.Tx
/- AsciiReset: round by round. -/
namespace Go.Proofs.YtihbpbdmhiihnaaDoor.Sy.Rt
open Go Go.Proofs.YtihbpbdmhiihnaaDoor.Ab Go.Proofs.YtihbpbdmhiihnaaDoor.Sy Go.Proofs.YtihbpbdmhiihnaaDoor.Sy.Tx
set_option maxRecDepth 1000000
set_option linter.unusedVariables false
def HB (c : Ci) (j : Nat) (y : Lt) : List B := [Bc c, .box [.d (I c.ins), .arr 3, .arr 4, .arr 5, .arr 6], .box [.d (I c.ins), .arr 7, .arr 8, .arr 9, .arr 10],
  .lst 52 ((c.lats.map Lt.d).set j (.agg [I y.next, I 0])), .lst 76 (c.ands.map An.d), .lst 3 (c.bads.map I), .lst 3 (c.cons.map I),
  .lst 52 ((c.lats.map Lt.d).set j (.agg [I y.next, I 1])), .lst 76 (c.ands.map An.d), .lst 3 (c.bads.map I), .lst 3 (c.cons.map I)]
def Hr (c : Ci) (n : Int) (y : Lt) (st st2 : List UInt8) (k e : Int) (i : Nat) : St := ⟨mk 112 [(1, .d (I n)), (2, .ptr 0 0), (7, .d (.str st)), (9, .d (.str st2)), (11, .d (I k)), (12, .d (I e)), (13, .d (I i))] [], HB c n.toNat y⟩
def Er (c : Ci) (n : Int) (y : Lt) (st st2 : List UInt8) (e : Int) : St := ⟨mk 112 [(1, .d (I n)), (2, .ptr 0 0), (7, .d (.str st)), (9, .d (.str st2)), (12, .d (I e))] [], HB c n.toNat y⟩
def TwC (c : Ci) : V := .agg [.d (I c.ins), .own 52 (c.lats.map Lt.d), .own 76 (c.ands.map An.d), .own 3 (c.bads.map I), .own 3 (c.cons.map I)]
section
variable (c : Ci) (n e m k x : Int) (i j : Nat) (u : UInt8) (st st2 : List UInt8) (y : Lt)
theorem twc  : callX Tryd.prog wr false O 23 [.d c.d] [] [It.raw, It.own, It.raw, It.raw, It.own, It.raw, It.raw, It.own, It.raw, It.raw, It.own, It.raw] = some (TwC c, [],
  [∀ (y : D), y ∈ List.map Lt.d c.lats → y.cells.length = (fun x => x.size) Tryd.prog.types[52],
   (List.map Lt.d c.lats).length ≤ maxItems,
   ∀ (y : D), y ∈ List.map An.d c.ands → y.cells.length = (fun x => x.size) Tryd.prog.types[76],
   (List.map An.d c.ands).length ≤ maxItems,
   ∀ (y : D), y ∈ List.map I c.bads → y.cells.length = (fun x => x.size) Tryd.prog.types[3],
   (List.map I c.bads).length ≤ maxItems,
   ∀ (y : D), y ∈ List.map I c.cons → y.cells.length = (fun x => x.size) Tryd.prog.types[3],
   (List.map I c.cons).length ≤ maxItems]) := by kernel_rfl
theorem r1 : round Tryd.prog wr false O (loopOf Tryd.prog 7 0) (Hr c n y st st2 k e i) [It.br true, It.br true, It.by i u, It.br true, It.is (1 + c.ins), It.is (1 + c.ins + n), It.br true, It.is (k + 1), It.is (↑(i + 1) : Int)] [1, 2, 7, 9, 11, 12, 13] 11 = some (.normal, Hr c n y st st2 (k + 1) i (i + 1),
  [decide ((↑i : Int) < (↑st.length : Int)) = true,
   decide (e < 0) = true,
   (↑i : Int) = (↑i : Int) ∧ st[i]? = some u,
   ((↑u.toNat : Int) == 10) = true,
   IntKind.i64.wrap (1 + c.ins) = 1 + c.ins,
   IntKind.i64.wrap (1 + c.ins + n) = 1 + c.ins + n,
   (k == 1 + c.ins + n) = true,
   IntKind.i64.wrap (k + 1) = k + 1,
   IntKind.i64.wrap ((↑i : Int) + 1) = (↑(i + 1) : Int)]) := by kernel_rfl
theorem r2 : round Tryd.prog wr false O (loopOf Tryd.prog 7 0) (Hr c n y st st2 k e i) [It.br true, It.br true, It.by i u, It.br true, It.is (1 + c.ins), It.is (1 + c.ins + n), It.br false, It.is (k + 1), It.is (↑(i + 1) : Int)] [1, 2, 7, 9, 11, 12, 13] 11 = some (.normal, Hr c n y st st2 (k + 1) e (i + 1),
  [decide ((↑i : Int) < (↑st.length : Int)) = true,
   decide (e < 0) = true,
   (↑i : Int) = (↑i : Int) ∧ st[i]? = some u,
   ((↑u.toNat : Int) == 10) = true,
   IntKind.i64.wrap (1 + c.ins) = 1 + c.ins,
   IntKind.i64.wrap (1 + c.ins + n) = 1 + c.ins + n,
   (k == 1 + c.ins + n) = false,
   IntKind.i64.wrap (k + 1) = k + 1,
   IntKind.i64.wrap ((↑i : Int) + 1) = (↑(i + 1) : Int)]) := by kernel_rfl
theorem r3 : round Tryd.prog wr false O (loopOf Tryd.prog 7 0) (Hr c n y st st2 k e i) [It.br true, It.br true, It.by i u, It.br false, It.is (↑(i + 1) : Int)] [1, 2, 7, 9, 11, 12, 13] 11 = some (.normal, Hr c n y st st2 k e (i + 1),
  [decide ((↑i : Int) < (↑st.length : Int)) = true,
   decide (e < 0) = true,
   (↑i : Int) = (↑i : Int) ∧ st[i]? = some u,
   ((↑u.toNat : Int) == 10) = false,
   IntKind.i64.wrap ((↑i : Int) + 1) = (↑(i + 1) : Int)]) := by kernel_rfl
theorem r4 : round Tryd.prog wr false O (loopOf Tryd.prog 7 0) (Hr c n y st st2 k e i) [It.br true, It.br false] [1, 2, 7, 9, 12] 11 = some (.exit 0, Er c n y st st2 e,
  [decide ((↑i : Int) < (↑st.length : Int)) = true,
   decide (e < 0) = false]) := by kernel_rfl
theorem r5 : round Tryd.prog wr false O (loopOf Tryd.prog 7 0) (Hr c n y st st2 k e i) [It.br false] [1, 2, 7, 9, 12] 11 = some (.exit 0, Er c n y st st2 e,
  [decide ((↑i : Int) < (↑st.length : Int)) = false]) := by kernel_rfl
theorem y0  : callX Tryd.prog wr false O 7 [.d c.d, .d (I n)] [] [It.icall [] (V.d (D.bool true)) [], It.icall [] (V.d (D.bool true)) []] = some (V.d (D.bool true), [],
  [ICall Tryd.prog 16 [V.d (D.agg [I c.ins, D.sl (List.map Lt.d c.lats), D.sl (List.map An.d c.ands), L c.bads, L c.cons])] [] (V.d (D.bool true)) [],
   ICall Tryd.prog 20 [] [] (V.d (D.bool true)) []]) := by kernel_rfl
theorem y1  : callX Tryd.prog wr false O 7 [.d c.d, .d (I n)] [] [It.icall [] (V.d (D.bool false)) [], It.icall [] (V.d (I e)) [], It.br true, It.icall [] (V.d (D.bool true)) []] = some (V.d (D.bool true), [],
  [ICall Tryd.prog 16 [V.d (D.agg [I c.ins, D.sl (List.map Lt.d c.lats), D.sl (List.map An.d c.ands), L c.bads, L c.cons])] [] (V.d (D.bool false)) [],
   ICall Tryd.prog 22 [V.d (D.agg [I c.ins, D.sl (List.map Lt.d c.lats), D.sl (List.map An.d c.ands), L c.bads, L c.cons])] [] (V.d (I e)) [],
   (e != 0) = true,
   ICall Tryd.prog 20 [] [] (V.d (D.bool true)) []]) := by kernel_rfl
theorem y2  : callX Tryd.prog wr false O 7 [.d c.d, .d (I n)] [] [It.icall [] (V.d (D.bool false)) [], It.icall [] (V.d (I 0)) [], It.br false, It.br true, It.icall [] (V.d (D.bool true)) []] = some (V.d (D.bool true), [],
  [ICall Tryd.prog 16 [V.d (D.agg [I c.ins, D.sl (List.map Lt.d c.lats), D.sl (List.map An.d c.ands), L c.bads, L c.cons])] [] (V.d (D.bool false)) [],
   ICall Tryd.prog 22 [V.d (D.agg [I c.ins, D.sl (List.map Lt.d c.lats), D.sl (List.map An.d c.ands), L c.bads, L c.cons])] [] (V.d (I 0)) [],
   (0 != 0) = false,
   decide (n < 0) = true,
   ICall Tryd.prog 20 [] [] (V.d (D.bool true)) []]) := by kernel_rfl
theorem y3  : callX Tryd.prog wr false O 7 [.d c.d, .d (I n)] [] [It.icall [] (V.d (D.bool false)) [], It.icall [] (V.d (I 0)) [], It.br false, It.br false, It.br true, It.icall [] (V.d (D.bool true)) []] = some (V.d (D.bool true), [],
  [ICall Tryd.prog 16 [V.d (D.agg [I c.ins, D.sl (List.map Lt.d c.lats), D.sl (List.map An.d c.ands), L c.bads, L c.cons])] [] (V.d (D.bool false)) [],
   ICall Tryd.prog 22 [V.d (D.agg [I c.ins, D.sl (List.map Lt.d c.lats), D.sl (List.map An.d c.ands), L c.bads, L c.cons])] [] (V.d (I 0)) [],
   (0 != 0) = false,
   decide (n < 0) = false,
   decide (n ≥ (↑(List.map Lt.d c.lats).length : Int)) = true,
   ICall Tryd.prog 20 [] [] (V.d (D.bool true)) []]) := by kernel_rfl
theorem yes  : callX Tryd.prog wr false O 7 [.d c.d, .d (I n)] [] [It.icall [] (V.d (D.bool false)) [], It.icall [] (V.d (I 0)) [], It.br false, It.br false, It.br false, It.icall [] (TwC c) [], It.icall [] (TwC c) [], It.ix n.toNat, It.el j y.d, It.ix n.toNat, It.el j y.d, It.ret (V.tup [V.d (D.str st), V.d (I 0)]), It.ret (V.tup [V.d (D.str st2), V.d (I 0)]), It.br false, It.br false, It.is (↑(st.length + 2) : Int), It.br false, It.lp [1, 2, 7, 9, 11, 12, 13] (Ex.exit 0) (Er c n y st st2 e), It.br true, It.cut 0 i, It.raw, It.cut i st.length, It.raw, It.br true, It.icall [] (V.d (D.bool true)) []] = some (V.d (D.bool true), [],
  [ICall Tryd.prog 16 [V.d (D.agg [I c.ins, D.sl (List.map Lt.d c.lats), D.sl (List.map An.d c.ands), L c.bads, L c.cons])] [] (V.d (D.bool false)) [],
   ICall Tryd.prog 22 [V.d (D.agg [I c.ins, D.sl (List.map Lt.d c.lats), D.sl (List.map An.d c.ands), L c.bads, L c.cons])] [] (V.d (I 0)) [],
   (0 != 0) = false,
   decide (n < 0) = false,
   decide (n ≥ (↑(List.map Lt.d c.lats).length : Int)) = false,
   ICall Tryd.prog 23 [V.d (D.agg [I c.ins, D.sl (List.map Lt.d c.lats), D.sl (List.map An.d c.ands), L c.bads, L c.cons])] [] (TwC c) [],
   ICall Tryd.prog 23 [V.d (D.agg [I c.ins, D.sl (List.map Lt.d c.lats), D.sl (List.map An.d c.ands), L c.bads, L c.cons])] [] (TwC c) [],
   n = (↑n.toNat : Int) ∧ n.toNat < (List.map Lt.d c.lats).length,
   (List.map Lt.d c.lats)[n.toNat]? = some (D.agg [I y.next, I y.reset]),
   n = (↑n.toNat : Int) ∧ n.toNat < (List.map Lt.d c.lats).length,
   (List.map Lt.d c.lats)[n.toNat]? = some (D.agg [I y.next, I y.reset]),
   ICall Tryd.prog 17 [V.d (D.agg [D.int IntKind.i64 c.ins, D.sl ((List.map Lt.d c.lats).set n.toNat (D.agg ([I y.next, I y.reset].set 1 (D.int IntKind.i64 0)))), D.sl (List.map An.d c.ands), D.sl (List.map I c.bads), D.sl (List.map I c.cons)])] [] (V.tup [V.d (D.str st), V.d (I 0)]) [] ∧ (List.flatMap refs ([V.agg (List.take 5 (List.drop 0 (over [V.d (D.int IntKind.i64 0), V.emp true, V.emp true, V.emp true, V.emp true] 0 [V.d (I c.ins), V.arr 3, V.arr (3 + [B.lst 52 (List.map Lt.d c.lats)].length), V.arr (3 + [B.lst 52 (List.map Lt.d c.lats)].length + [B.lst 76 (List.map An.d c.ands)].length), V.arr (3 + [B.lst 52 (List.map Lt.d c.lats)].length + [B.lst 76 (List.map An.d c.ands)].length + [B.lst 3 (List.map I c.bads)].length)])))] ++ []) = [] ∨ (V.tup [V.d (D.str st), V.d (I 0)]).safe = true),
   ICall Tryd.prog 17 [V.d (D.agg [D.int IntKind.i64 c.ins, D.sl ((List.map Lt.d c.lats).set n.toNat (D.agg ([I y.next, I y.reset].set 1 (D.int IntKind.i64 1)))), D.sl (List.map An.d c.ands), D.sl (List.map I c.bads), D.sl (List.map I c.cons)])] [] (V.tup [V.d (D.str st2), V.d (I 0)]) [] ∧ (List.flatMap refs ([V.agg (List.take 5 (List.drop 0 (over [V.d (D.int IntKind.i64 0), V.emp true, V.emp true, V.emp true, V.emp true] 0 [V.d (I c.ins), V.arr 7, V.arr (7 + [B.lst 52 (List.map Lt.d c.lats)].length), V.arr (7 + [B.lst 52 (List.map Lt.d c.lats)].length + [B.lst 76 (List.map An.d c.ands)].length), V.arr (7 + [B.lst 52 (List.map Lt.d c.lats)].length + [B.lst 76 (List.map An.d c.ands)].length + [B.lst 3 (List.map I c.bads)].length)])))] ++ []) = [] ∨ (V.tup [V.d (D.str st2), V.d (I 0)]).safe = true),
   (0 != 0) = false,
   (0 != 0) = false,
   IntKind.i64.wrap ((↑st.length : Int) + 2) = (↑(st.length + 2) : Int),
   ((↑st2.length : Int) != (↑(st.length + 2) : Int)) = false,
   GoesL Tryd.prog (loopOf Tryd.prog 7 0) (⟨mk 112 [(1, V.d (D.int IntKind.i64 n)), (2, V.ptr 0 0), (7, V.d (D.str st)), (9, V.d (D.str st2)), (11, V.d (D.int IntKind.i64 0)), (12, V.d (D.int IntKind.i64 (-1))), (13, V.d (D.int IntKind.i64 0))] [], [B.bx none [V.d (D.int IntKind.i64 c.ins), V.d (D.sl (List.map Lt.d c.lats)), V.d (D.sl (List.map An.d c.ands)), V.d (D.sl (List.map I c.bads)), V.d (D.sl (List.map I c.cons))], B.bx none [V.d (D.int IntKind.i64 c.ins), V.arr 3, V.arr (3 + [B.lst 52 (List.map Lt.d c.lats)].length), V.arr (3 + [B.lst 52 (List.map Lt.d c.lats)].length + [B.lst 76 (List.map An.d c.ands)].length), V.arr (3 + [B.lst 52 (List.map Lt.d c.lats)].length + [B.lst 76 (List.map An.d c.ands)].length + [B.lst 3 (List.map I c.bads)].length)], B.bx none [V.d (D.int IntKind.i64 c.ins), V.arr 7, V.arr (7 + [B.lst 52 (List.map Lt.d c.lats)].length), V.arr (7 + [B.lst 52 (List.map Lt.d c.lats)].length + [B.lst 76 (List.map An.d c.ands)].length), V.arr (7 + [B.lst 52 (List.map Lt.d c.lats)].length + [B.lst 76 (List.map An.d c.ands)].length + [B.lst 3 (List.map I c.bads)].length)], B.lst 52 ((List.map Lt.d c.lats).set n.toNat (D.agg ([I y.next, I y.reset].set 1 (D.int IntKind.i64 0)))), B.lst 76 (List.map An.d c.ands), B.lst 3 (List.map I c.bads), B.lst 3 (List.map I c.cons), B.lst 52 ((List.map Lt.d c.lats).set n.toNat (D.agg ([I y.next, I y.reset].set 1 (D.int IntKind.i64 1)))), B.lst 76 (List.map An.d c.ands), B.lst 3 (List.map I c.bads), B.lst 3 (List.map I c.cons)]⟩) (Ex.exit 0) (Er c n y st st2 e),
   decide (e ≥ 0) = true,
   (↑0 : Int) = (↑0 : Int) ∧ e = (↑i : Int) ∧ 0 ≤ i ∧ i ≤ st.length,
   (List.take (i - 0) (List.drop 0 st)).length + 2 < 4611686018427387904,
   e = (↑i : Int) ∧ (↑st.length : Int) = (↑st.length : Int) ∧ i ≤ st.length ∧ st.length ≤ st.length,
   (List.take (i - 0) (List.drop 0 st) ++ (ByteArray.mk #[32, 49]).data.toList).length + (List.take (st.length - i) (List.drop i st)).length < 4611686018427387904,
   (st2 == List.take (i - 0) (List.drop 0 st) ++ (ByteArray.mk #[32, 49]).data.toList ++ List.take (st.length - i) (List.drop i st)) = true,
   ICall Tryd.prog 20 [] [] (V.d (D.bool true)) []]) := by kernel_rfl
end
end Go.Proofs.YtihbpbdmhiihnaaDoor.Sy.Rt
/- AsciiLines: round by round. -/
namespace Go.Proofs.YtihbpbdmhiihnaaDoor.Sy.Lz
open Go Go.Proofs.YtihbpbdmhiihnaaDoor.Ab Go.Proofs.YtihbpbdmhiihnaaDoor.Sy
set_option maxRecDepth 1000000
set_option linter.unusedVariables false
def Hz (r : Rw) (st : List UInt8) (m k : Int) (i : Nat) : St := ⟨mk 146 [(1, .ptr 0 0), (3, .d (.str st)), (5, .d (I m)), (7, .d (I k)), (8, .d (I i))] [], [r.box]⟩
def Ez (r : Rw) (st : List UInt8) (m k : Int) : St := ⟨mk 146 [(1, .ptr 0 0), (3, .d (.str st)), (5, .d (I m)), (7, .d (I k))] [], [r.box]⟩
section
variable (r : Rw) (st : List UInt8) (n e m k : Int) (i j : Nat) (u w : UInt8)
theorem A1 : round Tryd.prog wr false O (loopOf Tryd.prog 8 0) (Hz r st m k i) [It.br true, It.by i u, It.br false, It.by i u, It.br false, It.br true, It.by i u, It.br false, It.by i u, It.br false, It.br true, It.by i u, It.br false, It.is (↑(i + 1) : Int)] [1, 3, 5, 7, 8] 1 = some (.normal, Hz r st m k (i + 1),
  [decide ((↑i : Int) < (↑st.length : Int)) = true,
   (↑i : Int) = (↑i : Int) ∧ st[i]? = some u,
   ((↑u.toNat : Int) == 32) = false,
   (↑i : Int) = (↑i : Int) ∧ st[i]? = some u,
   ((↑u.toNat : Int) == 10) = false,
   (!false) = true,
   (↑i : Int) = (↑i : Int) ∧ st[i]? = some u,
   decide ((↑u.toNat : Int) < 48) = false,
   (↑i : Int) = (↑i : Int) ∧ st[i]? = some u,
   decide ((↑u.toNat : Int) > 57) = false,
   ((↑i : Int) == 4) = true,
   (↑i : Int) = (↑i : Int) ∧ st[i]? = some u,
   ((↑u.toNat : Int) == 10) = false,
   IntKind.i64.wrap ((↑i : Int) + 1) = (↑(i + 1) : Int)]) := by kernel_rfl
theorem A2 : round Tryd.prog wr false O (loopOf Tryd.prog 8 0) (Hz r st m k i) [It.br true, It.by i u, It.br false, It.by i u, It.br false, It.br true, It.by i u, It.br false, It.by i u, It.br false, It.br false, It.by i u, It.br false, It.is (↑(i + 1) : Int)] [1, 3, 5, 7, 8] 1 = some (.normal, Hz r st m k (i + 1),
  [decide ((↑i : Int) < (↑st.length : Int)) = true,
   (↑i : Int) = (↑i : Int) ∧ st[i]? = some u,
   ((↑u.toNat : Int) == 32) = false,
   (↑i : Int) = (↑i : Int) ∧ st[i]? = some u,
   ((↑u.toNat : Int) == 10) = false,
   (!false) = true,
   (↑i : Int) = (↑i : Int) ∧ st[i]? = some u,
   decide ((↑u.toNat : Int) < 48) = false,
   (↑i : Int) = (↑i : Int) ∧ st[i]? = some u,
   decide ((↑u.toNat : Int) > 57) = false,
   ((↑i : Int) == 4) = false,
   (↑i : Int) = (↑i : Int) ∧ st[i]? = some u,
   ((↑u.toNat : Int) == 10) = false,
   IntKind.i64.wrap ((↑i : Int) + 1) = (↑(i + 1) : Int)]) := by kernel_rfl
theorem A3 : round Tryd.prog wr false O (loopOf Tryd.prog 8 0) (Hz r st m k i) [It.br false] [1, 3, 5, 7] 1 = some (.exit 0, Ez r st m k,
  [decide ((↑i : Int) < (↑st.length : Int)) = false]) := by kernel_rfl
theorem B1 : round Tryd.prog wr false O (loopOf Tryd.prog 8 0) (Hz r st m k i) [It.br true, It.by i 32, It.br true, It.br false, It.br true, It.is ((↑i : Int) - 1), It.by j w, It.br false, It.is ((↑i : Int) - 1), It.by j w, It.br false, It.br false, It.by i 32, It.br false, It.is (↑(i + 1) : Int)] [1, 3, 5, 7, 8] 1 = some (.normal, Hz r st m k (i + 1),
  [decide ((↑i : Int) < (↑st.length : Int)) = true,
   (↑i : Int) = (↑i : Int) ∧ st[i]? = some 32,
   ((↑32 : Int) == 32) = true,
   (!true) = false,
   decide ((↑i : Int) > 4) = true,
   IntKind.i64.wrap ((↑i : Int) - 1) = (↑i : Int) - 1,
   (↑i : Int) - 1 = (↑j : Int) ∧ st[j]? = some w,
   ((↑w.toNat : Int) == 32) = false,
   IntKind.i64.wrap ((↑i : Int) - 1) = (↑i : Int) - 1,
   (↑i : Int) - 1 = (↑j : Int) ∧ st[j]? = some w,
   ((↑w.toNat : Int) == 10) = false,
   ((↑i : Int) == 4) = false,
   (↑i : Int) = (↑i : Int) ∧ st[i]? = some 32,
   ((↑32 : Int) == 10) = false,
   IntKind.i64.wrap ((↑i : Int) + 1) = (↑(i + 1) : Int)]) := by kernel_rfl
theorem C1 : round Tryd.prog wr false O (loopOf Tryd.prog 8 0) (Hz r st m k i) [It.br true, It.by i 10, It.br false, It.by i 10, It.br true, It.br false, It.br true, It.is ((↑i : Int) - 1), It.by j w, It.br false, It.is ((↑i : Int) - 1), It.by j w, It.br false, It.br false, It.by i 10, It.br true, It.is (k + 1), It.is (↑(i + 1) : Int)] [1, 3, 5, 7, 8] 1 = some (.normal, Hz r st m (k + 1) (i + 1),
  [decide ((↑i : Int) < (↑st.length : Int)) = true,
   (↑i : Int) = (↑i : Int) ∧ st[i]? = some 10,
   ((↑10 : Int) == 32) = false,
   (↑i : Int) = (↑i : Int) ∧ st[i]? = some 10,
   ((↑10 : Int) == 10) = true,
   (!true) = false,
   decide ((↑i : Int) > 4) = true,
   IntKind.i64.wrap ((↑i : Int) - 1) = (↑i : Int) - 1,
   (↑i : Int) - 1 = (↑j : Int) ∧ st[j]? = some w,
   ((↑w.toNat : Int) == 32) = false,
   IntKind.i64.wrap ((↑i : Int) - 1) = (↑i : Int) - 1,
   (↑i : Int) - 1 = (↑j : Int) ∧ st[j]? = some w,
   ((↑w.toNat : Int) == 10) = false,
   ((↑i : Int) == 4) = false,
   (↑i : Int) = (↑i : Int) ∧ st[i]? = some 10,
   ((↑10 : Int) == 10) = true,
   IntKind.i64.wrap (k + 1) = k + 1,
   IntKind.i64.wrap ((↑i : Int) + 1) = (↑(i + 1) : Int)]) := by kernel_rfl
theorem z0  : callX Tryd.prog wr false O 8 [.d r.d] [] [It.icall [] (V.d (D.bool true)) [], It.icall [] (V.d (D.bool true)) []] = some (V.d (D.bool true), [],
  [ICall Tryd.prog 9 [V.d (D.agg [I r.most, L r.ins, D.sl (List.map Df.d r.lats), D.sl (List.map Df.d r.ands), L r.bads, L r.cons])] [] (V.d (D.bool true)) [],
   ICall Tryd.prog 20 [] [] (V.d (D.bool true)) []]) := by kernel_rfl
theorem z1  : callX Tryd.prog wr false O 8 [.d r.d] [] [It.icall [] (V.d (D.bool false)) [], It.icall [] (V.d (I e)) [], It.br true, It.icall [] (V.d (D.bool true)) []] = some (V.d (D.bool true), [],
  [ICall Tryd.prog 9 [V.d (D.agg [I r.most, L r.ins, D.sl (List.map Df.d r.lats), D.sl (List.map Df.d r.ands), L r.bads, L r.cons])] [] (V.d (D.bool false)) [],
   ICall Tryd.prog 19 [V.d (D.agg [I r.most, L r.ins, D.sl (List.map Df.d r.lats), D.sl (List.map Df.d r.ands), L r.bads, L r.cons])] [] (V.d (I e)) [],
   (e != 0) = true,
   ICall Tryd.prog 20 [] [] (V.d (D.bool true)) []]) := by kernel_rfl
theorem z2  : callX Tryd.prog wr false O 8 [.d r.d] [] [It.icall [] (V.d (D.bool false)) [], It.icall [] (V.d (I 0)) [], It.br false, It.icall [] (V.tup [V.d (D.str st), V.d (I 0)]) [], It.icall [] (V.tup [V.d (I m), V.d (I 0)]) [], It.br false, It.br false, It.br false, It.cut 0 4, It.br false, It.lp [1, 3, 5, 7, 8] (Ex.exit 0) (Ez r st m k), It.is ((↑st.length : Int) - 1), It.by j u, It.br true, It.br true, It.is (↑(1 + (List.map I r.ins).length) : Int), It.is (↑(1 + (List.map I r.ins).length + (List.map Df.d r.lats).length) : Int), It.is (↑(1 + (List.map I r.ins).length + (List.map Df.d r.lats).length + (List.map Df.d r.ands).length) : Int), It.is (↑(1 + (List.map I r.ins).length + (List.map Df.d r.lats).length + (List.map Df.d r.ands).length + (List.map I r.bads).length) : Int), It.is (↑(1 + (List.map I r.ins).length + (List.map Df.d r.lats).length + (List.map Df.d r.ands).length + (List.map I r.bads).length + (List.map I r.cons).length) : Int), It.br true, It.icall [] (V.d (D.bool true)) []] = some (V.d (D.bool true), [],
  [ICall Tryd.prog 9 [V.d (D.agg [I r.most, L r.ins, D.sl (List.map Df.d r.lats), D.sl (List.map Df.d r.ands), L r.bads, L r.cons])] [] (V.d (D.bool false)) [],
   ICall Tryd.prog 19 [V.d (D.agg [I r.most, L r.ins, D.sl (List.map Df.d r.lats), D.sl (List.map Df.d r.ands), L r.bads, L r.cons])] [] (V.d (I 0)) [],
   (0 != 0) = false,
   ICall Tryd.prog 11 [V.d (D.agg [I r.most, L r.ins, D.sl (List.map Df.d r.lats), D.sl (List.map Df.d r.ands), L r.bads, L r.cons])] [] (V.tup [V.d (D.str st), V.d (I 0)]) [],
   ICall Tryd.prog 13 [V.d (D.agg [I r.most, L r.ins, D.sl (List.map Df.d r.lats), D.sl (List.map Df.d r.ands), L r.bads, L r.cons])] [] (V.tup [V.d (I m), V.d (I 0)]) [],
   (0 != 0) = false,
   (0 != 0) = false,
   decide ((↑st.length : Int) < 18) = false,
   (↑0 : Int) = (↑0 : Int) ∧ 4 = (↑4 : Int) ∧ 0 ≤ 4 ∧ 4 ≤ st.length,
   (!List.take 4 (List.drop 0 st) == (ByteArray.mk #[97, 97, 103, 32]).data.toList) = false,
   GoesL Tryd.prog (loopOf Tryd.prog 8 0) (⟨mk 146 [(1, V.ptr 0 0), (3, V.d (D.str st)), (5, V.d (D.int IntKind.i64 m)), (7, V.d (D.int IntKind.i64 0)), (8, V.d (D.int IntKind.i64 4))] [], [B.bx none [V.d (D.int IntKind.i64 r.most), V.d (D.sl (List.map I r.ins)), V.d (D.sl (List.map Df.d r.lats)), V.d (D.sl (List.map Df.d r.ands)), V.d (D.sl (List.map I r.bads)), V.d (D.sl (List.map I r.cons))]]⟩) (Ex.exit 0) (Ez r st m k),
   IntKind.i64.wrap ((↑st.length : Int) - 1) = (↑st.length : Int) - 1,
   (↑st.length : Int) - 1 = (↑j : Int) ∧ st[j]? = some u,
   ((↑u.toNat : Int) == 10) = true,
   (k == m) = true,
   IntKind.i64.wrap (1 + (↑(List.map I r.ins).length : Int)) = (↑(1 + (List.map I r.ins).length) : Int),
   IntKind.i64.wrap ((↑(1 + (List.map I r.ins).length) : Int) + (↑(List.map Df.d r.lats).length : Int)) = (↑(1 + (List.map I r.ins).length + (List.map Df.d r.lats).length) : Int),
   IntKind.i64.wrap ((↑(1 + (List.map I r.ins).length + (List.map Df.d r.lats).length) : Int) + (↑(List.map Df.d r.ands).length : Int)) = (↑(1 + (List.map I r.ins).length + (List.map Df.d r.lats).length + (List.map Df.d r.ands).length) : Int),
   IntKind.i64.wrap ((↑(1 + (List.map I r.ins).length + (List.map Df.d r.lats).length + (List.map Df.d r.ands).length) : Int) + (↑(List.map I r.bads).length : Int)) = (↑(1 + (List.map I r.ins).length + (List.map Df.d r.lats).length + (List.map Df.d r.ands).length + (List.map I r.bads).length) : Int),
   IntKind.i64.wrap ((↑(1 + (List.map I r.ins).length + (List.map Df.d r.lats).length + (List.map Df.d r.ands).length + (List.map I r.bads).length) : Int) + (↑(List.map I r.cons).length : Int)) = (↑(1 + (List.map I r.ins).length + (List.map Df.d r.lats).length + (List.map Df.d r.ands).length + (List.map I r.bads).length + (List.map I r.cons).length) : Int),
   (m == (↑(1 + (List.map I r.ins).length + (List.map Df.d r.lats).length + (List.map Df.d r.ands).length + (List.map I r.bads).length + (List.map I r.cons).length) : Int)) = true,
   ICall Tryd.prog 20 [] [] (V.d (D.bool true)) []]) := by kernel_rfl
end
end Go.Proofs.YtihbpbdmhiihnaaDoor.Sy.Lz
/- AsciiLines, whole. -/
namespace Go.Proofs.YtihbpbdmhiihnaaDoor.Sy.Lz
open Go Go.Proofs.YtihbpbdmhiihnaaDoor.Ab Go.Proofs.YtihbpbdmhiihnaaDoor.Sy Go.Proofs.YtihbpbdmhiihnaaDoor.Pl Go.Proofs.YtihbpbdmhiihnaaDoor.Sy.Asc
set_option maxRecDepth 1000000
set_option linter.unusedVariables false
set_option linter.unusedSimpArgs false
/-- Digits, and gaps that stand alone behind digits. -/
def Okc : UInt8 → List UInt8 → Prop
  | _, [] => True
  | p, u :: s => (dig u = true ∨ ((u = 32 ∨ u = 10) ∧ p ≠ 32 ∧ p ≠ 10)) ∧ Okc u s
def cnt : List UInt8 → Nat
  | [] => 0
  | u :: s => (if u = 10 then 1 else 0) + cnt s
theorem dig_ne {u : UInt8} (h : dig u = true) : u ≠ 32 ∧ u ≠ 10 := by
  constructor <;> (intro e; subst e; revert h; decide)
theorem okc_dig : ∀ (a : List UInt8) {s : List UInt8} (p : UInt8), (∀ b ∈ a, dig b = true) → a ≠ [] → (∀ q, dig q = true → Okc q s) → Okc p (a ++ s)
  | [], _, _, _, h, _ => absurd rfl h
  | [b], s, p, ha, _, hs => ⟨.inl (ha b (by simp)), hs b (ha b (by simp))⟩
  | b :: c :: r, s, p, ha, _, hs => ⟨.inl (ha b (by simp)), okc_dig (c :: r) b (fun x hx => ha x (by simp [List.mem_cons.1 hx])) (by simp) hs⟩
theorem itoa_ne {n : Int} (h : 0 ≤ n) : Lib.itoa n ≠ [] := by rw [itoa_nn h]; exact (dec_dig _ _ (Nat.le_refl _)).2
theorem okc_rest : ∀ (t : List Int) {x : List UInt8} (q : UInt8), (∀ n ∈ t, 0 ≤ n) → dig q = true → Okc 10 x → Okc q (rest t ++ x)
  | [], x, q, _, hq, hx => ⟨.inr ⟨.inr rfl, dig_ne hq⟩, hx⟩
  | n :: r, x, q, ht, hq, hx => by
    simp only [rest, List.cons_append, List.append_assoc]
    refine ⟨.inr ⟨.inl rfl, dig_ne hq⟩, ?_⟩
    exact okc_dig _ 32 (itoa_dig (ht n (by simp))) (itoa_ne (ht n (by simp))) fun q' hq' => okc_rest r q' (fun k hk => ht k (by simp [hk])) hq' hx
theorem okc_lines : ∀ (ls : List (List Int)) (p : UInt8), (∀ a ∈ ls, a ≠ [] ∧ ∀ n ∈ a, 0 ≤ n) → Okc p (ls.flatMap lineS)
  | [], p, _ => trivial
  | a :: ls, p, h => by
    obtain ⟨h1, h2⟩ := h a (by simp)
    cases a with
    | nil => exact absurd rfl h1
    | cons n t =>
      rw [List.flatMap_cons, lineS_cons, List.append_assoc]
      refine okc_dig _ p (itoa_dig (h2 n (by simp))) (itoa_ne (h2 n (by simp))) fun q hq => ?_
      exact okc_rest t q (fun k hk => h2 k (by simp [hk])) hq (okc_lines ls 10 fun b hb => h b (by simp [hb]))
theorem cnt_append (a b : List UInt8) : cnt (a ++ b) = cnt a + cnt b := by
  induction a with
  | nil => simp [cnt]
  | cons x r ih => simp only [List.cons_append, cnt, ih]; omega
theorem cnt_dig : ∀ (a : List UInt8), (∀ b ∈ a, dig b = true) → cnt a = 0
  | [], _ => rfl
  | b :: r, h => by
    rw [cnt, if_neg (dig_ne (h b (by simp))).2, cnt_dig r fun x hx => h x (by simp [hx])]
theorem cnt_rest : ∀ (t : List Int), (∀ n ∈ t, 0 ≤ n) → cnt (rest t) = 1
  | [], _ => rfl
  | n :: r, h => by
    rw [rest, cnt, if_neg (by decide), cnt_append, cnt_dig _ (itoa_dig (h n (by simp))), cnt_rest r fun k hk => h k (by simp [hk])]
theorem cnt_lines : ∀ (ls : List (List Int)), (∀ a ∈ ls, a ≠ [] ∧ ∀ n ∈ a, 0 ≤ n) → cnt (ls.flatMap lineS) = ls.length
  | [], _ => rfl
  | a :: ls, h => by
    obtain ⟨h1, h2⟩ := h a (by simp)
    cases a with
    | nil => exact absurd rfl h1
    | cons n t =>
      rw [List.flatMap_cons, lineS_cons, cnt_append, cnt_append, cnt_dig _ (itoa_dig (h2 n (by simp))), cnt_rest t (fun k hk => h2 k (by simp [hk])), cnt_lines ls fun b hb => h b (by simp [hb]), List.length_cons]
      omega
theorem rest_len : ∀ (t : List Int), (∀ n ∈ t, 0 ≤ n) → 1 + 2 * t.length ≤ (rest t).length
  | [], _ => by simp [rest]
  | n :: r, h => by
    have := rest_len r fun k hk => h k (by simp [hk])
    have := List.length_pos_iff.2 (itoa_ne (h n (by simp)))
    simp only [rest, List.length_cons, List.length_append]
    omega
theorem lines_last : ∀ (ls : List (List Int)), ls ≠ [] → ∃ y, ls.flatMap lineS = y ++ [10]
  | [], h => absurd rfl h
  | [a], _ => ⟨body [] a, by simp [lineS]⟩
  | a :: b :: ls, _ => by
    obtain ⟨y, hy⟩ := lines_last (b :: ls) (by simp)
    exact ⟨lineS a ++ y, by rw [List.flatMap_cons, hy, List.append_assoc]⟩
section
variable (r : Rw) (st : List UInt8) (m : Int)
theorem scan (hl : st.length ≤ 1000000000) : ∀ (z pre : List UInt8) (p : UInt8) (k : Nat), st = pre ++ p :: z → 3 ≤ pre.length → (pre.length = 3 → p = 32) → k ≤ pre.length → Okc p z →
    GoesL Tryd.prog (loopOf Tryd.prog 8 0) (Hz r st m (k : Int) (pre.length + 1)) (.exit 0) (Ez r st m ((k + cnt z : Nat) : Int))
  | [], pre, p, k, e, h3, h4, hk, _ => by
    have hle : st.length = pre.length + 1 := by rw [e]; simp
    exact .stop hO hm (A3 r st m k (pre.length + 1)) (by simp) (decide_eq_false (by omega))
  | u :: z, pre, p, k, e, h3, h4, hk, ho => by
    have e' : st = (pre ++ [p]) ++ u :: z := by rw [e]; simp
    have hle : st.length = pre.length + 1 + (z.length + 1) := by rw [e]; simp; omega
    have hpl : (pre ++ [p]).length = pre.length + 1 := by simp
    have g1 : st[pre.length + 1]? = some u := by rw [e', List.getElem?_append_right (by simp)]; simp
    have g0 : st[pre.length]? = some p := by rw [e, List.getElem?_append_right (Nat.le_refl _)]; simp
    have q1 : decide (((pre.length + 1 : Nat) : Int) < (st.length : Int)) = true := decide_eq_true (by omega)
    have wi : IntKind.i64.wrap (((pre.length + 1 : Nat) : Int) + 1) = ((pre.length + 1 + 1 : Nat) : Int) := wrap_succ (by omega)
    obtain ⟨hu, ho2⟩ := ho
    rcases hu with hu | ⟨hu, hp1, hp2⟩
    · have hd := dig_ne hu
      have ih := scan hl z (pre ++ [p]) u k e' (by omega) (by omega) (by omega) ho2
      rw [hpl] at ih
      have hc : cnt (u :: z) = cnt z := by rw [cnt, if_neg hd.2, Nat.zero_add]
      rw [hc]
      unfold dig at hu
      rw [Bool.and_eq_true, decide_eq_true_eq, decide_eq_true_eq] at hu
      have x1 : ((u.toNat : Int) == 32) = false := by simp; omega
      have x2 : ((u.toNat : Int) == 10) = false := by simp; omega
      have x3 : decide ((u.toNat : Int) < 48) = false := decide_eq_false (by omega)
      have x4 : decide ((u.toNat : Int) > 57) = false := decide_eq_false (by omega)
      by_cases c4 : pre.length = 3
      · exact .step hO hm (A1 r st m k (pre.length + 1) u) ⟨q1, ⟨rfl, g1⟩, x1, ⟨rfl, g1⟩, x2, rfl, ⟨rfl, g1⟩, x3, ⟨rfl, g1⟩, x4, by simp; omega, ⟨rfl, g1⟩, x2, wi⟩ ih
      · exact .step hO hm (A2 r st m k (pre.length + 1) u) ⟨q1, ⟨rfl, g1⟩, x1, ⟨rfl, g1⟩, x2, rfl, ⟨rfl, g1⟩, x3, ⟨rfl, g1⟩, x4, by simp; omega, ⟨rfl, g1⟩, x2, wi⟩ ih
    · have c4 : pre.length ≠ 3 := fun c => hp1 (h4 c)
      have p32 : p.toNat ≠ 32 := fun c => hp1 (UInt8.toNat_inj.1 c)
      have p10 : p.toNat ≠ 10 := fun c => hp2 (UInt8.toNat_inj.1 c)
      have y1 : ((p.toNat : Int) == 32) = false := by simp; omega
      have y2 : ((p.toNat : Int) == 10) = false := by simp; omega
      have wj : IntKind.i64.wrap (((pre.length + 1 : Nat) : Int) - 1) = ((pre.length + 1 : Nat) : Int) - 1 := wrap_id (by omega) (by omega)
      have gj : ((pre.length + 1 : Nat) : Int) - 1 = (pre.length : Int) ∧ st[pre.length]? = some p := ⟨by omega, g0⟩
      have f4 : (((pre.length + 1 : Nat) : Int) == 4) = false := by simp; omega
      have q4 : decide (((pre.length + 1 : Nat) : Int) > 4) = true := decide_eq_true (by omega)
      rcases hu with rfl | rfl
      · have ih := scan hl z (pre ++ [p]) 32 k e' (by omega) (by omega) (by omega) ho2
        rw [hpl] at ih
        have hc : cnt (32 :: z) = cnt z := by rw [cnt, if_neg (by decide), Nat.zero_add]
        rw [hc]
        exact .step hO hm (B1 r st m k (pre.length + 1) pre.length p) ⟨q1, ⟨rfl, g1⟩, rfl, rfl, q4, wj, gj, y1, wj, gj, y2, f4, ⟨rfl, g1⟩, rfl, wi⟩ ih
      · have ih := scan hl z (pre ++ [p]) 10 (k + 1) e' (by omega) (by omega) (by omega) ho2
        rw [hpl] at ih
        have hc : k + cnt (10 :: z) = k + 1 + cnt z := by rw [cnt, if_pos rfl]; omega
        rw [hc]
        have wk : IntKind.i64.wrap ((k : Int) + 1) = ((k : Int) + 1) := wrap_id (by omega) (by omega)
        have ek : ((k + 1 : Nat) : Int) = (k : Int) + 1 := by omega
        rw [ek] at ih
        exact .step hO hm (C1 r st m k (pre.length + 1) pre.length p) ⟨q1, ⟨rfl, g1⟩, rfl, ⟨rfl, g1⟩, rfl, rfl, q4, wj, gj, y1, wj, gj, y2, f4, ⟨rfl, g1⟩, rfl, wk, wi⟩ ih
end
theorem linesR_len (r : Rw) : (linesR r).length = countR r := by
  unfold linesR countR
  simp only [List.length_cons, List.length_append, List.length_map]
  omega
theorem asciiLines (r : Rw) (hd : ∀ x ∈ Def.defs r, x ≤ 9223372036854775807) (hu : ∀ x ∈ Def.uses r, x ≤ 9223372036854775807) : ICall Tryd.prog 8 [.d r.d] [] (.d (.bool true)) [] := by
  have hg := Law.great_ok r
  cases cg : Law.great r with
  | true => rw [cg] at hg; exact callX_ok hO hm (z0 r) ⟨hg, Tx.alive⟩
  | false =>
  rw [cg] at hg
  have h := Rq.sm_of cg hd hu
  have k1 := Ref.check h
  by_cases c1 : Cir.chkR r ≠ 0
  · exact callX_ok hO hm (z1 r (Cir.chkR r)) ⟨hg, k1, bne_iff_ne.2 c1, Tx.alive⟩
  have c1 := Decidable.not_not.1 c1
  rw [c1] at k1
  have a1 := Rq.araw h
  have a2 := Rq.alin h
  unfold Rq.rawT at a1
  unfold Rq.linN at a2
  rw [c1, if_pos rfl] at a1 a2
  have hT := tiny c1
  have hok := linesR_ok hT
  have es := rawS_lines r
  obtain ⟨y, hy⟩ := lines_last (linesR r) (by simp [linesR])
  have hhd : 14 ≤ (lineS (headR r)).length := by
    have hn : ∀ n ∈ headR r, 0 ≤ n := (hok (headR r) (by simp [linesR])).2
    unfold headR at hn ⊢
    rw [lineS_cons, List.length_append]
    have := rest_len _ (fun n hh => hn n (List.mem_cons_of_mem _ hh))
    have := List.length_pos_iff.2 (itoa_ne (hn r.most (by simp)))
    simp only [List.length_cons, List.length_nil] at *
    omega
  have hlen : 18 ≤ (rawS r).length := by
    rw [es]
    unfold linesR
    rw [List.flatMap_cons, List.length_append, List.length_append]
    have : aag.length = 4 := rfl
    omega
  have hmax : (rawS r).length ≤ 1000000000 := by
    have hl := hT.len
    have hl4 := hT.l4
    have hl5 := hT.l5
    rw [es, List.length_append]
    have h100 : ∀ a ∈ linesR r, (lineS a).length ≤ 200 := by
      intro a ha
      have h64 : ∀ n ∈ a, I64 n := by
        unfold linesR at ha
        rcases List.mem_cons.1 ha with rfl | ha
        · exact hT.head
        rcases List.mem_append.1 ha with ha | ha
        · obtain ⟨x, hx, rfl⟩ := List.mem_map.1 ha
          exact fun n hn => by rw [List.mem_singleton.1 hn]; exact i64_of (hT.ins x hx)
        rcases List.mem_append.1 ha with ha | ha
        · obtain ⟨d, hd, rfl⟩ := List.mem_map.1 ha
          exact (hT.lat hd).1
        rcases List.mem_append.1 ha with ha | ha
        · obtain ⟨x, hx, rfl⟩ := List.mem_map.1 ha
          exact fun n hn => by rw [List.mem_singleton.1 hn]; exact i64_of (hT.bads x hx)
        rcases List.mem_append.1 ha with ha | ha
        · obtain ⟨x, hx, rfl⟩ := List.mem_map.1 ha
          exact fun n hn => by rw [List.mem_singleton.1 hn]; exact i64_of (hT.cons x hx)
        · obtain ⟨d, hd, rfl⟩ := List.mem_map.1 ha
          exact hT.and hd
      have h7 : a.length ≤ 7 := by
        unfold linesR at ha
        rcases List.mem_cons.1 ha with rfl | ha
        · simp [headR]
        rcases List.mem_append.1 ha with ha | ha
        · obtain ⟨x, hx, rfl⟩ := List.mem_map.1 ha; simp
        rcases List.mem_append.1 ha with ha | ha
        · obtain ⟨d, hd, rfl⟩ := List.mem_map.1 ha; have := (hT.lat hd).2; omega
        rcases List.mem_append.1 ha with ha | ha
        · obtain ⟨x, hx, rfl⟩ := List.mem_map.1 ha; simp
        rcases List.mem_append.1 ha with ha | ha
        · obtain ⟨x, hx, rfl⟩ := List.mem_map.1 ha; simp
        · obtain ⟨d, hd, rfl⟩ := List.mem_map.1 ha; simp
      have := lineS_len a h64
      omega
    have hb : ∀ ls : List (List Int), (∀ a ∈ ls, (lineS a).length ≤ 200) → (ls.flatMap lineS).length ≤ 200 * ls.length := by
      intro ls
      induction ls with
      | nil => intro _; simp
      | cons a t ih =>
        intro hh
        rw [List.flatMap_cons, List.length_append, List.length_cons]
        have := hh a (by simp)
        have := ih fun b hb => hh b (by simp [hb])
        omega
    have := hb _ h100
    have e2 := linesR_len r
    unfold countR at e2
    have : aag.length = 4 := rfl
    omega
  have hscan := scan r (rawS r) (countR r) hmax ((linesR r).flatMap lineS) [97, 97, 103] 32 0 (by rw [es]; rfl) (by simp) (fun _ => rfl) (by simp) (okc_lines _ 32 hok)
  rw [Nat.zero_add, cnt_lines _ hok, linesR_len] at hscan
  have hlast : (rawS r)[(rawS r).length - 1]? = some 10 := by
    rw [es, hy, ← List.append_assoc]
    simp
  have hl := hT.len
  have hl4 := hT.l4
  have hl5 := hT.l5
  have htake : List.take 4 (List.drop 0 (rawS r)) = aag := by
    rw [List.drop_zero, es]; rfl
  refine callX_ok hO hm (z2 r (rawS r) (countR r) (countR r) ((rawS r).length - 1) 10) ⟨hg, k1, rfl, a1, a2, rfl, rfl, decide_eq_false (by omega), ⟨rfl, rfl, by omega, by omega⟩, by rw [htake]; rfl, hscan, wrap_id (by omega) (by omega), ⟨by omega, hlast⟩, rfl, by simp, ?_, ?_, ?_, ?_, ?_, ?_, Tx.alive⟩
  · rw [wrap_id (by simp only [List.length_map]; omega) (by simp only [List.length_map]; omega)]; omega
  · rw [wrap_id (by simp only [List.length_map]; omega) (by simp only [List.length_map]; omega)]; omega
  · rw [wrap_id (by simp only [List.length_map]; omega) (by simp only [List.length_map]; omega)]; omega
  · rw [wrap_id (by simp only [List.length_map]; omega) (by simp only [List.length_map]; omega)]; omega
  · rw [wrap_id (by simp only [List.length_map]; omega) (by simp only [List.length_map]; omega)]; omega
  · unfold countR; simp
end Go.Proofs.YtihbpbdmhiihnaaDoor.Sy.Lz
/- AsciiReset, whole. -/
namespace Go.Proofs.YtihbpbdmhiihnaaDoor.Sy.Rt
open Go Go.Proofs.YtihbpbdmhiihnaaDoor.Ab Go.Proofs.YtihbpbdmhiihnaaDoor.Sy Go.Proofs.YtihbpbdmhiihnaaDoor.Sy.Tx Go.Proofs.YtihbpbdmhiihnaaDoor.Pl Go.Proofs.YtihbpbdmhiihnaaDoor.Sy.Asc Go.Proofs.YtihbpbdmhiihnaaDoor.Sy.Lz
set_option maxRecDepth 1000000
set_option linter.unusedVariables false
set_option linter.unusedSimpArgs false
/-- With another reset of a latch. -/
def setC (c : Ci) (i : Nat) (x : Int) : Ci := { c with lats := c.lats.set i ⟨(c.lats.getD i default).next, x⟩ }
theorem mem_set {c : Ci} {i : Nat} {x : Int} (Q : Lt → Prop) (h : ∀ l ∈ c.lats, Q l) (hx : Q ⟨(c.lats.getD i default).next, x⟩) : ∀ l ∈ (setC c i x).lats, Q l := fun l hl => by
  rcases List.mem_or_eq_of_mem_set hl with h1 | rfl
  · exact h l h1
  · exact hx
theorem cw_set {c : Ci} (h : Cw c) {i : Nat} (hi : i < c.lats.length) (x : Int) : Cw (setC c i x) := by
  refine ⟨by show (c.lats.set _ _).length ≤ _; rw [List.length_set]; exact h.lats, h.ands, h.bads, h.cons, h.xb, h.xc, mem_set (fun l => l.next ≤ 9223372036854775807) h.xl ?_, h.xa, h.xd⟩
  exact h.xl (c.lats.getD i default) (mem_getD hi)
theorem chk_set {c : Ci} (h : Gates.chk c = 0) {i : Nat} (hi : i < c.lats.length) {x : Int} (hx : 0 ≤ x ∧ x ≤ 2) : Gates.chk (setC c i x) = 0 := by
  have e1 : st3 (setC c i x) = st3 c := by simp [st3, setC]
  have e2 : st2 (setC c i x) = st2 c := by simp [st2, setC]
  unfold Gates.chk at h ⊢
  rw [e1, e2]
  by_cases c1 : c.ins < 0
  · rw [if_pos c1] at h; cases h
  rw [if_neg c1] at h
  rw [if_neg (show ¬ (setC c i x).ins < 0 from c1)]
  by_cases c2 : c.ins > 1000
  · rw [if_pos c2] at h; cases h
  rw [if_neg c2] at h
  rw [if_neg (show ¬ (setC c i x).ins > 1000 from c2)]
  by_cases c3 : st3 c - 1 > 1000
  · rw [if_pos c3] at h; cases h
  rw [if_neg c3] at h
  rw [if_neg c3]
  by_cases c4 : (if ((c.cons.map I).length : Int) > ((c.bads.map I).length : Int) then ((c.cons.map I).length : Int) else ((c.bads.map I).length : Int)) > 100
  · rw [if_pos c4] at h; cases h
  rw [if_neg c4] at h
  rw [if_neg (show ¬ (if (((setC c i x).cons.map I).length : Int) > (((setC c i x).bads.map I).length : Int) then (((setC c i x).cons.map I).length : Int) else (((setC c i x).bads.map I).length : Int)) > 100 from c4)]
  by_cases c5 : (c.bads.any (outB (st3 c)) || (c.cons.any (outB (st3 c)) || c.lats.any (wrongB (st3 c)))) = true
  · rw [if_pos c5] at h; cases h
  rw [if_neg c5] at h
  rw [Bool.not_eq_true, Bool.or_eq_false_iff, Bool.or_eq_false_iff] at c5
  obtain ⟨d1, d2, d3⟩ := c5
  rw [any_false] at d3
  have d4 : (setC c i x).lats.any (wrongB (st3 c)) = false := by
    rw [any_false]
    refine mem_set (fun l => wrongB (st3 c) l = false) d3 ?_
    have := d3 _ (mem_getD hi)
    unfold wrongB at this ⊢
    rw [Bool.or_eq_false_iff] at this ⊢
    refine ⟨this.1, ?_⟩
    simp; omega
  rw [if_neg]
  · exact h
  · rw [d4]
    show ¬ (c.bads.any (outB (st3 c)) || (c.cons.any (outB (st3 c)) || false)) = true
    rw [d1, d2]; decide
theorem setC_d (c : Ci) (i : Nat) (x : Int) : (setC c i x).d = D.agg [D.int IntKind.i64 c.ins, D.sl ((List.map Lt.d c.lats).set i (D.agg ([I (c.lats.getD i default).next, I (c.lats.getD i default).reset].set 1 (D.int IntKind.i64 x)))), D.sl (List.map An.d c.ands), D.sl (List.map I c.bads), D.sl (List.map I c.cons)] := by
  show D.agg [D.int IntKind.i64 c.ins, D.sl (List.map Lt.d (c.lats.set i _)), D.sl (List.map An.d c.ands), D.sl (List.map I c.bads), D.sl (List.map I c.cons)] = _
  rw [List.map_set]; rfl
theorem latsL_set {c : Ci} {i : Nat} (hi : i < c.lats.length) (x : Int) : latsL (setC c i x) = (latsL c).take i ++ ⟨2 * (c.ins + (i : Int) + 1), (c.lats.getD i default).next, x⟩ :: (latsL c).drop (i + 1) := by
  have hl : (latsL c).length = c.lats.length := by simp [latsL]
  have e : latsL (setC c i x) = (latsL c).set i ⟨2 * (c.ins + (i : Int) + 1), (c.lats.getD i default).next, x⟩ := by
    refine List.ext_getElem (by simp [latsL, setC]) fun j h1 h2 => ?_
    have hj : j < c.lats.length := by rw [List.length_set, hl] at h2; exact h2
    rw [List.getElem_set]
    by_cases cj : i = j
    · subst cj
      rw [if_pos rfl]
      simp [latsL, setC, List.getD_eq_getElem?_getD, hi]
    · rw [if_neg cj]
      simp [latsL, setC, List.getD_eq_getElem?_getD, List.getElem?_set, cj]
  rw [e, List.set_eq_take_append_cons_drop, hl, if_pos hi]
theorem rawS_max {r : Rw} (hT : Tiny r) : (rawS r).length ≤ 1000000000 := by
  have hl := hT.len
  have hl4 := hT.l4
  have hl5 := hT.l5
  rw [rawS_lines r, List.length_append]
  have h100 : ∀ a ∈ linesR r, (lineS a).length ≤ 200 := by
    intro a ha
    have h64 : ∀ n ∈ a, I64 n := by
      unfold linesR at ha
      rcases List.mem_cons.1 ha with rfl | ha
      · exact hT.head
      rcases List.mem_append.1 ha with ha | ha
      · obtain ⟨x, hx, rfl⟩ := List.mem_map.1 ha
        exact fun n hn => by rw [List.mem_singleton.1 hn]; exact i64_of (hT.ins x hx)
      rcases List.mem_append.1 ha with ha | ha
      · obtain ⟨d, hd, rfl⟩ := List.mem_map.1 ha
        exact (hT.lat hd).1
      rcases List.mem_append.1 ha with ha | ha
      · obtain ⟨x, hx, rfl⟩ := List.mem_map.1 ha
        exact fun n hn => by rw [List.mem_singleton.1 hn]; exact i64_of (hT.bads x hx)
      rcases List.mem_append.1 ha with ha | ha
      · obtain ⟨x, hx, rfl⟩ := List.mem_map.1 ha
        exact fun n hn => by rw [List.mem_singleton.1 hn]; exact i64_of (hT.cons x hx)
      · obtain ⟨d, hd, rfl⟩ := List.mem_map.1 ha
        exact hT.and hd
    have h7 : a.length ≤ 7 := by
      unfold linesR at ha
      rcases List.mem_cons.1 ha with rfl | ha
      · simp [headR]
      rcases List.mem_append.1 ha with ha | ha
      · obtain ⟨x, hx, rfl⟩ := List.mem_map.1 ha; simp
      rcases List.mem_append.1 ha with ha | ha
      · obtain ⟨d, hd, rfl⟩ := List.mem_map.1 ha; have := (hT.lat hd).2; omega
      rcases List.mem_append.1 ha with ha | ha
      · obtain ⟨x, hx, rfl⟩ := List.mem_map.1 ha; simp
      rcases List.mem_append.1 ha with ha | ha
      · obtain ⟨x, hx, rfl⟩ := List.mem_map.1 ha; simp
      · obtain ⟨d, hd, rfl⟩ := List.mem_map.1 ha; simp
    have := lineS_len a h64
    omega
  have hb : ∀ ls : List (List Int), (∀ a ∈ ls, (lineS a).length ≤ 200) → (ls.flatMap lineS).length ≤ 200 * ls.length := by
    intro ls
    induction ls with
    | nil => intro _; simp
    | cons a t ih =>
      intro hh
      rw [List.flatMap_cons, List.length_append, List.length_cons]
      have := hh a (by simp)
      have := ih fun b hb => hh b (by simp [hb])
      omega
  have := hb _ h100
  have e2 := linesR_len r
  unfold countR at e2
  have : aag.length = 4 := rfl
  omega
theorem body2 (p q : Int) (h0 : 0 ≤ p) (h1 : 0 ≤ q) : Lz.cnt (body [] [p, q]) = 0 := by
  simp only [body, List.nil_append, List.append_nil, List.append_assoc, List.singleton_append]
  rw [cnt_append, cnt_dig _ (itoa_dig h0), Lz.cnt, if_neg (by decide), cnt_dig _ (itoa_dig h1)]
/-- The two texts. -/
theorem two {c : Ci} (h : Gates.chk c = 0) {i : Nat} (hi : i < c.lats.length) : ∃ a b, rawS (rawC (setC c i 0)) = a ++ 10 :: b ∧ rawS (rawC (setC c i 1)) = a ++ 32 :: 49 :: 10 :: b ∧ ((Lz.cnt a : Nat) : Int) = 1 + c.ins + i := by
  obtain ⟨i0, i1, i2⟩ := chk_ins h
  have hok := linesR_ok (tiny (chkR_rawC (chk_set h hi (x := 0) ⟨by omega, by omega⟩)))
  have hz : ∀ x, szC (setC c i x) = szC c := fun x => by simp [szC, setC]
  let lit : Int := 2 * (c.ins + (i : Int) + 1)
  let nx : Int := (c.lats.getD i default).next
  have hL : ∀ x, linesR (rawC (setC c i x)) = (headR (rawC (setC c i 0)) :: ((insL c.ins.toNat).map (fun x => [x]) ++ ((latsL c).take i).map latL)) ++ latL ⟨lit, nx, x⟩ :: (((latsL c).drop (i + 1)).map latL ++ (c.bads.map (fun x => [x]) ++ (c.cons.map (fun x => [x]) ++ (andsL c).map (fun d => [d.lit, d.a, d.b])))) := by
    intro x
    have e1 : (rawC (setC c i x)).lats = (latsL c).take i ++ ⟨lit, nx, x⟩ :: (latsL c).drop (i + 1) := latsL_set hi x
    have e2 : andsL (setC c i x) = andsL c := by simp [andsL, setC]
    have e3 : headR (rawC (setC c i x)) = headR (rawC (setC c i 0)) := by
      simp only [headR, rawC, hz]
      simp [latsL, andsL, setC]
    unfold linesR
    rw [e1, e3]
    show headR (rawC (setC c i 0)) :: ((insL c.ins.toNat).map (fun x => [x]) ++ (((latsL c).take i ++ ⟨lit, nx, x⟩ :: (latsL c).drop (i + 1)).map latL ++ (c.bads.map (fun x => [x]) ++ (c.cons.map (fun x => [x]) ++ (andsL (setC c i x)).map (fun d => [d.lit, d.a, d.b]))))) = _
    rw [e2]
    simp only [List.map_append, List.map_cons, List.append_assoc, List.cons_append]
  have l0 : latL ⟨lit, nx, 0⟩ = [lit, nx] := rfl
  have l1 : latL ⟨lit, nx, 1⟩ = [lit, nx, 1] := rfl
  rw [hL 0] at hok
  have hmid := hok (latL ⟨lit, nx, 0⟩) (by simp)
  rw [l0] at hmid
  have p0 : 0 ≤ lit := hmid.2 lit (by simp)
  have p1 : 0 ≤ nx := hmid.2 nx (by simp)
  refine ⟨aag ++ (headR (rawC (setC c i 0)) :: ((insL c.ins.toNat).map (fun x => [x]) ++ ((latsL c).take i).map latL)).flatMap lineS ++ body [] [lit, nx], (((latsL c).drop (i + 1)).map latL ++ (c.bads.map (fun x => [x]) ++ (c.cons.map (fun x => [x]) ++ (andsL c).map (fun d => [d.lit, d.a, d.b])))).flatMap lineS, ?_, ?_, ?_⟩
  · rw [rawS_lines, hL 0, l0, List.flatMap_append, List.flatMap_cons (x := [lit, nx])]
    simp only [lineS, List.append_assoc, List.singleton_append]
  · rw [rawS_lines, hL 1, l1, List.flatMap_append, List.flatMap_cons (x := [lit, nx, 1])]
    have e : body [] [lit, nx, 1] = body [] [lit, nx] ++ [32, 49] := by
      have : Lib.itoa 1 = [49] := it_d 1 (by decide)
      simp only [body, List.nil_append, List.append_nil, List.append_assoc, List.singleton_append, this]
    rw [show lineS [lit, nx, 1] = body [] [lit, nx, 1] ++ [10] from rfl, e]
    simp only [List.append_assoc, List.singleton_append, List.cons_append, List.nil_append]
  · rw [cnt_append, cnt_append, body2 _ _ p0 p1, cnt_lines _ (fun a ha => hok a (List.mem_append_left _ ha))]
    have : Lz.cnt aag = 0 := rfl
    rw [this]
    simp [insL, latsL]
    omega
section
variable (c : Ci) (n : Int) (y : Lt) (st st2 : List UInt8)
theorem scanR (hl : st.length ≤ 1000000000) (h0 : 0 ≤ c.ins ∧ c.ins ≤ 1000) (hn : 0 ≤ n ∧ n ≤ 1000) (post : List UInt8) : ∀ (z pre : List UInt8), st = pre ++ (z ++ 10 :: post) → ((Lz.cnt pre : Nat) : Int) + ((Lz.cnt z : Nat) : Int) = 1 + c.ins + n →
    GoesL Tryd.prog (loopOf Tryd.prog 7 0) (Hr c n y st st2 ((Lz.cnt pre : Nat) : Int) (-1) pre.length) (.exit 0) (Er c n y st st2 ((pre.length + z.length : Nat) : Int))
  | [], pre, e, hk => by
    have hle : st.length = pre.length + (post.length + 1) := by rw [e]; simp
    have g1 : st[pre.length]? = some 10 := by rw [e, List.getElem?_append_right (Nat.le_refl _)]; simp
    have e0 : ((Lz.cnt ([] : List UInt8) : Nat) : Int) = 0 := rfl
    rw [e0] at hk
    refine .step hO hm (r1 c n (-1) ((Lz.cnt pre : Nat) : Int) pre.length 10 st st2 y) ⟨decide_eq_true (by omega), rfl, ⟨rfl, g1⟩, rfl, wrap_id (by omega) (by omega), wrap_id (by omega) (by omega), by simp; omega, wrap_id (by omega) (by omega), wrap_succ (by omega)⟩ ?_
    by_cases c1 : pre.length + 1 < st.length
    · exact .stop hO hm (r4 c n _ _ (pre.length + 1) st st2 y) (by simp) ⟨decide_eq_true (by omega), decide_eq_false (by omega)⟩
    · exact .stop hO hm (r5 c n _ _ (pre.length + 1) st st2 y) (by simp) (decide_eq_false (by omega))
  | u :: z, pre, e, hk => by
    have hle : st.length = pre.length + (z.length + 1 + (post.length + 1)) := by rw [e]; simp; omega
    have g1 : st[pre.length]? = some u := by rw [e, List.getElem?_append_right (Nat.le_refl _)]; simp
    have e' : st = (pre ++ [u]) ++ (z ++ 10 :: post) := by rw [e]; simp
    have q1 : decide ((pre.length : Int) < (st.length : Int)) = true := decide_eq_true (by omega)
    have wi : IntKind.i64.wrap ((pre.length : Int) + 1) = ((pre.length + 1 : Nat) : Int) := wrap_succ (by omega)
    have hpl : (pre ++ [u]).length = pre.length + 1 := by simp
    have hzl : pre.length + (u :: z).length = pre.length + 1 + z.length := by simp; omega
    rw [hzl]
    by_cases cu : u = 10
    · subst cu
      have ec : Lz.cnt (pre ++ [10]) = Lz.cnt pre + 1 := by rw [cnt_append]; rfl
      have ez : Lz.cnt (10 :: z) = 1 + Lz.cnt z := rfl
      rw [ez] at hk
      have ih := scanR hl h0 hn post z (pre ++ [10]) e' (by rw [ec]; omega)
      rw [hpl, ec, show ((Lz.cnt pre + 1 : Nat) : Int) = ((Lz.cnt pre : Nat) : Int) + 1 by omega] at ih
      exact .step hO hm (r2 c n (-1) ((Lz.cnt pre : Nat) : Int) pre.length 10 st st2 y) ⟨q1, rfl, ⟨rfl, g1⟩, rfl, wrap_id (by omega) (by omega), wrap_id (by omega) (by omega), by simp; omega, wrap_id (by omega) (by omega), wi⟩ ih
    · have ec : Lz.cnt (pre ++ [u]) = Lz.cnt pre := by rw [cnt_append, Lz.cnt, if_neg cu]; rfl
      have ez : Lz.cnt (u :: z) = Lz.cnt z := by rw [Lz.cnt, if_neg cu, Nat.zero_add]
      rw [ez] at hk
      have ih := scanR hl h0 hn post z (pre ++ [u]) e' (by rw [ec]; omega)
      rw [hpl, ec] at ih
      have un : u.toNat ≠ 10 := fun hc => cu (UInt8.toNat_inj.1 hc)
      exact .step hO hm (r3 c n (-1) ((Lz.cnt pre : Nat) : Int) pre.length u st st2 y) ⟨q1, rfl, ⟨rfl, g1⟩, by simp; omega, wi⟩ ih
end
theorem asciiReset (c : Ci) (n : Int) (hx : Cx c) : ICall Tryd.prog 7 [.d c.d, .d (I n)] [] (.d (.bool true)) [] := by
  have hg := great2_ok c
  cases cg : great2 c with
  | true => rw [cg] at hg; exact callX_ok hO hm (y0 c n) ⟨hg, alive⟩
  | false =>
  rw [cg] at hg
  have h := cw_of cg hx
  have k1 := check h
  by_cases c1 : Gates.chk c ≠ 0
  · exact callX_ok hO hm (Rt.y1 c n (Gates.chk c)) ⟨hg, k1, bne_iff_ne.2 c1, alive⟩
  have c1 := Decidable.not_not.1 c1
  rw [c1] at k1
  by_cases c2 : n < 0
  · exact callX_ok hO hm (y2 c n) ⟨hg, k1, rfl, decide_eq_true c2, alive⟩
  by_cases c3 : n ≥ ((c.lats.map Lt.d).length : Int)
  · exact callX_ok hO hm (Rt.y3 c n) ⟨hg, k1, rfl, decide_eq_false c2, decide_eq_true c3, alive⟩
  rw [List.length_map] at c3
  have hi : n.toNat < c.lats.length := by omega
  obtain ⟨i0, i1, i2⟩ := chk_ins c1
  have hn : n = (n.toNat : Int) := by omega
  have k0 := chk_set c1 hi (x := 0) ⟨by omega, by omega⟩
  have kk := chk_set c1 hi (x := 1) ⟨by omega, by omega⟩
  have t0 := text (cw_set h hi 0)
  have t1 := text (cw_set h hi 1)
  unfold txtS txtE Rq.rawT at t0 t1
  rw [if_pos k0, if_pos k0, chkR_rawC k0, if_pos rfl, setC_d] at t0
  rw [if_pos kk, if_pos kk, chkR_rawC kk, if_pos rfl, setC_d] at t1
  obtain ⟨a, b, e0, e1, ek⟩ := two c1 hi
  have hmax := rawS_max (tiny (chkR_rawC k0))
  generalize hs0 : rawS (rawC (setC c n.toNat 0)) = st at *
  generalize hs1 : rawS (rawC (setC c n.toNat 1)) = st2 at *
  have hl := h.lats
  have l1000 : c.lats.length ≤ 1000 := by unfold szC at i2; omega
  have hscan := scanR c n (c.lats.getD n.toNat default) st st2 hmax ⟨i0, by omega⟩ ⟨by omega, by omega⟩ b a [] e0 (by
    have : ((Lz.cnt ([] : List UInt8) : Nat) : Int) = 0 := rfl
    rw [this]; omega)
  have hle : st.length = a.length + (b.length + 1) := by rw [e0]; simp
  have htw := callX_ok hO hm (twc c) ⟨by intro y hy; obtain ⟨l, -, rfl⟩ := List.mem_map.1 hy; rfl, m100 _ (by rw [List.length_map]; have := h.lats; omega), by intro y hy; obtain ⟨l, -, rfl⟩ := List.mem_map.1 hy; rfl, m100 _ (by rw [List.length_map]; have := h.ands; omega), LInt.sz _, m100 _ (by rw [List.length_map]; have := h.bads; omega), LInt.sz _, m100 _ (by rw [List.length_map]; have := h.cons; omega)⟩
  have hel : (c.lats.map Lt.d)[n.toNat]? = some (D.agg [I (c.lats.getD n.toNat default).next, I (c.lats.getD n.toNat default).reset]) := get_map Lt.d c.lats n.toNat hi
  have hin : n = (n.toNat : Int) ∧ n.toNat < (c.lats.map Lt.d).length := ⟨hn, by rw [List.length_map]; exact hi⟩
  have ht : List.take (a.length - 0) (List.drop 0 st) = a := by rw [e0]; simp
  have hd : List.take (st.length - a.length) (List.drop a.length st) = 10 :: b := by
    rw [List.take_of_length_le (by rw [List.length_drop]; omega), e0]; simp
  refine callX_ok hO hm (yes c n ((([] : List UInt8).length + a.length : Nat) : Int) a.length n.toNat st st2 (c.lats.getD n.toNat default)) ⟨hg, k1, rfl, decide_eq_false c2, decide_eq_false (by rw [List.length_map]; omega), htw, htw, hin, hel, hin, hel, ⟨t0, .inr rfl⟩, ⟨t1, .inr rfl⟩, rfl, rfl, wrap_id (by omega) (by omega), ?_, hscan, decide_eq_true (by omega), ⟨rfl, by simp, by omega, by omega⟩, ?_, ⟨by simp, rfl, by omega, Nat.le_refl _⟩, ?_, ?_, alive⟩
  · rw [e1, hle]; simp; omega
  · rw [ht]; omega
  · rw [ht, hd]
    show (a ++ [32, 49] : List UInt8).length + (10 :: b).length < _
    simp only [List.length_append, List.length_cons, List.length_nil]; omega
  · rw [ht, hd, e1]
    have : (ByteArray.mk #[32, 49]).data.toList = [32, 49] := rfl
    rw [this]; simp
end Go.Proofs.YtihbpbdmhiihnaaDoor.Sy.Rt
/- The row of AsciiReset. -/
namespace Go.Proofs.YtihbpbdmhiihnaaDoor.asciiReset
open Go.ChangeShapes Go.WideShapes Go.ChangeAt Go.RowKit Go.Proofs.YtihbpbdmhiihnaaDoor.Ab Go.Proofs.YtihbpbdmhiihnaaDoor.Sy Go.Proofs.YtihbpbdmhiihnaaDoor.Lk
set_option linter.unusedVariables false
theorem calls (W : World) (hG : GOk W (Old W)) (r0 : Ci) (r1 : Int) (v0 : Value) (v1 : Value) (k0 : okC r0) (k1 : okI r1) (h0 : DRel W (Old W) r0.d v0) (h1 : DRel W (Old W) (.int .i64 r1) v1) :
    Calls Tryd.prog 7 #[v0, v1] W (fun e W' => e = .returned (.bool true) ∧ Below W.heap.size W W') := by
  have h := Sy.Rt.asciiReset r0 r1 (cx_of k0) W (Old W) [] [v0, v1] (srel_nil (fun _ h => h) hG) ⟨h0, h1, trivial⟩
  refine h.mono fun e W' ⟨x, μ', Pr', he, _, hx, hev, _⟩ => ?_
  obtain rfl : x = .bool true := Ab.drel_bool (show Ab.DRel W' Pr' (.bool true) x from hx)
  exact ⟨he, hev.os, hev.tape, hev.output, hev.size, fun k hk => hev.block k hk (by simp [Ab.owns])⟩
set_option maxRecDepth 100000 in
theorem lifted (os : Os) (started : os.Started) (H : Type) (enc : TypeId × Value → H) :
    ReturnsInHanded {} Tryd.checked os 7 .any (fun w args => (Rows.asciiResetSpec.pre enc Tryd.prog Tryd.f7 Rows.asciiResetRow.domain false w args ∧ laidMetH Tryd.prog Rows.asciiResetRow.laid w) ∧ sizedMet enc Tryd.prog Tryd.f7 (OpenSpec.ofChange Rows.asciiResetSpec) false w args)
      (Rows.asciiResetSpec.post enc Tryd.prog Tryd.f7 false true false false) := by
  refine returnsInHanded_of_change_and (C := Tryd.checked) (X := fun w _ => laidMetH Tryd.prog Rows.asciiResetRow.laid w) (fun _ _ _ hh h => h.of_heap hh) own started (by kernel_rfl) Tryd.func7
    (ChangeSpec.witness_shaped (enc := enc) (C := Tryd.checked) (os := os) (X := fun w _ => laidMetH Tryd.prog Rows.asciiResetRow.laid w) false (World.laidAll Tryd.prog os Rows.asciiResetRow.laid) #[.agg #[.int .i64 0, .slice none 0 0, .slice none 0 0, .slice none 0 0, .slice none 0 0], .int .i64 0] 8 (World.laidAll_os _ _ _)
      (World.shaped_of_ZipB (by kernel_rfl) (by kernel_rfl)) (by kernel_rfl) (by kernel_rfl) (by kernel_rfl)
      (by rw [MakeChecks.laidMetH_plain _ _ _ (by kernel_rfl)]; exact laidMet_laidAll _ (by kernel_rfl) (by kernel_rfl))) ?_
  intro W base args ds gs before hval0 hW hcnd _ hL _
  have hval : ∀ (j : Nat) t v, Tryd.f7.params[j]? = some t → args[j]? = some v → Value.okWide Tryd.prog W .any base t v := hval0
  have hW' := hW
  obtain ⟨p, q, hA0, hV, rfl, hfz, hnd⟩ := hW
  have hA : DataW.TrodAll enc Tryd.prog W 0 (fun _ => true) true Tryd.f7.params.toList args.toList ds p := hA0
  rw [Tryd.params7] at hA hval
  obtain ⟨v0, vs0, d0, ds0, p0, q0, hargs0, rfl, rfl, h0, r0⟩ := trodAll_cons hA
  obtain ⟨v1, vs1, d1, ds1, p1, q1, hargs1, rfl, rfl, h1, r1⟩ := trodAll_cons r0
  obtain ⟨rfl, rfl, rfl⟩ := trodAll_nil r1
  obtain rfl : args = #[v0, v1] := by cases args; simp_all
  obtain ⟨rfl, rfl⟩ := trodVars_none hV
  have k0 := h0
  have lt0 : ∀ x ∈ p0, x.block < W.heap.size := by obtain ⟨m, hm⟩ := k0; exact DataW.trod_lt m _ _ _ hm
  obtain ⟨a0, ok0, g0⟩ := drel_struct Tryd.underlying41 opC (hval 0 41 v0 rfl rfl) h0
  have k1 := h1
  have lt1 : ∀ x ∈ p1, x.block < W.heap.size := by obtain ⟨m, hm⟩ := k1; exact DataW.trod_lt m _ _ _ hm
  obtain ⟨a1, rfl, rfl, rfl, ok1⟩ := open_int Tryd.underlying3 (hval 1 3 v1 rfl rfl) h1
  clear hA0 hval0
  refine (calls W (gok hL) a0 a1 _ _ ok0 ok1 g0 (.int _ _)).mono fun e W' ⟨he, bel⟩ => ?_
  subst he
  exact ⟨_, rfl, _, _, _, [], _, [], hW', trodAll_mk1 (shut_bool Tryd.underlying4 _), (trodAll_cons_mk (Below.trod laidOut (by kernel_rfl) (of_decide_eq_true (by kernel_rfl)) k0 bel lt0) (trodAll_cons_mk (Below.trod laidOut (by kernel_rfl) (of_decide_eq_true (by kernel_rfl)) k1 bel lt1) trodAll_mk0)), rfl, bel.frame _, fun h => by cases h⟩
theorem over : Rows.asciiResetRow.holds Tryd.pinned (OpenSpec.ofChange Rows.asciiResetSpec) :=
  OpenClaim.holds_of_wide 7 Tryd.f7 rfl rfl rfl rfl rfl rfl rfl ⟨rfl, rfl, rfl, rfl, rfl⟩ rfl rfl rfl rfl rfl (by kernel_rfl) Tryd.func7 (by kernel_rfl)
    (of_decide_eq_true (by kernel_rfl)) (by unfold Func.isWrapper; first | (rw [if_pos (by decide +kernel)]; kernel_rfl) | (rw [if_neg (by decide +kernel)]; exact ⟨rfl, rfl⟩))
    (fun os started H enc _ => lifted os started H enc)
theorem card : Rows.AsciiResetCardSaid :=
  Claim7.holds_tied_plain_at .later [] [.data, .data, .data] true (true, "c136b6ce96892a5fbb406ffda3834694272a3b7048d92624374dc243a7d4ab05") true
    over (fun _ h => by cases h) (by kernel_rfl) (fun _ h => by cases h) asciiReset_row_tie rfl ⟨rfl, rfl⟩ (by kernel_rfl) rfl
    (fun f fn hf hfn => by
      obtain rfl : f = 7 := Option.some.inj ((show Tryd.prog.funcNamed "spiritlevel/spiritlevellaw07.AsciiReset" = some 7 by kernel_rfl).symm.trans hf) |>.symm
      obtain rfl : fn = Tryd.f7 := (Option.some.inj (Tryd.func7.symm.trans hfn)).symm
      exact ⟨by kernel_rfl, fun j t ht => by
        rw [Tryd.params7] at ht
        have hm : t ∈ [41, 3] := by simpa using Array.mem_of_getElem? ht
        have hall : ([41, 3].all fun u => !Tryd.prog.wantsStandIn u) = true := by kernel_rfl
        exact (show Tryd.prog.wantsStandIn t = false by simpa using List.all_eq_true.1 hall t hm)⟩)
    (by kernel_rfl)
end Go.Proofs.YtihbpbdmhiihnaaDoor.asciiReset
namespace Go.Proofs.YtihbpbdmhiihnaaDoor
/-- The card, under a short name, for the claim. -/
theorem asciiReset_holds : Rows.AsciiResetCardSaid := asciiReset.card
end Go.Proofs.YtihbpbdmhiihnaaDoor
