/- The row of AsciiRaws. -/
import Derived.Test.YtihbpbdmhiihnaaDoorRaE
import Derived.Test.YtihbpbdmhiihnaaDoorRaC
import Derived.Test.YtihbpbdmhiihnaaDoorRows
import Derived.Test.YtihbpbdmhiihnaaDoorCards
import Derived.Test.YtihbpbdmhiihnaaDoorTie
import Derived.Test.YtihbpbdmhiihnaaDoorRaD
import Derived.SevenTiedAt
import Derived.Stop.Joined
/- ref07: Digits, Line, Written, Raw, Lines, whole. -/
namespace Go.Proofs.YtihbpbdmhiihnaaDoor.Sy.R7
open Go Go.Proofs.YtihbpbdmhiihnaaDoor.Ab Go.Proofs.YtihbpbdmhiihnaaDoor.Sy Go.Proofs.YtihbpbdmhiihnaaDoor.Pl Go.Proofs.YtihbpbdmhiihnaaDoor.Sy.Asc
set_option maxRecDepth 1000000
set_option linter.unusedVariables false
theorem dig (k : Nat) (h : k < 10) : [D.int IntKind.u8 (48 + (k : Int))] = List.map u8 [UInt8.ofNat (48 + k)] := by
  have : (UInt8.ofNat (48 + k)).toNat = 48 + k := by rw [UInt8.toNat_ofNat']; omega
  simp only [List.map_cons, List.map_nil, u8, this]
  rfl
theorem w8 (k : Nat) (h : k < 10) : IntKind.u8.wrap (48 + (k : Int)) = 48 + (k : Int) := by
  rw [IntKind.wrap_u8]; omega
theorem digits_loop (m : Nat) : ∀ (n : Nat) (s : List UInt8), n ≤ m → n ≤ 1000000000000000000 → s.length + n ≤ 2000000000000000000 →
    ∃ (k : Nat) (s' : List UInt8), GoesL Tryd.prog (loopOf Tryd.prog 65 0) (Hg n s) (.exit 0) (Hg k s') ∧ k < 10 ∧ UInt8.ofNat (48 + k) :: s' = Lib.decDigits n ++ s ∧ s'.length ≤ 2000000000000000000 := by
  induction m with
  | zero =>
    intro n s hn _ hs
    obtain rfl : n = 0 := by omega
    refine ⟨0, s, .stop hO hm (g2 s (0 : Nat)) (by simp) rfl, by omega, ?_, by omega⟩
    rw [Lib.decDigits, dif_pos (by omega)]; rfl
  | succ m ih =>
    intro n s hn hb hs
    by_cases h : n < 10
    · refine ⟨n, s, .stop hO hm (g2 s n) (by simp) (decide_eq_false (by omega)), h, ?_, by omega⟩
      rw [Lib.decDigits, dif_pos h]; rfl
    · obtain ⟨k, s', h1, h2, h3, h4⟩ := ih (n / 10) (UInt8.ofNat (48 + n % 10) :: s) (by omega) (by omega) (by rw [List.length_cons]; omega)
      refine ⟨k, s', ?_, h2, ?_, h4⟩
      · have e1 : (n : Int) % 10 = ((n % 10 : Nat) : Int) := by omega
        have e2 : (n : Int) / 10 = ((n / 10 : Nat) : Int) := by omega
        refine .step hO hm (g1 s n (UInt8.ofNat (48 + n % 10))) ⟨decide_eq_true (by omega), by rw [Int.tmod_eq_emod_of_nonneg (by omega)], by rw [wrap_id (by omega) (by omega)], by rw [e1]; exact w8 _ (by omega), by rw [e1]; exact dig _ (by omega), by simp; omega, ?_⟩ (by rw [e2]; exact h1)
        show IntKind.i64.wrap _ = _
        rw [Int.tdiv_eq_ediv_of_nonneg (by omega), wrap_id (by omega) (by omega)]
      · rw [h3, Lib.decDigits.eq_def n, dif_neg h, List.append_assoc]; rfl
theorem digits (n : Int) (h0 : 0 ≤ n) (h1 : n ≤ 1000000000000000000) : ICall Tryd.prog 65 [.d (I n)] [] (.d (.str (Lib.itoa n))) [] := by
  obtain ⟨m, rfl⟩ := Int.eq_ofNat_of_zero_le h0
  obtain ⟨k, s', g1', g2', g3', g4'⟩ := digits_loop m m [] (Nat.le_refl _) (by omega) (by simp; omega)
  have := callX_ok hO hm (g3 s' (k : Int) (m : Int) (UInt8.ofNat (48 + k))) ⟨g1', by rw [wrap_id (by omega) (by omega)], w8 k g2', dig k g2', by show ([UInt8.ofNat (48 + k)] : List UInt8).length + s'.length < 4611686018427387904; simp; omega⟩
  rw [g3', List.append_nil] at this
  have e : Lib.itoa ((m : Nat) : Int) = Lib.decDigits m := by unfold Lib.itoa; rw [if_neg (by omega)]; simp
  rw [e]; exact this
/-- A number that a text holds. -/
def Pos (n : Int) : Prop := 0 ≤ n ∧ n ≤ 1000000000000000000
theorem pos64 {n : Int} (h : Pos n) : I64 n := ⟨by have := h.1; omega, by have := h.2; omega⟩
theorem line_loop (ns : List Int) (hn : ∀ n ∈ ns, Pos n) (hl : ns.length ≤ 100000) (d : Nat) : ∀ (i : Nat) (s : List UInt8), ns.length - i = d → i ≤ ns.length → s.length ≤ 22 * i →
    GoesL Tryd.prog (loopOf Tryd.prog 52 0) (Hn ns s i) (.exit 0) (En (s ++ body (if i = 0 then [] else [32]) (ns.drop i))) := by
  induction d with
  | zero =>
    intro i s hd hi hs
    obtain rfl : i = ns.length := by omega
    rw [List.drop_length, body, List.append_nil]
    exact .stop hO hm (n3 s ns.length ns) (by simp) (decide_eq_false (by rw [List.length_map]; omega))
  | succ d ih =>
    intro i s hd hi hs
    have hlt : i < ns.length := by omega
    have hmem : ns.getD i default ∈ ns := by rw [List.getD_eq_getElem?_getD, List.getElem?_eq_getElem hlt]; exact List.getElem_mem hlt
    obtain ⟨p0, p1⟩ := hn _ hmem
    have h1 := Lib.itoa_length_le (ns.getD i default) (by omega) (by omega)
    have hd1 := digits _ p0 p1
    rw [drop_getD ns i hlt, body]
    by_cases hz : i = 0
    · subst hz
      rw [if_pos rfl, List.nil_append, ← List.append_assoc]
      have := ih 1 (s ++ Lib.itoa (ns.getD 0 default)) (by omega) (by omega) (by rw [List.length_append]; omega)
      rw [if_neg (by omega)] at this
      exact .step hO hm (n2 s (Lib.itoa (ns.getD 0 default)) 0 ns) ⟨decide_eq_true (by rw [List.length_map]; omega), rfl, ⟨rfl, get_map I ns 0 hlt⟩, hd1, by omega, wrap_succ (by omega)⟩ this
    · rw [if_neg hz, ← List.append_assoc, ← List.append_assoc]
      have := ih (i + 1) (s ++ [32] ++ Lib.itoa (ns.getD i default)) (by omega) (by omega) (by rw [List.length_append, List.length_append, List.length_singleton]; omega)
      rw [if_neg (by omega)] at this
      exact .step hO hm (n1 s (Lib.itoa (ns.getD i default)) i ns) ⟨decide_eq_true (by rw [List.length_map]; omega), decide_eq_true (by omega), by omega, ⟨rfl, get_map I ns i hlt⟩, hd1, by
        show (s ++ [32]).length + _ < _
        rw [List.length_append, List.length_singleton]; omega, wrap_succ (by omega)⟩ this
theorem line (ns : List Int) (hn : ∀ n ∈ ns, Pos n) (hl : ns.length ≤ 100000) : ICall Tryd.prog 52 [.d (L ns)] [] (.d (.str (lineS ns))) [] := by
  have h := line_loop ns hn hl ns.length 0 [] (by omega) (by omega) (by simp)
  rw [List.drop_zero, if_pos rfl, List.nil_append] at h
  have hb := body_len ns [] (fun n hx => pos64 (hn n hx)) (by simp)
  exact callX_ok hO hm (n4 (body [] ns) ns) ⟨h, by show (body [] ns).length + 1 < _; omega⟩
theorem pos_of {x : Int} (h : 0 ≤ x ∧ x ≤ 2001) : Pos x := ⟨h.1, by omega⟩
theorem resets {r : Rw} (h : Cir.chkR r = 0) : ∀ d ∈ r.lats, d.b = 0 ∨ d.b = 1 ∨ d.b = 2 := by
  intro d hd
  have h : chkS r.most r.ins r.lats r.ands r.bads r.cons = 0 := h
  unfold chkS at h
  by_cases c0 : r.most < 0
  · rw [if_pos c0] at h; cases h
  rw [if_neg c0] at h
  by_cases c1 : manyP r.most r.ins r.lats r.ands r.bads r.cons
  · rw [if_pos c1] at h; cases h
  rw [if_neg c1] at h
  by_cases c2 : badAny r.most r.ins r.lats r.ands r.bads r.cons = true
  · rw [if_pos c2] at h; cases h
  unfold badAny at c2
  rw [Bool.or_eq_true, not_or] at c2
  have : ¬ badRe d = true := fun c => c2.2 (List.any_eq_true.2 ⟨d, hd, c⟩)
  unfold badRe at this
  simp at this
  omega
theorem b00 : ((0 : Int) == 0) = true := rfl
theorem b10 : ¬ ((1 : Int) == 0) = true := by decide
theorem b11 : ((1 : Int) == 1) = true := rfl
theorem b20 : ¬ ((2 : Int) == 0) = true := by decide
theorem b21 : ¬ ((2 : Int) == 1) = true := by decide
section
variable {r : Rw}
theorem written (hc : Cir.chkR r = 0) : ICall Tryd.prog 28 [.d r.d] [] (.d (.str (rawS r))) [] := by
  have hT := tiny hc
  have hR := resets hc
  have hlen := hT.len
  have hl4 := hT.l4
  have hl5 := hT.l5
  have hhead : ∀ n ∈ headR r, Pos n := by
    have := hT.m
    intro n hn
    simp only [headR, List.mem_cons, List.not_mem_nil, or_false] at hn
    unfold Pos
    rcases hn with rfl | rfl | rfl | rfl | rfl | rfl | rfl <;> omega
  have hh := lineS_len (headR r) hT.head
  have hh' : (lineS (headR r)).length ≤ 155 := by simpa [headR] using hh
  have haag : aag.length = 4 := rfl
  have f1 : ∀ x ∈ r.ins, (lineS [x]).length ≤ 100 := fun x hx => line100 _ (fun n hn => by rw [List.mem_singleton.1 hn]; exact i64_of (hT.ins x hx)) (by simp)
  have f2 : ∀ d ∈ r.lats, (lineS (latL d)).length ≤ 100 := fun d hd => line100 _ (hT.lat hd).1 (hT.lat hd).2
  have f3 : ∀ x ∈ r.bads, (lineS [x]).length ≤ 100 := fun x hx => line100 _ (fun n hn => by rw [List.mem_singleton.1 hn]; exact i64_of (hT.bads x hx)) (by simp)
  have f4 : ∀ x ∈ r.cons, (lineS [x]).length ≤ 100 := fun x hx => line100 _ (fun n hn => by rw [List.mem_singleton.1 hn]; exact i64_of (hT.cons x hx)) (by simp)
  have f5 : ∀ d ∈ r.ands, (lineS [d.lit, d.a, d.b]).length ≤ 100 := fun d hd => line100 _ (hT.and hd) (by simp)
  have g1 := flat_len r.ins _ f1
  have g2 := flat_len r.lats _ f2
  have g3 := flat_len r.bads _ f3
  have g4 := flat_len r.cons _ f4
  have g5 := flat_len r.ands _ f5
  have one : ∀ x, 0 ≤ x ∧ x ≤ 2001 → (∀ n ∈ [x], Pos n) ∧ (lineS [x]).length ≤ 100 := fun x hx => ⟨fun n hn => by rw [List.mem_singleton.1 hn]; exact pos_of hx, line100 _ (fun n hn => by rw [List.mem_singleton.1 hn]; exact i64_of hx) (by simp)⟩
  have e1 := str_loop r.ins (fun i l => Hw r l [(4, .d (I i))]) (.exit 0) (fun l => Hw r l []) (fun x => lineS [x]) 1000 f1
    (fun i l hi hmem hl e s h' => .step hO hm (a1 r l _ i) ⟨decide_eq_true (by rw [List.length_map]; omega), ⟨rfl, get_map I r.ins i hi⟩, line [r.ins.getD i default] (one _ (hT.ins _ hmem)).1 (by simp), by have := (one _ (hT.ins _ hmem)).2; omega, wrap_succ (by omega)⟩ h')
    (fun l _ => .stop hO hm (a2 r l r.ins.length) (by simp) (decide_eq_false (by rw [List.length_map]; omega)))
    (aag ++ lineS (headR r)) (by rw [List.length_append]; omega)
  have e2 := str_loop r.lats (fun i l => Hw r l [(5, .d (I i))]) (.exit 2) (fun l => Hw r l []) (fun d => lineS (latL d)) 200000 f2
    (fun i l hi hmem hl e s h' => by
      obtain ⟨p1, p2⟩ := hT.lats _ hmem
      have hb := hR _ hmem
      have hlen2 := f2 _ hmem
      have hL := line (latL (r.lats.getD i default)) (fun n hn => by
        have h64 := (hT.lat hmem).1 n hn
        unfold latL at hn
        split at hn
        · simp at hn; rcases hn with rfl | rfl; exact pos_of p1; exact pos_of p2
        · split at hn
          · simp at hn; rcases hn with rfl | rfl | rfl; exact pos_of p1; exact pos_of p2; exact ⟨by omega, by omega⟩
          · simp at hn; rcases hn with rfl | rfl | rfl; exact pos_of p1; exact pos_of p2; exact pos_of p1) (by have := (hT.lat hmem).2; omega)
      have q0 : decide ((i : Int) < (((r.lats.map Df.d).length : Nat) : Int)) = true := decide_eq_true (by rw [List.length_map]; omega)
      have q1 := get_map Df.d r.lats i hi
      unfold latL at hL h' hlen2
      rcases hb with hb | hb | hb
      · rw [hb, if_pos b00] at hL h' hlen2
        exact .step hO hm (b3 r l _ i) ⟨q0, ⟨rfl, q1⟩, by rw [hb]; rfl, by rw [hb]; rfl, ⟨hL, .inr rfl⟩, by omega, wrap_succ (by omega)⟩ h'
      · rw [hb, if_neg b10, if_pos b11] at hL h' hlen2
        exact .step hO hm (b1 r l _ i) ⟨q0, ⟨rfl, q1⟩, by rw [hb]; rfl, by simp [maxItems], by rw [hb]; rfl, ⟨hL, .inr rfl⟩, by omega, wrap_succ (by omega)⟩ h'
      · rw [hb, if_neg b20, if_neg b21] at hL h' hlen2
        exact .step hO hm (b2 r l _ i) ⟨q0, ⟨rfl, q1⟩, by rw [hb]; rfl, by rw [hb]; rfl, by simp [maxItems], ⟨hL, .inr rfl⟩, by omega, wrap_succ (by omega)⟩ h')
    (fun l _ => .stop hO hm (b4 r l r.lats.length) (by simp) (decide_eq_false (by rw [List.length_map]; omega)))
    (aag ++ lineS (headR r) ++ r.ins.flatMap (fun x => lineS [x])) (by rw [List.length_append, List.length_append]; omega)
  have e3 := str_loop r.bads (fun i l => Hw r l [(8, .d (I i))]) (.exit 4) (fun l => Hw r l []) (fun x => lineS [x]) 400000 f3
    (fun i l hi hmem hl e s h' => .step hO hm (c1 r l _ i) ⟨decide_eq_true (by rw [List.length_map]; omega), ⟨rfl, get_map I r.bads i hi⟩, line [r.bads.getD i default] (one _ (hT.bads _ hmem)).1 (by simp), by have := (one _ (hT.bads _ hmem)).2; omega, wrap_succ (by omega)⟩ h')
    (fun l _ => .stop hO hm (c2 r l r.bads.length) (by simp) (decide_eq_false (by rw [List.length_map]; omega)))
    (aag ++ lineS (headR r) ++ r.ins.flatMap (fun x => lineS [x]) ++ r.lats.flatMap (fun d => lineS (latL d))) (by simp only [List.length_append]; omega)
  have e4 := str_loop r.cons (fun i l => Hw r l [(9, .d (I i))]) (.exit 6) (fun l => Hw r l []) (fun x => lineS [x]) 600000 f4
    (fun i l hi hmem hl e s h' => .step hO hm (d1 r l _ i) ⟨decide_eq_true (by rw [List.length_map]; omega), ⟨rfl, get_map I r.cons i hi⟩, line [r.cons.getD i default] (one _ (hT.cons _ hmem)).1 (by simp), by have := (one _ (hT.cons _ hmem)).2; omega, wrap_succ (by omega)⟩ h')
    (fun l _ => .stop hO hm (d2 r l r.cons.length) (by simp) (decide_eq_false (by rw [List.length_map]; omega)))
    (aag ++ lineS (headR r) ++ r.ins.flatMap (fun x => lineS [x]) ++ r.lats.flatMap (fun d => lineS (latL d)) ++ r.bads.flatMap (fun x => lineS [x])) (by simp only [List.length_append]; omega)
  have e5 := str_loop r.ands (fun i l => Hw r l [(10, .d (I i))]) (.exit 8) (fun l => Hw r l []) (fun d => lineS [d.lit, d.a, d.b]) 800000 f5
    (fun i l hi hmem hl e s h' => .step hO hm (R7.e1 r l _ i) ⟨decide_eq_true (by rw [List.length_map]; omega), ⟨rfl, get_map Df.d r.ands i hi⟩, ⟨rfl, get_map Df.d r.ands i hi⟩, ⟨rfl, get_map Df.d r.ands i hi⟩, line [(r.ands.getD i default).lit, (r.ands.getD i default).a, (r.ands.getD i default).b] (fun n hn => by
        obtain ⟨q1, q2, q3⟩ := hT.ands _ hmem
        simp at hn; rcases hn with rfl | rfl | rfl; exact pos_of q1; exact pos_of q2; exact pos_of q3) (by simp), by have := f5 _ hmem; omega, wrap_succ (by omega)⟩ h')
    (fun l _ => .stop hO hm (R7.e2 r l r.ands.length) (by simp) (decide_eq_false (by rw [List.length_map]; omega)))
    (aag ++ lineS (headR r) ++ r.ins.flatMap (fun x => lineS [x]) ++ r.lats.flatMap (fun d => lineS (latL d)) ++ r.bads.flatMap (fun x => lineS [x]) ++ r.cons.flatMap (fun x => lineS [x])) (by simp only [List.length_append]; omega)
  have hL := line (headR r) hhead (by simp [headR])
  unfold headR at hL
  refine callX_ok hO hm (w1 r (lineS (headR r)) _ _ _ _ (rawS r)) ⟨by simp only [List.length_map]; exact hL, by show 4 + (lineS (headR r)).length < _; omega, e1, e2, e3, e4, e5⟩
theorem raw_bad (h : Ref.Sm r) (hc : Cir.chkR r ≠ 0) : ICall Tryd.prog 12 [.d r.d] [] (.tup [.d (.str []), .d (I (Cir.chkR r))]) [] :=
  callX_ok hO hm (raw1 r (Cir.chkR r)) ⟨Ref.check h, bne_iff_ne.2 hc, Ref.check h⟩
theorem raw_good (h : Ref.Sm r) (hc : Cir.chkR r = 0) : ICall Tryd.prog 12 [.d r.d] [] (.tup [.d (.str (rawS r)), .d (I 0)]) [] := by
  have hck := Ref.check h
  rw [hc] at hck
  exact callX_ok hO hm (raw0 r (rawS r)) ⟨hck, rfl, written hc⟩
theorem lines_bad (h : Ref.Sm r) (hc : Cir.chkR r ≠ 0) : ICall Tryd.prog 14 [.d r.d] [] (.tup [.d (I 0), .d (I (Cir.chkR r))]) [] :=
  callX_ok hO hm (lin1 r (Cir.chkR r)) ⟨Ref.check h, bne_iff_ne.2 hc, Ref.check h⟩
theorem count (h : Ref.Sm r) : ICall Tryd.prog 29 [.d r.d] [] (.d (I (countR r))) [] := by
  have h1 := h.ins; have h2 := h.lats; have h3 := h.ands; have h4 := h.bads; have h5 := h.cons
  have := callX_ok hO hm (cnt r) ⟨by rw [wrap_id (by simp only [List.length_map]; omega) (by simp only [List.length_map]; omega)]; omega, by rw [wrap_id (by simp only [List.length_map]; omega) (by simp only [List.length_map]; omega)]; omega, by rw [wrap_id (by simp only [List.length_map]; omega) (by simp only [List.length_map]; omega)]; omega, by rw [wrap_id (by simp only [List.length_map]; omega) (by simp only [List.length_map]; omega)]; omega, by show IntKind.i64.wrap _ = _; rw [wrap_id (by simp only [List.length_map]; omega) (by simp only [List.length_map]; omega)]; omega⟩
  simp only [List.length_map] at this
  exact this
theorem lines_good (h : Ref.Sm r) (hc : Cir.chkR r = 0) : ICall Tryd.prog 14 [.d r.d] [] (.tup [.d (I (countR r)), .d (I 0)]) [] := by
  have hck := Ref.check h
  rw [hc] at hck
  exact callX_ok hO hm (lin0 r (countR r)) ⟨hck, rfl, count h⟩
end
end Go.Proofs.YtihbpbdmhiihnaaDoor.Sy.R7
/- Twin, moved: round by round. -/
namespace Go.Proofs.YtihbpbdmhiihnaaDoor.Sy.Law
open Go Go.Proofs.YtihbpbdmhiihnaaDoor.Ab Go.Proofs.YtihbpbdmhiihnaaDoor.Sy
set_option maxRecDepth 1000000
set_option linter.unusedVariables false
def TwR (r : Rw) : V := .agg [.d (I r.most), .own 3 (r.ins.map I), .own 65 (r.lats.map Df.d), .own 65 (r.ands.map Df.d), .own 3 (r.bads.map I), .own 3 (r.cons.map I)]
section
variable (r : Rw) (l : List Int) (a b c d e : List D) (u : Df) (v x y z : Int) (i : Nat) (a1 b1 c1 d1 e1 : List D) (ps : List (Int × Int)) (ll : List D) (p q : Int) (w : Nat) (r2 : Rw) (cc : Ci) (g g2 l1 : List Int) (ee : Int)
theorem tw  : callX Tryd.prog wr false O 10 [.d r.d] [] [It.raw, It.own, It.raw, It.raw, It.own, It.raw, It.raw, It.own, It.raw, It.raw, It.own, It.raw, It.raw, It.own, It.raw] = some (TwR r, [],
  [∀ (y : D), y ∈ List.map I r.ins → y.cells.length = (fun x => x.size) Tryd.prog.types[3],
   (List.map I r.ins).length ≤ maxItems,
   ∀ (y : D), y ∈ List.map Df.d r.lats → y.cells.length = (fun x => x.size) Tryd.prog.types[65],
   (List.map Df.d r.lats).length ≤ maxItems,
   ∀ (y : D), y ∈ List.map Df.d r.ands → y.cells.length = (fun x => x.size) Tryd.prog.types[65],
   (List.map Df.d r.ands).length ≤ maxItems,
   ∀ (y : D), y ∈ List.map I r.bads → y.cells.length = (fun x => x.size) Tryd.prog.types[3],
   (List.map I r.bads).length ≤ maxItems,
   ∀ (y : D), y ∈ List.map I r.cons → y.cells.length = (fun x => x.size) Tryd.prog.types[3],
   (List.map I r.cons).length ≤ maxItems]) := by kernel_rfl
end
end Go.Proofs.YtihbpbdmhiihnaaDoor.Sy.Law
/- ref03.Same, AsciiRaws: round by round. -/
namespace Go.Proofs.YtihbpbdmhiihnaaDoor.Sy.Rq
open Go Go.Proofs.YtihbpbdmhiihnaaDoor.Ab Go.Proofs.YtihbpbdmhiihnaaDoor.Sy
set_option maxRecDepth 1000000
set_option linter.unusedVariables false
def Hq (a b : List Df) (i : Nat) : St := ⟨mk 26 [(0, .d (.sl (a.map Df.d))), (1, .d (.sl (b.map Df.d))), (5, .d (I i))] [], []⟩
def Eq0 : St := ⟨mk 26 [] [], []⟩
def Rq : St := ⟨mk 26 [(4, .d (.bool false))] [], []⟩
section
variable (r r2 : Rw) (s s1 : List UInt8) (n e : Int) (i : Nat) (a b : List Df) (t : Bool)
theorem q1 : round Tryd.prog wr false O (loopOf Tryd.prog 31 0) (Hq a b i) [It.br true, It.el i (a.getD i default).d, It.el i (b.getD i default).d, It.br true] [4] 0 = some (.ret, Rq,
  [decide ((↑i : Int) < (↑(List.map Df.d a).length : Int)) = true,
   (↑i : Int) = (↑i : Int) ∧ (List.map Df.d a)[i]? = some (a.getD i default).d,
   (↑i : Int) = (↑i : Int) ∧ (List.map Df.d b)[i]? = some (b.getD i default).d,
   (!decide ([(a.getD i default).lit, (a.getD i default).a, (a.getD i default).b] = [(b.getD i default).lit, (b.getD i default).a, (b.getD i default).b])) = true]) := by kernel_rfl
theorem q2 : round Tryd.prog wr false O (loopOf Tryd.prog 31 0) (Hq a b i) [It.br true, It.el i (a.getD i default).d, It.el i (b.getD i default).d, It.br false, It.is (↑(i + 1) : Int)] [0, 1, 5] 0 = some (.normal, Hq a b (i + 1),
  [decide ((↑i : Int) < (↑(List.map Df.d a).length : Int)) = true,
   (↑i : Int) = (↑i : Int) ∧ (List.map Df.d a)[i]? = some (a.getD i default).d,
   (↑i : Int) = (↑i : Int) ∧ (List.map Df.d b)[i]? = some (b.getD i default).d,
   (!decide ([(a.getD i default).lit, (a.getD i default).a, (a.getD i default).b] = [(b.getD i default).lit, (b.getD i default).a, (b.getD i default).b])) = false,
   IntKind.i64.wrap ((↑i : Int) + 1) = (↑(i + 1) : Int)]) := by kernel_rfl
theorem q3 : round Tryd.prog wr false O (loopOf Tryd.prog 31 0) (Hq a b i) [It.br false] [] 0 = some (.exit 0, Eq0,
  [decide ((↑i : Int) < (↑(List.map Df.d a).length : Int)) = false]) := by kernel_rfl
theorem q4  : callX Tryd.prog wr false O 31 [.d (.sl (a.map Df.d)), .d (.sl (b.map Df.d))] [] [It.br true] = some (V.d (D.bool false), [],
  [((↑(List.map Df.d a).length : Int) != (↑(List.map Df.d b).length : Int)) = true]) := by kernel_rfl
theorem q5  : callX Tryd.prog wr false O 31 [.d (.sl (a.map Df.d)), .d (.sl (b.map Df.d))] [] [It.br false, It.lp [0, 1, 5] (Ex.exit 0) Eq0] = some (V.d (D.bool true), [],
  [((↑(List.map Df.d a).length : Int) != (↑(List.map Df.d b).length : Int)) = false,
   GoesL Tryd.prog (loopOf Tryd.prog 31 0) (⟨mk 26 [(0, V.d (D.sl (List.map Df.d a))), (1, V.d (D.sl (List.map Df.d b))), (5, V.d (D.int IntKind.i64 0))] [], []⟩) (Ex.exit 0) (Eq0)]) := by kernel_rfl
theorem q6  : callX Tryd.prog wr false O 31 [.d (.sl (a.map Df.d)), .d (.sl (b.map Df.d))] [] [It.br false, It.lp [0, 1, 5] Ex.ret Rq] = some (V.d (D.bool false), [],
  [((↑(List.map Df.d a).length : Int) != (↑(List.map Df.d b).length : Int)) = false,
   GoesL Tryd.prog (loopOf Tryd.prog 31 0) (⟨mk 26 [(0, V.d (D.sl (List.map Df.d a))), (1, V.d (D.sl (List.map Df.d b))), (5, V.d (D.int IntKind.i64 0))] [], []⟩) (Ex.ret) (Rq)]) := by kernel_rfl
theorem m0  : callX Tryd.prog wr false O 15 [.d r.d, .d r2.d] [] [It.br true, It.icall [] (V.d (D.bool false)) []] = some (V.d (D.bool false), [],
  [(r.most == r2.most) = true,
   ICall Tryd.prog 30 [V.d (L r.ins), V.d (L r2.ins)] [] (V.d (D.bool false)) []]) := by kernel_rfl
theorem m1  : callX Tryd.prog wr false O 15 [.d r.d, .d r2.d] [] [It.br true, It.icall [] (V.d (D.bool true)) [], It.icall [] (V.d (D.bool false)) []] = some (V.d (D.bool false), [],
  [(r.most == r2.most) = true,
   ICall Tryd.prog 30 [V.d (L r.ins), V.d (L r2.ins)] [] (V.d (D.bool true)) [],
   ICall Tryd.prog 31 [V.d (D.sl (List.map Df.d r.lats)), V.d (D.sl (List.map Df.d r2.lats))] [] (V.d (D.bool false)) []]) := by kernel_rfl
theorem m2  : callX Tryd.prog wr false O 15 [.d r.d, .d r2.d] [] [It.br true, It.icall [] (V.d (D.bool true)) [], It.icall [] (V.d (D.bool true)) [], It.icall [] (V.d (D.bool false)) []] = some (V.d (D.bool false), [],
  [(r.most == r2.most) = true,
   ICall Tryd.prog 30 [V.d (L r.ins), V.d (L r2.ins)] [] (V.d (D.bool true)) [],
   ICall Tryd.prog 31 [V.d (D.sl (List.map Df.d r.lats)), V.d (D.sl (List.map Df.d r2.lats))] [] (V.d (D.bool true)) [],
   ICall Tryd.prog 31 [V.d (D.sl (List.map Df.d r.ands)), V.d (D.sl (List.map Df.d r2.ands))] [] (V.d (D.bool false)) []]) := by kernel_rfl
theorem m3  : callX Tryd.prog wr false O 15 [.d r.d, .d r2.d] [] [It.br true, It.icall [] (V.d (D.bool true)) [], It.icall [] (V.d (D.bool true)) [], It.icall [] (V.d (D.bool true)) [], It.icall [] (V.d (D.bool false)) []] = some (V.d (D.bool false), [],
  [(r.most == r2.most) = true,
   ICall Tryd.prog 30 [V.d (L r.ins), V.d (L r2.ins)] [] (V.d (D.bool true)) [],
   ICall Tryd.prog 31 [V.d (D.sl (List.map Df.d r.lats)), V.d (D.sl (List.map Df.d r2.lats))] [] (V.d (D.bool true)) [],
   ICall Tryd.prog 31 [V.d (D.sl (List.map Df.d r.ands)), V.d (D.sl (List.map Df.d r2.ands))] [] (V.d (D.bool true)) [],
   ICall Tryd.prog 30 [V.d (L r.bads), V.d (L r2.bads)] [] (V.d (D.bool false)) []]) := by kernel_rfl
theorem m4  : callX Tryd.prog wr false O 15 [.d r.d, .d r2.d] [] [It.br true, It.icall [] (V.d (D.bool true)) [], It.icall [] (V.d (D.bool true)) [], It.icall [] (V.d (D.bool true)) [], It.icall [] (V.d (D.bool true)) [], It.icall [] (V.d (D.bool false)) []] = some (V.d (D.bool false), [],
  [(r.most == r2.most) = true,
   ICall Tryd.prog 30 [V.d (L r.ins), V.d (L r2.ins)] [] (V.d (D.bool true)) [],
   ICall Tryd.prog 31 [V.d (D.sl (List.map Df.d r.lats)), V.d (D.sl (List.map Df.d r2.lats))] [] (V.d (D.bool true)) [],
   ICall Tryd.prog 31 [V.d (D.sl (List.map Df.d r.ands)), V.d (D.sl (List.map Df.d r2.ands))] [] (V.d (D.bool true)) [],
   ICall Tryd.prog 30 [V.d (L r.bads), V.d (L r2.bads)] [] (V.d (D.bool true)) [],
   ICall Tryd.prog 30 [V.d (L r.cons), V.d (L r2.cons)] [] (V.d (D.bool false)) []]) := by kernel_rfl
theorem m5  : callX Tryd.prog wr false O 15 [.d r.d, .d r2.d] [] [It.br true, It.icall [] (V.d (D.bool true)) [], It.icall [] (V.d (D.bool true)) [], It.icall [] (V.d (D.bool true)) [], It.icall [] (V.d (D.bool true)) [], It.icall [] (V.d (D.bool true)) []] = some (V.d (D.bool true), [],
  [(r.most == r2.most) = true,
   ICall Tryd.prog 30 [V.d (L r.ins), V.d (L r2.ins)] [] (V.d (D.bool true)) [],
   ICall Tryd.prog 31 [V.d (D.sl (List.map Df.d r.lats)), V.d (D.sl (List.map Df.d r2.lats))] [] (V.d (D.bool true)) [],
   ICall Tryd.prog 31 [V.d (D.sl (List.map Df.d r.ands)), V.d (D.sl (List.map Df.d r2.ands))] [] (V.d (D.bool true)) [],
   ICall Tryd.prog 30 [V.d (L r.bads), V.d (L r2.bads)] [] (V.d (D.bool true)) [],
   ICall Tryd.prog 30 [V.d (L r.cons), V.d (L r2.cons)] [] (V.d (D.bool true)) []]) := by kernel_rfl
theorem t0  : callX Tryd.prog wr false O 15 [.d r.d, .d r2.d] [] [It.br false] = some (V.d (D.bool false), [],
  [(r.most == r2.most) = false]) := by kernel_rfl
theorem l0  : callX Tryd.prog wr false O 3 [.d r.d] [] [It.icall [] (V.d (D.bool true)) []] = some (V.d (D.bool true), [],
  [ICall Tryd.prog 9 [V.d (D.agg [I r.most, L r.ins, D.sl (List.map Df.d r.lats), D.sl (List.map Df.d r.ands), L r.bads, L r.cons])] [] (V.d (D.bool true)) []]) := by kernel_rfl
theorem l1  : callX Tryd.prog wr false O 3 [.d r.d] [] [It.icall [] (V.d (D.bool false)) [], It.icall [] (V.d r.d) [], It.icall [] (V.tup [V.d (D.str s), V.d (I n)]) [], It.icall [] (V.tup [V.d (D.str s), V.d (I n)]) [], It.icall [] (V.tup [V.d (I e), V.d (I n)]) [], It.icall [] (V.tup [V.d (I e), V.d (I n)]) [], It.br true, It.br true, It.br true, It.br true, It.icall [] (V.d (D.bool true)) []] = some (V.d (D.bool true), [],
  [ICall Tryd.prog 9 [V.d (D.agg [I r.most, L r.ins, D.sl (List.map Df.d r.lats), D.sl (List.map Df.d r.ands), L r.bads, L r.cons])] [] (V.d (D.bool false)) [],
   ICall Tryd.prog 10 [V.d (D.agg [I r.most, L r.ins, D.sl (List.map Df.d r.lats), D.sl (List.map Df.d r.ands), L r.bads, L r.cons])] [] (V.d r.d) [],
   ICall Tryd.prog 11 [V.d (D.agg [I r.most, L r.ins, D.sl (List.map Df.d r.lats), D.sl (List.map Df.d r.ands), L r.bads, L r.cons])] [] (V.tup [V.d (D.str s), V.d (I n)]) [],
   ICall Tryd.prog 12 [V.d (D.agg [I r.most, L r.ins, D.sl (List.map Df.d r.lats), D.sl (List.map Df.d r.ands), L r.bads, L r.cons])] [] (V.tup [V.d (D.str s), V.d (I n)]) [],
   ICall Tryd.prog 13 [V.d (D.agg [I r.most, L r.ins, D.sl (List.map Df.d r.lats), D.sl (List.map Df.d r.ands), L r.bads, L r.cons])] [] (V.tup [V.d (I e), V.d (I n)]) [],
   ICall Tryd.prog 14 [V.d (D.agg [I r.most, L r.ins, D.sl (List.map Df.d r.lats), D.sl (List.map Df.d r.ands), L r.bads, L r.cons])] [] (V.tup [V.d (I e), V.d (I n)]) [],
   (s == s) = true,
   (n == n) = true,
   (e == e) = true,
   (n == n) = true,
   ICall Tryd.prog 15 [V.d (D.agg [I r.most, L r.ins, D.sl (List.map Df.d r.lats), D.sl (List.map Df.d r.ands), L r.bads, L r.cons]), V.d (D.agg [I r.most, L r.ins, D.sl (List.map Df.d r.lats), D.sl (List.map Df.d r.ands), L r.bads, L r.cons])] [] (V.d (D.bool true)) []]) := by kernel_rfl
end
end Go.Proofs.YtihbpbdmhiihnaaDoor.Sy.Rq
/- ref03.Same, Twin; AsciiRaws, whole. -/
namespace Go.Proofs.YtihbpbdmhiihnaaDoor.Sy.Rq
open Go Go.Proofs.YtihbpbdmhiihnaaDoor.Ab Go.Proofs.YtihbpbdmhiihnaaDoor.Sy Go.Proofs.YtihbpbdmhiihnaaDoor.Pl
set_option maxRecDepth 1000000
set_option linter.unusedVariables false
def T3 (d : Df) : List Int := [d.lit, d.a, d.b]
theorem t3_inj {a b : Df} (h : T3 a = T3 b) : a = b := by
  cases a; cases b; unfold T3 at h; simp at h; obtain ⟨rfl, rfl, rfl⟩ := h; rfl
theorem t3_map : ∀ {a b : List Df}, a.map T3 = b.map T3 → a = b
  | [], [], _ => rfl
  | [], _ :: _, h => by simp at h
  | _ :: _, [], h => by simp at h
  | x :: a, y :: b, h => by
    simp only [List.map_cons, List.cons.injEq] at h
    rw [t3_inj h.1, t3_map h.2]
theorem loop (a b : List Df) (hl : a.length = b.length) (hs : a.length ≤ 1000000) (d : Nat) : ∀ i, a.length - i = d → i ≤ a.length →
    (a.drop i = b.drop i → GoesL Tryd.prog (loopOf Tryd.prog 31 0) (Hq a b i) (.exit 0) Eq0) ∧ (a.drop i ≠ b.drop i → GoesL Tryd.prog (loopOf Tryd.prog 31 0) (Hq a b i) .ret Rq) := by
  induction d with
  | zero =>
    intro i hd hi
    have h1 : a.drop i = b.drop i := by rw [List.drop_of_length_le (by omega), List.drop_of_length_le (by omega)]
    exact ⟨fun _ => .stop hO hm (q3 i a b) (by simp) (decide_eq_false (by rw [List.length_map]; omega)), fun h => absurd h1 h⟩
  | succ d ih =>
    intro i hd hi
    have ha : i < a.length := by omega
    have hb : i < b.length := by omega
    obtain ⟨i1, i2⟩ := ih (i + 1) (by omega) (by omega)
    have ea := drop_getD a i ha
    have eb := drop_getD b i hb
    have p1 : decide ((↑i : Int) < (↑(List.map Df.d a).length : Int)) = true := decide_eq_true (by rw [List.length_map]; omega)
    by_cases c : a.getD i default = b.getD i default
    · have q : (!decide ([(a.getD i default).lit, (a.getD i default).a, (a.getD i default).b] = [(b.getD i default).lit, (b.getD i default).a, (b.getD i default).b])) = false := by rw [c]; simp
      refine ⟨fun h => .step hO hm (q2 i a b) ⟨p1, ⟨rfl, get_map Df.d a i ha⟩, ⟨rfl, get_map Df.d b i hb⟩, q, wrap_succ (by omega)⟩ (i1 ?_), fun h => .step hO hm (q2 i a b) ⟨p1, ⟨rfl, get_map Df.d a i ha⟩, ⟨rfl, get_map Df.d b i hb⟩, q, wrap_succ (by omega)⟩ (i2 ?_)⟩
      · rw [ea, eb] at h; exact (List.cons.inj h).2
      · rw [ea, eb, c] at h; exact fun e => h (by rw [e])
    · have q : (!decide ([(a.getD i default).lit, (a.getD i default).a, (a.getD i default).b] = [(b.getD i default).lit, (b.getD i default).a, (b.getD i default).b])) = true := by
        rw [Bool.not_eq_true', decide_eq_false_iff_not]
        exact fun h => c (t3_inj h)
      have hne : a.drop i ≠ b.drop i := by rw [ea, eb]; exact fun e => c (List.cons.inj e).1
      exact ⟨fun h => absurd h hne, fun _ => .stop hO hm (q1 i a b) (by simp) ⟨p1, ⟨rfl, get_map Df.d a i ha⟩, ⟨rfl, get_map Df.d b i hb⟩, q⟩⟩
theorem sameDefs (a b : List Df) (hs : a.length ≤ 1000000) : ICall Tryd.prog 31 [.d (.sl (a.map Df.d)), .d (.sl (b.map Df.d))] [] (.d (.bool (decide (a.map T3 = b.map T3)))) [] := by
  by_cases hl : a.length = b.length
  · have hd : ((↑(List.map Df.d a).length : Int) != (↑(List.map Df.d b).length : Int)) = false := by simp [hl]
    obtain ⟨l1, l2⟩ := loop a b hl hs a.length 0 rfl (by omega)
    by_cases c : a = b
    · rw [decide_eq_true (by rw [c])]
      exact callX_ok hO hm (q5 a b) ⟨hd, l1 (by simpa using c)⟩
    · rw [decide_eq_false (fun e => c (t3_map e))]
      exact callX_ok hO hm (q6 a b) ⟨hd, l2 (by simpa using c)⟩
  · have c : a.map T3 ≠ b.map T3 := fun e => hl (by rw [t3_map e])
    rw [decide_eq_false c]
    exact callX_ok hO hm (q4 a b) (by simp [AllP]; omega)
/-- Two raw circuits are the same. -/
def sameR (r r2 : Rw) : Bool := (r.most == r2.most) && (decide (r.ins = r2.ins) && (decide (r.lats.map T3 = r2.lats.map T3) && (decide (r.ands.map T3 = r2.ands.map T3) && (decide (r.bads = r2.bads) && decide (r.cons = r2.cons)))))
theorem same (r r2 : Rw) (h1 : r.ins.length ≤ 1000000) (h2 : r.lats.length ≤ 1000000) (h3 : r.ands.length ≤ 1000000) (h4 : r.bads.length ≤ 1000000) (h5 : r.cons.length ≤ 1000000) :
    ICall Tryd.prog 15 [.d r.d, .d r2.d] [] (.d (.bool (sameR r r2))) [] := by
  have k1 := SameInts.icall r.ins r2.ins h1
  have k2 := sameDefs r.lats r2.lats h2
  have k3 := sameDefs r.ands r2.ands h3
  have k4 := SameInts.icall r.bads r2.bads h4
  have k5 := SameInts.icall r.cons r2.cons h5
  unfold sameR
  cases c0 : (r.most == r2.most) with
  | false => exact callX_ok hO hm (t0 r r2) c0
  | true =>
  revert k1
  cases decide (r.ins = r2.ins) with
  | false => intro k1; exact callX_ok hO hm (m0 r r2) ⟨c0, k1⟩
  | true =>
  intro k1
  revert k2
  cases decide (r.lats.map T3 = r2.lats.map T3) with
  | false => intro k2; exact callX_ok hO hm (m1 r r2) ⟨c0, k1, k2⟩
  | true =>
  intro k2
  revert k3
  cases decide (r.ands.map T3 = r2.ands.map T3) with
  | false => intro k3; exact callX_ok hO hm (m2 r r2) ⟨c0, k1, k2, k3⟩
  | true =>
  intro k3
  revert k4
  cases decide (r.bads = r2.bads) with
  | false => intro k4; exact callX_ok hO hm (m3 r r2) ⟨c0, k1, k2, k3, k4⟩
  | true =>
  intro k4
  revert k5
  cases decide (r.cons = r2.cons) with
  | false => intro k5; exact callX_ok hO hm (m4 r r2) ⟨c0, k1, k2, k3, k4, k5⟩
  | true => intro k5; exact callX_ok hO hm (m5 r r2) ⟨c0, k1, k2, k3, k4, k5⟩
theorem sameR_refl (r : Rw) : sameR r r = true := by unfold sameR; simp
theorem sameR_eq {r r2 : Rw} (h : sameR r r2 = true) : r = r2 := by
  unfold sameR at h
  simp only [Bool.and_eq_true, decide_eq_true_eq, beq_iff_eq] at h
  obtain ⟨h1, h2, h3, h4, h5, h6⟩ := h
  have k3 := t3_map h3
  have k4 := t3_map h4
  cases r; cases r2
  exact Rw.mk.injEq .. ▸ ⟨h1, h2, k3, k4, h5, h6⟩
theorem twin (r : Rw) (h : Ref.Sm r) : ICall Tryd.prog 10 [.d r.d] [] (Law.TwR r) [] := by
  have h1 := h.ins
  have h2 := h.lats
  have h3 := h.ands
  have h4 := h.bads
  have h5 := h.cons
  have sz : ∀ l : List Df, ∀ y : D, y ∈ l.map Df.d → y.cells.length = 3 := fun l y hy => by
    obtain ⟨x, _, rfl⟩ := List.mem_map.1 hy; rfl
  have le : ∀ n : Nat, n ≤ 2000 → n ≤ maxItems := fun n h => Nat.le_trans h (by decide)
  exact callX_ok hO hm (Law.tw r) ⟨LInt.sz _, le _ (by simpa using h1), sz _, le _ (by simpa using h2), sz _, le _ (by simpa using h3), LInt.sz _, le _ (by simpa using h4), LInt.sz _, le _ (by simpa using h5)⟩
theorem twinD (r : Rw) (h : Ref.Sm r) : ICall Tryd.prog 10 [.d r.d] [] (.d r.d) [] := (twin r h).frz rfl
theorem sm_of {r : Rw} (hg : Law.great r = false) (hd : ∀ x ∈ Def.defs r, x ≤ 9223372036854775807) (hu : ∀ x ∈ Def.uses r, x ≤ 9223372036854775807) : Ref.Sm r := by
  unfold Law.great at hg
  simp only [Bool.or_eq_false_iff, Bool.and_eq_false_iff, decide_eq_false_iff_not, bne_eq_false_iff_eq] at hg
  obtain ⟨g1, g2, g3, g4, g5, -⟩ := hg
  exact ⟨by omega, by omega, by omega, by omega, by omega, hd, hu⟩
/-- What Raw and Lines answer, the program's and the reference's alike. -/
def rawT (r : Rw) : List UInt8 := if Cir.chkR r = 0 then Asc.rawS r else []
def linN (r : Rw) : Int := if Cir.chkR r = 0 then (Asc.countR r : Int) else 0
section
variable {r : Rw} (h : Ref.Sm r)
include h
theorem araw : ICall Tryd.prog 11 [.d r.d] [] (.tup [.d (.str (rawT r)), .d (I (Cir.chkR r))]) [] := by
  unfold rawT
  by_cases c : Cir.chkR r = 0
  · rw [if_pos c]; have := Asc.raw_good h.wf c; rwa [c]
  · rw [if_neg c]; exact Asc.raw_bad h.wf c
theorem rraw : ICall Tryd.prog 12 [.d r.d] [] (.tup [.d (.str (rawT r)), .d (I (Cir.chkR r))]) [] := by
  unfold rawT
  by_cases c : Cir.chkR r = 0
  · rw [if_pos c]; have := R7.raw_good h c; rwa [c]
  · rw [if_neg c]; exact R7.raw_bad h c
theorem alin : ICall Tryd.prog 13 [.d r.d] [] (.tup [.d (I (linN r)), .d (I (Cir.chkR r))]) [] := by
  unfold linN
  by_cases c : Cir.chkR r = 0
  · rw [if_pos c]; have := Asc.lines_good h.wf c; rwa [c]
  · rw [if_neg c]; exact Asc.lines_bad h.wf c
theorem rlin : ICall Tryd.prog 14 [.d r.d] [] (.tup [.d (I (linN r)), .d (I (Cir.chkR r))]) [] := by
  unfold linN
  by_cases c : Cir.chkR r = 0
  · rw [if_pos c]; have := R7.lines_good h c; rwa [c]
  · rw [if_neg c]; exact R7.lines_bad h c
end
theorem asciiRaws (r : Rw) (hd : ∀ x ∈ Def.defs r, x ≤ 9223372036854775807) (hu : ∀ x ∈ Def.uses r, x ≤ 9223372036854775807) : ICall Tryd.prog 3 [.d r.d] [] (.d (.bool true)) [] := by
  have hgr := Law.great_ok r
  cases cg : Law.great r with
  | true => rw [cg] at hgr; exact callX_ok hO hm (l0 r) hgr
  | false =>
    rw [cg] at hgr
    have h := sm_of cg hd hu
    have hs := same r r (by have := h.ins; omega) (by have := h.lats; omega) (by have := h.ands; omega) (by have := h.bads; omega) (by have := h.cons; omega)
    rw [sameR_refl] at hs
    exact callX_ok hO hm (l1 r (rawT r) (Cir.chkR r) (linN r)) ⟨hgr, twinD r h, araw h, rraw h, alin h, rlin h, by simp, by simp, by simp, by simp, hs⟩
end Go.Proofs.YtihbpbdmhiihnaaDoor.Sy.Rq
/- The row of AsciiRaws. -/
namespace Go.Proofs.YtihbpbdmhiihnaaDoor.asciiRaws
open Go.ChangeShapes Go.WideShapes Go.ChangeAt Go.RowKit Go.Proofs.YtihbpbdmhiihnaaDoor.Ab Go.Proofs.YtihbpbdmhiihnaaDoor.Sy Go.Proofs.YtihbpbdmhiihnaaDoor.Lk
set_option linter.unusedVariables false
theorem calls (W : World) (hG : GOk W (Old W)) (r0 : Rw) (v0 : Value) (k0 : okR r0) (h0 : DRel W (Old W) r0.d v0) :
    Calls Tryd.prog 3 #[v0] W (fun e W' => e = .returned (.bool true) ∧ Below W.heap.size W W') := by
  have h := Sy.Rq.asciiRaws r0 (defs_le k0) (uses_le k0) W (Old W) [] [v0] (srel_nil (fun _ h => h) hG) ⟨h0, trivial⟩
  refine h.mono fun e W' ⟨x, μ', Pr', he, _, hx, hev, _⟩ => ?_
  obtain rfl : x = .bool true := Ab.drel_bool (show Ab.DRel W' Pr' (.bool true) x from hx)
  exact ⟨he, hev.os, hev.tape, hev.output, hev.size, fun k hk => hev.block k hk (by simp [Ab.owns])⟩
set_option maxRecDepth 100000 in
theorem lifted (os : Os) (started : os.Started) (H : Type) (enc : TypeId × Value → H) :
    ReturnsInHanded {} Tryd.checked os 3 .any (fun w args => (Rows.asciiRawsSpec.pre enc Tryd.prog Tryd.f3 Rows.asciiRawsRow.domain false w args ∧ laidMetH Tryd.prog Rows.asciiRawsRow.laid w) ∧ sizedMet enc Tryd.prog Tryd.f3 (OpenSpec.ofChange Rows.asciiRawsSpec) false w args)
      (Rows.asciiRawsSpec.post enc Tryd.prog Tryd.f3 false true false false) := by
  refine returnsInHanded_of_change_and (C := Tryd.checked) (X := fun w _ => laidMetH Tryd.prog Rows.asciiRawsRow.laid w) (fun _ _ _ hh h => h.of_heap hh) own started (by kernel_rfl) Tryd.func3
    (ChangeSpec.witness_shaped (enc := enc) (C := Tryd.checked) (os := os) (X := fun w _ => laidMetH Tryd.prog Rows.asciiRawsRow.laid w) false (World.laidAll Tryd.prog os Rows.asciiRawsRow.laid) #[.agg #[.int .i64 0, .slice none 0 0, .slice none 0 0, .slice none 0 0, .slice none 0 0, .slice none 0 0]] 8 (World.laidAll_os _ _ _)
      (World.shaped_of_ZipB (by kernel_rfl) (by kernel_rfl)) (by kernel_rfl) (by kernel_rfl) (by kernel_rfl)
      (by rw [MakeChecks.laidMetH_plain _ _ _ (by kernel_rfl)]; exact laidMet_laidAll _ (by kernel_rfl) (by kernel_rfl))) ?_
  intro W base args ds gs before hval0 hW hcnd _ hL _
  have hval : ∀ (j : Nat) t v, Tryd.f3.params[j]? = some t → args[j]? = some v → Value.okWide Tryd.prog W .any base t v := hval0
  have hW' := hW
  obtain ⟨p, q, hA0, hV, rfl, hfz, hnd⟩ := hW
  have hA : DataW.TrodAll enc Tryd.prog W 0 (fun _ => true) true Tryd.f3.params.toList args.toList ds p := hA0
  rw [Tryd.params3] at hA hval
  obtain ⟨v0, vs0, d0, ds0, p0, q0, hargs0, rfl, rfl, h0, r0⟩ := trodAll_cons hA
  obtain ⟨rfl, rfl, rfl⟩ := trodAll_nil r0
  obtain rfl : args = #[v0] := by cases args; simp_all
  obtain ⟨rfl, rfl⟩ := trodVars_none hV
  have k0 := h0
  have lt0 : ∀ x ∈ p0, x.block < W.heap.size := by obtain ⟨m, hm⟩ := k0; exact DataW.trod_lt m _ _ _ hm
  obtain ⟨a0, ok0, g0⟩ := drel_struct Tryd.underlying25 opR (hval 0 25 v0 rfl rfl) h0
  clear hA0 hval0
  refine (calls W (gok hL) a0 _ ok0 g0).mono fun e W' ⟨he, bel⟩ => ?_
  subst he
  exact ⟨_, rfl, _, _, _, [], _, [], hW', trodAll_mk1 (shut_bool Tryd.underlying4 _), (trodAll_cons_mk (Below.trod laidOut (by kernel_rfl) (of_decide_eq_true (by kernel_rfl)) k0 bel lt0) trodAll_mk0), rfl, bel.frame _, fun h => by cases h⟩
theorem over : Rows.asciiRawsRow.holds Tryd.pinned (OpenSpec.ofChange Rows.asciiRawsSpec) :=
  OpenClaim.holds_of_wide 3 Tryd.f3 rfl rfl rfl rfl rfl rfl rfl ⟨rfl, rfl, rfl, rfl, rfl⟩ rfl rfl rfl rfl rfl (by kernel_rfl) Tryd.func3 (by kernel_rfl)
    (of_decide_eq_true (by kernel_rfl)) (by unfold Func.isWrapper; first | (rw [if_pos (by decide +kernel)]; kernel_rfl) | (rw [if_neg (by decide +kernel)]; exact ⟨rfl, rfl⟩))
    (fun os started H enc _ => lifted os started H enc)
theorem card : Rows.AsciiRawsCardSaid :=
  Claim7.holds_tied_plain_at .later [] [.data, .data, .data] true (true, "c136b6ce96892a5fbb406ffda3834694272a3b7048d92624374dc243a7d4ab05") true
    over (fun _ h => by cases h) (by kernel_rfl) (fun _ h => by cases h) asciiRaws_row_tie rfl ⟨rfl, rfl⟩ (by kernel_rfl) rfl
    (fun f fn hf hfn => by
      obtain rfl : f = 3 := Option.some.inj ((show Tryd.prog.funcNamed "spiritlevel/spiritlevellaw07.AsciiRaws" = some 3 by kernel_rfl).symm.trans hf) |>.symm
      obtain rfl : fn = Tryd.f3 := (Option.some.inj (Tryd.func3.symm.trans hfn)).symm
      exact ⟨by kernel_rfl, fun j t ht => by
        rw [Tryd.params3] at ht
        have hm : t ∈ [25] := by simpa using Array.mem_of_getElem? ht
        have hall : ([25].all fun u => !Tryd.prog.wantsStandIn u) = true := by kernel_rfl
        exact (show Tryd.prog.wantsStandIn t = false by simpa using List.all_eq_true.1 hall t hm)⟩)
    (by kernel_rfl)
end Go.Proofs.YtihbpbdmhiihnaaDoor.asciiRaws
namespace Go.Proofs.YtihbpbdmhiihnaaDoor
/-- The card, under a short name, for the claim. -/
theorem asciiRaws_holds : Rows.AsciiRawsCardSaid := asciiRaws.card
end Go.Proofs.YtihbpbdmhiihnaaDoor
