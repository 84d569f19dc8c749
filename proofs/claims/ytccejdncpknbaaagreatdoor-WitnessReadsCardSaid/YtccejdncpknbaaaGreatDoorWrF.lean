/- The row of WitnessReads. -/
import Derived.Test.YtccejdncpknbaaaGreatDoorWrE
import Derived.Test.YtccejdncpknbaaaGreatDoorRows
import Derived.Test.YtccejdncpknbaaaGreatDoorCards
import Derived.Test.YtccejdncpknbaaaGreatDoorTie
import Derived.Test.YtccejdncpknbaaaGreatDoorWrD
import Derived.SevenTiedAt
import Derived.Stop.Joined
/- ref08.Split, Number, ref11.Values, Parsed, Read, whole. -/
namespace Go.Proofs.YtccejdncpknbaaaGreatDoor.Sy.Rp
open Go Go.Proofs.YtccejdncpknbaaaGreatDoor.Ab Go.Proofs.YtccejdncpknbaaaGreatDoor.Sy Go.Proofs.YtccejdncpknbaaaGreatDoor.Sy.Tx Go.Proofs.YtccejdncpknbaaaGreatDoor.Sy.Vl Go.Proofs.YtccejdncpknbaaaGreatDoor.Sy.Tc Go.Proofs.YtccejdncpknbaaaGreatDoor.Sy.Wi Go.Proofs.YtccejdncpknbaaaGreatDoor.Sy.Rf Go.Proofs.YtccejdncpknbaaaGreatDoor.Sy.Rd
open Go.Proofs.YtccejdncpknbaaaGreatDoor.Sy.Sp (splitU splitU_ne splitU_len)
set_option maxRecDepth 1000000
set_option linter.unusedVariables false
set_option linter.unusedSimpArgs false
theorem get_byte (s : List UInt8) (i : Nat) (h : i < s.length) : s[i]? = some (s.getD i default) := by rw [List.getElem?_eq_getElem h, List.getD_eq_getElem?_getD, List.getElem?_eq_getElem h]; rfl
theorem byte_ne {q u : UInt8} (h : q ≠ u) : (((q.toNat : Nat) : Int) == ((u.toNat : Nat) : Int)) = false := beq_eq_false_iff_ne.2 fun e => h (UInt8.toNat_inj.1 (by omega))
theorem u8_id {x : Int} (h : 0 ≤ x) (h1 : x < 256) : IntKind.u8.wrap x = x := by
  rw [IntKind.wrap_u8]; omega
theorem max6 (a : Nat) (h : a ≤ 2000000) : a ≤ maxItems := Nat.le_trans h (by decide)
theorem splitR (u : UInt8) (s : List UInt8) (hl : s.length ≤ 1000000) : ICall Tryz.prog 56 [.d (.str s), .d (u8 u)] [] (.d (.sl ((splitU u s).map D.str))) [] := by
  have key : ∀ (d i : Nat), s.length - i = d → i ≤ s.length → GoesL Tryz.prog (loopOf Tryz.prog 56 0) (Sp8 u s ((splitU u (s.take i)).map D.str) i) (.exit 0) (Se8 s ((splitU u s).map D.str)) := by
    intro d
    induction d with
    | zero =>
      intro i hd hi
      obtain rfl : i = s.length := by omega
      rw [List.take_length]
      exact .stop hO hm (s3 s.length s u _) (by simp) (decide_eq_false (by omega))
    | succ d ih =>
      intro i hd hi
      have hlt : i < s.length := by omega
      have ihh := ih (i + 1) (by omega) hlt
      have q1 := get_byte s i hlt
      have q0 : decide ((i : Int) < ((s.length : Nat) : Int)) = true := decide_eq_true (by omega)
      have et : s.take (i + 1) = s.take i ++ [s.getD i default] := by rw [List.take_add_one, q1]; rfl
      have hn : (splitU u (s.take i)).length ≤ i + 1 := by
        rw [splitU_len]
        have := List.count_le_length (a := u) (l := s.take i)
        rw [List.length_take] at this
        omega
      obtain ⟨ys, z, h1, h2, h3⟩ := splitU_snoc u (s.take i)
      rw [et] at ihh
      by_cases hb : s.getD i default = u
      · rw [hb] at q1
        rw [hb, h2] at ihh
        rw [h1] at hn ⊢
        have e : (ys ++ [z, []]).map D.str = (ys ++ [z]).map D.str ++ [.str []] := by simp
        rw [e] at ihh
        exact .step hO hm (s1 i s u u _) ⟨q0, ⟨rfl, q1⟩, by simp, max6 _ (by rw [List.length_map]; omega), wrap_succ (by omega)⟩ ihh
      · rw [h3 _ hb] at ihh
        rw [h1] at hn ⊢
        have hyl : ((ys ++ [z]).map D.str).length = ys.length + 1 := by simp
        have ei : (((((ys ++ [z]).map D.str).length : Nat) : Int) - 1).toNat = ys.length := by rw [hyl]; omega
        have eg : ((ys ++ [z]).map D.str)[ys.length]? = some (D.str z) := by simp
        have etk : List.take (i + 1 - i) (List.drop i s) = [s.getD i default] := by
          rw [drop_getD s i hlt, show i + 1 - i = 1 by omega]; rfl
        have es : ((ys ++ [z]).map D.str).set ys.length (.str (z ++ [s.getD i default])) = (ys ++ [z ++ [s.getD i default]]).map D.str := by
          simp [List.set_append]
        have hzl : z.length ≤ 1000000 := by
          have := splitU_mem u (s.take i) z (by rw [h1]; simp)
          rw [List.length_take] at this
          omega
        have w1 : IntKind.i64.wrap (((((ys ++ [z]).map D.str).length : Nat) : Int) - 1) = ((((ys ++ [z]).map D.str).length : Nat) : Int) - 1 := wrap_id (by rw [hyl]; omega) (by rw [hyl]; have : ys.length ≤ 1000001 := (by rw [List.length_append, List.length_singleton] at hn; omega); omega)
        have w2 : ((((ys ++ [z]).map D.str).length : Nat) : Int) - 1 = ((((((ys ++ [z]).map D.str).length : Nat) : Int) - 1).toNat : Int) ∧ (((((ys ++ [z]).map D.str).length : Nat) : Int) - 1).toNat < ((ys ++ [z]).map D.str).length := ⟨by rw [ei, hyl]; omega, by rw [ei, hyl]; omega⟩
        refine .step hO hm (s2 i 0 s z (s.getD i default) u ((ys ++ [z]).map D.str)) ⟨q0, ⟨rfl, q1⟩, byte_ne hb, w1, w2, by rw [ei]; exact eg, wrap_succ (by omega), ⟨rfl, rfl, by omega, by omega⟩, by rw [etk, List.length_singleton]; omega, w2, wrap_succ (by omega)⟩ ?_
        rw [ei, etk, es]
        exact ihh
  exact (callX_ok hO hm (sc s u ((splitU u s).map D.str)) (key s.length 0 rfl (Nat.zero_le _))).frz (r' := .d (.sl ((splitU u s).map D.str))) rfl
theorem numberR (s : List UInt8) : ICall Tryz.prog 57 [.d (.str s)] [] (.d (I (numS s))) [] := by
  unfold numS
  by_cases c1 : s.length = 0
  · rw [if_pos c1]; exact callX_ok hO hm (k0 s) (beq_iff_eq.2 (by omega))
  rw [if_neg c1]
  have d1 : (((s.length : Nat) : Int) == 0) = false := beq_eq_false_iff_ne.2 (by omega)
  by_cases c2 : s.length > 9
  · rw [if_pos c2]; exact callX_ok hO hm (k1 s) ⟨d1, decide_eq_true (by omega)⟩
  rw [if_neg c2]
  have d2 : decide (((s.length : Nat) : Int) > 9) = false := decide_eq_false (by omega)
  have q0 := get_byte s 0 (by omega)
  have key : ∀ (d i n : Nat), s.length - i = d → i ≤ s.length → n < 10 ^ i → (∀ v, Lib.decFrom n (s.drop i) = some v → GoesL Tryz.prog (loopOf Tryz.prog 57 0) (Hn s n i) (.exit 0) (En s v)) ∧ (Lib.decFrom n (s.drop i) = none → GoesL Tryz.prog (loopOf Tryz.prog 57 0) (Hn s n i) .ret Rn) := by
    intro d
    induction d with
    | zero =>
      intro i n hd hi hn
      obtain rfl : i = s.length := by omega
      rw [List.drop_length]
      refine ⟨fun v hv => ?_, fun hv => by cases hv⟩
      cases hv
      exact .stop hO hm (n4 _ s.length s) (by simp) (decide_eq_false (by omega))
    | succ d ih =>
      intro i n hd hi hn
      have hlt : i < s.length := by omega
      have q1 := get_byte s i hlt
      have ql : decide ((i : Int) < ((s.length : Nat) : Int)) = true := decide_eq_true (by omega)
      have hp : 10 ^ (i + 1) ≤ 1000000000 := Nat.le_trans (Nat.pow_le_pow_right (by decide) (show i + 1 ≤ 9 by omega)) (by decide)
      rw [Nat.pow_succ] at hp
      rw [drop_getD s i hlt, Lib.decFrom]
      by_cases hd1 : 48 ≤ (s.getD i default).toNat ∧ (s.getD i default).toNat ≤ 57
      · have hv : Lib.digitVal (s.getD i default) = some ((s.getD i default).toNat - 48) := by unfold Lib.digitVal; rw [if_pos hd1]
        rw [hv]
        have ihh := ih (i + 1) (n * 10 + ((s.getD i default).toNat - 48)) (by omega) hlt (by rw [Nat.pow_succ]; omega)
        have e : (n : Int) * 10 + (((s.getD i default).toNat : Int) - 48) = ((n * 10 + ((s.getD i default).toNat - 48) : Nat) : Int) := by omega
        have stp : ∀ ex st, GoesL Tryz.prog (loopOf Tryz.prog 57 0) (Hn s ((n * 10 + ((s.getD i default).toNat - 48) : Nat) : Int) (i + 1)) ex st → GoesL Tryz.prog (loopOf Tryz.prog 57 0) (Hn s n i) ex st := fun ex st hh =>
          .step hO hm (n3 n i s (s.getD i default)) ⟨ql, ⟨rfl, q1⟩, decide_eq_false (by omega), ⟨rfl, q1⟩, decide_eq_false (by omega), wrap_id (by omega) (by omega), ⟨rfl, q1⟩, u8_id (by omega) (by omega), wrap_id (by omega) (by omega), wrap_id (by omega) (by omega), wrap_succ (by omega)⟩ (by rw [e]; exact hh)
        exact ⟨fun v hv2 => stp _ _ (ihh.1 v hv2), fun hv2 => stp _ _ (ihh.2 hv2)⟩
      · have hv : Lib.digitVal (s.getD i default) = none := by unfold Lib.digitVal; rw [if_neg hd1]
        rw [hv]
        refine ⟨fun v hv2 => (by cases hv2), fun _ => ?_⟩
        by_cases h4 : (s.getD i default).toNat < 48
        · exact .stop hO hm (n1 n i s (s.getD i default)) (by simp) ⟨ql, ⟨rfl, q1⟩, decide_eq_true (by omega)⟩
        · exact .stop hO hm (n2 n i s (s.getD i default)) (by simp) ⟨ql, ⟨rfl, q1⟩, decide_eq_false (by omega), ⟨rfl, q1⟩, decide_eq_true (by omega)⟩
  have hk := key s.length 0 0 rfl (Nat.zero_le _) (by decide)
  rw [List.drop_zero] at hk
  by_cases c4 : s.getD 0 default = 48
  · have d4 : ((((s.getD 0 default).toNat : Nat) : Int) == 48) = true := by rw [c4]; rfl
    by_cases c5 : s.length > 1
    · rw [if_pos ⟨c4, c5⟩]
      exact callX_ok hO hm (k2 s (s.getD 0 default)) ⟨d1, d2, ⟨rfl, q0⟩, d4, decide_eq_true (by omega)⟩
    · rw [if_neg (fun h => c5 h.2)]
      have d5 : decide (((s.length : Nat) : Int) > 1) = false := decide_eq_false (by omega)
      cases hd : Lib.decFrom 0 s with
      | some v => exact callX_ok hO hm (k3 v s (s.getD 0 default)) ⟨d1, d2, ⟨rfl, q0⟩, d4, d5, hk.1 v hd⟩
      | none => exact callX_ok hO hm (k8 s (s.getD 0 default)) ⟨d1, d2, ⟨rfl, q0⟩, d4, d5, hk.2 hd⟩
  · have d4 : ((((s.getD 0 default).toNat : Nat) : Int) == 48) = false := byte_ne (u := 48) c4
    rw [if_neg (fun h => c4 h.1)]
    cases hd : Lib.decFrom 0 s with
    | some v => exact callX_ok hO hm (k4 v s (s.getD 0 default)) ⟨d1, d2, ⟨rfl, q0⟩, d4, hk.1 v hd⟩
    | none => exact callX_ok hO hm (k9 s (s.getD 0 default)) ⟨d1, d2, ⟨rfl, q0⟩, d4, hk.2 hd⟩
theorem ad_a (s : List UInt8) : adoptS 6 4 (⟨mk 36 [(0, .d (.str s)), (6, .emp true), (7, .d (I 0))] [], []⟩) = Ha s [] 0 := by kernel_rfl
theorem szBool : szOf Tryz.prog 4 = some 1 := by kernel_rfl
theorem valuesR (s : List UInt8) (n : Int) (hl : s.length ≤ 1000000) : ICall Tryz.prog 58 [.d (.str s), .d (I n)] [] (.tup [.d (BL (valS n s)), .d (.bool (okV n s))]) [] := by
  unfold valS
  by_cases c1 : (s.length : Int) = n
  case neg =>
    have : okV n s = false := by unfold okV; rw [decide_eq_false c1]; rfl
    rw [this]
    exact (callX_ok hO hm (v0 n s) (bne_iff_ne.2 c1)).frz rfl
  have d1 : (((s.length : Nat) : Int) != n) = false := by simp [c1]
  have key : ∀ (d i : Nat), s.length - i = d → i ≤ s.length → ((s.drop i).all (fun q => q == 48 || q == 49) = true → GoesL Tryz.prog (loopOf Tryz.prog 58 0) (Ha s (((bo s).take i).map D.bool) i) (.exit 0) (Ea s ((bo s).map D.bool))) ∧
      ((s.drop i).all (fun q => q == 48 || q == 49) = false → ∃ xs, GoesL Tryz.prog (loopOf Tryz.prog 58 0) (Ha s (((bo s).take i).map D.bool) i) .ret (Ra xs)) := by
    intro d
    induction d with
    | zero =>
      intro i hd hi
      obtain rfl : i = s.length := by omega
      rw [List.drop_length]
      refine ⟨fun _ => ?_, fun h => by cases h⟩
      rw [List.take_of_length_le (by rw [bo_len]; exact Nat.le_refl _)]
      exact .stop hO hm (a4 s.length s _) (by simp) (decide_eq_false (by omega))
    | succ d ih =>
      intro i hd hi
      have hlt : i < s.length := by omega
      have q1 := get_byte s i hlt
      have ql : decide ((i : Int) < ((s.length : Nat) : Int)) = true := decide_eq_true (by omega)
      have ihh := ih (i + 1) (by omega) hlt
      have mx : (((bo s).take i).map D.bool).length + 1 ≤ maxItems := max6 _ (by rw [List.length_map, List.length_take]; omega)
      have eb : ((bo s).take (i + 1)).map D.bool = ((bo s).take i).map D.bool ++ [.bool (s.getD i default == 49)] := by
        rw [List.take_add_one]
        have : (bo s)[i]? = some (s.getD i default == 49) := by unfold bo; rw [List.getElem?_map, q1]; rfl
        rw [this, List.map_append]; rfl
      rw [eb] at ihh
      rw [drop_getD s i hlt, List.all_cons]
      by_cases h9 : s.getD i default = 49
      · have e9 : ((s.getD i default) == 49) = true := beq_iff_eq.2 h9
        rw [e9] at ihh
        rw [e9, Bool.or_true, Bool.true_and]
        have b1 : ((((s.getD i default).toNat : Nat) : Int) != 48) = true := by rw [h9]; rfl
        have b2 : ((((s.getD i default).toNat : Nat) : Int) != 49) = false := by rw [h9]; rfl
        have b3 : ((((s.getD i default).toNat : Nat) : Int) == 49) = true := by rw [h9]; rfl
        have stp : ∀ ex st, GoesL Tryz.prog (loopOf Tryz.prog 58 0) (Ha s (((bo s).take i).map D.bool ++ [.bool true]) (i + 1)) ex st → GoesL Tryz.prog (loopOf Tryz.prog 58 0) (Ha s (((bo s).take i).map D.bool) i) ex st := fun ex st hh =>
          .step hO hm (a2 i s (s.getD i default) _) ⟨ql, ⟨rfl, q1⟩, b1, ⟨rfl, q1⟩, b2, ⟨rfl, q1⟩, b3, mx, wrap_succ (by omega)⟩ hh
        exact ⟨fun h => stp _ _ (ihh.1 h), fun h => let ⟨xs, hx⟩ := ihh.2 h; ⟨xs, stp _ _ hx⟩⟩
      · have e9 : ((s.getD i default) == 49) = false := beq_eq_false_iff_ne.2 h9
        rw [e9] at ihh
        by_cases h8 : s.getD i default = 48
        · have e8 : ((s.getD i default) == 48) = true := beq_iff_eq.2 h8
          rw [e8, Bool.true_or, Bool.true_and]
          have b1 : ((((s.getD i default).toNat : Nat) : Int) != 48) = false := by rw [h8]; rfl
          have b3 : ((((s.getD i default).toNat : Nat) : Int) == 49) = false := by rw [h8]; rfl
          have stp : ∀ ex st, GoesL Tryz.prog (loopOf Tryz.prog 58 0) (Ha s (((bo s).take i).map D.bool ++ [.bool false]) (i + 1)) ex st → GoesL Tryz.prog (loopOf Tryz.prog 58 0) (Ha s (((bo s).take i).map D.bool) i) ex st := fun ex st hh =>
            .step hO hm (a3 i s (s.getD i default) _) ⟨ql, ⟨rfl, q1⟩, b1, ⟨rfl, q1⟩, b3, mx, wrap_succ (by omega)⟩ hh
          exact ⟨fun h => stp _ _ (ihh.1 h), fun h => let ⟨xs, hx⟩ := ihh.2 h; ⟨xs, stp _ _ hx⟩⟩
        · have e8 : ((s.getD i default) == 48) = false := beq_eq_false_iff_ne.2 h8
          rw [e8, e9, Bool.or_self, Bool.false_and]
          refine ⟨fun h => (by cases h), fun _ => ⟨_, .stop hO hm (a1 i s (s.getD i default) _) (by simp) ⟨ql, ⟨rfl, q1⟩, ?_, ⟨rfl, q1⟩, ?_⟩⟩⟩
          · have bb : ((((s.getD i default).toNat : Nat) : Int) == 48) = false := byte_ne (u := 48) h8
            rw [bne, bb]; rfl
          · have bb : ((((s.getD i default).toNat : Nat) : Int) == 49) = false := byte_ne (u := 49) h9
            rw [bne, bb]; rfl
  have hk := key s.length 0 rfl (Nat.zero_le _)
  rw [List.drop_zero, List.take_zero, List.map_nil, ← ad_a] at hk
  have ho : okV n s = s.all (fun q => q == 48 || q == 49) := by unfold okV; rw [decide_eq_true c1, Bool.true_and]
  rw [ho]
  cases ca : s.all (fun q => q == 48 || q == 49) with
  | true => exact (callX_ok hO hm (v1 n s ((bo s).map D.bool)) ⟨d1, .adoptS szBool (hk.1 ca)⟩).frz rfl
  | false =>
    obtain ⟨xs, hx⟩ := hk.2 ca
    exact (callX_ok hO hm (v2 n s xs) ⟨d1, .adoptS szBool hx⟩).frz rfl
end Go.Proofs.YtccejdncpknbaaaGreatDoor.Sy.Rp
/- ref11.Parsed, Read, whole. -/
namespace Go.Proofs.YtccejdncpknbaaaGreatDoor.Sy.Rp
open Go Go.Proofs.YtccejdncpknbaaaGreatDoor.Ab Go.Proofs.YtccejdncpknbaaaGreatDoor.Sy Go.Proofs.YtccejdncpknbaaaGreatDoor.Sy.Tx Go.Proofs.YtccejdncpknbaaaGreatDoor.Sy.Vl Go.Proofs.YtccejdncpknbaaaGreatDoor.Sy.Tc Go.Proofs.YtccejdncpknbaaaGreatDoor.Sy.Wi Go.Proofs.YtccejdncpknbaaaGreatDoor.Sy.Rf Go.Proofs.YtccejdncpknbaaaGreatDoor.Sy.Rd
open Go.Proofs.YtccejdncpknbaaaGreatDoor.Sy.Sp (splitU splitU_ne splitU_len)
set_option maxRecDepth 1000000
set_option linter.unusedVariables false
set_option linter.unusedSimpArgs false
def Sq (c : Ci) (ls : List (List UInt8)) (m n : Int) (r : Bool) (f : List Bool) : St := ⟨mk 113 [(2, .ptr 0 0), (4, .ptr 1 0), (7, .d (.sl (ls.map D.str))), (8, .d (I m)), (9, .d (I n)), (11, .d (.bool r)), (12, .ptr 2 0), (13, .d (I 3))] [], [Bc c, Rd.B00, .box [.d (BL f), .emp true]]⟩
theorem ad_q (c : Ci) (ls : List (List UInt8)) (m n : Int) (r : Bool) (f : List Bool) : adoptB 2 1 28 (Sq c ls m n r f) = Hp c ls m n r f [] [(13, .d (I 3))] := by kernel_rfl
theorem fr_q (c : Ci) (ls : List (List UInt8)) (m n : Int) (r : Bool) (f : List Bool) (acc : List D) : Ab.freeze 3 (Hp c ls m n r f acc []) = Ep c ls m n r f acc := by kernel_rfl
/-- The lines of inputs, from one on. -/
def mid (ls : List (List UInt8)) (i : Nat) : List (List UInt8) := (ls.take (ls.length - 2)).drop i
theorem mid3 (ls : List (List UInt8)) : mid ls 3 = prI ls := by unfold mid prI; rw [List.drop_take]
theorem mid_cons (ls : List (List UInt8)) (i : Nat) (h : i < ls.length - 2) : mid ls i = ls.getD i default :: mid ls (i + 1) := by
  unfold mid
  rw [drop_getD _ i (by rw [List.length_take]; omega)]
  congr 1
  rw [List.getD_eq_getElem?_getD, List.getD_eq_getElem?_getD, List.getElem?_take_of_lt h]
theorem mid_end (ls : List (List UInt8)) : mid ls (ls.length - 2) = [] := by
  unfold mid; exact List.drop_of_length_le (by rw [List.length_take]; omega)
theorem ploop (c : Ci) (ls : List (List UInt8)) (n : Int) (r : Bool) (f : List Bool) (h6 : 6 ≤ ls.length) (h5 : ls.length ≤ 105) (hls : ∀ l ∈ ls, l.length ≤ 1000000) :
    GoesL Tryz.prog (loopOf Tryz.prog 25 0) (Sq c ls ((ls.map D.str).length : Nat) n r f) (.exit 0) (Ep c ls ((ls.map D.str).length : Nat) n (r && (prI ls).all (okV c.ins)) f ((prI ls).map fun x => BL (valS c.ins x))) := by
  refine .adoptB (id := 2) (j := 1) Rd.ySl ?_
  rw [ad_q, ← mid3]
  have hm0 : (((ls.map D.str).length : Nat) : Int) = ((ls.length : Nat) : Int) := by rw [List.length_map]
  have w0 : IntKind.i64.wrap ((((ls.map D.str).length : Nat) : Int) - 2) = (((ls.map D.str).length : Nat) : Int) - 2 := wrap_id (by rw [hm0]; omega) (by rw [hm0]; omega)
  have key : ∀ (d i : Nat) (r : Bool) (acc : List D), ls.length - 2 - i = d → i ≤ ls.length - 2 → acc.length ≤ i →
      GoesL Tryz.prog (loopOf Tryz.prog 25 0) (Hp c ls ((ls.map D.str).length : Nat) n r f acc [(13, .d (I i))]) (.exit 0) (Ep c ls ((ls.map D.str).length : Nat) n (r && (mid ls i).all (okV c.ins)) f (acc ++ (mid ls i).map fun x => BL (valS c.ins x))) := by
    intro d
    induction d with
    | zero =>
      intro i r acc hd hi ha
      obtain rfl : i = ls.length - 2 := by omega
      rw [mid_end, List.map_nil, List.append_nil, List.all_nil, Bool.and_true]
      have q : decide (((ls.length - 2 : Nat) : Int) < (((ls.map D.str).length : Nat) : Int) - 2) = false := decide_eq_false (by rw [hm0]; omega)
      rw [← fr_q]
      cases r with
      | true => exact (GoesL.stop hO hm (p2 c n _ (ls.length - 2) f acc ls) (by simp) ⟨w0, q⟩).frz 3
      | false => exact (GoesL.stop hO hm (p4 c n _ (ls.length - 2) f acc ls) (by simp) ⟨w0, q⟩).frz 3
    | succ d ih =>
      intro i r acc hd hi ha
      have hlt : i < ls.length - 2 := by omega
      have ql : decide ((i : Int) < (((ls.map D.str).length : Nat) : Int) - 2) = true := decide_eq_true (by rw [hm0]; omega)
      have gm := get_map D.str ls i (by omega)
      have hv := valuesR (ls.getD i default) c.ins (hls _ (mem_getD (by omega)))
      have mx : acc.length + [BL (valS c.ins (ls.getD i default))].length ≤ maxItems := max6 _ (by rw [List.length_singleton]; omega)
      rw [mid_cons ls i hlt, List.map_cons, List.all_cons]
      have e : acc ++ BL (valS c.ins (ls.getD i default)) :: (mid ls (i + 1)).map (fun x => BL (valS c.ins x)) = (acc ++ [BL (valS c.ins (ls.getD i default))]) ++ (mid ls (i + 1)).map (fun x => BL (valS c.ins x)) := by simp
      rw [e]
      have hl1 : (acc ++ [BL (valS c.ins (ls.getD i default))]).length ≤ i + 1 := by rw [List.length_append, List.length_singleton]; omega
      cases r with
      | false => exact .step hO hm (p3 c n _ i f (valS c.ins (ls.getD i default)) (okV c.ins (ls.getD i default)) acc ls) ⟨w0, ql, ⟨rfl, gm⟩, hv, mx, wrap_succ (by omega)⟩ (ih (i + 1) false _ (by omega) (by omega) hl1)
      | true =>
        rw [Bool.true_and]
        exact .step hO hm (p1 c n _ i f (valS c.ins (ls.getD i default)) (okV c.ins (ls.getD i default)) acc ls) ⟨w0, ql, ⟨rfl, gm⟩, hv, mx, wrap_succ (by omega)⟩ (ih (i + 1) (okV c.ins (ls.getD i default)) _ (by omega) (by omega) hl1)
  have := key (ls.length - 2 - 3) 3 r [] rfl (by omega) (Nat.zero_le _)
  rw [List.nil_append] at this
  exact this
theorem parsedR (c : Ci) (s : List UInt8) (hs : s.length ≤ 10000) : ∃ (t : Tr) (n : Int), ICall Tryz.prog 25 [.d c.d, .d (.str s)] [] (.tup [.d t.d, .d (I n), .d (.bool (prOk c (lns s)))]) [] ∧ (prOk c (lns s) = true → t = rdT s ∧ n = prN (lns s)) := by
  have hsp : ICall Tryz.prog 56 [.d (.str s), .d (u8 10)] [] (.d (.sl ((lns s).map D.str))) [] := splitR 10 s (by omega)
  have hl0 : (((lns s).map D.str).length : Int) = ((lns s).length : Int) := by rw [List.length_map]
  have hb : (lns s).length ≤ 10001 := by
    have := splitU_len 10 s
    have := List.count_le_length (a := 10) (l := s)
    unfold lns; omega
  have no : ∀ (b : Bool), b = true → pre (lns s) = b → ICall Tryz.prog 25 [.d c.d, .d (.str s)] [] (.tup [.agg [.emp true, .emp true], .d (I 0), .d (.bool false)]) [] → ∃ (t : Tr) (n : Int), ICall Tryz.prog 25 [.d c.d, .d (.str s)] [] (.tup [.d t.d, .d (I n), .d (.bool (prOk c (lns s)))]) [] ∧ (prOk c (lns s) = true → t = rdT s ∧ n = prN (lns s)) := by
    intro b hb1 hp hc
    have e : prOk c (lns s) = false := by unfold prOk; rw [hp, hb1]; rfl
    rw [e]
    exact ⟨t0, 0, hc.frz rfl, fun h => by cases h⟩
  by_cases c1 : (lns s).length < 6
  · exact no _ rfl (by unfold pre; rw [decide_eq_true c1]; rfl) (callX_ok hO hm (Rp.q0 c s (lns s)) ⟨hsp, decide_eq_true (by rw [hl0]; omega)⟩)
  have d1 : decide ((((lns s).map D.str).length : Int) < 6) = false := decide_eq_false (by rw [hl0]; omega)
  by_cases c2 : (lns s).length > 105
  · exact no _ rfl (by unfold pre; rw [decide_eq_true c2]; simp) (callX_ok hO hm (Rp.q1 c s (lns s)) ⟨hsp, d1, decide_eq_true (by rw [hl0]; omega)⟩)
  have d2 : decide ((((lns s).map D.str).length : Int) > 105) = false := decide_eq_false (by rw [hl0]; omega)
  have w1 : IntKind.i64.wrap ((((lns s).map D.str).length : Int) - 1) = (((lns s).map D.str).length : Int) - 1 := wrap_id (by rw [hl0]; omega) (by rw [hl0]; omega)
  have w2 : IntKind.i64.wrap ((((lns s).map D.str).length : Int) - 2) = (((lns s).map D.str).length : Int) - 2 := wrap_id (by rw [hl0]; omega) (by rw [hl0]; omega)
  have e1 : ((((lns s).map D.str).length : Int) - 1).toNat = (lns s).length - 1 := by rw [hl0]; omega
  have e2 : ((((lns s).map D.str).length : Int) - 2).toNat = (lns s).length - 2 := by rw [hl0]; omega
  have g1 : (((lns s).map D.str).length : Int) - 1 = (((((lns s).map D.str).length : Int) - 1).toNat : Int) ∧ ((lns s).map D.str)[((((lns s).map D.str).length : Int) - 1).toNat]? = some (D.str ((lns s).getD ((((lns s).map D.str).length : Int) - 1).toNat default)) := ⟨by rw [e1, hl0]; omega, get_map D.str (lns s) _ (by rw [e1]; omega)⟩
  have g2 : (((lns s).map D.str).length : Int) - 2 = (((((lns s).map D.str).length : Int) - 2).toNat : Int) ∧ ((lns s).map D.str)[((((lns s).map D.str).length : Int) - 2).toNat]? = some (D.str ((lns s).getD ((((lns s).map D.str).length : Int) - 2).toNat default)) := ⟨by rw [e2, hl0]; omega, get_map D.str (lns s) _ (by rw [e2]; omega)⟩
  by_cases c3 : (lns s).getD ((lns s).length - 1) default = []
  case neg =>
    exact no _ rfl (by unfold pre; rw [decide_eq_true (p := (lns s).getD ((lns s).length - 1) default ≠ []) c3]; simp) (callX_ok hO hm (Rp.q2 c s (lns s)) ⟨hsp, d1, d2, w1, g1, by rw [e1]; show (!((lns s).getD ((lns s).length - 1) default == [])) = true; rw [beq_eq_false_iff_ne.2 c3]; rfl⟩)
  have d3 : (!((lns s).getD ((((lns s).map D.str).length : Int) - 1).toNat default == (ByteArray.mk #[]).data.toList)) = false := by rw [e1, c3]; rfl
  by_cases c4 : (lns s).getD ((lns s).length - 2) default = [46]
  case neg =>
    exact no _ rfl (by unfold pre; rw [decide_eq_true (p := (lns s).getD ((lns s).length - 2) default ≠ [46]) c4]; simp) (callX_ok hO hm (Rp.q3 c s (lns s)) ⟨hsp, d1, d2, w1, g1, d3, w2, g2, by rw [e2]; show (!((lns s).getD ((lns s).length - 2) default == [46])) = true; rw [beq_eq_false_iff_ne.2 c4]; rfl⟩)
  have d4 : (!((lns s).getD ((((lns s).map D.str).length : Int) - 2).toNat default == (ByteArray.mk #[46]).data.toList)) = false := by rw [e2, c4]; rfl
  have h0 := get_map D.str (lns s) 0 (by omega)
  have h1 := get_map D.str (lns s) 1 (by omega)
  have h2 := get_map D.str (lns s) 2 (by omega)
  by_cases c5 : (lns s).getD 0 default = [49]
  case neg =>
    exact no _ rfl (by unfold pre; rw [decide_eq_true (p := (lns s).getD 0 default ≠ [49]) c5]; simp) (callX_ok hO hm (Rp.q4 c s (lns s)) ⟨hsp, d1, d2, w1, g1, d3, w2, g2, d4, ⟨rfl, h0⟩, by show (!((lns s).getD 0 default == [49])) = true; rw [beq_eq_false_iff_ne.2 c5]; rfl⟩)
  have d5 : (!((lns s).getD 0 default == (ByteArray.mk #[49]).data.toList)) = false := by rw [c5]; rfl
  by_cases c6 : ((lns s).getD 1 default).length < 2
  · exact no _ rfl (by unfold pre; rw [decide_eq_true c6]; simp) (callX_ok hO hm (Rp.q5 c s (lns s)) ⟨hsp, d1, d2, w1, g1, d3, w2, g2, d4, ⟨rfl, h0⟩, d5, ⟨rfl, h1⟩, decide_eq_true (by omega)⟩)
  have d6 : decide ((((lns s).getD 1 default).length : Int) < 2) = false := decide_eq_false (by omega)
  have hb0 := get_byte ((lns s).getD 1 default) 0 (by omega)
  by_cases c7 : ((lns s).getD 1 default).getD 0 default = 98
  case neg =>
    have bb : (((((lns s).getD 1 default).getD 0 default).toNat : Int) == 98) = false := byte_ne (u := 98) c7
    exact no _ rfl (by unfold pre; rw [decide_eq_true (p := ((lns s).getD 1 default).getD 0 default ≠ 98) c7]; simp) (callX_ok hO hm (Rp.q6 c s _ (lns s)) ⟨hsp, d1, d2, w1, g1, d3, w2, g2, d4, ⟨rfl, h0⟩, d5, ⟨rfl, h1⟩, d6, ⟨rfl, h1⟩, ⟨rfl, hb0⟩, by rw [bne, bb]; rfl⟩)
  have d7 : (((((lns s).getD 1 default).getD 0 default).toNat : Int) != 98) = false := by rw [c7]; rfl
  have hp : pre (lns s) = false := by
    unfold pre
    rw [decide_eq_false c1, decide_eq_false c2, decide_eq_false (p := (lns s).getD ((lns s).length - 1) default ≠ []) (fun h => h c3), decide_eq_false (p := (lns s).getD ((lns s).length - 2) default ≠ [46]) (fun h => h c4), decide_eq_false (p := (lns s).getD 0 default ≠ [49]) (fun h => h c5), decide_eq_false c6, decide_eq_false (p := ((lns s).getD 1 default).getD 0 default ≠ 98) (fun h => h c7)]; rfl
  have etk : List.take (((lns s).getD 1 default).length - 1) (List.drop 1 ((lns s).getD 1 default)) = ((lns s).getD 1 default).drop 1 := List.take_of_length_le (by rw [List.length_drop]; exact Nat.le_refl _)
  have hnum : ICall Tryz.prog 57 [.d (.str (List.take (((lns s).getD 1 default).length - 1) (List.drop 1 ((lns s).getD 1 default))))] [] (.d (I (prN (lns s)))) [] := by
    rw [etk]; exact numberR _
  have hmem : ∀ l ∈ lns s, l.length ≤ 1000000 := fun l hl => by have := splitU_mem 10 s l hl; omega
  have hv := valuesR ((lns s).getD 2 default) (((c.lats.map Lt.d).length : Nat) : Int) (hmem _ (mem_getD (by omega)))
  have hlp := ploop c (lns s) (prN (lns s)) (okV (((c.lats.map Lt.d).length : Nat) : Int) ((lns s).getD 2 default)) (valS (((c.lats.map Lt.d).length : Nat) : Int) ((lns s).getD 2 default)) (by omega) (by omega) hmem
  have hll : (((c.lats.map Lt.d).length : Nat) : Int) = (c.lats.length : Int) := by rw [List.length_map]
  have eV : (okV (((c.lats.map Lt.d).length : Nat) : Int) ((lns s).getD 2 default) && (prI (lns s)).all (okV c.ins)) = prV c (lns s) := by unfold prV; rw [hll]
  rw [eV] at hlp
  have eOk : prOk c (lns s) = (prV c (lns s) && decide (0 ≤ prN (lns s))) := by unfold prOk; rw [hp]; rfl
  have cut : (1 : Int) = ((1 : Nat) : Int) ∧ (((lns s).getD 1 default).length : Int) = (((lns s).getD 1 default).length : Int) ∧ 1 ≤ ((lns s).getD 1 default).length ∧ ((lns s).getD 1 default).length ≤ ((lns s).getD 1 default).length := ⟨rfl, rfl, by omega, Nat.le_refl _⟩
  refine ⟨⟨valS (((c.lats.map Lt.d).length : Nat) : Int) ((lns s).getD 2 default), (prI (lns s)).map (valS c.ins)⟩, prN (lns s), ?_, ?_⟩
  · have eD : (⟨valS (((c.lats.map Lt.d).length : Nat) : Int) ((lns s).getD 2 default), (prI (lns s)).map (valS c.ins)⟩ : Tr).d = .agg [BL (valS (((c.lats.map Lt.d).length : Nat) : Int) ((lns s).getD 2 default)), .sl ((prI (lns s)).map fun x => BL (valS c.ins x))] := by
      show D.agg [_, D.sl (((prI (lns s)).map (valS c.ins)).map BL)] = _
      rw [List.map_map]; rfl
    rw [eD, eOk]
    cases cv : prV c (lns s) with
    | false =>
      rw [cv] at hlp
      exact callX_ok hO hm (Rp.q7 c _ _ s ((lns s).getD 1 default) _ _ _ _ (lns s)) ⟨hsp, d1, d2, w1, g1, d3, w2, g2, d4, ⟨rfl, h0⟩, d5, ⟨rfl, h1⟩, d6, ⟨rfl, h1⟩, ⟨rfl, hb0⟩, d7, ⟨rfl, h1⟩, cut, hnum, ⟨rfl, h2⟩, hv, hlp⟩
    | true =>
      rw [cv] at hlp
      by_cases cn : 0 ≤ prN (lns s)
      · rw [decide_eq_true cn]
        exact callX_ok hO hm (Rp.q8 c _ _ s ((lns s).getD 1 default) _ _ _ _ (lns s)) ⟨hsp, d1, d2, w1, g1, d3, w2, g2, d4, ⟨rfl, h0⟩, d5, ⟨rfl, h1⟩, d6, ⟨rfl, h1⟩, ⟨rfl, hb0⟩, d7, ⟨rfl, h1⟩, cut, hnum, ⟨rfl, h2⟩, hv, hlp, decide_eq_true cn⟩
      · rw [decide_eq_false cn]
        exact callX_ok hO hm (Rp.q9 c _ _ s ((lns s).getD 1 default) _ _ _ _ (lns s)) ⟨hsp, d1, d2, w1, g1, d3, w2, g2, d4, ⟨rfl, h0⟩, d5, ⟨rfl, h1⟩, d6, ⟨rfl, h1⟩, ⟨rfl, hb0⟩, d7, ⟨rfl, h1⟩, cut, hnum, ⟨rfl, h2⟩, hv, hlp, decide_eq_false cn⟩
  · intro hk
    refine ⟨?_, rfl⟩
    rw [eOk, Bool.and_eq_true] at hk
    have hk1 := hk.1
    unfold prV at hk1
    rw [Bool.and_eq_true] at hk1
    have f1 : valS (((c.lats.map Lt.d).length : Nat) : Int) ((lns s).getD 2 default) = (rdT s).first := by
      unfold valS; rw [hll, if_pos hk1.1]; rfl
    have f2 : (prI (lns s)).map (valS c.ins) = (rdT s).ins := by
      show _ = (prI (lns s)).map bo
      exact List.map_congr_left fun x hx => by unfold valS; rw [if_pos (List.all_eq_true.1 hk1.2 x hx)]
    rw [f1, f2]
theorem readR {c : Ci} (h : Cw c) (s : List UInt8) (hs : s.length ≤ 10000) : ICall Tryz.prog 8 [.d c.d, .d (.str s)] []
    (if rdE c s = 0 then .tup [.d (rdT s).d, .d (I (rdN s)), .d (I 0)] else .tup [.d t0.d, .d (I 0), .d (I (rdE c s))]) [] := by
  have hg := Tx.check h
  by_cases c0 : Gates.chk c ≠ 0
  · have e : rdE c s = Gates.chk c := by unfold rdE; rw [if_pos c0]
    rw [e, if_neg c0]
    exact (callX_ok hO hm (Rp.e0 c (Gates.chk c) s) ⟨hg, bne_iff_ne.2 c0, hg⟩).frz (frz_no _)
  have c0 := Decidable.not_not.1 c0
  rw [c0] at hg
  obtain ⟨t, n, hp, hpr⟩ := parsedR c s hs
  cases hk : prOk c (lns s) with
  | false =>
    have hf : form c s = false := by
      cases hf : form c s with
      | false => rfl
      | true => rw [of_form hf] at hk; cases hk
    have e : rdE c s = 12 := by unfold rdE; rw [if_neg (by rw [c0]; simp), hf]; rfl
    rw [hk] at hp
    rw [e, if_neg (by decide)]
    exact (callX_ok hO hm (Rp.e1 c t n s) ⟨hg, rfl, hp, rfl⟩).frz (frz_no _)
  | true =>
    obtain ⟨hf, hn⟩ := form_of hk
    obtain ⟨rfl, rfl⟩ := hpr hk
    rw [hk, hn] at hp
    have e : rdE c s = wtChk c (rdT s) (rdN s) := by unfold rdE; rw [if_neg (by rw [c0]; simp), hf, if_pos rfl]
    have hf2 := hf
    unfold form at hf2
    rw [Bool.and_eq_true, Bool.not_eq_true'] at hf2
    obtain ⟨ht, hz⟩ := bounds (c := c) hs hf2.1
    have hc := wcheckR h ht (rdN s)
    rw [e]
    by_cases c1 : wtChk c (rdT s) (rdN s) = 0
    · rw [if_pos c1]
      rw [c1] at hc
      exact callX_ok hO hm (Rp.e3 c (rdT s) (rdN s) 0 s) ⟨hg, rfl, hp, rfl, hc, rfl⟩
    · rw [if_neg c1]
      exact (callX_ok hO hm (Rp.e2 c (rdT s) (rdN s) (wtChk c (rdT s) (rdN s)) s) ⟨hg, rfl, hp, rfl, hc, bne_iff_ne.2 c1, hc⟩).frz (frz_no _)
end Go.Proofs.YtccejdncpknbaaaGreatDoor.Sy.Rp
/- WitnessReads: the law. -/
namespace Go.Proofs.YtccejdncpknbaaaGreatDoor.Sy.Lw
open Go Go.Proofs.YtccejdncpknbaaaGreatDoor.Ab Go.Proofs.YtccejdncpknbaaaGreatDoor.Sy Go.Proofs.YtccejdncpknbaaaGreatDoor.Sy.Tx Go.Proofs.YtccejdncpknbaaaGreatDoor.Sy.Vl Go.Proofs.YtccejdncpknbaaaGreatDoor.Sy.Tc Go.Proofs.YtccejdncpknbaaaGreatDoor.Sy.Wi Go.Proofs.YtccejdncpknbaaaGreatDoor.Sy.Rf Go.Proofs.YtccejdncpknbaaaGreatDoor.Sy.Rd
set_option maxRecDepth 1000000
set_option linter.unusedVariables false
section
variable (c : Ci) (t : Tr) (n e : Int) (s : List UInt8)
theorem x0  : callX Tryz.prog wr false O 3 [.d c.d, .d (.str s)] [] [It.icall [] (V.d (D.bool true)) []] = some (V.d (D.bool true), [],
  [ICall Tryz.prog 6 [V.d (D.agg [I c.ins, D.sl (List.map Lt.d c.lats), D.sl (List.map An.d c.ands), L c.bads, L c.cons])] [] (V.d (D.bool true)) []]) := by kernel_rfl
theorem x1  : callX Tryz.prog wr false O 3 [.d c.d, .d (.str s)] [] [It.icall [] (V.d (D.bool false)) [], It.br true] = some (V.d (D.bool true), [],
  [ICall Tryz.prog 6 [V.d (D.agg [I c.ins, D.sl (List.map Lt.d c.lats), D.sl (List.map An.d c.ands), L c.bads, L c.cons])] [] (V.d (D.bool false)) [],
   decide ((↑s.length : Int) > 3000) = true]) := by kernel_rfl
theorem x2  : callX Tryz.prog wr false O 3 [.d c.d, .d (.str s)] [] [It.icall [] (V.d (D.bool false)) [], It.br false, It.icall [] (V.tup [V.d t.d, V.d (I n), V.d (I e)]) [], It.icall [] (V.tup [V.d t.d, V.d (I n), V.d (I e)]) [], It.icall [] (V.d (D.bool true)) [], It.br true, It.br true] = some (V.d (D.bool true), [],
  [ICall Tryz.prog 6 [V.d (D.agg [I c.ins, D.sl (List.map Lt.d c.lats), D.sl (List.map An.d c.ands), L c.bads, L c.cons])] [] (V.d (D.bool false)) [],
   decide ((↑s.length : Int) > 3000) = false,
   ICall Tryz.prog 7 [V.d (D.agg [I c.ins, D.sl (List.map Lt.d c.lats), D.sl (List.map An.d c.ands), L c.bads, L c.cons]), V.d (D.str s)] [] (V.tup [V.d t.d, V.d (I n), V.d (I e)]) [],
   ICall Tryz.prog 8 [V.d (D.agg [I c.ins, D.sl (List.map Lt.d c.lats), D.sl (List.map An.d c.ands), L c.bads, L c.cons]), V.d (D.str s)] [] (V.tup [V.d t.d, V.d (I n), V.d (I e)]) [],
   ICall Tryz.prog 9 [V.d (D.agg [BL t.first, D.sl (List.map BL t.ins)]), V.d (D.agg [BL t.first, D.sl (List.map BL t.ins)])] [] (V.d (D.bool true)) [],
   (n == n) = true,
   (e == e) = true]) := by kernel_rfl
end
end Go.Proofs.YtccejdncpknbaaaGreatDoor.Sy.Lw
/- WitnessReads, whole. -/
namespace Go.Proofs.YtccejdncpknbaaaGreatDoor.Sy.Lw
open Go Go.Proofs.YtccejdncpknbaaaGreatDoor.Ab Go.Proofs.YtccejdncpknbaaaGreatDoor.Sy Go.Proofs.YtccejdncpknbaaaGreatDoor.Sy.Tx Go.Proofs.YtccejdncpknbaaaGreatDoor.Sy.Vl Go.Proofs.YtccejdncpknbaaaGreatDoor.Sy.Tc Go.Proofs.YtccejdncpknbaaaGreatDoor.Sy.Wi Go.Proofs.YtccejdncpknbaaaGreatDoor.Sy.Rf Go.Proofs.YtccejdncpknbaaaGreatDoor.Sy.Rd
set_option maxRecDepth 1000000
set_option linter.unusedVariables false
theorem witnessReads (c : Ci) (s : List UInt8) (hx : Cx c) : ICall Tryz.prog 3 [.d c.d, .d (.str s)] [] (.d (.bool true)) [] := by
  have hg := great2_ok c
  cases cg : great2 c with
  | true => rw [cg] at hg; exact callX_ok hO hm (Lw.x0 c s) hg
  | false =>
  rw [cg] at hg
  have h := cw_of cg hx
  by_cases cs : s.length > 3000
  · exact callX_ok hO hm (Lw.x1 c s) ⟨hg, decide_eq_true (by omega)⟩
  have ds : decide (((s.length : Nat) : Int) > 3000) = false := decide_eq_false (by omega)
  have h1 := read h s (by omega)
  have h2 := Rp.readR h s (by omega)
  by_cases c0 : rdE c s = 0
  · rw [if_pos c0] at h1 h2
    have hf := (rd_ok c0).2.1
    unfold form at hf
    rw [Bool.and_eq_true, Bool.not_eq_true'] at hf
    obtain ⟨ht, hz⟩ := bounds (c := c) (by omega) hf.1
    have hs := sameT (rdT s) (rdT s) ht ht
    rw [decide_eq_true rfl, decide_eq_true rfl] at hs
    exact callX_ok hO hm (Lw.x2 c (rdT s) (rdN s) 0 s) ⟨hg, ds, h1, h2, hs, beq_self_eq_true _, beq_self_eq_true _⟩
  · rw [if_neg c0] at h1 h2
    have ht : Tw Rd.t0 := ⟨by decide, by decide, fun l hl => by cases hl⟩
    have hs := sameT Rd.t0 Rd.t0 ht ht
    rw [decide_eq_true rfl, decide_eq_true rfl] at hs
    exact callX_ok hO hm (Lw.x2 c Rd.t0 0 (rdE c s) s) ⟨hg, ds, h1, h2, hs, beq_self_eq_true _, beq_self_eq_true _⟩
end Go.Proofs.YtccejdncpknbaaaGreatDoor.Sy.Lw
/- The row of WitnessReads. -/
namespace Go.Proofs.YtccejdncpknbaaaGreatDoor.witnessReads
open Go.ChangeShapes Go.WideShapes Go.ChangeAt Go.RowKit Go.Proofs.YtccejdncpknbaaaGreatDoor.Ab Go.Proofs.YtccejdncpknbaaaGreatDoor.Sy Go.Proofs.YtccejdncpknbaaaGreatDoor.Lk Go.Proofs.YtccejdncpknbaaaGreatDoor.Sy.Tc
set_option linter.unusedVariables false
theorem calls (W : World) (hG : GOk W (Old W)) (r0 : Ci) (r1 : ByteArray) (v0 : Value) (v1 : Value) (k0 : okC r0) (k1 : okS r1) (h0 : DRel W (Old W) r0.d v0) (h1 : DRel W (Old W) (.str r1.data.toList) v1) :
    Calls Tryz.prog 3 #[v0, v1] W (fun e W' => e = .returned (.bool true) ∧ Below W.heap.size W W') := by
  have h := Sy.Lw.witnessReads r0 r1.data.toList (cx_of k0) W (Old W) [] [v0, v1] (srel_nil (fun _ h => h) hG) ⟨h0, h1, trivial⟩
  refine h.mono fun e W' ⟨x, μ', Pr', he, _, hx, hev, _⟩ => ?_
  obtain rfl : x = .bool true := Ab.drel_bool (show Ab.DRel W' Pr' (.bool true) x from hx)
  exact ⟨he, hev.os, hev.tape, hev.output, hev.size, fun k hk => hev.block k hk (by simp [Ab.owns])⟩
set_option maxRecDepth 100000 in
theorem lifted (os : Os) (started : os.Started) (H : Type) (enc : TypeId × Value → H) :
    ReturnsInHanded {} Tryz.checked os 3 .any (fun w args => (Rows.witnessReadsSpec.pre enc Tryz.prog Tryz.f3 Rows.witnessReadsRow.domain false w args ∧ laidMetH Tryz.prog Rows.witnessReadsRow.laid w) ∧ sizedMet enc Tryz.prog Tryz.f3 (OpenSpec.ofChange Rows.witnessReadsSpec) false w args)
      (Rows.witnessReadsSpec.post enc Tryz.prog Tryz.f3 false true false false) := by
  refine returnsInHanded_of_change_and (C := Tryz.checked) (X := fun w _ => laidMetH Tryz.prog Rows.witnessReadsRow.laid w) (fun _ _ _ hh h => h.of_heap hh) own started (by kernel_rfl) Tryz.func3
    (ChangeSpec.witness_shaped (enc := enc) (C := Tryz.checked) (os := os) (X := fun w _ => laidMetH Tryz.prog Rows.witnessReadsRow.laid w) false (World.laidAll Tryz.prog os Rows.witnessReadsRow.laid) #[.agg #[.int .i64 0, .slice none 0 0, .slice none 0 0, .slice none 0 0, .slice none 0 0], .string .empty] 8 (World.laidAll_os _ _ _)
      (World.shaped_of_ZipB (by kernel_rfl) (by kernel_rfl)) (by kernel_rfl) (by kernel_rfl) (by kernel_rfl)
      (by rw [MakeChecks.laidMetH_plain _ _ _ (by kernel_rfl)]; exact laidMet_laidAll _ (by kernel_rfl) (by kernel_rfl))) ?_
  intro W base args ds gs before hval0 hW hcnd _ hL _
  have hval : ∀ (j : Nat) t v, Tryz.f3.params[j]? = some t → args[j]? = some v → Value.okWide Tryz.prog W .any base t v := hval0
  have hW' := hW
  obtain ⟨p, q, hA0, hV, rfl, hfz, hnd⟩ := hW
  have hA : DataW.TrodAll enc Tryz.prog W 0 (fun _ => true) true Tryz.f3.params.toList args.toList ds p := hA0
  rw [Tryz.params3] at hA hval
  obtain ⟨v0, vs0, d0, ds0, p0, q0, hargs0, rfl, rfl, h0, r0⟩ := trodAll_cons hA
  obtain ⟨v1, vs1, d1, ds1, p1, q1, hargs1, rfl, rfl, h1, r1⟩ := trodAll_cons r0
  obtain ⟨rfl, rfl, rfl⟩ := trodAll_nil r1
  obtain rfl : args = #[v0, v1] := by cases args; simp_all
  obtain ⟨rfl, rfl⟩ := trodVars_none hV
  have k0 := h0
  have lt0 : ∀ x ∈ p0, x.block < W.heap.size := by obtain ⟨m, hm⟩ := k0; exact DataW.trod_lt m _ _ _ hm
  obtain ⟨a0, ok0, g0⟩ := drel_struct Tryz.underlying26 opC (hval 0 26 v0 rfl rfl) h0
  have k1 := h1
  have lt1 : ∀ x ∈ p1, x.block < W.heap.size := by obtain ⟨m, hm⟩ := k1; exact DataW.trod_lt m _ _ _ hm
  obtain ⟨a1, rfl, rfl, rfl, ok1⟩ := Go.ChangeMaps.open_string Tryz.underlying9 (hval 1 9 v1 rfl rfl) h1
  clear hA0 hval0
  refine (calls W (gok hL) a0 a1 _ _ ok0 ok1 g0 (.str _)).mono fun e W' ⟨he, bel⟩ => ?_
  subst he
  exact ⟨_, rfl, _, _, _, [], _, [], hW', trodAll_mk1 (shut_bool Tryz.underlying4 _), (trodAll_cons_mk (Below.trod laidOut (by kernel_rfl) (of_decide_eq_true (by kernel_rfl)) k0 bel lt0) (trodAll_cons_mk (Below.trod laidOut (by kernel_rfl) (of_decide_eq_true (by kernel_rfl)) k1 bel lt1) trodAll_mk0)), rfl, bel.frame _, fun h => by cases h⟩
theorem over : Rows.witnessReadsRow.holds Tryz.pinned (OpenSpec.ofChange Rows.witnessReadsSpec) :=
  OpenClaim.holds_of_wide 3 Tryz.f3 rfl rfl rfl rfl rfl rfl rfl ⟨rfl, rfl, rfl, rfl, rfl⟩ rfl rfl rfl rfl rfl (by kernel_rfl) Tryz.func3 (by kernel_rfl)
    (of_decide_eq_true (by kernel_rfl)) (by unfold Func.isWrapper; first | (rw [if_pos (by decide +kernel)]; kernel_rfl) | (rw [if_neg (by decide +kernel)]; exact ⟨rfl, rfl⟩))
    (fun os started H enc _ => lifted os started H enc)
theorem card : Rows.WitnessReadsCardSaid :=
  Claim7.holds_tied_plain_at .later [] [.data, .data, .data, .data, .sentinel, .sentinel, .pinned] true (true, "193f439f67d624c536cc7965709240a3b6796ce69c5c5b5e77caed2ceb7784ad") true
    over (fun _ h => by cases h) (by kernel_rfl) (fun _ h => by cases h) witnessReads_row_tie rfl ⟨rfl, rfl⟩ (by kernel_rfl) rfl
    (fun f fn hf hfn => by
      obtain rfl : f = 3 := Option.some.inj ((show Tryz.prog.funcNamed "spiritlevel/spiritlevellaw11.WitnessReads" = some 3 by kernel_rfl).symm.trans hf) |>.symm
      obtain rfl : fn = Tryz.f3 := (Option.some.inj (Tryz.func3.symm.trans hfn)).symm
      exact ⟨by kernel_rfl, fun j t ht => by
        rw [Tryz.params3] at ht
        have hm : t ∈ [26, 9] := by simpa using Array.mem_of_getElem? ht
        have hall : ([26, 9].all fun u => !Tryz.prog.wantsStandIn u) = true := by kernel_rfl
        exact (show Tryz.prog.wantsStandIn t = false by simpa using List.all_eq_true.1 hall t hm)⟩)
    (by kernel_rfl)
end Go.Proofs.YtccejdncpknbaaaGreatDoor.witnessReads
namespace Go.Proofs.YtccejdncpknbaaaGreatDoor
/-- The card, under a short name, for the claim. -/
theorem witnessReads_holds : Rows.WitnessReadsCardSaid := witnessReads.card
end Go.Proofs.YtccejdncpknbaaaGreatDoor
