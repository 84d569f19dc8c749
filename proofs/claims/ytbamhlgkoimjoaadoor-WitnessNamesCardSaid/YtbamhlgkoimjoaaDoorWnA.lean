/- Texts of this claim, one behind the other: Plain data. .. -/
import Derived.Calls
import GoSem.Dispatch
import Derived.Lib.Bytealg
import Derived.Laws.AppendOwn
import Derived.Laws.OwnMore
import Derived.Deep.MidRow
import Derived.Laws.StructEq
import Derived.Deep.AppendSrc
/- Plain data. -/
namespace Go.Proofs.YtbamhlgkoimjoaaDoor.Ab
open Go

/-- Plain data. -/
inductive D where
  | int (k : IntKind) (n : Int)
  | bool (b : Bool)
  | str (s : List UInt8)
  | sl (xs : List D)
  | agg (ds : List D)
  | inil
  | iany

def D.cells : D → List D
  | .agg ds => ds
  | d => [d]

end Go.Proofs.YtbamhlgkoimjoaaDoor.Ab
/- Package-level variables that are only read, by their numbers; and tables, whose whole block is known (for calls that are known by the library's contracts). -/
namespace Go.Proofs.YtbamhlgkoimjoaaDoor.Ab
open Go
def globD : Nat → Option D := fun g => if g = 0 then some .iany else none
def pow10 : List Int := [1, 10, 100, 1000, 10000, 100000, 1000000, 10000000, 100000000, 1000000000, 10000000000, 100000000000, 1000000000000, 10000000000000, 100000000000000, 1000000000000000, 10000000000000000, 100000000000000000, 1000000000000000000, 10000000000000000000]
def globT : List (Nat × Array Value) := [(2, (pow10.map fun z => Value.int .u64 z).toArray)]
end Go.Proofs.YtbamhlgkoimjoaaDoor.Ab
/- An abstract machine for the model's code: plain data for what is only read, a store of boxes and growing lists for what is written. It is run by recursion; what symbols cannot decide is told by a script, and each item of the script leaves a condition. -/
namespace Go.Proofs.YtbamhlgkoimjoaaDoor.Ab
open Go

/-- What a slot or a box's cell holds. -/
inductive V where
  | undef
  | void
  | d (x : D)
  | emp (nil : Bool)      -- an empty slice without room
  | nnil                   -- an empty slice that is not nil
  | nlc                    -- one that is
  | nilp                   -- a nil pointer
  | own (e : Nat) (xs : List D)          -- a list that a call returns; e: its elements' type
  | own2 (e : Nat) (xss : List (Option (List D)))
  | arr (id : Nat)
  | inn (id i : Nat)
  | win (id lo n : Nat)
  | ptr (id off : Nat)
  | eptr (id i sub : Nat)
  | iptr (id i k : Nat)
  | dptr (x : D) (sub : Nat)
  | func (f : Nat) (cap : List V)
  | iface (t : Nat) (v : V)
  | agg (cs : List V)
  | tup (vs : List V)

/-- A block of the store: a variable's cells, a list, a list of lists. -/
inductive B where
  | bx (ty : Option Nat) (cells : List V)
  | lst (e : Nat) (xs : List D)
  | lst2 (e : Nat) (xss : List (Option (List D)))
  | dead

/-- A variable's cells; its type is not told. -/
abbrev B.box (cells : List V) : B := .bx none cells

structure St where
  slots : List V
  blks : List B

inductive Ex where
  | normal
  | exit (id : Nat)
  | ret
  deriving DecidableEq

inductive It where
  | raw
  | own
  | br (b : Bool)
  | is (n : Int)
  | ix (i : Nat)
  | el (i : Nat) (d : D)
  | ls (ys : List D)
  | cut (lo hi : Nat)
  | len (n : Nat)
  | st (s : List UInt8)
  | by (i : Nat) (b : UInt8)
  | ret (r : V)
  | icall (ids : List Nat) (r : V) (bs : List B)
  | lp (keep : List Nat) (e : Ex) (s1 : St)

abbrev Script := Option (List It)

/-- The shape of a block: what a write of an element does not change. -/
inductive BS where
  | lst (e n : Nat)
  | lst2 (e n : Nat)
  | none
def B.shape : B → BS
  | .lst e xs => .lst e xs.length
  | .lst2 e xss => .lst2 e xss.length
  | _ => .none

inductive Q (α : Type) where
  | ret (a : α)
  | fail
  | slot (n : Nat) (k : V → Q α)
  | blk (id : Nat) (k : B → Q α)
  | shp (id : Nat) (k : BS → Q α)
  | nblk (k : Nat → Q α)
  | pop (k : Option It → Q α)
  | req (p : Prop) (k : Q α)
  | call (f : Nat) (as : List V) (bs : List B) (k : V → List B → Q α)

def Q.bind {α β : Type} : Q α → (α → Q β) → Q β
  | .ret a, f => f a
  | .fail, _ => .fail
  | .slot n k, f => .slot n fun v => (k v).bind f
  | .blk id k, f => .blk id fun v => (k v).bind f
  | .shp id k, f => .shp id fun v => (k v).bind f
  | .nblk k, f => .nblk fun v => (k v).bind f
  | .pop k, f => .pop fun v => (k v).bind f
  | .req p k, f => .req p (k.bind f)
  | .call g as bs k, f => .call g as bs fun r b => (k r b).bind f

instance : Monad Q where
  pure := Q.ret
  bind := Q.bind

abbrev Orc := Nat → List V → List B → Option (V × List B)

def St.slot (s : St) (n : Nat) : V := (s.slots[n]?).getD .undef
def St.blk (s : St) (n : Nat) : B := (s.blks[n]?).getD .dead

def Q.run {α : Type} (O : Orc) (s : St) : Q α → Script → Option (α × Script × List Prop)
  | .ret a, sc => some (a, sc, [])
  | .fail, _ => none
  | .slot n k, sc => (k (s.slot n)).run O s sc
  | .blk n k, sc => (k (s.blk n)).run O s sc
  | .shp n k, sc => (k (s.blk n).shape).run O s sc
  | .nblk k, sc => (k s.blks.length).run O s sc
  | .pop k, none => (k none).run O s none
  | .pop _, some [] => none
  | .pop k, some (i :: r) => (k (some i)).run O s (some r)
  | .req p k, sc => match k.run O s sc with
    | some (a, sc', ps) => some (a, sc', p :: ps)
    | none => none
  | .call f as bs k, sc => match O f as bs with
    | some (r, bs') => (k r bs').run O s sc
    | none => none

/-- What was read: slots, blocks, the number of blocks. -/
structure Log where
  slots : List Nat := []
  blks : List Nat := []
  shps : List Nat := []
  nb : Bool := false

/-- The same, with what was read. -/
def Q.runL {α : Type} (O : Orc) (s : St) : Q α → Script → Option (α × Script × List Prop × Log)
  | .ret a, sc => some (a, sc, [], {})
  | .fail, _ => none
  | .slot n k, sc => match (k (s.slot n)).runL O s sc with
    | some (a, sc', ps, l) => some (a, sc', ps, { l with slots := n :: l.slots })
    | none => none
  | .blk n k, sc => match (k (s.blk n)).runL O s sc with
    | some (a, sc', ps, l) => some (a, sc', ps, { l with blks := n :: l.blks })
    | none => none
  | .shp n k, sc => match (k (s.blk n).shape).runL O s sc with
    | some (a, sc', ps, l) => some (a, sc', ps, { l with shps := n :: l.shps })
    | none => none
  | .nblk k, sc => match (k s.blks.length).runL O s sc with
    | some (a, sc', ps, l) => some (a, sc', ps, { l with nb := true })
    | none => none
  | .pop k, none => (k none).runL O s none
  | .pop _, some [] => none
  | .pop k, some (i :: r) => (k (some i)).runL O s (some r)
  | .req p k, sc => match k.runL O s sc with
    | some (a, sc', ps, l) => some (a, sc', p :: ps, l)
    | none => none
  | .call f as bs k, sc => match O f as bs with
    | some (r, bs') => (k r bs').runL O s sc
    | none => none

/-- What becomes of the references to a list: they go (it has grown), they are data (it is frozen), those to inner lists go. -/
inductive KK where
  | gone
  | frz (d : D)
  | inner

structure Patch where
  sets : List (Nat × V) := []
  bsets : List (Nat × B) := []
  mods : List (Nat × Nat × D) := []
  push : List B := []
  kill : List (Nat × KK) := []

def kill0 (id : Nat) (k : KK) : V → V
  | .arr i => if i = id then (match k with | .gone => .undef | .frz d => .d d | .inner => .arr i) else .arr i
  | .inn i j => if i = id then .undef else .inn i j
  | .iptr i j n => if i = id then .undef else .iptr i j n
  | .win i l n => if i = id then (match k with | .inner => .win i l n | _ => .undef) else .win i l n
  | .eptr i j n => if i = id then (match k with | .inner => .eptr i j n | _ => .undef) else .eptr i j n
  | v => v
def kill1 (id : Nat) (k : KK) : V → V
  | .agg cs => .agg (cs.map (kill0 id k))
  | .tup _ => .undef
  | .iface t v => .iface t (kill0 id k v)
  | .func f cap => .func f (cap.map (kill0 id k))
  | v => kill0 id k v
def killB (id : Nat) (k : KK) : B → B
  | .bx ty cs => .bx ty (cs.map (kill1 id k))
  | b => b
def St.kill (s : St) (k : Nat × KK) : St := ⟨s.slots.map (kill1 k.1 k.2), s.blks.map (killB k.1 k.2)⟩

def setAll {α : Type} : List (Nat × α) → List α → List α
  | [], l => l
  | (n, v) :: r, l => setAll r (l.set n v)

/-- An element of a list is another one. -/
def modB (i : Nat) (x : D) : B → B
  | .lst e xs => .lst e (xs.set i x)
  | b => b
def modAll : List (Nat × Nat × D) → List B → List B
  | [], l => l
  | (n, i, x) :: r, l => modAll r (l.modify n (modB i x))

def Patch.apply (p : Patch) (s : St) : St :=
  let s := p.kill.foldl St.kill s
  ⟨setAll p.sets s.slots, modAll p.mods (setAll p.bsets s.blks) ++ p.push⟩

/-! ### values -/

def simple0 : V → Bool
  | .func _ _ | .iface _ _ | .agg _ | .tup _ | .own _ _ | .own2 _ _ => false
  | _ => true


def constV : Value → Option V
  | .int k n => some (.d (.int k n))
  | .bool b => some (.d (.bool b))
  | .string s => some (.d (.str s.data.toList))
  | .nilIface => some (.d .inil)
  | .slice none 0 0 => some (.emp true)
  | .nilFunc => some .undef
  | .pointer none => some .nilp
  | _ => none

def allD : List V → Option (List D)
  | [] => some []
  | .d x :: r => (allD r).map (x :: ·)
  | _ => none

def mkAgg (cs : List V) : V := match allD cs with
  | some ds => .d (.agg ds)
  | none => .agg cs

def isNilp : V → Bool
  | .nilp => true
  | _ => false

def constC : List Value → Option (List V)
  | [] => some []
  | v :: r => match constV v, constC r with
    | some x, some y => some (x :: y)
    | _, _ => none

def constVA : Value → Option V
  | .agg cs => (constC cs.toList).map mkAgg
  | v => constV v

def opd : Operand → Q V
  | .tmp t => .slot t .ret
  | .const v => match constVA v with
    | some x => .ret x
    | none => .fail
  | .func f => .ret (.func f [])
  | .global g => match globD g with
    | some x => .ret (.dptr x 0)
    | none => .fail

def opds : List Operand → Q (List V)
  | [] => .ret []
  | x :: r => (opd x).bind fun v => (opds r).bind fun vs => .ret (v :: vs)

def isConst : Operand → Bool
  | .const _ => true
  | _ => false

variable (P : Program)

def szOf (t : TypeId) : Option Nat := (P.info? t).map (·.size)
def aggD : TypeDesc → Bool
  | .struct _ | .array _ _ => true
  | _ => false
def kindT (t : TypeId) : Option Bool := (P.underlying t).map aggD
def elemOf (t : TypeId) : Option TypeId := match P.underlying t with
  | some (.slice e) => some e
  | _ => none
def zeroC (t : TypeId) : Option (List V) := match P.info? t with
  | some i => match i.zero with
    | some z => constC z.cells.toList
    | none => none
  | none => none

def guardQ (b : Bool) : Q Unit := if b then .ret () else .fail
def optQ {α : Type} : Option α → Q α
  | some a => .ret a
  | none => .fail

def putP (dst : Option Nat) (v : V) : Patch := match dst with
  | some d => { sets := [(d, v)] }
  | none => {}

/-- Plain data of a value, lists read out. -/
def toD0 : V → Q D
  | .d x => .ret x
  | .emp _ => .ret (.sl [])
  | .nnil => .ret (.sl [])
  | .win id lo n => .blk id fun | .lst _ xs => .ret (.sl ((xs.drop lo).take n)) | _ => .fail
  | .arr id => .blk id fun | .lst _ xs => .ret (.sl xs) | _ => .fail
  | .own _ xs => .ret (.sl xs)
  | _ => .fail
def toDs : List V → Q (List D)
  | [] => .ret []
  | v :: r => (toD0 v).bind fun x => (toDs r).bind fun xs => .ret (x :: xs)
def toD : V → Q D
  | .agg cs => (toDs cs).bind fun xs => .ret (.agg xs)
  | v => toD0 v
def toDL : List V → Q (List D)
  | [] => .ret []
  | v :: r => (toD v).bind fun x => (toDL r).bind fun xs => .ret (x :: xs)

/-- The same, but what is known to be nil stays so. -/
def toA0 : V → Q V
  | .emp b => .ret (.emp b)
  | v => (toD0 v).bind fun x => .ret (.d x)
def toAs : List V → Q (List V)
  | [] => .ret []
  | v :: r => (toA0 v).bind fun x => (toAs r).bind fun xs => .ret (x :: xs)
def toA : V → Q V
  | .agg cs => (toAs cs).bind fun xs => .ret (mkAgg xs)
  | v => toA0 v
def toAL : List V → Q (List V)
  | [] => .ret []
  | v :: r => (toA v).bind fun x => (toAL r).bind fun xs => .ret (x :: xs)

/-- The lists to which a value refers. -/
def refs0 : V → List Nat
  | .arr id => [id]
  | .win id _ _ => [id]
  | _ => []
def refs : V → List Nat
  | .agg cs => cs.flatMap refs0
  | v => refs0 v

/-- No slice in it: no memory is shared through it. -/
def D.safe0 : D → Bool
  | .sl (_ :: _) => false
  | .agg _ => false
  | _ => true
def D.safe : D → Bool
  | .agg ds => ds.all D.safe0
  | d => d.safe0
def V.safe0 : V → Bool
  | .d x => x.safe
  | .own _ xs => xs.all D.safe
  | .own2 _ xss => xss.all fun | some ys => ys.all D.safe | none => true
  | .emp _ => true
  | .nnil => true
  | _ => false
def V.safe1 : V → Bool
  | .agg cs => cs.all V.safe0
  | v => v.safe0
def V.safe : V → Bool
  | .tup vs => vs.all V.safe1
  | v => v.safe1

/-- Lists that a call returns, laid as blocks. -/
def layV (n : Nat) : V → V × List B
  | .own wd xs => (.arr n, [.lst wd xs])
  | .own2 wd xss => (.arr n, [.lst2 wd xss])
  | v => (v, [])
def layL (n : Nat) : List V → List V × List B
  | [] => ([], [])
  | v :: r => let (x, b) := layV n v; let (xs, bs) := layL (n + b.length) r; (x :: xs, b ++ bs)
def lay1 (n : Nat) : V → V × List B
  | .agg cs => let (xs, bs) := layL n cs; (.agg xs, bs)
  | v => layV n v
def layT (n : Nat) : List V → List V × List B
  | [] => ([], [])
  | v :: r => let (x, b) := lay1 n v; let (xs, bs) := layT (n + b.length) r; (x :: xs, b ++ bs)
def lay (n : Nat) : V → V × List B
  | .tup cs => let (xs, bs) := layT n cs; (.tup xs, bs)
  | v => lay1 n v

/-! ### operations on integers -/

def popInt (v : Int) (k : IntKind) : Q V := .pop fun
  | some (.is n) => .req (v = n) (.ret (.d (.int k n)))
  | _ => .ret (.d (.int k v))
def popBool (v : Bool) : Q V := .pop fun
  | some (.br b) => .req (v = b) (.ret (.d (.bool b)))
  | _ => .ret (.d (.bool v))

def binInt (op : BinOp) (k : IntKind) (a b : Int) : Q V :=
  match op with
  | .add => popInt (k.wrap (a + b)) k
  | .sub => popInt (k.wrap (a - b)) k
  | .mul => popInt (k.wrap (a * b)) k
  | .quo => if b = 0 then .fail else popInt (k.wrap (a.tdiv b)) k
  | .rem => if b = 0 then .fail else popInt (a.tmod b) k
  | .and => popInt (k.wrap (BitVec.ofInt k.bits a &&& BitVec.ofInt k.bits b).toNat) k
  | .or => popInt (k.wrap (BitVec.ofInt k.bits a ||| BitVec.ofInt k.bits b).toNat) k
  | .xor => popInt (k.wrap (BitVec.ofInt k.bits a ^^^ BitVec.ofInt k.bits b).toNat) k
  | .eql => popBool (a == b)
  | .neq => popBool (a != b)
  | .lss => popBool (decide (a < b))
  | .leq => popBool (decide (a ≤ b))
  | .gtr => popBool (decide (a > b))
  | .geq => popBool (decide (a ≥ b))
  | _ => .fail

def shiftInt (op : BinOp) (k : IntKind) (a b : Int) : Q V :=
  if b < 0 then .fail else
  match op with
  | .shl => popInt (k.wrap (a * 2 ^ min b.toNat k.bits)) k
  | .shr => popInt (a.fdiv (2 ^ min b.toNat k.bits)) k
  | _ => .fail

/-- The model compares two structs of n whole numbers as one would. -/
def EqOk (t : TypeId) (n : Nat) : Prop := ∀ (is js : List Int) (w : World), is.length = n → js.length = n →
  (Op.equal t (.agg (is.map (Value.int .i64)).toArray) (.agg (js.map (Value.int .i64)).toArray)).run P w = .ok (decide (is = js)) w ∧
  P.eqGuardType P.depth t = false

/-- Fields that are whole numbers, one behind another. -/
def eqFB : Nat → List Field → Bool
  | _, [] => true
  | i, f :: r => f.name != "_" && f.offset == i && (match P.underlying f.type with | some (.int _) => true | _ => false) && eqFB (i + 1) r
def eqOkB (t : TypeId) (n : Nat) : Bool := match P.underlying t with
  | some (.struct fs) => !P.stoodInHeld t && fs.size == n && eqFB P 0 fs.toList
  | _ => false

def ints : List D → Option (List Int)
  | [] => some []
  | .int .i64 n :: r => (ints r).map (n :: ·)
  | _ => none

def binStr (op : BinOp) (a b : List UInt8) : Q V :=
  match op with
  | .add => .pop fun
    | none => if a.length + b.length < 2 ^ 62 then .ret (.d (.str (a ++ b))) else .fail
    | some _ => .req (a.length + b.length < 2 ^ 62) (.ret (.d (.str (a ++ b))))
  | .eql => popBool (a == b)
  | .neq => popBool (!(a == b))
  | _ => .fail

/-- Is a slice, an interface value, nil? -/
def nilB : V → Option Bool
  | .emp true => some true
  | .nnil => some false
  | .nlc => some true
  | .d (.sl (_ :: _)) => some false
  | _ => none
def inilB : D → Option Bool
  | .inil => some true
  | .iany => some false
  | _ => none

def binV (c : Bool) (op : BinOp) (t : TypeId) : V → V → Q V
  | .d (.int k a), .d (.int k' b) => match op with
    | .shl | .shr => shiftInt op k a b
    | _ => if k = k' then binInt op k a b else .fail
  | .d (.str a), .d (.str b) => binStr op a b
  | .d (.bool a), .d (.bool b) => match P.underlying t, op with
    | some .bool, .eql => popBool (a == b)
    | some .bool, .neq => popBool (!(a == b))
    | _, _ => .fail
  | .d (.agg xs), .d (.agg ys) => match ints xs, ints ys with
    | some is, some js => if is.length = js.length ∧ eqOkB P t is.length = true then (match op with
      | .eql => popBool (decide (is = js))
      | .neq => popBool (!decide (is = js))
      | _ => .fail) else .fail
    | _, _ => .fail
  | .ptr _ _, .nilp => match P.underlying t, op with
    | some (.pointer _), .eql => .ret (.d (.bool false))
    | some (.pointer _), .neq => .ret (.d (.bool true))
    | _, _ => .fail
  | .nilp, .nilp => match P.underlying t, op with
    | some (.pointer _), .eql => .ret (.d (.bool true))
    | some (.pointer _), .neq => .ret (.d (.bool false))
    | _, _ => .fail
  | x, .emp true => match nilB x, P.underlying t, op with
    | some b, some (.slice _), .eql => .ret (.d (.bool b))
    | some b, some (.slice _), .neq => .ret (.d (.bool (!b)))
    | _, _, _ => .fail
  | .d x, .d .inil => match inilB x, P.underlying t, op with
    | some b, some (.interface _), .eql => if c then .ret (.d (.bool b)) else .fail
    | some b, some (.interface _), .neq => if c then .ret (.d (.bool (!b))) else .fail
    | _, _, _ => .fail
  | _, _ => .fail

def unV : UnOp → V → Q V
  | .not, .d (.bool b) => popBool (!b)
  | .neg, .d (.int k n) => popInt (k.wrap (0 - n)) k
  | .xor, .d (.int k n) => popInt (k.wrap (BitVec.ofInt k.bits (if k.signed then -1 else k.max) ^^^ BitVec.ofInt k.bits n).toNat) k
  | _, _ => .fail

def u8 (b : UInt8) : D := .int .u8 b.toNat
def unU8 : List D → Option (List UInt8)
  | [] => some []
  | .int .u8 n :: r => if 0 ≤ n ∧ n < 256 then (unU8 r).map (UInt8.ofNat n.toNat :: ·) else none
  | _ => none

/-- The elements of a slice. -/
def items : V → Q (List D)
  | .d (.sl xs) => .ret xs
  | .d (.str l) => .ret (l.map u8)
  | .emp _ => .ret []
  | .nnil => .ret []
  | .arr id => .blk id fun | .lst _ xs => .ret xs | _ => .fail
  | .win id lo n => .blk id fun | .lst _ xs => .ret ((xs.drop lo).take n) | _ => .fail
  | .inn id i => .blk id fun
    | .lst2 _ xss => .pop fun
      | some (.ls ys) => .req (xss[i]? = some (some ys)) (.ret ys)
      | some _ => .fail
      | none => match xss[i]? with | some (some ys) => .ret ys | _ => .fail
    | _ => .fail
  | _ => .fail

def allSome {α : Type} : List (Option α) → Option (List α)
  | [] => some []
  | some a :: r => (allSome r).map (a :: ·)
  | _ => none

def convV (src dst : TypeId) (v : V) : Q V :=
  match P.underlying src, P.underlying dst, v with
  | some (.int _), some (.int k), .d (.int _ n) => popInt (k.wrap n) k
  | some .string, some .string, .d (.str l) => .ret (.d (.str l))
  | some .string, some (.slice e), .d (.str l) => match P.underlying e with
    | some (.int .u8) => .ret (.d (.sl (l.map u8)))
    | _ => .fail
  | some (.slice e), some .string, v => match P.underlying e with
    | some (.int .u8) => (items v).bind fun xs => .pop fun
      | some (.st l) => .req (xs = l.map u8) (.ret (.d (.str l)))
      | some _ => .fail
      | none => match unU8 xs with | some l => .ret (.d (.str l)) | none => .fail
    | _ => .fail
  | _, _, _ => .fail

def lenV (t : TypeId) (v : V) : Q V :=
  match P.underlying t, v with
  | some .string, .d (.str l) => .ret (.d (.int .i64 l.length))
  | some (.array n _), _ => .ret (.d (.int .i64 n))
  | some (.slice _), .d (.str _) => .fail
  | some (.slice _), v => (items v).bind fun xs => .ret (.d (.int .i64 xs.length))
  | _, _ => .fail

/-- An index, in its bounds. -/
def ixQ (v : V) (len : Nat) (k : Nat → Q V) : Q V :=
  match v with
  | .d (.int _ n) => .pop fun
    | some (.ix i) => .req (n = (i : Int) ∧ i < len) (k i)
    | some _ => .fail
    | none => if 0 ≤ n ∧ n < len then k n.toNat else .fail
  | _ => .fail
def elQ (v : V) (xs : List D) (k : Nat → D → Q V) : Q V :=
  match v with
  | .d (.int _ n) => .pop fun
    | some (.el i d) => .req (n = (i : Int) ∧ xs[i]? = some d) (k i d)
    | some _ => .fail
    | none => if 0 ≤ n then (match xs[n.toNat]? with | some d => k n.toNat d | none => .fail) else .fail
  | _ => .fail

def indexAddrV (t : TypeId) (constIx : Bool) (x ix : V) : Q V :=
  match P.underlying t with
  | some (.slice e) => match szOf P e with
    | some sz => match x with
      | .d (.sl xs) => elQ ix xs fun _ d => if d.cells.length = sz then .ret (.dptr d 0) else .fail
      | .arr id => .shp id fun
        | .lst e' len => if e' = e then ixQ ix len fun i => .ret (.eptr id i 0) else .fail
        | .lst2 e' len => if e' = e ∧ sz = 1 then ixQ ix len fun i => .ret (.eptr id i 0) else .fail
        | _ => .fail
      | .win id lo n => .shp id fun
        | .lst e' len => if e' = e then .pop fun
          | none => if lo + n ≤ len then ixQ ix n fun i => .ret (.eptr id (lo + i) 0) else .fail
          | some _ => .req (lo + n ≤ len) (ixQ ix n fun i => .ret (.eptr id (lo + i) 0)) else .fail
        | _ => .fail
      | .inn id i => .blk id fun
        | .lst2 s _ => if elemOf P s = some e then (items (.inn id i)).bind fun ys => ixQ ix ys.length fun k => .ret (.iptr id i k) else .fail
        | _ => .fail
      | _ => .fail
    | none => .fail
  | some (.array len e) => match szOf P e, x with
    | some sz, .dptr d sub => match ix with
      | .d (.int _ n) => if constIx then (if 0 ≤ n ∧ n < len then .ret (.dptr d (sub + n.toNat * sz)) else .fail) else ixQ ix len fun i => .ret (.dptr d (sub + i * sz))
      | _ => .fail
    | some sz, .ptr id off => if constIx then (match ix with
        | .d (.int _ n) => if 0 ≤ n ∧ n < len then .ret (.ptr id (off + n.toNat * sz)) else .fail
        | _ => .fail)
      else (match ix with
        | .d (.int _ n) => .pop fun
          | some (.cut i _) => .req (n = (i : Int) ∧ i < len) (.ret (.eptr id (off + i * sz) 0))
          | some (.ix i) => .req (n = (i : Int) ∧ i < len) (.ret (.ptr id (off + i * sz)))
          | some _ => .fail
          | none => if 0 ≤ n ∧ n < len then .ret (.ptr id (off + n.toNat * sz)) else .fail
        | _ => .fail)
    | _, _ => .fail
  | _ => .fail

/-- A part of an element. -/
def cellOf (t : TypeId) (sub : Nat) (x : D) : Q V :=
  match kindT P t with
  | some true => match x with
    | .agg ds => if sub = 0 ∧ szOf P t = some ds.length then .ret (.d (.agg ds)) else .fail
    | _ => .fail
  | some false => match x.cells[sub]? with
    | some (.agg _) => .fail
    | some y => .ret (.d y)
    | none => .fail
  | none => .fail

def loadV (t : TypeId) : V → Q V
  | .ptr id off => .blk id fun
    | .bx _ cs => match kindT P t with
      | some true => match szOf P t with
        | some sz => if off + sz ≤ cs.length ∧ ((cs.drop off).take sz).all simple0 = true then .ret (mkAgg ((cs.drop off).take sz)) else .fail
        | none => .fail
      | some false => match cs[off]? with
        | some v => .ret v
        | none => .fail
      | none => .fail
    | _ => .fail
  | .eptr id i sub => .blk id fun
    | .bx _ cs => match kindT P t with
      | some false => .pop fun
        | some (.el _ d) => .req (cs[i + sub]? = some (.d d)) (.ret (.d d))
        | _ => .fail
      | _ => .fail
    | .lst _ xs => .pop fun
      | some (.el _ d) => .req (xs[i]? = some d) (cellOf P t sub d)
      | some _ => .fail
      | none => match xs[i]? with | some d => cellOf P t sub d | none => .fail
    | .lst2 _ xss => match kindT P t with
      | some false => .pop fun
        | some (.ls ys) => .req (xss[i]? = some (some ys)) (.ret (.inn id i))
        | some _ => .fail
        | none => match xss[i]? with | some (some _) => .ret (.inn id i) | _ => .fail
      | _ => .fail
    | _ => .fail
  | .iptr id i k => .blk id fun
    | .lst2 _ xss => .pop fun
      | some (.el _ d) => .req (∃ ys, xss[i]? = some (some ys) ∧ ys[k]? = some d) (cellOf P t 0 d)
      | some _ => .fail
      | none => match xss[i]? with | some (some ys) => (match ys[k]? with | some d => cellOf P t 0 d | none => .fail) | _ => .fail
    | _ => .fail
  | .dptr x sub => cellOf P t sub x
  | _ => .fail

def cellsV : V → Option (List V)
  | .d (.agg ds) => some (ds.map .d)
  | .agg cs => some cs
  | .tup _ => none
  | .undef => none
  | .void => none
  | v => some [v]

def aggCells : V → Option (List V)
  | .d (.agg ds) => some (ds.map .d)
  | .agg cs => some cs
  | _ => none

def over (cs : List V) (off : Nat) (vs : List V) : List V := cs.take off ++ vs ++ cs.drop (off + vs.length)

def notAgg : D → Bool
  | .agg _ => false
  | _ => true

def plainD : V → Q D
  | .d x => .ret x
  | .emp _ => .ret (.sl [])
  | .nnil => .ret (.sl [])
  | _ => .fail

/-- A list that is cut, from its beginning. -/
def cutOf : V → Option (Nat × Nat)
  | .win l 0 n => some (l, n)
  | _ => none

def storeQ (t : TypeId) (a v : V) : Q Patch :=
  match a with
  | .ptr id off => .blk id fun
    | .bx ty cs => match cutOf v with
      | some (l, n) => .blk l fun
        | .lst e xs => if l = id then .fail else match szOf P t with
          | some 1 => if off + 1 ≤ cs.length then .ret { bsets := [(l, .lst e (xs.take n)), (id, .bx ty (over (cs.map (kill1 l .gone)) off [.arr l]))], kill := [(l, .gone)] } else .fail
          | _ => .fail
        | _ => .fail
      | none => match cellsV v, szOf P t with
        | some vs, some sz => if vs.length = sz ∧ off + sz ≤ cs.length then .ret { bsets := [(id, .bx ty (over cs off vs))] } else .fail
        | _, _ => .fail
    | _ => .fail
  | .eptr id i sub => .shp id fun
    | .none => .blk id fun
      | .bx ty cs => match v, szOf P t with
        | .d x, some 1 => if notAgg x = true then .pop fun
            | some _ => .req (i + sub < cs.length) (.ret { bsets := [(id, .bx ty (over cs (i + sub) [.d x]))] })
            | none => .fail else .fail
        | _, _ => .fail
      | _ => .fail
    | .lst e _ => (plainD v).bind fun x => match szOf P t, szOf P e with
      | some sz, some wd =>
        if sub = 0 ∧ sz = wd ∧ x.cells.length = wd then .ret { mods := [(id, i, x)] }
        else if sz = 1 ∧ notAgg x = true then .blk id fun
          | .lst _ xs => .pop fun
            | some (.el _ (.agg ds)) => .req (xs[i]? = some (.agg ds)) (if sub < ds.length ∧ ds.length = wd then .ret { mods := [(id, i, .agg (ds.set sub x))] } else .fail)
            | some _ => .fail
            | none => match xs[i]? with
              | some (.agg ds) => if sub < ds.length ∧ ds.length = wd then .ret { mods := [(id, i, .agg (ds.set sub x))] } else .fail
              | _ => .fail
          | _ => .fail
        else .fail
      | _, _ => .fail
    | .lst2 _ _ => .blk id fun
      | .lst2 s xss => match v with
        | .arr l => if l = id then .fail else .blk l fun
          | .lst e ys => if elemOf P s = some e ∧ szOf P t = some 1 ∧ sub = 0 then .ret { bsets := [(l, .dead), (id, .lst2 s (xss.set i (some ys)))], kill := [(l, .gone), (id, .inner)] } else .fail
          | _ => .fail
        | _ => .fail
      | _ => .fail
  | _ => .fail

def boundQ (v : Option V) (dflt : Nat) (k : Int → Q Patch) : Q Patch :=
  match v with
  | none => k dflt
  | some (.d (.int _ n)) => k n
  | _ => .fail

def maxItems : Nat := 2 ^ 40

def widthsQ {α : Type} (ys : List D) (sz : Nat) (k : Q α) : Q α := .pop fun
  | some .own => .req (∀ y ∈ ys, y.cells.length = sz) k
  | _ => if ys.all (fun y => y.cells.length == sz) then k else .fail

def roomQ {α : Type} (n : Nat) (k : Q α) : Q α := .pop fun
  | some _ => .req (n ≤ maxItems) k
  | none => if n ≤ maxItems then k else .fail

/-- The same; the new list may be told to be only read from now on. -/
def roomE {α : Type} (n : Nat) (k1 k : Q α) : Q α := .pop fun
  | some (.ls _) => .req (n ≤ maxItems) k1
  | some _ => .req (n ≤ maxItems) k
  | none => if n ≤ maxItems then k else .fail

/-- What is decided, or told. -/
def fitQ {α : Type} (p : Prop) [Decidable p] (k : Q α) : Q α := .pop fun
  | some _ => .req p k
  | none => if p then k else .fail

/-- Bounds of a slice expression, both told. -/
def cutQ (lo hi : Option V) (len : Nat) (k : Nat → Nat → Q Patch) : Q Patch :=
  boundQ lo 0 fun l => boundQ hi len fun h => .pop fun
    | some (.cut a b) => .req (l = (a : Int) ∧ h = (b : Int) ∧ a ≤ b ∧ b ≤ len) (k a b)
    | some _ => .fail
    | none => if 0 ≤ l ∧ l ≤ h ∧ h ≤ len then k l.toNat h.toNat else .fail

/-- A window without room behind it. -/
def slice3Q (dst : Option Nat) (t : TypeId) (x : V) (lo hi : Option V) (m : Int) : Q Patch := match x, lo, hi with
  | .arr id, some (.d (.int _ l)), some (.d (.int _ h)) => .blk id fun
    | .lst e xs => if elemOf P t = some e then .pop fun
      | some (.cut a b) => .req (l = (a : Int) ∧ h = (b : Int) ∧ m = (b : Int) ∧ 0 < a ∧ a ≤ b ∧ b ≤ xs.length) (.ret (putP dst (.win id a (b - a))))
      | _ => .fail else .fail
    | _ => .fail
  | _, _, _ => .fail

def sliceQ (dst : Option Nat) (t : TypeId) (x : V) (lo hi mx : Option V) : Q Patch :=
  match mx with
  | some (.d (.int _ m)) => match x with
    | .d (.sl _) => if m = 0 then (match lo, hi, elemOf P t with
      | none, some (.d (.int _ 0)), some e => (match szOf P e with
        | some _ => .ret (putP dst (.emp false))
        | none => .fail)
      | _, _, _ => .fail) else .fail
    | x => slice3Q P dst t x lo hi m
  | some _ => .fail
  | none => match x with
    | .d (.sl xs) => match elemOf P t with
      | some e => match szOf P e with
        | some sz => cutQ lo hi xs.length fun a b => widthsQ xs sz (.ret (putP dst (.d (.sl ((xs.drop a).take (b - a))))))
        | none => .fail
      | none => .fail
    | .d (.str l) => match P.underlying t with
      | some .string => cutQ lo hi l.length fun a b => .ret (putP dst (.d (.str ((l.drop a).take (b - a)))))
      | _ => .fail
    | .emp b => match lo, hi, (elemOf P t).bind (szOf P) with
      | none, some (.d (.int _ 0)), some _ => .ret (putP dst (.emp b))
      | _, _, _ => .fail
    | .arr id => .blk id fun
      | .lst e xs => if elemOf P t = some e then cutQ lo hi xs.length fun a b => .ret (putP dst (.win id a (b - a))) else .fail
      | _ => .fail
    | _ => .fail

/-- An empty slice is data. -/
def empD : V → V
  | .emp _ => .d (.sl [])
  | v => v

def zeroD (e : TypeId) : Option D := match zeroC P e with
  | some cs => match kindT P e with
    | some true => (allD (cs.map empD)).map .agg
    | some false => match cs with
      | [.d x] => some x
      | [.emp _] => some (.sl [])
      | _ => none
    | none => none
  | none => none

/-- A list may have elements of this type. -/
def rowOk (e : TypeId) : Bool := match P.info? e with
  | some i => match i.zero with
    | some z => z.cells.size == i.size && decide (0 < i.size) && decide (i.bytes ≤ 128)
    | none => false
  | none => false

def appendQ (dst : Option Nat) (sT : TypeId) (x : V) (ys : List D) : Q Patch :=
  match elemOf P sT with
  | some e => match szOf P e with
    | some sz => if rowOk P e = false then .fail else widthsQ ys sz (match x with
      | .emp _ => roomE ys.length (.ret (putP dst (.d (.sl ys)))) (.nblk fun n => .ret { putP dst (.arr n) with push := [.lst e ys] })
      | .arr id => .blk id fun
        | .lst e' xs => if e' = e then roomQ (xs.length + ys.length) (.ret { putP dst (.arr id) with bsets := [(id, .lst e (xs ++ ys))], kill := [(id, .gone)] }) else .fail
        | _ => .fail
      | .win id 0 n => .blk id fun
        | .lst e' xs => if e' = e then roomQ (n + ys.length) (.ret { putP dst (.arr id) with bsets := [(id, .lst e (xs.take n ++ ys))], kill := [(id, .gone)] }) else .fail
        | _ => .fail
      | .inn id i => .blk id fun
        | .lst2 s xss => if elemOf P s = some e then (items (.inn id i)).bind fun xs => roomQ (xs.length + ys.length) (.nblk fun n =>
            .ret { putP dst (.arr n) with bsets := [(id, .lst2 s (xss.set i none))], push := [.lst e (xs ++ ys)], kill := [(id, .inner)] }) else .fail
        | _ => .fail
      | _ => .fail)
    | none => .fail
  | none => .fail

/-- A list grows by zeros. -/
def zerosQ (dst : Option Nat) (sT : TypeId) (x : V) (m : Nat) : Q Patch :=
  match elemOf P sT with
  | some e => match zeroD P e, szOf P e with
    | some z, some sz => if rowOk P e = false ∨ z.cells.length ≠ sz ∨ (elemOf P e).isSome = true then .fail else match x with
      | .emp _ => roomQ m (.nblk fun n => .ret { putP dst (.arr n) with push := [.lst e (List.replicate m z)] })
      | _ => .fail
    | _, _ => .fail
  | none => .fail

def isStr : V → Bool
  | .d (.str _) => true
  | _ => false

def builtinQ (b : Builtin) (dst : Option Nat) (ts : List TypeId) (vs : List V) : Q Patch :=
  match b, ts, vs with
  | .len, t :: _, [v] => (lenV P t v).bind fun r => .ret (putP dst r)
  | .cap, t :: _, [.emp _] => match P.underlying t with
    | some (.slice _) => .ret (putP dst (.d (.int .i64 0)))
    | _ => .fail
  | .max, _, .d (.int k a) :: .d (.int k' b) :: [] => if k = k' then (popInt (if b > a then b else a) k).bind fun r => .ret (putP dst r) else .fail
  | .min, _, .d (.int k a) :: .d (.int k' b) :: [] => if k = k' then (popInt (if b < a then b else a) k).bind fun r => .ret (putP dst r) else .fail
  | .append, [sT, xT], [x, y] =>
    match P.underlying xT with
    | some (.int _) => match y with
      | .d (.int _ n) => .pop fun
        | some (.len m) => .req (n = (m : Int)) (zerosQ P dst sT x m)
        | some _ => .fail
        | none => if 0 ≤ n then zerosQ P dst sT x n.toNat else .fail
      | _ => .fail
    | some (.slice _) | some .string => (items y).bind fun ys => appendQ P dst sT x ys
    | _ => .fail
  | .copy, [sT, _], [x, y] => if isStr y then .fail else (items y).bind fun ys => match elemOf P sT with
    | some e => match szOf P e with
      | some sz => match x with
        | .arr id => .blk id fun
          | .lst e' xs => if e' = e then widthsQ ys sz (.ret { putP dst (.d (.int .i64 (min xs.length ys.length : Nat))) with bsets := [(id, .lst e (xs.take 0 ++ ys.take xs.length ++ xs.drop (0 + min xs.length ys.length)))] }) else .fail
          | _ => .fail
        | .win id lo n => .blk id fun
          | .lst e' xs => if e' = e then fitQ (lo + n ≤ xs.length) (widthsQ ys sz (.ret { putP dst (.d (.int .i64 (min n ys.length : Nat))) with bsets := [(id, .lst e (xs.take lo ++ ys.take n ++ xs.drop (lo + min n ys.length)))] })) else .fail
          | _ => .fail
        | _ => .fail
      | none => .fail
    | none => .fail
  | _, _, _ => .fail

/-- References renamed, for a call that sees some blocks alone, and back. -/
def map0 (ρ : Nat → Option Nat) : V → Option V
  | .ptr id off => (ρ id).map (.ptr · off)
  | .arr id => (ρ id).map .arr
  | .inn id i => (ρ id).map (.inn · i)
  | .win id lo n => (ρ id).map (.win · lo n)
  | .eptr id i s => (ρ id).map (.eptr · i s)
  | .iptr id i k => (ρ id).map (.iptr · i k)
  | .func _ _ | .iface _ _ | .agg _ | .tup _ => none
  | v => some v
def mapL0 (ρ : Nat → Option Nat) : List V → Option (List V)
  | [] => some []
  | v :: r => match map0 ρ v, mapL0 ρ r with
    | some x, some y => some (x :: y)
    | _, _ => none
def map1 (ρ : Nat → Option Nat) : V → Option V
  | .func f cap => (mapL0 ρ cap).map (.func f)
  | .iface t v => (map0 ρ v).map (.iface t)
  | .agg cs => (mapL0 ρ cs).map .agg
  | v => map0 ρ v
def mapL1 (ρ : Nat → Option Nat) : List V → Option (List V)
  | [] => some []
  | v :: r => match map1 ρ v, mapL1 ρ r with
    | some x, some y => some (x :: y)
    | _, _ => none
def map2 (ρ : Nat → Option Nat) : V → Option V
  | .tup cs => (mapL1 ρ cs).map .tup
  | v => map1 ρ v
def mapB (ρ : Nat → Option Nat) : B → Option B
  | .bx ty cs => (mapL1 ρ cs).map (.bx ty)
  | b => some b
def mapBs (ρ : Nat → Option Nat) : List B → Option (List B)
  | [] => some []
  | v :: r => match mapB ρ v, mapBs ρ r with
    | some x, some y => some (x :: y)
    | _, _ => none

def ids0 : V → List Nat
  | .arr id | .inn id _ | .win id _ _ | .ptr id _ | .eptr id _ _ | .iptr id _ _ => [id]
  | _ => []
def ids1 : V → List Nat
  | .func _ cap => cap.flatMap ids0
  | .iface _ x => ids0 x
  | .agg cs => cs.flatMap ids0
  | v => ids0 v
def idsV : V → List Nat
  | .tup xs => xs.flatMap ids1
  | v => ids1 v
def idsB : B → List Nat
  | .bx _ cs => cs.flatMap ids1
  | _ => []

def blksQ : List Nat → Q (List B)
  | [] => .ret []
  | i :: r => .blk i fun b => (blksQ r).bind fun bs => .ret (b :: bs)

/-- The blocks that can be reached from some. -/
def reachQ : Nat → List Nat → Q (List Nat)
  | 0, ids => .ret ids
  | n + 1, ids => (blksQ ids).bind fun bs => match ((bs.flatMap idsB).filter fun i => !ids.contains i).eraseDups with
    | [] => .ret ids
    | new => reachQ n (ids ++ new)

/-- With the boxes that refer to them. -/
def reach2Q (ids : List Nat) : Q (List Nat) := (reachQ 8 ids).bind fun ids => .nblk fun n => (blksQ (List.range n)).bind fun all =>
  match (List.range n).filter (fun b => !ids.contains b && (match all[b]? with | some (.bx ty cs) => (idsB (.bx ty cs)).any ids.contains | _ => false)) with
  | [] => .ret ids
  | more => reachQ 8 (ids ++ more)

def nodupB : List Nat → Bool
  | [] => true
  | i :: r => !r.contains i && nodupB r

def callable (f : Nat) : Bool := match P.funcs[f]? with
  | some fn => fn.body.isSome && !(fn.name == "runtime.NumGoroutine")
  | none => false

def doneQ (dst : Option Nat) (r : V) (bsets : List (Nat × B)) (push : List B) (kill : List (Nat × KK)) : Q Patch :=
  match (lay 0 r).2 with
  | [] => .ret { sets := (putP dst r).sets, bsets := bsets, push := push, kill := kill }
  | _ => .nblk fun n => .ret { sets := (putP dst (lay (n + push.length) r).1).sets, bsets := bsets, push := push ++ (lay (n + push.length) r).2, kill := kill }

/-- A call with blocks: its numbers of blocks are the places in ids. -/
def fullQ (dst : Option Nat) (ids : List Nat) (r : V) (bs' : List B) : Q Patch := .nblk fun n =>
  if bs'.length < ids.length ∨ ids.all (fun i => decide (i < n)) = false then .fail else
  let all := ids ++ (List.range (bs'.length - ids.length)).map (n + ·)
  match map2 (all[·]?) r, mapBs (all[·]?) bs' with
  | some r, some bs => doneQ dst r (ids.zip bs) (bs.drop ids.length) (ids.map (·, .gone))
  | _, _ => .fail

def seen (ids : List Nat) (i : Nat) : Option Nat := if ids.contains i then some (ids.idxOf i) else none

/-- Functions of the model's own. -/
def extV (name : String) (as : List V) : Option V := match as with
  | [.d (.str l), .d (.int .u8 c)] => if name = "internal/bytealg.IndexByteString" then some (.d (.int .i64 (Go.Lib.indexByte l c.toNat.toUInt8)))
    else if name = "internal/bytealg.CountString" then some (.d (.int .i64 (Go.Lib.countByte l c.toNat.toUInt8)))
    else none
  | _ => none
/-- The name of a function that has no body here. -/
def nameOf (f : Nat) : Option String := match P.funcs[f]? with
  | some fn => if fn.body.isNone && !(fn.name == "runtime.NumGoroutine") && (Extern.findNext fn).isNone then some fn.name else none
  | none => none

/-- A call, by the oracle. -/
def callOrc (wr : Nat → Bool) (dst : Option Nat) (f : Nat) (as : List V) : Q Patch :=
  if !wr f && as.all (fun | .d _ => true | .emp _ => true | .arr _ => true | .agg _ => true | .win _ _ _ => true | _ => false) && as.all (fun | .agg cs => cs.all (fun | .d _ => true | .emp _ => true | .arr _ => true | _ => false) | _ => true) then
      (toAL as).bind fun as' => .call f as' [] fun r bs' => if (as.flatMap refs).isEmpty then (match mapL1 (seen []) as' with
        | some _ => fullQ dst [] r bs'
        | none => .fail)
      else if bs'.isEmpty = true ∧ r.safe = true then (match map2 (fun _ => none) r with | some r => doneQ dst r [] [] [] | none => .fail) else .fail
    else (reach2Q (as.flatMap ids1).eraseDups).bind fun ids => if nodupB ids = false then .fail else (blksQ ids).bind fun bs => match mapL1 (seen ids) as, mapBs (seen ids) bs with
      | some as, some bs => .call f as bs fun r bs' => fullQ dst ids r bs'
      | _, _ => .fail

/-- A call: what it is, told by the script: plain data alone, or with blocks. -/
def callQ (wr : Nat → Bool) (ICall : Nat → List V → List B → V → List B → Prop) (dst : Option Nat) (f : Nat) (as : List V) : Q Patch :=
  if callable P f = false then (match (nameOf P f).bind (extV · as) with
    | some r => .ret (putP dst r)
    | none => .fail)
  else .pop fun
  | some (.ret r) => (toDL as).bind fun ds => .req (ICall f (ds.map .d) [] r [] ∧ (as.flatMap refs = [] ∨ r.safe = true)) (match map2 (fun _ => none) r with | some r => doneQ dst r [] [] [] | none => .fail)
  | some .raw => callOrc wr dst f as
  | some (.icall ids r bs') => if nodupB ids = false then .fail else (blksQ ids).bind fun bs => match mapL1 (seen ids) as, mapBs (seen ids) bs with
    | some as, some bs => .req (ICall f as bs r bs') (fullQ dst ids r bs')
    | _, _ => .fail
  | some _ => .fail
  | none => callOrc wr dst f as

def fillP (places : Nat → Option (Nat × Nat)) (cells : List V) : List (Nat × V) → Option (List V)
  | [] => some cells
  | (i, v) :: r => match places i, cellsV v with
    | some (off, sz), some vs => if vs.length = sz ∧ off + sz ≤ cells.length ∧ vs.all simple0 = true then fillP places (over cells off vs) r else none
    | _, _ => none

def plainParts : List (Nat × Operand) → Q (List (Nat × V))
  | [] => .ret []
  | (i, x) :: r => (opd x).bind fun v => (plainParts r).bind fun l => .ret ((i, v) :: l)

def buildV (t : TypeId) (parts : List (Nat × V)) : Option V :=
  match zeroC P t, P.underlying t with
  | some z, some (.struct fs) => if fs.all (fun f => (szOf P f.type).isSome) = false then none else (fillP (fun i => (fs[i]?).bind fun f => (szOf P f.type).map fun n => (f.offset, n)) z parts).map mkAgg
  | some z, some (.array _ e) => match szOf P e with
    | some sz => (fillP (fun i => some (i * sz, sz)) z parts).map mkAgg
    | none => none
  | _, _ => none

def chunk (sz : Nat) : Nat → List V → Option (List D)
  | 0, _ => some []
  | n + 1, cs => match allD ((cs.take sz).map empD), chunk sz n (cs.drop sz) with
    | some [x], some r => some ((if sz = 1 then x else .agg [x]) :: r)
    | some xs, some r => some (.agg xs :: r)
    | _, _ => none

variable (wr : Nat → Bool) (ICall : Nat → List V → List B → V → List B → Prop)

/-- The method behind an interface: its function, and the receiver. -/
def methQ (t : TypeId) (v : V) (name : String) : Q (Nat × V) :=
  match P.info? t with
  | some i => match i.methods.find? (·.name == name) with
    | some m => if m.path.size = 0 then (match m.func, P.underlying t, v with
      | some (f, true), some (.pointer _), v => .ret (f, v)
      | some (f, false), some (.pointer e), .ptr id off => (loadV P e (.ptr id off)).bind fun x => .ret (f, x)
      | some (_, false), some (.pointer _), _ => .fail
      | some (f, false), some _, v => .ret (f, v)
      | _, _, _ => .fail) else .fail
    | none => .fail
  | none => .fail

/-- A new slice of k elements: a list, or a list of lists. -/
def makeQ (dst : Option Nat) (e : TypeId) (two : Bool) (z : D) (k : Nat) : Q Patch :=
  if two = true then (match (elemOf P e).bind (szOf P), szOf P e, zeroC P e with
    | some _, some 1, some [.emp _] => .nblk fun b => .ret { putP dst (.arr b) with push := [.lst2 e (List.replicate k (some []))] }
    | _, _, _ => .fail)
  else .nblk fun b => .ret { putP dst (.arr b) with push := [.lst e (List.replicate k z)] }

def evOp (lit : Bool) (o : Oper) : Q Patch :=
  match o.op with
  | .move x | .assign x => (opd x).bind fun v => .ret (putP o.dst v)
  | .pick c a b => (opd c).bind fun
    | .d (.bool t) => (opd (if t then a else b)).bind fun v => .ret (putP o.dst v)
    | _ => .fail
  | .alloc t => match zeroC P t with
    | some cs => .nblk fun n => .ret { putP o.dst (.ptr n 0) with push := [.bx (if cs.any isNilp then some t else none) cs] }
    | none => .fail
  | .box t x => (opd x).bind fun v => match cellsV v, szOf P t with
    | some cs, some sz => if cs.length = sz then .nblk fun n => .ret { putP o.dst (.ptr n 0) with push := [.box cs] } else .fail
    | _, _ => .fail
  | .build t parts => (plainParts parts.toList).bind fun l => match buildV P t l with
    | some v => .ret (putP o.dst v)
    | none => .fail
  | .buildSlice t len parts => match elemOf P t, (elemOf P t).bind (szOf P), (elemOf P t).bind (zeroC P) with
    | some e, some sz, some z => (plainParts parts.toList).bind fun l =>
      if len = 0 then if parts.size ≠ 0 ∨ rowOk P e = false then .fail else .pop fun
        | some .own => .nblk fun n => .ret { putP o.dst (.arr n) with push := [.lst e []] }
        | _ => .ret (putP o.dst (.emp false))
      else if len * sz > 2 ^ 24 ∨ z.length ≠ sz ∨ sz = 0 then .fail else
      match fillP (fun i => some (i * sz, sz)) ((List.replicate len z).flatten) l with
      | some cs => match chunk sz len cs with
        | some xs => .pop fun i => if (match i with | some .own => true | some _ => false | none => lit) then
            (if rowOk P e = true then .nblk fun n => .ret { putP o.dst (.arr n) with push := [.lst e xs] } else .fail)
          else .ret (putP o.dst (.d (.sl xs)))
        | none => .fail
      | none => .fail
    | _, _, _ => .fail
  | .load t a => (opd a).bind fun v => (loadV P t v).bind fun r => .ret (putP o.dst r)
  | .store t a x => (opd a).bind fun a => (opd x).bind fun v => storeQ P t a v
  | .nilCheck x => (opd x).bind fun
    | .ptr i k => .ret (putP o.dst (.ptr i k))
    | .func f c => .ret (putP o.dst (.func f c))
    | .iface t v => .ret (putP o.dst (.iface t v))
    | .eptr i k n => .ret (putP o.dst (.eptr i k n))
    | .dptr x n => .ret (putP o.dst (.dptr x n))
    | _ => .fail
  | .binOp op t x y _ => (opd x).bind fun a => (opd y).bind fun b => (binV P (isConst y) op t a b).bind fun r => .ret (putP o.dst r)
  | .unOp op _ x => (opd x).bind fun a => (unV op a).bind fun r => .ret (putP o.dst r)
  | .convert src dst x => (opd x).bind fun v => (convV P src dst v).bind fun r => .ret (putP o.dst r)
  | .makeInterface t x => (opd x).bind fun v => match P.underlying t with
    | none | some (.interface _) => .fail
    | some _ => if simple0 v then .ret (putP o.dst (.iface t v)) else .fail
  | .makeFunc fn first cap => match fn with
    | .func f => (opds cap.toList).bind fun vs => if first.size = 0 ∧ vs.all simple0 = true then .ret (putP o.dst (.func f vs)) else .fail
    | _ => .fail
  | .makeSlice t l c => (opd l).bind fun lv => (opd c).bind fun cv => match lv, cv, elemOf P t with
    | .d (.int _ n), .d (.int _ m), some e => match szOf P e, zeroD P e with
      | some sz, some z => if rowOk P e = false ∨ z.cells.length ≠ sz then .fail else .pop fun
        | some (.len k) => .req (n = (k : Int) ∧ m = (k : Int) ∧ k ≤ maxItems) (makeQ P o.dst e false z k)
        | some (.ix k) => .req (n = (k : Int) ∧ m = (k : Int) ∧ k ≤ maxItems) (makeQ P o.dst e true z k)
        | some _ => .fail
        | none => if 0 ≤ n ∧ n ≤ maxItems ∧ n = m then makeQ P o.dst e (elemOf P e).isSome z n.toNat else .fail
      | _, _ => .fail
    | _, _, _ => .fail
  | .slice t x lo hi mx => (opd x).bind fun v => (opds (lo.toList)).bind fun lo => (opds hi.toList).bind fun hi => (opds mx.toList).bind fun mx => sliceQ P o.dst t v lo.head? hi.head? mx.head?
  | .fieldAddr t x i => (opd x).bind fun v => match P.underlying t with
    | some (.struct fs) => match fs[i]? with
      | some f => match szOf P f.type with
        | some (_ + 1) => match v with
          | .ptr id off => .ret (putP o.dst (.ptr id (off + f.offset)))
          | .eptr id k s => .blk id fun | .lst _ _ => .ret (putP o.dst (.eptr id k (s + f.offset))) | _ => .fail
          | .dptr x s => .ret (putP o.dst (.dptr x (s + f.offset)))
          | _ => .fail
        | _ => .fail
      | none => .fail
    | _ => .fail
  | .field t x i => (opd x).bind fun v => match P.underlying t with
    | some (.struct fs) => match fs[i]? with
      | some f => match kindT P f.type, aggCells v with
        | some false, some cs => match cs[f.offset]? with
          | some v => .ret (putP o.dst v)
          | none => .fail
        | _, _ => .fail
      | none => .fail
    | _ => .fail
  | .indexAddr t x ix => (opd x).bind fun v => (opd ix).bind fun i => (indexAddrV P t (isConst ix) v i).bind fun r => .ret (putP o.dst r)
  | .index t x ix => (opd x).bind fun v => (opd ix).bind fun i => match P.underlying t, v with
    | some .string, .d (.str l) => match i with
      | .d (.int _ n) => .pop fun
        | some (.by k b) => .req (n = (k : Int) ∧ l[k]? = some b) (.ret (putP o.dst (.d (u8 b))))
        | some _ => .fail
        | none => if 0 ≤ n then (match l[n.toNat]? with | some b => .ret (putP o.dst (.d (u8 b))) | none => .fail) else .fail
      | _ => .fail
    | some (.array len e), v => match kindT P e, szOf P e, aggCells v with
      | some false, some 1, some cs => match i with
        | .d (.int _ n) => if isConst ix then (if 0 ≤ n ∧ n < len then (match cs[n.toNat]? with | some x => .ret (putP o.dst x) | none => .fail) else .fail)
          else (ixQ i len fun k => match cs[k]? with | some x => .ret x | none => .fail).bind fun r => .ret (putP o.dst r)
        | _ => .fail
      | _, _, _ => .fail
    | _, _ => .fail
  | .typeAssert x _ t ok => (opd x).bind fun
    | .iface t' v => if t = t' then (match P.underlying t with
        | none | some (.interface _) => .fail
        | some _ => .ret (putP o.dst (if ok then .tup [v, .d (.bool true)] else v))) else .fail
    | _ => .fail
  | .extract x i => (opd x).bind fun
    | .tup vs => match vs[i]? with
      | some v => .ret (putP o.dst v)
      | none => .fail
    | _ => .fail
  | .call c => (opds c.args.toList).bind fun vs => match c.callee with
    | .builtin b => builtinQ P b o.dst c.argTypes.toList vs
    | .value f => (opd f).bind fun
      | .func f cap => callQ P wr ICall o.dst f (vs ++ cap)
      | _ => .fail
    | .invoke x name => (opd x).bind fun
      | .iface t v => (methQ P t v name).bind fun (f, r) => callQ P wr ICall o.dst f (r :: vs)
      | _ => .fail
  | _ => .fail

/-! ### code -/

def wantedV (s : St) (ops : List Oper) (o : Oper) : Option Bool :=
  match o.guard with
  | none => some true
  | some (j, want) => match (ops[j]?).bind (·.dst) with
    | some t => match s.slot t with
      | .d (.bool b) => some (b == want)
      | .void => some false
      | _ => none
    | none => none

/-- A list that is only read from now on: its references are data. -/
def freeze (id : Nat) (s : St) : St := match s.blks[id]? with
  | some (.lst _ xs) => ⟨s.slots.map (kill1 id (.frz (.sl xs))), (s.blks.map (killB id (.frz (.sl xs)))).set id .dead⟩
  | _ => s
def ptrArg : V → Bool
  | .ptr _ _ | .func _ (_ :: _) | .iface _ _ | .eptr _ _ _ | .iptr _ _ _ => true
  | _ => false
def arrId : V → Option Nat
  | .arr i => some i
  | _ => none
def reachS (s : St) : Nat → List Nat → List Nat
  | 0, ids => ids
  | n + 1, ids => match (ids.flatMap fun i => idsB (s.blk i)).filter (fun i => !ids.contains i) |>.eraseDups with
    | [] => ids
    | new => reachS s n (ids ++ new)
def frozen (held : List Nat) : List Nat → St → St
  | [], s => s
  | i :: r, s => frozen held r (if held.contains i then s else freeze i s)
def argV (s : St) : Operand → V
  | .tmp t => s.slot t
  | _ => .undef
/-- Before a call that may write: lists that it gets, and cannot reach otherwise, are only read from now on; so are lists that become elements of a list. -/
def prep (s : St) (o : Oper) : St := match o.op with
  | .call c =>
    let as := c.args.toList.map (argV s)
    let all := match c.callee with
      | .builtin _ => []
      | .value f => argV s f :: as
      | .invoke x _ => argV s x :: as
    if all.any ptrArg then frozen (reachS s 8 ((all.filter ptrArg).flatMap ids1)) (as.filterMap arrId) s else s
  | .buildSlice _ _ parts => frozen [] ((parts.toList.map fun p => argV s p.2).filterMap arrId) s
  | _ => s

def voidP (o : Oper) : Patch := match o.dst with | some d => { sets := [(d, .void)] } | none => {}

def evOps (lit : Bool) (O : Orc) (all : List Oper) : List Oper → St → Script → Option (St × Script × List Prop)
  | [], s, sc => some (s, sc, [])
  | o :: r, s, sc => match wantedV s all o with
    | some true => match (evOp P wr ICall lit o).run O (prep s o) sc with
      | some (p, sc, ps) => match evOps lit O all r (p.apply (prep s o)) sc with
        | some (s, sc, qs) => some (s, sc, ps ++ qs)
        | none => none
      | none => none
    | some false => evOps lit O all r ((voidP o).apply s) sc
    | none => none

/-- An operation of a region that draws its order: what it reads and writes, with the values, and behind what it stands. -/
structure Rec where
  dst : Option Nat
  reads : List Nat
  blks : List Nat
  shps : List Nat
  nb : Bool
  push : Bool
  wr : List Nat
  mw : List Nat
  kl : List Nat
  frz : Bool
  vals : List V
  bvals : List B
  edges : List Nat

def edgesOf (o : Oper) : List Nat := (o.after.toList.filter (Region.binds .any)).map (·.on)

def guardSlots (all : List Oper) (o : Oper) : List Nat := match o.guard with
  | none => []
  | some (j, _) => ((all[j]?).bind (·.dst)).toList

def isFrz : KK → Bool
  | .frz _ => true
  | _ => false

def recOf (all : List Oper) (o : Oper) (s : St) (p : Patch) (l : Log) : Rec :=
  { dst := o.dst, reads := guardSlots all o ++ l.slots, blks := l.blks, shps := l.shps, nb := l.nb, push := !p.push.isEmpty, wr := p.bsets.map (·.1), mw := p.mods.map (·.1), kl := p.kill.map (·.1), frz := p.kill.any fun k => isFrz k.2,
    vals := p.sets.map (·.2) ++ (guardSlots all o ++ l.slots).map s.slot, bvals := p.bsets.map (·.2) ++ p.push ++ l.blks.map s.blk, edges := edgesOf o }

def evRecs (lit : Bool) (O : Orc) (all : List Oper) : List Oper → St → Script → Option (St × Script × List Prop × List Rec)
  | [], s, sc => some (s, sc, [], [])
  | o :: r, s, sc => match wantedV s all o with
    | some true => match (evOp P wr ICall lit o).runL O s sc with
      | some (p, sc, ps, l) => if p.sets.all (fun x => some x.1 == o.dst) = false then none else match evRecs lit O all r (p.apply s) sc with
        | some (s2, sc, qs, rs) => some (s2, sc, ps ++ qs, recOf all o s p l :: rs)
        | none => none
      | none => none
    | some false => match evRecs lit O all r ((voidP o).apply s) sc with
      | some (s2, sc, qs, rs) => some (s2, sc, qs, recOf all o s (voidP o) {} :: rs)
      | none => none
    | none => none

/-- No reference in it that is gone; none to some blocks. -/
def clean0 : V → Bool
  | .undef => false
  | _ => true
def clean1 : V → Bool
  | .agg cs => cs.all clean0
  | .func _ cap => cap.all clean0
  | .iface _ v => clean0 v
  | .undef => false
  | _ => true
def cleanB : B → Bool
  | .bx _ cs => cs.all clean1
  | _ => true
def noTup : V → Bool
  | .tup _ => false
  | _ => true
/-- The blocks with whose references a loss deals. -/
def kids0 : V → List Nat
  | .arr id | .inn id _ | .win id _ _ | .eptr id _ _ | .iptr id _ _ => [id]
  | _ => []
def kids1 : V → List Nat
  | .func _ cap => cap.flatMap kids0
  | .iface _ x => kids0 x
  | .agg cs => cs.flatMap kids0
  | v => kids0 v
def fixV (kl : List Nat) (v : V) : Bool := noTup v && (kids1 v).all fun i => !kl.contains i
def fixB (kl : List Nat) : B → Bool
  | .bx _ cs => cs.all (fixV kl)
  | _ => true

/-- What x does leaves what y reads, and makes, as it is. -/
def leavesB (n : Nat) (x y : Rec) : Bool :=
  !x.frz && (match x.dst with | some d => !y.reads.contains d && y.dst != some d | none => true) &&
  x.wr.all (fun i => decide (i < n) && !y.blks.contains i && !y.shps.contains i && !y.wr.contains i && !y.mw.contains i) && x.mw.all (fun i => decide (i < n) && !y.blks.contains i && !y.wr.contains i && !y.mw.contains i) &&
  (!x.push || (!y.nb && y.blks.all (fun i => decide (i < n)) && y.shps.all (fun i => decide (i < n)))) &&
  (x.kl.isEmpty || (y.vals.all (fun v => fixV x.kl v && clean1 v) && y.bvals.all (fun b => fixB x.kl b && cleanB b)))
def apartB (n : Nat) (x y : Rec) : Bool := leavesB n x y && leavesB n y x && !(x.push && y.push) && (x.kl.isEmpty || y.kl.isEmpty)

/-- Behind what each stands, first or last. -/
def befs : List (List Nat) → List Rec → List (List Nat)
  | acc, [] => acc
  | acc, r :: rs => befs (acc ++ [r.edges ++ r.edges.flatMap fun e => (acc[e]?).getD []]) rs

def orderB (n : Nat) (rs : List Rec) : Bool :=
  let bs := befs [] rs
  (List.range rs.length).all fun k => match rs[k]?, bs[k]? with
    | some y, some b => y.edges.all (fun e => decide (e < k)) && (List.range k).all fun i => b.contains i || (match rs[i]? with | some x => apartB n x y | none => false)
    | _, _ => false

/-- A store has no result. -/
def noDstB (o : Oper) : Bool := match o.op with
  | .store _ _ _ => o.dst.isNone
  | _ => true

/-- Variables that a region lays: where they will lie. -/
def resOf : List Oper → Nat → List (Nat × Nat)
  | [], _ => []
  | o :: r, n => match o.op, o.dst with
    | .alloc _, some d => (d, n) :: resOf r (n + 1)
    | _, _ => resOf r n
def evOpR (res : List (Nat × Nat)) (lit : Bool) (o : Oper) : Q Patch := match o.op, o.dst with
  | .alloc t, some d => match res.lookup d, zeroC P t with
    | some r, some cs => .blk r fun
      | .dead => .ret { sets := [(d, .ptr r 0)], bsets := [(r, .bx (if cs.any isNilp then some t else none) cs)] }
      | _ => .fail
    | _, _ => .fail
  | _, _ => evOp P wr ICall lit o

def evRecsR (res : List (Nat × Nat)) (lit : Bool) (O : Orc) (all : List Oper) : List Oper → St → Script → Option (St × Script × List Prop × List Rec)
  | [], s, sc => some (s, sc, [], [])
  | o :: r, s, sc => match wantedV s all o with
    | some true => match (evOpR P wr ICall res lit o).runL O s sc with
      | some (p, sc, ps, l) => if p.sets.all (fun x => some x.1 == o.dst) = false then none else match evRecsR res lit O all r (p.apply s) sc with
        | some (s2, sc, qs, rs) => some (s2, sc, ps ++ qs, recOf all o s p l :: rs)
        | none => none
      | none => none
    | some false => match evRecsR res lit O all r ((voidP o).apply s) sc with
      | some (s2, sc, qs, rs) => some (s2, sc, qs, recOf all o s (voidP o) {} :: rs)
      | none => none
    | none => none

def evDraw (lit : Bool) (O : Orc) (ops : List Oper) (s : St) (sc : Script) : Option (St × Script × List Prop) :=
  match evRecs P wr ICall lit O ops ops s sc with
  | some (s', sc', ps, rs) => if orderB s.blks.length rs then some (s', sc', ps) else none
  | none => none
/-- The same, the blocks of new variables laid ahead. -/
def evDrawR (lit : Bool) (O : Orc) (ops : List Oper) (s : St) (sc : Script) : Option (St × Script × List Prop) :=
  let res := resOf ops s.blks.length
  let s1 : St := ⟨s.slots, s.blks ++ List.replicate res.length .dead⟩
  match evRecsR P wr ICall res lit O ops ops s1 sc with
  | some (s', sc', ps, rs) => if orderB s1.blks.length rs && res.all (fun x => decide (x.2 < s1.blks.length)) then some (s', sc', ps) else none
  | none => none

def evRegion (lit : Bool) (O : Orc) (ops : List Oper) (draw : Bool) (s : St) (sc : Script) : Option (St × Script × List Prop) :=
  if ops.all noDstB = false then none else if draw then match evDraw P wr ICall lit O ops s sc with
    | some x => some x
    | none => evDrawR P wr ICall lit O ops s sc
  else evOps P wr ICall lit O ops ops s sc

def ev (lit : Bool) (O : Orc) : Nat → Code → St → Script → Option (Ex × St × Script × List Prop)
  | 0, _, _, _ => none
  | n + 1, c, s, sc => match c with
    | .skip | .label _ => some (.normal, s, sc, [])
    | .region _ ops draw => match evRegion P wr ICall lit O ops.toList draw s sc with
      | some (s, sc, ps) => some (.normal, s, sc, ps)
      | none => none
    | .seq a b => match ev lit O n a s sc with
      | some (.normal, s, sc, ps) => match ev lit O n b s sc with
        | some (e, s, sc, qs) => some (e, s, sc, ps ++ qs)
        | none => none
      | r => r
    | .cond c a b => match c with
      | .tmp t => match s.slot t with
        | .d (.bool true) => ev lit O n a s sc
        | .d (.bool false) => ev lit O n b s sc
        | _ => none
      | .const (.bool true) => ev lit O n a s sc
      | .const (.bool false) => ev lit O n b s sc
      | _ => none
    | .block id a => match ev lit O n a s sc with
      | some (.exit j, s, sc, ps) => if j = id then some (.normal, s, sc, ps) else some (.exit j, s, sc, ps)
      | r => r
    | .loop a => match sc with
      | none => match ev lit O n a s none with
        | some (.normal, s, _, ps) => match ev lit O n (.loop a) s none with
          | some (e, s, sc, qs) => some (e, s, sc, ps ++ qs)
          | none => none
        | r => r
      | some _ => none
    | .scope a => ev lit O n a s sc
    | .exit id => some (.exit id, s, sc, [])
    | .ret => some (.ret, s, sc, [])
    | _ => none

/-- A result as it leaves the function: lists of its own are the caller's. -/
def leave0 (s : St) (n1 : Nat) : V → Option V
  | .arr id => if id < n1 then some (.arr id) else match s.blk id with
    | .lst e xs => some (.own e xs)
    | .lst2 e xss => some (.own2 e xss)
    | _ => none
  | .win id lo n => if id < n1 then some (.win id lo n) else if lo = 0 then match s.blk id with
    | .lst e xs => some (.own e (xs.take n))
    | _ => none else none
  | .ptr id off => if id < n1 then some (.ptr id off) else none
  | .d x => some (.d x)
  | .emp b => some (.emp b)
  | .nnil => some .nnil
  | _ => none
def leaveL (s : St) (n1 : Nat) : List V → Option (List V)
  | [] => some []
  | v :: r => match leave0 s n1 v, leaveL s n1 r with
    | some x, some y => some (x :: y)
    | _, _ => none
def leave1 (s : St) (n1 : Nat) : V → Option V
  | .agg cs => (leaveL s n1 cs).map .agg
  | v => leave0 s n1 v
def leaveT (s : St) (n1 : Nat) : List V → Option (List V)
  | [] => some []
  | v :: r => match leave1 s n1 v, leaveT s n1 r with
    | some x, some y => some (x :: y)
    | _, _ => none
/-- The lists that leave. -/
def lvs0 (n1 : Nat) : V → List Nat
  | .arr id => if id < n1 then [] else [id]
  | .win id _ _ => if id < n1 then [] else [id]
  | _ => []
def lvs1 (n1 : Nat) : V → List Nat
  | .agg cs => cs.flatMap (lvs0 n1)
  | v => lvs0 n1 v

def resultV (s : St) : ResultVar → Option V
  | .tmp t => some (s.slot t)
  | .cell a t => match (loadV P t (s.slot a)).run (fun _ _ _ => none) s (some []) with
    | some (v, _, []) => some v
    | _ => none
def resultsV (s : St) : List ResultVar → Option (List V)
  | [] => some []
  | v :: r => match resultV P s v, resultsV s r with
    | some x, some y => some (x :: y)
    | _, _ => none

def entry (fn : Func) (as : List V) (bs : List B) : St := ⟨as ++ List.replicate (fn.ntmps - as.length) .undef, bs⟩

/-- Does a cell that stays refer to a block that would go? -/
def stays (n1 : Nat) (bs : List B) : Bool := bs.all fun b => (idsB b).all fun i => decide (i < n1)

def one (vs : List V) : V := match vs with
  | [v] => v
  | vs => .tup vs

def finish (fn : Func) (n1 : Nat) (s : St) : Option (V × List B) :=
  match resultsV P s fn.results.toList with
  | some vs =>
    let whole : Option (V × List B) := if (lay 0 (one vs)).2.isEmpty && vs.all (fun | .tup _ => false | _ => true) then some (one vs, s.blks) else none
    if stays n1 (s.blks.take n1) && nodupB (vs.flatMap (lvs1 n1)) && decide (n1 ≤ s.blks.length) then match leaveT s n1 vs with
      | some vs => some (one vs, s.blks.take n1)
      | none => whole
    else whole
  | none => none

/-- Lists of a result, as data. -/
def data0 : V → V
  | .own _ xs => .d (.sl xs)
  | .emp _ => .d (.sl [])
  | v => v
def dataV : V → V
  | .agg cs => mkAgg (cs.map data0)
  | .tup vs => .tup (vs.map fun | .agg cs => mkAgg (cs.map data0) | v => data0 v)
  | v => data0 v

def evF (lits : Nat → Bool) : Nat → Orc
  | 0 => fun _ _ _ => none
  | n + 1 => fun f as bs => match P.funcs[f]? with
    | some fn => match fn.body with
      | some c => match ev P wr ICall (lits f) (evF lits n) 100000 c (entry fn as bs) none with
        | some (.ret, s, _, []) => finish P fn bs.length s
        | some (.normal, s, _, []) => finish P fn bs.length s
        | _ => none
      | none => none
    | none => none

end Go.Proofs.YtbamhlgkoimjoaaDoor.Ab
/- What an abstract state says of a frame's slots and of memory. -/
namespace Go.Proofs.YtbamhlgkoimjoaaDoor.Ab
open Go
set_option linter.unusedVariables false

variable (P : Program)

/-- A value that reads as plain data, out of blocks that nobody writes. -/
inductive DRel (w : World) (Pr : Nat → Prop) : D → Value → Prop
  | int (k n) : DRel w Pr (.int k n) (.int k n)
  | bool (b) : DRel w Pr (.bool b) (.bool b)
  | str (s : ByteArray) : DRel w Pr (.str s.data.toList) (.string s)
  | sl0 (a : Option Addr) (cap : Nat) : DRel w Pr (.sl []) (.slice a 0 cap)
  | sl (xs : List D) (b o cap wd : Nat) (f : Nat → Nat → Value) (hb : Pr b) (hc : xs.length ≤ cap)
      (hw : ∀ (i : Nat) (x : D), xs[i]? = some x → x.cells.length = wd)
      (hm : ∀ (i : Nat) (x : D) (j : Nat) (y : D), xs[i]? = some x → x.cells[j]? = some y → w.cell? ⟨b, o + i * wd + j, none⟩ = some (f i j))
      (h1 : ∀ (i : Nat) (x : D) (j : Nat) (y : D), xs[i]? = some x → x.cells[j]? = some y → (f i j).oneCell' = true)
      (hd : ∀ (i : Nat) (x : D) (j : Nat) (y : D), xs[i]? = some x → x.cells[j]? = some y → DRel w Pr y (f i j)) : DRel w Pr (.sl xs) (.slice (some ⟨b, o, none⟩) xs.length cap)
  | agg (ds : List D) (cs : List Value) (hl : ds.length = cs.length) (h1 : ∀ v ∈ cs, v.oneCell' = true)
      (hd : ∀ (j : Nat) (d : D) (v : Value), ds[j]? = some d → cs[j]? = some v → DRel w Pr d v) : DRel w Pr (.agg ds) (.agg cs.toArray)
  | inil : DRel w Pr .inil .nilIface
  | iany (t v) : DRel w Pr .iany (.iface t v)

theorem cell_same {w w' : World} {b o : Nat} (h : w'.heap[b]? = w.heap[b]?) : w'.cell? ⟨b, o, none⟩ = w.cell? ⟨b, o, none⟩ := by simp [World.cell?, h]

theorem DRel.mono {w w' : World} {Pr Pr' : Nat → Prop} (hp : ∀ b, Pr b → Pr' b) (hw : ∀ b, Pr b → w'.heap[b]? = w.heap[b]?) {d : D} {v : Value} (h : DRel w Pr d v) : DRel w' Pr' d v := by
  induction h with
  | int k n => exact .int k n
  | bool b => exact .bool b
  | str s => exact .str s
  | sl0 a c => exact .sl0 a c
  | sl xs b o cap wd f hb hc hwd hm h1 hd ih =>
    exact .sl xs b o cap wd f (hp b hb) hc hwd (fun i x j y hx hy => by rw [cell_same (hw b hb)]; exact hm i x j y hx hy) h1 ih
  | agg ds cs hl h1 hd ih => exact .agg ds cs hl h1 ih
  | inil => exact .inil
  | iany t v => exact .iany t v

/-- A list's header: without room, or a row of the call's own. -/
inductive H where
  | zero (a : Option Addr)
  | row (b cap : Nat)

/-- Where a block of the store lies. -/
inductive CB where
  | box (b : Nat)
  | lst (h : H)
  | lst2 (b cap : Nat) (inner : List (H))
  | dead

def hdr (h : H) (n : Nat) : Value := match h with
  | .zero a => .slice a 0 0
  | .row b cap => .slice (some ⟨b, 0, none⟩) n cap

def H.own : H → List Nat
  | .zero _ => []
  | .row b _ => [b]

def OwnR (w : World) (e wd : Nat) (h : H) (n : Nat) (cs : List Value) : Prop := match h with
  | .zero _ => n = 0 ∧ cs = []
  | .row b cap => w.ownsRow 0 e wd (.slice (some ⟨b, 0, none⟩) n cap) n cs

def CB.own : CB → List Nat
  | .box b => [b]
  | .lst h => h.own
  | .lst2 b _ inner => b :: inner.flatMap H.own
  | .dead => []

/-- What a reference sees of a block. -/
inductive VW where
  | box (b : Nat)
  | lst (e n : Nat) (h : H)
  | lst2 (s : Nat) (lens : List (Option Nat)) (b cap : Nat) (inner : List (H))

def vwOf : B → CB → Option VW
  | .bx _ _, .box b => some (.box b)
  | .lst e xs, .lst h => some (.lst e xs.length h)
  | .lst2 s xss, .lst2 b cap inner => some (.lst2 s (xss.map (·.map List.length)) b cap inner)
  | _, _ => none

def view (bl : List B) (μ : List CB) (id : Nat) : Option VW := match bl[id]?, μ[id]? with
  | some x, some c => vwOf x c
  | _, _ => none

def All2 {α β : Type} (R : α → β → Prop) : List α → List β → Prop
  | [], [] => True
  | a :: as, b :: bs => R a b ∧ All2 R as bs
  | _, _ => False

theorem All2.mono {α β : Type} {R R' : α → β → Prop} (h : ∀ a b, R a b → R' a b) : ∀ {xs : List α} {ys : List β}, All2 R xs ys → All2 R' xs ys
  | [], [], _ => trivial
  | _ :: _, _ :: _, hx => ⟨h _ _ hx.1, All2.mono h hx.2⟩
  | [], _ :: _, hx => hx.elim
  | _ :: _, [], hx => hx.elim
theorem All2.monoMem {α β : Type} {R R' : α → β → Prop} : ∀ {xs : List α} {ys : List β}, (∀ a ∈ xs, ∀ b, R a b → R' a b) → All2 R xs ys → All2 R' xs ys
  | [], [], _, _ => trivial
  | a :: _, _ :: _, h, hx => ⟨h a (List.mem_cons_self ..) _ hx.1, All2.monoMem (fun a ha => h a (List.mem_cons_of_mem _ ha)) hx.2⟩
  | [], _ :: _, _, hx => hx.elim
  | _ :: _, [], _, hx => hx.elim
theorem All2.length {α β : Type} {R : α → β → Prop} : ∀ {xs : List α} {ys : List β}, All2 R xs ys → xs.length = ys.length
  | [], [], _ => rfl
  | _ :: _, _ :: _, h => by simp [All2.length h.2]
  | [], _ :: _, h => h.elim
  | _ :: _, [], h => h.elim
theorem All2.get {α β : Type} {R : α → β → Prop} : ∀ {xs : List α} {ys : List β} (_ : All2 R xs ys) (i : Nat) (x : α), xs[i]? = some x → ∃ y, ys[i]? = some y ∧ R x y
  | [], [], _, i, x, h => by simp at h
  | a :: _, b :: _, h, 0, x, hx => by simp at hx; subst hx; exact ⟨b, rfl, h.1⟩
  | _ :: as, _ :: bs, h, i + 1, x, hx => by simpa using All2.get h.2 i x (by simpa using hx)
  | [], _ :: _, h, _, _, _ => h.elim
  | _ :: _, [], h, _, _, _ => h.elim
theorem All2.of {α β : Type} {R : α → β → Prop} : ∀ {xs : List α} {ys : List β}, xs.length = ys.length → (∀ (i : Nat) (x : α) (y : β), xs[i]? = some x → ys[i]? = some y → R x y) → All2 R xs ys
  | [], [], _, _ => trivial
  | a :: as, b :: bs, hl, h => ⟨h 0 a b rfl rfl, All2.of (by simpa using hl) fun i x y hx hy => h (i + 1) x y (by simpa using hx) (by simpa using hy)⟩
  | [], _ :: _, h, _ => by simp at h
  | _ :: _, [], h, _ => by simp at h

/-- A simple value of a slot or a cell. -/
def VRel0 (w : World) (Pr : Nat → Prop) (vw : Nat → Option VW) : V → Value → Prop
  | .undef, _ => True
  | .void, v => v = undef
  | .d x, v => DRel w Pr x v
  | .emp true, v => v = .slice none 0 0
  | .emp false, v => ∃ a, v = .slice a 0 0
  | .nnil, v => ∃ a cap, v = .slice (some a) 0 cap
  | .nlc, v => ∃ cap, v = .slice none 0 cap
  | .nilp, v => v = .pointer none
  | .arr id, v => (∃ e n h, vw id = some (.lst e n h) ∧ v = hdr h n) ∨ (∃ s lens b cap inner, vw id = some (.lst2 s lens b cap inner) ∧ v = .slice (some ⟨b, 0, none⟩) lens.length cap)
  | .inn id i, v => ∃ s lens b cap inner n h, vw id = some (.lst2 s lens b cap inner) ∧ lens[i]? = some (some n) ∧ inner[i]? = some h ∧ v = hdr h n
  | .win id lo n, v => ∃ e len h wd a cap, vw id = some (.lst e len h) ∧ szOf P e = some wd ∧ v = .slice a n cap ∧ n ≤ cap ∧ lo + n ≤ len ∧
      (∀ b c, h = .row b c → 0 < n → a = some ⟨b, lo * wd, none⟩) ∧ (lo = 0 → v = hdr h n)
  | .ptr id off, v => ∃ b, vw id = some (.box b) ∧ v = .pointer (some ⟨b, off, none⟩)
  | .eptr id i sub, v => (∃ e n b cap wd, vw id = some (.lst e n (.row b cap)) ∧ i < n ∧ szOf P e = some wd ∧ v = .pointer (some ⟨b, i * wd + sub, none⟩)) ∨
      (∃ s lens b cap inner, vw id = some (.lst2 s lens b cap inner) ∧ i < lens.length ∧ sub = 0 ∧ v = .pointer (some ⟨b, i, none⟩)) ∨
      (∃ b, vw id = some (.box b) ∧ v = .pointer (some ⟨b, i + sub, none⟩))
  | .iptr id i k, v => ∃ s lens b cap inner n e b' cap' wd, vw id = some (.lst2 s lens b cap inner) ∧ lens[i]? = some (some n) ∧ inner[i]? = some (.row b' cap') ∧
      k < n ∧ elemOf P s = some e ∧ szOf P e = some wd ∧ v = .pointer (some ⟨b', k * wd, none⟩)
  | .dptr x sub, v => ∃ b o, Pr b ∧ v = .pointer (some ⟨b, o + sub, none⟩) ∧ ∀ (j : Nat) (y : D), x.cells[j]? = some y → ∃ u, w.cell? ⟨b, o + j, none⟩ = some u ∧ u.oneCell' = true ∧ DRel w Pr y u
  | _, _ => False

def VRel1 (w : World) (Pr : Nat → Prop) (vw : Nat → Option VW) : V → Value → Prop
  | .func f cap, v => ∃ vs : List Value, v = .func (.func f) #[] vs.toArray ∧ All2 (VRel0 P w Pr vw) cap vs
  | .iface t x, v => ∃ u, v = .iface t u ∧ VRel0 P w Pr vw x u
  | .agg cs, v => ∃ vs : List Value, v = .agg vs.toArray ∧ All2 (fun c u => VRel0 P w Pr vw c u ∧ u.oneCell' = true) cs vs
  | x, v => VRel0 P w Pr vw x v

def VRel (w : World) (Pr : Nat → Prop) (vw : Nat → Option VW) : V → Value → Prop
  | .tup xs, v => ∃ vs : List Value, v = .tuple vs.toArray ∧ All2 (VRel1 P w Pr vw) xs vs
  | x, v => VRel1 P w Pr vw x v

section mono
variable {w w' : World} {Pr Pr' : Nat → Prop} {vw vw' : Nat → Option VW}

theorem VRel0.mono (hp : ∀ b, Pr b → Pr' b) (hw : ∀ b, Pr b → w'.heap[b]? = w.heap[b]?) {v : V} (hv : ∀ id ∈ ids0 v, vw id ≠ none → vw' id = vw id) {x : Value} (h : VRel0 P w Pr vw v x) : VRel0 P w' Pr' vw' v x := by
  have key : ∀ id u, id ∈ ids0 v → vw id = some u → vw' id = some u := fun id u hi hu => by rw [hv id hi (by simp [hu])]; exact hu
  cases v with
  | d x => exact DRel.mono hp hw h
  | arr id =>
    rcases h with ⟨e, n, h', h1, h2⟩ | ⟨s, lens, b, cap, inner, h1, h2⟩
    · exact .inl ⟨e, n, h', key _ _ (by simp [ids0]) h1, h2⟩
    · exact .inr ⟨s, lens, b, cap, inner, key _ _ (by simp [ids0]) h1, h2⟩
  | inn id i => obtain ⟨s, lens, b, cap, inner, n, h', h1, h2⟩ := h; exact ⟨s, lens, b, cap, inner, n, h', key _ _ (by simp [ids0]) h1, h2⟩
  | win id lo n => obtain ⟨e, len, h', wd, a, cap, h1, h2⟩ := h; exact ⟨e, len, h', wd, a, cap, key _ _ (by simp [ids0]) h1, h2⟩
  | ptr id off => obtain ⟨b, h1, h2⟩ := h; exact ⟨b, key _ _ (by simp [ids0]) h1, h2⟩
  | eptr id i sub =>
    rcases h with ⟨e, n, b, cap, wd, h1, h2⟩ | ⟨s, lens, b, cap, inner, h1, h2⟩ | ⟨b, h1, h2⟩
    · exact .inl ⟨e, n, b, cap, wd, key _ _ (by simp [ids0]) h1, h2⟩
    · exact .inr (.inl ⟨s, lens, b, cap, inner, key _ _ (by simp [ids0]) h1, h2⟩)
    · exact .inr (.inr ⟨b, key _ _ (by simp [ids0]) h1, h2⟩)
  | iptr id i k => obtain ⟨s, lens, b, cap, inner, n, e, b', cap', wd, h1, h2⟩ := h; exact ⟨s, lens, b, cap, inner, n, e, b', cap', wd, key _ _ (by simp [ids0]) h1, h2⟩
  | dptr x sub =>
    obtain ⟨b, o, hb, hx, hc⟩ := h
    exact ⟨b, o, hp b hb, hx, fun j y hy => by rw [cell_same (hw b hb)]; obtain ⟨u, g1, g2, g3⟩ := hc j y hy; exact ⟨u, g1, g2, g3.mono hp hw⟩⟩
  | emp b => cases b <;> exact h
  | _ => exact h

theorem VRel1.mono (hp : ∀ b, Pr b → Pr' b) (hw : ∀ b, Pr b → w'.heap[b]? = w.heap[b]?) {v : V} (hv : ∀ id ∈ ids1 v, vw id ≠ none → vw' id = vw id) {x : Value} (h : VRel1 P w Pr vw v x) : VRel1 P w' Pr' vw' v x := by
  have key : (∀ id ∈ ids0 v, vw id ≠ none → vw' id = vw id) → VRel0 P w Pr vw v x → VRel0 P w' Pr' vw' v x := fun a b => VRel0.mono P hp hw a b
  cases v with
  | func f cap =>
    obtain ⟨vs, rfl, h⟩ := h
    exact ⟨vs, rfl, All2.monoMem (fun a ha b hab => hab.mono P hp hw (fun id hi => hv id (List.mem_flatMap.2 ⟨a, ha, hi⟩))) h⟩
  | iface t y => obtain ⟨u, rfl, h⟩ := h; exact ⟨u, rfl, h.mono P hp hw (by simpa only [ids1] using hv)⟩
  | agg cs =>
    obtain ⟨vs, rfl, h⟩ := h
    exact ⟨vs, rfl, All2.monoMem (fun a ha b hab => ⟨hab.1.mono P hp hw (fun id hi => hv id (List.mem_flatMap.2 ⟨a, ha, hi⟩)), hab.2⟩) h⟩
  | _ => exact key hv h

theorem VRel.mono (hp : ∀ b, Pr b → Pr' b) (hw : ∀ b, Pr b → w'.heap[b]? = w.heap[b]?) {v : V} (hv : ∀ id ∈ idsV v, vw id ≠ none → vw' id = vw id) {x : Value} (h : VRel P w Pr vw v x) : VRel P w' Pr' vw' v x := by
  have key : (∀ id ∈ ids1 v, vw id ≠ none → vw' id = vw id) → VRel1 P w Pr vw v x → VRel1 P w' Pr' vw' v x := fun a b => VRel1.mono P hp hw a b
  cases v with
  | tup xs =>
    obtain ⟨vs, rfl, h⟩ := h
    exact ⟨vs, rfl, All2.monoMem (fun a ha b hab => hab.mono P hp hw (fun id hi => hv id (List.mem_flatMap.2 ⟨a, ha, hi⟩))) h⟩
  | _ => exact key hv h
end mono

/-- The cells of a list, in line. -/
def Rows' (w : World) (Pr : Nat → Prop) (wd : Nat) (xs : List D) (cs : List Value) : Prop :=
  (∀ u ∈ cs, u.oneCell' = true) ∧ ∀ (i : Nat) (x : D), xs[i]? = some x → x.cells.length = wd ∧ ∀ (j : Nat) (y : D), x.cells[j]? = some y → ∃ u, cs[i * wd + j]? = some u ∧ DRel w Pr y u

def BRel (w : World) (Pr : Nat → Prop) (vw : Nat → Option VW) : B → CB → Prop
  | .bx ty cells, .box b => ∃ c e, w.heap[b]? = some (.cells c e (0, 0)) ∧ (∀ t, ty = some t → e = t) ∧ All2 (fun v u => VRel1 P w Pr vw v u ∧ u.oneCell' = true) cells c.toList
  | .lst e xs, .lst h => ∃ wd cs, szOf P e = some wd ∧ OwnR w e wd h xs.length cs ∧ Rows' w Pr wd xs cs
  | .lst2 s xss, .lst2 b cap inner => ∃ cur e wd, w.heap[b]? = some (.cells cur s (0, 0)) ∧ xss.length ≤ cap ∧ cap ≤ maxLen ∧ cur.size = cap ∧ inner.length = xss.length ∧ szOf P s = some 1 ∧
      elemOf P s = some e ∧ szOf P e = some wd ∧ (∀ u ∈ cur.toList, u.oneCell' = true) ∧
      ∀ (i : Nat) (ys : List D) (h : H), xss[i]? = some (some ys) → inner[i]? = some h → cur[i]? = some (hdr h ys.length) ∧ ∃ cs, OwnR w e wd h ys.length cs ∧ Rows' w Pr wd ys cs
  | .dead, .dead => True
  | _, _ => False

def owns (μ : List CB) : List Nat := μ.flatMap CB.own

/-- The package-level variables that are only read hold what they hold. -/
def GOk (w : World) (Pr : Nat → Prop) : Prop :=
  (∀ (g : Nat) (x : D), globD g = some x → Pr g ∧ ∀ (j : Nat) (y : D), x.cells[j]? = some y → ∃ u, w.cell? ⟨g, j, none⟩ = some u ∧ u.oneCell' = true ∧ DRel w Pr y u) ∧
  ∀ p ∈ globT, Pr p.1 ∧ ∃ e fz, w.heap[p.1]? = some (.cells p.2 e fz)
theorem GOk.mono {w w' : World} {Pr Pr' : Nat → Prop} (h : GOk w Pr) (hp : ∀ b, Pr b → Pr' b) (hw : ∀ b, Pr b → w'.heap[b]? = w.heap[b]?) : GOk w' Pr' :=
  ⟨fun g x hx => ⟨hp g (h.1 g x hx).1, fun j y hy => let ⟨u, h1, h2, h3⟩ := (h.1 g x hx).2 j y hy; ⟨u, by rw [cell_same (hw g (h.1 g x hx).1)]; exact h1, h2, h3.mono hp hw⟩⟩,
   fun p hm => ⟨hp p.1 (h.2 p hm).1, let ⟨e, fz, h3⟩ := (h.2 p hm).2; ⟨e, fz, by rw [hw p.1 (h.2 p hm).1]; exact h3⟩⟩⟩

/-- The store. -/
structure SRel (bl : List B) (w : World) (μ : List CB) (Pr : Nat → Prop) : Prop where
  mu : μ.length = bl.length
  blks : ∀ (id : Nat) (b : B) (c : CB), bl[id]? = some b → μ[id]? = some c → BRel P w Pr (view bl μ) b c
  nodup : (owns μ).Nodup
  lt : ∀ b ∈ owns μ, b < w.heap.size ∧ ¬ Pr b
  pr : ∀ b, Pr b → b < w.heap.size
  glob : GOk w Pr

/-- A frame over its store. -/
structure Rel (s : St) (a : Act) (w : World) (μ : List CB) (Pr : Nat → Prop) : Prop extends SRel P s.blks w μ Pr where
  defers : a.defers = []
  len : s.slots.length = a.tmps.size
  slots : ∀ (n : Nat) (v : V), s.slots[n]? = some v → VRel P w Pr (view s.blks μ) v (a.tmps.getD n undef)

/-- What becomes of memory. -/
structure Evo (O : List Nat) (Pr : Nat → Prop) (w : World) (O' : List Nat) (Pr' : Nat → Prop) (w' : World) : Prop where
  os : w'.os = w.os
  tape : w'.tape = w.tape
  output : w'.output = w.output
  size : w.heap.size ≤ w'.heap.size
  block : ∀ k, k < w.heap.size → k ∉ O → w'.heap[k]? = w.heap[k]?
  own : ∀ k ∈ O', k ∈ O ∨ w.heap.size ≤ k
  prm : ∀ b, Pr b → Pr' b
  prn : ∀ b, Pr' b → Pr b ∨ b ∈ O ∨ w.heap.size ≤ b

theorem Evo.refl (O : List Nat) (Pr : Nat → Prop) (w : World) : Evo O Pr w O Pr w := ⟨rfl, rfl, rfl, Nat.le_refl _, fun _ _ _ => rfl, fun _ h => .inl h, fun _ h => h, fun _ h => .inl h⟩
theorem Evo.trans {O O1 O2 : List Nat} {Pr Pr1 Pr2 : Nat → Prop} {w w1 w2 : World} (h : Evo O Pr w O1 Pr1 w1) (k : Evo O1 Pr1 w1 O2 Pr2 w2) : Evo O Pr w O2 Pr2 w2 where
  os := k.os.trans h.os
  tape := k.tape.trans h.tape
  output := k.output.trans h.output
  size := Nat.le_trans h.size k.size
  block i hi ho := by
    rw [k.block i (Nat.lt_of_lt_of_le hi h.size) (fun hm => by rcases h.own i hm with h1 | h1; exact ho h1; omega)]
    exact h.block i hi ho
  own i hi := by
    rcases k.own i hi with h1 | h1
    · exact h.own i h1
    · exact .inr (Nat.le_trans h.size h1)
  prm b hb := k.prm b (h.prm b hb)
  prn b hb := by
    rcases k.prn b hb with h1 | h1 | h1
    · exact h.prn b h1
    · rcases h.own b h1 with h2 | h2
      · exact .inr (.inl h2)
      · exact .inr (.inr h2)
    · exact .inr (.inr (Nat.le_trans h.size h1))

end Go.Proofs.YtbamhlgkoimjoaaDoor.Ab
/- How the relation between abstract and concrete states is kept. -/
namespace Go.Proofs.YtbamhlgkoimjoaaDoor.Ab
open Go
set_option linter.unusedVariables false

variable (P : Program)

theorem ownR_same {w w' : World} {e : TypeId} {wd : Nat} {h : H} {n : Nat} {cs : List Value} (hb : ∀ b ∈ h.own, w'.heap[b]? = w.heap[b]?) (ho : OwnR w e wd h n cs) : OwnR w' e wd h n cs := by
  cases h with
  | zero a => exact ho
  | row b cap =>
    refine ⟨ho.1, ?_⟩
    rcases ho.2 with ⟨hv, _⟩ | ⟨g, c, cur, hv, hg, hh, rest⟩
    · simp at hv
    · simp at hv
      obtain ⟨rfl, rfl⟩ := hv
      exact .inr ⟨_, _, cur, rfl, hg, by rw [hb _ (by simp [H.own])]; exact hh, rest⟩

section
variable {w w' : World} {Pr Pr' : Nat → Prop} {vw vw' : Nat → Option VW}

theorem Rows'.mono (hp : ∀ b, Pr b → Pr' b) (hw : ∀ b, Pr b → w'.heap[b]? = w.heap[b]?) {wd : Nat} {xs : List D} {cs : List Value} (h : Rows' w Pr wd xs cs) : Rows' w' Pr' wd xs cs :=
  ⟨h.1, fun i x hx => ⟨(h.2 i x hx).1, fun j y hy => let ⟨u, h1, h2⟩ := (h.2 i x hx).2 j y hy; ⟨u, h1, h2.mono hp hw⟩⟩⟩

theorem BRel.mono (hp : ∀ b, Pr b → Pr' b) (hw : ∀ b, Pr b → w'.heap[b]? = w.heap[b]?) {b : B} {c : CB} (ho : ∀ k ∈ c.own, w'.heap[k]? = w.heap[k]?)
    (hv : ∀ id ∈ idsB b, vw id ≠ none → vw' id = vw id) (h : BRel P w Pr vw b c) : BRel P w' Pr' vw' b c := by
  cases b with
  | bx ty cells =>
    cases c with
    | box k =>
      obtain ⟨cs, e, h1, ht, h2⟩ := h
      exact ⟨cs, e, by rw [ho k (by simp [CB.own])]; exact h1, ht, All2.monoMem (fun a ha b hab => ⟨hab.1.mono P hp hw (fun id hi => hv id (List.mem_flatMap.2 ⟨a, ha, hi⟩)), hab.2⟩) h2⟩
    | _ => exact h.elim
  | lst e xs =>
    cases c with
    | lst hh =>
      obtain ⟨wd, cs, h1, h2, h3⟩ := h
      exact ⟨wd, cs, h1, ownR_same (fun b hb => ho b hb) h2, h3.mono hp hw⟩
    | _ => exact h.elim
  | lst2 s xss =>
    cases c with
    | lst2 k cap inner =>
      obtain ⟨cur, e, wd, h1, h2, h3, h4, h5, h6, h7, h8, h9, h10⟩ := h
      refine ⟨cur, e, wd, by rw [ho k (by simp [CB.own])]; exact h1, h2, h3, h4, h5, h6, h7, h8, h9, fun i ys hh hi hj => ?_⟩
      obtain ⟨g1, cs, g2, g3⟩ := h10 i ys hh hi hj
      refine ⟨g1, cs, ownR_same (fun b hb => ho b ?_) g2, g3.mono hp hw⟩
      simp only [CB.own, List.mem_cons, List.mem_flatMap]
      exact .inr ⟨_, List.mem_of_getElem? hj, hb⟩
    | _ => exact h.elim
  | dead =>
    cases c with
    | dead => trivial
    | _ => exact h.elim
end

theorem Rel.update {s s' : St} {a a' : Act} {w w' : World} {μ μ' : List CB} {Pr Pr' : Nat → Prop} (h : Rel P s a w μ Pr) (K : Nat → Prop)
    (hev : Evo (owns μ) Pr w (owns μ') Pr' w') (hdef : a'.defers = []) (hlen : s'.slots.length = a'.tmps.size) (hmu : μ'.length = s'.blks.length)
    (hview : ∀ id, ¬ K id → view s.blks μ id ≠ none → view s'.blks μ' id = view s.blks μ id)
    (hslots : ∀ (n : Nat) (v : V), s'.slots[n]? = some v → (s.slots[n]? = some v ∧ a'.tmps.getD n undef = a.tmps.getD n undef ∧ ∀ id ∈ idsV v, ¬ K id) ∨ VRel P w' Pr' (view s'.blks μ') v (a'.tmps.getD n undef))
    (hblks : ∀ (id : Nat) (b : B) (c : CB), s'.blks[id]? = some b → μ'[id]? = some c → (s.blks[id]? = some b ∧ μ[id]? = some c ∧ (∀ k ∈ c.own, w'.heap[k]? = w.heap[k]?) ∧ ∀ i ∈ idsB b, ¬ K i) ∨ BRel P w' Pr' (view s'.blks μ') b c)
    (hnd : (owns μ').Nodup) (hlt : ∀ b ∈ owns μ', b < w'.heap.size ∧ ¬ Pr' b) (hpr : ∀ b, Pr' b → b < w'.heap.size) : Rel P s' a' w' μ' Pr' := by
  have hpw : ∀ b, Pr b → w'.heap[b]? = w.heap[b]? := fun b hb => hev.block b (h.pr b hb) (fun hm => (h.lt b hm).2 hb)
  refine ⟨⟨hmu, fun id b c hb hc => ?_, hnd, hlt, hpr, h.glob.mono hev.prm hpw⟩, hdef, hlen, fun n v hv => ?_⟩
  rotate_left
  · rcases hslots n v hv with ⟨h1, h2, h3⟩ | h1
    · rw [h2]
      exact (h.slots n v h1).mono P hev.prm hpw (fun id hi hne => hview id (h3 id hi) hne)
    · exact h1
  · rcases hblks id b c hb hc with ⟨h1, h2, h3, h4⟩ | h1
    · exact (h.blks id b c h1 h2).mono P hev.prm hpw h3 (fun i hi hne => hview i (h4 i hi) hne)
    · exact h1

/-! ### a slot is set -/

theorem getD_put (a : Act) (d : Nat) (x : Value) (n : Nat) (hd : d < a.tmps.size) : (a.put (some d) x).tmps.getD n undef = if n = d then x else a.tmps.getD n undef := by
  simp only [Act.put, Array.getD_eq_getD_getElem?, Array.getElem?_setIfInBounds]
  by_cases h : d = n
  · subst h; simp [hd]
  · rw [if_neg h, if_neg (fun e => h e.symm)]

theorem size_put (a : Act) (d : Option Nat) (x : Value) : (a.put d x).tmps.size = a.tmps.size := by cases d <;> simp [Act.put]
theorem defers_put (a : Act) (d : Option Nat) (x : Value) : (a.put d x).defers = a.defers := by cases d <;> rfl
theorem put_out (a : Act) (d : Nat) (x : Value) (hd : ¬ d < a.tmps.size) : a.put (some d) x = a := by
  simp only [Act.put]
  have : a.tmps.setIfInBounds d x = a.tmps := by rw [Array.setIfInBounds]; simp [hd]
  rw [this]

def setSlot (s : St) (d : Option Nat) (v : V) : St := match d with
  | some d => ⟨s.slots.set d v, s.blks⟩
  | none => s

theorem setSlot_blks (s : St) (d : Option Nat) (v : V) : (setSlot s d v).blks = s.blks := by cases d <;> rfl

theorem putP_apply (dst : Option Nat) (v : V) (s : St) : (putP dst v).apply s = setSlot s dst v := by
  cases dst <;> simp [putP, Patch.apply, setAll, modAll, setSlot]

theorem Rel.setSlot {s : St} {a : Act} {w : World} {μ : List CB} {Pr : Nat → Prop} (h : Rel P s a w μ Pr) (d : Option Nat) {v : V} {x : Value} (hv : VRel P w Pr (view s.blks μ) v x) :
    Rel P (setSlot s d v) (a.put d x) w μ Pr := by
  cases d with
  | none => exact h
  | some d =>
    by_cases hd : d < a.tmps.size
    · refine h.update P (fun _ => False) (.refl _ _ _) h.defers (by simp [Ab.setSlot, h.len, size_put]) h.mu (fun _ _ _ => rfl) (fun n u hu => ?_) (fun id b c hb hc => .inl ⟨hb, hc, fun _ _ => rfl, fun _ _ hF => hF⟩) h.nodup h.lt h.pr
      rw [getD_put a d x n hd]
      simp only [Ab.setSlot, List.getElem?_set] at hu
      by_cases hn : d = n
      · subst hn
        rw [if_pos rfl, if_pos (by rw [h.len]; exact hd)] at hu
        cases hu
        rw [if_pos rfl]
        exact .inr hv
      · rw [if_neg hn] at hu
        rw [if_neg (fun e => hn e.symm)]
        exact .inl ⟨hu, rfl, fun _ _ hF => hF⟩
    · rw [put_out a d x hd]
      have : (Ab.setSlot s (some d) v) = s := by
        simp only [Ab.setSlot]
        rw [List.set_eq_of_length_le (by rw [h.len]; omega)]
      rw [this]
      exact h

/-- Memory has grown by blocks that nobody writes. -/
theorem Rel.grow {s : St} {a : Act} {w w' : World} {μ : List CB} {Pr Pr' : Nat → Prop} (h : Rel P s a w μ Pr) (hev : Evo (owns μ) Pr w (owns μ) Pr' w') (hb : ∀ k, k < w.heap.size → w'.heap[k]? = w.heap[k]?)
    (hlt : ∀ b ∈ owns μ, ¬ Pr' b) (hpr : ∀ b, Pr' b → b < w'.heap.size) : Rel P s a w' μ Pr' :=
  h.update P (fun _ => False) hev h.defers h.len h.mu (fun _ _ _ => rfl) (fun n u hu => .inl ⟨hu, rfl, fun _ _ hF => hF⟩)
    (fun id b c h1 h2 => .inl ⟨h1, h2, fun k hk => hb k (h.lt k (List.mem_flatMap.2 ⟨c, List.mem_of_getElem? h2, hk⟩)).1, fun _ _ hF => hF⟩) h.nodup
    (fun b hm => ⟨Nat.lt_of_lt_of_le (h.lt b hm).1 hev.size, hlt b hm⟩) hpr

end Go.Proofs.YtbamhlgkoimjoaaDoor.Ab
/- Operations that only make a value: what the abstract machine says is what the model does. -/
namespace Go.Proofs.YtbamhlgkoimjoaaDoor.Ab
open Go
set_option linter.unusedVariables false
set_option linter.unusedSimpArgs false

/-- It runs so, and its conditions hold. -/
def Hold {α : Type} (O : Orc) (s : St) (q : Q α) (sc : Script) (r : α) (sc' : Script) : Prop := ∃ ps, q.run O s sc = some (r, sc', ps) ∧ ∀ p ∈ ps, p

section hold
variable {α β : Type} {O : Orc} {s : St} {sc sc' : Script} {r : α}

theorem hold_ret {a : α} : Hold O s (.ret a) sc r sc' ↔ r = a ∧ sc' = sc := by
  constructor
  · rintro ⟨ps, h, _⟩; simp [Q.run] at h; exact ⟨h.1.symm, h.2.1.symm⟩
  · rintro ⟨rfl, rfl⟩; exact ⟨[], rfl, by simp⟩
theorem hold_fail : Hold O s (.fail : Q α) sc r sc' ↔ False := ⟨fun ⟨_, h, _⟩ => by simp [Q.run] at h, False.elim⟩
theorem hold_slot {n : Nat} {k : V → Q α} : Hold O s (.slot n k) sc r sc' ↔ Hold O s (k (s.slot n)) sc r sc' := Iff.rfl
theorem hold_blk {n : Nat} {k : B → Q α} : Hold O s (.blk n k) sc r sc' ↔ Hold O s (k (s.blk n)) sc r sc' := Iff.rfl
theorem hold_shp {n : Nat} {k : BS → Q α} : Hold O s (.shp n k) sc r sc' ↔ Hold O s (k (s.blk n).shape) sc r sc' := Iff.rfl
theorem shape_lst {b : B} {e n : Nat} (h : b.shape = .lst e n) : ∃ xs, b = .lst e xs ∧ xs.length = n := by
  cases b <;> simp [B.shape] at h
  exact ⟨_, by rw [h.1], h.2⟩
theorem shape_lst2 {b : B} {e n : Nat} (h : b.shape = .lst2 e n) : ∃ xs, b = .lst2 e xs ∧ xs.length = n := by
  cases b <;> simp [B.shape] at h
  exact ⟨_, by rw [h.1], h.2⟩
theorem hold_nblk {k : Nat → Q α} : Hold O s (.nblk k) sc r sc' ↔ Hold O s (k s.blks.length) sc r sc' := Iff.rfl
theorem hold_req {p : Prop} {k : Q α} : Hold O s (.req p k) sc r sc' ↔ p ∧ Hold O s k sc r sc' := by
  constructor
  · rintro ⟨ps, h, hp⟩
    simp only [Q.run] at h
    split at h
    · rename_i a sc1 qs he
      simp only [Option.some.injEq, Prod.mk.injEq] at h
      obtain ⟨rfl, rfl, rfl⟩ := h
      exact ⟨hp p (List.mem_cons_self ..), qs, he, fun q hq => hp q (List.mem_cons_of_mem _ hq)⟩
    · cases h
  · rintro ⟨hp, ps, h, hps⟩
    exact ⟨p :: ps, by simp [Q.run, h], fun q hq => by rcases List.mem_cons.1 hq with rfl | hq; exact hp; exact hps q hq⟩
theorem hold_pop {k : Option It → Q α} : Hold O s (.pop k) sc r sc' ↔ (sc = none ∧ Hold O s (k none) none r sc') ∨ ∃ i t, sc = some (i :: t) ∧ Hold O s (k (some i)) (some t) r sc' := by
  cases sc with
  | none => simp [Hold, Q.run]
  | some l => cases l with
    | nil => simp [Hold, Q.run]
    | cons i t =>
      constructor
      · intro h; exact .inr ⟨i, t, rfl, h⟩
      · rintro (⟨h, _⟩ | ⟨i', t', h, h'⟩)
        · cases h
        · cases h; exact h'
theorem hold_call {f : Nat} {as : List V} {bs : List B} {k : V → List B → Q α} : Hold O s (.call f as bs k) sc r sc' ↔ ∃ x bs', O f as bs = some (x, bs') ∧ Hold O s (k x bs') sc r sc' := by
  constructor
  · rintro ⟨ps, h, hp⟩
    simp only [Q.run] at h
    split at h
    · rename_i x bs' he; exact ⟨x, bs', he, ps, h, hp⟩
    · cases h
  · rintro ⟨x, bs', he, ps, h, hp⟩
    exact ⟨ps, by simp [Q.run, he, h], hp⟩

theorem hold_bind {q : Q α} {f : α → Q β} {x : β} : ∀ {sc : Script}, Hold O s (q.bind f) sc x sc' ↔ ∃ a sc1, Hold O s q sc a sc1 ∧ Hold O s (f a) sc1 x sc' := by
  induction q with
  | ret a => intro sc; simp only [Q.bind, hold_ret]; exact ⟨fun h => ⟨a, sc, ⟨rfl, rfl⟩, h⟩, fun ⟨_, _, ⟨e1, e2⟩, h⟩ => by subst e1; subst e2; exact h⟩
  | fail => intro sc; simp [Q.bind, hold_fail]
  | slot n k ih => intro sc; simp only [Q.bind, hold_slot]; exact ih _
  | blk n k ih => intro sc; simp only [Q.bind, hold_blk]; exact ih _
  | shp n k ih => intro sc; simp only [Q.bind, hold_shp]; exact ih _
  | nblk k ih => intro sc; simp only [Q.bind, hold_nblk]; exact ih _
  | req p k ih =>
    intro sc
    simp only [Q.bind, hold_req, ih]
    constructor
    · rintro ⟨hp, a, sc1, h1, h2⟩; exact ⟨a, sc1, ⟨hp, h1⟩, h2⟩
    · rintro ⟨a, sc1, ⟨hp, h1⟩, h2⟩; exact ⟨hp, a, sc1, h1, h2⟩
  | pop k ih =>
    intro sc
    simp only [Q.bind, hold_pop, ih]
    constructor
    · rintro (⟨h, a, sc1, h1, h2⟩ | ⟨i, t, h, a, sc1, h1, h2⟩)
      · exact ⟨a, sc1, .inl ⟨h, h1⟩, h2⟩
      · exact ⟨a, sc1, .inr ⟨i, t, h, h1⟩, h2⟩
    · rintro ⟨a, sc1, (⟨h, h1⟩ | ⟨i, t, h, h1⟩), h2⟩
      · exact .inl ⟨h, a, sc1, h1, h2⟩
      · exact .inr ⟨i, t, h, a, sc1, h1, h2⟩
  | call g as bs k ih =>
    intro sc
    simp only [Q.bind, hold_call, ih]
    constructor
    · rintro ⟨y, bs', h, a, sc1, h1, h2⟩; exact ⟨a, sc1, ⟨y, bs', h, h1⟩, h2⟩
    · rintro ⟨a, sc1, ⟨y, bs', h, h1⟩, h2⟩; exact ⟨y, bs', h, a, sc1, h1, h2⟩
end hold

variable {P : Program} {O : Orc} {s : St} {sc sc' : Script} {w : World} {Pr : Nat → Prop} {vw : Nat → Option VW}

theorem hold_popInt {v : Int} {k : IntKind} {r : V} (h : Hold O s (popInt v k) sc r sc') : r = .d (.int k v) := by
  unfold popInt at h
  rw [hold_pop] at h
  rcases h with ⟨_, h⟩ | ⟨i, t, _, h⟩
  · exact (hold_ret.1 h).1
  · cases i <;> first | exact (hold_ret.1 h).1 | (obtain ⟨rfl, h⟩ := hold_req.1 h; exact (hold_ret.1 h).1)
theorem hold_popBool {v : Bool} {r : V} (h : Hold O s (popBool v) sc r sc') : r = .d (.bool v) := by
  unfold popBool at h
  rw [hold_pop] at h
  rcases h with ⟨_, h⟩ | ⟨i, t, _, h⟩
  · exact (hold_ret.1 h).1
  · cases i <;> first | exact (hold_ret.1 h).1 | (obtain ⟨rfl, h⟩ := hold_req.1 h; exact (hold_ret.1 h).1)

/-! ### what a datum's value is -/

theorem drel_int {k : IntKind} {n : Int} {v : Value} (h : DRel w Pr (.int k n) v) : v = .int k n := by cases h; rfl
theorem drel_bool {b : Bool} {v : Value} (h : DRel w Pr (.bool b) v) : v = .bool b := by cases h; rfl
theorem drel_str {l : List UInt8} {v : Value} (h : DRel w Pr (.str l) v) : ∃ t : ByteArray, v = .string t ∧ t.data.toList = l := by cases h; exact ⟨_, rfl, rfl⟩
theorem drel_agg {ds : List D} {v : Value} (h : DRel w Pr (.agg ds) v) : ∃ cs : List Value, v = .agg cs.toArray ∧ ds.length = cs.length ∧ (∀ v ∈ cs, v.oneCell' = true) ∧ ∀ (j : Nat) (d : D) (v : Value), ds[j]? = some d → cs[j]? = some v → DRel w Pr d v := by
  cases h with | agg _ cs hl h1 hd => exact ⟨cs, rfl, hl, h1, hd⟩

theorem bytes_toList (x : ByteArray) : x.toList = x.data.toList := by
  have key : ∀ (n i : Nat) (r : List UInt8), n = x.size - i → ByteArray.toList.loop x i r = r.reverse ++ x.data.toList.drop i := by
    intro n
    induction n with
    | zero =>
      intro i r hn
      rw [ByteArray.toList.loop]
      have hs : x.data.toList.length = x.size := by simp
      rw [if_neg (by omega), List.drop_of_length_le (by omega), List.append_nil]
    | succ n ih =>
      intro i r hn
      rw [ByteArray.toList.loop, if_pos (by omega), ih (i + 1) _ (by omega)]
      have hs : x.data.toList.length = x.size := by simp
      have hi : i < x.data.toList.length := by omega
      rw [List.drop_eq_getElem_cons hi, List.reverse_cons, List.append_assoc]
      congr 1
      have hi' : i < x.data.size := by simpa using hi
      simp [ByteArray.get!, getElem!_pos x.data i hi']
  simpa [ByteArray.toList] using key _ 0 [] rfl

theorem str_data (a b : ByteArray) : (a ++ b).data.toList = a.data.toList ++ b.data.toList := by
  rw [ByteArray.data_append, Array.toList_append]

theorem str_ext {a b : ByteArray} (h : a.data.toList = b.data.toList) : a = b := by
  cases a; cases b; simp at h; cases h; rfl

theorem bytes_size (a : ByteArray) : a.size = a.data.toList.length := by simp

/-! ### binary operations -/

theorem guard_int (op : BinOp) (t : TypeId) (x y : Operand) (k k' : IntKind) (a b : Int) : (eqGuard op t x y (.int k a) (.int k' b)).run P w = .ok () w := by
  unfold eqGuard; cases op <;> rfl

theorem bin_int {op : BinOp} {t : TypeId} {k : IntKind} {a b : Int} {r : V} (h1 : op ≠ .shl) (h2 : op ≠ .shr) (h : Hold O s (binInt op k a b) sc r sc') :
    ∃ d : D, r = .d d ∧ ∃ v, (binOp op t (.int k a) (.int k b)).run P w = .ok v w ∧ DRel w Pr d v := by
  cases op <;> simp only [binInt] at h <;> first
    | exact (h1 rfl).elim
    | exact (h2 rfl).elim
    | exact (hold_fail.1 h).elim
    | (have e := hold_popInt h; subst e; refine ⟨_, rfl, _, ?_, .int _ _⟩; simp [binOp, Op.intArith, Op.intBits]; done)
    | (have e := hold_popBool h; subst e; refine ⟨_, rfl, _, ?_, .bool _⟩; simp [binOp, Op.intCmp]; done)
    | (split at h <;> first
        | exact (hold_fail.1 h).elim
        | (rename_i hb
           have e := hold_popInt h; subst e; refine ⟨_, rfl, _, ?_, .int _ _⟩; simp [binOp, Op.intDiv, hb]; done))

theorem bin_shift {op : BinOp} {t : TypeId} {k k' : IntKind} {a b : Int} {r : V} (h1 : op = .shl ∨ op = .shr) (h : Hold O s (shiftInt op k a b) sc r sc') :
    ∃ d : D, r = .d d ∧ ∃ v, (binOp op t (.int k a) (.int k' b)).run P w = .ok v w ∧ DRel w Pr d v := by
  unfold shiftInt at h
  split at h
  · exact (hold_fail.1 h).elim
  · rename_i hb
    rcases h1 with rfl | rfl <;> (simp only at h; have e := hold_popInt h; subst e; refine ⟨_, rfl, _, ?_, .int _ _⟩; simp [binOp, Op.shift, hb])

end Go.Proofs.YtbamhlgkoimjoaaDoor.Ab
/- Structs of whole numbers are compared as one would. -/
namespace Go.Proofs.YtbamhlgkoimjoaaDoor.Ab
open Go
set_option linter.unusedVariables false
set_option linter.unusedSimpArgs false

variable {P : Program} {w : World}

theorem run_und {t : TypeId} {d : TypeDesc} (h : P.underlying t = some d) : (underlying t).run P w = .ok d w := by
  simp [underlying, h]

theorem part_int {t : TypeId} {k : IntKind} {xs : Array Value} {i : Nat} {v : Value} (h : P.underlying t = some (.int k)) (hx : xs[i]? = some v) : (part t xs i).run P w = .ok v w := by
  simp [part, isAgg, run_und h, hx]

theorem eqF_ok {d : Nat} {xs ys : Array Value} : ∀ {fs : List Field} {i : Nat} {is js : List Int}, eqFB P i fs = true → is.length = fs.length → js.length = fs.length → (∀ k, xs[i + k]? = (is[k]?).map (Value.int .i64)) → (∀ k, ys[i + k]? = (js[k]?).map (Value.int .i64)) →
    (Op.eqFields (d + 1) xs ys fs).run P w = .ok (decide (is = js)) w
  | [], i, is, js, _, h1, h2, _, _ => by
    have e1 : is = [] := List.eq_nil_of_length_eq_zero h1
    have e2 : js = [] := List.eq_nil_of_length_eq_zero h2
    subst e1; subst e2
    simp [Op.eqFields]
  | f :: fs, i, is, js, h, h1, h2, hx, hy => by
    cases is with
    | nil => simp at h1
    | cons a is => cases js with
      | nil => simp at h2
      | cons b js =>
        simp only [eqFB, Bool.and_eq_true, bne_iff_ne, ne_eq, beq_iff_eq] at h
        obtain ⟨⟨⟨hn, ho⟩, hu⟩, hr⟩ := h
        have ih := eqF_ok (d := d) (xs := xs) (ys := ys) (fs := fs) (i := i + 1) (is := is) (js := js) hr (by simpa using h1) (by simpa using h2) (fun k => by have := hx (k + 1); rw [List.getElem?_cons_succ] at this; rw [← this]; congr 1; omega) (fun k => by have := hy (k + 1); rw [List.getElem?_cons_succ] at this; rw [← this]; congr 1; omega)
        split at hu
        · rename_i k hk
          have p1 : (part f.type xs f.offset).run P w = .ok (.int .i64 a) w := part_int hk (by rw [ho]; simpa using hx 0)
          have p2 : (part f.type ys f.offset).run P w = .ok (.int .i64 b) w := part_int hk (by rw [ho]; simpa using hy 0)
          have p3 : (Op.equalIn (d + 1) f.type (.int .i64 a) (.int .i64 b)).run P w = .ok (a == b) w := by
            simp [Op.equalIn, run_und hk]
          rw [Op.eqFields, if_pos hn]
          simp only [Sem.run_bind, p1, p2, p3, Result.andThen_ok]
          by_cases hab : a = b
          · subst hab; simp [ih]
          · simp [hab]
        · cases hu

theorem eqOk_of {t n : Nat} (h : eqOkB P t n = true) : EqOk P t n := by
  unfold eqOkB at h
  split at h
  · rename_i fs hu
    simp only [Bool.and_eq_true, Bool.not_eq_true', beq_iff_eq] at h
    obtain ⟨⟨hs, hn⟩, hf⟩ := h
    intro is js w h1 h2
    have hfo : P.fieldsOf t = fs := by simp [Program.fieldsOf, hu]
    refine ⟨?_, ?_⟩
    · show (Op.equalIn (9999 + 1) t _ _).run P w = _
      rw [run_equalIn_struct (P := P) w 9999 t _ _ (by rw [hfo]; exact hu) hs, hfo]
      exact eqF_ok (d := 9998) hf (by simp [h1, hn]) (by simp [h2, hn]) (fun k => by simp) (fun k => by simp)
    · have hd : P.depth = (2 * (P.types.size + Made.depth)) + 1 + 1 := rfl
      rw [hd, Program.eqGuardType, hu]
      have : ∀ (l : List Field) (i : Nat), eqFB P i l = true → ∀ f ∈ l, P.eqGuardType (2 * (P.types.size + Made.depth) + 1) f.type = false := by
        intro l
        induction l with
        | nil => intro i _ f hf; cases hf
        | cons g r ih =>
          intro i h f hf
          simp only [eqFB, Bool.and_eq_true] at h
          rcases List.mem_cons.1 hf with rfl | hf
          · have := h.1.2
            split at this
            · rename_i k hk; rw [Program.eqGuardType, hk]
            · cases this
          · exact ih _ h.2 f hf
      simp only
      rw [Array.any_eq_false']
      intro f hfm
      simp [this fs.toList 0 hf f (by simpa using hfm)]
  · cases h

end Go.Proofs.YtbamhlgkoimjoaaDoor.Ab
/- Binary operations, all of them. -/
namespace Go.Proofs.YtbamhlgkoimjoaaDoor.Ab
open Go
set_option linter.unusedVariables false
set_option linter.unusedSimpArgs false

variable {P : Program} {O : Orc} {s : St} {sc sc' : Script} {w : World} {Pr : Nat → Prop} {vw : Nat → Option VW}

theorem run_und' {t : TypeId} {d : TypeDesc} (h : P.underlying t = some d) : (underlying t).run P w = .ok d w := by
  simp [underlying, h]

theorem eq_bool {t : TypeId} (h : P.underlying t = some .bool) (a b : Bool) : (Op.equal t (.bool a) (.bool b)).run P w = .ok (a == b) w := by
  unfold Op.equal
  rw [show Op.maxDepth = 9999 + 1 from rfl, Op.equalIn]
  simp [run_und h]
theorem eq_slice {t e : TypeId} (h : P.underlying t = some (.slice e)) (a : Option Addr) (n c m k : Nat) : (Op.equal t (.slice a n c) (.slice none m k)).run P w = .ok a.isNone w := by
  unfold Op.equal
  rw [show Op.maxDepth = 9999 + 1 from rfl, Op.equalIn]
  cases a <;> simp [run_und h]
theorem eq_ptr {t e : TypeId} (h : P.underlying t = some (.pointer e)) (p : Option Addr) : (Op.equal t (.pointer p) (.pointer none)).run P w = .ok p.isNone w := by
  unfold Op.equal
  rw [show Op.maxDepth = 9999 + 1 from rfl, Op.equalIn]
  cases p <;> simp [run_und h]
theorem eq_nil {t : TypeId} {m : Array (String × TypeId)} (h : P.underlying t = some (.interface m)) : (Op.equal t .nilIface .nilIface).run P w = .ok true w := by
  unfold Op.equal
  rw [show Op.maxDepth = 9999 + 1 from rfl, Op.equalIn]
  simp [run_und h]
theorem eq_some {t u : TypeId} {v : Value} {m : Array (String × TypeId)} (h : P.underlying t = some (.interface m)) : (Op.equal t (.iface u v) .nilIface).run P w = .ok false w := by
  unfold Op.equal
  rw [show Op.maxDepth = 9999 + 1 from rfl, Op.equalIn]
  simp [run_und h]

theorem ints_ok : ∀ {ds : List D} {is : List Int}, ints ds = some is → ds = is.map (D.int .i64)
  | [], is, h => by simp [ints] at h; subst h; rfl
  | d :: r, is, h => by
    cases d with
    | int k n =>
      cases k <;> simp only [ints] at h <;> try (cases h; done)
      cases hr : ints r with
      | none => rw [hr] at h; cases h
      | some js =>
        rw [hr] at h
        simp at h
        subst h
        rw [ints_ok hr]; rfl
    | _ => simp [ints] at h

theorem agg_ints {is : List Int} {v : Value} (h : DRel w Pr (.agg (is.map (D.int .i64))) v) : v = .agg (is.map (Value.int .i64)).toArray := by
  obtain ⟨cs, rfl, hl, h1, hd⟩ := drel_agg h
  congr 2
  apply List.ext_getElem? 
  intro i
  rw [List.getElem?_map]
  cases hi : is[i]? with
  | none =>
    rw [List.getElem?_eq_none_iff] at hi
    simp at hl
    simp; omega
  | some n =>
    have hlt : i < is.length := (List.getElem?_eq_some_iff.1 hi).1
    simp at hl
    have hc : i < cs.length := by omega
    rw [List.getElem?_eq_getElem hc]
    have := hd i (.int .i64 n) cs[i] (by simp [hi]) (List.getElem?_eq_getElem hc)
    rw [drel_int this]; rfl

theorem bin_str {op : BinOp} {t : TypeId} {a b : ByteArray} {r : V} (h : Hold O s (binStr op a.data.toList b.data.toList) sc r sc') :
    ∃ d : D, r = .d d ∧ ∃ v, (binOp op t (.string a) (.string b)).run P w = .ok v w ∧ DRel w Pr d v := by
  cases op <;> simp only [binStr] at h <;> try exact (hold_fail.1 h).elim
  · have key : a.data.toList.length + b.data.toList.length < 2 ^ 62 ∧ r = .d (.str (a.data.toList ++ b.data.toList)) := by
      rw [hold_pop] at h
      rcases h with ⟨_, h⟩ | ⟨i, u, _, h⟩
      · simp only at h
        split at h
        · rename_i hb; exact ⟨hb, (hold_ret.1 h).1⟩
        · exact (hold_fail.1 h).elim
      · obtain ⟨hb, h⟩ := hold_req.1 h
        exact ⟨hb, (hold_ret.1 h).1⟩
    obtain ⟨hb, rfl⟩ := key
    refine ⟨_, rfl, .string (a ++ b), ?_, by rw [← str_data]; exact .str _⟩
    have hs : ¬ (((a.size + b.size : Nat) : Int) > IntKind.i64.max) := by
      have h1 := bytes_size a
      have h2 := bytes_size b
      simp only [IntKind.max, IntKind.signed, IntKind.bits]
      simp
      omega
    simp only [binOp, Op.stringOp]
    rw [if_neg hs]; rfl
  · have e := hold_popBool h; subst e
    refine ⟨_, rfl, .bool (a.data.toList == b.data.toList), ?_, .bool _⟩
    simp [binOp, Op.stringOp, bytes_toList]
  · have e := hold_popBool h; subst e
    refine ⟨_, rfl, .bool (!(a.data.toList == b.data.toList)), ?_, .bool _⟩
    simp [binOp, Op.stringOp, bytes_toList]

/-- THE OPERATION. -/
theorem binV_ok {op : BinOp} {t : TypeId} {xo yo : Operand} {x y r : V} {a b : Value} (hx : VRel P w Pr vw x a) (hy : VRel P w Pr vw y b) (h : Hold O s (binV P (isConst yo) op t x y) sc r sc') :
    ∃ d : D, r = .d d ∧ ∃ v, (do eqGuard op t xo yo a b; binOp op t a b).run P w = .ok v w ∧ DRel w Pr d v := by
  unfold binV at h
  split at h
  · -- whole numbers
    rename_i k m k' n
    obtain rfl := drel_int (show DRel w Pr (.int k m) a from hx)
    obtain rfl := drel_int (show DRel w Pr (.int k' n) b from hy)
    simp only [Sem.run_bind, guard_int, Result.andThen_ok]
    split at h
    · exact bin_shift (.inl rfl) h
    · exact bin_shift (.inr rfl) h
    · rename_i h1 h2
      split at h
      · rename_i hk; subst hk; exact bin_int (fun e => h1 e) (fun e => h2 e) h
      · exact (hold_fail.1 h).elim
  · -- strings
    obtain ⟨sa, rfl, rfl⟩ := drel_str (show DRel w Pr (.str _) a from hx)
    obtain ⟨sb, rfl, rfl⟩ := drel_str (show DRel w Pr (.str _) b from hy)
    have hg : (eqGuard op t xo yo (.string sa) (.string sb)).run P w = .ok () w := by unfold eqGuard; cases op <;> rfl
    simp only [Sem.run_bind, hg, Result.andThen_ok]
    exact bin_str h
  · -- bools
    rename_i m n
    obtain rfl := drel_bool (show DRel w Pr (.bool m) a from hx)
    obtain rfl := drel_bool (show DRel w Pr (.bool n) b from hy)
    have hg : (eqGuard op t xo yo (.bool m) (.bool n)).run P w = .ok () w := by unfold eqGuard; cases op <;> rfl
    simp only [Sem.run_bind, hg, Result.andThen_ok]
    split at h
    · rename_i hu
      have e := hold_popBool h; subst e
      exact ⟨_, rfl, .bool (m == n), by simp [binOp, eq_bool hu], .bool _⟩
    · rename_i hu
      have e := hold_popBool h; subst e
      exact ⟨_, rfl, .bool (!(m == n)), by simp [binOp, eq_bool hu], .bool _⟩
    · exact (hold_fail.1 h).elim
  · -- structs
    rename_i xs ys
    split at h
    · rename_i is js h1 h2
      split at h
      · rename_i hl
        obtain ⟨hl, hE⟩ := hl
        replace hE := eqOk_of hE
        obtain rfl := ints_ok h1
        obtain rfl := ints_ok h2
        obtain rfl := agg_ints (show DRel w Pr (.agg _) a from hx)
        obtain rfl := agg_ints (show DRel w Pr (.agg _) b from hy)
        obtain ⟨he, hg0⟩ := hE is js w rfl hl.symm
        have hg : (eqGuard op t xo yo (.agg (is.map (Value.int .i64)).toArray) (.agg (js.map (Value.int .i64)).toArray)).run P w = .ok () w := by
          unfold eqGuard
          cases op <;> simp [hg0]
        simp only [Sem.run_bind, hg, Result.andThen_ok]
        split at h
        · have e := hold_popBool h; subst e
          exact ⟨_, rfl, .bool (decide (is = js)), by simp only [binOp, Sem.run_bind, he, Result.andThen_ok, Sem.run_pure], .bool _⟩
        · have e := hold_popBool h; subst e
          exact ⟨_, rfl, .bool (!decide (is = js)), by simp only [binOp, Sem.run_bind, he, Result.andThen_ok, Sem.run_pure], .bool _⟩
        · exact (hold_fail.1 h).elim
      · exact (hold_fail.1 h).elim
    · exact (hold_fail.1 h).elim
  · -- a pointer against nil
    obtain ⟨q, k1, rfl⟩ := (show ∃ q, vw _ = some (.box q) ∧ a = .pointer (some ⟨q, _, none⟩) from hx)
    obtain rfl : b = .pointer none := hy
    have hg : ∀ p, (eqGuard op t xo yo (.pointer p) (.pointer none)).run P w = .ok () w := by intro p; unfold eqGuard; cases op <;> rfl
    simp only [Sem.run_bind, hg, Result.andThen_ok]
    split at h
    · rename_i e hu
      obtain ⟨rfl, _⟩ := hold_ret.1 h
      exact ⟨_, rfl, .bool false, by simp [binOp, eq_ptr hu], .bool _⟩
    · rename_i e hu
      obtain ⟨rfl, _⟩ := hold_ret.1 h
      exact ⟨_, rfl, .bool true, by simp [binOp, eq_ptr hu], .bool _⟩
    · exact (hold_fail.1 h).elim
  · obtain rfl : a = .pointer none := hx
    obtain rfl : b = .pointer none := hy
    have hg : ∀ p, (eqGuard op t xo yo (.pointer p) (.pointer none)).run P w = .ok () w := by intro p; unfold eqGuard; cases op <;> rfl
    simp only [Sem.run_bind, hg, Result.andThen_ok]
    split at h
    · rename_i e hu
      obtain ⟨rfl, _⟩ := hold_ret.1 h
      exact ⟨_, rfl, .bool true, by simp [binOp, eq_ptr hu], .bool _⟩
    · rename_i e hu
      obtain ⟨rfl, _⟩ := hold_ret.1 h
      exact ⟨_, rfl, .bool false, by simp [binOp, eq_ptr hu], .bool _⟩
    · exact (hold_fail.1 h).elim
  · -- against a nil slice
    obtain rfl : b = .slice none 0 0 := hy
    have key : ∀ q : Bool, nilB x = some q → ∃ p n c, a = .slice p n c ∧ p.isNone = q := by
      intro q hq
      unfold nilB at hq
      split at hq
      · cases hq; exact ⟨none, 0, 0, hx, rfl⟩
      · cases hq; obtain ⟨p, c, rfl⟩ := (show ∃ p c, a = .slice (some p) 0 c from hx); exact ⟨_, _, _, rfl, rfl⟩
      · cases hq; obtain ⟨c, rfl⟩ := (show ∃ c, a = .slice none 0 c from hx); exact ⟨_, _, _, rfl, rfl⟩
      · cases hq
        have hx' : DRel w Pr (.sl (_ :: _)) a := hx
        cases hx' with
        | sl => exact ⟨_, _, _, rfl, rfl⟩
      · cases hq
    have hg : ∀ p n c, (eqGuard op t xo yo (.slice p n c) (.slice none 0 0)).run P w = .ok () w := by intro p n c; unfold eqGuard; cases op <;> rfl
    split at h
    · rename_i q e hq hu
      obtain ⟨p, n, c, rfl, hp⟩ := key _ hq
      obtain ⟨rfl, _⟩ := hold_ret.1 h
      simp only [Sem.run_bind, hg, Result.andThen_ok]
      exact ⟨_, rfl, .bool q, by simp [binOp, eq_slice hu, hp], .bool _⟩
    · rename_i q e hq hu
      obtain ⟨p, n, c, rfl, hp⟩ := key _ hq
      obtain ⟨rfl, _⟩ := hold_ret.1 h
      simp only [Sem.run_bind, hg, Result.andThen_ok]
      exact ⟨_, rfl, .bool (!q), by simp [binOp, eq_slice hu, hp], .bool _⟩
    · exact (hold_fail.1 h).elim
  · -- against a nil interface
    rename_i x
    have hb : b = .nilIface := by have hy' : DRel w Pr .inil b := hy; cases hy'; rfl
    subst hb
    have hx' : DRel w Pr x a := hx
    have key : ∀ q : Bool, inilB x = some q → (a = .nilIface ∧ q = true) ∨ ∃ u v, a = .iface u v ∧ q = false := by
      intro q hq
      unfold inilB at hq
      split at hq
      · cases hq; cases hx'; exact .inl ⟨rfl, rfl⟩
      · cases hq; cases hx'; exact .inr ⟨_, _, rfl, rfl⟩
      · cases hq
    have hc : ∀ {z : Operand}, isConst z = true → ∃ v, z = .const v := by intro z hz; cases z <;> simp [isConst] at hz; exact ⟨_, rfl⟩
    split at h
    · rename_i q m hq hu
      split at h
      · rename_i hcy
        obtain ⟨cv, rfl⟩ := hc hcy
        obtain ⟨rfl, _⟩ := hold_ret.1 h
        refine ⟨_, rfl, .bool q, ?_, .bool _⟩
        rcases key _ hq with ⟨rfl, rfl⟩ | ⟨u, v, rfl, rfl⟩
        · have hg : (eqGuard .eql t xo (.const cv) .nilIface .nilIface).run P w = .ok () w := by unfold eqGuard; cases xo <;> simp
          simp only [Sem.run_bind, hg, Result.andThen_ok]; simp [binOp, eq_nil hu]
        · have hg : (eqGuard .eql t xo (.const cv) (.iface u v) .nilIface).run P w = .ok () w := by unfold eqGuard; simp
          simp only [Sem.run_bind, hg, Result.andThen_ok]; simp [binOp, eq_some hu]
      · exact (hold_fail.1 h).elim
    · rename_i q m hq hu
      split at h
      · rename_i hcy
        obtain ⟨cv, rfl⟩ := hc hcy
        obtain ⟨rfl, _⟩ := hold_ret.1 h
        refine ⟨_, rfl, .bool (!q), ?_, .bool _⟩
        rcases key _ hq with ⟨rfl, rfl⟩ | ⟨u, v, rfl, rfl⟩
        · have hg : (eqGuard .neq t xo (.const cv) .nilIface .nilIface).run P w = .ok () w := by unfold eqGuard; cases xo <;> simp
          simp only [Sem.run_bind, hg, Result.andThen_ok]; simp [binOp, eq_nil hu]
        · have hg : (eqGuard .neq t xo (.const cv) (.iface u v) .nilIface).run P w = .ok () w := by unfold eqGuard; simp
          simp only [Sem.run_bind, hg, Result.andThen_ok]; simp [binOp, eq_some hu]
      · exact (hold_fail.1 h).elim
    · exact (hold_fail.1 h).elim
  · exact (hold_fail.1 h).elim

theorem unV_ok {op : UnOp} {x r : V} {a : Value} (hx : VRel P w Pr vw x a) (h : Hold O s (unV op x) sc r sc') :
    ∃ d : D, r = .d d ∧ ∃ v, (Op.unary op a).run P w = .ok v w ∧ DRel w Pr d v := by
  unfold unV at h
  split at h
  · rename_i m; obtain rfl := drel_bool (show DRel w Pr (.bool m) a from hx)
    have e := hold_popBool h; subst e
    exact ⟨_, rfl, .bool (!m), by simp [Op.unary], .bool _⟩
  · rename_i k n; obtain rfl := drel_int (show DRel w Pr (.int k n) a from hx)
    have e := hold_popInt h; subst e
    exact ⟨_, rfl, _, by simp [Op.unary, Op.intArith], .int _ _⟩
  · rename_i k n; obtain rfl := drel_int (show DRel w Pr (.int k n) a from hx)
    have e := hold_popInt h; subst e
    exact ⟨_, rfl, _, by simp [Op.unary, Op.intBits], .int _ _⟩
  · exact (hold_fail.1 h).elim

end Go.Proofs.YtbamhlgkoimjoaaDoor.Ab
/- Operations that read: lengths, elements, fields, loads. -/
namespace Go.Proofs.YtbamhlgkoimjoaaDoor.Ab
open Go
set_option linter.unusedVariables false
set_option linter.unusedSimpArgs false

section
variable {P : Program} {O : Orc} {s : St} {sc sc' : Script} {w : World} {Pr : Nat → Prop} {vw : Nat → Option VW} {bl : List B} {μ : List CB}

theorem run_szOf {t : TypeId} {n : Nat} (h : szOf P t = some n) : (sizeOf t).run P w = .ok n w := by
  simp only [szOf, Option.map_eq_some_iff] at h
  obtain ⟨i, hi, rfl⟩ := h
  simp [sizeOf, typeInfo, hi]
theorem info_szOf {t : TypeId} {n : Nat} (h : szOf P t = some n) : (P.info? t).map (·.size) = some n := h

theorem kind_true {t : TypeId} (h : kindT P t = some true) : ∃ d, P.underlying t = some d ∧ d.isRow = true := by
  simp only [kindT, Option.map_eq_some_iff] at h
  obtain ⟨d, hd, h⟩ := h
  exact ⟨d, hd, by cases d <;> simp_all [aggD, TypeDesc.isRow]⟩
theorem run_isAgg_false {t : TypeId} (h : kindT P t = some false) : (isAgg t).run P w = .ok false w := by
  simp only [kindT, Option.map_eq_some_iff] at h
  obtain ⟨d, hd, h⟩ := h
  unfold isAgg
  rw [Sem.run_bind, run_und hd]
  cases d <;> simp_all [aggD]

theorem blk_some {id : Nat} {b : B} (h : s.blk id = b) (hb : b ≠ .dead) : s.blks[id]? = some b := by
  unfold St.blk at h
  cases hx : s.blks[id]? with
  | none => rw [hx] at h; exact (hb h.symm).elim
  | some c => rw [hx] at h; simp at h; rw [h]

theorem SRel.at (h : SRel P bl w μ Pr) {id : Nat} {b : B} (hb : bl[id]? = some b) : ∃ c, μ[id]? = some c ∧ BRel P w Pr (view bl μ) b c ∧ view bl μ id = vwOf b c := by
  have hlt : id < μ.length := by rw [h.mu]; exact (List.getElem?_eq_some_iff.1 hb).1
  exact ⟨μ[id], List.getElem?_eq_getElem hlt, h.blks id b _ hb (List.getElem?_eq_getElem hlt), by simp [view, hb, List.getElem?_eq_getElem hlt]⟩

theorem SRel.lst (h : SRel P bl w μ Pr) {id e : Nat} {xs : List D} (hb : bl[id]? = some (.lst e xs)) :
    ∃ hh wd cs, μ[id]? = some (.lst hh) ∧ view bl μ id = some (.lst e xs.length hh) ∧ szOf P e = some wd ∧ OwnR w e wd hh xs.length cs ∧ Rows' w Pr wd xs cs := by
  obtain ⟨c, h1, h2, h3⟩ := h.at hb
  cases c with
  | lst hh => obtain ⟨wd, cs, g1, g2, g3⟩ := h2; exact ⟨hh, wd, cs, h1, h3, g1, g2, g3⟩
  | _ => exact h2.elim
theorem SRel.box (h : SRel P bl w μ Pr) {id : Nat} {ty : Option Nat} {cells : List V} (hb : bl[id]? = some (.bx ty cells)) :
    ∃ b c e, μ[id]? = some (.box b) ∧ view bl μ id = some (.box b) ∧ w.heap[b]? = some (.cells c e (0, 0)) ∧ All2 (fun v u => VRel1 P w Pr (view bl μ) v u ∧ u.oneCell' = true) cells c.toList := by
  obtain ⟨c, h1, h2, h3⟩ := h.at hb
  cases c with
  | box b => obtain ⟨cs, e, g1, _, g2⟩ := h2; exact ⟨b, cs, e, h1, h3, g1, g2⟩
  | _ => exact h2.elim
theorem SRel.boxT (h : SRel P bl w μ Pr) {id : Nat} {ty : Option Nat} {cells : List V} (hb : bl[id]? = some (.bx ty cells)) :
    ∃ b c e, μ[id]? = some (.box b) ∧ view bl μ id = some (.box b) ∧ w.heap[b]? = some (.cells c e (0, 0)) ∧ All2 (fun v u => VRel1 P w Pr (view bl μ) v u ∧ u.oneCell' = true) cells c.toList ∧ ∀ t, ty = some t → e = t := by
  obtain ⟨c, h1, h2, h3⟩ := h.at hb
  cases c with
  | box b => obtain ⟨cs, e, g1, g0, g2⟩ := h2; exact ⟨b, cs, e, h1, h3, g1, g2, g0⟩
  | _ => exact h2.elim

/-- Elements in a block from an offset on. -/
def Reads (w : World) (Pr : Nat → Prop) (wd : Nat) (xs : List D) (b o : Nat) : Prop :=
  (∀ (i : Nat) (x : D), xs[i]? = some x → x.cells.length = wd) ∧
  ∀ (i : Nat) (x : D) (j : Nat) (y : D), xs[i]? = some x → x.cells[j]? = some y → ∃ u, w.cell? ⟨b, o + i * wd + j, none⟩ = some u ∧ u.oneCell' = true ∧ DRel w Pr y u

/-- A slice's value and its elements. -/
def SlRel (w : World) (Pr : Nat → Prop) (L : Nat → Prop) (xs : List D) (a : Value) : Prop :=
  ∃ base cap, a = .slice base xs.length cap ∧ xs.length ≤ cap + 0 ∧ (xs = [] ∨ ∃ b o wd, base = some ⟨b, o, none⟩ ∧ L b ∧ Reads w Pr wd xs b o)

theorem slRel_of_drel {xs : List D} {a : Value} (h : DRel w Pr (.sl xs) a) : ∃ base cap, a = .slice base xs.length cap ∧ (xs = [] ∨ (xs.length ≤ cap ∧ ∃ b o wd, base = some ⟨b, o, none⟩ ∧ Pr b ∧ Reads w Pr wd xs b o)) := by
  cases h with
  | sl0 a cap => exact ⟨a, cap, rfl, .inl rfl⟩
  | sl _ b o cap wd f hb hc hw hm h1 hd => exact ⟨_, cap, rfl, .inr ⟨hc, b, o, wd, rfl, hb, hw, fun i x j y hx hy => ⟨f i j, hm i x j y hx hy, h1 i x j y hx hy, hd i x j y hx hy⟩⟩⟩

theorem drel_of_reads {xs : List D} {b o cap wd : Nat} {Pr' : Nat → Prop} (hb : Pr b) (hc : xs.length ≤ cap) (h : Reads w Pr wd xs b o) : DRel w Pr (.sl xs) (.slice (some ⟨b, o, none⟩) xs.length cap) := by
  have hex : ∀ i j, ∃ u, ∀ (x y : D), xs[i]? = some x → x.cells[j]? = some y → w.cell? ⟨b, o + i * wd + j, none⟩ = some u ∧ u.oneCell' = true ∧ DRel w Pr y u := by
    intro i j
    cases hx : xs[i]? with
    | none => exact ⟨undef, by simp⟩
    | some x =>
      cases hy : x.cells[j]? with
      | none => exact ⟨undef, fun x' y hx' hy' => by cases hx'; rw [hy] at hy'; cases hy'⟩
      | some y =>
        obtain ⟨u, hu⟩ := h.2 i x j y hx hy
        exact ⟨u, fun x' y' hx' hy' => by cases hx'; rw [hy] at hy'; cases hy'; exact hu⟩
  exact .sl xs b o cap wd (fun i j => Classical.choose (hex i j)) hb hc h.1
    (fun i x j y hx hy => (Classical.choose_spec (hex i j) x y hx hy).1) (fun i x j y hx hy => (Classical.choose_spec (hex i j) x y hx hy).2.1) (fun i x j y hx hy => (Classical.choose_spec (hex i j) x y hx hy).2.2)

theorem reads_of_row {e wd : Nat} {b cap : Nat} {xs : List D} {cs : List Value} (ho : OwnR w e wd (.row b cap) xs.length cs) (hr : Rows' w Pr wd xs cs) : xs.length ≤ cap ∧ Reads w Pr wd xs b 0 := by
  have hc := World.ownsRow.cells ho (g := b) rfl
  refine ⟨?_, fun i x hx => (hr.2 i x hx).1, fun i x j y hx hy => ?_⟩
  · rcases ho.2 with ⟨hn, _⟩ | ⟨g, c, cur, hv, _, _, h1, _⟩
    · simp at hn
    · simp at hv; omega
  · obtain ⟨u, h1, h2⟩ := (hr.2 i x hx).2 j y hy
    have := hc _ u h1
    rw [Addr.add_mid] at this
    refine ⟨u, ?_, hr.1 u (List.mem_of_getElem? h1), h2⟩
    rw [← this]
    congr 2
    omega

theorem row_nil {e wd : Nat} {a : Option Addr} {xs : List D} {cs : List Value} (ho : OwnR w e wd (.zero a) xs.length cs) : xs = [] := List.eq_nil_of_length_eq_zero ho.1

/-- The value of a list. -/
theorem hdr_slice {e wd : Nat} {xs : List D} {cs : List Value} {hh : H} (ho : OwnR w e wd hh xs.length cs) : ∃ base cap, hdr hh xs.length = .slice base xs.length cap := by
  cases hh with
  | zero a => have := row_nil ho; subst this; exact ⟨a, 0, rfl⟩
  | row b cap => exact ⟨_, _, rfl⟩

/-! ### elements -/

/-- What 'items' reads: the value is a slice or a string of these elements. -/
theorem items_ok (hS : SRel P s.blks w μ Pr) {v : V} {a : Value} {xs : List D} (hv : VRel0 P w Pr (view s.blks μ) v a) (h : Hold O s (items v) sc xs sc') :
    (∃ t : ByteArray, a = .string t ∧ xs = t.data.toList.map u8) ∨ ∃ base cap, a = .slice base xs.length cap ∧ (xs = [] ∨ ∃ b o wd, base = some ⟨b, o, none⟩ ∧ Reads w Pr wd xs b o) := by
  have hrow : ∀ {e wd : Nat} {ys : List D} {cs : List Value} {hh : H}, OwnR w e wd hh ys.length cs → Rows' w Pr wd ys cs → ∃ base cap, hdr hh ys.length = .slice base ys.length cap ∧ (ys = [] ∨ ∃ b o wd, base = some ⟨b, o, none⟩ ∧ Reads w Pr wd ys b o) := by
    intro e wd ys cs hh ho hr
    cases hh with
    | zero a => have := row_nil ho; subst this; exact ⟨a, 0, rfl, .inl rfl⟩
    | row b cap => exact ⟨_, _, rfl, .inr ⟨b, 0, wd, rfl, (reads_of_row ho hr).2⟩⟩
  unfold items at h
  split at h
  · obtain ⟨rfl, _⟩ := hold_ret.1 h
    obtain ⟨base, cap, h1, h2⟩ := slRel_of_drel (show DRel w Pr (.sl _) a from hv)
    exact .inr ⟨base, cap, h1, h2.imp_right fun ⟨_, b, o, wd, g1, _, g3⟩ => ⟨b, o, wd, g1, g3⟩⟩
  · obtain ⟨rfl, _⟩ := hold_ret.1 h
    obtain ⟨t, rfl, rfl⟩ := drel_str (show DRel w Pr (.str _) a from hv)
    exact .inl ⟨t, rfl, rfl⟩
  · rename_i b
    obtain ⟨rfl, _⟩ := hold_ret.1 h
    cases b
    · obtain ⟨p, rfl⟩ := hv; exact .inr ⟨p, 0, rfl, .inl rfl⟩
    · obtain rfl := hv; exact .inr ⟨none, 0, rfl, .inl rfl⟩
  · obtain ⟨rfl, _⟩ := hold_ret.1 h
    obtain ⟨p, cap, rfl⟩ := hv; exact .inr ⟨_, cap, rfl, .inl rfl⟩
  · rename_i id
    rw [hold_blk] at h
    split at h
    · rename_i e ys hb
      obtain ⟨rfl, _⟩ := hold_ret.1 h
      obtain ⟨hh, wd, cs, g1, g2, g3, g4, g5⟩ := hS.lst (blk_some hb (by simp))
      rcases hv with ⟨e', n, h', k1, k2⟩ | ⟨s', lens, b, cap, inner, k1, k2⟩
      · rw [g2] at k1; cases k1
        obtain ⟨base, cap, q1, q2⟩ := hrow g4 g5
        exact .inr ⟨base, cap, by rw [k2, q1], q2⟩
      · rw [g2] at k1; cases k1
    · exact (hold_fail.1 h).elim
  · rename_i id lo n
    rw [hold_blk] at h
    split at h
    · rename_i e ys hb
      obtain ⟨rfl, _⟩ := hold_ret.1 h
      obtain ⟨hh, wd, cs, g1, g2, g3, g4, g5⟩ := hS.lst (blk_some hb (by simp))
      obtain ⟨e', len, h', wd', a', cap, k1, k2, rfl, k4, k5, k6, k7⟩ := hv
      rw [g2] at k1; cases k1
      rw [g3] at k2; cases k2
      have hl : ((ys.drop lo).take n).length = n := by simp; omega
      refine .inr ⟨a', cap, by rw [hl], ?_⟩
      by_cases hn : n = 0
      · subst hn; exact .inl (by simp)
      · cases hh with
        | zero a => have := row_nil g4; subst this; simp at k5; omega
        | row b c =>
          obtain rfl := k6 b c rfl (by omega)
          obtain ⟨q1, q2, q3⟩ := reads_of_row g4 g5
          refine .inr ⟨b, lo * wd, wd, rfl, fun i x hx => ?_, fun i x j y hx hy => ?_⟩
          · rw [List.getElem?_take] at hx; split at hx
            · rw [List.getElem?_drop] at hx; exact q2 _ x hx
            · cases hx
          · rw [List.getElem?_take] at hx; split at hx
            · rw [List.getElem?_drop] at hx
              obtain ⟨u, r1, r2⟩ := q3 _ x j y hx hy
              refine ⟨u, ?_, r2⟩
              rw [← r1]; congr 2; rw [Nat.add_mul]; omega
            · cases hx
    · exact (hold_fail.1 h).elim
  · rename_i id i
    rw [hold_blk] at h
    split at h
    · rename_i e xss hb
      have hk : xss[i]? = some (some xs) := by
        rw [hold_pop] at h
        rcases h with ⟨_, h⟩ | ⟨it, u, _, h⟩
        · simp only at h
          split at h
          · rename_i ys hys; obtain ⟨rfl, _⟩ := hold_ret.1 h; exact hys
          · exact (hold_fail.1 h).elim
        · split at h
          · rename_i ys he; obtain ⟨hq, h⟩ := hold_req.1 h; obtain ⟨rfl, _⟩ := hold_ret.1 h; exact hq
          · exact (hold_fail.1 h).elim
          · rename_i he; cases he
      obtain ⟨c, g1, g2, g3⟩ := hS.at (blk_some hb (by simp))
      obtain ⟨s', lens, b, cap, inner, n, h', k1, k2, k3, rfl⟩ := hv
      rw [g3] at k1
      cases c <;> simp [vwOf] at k1
      obtain ⟨rfl, rfl, rfl, rfl, rfl⟩ := k1
      obtain ⟨cur, e, wd, r1, r2, r3, r4, r5, r6, r7, r8, r9, r10⟩ := g2
      have hn : n = xs.length := by
        rw [List.getElem?_map, hk] at k2; simp at k2; exact k2.symm
      subst hn
      obtain ⟨_, cs, q1, q2⟩ := r10 i xs h' hk k3
      obtain ⟨base, cap, z1, z2⟩ := hrow q1 q2
      exact .inr ⟨base, cap, z1, z2⟩
    · exact (hold_fail.1 h).elim
  · exact (hold_fail.1 h).elim


theorem items_simple {v : V} {a : Value} {xs : List D} (hv : VRel P w Pr vw v a) (h : Hold O s (items v) sc xs sc') : VRel0 P w Pr vw v a := by
  cases v with
  | func f c => simp only [items, hold_fail] at h
  | iface t v => simp only [items, hold_fail] at h
  | agg cs => simp only [items, hold_fail] at h
  | tup cs => simp only [items, hold_fail] at h
  | _ => exact hv
theorem items_noStr {v : V} {t : ByteArray} {xs : List D} (hv : VRel0 P w Pr (view s.blks μ) v (.string t)) (h : Hold O s (items v) sc xs sc') : ∃ l, v = .d (.str l) := by
  cases v with
  | d x => have hv' : DRel w Pr x (.string t) := hv; cases hv'; exact ⟨_, rfl⟩
  | emp b => cases b <;> simp [VRel0] at hv
  | nnil => simp [VRel0] at hv
  | arr id => simp only [VRel0, hdr] at hv; rcases hv with ⟨_, _, h', _, hh⟩ | ⟨_, _, _, _, _, _, hh⟩ <;> (try cases h') <;> simp at hh
  | inn id i => simp only [VRel0, hdr] at hv; obtain ⟨_, _, _, _, _, _, h', _, _, _, hh⟩ := hv; cases h' <;> simp at hh
  | win id lo n => simp only [VRel0] at hv; obtain ⟨_, _, _, _, _, _, _, _, hh, _⟩ := hv; simp at hh
  | _ => simp only [items, hold_fail] at h

theorem lenV_ok (hS : SRel P s.blks w μ Pr) {t : TypeId} {ts : Array TypeId} {ty : TypeId} {as : Array Value} {v r : V} {a : Value} (ht : ts[0]? = some t) (ha : as[0]? = some a) (hv : VRel P w Pr (view s.blks μ) v a) (h : Hold O s (lenV P t v) sc r sc') :
    ∃ n : Int, r = .d (.int .i64 n) ∧ (Builtin.len_ ts ty as).run P w = .ok (.int .i64 n) w := by
  unfold lenV at h
  split at h
  · rename_i l hu
    obtain ⟨rfl, _⟩ := hold_ret.1 h
    obtain ⟨q, rfl, rfl⟩ := drel_str (show DRel w Pr (.str _) a from hv)
    refine ⟨_, rfl, ?_⟩
    have := bytes_size q
    simp [Builtin.len_, ht, ha, run_und hu, goInt]
  · rename_i n e hu
    obtain ⟨rfl, _⟩ := hold_ret.1 h
    exact ⟨_, rfl, by simp [Builtin.len_, ht, ha, run_und hu, goInt]⟩
  · exact (hold_fail.1 h).elim
  · rename_i e hu hne
    obtain ⟨xs, sc1, h1, h2⟩ := hold_bind.1 h
    obtain ⟨rfl, _⟩ := hold_ret.1 h2
    have hv0 := items_simple hv h1
    rcases items_ok hS hv0 h1 with ⟨q, rfl, hq⟩ | ⟨base, cap, rfl, _⟩
    · obtain ⟨l, rfl⟩ := items_noStr hv0 h1
      exact (hne l rfl).elim
    · exact ⟨_, rfl, by simp [Builtin.len_, ht, ha, run_und hu, goInt]⟩
  · exact (hold_fail.1 h).elim

/-! ### indices -/

theorem ixQ_ok {v : V} {a : Value} {len : Nat} {k : Nat → Q V} {r : V} (hv : VRel P w Pr vw v a) (h : Hold O s (ixQ v len k) sc r sc') : ∃ (kd : IntKind) (i : Nat) (sc1 : Script), a = .int kd (i : Int) ∧ i < len ∧ Hold O s (k i) sc1 r sc' := by
  unfold ixQ at h
  split at h
  · rename_i kd n
    obtain rfl := drel_int (show DRel w Pr (.int kd n) a from hv)
    rw [hold_pop] at h
    rcases h with ⟨_, h⟩ | ⟨it, u, _, h⟩
    · simp only at h
      split at h
      · rename_i hb; exact ⟨kd, n.toNat, _, by rw [Int.toNat_of_nonneg hb.1], by omega, h⟩
      · exact (hold_fail.1 h).elim
    · split at h
      · obtain ⟨⟨rfl, h1⟩, h2⟩ := hold_req.1 h; exact ⟨kd, _, _, rfl, h1, h2⟩
      · exact (hold_fail.1 h).elim
      · rename_i he; cases he
  · exact (hold_fail.1 h).elim
theorem elQ_ok {v : V} {a : Value} {xs : List D} {k : Nat → D → Q V} {r : V} (hv : VRel P w Pr vw v a) (h : Hold O s (elQ v xs k) sc r sc') : ∃ (kd : IntKind) (i : Nat) (d : D) (sc1 : Script), a = .int kd (i : Int) ∧ xs[i]? = some d ∧ Hold O s (k i d) sc1 r sc' := by
  unfold elQ at h
  split at h
  · rename_i kd n
    obtain rfl := drel_int (show DRel w Pr (.int kd n) a from hv)
    rw [hold_pop] at h
    rcases h with ⟨_, h⟩ | ⟨it, u, _, h⟩
    · simp only at h
      split at h
      · rename_i hb
        split at h
        · rename_i d hd; exact ⟨kd, n.toNat, d, _, by rw [Int.toNat_of_nonneg hb], hd, h⟩
        · exact (hold_fail.1 h).elim
      · exact (hold_fail.1 h).elim
    · split at h
      · obtain ⟨⟨rfl, h1⟩, h2⟩ := hold_req.1 h; exact ⟨kd, _, _, _, rfl, h1, h2⟩
      · exact (hold_fail.1 h).elim
      · rename_i he; cases he
  · exact (hold_fail.1 h).elim

theorem index_slice {t e : TypeId} {sz n cap : Nat} {base : Option Addr} {b o i : Nat} {kd : IntKind} (hu : P.underlying t = some (.slice e)) (hz : szOf P e = some sz) (hb : base = some ⟨b, o, none⟩) (hi : i < n) :
    (Instr.indexAt t (.slice base n cap) (.int kd (i : Int))).run P w = .ok (.pointer (some ⟨b, o + i * sz, none⟩)) w := by
  subst hb
  have h1 : (0 : Int) ≤ (i : Int) ∧ (i : Int) < (n : Int) := by omega
  simp [Instr.indexAt, asIntOf, run_und hu, run_szOf hz, hi, Addr.add_mid]
theorem index_array {t e : TypeId} {sz n : Nat} {b o : Nat} {kd : IntKind} {i : Int} (hu : P.underlying t = some (.array n e)) (hz : szOf P e = some sz) (h0 : 0 ≤ i) (hi : i < n) :
    (Instr.indexAt t (.pointer (some ⟨b, o, none⟩)) (.int kd i)).run P w = .ok (.pointer (some ⟨b, o + i.toNat * sz, none⟩)) w := by
  simp [Instr.indexAt, asIntOf, run_und hu, run_szOf hz, h0, hi, Addr.add_mid, Instr.sureAddr]

theorem indexAddrV_ok (hS : SRel P s.blks w μ Pr) {t : TypeId} {c : Bool} {x ix r : V} {a k : Value} (hx : VRel P w Pr (view s.blks μ) x a) (hk : VRel P w Pr (view s.blks μ) ix k) (h : Hold O s (indexAddrV P t c x ix) sc r sc') :
    ∃ v, (Instr.indexAt t a k).run P w = .ok v w ∧ VRel P w Pr (view s.blks μ) r v := by
  unfold indexAddrV at h
  split at h
  · rename_i e hu
    split at h
    · rename_i sz hz
      split at h
      · -- plain data
        rename_i xs
        obtain ⟨kd, i, d, sc1, rfl, hd, h⟩ := elQ_ok hk h
        split at h
        · rename_i hw
          obtain ⟨rfl, _⟩ := hold_ret.1 h
          obtain ⟨base, cap, rfl, hor⟩ := slRel_of_drel (show DRel w Pr (.sl xs) a from hx)
          rcases hor with rfl | ⟨hc, b, o, wd, hb, hp, hr⟩
          · simp at hd
          · have hi : i < xs.length := (List.getElem?_eq_some_iff.1 hd).1
            have hwd : wd = sz := by rw [← hr.1 i d hd, hw]
            subst hwd
            exact ⟨_, index_slice hu hz hb hi, b, o + i * wd, hp, rfl, fun j y hy => hr.2 i d j y hd hy⟩
        · exact (hold_fail.1 h).elim
      · -- a list
        rename_i id
        rw [hold_shp] at h
        split at h
        · rename_i e' len0 hb0
          obtain ⟨xs, hb, rfl⟩ := shape_lst hb0
          split at h
          · rename_i he; subst he
            obtain ⟨kd, i, sc1, rfl, hi, h⟩ := ixQ_ok hk h
            obtain ⟨rfl, _⟩ := hold_ret.1 h
            obtain ⟨hh, wd, cs, g1, g2, g3, g4, g5⟩ := hS.lst (blk_some hb (by simp))
            rcases hx with ⟨e', n, h', k1, k2⟩ | ⟨s', lens, b, cap, inner, k1, k2⟩
            · rw [g2] at k1; cases k1
              cases hh with
              | zero a => have := row_nil g4; subst this; simp at hi
              | row b cap =>
                subst k2
                refine ⟨_, index_slice hu hz rfl hi, .inl ⟨_, _, b, cap, sz, g2, hi, hz, by simp⟩⟩
            · rw [g2] at k1; cases k1
          · exact (hold_fail.1 h).elim
        · rename_i e' len0 hb0
          obtain ⟨xss, hb, rfl⟩ := shape_lst2 hb0
          split at h
          · rename_i he
            obtain ⟨rfl, rfl⟩ := he
            obtain ⟨kd, i, sc1, rfl, hi, h⟩ := ixQ_ok hk h
            obtain ⟨rfl, _⟩ := hold_ret.1 h
            obtain ⟨c, g1, g2, g3⟩ := hS.at (blk_some hb (by simp))
            rcases hx with ⟨e', n, h', k1, k2⟩ | ⟨s', lens, b, cap, inner, k1, k2⟩
            · rw [g3] at k1; cases c <;> simp [vwOf] at k1
            · rw [g3] at k1
              cases c <;> simp [vwOf] at k1
              obtain ⟨rfl, rfl, rfl, rfl, rfl⟩ := k1
              subst k2
              refine ⟨_, index_slice hu hz rfl (by simpa using hi), .inr (.inl ⟨_, _, _, _, _, g3, by simpa using hi, rfl, by simp⟩)⟩
          · exact (hold_fail.1 h).elim
        · exact (hold_fail.1 h).elim
      · -- a window
        rename_i id lo n
        rw [hold_shp] at h
        split at h
        · rename_i e' len0 hb0
          obtain ⟨xs, hb, rfl⟩ := shape_lst hb0
          split at h
          · rename_i he; subst he
            have hkey : ∃ sc9, lo + n ≤ xs.length ∧ Hold O s (ixQ ix n fun i => .ret (.eptr id (lo + i) 0)) sc9 r sc' := by
              rw [hold_pop] at h
              rcases h with ⟨_, h⟩ | ⟨it, u, _, h⟩
              · simp only at h
                split at h
                · rename_i hln; exact ⟨_, hln, h⟩
                · exact (hold_fail.1 h).elim
              · obtain ⟨h1, h2⟩ := hold_req.1 h; exact ⟨_, h1, h2⟩
            replace h := hkey
            obtain ⟨sc9, hln, h⟩ := h
            obtain ⟨kd, i, sc1, rfl, hi, h⟩ := ixQ_ok hk h
            obtain ⟨rfl, _⟩ := hold_ret.1 h
            obtain ⟨hh, wd, cs, g1, g2, g3, g4, g5⟩ := hS.lst (blk_some hb (by simp))
            obtain ⟨e', len, h', wd', a', cap, k1, k2, rfl, k4, k5, k6, k7⟩ := hx
            rw [g2] at k1; cases k1
            rw [hz] at k2; cases k2
            cases hh with
            | zero a => have := row_nil g4; subst this; simp at k5; omega
            | row b cap' =>
              refine ⟨_, index_slice hu hz (k6 b cap' rfl (by omega)) hi, .inl ⟨_, _, b, cap', sz, g2, by omega, hz, ?_⟩⟩
              rw [Nat.add_mul]; simp
          · exact (hold_fail.1 h).elim
        · exact (hold_fail.1 h).elim
      · -- an inner list
        rename_i id j
        rw [hold_blk] at h
        split at h
        · rename_i s' xss hb
          split at h
          · rename_i he
            obtain ⟨ys, sc1, h1, h2⟩ := hold_bind.1 h
            obtain ⟨kd, i, sc2, rfl, hi, h3⟩ := ixQ_ok hk h2
            obtain ⟨rfl, _⟩ := hold_ret.1 h3
            have hx0 : VRel0 P w Pr (view s.blks μ) (.inn id j) a := hx
            obtain ⟨s2, lens, b, cap, inner, n, h', k1, k2, k3, rfl⟩ := hx
            have hit := items_ok hS hx0 h1
            obtain ⟨c, g1, g2, g3⟩ := hS.at (blk_some hb (by simp))
            have k1' := k1
            rw [g3] at k1
            cases c <;> simp [vwOf] at k1
            obtain ⟨rfl, rfl, rfl, rfl, rfl⟩ := k1
            cases h' with
            | zero a =>
              rcases hit with ⟨t', ht, _⟩ | ⟨base, cap2, ht, _⟩
              · simp [hdr] at ht
              · simp [hdr] at ht; omega
            | row b' cap' =>
              have hn : n = ys.length := by
                rcases hit with ⟨t', ht, _⟩ | ⟨base, cap2, ht, _⟩
                · simp [hdr] at ht
                · simp [hdr] at ht; exact ht.2.1
              subst hn
              exact ⟨_, index_slice hu hz rfl hi, _, _, _, _, _, _, e, b', cap', sz, k1', k2, k3, hi, he, hz, by simp⟩
          · exact (hold_fail.1 h).elim
        · exact (hold_fail.1 h).elim
      · exact (hold_fail.1 h).elim
    · exact (hold_fail.1 h).elim
  · rename_i len e hu
    split at h
    · rename_i sz d sub hz
      obtain ⟨b, o, hp, rfl, hc⟩ := hx
      split at h
      · rename_i kd n
        have hk0 : k = .int kd n := drel_int (show DRel w Pr (.int kd n) k from hk)
        split at h
        · split at h
          · rename_i hb
            obtain ⟨rfl, _⟩ := hold_ret.1 h
            rw [hk0]
            exact ⟨_, index_array hu hz hb.1 hb.2, b, o, hp, by rw [Nat.add_assoc], hc⟩
          · exact (hold_fail.1 h).elim
        · obtain ⟨kd', i, sc1, hki, hi, h⟩ := ixQ_ok hk h
          obtain ⟨rfl, _⟩ := hold_ret.1 h
          rw [hki]
          exact ⟨_, index_array hu hz (by omega) (by omega), b, o, hp, by simp [Nat.add_assoc], hc⟩
      · exact (hold_fail.1 h).elim
    · rename_i sz id off hz
      obtain ⟨b, k1, rfl⟩ := hx
      split at h
      · split at h
        · rename_i kd n
          obtain rfl := drel_int (show DRel w Pr (.int kd n) k from hk)
          split at h
          · rename_i hb
            obtain ⟨rfl, _⟩ := hold_ret.1 h
            exact ⟨_, index_array hu hz hb.1 hb.2, b, k1, rfl⟩
          · exact (hold_fail.1 h).elim
        · exact (hold_fail.1 h).elim
      · split at h
        · rename_i kd n
          obtain rfl := drel_int (show DRel w Pr (.int kd n) k from hk)
          rw [hold_pop] at h
          rcases h with ⟨_, h⟩ | ⟨it, u, _, h⟩
          · simp only at h
            split at h
            · rename_i hb
              obtain ⟨rfl, _⟩ := hold_ret.1 h
              exact ⟨_, index_array hu hz hb.1 hb.2, b, k1, rfl⟩
            · exact (hold_fail.1 h).elim
          · split at h
            · obtain ⟨⟨rfl, hi⟩, h2⟩ := hold_req.1 h
              obtain ⟨rfl, _⟩ := hold_ret.1 h2
              exact ⟨_, index_array hu hz (by omega) (by omega), .inr (.inr ⟨b, k1, by simp⟩)⟩
            · obtain ⟨⟨rfl, hi⟩, h2⟩ := hold_req.1 h
              obtain ⟨rfl, _⟩ := hold_ret.1 h2
              exact ⟨_, index_array hu hz (by omega) (by omega), b, k1, by simp⟩
            · exact (hold_fail.1 h).elim
            · rename_i he; cases he
        · exact (hold_fail.1 h).elim
    · exact (hold_fail.1 h).elim
  · exact (hold_fail.1 h).elim

end
end Go.Proofs.YtbamhlgkoimjoaaDoor.Ab
/- Loads. -/
namespace Go.Proofs.YtbamhlgkoimjoaaDoor.Ab
open Go
set_option linter.unusedVariables false
set_option linter.unusedSimpArgs false

variable {P : Program} {O : Orc} {s : St} {sc sc' : Script} {w : World} {Pr : Nat → Prop} {vw : Nat → Option VW} {bl : List B} {μ : List CB}

theorem VRel1.toV {v : V} {x : Value} (h : VRel1 P w Pr vw v x) : VRel P w Pr vw v x := by
  cases v with
  | tup vs => exact (show VRel0 P w Pr vw (.tup vs) x from h).elim
  | _ => exact h
theorem VRel0.to1 {v : V} {x : Value} (h : VRel0 P w Pr vw v x) : VRel1 P w Pr vw v x := by
  cases v with
  | func f c => exact (show False from h).elim
  | iface t y => exact (show False from h).elim
  | agg cs => exact (show False from h).elim
  | _ => exact h
theorem VRel0.toV {v : V} {x : Value} (h : VRel0 P w Pr vw v x) : VRel P w Pr vw v x := h.to1.toV
theorem VRel1.simple {v : V} {x : Value} (h : VRel1 P w Pr vw v x) (hs : simple0 v = true) : VRel0 P w Pr vw v x := by
  cases v with
  | func f c => simp [simple0] at hs
  | iface t y => simp [simple0] at hs
  | agg cs => simp [simple0] at hs
  | _ => exact h
theorem VRel.d {x : D} {v : Value} (h : DRel w Pr x v) : VRel P w Pr vw (.d x) v := h

theorem allD_ok : ∀ {cs : List V} {ds : List D}, allD cs = some ds → cs = ds.map .d
  | [], ds, h => by simp [allD] at h; subst h; rfl
  | c :: r, ds, h => by
    cases c with
    | d x =>
      simp only [allD, Option.map_eq_some_iff] at h
      obtain ⟨es, he, rfl⟩ := h
      rw [allD_ok he]; rfl
    | _ => simp [allD] at h

theorem agg_d {ds : List D} {us : List Value} (h : All2 (fun v u => VRel0 P w Pr vw v u ∧ u.oneCell' = true) (ds.map .d) us) : DRel w Pr (.agg ds) (.agg us.toArray) := by
  refine .agg ds us (by simpa using h.length) (fun u hu => ?_) (fun j d v hd hv => ?_)
  · obtain ⟨i, hi⟩ := List.getElem?_of_mem hu
    have hlt : i < ds.length := by have := h.length; simp at this; rw [this]; exact (List.getElem?_eq_some_iff.1 hi).1
    obtain ⟨y, hy, h1⟩ := h.get i (.d ds[i]) (by simp [List.getElem?_eq_getElem hlt])
    rw [hi] at hy; cases hy
    exact h1.2
  · obtain ⟨y, hy, h1⟩ := h.get j (.d d) (by simp [hd])
    rw [hv] at hy; cases hy
    exact h1.1

theorem mkAgg_ok {vs : List V} {us : List Value} (h : All2 (fun v u => VRel0 P w Pr vw v u ∧ u.oneCell' = true) vs us) : VRel P w Pr vw (mkAgg vs) (.agg us.toArray) := by
  unfold mkAgg
  split
  · rename_i ds hd
    obtain rfl := allD_ok hd
    exact agg_d h
  · exact ⟨us, rfl, h⟩

theorem cell_of_cells {w : World} {b off : Nat} {c : Array Value} {e : TypeId} {fr : Nat × Nat} (h : w.heap[b]? = some (.cells c e fr)) : w.cell? ⟨b, off, none⟩ = c[off]? := by
  simp [World.cell?, h]

theorem load_one {t : TypeId} {b o : Nat} {u : Value} (hk : kindT P t = some false) (h : w.cell? ⟨b, o, none⟩ = some u) : (Instr.loadAt t (.pointer (some ⟨b, o, none⟩))).run P w = .ok u w := by
  simp [Instr.loadAt, Instr.sureAddr, loadVar, run_isAgg_false hk, h]

theorem All2.drop {α β : Type} {R : α → β → Prop} : ∀ {xs : List α} {ys : List β} (n : Nat), All2 R xs ys → All2 R (xs.drop n) (ys.drop n)
  | _, _, 0, h => h
  | [], [], n + 1, h => trivial
  | _ :: _, _ :: _, n + 1, h => All2.drop n h.2
  | [], _ :: _, _, h => h.elim
  | _ :: _, [], _, h => h.elim
theorem All2.take {α β : Type} {R : α → β → Prop} : ∀ {xs : List α} {ys : List β} (n : Nat), All2 R xs ys → All2 R (xs.take n) (ys.take n)
  | _, _, 0, h => trivial
  | [], [], n + 1, h => trivial
  | _ :: _, _ :: _, n + 1, h => ⟨h.1, All2.take n h.2⟩
  | [], _ :: _, _, h => h.elim
  | _ :: _, [], _, h => h.elim
theorem All2.append {α β : Type} {R : α → β → Prop} : ∀ {xs : List α} {ys : List β} {xs' : List α} {ys' : List β}, All2 R xs ys → All2 R xs' ys' → All2 R (xs ++ xs') (ys ++ ys')
  | [], [], _, _, _, h => h
  | _ :: _, _ :: _, _, _, h, h' => ⟨h.1, All2.append h.2 h'⟩
  | [], _ :: _, _, _, h, _ => h.elim
  | _ :: _, [], _, _, h, _ => h.elim

/-- A part of an element that lies at an address. -/
theorem cellOf_ok {t : TypeId} {sub : Nat} {x : D} {r : V} {b o : Nat} (hc : ∀ (j : Nat) (y : D), x.cells[j]? = some y → ∃ u, w.cell? ⟨b, o + j, none⟩ = some u ∧ u.oneCell' = true ∧ DRel w Pr y u)
    (h : Hold O s (cellOf P t sub x) sc r sc') : ∃ v, (Instr.loadAt t (.pointer (some ⟨b, o + sub, none⟩))).run P w = .ok v w ∧ VRel P w Pr vw r v := by
  unfold cellOf at h
  split at h
  · rename_i hk
    split at h
    · rename_i ds
      split at h
      · rename_i hz
        obtain ⟨rfl, hz⟩ := hz
        obtain ⟨rfl, _⟩ := hold_ret.1 h
        obtain ⟨d, hu, hr⟩ := kind_true hk
        have hex : ∀ n, n ≤ ds.length → ∃ us : List Value, us.length = n ∧ ∀ j, j < n → ∃ y u, ds[j]? = some y ∧ us[j]? = some u ∧ w.cell? ⟨b, o + j, none⟩ = some u ∧ u.oneCell' = true ∧ DRel w Pr y u := by
          intro n
          induction n with
          | zero => intro _; exact ⟨[], rfl, fun j hj => by omega⟩
          | succ n ih =>
            intro hn
            obtain ⟨us, hl, hus⟩ := ih (by omega)
            have hy : ds[n]? = some ds[n] := List.getElem?_eq_getElem (by omega)
            obtain ⟨u, h1, h2, h3⟩ := hc n ds[n] hy
            refine ⟨us ++ [u], by simp [hl], fun j hj => ?_⟩
            by_cases hjn : j < n
            · obtain ⟨y, u', g1, g2, g3⟩ := hus j hjn
              exact ⟨y, u', g1, by rw [List.getElem?_append_left (by omega)]; exact g2, g3⟩
            · obtain rfl : j = n := by omega
              exact ⟨ds[j], u, hy, by rw [List.getElem?_append_right (by omega), hl]; simp, h1, h2, h3⟩
        obtain ⟨us, hl, hus⟩ := hex ds.length (Nat.le_refl _)
        have hall : All2 (fun v u => VRel0 P w Pr vw v u ∧ u.oneCell' = true) (ds.map V.d) us := All2.of (by simp [hl]) (fun i v u hv hu => by
          rw [List.getElem?_map, Option.map_eq_some_iff] at hv
          obtain ⟨y, hy, rfl⟩ := hv
          obtain ⟨y', u', g1, g2, g3, g4, g5⟩ := hus i (List.getElem?_eq_some_iff.1 hy).1
          rw [hy] at g1; cases g1
          rw [hu] at g2; cases g2
          exact ⟨g5, g4⟩)
        refine ⟨.agg us.toArray, run_loadAt_mid w b (o + 0) t us d (fun j v hv => ?_) hu hr (by rw [info_szOf hz, hl]), agg_d hall⟩
        obtain ⟨y', u', g1, g2, g3, g4, g5⟩ := hus j (by have := (List.getElem?_eq_some_iff.1 hv).1; omega)
        rw [hv] at g2; cases g2
        exact g3
      · exact (hold_fail.1 h).elim
    · exact (hold_fail.1 h).elim
  · rename_i hk
    split at h
    · exact (hold_fail.1 h).elim
    · rename_i y hne hy
      obtain ⟨rfl, _⟩ := hold_ret.1 h
      obtain ⟨u, g1, g2, g3⟩ := hc sub y hy
      exact ⟨u, load_one hk g1, g3⟩
    · exact (hold_fail.1 h).elim
  · exact (hold_fail.1 h).elim

theorem loadV_ok (hS : SRel P s.blks w μ Pr) {t : TypeId} {x r : V} {a : Value} (hx : VRel P w Pr (view s.blks μ) x a) (h : Hold O s (loadV P t x) sc r sc') :
    ∃ v, (Instr.loadAt t a).run P w = .ok v w ∧ VRel P w Pr (view s.blks μ) r v := by
  unfold loadV at h
  split at h
  · -- a box
    rename_i id off
    rw [hold_blk] at h
    split at h
    · rename_i cs hb
      obtain ⟨b, k1, rfl⟩ := hx
      obtain ⟨b', c, e, g1, g2, g3, g4⟩ := hS.box (blk_some hb (by simp))
      rw [g2] at k1; cases k1
      have hl := g4.length
      split at h
      · rename_i hk
        split at h
        · rename_i sz hz
          split at h
          · rename_i hle
            obtain ⟨hle, hsim⟩ := hle
            obtain ⟨rfl, _⟩ := hold_ret.1 h
            obtain ⟨d, hu, hr⟩ := kind_true hk
            have hall := (g4.drop off).take sz
            refine ⟨.agg ((c.toList.drop off).take sz).toArray, run_loadAt_mid w b off t _ d (fun j v hv => ?_) hu hr ?_, mkAgg_ok ?_⟩
            · rw [cell_of_cells g3]
              rw [List.getElem?_take] at hv
              split at hv
              · rw [List.getElem?_drop, Array.getElem?_toList] at hv; exact hv
              · cases hv
            · rw [info_szOf hz]
              simp at hl ⊢; omega
            · exact All2.monoMem (fun v hv u hu => ⟨hu.1.simple (List.all_eq_true.1 hsim v hv), hu.2⟩) hall
          · exact (hold_fail.1 h).elim
        · exact (hold_fail.1 h).elim
      · rename_i hk
        split at h
        · rename_i v hv
          obtain ⟨rfl, _⟩ := hold_ret.1 h
          obtain ⟨u, hu, h1, h2⟩ := g4.get off _ hv
          exact ⟨u, load_one hk (by rw [cell_of_cells g3, ← Array.getElem?_toList]; exact hu), h1.toV⟩
        · exact (hold_fail.1 h).elim
      · exact (hold_fail.1 h).elim
    · exact (hold_fail.1 h).elim
  · -- an element of a list
    rename_i id i sub
    rw [hold_blk] at h
    split at h
    · rename_i cs hb
      split at h
      · rename_i hk
        rw [hold_pop] at h
        rcases h with ⟨_, h⟩ | ⟨it, u, _, h⟩
        · exact (hold_fail.1 h).elim
        · split at h
          · rename_i d _
            obtain ⟨h1, h⟩ := hold_req.1 h
            obtain ⟨rfl, _⟩ := hold_ret.1 h
            obtain ⟨b', c, e, g1, g2, g3, g4⟩ := hS.box (blk_some hb (by simp))
            rcases hx with ⟨e', n, b, cap, wd', k1, _⟩ | ⟨s', lens, b, cap, inner, k1, _⟩ | ⟨b, k1, rfl⟩
            · rw [g2] at k1; cases k1
            · rw [g2] at k1; cases k1
            · rw [g2] at k1; cases k1
              obtain ⟨u, hu, h1, h2⟩ := g4.get (i + sub) _ h1
              exact ⟨u, load_one hk (by rw [cell_of_cells g3, ← Array.getElem?_toList]; exact hu), h1.toV⟩
          · exact (hold_fail.1 h).elim
      · exact (hold_fail.1 h).elim
    · rename_i e xs hb
      have hd : ∃ d sc1, xs[i]? = some d ∧ Hold O s (cellOf P t sub d) sc1 r sc' := by
        rw [hold_pop] at h
        rcases h with ⟨_, h⟩ | ⟨it, u, _, h⟩
        · simp only at h
          split at h
          · rename_i d hd; exact ⟨d, _, hd, h⟩
          · exact (hold_fail.1 h).elim
        · split at h
          · obtain ⟨h1, h2⟩ := hold_req.1 h; exact ⟨_, _, h1, h2⟩
          · exact (hold_fail.1 h).elim
          · rename_i he; cases he
      obtain ⟨d, sc1, hd, h⟩ := hd
      obtain ⟨hh, wd, cs, g1, g2, g3, g4, g5⟩ := hS.lst (blk_some hb (by simp))
      rcases hx with ⟨e', n, b, cap, wd', k1, k2, k3, rfl⟩ | ⟨s', lens, b, cap, inner, k1, k2, k3, rfl⟩ | ⟨b, k1, _⟩
      rotate_left 2
      · rw [g2] at k1; cases k1
      · rw [g2] at k1; cases k1
        rw [g3] at k3; cases k3
        have hr := (reads_of_row g4 g5).2
        exact cellOf_ok (fun j y hy => by have := hr.2 i d j y hd hy; rwa [Nat.zero_add] at this) h
      · rw [g2] at k1; cases k1
    · rename_i s' xss hb
      split at h
      · rename_i hk
        have hd : ∃ ys, xss[i]? = some (some ys) ∧ r = .inn id i := by
          rw [hold_pop] at h
          rcases h with ⟨_, h⟩ | ⟨it, u, _, h⟩
          · simp only at h
            split at h
            · rename_i ys hys; exact ⟨ys, hys, (hold_ret.1 h).1⟩
            · exact (hold_fail.1 h).elim
          · split at h
            · obtain ⟨h1, h2⟩ := hold_req.1 h; exact ⟨_, h1, (hold_ret.1 h2).1⟩
            · exact (hold_fail.1 h).elim
            · rename_i he; cases he
        obtain ⟨ys, hys, rfl⟩ := hd
        obtain ⟨c, g1, g2, g3⟩ := hS.at (blk_some hb (by simp))
        rcases hx with ⟨e', n, b, cap, wd', k1, k2, k3, rfl⟩ | ⟨s'', lens, b, cap, inner, k1, k2, k3, rfl⟩ | ⟨b, k1, _⟩
        rotate_left 2
        · rw [g3] at k1; cases c <;> simp [vwOf] at k1
        · rw [g3] at k1; cases c <;> simp [vwOf] at k1
        · have k1' := k1
          rw [g3] at k1
          cases c with
          | lst2 b0 cap0 in0 =>
            simp [vwOf] at k1
            obtain ⟨rfl, rfl, rfl, rfl, rfl⟩ := k1
            obtain ⟨cur, e, wd, r1, r2, r3, r4, r5, r6, r7, r8, r9, r10⟩ := g2
            have hil : i < xss.length := (List.getElem?_eq_some_iff.1 hys).1
            have hi2 : i < in0.length := by omega
            obtain ⟨q1, cs, q2, q3⟩ := r10 i ys _ hys (List.getElem?_eq_getElem hi2)
            exact ⟨_, load_one hk (by rw [cell_of_cells r1]; exact q1), _, _, _, _, _, ys.length, in0[i], k1', by simp [hys], List.getElem?_eq_getElem hi2, rfl⟩
          | _ => simp [vwOf] at k1
      · exact (hold_fail.1 h).elim
    · exact (hold_fail.1 h).elim
  · -- an element of an inner list
    rename_i id i k
    rw [hold_blk] at h
    split at h
    · rename_i s' xss hb
      have hd : ∃ ys d sc1, xss[i]? = some (some ys) ∧ ys[k]? = some d ∧ Hold O s (cellOf P t 0 d) sc1 r sc' := by
        rw [hold_pop] at h
        rcases h with ⟨_, h⟩ | ⟨it, u, _, h⟩
        · simp only at h
          split at h
          · rename_i ys hys
            split at h
            · rename_i d hd; exact ⟨ys, d, _, hys, hd, h⟩
            · exact (hold_fail.1 h).elim
          · exact (hold_fail.1 h).elim
        · split at h
          · obtain ⟨⟨ys, h1, h2⟩, h3⟩ := hold_req.1 h; exact ⟨ys, _, _, h1, h2, h3⟩
          · exact (hold_fail.1 h).elim
          · rename_i he; cases he
      obtain ⟨ys, d, sc1, hys, hd, h⟩ := hd
      obtain ⟨c, g1, g2, g3⟩ := hS.at (blk_some hb (by simp))
      obtain ⟨s2, lens, b, cap, inner, n, e, b', cap', wd, k1, k2, k3, k4, k5, k6, rfl⟩ := hx
      rw [g3] at k1
      cases c <;> simp [vwOf] at k1
      obtain ⟨rfl, rfl, rfl, rfl, rfl⟩ := k1
      obtain ⟨cur, e', wd', r1, r2, r3, r4, r5, r6, r7, r8, r9, r10⟩ := g2
      rw [k5] at r7; cases r7
      rw [k6] at r8; cases r8
      obtain ⟨q1, cs, q2, q3⟩ := r10 i ys _ hys k3
      have hr := (reads_of_row q2 q3).2
      have := cellOf_ok (P := P) (vw := view s.blks μ) (b := b') (o := k * wd) (sub := 0) (fun j y hy => by have := hr.2 k d j y hd hy; rwa [Nat.zero_add] at this) h
      simpa using this
    · exact (hold_fail.1 h).elim
  · -- plain data
    rename_i x sub
    obtain ⟨b, o, hp, rfl, hc⟩ := hx
    exact cellOf_ok hc h
  · exact (hold_fail.1 h).elim

end Go.Proofs.YtbamhlgkoimjoaaDoor.Ab
/- Operands; conversions, slices, literals. -/
namespace Go.Proofs.YtbamhlgkoimjoaaDoor.Ab
open Go
set_option linter.unusedVariables false
set_option linter.unusedSimpArgs false

variable {P : Program} {O : Orc} {s : St} {sc sc' : Script} {w : World} {Pr : Nat → Prop} {vw : Nat → Option VW} {bl : List B} {μ : List CB}

theorem constV_ok {c : Value} {v : V} (h : constV c = some v) : VRel0 P w Pr vw v c ∧ c.oneCell' = true := by
  unfold constV at h
  split at h <;> cases h
  · exact ⟨DRel.int _ _, rfl⟩
  · exact ⟨DRel.bool _, rfl⟩
  · exact ⟨DRel.str _, rfl⟩
  · exact ⟨DRel.inil, rfl⟩
  · exact ⟨rfl, rfl⟩
  · exact ⟨trivial, rfl⟩
  · exact ⟨rfl, rfl⟩
theorem constC_ok : ∀ {cs : List Value} {vs : List V}, constC cs = some vs → All2 (fun v u => VRel0 P w Pr vw v u ∧ u.oneCell' = true) vs cs
  | [], vs, h => by simp [constC] at h; subst h; trivial
  | c :: r, vs, h => by
    simp only [constC] at h
    split at h
    · rename_i x y h1 h2; cases h; exact ⟨constV_ok h1, constC_ok h2⟩
    · cases h
theorem constVA_ok {c : Value} {v : V} (h : constVA c = some v) : VRel P w Pr vw v c := by
  unfold constVA at h
  split at h
  · rename_i cs
    simp only [Option.map_eq_some_iff] at h
    obtain ⟨vs, hv, rfl⟩ := h
    have := mkAgg_ok (P := P) (w := w) (Pr := Pr) (vw := vw) (constC_ok hv)
    simpa using this
  · exact (constV_ok h).1.toV

theorem slot_ok {a : Act} (hR : Rel P s a w μ Pr) (n : Nat) : VRel P w Pr (view s.blks μ) (s.slot n) (a.tmps.getD n undef) := by
  unfold St.slot
  cases h : s.slots[n]? with
  | none => exact trivial
  | some v => exact hR.slots n v h

theorem opd_ok {a : Act} (hR : Rel P s a w μ Pr) {x : Operand} {v : V} (h : Hold O s (opd x) sc v sc') : VRel P w Pr (view s.blks μ) v (a.eval x) := by
  cases x with
  | tmp t => rw [opd, hold_slot] at h; obtain ⟨rfl, _⟩ := hold_ret.1 h; exact slot_ok hR t
  | const c =>
    simp only [opd] at h
    split at h
    · rename_i u hu; obtain ⟨rfl, _⟩ := hold_ret.1 h; exact constVA_ok hu
    · exact (hold_fail.1 h).elim
  | func f => obtain ⟨rfl, _⟩ := hold_ret.1 h; exact ⟨[], rfl, trivial⟩
  | global g =>
    simp only [opd] at h
    split at h
    · rename_i x hx
      obtain ⟨rfl, _⟩ := hold_ret.1 h
      obtain ⟨h1, h2⟩ := hR.glob.1 g x hx
      exact ⟨g, 0, h1, rfl, fun j y hy => by rw [Nat.zero_add]; exact h2 j y hy⟩
    · exact (hold_fail.1 h).elim
theorem opds_ok {a : Act} (hR : Rel P s a w μ Pr) : ∀ {xs : List Operand} {vs : List V} {sc sc' : Script}, Hold O s (opds xs) sc vs sc' → All2 (VRel P w Pr (view s.blks μ)) vs (xs.map a.eval)
  | [], vs, sc, sc', h => by obtain ⟨rfl, _⟩ := hold_ret.1 h; trivial
  | x :: r, vs, sc, sc', h => by
    obtain ⟨v, sc1, h1, h2⟩ := hold_bind.1 h
    obtain ⟨vs', sc2, h3, h4⟩ := hold_bind.1 h2
    obtain ⟨rfl, _⟩ := hold_ret.1 h4
    exact ⟨opd_ok hR h1, opds_ok hR h3⟩

/-! ### conversions that make no memory -/

theorem unU8_ok : ∀ {xs : List D} {l : List UInt8}, unU8 xs = some l → xs = l.map u8
  | [], l, h => by simp [unU8] at h; subst h; rfl
  | x :: r, l, h => by
    cases x with
    | int k n =>
      cases k <;> simp only [unU8] at h <;> try (cases h; done)
      split at h
      · rename_i hb
        simp only [Option.map_eq_some_iff] at h
        obtain ⟨l', h', rfl⟩ := h
        simp only [List.map_cons]
        rw [unU8_ok h']
        congr 1
        simp only [u8]
        have : (UInt8.ofNat n.toNat).toNat = n.toNat := by simp; omega
        rw [this]; congr 1; omega
      · cases h
    | _ => simp [unU8] at h

theorem bytes_fold (l : List UInt8) : ∀ (acc : ByteArray), l.foldl (fun s b => s.push b) acc = ⟨acc.data ++ l.toArray⟩ := by
  induction l with
  | nil => intro acc; simp
  | cons x r ih =>
    intro acc
    rw [List.foldl_cons, ih]
    congr 1
    simp [ByteArray.push]

theorem push_cells (f : Value → ByteArray → Sem (ForInStep ByteArray)) (hf : ∀ (n : Int) (r : ByteArray), (f (.int .u8 n) r).run P w = .ok (.yield (r.push (UInt8.ofNat n.toNat))) w) :
    ∀ (l : List UInt8) (acc : ByteArray), (forIn (l.map (fun b => Value.int .u8 b.toNat)) acc f).run P w = .ok ⟨acc.data ++ l.toArray⟩ w
  | [], acc => by simp
  | x :: r, acc => by
    have := push_cells f hf r (acc.push x)
    simp only [List.map_cons, List.forIn_cons, Sem.run_bind, hf, Result.andThen_ok, Int.toNat_natCast, UInt8.ofNat_toNat]
    rw [this]
    simp [ByteArray.push]

/-- Memory has grown, at most by blocks that nobody writes. -/
structure Quiet (w : World) (Pr : Nat → Prop) (w' : World) (Pr' : Nat → Prop) : Prop where
  os : w'.os = w.os
  tape : w'.tape = w.tape
  output : w'.output = w.output
  size : w.heap.size ≤ w'.heap.size
  block : ∀ k, k < w.heap.size → w'.heap[k]? = w.heap[k]?
  prm : ∀ b, Pr b → Pr' b
  prn : ∀ b, Pr' b → Pr b ∨ (w.heap.size ≤ b ∧ b < w'.heap.size)

theorem Quiet.refl (w : World) (Pr : Nat → Prop) : Quiet w Pr w Pr := ⟨rfl, rfl, rfl, Nat.le_refl _, fun _ _ => rfl, fun _ h => h, fun _ h => .inl h⟩
theorem Quiet.evo {w' : World} {Pr' : Nat → Prop} (h : Quiet w Pr w' Pr') (O : List Nat) : Evo O Pr w O Pr' w' :=
  ⟨h.os, h.tape, h.output, h.size, fun k hk _ => h.block k hk, fun _ h => .inl h, h.prm, fun b hb => (h.prn b hb).imp_right fun h => .inr h.1⟩
theorem Quiet.rel {a : Act} {w' : World} {Pr' : Nat → Prop} (hq : Quiet w Pr w' Pr') (h : Rel P s a w μ Pr) : Rel P s a w' μ Pr' :=
  h.grow P (hq.evo _) hq.block (fun b hb hp => by
    rcases hq.prn b hp with h1 | h1
    · exact (h.lt b hb).2 h1
    · have := (h.lt b hb).1; omega) (fun b hb => by
    rcases hq.prn b hb with h1 | h1
    · exact Nat.lt_of_lt_of_le (h.pr b h1) hq.size
    · exact h1.2)

/-- New cells that nobody writes. -/
theorem quiet_new (w : World) (Pr : Nat → Prop) (o : Obj) : Quiet w Pr { w with heap := w.heap.push o } (fun b => Pr b ∨ b = w.heap.size) := by
  refine ⟨rfl, rfl, rfl, by simp, fun k hk => ?_, fun _ h => .inl h, fun b hb => hb.imp_right fun e => ⟨by omega, by simp; omega⟩⟩
  show (w.heap.push o)[k]? = _
  rw [Array.getElem?_push, if_neg (by omega)]

theorem quiet_drawn {w' : World} {Pr' : Nat → Prop} (h : Quiet w Pr w' Pr') (n : Nat) : Quiet w Pr { w' with drawn := n } Pr' := ⟨h.os, h.tape, h.output, h.size, h.block, h.prm, h.prn⟩
theorem quiet_drawn' {n : Nat} {w' : World} {Pr' : Nat → Prop} (h : Quiet { w with drawn := n } Pr w' Pr') : Quiet w Pr w' Pr' := ⟨h.os, h.tape, h.output, h.size, h.block, h.prm, h.prn⟩

theorem run_stringToBytes (e : TypeId) (q : ByteArray) (w : World) (Pr : Nat → Prop) : ∃ v w' Pr', (Conv.stringToBytes e q).run P w = .ok v w' ∧ Quiet w Pr w' Pr' ∧ DRel w' Pr' (.sl (q.data.toList.map u8)) v := by
  let cap := (Question.appendCap q.size 0 e).cut (w.tape w.drawn (.appendCap q.size 0 e))
  have hcap : q.size ≤ cap := by simp [cap, Question.cut]
  let cells : Array Value := (q.data.map fun b => .int .u8 b.toNat) ++ Array.replicate (cap - q.size) (.int .u8 0)
  let w1 : World := { w with drawn := w.drawn + 1, heap := w.heap.push (.cells cells e) }
  let w2 : World := w1.freeze ⟨w.heap.size, cells.size, none⟩ 1
  have hsh : w1.shape? w.heap.size = some (e, cells.size) := by simp [World.shape?, w1]
  have hrun : (Conv.stringToBytes e q).run P w = .ok (.slice (some ⟨w.heap.size, 0, none⟩) q.size cap) w2 := by
    have e1 : (Conv.stringToBytes e q).run P w = (markStringish ⟨w.heap.size, 0, none⟩ >>= fun _ => (pure (.slice (some ⟨w.heap.size, 0, none⟩) q.size cap) : Sem Value)).run P w1 := rfl
    rw [e1]
    simp only [markStringish, Sem.run_bind, run_shape, hsh, Result.andThen_ok, run_freeze, Sem.run_pure]
    rfl
  have hheap : w2.heap[w.heap.size]? = some (.cells cells e (cells.size, cells.size + 1)) := by
    have hw1 : w1.heap[w.heap.size]? = some (.cells cells e (0, 0)) := by
      show (w.heap.push (Obj.cells cells e))[w.heap.size]? = _
      simp
    show (w1.heap.modify w.heap.size _)[w.heap.size]? = _
    rw [Array.getElem?_modify, if_pos rfl, hw1]
    rfl
  have hold : ∀ k, k < w.heap.size → w2.heap[k]? = w.heap[k]? := by
    intro k hk
    show (w1.heap.modify w.heap.size _)[k]? = _
    rw [Array.getElem?_modify, if_neg (by omega)]
    show (w.heap.push (Obj.cells cells e))[k]? = _
    rw [Array.getElem?_push, if_neg (by omega)]
  have hsize : w2.heap.size = w.heap.size + 1 := by
    show (w1.heap.modify w.heap.size _).size = _
    rw [Array.size_modify]
    show (w.heap.push _).size = _
    simp
  refine ⟨_, w2, fun b => Pr b ∨ b = w.heap.size, hrun, ⟨rfl, rfl, rfl, by omega, hold, fun _ h => .inl h, fun b hb => hb.imp_right fun h => ⟨by omega, by omega⟩⟩, ?_⟩
  have hl : (q.data.toList.map u8).length = q.size := by simp
  rw [← hl]
  refine drel_of_reads (wd := 1) (Pr' := Pr) (.inr rfl) (by rw [hl]; exact hcap) ⟨fun i x hx => ?_, fun i x j y hx hy => ?_⟩
  · rw [List.getElem?_map, Option.map_eq_some_iff] at hx
    obtain ⟨b, _, rfl⟩ := hx; rfl
  · rw [List.getElem?_map, Option.map_eq_some_iff] at hx
    obtain ⟨b, hb, rfl⟩ := hx
    have hj : j = 0 ∧ y = u8 b := by
      simp only [u8, D.cells] at hy
      cases j with
      | zero => simp at hy; exact ⟨rfl, by simp [u8, hy]⟩
      | succ j => simp at hy
    obtain ⟨rfl, rfl⟩ := hj
    refine ⟨.int .u8 b.toNat, ?_, rfl, .int _ _⟩
    rw [cell_of_cells hheap]
    have hi : i < q.data.size := by have := (List.getElem?_eq_some_iff.1 hb).1; simpa using this
    have hlt : i < (q.data.map fun b => Value.int .u8 b.toNat).size := by simpa using hi
    simp only [Nat.mul_one, Nat.zero_add, Nat.add_zero, cells]
    rw [Array.getElem?_append_left hlt, Array.getElem?_map]
    rw [Array.getElem?_toList] at hb
    rw [hb]; rfl

theorem run_bytesToString {q : List UInt8} {base : Option Addr} {cap : Nat} (h : q.map u8 = [] ∨ ∃ b o wd, base = some ⟨b, o, none⟩ ∧ Reads w Pr wd (q.map u8) b o) :
    (Conv.bytesToString (.slice base (q.map u8).length cap)).run P w = .ok (.string ⟨q.toArray⟩) w := by
  have hcells : ∀ {b o : Nat}, Reads w Pr 1 (q.map u8) b o → (loadCells ⟨b, o, none⟩ (q.map u8).length).run P w = .ok ((q.map fun b => Value.int .u8 b.toNat).toArray) w := by
    intro b o hr
    have := run_loadCells_list (P := P) w ⟨b, o, none⟩ (q.map fun b => Value.int .u8 b.toNat) (fun j v hv => by
      rw [List.getElem?_map, Option.map_eq_some_iff] at hv
      obtain ⟨x, hx, rfl⟩ := hv
      obtain ⟨u, g1, g2, g3⟩ := hr.2 j (u8 x) 0 (u8 x) (by simp [hx]) rfl
      rw [Addr.add_mid]
      have := drel_int g3
      subst this
      simpa using g1)
    simpa using this
  rcases h with h | ⟨b, o, wd, rfl, hr⟩
  · have hq : q = [] := by simpa using h
    subst hq
    cases base with
    | none => rfl
    | some a => simp [Conv.bytesToString, loadCells, loadCellsFrom]; rfl
  · cases hq : q with
    | nil => simp [Conv.bytesToString, loadCells, loadCellsFrom]; rfl
    | cons x r =>
      have hwd : wd = 1 := by have := hr.1 0 (u8 x) (by simp [hq]); simpa [u8, D.cells] using this.symm
      subst hwd
      rw [← hq]
      simp only [Conv.bytesToString, Sem.run_bind, hcells hr, Result.andThen_ok]
      simp only [List.forIn_toArray]
      rw [push_cells (P := P) (w := w) _ (fun n r => rfl) q ByteArray.empty]
      simp

end Go.Proofs.YtbamhlgkoimjoaaDoor.Ab
/- Slices; literals; what only makes a value, as operations. -/
namespace Go.Proofs.YtbamhlgkoimjoaaDoor.Ab
open Go
set_option linter.unusedVariables false
set_option linter.unusedSimpArgs false

variable {P : Program} {O : Orc} {s : St} {sc sc' : Script} {w : World} {Pr : Nat → Prop} {vw : Nat → Option VW} {bl : List B} {μ : List CB}

/-- Boxes stay where they are. -/
def Keep (μ μ' : List CB) : Prop := ∀ (i q : Nat), μ[i]? = some (.box q) → μ'[i]? = some (.box q)
theorem Keep.refl (μ : List CB) : Keep μ μ := fun _ _ h => h
theorem Keep.trans {μ μ' μ'' : List CB} (h : Keep μ μ') (h' : Keep μ' μ'') : Keep μ μ'' := fun i q hi => h' i q (h i q hi)
theorem Keep.push (μ ν : List CB) : Keep μ (μ ++ ν) := fun i q hi => by rw [List.getElem?_append_left (List.getElem?_eq_some_iff.1 hi).1]; exact hi
theorem Keep.set {μ : List CB} {id : Nat} {c c' : CB} (hc : μ[id]? = some c) (hb : ∀ q, c ≠ .box q) : Keep μ (μ.set id c') := fun i q hi => by
  by_cases h : id = i
  · subst h; rw [hc] at hi; cases hi; exact (hb q rfl).elim
  · rw [List.getElem?_set, if_neg h]; exact hi

/-- Where a step leads. -/
def After (P : Program) (s' : St) (μ : List CB) (Pr : Nat → Prop) (w : World) (a' : Act) (w' : World) : Prop :=
  ∃ μ' Pr', Rel P s' a' w' μ' Pr' ∧ Evo (owns μ) Pr w (owns μ') Pr' w' ∧ Keep μ μ'

theorem goes_put {a : Act} {o : Oper} {w' : World} {Pr' : Nat → Prop} {r : V} {x : Value} {Q : Exit → Act → World → Prop} (hR : Rel P s a w μ Pr) (hq : Quiet w Pr w' Pr')
    (hrun : (execOp a.eval o).run P w = .ok (.value x) w') (hv : VRel P w' Pr' (view s.blks μ) r x) : o.wp P a w (After P ((putP o.dst r).apply s) μ Pr w) Q := by
  unfold Oper.wp
  rw [hrun]
  exact ⟨μ, Pr', by rw [putP_apply]; exact (hq.rel hR).setSlot P _ hv, hq.evo _, .refl _⟩

theorem hdr_cap {e wd n : Nat} {xs : List D} {cs : List Value} {hh : H} (ho : OwnR w e wd hh xs.length cs) : ∃ base cap, hdr hh xs.length = .slice base xs.length cap ∧ xs.length ≤ cap := by
  cases hh with
  | zero a => have := row_nil ho; subst this; exact ⟨a, 0, rfl, Nat.le_refl _⟩
  | row b c =>
    refine ⟨_, c, rfl, ?_⟩
    rcases ho.2 with ⟨h, _⟩ | ⟨g, cap, cur, hv, _, _, h1, _⟩
    · simp at h
    · simp at hv; omega

/-! ### slice expressions -/

def OptRel (P : Program) (w : World) (Pr : Nat → Prop) (vw : Nat → Option VW) : Option V → Option Value → Prop
  | none, none => True
  | some v, some u => VRel P w Pr vw v u
  | _, _ => False

theorem bound_ok {x : Value} {n y : Nat} {k : IntKind} {c : BoundsCode} (hx : x = .int k (n : Int)) (hn : n ≤ y) : (Instr.sliceBound x y c).run P w = .ok n w := by
  subst hx
  simp [Instr.sliceBound, asIntOf, hn]

theorem cutQ_ok {lo hi : Option V} {lo' hi' : Option Value} {len : Nat} {k : Nat → Nat → Q Patch} {p : Patch} (hl : OptRel P w Pr vw lo lo') (hh : OptRel P w Pr vw hi hi') (h : Hold O s (cutQ lo hi len k) sc p sc') :
    ∃ (a b : Nat) (sc1 : Script), a ≤ b ∧ b ≤ len ∧ (∀ isSl cap, len ≤ cap → (Instr.sliceBounds isSl len cap lo' hi' none).run P w = .ok (a, b, cap) w) ∧ Hold O s (k a b) sc1 p sc' := by
  have hb : ∀ {v : Option V} {v' : Option Value} {d : Nat} {kk : Int → Q Patch} {sc : Script}, OptRel P w Pr vw v v' → Hold O s (boundQ v d kk) sc p sc' → ∃ n : Int, Hold O s (kk n) sc p sc' ∧ ((v = none ∧ v' = none ∧ n = d) ∨ ∃ kd, v' = some (.int kd n)) := by
    intro v v' d kk sc hv h
    unfold boundQ at h
    split at h
    · cases v' with
      | none => exact ⟨_, h, .inl ⟨rfl, rfl, rfl⟩⟩
      | some u => exact hv.elim
    · rename_i kd n
      cases v' with
      | none => exact hv.elim
      | some u =>
        obtain rfl := drel_int (show DRel w Pr (.int kd n) u from hv)
        exact ⟨n, h, .inr ⟨kd, rfl⟩⟩
    · exact (hold_fail.1 h).elim
  unfold cutQ at h
  obtain ⟨l, h, hlo⟩ := hb hl h
  obtain ⟨m, h, hhi⟩ := hb hh h
  have key : ∃ (a b : Nat) (sc1 : Script), l = (a : Int) ∧ m = (b : Int) ∧ a ≤ b ∧ b ≤ len ∧ Hold O s (k a b) sc1 p sc' := by
    rw [hold_pop] at h
    rcases h with ⟨_, h⟩ | ⟨it, u, _, h⟩
    · simp only at h
      split at h
      · rename_i hc; exact ⟨l.toNat, m.toNat, _, by omega, by omega, by omega, by omega, h⟩
      · exact (hold_fail.1 h).elim
    · split at h
      · obtain ⟨⟨h1, h2, h3, h4⟩, h5⟩ := hold_req.1 h; exact ⟨_, _, _, h1, h2, h3, h4, h5⟩
      · exact (hold_fail.1 h).elim
      · rename_i he; cases he
  obtain ⟨a, b, sc1, rfl, rfl, hab, hbl, h⟩ := key
  refine ⟨a, b, sc1, hab, hbl, fun isSl cap hcap => ?_, h⟩
  have hbc : b ≤ cap := by omega
  rcases hlo with ⟨_, rfl, h2⟩ | ⟨kd, rfl⟩ <;> rcases hhi with ⟨_, rfl, h3⟩ | ⟨kd', rfl⟩
  · obtain rfl : a = 0 := by omega
    obtain rfl : b = len := by omega
    simp [Instr.sliceBounds]
  · obtain rfl : a = 0 := by omega
    cases isSl <;> simp [Instr.sliceBounds, Instr.sliceBound, asIntOf, hbc]
  · obtain rfl : b = len := by omega
    simp [Instr.sliceBounds, Instr.sliceBound, asIntOf, hab]
  · cases isSl <;> simp [Instr.sliceBounds, Instr.sliceBound, asIntOf, hab, hbc]

theorem widthsQ_ok {α : Type} {ys : List D} {sz : Nat} {k : Q α} {r : α} (h : Hold O s (widthsQ ys sz k) sc r sc') : (∀ y ∈ ys, y.cells.length = sz) ∧ ∃ sc1, Hold O s k sc1 r sc' := by
  unfold widthsQ at h
  have hall : ys.all (fun y => y.cells.length == sz) = true → ∀ y ∈ ys, y.cells.length = sz := fun h y hy => by
    have := List.all_eq_true.1 h y hy; simpa using this
  rw [hold_pop] at h
  rcases h with ⟨_, h⟩ | ⟨it, u, _, h⟩
  · simp only at h
    split at h
    · rename_i hc; exact ⟨hall hc, _, h⟩
    · exact (hold_fail.1 h).elim
  · split at h
    · obtain ⟨h1, h2⟩ := hold_req.1 h; exact ⟨h1, _, h2⟩
    · split at h
      · rename_i hc; exact ⟨hall hc, _, h⟩
      · exact (hold_fail.1 h).elim

theorem elemOf_und {t e : TypeId} (h : elemOf P t = some e) : P.underlying t = some (.slice e) := by
  unfold elemOf at h
  split at h
  · rename_i e' hu; cases h; exact hu
  · cases h

theorem run_slice {t e : TypeId} {sz n cap a b : Nat} {base : Option Addr} {lo hi : Option Value} (hu : P.underlying t = some (.slice e)) (hz : szOf P e = some sz) (hb : (Instr.sliceBounds true n cap lo hi none).run P w = .ok (a, b, cap) w) :
    (Instr.sliceAt t (.slice base n cap) lo hi none).run P w = .ok (.slice (if cap = a then base else base.map (·.add (a * sz))) (b - a) (cap - a)) w := by
  simp only [Instr.sliceAt, Sem.run_bind, run_und hu, Result.andThen_ok, Instr.slice, hb, run_szOf hz, Sem.run_pure]

theorem run_slice3 {t e : TypeId} {sz n cap a b : Nat} {base : Option Addr} {k1 k2 k3 : IntKind} (hu : P.underlying t = some (.slice e)) (hz : szOf P e = some sz) (hab : a ≤ b) (hbc : b ≤ cap) :
    (Instr.sliceAt t (.slice base n cap) (some (.int k1 a)) (some (.int k2 b)) (some (.int k3 b))).run P w = .ok (.slice (if b = a then base else base.map (·.add (a * sz))) (b - a) (b - a)) w := by
  have hsb : (Instr.sliceBounds true n cap (some (.int k1 a)) (some (.int k2 b)) (some (.int k3 b))).run P w = .ok (a, b, b) w := by
    simp [Instr.sliceBounds, Instr.sliceBound, asIntOf, hab, hbc]
  simp only [Instr.sliceAt, Sem.run_bind, run_und hu, Result.andThen_ok, Instr.slice, hsb, run_szOf hz, Sem.run_pure]

theorem slice3Q_ok (hS : SRel P s.blks w μ Pr) {dst : Option Nat} {t : TypeId} {x : V} {v : Value} {lo hi : Option V} {m : Int} {k : IntKind} {lo' hi' mx' : Option Value} {p : Patch}
    (hx : VRel P w Pr (view s.blks μ) x v) (hlo : OptRel P w Pr (view s.blks μ) lo lo') (hhi : OptRel P w Pr (view s.blks μ) hi hi') (hmx : OptRel P w Pr (view s.blks μ) (some (.d (.int k m))) mx')
    (h : Hold O s (slice3Q P dst t x lo hi m) sc p sc') : ∃ r u, p = putP dst r ∧ (Instr.sliceAt t v lo' hi' mx').run P w = .ok u w ∧ VRel P w Pr (view s.blks μ) r u := by
  have num : ∀ {n : Int} {k : IntKind} {z' : Option Value}, OptRel P w Pr (view s.blks μ) (some (.d (.int k n))) z' → z' = some (.int k n) := by
    intro n k z' h
    cases z' with
    | none => exact h.elim
    | some u => rw [drel_int (show DRel w Pr (.int k n) u from h)]
  unfold slice3Q at h
  split at h
  · rename_i id k1 l k2 h0
    rw [hold_blk] at h
    split at h
    · rename_i e xs hb
      split at h
      · rename_i he
        rw [hold_pop] at h
        rcases h with ⟨_, h⟩ | ⟨it, u, _, h⟩
        · exact (hold_fail.1 h).elim
        · split at h
          · rename_i a b _
            obtain ⟨⟨rfl, rfl, rfl, ha, hab, hbl⟩, h3⟩ := hold_req.1 h
            obtain ⟨rfl, _⟩ := hold_ret.1 h3
            obtain rfl := num hlo
            obtain rfl := num hhi
            obtain rfl := num hmx
            obtain ⟨hh, wd, cs, g1, g2, g3, g4, g5⟩ := hS.lst (blk_some hb (by simp))
            rcases hx with ⟨e', n, h', k1, k2⟩ | ⟨s', lens, bb, cap, inner, k1, k2⟩
            · rw [g2] at k1; cases k1
              subst k2
              obtain ⟨base, cap, q1, q2⟩ := hdr_cap (n := 0) g4
              rw [q1]
              refine ⟨_, _, rfl, run_slice3 (elemOf_und he) g3 hab (by omega), _, _, _, wd, _, b - a, g2, g3, rfl, by omega, by omega, fun bb c hc hn => ?_, fun ha0 => absurd ha0 (by omega)⟩
              subst hc
              simp [hdr] at q1
              obtain ⟨rfl, rfl⟩ := q1
              rw [if_neg (by omega)]
              simp [Addr.add_mid]
            · rw [g2] at k1; cases k1
          · exact (hold_fail.1 h).elim
      · exact (hold_fail.1 h).elim
    · exact (hold_fail.1 h).elim
  · exact (hold_fail.1 h).elim

theorem sliceQ_ok (hS : SRel P s.blks w μ Pr) {dst : Option Nat} {t : TypeId} {x : V} {v : Value} {lo hi mx : Option V} {lo' hi' mx' : Option Value} {p : Patch}
    (hx : VRel P w Pr (view s.blks μ) x v) (hlo : OptRel P w Pr (view s.blks μ) lo lo') (hhi : OptRel P w Pr (view s.blks μ) hi hi') (hmx : OptRel P w Pr (view s.blks μ) mx mx')
    (h : Hold O s (sliceQ P dst t x lo hi mx) sc p sc') : ∃ r u, p = putP dst r ∧ (Instr.sliceAt t v lo' hi' mx').run P w = .ok u w ∧ VRel P w Pr (view s.blks μ) r u := by
  have zero : ∀ {z : Option V} {z' : Option Value} {k : IntKind}, z = some (.d (.int k 0)) → OptRel P w Pr (view s.blks μ) z z' → z' = some (.int k 0) := by
    intro z z' k hz h
    subst hz
    cases z' with
    | none => exact h.elim
    | some u => rw [drel_int (show DRel w Pr (.int k 0) u from h)]
  have nonev : ∀ {z : Option V} {z' : Option Value}, z = none → OptRel P w Pr (view s.blks μ) z z' → z' = none := by
    intro z z' hz h; subst hz; cases z' with | none => rfl | some u => exact h.elim
  unfold sliceQ at h
  split at h
  · rename_i k m
    split at h
    · rename_i xs
      split at h
      · rename_i hm0
        subst hm0
        split at h
        · rename_i k2 e he
          split at h
          · rename_i sz hz
            obtain ⟨rfl, _⟩ := hold_ret.1 h
            obtain rfl := zero rfl hmx
            obtain rfl := zero rfl hhi
            obtain rfl := nonev rfl hlo
            obtain ⟨base, cap, rfl, _⟩ := slRel_of_drel (show DRel w Pr (.sl xs) v from hx)
            refine ⟨_, .slice base 0 0, rfl, ?_, base, rfl⟩
            have hsb : (Instr.sliceBounds true xs.length cap none (some (.int k2 0)) (some (.int k 0))).run P w = .ok (0, 0, 0) w := by
              simp [Instr.sliceBounds, Instr.sliceBound, asIntOf]
            simp [Instr.sliceAt, run_und (elemOf_und he), Instr.slice, hsb, run_szOf hz]
          · exact (hold_fail.1 h).elim
        · exact (hold_fail.1 h).elim
      · exact (hold_fail.1 h).elim
    · exact slice3Q_ok hS hx hlo hhi hmx h
  · exact (hold_fail.1 h).elim
  · obtain rfl := nonev rfl hmx
    split at h
    · -- plain data
      rename_i xs
      split at h
      · rename_i e he
        split at h
        · rename_i sz hz
          obtain ⟨a, b, sc1, hab, hbl, hsb, h⟩ := cutQ_ok hlo hhi h
          obtain ⟨hw, sc2, h⟩ := widthsQ_ok h
          obtain ⟨rfl, _⟩ := hold_ret.1 h
          obtain ⟨base, cap, rfl, hor⟩ := slRel_of_drel (show DRel w Pr (.sl xs) v from hx)
          have hl : ((xs.drop a).take (b - a)).length = b - a := by simp; omega
          rcases hor with rfl | ⟨hc, bb, o, wd, rfl, hp, hr⟩
          · have ha0 : a = 0 := by simp at hbl; omega
            have hb0 : b = 0 := by simp at hbl; omega
            subst ha0; subst hb0
            refine ⟨_, _, rfl, run_slice (elemOf_und he) hz (hsb true cap (by simp)), ?_⟩
            exact DRel.sl0 _ _
          · refine ⟨_, _, rfl, run_slice (elemOf_und he) hz (hsb true cap hc), ?_⟩
            show DRel w Pr _ _
            by_cases hba : b = a
            · subst hba; simp only [Nat.sub_self, List.take_zero]; exact DRel.sl0 _ _
            · have hca : cap ≠ a := by omega
              rw [if_neg hca]
              have hwd : wd = sz := by
                have hlt : a < xs.length := by omega
                rw [← hr.1 a xs[a] (List.getElem?_eq_getElem hlt)]
                exact hw _ (List.getElem_mem _)
              subst hwd
              have hr1 : ∀ (i : Nat) (x : D), ((xs.drop a).take (b - a))[i]? = some x → xs[a + i]? = some x := by
                intro i x hx
                rw [List.getElem?_take] at hx
                split at hx
                · rwa [List.getElem?_drop] at hx
                · cases hx
              have hr2 : Reads w Pr wd ((xs.drop a).take (b - a)) bb (o + a * wd) := by
                refine ⟨fun i x hx => hr.1 _ x (hr1 i x hx), fun i x j y hx hy => ?_⟩
                obtain ⟨u, g1, g2⟩ := hr.2 _ x j y (hr1 i x hx) hy
                refine ⟨u, ?_, g2⟩
                rw [← g1]; congr 2; rw [Nat.add_mul]; omega
              have := drel_of_reads (Pr' := Pr) (cap := cap - a) hp (by rw [hl]; omega) hr2
              rw [hl] at this
              simpa [Addr.add_mid] using this
        · exact (hold_fail.1 h).elim
      · exact (hold_fail.1 h).elim
    · -- a string
      rename_i l
      split at h
      · rename_i hu
        obtain ⟨a, b, sc1, hab, hbl, hsb, h⟩ := cutQ_ok hlo hhi h
        obtain ⟨rfl, _⟩ := hold_ret.1 h
        obtain ⟨q, rfl, rfl⟩ := drel_str (show DRel w Pr (.str _) v from hx)
        have hq := bytes_size q
        have hs1 := hsb false q.size (by omega)
        rw [← hq] at hs1
        refine ⟨_, .string (q.extract a b), rfl, ?_, ?_⟩
        · simp [Instr.sliceAt, run_und hu, Instr.slice, hs1]
        · show DRel w Pr _ _
          have : (q.data.toList.drop a).take (b - a) = (q.extract a b).data.toList := by
            rw [ByteArray.data_extract, Array.toList_extract, List.extract_eq_take_drop]
          rw [this]
          exact DRel.str _
      · exact (hold_fail.1 h).elim
    · -- an empty one
      rename_i bb
      split at h
      · rename_i k sz hz
        obtain ⟨rfl, _⟩ := hold_ret.1 h
        obtain rfl := zero rfl hhi
        obtain rfl := nonev rfl hlo
        obtain ⟨e, he, hz⟩ := Option.bind_eq_some_iff.1 hz
        have hsb : (Instr.sliceBounds true 0 0 none (some (.int k 0)) none).run P w = .ok (0, 0, 0) w := by
          simp [Instr.sliceBounds, Instr.sliceBound, asIntOf]
        cases bb
        · obtain ⟨p, rfl⟩ := hx
          exact ⟨_, .slice p 0 0, rfl, by rw [run_slice (elemOf_und he) hz hsb]; simp, p, rfl⟩
        · obtain rfl := hx
          exact ⟨_, .slice none 0 0, rfl, by rw [run_slice (elemOf_und he) hz hsb]; simp, rfl⟩
      · exact (hold_fail.1 h).elim
    · -- a list
      rename_i id
      rw [hold_blk] at h
      split at h
      · rename_i e xs hb
        split at h
        · rename_i he
          obtain ⟨a, b, sc1, hab, hbl, hsb, h⟩ := cutQ_ok hlo hhi h
          obtain ⟨rfl, _⟩ := hold_ret.1 h
          obtain ⟨hh, wd, cs, g1, g2, g3, g4, g5⟩ := hS.lst (blk_some hb (by simp))
          rcases hx with ⟨e', n, h', k1, k2⟩ | ⟨s', lens, bb, cap, inner, k1, k2⟩
          · rw [g2] at k1; cases k1
            subst k2
            obtain ⟨base, cap, q1, q2⟩ := hdr_cap (n := 0) g4
            rw [q1]
            refine ⟨_, _, rfl, run_slice (elemOf_und he) g3 (hsb true cap q2), _, _, _, wd, _, cap - a, g2, g3, rfl, by omega, by omega, fun bb c hc hn => ?_, fun ha => ?_⟩
            · subst hc
              simp [hdr] at q1
              obtain ⟨rfl, rfl⟩ := q1
              rw [if_neg (by omega)]
              simp [Addr.add_mid]
            · subst ha
              cases hh with
              | zero z => have := row_nil g4; subst this; simp [hdr] at q1; obtain ⟨rfl, rfl⟩ := q1; simp at hbl; subst hbl; simp [hdr]
              | row bb cc =>
                simp [hdr] at q1
                obtain ⟨rfl, rfl⟩ := q1
                simp [hdr, Addr.add]
          · rw [g2] at k1; cases k1
        · exact (hold_fail.1 h).elim
      · exact (hold_fail.1 h).elim
    · exact (hold_fail.1 h).elim

end Go.Proofs.YtbamhlgkoimjoaaDoor.Ab
/- Blocks of the store: laid, written. -/
namespace Go.Proofs.YtbamhlgkoimjoaaDoor.Ab
open Go
set_option linter.unusedVariables false
set_option linter.unusedSimpArgs false

variable {P : Program} {O : Orc} {s : St} {sc sc' : Script} {w w' : World} {Pr Pr' : Nat → Prop} {vw : Nat → Option VW} {bl : List B} {μ : List CB} {a : Act}

theorem view_push {b : B} {c : CB} (hl : μ.length = bl.length) {id : Nat} (h : view bl μ id ≠ none) : view (bl ++ [b]) (μ ++ [c]) id = view bl μ id := by
  unfold view at h ⊢
  cases hb : bl[id]? with
  | none => simp [hb] at h
  | some x =>
    have hlt : id < bl.length := (List.getElem?_eq_some_iff.1 hb).1
    rw [List.getElem?_append_left hlt, List.getElem?_append_left (by omega), hb]
theorem view_last {b : B} {c : CB} (hl : μ.length = bl.length) : view (bl ++ [b]) (μ ++ [c]) bl.length = vwOf b c := by
  unfold view
  rw [List.getElem?_append_right (Nat.le_refl _), List.getElem?_append_right (by omega)]
  simp [hl]

theorem owns_append (μ ν : List CB) : owns (μ ++ ν) = owns μ ++ owns ν := List.flatMap_append
theorem owns_one (c : CB) : owns [c] = c.own := by simp [owns]

/-- A new block. -/
theorem SRel.push (h : SRel P bl w μ Pr) {b : B} {c : CB} (hos : w'.os = w.os) (htape : w'.tape = w.tape) (hout : w'.output = w.output) (hsz : w.heap.size ≤ w'.heap.size) (hb : ∀ k, k < w.heap.size → w'.heap[k]? = w.heap[k]?)
    (hnd : c.own.Nodup) (hown : ∀ k ∈ c.own, w.heap.size ≤ k ∧ k < w'.heap.size) (hB : BRel P w' Pr (view (bl ++ [b]) (μ ++ [c])) b c) :
    SRel P (bl ++ [b]) w' (μ ++ [c]) Pr ∧ Evo (owns μ) Pr w (owns (μ ++ [c])) Pr w' := by
  have hlt : ∀ k ∈ owns μ, k < w.heap.size := fun k hk => (h.lt k hk).1
  refine ⟨⟨by simp [h.mu], fun id x y hx hy => ?_, ?_, fun k hk => ?_, fun k hk => Nat.lt_of_lt_of_le (h.pr k hk) hsz, h.glob.mono (fun _ h => h) (fun k hk => hb k (h.pr k hk))⟩, ⟨hos, htape, hout, hsz, fun k hk _ => hb k hk, fun k hk => ?_, fun _ h => h, fun _ h => .inl h⟩⟩
  · by_cases hid : id < bl.length
    · rw [List.getElem?_append_left hid] at hx
      rw [List.getElem?_append_left (by rw [h.mu]; exact hid)] at hy
      exact (h.blks id x y hx hy).mono P (fun _ h => h) (fun k hk => hb k (h.pr k hk)) (fun k hk => hb k (hlt k (List.mem_flatMap.2 ⟨y, List.mem_of_getElem? hy, hk⟩)))
        (fun i _ hne => view_push h.mu hne)
    · have hid2 : id = bl.length := by
        have := (List.getElem?_eq_some_iff.1 hx).1; simp at this; omega
      subst hid2
      rw [List.getElem?_append_right (Nat.le_refl _)] at hx
      rw [List.getElem?_append_right (by rw [h.mu]; exact Nat.le_refl _)] at hy
      simp [h.mu] at hx hy
      subst hx; subst hy
      exact hB
  · rw [owns_append, owns_one, List.nodup_append]
    refine ⟨h.nodup, hnd, fun x hx y hy hxy => ?_⟩
    have h1 := hlt x hx
    have h2 := (hown y hy).1
    omega
  · rw [owns_append, owns_one] at hk
    rcases List.mem_append.1 hk with hk | hk
    · exact ⟨Nat.lt_of_lt_of_le (hlt k hk) hsz, (h.lt k hk).2⟩
    · exact ⟨(hown k hk).2, fun hp => by have := h.pr k hp; have := (hown k hk).1; omega⟩
  · rw [owns_append, owns_one] at hk
    rcases List.mem_append.1 hk with hk | hk
    · exact .inl hk
    · exact .inr (hown k hk).1

theorem Rel.ofStore {s' : St} {μ' : List CB} (h : Rel P s a w μ Pr) (hsl : s'.slots = s.slots) (hS : SRel P s'.blks w' μ' Pr') (hev : Evo (owns μ) Pr w (owns μ') Pr' w')
    (hv : ∀ id, view s.blks μ id ≠ none → view s'.blks μ' id = view s.blks μ id) : Rel P s' a w' μ' Pr' :=
  ⟨hS, h.defers, by rw [hsl]; exact h.len, fun n v hn => by
    rw [hsl] at hn
    exact (h.slots n v hn).mono P hev.prm (fun b hb => hev.block b (h.pr b hb) (fun hm => (h.lt b hm).2 hb)) (fun id _ hne => hv id hne)⟩

/-- An operation that lays a block. -/
theorem goes_push {o : Oper} {b : B} {c : CB} {r : V} {x : Value} {Q : Exit → Act → World → Prop} (hR : Rel P s a w μ Pr)
    (hos : w'.os = w.os) (htape : w'.tape = w.tape) (hout : w'.output = w.output) (hsz : w.heap.size ≤ w'.heap.size) (hb : ∀ k, k < w.heap.size → w'.heap[k]? = w.heap[k]?)
    (hnd : c.own.Nodup) (hown : ∀ k ∈ c.own, w.heap.size ≤ k ∧ k < w'.heap.size) (hB : BRel P w' Pr (view (s.blks ++ [b]) (μ ++ [c])) b c)
    (hrun : (execOp a.eval o).run P w = .ok (.value x) w') (hv : VRel P w' Pr (view (s.blks ++ [b]) (μ ++ [c])) r x) :
    o.wp P a w (After P (({ putP o.dst r with push := [b] } : Patch).apply s) μ Pr w) Q := by
  unfold Oper.wp
  rw [hrun]
  obtain ⟨hS, hev⟩ := hR.toSRel.push hos htape hout hsz hb hnd hown hB
  have hR' : Rel P ⟨s.slots, s.blks ++ [b]⟩ a w' (μ ++ [c]) Pr := hR.ofStore rfl hS hev (fun id hne => view_push hR.mu hne)
  refine ⟨μ ++ [c], Pr, ?_, hev, .push _ _⟩
  have : ({ putP o.dst r with push := [b] } : Patch).apply s = setSlot ⟨s.slots, s.blks ++ [b]⟩ o.dst r := by
    cases o.dst <;> simp [putP, Patch.apply, setAll, modAll, setSlot]
  rw [this]
  exact hR'.setSlot P _ hv


/-! ### cells of a value -/

theorem drel_one {x : D} {v : Value} (h : DRel w Pr x v) (hx : ∀ ds, x ≠ .agg ds) : v.oneCell' = true ∧ v.cells = #[v] := by
  cases h with
  | agg ds cs => exact (hx ds rfl).elim
  | _ => exact ⟨rfl, rfl⟩

theorem hdr_one (hh : H) (n : Nat) : (hdr hh n).oneCell' = true ∧ (hdr hh n).cells = #[hdr hh n] := by cases hh <;> exact ⟨rfl, rfl⟩

theorem cellsV_ok {v : V} {x : Value} {vs : List V} (h : cellsV v = some vs) (hv : VRel P w Pr vw v x) : All2 (fun c u => VRel1 P w Pr vw c u ∧ u.oneCell' = true) vs x.cells.toList := by
  have one : ∀ {v : V} {x : Value}, VRel1 P w Pr vw v x → x.oneCell' = true ∧ x.cells = #[x] → All2 (fun c u => VRel1 P w Pr vw c u ∧ u.oneCell' = true) [v] x.cells.toList := by
    intro v x h1 h2; rw [h2.2]; exact ⟨⟨h1, h2.1⟩, trivial⟩
  cases v with
  | undef => simp [cellsV] at h
  | void => simp [cellsV] at h
  | tup us => simp [cellsV] at h
  | own e xs => exact (show False from hv).elim
  | own2 e xs => exact (show False from hv).elim
  | d y =>
    cases y with
    | agg ds =>
      simp only [cellsV, Option.some.injEq] at h
      subst h
      obtain ⟨cs, rfl, hl, h1, hd⟩ := drel_agg (show DRel w Pr (.agg ds) x from hv)
      refine All2.of (by simp [Value.cells, hl]) (fun i c u hc hu => ?_)
      rw [List.getElem?_map, Option.map_eq_some_iff] at hc
      obtain ⟨y, hy, rfl⟩ := hc
      simp only [Value.cells] at hu
      exact ⟨hd i y u hy hu, h1 u (List.mem_of_getElem? hu)⟩
    | _ =>
      simp only [cellsV, Option.some.injEq] at h
      subst h
      exact one hv (drel_one hv (by simp))
  | agg cs =>
    simp only [cellsV, Option.some.injEq] at h
    subst h
    obtain ⟨vs, rfl, h⟩ := hv
    have h' : All2 (fun c u => VRel0 P w Pr vw c u ∧ u.oneCell' = true) cs (Value.agg vs.toArray).cells.toList := by simpa [Value.cells] using h
    exact All2.mono (fun c u hcu => ⟨hcu.1.to1, hcu.2⟩) h'
  | emp b =>
    simp only [cellsV, Option.some.injEq] at h; subst h
    cases b
    · obtain ⟨p, rfl⟩ := hv; exact one (v := .emp false) (show VRel1 P w Pr vw (.emp false) _ from ⟨p, rfl⟩) ⟨rfl, rfl⟩
    · obtain rfl := hv; exact one (v := .emp true) (show VRel1 P w Pr vw (.emp true) _ from rfl) ⟨rfl, rfl⟩
  | nnil => simp only [cellsV, Option.some.injEq] at h; subst h; obtain ⟨p, c, rfl⟩ := hv; exact one (v := .nnil) (show VRel1 P w Pr vw .nnil _ from ⟨p, c, rfl⟩) ⟨rfl, rfl⟩
  | nilp => simp only [cellsV, Option.some.injEq] at h; subst h; obtain rfl := hv; exact one (v := .nilp) (show VRel1 P w Pr vw .nilp _ from rfl) ⟨rfl, rfl⟩
  | nlc => simp only [cellsV, Option.some.injEq] at h; subst h; obtain ⟨c, rfl⟩ := hv; exact one (v := .nlc) (show VRel1 P w Pr vw .nlc _ from ⟨c, rfl⟩) ⟨rfl, rfl⟩
  | arr id =>
    simp only [cellsV, Option.some.injEq] at h; subst h
    have hv' := hv
    rcases hv with ⟨e, n, hh, h1, rfl⟩ | ⟨_, _, _, _, _, h1, rfl⟩
    · exact one hv' (hdr_one _ _)
    · exact one hv' ⟨rfl, rfl⟩
  | inn id i =>
    simp only [cellsV, Option.some.injEq] at h; subst h
    have hv' := hv
    obtain ⟨_, _, _, _, _, _, hh, _, _, _, rfl⟩ := hv
    exact one hv' (hdr_one _ _)
  | win id lo n =>
    simp only [cellsV, Option.some.injEq] at h; subst h
    have hv' := hv
    obtain ⟨_, _, _, _, _, _, _, _, rfl, _⟩ := hv
    exact one hv' ⟨rfl, rfl⟩
  | ptr id off =>
    simp only [cellsV, Option.some.injEq] at h; subst h
    have hv' := hv
    obtain ⟨_, _, rfl⟩ := hv
    exact one hv' ⟨rfl, rfl⟩
  | eptr id i k =>
    simp only [cellsV, Option.some.injEq] at h; subst h
    have hv' := hv
    rcases hv with ⟨_, _, _, _, _, _, _, _, rfl⟩ | ⟨_, _, _, _, _, _, _, _, rfl⟩ | ⟨_, _, rfl⟩ <;> exact one hv' ⟨rfl, rfl⟩
  | iptr id i k =>
    simp only [cellsV, Option.some.injEq] at h; subst h
    have hv' := hv
    obtain ⟨_, _, _, _, _, _, _, _, _, _, _, _, _, _, _, _, rfl⟩ := hv
    exact one hv' ⟨rfl, rfl⟩
  | dptr y k =>
    simp only [cellsV, Option.some.injEq] at h; subst h
    have hv' := hv
    obtain ⟨_, _, _, rfl, _⟩ := hv
    exact one hv' ⟨rfl, rfl⟩
  | func f cap =>
    simp only [cellsV, Option.some.injEq] at h; subst h
    have hv' := hv
    obtain ⟨_, rfl, _⟩ := hv
    exact one hv' ⟨rfl, rfl⟩
  | iface t y =>
    simp only [cellsV, Option.some.injEq] at h; subst h
    have hv' := hv
    obtain ⟨_, rfl, _⟩ := hv
    exact one hv' ⟨rfl, rfl⟩

/-! ### alloc, box -/

theorem zeroC_ok {t : TypeId} {cs : List V} (h : zeroC P t = some cs) : ∃ z : Value, (zeroValue t).run P w = .ok z w ∧ All2 (fun v u => VRel0 P w Pr vw v u ∧ u.oneCell' = true) cs z.cells.toList := by
  unfold zeroC at h
  split at h
  · rename_i i hi
    split at h
    · rename_i z hz
      exact ⟨z, by simp [zeroValue, typeInfo, hi, hz], constC_ok h⟩
    · cases h
  · cases h

theorem heap_push_old {o : Obj} : ∀ k, k < w.heap.size → ({ w with heap := w.heap.push o } : World).heap[k]? = w.heap[k]? := by
  intro k hk
  show (w.heap.push o)[k]? = _
  rw [Array.getElem?_push, if_neg (by omega)]
theorem heap_push_new {o : Obj} : ({ w with heap := w.heap.push o } : World).heap[w.heap.size]? = some o := by
  show (w.heap.push o)[w.heap.size]? = _
  simp

theorem box_new {ty : Option Nat} {cs : List V} {us : Array Value} {e : TypeId} {vw' : Nat → Option VW} (hty : ∀ t, ty = some t → e = t) (hall : All2 (fun v u => VRel1 P w Pr vw v u ∧ u.oneCell' = true) cs us.toList) (hpr : ∀ b, Pr b → b < w.heap.size)
    (hv : ∀ id, vw id ≠ none → vw' id = vw id) : BRel P { w with heap := w.heap.push (.cells us e) } Pr vw' (.bx ty cs) (.box w.heap.size) :=
  ⟨us, e, heap_push_new, hty, All2.mono (fun v u h => ⟨h.1.mono P (fun _ h => h) (fun b hb => heap_push_old b (hpr b hb)) (fun id _ hne => hv id hne), h.2⟩) hall⟩

theorem goes_alloc {ty : Option Nat} {o : Oper} {t : TypeId} {cs : List V} {Q : Exit → Act → World → Prop} (hR : Rel P s a w μ Pr) (ho : o.op = .alloc t) (hty : ∀ u, ty = some u → t = u) (hz : zeroC P t = some cs) :
    o.wp P a w (After P (({ putP o.dst (.ptr s.blks.length 0) with push := [.bx ty cs] } : Patch).apply s) μ Pr w) Q := by
  obtain ⟨z, hrun, hall⟩ := zeroC_ok (P := P) (w := w) (Pr := Pr) (vw := view s.blks μ) hz
  refine goes_push (w' := { w with heap := w.heap.push (.cells z.cells t) }) (c := .box w.heap.size) (x := .pointer (some ⟨w.heap.size, 0, none⟩)) hR rfl rfl rfl (by simp) heap_push_old (by simp [CB.own]) (by simp [CB.own])
    (box_new hty (All2.mono (fun v u h => ⟨h.1.to1, h.2⟩) hall) hR.pr (fun id hne => view_push hR.mu hne)) ?_ ⟨_, view_last hR.mu, rfl⟩
  simp only [execOp, ho, Instr.alloc, Sem.run_bind, hrun, Result.andThen_ok, newVar, newRow, run_newObj, Sem.run_pure]

theorem goes_box {o : Oper} {t : TypeId} {x : Operand} {v : V} {cs : List V} {Q : Exit → Act → World → Prop} (hR : Rel P s a w μ Pr) (ho : o.op = .box t x) (hv : VRel P w Pr (view s.blks μ) v (a.eval x)) (hc : cellsV v = some cs) :
    o.wp P a w (After P (({ putP o.dst (.ptr s.blks.length 0) with push := [.box cs] } : Patch).apply s) μ Pr w) Q := by
  refine goes_push (w' := { w with heap := w.heap.push (.cells (a.eval x).cells t) }) (c := .box w.heap.size) (x := .pointer (some ⟨w.heap.size, 0, none⟩)) hR rfl rfl rfl (by simp) heap_push_old (by simp [CB.own]) (by simp [CB.own])
    (box_new (by simp) (cellsV_ok hc hv) hR.pr (fun id hne => view_push hR.mu hne)) ?_ ⟨_, view_last hR.mu, rfl⟩
  simp only [execOp, ho, Instr.box, Sem.run_bind, newVar, newRow, run_newObj, Result.andThen_ok, Sem.run_pure]

end Go.Proofs.YtbamhlgkoimjoaaDoor.Ab
/- Literals. -/
namespace Go.Proofs.YtbamhlgkoimjoaaDoor.Ab
open Go
set_option linter.unusedVariables false
set_option linter.unusedSimpArgs false

variable {P : Program} {O : Orc} {s : St} {sc sc' : Script} {w w' : World} {Pr Pr' : Nat → Prop} {vw : Nat → Option VW} {bl : List B} {μ : List CB} {a : Act}

theorem run_mapM {α β : Type} (f : α → Sem β) (g : α → Option β) : ∀ (l : List α), (∀ x ∈ l, ∃ y, g x = some y ∧ (f x).run P w = .ok y w) → ∃ ys, (l.mapM f).run P w = .ok ys w ∧ ∀ i : Nat, ys[i]? = (l[i]?).bind g
  | [], _ => ⟨[], by simp, by simp⟩
  | x :: r, h => by
    obtain ⟨y, h1, h2⟩ := h x (List.mem_cons_self ..)
    obtain ⟨ys, h3, h4⟩ := run_mapM f g r (fun z hz => h z (List.mem_cons_of_mem _ hz))
    refine ⟨y :: ys, by simp [h2, h3], fun i => ?_⟩
    cases i with
    | zero => simp [h1]
    | succ i => simpa using h4 i

theorem fold_set (off : Nat) : ∀ (vs : List Value) (k : Nat) (cs : Array Value), off + k + vs.length ≤ cs.size →
    ((vs.zipIdx k).foldl (fun cs (x : Value × Nat) => cs.setIfInBounds (off + x.2) x.1) cs).toList = cs.toList.take (off + k) ++ vs ++ cs.toList.drop (off + k + vs.length)
  | [], k, cs, h => by simp
  | v :: r, k, cs, h => by
    simp only [List.length_cons] at h
    rw [List.zipIdx_cons, List.foldl_cons, fold_set off r (k + 1) _ (by simp; omega)]
    have hk : off + k < cs.toList.length := by simp; omega
    simp only [Array.toList_setIfInBounds, List.length_cons]
    have e1 : (cs.toList.set (off + k) v).take (off + (k + 1)) = cs.toList.take (off + k) ++ [v] := by
      rw [show off + (k + 1) = (off + k) + 1 by omega, List.take_add_one, List.take_set_of_le (Nat.le_refl _), List.getElem?_set_self hk]; rfl
    have e2 : (cs.toList.set (off + k) v).drop (off + (k + 1) + r.length) = cs.toList.drop (off + k + (r.length + 1)) := by
      rw [List.drop_set_of_lt (by omega)]; congr 1; omega
    rw [e1, e2]
    simp

theorem over_ok {R : V → Value → Prop} {cs vs : List V} {us ws : List Value} (h : All2 R cs us) (h' : All2 R vs ws) (off : Nat) : All2 R (over cs off vs) (us.take off ++ ws ++ us.drop (off + ws.length)) := by
  unfold over
  rw [← h'.length]
  exact ((h.take off).append h').append (h.drop _)

theorem fill_ok {places places' : Nat → Option (Nat × Nat)} (hp : places' = places) : ∀ {parts : List (Nat × V)} {parts' : List (Nat × Value)} {cells cs : List V} {us : Array Value},
    All2 (fun p q => p.1 = q.1 ∧ VRel P w Pr vw p.2 q.2) parts parts' → All2 (fun v u => VRel0 P w Pr vw v u ∧ u.oneCell' = true) cells us.toList → fillP places cells parts = some cs →
    ∃ us', Instr.fill places' us parts' = some us' ∧ All2 (fun v u => VRel0 P w Pr vw v u ∧ u.oneCell' = true) cs us'.toList
  | [], [], cells, cs, us, _, hc, h => by simp [fillP] at h; subst h; exact ⟨us, rfl, hc⟩
  | [], _ :: _, _, _, _, h, _, _ => h.elim
  | _ :: _, [], _, _, _, h, _, _ => h.elim
  | (i, v) :: r, (j, x) :: r', cells, cs, us, ⟨⟨hij, hv⟩, hr⟩, hc, h => by
    simp only at hij hv
    subst hij
    simp only [fillP] at h
    split at h
    · rename_i off sz vs h1 h2
      split at h
      · rename_i hcond
        obtain ⟨h3, h4, h5⟩ := hcond
        have hx := cellsV_ok h2 hv
        have hx0 : All2 (fun v u => VRel0 P w Pr vw v u ∧ u.oneCell' = true) vs x.cells.toList := All2.monoMem (fun v hm u hu => ⟨hu.1.simple (List.all_eq_true.1 h5 v hm), hu.2⟩) hx
        have hxl : x.cells.size = sz := by have := hx.length; simp at this; omega
        have hul : us.size = cells.length := by have := hc.length; simp at this; omega
        let us1 := x.cells.zipIdx.foldl (fun cs (c : Value × Nat) => cs.setIfInBounds (off + c.2) c.1) us
        have hus1 : us1.toList = us.toList.take off ++ x.cells.toList ++ us.toList.drop (off + x.cells.toList.length) := by
          have := fold_set off x.cells.toList 0 us (by simp; omega)
          simp only [Nat.add_zero] at this
          rw [← this]
          simp only [us1]
          rw [← Array.foldl_toList]
          simp [Array.toList_zipIdx]
        have hc1 : All2 (fun v u => VRel0 P w Pr vw v u ∧ u.oneCell' = true) (over cells off vs) us1.toList := by rw [hus1]; exact over_ok hc hx0 off
        obtain ⟨us', g1, g2⟩ := fill_ok hp hr hc1 h
        refine ⟨us', ?_, g2⟩
        subst hp
        simp only [Instr.fill, h1]
        rw [if_neg (by simp; omega)]
        exact g1
      · cases h
    · cases h

theorem plainParts_ok (hR : Rel P s a w μ Pr) : ∀ {l : List (Nat × Operand)} {r : List (Nat × V)} {sc sc' : Script}, Hold O s (plainParts l) sc r sc' →
    All2 (fun p q => p.1 = q.1 ∧ VRel P w Pr (view s.blks μ) p.2 q.2) r (l.map fun x => (x.1, a.eval x.2))
  | [], r, sc, sc', h => by obtain ⟨rfl, _⟩ := hold_ret.1 h; trivial
  | (i, x) :: l, r, sc, sc', h => by
    obtain ⟨v, sc1, h1, h2⟩ := hold_bind.1 h
    obtain ⟨vs, sc2, h3, h4⟩ := hold_bind.1 h2
    obtain ⟨rfl, _⟩ := hold_ret.1 h4
    exact ⟨⟨rfl, opd_ok hR h1⟩, plainParts_ok hR h3⟩

theorem buildV_ok {t : TypeId} {parts : List (Nat × V)} {parts' : Array (Nat × Value)} {r : V} (hp : All2 (fun p q => p.1 = q.1 ∧ VRel P w Pr vw p.2 q.2) parts parts'.toList) (h : buildV P t parts = some r) :
    ∃ v, (Instr.build t parts').run P w = .ok v w ∧ VRel P w Pr vw r v := by
  unfold buildV at h
  split at h
  · rename_i z fs hz hu
    obtain ⟨zv, hzr, hza⟩ := zeroC_ok (P := P) (w := w) (Pr := Pr) (vw := vw) hz
    split at h
    · cases h
    · rename_i hall
      simp only [Bool.not_eq_false] at hall
      obtain ⟨cs, hf, rfl⟩ := Option.map_eq_some_iff.1 h
      obtain ⟨ys, hm1, hm2⟩ := run_mapM (P := P) (w := w) (fun f : Field => do pure (f.offset, ← sizeOf f.type)) (fun f => (szOf P f.type).map fun n => (f.offset, n)) fs.toList (fun f hf => by
        have := (Array.all_eq_true_iff_forall_mem.1 hall) f (by simpa using hf)
        cases hs : szOf P f.type with
        | none => simp [hs] at this
        | some n => exact ⟨(f.offset, n), rfl, by simp [run_szOf hs]⟩)
      have hmA : (fs.mapM fun f : Field => (do pure (f.offset, ← sizeOf f.type) : Sem (Nat × Nat))).run P w = .ok ys.toArray w := by
        rw [Array.mapM_eq_mapM_toList, Sem.run_map, hm1]
        rfl
      have hpl : (fun i : Nat => ys.toArray[i]?) = fun i : Nat => (fs[i]?).bind fun f : Field => (szOf P f.type).map fun n => (f.offset, n) := by
        funext i
        rw [List.getElem?_toArray, hm2, Array.getElem?_toList]
      obtain ⟨us, g1, g2⟩ := fill_ok hpl hp hza hf
      refine ⟨.agg us, ?_, by have := mkAgg_ok g2; simpa using this⟩
      simp only [Instr.build, Sem.run_bind, hzr, Result.andThen_ok, run_und hu]
      erw [hmA]
      simp only [Result.andThen_ok, g1, Sem.run_pure]
  · rename_i z n e hz hu
    obtain ⟨zv, hzr, hza⟩ := zeroC_ok (P := P) (w := w) (Pr := Pr) (vw := vw) hz
    split at h
    · rename_i sz hsz
      obtain ⟨cs, hf, rfl⟩ := Option.map_eq_some_iff.1 h
      obtain ⟨us, g1, g2⟩ := fill_ok rfl hp hza hf
      refine ⟨.agg us, ?_, by have := mkAgg_ok g2; simpa using this⟩
      simp only [Instr.build, Sem.run_bind, hzr, Result.andThen_ok, run_und hu, run_szOf hsz, g1, Sem.run_pure]
    · cases h
  · cases h

end Go.Proofs.YtbamhlgkoimjoaaDoor.Ab
/- A list that grows, is written, or is frozen: its other references go. -/
namespace Go.Proofs.YtbamhlgkoimjoaaDoor.Ab
open Go
set_option linter.unusedVariables false
set_option linter.unusedSimpArgs false

variable {P : Program} {O : Orc} {s : St} {sc sc' : Script} {w w' : World} {Pr Pr' : Nat → Prop} {vw vw' : Nat → Option VW} {bl : List B} {μ : List CB} {a : Act}

theorem vwOf_kill (id : Nat) (k : KK) (b : B) (c : CB) : vwOf (killB id k b) c = vwOf b c := by cases b <;> cases c <;> rfl

/-- What must hold of the references that stay. -/
structure KillOk (P : Program) (w : World) (Pr : Nat → Prop) (vw : Nat → Option VW) (w' : World) (Pr' : Nat → Prop) (vw' : Nat → Option VW) (id : Nat) (k : KK) : Prop where
  prm : ∀ b, Pr b → Pr' b
  same : ∀ b, Pr b → w'.heap[b]? = w.heap[b]?
  view : ∀ j, j ≠ id → vw j ≠ none → vw' j = vw j
  lst : ∀ b, vw id ≠ some (.box b)
  frz : ∀ d, k = .frz d → ∀ u, VRel0 P w Pr vw (.arr id) u → DRel w' Pr' d u
  inner : k = .inner → ∀ v u, (∀ j, v ≠ .inn id j) → (∀ j n, v ≠ .iptr id j n) → ids0 v = [id] → VRel0 P w Pr vw v u → VRel0 P w' Pr' vw' v u

theorem kill0_ok {id : Nat} {k : KK} (hk : KillOk P w Pr vw w' Pr' vw' id k) {v : V} {u : Value} (h : VRel0 P w Pr vw v u) : VRel0 P w' Pr' vw' (kill0 id k v) u := by
  have key : (∀ j ∈ ids0 v, j ≠ id) → VRel0 P w' Pr' vw' v u := fun hj => h.mono P hk.prm hk.same (fun j hjm hne => hk.view j (hj j hjm) hne)
  cases v with
  | arr i =>
    simp only [kill0]
    split
    · rename_i hi; subst hi
      cases k with
      | gone => exact trivial
      | frz d => exact hk.frz d rfl u h
      | inner => exact hk.inner rfl _ u (by simp) (by simp) rfl h
    · rename_i hi; exact key (by simpa [ids0] using hi)
  | inn i j =>
    simp only [kill0]
    split
    · exact trivial
    · rename_i hi; exact key (by simpa [ids0] using hi)
  | iptr i j n =>
    simp only [kill0]
    split
    · exact trivial
    · rename_i hi; exact key (by simpa [ids0] using hi)
  | win i l n =>
    simp only [kill0]
    split
    · rename_i hi; subst hi
      cases k with
      | inner => exact hk.inner rfl _ u (by simp) (by simp) rfl h
      | _ => exact trivial
    · rename_i hi; exact key (by simpa [ids0] using hi)
  | eptr i j n =>
    simp only [kill0]
    split
    · rename_i hi; subst hi
      cases k with
      | inner => exact hk.inner rfl _ u (by simp) (by simp) rfl h
      | _ => exact trivial
    · rename_i hi; exact key (by simpa [ids0] using hi)
  | ptr i off =>
    by_cases hi : i = id
    · subst hi; obtain ⟨b, hb, _⟩ := h; exact (hk.lst b hb).elim
    · exact key (by simpa [ids0] using hi)
  | emp b => cases b <;> exact key (by simp [ids0])
  | _ => exact key (by simp [ids0])

theorem kill1_ok {id : Nat} {k : KK} (hk : KillOk P w Pr vw w' Pr' vw' id k) {v : V} {u : Value} (h : VRel1 P w Pr vw v u) : VRel1 P w' Pr' vw' (kill1 id k v) u := by
  have key : VRel0 P w Pr vw v u → VRel0 P w' Pr' vw' (kill0 id k v) u := fun h => kill0_ok hk h
  have hmap : ∀ {cs : List V} {us : List Value} {R : Value → Prop}, All2 (fun c u => VRel0 P w Pr vw c u ∧ R u) cs us → All2 (fun c u => VRel0 P w' Pr' vw' c u ∧ R u) (cs.map (kill0 id k)) us := by
    intro cs
    induction cs with
    | nil => intro us R h; cases us with | nil => trivial | cons _ _ => exact h.elim
    | cons c r ih => intro us R h; cases us with | nil => exact h.elim | cons u us => exact ⟨⟨kill0_ok hk h.1.1, h.1.2⟩, ih h.2⟩
  cases v with
  | agg cs => obtain ⟨us, rfl, h⟩ := h; exact ⟨us, rfl, hmap h⟩
  | iface t x => obtain ⟨y, rfl, h⟩ := h; exact ⟨y, rfl, kill0_ok hk h⟩
  | func f cap =>
    obtain ⟨us, rfl, h⟩ := h
    exact ⟨us, rfl, All2.mono (fun c u hcu => hcu.1) (hmap (R := fun _ => True) (All2.mono (fun c u hcu => ⟨hcu, trivial⟩) h))⟩
  | tup us => exact (show False from h).elim
  | _ => exact (key h).to1

theorem killV_ok {id : Nat} {k : KK} (hk : KillOk P w Pr vw w' Pr' vw' id k) {v : V} {u : Value} (h : VRel P w Pr vw v u) : VRel P w' Pr' vw' (kill1 id k v) u := by
  have key : VRel1 P w Pr vw v u → VRel1 P w' Pr' vw' (kill1 id k v) u := fun h => kill1_ok hk h
  cases v with
  | tup us => exact trivial
  | _ => exact (key h).toV

theorem killB_ok {id : Nat} {k : KK} (hk : KillOk P w Pr vw w' Pr' vw' id k) {b : B} {c : CB} (ho : ∀ j ∈ c.own, w'.heap[j]? = w.heap[j]?) (h : BRel P w Pr vw b c) : BRel P w' Pr' vw' (killB id k b) c := by
  cases b with
  | bx ty cs =>
    cases c with
    | box b =>
      obtain ⟨us, e, h1, ht, h2⟩ := h
      refine ⟨us, e, by rw [ho b (by simp [CB.own])]; exact h1, ht, ?_⟩
      have : ∀ {cs : List V} {us : List Value}, All2 (fun c u => VRel1 P w Pr vw c u ∧ u.oneCell' = true) cs us → All2 (fun c u => VRel1 P w' Pr' vw' c u ∧ u.oneCell' = true) (cs.map (kill1 id k)) us := by
        intro cs
        induction cs with
        | nil => intro us h; cases us with | nil => trivial | cons _ _ => exact h.elim
        | cons c r ih => intro us h; cases us with | nil => exact h.elim | cons u us => exact ⟨⟨kill1_ok hk h.1.1, h.1.2⟩, ih h.2⟩
      exact this h2
    | _ => exact h.elim
  | _ => exact h.mono P hk.prm hk.same ho (by simp [idsB, killB])

theorem nodup_own : ∀ {μ : List CB}, (owns μ).Nodup → ∀ (i j : Nat) (c d : CB), μ[i]? = some c → μ[j]? = some d → i ≠ j → ∀ q, q ∈ c.own → q ∉ d.own
  | [], _, i, j, c, d, hi, _, _, _, _ => by simp at hi
  | x :: r, h, i, j, c, d, hi, hj, hij, q, hq => by
    have h' : (x.own ++ owns r).Nodup := h
    obtain ⟨h1, h2, h3⟩ := List.nodup_append.1 h'
    cases i with
    | zero =>
      simp at hi; subst hi
      cases j with
      | zero => exact (hij rfl).elim
      | succ j => intro hd; exact h3 q hq q (List.mem_flatMap.2 ⟨d, List.mem_of_getElem? (by simpa using hj), hd⟩) rfl
    | succ i =>
      cases j with
      | zero => simp at hj; subst hj; intro hd; exact h3 q hd q (List.mem_flatMap.2 ⟨c, List.mem_of_getElem? (by simpa using hi), hq⟩) rfl
      | succ j => exact nodup_own h2 i j c d (by simpa using hi) (by simpa using hj) (by omega) q hq

theorem view_killSet {id : Nat} {k : KK} {b' : B} {c' : CB} {j : Nat} (hj : j ≠ id) : view ((bl.map (killB id k)).set id b') (μ.set id c') j = view bl μ j := by
  unfold view
  rw [List.getElem?_set, if_neg (fun e => hj e.symm), List.getElem?_set, if_neg (fun e => hj e.symm), List.getElem?_map]
  cases bl[j]? with
  | none => rfl
  | some x => cases μ[j]? with
    | none => rfl
    | some c => simp [vwOf_kill]
theorem view_killSet_self {id : Nat} {k : KK} {b' : B} {c' : CB} (hb : id < bl.length) (hm : id < μ.length) : view ((bl.map (killB id k)).set id b') (μ.set id c') id = vwOf b' c' := by
  unfold view
  rw [List.getElem?_set_self (by simpa using hb), List.getElem?_set_self hm]

/-- A list's block is another; references to it go. -/
theorem Rel.killSet {id : Nat} {k : KK} {b b' : B} {c c' : CB} (h : Rel P s a w μ Pr) (hb : s.blks[id]? = some b) (hc : μ[id]? = some c) (hlst : ∀ q, vwOf b c ≠ some (.box q))
    (hev : Evo (owns μ) Pr w (owns (μ.set id c')) Pr' w') (hoth : ∀ q, q ∈ owns μ → q ∉ c.own → w'.heap[q]? = w.heap[q]?)
    (hfrz : ∀ d, k = .frz d → ∀ u, VRel0 P w Pr (view s.blks μ) (.arr id) u → DRel w' Pr' d u)
    (hin : k = .inner → ∀ v u, (∀ j, v ≠ .inn id j) → (∀ j n, v ≠ .iptr id j n) → ids0 v = [id] → VRel0 P w Pr (view s.blks μ) v u → VRel0 P w' Pr' (view ((s.blks.map (killB id k)).set id b') (μ.set id c')) v u)
    (hB : BRel P w' Pr' (view ((s.blks.map (killB id k)).set id b') (μ.set id c')) b' c')
    (hnd : (owns (μ.set id c')).Nodup) (hlt : ∀ q ∈ owns (μ.set id c'), q < w'.heap.size ∧ ¬ Pr' q) (hpr : ∀ q, Pr' q → q < w'.heap.size) :
    Rel P ⟨s.slots.map (kill1 id k), (s.blks.map (killB id k)).set id b'⟩ a w' (μ.set id c') Pr' := by
  have hpw : ∀ q, Pr q → w'.heap[q]? = w.heap[q]? := fun q hq => hev.block q (h.pr q hq) (fun hm => (h.lt q hm).2 hq)
  have hbl : id < s.blks.length := (List.getElem?_eq_some_iff.1 hb).1
  have hml : id < μ.length := (List.getElem?_eq_some_iff.1 hc).1
  have hK : KillOk P w Pr (view s.blks μ) w' Pr' (view ((s.blks.map (killB id k)).set id b') (μ.set id c')) id k :=
    ⟨hev.prm, hpw, fun j hj _ => view_killSet hj, fun q => by simp only [view, hb, hc]; exact hlst q, hfrz, hin⟩
  refine ⟨⟨by simp [h.mu], fun j x y hx hy => ?_, hnd, hlt, hpr, h.glob.mono hev.prm hpw⟩, h.defers, by simp [h.len], fun n v hv => ?_⟩
  · by_cases hj : j = id
    · subst hj
      rw [List.getElem?_set_self (by simpa using hbl)] at hx
      rw [List.getElem?_set_self hml] at hy
      cases hx; cases hy
      exact hB
    · rw [List.getElem?_set, if_neg (fun e => hj e.symm), List.getElem?_map, Option.map_eq_some_iff] at hx
      rw [List.getElem?_set, if_neg (fun e => hj e.symm)] at hy
      obtain ⟨x0, hx0, rfl⟩ := hx
      refine killB_ok hK (fun q hq => ?_) (h.blks j x0 y hx0 hy)
      have hqo : q ∈ owns μ := List.mem_flatMap.2 ⟨y, List.mem_of_getElem? hy, hq⟩
      refine hoth q hqo (fun hqc => ?_)
      -- q would be owned twice
      exact nodup_own h.nodup j id y c hy hc hj q hq hqc
  · rw [List.getElem?_map, Option.map_eq_some_iff] at hv
    obtain ⟨v0, hv0, rfl⟩ := hv
    exact killV_ok hK (h.slots n v0 hv0)

end Go.Proofs.YtbamhlgkoimjoaaDoor.Ab
/- append. -/
namespace Go.Proofs.YtbamhlgkoimjoaaDoor.Ab
open Go
set_option linter.unusedVariables false
set_option linter.unusedSimpArgs false

variable {P : Program} {O : Orc} {s : St} {sc sc' : Script} {w w' : World} {Pr Pr' : Nat → Prop} {vw vw' : Nat → Option VW} {bl : List B} {μ : List CB} {a : Act}

/-- Memory but for some blocks as it was. -/
structure Same (w w' : World) (S : Nat → Prop) : Prop where
  os : w'.os = w.os
  tape : w'.tape = w.tape
  output : w'.output = w.output
  size : w.heap.size ≤ w'.heap.size
  block : ∀ k, k < w.heap.size → ¬ S k → w'.heap[k]? = w.heap[k]?


/-- 'append' onto a row of the call's own. -/
theorem append_row {t tx ty e : TypeId} {i : TypeInfo} {z : Value} (ht : P.underlying t = some (.slice e)) (hi : P.info? e = some i) (hz : i.zero = some z) (hzs : z.cells.size = i.size) (hsz : 0 < i.size)
    {hh : H} {n m : Nat} {cs news : List Value} {x : Value} (ho : OwnR w e i.size hh n cs) (hcs1 : ∀ u ∈ cs, u.oneCell' = true) (hs : Src P i.size tx x m news w)
    (hm : n + m ≤ maxItems) (hb : maxItems * i.bytes ≤ 140737488355328) :
    ∃ hh' w', (Builtin.append_ #[t, tx] ty #[hdr hh n, x]).run P w = .ok (hdr hh' (n + m)) w' ∧ OwnR w' e i.size hh' (n + m) (cs ++ news) ∧ Same w w' (· ∈ hh.own) ∧
      (hh' = hh ∨ ∃ cap, hh' = .row w.heap.size cap ∧ w.heap.size < w'.heap.size) := by
  have hmi : maxItems = 1099511627776 := by decide
  have hml : maxLen = 9223372036854775807 := by decide
  have hcl : cs.length = n * i.size := by
    cases hh with
    | zero a => rw [ho.1, ho.2]; simp
    | row b cap => exact ho.1
  have hlen : (cs ++ news).length = (n + m) * i.size := by rw [List.length_append, hcl, hs.newsLen, Nat.add_mul]
  have grown : ∀ (old : Nat), old < n + m → ∀ (base : Option Addr) (olds : cs = cs), (Builtin.firstCells i.size n (.slice base n old)).run P w.drew = .ok cs.toArray w.drew →
      ∃ hh' w', (Builtin.append_ #[t, tx] ty #[.slice base n old, x]).run P w = .ok (hdr hh' (n + m)) w' ∧ OwnR w' e i.size hh' (n + m) (cs ++ news) ∧ Same w w' (fun _ => False) ∧
      (∃ cap, hh' = .row w.heap.size cap ∧ w.heap.size < w'.heap.size) := by
    intro old hold base _ hfirst
    have hfit : Builtin.nextslicecap (n + m) old * i.bytes ≤ 281474976710656 := growslice_fits hold (Nat.le_trans (Nat.mul_le_mul_right _ hm) hb)
    have hr := run_append_grow_src (P := P) w t tx ty e i z ht hi hz base n old cs hfirst x m news hs hold (by omega) hfit
    have hge := grownCap_ge w (n + m) old e
    have hcm : grownCap w (n + m) old e ≤ maxLen := grownCap_le_maxLen w (n + m) old e (by omega)
    refine ⟨.row w.heap.size (grownCap w (n + m) old e), _, hr, ⟨hlen, .inr ⟨w.heap.size, _, _, rfl, Nat.zero_le _, heap_alloc_new w.drew _, hge, hcm, ?_, ?_⟩⟩, ⟨rfl, rfl, rfl, by simp, fun k hk _ => heap_alloc_old w.drew _ k hk⟩, _, rfl, by simp⟩
    · simp only [Array.size_append, List.size_toArray, size_zeroCells, hzs, hlen, ← Nat.add_mul]
      congr 1
      omega
    · simp only [Array.toList_append]
      rw [← hlen]
      exact List.take_left
  cases hh with
  | zero q =>
    obtain ⟨rfl, rfl⟩ := ho
    by_cases hm0 : m = 0
    · subst hm0
      have hnews : news = [] := List.eq_nil_of_length_eq_zero (by simpa using hs.newsLen)
      subst hnews
      refine ⟨.zero q, w, ?_, ⟨rfl, rfl⟩, ⟨rfl, rfl, rfl, Nat.le_refl _, fun _ _ _ => rfl⟩, .inl rfl⟩
      rcases hs.kind with ⟨e', hk⟩ | hk <;> cases q <;> simp [Builtin.append_, run_underlying ht, run_underlying hk, sizeOf, typeInfo, hi, hs.len, hs.cells, hdr, storeCells]
    · obtain ⟨hh', w', h1, h2, h3, h4⟩ := grown 0 (by omega) q rfl (by cases q <;> simp [Builtin.firstCells, loadCells, loadCellsFrom])
      exact ⟨hh', w', h1, h2, ⟨h3.os, h3.tape, h3.output, h3.size, fun k hk _ => h3.block k hk id⟩, .inr h4⟩
  | row g cap =>
    rcases ho.2 with ⟨hv, _⟩ | ⟨g', cap', cur, hv, hbg, hg, hnc, hcm, hcz, htake⟩
    · simp at hv
    · simp at hv
      obtain ⟨rfl, rfl⟩ := hv
      by_cases hroom : n + m ≤ cap
      · have hfit : n * i.size + 0 + news.length ≤ cur.size := by rw [hs.newsLen, hcz, Nat.add_zero, ← Nat.add_mul]; exact Nat.mul_le_mul_right _ hroom
        have hst := run_storeCells_at P g (n * i.size) e news 0 cur w hg hfit hs.one
        simp only [Nat.add_zero] at hst hfit
        refine ⟨.row g cap, w.setRow g (cur.toList.take (n * i.size) ++ news ++ cur.toList.drop (n * i.size + news.length)).toArray, ?_, ⟨hlen, .inr ⟨g, cap, _, rfl, hbg, setRow_heap w g cur _ e _ hg, hroom, hcm, ?_, ?_⟩⟩, ⟨rfl, rfl, rfl, by simp, fun k hk hS => setRow_other w g k _ (fun e => hS (by simp [H.own, e]))⟩, .inl rfl⟩
        · rcases hs.kind with ⟨e', hk⟩ | hk <;> simp [Builtin.append_, run_underlying ht, run_underlying hk, sizeOf, typeInfo, hi, hs.len, hroom, hs.cells, Addr.add_lit, hst, hdr]
        · simp only [List.size_toArray, List.length_append, List.length_take, List.length_drop, Array.length_toList]
          omega
        · rw [htake, ← hlen]
          exact List.take_left
      · have hfirst : (Builtin.firstCells i.size n (.slice (some ⟨g, 0, none⟩) n cap)).run P w.drew = .ok cs.toArray w.drew := by
          refine run_firstCells_some w.drew i.size n ⟨g, 0, none⟩ n cap cs ho.1 (fun j v hj => ?_)
          have := World.ownsRow.cells ho (g := g) rfl j v hj
          simpa using this
        obtain ⟨hh', w', h1, h2, h3, h4⟩ := grown cap (by omega) _ rfl hfirst
        exact ⟨hh', w', h1, h2, ⟨h3.os, h3.tape, h3.output, h3.size, fun k hk _ => h3.block k hk id⟩, .inr h4⟩

/-- Elements read in line. -/
theorem flat_reads {wd b o : Nat} {ys : List D} (h : Reads w Pr wd ys b o) : ∃ news : List Value, news.length = ys.length * wd ∧ (∀ j v, news[j]? = some v → w.cell? ⟨b, o + j, none⟩ = some v) ∧ (∀ u ∈ news, u.oneCell' = true) ∧
    ∀ i y, ys[i]? = some y → ∀ j d, y.cells[j]? = some d → ∃ u, news[i * wd + j]? = some u ∧ DRel w Pr d u := by
  have hcell : ∀ k, k < ys.length * wd → ∃ u, w.cell? ⟨b, o + k, none⟩ = some u ∧ u.oneCell' = true := by
    intro k hk
    have hwd : 0 < wd := by rcases Nat.eq_zero_or_pos wd with h0 | h0; rw [h0] at hk; simp at hk; exact h0
    have hi : k / wd < ys.length := (Nat.div_lt_iff_lt_mul hwd).2 hk
    have hj : k % wd < wd := Nat.mod_lt _ hwd
    have hl := h.1 (k / wd) ys[k / wd] (List.getElem?_eq_getElem hi)
    obtain ⟨u, h1, h2, _⟩ := h.2 (k / wd) ys[k / wd] (k % wd) (ys[k / wd].cells[k % wd]'(by omega)) (List.getElem?_eq_getElem hi) (List.getElem?_eq_getElem _)
    refine ⟨u, ?_, h2⟩
    rw [← h1]; congr 2
    have := Nat.div_add_mod' k wd
    omega
  let f : Nat → Value := fun k => (w.cell? ⟨b, o + k, none⟩).getD undef
  have hf : ∀ k, k < ys.length * wd → ((List.range (ys.length * wd)).map f)[k]? = some (f k) := by
    intro k hk; simp [hk]
  refine ⟨(List.range (ys.length * wd)).map f, by simp, fun j v hj => ?_, fun u hu => ?_, fun i y hy j d hd => ?_⟩
  · have hlt : j < ys.length * wd := by have := (List.getElem?_eq_some_iff.1 hj).1; simpa using this
    rw [hf j hlt] at hj
    obtain ⟨u, h1, _⟩ := hcell j hlt
    simp only [f, h1, Option.getD_some, Option.some.injEq] at hj
    rw [h1, hj]
  · obtain ⟨k, hk, rfl⟩ := List.mem_map.1 hu
    obtain ⟨u, h1, h2⟩ := hcell k (by simpa using hk)
    simp only [f, h1, Option.getD_some]
    exact h2
  · obtain ⟨u, h1, _, h3⟩ := h.2 i y j d hy hd
    have hil : i < ys.length := (List.getElem?_eq_some_iff.1 hy).1
    have hjl : j < wd := by rw [← h.1 i y hy]; exact (List.getElem?_eq_some_iff.1 hd).1
    have hlt : i * wd + j < ys.length * wd := by
      have : (i + 1) * wd ≤ ys.length * wd := Nat.mul_le_mul_right _ hil
      rw [Nat.add_mul] at this; omega
    refine ⟨u, ?_, h3⟩
    rw [hf _ hlt]
    have e1 : o + (i * wd + j) = o + i * wd + j := by omega
    simp only [f, e1, h1, Option.getD_some]

/-- What is appended, as the model reads it. -/
theorem src_of_items (hS : SRel P s.blks w μ Pr) {v : V} {x : Value} {ys : List D} {tx : TypeId} {sz : Nat} (hk : (∃ e', P.underlying tx = some (.slice e')) ∨ P.underlying tx = some .string)
    (hv : VRel P w Pr (view s.blks μ) v x) (h : Hold O s (items v) sc ys sc') (hw : ∀ y ∈ ys, y.cells.length = sz) (hsz : 0 < sz) :
    ∃ news, Src P sz tx x ys.length news w ∧ ∀ i y, ys[i]? = some y → y.cells.length = sz ∧ ∀ j d, y.cells[j]? = some d → ∃ u, news[i * sz + j]? = some u ∧ DRel w Pr d u := by
  have hv0 := items_simple hv h
  rcases items_ok hS hv0 h with ⟨q, rfl, rfl⟩ | ⟨base, cap, rfl, hor⟩
  · have hl : (q.data.toList.map u8).length = q.size := by simp
    have hsz1 : q.size ≠ 0 → sz = 1 := by
      intro hq
      cases hd : q.data.toList with
      | nil => have := hl; simp [hd] at this; omega
      | cons b r => have := hw (u8 b) (by simp [hd]); simpa [u8, D.cells] using this.symm
    refine ⟨byteCells q, ⟨hk, fun w' => by simp [Builtin.lenOf], ?_, ?_, ?_, fun u hu => by obtain ⟨_, _, rfl⟩ := List.mem_map.1 hu; rfl⟩, fun i y hy => ⟨hw y (List.mem_of_getElem? hy), fun j d hd => ?_⟩⟩
    · rw [hl]
      simp [Builtin.firstCells, byteCells]
      apply Array.ext'
      simp
    · rw [hl]
      simp [Builtin.firstCells, byteCells]
      apply Array.ext'
      simp
    · rw [hl, byteCells_length]
      by_cases hq : q.size = 0
      · simp [hq]
      · rw [hsz1 hq, Nat.mul_one]
    · rw [List.getElem?_map, Option.map_eq_some_iff] at hy
      obtain ⟨b, hb, rfl⟩ := hy
      have hq : q.size ≠ 0 := by have := (List.getElem?_eq_some_iff.1 hb).1; simp at this; omega
      obtain rfl := hsz1 hq
      cases j with
      | zero =>
        simp [u8, D.cells] at hd
        subst hd
        exact ⟨.int .u8 b.toNat, by simp [byteCells, hb], .int _ _⟩
      | succ j => simp [u8, D.cells] at hd
  · rcases hor with rfl | ⟨b, o, wd, rfl, hr⟩
    · refine ⟨[], ⟨hk, fun _ => rfl, ?_, ?_, by simp, by simp⟩, by simp⟩ <;> cases base <;> simp [Builtin.firstCells, loadCells, loadCellsFrom]
    · obtain ⟨news, h1, h2, h3, h4⟩ := flat_reads hr
      by_cases hys : ys = []
      · subst hys
        refine ⟨[], ⟨hk, fun _ => rfl, ?_, ?_, by simp, by simp⟩, by simp⟩ <;> simp [Builtin.firstCells, loadCells, loadCellsFrom]
      · have hwd : wd = sz := by
          obtain ⟨y, r, rfl⟩ := List.exists_cons_of_ne_nil hys
          rw [← hr.1 0 y rfl, hw y (List.mem_cons_self ..)]
        subst hwd
        have hc : ∀ j v, news[j]? = some v → w.cell? ((⟨b, o, none⟩ : Addr).add j) = some v := fun j v hj => by rw [Addr.add_mid]; exact h2 j v hj
        refine ⟨news, ⟨hk, fun _ => rfl, run_firstCells_some w wd _ _ _ _ news h1 hc, run_firstCells_some w.drew wd _ _ _ _ news h1 (by simpa using hc), h1, h3⟩, fun i y hy => ⟨hr.1 i y hy, h4 i y hy⟩⟩

end Go.Proofs.YtbamhlgkoimjoaaDoor.Ab
/- Lists that grow, as operations. -/
namespace Go.Proofs.YtbamhlgkoimjoaaDoor.Ab
open Go
set_option linter.unusedVariables false
set_option linter.unusedSimpArgs false

variable {P : Program} {O : Orc} {s : St} {sc sc' : Script} {w w' : World} {Pr Pr' : Nat → Prop} {vw vw' : Nat → Option VW} {bl : List B} {μ : List CB} {a : Act}

theorem own_nodup {i : Nat} {c : CB} (h : (owns μ).Nodup) (hc : μ[i]? = some c) : c.own.Nodup := by
  induction μ generalizing i with
  | nil => simp at hc
  | cons x r ih =>
    obtain ⟨h1, h2, h3⟩ := List.nodup_append.1 (show (x.own ++ owns r).Nodup from h)
    cases i with
    | zero => simp at hc; subst hc; exact h1
    | succ i => exact ih h2 (by simpa using hc)

theorem mem_owns_set : ∀ {μ : List CB} {id : Nat} {c' : CB} {q : Nat}, q ∈ owns (μ.set id c') → q ∈ c'.own ∨ ∃ j d, j ≠ id ∧ μ[j]? = some d ∧ q ∈ d.own := by
  intro μ id c' q hq
  obtain ⟨d, hd, hqd⟩ := List.mem_flatMap.1 hq
  obtain ⟨j, hj⟩ := List.getElem?_of_mem hd
  by_cases hji : j = id
  · subst hji
    have hlt : j < μ.length := by have := (List.getElem?_eq_some_iff.1 hj).1; simpa using this
    rw [List.getElem?_set_self hlt] at hj
    cases hj; exact .inl hqd
  · rw [List.getElem?_set, if_neg (fun e => hji e.symm)] at hj
    exact .inr ⟨j, d, hji, hj, hqd⟩

theorem nodup_owns_set : ∀ {μ : List CB} {id : Nat} {c c' : CB}, (owns μ).Nodup → μ[id]? = some c → c'.own.Nodup → (∀ q ∈ c'.own, q ∈ c.own ∨ q ∉ owns μ) → (owns (μ.set id c')).Nodup
  | [], id, c, c', _, hc, _, _ => by simp at hc
  | x :: r, 0, c, c', h, hc, hnd, hq => by
    simp at hc; subst hc
    have h' : (x.own ++ owns r).Nodup := h
    obtain ⟨h1, h2, h3⟩ := List.nodup_append.1 h'
    show (c'.own ++ owns r).Nodup
    refine List.nodup_append.2 ⟨hnd, h2, fun p hp p' hp' e => ?_⟩
    subst e
    rcases hq p hp with hx | hx
    · exact h3 p hx p hp' rfl
    · exact hx (List.mem_append.2 (.inr hp'))
  | x :: r, id + 1, c, c', h, hc, hnd, hq => by
    have h' : (x.own ++ owns r).Nodup := h
    obtain ⟨h1, h2, h3⟩ := List.nodup_append.1 h'
    have hc' : r[id]? = some c := by simpa using hc
    have ih := nodup_owns_set (μ := r) (id := id) h2 hc' hnd (fun q hqm => (hq q hqm).imp_right fun hn hm => hn (List.mem_append.2 (.inr hm)))
    show (x.own ++ owns (r.set id c')).Nodup
    refine List.nodup_append.2 ⟨h1, ih, fun p hp p' hp' e => ?_⟩
    subst e
    rcases mem_owns_set hp' with hx | ⟨j, d, _, hd, hpd⟩
    · rcases hq p hx with hy | hy
      · exact h3 p hp p (List.mem_flatMap.2 ⟨c, List.mem_of_getElem? hc', hy⟩) rfl
      · exact hy (List.mem_append.2 (.inl hp))
    · exact h3 p hp p (List.mem_flatMap.2 ⟨d, List.mem_of_getElem? hd, hpd⟩) rfl

/-- A list's block is another one; its other references go. -/
theorem Rel.setList {id : Nat} {k : KK} {b b' : B} {c c' : CB} (h : Rel P s a w μ Pr) (hb : s.blks[id]? = some b) (hc : μ[id]? = some c) (hlst : ∀ q, vwOf b c ≠ some (.box q)) (hk : ∀ d, k ≠ .frz d)
    (hS : Same w w' (· ∈ c.own)) (hnd : c'.own.Nodup) (hown : ∀ q ∈ c'.own, q ∈ c.own ∨ (w.heap.size ≤ q ∧ q < w'.heap.size))
    (hin : k = .inner → ∀ v u, (∀ j, v ≠ .inn id j) → (∀ j n, v ≠ .iptr id j n) → ids0 v = [id] → VRel0 P w Pr (view s.blks μ) v u → VRel0 P w' Pr (view ((s.blks.map (killB id k)).set id b') (μ.set id c')) v u)
    (hB : BRel P w' Pr (view ((s.blks.map (killB id k)).set id b') (μ.set id c')) b' c') :
    Rel P ⟨s.slots.map (kill1 id k), (s.blks.map (killB id k)).set id b'⟩ a w' (μ.set id c') Pr ∧ Evo (owns μ) Pr w (owns (μ.set id c')) Pr w' := by
  have hco : ∀ q ∈ c.own, q ∈ owns μ := fun q hq => List.mem_flatMap.2 ⟨c, List.mem_of_getElem? hc, hq⟩
  have hev : Evo (owns μ) Pr w (owns (μ.set id c')) Pr w' := by
    refine ⟨hS.os, hS.tape, hS.output, hS.size, fun q hq hno => hS.block q hq (fun hm => hno (hco q hm)), fun q hq => ?_, fun _ h => h, fun _ h => .inl h⟩
    rcases mem_owns_set hq with h1 | ⟨j, d, _, hd, hqd⟩
    · rcases hown q h1 with h2 | h2
      · exact .inl (hco q h2)
      · exact .inr h2.1
    · exact .inl (List.mem_flatMap.2 ⟨d, List.mem_of_getElem? hd, hqd⟩)
  refine ⟨h.killSet hb hc hlst hev (fun q hq hqc => hS.block q (h.lt q hq).1 hqc) (fun d hd => (hk d hd).elim) hin hB (nodup_owns_set h.nodup hc hnd fun q hq => (hown q hq).imp_right fun h2 hm => by have := (h.lt q hm).1; omega) (fun q hq => ?_) (fun q hq => Nat.lt_of_lt_of_le (h.pr q hq) hS.size), hev⟩
  rcases mem_owns_set hq with h1 | ⟨j, d, _, hd, hqd⟩
  · rcases hown q h1 with h2 | h2
    · exact ⟨Nat.lt_of_lt_of_le (h.lt q (hco q h2)).1 hS.size, (h.lt q (hco q h2)).2⟩
    · exact ⟨h2.2, fun hp => by have := h.pr q hp; omega⟩
  · have := h.lt q (List.mem_flatMap.2 ⟨d, List.mem_of_getElem? hd, hqd⟩)
    exact ⟨Nat.lt_of_lt_of_le this.1 hS.size, this.2⟩

/-! ### append -/

/-- The type of a list's elements is one that the laws on rows take. -/
theorem rowOk_ok {e : TypeId} (h : rowOk P e = true) : ∃ i z, P.info? e = some i ∧ i.zero = some z ∧ z.cells.size = i.size ∧ 0 < i.size ∧ szOf P e = some i.size ∧ maxItems * i.bytes ≤ 140737488355328 := by
  unfold rowOk at h
  split at h
  · rename_i i hi
    split at h
    · rename_i z hz
      simp only [Bool.and_eq_true, beq_iff_eq, decide_eq_true_eq] at h
      refine ⟨i, z, hi, hz, h.1.1, h.1.2, by simp [szOf, hi], ?_⟩
      have hmi : maxItems = 1099511627776 := by decide
      rw [hmi]
      omega
    · cases h
  · cases h

theorem rows_append {wd : Nat} {xs ys : List D} {cs news : List Value} (hl : cs.length = xs.length * wd) (h : Rows' w Pr wd xs cs) (h1 : ∀ u ∈ news, u.oneCell' = true)
    (h2 : ∀ i y, ys[i]? = some y → y.cells.length = wd ∧ ∀ j d, y.cells[j]? = some d → ∃ u, news[i * wd + j]? = some u ∧ DRel w Pr d u) : Rows' w Pr wd (xs ++ ys) (cs ++ news) := by
  refine ⟨fun u hu => (List.mem_append.1 hu).elim (h.1 u) (h1 u), fun i x hx => ?_⟩
  by_cases hi : i < xs.length
  · rw [List.getElem?_append_left hi] at hx
    obtain ⟨g1, g2⟩ := h.2 i x hx
    refine ⟨g1, fun j y hy => ?_⟩
    obtain ⟨u, g3, g4⟩ := g2 j y hy
    refine ⟨u, ?_, g4⟩
    rw [List.getElem?_append_left (by have := (List.getElem?_eq_some_iff.1 g3).1; exact this)]
    exact g3
  · rw [List.getElem?_append_right (by omega)] at hx
    obtain ⟨g1, g2⟩ := h2 _ x hx
    refine ⟨g1, fun j y hy => ?_⟩
    obtain ⟨u, g3, g4⟩ := g2 j y hy
    refine ⟨u, ?_, g4⟩
    have e1 : i * wd + j = cs.length + ((i - xs.length) * wd + j) := by
      rw [hl, ← Nat.add_assoc, ← Nat.add_mul]
      congr 2
      omega
    rw [e1, List.getElem?_append_right (by omega)]
    simpa using g3

theorem rows_nil (wd : Nat) : Rows' w Pr wd [] [] := ⟨by simp, by simp⟩

theorem roomQ_ok {α : Type} {n : Nat} {k : Q α} {r : α} (h : Hold O s (roomQ n k) sc r sc') : n ≤ maxItems ∧ ∃ sc1, Hold O s k sc1 r sc' := by
  unfold roomQ at h
  rw [hold_pop] at h
  rcases h with ⟨_, h⟩ | ⟨it, u, _, h⟩
  · simp only at h
    split at h
    · rename_i hc; exact ⟨hc, _, h⟩
    · exact (hold_fail.1 h).elim
  · obtain ⟨h1, h2⟩ := hold_req.1 h; exact ⟨h1, _, h2⟩

theorem roomE_ok {α : Type} {n : Nat} {k1 k : Q α} {r : α} (h : Hold O s (roomE n k1 k) sc r sc') : n ≤ maxItems ∧ ∃ sc1, Hold O s k1 sc1 r sc' ∨ Hold O s k sc1 r sc' := by
  unfold roomE at h
  rw [hold_pop] at h
  rcases h with ⟨_, h⟩ | ⟨it, u, _, h⟩
  · simp only at h
    split at h
    · rename_i hc; exact ⟨hc, _, .inr h⟩
    · exact (hold_fail.1 h).elim
  · split at h
    · obtain ⟨h1, h2⟩ := hold_req.1 h; exact ⟨h1, _, .inl h2⟩
    · obtain ⟨h1, h2⟩ := hold_req.1 h; exact ⟨h1, _, .inr h2⟩
    · rename_i he; cases he

theorem fitQ_ok {α : Type} {p : Prop} [Decidable p] {k : Q α} {r : α} (h : Hold O s (fitQ p k) sc r sc') : p ∧ ∃ sc1, Hold O s k sc1 r sc' := by
  unfold fitQ at h
  rw [hold_pop] at h
  rcases h with ⟨_, h⟩ | ⟨it, u, _, h⟩
  · simp only at h
    split at h
    · rename_i hc; exact ⟨hc, _, h⟩
    · exact (hold_fail.1 h).elim
  · obtain ⟨h1, h2⟩ := hold_req.1 h; exact ⟨h1, _, h2⟩

theorem ownR_len {e wd n : Nat} {h : H} {cs : List Value} (ho : OwnR w e wd h n cs) : cs.length = n * wd := by
  cases h with
  | zero a => rw [ho.1, ho.2]; simp
  | row b cap => exact ho.1

theorem H.own_nodup (h : H) : h.own.Nodup := by cases h <;> simp [H.own]

end Go.Proofs.YtbamhlgkoimjoaaDoor.Ab
/- append, as an operation. -/
namespace Go.Proofs.YtbamhlgkoimjoaaDoor.Ab
open Go
set_option linter.unusedVariables false
set_option linter.unusedSimpArgs false

variable {P : Program} {O : Orc} {s : St} {sc sc' : Script} {w w' : World} {Pr Pr' : Nat → Prop} {vw vw' : Nat → Option VW} {bl : List B} {μ : List CB} {a : Act}

theorem Same.pr {S : Nat → Prop} (hS : Same w w' S) (hlt : ∀ b, Pr b → b < w.heap.size) (hn : ∀ b, S b → ¬ Pr b) : ∀ b, Pr b → w'.heap[b]? = w.heap[b]? := fun b hb => hS.block b (hlt b hb) (fun h => hn b h hb)

theorem exec_append {o : Oper} {xo yo : Operand} {sT xT : TypeId} {r : Value} (ho : o.op = .call { callee := .builtin .append, args := #[xo, yo], argTypes := #[sT, xT] })
    (h : (Builtin.append_ #[sT, xT] o.type #[a.eval xo, a.eval yo]).run P w = .ok r w') : (execOp a.eval o).run P w = .ok (.value r) w' := by
  simp only [execOp, ho, resolve, invoke, builtin, Sem.run_bind, Sem.run_pure, Result.andThen_ok, List.map_toArray, List.map_cons, List.map_nil, h]

/-- A block that nobody owns becomes a list's. -/
theorem SRel.adopt (h : SRel P bl w μ Pr) {b : B} {c : CB} (hnd : c.own.Nodup) (hown : ∀ k ∈ c.own, k ∉ owns μ ∧ ¬ Pr k ∧ k < w.heap.size) (hB : BRel P w Pr (view (bl ++ [b]) (μ ++ [c])) b c) :
    SRel P (bl ++ [b]) w (μ ++ [c]) Pr := by
  refine ⟨by simp [h.mu], fun id x y hx hy => ?_, ?_, fun k hk => ?_, h.pr, h.glob⟩
  · by_cases hid : id < bl.length
    · rw [List.getElem?_append_left hid] at hx
      rw [List.getElem?_append_left (by rw [h.mu]; exact hid)] at hy
      exact (h.blks id x y hx hy).mono P (fun _ h => h) (fun k hk => rfl) (fun k hk => rfl) (fun i _ hne => view_push h.mu hne)
    · have hid2 : id = bl.length := by
        have := (List.getElem?_eq_some_iff.1 hx).1; simp at this; omega
      subst hid2
      rw [List.getElem?_append_right (Nat.le_refl _)] at hx
      rw [List.getElem?_append_right (by rw [h.mu]; exact Nat.le_refl _)] at hy
      simp [h.mu] at hx hy
      subst hx; subst hy
      exact hB
  · rw [owns_append, owns_one, List.nodup_append]
    exact ⟨h.nodup, hnd, fun x hx y hy hxy => by subst hxy; exact (hown x hy).1 hx⟩
  · rw [owns_append, owns_one] at hk
    rcases List.mem_append.1 hk with hk | hk
    · exact h.lt k hk
    · exact ⟨(hown k hk).2.2, (hown k hk).2.1⟩

theorem apply_kill1 (s : St) (dst : Option Nat) (v : V) (id : Nat) (k : KK) (b : B) (hb : id < s.blks.length) :
    ({ putP dst v with bsets := [(id, b)], kill := [(id, k)] } : Patch).apply s = setSlot ⟨s.slots.map (kill1 id k), (s.blks.map (killB id k)).set id b⟩ dst v := by
  cases dst <;> simp [putP, Patch.apply, setAll, modAll, setSlot, St.kill]

theorem emp_val {b : Bool} {v : Value} (h : VRel P w Pr vw (.emp b) v) : ∃ q, v = hdr (.zero q) 0 := by
  cases b
  · obtain ⟨q, hq⟩ := h; exact ⟨q, hq⟩
  · exact ⟨none, h⟩

theorem ownR_cut {e wd n m : Nat} {h : H} {cs : List Value} (ho : OwnR w e wd h n cs) (hm : m ≤ n) : OwnR w e wd h m (cs.take (m * wd)) := by
  cases h with
  | zero a => obtain ⟨rfl, rfl⟩ := ho; exact ⟨by omega, by simp⟩
  | row b cap =>
    have hle : m * wd ≤ n * wd := Nat.mul_le_mul_right _ hm
    refine ⟨by rw [List.length_take, ho.1]; omega, ?_⟩
    rcases ho.2 with ⟨hv, _⟩ | ⟨g, c, cur, hv, hbg, hg, hnc, hcm, hcz, htake⟩
    · simp at hv
    · simp at hv
      obtain ⟨rfl, rfl⟩ := hv
      refine .inr ⟨b, cap, cur, rfl, hbg, hg, by omega, hcm, hcz, ?_⟩
      rw [← htake, List.take_take, Nat.min_eq_left hle]

theorem rows_cut {wd : Nat} {xs : List D} {cs : List Value} (h : Rows' w Pr wd xs cs) (m : Nat) : Rows' w Pr wd (xs.take m) (cs.take (m * wd)) := by
  refine ⟨fun u hu => h.1 u (List.mem_of_mem_take hu), fun i x hx => ?_⟩
  rw [List.getElem?_take] at hx
  split at hx
  · rename_i him
    obtain ⟨h1, h2⟩ := h.2 i x hx
    refine ⟨h1, fun j y hy => ?_⟩
    obtain ⟨u, g1, g2⟩ := h2 j y hy
    have hj : j < wd := by rw [← h1]; exact (List.getElem?_eq_some_iff.1 hy).1
    have : (i + 1) * wd ≤ m * wd := Nat.mul_le_mul_right _ him
    rw [Nat.add_mul] at this
    exact ⟨u, by rw [List.getElem?_take_of_lt (by omega)]; exact g1, g2⟩
  · cases hx

theorem goes_appendTo {o : Oper} {xo yo : Operand} {sT xT e : TypeId} {id n : Nat} {xs ys : List D} {i : TypeInfo} {z : Value} {news cs : List Value} {hh : H} {Q : Exit → Act → World → Prop} (hR : Rel P s a w μ Pr)
    (ho : o.op = .call { callee := .builtin .append, args := #[xo, yo], argTypes := #[sT, xT] }) (he : elemOf P sT = some e) (hi : P.info? e = some i) (hiz : i.zero = some z) (hzs : z.cells.size = i.size) (hsz : 0 < i.size)
    (hz : szOf P e = some i.size) (hbytes : maxItems * i.bytes ≤ 140737488355328) (hsrc : Src P i.size xT (a.eval yo) ys.length news w)
    (hnews : ∀ k y, ys[k]? = some y → y.cells.length = i.size ∧ ∀ j d, y.cells[j]? = some d → ∃ u, news[k * i.size + j]? = some u ∧ DRel w Pr d u)
    (hbs : s.blks[id]? = some (.lst e xs)) (hn : n ≤ xs.length) (g1 : μ[id]? = some (.lst hh)) (g4 : OwnR w e i.size hh xs.length cs) (g5 : Rows' w Pr i.size xs cs) (k2 : a.eval xo = hdr hh n) (hm : n + ys.length ≤ maxItems) :
    o.wp P a w (After P (({ putP o.dst (.arr id) with bsets := [(id, .lst e (xs.take n ++ ys))], kill := [(id, .gone)] } : Patch).apply s) μ Pr w) Q := by
  have g4' := ownR_cut g4 hn
  have g5' := rows_cut g5 n
  have hxl : (xs.take n).length = n := by rw [List.length_take]; omega
  obtain ⟨hh', w', hrun, hown, hS, hor⟩ := append_row (ty := o.type) (elemOf_und he) hi hiz hzs hsz g4' g5'.1 hsrc hm hbytes
  rw [← k2] at hrun
  have hnp : ∀ b, b ∈ hh.own → ¬ Pr b := fun b hb => (hR.lt b (List.mem_flatMap.2 ⟨_, List.mem_of_getElem? g1, hb⟩)).2
  have hpw : ∀ b, Pr b → w'.heap[b]? = w.heap[b]? := hS.pr hR.pr hnp
  have hlt := (List.getElem?_eq_some_iff.1 hbs).1
  have hmt : id < μ.length := (List.getElem?_eq_some_iff.1 g1).1
  have hl : (xs.take n ++ ys).length = n + ys.length := by rw [List.length_append, hxl]
  have key := hR.setList (k := .gone) (b' := .lst e (xs.take n ++ ys)) (c' := .lst hh') hbs g1 (by simp [vwOf]) (by simp) hS hh'.own_nodup (fun q hq => by
    rcases hor with rfl | ⟨cap, rfl, hlt⟩
    · exact .inl hq
    · simp [CB.own, H.own] at hq; exact .inr (by omega)) (by simp)
    ⟨i.size, cs.take (n * i.size) ++ news, hz, by rw [hl]; exact hown, rows_append (by rw [hxl]; exact ownR_len g4') (g5'.mono (fun _ h => h) hpw) hsrc.one (fun k y hy => ⟨(hnews k y hy).1, fun j d hd => by
      obtain ⟨u, q1, q2⟩ := (hnews k y hy).2 j d hd
      exact ⟨u, q1, q2.mono (fun _ h => h) hpw⟩⟩)⟩
  unfold Oper.wp
  rw [exec_append ho hrun]
  refine ⟨_, Pr, ?_, key.2, .set g1 (by simp)⟩
  rw [apply_kill1 _ _ _ _ _ _ hlt]
  exact key.1.setSlot P _ (show VRel0 P w' Pr _ (.arr id) _ from .inl ⟨_, _, hh', view_killSet_self hlt hmt, by rw [hl]⟩)

/-- The list of lists without one of them. -/
theorem lst2_own_set {b cap : Nat} {inner : List H} {i : Nat} : ∀ q ∈ (CB.lst2 b cap (inner.set i (.zero none))).own, q ∈ (CB.lst2 b cap inner).own := by
  intro q hq
  simp only [CB.own, List.mem_cons, List.mem_flatMap] at hq ⊢
  refine hq.imp_right fun ⟨h, hh, hq⟩ => ?_
  rcases List.mem_or_eq_of_mem_set hh with h1 | rfl
  · exact ⟨h, h1, hq⟩
  · simp [H.own] at hq

theorem flat_set_nodup {i : Nat} {h0 : H} (h1 : H) : ∀ {inner : List H} {i : Nat}, (inner.flatMap H.own).Nodup → inner[i]? = some h0 → h1.own.Nodup → (∀ q ∈ h1.own, q ∈ h0.own ∨ q ∉ inner.flatMap H.own) → ((inner.set i h1).flatMap H.own).Nodup
  | [], i, _, hi, _, _ => by simp at hi
  | x :: r, 0, h, hi, hn, hq => by
    simp at hi; subst hi
    rw [List.flatMap_cons, List.nodup_append] at h
    show ((h1 :: r).flatMap H.own).Nodup
    rw [List.flatMap_cons, List.nodup_append]
    refine ⟨hn, h.2.1, fun p hp p' hp' e => ?_⟩
    subst e
    rcases hq p hp with h2 | h2
    · exact h.2.2 p h2 p hp' rfl
    · exact h2 (by rw [List.flatMap_cons]; exact List.mem_append_right _ hp')
  | x :: r, i + 1, h, hi, hn, hq => by
    rw [List.flatMap_cons, List.nodup_append] at h
    show ((x :: r.set i h1).flatMap H.own).Nodup
    rw [List.flatMap_cons, List.nodup_append]
    refine ⟨h.1, flat_set_nodup (i := i) h1 h.2.1 (by simpa using hi) hn (fun q hq1 => (hq q hq1).imp_right fun h2 h3 => h2 (by rw [List.flatMap_cons]; exact List.mem_append_right _ h3)), fun p hp p' hp' e => ?_⟩
    subst e
    obtain ⟨y, hy, hpy⟩ := List.mem_flatMap.1 hp'
    rcases List.mem_or_eq_of_mem_set hy with h2 | rfl
    · exact h.2.2 p hp p (List.mem_flatMap.2 ⟨y, h2, hpy⟩) rfl
    · rcases hq p hpy with h2 | h2
      · exact h.2.2 p hp p (List.mem_flatMap.2 ⟨h0, List.mem_of_getElem? (by simpa using hi), h2⟩) rfl
      · exact h2 (by rw [List.flatMap_cons]; exact List.mem_append_left _ hp)

theorem flat_apart : ∀ {inner : List H} {i j : Nat} {h1 h2 : H}, (inner.flatMap H.own).Nodup → i ≠ j → inner[i]? = some h1 → inner[j]? = some h2 → ∀ q ∈ h1.own, q ∉ h2.own
  | [], i, j, _, _, _, _, hi, _ => by simp at hi
  | x :: r, i, j, h1, h2, h, hij, hi, hj => by
    rw [List.flatMap_cons, List.nodup_append] at h
    intro q hq hq2
    cases i with
    | zero =>
      simp at hi; subst hi
      cases j with
      | zero => exact hij rfl
      | succ j => exact h.2.2 q hq q (List.mem_flatMap.2 ⟨h2, List.mem_of_getElem? (by simpa using hj), hq2⟩) rfl
    | succ i =>
      cases j with
      | zero => simp at hj; subst hj; exact h.2.2 q hq2 q (List.mem_flatMap.2 ⟨h1, List.mem_of_getElem? (by simpa using hi), hq⟩) rfl
      | succ j => exact flat_apart (i := i) (j := j) h.2.1 (by omega) (by simpa using hi) (by simpa using hj) q hq hq2

/-- References that stay when an inner list goes. -/
theorem inner_stay {id st b cap : Nat} {lens lens' : List (Option Nat)} {inner inner' : List H} {vw vw' : Nat → Option VW} (h1 : vw id = some (.lst2 st lens b cap inner)) (h2 : vw' id = some (.lst2 st lens' b cap inner')) (hl : lens'.length = lens.length) :
    ∀ v u, (∀ j, v ≠ .inn id j) → (∀ j n, v ≠ .iptr id j n) → ids0 v = [id] → VRel0 P w Pr vw v u → VRel0 P w' Pr' vw' v u := by
  intro v u n1 n2 hi h
  cases v <;> simp only [ids0] at hi <;> first | (cases hi; done) | skip
  · obtain rfl : id = _ := by simpa using hi.symm
    rcases h with ⟨e, n, h', k1, k2⟩ | ⟨s', l', b', c', i', k1, k2⟩
    · rw [h1] at k1; cases k1
    · rw [h1] at k1; cases k1; exact .inr ⟨_, _, _, _, _, h2, by rw [hl]; exact k2⟩
  · rename_i i j; obtain rfl : id = i := by simpa using hi.symm
    exact (n1 _ rfl).elim
  · rename_i i lo n; obtain rfl : id = i := by simpa using hi.symm
    obtain ⟨e, len, h', wd, a, cap, k1, _⟩ := h
    rw [h1] at k1; cases k1
  · rename_i i off; obtain rfl : id = i := by simpa using hi.symm
    obtain ⟨b', k1, _⟩ := h
    rw [h1] at k1; cases k1
  · rename_i i k sub; obtain rfl : id = i := by simpa using hi.symm
    rcases h with ⟨e', n, b, cap, wd, k1, _⟩ | ⟨s', l', b', c', i', k1, k2, k3, k4⟩ | ⟨b', k1, _⟩
    · rw [h1] at k1; cases k1
    · rw [h1] at k1; cases k1; exact .inr (.inl ⟨_, _, _, _, _, h2, by rw [hl]; exact k2, k3, k4⟩)
    · rw [h1] at k1; cases k1
  · rename_i i j n; obtain rfl : id = i := by simpa using hi.symm
    exact (n2 _ _ rfl).elim

theorem apply_kill_push (s : St) (dst : Option Nat) (v : V) (id : Nat) (k : KK) (b b2 : B) :
    ({ putP dst v with bsets := [(id, b)], push := [b2], kill := [(id, k)] } : Patch).apply s = setSlot ⟨s.slots.map (kill1 id k), (s.blks.map (killB id k)).set id b ++ [b2]⟩ dst v := by
  cases dst <;> simp [putP, Patch.apply, setAll, modAll, setSlot, St.kill]

theorem inner_get {id i st : Nat} {xss : List (Option (List D))} {xs : List D} {sc0 sc1 : Script} (hb : s.blk id = .lst2 st xss) (h : Hold O s (items (.inn id i)) sc0 xs sc1) : xss[i]? = some (some xs) := by
  simp only [items, hold_blk, hb] at h
  rw [hold_pop] at h
  rcases h with ⟨_, h⟩ | ⟨it, u, _, h⟩
  · simp only at h
    split at h
    · rename_i ys hy; rw [(hold_ret.1 h).1]; exact hy
    · exact (hold_fail.1 h).elim
  · split at h
    · obtain ⟨h1, h⟩ := hold_req.1 h; rw [(hold_ret.1 h).1]; exact h1
    · exact (hold_fail.1 h).elim
    · rename_i hno; cases hno

theorem goes_appendInner {o : Oper} {xo yo : Operand} {sT xT e st : TypeId} {id i0 : Nat} {xs ys : List D} {xss : List (Option (List D))} {i : TypeInfo} {z : Value} {news : List Value} {Q : Exit → Act → World → Prop} (hR : Rel P s a w μ Pr)
    (ho : o.op = .call { callee := .builtin .append, args := #[xo, yo], argTypes := #[sT, xT] }) (he : elemOf P sT = some e) (hi : P.info? e = some i) (hiz : i.zero = some z) (hzs : z.cells.size = i.size) (hsz : 0 < i.size)
    (hz : szOf P e = some i.size) (hbytes : maxItems * i.bytes ≤ 140737488355328) (hsrc : Src P i.size xT (a.eval yo) ys.length news w)
    (hnews : ∀ k y, ys[k]? = some y → y.cells.length = i.size ∧ ∀ j d, y.cells[j]? = some d → ∃ u, news[k * i.size + j]? = some u ∧ DRel w Pr d u)
    (hbs : s.blks[id]? = some (.lst2 st xss)) (hst : elemOf P st = some e) (hxs : xss[i0]? = some (some xs)) (hx : VRel P w Pr (view s.blks μ) (.inn id i0) (a.eval xo)) (hm : xs.length + ys.length ≤ maxItems) :
    o.wp P a w (After P (({ putP o.dst (.arr s.blks.length) with bsets := [(id, .lst2 st (xss.set i0 none))], push := [.lst e (xs ++ ys)], kill := [(id, .inner)] } : Patch).apply s) μ Pr w) Q := by
  obtain ⟨c, g1, g2, g3⟩ := hR.toSRel.at hbs
  obtain ⟨s', lens, b, cap, inner, n, hh, k1, k2, k3, k4⟩ := hx
  rw [g3] at k1
  cases c with
  | lst2 b' cap' inner' =>
    simp only [vwOf, Option.some.injEq, VW.lst2.injEq] at k1
    obtain ⟨rfl, rfl, rfl, rfl, rfl⟩ := k1
    obtain ⟨cur, e', wd, q1, q2, q3, q4, q5, q6, q7, q8, q9, q10⟩ := g2
    rw [hst] at q7; cases q7
    rw [hz] at q8; cases q8
    obtain ⟨r1, cs, r2, r3⟩ := q10 i0 xs hh hxs k3
    have hn : n = xs.length := by
      rw [List.getElem?_map, hxs] at k2; simpa using k2.symm
    subst hn
    obtain ⟨hh', w', hrun, hown, hS, hor⟩ := append_row (ty := o.type) (elemOf_und he) hi hiz hzs hsz r2 r3.1 hsrc hm hbytes
    rw [← k4] at hrun
    have hco : ∀ q ∈ (CB.lst2 b' cap' inner').own, q ∈ owns μ := fun q hq => List.mem_flatMap.2 ⟨_, List.mem_of_getElem? g1, hq⟩
    have hin : ∀ q ∈ hh.own, q ∈ (CB.lst2 b' cap' inner').own := fun q hq => by
      simp only [CB.own, List.mem_cons, List.mem_flatMap]
      exact .inr ⟨_, List.mem_of_getElem? k3, hq⟩
    have hcn : (b' :: inner'.flatMap H.own).Nodup := own_nodup hR.nodup g1
    rw [List.nodup_cons] at hcn
    have hpw : ∀ q, Pr q → w'.heap[q]? = w.heap[q]? := hS.pr hR.pr (fun q hq => (hR.lt q (hco q (hin q hq))).2)
    have hlt := (List.getElem?_eq_some_iff.1 hbs).1
    have hmt : id < μ.length := (List.getElem?_eq_some_iff.1 g1).1
    have hother : ∀ (j : Nat) (h2 : H), j ≠ i0 → inner'[j]? = some h2 → ∀ q ∈ h2.own, q ∉ hh.own := by
      intro j h2 hj hj2 q hq hq2
      have := hcn.2
      exact flat_apart this hj hj2 k3 q hq hq2
    have hB : BRel P w' Pr (view ((s.blks.map (killB id .inner)).set id (.lst2 st (xss.set i0 none))) (μ.set id (.lst2 b' cap' (inner'.set i0 (.zero none))))) (.lst2 st (xss.set i0 none)) (.lst2 b' cap' (inner'.set i0 (.zero none))) := by
      refine ⟨cur, e, i.size, ?_, by simpa using q2, q3, q4, by simp [q5], q6, hst, hz, q9, fun j ys2 h2 hj hj2 => ?_⟩
      · rw [hS.block b' (hR.lt b' (hco b' (by simp [CB.own]))).1 (fun hm => hcn.1 (List.mem_flatMap.2 ⟨_, List.mem_of_getElem? k3, hm⟩))]; exact q1
      · rw [List.getElem?_set] at hj hj2
        by_cases hji : i0 = j
        · subst hji
          rw [if_pos rfl] at hj
          split at hj <;> cases hj
        · rw [if_neg hji] at hj hj2
          obtain ⟨p1, cs2, p2, p3⟩ := q10 j ys2 h2 hj hj2
          refine ⟨p1, cs2, ownR_same (fun q hq => hS.block q (hR.lt q (hco q ?_)).1 (hother j h2 (fun e => hji e.symm) hj2 q hq)) p2, p3.mono (fun _ h => h) hpw⟩
          simp only [CB.own, List.mem_cons, List.mem_flatMap]
          exact .inr ⟨_, List.mem_of_getElem? hj2, hq⟩
    have hsub : ∀ q ∈ owns (μ.set id (.lst2 b' cap' (inner'.set i0 (.zero none)))), q ∈ owns μ ∧ q ∉ hh.own := by
      intro q hq
      rcases mem_owns_set hq with h1 | ⟨j, d, hj, hd, hqd⟩
      · refine ⟨hco q (lst2_own_set q h1), fun hqh => ?_⟩
        simp only [CB.own, List.mem_cons, List.mem_flatMap] at h1
        rcases h1 with rfl | ⟨h2, hm2, hq2⟩
        · exact hcn.1 (List.mem_flatMap.2 ⟨_, List.mem_of_getElem? k3, hqh⟩)
        · obtain ⟨j, hj⟩ := List.getElem?_of_mem hm2
          rw [List.getElem?_set] at hj
          by_cases hji : i0 = j
          · subst hji
            rw [if_pos rfl] at hj
            split at hj
            · cases hj; simp [H.own] at hq2
            · cases hj
          · rw [if_neg hji] at hj
            exact hother j h2 (fun e => hji e.symm) hj q hq2 hqh
      · exact ⟨List.mem_flatMap.2 ⟨d, List.mem_of_getElem? hd, hqd⟩, fun hqh => nodup_own hR.nodup j id d _ hd g1 hj q hqd (hin q hqh)⟩
    have hev : Evo (owns μ) Pr w (owns (μ.set id (.lst2 b' cap' (inner'.set i0 (.zero none))))) Pr w' :=
      ⟨hS.os, hS.tape, hS.output, hS.size, fun q hq hno => hS.block q hq (fun hm => hno (hco q (hin q hm))), fun q hq => .inl (hsub q hq).1, fun _ h => h, fun _ h => .inl h⟩
    have hnd : (CB.lst2 b' cap' (inner'.set i0 (.zero none))).own.Nodup := by
      show (b' :: (inner'.set i0 (.zero none)).flatMap H.own).Nodup
      rw [List.nodup_cons]
      refine ⟨fun hm => hcn.1 ?_, flat_set_nodup (i := i0) _ hcn.2 k3 (by simp [H.own]) (by simp [H.own])⟩
      have := lst2_own_set (b := b' + 1) (cap := cap') (inner := inner') (i := i0) b' (by simp only [CB.own]; exact List.mem_cons_of_mem _ hm)
      simp only [CB.own, List.mem_cons] at this
      exact this.resolve_left (by omega)
    have hA := hR.killSet (k := .inner) hbs g1 (by simp [vwOf]) hev (fun q hq hqc => hS.block q (hR.lt q hq).1 (fun hm => hqc (hin q hm))) (by simp)
      (fun _ => inner_stay g3 (view_killSet_self hlt hmt) (by simp)) hB (nodup_owns_set hR.nodup g1 hnd fun q hq => .inl (lst2_own_set q hq)) (fun q hq => ⟨Nat.lt_of_lt_of_le (hR.lt q (hsub q hq).1).1 hS.size, (hR.lt q (hsub q hq).1).2⟩)
      (fun q hq => Nat.lt_of_lt_of_le (hR.pr q hq) hS.size)
    have hh'own : ∀ q ∈ hh'.own, (q ∈ hh.own) ∨ (w.heap.size ≤ q ∧ q < w'.heap.size) := by
      intro q hq
      rcases hor with rfl | ⟨cap, rfl, hlt⟩
      · exact .inl hq
      · simp [H.own] at hq; exact .inr (by omega)
    have hl : (xs ++ ys).length = xs.length + ys.length := by simp
    have hSA := hA.toSRel.adopt (b := .lst e (xs ++ ys)) (c := .lst hh') hh'.own_nodup (fun q hq => by
      rcases hh'own q hq with h1 | h1
      · exact ⟨fun hm => (hsub q hm).2 h1, (hR.lt q (hco q (hin q h1))).2, Nat.lt_of_lt_of_le (hR.lt q (hco q (hin q h1))).1 hS.size⟩
      · exact ⟨fun hm => by have := (hR.lt q (hsub q hm).1).1; omega, fun hp => by have := hR.pr q hp; omega, h1.2⟩)
      ⟨i.size, cs ++ news, hz, by rw [hl]; exact hown, rows_append (ownR_len r2) (r3.mono (fun _ h => h) hpw) hsrc.one (fun k y hy => ⟨(hnews k y hy).1, fun j d hd => by
        obtain ⟨u, p1, p2⟩ := (hnews k y hy).2 j d hd
        exact ⟨u, p1, p2.mono (fun _ h => h) hpw⟩⟩)⟩
    have hblen : ((s.blks.map (killB id .inner)).set id (.lst2 st (xss.set i0 none))).length = s.blks.length := by simp
    unfold Oper.wp
    rw [exec_append ho hrun]
    refine ⟨μ.set id (.lst2 b' cap' (inner'.set i0 (.zero none))) ++ [.lst hh'], Pr, ?_, ⟨hS.os, hS.tape, hS.output, hS.size, hev.block, fun q hq => ?_, fun _ h => h, fun _ h => .inl h⟩, .trans (.set g1 (by simp)) (.push _ [.lst hh'])⟩
    · rw [apply_kill_push]
      have hR2 : Rel P ⟨s.slots.map (kill1 id .inner), (s.blks.map (killB id .inner)).set id (.lst2 st (xss.set i0 none)) ++ [.lst e (xs ++ ys)]⟩ a w' (μ.set id (.lst2 b' cap' (inner'.set i0 (.zero none))) ++ [.lst hh']) Pr :=
        ⟨hSA, hA.defers, hA.len, fun n v hn => (hA.slots n v hn).mono P (fun _ h => h) (fun _ _ => rfl) (fun j _ hne => view_push hA.mu hne)⟩
      refine hR2.setSlot P _ (show VRel0 P w' Pr _ (.arr s.blks.length) _ from .inl ⟨e, (xs ++ ys).length, hh', ?_, by rw [hl]⟩)
      have := view_last (b := .lst e (xs ++ ys)) (c := .lst hh') hA.mu
      rw [hblen] at this
      exact this
    · rw [owns_append, owns_one] at hq
      rcases List.mem_append.1 hq with hq | hq
      · exact .inl (hsub q hq).1
      · exact (hh'own q hq).imp (fun h => hco q (hin q h)) (fun h => h.1)
  | _ => simp [vwOf] at k1

/-- A new list that is only read from now on. -/
theorem goes_frozen {o : Oper} {e : TypeId} {wd : Nat} {ys : List D} {hh : H} {cs : List Value} {Q : Exit → Act → World → Prop} (hR : Rel P s a w μ Pr) (hrun : (execOp a.eval o).run P w = .ok (.value (hdr hh ys.length)) w')
    (hos : w'.os = w.os) (htape : w'.tape = w.tape) (hout : w'.output = w.output) (hsz : w.heap.size ≤ w'.heap.size) (hsame : ∀ k, k < w.heap.size → w'.heap[k]? = w.heap[k]?)
    (hown : ∀ k ∈ hh.own, w.heap.size ≤ k ∧ k < w'.heap.size) (g4 : OwnR w' e wd hh ys.length cs) (g5 : Rows' w' Pr wd ys cs) : o.wp P a w (After P ((putP o.dst (.d (.sl ys))).apply s) μ Pr w) Q := by
  unfold Oper.wp
  rw [hrun]
  have hev : Evo (owns μ) Pr w (owns μ) (fun b => Pr b ∨ b ∈ hh.own) w' := ⟨hos, htape, hout, hsz, fun k hk _ => hsame k hk, fun k hk => .inl hk, fun _ h => .inl h, fun b hb => hb.elim .inl fun h => .inr (.inr (hown b h).1)⟩
  have hR' := hR.grow P hev hsame (fun b hb hp => hp.elim (hR.lt b hb).2 fun h => absurd (hown b h).1 (Nat.not_le.2 (hR.lt b hb).1)) (fun b hb => hb.elim (fun h => Nat.lt_of_lt_of_le (hR.pr b h) hsz) fun h => (hown b h).2)
  refine ⟨μ, _, ?_, hev, .refl _⟩
  rw [putP_apply]
  refine hR'.setSlot P _ ?_
  show DRel w' _ (.sl ys) _
  cases hh with
  | zero q => have := row_nil g4; subst this; exact .sl0 _ _
  | row b c =>
    obtain ⟨q1, q2, q3⟩ := reads_of_row g4 g5
    exact drel_of_reads (Pr' := Pr) (.inr (by simp [H.own])) q1 ⟨q2, fun i x j y hx hy => let ⟨u, r1, r2, r3⟩ := q3 i x j y hx hy; ⟨u, r1, r2, r3.mono (fun _ h => .inl h) (fun _ _ => rfl)⟩⟩

theorem goes_append {o : Oper} {xo yo : Operand} {sT xT : TypeId} {x y : V} {ys : List D} {p : Patch} {sc0 sc1 : Script} {Q : Exit → Act → World → Prop} (hR : Rel P s a w μ Pr)
    (ho : o.op = .call { callee := .builtin .append, args := #[xo, yo], argTypes := #[sT, xT] }) (hk : (∃ e', P.underlying xT = some (.slice e')) ∨ P.underlying xT = some .string)
    (hx : VRel P w Pr (view s.blks μ) x (a.eval xo)) (hy : VRel P w Pr (view s.blks μ) y (a.eval yo)) (h1 : Hold O s (items y) sc0 ys sc1) (h : Hold O s (appendQ P o.dst sT x ys) sc p sc') :
    o.wp P a w (After P (p.apply s) μ Pr w) Q := by
  unfold appendQ at h
  split at h
  · rename_i e he
    split at h
    · rename_i sz hz
      split at h
      · exact (hold_fail.1 h).elim
      · rename_i hrow
        simp only [Bool.not_eq_false] at hrow
        obtain ⟨i, z, hi, hiz, hzs, hsz, hzi, hbytes⟩ := rowOk_ok hrow
        rw [hz] at hzi; cases hzi
        replace h := widthsQ_ok h
        obtain ⟨hw, sc2, h⟩ := h
        obtain ⟨news, hsrc, hnews⟩ := src_of_items hR.toSRel hk hy h1 hw hsz
        split at h
        · -- an empty one
          obtain ⟨hm, sc3, h⟩ := roomE_ok h
          obtain ⟨q, hq⟩ := emp_val hx
          obtain ⟨hh', w', hrun, hown, hS, hor⟩ := append_row (ty := o.type) (elemOf_und he) hi hiz hzs hsz (hh := .zero q) (n := 0) (cs := []) ⟨rfl, rfl⟩ (by simp) hsrc (by omega) hbytes
          rw [← hq] at hrun
          have hsame : ∀ k, k < w.heap.size → w'.heap[k]? = w.heap[k]? := fun k hk => hS.block k hk (by simp [H.own])
          have hpw : ∀ b, Pr b → w'.heap[b]? = w.heap[b]? := fun b hb => hsame b (hR.pr b hb)
          have hownq : ∀ k ∈ hh'.own, w.heap.size ≤ k ∧ k < w'.heap.size := by
            intro k hk
            rcases hor with rfl | ⟨cap, rfl, hlt⟩
            · simp [H.own] at hk
            · simp [H.own] at hk; omega
          simp only [Nat.zero_add, List.nil_append] at hown hrun
          have hrows : Rows' w' Pr i.size ys news := ⟨hsrc.one, fun k y hy => ⟨(hnews k y hy).1, fun j d hd => let ⟨u, g1, g2⟩ := (hnews k y hy).2 j d hd; ⟨u, g1, g2.mono (fun _ h => h) hpw⟩⟩⟩
          rcases h with h | h
          · obtain ⟨rfl, _⟩ := hold_ret.1 h
            exact goes_frozen hR (exec_append ho hrun) hS.os hS.tape hS.output hS.size hsame hownq hown hrows
          rw [hold_nblk] at h
          obtain ⟨rfl, _⟩ := hold_ret.1 h
          refine goes_push (w' := w') (c := .lst hh') (x := hdr hh' ys.length) hR hS.os hS.tape hS.output hS.size hsame hh'.own_nodup hownq ⟨i.size, news, hz, hown, hsrc.one, fun k y hy => ⟨(hnews k y hy).1, fun j d hd => ?_⟩⟩ (exec_append ho hrun)
            (show VRel0 P w' Pr _ (.arr s.blks.length) _ from .inl ⟨e, ys.length, hh', view_last hR.mu, rfl⟩)
          obtain ⟨u, g1, g2⟩ := (hnews k y hy).2 j d hd
          exact ⟨u, g1, g2.mono (fun _ h => h) hpw⟩
        · -- a list
          rename_i id
          rw [hold_blk] at h
          split at h
          · rename_i e' xs hb
            split at h
            · rename_i hee; rw [hee] at hb; clear hee
              replace h := roomQ_ok h
              obtain ⟨hm, sc3, h⟩ := h
              obtain ⟨rfl, _⟩ := hold_ret.1 h
              have hbs := blk_some hb (by simp)
              obtain ⟨hh, wd, cs, g1, g2, g3, g4, g5⟩ := hR.toSRel.lst hbs
              rw [hz] at g3; cases g3
              rcases hx with ⟨e', n, h', k1, k2⟩ | ⟨s', lens, b, cap, inner, k1, k2⟩
              · rw [g2] at k1; cases k1
                have := goes_appendTo (Q := Q) hR ho he hi hiz hzs hsz hz hbytes hsrc hnews hbs (Nat.le_refl _) g1 g4 g5 k2 hm
                rwa [List.take_length] at this
              · rw [g2] at k1; cases k1
            · exact (hold_fail.1 h).elim
          · exact (hold_fail.1 h).elim
        · -- a list that is cut
          rename_i id n
          rw [hold_blk] at h
          split at h
          · rename_i e' xs hb
            split at h
            · rename_i hee; rw [hee] at hb; clear hee
              replace h := roomQ_ok h
              obtain ⟨hm, sc3, h⟩ := h
              obtain ⟨rfl, _⟩ := hold_ret.1 h
              have hbs := blk_some hb (by simp)
              obtain ⟨hh, wd, cs, g1, g2, g3, g4, g5⟩ := hR.toSRel.lst hbs
              rw [hz] at g3; cases g3
              obtain ⟨e', len, h', wd', a', cap, k1, k2, k3, k4, k5, k6, k7⟩ := hx
              rw [g2] at k1; cases k1
              exact goes_appendTo hR ho he hi hiz hzs hsz hz hbytes hsrc hnews hbs (by omega) g1 g4 g5 (k7 rfl) hm
            · exact (hold_fail.1 h).elim
          · exact (hold_fail.1 h).elim
        · -- an inner list
          rename_i id i0
          rw [hold_blk] at h
          split at h
          · rename_i st xss hb
            split at h
            · rename_i hst
              replace h := hold_bind.1 h
              obtain ⟨xs, sc4, h4, h⟩ := h
              replace h := roomQ_ok h
              obtain ⟨hm, sc3, h⟩ := h
              rw [hold_nblk] at h
              obtain ⟨rfl, _⟩ := hold_ret.1 h
              exact goes_appendInner hR ho he hi hiz hzs hsz hz hbytes hsrc hnews (blk_some hb (by simp)) hst (inner_get hb h4) hx hm
            · exact (hold_fail.1 h).elim
          · exact (hold_fail.1 h).elim
        · exact (hold_fail.1 h).elim
    · exact (hold_fail.1 h).elim
  · exact (hold_fail.1 h).elim

end Go.Proofs.YtbamhlgkoimjoaaDoor.Ab
