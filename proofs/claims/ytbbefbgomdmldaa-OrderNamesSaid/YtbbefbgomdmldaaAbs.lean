/- An abstract machine for the model's code: plain data for what is only read, a store of boxes and growing lists for what is written. It is run by recursion; what symbols cannot decide is told by a script, and each item of the script leaves a condition. -/
import Derived.Calls
import GoSem.Dispatch
namespace Go.Proofs.Ytbbefbgomdmldaa.Ab
open Go

/-- Plain data. -/
inductive D where
  | int (k : IntKind) (n : Int)
  | bool (b : Bool)
  | str (s : List UInt8)
  | sl (xs : List D)
  | agg (ds : List D)
  | inil
  | iany

def D.cells : D → List D
  | .agg ds => ds
  | d => [d]

/-- What a slot or a box's cell holds. -/
inductive V where
  | undef
  | void
  | d (x : D)
  | emp (nil : Bool)      -- an empty slice without room
  | nnil                   -- an empty slice that is not nil
  | own (e : Nat) (xs : List D)          -- a list that a call returns; e: its elements' type
  | own2 (e : Nat) (xss : List (Option (List D)))
  | arr (id : Nat)
  | inn (id i : Nat)
  | win (id lo n : Nat)
  | ptr (id off : Nat)
  | eptr (id i sub : Nat)
  | iptr (id i k : Nat)
  | dptr (x : D) (sub : Nat)
  | func (f : Nat) (cap : List V)
  | iface (t : Nat) (v : V)
  | agg (cs : List V)
  | tup (vs : List V)

/-- A block of the store: a variable's cells, a list, a list of lists. -/
inductive B where
  | box (cells : List V)
  | lst (e : Nat) (xs : List D)
  | lst2 (e : Nat) (xss : List (Option (List D)))
  | dead

structure St where
  slots : List V
  blks : List B

inductive Ex where
  | normal
  | exit (id : Nat)
  | ret
  deriving DecidableEq

inductive It where
  | raw
  | own
  | br (b : Bool)
  | is (n : Int)
  | ix (i : Nat)
  | el (i : Nat) (d : D)
  | ls (ys : List D)
  | cut (lo hi : Nat)
  | len (n : Nat)
  | st (s : List UInt8)
  | by (i : Nat) (b : UInt8)
  | ret (r : V)
  | icall (ids : List Nat) (r : V) (bs : List B)
  | lp (keep : List Nat) (e : Ex) (s1 : St)

abbrev Script := Option (List It)

/-- The shape of a block: what a write of an element does not change. -/
inductive BS where
  | lst (e n : Nat)
  | lst2 (e n : Nat)
  | none
def B.shape : B → BS
  | .lst e xs => .lst e xs.length
  | .lst2 e xss => .lst2 e xss.length
  | _ => .none

inductive Q (α : Type) where
  | ret (a : α)
  | fail
  | slot (n : Nat) (k : V → Q α)
  | blk (id : Nat) (k : B → Q α)
  | shp (id : Nat) (k : BS → Q α)
  | nblk (k : Nat → Q α)
  | pop (k : Option It → Q α)
  | req (p : Prop) (k : Q α)
  | call (f : Nat) (as : List V) (bs : List B) (k : V → List B → Q α)

def Q.bind {α β : Type} : Q α → (α → Q β) → Q β
  | .ret a, f => f a
  | .fail, _ => .fail
  | .slot n k, f => .slot n fun v => (k v).bind f
  | .blk id k, f => .blk id fun v => (k v).bind f
  | .shp id k, f => .shp id fun v => (k v).bind f
  | .nblk k, f => .nblk fun v => (k v).bind f
  | .pop k, f => .pop fun v => (k v).bind f
  | .req p k, f => .req p (k.bind f)
  | .call g as bs k, f => .call g as bs fun r b => (k r b).bind f

instance : Monad Q where
  pure := Q.ret
  bind := Q.bind

abbrev Orc := Nat → List V → List B → Option (V × List B)

def St.slot (s : St) (n : Nat) : V := (s.slots[n]?).getD .undef
def St.blk (s : St) (n : Nat) : B := (s.blks[n]?).getD .dead

def Q.run {α : Type} (O : Orc) (s : St) : Q α → Script → Option (α × Script × List Prop)
  | .ret a, sc => some (a, sc, [])
  | .fail, _ => none
  | .slot n k, sc => (k (s.slot n)).run O s sc
  | .blk n k, sc => (k (s.blk n)).run O s sc
  | .shp n k, sc => (k (s.blk n).shape).run O s sc
  | .nblk k, sc => (k s.blks.length).run O s sc
  | .pop k, none => (k none).run O s none
  | .pop _, some [] => none
  | .pop k, some (i :: r) => (k (some i)).run O s (some r)
  | .req p k, sc => match k.run O s sc with
    | some (a, sc', ps) => some (a, sc', p :: ps)
    | none => none
  | .call f as bs k, sc => match O f as bs with
    | some (r, bs') => (k r bs').run O s sc
    | none => none

/-- What was read: slots, blocks, the number of blocks. -/
structure Log where
  slots : List Nat := []
  blks : List Nat := []
  shps : List Nat := []
  nb : Bool := false

/-- The same, with what was read. -/
def Q.runL {α : Type} (O : Orc) (s : St) : Q α → Script → Option (α × Script × List Prop × Log)
  | .ret a, sc => some (a, sc, [], {})
  | .fail, _ => none
  | .slot n k, sc => match (k (s.slot n)).runL O s sc with
    | some (a, sc', ps, l) => some (a, sc', ps, { l with slots := n :: l.slots })
    | none => none
  | .blk n k, sc => match (k (s.blk n)).runL O s sc with
    | some (a, sc', ps, l) => some (a, sc', ps, { l with blks := n :: l.blks })
    | none => none
  | .shp n k, sc => match (k (s.blk n).shape).runL O s sc with
    | some (a, sc', ps, l) => some (a, sc', ps, { l with shps := n :: l.shps })
    | none => none
  | .nblk k, sc => match (k s.blks.length).runL O s sc with
    | some (a, sc', ps, l) => some (a, sc', ps, { l with nb := true })
    | none => none
  | .pop k, none => (k none).runL O s none
  | .pop _, some [] => none
  | .pop k, some (i :: r) => (k (some i)).runL O s (some r)
  | .req p k, sc => match k.runL O s sc with
    | some (a, sc', ps, l) => some (a, sc', p :: ps, l)
    | none => none
  | .call f as bs k, sc => match O f as bs with
    | some (r, bs') => (k r bs').runL O s sc
    | none => none

/-- What becomes of the references to a list: they go (it has grown), they are data (it is frozen), those to inner lists go. -/
inductive KK where
  | gone
  | frz (d : D)
  | inner

structure Patch where
  sets : List (Nat × V) := []
  bsets : List (Nat × B) := []
  mods : List (Nat × Nat × D) := []
  push : List B := []
  kill : List (Nat × KK) := []

def kill0 (id : Nat) (k : KK) : V → V
  | .arr i => if i = id then (match k with | .gone => .undef | .frz d => .d d | .inner => .arr i) else .arr i
  | .inn i j => if i = id then .undef else .inn i j
  | .iptr i j n => if i = id then .undef else .iptr i j n
  | .win i l n => if i = id then (match k with | .inner => .win i l n | _ => .undef) else .win i l n
  | .eptr i j n => if i = id then (match k with | .inner => .eptr i j n | _ => .undef) else .eptr i j n
  | v => v
def kill1 (id : Nat) (k : KK) : V → V
  | .agg cs => .agg (cs.map (kill0 id k))
  | .tup _ => .undef
  | .iface t v => .iface t (kill0 id k v)
  | .func f cap => .func f (cap.map (kill0 id k))
  | v => kill0 id k v
def killB (id : Nat) (k : KK) : B → B
  | .box cs => .box (cs.map (kill1 id k))
  | b => b
def St.kill (s : St) (k : Nat × KK) : St := ⟨s.slots.map (kill1 k.1 k.2), s.blks.map (killB k.1 k.2)⟩

def setAll {α : Type} : List (Nat × α) → List α → List α
  | [], l => l
  | (n, v) :: r, l => setAll r (l.set n v)

/-- An element of a list is another one. -/
def modB (i : Nat) (x : D) : B → B
  | .lst e xs => .lst e (xs.set i x)
  | b => b
def modAll : List (Nat × Nat × D) → List B → List B
  | [], l => l
  | (n, i, x) :: r, l => modAll r (l.modify n (modB i x))

def Patch.apply (p : Patch) (s : St) : St :=
  let s := p.kill.foldl St.kill s
  ⟨setAll p.sets s.slots, modAll p.mods (setAll p.bsets s.blks) ++ p.push⟩

/-! ### values -/

def simple0 : V → Bool
  | .func _ _ | .iface _ _ | .agg _ | .tup _ | .own _ _ | .own2 _ _ => false
  | _ => true


def constV : Value → Option V
  | .int k n => some (.d (.int k n))
  | .bool b => some (.d (.bool b))
  | .string s => some (.d (.str s.data.toList))
  | .nilIface => some (.d .inil)
  | .slice none 0 0 => some (.emp true)
  | .nilFunc => some .undef
  | .pointer none => some .undef
  | _ => none

def allD : List V → Option (List D)
  | [] => some []
  | .d x :: r => (allD r).map (x :: ·)
  | _ => none

def mkAgg (cs : List V) : V := match allD cs with
  | some ds => .d (.agg ds)
  | none => .agg cs

def constC : List Value → Option (List V)
  | [] => some []
  | v :: r => match constV v, constC r with
    | some x, some y => some (x :: y)
    | _, _ => none

def constVA : Value → Option V
  | .agg cs => (constC cs.toList).map mkAgg
  | v => constV v

def opd : Operand → Q V
  | .tmp t => .slot t .ret
  | .const v => match constVA v with
    | some x => .ret x
    | none => .fail
  | .func f => .ret (.func f [])
  | .global _ => .fail

def opds : List Operand → Q (List V)
  | [] => .ret []
  | x :: r => (opd x).bind fun v => (opds r).bind fun vs => .ret (v :: vs)

def isConst : Operand → Bool
  | .const _ => true
  | _ => false

variable (P : Program)

def szOf (t : TypeId) : Option Nat := (P.info? t).map (·.size)
def aggD : TypeDesc → Bool
  | .struct _ | .array _ _ => true
  | _ => false
def kindT (t : TypeId) : Option Bool := (P.underlying t).map aggD
def elemOf (t : TypeId) : Option TypeId := match P.underlying t with
  | some (.slice e) => some e
  | _ => none
def zeroC (t : TypeId) : Option (List V) := match P.info? t with
  | some i => match i.zero with
    | some z => constC z.cells.toList
    | none => none
  | none => none

def guardQ (b : Bool) : Q Unit := if b then .ret () else .fail
def optQ {α : Type} : Option α → Q α
  | some a => .ret a
  | none => .fail

def putP (dst : Option Nat) (v : V) : Patch := match dst with
  | some d => { sets := [(d, v)] }
  | none => {}

/-- Plain data of a value, lists read out. -/
def toD0 : V → Q D
  | .d x => .ret x
  | .emp _ => .ret (.sl [])
  | .nnil => .ret (.sl [])
  | .win id lo n => .blk id fun | .lst _ xs => .ret (.sl ((xs.drop lo).take n)) | _ => .fail
  | .arr id => .blk id fun | .lst _ xs => .ret (.sl xs) | _ => .fail
  | .own _ xs => .ret (.sl xs)
  | _ => .fail
def toDs : List V → Q (List D)
  | [] => .ret []
  | v :: r => (toD0 v).bind fun x => (toDs r).bind fun xs => .ret (x :: xs)
def toD : V → Q D
  | .agg cs => (toDs cs).bind fun xs => .ret (.agg xs)
  | v => toD0 v
def toDL : List V → Q (List D)
  | [] => .ret []
  | v :: r => (toD v).bind fun x => (toDL r).bind fun xs => .ret (x :: xs)

/-- The same, but what is known to be nil stays so. -/
def toA0 : V → Q V
  | .emp b => .ret (.emp b)
  | v => (toD0 v).bind fun x => .ret (.d x)
def toAs : List V → Q (List V)
  | [] => .ret []
  | v :: r => (toA0 v).bind fun x => (toAs r).bind fun xs => .ret (x :: xs)
def toA : V → Q V
  | .agg cs => (toAs cs).bind fun xs => .ret (mkAgg xs)
  | v => toA0 v
def toAL : List V → Q (List V)
  | [] => .ret []
  | v :: r => (toA v).bind fun x => (toAL r).bind fun xs => .ret (x :: xs)

/-- The lists to which a value refers. -/
def refs0 : V → List Nat
  | .arr id => [id]
  | .win id _ _ => [id]
  | _ => []
def refs : V → List Nat
  | .agg cs => cs.flatMap refs0
  | v => refs0 v

/-- No slice in it: no memory is shared through it. -/
def D.safe0 : D → Bool
  | .sl (_ :: _) => false
  | .agg _ => false
  | _ => true
def D.safe : D → Bool
  | .agg ds => ds.all D.safe0
  | d => d.safe0
def V.safe0 : V → Bool
  | .d x => x.safe
  | .own _ xs => xs.all D.safe
  | .own2 _ xss => xss.all fun | some ys => ys.all D.safe | none => true
  | .emp _ => true
  | .nnil => true
  | _ => false
def V.safe1 : V → Bool
  | .agg cs => cs.all V.safe0
  | v => v.safe0
def V.safe : V → Bool
  | .tup vs => vs.all V.safe1
  | v => v.safe1

/-- Lists that a call returns, laid as blocks. -/
def layV (n : Nat) : V → V × List B
  | .own wd xs => (.arr n, [.lst wd xs])
  | .own2 wd xss => (.arr n, [.lst2 wd xss])
  | v => (v, [])
def layL (n : Nat) : List V → List V × List B
  | [] => ([], [])
  | v :: r => let (x, b) := layV n v; let (xs, bs) := layL (n + b.length) r; (x :: xs, b ++ bs)
def lay1 (n : Nat) : V → V × List B
  | .agg cs => let (xs, bs) := layL n cs; (.agg xs, bs)
  | v => layV n v
def layT (n : Nat) : List V → List V × List B
  | [] => ([], [])
  | v :: r => let (x, b) := lay1 n v; let (xs, bs) := layT (n + b.length) r; (x :: xs, b ++ bs)
def lay (n : Nat) : V → V × List B
  | .tup cs => let (xs, bs) := layT n cs; (.tup xs, bs)
  | v => lay1 n v

/-! ### operations on integers -/

def popInt (v : Int) (k : IntKind) : Q V := .pop fun
  | some (.is n) => .req (v = n) (.ret (.d (.int k n)))
  | _ => .ret (.d (.int k v))
def popBool (v : Bool) : Q V := .pop fun
  | some (.br b) => .req (v = b) (.ret (.d (.bool b)))
  | _ => .ret (.d (.bool v))

def binInt (op : BinOp) (k : IntKind) (a b : Int) : Q V :=
  match op with
  | .add => popInt (k.wrap (a + b)) k
  | .sub => popInt (k.wrap (a - b)) k
  | .mul => popInt (k.wrap (a * b)) k
  | .quo => if b = 0 then .fail else popInt (k.wrap (a.tdiv b)) k
  | .rem => if b = 0 then .fail else popInt (a.tmod b) k
  | .and => popInt (k.wrap (BitVec.ofInt k.bits a &&& BitVec.ofInt k.bits b).toNat) k
  | .or => popInt (k.wrap (BitVec.ofInt k.bits a ||| BitVec.ofInt k.bits b).toNat) k
  | .xor => popInt (k.wrap (BitVec.ofInt k.bits a ^^^ BitVec.ofInt k.bits b).toNat) k
  | .eql => popBool (a == b)
  | .neq => popBool (a != b)
  | .lss => popBool (decide (a < b))
  | .leq => popBool (decide (a ≤ b))
  | .gtr => popBool (decide (a > b))
  | .geq => popBool (decide (a ≥ b))
  | _ => .fail

def shiftInt (op : BinOp) (k : IntKind) (a b : Int) : Q V :=
  if b < 0 then .fail else
  match op with
  | .shl => popInt (k.wrap (a * 2 ^ min b.toNat k.bits)) k
  | .shr => popInt (a.fdiv (2 ^ min b.toNat k.bits)) k
  | _ => .fail

/-- The model compares two structs of n whole numbers as one would. -/
def EqOk (t : TypeId) (n : Nat) : Prop := ∀ (is js : List Int) (w : World), is.length = n → js.length = n →
  (Op.equal t (.agg (is.map (Value.int .i64)).toArray) (.agg (js.map (Value.int .i64)).toArray)).run P w = .ok (decide (is = js)) w ∧
  P.eqGuardType P.depth t = false

/-- Fields that are whole numbers, one behind another. -/
def eqFB : Nat → List Field → Bool
  | _, [] => true
  | i, f :: r => f.name != "_" && f.offset == i && (match P.underlying f.type with | some (.int _) => true | _ => false) && eqFB (i + 1) r
def eqOkB (t : TypeId) (n : Nat) : Bool := match P.underlying t with
  | some (.struct fs) => !P.stoodInHeld t && fs.size == n && eqFB P 0 fs.toList
  | _ => false

def ints : List D → Option (List Int)
  | [] => some []
  | .int .i64 n :: r => (ints r).map (n :: ·)
  | _ => none

def binStr (op : BinOp) (a b : List UInt8) : Q V :=
  match op with
  | .add => .pop fun
    | none => if a.length + b.length < 2 ^ 62 then .ret (.d (.str (a ++ b))) else .fail
    | some _ => .req (a.length + b.length < 2 ^ 62) (.ret (.d (.str (a ++ b))))
  | .eql => popBool (a == b)
  | .neq => popBool (!(a == b))
  | _ => .fail

/-- Is a slice, an interface value, nil? -/
def nilB : V → Option Bool
  | .emp true => some true
  | .nnil => some false
  | .d (.sl (_ :: _)) => some false
  | _ => none
def inilB : D → Option Bool
  | .inil => some true
  | .iany => some false
  | _ => none

def binV (c : Bool) (op : BinOp) (t : TypeId) : V → V → Q V
  | .d (.int k a), .d (.int k' b) => match op with
    | .shl | .shr => shiftInt op k a b
    | _ => if k = k' then binInt op k a b else .fail
  | .d (.str a), .d (.str b) => binStr op a b
  | .d (.bool a), .d (.bool b) => match P.underlying t, op with
    | some .bool, .eql => popBool (a == b)
    | some .bool, .neq => popBool (!(a == b))
    | _, _ => .fail
  | .d (.agg xs), .d (.agg ys) => match ints xs, ints ys with
    | some is, some js => if is.length = js.length ∧ eqOkB P t is.length = true then (match op with
      | .eql => popBool (decide (is = js))
      | .neq => popBool (!decide (is = js))
      | _ => .fail) else .fail
    | _, _ => .fail
  | x, .emp true => match nilB x, P.underlying t, op with
    | some b, some (.slice _), .eql => .ret (.d (.bool b))
    | some b, some (.slice _), .neq => .ret (.d (.bool (!b)))
    | _, _, _ => .fail
  | .d x, .d .inil => match inilB x, P.underlying t, op with
    | some b, some (.interface _), .eql => if c then .ret (.d (.bool b)) else .fail
    | some b, some (.interface _), .neq => if c then .ret (.d (.bool (!b))) else .fail
    | _, _, _ => .fail
  | _, _ => .fail

def unV : UnOp → V → Q V
  | .not, .d (.bool b) => popBool (!b)
  | .neg, .d (.int k n) => popInt (k.wrap (0 - n)) k
  | .xor, .d (.int k n) => popInt (k.wrap (BitVec.ofInt k.bits (if k.signed then -1 else k.max) ^^^ BitVec.ofInt k.bits n).toNat) k
  | _, _ => .fail

def u8 (b : UInt8) : D := .int .u8 b.toNat
def unU8 : List D → Option (List UInt8)
  | [] => some []
  | .int .u8 n :: r => if 0 ≤ n ∧ n < 256 then (unU8 r).map (UInt8.ofNat n.toNat :: ·) else none
  | _ => none

/-- The elements of a slice. -/
def items : V → Q (List D)
  | .d (.sl xs) => .ret xs
  | .d (.str l) => .ret (l.map u8)
  | .emp _ => .ret []
  | .nnil => .ret []
  | .arr id => .blk id fun | .lst _ xs => .ret xs | _ => .fail
  | .win id lo n => .blk id fun | .lst _ xs => .ret ((xs.drop lo).take n) | _ => .fail
  | .inn id i => .blk id fun
    | .lst2 _ xss => .pop fun
      | some (.ls ys) => .req (xss[i]? = some (some ys)) (.ret ys)
      | some _ => .fail
      | none => match xss[i]? with | some (some ys) => .ret ys | _ => .fail
    | _ => .fail
  | _ => .fail

def allSome {α : Type} : List (Option α) → Option (List α)
  | [] => some []
  | some a :: r => (allSome r).map (a :: ·)
  | _ => none

def convV (src dst : TypeId) (v : V) : Q V :=
  match P.underlying src, P.underlying dst, v with
  | some (.int _), some (.int k), .d (.int _ n) => popInt (k.wrap n) k
  | some .string, some .string, .d (.str l) => .ret (.d (.str l))
  | some .string, some (.slice e), .d (.str l) => match P.underlying e with
    | some (.int .u8) => .ret (.d (.sl (l.map u8)))
    | _ => .fail
  | some (.slice e), some .string, v => match P.underlying e with
    | some (.int .u8) => (items v).bind fun xs => .pop fun
      | some (.st l) => .req (xs = l.map u8) (.ret (.d (.str l)))
      | some _ => .fail
      | none => match unU8 xs with | some l => .ret (.d (.str l)) | none => .fail
    | _ => .fail
  | _, _, _ => .fail

def lenV (t : TypeId) (v : V) : Q V :=
  match P.underlying t, v with
  | some .string, .d (.str l) => .ret (.d (.int .i64 l.length))
  | some (.array n _), _ => .ret (.d (.int .i64 n))
  | some (.slice _), .d (.str _) => .fail
  | some (.slice _), v => (items v).bind fun xs => .ret (.d (.int .i64 xs.length))
  | _, _ => .fail

/-- An index, in its bounds. -/
def ixQ (v : V) (len : Nat) (k : Nat → Q V) : Q V :=
  match v with
  | .d (.int _ n) => .pop fun
    | some (.ix i) => .req (n = (i : Int) ∧ i < len) (k i)
    | some _ => .fail
    | none => if 0 ≤ n ∧ n < len then k n.toNat else .fail
  | _ => .fail
def elQ (v : V) (xs : List D) (k : Nat → D → Q V) : Q V :=
  match v with
  | .d (.int _ n) => .pop fun
    | some (.el i d) => .req (n = (i : Int) ∧ xs[i]? = some d) (k i d)
    | some _ => .fail
    | none => if 0 ≤ n then (match xs[n.toNat]? with | some d => k n.toNat d | none => .fail) else .fail
  | _ => .fail

def indexAddrV (t : TypeId) (constIx : Bool) (x ix : V) : Q V :=
  match P.underlying t with
  | some (.slice e) => match szOf P e with
    | some sz => match x with
      | .d (.sl xs) => elQ ix xs fun _ d => if d.cells.length = sz then .ret (.dptr d 0) else .fail
      | .arr id => .shp id fun
        | .lst e' len => if e' = e then ixQ ix len fun i => .ret (.eptr id i 0) else .fail
        | .lst2 e' len => if e' = e ∧ sz = 1 then ixQ ix len fun i => .ret (.eptr id i 0) else .fail
        | _ => .fail
      | .win id lo n => .shp id fun
        | .lst e' len => if e' = e then .pop fun
          | none => if lo + n ≤ len then ixQ ix n fun i => .ret (.eptr id (lo + i) 0) else .fail
          | some _ => .req (lo + n ≤ len) (ixQ ix n fun i => .ret (.eptr id (lo + i) 0)) else .fail
        | _ => .fail
      | .inn id i => .blk id fun
        | .lst2 s _ => if elemOf P s = some e then (items (.inn id i)).bind fun ys => ixQ ix ys.length fun k => .ret (.iptr id i k) else .fail
        | _ => .fail
      | _ => .fail
    | none => .fail
  | some (.array len e) => match szOf P e, x with
    | some sz, .ptr id off => if constIx then (match ix with
        | .d (.int _ n) => if 0 ≤ n ∧ n < len then .ret (.ptr id (off + n.toNat * sz)) else .fail
        | _ => .fail)
      else ixQ ix len fun i => .ret (.ptr id (off + i * sz))
    | _, _ => .fail
  | _ => .fail

/-- A part of an element. -/
def cellOf (t : TypeId) (sub : Nat) (x : D) : Q V :=
  match kindT P t with
  | some true => match x with
    | .agg ds => if sub = 0 ∧ szOf P t = some ds.length then .ret (.d (.agg ds)) else .fail
    | _ => .fail
  | some false => match x.cells[sub]? with
    | some (.agg _) => .fail
    | some y => .ret (.d y)
    | none => .fail
  | none => .fail

def loadV (t : TypeId) : V → Q V
  | .ptr id off => .blk id fun
    | .box cs => match kindT P t with
      | some true => match szOf P t with
        | some sz => if off + sz ≤ cs.length ∧ ((cs.drop off).take sz).all simple0 = true then .ret (mkAgg ((cs.drop off).take sz)) else .fail
        | none => .fail
      | some false => match cs[off]? with
        | some v => .ret v
        | none => .fail
      | none => .fail
    | _ => .fail
  | .eptr id i sub => .blk id fun
    | .lst _ xs => .pop fun
      | some (.el _ d) => .req (xs[i]? = some d) (cellOf P t sub d)
      | some _ => .fail
      | none => match xs[i]? with | some d => cellOf P t sub d | none => .fail
    | .lst2 _ xss => match kindT P t with
      | some false => .pop fun
        | some (.ls ys) => .req (xss[i]? = some (some ys)) (.ret (.inn id i))
        | some _ => .fail
        | none => match xss[i]? with | some (some _) => .ret (.inn id i) | _ => .fail
      | _ => .fail
    | _ => .fail
  | .iptr id i k => .blk id fun
    | .lst2 _ xss => .pop fun
      | some (.el _ d) => .req (∃ ys, xss[i]? = some (some ys) ∧ ys[k]? = some d) (cellOf P t 0 d)
      | some _ => .fail
      | none => match xss[i]? with | some (some ys) => (match ys[k]? with | some d => cellOf P t 0 d | none => .fail) | _ => .fail
    | _ => .fail
  | .dptr x sub => cellOf P t sub x
  | _ => .fail

def cellsV : V → Option (List V)
  | .d (.agg ds) => some (ds.map .d)
  | .agg cs => some cs
  | .tup _ => none
  | .undef => none
  | .void => none
  | v => some [v]

def aggCells : V → Option (List V)
  | .d (.agg ds) => some (ds.map .d)
  | .agg cs => some cs
  | _ => none

def over (cs : List V) (off : Nat) (vs : List V) : List V := cs.take off ++ vs ++ cs.drop (off + vs.length)

def notAgg : D → Bool
  | .agg _ => false
  | _ => true

def plainD : V → Q D
  | .d x => .ret x
  | .emp _ => .ret (.sl [])
  | .nnil => .ret (.sl [])
  | _ => .fail

/-- A list that is cut, from its beginning. -/
def cutOf : V → Option (Nat × Nat)
  | .win l 0 n => some (l, n)
  | _ => none

def storeQ (t : TypeId) (a v : V) : Q Patch :=
  match a with
  | .ptr id off => .blk id fun
    | .box cs => match cutOf v with
      | some (l, n) => .blk l fun
        | .lst e xs => if l = id then .fail else match szOf P t with
          | some 1 => if off + 1 ≤ cs.length then .ret { bsets := [(l, .lst e (xs.take n)), (id, .box (over (cs.map (kill1 l .gone)) off [.arr l]))], kill := [(l, .gone)] } else .fail
          | _ => .fail
        | _ => .fail
      | none => match cellsV v, szOf P t with
        | some vs, some sz => if vs.length = sz ∧ off + sz ≤ cs.length then .ret { bsets := [(id, .box (over cs off vs))] } else .fail
        | _, _ => .fail
    | _ => .fail
  | .eptr id i sub => .shp id fun
    | .lst e _ => (plainD v).bind fun x => match szOf P t, szOf P e with
      | some sz, some wd =>
        if sub = 0 ∧ sz = wd ∧ x.cells.length = wd then .ret { mods := [(id, i, x)] }
        else if sz = 1 ∧ notAgg x = true then .blk id fun
          | .lst _ xs => .pop fun
            | some (.el _ (.agg ds)) => .req (xs[i]? = some (.agg ds)) (if sub < ds.length ∧ ds.length = wd then .ret { mods := [(id, i, .agg (ds.set sub x))] } else .fail)
            | some _ => .fail
            | none => match xs[i]? with
              | some (.agg ds) => if sub < ds.length ∧ ds.length = wd then .ret { mods := [(id, i, .agg (ds.set sub x))] } else .fail
              | _ => .fail
          | _ => .fail
        else .fail
      | _, _ => .fail
    | .lst2 _ _ => .blk id fun
      | .lst2 s xss => match v with
        | .arr l => if l = id then .fail else .blk l fun
          | .lst e ys => if elemOf P s = some e ∧ szOf P t = some 1 ∧ sub = 0 then .ret { bsets := [(l, .dead), (id, .lst2 s (xss.set i (some ys)))], kill := [(l, .gone), (id, .inner)] } else .fail
          | _ => .fail
        | _ => .fail
      | _ => .fail
    | _ => .fail
  | _ => .fail

def boundQ (v : Option V) (dflt : Nat) (k : Int → Q Patch) : Q Patch :=
  match v with
  | none => k dflt
  | some (.d (.int _ n)) => k n
  | _ => .fail

def maxItems : Nat := 2 ^ 40

def widthsQ {α : Type} (ys : List D) (sz : Nat) (k : Q α) : Q α := .pop fun
  | some .own => .req (∀ y ∈ ys, y.cells.length = sz) k
  | _ => if ys.all (fun y => y.cells.length == sz) then k else .fail

def roomQ {α : Type} (n : Nat) (k : Q α) : Q α := .pop fun
  | some _ => .req (n ≤ maxItems) k
  | none => if n ≤ maxItems then k else .fail

/-- Bounds of a slice expression, both told. -/
def cutQ (lo hi : Option V) (len : Nat) (k : Nat → Nat → Q Patch) : Q Patch :=
  boundQ lo 0 fun l => boundQ hi len fun h => .pop fun
    | some (.cut a b) => .req (l = (a : Int) ∧ h = (b : Int) ∧ a ≤ b ∧ b ≤ len) (k a b)
    | some _ => .fail
    | none => if 0 ≤ l ∧ l ≤ h ∧ h ≤ len then k l.toNat h.toNat else .fail

def sliceQ (dst : Option Nat) (t : TypeId) (x : V) (lo hi mx : Option V) : Q Patch :=
  match mx with
  | some (.d (.int _ 0)) => match lo, hi, elemOf P t, x with
    | none, some (.d (.int _ 0)), some e, .d (.sl _) => match szOf P e with
      | some _ => .ret (putP dst (.emp false))
      | none => .fail
    | _, _, _, _ => .fail
  | some _ => .fail
  | none => match x with
    | .d (.sl xs) => match elemOf P t with
      | some e => match szOf P e with
        | some sz => cutQ lo hi xs.length fun a b => widthsQ xs sz (.ret (putP dst (.d (.sl ((xs.drop a).take (b - a))))))
        | none => .fail
      | none => .fail
    | .d (.str l) => match P.underlying t with
      | some .string => cutQ lo hi l.length fun a b => .ret (putP dst (.d (.str ((l.drop a).take (b - a)))))
      | _ => .fail
    | .emp b => match lo, hi, (elemOf P t).bind (szOf P) with
      | none, some (.d (.int _ 0)), some _ => .ret (putP dst (.emp b))
      | _, _, _ => .fail
    | .arr id => .blk id fun
      | .lst e xs => if elemOf P t = some e then cutQ lo hi xs.length fun a b => .ret (putP dst (.win id a (b - a))) else .fail
      | _ => .fail
    | _ => .fail

/-- An empty slice is data. -/
def empD : V → V
  | .emp _ => .d (.sl [])
  | v => v

def zeroD (e : TypeId) : Option D := match zeroC P e with
  | some cs => match kindT P e with
    | some true => (allD (cs.map empD)).map .agg
    | some false => match cs with
      | [.d x] => some x
      | [.emp _] => some (.sl [])
      | _ => none
    | none => none
  | none => none

/-- A list may have elements of this type. -/
def rowOk (e : TypeId) : Bool := match P.info? e with
  | some i => match i.zero with
    | some z => z.cells.size == i.size && decide (0 < i.size) && decide (i.bytes ≤ 128)
    | none => false
  | none => false

def appendQ (dst : Option Nat) (sT : TypeId) (x : V) (ys : List D) : Q Patch :=
  match elemOf P sT with
  | some e => match szOf P e with
    | some sz => if rowOk P e = false then .fail else widthsQ ys sz (match x with
      | .emp _ => roomQ ys.length (.nblk fun n => .ret { putP dst (.arr n) with push := [.lst e ys] })
      | .arr id => .blk id fun
        | .lst e' xs => if e' = e then roomQ (xs.length + ys.length) (.ret { putP dst (.arr id) with bsets := [(id, .lst e (xs ++ ys))], kill := [(id, .gone)] }) else .fail
        | _ => .fail
      | .win id 0 n => .blk id fun
        | .lst e' xs => if e' = e then roomQ (n + ys.length) (.ret { putP dst (.arr id) with bsets := [(id, .lst e (xs.take n ++ ys))], kill := [(id, .gone)] }) else .fail
        | _ => .fail
      | .inn id i => .blk id fun
        | .lst2 s xss => if elemOf P s = some e then (items (.inn id i)).bind fun xs => roomQ (xs.length + ys.length) (.nblk fun n =>
            .ret { putP dst (.arr n) with bsets := [(id, .lst2 s (xss.set i none))], push := [.lst e (xs ++ ys)], kill := [(id, .inner)] }) else .fail
        | _ => .fail
      | _ => .fail)
    | none => .fail
  | none => .fail

/-- A list grows by zeros. -/
def zerosQ (dst : Option Nat) (sT : TypeId) (x : V) (m : Nat) : Q Patch :=
  match elemOf P sT with
  | some e => match zeroD P e, szOf P e with
    | some z, some sz => if rowOk P e = false ∨ z.cells.length ≠ sz ∨ (elemOf P e).isSome = true then .fail else match x with
      | .emp _ => roomQ m (.nblk fun n => .ret { putP dst (.arr n) with push := [.lst e (List.replicate m z)] })
      | _ => .fail
    | _, _ => .fail
  | none => .fail

def isStr : V → Bool
  | .d (.str _) => true
  | _ => false

def builtinQ (b : Builtin) (dst : Option Nat) (ts : List TypeId) (vs : List V) : Q Patch :=
  match b, ts, vs with
  | .len, t :: _, [v] => (lenV P t v).bind fun r => .ret (putP dst r)
  | .cap, t :: _, [.emp _] => match P.underlying t with
    | some (.slice _) => .ret (putP dst (.d (.int .i64 0)))
    | _ => .fail
  | .max, _, .d (.int k a) :: .d (.int k' b) :: [] => if k = k' then (popInt (if b > a then b else a) k).bind fun r => .ret (putP dst r) else .fail
  | .min, _, .d (.int k a) :: .d (.int k' b) :: [] => if k = k' then (popInt (if b < a then b else a) k).bind fun r => .ret (putP dst r) else .fail
  | .append, [sT, xT], [x, y] =>
    match P.underlying xT with
    | some (.int _) => match y with
      | .d (.int _ n) => .pop fun
        | some (.len m) => .req (n = (m : Int)) (zerosQ P dst sT x m)
        | some _ => .fail
        | none => if 0 ≤ n then zerosQ P dst sT x n.toNat else .fail
      | _ => .fail
    | some (.slice _) | some .string => (items y).bind fun ys => appendQ P dst sT x ys
    | _ => .fail
  | .copy, [sT, _], [x, y] => if isStr y then .fail else (items y).bind fun ys => match elemOf P sT with
    | some e => match szOf P e with
      | some sz => match x with
        | .arr id => .blk id fun
          | .lst e' xs => if e' = e then widthsQ ys sz (.ret { putP dst (.d (.int .i64 (min xs.length ys.length : Nat))) with bsets := [(id, .lst e (xs.take 0 ++ ys.take xs.length ++ xs.drop (0 + min xs.length ys.length)))] }) else .fail
          | _ => .fail
        | .win id lo n => .blk id fun
          | .lst e' xs => if e' = e ∧ lo + n ≤ xs.length then widthsQ ys sz (.ret { putP dst (.d (.int .i64 (min n ys.length : Nat))) with bsets := [(id, .lst e (xs.take lo ++ ys.take n ++ xs.drop (lo + min n ys.length)))] }) else .fail
          | _ => .fail
        | _ => .fail
      | none => .fail
    | none => .fail
  | _, _, _ => .fail

/-- References renamed, for a call that sees some blocks alone, and back. -/
def map0 (ρ : Nat → Option Nat) : V → Option V
  | .ptr id off => (ρ id).map (.ptr · off)
  | .arr id => (ρ id).map .arr
  | .inn id i => (ρ id).map (.inn · i)
  | .win id lo n => (ρ id).map (.win · lo n)
  | .eptr id i s => (ρ id).map (.eptr · i s)
  | .iptr id i k => (ρ id).map (.iptr · i k)
  | .func _ _ | .iface _ _ | .agg _ | .tup _ => none
  | v => some v
def mapL0 (ρ : Nat → Option Nat) : List V → Option (List V)
  | [] => some []
  | v :: r => match map0 ρ v, mapL0 ρ r with
    | some x, some y => some (x :: y)
    | _, _ => none
def map1 (ρ : Nat → Option Nat) : V → Option V
  | .func f cap => (mapL0 ρ cap).map (.func f)
  | .iface t v => (map0 ρ v).map (.iface t)
  | .agg cs => (mapL0 ρ cs).map .agg
  | v => map0 ρ v
def mapL1 (ρ : Nat → Option Nat) : List V → Option (List V)
  | [] => some []
  | v :: r => match map1 ρ v, mapL1 ρ r with
    | some x, some y => some (x :: y)
    | _, _ => none
def map2 (ρ : Nat → Option Nat) : V → Option V
  | .tup cs => (mapL1 ρ cs).map .tup
  | v => map1 ρ v
def mapB (ρ : Nat → Option Nat) : B → Option B
  | .box cs => (mapL1 ρ cs).map .box
  | b => some b
def mapBs (ρ : Nat → Option Nat) : List B → Option (List B)
  | [] => some []
  | v :: r => match mapB ρ v, mapBs ρ r with
    | some x, some y => some (x :: y)
    | _, _ => none

def ids0 : V → List Nat
  | .arr id | .inn id _ | .win id _ _ | .ptr id _ | .eptr id _ _ | .iptr id _ _ => [id]
  | _ => []
def ids1 : V → List Nat
  | .func _ cap => cap.flatMap ids0
  | .iface _ x => ids0 x
  | .agg cs => cs.flatMap ids0
  | v => ids0 v
def idsV : V → List Nat
  | .tup xs => xs.flatMap ids1
  | v => ids1 v
def idsB : B → List Nat
  | .box cs => cs.flatMap ids1
  | _ => []

def blksQ : List Nat → Q (List B)
  | [] => .ret []
  | i :: r => .blk i fun b => (blksQ r).bind fun bs => .ret (b :: bs)

/-- The blocks that can be reached from some. -/
def reachQ : Nat → List Nat → Q (List Nat)
  | 0, ids => .ret ids
  | n + 1, ids => (blksQ ids).bind fun bs => match ((bs.flatMap idsB).filter fun i => !ids.contains i).eraseDups with
    | [] => .ret ids
    | new => reachQ n (ids ++ new)

/-- With the boxes that refer to them. -/
def reach2Q (ids : List Nat) : Q (List Nat) := (reachQ 8 ids).bind fun ids => .nblk fun n => (blksQ (List.range n)).bind fun all =>
  match (List.range n).filter (fun b => !ids.contains b && (match all[b]? with | some (.box cs) => (idsB (.box cs)).any ids.contains | _ => false)) with
  | [] => .ret ids
  | more => reachQ 8 (ids ++ more)

def nodupB : List Nat → Bool
  | [] => true
  | i :: r => !r.contains i && nodupB r

def callable (f : Nat) : Bool := match P.funcs[f]? with
  | some fn => fn.body.isSome && !(fn.name == "runtime.NumGoroutine")
  | none => false

def doneQ (dst : Option Nat) (r : V) (bsets : List (Nat × B)) (push : List B) (kill : List (Nat × KK)) : Q Patch :=
  match (lay 0 r).2 with
  | [] => .ret { sets := (putP dst r).sets, bsets := bsets, push := push, kill := kill }
  | _ => .nblk fun n => .ret { sets := (putP dst (lay (n + push.length) r).1).sets, bsets := bsets, push := push ++ (lay (n + push.length) r).2, kill := kill }

/-- A call with blocks: its numbers of blocks are the places in ids. -/
def fullQ (dst : Option Nat) (ids : List Nat) (r : V) (bs' : List B) : Q Patch := .nblk fun n =>
  if bs'.length < ids.length ∨ ids.all (fun i => decide (i < n)) = false then .fail else
  let all := ids ++ (List.range (bs'.length - ids.length)).map (n + ·)
  match map2 (all[·]?) r, mapBs (all[·]?) bs' with
  | some r, some bs => doneQ dst r (ids.zip bs) (bs.drop ids.length) (ids.map (·, .gone))
  | _, _ => .fail

def seen (ids : List Nat) (i : Nat) : Option Nat := if ids.contains i then some (ids.idxOf i) else none

/-- A call, by the oracle. -/
def callOrc (wr : Nat → Bool) (dst : Option Nat) (f : Nat) (as : List V) : Q Patch :=
  if !wr f && as.all (fun | .d _ => true | .emp _ => true | .arr _ => true | .agg _ => true | .win _ _ _ => true | _ => false) && as.all (fun | .agg cs => cs.all (fun | .d _ => true | .emp _ => true | .arr _ => true | _ => false) | _ => true) then
      (toAL as).bind fun as' => .call f as' [] fun r bs' => if bs'.isEmpty = true ∧ (as.flatMap refs = [] ∨ r.safe = true) then (match map2 (fun _ => none) r with | some r => doneQ dst r [] [] [] | none => .fail) else .fail
    else (reach2Q (as.flatMap ids1).eraseDups).bind fun ids => if nodupB ids = false then .fail else (blksQ ids).bind fun bs => match mapL1 (seen ids) as, mapBs (seen ids) bs with
      | some as, some bs => .call f as bs fun r bs' => fullQ dst ids r bs'
      | _, _ => .fail

/-- A call: what it is, told by the script: plain data alone, or with blocks. -/
def callQ (wr : Nat → Bool) (ICall : Nat → List V → List B → V → List B → Prop) (dst : Option Nat) (f : Nat) (as : List V) : Q Patch :=
  if callable P f = false then .fail else .pop fun
  | some (.ret r) => (toDL as).bind fun ds => .req (ICall f (ds.map .d) [] r [] ∧ (as.flatMap refs = [] ∨ r.safe = true)) (match map2 (fun _ => none) r with | some r => doneQ dst r [] [] [] | none => .fail)
  | some .raw => callOrc wr dst f as
  | some (.icall ids r bs') => if nodupB ids = false then .fail else (blksQ ids).bind fun bs => match mapL1 (seen ids) as, mapBs (seen ids) bs with
    | some as, some bs => .req (ICall f as bs r bs') (fullQ dst ids r bs')
    | _, _ => .fail
  | some _ => .fail
  | none => callOrc wr dst f as

def fillP (places : Nat → Option (Nat × Nat)) (cells : List V) : List (Nat × V) → Option (List V)
  | [] => some cells
  | (i, v) :: r => match places i, cellsV v with
    | some (off, sz), some vs => if vs.length = sz ∧ off + sz ≤ cells.length ∧ vs.all simple0 = true then fillP places (over cells off vs) r else none
    | _, _ => none

def plainParts : List (Nat × Operand) → Q (List (Nat × V))
  | [] => .ret []
  | (i, x) :: r => (opd x).bind fun v => (plainParts r).bind fun l => .ret ((i, v) :: l)

def buildV (t : TypeId) (parts : List (Nat × V)) : Option V :=
  match zeroC P t, P.underlying t with
  | some z, some (.struct fs) => if fs.all (fun f => (szOf P f.type).isSome) = false then none else (fillP (fun i => (fs[i]?).bind fun f => (szOf P f.type).map fun n => (f.offset, n)) z parts).map mkAgg
  | some z, some (.array _ e) => match szOf P e with
    | some sz => (fillP (fun i => some (i * sz, sz)) z parts).map mkAgg
    | none => none
  | _, _ => none

def chunk (sz : Nat) : Nat → List V → Option (List D)
  | 0, _ => some []
  | n + 1, cs => match allD ((cs.take sz).map empD), chunk sz n (cs.drop sz) with
    | some [x], some r => some ((if sz = 1 then x else .agg [x]) :: r)
    | some xs, some r => some (.agg xs :: r)
    | _, _ => none

variable (wr : Nat → Bool) (ICall : Nat → List V → List B → V → List B → Prop)

/-- The method behind an interface: its function, and the receiver. -/
def methQ (t : TypeId) (v : V) (name : String) : Q (Nat × V) :=
  match P.info? t with
  | some i => match i.methods.find? (·.name == name) with
    | some m => if m.path.size = 0 then (match m.func, P.underlying t, v with
      | some (f, true), some (.pointer _), v => .ret (f, v)
      | some (f, false), some (.pointer e), .ptr id off => (loadV P e (.ptr id off)).bind fun x => .ret (f, x)
      | some (_, false), some (.pointer _), _ => .fail
      | some (f, false), some _, v => .ret (f, v)
      | _, _, _ => .fail) else .fail
    | none => .fail
  | none => .fail

/-- A new slice of k elements: a list, or a list of lists. -/
def makeQ (dst : Option Nat) (e : TypeId) (two : Bool) (z : D) (k : Nat) : Q Patch :=
  if two = true then (match (elemOf P e).bind (szOf P), szOf P e, zeroC P e with
    | some _, some 1, some [.emp _] => .nblk fun b => .ret { putP dst (.arr b) with push := [.lst2 e (List.replicate k (some []))] }
    | _, _, _ => .fail)
  else .nblk fun b => .ret { putP dst (.arr b) with push := [.lst e (List.replicate k z)] }

def evOp (lit : Bool) (o : Oper) : Q Patch :=
  match o.op with
  | .move x | .assign x => (opd x).bind fun v => .ret (putP o.dst v)
  | .pick c a b => (opd c).bind fun
    | .d (.bool t) => (opd (if t then a else b)).bind fun v => .ret (putP o.dst v)
    | _ => .fail
  | .alloc t => match zeroC P t with
    | some cs => .nblk fun n => .ret { putP o.dst (.ptr n 0) with push := [.box cs] }
    | none => .fail
  | .box t x => (opd x).bind fun v => match cellsV v, szOf P t with
    | some cs, some sz => if cs.length = sz then .nblk fun n => .ret { putP o.dst (.ptr n 0) with push := [.box cs] } else .fail
    | _, _ => .fail
  | .build t parts => (plainParts parts.toList).bind fun l => match buildV P t l with
    | some v => .ret (putP o.dst v)
    | none => .fail
  | .buildSlice t len parts => match elemOf P t, (elemOf P t).bind (szOf P), (elemOf P t).bind (zeroC P) with
    | some e, some sz, some z => (plainParts parts.toList).bind fun l =>
      if len = 0 then if parts.size ≠ 0 ∨ rowOk P e = false then .fail else .pop fun
        | some .own => .nblk fun n => .ret { putP o.dst (.arr n) with push := [.lst e []] }
        | _ => .ret (putP o.dst (.emp false))
      else if len * sz > 2 ^ 24 ∨ z.length ≠ sz ∨ sz = 0 then .fail else
      match fillP (fun i => some (i * sz, sz)) ((List.replicate len z).flatten) l with
      | some cs => match chunk sz len cs with
        | some xs => .pop fun i => if (match i with | some .own => true | some _ => false | none => lit) then
            (if rowOk P e = true then .nblk fun n => .ret { putP o.dst (.arr n) with push := [.lst e xs] } else .fail)
          else .ret (putP o.dst (.d (.sl xs)))
        | none => .fail
      | none => .fail
    | _, _, _ => .fail
  | .load t a => (opd a).bind fun v => (loadV P t v).bind fun r => .ret (putP o.dst r)
  | .store t a x => (opd a).bind fun a => (opd x).bind fun v => storeQ P t a v
  | .nilCheck x => (opd x).bind fun
    | .ptr i k => .ret (putP o.dst (.ptr i k))
    | .func f c => .ret (putP o.dst (.func f c))
    | .iface t v => .ret (putP o.dst (.iface t v))
    | _ => .fail
  | .binOp op t x y _ => (opd x).bind fun a => (opd y).bind fun b => (binV P (isConst y) op t a b).bind fun r => .ret (putP o.dst r)
  | .unOp op _ x => (opd x).bind fun a => (unV op a).bind fun r => .ret (putP o.dst r)
  | .convert src dst x => (opd x).bind fun v => (convV P src dst v).bind fun r => .ret (putP o.dst r)
  | .makeInterface t x => (opd x).bind fun v => match P.underlying t with
    | none | some (.interface _) => .fail
    | some _ => if simple0 v then .ret (putP o.dst (.iface t v)) else .fail
  | .makeFunc fn first cap => match fn with
    | .func f => (opds cap.toList).bind fun vs => if first.size = 0 ∧ vs.all simple0 = true then .ret (putP o.dst (.func f vs)) else .fail
    | _ => .fail
  | .makeSlice t l c => (opd l).bind fun lv => (opd c).bind fun cv => match lv, cv, elemOf P t with
    | .d (.int _ n), .d (.int _ m), some e => match szOf P e, zeroD P e with
      | some sz, some z => if rowOk P e = false ∨ z.cells.length ≠ sz then .fail else .pop fun
        | some (.len k) => .req (n = (k : Int) ∧ m = (k : Int) ∧ k ≤ maxItems) (makeQ P o.dst e false z k)
        | some (.ix k) => .req (n = (k : Int) ∧ m = (k : Int) ∧ k ≤ maxItems) (makeQ P o.dst e true z k)
        | some _ => .fail
        | none => if 0 ≤ n ∧ n ≤ maxItems ∧ n = m then makeQ P o.dst e (elemOf P e).isSome z n.toNat else .fail
      | _, _ => .fail
    | _, _, _ => .fail
  | .slice t x lo hi mx => (opd x).bind fun v => (opds (lo.toList)).bind fun lo => (opds hi.toList).bind fun hi => (opds mx.toList).bind fun mx => sliceQ P o.dst t v lo.head? hi.head? mx.head?
  | .fieldAddr t x i => (opd x).bind fun v => match P.underlying t with
    | some (.struct fs) => match fs[i]? with
      | some f => match szOf P f.type with
        | some (_ + 1) => match v with
          | .ptr id off => .ret (putP o.dst (.ptr id (off + f.offset)))
          | .eptr id k s => .blk id fun | .lst _ _ => .ret (putP o.dst (.eptr id k (s + f.offset))) | _ => .fail
          | .dptr x s => .ret (putP o.dst (.dptr x (s + f.offset)))
          | _ => .fail
        | _ => .fail
      | none => .fail
    | _ => .fail
  | .field t x i => (opd x).bind fun v => match P.underlying t with
    | some (.struct fs) => match fs[i]? with
      | some f => match kindT P f.type, aggCells v with
        | some false, some cs => match cs[f.offset]? with
          | some v => .ret (putP o.dst v)
          | none => .fail
        | _, _ => .fail
      | none => .fail
    | _ => .fail
  | .indexAddr t x ix => (opd x).bind fun v => (opd ix).bind fun i => (indexAddrV P t (isConst ix) v i).bind fun r => .ret (putP o.dst r)
  | .index t x ix => (opd x).bind fun v => (opd ix).bind fun i => match P.underlying t, v with
    | some .string, .d (.str l) => match i with
      | .d (.int _ n) => .pop fun
        | some (.by k b) => .req (n = (k : Int) ∧ l[k]? = some b) (.ret (putP o.dst (.d (u8 b))))
        | some _ => .fail
        | none => if 0 ≤ n then (match l[n.toNat]? with | some b => .ret (putP o.dst (.d (u8 b))) | none => .fail) else .fail
      | _ => .fail
    | some (.array len e), v => match kindT P e, szOf P e, aggCells v with
      | some false, some 1, some cs => match i with
        | .d (.int _ n) => if isConst ix then (if 0 ≤ n ∧ n < len then (match cs[n.toNat]? with | some x => .ret (putP o.dst x) | none => .fail) else .fail)
          else (ixQ i len fun k => match cs[k]? with | some x => .ret x | none => .fail).bind fun r => .ret (putP o.dst r)
        | _ => .fail
      | _, _, _ => .fail
    | _, _ => .fail
  | .typeAssert x _ t ok => (opd x).bind fun
    | .iface t' v => if t = t' then (match P.underlying t with
        | none | some (.interface _) => .fail
        | some _ => .ret (putP o.dst (if ok then .tup [v, .d (.bool true)] else v))) else .fail
    | _ => .fail
  | .extract x i => (opd x).bind fun
    | .tup vs => match vs[i]? with
      | some v => .ret (putP o.dst v)
      | none => .fail
    | _ => .fail
  | .call c => (opds c.args.toList).bind fun vs => match c.callee with
    | .builtin b => builtinQ P b o.dst c.argTypes.toList vs
    | .value f => (opd f).bind fun
      | .func f cap => callQ P wr ICall o.dst f (vs ++ cap)
      | _ => .fail
    | .invoke x name => (opd x).bind fun
      | .iface t v => (methQ P t v name).bind fun (f, r) => callQ P wr ICall o.dst f (r :: vs)
      | _ => .fail
  | _ => .fail

/-! ### code -/

def wantedV (s : St) (ops : List Oper) (o : Oper) : Option Bool :=
  match o.guard with
  | none => some true
  | some (j, want) => match (ops[j]?).bind (·.dst) with
    | some t => match s.slot t with
      | .d (.bool b) => some (b == want)
      | .void => some false
      | _ => none
    | none => none

/-- A list that is only read from now on: its references are data. -/
def freeze (id : Nat) (s : St) : St := match s.blks[id]? with
  | some (.lst _ xs) => ⟨s.slots.map (kill1 id (.frz (.sl xs))), (s.blks.map (killB id (.frz (.sl xs)))).set id .dead⟩
  | _ => s
def ptrArg : V → Bool
  | .ptr _ _ | .func _ (_ :: _) | .iface _ _ | .eptr _ _ _ | .iptr _ _ _ => true
  | _ => false
def arrId : V → Option Nat
  | .arr i => some i
  | _ => none
def reachS (s : St) : Nat → List Nat → List Nat
  | 0, ids => ids
  | n + 1, ids => match (ids.flatMap fun i => idsB (s.blk i)).filter (fun i => !ids.contains i) |>.eraseDups with
    | [] => ids
    | new => reachS s n (ids ++ new)
def frozen (held : List Nat) : List Nat → St → St
  | [], s => s
  | i :: r, s => frozen held r (if held.contains i then s else freeze i s)
def argV (s : St) : Operand → V
  | .tmp t => s.slot t
  | _ => .undef
/-- Before a call that may write: lists that it gets, and cannot reach otherwise, are only read from now on. -/
def prep (s : St) (o : Oper) : St := match o.op with
  | .call c =>
    let as := c.args.toList.map (argV s)
    let all := match c.callee with
      | .builtin _ => []
      | .value f => argV s f :: as
      | .invoke x _ => argV s x :: as
    if all.any ptrArg then frozen (reachS s 8 ((all.filter ptrArg).flatMap ids1)) (as.filterMap arrId) s else s
  | _ => s

def voidP (o : Oper) : Patch := match o.dst with | some d => { sets := [(d, .void)] } | none => {}

def evOps (lit : Bool) (O : Orc) (all : List Oper) : List Oper → St → Script → Option (St × Script × List Prop)
  | [], s, sc => some (s, sc, [])
  | o :: r, s, sc => match wantedV s all o with
    | some true => match (evOp P wr ICall lit o).run O (prep s o) sc with
      | some (p, sc, ps) => match evOps lit O all r (p.apply (prep s o)) sc with
        | some (s, sc, qs) => some (s, sc, ps ++ qs)
        | none => none
      | none => none
    | some false => evOps lit O all r ((voidP o).apply s) sc
    | none => none

/-- An operation of a region that draws its order: what it reads and writes, with the values, and behind what it stands. -/
structure Rec where
  dst : Option Nat
  reads : List Nat
  blks : List Nat
  shps : List Nat
  nb : Bool
  push : Bool
  wr : List Nat
  mw : List Nat
  kl : List Nat
  frz : Bool
  vals : List V
  bvals : List B
  edges : List Nat

def edgesOf (o : Oper) : List Nat := (o.after.toList.filter (Region.binds .any)).map (·.on)

def guardSlots (all : List Oper) (o : Oper) : List Nat := match o.guard with
  | none => []
  | some (j, _) => ((all[j]?).bind (·.dst)).toList

def isFrz : KK → Bool
  | .frz _ => true
  | _ => false

def recOf (all : List Oper) (o : Oper) (s : St) (p : Patch) (l : Log) : Rec :=
  { dst := o.dst, reads := guardSlots all o ++ l.slots, blks := l.blks, shps := l.shps, nb := l.nb, push := !p.push.isEmpty, wr := p.bsets.map (·.1), mw := p.mods.map (·.1), kl := p.kill.map (·.1), frz := p.kill.any fun k => isFrz k.2,
    vals := p.sets.map (·.2) ++ (guardSlots all o ++ l.slots).map s.slot, bvals := p.bsets.map (·.2) ++ p.push ++ l.blks.map s.blk, edges := edgesOf o }

def evRecs (lit : Bool) (O : Orc) (all : List Oper) : List Oper → St → Script → Option (St × Script × List Prop × List Rec)
  | [], s, sc => some (s, sc, [], [])
  | o :: r, s, sc => match wantedV s all o with
    | some true => match (evOp P wr ICall lit o).runL O s sc with
      | some (p, sc, ps, l) => if p.sets.all (fun x => some x.1 == o.dst) = false then none else match evRecs lit O all r (p.apply s) sc with
        | some (s2, sc, qs, rs) => some (s2, sc, ps ++ qs, recOf all o s p l :: rs)
        | none => none
      | none => none
    | some false => match evRecs lit O all r ((voidP o).apply s) sc with
      | some (s2, sc, qs, rs) => some (s2, sc, qs, recOf all o s (voidP o) {} :: rs)
      | none => none
    | none => none

/-- No reference in it that is gone; none to some blocks. -/
def clean0 : V → Bool
  | .undef => false
  | _ => true
def clean1 : V → Bool
  | .agg cs => cs.all clean0
  | .func _ cap => cap.all clean0
  | .iface _ v => clean0 v
  | .undef => false
  | _ => true
def cleanB : B → Bool
  | .box cs => cs.all clean1
  | _ => true
def noTup : V → Bool
  | .tup _ => false
  | _ => true
/-- The blocks with whose references a loss deals. -/
def kids0 : V → List Nat
  | .arr id | .inn id _ | .win id _ _ | .eptr id _ _ | .iptr id _ _ => [id]
  | _ => []
def kids1 : V → List Nat
  | .func _ cap => cap.flatMap kids0
  | .iface _ x => kids0 x
  | .agg cs => cs.flatMap kids0
  | v => kids0 v
def fixV (kl : List Nat) (v : V) : Bool := noTup v && (kids1 v).all fun i => !kl.contains i
def fixB (kl : List Nat) : B → Bool
  | .box cs => cs.all (fixV kl)
  | _ => true

/-- What x does leaves what y reads, and makes, as it is. -/
def leavesB (n : Nat) (x y : Rec) : Bool :=
  !x.frz && (match x.dst with | some d => !y.reads.contains d && y.dst != some d | none => true) &&
  x.wr.all (fun i => decide (i < n) && !y.blks.contains i && !y.shps.contains i && !y.wr.contains i && !y.mw.contains i) && x.mw.all (fun i => decide (i < n) && !y.blks.contains i && !y.wr.contains i && !y.mw.contains i) &&
  (!x.push || (!y.nb && y.blks.all (fun i => decide (i < n)) && y.shps.all (fun i => decide (i < n)))) &&
  (x.kl.isEmpty || (y.vals.all (fun v => fixV x.kl v && clean1 v) && y.bvals.all (fun b => fixB x.kl b && cleanB b)))
def apartB (n : Nat) (x y : Rec) : Bool := leavesB n x y && leavesB n y x && !(x.push && y.push) && (x.kl.isEmpty || y.kl.isEmpty)

/-- Behind what each stands, first or last. -/
def befs : List (List Nat) → List Rec → List (List Nat)
  | acc, [] => acc
  | acc, r :: rs => befs (acc ++ [r.edges ++ r.edges.flatMap fun e => (acc[e]?).getD []]) rs

def orderB (n : Nat) (rs : List Rec) : Bool :=
  let bs := befs [] rs
  (List.range rs.length).all fun k => match rs[k]?, bs[k]? with
    | some y, some b => y.edges.all (fun e => decide (e < k)) && (List.range k).all fun i => b.contains i || (match rs[i]? with | some x => apartB n x y | none => false)
    | _, _ => false

/-- A store has no result. -/
def noDstB (o : Oper) : Bool := match o.op with
  | .store _ _ _ => o.dst.isNone
  | _ => true

def evRegion (lit : Bool) (O : Orc) (ops : List Oper) (draw : Bool) (s : St) (sc : Script) : Option (St × Script × List Prop) :=
  if ops.all noDstB = false then none else if draw then match evRecs P wr ICall lit O ops ops s sc with
    | some (s', sc', ps, rs) => if orderB s.blks.length rs then some (s', sc', ps) else none
    | none => none
  else evOps P wr ICall lit O ops ops s sc

def ev (lit : Bool) (O : Orc) : Nat → Code → St → Script → Option (Ex × St × Script × List Prop)
  | 0, _, _, _ => none
  | n + 1, c, s, sc => match c with
    | .skip | .label _ => some (.normal, s, sc, [])
    | .region _ ops draw => match evRegion P wr ICall lit O ops.toList draw s sc with
      | some (s, sc, ps) => some (.normal, s, sc, ps)
      | none => none
    | .seq a b => match ev lit O n a s sc with
      | some (.normal, s, sc, ps) => match ev lit O n b s sc with
        | some (e, s, sc, qs) => some (e, s, sc, ps ++ qs)
        | none => none
      | r => r
    | .cond c a b => match c with
      | .tmp t => match s.slot t with
        | .d (.bool true) => ev lit O n a s sc
        | .d (.bool false) => ev lit O n b s sc
        | _ => none
      | .const (.bool true) => ev lit O n a s sc
      | .const (.bool false) => ev lit O n b s sc
      | _ => none
    | .block id a => match ev lit O n a s sc with
      | some (.exit j, s, sc, ps) => if j = id then some (.normal, s, sc, ps) else some (.exit j, s, sc, ps)
      | r => r
    | .loop a => match sc with
      | none => match ev lit O n a s none with
        | some (.normal, s, _, ps) => match ev lit O n (.loop a) s none with
          | some (e, s, sc, qs) => some (e, s, sc, ps ++ qs)
          | none => none
        | r => r
      | some _ => none
    | .scope a => ev lit O n a s sc
    | .exit id => some (.exit id, s, sc, [])
    | .ret => some (.ret, s, sc, [])
    | _ => none

/-- A result as it leaves the function: lists of its own are the caller's. -/
def leave0 (s : St) (n1 : Nat) : V → Option V
  | .arr id => if id < n1 then some (.arr id) else match s.blk id with
    | .lst e xs => some (.own e xs)
    | .lst2 e xss => some (.own2 e xss)
    | _ => none
  | .win id lo n => if id < n1 then some (.win id lo n) else if lo = 0 then match s.blk id with
    | .lst e xs => if n ≤ xs.length then some (.own e (xs.take n)) else none
    | _ => none else none
  | .ptr id off => if id < n1 then some (.ptr id off) else none
  | .d x => some (.d x)
  | .emp b => some (.emp b)
  | .nnil => some .nnil
  | _ => none
def leaveL (s : St) (n1 : Nat) : List V → Option (List V)
  | [] => some []
  | v :: r => match leave0 s n1 v, leaveL s n1 r with
    | some x, some y => some (x :: y)
    | _, _ => none
def leave1 (s : St) (n1 : Nat) : V → Option V
  | .agg cs => (leaveL s n1 cs).map .agg
  | v => leave0 s n1 v
def leaveT (s : St) (n1 : Nat) : List V → Option (List V)
  | [] => some []
  | v :: r => match leave1 s n1 v, leaveT s n1 r with
    | some x, some y => some (x :: y)
    | _, _ => none
/-- The lists that leave. -/
def lvs0 (n1 : Nat) : V → List Nat
  | .arr id => if id < n1 then [] else [id]
  | .win id _ _ => if id < n1 then [] else [id]
  | _ => []
def lvs1 (n1 : Nat) : V → List Nat
  | .agg cs => cs.flatMap (lvs0 n1)
  | v => lvs0 n1 v

def resultV (s : St) : ResultVar → Option V
  | .tmp t => some (s.slot t)
  | .cell a t => match (loadV P t (s.slot a)).run (fun _ _ _ => none) s (some []) with
    | some (v, _, []) => some v
    | _ => none
def resultsV (s : St) : List ResultVar → Option (List V)
  | [] => some []
  | v :: r => match resultV P s v, resultsV s r with
    | some x, some y => some (x :: y)
    | _, _ => none

def entry (fn : Func) (as : List V) (bs : List B) : St := ⟨as ++ List.replicate (fn.ntmps - as.length) .undef, bs⟩

/-- Does a cell that stays refer to a block that would go? -/
def stays (n1 : Nat) (bs : List B) : Bool := bs.all fun b => (idsB b).all fun i => decide (i < n1)

def one (vs : List V) : V := match vs with
  | [v] => v
  | vs => .tup vs

def finish (fn : Func) (n1 : Nat) (s : St) : Option (V × List B) :=
  match resultsV P s fn.results.toList with
  | some vs =>
    let whole : Option (V × List B) := if (lay 0 (one vs)).2.isEmpty && vs.all (fun | .tup _ => false | _ => true) then some (one vs, s.blks) else none
    if stays n1 (s.blks.take n1) && nodupB (vs.flatMap (lvs1 n1)) && decide (n1 ≤ s.blks.length) then match leaveT s n1 vs with
      | some vs => some (one vs, s.blks.take n1)
      | none => whole
    else whole
  | none => none

/-- Lists of a result, as data. -/
def data0 : V → V
  | .own _ xs => .d (.sl xs)
  | .emp _ => .d (.sl [])
  | v => v
def dataV : V → V
  | .agg cs => mkAgg (cs.map data0)
  | .tup vs => .tup (vs.map fun | .agg cs => mkAgg (cs.map data0) | v => data0 v)
  | v => data0 v

def evF (lits : Nat → Bool) : Nat → Orc
  | 0 => fun _ _ _ => none
  | n + 1 => fun f as bs => match P.funcs[f]? with
    | some fn => match fn.body with
      | some c => match ev P wr ICall (lits f) (evF lits n) 100000 c (entry fn as bs) none with
        | some (.ret, s, _, []) => finish P fn bs.length s
        | some (.normal, s, _, []) => finish P fn bs.length s
        | _ => none
      | none => none
    | none => none

end Go.Proofs.Ytbbefbgomdmldaa.Ab
