/- The abstract machine: typed values, blocks of the call's own, operations in the order of the text, evaluation. Conditions: none, these are definitions. -/
import Derived.Calls
import Derived.Orders
import Derived.Below
import Derived.KernelRfl
namespace Go.Proofs.Ytmmdjajebmihhaa.AM
open Go

/-- The types that a reading can have, laid flat. -/
inductive Ty where
  | bool
  | int (k : IntKind)
  | flt (k : FloatKind)
  | cpx (k : FloatKind)
  | str
  | slice (t : Ty)
  | nil
  | cons (a b : Ty)

/-- What a type's values are. -/
@[reducible] def Den : Ty → Type
  | .bool => Bool
  | .int _ => Int
  | .flt _ => Nat
  | .cpx _ => Nat × Nat
  | .str => ByteArray
  | .slice t => List (Den t)
  | .nil => Unit
  | .cons a b => Den a × Den b

/-- How many cells a value takes. -/
def Ty.size : Ty → Nat
  | .nil => 0
  | .cons a b => a.size + b.size
  | _ => 1

def zero : (t : Ty) → Den t
  | .bool => false
  | .int _ => 0
  | .flt _ => 0
  | .cpx _ => (0, 0)
  | .str => ByteArray.empty
  | .slice _ => []
  | .nil => ()
  | .cons a b => (zero a, zero b)

def same : (a b : Ty) → Option (PLift (a = b))
  | .bool, .bool => some ⟨rfl⟩
  | .int k, .int k' => if h : k = k' then some ⟨by rw [h]⟩ else none
  | .flt k, .flt k' => if h : k = k' then some ⟨by rw [h]⟩ else none
  | .cpx k, .cpx k' => if h : k = k' then some ⟨by rw [h]⟩ else none
  | .str, .str => some ⟨rfl⟩
  | .slice a, .slice b => match same a b with
    | some ⟨h⟩ => some ⟨by rw [h]⟩
    | none => none
  | .nil, .nil => some ⟨rfl⟩
  | .cons a b, .cons a' b' => match same a a', same b b' with
    | some ⟨h⟩, some ⟨h'⟩ => some ⟨by rw [h, h']⟩
    | _, _ => none
  | _, _ => none

/-- The value of one cell. 'nil': a slice without room; 'sl': a slice that nobody writes; 'ref': a slice of the call's own, whole; 'ptr': a cell of a variable; 'eptr', 'rptr': a cell of an element. -/
inductive C where
  | pois
  | bool (b : Bool)
  | int (k : IntKind) (n : Int)
  | flt (k : FloatKind) (b : Nat)
  | cpx (k : FloatKind) (a b : Nat)
  | str (s : ByteArray)
  | nil (t : Ty)
  | sl (t : Ty) (l : List (Den t))
  | ref (t : Ty) (key : Nat)
  | ptr (key off : Nat)
  | eptr (key : Nat) (t : Ty) (i off : Nat)
  | rptr (t : Ty) (l : List (Den t)) (i off : Nat)
  | fn (f : Nat) (caps : List Nat)

/-- The value of an operand: one cell, or a struct's. -/
inductive W where
  | one (c : C)
  | agg (cs : List C)

def W.cells : W → List C
  | .one c => [c]
  | .agg cs => cs

inductive V where
  | val (w : W)
  | tup (ws : List W)

def pois : V := .val (.one .pois)

/-- A block of the call's own: a variable, or a slice's array. -/
inductive Blk where
  | box (cs : List C)
  | arr (t : Ty) (l : List (Den t))

abbrev Get := Nat → Option Blk

def enc : (t : Ty) → Den t → List C
  | .bool, b => [.bool b]
  | .int k, n => [.int k n]
  | .flt k, b => [.flt k b]
  | .cpx k, p => [.cpx k p.1 p.2]
  | .str, s => [.str s]
  | .slice t, l => [.sl t l]
  | .nil, _ => []
  | .cons a b, p => enc a p.1 ++ enc b p.2

/-- Reads a value off the head of some cells. -/
def dec : (t : Ty) → List C → Option (Den t × List C)
  | .bool, .bool b :: r => some (b, r)
  | .int k, .int k' n :: r => if k = k' then some (n, r) else none
  | .flt k, .flt k' n :: r => if k = k' then some (n, r) else none
  | .cpx k, .cpx k' a b :: r => if k = k' then some ((a, b), r) else none
  | .str, .str s :: r => some (s, r)
  | .slice t, .sl t' l :: r => match same t' t with
    | some ⟨h⟩ => some (h ▸ l, r)
    | none => none
  | .slice _, .nil _ :: r => some ([], r)
  | .nil, r => some ((), r)
  | .cons a b, r => match dec a r with
    | some (x, r') => match dec b r' with
      | some (y, r'') => some ((x, y), r'')
      | none => none
    | none => none
  | _, _ => none

/-- What kind of type. -/
inductive Srt where
  | slice
  | array (n : Nat)
  | string
  | struct
  | bool
  | int (k : IntKind)
  | float (k : FloatKind)
  | complex (k : FloatKind)
  | other

structure TI where
  size : Nat
  bytes : Nat
  agg : Bool
  ty : Ty
  zero : List C
  fields : List (Nat × Nat × Bool)
  elem : Nat
  sort : Srt

/-- The meaning of a function: what it makes of values and of blocks that it may write; the first part: whether it may be asked. -/
structure Mean where
  own : Bool
  run : List W → List Blk → Option (Bool × List W × List (Option Blk))

structure St where
  tmps : List (Nat × V)
  mem : List (Nat × Option Blk)
  n : Nat
  m : Nat

/-- How code ends. -/
inductive Ex where
  | normal
  | exit (id : Nat)
  | ret

/-- Another view of a state: 'nil': a temporary's slice without room is one of the call's own; 'boxNil': the same of a variable's cell; 'frz': a temporary's slices are given away; 'frzBox': a variable's slices are given away; 'forget': nothing is known of a temporary; 'sl', 'boxSl': a slice without room is one that nobody writes. -/
inductive Cv where
  | nil (t : Nat)
  | boxNil (t off : Nat)
  | frz (t : Nat)
  | frzBox (t : Nat)
  | forget (t : Nat)
  | sl (t : Nat)
  | boxSl (t off : Nat)

/-- What is noted of a loop: what lives at its head, which of that is the call's own, where it leads, what lives there; its meaning: whether it ends, whether by a return, the state where it leads, the state of the return. -/
structure LoopM where
  live : List Nat
  own : List Cv
  ex : Nat
  past : List Nat
  pown : List Cv
  run : St → Option (Bool × Bool × St × St)

/-- What is noted beside a function: its type's table, its callees, how many temporaries, where its results lie, which calls' results are frozen, what lives behind a test, its loops, what lives behind a block. -/
structure Env where
  tab : Nat → Option TI
  sem : Nat → Option Mean
  eqT : Nat → Bool
  nt : Nat
  res : List ResultVar
  frz : List Nat
  cut : List (Nat × (List Nat × List Cv))
  loops : List (Nat × LoopM)
  past : List (Nat × (List Nat × List Cv))
  rown : List Cv

def look {α : Type} : List (Nat × α) → Nat → Option α
  | [], _ => none
  | (k, x) :: r, t => match Nat.beq k t with
    | true => some x
    | false => look r t

def St.get (s : St) (k : Nat) : Option Blk := match look s.mem k with
  | some b => b
  | none => none

def St.tmpV (s : St) (t : Nat) : V := match look s.tmps t with
  | some v => v
  | none => pois

def St.put (s : St) (t : Nat) (v : V) : St := { s with tmps := (t, v) :: s.tmps }

def St.putO (s : St) (d : Option Nat) (v : V) : St := match d with
  | some t => s.put t v
  | none => s

def constC : Value → C
  | .bool b => .bool b
  | .int k n => .int k n
  | .float k b => .flt k b
  | .complex k a b => .cpx k a b
  | .string s => .str s
  | _ => .pois

def constV : Value → V
  | .agg cs => .val (.agg (cs.toList.map constC))
  | v => .val (.one (constC v))

def St.val (s : St) : Operand → V
  | .tmp t => s.tmpV t
  | .const v => constV v
  | .func f => .val (.one (.fn f []))
  | .global _ => pois

/-! ## Operations on cells -/

def qn : FloatKind → Nat
  | .f32 => 2143289344
  | .f64 => 9221120237041090560

def farith (op : BinOp) (k : FloatKind) (a b : Nat) : Nat :=
  (match op with
    | .add => k.format.add a b
    | .sub => k.format.sub a b
    | .mul => k.format.mul a b
    | _ => k.format.div a b).getD (qn k)

def ibits (op : BinOp) (k : IntKind) (a b : Int) : Int :=
  let x := BitVec.ofInt k.bits a
  let y := BitVec.ofInt k.bits b
  k.wrap ((match op with
    | .and => x &&& y
    | .or => x ||| y
    | .xor => x ^^^ y
    | _ => x &&& ~~~y).toNat : Int)

def feq (k : FloatKind) (a b : Nat) : Bool := k.format.order a b == some .eq
def flt (k : FloatKind) (a b : Nat) : Bool := k.format.order a b == some .lt
def fgt (k : FloatKind) (a b : Nat) : Bool := k.format.order a b == some .gt

def bstr (a b : ByteArray) : Bool := a.toList == b.toList

def binI (op : BinOp) (k : IntKind) (a b : Int) : Option (Bool × C) :=
  match op with
  | .add => some (true, .int k (k.wrap (a + b)))
  | .sub => some (true, .int k (k.wrap (a - b)))
  | .mul => some (true, .int k (k.wrap (a * b)))
  | .quo => some (b != 0, .int k (k.wrap (a.tdiv b)))
  | .rem => some (b != 0, .int k (a.tmod b))
  | .and => some (true, .int k (ibits .and k a b))
  | .or => some (true, .int k (ibits .or k a b))
  | .xor => some (true, .int k (ibits .xor k a b))
  | .andNot => some (true, .int k (ibits .andNot k a b))
  | .eql => some (true, .bool (a == b))
  | .neq => some (true, .bool (a != b))
  | .lss => some (true, .bool (decide (a < b)))
  | .leq => some (true, .bool (decide (a ≤ b)))
  | .gtr => some (true, .bool (decide (a > b)))
  | .geq => some (true, .bool (decide (a ≥ b)))
  | _ => none

def binF (op : BinOp) (k : FloatKind) (a b : Nat) : Option C :=
  match op with
  | .add => some (.flt k (farith .add k a b))
  | .sub => some (.flt k (farith .sub k a b))
  | .mul => some (.flt k (farith .mul k a b))
  | .quo => some (.flt k (farith .quo k a b))
  | .eql => some (.bool (feq k a b))
  | .neq => some (.bool (!feq k a b))
  | .lss => some (.bool (flt k a b))
  | .leq => some (.bool (flt k a b || feq k a b))
  | .gtr => some (.bool (fgt k a b))
  | .geq => some (.bool (fgt k a b || feq k a b))
  | _ => none

def binX (op : BinOp) (k : FloatKind) (a b c d : Nat) : Option C :=
  match op with
  | .add => some (.cpx k (farith .add k a c) (farith .add k b d))
  | .sub => some (.cpx k (farith .sub k a c) (farith .sub k b d))
  | .eql => some (.bool (feq k a c && feq k b d))
  | .neq => some (.bool !(feq k a c && feq k b d))
  | _ => none

def binS (op : BinOp) (a b : ByteArray) : Option (Bool × C) :=
  match op with
  | .add => some (decide (a.size + b.size ≤ 9223372036854775807), .str (a ++ b))
  | .eql => some (true, .bool (bstr a b))
  | .neq => some (true, .bool (!bstr a b))
  | _ => none

def kindEq (k k' : IntKind) : Bool := decide (k = k')
def fkindEq (k k' : FloatKind) : Bool := decide (k = k')

def binC (op : BinOp) : C → C → Option (Bool × C)
  | .int k a, .int k' b => match op with
    | .shl => some (decide (0 ≤ b), .int k (k.wrap (a * 2 ^ (min b.toNat k.bits))))
    | .shr => some (decide (0 ≤ b), .int k (a.fdiv (2 ^ (min b.toNat k.bits))))
    | _ => match kindEq k k' with
      | true => binI op k a b
      | false => none
  | .flt k a, .flt k' b => match fkindEq k k' with
    | true => (binF op k a b).map (true, ·)
    | false => none
  | .cpx k a b, .cpx k' c d => match fkindEq k k' with
    | true => (binX op k a b c d).map (true, ·)
    | false => none
  | .str a, .str b => binS op a b
  | _, _ => none

def binB (op : BinOp) (a b : Bool) : Option C := match op with
  | .eql => some (.bool (a == b))
  | .neq => some (.bool (!(a == b)))
  | _ => none

def isBoolC : C → Option Bool
  | .bool b => some b
  | _ => none

/-- Structs of whole numbers are equal cell by cell. -/
def aggEq : List C → List C → Option Bool
  | [], [] => some true
  | .int k a :: r, .int k' b :: r' => match kindEq k k' with
    | true => match r, r' with
      | [], [] => some (a == b)
      | _, _ => match aggEq r r' with
        | some e => some (a == b && e)
        | none => none
    | false => none
  | _, _ => none

def binA (op : BinOp) (xs ys : List C) : Option C := match aggEq xs ys with
  | some b => match op with
    | .eql => some (.bool b)
    | .neq => some (.bool (!b))
    | _ => none
  | none => none

def fneg (k : FloatKind) (a : Nat) : Nat := a ^^^ 2 ^ (k.format.exponentBits + k.format.fractionBits)

def unC (op : UnOp) : C → Option C
  | .int k n => match op with
    | .neg => some (.int k (k.wrap (0 - n)))
    | _ => none
  | .flt k b => match op with
    | .neg => some (.flt k (fneg k b))
    | _ => none
  | .cpx k a b => match op with
    | .neg => some (.cpx k (fneg k a) (fneg k b))
    | _ => none
  | .bool b => match op with
    | .not => some (.bool (!b))
    | _ => none
  | _ => none

/-- A float as a whole number: whether there is one of that kind, and which. -/
def f2iOk (k : FloatKind) (b : Nat) (d : IntKind) : Bool :=
  match Ieee.Datum.toInt .zero (k.decode b) with
  | some n => decide (d.min ≤ n) && decide (n ≤ d.max)
  | none => false
def f2i (k : FloatKind) (b : Nat) : Int := (Ieee.Datum.toInt .zero (k.decode b)).getD 0

/-- A double as a single: whether it is none that the text leaves open. -/
def narrowOk (b : Nat) : Bool := !(match FloatKind.f64.decode b with
  | .number s m e => (FloatKind.f32.decode (FloatKind.f32.encode (.number s m e))).isInfinity
  | _ => false)
def refloat (src dst : FloatKind) (b : Nat) : Nat := match src.decode b with
  | .nan _ _ => qn dst
  | d => dst.encode d

def convF (s d : FloatKind) (b : Nat) : Bool × Nat := match s, d with
  | .f32, .f32 => (true, b)
  | .f64, .f64 => (true, b)
  | .f32, .f64 => (true, refloat .f32 .f64 b)
  | .f64, .f32 => (narrowOk b, refloat .f64 .f32 b)

def convC (dst : Srt) : C → Option (Bool × C)
  | .int _ n => match dst with
    | .int k => some (true, .int k (k.wrap n))
    | .float k => some (true, .flt k (k.nearest n))
    | _ => none
  | .flt s b => match dst with
    | .int k => some (f2iOk s b k, .int k (f2i s b))
    | .float k => some ((convF s k b).1, .flt k (convF s k b).2)
    | _ => none
  | .cpx s a b => match dst with
    | .complex k => some ((convF s k a).1 && (convF s k b).1, .cpx k (convF s k a).2 (convF s k b).2)
    | _ => none
  | .str x => match dst with
    | .string => some (true, .str x)
    | _ => none
  | _ => none

def takeN (cs : List C) (off n : Nat) : List C := (cs.drop off).take n
def setN (cs : List C) (off : Nat) (new : List C) : List C := cs.take off ++ new ++ cs.drop (off + new.length)

def loadW (agg : Bool) (size : Nat) (cs : List C) : Option W := match agg with
  | true => match Nat.beq cs.length size with
    | true => some (.agg cs)
    | false => none
  | false => match Nat.beq size 1 with
    | true => match cs with
      | [c] => some (.one c)
      | _ => none
    | false => none

/-- The fill of a struct literal. -/
def fillN (place : List (Nat × Nat × Bool)) : List C → List (Nat × W) → Option (List C)
  | cs, [] => some cs
  | cs, (i, w) :: r => match place[i]? with
    | some (off, size, _) => match Nat.beq w.cells.length size && Nat.ble (off + size) cs.length with
      | true => fillN place (setN cs off w.cells) r
      | false => none
    | none => none

/-! ## Keys -/

def keysC : C → List Nat
  | .ref _ k => [k]
  | .ptr k _ => [k]
  | .eptr k _ _ _ => [k]
  | .fn _ caps => caps
  | _ => []

def keysW (w : W) : List Nat := w.cells.flatMap keysC
def keysV : V → List Nat
  | .val w => keysW w
  | .tup ws => ws.flatMap keysW

def hasN : List Nat → Nat → Bool
  | [], _ => false
  | x :: r, k => match Nat.beq x k with
    | true => true
    | false => hasN r k

def reach (get : Get) : Nat → List Nat → List Nat → List Nat
  | 0, _, acc => acc
  | _ + 1, [], acc => acc
  | f + 1, k :: todo, acc => match hasN acc k with
    | true => reach get f todo acc
    | false => match get k with
      | some (.box cs) => reach get f (cs.flatMap keysC ++ todo) (acc ++ [k])
      | _ => reach get f todo (acc ++ [k])

def reachFuel : Nat := 400

/-- New names for keys. -/
def indexN : List Nat → Nat → Nat → Option Nat
  | [], _, _ => none
  | x :: r, k, i => match Nat.beq x k with
    | true => some i
    | false => indexN r k (i + 1)

def mapO {α β : Type} (f : α → Option β) : List α → Option (List β)
  | [] => some []
  | x :: r => match f x with
    | some y => match mapO f r with
      | some ys => some (y :: ys)
      | none => none
    | none => none

def renC (σ : Nat → Option Nat) : C → Option C
  | .ref t k => (σ k).map (.ref t)
  | .ptr k o => (σ k).map fun k' => .ptr k' o
  | .eptr k t i o => (σ k).map fun k' => .eptr k' t i o
  | .fn f caps => (mapO σ caps).map (.fn f)
  | c => some c
def renW (σ : Nat → Option Nat) : W → Option W
  | .one c => (renC σ c).map .one
  | .agg cs => (mapO (renC σ) cs).map .agg
def renV (σ : Nat → Option Nat) : V → Option V
  | .val w => (renW σ w).map .val
  | .tup ws => (mapO (renW σ) ws).map .tup
def renB (σ : Nat → Option Nat) : Blk → Option Blk
  | .box cs => (mapO (renC σ) cs).map .box
  | .arr t l => some (.arr t l)
def renOB (σ : Nat → Option Nat) : Option Blk → Option (Option Blk)
  | some b => (renB σ b).map some
  | none => some none

/-- A slice of the call's own, lent out or given away: as a slice that nobody writes. -/
def roC (get : Get) : C → Option C
  | .ref t k => match get k with
    | some (.arr t' l) => match same t' t with
      | some ⟨h⟩ => some (.sl t (h ▸ l))
      | none => none
    | _ => none
  | .ptr _ _ => none
  | .eptr _ _ _ _ => none
  | .fn f [] => some (.fn f [])
  | .fn _ (_ :: _) => none
  | c => some c
def roW (get : Get) : W → Option W
  | .one c => (roC get c).map .one
  | .agg cs => (mapO (roC get) cs).map .agg

def isRef : C → Bool
  | .ref _ _ => true
  | _ => false
def bare : C → Bool
  | .sl _ _ => false
  | .rptr _ _ _ _ => false
  | _ => true
def flatT : Ty → Bool
  | .slice _ => false
  | .cons a b => flatT a && flatT b
  | _ => true
def flatB : Option Blk → Bool
  | some (.box cs) => cs.all bare
  | some (.arr t _) => flatT t
  | none => true

/-! ## One operation -/

structure Out where
  ok : Bool
  v : V
  upd : List (Nat × Option Blk)
  n : Nat

def pure1 (n : Nat) (b : Bool) (w : W) : Option Out := some ⟨b, .val w, [], n⟩

def elemsOf (get : Get) (t : Ty) : C → Option (List (Den t) × List Nat)
  | .nil _ => some ([], [])
  | .sl t' l => match same t' t with
    | some ⟨h⟩ => some (h ▸ l, [])
    | none => none
  | .ref _ k => match get k with
    | some (.arr t' l) => match same t' t with
      | some ⟨h⟩ => some (h ▸ l, [k])
      | none => none
    | _ => none
  | _ => none

def litElems (get : Get) (t : Ty) : List (Den t) → List (Nat × W) → Option (List (Den t))
  | l, [] => some l
  | l, (i, w) :: r => match mapO (roC get) w.cells with
    | some cs => match dec t cs with
      | some (x, []) => match Nat.blt i l.length with
        | true => litElems get t (l.set i x) r
        | false => none
      | _ => none
    | none => none

def sliceBound (b : Option V) (dflt : Int) : Option Int := match b with
  | none => some dflt
  | some (.val (.one (.int _ n))) => some n
  | _ => none

def actLoad (get : Get) (n : Nat) (agg : Bool) (size : Nat) : V → Option Out
  | .val (.one (.ptr k off)) => match get k with
    | some (.box cs) => match loadW agg size (takeN cs off size) with
      | some w => pure1 n true w
      | none => none
    | _ => none
  | .val (.one (.eptr k t i off)) => match get k with
    | some (.arr t' l) => match same t' t with
      | some ⟨h⟩ => match loadW agg size (takeN (enc t ((h ▸ l : List (Den t)).getD i (zero t))) off size) with
        | some w => pure1 n true w
        | none => none
      | none => none
    | _ => none
  | .val (.one (.rptr t l i off)) => match loadW agg size (takeN (enc t (l.getD i (zero t))) off size) with
    | some w => pure1 n true w
    | none => none
  | _ => none

def sure : C → Bool
  | .pois => false
  | _ => true

def actStore (get : Get) (n : Nat) (size : Nat) (w : W) : V → Option Out
  | .val (.one (.ptr k off)) => match get k with
    | some (.box cs) => match Nat.beq w.cells.length size && Nat.ble (off + size) cs.length && w.cells.all sure with
      | true => some ⟨true, pois, [(k, some (.box (setN cs off w.cells)))], n⟩
      | false => none
    | _ => none
  | .val (.one (.eptr k t i off)) => match get k with
    | some (.arr t' l) => match same t' t with
      | some ⟨h⟩ => match mapO (roC get) w.cells with
        | some cs => match Nat.beq cs.length size && Nat.ble (off + size) t.size && !hasN (w.cells.flatMap keysC) k && w.cells.all sure with
          | true => match dec t (setN (enc t ((h ▸ l : List (Den t)).getD i (zero t))) off cs) with
            | some (x, []) => some ⟨true, pois, (k, some (.arr t ((h ▸ l : List (Den t)).set i x))) :: (w.cells.flatMap keysC).map (·, none), n⟩
            | _ => none
          | false => none
        | none => none
      | none => none
    | _ => none
  | _ => none

def sliceCap : Int := 1099511627776
def capOk (n : Nat) : Bool := Nat.ble n 1099511627776
theorem capOk_le {n : Nat} (h : capOk n = true) : (n : Int) ≤ sliceCap := by
  have := Nat.le_of_ble_eq_true h
  unfold sliceCap
  omega

def actAppend (get : Get) (n : Nat) (t : Ty) (bytes : Nat) (s x : C) : Option Out :=
  match Nat.ble bytes 128 with
  | false => none
  | true => match elemsOf get t x with
    | none => none
    | some (new, kx) => match s with
      | .nil _ => some ⟨capOk new.length, .val (.one (.ref t n)), [(n, some (.arr t new))], n + 1⟩
      | .ref _ k => match get k with
        | some (.arr t' l) => match same t' t with
          | some ⟨h⟩ => match hasN kx k with
            | true => none
            | false => some ⟨capOk ((h ▸ l : List (Den t)).length + new.length), .val (.one (.ref t n)),
                [(n, some (.arr t ((h ▸ l : List (Den t)) ++ new))), (k, none)], n + 1⟩
          | none => none
        | _ => none
      | _ => none

def strAt (s : ByteArray) (i : Int) : Int := ((s.data.toList.getD i.toNat 0).toNat : Int)

def imax (a b : Int) : Int := if b > a then b else a
def imin (a b : Int) : Int := if b < a then b else a

def actLen (get : Get) (n : Nat) (s : Srt) (c : C) : Option Out := match s, c with
  | .slice, .nil _ => pure1 n true (.one (.int .i64 0))
  | .slice, .sl _ l => pure1 n true (.one (.int .i64 l.length))
  | .slice, .ref _ k => match get k with
    | some (.arr _ l) => pure1 n true (.one (.int .i64 l.length))
    | _ => none
  | .string, .str s => pure1 n true (.one (.int .i64 s.size))
  | _, _ => none

def pickV (t : Bool) (x y : V) : V := match t with
  | true => x
  | false => y

def actBuiltin (Γ : Env) (get : Get) (n : Nat) (b : Builtin) (ts : List Nat) (args : List V) : Option Out :=
  match b, args with
  | .len, [.val (.one c)] => match ts with
    | [t] => match Γ.tab t with
      | some ti => actLen get n ti.sort c
      | none => none
    | _ => none
  | .append, [.val (.one s), .val (.one x)] => match ts with
    | [st, xt] => match Nat.beq st xt with
      | true => match Γ.tab st with
        | some si => match si.sort with
          | .slice => match Γ.tab si.elem with
            | some ei => match Nat.beq ei.ty.size ei.size && Nat.blt 0 ei.size with
              | true => actAppend get n ei.ty ei.bytes s x
              | false => none
            | none => none
          | _ => none
        | none => none
      | false => none
    | _ => none
  | .real, [.val (.one (.cpx k a _))] => pure1 n true (.one (.flt k a))
  | .imag, [.val (.one (.cpx k _ b))] => pure1 n true (.one (.flt k b))
  | .complex, [.val (.one (.flt k a)), .val (.one (.flt k' b))] => match fkindEq k k' with
    | true => pure1 n true (.one (.cpx k a b))
    | false => none
  | .max, [.val (.one (.int k a)), .val (.one (.int k' b))] => match kindEq k k' with
    | true => pure1 n true (.one (.int k (imax a b)))
    | false => none
  | .min, [.val (.one (.int k a)), .val (.one (.int k' b))] => match kindEq k k' with
    | true => pure1 n true (.one (.int k (imin a b)))
    | false => none
  | _, _ => none

def keyAt : List Nat → Nat → Nat → Nat
  | [], n, i => n + i
  | k :: _, _, 0 => k
  | _ :: r, n, i + 1 => keyAt r n i

def outV : List W → V
  | [w] => .val w
  | ws => .tup ws

def getO (outs : List (Option Blk)) : Get := fun k => (outs[k]?).join

def upds : List Nat → List (Option Blk) → Nat → List (Nat × Option Blk)
  | _, [], _ => []
  | k :: ks, b :: r, n => (k, b) :: upds ks r n
  | [], b :: r, n => (n, b) :: upds [] r (n + 1)

def callMut (sm : Mean) (get : Get) (n : Nat) (args : List W) : Option Out :=
  let ks := reach get reachFuel (args.flatMap keysW) []
  match mapO (renW fun k => indexN ks k 0) args, mapO (fun k => (get k).bind (renB fun k => indexN ks k 0)) ks with
  | some args', some ins => match sm.run args' ins with
    | some (ok, rs, outs) => match Nat.ble ks.length outs.length, mapO (renW fun i => some (keyAt ks n i)) rs, mapO (renOB fun i => some (keyAt ks n i)) outs with
      | true, some rs', some outs' => some ⟨ok, outV rs', upds ks outs' n, n + (outs.length - ks.length)⟩
      | _, _, _ => none
    | none => none
  | _, _ => none

def callRo (sm : Mean) (frz : Bool) (get : Get) (n : Nat) (args : List W) : Option Out :=
  match mapO (roW get) args with
  | some args' => match sm.run args' [] with
    | some (ok, rs, outs) =>
      match args.all (fun w => w.cells.all (fun c => !isRef c)) || (!frz && rs.all (fun w => w.cells.all bare) && outs.all flatB) with
      | false => none
      | true => match frz with
        | true => match mapO (roW (getO outs)) rs with
          | some rs' => some ⟨ok, outV rs', [], n⟩
          | none => none
        | false => match mapO (renW fun i => some (n + i)) rs, mapO (renOB fun i => some (n + i)) outs with
          | some rs', some outs' => some ⟨ok, outV rs', upds [] outs' n, n + outs.length⟩
          | _, _ => none
    | none => none
  | none => none

def valsW : List V → Option (List W) := mapO fun
  | .val w => some w
  | _ => none

def callF (Γ : Env) (o : Oper) (get : Get) (n : Nat) (f : Nat) (args : List W) : Option Out :=
  match Γ.sem f with
  | some sm => match sm.own with
    | true => callMut sm get n args
    | false => callRo sm (match o.dst with | some d => hasN Γ.frz d | none => false) get n args
  | none => none

def bstrOf (l : List Int) : ByteArray := l.foldl (fun r n => r.push (UInt8.ofNat n.toNat)) ByteArray.empty

def isByteK : IntKind → Bool
  | .u8 => true
  | _ => false

/-- Bytes as a string. -/
def convS (Γ : Env) (get : Get) (si di : TI) (c : C) : Option ByteArray := match si.sort, di.sort with
  | .slice, .string => match Γ.tab si.elem with
    | some ei => match ei.sort with
      | .int k => match isByteK k with
        | true => match elemsOf get (.int .u8) c with
          | some (l, _) => some (bstrOf l)
          | none => none
        | false => none
      | _ => none
    | none => none
  | _, _ => none

def lenIs (Γ : Env) (t n : Nat) : Bool := match Γ.tab t with
  | some ti => Nat.beq n ti.size
  | none => false

def isNilC : Operand → Bool
  | .const (.slice none n c) => Nat.beq n 0 && Nat.beq c 0
  | _ => false

/-- A 'nil' that is written, at a slice's type. -/
def nilOf (Γ : Env) (t : Nat) (x : Operand) (v : V) : V := match isNilC x with
  | false => v
  | true => match Γ.tab t with
    | some ti => match ti.sort with
      | .slice => match Γ.tab ti.elem with
        | some ei => .val (.one (.nil ei.ty))
        | none => v
      | _ => v
    | none => v

def act (Γ : Env) (o : Oper) (ρ : Operand → V) (get : Get) (n : Nat) : Option Out :=
  match o.op with
  | .move x => some ⟨true, nilOf Γ o.type x (ρ x), [], n⟩
  | .assign x => some ⟨true, nilOf Γ o.type x (ρ x), [], n⟩
  | .pick c a b => match ρ c with
    | .val (.one (.bool t)) => some ⟨true, pickV t (ρ a) (ρ b), [], n⟩
    | _ => none
  | .alloc t => match Γ.tab t with
    | some ti => some ⟨true, .val (.one (.ptr n 0)), [(n, some (.box ti.zero))], n + 1⟩
    | none => none
  | .box _ x => match ρ x with
    | .val w => match w.cells.all sure with
      | true => some ⟨true, .val (.one (.ptr n 0)), [(n, some (.box w.cells))], n + 1⟩
      | false => none
    | .tup _ => none
  | .build t parts => match Γ.tab t with
    | some ti => match ti.sort with
      | .struct => match mapO (fun p => match ρ p.2 with | .val w => some (p.1, w) | .tup _ => none) parts.toList with
        | some ps => match ps.all (fun p => p.2.cells.all sure), fillN ti.fields ti.zero ps with
          | true, some cs => pure1 n true (.agg cs)
          | _, _ => none
        | none => none
      | _ => none
    | none => none
  | .buildSlice t len parts => match Γ.tab t with
    | some ti => match ti.sort with
      | .slice => match Γ.tab ti.elem with
        | some ei => match mapO (fun p => match ρ p.2 with | .val w => some (p.1, w) | .tup _ => none) parts.toList with
          | some ps => match Nat.ble (len * ei.size) 1000000 && Nat.beq ei.ty.size ei.size && Nat.blt 0 ei.size && ps.all (fun p => p.2.cells.all sure) with
            | true => match litElems get ei.ty (List.replicate len (zero ei.ty)) ps with
              | some l => some ⟨true, .val (.one (.ref ei.ty n)), (n, some (.arr ei.ty l)) :: (ps.flatMap fun p => keysW p.2).map (·, none), n + 1⟩
              | none => none
            | false => none
          | none => none
        | none => none
      | _ => none
    | none => none
  | .load t a => match Γ.tab t with
    | some ti => actLoad get n ti.agg ti.size (ρ a)
    | none => none
  | .store t a x => match Γ.tab t, nilOf Γ t x (ρ x) with
    | some ti, .val w => actStore get n ti.size w (ρ a)
    | _, _ => none
  | .nilCheck x => match ρ x with
    | .val (.one (.ptr k o)) => some ⟨true, .val (.one (.ptr k o)), [], n⟩
    | .val (.one (.eptr k t i o)) => some ⟨true, .val (.one (.eptr k t i o)), [], n⟩
    | .val (.one (.rptr t l i o)) => some ⟨true, .val (.one (.rptr t l i o)), [], n⟩
    | .val (.one (.fn f cs)) => some ⟨true, .val (.one (.fn f cs)), [], n⟩
    | _ => none
  | .binOp op t x y _ => match ρ x, ρ y with
    | .val (.one a), .val (.one b) => match isBoolC a, isBoolC b with
      | some p, some q => match Γ.tab t with
        | some ti => match ti.sort, binB op p q with
          | .bool, some c => pure1 n true (.one c)
          | _, _ => none
        | none => none
      | _, _ => match binC op a b with
        | some (ok, c) => pure1 n ok (.one c)
        | none => none
    | .val (.agg a), .val (.agg b) => match Γ.eqT t && lenIs Γ t a.length, binA op a b with
      | true, some c => pure1 n true (.one c)
      | _, _ => none
    | _, _ => none
  | .unOp op _ x => match ρ x with
    | .val (.one c) => match unC op c with
      | some c' => pure1 n true (.one c')
      | none => none
    | _ => none
  | .convert src dst x => match Γ.tab src, Γ.tab dst, ρ x with
    | some si, some di, .val (.one c) => match convC di.sort c with
      | some (ok, c') => pure1 n ok (.one c')
      | none => match convS Γ get si di c with
        | some b => pure1 n true (.one (.str b))
        | none => none
    | _, _, _ => none
  | .makeSlice t l c => match Γ.tab t, ρ l, ρ c with
    | some ti, .val (.one (.int _ x)), .val (.one (.int _ y)) => match ti.sort with
      | .slice => match Γ.tab ti.elem with
        | some ei => match Nat.ble ei.bytes 128 && Nat.beq ei.ty.size ei.size && Nat.blt 0 ei.size with
          | true => some ⟨decide (0 ≤ x) && capOk x.toNat && (x == y), .val (.one (.ref ei.ty n)), [(n, some (.arr ei.ty (List.replicate x.toNat (zero ei.ty))))], n + 1⟩
          | false => none
        | none => none
      | _ => none
    | _, _, _ => none
  | .slice t x lo hi mx => match Γ.tab t, mx with
    | some ti, none => match ti.sort, ρ x with
      | .string, .val (.one (.str s)) => match sliceBound (lo.map ρ) 0, sliceBound (hi.map ρ) s.size with
        | some l, some h => pure1 n (decide (0 ≤ l) && decide (l ≤ h) && decide (h ≤ (s.size : Int))) (.one (.str (s.extract l.toNat h.toNat)))
        | _, _ => none
      | .slice, .val (.one (.sl t s)) => match Γ.tab ti.elem with
        | some ei => match Nat.beq t.size ei.size with
          | true => match sliceBound (lo.map ρ) 0, sliceBound (hi.map ρ) s.length with
            | some l, some h => pure1 n (decide (0 ≤ l) && decide (l ≤ h) && decide (h ≤ (s.length : Int))) (.one (.sl t ((s.take h.toNat).drop l.toNat)))
            | _, _ => none
          | false => none
        | none => none
      | _, _ => none
    | _, _ => none
  | .fieldAddr t x f => match Γ.tab t with
    | some ti => match ti.sort with
      | .struct => match ti.fields[f]? with
        | some (off, size, _) => match Nat.beq size 0 with
          | true => none
          | false => match ρ x with
            | .val (.one (.ptr k o)) => pure1 n true (.one (.ptr k (o + off)))
            | .val (.one (.eptr k ty i o)) => pure1 n true (.one (.eptr k ty i (o + off)))
            | .val (.one (.rptr ty l i o)) => pure1 n true (.one (.rptr ty l i (o + off)))
            | _ => none
        | none => none
      | _ => none
    | none => none
  | .field t x f => match Γ.tab t with
    | some ti => match ti.sort with
      | .struct => match ti.fields[f]? with
        | some (off, size, agg) => match ρ x with
          | .val (.agg cs) => match loadW agg size (takeN cs off size) with
            | some w => pure1 n true w
            | none => none
          | _ => none
        | none => none
      | _ => none
    | none => none
  | .indexAddr t x i => match Γ.tab t with
    | some ti => match ti.sort with
      | .slice => match Γ.tab ti.elem with
        | some ei => match ρ x, ρ i with
          | .val (.one (.sl t l)), .val (.one (.int _ j)) => match Nat.beq t.size ei.size with
            | true => pure1 n (decide (0 ≤ j) && decide (j < (l.length : Int))) (.one (.rptr t l j.toNat 0))
            | false => none
          | .val (.one (.ref t k)), .val (.one (.int _ j)) => match get k with
            | some (.arr t' l) => match Nat.beq t.size ei.size, same t' t with
              | true, some _ => pure1 n (decide (0 ≤ j) && decide (j < (l.length : Int))) (.one (.eptr k t j.toNat 0))
              | _, _ => none
            | _ => none
          | .val (.one (.nil t)), .val (.one (.int _ _)) => pure1 n false (.one (.rptr t [] 0 0))
          | _, _ => none
        | none => none
      | _ => none
    | none => none
  | .index t x i => match Γ.tab t with
    | some ti => match ti.sort with
      | .string => match ρ x, ρ i with
        | .val (.one (.str s)), .val (.one (.int _ j)) => pure1 n (decide (0 ≤ j) && decide (j < (s.size : Int))) (.one (.int .u8 (strAt s j)))
        | _, _ => none
      | _ => none
    | none => none
  | .makeFunc fn first caps => match fn, first.toList with
    | .func f, [] => match mapO (fun x => match ρ x with | .val (.one (.ptr k 0)) => some k | _ => none) caps.toList with
      | some ks => pure1 n true (.one (.fn f ks))
      | none => none
    | _, _ => none
  | .extract t i => match ρ t with
    | .tup ws => match ws[i]? with
      | some w => pure1 n true w
      | none => none
    | _ => none
  | .call c => match c.callee with
    | .builtin b => actBuiltin Γ get n b c.argTypes.toList (c.args.toList.map ρ)
    | .value f => match ρ f, valsW (c.args.toList.map ρ) with
      | .val (.one (.fn g caps)), some ws => callF Γ o get n g (ws ++ caps.map fun k => .one (.ptr k 0))
      | _, _ => none
    | _ => none
  | _ => none

end Go.Proofs.Ytmmdjajebmihhaa.AM
