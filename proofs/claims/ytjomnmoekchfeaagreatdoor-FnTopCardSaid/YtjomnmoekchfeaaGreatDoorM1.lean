/- Texts of one proof, joined: an abstract machine for the program, its functions evaluated, plain lemmas. Conditions: those that each lemma names. -/
import Derived.Calls
import Derived.Orders
import Derived.Below
import Derived.KernelRfl
import Derived.Laws.CopyRow
import Derived.Laws.AppendOwn
import Derived.WalkKit
import Derived.Laws.MakeOwn
import Derived.Laws.OwnMore
import Derived.Laws.StructEq
import Derived.Laws.FloatArith
import Derived.Laws.FloatBits
import Derived.Laws.ComplexArith
import Derived.WalkLawsBesides
import Derived.WalkSpells
import Derived.Laws.BytesString
set_option linter.unusedVariables false
set_option linter.unusedSimpArgs false
namespace Go.Proofs.YtjomnmoekchfeaaGreatDoor.AM
open Bool (and_eq_true)
open List (length_append)
open Nat (le_refl beq)
open Option.some (injEq)
open Go
inductive Ty where
 |bool
 |int (k:IntKind)
 |flt (k:FloatKind)
 |cpx (k:FloatKind)
 |str
 |slice (t:Ty)
 |nil
 |cons (a b:Ty)
 |jnk
def Ty.isJ:Ty->Bool
 |.jnk=>true
 |_=>false
@[reducible] def Den:Ty->Type
 |.bool=>Bool
 |.int _=>Int
 |.flt _=>Nat
 |.cpx _=>Nat×Nat
 |.str=>ByteArray
 |.slice t=>List (Den t)
 |.nil=>Unit
 |.cons a b=>Den a×Den b
 |.jnk=>Unit
def Ty.size:Ty->Nat
 |.nil=>0
 |.cons a b=>a.size+b.size
 |_=>1
def zero:(t:Ty)->Den t
 |.bool=>false
 |.int _=>0
 |.flt _=>0
 |.cpx _=>(0,0)
 |.str=>ByteArray.empty
 |.slice _=>[]
 |.nil=>()
 |.cons a b=>(zero a,zero b)
 |.jnk=>()
def a3l:(a b:Ty)->Option (PLift (a=b))
 |.bool,.bool=>some ⟨rfl⟩
 |.int k,.int k'=>if h:k=k' then some ⟨by rw[h]⟩else none
 |.flt k,.flt k'=>if h:k=k' then some ⟨by rw[h]⟩else none
 |.cpx k,.cpx k'=>if h:k=k' then some ⟨by rw[h]⟩else none
 |.str,.str=>some ⟨rfl⟩
 | .slice a,.slice b=>match a3l a b with
   |some ⟨h⟩=>some ⟨by rw[h]⟩
   |none=>none
 |.nil,.nil=>some ⟨rfl⟩
 |.jnk,.jnk=>some ⟨rfl⟩
 | .cons a b,.cons a' b'=>match a3l a a',a3l b b' with
   |some ⟨h⟩,some ⟨h'⟩=>some ⟨by rw[h,h']⟩
   |_,_=>none
 |_,_=>none
inductive C where
 |pois
 |bool (b:Bool)
 |int (k:IntKind) (n:Int)
 |flt (k:FloatKind) (b:Nat)
 |cpx (k:FloatKind) (a b:Nat)
 |str (s:ByteArray)
 |nil (t:Ty)
 |sl (t:Ty) (l:List (Den t))
 |ref (t:Ty) (key:Nat)
 |ptr (key off:Nat)
 |eptr (key:Nat) (t:Ty) (i off:Nat)
 |rptr (t:Ty) (l:List (Den t)) (i off:Nat)
 |fn (f:Nat) (caps:List Nat)
 |aptr (key off m j:Nat)
 |aeptr (key:Nat) (t:Ty) (i off m j:Nat)
 |arptr (t:Ty) (l:List (Den t)) (i off m j:Nat)
 |asl (t:Ty) (key off m:Nat)
 |junk
inductive W where
 |one (c:C)
 |agg (cs:List C)
def W.cells:W->List C
 |.one c=>[c]
 |.agg cs=>cs
inductive V where
 |val (w:W)
 |tup (ws:List W)
def pois:V := .val (.one .pois)
inductive Blk where
 |box (cs:List C)
 |arr (t:Ty) (l:List (Den t))
abbrev Get:=Nat->Option Blk
def enc:(t:Ty)->Den t->List C
 |.bool,b=>[.bool b]
 |.int k,n=>[.int k n]
 |.flt k,b=>[.flt k b]
 |.cpx k,p=>[.cpx k p.1 p.2]
 |.str,s=>[.str s]
 |.slice t,l=>[.sl t l]
 |.nil,_=>[]
 |.cons a b,p=>enc a p.1++enc b p.2
 |.jnk,_=>[.junk]
def dec:(t:Ty)->List C->Option (Den t×List C)
 |.bool,.bool b::r=>some (b,r)
 |.int k,.int k' n::r=>if k=k' then some (n,r)else none
 |.flt k,.flt k' n::r=>if k=k' then some (n,r)else none
 |.cpx k,.cpx k' a b::r=>if k=k' then some ((a,b),r)else none
 |.str,.str s::r=>some (s,r)
 | .slice t,.sl t' l::r=>match a3l t' t with
   |some ⟨h⟩=>some (h ▸ l,r)
   |none=>none
 |.slice _,.nil _::r=>some ([],r)
 |.nil,r=>some ((),r)
 | .cons a b,r=>match dec a r with
   | some (x,r')=>match dec b r' with
     |some (y,r'')=>some ((x,y),r'')
     |none=>none
   |none=>none
 |_,_=>none
inductive Srt where
 |slice
 |array (n:Nat)
 |string
 |struct
 |bool
 |int (k:IntKind)
 |float (k:FloatKind)
 |complex (k:FloatKind)
 |other
structure TI where
 size:Nat
 bytes:Nat
 agg:Bool
 ty:Ty
 zero:List C
 fields:List (Nat×Nat×Bool)
 elem:Nat
 sort:Srt
structure a6m where
 own:Bool
 run:List W->List Blk->Option (Bool×List W×List (Option Blk))
structure St where
 tmps:List (Nat×V)
 mem:List (Nat×Option Blk)
 n:Nat
 m:Nat
inductive Ex where
 |normal
 |exit (id:Nat)
 |ret
inductive Cv where
 |nil (t:Nat)
 |boxNil (t off:Nat)
 |frz (t:Nat)
 |frzBox (t:Nat)
 |forget (t:Nat)
 |sl (t:Nat)
 |boxSl (t off:Nat)
 |jnk (t:Nat)
 |mv (t off j:Nat)
 |frzCell (t off:Nat)
structure a4V where
 live:List Nat
 own:List Cv
 ex:Nat
 past:List Nat
 pown:List Cv
 run:St->Option (Bool×Bool×St×St)
structure Env where
 tab:Nat->Option TI
 sem:Nat->Option a6m
 eqT:Nat->Bool
 nt:Nat
 res:List ResultVar
 frz:List Nat
 cut:List (Nat×(List Nat×List Cv))
 loops:List (Nat×a4V)
 past:List (Nat×(List Nat×List Cv))
 rown:List Cv
def a1D {α:Type}:List (Nat×α)->Nat->Option α
 |[],_=>none
 | (k,x)::r,t=>match beq k t with
   |true=>some x
   |false=>a1D r t
def St.get (s:St) (k:Nat):Option Blk:=match a1D s.mem k with
 |some b=>b
 |none=>none
def St.tmpV (s:St) (t:Nat):V:=match a1D s.tmps t with
 |some v=>v
 |none=>pois
def St.put (s:St) (t:Nat) (v:V):St:={ s with tmps:=(t,v)::s.tmps }
def St.putO (s:St) (d:Option Nat) (v:V):St:=match d with
 |some t=>s.put t v
 |none=>s
def b8g:Value->C
 |.bool b => .bool b
 |.int k n => .int k n
 |.float k b => .flt k b
 |.complex k a b => .cpx k a b
 |.string s => .str s
 |_ => .pois
def b8h:Value->V
 |.agg cs => .val (.agg (cs.toList.map b8g))
 |v => .val (.one (b8g v))
def St.val (s:St):Operand->V
 |.tmp t=>s.tmpV t
 |.const v=>b8h v
 |.func f => .val (.one (.fn f []))
 |.global _=>pois
def qn:FloatKind->Nat
 |.f32=>2143289344
 |.f64=>9221120237041090560
def a0a (c:BinOp) (k:FloatKind) (a b:Nat):Nat:=
 (match c with
  |.add=>k.format.add a b
  |.sub=>k.format.sub a b
  |.mul=>k.format.mul a b
  |_=>k.format.div a b).getD (qn k)
def a2c (c:BinOp) (k:IntKind) (a b:Int):Int:=
 let x:=BitVec.ofInt k.bits a
 let y:=BitVec.ofInt k.bits b
 k.wrap ((match c with
  |.and=>x &&& y
  |.or=>x ||| y
  |.xor=>x ^^^ y
  |_=>x &&& ~~~y).toNat:Int)
def feq (k:FloatKind) (a b:Nat):Bool:=k.format.order a b==some .eq
def flt (k:FloatKind) (a b:Nat):Bool:=k.format.order a b==some .lt
def fgt (k:FloatKind) (a b:Nat):Bool:=k.format.order a b==some .gt
def a0G (a b:ByteArray):Bool:=a.toList==b.toList
def f8Y (c:BinOp) (k:IntKind) (a b:Int):Option (Bool×C):=
 match c with
 |.add=>some (true,.int k (k.wrap (a+b)))
 |.sub=>some (true,.int k (k.wrap (a-b)))
 |.mul=>some (true,.int k (k.wrap (a*b)))
 |.quo=>some (b != 0,.int k (k.wrap (a.tdiv b)))
 |.rem=>some (b != 0,.int k (a.tmod b))
 |.and=>some (true,.int k (a2c .and k a b))
 |.or=>some (true,.int k (a2c .or k a b))
 |.xor=>some (true,.int k (a2c .xor k a b))
 |.andNot=>some (true,.int k (a2c .andNot k a b))
 |.eql=>some (true,.bool (a==b))
 |.neq=>some (true,.bool (a != b))
 |.lss=>some (true,.bool (decide (a<b)))
 |.leq=>some (true,.bool (decide (a<=b)))
 |.gtr=>some (true,.bool (decide (a>b)))
 |.geq=>some (true,.bool (decide (a ≥ b)))
 |_=>none
def f8Z (c:BinOp) (k:FloatKind) (a b:Nat):Option C:=
 match c with
 |.add=>some (.flt k (a0a .add k a b))
 |.sub=>some (.flt k (a0a .sub k a b))
 |.mul=>some (.flt k (a0a .mul k a b))
 |.quo=>some (.flt k (a0a .quo k a b))
 |.eql=>some (.bool (feq k a b))
 |.neq=>some (.bool (!feq k a b))
 |.lss=>some (.bool (flt k a b))
 |.leq=>some (.bool (flt k a b||feq k a b))
 |.gtr=>some (.bool (fgt k a b))
 |.geq=>some (.bool (fgt k a b||feq k a b))
 |_=>none
def f9a (e:BinOp) (k:FloatKind) (a b c d:Nat):Option C:=
 match e with
 |.add=>some (.cpx k (a0a .add k a c) (a0a .add k b d))
 |.sub=>some (.cpx k (a0a .sub k a c) (a0a .sub k b d))
 |.eql=>some (.bool (feq k a c&&feq k b d))
 |.neq=>some (.bool !(feq k a c&&feq k b d))
 |_=>none
def f9b (c:BinOp) (a b:ByteArray):Option (Bool×C):=
 match c with
 |.add=>some (decide (a.size+b.size<=9223372036854775807),.str (a++b))
 |.eql=>some (true,.bool (a0G a b))
 |.neq=>some (true,.bool (!a0G a b))
 |_=>none
def a2C (k k':IntKind):Bool:=decide (k=k')
def a1d (k k':FloatKind):Bool:=decide (k=k')
def c4b (e:BinOp):C->C->Option (Bool×C)
 | .int k a,.int k' b=>match e with
   |.shl=>some (decide (0<=b),.int k (k.wrap (a*2^(min b.toNat k.bits))))
   |.shr=>some (decide (0<=b),.int k (a.fdiv (2^(min b.toNat k.bits))))
   | _=>match a2C k k' with
     |true=>f8Y e k a b
     |false=>none
 | .flt k a,.flt k' b=>match a1d k k' with
   |true=>(f8Z e k a b).map (true,·)
   |false=>none
 | .cpx k a b,.cpx k' c d=>match a1d k k' with
   |true=>(f9a e k a b c d).map (true,·)
   |false=>none
 |.str a,.str b=>f9b e a b
 |_,_=>none
def f9c (c:BinOp) (a b:Bool):Option C:=match c with
 |.eql=>some (.bool (a==b))
 |.neq=>some (.bool (!(a==b)))
 |_=>none
def b1v:C->Option Bool
 |.bool b=>some b
 |_=>none
def a2S:List C->List C->Option Bool
 |[],[]=>some true
 | .int k a::r,.int k' b::r'=>match a2C k k' with
   | true=>match r,r' with
     |[],[]=>some (a==b)
     | _,_=>match a2S r r' with
       |some e=>some (a==b&&e)
       |none=>none
   |false=>none
 |.bool a::r,.bool b::r'=>match r,r' with
  |[],[]=>some (a==b)
  | _,_=>match a2S r r' with
    |some e=>some (a==b&&e)
    |none=>none
 |_,_=>none
def a8w:List C->List C->Bool
 |[],[]=>true
 |.int k _::r,.int k' _::r'=>a2C k k'&&a8w r r'
 |.bool _::r,.bool _::r'=>a8w r r'
 |_,_=>false
def f9d (a:BinOp) (xs ys:List C):Option C:=match a2S xs ys with
 | some b=>match a with
   |.eql=>some (.bool b)
   |.neq=>some (.bool (!b))
   |_=>none
 |none=>none
def a3H (k:FloatKind) (a:Nat):Nat:=a ^^^ 2^(k.format.exponentBits+k.format.fractionBits)
def unC (c:UnOp):C->Option C
 | .int k n=>match c with
   |.neg=>some (.int k (k.wrap (0-n)))
   |_=>none
 | .flt k b=>match c with
   |.neg=>some (.flt k (a3H k b))
   |_=>none
 | .cpx k a b=>match c with
   |.neg=>some (.cpx k (a3H k a) (a3H k b))
   |_=>none
 | .bool b=>match c with
   |.not=>some (.bool (!b))
   |_=>none
 |_=>none
def a6n (k:FloatKind) (b:Nat) (d:IntKind):Bool:=
 match Ieee.Datum.toInt .zero (k.decode b)with
 |some n=>decide (d.min<=n)&&decide (n<=d.max)
 |none=>false
def f2i (k:FloatKind) (b:Nat):Int:=(Ieee.Datum.toInt .zero (k.decode b)).getD 0
def a1T (b:Nat):Bool:=!(match FloatKind.f64.decode b with
 |.number s m e=>(FloatKind.f32.decode (FloatKind.f32.encode (.number s m e))).isInfinity
 |_=>false)
def a8x (a dst:FloatKind) (b:Nat):Nat:=match a.decode b with
 |.nan _ _=>qn dst
 |d=>dst.encode d
def a0x (s d:FloatKind) (b:Nat):Bool×Nat:=match s,d with
 |.f32,.f32=>(true,b)
 |.f64,.f64=>(true,b)
 |.f32,.f64=>(true,a8x .f32 .f64 b)
 |.f64,.f32=>(a1T b,a8x .f64 .f32 b)
def b5X (dst:Srt):C->Option (Bool×C)
 | .int _ n=>match dst with
   |.int k=>some (true,.int k (k.wrap n))
   |.float k=>some (true,.flt k (k.nearest n))
   |_=>none
 | .flt s b=>match dst with
   |.int k=>some (a6n s b k,.int k (f2i s b))
   |.float k=>some ((a0x s k b).1,.flt k (a0x s k b).2)
   |_=>none
 | .cpx s a b=>match dst with
   |.complex k=>some ((a0x s k a).1&&(a0x s k b).1,.cpx k (a0x s k a).2 (a0x s k b).2)
   |_=>none
 | .str x=>match dst with
   |.string=>some (true,.str x)
   |_=>none
 |_=>none
def a2D (cs:List C) (off n:Nat):List C:=(cs.drop off).take n
def d2k (cs:List C) (off:Nat) (a:List C):List C:=cs.take off++a++cs.drop (off+a.length)
def a3I (agg:Bool) (size:Nat) (cs:List C):Option W:=match agg with
 | true=>match beq cs.length size with
   |true=>some (.agg cs)
   |false=>none
 | false=>match beq size 1 with
   | true=>match cs with
     |[c]=>some (.one c)
     |_=>none
   |false=>none
def c1X (a:List (Nat×Nat×Bool)):List C->List (Nat×W)->Option (List C)
 |cs,[]=>some cs
 | cs,(i,w)::r=>match a[i]? with
   | some (off,size,_)=>match beq w.cells.length size&&Nat.ble (off+size) cs.length with
     |true=>c1X a (d2k cs off w.cells) r
     |false=>none
   |none=>none
def a0S:C->List Nat
 |.pois=>[]
 |.bool _=>[]
 |.int _ _=>[]
 |.flt _ _=>[]
 |.cpx _ _ _=>[]
 |.str _=>[]
 |.nil _=>[]
 |.sl _ _=>[]
 |.rptr _ _ _ _=>[]
 |.ref _ k=>[k]
 |.ptr k _=>[k]
 |.eptr k _ _ _=>[k]
 |.fn _ a=>a
 |.aptr k _ _ _=>[k]
 |.aeptr k _ _ _ _ _=>[k]
 |.arptr _ _ _ _ _ _=>[]
 |.asl _ k _ _=>[k]
 |.junk=>[]
def a0R (w:W):List Nat:=w.cells.flatMap a0S
def a1u:V->List Nat
 |.val w=>a0R w
 |.tup ws=>ws.flatMap a0R
def b1w:List Nat->Nat->Bool
 |[],_=>false
 | x::r,k=>match beq x k with
   |true=>true
   |false=>b1w r k
def a2E (get:Get):Nat->List Nat->List Nat->List Nat
 |0,_,acc=>acc
 |_+1,[],acc=>acc
 | f + 1,k::todo,acc=>match b1w acc k with
   |true=>a2E get f todo acc
   | false=>match get k with
     |some (.box cs)=>a2E get f (cs.flatMap a0S++todo) (acc++[k])
     |_=>a2E get f todo (acc++[k])
def a1P:Nat:=400
def a2F:List Nat->Nat->Nat->Option Nat
 |[],_,_=>none
 | x::r,k,i=>match beq x k with
   |true=>some i
   |false=>a2F r k (i+1)
def a1x {α β:Type} (f:α->Option β):List α->Option (List β)
 |[]=>some []
 | x :: r=>match f x with
   | some y=>match a1x f r with
     |some ys=>some (y::ys)
     |none=>none
   |none=>none
def c3T (a:Nat->Option Nat):C->Option C
 |.ref t k=>(a k).map (.ref t)
 |.ptr k o=>(a k).map fun k' => .ptr k' o
 |.eptr k t i o=>(a k).map fun k' => .eptr k' t i o
 |.fn f b=>(a1x a b).map (.fn f)
 |.aptr k o m j=>(a k).map fun k' => .aptr k' o m j
 |.aeptr k t i o m j=>(a k).map fun k' => .aeptr k' t i o m j
 |.asl t k o m=>(a k).map fun k' => .asl t k' o m
 |c=>some c
def b8i (a:Nat->Option Nat):W->Option W
 |.one c=>(c3T a c).map .one
 |.agg cs=>(a1x (c3T a) cs).map .agg
def e6H (a:Nat->Option Nat):V->Option V
 |.val w=>(b8i a w).map .val
 |.tup ws=>(a1x (b8i a) ws).map .tup
def b2S (a:Nat->Option Nat):Blk->Option Blk
 |.box cs=>(a1x (c3T a) cs).map .box
 |.arr t l=>some (.arr t l)
def a5U (a:Nat->Option Nat):Option Blk->Option (Option Blk)
 |some b=>(b2S a b).map some
 |none=>some none
def d2l (t:Ty):Nat->List C->Option (List (Den t))
 |0,[]=>some []
 |0,_::_=>none
 | m + 1,cs=>match dec t cs with
   | some (x,r)=>match d2l t m r with
     |some l=>some (x::l)
     |none=>none
   |none=>none
def e1G (k:FloatKind):List C->Option (List (Nat×Nat))
 |[]=>some []
 | .cpx k' a b::r=>match a1d k k' with
   | true=>match e1G k r with
     |some l=>some ((a,b)::l)
     |none=>none
   |false=>none
 |_::_=>none
def e6I (cs:List C) (m j:Nat):Option C:=match cs with
 | .cpx k _ _::_=>match beq cs.length m with
   | true=>match e1G k cs with
     |some l=>some (.cpx k (l.getD j (0,0)).1 (l.getD j (0,0)).2)
     |none=>none
   |false=>none
 |_=>none
def e6J (k:FloatKind) (j a b:Nat):Nat->List (Nat×Nat)->List C
 |_,[]=>[]
 |i,p::r => .cpx k (bif beq i j then a else p.1) (bif beq i j then b else p.2)::e6J k j a b (i+1) r
def e7Z (cs:List C) (m j:Nat) (w:W):Option (List C):=match w with
 | .one (.cpx k a b)=>match beq cs.length m with
   | true=>match e1G k cs with
     |some l=>some (e6J k j a b 0 l)
     |none=>none
   |false=>none
 |_=>none
def roC (get:Get):C->Option C
 | .ref t k=>match get k with
   | some (.arr t' l)=>match a3l t' t with
     | some ⟨h⟩=>match t.isJ with
       |false=>some (.sl t (h ▸ l))
       |true=>none
     |none=>none
   |_=>none
 |.ptr _ _=>none
 |.eptr _ _ _ _=>none
 |.aptr _ _ _ _=>none
 |.aeptr _ _ _ _ _ _=>none
 |.arptr _ _ _ _ _ _=>none
 | .asl t k o m=>match get k with
   | some (.box cs)=>match d2l t m (a2D cs o (m*t.size))with
     |some l=>some (.sl t l)
     |none=>none
   |_=>none
 |.fn f []=>some (.fn f [])
 |.fn _ (_::_)=>none
 |c=>some c
def roW (get:Get):W->Option W
 |.one c=>(roC get c).map .one
 |.agg cs=>(a1x (roC get) cs).map .agg
def c4c:C->Bool
 |.ref _ _=>true
 |.asl _ _ _ _=>true
 |_=>false
def bare:C->Bool
 |.sl _ _=>false
 |.rptr _ _ _ _=>false
 |.arptr _ _ _ _ _ _=>false
 |_=>true
def c1Y:Ty->Bool
 |.slice _=>false
 |.cons a b=>c1Y a&&c1Y b
 |_=>true
def c4d:Option Blk->Bool
 |some (.box cs)=>cs.all bare
 |some (.arr t _)=>c1Y t
 |none=>true
structure Out where
 ok:Bool
 v:V
 upd:List (Nat×Option Blk)
 n:Nat
def a0z (n:Nat) (b:Bool) (w:W):Option Out:=some ⟨b,.val w,[],n⟩
def a3R (get:Get) (t:Ty):C->Option (List (Den t)×List Nat)
 |.nil _=>some ([],[])
 | .sl a l=>match a3l a t with
   |some ⟨h⟩=>some (h ▸ l,[])
   |none=>none
 | .ref _ k=>match get k with
   | some (.arr a l)=>match a3l a t with
     |some ⟨h⟩=>some (h ▸ l,[k])
     |none=>none
   |_=>none
 |_=>none
def a2d (get:Get) (t:Ty):List (Den t)->List (Nat×W)->Option (List (Den t))
 |l,[]=>some l
 | l, (i,w)::r=>match a1x (roC get) w.cells with
   | some cs=>match dec t cs with
     | some (x,[])=>match Nat.blt i l.length with
       |true=>a2d get t (l.set i x) r
       |false=>none
     |_=>none
   |none=>none
def a0I (b:Option V) (a:Int):Option Int:=match b with
 |none=>some a
 |some (.val (.one (.int _ n)))=>some n
 |_=>none
def a1e (get:Get) (n:Nat) (agg:Bool) (size:Nat):V->Option Out
 | .val (.one (.ptr k off))=>match get k with
   | some (.box cs)=>match a3I agg size (a2D cs off size)with
     |some w=>a0z n true w
     |none=>none
   |_=>none
 | .val (.one (.eptr k t i off))=>match get k with
   | some (.arr t' l)=>match a3l t' t with
     | some ⟨h⟩=>match a3I agg size (a2D (enc t ((h ▸ l:List (Den t)).getD i (zero t))) off size)with
       |some w=>a0z n true w
       |none=>none
     |none=>none
   |_=>none
 | .val (.one (.rptr t l i off))=>match a3I agg size (a2D (enc t (l.getD i (zero t))) off size)with
   |some w=>a0z n true w
   |none=>none
 | .val (.one (.aptr k off m j))=>match get k with
   | some (.box cs)=>match e6I (a2D cs off m) m j with
     | some c=>match a3I agg size [c]with
       |some w=>a0z n true w
       |none=>none
     |none=>none
   |_=>none
 | .val (.one (.aeptr k t i off m j))=>match get k with
   | some (.arr t' l)=>match a3l t' t with
     | some ⟨h⟩=>match e6I (a2D (enc t ((h ▸ l:List (Den t)).getD i (zero t))) off m) m j with
       | some c=>match a3I agg size [c]with
         |some w=>a0z n true w
         |none=>none
       |none=>none
     |none=>none
   |_=>none
 | .val (.one (.arptr t l i off m j))=>match e6I (a2D (enc t (l.getD i (zero t))) off m) m j with
   | some c=>match a3I agg size [c]with
     |some w=>a0z n true w
     |none=>none
   |none=>none
 |_=>none
def c1Z:C->Bool
 |.pois=>false
 |_=>true
def a1n (get:Get) (n:Nat) (size:Nat) (w:W):V->Option Out
 | .val (.one (.ptr k off))=>match get k with
   | some (.box cs)=>match beq w.cells.length size&&Nat.ble (off+size) cs.length&&w.cells.all c1Z with
     |true=>some ⟨true,pois,[(k,some (.box (d2k cs off w.cells)))],n⟩
     |false=>none
   |_=>none
 | .val (.one (.eptr k t i off))=>match get k with
   | some (.arr t' l)=>match a3l t' t with
     | some ⟨h⟩=>match a1x (roC get) w.cells with
       | some cs=>match beq cs.length size&&Nat.ble (off+size) t.size&&!b1w (w.cells.flatMap a0S) k&&w.cells.all c1Z with
         | true=>match dec t (d2k (enc t ((h ▸ l:List (Den t)).getD i (zero t))) off cs)with
           |some (x,[])=>some ⟨true,pois,(k,some (.arr t ((h ▸ l:List (Den t)).set i x)))::(w.cells.flatMap a0S).map (·,none),n⟩
           |_=>none
         |false=>none
       |none=>none
     |none=>none
   |_=>none
 | .val (.one (.aptr k off m j))=>match get k with
   | some (.box cs)=>match e7Z (a2D cs off m) m j w with
     | some a=>match beq size 1&&Nat.ble (off+m) cs.length with
       |true=>some ⟨true,pois,[(k,some (.box (d2k cs off a)))],n⟩
       |false=>none
     |none=>none
   |_=>none
 | .val (.one (.aeptr k t i off m j))=>match get k with
   | some (.arr t' l)=>match a3l t' t with
     | some ⟨h⟩=>match e7Z (a2D (enc t ((h ▸ l:List (Den t)).getD i (zero t))) off m) m j w with
       | some a=>match beq size 1&&Nat.ble (off+m) t.size with
         | true=>match dec t (d2k (enc t ((h ▸ l:List (Den t)).getD i (zero t))) off a)with
           |some (x,[])=>some ⟨true,pois,[(k,some (.arr t ((h ▸ l:List (Den t)).set i x)))],n⟩
           |_=>none
         |false=>none
       |none=>none
     |none=>none
   |_=>none
 | .val (.one (.rptr .jnk _ _ off))=>match w with
   | .one (.flt .f32 _)=>match beq size 1&&beq off 0 with
     |true=>some ⟨true,pois,[],n⟩
     |false=>none
   |_=>none
 |_=>none
def a2G (n size m:Nat) (x i:V):Option Out:=match beq size 1&&Nat.blt 1 m with
 | true=>match x,i with
   |.val (.one (.ptr k o)),.val (.one (.int _ j))=>a0z n (decide (0<=j)&&decide (j<(m:Int))) (.one (.aptr k o m j.toNat))
   |.val (.one (.eptr k t q o)),.val (.one (.int _ j))=>a0z n (decide (0<=j)&&decide (j<(m:Int))) (.one (.aeptr k t q o m j.toNat))
   |.val (.one (.rptr t l q o)),.val (.one (.int _ j))=>a0z n (decide (0<=j)&&decide (j<(m:Int))) (.one (.arptr t l q o m j.toNat))
   |_,_=>none
 |false=>none
def b1x (n m:Nat) (a:TI) (x:V):Option Out:=match beq a.ty.size a.size&&Nat.blt 0 m with
 | true=>match x with
   |.val (.one (.ptr k o))=>a0z n true (.one (.asl a.ty k o m))
   |_=>none
 |false=>none
def a8l (get:Get) (n size:Nat) (t:Ty) (k:Nat) (b:Option Int) (a:Int->Option Int):Option Out:=
 match get k with
 | some (.arr t' s)=>match a3l t' t with
   | some ⟨e⟩=>match beq t.size size&&!t.isJ with
     | true=>match b,a (e ▸ s:List (Den t)).length with
       |some l,some h=>some ⟨decide (0<=l)&&decide (l<=h)&&decide (h<=((e ▸ s:List (Den t)).length:Int)),.val (.one (.sl t (((e ▸ s:List (Den t)).take h.toNat).drop l.toNat))),[(k,none)],n⟩
       |_,_=>none
     |false=>none
   |none=>none
 |_=>none
def a3L:Int:=1099511627776
def a0k (n:Nat):Bool:=Nat.ble n 1099511627776
theorem b1y {n:Nat} (h:a0k n=true):(n:Int)<=a3L:=by
 have:=Nat.le_of_ble_eq_true h;unfold a3L;omega
def a2H (get:Get) (n:Nat) (t:Ty) (bytes:Nat) (s x:C):Option Out:=
 match Nat.ble bytes 128 with
 |false=>none
 | true => match a3R get t x with
   |none=>none
   | some (new,kx)=>match s with
     |.nil _=>some ⟨a0k new.length,.val (.one (.ref t n)),[(n,some (.arr t new))],n+1⟩
     | .ref _ k=>match get k with
       | some (.arr t' l)=>match a3l t' t with
         | some ⟨h⟩=>match b1w kx k with
           |true=>none
           |false=>some ⟨a0k ((h ▸ l:List (Den t)).length+new.length),.val (.one (.ref t n)),
            [(n,some (.arr t ((h ▸ l:List (Den t))++new))),(k,none)],n+1⟩
         |none=>none
       |_=>none
     |_=>none
def a0p (s:ByteArray) (i:Int):Int:=((s.data.toList.getD i.toNat 0).toNat:Int)
def e1H (a b:Int):Int:=if b>a then b else a
def a3a (a b:Int):Int:=if b<a then b else a
def b2T (k:FloatKind) (a b:Nat):Nat:=match k.format.order a b with
 |none=>qn k
 |some .lt=>b
 |some .gt=>a
 |some .eq=>if(k.decode a).neg then b else a
def f5R (k:FloatKind) (a b:Nat):Nat:=match k.format.order a b with
 |none=>qn k
 |some .lt=>a
 |some .gt=>b
 |some .eq=>if(k.decode a).neg then a else b
def a7G (get:Get) (n:Nat) (s:Srt) (c:C):Option Out:=match s,c with
 |.slice,.nil _=>a0z n true (.one (.int .i64 0))
 |.slice,.sl _ l=>a0z n true (.one (.int .i64 l.length))
 | .slice,.ref _ k=>match get k with
   |some (.arr _ l)=>a0z n true (.one (.int .i64 l.length))
   |_=>none
 |.string,.str s=>a0z n true (.one (.int .i64 s.size))
 |_,_=>none
def e8a (t:Bool) (x y:V):V:=match t with
 |true=>x
 |false=>y
def a3k (Γ:Env) (get:Get) (n:Nat) (b:Builtin) (ts:List Nat) (args:List V):Option Out:=
 match b,args with
 | .len,[.val (.one c)]=>match ts with
   | [t]=>match Γ.tab t with
     |some ti=>a7G get n ti.sort c
     |none=>none
   |_=>none
 | .append, [.val (.one s),.val (.one x)]=>match ts with
   | [st,xt]=>match beq st xt with
     | true=>match Γ.tab st with
       | some e=>match e.sort with
         | .slice=>match Γ.tab e.elem with
           | some d=>match beq d.ty.size d.size&&Nat.blt 0 d.size with
             |true=>a2H get n d.ty d.bytes s x
             |false=>none
           |none=>none
         |_=>none
       |none=>none
     |false=>none
   |_=>none
 |.real,[.val (.one (.cpx k a _))]=>a0z n true (.one (.flt k a))
 |.imag,[.val (.one (.cpx k _ b))]=>a0z n true (.one (.flt k b))
 | .complex,[.val (.one (.flt k a)),.val (.one (.flt k' b))]=>match a1d k k' with
   |true=>a0z n true (.one (.cpx k a b))
   |false=>none
 | .max,[.val (.one (.int k a)),.val (.one (.int k' b))]=>match a2C k k' with
   |true=>a0z n true (.one (.int k (e1H a b)))
   |false=>none
 | .min,[.val (.one (.int k a)),.val (.one (.int k' b))]=>match a2C k k' with
   |true=>a0z n true (.one (.int k (a3a a b)))
   |false=>none
 | .max,[.val (.one (.flt k a)),.val (.one (.flt k' b))]=>match a1d k k' with
   |true=>a0z n true (.one (.flt k (b2T k a b)))
   |false=>none
 | .min,[.val (.one (.flt k a)),.val (.one (.flt k' b))]=>match a1d k k' with
   |true=>a0z n true (.one (.flt k (f5R k a b)))
   |false=>none
 |_,_=>none
def a6o:List Nat->Nat->Nat->Nat
 |[],n,i=>n+i
 |k::_,_,0=>k
 |_::r,n,i+1=>a6o r n i
def d2m:List W->V
 |[w] => .val w
 |ws => .tup ws
def a2o (outs:List (Option Blk)):Get:=fun k=>(outs[k]?).join
def b5Y:List Nat->List (Option Blk)->Nat->List (Nat×Option Blk)
 |_,[],_=>[]
 |k::ks,b::r,n=>(k,b)::b5Y ks r n
 |[],b::r,n=>(n,b)::b5Y [] r (n+1)
def a4s (sm:a6m) (get:Get) (n:Nat) (args:List W):Option Out:=
 let ks:=a2E get a1P (args.flatMap a0R) []
 match a1x (b8i fun k=>a2F ks k 0) args,a1x (fun k=>(get k).bind (b2S fun k=>a2F ks k 0)) ks with
 | some args',some ins=>match sm.run args' ins with
   | some (ok,rs,outs)=>match Nat.ble ks.length outs.length,a1x (b8i fun i=>some (a6o ks n i)) rs,a1x (a5U fun i=>some (a6o ks n i)) outs with
     |true,some rs',some outs'=>some ⟨ok,d2m rs',b5Y ks outs' n,n+(outs.length-ks.length)⟩
     |_,_,_=>none
   |none=>none
 |_,_=>none
def a6p (sm:a6m) (frz:Bool) (get:Get) (n:Nat) (args:List W):Option Out:=
 match a1x (roW get) args with
 | some a=>match sm.run a []with
   | some (ok,rs,outs) =>
     match args.all (fun w=>w.cells.all (fun c=>!c4c c))||(!frz&&rs.all (fun w=>w.cells.all bare)&&outs.all c4d)with
     |false=>none
     | true=>match frz with
       | true=>match a1x (roW (a2o outs)) rs with
         |some b=>some ⟨ok,d2m b,[],n⟩
         |none=>none
       | false=>match a1x (b8i fun i=>some (n+i)) rs,a1x (a5U fun i=>some (n+i)) outs with
         |some b,some outs'=>some ⟨ok,d2m b,b5Y [] outs' n,n+outs.length⟩
         |_,_=>none
   |none=>none
 |none=>none
def a5V:List V->Option (List W):=a1x fun
 |.val w=>some w
 |_=>none
def b2U (Γ:Env) (o:Oper) (get:Get) (n:Nat) (f:Nat) (args:List W):Option Out:=
 match Γ.sem f with
 | some sm=>match sm.own with
   |true=>a4s sm get n args
   |false=>a6p sm (match o.dst with|some d=>b1w Γ.frz d|none=>false) get n args
 |none=>none
def a7H (l:List Int):ByteArray:=l.foldl (fun r n=>r.push (UInt8.ofNat n.toNat)) ByteArray.empty
def c4e:IntKind->Bool
 |.u8=>true
 |_=>false
def c2a (Γ:Env) (get:Get) (a b:TI) (c:C):Option ByteArray:=match a.sort,b.sort with
 | .slice,.string=>match Γ.tab a.elem with
   | some d=>match d.sort with
     | .int k=>match c4e k with
       | true=>match a3R get (.int .u8) c with
         |some (l,_)=>some (a7H l)
         |none=>none
       |false=>none
     |_=>none
   |none=>none
 |_,_=>none
def e1I (Γ:Env) (t:Nat) (cs:List C):Bool:=match Γ.tab t with
 |some ti=>beq cs.length ti.size&&a8w ti.zero cs
 |none=>false
def d6u:Operand->Bool
 |.const (.slice none n c)=>beq n 0&&beq c 0
 |_=>false
def b1z (Γ:Env) (t:Nat) (x:Operand) (v:V):V:=match d6u x with
 |false=>v
 | true=>match Γ.tab t with
   | some ti=>match ti.sort with
     | .slice=>match Γ.tab ti.elem with
       |some a => .val (.one (.nil a.ty))
       |none=>v
     |_=>v
   |none=>v
def act (Γ : Env) (o:Oper) (ρ:Operand->V) (get:Get) (n:Nat):Option Out :=
 match o.op with
 |.move x=>some ⟨true,b1z Γ o.type x (ρ x),[],n⟩
 |.assign x=>some ⟨true,b1z Γ o.type x (ρ x),[],n⟩
 | .pick c a b=>match ρ c with
   |.val (.one (.bool t))=>some ⟨true,e8a t (ρ a) (ρ b),[],n⟩
   |_=>none
 | .alloc t=>match Γ.tab t with
   |some ti=>some ⟨true,.val (.one (.ptr n 0)),[(n,some (.box ti.zero))],n+1⟩
   |none=>none
 | .box _ x=>match ρ x with
   | .val w=>match w.cells.all c1Z with
     |true=>some ⟨true,.val (.one (.ptr n 0)),[(n,some (.box w.cells))],n+1⟩
     |false=>none
   |.tup _=>none
 | .build t e=>match Γ.tab t with
   | some ti=>match ti.sort with
     | .struct=>match a1x (fun p=>match ρ p.2 with|.val w=>some (p.1,w)|.tup _=>none) e.toList with
       | some ps=>match ps.all (fun p=>p.2.cells.all c1Z),c1X ti.fields ti.zero ps with
         |true,some cs=>a0z n true (.agg cs)
         |_,_=>none
       |none=>none
     | .array _=>match e.toList,Γ.tab ti.elem with
       |[],some _=>a0z n true (.agg ti.zero)
       |_,_=>none
     |_=>none
   |none=>none
 | .buildSlice t len e=>match Γ.tab t with
   | some ti => match ti.sort with
     | .slice=>match Γ.tab ti.elem with
       | some d=>match a1x (fun p=>match ρ p.2 with|.val w=>some (p.1,w)|.tup _=>none) e.toList with
         | some ps=>match Nat.ble (len*d.size) 1000000&&beq d.ty.size d.size&&Nat.blt 0 d.size&&ps.all (fun p=>p.2.cells.all c1Z)with
           | true=>match a2d get d.ty (List.replicate len (zero d.ty)) ps with
             |some l=>some ⟨true,.val (.one (.ref d.ty n)),(n,some (.arr d.ty l))::(ps.flatMap fun p=>a0R p.2).map (·,none),n+1⟩
             |none=>none
           |false=>none
         |none=>none
       |none=>none
     |_=>none
   |none=>none
 | .load t a=>match Γ.tab t with
   |some ti=>a1e get n ti.agg ti.size (ρ a)
   |none=>none
 | .store t a x=>match Γ.tab t,b1z Γ t x (ρ x)with
   |some ti,.val w=>a1n get n ti.size w (ρ a)
   |_,_=>none
 | .nilCheck x=>match ρ x with
   |.val (.one (.ptr k o))=>some ⟨true,.val (.one (.ptr k o)),[],n⟩
   |.val (.one (.eptr k t i o))=>some ⟨true,.val (.one (.eptr k t i o)),[],n⟩
   |.val (.one (.rptr t l i o))=>some ⟨true,.val (.one (.rptr t l i o)),[],n⟩
   |.val (.one (.fn f cs))=>some ⟨true,.val (.one (.fn f cs)),[],n⟩
   |_=>none
 | .binOp u t x y _=>match ρ x,ρ y with
   | .val (.one a),.val (.one b)=>match b1v a,b1v b with
     | some p,some q=>match Γ.tab t with
       | some ti=>match ti.sort,f9c u p q with
         |.bool,some c=>a0z n true (.one c)
         |_,_=>none
       |none=>none
     | _,_=>match c4b u a b with
       |some (ok,c)=>a0z n ok (.one c)
       |none=>none
   | .val (.agg a),.val (.agg b)=>match Γ.eqT t&&e1I Γ t a,f9d u a b with
     |true,some c=>a0z n true (.one c)
     |_,_=>none
   |_,_=>none
 | .unOp u _ x=>match ρ x with
   | .val (.one c)=>match unC u c with
     |some c'=>a0z n true (.one c')
     |none=>none
   |_=>none
 | .convert A dst x=>match Γ.tab A,Γ.tab dst,ρ x with
   | some si,some di,.val (.one c)=>match b5X di.sort c with
     |some (ok,c')=>a0z n ok (.one c')
     | none=>match c2a Γ get si di c with
       |some b=>a0z n true (.one (.str b))
       |none=>none
   |_,_,_=>none
 | .makeSlice t l c=>match Γ.tab t,ρ l,ρ c with
   | some ti,.val (.one (.int _ x)),.val (.one (.int _ y))=>match ti.sort with
     | .slice=>match Γ.tab ti.elem with
       | some d=>match Nat.ble d.bytes 128&&beq d.ty.size d.size&&Nat.blt 0 d.size with
         |true=>some ⟨decide (0<=x)&&a0k x.toNat&&(x==y),.val (.one (.ref d.ty n)),[(n,some (.arr d.ty (List.replicate x.toNat (zero d.ty))))],n+1⟩
         |false=>none
       |none=>none
     |_=>none
   |_,_,_=>none
 | .slice t x z v B=>match Γ.tab t,B with
   | some ti,none=>match ti.sort,ρ x with
     | .string,.val (.one (.str s))=>match a0I (z.map ρ) 0,a0I (v.map ρ) s.size with
       |some l,some h=>a0z n (decide (0<=l)&&decide (l<=h)&&decide (h<=(s.size:Int))) (.one (.str (s.extract l.toNat h.toNat)))
       |_,_=>none
     | .slice,.val (.one (.sl t s))=>match Γ.tab ti.elem with
       | some d=>match beq t.size d.size with
         | true=>match a0I (z.map ρ) 0,a0I (v.map ρ) s.length with
           |some l,some h=>a0z n (decide (0<=l)&&decide (l<=h)&&decide (h<=(s.length:Int))) (.one (.sl t ((s.take h.toNat).drop l.toNat)))
           |_,_=>none
         |false=>none
       |none=>none
     | .slice,.val (.one (.ref t k))=>match Γ.tab ti.elem with
       |some d=>a8l get n d.size t k (a0I (z.map ρ) 0) (a0I (v.map ρ))
       |none=>none
     | .array m,x=>match z,v with
       | none,none=>match Γ.tab ti.elem with
         |some d=>b1x n m d x
         |none=>none
       |_,_=>none
     |_,_=>none
   |_,_=>none
 | .fieldAddr t x f=>match Γ.tab t with
   | some ti=>match ti.sort with
     | .struct=>match ti.fields[f]? with
       | some (off,size,_)=>match beq size 0 with
         |true=>none
         | false=>match ρ x with
           |.val (.one (.ptr k o))=>a0z n true (.one (.ptr k (o+off)))
           |.val (.one (.eptr k ty i o))=>a0z n true (.one (.eptr k ty i (o+off)))
           |.val (.one (.rptr ty l i o))=>a0z n true (.one (.rptr ty l i (o+off)))
           |_=>none
       |none=>none
     |_=>none
   |none=>none
 | .field t x f=>match Γ.tab t with
   | some ti=>match ti.sort with
     | .struct=>match ti.fields[f]? with
       | some (off,size,agg)=>match ρ x with
         | .val (.agg cs)=>match a3I agg size (a2D cs off size)with
           |some w=>a0z n true w
           |none=>none
         |_=>none
       |none=>none
     |_=>none
   |none=>none
 | .indexAddr t x i=>match Γ.tab t with
   | some ti => match ti.sort with
     | .slice=>match Γ.tab ti.elem with
       | some d=>match ρ x,ρ i with
         | .val (.one (.sl t l)),.val (.one (.int _ j))=>match beq t.size d.size with
           |true=>a0z n (decide (0<=j)&&decide (j<(l.length:Int))) (.one (.rptr t l j.toNat 0))
           |false=>none
         | .val (.one (.ref t k)),.val (.one (.int _ j))=>match get k with
           | some (.arr t' l)=>match beq t.size d.size,a3l t' t with
             |true,some _=>a0z n (decide (0<=j)&&decide (j<(l.length:Int))) (.one (.eptr k t j.toNat 0))
             |_,_=>none
           |_=>none
         |.val (.one (.nil t)),.val (.one (.int _ _))=>a0z n false (.one (.rptr t [] 0 0))
         |_,_=>none
       |none=>none
     | .array m=>match Γ.tab ti.elem with
       |some d=>a2G n d.size m (ρ x) (ρ i)
       |none=>none
     |_=>none
   |none=>none
 | .index t x i=>match Γ.tab t with
   | some ti=>match ti.sort with
     | .string=>match ρ x,ρ i with
       |.val (.one (.str s)),.val (.one (.int _ j))=>a0z n (decide (0<=j)&&decide (j<(s.size:Int))) (.one (.int .u8 (a0p s j)))
       |_,_=>none
     |_=>none
   |none=>none
 | .makeFunc fn first r=>match fn,first.toList with
   | .func f,[]=>match a1x (fun x=>match ρ x with|.val (.one (.ptr k 0))=>some k|_=>none) r.toList with
     |some ks=>a0z n true (.one (.fn f ks))
     |none=>none
   |_,_=>none
 | .extract t i=>match ρ t with
   | .tup ws=>match ws[i]? with
     |some w=>a0z n true w
     |none=>none
   |_=>none
 | .call c=>match c.callee with
   |.builtin b=>a3k Γ get n b c.argTypes.toList (c.args.toList.map ρ)
   | .value f=>match ρ f,a5V (c.args.toList.map ρ)with
     |.val (.one (.fn g r)),some ws=>b2U Γ o get n g (ws++r.map fun k => .one (.ptr k 0))
     |_,_=>none
   |_=>none
 |_=>none
structure Ent where
 fp:List Nat
 up:List Nat
 kb:Bool
def a8m (o:Oper) (ρ:Operand->V) (get:Get):List Nat:=
 match o.op with
 |.load _ a=>a1u (ρ a)
 |.store _ a x=>a1u (ρ a)++a1u (ρ x)
 |.buildSlice _ _ b=>b.toList.flatMap fun p=>a1u (ρ p.2)
 |.indexAddr _ x _=>a1u (ρ x)
 |.slice _ x _ _ _=>a1u (ρ x)
 |.convert _ _ x=>a1u (ρ x)
 |.call c=>(c.args.toList.flatMap (fun x=>a1u (ρ x))++(match c.callee with|.value f=>a1u (ρ f)|_=>[])) ++
  a2E get a1P (c.args.toList.flatMap (fun x=>a1u (ρ x))++(match c.callee with|.value f=>a1u (ρ f)|_=>[])) []
 |_=>[]
def c2b (n:Nat):List Nat->Bool
 |[]=>true
 |k::r=>Nat.blt k n&&c2b n r
def e8b:Option Blk->List Nat
 |some (.box cs)=>cs.flatMap a0S
 |_=>[]
def d2n (o:Oper) (ρ:Operand->V) (get:Get) (n a:Nat):Bool:=
 Nat.ble n a&&c2b n (o.op.operands.toList.flatMap fun x=>a1u (ρ x))&&c2b n (a8m o ρ get)&&c2b n ((a8m o ρ get).flatMap fun k=>e8b (get k))
def a7g (Γ:Env) (d:Option Nat):Bool:=match d with
 |some t=>Nat.blt t Γ.nt
 |none=>true
def St.apply (s:St) (out:Out):St:={ s with mem:=out.upd++s.mem,n:=out.n }
def a2p (b:Bool):V := .val (.one (.bool b))
def c3U {R:Type} (Γ:Env) (o:Oper) (K:St->Ent->Option R) (s:St):Option R:=
 match act Γ o s.val s.get s.n with
 |none=>none
 | some out=>match a7g Γ o.dst with
   | true=>match out.ok with
     |true=>K ((s.apply out).putO o.dst out.v) ⟨a8m o s.val s.get,out.upd.map (·.1),d2n o s.val s.get s.n out.n⟩
     |false=>none
   |false=>none
def a7h {R:Type} (Γ:Env) (o:Oper) (K:St->Ent->Option R) (s:St):Option R:=
 match o.op with
 | .pick (.tmp t) _ _=>match s.tmpV t with
   | .val (.one (.bool b))=>match b with
     |true=>c3U Γ o K (s.put t (a2p true))
     |false=>c3U Γ o K (s.put t (a2p false))
   |_=>none
 |_=>c3U Γ o K s
def a7W {R:Type} (Γ:Env) (o:Oper) (K:St->Ent->Option R) (s:St):Option R:=
 match a7g Γ o.dst with
 |true=>K (s.putO o.dst (.tup [])) ⟨[],[],true⟩
 |false=>none
def b0n {R:Type} (Γ:Env) (ops:Array Oper):List Oper->St->List Ent->(St->List Ent->Option R)->Option R
 |[],s,tr,K=>K s tr
 | o :: rest,s,tr,K=>match o.guard with
   |none=>a7h Γ o (fun a e=>b0n Γ ops rest a (e::tr) K) s
   | some (g,want)=>match (ops[g]?).bind (·.dst)with
     |none=>none
     | some t=>match s.tmpV t with
       | .val (.one (.bool b))=>match b with
         | true=>match want with
           |true=>a7h Γ o (fun a e=>b0n Γ ops rest a (e::tr) K) (s.put t (a2p true))
           |false=>a7W Γ o (fun a e=>b0n Γ ops rest a (e::tr) K) (s.put t (a2p true))
         | false=>match want with
           |true=>a7W Γ o (fun a e=>b0n Γ ops rest a (e::tr) K) (s.put t (a2p false))
           |false=>a7h Γ o (fun a e=>b0n Γ ops rest a (e::tr) K) (s.put t (a2p false))
       |.tup []=>a7W Γ o (fun a e=>b0n Γ ops rest a (e::tr) K) s
       |_=>none
def c2c (a:List Nat):List Edge->Nat
 |[]=>0
 | e::r=>match Region.binds .any e with
   |true=>Nat.lor (Nat.lor (Nat.shiftLeft 1 e.on) (a.getD e.on 0)) (c2c a r)
   |false=>c2c a r
def c4f:List Oper->List Nat->List Nat
 |[],acc=>acc
 |o::r,acc=>c4f r (acc++[c2c acc o.after.toList])
def e6K:List Nat->List Nat->Bool
 |[],_=>true
 | x::r,l=>match b1w l x with
   |true=>false
   |false=>e6K r l
def d2o (a b:Ent):Bool:=e6K a.fp b.up&&e6K b.fp a.up&&e6K a.up b.up
def c4g (o:Op):List Nat:=o.operands.toList.filterMap fun|.tmp t=>some t|_=>none
def looks (ops:Array Oper) (o:Oper):List Nat:=c4g o.op++(match o.guard with
 |some (g,_)=>match (ops[g]?).bind (·.dst)with|some t=>[t]|none=>[]
 |none=>[])
def b8j (ops:Array Oper) (x y:Oper):Bool:=
 (match x.dst with|some d=>!b1w (looks ops y) d|none=>true) &&
 (match y.dst with|some d=>!b1w (looks ops x) d|none=>true) &&
 (match x.dst,y.dst with|some d,some e=>!beq d e|_,_=>true)
def a8n (ops:Array Oper) (a:Nat) (o:Oper) (e:Ent):List (Nat×Oper×Ent)->Bool
 |[]=>true
 | (j,o',e')::r=>(match Nat.testBit a j with
   |true=>true
   |false=>d2o e e'&&b8j ops o o')&&a8n ops a o e r
def b8k (ops:Array Oper):List Nat->List (Nat×Oper×Ent)->List (Nat×Oper×Ent)->Bool
 |a::as1,(i,o,e)::r,before=>a8n ops a o e before&&b8k ops as1 r ((i,o,e)::before)
 |_,_,_=>true
def b1A:Nat->List Oper->List Ent->List (Nat×Oper×Ent)
 |i,o::os,e::es=>(i,o,e)::b1A (i+1) os es
 |_,_,_=>[]
def b8l:Nat->List Oper->Bool
 |_,[]=>true
 |i,o::r=>o.after.toList.all (fun e=>!Region.binds .any e||Nat.blt e.on i)&&b8l (i+1) r
def b2V (ops:Array Oper) (a:List Ent):Bool:=
 b8k ops (c4f ops.toList []) (b1A 0 ops.toList a.reverse) []&&b8l 0 ops.toList&&a.all (·.kb)
def gone (ks:List Nat):List (Nat×Option Blk):=ks.map (·,none)
def c3V (c:Cv) (s:St):St:=match c with
 |.forget t=>s.put t pois
 | .sl t=>match s.tmpV t with
   |.val (.one (.nil ty))=>s.put t (.val (.one (.sl ty [])))
   |_=>s
 | .boxSl t off=>match s.tmpV t with
   | .val (.one (.ptr k _))=>match s.get k with
     | some (.box cs)=>match cs[off]? with
       |some (.nil ty)=>{ s with mem:=(k,some (.box (cs.set off (.sl ty []))))::s.mem }
       |_=>s
     |_=>s
   |_=>s
 | .nil t=>match s.tmpV t with
   |.val (.one (.nil ty))=>{ s with tmps:=(t,.val (.one (.ref ty s.n)))::s.tmps,mem:=(s.n,some (.arr ty []))::s.mem,n:=s.n+1 }
   |_=>s
 | .boxNil t off=>match s.tmpV t with
   | .val (.one (.ptr k _))=>match s.get k with
     | some (.box cs)=>match cs[off]? with
       |some (.nil ty)=>{ s with mem:=(k,some (.box (cs.set off (.ref ty s.n))))::(s.n,some (.arr ty []))::s.mem,n:=s.n+1 }
       |_=>s
     |_=>s
   |_=>s
 | .mv t off j=>match s.tmpV t with
   | .val (.one (.ptr k _))=>match s.get k with
     | some (.box cs)=>match cs[off]? with
       | some (.ref ty j')=>match beq j j' with
         | true=>match s.get j with
           |some (.arr ty' l)=>{ s with mem:=(k,some (.box (cs.set off (.ref ty s.n))))::(s.n,some (.arr ty' l))::(j,none)::s.mem,n:=s.n+1 }
           |_=>s
         |false=>s
       |_=>s
     |_=>s
   |_=>s
 | .frz t=>match s.tmpV t with
   | .val w=>match roW s.get w with
     |some w'=>{ s with tmps:=(t,.val w')::s.tmps,mem:=gone (a0R w)++s.mem }
     |none=>s
   |_=>s
 | .frzBox t=>match s.tmpV t with
   | .val (.one (.ptr k _))=>match s.get k with
     | some (.box cs)=>match a1x (roC s.get) cs with
       | some a=>match b1w (cs.flatMap a0S) k with
         |false=>{ s with mem:=(k,some (.box a))::(gone (cs.flatMap a0S)++s.mem) }
         |true=>s
       |none=>s
     |_=>s
   |_=>s
 | .frzCell t off=>match s.tmpV t with
   | .val (.one (.ptr k _))=>match s.get k with
     | some (.box cs)=>match cs[off]? with
       | some c=>match roC s.get c with
         | some c'=>match b1w (a0S c) k with
           |false=>{ s with mem:=(k,some (.box (cs.set off c')))::(gone (a0S c)++s.mem) }
           |true=>s
         |none=>s
       |none=>s
     |_=>s
   |_=>s
 | .jnk t=>match s.tmpV t with
   | .val (.one (.ref (.flt .f32) k))=>match s.get k with
     |some (.arr (.flt .f32) l)=>{ s with tmps:=(t,.val (.one (.sl .jnk (l.map fun _=>()))))::s.tmps,mem:=(k,none)::s.mem }
     |_=>s
   |_=>s
def b2W:List Cv->St->St
 |[],s=>s
 |c::r,s=>b2W r (c3V c s)
def a3W:List Nat->Nat->List Nat
 |[],_=>[]
 | k::r,m=>match Nat.ble m k with
   |true=>k::a3W r m
   |false=>a3W r m
def a2Y (a:List Nat) (m k:Nat):Option Nat:=match Nat.blt k m with
 |true=>some k
 |false=>a2F a k m
def c4h (get:Get) (a:Nat->Option Nat):List Nat->Option (List (Nat×Option Blk))
 |[]=>some []
 | k::r=>match a k,a5U a (get k),c4h get a r with
   |some k',some b,some l=>some ((k',b)::l)
   |_,_,_=>none
def a9T:Nat->List Nat
 |0=>[]
 |n+1=>a9T n++[n]
def a8y (live:List Nat) (own:List Cv) (b:St):Option St:=
 let s:=b2W own b
 let ks:=a2E s.get a1P (a9T s.m++live.flatMap fun t=>a1u (s.tmpV t)) (a9T 0)
 let a:=a3W ks s.m
 match a1x (fun t=>(e6H (a2Y a s.m) (s.tmpV t)).map fun v=>(t,v)) live,c4h s.get (a2Y a s.m) (a9T s.m++a)with
 |some tmps,some mem=>some { tmps,mem,n:=s.m+a.length,m:=s.m }
 |_,_=>none
def a0O:Code->Nat
 |.region id _ _=>id
 |.seq x _=>a0O x
 |.block _ x=>a0O x
 |.loop x=>a0O x
 |.cond _ x _=>a0O x
 |_=>0
def a5W {R:Type} (cut:Option (List Nat×List Cv)) (K:Ex->St->Option R) (e:Ex) (s:St):Option R:=
 match e with
 | .normal=>match cut with
   | some c=>match a8y c.1 c.2 s with
     |some a=>K .normal a
     |none=>none
   |none=>K .normal s
 |e=>K e s
def a7I {R:Type} (id:Nat) (cut:Option (List Nat×List Cv)) (K:Ex->St->Option R) (e:Ex) (s:St):Option R:=
 match e with
 |.normal=>a5W cut K .normal s
 | .exit i=>match beq i id with
   |true=>a5W cut K .normal s
   |false=>K (.exit i) s
 |.ret=>K .ret s
def e1J {R:Type} (ex:Nat) (past:List Nat) (pown:List Cv) (K:Ex->St->Option R) (e:Ex) (s:St):Option R:=match e with
 |.normal=>none
 | .exit i=>match beq i ex with
   | true=>match a8y past pown s with
     |some a=>K (.exit i) a
     |none=>none
   |false=>none
 |.ret=>K .ret s
def a3M {R:Type} (live:List Nat) (own:List Cv) (ex:Nat) (past:List Nat) (pown:List Cv) (F:St->Option R) (K:Ex->St->Option R) (e:Ex) (s:St):Option R:=match e with
 | .normal=>match a8y live own s with
   |some a=>F a
   |none=>none
 |e=>e1J ex past pown K e s
def e1K {R:Type} (L:a4V) (K:Ex->St->Option R) (s:St):Option R:=
 match a8y L.live L.own s with
 |none=>none
 | some a=>match L.run a with
   |none=>none
   | some (ok,b,s1,s2)=>match ok with
     |false=>none
     | true=>match b with
       |true=>K .ret s2
       |false=>K (.exit L.ex) s1
def g6y:ResultVar->Nat
 |.tmp t=>t
 |.cell a _=>a
def b2X (c:Operand):Nat:=match c with
 |.tmp t=>t
 |_=>0
def St.putC (s:St) (c:Operand) (b:Bool):St:=match c with
 |.tmp t=>s.put t (a2p b)
 |_=>s
def EBk {R:Type} (Γ:Env):Code->(Ex->St->Option R)->St->Option R
 |.skip,K,s=>K .normal s
 |.label _,K,s=>K .normal s
 | .seq x y,K,s=>EBk Γ x (fun e a=>match e with
   |.normal=>EBk Γ y K a
   |e=>K e a) s
 | .cond c x y,K,s=>match s.val c with
   | .val (.one (.bool b))=>match b with
     |true=>EBk Γ x (a5W (a1D Γ.cut (b2X c)) K) (s.putC c true)
     |false=>EBk Γ y (a5W (a1D Γ.cut (b2X c)) K) (s.putC c false)
   |_=>none
 |.block id x,K,s=>EBk Γ x (a7I id (a1D Γ.past id) K) s
 | .loop c,K,s=>match a1D Γ.loops (a0O c)with
   |some L=>e1K L K s
   |none=>none
 |.exit id,K,s=>K (.exit id) s
 | .ret,K,s=>match a8y (Γ.res.map g6y) Γ.rown s with
   |some a=>K .ret a
   |none=>none
 | .region _ ops d,K,s=>b0n Γ ops ops.toList s [] (fun a f=>match d with
   |false=>K .normal a
   | true=>match b2V ops f with
     |true=>K .normal a
     |false=>none)
 |_,_,_=>none
def a9W {R:Type} (Γ:Env) (c:Code) (L:a4V) (K:Ex->St->Option R):Nat->St->Option R
 |0,_=>none
 |k+1,s=>EBk Γ c (a3M L.live L.own L.ex L.past L.pown (a9W Γ c L K k) K) s
def a2e:Code->List Code
 |.seq x y=>a2e x++a2e y
 |.cond _ x y=>a2e x++a2e y
 |.block _ x=>a2e x
 |.loop x=>x::a2e x
 |_=>[]
def a3m (Γ:Env) (c:Code) (L:a4V):Prop:=
 ∀a b s1 s2,L.run a=some (true,b,s1,s2)->∀(R:Type) (K:Ex->St->Option R),∃n,a9W Γ c L K n a=(if b then K .ret s2 else K (.exit L.ex) s1)
def a7i (Γ:Env) (c:Code):Prop:=∀c'∈a2e c,∀L,a1D Γ.loops (a0O c')=some L->a3m Γ c' L
def b2Y:Nat->List W->List (Nat×V)
 |_,[]=>[]
 |i,w::r=>(i,.val w)::b2Y (i+1) r
def c4i:Nat->List Blk->List (Nat×Option Blk)
 |_,[]=>[]
 |i,b::r=>(i,some b)::c4i (i+1) r
def a7X (args:List W) (ins:List Blk):St:={ tmps:=b2Y 0 args,mem:=c4i 0 ins,n:=ins.length,m:=ins.length }
def e8c (Γ:Env) (s:St):ResultVar->Option W
 | .tmp t=>match s.tmpV t with
   |.val w=>some w
   |_=>none
 | .cell a t=>match Γ.tab t with
   | some ti=>match a1e s.get 0 ti.agg ti.size (s.tmpV a)with
     | some out=>match out.v with
       |.val w=>some w
       |_=>none
     |none=>none
   |none=>none
def fin (Γ:Env) (s:St):Option (List W×List (Option Blk)):=
 match a1x (e8c Γ s) Γ.res with
 |none=>none
 | some ws =>
   let ks:=a2E s.get a1P (a9T s.m++ws.flatMap a0R) (a9T 0)
   let a:=a3W ks s.m
   match a1x (b8i (a2Y a s.m)) ws,a1x (fun k=>a5U (a2Y a s.m) (s.get k)) (a9T s.m++a)with
   |some ws',some outs=>some (ws',outs)
   |_,_=>none
def b5Z {R:Type} (Γ:Env) (c:Code) (f:List W×List (Option Blk)->Option R) (args:List W) (ins:List Blk):Option R:=
 match Nat.ble args.length Γ.nt with
 | true=>EBk Γ c (fun e s=>match e with
   |.exit _=>none
   | _=>match fin Γ s with
     |some r=>f r
     |none=>none) (a7X args ins)
 |false=>none
def All2 {α β:Type} (R:α->β->Prop):List α->List β->Prop
 |[],[]=>True
 |a::as1,b::bs=>R a b /\ All2 R as1 bs
 |_,_=>False
theorem All2.length {α β:Type} {R:α->β->Prop}:∀{as1:List α} {bs:List β},All2 R as1 bs->as1.length=bs.length
 |[],[],_=>rfl
 |_::_,_::_,h=>by simp[h.2.length]
 |[],_::_,h=>h.elim
 |_::_,[],h=>h.elim
theorem All2.mono {α β:Type} {R c:α->β->Prop} (d:∀a b,R a b->c a b):∀{as1:List α} {bs:List β},All2 R as1 bs->All2 c as1 bs
 |[],[],_=>trivial
 |_::_,_::_,h=>⟨d _ _ h.1,h.2.mono d⟩
 |[],_::_,h=>h.elim
 |_::_,[],h=>h.elim
theorem All2.mono_mem {α β:Type} {R c:α->β->Prop}:∀{as1:List α} {bs:List β},(∀a b,a∈as1->R a b->c a b)->All2 R as1 bs->All2 c as1 bs
 |[],[],_,_=>trivial
 |_::_,_::_,hr,h=>⟨hr _ _ (List.mem_cons_self ..) h.1,All2.mono_mem (fun a b d=>hr a b (List.mem_cons_of_mem _ d)) h.2⟩
 |[],_::_,_,h=>h.elim
 |_::_,[],_,h=>h.elim
theorem All2.append {α β:Type} {R:α->β->Prop}:∀{as1:List α} {bs:List β} {a:List α} {b:List β},All2 R as1 bs->All2 R a b->All2 R (as1++a) (bs++b)
 |[],[],_,_,_,h'=>h'
 |_::_,_::_,_,_,h,h'=>⟨h.1,h.2.append h'⟩
 |[],_::_,_,_,h,_=>h.elim
 |_::_,[],_,_,h,_=>h.elim
theorem All2.split {α β:Type} {R:α->β->Prop}:∀{as1 a:List α} {bs:List β},All2 R (as1++a) bs->∃c d,bs=c++d /\ All2 R as1 c /\ All2 R a d
 |[],_,bs,h=>⟨[],bs,rfl,trivial,h⟩
 | _::as1,a,b::bs,h=>by
   obtain⟨c,d,rfl,e,f⟩:=All2.split (as1:=as1) h.2;exact⟨b::c,d,rfl,⟨h.1,e⟩,f⟩
 |_::_,_,[],h=>h.elim
theorem All2.drop {α β:Type} {R:α->β->Prop}:∀(n:Nat) {as1:List α} {bs:List β},All2 R as1 bs->All2 R (as1.drop n) (bs.drop n)
 |0,_,_,h=>h
 |_+1,[],[],h=>h
 |n+1,_::_,_::_,h=>All2.drop n h.2
 |_+1,[],_::_,h=>h.elim
 |_+1,_::_,[],h=>h.elim
theorem All2.take {α β:Type} {R:α->β->Prop}:∀(n:Nat) {as1:List α} {bs:List β},All2 R as1 bs->All2 R (as1.take n) (bs.take n)
 |0,_,_,_=>trivial
 |_+1,[],[],h=>h
 |n+1,_::_,_::_,h=>⟨h.1,All2.take n h.2⟩
 |_+1,[],_::_,h=>h.elim
 |_+1,_::_,[],h=>h.elim
theorem All2.get? {α β:Type} {R:α->β->Prop}:∀{as1:List α} {bs:List β} {i:Nat} {a:α},All2 R as1 bs->as1[i]?=some a->∃b,bs[i]?=some b /\ R a b
 | _::_,b::_,0,_,h,he=>by
   simp only[List.getElem?_cons_zero,injEq]at he;subst he;exact⟨b,rfl,h.1⟩
 | _::as1,_::bs,i+1,a,h,he=>by
   simp only[List.getElem?_cons_succ]at he ⊢;exact All2.get? h.2 he
 |[],[],_,_,_,he=>by simp at he
 |[],_::_,_,_,h,_=>h.elim
 |_::_,[],_,_,h,_=>h.elim
theorem All2.get?' {α β:Type} {R:α->β->Prop} {as1:List α} {bs:List β} {i:Nat} {b:β} (h:All2 R as1 bs) (d:bs[i]?=some b):∃a,as1[i]?=some a /\ R a b:=by
 have f:=h.length;have e:i<as1.length:=by rw[f];exact(List.getElem?_eq_some_iff.1 d).1
 obtain⟨b',c,g⟩:=h.get? (List.getElem?_eq_getElem e);rw[d]at c;cases c;exact⟨_,List.getElem?_eq_getElem e,g⟩
theorem All2.of_get {α β:Type} {R:α->β->Prop}:∀{as1:List α} {bs:List β},as1.length=bs.length->(∀(i:Nat) a b,as1[i]?=some a->bs[i]?=some b->R a b)->All2 R as1 bs
 |[],[],_,_=>trivial
 |a::as1,b::bs,hl,h=>⟨h 0 a b rfl rfl,All2.of_get (by simpa using hl) fun i x y c d=>h (i+1) x y (by simpa using c) (by simpa using d)⟩
 |[],_::_,hl,_=>by simp at hl
 |_::_,[],hl,_=>by simp at hl
structure Hd where
 v:Value
 b:Option Nat
abbrev Bt:=Nat->Option Hd
abbrev Ks:=Nat->Option (Bool×Array Value)
def a1y (k:FloatKind) (b:Nat):Bool:=(k.decode b).isNaN
def FEq (k:FloatKind) (a b:Nat):Prop:=a=b∨(a1y k a=true /\ a1y k b=true)
theorem FEq.refl (k:FloatKind) (a:Nat):FEq k a a := .inl rfl
def sub (arr:List Value) (off n:Nat):List Value:=(arr.drop off).take n
def DR (K:Ks):(t:Ty)->Den t->List Value->Prop
 |.bool,b,vs=>vs=[.bool b]
 |.int k,n,vs=>vs=[.int k n]
 |.flt k,b,vs=>∃b',vs=[.float k b'] /\ FEq k b b'
 |.cpx k,p,vs=>∃a b,vs=[.complex k a b] /\ FEq k p.1 a /\ FEq k p.2 b
 |.str,s,vs=>vs=[.string s]
 |.slice t,l,vs=>∃a n c,vs=[.slice a n c] /\ n=l.length /\ n<=c /\
  (n=0∨∃b o arr,a=some ⟨b,o,none⟩ /\ K b=some (t.isJ,arr) /\ ∀i (h:i<l.length),DR K t l[i] (sub arr.toList (o+i*t.size) t.size))
 |.nil,_,vs=>vs=[]
 |.cons a b,p,vs=>∃d e,vs=d++e /\ DR K a p.1 d /\ DR K b p.2 e
 |.jnk,_,vs=>∃n,vs=[.float .f32 n]
def KLe (K K':Ks):Prop:=∀b arr,K b=some arr->K' b=some arr
theorem KLe.refl (K:Ks):KLe K K:=fun _ _ h=>h
theorem KLe.trans {K K' a:Ks} (h:KLe K K') (h':KLe K' a):KLe K a:=fun b arr e=>h' b arr (h b arr e)
theorem DR.mono {K K':Ks} (h:KLe K K'):∀(t:Ty) {x:Den t} {vs:List Value},DR K t x vs->DR K' t x vs:=by
 intro t
 induction t with
 | slice t q =>
   rintro x vs ⟨a,n,c,e,m,k,p⟩;refine⟨a,n,c,e,m,k,p.imp id ?_⟩;rintro⟨b,o,arr,ha,hb,hi⟩;exact⟨b,o,arr,ha,h _ _ hb,fun i l=>q (hi i l)⟩
 | cons a b d f =>
   rintro x vs ⟨r,s,e,g,j⟩;exact⟨r,s,e,d g,f j⟩
 |_=>exact fun h=>h
theorem DR.flat {K K':Ks}:∀(t:Ty) {x:Den t} {vs:List Value},c1Y t=true->DR K t x vs->DR K' t x vs:=by
 intro t
 induction t with
 |slice t f=>intro x vs h;simp[c1Y]at h
 | cons a b c d =>
   intro x vs h;simp only[c1Y,and_eq_true]at h;rintro⟨v1,v2,e,h1,h2⟩;exact⟨v1,v2,e,c h.1 h1,d h.2 h2⟩
 |_=>exact fun _ h=>h
theorem DR.length {K:Ks}:∀(t:Ty) {x:Den t} {vs:List Value},DR K t x vs->vs.length=t.size:=by
 intro t
 induction t with
 | cons a b c d =>
   rintro x vs ⟨h,i,rfl,e,f⟩;simp[Ty.size,c e,d f]
 |nil=>rintro x vs rfl;rfl
 |bool=>rintro x vs rfl;rfl
 |int k=>rintro x vs rfl;rfl
 |flt k=>rintro x vs ⟨_,rfl,_⟩;rfl
 |cpx k=>rintro x vs ⟨_,_,rfl,_⟩;rfl
 |str=>rintro x vs rfl;rfl
 |slice t g=>rintro x vs ⟨_,_,_,rfl,_⟩;rfl
 |jnk=>rintro x vs ⟨_,rfl⟩;rfl
theorem DR.oneCell {K:Ks}:∀(t:Ty) {x:Den t} {vs:List Value},DR K t x vs->∀v∈vs,v.oneCell'=true:=by
 intro t
 induction t with
 | cons a b d e =>
   rintro x vs ⟨i,j,rfl,f,g⟩ v c;rcases List.mem_append.1 c with c|c
   ·exact d f v c
   ·exact e g v c
 |nil=>rintro x vs rfl v c;simp at c
 |bool=>rintro x vs rfl v c;simp at c;subst c;rfl
 |int k=>rintro x vs rfl v c;simp at c;subst c;rfl
 |flt k=>rintro x vs ⟨_,rfl,_⟩ v c;simp at c;subst c;rfl
 |cpx k=>rintro x vs ⟨_,_,rfl,_⟩ v c;simp at c;subst c;rfl
 |str=>rintro x vs rfl v c;simp at c;subst c;rfl
 |slice t h=>rintro x vs ⟨_,_,_,rfl,_⟩ v c;simp at c;subst c;rfl
 |jnk=>rintro x vs ⟨_,rfl⟩ v c;simp at c;subst c;rfl
def PR (β:Bt) (k off:Nat) (v:Value):Prop:=∃h b,β k=some h /\ h.v = .pointer (some ⟨b,0,none⟩) /\ v = .pointer (some ⟨b,off,none⟩)
def CR (β:Bt) (K:Ks):C->Value->Prop
 |.pois,_=>True
 |.bool b,v=>v = .bool b
 |.int k n,v=>v = .int k n
 |.flt k b,v=>∃b',v = .float k b' /\ FEq k b b'
 |.cpx k a b,v=>∃d b',v = .complex k d b' /\ FEq k a d /\ FEq k b b'
 |.str s,v=>v = .string s
 |.nil _,v=>∃a,v = .slice a 0 0
 |.sl t l,v=>DR K (.slice t) l [v]
 |.ref _ k,v=>∃h a n c,β k=some h /\ h.v = .slice a n c /\ v = .slice a n c
 |.ptr k off,v=>PR β k off v
 |.eptr k t i off,v=>∃h b n c,β k=some h /\ h.v = .slice (some ⟨b,0,none⟩) n c /\ i<n /\ v = .pointer (some ⟨b,i*t.size+off,none⟩)
 |.rptr t l i off,v=>i<l.length /\ ∃b o arr,K b=some (t.isJ,arr) /\ (∀i (h:i<l.length),DR K t l[i] (sub arr.toList (o+i*t.size) t.size)) /\ v = .pointer (some ⟨b,o+i*t.size+off,none⟩)
 |.fn f caps,v=>∃cs:List Value,v = .func (.func f) #[] cs.toArray /\ All2 (fun k u=>PR β k 0 u) caps cs
 |.aptr k off m j,v=>j<m /\ PR β k (off+j) v
 |.aeptr k t i off m j,v=>j<m /\ ∃h b n c,β k=some h /\ h.v = .slice (some ⟨b,0,none⟩) n c /\ i<n /\ v = .pointer (some ⟨b,i*t.size+(off+j),none⟩)
 |.arptr t l i off m j,v=>j<m /\ i<l.length /\ ∃b o arr,K b=some (t.isJ,arr) /\ (∀i (h:i<l.length),DR K t l[i] (sub arr.toList (o+i*t.size) t.size)) /\ v = .pointer (some ⟨b,o+i*t.size+(off+j),none⟩)
 |.junk,v=>∃n,v = .float .f32 n
 |.asl t k off m,v=>∃b c,PR β k 0 (.pointer (some ⟨b,0,none⟩)) /\ m<=c /\ v = .slice (some ⟨b,off,none⟩) m c
def BLe (β β':Bt):Prop:=∀k h,β k=some h->β' k=some h
theorem BLe.refl (β:Bt):BLe β β:=fun _ _ h=>h
theorem BLe.trans {β β' a:Bt} (h:BLe β β') (h':BLe β' a):BLe β a:=fun k x e=>h' k x (h k x e)
theorem PR.mono {β β':Bt} (e:BLe β β') {k off:Nat} {v:Value} (h:PR β k off v):PR β' k off v:=by
 obtain⟨h,b,a,c,d⟩:=h;exact⟨h,b,e _ _ a,c,d⟩
theorem CR.mono {β β':Bt} {K K':Ks} (g:BLe β β') (q:KLe K K') {c:C} {v:Value} (h:CR β K c v):CR β' K' c v:=by
 cases c with
 |sl t l=>exact DR.mono q _ h
 |ref t k=>obtain⟨x,a,n,c,d,e⟩:=h;exact⟨x,a,n,c,g _ _ d,e⟩
 |ptr k o=>exact PR.mono g h
 |eptr k t i o=>obtain⟨x,b,n,c,d,e⟩:=h;exact⟨x,b,n,c,g _ _ d,e⟩
 | rptr t l i o =>
   obtain⟨s,b,o',arr,d,e,r⟩:=h;exact⟨s,b,o',arr,q _ _ d,fun j p=>DR.mono q _ (e j p),r⟩
 |fn f u=>obtain⟨cs,d,e⟩:=h;exact⟨cs,d,e.mono fun _ _=>PR.mono g⟩
 |aptr k o m j=>exact⟨h.1,PR.mono g h.2⟩
 |aeptr k t i o m j=>obtain⟨w,x,b,n,c,d,e⟩:=h;exact⟨w,x,b,n,c,g _ _ d,e⟩
 | arptr t l i o m j =>
   obtain⟨p,s,b,o',arr,d,e,r⟩:=h;exact⟨p,s,b,o',arr,q _ _ d,fun j p=>DR.mono q _ (e j p),r⟩
 |asl t k o m=>obtain⟨b,c,d,e⟩:=h;exact⟨b,c,PR.mono g d,e⟩
 |_=>exact h
theorem CR.oneCell {β:Bt} {K:Ks} {c:C} {v:Value} (e:c1Z c=true) (h:CR β K c v):v.oneCell'=true:=by
 cases c with
 |pois=>simp[c1Z]at e
 |bool b=>rw[show v=_ from h];rfl
 |int k n=>rw[show v=_ from h];rfl
 |flt k b=>obtain⟨_,rfl,_⟩:=h;rfl
 |cpx k a b=>obtain⟨_,_,rfl,_⟩:=h;rfl
 |str s=>rw[show v=_ from h];rfl
 |nil t=>obtain⟨_,rfl⟩:=h;rfl
 |sl t l=>exact DR.oneCell _ h v (by simp)
 |ref t k=>obtain⟨_,_,_,_,_,_,rfl⟩:=h;rfl
 |ptr k o=>obtain⟨_,_,_,_,rfl⟩:=h;rfl
 |eptr k t i o=>obtain⟨_,_,_,_,_,_,_,rfl⟩:=h;rfl
 |rptr t l i o=>obtain⟨_,_,_,_,_,_,rfl⟩:=h;rfl
 |fn f d=>obtain⟨_,rfl,_⟩:=h;rfl
 |aptr k o m j=>obtain⟨_,_,_,_,_,rfl⟩:=h;rfl
 |aeptr k t i o m j=>obtain⟨_,_,_,_,_,_,_,_,rfl⟩:=h;rfl
 |asl t k o m=>obtain⟨_,_,_,_,rfl⟩:=h;rfl
 |arptr t l i o m j=>obtain⟨_,_,_,_,_,_,_,rfl⟩:=h;rfl
 |junk=>obtain⟨_,rfl⟩:=h;rfl
def WR (β:Bt) (K:Ks):W->Value->Prop
 |.one c,v=>CR β K c v
 |.agg cs,v=>∃arr:Array Value,v = .agg arr /\ All2 (CR β K) cs arr.toList
def VR (β:Bt) (K:Ks):V->Value->Prop
 |.val w,v=>WR β K w v
 |.tup ws,v=>∃arr:Array Value,v = .tuple arr /\ All2 (WR β K) ws arr.toList
theorem WR.mono {β β':Bt} {K K':Ks} (a:BLe β β') (b:KLe K K') {w:W} {v:Value} (h:WR β K w v):WR β' K' w v:=by
 cases w with
 |one c=>exact CR.mono a b h
 |agg cs=>obtain⟨arr,e,h⟩:=h;exact⟨arr,e,h.mono fun _ _=>CR.mono a b⟩
theorem VR.mono {β β':Bt} {K K':Ks} (a:BLe β β') (b:KLe K K') {w:V} {v:Value} (h:VR β K w v):VR β' K' w v:=by
 cases w with
 |val w=>exact WR.mono a b h
 |tup ws=>obtain⟨arr,e,h⟩:=h;exact⟨arr,e,h.mono fun _ _=>WR.mono a b⟩
theorem WR.cells {β:Bt} {K:Ks} {w:W} {v:Value} (b:w.cells.all c1Z=true) (h:WR β K w v):All2 (CR β K) w.cells v.cells.toList:=by
 cases w with
 | one c =>
   have a:c1Z c=true:=by simpa[W.cells]using b
   have e:=CR.oneCell a h;have d:v.cells=#[v]:=by cases v<;>simp_all[Value.cells,Value.oneCell']
   rw[d];exact⟨h,trivial⟩
 |agg cs=>obtain⟨arr,rfl,h⟩:=h;exact h
theorem All2.oneCell {β:Bt} {K:Ks}:∀{cs:List C} {vs:List Value},cs.all c1Z=true->All2 (CR β K) cs vs->∀v∈vs,v.oneCell'=true
 |[],[],_,_=>by simp
 | c::cs,v::vs,hs,h=>by
   simp only[List.all_cons,and_eq_true]at hs;intro x a;rcases List.mem_cons.1 a with rfl|a
   ·exact CR.oneCell hs.1 h.1
   ·exact All2.oneCell hs.2 h.2 x a
 |[],_::_,_,h=>h.elim
 |_::_,[],_,h=>h.elim
theorem b8m:∀(t:Ty) (x:Den t),(enc t x).length=t.size:=by
 intro t
 induction t with
 |cons a b c d=>intro x;simp[enc,Ty.size,c,d]
 |_=>intro x;rfl
theorem DR.enc {β:Bt} {K:Ks}:∀(t:Ty) {x:Den t} {vs:List Value},DR K t x vs->All2 (CR β K) (AM.enc t x) vs:=by
 intro t
 induction t with
 | cons a b d e =>
   rintro x vs ⟨j,l,rfl,f,g⟩;exact(d f).append (e g)
 |nil=>rintro x vs rfl;trivial
 |bool=>rintro x vs rfl;exact⟨rfl,trivial⟩
 |int k=>rintro x vs rfl;exact⟨rfl,trivial⟩
 |flt k=>rintro x vs ⟨b,rfl,h⟩;exact⟨⟨b,rfl,h⟩,trivial⟩
 |cpx k=>rintro x vs ⟨a,b,rfl,h,h'⟩;exact⟨⟨a,b,rfl,h,h'⟩,trivial⟩
 |str=>rintro x vs rfl;exact⟨rfl,trivial⟩
 | slice t i =>
   rintro x vs h;obtain⟨a,n,c,rfl,h⟩:=h;exact⟨⟨a,n,c,rfl,h⟩,trivial⟩
 |jnk=>rintro x vs ⟨n,rfl⟩;exact⟨⟨n,rfl⟩,trivial⟩
theorem b2Z {β : Bt} {K:Ks}:∀(t:Ty) {cs r:List C} {x:Den t} {vs:List Value},dec t cs=some (x,r)->All2 (CR β K) cs vs ->
 ∃g m,vs=g++m /\ DR K t x g /\ All2 (CR β K) r m:=by
 intro t
 induction t with
 | cons a b i j =>
   intro cs r x vs hd h;simp only[dec]at hd;split at hd
   ·rename_i y D f;split at hd
    ·rename_i z u d;simp only[injEq,Prod.mk.injEq]at hd;obtain⟨rfl,rfl⟩:=hd;obtain⟨g,m,rfl,p,h⟩:=i f h;obtain⟨n,A,rfl,q,h⟩:=j d h;exact⟨g++n,A,by simp,⟨g,n,rfl,p,q⟩,h⟩
    ·cases hd
   ·cases hd
 | nil =>
   intro cs r x vs hd h;simp only[dec,injEq,Prod.mk.injEq]at hd;obtain⟨-,rfl⟩:=hd;exact⟨[],vs,rfl,rfl,h⟩
 | bool =>
   intro cs r x vs hd h;cases cs with
   |nil=>simp[dec]at hd
   | cons c cs => cases c<;>simp[dec]at hd
                  cases vs with
                  |nil=>exact h.elim
                  | cons v vs =>
                    obtain⟨rfl,rfl⟩:=hd;obtain⟨f,d⟩:=h;exact⟨[v],vs,rfl,by rw[show v=_ from f];rfl,d⟩
 | int k =>
   intro cs r x vs hd h;cases cs with
   |nil=>simp[dec]at hd
   | cons c cs => cases c<;>simp[dec]at hd
                  cases vs with
                  |nil=>exact h.elim
                  | cons v vs =>
                    obtain⟨rfl,rfl,rfl⟩:=hd;obtain⟨f,d⟩:=h;exact⟨[v],vs,rfl,by rw[show v=_ from f];rfl,d⟩
 | flt k =>
   intro cs r x vs hd h;cases cs with
   |nil=>simp[dec]at hd
   | cons c cs => cases c<;>simp[dec]at hd
                  cases vs with
                  |nil=>exact h.elim
                  | cons v vs =>
                    obtain⟨rfl,rfl,rfl⟩:=hd;obtain⟨⟨b',rfl,f⟩,d⟩:=h;exact⟨[_],vs,rfl,⟨b',rfl,f⟩,d⟩
 | cpx k =>
   intro cs r x vs hd h;cases cs with
   |nil=>simp[dec]at hd
   | cons c cs => cases c<;>simp[dec]at hd
                  cases vs with
                  |nil=>exact h.elim
                  | cons v vs =>
                    obtain⟨rfl,rfl,rfl⟩:=hd;obtain⟨⟨o,b',rfl,f,s⟩,d⟩:=h;exact⟨[_],vs,rfl,⟨o,b',rfl,f,s⟩,d⟩
 | str =>
   intro cs r x vs hd h;cases cs with
   |nil=>simp[dec]at hd
   | cons c cs => cases c<;>simp[dec]at hd
                  cases vs with
                  |nil=>exact h.elim
                  | cons v vs =>
                    obtain⟨rfl,rfl⟩:=hd;obtain⟨f,d⟩:=h;exact⟨[v],vs,rfl,by rw[show v=_ from f];rfl,d⟩
 | slice t B =>
   intro cs r x vs hd h;cases cs with
   |nil=>simp[dec]at hd
   | cons c cs =>
     cases c with
     | sl w l =>
       simp only[dec]at hd;split at hd
       ·rename_i e _;subst e;simp only[injEq,Prod.mk.injEq]at hd;obtain⟨rfl,rfl⟩:=hd;cases vs with
        |nil=>exact h.elim
        |cons v vs=>exact⟨[v],vs,rfl,h.1,h.2⟩
       ·cases hd
     | nil w =>
       simp only[dec,injEq,Prod.mk.injEq]at hd;obtain⟨rfl,rfl⟩:=hd;cases vs with
       |nil=>exact h.elim
       | cons v vs =>
         obtain⟨⟨a,rfl⟩,d⟩:=h;exact⟨[_],vs,rfl,⟨a,0,0,rfl,rfl,le_refl _,.inl rfl⟩,d⟩
     |_=>simp[dec]at hd
 | jnk =>
   intro cs r x vs hd h;cases cs with
   |nil=>simp[dec]at hd
   |cons c cs=>cases c<;>simp[dec]at hd
def BR (β:Bt) (K:Ks):Blk->Hd->World->Prop
 |.box cs,h,w=>∃b arr T,h=⟨.pointer (some ⟨b,0,none⟩),some b⟩ /\ w.heap[b]?=some (.cells arr T (0,0)) /\ All2 (CR β K) cs arr.toList
 |.arr t l,h,w=>(l=[] /\ ∃a,h=⟨.slice a 0 0,none⟩) ∨
  ∃ b c cur T,h=⟨.slice (some ⟨b,0,none⟩) l.length c,some b⟩ /\ w.heap[b]?=some (.cells cur T (0,0)) /\ l.length<=c /\ c<=maxLen /\ cur.size=c*t.size /\
    ∀i (h:i<l.length),DR K t l[i] (sub cur.toList (i*t.size) t.size)
def VJ (v u:Value):Prop:=v=u∨∃m n,v = .float .f32 m /\ u = .float .f32 n
def e8d:Int->List (Nat×Array Value):=fun m=>[(1,#[.int .i64 m]),(2,((List.range 20).map fun i=>Value.int .u64 ((10^i:Nat):Int)).toArray)]
def GK (K:Ks):Prop:=∃m:Int,∀x∈e8d m,K x.1=some (false,x.2)
theorem GK.mono {K K':Ks} (h:KLe K K') (a:GK K):GK K':=by
 obtain⟨m,b⟩:=a;exact⟨m,fun x c=>h _ _ (b x c)⟩
structure KOK (K:Ks) (w:World):Prop where
 ato:∀b x,K b=some x->∃cur T fz,w.heap[b]?=some (.cells cur T fz) /\ (x.1=false->cur=x.2) /\ (x.1=true->fz=(0,0) /\ All2 VJ x.2.toList cur.toList)
 gk:GK K
theorem All2.refl {α:Type} {R:α->α->Prop} (a:∀x,R x x):∀(l:List α),All2 R l l
 |[]=>trivial
 |x::r=>⟨a x,All2.refl a r⟩
theorem KOK.self {fl:Bool} {cur:Array Value} {fz:Nat×Nat} (h:fl=true->fz=(0,0)):(fl=false->cur=cur) /\ (fl=true->fz=(0,0) /\ All2 VJ cur.toList cur.toList):=
 ⟨fun _=>rfl,fun e=>⟨h e,All2.refl (fun _ => .inl rfl) _⟩⟩
theorem KOK.see {K:Ks} {w:World} (h:KOK K w) {t:Ty} {b:Nat} {arr:Array Value} (e:K b=some (t.isJ,arr)):∃cur T fz,w.heap[b]?=some (.cells cur T fz) /\ cur.size=arr.size /\
 ∀o x,DR K t x (sub arr.toList o t.size)->DR K t x (sub cur.toList o t.size):=by
 obtain⟨cur,T,fz,hh,f,g⟩:=h.ato b _ e;refine⟨cur,T,fz,hh,?_⟩;cases t with
 | jnk =>
   have a:=(g rfl).2;refine⟨by simpa using a.length.symm,fun o x hd=>?_⟩;obtain⟨n,p⟩:=hd;have i:arr.toList[o]?=some (.float .f32 n):=by
    have:=congrArg (·[0]?) p;simpa[sub,Ty.size]using this
   obtain⟨u,c,j⟩:=a.get? i;have k:∃m,u = .float .f32 m:=by
    rcases j with rfl|⟨_,m,_,rfl⟩
    ·exact⟨n,rfl⟩
    ·exact⟨m,rfl⟩
   obtain⟨m,rfl⟩:=k;refine⟨m,?_⟩;have d:o<cur.toList.length:=(List.getElem?_eq_some_iff.1 c).1;have l:cur.toList[o] = .float .f32 m:=by rw[List.getElem?_eq_getElem d]at c;simpa using c
   unfold sub;rw[List.drop_eq_getElem_cons d,l];simp[Ty.size]
 | _ =>
   have a:=f rfl;subst a;exact⟨rfl,fun o x hd=>hd⟩
def Jk (K:Ks) (x:Nat):Prop:=∃arr,K x=some (true,arr)
structure MR (β:Bt) (K:Ks) (get:Get) (w:World):Prop where
 blk:∀k b,get k=some b->∃h,β k=some h /\ BR β K b h w
 sep:∀k k' b b' h h' x,get k=some b->get k'=some b'->β k=some h->β k'=some h'->h.b=some x->h'.b=some x->k=k'
 ro:∀k b h x,get k=some b->β k=some h->h.b=some x->K x=none
def Own (β:Bt) (get:Get) (x:Nat):Prop:=∃k b h,get k=some b /\ β k=some h /\ h.b=some x
def e1L (β:Bt) (K:Ks) (get:Get) (x:Nat):Prop:=Own β get x∨Jk K x
structure Fr (S:Nat->Prop) (w0 w:World):Prop where
 os:w.os=w0.os
 tape:w.tape=w0.tape
 output:w.output=w0.output
 size:w0.heap.size<=w.heap.size
 block:∀b,b<w0.heap.size->¬S b->w.heap[b]?=w0.heap[b]?
theorem Fr.refl (S:Nat->Prop) (w:World):Fr S w w:=⟨rfl,rfl,rfl,le_refl _,fun _ _ _=>rfl⟩
theorem Fr.trans {S f:Nat->Prop} {a b c:World} (h:Fr S a b) (h':Fr f b c) (i:∀x,x<a.heap.size->f x->S x):Fr S a c:=
 ⟨h'.os.trans h.os,h'.tape.trans h.tape,h'.output.trans h.output,Nat.le_trans h.size h'.size,fun k d g=>
  (h'.block k (Nat.lt_of_lt_of_le d h.size) fun e=>g (i k d e)).trans (h.block k d g)⟩
theorem BR.mono {β β':Bt} {K K':Ks} (m:BLe β β') (d:KLe K K') {b:Blk} {h:Hd} {w:World} (a:BR β K b h w):BR β' K' b h w:=by
 cases b with
 |box cs=>obtain⟨x,arr,T,e,hh,n⟩:=a;exact⟨x,arr,T,e,hh,n.mono fun _ _=>CR.mono m d⟩
 | arr t l =>
   rcases a with a|⟨x,c,cur,T,e,hh,f,g,j,k⟩
   ·exact .inl a
   ·exact .inr ⟨x,c,cur,T,e,hh,f,g,j,fun i o=>DR.mono d _ (k i o)⟩
theorem BR.world {β:Bt} {K:Ks} {b:Blk} {h:Hd} {w w':World} (a:BR β K b h w) (d:∀x,h.b=some x->w'.heap[x]?=w.heap[x]?):BR β K b h w':=by
 cases b with
 |box cs=>obtain⟨x,arr,T,rfl,hh,f⟩:=a;exact⟨x,arr,T,rfl,by rw[d x rfl];exact hh,f⟩
 | arr t l =>
   rcases a with a|⟨x,c,cur,T,rfl,hh,e⟩
   ·exact .inl a
   ·exact .inr ⟨x,c,cur,T,rfl,by rw[d x rfl];exact hh,e⟩
theorem BR.lt {β:Bt} {K:Ks} {b:Blk} {h:Hd} {w:World} (d:BR β K b h w) {x:Nat} (c:h.b=some x):x<w.heap.size:=by
 cases b with
 |box cs=>obtain⟨y,arr,T,rfl,hh,e⟩:=d;cases c;exact(Array.getElem?_eq_some_iff.1 hh).1
 | arr t l =>
   rcases d with⟨_,a,rfl⟩|⟨y,cap,cur,T,rfl,hh,h1⟩
   ·cases c
   ·cases c;exact(Array.getElem?_eq_some_iff.1 hh).1
theorem KOK.lt {K:Ks} {w:World} (h:KOK K w) {b:Nat} {arr:Bool×Array Value} (e:K b=some arr):b<w.heap.size:=by
 obtain⟨cur,T,fz,hh,_⟩:=h.ato b arr e;exact(Array.getElem?_eq_some_iff.1 hh).1
def d2p:TypeDesc->Bool
 |.struct _|.array _ _=>true
 |_=>false
def b8n (P:Program) (b:Array Field) (l:List (Nat×Nat×Bool)):Prop:=
 All2 (fun(f:Field) (x:Nat×Nat×Bool)=>f.offset=x.1 /\ ∃a fd,P.info? f.type=some a /\ a.size=x.2.1 /\ P.underlying f.type=some fd /\ d2p fd=x.2.2) b.toList l
def a1M (P:Program) (d:TypeDesc) (ti:TI):Prop:=match ti.sort with
 |.slice=>d = .slice ti.elem
 |.array n=>d = .array n ti.elem
 |.string=>d = .string
 |.struct=>∃a,d = .struct a /\ b8n P a ti.fields
 |.bool=>d = .bool
 |.int k=>d = .int k
 |.float k=>d = .float k
 |.complex k=>d = .complex k
 |.other=>True
def ZR (c:C) (v:Value):Prop:=∀β K,CR β K c v
structure e6L (P:Program) (t:Nat) (ti:TI):Prop where
 ex:∃i d z,P.info? t=some i /\ P.underlying t=some d /\ i.zero=some z /\ i.size=ti.size /\ i.bytes=ti.bytes /\ d2p d=ti.agg /\
  All2 ZR ti.zero z.cells.toList /\ a1M P d ti /\ (ti.ty.size=ti.size->∀K,DR K ti.ty (zero ti.ty) z.cells.toList) /\ z.cells.size=i.size
structure e8e (P:Program) (t:Nat):Prop where
 guard:P.eqGuardType P.depth t=false
 eq:∀(cs ds:List C) (xs ys:Array Value) (b:Bool) (β:Bt) (K:Ks) (w:World),(∀i,P.info? t=some i->cs.length=i.size /\ ∃z zs,i.zero=some z /\ All2 ZR zs z.cells.toList /\ a8w zs cs=true)->a2S cs ds=some b->All2 (CR β K) cs xs.toList->All2 (CR β K) ds ys.toList ->
  (Op.equalIn 10000 t (.agg xs) (.agg ys)).run P w = .ok b w
def a7j (β:Bt) (K:Ks) (ws:List W) (v:Value):Prop:=VR β K (d2m ws) v
def a2b (ins:List Blk):Get:=fun k=>ins[k]?
structure Ret (ins:List Blk) (outs:List (Option Blk)) (rs:List W) (β0:Bt) (K0:Ks) (w0:World) (v:Value) (w':World) (β:Bt) (K:Ks):Prop where
 kle:KLe K0 K
 kok:KOK K w'
 knew:∀b arr,K b=some arr->K0 b=some arr∨Own β0 (a2b ins) b∨w0.heap.size<=b
 mr:MR β K (a2o outs) w'
 fresh:∀k,outs.length<=k->β k=none
 out:a7j β K rs v
 fr:Fr (e1L β0 K0 (a2b ins)) w0 w'
 own:∀x,Own β (a2o outs) x->Own β0 (a2b ins) x∨w0.heap.size<=x
 ble:BLe β0 β
 le:ins.length<=outs.length
def c4j (P:Program) (f:Nat) (sm:a6m):Prop:=
 ∀(args:List W) (ins:List Blk) (rs:List W) (outs:List (Option Blk)),sm.run args ins=some (true,rs,outs) ->
 ∀(β0:Bt) (K0:Ks) (w0:World) (vs:Array Value),KOK K0 w0->MR β0 K0 (a2b ins) w0->(∀k,ins.length<=k->β0 k=none)->All2 (WR β0 K0) args vs.toList ->
 Calls P f vs w0 fun e w'=>∃v β K,e = .returned v /\ Ret ins outs rs β0 K0 w0 v w' β K
structure e1M (P:Program) (f:Nat):Prop where
 body:∃fn,P.funcs[f]?=some fn /\ fn.body.isSome=true /\ (fn.name == "runtime.NumGoroutine")=false
structure a1m (P:Program) (Γ:Env):Prop where
 tab:∀t ti,Γ.tab t=some ti->e6L P t ti
 sem:∀f sm,Γ.sem f=some sm->c4j P f sm /\ e1M P f
 eq:∀t,Γ.eqT t=true->e8e P t
 mixed:P.follows .mixedOrders=true
def a4Z (upd:List (Nat×Option Blk)) (get:Get):Get:=fun k=>match a1D upd k with
 |some b=>b
 |none=>get k
structure a8z (β:Bt) (K:Ks) (get:Get) (n:Nat) (w:World) (out:Out) (v:Value) (w':World) (β':Bt) (K':Ks):Prop where
 ble:BLe β β'
 kle:KLe K K'
 kok:KOK K' w'
 vr:VR β' K' out.v v
 mr:MR β' K' (a4Z out.upd get) w'
 fresh:∀k,out.n<=k->β' k=none
 le:n<=out.n
 fr:Fr (e1L β K get) w w'
 own:∀x,Own β' (a4Z out.upd get) x->Own β get x∨w.heap.size<=x
 knew:∀b arr,K' b=some arr->K b=some arr∨Own β get b∨w.heap.size<=b
 dom:∀k,k<n->β' k=β k
def a0U (β:Bt) (K:Ks) (get:Get) (n:Nat) (w:World) (out:Out) (v:Value) (w':World):Prop:=∃β' K',a8z β K get n w out v w' β' K'
structure a0t (w w':World):Prop where
 heap:w'.heap=w.heap
 os:w'.os=w.os
 tape:w'.tape=w.tape
 output:w'.output=w.output
theorem a0t.refl (w:World):a0t w w:=⟨rfl,rfl,rfl,rfl⟩
theorem KOK.still {K:Ks} {w w':World} (h:KOK K w) (s:a0t w w'):KOK K w':=⟨fun b arr e=>by rw[s.heap];exact h.ato b arr e,h.gk⟩
theorem MR.world {β:Bt} {K:Ks} {get:Get} {w w':World} (h:MR β K get w) (d:∀x,Own β get x->w'.heap[x]?=w.heap[x]?):MR β K get w':=
 ⟨fun k b e=>by
  obtain⟨x,a,c⟩:=h.blk k b e;exact⟨x,a,c.world fun y f=>d y ⟨k,b,x,e,a,f⟩⟩,h.sep,h.ro⟩
theorem MR.still {β:Bt} {K:Ks} {get:Get} {w w':World} (h:MR β K get w) (s:a0t w w'):MR β K get w':=h.world fun _ _=>by rw[s.heap]
theorem Fr.still {S:Nat->Prop} {w w':World} (s:a0t w w'):Fr S w w':=⟨s.os,s.tape,s.output,by rw[s.heap];exact le_refl _,fun _ _ _=>by rw[s.heap]⟩
theorem a8z.pure {β:Bt} {K:Ks} {get:Get} {n:Nat} {w w':World} {v:V} {u:Value} {ok:Bool} (b:KOK K w) (c:MR β K get w) (a:∀k,n<=k->β k=none) (s:a0t w w') (d:VR β K v u) :
 a0U β K get n w ⟨ok,v,[],n⟩ u w':=
 ⟨β,K,BLe.refl _,KLe.refl _,b.still s,d,c.still s,a,le_refl _,Fr.still s,fun x h => .inl h,fun _ _ e => .inl e,fun _ _=>rfl⟩
def a9X (β:Bt) (n:Nat) (h:Hd):Bt:=fun k=>if k=n then some h else β k
theorem BLe.add {β:Bt} {n:Nat} (h:Hd) (b:β n=none):BLe β (a9X β n h):=by
 intro k x e;unfold a9X;split
 ·rename_i a;subst a;rw[b]at e;cases e
 ·exact e
theorem a0D (β:Bt) (n:Nat) (h:Hd):a9X β n h n=some h:=by simp[a9X]
theorem a1f (β:Bt) {n k:Nat} (h:Hd) (e:k≠n):a9X β n h k=β k:=by simp[a9X,e]
theorem MR.lt {β:Bt} {K:Ks} {get:Get} {w:World} (h:MR β K get w) {x:Nat} (o:Own β get x):x<w.heap.size:=by
 obtain⟨k,b,y,c,d,e⟩:=o;obtain⟨z,a,f⟩:=h.blk k b c;rw[d]at a;cases a;exact f.lt e
theorem MR.nj {β:Bt} {K:Ks} {get:Get} {w:World} (h:MR β K get w) {k:Nat} {b:Blk} {y:Hd} {x:Nat} (e:get k=some b) (f:β k=some y) (g:y.b=some x):¬Jk K x:=by
 rintro⟨_,h1⟩;rw[h.ro k b y x e f g]at h1;cases h1
theorem MR.step {β β':Bt} {K K':Ks} {get get':Get} {w w':World} (h:MR β K get w) (j:BLe β β') (p:KLe K K')
 (cases:∀k b,get' k=some b ->
  (get k=some b /\ ∀x y,β k=some y->y.b=some x->w'.heap[x]?=w.heap[x]? /\ K' x=none) ∨
  (∃y,β' k=some y /\ BR β' K' b y w' /\ ∀x,y.b=some x->K' x=none /\ ∀k' b' y',get' k'=some b'->β' k'=some y'->y'.b=some x->k'=k)):MR β' K' get' w':=by
 refine⟨?_,?_,?_⟩
 ·intro k b e;rcases cases k b e with⟨e1,e2⟩|⟨y,e1,e2,_⟩
  ·obtain⟨y,c,a⟩:=h.blk k b e1;exact⟨y,j _ _ c,(a.world fun x q=>(e2 x y c q).1).mono j p⟩
  ·exact⟨y,e1,e2⟩
 ·intro k k' b b' y y' x e n f l g m;rcases cases k b e with⟨e1,e2⟩|⟨z,e1,_,c⟩
  ·rcases cases k' b' n with⟨e1',e2'⟩|⟨z',e1',_,e3'⟩
   ·obtain⟨u,a,_⟩:=h.blk k b e1;obtain⟨r,d,_⟩:=h.blk k' b' e1';have i:=j _ _ a;have o:=j _ _ d;rw[f]at i;rw[l]at o;cases i;cases o;exact h.sep k k' b b' _ _ x e1 e1' a d g m
   ·rw[l]at e1';cases e1';exact(e3' x m).2 k b y e f g
  ·rw[f]at e1;cases e1;exact((c x g).2 k' b' y' n l m).symm
 ·intro k b y x e f g;rcases cases k b e with⟨e1,e2⟩|⟨z,e1,_,c⟩
  ·obtain⟨u,a,_⟩:=h.blk k b e1;have i:=j _ _ a;rw[f]at i;cases i;exact(e2 x y a g).2
  ·rw[f]at e1;cases e1;exact(c x g).1
theorem a1A {a b:Nat} (h:a≠b):beq a b=false:=by
 cases e:beq a b with
 |false=>rfl
 |true=>exact absurd (Nat.eq_of_beq_eq_true e) h
theorem a0g {a b:Nat} (h:beq a b=true):a=b:=Nat.eq_of_beq_eq_true h
theorem b1B {k:Nat} {b:Option Blk} {get:Get} {j:Nat} {c:Blk} (h:a4Z [(k,b)] get j=some c):(j=k /\ b=some c)∨(j≠k /\ get j=some c):=by
 unfold a4Z at h;by_cases e:k=j
 ·subst e;simp[a1D]at h;exact .inl ⟨rfl,h⟩
 ·have:beq k j=false:=a1A e;simp[a1D,this]at h;exact .inr ⟨fun x=>e x.symm,h⟩
theorem a0E {k:Nat} {b:Option Blk} {r:List (Nat×Option Blk)} {get:Get} {j:Nat} {c:Blk} (h:a4Z ((k,b)::r) get j=some c):(j=k /\ b=some c)∨(j≠k /\ a4Z r get j=some c):=by
 unfold a4Z at h;by_cases e:k=j
 ·subst e;simp[a1D]at h;exact .inl ⟨rfl,h⟩
 ·have:beq k j=false:=a1A e;simp only[a1D,this]at h;exact .inr ⟨fun x=>e x.symm,h⟩
theorem a1s {ks:List Nat} {get:Get} {j:Nat} {c:Blk} (h:a4Z (ks.map fun k=>(k,none)) get j=some c):j ∉ ks /\ get j=some c:=by
 induction ks with
 |nil=>exact⟨by simp,h⟩
 | cons k ks d =>
   rcases a0E (by simpa using h)with⟨_,e⟩|⟨e1,e2⟩
   ·cases e
   ·obtain⟨a,b⟩:=d e2;exact⟨by simp[e1,a],b⟩
theorem a1J (w:World) (o:Obj):(w.alloc o).heap[w.heap.size]?=some o:=by
 show(w.heap.push o)[w.heap.size]?=_;simp
theorem a4t (w:World) (o:Obj) {i:Nat} (h:i<w.heap.size):(w.alloc o).heap[i]?=w.heap[i]?:=by
 show(w.heap.push o)[i]?=_;rw[Array.getElem?_push,if_neg (by omega)]
theorem KOK.alloc {K:Ks} {w:World} (h:KOK K w) (o:Obj):KOK K (w.alloc o):=⟨fun b arr e=>by
 obtain⟨cur,T,fz,a,c⟩:=h.ato b arr e;exact⟨cur,T,fz,by rw[a4t w o (h.lt e)];exact a,c⟩,h.gk⟩
theorem Fr.alloc (S:Nat->Prop) (w:World) (o:Obj):Fr S w (w.alloc o):=⟨rfl,rfl,rfl,by simp,fun b a _=>a4t w o a⟩
theorem a8z.alloc {β:Bt} {K K':Ks} {get:Get} {n:Nat} {w w1:World} {b:Blk} {ok:Bool} {arr:Array Value} {T:TypeId} {h:Hd} {v:V} {gone:List Nat}
 (F:KOK K w) (u:MR β K get w) (A:∀k,n<=k->β k=none) (s:a0t w w1) (m:KLe K K') (d:KOK K' w)
 (l:∀k c x y,get k=some c->k ∉ gone->β k=some y->y.b=some x->K' x=none)
 (hh:h.b=some w.heap.size)
 (E:BR (a9X β n h) K' b h (w1.alloc (.cells arr T))) (I:VR (a9X β n h) K' v h.v)
 (q:∀b arr,K' b=some arr->K b=some arr∨Own β get b∨w.heap.size<=b:=by exact fun _ _ e => .inl e) :
 a0U β K get n w ⟨ok,v,(n,some b)::gone.map (fun k=>(k,none)),n+1⟩ h.v (w1.alloc (.cells arr T)):=by
 have G:β n=none:=A n (le_refl _);have p:=BLe.add h G;have H:w1.heap.size=w.heap.size:=by rw[s.heap]
 have i:∀x,x<w.heap.size->(w1.alloc (.cells arr T)).heap[x]?=w.heap[x]?:=fun x r=>by
  rw[a4t w1 _ (by omega),s.heap]
 refine⟨a9X β n h,K',p,m,?_,I,?_,?_,by simp,⟨s.os,s.tape,s.output,by simp[s.heap],fun x r _=>i x r⟩,?_,q,fun k F=>a1f _ _ (by omega)⟩
 ·exact(d.still s).alloc _
 ·refine u.step p m ?_;intro k c e;rcases a0E e with⟨rfl,e1⟩|⟨e1,e2⟩
  ·cases e1;refine .inr ⟨h,a0D ..,E,fun x r=>?_⟩;rw[hh]at r;cases r;refine⟨?_,?_⟩
   ·cases hq:K' w.heap.size with
    |none=>rfl
    |some a=>exact absurd (d.lt hq) (by omega)
   ·intro k' b' y' B z D;rcases a0E B with⟨rfl,_⟩|⟨t,j⟩
    ·rfl
    ·obtain⟨_,C⟩:=a1s j;rw[a1f _ _ t]at z;have:=u.lt ⟨k',b',y',C,z,D⟩;omega
  ·obtain⟨t,j⟩:=a1s e2;refine .inl ⟨j,fun x y f g=>⟨i x (u.lt ⟨k,c,y,j,f,g⟩),l k c x y j t f g⟩⟩
 ·intro k o;rw[a1f _ _ (by simp at o;omega)];exact A k (by simp at o;omega)
 ·rintro x ⟨k,c,y,e,f,g⟩;rcases a0E e with⟨rfl,e1⟩|⟨e1,e2⟩
  ·rw[a0D]at f;cases f;rw[hh]at g;cases g;exact .inr (le_refl _)
  ·obtain⟨_,j⟩:=a1s e2;rw[a1f _ _ e1]at f;exact .inl ⟨k,c,y,j,f,g⟩
def a0m (P:Program) (o:Oper) (a:Act) (w:World) (c:Value->World->Prop):Prop:=
 ∀(b:Act->World->Prop) (Q:Exit->Act->World->Prop),(∀v w',c v w'->b (a.put o.dst v) w')->o.wp P a w b Q
theorem a0m.value {P:Program} {o:Oper} {a:Act} {w w':World} {v:Value} {b:Value->World->Prop} (h:(execOp a.eval o).run P w = .ok (.value v) w') (e:b v w'):a0m P o a w b:=by
 intro c Q d;simp only[Oper.wp,h,Oper.upon];exact d v w' e
theorem a0m.skip {P:Program} {o:Oper} {a:Act} {w w':World} {b:Value->World->Prop} (h:(execOp a.eval o).run P w = .ok .skip w') (e:b undef w'):a0m P o a w b:=by
 intro c Q d;simp only[Oper.wp,h,Oper.upon];exact d undef w' e
theorem a1t {P:Program} {o:Oper} {ρ:Operand->Value} {w w':World} {v:Value} {s:Sem Value} (a:execOp ρ o=(do let x <- s;pure (Next.value x))) (h:s.run P w = .ok v w') :
 (execOp ρ o).run P w = .ok (.value v) w':=by
 rw[a];simp[h]
theorem a2T (b off j:Nat):(⟨b,off,none⟩:Addr).add j=⟨b,off+j,none⟩:=by unfold Addr.add;split<;>simp_all
theorem b0o {P:Program} {t:TypeId} {d:TypeDesc} (h:P.underlying t=some d) (w:World):(isAgg t).run P w = .ok (d2p d) w:=by
 unfold isAgg;rw[Sem.run_bind,run_underlying h w];cases d<;>rfl
theorem a1g {P:Program} {t:TypeId} {i:TypeInfo} (h:P.info? t=some i) (w:World):(Go.sizeOf t).run P w = .ok i.size w:=by
 simp[sizeOf,typeInfo,h]
theorem a3X {l:List Value} {o n:Nat} (h:o+n<=l.length):(sub l o n).length=n:=by simp[sub];omega
theorem a8A {P:Program} {t:TypeId} {ti:TI} (x:e6L P t ti) {w:World} {b off:Nat} {arr:Array Value} {T:TypeId} {fz:Nat×Nat}
 (hh:w.heap[b]?=some (.cells arr T fz)) {β:Bt} {K:Ks} {cs:List C} {u:W} (f:All2 (CR β K) cs (sub arr.toList off ti.size)) (a:a3I ti.agg ti.size cs=some u) :
 ∃v,(loadVar t ⟨b,off,none⟩).run P w = .ok v w /\ WR β K u v:=by
 obtain⟨i,d,z,p,hd,y,s,o,n,_⟩:=x.ex;have k:=f.length;have e:∀(j:Nat) (v:Value),(sub arr.toList off ti.size)[j]?=some v->w.cell? ((⟨b,off,none⟩:Addr).add j)=some v:=by
  intro j v g;rw[a2T,cell_of_row w b _ arr T fz hh];unfold sub at g;rw[List.getElem?_take]at g;split at g
  ·rw[List.getElem?_drop]at g;simpa using g
  ·cases g
 unfold loadVar;rw[Sem.run_bind,b0o hd,Result.andThen_ok,n];cases hag:ti.agg with
 | true =>
   rw[hag]at a;simp only[a3I]at a;split at a
   ·rename_i h;cases a;have q:cs.length=ti.size:=by simpa using h
    have m:=run_loadCells_list (P:=P) w ⟨b,off,none⟩ (sub arr.toList off ti.size) e;rw[<- k,q]at m;refine⟨.agg (sub arr.toList off ti.size).toArray,?_,⟨_,rfl,by simpa using f⟩⟩;simp[a1g p,s,m]
   ·cases a
 | false =>
   rw[hag]at a;cases cs with
   |nil=>simp[a3I]at a;split at a<;>cases a
   | cons c r =>
     cases r with
     |cons c' A=>simp[a3I]at a;split at a<;>cases a
     | nil =>
       simp only[a3I]at a;split at a
       case h_2=>cases a
       simp only[injEq]at a;subst a;cases hsub:sub arr.toList off ti.size with
       |nil=>rw[hsub]at f;exact f.elim
       | cons v vs =>
         rw[hsub]at f;have l:=e 0 v (by rw[hsub];rfl);rw[a2T,Nat.add_zero]at l;refine⟨v,?_,f.1⟩;simp[l]
theorem All2.sub' {R:C->Value->Prop} {cs:List C} {vs:List Value} (h:All2 R cs vs) (off n:Nat):All2 R (a2D cs off n) (sub vs off n):=(h.drop off).take n
theorem c4k (l:List Value) (o n off k:Nat) (h:off+k<=n):sub (sub l o n) off k=sub l (o+off) k:=by
 unfold sub;rw[List.drop_take,List.take_take,List.drop_drop];congr 1;omega
theorem a3Y {agg:Bool} {size:Nat} {cs:List C} {u:W} (h:a3I agg size cs=some u):cs.length=size:=by
 cases agg with
 | true =>
   simp only[a3I]at h;split at h
   ·rename_i a;exact a0g a
   ·cases h
 | false =>
   simp only[a3I]at h;split at h
   ·rename_i a;have a:=a0g a;split at h
    ·simp[a]
    ·cases h
   ·cases h
theorem b3a {R:C->Value->Prop} {cs:List C} {l:List Value} {o m:Nat} (h:All2 R cs (sub l o m)) (d:cs.length=m) {off size:Nat} (c:(a2D cs off size).length=size) :
 All2 R (a2D cs off size) (sub l (o+off) size):=by
 have:=h.sub' off size;by_cases a:off+size<=m
 ·rwa [c4k _ _ _ _ _ a]at this
 ·simp only[a2D,List.length_take,List.length_drop]at c;have b:size=0:=by omega
  subst b;simp[a2D,sub,All2]
theorem a3Z (k:FloatKind) (b:Nat):a1y k b=true↔k.format.infRung<b%k.format.signWeight:=by
 unfold a1y FloatKind.decode Ieee.Format.read;have a:k.format.binade<=k.format.infRung:=by cases k<;>decide
 constructor
 ·intro h;dsimp only at h;split at h
  ·simp[Ieee.Datum.isNaN]at h
  ·split at h
   ·simp[Ieee.Datum.isNaN]at h
   ·split at h
    ·simp[Ieee.Datum.isNaN]at h
    ·omega
 ·intro h;dsimp only;rw[if_neg (by omega),if_neg (by omega),if_neg (by omega)];rfl
theorem a1K {k:FloatKind} {b:Nat} (h:a1y k b=true):∃s f,k.format.read b = .nan s f:=by
 unfold a1y FloatKind.decode at h;cases hr:k.format.read b with
 |nan s f=>exact⟨s,f,rfl⟩
 |number s m e=>rw[hr]at h;simp[Ieee.Datum.isNaN]at h
 |infinity s=>rw[hr]at h;simp[Ieee.Datum.isNaN]at h
theorem a5o (k:FloatKind):a1y k (qn k)=true:=by cases k<;>decide
theorem a8B (t:Nat):a1y .f32 (t%2*2^31+2139095040+1+t/2%(2^23-1))=true:=by
 rw[a3Z];have b:FloatKind.f32.format.infRung=2139095040:=by decide
 have c:FloatKind.f32.format.signWeight=2147483648:=by decide
 rw[b,c];have:=Nat.mod_lt (t/2) (show 0<2^23-1 by decide);have d:t%2<2:=Nat.mod_lt _ (by decide);generalize t/2%(2^23-1)=x at *;generalize t%2=a at *;have:a*2^31+2139095040+1+x=2139095041+x+2147483648*a:=by omega
 rw[this,Nat.add_mul_mod_self_left];omega
theorem a8C (t:Nat):a1y .f64 (t%2*2^63+9218868437227405312+1+t/2%(2^52-1))=true:=by
 rw[a3Z];have b:FloatKind.f64.format.infRung=9218868437227405312:=by decide
 have c:FloatKind.f64.format.signWeight=9223372036854775808:=by decide
 rw[b,c];have:=Nat.mod_lt (t/2) (show 0<2^52-1 by decide);have d:t%2<2:=Nat.mod_lt _ (by decide);generalize t/2%(2^52-1)=x at *;generalize t%2=a at *;have:a*2^63+9218868437227405312+1+x=9218868437227405313+x+9223372036854775808*a:=by omega
 rw[this,Nat.add_mul_mod_self_left];omega
theorem a4u (w:World):a0t w { w with drawn:=w.drawn+1 }:=⟨rfl,rfl,rfl,rfl⟩
theorem b6a (P:Program) (k:FloatKind) (a b:Nat) (w:World):∃r w',(choose (.nanBits k a b)).run P w = .ok r w' /\ a0t w w' /\ a1y k r=true:=by
 refine⟨_,_,by simp only[run_choose,Question.forced];rfl,a4u w,?_⟩;cases k
 ·exact a8B _
 ·exact a8C _
theorem a8D (P:Program) (k:FloatKind) (a:Nat) (w:World):∃r w',(choose (.nanConv k a)).run P w = .ok r w' /\ a0t w w' /\ a1y k r=true:=by
 refine⟨_,_,by simp only[run_choose,Question.forced];rfl,a4u w,?_⟩;cases k
 ·exact a8B _
 ·exact a8C _
theorem a6q (P:Program) (k:FloatKind) (m:Bool) (a b:Nat) (w:World):∃r w',(choose (.nanMinMax k m a b)).run P w = .ok r w' /\ a0t w w' /\ a1y k r=true:=by
 refine⟨_,_,by simp only[run_choose,Question.forced];rfl,a4u w,?_⟩;cases k
 ·exact a8B _
 ·exact a8C _
theorem FEq.nan_left {k:FloatKind} {a b:Nat} (h:FEq k a b) (c:a1y k a=true):a1y k b=true:=by
 rcases h with rfl|⟨_,h⟩
 ·exact c
 ·exact h
def fop (c:BinOp) (k:FloatKind) (a b:Nat):Option Nat:=match c with
 |.add=>k.format.add a b
 |.sub=>k.format.sub a b
 |.mul=>k.format.mul a b
 |_=>k.format.div a b
theorem c4l (c:BinOp) (k:FloatKind) (a b:Nat):a0a c k a b=(fop c k a b).getD (qn k):=by cases c<;>rfl
theorem a7J {c:BinOp} {k:FloatKind} {a b:Nat} (h:a1y k a=true):fop c k a b=none:=by
 obtain⟨s,f,d⟩:=a1K h;cases c<;>simp[fop,Ieee.Format.add,Ieee.Format.sub,Ieee.Format.mul,Ieee.Format.div,d,Ieee.Datum.sum,Ieee.Datum.product,Ieee.Datum.quotient]
theorem a6r {c:BinOp} {k:FloatKind} {a b:Nat} (h:a1y k b=true):fop c k a b=none:=by
 obtain⟨s,f,d⟩:=a1K h;cases c<;>simp only[fop,Ieee.Format.add,Ieee.Format.sub,Ieee.Format.mul,Ieee.Format.div,d,Ieee.Datum.opposite] <;>
  cases k.format.read a<;>rfl
theorem c4m {d:BinOp} {k:FloatKind} {a c b b':Nat} (i:FEq k a c) (j:FEq k b b'):fop d k c b'=fop d k a b:=by
 rcases i with rfl|⟨e,f⟩
 ·rcases j with rfl|⟨g,h⟩
  ·rfl
  ·rw[a6r g,a6r h]
 ·rw[a7J e,a7J f]
theorem a8E (P:Program) (c:BinOp) (g:c = .add∨c = .sub∨c = .mul∨c = .quo) (k:FloatKind) (a b:Nat) (w:World) :
 ∃r w',(Op.floatArith c k a b).run P w = .ok (.float k r) w' /\ a0t w w' /\ (fop c k a b=some r∨(fop c k a b=none /\ a1y k r=true)):=by
 obtain⟨r,w',d,e,f⟩:=b6a P k a b w;rcases g with rfl|rfl|rfl|rfl
 ·cases hf:k.format.add a b with
  |some r=>exact⟨r,w,by simp[Op.floatArith,hf],a0t.refl w,.inl hf⟩
  |none=>exact⟨r,w',by simp only[Op.floatArith,hf,pure_bind,Sem.run_bind,d,Result.andThen_ok,Sem.run_pure],e,.inr ⟨hf,f⟩⟩
 ·cases hf:k.format.sub a b with
  |some r=>exact⟨r,w,by simp[Op.floatArith,hf],a0t.refl w,.inl hf⟩
  |none=>exact⟨r,w',by simp only[Op.floatArith,hf,pure_bind,Sem.run_bind,d,Result.andThen_ok,Sem.run_pure],e,.inr ⟨hf,f⟩⟩
 ·cases hf:k.format.mul a b with
  |some r=>exact⟨r,w,by simp[Op.floatArith,hf],a0t.refl w,.inl hf⟩
  |none=>exact⟨r,w',by simp only[Op.floatArith,hf,pure_bind,Sem.run_bind,d,Result.andThen_ok,Sem.run_pure],e,.inr ⟨hf,f⟩⟩
 ·cases hf:k.format.div a b with
  |some r=>exact⟨r,w,by simp[Op.floatArith,hf],a0t.refl w,.inl hf⟩
  |none=>exact⟨r,w',by simp only[Op.floatArith,hf,pure_bind,Sem.run_bind,d,Result.andThen_ok,Sem.run_pure],e,.inr ⟨hf,f⟩⟩
theorem a4a (P:Program) (c:BinOp) (f:c = .add∨c = .sub∨c = .mul∨c = .quo) (k:FloatKind) {a e b b':Nat} (j:FEq k a e) (l:FEq k b b') (w:World) :
 ∃r w',(Op.floatArith c k e b').run P w = .ok (.float k r) w' /\ a0t w w' /\ FEq k (a0a c k a b) r:=by
 obtain⟨r,w',g,h,d⟩:=a8E P c f k e b' w;refine⟨r,w',g,h,?_⟩;rw[c4l,<- c4m j l];rcases d with d|⟨d,i⟩
 ·rw[d];exact .inl rfl
 ·rw[d];exact .inr ⟨a5o k,i⟩
theorem a3S {k:FloatKind} {a b:Nat} (h:a1y k a=true):k.format.order a b=none:=by
 obtain⟨s,f,c⟩:=a1K h;simp[Ieee.Format.order,c,Ieee.Datum.order]
theorem a3n {k:FloatKind} {a b:Nat} (h:a1y k b=true):k.format.order a b=none:=by
 obtain⟨s,f,c⟩:=a1K h;simp only[Ieee.Format.order,c];cases k.format.read a<;>rfl
theorem a3o {k:FloatKind} {a c b b':Nat} (h:FEq k a c) (i:FEq k b b'):k.format.order c b'=k.format.order a b:=by
 rcases h with rfl|⟨d,e⟩
 ·rcases i with rfl|⟨f,g⟩
  ·rfl
  ·rw[a3n f,a3n g]
 ·rw[a3S d,a3S e]
theorem b0p {k:FloatKind} {a d b b':Nat} {c:Ordering} (g:FEq k a d) (i:FEq k b b') (h:k.format.order a b=some c):d=a /\ b'=b:=by
 rcases g with rfl|⟨e,_⟩
 ·rcases i with rfl|⟨f,_⟩
  ·exact⟨rfl,rfl⟩
  ·rw[a3n f]at h;cases h
 ·rw[a3S e]at h;cases h
theorem d2q (P:Program) (k:FloatKind) {a d b b':Nat} (e:FEq k a d) (f:FEq k b b') (w:World) :
 ∃r w',(Builtin.max2 (.float k d) (.float k b')).run P w = .ok (.float k r) w' /\ a0t w w' /\ FEq k (b2T k a b) r:=by
 have g:=a3o e f;unfold b2T;cases hc:k.format.order a b with
 | none =>
   obtain⟨r,w',h,i,j⟩:=a6q P k true d b' w;refine⟨r,w',?_,i,.inr ⟨a5o k,j⟩⟩;rw[hc]at g;simp only[Builtin.max2,g,Sem.run_bind,h,Result.andThen_ok,Sem.run_pure]
 | some c =>
   obtain⟨rfl,rfl⟩:=b0p e f hc;cases c
   ·exact⟨b',w,by simp[Builtin.max2,hc],a0t.refl w,.inl rfl⟩
   ·exact⟨if(k.decode d).neg then b' else d,w,by simp[Builtin.max2,hc],a0t.refl w,.inl rfl⟩
   ·exact⟨d,w,by simp[Builtin.max2,hc],a0t.refl w,.inl rfl⟩
theorem d2r (P:Program) (k:FloatKind) {a d b b':Nat} (e:FEq k a d) (f:FEq k b b') (w:World) :
 ∃r w',(Builtin.min2 (.float k d) (.float k b')).run P w = .ok (.float k r) w' /\ a0t w w' /\ FEq k (f5R k a b) r:=by
 have g:=a3o e f;unfold f5R;cases hc:k.format.order a b with
 | none =>
   obtain⟨r,w',h,i,j⟩:=a6q P k false d b' w;refine⟨r,w',?_,i,.inr ⟨a5o k,j⟩⟩;rw[hc]at g;simp only[Builtin.min2,g,Sem.run_bind,h,Result.andThen_ok,Sem.run_pure]
 | some c =>
   obtain⟨rfl,rfl⟩:=b0p e f hc;cases c
   ·exact⟨d,w,by simp[Builtin.min2,hc],a0t.refl w,.inl rfl⟩
   ·exact⟨if(k.decode d).neg then d else b',w,by simp[Builtin.min2,hc],a0t.refl w,.inl rfl⟩
   ·exact⟨b',w,by simp[Builtin.min2,hc],a0t.refl w,.inl rfl⟩
theorem b8o {k:FloatKind} {a:Nat} (h:a1y k a=true):a1y k (a3H k a)=true:=by
 rw[a3Z]at h ⊢;have:a3H k a%k.format.signWeight=a%k.format.signWeight:=by
  unfold a3H Ieee.Format.signWeight;rw[Nat.xor_mod_two_pow];simp
 rw[this];exact h
theorem a7k {k:FloatKind} {a b:Nat} (h:FEq k a b):FEq k (a3H k a) (a3H k b):=by
 rcases h with rfl|⟨c,d⟩
 ·exact .inl rfl
 ·exact .inr ⟨b8o c,b8o d⟩
theorem b6b {k:FloatKind} {a c:Nat} (h:FEq k a c):Ieee.Datum.toInt .zero (k.decode c)=Ieee.Datum.toInt .zero (k.decode a):=by
 rcases h with rfl|⟨d,e⟩
 ·rfl
 ·obtain⟨s,f,g⟩:=a1K d;obtain⟨j,i,b⟩:=a1K e;unfold FloatKind.decode;rw[g,b];rfl
theorem d2s {m n:Nat} (h:m<2^(n+1)) (a:0<m):m.log2<=n:=by
 have:=Nat.log2_lt (n:=m) (k:=n+1) (by omega);omega
theorem a4v (neg:Bool) (n:Nat):Ieee.Toward.even.cut neg n 0=n:=by
 unfold Ieee.Toward.cut;simp[Nat.mod_one]
theorem c4n (s:Bool) (m:Nat) (e:Int) (l:m<2^24) (g:0<m) (n:-149<=e) (k:e<=104) :
 ∃r,Ieee.double.nearest s m e=Ieee.double.word s r /\ r<Ieee.double.infRung:=by
 have o:m.log2<=23:=d2s l g;have a:max (e+m.log2-Ieee.double.fractionBits) Ieee.double.leastPlace=e+m.log2-52:=by
  have:Ieee.double.leastPlace=-1074:=by decide
  have c:(Ieee.double.fractionBits:Int)=52:=by decide
  rw[this,c];omega
 have f:m <<< (52-m.log2)<2^53:=by
  rw[Nat.shiftLeft_eq];have b:m<2^(m.log2+1):=Nat.lt_log2_self
  calc m*2^(52-m.log2)<2^(m.log2+1)*2^(52-m.log2):=Nat.mul_lt_mul_of_pos_right b (Nat.two_pow_pos _)
   _=2^53:=by rw[<- Nat.pow_add];congr 1;omega
 refine⟨(e+m.log2-52+1074).toNat*2^52+m <<< (52-m.log2),?_,?_⟩
 ·unfold Ieee.Format.nearest;rw[if_neg (by omega)];dsimp only;rw[a];have b:(e-(e+(m.log2:Int)-52)).toNat=52-m.log2:=by omega
  have c:(e+(m.log2:Int)-52-e).toNat=0:=by omega
  have h:Ieee.double.leastPlace=-1074:=by decide
  have i:Ieee.double.binade=2^52:=by decide
  have d:Ieee.double.infRung=2047*2^52:=by decide
  rw[b,c,a4v,h,i,d];congr 1;have:(e+(m.log2:Int)-52 - -1074).toNat<=1149:=by omega
  have j:(e+(m.log2:Int)-52 - -1074)=e+(m.log2:Int)-52+1074:=by omega
  rw[j]at this ⊢;apply Nat.min_eq_left;omega
 ·have d:Ieee.double.infRung=2047*2^52:=by decide
  rw[d];have:(e+(m.log2:Int)-52+1074).toNat<=1149:=by omega
  omega
theorem a8F (s:Bool) (r:Nat) (h:r<Ieee.double.infRung):(FloatKind.f64.decode (Ieee.double.word s r)).isInfinity=false:=by
 have a:Ieee.double.signWeight=2^63:=by decide
 have c:Ieee.double.infRung=2047*2^52:=by decide
 have b:Ieee.double.word s r%Ieee.double.signWeight=r:=by
  unfold Ieee.Format.word;rw[a];split<;>omega
 unfold FloatKind.decode;show(Ieee.double.read (Ieee.double.word s r)).isInfinity=false;unfold Ieee.Format.read;dsimp only;rw[b];split
 ·rfl
 ·first|rfl|(rw[if_pos h];rfl)
theorem b1C {b:Nat} {s:Bool} {m:Nat} {e:Int} (h:FloatKind.f32.decode b = .number s m e):m<2^24 /\ -149<=e /\ e<=104:=by
 have a:Ieee.single.signWeight=2^31:=by decide
 have c:Ieee.single.infRung=255*2^23:=by decide
 have d:Ieee.single.binade=2^23:=by decide
 have f:Ieee.single.leastPlace=-149:=by decide
 have g:Ieee.single.fractionBits=23:=by decide
 change Ieee.single.read b=_ at h;unfold Ieee.Format.read at h;dsimp only at h;rw[a,c,d,f]at h;split at h
 ·cases h;omega
 ·split at h
  ·cases h;have:b%2^31%2^23<2^23:=Nat.mod_lt _ (by decide);have i:b%2^31/2^23-1<=253:=by omega
   refine⟨by omega,by omega,by omega⟩
  ·split at h<;>cases h
theorem c2d {b:Nat} {s:Bool} {m:Nat} {e:Int} (h:FloatKind.f32.decode b = .number s m e):(FloatKind.f64.decode (FloatKind.f64.encode (.number s m e))).isInfinity=false:=by
 obtain⟨g,f,a⟩:=b1C h;by_cases d:m=0
 ·subst d;show(FloatKind.f64.decode (Ieee.double.nearest s 0 e)).isInfinity=false;unfold Ieee.Format.nearest;rw[if_pos rfl];exact a8F s 0 (by decide)
 ·obtain⟨r,i,c⟩:=c4n s m e g (by omega) f a;show(FloatKind.f64.decode (Ieee.double.nearest s m e)).isInfinity=false;rw[i];exact a8F s r c
theorem a2q (P:Program) (s d:FloatKind) {a k:Nat} (h:FEq s a k) (j:(a0x s d a).1=true) (w:World) :
 ∃r w',(Conv.floatToFloat s k d).run P w = .ok (.float d r) w' /\ a0t w w' /\ FEq d (a0x s d a).2 r:=by
 by_cases b:s=d
 ·subst b;refine⟨k,w,by simp[Conv.floatToFloat],a0t.refl w,?_⟩;cases s<;>exact h
 ·have p:(a0x s d a).2=a8x s d a:=by cases s<;>cases d<;>first|exact absurd rfl b|rfl
  rw[p];rcases h with rfl|⟨c,g⟩
  ·unfold Conv.floatToFloat a8x;rw[if_neg b];cases hdec:s.decode a with
   | nan sg f =>
     obtain⟨r,w',c,g,l⟩:=a8D P d a w;exact⟨r,w',by simp only[Sem.run_bind,c,Result.andThen_ok,Sem.run_pure],g,.inr ⟨a5o d,l⟩⟩
   |infinity sg=>exact⟨_,w,by simp,a0t.refl w,.inl rfl⟩
   | number sg m e =>
     have i:(d.decode (d.encode (.number sg m e))).isInfinity=false:=by
      cases s<;>cases d<;>first|exact absurd rfl b|skip
      ·exact c2d hdec
      ·simp only[a0x,a1T,hdec,Bool.not_eq_true']at j;exact j
     exact⟨_,w,by simp[i],a0t.refl w,.inl rfl⟩
  ·obtain⟨sg,f,o⟩:=a1K c;obtain⟨q,t,n⟩:=a1K g;unfold Conv.floatToFloat a8x FloatKind.decode;rw[if_neg b,o,n];obtain⟨r,w',c,g,l⟩:=a8D P d k w;exact⟨r,w',by simp only[Sem.run_bind,c,Result.andThen_ok,Sem.run_pure],g,.inr ⟨a5o d,l⟩⟩
theorem a8G (P:Program) (s:FloatKind) (d:IntKind) {a c:Nat} (h:FEq s a c) (b:a6n s a d=true) (w:World) :
 (Conv.floatToInt s c d).run P w = .ok (.int d (f2i s a)) w:=by
 unfold Conv.floatToInt;rw[b6b h];unfold a6n at b;unfold f2i;split at b
 ·rename_i n e;simp only[and_eq_true,decide_eq_true_eq]at b;simp[e,b]
 ·cases b
structure Pre (P:Program) (Γ:Env) (β:Bt) (K:Ks) (get:Get) (n:Nat) (w:World) (ρ:Operand->V) (a:Act):Prop where
 env:a1m P Γ
 kok:KOK K w
 mr:MR β K get w
 fresh:∀k,n<=k->β k=none
 val:∀x,VR β K (ρ x) (a.eval x)
section
variable {P:Program} {Γ:Env} {β:Bt} {K:Ks} {get:Get} {n:Nat} {w:World} {ρ:Operand->V} {a:Act} {o:Oper}
theorem Pre.pure (h:Pre P Γ β K get n w ρ a) {v:V} {u:Value} {ok:Bool} {w':World} (c:VR β K v u) (b:(execOp a.eval o).run P w = .ok (.value u) w') (s:a0t w w') :
 a0m P o a w (a0U β K get n w ⟨ok,v,[],n⟩):=a0m.value b (a8z.pure h.kok h.mr h.fresh s c)
theorem Pre.pure1 (h:Pre P Γ β K get n w ρ a) {c:W} {ok:Bool} {out:Out} (b:a0z n ok c=some out) {u:Value} {w':World} (e:WR β K c u)
 (d:(execOp a.eval o).run P w = .ok (.value u) w') (s:a0t w w'):a0m P o a w (a0U β K get n w out):=by
 simp only[AM.a0z,injEq]at b;subst b;exact h.pure e d s
theorem b8p (h:Pre P Γ β K get n w ρ a) (t:Nat) (x:Operand):VR β K (b1z Γ t x (ρ x)) (a.eval x):=by
 unfold b1z;split
 ·exact h.val x
 ·rename_i b;have e:∃ad,a.eval x = .slice ad 0 0:=by
   unfold d6u at b;split at b
   ·simp only[and_eq_true]at b;have c:=a0g b.1;have d:=a0g b.2;subst c;subst d;exact⟨none,rfl⟩
   ·cases b
  split
  ·split
   ·split
    ·exact e
    ·exact h.val x
   ·exact h.val x
  ·exact h.val x
theorem c4o (h:Pre P Γ β K get n w ρ a) {x:Operand} (b:o.op = .move x∨o.op = .assign x):a0m P o a w (a0U β K get n w ⟨true,b1z Γ o.type x (ρ x),[],n⟩):=by
 refine h.pure (b8p h _ x) (w':=w) ?_ (a0t.refl w);rcases b with b|b<;>simp[execOp,b]
theorem e1N (h:Pre P Γ β K get n w ρ a) {c x y:Operand} {t:Bool} (d:o.op = .pick c x y) (b:ρ c = .val (.one (.bool t))) :
 a0m P o a w (a0U β K get n w ⟨true,e8a t (ρ x) (ρ y),[],n⟩):=by
 have e:a.eval c = .bool t:=by have:=h.val c;rw[b]at this;exact this
 refine h.pure (u:=if t=true then a.eval x else a.eval y) (w':=w) ?_ ?_ (a0t.refl w)
 ·cases t
  ·exact h.val y
  ·exact h.val x
 ·simp[execOp,d,e,asBool]
theorem d2t (h:Pre P Γ β K get n w ρ a) {t:TypeId} {ti:TI} (m:o.op = .alloc t) (q:Γ.tab t=some ti) :
 a0m P o a w (a0U β K get n w ⟨true,.val (.one (.ptr n 0)),[(n,some (.box ti.zero))],n+1⟩):=by
 obtain⟨i,d,z,l,hd,r,A,j,u,b,_⟩:=(h.env.tab t ti q).ex;have p:(execOp a.eval o).run P w = .ok (.value (.pointer (some ⟨w.heap.size,0,none⟩))) (w.alloc (.cells z.cells t)):=by
  refine a1t (s:=Instr.alloc t true (.tuple #[])) ?_ ?_
  ·simp[execOp,m]
  ·simp[Instr.alloc,zeroValue,typeInfo,l,r,newVar,newRow]
 refine a0m.value p ?_;have v:=h.fresh n (le_refl _);refine a8z.alloc (gone:=[]) (h:=⟨.pointer (some ⟨w.heap.size,0,none⟩),some w.heap.size⟩) h.kok h.mr h.fresh (a0t.refl w) (KLe.refl K) h.kok ?_ rfl ?_ ?_
 ·intro k c x y e _ f g;exact h.mr.ro k c y x e f g
 ·exact⟨w.heap.size,z.cells,t,rfl,a1J w _,b.mono fun _ _ hh=>hh _ _⟩
 ·exact⟨_,w.heap.size,a0D ..,rfl,rfl⟩
theorem e8f (h:Pre P Γ β K get n w ρ a) {t:TypeId} {x:Operand} {u:W} (d:o.op = .box t x) (m:ρ x = .val u) (j:u.cells.all c1Z=true) :
 a0m P o a w (a0U β K get n w ⟨true,.val (.one (.ptr n 0)),[(n,some (.box u.cells))],n+1⟩):=by
 have l:WR β K u (a.eval x):=by have:=h.val x;rw[m]at this;exact this
 have i:(execOp a.eval o).run P w = .ok (.value (.pointer (some ⟨w.heap.size,0,none⟩))) (w.alloc (.cells (a.eval x).cells t)):=by
  refine a1t (s:=Instr.box t (a.eval x)) ?_ ?_
  ·simp[execOp,d]
  ·simp[Instr.box,newVar,newRow]
 refine a0m.value i ?_;have b:=h.fresh n (le_refl _);refine a8z.alloc (gone:=[]) (h:=⟨.pointer (some ⟨w.heap.size,0,none⟩),some w.heap.size⟩) h.kok h.mr h.fresh (a0t.refl w) (KLe.refl K) h.kok ?_ rfl ?_ ?_
 ·intro k c x y e _ f g;exact h.mr.ro k c y x e f g
 ·exact⟨w.heap.size,(a.eval x).cells,t,rfl,a1J w _,(l.cells j).mono fun _ _=>CR.mono (BLe.add _ b) (KLe.refl K)⟩
 ·exact⟨_,w.heap.size,a0D ..,rfl,rfl⟩
theorem b6c:∀{k:FloatKind} {cs:List C} {l:List (Nat×Nat)},e1G k cs=some l->cs=l.map fun p=>C.cpx k p.1 p.2
 |k,[],l,h=>by simp only[e1G,injEq]at h;subst h;rfl
 | k, c::r,l,h=>by
   cases c with
   | cpx k' x y =>
     simp only[e1G]at h;split at h
     ·rename_i a;have a:=of_decide_eq_true a;split at h
      ·rename_i l' b;cases h;rw[b6c b,a];rfl
      ·cases h
     ·cases h
   |_=>simp[e1G]at h
theorem b6d {cs:List C} {vs:List Value} {m j:Nat} {c:C} (h:All2 (CR β K) cs vs) (a:e6I cs m j=some c) (n:j<m):∃v,vs[j]?=some v /\ CR β K c v:=by
 unfold e6I at a;split at a
 ·rename_i k x y r;split at a
  ·rename_i f;have f:=a0g f;split at a
   ·rename_i l i;cases a;have e:=b6c i;have g:l.length=m:=by rw[<- f,e,List.length_map]
    rw[e]at h;have d:j<l.length:=by omega
    have b:(l.map fun p=>C.cpx k p.1 p.2)[j]?=some (C.cpx k (l.getD j (0,0)).1 (l.getD j (0,0)).2):=by
     rw[List.getElem?_map,List.getElem?_eq_getElem d];simp[List.getElem?_eq_getElem d]
    exact h.get? b
   ·cases a
  ·cases a
 ·cases a
theorem b6e {vs:List Value} {off m j:Nat} {v:Value} (h:(sub vs off m)[j]?=some v):sub vs (off+j) 1=[v] /\ j<m:=by
 unfold sub at h ⊢;rw[List.getElem?_take]at h;split at h
 ·rename_i a;rw[List.getElem?_drop]at h;refine⟨?_,a⟩;apply List.ext_getElem?;intro i;rw[List.getElem?_take];cases i with
  |zero=>simp[h]
  |succ i=>rw[if_neg (by omega)];rfl
 ·cases h
theorem b8q {t:TypeId} {ti:TI} (Z:e6L P t ti) (G:KOK K w) (F:MR β K get w) {x:V} {S:Value} (y:VR β K x S) {out:Out} (a:a1e get n ti.agg ti.size x=some out) :
 ∃b off u v,S = .pointer (some ⟨b,off,none⟩) /\ (loadVar t ⟨b,off,none⟩).run P w = .ok v w /\ WR β K u v /\ AM.a0z n true u=some out:=by
 have fin:∀(b off:Nat) (arr:Array Value) (T:TypeId) (fz:Nat×Nat) (cs:List C) (u:W),S = .pointer (some ⟨b,off,none⟩)->w.heap[b]?=some (.cells arr T fz) ->
  All2 (CR β K) cs (sub arr.toList off ti.size)->a3I ti.agg ti.size cs=some u->AM.a0z n true u=some out->∃b off u v,S = .pointer (some ⟨b,off,none⟩) /\ (loadVar t ⟨b,off,none⟩).run P w = .ok v w /\ WR β K u v /\ AM.a0z n true u=some out:=by
  intro b off arr T fz cs u r hh p g E;obtain⟨v,hr,hw⟩:=a8A Z hh p g;exact⟨b,off,u,v,r,hr,hw,E⟩
 cases x with
 |tup ws=>simp[a1e]at a
 | val u =>
   cases u with
   |agg cs=>simp[a1e]at a
   | one c =>
     cases c with
     | ptr k off =>
       simp only[a1e]at a;obtain⟨hd,b,I,E,r⟩:=y;split at a
       ·rename_i cs M;split at a
        ·rename_i u g;obtain⟨L,f,b',arr,T,rfl,hh,p⟩:=F.blk k _ M;rw[I]at f;cases f;cases E;exact fin b off arr T (0,0) _ u r hh (p.sub' off ti.size) g a
        ·cases a
       ·cases a
     | eptr k s i off =>
       simp only[a1e]at a;obtain⟨hd,b,m,c,I,E,D,r⟩:=y;split at a
       ·rename_i d l M;split at a
        ·rename_i e _;subst e;split at a
         ·rename_i u g;obtain⟨L,f,J⟩:=F.blk k _ M;rw[I]at f;cases f;rcases J with⟨_,a',e'⟩|⟨b',cap,cur,T,e',hh,H,h2,h3,h4⟩
          ·subst e';cases E;omega
          ·subst e';cases E;have o:l.getD i (zero d)=l[i]:=by simp[List.getElem?_eq_getElem D]
           rw[o]at g;have B:=DR.enc (β:=β) d (h4 i D);have Q:=b8m d l[i];refine fin b _ cur T (0,0) _ u r hh ?_ g a;exact b3a B Q (a3Y g)
         ·cases a
        ·cases a
       ·cases a
     | rptr s l i off =>
       simp only[a1e]at a;obtain⟨D,b,o',arr,U,z,r⟩:=y;split at a
       ·rename_i u g;obtain⟨cur,T,fz,hh,_,Y⟩:=G.see U;have o:l.getD i (zero s)=l[i]:=by simp[List.getElem?_eq_getElem D]
        rw[o]at g;exact fin b _ cur T fz _ u r hh (b3a (DR.enc (β:=β) s (Y _ _ (z i D))) (b8m s l[i]) (a3Y g)) g a
       ·cases a
     | aptr k off m j =>
       simp only[a1e]at a;obtain⟨N,hd,b,I,E,r⟩:=y;split at a
       ·rename_i cs M;split at a
        ·rename_i c p;split at a
         ·rename_i u g;obtain⟨L,f,b',arr,T,rfl,hh,X⟩:=F.blk k _ M;rw[I]at f;cases f;cases E;obtain⟨v,y,A⟩:=b6d (X.sub' off m) p N;have H:ti.size=1:=by have:=a3Y g;simpa using this.symm
          refine fin b (off+j) arr T (0,0) [c] u r hh ?_ g a;rw[H,(b6e y).1];exact⟨A,trivial⟩
         ·cases a
        ·cases a
       ·cases a
     | aeptr k s i off m j =>
       simp only[a1e]at a;obtain⟨N,hd,b,q,c,I,E,D,r⟩:=y;split at a
       ·rename_i d l M;split at a
        ·rename_i e _;subst e;split at a
         ·rename_i c' p;split at a
          ·rename_i u g;obtain⟨L,f,J⟩:=F.blk k _ M;rw[I]at f;cases f;rcases J with⟨_,a',e'⟩|⟨b',cap,cur,T,e',hh,H,h2,h3,h4⟩
           ·subst e';cases E;omega
           ·subst e';cases E;have o:l.getD i (zero d)=l[i]:=by simp[List.getElem?_eq_getElem D]
            have p:e6I (a2D (enc d (l.getD i (zero d))) off m) m j=some c':=p;rw[o]at p;have B:=(DR.enc (β:=β) d (h4 i D)).sub' off m;obtain⟨v,y,A⟩:=b6d B p N;have H:ti.size=1:=by have:=a3Y g;simpa using this.symm
            have O:(sub cur.toList (i*d.size+off) m)[j]?=some v:=by
             have h:(sub (sub cur.toList (i*d.size) d.size) off m)[j]?=some v:=y;unfold sub at h ⊢;simp only[List.getElem?_take,List.getElem?_drop]at h ⊢;rw[if_pos N]at h ⊢;by_cases R:off+j<d.size
             ·rw[if_pos R]at h;rw[<- h];congr 1;omega
             ·rw[if_neg R]at h;exact absurd h (by simp)
            refine fin b (i*d.size+off+j) cur T (0,0) [c'] u (by rw[Nat.add_assoc];exact r) hh ?_ g a;rw[H,(b6e O).1];exact⟨A,trivial⟩
          ·cases a
         ·cases a
        ·cases a
       ·cases a
     | arptr s l i off m j =>
       simp only[a1e]at a;obtain⟨N,D,b,o',arr,U,z,r⟩:=y;split at a
       ·rename_i c' p;split at a
        ·rename_i u g;obtain⟨cur,T,fz,hh,_,Y⟩:=G.see U;have o:l.getD i (zero s)=l[i]:=by simp[List.getElem?_eq_getElem D]
         rw[o]at p;have B:=(DR.enc (β:=β) s (Y _ _ (z i D))).sub' off m;obtain⟨v,y,A⟩:=b6d B p N;have H:ti.size=1:=by have:=a3Y g;simpa using this.symm
         have O:(sub cur.toList (o'+i*s.size+off) m)[j]?=some v:=by
          have h:(sub (sub cur.toList (o'+i*s.size) s.size) off m)[j]?=some v:=y;unfold sub at h ⊢;simp only[List.getElem?_take,List.getElem?_drop]at h ⊢;rw[if_pos N]at h ⊢;by_cases R:off+j<s.size
          ·rw[if_pos R]at h;rw[<- h];congr 1;omega
          ·rw[if_neg R]at h;exact absurd h (by simp)
         refine fin b (o'+i*s.size+off+j) cur T fz [c'] u (by rw[Nat.add_assoc];exact r) hh ?_ g a;rw[H,(b6e O).1];exact⟨A,trivial⟩
        ·cases a
       ·cases a
     |_=>simp[a1e]at a
theorem e1O (h:Pre P Γ β K get n w ρ a) {t:TypeId} {ti:TI} {x:Operand} {out:Out} (e:o.op = .load t x) (i:Γ.tab t=some ti) (d:a1e get n ti.agg ti.size (ρ x)=some out) :
 a0m P o a w (a0U β K get n w out):=by
 obtain⟨b,off,u,v,c,g,j,f⟩:=b8q (h.env.tab t ti i) h.kok h.mr (h.val x) d;refine h.pure1 f j (w':=w) ?_ (a0t.refl w);refine a1t (s:=Instr.loadAt t (a.eval x)) (by simp[execOp,e]) ?_;simp[Instr.loadAt,c,Instr.sureAddr,g]
end
open Classical in
noncomputable def a5a (β:Bt) (K:Ks) (get:Get) (w:World) (ks:List Nat):Ks:=fun b=>match K b with
 |some a=>some a
 | none=>if ∃k∈ks,∃c y,get k=some c /\ β k=some y /\ y.b=some b then(match w.heap[b]? with
   |some (.cells arr _ _)=>some (false,arr)
   |_=>none)else none
section
variable {β:Bt} {K:Ks} {get:Get} {w:World} {ks:List Nat}
theorem a0Q:KLe K (a5a β K get w ks):=fun b arr e=>by simp[a5a,e]
theorem a4w (h:KOK K w):KOK (a5a β K get w ks) w:=by
 refine⟨?_,h.gk.mono a0Q⟩;intro b arr e;unfold a5a at e;split at e
 ·rename_i a d;cases e;exact h.ato b _ d
 ·split at e
  ·split at e
   ·rename_i c T fz hh;cases e;exact⟨c,T,fz,hh,KOK.self fun e=>by cases e⟩
   ·cases e
  ·cases e
theorem a4x:∀b arr,a5a β K get w ks b=some arr->K b=some arr∨Own β get b∨w.heap.size<=b:=by
 intro b arr e;unfold a5a at e;split at e
 ·rename_i x h;exact .inl (h.trans e)
 ·split at e
  ·rename_i a;obtain⟨k,_,c,y,d,f,g⟩:=a;exact .inr (.inl ⟨k,c,y,d,f,g⟩)
  ·cases e
theorem a1Q (h:MR β K get w) {k:Nat} {c:Blk} {y:Hd} {x:Nat} (b:get k=some c) (e:k ∉ ks) (a:β k=some y) (d:y.b=some x):a5a β K get w ks x=none:=by
 unfold a5a;rw[h.ro k c y x b a d];dsimp only;rw[if_neg];rintro⟨k',hk',c',y',hg',hb',hx'⟩;have:=h.sep k k' c c' y y' x b hg' a hb' d hx';subst this;exact e hk'
theorem b3b (h:MR β K get w) {k:Nat} {c:Blk} {y:Hd} {x:Nat} {arr:Array Value} {T:TypeId} {fz:Nat×Nat} (b:get k=some c) (e:k∈ks) (a:β k=some y) (d:y.b=some x) (hh:w.heap[x]?=some (.cells arr T fz)) :
 a5a β K get w ks x=some (false,arr):=by
 unfold a5a;rw[h.ro k c y x b a d];dsimp only;rw[if_pos ⟨k,e,c,y,b,a,d⟩,hh]
theorem c4p {x:Nat}:Jk (a5a β K get w ks) x↔Jk K x:=by
 refine⟨fun⟨arr,e⟩=>?_,fun⟨arr,e⟩=>⟨arr,a0Q x _ e⟩⟩;unfold a5a at e;split at e
 ·rename_i a b;cases e;exact⟨arr,b⟩
 ·split at e
  ·split at e<;>cases e
  ·cases e
theorem d6v (h:MR β K get w) {k:Nat} {t:Ty} {l:List (Den t)} (g:t.isJ=false) (e:get k=some (.arr t l)) (j:k∈ks) {y:Hd} (d:β k=some y):DR (a5a β K get w ks) (.slice t) l [y.v]:=by
 obtain⟨y',c,m⟩:=h.blk k _ e;rw[d]at c;cases c;rcases m with⟨rfl,a,rfl⟩|⟨b,cap,cur,T,rfl,hh,h1,h2,h3,h4⟩
 ·exact⟨a,0,0,rfl,rfl,le_refl _,.inl rfl⟩
 ·refine⟨_,_,_,rfl,rfl,h1,.inr ⟨b,0,cur,rfl,by rw[g];exact b3b h e j d rfl hh,fun i f=>?_⟩⟩;rw[Nat.zero_add];exact DR.mono a0Q t (h4 i f)
theorem d2u {t:Ty} {m:Nat} {cs:List C} {l:List (Den t)} (a:0<m) (h:d2l t m cs=some l):t.isJ=false:=by
 cases t with
 | jnk =>
   cases m with
   |zero=>omega
   | succ m=>cases cs with
     |nil=>simp[d2l,dec]at h
     |cons c cs=>cases c<;>simp[d2l,dec]at h
 |_=>rfl
theorem c4q {t:Ty}:∀{m:Nat} {cs:List C} {l:List (Den t)} {vs:List Value},d2l t m cs=some l->All2 (CR β K) cs vs->l.length=m /\ ∀i (c:i<l.length),DR K t l[i] (sub vs (i*t.size) t.size)
 |0,[],l,vs,h,_=>by simp only[d2l,injEq]at h;subst h;exact⟨rfl,fun i c=>by simp at c⟩
 |0,_::_,l,vs,h,_=>by simp[d2l]at h
 | m + 1,cs,l,vs,h,ha=>by
   simp only[d2l]at h;split at h
   ·rename_i x r p;split at h
    ·rename_i l' d;cases h;obtain⟨b,f,rfl,g,j⟩:=b2Z t p ha;obtain⟨n,o⟩:=c4q d j;have a:=DR.length t g;refine⟨by simp[n],fun i c=>?_⟩;cases i with
     | zero =>
       have:sub (b++f) (0*t.size) t.size=b:=by unfold sub;rw[Nat.zero_mul,List.drop_zero,<- a];simp
       rw[this];exact g
     | succ i =>
       have e:sub (b++f) ((i+1)*t.size) t.size=sub f (i*t.size) t.size:=by
        unfold sub;rw[Nat.succ_mul,List.drop_append,<- a];have k:List.drop (i*b.length+b.length) b=[]:=List.drop_eq_nil_of_le (by omega);rw[k,Nat.add_sub_cancel];rfl
       rw[e];exact o i (by simpa using c)
    ·cases h
   ·cases h
theorem c4r (h:MR β K get w) {c c':C} {v:Value} (d:roC get c=some c') (u:CR β K c v) (B:∀k∈a0S c,k∈ks):CR β (a5a β K get w ks) c' v:=by
 cases c with
 | ref t k =>
   simp only[roC]at d;split at d
   ·rename_i O l s;split at d
    ·rename_i e _;subst e;split at d
     case h_2=>cases d
     rename_i z;cases d;obtain⟨y,a,n,c,r,N,rfl⟩:=u;have:=d6v h z s (B k (by simp[a0S])) r;rw[N]at this;exact this
    ·cases d
   ·cases d
 | fn f p =>
   cases p with
   |nil=>simp only[roC,injEq]at d;subst d;exact CR.mono (BLe.refl β) a0Q u
   |cons k ks=>simp[roC]at d
 |ptr k o=>simp[roC]at d
 |eptr k t i o=>simp[roC]at d
 |aptr k o m j=>simp[roC]at d
 |aeptr k t i o m j=>simp[roC]at d
 |arptr t l i o m j=>simp[roC]at d
 | asl t k o m =>
   simp only[roC]at d;split at d
   ·rename_i cs s;split at d
    ·rename_i l D;cases d;obtain⟨b,c,⟨hd,b',r,M,F⟩,L,rfl⟩:=u;cases F;obtain⟨H,q,E,arr,T,rfl,hh,x⟩:=h.blk k _ s;rw[r]at q;cases q;cases M;obtain⟨A,G⟩:=c4q D ((x.sub' o (m*t.size)).mono fun _ _=>CR.mono (BLe.refl β) (a0Q (β:=β) (get:=get) (w:=w) (ks:=ks)));rcases Nat.eq_zero_or_pos m with g|g
     ·exact⟨_,_,_,rfl,A.symm,by omega,.inl g⟩
     have z:t.isJ=false:=d2u g D;refine⟨_,_,_,rfl,A.symm,by omega,.inr ⟨b,o,arr,rfl,by rw[z];exact b3b h s (B k (by simp[a0S])) r rfl hh,fun i I=>?_⟩⟩;have:=G i I;have e:sub (sub arr.toList o (m*t.size)) (i*t.size) t.size=sub arr.toList (o+i*t.size) t.size:=by
      have J:i*t.size+t.size<=m*t.size:=by rw[<- Nat.succ_mul];exact Nat.mul_le_mul_right _ (by omega)
      unfold sub;rw[List.drop_take,List.take_take,List.drop_drop,Nat.min_eq_left (by omega)]
     rw[e]at this;exact this
    ·cases d
   ·cases d
 |_=>simp only[roC,injEq]at d;subst d;exact CR.mono (BLe.refl β) a0Q u
theorem a1h {α e g:Type} {f:α->Option e} {R:α->g->Prop} {i:e->g->Prop}:∀{as1:List α} {cs:List e} {ds:List g},a1x f as1=some cs->All2 R as1 ds->(∀a c d,a∈as1->f a=some c->R a d->i c d)->All2 i cs ds
 | [],cs,ds,h,ha,_=>by
   simp only[a1x,injEq]at h;subst h;cases ds with
   |nil=>trivial
   |cons d ds=>exact ha.elim
 | a :: as1,cs,ds,h,ha,hf=>by
   simp only[a1x]at h;split at h
   ·rename_i y k;split at h
    ·rename_i ys b;cases h;cases ds with
     |nil=>exact ha.elim
     |cons d ds=>exact⟨hf a y d (List.mem_cons_self ..) k ha.1,a1h b ha.2 fun a c d j=>hf a c d (List.mem_cons_of_mem _ j)⟩
    ·cases h
   ·cases h
theorem a2r {α c:Type} {f:α->Option c}:∀{as1:List α} {cs:List c},a1x f as1=some cs->cs.length=as1.length
 |[],cs,h=>by simp only[a1x,injEq]at h;subst h;rfl
 | a::as1,cs,h=>by
   simp only[a1x]at h;split at h
   ·split at h
    ·rename_i b;cases h;simp[a2r b]
    ·cases h
   ·cases h
theorem b8r {α e:Type} {f:α->Option e}:∀{as1:List α} {cs:List e},a1x f as1=some cs->∀c∈cs,∃a∈as1,f a=some c
 |[],cs,h=>by simp only[a1x,injEq]at h;subst h;simp
 | a :: as1,cs,h=>by
   simp only[a1x]at h;split at h
   ·rename_i y k;split at h
    ·rename_i ys d;cases h;intro c b;rcases List.mem_cons.1 b with rfl|b
     ·exact⟨a,List.mem_cons_self ..,k⟩
     ·obtain⟨g,i,j⟩:=b8r d c b;exact⟨g,List.mem_cons_of_mem _ i,j⟩
    ·cases h
   ·cases h
theorem a6s:∀{l:List Nat} {k:Nat},b1w l k=true↔k∈l
 |[],k=>by simp[b1w]
 | x::r,k=>by
   unfold b1w;split
   ·rename_i h;have:=a0g h;subst this;simp
   ·rename_i h;have a:x≠k:=fun e=>by subst e;simp at h
    rw[a6s];simp[a.symm]
theorem a4b {l:List Nat} {k:Nat} (h:b1w l k=false):k ∉ l:=fun a=>by rw[a6s.2 a]at h;cases h
end
theorem a2U (cur vs:List Value) (p o n:Nat) (b:p+vs.length<=cur.length) (h:o+n<=p∨p+vs.length<=o) :
 sub (cur.take p++vs++cur.drop (p+vs.length)) o n=sub cur o n:=by
 apply List.ext_getElem?;intro j;unfold sub;simp only[List.getElem?_take,List.getElem?_drop];split
 ·rename_i a;simp only[List.getElem?_append,length_append,List.length_take,List.getElem?_take,List.getElem?_drop];rcases h with h|h
  ·rw[if_pos (by omega),if_pos (by omega),if_pos (by omega)]
  ·rw[if_neg (by omega)];congr 1;omega
 ·rfl
theorem a4y (cur vs:List Value) (o n off:Nat) (d:o+n<=cur.length) (h:off+vs.length<=n) :
 sub (cur.take (o+off)++vs++cur.drop (o+off+vs.length)) o n=(sub cur o n).take off++vs++(sub cur o n).drop (off+vs.length):=by
 apply List.ext_getElem?;intro j;unfold sub;simp only[List.getElem?_take,List.getElem?_drop,List.getElem?_append,length_append,List.length_take,List.length_drop,List.take_take];by_cases a:j<off
 ·repeat (first|rw[if_pos (by omega)]|rw[if_neg (by omega)])
 ·by_cases b:j<off+vs.length
  ·repeat (first|rw[if_pos (by omega)]|rw[if_neg (by omega)])
   congr 1;omega
  ·by_cases c:j<n
   ·repeat (first|rw[if_pos (by omega)]|rw[if_neg (by omega)])
    congr 1;omega
   ·repeat (first|rw[if_pos (by omega)]|rw[if_neg (by omega)])
section
variable {P:Program} {Γ:Env} {β:Bt} {K:Ks} {get:Get} {n:Nat} {w:World} {ρ:Operand->V} {a:Act} {o:Oper}
theorem a8z.write (h:Pre P Γ β K get n w ρ a) {k b:Nat} {o t:Blk} {y:Hd} {cur:Array Value} {gone:List Nat} {ok:Bool}
 (l:get k=some o) (i:β k=some y) (m:y.b=some b) (q:k ∉ gone)
 (s:BR β (a5a β K get w gone) t y (w.setRow b cur)) :
 a0U β K get n w ⟨ok,pois,(k,some t)::gone.map (fun k=>(k,none)),n⟩ undef (w.setRow b cur):=by
 have C:=h.mr.lt ⟨k,o,y,l,i,m⟩;refine⟨β,a5a β K get w gone,BLe.refl β,a0Q,⟨?_,h.kok.gk.mono a0Q⟩,trivial,?_,h.fresh,le_refl _,⟨rfl,rfl,rfl,by simp,?_⟩,?_,a4x,fun _ _=>rfl⟩
 ·intro x arr e;have r:x≠b:=fun p=>by
   subst p;rw[a1Q h.mr l q i m]at e;cases e
  rw[setRow_other w b x cur r];exact(a4w h.kok).ato x arr e
 ·refine h.mr.step (BLe.refl β) a0Q ?_;intro j c e;rcases a0E e with⟨rfl,e1⟩|⟨e1,e2⟩
  ·cases e1;refine .inr ⟨y,i,s,fun x r=>?_⟩;rw[m]at r;cases r;refine⟨a1Q h.mr l q i m,fun k' b' y' p A B=>?_⟩;rcases a0E p with⟨rfl,_⟩|⟨u,d⟩
   ·rfl
   ·obtain⟨_,v⟩:=a1s d;exact h.mr.sep k' j b' o y' y b v l A i B m
  ·obtain⟨u,d⟩:=a1s e2;refine .inl ⟨d,fun x z f g=>⟨setRow_other w b x cur ?_,a1Q h.mr d u f g⟩⟩;intro p;subst p;exact e1 (h.mr.sep j k c o z y x d l f i g m)
 ·intro x r D;exact setRow_other w b x cur fun e=>D (.inl ⟨k,o,y,l,i,by rw[m,e]⟩)
 ·rintro x ⟨j,c,z,e,f,g⟩;rcases a0E e with⟨rfl,e1⟩|⟨e1,e2⟩
  ·exact .inl ⟨j,o,z,l,f,g⟩
  ·obtain⟨_,d⟩:=a1s e2;exact .inl ⟨j,c,z,d,f,g⟩
theorem a8z.give (h:Pre P Γ β K get n w ρ a) {ks:List Nat} {v:V} {u:Value} {ok:Bool} (i:VR β (a5a β K get w ks) v u):a0U β K get n w ⟨ok,v,ks.map fun k=>(k,none),n⟩ u w:=by
 refine⟨β,a5a β K get w ks,BLe.refl β,a0Q,a4w h.kok,i,?_,h.fresh,le_refl _,Fr.refl _ _,?_,a4x,fun _ _=>rfl⟩
 ·refine h.mr.step (BLe.refl β) a0Q fun k b e=>?_
  obtain⟨d,c⟩:=a1s e;exact .inl ⟨c,fun x y f g=>⟨rfl,a1Q h.mr c d f g⟩⟩
 ·rintro x ⟨k,b,y,e,f,g⟩;obtain⟨d,c⟩:=a1s e;exact .inl ⟨k,b,y,c,f,g⟩
theorem a8z.junkW (h:Pre P Γ β K get n w ρ a) {b:Nat} {arr cur d:Array Value} {T:TypeId} {ok:Bool} (g:K b=some (true,arr)) (hh:w.heap[b]?=some (.cells cur T (0,0))) (o:All2 VJ arr.toList d.toList) :
 a0U β K get n w ⟨ok,pois,[],n⟩ undef (w.setRow b d):=by
 refine⟨β,K,BLe.refl β,KLe.refl K,⟨?_,h.kok.gk⟩,trivial,?_,h.fresh,le_refl _,⟨rfl,rfl,rfl,by simp,?_⟩,fun x f => .inl f,fun _ _ e => .inl e,fun _ _=>rfl⟩
 ·intro x y e;by_cases f:x=b
  ·subst f;rw[g]at e;cases e;exact⟨d,T,(0,0),setRow_heap w x cur d T _ hh,⟨fun e=>(by cases e),fun _=>⟨rfl,o⟩⟩⟩
  ·rw[setRow_other w b x d f];exact h.kok.ato x y e
 ·refine h.mr.world fun x f=>setRow_other w b x d fun e=>?_
  obtain⟨k,c,y,i,j,l⟩:=f;have:=h.mr.ro k c y x i j l;rw[e,g]at this;cases this
 ·intro x f m;exact setRow_other w b x d fun e=>m (.inr ⟨arr,by rw[e];exact g⟩)
theorem a3p (t:TypeId) {i:TypeInfo} (e:P.info? t=some i) {b off:Nat} {cur:Array Value} {T:TypeId} {v:Value} (hh:w.heap[b]?=some (.cells cur T (0,0)))
 (f:v.cells.size=i.size) (a:off+v.cells.size<=cur.size) (d:∀x∈v.cells.toList,x.oneCell'=true) :
 (Instr.storeAt t (.pointer (some ⟨b,off,none⟩)) v).run P w = .ok () (w.setRow b (cur.toList.take off++v.cells.toList++cur.toList.drop (off+v.cells.toList.length)).toArray):=by
 have c:=run_storeCells_at P b off T v.cells.toList 0 cur w hh (by simpa using a) d;simp only[Nat.add_zero]at c;simp[Instr.storeAt,Instr.sureAddr,storeVar,sizeOf,typeInfo,e,f,c]
theorem a5c {R:C->Value->Prop} {cs a:List C} {vs b:List Value} (h:All2 R cs vs) (h':All2 R a b) (off:Nat) :
 All2 R (d2k cs off a) (vs.take off++b++vs.drop (off+b.length)):=by
 unfold d2k;rw[h'.length];exact((h.take off).append h').append (h.drop _)
theorem c4s {k:FloatKind} {x y:Nat} {v:Value} {j:Nat}:∀{l:List (Nat×Nat)} {i:Nat} {vs:List Value},All2 (CR β K) (l.map fun p=>C.cpx k p.1 p.2) vs->i<=j->CR β K (.cpx k x y) v ->
 All2 (CR β K) (e6J k j x y i l) (vs.set (j-i) v)
 |[],i,[],_,_,_=>trivial
 |[],_,_::_,h,_,_=>h.elim
 |_::_,_,[],h,_,_=>h.elim
 | p :: r,i,u::d,h,hij,hv=>by
   by_cases e:i=j
   ·subst e;rw[Nat.sub_self,List.set_cons_zero];refine⟨?_,?_⟩
    ·have:beq i i=true:=Nat.beq_refl i;simp only[this,cond_true];exact hv
    ·have b:∀{l:List (Nat×Nat)} {q:Nat} {vs:List Value},i<q->All2 (CR β K) (l.map fun p=>C.cpx k p.1 p.2) vs->All2 (CR β K) (e6J k i x y q l) vs:=by
      intro l
      induction l with
      |nil=>intro q vs _ h;exact h
      | cons p r c =>
        intro q vs f h;cases vs with
        |nil=>exact h.elim
        | cons u d =>
          refine⟨?_,c (by omega) h.2⟩;have:beq q i=false:=a1A (by omega);simp only[this,cond_false];exact h.1
     exact b (Nat.lt_succ_self i) h.2
   ·have a:j-i=(j-(i+1))+1:=by omega
    rw[a,List.set_cons_succ];refine⟨?_,c4s h.2 (by omega) hv⟩;have:beq i j=false:=a1A e;simp only[this,cond_false];exact h.1
theorem b8s {k:FloatKind} {x y j:Nat}:∀{l:List (Nat×Nat)} {i:Nat},(e6J k j x y i l).length=l.length
 |[],_=>rfl
 |_::r,_=>by simp[e6J,b8s (l:=r)]
theorem c4t {cs b:List C} {vs:List Value} {m j:Nat} {u:W} {v:Value} (h:All2 (CR β K) cs vs) (a:e7Z cs m j u=some b) (n:WR β K u v) :
 All2 (CR β K) b (vs.set j v) /\ b.length=m /\ v.cells=#[v] /\ v.oneCell'=true /\ a0R u=[]:=by
 unfold e7Z at a;split at a
 ·rename_i k x y;split at a
  ·rename_i d;have d:=a0g d;split at a
   ·rename_i l g;cases a;have e:=b6c g;rw[e]at h;have c:l.length=m:=by rw[<- d,e,List.length_map]
    obtain⟨f,y',rfl,o,p⟩:=n;have:=c4s (i:=0) (j:=j) h (Nat.zero_le _) (show CR β K (.cpx k x y) (.complex k f y')from⟨f,y',rfl,o,p⟩);exact⟨by simpa using this,by rw[b8s,c],rfl,rfl,rfl⟩
   ·cases a
  ·cases a
 ·cases a
theorem b0q {vs:List Value} {off m j:Nat} {v:Value} (g:j<m) (c:off+m<=vs.length) :
 vs.take off++(sub vs off m).set j v++vs.drop (off+((sub vs off m).set j v).length)=vs.take (off+j)++[v]++vs.drop (off+j+[v].length):=by
 have a:(sub vs off m).length=m:=a3X c;rw[List.length_set,a];apply List.ext_getElem?;intro i;simp only[List.getElem?_append,length_append,List.length_take,List.getElem?_take,List.getElem?_drop,List.length_set,a,List.length_singleton];by_cases d:i<off
 ·rw[if_pos (by omega),if_pos (by omega),if_pos (by omega),if_pos (by omega),if_pos (by omega),if_pos (by omega)]
 ·by_cases e:i<off+m
  ·rw[if_pos (by omega),if_neg (by omega),List.getElem?_set];by_cases b:i=off+j
   ·subst b;rw[if_pos (by omega),if_pos (by omega),if_pos (by omega),if_neg (by omega)];have:off+j-min (off+j) vs.length=0:=by omega
    rw[this];rfl
   ·rw[if_neg (by omega)];unfold sub;rw[List.getElem?_take,if_pos (by omega),List.getElem?_drop];by_cases f:i<off+j
    ·rw[if_pos (by omega),if_pos (by omega),if_pos (by omega)];congr 1;omega
    ·rw[if_neg (by omega)];congr 1;omega
  ·rw[if_neg (by omega),if_neg (by omega)];congr 1;omega
theorem d2v (h:Pre P Γ β K get n w ρ a) {t:TypeId} {ti:TI} {x y:Operand} {u:W} {out:Out} (ho:o.op = .store t x y) (ht:Γ.tab t=some ti) (hu:b1z Γ t y (ρ y) = .val u)
 (r:a1n get n ti.size u (ρ x)=some out):a0m P o a w (a0U β K get n w out):=by
 obtain⟨i,d,z,hi,hd,hz,hs,_⟩:=(h.env.tab t ti ht).ex;have O:=h.val x;have hw:WR β K u (a.eval y):=by have:=b8p h t y;rw[hu]at this;exact this
 have exec:∀(w':World),(Instr.storeAt t (a.eval x) (a.eval y)).run P w = .ok () w'->(execOp a.eval o).run P w = .ok .skip w':=by
  intro w' J;simp[execOp,ho,J]
 cases Q:ρ x with
 |tup ws=>rw[Q]at r;simp[a1n]at r
 | val ux =>
   rw[Q]at r O;cases ux with
   |agg cs=>simp[a1n]at r
   | one c =>
     cases c with
     | ptr k off =>
       simp only[a1n]at r;obtain⟨hd',b,R,hp,he⟩:=O;split at r
       ·rename_i cs U;split at r
        ·rename_i g;cases r;simp only[and_eq_true]at g;obtain⟨⟨E,I⟩,hc3⟩:=g;have E:=a0g E;have I:off+ti.size<=cs.length:=by simpa using I
         have B:=hw.cells hc3;obtain⟨S,D,b',arr,T,rfl,hh,hc⟩:=h.mr.blk k _ U;rw[R]at D;cases D;cases hp;have F:(a.eval y).cells.size=i.size:=by rw[hs,<- E];exact B.length.symm
         have N:=hc.length;have J:=a3p (P:=P) (w:=w) t hi (v:=a.eval y) (off:=off) hh F (by simp at N;omega) (B.oneCell hc3);rw[<- he]at J;refine a0m.skip (exec _ J) ?_;refine a8z.write (gone:=[]) h U R rfl (by simp) ?_;refine⟨b,_,T,rfl,setRow_heap w b arr _ T _ hh,?_⟩;rw[List.toList_toArray];exact(a5c hc B off).mono fun _ _=>CR.mono (BLe.refl β) a0Q
        ·cases r
       ·cases r
     | eptr k t' j off =>
       simp only[a1n]at r;obtain⟨hd',b,m,c,R,hp,hj,he⟩:=O;split at r
       ·rename_i f l U;split at r
        ·rename_i e _;subst e;split at r
         ·rename_i cs hcs;split at r
          ·rename_i g;simp only[and_eq_true,Bool.not_eq_true']at g;obtain⟨⟨⟨E,I⟩,hc3⟩,Y⟩:=g;have E:=a0g E;have I:off+ti.size<=f.size:=by simpa using I
           have hng:k ∉ u.cells.flatMap a0S:=a4b hc3;split at r
           ·rename_i xx C;cases r;have B:=hw.cells Y;have hro:All2 (CR β (a5a β K get w (u.cells.flatMap a0S))) cs (a.eval y).cells.toList:=
             a1h hcs B fun cc cc' vv hm hf J=>c4r h.mr hf J fun k hk=>List.mem_flatMap.2 ⟨cc,hm,hk⟩
            obtain⟨S,D,hbr⟩:=h.mr.blk k _ U;rw[R]at D;cases D;rcases hbr with⟨_,a',e'⟩|⟨b',cap,cur,T,e',hh,h1,h2,h3,h4⟩
            ·subst e';cases hp;omega
            ·subst e';cases hp;have hx1:l.getD j (zero f)=l[j]:=by simp[List.getElem?_eq_getElem hj]
             have C:dec f (d2k (enc f (l.getD j (zero f))) off cs)=some (xx,[]):=C;rw[hx1]at C;have A:(a.eval y).cells.toList.length=ti.size:=by rw[<- hro.length,E]
             have F:(a.eval y).cells.size=i.size:=by rw[hs,<- A];simp
             have M:j*f.size+f.size<=cur.size:=by
              rw[h3,<- Nat.succ_mul];exact Nat.mul_le_mul_right _ (by omega)
             have J:=a3p (P:=P) (w:=w) t hi (v:=a.eval y) (off:=j*f.size+off) hh F (by rw[F,hs];omega) (fun x Q=>by
              have:=All2.oneCell Y B x Q;exact this)
             rw[<- he]at J;refine a0m.skip (exec _ J) ?_;refine a8z.write h U R rfl hng ?_;refine .inr ⟨b,c,_,T,by simp,setRow_heap w b cur _ T _ hh,by simpa using h1,h2,?_,?_⟩
             ·simp only[List.size_toArray,length_append,List.length_take,List.length_drop,Array.length_toList];rw[Array.length_toList]at A;omega
             ·intro q hq;rw[List.toList_toArray];have hq':q<l.length:=by simpa using hq
              by_cases hqj:q=j
              ·subst hqj;rw[List.getElem_set_self];rw[a4y _ _ _ _ _ (by simpa using M) (by rw[A];exact I)];have L:=(DR.enc (β:=β) f (h4 q hj)).mono fun _ _=>CR.mono (BLe.refl β) (a0Q (β:=β) (get:=get) (w:=w) (ks:=u.cells.flatMap a0S))
               obtain⟨v1,v2,e1,e2,e3⟩:=b2Z f C (a5c L hro off);cases v2 with
               |nil=>rw[e1];simpa using e2
               |cons _ _=>exact e3.elim
              ·rw[List.getElem_set_ne (by omega)];rw[a2U _ _ _ _ _ (by simp only[Array.length_toList]at *;omega) ?_]
               ·exact DR.mono a0Q _ (h4 q hq')
               ·rcases Nat.lt_or_ge q j with G|hge
                ·left;have:q*f.size+f.size<=j*f.size:=by rw[<- Nat.succ_mul];exact Nat.mul_le_mul_right _ G
                 omega
                ·right;have:j*f.size+f.size<=q*f.size:=by rw[<- Nat.succ_mul];exact Nat.mul_le_mul_right _ (by omega)
                 rw[A];omega
           ·cases r
          ·cases r
         ·cases r
        ·cases r
       ·cases r
     | rptr t' l q off =>
       cases t' with
       | jnk =>
         simp only[a1n]at r;obtain⟨hq,b,o',arr,hK,hall,he⟩:=O;split at r
         ·rename_i xf;split at r
          ·rename_i g;cases r;simp only[and_eq_true]at g;have h1:=a0g g.1;have h2:=a0g g.2;subst h2;obtain⟨cur,T,fz,hh,_,hvj0⟩:=h.kok.ato b _ hK;obtain⟨hfz,hvj⟩:=hvj0 rfl;subst hfz;obtain⟨x',Z,_⟩:=hw;obtain⟨m,hm⟩:=hall q hq;have G:o'+q<arr.toList.length:=by
            have:=congrArg List.length hm;simp[sub,Ty.size]at this;simp;omega
           have hat:arr.toList[o'+q] = .float .f32 m:=by
            have:=congrArg (·[0]?) hm;simp only[sub,Ty.size,Nat.mul_one]at this;rw[List.getElem?_take,if_pos (by omega),List.getElem?_drop,Nat.add_zero,List.getElem?_eq_getElem G]at this;simpa using this
           have A:=hvj.length;have F:(a.eval y).cells.size=i.size:=by rw[Z,hs,h1];rfl
           have J:=a3p (P:=P) (w:=w) t hi (v:=a.eval y) (off:=o'+q) hh F (by rw[F,hs,h1];simp at G A;omega) (by rw[Z];intro z hz;simp[Value.cells]at hz;subst hz;rfl);have he':a.eval x = .pointer (some ⟨b,o'+q,none⟩):=by rw[he];simp[Ty.size]
           rw[<- he']at J;refine a0m.skip (exec _ J) ?_;refine a8z.junkW h hK hh ?_;rw[List.toList_toArray,Z];refine All2.of_get (by simp[Value.cells]at G A ⊢;omega) fun j u v hu O=>?_
           by_cases hj:j=o'+q
           ·subst hj;rw[List.getElem?_eq_getElem G,hat]at hu;have:v = .float .f32 x':=by
             rw[List.append_assoc,List.getElem?_append_right (by simp;omega)]at O;simp[Value.cells]at O;simp at G A;rw[Nat.min_eq_left (by omega)]at O;simpa using O.symm
            cases hu;exact .inr ⟨m,x',rfl,this⟩
           ·have hv':cur.toList[j]?=some v:=by
             rw[<- O];simp only[Value.cells,List.getElem?_append,length_append,List.length_take,List.getElem?_take,List.getElem?_drop];simp at G A;by_cases h3:j<o'+q
             ·simp;rw[if_pos (by omega),if_pos (by omega),if_pos (by omega)]
             ·simp;rw[if_neg (by omega)];congr 1;omega
            obtain⟨v2,e1,e2⟩:=hvj.get? hu;rw[hv']at e1;cases e1;exact e2
          ·cases r
         ·cases r
       |_=>simp[a1n]at r
     | aptr k off m j =>
       simp only[a1n]at r;obtain⟨hj,hd',b,R,hp,he⟩:=O;split at r
       ·rename_i cs U;split at r
        ·rename_i cs' H;split at r
         ·rename_i g;cases r;simp only[and_eq_true]at g;have E:=a0g g.1;have I:off+m<=cs.length:=by simpa using g.2
          obtain⟨S,D,b',arr,T,rfl,hh,hc⟩:=h.mr.blk k _ U;rw[R]at D;cases D;cases hp;obtain⟨X,A,s,V,hkeys⟩:=c4t (hc.sub' off m) H hw;have N:cs.length=arr.toList.length:=hc.length;have F:(a.eval y).cells.size=i.size:=by rw[s,hs,E];rfl
          have J:=a3p (P:=P) (w:=w) t hi (v:=a.eval y) (off:=off+j) hh F (by rw[s];simp at N ⊢;omega) (fun x Q=>by rw[s]at Q;simp at Q;subst Q;exact V);rw[<- he]at J;refine a0m.skip (exec _ J) ?_;refine a8z.write (gone:=[]) h U R rfl (by simp) ?_;refine⟨b,_,T,rfl,setRow_heap w b arr _ T _ hh,?_⟩;rw[List.toList_toArray,s];have:=a5c hc X off;rw[b0q hj (by omega)]at this;exact this.mono fun _ _=>CR.mono (BLe.refl β) a0Q
         ·cases r
        ·cases r
       ·cases r
     | aeptr k t' q off m j =>
       simp only[a1n]at r;obtain⟨hj,hd',b,p,c,R,hp,hq,he⟩:=O;split at r
       ·rename_i f l U;split at r
        ·rename_i e _;subst e;split at r
         ·rename_i cs' H;split at r
          ·rename_i g;simp only[and_eq_true]at g;have E:=a0g g.1;have I:off+m<=f.size:=by simpa using g.2
           split at r
           ·rename_i xx C;cases r;obtain⟨S,D,hbr⟩:=h.mr.blk k _ U;rw[R]at D;cases D;rcases hbr with⟨_,a',e'⟩|⟨b',cap,cur,T,e',hh,h1,h2,h3,h4⟩
            ·subst e';cases hp;omega
            ·subst e';cases hp;have hx1:l.getD q (zero f)=l[q]:=by simp[List.getElem?_eq_getElem hq]
             have C:dec f (d2k (enc f (l.getD q (zero f))) off cs')=some (xx,[]):=C;have H:e7Z (a2D (enc f (l.getD q (zero f))) off m) m j u=some cs':=H;rw[hx1]at C H;have L:=DR.enc (β:=β) f (h4 q hq);obtain⟨X,A,s,V,hkeys⟩:=c4t (L.sub' off m) H hw;have M:q*f.size+f.size<=cur.size:=by
              rw[h3,<- Nat.succ_mul];exact Nat.mul_le_mul_right _ (by omega)
             have F:(a.eval y).cells.size=i.size:=by rw[s,hs,E];rfl
             have J:=a3p (P:=P) (w:=w) t hi (v:=a.eval y) (off:=q*f.size+(off+j)) hh F (by rw[s];simp;omega) (fun x Q=>by rw[s]at Q;simp at Q;subst Q;exact V);rw[<- he]at J;refine a0m.skip (exec _ J) ?_;refine a8z.write (gone:=[]) h U R rfl (by simp) ?_;have hvl:(a.eval y).cells.toList.length=1:=by rw[s];rfl
             refine .inr ⟨b,c,_,T,by simp,setRow_heap w b cur _ T _ hh,by simpa using h1,h2,?_,?_⟩
             ·simp only[List.size_toArray,length_append,List.length_take,List.length_drop,Array.length_toList];rw[Array.length_toList]at hvl;omega
             ·intro z hz;rw[List.toList_toArray];have hz':z<l.length:=by simpa using hz
              by_cases hzq:z=q
              ·subst hzq;rw[List.getElem_set_self];rw[a4y _ _ _ _ _ (by simpa using M) (by rw[hvl];omega),s];have hsub:(sub cur.toList (z*f.size) f.size).length=f.size:=a3X (by simpa using M);have N:=(a5c L X off).mono fun _ _=>CR.mono (BLe.refl β) (a0Q (β:=β) (get:=get) (w:=w) (ks:=[]))
               rw[b0q hj (by rw[hsub];exact I)]at N;obtain⟨v1,v2,e1,e2,e3⟩:=b2Z f C N;have e1:List.take (off+j) (sub cur.toList (z*f.size) f.size)++[a.eval y]++List.drop (off+j+1) (sub cur.toList (z*f.size) f.size)=v1++v2:=e1;cases v2 with
               | nil =>
                 show DR _ _ _ (List.take (off+j) (sub cur.toList (z*f.size) f.size)++[a.eval y]++List.drop (off+j+1) (sub cur.toList (z*f.size) f.size));rw[e1];simpa using e2
               |cons _ _=>exact e3.elim
              ·rw[List.getElem_set_ne (by omega)];rw[a2U _ _ _ _ _ (by simp only[Array.length_toList]at *;omega) ?_]
               ·exact DR.mono a0Q _ (h4 z hz')
               ·rcases Nat.lt_or_ge z q with G|hge
                ·left;have:z*f.size+f.size<=q*f.size:=by rw[<- Nat.succ_mul];exact Nat.mul_le_mul_right _ G
                 omega
                ·right;have:q*f.size+f.size<=z*f.size:=by rw[<- Nat.succ_mul];exact Nat.mul_le_mul_right _ (by omega)
                 rw[hvl];omega
           ·cases r
          ·cases r
         ·cases r
        ·cases r
       ·cases r
     |_=>simp[a1n]at r
end
section
variable {P:Program} {Γ:Env} {β:Bt} {K:Ks} {get:Get} {n:Nat} {w:World} {ρ:Operand->V} {a:Act} {o:Oper}
theorem Pre.one (h:Pre P Γ β K get n w ρ a) {x:Operand} {c:C} (b:ρ x = .val (.one c)):CR β K c (a.eval x):=by
 have:=h.val x;rw[b]at this;exact this
theorem Pre.agg (h:Pre P Γ β K get n w ρ a) {x:Operand} {cs:List C} (b:ρ x = .val (.agg cs)):∃arr:Array Value,a.eval x = .agg arr /\ All2 (CR β K) cs arr.toList:=by
 have:=h.val x;rw[b]at this;exact this
theorem a4z (h:Pre P Γ β K get n w ρ a) {x:Operand} {c:C} (e:o.op = .nilCheck x) (j:ρ x = .val (.one c))
 (g:(∃k o,c = .ptr k o)∨(∃k t i o,c = .eptr k t i o)∨(∃t l i o,c = .rptr t l i o)∨(∃f cs,c = .fn f cs)) :
 a0m P o a w (a0U β K get n w ⟨true,.val (.one c),[],n⟩):=by
 have d:=h.one j;refine h.pure (u:=a.eval x) (w':=w) d ?_ (a0t.refl w);rcases g with⟨k,o',rfl⟩|⟨k,t,i,o',rfl⟩|⟨t,l,i,o',rfl⟩|⟨f,cs,rfl⟩
 ·obtain⟨_,_,_,_,b⟩:=d;simp[execOp,e,b]
 ·obtain⟨_,_,_,_,_,_,_,b⟩:=d;simp[execOp,e,b]
 ·obtain⟨_,_,_,_,_,_,b⟩:=d;simp[execOp,e,b]
 ·obtain⟨_,b,_⟩:=d;simp[execOp,e,b]
theorem All2.nth {α a:Type} {R:α->a->Prop} {as1:List α} {cs:List a} {i:Nat} {c:a} (h:All2 R as1 cs) (b:cs[i]?=some c):∃x,as1[i]?=some x /\ R x c:=h.get?' b
theorem b3c (h:Pre P Γ β K get n w ρ a) {t:TypeId} {ti:TI} {x:Operand} {f:Nat} {off size:Nat} {M:Bool} {out:Out} (T:o.op = .fieldAddr t x f) (V:Γ.tab t=some ti)
 (U:ti.sort = .struct) (S:ti.fields[f]?=some (off,size,M)) (Q:size≠0)
 (A : (match ρ x with
      |.val (.one (.ptr k o))=>a0z n true (.one (.ptr k (o+off)))
      |.val (.one (.eptr k ty i o))=>a0z n true (.one (.eptr k ty i (o+off)))
      |.val (.one (.rptr ty l i o))=>a0z n true (.one (.rptr ty l i (o+off)))
      |_=>none)=some out):a0m P o a w (a0U β K get n w out):=by
 obtain⟨i,d,z,W,hd,X,_,_,_,_,C,_⟩:=(h.env.tab t ti V).ex;simp only[a1M,U]at C;obtain⟨O,rfl,H⟩:=C;obtain⟨fl,G,B,N,fd,F,y,_⟩:=H.nth S;have v:O[f]?=some fl:=by simpa using G
 have p:∀(b q:Nat),a.eval x = .pointer (some ⟨b,q,none⟩)->(execOp a.eval o).run P w = .ok (.value (.pointer (some ⟨b,q+off,none⟩))) w:=by
  intro b q g;refine a1t (s:=Instr.fieldAt t (a.eval x) f) (by simp[execOp,T]) ?_;have J:¬N.size=0:=by rw[y];exact Q
  simp[Instr.fieldAt,run_underlying hd,v,g,Instr.sureAddr,fieldPlace,a1g F,J,a2T,B]
 split at A
 ·rename_i k q D;obtain⟨e,b,E,L,g⟩:=h.one D;exact h.pure1 A (u := .pointer (some ⟨b,q+off,none⟩)) ⟨e,b,E,L,rfl⟩ (p b q g) (a0t.refl w)
 ·rename_i k ty j q D;obtain⟨e,b,m,c,E,L,I,g⟩:=h.one D;exact h.pure1 A (u := .pointer (some ⟨b,j*ty.size+(q+off),none⟩)) ⟨e,b,m,c,E,L,I,rfl⟩ (by rw[<- Nat.add_assoc];exact p b _ g) (a0t.refl w)
 ·rename_i ty l j q D;obtain⟨I,b,o',arr,R,r,g⟩:=h.one D;exact h.pure1 A (u := .pointer (some ⟨b,o'+j*ty.size+(q+off),none⟩)) ⟨I,b,o',arr,R,r,rfl⟩ (by rw[<- Nat.add_assoc];exact p b _ g) (a0t.refl w)
 ·cases A
theorem a6t (f:Bool) (t:TypeId) {d:TypeInfo} {fd:TypeDesc} (j:P.info? t=some d) (i:P.underlying t=some fd) (g:d2p fd=f) {cs:List C} {arr:Array Value} {off:Nat} {u:W}
 (l:All2 (CR β K) cs arr.toList) (b:a3I f d.size (a2D cs off d.size)=some u):∃v,(part t arr off).run P w = .ok v w /\ WR β K u v:=by
 have a:=l.sub' off d.size;have n:=a3Y b;unfold part;rw[Sem.run_bind,b0o i,Result.andThen_ok,g];cases f with
 | true =>
   simp only[a3I]at b;split at b
   ·cases b;refine⟨.agg (arr.extract off (off+d.size)),by simp[a1g j],⟨_,rfl,?_⟩⟩;rw[Array.toList_extract];have e:List.extract arr.toList off (off+d.size)=sub arr.toList off d.size:=by
     simp[List.extract,sub]
    rw[e];exact a
   ·cases b
 | false =>
   simp only[a3I]at b;split at b
   ·rename_i k;have k:=a0g k;split at b
    ·rename_i c h;cases b;rw[h]at a;cases hs:sub arr.toList off d.size with
     |nil=>rw[hs]at a;exact a.elim
     | cons v vs =>
       rw[hs]at a;have m:arr[off]?=some v:=by
        have:(sub arr.toList off d.size)[0]?=some v:=by rw[hs];rfl
        unfold sub at this;rw[List.getElem?_take]at this;split at this
        ·rw[List.getElem?_drop]at this;simpa using this
        ·cases this
       exact⟨v,by simp[m],a.1⟩
    ·cases b
   ·cases b
theorem d2w (h:Pre P Γ β K get n w ρ a) {t:TypeId} {ti:TI} {x:Operand} {f:Nat} {off size:Nat} {q:Bool} {cs:List C} {u:W} (D:o.op = .field t x f) (H:Γ.tab t=some ti)
 (G:ti.sort = .struct) (B:ti.fields[f]?=some (off,size,q)) (L:ρ x = .val (.agg cs)) (I:a3I q size (a2D cs off size)=some u) {out:Out} (E:AM.a0z n true u=some out) :
 a0m P o a w (a0U β K get n w out):=by
 obtain⟨i,d,z,N,hd,O,_,_,_,_,j,_⟩:=(h.env.tab t ti H).ex;simp only[a1M,G]at j;obtain⟨r,rfl,p⟩:=j;obtain⟨fl,m,c,M,fd,l,b,k,e⟩:=p.nth B;have g:r[f]?=some fl:=by simpa using m
 obtain⟨arr,A,y⟩:=h.agg L;dsimp only at c b e;subst c b e;obtain⟨v,F,J⟩:=a6t (P:=P) (w:=w) _ fl.type l k rfl y I;refine h.pure1 E J ?_ (a0t.refl w);refine a1t (s:=Instr.field t (a.eval x) f) (by simp[execOp,D]) ?_;simp[Instr.field,run_underlying hd,g,A,asAgg,F]
theorem a4c {t:TypeId} {ti:TI} (c:e6L P t ti):∃i,P.info? t=some i /\ i.size=ti.size:=by
 obtain⟨i,_,_,a,_,_,b,_⟩:=c.ex;exact⟨i,a,b⟩
theorem a8H {t e:TypeId} {d:TypeInfo} (hd:P.underlying t=some (.slice e)) (a:P.info? e=some d) {b q m c:Nat} {k:IntKind} {j:Int} (f:0<=j) (g:j<m) :
 (Instr.indexAt t (.slice (some ⟨b,q,none⟩) m c) (.int k j)).run P w = .ok (.pointer (some ⟨b,q+j.toNat*d.size,none⟩)) w:=by
 simp[Instr.indexAt,asIntOf,run_underlying hd,f,g,a1g a,a2T]
theorem b3d (h:Pre P Γ β K get n w ρ a) {t:TypeId} {ti J:TI} {x i:Operand} {out:Out} (U:o.op = .indexAddr t x i) (ht:Γ.tab t=some ti) (Z:ti.sort = .slice) (W:Γ.tab ti.elem=some J)
 (g:(match ρ x,ρ i with
 | .val (.one (.sl t l)),.val (.one (.int _ j))=>match beq t.size J.size with
   |true=>a0z n (decide (0<=j)&&decide (j<(l.length:Int))) (.one (.rptr t l j.toNat 0))
   |false=>none
 | .val (.one (.ref t k)),.val (.one (.int _ j))=>match get k with
   | some (.arr M l)=>match beq t.size J.size,a3l M t with
     |true,some _=>a0z n (decide (0<=j)&&decide (j<(l.length:Int))) (.one (.eptr k t j.toNat 0))
     |_,_=>none
   |_=>none
 |.val (.one (.nil t)),.val (.one (.int _ _))=>a0z n false (.one (.rptr t [] 0 0))
 |_,_=>none)=some out) (r:out.ok=true):a0m P o a w (a0U β K get n w out):=by
 obtain⟨ii,d,z,hi,hd,hz,_,_,_,_,I,_⟩:=(h.env.tab t ti ht).ex;simp only[a1M,Z]at I;subst I;obtain⟨C,F,G⟩:=a4c (h.env.tab _ J W);split at g
 ·rename_i ty l k j Q O;split at g
  ·rename_i f;have f:=a0g f;have H:=g;simp only[a0z,injEq]at H;subst H;simp only[and_eq_true,decide_eq_true_eq]at r;obtain⟨ad,m,c,L,hm,Y,B⟩:=h.one Q;have A:a.eval i = .int k j:=h.one O;simp only[List.cons.injEq,and_true]at L;rcases B with h0|⟨b,q,arr,rfl,V,D⟩
   ·omega
   ·refine h.pure1 g (u := .pointer (some ⟨b,q+j.toNat*C.size,none⟩)) ?_ (w':=w) ?_ (a0t.refl w)
    ·refine⟨by omega,b,q,arr,V,D,?_⟩;rw[G,<- f];rfl
    ·refine a1t (s:=Instr.indexAt t (a.eval x) (a.eval i)) (by simp[execOp,U]) ?_;rw[L,A];exact a8H hd F r.1 (by omega)
  ·cases g
 ·rename_i ty R k j Q O;split at g
  ·rename_i M l X;split at g
   ·rename_i f v;have e:M=ty:=by
     cases hq:a3l M ty with
     |none=>rw[hq]at v;cases v
     |some p=>exact p.down
    subst e;have f:=a0g f;have H:=g;simp only[a0z,injEq]at H;subst H;simp only[and_eq_true,decide_eq_true_eq]at r;obtain⟨y,ad,m,c,S,hy,L⟩:=h.one Q;have A:a.eval i = .int k j:=h.one O;obtain⟨y',E,N⟩:=h.mr.blk R _ X;rw[S]at E;cases E;rcases N with⟨rfl,a',rfl⟩|⟨b,cap,cur,T,rfl,hh,h1,h2,h3,h4⟩
    ·simp at r;omega
    ·cases hy;refine h.pure1 g (u := .pointer (some ⟨b,0+j.toNat*C.size,none⟩)) ?_ (w':=w) ?_ (a0t.refl w)
     ·refine⟨_,b,l.length,_,S,rfl,by omega,?_⟩;rw[G,<- f];simp
     ·refine a1t (s:=Instr.indexAt t (a.eval x) (a.eval i)) (by simp[execOp,U]) ?_;rw[L,A];exact a8H hd F r.1 (by omega)
   ·cases g
  ·cases g
 ·simp only[a0z,injEq]at g;subst g;cases r
 ·cases g
theorem c4u (h:Pre P Γ β K get n w ρ a) {t:TypeId} {ti F:TI} {x i:Operand} {m:Nat} {out:Out} (T:o.op = .indexAddr t x i) (V:Γ.tab t=some ti) (U:ti.sort = .array m) (S:Γ.tab ti.elem=some F)
 (p:a2G n F.size m (ρ x) (ρ i)=some out) (e:out.ok=true):a0m P o a w (a0U β K get n w out):=by
 obtain⟨Y,d,z,W,hd,X,_,_,_,_,C,_⟩:=(h.env.tab t ti V).ex;simp only[a1M,U]at C;subst C;obtain⟨G,I,J⟩:=a4c (h.env.tab _ F S);unfold a2G at p;split at p
 ·rename_i v;simp only[and_eq_true]at v;have Q:G.size=1:=by rw[J];exact a0g v.1
  have run:∀(b q:Nat) (k:IntKind) (j:Int),a.eval x = .pointer (some ⟨b,q,none⟩)->a.eval i = .int k j->0<=j->j<(m:Int)->(execOp a.eval o).run P w = .ok (.value (.pointer (some ⟨b,q+j.toNat,none⟩))) w:=by
   intro b q k j M N O A;refine a1t (s:=Instr.indexAt t (a.eval x) (a.eval i)) (by simp[execOp,T]) ?_;rw[M,N];simp[Instr.indexAt,asIntOf,run_underlying hd,Instr.sureAddr,O,A,a1g I,a2T,Q]
  split at p
  ·rename_i k q E j D A;have f:=p;simp only[a0z,injEq]at f;subst f;simp only[and_eq_true,decide_eq_true_eq]at e;obtain⟨y,b,H,f,g⟩:=h.one D;exact h.pure1 p (u := .pointer (some ⟨b,q+j.toNat,none⟩)) ⟨by omega,y,b,H,f,rfl⟩ (run b q E j g (h.one A) e.1 e.2) (a0t.refl w)
  ·rename_i k ty r q E j D A;have f:=p;simp only[a0z,injEq]at f;subst f;simp only[and_eq_true,decide_eq_true_eq]at e;obtain⟨y,b,mm,c,H,f,L,g⟩:=h.one D;exact h.pure1 p (u := .pointer (some ⟨b,r*ty.size+q+j.toNat,none⟩)) ⟨by omega,y,b,mm,c,H,f,L,by rw[Nat.add_assoc]⟩ (run b _ E j g (h.one A) e.1 e.2) (a0t.refl w)
  ·rename_i ty l r q E j D A;have f:=p;simp only[a0z,injEq]at f;subst f;simp only[and_eq_true,decide_eq_true_eq]at e;obtain⟨L,b,o',arr,R,B,g⟩:=h.one D;exact h.pure1 p (u := .pointer (some ⟨b,o'+r*ty.size+q+j.toNat,none⟩)) ⟨by omega,L,b,o',arr,R,B,by rw[Nat.add_assoc (o'+r*ty.size)]⟩ (run b _ E j g (h.one A) e.1 e.2) (a0t.refl w)
  ·cases p
 ·cases p
theorem d2x (h:Pre P Γ β K get n w ρ a) {t:TypeId} {ti g:TI} {x:Operand} {m:Nat} {out:Out} (B:o.op = .slice t x none none none) (E:Γ.tab t=some ti) (D:ti.sort = .array m) (y:Γ.tab ti.elem=some g)
 (e:b1x n m g (ρ x)=some out):a0m P o a w (a0U β K get n w out):=by
 obtain⟨J,d,z,H,hd,I,_,_,_,_,f,_⟩:=(h.env.tab t ti E).ex;simp only[a1M,D]at f;subst f;obtain⟨r,l,A⟩:=a4c (h.env.tab _ g y);unfold b1x at e;split at e
 ·rename_i c;simp only[and_eq_true]at c;have G:0<m:=by simpa[Nat.blt_eq]using c.2
  split at e
  ·rename_i k q F;obtain⟨i,b,v,C,j⟩:=h.one F;refine h.pure1 e (u := .slice (some ⟨b,q,none⟩) m m) ⟨b,m,⟨i,b,v,C,rfl⟩,le_refl _,rfl⟩ (w':=w) ?_ (a0t.refl w);refine a1t (s:=Instr.sliceAt t (a.eval x) none none none) (by simp[execOp,B]) ?_;rw[j];have p:¬m=0:=by omega
   simp[Instr.sliceAt,run_underlying hd,Instr.sureAddr,Instr.sliceBounds,a1g l,a2T,p]
  ·cases e
 ·cases e
theorem d2y (h:Pre P Γ β K get n w ρ a) {t:TypeId} {ti:TI} {x i:Operand} {s:ByteArray} {k:IntKind} {j:Int} {out:Out} (y:o.op = .index t x i) (B:Γ.tab t=some ti) (A:ti.sort = .string)
 (C:ρ x = .val (.one (.str s))) (v:ρ i = .val (.one (.int k j))) (m:a0z n (decide (0<=j)&&decide (j<(s.size:Int))) (.one (.int .u8 (a0p s j)))=some out) (f:out.ok=true) :
 a0m P o a w (a0U β K get n w out):=by
 obtain⟨F,d,z,D,hd,E,_,_,_,_,g,_⟩:=(h.env.tab t ti B).ex;simp only[a1M,A]at g;subst g;have p:=m;simp only[a0z,injEq]at p;subst p;simp only[and_eq_true,decide_eq_true_eq]at f;have q:a.eval x = .string s:=h.one C;have r:a.eval i = .int k j:=h.one v;refine h.pure1 m (u := .int .u8 (a0p s j)) rfl (w':=w) ?_ (a0t.refl w);refine a1t (s:=Instr.index t (a.eval x) (a.eval i)) (by simp[execOp,y]) ?_;have e:j.toNat<s.size:=by omega
 have c:s[j.toNat]?=some s[j.toNat]:=ByteArray.getElem?_lt' s _ e;have b:s.data.toList.getD j.toNat 0=s[j.toNat]:=by
  have:j.toNat<s.data.toList.length:=by simpa using e
  simp[List.getD,List.getElem?_eq_getElem this];rfl
 rw[q,r];have l:s.data[j.toNat]?.getD 0=s[j.toNat]:=by simpa[List.getD]using b
 simp[Instr.index,asIntOf,run_underlying hd,f.1,c,a0p,l]
theorem e1P (h:Pre P Γ β K get n w ρ a) {e:UnOp} {t:TypeId} {x:Operand} {c c':C} {out:Out} (r:o.op = .unOp e t x) (y:ρ x = .val (.one c)) (d:unC e c=some c')
 (f:a0z n true (.one c')=some out):a0m P o a w (a0U β K get n w out):=by
 have g:=h.one y;have exec:∀u,(Op.unary e (a.eval x)).run P w = .ok u w->(execOp a.eval o).run P w = .ok (.value u) w:=fun u v=>
  a1t (s:=Op.unary e (a.eval x)) (by simp[execOp,r]) v
 cases c with
 | int k m =>
   cases e<;>simp only[unC,injEq,reduceCtorEq]at d
   subst d;refine h.pure1 f (u := .int k (k.wrap (0-m))) rfl (exec _ ?_) (a0t.refl w);rw[show a.eval x = .int k m from g];simp[Op.unary,Op.intArith]
 | flt k b =>
   cases e<;>simp only[unC,injEq,reduceCtorEq]at d
   subst d;obtain⟨b',i,j⟩:=g;refine h.pure1 f (u := .float k (a3H k b')) ⟨_,rfl,a7k j⟩ (exec _ ?_) (a0t.refl w);rw[i];simp[Op.unary,Op.negFloat,a3H]
 | cpx k p q =>
   cases e<;>simp only[unC,injEq,reduceCtorEq]at d
   subst d;obtain⟨z,A,i,j,l⟩:=g;refine h.pure1 f (u := .complex k (a3H k z) (a3H k A)) ⟨_,_,rfl,a7k j,a7k l⟩ (exec _ ?_) (a0t.refl w);rw[i];simp[Op.unary,Op.negFloat,a3H]
 | bool b =>
   cases e<;>simp only[unC,injEq,reduceCtorEq]at d
   subst d;refine h.pure1 f (u := .bool (!b)) rfl (exec _ ?_) (a0t.refl w);rw[show a.eval x = .bool b from g];simp[Op.unary]
 |_=>simp[unC]at d
theorem c2e (h:Pre P Γ β K get n w ρ a) {x:Operand} {i:Nat} {ws:List W} {u:W} {out:Out} (g:o.op = .extract x i) (l:ρ x = .tup ws) (k:ws[i]?=some u)
 (f:a0z n true u=some out):a0m P o a w (a0U β K get n w out):=by
 have b:=h.val x;rw[l]at b;obtain⟨arr,e,d⟩:=b;obtain⟨v,b,j⟩:=d.get? k;have c:arr[i]?=some v:=by simpa using b
 refine h.pure1 f j (w':=w) ?_ (a0t.refl w);refine a1t (s:=Instr.extract (a.eval x) i) (by simp[execOp,g]) ?_;rw[e];simp[Instr.extract,c]
end
section
variable {P:Program} {Γ:Env} {β:Bt} {K:Ks} {get:Get} {n:Nat} {w:World} {ρ:Operand->V} {a:Act} {o:Oper}
theorem d2z (t:TypeId) {b:BinOp} {k:IntKind} {x y:Int} {ok:Bool} {c:C} (h:f8Y b k x y=some (ok,c)) (a:ok=true) (e:b ≠ .shl /\ b ≠ .shr) (β:Bt) (K:Ks) :
 ∃v,(binOp b t (.int k x) (.int k y)).run P w = .ok v w /\ CR β K c v:=by
 cases b<;>simp only[f8Y,injEq,Prod.mk.injEq,reduceCtorEq]at h
 case quo=>
  obtain⟨rfl,rfl⟩:=h;have d:y≠0:=by simpa using a
  exact⟨_,by simp[binOp,Op.intDiv,d],rfl⟩
 case rem=>
  obtain⟨rfl,rfl⟩:=h;have d:y≠0:=by simpa using a
  exact⟨_,by simp[binOp,Op.intDiv,d],rfl⟩
 all_goals
  obtain⟨rfl,rfl⟩:=h;refine⟨_,?_,rfl⟩;simp[binOp,Op.intArith,Op.intBits,Op.intCmp,a2c]
theorem b3e (t:TypeId) {k k':IntKind} {x y:Int} (a:0<=y) :
 (binOp .shl t (.int k x) (.int k' y)).run P w = .ok (.int k (k.wrap (x*2^(min y.toNat k.bits)))) w /\
 (binOp .shr t (.int k x) (.int k' y)).run P w = .ok (.int k (x.fdiv (2^(min y.toNat k.bits)))) w:=by
 have:¬y<0:=by omega
 constructor<;>simp[binOp,Op.shift,this]
theorem d2A (t:TypeId) {g:BinOp} {k:FloatKind} {x i y y':Nat} {c:C} (h:f8Z g k x y=some c) (e:FEq k x i) (f:FEq k y y') (β:Bt) (K:Ks) :
 ∃v w',(binOp g t (.float k i) (.float k y')).run P w = .ok v w' /\ a0t w w' /\ CR β K c v:=by
 have j:=a3o e f;cases g<;>simp only[f8Z,injEq,reduceCtorEq]at h
 case add=>
  subst h;obtain⟨r,w',a,b,d⟩:=a4a P .add (by simp) k e f w;exact⟨_,w',by simpa[binOp]using a,b,_,rfl,d⟩
 case sub=>
  subst h;obtain⟨r,w',a,b,d⟩:=a4a P .sub (by simp) k e f w;exact⟨_,w',by simpa[binOp]using a,b,_,rfl,d⟩
 case mul=>
  subst h;obtain⟨r,w',a,b,d⟩:=a4a P .mul (by simp) k e f w;exact⟨_,w',by simpa[binOp]using a,b,_,rfl,d⟩
 case quo=>
  subst h;obtain⟨r,w',a,b,d⟩:=a4a P .quo (by simp) k e f w;exact⟨_,w',by simpa[binOp]using a,b,_,rfl,d⟩
 all_goals
  subst h;refine⟨_,w,?_,a0t.refl w,rfl⟩;simp[binOp,Op.floatCmp,feq,flt,fgt,j,bne]
theorem a4A (P:Program) (a:BinOp) (b:a = .add∨a = .sub) (k:FloatKind) {x c y y':Nat} (g:FEq k x c) (h:FEq k y y') (w:World) :
 ∃r w',(Op.Complex.arith a k c y').run P w = .ok r w' /\ a0t w w' /\ FEq k (a0a a k x y) r:=by
 obtain⟨r,w',d,e,f⟩:=a4a P a (by rcases b with rfl|rfl<;>simp) k g h w;exact⟨r,w',by simp[Op.Complex.arith,d],e,f⟩
theorem d2B (t:TypeId) {B:BinOp} {k:FloatKind} {p e q f r g s i:Nat} {c:C} (h:f9a B k p q r s=some c) (o:FEq k p e) (u:FEq k q f) (z:FEq k r g) (A:FEq k s i) (β:Bt) (K:Ks) :
 ∃v w',(binOp B t (.complex k e f) (.complex k g i)).run P w = .ok v w' /\ a0t w w' /\ CR β K c v:=by
 have D:=a3o o z;have d:=a3o u A;cases B<;>simp only[f9a,injEq,reduceCtorEq]at h
 case add=>
  subst h;obtain⟨x,w1,j,a,l⟩:=a4A P .add (by simp) k o z w;obtain⟨y,w2,m,b,n⟩:=a4A P .add (by simp) k u A w1;exact⟨.complex k x y,w2,by simp[binOp,Op.complexOp,j,m],⟨b.heap.trans a.heap,b.os.trans a.os,b.tape.trans a.tape,b.output.trans a.output⟩,_,_,rfl,l,n⟩
 case sub=>
  subst h;obtain⟨x,w1,j,a,l⟩:=a4A P .sub (by simp) k o z w;obtain⟨y,w2,m,b,n⟩:=a4A P .sub (by simp) k u A w1;exact⟨.complex k x y,w2,by simp[binOp,Op.complexOp,j,m],⟨b.heap.trans a.heap,b.os.trans a.os,b.tape.trans a.tape,b.output.trans a.output⟩,_,_,rfl,l,n⟩
 case eql=>
  subst h;exact⟨_,w,run_eql_complex (P:=P) w t k e f g i,a0t.refl w,by rw[D,d];rfl⟩
 case neq=>
  subst h;exact⟨_,w,run_neq_complex (P:=P) w t k e f g i,a0t.refl w,by rw[D,d];rfl⟩
theorem d2C (t:TypeId) {b:BinOp} {x y:ByteArray} {ok:Bool} {c:C} (h:f9b b x y=some (ok,c)) (a:ok=true) (β:Bt) (K:Ks) :
 ∃v,(binOp b t (.string x) (.string y)).run P w = .ok v w /\ CR β K c v:=by
 cases b<;>simp only[f9b,injEq,Prod.mk.injEq,reduceCtorEq]at h
 case add=>
  obtain⟨rfl,rfl⟩:=h;have d:x.size+y.size<=9223372036854775807:=by simpa using a
  exact⟨_,by simpa[binOp]using run_string_add_sum (P:=P) w x y d,rfl⟩
 all_goals
  obtain⟨rfl,rfl⟩:=h;refine⟨_,?_,rfl⟩;simp[binOp,Op.stringOp,a0G]
theorem a5X (a:BinOp) (t:TypeId) (x y:Operand) {u v:Value} (c:u.oneCell'=true) (b:u ≠ .nilIface):(eqGuard a t x y u v).run P w = .ok () w:=by
 cases a<;>cases u<;>simp_all[eqGuard,Value.oneCell']
theorem e1Q (h:Pre P Γ β K get n w ρ a) {b:BinOp} {t D:TypeId} {ti:TI} {x y:Operand} {p q:Bool} {e:C} {out:Out} (l:o.op = .binOp b t x y D)
 (A:ρ x = .val (.one (.bool p))) (B:ρ y = .val (.one (.bool q))) (z:Γ.tab t=some ti) (r:ti.sort = .bool) (f:f9c b p q=some e) (g:a0z n true (.one e)=some out):a0m P o a w (a0U β K get n w out):=by
 obtain⟨_,d,_,_,hd,_,_,_,_,_,c,_⟩:=(h.env.tab t ti z).ex;simp only[a1M,r]at c;subst c;have j:a.eval x = .bool p:=h.one A;have k:a.eval y = .bool q:=h.one B;have exec:∀v,(binOp b t (.bool p) (.bool q)).run P w = .ok v w->(execOp a.eval o).run P w = .ok (.value v) w:=by
  intro v m;refine a1t (s:=do eqGuard b t x y (a.eval x) (a.eval y);binOp b t (a.eval x) (a.eval y)) (by simp[execOp,l]) ?_;rw[j,k,Sem.run_bind,a5X b t x y rfl (by simp),Result.andThen_ok,m]
 have i:=run_equalIn_bool' (P:=P) w 9999 t p q hd;cases b<;>simp only[f9c,injEq,reduceCtorEq]at f
 ·subst f;exact h.pure1 g (u := .bool (p==q)) rfl (exec _ (by simp[binOp,Op.equal,Op.maxDepth,i])) (a0t.refl w)
 ·subst f;exact h.pure1 g (u := .bool (!(p==q))) rfl (exec _ (by simp[binOp,Op.equal,Op.maxDepth,i])) (a0t.refl w)
theorem d2D (h:Pre P Γ β K get n w ρ a) {z:BinOp} {t X:TypeId} {x y:Operand} {c d e:C} {ok:Bool} {out:Out} (S:o.op = .binOp z t x y X)
 (T:ρ x = .val (.one c)) (U:ρ y = .val (.one d)) (b:c4b z c d=some (ok,e)) (u:a0z n ok (.one e)=some out) (i:out.ok=true):a0m P o a w (a0U β K get n w out):=by
 have M:=u;simp only[a0z,injEq]at M;subst M;dsimp only at i;have B:=h.one T;have A:=h.one U;have exec:∀v w',(a.eval x).oneCell'=true->a.eval x ≠ .nilIface->(binOp z t (a.eval x) (a.eval y)).run P w = .ok v w'->(execOp a.eval o).run P w = .ok (.value v) w':=by
  intro v w' O Q j;refine a1t (s:=do eqGuard z t x y (a.eval x) (a.eval y);binOp z t (a.eval x) (a.eval y)) (by simp[execOp,S]) ?_;rw[Sem.run_bind,a5X z t x y O Q,Result.andThen_ok,j]
 cases c with
 | int k p =>
   cases d with
   | int k' q =>
     rw[show a.eval x = .int k p from B,show a.eval y = .int k' q from A]at exec;simp only[c4b]at b;split at b
     ·simp only[injEq,Prod.mk.injEq]at b;obtain⟨rfl,rfl⟩:=b;have D:0<=q:=by simpa using i
      exact h.pure1 u rfl (exec _ _ rfl (by simp) (b3e t D).1) (a0t.refl w)
     ·simp only[injEq,Prod.mk.injEq]at b;obtain⟨rfl,rfl⟩:=b;have D:0<=q:=by simpa using i
      exact h.pure1 u rfl (exec _ _ rfl (by simp) (b3e t D).2) (a0t.refl w)
     ·rename_i I J;split at b
      ·rename_i g;have g:k=k':=by simpa[a2C]using g
       subst g;obtain⟨v,j,f⟩:=d2z (P:=P) (w:=w) t b i ⟨by simpa using I,by simpa using J⟩ β K;exact h.pure1 u f (exec _ _ rfl (by simp) j) (a0t.refl w)
      ·cases b
   |_=>simp[c4b]at b
 | flt k p =>
   cases d with
   | flt k' q =>
     obtain⟨V,F,G⟩:=B;obtain⟨W,l,m⟩:=A;rw[F,l]at exec;simp only[c4b]at b;split at b
     ·rename_i g;have g:k=k':=by simpa[a1d]using g
      subst g;simp only[Option.map_eq_some_iff,Prod.mk.injEq]at b;obtain⟨N,E,rfl,rfl⟩:=b;obtain⟨v,w',j,L,f⟩:=d2A (P:=P) (w:=w) t E G m β K;exact h.pure1 u f (exec _ _ rfl (by simp) j) L
     ·cases b
   |_=>simp[c4b]at b
 | cpx k p q =>
   cases d with
   | cpx k' r s =>
     obtain⟨V,W,F,G,R⟩:=B;obtain⟨Y,Z,l,m,H⟩:=A;rw[F,l]at exec;simp only[c4b]at b;split at b
     ·rename_i g;have g:k=k':=by simpa[a1d]using g
      subst g;simp only[Option.map_eq_some_iff,Prod.mk.injEq]at b;obtain⟨N,E,rfl,rfl⟩:=b;obtain⟨v,w',j,L,f⟩:=d2B (P:=P) (w:=w) t E G R m H β K;exact h.pure1 u f (exec _ _ rfl (by simp) j) L
     ·cases b
   |_=>simp[c4b]at b
 | str p =>
   cases d with
   | str q =>
     rw[show a.eval x = .string p from B,show a.eval y = .string q from A]at exec;simp only[c4b]at b;obtain⟨v,j,f⟩:=d2C (P:=P) (w:=w) t b i β K;exact h.pure1 u f (exec _ _ rfl (by simp) j) (a0t.refl w)
   |_=>simp[c4b]at b
 |_=>cases d<;>simp[c4b]at b
theorem e1R (h:Pre P Γ β K get n w ρ a) {f:BinOp} {t N:TypeId} {x y:Operand} {cs ds:List C} {e:C} {out:Out} (H:o.op = .binOp f t x y N)
 (J:ρ x = .val (.agg cs)) (L:ρ y = .val (.agg ds)) (m:(Γ.eqT t&&e1I Γ t cs)=true) (c:f9d f cs ds=some e) (B:a0z n true (.one e)=some out):a0m P o a w (a0U β K get n w out):=by
 obtain⟨xs,F,q⟩:=h.agg J;obtain⟨ys,k,r⟩:=h.agg L;rw[and_eq_true]at m;have D:=h.env.eq t m.1;have l:∀i,P.info? t=some i->cs.length=i.size /\ ∃z zs,i.zero=some z /\ All2 ZR zs z.cells.toList /\ a8w zs cs=true:=by
  intro i G;have d:=m.2;unfold e1I at d;split at d
  ·rename_i ti p;rw[and_eq_true]at d;obtain⟨O,_,z,g,_,M,I,_,_,A,_⟩:=(h.env.tab t ti p).ex;rw[G]at g;cases g;exact⟨by rw[a0g d.1,I],z,ti.zero,M,A,d.2⟩
  ·cases d
 have exec:∀v,(binOp f t (.agg xs) (.agg ys)).run P w = .ok v w->(execOp a.eval o).run P w = .ok (.value v) w:=by
  intro v j;refine a1t (s:=do eqGuard f t x y (a.eval x) (a.eval y);binOp f t (a.eval x) (a.eval y)) (by simp[execOp,H]) ?_;rw[F,k,Sem.run_bind,run_eqGuard_agg (P:=P) w f t x y xs ys D.guard,Result.andThen_ok,j]
 unfold f9d at c;split at c
 ·rename_i b E;have j:=D.eq cs ds xs ys b β K w l E q r;split at c
  ·cases c;exact h.pure1 B (u := .bool b) rfl (exec _ (by rw[run_eql_struct,j];rfl)) (a0t.refl w)
  ·cases c;exact h.pure1 B (u := .bool (!b)) rfl (exec _ (by rw[run_neq_struct,j];rfl)) (a0t.refl w)
  ·cases c
 ·cases c
theorem c2f (h:Pre P Γ β K get n w ρ a) {l dst:TypeId} {I D:TI} {x:Operand} {c c':C} {ok:Bool} {out:Out} (N:o.op = .convert l dst x) (Q:Γ.tab l=some I) (hd:Γ.tab dst=some D)
 (R:ρ x = .val (.one c)) (e:b5X D.sort c=some (ok,c')) (t:a0z n ok (.one c')=some out) (i:out.ok=true):a0m P o a w (a0U β K get n w out):=by
 obtain⟨_,T,_,_,f,_⟩:=(h.env.tab l I Q).ex;obtain⟨_,U,_,_,g,_,_,_,_,_,d,_⟩:=(h.env.tab dst D hd).ex;have H:=t;simp only[a0z,injEq]at H;subst H;dsimp only at i;have B:=h.one R;have exec:∀v w',(convert l dst (a.eval x)).run P w = .ok v w'->(execOp a.eval o).run P w = .ok (.value v) w':=fun v w' O=>
  a1t (s:=convert l dst (a.eval x)) (by simp[execOp,N]) O
 cases c with
 | int k m =>
   rw[show a.eval x = .int k m from B]at exec;simp only[b5X]at e;split at e
   ·rename_i k' j;simp only[a1M,j]at d;subst d;cases e;refine h.pure1 t (u := .int k' (k'.wrap m)) rfl (exec _ w ?_) (a0t.refl w);simp[convert,run_underlying f,run_underlying g,Conv.intToInt]
   ·rename_i k' j;simp only[a1M,j]at d;subst d;cases e;refine h.pure1 t (u := .float k' (k'.nearest m)) ⟨_,rfl,.inl rfl⟩ (exec _ w ?_) (a0t.refl w);simp[convert,run_underlying f,run_underlying g,Conv.intToFloat]
   ·cases e
 | flt s b =>
   obtain⟨b',G,A⟩:=B;rw[G]at exec;simp only[b5X]at e;split at e
   ·rename_i k' j;simp only[a1M,j]at d;subst d;cases e;refine h.pure1 t (u := .int k' (f2i s b)) rfl (exec _ w ?_) (a0t.refl w);simp[convert,run_underlying f,run_underlying g,a8G P s k' A i w]
   ·rename_i k' j;simp only[a1M,j]at d;subst d;cases e;obtain⟨r,w',E,y,F⟩:=a2q P s k' A i w;refine h.pure1 t (u := .float k' r) ⟨_,rfl,F⟩ (exec _ w' ?_) y;simp[convert,run_underlying f,run_underlying g,E]
   ·cases e
 | cpx s p q =>
   obtain⟨V,W,G,A,M⟩:=B;rw[G]at exec;simp only[b5X]at e;split at e
   ·rename_i k' j;simp only[a1M,j]at d;subst d;cases e;simp only[and_eq_true]at i;obtain⟨r,w1,E,y,F⟩:=a2q P s k' A i.1 w;obtain⟨S,w2,J,z,L⟩:=a2q P s k' M i.2 w1;refine h.pure1 t (u := .complex k' r S) ⟨_,_,rfl,F,L⟩ (exec _ w2 ?_) ⟨z.heap.trans y.heap,z.os.trans y.os,z.tape.trans y.tape,z.output.trans y.output⟩;simp[convert,run_underlying f,run_underlying g,Conv.complexToComplex,E,J]
   ·cases e
 | str s =>
   rw[show a.eval x = .string s from B]at exec;simp only[b5X]at e;split at e
   ·rename_i j;simp only[a1M,j]at d;subst d;cases e;refine h.pure1 t (u := .string s) rfl (exec _ w ?_) (a0t.refl w);simp[convert,run_underlying f,run_underlying g]
   ·cases e
 |_=>simp[b5X]at e
theorem a5N (h:Pre P Γ β K get n w ρ a) {b:Option Operand} {d r:Int} (e:a0I (b.map ρ) d=some r):(b=none /\ r=d)∨∃x k,b=some x /\ a.eval x = .int k r:=by
 cases b with
 |none=>simp[a0I]at e;exact .inl ⟨rfl,e.symm⟩
 | some x =>
   right;simp only[Option.map_some]at e;cases hx:ρ x with
   |tup ws=>rw[hx]at e;simp[a0I]at e
   | val u =>
     rw[hx]at e;cases u with
     |agg cs=>simp[a0I]at e
     | one c =>
       cases c<;>simp only[a0I,injEq,reduceCtorEq]at e
       subst e;exact⟨x,_,rfl,h.one hx⟩
theorem a7l (h:Pre P Γ β K get n w ρ a) (b:Bool) {len c:Nat} {i g:Option Operand} {l r:Int} (f:a0I (i.map ρ) 0=some l) (d:a0I (g.map ρ) len=some r)
 (m:0<=l) (o:l<=r) (p:r<=len) (q:len<=c):(Instr.sliceBounds b len c (i.map a.eval) (g.map a.eval) none).run P w = .ok (l.toNat,r.toNat,c) w:=by
 rcases a5N h f with⟨rfl,rfl⟩|⟨x,k,rfl,hx⟩<;>rcases a5N h d with⟨rfl,rfl⟩|⟨y,k',rfl,hy⟩
 ·simp[Instr.sliceBounds]
 ·have e:=run_sliceBound (P:=P) w k' r c (if b=true then BoundsCode.sliceAcap else BoundsCode.sliceAlen) (by omega) (by omega);simp[Instr.sliceBounds,hy,e]
 ·have e:=run_sliceBound (P:=P) w k l len BoundsCode.sliceB (by omega) (by omega);simp[Instr.sliceBounds,hx,e]
 ·have e:=run_sliceBound (P:=P) w k' r c (if b=true then BoundsCode.sliceAcap else BoundsCode.sliceAlen) (by omega) (by omega);have j:=run_sliceBound (P:=P) w k l r.toNat BoundsCode.sliceB (by omega) (by omega);simp[Instr.sliceBounds,hx,hy,e,j]
theorem b6f (h:Pre P Γ β K get n w ρ a) {t:TypeId} {ti:TI} {x:Operand} {i f:Option Operand} {s:ByteArray} {l r:Int} {out:Out} (p:o.op = .slice t x i f none) (v:Γ.tab t=some ti) (q:ti.sort = .string)
 (y:ρ x = .val (.one (.str s))) (g:a0I (i.map ρ) 0=some l) (e:a0I (f.map ρ) s.size=some r)
 (j:a0z n (decide (0<=l)&&decide (l<=r)&&decide (r<=(s.size:Int))) (.one (.str (s.extract l.toNat r.toNat)))=some out) (b:out.ok=true):a0m P o a w (a0U β K get n w out):=by
 obtain⟨_,d,_,_,hd,_,_,_,_,_,c,_⟩:=(h.env.tab t ti v).ex;simp only[a1M,q]at c;subst c;have k:=j;simp only[a0z,injEq]at k;subst k;simp only[and_eq_true,decide_eq_true_eq]at b;have m:=a7l h false g e b.1.1 b.1.2 b.2 (le_refl _);refine h.pure1 j (u := .string (s.extract l.toNat r.toNat)) rfl (w':=w) ?_ (a0t.refl w);refine a1t (s:=Instr.sliceAt t (a.eval x) (i.map a.eval) (f.map a.eval) none) (by simp[execOp,p]) ?_;rw[show a.eval x = .string s from h.one y];simp[Instr.sliceAt,Instr.slice,run_underlying hd,m]
theorem c2g (h:Pre P Γ β K get n w ρ a) {t:TypeId} {ti y:TI} {x:Operand} {H k:Option Operand} {ty:Ty} {s:List (Den ty)} {l r:Int} {out:Out} (U:o.op = .slice t x H k none) (W:Γ.tab t=some ti) (V:ti.sort = .slice)
 (S:Γ.tab ti.elem=some y) (G:ty.size=y.size)
 (X:ρ x = .val (.one (.sl ty s))) (E:a0I (H.map ρ) 0=some l) (C:a0I (k.map ρ) s.length=some r)
 (I:a0z n (decide (0<=l)&&decide (l<=r)&&decide (r<=(s.length:Int))) (.one (.sl ty ((s.take r.toNat).drop l.toNat)))=some out) (p:out.ok=true):a0m P o a w (a0U β K get n w out):=by
 obtain⟨_,d,_,_,hd,_,_,_,_,_,v,_⟩:=(h.env.tab t ti W).ex;simp only[a1M,V]at v;subst v;obtain⟨z,A,B⟩:=a4c (h.env.tab _ y S);have J:=I;simp only[a0z,injEq]at J;subst J;simp only[and_eq_true,decide_eq_true_eq]at p;obtain⟨⟨M,N⟩,O⟩:=p;obtain⟨ad,m,c,L,T,F,g⟩:=h.one X;simp only[List.cons.injEq,and_true]at L;subst T;have R:=a7l h true E C M N O F;refine h.pure1 I (u := .slice (if c=l.toNat then ad else ad.map (·.add (l.toNat*z.size))) (r.toNat-l.toNat) (c-l.toNat)) ?_ (w':=w) ?_ (a0t.refl w)
 ·have f:((s.take r.toNat).drop l.toNat).length=r.toNat-l.toNat:=by simp;omega
  refine⟨_,_,_,rfl,f.symm,by omega,?_⟩;by_cases Y:r.toNat-l.toNat=0
  ·exact .inl Y
  ·right;rcases g with Z|⟨b,q,arr,rfl,Q,j⟩
   ·omega
   ·refine⟨b,q+l.toNat*ty.size,arr,?_,Q,fun i k=>?_⟩
    ·rw[if_neg (by omega)];simp[a2T,B,G]
    ·have D:l.toNat+i<s.length:=by rw[f]at k;omega
     have e:((s.take r.toNat).drop l.toNat)[i]=s[l.toNat+i]:=by simp
     rw[e];have:=j (l.toNat+i) D;rw[Nat.add_mul,<- Nat.add_assoc]at this;exact this
 ·refine a1t (s:=Instr.sliceAt t (a.eval x) (H.map a.eval) (k.map a.eval) none) (by simp[execOp,U]) ?_;rw[L];simp[Instr.sliceAt,Instr.slice,run_underlying hd,R,a1g A]
theorem b6g (h:Pre P Γ β K get n w ρ a) {t:TypeId} {ti D:TI} {x:Operand} {N v:Option Operand} {ty:Ty} {k:Nat} {out:Out} (Y:o.op = .slice t x N v none) (ht:Γ.tab t=some ti) (hs:ti.sort = .slice)
 (U:Γ.tab ti.elem=some D) (hx:ρ x = .val (.one (.ref ty k))) (g:a8l get n D.size ty k (a0I (N.map ρ) 0) (a0I (v.map ρ))=some out) (z:out.ok=true):a0m P o a w (a0U β K get n w out):=by
 obtain⟨_,d,_,_,hd,_,_,_,_,_,B,_⟩:=(h.env.tab t ti ht).ex;simp only[a1M,hs]at B;subst B;obtain⟨E,G,H⟩:=a4c (h.env.tab _ D U);unfold a8l at g;split at g
 case h_2=>cases g
 rename_i t' s V;split at g
 case h_2=>cases g
 rename_i e _;subst e;split at g
 case h_2=>cases g
 rename_i f;simp only[and_eq_true,Bool.not_eq_true']at f;obtain⟨f,W⟩:=f;have f:=a0g f;split at g
 case h_2=>cases g
 rename_i l r L I;cases g;simp only[and_eq_true,decide_eq_true_eq]at z;obtain⟨⟨Q,R⟩,S⟩:=z;obtain⟨y,a0,n0,c0,F,hy,O⟩:=h.one hx;have A:=d6v (ks:=[k]) h.mr W V (by simp) F;rw[hy]at A;obtain⟨ad,m,c,C,X,M,p⟩:=A;simp only[List.cons.injEq,and_true]at C;rw[C]at O;subst X;have F:=a7l h true L I Q R S M;have Z:(execOp a.eval o).run P w = .ok (.value (.slice (if c=l.toNat then ad else ad.map (·.add (l.toNat*E.size))) (r.toNat-l.toNat) (c-l.toNat))) w:=by
  refine a1t (s:=Instr.sliceAt t (a.eval x) (N.map a.eval) (v.map a.eval) none) (by simp[execOp,Y]) ?_;rw[O];simp[Instr.sliceAt,Instr.slice,run_underlying hd,F,a1g G]
 refine a0m.value Z (a8z.give h (ks:=[k]) ?_);have j:((s.take r.toNat).drop l.toNat).length=r.toNat-l.toNat:=by simp;omega
 refine⟨_,_,_,rfl,j.symm,by omega,?_⟩;by_cases hz:r.toNat-l.toNat=0
 ·exact .inl hz
 ·right;rcases p with hz'|⟨b,q,arr,rfl,T,u⟩
  ·omega
  ·refine⟨b,q+l.toNat*t'.size,arr,?_,T,fun i v=>?_⟩
   ·rw[if_neg (by omega)];simp[a2T,H,f]
   ·have J:l.toNat+i<s.length:=by rw[j]at v;omega
    have e:((s.take r.toNat).drop l.toNat)[i]=s[l.toNat+i]:=by simp
    have:=u (l.toNat+i) J;rw[Nat.add_mul,<- Nat.add_assoc]at this;exact e ▸ this
theorem b6h (h:Pre P Γ β K get n w ρ a) {fn:Fn} {f:Nat} {first b:Array Operand} {ks:List Nat} {out:Out} (l:o.op = .makeFunc fn first b) (g:fn = .func f) (q:first.toList=[])
 (i:a1x (fun x=>match ρ x with|.val (.one (.ptr k 0))=>some k|_=>none) b.toList=some ks) (j:a0z n true (.one (.fn f ks))=some out):a0m P o a w (a0U β K get n w out):=by
 subst g;have c:first=#[]:=by cases first;simp_all
 subst c;refine h.pure1 j (u := .func (.func f) #[] (b.map a.eval)) ?_ (w':=w) ?_ (a0t.refl w)
 ·refine⟨b.toList.map a.eval,by cases b;simp,?_⟩;have:All2 (fun(x:Operand) (v:Value)=>v=a.eval x) b.toList (b.toList.map a.eval):=by
   induction b.toList with
   |nil=>trivial
   |cons x r p=>exact⟨rfl,p⟩
  refine a1h i this fun x k v t d m=>?_
  subst m;split at d
  ·rename_i k' e;cases d;exact h.one e
  ·cases d
 ·refine a1t (s:=Instr.makeFunc (.func f) (Array.map a.eval #[]) (Array.map a.eval b)) (by simp[execOp,l]) ?_;simp[Instr.makeFunc]
end
theorem b8t {α:Type}:∀(l r:List (Nat×α)) (k:Nat),a1D (l++r) k=match a1D l k with|some b=>some b|none=>a1D r k
 |[],r,k=>by simp[a1D]
 | (j,x)::l,r,k=>by
   simp only[List.cons_append,a1D];split
   ·rfl
   ·exact b8t l r k
theorem b1D (z:Array Value) (m:Nat) {i:Nat} (h:i<m):(madeCells z m).toList[i]?=some z[i%z.size]!:=by
 simp[madeCells,h]
theorem a6u (z:Array Value) (m i:Nat) (h:i<m):sub (madeCells z (m*z.size)).toList (i*z.size) z.size=z.toList:=by
 apply List.ext_getElem?;intro j;unfold sub;rw[List.getElem?_take];split
 ·rename_i a;rw[List.getElem?_drop];have b:i*z.size+j<m*z.size:=by
   have:i*z.size+z.size<=m*z.size:=by rw[<- Nat.succ_mul];exact Nat.mul_le_mul_right _ h
   omega
  rw[b1D z _ b,Nat.mul_comm i,Nat.mul_add_mod,Nat.mod_eq_of_lt a];simp[a]
 ·rename_i a;have:z.toList.length<=j:=by simp;omega
  rw[List.getElem?_eq_none this]
section
variable {P:Program} {Γ:Env} {β:Bt} {K:Ks} {get:Get} {n:Nat} {w:World} {ρ:Operand->V} {a:Act} {o:Oper}
theorem b3f (h:Pre P Γ β K get n w ρ a) {t:TypeId} {ti b:TI} {B A:Operand} {M L:IntKind} {l c:Int} (ho:o.op = .makeSlice t B A) (ht:Γ.tab t=some ti) (hs:ti.sort = .slice)
 (he:Γ.tab ti.elem=some b) (X:b.bytes<=128) (j:b.ty.size=b.size) (R:0<b.size) (hl:ρ B = .val (.one (.int M l))) (Y:ρ A = .val (.one (.int L c)))
 (Q:0<=l) (h1:l<=a3L) (S:l=c) :
 a0m P o a w (a0U β K get n w ⟨true,.val (.one (.ref b.ty n)),[(n,some (.arr b.ty (List.replicate l.toNat (zero b.ty))))],n+1⟩):=by
 obtain⟨_,d,_,_,hd,_,_,_,_,_,u,_⟩:=(h.env.tab t ti ht).ex;simp only[a1M,hs]at u;subst u;subst S;obtain⟨q,d',z,I,Z,hz,p,V,U,_,_,G,E⟩:=(h.env.tab _ b he).ex;have N:a.eval B = .int M l:=h.one hl;have O:a.eval A = .int L l:=h.one Y;have H:a3L=1099511627776:=rfl;have hlm:l<=9223372036854775807:=by omega
 have J:IntKind.i64.wrap l=l:=
  by exact IntWalk.i64_in _ (by omega)
 have W:(q.bytes:Int)*l<=2^48:=by
  have T:(q.bytes:Int)<=128:=by omega
  have h4:(q.bytes:Int)*l<=128*l:=Int.mul_le_mul_of_nonneg_right T Q;omega
 have hr:(Instr.makeSlice t (a.eval B) (a.eval A)).run P w = .ok (.slice (some ⟨w.heap.size,0,none⟩) l.toNat l.toNat) (w.alloc (.cells (madeCells z.cells (l.toNat*q.size)) ti.elem)):=by
  rw[N,O];unfold Instr.makeSlice;have r:¬(l<0):=by omega
  have hn2:¬((q.bytes:Int)*l>2^48):=by omega
  have m:¬((281474976710656:Int)<(q.bytes:Int)*l):=by omega
  simp only[Sem.run_bind,run_underlying hd,Result.andThen_ok];by_cases v:l.toNat*q.size=0
  ·simp[asInt,asIntOf,typeInfo,I,J,r,m,sizeOf,v,newRow,madeCells];simp[Array.range]
  ·simp[asInt,asIntOf,typeInfo,I,J,r,m,sizeOf,v,newRow,madeCells,zeroValue,hz]
 refine a0m.value (a1t (s:=Instr.makeSlice t (a.eval B) (a.eval A)) (by simp[execOp,ho]) hr) ?_;refine a8z.alloc (gone:=[]) (h:=⟨.slice (some ⟨w.heap.size,0,none⟩) l.toNat l.toNat,some w.heap.size⟩) h.kok h.mr h.fresh (a0t.refl w) (KLe.refl K) h.kok ?_ rfl ?_ ?_
 ·intro k c x y e _ f g;exact h.mr.ro k c y x e f g
 ·refine .inr ⟨w.heap.size,l.toNat,_,ti.elem,by simp,a1J w _,by simp,?_,?_,?_⟩
  ·simp only[maxLen];omega
  ·rw[size_madeCells,j,p]
  ·intro i C;have D:i<l.toNat:=by simpa using C
   rw[List.getElem_replicate];have F:z.cells.size=b.ty.size:=by rw[E,p,j]
   rw[p,<- j,<- F,a6u _ _ _ D];exact G j K
 ·exact⟨_,_,_,_,a0D ..,rfl,rfl⟩
theorem a7m (off:Nat):∀(vs:List Value) (k:Nat) (a:Array Value),off+k+vs.length<=a.size ->
 ((vs.zipIdx k).foldl (fun(cs:Array Value) (x:Value×Nat)=>cs.setIfInBounds (off+x.2) x.1) a).toList=a.toList.take (off+k)++vs++a.toList.drop (off+k+vs.length)
 |[],k,a,_=>by simp
 | v::vs,k,a,h=>by
   simp only[List.zipIdx_cons,List.foldl_cons];rw[a7m off vs (k+1) (a.setIfInBounds (off+k) v) (by simp at h ⊢;omega)];have:=list_seg_step a.toList (off+k) v vs (by simp at h ⊢;omega);simpa[Array.toList_setIfInBounds,Nat.add_assoc]using this
theorem c4v {c:List (Nat×Nat×Bool)} {o:Nat->Option (Nat×Nat)} (g:∀(i:Nat) off size h,c[i]?=some (off,size,h)->o i=some (off,size)) :
 ∀ {ps:List (Nat×W)} {vs:List (Nat×Value)} {cs d:List C} {arr:Array Value},c1X c cs ps=some d->All2 (fun(p:Nat×W) (q:Nat×Value)=>p.1=q.1 /\ All2 (CR β K) p.2.cells q.2.cells.toList) ps vs ->
   All2 (CR β K) cs arr.toList->∃a,Instr.fill o arr vs=some a /\ All2 (CR β K) d a.toList
 |[],[],cs,d,arr,hf,_,hc=>by simp only[c1X,injEq]at hf;subst hf;exact⟨arr,rfl,hc⟩
 | (i,u)::ps,(j,v)::vs,cs,d,arr,hf,hv,hc=>by
   obtain⟨⟨f,e⟩,y⟩:=hv;dsimp only at f e;subst f;simp only[c1X]at hf;split at hf
   ·rename_i off size h w;split at hf
    ·rename_i b;simp only[and_eq_true]at b;have t:=a0g b.1;have z:off+size<=cs.length:=by simpa using b.2
     have n:=e.length;have l:=hc.length;simp only[Array.length_toList]at n l;have m:v.cells.size=size:=by rw[<- t];exact n.symm
     have k:=a7m off v.cells.toList 0 arr (by simp;omega);obtain⟨a,r,s⟩:=c4v g (arr:=(v.cells.toList.zipIdx 0).foldl (fun(cs:Array Value) (x:Value×Nat)=>cs.setIfInBounds (off+x.2) x.1) arr) hf y (by
      rw[k,Nat.add_zero];exact a5c hc e off)
     refine⟨a,?_,s⟩;simp only[Instr.fill,g i off size h w];rw[if_neg (by simp[m];omega)];rw[<- r];congr 1;rw[<- Array.foldl_toList];congr 1;simp
    ·cases hf
   ·cases hf
 |[],_::_,_,_,_,_,hv,_=>hv.elim
 |_::_,[],_,_,_,_,hv,_=>hv.elim
theorem b8u {α a:Type} (f:α->Go.Sem a) (g:α->a):∀(l:List α),(∀x∈l,(f x).run P w = .ok (g x) w)->(l.mapM f).run P w = .ok (l.map g) w
 |[],_=>by simp
 | x::r,h=>by
   have b:=h x (List.mem_cons_self ..);have c:=b8u f g r fun y d=>h y (List.mem_cons_of_mem _ d)
   simp[b,c]
theorem c2h {c:Array Field} {l:List (Nat×Nat×Bool)} (h:b8n P c l) :
 (Array.mapM (fun(f:Field)=>do let s <- Go.sizeOf f.type;pure (f.offset,s)) c).run P w = .ok (l.map fun x=>(x.1,x.2.1)).toArray w:=by
 rw[Array.mapM_eq_mapM_toList];have e:=b8u (P:=P) (w:=w) (fun(f:Field)=>do let s <- Go.sizeOf f.type;pure (f.offset,s)) (fun f=>(f.offset,((P.info? f.type).map (·.size)).getD 0)) c.toList (by
  intro f k;obtain⟨i,m,j⟩:=List.mem_iff_getElem.1 k;obtain⟨x,q,_,b,fd,a,d,_⟩:=h.get? (List.getElem?_eq_getElem m);rw[j]at a;simp[a1g a,a])
 have n:∀(fl:List Field) (l:List (Nat×Nat×Bool)),All2 (fun(f:Field) (x:Nat×Nat×Bool)=>f.offset=x.1 /\ ∃b fd,P.info? f.type=some b /\ b.size=x.2.1 /\ P.underlying f.type=some fd /\ d2p fd=x.2.2) fl l ->
  fl.map (fun f=>(f.offset,((P.info? f.type).map (·.size)).getD 0))=l.map fun x=>(x.1,x.2.1):=by
  intro fl
  induction fl with
  | nil=>intro l h;cases l with
    |nil=>rfl
    |cons _ _=>exact h.elim
  | cons f fl p=>intro l h;cases l with
    |nil=>exact h.elim
    | cons x l =>
      obtain⟨⟨g,b,fd,a,d,_⟩,o⟩:=h;simp[a,d,g,p l o]
 rw[n _ _ h]at e;rw[Sem.run_map,e];rfl
theorem b8v (h:Pre P Γ β K get n w ρ a) {b:List (Nat×Operand)} {ps:List (Nat×W)} (d:a1x (fun p=>match ρ p.2 with|.val w=>some (p.1,w)|.tup _=>none) b=some ps) :
 All2 (fun(p:Nat×W) (q:Nat×Value)=>p.1=q.1 /\ WR β K p.2 q.2) ps (b.map fun x=>(x.1,a.eval x.2)):=by
 have:All2 (fun(x:Nat×Operand) (q:Nat×Value)=>q=(x.1,a.eval x.2)) b (b.map fun x=>(x.1,a.eval x.2)):=by
  clear d
  induction b with
  |nil=>trivial
  |cons x r g=>exact⟨rfl,g⟩
 refine a1h d this fun x p q i c e=>?_
 subst e;split at c
 ·rename_i u f;cases c;have:=h.val x.2;rw[f]at this;exact⟨rfl,this⟩
 ·cases c
theorem b6i (h:Pre P Γ β K get n w ρ a) {t:TypeId} {ti:TI} {m:Nat} {b:Array (Nat×Operand)} {out:Out} (v:o.op = .build t b) (A:Γ.tab t=some ti) (y:ti.sort = .array m) {j:TI} (l:Γ.tab ti.elem=some j) (x:b.toList=[])
 (r:AM.a0z n true (.agg ti.zero)=some out):a0m P o a w (a0U β K get n w out):=by
 obtain⟨i,d,z,q,hd,B,_,_,_,g,c,_⟩:=(h.env.tab t ti A).ex;simp only[a1M,y]at c;subst c;have f:b=#[]:=by cases b;simpa using x
 subst f;refine h.pure1 r (u := .agg z.cells) ⟨_,rfl,g.mono fun _ _ hh=>hh _ _⟩ (w':=w) ?_ (a0t.refl w);refine a1t (s:=Instr.build t #[]) (by simp[execOp,v]) ?_;unfold Instr.build;obtain⟨k,e,p⟩:=a4c (h.env.tab _ _ l);simp[run_underlying hd,zeroValue,typeInfo,q,B,a1g e,Instr.fill]
theorem d2E (h:Pre P Γ β K get n w ρ a) {t:TypeId} {ti:TI} {b:Array (Nat×Operand)} {ps:List (Nat×W)} {cs:List C} {out:Out} (H:o.op = .build t b) (L:Γ.tab t=some ti) (J:ti.sort = .struct)
 (I:a1x (fun p=>match ρ p.2 with|.val w=>some (p.1,w)|.tup _=>none) b.toList=some ps) (e:ps.all (fun p=>p.2.cells.all c1Z)=true) (D:c1X ti.fields ti.zero ps=some cs)
 (F:a0z n true (.agg cs)=some out):a0m P o a w (a0U β K get n w out):=by
 obtain⟨i,d,z,E,hd,M,_,_,_,m,f,_⟩:=(h.env.tab t ti L).ex;simp only[a1M,J]at f;obtain⟨N,rfl,g⟩:=f;have l:=b8v h I;have j:All2 (fun(p:Nat×W) (q:Nat×Value)=>p.1=q.1 /\ All2 (CR β K) p.2.cells q.2.cells.toList) ps (b.toList.map fun x=>(x.1,a.eval x.2)):=by
  refine All2.mono_mem (fun p q G v=>⟨v.1,WR.cells ?_ v.2⟩) l;exact List.all_eq_true.1 e p G
 have k:∀(i:Nat) off size r,ti.fields[i]?=some (off,size,r)->(fun(x:Nat)=>(ti.fields.map fun x=>(x.1,x.2.1)).toArray[x]?) i=some (off,size):=by
  intro i off size r B;simp[B]
 obtain⟨arr,y,A⟩:=c4v (arr:=z.cells) k D j (m.mono fun _ _ hh=>hh β K);refine h.pure1 F (u := .agg arr) ⟨arr,rfl,A⟩ (w':=w) ?_ (a0t.refl w);have c:(b.map fun(x:Nat×Operand)=>match x with|(i,x)=>(i,a.eval x)).toList=b.toList.map fun x=>(x.1,a.eval x.2):=by simp
 refine a1t (s:=Instr.build t (b.map fun(x:Nat×Operand)=>match x with|(i,x)=>(i,a.eval x))) (by simp[execOp,H]) ?_;unfold Instr.build;simp only[zeroValue,typeInfo,Sem.run_bind,run_program,Result.andThen_ok,E,M,run_underlying hd,c2h g,Sem.run_pure];rw[c,y];rfl
theorem d6w (h:MR β K get w) {ks:List Nat} (t:Ty):∀{ps:List (Nat×W)} {vs:List (Nat×Value)} {l l':List (Den t)} {arr:Array Value} {len:Nat},a2d get t l ps=some l' ->
 All2 (fun(p:Nat×W) (q:Nat×Value)=>p.1=q.1 /\ All2 (CR β K) p.2.cells q.2.cells.toList) ps vs->(∀p∈ps,∀k∈a0R p.2,k∈ks)->l.length=len->arr.size=len*t.size ->
 (∀i (P:i<l.length),DR (a5a β K get w ks) t l[i] (sub arr.toList (i*t.size) t.size)) ->
 ∃a,Instr.fill (fun i=>some (i*t.size,t.size)) arr vs=some a /\ l'.length=len /\ a.size=len*t.size /\ ∀i (P:i<l'.length),DR (a5a β K get w ks) t l'[i] (sub a.toList (i*t.size) t.size)
 |[],[],l,l',arr,len,hf,_,_,hl,ha,hd=>by simp only[a2d,injEq]at hf;subst hf;exact⟨arr,rfl,hl,ha,hd⟩
 | (i, u) :: ps,(j,v)::vs,l,l',arr,len,hf,hv,hk,hl,ha,hd=>by
   obtain⟨⟨e,m⟩,T⟩:=hv;dsimp only at e m;subst e;simp only[a2d]at hf;split at hf
   ·rename_i cs r;split at hf
    ·rename_i x U;split at hf
     ·rename_i f;have f:i<l.length:=by simpa[Nat.blt_eq]using f
      have B:All2 (CR β (a5a β K get w ks)) cs v.cells.toList:=
       a1h r m fun E F Y Q s C=>c4r h s C fun k y=>hk (i,u) (List.mem_cons_self ..) k (List.mem_flatMap.2 ⟨E,Q,y⟩)
      obtain⟨V,X,G,o,H⟩:=b2Z t U B;have n:v.cells.toList=V:=by
       cases X with
       |nil=>simpa using G
       |cons _ _=>exact H.elim
      rw[<- n]at o;have b:=DR.length t o;have D:v.cells.size=t.size:=by simpa using b
      have c:i*t.size+t.size<=arr.size:=by rw[ha,<- Nat.succ_mul];exact Nat.mul_le_mul_right _ (by omega)
      have d:=a7m (i*t.size) v.cells.toList 0 arr (by rw[b];omega);rw[Nat.add_zero]at d;obtain⟨a,I,J,L,M⟩:=d6w h t (len:=len) (arr:=(v.cells.toList.zipIdx 0).foldl (fun(cs:Array Value) (x:Value×Nat)=>cs.setIfInBounds (i*t.size+x.2) x.1) arr) hf T
       (fun p R=>hk p (List.mem_cons_of_mem _ R)) (by simpa using hl) (by
        rw[<- Array.length_toList,d];simp only[length_append,List.length_take,List.length_drop,Array.length_toList];rw[Array.length_toList]at b;omega) (by
        intro q S;have z:q<l.length:=by simpa using S
        rw[d];by_cases A:q=i
        ·subst A;rw[List.getElem_set_self];have:=a4y arr.toList v.cells.toList (q*t.size) t.size 0 (by simpa using c) (by rw[b];omega);rw[Nat.add_zero]at this;rw[this];have N:(sub arr.toList (q*t.size) t.size).drop (0+v.cells.toList.length)=[]:=by
          rw[List.drop_eq_nil_iff,a3X (by simpa using c),b];omega
         rw[N];simpa using o
        ·rw[List.getElem_set_ne (by omega)];rw[a2U _ _ _ _ _ (by rw[b];simpa using c)]
         ·exact hd q z
         ·rw[b];rcases Nat.lt_or_ge q i with g|O
          ·left;have:q*t.size+t.size<=i*t.size:=by rw[<- Nat.succ_mul];exact Nat.mul_le_mul_right _ g
           omega
          ·right;have:i*t.size+t.size<=q*t.size:=by rw[<- Nat.succ_mul];exact Nat.mul_le_mul_right _ (by omega)
           omega)
      refine⟨a,?_,J,L,M⟩;simp only[Instr.fill];rw[if_neg (by simp[D];omega)];rw[<- I];congr 1;rw[<- Array.foldl_toList];congr 1;simp
     ·cases hf
    ·cases hf
   ·cases hf
 |[],_::_,_,_,_,_,_,hv,_,_,_,_=>hv.elim
 |_::_,[],_,_,_,_,_,hv,_,_,_,_=>hv.elim
theorem b1E (h:Pre P Γ β K get n w ρ a) {t:TypeId} {ti ei:TI} {len:Nat} {parts:Array (Nat×Operand)} {ps:List (Nat×W)} {l:List (Den ei.ty)} (ho:o.op = .buildSlice t len parts) (ht:Γ.tab t=some ti) (hs:ti.sort = .slice)
 (he:Γ.tab ti.elem=some ei) (hp:a1x (fun p=>match ρ p.2 with|.val w=>some (p.1,w)|.tup _=>none) parts.toList=some ps) (hsure:ps.all (fun p=>p.2.cells.all c1Z)=true) (hlen:len*ei.size<=1000000) (hsz:ei.ty.size=ei.size) (h0s:0<ei.size)
 (hf:a2d get ei.ty (List.replicate len (zero ei.ty)) ps=some l) :
 a0m P o a w (a0U β K get n w ⟨true,.val (.one (.ref ei.ty n)),(n,some (.arr ei.ty l))::(ps.flatMap fun p=>a0R p.2).map (fun k=>(k,none)),n+1⟩):=by
 obtain⟨_,d,_,_,hd,_,_,_,_,_,hso,_⟩:=(h.env.tab t ti ht).ex
 simp only[a1M,hs]at hso
 subst hso
 obtain⟨ii,d',z,hi,hd',hz,hs1,hb1,ha1,_,_,hzt,hzc⟩:=(h.env.tab _ ei he).ex
 have hpr:=b8v h hp
 have hpc:All2 (fun(p:Nat×W) (q:Nat×Value)=>p.1=q.1 /\ All2 (CR β K) p.2.cells q.2.cells.toList) ps (parts.toList.map fun x=>(x.1,a.eval x.2)):=by
  refine All2.mono_mem (fun p q hm hq=>⟨hq.1,WR.cells ?_ hq.2⟩) hpr
  exact List.all_eq_true.1 hsure p hm
 have hzs:z.cells.size=ei.ty.size:=by rw[hzc,hs1,hsz]
 have hparts:(parts.map fun(x:Nat×Operand)=>match x with|(i,x)=>(i,a.eval x)).toList=parts.toList.map fun x=>(x.1,a.eval x.2):=by simp
 obtain⟨arr',f1,f2,f3,f4⟩:=d6w (ks:=ps.flatMap fun p=>a0R p.2) h.mr ei.ty (arr:=madeCells z.cells (len*z.cells.size)) (len:=len) hf hpc
  (fun p hp k hk=>List.mem_flatMap.2 ⟨p,hp,hk⟩) (by simp) (by rw[size_madeCells,hzs]) (by
   intro i hi'
   rw[List.getElem_replicate,<- hzs,a6u _ _ _ (by simpa using hi')]
   exact hzt hsz _)
 have hr:(Instr.buildSlice t len (parts.map fun(x:Nat×Operand)=>match x with|(i,x)=>(i,a.eval x))).run P w = .ok (.slice (some ⟨w.heap.size,0,none⟩) len len) (w.alloc (.cells arr' ti.elem)):=by
  unfold Instr.buildSlice
  have hn:¬(2^24<len*ii.size):=by rw[hs1];omega
  have hn':¬(16777216<len*ii.size):=by rw[hs1];omega
  rw[hzs]at f1
  simp only[hsz]at f1
  rw[<- hs1]at f1
  simp only[Sem.run_bind,run_underlying hd,Result.andThen_ok,a1g hi]
  have hlp:∀(zc:Array Value),(Array.map (fun x=>zc[x%zc.size]!) (Array.range (len*ii.size)))=madeCells z.cells (len*ii.size)->(match Instr.fill (fun i=>some (i*ii.size,ii.size)) (Array.map (fun x=>zc[x%zc.size]!) (Array.range (len*ii.size)))
   (parts.map fun(x:Nat×Operand)=>match x with|(i,x)=>(i,a.eval x)).toList with
   | some cells=>do
     let y <- newRow ti.elem cells
     pure (Value.slice (some y) len len)
   |_=>stuck "buildSlice: a part of the wrong size" : Go.Sem Value).run P w = .ok (.slice (some ⟨w.heap.size,0,none⟩) len len) (w.alloc (.cells arr' ti.elem)):=by
   intro zc hzc
   rw[hzc,hparts,f1]
   simp[newRow]
  rw[if_neg (by simpa using hn')]
  by_cases hz0:len*ii.size=0
  ·rw[if_pos hz0]
   simp only[pure_bind]
   exact hlp #[] (by rw[hz0];simp[madeCells])
  ·rw[if_neg hz0]
   simp only[Sem.run_bind,zeroValue,typeInfo,run_program,Result.andThen_ok,hi,hz,Sem.run_pure]
   exact hlp z.cells rfl
 refine a0m.value (a1t (s:=Instr.buildSlice t len (parts.map fun(x:Nat×Operand)=>match x with|(i,x)=>(i,a.eval x))) (by simp[execOp,ho]) hr) ?_
 refine a8z.alloc (h:=⟨.slice (some ⟨w.heap.size,0,none⟩) len len,some w.heap.size⟩) h.kok h.mr h.fresh (a0t.refl w) (a0Q (β:=β) (get:=get) (w:=w) (ks:=ps.flatMap fun p=>a0R p.2)) (a4w h.kok) ?_ rfl ?_ ?_ a4x
 ·intro k c x y e hk f g;exact a1Q h.mr e hk f g
 ·refine .inr ⟨w.heap.size,len,arr',ti.elem,by simp[f2],a1J w _,by omega,?_,f3,f4⟩
  simp only[maxLen]
  have:len*1<=len*ei.size:=Nat.mul_le_mul_left _ (by omega)
  omega
 ·exact⟨_,_,_,_,a0D ..,rfl,rfl⟩
end
section
variable {P:Program} {Γ:Env} {β:Bt} {K:Ks} {get:Get} {n:Nat} {w:World} {ρ:Operand->V} {a:Act} {o:Oper}
structure Src (K:Ks) (w:World) (t:Ty) (l:List (Den t)) (v:Value) (news:List Value):Prop where
 val:∃ad c,v = .slice ad l.length c /\ (l.length=0∨∃x,ad=some x /\ ∀(j:Nat) (u:Value),news[j]?=some u->w.cell? (x.add j)=some u)
 len:news.length=l.length*t.size
 one:∀u∈news,u.oneCell'=true
 el:∀i (h:i<l.length),DR K t l[i] (sub news (i*t.size) t.size)
theorem c4w {t:Ty} {l:List (Den t)} {b q c:Nat} {arr:Array Value} {T:TypeId} {fz:Nat×Nat} (n:0<t.size) (hh:w.heap[b]?=some (.cells arr T fz))
 (hd:∀i (h:i<l.length),DR K t l[i] (sub arr.toList (q+i*t.size) t.size)):Src K w t l (.slice (some ⟨b,q,none⟩) l.length c) (sub arr.toList q (l.length*t.size)):=by
 have f:l.length≠0->q+l.length*t.size<=arr.toList.length:=by
  intro a;have e:l.length-1<l.length:=by omega
  have:=DR.length t (hd (l.length-1) e);simp only[sub,List.length_take,List.length_drop]at this;have s:(l.length-1)*t.size+t.size=l.length*t.size:=by
   rw[<- Nat.succ_mul];congr 1;omega
  omega
 have k:∀i,i<l.length->sub (sub arr.toList q (l.length*t.size)) (i*t.size) t.size=sub arr.toList (q+i*t.size) t.size:=by
  intro i e;refine c4k _ _ _ _ _ ?_;rw[<- Nat.succ_mul];exact Nat.mul_le_mul_right _ e
 refine⟨⟨_,c,rfl,?_⟩,?_,?_,?_⟩
 ·right;refine⟨_,rfl,fun j u d=>?_⟩;rw[a2T,cell_of_row w b _ arr T fz hh];unfold sub at d;rw[List.getElem?_take]at d;split at d
  ·rw[List.getElem?_drop]at d;simpa using d
  ·cases d
 ·by_cases a:l.length=0
  ·simp[a,sub]
  ·exact a3X (f a)
 ·intro u r;obtain⟨j,d,o⟩:=List.mem_iff_getElem.1 r;by_cases a:l.length=0
  ·simp[a,sub]at d
  ·have g:=a3X (f a);rw[g]at d;have e:j/t.size<l.length:=(Nat.div_lt_iff_lt_mul n).2 d;refine DR.oneCell t (hd _ e) u ?_;rw[<- k _ e];have p:j%t.size<t.size:=Nat.mod_lt _ n;refine List.mem_iff_getElem?.2 ⟨j%t.size,?_⟩;have m:j/t.size*t.size+j%t.size=j:=by rw[Nat.mul_comm];exact Nat.div_add_mod j t.size
   show(((sub arr.toList q (l.length*t.size)).drop (j/t.size*t.size)).take t.size)[j%t.size]?=some u;rw[List.getElem?_take,if_pos p,List.getElem?_drop,m];rw[List.getElem?_eq_getElem (by rw[g];exact d),o]
 ·intro i e;rw[k i e];exact hd i e
theorem b6j {t:Ty} {ad:Option Addr} {c:Nat}:Src K w t [] (.slice ad 0 c) []:=
 ⟨⟨ad,c,rfl,.inl rfl⟩,by simp,by simp,fun i h=>by simp at h⟩
theorem b8w (A:KOK K w) (B:MR β K get w) {t:Ty} {c:C} {v:Value} {l:List (Den t)} {H:List Nat} (p:0<t.size) (a:a3R get t c=some (l,H)) (o:CR β K c v) :
 ∃news,Src K w t l v news:=by
 cases c with
 | nil s =>
   simp only[a3R,injEq,Prod.mk.injEq]at a;obtain⟨rfl,rfl⟩:=a;obtain⟨ad,rfl⟩:=o;exact⟨[],b6j⟩
 | sl s l' =>
   simp only[a3R]at a;split at a
   ·rename_i e _;subst e;simp only[injEq,Prod.mk.injEq]at a;obtain⟨rfl,rfl⟩:=a;obtain⟨ad,m,c,d,n,D,E⟩:=o;simp only[List.cons.injEq,and_true]at d;subst n;rcases E with G|⟨b,q,arr,rfl,u,f⟩
    ·have:l'=[]:=List.eq_nil_of_length_eq_zero G;subst this;rw[d];exact⟨[],b6j⟩
    ·obtain⟨cur,T,fz,hh,_,F⟩:=A.see u;rw[d];exact⟨_,c4w p hh fun i j=>F _ _ (f i j)⟩
   ·cases a
 | ref s k =>
   simp only[a3R]at a;split at a
   ·rename_i I l' z;split at a
    ·rename_i e _;subst e;simp only[injEq,Prod.mk.injEq]at a;obtain⟨rfl,rfl⟩:=a;obtain⟨y,ad,m,c,x,r,rfl⟩:=o;obtain⟨y',g,h⟩:=B.blk k _ z;rw[x]at g;cases g;rcases h with⟨rfl,a',rfl⟩|⟨b,cap,cur,T,rfl,hh,h1,h2,h3,h4⟩
     ·cases r;exact⟨[],b6j⟩
     ·cases r;exact⟨_,c4w (q:=0) p hh (fun i j=>by rw[Nat.zero_add];exact h4 i j)⟩
    ·cases a
   ·cases a
 |_=>simp[a3R]at a
theorem c2i:∀{l:List Int} {news:List Value},news.length=l.length*(Ty.int .u8).size->(∀i (h:i<l.length),DR K (.int .u8) l[i] (sub news (i*(Ty.int .u8).size) (Ty.int .u8).size))->news=l.map (Value.int .u8):=by
 intro l news d h;have a:news.length=l.length:=by simpa[Ty.size]using d
 refine List.ext_getElem (by simp[a]) fun i b f=>?_
 have:=h i (by omega);simp only[Ty.size,Nat.mul_one]at this;have e:sub news i 1=[news[i]]:=by
  unfold sub;rw[List.drop_eq_getElem_cons b];rfl
 rw[e]at this;have c:[news[i]]=[Value.int .u8 l[i]]:=this;simpa using c
theorem d2F (h:Pre P Γ β K get n w ρ a) {f dst:TypeId} {E q:TI} {x:Operand} {c:C} {s:ByteArray} {out:Out} (M:o.op = .convert f dst x) (N:Γ.tab f=some E) (hd:Γ.tab dst=some q)
 (Q:ρ x = .val (.one c)) (d:c2a Γ get E q c=some s) (J:a0z n true (.one (.str s))=some out):a0m P o a w (a0U β K get n w out):=by
 obtain⟨_,S,_,_,r,_,_,_,_,_,g,_⟩:=(h.env.tab f E N).ex;obtain⟨_,T,_,_,t,_,_,_,_,_,i,_⟩:=(h.env.tab dst q hd).ex;unfold c2a at d;split at d
 ·rename_i A B;simp only[a1M,A]at g;simp only[a1M,B]at i;subst g;subst i;split at d
  ·rename_i G z;obtain⟨_,U,_,_,v,_,_,_,_,_,j,_⟩:=(h.env.tab _ G z).ex;split at d
   ·rename_i k D;simp only[a1M,D]at j;subst j;split at d
    ·rename_i V;have I:k = .u8:=by cases k<;>simp_all[c4e]
     subst I;split at d
     ·rename_i l ks H;cases d;have O:=h.one Q;obtain⟨news,e⟩:=b8w h.kok h.mr (by decide) H O;obtain⟨ad,F,p,b⟩:=e.val;have L:=c2i e.len e.el;refine h.pure1 J (u := .string (a7H l)) rfl (a1t (s:=convert f dst (a.eval x)) (by simp[execOp,M]) ?_) (a0t.refl w);rw[p,run_convert_bytes_string w f dst _ ad _ _ r v t];rcases b with R|⟨y,rfl,b⟩
      ·have:l=[]:=List.eq_nil_of_length_eq_zero R;subst this;cases ad with
       |none=>rfl
       |some y=>exact run_bytesToString w y 0 F [] (by simp[loadCells,loadCellsFrom])
      ·have m:=run_loadCells_list (P:=P) w y news b;refine run_bytesToString w y l.length F l ?_;rw[L]at m;simpa using m
     ·cases d
    ·cases d
   ·cases d
  ·cases d
 ·cases d
theorem a6v {b:Builtin} {c:Call} (g:o.op = .call c) (f:c.callee = .builtin b) {s:TypeId->Array Value->Go.Sem Value} {v:Value} {w':World}
 (e:∀ty d args,builtin b c.argTypes ty d args=(do let x <- s ty args;pure (Next.value x))) (h:(s o.type (c.args.map a.eval)).run P w = .ok v w'):(execOp a.eval o).run P w = .ok (.value v) w':=by
 simp[execOp,g,resolve,f,invoke,e,h]
theorem a8z.alloc0 {β:Bt} {K:Ks} {get:Get} {n:Nat} {w w1:World} {b:Blk} {ok:Bool} {h:Hd} {v:V} {gone:List Nat}
 (j:KOK K w) (l:MR β K get w) (i:∀k,n<=k->β k=none) (s:a0t w w1) (hh:h.b=none)
 (p:BR (a9X β n h) K b h w1) (q:VR (a9X β n h) K v h.v) :
 a0U β K get n w ⟨ok,v,(n,some b)::gone.map (fun k=>(k,none)),n+1⟩ h.v w1:=by
 have m:β n=none:=i n (le_refl _);refine⟨a9X β n h,K,BLe.add h m,KLe.refl K,j.still s,q,?_,?_,by simp,Fr.still s,?_,fun _ _ e => .inl e,fun k j=>a1f _ _ (by omega)⟩
 ·refine l.step (BLe.add h m) (KLe.refl K) ?_;intro k c e;rcases a0E e with⟨rfl,e1⟩|⟨e1,e2⟩
  ·cases e1;exact .inr ⟨h,a0D ..,p,fun x o=>by rw[hh]at o;cases o⟩
  ·obtain⟨r,d⟩:=a1s e2;exact .inl ⟨d,fun x y f g=>⟨by rw[s.heap],l.ro k c y x d f g⟩⟩
 ·intro k a;rw[a1f _ _ (by simp at a;omega)];exact i k (by simp at a;omega)
 ·rintro x ⟨k,c,y,e,f,g⟩;rcases a0E e with⟨rfl,e1⟩|⟨e1,e2⟩
  ·rw[a0D]at f;cases f;rw[hh]at g;cases g
  ·obtain⟨_,d⟩:=a1s e2;rw[a1f _ _ e1]at f;exact .inl ⟨k,c,y,d,f,g⟩
theorem a8z.moved {β:Bt} {K:Ks} {get:Get} {n:Nat} {w:World} {i b:Blk} {ok:Bool} {h y:Hd} {v:V} {k g:Nat} {cur:Array Value}
 (t:KOK K w) (q:MR β K get w) (B:∀k,n<=k->β k=none) (m:get k=some i) (s:β k=some y) (a:y.b=some g) (hh:h.b=some g)
 (D:BR (a9X β n h) K b h (w.setRow g cur)) (E:VR (a9X β n h) K v h.v) :
 a0U β K get n w ⟨ok,v,[(n,some b),(k,none)],n+1⟩ h.v (w.setRow g cur):=by
 have C:β n=none:=B n (le_refl _);have p:K g=none:=q.ro k i y g m s a;refine⟨a9X β n h,K,BLe.add h C,KLe.refl K,⟨?_,t.gk⟩,E,?_,?_,by simp,⟨rfl,rfl,rfl,by simp,?_⟩,?_,fun _ _ e => .inl e,fun k t=>a1f _ _ (by omega)⟩
 ·intro x arr e;have r:x≠g:=fun l=>by subst l;rw[p]at e;cases e
  rw[setRow_other w g x cur r];exact t.ato x arr e
 ·refine q.step (BLe.add h C) (KLe.refl K) ?_;intro j c e;rcases a0E e with⟨rfl,e1⟩|⟨e1,e2⟩
  ·cases e1;refine .inr ⟨h,a0D ..,D,fun x r=>?_⟩;rw[hh]at r;cases r;refine⟨p,fun k' b' y' l A d=>?_⟩;rcases a0E l with⟨rfl,_⟩|⟨e3,e4⟩
   ·rfl
   ·rcases b1B e4 with⟨_,e5⟩|⟨e5,e6⟩
    ·cases e5
    ·rw[a1f _ _ e3]at A;exact absurd (q.sep k' k b' i y' y g e6 m A s d a) e5
  ·rcases b1B e2 with⟨_,e5⟩|⟨e5,e6⟩
   ·cases e5
   ·refine .inl ⟨e6,fun x z f d=>⟨setRow_other w g x cur fun l=>?_,q.ro j c z x e6 f d⟩⟩;subst l;exact e5 (q.sep j k c i z y x e6 m f s d a)
 ·intro j o;rw[a1f _ _ (by simp at o;omega)];exact B j (by simp at o;omega)
 ·intro x r u;exact setRow_other w g x cur fun e=>u (.inl ⟨k,i,y,m,s,by rw[a,e]⟩)
 ·rintro x ⟨j,c,z,e,f,d⟩;rcases a0E e with⟨rfl,e1⟩|⟨e1,e2⟩
  ·rw[a0D]at f;cases f;rw[hh]at d;cases d;exact .inl ⟨k,i,y,m,s,a⟩
  ·rcases b1B e2 with⟨_,e5⟩|⟨e5,e6⟩
   ·cases e5
   ·rw[a1f _ _ e1]at f;exact .inl ⟨j,c,z,e6,f,d⟩
theorem a5d (x y:List Value) (o m:Nat) (h:o+m<=x.length):sub (x++y) o m=sub x o m:=by
 unfold sub;rw[List.drop_append_of_le_length (by omega),List.take_append_of_le_length (by simp;omega)]
theorem a7Y (x y:List Value) (o m:Nat):sub (x++y) (x.length+o) m=sub y o m:=by
 unfold sub;have e:x.drop (x.length+o)=[]:=List.drop_eq_nil_of_le (by omega);rw[List.drop_append,e];simp
theorem b3g {t:Ty} {l l':List (Den t)} {xs ys:List Value} (d:xs.length=l.length*t.size) (h:∀i (b:i<l.length),DR K t l[i] (sub xs (i*t.size) t.size))
 (h':∀i (b:i<l'.length),DR K t l'[i] (sub ys (i*t.size) t.size)) (a:List Value) (g:ys.length=l'.length*t.size) :
 ∀i (b:i<(l++l').length),DR K t (l++l')[i] (sub (xs++ys++a) (i*t.size) t.size):=by
 intro i b;have f:i*t.size+t.size<=(xs++ys).length:=by
  rw[length_append,d,g,<- Nat.add_mul,<- Nat.succ_mul];exact Nat.mul_le_mul_right _ (by have:=b;simp at this;omega)
 rw[a5d _ _ _ _ f];by_cases c:i<l.length
 ·rw[List.getElem_append_left c,a5d]
  ·exact h i c
  ·rw[d,<- Nat.succ_mul];exact Nat.mul_le_mul_right _ c
 ·rw[List.getElem_append_right (by omega)];have e:i*t.size=xs.length+(i-l.length)*t.size:=by
   rw[d,<- Nat.add_mul];congr 1;omega
  rw[e,a7Y];exact h' _ _
theorem a7Z (t ty e:TypeId) (i:TypeInfo) (q:P.underlying t=some (.slice e)) (o:P.info? e=some i)
 (g sLen sCap:Nat) (cur:Array Value) (T:TypeId) (n:w.heap[g]?=some (.cells cur T (0,0)))
 (ad:Option Addr) (m c:Nat) (news:List Value) (h:news.length=m*i.size) (a:m=0∨∃x,ad=some x /\ ∀(j:Nat) (u:Value),news[j]?=some u->w.cell? (x.add j)=some u) (k:∀u∈news,u.oneCell'=true)
 (b:sLen+m<=sCap) (d:sLen*i.size+news.length<=cur.size) :
 (Builtin.append_ #[t,t] ty #[.slice (some ⟨g,0,none⟩) sLen sCap,.slice ad m c]).run P w =
  .ok (.slice (some ⟨g,0,none⟩) (sLen+m) sCap) (w.setRow g (cur.toList.take (sLen*i.size)++news++cur.toList.drop (sLen*i.size+news.length)).toArray):=by
 have l:(Builtin.firstCells i.size m (.slice ad m c)).run P w = .ok news.toArray w:=by
  rcases a with rfl|⟨x,rfl,p⟩
  ·have:news=[]:=List.eq_nil_of_length_eq_zero (by simpa using h);subst this;cases ad with
   |none=>simp[Builtin.firstCells]
   |some x=>simp[Builtin.firstCells,loadCells,loadCellsFrom]
  ·exact run_firstCells_some (P:=P) w i.size m x m c news h p
 have f:=run_storeCells_at P g (sLen*i.size) T news 0 cur w n (by simpa using d) k;simp only[Nat.add_zero]at f;simp[Builtin.append_,run_underlying q,sizeOf,typeInfo,o,Builtin.lenOf,b,l,a2T,f]
theorem a8I (t ty e:TypeId) (i:TypeInfo) (d:P.underlying t=some (.slice e)) (b:P.info? e=some i) (s ad:Option Addr) (c:Nat) :
 (Builtin.append_ #[t,t] ty #[.slice s 0 0,.slice ad 0 c]).run P w = .ok (.slice s 0 0) w:=by
 have a:(Builtin.firstCells i.size 0 (.slice ad 0 c)).run P w = .ok #[] w:=by
  cases ad with
  |none=>simp[Builtin.firstCells]
  |some x=>simp[Builtin.firstCells,loadCells,loadCellsFrom]
 cases s with
 |none=>simp[Builtin.append_,run_underlying d,sizeOf,typeInfo,b,Builtin.lenOf,a]
 |some x=>simp[Builtin.append_,run_underlying d,sizeOf,typeInfo,b,Builtin.lenOf,a,storeCells]
theorem c4x (h:Pre P Γ β K get n w ρ a) {H e:TypeId} {b:TI} {D:TypeInfo} {z:Value} (W:P.underlying H=some (.slice e)) (U:P.info? e=some D) (X:D.zero=some z) (A:D.size=b.size) (hb1:D.bytes=b.bytes)
 (R:z.cells.size=D.size) (hby:b.bytes<=128) (C:b.ty.size=b.size) (h0s:0<b.size) (ty:TypeId)
 {s:Option Addr} {sLen sCap:Nat} {l l':List (Den b.ty)} {olds news:List Value} (r:olds.length=l.length*b.ty.size) (B:sLen=l.length)
 (d:sLen=0∨∃x,s=some x /\ ∀(j:Nat) (u:Value),olds[j]?=some u->w.cell? (x.add j)=some u) (N:∀i (h:i<l.length),DR K b.ty l[i] (sub olds (i*b.ty.size) b.ty.size))
 {v:Value} (t:Src K w b.ty l' v news) (p:sCap<sLen+l'.length) (T:(l.length:Int)+(l'.length:Int)<=a3L) {gone:List Nat} {ok:Bool} (E:∀u w',(Builtin.append_ #[H,H] ty #[.slice s sLen sCap,v]).run P w = .ok u w'->(execOp a.eval o).run P w = .ok (.value u) w')
 (F:s=none->sCap=0) (hle:sLen<=sCap) :
 a0m P o a w (a0U β K get n w ⟨ok,.val (.one (.ref b.ty n)),(n,some (.arr b.ty (l++l')))::gone.map (fun k=>(k,none)),n+1⟩):=by
 have hc0:a3L=1099511627776:=rfl;obtain⟨ad,c,rfl,M⟩:=t.val;have I:=t.len;by_cases L:l'.length=0
 ·
  omega
 ·obtain⟨x,rfl,q⟩:=M.resolve_left L;have m:(sLen+l'.length)*D.bytes<=140737488355328:=by
   have h1:(sLen+l'.length)*D.bytes<=(sLen+l'.length)*128:=Nat.mul_le_mul_left _ (by omega);have h2:sLen+l'.length<=1099511627776:=by omega
   omega
  have J:∀G,grownCap w (sLen+l'.length) G e<=maxLen:=fun G=>grownCap_le_maxLen w _ G e (by simp only[maxLen];omega)
  have hr:(Builtin.append_ #[H,H] ty #[.slice s sLen sCap,.slice (some x) l'.length c]).run P w = .ok (.slice (some ⟨w.heap.size,0,none⟩) (sLen+l'.length) (grownCap w (sLen+l'.length) sCap e))
   (w.drew.alloc (.cells (olds.toArray++news.toArray++Builtin.zeroCells z.cells (grownCap w (sLen+l'.length) sCap e-(sLen+l'.length))) e)):=by
   cases s with
   | none =>
     have Y:sCap=0:=F rfl;subst Y;have S:sLen=0:=by rcases d with d|⟨x,hx,_⟩;exact d;cases hx
     have Z:olds=[]:=List.eq_nil_of_length_eq_zero (by rw[r,<- B,S];simp);subst Z;subst S;have:=run_append_nil (P:=P) w H ty e D z W U X x l'.length c news (by rw[I,C,A]) q (by omega) (by omega) (by rw[Nat.zero_add]at m;omega);simpa using this
   | some y =>
     refine run_append_grow (P:=P) w H ty e D z W U X y sLen sCap olds (by rw[r,B,C,A]) ?_ x l'.length c news (by rw[I,C,A]) q p (by omega) (growslice_fits p m);intro j u V;rcases d with h0|⟨y',Q,d⟩
     ·have:olds=[]:=List.eq_nil_of_length_eq_zero (by rw[r,<- B,h0];simp);subst this;simp at V
     ·cases Q;exact d j u V
  refine a0m.value (E _ _ hr) ?_;have O:a0t w w.drew:=⟨rfl,rfl,rfl,rfl⟩;refine a8z.alloc (h:=⟨.slice (some ⟨w.heap.size,0,none⟩) (sLen+l'.length) (grownCap w (sLen+l'.length) sCap e),some w.heap.size⟩) h.kok h.mr h.fresh O (KLe.refl K) h.kok ?_ rfl ?_ ?_
  ·intro k c x y e _ f g;exact h.mr.ro k c y x e f g
  ·have hge:=grownCap_ge w (sLen+l'.length) sCap e;refine .inr ⟨w.heap.size,grownCap w (sLen+l'.length) sCap e,_,e,by simp[B],a1J w.drew _,by simp;omega,J _,?_,?_⟩
   ·simp only[Array.size_append,List.size_toArray,size_zeroCells,R,r,I,A,C,<- Nat.add_mul];congr 1;omega
   ·simp only[Array.toList_append];exact b3g r N t.el _ I
  ·exact⟨_,_,_,_,a0D ..,rfl,rfl⟩
set_option maxHeartbeats 1000000 in
theorem c4y (h:Pre P Γ β K get n w ρ a) {c:Call} {I:TypeId} {R p:TI} {xs xx:Operand} {s x:C} {out:Out} (ho:o.op = .call c) (hc:c.callee = .builtin .append) (hts:c.argTypes=#[I,I]) (J:c.args=#[xs,xx])
 (ht:Γ.tab I=some R) (N:R.sort = .slice) (he:Γ.tab R.elem=some p) (D:p.ty.size=p.size) (S:0<p.size) (hs:ρ xs = .val (.one s)) (hx:ρ xx = .val (.one x))
 (r:a2H get n p.ty p.bytes s x=some out) (Y:out.ok=true):a0m P o a w (a0U β K get n w out):=by
 obtain⟨_,d,_,_,hd,_,_,_,_,_,Z,_⟩:=(h.env.tab I R ht).ex;simp only[a1M,N]at Z;subst Z;obtain⟨ii,d',z,G,hd',hz,B,V,ha1,_,_,hzt,hzc⟩:=(h.env.tab _ p he).ex;have h0:0<p.ty.size:=by omega
 have exec:∀u w',(Builtin.append_ #[I,I] o.type #[a.eval xs,a.eval xx]).run P w = .ok u w'->(execOp a.eval o).run P w = .ok (.value u) w':=by
  intro u w' A;refine a6v (b := .append) (s:=fun ty args=>Builtin.append_ c.argTypes ty args) ho hc (fun ty consts args=>rfl) ?_;rw[hts,J];simpa using A
 unfold a2H at r;split at r
 ·cases r
 rename_i E;have E:p.bytes<=128:=by simpa using E
 split at r
 ·cases r
 rename_i g kx hel;obtain⟨news,f⟩:=b8w h.kok h.mr h0 hel (h.one hx);have hsv:=h.one hs;have bare:∀(H:Option Addr) (gone:List Nat) (ok:Bool),a.eval xs = .slice H 0 0->(g.length:Int)<=a3L ->
  a0m P o a w (a0U β K get n w ⟨ok,.val (.one (.ref p.ty n)),(n,some (.arr p.ty g))::gone.map (fun k=>(k,none)),n+1⟩):=by
  intro H gone ok F v;by_cases L:g.length=0
  ·obtain⟨ad,c',O,_⟩:=f.val;have A:=a8I (P:=P) (w:=w) I o.type R.elem ii hd G H ad c';rw[<- L,<- O,L,<- F]at A;refine a0m.value (exec _ _ A) ?_;have e:g=[]:=List.eq_nil_of_length_eq_zero L;subst e;rw[F];exact a8z.alloc0 (h:=⟨.slice H 0 0,none⟩) h.kok h.mr h.fresh (a0t.refl w) rfl (.inl ⟨rfl,H,rfl⟩) ⟨_,_,_,_,a0D ..,rfl,rfl⟩
  ·have:=c4x (l:=[]) (l':=g) (olds:=[]) (news:=news) (s:=H) (sLen:=0) (sCap:=0) (gone:=gone) (ok:=ok) h hd G hz B V hzc E D S o.type (by simp) rfl (.inl rfl) (fun i G=>by simp at G) f (by omega) (by simpa using v)
    (fun u w' A=>exec u w' (by rw[F];exact A)) (fun _=>rfl) (le_refl _)
   simpa using this
 split at r
 ·cases r;obtain⟨H,F⟩:=hsv;exact bare H [] _ F (b1y Y)
 ·rename_i ty Q;split at r
  ·rename_i t' l hg;split at r
   ·rename_i e _;subst e;split at r
    ·cases r
    ·rename_i hkx;cases r;have v:(l.length:Int)+(g.length:Int)<=a3L:=by have:=b1y Y;simpa using this
     obtain⟨y,ad,m,c',hb,hy,F⟩:=hsv;obtain⟨y',U,hbr⟩:=h.mr.blk Q _ hg;rw[hb]at U;cases U;rcases hbr with⟨hl0,a',rfl⟩|⟨b,cap,cur,T,rfl,hh,h1,h2,h3,h4⟩
     ·cases hy;have X:l=[]:=hl0;subst X;have:=bare _ [Q] (a0k (([]:List (Den p.ty)).length+g.length)) F (by simpa using v);exact this
     ·cases hy;have j:=c4w (K:=K) (w:=w) (q:=0) (c:=c') h0 hh (l:=l) (fun i G=>by rw[Nat.zero_add];exact h4 i G);by_cases t:l.length+g.length<=c'
      ·obtain⟨ad',c'',O,hnv⟩:=f.val;have M:=f.len;have W:l.length*ii.size+news.length<=cur.size:=by
        rw[M,h3,B,D,<- Nat.add_mul];exact Nat.mul_le_mul_right _ t
       have A:=a7Z (P:=P) (w:=w) I o.type R.elem ii hd G b l.length c' cur T hh ad' g.length c'' news (by rw[M,D,B]) hnv f.one t W;rw[<- O,<- F]at A;refine a0m.value (exec _ _ A) ?_;refine a8z.moved (h:=⟨.slice (some ⟨b,0,none⟩) (l.length+g.length) c',some b⟩) h.kok h.mr h.fresh hg hb rfl rfl ?_ ⟨_,_,_,_,a0D ..,rfl,rfl⟩;refine .inr ⟨b,c',_,T,by simp,setRow_heap w b cur _ T _ hh,by simpa using t,h2,?_,?_⟩
       ·simp only[List.size_toArray,length_append,List.length_take,List.length_drop,Array.length_toList];omega
       ·rw[List.toList_toArray,B,<- D];have e1:cur.toList.take (l.length*p.ty.size)=sub cur.toList 0 (l.length*p.ty.size):=by simp[sub]
        rw[e1];exact b3g j.len j.el f.el _ M
      ·exact c4x (l:=l) (l':=g) (olds:=sub cur.toList 0 (l.length*p.ty.size)) (news:=news) (s:=some ⟨b,0,none⟩) (sLen:=l.length) (sCap:=c') (gone:=[Q]) h hd G hz B V hzc E D S o.type j.len rfl
        (by
         obtain⟨ad2,c2,e2,h5⟩:=j.val;rcases h5 with h5|⟨x,hx1,hx2⟩
         ·exact .inl h5
         ·cases e2;exact .inr ⟨x,hx1,hx2⟩) j.el f (by omega) v
        (fun u w' A=>exec u w' (by rw[F];exact A)) (fun hn=>by cases hn) h1
   ·cases r
  ·cases r
 ·cases r
theorem e8g (h:Pre P Γ β K get n w ρ a) {c:Call} {t:TypeId} {ti:TI} {x:Operand} {F:C} {out:Out} (M:o.op = .call c) (I:c.callee = .builtin .len) (Q:c.argTypes.toList=[t]) (B:c.args.toList=[x]) (O:Γ.tab t=some ti) (R:ρ x = .val (.one F))
 (j:a7G get n ti.sort F=some out):a0m P o a w (a0U β K get n w out):=by
 obtain⟨_,d,_,_,hd,_,_,_,_,_,f,_⟩:=(h.env.tab t ti O).ex;have v:c.argTypes=#[t]:=by cases hq:c.argTypes;simp_all
 have k:c.args=#[x]:=by cases hq:c.args;simp_all
 have A:=h.one R;have exec:∀u,(Builtin.len_ #[t] o.type #[a.eval x]).run P w = .ok u w->(execOp a.eval o).run P w = .ok (.value u) w:=by
  intro u N;refine a6v (b := .len) (s:=fun ty args=>Builtin.len_ c.argTypes ty args) M I (fun ty z args=>rfl) ?_;rw[v,k];simpa using N
 have i:∀(ad:Option Addr) (m q:Nat) (e:TypeId),d = .slice e->a.eval x = .slice ad m q->(execOp a.eval o).run P w = .ok (.value (.int .i64 m)) w:=by
  intro ad m q e E g;subst E;refine exec _ ?_;rw[g];simp[Builtin.len_,run_underlying hd,goInt]
 unfold a7G at j;split at j
 ·rename_i p;simp only[a1M,p]at f;obtain⟨ad,g⟩:=A;exact h.pure1 j (u := .int .i64 0) rfl (i ad 0 0 _ f g) (a0t.refl w)
 ·rename_i p;simp only[a1M,p]at f;obtain⟨ad,m,q,g,L,_⟩:=A;simp only[List.cons.injEq,and_true]at g;subst L;exact h.pure1 j rfl (i ad _ q _ f g) (a0t.refl w)
 ·rename_i p;simp only[a1M,p]at f;split at j
  ·rename_i l J;obtain⟨y,ad,m,q,H,G,g⟩:=A;obtain⟨y',r,D⟩:=h.mr.blk _ _ J;rw[H]at r;cases r;rcases D with⟨rfl,a',rfl⟩|⟨b,cap,cur,T,rfl,_⟩
   ·cases G;exact h.pure1 j rfl (i _ 0 0 _ f g) (a0t.refl w)
   ·cases G;exact h.pure1 j rfl (i _ _ _ _ f g) (a0t.refl w)
  ·cases j
 ·rename_i p;simp only[a1M,p]at f;subst f;refine h.pure1 j rfl (exec _ ?_) (a0t.refl w);rw[show a.eval x = .string _ from A];simp[Builtin.len_,run_underlying hd,goInt]
 ·cases j
theorem c4z (h:Pre P Γ β K get n w ρ a) {c:Call} {x:Operand} {k:FloatKind} {p q:Nat} {out:Out} (l:o.op = .call c) (g:c.args.toList=[x]) (v:ρ x = .val (.one (.cpx k p q)))
 (f:(c.callee = .builtin .real /\ a0z n true (.one (.flt k p))=some out)∨(c.callee = .builtin .imag /\ a0z n true (.one (.flt k q))=some out)):a0m P o a w (a0U β K get n w out):=by
 have d:c.args=#[x]:=by cases m:c.args;simp_all
 obtain⟨i,j,r,t,m⟩:=h.one v;rcases f with⟨f,hl⟩|⟨f,hl⟩
 ·refine h.pure1 hl (u := .float k i) ⟨_,rfl,t⟩ (w':=w) ?_ (a0t.refl w);refine a6v (b := .real) (s:=fun ty args=>Builtin.real_ c.argTypes ty args) l f (fun ty e args=>rfl) ?_;rw[d,show(#[x].map a.eval)=#[Value.complex k i j]by simp[r]];rfl
 ·refine h.pure1 hl (u := .float k j) ⟨_,rfl,m⟩ (w':=w) ?_ (a0t.refl w);refine a6v (b := .imag) (s:=fun ty args=>Builtin.imag_ c.argTypes ty args) l f (fun ty e args=>rfl) ?_;rw[d,show(#[x].map a.eval)=#[Value.complex k i j]by simp[r]];rfl
theorem c2j (h:Pre P Γ β K get n w ρ a) {c:Call} {x y:Operand} {k:FloatKind} {p q:Nat} {out:Out} (t:o.op = .call c) (f:c.args.toList=[x,y]) (A:ρ x = .val (.one (.flt k p))) (B:ρ y = .val (.one (.flt k q)))
 (m:c.callee = .builtin .complex) (r:a0z n true (.one (.cpx k p q))=some out):a0m P o a w (a0U β K get n w out):=by
 have d:c.args=#[x,y]:=by cases i:c.args;simp_all
 obtain⟨j,z,v⟩:=h.one A;obtain⟨l,g,i⟩:=h.one B;refine h.pure1 r (u := .complex k j l) ⟨_,_,rfl,v,i⟩ (w':=w) ?_ (a0t.refl w);refine a6v (b := .complex) (s:=fun ty args=>Builtin.complex_ c.argTypes ty args) t m (fun ty e args=>rfl) ?_;rw[d,show(#[x,y].map a.eval)=#[Value.float k j,Value.float k l]by simp[z,g]];cases k<;>rfl
theorem b3h (h:Pre P Γ β K get n w ρ a) {c:Call} {x y:Operand} {k:IntKind} {p q:Int} {out:Out} (j:o.op = .call c) (i:c.args.toList=[x,y]) (m:ρ x = .val (.one (.int k p))) (r:ρ y = .val (.one (.int k q)))
 (f:(c.callee = .builtin .max /\ a0z n true (.one (.int k (e1H p q)))=some out)∨(c.callee = .builtin .min /\ a0z n true (.one (.int k (a3a p q)))=some out)):a0m P o a w (a0U β K get n w out):=by
 have d:c.args=#[x,y]:=by cases hq:c.args;simp_all
 have l:a.eval x = .int k p:=h.one m;have g:a.eval y = .int k q:=h.one r;rcases f with⟨f,hl⟩|⟨f,hl⟩
 ·refine h.pure1 hl (u := .int k (e1H p q)) rfl (w':=w) ?_ (a0t.refl w);refine a6v (b := .max) (s:=fun ty args=>Builtin.max_ c.argTypes ty args) j f (fun ty e args=>rfl) ?_;rw[d];simp[l,g,Builtin.max_,Builtin.max2,e1H]
 ·refine h.pure1 hl (u := .int k (a3a p q)) rfl (w':=w) ?_ (a0t.refl w);refine a6v (b := .min) (s:=fun ty args=>Builtin.min_ c.argTypes ty args) j f (fun ty e args=>rfl) ?_;rw[d];simp[l,g,Builtin.min_,Builtin.min2,a3a]
theorem b0r (h:Pre P Γ β K get n w ρ a) {c:Call} {x y:Operand} {k:FloatKind} {p q:Nat} {out:Out} (v:o.op = .call c) (m:c.args.toList=[x,y]) (D:ρ x = .val (.one (.flt k p))) (E:ρ y = .val (.one (.flt k q)))
 (f:(c.callee = .builtin .max /\ a0z n true (.one (.flt k (b2T k p q)))=some out)∨(c.callee = .builtin .min /\ a0z n true (.one (.flt k (f5R k p q)))=some out)):a0m P o a w (a0U β K get n w out):=by
 have d:c.args=#[x,y]:=by cases t:c.args;simp_all
 obtain⟨B,A,z⟩:=h.one D;obtain⟨C,g,t⟩:=h.one E;rcases f with⟨f,hl⟩|⟨f,hl⟩
 ·obtain⟨r,w',i,j,l⟩:=d2q P k z t w;refine h.pure1 hl (u := .float k r) ⟨_,rfl,l⟩ (w':=w') ?_ j;refine a6v (b := .max) (s:=fun ty args=>Builtin.max_ c.argTypes ty args) v f (fun ty e args=>rfl) ?_;rw[d,show(#[x,y].map a.eval)=#[Value.float k B,Value.float k C]by simp[A,g]];simp[Builtin.max_,i]
 ·obtain⟨r,w',i,j,l⟩:=d2r P k z t w;refine h.pure1 hl (u := .float k r) ⟨_,rfl,l⟩ (w':=w') ?_ j;refine a6v (b := .min) (s:=fun ty args=>Builtin.min_ c.argTypes ty args) v f (fun ty e args=>rfl) ?_;rw[d,show(#[x,y].map a.eval)=#[Value.float k B,Value.float k C]by simp[A,g]];simp[Builtin.min_,i]
end
theorem All2.ofMap {α d:Type} {f:α→Option d}:∀{as1:List α} {cs:List d},a1x f as1=some cs→All2 (fun a c=>f a=some c) as1 cs
 |[],cs,h=>by simp only[a1x,injEq]at h;subst h;trivial
 | a::as1,cs,h=>by
   simp only[a1x]at h;split at h
   ·rename_i y e;split at h
    ·rename_i b;cases h;exact⟨e,All2.ofMap b⟩
    ·cases h
   ·cases h
theorem PR.ren {β β':Bt} {c:Nat→Option Nat} (a:∀k k' h,c k=some k'→β k=some h→β' k'=some h) {k k' off:Nat} {v:Value} (g:c k=some k') (h:PR β k off v):PR β' k' off v:=by
 obtain⟨y,b,d,e,f⟩:=h;exact⟨y,b,a _ _ _ g d,e,f⟩
theorem b6k {β β':Bt} {K:Ks} {w:Nat→Option Nat} (e:∀k k' h,w k=some k'→β k=some h→β' k'=some h) {c c':C} {v:Value} (d:c3T w c=some c') (h:CR β K c v):CR β' K c' v:=by
 cases c with
 | ref t k =>
   simp only[c3T,Option.map_eq_some_iff]at d;obtain⟨k',g,rfl⟩:=d;obtain⟨y,a,n,c,l,p⟩:=h;exact⟨y,a,n,c,e _ _ _ g l,p⟩
 | ptr k o =>
   simp only[c3T,Option.map_eq_some_iff]at d;obtain⟨k',g,rfl⟩:=d;exact PR.ren e g h
 | eptr k t i o =>
   simp only[c3T,Option.map_eq_some_iff]at d;obtain⟨k',g,rfl⟩:=d;obtain⟨y,b,n,c,l,p⟩:=h;exact⟨y,b,n,c,e _ _ _ g l,p⟩
 | fn f s =>
   simp only[c3T,Option.map_eq_some_iff]at d;obtain⟨q,g,rfl⟩:=d;obtain⟨cs,l,p⟩:=h;exact⟨cs,l,a1h g p fun k k' u _ r z=>PR.ren e r z⟩
 | aptr k o m j =>
   simp only[c3T,Option.map_eq_some_iff]at d;obtain⟨k',g,rfl⟩:=d;exact⟨h.1,PR.ren e g h.2⟩
 | aeptr k t i o m j =>
   simp only[c3T,Option.map_eq_some_iff]at d;obtain⟨k',g,rfl⟩:=d;obtain⟨x,y,b,n,c,l,p⟩:=h;exact⟨x,y,b,n,c,e _ _ _ g l,p⟩
 | asl t k o m =>
   simp only[c3T,Option.map_eq_some_iff]at d;obtain⟨k',g,rfl⟩:=d;obtain⟨b,c,l,p⟩:=h;exact⟨b,c,PR.ren e g l,p⟩
 |_=>simp only[c3T,injEq]at d;subst d;exact h
theorem a7n {β β':Bt} {K:Ks} {g:Nat→Option Nat} (a:∀k k' h,g k=some k'→β k=some h→β' k'=some h) {c c':W} {v:Value} (b:b8i g c=some c') (h:WR β K c v):WR β' K c' v:=by
 cases c with
 | one c =>
   simp only[b8i,Option.map_eq_some_iff]at b;obtain⟨c',d,rfl⟩:=b;exact b6k a d h
 | agg cs =>
   simp only[b8i,Option.map_eq_some_iff]at b;obtain⟨i,d,rfl⟩:=b;obtain⟨arr,e,h⟩:=h;exact⟨arr,e,a1h d h fun c c' u _ f j=>b6k a f j⟩
theorem e1S {β β':Bt} {K:Ks} {g:Nat→Option Nat} (a:∀k k' h,g k=some k'→β k=some h→β' k'=some h) {c c':V} {v:Value} (b:e6H g c=some c') (h:VR β K c v):VR β' K c' v:=by
 cases c with
 | val c =>
   simp only[e6H,Option.map_eq_some_iff]at b;obtain⟨c',d,rfl⟩:=b;exact a7n a d h
 | tup cs =>
   simp only[e6H,Option.map_eq_some_iff]at b;obtain⟨i,d,rfl⟩:=b;obtain⟨arr,e,h⟩:=h;exact⟨arr,e,a1h d h fun c c' u _ f j=>a7n a f j⟩
theorem a8J {β β':Bt} {K:Ks} {g:Nat→Option Nat} {w:World} (f:∀k k' h,g k=some k'→β k=some h→β' k'=some h) {b b':Blk} {y:Hd} (a:b2S g b=some b') (h:BR β K b y w):BR β' K b' y w:=by
 cases b with
 | box cs =>
   simp only[b2S,Option.map_eq_some_iff]at a;obtain⟨i,j,rfl⟩:=a;obtain⟨x,arr,T,e,hh,h⟩:=h;exact⟨x,arr,T,e,hh,a1h j h fun c c' u _ d m=>b6k f d m⟩
 | arr t l =>
   simp only[b2S,injEq]at a;subst a;exact h
theorem a8o {β β':Bt} {K K':Ks} {f:W→Option W} {rs a:List W} {v:Value} (j:a1x f rs=some a) (h:a7j β K rs v) (i:∀c c' u,c∈rs→f c=some c'→WR β K c u→WR β' K' c' u):VR β' K' (d2m a) v:=by
 have b:=All2.ofMap j;unfold a7j at h;cases rs with
 | nil=>cases a with
   | nil =>
     obtain⟨arr,e,h⟩:=h;refine⟨arr,e,?_⟩;cases hq:arr.toList with
     |nil=>trivial
     |cons _ _=>rw[hq]at h;exact h.elim
   |cons _ _=>exact b.elim
 | cons x r =>
   cases a with
   |nil=>exact b.elim
   | cons m g =>
     cases r with
     | nil=>cases g with
       |nil=>exact i x m v (List.mem_cons_self ..) b.1 h
       |cons _ _=>exact b.2.elim
     | cons y r =>
       cases g with
       |nil=>exact b.2.elim
       | cons y' g =>
         obtain⟨arr,e,h⟩:=h;exact⟨arr,e,a1h j h fun c c' u k d l=>i c c' u k d l⟩
theorem b1F {β β':Bt} {K:Ks} {d:Nat→Option Nat} (b:∀k k' h,d k=some k'→β k=some h→β' k'=some h) {rs a:List W} {v:Value} (f:a1x (b8i d) rs=some a) (h:a7j β K rs v):VR β' K (d2m a) v:=
 a8o f h fun c c' u _ e g=>a7n b e g
theorem c4A {β:Bt} {K K':Ks} {rs:List W} {v:Value} (h:a7j β K rs v) (a:∀c∈rs,∀u,WR β K c u→WR β K' c u):a7j β K' rs v:=by
 unfold a7j at h ⊢;cases rs with
 | nil =>
   obtain⟨arr,e,h⟩:=h;refine⟨arr,e,?_⟩;cases hq:arr.toList with
   |nil=>trivial
   |cons _ _=>rw[hq]at h;exact h.elim
 | cons x r=>cases r with
   |nil=>exact a x (List.mem_cons_self ..) v h
   | cons y r =>
     obtain⟨arr,e,h⟩:=h;exact⟨arr,e,All2.mono_mem (fun c u b d=>a c b u d) h⟩
theorem b6l {β:Bt} {K K':Ks} {c:C} (a:bare c=true) {v:Value} (h:CR β K c v):CR β K' c v:=by
 cases c<;>first|exact h|(simp[bare]at a)
theorem e1T {β:Bt} {K K':Ks} {c:W} (a:c.cells.all bare=true) {v:Value} (h:WR β K c v):WR β K' c v:=by
 cases c with
 |one c=>exact b6l (by simpa[W.cells]using a) h
 | agg cs =>
   obtain⟨arr,e,h⟩:=h;exact⟨arr,e,All2.mono_mem (fun c u b d=>b6l (List.all_eq_true.1 a c b) d) h⟩
theorem e1U {β:Bt} {K K':Ks} {b:Blk} (d:c4d (some b)=true) {y:Hd} {w:World} (h:BR β K b y w):BR β K' b y w:=by
 cases b with
 | box cs =>
   obtain⟨x,arr,T,e,hh,h⟩:=h;exact⟨x,arr,T,e,hh,All2.mono_mem (fun c u m o=>b6l (List.all_eq_true.1 (by simpa[c4d]using d) c m) o) h⟩
 | arr t l =>
   rcases h with h|⟨x,a,cur,T,e,hh,f,g,j,k⟩
   ·exact .inl h
   ·exact .inr ⟨x,a,cur,T,e,hh,f,g,j,fun i n=>DR.flat t (by simpa[c4d]using d) (k i n)⟩
theorem a0m.mono {P:Program} {o:Oper} {a:Act} {w:World} {c b:Value→World→Prop} (h:a0m P o a w c) (f:∀v w',c v w'→b v w'):a0m P o a w b:=fun d Q e=>h d Q fun v w' g=>e v w' (f v w' g)
structure Fam where
 ι:Type
 inh:Nonempty ι
 mean:ι→a6m
 own:Bool
def DoesCall (P:Program) (f:Nat) (vs:Array Value) (w:World) (Q:Ending→World→Prop):Prop:=
 (e1M P f∧Calls P f vs w Q)∨∃v w',(callFunc f vs).run P w = .ok (.value v) w'∧Q (.returned v) w'
theorem DoesCall.mono {P:Program} {f:Nat} {vs:Array Value} {w:World} {Q a:Ending→World→Prop} (h:DoesCall P f vs w Q) (b:∀e w',Q e w'→a e w'):DoesCall P f vs w a:=by
 rcases h with⟨h1,h2⟩|⟨v,w',h1,h2⟩
 ·exact .inl ⟨h1,h2.mono b⟩
 ·exact .inr ⟨v,w',h1,b _ _ h2⟩
structure a2s (P:Program) (f:Nat) (fam:Fam):Prop where
 own:∀z,(fam.mean z).own=fam.own
 mean:∀(args:List W) (ins:List Blk),(∀z,∃rs outs,(fam.mean z).run args ins=some (true,rs,outs)) →
  ∀(β0:Bt) (K0:Ks) (w0:World) (vs:Array Value),KOK K0 w0→MR β0 K0 (a2b ins) w0→(∀k,ins.length ≤ k→β0 k=none)→All2 (WR β0 K0) args vs.toList →
  DoesCall P f vs w0 fun e w'=>∃z rs outs v β K,(fam.mean z).run args ins=some (true,rs,outs)∧e = .returned v∧Ret ins outs rs β0 K0 w0 v w' β K
def h0q (sm:a6m):Fam:=⟨Unit,⟨()⟩,fun _=>sm,sm.own⟩
theorem c4B {P:Program} {f:Nat} {sm:a6m} (k:c4j P f sm) (j:e1M P f):a2s P f (h0q sm):=
 ⟨fun _=>rfl,fun args ins l β0 K0 w0 vs b c d g=>by
  obtain⟨rs,outs,a⟩:=l ();exact .inl ⟨j,(k args ins rs outs a β0 K0 w0 vs b c d g).mono fun e w' ⟨v,β,K,i,h⟩=>⟨(),rs,outs,v,β,K,a,i,h⟩⟩⟩
section
variable {P:Program} {Γ:Env} {β:Bt} {K:Ks} {get:Get} {n:Nat} {w:World} {ρ:Operand→V} {a:Act} {o:Oper}
theorem a0m.call {f:Nat} {vs:Array Value} {b:Value→World→Prop} (j:(execOp a.eval o).run P w = .ok (.enter f vs) w) (d:Calls P f vs w fun e w'=>∃v,e = .returned v∧b v w'):a0m P o a w b:=by
 intro c Q h;simp only[Oper.wp,j,Oper.upon];refine d.mono fun e w' g=>?_
 obtain⟨v,rfl,i⟩:=g;exact h v w' i
theorem b0s (h:Pre P Γ β K get n w ρ a) {c:Call} {f:Operand} {g:Nat} {b:List Nat} {ws:List W} (s:o.op = .call c) (p:c.callee = .value f) (m:ρ f = .val (.one (.fn g b)))
 (y:a5V (c.args.toList.map ρ)=some ws):∃vs:Array Value,(∀r,(callFunc g vs).run P w=r→(execOp a.eval o).run P w=r)∧All2 (WR β K) (ws++b.map fun k => .one (.ptr k 0)) vs.toList:=by
 obtain⟨cs,e,d⟩:=h.one m;refine⟨(c.args.map a.eval)++cs.toArray,?_,?_⟩
 ·intro r t;rw[←t];simp[execOp,s,resolve,p,e,Deferred.ofValue,invoke]
 ·rw [Array.toList_append];refine All2.append ?_ ?_
  ·have q:All2 (fun(x:V) (u:Value)=>VR β K x u) (c.args.toList.map ρ) (c.args.map a.eval).toList:=by
    rw[Array.toList_map];generalize c.args.toList=l
    induction l with
    |nil=>trivial
    |cons x r j=>exact⟨h.val x,j⟩
   refine a1h y q fun x c u _ i v=>?_
   split at i
   ·cases i;exact v
   ·cases i
  ·simp only[];clear m e
   induction b generalizing cs with
   | nil=>cases cs with
     |nil=>trivial
     |cons _ _=>exact d.elim
   | cons k b j=>cases cs with
     |nil=>exact d.elim
     |cons u cs=>exact⟨d.1,j cs d.2⟩
theorem a9Y {g:Nat} {vs:Array Value} (hfn:e1M P g) (w:World):(callFunc g vs).run P w = .ok (.enter g vs) w:=by
 obtain⟨fn,h1,h2,h3⟩:=hfn.body
 have hb:¬fn.body=none:=by intro e;rw[e]at h2;cases h2
 have h3':¬fn.name = "runtime.NumGoroutine" := by simpa using h3
 simp[callFunc,h1,h3',hb]
theorem b0t {g:Nat} {vs:Array Value} {b:Value→World→Prop} (c:∀r,(callFunc g vs).run P w=r→(execOp a.eval o).run P w=r) (d:DoesCall P g vs w fun e w'=>∃v,e = .returned v∧b v w'):a0m P o a w b:=by
 rcases d with⟨h1,h2⟩|⟨v,w',h1,v',h2,h3⟩
 ·exact a0m.call (c _ (a9Y h1 w)) h2
 ·cases h2;exact a0m.value (c _ h1) h3
theorem b8x (g:MR β K get w) {ks:List Nat} {c c':C} {v:Value} (a:roC get c=some c') (n:CR β K c v) (d:∀k∈a0S c,k∈ks) (β0:Bt):CR β0 (a5a β K get w ks) c' v:=by
 have:=c4r g a n d;cases c with
 | ref t k =>
   simp only[roC]at a;split at a
   ·split at a
    ·split at a
     ·cases a;exact this
     ·cases a
    ·cases a
   ·cases a
 | fn f b =>
   cases b with
   | nil=>simp only[roC,injEq]at a;subst a;obtain⟨cs,e,h⟩:=this;cases cs with
     |nil=>exact⟨[],e,trivial⟩
     |cons _ _=>exact h.elim
   |cons k ks=>simp[roC]at a
 |ptr k o=>simp[roC]at a
 |eptr k t i o=>simp[roC]at a
 |aptr k o m j=>simp[roC]at a
 |aeptr k t i o m j=>simp[roC]at a
 |arptr t l i o m j=>simp[roC]at a
 | asl t k o m =>
   simp only[roC]at a;split at a
   ·split at a
    ·cases a;exact this
    ·cases a
   ·cases a
 |_=>simp only[roC,injEq]at a;subst a;exact this
theorem a5p (i:MR β K get w) {ks:List Nat} {c c':W} {v:Value} (a:roW get c=some c') (j:WR β K c v) (g:∀k∈a0R c,k∈ks) (β0:Bt):WR β0 (a5a β K get w ks) c' v:=by
 cases c with
 | one c =>
   simp only[roW,Option.map_eq_some_iff]at a;obtain⟨c',a,rfl⟩:=a;exact b8x i a j (fun k h=>g k (by simpa[a0R,W.cells]using h)) β0
 | agg cs =>
   simp only[roW,Option.map_eq_some_iff]at a;obtain⟨l,a,rfl⟩:=a;obtain⟨arr,e,h⟩:=j;exact⟨arr,e,a1h a h fun c c' u b d m=>b8x i d m (fun k f=>g k (List.mem_flatMap.2 ⟨c,b,f⟩)) β0⟩
def a8a (β:Bt) (n:Nat) (β':Bt):Bt:=fun k=>if n ≤ k then β' (k-n)else β k
theorem b1G:∀(outs:List (Option Blk)) (n:Nat) (k:Nat),a1D (b5Y [] outs n) k=if n ≤ k then(outs[k-n]?)else none
 |[],n,k=>by simp[b5Y,a1D]
 | b :: r,n,k=>by
   simp only[b5Y,a1D];split
   ·rename_i h;have:=a0g h;subst this;simp
   ·rename_i h;have c:n≠k:=fun e=>by subst e;simp at h
    rw[b1G r (n+1) k];by_cases a:n ≤ k
    ·rw[if_pos (by omega),if_pos a];have:k-n=(k-(n+1))+1:=by omega
     rw[this];simp
    ·rw[if_neg (by omega),if_neg a]
theorem a8K {outs:List (Option Blk)} {n:Nat} {get:Get} {k:Nat} {b:Blk} (h:a4Z (b5Y [] outs n) get k=some b) (c:∀k,n ≤ k→get k=none) :
 (n ≤ k∧a2o outs (k-n)=some b)∨(k<n∧get k=some b):=by
 unfold a4Z at h;rw[b1G]at h;by_cases a:n ≤ k
 ·rw[if_pos a]at h;left;refine⟨a,?_⟩;unfold a2o;cases hq:outs[k-n]? with
  |none=>rw[hq]at h;dsimp only at h;rw[c k a]at h;cases h
  |some x=>rw[hq]at h;dsimp only at h;rw[h];rfl
 ·rw[if_neg a]at h;exact .inr ⟨by omega,h⟩
theorem Pre.gnone (h:Pre P Γ β K get n w ρ a):∀k,n ≤ k→get k=none:=by
 intro k d;cases hq:get k with
 |none=>rfl
 | some b =>
   obtain⟨y,c,_⟩:=h.mr.blk k b hq;rw[h.fresh k d]at c;cases c
theorem a4d {f:Nat→Option Nat} {outs a:List (Option Blk)} (h:a1x (a5U f) outs=some a) {i:Nat} {b:Blk} (c:a2o a i=some b):∃d,a2o outs i=some d∧b2S f d=some b:=by
 have k:=All2.ofMap h;unfold a2o at c ⊢;cases hq:a[i]? with
 |none=>rw[hq]at c;cases c
 | some x =>
   rw[hq]at c;have l:x=some b:=c;subst l;obtain⟨y,m,e⟩:=k.get?' hq;rw[m];cases y with
   |none=>simp[a5U]at e
   | some d =>
     refine⟨d,rfl,?_⟩;simp only[a5U,Option.map_eq_some_iff,injEq]at e;obtain⟨n,g,j⟩:=e;rw[g,j]
theorem a7o (h:Pre P Γ β K get n w ρ a) {c:Call} {f:Operand} {g:Nat} {F:List Nat} {ws:List W} {fam:Fam} {frz:Bool} {out:fam.ι→Out} (ho:o.op = .call c) (hc:c.callee = .value f) (hf:ρ f = .val (.one (.fn g F)))
 (hw:a5V (c.args.toList.map ρ)=some ws) (hfam:a2s P g fam) (s:∀z,a6p (fam.mean z) frz get n (ws++F.map fun k => .one (.ptr k 0))=some (out z)) (hok:∀z,(out z).ok=true):a0m P o a w (fun v w'=>∃z,a0U β K get n w (out z) v w'):=by
 obtain⟨_,hmean⟩:=hfam;obtain⟨vs,r,hvs⟩:=b0s h ho hc hf hw;generalize (ws++F.map fun k=>W.one (C.ptr k 0))=args at s hvs;simp only[a6p]at s;obtain⟨z0⟩:=fam.inh;obtain⟨p,B⟩:∃p,a1x (roW get) args=some p:=by
  cases hq:a1x (roW get) args with
  |none=>have:=s z0;rw[hq]at this;cases this
  |some x=>exact⟨x,rfl⟩
 have hrun:∀z,∃rs outs,(fam.mean z).run p []=some (true,rs,outs):=by
  intro z;have d:=s z;rw[B]at d;dsimp only at d;split at d
  case h_2=>cases d
  rename_i ok rs outs hr;have hok':ok=true:=by
   have Z:=hok z;split at d
   ·cases d
   ·split at d
    ·split at d
     ·have I:=Option.some.inj d;rw[←I]at Z;exact Z
     ·cases d
    ·split at d
     ·have I:=Option.some.inj d;rw[←I]at Z;exact Z
     ·cases d
  subst hok';exact⟨rs,outs,hr⟩
 refine b0t r ?_;have hK1:=a4w (β:=β) (get:=get) (ks:=args.flatMap a0R) h.kok;have hargs':All2 (WR (fun _=>none) (a5a β K get w (args.flatMap a0R))) p vs.toList:=
  a1h B hvs fun c c' u hmem G hu=>a5p h.mr G hu (fun k E=>List.mem_flatMap.2 ⟨c,hmem,E⟩) _
 have hM0:MR (fun _=>none) (a5a β K get w (args.flatMap a0R)) (a2b []) w:=⟨fun k b e=>by simp[a2b]at e,fun k k' b b' _ _ _ e=>by simp[a2b]at e,fun k b _ _ e=>by simp[a2b]at e⟩;refine(hmean p [] hrun (fun _=>none) _ w vs hK1 hM0 (fun _ _=>rfl) hargs').mono ?_;rintro e w' ⟨z,rs,outs,v,β',K',hrz,rfl,A⟩;refine⟨v,rfl,z,?_⟩;have s:=s z;generalize out z=out at s;rw[B]at s;dsimp only at s;rw[hrz]at s;dsimp only at s;have q:∀x,¬Own (fun _=>none) (a2b []) x:=by rintro x ⟨k,b,y,e,_⟩;simp[a2b]at e
 have L:∀b,b<w.heap.size→¬Jk K b→w'.heap[b]?=w.heap[b]?:=fun b O hj=>A.fr.block b O fun d=>d.elim (q b) fun I=>hj (c4p.1 I)
 have N:∀x,Own β' (a2o outs) x→w.heap.size ≤ x:=fun x r=>(A.own x r).resolve_left (q x)
 have hgn:=h.gnone;have hfr:Fr (e1L β K get) w w':=⟨A.fr.os,A.fr.tape,A.fr.output,A.fr.size,fun b O hn=>L b O fun d=>hn (.inr d)⟩;have main:∀(K2:Ks),(∀b x,w.heap.size ≤ b→K2 b=some x→∃cur T fz,w'.heap[b]?=some (.cells cur T fz)∧(x.1=false→cur=x.2)∧(x.1=true→fz=(0,0)∧All2 VJ x.2.toList cur.toList)) →
  ∃Q:Ks,KLe K Q∧KOK Q w'∧(∀x,x<w.heap.size→Q x=K x)∧(∀x,w.heap.size ≤ x→Q x=K2 x):=by
  intro K2 I;refine⟨fun b=>if w.heap.size ≤ b then K2 b else K b,?_,?_,fun x r=>?_,fun x r=>?_⟩
  ·intro b arr e;have:=h.kok.lt e;dsimp only;rw[if_neg (by omega)];exact e
  ·refine⟨?_,h.kok.gk.mono fun b arr e=>?_⟩
   ·intro b arr e
    try dsimp only at e
    split at e
    ·exact I b arr ‹_› e
    ·exact A.kok.ato b arr (A.kle b arr (a0Q b arr e))
   ·have:=h.kok.lt e
    try dsimp only
    rw[if_neg (by omega)];exact e
  ·dsimp only;rw[if_neg (by omega)]
  ·dsimp only;rw[if_pos r]
 have Y:(args.all fun w=>w.cells.all fun c=>!c4c c)=true→a5a β K get w (args.flatMap a0R)=K:=by
  intro hn;have E:args.flatMap a0R=[]:=by
   rw[List.flatMap_eq_nil_iff];intro u hu;have hu2:=List.all_eq_true.1 hn u hu;obtain⟨u',hu',V⟩:∃u',u'∈p∧roW get u=some u':=by
    obtain⟨i,hi,he⟩:=List.mem_iff_getElem.1 hu;obtain⟨u',d,I⟩:=(All2.ofMap B).get? (List.getElem?_eq_getElem hi);rw[he]at I;exact⟨u',List.mem_of_getElem? d,I⟩
   unfold a0R;rw[List.flatMap_eq_nil_iff];intro cc G;have Z:=List.all_eq_true.1 hu2 cc G;have h4:∃c',roC get cc=some c':=by
    cases u with
    | one c0 =>
      simp only[W.cells,List.mem_singleton]at G;subst G;simp only[roW,Option.map_eq_some_iff]at V;exact⟨V.choose,V.choose_spec.1⟩
    | agg cs =>
      simp only[roW,Option.map_eq_some_iff]at V;obtain⟨cs',h5,_⟩:=V;obtain⟨i,hi,he⟩:=List.mem_iff_getElem.1 (show cc∈cs from G);obtain⟨c',_,h6⟩:=(All2.ofMap h5).get? (List.getElem?_eq_getElem hi);rw[he]at h6;exact⟨c',h6⟩
   obtain⟨c',h4⟩:=h4;cases cc with
   |ref t k=>simp[c4c]at Z
   |ptr k o=>simp[roC]at h4
   |eptr k t i o=>simp[roC]at h4
   |aptr k o m j=>simp[roC]at h4
   |aeptr k t i o m j=>simp[roC]at h4
   |arptr t l i o m j=>simp[roC]at h4
   |asl t k o m=>simp[c4c]at Z
   | fn f F=>cases F with
     |nil=>rfl
     |cons _ _=>simp[roC]at h4
   |_=>rfl
  rw[E];funext b;unfold a5a;cases hq:K b with
  |some _=>rfl
  | none =>
    dsimp only;rw[if_neg];rintro⟨k,E,_⟩;simp at E
 split at s
 ·cases s
 ·rename_i J;split at s
  ·
   split at s
   ·rename_i rs' X;cases s;have hnr:(args.all fun w=>w.cells.all fun c=>!c4c c)=true:=by simpa using J
    have hKe:=Y hnr;obtain⟨Q,H,U,M,hhi⟩:=main (a5a β' K' (a2o outs) w' (rs.flatMap a0R)) (fun b arr _ e=>(a4w A.kok).ato b arr e);have S:KLe (a5a β' K' (a2o outs) w' (rs.flatMap a0R)) Q:=by
     intro b arr e;by_cases O:w.heap.size ≤ b
     ·rw[hhi b O];exact e
     ·rw[M b (by omega)];unfold a5a at e;split at e
      ·rename_i x r;cases e;rcases A.knew b _ r with d|d|d
       ·rw[hKe]at d;exact d
       ·exact absurd d (q b)
       ·omega
      ·split at e
       ·rename_i hex;obtain⟨k,_,c,y,d,I,Z⟩:=hex;have:=N b ⟨k,c,y,d,I,Z⟩;omega
       ·cases e
    refine⟨β,Q,BLe.refl β,H,U,?_,?_,h.fresh,le_refl _,hfr,fun x r => .inl r,(fun b arr e=>by
     by_cases O:w.heap.size ≤ b
     ·exact .inr (.inr O)
     ·rw[M b (by omega)]at e;exact .inl e),fun _ _=>rfl⟩
    ·refine a8o X A.out fun c c' u hm G hu=>?_
     exact WR.mono (BLe.refl β) S (a5p A.mr G hu (fun k E=>List.mem_flatMap.2 ⟨c,hm,E⟩) β)
    ·refine h.mr.step (BLe.refl β) H fun k b e => .inl ⟨e,fun x y f g=>?_⟩
     have r:=h.mr.lt ⟨k,b,y,e,f,g⟩;exact⟨L x r (h.mr.nj e f g),by rw[M x r];exact h.mr.ro k b y x e f g⟩
   ·cases s
  ·split at s
   ·rename_i rs' outs' X D;cases s;obtain⟨Q,H,U,M,hhi⟩:=main K' (fun b arr _ e=>A.kok.ato b arr e);have R:KLe K' Q∨((∀c∈rs,c.cells.all bare=true)∧∀b∈outs,c4d b=true):=by
     simp only[Bool.or_eq_true,and_eq_true]at J;rcases J with hnr|⟨⟨_,d⟩,I⟩
     ·left;have hKe:=Y hnr;intro b arr e;by_cases O:w.heap.size ≤ b
      ·rw[hhi b O];exact e
      ·rw[M b (by omega)];rcases A.knew b arr e with d|d|d
       ·rw[hKe]at d;exact d
       ·exact absurd d (q b)
       ·omega
     ·exact .inr ⟨List.all_eq_true.1 d,List.all_eq_true.1 I⟩
    have hout:a7j β' Q rs v:=c4A A.out fun c hc u hu=>by
     rcases R with S|⟨d,_⟩
     ·exact WR.mono (BLe.refl _) S hu
     ·exact e1T (d c hc) hu
    have hblk:∀i b y,a2o outs i=some b→BR β' K' b y w'→BR β' Q b y w':=by
     intro i b y hi O;rcases R with S|⟨_,I⟩
     ·exact O.mono (BLe.refl _) S
     ·refine e1U (I _ ?_) O;unfold a2o at hi;cases hq:outs[i]? with
      |none=>rw[hq]at hi;cases hi
      |some x=>rw[hq]at hi;have r:x=some b:=hi;subst r;exact List.mem_of_getElem? hq
    have hσ:∀k k' y,(fun i=>some (n+i)) k=some k'→β' k=some y→a8a β n β' k'=some y:=by
     intro k k' y e hy;cases e;unfold a8a;rw[if_pos (by omega),Nat.add_sub_cancel_left];exact hy
    have hble:BLe β (a8a β n β'):=by
     intro k y e;unfold a8a;rw[if_neg]
     ·exact e
     ·intro E;rw[h.fresh k E]at e;cases e
    refine⟨a8a β n β',Q,hble,H,U,b1F hσ X hout,?_,?_,by simp,hfr,?_,(fun b arr e=>by
     by_cases O:w.heap.size ≤ b
     ·exact .inr (.inr O)
     ·rw[M b (by omega)]at e;exact .inl e),fun k E=>by unfold a8a;rw[if_neg (by omega)]⟩
    ·refine h.mr.step hble H ?_;intro k b e;rcases a8K e hgn with⟨E,e1⟩|⟨E,e1⟩
     ·right;obtain⟨b0,e2,e3⟩:=a4d D e1;obtain⟨y,hy,hbr⟩:=A.mr.blk _ _ e2;refine⟨y,by unfold a8a;rw[if_pos E];exact hy,a8J hσ e3 (hblk _ _ _ e2 hbr),fun x r=>?_⟩;have hxs:=N x ⟨_,b0,y,e2,hy,r⟩;refine⟨by rw[hhi x hxs];exact A.mr.ro _ _ _ _ e2 hy r,fun k' b' y' e' f' g'=>?_⟩;rcases a8K e' hgn with⟨hk',e1'⟩|⟨hk',e1'⟩
      ·obtain⟨b0',e2',_⟩:=a4d D e1';unfold a8a at f';rw[if_pos hk']at f';have:=A.mr.sep _ _ _ _ _ _ x e2' e2 f' hy g' r;omega
      ·unfold a8a at f';rw[if_neg (by omega)]at f';have:=h.mr.lt ⟨k',b',y',e1',f',g'⟩;omega
     ·refine .inl ⟨e1,fun x y f g=>?_⟩;have r:=h.mr.lt ⟨k,b,y,e1,f,g⟩;exact⟨L x r (h.mr.nj e1 f g),by rw[M x r];exact h.mr.ro k b y x e1 f g⟩
    ·intro k E;dsimp only at E;unfold a8a;rw[if_pos (by omega)];exact A.fresh _ (by omega)
    ·rintro x ⟨k,b,y,e,f,g⟩;rcases a8K e hgn with⟨E,e1⟩|⟨E,e1⟩
     ·right;obtain⟨b0,e2,e3⟩:=a4d D e1;unfold a8a at f;rw[if_pos E]at f;exact N x ⟨_,b0,y,e2,f,g⟩
     ·left;unfold a8a at f;rw[if_neg (by omega)]at f;exact⟨k,b,y,e1,f,g⟩
   ·cases s
theorem c4C (h:Pre P Γ β K get n w ρ a) {c:Call} {f:Operand} {g:Nat} {b:List Nat} {ws:List W} {sm:a6m} {frz:Bool} {out:Out} (q:o.op = .call c) (l:c.callee = .value f) (m:ρ f = .val (.one (.fn g b)))
 (r:a5V (c.args.toList.map ρ)=some ws) (j:Γ.sem g=some sm) (p:a6p sm frz get n (ws++b.map fun k => .one (.ptr k 0))=some out) (i:out.ok=true):a0m P o a w (a0U β K get n w out):=by
 obtain⟨d,e⟩:=h.env.sem g sm j;exact(a7o h q l m r (c4B d e) (out:=fun _=>out) (fun _=>p) (fun _=>i)).mono fun v w' ⟨_,h⟩=>h
end
theorem a2t (get:Get):∀(f:Nat) (d c:List Nat),c.Nodup→(a2E get f d c).Nodup
 |0,_,c,h=>by simpa[a2E]using h
 |f+1,[],c,h=>by simpa[a2E]using h
 | f + 1,k::d,c,h=>by
   unfold a2E;split
   ·exact a2t get f d c h
   ·rename_i l;have i:(c++[k]).Nodup:=by
     rw[List.nodup_append];refine⟨h,by simp,?_⟩;intro a j b g;simp only[List.mem_singleton]at g;subst g;intro e;subst e;exact a4b l j
    split
    ·exact a2t get f _ _ i
    ·exact a2t get f _ _ i
theorem a5Y:∀{ks:List Nat} {k i j:Nat},a2F ks k i=some j→∃p,j=i+p∧ks[p]?=some k
 |[],_,_,_,h=>by simp[a2F]at h
 | x::r,k,i,j,h=>by
   unfold a2F at h;split at h
   ·rename_i b;have:=a0g b;cases h;exact⟨0,rfl,by simp[this]⟩
   ·obtain⟨p,c,a⟩:=a5Y h;exact⟨p+1,by omega,by simpa using a⟩
theorem b1H:∀{ks:List Nat} {n p k:Nat},ks[p]?=some k→a6o ks n p=k
 |[],_,_,_,h=>by simp at h
 |x::r,n,0,k,h=>by simpa[a6o]using h
 |x::r,n,p+1,k,h=>by simp only[a6o];exact b1H (by simpa using h)
theorem b8y:∀{ks:List Nat} {n p:Nat},ks.length ≤ p→a6o ks n p=n+(p-ks.length)
 |[],n,p,_=>by simp[a6o]
 |x::r,n,0,h=>by simp at h
 | x::r,n,p+1,h=>by
   simp only[a6o];rw[b8y (by simpa using h)];simp
theorem b3i:∀{ks:List Nat} {outs:List (Option Blk)} {n k:Nat},ks.length ≤ outs.length→(∀x∈ks,x<n)→ks.Nodup →
 (∀(p:Nat),ks[p]?=some k→a1D (b5Y ks outs n) k=outs[p]?)∧(k ∉ ks→a1D (b5Y ks outs n) k=if n ≤ k then outs[ks.length+(k-n)]? else none)
 | [],outs,n,k,_,_,_=>by
   refine⟨fun p h=>by simp at h,fun _=>?_⟩;rw[b1G];simp
 |x::r,[],n,k,h,_,_=>by simp at h
 | x :: r,b::outs,n,k,h,hlt,hnd=>by
   obtain⟨d,f⟩:=b3i (ks:=r) (outs:=outs) (n:=n) (k:=k) (by simpa using h) (fun y j=>hlt y (List.mem_cons_of_mem _ j)) (List.nodup_cons.1 hnd).2;have l:=hlt x (List.mem_cons_self ..);refine⟨fun p c=>?_,fun g=>?_⟩
   ·cases p with
    | zero =>
      simp only[List.getElem?_cons_zero,injEq]at c;subst c;simp[b5Y,a1D]
    | succ p =>
      simp only[List.getElem?_cons_succ]at c;have a:x≠k:=fun e=>by
       subst e;exact(List.nodup_cons.1 hnd).1 (List.mem_of_getElem? c)
      simp only[b5Y,a1D,a1A a,List.getElem?_cons_succ];exact d p c
   ·have a:x≠k:=fun e=>g (by subst e;exact List.mem_cons_self ..)
    simp only[b5Y,a1D,a1A a];rw[f fun i=>g (List.mem_cons_of_mem _ i)];split
    ·have:(x::r).length+(k-n)=(r.length+(k-n))+1:=by simp;omega
     rw[this];simp
    ·rfl
section
variable {P:Program} {Γ:Env} {β:Bt} {K:Ks} {get:Get} {n:Nat} {w:World} {ρ:Operand→V} {a:Act} {o:Oper}
theorem a5Z (h:Pre P Γ β K get n w ρ a) {c:Call} {f:Operand} {g:Nat} {U:List Nat} {ws:List W} {fam:Fam} {out:fam.ι→Out} (ho:o.op = .call c) (hc:c.callee = .value f) (hf:ρ f = .val (.one (.fn g U)))
 (hw:a5V (c.args.toList.map ρ)=some ws) (hfam:a2s P g fam) (hl:∀z,a4s (fam.mean z) get n (ws++U.map fun k => .one (.ptr k 0))=some (out z)) (hok:∀z,(out z).ok=true):a0m P o a w (fun v w'=>∃z,a0U β K get n w (out z) v w'):=by
 obtain⟨_,hmean⟩:=hfam;obtain⟨vs,Y,hvs⟩:=b0s h ho hc hf hw;generalize (ws++U.map fun k=>W.one (C.ptr k 0))=args at hl hvs;simp only[a4s]at hl;generalize hks:a2E get a1P (args.flatMap a0R) []=ks at hl;have hnd:ks.Nodup:=by rw[←hks];exact a2t _ _ _ _ (by simp)
 obtain⟨z0⟩:=fam.inh;obtain⟨A,I⟩:∃A,a1x (b8i fun k=>a2F ks k 0) args=some A:=by
  cases hq:a1x (b8i fun k=>a2F ks k 0) args with
  |none=>have:=hl z0;rw[hq]at this;cases this
  |some x=>exact⟨x,rfl⟩
 obtain⟨ins,M⟩:∃ins,a1x (fun k=>(get k).bind (b2S fun k=>a2F ks k 0)) ks=some ins:=by
  cases hq:a1x (fun k=>(get k).bind (b2S fun k=>a2F ks k 0)) ks with
  |none=>have:=hl z0;rw[I,hq]at this;cases this
  |some x=>exact⟨x,rfl⟩
 have hl:∀z,∃rs outs Z j,(fam.mean z).run A ins=some (true,rs,outs)∧Nat.ble ks.length outs.length=true∧a1x (b8i fun i=>some (a6o ks n i)) rs=some Z∧a1x (a5U fun i=>some (a6o ks n i)) outs=some j ∧
  out z=⟨true,d2m Z,b5Y ks j n,n+(outs.length-ks.length)⟩:=by
  intro z;have d:=hl z;rw[I,M]at d;dsimp only at d;split at d
  case h_2=>cases d
  rename_i ok rs outs Q;split at d
  case h_2=>cases d
  rename_i Z j G X q;have B:=Option.some.inj d;have s:=hok z;rw[←B]at s;dsimp only at s;subst s;exact⟨rs,outs,Z,j,Q,G,X,q,B.symm⟩
 have hinl:ins.length=ks.length:=a2r M;have V:∀p b,a2b ins p=some b→∃k l y,ks[p]?=some k∧get k=some l∧b2S (fun k=>a2F ks k 0) l=some b∧β k=some y∧BR β K l y w:=by
  intro p b e;obtain⟨k,m,S⟩:=(All2.ofMap M).get?' e;cases L:get k with
  |none=>rw[L]at S;cases S
  | some l =>
    rw[L]at S;obtain⟨y,t,E⟩:=h.mr.blk k l L;exact⟨k,l,y,m,L,S,t,E⟩
 have N:∀(p k:Nat),ks[p]?=some k→∃l y,get k=some l∧β k=some y:=by
  intro p k m;obtain⟨b,_,S⟩:=(All2.ofMap M).get? m;cases L:get k with
  |none=>rw[L]at S;cases S
  | some l =>
    obtain⟨y,t,_⟩:=h.mr.blk k l L;exact⟨l,y,rfl,t⟩
 have hklt:∀x∈ks,x<n:=by
  intro x Y;obtain⟨p,hp,he⟩:=List.mem_iff_getElem.1 Y;obtain⟨l,y,_,t⟩:=N p x (by rw[List.getElem?_eq_getElem hp,he]);rcases Nat.lt_or_ge x n with d|d
  ·exact d
  ·rw[h.fresh x d]at t;cases t
 have hσ0:∀k k' y,(fun k=>a2F ks k 0) k=some k'→β k=some y→(fun i=>(ks[i]?).bind β) k'=some y:=by
  intro k k' y e t;obtain⟨p,hp,m⟩:=a5Y e;have:k'=p:=by omega
  subst this;dsimp only;rw[m];exact t
 have hM0:MR (fun i=>(ks[i]?).bind β) K (a2b ins) w:=by
  refine⟨fun p b e=>?_,fun p p' b b' y y' x e e' f f' g g'=>?_,fun p b y x e f g=>?_⟩
  ·obtain⟨k,l,y,m,L,S,t,E⟩:=V p b e;exact⟨y,by show(ks[p]?).bind β=some y;rw[m];exact t,a8J hσ0 S E⟩
  ·obtain⟨k,l,z,m,L,S,t,E⟩:=V p b e;obtain⟨k',T,z',hk',hg',hb',hy',hbr'⟩:=V p' b' e'
   try dsimp only at f f'
   rw[m]at f;rw[hk']at f';have hkk:=h.mr.sep k k' l T y y' x L hg' f f' g g';subst hkk;exact(List.getElem?_inj (List.getElem?_eq_some_iff.1 m).1 hnd).1 (m.trans hk'.symm)
  ·obtain⟨k,l,z,m,L,S,t,E⟩:=V p b e
   try dsimp only at f
   rw[m]at f;exact h.mr.ro k l y x L f g
 have hargs':All2 (WR (fun i=>(ks[i]?).bind β) K) A vs.toList:=a1h I hvs fun c c' u _ hcc hu=>a7n hσ0 hcc hu
 refine b0t Y ?_;refine(hmean A ins (fun z=>by obtain⟨rs,outs,_,_,d,_⟩:=hl z;exact⟨rs,outs,d⟩) _ K w vs h.kok hM0 (fun k m=>by rw[List.getElem?_eq_none (by omega)];rfl) hargs').mono ?_;rintro e w' ⟨z,rs,outs,v,β',K',hrz,rfl,D⟩;refine⟨v,rfl,z,?_⟩;obtain⟨rs2,outs2,Z,j,Q,G,X,q,hout⟩:=hl z;rw[hrz]at Q;cases Q;rw[hout];have G:ks.length ≤ outs.length:=by simpa using G
 have O:∀x,Own (fun i=>(ks[i]?).bind β) (a2b ins) x→∃(p k:Nat) (l:Blk) (y:Hd),ks[p]?=some k∧get k=some l∧β k=some y∧y.b=some x:=by
  rintro x ⟨p,b,y,e,f,g⟩;obtain⟨k,l,z,m,L,S,t,E⟩:=V p b e
  try dsimp only at f
  rw[m]at f;exact⟨p,k,l,y,m,L,f,g⟩
 have hold:∀k b y x,get k=some b→β k=some y→y.b=some x→k ∉ ks→¬Own (fun i=>(ks[i]?).bind β) (a2b ins) x:=by
  intro k b y x e f g m ho';obtain⟨p,k',l,y',d,B,s,H⟩:=O x ho';have:=h.mr.sep k k' b l y y' x e B f s g H;subst this;exact m (List.mem_of_getElem? d)
 have hgn:=h.gnone;have r:∀k,k<n→(fun k=>if n ≤ k then β' (ks.length+(k-n))else β k) k=β k:=fun k m=>by dsimp only;rw[if_neg (by omega)]
 have R:∀k,n ≤ k→(fun k=>if n ≤ k then β' (ks.length+(k-n))else β k) k=β' (ks.length+(k-n)):=fun k m=>by dsimp only;rw[if_pos m]
 generalize hβe:(fun k=>if n ≤ k then β' (ks.length+(k-n))else β k)=β'' at r R;have hble:BLe β β'':=by
  intro k y e;rw[r k]
  ·exact e
  ·rcases Nat.lt_or_ge k n with d|d
   ·exact d
   ·rw[h.fresh k d]at e;cases e
 have hσ:∀k k' y,(fun i=>some (a6o ks n i)) k=some k'→β' k=some y→β'' k'=some y:=by
  intro k k' y e t;cases e;rcases Nat.lt_or_ge k ks.length with d|d
  ·have m:=List.getElem?_eq_getElem d;rw[b1H m];obtain⟨l,z,B,s⟩:=N k _ m;have H:=D.ble k z (by show(ks[k]?).bind β=some z;rw[m];exact s);rw[t]at H;cases H;rw[r _ (hklt _ (List.mem_of_getElem? m))];exact s
  ·rw[b8y d,R _ (by omega)];have:ks.length+(n+(k-ks.length)-n)=k:=by omega
   rw[this];exact t
 have J:∀k b,a4Z (b5Y ks j n) get k=some b→(∃(p:Nat) (l:Blk),((∃hp:ks[p]?=some k,True)∨(n ≤ k∧p=ks.length+(k-n)))∧a2o outs p=some l∧b2S (fun i=>some (a6o ks n i)) l=some b∧β'' k=β' p)∨(k ∉ ks∧k<n∧get k=some b):=by
  intro k b e;have hll:ks.length ≤ j.length:=by rw[a2r q];exact G
  obtain⟨hl1,hl2⟩:=b3i (ks:=ks) (outs:=j) (n:=n) (k:=k) hll hklt hnd;by_cases m:k∈ks
  ·obtain⟨p,hp,he⟩:=List.mem_iff_getElem.1 m;have hpk:ks[p]?=some k:=by rw[List.getElem?_eq_getElem hp,he]
   have d:=hl1 p hpk;unfold a4Z at e;rw[d]at e;have hpo:p<j.length:=by omega
   rw[List.getElem?_eq_getElem hpo]at e;have hgo:a2o j p=some b:=by unfold a2o;rw[List.getElem?_eq_getElem hpo];exact e
   obtain⟨l,s,H⟩:=a4d q hgo;left;refine⟨p,l,.inl ⟨hpk,trivial⟩,s,H,?_⟩;obtain⟨y,t,_⟩:=D.mr.blk p l s;rw[t];exact hσ p k y (by show some (a6o ks n p)=some k;rw[b1H hpk]) t
  ·have d:=hl2 m;unfold a4Z at e;rw[d]at e;by_cases F:n ≤ k
   ·rw[if_pos F]at e;left;cases hq:j[ks.length+(k-n)]? with
    |none=>rw[hq]at e;dsimp only at e;rw[hgn k F]at e;cases e
    | some x =>
      rw[hq]at e;dsimp only at e;subst e;have hgo:a2o j (ks.length+(k-n))=some b:=by unfold a2o;rw[hq];rfl
      obtain⟨l,s,H⟩:=a4d q hgo;exact⟨_,l,.inr ⟨F,rfl⟩,s,H,R k F⟩
   ·rw[if_neg F]at e;exact .inr ⟨m,by omega,e⟩
 have hsame:∀(k k' p:Nat),((∃hp:ks[p]?=some k,True)∨(n ≤ k∧p=ks.length+(k-n)))→((∃hp:ks[p]?=some k',True)∨(n ≤ k'∧p=ks.length+(k'-n)))→k=k':=by
  intro k k' p d B;rcases d with⟨d,_⟩|⟨d,s⟩<;>rcases B with⟨B,_⟩|⟨B,H⟩
  ·rw[d]at B;cases B;rfl
  ·have:=(List.getElem?_eq_some_iff.1 d).1;omega
  ·have:=(List.getElem?_eq_some_iff.1 B).1;omega
  ·omega
 refine⟨β'',K',hble,D.kle,D.kok,b1F hσ X D.out,?_,?_,by dsimp only;omega,?_,?_,(fun b arr e=>by
  rcases D.knew b arr e with d|d|d
  ·exact .inl d
  ·obtain⟨p,k,l,y,_,B,s,H⟩:=O b d;exact .inr (.inl ⟨k,l,y,B,s,H⟩)
  ·exact .inr (.inr d)),r⟩
 ·refine h.mr.step hble D.kle ?_;intro k b e;rcases J k b e with⟨p,l,hp,d,B,s⟩|⟨m,F,e1⟩
  ·right;obtain⟨y,t,E⟩:=D.mr.blk p l d;refine⟨y,by rw[s];exact t,a8J hσ B E,fun x Y=>⟨D.mr.ro p l y x d t Y,fun k' b' y' e' f' g'=>?_⟩⟩;rcases J k' b' e' with⟨p',T,hp',h1',h2',h3'⟩|⟨hk',hkn',e1'⟩
   ·rw[h3']at f';have:=D.mr.sep p' p T l y' y x h1' d f' t g' Y;subst this;exact hsame k' k p' hp' hp
   ·rw[r k' hkn']at f';exfalso;rcases D.own x ⟨p,l,y,d,t,Y⟩with h5|h5
    ·exact hold k' b' y' x e1' f' g' hk' h5
    ·have:=h.mr.lt ⟨k',b',y',e1',f',g'⟩;omega
  ·refine .inl ⟨e1,fun x y f g=>?_⟩;have Y:=h.mr.lt ⟨k,b,y,e1,f,g⟩;have hno:=hold k b y x e1 f g m;have hnj:¬Jk K x:=h.mr.nj e1 f g;refine⟨D.fr.block x Y fun d=>d.elim hno hnj,?_⟩;cases hq:K' x with
   |none=>rfl
   | some arr =>
     rcases D.knew x arr hq with d|d|d
     ·rw[h.mr.ro k b y x e1 f g]at d;cases d
     ·exact absurd d hno
     ·omega
 ·intro k m;dsimp only at m;rw[R k (by omega)];exact D.fresh _ (by omega)
 ·refine⟨D.fr.os,D.fr.tape,D.fr.output,D.fr.size,fun x Y hn=>D.fr.block x Y fun d=>hn (d.elim (fun d => .inl ?_) .inr)⟩;obtain⟨p,k,l,y,_,B,s,H⟩:=O x d;exact⟨k,l,y,B,s,H⟩
 ·rintro x ⟨k,b,y,e,f,g⟩;rcases J k b e with⟨p,l,hp,d,B,s⟩|⟨m,F,e1⟩
  ·rw[s]at f;rcases D.own x ⟨p,l,y,d,f,g⟩with h5|h5
   ·obtain⟨_,k',T,y',_,B,s,H⟩:=O x h5;exact .inl ⟨k',T,y',B,s,H⟩
   ·exact .inr h5
  ·rw[r k F]at f;exact .inl ⟨k,b,y,e1,f,g⟩
theorem c2k (h:Pre P Γ β K get n w ρ a) {c:Call} {f:Operand} {g:Nat} {b:List Nat} {ws:List W} {sm:a6m} {out:Out} (q:o.op = .call c) (l:c.callee = .value f) (m:ρ f = .val (.one (.fn g b)))
 (r:a5V (c.args.toList.map ρ)=some ws) (j:Γ.sem g=some sm) (p:a4s sm get n (ws++b.map fun k => .one (.ptr k 0))=some out) (i:out.ok=true):a0m P o a w (a0U β K get n w out):=by
 obtain⟨d,e⟩:=h.env.sem g sm j;exact(a5Z h q l m r (c4B d e) (out:=fun _=>out) (fun _=>p) (fun _=>i)).mono fun v w' ⟨_,h⟩=>h
end
section
variable {P:Program} {Γ:Env} {β:Bt} {K:Ks} {get:Get} {n:Nat} {w:World} {ρ:Operand->V} {a:Act} {o:Oper}
theorem e1V {c:Call} {v:V} (h:c.args.toList.map ρ=[v]):∃x,c.args.toList=[x] /\ ρ x=v:=by
 cases hq:c.args.toList with
 |nil=>rw[hq]at h;simp at h
 | cons x r=>cases r with
   |nil=>rw[hq]at h;exact⟨x,rfl,by simpa using h⟩
   |cons _ _=>rw[hq]at h;simp at h
theorem c2l {c:Call} {v u:V} (h:c.args.toList.map ρ=[v,u]):∃x y,c.args.toList=[x,y] /\ ρ x=v /\ ρ y=u:=by
 cases hq:c.args.toList with
 |nil=>rw[hq]at h;simp at h
 | cons x r=>cases r with
   |nil=>rw[hq]at h;simp at h
   | cons y r=>cases r with
     |nil=>rw[hq]at h;exact⟨x,y,rfl,by simpa using h⟩
     |cons _ _=>rw[hq]at h;simp at h
theorem c2m (h:Pre P Γ β K get n w ρ a) {c:Call} {b:Builtin} {out:Out} (u:o.op = .call c) (m:c.callee = .builtin b)
 (e:a3k Γ get n b c.argTypes.toList (c.args.toList.map ρ)=some out) (C:out.ok=true):a0m P o a w (a0U β K get n w out):=by
 unfold a3k at e;split at e
 ·rename_i H d;obtain⟨x,g,f⟩:=e1V d;split at e
  ·rename_i t z;split at e
   ·rename_i ti D;exact e8g h u m z g D f e
   ·cases e
  ·cases e
 ·rename_i s x d;obtain⟨xs,G,g,f,i⟩:=c2l d;split at e
  ·rename_i E L z;split at e
   ·rename_i B;have:=a0g B;subst this;split at e
    ·rename_i J D;split at e
     ·rename_i v;split at e
      ·rename_i I F;split at e
       ·rename_i j;simp only[and_eq_true]at j;have A:c.argTypes=#[E,E]:=by cases hq:c.argTypes;simp_all
        have l:c.args=#[xs,G]:=by cases hq:c.args;simp_all
        exact c4y h u m A l D v F (a0g j.1) (by simpa[Nat.blt_eq]using j.2) f i e C
       ·cases e
      ·cases e
     ·cases e
    ·cases e
   ·cases e
  ·cases e
 ·rename_i d;obtain⟨x,g,f⟩:=e1V d;exact c4z h u g f (.inl ⟨m,e⟩)
 ·rename_i d;obtain⟨x,g,f⟩:=e1V d;exact c4z h u g f (.inr ⟨m,e⟩)
 ·rename_i k p k' q d;obtain⟨x,y,g,f,i⟩:=c2l d;split at e
  ·rename_i r;have:k=k':=by simpa[a1d]using r
   subst this;exact c2j h u g f i m e
  ·cases e
 ·rename_i k p k' q d;obtain⟨x,y,g,f,i⟩:=c2l d;split at e
  ·rename_i r;have:k=k':=by simpa[a2C]using r
   subst this;exact b3h h u g f i (.inl ⟨m,e⟩)
  ·cases e
 ·rename_i k p k' q d;obtain⟨x,y,g,f,i⟩:=c2l d;split at e
  ·rename_i r;have:k=k':=by simpa[a2C]using r
   subst this;exact b3h h u g f i (.inr ⟨m,e⟩)
  ·cases e
 ·rename_i k p k' q d;obtain⟨x,y,g,f,i⟩:=c2l d;split at e
  ·rename_i r;have:k=k':=by simpa[a1d]using r
   subst this;exact b0r h u g f i (.inl ⟨m,e⟩)
  ·cases e
 ·rename_i k p k' q d;obtain⟨x,y,g,f,i⟩:=c2l d;split at e
  ·rename_i r;have:k=k':=by simpa[a1d]using r
   subst this;exact b0r h u g f i (.inr ⟨m,e⟩)
  ·cases e
 ·cases e
theorem a7K {c:C} {b:Bool} (h:b1v c=some b):c = .bool b:=by
 cases c<;>simp[b1v]at h
 subst h;rfl
set_option maxHeartbeats 2000000 in
theorem c4D (h:Pre P Γ β K get n w ρ a) {out:Out} (z:act Γ o ρ get n=some out) (B:out.ok=true):a0m P o a w (a0U β K get n w out):=by
 unfold act at z;split at z
 ·rename_i x A;cases z;exact c4o h (.inl A)
 ·rename_i x A;cases z;exact c4o h (.inr A)
 ·rename_i c x y A;split at z
  ·rename_i t I;cases z;exact e1N h A I
  ·cases z
 ·rename_i t A;split at z
  ·rename_i ti D;cases z;exact d2t h A D
  ·cases z
 ·rename_i t x A;split at z
  ·rename_i u R;split at z
   ·rename_i C;cases z;exact e8f h A R C
   ·cases z
  ·cases z
 ·rename_i t S A;split at z
  ·rename_i ti D;split at z
   ·rename_i C;split at z
    ·rename_i ps F;split at z
     ·rename_i cs O J;exact d2E h A D C F O J z
     ·cases z
    ·cases z
   ·rename_i m C;split at z
    ·rename_i L F H;exact b6i h A D C H F z
    ·cases z
   ·cases z
  ·cases z
 ·rename_i t len S A;split at z
  ·rename_i ti D;split at z
   ·rename_i C;split at z
    ·rename_i L H;split at z
     ·rename_i ps F;split at z
      ·rename_i G;simp only[and_eq_true]at G;obtain⟨⟨⟨M,N⟩,h3⟩,h4⟩:=G;split at z
       ·rename_i l V;cases z;exact b1E h A D C H F h4 (by simpa using M) (a0g N) (by simpa[Nat.blt_eq]using h3) V
       ·cases z
      ·cases z
     ·cases z
    ·cases z
   ·cases z
  ·cases z
 ·rename_i t x A;split at z
  ·rename_i ti D;exact e1O h A D z
  ·cases z
 ·rename_i t x y A;split at z
  ·rename_i ti u D R;exact d2v h A D R z
  ·cases z
 ·rename_i x A;split at z
  ·rename_i E;cases z;exact a4z h A E (.inl ⟨_,_,rfl⟩)
  ·rename_i E;cases z;exact a4z h A E (.inr (.inl ⟨_,_,_,_,rfl⟩))
  ·rename_i E;cases z;exact a4z h A E (.inr (.inr (.inl ⟨_,_,_,_,rfl⟩)))
  ·rename_i E;cases z;exact a4z h A E (.inr (.inr (.inr ⟨_,_,rfl⟩)))
  ·cases z
 ·rename_i op t x y t' A;split at z
  ·rename_i c d E X;split at z
   ·rename_i p q F hq;split at z
    ·rename_i ti D;split at z
     ·rename_i e C U;rw[a7K F]at E;rw[a7K hq]at X;exact e1Q h A E X D C U z
     ·cases z
    ·cases z
   ·split at z
    ·rename_i ok e U;exact d2D h A E X U z B
    ·cases z
  ·rename_i cs ds E X;split at z
   ·rename_i e D U;exact e1R h A E X D U z
   ·cases z
  ·cases z
 ·rename_i op t x A;split at z
  ·rename_i c E;split at z
   ·rename_i c' I;exact e1P h A E I z
   ·cases z
  ·cases z
 ·rename_i src dst x A;split at z
  ·rename_i si di c C hd E;split at z
   ·rename_i ok c' I;exact c2f h A C hd E I z B
   ·split at z
    ·rename_i s I;exact d2F h A C hd E I z
    ·cases z
  ·cases z
 ·rename_i t xl xc A;split at z
  ·rename_i ti kl l kc c D hxl hxc;split at z
   ·rename_i C;split at z
    ·rename_i L H;split at z
     ·rename_i G;simp only[and_eq_true]at G;obtain⟨⟨M,N⟩,h3⟩:=G;cases z;simp only[and_eq_true,decide_eq_true_eq,beq_iff_eq]at B;have:=b3f h A D C H (by simpa using M) (a0g N) (by simpa[Nat.blt_eq]using h3) hxl hxc B.1.1 (by have:=b1y B.1.2;have Z:=B.1.1;rwa [Int.toNat_of_nonneg Z]at this) B.2;intro Y Q hn;refine this Y Q fun v w' F=>hn v w' ?_
      obtain⟨β',K',F⟩:=F;exact⟨β',K',F.ble,F.kle,F.kok,F.vr,F.mr,F.fresh,F.le,F.fr,F.own,F.knew,F.dom⟩
     ·cases z
    ·cases z
   ·cases z
  ·cases z
 ·rename_i t x lo hi mx A;split at z
  ·rename_i ti D;split at z
   ·rename_i s C E;split at z
    ·rename_i l r M N;exact b6f h A D C E M N z B
    ·cases z
   ·rename_i ty s C E;split at z
    ·rename_i L H;split at z
     ·rename_i hsz;split at z
      ·rename_i l r M N;exact c2g h A D C H (a0g hsz) E M N z B
      ·cases z
     ·cases z
    ·cases z
   ·rename_i ty k C E;split at z
    ·rename_i L H;exact b6g h A D C H E z B
    ·cases z
   ·rename_i m C;split at z
    ·split at z
     ·rename_i L H;exact d2x h A D C H z
     ·cases z
    ·cases z
   ·cases z
  ·cases z
 ·rename_i t x f A;split at z
  ·rename_i ti D;split at z
   ·rename_i C;split at z
    ·rename_i off size ag J;split at z
     ·cases z
     ·rename_i Z;exact b3c h A D C J (fun e=>by subst e;simp at Z) z
    ·cases z
   ·cases z
  ·cases z
 ·rename_i t x f A;split at z
  ·rename_i ti D;split at z
   ·rename_i C;split at z
    ·rename_i off size ag J;split at z
     ·rename_i cs E;split at z
      ·rename_i u R;exact d2w h A D C J E R z
      ·cases z
     ·cases z
    ·cases z
   ·cases z
  ·cases z
 ·rename_i t x i A;split at z
  ·rename_i ti D;split at z
   ·rename_i C;split at z
    ·rename_i L H;exact b3d h A D C H z B
    ·cases z
   ·rename_i m C;split at z
    ·rename_i L H;exact c4u h A D C H z B
    ·cases z
   ·cases z
  ·cases z
 ·rename_i t x i A;split at z
  ·rename_i ti D;split at z
   ·rename_i C;split at z
    ·rename_i s k j E hj;exact d2y h A D C E hj z B
    ·cases z
   ·cases z
  ·cases z
 ·rename_i fn first T A
  split at z
  ·rename_i f J;split at z
   ·rename_i ks hk;exact b6h h A rfl J hk z
   ·cases z
  ·cases z
 ·rename_i x i A;split at z
  ·rename_i ws E;split at z
   ·rename_i u R;exact c2e h A E R z
   ·cases z
  ·cases z
 ·rename_i c A;split at z
  ·rename_i b I;exact c2m h A I z B
  ·rename_i f I;split at z
   ·rename_i g T ws J hw;unfold b2U at z;split at z
    ·rename_i sm W;split at z
     ·exact c2k h A I J hw W z B
     ·exact c4C h A I J hw W z B
    ·cases z
   ·cases z
  ·cases z
 ·cases z
end
theorem a1X {α b:Type} {f g:α->Option b}:∀{l:List α},(∀x∈l,f x=g x)->a1x f l=a1x g l
 |[],_=>rfl
 | x::r,h=>by
   simp only[a1x];rw[h x (List.mem_cons_self ..),a1X fun y a=>h y (List.mem_cons_of_mem _ a)]
theorem b6m {Γ:Env} {o:Oper} {ρ ρ':Operand->V} {get:Get} {n:Nat} (h:∀x∈o.op.operands,ρ x=ρ' x):act Γ o ρ get n=act Γ o ρ' get n:=by
 obtain⟨dst,q,type,pos,e,guard⟩:=o;cases q<;>simp only[Op.operands]at h<;>simp only[act]
 case build t ps=>
  have:a1x (fun p=>match ρ p.2 with|.val w=>some (p.1,w)|.tup _=>none) ps.toList=a1x (fun p=>match ρ' p.2 with|.val w=>some (p.1,w)|.tup _=>none) ps.toList:=
   a1X fun p d=>by rw[h p.2 (by simpa using⟨p.1,by simpa using d⟩)]
  erw [this];first|done|rfl
 case buildSlice t n ps=>
  have:a1x (fun p=>match ρ p.2 with|.val w=>some (p.1,w)|.tup _=>none) ps.toList=a1x (fun p=>match ρ' p.2 with|.val w=>some (p.1,w)|.tup _=>none) ps.toList:=
   a1X fun p d=>by rw[h p.2 (by simpa using⟨p.1,by simpa using d⟩)]
  erw [this];first|done|rfl
 case makeFunc fn first captured=>
  have:a1x (fun x=>match ρ x with|.val (.one (.ptr k 0))=>some k|_=>none) captured.toList=a1x (fun x=>match ρ' x with|.val (.one (.ptr k 0))=>some k|_=>none) captured.toList:=
   a1X fun p d=>by rw[h p (by simp;exact .inr (by simpa using d))]
  erw [this];first|done|rfl
 case call c=>
  have a:c.args.toList.map ρ=c.args.toList.map ρ':=List.map_congr_left fun x j=>h x (by simp[Call.operands];exact .inr (by simpa using j))
  rw[a];cases hc:c.callee with
  |value f=>have l:ρ f=ρ' f:=h f (by simp[Call.operands,hc]);simp only[l]
  |invoke r m=>rfl
  |builtin b=>rfl
 case slice t x lo hi mx=>
  have j:ρ x=ρ' x:=h x (by simp);have i:lo.map ρ=lo.map ρ':=by cases lo with
   |none=>rfl
   |some y=>simp[h y (by simp)]
  have g:hi.map ρ=hi.map ρ':=by cases hi with
   |none=>rfl
   |some y=>simp[h y (by simp)]
  rw[j,i,g]
 all_goals (first|rfl|(simp_all;done))
section
variable {get get':Get}
theorem a8L {c:C} (h:∀k∈a0S c,get k=get' k):roC get c=roC get' c:=by
 cases c with
 |ref t k=>simp only[roC];rw[h k (by simp[a0S])]
 |asl t k o m=>simp only[roC];rw[h k (by simp[a0S])]
 |fn f a=>cases a<;>rfl
 |_=>rfl
theorem c4E {c:W} (h:∀k∈a0R c,get k=get' k):roW get c=roW get' c:=by
 cases c with
 |one c=>simp only[roW];rw[a8L fun k a=>h k (by simpa[a0R,W.cells]using a)]
 |agg cs=>simp only[roW];rw[a1X (f:=roC get) (l:=cs) fun c b=>a8L fun k a=>h k (List.mem_flatMap.2 ⟨c,b,a⟩)]
theorem b0u {cs:List C} (h:∀k∈cs.flatMap a0S,get k=get' k):a1x (roC get) cs=a1x (roC get') cs:=
 a1X fun c a=>a8L fun k b=>h k (List.mem_flatMap.2 ⟨c,a,b⟩)
theorem a5O {t:Ty}:∀{ps:List (Nat×W)} {l:List (Den t)},(∀k∈ps.flatMap (fun p=>a0R p.2),get k=get' k)->a2d get t l ps=a2d get' t l ps
 |[],l,_=>rfl
 | (i,u)::ps,l,h=>by
   simp only[a2d];rw[b0u (get':=get') (fun k a=>h k (List.mem_flatMap.2 ⟨(i,u),List.mem_cons_self ..,a⟩))];have c:∀l,a2d get t l ps=a2d get' t l ps:=fun l=>a5O fun k a=>h k (by
    obtain⟨p,b,a⟩:=List.mem_flatMap.1 a;exact List.mem_flatMap.2 ⟨p,List.mem_cons_of_mem _ b,a⟩)
   simp only[c]
theorem a6w {t:Ty} {c:C} (h:∀k∈a0S c,get k=get' k):a3R get t c=a3R get' t c:=by
 cases c with
 |ref t k=>simp only[a3R];rw[h k (by simp[a0S])]
 |_=>rfl
theorem b1I {n:Nat} {a:Bool} {size:Nat} {v:V} (h:∀k∈a1u v,get k=get' k):a1e get n a size v=a1e get' n a size v:=by
 cases v with
 |tup ws=>rfl
 | val u=>cases u with
   |agg cs=>rfl
   | one c=>cases c with
     |ptr k off=>simp only[a1e];rw[h k (by simp[a1u,a0R,W.cells,a0S])]
     |eptr k t i off=>simp only[a1e];rw[h k (by simp[a1u,a0R,W.cells,a0S])]
     |aptr k off m j=>simp only[a1e];rw[h k (by simp[a1u,a0R,W.cells,a0S])]
     |aeptr k t i off m j=>simp only[a1e];rw[h k (by simp[a1u,a0R,W.cells,a0S])]
     |_=>rfl
theorem a9Z {n:Nat} {size:Nat} {u:W} {v:V} (h:∀k∈a1u v++a0R u,get k=get' k):a1n get n size u v=a1n get' n size u v:=by
 have b:a1x (roC get) u.cells=a1x (roC get') u.cells:=b0u fun k a=>h k (List.mem_append_right _ a)
 cases v with
 |tup ws=>rfl
 | val x=>cases x with
   |agg cs=>rfl
   | one c=>cases c with
     |ptr k off=>simp only[a1n];rw[h k (by simp[a1u,a0R,W.cells,a0S])]
     |eptr k t i off=>simp only[a1n];rw[h k (by simp[a1u,a0R,W.cells,a0S]),b]
     |aptr k off m j=>simp only[a1n];rw[h k (by simp[a1u,a0R,W.cells,a0S])]
     |aeptr k t i off m j=>simp only[a1n];rw[h k (by simp[a1u,a0R,W.cells,a0S])]
     |rptr t l i off=>cases t<;>rfl
     |_=>rfl
theorem b3j {n:Nat} {s:Srt} {c:C} (h:∀k∈a0S c,get k=get' k):a7G get n s c=a7G get' n s c:=by
 cases c with
 |ref t k=>cases s<;>simp only[a7G];rw[h k (by simp[a0S])]
 |_=>cases s<;>rfl
theorem a8M {n:Nat} {t:Ty} {bytes:Nat} {s x:C} (h:∀k∈a0S s++a0S x,get k=get' k):a2H get n t bytes s x=a2H get' n t bytes s x:=by
 unfold a2H;rw[a6w (get':=get') fun k a=>h k (List.mem_append_right _ a)];cases s with
 |ref t k=>dsimp only;rw[h k (by simp[a0S])]
 |_=>rfl
theorem a8b {Γ:Env} {n:Nat} {b:Builtin} {ts:List Nat} {args:List V} (h:∀k∈args.flatMap a1u,get k=get' k):a3k Γ get n b ts args=a3k Γ get' n b ts args:=by
 have g:∀c,args=[.val (.one c)]->∀s,a7G get n s c=a7G get' n s c:=fun c e s=>b3j fun k f=>h k (by subst e;simpa[a1u,a0R,W.cells]using f)
 have i:∀c d,args=[.val (.one c),.val (.one d)]->∀t a,a2H get n t a c d=a2H get' n t a c d:=fun c d e t a=>a8M fun k f=>h k (by subst e;simpa[a1u,a0R,W.cells]using f)
 unfold a3k;split
 ·simp only[g _ rfl]
 ·simp only[i _ _ rfl]
 ·rfl
 ·rfl
 ·rfl
 ·rfl
 ·rfl
 ·rfl
 ·rfl
 ·simp_all
theorem a5e (get:Get):∀(f:Nat) (b a:List Nat) (k:Nat),k∈a->k∈a2E get f b a
 |0,_,a,k,h=>by simpa[a2E]using h
 |f+1,[],a,k,h=>by simpa[a2E]using h
 | f+1,j::b,a,k,h=>by
   unfold a2E;split
   ·exact a5e get f b a k h
   ·split
    ·exact a5e get f _ _ k (List.mem_append_left _ h)
    ·exact a5e get f _ _ k (List.mem_append_left _ h)
theorem a4B:∀(f:Nat) (b a:List Nat),(∀k∈a2E get f b a,get k=get' k)->a2E get f b a=a2E get' f b a
 |0,_,a,h=>rfl
 |f+1,[],a,h=>rfl
 | f + 1,j::b,a,h=>by
   have c:b1w a j=false->get j=get' j:=by
    intro e;refine h j ?_;unfold a2E;rw[e];dsimp only;split
    ·exact a5e get f _ _ j (List.mem_append_right _ (by simp))
    ·exact a5e get f _ _ j (List.mem_append_right _ (by simp))
   unfold a2E at h ⊢;cases hq:b1w a j with
   | true =>
     rw[hq]at h;exact a4B f b a h
   | false =>
     rw[hq]at h;dsimp only at h ⊢;rw[c hq]at h ⊢;split at h
     ·exact a4B f _ _ h
     ·exact a4B f _ _ h
theorem b1J {sm:a6m} {n:Nat} {args:List W} (h:∀k∈a2E get a1P (args.flatMap a0R) [],get k=get' k):a4s sm get n args=a4s sm get' n args:=by
 unfold a4s;rw[<- a4B _ _ _ h];dsimp only;rw[a1X (f:=fun k=>(get k).bind (b2S fun k=>a2F (a2E get a1P (args.flatMap a0R) []) k 0)) fun k a=>by rw[h k a]]
theorem b3k {sm:a6m} {frz:Bool} {n:Nat} {args:List W} (h:∀k∈args.flatMap a0R,get k=get' k):a6p sm frz get n args=a6p sm frz get' n args:=by
 unfold a6p;rw[a1X (f:=roW get) fun c a=>c4E fun k b=>h k (List.mem_flatMap.2 ⟨c,a,b⟩)]
theorem b0v:∀{vs:List V} {ws:List W},a5V vs=some ws->vs.flatMap a1u=ws.flatMap a0R
 |[],ws,h=>by simp only[a5V,a1x,injEq]at h;subst h;rfl
 | v :: vs,ws,h=>by
   unfold a5V at h;simp only[a1x]at h;split at h
   ·rename_i y b;split at h
    ·rename_i ys a;cases h;have:=b0v (vs:=vs) (ws:=ys) a;cases v with
     |tup _=>cases b
     |val u=>cases b;simp[a1u,this]
    ·cases h
   ·cases h
theorem a8N:∀(a:List Nat),((a.map fun k=>W.one (.ptr k 0)).flatMap a0R)=a
 |[]=>rfl
 |k::r=>by simp only[List.map_cons,List.flatMap_cons,a8N r];rfl
theorem c2n {Γ:Env} {t:Nat} {x:Operand} {v:V} {k:Nat} (h:k∈a1u (b1z Γ t x v)):k∈a1u v:=by
 unfold b1z at h;split at h
 ·exact h
 ·split at h
  ·split at h
   ·split at h
    ·simp[a1u,a0R,W.cells,a0S]at h
    ·exact h
   ·exact h
  ·exact h
theorem b6n {Γ:Env} {o:Oper} {ρ:Operand->V} {n:Nat} (h:∀k∈a8m o ρ get,get k=get' k):act Γ o ρ get n=act Γ o ρ get' n:=by
 obtain⟨dst,I,type,pos,m,guard⟩:=o;cases I<;>simp only[a8m]at h<;>simp only[act]
 case load t x=>
  split
  ·exact b1I h
  ·rfl
 case store t x y=>
  split
  ·rename_i ti u K v;refine a9Z fun k a=>h k ?_
   rcases List.mem_append.1 a with a|a
   ·exact List.mem_append_left _ a
   ·exact List.mem_append_right _ (c2n (Γ:=Γ) (t:=t) (x:=y) (by rw[v];exact a))
  ·rfl
 case convert src dst x=>
  split
  ·rename_i z w c G hd l;split
   ·rfl
   ·have:c2a Γ get z w c=c2a Γ get' z w c:=by
     unfold c2a;rw[a6w (get':=get') fun k a=>h k (by rw[l];simpa[a1u,a0R,W.cells]using a)]
    rw[this]
  ·rfl
 case indexAddr t x i =>
  split
  ·split
   ·split
    ·split
     ·rfl
     ·rename_i t k _ j l D;rw[l]at h;rw[h k (by simp[a1u,a0R,W.cells,a0S])]
     ·rfl
     ·rfl
    ·rfl
   ·rfl
   ·rfl
  ·rfl
 case slice t x lo D mx=>
  split
  ·split
   ·rfl
   ·rfl
   ·rename_i L k G l;rw[l]at h;split
    ·unfold a8l;rw[h k (by simp[a1u,a0R,W.cells,a0S])]
    ·rfl
   ·rfl
   ·rfl
  ·rfl
 case buildSlice t len parts =>
  split
  ·split
   ·split
    ·split
     ·rename_i ps s;split
      ·rw[a5O (get':=get') fun k a=>h k ?_];obtain⟨p,E,a⟩:=List.mem_flatMap.1 a;obtain⟨q,F,r⟩:=b8r s p E;refine List.mem_flatMap.2 ⟨q,F,?_⟩;split at r
       ·rename_i u v;cases r;rw[v];exact a
       ·cases r
      ·rfl
     ·rfl
    ·rfl
   ·rfl
  ·rfl
 case call c=>
  split
  ·rename_i b J;refine a8b fun k a=>h k ?_
   refine List.mem_append_left _ (List.mem_append_left _ ?_);simpa[List.flatMap_map]using a
  ·rename_i f B;split
   ·rename_i g e ws C H;rw[B]at h;dsimp only at h;have d:(c.args.toList.flatMap fun x=>a1u (ρ x))++a1u (ρ f)=(ws++e.map fun k=>W.one (.ptr k 0)).flatMap a0R:=by
     have A:=b0v H;rw[List.flatMap_append,<- A,a8N,C,List.flatMap_map];simp[a1u,a0R,W.cells,a0S]
    rw[d]at h;unfold b2U;split
    ·split
     ·exact b1J fun k a=>h k (List.mem_append_right _ a)
     ·exact b3k fun k a=>h k (List.mem_append_left _ a)
    ·rfl
   ·rfl
  ·rfl
end
end Go.Proofs.YtjomnmoekchfeaaGreatDoor.AM
