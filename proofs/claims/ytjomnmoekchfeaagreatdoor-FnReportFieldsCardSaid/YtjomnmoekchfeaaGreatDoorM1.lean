/- Texts of one proof, joined: an abstract machine for the program, its functions evaluated, plain lemmas. Conditions: those that each lemma names. -/
import Derived.Calls
import Derived.Orders
import Derived.Below
import Derived.KernelRfl
import Derived.Laws.CopyRow
import Derived.Laws.AppendOwn
import Derived.WalkKit
import Derived.Laws.MakeOwn
import Derived.Laws.OwnMore
import Derived.Laws.StructEq
import Derived.Laws.FloatArith
import Derived.Laws.FloatBits
import Derived.Laws.ComplexArith
import Derived.WalkLawsBesides
import Derived.WalkSpells
import Derived.Laws.BytesString
set_option linter.unusedVariables false
set_option linter.unusedSimpArgs false
namespace Go.Proofs.YtjomnmoekchfeaaGreatDoor.AM
open Bool (and_eq_true)
open List (length_append)
open Nat (le_refl beq)
open Option.some (injEq)
open Go
inductive Ty where
 |bool
 |int (k:IntKind)
 |flt (k:FloatKind)
 |cpx (k:FloatKind)
 |str
 |slice (t:Ty)
 |nil
 |cons (a b:Ty)
 |jnk
def Ty.isJ:Ty->Bool
 |.jnk=>true
 |_=>false
@[reducible] def Den:Ty->Type
 |.bool=>Bool
 |.int _=>Int
 |.flt _=>Nat
 |.cpx _=>Nat×Nat
 |.str=>ByteArray
 |.slice t=>List (Den t)
 |.nil=>Unit
 |.cons a b=>Den a×Den b
 |.jnk=>Unit
def Ty.size:Ty->Nat
 |.nil=>0
 |.cons a b=>a.size+b.size
 |_=>1
def zero:(t:Ty)->Den t
 |.bool=>false
 |.int _=>0
 |.flt _=>0
 |.cpx _=>(0,0)
 |.str=>ByteArray.empty
 |.slice _=>[]
 |.nil=>()
 |.cons a b=>(zero a,zero b)
 |.jnk=>()
def a2Q:(a b:Ty)->Option (PLift (a=b))
 |.bool,.bool=>some ⟨rfl⟩
 |.int k,.int k'=>if h:k=k' then some ⟨by rw[h]⟩else none
 |.flt k,.flt k'=>if h:k=k' then some ⟨by rw[h]⟩else none
 |.cpx k,.cpx k'=>if h:k=k' then some ⟨by rw[h]⟩else none
 |.str,.str=>some ⟨rfl⟩
 | .slice a,.slice b=>match a2Q a b with
   |some ⟨h⟩=>some ⟨by rw[h]⟩
   |none=>none
 |.nil,.nil=>some ⟨rfl⟩
 |.jnk,.jnk=>some ⟨rfl⟩
 | .cons a b,.cons a' b'=>match a2Q a a',a2Q b b' with
   |some ⟨h⟩,some ⟨h'⟩=>some ⟨by rw[h,h']⟩
   |_,_=>none
 |_,_=>none
inductive C where
 |pois
 |bool (b:Bool)
 |int (k:IntKind) (n:Int)
 |flt (k:FloatKind) (b:Nat)
 |cpx (k:FloatKind) (a b:Nat)
 |str (s:ByteArray)
 |nil (t:Ty)
 |sl (t:Ty) (l:List (Den t))
 |ref (t:Ty) (key:Nat)
 |ptr (key off:Nat)
 |eptr (key:Nat) (t:Ty) (i off:Nat)
 |rptr (t:Ty) (l:List (Den t)) (i off:Nat)
 |fn (f:Nat) (caps:List Nat)
 |aptr (key off m j:Nat)
 |aeptr (key:Nat) (t:Ty) (i off m j:Nat)
 |arptr (t:Ty) (l:List (Den t)) (i off m j:Nat)
 |asl (t:Ty) (key off m:Nat)
 |junk
inductive W where
 |one (c:C)
 |agg (cs:List C)
def W.cells:W->List C
 |.one c=>[c]
 |.agg cs=>cs
inductive V where
 |val (w:W)
 |tup (ws:List W)
def pois:V := .val (.one .pois)
inductive Blk where
 |box (cs:List C)
 |arr (t:Ty) (l:List (Den t))
abbrev Get:=Nat->Option Blk
def enc:(t:Ty)->Den t->List C
 |.bool,b=>[.bool b]
 |.int k,n=>[.int k n]
 |.flt k,b=>[.flt k b]
 |.cpx k,p=>[.cpx k p.1 p.2]
 |.str,s=>[.str s]
 |.slice t,l=>[.sl t l]
 |.nil,_=>[]
 |.cons a b,p=>enc a p.1++enc b p.2
 |.jnk,_=>[.junk]
def dec:(t:Ty)->List C->Option (Den t×List C)
 |.bool,.bool b::r=>some (b,r)
 |.int k,.int k' n::r=>if k=k' then some (n,r)else none
 |.flt k,.flt k' n::r=>if k=k' then some (n,r)else none
 |.cpx k,.cpx k' a b::r=>if k=k' then some ((a,b),r)else none
 |.str,.str s::r=>some (s,r)
 | .slice t,.sl t' l::r=>match a2Q t' t with
   |some ⟨h⟩=>some (h ▸ l,r)
   |none=>none
 |.slice _,.nil _::r=>some ([],r)
 |.nil,r=>some ((),r)
 | .cons a b,r=>match dec a r with
   | some (x,r')=>match dec b r' with
     |some (y,r'')=>some ((x,y),r'')
     |none=>none
   |none=>none
 |_,_=>none
inductive Srt where
 |slice
 |array (n:Nat)
 |string
 |struct
 |bool
 |int (k:IntKind)
 |float (k:FloatKind)
 |complex (k:FloatKind)
 |other
structure TI where
 size:Nat
 bytes:Nat
 agg:Bool
 ty:Ty
 zero:List C
 fields:List (Nat×Nat×Bool)
 elem:Nat
 sort:Srt
structure a5A where
 own:Bool
 run:List W->List Blk->Option (Bool×List W×List (Option Blk))
structure St where
 tmps:List (Nat×V)
 mem:List (Nat×Option Blk)
 n:Nat
 m:Nat
inductive Ex where
 |normal
 |exit (id:Nat)
 |ret
inductive Cv where
 |nil (t:Nat)
 |boxNil (t off:Nat)
 |frz (t:Nat)
 |frzBox (t:Nat)
 |forget (t:Nat)
 |sl (t:Nat)
 |boxSl (t off:Nat)
 |jnk (t:Nat)
 |mv (t off j:Nat)
 |frzCell (t off:Nat)
structure a4l where
 live:List Nat
 own:List Cv
 ex:Nat
 past:List Nat
 pown:List Cv
 run:St->Option (Bool×Bool×St×St)
structure Env where
 tab:Nat->Option TI
 sem:Nat->Option a5A
 eqT:Nat->Bool
 nt:Nat
 res:List ResultVar
 frz:List Nat
 cut:List (Nat×(List Nat×List Cv))
 loops:List (Nat×a4l)
 past:List (Nat×(List Nat×List Cv))
 rown:List Cv
def a1w {α:Type}:List (Nat×α)->Nat->Option α
 |[],_=>none
 | (k,x)::r,t=>match beq k t with
   |true=>some x
   |false=>a1w r t
def St.get (s:St) (k:Nat):Option Blk:=match a1w s.mem k with
 |some b=>b
 |none=>none
def St.tmpV (s:St) (t:Nat):V:=match a1w s.tmps t with
 |some v=>v
 |none=>pois
def St.put (s:St) (t:Nat) (v:V):St:={ s with tmps:=(t,v)::s.tmps }
def St.putO (s:St) (d:Option Nat) (v:V):St:=match d with
 |some t=>s.put t v
 |none=>s
def b6C:Value->C
 |.bool b => .bool b
 |.int k n => .int k n
 |.float k b => .flt k b
 |.complex k a b => .cpx k a b
 |.string s => .str s
 |_ => .pois
def b6D:Value->V
 |.agg cs => .val (.agg (cs.toList.map b6C))
 |v => .val (.one (b6C v))
def St.val (s:St):Operand->V
 |.tmp t=>s.tmpV t
 |.const v=>b6D v
 |.func f => .val (.one (.fn f []))
 |.global _=>pois
def qn:FloatKind->Nat
 |.f32=>2143289344
 |.f64=>9221120237041090560
def a0b (c:BinOp) (k:FloatKind) (a b:Nat):Nat:=
 (match c with
  |.add=>k.format.add a b
  |.sub=>k.format.sub a b
  |.mul=>k.format.mul a b
  |_=>k.format.div a b).getD (qn k)
def a1Q (c:BinOp) (k:IntKind) (a b:Int):Int:=
 let x:=BitVec.ofInt k.bits a
 let y:=BitVec.ofInt k.bits b
 k.wrap ((match c with
  |.and=>x &&& y
  |.or=>x ||| y
  |.xor=>x ^^^ y
  |_=>x &&& ~~~y).toNat:Int)
def feq (k:FloatKind) (a b:Nat):Bool:=k.format.order a b==some .eq
def flt (k:FloatKind) (a b:Nat):Bool:=k.format.order a b==some .lt
def fgt (k:FloatKind) (a b:Nat):Bool:=k.format.order a b==some .gt
def a1a (a b:ByteArray):Bool:=a.toList==b.toList
def f1o (c:BinOp) (k:IntKind) (a b:Int):Option (Bool×C):=
 match c with
 |.add=>some (true,.int k (k.wrap (a+b)))
 |.sub=>some (true,.int k (k.wrap (a-b)))
 |.mul=>some (true,.int k (k.wrap (a*b)))
 |.quo=>some (b != 0,.int k (k.wrap (a.tdiv b)))
 |.rem=>some (b != 0,.int k (a.tmod b))
 |.and=>some (true,.int k (a1Q .and k a b))
 |.or=>some (true,.int k (a1Q .or k a b))
 |.xor=>some (true,.int k (a1Q .xor k a b))
 |.andNot=>some (true,.int k (a1Q .andNot k a b))
 |.eql=>some (true,.bool (a==b))
 |.neq=>some (true,.bool (a != b))
 |.lss=>some (true,.bool (decide (a<b)))
 |.leq=>some (true,.bool (decide (a<=b)))
 |.gtr=>some (true,.bool (decide (a>b)))
 |.geq=>some (true,.bool (decide (a ≥ b)))
 |_=>none
def f1p (c:BinOp) (k:FloatKind) (a b:Nat):Option C:=
 match c with
 |.add=>some (.flt k (a0b .add k a b))
 |.sub=>some (.flt k (a0b .sub k a b))
 |.mul=>some (.flt k (a0b .mul k a b))
 |.quo=>some (.flt k (a0b .quo k a b))
 |.eql=>some (.bool (feq k a b))
 |.neq=>some (.bool (!feq k a b))
 |.lss=>some (.bool (flt k a b))
 |.leq=>some (.bool (flt k a b||feq k a b))
 |.gtr=>some (.bool (fgt k a b))
 |.geq=>some (.bool (fgt k a b||feq k a b))
 |_=>none
def f1q (e:BinOp) (k:FloatKind) (a b c d:Nat):Option C:=
 match e with
 |.add=>some (.cpx k (a0b .add k a c) (a0b .add k b d))
 |.sub=>some (.cpx k (a0b .sub k a c) (a0b .sub k b d))
 |.eql=>some (.bool (feq k a c&&feq k b d))
 |.neq=>some (.bool !(feq k a c&&feq k b d))
 |_=>none
def f1r (c:BinOp) (a b:ByteArray):Option (Bool×C):=
 match c with
 |.add=>some (decide (a.size+b.size<=9223372036854775807),.str (a++b))
 |.eql=>some (true,.bool (a1a a b))
 |.neq=>some (true,.bool (!a1a a b))
 |_=>none
def a2o (k k':IntKind):Bool:=decide (k=k')
def a1b (k k':FloatKind):Bool:=decide (k=k')
def c1A (e:BinOp):C->C->Option (Bool×C)
 | .int k a,.int k' b=>match e with
   |.shl=>some (decide (0<=b),.int k (k.wrap (a*2^(min b.toNat k.bits))))
   |.shr=>some (decide (0<=b),.int k (a.fdiv (2^(min b.toNat k.bits))))
   | _=>match a2o k k' with
     |true=>f1o e k a b
     |false=>none
 | .flt k a,.flt k' b=>match a1b k k' with
   |true=>(f1p e k a b).map (true,·)
   |false=>none
 | .cpx k a b,.cpx k' c d=>match a1b k k' with
   |true=>(f1q e k a b c d).map (true,·)
   |false=>none
 |.str a,.str b=>f1r e a b
 |_,_=>none
def f1s (c:BinOp) (a b:Bool):Option C:=match c with
 |.eql=>some (.bool (a==b))
 |.neq=>some (.bool (!(a==b)))
 |_=>none
def b0D:C->Option Bool
 |.bool b=>some b
 |_=>none
def a2B:List C->List C->Option Bool
 |[],[]=>some true
 | .int k a::r,.int k' b::r'=>match a2o k k' with
   | true=>match r,r' with
     |[],[]=>some (a==b)
     | _,_=>match a2B r r' with
       |some e=>some (a==b&&e)
       |none=>none
   |false=>none
 |.bool a::r,.bool b::r'=>match r,r' with
  |[],[]=>some (a==b)
  | _,_=>match a2B r r' with
    |some e=>some (a==b&&e)
    |none=>none
 |_,_=>none
def a7O:List C->List C->Bool
 |[],[]=>true
 |.int k _::r,.int k' _::r'=>a2o k k'&&a7O r r'
 |.bool _::r,.bool _::r'=>a7O r r'
 |_,_=>false
def f1t (a:BinOp) (xs ys:List C):Option C:=match a2B xs ys with
 | some b=>match a with
   |.eql=>some (.bool b)
   |.neq=>some (.bool (!b))
   |_=>none
 |none=>none
def a3g (k:FloatKind) (a:Nat):Nat:=a ^^^ 2^(k.format.exponentBits+k.format.fractionBits)
def unC (c:UnOp):C->Option C
 | .int k n=>match c with
   |.neg=>some (.int k (k.wrap (0-n)))
   |_=>none
 | .flt k b=>match c with
   |.neg=>some (.flt k (a3g k b))
   |_=>none
 | .cpx k a b=>match c with
   |.neg=>some (.cpx k (a3g k a) (a3g k b))
   |_=>none
 | .bool b=>match c with
   |.not=>some (.bool (!b))
   |_=>none
 |_=>none
def a5B (k:FloatKind) (b:Nat) (d:IntKind):Bool:=
 match Ieee.Datum.toInt .zero (k.decode b)with
 |some n=>decide (d.min<=n)&&decide (n<=d.max)
 |none=>false
def f2i (k:FloatKind) (b:Nat):Int:=(Ieee.Datum.toInt .zero (k.decode b)).getD 0
def a1J (b:Nat):Bool:=!(match FloatKind.f64.decode b with
 |.number s m e=>(FloatKind.f32.decode (FloatKind.f32.encode (.number s m e))).isInfinity
 |_=>false)
def a7P (a dst:FloatKind) (b:Nat):Nat:=match a.decode b with
 |.nan _ _=>qn dst
 |d=>dst.encode d
def a0y (s d:FloatKind) (b:Nat):Bool×Nat:=match s,d with
 |.f32,.f32=>(true,b)
 |.f64,.f64=>(true,b)
 |.f32,.f64=>(true,a7P .f32 .f64 b)
 |.f64,.f32=>(a1J b,a7P .f64 .f32 b)
def b4M (dst:Srt):C->Option (Bool×C)
 | .int _ n=>match dst with
   |.int k=>some (true,.int k (k.wrap n))
   |.float k=>some (true,.flt k (k.nearest n))
   |_=>none
 | .flt s b=>match dst with
   |.int k=>some (a5B s b k,.int k (f2i s b))
   |.float k=>some ((a0y s k b).1,.flt k (a0y s k b).2)
   |_=>none
 | .cpx s a b=>match dst with
   |.complex k=>some ((a0y s k a).1&&(a0y s k b).1,.cpx k (a0y s k a).2 (a0y s k b).2)
   |_=>none
 | .str x=>match dst with
   |.string=>some (true,.str x)
   |_=>none
 |_=>none
def a2p (cs:List C) (off n:Nat):List C:=(cs.drop off).take n
def c8R (cs:List C) (off:Nat) (a:List C):List C:=cs.take off++a++cs.drop (off+a.length)
def a3h (agg:Bool) (size:Nat) (cs:List C):Option W:=match agg with
 | true=>match beq cs.length size with
   |true=>some (.agg cs)
   |false=>none
 | false=>match beq size 1 with
   | true=>match cs with
     |[c]=>some (.one c)
     |_=>none
   |false=>none
def b9U (a:List (Nat×Nat×Bool)):List C->List (Nat×W)->Option (List C)
 |cs,[]=>some cs
 | cs,(i,w)::r=>match a[i]? with
   | some (off,size,_)=>match beq w.cells.length size&&Nat.ble (off+size) cs.length with
     |true=>b9U a (c8R cs off w.cells) r
     |false=>none
   |none=>none
def a0P:C->List Nat
 |.pois=>[]
 |.bool _=>[]
 |.int _ _=>[]
 |.flt _ _=>[]
 |.cpx _ _ _=>[]
 |.str _=>[]
 |.nil _=>[]
 |.sl _ _=>[]
 |.rptr _ _ _ _=>[]
 |.ref _ k=>[k]
 |.ptr k _=>[k]
 |.eptr k _ _ _=>[k]
 |.fn _ a=>a
 |.aptr k _ _ _=>[k]
 |.aeptr k _ _ _ _ _=>[k]
 |.arptr _ _ _ _ _ _=>[]
 |.asl _ k _ _=>[k]
 |.junk=>[]
def a0M (w:W):List Nat:=w.cells.flatMap a0P
def a1n:V->List Nat
 |.val w=>a0M w
 |.tup ws=>ws.flatMap a0M
def b0E:List Nat->Nat->Bool
 |[],_=>false
 | x::r,k=>match beq x k with
   |true=>true
   |false=>b0E r k
def a2q (get:Get):Nat->List Nat->List Nat->List Nat
 |0,_,acc=>acc
 |_+1,[],acc=>acc
 | f + 1,k::todo,acc=>match b0E acc k with
   |true=>a2q get f todo acc
   | false=>match get k with
     |some (.box cs)=>a2q get f (cs.flatMap a0P++todo) (acc++[k])
     |_=>a2q get f todo (acc++[k])
def a1D:Nat:=400
def a2r:List Nat->Nat->Nat->Option Nat
 |[],_,_=>none
 | x::r,k,i=>match beq x k with
   |true=>some i
   |false=>a2r r k (i+1)
def a1q {α β:Type} (f:α->Option β):List α->Option (List β)
 |[]=>some []
 | x :: r=>match f x with
   | some y=>match a1q f r with
     |some ys=>some (y::ys)
     |none=>none
   |none=>none
def c1s (a:Nat->Option Nat):C->Option C
 |.ref t k=>(a k).map (.ref t)
 |.ptr k o=>(a k).map fun k' => .ptr k' o
 |.eptr k t i o=>(a k).map fun k' => .eptr k' t i o
 |.fn f b=>(a1q a b).map (.fn f)
 |.aptr k o m j=>(a k).map fun k' => .aptr k' o m j
 |.aeptr k t i o m j=>(a k).map fun k' => .aeptr k' t i o m j
 |.asl t k o m=>(a k).map fun k' => .asl t k' o m
 |c=>some c
def b6E (a:Nat->Option Nat):W->Option W
 |.one c=>(c1s a c).map .one
 |.agg cs=>(a1q (c1s a) cs).map .agg
def e1H (a:Nat->Option Nat):V->Option V
 |.val w=>(b6E a w).map .val
 |.tup ws=>(a1q (b6E a) ws).map .tup
def b1U (a:Nat->Option Nat):Blk->Option Blk
 |.box cs=>(a1q (c1s a) cs).map .box
 |.arr t l=>some (.arr t l)
def a5d (a:Nat->Option Nat):Option Blk->Option (Option Blk)
 |some b=>(b1U a b).map some
 |none=>some none
def c8S (t:Ty):Nat->List C->Option (List (Den t))
 |0,[]=>some []
 |0,_::_=>none
 | m + 1,cs=>match dec t cs with
   | some (x,r)=>match c8S t m r with
     |some l=>some (x::l)
     |none=>none
   |none=>none
def d7B (k:FloatKind):List C->Option (List (Nat×Nat))
 |[]=>some []
 | .cpx k' a b::r=>match a1b k k' with
   | true=>match d7B k r with
     |some l=>some ((a,b)::l)
     |none=>none
   |false=>none
 |_::_=>none
def e1I (cs:List C) (m j:Nat):Option C:=match cs with
 | .cpx k _ _::_=>match beq cs.length m with
   | true=>match d7B k cs with
     |some l=>some (.cpx k (l.getD j (0,0)).1 (l.getD j (0,0)).2)
     |none=>none
   |false=>none
 |_=>none
def e1J (k:FloatKind) (j a b:Nat):Nat->List (Nat×Nat)->List C
 |_,[]=>[]
 |i,p::r => .cpx k (bif beq i j then a else p.1) (bif beq i j then b else p.2)::e1J k j a b (i+1) r
def e2E (cs:List C) (m j:Nat) (w:W):Option (List C):=match w with
 | .one (.cpx k a b)=>match beq cs.length m with
   | true=>match d7B k cs with
     |some l=>some (e1J k j a b 0 l)
     |none=>none
   |false=>none
 |_=>none
def roC (get:Get):C->Option C
 | .ref t k=>match get k with
   | some (.arr t' l)=>match a2Q t' t with
     | some ⟨h⟩=>match t.isJ with
       |false=>some (.sl t (h ▸ l))
       |true=>none
     |none=>none
   |_=>none
 |.ptr _ _=>none
 |.eptr _ _ _ _=>none
 |.aptr _ _ _ _=>none
 |.aeptr _ _ _ _ _ _=>none
 |.arptr _ _ _ _ _ _=>none
 | .asl t k o m=>match get k with
   | some (.box cs)=>match c8S t m (a2p cs o (m*t.size))with
     |some l=>some (.sl t l)
     |none=>none
   |_=>none
 |.fn f []=>some (.fn f [])
 |.fn _ (_::_)=>none
 |c=>some c
def roW (get:Get):W->Option W
 |.one c=>(roC get c).map .one
 |.agg cs=>(a1q (roC get) cs).map .agg
def c1B:C->Bool
 |.ref _ _=>true
 |.asl _ _ _ _=>true
 |_=>false
def bare:C->Bool
 |.sl _ _=>false
 |.rptr _ _ _ _=>false
 |.arptr _ _ _ _ _ _=>false
 |_=>true
def b9V:Ty->Bool
 |.slice _=>false
 |.cons a b=>b9V a&&b9V b
 |_=>true
def c1C:Option Blk->Bool
 |some (.box cs)=>cs.all bare
 |some (.arr t _)=>b9V t
 |none=>true
structure Out where
 ok:Bool
 v:V
 upd:List (Nat×Option Blk)
 n:Nat
def a0w (n:Nat) (b:Bool) (w:W):Option Out:=some ⟨b,.val w,[],n⟩
def a3s (get:Get) (t:Ty):C->Option (List (Den t)×List Nat)
 |.nil _=>some ([],[])
 | .sl a l=>match a2Q a t with
   |some ⟨h⟩=>some (h ▸ l,[])
   |none=>none
 | .ref _ k=>match get k with
   | some (.arr a l)=>match a2Q a t with
     |some ⟨h⟩=>some (h ▸ l,[k])
     |none=>none
   |_=>none
 |_=>none
def a1R (get:Get) (t:Ty):List (Den t)->List (Nat×W)->Option (List (Den t))
 |l,[]=>some l
 | l, (i,w)::r=>match a1q (roC get) w.cells with
   | some cs=>match dec t cs with
     | some (x,[])=>match Nat.blt i l.length with
       |true=>a1R get t (l.set i x) r
       |false=>none
     |_=>none
   |none=>none
def a0B (b:Option V) (a:Int):Option Int:=match b with
 |none=>some a
 |some (.val (.one (.int _ n)))=>some n
 |_=>none
def a1c (get:Get) (n:Nat) (agg:Bool) (size:Nat):V->Option Out
 | .val (.one (.ptr k off))=>match get k with
   | some (.box cs)=>match a3h agg size (a2p cs off size)with
     |some w=>a0w n true w
     |none=>none
   |_=>none
 | .val (.one (.eptr k t i off))=>match get k with
   | some (.arr t' l)=>match a2Q t' t with
     | some ⟨h⟩=>match a3h agg size (a2p (enc t ((h ▸ l:List (Den t)).getD i (zero t))) off size)with
       |some w=>a0w n true w
       |none=>none
     |none=>none
   |_=>none
 | .val (.one (.rptr t l i off))=>match a3h agg size (a2p (enc t (l.getD i (zero t))) off size)with
   |some w=>a0w n true w
   |none=>none
 | .val (.one (.aptr k off m j))=>match get k with
   | some (.box cs)=>match e1I (a2p cs off m) m j with
     | some c=>match a3h agg size [c]with
       |some w=>a0w n true w
       |none=>none
     |none=>none
   |_=>none
 | .val (.one (.aeptr k t i off m j))=>match get k with
   | some (.arr t' l)=>match a2Q t' t with
     | some ⟨h⟩=>match e1I (a2p (enc t ((h ▸ l:List (Den t)).getD i (zero t))) off m) m j with
       | some c=>match a3h agg size [c]with
         |some w=>a0w n true w
         |none=>none
       |none=>none
     |none=>none
   |_=>none
 | .val (.one (.arptr t l i off m j))=>match e1I (a2p (enc t (l.getD i (zero t))) off m) m j with
   | some c=>match a3h agg size [c]with
     |some w=>a0w n true w
     |none=>none
   |none=>none
 |_=>none
def b9W:C->Bool
 |.pois=>false
 |_=>true
def a1i (get:Get) (n:Nat) (size:Nat) (w:W):V->Option Out
 | .val (.one (.ptr k off))=>match get k with
   | some (.box cs)=>match beq w.cells.length size&&Nat.ble (off+size) cs.length&&w.cells.all b9W with
     |true=>some ⟨true,pois,[(k,some (.box (c8R cs off w.cells)))],n⟩
     |false=>none
   |_=>none
 | .val (.one (.eptr k t i off))=>match get k with
   | some (.arr t' l)=>match a2Q t' t with
     | some ⟨h⟩=>match a1q (roC get) w.cells with
       | some cs=>match beq cs.length size&&Nat.ble (off+size) t.size&&!b0E (w.cells.flatMap a0P) k&&w.cells.all b9W with
         | true=>match dec t (c8R (enc t ((h ▸ l:List (Den t)).getD i (zero t))) off cs)with
           |some (x,[])=>some ⟨true,pois,(k,some (.arr t ((h ▸ l:List (Den t)).set i x)))::(w.cells.flatMap a0P).map (·,none),n⟩
           |_=>none
         |false=>none
       |none=>none
     |none=>none
   |_=>none
 | .val (.one (.aptr k off m j))=>match get k with
   | some (.box cs)=>match e2E (a2p cs off m) m j w with
     | some a=>match beq size 1&&Nat.ble (off+m) cs.length with
       |true=>some ⟨true,pois,[(k,some (.box (c8R cs off a)))],n⟩
       |false=>none
     |none=>none
   |_=>none
 | .val (.one (.aeptr k t i off m j))=>match get k with
   | some (.arr t' l)=>match a2Q t' t with
     | some ⟨h⟩=>match e2E (a2p (enc t ((h ▸ l:List (Den t)).getD i (zero t))) off m) m j w with
       | some a=>match beq size 1&&Nat.ble (off+m) t.size with
         | true=>match dec t (c8R (enc t ((h ▸ l:List (Den t)).getD i (zero t))) off a)with
           |some (x,[])=>some ⟨true,pois,[(k,some (.arr t ((h ▸ l:List (Den t)).set i x)))],n⟩
           |_=>none
         |false=>none
       |none=>none
     |none=>none
   |_=>none
 | .val (.one (.rptr .jnk _ _ off))=>match w with
   | .one (.flt .f32 _)=>match beq size 1&&beq off 0 with
     |true=>some ⟨true,pois,[],n⟩
     |false=>none
   |_=>none
 |_=>none
def a2s (n size m:Nat) (x i:V):Option Out:=match beq size 1&&Nat.blt 1 m with
 | true=>match x,i with
   |.val (.one (.ptr k o)),.val (.one (.int _ j))=>a0w n (decide (0<=j)&&decide (j<(m:Int))) (.one (.aptr k o m j.toNat))
   |.val (.one (.eptr k t q o)),.val (.one (.int _ j))=>a0w n (decide (0<=j)&&decide (j<(m:Int))) (.one (.aeptr k t q o m j.toNat))
   |.val (.one (.rptr t l q o)),.val (.one (.int _ j))=>a0w n (decide (0<=j)&&decide (j<(m:Int))) (.one (.arptr t l q o m j.toNat))
   |_,_=>none
 |false=>none
def b0F (n m:Nat) (a:TI) (x:V):Option Out:=match beq a.ty.size a.size&&Nat.blt 0 m with
 | true=>match x with
   |.val (.one (.ptr k o))=>a0w n true (.one (.asl a.ty k o m))
   |_=>none
 |false=>none
def a7C (get:Get) (n size:Nat) (t:Ty) (k:Nat) (b:Option Int) (a:Int->Option Int):Option Out:=
 match get k with
 | some (.arr t' s)=>match a2Q t' t with
   | some ⟨e⟩=>match beq t.size size&&!t.isJ with
     | true=>match b,a (e ▸ s:List (Den t)).length with
       |some l,some h=>some ⟨decide (0<=l)&&decide (l<=h)&&decide (h<=((e ▸ s:List (Den t)).length:Int)),.val (.one (.sl t (((e ▸ s:List (Den t)).take h.toNat).drop l.toNat))),[(k,none)],n⟩
       |_,_=>none
     |false=>none
   |none=>none
 |_=>none
def a3j:Int:=1099511627776
def a0n (n:Nat):Bool:=Nat.ble n 1099511627776
theorem b0G {n:Nat} (h:a0n n=true):(n:Int)<=a3j:=by
 have:=Nat.le_of_ble_eq_true h;unfold a3j;omega
def a2t (get:Get) (n:Nat) (t:Ty) (bytes:Nat) (s x:C):Option Out:=
 match Nat.ble bytes 128 with
 |false=>none
 | true => match a3s get t x with
   |none=>none
   | some (new,kx)=>match s with
     |.nil _=>some ⟨a0n new.length,.val (.one (.ref t n)),[(n,some (.arr t new))],n+1⟩
     | .ref _ k=>match get k with
       | some (.arr t' l)=>match a2Q t' t with
         | some ⟨h⟩=>match b0E kx k with
           |true=>none
           |false=>some ⟨a0n ((h ▸ l:List (Den t)).length+new.length),.val (.one (.ref t n)),
            [(n,some (.arr t ((h ▸ l:List (Den t))++new))),(k,none)],n+1⟩
         |none=>none
       |_=>none
     |_=>none
def a0o (s:ByteArray) (i:Int):Int:=((s.data.toList.getD i.toNat 0).toNat:Int)
def e8J (a b:Int):Int:=if b>a then b else a
def a5e (a b:Int):Int:=if b<a then b else a
def b1Y (k:FloatKind) (a b:Nat):Nat:=match k.format.order a b with
 |none=>qn k
 |some .lt=>b
 |some .gt=>a
 |some .eq=>if(k.decode a).neg then b else a
def e8K (k:FloatKind) (a b:Nat):Nat:=match k.format.order a b with
 |none=>qn k
 |some .lt=>a
 |some .gt=>b
 |some .eq=>if(k.decode a).neg then a else b
def a6W (get:Get) (n:Nat) (s:Srt) (c:C):Option Out:=match s,c with
 |.slice,.nil _=>a0w n true (.one (.int .i64 0))
 |.slice,.sl _ l=>a0w n true (.one (.int .i64 l.length))
 | .slice,.ref _ k=>match get k with
   |some (.arr _ l)=>a0w n true (.one (.int .i64 l.length))
   |_=>none
 |.string,.str s=>a0w n true (.one (.int .i64 s.size))
 |_,_=>none
def e2F (t:Bool) (x y:V):V:=match t with
 |true=>x
 |false=>y
def a2P (Γ:Env) (get:Get) (n:Nat) (b:Builtin) (ts:List Nat) (args:List V):Option Out:=
 match b,args with
 | .len,[.val (.one c)]=>match ts with
   | [t]=>match Γ.tab t with
     |some ti=>a6W get n ti.sort c
     |none=>none
   |_=>none
 | .append, [.val (.one s),.val (.one x)]=>match ts with
   | [st,xt]=>match beq st xt with
     | true=>match Γ.tab st with
       | some e=>match e.sort with
         | .slice=>match Γ.tab e.elem with
           | some d=>match beq d.ty.size d.size&&Nat.blt 0 d.size with
             |true=>a2t get n d.ty d.bytes s x
             |false=>none
           |none=>none
         |_=>none
       |none=>none
     |false=>none
   |_=>none
 |.real,[.val (.one (.cpx k a _))]=>a0w n true (.one (.flt k a))
 |.imag,[.val (.one (.cpx k _ b))]=>a0w n true (.one (.flt k b))
 | .complex,[.val (.one (.flt k a)),.val (.one (.flt k' b))]=>match a1b k k' with
   |true=>a0w n true (.one (.cpx k a b))
   |false=>none
 | .max,[.val (.one (.int k a)),.val (.one (.int k' b))]=>match a2o k k' with
   |true=>a0w n true (.one (.int k (e8J a b)))
   |false=>none
 | .min,[.val (.one (.int k a)),.val (.one (.int k' b))]=>match a2o k k' with
   |true=>a0w n true (.one (.int k (a5e a b)))
   |false=>none
 | .max,[.val (.one (.flt k a)),.val (.one (.flt k' b))]=>match a1b k k' with
   |true=>a0w n true (.one (.flt k (b1Y k a b)))
   |false=>none
 | .min,[.val (.one (.flt k a)),.val (.one (.flt k' b))]=>match a1b k k' with
   |true=>a0w n true (.one (.flt k (e8K k a b)))
   |false=>none
 |_,_=>none
def a5C:List Nat->Nat->Nat->Nat
 |[],n,i=>n+i
 |k::_,_,0=>k
 |_::r,n,i+1=>a5C r n i
def c8T:List W->V
 |[w] => .val w
 |ws => .tup ws
def a2f (outs:List (Option Blk)):Get:=fun k=>(outs[k]?).join
def b4N:List Nat->List (Option Blk)->Nat->List (Nat×Option Blk)
 |_,[],_=>[]
 |k::ks,b::r,n=>(k,b)::b4N ks r n
 |[],b::r,n=>(n,b)::b4N [] r (n+1)
def a3M (sm:a5A) (get:Get) (n:Nat) (args:List W):Option Out:=
 let ks:=a2q get a1D (args.flatMap a0M) []
 match a1q (b6E fun k=>a2r ks k 0) args,a1q (fun k=>(get k).bind (b1U fun k=>a2r ks k 0)) ks with
 | some args',some ins=>match sm.run args' ins with
   | some (ok,rs,outs)=>match Nat.ble ks.length outs.length,a1q (b6E fun i=>some (a5C ks n i)) rs,a1q (a5d fun i=>some (a5C ks n i)) outs with
     |true,some rs',some outs'=>some ⟨ok,c8T rs',b4N ks outs' n,n+(outs.length-ks.length)⟩
     |_,_,_=>none
   |none=>none
 |_,_=>none
def a5D (sm:a5A) (frz:Bool) (get:Get) (n:Nat) (args:List W):Option Out:=
 match a1q (roW get) args with
 | some a=>match sm.run a []with
   | some (ok,rs,outs) =>
     match args.all (fun w=>w.cells.all (fun c=>!c1B c))||(!frz&&rs.all (fun w=>w.cells.all bare)&&outs.all c1C)with
     |false=>none
     | true=>match frz with
       | true=>match a1q (roW (a2f outs)) rs with
         |some b=>some ⟨ok,c8T b,[],n⟩
         |none=>none
       | false=>match a1q (b6E fun i=>some (n+i)) rs,a1q (a5d fun i=>some (n+i)) outs with
         |some b,some outs'=>some ⟨ok,c8T b,b4N [] outs' n,n+outs.length⟩
         |_,_=>none
   |none=>none
 |none=>none
def a5f:List V->Option (List W):=a1q fun
 |.val w=>some w
 |_=>none
def b1Z (Γ:Env) (o:Oper) (get:Get) (n:Nat) (f:Nat) (args:List W):Option Out:=
 match Γ.sem f with
 | some sm=>match sm.own with
   |true=>a3M sm get n args
   |false=>a5D sm (match o.dst with|some d=>b0E Γ.frz d|none=>false) get n args
 |none=>none
def a6X (l:List Int):ByteArray:=l.foldl (fun r n=>r.push (UInt8.ofNat n.toNat)) ByteArray.empty
def c1D:IntKind->Bool
 |.u8=>true
 |_=>false
def b9X (Γ:Env) (get:Get) (a b:TI) (c:C):Option ByteArray:=match a.sort,b.sort with
 | .slice,.string=>match Γ.tab a.elem with
   | some d=>match d.sort with
     | .int k=>match c1D k with
       | true=>match a3s get (.int .u8) c with
         |some (l,_)=>some (a6X l)
         |none=>none
       |false=>none
     |_=>none
   |none=>none
 |_,_=>none
def d7C (Γ:Env) (t:Nat) (cs:List C):Bool:=match Γ.tab t with
 |some ti=>beq cs.length ti.size&&a7O ti.zero cs
 |none=>false
def d2D:Operand->Bool
 |.const (.slice none n c)=>beq n 0&&beq c 0
 |_=>false
def b0H (Γ:Env) (t:Nat) (x:Operand) (v:V):V:=match d2D x with
 |false=>v
 | true=>match Γ.tab t with
   | some ti=>match ti.sort with
     | .slice=>match Γ.tab ti.elem with
       |some a => .val (.one (.nil a.ty))
       |none=>v
     |_=>v
   |none=>v
def act (Γ : Env) (o:Oper) (ρ:Operand->V) (get:Get) (n:Nat):Option Out :=
 match o.op with
 |.move x=>some ⟨true,b0H Γ o.type x (ρ x),[],n⟩
 |.assign x=>some ⟨true,b0H Γ o.type x (ρ x),[],n⟩
 | .pick c a b=>match ρ c with
   |.val (.one (.bool t))=>some ⟨true,e2F t (ρ a) (ρ b),[],n⟩
   |_=>none
 | .alloc t=>match Γ.tab t with
   |some ti=>some ⟨true,.val (.one (.ptr n 0)),[(n,some (.box ti.zero))],n+1⟩
   |none=>none
 | .box _ x=>match ρ x with
   | .val w=>match w.cells.all b9W with
     |true=>some ⟨true,.val (.one (.ptr n 0)),[(n,some (.box w.cells))],n+1⟩
     |false=>none
   |.tup _=>none
 | .build t e=>match Γ.tab t with
   | some ti=>match ti.sort with
     | .struct=>match a1q (fun p=>match ρ p.2 with|.val w=>some (p.1,w)|.tup _=>none) e.toList with
       | some ps=>match ps.all (fun p=>p.2.cells.all b9W),b9U ti.fields ti.zero ps with
         |true,some cs=>a0w n true (.agg cs)
         |_,_=>none
       |none=>none
     | .array _=>match e.toList,Γ.tab ti.elem with
       |[],some _=>a0w n true (.agg ti.zero)
       |_,_=>none
     |_=>none
   |none=>none
 | .buildSlice t len e=>match Γ.tab t with
   | some ti => match ti.sort with
     | .slice=>match Γ.tab ti.elem with
       | some d=>match a1q (fun p=>match ρ p.2 with|.val w=>some (p.1,w)|.tup _=>none) e.toList with
         | some ps=>match Nat.ble (len*d.size) 1000000&&beq d.ty.size d.size&&Nat.blt 0 d.size&&ps.all (fun p=>p.2.cells.all b9W)with
           | true=>match a1R get d.ty (List.replicate len (zero d.ty)) ps with
             |some l=>some ⟨true,.val (.one (.ref d.ty n)),(n,some (.arr d.ty l))::(ps.flatMap fun p=>a0M p.2).map (·,none),n+1⟩
             |none=>none
           |false=>none
         |none=>none
       |none=>none
     |_=>none
   |none=>none
 | .load t a=>match Γ.tab t with
   |some ti=>a1c get n ti.agg ti.size (ρ a)
   |none=>none
 | .store t a x=>match Γ.tab t,b0H Γ t x (ρ x)with
   |some ti,.val w=>a1i get n ti.size w (ρ a)
   |_,_=>none
 | .nilCheck x=>match ρ x with
   |.val (.one (.ptr k o))=>some ⟨true,.val (.one (.ptr k o)),[],n⟩
   |.val (.one (.eptr k t i o))=>some ⟨true,.val (.one (.eptr k t i o)),[],n⟩
   |.val (.one (.rptr t l i o))=>some ⟨true,.val (.one (.rptr t l i o)),[],n⟩
   |.val (.one (.fn f cs))=>some ⟨true,.val (.one (.fn f cs)),[],n⟩
   |_=>none
 | .binOp u t x y _=>match ρ x,ρ y with
   | .val (.one a),.val (.one b)=>match b0D a,b0D b with
     | some p,some q=>match Γ.tab t with
       | some ti=>match ti.sort,f1s u p q with
         |.bool,some c=>a0w n true (.one c)
         |_,_=>none
       |none=>none
     | _,_=>match c1A u a b with
       |some (ok,c)=>a0w n ok (.one c)
       |none=>none
   | .val (.agg a),.val (.agg b)=>match Γ.eqT t&&d7C Γ t a,f1t u a b with
     |true,some c=>a0w n true (.one c)
     |_,_=>none
   |_,_=>none
 | .unOp u _ x=>match ρ x with
   | .val (.one c)=>match unC u c with
     |some c'=>a0w n true (.one c')
     |none=>none
   |_=>none
 | .convert A dst x=>match Γ.tab A,Γ.tab dst,ρ x with
   | some si,some di,.val (.one c)=>match b4M di.sort c with
     |some (ok,c')=>a0w n ok (.one c')
     | none=>match b9X Γ get si di c with
       |some b=>a0w n true (.one (.str b))
       |none=>none
   |_,_,_=>none
 | .makeSlice t l c=>match Γ.tab t,ρ l,ρ c with
   | some ti,.val (.one (.int _ x)),.val (.one (.int _ y))=>match ti.sort with
     | .slice=>match Γ.tab ti.elem with
       | some d=>match Nat.ble d.bytes 128&&beq d.ty.size d.size&&Nat.blt 0 d.size with
         |true=>some ⟨decide (0<=x)&&a0n x.toNat&&(x==y),.val (.one (.ref d.ty n)),[(n,some (.arr d.ty (List.replicate x.toNat (zero d.ty))))],n+1⟩
         |false=>none
       |none=>none
     |_=>none
   |_,_,_=>none
 | .slice t x z v B=>match Γ.tab t,B with
   | some ti,none=>match ti.sort,ρ x with
     | .string,.val (.one (.str s))=>match a0B (z.map ρ) 0,a0B (v.map ρ) s.size with
       |some l,some h=>a0w n (decide (0<=l)&&decide (l<=h)&&decide (h<=(s.size:Int))) (.one (.str (s.extract l.toNat h.toNat)))
       |_,_=>none
     | .slice,.val (.one (.sl t s))=>match Γ.tab ti.elem with
       | some d=>match beq t.size d.size with
         | true=>match a0B (z.map ρ) 0,a0B (v.map ρ) s.length with
           |some l,some h=>a0w n (decide (0<=l)&&decide (l<=h)&&decide (h<=(s.length:Int))) (.one (.sl t ((s.take h.toNat).drop l.toNat)))
           |_,_=>none
         |false=>none
       |none=>none
     | .slice,.val (.one (.ref t k))=>match Γ.tab ti.elem with
       |some d=>a7C get n d.size t k (a0B (z.map ρ) 0) (a0B (v.map ρ))
       |none=>none
     | .array m,x=>match z,v with
       | none,none=>match Γ.tab ti.elem with
         |some d=>b0F n m d x
         |none=>none
       |_,_=>none
     |_,_=>none
   |_,_=>none
 | .fieldAddr t x f=>match Γ.tab t with
   | some ti=>match ti.sort with
     | .struct=>match ti.fields[f]? with
       | some (off,size,_)=>match beq size 0 with
         |true=>none
         | false=>match ρ x with
           |.val (.one (.ptr k o))=>a0w n true (.one (.ptr k (o+off)))
           |.val (.one (.eptr k ty i o))=>a0w n true (.one (.eptr k ty i (o+off)))
           |.val (.one (.rptr ty l i o))=>a0w n true (.one (.rptr ty l i (o+off)))
           |_=>none
       |none=>none
     |_=>none
   |none=>none
 | .field t x f=>match Γ.tab t with
   | some ti=>match ti.sort with
     | .struct=>match ti.fields[f]? with
       | some (off,size,agg)=>match ρ x with
         | .val (.agg cs)=>match a3h agg size (a2p cs off size)with
           |some w=>a0w n true w
           |none=>none
         |_=>none
       |none=>none
     |_=>none
   |none=>none
 | .indexAddr t x i=>match Γ.tab t with
   | some ti => match ti.sort with
     | .slice=>match Γ.tab ti.elem with
       | some d=>match ρ x,ρ i with
         | .val (.one (.sl t l)),.val (.one (.int _ j))=>match beq t.size d.size with
           |true=>a0w n (decide (0<=j)&&decide (j<(l.length:Int))) (.one (.rptr t l j.toNat 0))
           |false=>none
         | .val (.one (.ref t k)),.val (.one (.int _ j))=>match get k with
           | some (.arr t' l)=>match beq t.size d.size,a2Q t' t with
             |true,some _=>a0w n (decide (0<=j)&&decide (j<(l.length:Int))) (.one (.eptr k t j.toNat 0))
             |_,_=>none
           |_=>none
         |.val (.one (.nil t)),.val (.one (.int _ _))=>a0w n false (.one (.rptr t [] 0 0))
         |_,_=>none
       |none=>none
     | .array m=>match Γ.tab ti.elem with
       |some d=>a2s n d.size m (ρ x) (ρ i)
       |none=>none
     |_=>none
   |none=>none
 | .index t x i=>match Γ.tab t with
   | some ti=>match ti.sort with
     | .string=>match ρ x,ρ i with
       |.val (.one (.str s)),.val (.one (.int _ j))=>a0w n (decide (0<=j)&&decide (j<(s.size:Int))) (.one (.int .u8 (a0o s j)))
       |_,_=>none
     |_=>none
   |none=>none
 | .makeFunc fn first r=>match fn,first.toList with
   | .func f,[]=>match a1q (fun x=>match ρ x with|.val (.one (.ptr k 0))=>some k|_=>none) r.toList with
     |some ks=>a0w n true (.one (.fn f ks))
     |none=>none
   |_,_=>none
 | .extract t i=>match ρ t with
   | .tup ws=>match ws[i]? with
     |some w=>a0w n true w
     |none=>none
   |_=>none
 | .call c=>match c.callee with
   |.builtin b=>a2P Γ get n b c.argTypes.toList (c.args.toList.map ρ)
   | .value f=>match ρ f,a5f (c.args.toList.map ρ)with
     |.val (.one (.fn g r)),some ws=>b1Z Γ o get n g (ws++r.map fun k => .one (.ptr k 0))
     |_,_=>none
   |_=>none
 |_=>none
structure Ent where
 fp:List Nat
 up:List Nat
 kb:Bool
def a7D (o:Oper) (ρ:Operand->V) (get:Get):List Nat:=
 match o.op with
 |.load _ a=>a1n (ρ a)
 |.store _ a x=>a1n (ρ a)++a1n (ρ x)
 |.buildSlice _ _ b=>b.toList.flatMap fun p=>a1n (ρ p.2)
 |.indexAddr _ x _=>a1n (ρ x)
 |.slice _ x _ _ _=>a1n (ρ x)
 |.convert _ _ x=>a1n (ρ x)
 |.call c=>(c.args.toList.flatMap (fun x=>a1n (ρ x))++(match c.callee with|.value f=>a1n (ρ f)|_=>[])) ++
  a2q get a1D (c.args.toList.flatMap (fun x=>a1n (ρ x))++(match c.callee with|.value f=>a1n (ρ f)|_=>[])) []
 |_=>[]
def b9Y (n:Nat):List Nat->Bool
 |[]=>true
 |k::r=>Nat.blt k n&&b9Y n r
def e2G:Option Blk->List Nat
 |some (.box cs)=>cs.flatMap a0P
 |_=>[]
def c8U (o:Oper) (ρ:Operand->V) (get:Get) (n a:Nat):Bool:=
 Nat.ble n a&&b9Y n (o.op.operands.toList.flatMap fun x=>a1n (ρ x))&&b9Y n (a7D o ρ get)&&b9Y n ((a7D o ρ get).flatMap fun k=>e2G (get k))
def a6w (Γ:Env) (d:Option Nat):Bool:=match d with
 |some t=>Nat.blt t Γ.nt
 |none=>true
def St.apply (s:St) (out:Out):St:={ s with mem:=out.upd++s.mem,n:=out.n }
def a2g (b:Bool):V := .val (.one (.bool b))
def c1t {R:Type} (Γ:Env) (o:Oper) (K:St->Ent->Option R) (s:St):Option R:=
 match act Γ o s.val s.get s.n with
 |none=>none
 | some out=>match a6w Γ o.dst with
   | true=>match out.ok with
     |true=>K ((s.apply out).putO o.dst out.v) ⟨a7D o s.val s.get,out.upd.map (·.1),c8U o s.val s.get s.n out.n⟩
     |false=>none
   |false=>none
def a6x {R:Type} (Γ:Env) (o:Oper) (K:St->Ent->Option R) (s:St):Option R:=
 match o.op with
 | .pick (.tmp t) _ _=>match s.tmpV t with
   | .val (.one (.bool b))=>match b with
     |true=>c1t Γ o K (s.put t (a2g true))
     |false=>c1t Γ o K (s.put t (a2g false))
   |_=>none
 |_=>c1t Γ o K s
def a7l {R:Type} (Γ:Env) (o:Oper) (K:St->Ent->Option R) (s:St):Option R:=
 match a6w Γ o.dst with
 |true=>K (s.putO o.dst (.tup [])) ⟨[],[],true⟩
 |false=>none
def a9B {R:Type} (Γ:Env) (ops:Array Oper):List Oper->St->List Ent->(St->List Ent->Option R)->Option R
 |[],s,tr,K=>K s tr
 | o :: rest,s,tr,K=>match o.guard with
   |none=>a6x Γ o (fun a e=>a9B Γ ops rest a (e::tr) K) s
   | some (g,want)=>match (ops[g]?).bind (·.dst)with
     |none=>none
     | some t=>match s.tmpV t with
       | .val (.one (.bool b))=>match b with
         | true=>match want with
           |true=>a6x Γ o (fun a e=>a9B Γ ops rest a (e::tr) K) (s.put t (a2g true))
           |false=>a7l Γ o (fun a e=>a9B Γ ops rest a (e::tr) K) (s.put t (a2g true))
         | false=>match want with
           |true=>a7l Γ o (fun a e=>a9B Γ ops rest a (e::tr) K) (s.put t (a2g false))
           |false=>a6x Γ o (fun a e=>a9B Γ ops rest a (e::tr) K) (s.put t (a2g false))
       |.tup []=>a7l Γ o (fun a e=>a9B Γ ops rest a (e::tr) K) s
       |_=>none
def b9Z (a:List Nat):List Edge->Nat
 |[]=>0
 | e::r=>match Region.binds .any e with
   |true=>Nat.lor (Nat.lor (Nat.shiftLeft 1 e.on) (a.getD e.on 0)) (b9Z a r)
   |false=>b9Z a r
def c1E:List Oper->List Nat->List Nat
 |[],acc=>acc
 |o::r,acc=>c1E r (acc++[b9Z acc o.after.toList])
def e1K:List Nat->List Nat->Bool
 |[],_=>true
 | x::r,l=>match b0E l x with
   |true=>false
   |false=>e1K r l
def c8V (a b:Ent):Bool:=e1K a.fp b.up&&e1K b.fp a.up&&e1K a.up b.up
def c1F (o:Op):List Nat:=o.operands.toList.filterMap fun|.tmp t=>some t|_=>none
def looks (ops:Array Oper) (o:Oper):List Nat:=c1F o.op++(match o.guard with
 |some (g,_)=>match (ops[g]?).bind (·.dst)with|some t=>[t]|none=>[]
 |none=>[])
def b6F (ops:Array Oper) (x y:Oper):Bool:=
 (match x.dst with|some d=>!b0E (looks ops y) d|none=>true) &&
 (match y.dst with|some d=>!b0E (looks ops x) d|none=>true) &&
 (match x.dst,y.dst with|some d,some e=>!beq d e|_,_=>true)
def a7E (ops:Array Oper) (a:Nat) (o:Oper) (e:Ent):List (Nat×Oper×Ent)->Bool
 |[]=>true
 | (j,o',e')::r=>(match Nat.testBit a j with
   |true=>true
   |false=>c8V e e'&&b6F ops o o')&&a7E ops a o e r
def b6G (ops:Array Oper):List Nat->List (Nat×Oper×Ent)->List (Nat×Oper×Ent)->Bool
 |a::as1,(i,o,e)::r,before=>a7E ops a o e before&&b6G ops as1 r ((i,o,e)::before)
 |_,_,_=>true
def b0I:Nat->List Oper->List Ent->List (Nat×Oper×Ent)
 |i,o::os,e::es=>(i,o,e)::b0I (i+1) os es
 |_,_,_=>[]
def b6H:Nat->List Oper->Bool
 |_,[]=>true
 |i,o::r=>o.after.toList.all (fun e=>!Region.binds .any e||Nat.blt e.on i)&&b6H (i+1) r
def b2a (ops:Array Oper) (a:List Ent):Bool:=
 b6G ops (c1E ops.toList []) (b0I 0 ops.toList a.reverse) []&&b6H 0 ops.toList&&a.all (·.kb)
def gone (ks:List Nat):List (Nat×Option Blk):=ks.map (·,none)
def c1u (c:Cv) (s:St):St:=match c with
 |.forget t=>s.put t pois
 | .sl t=>match s.tmpV t with
   |.val (.one (.nil ty))=>s.put t (.val (.one (.sl ty [])))
   |_=>s
 | .boxSl t off=>match s.tmpV t with
   | .val (.one (.ptr k _))=>match s.get k with
     | some (.box cs)=>match cs[off]? with
       |some (.nil ty)=>{ s with mem:=(k,some (.box (cs.set off (.sl ty []))))::s.mem }
       |_=>s
     |_=>s
   |_=>s
 | .nil t=>match s.tmpV t with
   |.val (.one (.nil ty))=>{ s with tmps:=(t,.val (.one (.ref ty s.n)))::s.tmps,mem:=(s.n,some (.arr ty []))::s.mem,n:=s.n+1 }
   |_=>s
 | .boxNil t off=>match s.tmpV t with
   | .val (.one (.ptr k _))=>match s.get k with
     | some (.box cs)=>match cs[off]? with
       |some (.nil ty)=>{ s with mem:=(k,some (.box (cs.set off (.ref ty s.n))))::(s.n,some (.arr ty []))::s.mem,n:=s.n+1 }
       |_=>s
     |_=>s
   |_=>s
 | .mv t off j=>match s.tmpV t with
   | .val (.one (.ptr k _))=>match s.get k with
     | some (.box cs)=>match cs[off]? with
       | some (.ref ty j')=>match beq j j' with
         | true=>match s.get j with
           |some (.arr ty' l)=>{ s with mem:=(k,some (.box (cs.set off (.ref ty s.n))))::(s.n,some (.arr ty' l))::(j,none)::s.mem,n:=s.n+1 }
           |_=>s
         |false=>s
       |_=>s
     |_=>s
   |_=>s
 | .frz t=>match s.tmpV t with
   | .val w=>match roW s.get w with
     |some w'=>{ s with tmps:=(t,.val w')::s.tmps,mem:=gone (a0M w)++s.mem }
     |none=>s
   |_=>s
 | .frzBox t=>match s.tmpV t with
   | .val (.one (.ptr k _))=>match s.get k with
     | some (.box cs)=>match a1q (roC s.get) cs with
       | some a=>match b0E (cs.flatMap a0P) k with
         |false=>{ s with mem:=(k,some (.box a))::(gone (cs.flatMap a0P)++s.mem) }
         |true=>s
       |none=>s
     |_=>s
   |_=>s
 | .frzCell t off=>match s.tmpV t with
   | .val (.one (.ptr k _))=>match s.get k with
     | some (.box cs)=>match cs[off]? with
       | some c=>match roC s.get c with
         | some c'=>match b0E (a0P c) k with
           |false=>{ s with mem:=(k,some (.box (cs.set off c')))::(gone (a0P c)++s.mem) }
           |true=>s
         |none=>s
       |none=>s
     |_=>s
   |_=>s
 | .jnk t=>match s.tmpV t with
   | .val (.one (.ref (.flt .f32) k))=>match s.get k with
     |some (.arr (.flt .f32) l)=>{ s with tmps:=(t,.val (.one (.sl .jnk (l.map fun _=>()))))::s.tmps,mem:=(k,none)::s.mem }
     |_=>s
   |_=>s
def b2b:List Cv->St->St
 |[],s=>s
 |c::r,s=>b2b r (c1u c s)
def a3v:List Nat->Nat->List Nat
 |[],_=>[]
 | k::r,m=>match Nat.ble m k with
   |true=>k::a3v r m
   |false=>a3v r m
def a2G (a:List Nat) (m k:Nat):Option Nat:=match Nat.blt k m with
 |true=>some k
 |false=>a2r a k m
def c1G (get:Get) (a:Nat->Option Nat):List Nat->Option (List (Nat×Option Blk))
 |[]=>some []
 | k::r=>match a k,a5d a (get k),c1G get a r with
   |some k',some b,some l=>some ((k',b)::l)
   |_,_,_=>none
def a9j:Nat->List Nat
 |0=>[]
 |n+1=>a9j n++[n]
def a7Q (live:List Nat) (own:List Cv) (b:St):Option St:=
 let s:=b2b own b
 let ks:=a2q s.get a1D (a9j s.m++live.flatMap fun t=>a1n (s.tmpV t)) (a9j 0)
 let a:=a3v ks s.m
 match a1q (fun t=>(e1H (a2G a s.m) (s.tmpV t)).map fun v=>(t,v)) live,c1G s.get (a2G a s.m) (a9j s.m++a)with
 |some tmps,some mem=>some { tmps,mem,n:=s.m+a.length,m:=s.m }
 |_,_=>none
def a0I:Code->Nat
 |.region id _ _=>id
 |.seq x _=>a0I x
 |.block _ x=>a0I x
 |.loop x=>a0I x
 |.cond _ x _=>a0I x
 |_=>0
def a5g {R:Type} (cut:Option (List Nat×List Cv)) (K:Ex->St->Option R) (e:Ex) (s:St):Option R:=
 match e with
 | .normal=>match cut with
   | some c=>match a7Q c.1 c.2 s with
     |some a=>K .normal a
     |none=>none
   |none=>K .normal s
 |e=>K e s
def a6Y {R:Type} (id:Nat) (cut:Option (List Nat×List Cv)) (K:Ex->St->Option R) (e:Ex) (s:St):Option R:=
 match e with
 |.normal=>a5g cut K .normal s
 | .exit i=>match beq i id with
   |true=>a5g cut K .normal s
   |false=>K (.exit i) s
 |.ret=>K .ret s
def d7D {R:Type} (ex:Nat) (past:List Nat) (pown:List Cv) (K:Ex->St->Option R) (e:Ex) (s:St):Option R:=match e with
 |.normal=>none
 | .exit i=>match beq i ex with
   | true=>match a7Q past pown s with
     |some a=>K (.exit i) a
     |none=>none
   |false=>none
 |.ret=>K .ret s
def a3k {R:Type} (live:List Nat) (own:List Cv) (ex:Nat) (past:List Nat) (pown:List Cv) (F:St->Option R) (K:Ex->St->Option R) (e:Ex) (s:St):Option R:=match e with
 | .normal=>match a7Q live own s with
   |some a=>F a
   |none=>none
 |e=>d7D ex past pown K e s
def d7E {R:Type} (L:a4l) (K:Ex->St->Option R) (s:St):Option R:=
 match a7Q L.live L.own s with
 |none=>none
 | some a=>match L.run a with
   |none=>none
   | some (ok,b,s1,s2)=>match ok with
     |false=>none
     | true=>match b with
       |true=>K .ret s2
       |false=>K (.exit L.ex) s1
def f7X:ResultVar->Nat
 |.tmp t=>t
 |.cell a _=>a
def b2c (c:Operand):Nat:=match c with
 |.tmp t=>t
 |_=>0
def St.putC (s:St) (c:Operand) (b:Bool):St:=match c with
 |.tmp t=>s.put t (a2g b)
 |_=>s
def EBk {R:Type} (Γ:Env):Code->(Ex->St->Option R)->St->Option R
 |.skip,K,s=>K .normal s
 |.label _,K,s=>K .normal s
 | .seq x y,K,s=>EBk Γ x (fun e a=>match e with
   |.normal=>EBk Γ y K a
   |e=>K e a) s
 | .cond c x y,K,s=>match s.val c with
   | .val (.one (.bool b))=>match b with
     |true=>EBk Γ x (a5g (a1w Γ.cut (b2c c)) K) (s.putC c true)
     |false=>EBk Γ y (a5g (a1w Γ.cut (b2c c)) K) (s.putC c false)
   |_=>none
 |.block id x,K,s=>EBk Γ x (a6Y id (a1w Γ.past id) K) s
 | .loop c,K,s=>match a1w Γ.loops (a0I c)with
   |some L=>d7E L K s
   |none=>none
 |.exit id,K,s=>K (.exit id) s
 | .ret,K,s=>match a7Q (Γ.res.map f7X) Γ.rown s with
   |some a=>K .ret a
   |none=>none
 | .region _ ops d,K,s=>a9B Γ ops ops.toList s [] (fun a f=>match d with
   |false=>K .normal a
   | true=>match b2a ops f with
     |true=>K .normal a
     |false=>none)
 |_,_,_=>none
def a9o {R:Type} (Γ:Env) (c:Code) (L:a4l) (K:Ex->St->Option R):Nat->St->Option R
 |0,_=>none
 |k+1,s=>EBk Γ c (a3k L.live L.own L.ex L.past L.pown (a9o Γ c L K k) K) s
def a1S:Code->List Code
 |.seq x y=>a1S x++a1S y
 |.cond _ x y=>a1S x++a1S y
 |.block _ x=>a1S x
 |.loop x=>x::a1S x
 |_=>[]
def a2R (Γ:Env) (c:Code) (L:a4l):Prop:=
 ∀a b s1 s2,L.run a=some (true,b,s1,s2)->∀(R:Type) (K:Ex->St->Option R),∃n,a9o Γ c L K n a=(if b then K .ret s2 else K (.exit L.ex) s1)
def a6y (Γ:Env) (c:Code):Prop:=∀c'∈a1S c,∀L,a1w Γ.loops (a0I c')=some L->a2R Γ c' L
def b2d:Nat->List W->List (Nat×V)
 |_,[]=>[]
 |i,w::r=>(i,.val w)::b2d (i+1) r
def c1H:Nat->List Blk->List (Nat×Option Blk)
 |_,[]=>[]
 |i,b::r=>(i,some b)::c1H (i+1) r
def a7m (args:List W) (ins:List Blk):St:={ tmps:=b2d 0 args,mem:=c1H 0 ins,n:=ins.length,m:=ins.length }
def e2H (Γ:Env) (s:St):ResultVar->Option W
 | .tmp t=>match s.tmpV t with
   |.val w=>some w
   |_=>none
 | .cell a t=>match Γ.tab t with
   | some ti=>match a1c s.get 0 ti.agg ti.size (s.tmpV a)with
     | some out=>match out.v with
       |.val w=>some w
       |_=>none
     |none=>none
   |none=>none
def fin (Γ:Env) (s:St):Option (List W×List (Option Blk)):=
 match a1q (e2H Γ s) Γ.res with
 |none=>none
 | some ws =>
   let ks:=a2q s.get a1D (a9j s.m++ws.flatMap a0M) (a9j 0)
   let a:=a3v ks s.m
   match a1q (b6E (a2G a s.m)) ws,a1q (fun k=>a5d (a2G a s.m) (s.get k)) (a9j s.m++a)with
   |some ws',some outs=>some (ws',outs)
   |_,_=>none
def b4O {R:Type} (Γ:Env) (c:Code) (f:List W×List (Option Blk)->Option R) (args:List W) (ins:List Blk):Option R:=
 match Nat.ble args.length Γ.nt with
 | true=>EBk Γ c (fun e s=>match e with
   |.exit _=>none
   | _=>match fin Γ s with
     |some r=>f r
     |none=>none) (a7m args ins)
 |false=>none
def All2 {α β:Type} (R:α->β->Prop):List α->List β->Prop
 |[],[]=>True
 |a::as1,b::bs=>R a b /\ All2 R as1 bs
 |_,_=>False
theorem All2.length {α β:Type} {R:α->β->Prop}:∀{as1:List α} {bs:List β},All2 R as1 bs->as1.length=bs.length
 |[],[],_=>rfl
 |_::_,_::_,h=>by simp[h.2.length]
 |[],_::_,h=>h.elim
 |_::_,[],h=>h.elim
theorem All2.mono {α β:Type} {R c:α->β->Prop} (d:∀a b,R a b->c a b):∀{as1:List α} {bs:List β},All2 R as1 bs->All2 c as1 bs
 |[],[],_=>trivial
 |_::_,_::_,h=>⟨d _ _ h.1,h.2.mono d⟩
 |[],_::_,h=>h.elim
 |_::_,[],h=>h.elim
theorem All2.mono_mem {α β:Type} {R c:α->β->Prop}:∀{as1:List α} {bs:List β},(∀a b,a∈as1->R a b->c a b)->All2 R as1 bs->All2 c as1 bs
 |[],[],_,_=>trivial
 |_::_,_::_,hr,h=>⟨hr _ _ (List.mem_cons_self ..) h.1,All2.mono_mem (fun a b d=>hr a b (List.mem_cons_of_mem _ d)) h.2⟩
 |[],_::_,_,h=>h.elim
 |_::_,[],_,h=>h.elim
theorem All2.append {α β:Type} {R:α->β->Prop}:∀{as1:List α} {bs:List β} {a:List α} {b:List β},All2 R as1 bs->All2 R a b->All2 R (as1++a) (bs++b)
 |[],[],_,_,_,h'=>h'
 |_::_,_::_,_,_,h,h'=>⟨h.1,h.2.append h'⟩
 |[],_::_,_,_,h,_=>h.elim
 |_::_,[],_,_,h,_=>h.elim
theorem All2.split {α β:Type} {R:α->β->Prop}:∀{as1 a:List α} {bs:List β},All2 R (as1++a) bs->∃c d,bs=c++d /\ All2 R as1 c /\ All2 R a d
 |[],_,bs,h=>⟨[],bs,rfl,trivial,h⟩
 | _::as1,a,b::bs,h=>by
   obtain⟨c,d,rfl,e,f⟩:=All2.split (as1:=as1) h.2;exact⟨b::c,d,rfl,⟨h.1,e⟩,f⟩
 |_::_,_,[],h=>h.elim
theorem All2.drop {α β:Type} {R:α->β->Prop}:∀(n:Nat) {as1:List α} {bs:List β},All2 R as1 bs->All2 R (as1.drop n) (bs.drop n)
 |0,_,_,h=>h
 |_+1,[],[],h=>h
 |n+1,_::_,_::_,h=>All2.drop n h.2
 |_+1,[],_::_,h=>h.elim
 |_+1,_::_,[],h=>h.elim
theorem All2.take {α β:Type} {R:α->β->Prop}:∀(n:Nat) {as1:List α} {bs:List β},All2 R as1 bs->All2 R (as1.take n) (bs.take n)
 |0,_,_,_=>trivial
 |_+1,[],[],h=>h
 |n+1,_::_,_::_,h=>⟨h.1,All2.take n h.2⟩
 |_+1,[],_::_,h=>h.elim
 |_+1,_::_,[],h=>h.elim
theorem All2.get? {α β:Type} {R:α->β->Prop}:∀{as1:List α} {bs:List β} {i:Nat} {a:α},All2 R as1 bs->as1[i]?=some a->∃b,bs[i]?=some b /\ R a b
 | _::_,b::_,0,_,h,he=>by
   simp only[List.getElem?_cons_zero,injEq]at he;subst he;exact⟨b,rfl,h.1⟩
 | _::as1,_::bs,i+1,a,h,he=>by
   simp only[List.getElem?_cons_succ]at he ⊢;exact All2.get? h.2 he
 |[],[],_,_,_,he=>by simp at he
 |[],_::_,_,_,h,_=>h.elim
 |_::_,[],_,_,h,_=>h.elim
theorem All2.get?' {α β:Type} {R:α->β->Prop} {as1:List α} {bs:List β} {i:Nat} {b:β} (h:All2 R as1 bs) (d:bs[i]?=some b):∃a,as1[i]?=some a /\ R a b:=by
 have f:=h.length;have e:i<as1.length:=by rw[f];exact(List.getElem?_eq_some_iff.1 d).1
 obtain⟨b',c,g⟩:=h.get? (List.getElem?_eq_getElem e);rw[d]at c;cases c;exact⟨_,List.getElem?_eq_getElem e,g⟩
theorem All2.of_get {α β:Type} {R:α->β->Prop}:∀{as1:List α} {bs:List β},as1.length=bs.length->(∀(i:Nat) a b,as1[i]?=some a->bs[i]?=some b->R a b)->All2 R as1 bs
 |[],[],_,_=>trivial
 |a::as1,b::bs,hl,h=>⟨h 0 a b rfl rfl,All2.of_get (by simpa using hl) fun i x y c d=>h (i+1) x y (by simpa using c) (by simpa using d)⟩
 |[],_::_,hl,_=>by simp at hl
 |_::_,[],hl,_=>by simp at hl
structure Hd where
 v:Value
 b:Option Nat
abbrev Bt:=Nat->Option Hd
abbrev Ks:=Nat->Option (Bool×Array Value)
def a1r (k:FloatKind) (b:Nat):Bool:=(k.decode b).isNaN
def FEq (k:FloatKind) (a b:Nat):Prop:=a=b∨(a1r k a=true /\ a1r k b=true)
theorem FEq.refl (k:FloatKind) (a:Nat):FEq k a a := .inl rfl
def sub (arr:List Value) (off n:Nat):List Value:=(arr.drop off).take n
def DR (K:Ks):(t:Ty)->Den t->List Value->Prop
 |.bool,b,vs=>vs=[.bool b]
 |.int k,n,vs=>vs=[.int k n]
 |.flt k,b,vs=>∃b',vs=[.float k b'] /\ FEq k b b'
 |.cpx k,p,vs=>∃a b,vs=[.complex k a b] /\ FEq k p.1 a /\ FEq k p.2 b
 |.str,s,vs=>vs=[.string s]
 |.slice t,l,vs=>∃a n c,vs=[.slice a n c] /\ n=l.length /\ n<=c /\
  (n=0∨∃b o arr,a=some ⟨b,o,none⟩ /\ K b=some (t.isJ,arr) /\ ∀i (h:i<l.length),DR K t l[i] (sub arr.toList (o+i*t.size) t.size))
 |.nil,_,vs=>vs=[]
 |.cons a b,p,vs=>∃d e,vs=d++e /\ DR K a p.1 d /\ DR K b p.2 e
 |.jnk,_,vs=>∃n,vs=[.float .f32 n]
def KLe (K K':Ks):Prop:=∀b arr,K b=some arr->K' b=some arr
theorem KLe.refl (K:Ks):KLe K K:=fun _ _ h=>h
theorem KLe.trans {K K' a:Ks} (h:KLe K K') (h':KLe K' a):KLe K a:=fun b arr e=>h' b arr (h b arr e)
theorem DR.mono {K K':Ks} (h:KLe K K'):∀(t:Ty) {x:Den t} {vs:List Value},DR K t x vs->DR K' t x vs:=by
 intro t
 induction t with
 | slice t q =>
   rintro x vs ⟨a,n,c,e,m,k,p⟩;refine⟨a,n,c,e,m,k,p.imp id ?_⟩;rintro⟨b,o,arr,ha,hb,hi⟩;exact⟨b,o,arr,ha,h _ _ hb,fun i l=>q (hi i l)⟩
 | cons a b d f =>
   rintro x vs ⟨r,s,e,g,j⟩;exact⟨r,s,e,d g,f j⟩
 |_=>exact fun h=>h
theorem DR.flat {K K':Ks}:∀(t:Ty) {x:Den t} {vs:List Value},b9V t=true->DR K t x vs->DR K' t x vs:=by
 intro t
 induction t with
 |slice t f=>intro x vs h;simp[b9V]at h
 | cons a b c d =>
   intro x vs h;simp only[b9V,and_eq_true]at h;rintro⟨v1,v2,e,h1,h2⟩;exact⟨v1,v2,e,c h.1 h1,d h.2 h2⟩
 |_=>exact fun _ h=>h
theorem DR.length {K:Ks}:∀(t:Ty) {x:Den t} {vs:List Value},DR K t x vs->vs.length=t.size:=by
 intro t
 induction t with
 | cons a b c d =>
   rintro x vs ⟨h,i,rfl,e,f⟩;simp[Ty.size,c e,d f]
 |nil=>rintro x vs rfl;rfl
 |bool=>rintro x vs rfl;rfl
 |int k=>rintro x vs rfl;rfl
 |flt k=>rintro x vs ⟨_,rfl,_⟩;rfl
 |cpx k=>rintro x vs ⟨_,_,rfl,_⟩;rfl
 |str=>rintro x vs rfl;rfl
 |slice t g=>rintro x vs ⟨_,_,_,rfl,_⟩;rfl
 |jnk=>rintro x vs ⟨_,rfl⟩;rfl
theorem DR.oneCell {K:Ks}:∀(t:Ty) {x:Den t} {vs:List Value},DR K t x vs->∀v∈vs,v.oneCell'=true:=by
 intro t
 induction t with
 | cons a b d e =>
   rintro x vs ⟨i,j,rfl,f,g⟩ v c;rcases List.mem_append.1 c with c|c
   ·exact d f v c
   ·exact e g v c
 |nil=>rintro x vs rfl v c;simp at c
 |bool=>rintro x vs rfl v c;simp at c;subst c;rfl
 |int k=>rintro x vs rfl v c;simp at c;subst c;rfl
 |flt k=>rintro x vs ⟨_,rfl,_⟩ v c;simp at c;subst c;rfl
 |cpx k=>rintro x vs ⟨_,_,rfl,_⟩ v c;simp at c;subst c;rfl
 |str=>rintro x vs rfl v c;simp at c;subst c;rfl
 |slice t h=>rintro x vs ⟨_,_,_,rfl,_⟩ v c;simp at c;subst c;rfl
 |jnk=>rintro x vs ⟨_,rfl⟩ v c;simp at c;subst c;rfl
def PR (β:Bt) (k off:Nat) (v:Value):Prop:=∃h b,β k=some h /\ h.v = .pointer (some ⟨b,0,none⟩) /\ v = .pointer (some ⟨b,off,none⟩)
def CR (β:Bt) (K:Ks):C->Value->Prop
 |.pois,_=>True
 |.bool b,v=>v = .bool b
 |.int k n,v=>v = .int k n
 |.flt k b,v=>∃b',v = .float k b' /\ FEq k b b'
 |.cpx k a b,v=>∃d b',v = .complex k d b' /\ FEq k a d /\ FEq k b b'
 |.str s,v=>v = .string s
 |.nil _,v=>∃a,v = .slice a 0 0
 |.sl t l,v=>DR K (.slice t) l [v]
 |.ref _ k,v=>∃h a n c,β k=some h /\ h.v = .slice a n c /\ v = .slice a n c
 |.ptr k off,v=>PR β k off v
 |.eptr k t i off,v=>∃h b n c,β k=some h /\ h.v = .slice (some ⟨b,0,none⟩) n c /\ i<n /\ v = .pointer (some ⟨b,i*t.size+off,none⟩)
 |.rptr t l i off,v=>i<l.length /\ ∃b o arr,K b=some (t.isJ,arr) /\ (∀i (h:i<l.length),DR K t l[i] (sub arr.toList (o+i*t.size) t.size)) /\ v = .pointer (some ⟨b,o+i*t.size+off,none⟩)
 |.fn f caps,v=>∃cs:List Value,v = .func (.func f) #[] cs.toArray /\ All2 (fun k u=>PR β k 0 u) caps cs
 |.aptr k off m j,v=>j<m /\ PR β k (off+j) v
 |.aeptr k t i off m j,v=>j<m /\ ∃h b n c,β k=some h /\ h.v = .slice (some ⟨b,0,none⟩) n c /\ i<n /\ v = .pointer (some ⟨b,i*t.size+(off+j),none⟩)
 |.arptr t l i off m j,v=>j<m /\ i<l.length /\ ∃b o arr,K b=some (t.isJ,arr) /\ (∀i (h:i<l.length),DR K t l[i] (sub arr.toList (o+i*t.size) t.size)) /\ v = .pointer (some ⟨b,o+i*t.size+(off+j),none⟩)
 |.junk,v=>∃n,v = .float .f32 n
 |.asl t k off m,v=>∃b c,PR β k 0 (.pointer (some ⟨b,0,none⟩)) /\ m<=c /\ v = .slice (some ⟨b,off,none⟩) m c
def BLe (β β':Bt):Prop:=∀k h,β k=some h->β' k=some h
theorem BLe.refl (β:Bt):BLe β β:=fun _ _ h=>h
theorem BLe.trans {β β' a:Bt} (h:BLe β β') (h':BLe β' a):BLe β a:=fun k x e=>h' k x (h k x e)
theorem PR.mono {β β':Bt} (e:BLe β β') {k off:Nat} {v:Value} (h:PR β k off v):PR β' k off v:=by
 obtain⟨h,b,a,c,d⟩:=h;exact⟨h,b,e _ _ a,c,d⟩
theorem CR.mono {β β':Bt} {K K':Ks} (g:BLe β β') (q:KLe K K') {c:C} {v:Value} (h:CR β K c v):CR β' K' c v:=by
 cases c with
 |sl t l=>exact DR.mono q _ h
 |ref t k=>obtain⟨x,a,n,c,d,e⟩:=h;exact⟨x,a,n,c,g _ _ d,e⟩
 |ptr k o=>exact PR.mono g h
 |eptr k t i o=>obtain⟨x,b,n,c,d,e⟩:=h;exact⟨x,b,n,c,g _ _ d,e⟩
 | rptr t l i o =>
   obtain⟨s,b,o',arr,d,e,r⟩:=h;exact⟨s,b,o',arr,q _ _ d,fun j p=>DR.mono q _ (e j p),r⟩
 |fn f u=>obtain⟨cs,d,e⟩:=h;exact⟨cs,d,e.mono fun _ _=>PR.mono g⟩
 |aptr k o m j=>exact⟨h.1,PR.mono g h.2⟩
 |aeptr k t i o m j=>obtain⟨w,x,b,n,c,d,e⟩:=h;exact⟨w,x,b,n,c,g _ _ d,e⟩
 | arptr t l i o m j =>
   obtain⟨p,s,b,o',arr,d,e,r⟩:=h;exact⟨p,s,b,o',arr,q _ _ d,fun j p=>DR.mono q _ (e j p),r⟩
 |asl t k o m=>obtain⟨b,c,d,e⟩:=h;exact⟨b,c,PR.mono g d,e⟩
 |_=>exact h
theorem CR.oneCell {β:Bt} {K:Ks} {c:C} {v:Value} (e:b9W c=true) (h:CR β K c v):v.oneCell'=true:=by
 cases c with
 |pois=>simp[b9W]at e
 |bool b=>rw[show v=_ from h];rfl
 |int k n=>rw[show v=_ from h];rfl
 |flt k b=>obtain⟨_,rfl,_⟩:=h;rfl
 |cpx k a b=>obtain⟨_,_,rfl,_⟩:=h;rfl
 |str s=>rw[show v=_ from h];rfl
 |nil t=>obtain⟨_,rfl⟩:=h;rfl
 |sl t l=>exact DR.oneCell _ h v (by simp)
 |ref t k=>obtain⟨_,_,_,_,_,_,rfl⟩:=h;rfl
 |ptr k o=>obtain⟨_,_,_,_,rfl⟩:=h;rfl
 |eptr k t i o=>obtain⟨_,_,_,_,_,_,_,rfl⟩:=h;rfl
 |rptr t l i o=>obtain⟨_,_,_,_,_,_,rfl⟩:=h;rfl
 |fn f d=>obtain⟨_,rfl,_⟩:=h;rfl
 |aptr k o m j=>obtain⟨_,_,_,_,_,rfl⟩:=h;rfl
 |aeptr k t i o m j=>obtain⟨_,_,_,_,_,_,_,_,rfl⟩:=h;rfl
 |asl t k o m=>obtain⟨_,_,_,_,rfl⟩:=h;rfl
 |arptr t l i o m j=>obtain⟨_,_,_,_,_,_,_,rfl⟩:=h;rfl
 |junk=>obtain⟨_,rfl⟩:=h;rfl
def WR (β:Bt) (K:Ks):W->Value->Prop
 |.one c,v=>CR β K c v
 |.agg cs,v=>∃arr:Array Value,v = .agg arr /\ All2 (CR β K) cs arr.toList
def VR (β:Bt) (K:Ks):V->Value->Prop
 |.val w,v=>WR β K w v
 |.tup ws,v=>∃arr:Array Value,v = .tuple arr /\ All2 (WR β K) ws arr.toList
theorem WR.mono {β β':Bt} {K K':Ks} (a:BLe β β') (b:KLe K K') {w:W} {v:Value} (h:WR β K w v):WR β' K' w v:=by
 cases w with
 |one c=>exact CR.mono a b h
 |agg cs=>obtain⟨arr,e,h⟩:=h;exact⟨arr,e,h.mono fun _ _=>CR.mono a b⟩
theorem VR.mono {β β':Bt} {K K':Ks} (a:BLe β β') (b:KLe K K') {w:V} {v:Value} (h:VR β K w v):VR β' K' w v:=by
 cases w with
 |val w=>exact WR.mono a b h
 |tup ws=>obtain⟨arr,e,h⟩:=h;exact⟨arr,e,h.mono fun _ _=>WR.mono a b⟩
theorem WR.cells {β:Bt} {K:Ks} {w:W} {v:Value} (b:w.cells.all b9W=true) (h:WR β K w v):All2 (CR β K) w.cells v.cells.toList:=by
 cases w with
 | one c =>
   have a:b9W c=true:=by simpa[W.cells]using b
   have e:=CR.oneCell a h;have d:v.cells=#[v]:=by cases v<;>simp_all[Value.cells,Value.oneCell']
   rw[d];exact⟨h,trivial⟩
 |agg cs=>obtain⟨arr,rfl,h⟩:=h;exact h
theorem All2.oneCell {β:Bt} {K:Ks}:∀{cs:List C} {vs:List Value},cs.all b9W=true->All2 (CR β K) cs vs->∀v∈vs,v.oneCell'=true
 |[],[],_,_=>by simp
 | c::cs,v::vs,hs,h=>by
   simp only[List.all_cons,and_eq_true]at hs;intro x a;rcases List.mem_cons.1 a with rfl|a
   ·exact CR.oneCell hs.1 h.1
   ·exact All2.oneCell hs.2 h.2 x a
 |[],_::_,_,h=>h.elim
 |_::_,[],_,h=>h.elim
theorem b6I:∀(t:Ty) (x:Den t),(enc t x).length=t.size:=by
 intro t
 induction t with
 |cons a b c d=>intro x;simp[enc,Ty.size,c,d]
 |_=>intro x;rfl
theorem DR.enc {β:Bt} {K:Ks}:∀(t:Ty) {x:Den t} {vs:List Value},DR K t x vs->All2 (CR β K) (AM.enc t x) vs:=by
 intro t
 induction t with
 | cons a b d e =>
   rintro x vs ⟨j,l,rfl,f,g⟩;exact(d f).append (e g)
 |nil=>rintro x vs rfl;trivial
 |bool=>rintro x vs rfl;exact⟨rfl,trivial⟩
 |int k=>rintro x vs rfl;exact⟨rfl,trivial⟩
 |flt k=>rintro x vs ⟨b,rfl,h⟩;exact⟨⟨b,rfl,h⟩,trivial⟩
 |cpx k=>rintro x vs ⟨a,b,rfl,h,h'⟩;exact⟨⟨a,b,rfl,h,h'⟩,trivial⟩
 |str=>rintro x vs rfl;exact⟨rfl,trivial⟩
 | slice t i =>
   rintro x vs h;obtain⟨a,n,c,rfl,h⟩:=h;exact⟨⟨a,n,c,rfl,h⟩,trivial⟩
 |jnk=>rintro x vs ⟨n,rfl⟩;exact⟨⟨n,rfl⟩,trivial⟩
theorem b2e {β : Bt} {K:Ks}:∀(t:Ty) {cs r:List C} {x:Den t} {vs:List Value},dec t cs=some (x,r)->All2 (CR β K) cs vs ->
 ∃g m,vs=g++m /\ DR K t x g /\ All2 (CR β K) r m:=by
 intro t
 induction t with
 | cons a b i j =>
   intro cs r x vs hd h;simp only[dec]at hd;split at hd
   ·rename_i y D f;split at hd
    ·rename_i z u d;simp only[injEq,Prod.mk.injEq]at hd;obtain⟨rfl,rfl⟩:=hd;obtain⟨g,m,rfl,p,h⟩:=i f h;obtain⟨n,A,rfl,q,h⟩:=j d h;exact⟨g++n,A,by simp,⟨g,n,rfl,p,q⟩,h⟩
    ·cases hd
   ·cases hd
 | nil =>
   intro cs r x vs hd h;simp only[dec,injEq,Prod.mk.injEq]at hd;obtain⟨-,rfl⟩:=hd;exact⟨[],vs,rfl,rfl,h⟩
 | bool =>
   intro cs r x vs hd h;cases cs with
   |nil=>simp[dec]at hd
   | cons c cs => cases c<;>simp[dec]at hd
                  cases vs with
                  |nil=>exact h.elim
                  | cons v vs =>
                    obtain⟨rfl,rfl⟩:=hd;obtain⟨f,d⟩:=h;exact⟨[v],vs,rfl,by rw[show v=_ from f];rfl,d⟩
 | int k =>
   intro cs r x vs hd h;cases cs with
   |nil=>simp[dec]at hd
   | cons c cs => cases c<;>simp[dec]at hd
                  cases vs with
                  |nil=>exact h.elim
                  | cons v vs =>
                    obtain⟨rfl,rfl,rfl⟩:=hd;obtain⟨f,d⟩:=h;exact⟨[v],vs,rfl,by rw[show v=_ from f];rfl,d⟩
 | flt k =>
   intro cs r x vs hd h;cases cs with
   |nil=>simp[dec]at hd
   | cons c cs => cases c<;>simp[dec]at hd
                  cases vs with
                  |nil=>exact h.elim
                  | cons v vs =>
                    obtain⟨rfl,rfl,rfl⟩:=hd;obtain⟨⟨b',rfl,f⟩,d⟩:=h;exact⟨[_],vs,rfl,⟨b',rfl,f⟩,d⟩
 | cpx k =>
   intro cs r x vs hd h;cases cs with
   |nil=>simp[dec]at hd
   | cons c cs => cases c<;>simp[dec]at hd
                  cases vs with
                  |nil=>exact h.elim
                  | cons v vs =>
                    obtain⟨rfl,rfl,rfl⟩:=hd;obtain⟨⟨o,b',rfl,f,s⟩,d⟩:=h;exact⟨[_],vs,rfl,⟨o,b',rfl,f,s⟩,d⟩
 | str =>
   intro cs r x vs hd h;cases cs with
   |nil=>simp[dec]at hd
   | cons c cs => cases c<;>simp[dec]at hd
                  cases vs with
                  |nil=>exact h.elim
                  | cons v vs =>
                    obtain⟨rfl,rfl⟩:=hd;obtain⟨f,d⟩:=h;exact⟨[v],vs,rfl,by rw[show v=_ from f];rfl,d⟩
 | slice t B =>
   intro cs r x vs hd h;cases cs with
   |nil=>simp[dec]at hd
   | cons c cs =>
     cases c with
     | sl w l =>
       simp only[dec]at hd;split at hd
       ·rename_i e _;subst e;simp only[injEq,Prod.mk.injEq]at hd;obtain⟨rfl,rfl⟩:=hd;cases vs with
        |nil=>exact h.elim
        |cons v vs=>exact⟨[v],vs,rfl,h.1,h.2⟩
       ·cases hd
     | nil w =>
       simp only[dec,injEq,Prod.mk.injEq]at hd;obtain⟨rfl,rfl⟩:=hd;cases vs with
       |nil=>exact h.elim
       | cons v vs =>
         obtain⟨⟨a,rfl⟩,d⟩:=h;exact⟨[_],vs,rfl,⟨a,0,0,rfl,rfl,le_refl _,.inl rfl⟩,d⟩
     |_=>simp[dec]at hd
 | jnk =>
   intro cs r x vs hd h;cases cs with
   |nil=>simp[dec]at hd
   |cons c cs=>cases c<;>simp[dec]at hd
def BR (β:Bt) (K:Ks):Blk->Hd->World->Prop
 |.box cs,h,w=>∃b arr T,h=⟨.pointer (some ⟨b,0,none⟩),some b⟩ /\ w.heap[b]?=some (.cells arr T (0,0)) /\ All2 (CR β K) cs arr.toList
 |.arr t l,h,w=>(l=[] /\ ∃a,h=⟨.slice a 0 0,none⟩) ∨
  ∃ b c cur T,h=⟨.slice (some ⟨b,0,none⟩) l.length c,some b⟩ /\ w.heap[b]?=some (.cells cur T (0,0)) /\ l.length<=c /\ c<=maxLen /\ cur.size=c*t.size /\
    ∀i (h:i<l.length),DR K t l[i] (sub cur.toList (i*t.size) t.size)
def VJ (v u:Value):Prop:=v=u∨∃m n,v = .float .f32 m /\ u = .float .f32 n
def e2I:Int->List (Nat×Array Value):=fun m=>[(1,#[.int .i64 m]),(2,((List.range 20).map fun i=>Value.int .u64 ((10^i:Nat):Int)).toArray)]
def GK (K:Ks):Prop:=∃m:Int,∀x∈e2I m,K x.1=some (false,x.2)
theorem GK.mono {K K':Ks} (h:KLe K K') (a:GK K):GK K':=by
 obtain⟨m,b⟩:=a;exact⟨m,fun x c=>h _ _ (b x c)⟩
structure KOK (K:Ks) (w:World):Prop where
 ato:∀b x,K b=some x->∃cur T fz,w.heap[b]?=some (.cells cur T fz) /\ (x.1=false->cur=x.2) /\ (x.1=true->fz=(0,0) /\ All2 VJ x.2.toList cur.toList)
 gk:GK K
theorem All2.refl {α:Type} {R:α->α->Prop} (a:∀x,R x x):∀(l:List α),All2 R l l
 |[]=>trivial
 |x::r=>⟨a x,All2.refl a r⟩
theorem KOK.self {fl:Bool} {cur:Array Value} {fz:Nat×Nat} (h:fl=true->fz=(0,0)):(fl=false->cur=cur) /\ (fl=true->fz=(0,0) /\ All2 VJ cur.toList cur.toList):=
 ⟨fun _=>rfl,fun e=>⟨h e,All2.refl (fun _ => .inl rfl) _⟩⟩
theorem KOK.see {K:Ks} {w:World} (h:KOK K w) {t:Ty} {b:Nat} {arr:Array Value} (e:K b=some (t.isJ,arr)):∃cur T fz,w.heap[b]?=some (.cells cur T fz) /\ cur.size=arr.size /\
 ∀o x,DR K t x (sub arr.toList o t.size)->DR K t x (sub cur.toList o t.size):=by
 obtain⟨cur,T,fz,hh,f,g⟩:=h.ato b _ e;refine⟨cur,T,fz,hh,?_⟩;cases t with
 | jnk =>
   have a:=(g rfl).2;refine⟨by simpa using a.length.symm,fun o x hd=>?_⟩;obtain⟨n,p⟩:=hd;have i:arr.toList[o]?=some (.float .f32 n):=by
    have:=congrArg (·[0]?) p;simpa[sub,Ty.size]using this
   obtain⟨u,c,j⟩:=a.get? i;have k:∃m,u = .float .f32 m:=by
    rcases j with rfl|⟨_,m,_,rfl⟩
    ·exact⟨n,rfl⟩
    ·exact⟨m,rfl⟩
   obtain⟨m,rfl⟩:=k;refine⟨m,?_⟩;have d:o<cur.toList.length:=(List.getElem?_eq_some_iff.1 c).1;have l:cur.toList[o] = .float .f32 m:=by rw[List.getElem?_eq_getElem d]at c;simpa using c
   unfold sub;rw[List.drop_eq_getElem_cons d,l];simp[Ty.size]
 | _ =>
   have a:=f rfl;subst a;exact⟨rfl,fun o x hd=>hd⟩
def Jk (K:Ks) (x:Nat):Prop:=∃arr,K x=some (true,arr)
structure MR (β:Bt) (K:Ks) (get:Get) (w:World):Prop where
 blk:∀k b,get k=some b->∃h,β k=some h /\ BR β K b h w
 sep:∀k k' b b' h h' x,get k=some b->get k'=some b'->β k=some h->β k'=some h'->h.b=some x->h'.b=some x->k=k'
 ro:∀k b h x,get k=some b->β k=some h->h.b=some x->K x=none
def Own (β:Bt) (get:Get) (x:Nat):Prop:=∃k b h,get k=some b /\ β k=some h /\ h.b=some x
def d7F (β:Bt) (K:Ks) (get:Get) (x:Nat):Prop:=Own β get x∨Jk K x
structure Fr (S:Nat->Prop) (w0 w:World):Prop where
 os:w.os=w0.os
 tape:w.tape=w0.tape
 output:w.output=w0.output
 size:w0.heap.size<=w.heap.size
 block:∀b,b<w0.heap.size->¬S b->w.heap[b]?=w0.heap[b]?
theorem Fr.refl (S:Nat->Prop) (w:World):Fr S w w:=⟨rfl,rfl,rfl,le_refl _,fun _ _ _=>rfl⟩
theorem Fr.trans {S f:Nat->Prop} {a b c:World} (h:Fr S a b) (h':Fr f b c) (i:∀x,x<a.heap.size->f x->S x):Fr S a c:=
 ⟨h'.os.trans h.os,h'.tape.trans h.tape,h'.output.trans h.output,Nat.le_trans h.size h'.size,fun k d g=>
  (h'.block k (Nat.lt_of_lt_of_le d h.size) fun e=>g (i k d e)).trans (h.block k d g)⟩
theorem BR.mono {β β':Bt} {K K':Ks} (m:BLe β β') (d:KLe K K') {b:Blk} {h:Hd} {w:World} (a:BR β K b h w):BR β' K' b h w:=by
 cases b with
 |box cs=>obtain⟨x,arr,T,e,hh,n⟩:=a;exact⟨x,arr,T,e,hh,n.mono fun _ _=>CR.mono m d⟩
 | arr t l =>
   rcases a with a|⟨x,c,cur,T,e,hh,f,g,j,k⟩
   ·exact .inl a
   ·exact .inr ⟨x,c,cur,T,e,hh,f,g,j,fun i o=>DR.mono d _ (k i o)⟩
theorem BR.world {β:Bt} {K:Ks} {b:Blk} {h:Hd} {w w':World} (a:BR β K b h w) (d:∀x,h.b=some x->w'.heap[x]?=w.heap[x]?):BR β K b h w':=by
 cases b with
 |box cs=>obtain⟨x,arr,T,rfl,hh,f⟩:=a;exact⟨x,arr,T,rfl,by rw[d x rfl];exact hh,f⟩
 | arr t l =>
   rcases a with a|⟨x,c,cur,T,rfl,hh,e⟩
   ·exact .inl a
   ·exact .inr ⟨x,c,cur,T,rfl,by rw[d x rfl];exact hh,e⟩
theorem BR.lt {β:Bt} {K:Ks} {b:Blk} {h:Hd} {w:World} (d:BR β K b h w) {x:Nat} (c:h.b=some x):x<w.heap.size:=by
 cases b with
 |box cs=>obtain⟨y,arr,T,rfl,hh,e⟩:=d;cases c;exact(Array.getElem?_eq_some_iff.1 hh).1
 | arr t l =>
   rcases d with⟨_,a,rfl⟩|⟨y,cap,cur,T,rfl,hh,h1⟩
   ·cases c
   ·cases c;exact(Array.getElem?_eq_some_iff.1 hh).1
theorem KOK.lt {K:Ks} {w:World} (h:KOK K w) {b:Nat} {arr:Bool×Array Value} (e:K b=some arr):b<w.heap.size:=by
 obtain⟨cur,T,fz,hh,_⟩:=h.ato b arr e;exact(Array.getElem?_eq_some_iff.1 hh).1
def c8W:TypeDesc->Bool
 |.struct _|.array _ _=>true
 |_=>false
def b6J (P:Program) (b:Array Field) (l:List (Nat×Nat×Bool)):Prop:=
 All2 (fun(f:Field) (x:Nat×Nat×Bool)=>f.offset=x.1 /\ ∃a fd,P.info? f.type=some a /\ a.size=x.2.1 /\ P.underlying f.type=some fd /\ c8W fd=x.2.2) b.toList l
def a1C (P:Program) (d:TypeDesc) (ti:TI):Prop:=match ti.sort with
 |.slice=>d = .slice ti.elem
 |.array n=>d = .array n ti.elem
 |.string=>d = .string
 |.struct=>∃a,d = .struct a /\ b6J P a ti.fields
 |.bool=>d = .bool
 |.int k=>d = .int k
 |.float k=>d = .float k
 |.complex k=>d = .complex k
 |.other=>True
def ZR (c:C) (v:Value):Prop:=∀β K,CR β K c v
structure e1L (P:Program) (t:Nat) (ti:TI):Prop where
 ex:∃i d z,P.info? t=some i /\ P.underlying t=some d /\ i.zero=some z /\ i.size=ti.size /\ i.bytes=ti.bytes /\ c8W d=ti.agg /\
  All2 ZR ti.zero z.cells.toList /\ a1C P d ti /\ (ti.ty.size=ti.size->∀K,DR K ti.ty (zero ti.ty) z.cells.toList) /\ z.cells.size=i.size
structure e2J (P:Program) (t:Nat):Prop where
 guard:P.eqGuardType P.depth t=false
 eq:∀(cs ds:List C) (xs ys:Array Value) (b:Bool) (β:Bt) (K:Ks) (w:World),(∀i,P.info? t=some i->cs.length=i.size /\ ∃z zs,i.zero=some z /\ All2 ZR zs z.cells.toList /\ a7O zs cs=true)->a2B cs ds=some b->All2 (CR β K) cs xs.toList->All2 (CR β K) ds ys.toList ->
  (Op.equalIn 10000 t (.agg xs) (.agg ys)).run P w = .ok b w
def a6z (β:Bt) (K:Ks) (ws:List W) (v:Value):Prop:=VR β K (c8T ws) v
def a2d (ins:List Blk):Get:=fun k=>ins[k]?
structure Ret (ins:List Blk) (outs:List (Option Blk)) (rs:List W) (β0:Bt) (K0:Ks) (w0:World) (v:Value) (w':World) (β:Bt) (K:Ks):Prop where
 kle:KLe K0 K
 kok:KOK K w'
 knew:∀b arr,K b=some arr->K0 b=some arr∨Own β0 (a2d ins) b∨w0.heap.size<=b
 mr:MR β K (a2f outs) w'
 fresh:∀k,outs.length<=k->β k=none
 out:a6z β K rs v
 fr:Fr (d7F β0 K0 (a2d ins)) w0 w'
 own:∀x,Own β (a2f outs) x->Own β0 (a2d ins) x∨w0.heap.size<=x
 ble:BLe β0 β
 le:ins.length<=outs.length
def c1I (P:Program) (f:Nat) (sm:a5A):Prop:=
 ∀(args:List W) (ins:List Blk) (rs:List W) (outs:List (Option Blk)),sm.run args ins=some (true,rs,outs) ->
 ∀(β0:Bt) (K0:Ks) (w0:World) (vs:Array Value),KOK K0 w0->MR β0 K0 (a2d ins) w0->(∀k,ins.length<=k->β0 k=none)->All2 (WR β0 K0) args vs.toList ->
 Calls P f vs w0 fun e w'=>∃v β K,e = .returned v /\ Ret ins outs rs β0 K0 w0 v w' β K
structure d7G (P:Program) (f:Nat):Prop where
 body:∃fn,P.funcs[f]?=some fn /\ fn.body.isSome=true /\ (fn.name == "runtime.NumGoroutine")=false
structure a1o (P:Program) (Γ:Env):Prop where
 tab:∀t ti,Γ.tab t=some ti->e1L P t ti
 sem:∀f sm,Γ.sem f=some sm->c1I P f sm /\ d7G P f
 eq:∀t,Γ.eqT t=true->e2J P t
 mixed:P.follows .mixedOrders=true
def a4p (upd:List (Nat×Option Blk)) (get:Get):Get:=fun k=>match a1w upd k with
 |some b=>b
 |none=>get k
structure a7R (β:Bt) (K:Ks) (get:Get) (n:Nat) (w:World) (out:Out) (v:Value) (w':World) (β':Bt) (K':Ks):Prop where
 ble:BLe β β'
 kle:KLe K K'
 kok:KOK K' w'
 vr:VR β' K' out.v v
 mr:MR β' K' (a4p out.upd get) w'
 fresh:∀k,out.n<=k->β' k=none
 le:n<=out.n
 fr:Fr (d7F β K get) w w'
 own:∀x,Own β' (a4p out.upd get) x->Own β get x∨w.heap.size<=x
 knew:∀b arr,K' b=some arr->K b=some arr∨Own β get b∨w.heap.size<=b
 dom:∀k,k<n->β' k=β k
def a0S (β:Bt) (K:Ks) (get:Get) (n:Nat) (w:World) (out:Out) (v:Value) (w':World):Prop:=∃β' K',a7R β K get n w out v w' β' K'
structure a0s (w w':World):Prop where
 heap:w'.heap=w.heap
 os:w'.os=w.os
 tape:w'.tape=w.tape
 output:w'.output=w.output
theorem a0s.refl (w:World):a0s w w:=⟨rfl,rfl,rfl,rfl⟩
theorem KOK.still {K:Ks} {w w':World} (h:KOK K w) (s:a0s w w'):KOK K w':=⟨fun b arr e=>by rw[s.heap];exact h.ato b arr e,h.gk⟩
theorem MR.world {β:Bt} {K:Ks} {get:Get} {w w':World} (h:MR β K get w) (d:∀x,Own β get x->w'.heap[x]?=w.heap[x]?):MR β K get w':=
 ⟨fun k b e=>by
  obtain⟨x,a,c⟩:=h.blk k b e;exact⟨x,a,c.world fun y f=>d y ⟨k,b,x,e,a,f⟩⟩,h.sep,h.ro⟩
theorem MR.still {β:Bt} {K:Ks} {get:Get} {w w':World} (h:MR β K get w) (s:a0s w w'):MR β K get w':=h.world fun _ _=>by rw[s.heap]
theorem Fr.still {S:Nat->Prop} {w w':World} (s:a0s w w'):Fr S w w':=⟨s.os,s.tape,s.output,by rw[s.heap];exact le_refl _,fun _ _ _=>by rw[s.heap]⟩
theorem a7R.pure {β:Bt} {K:Ks} {get:Get} {n:Nat} {w w':World} {v:V} {u:Value} {ok:Bool} (b:KOK K w) (c:MR β K get w) (a:∀k,n<=k->β k=none) (s:a0s w w') (d:VR β K v u) :
 a0S β K get n w ⟨ok,v,[],n⟩ u w':=
 ⟨β,K,BLe.refl _,KLe.refl _,b.still s,d,c.still s,a,le_refl _,Fr.still s,fun x h => .inl h,fun _ _ e => .inl e,fun _ _=>rfl⟩
def a9p (β:Bt) (n:Nat) (h:Hd):Bt:=fun k=>if k=n then some h else β k
theorem BLe.add {β:Bt} {n:Nat} (h:Hd) (b:β n=none):BLe β (a9p β n h):=by
 intro k x e;unfold a9p;split
 ·rename_i a;subst a;rw[b]at e;cases e
 ·exact e
theorem a0z (β:Bt) (n:Nat) (h:Hd):a9p β n h n=some h:=by simp[a9p]
theorem a1d (β:Bt) {n k:Nat} (h:Hd) (e:k≠n):a9p β n h k=β k:=by simp[a9p,e]
theorem MR.lt {β:Bt} {K:Ks} {get:Get} {w:World} (h:MR β K get w) {x:Nat} (o:Own β get x):x<w.heap.size:=by
 obtain⟨k,b,y,c,d,e⟩:=o;obtain⟨z,a,f⟩:=h.blk k b c;rw[d]at a;cases a;exact f.lt e
theorem MR.nj {β:Bt} {K:Ks} {get:Get} {w:World} (h:MR β K get w) {k:Nat} {b:Blk} {y:Hd} {x:Nat} (e:get k=some b) (f:β k=some y) (g:y.b=some x):¬Jk K x:=by
 rintro⟨_,h1⟩;rw[h.ro k b y x e f g]at h1;cases h1
theorem MR.step {β β':Bt} {K K':Ks} {get get':Get} {w w':World} (h:MR β K get w) (j:BLe β β') (p:KLe K K')
 (cases:∀k b,get' k=some b ->
  (get k=some b /\ ∀x y,β k=some y->y.b=some x->w'.heap[x]?=w.heap[x]? /\ K' x=none) ∨
  (∃y,β' k=some y /\ BR β' K' b y w' /\ ∀x,y.b=some x->K' x=none /\ ∀k' b' y',get' k'=some b'->β' k'=some y'->y'.b=some x->k'=k)):MR β' K' get' w':=by
 refine⟨?_,?_,?_⟩
 ·intro k b e;rcases cases k b e with⟨e1,e2⟩|⟨y,e1,e2,_⟩
  ·obtain⟨y,c,a⟩:=h.blk k b e1;exact⟨y,j _ _ c,(a.world fun x q=>(e2 x y c q).1).mono j p⟩
  ·exact⟨y,e1,e2⟩
 ·intro k k' b b' y y' x e n f l g m;rcases cases k b e with⟨e1,e2⟩|⟨z,e1,_,c⟩
  ·rcases cases k' b' n with⟨e1',e2'⟩|⟨z',e1',_,e3'⟩
   ·obtain⟨u,a,_⟩:=h.blk k b e1;obtain⟨r,d,_⟩:=h.blk k' b' e1';have i:=j _ _ a;have o:=j _ _ d;rw[f]at i;rw[l]at o;cases i;cases o;exact h.sep k k' b b' _ _ x e1 e1' a d g m
   ·rw[l]at e1';cases e1';exact(e3' x m).2 k b y e f g
  ·rw[f]at e1;cases e1;exact((c x g).2 k' b' y' n l m).symm
 ·intro k b y x e f g;rcases cases k b e with⟨e1,e2⟩|⟨z,e1,_,c⟩
  ·obtain⟨u,a,_⟩:=h.blk k b e1;have i:=j _ _ a;rw[f]at i;cases i;exact(e2 x y a g).2
  ·rw[f]at e1;cases e1;exact(c x g).1
theorem a1u {a b:Nat} (h:a≠b):beq a b=false:=by
 cases e:beq a b with
 |false=>rfl
 |true=>exact absurd (Nat.eq_of_beq_eq_true e) h
theorem a0g {a b:Nat} (h:beq a b=true):a=b:=Nat.eq_of_beq_eq_true h
theorem b0J {k:Nat} {b:Option Blk} {get:Get} {j:Nat} {c:Blk} (h:a4p [(k,b)] get j=some c):(j=k /\ b=some c)∨(j≠k /\ get j=some c):=by
 unfold a4p at h;by_cases e:k=j
 ·subst e;simp[a1w]at h;exact .inl ⟨rfl,h⟩
 ·have:beq k j=false:=a1u e;simp[a1w,this]at h;exact .inr ⟨fun x=>e x.symm,h⟩
theorem a0A {k:Nat} {b:Option Blk} {r:List (Nat×Option Blk)} {get:Get} {j:Nat} {c:Blk} (h:a4p ((k,b)::r) get j=some c):(j=k /\ b=some c)∨(j≠k /\ a4p r get j=some c):=by
 unfold a4p at h;by_cases e:k=j
 ·subst e;simp[a1w]at h;exact .inl ⟨rfl,h⟩
 ·have:beq k j=false:=a1u e;simp only[a1w,this]at h;exact .inr ⟨fun x=>e x.symm,h⟩
theorem a1k {ks:List Nat} {get:Get} {j:Nat} {c:Blk} (h:a4p (ks.map fun k=>(k,none)) get j=some c):j ∉ ks /\ get j=some c:=by
 induction ks with
 |nil=>exact⟨by simp,h⟩
 | cons k ks d =>
   rcases a0A (by simpa using h)with⟨_,e⟩|⟨e1,e2⟩
   ·cases e
   ·obtain⟨a,b⟩:=d e2;exact⟨by simp[e1,a],b⟩
theorem a1z (w:World) (o:Obj):(w.alloc o).heap[w.heap.size]?=some o:=by
 show(w.heap.push o)[w.heap.size]?=_;simp
theorem a3N (w:World) (o:Obj) {i:Nat} (h:i<w.heap.size):(w.alloc o).heap[i]?=w.heap[i]?:=by
 show(w.heap.push o)[i]?=_;rw[Array.getElem?_push,if_neg (by omega)]
theorem KOK.alloc {K:Ks} {w:World} (h:KOK K w) (o:Obj):KOK K (w.alloc o):=⟨fun b arr e=>by
 obtain⟨cur,T,fz,a,c⟩:=h.ato b arr e;exact⟨cur,T,fz,by rw[a3N w o (h.lt e)];exact a,c⟩,h.gk⟩
theorem Fr.alloc (S:Nat->Prop) (w:World) (o:Obj):Fr S w (w.alloc o):=⟨rfl,rfl,rfl,by simp,fun b a _=>a3N w o a⟩
theorem a7R.alloc {β:Bt} {K K':Ks} {get:Get} {n:Nat} {w w1:World} {b:Blk} {ok:Bool} {arr:Array Value} {T:TypeId} {h:Hd} {v:V} {gone:List Nat}
 (F:KOK K w) (u:MR β K get w) (A:∀k,n<=k->β k=none) (s:a0s w w1) (m:KLe K K') (d:KOK K' w)
 (l:∀k c x y,get k=some c->k ∉ gone->β k=some y->y.b=some x->K' x=none)
 (hh:h.b=some w.heap.size)
 (E:BR (a9p β n h) K' b h (w1.alloc (.cells arr T))) (I:VR (a9p β n h) K' v h.v)
 (q:∀b arr,K' b=some arr->K b=some arr∨Own β get b∨w.heap.size<=b:=by exact fun _ _ e => .inl e) :
 a0S β K get n w ⟨ok,v,(n,some b)::gone.map (fun k=>(k,none)),n+1⟩ h.v (w1.alloc (.cells arr T)):=by
 have G:β n=none:=A n (le_refl _);have p:=BLe.add h G;have H:w1.heap.size=w.heap.size:=by rw[s.heap]
 have i:∀x,x<w.heap.size->(w1.alloc (.cells arr T)).heap[x]?=w.heap[x]?:=fun x r=>by
  rw[a3N w1 _ (by omega),s.heap]
 refine⟨a9p β n h,K',p,m,?_,I,?_,?_,by simp,⟨s.os,s.tape,s.output,by simp[s.heap],fun x r _=>i x r⟩,?_,q,fun k F=>a1d _ _ (by omega)⟩
 ·exact(d.still s).alloc _
 ·refine u.step p m ?_;intro k c e;rcases a0A e with⟨rfl,e1⟩|⟨e1,e2⟩
  ·cases e1;refine .inr ⟨h,a0z ..,E,fun x r=>?_⟩;rw[hh]at r;cases r;refine⟨?_,?_⟩
   ·cases hq:K' w.heap.size with
    |none=>rfl
    |some a=>exact absurd (d.lt hq) (by omega)
   ·intro k' b' y' B z D;rcases a0A B with⟨rfl,_⟩|⟨t,j⟩
    ·rfl
    ·obtain⟨_,C⟩:=a1k j;rw[a1d _ _ t]at z;have:=u.lt ⟨k',b',y',C,z,D⟩;omega
  ·obtain⟨t,j⟩:=a1k e2;refine .inl ⟨j,fun x y f g=>⟨i x (u.lt ⟨k,c,y,j,f,g⟩),l k c x y j t f g⟩⟩
 ·intro k o;rw[a1d _ _ (by simp at o;omega)];exact A k (by simp at o;omega)
 ·rintro x ⟨k,c,y,e,f,g⟩;rcases a0A e with⟨rfl,e1⟩|⟨e1,e2⟩
  ·rw[a0z]at f;cases f;rw[hh]at g;cases g;exact .inr (le_refl _)
  ·obtain⟨_,j⟩:=a1k e2;rw[a1d _ _ e1]at f;exact .inl ⟨k,c,y,j,f,g⟩
def a0l (P:Program) (o:Oper) (a:Act) (w:World) (c:Value->World->Prop):Prop:=
 ∀(b:Act->World->Prop) (Q:Exit->Act->World->Prop),(∀v w',c v w'->b (a.put o.dst v) w')->o.wp P a w b Q
theorem a0l.value {P:Program} {o:Oper} {a:Act} {w w':World} {v:Value} {b:Value->World->Prop} (h:(execOp a.eval o).run P w = .ok (.value v) w') (e:b v w'):a0l P o a w b:=by
 intro c Q d;simp only[Oper.wp,h,Oper.upon];exact d v w' e
theorem a0l.skip {P:Program} {o:Oper} {a:Act} {w w':World} {b:Value->World->Prop} (h:(execOp a.eval o).run P w = .ok .skip w') (e:b undef w'):a0l P o a w b:=by
 intro c Q d;simp only[Oper.wp,h,Oper.upon];exact d undef w' e
theorem a1l {P:Program} {o:Oper} {ρ:Operand->Value} {w w':World} {v:Value} {s:Sem Value} (a:execOp ρ o=(do let x <- s;pure (Next.value x))) (h:s.run P w = .ok v w') :
 (execOp ρ o).run P w = .ok (.value v) w':=by
 rw[a];simp[h]
theorem a2C (b off j:Nat):(⟨b,off,none⟩:Addr).add j=⟨b,off+j,none⟩:=by unfold Addr.add;split<;>simp_all
theorem a9C {P:Program} {t:TypeId} {d:TypeDesc} (h:P.underlying t=some d) (w:World):(isAgg t).run P w = .ok (c8W d) w:=by
 unfold isAgg;rw[Sem.run_bind,run_underlying h w];cases d<;>rfl
theorem a1e {P:Program} {t:TypeId} {i:TypeInfo} (h:P.info? t=some i) (w:World):(Go.sizeOf t).run P w = .ok i.size w:=by
 simp[sizeOf,typeInfo,h]
theorem a3w {l:List Value} {o n:Nat} (h:o+n<=l.length):(sub l o n).length=n:=by simp[sub];omega
theorem a7S {P:Program} {t:TypeId} {ti:TI} (x:e1L P t ti) {w:World} {b off:Nat} {arr:Array Value} {T:TypeId} {fz:Nat×Nat}
 (hh:w.heap[b]?=some (.cells arr T fz)) {β:Bt} {K:Ks} {cs:List C} {u:W} (f:All2 (CR β K) cs (sub arr.toList off ti.size)) (a:a3h ti.agg ti.size cs=some u) :
 ∃v,(loadVar t ⟨b,off,none⟩).run P w = .ok v w /\ WR β K u v:=by
 obtain⟨i,d,z,p,hd,y,s,o,n,_⟩:=x.ex;have k:=f.length;have e:∀(j:Nat) (v:Value),(sub arr.toList off ti.size)[j]?=some v->w.cell? ((⟨b,off,none⟩:Addr).add j)=some v:=by
  intro j v g;rw[a2C,cell_of_row w b _ arr T fz hh];unfold sub at g;rw[List.getElem?_take]at g;split at g
  ·rw[List.getElem?_drop]at g;simpa using g
  ·cases g
 unfold loadVar;rw[Sem.run_bind,a9C hd,Result.andThen_ok,n];cases hag:ti.agg with
 | true =>
   rw[hag]at a;simp only[a3h]at a;split at a
   ·rename_i h;cases a;have q:cs.length=ti.size:=by simpa using h
    have m:=run_loadCells_list (P:=P) w ⟨b,off,none⟩ (sub arr.toList off ti.size) e;rw[<- k,q]at m;refine⟨.agg (sub arr.toList off ti.size).toArray,?_,⟨_,rfl,by simpa using f⟩⟩;simp[a1e p,s,m]
   ·cases a
 | false =>
   rw[hag]at a;cases cs with
   |nil=>simp[a3h]at a;split at a<;>cases a
   | cons c r =>
     cases r with
     |cons c' A=>simp[a3h]at a;split at a<;>cases a
     | nil =>
       simp only[a3h]at a;split at a
       case h_2=>cases a
       simp only[injEq]at a;subst a;cases hsub:sub arr.toList off ti.size with
       |nil=>rw[hsub]at f;exact f.elim
       | cons v vs =>
         rw[hsub]at f;have l:=e 0 v (by rw[hsub];rfl);rw[a2C,Nat.add_zero]at l;refine⟨v,?_,f.1⟩;simp[l]
theorem All2.sub' {R:C->Value->Prop} {cs:List C} {vs:List Value} (h:All2 R cs vs) (off n:Nat):All2 R (a2p cs off n) (sub vs off n):=(h.drop off).take n
theorem c1J (l:List Value) (o n off k:Nat) (h:off+k<=n):sub (sub l o n) off k=sub l (o+off) k:=by
 unfold sub;rw[List.drop_take,List.take_take,List.drop_drop];congr 1;omega
theorem a3x {agg:Bool} {size:Nat} {cs:List C} {u:W} (h:a3h agg size cs=some u):cs.length=size:=by
 cases agg with
 | true =>
   simp only[a3h]at h;split at h
   ·rename_i a;exact a0g a
   ·cases h
 | false =>
   simp only[a3h]at h;split at h
   ·rename_i a;have a:=a0g a;split at h
    ·simp[a]
    ·cases h
   ·cases h
theorem b2f {R:C->Value->Prop} {cs:List C} {l:List Value} {o m:Nat} (h:All2 R cs (sub l o m)) (d:cs.length=m) {off size:Nat} (c:(a2p cs off size).length=size) :
 All2 R (a2p cs off size) (sub l (o+off) size):=by
 have:=h.sub' off size;by_cases a:off+size<=m
 ·rwa [c1J _ _ _ _ _ a]at this
 ·simp only[a2p,List.length_take,List.length_drop]at c;have b:size=0:=by omega
  subst b;simp[a2p,sub,All2]
theorem a3y (k:FloatKind) (b:Nat):a1r k b=true↔k.format.infRung<b%k.format.signWeight:=by
 unfold a1r FloatKind.decode Ieee.Format.read;have a:k.format.binade<=k.format.infRung:=by cases k<;>decide
 constructor
 ·intro h;dsimp only at h;split at h
  ·simp[Ieee.Datum.isNaN]at h
  ·split at h
   ·simp[Ieee.Datum.isNaN]at h
   ·split at h
    ·simp[Ieee.Datum.isNaN]at h
    ·omega
 ·intro h;dsimp only;rw[if_neg (by omega),if_neg (by omega),if_neg (by omega)];rfl
theorem a1A {k:FloatKind} {b:Nat} (h:a1r k b=true):∃s f,k.format.read b = .nan s f:=by
 unfold a1r FloatKind.decode at h;cases hr:k.format.read b with
 |nan s f=>exact⟨s,f,rfl⟩
 |number s m e=>rw[hr]at h;simp[Ieee.Datum.isNaN]at h
 |infinity s=>rw[hr]at h;simp[Ieee.Datum.isNaN]at h
theorem a4D (k:FloatKind):a1r k (qn k)=true:=by cases k<;>decide
theorem a7T (t:Nat):a1r .f32 (t%2*2^31+2139095040+1+t/2%(2^23-1))=true:=by
 rw[a3y];have b:FloatKind.f32.format.infRung=2139095040:=by decide
 have c:FloatKind.f32.format.signWeight=2147483648:=by decide
 rw[b,c];have:=Nat.mod_lt (t/2) (show 0<2^23-1 by decide);have d:t%2<2:=Nat.mod_lt _ (by decide);generalize t/2%(2^23-1)=x at *;generalize t%2=a at *;have:a*2^31+2139095040+1+x=2139095041+x+2147483648*a:=by omega
 rw[this,Nat.add_mul_mod_self_left];omega
theorem a7U (t:Nat):a1r .f64 (t%2*2^63+9218868437227405312+1+t/2%(2^52-1))=true:=by
 rw[a3y];have b:FloatKind.f64.format.infRung=9218868437227405312:=by decide
 have c:FloatKind.f64.format.signWeight=9223372036854775808:=by decide
 rw[b,c];have:=Nat.mod_lt (t/2) (show 0<2^52-1 by decide);have d:t%2<2:=Nat.mod_lt _ (by decide);generalize t/2%(2^52-1)=x at *;generalize t%2=a at *;have:a*2^63+9218868437227405312+1+x=9218868437227405313+x+9223372036854775808*a:=by omega
 rw[this,Nat.add_mul_mod_self_left];omega
theorem a3O (w:World):a0s w { w with drawn:=w.drawn+1 }:=⟨rfl,rfl,rfl,rfl⟩
theorem b4P (P:Program) (k:FloatKind) (a b:Nat) (w:World):∃r w',(choose (.nanBits k a b)).run P w = .ok r w' /\ a0s w w' /\ a1r k r=true:=by
 refine⟨_,_,by simp only[run_choose,Question.forced];rfl,a3O w,?_⟩;cases k
 ·exact a7T _
 ·exact a7U _
theorem a7V (P:Program) (k:FloatKind) (a:Nat) (w:World):∃r w',(choose (.nanConv k a)).run P w = .ok r w' /\ a0s w w' /\ a1r k r=true:=by
 refine⟨_,_,by simp only[run_choose,Question.forced];rfl,a3O w,?_⟩;cases k
 ·exact a7T _
 ·exact a7U _
theorem a5E (P:Program) (k:FloatKind) (m:Bool) (a b:Nat) (w:World):∃r w',(choose (.nanMinMax k m a b)).run P w = .ok r w' /\ a0s w w' /\ a1r k r=true:=by
 refine⟨_,_,by simp only[run_choose,Question.forced];rfl,a3O w,?_⟩;cases k
 ·exact a7T _
 ·exact a7U _
theorem FEq.nan_left {k:FloatKind} {a b:Nat} (h:FEq k a b) (c:a1r k a=true):a1r k b=true:=by
 rcases h with rfl|⟨_,h⟩
 ·exact c
 ·exact h
def fop (c:BinOp) (k:FloatKind) (a b:Nat):Option Nat:=match c with
 |.add=>k.format.add a b
 |.sub=>k.format.sub a b
 |.mul=>k.format.mul a b
 |_=>k.format.div a b
theorem c1K (c:BinOp) (k:FloatKind) (a b:Nat):a0b c k a b=(fop c k a b).getD (qn k):=by cases c<;>rfl
theorem a6Z {c:BinOp} {k:FloatKind} {a b:Nat} (h:a1r k a=true):fop c k a b=none:=by
 obtain⟨s,f,d⟩:=a1A h;cases c<;>simp[fop,Ieee.Format.add,Ieee.Format.sub,Ieee.Format.mul,Ieee.Format.div,d,Ieee.Datum.sum,Ieee.Datum.product,Ieee.Datum.quotient]
theorem a5F {c:BinOp} {k:FloatKind} {a b:Nat} (h:a1r k b=true):fop c k a b=none:=by
 obtain⟨s,f,d⟩:=a1A h;cases c<;>simp only[fop,Ieee.Format.add,Ieee.Format.sub,Ieee.Format.mul,Ieee.Format.div,d,Ieee.Datum.opposite] <;>
  cases k.format.read a<;>rfl
theorem c1L {d:BinOp} {k:FloatKind} {a c b b':Nat} (i:FEq k a c) (j:FEq k b b'):fop d k c b'=fop d k a b:=by
 rcases i with rfl|⟨e,f⟩
 ·rcases j with rfl|⟨g,h⟩
  ·rfl
  ·rw[a5F g,a5F h]
 ·rw[a6Z e,a6Z f]
theorem a7W (P:Program) (c:BinOp) (g:c = .add∨c = .sub∨c = .mul∨c = .quo) (k:FloatKind) (a b:Nat) (w:World) :
 ∃r w',(Op.floatArith c k a b).run P w = .ok (.float k r) w' /\ a0s w w' /\ (fop c k a b=some r∨(fop c k a b=none /\ a1r k r=true)):=by
 obtain⟨r,w',d,e,f⟩:=b4P P k a b w;rcases g with rfl|rfl|rfl|rfl
 ·cases hf:k.format.add a b with
  |some r=>exact⟨r,w,by simp[Op.floatArith,hf],a0s.refl w,.inl hf⟩
  |none=>exact⟨r,w',by simp only[Op.floatArith,hf,pure_bind,Sem.run_bind,d,Result.andThen_ok,Sem.run_pure],e,.inr ⟨hf,f⟩⟩
 ·cases hf:k.format.sub a b with
  |some r=>exact⟨r,w,by simp[Op.floatArith,hf],a0s.refl w,.inl hf⟩
  |none=>exact⟨r,w',by simp only[Op.floatArith,hf,pure_bind,Sem.run_bind,d,Result.andThen_ok,Sem.run_pure],e,.inr ⟨hf,f⟩⟩
 ·cases hf:k.format.mul a b with
  |some r=>exact⟨r,w,by simp[Op.floatArith,hf],a0s.refl w,.inl hf⟩
  |none=>exact⟨r,w',by simp only[Op.floatArith,hf,pure_bind,Sem.run_bind,d,Result.andThen_ok,Sem.run_pure],e,.inr ⟨hf,f⟩⟩
 ·cases hf:k.format.div a b with
  |some r=>exact⟨r,w,by simp[Op.floatArith,hf],a0s.refl w,.inl hf⟩
  |none=>exact⟨r,w',by simp only[Op.floatArith,hf,pure_bind,Sem.run_bind,d,Result.andThen_ok,Sem.run_pure],e,.inr ⟨hf,f⟩⟩
theorem a3z (P:Program) (c:BinOp) (f:c = .add∨c = .sub∨c = .mul∨c = .quo) (k:FloatKind) {a e b b':Nat} (j:FEq k a e) (l:FEq k b b') (w:World) :
 ∃r w',(Op.floatArith c k e b').run P w = .ok (.float k r) w' /\ a0s w w' /\ FEq k (a0b c k a b) r:=by
 obtain⟨r,w',g,h,d⟩:=a7W P c f k e b' w;refine⟨r,w',g,h,?_⟩;rw[c1K,<- c1L j l];rcases d with d|⟨d,i⟩
 ·rw[d];exact .inl rfl
 ·rw[d];exact .inr ⟨a4D k,i⟩
theorem a3t {k:FloatKind} {a b:Nat} (h:a1r k a=true):k.format.order a b=none:=by
 obtain⟨s,f,c⟩:=a1A h;simp[Ieee.Format.order,c,Ieee.Datum.order]
theorem a2S {k:FloatKind} {a b:Nat} (h:a1r k b=true):k.format.order a b=none:=by
 obtain⟨s,f,c⟩:=a1A h;simp only[Ieee.Format.order,c];cases k.format.read a<;>rfl
theorem a2T {k:FloatKind} {a c b b':Nat} (h:FEq k a c) (i:FEq k b b'):k.format.order c b'=k.format.order a b:=by
 rcases h with rfl|⟨d,e⟩
 ·rcases i with rfl|⟨f,g⟩
  ·rfl
  ·rw[a2S f,a2S g]
 ·rw[a3t d,a3t e]
theorem a9D {k:FloatKind} {a d b b':Nat} {c:Ordering} (g:FEq k a d) (i:FEq k b b') (h:k.format.order a b=some c):d=a /\ b'=b:=by
 rcases g with rfl|⟨e,_⟩
 ·rcases i with rfl|⟨f,_⟩
  ·exact⟨rfl,rfl⟩
  ·rw[a2S f]at h;cases h
 ·rw[a3t e]at h;cases h
theorem c8X (P:Program) (k:FloatKind) {a d b b':Nat} (e:FEq k a d) (f:FEq k b b') (w:World) :
 ∃r w',(Builtin.max2 (.float k d) (.float k b')).run P w = .ok (.float k r) w' /\ a0s w w' /\ FEq k (b1Y k a b) r:=by
 have g:=a2T e f;unfold b1Y;cases hc:k.format.order a b with
 | none =>
   obtain⟨r,w',h,i,j⟩:=a5E P k true d b' w;refine⟨r,w',?_,i,.inr ⟨a4D k,j⟩⟩;rw[hc]at g;simp only[Builtin.max2,g,Sem.run_bind,h,Result.andThen_ok,Sem.run_pure]
 | some c =>
   obtain⟨rfl,rfl⟩:=a9D e f hc;cases c
   ·exact⟨b',w,by simp[Builtin.max2,hc],a0s.refl w,.inl rfl⟩
   ·exact⟨if(k.decode d).neg then b' else d,w,by simp[Builtin.max2,hc],a0s.refl w,.inl rfl⟩
   ·exact⟨d,w,by simp[Builtin.max2,hc],a0s.refl w,.inl rfl⟩
theorem c8Y (P:Program) (k:FloatKind) {a d b b':Nat} (e:FEq k a d) (f:FEq k b b') (w:World) :
 ∃r w',(Builtin.min2 (.float k d) (.float k b')).run P w = .ok (.float k r) w' /\ a0s w w' /\ FEq k (e8K k a b) r:=by
 have g:=a2T e f;unfold e8K;cases hc:k.format.order a b with
 | none =>
   obtain⟨r,w',h,i,j⟩:=a5E P k false d b' w;refine⟨r,w',?_,i,.inr ⟨a4D k,j⟩⟩;rw[hc]at g;simp only[Builtin.min2,g,Sem.run_bind,h,Result.andThen_ok,Sem.run_pure]
 | some c =>
   obtain⟨rfl,rfl⟩:=a9D e f hc;cases c
   ·exact⟨d,w,by simp[Builtin.min2,hc],a0s.refl w,.inl rfl⟩
   ·exact⟨if(k.decode d).neg then d else b',w,by simp[Builtin.min2,hc],a0s.refl w,.inl rfl⟩
   ·exact⟨b',w,by simp[Builtin.min2,hc],a0s.refl w,.inl rfl⟩
theorem b6K {k:FloatKind} {a:Nat} (h:a1r k a=true):a1r k (a3g k a)=true:=by
 rw[a3y]at h ⊢;have:a3g k a%k.format.signWeight=a%k.format.signWeight:=by
  unfold a3g Ieee.Format.signWeight;rw[Nat.xor_mod_two_pow];simp
 rw[this];exact h
theorem a6A {k:FloatKind} {a b:Nat} (h:FEq k a b):FEq k (a3g k a) (a3g k b):=by
 rcases h with rfl|⟨c,d⟩
 ·exact .inl rfl
 ·exact .inr ⟨b6K c,b6K d⟩
theorem b4Q {k:FloatKind} {a c:Nat} (h:FEq k a c):Ieee.Datum.toInt .zero (k.decode c)=Ieee.Datum.toInt .zero (k.decode a):=by
 rcases h with rfl|⟨d,e⟩
 ·rfl
 ·obtain⟨s,f,g⟩:=a1A d;obtain⟨j,i,b⟩:=a1A e;unfold FloatKind.decode;rw[g,b];rfl
theorem c8Z {m n:Nat} (h:m<2^(n+1)) (a:0<m):m.log2<=n:=by
 have:=Nat.log2_lt (n:=m) (k:=n+1) (by omega);omega
theorem a3P (neg:Bool) (n:Nat):Ieee.Toward.even.cut neg n 0=n:=by
 unfold Ieee.Toward.cut;simp[Nat.mod_one]
theorem c1M (s:Bool) (m:Nat) (e:Int) (l:m<2^24) (g:0<m) (n:-149<=e) (k:e<=104) :
 ∃r,Ieee.double.nearest s m e=Ieee.double.word s r /\ r<Ieee.double.infRung:=by
 have o:m.log2<=23:=c8Z l g;have a:max (e+m.log2-Ieee.double.fractionBits) Ieee.double.leastPlace=e+m.log2-52:=by
  have:Ieee.double.leastPlace=-1074:=by decide
  have c:(Ieee.double.fractionBits:Int)=52:=by decide
  rw[this,c];omega
 have f:m <<< (52-m.log2)<2^53:=by
  rw[Nat.shiftLeft_eq];have b:m<2^(m.log2+1):=Nat.lt_log2_self
  calc m*2^(52-m.log2)<2^(m.log2+1)*2^(52-m.log2):=Nat.mul_lt_mul_of_pos_right b (Nat.two_pow_pos _)
   _=2^53:=by rw[<- Nat.pow_add];congr 1;omega
 refine⟨(e+m.log2-52+1074).toNat*2^52+m <<< (52-m.log2),?_,?_⟩
 ·unfold Ieee.Format.nearest;rw[if_neg (by omega)];dsimp only;rw[a];have b:(e-(e+(m.log2:Int)-52)).toNat=52-m.log2:=by omega
  have c:(e+(m.log2:Int)-52-e).toNat=0:=by omega
  have h:Ieee.double.leastPlace=-1074:=by decide
  have i:Ieee.double.binade=2^52:=by decide
  have d:Ieee.double.infRung=2047*2^52:=by decide
  rw[b,c,a3P,h,i,d];congr 1;have:(e+(m.log2:Int)-52 - -1074).toNat<=1149:=by omega
  have j:(e+(m.log2:Int)-52 - -1074)=e+(m.log2:Int)-52+1074:=by omega
  rw[j]at this ⊢;apply Nat.min_eq_left;omega
 ·have d:Ieee.double.infRung=2047*2^52:=by decide
  rw[d];have:(e+(m.log2:Int)-52+1074).toNat<=1149:=by omega
  omega
theorem a7X (s:Bool) (r:Nat) (h:r<Ieee.double.infRung):(FloatKind.f64.decode (Ieee.double.word s r)).isInfinity=false:=by
 have a:Ieee.double.signWeight=2^63:=by decide
 have c:Ieee.double.infRung=2047*2^52:=by decide
 have b:Ieee.double.word s r%Ieee.double.signWeight=r:=by
  unfold Ieee.Format.word;rw[a];split<;>omega
 unfold FloatKind.decode;show(Ieee.double.read (Ieee.double.word s r)).isInfinity=false;unfold Ieee.Format.read;dsimp only;rw[b];split
 ·rfl
 ·first|rfl|(rw[if_pos h];rfl)
theorem b0K {b:Nat} {s:Bool} {m:Nat} {e:Int} (h:FloatKind.f32.decode b = .number s m e):m<2^24 /\ -149<=e /\ e<=104:=by
 have a:Ieee.single.signWeight=2^31:=by decide
 have c:Ieee.single.infRung=255*2^23:=by decide
 have d:Ieee.single.binade=2^23:=by decide
 have f:Ieee.single.leastPlace=-149:=by decide
 have g:Ieee.single.fractionBits=23:=by decide
 change Ieee.single.read b=_ at h;unfold Ieee.Format.read at h;dsimp only at h;rw[a,c,d,f]at h;split at h
 ·cases h;omega
 ·split at h
  ·cases h;have:b%2^31%2^23<2^23:=Nat.mod_lt _ (by decide);have i:b%2^31/2^23-1<=253:=by omega
   refine⟨by omega,by omega,by omega⟩
  ·split at h<;>cases h
theorem c0a {b:Nat} {s:Bool} {m:Nat} {e:Int} (h:FloatKind.f32.decode b = .number s m e):(FloatKind.f64.decode (FloatKind.f64.encode (.number s m e))).isInfinity=false:=by
 obtain⟨g,f,a⟩:=b0K h;by_cases d:m=0
 ·subst d;show(FloatKind.f64.decode (Ieee.double.nearest s 0 e)).isInfinity=false;unfold Ieee.Format.nearest;rw[if_pos rfl];exact a7X s 0 (by decide)
 ·obtain⟨r,i,c⟩:=c1M s m e g (by omega) f a;show(FloatKind.f64.decode (Ieee.double.nearest s m e)).isInfinity=false;rw[i];exact a7X s r c
theorem a2h (P:Program) (s d:FloatKind) {a k:Nat} (h:FEq s a k) (j:(a0y s d a).1=true) (w:World) :
 ∃r w',(Conv.floatToFloat s k d).run P w = .ok (.float d r) w' /\ a0s w w' /\ FEq d (a0y s d a).2 r:=by
 by_cases b:s=d
 ·subst b;refine⟨k,w,by simp[Conv.floatToFloat],a0s.refl w,?_⟩;cases s<;>exact h
 ·have p:(a0y s d a).2=a7P s d a:=by cases s<;>cases d<;>first|exact absurd rfl b|rfl
  rw[p];rcases h with rfl|⟨c,g⟩
  ·unfold Conv.floatToFloat a7P;rw[if_neg b];cases hdec:s.decode a with
   | nan sg f =>
     obtain⟨r,w',c,g,l⟩:=a7V P d a w;exact⟨r,w',by simp only[Sem.run_bind,c,Result.andThen_ok,Sem.run_pure],g,.inr ⟨a4D d,l⟩⟩
   |infinity sg=>exact⟨_,w,by simp,a0s.refl w,.inl rfl⟩
   | number sg m e =>
     have i:(d.decode (d.encode (.number sg m e))).isInfinity=false:=by
      cases s<;>cases d<;>first|exact absurd rfl b|skip
      ·exact c0a hdec
      ·simp only[a0y,a1J,hdec,Bool.not_eq_true']at j;exact j
     exact⟨_,w,by simp[i],a0s.refl w,.inl rfl⟩
  ·obtain⟨sg,f,o⟩:=a1A c;obtain⟨q,t,n⟩:=a1A g;unfold Conv.floatToFloat a7P FloatKind.decode;rw[if_neg b,o,n];obtain⟨r,w',c,g,l⟩:=a7V P d k w;exact⟨r,w',by simp only[Sem.run_bind,c,Result.andThen_ok,Sem.run_pure],g,.inr ⟨a4D d,l⟩⟩
theorem a7Y (P:Program) (s:FloatKind) (d:IntKind) {a c:Nat} (h:FEq s a c) (b:a5B s a d=true) (w:World) :
 (Conv.floatToInt s c d).run P w = .ok (.int d (f2i s a)) w:=by
 unfold Conv.floatToInt;rw[b4Q h];unfold a5B at b;unfold f2i;split at b
 ·rename_i n e;simp only[and_eq_true,decide_eq_true_eq]at b;simp[e,b]
 ·cases b
structure Pre (P:Program) (Γ:Env) (β:Bt) (K:Ks) (get:Get) (n:Nat) (w:World) (ρ:Operand->V) (a:Act):Prop where
 env:a1o P Γ
 kok:KOK K w
 mr:MR β K get w
 fresh:∀k,n<=k->β k=none
 val:∀x,VR β K (ρ x) (a.eval x)
section
variable {P:Program} {Γ:Env} {β:Bt} {K:Ks} {get:Get} {n:Nat} {w:World} {ρ:Operand->V} {a:Act} {o:Oper}
theorem Pre.pure (h:Pre P Γ β K get n w ρ a) {v:V} {u:Value} {ok:Bool} {w':World} (c:VR β K v u) (b:(execOp a.eval o).run P w = .ok (.value u) w') (s:a0s w w') :
 a0l P o a w (a0S β K get n w ⟨ok,v,[],n⟩):=a0l.value b (a7R.pure h.kok h.mr h.fresh s c)
theorem Pre.pure1 (h:Pre P Γ β K get n w ρ a) {c:W} {ok:Bool} {out:Out} (b:a0w n ok c=some out) {u:Value} {w':World} (e:WR β K c u)
 (d:(execOp a.eval o).run P w = .ok (.value u) w') (s:a0s w w'):a0l P o a w (a0S β K get n w out):=by
 simp only[AM.a0w,injEq]at b;subst b;exact h.pure e d s
theorem b6L (h:Pre P Γ β K get n w ρ a) (t:Nat) (x:Operand):VR β K (b0H Γ t x (ρ x)) (a.eval x):=by
 unfold b0H;split
 ·exact h.val x
 ·rename_i b;have e:∃ad,a.eval x = .slice ad 0 0:=by
   unfold d2D at b;split at b
   ·simp only[and_eq_true]at b;have c:=a0g b.1;have d:=a0g b.2;subst c;subst d;exact⟨none,rfl⟩
   ·cases b
  split
  ·split
   ·split
    ·exact e
    ·exact h.val x
   ·exact h.val x
  ·exact h.val x
theorem c1N (h:Pre P Γ β K get n w ρ a) {x:Operand} (b:o.op = .move x∨o.op = .assign x):a0l P o a w (a0S β K get n w ⟨true,b0H Γ o.type x (ρ x),[],n⟩):=by
 refine h.pure (b6L h _ x) (w':=w) ?_ (a0s.refl w);rcases b with b|b<;>simp[execOp,b]
theorem d7H (h:Pre P Γ β K get n w ρ a) {c x y:Operand} {t:Bool} (d:o.op = .pick c x y) (b:ρ c = .val (.one (.bool t))) :
 a0l P o a w (a0S β K get n w ⟨true,e2F t (ρ x) (ρ y),[],n⟩):=by
 have e:a.eval c = .bool t:=by have:=h.val c;rw[b]at this;exact this
 refine h.pure (u:=if t=true then a.eval x else a.eval y) (w':=w) ?_ ?_ (a0s.refl w)
 ·cases t
  ·exact h.val y
  ·exact h.val x
 ·simp[execOp,d,e,asBool]
theorem c9a (h:Pre P Γ β K get n w ρ a) {t:TypeId} {ti:TI} (m:o.op = .alloc t) (q:Γ.tab t=some ti) :
 a0l P o a w (a0S β K get n w ⟨true,.val (.one (.ptr n 0)),[(n,some (.box ti.zero))],n+1⟩):=by
 obtain⟨i,d,z,l,hd,r,A,j,u,b,_⟩:=(h.env.tab t ti q).ex;have p:(execOp a.eval o).run P w = .ok (.value (.pointer (some ⟨w.heap.size,0,none⟩))) (w.alloc (.cells z.cells t)):=by
  refine a1l (s:=Instr.alloc t true (.tuple #[])) ?_ ?_
  ·simp[execOp,m]
  ·simp[Instr.alloc,zeroValue,typeInfo,l,r,newVar,newRow]
 refine a0l.value p ?_;have v:=h.fresh n (le_refl _);refine a7R.alloc (gone:=[]) (h:=⟨.pointer (some ⟨w.heap.size,0,none⟩),some w.heap.size⟩) h.kok h.mr h.fresh (a0s.refl w) (KLe.refl K) h.kok ?_ rfl ?_ ?_
 ·intro k c x y e _ f g;exact h.mr.ro k c y x e f g
 ·exact⟨w.heap.size,z.cells,t,rfl,a1z w _,b.mono fun _ _ hh=>hh _ _⟩
 ·exact⟨_,w.heap.size,a0z ..,rfl,rfl⟩
theorem e2K (h:Pre P Γ β K get n w ρ a) {t:TypeId} {x:Operand} {u:W} (d:o.op = .box t x) (m:ρ x = .val u) (j:u.cells.all b9W=true) :
 a0l P o a w (a0S β K get n w ⟨true,.val (.one (.ptr n 0)),[(n,some (.box u.cells))],n+1⟩):=by
 have l:WR β K u (a.eval x):=by have:=h.val x;rw[m]at this;exact this
 have i:(execOp a.eval o).run P w = .ok (.value (.pointer (some ⟨w.heap.size,0,none⟩))) (w.alloc (.cells (a.eval x).cells t)):=by
  refine a1l (s:=Instr.box t (a.eval x)) ?_ ?_
  ·simp[execOp,d]
  ·simp[Instr.box,newVar,newRow]
 refine a0l.value i ?_;have b:=h.fresh n (le_refl _);refine a7R.alloc (gone:=[]) (h:=⟨.pointer (some ⟨w.heap.size,0,none⟩),some w.heap.size⟩) h.kok h.mr h.fresh (a0s.refl w) (KLe.refl K) h.kok ?_ rfl ?_ ?_
 ·intro k c x y e _ f g;exact h.mr.ro k c y x e f g
 ·exact⟨w.heap.size,(a.eval x).cells,t,rfl,a1z w _,(l.cells j).mono fun _ _=>CR.mono (BLe.add _ b) (KLe.refl K)⟩
 ·exact⟨_,w.heap.size,a0z ..,rfl,rfl⟩
theorem b4R:∀{k:FloatKind} {cs:List C} {l:List (Nat×Nat)},d7B k cs=some l->cs=l.map fun p=>C.cpx k p.1 p.2
 |k,[],l,h=>by simp only[d7B,injEq]at h;subst h;rfl
 | k, c::r,l,h=>by
   cases c with
   | cpx k' x y =>
     simp only[d7B]at h;split at h
     ·rename_i a;have a:=of_decide_eq_true a;split at h
      ·rename_i l' b;cases h;rw[b4R b,a];rfl
      ·cases h
     ·cases h
   |_=>simp[d7B]at h
theorem b4S {cs:List C} {vs:List Value} {m j:Nat} {c:C} (h:All2 (CR β K) cs vs) (a:e1I cs m j=some c) (n:j<m):∃v,vs[j]?=some v /\ CR β K c v:=by
 unfold e1I at a;split at a
 ·rename_i k x y r;split at a
  ·rename_i f;have f:=a0g f;split at a
   ·rename_i l i;cases a;have e:=b4R i;have g:l.length=m:=by rw[<- f,e,List.length_map]
    rw[e]at h;have d:j<l.length:=by omega
    have b:(l.map fun p=>C.cpx k p.1 p.2)[j]?=some (C.cpx k (l.getD j (0,0)).1 (l.getD j (0,0)).2):=by
     rw[List.getElem?_map,List.getElem?_eq_getElem d];simp[List.getElem?_eq_getElem d]
    exact h.get? b
   ·cases a
  ·cases a
 ·cases a
theorem b4T {vs:List Value} {off m j:Nat} {v:Value} (h:(sub vs off m)[j]?=some v):sub vs (off+j) 1=[v] /\ j<m:=by
 unfold sub at h ⊢;rw[List.getElem?_take]at h;split at h
 ·rename_i a;rw[List.getElem?_drop]at h;refine⟨?_,a⟩;apply List.ext_getElem?;intro i;rw[List.getElem?_take];cases i with
  |zero=>simp[h]
  |succ i=>rw[if_neg (by omega)];rfl
 ·cases h
theorem b6M {t:TypeId} {ti:TI} (Z:e1L P t ti) (G:KOK K w) (F:MR β K get w) {x:V} {S:Value} (y:VR β K x S) {out:Out} (a:a1c get n ti.agg ti.size x=some out) :
 ∃b off u v,S = .pointer (some ⟨b,off,none⟩) /\ (loadVar t ⟨b,off,none⟩).run P w = .ok v w /\ WR β K u v /\ AM.a0w n true u=some out:=by
 have fin:∀(b off:Nat) (arr:Array Value) (T:TypeId) (fz:Nat×Nat) (cs:List C) (u:W),S = .pointer (some ⟨b,off,none⟩)->w.heap[b]?=some (.cells arr T fz) ->
  All2 (CR β K) cs (sub arr.toList off ti.size)->a3h ti.agg ti.size cs=some u->AM.a0w n true u=some out->∃b off u v,S = .pointer (some ⟨b,off,none⟩) /\ (loadVar t ⟨b,off,none⟩).run P w = .ok v w /\ WR β K u v /\ AM.a0w n true u=some out:=by
  intro b off arr T fz cs u r hh p g E;obtain⟨v,hr,hw⟩:=a7S Z hh p g;exact⟨b,off,u,v,r,hr,hw,E⟩
 cases x with
 |tup ws=>simp[a1c]at a
 | val u =>
   cases u with
   |agg cs=>simp[a1c]at a
   | one c =>
     cases c with
     | ptr k off =>
       simp only[a1c]at a;obtain⟨hd,b,I,E,r⟩:=y;split at a
       ·rename_i cs M;split at a
        ·rename_i u g;obtain⟨L,f,b',arr,T,rfl,hh,p⟩:=F.blk k _ M;rw[I]at f;cases f;cases E;exact fin b off arr T (0,0) _ u r hh (p.sub' off ti.size) g a
        ·cases a
       ·cases a
     | eptr k s i off =>
       simp only[a1c]at a;obtain⟨hd,b,m,c,I,E,D,r⟩:=y;split at a
       ·rename_i d l M;split at a
        ·rename_i e _;subst e;split at a
         ·rename_i u g;obtain⟨L,f,J⟩:=F.blk k _ M;rw[I]at f;cases f;rcases J with⟨_,a',e'⟩|⟨b',cap,cur,T,e',hh,H,h2,h3,h4⟩
          ·subst e';cases E;omega
          ·subst e';cases E;have o:l.getD i (zero d)=l[i]:=by simp[List.getElem?_eq_getElem D]
           rw[o]at g;have B:=DR.enc (β:=β) d (h4 i D);have Q:=b6I d l[i];refine fin b _ cur T (0,0) _ u r hh ?_ g a;exact b2f B Q (a3x g)
         ·cases a
        ·cases a
       ·cases a
     | rptr s l i off =>
       simp only[a1c]at a;obtain⟨D,b,o',arr,U,z,r⟩:=y;split at a
       ·rename_i u g;obtain⟨cur,T,fz,hh,_,Y⟩:=G.see U;have o:l.getD i (zero s)=l[i]:=by simp[List.getElem?_eq_getElem D]
        rw[o]at g;exact fin b _ cur T fz _ u r hh (b2f (DR.enc (β:=β) s (Y _ _ (z i D))) (b6I s l[i]) (a3x g)) g a
       ·cases a
     | aptr k off m j =>
       simp only[a1c]at a;obtain⟨N,hd,b,I,E,r⟩:=y;split at a
       ·rename_i cs M;split at a
        ·rename_i c p;split at a
         ·rename_i u g;obtain⟨L,f,b',arr,T,rfl,hh,X⟩:=F.blk k _ M;rw[I]at f;cases f;cases E;obtain⟨v,y,A⟩:=b4S (X.sub' off m) p N;have H:ti.size=1:=by have:=a3x g;simpa using this.symm
          refine fin b (off+j) arr T (0,0) [c] u r hh ?_ g a;rw[H,(b4T y).1];exact⟨A,trivial⟩
         ·cases a
        ·cases a
       ·cases a
     | aeptr k s i off m j =>
       simp only[a1c]at a;obtain⟨N,hd,b,q,c,I,E,D,r⟩:=y;split at a
       ·rename_i d l M;split at a
        ·rename_i e _;subst e;split at a
         ·rename_i c' p;split at a
          ·rename_i u g;obtain⟨L,f,J⟩:=F.blk k _ M;rw[I]at f;cases f;rcases J with⟨_,a',e'⟩|⟨b',cap,cur,T,e',hh,H,h2,h3,h4⟩
           ·subst e';cases E;omega
           ·subst e';cases E;have o:l.getD i (zero d)=l[i]:=by simp[List.getElem?_eq_getElem D]
            have p:e1I (a2p (enc d (l.getD i (zero d))) off m) m j=some c':=p;rw[o]at p;have B:=(DR.enc (β:=β) d (h4 i D)).sub' off m;obtain⟨v,y,A⟩:=b4S B p N;have H:ti.size=1:=by have:=a3x g;simpa using this.symm
            have O:(sub cur.toList (i*d.size+off) m)[j]?=some v:=by
             have h:(sub (sub cur.toList (i*d.size) d.size) off m)[j]?=some v:=y;unfold sub at h ⊢;simp only[List.getElem?_take,List.getElem?_drop]at h ⊢;rw[if_pos N]at h ⊢;by_cases R:off+j<d.size
             ·rw[if_pos R]at h;rw[<- h];congr 1;omega
             ·rw[if_neg R]at h;exact absurd h (by simp)
            refine fin b (i*d.size+off+j) cur T (0,0) [c'] u (by rw[Nat.add_assoc];exact r) hh ?_ g a;rw[H,(b4T O).1];exact⟨A,trivial⟩
          ·cases a
         ·cases a
        ·cases a
       ·cases a
     | arptr s l i off m j =>
       simp only[a1c]at a;obtain⟨N,D,b,o',arr,U,z,r⟩:=y;split at a
       ·rename_i c' p;split at a
        ·rename_i u g;obtain⟨cur,T,fz,hh,_,Y⟩:=G.see U;have o:l.getD i (zero s)=l[i]:=by simp[List.getElem?_eq_getElem D]
         rw[o]at p;have B:=(DR.enc (β:=β) s (Y _ _ (z i D))).sub' off m;obtain⟨v,y,A⟩:=b4S B p N;have H:ti.size=1:=by have:=a3x g;simpa using this.symm
         have O:(sub cur.toList (o'+i*s.size+off) m)[j]?=some v:=by
          have h:(sub (sub cur.toList (o'+i*s.size) s.size) off m)[j]?=some v:=y;unfold sub at h ⊢;simp only[List.getElem?_take,List.getElem?_drop]at h ⊢;rw[if_pos N]at h ⊢;by_cases R:off+j<s.size
          ·rw[if_pos R]at h;rw[<- h];congr 1;omega
          ·rw[if_neg R]at h;exact absurd h (by simp)
         refine fin b (o'+i*s.size+off+j) cur T fz [c'] u (by rw[Nat.add_assoc];exact r) hh ?_ g a;rw[H,(b4T O).1];exact⟨A,trivial⟩
        ·cases a
       ·cases a
     |_=>simp[a1c]at a
theorem d7I (h:Pre P Γ β K get n w ρ a) {t:TypeId} {ti:TI} {x:Operand} {out:Out} (e:o.op = .load t x) (i:Γ.tab t=some ti) (d:a1c get n ti.agg ti.size (ρ x)=some out) :
 a0l P o a w (a0S β K get n w out):=by
 obtain⟨b,off,u,v,c,g,j,f⟩:=b6M (h.env.tab t ti i) h.kok h.mr (h.val x) d;refine h.pure1 f j (w':=w) ?_ (a0s.refl w);refine a1l (s:=Instr.loadAt t (a.eval x)) (by simp[execOp,e]) ?_;simp[Instr.loadAt,c,Instr.sureAddr,g]
end
open Classical in
noncomputable def a4q (β:Bt) (K:Ks) (get:Get) (w:World) (ks:List Nat):Ks:=fun b=>match K b with
 |some a=>some a
 | none=>if ∃k∈ks,∃c y,get k=some c /\ β k=some y /\ y.b=some b then(match w.heap[b]? with
   |some (.cells arr _ _)=>some (false,arr)
   |_=>none)else none
section
variable {β:Bt} {K:Ks} {get:Get} {w:World} {ks:List Nat}
theorem a0J:KLe K (a4q β K get w ks):=fun b arr e=>by simp[a4q,e]
theorem a3Q (h:KOK K w):KOK (a4q β K get w ks) w:=by
 refine⟨?_,h.gk.mono a0J⟩;intro b arr e;unfold a4q at e;split at e
 ·rename_i a d;cases e;exact h.ato b _ d
 ·split at e
  ·split at e
   ·rename_i c T fz hh;cases e;exact⟨c,T,fz,hh,KOK.self fun e=>by cases e⟩
   ·cases e
  ·cases e
theorem a3R:∀b arr,a4q β K get w ks b=some arr->K b=some arr∨Own β get b∨w.heap.size<=b:=by
 intro b arr e;unfold a4q at e;split at e
 ·rename_i x h;exact .inl (h.trans e)
 ·split at e
  ·rename_i a;obtain⟨k,_,c,y,d,f,g⟩:=a;exact .inr (.inl ⟨k,c,y,d,f,g⟩)
  ·cases e
theorem a1E (h:MR β K get w) {k:Nat} {c:Blk} {y:Hd} {x:Nat} (b:get k=some c) (e:k ∉ ks) (a:β k=some y) (d:y.b=some x):a4q β K get w ks x=none:=by
 unfold a4q;rw[h.ro k c y x b a d];dsimp only;rw[if_neg];rintro⟨k',hk',c',y',hg',hb',hx'⟩;have:=h.sep k k' c c' y y' x b hg' a hb' d hx';subst this;exact e hk'
theorem b2g (h:MR β K get w) {k:Nat} {c:Blk} {y:Hd} {x:Nat} {arr:Array Value} {T:TypeId} {fz:Nat×Nat} (b:get k=some c) (e:k∈ks) (a:β k=some y) (d:y.b=some x) (hh:w.heap[x]?=some (.cells arr T fz)) :
 a4q β K get w ks x=some (false,arr):=by
 unfold a4q;rw[h.ro k c y x b a d];dsimp only;rw[if_pos ⟨k,e,c,y,b,a,d⟩,hh]
theorem c1O {x:Nat}:Jk (a4q β K get w ks) x↔Jk K x:=by
 refine⟨fun⟨arr,e⟩=>?_,fun⟨arr,e⟩=>⟨arr,a0J x _ e⟩⟩;unfold a4q at e;split at e
 ·rename_i a b;cases e;exact⟨arr,b⟩
 ·split at e
  ·split at e<;>cases e
  ·cases e
theorem d2E (h:MR β K get w) {k:Nat} {t:Ty} {l:List (Den t)} (g:t.isJ=false) (e:get k=some (.arr t l)) (j:k∈ks) {y:Hd} (d:β k=some y):DR (a4q β K get w ks) (.slice t) l [y.v]:=by
 obtain⟨y',c,m⟩:=h.blk k _ e;rw[d]at c;cases c;rcases m with⟨rfl,a,rfl⟩|⟨b,cap,cur,T,rfl,hh,h1,h2,h3,h4⟩
 ·exact⟨a,0,0,rfl,rfl,le_refl _,.inl rfl⟩
 ·refine⟨_,_,_,rfl,rfl,h1,.inr ⟨b,0,cur,rfl,by rw[g];exact b2g h e j d rfl hh,fun i f=>?_⟩⟩;rw[Nat.zero_add];exact DR.mono a0J t (h4 i f)
theorem c9b {t:Ty} {m:Nat} {cs:List C} {l:List (Den t)} (a:0<m) (h:c8S t m cs=some l):t.isJ=false:=by
 cases t with
 | jnk =>
   cases m with
   |zero=>omega
   | succ m=>cases cs with
     |nil=>simp[c8S,dec]at h
     |cons c cs=>cases c<;>simp[c8S,dec]at h
 |_=>rfl
theorem c1P {t:Ty}:∀{m:Nat} {cs:List C} {l:List (Den t)} {vs:List Value},c8S t m cs=some l->All2 (CR β K) cs vs->l.length=m /\ ∀i (c:i<l.length),DR K t l[i] (sub vs (i*t.size) t.size)
 |0,[],l,vs,h,_=>by simp only[c8S,injEq]at h;subst h;exact⟨rfl,fun i c=>by simp at c⟩
 |0,_::_,l,vs,h,_=>by simp[c8S]at h
 | m + 1,cs,l,vs,h,ha=>by
   simp only[c8S]at h;split at h
   ·rename_i x r p;split at h
    ·rename_i l' d;cases h;obtain⟨b,f,rfl,g,j⟩:=b2e t p ha;obtain⟨n,o⟩:=c1P d j;have a:=DR.length t g;refine⟨by simp[n],fun i c=>?_⟩;cases i with
     | zero =>
       have:sub (b++f) (0*t.size) t.size=b:=by unfold sub;rw[Nat.zero_mul,List.drop_zero,<- a];simp
       rw[this];exact g
     | succ i =>
       have e:sub (b++f) ((i+1)*t.size) t.size=sub f (i*t.size) t.size:=by
        unfold sub;rw[Nat.succ_mul,List.drop_append,<- a];have k:List.drop (i*b.length+b.length) b=[]:=List.drop_eq_nil_of_le (by omega);rw[k,Nat.add_sub_cancel];rfl
       rw[e];exact o i (by simpa using c)
    ·cases h
   ·cases h
theorem c1Q (h:MR β K get w) {c c':C} {v:Value} (d:roC get c=some c') (u:CR β K c v) (B:∀k∈a0P c,k∈ks):CR β (a4q β K get w ks) c' v:=by
 cases c with
 | ref t k =>
   simp only[roC]at d;split at d
   ·rename_i O l s;split at d
    ·rename_i e _;subst e;split at d
     case h_2=>cases d
     rename_i z;cases d;obtain⟨y,a,n,c,r,N,rfl⟩:=u;have:=d2E h z s (B k (by simp[a0P])) r;rw[N]at this;exact this
    ·cases d
   ·cases d
 | fn f p =>
   cases p with
   |nil=>simp only[roC,injEq]at d;subst d;exact CR.mono (BLe.refl β) a0J u
   |cons k ks=>simp[roC]at d
 |ptr k o=>simp[roC]at d
 |eptr k t i o=>simp[roC]at d
 |aptr k o m j=>simp[roC]at d
 |aeptr k t i o m j=>simp[roC]at d
 |arptr t l i o m j=>simp[roC]at d
 | asl t k o m =>
   simp only[roC]at d;split at d
   ·rename_i cs s;split at d
    ·rename_i l D;cases d;obtain⟨b,c,⟨hd,b',r,M,F⟩,L,rfl⟩:=u;cases F;obtain⟨H,q,E,arr,T,rfl,hh,x⟩:=h.blk k _ s;rw[r]at q;cases q;cases M;obtain⟨A,G⟩:=c1P D ((x.sub' o (m*t.size)).mono fun _ _=>CR.mono (BLe.refl β) (a0J (β:=β) (get:=get) (w:=w) (ks:=ks)));rcases Nat.eq_zero_or_pos m with g|g
     ·exact⟨_,_,_,rfl,A.symm,by omega,.inl g⟩
     have z:t.isJ=false:=c9b g D;refine⟨_,_,_,rfl,A.symm,by omega,.inr ⟨b,o,arr,rfl,by rw[z];exact b2g h s (B k (by simp[a0P])) r rfl hh,fun i I=>?_⟩⟩;have:=G i I;have e:sub (sub arr.toList o (m*t.size)) (i*t.size) t.size=sub arr.toList (o+i*t.size) t.size:=by
      have J:i*t.size+t.size<=m*t.size:=by rw[<- Nat.succ_mul];exact Nat.mul_le_mul_right _ (by omega)
      unfold sub;rw[List.drop_take,List.take_take,List.drop_drop,Nat.min_eq_left (by omega)]
     rw[e]at this;exact this
    ·cases d
   ·cases d
 |_=>simp only[roC,injEq]at d;subst d;exact CR.mono (BLe.refl β) a0J u
theorem a1f {α e g:Type} {f:α->Option e} {R:α->g->Prop} {i:e->g->Prop}:∀{as1:List α} {cs:List e} {ds:List g},a1q f as1=some cs->All2 R as1 ds->(∀a c d,a∈as1->f a=some c->R a d->i c d)->All2 i cs ds
 | [],cs,ds,h,ha,_=>by
   simp only[a1q,injEq]at h;subst h;cases ds with
   |nil=>trivial
   |cons d ds=>exact ha.elim
 | a :: as1,cs,ds,h,ha,hf=>by
   simp only[a1q]at h;split at h
   ·rename_i y k;split at h
    ·rename_i ys b;cases h;cases ds with
     |nil=>exact ha.elim
     |cons d ds=>exact⟨hf a y d (List.mem_cons_self ..) k ha.1,a1f b ha.2 fun a c d j=>hf a c d (List.mem_cons_of_mem _ j)⟩
    ·cases h
   ·cases h
theorem a2i {α c:Type} {f:α->Option c}:∀{as1:List α} {cs:List c},a1q f as1=some cs->cs.length=as1.length
 |[],cs,h=>by simp only[a1q,injEq]at h;subst h;rfl
 | a::as1,cs,h=>by
   simp only[a1q]at h;split at h
   ·split at h
    ·rename_i b;cases h;simp[a2i b]
    ·cases h
   ·cases h
theorem b6N {α e:Type} {f:α->Option e}:∀{as1:List α} {cs:List e},a1q f as1=some cs->∀c∈cs,∃a∈as1,f a=some c
 |[],cs,h=>by simp only[a1q,injEq]at h;subst h;simp
 | a :: as1,cs,h=>by
   simp only[a1q]at h;split at h
   ·rename_i y k;split at h
    ·rename_i ys d;cases h;intro c b;rcases List.mem_cons.1 b with rfl|b
     ·exact⟨a,List.mem_cons_self ..,k⟩
     ·obtain⟨g,i,j⟩:=b6N d c b;exact⟨g,List.mem_cons_of_mem _ i,j⟩
    ·cases h
   ·cases h
theorem a5G:∀{l:List Nat} {k:Nat},b0E l k=true↔k∈l
 |[],k=>by simp[b0E]
 | x::r,k=>by
   unfold b0E;split
   ·rename_i h;have:=a0g h;subst this;simp
   ·rename_i h;have a:x≠k:=fun e=>by subst e;simp at h
    rw[a5G];simp[a.symm]
theorem a3A {l:List Nat} {k:Nat} (h:b0E l k=false):k ∉ l:=fun a=>by rw[a5G.2 a]at h;cases h
end
theorem a2D (cur vs:List Value) (p o n:Nat) (b:p+vs.length<=cur.length) (h:o+n<=p∨p+vs.length<=o) :
 sub (cur.take p++vs++cur.drop (p+vs.length)) o n=sub cur o n:=by
 apply List.ext_getElem?;intro j;unfold sub;simp only[List.getElem?_take,List.getElem?_drop];split
 ·rename_i a;simp only[List.getElem?_append,length_append,List.length_take,List.getElem?_take,List.getElem?_drop];rcases h with h|h
  ·rw[if_pos (by omega),if_pos (by omega),if_pos (by omega)]
  ·rw[if_neg (by omega)];congr 1;omega
 ·rfl
theorem a3S (cur vs:List Value) (o n off:Nat) (d:o+n<=cur.length) (h:off+vs.length<=n) :
 sub (cur.take (o+off)++vs++cur.drop (o+off+vs.length)) o n=(sub cur o n).take off++vs++(sub cur o n).drop (off+vs.length):=by
 apply List.ext_getElem?;intro j;unfold sub;simp only[List.getElem?_take,List.getElem?_drop,List.getElem?_append,length_append,List.length_take,List.length_drop,List.take_take];by_cases a:j<off
 ·repeat (first|rw[if_pos (by omega)]|rw[if_neg (by omega)])
 ·by_cases b:j<off+vs.length
  ·repeat (first|rw[if_pos (by omega)]|rw[if_neg (by omega)])
   congr 1;omega
  ·by_cases c:j<n
   ·repeat (first|rw[if_pos (by omega)]|rw[if_neg (by omega)])
    congr 1;omega
   ·repeat (first|rw[if_pos (by omega)]|rw[if_neg (by omega)])
section
variable {P:Program} {Γ:Env} {β:Bt} {K:Ks} {get:Get} {n:Nat} {w:World} {ρ:Operand->V} {a:Act} {o:Oper}
theorem a7R.write (h:Pre P Γ β K get n w ρ a) {k b:Nat} {o t:Blk} {y:Hd} {cur:Array Value} {gone:List Nat} {ok:Bool}
 (l:get k=some o) (i:β k=some y) (m:y.b=some b) (q:k ∉ gone)
 (s:BR β (a4q β K get w gone) t y (w.setRow b cur)) :
 a0S β K get n w ⟨ok,pois,(k,some t)::gone.map (fun k=>(k,none)),n⟩ undef (w.setRow b cur):=by
 have C:=h.mr.lt ⟨k,o,y,l,i,m⟩;refine⟨β,a4q β K get w gone,BLe.refl β,a0J,⟨?_,h.kok.gk.mono a0J⟩,trivial,?_,h.fresh,le_refl _,⟨rfl,rfl,rfl,by simp,?_⟩,?_,a3R,fun _ _=>rfl⟩
 ·intro x arr e;have r:x≠b:=fun p=>by
   subst p;rw[a1E h.mr l q i m]at e;cases e
  rw[setRow_other w b x cur r];exact(a3Q h.kok).ato x arr e
 ·refine h.mr.step (BLe.refl β) a0J ?_;intro j c e;rcases a0A e with⟨rfl,e1⟩|⟨e1,e2⟩
  ·cases e1;refine .inr ⟨y,i,s,fun x r=>?_⟩;rw[m]at r;cases r;refine⟨a1E h.mr l q i m,fun k' b' y' p A B=>?_⟩;rcases a0A p with⟨rfl,_⟩|⟨u,d⟩
   ·rfl
   ·obtain⟨_,v⟩:=a1k d;exact h.mr.sep k' j b' o y' y b v l A i B m
  ·obtain⟨u,d⟩:=a1k e2;refine .inl ⟨d,fun x z f g=>⟨setRow_other w b x cur ?_,a1E h.mr d u f g⟩⟩;intro p;subst p;exact e1 (h.mr.sep j k c o z y x d l f i g m)
 ·intro x r D;exact setRow_other w b x cur fun e=>D (.inl ⟨k,o,y,l,i,by rw[m,e]⟩)
 ·rintro x ⟨j,c,z,e,f,g⟩;rcases a0A e with⟨rfl,e1⟩|⟨e1,e2⟩
  ·exact .inl ⟨j,o,z,l,f,g⟩
  ·obtain⟨_,d⟩:=a1k e2;exact .inl ⟨j,c,z,d,f,g⟩
theorem a7R.give (h:Pre P Γ β K get n w ρ a) {ks:List Nat} {v:V} {u:Value} {ok:Bool} (i:VR β (a4q β K get w ks) v u):a0S β K get n w ⟨ok,v,ks.map fun k=>(k,none),n⟩ u w:=by
 refine⟨β,a4q β K get w ks,BLe.refl β,a0J,a3Q h.kok,i,?_,h.fresh,le_refl _,Fr.refl _ _,?_,a3R,fun _ _=>rfl⟩
 ·refine h.mr.step (BLe.refl β) a0J fun k b e=>?_
  obtain⟨d,c⟩:=a1k e;exact .inl ⟨c,fun x y f g=>⟨rfl,a1E h.mr c d f g⟩⟩
 ·rintro x ⟨k,b,y,e,f,g⟩;obtain⟨d,c⟩:=a1k e;exact .inl ⟨k,b,y,c,f,g⟩
theorem a7R.junkW (h:Pre P Γ β K get n w ρ a) {b:Nat} {arr cur d:Array Value} {T:TypeId} {ok:Bool} (g:K b=some (true,arr)) (hh:w.heap[b]?=some (.cells cur T (0,0))) (o:All2 VJ arr.toList d.toList) :
 a0S β K get n w ⟨ok,pois,[],n⟩ undef (w.setRow b d):=by
 refine⟨β,K,BLe.refl β,KLe.refl K,⟨?_,h.kok.gk⟩,trivial,?_,h.fresh,le_refl _,⟨rfl,rfl,rfl,by simp,?_⟩,fun x f => .inl f,fun _ _ e => .inl e,fun _ _=>rfl⟩
 ·intro x y e;by_cases f:x=b
  ·subst f;rw[g]at e;cases e;exact⟨d,T,(0,0),setRow_heap w x cur d T _ hh,⟨fun e=>(by cases e),fun _=>⟨rfl,o⟩⟩⟩
  ·rw[setRow_other w b x d f];exact h.kok.ato x y e
 ·refine h.mr.world fun x f=>setRow_other w b x d fun e=>?_
  obtain⟨k,c,y,i,j,l⟩:=f;have:=h.mr.ro k c y x i j l;rw[e,g]at this;cases this
 ·intro x f m;exact setRow_other w b x d fun e=>m (.inr ⟨arr,by rw[e];exact g⟩)
theorem a2U (t:TypeId) {i:TypeInfo} (e:P.info? t=some i) {b off:Nat} {cur:Array Value} {T:TypeId} {v:Value} (hh:w.heap[b]?=some (.cells cur T (0,0)))
 (f:v.cells.size=i.size) (a:off+v.cells.size<=cur.size) (d:∀x∈v.cells.toList,x.oneCell'=true) :
 (Instr.storeAt t (.pointer (some ⟨b,off,none⟩)) v).run P w = .ok () (w.setRow b (cur.toList.take off++v.cells.toList++cur.toList.drop (off+v.cells.toList.length)).toArray):=by
 have c:=run_storeCells_at P b off T v.cells.toList 0 cur w hh (by simpa using a) d;simp only[Nat.add_zero]at c;simp[Instr.storeAt,Instr.sureAddr,storeVar,sizeOf,typeInfo,e,f,c]
theorem a4s {R:C->Value->Prop} {cs a:List C} {vs b:List Value} (h:All2 R cs vs) (h':All2 R a b) (off:Nat) :
 All2 R (c8R cs off a) (vs.take off++b++vs.drop (off+b.length)):=by
 unfold c8R;rw[h'.length];exact((h.take off).append h').append (h.drop _)
theorem c1R {k:FloatKind} {x y:Nat} {v:Value} {j:Nat}:∀{l:List (Nat×Nat)} {i:Nat} {vs:List Value},All2 (CR β K) (l.map fun p=>C.cpx k p.1 p.2) vs->i<=j->CR β K (.cpx k x y) v ->
 All2 (CR β K) (e1J k j x y i l) (vs.set (j-i) v)
 |[],i,[],_,_,_=>trivial
 |[],_,_::_,h,_,_=>h.elim
 |_::_,_,[],h,_,_=>h.elim
 | p :: r,i,u::d,h,hij,hv=>by
   by_cases e:i=j
   ·subst e;rw[Nat.sub_self,List.set_cons_zero];refine⟨?_,?_⟩
    ·have:beq i i=true:=Nat.beq_refl i;simp only[this,cond_true];exact hv
    ·have b:∀{l:List (Nat×Nat)} {q:Nat} {vs:List Value},i<q->All2 (CR β K) (l.map fun p=>C.cpx k p.1 p.2) vs->All2 (CR β K) (e1J k i x y q l) vs:=by
      intro l
      induction l with
      |nil=>intro q vs _ h;exact h
      | cons p r c =>
        intro q vs f h;cases vs with
        |nil=>exact h.elim
        | cons u d =>
          refine⟨?_,c (by omega) h.2⟩;have:beq q i=false:=a1u (by omega);simp only[this,cond_false];exact h.1
     exact b (Nat.lt_succ_self i) h.2
   ·have a:j-i=(j-(i+1))+1:=by omega
    rw[a,List.set_cons_succ];refine⟨?_,c1R h.2 (by omega) hv⟩;have:beq i j=false:=a1u e;simp only[this,cond_false];exact h.1
theorem b6O {k:FloatKind} {x y j:Nat}:∀{l:List (Nat×Nat)} {i:Nat},(e1J k j x y i l).length=l.length
 |[],_=>rfl
 |_::r,_=>by simp[e1J,b6O (l:=r)]
theorem c1S {cs b:List C} {vs:List Value} {m j:Nat} {u:W} {v:Value} (h:All2 (CR β K) cs vs) (a:e2E cs m j u=some b) (n:WR β K u v) :
 All2 (CR β K) b (vs.set j v) /\ b.length=m /\ v.cells=#[v] /\ v.oneCell'=true /\ a0M u=[]:=by
 unfold e2E at a;split at a
 ·rename_i k x y;split at a
  ·rename_i d;have d:=a0g d;split at a
   ·rename_i l g;cases a;have e:=b4R g;rw[e]at h;have c:l.length=m:=by rw[<- d,e,List.length_map]
    obtain⟨f,y',rfl,o,p⟩:=n;have:=c1R (i:=0) (j:=j) h (Nat.zero_le _) (show CR β K (.cpx k x y) (.complex k f y')from⟨f,y',rfl,o,p⟩);exact⟨by simpa using this,by rw[b6O,c],rfl,rfl,rfl⟩
   ·cases a
  ·cases a
 ·cases a
theorem a9E {vs:List Value} {off m j:Nat} {v:Value} (g:j<m) (c:off+m<=vs.length) :
 vs.take off++(sub vs off m).set j v++vs.drop (off+((sub vs off m).set j v).length)=vs.take (off+j)++[v]++vs.drop (off+j+[v].length):=by
 have a:(sub vs off m).length=m:=a3w c;rw[List.length_set,a];apply List.ext_getElem?;intro i;simp only[List.getElem?_append,length_append,List.length_take,List.getElem?_take,List.getElem?_drop,List.length_set,a,List.length_singleton];by_cases d:i<off
 ·rw[if_pos (by omega),if_pos (by omega),if_pos (by omega),if_pos (by omega),if_pos (by omega),if_pos (by omega)]
 ·by_cases e:i<off+m
  ·rw[if_pos (by omega),if_neg (by omega),List.getElem?_set];by_cases b:i=off+j
   ·subst b;rw[if_pos (by omega),if_pos (by omega),if_pos (by omega),if_neg (by omega)];have:off+j-min (off+j) vs.length=0:=by omega
    rw[this];rfl
   ·rw[if_neg (by omega)];unfold sub;rw[List.getElem?_take,if_pos (by omega),List.getElem?_drop];by_cases f:i<off+j
    ·rw[if_pos (by omega),if_pos (by omega),if_pos (by omega)];congr 1;omega
    ·rw[if_neg (by omega)];congr 1;omega
  ·rw[if_neg (by omega),if_neg (by omega)];congr 1;omega
theorem c9c (h:Pre P Γ β K get n w ρ a) {t:TypeId} {ti:TI} {x y:Operand} {u:W} {out:Out} (ho:o.op = .store t x y) (ht:Γ.tab t=some ti) (hu:b0H Γ t y (ρ y) = .val u)
 (r:a1i get n ti.size u (ρ x)=some out):a0l P o a w (a0S β K get n w out):=by
 obtain⟨i,d,z,hi,hd,hz,hs,_⟩:=(h.env.tab t ti ht).ex;have O:=h.val x;have hw:WR β K u (a.eval y):=by have:=b6L h t y;rw[hu]at this;exact this
 have exec:∀(w':World),(Instr.storeAt t (a.eval x) (a.eval y)).run P w = .ok () w'->(execOp a.eval o).run P w = .ok .skip w':=by
  intro w' J;simp[execOp,ho,J]
 cases Q:ρ x with
 |tup ws=>rw[Q]at r;simp[a1i]at r
 | val ux =>
   rw[Q]at r O;cases ux with
   |agg cs=>simp[a1i]at r
   | one c =>
     cases c with
     | ptr k off =>
       simp only[a1i]at r;obtain⟨hd',b,R,hp,he⟩:=O;split at r
       ·rename_i cs U;split at r
        ·rename_i g;cases r;simp only[and_eq_true]at g;obtain⟨⟨E,I⟩,hc3⟩:=g;have E:=a0g E;have I:off+ti.size<=cs.length:=by simpa using I
         have B:=hw.cells hc3;obtain⟨S,D,b',arr,T,rfl,hh,hc⟩:=h.mr.blk k _ U;rw[R]at D;cases D;cases hp;have F:(a.eval y).cells.size=i.size:=by rw[hs,<- E];exact B.length.symm
         have N:=hc.length;have J:=a2U (P:=P) (w:=w) t hi (v:=a.eval y) (off:=off) hh F (by simp at N;omega) (B.oneCell hc3);rw[<- he]at J;refine a0l.skip (exec _ J) ?_;refine a7R.write (gone:=[]) h U R rfl (by simp) ?_;refine⟨b,_,T,rfl,setRow_heap w b arr _ T _ hh,?_⟩;rw[List.toList_toArray];exact(a4s hc B off).mono fun _ _=>CR.mono (BLe.refl β) a0J
        ·cases r
       ·cases r
     | eptr k t' j off =>
       simp only[a1i]at r;obtain⟨hd',b,m,c,R,hp,hj,he⟩:=O;split at r
       ·rename_i f l U;split at r
        ·rename_i e _;subst e;split at r
         ·rename_i cs hcs;split at r
          ·rename_i g;simp only[and_eq_true,Bool.not_eq_true']at g;obtain⟨⟨⟨E,I⟩,hc3⟩,Y⟩:=g;have E:=a0g E;have I:off+ti.size<=f.size:=by simpa using I
           have hng:k ∉ u.cells.flatMap a0P:=a3A hc3;split at r
           ·rename_i xx C;cases r;have B:=hw.cells Y;have hro:All2 (CR β (a4q β K get w (u.cells.flatMap a0P))) cs (a.eval y).cells.toList:=
             a1f hcs B fun cc cc' vv hm hf J=>c1Q h.mr hf J fun k hk=>List.mem_flatMap.2 ⟨cc,hm,hk⟩
            obtain⟨S,D,hbr⟩:=h.mr.blk k _ U;rw[R]at D;cases D;rcases hbr with⟨_,a',e'⟩|⟨b',cap,cur,T,e',hh,h1,h2,h3,h4⟩
            ·subst e';cases hp;omega
            ·subst e';cases hp;have hx1:l.getD j (zero f)=l[j]:=by simp[List.getElem?_eq_getElem hj]
             have C:dec f (c8R (enc f (l.getD j (zero f))) off cs)=some (xx,[]):=C;rw[hx1]at C;have A:(a.eval y).cells.toList.length=ti.size:=by rw[<- hro.length,E]
             have F:(a.eval y).cells.size=i.size:=by rw[hs,<- A];simp
             have M:j*f.size+f.size<=cur.size:=by
              rw[h3,<- Nat.succ_mul];exact Nat.mul_le_mul_right _ (by omega)
             have J:=a2U (P:=P) (w:=w) t hi (v:=a.eval y) (off:=j*f.size+off) hh F (by rw[F,hs];omega) (fun x Q=>by
              have:=All2.oneCell Y B x Q;exact this)
             rw[<- he]at J;refine a0l.skip (exec _ J) ?_;refine a7R.write h U R rfl hng ?_;refine .inr ⟨b,c,_,T,by simp,setRow_heap w b cur _ T _ hh,by simpa using h1,h2,?_,?_⟩
             ·simp only[List.size_toArray,length_append,List.length_take,List.length_drop,Array.length_toList];rw[Array.length_toList]at A;omega
             ·intro q hq;rw[List.toList_toArray];have hq':q<l.length:=by simpa using hq
              by_cases hqj:q=j
              ·subst hqj;rw[List.getElem_set_self];rw[a3S _ _ _ _ _ (by simpa using M) (by rw[A];exact I)];have L:=(DR.enc (β:=β) f (h4 q hj)).mono fun _ _=>CR.mono (BLe.refl β) (a0J (β:=β) (get:=get) (w:=w) (ks:=u.cells.flatMap a0P))
               obtain⟨v1,v2,e1,e2,e3⟩:=b2e f C (a4s L hro off);cases v2 with
               |nil=>rw[e1];simpa using e2
               |cons _ _=>exact e3.elim
              ·rw[List.getElem_set_ne (by omega)];rw[a2D _ _ _ _ _ (by simp only[Array.length_toList]at *;omega) ?_]
               ·exact DR.mono a0J _ (h4 q hq')
               ·rcases Nat.lt_or_ge q j with G|hge
                ·left;have:q*f.size+f.size<=j*f.size:=by rw[<- Nat.succ_mul];exact Nat.mul_le_mul_right _ G
                 omega
                ·right;have:j*f.size+f.size<=q*f.size:=by rw[<- Nat.succ_mul];exact Nat.mul_le_mul_right _ (by omega)
                 rw[A];omega
           ·cases r
          ·cases r
         ·cases r
        ·cases r
       ·cases r
     | rptr t' l q off =>
       cases t' with
       | jnk =>
         simp only[a1i]at r;obtain⟨hq,b,o',arr,hK,hall,he⟩:=O;split at r
         ·rename_i xf;split at r
          ·rename_i g;cases r;simp only[and_eq_true]at g;have h1:=a0g g.1;have h2:=a0g g.2;subst h2;obtain⟨cur,T,fz,hh,_,hvj0⟩:=h.kok.ato b _ hK;obtain⟨hfz,hvj⟩:=hvj0 rfl;subst hfz;obtain⟨x',Z,_⟩:=hw;obtain⟨m,hm⟩:=hall q hq;have G:o'+q<arr.toList.length:=by
            have:=congrArg List.length hm;simp[sub,Ty.size]at this;simp;omega
           have hat:arr.toList[o'+q] = .float .f32 m:=by
            have:=congrArg (·[0]?) hm;simp only[sub,Ty.size,Nat.mul_one]at this;rw[List.getElem?_take,if_pos (by omega),List.getElem?_drop,Nat.add_zero,List.getElem?_eq_getElem G]at this;simpa using this
           have A:=hvj.length;have F:(a.eval y).cells.size=i.size:=by rw[Z,hs,h1];rfl
           have J:=a2U (P:=P) (w:=w) t hi (v:=a.eval y) (off:=o'+q) hh F (by rw[F,hs,h1];simp at G A;omega) (by rw[Z];intro z hz;simp[Value.cells]at hz;subst hz;rfl);have he':a.eval x = .pointer (some ⟨b,o'+q,none⟩):=by rw[he];simp[Ty.size]
           rw[<- he']at J;refine a0l.skip (exec _ J) ?_;refine a7R.junkW h hK hh ?_;rw[List.toList_toArray,Z];refine All2.of_get (by simp[Value.cells]at G A ⊢;omega) fun j u v hu O=>?_
           by_cases hj:j=o'+q
           ·subst hj;rw[List.getElem?_eq_getElem G,hat]at hu;have:v = .float .f32 x':=by
             rw[List.append_assoc,List.getElem?_append_right (by simp;omega)]at O;simp[Value.cells]at O;simp at G A;rw[Nat.min_eq_left (by omega)]at O;simpa using O.symm
            cases hu;exact .inr ⟨m,x',rfl,this⟩
           ·have hv':cur.toList[j]?=some v:=by
             rw[<- O];simp only[Value.cells,List.getElem?_append,length_append,List.length_take,List.getElem?_take,List.getElem?_drop];simp at G A;by_cases h3:j<o'+q
             ·simp;rw[if_pos (by omega),if_pos (by omega),if_pos (by omega)]
             ·simp;rw[if_neg (by omega)];congr 1;omega
            obtain⟨v2,e1,e2⟩:=hvj.get? hu;rw[hv']at e1;cases e1;exact e2
          ·cases r
         ·cases r
       |_=>simp[a1i]at r
     | aptr k off m j =>
       simp only[a1i]at r;obtain⟨hj,hd',b,R,hp,he⟩:=O;split at r
       ·rename_i cs U;split at r
        ·rename_i cs' H;split at r
         ·rename_i g;cases r;simp only[and_eq_true]at g;have E:=a0g g.1;have I:off+m<=cs.length:=by simpa using g.2
          obtain⟨S,D,b',arr,T,rfl,hh,hc⟩:=h.mr.blk k _ U;rw[R]at D;cases D;cases hp;obtain⟨X,A,s,V,hkeys⟩:=c1S (hc.sub' off m) H hw;have N:cs.length=arr.toList.length:=hc.length;have F:(a.eval y).cells.size=i.size:=by rw[s,hs,E];rfl
          have J:=a2U (P:=P) (w:=w) t hi (v:=a.eval y) (off:=off+j) hh F (by rw[s];simp at N ⊢;omega) (fun x Q=>by rw[s]at Q;simp at Q;subst Q;exact V);rw[<- he]at J;refine a0l.skip (exec _ J) ?_;refine a7R.write (gone:=[]) h U R rfl (by simp) ?_;refine⟨b,_,T,rfl,setRow_heap w b arr _ T _ hh,?_⟩;rw[List.toList_toArray,s];have:=a4s hc X off;rw[a9E hj (by omega)]at this;exact this.mono fun _ _=>CR.mono (BLe.refl β) a0J
         ·cases r
        ·cases r
       ·cases r
     | aeptr k t' q off m j =>
       simp only[a1i]at r;obtain⟨hj,hd',b,p,c,R,hp,hq,he⟩:=O;split at r
       ·rename_i f l U;split at r
        ·rename_i e _;subst e;split at r
         ·rename_i cs' H;split at r
          ·rename_i g;simp only[and_eq_true]at g;have E:=a0g g.1;have I:off+m<=f.size:=by simpa using g.2
           split at r
           ·rename_i xx C;cases r;obtain⟨S,D,hbr⟩:=h.mr.blk k _ U;rw[R]at D;cases D;rcases hbr with⟨_,a',e'⟩|⟨b',cap,cur,T,e',hh,h1,h2,h3,h4⟩
            ·subst e';cases hp;omega
            ·subst e';cases hp;have hx1:l.getD q (zero f)=l[q]:=by simp[List.getElem?_eq_getElem hq]
             have C:dec f (c8R (enc f (l.getD q (zero f))) off cs')=some (xx,[]):=C;have H:e2E (a2p (enc f (l.getD q (zero f))) off m) m j u=some cs':=H;rw[hx1]at C H;have L:=DR.enc (β:=β) f (h4 q hq);obtain⟨X,A,s,V,hkeys⟩:=c1S (L.sub' off m) H hw;have M:q*f.size+f.size<=cur.size:=by
              rw[h3,<- Nat.succ_mul];exact Nat.mul_le_mul_right _ (by omega)
             have F:(a.eval y).cells.size=i.size:=by rw[s,hs,E];rfl
             have J:=a2U (P:=P) (w:=w) t hi (v:=a.eval y) (off:=q*f.size+(off+j)) hh F (by rw[s];simp;omega) (fun x Q=>by rw[s]at Q;simp at Q;subst Q;exact V);rw[<- he]at J;refine a0l.skip (exec _ J) ?_;refine a7R.write (gone:=[]) h U R rfl (by simp) ?_;have hvl:(a.eval y).cells.toList.length=1:=by rw[s];rfl
             refine .inr ⟨b,c,_,T,by simp,setRow_heap w b cur _ T _ hh,by simpa using h1,h2,?_,?_⟩
             ·simp only[List.size_toArray,length_append,List.length_take,List.length_drop,Array.length_toList];rw[Array.length_toList]at hvl;omega
             ·intro z hz;rw[List.toList_toArray];have hz':z<l.length:=by simpa using hz
              by_cases hzq:z=q
              ·subst hzq;rw[List.getElem_set_self];rw[a3S _ _ _ _ _ (by simpa using M) (by rw[hvl];omega),s];have hsub:(sub cur.toList (z*f.size) f.size).length=f.size:=a3w (by simpa using M);have N:=(a4s L X off).mono fun _ _=>CR.mono (BLe.refl β) (a0J (β:=β) (get:=get) (w:=w) (ks:=[]))
               rw[a9E hj (by rw[hsub];exact I)]at N;obtain⟨v1,v2,e1,e2,e3⟩:=b2e f C N;have e1:List.take (off+j) (sub cur.toList (z*f.size) f.size)++[a.eval y]++List.drop (off+j+1) (sub cur.toList (z*f.size) f.size)=v1++v2:=e1;cases v2 with
               | nil =>
                 show DR _ _ _ (List.take (off+j) (sub cur.toList (z*f.size) f.size)++[a.eval y]++List.drop (off+j+1) (sub cur.toList (z*f.size) f.size));rw[e1];simpa using e2
               |cons _ _=>exact e3.elim
              ·rw[List.getElem_set_ne (by omega)];rw[a2D _ _ _ _ _ (by simp only[Array.length_toList]at *;omega) ?_]
               ·exact DR.mono a0J _ (h4 z hz')
               ·rcases Nat.lt_or_ge z q with G|hge
                ·left;have:z*f.size+f.size<=q*f.size:=by rw[<- Nat.succ_mul];exact Nat.mul_le_mul_right _ G
                 omega
                ·right;have:q*f.size+f.size<=z*f.size:=by rw[<- Nat.succ_mul];exact Nat.mul_le_mul_right _ (by omega)
                 rw[hvl];omega
           ·cases r
          ·cases r
         ·cases r
        ·cases r
       ·cases r
     |_=>simp[a1i]at r
end
section
variable {P:Program} {Γ:Env} {β:Bt} {K:Ks} {get:Get} {n:Nat} {w:World} {ρ:Operand->V} {a:Act} {o:Oper}
theorem Pre.one (h:Pre P Γ β K get n w ρ a) {x:Operand} {c:C} (b:ρ x = .val (.one c)):CR β K c (a.eval x):=by
 have:=h.val x;rw[b]at this;exact this
theorem Pre.agg (h:Pre P Γ β K get n w ρ a) {x:Operand} {cs:List C} (b:ρ x = .val (.agg cs)):∃arr:Array Value,a.eval x = .agg arr /\ All2 (CR β K) cs arr.toList:=by
 have:=h.val x;rw[b]at this;exact this
theorem a3T (h:Pre P Γ β K get n w ρ a) {x:Operand} {c:C} (e:o.op = .nilCheck x) (j:ρ x = .val (.one c))
 (g:(∃k o,c = .ptr k o)∨(∃k t i o,c = .eptr k t i o)∨(∃t l i o,c = .rptr t l i o)∨(∃f cs,c = .fn f cs)) :
 a0l P o a w (a0S β K get n w ⟨true,.val (.one c),[],n⟩):=by
 have d:=h.one j;refine h.pure (u:=a.eval x) (w':=w) d ?_ (a0s.refl w);rcases g with⟨k,o',rfl⟩|⟨k,t,i,o',rfl⟩|⟨t,l,i,o',rfl⟩|⟨f,cs,rfl⟩
 ·obtain⟨_,_,_,_,b⟩:=d;simp[execOp,e,b]
 ·obtain⟨_,_,_,_,_,_,_,b⟩:=d;simp[execOp,e,b]
 ·obtain⟨_,_,_,_,_,_,b⟩:=d;simp[execOp,e,b]
 ·obtain⟨_,b,_⟩:=d;simp[execOp,e,b]
theorem All2.nth {α a:Type} {R:α->a->Prop} {as1:List α} {cs:List a} {i:Nat} {c:a} (h:All2 R as1 cs) (b:cs[i]?=some c):∃x,as1[i]?=some x /\ R x c:=h.get?' b
theorem b2h (h:Pre P Γ β K get n w ρ a) {t:TypeId} {ti:TI} {x:Operand} {f:Nat} {off size:Nat} {M:Bool} {out:Out} (T:o.op = .fieldAddr t x f) (V:Γ.tab t=some ti)
 (U:ti.sort = .struct) (S:ti.fields[f]?=some (off,size,M)) (Q:size≠0)
 (A : (match ρ x with
      |.val (.one (.ptr k o))=>a0w n true (.one (.ptr k (o+off)))
      |.val (.one (.eptr k ty i o))=>a0w n true (.one (.eptr k ty i (o+off)))
      |.val (.one (.rptr ty l i o))=>a0w n true (.one (.rptr ty l i (o+off)))
      |_=>none)=some out):a0l P o a w (a0S β K get n w out):=by
 obtain⟨i,d,z,W,hd,X,_,_,_,_,C,_⟩:=(h.env.tab t ti V).ex;simp only[a1C,U]at C;obtain⟨O,rfl,H⟩:=C;obtain⟨fl,G,B,N,fd,F,y,_⟩:=H.nth S;have v:O[f]?=some fl:=by simpa using G
 have p:∀(b q:Nat),a.eval x = .pointer (some ⟨b,q,none⟩)->(execOp a.eval o).run P w = .ok (.value (.pointer (some ⟨b,q+off,none⟩))) w:=by
  intro b q g;refine a1l (s:=Instr.fieldAt t (a.eval x) f) (by simp[execOp,T]) ?_;have J:¬N.size=0:=by rw[y];exact Q
  simp[Instr.fieldAt,run_underlying hd,v,g,Instr.sureAddr,fieldPlace,a1e F,J,a2C,B]
 split at A
 ·rename_i k q D;obtain⟨e,b,E,L,g⟩:=h.one D;exact h.pure1 A (u := .pointer (some ⟨b,q+off,none⟩)) ⟨e,b,E,L,rfl⟩ (p b q g) (a0s.refl w)
 ·rename_i k ty j q D;obtain⟨e,b,m,c,E,L,I,g⟩:=h.one D;exact h.pure1 A (u := .pointer (some ⟨b,j*ty.size+(q+off),none⟩)) ⟨e,b,m,c,E,L,I,rfl⟩ (by rw[<- Nat.add_assoc];exact p b _ g) (a0s.refl w)
 ·rename_i ty l j q D;obtain⟨I,b,o',arr,R,r,g⟩:=h.one D;exact h.pure1 A (u := .pointer (some ⟨b,o'+j*ty.size+(q+off),none⟩)) ⟨I,b,o',arr,R,r,rfl⟩ (by rw[<- Nat.add_assoc];exact p b _ g) (a0s.refl w)
 ·cases A
theorem a5H (f:Bool) (t:TypeId) {d:TypeInfo} {fd:TypeDesc} (j:P.info? t=some d) (i:P.underlying t=some fd) (g:c8W fd=f) {cs:List C} {arr:Array Value} {off:Nat} {u:W}
 (l:All2 (CR β K) cs arr.toList) (b:a3h f d.size (a2p cs off d.size)=some u):∃v,(part t arr off).run P w = .ok v w /\ WR β K u v:=by
 have a:=l.sub' off d.size;have n:=a3x b;unfold part;rw[Sem.run_bind,a9C i,Result.andThen_ok,g];cases f with
 | true =>
   simp only[a3h]at b;split at b
   ·cases b;refine⟨.agg (arr.extract off (off+d.size)),by simp[a1e j],⟨_,rfl,?_⟩⟩;rw[Array.toList_extract];have e:List.extract arr.toList off (off+d.size)=sub arr.toList off d.size:=by
     simp[List.extract,sub]
    rw[e];exact a
   ·cases b
 | false =>
   simp only[a3h]at b;split at b
   ·rename_i k;have k:=a0g k;split at b
    ·rename_i c h;cases b;rw[h]at a;cases hs:sub arr.toList off d.size with
     |nil=>rw[hs]at a;exact a.elim
     | cons v vs =>
       rw[hs]at a;have m:arr[off]?=some v:=by
        have:(sub arr.toList off d.size)[0]?=some v:=by rw[hs];rfl
        unfold sub at this;rw[List.getElem?_take]at this;split at this
        ·rw[List.getElem?_drop]at this;simpa using this
        ·cases this
       exact⟨v,by simp[m],a.1⟩
    ·cases b
   ·cases b
theorem c9d (h:Pre P Γ β K get n w ρ a) {t:TypeId} {ti:TI} {x:Operand} {f:Nat} {off size:Nat} {q:Bool} {cs:List C} {u:W} (D:o.op = .field t x f) (H:Γ.tab t=some ti)
 (G:ti.sort = .struct) (B:ti.fields[f]?=some (off,size,q)) (L:ρ x = .val (.agg cs)) (I:a3h q size (a2p cs off size)=some u) {out:Out} (E:AM.a0w n true u=some out) :
 a0l P o a w (a0S β K get n w out):=by
 obtain⟨i,d,z,N,hd,O,_,_,_,_,j,_⟩:=(h.env.tab t ti H).ex;simp only[a1C,G]at j;obtain⟨r,rfl,p⟩:=j;obtain⟨fl,m,c,M,fd,l,b,k,e⟩:=p.nth B;have g:r[f]?=some fl:=by simpa using m
 obtain⟨arr,A,y⟩:=h.agg L;dsimp only at c b e;subst c b e;obtain⟨v,F,J⟩:=a5H (P:=P) (w:=w) _ fl.type l k rfl y I;refine h.pure1 E J ?_ (a0s.refl w);refine a1l (s:=Instr.field t (a.eval x) f) (by simp[execOp,D]) ?_;simp[Instr.field,run_underlying hd,g,A,asAgg,F]
theorem a3B {t:TypeId} {ti:TI} (c:e1L P t ti):∃i,P.info? t=some i /\ i.size=ti.size:=by
 obtain⟨i,_,_,a,_,_,b,_⟩:=c.ex;exact⟨i,a,b⟩
theorem a7Z {t e:TypeId} {d:TypeInfo} (hd:P.underlying t=some (.slice e)) (a:P.info? e=some d) {b q m c:Nat} {k:IntKind} {j:Int} (f:0<=j) (g:j<m) :
 (Instr.indexAt t (.slice (some ⟨b,q,none⟩) m c) (.int k j)).run P w = .ok (.pointer (some ⟨b,q+j.toNat*d.size,none⟩)) w:=by
 simp[Instr.indexAt,asIntOf,run_underlying hd,f,g,a1e a,a2C]
theorem b2i (h:Pre P Γ β K get n w ρ a) {t:TypeId} {ti J:TI} {x i:Operand} {out:Out} (U:o.op = .indexAddr t x i) (ht:Γ.tab t=some ti) (Z:ti.sort = .slice) (W:Γ.tab ti.elem=some J)
 (g:(match ρ x,ρ i with
 | .val (.one (.sl t l)),.val (.one (.int _ j))=>match beq t.size J.size with
   |true=>a0w n (decide (0<=j)&&decide (j<(l.length:Int))) (.one (.rptr t l j.toNat 0))
   |false=>none
 | .val (.one (.ref t k)),.val (.one (.int _ j))=>match get k with
   | some (.arr M l)=>match beq t.size J.size,a2Q M t with
     |true,some _=>a0w n (decide (0<=j)&&decide (j<(l.length:Int))) (.one (.eptr k t j.toNat 0))
     |_,_=>none
   |_=>none
 |.val (.one (.nil t)),.val (.one (.int _ _))=>a0w n false (.one (.rptr t [] 0 0))
 |_,_=>none)=some out) (r:out.ok=true):a0l P o a w (a0S β K get n w out):=by
 obtain⟨ii,d,z,hi,hd,hz,_,_,_,_,I,_⟩:=(h.env.tab t ti ht).ex;simp only[a1C,Z]at I;subst I;obtain⟨C,F,G⟩:=a3B (h.env.tab _ J W);split at g
 ·rename_i ty l k j Q O;split at g
  ·rename_i f;have f:=a0g f;have H:=g;simp only[a0w,injEq]at H;subst H;simp only[and_eq_true,decide_eq_true_eq]at r;obtain⟨ad,m,c,L,hm,Y,B⟩:=h.one Q;have A:a.eval i = .int k j:=h.one O;simp only[List.cons.injEq,and_true]at L;rcases B with h0|⟨b,q,arr,rfl,V,D⟩
   ·omega
   ·refine h.pure1 g (u := .pointer (some ⟨b,q+j.toNat*C.size,none⟩)) ?_ (w':=w) ?_ (a0s.refl w)
    ·refine⟨by omega,b,q,arr,V,D,?_⟩;rw[G,<- f];rfl
    ·refine a1l (s:=Instr.indexAt t (a.eval x) (a.eval i)) (by simp[execOp,U]) ?_;rw[L,A];exact a7Z hd F r.1 (by omega)
  ·cases g
 ·rename_i ty R k j Q O;split at g
  ·rename_i M l X;split at g
   ·rename_i f v;have e:M=ty:=by
     cases hq:a2Q M ty with
     |none=>rw[hq]at v;cases v
     |some p=>exact p.down
    subst e;have f:=a0g f;have H:=g;simp only[a0w,injEq]at H;subst H;simp only[and_eq_true,decide_eq_true_eq]at r;obtain⟨y,ad,m,c,S,hy,L⟩:=h.one Q;have A:a.eval i = .int k j:=h.one O;obtain⟨y',E,N⟩:=h.mr.blk R _ X;rw[S]at E;cases E;rcases N with⟨rfl,a',rfl⟩|⟨b,cap,cur,T,rfl,hh,h1,h2,h3,h4⟩
    ·simp at r;omega
    ·cases hy;refine h.pure1 g (u := .pointer (some ⟨b,0+j.toNat*C.size,none⟩)) ?_ (w':=w) ?_ (a0s.refl w)
     ·refine⟨_,b,l.length,_,S,rfl,by omega,?_⟩;rw[G,<- f];simp
     ·refine a1l (s:=Instr.indexAt t (a.eval x) (a.eval i)) (by simp[execOp,U]) ?_;rw[L,A];exact a7Z hd F r.1 (by omega)
   ·cases g
  ·cases g
 ·simp only[a0w,injEq]at g;subst g;cases r
 ·cases g
theorem c1T (h:Pre P Γ β K get n w ρ a) {t:TypeId} {ti F:TI} {x i:Operand} {m:Nat} {out:Out} (T:o.op = .indexAddr t x i) (V:Γ.tab t=some ti) (U:ti.sort = .array m) (S:Γ.tab ti.elem=some F)
 (p:a2s n F.size m (ρ x) (ρ i)=some out) (e:out.ok=true):a0l P o a w (a0S β K get n w out):=by
 obtain⟨Y,d,z,W,hd,X,_,_,_,_,C,_⟩:=(h.env.tab t ti V).ex;simp only[a1C,U]at C;subst C;obtain⟨G,I,J⟩:=a3B (h.env.tab _ F S);unfold a2s at p;split at p
 ·rename_i v;simp only[and_eq_true]at v;have Q:G.size=1:=by rw[J];exact a0g v.1
  have run:∀(b q:Nat) (k:IntKind) (j:Int),a.eval x = .pointer (some ⟨b,q,none⟩)->a.eval i = .int k j->0<=j->j<(m:Int)->(execOp a.eval o).run P w = .ok (.value (.pointer (some ⟨b,q+j.toNat,none⟩))) w:=by
   intro b q k j M N O A;refine a1l (s:=Instr.indexAt t (a.eval x) (a.eval i)) (by simp[execOp,T]) ?_;rw[M,N];simp[Instr.indexAt,asIntOf,run_underlying hd,Instr.sureAddr,O,A,a1e I,a2C,Q]
  split at p
  ·rename_i k q E j D A;have f:=p;simp only[a0w,injEq]at f;subst f;simp only[and_eq_true,decide_eq_true_eq]at e;obtain⟨y,b,H,f,g⟩:=h.one D;exact h.pure1 p (u := .pointer (some ⟨b,q+j.toNat,none⟩)) ⟨by omega,y,b,H,f,rfl⟩ (run b q E j g (h.one A) e.1 e.2) (a0s.refl w)
  ·rename_i k ty r q E j D A;have f:=p;simp only[a0w,injEq]at f;subst f;simp only[and_eq_true,decide_eq_true_eq]at e;obtain⟨y,b,mm,c,H,f,L,g⟩:=h.one D;exact h.pure1 p (u := .pointer (some ⟨b,r*ty.size+q+j.toNat,none⟩)) ⟨by omega,y,b,mm,c,H,f,L,by rw[Nat.add_assoc]⟩ (run b _ E j g (h.one A) e.1 e.2) (a0s.refl w)
  ·rename_i ty l r q E j D A;have f:=p;simp only[a0w,injEq]at f;subst f;simp only[and_eq_true,decide_eq_true_eq]at e;obtain⟨L,b,o',arr,R,B,g⟩:=h.one D;exact h.pure1 p (u := .pointer (some ⟨b,o'+r*ty.size+q+j.toNat,none⟩)) ⟨by omega,L,b,o',arr,R,B,by rw[Nat.add_assoc (o'+r*ty.size)]⟩ (run b _ E j g (h.one A) e.1 e.2) (a0s.refl w)
  ·cases p
 ·cases p
theorem c9e (h:Pre P Γ β K get n w ρ a) {t:TypeId} {ti g:TI} {x:Operand} {m:Nat} {out:Out} (B:o.op = .slice t x none none none) (E:Γ.tab t=some ti) (D:ti.sort = .array m) (y:Γ.tab ti.elem=some g)
 (e:b0F n m g (ρ x)=some out):a0l P o a w (a0S β K get n w out):=by
 obtain⟨J,d,z,H,hd,I,_,_,_,_,f,_⟩:=(h.env.tab t ti E).ex;simp only[a1C,D]at f;subst f;obtain⟨r,l,A⟩:=a3B (h.env.tab _ g y);unfold b0F at e;split at e
 ·rename_i c;simp only[and_eq_true]at c;have G:0<m:=by simpa[Nat.blt_eq]using c.2
  split at e
  ·rename_i k q F;obtain⟨i,b,v,C,j⟩:=h.one F;refine h.pure1 e (u := .slice (some ⟨b,q,none⟩) m m) ⟨b,m,⟨i,b,v,C,rfl⟩,le_refl _,rfl⟩ (w':=w) ?_ (a0s.refl w);refine a1l (s:=Instr.sliceAt t (a.eval x) none none none) (by simp[execOp,B]) ?_;rw[j];have p:¬m=0:=by omega
   simp[Instr.sliceAt,run_underlying hd,Instr.sureAddr,Instr.sliceBounds,a1e l,a2C,p]
  ·cases e
 ·cases e
theorem c9f (h:Pre P Γ β K get n w ρ a) {t:TypeId} {ti:TI} {x i:Operand} {s:ByteArray} {k:IntKind} {j:Int} {out:Out} (y:o.op = .index t x i) (B:Γ.tab t=some ti) (A:ti.sort = .string)
 (C:ρ x = .val (.one (.str s))) (v:ρ i = .val (.one (.int k j))) (m:a0w n (decide (0<=j)&&decide (j<(s.size:Int))) (.one (.int .u8 (a0o s j)))=some out) (f:out.ok=true) :
 a0l P o a w (a0S β K get n w out):=by
 obtain⟨F,d,z,D,hd,E,_,_,_,_,g,_⟩:=(h.env.tab t ti B).ex;simp only[a1C,A]at g;subst g;have p:=m;simp only[a0w,injEq]at p;subst p;simp only[and_eq_true,decide_eq_true_eq]at f;have q:a.eval x = .string s:=h.one C;have r:a.eval i = .int k j:=h.one v;refine h.pure1 m (u := .int .u8 (a0o s j)) rfl (w':=w) ?_ (a0s.refl w);refine a1l (s:=Instr.index t (a.eval x) (a.eval i)) (by simp[execOp,y]) ?_;have e:j.toNat<s.size:=by omega
 have c:s[j.toNat]?=some s[j.toNat]:=ByteArray.getElem?_lt' s _ e;have b:s.data.toList.getD j.toNat 0=s[j.toNat]:=by
  have:j.toNat<s.data.toList.length:=by simpa using e
  simp[List.getD,List.getElem?_eq_getElem this];rfl
 rw[q,r];have l:s.data[j.toNat]?.getD 0=s[j.toNat]:=by simpa[List.getD]using b
 simp[Instr.index,asIntOf,run_underlying hd,f.1,c,a0o,l]
theorem d7J (h:Pre P Γ β K get n w ρ a) {e:UnOp} {t:TypeId} {x:Operand} {c c':C} {out:Out} (r:o.op = .unOp e t x) (y:ρ x = .val (.one c)) (d:unC e c=some c')
 (f:a0w n true (.one c')=some out):a0l P o a w (a0S β K get n w out):=by
 have g:=h.one y;have exec:∀u,(Op.unary e (a.eval x)).run P w = .ok u w->(execOp a.eval o).run P w = .ok (.value u) w:=fun u v=>
  a1l (s:=Op.unary e (a.eval x)) (by simp[execOp,r]) v
 cases c with
 | int k m =>
   cases e<;>simp only[unC,injEq,reduceCtorEq]at d
   subst d;refine h.pure1 f (u := .int k (k.wrap (0-m))) rfl (exec _ ?_) (a0s.refl w);rw[show a.eval x = .int k m from g];simp[Op.unary,Op.intArith]
 | flt k b =>
   cases e<;>simp only[unC,injEq,reduceCtorEq]at d
   subst d;obtain⟨b',i,j⟩:=g;refine h.pure1 f (u := .float k (a3g k b')) ⟨_,rfl,a6A j⟩ (exec _ ?_) (a0s.refl w);rw[i];simp[Op.unary,Op.negFloat,a3g]
 | cpx k p q =>
   cases e<;>simp only[unC,injEq,reduceCtorEq]at d
   subst d;obtain⟨z,A,i,j,l⟩:=g;refine h.pure1 f (u := .complex k (a3g k z) (a3g k A)) ⟨_,_,rfl,a6A j,a6A l⟩ (exec _ ?_) (a0s.refl w);rw[i];simp[Op.unary,Op.negFloat,a3g]
 | bool b =>
   cases e<;>simp only[unC,injEq,reduceCtorEq]at d
   subst d;refine h.pure1 f (u := .bool (!b)) rfl (exec _ ?_) (a0s.refl w);rw[show a.eval x = .bool b from g];simp[Op.unary]
 |_=>simp[unC]at d
theorem c0b (h:Pre P Γ β K get n w ρ a) {x:Operand} {i:Nat} {ws:List W} {u:W} {out:Out} (g:o.op = .extract x i) (l:ρ x = .tup ws) (k:ws[i]?=some u)
 (f:a0w n true u=some out):a0l P o a w (a0S β K get n w out):=by
 have b:=h.val x;rw[l]at b;obtain⟨arr,e,d⟩:=b;obtain⟨v,b,j⟩:=d.get? k;have c:arr[i]?=some v:=by simpa using b
 refine h.pure1 f j (w':=w) ?_ (a0s.refl w);refine a1l (s:=Instr.extract (a.eval x) i) (by simp[execOp,g]) ?_;rw[e];simp[Instr.extract,c]
end
section
variable {P:Program} {Γ:Env} {β:Bt} {K:Ks} {get:Get} {n:Nat} {w:World} {ρ:Operand->V} {a:Act} {o:Oper}
theorem c9g (t:TypeId) {b:BinOp} {k:IntKind} {x y:Int} {ok:Bool} {c:C} (h:f1o b k x y=some (ok,c)) (a:ok=true) (e:b ≠ .shl /\ b ≠ .shr) (β:Bt) (K:Ks) :
 ∃v,(binOp b t (.int k x) (.int k y)).run P w = .ok v w /\ CR β K c v:=by
 cases b<;>simp only[f1o,injEq,Prod.mk.injEq,reduceCtorEq]at h
 case quo=>
  obtain⟨rfl,rfl⟩:=h;have d:y≠0:=by simpa using a
  exact⟨_,by simp[binOp,Op.intDiv,d],rfl⟩
 case rem=>
  obtain⟨rfl,rfl⟩:=h;have d:y≠0:=by simpa using a
  exact⟨_,by simp[binOp,Op.intDiv,d],rfl⟩
 all_goals
  obtain⟨rfl,rfl⟩:=h;refine⟨_,?_,rfl⟩;simp[binOp,Op.intArith,Op.intBits,Op.intCmp,a1Q]
theorem b2j (t:TypeId) {k k':IntKind} {x y:Int} (a:0<=y) :
 (binOp .shl t (.int k x) (.int k' y)).run P w = .ok (.int k (k.wrap (x*2^(min y.toNat k.bits)))) w /\
 (binOp .shr t (.int k x) (.int k' y)).run P w = .ok (.int k (x.fdiv (2^(min y.toNat k.bits)))) w:=by
 have:¬y<0:=by omega
 constructor<;>simp[binOp,Op.shift,this]
theorem c9h (t:TypeId) {g:BinOp} {k:FloatKind} {x i y y':Nat} {c:C} (h:f1p g k x y=some c) (e:FEq k x i) (f:FEq k y y') (β:Bt) (K:Ks) :
 ∃v w',(binOp g t (.float k i) (.float k y')).run P w = .ok v w' /\ a0s w w' /\ CR β K c v:=by
 have j:=a2T e f;cases g<;>simp only[f1p,injEq,reduceCtorEq]at h
 case add=>
  subst h;obtain⟨r,w',a,b,d⟩:=a3z P .add (by simp) k e f w;exact⟨_,w',by simpa[binOp]using a,b,_,rfl,d⟩
 case sub=>
  subst h;obtain⟨r,w',a,b,d⟩:=a3z P .sub (by simp) k e f w;exact⟨_,w',by simpa[binOp]using a,b,_,rfl,d⟩
 case mul=>
  subst h;obtain⟨r,w',a,b,d⟩:=a3z P .mul (by simp) k e f w;exact⟨_,w',by simpa[binOp]using a,b,_,rfl,d⟩
 case quo=>
  subst h;obtain⟨r,w',a,b,d⟩:=a3z P .quo (by simp) k e f w;exact⟨_,w',by simpa[binOp]using a,b,_,rfl,d⟩
 all_goals
  subst h;refine⟨_,w,?_,a0s.refl w,rfl⟩;simp[binOp,Op.floatCmp,feq,flt,fgt,j,bne]
theorem a3U (P:Program) (a:BinOp) (b:a = .add∨a = .sub) (k:FloatKind) {x c y y':Nat} (g:FEq k x c) (h:FEq k y y') (w:World) :
 ∃r w',(Op.Complex.arith a k c y').run P w = .ok r w' /\ a0s w w' /\ FEq k (a0b a k x y) r:=by
 obtain⟨r,w',d,e,f⟩:=a3z P a (by rcases b with rfl|rfl<;>simp) k g h w;exact⟨r,w',by simp[Op.Complex.arith,d],e,f⟩
theorem c9i (t:TypeId) {B:BinOp} {k:FloatKind} {p e q f r g s i:Nat} {c:C} (h:f1q B k p q r s=some c) (o:FEq k p e) (u:FEq k q f) (z:FEq k r g) (A:FEq k s i) (β:Bt) (K:Ks) :
 ∃v w',(binOp B t (.complex k e f) (.complex k g i)).run P w = .ok v w' /\ a0s w w' /\ CR β K c v:=by
 have D:=a2T o z;have d:=a2T u A;cases B<;>simp only[f1q,injEq,reduceCtorEq]at h
 case add=>
  subst h;obtain⟨x,w1,j,a,l⟩:=a3U P .add (by simp) k o z w;obtain⟨y,w2,m,b,n⟩:=a3U P .add (by simp) k u A w1;exact⟨.complex k x y,w2,by simp[binOp,Op.complexOp,j,m],⟨b.heap.trans a.heap,b.os.trans a.os,b.tape.trans a.tape,b.output.trans a.output⟩,_,_,rfl,l,n⟩
 case sub=>
  subst h;obtain⟨x,w1,j,a,l⟩:=a3U P .sub (by simp) k o z w;obtain⟨y,w2,m,b,n⟩:=a3U P .sub (by simp) k u A w1;exact⟨.complex k x y,w2,by simp[binOp,Op.complexOp,j,m],⟨b.heap.trans a.heap,b.os.trans a.os,b.tape.trans a.tape,b.output.trans a.output⟩,_,_,rfl,l,n⟩
 case eql=>
  subst h;exact⟨_,w,run_eql_complex (P:=P) w t k e f g i,a0s.refl w,by rw[D,d];rfl⟩
 case neq=>
  subst h;exact⟨_,w,run_neq_complex (P:=P) w t k e f g i,a0s.refl w,by rw[D,d];rfl⟩
theorem c9j (t:TypeId) {b:BinOp} {x y:ByteArray} {ok:Bool} {c:C} (h:f1r b x y=some (ok,c)) (a:ok=true) (β:Bt) (K:Ks) :
 ∃v,(binOp b t (.string x) (.string y)).run P w = .ok v w /\ CR β K c v:=by
 cases b<;>simp only[f1r,injEq,Prod.mk.injEq,reduceCtorEq]at h
 case add=>
  obtain⟨rfl,rfl⟩:=h;have d:x.size+y.size<=9223372036854775807:=by simpa using a
  exact⟨_,by simpa[binOp]using run_string_add_sum (P:=P) w x y d,rfl⟩
 all_goals
  obtain⟨rfl,rfl⟩:=h;refine⟨_,?_,rfl⟩;simp[binOp,Op.stringOp,a1a]
theorem a5h (a:BinOp) (t:TypeId) (x y:Operand) {u v:Value} (c:u.oneCell'=true) (b:u ≠ .nilIface):(eqGuard a t x y u v).run P w = .ok () w:=by
 cases a<;>cases u<;>simp_all[eqGuard,Value.oneCell']
theorem d7K (h:Pre P Γ β K get n w ρ a) {b:BinOp} {t D:TypeId} {ti:TI} {x y:Operand} {p q:Bool} {e:C} {out:Out} (l:o.op = .binOp b t x y D)
 (A:ρ x = .val (.one (.bool p))) (B:ρ y = .val (.one (.bool q))) (z:Γ.tab t=some ti) (r:ti.sort = .bool) (f:f1s b p q=some e) (g:a0w n true (.one e)=some out):a0l P o a w (a0S β K get n w out):=by
 obtain⟨_,d,_,_,hd,_,_,_,_,_,c,_⟩:=(h.env.tab t ti z).ex;simp only[a1C,r]at c;subst c;have j:a.eval x = .bool p:=h.one A;have k:a.eval y = .bool q:=h.one B;have exec:∀v,(binOp b t (.bool p) (.bool q)).run P w = .ok v w->(execOp a.eval o).run P w = .ok (.value v) w:=by
  intro v m;refine a1l (s:=do eqGuard b t x y (a.eval x) (a.eval y);binOp b t (a.eval x) (a.eval y)) (by simp[execOp,l]) ?_;rw[j,k,Sem.run_bind,a5h b t x y rfl (by simp),Result.andThen_ok,m]
 have i:=run_equalIn_bool' (P:=P) w 9999 t p q hd;cases b<;>simp only[f1s,injEq,reduceCtorEq]at f
 ·subst f;exact h.pure1 g (u := .bool (p==q)) rfl (exec _ (by simp[binOp,Op.equal,Op.maxDepth,i])) (a0s.refl w)
 ·subst f;exact h.pure1 g (u := .bool (!(p==q))) rfl (exec _ (by simp[binOp,Op.equal,Op.maxDepth,i])) (a0s.refl w)
theorem c9k (h:Pre P Γ β K get n w ρ a) {z:BinOp} {t X:TypeId} {x y:Operand} {c d e:C} {ok:Bool} {out:Out} (S:o.op = .binOp z t x y X)
 (T:ρ x = .val (.one c)) (U:ρ y = .val (.one d)) (b:c1A z c d=some (ok,e)) (u:a0w n ok (.one e)=some out) (i:out.ok=true):a0l P o a w (a0S β K get n w out):=by
 have M:=u;simp only[a0w,injEq]at M;subst M;dsimp only at i;have B:=h.one T;have A:=h.one U;have exec:∀v w',(a.eval x).oneCell'=true->a.eval x ≠ .nilIface->(binOp z t (a.eval x) (a.eval y)).run P w = .ok v w'->(execOp a.eval o).run P w = .ok (.value v) w':=by
  intro v w' O Q j;refine a1l (s:=do eqGuard z t x y (a.eval x) (a.eval y);binOp z t (a.eval x) (a.eval y)) (by simp[execOp,S]) ?_;rw[Sem.run_bind,a5h z t x y O Q,Result.andThen_ok,j]
 cases c with
 | int k p =>
   cases d with
   | int k' q =>
     rw[show a.eval x = .int k p from B,show a.eval y = .int k' q from A]at exec;simp only[c1A]at b;split at b
     ·simp only[injEq,Prod.mk.injEq]at b;obtain⟨rfl,rfl⟩:=b;have D:0<=q:=by simpa using i
      exact h.pure1 u rfl (exec _ _ rfl (by simp) (b2j t D).1) (a0s.refl w)
     ·simp only[injEq,Prod.mk.injEq]at b;obtain⟨rfl,rfl⟩:=b;have D:0<=q:=by simpa using i
      exact h.pure1 u rfl (exec _ _ rfl (by simp) (b2j t D).2) (a0s.refl w)
     ·rename_i I J;split at b
      ·rename_i g;have g:k=k':=by simpa[a2o]using g
       subst g;obtain⟨v,j,f⟩:=c9g (P:=P) (w:=w) t b i ⟨by simpa using I,by simpa using J⟩ β K;exact h.pure1 u f (exec _ _ rfl (by simp) j) (a0s.refl w)
      ·cases b
   |_=>simp[c1A]at b
 | flt k p =>
   cases d with
   | flt k' q =>
     obtain⟨V,F,G⟩:=B;obtain⟨W,l,m⟩:=A;rw[F,l]at exec;simp only[c1A]at b;split at b
     ·rename_i g;have g:k=k':=by simpa[a1b]using g
      subst g;simp only[Option.map_eq_some_iff,Prod.mk.injEq]at b;obtain⟨N,E,rfl,rfl⟩:=b;obtain⟨v,w',j,L,f⟩:=c9h (P:=P) (w:=w) t E G m β K;exact h.pure1 u f (exec _ _ rfl (by simp) j) L
     ·cases b
   |_=>simp[c1A]at b
 | cpx k p q =>
   cases d with
   | cpx k' r s =>
     obtain⟨V,W,F,G,R⟩:=B;obtain⟨Y,Z,l,m,H⟩:=A;rw[F,l]at exec;simp only[c1A]at b;split at b
     ·rename_i g;have g:k=k':=by simpa[a1b]using g
      subst g;simp only[Option.map_eq_some_iff,Prod.mk.injEq]at b;obtain⟨N,E,rfl,rfl⟩:=b;obtain⟨v,w',j,L,f⟩:=c9i (P:=P) (w:=w) t E G R m H β K;exact h.pure1 u f (exec _ _ rfl (by simp) j) L
     ·cases b
   |_=>simp[c1A]at b
 | str p =>
   cases d with
   | str q =>
     rw[show a.eval x = .string p from B,show a.eval y = .string q from A]at exec;simp only[c1A]at b;obtain⟨v,j,f⟩:=c9j (P:=P) (w:=w) t b i β K;exact h.pure1 u f (exec _ _ rfl (by simp) j) (a0s.refl w)
   |_=>simp[c1A]at b
 |_=>cases d<;>simp[c1A]at b
theorem d7L (h:Pre P Γ β K get n w ρ a) {f:BinOp} {t N:TypeId} {x y:Operand} {cs ds:List C} {e:C} {out:Out} (H:o.op = .binOp f t x y N)
 (J:ρ x = .val (.agg cs)) (L:ρ y = .val (.agg ds)) (m:(Γ.eqT t&&d7C Γ t cs)=true) (c:f1t f cs ds=some e) (B:a0w n true (.one e)=some out):a0l P o a w (a0S β K get n w out):=by
 obtain⟨xs,F,q⟩:=h.agg J;obtain⟨ys,k,r⟩:=h.agg L;rw[and_eq_true]at m;have D:=h.env.eq t m.1;have l:∀i,P.info? t=some i->cs.length=i.size /\ ∃z zs,i.zero=some z /\ All2 ZR zs z.cells.toList /\ a7O zs cs=true:=by
  intro i G;have d:=m.2;unfold d7C at d;split at d
  ·rename_i ti p;rw[and_eq_true]at d;obtain⟨O,_,z,g,_,M,I,_,_,A,_⟩:=(h.env.tab t ti p).ex;rw[G]at g;cases g;exact⟨by rw[a0g d.1,I],z,ti.zero,M,A,d.2⟩
  ·cases d
 have exec:∀v,(binOp f t (.agg xs) (.agg ys)).run P w = .ok v w->(execOp a.eval o).run P w = .ok (.value v) w:=by
  intro v j;refine a1l (s:=do eqGuard f t x y (a.eval x) (a.eval y);binOp f t (a.eval x) (a.eval y)) (by simp[execOp,H]) ?_;rw[F,k,Sem.run_bind,run_eqGuard_agg (P:=P) w f t x y xs ys D.guard,Result.andThen_ok,j]
 unfold f1t at c;split at c
 ·rename_i b E;have j:=D.eq cs ds xs ys b β K w l E q r;split at c
  ·cases c;exact h.pure1 B (u := .bool b) rfl (exec _ (by rw[run_eql_struct,j];rfl)) (a0s.refl w)
  ·cases c;exact h.pure1 B (u := .bool (!b)) rfl (exec _ (by rw[run_neq_struct,j];rfl)) (a0s.refl w)
  ·cases c
 ·cases c
theorem c0c (h:Pre P Γ β K get n w ρ a) {l dst:TypeId} {I D:TI} {x:Operand} {c c':C} {ok:Bool} {out:Out} (N:o.op = .convert l dst x) (Q:Γ.tab l=some I) (hd:Γ.tab dst=some D)
 (R:ρ x = .val (.one c)) (e:b4M D.sort c=some (ok,c')) (t:a0w n ok (.one c')=some out) (i:out.ok=true):a0l P o a w (a0S β K get n w out):=by
 obtain⟨_,T,_,_,f,_⟩:=(h.env.tab l I Q).ex;obtain⟨_,U,_,_,g,_,_,_,_,_,d,_⟩:=(h.env.tab dst D hd).ex;have H:=t;simp only[a0w,injEq]at H;subst H;dsimp only at i;have B:=h.one R;have exec:∀v w',(convert l dst (a.eval x)).run P w = .ok v w'->(execOp a.eval o).run P w = .ok (.value v) w':=fun v w' O=>
  a1l (s:=convert l dst (a.eval x)) (by simp[execOp,N]) O
 cases c with
 | int k m =>
   rw[show a.eval x = .int k m from B]at exec;simp only[b4M]at e;split at e
   ·rename_i k' j;simp only[a1C,j]at d;subst d;cases e;refine h.pure1 t (u := .int k' (k'.wrap m)) rfl (exec _ w ?_) (a0s.refl w);simp[convert,run_underlying f,run_underlying g,Conv.intToInt]
   ·rename_i k' j;simp only[a1C,j]at d;subst d;cases e;refine h.pure1 t (u := .float k' (k'.nearest m)) ⟨_,rfl,.inl rfl⟩ (exec _ w ?_) (a0s.refl w);simp[convert,run_underlying f,run_underlying g,Conv.intToFloat]
   ·cases e
 | flt s b =>
   obtain⟨b',G,A⟩:=B;rw[G]at exec;simp only[b4M]at e;split at e
   ·rename_i k' j;simp only[a1C,j]at d;subst d;cases e;refine h.pure1 t (u := .int k' (f2i s b)) rfl (exec _ w ?_) (a0s.refl w);simp[convert,run_underlying f,run_underlying g,a7Y P s k' A i w]
   ·rename_i k' j;simp only[a1C,j]at d;subst d;cases e;obtain⟨r,w',E,y,F⟩:=a2h P s k' A i w;refine h.pure1 t (u := .float k' r) ⟨_,rfl,F⟩ (exec _ w' ?_) y;simp[convert,run_underlying f,run_underlying g,E]
   ·cases e
 | cpx s p q =>
   obtain⟨V,W,G,A,M⟩:=B;rw[G]at exec;simp only[b4M]at e;split at e
   ·rename_i k' j;simp only[a1C,j]at d;subst d;cases e;simp only[and_eq_true]at i;obtain⟨r,w1,E,y,F⟩:=a2h P s k' A i.1 w;obtain⟨S,w2,J,z,L⟩:=a2h P s k' M i.2 w1;refine h.pure1 t (u := .complex k' r S) ⟨_,_,rfl,F,L⟩ (exec _ w2 ?_) ⟨z.heap.trans y.heap,z.os.trans y.os,z.tape.trans y.tape,z.output.trans y.output⟩;simp[convert,run_underlying f,run_underlying g,Conv.complexToComplex,E,J]
   ·cases e
 | str s =>
   rw[show a.eval x = .string s from B]at exec;simp only[b4M]at e;split at e
   ·rename_i j;simp only[a1C,j]at d;subst d;cases e;refine h.pure1 t (u := .string s) rfl (exec _ w ?_) (a0s.refl w);simp[convert,run_underlying f,run_underlying g]
   ·cases e
 |_=>simp[b4M]at e
theorem a4Y (h:Pre P Γ β K get n w ρ a) {b:Option Operand} {d r:Int} (e:a0B (b.map ρ) d=some r):(b=none /\ r=d)∨∃x k,b=some x /\ a.eval x = .int k r:=by
 cases b with
 |none=>simp[a0B]at e;exact .inl ⟨rfl,e.symm⟩
 | some x =>
   right;simp only[Option.map_some]at e;cases hx:ρ x with
   |tup ws=>rw[hx]at e;simp[a0B]at e
   | val u =>
     rw[hx]at e;cases u with
     |agg cs=>simp[a0B]at e
     | one c =>
       cases c<;>simp only[a0B,injEq,reduceCtorEq]at e
       subst e;exact⟨x,_,rfl,h.one hx⟩
theorem a6B (h:Pre P Γ β K get n w ρ a) (b:Bool) {len c:Nat} {i g:Option Operand} {l r:Int} (f:a0B (i.map ρ) 0=some l) (d:a0B (g.map ρ) len=some r)
 (m:0<=l) (o:l<=r) (p:r<=len) (q:len<=c):(Instr.sliceBounds b len c (i.map a.eval) (g.map a.eval) none).run P w = .ok (l.toNat,r.toNat,c) w:=by
 rcases a4Y h f with⟨rfl,rfl⟩|⟨x,k,rfl,hx⟩<;>rcases a4Y h d with⟨rfl,rfl⟩|⟨y,k',rfl,hy⟩
 ·simp[Instr.sliceBounds]
 ·have e:=run_sliceBound (P:=P) w k' r c (if b=true then BoundsCode.sliceAcap else BoundsCode.sliceAlen) (by omega) (by omega);simp[Instr.sliceBounds,hy,e]
 ·have e:=run_sliceBound (P:=P) w k l len BoundsCode.sliceB (by omega) (by omega);simp[Instr.sliceBounds,hx,e]
 ·have e:=run_sliceBound (P:=P) w k' r c (if b=true then BoundsCode.sliceAcap else BoundsCode.sliceAlen) (by omega) (by omega);have j:=run_sliceBound (P:=P) w k l r.toNat BoundsCode.sliceB (by omega) (by omega);simp[Instr.sliceBounds,hx,hy,e,j]
theorem b4U (h:Pre P Γ β K get n w ρ a) {t:TypeId} {ti:TI} {x:Operand} {i f:Option Operand} {s:ByteArray} {l r:Int} {out:Out} (p:o.op = .slice t x i f none) (v:Γ.tab t=some ti) (q:ti.sort = .string)
 (y:ρ x = .val (.one (.str s))) (g:a0B (i.map ρ) 0=some l) (e:a0B (f.map ρ) s.size=some r)
 (j:a0w n (decide (0<=l)&&decide (l<=r)&&decide (r<=(s.size:Int))) (.one (.str (s.extract l.toNat r.toNat)))=some out) (b:out.ok=true):a0l P o a w (a0S β K get n w out):=by
 obtain⟨_,d,_,_,hd,_,_,_,_,_,c,_⟩:=(h.env.tab t ti v).ex;simp only[a1C,q]at c;subst c;have k:=j;simp only[a0w,injEq]at k;subst k;simp only[and_eq_true,decide_eq_true_eq]at b;have m:=a6B h false g e b.1.1 b.1.2 b.2 (le_refl _);refine h.pure1 j (u := .string (s.extract l.toNat r.toNat)) rfl (w':=w) ?_ (a0s.refl w);refine a1l (s:=Instr.sliceAt t (a.eval x) (i.map a.eval) (f.map a.eval) none) (by simp[execOp,p]) ?_;rw[show a.eval x = .string s from h.one y];simp[Instr.sliceAt,Instr.slice,run_underlying hd,m]
theorem c0d (h:Pre P Γ β K get n w ρ a) {t:TypeId} {ti y:TI} {x:Operand} {H k:Option Operand} {ty:Ty} {s:List (Den ty)} {l r:Int} {out:Out} (U:o.op = .slice t x H k none) (W:Γ.tab t=some ti) (V:ti.sort = .slice)
 (S:Γ.tab ti.elem=some y) (G:ty.size=y.size)
 (X:ρ x = .val (.one (.sl ty s))) (E:a0B (H.map ρ) 0=some l) (C:a0B (k.map ρ) s.length=some r)
 (I:a0w n (decide (0<=l)&&decide (l<=r)&&decide (r<=(s.length:Int))) (.one (.sl ty ((s.take r.toNat).drop l.toNat)))=some out) (p:out.ok=true):a0l P o a w (a0S β K get n w out):=by
 obtain⟨_,d,_,_,hd,_,_,_,_,_,v,_⟩:=(h.env.tab t ti W).ex;simp only[a1C,V]at v;subst v;obtain⟨z,A,B⟩:=a3B (h.env.tab _ y S);have J:=I;simp only[a0w,injEq]at J;subst J;simp only[and_eq_true,decide_eq_true_eq]at p;obtain⟨⟨M,N⟩,O⟩:=p;obtain⟨ad,m,c,L,T,F,g⟩:=h.one X;simp only[List.cons.injEq,and_true]at L;subst T;have R:=a6B h true E C M N O F;refine h.pure1 I (u := .slice (if c=l.toNat then ad else ad.map (·.add (l.toNat*z.size))) (r.toNat-l.toNat) (c-l.toNat)) ?_ (w':=w) ?_ (a0s.refl w)
 ·have f:((s.take r.toNat).drop l.toNat).length=r.toNat-l.toNat:=by simp;omega
  refine⟨_,_,_,rfl,f.symm,by omega,?_⟩;by_cases Y:r.toNat-l.toNat=0
  ·exact .inl Y
  ·right;rcases g with Z|⟨b,q,arr,rfl,Q,j⟩
   ·omega
   ·refine⟨b,q+l.toNat*ty.size,arr,?_,Q,fun i k=>?_⟩
    ·rw[if_neg (by omega)];simp[a2C,B,G]
    ·have D:l.toNat+i<s.length:=by rw[f]at k;omega
     have e:((s.take r.toNat).drop l.toNat)[i]=s[l.toNat+i]:=by simp
     rw[e];have:=j (l.toNat+i) D;rw[Nat.add_mul,<- Nat.add_assoc]at this;exact this
 ·refine a1l (s:=Instr.sliceAt t (a.eval x) (H.map a.eval) (k.map a.eval) none) (by simp[execOp,U]) ?_;rw[L];simp[Instr.sliceAt,Instr.slice,run_underlying hd,R,a1e A]
theorem b4V (h:Pre P Γ β K get n w ρ a) {t:TypeId} {ti D:TI} {x:Operand} {N v:Option Operand} {ty:Ty} {k:Nat} {out:Out} (Y:o.op = .slice t x N v none) (ht:Γ.tab t=some ti) (hs:ti.sort = .slice)
 (U:Γ.tab ti.elem=some D) (hx:ρ x = .val (.one (.ref ty k))) (g:a7C get n D.size ty k (a0B (N.map ρ) 0) (a0B (v.map ρ))=some out) (z:out.ok=true):a0l P o a w (a0S β K get n w out):=by
 obtain⟨_,d,_,_,hd,_,_,_,_,_,B,_⟩:=(h.env.tab t ti ht).ex;simp only[a1C,hs]at B;subst B;obtain⟨E,G,H⟩:=a3B (h.env.tab _ D U);unfold a7C at g;split at g
 case h_2=>cases g
 rename_i t' s V;split at g
 case h_2=>cases g
 rename_i e _;subst e;split at g
 case h_2=>cases g
 rename_i f;simp only[and_eq_true,Bool.not_eq_true']at f;obtain⟨f,W⟩:=f;have f:=a0g f;split at g
 case h_2=>cases g
 rename_i l r L I;cases g;simp only[and_eq_true,decide_eq_true_eq]at z;obtain⟨⟨Q,R⟩,S⟩:=z;obtain⟨y,a0,n0,c0,F,hy,O⟩:=h.one hx;have A:=d2E (ks:=[k]) h.mr W V (by simp) F;rw[hy]at A;obtain⟨ad,m,c,C,X,M,p⟩:=A;simp only[List.cons.injEq,and_true]at C;rw[C]at O;subst X;have F:=a6B h true L I Q R S M;have Z:(execOp a.eval o).run P w = .ok (.value (.slice (if c=l.toNat then ad else ad.map (·.add (l.toNat*E.size))) (r.toNat-l.toNat) (c-l.toNat))) w:=by
  refine a1l (s:=Instr.sliceAt t (a.eval x) (N.map a.eval) (v.map a.eval) none) (by simp[execOp,Y]) ?_;rw[O];simp[Instr.sliceAt,Instr.slice,run_underlying hd,F,a1e G]
 refine a0l.value Z (a7R.give h (ks:=[k]) ?_);have j:((s.take r.toNat).drop l.toNat).length=r.toNat-l.toNat:=by simp;omega
 refine⟨_,_,_,rfl,j.symm,by omega,?_⟩;by_cases hz:r.toNat-l.toNat=0
 ·exact .inl hz
 ·right;rcases p with hz'|⟨b,q,arr,rfl,T,u⟩
  ·omega
  ·refine⟨b,q+l.toNat*t'.size,arr,?_,T,fun i v=>?_⟩
   ·rw[if_neg (by omega)];simp[a2C,H,f]
   ·have J:l.toNat+i<s.length:=by rw[j]at v;omega
    have e:((s.take r.toNat).drop l.toNat)[i]=s[l.toNat+i]:=by simp
    have:=u (l.toNat+i) J;rw[Nat.add_mul,<- Nat.add_assoc]at this;exact e ▸ this
theorem b4W (h:Pre P Γ β K get n w ρ a) {fn:Fn} {f:Nat} {first b:Array Operand} {ks:List Nat} {out:Out} (l:o.op = .makeFunc fn first b) (g:fn = .func f) (q:first.toList=[])
 (i:a1q (fun x=>match ρ x with|.val (.one (.ptr k 0))=>some k|_=>none) b.toList=some ks) (j:a0w n true (.one (.fn f ks))=some out):a0l P o a w (a0S β K get n w out):=by
 subst g;have c:first=#[]:=by cases first;simp_all
 subst c;refine h.pure1 j (u := .func (.func f) #[] (b.map a.eval)) ?_ (w':=w) ?_ (a0s.refl w)
 ·refine⟨b.toList.map a.eval,by cases b;simp,?_⟩;have:All2 (fun(x:Operand) (v:Value)=>v=a.eval x) b.toList (b.toList.map a.eval):=by
   induction b.toList with
   |nil=>trivial
   |cons x r p=>exact⟨rfl,p⟩
  refine a1f i this fun x k v t d m=>?_
  subst m;split at d
  ·rename_i k' e;cases d;exact h.one e
  ·cases d
 ·refine a1l (s:=Instr.makeFunc (.func f) (Array.map a.eval #[]) (Array.map a.eval b)) (by simp[execOp,l]) ?_;simp[Instr.makeFunc]
end
theorem b6P {α:Type}:∀(l r:List (Nat×α)) (k:Nat),a1w (l++r) k=match a1w l k with|some b=>some b|none=>a1w r k
 |[],r,k=>by simp[a1w]
 | (j,x)::l,r,k=>by
   simp only[List.cons_append,a1w];split
   ·rfl
   ·exact b6P l r k
theorem b0L (z:Array Value) (m:Nat) {i:Nat} (h:i<m):(madeCells z m).toList[i]?=some z[i%z.size]!:=by
 simp[madeCells,h]
theorem a5I (z:Array Value) (m i:Nat) (h:i<m):sub (madeCells z (m*z.size)).toList (i*z.size) z.size=z.toList:=by
 apply List.ext_getElem?;intro j;unfold sub;rw[List.getElem?_take];split
 ·rename_i a;rw[List.getElem?_drop];have b:i*z.size+j<m*z.size:=by
   have:i*z.size+z.size<=m*z.size:=by rw[<- Nat.succ_mul];exact Nat.mul_le_mul_right _ h
   omega
  rw[b0L z _ b,Nat.mul_comm i,Nat.mul_add_mod,Nat.mod_eq_of_lt a];simp[a]
 ·rename_i a;have:z.toList.length<=j:=by simp;omega
  rw[List.getElem?_eq_none this]
section
variable {P:Program} {Γ:Env} {β:Bt} {K:Ks} {get:Get} {n:Nat} {w:World} {ρ:Operand->V} {a:Act} {o:Oper}
theorem b2k (h:Pre P Γ β K get n w ρ a) {t:TypeId} {ti b:TI} {B A:Operand} {M L:IntKind} {l c:Int} (ho:o.op = .makeSlice t B A) (ht:Γ.tab t=some ti) (hs:ti.sort = .slice)
 (he:Γ.tab ti.elem=some b) (X:b.bytes<=128) (j:b.ty.size=b.size) (R:0<b.size) (hl:ρ B = .val (.one (.int M l))) (Y:ρ A = .val (.one (.int L c)))
 (Q:0<=l) (h1:l<=a3j) (S:l=c) :
 a0l P o a w (a0S β K get n w ⟨true,.val (.one (.ref b.ty n)),[(n,some (.arr b.ty (List.replicate l.toNat (zero b.ty))))],n+1⟩):=by
 obtain⟨_,d,_,_,hd,_,_,_,_,_,u,_⟩:=(h.env.tab t ti ht).ex;simp only[a1C,hs]at u;subst u;subst S;obtain⟨q,d',z,I,Z,hz,p,V,U,_,_,G,E⟩:=(h.env.tab _ b he).ex;have N:a.eval B = .int M l:=h.one hl;have O:a.eval A = .int L l:=h.one Y;have H:a3j=1099511627776:=rfl;have hlm:l<=9223372036854775807:=by omega
 have J:IntKind.i64.wrap l=l:=
  by exact IntWalk.i64_in _ (by omega)
 have W:(q.bytes:Int)*l<=2^48:=by
  have T:(q.bytes:Int)<=128:=by omega
  have h4:(q.bytes:Int)*l<=128*l:=Int.mul_le_mul_of_nonneg_right T Q;omega
 have hr:(Instr.makeSlice t (a.eval B) (a.eval A)).run P w = .ok (.slice (some ⟨w.heap.size,0,none⟩) l.toNat l.toNat) (w.alloc (.cells (madeCells z.cells (l.toNat*q.size)) ti.elem)):=by
  rw[N,O];unfold Instr.makeSlice;have r:¬(l<0):=by omega
  have hn2:¬((q.bytes:Int)*l>2^48):=by omega
  have m:¬((281474976710656:Int)<(q.bytes:Int)*l):=by omega
  simp only[Sem.run_bind,run_underlying hd,Result.andThen_ok];by_cases v:l.toNat*q.size=0
  ·simp[asInt,asIntOf,typeInfo,I,J,r,m,sizeOf,v,newRow,madeCells];simp[Array.range]
  ·simp[asInt,asIntOf,typeInfo,I,J,r,m,sizeOf,v,newRow,madeCells,zeroValue,hz]
 refine a0l.value (a1l (s:=Instr.makeSlice t (a.eval B) (a.eval A)) (by simp[execOp,ho]) hr) ?_;refine a7R.alloc (gone:=[]) (h:=⟨.slice (some ⟨w.heap.size,0,none⟩) l.toNat l.toNat,some w.heap.size⟩) h.kok h.mr h.fresh (a0s.refl w) (KLe.refl K) h.kok ?_ rfl ?_ ?_
 ·intro k c x y e _ f g;exact h.mr.ro k c y x e f g
 ·refine .inr ⟨w.heap.size,l.toNat,_,ti.elem,by simp,a1z w _,by simp,?_,?_,?_⟩
  ·simp only[maxLen];omega
  ·rw[size_madeCells,j,p]
  ·intro i C;have D:i<l.toNat:=by simpa using C
   rw[List.getElem_replicate];have F:z.cells.size=b.ty.size:=by rw[E,p,j]
   rw[p,<- j,<- F,a5I _ _ _ D];exact G j K
 ·exact⟨_,_,_,_,a0z ..,rfl,rfl⟩
theorem a6C (off:Nat):∀(vs:List Value) (k:Nat) (a:Array Value),off+k+vs.length<=a.size ->
 ((vs.zipIdx k).foldl (fun(cs:Array Value) (x:Value×Nat)=>cs.setIfInBounds (off+x.2) x.1) a).toList=a.toList.take (off+k)++vs++a.toList.drop (off+k+vs.length)
 |[],k,a,_=>by simp
 | v::vs,k,a,h=>by
   simp only[List.zipIdx_cons,List.foldl_cons];rw[a6C off vs (k+1) (a.setIfInBounds (off+k) v) (by simp at h ⊢;omega)];have:=list_seg_step a.toList (off+k) v vs (by simp at h ⊢;omega);simpa[Array.toList_setIfInBounds,Nat.add_assoc]using this
theorem c1U {c:List (Nat×Nat×Bool)} {o:Nat->Option (Nat×Nat)} (g:∀(i:Nat) off size h,c[i]?=some (off,size,h)->o i=some (off,size)) :
 ∀ {ps:List (Nat×W)} {vs:List (Nat×Value)} {cs d:List C} {arr:Array Value},b9U c cs ps=some d->All2 (fun(p:Nat×W) (q:Nat×Value)=>p.1=q.1 /\ All2 (CR β K) p.2.cells q.2.cells.toList) ps vs ->
   All2 (CR β K) cs arr.toList->∃a,Instr.fill o arr vs=some a /\ All2 (CR β K) d a.toList
 |[],[],cs,d,arr,hf,_,hc=>by simp only[b9U,injEq]at hf;subst hf;exact⟨arr,rfl,hc⟩
 | (i,u)::ps,(j,v)::vs,cs,d,arr,hf,hv,hc=>by
   obtain⟨⟨f,e⟩,y⟩:=hv;dsimp only at f e;subst f;simp only[b9U]at hf;split at hf
   ·rename_i off size h w;split at hf
    ·rename_i b;simp only[and_eq_true]at b;have t:=a0g b.1;have z:off+size<=cs.length:=by simpa using b.2
     have n:=e.length;have l:=hc.length;simp only[Array.length_toList]at n l;have m:v.cells.size=size:=by rw[<- t];exact n.symm
     have k:=a6C off v.cells.toList 0 arr (by simp;omega);obtain⟨a,r,s⟩:=c1U g (arr:=(v.cells.toList.zipIdx 0).foldl (fun(cs:Array Value) (x:Value×Nat)=>cs.setIfInBounds (off+x.2) x.1) arr) hf y (by
      rw[k,Nat.add_zero];exact a4s hc e off)
     refine⟨a,?_,s⟩;simp only[Instr.fill,g i off size h w];rw[if_neg (by simp[m];omega)];rw[<- r];congr 1;rw[<- Array.foldl_toList];congr 1;simp
    ·cases hf
   ·cases hf
 |[],_::_,_,_,_,_,hv,_=>hv.elim
 |_::_,[],_,_,_,_,hv,_=>hv.elim
theorem b6Q {α a:Type} (f:α->Go.Sem a) (g:α->a):∀(l:List α),(∀x∈l,(f x).run P w = .ok (g x) w)->(l.mapM f).run P w = .ok (l.map g) w
 |[],_=>by simp
 | x::r,h=>by
   have b:=h x (List.mem_cons_self ..);have c:=b6Q f g r fun y d=>h y (List.mem_cons_of_mem _ d)
   simp[b,c]
theorem c0e {c:Array Field} {l:List (Nat×Nat×Bool)} (h:b6J P c l) :
 (Array.mapM (fun(f:Field)=>do let s <- Go.sizeOf f.type;pure (f.offset,s)) c).run P w = .ok (l.map fun x=>(x.1,x.2.1)).toArray w:=by
 rw[Array.mapM_eq_mapM_toList];have e:=b6Q (P:=P) (w:=w) (fun(f:Field)=>do let s <- Go.sizeOf f.type;pure (f.offset,s)) (fun f=>(f.offset,((P.info? f.type).map (·.size)).getD 0)) c.toList (by
  intro f k;obtain⟨i,m,j⟩:=List.mem_iff_getElem.1 k;obtain⟨x,q,_,b,fd,a,d,_⟩:=h.get? (List.getElem?_eq_getElem m);rw[j]at a;simp[a1e a,a])
 have n:∀(fl:List Field) (l:List (Nat×Nat×Bool)),All2 (fun(f:Field) (x:Nat×Nat×Bool)=>f.offset=x.1 /\ ∃b fd,P.info? f.type=some b /\ b.size=x.2.1 /\ P.underlying f.type=some fd /\ c8W fd=x.2.2) fl l ->
  fl.map (fun f=>(f.offset,((P.info? f.type).map (·.size)).getD 0))=l.map fun x=>(x.1,x.2.1):=by
  intro fl
  induction fl with
  | nil=>intro l h;cases l with
    |nil=>rfl
    |cons _ _=>exact h.elim
  | cons f fl p=>intro l h;cases l with
    |nil=>exact h.elim
    | cons x l =>
      obtain⟨⟨g,b,fd,a,d,_⟩,o⟩:=h;simp[a,d,g,p l o]
 rw[n _ _ h]at e;rw[Sem.run_map,e];rfl
theorem b6R (h:Pre P Γ β K get n w ρ a) {b:List (Nat×Operand)} {ps:List (Nat×W)} (d:a1q (fun p=>match ρ p.2 with|.val w=>some (p.1,w)|.tup _=>none) b=some ps) :
 All2 (fun(p:Nat×W) (q:Nat×Value)=>p.1=q.1 /\ WR β K p.2 q.2) ps (b.map fun x=>(x.1,a.eval x.2)):=by
 have:All2 (fun(x:Nat×Operand) (q:Nat×Value)=>q=(x.1,a.eval x.2)) b (b.map fun x=>(x.1,a.eval x.2)):=by
  clear d
  induction b with
  |nil=>trivial
  |cons x r g=>exact⟨rfl,g⟩
 refine a1f d this fun x p q i c e=>?_
 subst e;split at c
 ·rename_i u f;cases c;have:=h.val x.2;rw[f]at this;exact⟨rfl,this⟩
 ·cases c
theorem b4X (h:Pre P Γ β K get n w ρ a) {t:TypeId} {ti:TI} {m:Nat} {b:Array (Nat×Operand)} {out:Out} (v:o.op = .build t b) (A:Γ.tab t=some ti) (y:ti.sort = .array m) {j:TI} (l:Γ.tab ti.elem=some j) (x:b.toList=[])
 (r:AM.a0w n true (.agg ti.zero)=some out):a0l P o a w (a0S β K get n w out):=by
 obtain⟨i,d,z,q,hd,B,_,_,_,g,c,_⟩:=(h.env.tab t ti A).ex;simp only[a1C,y]at c;subst c;have f:b=#[]:=by cases b;simpa using x
 subst f;refine h.pure1 r (u := .agg z.cells) ⟨_,rfl,g.mono fun _ _ hh=>hh _ _⟩ (w':=w) ?_ (a0s.refl w);refine a1l (s:=Instr.build t #[]) (by simp[execOp,v]) ?_;unfold Instr.build;obtain⟨k,e,p⟩:=a3B (h.env.tab _ _ l);simp[run_underlying hd,zeroValue,typeInfo,q,B,a1e e,Instr.fill]
theorem c9l (h:Pre P Γ β K get n w ρ a) {t:TypeId} {ti:TI} {b:Array (Nat×Operand)} {ps:List (Nat×W)} {cs:List C} {out:Out} (H:o.op = .build t b) (L:Γ.tab t=some ti) (J:ti.sort = .struct)
 (I:a1q (fun p=>match ρ p.2 with|.val w=>some (p.1,w)|.tup _=>none) b.toList=some ps) (e:ps.all (fun p=>p.2.cells.all b9W)=true) (D:b9U ti.fields ti.zero ps=some cs)
 (F:a0w n true (.agg cs)=some out):a0l P o a w (a0S β K get n w out):=by
 obtain⟨i,d,z,E,hd,M,_,_,_,m,f,_⟩:=(h.env.tab t ti L).ex;simp only[a1C,J]at f;obtain⟨N,rfl,g⟩:=f;have l:=b6R h I;have j:All2 (fun(p:Nat×W) (q:Nat×Value)=>p.1=q.1 /\ All2 (CR β K) p.2.cells q.2.cells.toList) ps (b.toList.map fun x=>(x.1,a.eval x.2)):=by
  refine All2.mono_mem (fun p q G v=>⟨v.1,WR.cells ?_ v.2⟩) l;exact List.all_eq_true.1 e p G
 have k:∀(i:Nat) off size r,ti.fields[i]?=some (off,size,r)->(fun(x:Nat)=>(ti.fields.map fun x=>(x.1,x.2.1)).toArray[x]?) i=some (off,size):=by
  intro i off size r B;simp[B]
 obtain⟨arr,y,A⟩:=c1U (arr:=z.cells) k D j (m.mono fun _ _ hh=>hh β K);refine h.pure1 F (u := .agg arr) ⟨arr,rfl,A⟩ (w':=w) ?_ (a0s.refl w);have c:(b.map fun(x:Nat×Operand)=>match x with|(i,x)=>(i,a.eval x)).toList=b.toList.map fun x=>(x.1,a.eval x.2):=by simp
 refine a1l (s:=Instr.build t (b.map fun(x:Nat×Operand)=>match x with|(i,x)=>(i,a.eval x))) (by simp[execOp,H]) ?_;unfold Instr.build;simp only[zeroValue,typeInfo,Sem.run_bind,run_program,Result.andThen_ok,E,M,run_underlying hd,c0e g,Sem.run_pure];rw[c,y];rfl
theorem d2F (h:MR β K get w) {ks:List Nat} (t:Ty):∀{ps:List (Nat×W)} {vs:List (Nat×Value)} {l l':List (Den t)} {arr:Array Value} {len:Nat},a1R get t l ps=some l' ->
 All2 (fun(p:Nat×W) (q:Nat×Value)=>p.1=q.1 /\ All2 (CR β K) p.2.cells q.2.cells.toList) ps vs->(∀p∈ps,∀k∈a0M p.2,k∈ks)->l.length=len->arr.size=len*t.size ->
 (∀i (P:i<l.length),DR (a4q β K get w ks) t l[i] (sub arr.toList (i*t.size) t.size)) ->
 ∃a,Instr.fill (fun i=>some (i*t.size,t.size)) arr vs=some a /\ l'.length=len /\ a.size=len*t.size /\ ∀i (P:i<l'.length),DR (a4q β K get w ks) t l'[i] (sub a.toList (i*t.size) t.size)
 |[],[],l,l',arr,len,hf,_,_,hl,ha,hd=>by simp only[a1R,injEq]at hf;subst hf;exact⟨arr,rfl,hl,ha,hd⟩
 | (i, u) :: ps,(j,v)::vs,l,l',arr,len,hf,hv,hk,hl,ha,hd=>by
   obtain⟨⟨e,m⟩,T⟩:=hv;dsimp only at e m;subst e;simp only[a1R]at hf;split at hf
   ·rename_i cs r;split at hf
    ·rename_i x U;split at hf
     ·rename_i f;have f:i<l.length:=by simpa[Nat.blt_eq]using f
      have B:All2 (CR β (a4q β K get w ks)) cs v.cells.toList:=
       a1f r m fun E F Y Q s C=>c1Q h s C fun k y=>hk (i,u) (List.mem_cons_self ..) k (List.mem_flatMap.2 ⟨E,Q,y⟩)
      obtain⟨V,X,G,o,H⟩:=b2e t U B;have n:v.cells.toList=V:=by
       cases X with
       |nil=>simpa using G
       |cons _ _=>exact H.elim
      rw[<- n]at o;have b:=DR.length t o;have D:v.cells.size=t.size:=by simpa using b
      have c:i*t.size+t.size<=arr.size:=by rw[ha,<- Nat.succ_mul];exact Nat.mul_le_mul_right _ (by omega)
      have d:=a6C (i*t.size) v.cells.toList 0 arr (by rw[b];omega);rw[Nat.add_zero]at d;obtain⟨a,I,J,L,M⟩:=d2F h t (len:=len) (arr:=(v.cells.toList.zipIdx 0).foldl (fun(cs:Array Value) (x:Value×Nat)=>cs.setIfInBounds (i*t.size+x.2) x.1) arr) hf T
       (fun p R=>hk p (List.mem_cons_of_mem _ R)) (by simpa using hl) (by
        rw[<- Array.length_toList,d];simp only[length_append,List.length_take,List.length_drop,Array.length_toList];rw[Array.length_toList]at b;omega) (by
        intro q S;have z:q<l.length:=by simpa using S
        rw[d];by_cases A:q=i
        ·subst A;rw[List.getElem_set_self];have:=a3S arr.toList v.cells.toList (q*t.size) t.size 0 (by simpa using c) (by rw[b];omega);rw[Nat.add_zero]at this;rw[this];have N:(sub arr.toList (q*t.size) t.size).drop (0+v.cells.toList.length)=[]:=by
          rw[List.drop_eq_nil_iff,a3w (by simpa using c),b];omega
         rw[N];simpa using o
        ·rw[List.getElem_set_ne (by omega)];rw[a2D _ _ _ _ _ (by rw[b];simpa using c)]
         ·exact hd q z
         ·rw[b];rcases Nat.lt_or_ge q i with g|O
          ·left;have:q*t.size+t.size<=i*t.size:=by rw[<- Nat.succ_mul];exact Nat.mul_le_mul_right _ g
           omega
          ·right;have:i*t.size+t.size<=q*t.size:=by rw[<- Nat.succ_mul];exact Nat.mul_le_mul_right _ (by omega)
           omega)
      refine⟨a,?_,J,L,M⟩;simp only[Instr.fill];rw[if_neg (by simp[D];omega)];rw[<- I];congr 1;rw[<- Array.foldl_toList];congr 1;simp
     ·cases hf
    ·cases hf
   ·cases hf
 |[],_::_,_,_,_,_,_,hv,_,_,_,_=>hv.elim
 |_::_,[],_,_,_,_,_,hv,_,_,_,_=>hv.elim
theorem b0M (h:Pre P Γ β K get n w ρ a) {t:TypeId} {ti ei:TI} {len:Nat} {parts:Array (Nat×Operand)} {ps:List (Nat×W)} {l:List (Den ei.ty)} (ho:o.op = .buildSlice t len parts) (ht:Γ.tab t=some ti) (hs:ti.sort = .slice)
 (he:Γ.tab ti.elem=some ei) (hp:a1q (fun p=>match ρ p.2 with|.val w=>some (p.1,w)|.tup _=>none) parts.toList=some ps) (hsure:ps.all (fun p=>p.2.cells.all b9W)=true) (hlen:len*ei.size<=1000000) (hsz:ei.ty.size=ei.size) (h0s:0<ei.size)
 (hf:a1R get ei.ty (List.replicate len (zero ei.ty)) ps=some l) :
 a0l P o a w (a0S β K get n w ⟨true,.val (.one (.ref ei.ty n)),(n,some (.arr ei.ty l))::(ps.flatMap fun p=>a0M p.2).map (fun k=>(k,none)),n+1⟩):=by
 obtain⟨_,d,_,_,hd,_,_,_,_,_,hso,_⟩:=(h.env.tab t ti ht).ex
 simp only[a1C,hs]at hso
 subst hso
 obtain⟨ii,d',z,hi,hd',hz,hs1,hb1,ha1,_,_,hzt,hzc⟩:=(h.env.tab _ ei he).ex
 have hpr:=b6R h hp
 have hpc:All2 (fun(p:Nat×W) (q:Nat×Value)=>p.1=q.1 /\ All2 (CR β K) p.2.cells q.2.cells.toList) ps (parts.toList.map fun x=>(x.1,a.eval x.2)):=by
  refine All2.mono_mem (fun p q hm hq=>⟨hq.1,WR.cells ?_ hq.2⟩) hpr
  exact List.all_eq_true.1 hsure p hm
 have hzs:z.cells.size=ei.ty.size:=by rw[hzc,hs1,hsz]
 have hparts:(parts.map fun(x:Nat×Operand)=>match x with|(i,x)=>(i,a.eval x)).toList=parts.toList.map fun x=>(x.1,a.eval x.2):=by simp
 obtain⟨arr',f1,f2,f3,f4⟩:=d2F (ks:=ps.flatMap fun p=>a0M p.2) h.mr ei.ty (arr:=madeCells z.cells (len*z.cells.size)) (len:=len) hf hpc
  (fun p hp k hk=>List.mem_flatMap.2 ⟨p,hp,hk⟩) (by simp) (by rw[size_madeCells,hzs]) (by
   intro i hi'
   rw[List.getElem_replicate,<- hzs,a5I _ _ _ (by simpa using hi')]
   exact hzt hsz _)
 have hr:(Instr.buildSlice t len (parts.map fun(x:Nat×Operand)=>match x with|(i,x)=>(i,a.eval x))).run P w = .ok (.slice (some ⟨w.heap.size,0,none⟩) len len) (w.alloc (.cells arr' ti.elem)):=by
  unfold Instr.buildSlice
  have hn:¬(2^24<len*ii.size):=by rw[hs1];omega
  have hn':¬(16777216<len*ii.size):=by rw[hs1];omega
  rw[hzs]at f1
  simp only[hsz]at f1
  rw[<- hs1]at f1
  simp only[Sem.run_bind,run_underlying hd,Result.andThen_ok,a1e hi]
  have hlp:∀(zc:Array Value),(Array.map (fun x=>zc[x%zc.size]!) (Array.range (len*ii.size)))=madeCells z.cells (len*ii.size)->(match Instr.fill (fun i=>some (i*ii.size,ii.size)) (Array.map (fun x=>zc[x%zc.size]!) (Array.range (len*ii.size)))
   (parts.map fun(x:Nat×Operand)=>match x with|(i,x)=>(i,a.eval x)).toList with
   | some cells=>do
     let y <- newRow ti.elem cells
     pure (Value.slice (some y) len len)
   |_=>stuck "buildSlice: a part of the wrong size" : Go.Sem Value).run P w = .ok (.slice (some ⟨w.heap.size,0,none⟩) len len) (w.alloc (.cells arr' ti.elem)):=by
   intro zc hzc
   rw[hzc,hparts,f1]
   simp[newRow]
  rw[if_neg (by simpa using hn')]
  by_cases hz0:len*ii.size=0
  ·rw[if_pos hz0]
   simp only[pure_bind]
   exact hlp #[] (by rw[hz0];simp[madeCells])
  ·rw[if_neg hz0]
   simp only[Sem.run_bind,zeroValue,typeInfo,run_program,Result.andThen_ok,hi,hz,Sem.run_pure]
   exact hlp z.cells rfl
 refine a0l.value (a1l (s:=Instr.buildSlice t len (parts.map fun(x:Nat×Operand)=>match x with|(i,x)=>(i,a.eval x))) (by simp[execOp,ho]) hr) ?_
 refine a7R.alloc (h:=⟨.slice (some ⟨w.heap.size,0,none⟩) len len,some w.heap.size⟩) h.kok h.mr h.fresh (a0s.refl w) (a0J (β:=β) (get:=get) (w:=w) (ks:=ps.flatMap fun p=>a0M p.2)) (a3Q h.kok) ?_ rfl ?_ ?_ a3R
 ·intro k c x y e hk f g;exact a1E h.mr e hk f g
 ·refine .inr ⟨w.heap.size,len,arr',ti.elem,by simp[f2],a1z w _,by omega,?_,f3,f4⟩
  simp only[maxLen]
  have:len*1<=len*ei.size:=Nat.mul_le_mul_left _ (by omega)
  omega
 ·exact⟨_,_,_,_,a0z ..,rfl,rfl⟩
end
section
variable {P:Program} {Γ:Env} {β:Bt} {K:Ks} {get:Get} {n:Nat} {w:World} {ρ:Operand->V} {a:Act} {o:Oper}
structure Src (K:Ks) (w:World) (t:Ty) (l:List (Den t)) (v:Value) (news:List Value):Prop where
 val:∃ad c,v = .slice ad l.length c /\ (l.length=0∨∃x,ad=some x /\ ∀(j:Nat) (u:Value),news[j]?=some u->w.cell? (x.add j)=some u)
 len:news.length=l.length*t.size
 one:∀u∈news,u.oneCell'=true
 el:∀i (h:i<l.length),DR K t l[i] (sub news (i*t.size) t.size)
theorem c1V {t:Ty} {l:List (Den t)} {b q c:Nat} {arr:Array Value} {T:TypeId} {fz:Nat×Nat} (n:0<t.size) (hh:w.heap[b]?=some (.cells arr T fz))
 (hd:∀i (h:i<l.length),DR K t l[i] (sub arr.toList (q+i*t.size) t.size)):Src K w t l (.slice (some ⟨b,q,none⟩) l.length c) (sub arr.toList q (l.length*t.size)):=by
 have f:l.length≠0->q+l.length*t.size<=arr.toList.length:=by
  intro a;have e:l.length-1<l.length:=by omega
  have:=DR.length t (hd (l.length-1) e);simp only[sub,List.length_take,List.length_drop]at this;have s:(l.length-1)*t.size+t.size=l.length*t.size:=by
   rw[<- Nat.succ_mul];congr 1;omega
  omega
 have k:∀i,i<l.length->sub (sub arr.toList q (l.length*t.size)) (i*t.size) t.size=sub arr.toList (q+i*t.size) t.size:=by
  intro i e;refine c1J _ _ _ _ _ ?_;rw[<- Nat.succ_mul];exact Nat.mul_le_mul_right _ e
 refine⟨⟨_,c,rfl,?_⟩,?_,?_,?_⟩
 ·right;refine⟨_,rfl,fun j u d=>?_⟩;rw[a2C,cell_of_row w b _ arr T fz hh];unfold sub at d;rw[List.getElem?_take]at d;split at d
  ·rw[List.getElem?_drop]at d;simpa using d
  ·cases d
 ·by_cases a:l.length=0
  ·simp[a,sub]
  ·exact a3w (f a)
 ·intro u r;obtain⟨j,d,o⟩:=List.mem_iff_getElem.1 r;by_cases a:l.length=0
  ·simp[a,sub]at d
  ·have g:=a3w (f a);rw[g]at d;have e:j/t.size<l.length:=(Nat.div_lt_iff_lt_mul n).2 d;refine DR.oneCell t (hd _ e) u ?_;rw[<- k _ e];have p:j%t.size<t.size:=Nat.mod_lt _ n;refine List.mem_iff_getElem?.2 ⟨j%t.size,?_⟩;have m:j/t.size*t.size+j%t.size=j:=by rw[Nat.mul_comm];exact Nat.div_add_mod j t.size
   show(((sub arr.toList q (l.length*t.size)).drop (j/t.size*t.size)).take t.size)[j%t.size]?=some u;rw[List.getElem?_take,if_pos p,List.getElem?_drop,m];rw[List.getElem?_eq_getElem (by rw[g];exact d),o]
 ·intro i e;rw[k i e];exact hd i e
theorem b4Y {t:Ty} {ad:Option Addr} {c:Nat}:Src K w t [] (.slice ad 0 c) []:=
 ⟨⟨ad,c,rfl,.inl rfl⟩,by simp,by simp,fun i h=>by simp at h⟩
theorem b6S (A:KOK K w) (B:MR β K get w) {t:Ty} {c:C} {v:Value} {l:List (Den t)} {H:List Nat} (p:0<t.size) (a:a3s get t c=some (l,H)) (o:CR β K c v) :
 ∃news,Src K w t l v news:=by
 cases c with
 | nil s =>
   simp only[a3s,injEq,Prod.mk.injEq]at a;obtain⟨rfl,rfl⟩:=a;obtain⟨ad,rfl⟩:=o;exact⟨[],b4Y⟩
 | sl s l' =>
   simp only[a3s]at a;split at a
   ·rename_i e _;subst e;simp only[injEq,Prod.mk.injEq]at a;obtain⟨rfl,rfl⟩:=a;obtain⟨ad,m,c,d,n,D,E⟩:=o;simp only[List.cons.injEq,and_true]at d;subst n;rcases E with G|⟨b,q,arr,rfl,u,f⟩
    ·have:l'=[]:=List.eq_nil_of_length_eq_zero G;subst this;rw[d];exact⟨[],b4Y⟩
    ·obtain⟨cur,T,fz,hh,_,F⟩:=A.see u;rw[d];exact⟨_,c1V p hh fun i j=>F _ _ (f i j)⟩
   ·cases a
 | ref s k =>
   simp only[a3s]at a;split at a
   ·rename_i I l' z;split at a
    ·rename_i e _;subst e;simp only[injEq,Prod.mk.injEq]at a;obtain⟨rfl,rfl⟩:=a;obtain⟨y,ad,m,c,x,r,rfl⟩:=o;obtain⟨y',g,h⟩:=B.blk k _ z;rw[x]at g;cases g;rcases h with⟨rfl,a',rfl⟩|⟨b,cap,cur,T,rfl,hh,h1,h2,h3,h4⟩
     ·cases r;exact⟨[],b4Y⟩
     ·cases r;exact⟨_,c1V (q:=0) p hh (fun i j=>by rw[Nat.zero_add];exact h4 i j)⟩
    ·cases a
   ·cases a
 |_=>simp[a3s]at a
theorem c0f:∀{l:List Int} {news:List Value},news.length=l.length*(Ty.int .u8).size->(∀i (h:i<l.length),DR K (.int .u8) l[i] (sub news (i*(Ty.int .u8).size) (Ty.int .u8).size))->news=l.map (Value.int .u8):=by
 intro l news d h;have a:news.length=l.length:=by simpa[Ty.size]using d
 refine List.ext_getElem (by simp[a]) fun i b f=>?_
 have:=h i (by omega);simp only[Ty.size,Nat.mul_one]at this;have e:sub news i 1=[news[i]]:=by
  unfold sub;rw[List.drop_eq_getElem_cons b];rfl
 rw[e]at this;have c:[news[i]]=[Value.int .u8 l[i]]:=this;simpa using c
theorem c9m (h:Pre P Γ β K get n w ρ a) {f dst:TypeId} {E q:TI} {x:Operand} {c:C} {s:ByteArray} {out:Out} (M:o.op = .convert f dst x) (N:Γ.tab f=some E) (hd:Γ.tab dst=some q)
 (Q:ρ x = .val (.one c)) (d:b9X Γ get E q c=some s) (J:a0w n true (.one (.str s))=some out):a0l P o a w (a0S β K get n w out):=by
 obtain⟨_,S,_,_,r,_,_,_,_,_,g,_⟩:=(h.env.tab f E N).ex;obtain⟨_,T,_,_,t,_,_,_,_,_,i,_⟩:=(h.env.tab dst q hd).ex;unfold b9X at d;split at d
 ·rename_i A B;simp only[a1C,A]at g;simp only[a1C,B]at i;subst g;subst i;split at d
  ·rename_i G z;obtain⟨_,U,_,_,v,_,_,_,_,_,j,_⟩:=(h.env.tab _ G z).ex;split at d
   ·rename_i k D;simp only[a1C,D]at j;subst j;split at d
    ·rename_i V;have I:k = .u8:=by cases k<;>simp_all[c1D]
     subst I;split at d
     ·rename_i l ks H;cases d;have O:=h.one Q;obtain⟨news,e⟩:=b6S h.kok h.mr (by decide) H O;obtain⟨ad,F,p,b⟩:=e.val;have L:=c0f e.len e.el;refine h.pure1 J (u := .string (a6X l)) rfl (a1l (s:=convert f dst (a.eval x)) (by simp[execOp,M]) ?_) (a0s.refl w);rw[p,run_convert_bytes_string w f dst _ ad _ _ r v t];rcases b with R|⟨y,rfl,b⟩
      ·have:l=[]:=List.eq_nil_of_length_eq_zero R;subst this;cases ad with
       |none=>rfl
       |some y=>exact run_bytesToString w y 0 F [] (by simp[loadCells,loadCellsFrom])
      ·have m:=run_loadCells_list (P:=P) w y news b;refine run_bytesToString w y l.length F l ?_;rw[L]at m;simpa using m
     ·cases d
    ·cases d
   ·cases d
  ·cases d
 ·cases d
theorem a5J {b:Builtin} {c:Call} (g:o.op = .call c) (f:c.callee = .builtin b) {s:TypeId->Array Value->Go.Sem Value} {v:Value} {w':World}
 (e:∀ty d args,builtin b c.argTypes ty d args=(do let x <- s ty args;pure (Next.value x))) (h:(s o.type (c.args.map a.eval)).run P w = .ok v w'):(execOp a.eval o).run P w = .ok (.value v) w':=by
 simp[execOp,g,resolve,f,invoke,e,h]
theorem a7R.alloc0 {β:Bt} {K:Ks} {get:Get} {n:Nat} {w w1:World} {b:Blk} {ok:Bool} {h:Hd} {v:V} {gone:List Nat}
 (j:KOK K w) (l:MR β K get w) (i:∀k,n<=k->β k=none) (s:a0s w w1) (hh:h.b=none)
 (p:BR (a9p β n h) K b h w1) (q:VR (a9p β n h) K v h.v) :
 a0S β K get n w ⟨ok,v,(n,some b)::gone.map (fun k=>(k,none)),n+1⟩ h.v w1:=by
 have m:β n=none:=i n (le_refl _);refine⟨a9p β n h,K,BLe.add h m,KLe.refl K,j.still s,q,?_,?_,by simp,Fr.still s,?_,fun _ _ e => .inl e,fun k j=>a1d _ _ (by omega)⟩
 ·refine l.step (BLe.add h m) (KLe.refl K) ?_;intro k c e;rcases a0A e with⟨rfl,e1⟩|⟨e1,e2⟩
  ·cases e1;exact .inr ⟨h,a0z ..,p,fun x o=>by rw[hh]at o;cases o⟩
  ·obtain⟨r,d⟩:=a1k e2;exact .inl ⟨d,fun x y f g=>⟨by rw[s.heap],l.ro k c y x d f g⟩⟩
 ·intro k a;rw[a1d _ _ (by simp at a;omega)];exact i k (by simp at a;omega)
 ·rintro x ⟨k,c,y,e,f,g⟩;rcases a0A e with⟨rfl,e1⟩|⟨e1,e2⟩
  ·rw[a0z]at f;cases f;rw[hh]at g;cases g
  ·obtain⟨_,d⟩:=a1k e2;rw[a1d _ _ e1]at f;exact .inl ⟨k,c,y,d,f,g⟩
theorem a7R.moved {β:Bt} {K:Ks} {get:Get} {n:Nat} {w:World} {i b:Blk} {ok:Bool} {h y:Hd} {v:V} {k g:Nat} {cur:Array Value}
 (t:KOK K w) (q:MR β K get w) (B:∀k,n<=k->β k=none) (m:get k=some i) (s:β k=some y) (a:y.b=some g) (hh:h.b=some g)
 (D:BR (a9p β n h) K b h (w.setRow g cur)) (E:VR (a9p β n h) K v h.v) :
 a0S β K get n w ⟨ok,v,[(n,some b),(k,none)],n+1⟩ h.v (w.setRow g cur):=by
 have C:β n=none:=B n (le_refl _);have p:K g=none:=q.ro k i y g m s a;refine⟨a9p β n h,K,BLe.add h C,KLe.refl K,⟨?_,t.gk⟩,E,?_,?_,by simp,⟨rfl,rfl,rfl,by simp,?_⟩,?_,fun _ _ e => .inl e,fun k t=>a1d _ _ (by omega)⟩
 ·intro x arr e;have r:x≠g:=fun l=>by subst l;rw[p]at e;cases e
  rw[setRow_other w g x cur r];exact t.ato x arr e
 ·refine q.step (BLe.add h C) (KLe.refl K) ?_;intro j c e;rcases a0A e with⟨rfl,e1⟩|⟨e1,e2⟩
  ·cases e1;refine .inr ⟨h,a0z ..,D,fun x r=>?_⟩;rw[hh]at r;cases r;refine⟨p,fun k' b' y' l A d=>?_⟩;rcases a0A l with⟨rfl,_⟩|⟨e3,e4⟩
   ·rfl
   ·rcases b0J e4 with⟨_,e5⟩|⟨e5,e6⟩
    ·cases e5
    ·rw[a1d _ _ e3]at A;exact absurd (q.sep k' k b' i y' y g e6 m A s d a) e5
  ·rcases b0J e2 with⟨_,e5⟩|⟨e5,e6⟩
   ·cases e5
   ·refine .inl ⟨e6,fun x z f d=>⟨setRow_other w g x cur fun l=>?_,q.ro j c z x e6 f d⟩⟩;subst l;exact e5 (q.sep j k c i z y x e6 m f s d a)
 ·intro j o;rw[a1d _ _ (by simp at o;omega)];exact B j (by simp at o;omega)
 ·intro x r u;exact setRow_other w g x cur fun e=>u (.inl ⟨k,i,y,m,s,by rw[a,e]⟩)
 ·rintro x ⟨j,c,z,e,f,d⟩;rcases a0A e with⟨rfl,e1⟩|⟨e1,e2⟩
  ·rw[a0z]at f;cases f;rw[hh]at d;cases d;exact .inl ⟨k,i,y,m,s,a⟩
  ·rcases b0J e2 with⟨_,e5⟩|⟨e5,e6⟩
   ·cases e5
   ·rw[a1d _ _ e1]at f;exact .inl ⟨j,c,z,e6,f,d⟩
theorem a4t (x y:List Value) (o m:Nat) (h:o+m<=x.length):sub (x++y) o m=sub x o m:=by
 unfold sub;rw[List.drop_append_of_le_length (by omega),List.take_append_of_le_length (by simp;omega)]
theorem a7n (x y:List Value) (o m:Nat):sub (x++y) (x.length+o) m=sub y o m:=by
 unfold sub;have e:x.drop (x.length+o)=[]:=List.drop_eq_nil_of_le (by omega);rw[List.drop_append,e];simp
theorem b2l {t:Ty} {l l':List (Den t)} {xs ys:List Value} (d:xs.length=l.length*t.size) (h:∀i (b:i<l.length),DR K t l[i] (sub xs (i*t.size) t.size))
 (h':∀i (b:i<l'.length),DR K t l'[i] (sub ys (i*t.size) t.size)) (a:List Value) (g:ys.length=l'.length*t.size) :
 ∀i (b:i<(l++l').length),DR K t (l++l')[i] (sub (xs++ys++a) (i*t.size) t.size):=by
 intro i b;have f:i*t.size+t.size<=(xs++ys).length:=by
  rw[length_append,d,g,<- Nat.add_mul,<- Nat.succ_mul];exact Nat.mul_le_mul_right _ (by have:=b;simp at this;omega)
 rw[a4t _ _ _ _ f];by_cases c:i<l.length
 ·rw[List.getElem_append_left c,a4t]
  ·exact h i c
  ·rw[d,<- Nat.succ_mul];exact Nat.mul_le_mul_right _ c
 ·rw[List.getElem_append_right (by omega)];have e:i*t.size=xs.length+(i-l.length)*t.size:=by
   rw[d,<- Nat.add_mul];congr 1;omega
  rw[e,a7n];exact h' _ _
theorem a7o (t ty e:TypeId) (i:TypeInfo) (q:P.underlying t=some (.slice e)) (o:P.info? e=some i)
 (g sLen sCap:Nat) (cur:Array Value) (T:TypeId) (n:w.heap[g]?=some (.cells cur T (0,0)))
 (ad:Option Addr) (m c:Nat) (news:List Value) (h:news.length=m*i.size) (a:m=0∨∃x,ad=some x /\ ∀(j:Nat) (u:Value),news[j]?=some u->w.cell? (x.add j)=some u) (k:∀u∈news,u.oneCell'=true)
 (b:sLen+m<=sCap) (d:sLen*i.size+news.length<=cur.size) :
 (Builtin.append_ #[t,t] ty #[.slice (some ⟨g,0,none⟩) sLen sCap,.slice ad m c]).run P w =
  .ok (.slice (some ⟨g,0,none⟩) (sLen+m) sCap) (w.setRow g (cur.toList.take (sLen*i.size)++news++cur.toList.drop (sLen*i.size+news.length)).toArray):=by
 have l:(Builtin.firstCells i.size m (.slice ad m c)).run P w = .ok news.toArray w:=by
  rcases a with rfl|⟨x,rfl,p⟩
  ·have:news=[]:=List.eq_nil_of_length_eq_zero (by simpa using h);subst this;cases ad with
   |none=>simp[Builtin.firstCells]
   |some x=>simp[Builtin.firstCells,loadCells,loadCellsFrom]
  ·exact run_firstCells_some (P:=P) w i.size m x m c news h p
 have f:=run_storeCells_at P g (sLen*i.size) T news 0 cur w n (by simpa using d) k;simp only[Nat.add_zero]at f;simp[Builtin.append_,run_underlying q,sizeOf,typeInfo,o,Builtin.lenOf,b,l,a2C,f]
theorem a8a (t ty e:TypeId) (i:TypeInfo) (d:P.underlying t=some (.slice e)) (b:P.info? e=some i) (s ad:Option Addr) (c:Nat) :
 (Builtin.append_ #[t,t] ty #[.slice s 0 0,.slice ad 0 c]).run P w = .ok (.slice s 0 0) w:=by
 have a:(Builtin.firstCells i.size 0 (.slice ad 0 c)).run P w = .ok #[] w:=by
  cases ad with
  |none=>simp[Builtin.firstCells]
  |some x=>simp[Builtin.firstCells,loadCells,loadCellsFrom]
 cases s with
 |none=>simp[Builtin.append_,run_underlying d,sizeOf,typeInfo,b,Builtin.lenOf,a]
 |some x=>simp[Builtin.append_,run_underlying d,sizeOf,typeInfo,b,Builtin.lenOf,a,storeCells]
theorem c1W (h:Pre P Γ β K get n w ρ a) {H e:TypeId} {b:TI} {D:TypeInfo} {z:Value} (W:P.underlying H=some (.slice e)) (U:P.info? e=some D) (X:D.zero=some z) (A:D.size=b.size) (hb1:D.bytes=b.bytes)
 (R:z.cells.size=D.size) (hby:b.bytes<=128) (C:b.ty.size=b.size) (h0s:0<b.size) (ty:TypeId)
 {s:Option Addr} {sLen sCap:Nat} {l l':List (Den b.ty)} {olds news:List Value} (r:olds.length=l.length*b.ty.size) (B:sLen=l.length)
 (d:sLen=0∨∃x,s=some x /\ ∀(j:Nat) (u:Value),olds[j]?=some u->w.cell? (x.add j)=some u) (N:∀i (h:i<l.length),DR K b.ty l[i] (sub olds (i*b.ty.size) b.ty.size))
 {v:Value} (t:Src K w b.ty l' v news) (p:sCap<sLen+l'.length) (T:(l.length:Int)+(l'.length:Int)<=a3j) {gone:List Nat} {ok:Bool} (E:∀u w',(Builtin.append_ #[H,H] ty #[.slice s sLen sCap,v]).run P w = .ok u w'->(execOp a.eval o).run P w = .ok (.value u) w')
 (F:s=none->sCap=0) (hle:sLen<=sCap) :
 a0l P o a w (a0S β K get n w ⟨ok,.val (.one (.ref b.ty n)),(n,some (.arr b.ty (l++l')))::gone.map (fun k=>(k,none)),n+1⟩):=by
 have hc0:a3j=1099511627776:=rfl;obtain⟨ad,c,rfl,M⟩:=t.val;have I:=t.len;by_cases L:l'.length=0
 ·
  omega
 ·obtain⟨x,rfl,q⟩:=M.resolve_left L;have m:(sLen+l'.length)*D.bytes<=140737488355328:=by
   have h1:(sLen+l'.length)*D.bytes<=(sLen+l'.length)*128:=Nat.mul_le_mul_left _ (by omega);have h2:sLen+l'.length<=1099511627776:=by omega
   omega
  have J:∀G,grownCap w (sLen+l'.length) G e<=maxLen:=fun G=>grownCap_le_maxLen w _ G e (by simp only[maxLen];omega)
  have hr:(Builtin.append_ #[H,H] ty #[.slice s sLen sCap,.slice (some x) l'.length c]).run P w = .ok (.slice (some ⟨w.heap.size,0,none⟩) (sLen+l'.length) (grownCap w (sLen+l'.length) sCap e))
   (w.drew.alloc (.cells (olds.toArray++news.toArray++Builtin.zeroCells z.cells (grownCap w (sLen+l'.length) sCap e-(sLen+l'.length))) e)):=by
   cases s with
   | none =>
     have Y:sCap=0:=F rfl;subst Y;have S:sLen=0:=by rcases d with d|⟨x,hx,_⟩;exact d;cases hx
     have Z:olds=[]:=List.eq_nil_of_length_eq_zero (by rw[r,<- B,S];simp);subst Z;subst S;have:=run_append_nil (P:=P) w H ty e D z W U X x l'.length c news (by rw[I,C,A]) q (by omega) (by omega) (by rw[Nat.zero_add]at m;omega);simpa using this
   | some y =>
     refine run_append_grow (P:=P) w H ty e D z W U X y sLen sCap olds (by rw[r,B,C,A]) ?_ x l'.length c news (by rw[I,C,A]) q p (by omega) (growslice_fits p m);intro j u V;rcases d with h0|⟨y',Q,d⟩
     ·have:olds=[]:=List.eq_nil_of_length_eq_zero (by rw[r,<- B,h0];simp);subst this;simp at V
     ·cases Q;exact d j u V
  refine a0l.value (E _ _ hr) ?_;have O:a0s w w.drew:=⟨rfl,rfl,rfl,rfl⟩;refine a7R.alloc (h:=⟨.slice (some ⟨w.heap.size,0,none⟩) (sLen+l'.length) (grownCap w (sLen+l'.length) sCap e),some w.heap.size⟩) h.kok h.mr h.fresh O (KLe.refl K) h.kok ?_ rfl ?_ ?_
  ·intro k c x y e _ f g;exact h.mr.ro k c y x e f g
  ·have hge:=grownCap_ge w (sLen+l'.length) sCap e;refine .inr ⟨w.heap.size,grownCap w (sLen+l'.length) sCap e,_,e,by simp[B],a1z w.drew _,by simp;omega,J _,?_,?_⟩
   ·simp only[Array.size_append,List.size_toArray,size_zeroCells,R,r,I,A,C,<- Nat.add_mul];congr 1;omega
   ·simp only[Array.toList_append];exact b2l r N t.el _ I
  ·exact⟨_,_,_,_,a0z ..,rfl,rfl⟩
set_option maxHeartbeats 1000000 in
theorem c1X (h:Pre P Γ β K get n w ρ a) {c:Call} {I:TypeId} {R p:TI} {xs xx:Operand} {s x:C} {out:Out} (ho:o.op = .call c) (hc:c.callee = .builtin .append) (hts:c.argTypes=#[I,I]) (J:c.args=#[xs,xx])
 (ht:Γ.tab I=some R) (N:R.sort = .slice) (he:Γ.tab R.elem=some p) (D:p.ty.size=p.size) (S:0<p.size) (hs:ρ xs = .val (.one s)) (hx:ρ xx = .val (.one x))
 (r:a2t get n p.ty p.bytes s x=some out) (Y:out.ok=true):a0l P o a w (a0S β K get n w out):=by
 obtain⟨_,d,_,_,hd,_,_,_,_,_,Z,_⟩:=(h.env.tab I R ht).ex;simp only[a1C,N]at Z;subst Z;obtain⟨ii,d',z,G,hd',hz,B,V,ha1,_,_,hzt,hzc⟩:=(h.env.tab _ p he).ex;have h0:0<p.ty.size:=by omega
 have exec:∀u w',(Builtin.append_ #[I,I] o.type #[a.eval xs,a.eval xx]).run P w = .ok u w'->(execOp a.eval o).run P w = .ok (.value u) w':=by
  intro u w' A;refine a5J (b := .append) (s:=fun ty args=>Builtin.append_ c.argTypes ty args) ho hc (fun ty consts args=>rfl) ?_;rw[hts,J];simpa using A
 unfold a2t at r;split at r
 ·cases r
 rename_i E;have E:p.bytes<=128:=by simpa using E
 split at r
 ·cases r
 rename_i g kx hel;obtain⟨news,f⟩:=b6S h.kok h.mr h0 hel (h.one hx);have hsv:=h.one hs;have bare:∀(H:Option Addr) (gone:List Nat) (ok:Bool),a.eval xs = .slice H 0 0->(g.length:Int)<=a3j ->
  a0l P o a w (a0S β K get n w ⟨ok,.val (.one (.ref p.ty n)),(n,some (.arr p.ty g))::gone.map (fun k=>(k,none)),n+1⟩):=by
  intro H gone ok F v;by_cases L:g.length=0
  ·obtain⟨ad,c',O,_⟩:=f.val;have A:=a8a (P:=P) (w:=w) I o.type R.elem ii hd G H ad c';rw[<- L,<- O,L,<- F]at A;refine a0l.value (exec _ _ A) ?_;have e:g=[]:=List.eq_nil_of_length_eq_zero L;subst e;rw[F];exact a7R.alloc0 (h:=⟨.slice H 0 0,none⟩) h.kok h.mr h.fresh (a0s.refl w) rfl (.inl ⟨rfl,H,rfl⟩) ⟨_,_,_,_,a0z ..,rfl,rfl⟩
  ·have:=c1W (l:=[]) (l':=g) (olds:=[]) (news:=news) (s:=H) (sLen:=0) (sCap:=0) (gone:=gone) (ok:=ok) h hd G hz B V hzc E D S o.type (by simp) rfl (.inl rfl) (fun i G=>by simp at G) f (by omega) (by simpa using v)
    (fun u w' A=>exec u w' (by rw[F];exact A)) (fun _=>rfl) (le_refl _)
   simpa using this
 split at r
 ·cases r;obtain⟨H,F⟩:=hsv;exact bare H [] _ F (b0G Y)
 ·rename_i ty Q;split at r
  ·rename_i t' l hg;split at r
   ·rename_i e _;subst e;split at r
    ·cases r
    ·rename_i hkx;cases r;have v:(l.length:Int)+(g.length:Int)<=a3j:=by have:=b0G Y;simpa using this
     obtain⟨y,ad,m,c',hb,hy,F⟩:=hsv;obtain⟨y',U,hbr⟩:=h.mr.blk Q _ hg;rw[hb]at U;cases U;rcases hbr with⟨hl0,a',rfl⟩|⟨b,cap,cur,T,rfl,hh,h1,h2,h3,h4⟩
     ·cases hy;have X:l=[]:=hl0;subst X;have:=bare _ [Q] (a0n (([]:List (Den p.ty)).length+g.length)) F (by simpa using v);exact this
     ·cases hy;have j:=c1V (K:=K) (w:=w) (q:=0) (c:=c') h0 hh (l:=l) (fun i G=>by rw[Nat.zero_add];exact h4 i G);by_cases t:l.length+g.length<=c'
      ·obtain⟨ad',c'',O,hnv⟩:=f.val;have M:=f.len;have W:l.length*ii.size+news.length<=cur.size:=by
        rw[M,h3,B,D,<- Nat.add_mul];exact Nat.mul_le_mul_right _ t
       have A:=a7o (P:=P) (w:=w) I o.type R.elem ii hd G b l.length c' cur T hh ad' g.length c'' news (by rw[M,D,B]) hnv f.one t W;rw[<- O,<- F]at A;refine a0l.value (exec _ _ A) ?_;refine a7R.moved (h:=⟨.slice (some ⟨b,0,none⟩) (l.length+g.length) c',some b⟩) h.kok h.mr h.fresh hg hb rfl rfl ?_ ⟨_,_,_,_,a0z ..,rfl,rfl⟩;refine .inr ⟨b,c',_,T,by simp,setRow_heap w b cur _ T _ hh,by simpa using t,h2,?_,?_⟩
       ·simp only[List.size_toArray,length_append,List.length_take,List.length_drop,Array.length_toList];omega
       ·rw[List.toList_toArray,B,<- D];have e1:cur.toList.take (l.length*p.ty.size)=sub cur.toList 0 (l.length*p.ty.size):=by simp[sub]
        rw[e1];exact b2l j.len j.el f.el _ M
      ·exact c1W (l:=l) (l':=g) (olds:=sub cur.toList 0 (l.length*p.ty.size)) (news:=news) (s:=some ⟨b,0,none⟩) (sLen:=l.length) (sCap:=c') (gone:=[Q]) h hd G hz B V hzc E D S o.type j.len rfl
        (by
         obtain⟨ad2,c2,e2,h5⟩:=j.val;rcases h5 with h5|⟨x,hx1,hx2⟩
         ·exact .inl h5
         ·cases e2;exact .inr ⟨x,hx1,hx2⟩) j.el f (by omega) v
        (fun u w' A=>exec u w' (by rw[F];exact A)) (fun hn=>by cases hn) h1
   ·cases r
  ·cases r
 ·cases r
theorem e2L (h:Pre P Γ β K get n w ρ a) {c:Call} {t:TypeId} {ti:TI} {x:Operand} {F:C} {out:Out} (M:o.op = .call c) (I:c.callee = .builtin .len) (Q:c.argTypes.toList=[t]) (B:c.args.toList=[x]) (O:Γ.tab t=some ti) (R:ρ x = .val (.one F))
 (j:a6W get n ti.sort F=some out):a0l P o a w (a0S β K get n w out):=by
 obtain⟨_,d,_,_,hd,_,_,_,_,_,f,_⟩:=(h.env.tab t ti O).ex;have v:c.argTypes=#[t]:=by cases hq:c.argTypes;simp_all
 have k:c.args=#[x]:=by cases hq:c.args;simp_all
 have A:=h.one R;have exec:∀u,(Builtin.len_ #[t] o.type #[a.eval x]).run P w = .ok u w->(execOp a.eval o).run P w = .ok (.value u) w:=by
  intro u N;refine a5J (b := .len) (s:=fun ty args=>Builtin.len_ c.argTypes ty args) M I (fun ty z args=>rfl) ?_;rw[v,k];simpa using N
 have i:∀(ad:Option Addr) (m q:Nat) (e:TypeId),d = .slice e->a.eval x = .slice ad m q->(execOp a.eval o).run P w = .ok (.value (.int .i64 m)) w:=by
  intro ad m q e E g;subst E;refine exec _ ?_;rw[g];simp[Builtin.len_,run_underlying hd,goInt]
 unfold a6W at j;split at j
 ·rename_i p;simp only[a1C,p]at f;obtain⟨ad,g⟩:=A;exact h.pure1 j (u := .int .i64 0) rfl (i ad 0 0 _ f g) (a0s.refl w)
 ·rename_i p;simp only[a1C,p]at f;obtain⟨ad,m,q,g,L,_⟩:=A;simp only[List.cons.injEq,and_true]at g;subst L;exact h.pure1 j rfl (i ad _ q _ f g) (a0s.refl w)
 ·rename_i p;simp only[a1C,p]at f;split at j
  ·rename_i l J;obtain⟨y,ad,m,q,H,G,g⟩:=A;obtain⟨y',r,D⟩:=h.mr.blk _ _ J;rw[H]at r;cases r;rcases D with⟨rfl,a',rfl⟩|⟨b,cap,cur,T,rfl,_⟩
   ·cases G;exact h.pure1 j rfl (i _ 0 0 _ f g) (a0s.refl w)
   ·cases G;exact h.pure1 j rfl (i _ _ _ _ f g) (a0s.refl w)
  ·cases j
 ·rename_i p;simp only[a1C,p]at f;subst f;refine h.pure1 j rfl (exec _ ?_) (a0s.refl w);rw[show a.eval x = .string _ from A];simp[Builtin.len_,run_underlying hd,goInt]
 ·cases j
theorem c1Y (h:Pre P Γ β K get n w ρ a) {c:Call} {x:Operand} {k:FloatKind} {p q:Nat} {out:Out} (l:o.op = .call c) (g:c.args.toList=[x]) (v:ρ x = .val (.one (.cpx k p q)))
 (f:(c.callee = .builtin .real /\ a0w n true (.one (.flt k p))=some out)∨(c.callee = .builtin .imag /\ a0w n true (.one (.flt k q))=some out)):a0l P o a w (a0S β K get n w out):=by
 have d:c.args=#[x]:=by cases m:c.args;simp_all
 obtain⟨i,j,r,t,m⟩:=h.one v;rcases f with⟨f,hl⟩|⟨f,hl⟩
 ·refine h.pure1 hl (u := .float k i) ⟨_,rfl,t⟩ (w':=w) ?_ (a0s.refl w);refine a5J (b := .real) (s:=fun ty args=>Builtin.real_ c.argTypes ty args) l f (fun ty e args=>rfl) ?_;rw[d,show(#[x].map a.eval)=#[Value.complex k i j]by simp[r]];rfl
 ·refine h.pure1 hl (u := .float k j) ⟨_,rfl,m⟩ (w':=w) ?_ (a0s.refl w);refine a5J (b := .imag) (s:=fun ty args=>Builtin.imag_ c.argTypes ty args) l f (fun ty e args=>rfl) ?_;rw[d,show(#[x].map a.eval)=#[Value.complex k i j]by simp[r]];rfl
theorem c0g (h:Pre P Γ β K get n w ρ a) {c:Call} {x y:Operand} {k:FloatKind} {p q:Nat} {out:Out} (t:o.op = .call c) (f:c.args.toList=[x,y]) (A:ρ x = .val (.one (.flt k p))) (B:ρ y = .val (.one (.flt k q)))
 (m:c.callee = .builtin .complex) (r:a0w n true (.one (.cpx k p q))=some out):a0l P o a w (a0S β K get n w out):=by
 have d:c.args=#[x,y]:=by cases i:c.args;simp_all
 obtain⟨j,z,v⟩:=h.one A;obtain⟨l,g,i⟩:=h.one B;refine h.pure1 r (u := .complex k j l) ⟨_,_,rfl,v,i⟩ (w':=w) ?_ (a0s.refl w);refine a5J (b := .complex) (s:=fun ty args=>Builtin.complex_ c.argTypes ty args) t m (fun ty e args=>rfl) ?_;rw[d,show(#[x,y].map a.eval)=#[Value.float k j,Value.float k l]by simp[z,g]];cases k<;>rfl
theorem b2m (h:Pre P Γ β K get n w ρ a) {c:Call} {x y:Operand} {k:IntKind} {p q:Int} {out:Out} (j:o.op = .call c) (i:c.args.toList=[x,y]) (m:ρ x = .val (.one (.int k p))) (r:ρ y = .val (.one (.int k q)))
 (f:(c.callee = .builtin .max /\ a0w n true (.one (.int k (e8J p q)))=some out)∨(c.callee = .builtin .min /\ a0w n true (.one (.int k (a5e p q)))=some out)):a0l P o a w (a0S β K get n w out):=by
 have d:c.args=#[x,y]:=by cases hq:c.args;simp_all
 have l:a.eval x = .int k p:=h.one m;have g:a.eval y = .int k q:=h.one r;rcases f with⟨f,hl⟩|⟨f,hl⟩
 ·refine h.pure1 hl (u := .int k (e8J p q)) rfl (w':=w) ?_ (a0s.refl w);refine a5J (b := .max) (s:=fun ty args=>Builtin.max_ c.argTypes ty args) j f (fun ty e args=>rfl) ?_;rw[d];simp[l,g,Builtin.max_,Builtin.max2,e8J]
 ·refine h.pure1 hl (u := .int k (a5e p q)) rfl (w':=w) ?_ (a0s.refl w);refine a5J (b := .min) (s:=fun ty args=>Builtin.min_ c.argTypes ty args) j f (fun ty e args=>rfl) ?_;rw[d];simp[l,g,Builtin.min_,Builtin.min2,a5e]
theorem a9F (h:Pre P Γ β K get n w ρ a) {c:Call} {x y:Operand} {k:FloatKind} {p q:Nat} {out:Out} (v:o.op = .call c) (m:c.args.toList=[x,y]) (D:ρ x = .val (.one (.flt k p))) (E:ρ y = .val (.one (.flt k q)))
 (f:(c.callee = .builtin .max /\ a0w n true (.one (.flt k (b1Y k p q)))=some out)∨(c.callee = .builtin .min /\ a0w n true (.one (.flt k (e8K k p q)))=some out)):a0l P o a w (a0S β K get n w out):=by
 have d:c.args=#[x,y]:=by cases t:c.args;simp_all
 obtain⟨B,A,z⟩:=h.one D;obtain⟨C,g,t⟩:=h.one E;rcases f with⟨f,hl⟩|⟨f,hl⟩
 ·obtain⟨r,w',i,j,l⟩:=c8X P k z t w;refine h.pure1 hl (u := .float k r) ⟨_,rfl,l⟩ (w':=w') ?_ j;refine a5J (b := .max) (s:=fun ty args=>Builtin.max_ c.argTypes ty args) v f (fun ty e args=>rfl) ?_;rw[d,show(#[x,y].map a.eval)=#[Value.float k B,Value.float k C]by simp[A,g]];simp[Builtin.max_,i]
 ·obtain⟨r,w',i,j,l⟩:=c8Y P k z t w;refine h.pure1 hl (u := .float k r) ⟨_,rfl,l⟩ (w':=w') ?_ j;refine a5J (b := .min) (s:=fun ty args=>Builtin.min_ c.argTypes ty args) v f (fun ty e args=>rfl) ?_;rw[d,show(#[x,y].map a.eval)=#[Value.float k B,Value.float k C]by simp[A,g]];simp[Builtin.min_,i]
end
theorem All2.ofMap {α d:Type} {f:α→Option d}:∀{as1:List α} {cs:List d},a1q f as1=some cs→All2 (fun a c=>f a=some c) as1 cs
 |[],cs,h=>by simp only[a1q,injEq]at h;subst h;trivial
 | a::as1,cs,h=>by
   simp only[a1q]at h;split at h
   ·rename_i y e;split at h
    ·rename_i b;cases h;exact⟨e,All2.ofMap b⟩
    ·cases h
   ·cases h
theorem PR.ren {β β':Bt} {c:Nat→Option Nat} (a:∀k k' h,c k=some k'→β k=some h→β' k'=some h) {k k' off:Nat} {v:Value} (g:c k=some k') (h:PR β k off v):PR β' k' off v:=by
 obtain⟨y,b,d,e,f⟩:=h;exact⟨y,b,a _ _ _ g d,e,f⟩
theorem b4Z {β β':Bt} {K:Ks} {w:Nat→Option Nat} (e:∀k k' h,w k=some k'→β k=some h→β' k'=some h) {c c':C} {v:Value} (d:c1s w c=some c') (h:CR β K c v):CR β' K c' v:=by
 cases c with
 | ref t k =>
   simp only[c1s,Option.map_eq_some_iff]at d;obtain⟨k',g,rfl⟩:=d;obtain⟨y,a,n,c,l,p⟩:=h;exact⟨y,a,n,c,e _ _ _ g l,p⟩
 | ptr k o =>
   simp only[c1s,Option.map_eq_some_iff]at d;obtain⟨k',g,rfl⟩:=d;exact PR.ren e g h
 | eptr k t i o =>
   simp only[c1s,Option.map_eq_some_iff]at d;obtain⟨k',g,rfl⟩:=d;obtain⟨y,b,n,c,l,p⟩:=h;exact⟨y,b,n,c,e _ _ _ g l,p⟩
 | fn f s =>
   simp only[c1s,Option.map_eq_some_iff]at d;obtain⟨q,g,rfl⟩:=d;obtain⟨cs,l,p⟩:=h;exact⟨cs,l,a1f g p fun k k' u _ r z=>PR.ren e r z⟩
 | aptr k o m j =>
   simp only[c1s,Option.map_eq_some_iff]at d;obtain⟨k',g,rfl⟩:=d;exact⟨h.1,PR.ren e g h.2⟩
 | aeptr k t i o m j =>
   simp only[c1s,Option.map_eq_some_iff]at d;obtain⟨k',g,rfl⟩:=d;obtain⟨x,y,b,n,c,l,p⟩:=h;exact⟨x,y,b,n,c,e _ _ _ g l,p⟩
 | asl t k o m =>
   simp only[c1s,Option.map_eq_some_iff]at d;obtain⟨k',g,rfl⟩:=d;obtain⟨b,c,l,p⟩:=h;exact⟨b,c,PR.ren e g l,p⟩
 |_=>simp only[c1s,injEq]at d;subst d;exact h
theorem a6D {β β':Bt} {K:Ks} {g:Nat→Option Nat} (a:∀k k' h,g k=some k'→β k=some h→β' k'=some h) {c c':W} {v:Value} (b:b6E g c=some c') (h:WR β K c v):WR β' K c' v:=by
 cases c with
 | one c =>
   simp only[b6E,Option.map_eq_some_iff]at b;obtain⟨c',d,rfl⟩:=b;exact b4Z a d h
 | agg cs =>
   simp only[b6E,Option.map_eq_some_iff]at b;obtain⟨i,d,rfl⟩:=b;obtain⟨arr,e,h⟩:=h;exact⟨arr,e,a1f d h fun c c' u _ f j=>b4Z a f j⟩
theorem d7M {β β':Bt} {K:Ks} {g:Nat→Option Nat} (a:∀k k' h,g k=some k'→β k=some h→β' k'=some h) {c c':V} {v:Value} (b:e1H g c=some c') (h:VR β K c v):VR β' K c' v:=by
 cases c with
 | val c =>
   simp only[e1H,Option.map_eq_some_iff]at b;obtain⟨c',d,rfl⟩:=b;exact a6D a d h
 | tup cs =>
   simp only[e1H,Option.map_eq_some_iff]at b;obtain⟨i,d,rfl⟩:=b;obtain⟨arr,e,h⟩:=h;exact⟨arr,e,a1f d h fun c c' u _ f j=>a6D a f j⟩
theorem a8b {β β':Bt} {K:Ks} {g:Nat→Option Nat} {w:World} (f:∀k k' h,g k=some k'→β k=some h→β' k'=some h) {b b':Blk} {y:Hd} (a:b1U g b=some b') (h:BR β K b y w):BR β' K b' y w:=by
 cases b with
 | box cs =>
   simp only[b1U,Option.map_eq_some_iff]at a;obtain⟨i,j,rfl⟩:=a;obtain⟨x,arr,T,e,hh,h⟩:=h;exact⟨x,arr,T,e,hh,a1f j h fun c c' u _ d m=>b4Z f d m⟩
 | arr t l =>
   simp only[b1U,injEq]at a;subst a;exact h
theorem a7F {β β':Bt} {K K':Ks} {f:W→Option W} {rs a:List W} {v:Value} (j:a1q f rs=some a) (h:a6z β K rs v) (i:∀c c' u,c∈rs→f c=some c'→WR β K c u→WR β' K' c' u):VR β' K' (c8T a) v:=by
 have b:=All2.ofMap j;unfold a6z at h;cases rs with
 | nil=>cases a with
   | nil =>
     obtain⟨arr,e,h⟩:=h;refine⟨arr,e,?_⟩;cases hq:arr.toList with
     |nil=>trivial
     |cons _ _=>rw[hq]at h;exact h.elim
   |cons _ _=>exact b.elim
 | cons x r =>
   cases a with
   |nil=>exact b.elim
   | cons m g =>
     cases r with
     | nil=>cases g with
       |nil=>exact i x m v (List.mem_cons_self ..) b.1 h
       |cons _ _=>exact b.2.elim
     | cons y r =>
       cases g with
       |nil=>exact b.2.elim
       | cons y' g =>
         obtain⟨arr,e,h⟩:=h;exact⟨arr,e,a1f j h fun c c' u k d l=>i c c' u k d l⟩
theorem b0N {β β':Bt} {K:Ks} {d:Nat→Option Nat} (b:∀k k' h,d k=some k'→β k=some h→β' k'=some h) {rs a:List W} {v:Value} (f:a1q (b6E d) rs=some a) (h:a6z β K rs v):VR β' K (c8T a) v:=
 a7F f h fun c c' u _ e g=>a6D b e g
theorem c1Z {β:Bt} {K K':Ks} {rs:List W} {v:Value} (h:a6z β K rs v) (a:∀c∈rs,∀u,WR β K c u→WR β K' c u):a6z β K' rs v:=by
 unfold a6z at h ⊢;cases rs with
 | nil =>
   obtain⟨arr,e,h⟩:=h;refine⟨arr,e,?_⟩;cases hq:arr.toList with
   |nil=>trivial
   |cons _ _=>rw[hq]at h;exact h.elim
 | cons x r=>cases r with
   |nil=>exact a x (List.mem_cons_self ..) v h
   | cons y r =>
     obtain⟨arr,e,h⟩:=h;exact⟨arr,e,All2.mono_mem (fun c u b d=>a c b u d) h⟩
theorem b5a {β:Bt} {K K':Ks} {c:C} (a:bare c=true) {v:Value} (h:CR β K c v):CR β K' c v:=by
 cases c<;>first|exact h|(simp[bare]at a)
theorem d7N {β:Bt} {K K':Ks} {c:W} (a:c.cells.all bare=true) {v:Value} (h:WR β K c v):WR β K' c v:=by
 cases c with
 |one c=>exact b5a (by simpa[W.cells]using a) h
 | agg cs =>
   obtain⟨arr,e,h⟩:=h;exact⟨arr,e,All2.mono_mem (fun c u b d=>b5a (List.all_eq_true.1 a c b) d) h⟩
theorem d7O {β:Bt} {K K':Ks} {b:Blk} (d:c1C (some b)=true) {y:Hd} {w:World} (h:BR β K b y w):BR β K' b y w:=by
 cases b with
 | box cs =>
   obtain⟨x,arr,T,e,hh,h⟩:=h;exact⟨x,arr,T,e,hh,All2.mono_mem (fun c u m o=>b5a (List.all_eq_true.1 (by simpa[c1C]using d) c m) o) h⟩
 | arr t l =>
   rcases h with h|⟨x,a,cur,T,e,hh,f,g,j,k⟩
   ·exact .inl h
   ·exact .inr ⟨x,a,cur,T,e,hh,f,g,j,fun i n=>DR.flat t (by simpa[c1C]using d) (k i n)⟩
theorem a0l.mono {P:Program} {o:Oper} {a:Act} {w:World} {c b:Value→World→Prop} (h:a0l P o a w c) (f:∀v w',c v w'→b v w'):a0l P o a w b:=fun d Q e=>h d Q fun v w' g=>e v w' (f v w' g)
structure Fam where
 ι:Type
 inh:Nonempty ι
 mean:ι→a5A
 own:Bool
def DoesCall (P:Program) (f:Nat) (vs:Array Value) (w:World) (Q:Ending→World→Prop):Prop:=
 (d7G P f∧Calls P f vs w Q)∨∃v w',(callFunc f vs).run P w = .ok (.value v) w'∧Q (.returned v) w'
theorem DoesCall.mono {P:Program} {f:Nat} {vs:Array Value} {w:World} {Q a:Ending→World→Prop} (h:DoesCall P f vs w Q) (b:∀e w',Q e w'→a e w'):DoesCall P f vs w a:=by
 rcases h with⟨h1,h2⟩|⟨v,w',h1,h2⟩
 ·exact .inl ⟨h1,h2.mono b⟩
 ·exact .inr ⟨v,w',h1,b _ _ h2⟩
structure a1T (P:Program) (f:Nat) (fam:Fam):Prop where
 own:∀z,(fam.mean z).own=fam.own
 mean:∀(args:List W) (ins:List Blk),(∀z,∃rs outs,(fam.mean z).run args ins=some (true,rs,outs)) →
  ∀(β0:Bt) (K0:Ks) (w0:World) (vs:Array Value),KOK K0 w0→MR β0 K0 (a2d ins) w0→(∀k,ins.length ≤ k→β0 k=none)→All2 (WR β0 K0) args vs.toList →
  DoesCall P f vs w0 fun e w'=>∃z rs outs v β K,(fam.mean z).run args ins=some (true,rs,outs)∧e = .returned v∧Ret ins outs rs β0 K0 w0 v w' β K
def g1f (sm:a5A):Fam:=⟨Unit,⟨()⟩,fun _=>sm,sm.own⟩
theorem c2a {P:Program} {f:Nat} {sm:a5A} (k:c1I P f sm) (j:d7G P f):a1T P f (g1f sm):=
 ⟨fun _=>rfl,fun args ins l β0 K0 w0 vs b c d g=>by
  obtain⟨rs,outs,a⟩:=l ();exact .inl ⟨j,(k args ins rs outs a β0 K0 w0 vs b c d g).mono fun e w' ⟨v,β,K,i,h⟩=>⟨(),rs,outs,v,β,K,a,i,h⟩⟩⟩
section
variable {P:Program} {Γ:Env} {β:Bt} {K:Ks} {get:Get} {n:Nat} {w:World} {ρ:Operand→V} {a:Act} {o:Oper}
theorem a0l.call {f:Nat} {vs:Array Value} {b:Value→World→Prop} (j:(execOp a.eval o).run P w = .ok (.enter f vs) w) (d:Calls P f vs w fun e w'=>∃v,e = .returned v∧b v w'):a0l P o a w b:=by
 intro c Q h;simp only[Oper.wp,j,Oper.upon];refine d.mono fun e w' g=>?_
 obtain⟨v,rfl,i⟩:=g;exact h v w' i
theorem a9G (h:Pre P Γ β K get n w ρ a) {c:Call} {f:Operand} {g:Nat} {b:List Nat} {ws:List W} (s:o.op = .call c) (p:c.callee = .value f) (m:ρ f = .val (.one (.fn g b)))
 (y:a5f (c.args.toList.map ρ)=some ws):∃vs:Array Value,(∀r,(callFunc g vs).run P w=r→(execOp a.eval o).run P w=r)∧All2 (WR β K) (ws++b.map fun k => .one (.ptr k 0)) vs.toList:=by
 obtain⟨cs,e,d⟩:=h.one m;refine⟨(c.args.map a.eval)++cs.toArray,?_,?_⟩
 ·intro r t;rw[←t];simp[execOp,s,resolve,p,e,Deferred.ofValue,invoke]
 ·rw [Array.toList_append];refine All2.append ?_ ?_
  ·have q:All2 (fun(x:V) (u:Value)=>VR β K x u) (c.args.toList.map ρ) (c.args.map a.eval).toList:=by
    rw[Array.toList_map];generalize c.args.toList=l
    induction l with
    |nil=>trivial
    |cons x r j=>exact⟨h.val x,j⟩
   refine a1f y q fun x c u _ i v=>?_
   split at i
   ·cases i;exact v
   ·cases i
  ·simp only[];clear m e
   induction b generalizing cs with
   | nil=>cases cs with
     |nil=>trivial
     |cons _ _=>exact d.elim
   | cons k b j=>cases cs with
     |nil=>exact d.elim
     |cons u cs=>exact⟨d.1,j cs d.2⟩
theorem a9q {g:Nat} {vs:Array Value} (hfn:d7G P g) (w:World):(callFunc g vs).run P w = .ok (.enter g vs) w:=by
 obtain⟨fn,h1,h2,h3⟩:=hfn.body
 have hb:¬fn.body=none:=by intro e;rw[e]at h2;cases h2
 have h3':¬fn.name = "runtime.NumGoroutine" := by simpa using h3
 simp[callFunc,h1,h3',hb]
theorem a9H {g:Nat} {vs:Array Value} {b:Value→World→Prop} (c:∀r,(callFunc g vs).run P w=r→(execOp a.eval o).run P w=r) (d:DoesCall P g vs w fun e w'=>∃v,e = .returned v∧b v w'):a0l P o a w b:=by
 rcases d with⟨h1,h2⟩|⟨v,w',h1,v',h2,h3⟩
 ·exact a0l.call (c _ (a9q h1 w)) h2
 ·cases h2;exact a0l.value (c _ h1) h3
theorem b6T (g:MR β K get w) {ks:List Nat} {c c':C} {v:Value} (a:roC get c=some c') (n:CR β K c v) (d:∀k∈a0P c,k∈ks) (β0:Bt):CR β0 (a4q β K get w ks) c' v:=by
 have:=c1Q g a n d;cases c with
 | ref t k =>
   simp only[roC]at a;split at a
   ·split at a
    ·split at a
     ·cases a;exact this
     ·cases a
    ·cases a
   ·cases a
 | fn f b =>
   cases b with
   | nil=>simp only[roC,injEq]at a;subst a;obtain⟨cs,e,h⟩:=this;cases cs with
     |nil=>exact⟨[],e,trivial⟩
     |cons _ _=>exact h.elim
   |cons k ks=>simp[roC]at a
 |ptr k o=>simp[roC]at a
 |eptr k t i o=>simp[roC]at a
 |aptr k o m j=>simp[roC]at a
 |aeptr k t i o m j=>simp[roC]at a
 |arptr t l i o m j=>simp[roC]at a
 | asl t k o m =>
   simp only[roC]at a;split at a
   ·split at a
    ·cases a;exact this
    ·cases a
   ·cases a
 |_=>simp only[roC,injEq]at a;subst a;exact this
theorem a4E (i:MR β K get w) {ks:List Nat} {c c':W} {v:Value} (a:roW get c=some c') (j:WR β K c v) (g:∀k∈a0M c,k∈ks) (β0:Bt):WR β0 (a4q β K get w ks) c' v:=by
 cases c with
 | one c =>
   simp only[roW,Option.map_eq_some_iff]at a;obtain⟨c',a,rfl⟩:=a;exact b6T i a j (fun k h=>g k (by simpa[a0M,W.cells]using h)) β0
 | agg cs =>
   simp only[roW,Option.map_eq_some_iff]at a;obtain⟨l,a,rfl⟩:=a;obtain⟨arr,e,h⟩:=j;exact⟨arr,e,a1f a h fun c c' u b d m=>b6T i d m (fun k f=>g k (List.mem_flatMap.2 ⟨c,b,f⟩)) β0⟩
def a7p (β:Bt) (n:Nat) (β':Bt):Bt:=fun k=>if n ≤ k then β' (k-n)else β k
theorem b0O:∀(outs:List (Option Blk)) (n:Nat) (k:Nat),a1w (b4N [] outs n) k=if n ≤ k then(outs[k-n]?)else none
 |[],n,k=>by simp[b4N,a1w]
 | b :: r,n,k=>by
   simp only[b4N,a1w];split
   ·rename_i h;have:=a0g h;subst this;simp
   ·rename_i h;have c:n≠k:=fun e=>by subst e;simp at h
    rw[b0O r (n+1) k];by_cases a:n ≤ k
    ·rw[if_pos (by omega),if_pos a];have:k-n=(k-(n+1))+1:=by omega
     rw[this];simp
    ·rw[if_neg (by omega),if_neg a]
theorem a8c {outs:List (Option Blk)} {n:Nat} {get:Get} {k:Nat} {b:Blk} (h:a4p (b4N [] outs n) get k=some b) (c:∀k,n ≤ k→get k=none) :
 (n ≤ k∧a2f outs (k-n)=some b)∨(k<n∧get k=some b):=by
 unfold a4p at h;rw[b0O]at h;by_cases a:n ≤ k
 ·rw[if_pos a]at h;left;refine⟨a,?_⟩;unfold a2f;cases hq:outs[k-n]? with
  |none=>rw[hq]at h;dsimp only at h;rw[c k a]at h;cases h
  |some x=>rw[hq]at h;dsimp only at h;rw[h];rfl
 ·rw[if_neg a]at h;exact .inr ⟨by omega,h⟩
theorem Pre.gnone (h:Pre P Γ β K get n w ρ a):∀k,n ≤ k→get k=none:=by
 intro k d;cases hq:get k with
 |none=>rfl
 | some b =>
   obtain⟨y,c,_⟩:=h.mr.blk k b hq;rw[h.fresh k d]at c;cases c
theorem a3C {f:Nat→Option Nat} {outs a:List (Option Blk)} (h:a1q (a5d f) outs=some a) {i:Nat} {b:Blk} (c:a2f a i=some b):∃d,a2f outs i=some d∧b1U f d=some b:=by
 have k:=All2.ofMap h;unfold a2f at c ⊢;cases hq:a[i]? with
 |none=>rw[hq]at c;cases c
 | some x =>
   rw[hq]at c;have l:x=some b:=c;subst l;obtain⟨y,m,e⟩:=k.get?' hq;rw[m];cases y with
   |none=>simp[a5d]at e
   | some d =>
     refine⟨d,rfl,?_⟩;simp only[a5d,Option.map_eq_some_iff,injEq]at e;obtain⟨n,g,j⟩:=e;rw[g,j]
theorem a6E (h:Pre P Γ β K get n w ρ a) {c:Call} {f:Operand} {g:Nat} {F:List Nat} {ws:List W} {fam:Fam} {frz:Bool} {out:fam.ι→Out} (ho:o.op = .call c) (hc:c.callee = .value f) (hf:ρ f = .val (.one (.fn g F)))
 (hw:a5f (c.args.toList.map ρ)=some ws) (hfam:a1T P g fam) (s:∀z,a5D (fam.mean z) frz get n (ws++F.map fun k => .one (.ptr k 0))=some (out z)) (hok:∀z,(out z).ok=true):a0l P o a w (fun v w'=>∃z,a0S β K get n w (out z) v w'):=by
 obtain⟨_,hmean⟩:=hfam;obtain⟨vs,r,hvs⟩:=a9G h ho hc hf hw;generalize (ws++F.map fun k=>W.one (C.ptr k 0))=args at s hvs;simp only[a5D]at s;obtain⟨z0⟩:=fam.inh;obtain⟨p,B⟩:∃p,a1q (roW get) args=some p:=by
  cases hq:a1q (roW get) args with
  |none=>have:=s z0;rw[hq]at this;cases this
  |some x=>exact⟨x,rfl⟩
 have hrun:∀z,∃rs outs,(fam.mean z).run p []=some (true,rs,outs):=by
  intro z;have d:=s z;rw[B]at d;dsimp only at d;split at d
  case h_2=>cases d
  rename_i ok rs outs hr;have hok':ok=true:=by
   have Z:=hok z;split at d
   ·cases d
   ·split at d
    ·split at d
     ·have I:=Option.some.inj d;rw[←I]at Z;exact Z
     ·cases d
    ·split at d
     ·have I:=Option.some.inj d;rw[←I]at Z;exact Z
     ·cases d
  subst hok';exact⟨rs,outs,hr⟩
 refine a9H r ?_;have hK1:=a3Q (β:=β) (get:=get) (ks:=args.flatMap a0M) h.kok;have hargs':All2 (WR (fun _=>none) (a4q β K get w (args.flatMap a0M))) p vs.toList:=
  a1f B hvs fun c c' u hmem G hu=>a4E h.mr G hu (fun k E=>List.mem_flatMap.2 ⟨c,hmem,E⟩) _
 have hM0:MR (fun _=>none) (a4q β K get w (args.flatMap a0M)) (a2d []) w:=⟨fun k b e=>by simp[a2d]at e,fun k k' b b' _ _ _ e=>by simp[a2d]at e,fun k b _ _ e=>by simp[a2d]at e⟩;refine(hmean p [] hrun (fun _=>none) _ w vs hK1 hM0 (fun _ _=>rfl) hargs').mono ?_;rintro e w' ⟨z,rs,outs,v,β',K',hrz,rfl,A⟩;refine⟨v,rfl,z,?_⟩;have s:=s z;generalize out z=out at s;rw[B]at s;dsimp only at s;rw[hrz]at s;dsimp only at s;have q:∀x,¬Own (fun _=>none) (a2d []) x:=by rintro x ⟨k,b,y,e,_⟩;simp[a2d]at e
 have L:∀b,b<w.heap.size→¬Jk K b→w'.heap[b]?=w.heap[b]?:=fun b O hj=>A.fr.block b O fun d=>d.elim (q b) fun I=>hj (c1O.1 I)
 have N:∀x,Own β' (a2f outs) x→w.heap.size ≤ x:=fun x r=>(A.own x r).resolve_left (q x)
 have hgn:=h.gnone;have hfr:Fr (d7F β K get) w w':=⟨A.fr.os,A.fr.tape,A.fr.output,A.fr.size,fun b O hn=>L b O fun d=>hn (.inr d)⟩;have main:∀(K2:Ks),(∀b x,w.heap.size ≤ b→K2 b=some x→∃cur T fz,w'.heap[b]?=some (.cells cur T fz)∧(x.1=false→cur=x.2)∧(x.1=true→fz=(0,0)∧All2 VJ x.2.toList cur.toList)) →
  ∃Q:Ks,KLe K Q∧KOK Q w'∧(∀x,x<w.heap.size→Q x=K x)∧(∀x,w.heap.size ≤ x→Q x=K2 x):=by
  intro K2 I;refine⟨fun b=>if w.heap.size ≤ b then K2 b else K b,?_,?_,fun x r=>?_,fun x r=>?_⟩
  ·intro b arr e;have:=h.kok.lt e;dsimp only;rw[if_neg (by omega)];exact e
  ·refine⟨?_,h.kok.gk.mono fun b arr e=>?_⟩
   ·intro b arr e
    try dsimp only at e
    split at e
    ·exact I b arr ‹_› e
    ·exact A.kok.ato b arr (A.kle b arr (a0J b arr e))
   ·have:=h.kok.lt e
    try dsimp only
    rw[if_neg (by omega)];exact e
  ·dsimp only;rw[if_neg (by omega)]
  ·dsimp only;rw[if_pos r]
 have Y:(args.all fun w=>w.cells.all fun c=>!c1B c)=true→a4q β K get w (args.flatMap a0M)=K:=by
  intro hn;have E:args.flatMap a0M=[]:=by
   rw[List.flatMap_eq_nil_iff];intro u hu;have hu2:=List.all_eq_true.1 hn u hu;obtain⟨u',hu',V⟩:∃u',u'∈p∧roW get u=some u':=by
    obtain⟨i,hi,he⟩:=List.mem_iff_getElem.1 hu;obtain⟨u',d,I⟩:=(All2.ofMap B).get? (List.getElem?_eq_getElem hi);rw[he]at I;exact⟨u',List.mem_of_getElem? d,I⟩
   unfold a0M;rw[List.flatMap_eq_nil_iff];intro cc G;have Z:=List.all_eq_true.1 hu2 cc G;have h4:∃c',roC get cc=some c':=by
    cases u with
    | one c0 =>
      simp only[W.cells,List.mem_singleton]at G;subst G;simp only[roW,Option.map_eq_some_iff]at V;exact⟨V.choose,V.choose_spec.1⟩
    | agg cs =>
      simp only[roW,Option.map_eq_some_iff]at V;obtain⟨cs',h5,_⟩:=V;obtain⟨i,hi,he⟩:=List.mem_iff_getElem.1 (show cc∈cs from G);obtain⟨c',_,h6⟩:=(All2.ofMap h5).get? (List.getElem?_eq_getElem hi);rw[he]at h6;exact⟨c',h6⟩
   obtain⟨c',h4⟩:=h4;cases cc with
   |ref t k=>simp[c1B]at Z
   |ptr k o=>simp[roC]at h4
   |eptr k t i o=>simp[roC]at h4
   |aptr k o m j=>simp[roC]at h4
   |aeptr k t i o m j=>simp[roC]at h4
   |arptr t l i o m j=>simp[roC]at h4
   |asl t k o m=>simp[c1B]at Z
   | fn f F=>cases F with
     |nil=>rfl
     |cons _ _=>simp[roC]at h4
   |_=>rfl
  rw[E];funext b;unfold a4q;cases hq:K b with
  |some _=>rfl
  | none =>
    dsimp only;rw[if_neg];rintro⟨k,E,_⟩;simp at E
 split at s
 ·cases s
 ·rename_i J;split at s
  ·
   split at s
   ·rename_i rs' X;cases s;have hnr:(args.all fun w=>w.cells.all fun c=>!c1B c)=true:=by simpa using J
    have hKe:=Y hnr;obtain⟨Q,H,U,M,hhi⟩:=main (a4q β' K' (a2f outs) w' (rs.flatMap a0M)) (fun b arr _ e=>(a3Q A.kok).ato b arr e);have S:KLe (a4q β' K' (a2f outs) w' (rs.flatMap a0M)) Q:=by
     intro b arr e;by_cases O:w.heap.size ≤ b
     ·rw[hhi b O];exact e
     ·rw[M b (by omega)];unfold a4q at e;split at e
      ·rename_i x r;cases e;rcases A.knew b _ r with d|d|d
       ·rw[hKe]at d;exact d
       ·exact absurd d (q b)
       ·omega
      ·split at e
       ·rename_i hex;obtain⟨k,_,c,y,d,I,Z⟩:=hex;have:=N b ⟨k,c,y,d,I,Z⟩;omega
       ·cases e
    refine⟨β,Q,BLe.refl β,H,U,?_,?_,h.fresh,le_refl _,hfr,fun x r => .inl r,(fun b arr e=>by
     by_cases O:w.heap.size ≤ b
     ·exact .inr (.inr O)
     ·rw[M b (by omega)]at e;exact .inl e),fun _ _=>rfl⟩
    ·refine a7F X A.out fun c c' u hm G hu=>?_
     exact WR.mono (BLe.refl β) S (a4E A.mr G hu (fun k E=>List.mem_flatMap.2 ⟨c,hm,E⟩) β)
    ·refine h.mr.step (BLe.refl β) H fun k b e => .inl ⟨e,fun x y f g=>?_⟩
     have r:=h.mr.lt ⟨k,b,y,e,f,g⟩;exact⟨L x r (h.mr.nj e f g),by rw[M x r];exact h.mr.ro k b y x e f g⟩
   ·cases s
  ·split at s
   ·rename_i rs' outs' X D;cases s;obtain⟨Q,H,U,M,hhi⟩:=main K' (fun b arr _ e=>A.kok.ato b arr e);have R:KLe K' Q∨((∀c∈rs,c.cells.all bare=true)∧∀b∈outs,c1C b=true):=by
     simp only[Bool.or_eq_true,and_eq_true]at J;rcases J with hnr|⟨⟨_,d⟩,I⟩
     ·left;have hKe:=Y hnr;intro b arr e;by_cases O:w.heap.size ≤ b
      ·rw[hhi b O];exact e
      ·rw[M b (by omega)];rcases A.knew b arr e with d|d|d
       ·rw[hKe]at d;exact d
       ·exact absurd d (q b)
       ·omega
     ·exact .inr ⟨List.all_eq_true.1 d,List.all_eq_true.1 I⟩
    have hout:a6z β' Q rs v:=c1Z A.out fun c hc u hu=>by
     rcases R with S|⟨d,_⟩
     ·exact WR.mono (BLe.refl _) S hu
     ·exact d7N (d c hc) hu
    have hblk:∀i b y,a2f outs i=some b→BR β' K' b y w'→BR β' Q b y w':=by
     intro i b y hi O;rcases R with S|⟨_,I⟩
     ·exact O.mono (BLe.refl _) S
     ·refine d7O (I _ ?_) O;unfold a2f at hi;cases hq:outs[i]? with
      |none=>rw[hq]at hi;cases hi
      |some x=>rw[hq]at hi;have r:x=some b:=hi;subst r;exact List.mem_of_getElem? hq
    have hσ:∀k k' y,(fun i=>some (n+i)) k=some k'→β' k=some y→a7p β n β' k'=some y:=by
     intro k k' y e hy;cases e;unfold a7p;rw[if_pos (by omega),Nat.add_sub_cancel_left];exact hy
    have hble:BLe β (a7p β n β'):=by
     intro k y e;unfold a7p;rw[if_neg]
     ·exact e
     ·intro E;rw[h.fresh k E]at e;cases e
    refine⟨a7p β n β',Q,hble,H,U,b0N hσ X hout,?_,?_,by simp,hfr,?_,(fun b arr e=>by
     by_cases O:w.heap.size ≤ b
     ·exact .inr (.inr O)
     ·rw[M b (by omega)]at e;exact .inl e),fun k E=>by unfold a7p;rw[if_neg (by omega)]⟩
    ·refine h.mr.step hble H ?_;intro k b e;rcases a8c e hgn with⟨E,e1⟩|⟨E,e1⟩
     ·right;obtain⟨b0,e2,e3⟩:=a3C D e1;obtain⟨y,hy,hbr⟩:=A.mr.blk _ _ e2;refine⟨y,by unfold a7p;rw[if_pos E];exact hy,a8b hσ e3 (hblk _ _ _ e2 hbr),fun x r=>?_⟩;have hxs:=N x ⟨_,b0,y,e2,hy,r⟩;refine⟨by rw[hhi x hxs];exact A.mr.ro _ _ _ _ e2 hy r,fun k' b' y' e' f' g'=>?_⟩;rcases a8c e' hgn with⟨hk',e1'⟩|⟨hk',e1'⟩
      ·obtain⟨b0',e2',_⟩:=a3C D e1';unfold a7p at f';rw[if_pos hk']at f';have:=A.mr.sep _ _ _ _ _ _ x e2' e2 f' hy g' r;omega
      ·unfold a7p at f';rw[if_neg (by omega)]at f';have:=h.mr.lt ⟨k',b',y',e1',f',g'⟩;omega
     ·refine .inl ⟨e1,fun x y f g=>?_⟩;have r:=h.mr.lt ⟨k,b,y,e1,f,g⟩;exact⟨L x r (h.mr.nj e1 f g),by rw[M x r];exact h.mr.ro k b y x e1 f g⟩
    ·intro k E;dsimp only at E;unfold a7p;rw[if_pos (by omega)];exact A.fresh _ (by omega)
    ·rintro x ⟨k,b,y,e,f,g⟩;rcases a8c e hgn with⟨E,e1⟩|⟨E,e1⟩
     ·right;obtain⟨b0,e2,e3⟩:=a3C D e1;unfold a7p at f;rw[if_pos E]at f;exact N x ⟨_,b0,y,e2,f,g⟩
     ·left;unfold a7p at f;rw[if_neg (by omega)]at f;exact⟨k,b,y,e1,f,g⟩
   ·cases s
theorem c2b (h:Pre P Γ β K get n w ρ a) {c:Call} {f:Operand} {g:Nat} {b:List Nat} {ws:List W} {sm:a5A} {frz:Bool} {out:Out} (q:o.op = .call c) (l:c.callee = .value f) (m:ρ f = .val (.one (.fn g b)))
 (r:a5f (c.args.toList.map ρ)=some ws) (j:Γ.sem g=some sm) (p:a5D sm frz get n (ws++b.map fun k => .one (.ptr k 0))=some out) (i:out.ok=true):a0l P o a w (a0S β K get n w out):=by
 obtain⟨d,e⟩:=h.env.sem g sm j;exact(a6E h q l m r (c2a d e) (out:=fun _=>out) (fun _=>p) (fun _=>i)).mono fun v w' ⟨_,h⟩=>h
end
theorem a2j (get:Get):∀(f:Nat) (d c:List Nat),c.Nodup→(a2q get f d c).Nodup
 |0,_,c,h=>by simpa[a2q]using h
 |f+1,[],c,h=>by simpa[a2q]using h
 | f + 1,k::d,c,h=>by
   unfold a2q;split
   ·exact a2j get f d c h
   ·rename_i l;have i:(c++[k]).Nodup:=by
     rw[List.nodup_append];refine⟨h,by simp,?_⟩;intro a j b g;simp only[List.mem_singleton]at g;subst g;intro e;subst e;exact a3A l j
    split
    ·exact a2j get f _ _ i
    ·exact a2j get f _ _ i
theorem a5i:∀{ks:List Nat} {k i j:Nat},a2r ks k i=some j→∃p,j=i+p∧ks[p]?=some k
 |[],_,_,_,h=>by simp[a2r]at h
 | x::r,k,i,j,h=>by
   unfold a2r at h;split at h
   ·rename_i b;have:=a0g b;cases h;exact⟨0,rfl,by simp[this]⟩
   ·obtain⟨p,c,a⟩:=a5i h;exact⟨p+1,by omega,by simpa using a⟩
theorem b0P:∀{ks:List Nat} {n p k:Nat},ks[p]?=some k→a5C ks n p=k
 |[],_,_,_,h=>by simp at h
 |x::r,n,0,k,h=>by simpa[a5C]using h
 |x::r,n,p+1,k,h=>by simp only[a5C];exact b0P (by simpa using h)
theorem b6U:∀{ks:List Nat} {n p:Nat},ks.length ≤ p→a5C ks n p=n+(p-ks.length)
 |[],n,p,_=>by simp[a5C]
 |x::r,n,0,h=>by simp at h
 | x::r,n,p+1,h=>by
   simp only[a5C];rw[b6U (by simpa using h)];simp
theorem b2n:∀{ks:List Nat} {outs:List (Option Blk)} {n k:Nat},ks.length ≤ outs.length→(∀x∈ks,x<n)→ks.Nodup →
 (∀(p:Nat),ks[p]?=some k→a1w (b4N ks outs n) k=outs[p]?)∧(k ∉ ks→a1w (b4N ks outs n) k=if n ≤ k then outs[ks.length+(k-n)]? else none)
 | [],outs,n,k,_,_,_=>by
   refine⟨fun p h=>by simp at h,fun _=>?_⟩;rw[b0O];simp
 |x::r,[],n,k,h,_,_=>by simp at h
 | x :: r,b::outs,n,k,h,hlt,hnd=>by
   obtain⟨d,f⟩:=b2n (ks:=r) (outs:=outs) (n:=n) (k:=k) (by simpa using h) (fun y j=>hlt y (List.mem_cons_of_mem _ j)) (List.nodup_cons.1 hnd).2;have l:=hlt x (List.mem_cons_self ..);refine⟨fun p c=>?_,fun g=>?_⟩
   ·cases p with
    | zero =>
      simp only[List.getElem?_cons_zero,injEq]at c;subst c;simp[b4N,a1w]
    | succ p =>
      simp only[List.getElem?_cons_succ]at c;have a:x≠k:=fun e=>by
       subst e;exact(List.nodup_cons.1 hnd).1 (List.mem_of_getElem? c)
      simp only[b4N,a1w,a1u a,List.getElem?_cons_succ];exact d p c
   ·have a:x≠k:=fun e=>g (by subst e;exact List.mem_cons_self ..)
    simp only[b4N,a1w,a1u a];rw[f fun i=>g (List.mem_cons_of_mem _ i)];split
    ·have:(x::r).length+(k-n)=(r.length+(k-n))+1:=by simp;omega
     rw[this];simp
    ·rfl
section
variable {P:Program} {Γ:Env} {β:Bt} {K:Ks} {get:Get} {n:Nat} {w:World} {ρ:Operand→V} {a:Act} {o:Oper}
theorem a5j (h:Pre P Γ β K get n w ρ a) {c:Call} {f:Operand} {g:Nat} {U:List Nat} {ws:List W} {fam:Fam} {out:fam.ι→Out} (ho:o.op = .call c) (hc:c.callee = .value f) (hf:ρ f = .val (.one (.fn g U)))
 (hw:a5f (c.args.toList.map ρ)=some ws) (hfam:a1T P g fam) (hl:∀z,a3M (fam.mean z) get n (ws++U.map fun k => .one (.ptr k 0))=some (out z)) (hok:∀z,(out z).ok=true):a0l P o a w (fun v w'=>∃z,a0S β K get n w (out z) v w'):=by
 obtain⟨_,hmean⟩:=hfam;obtain⟨vs,Y,hvs⟩:=a9G h ho hc hf hw;generalize (ws++U.map fun k=>W.one (C.ptr k 0))=args at hl hvs;simp only[a3M]at hl;generalize hks:a2q get a1D (args.flatMap a0M) []=ks at hl;have hnd:ks.Nodup:=by rw[←hks];exact a2j _ _ _ _ (by simp)
 obtain⟨z0⟩:=fam.inh;obtain⟨A,I⟩:∃A,a1q (b6E fun k=>a2r ks k 0) args=some A:=by
  cases hq:a1q (b6E fun k=>a2r ks k 0) args with
  |none=>have:=hl z0;rw[hq]at this;cases this
  |some x=>exact⟨x,rfl⟩
 obtain⟨ins,M⟩:∃ins,a1q (fun k=>(get k).bind (b1U fun k=>a2r ks k 0)) ks=some ins:=by
  cases hq:a1q (fun k=>(get k).bind (b1U fun k=>a2r ks k 0)) ks with
  |none=>have:=hl z0;rw[I,hq]at this;cases this
  |some x=>exact⟨x,rfl⟩
 have hl:∀z,∃rs outs Z j,(fam.mean z).run A ins=some (true,rs,outs)∧Nat.ble ks.length outs.length=true∧a1q (b6E fun i=>some (a5C ks n i)) rs=some Z∧a1q (a5d fun i=>some (a5C ks n i)) outs=some j ∧
  out z=⟨true,c8T Z,b4N ks j n,n+(outs.length-ks.length)⟩:=by
  intro z;have d:=hl z;rw[I,M]at d;dsimp only at d;split at d
  case h_2=>cases d
  rename_i ok rs outs Q;split at d
  case h_2=>cases d
  rename_i Z j G X q;have B:=Option.some.inj d;have s:=hok z;rw[←B]at s;dsimp only at s;subst s;exact⟨rs,outs,Z,j,Q,G,X,q,B.symm⟩
 have hinl:ins.length=ks.length:=a2i M;have V:∀p b,a2d ins p=some b→∃k l y,ks[p]?=some k∧get k=some l∧b1U (fun k=>a2r ks k 0) l=some b∧β k=some y∧BR β K l y w:=by
  intro p b e;obtain⟨k,m,S⟩:=(All2.ofMap M).get?' e;cases L:get k with
  |none=>rw[L]at S;cases S
  | some l =>
    rw[L]at S;obtain⟨y,t,E⟩:=h.mr.blk k l L;exact⟨k,l,y,m,L,S,t,E⟩
 have N:∀(p k:Nat),ks[p]?=some k→∃l y,get k=some l∧β k=some y:=by
  intro p k m;obtain⟨b,_,S⟩:=(All2.ofMap M).get? m;cases L:get k with
  |none=>rw[L]at S;cases S
  | some l =>
    obtain⟨y,t,_⟩:=h.mr.blk k l L;exact⟨l,y,rfl,t⟩
 have hklt:∀x∈ks,x<n:=by
  intro x Y;obtain⟨p,hp,he⟩:=List.mem_iff_getElem.1 Y;obtain⟨l,y,_,t⟩:=N p x (by rw[List.getElem?_eq_getElem hp,he]);rcases Nat.lt_or_ge x n with d|d
  ·exact d
  ·rw[h.fresh x d]at t;cases t
 have hσ0:∀k k' y,(fun k=>a2r ks k 0) k=some k'→β k=some y→(fun i=>(ks[i]?).bind β) k'=some y:=by
  intro k k' y e t;obtain⟨p,hp,m⟩:=a5i e;have:k'=p:=by omega
  subst this;dsimp only;rw[m];exact t
 have hM0:MR (fun i=>(ks[i]?).bind β) K (a2d ins) w:=by
  refine⟨fun p b e=>?_,fun p p' b b' y y' x e e' f f' g g'=>?_,fun p b y x e f g=>?_⟩
  ·obtain⟨k,l,y,m,L,S,t,E⟩:=V p b e;exact⟨y,by show(ks[p]?).bind β=some y;rw[m];exact t,a8b hσ0 S E⟩
  ·obtain⟨k,l,z,m,L,S,t,E⟩:=V p b e;obtain⟨k',T,z',hk',hg',hb',hy',hbr'⟩:=V p' b' e'
   try dsimp only at f f'
   rw[m]at f;rw[hk']at f';have hkk:=h.mr.sep k k' l T y y' x L hg' f f' g g';subst hkk;exact(List.getElem?_inj (List.getElem?_eq_some_iff.1 m).1 hnd).1 (m.trans hk'.symm)
  ·obtain⟨k,l,z,m,L,S,t,E⟩:=V p b e
   try dsimp only at f
   rw[m]at f;exact h.mr.ro k l y x L f g
 have hargs':All2 (WR (fun i=>(ks[i]?).bind β) K) A vs.toList:=a1f I hvs fun c c' u _ hcc hu=>a6D hσ0 hcc hu
 refine a9H Y ?_;refine(hmean A ins (fun z=>by obtain⟨rs,outs,_,_,d,_⟩:=hl z;exact⟨rs,outs,d⟩) _ K w vs h.kok hM0 (fun k m=>by rw[List.getElem?_eq_none (by omega)];rfl) hargs').mono ?_;rintro e w' ⟨z,rs,outs,v,β',K',hrz,rfl,D⟩;refine⟨v,rfl,z,?_⟩;obtain⟨rs2,outs2,Z,j,Q,G,X,q,hout⟩:=hl z;rw[hrz]at Q;cases Q;rw[hout];have G:ks.length ≤ outs.length:=by simpa using G
 have O:∀x,Own (fun i=>(ks[i]?).bind β) (a2d ins) x→∃(p k:Nat) (l:Blk) (y:Hd),ks[p]?=some k∧get k=some l∧β k=some y∧y.b=some x:=by
  rintro x ⟨p,b,y,e,f,g⟩;obtain⟨k,l,z,m,L,S,t,E⟩:=V p b e
  try dsimp only at f
  rw[m]at f;exact⟨p,k,l,y,m,L,f,g⟩
 have hold:∀k b y x,get k=some b→β k=some y→y.b=some x→k ∉ ks→¬Own (fun i=>(ks[i]?).bind β) (a2d ins) x:=by
  intro k b y x e f g m ho';obtain⟨p,k',l,y',d,B,s,H⟩:=O x ho';have:=h.mr.sep k k' b l y y' x e B f s g H;subst this;exact m (List.mem_of_getElem? d)
 have hgn:=h.gnone;have r:∀k,k<n→(fun k=>if n ≤ k then β' (ks.length+(k-n))else β k) k=β k:=fun k m=>by dsimp only;rw[if_neg (by omega)]
 have R:∀k,n ≤ k→(fun k=>if n ≤ k then β' (ks.length+(k-n))else β k) k=β' (ks.length+(k-n)):=fun k m=>by dsimp only;rw[if_pos m]
 generalize hβe:(fun k=>if n ≤ k then β' (ks.length+(k-n))else β k)=β'' at r R;have hble:BLe β β'':=by
  intro k y e;rw[r k]
  ·exact e
  ·rcases Nat.lt_or_ge k n with d|d
   ·exact d
   ·rw[h.fresh k d]at e;cases e
 have hσ:∀k k' y,(fun i=>some (a5C ks n i)) k=some k'→β' k=some y→β'' k'=some y:=by
  intro k k' y e t;cases e;rcases Nat.lt_or_ge k ks.length with d|d
  ·have m:=List.getElem?_eq_getElem d;rw[b0P m];obtain⟨l,z,B,s⟩:=N k _ m;have H:=D.ble k z (by show(ks[k]?).bind β=some z;rw[m];exact s);rw[t]at H;cases H;rw[r _ (hklt _ (List.mem_of_getElem? m))];exact s
  ·rw[b6U d,R _ (by omega)];have:ks.length+(n+(k-ks.length)-n)=k:=by omega
   rw[this];exact t
 have J:∀k b,a4p (b4N ks j n) get k=some b→(∃(p:Nat) (l:Blk),((∃hp:ks[p]?=some k,True)∨(n ≤ k∧p=ks.length+(k-n)))∧a2f outs p=some l∧b1U (fun i=>some (a5C ks n i)) l=some b∧β'' k=β' p)∨(k ∉ ks∧k<n∧get k=some b):=by
  intro k b e;have hll:ks.length ≤ j.length:=by rw[a2i q];exact G
  obtain⟨hl1,hl2⟩:=b2n (ks:=ks) (outs:=j) (n:=n) (k:=k) hll hklt hnd;by_cases m:k∈ks
  ·obtain⟨p,hp,he⟩:=List.mem_iff_getElem.1 m;have hpk:ks[p]?=some k:=by rw[List.getElem?_eq_getElem hp,he]
   have d:=hl1 p hpk;unfold a4p at e;rw[d]at e;have hpo:p<j.length:=by omega
   rw[List.getElem?_eq_getElem hpo]at e;have hgo:a2f j p=some b:=by unfold a2f;rw[List.getElem?_eq_getElem hpo];exact e
   obtain⟨l,s,H⟩:=a3C q hgo;left;refine⟨p,l,.inl ⟨hpk,trivial⟩,s,H,?_⟩;obtain⟨y,t,_⟩:=D.mr.blk p l s;rw[t];exact hσ p k y (by show some (a5C ks n p)=some k;rw[b0P hpk]) t
  ·have d:=hl2 m;unfold a4p at e;rw[d]at e;by_cases F:n ≤ k
   ·rw[if_pos F]at e;left;cases hq:j[ks.length+(k-n)]? with
    |none=>rw[hq]at e;dsimp only at e;rw[hgn k F]at e;cases e
    | some x =>
      rw[hq]at e;dsimp only at e;subst e;have hgo:a2f j (ks.length+(k-n))=some b:=by unfold a2f;rw[hq];rfl
      obtain⟨l,s,H⟩:=a3C q hgo;exact⟨_,l,.inr ⟨F,rfl⟩,s,H,R k F⟩
   ·rw[if_neg F]at e;exact .inr ⟨m,by omega,e⟩
 have hsame:∀(k k' p:Nat),((∃hp:ks[p]?=some k,True)∨(n ≤ k∧p=ks.length+(k-n)))→((∃hp:ks[p]?=some k',True)∨(n ≤ k'∧p=ks.length+(k'-n)))→k=k':=by
  intro k k' p d B;rcases d with⟨d,_⟩|⟨d,s⟩<;>rcases B with⟨B,_⟩|⟨B,H⟩
  ·rw[d]at B;cases B;rfl
  ·have:=(List.getElem?_eq_some_iff.1 d).1;omega
  ·have:=(List.getElem?_eq_some_iff.1 B).1;omega
  ·omega
 refine⟨β'',K',hble,D.kle,D.kok,b0N hσ X D.out,?_,?_,by dsimp only;omega,?_,?_,(fun b arr e=>by
  rcases D.knew b arr e with d|d|d
  ·exact .inl d
  ·obtain⟨p,k,l,y,_,B,s,H⟩:=O b d;exact .inr (.inl ⟨k,l,y,B,s,H⟩)
  ·exact .inr (.inr d)),r⟩
 ·refine h.mr.step hble D.kle ?_;intro k b e;rcases J k b e with⟨p,l,hp,d,B,s⟩|⟨m,F,e1⟩
  ·right;obtain⟨y,t,E⟩:=D.mr.blk p l d;refine⟨y,by rw[s];exact t,a8b hσ B E,fun x Y=>⟨D.mr.ro p l y x d t Y,fun k' b' y' e' f' g'=>?_⟩⟩;rcases J k' b' e' with⟨p',T,hp',h1',h2',h3'⟩|⟨hk',hkn',e1'⟩
   ·rw[h3']at f';have:=D.mr.sep p' p T l y' y x h1' d f' t g' Y;subst this;exact hsame k' k p' hp' hp
   ·rw[r k' hkn']at f';exfalso;rcases D.own x ⟨p,l,y,d,t,Y⟩with h5|h5
    ·exact hold k' b' y' x e1' f' g' hk' h5
    ·have:=h.mr.lt ⟨k',b',y',e1',f',g'⟩;omega
  ·refine .inl ⟨e1,fun x y f g=>?_⟩;have Y:=h.mr.lt ⟨k,b,y,e1,f,g⟩;have hno:=hold k b y x e1 f g m;have hnj:¬Jk K x:=h.mr.nj e1 f g;refine⟨D.fr.block x Y fun d=>d.elim hno hnj,?_⟩;cases hq:K' x with
   |none=>rfl
   | some arr =>
     rcases D.knew x arr hq with d|d|d
     ·rw[h.mr.ro k b y x e1 f g]at d;cases d
     ·exact absurd d hno
     ·omega
 ·intro k m;dsimp only at m;rw[R k (by omega)];exact D.fresh _ (by omega)
 ·refine⟨D.fr.os,D.fr.tape,D.fr.output,D.fr.size,fun x Y hn=>D.fr.block x Y fun d=>hn (d.elim (fun d => .inl ?_) .inr)⟩;obtain⟨p,k,l,y,_,B,s,H⟩:=O x d;exact⟨k,l,y,B,s,H⟩
 ·rintro x ⟨k,b,y,e,f,g⟩;rcases J k b e with⟨p,l,hp,d,B,s⟩|⟨m,F,e1⟩
  ·rw[s]at f;rcases D.own x ⟨p,l,y,d,f,g⟩with h5|h5
   ·obtain⟨_,k',T,y',_,B,s,H⟩:=O x h5;exact .inl ⟨k',T,y',B,s,H⟩
   ·exact .inr h5
  ·rw[r k F]at f;exact .inl ⟨k,b,y,e1,f,g⟩
theorem c0h (h:Pre P Γ β K get n w ρ a) {c:Call} {f:Operand} {g:Nat} {b:List Nat} {ws:List W} {sm:a5A} {out:Out} (q:o.op = .call c) (l:c.callee = .value f) (m:ρ f = .val (.one (.fn g b)))
 (r:a5f (c.args.toList.map ρ)=some ws) (j:Γ.sem g=some sm) (p:a3M sm get n (ws++b.map fun k => .one (.ptr k 0))=some out) (i:out.ok=true):a0l P o a w (a0S β K get n w out):=by
 obtain⟨d,e⟩:=h.env.sem g sm j;exact(a5j h q l m r (c2a d e) (out:=fun _=>out) (fun _=>p) (fun _=>i)).mono fun v w' ⟨_,h⟩=>h
end
section
variable {P:Program} {Γ:Env} {β:Bt} {K:Ks} {get:Get} {n:Nat} {w:World} {ρ:Operand->V} {a:Act} {o:Oper}
theorem d7P {c:Call} {v:V} (h:c.args.toList.map ρ=[v]):∃x,c.args.toList=[x] /\ ρ x=v:=by
 cases hq:c.args.toList with
 |nil=>rw[hq]at h;simp at h
 | cons x r=>cases r with
   |nil=>rw[hq]at h;exact⟨x,rfl,by simpa using h⟩
   |cons _ _=>rw[hq]at h;simp at h
theorem c0i {c:Call} {v u:V} (h:c.args.toList.map ρ=[v,u]):∃x y,c.args.toList=[x,y] /\ ρ x=v /\ ρ y=u:=by
 cases hq:c.args.toList with
 |nil=>rw[hq]at h;simp at h
 | cons x r=>cases r with
   |nil=>rw[hq]at h;simp at h
   | cons y r=>cases r with
     |nil=>rw[hq]at h;exact⟨x,y,rfl,by simpa using h⟩
     |cons _ _=>rw[hq]at h;simp at h
theorem c0j (h:Pre P Γ β K get n w ρ a) {c:Call} {b:Builtin} {out:Out} (u:o.op = .call c) (m:c.callee = .builtin b)
 (e:a2P Γ get n b c.argTypes.toList (c.args.toList.map ρ)=some out) (C:out.ok=true):a0l P o a w (a0S β K get n w out):=by
 unfold a2P at e;split at e
 ·rename_i H d;obtain⟨x,g,f⟩:=d7P d;split at e
  ·rename_i t z;split at e
   ·rename_i ti D;exact e2L h u m z g D f e
   ·cases e
  ·cases e
 ·rename_i s x d;obtain⟨xs,G,g,f,i⟩:=c0i d;split at e
  ·rename_i E L z;split at e
   ·rename_i B;have:=a0g B;subst this;split at e
    ·rename_i J D;split at e
     ·rename_i v;split at e
      ·rename_i I F;split at e
       ·rename_i j;simp only[and_eq_true]at j;have A:c.argTypes=#[E,E]:=by cases hq:c.argTypes;simp_all
        have l:c.args=#[xs,G]:=by cases hq:c.args;simp_all
        exact c1X h u m A l D v F (a0g j.1) (by simpa[Nat.blt_eq]using j.2) f i e C
       ·cases e
      ·cases e
     ·cases e
    ·cases e
   ·cases e
  ·cases e
 ·rename_i d;obtain⟨x,g,f⟩:=d7P d;exact c1Y h u g f (.inl ⟨m,e⟩)
 ·rename_i d;obtain⟨x,g,f⟩:=d7P d;exact c1Y h u g f (.inr ⟨m,e⟩)
 ·rename_i k p k' q d;obtain⟨x,y,g,f,i⟩:=c0i d;split at e
  ·rename_i r;have:k=k':=by simpa[a1b]using r
   subst this;exact c0g h u g f i m e
  ·cases e
 ·rename_i k p k' q d;obtain⟨x,y,g,f,i⟩:=c0i d;split at e
  ·rename_i r;have:k=k':=by simpa[a2o]using r
   subst this;exact b2m h u g f i (.inl ⟨m,e⟩)
  ·cases e
 ·rename_i k p k' q d;obtain⟨x,y,g,f,i⟩:=c0i d;split at e
  ·rename_i r;have:k=k':=by simpa[a2o]using r
   subst this;exact b2m h u g f i (.inr ⟨m,e⟩)
  ·cases e
 ·rename_i k p k' q d;obtain⟨x,y,g,f,i⟩:=c0i d;split at e
  ·rename_i r;have:k=k':=by simpa[a1b]using r
   subst this;exact a9F h u g f i (.inl ⟨m,e⟩)
  ·cases e
 ·rename_i k p k' q d;obtain⟨x,y,g,f,i⟩:=c0i d;split at e
  ·rename_i r;have:k=k':=by simpa[a1b]using r
   subst this;exact a9F h u g f i (.inr ⟨m,e⟩)
  ·cases e
 ·cases e
theorem a7a {c:C} {b:Bool} (h:b0D c=some b):c = .bool b:=by
 cases c<;>simp[b0D]at h
 subst h;rfl
set_option maxHeartbeats 2000000 in
theorem c2c (h:Pre P Γ β K get n w ρ a) {out:Out} (z:act Γ o ρ get n=some out) (B:out.ok=true):a0l P o a w (a0S β K get n w out):=by
 unfold act at z;split at z
 ·rename_i x A;cases z;exact c1N h (.inl A)
 ·rename_i x A;cases z;exact c1N h (.inr A)
 ·rename_i c x y A;split at z
  ·rename_i t I;cases z;exact d7H h A I
  ·cases z
 ·rename_i t A;split at z
  ·rename_i ti D;cases z;exact c9a h A D
  ·cases z
 ·rename_i t x A;split at z
  ·rename_i u R;split at z
   ·rename_i C;cases z;exact e2K h A R C
   ·cases z
  ·cases z
 ·rename_i t S A;split at z
  ·rename_i ti D;split at z
   ·rename_i C;split at z
    ·rename_i ps F;split at z
     ·rename_i cs O J;exact c9l h A D C F O J z
     ·cases z
    ·cases z
   ·rename_i m C;split at z
    ·rename_i L F H;exact b4X h A D C H F z
    ·cases z
   ·cases z
  ·cases z
 ·rename_i t len S A;split at z
  ·rename_i ti D;split at z
   ·rename_i C;split at z
    ·rename_i L H;split at z
     ·rename_i ps F;split at z
      ·rename_i G;simp only[and_eq_true]at G;obtain⟨⟨⟨M,N⟩,h3⟩,h4⟩:=G;split at z
       ·rename_i l V;cases z;exact b0M h A D C H F h4 (by simpa using M) (a0g N) (by simpa[Nat.blt_eq]using h3) V
       ·cases z
      ·cases z
     ·cases z
    ·cases z
   ·cases z
  ·cases z
 ·rename_i t x A;split at z
  ·rename_i ti D;exact d7I h A D z
  ·cases z
 ·rename_i t x y A;split at z
  ·rename_i ti u D R;exact c9c h A D R z
  ·cases z
 ·rename_i x A;split at z
  ·rename_i E;cases z;exact a3T h A E (.inl ⟨_,_,rfl⟩)
  ·rename_i E;cases z;exact a3T h A E (.inr (.inl ⟨_,_,_,_,rfl⟩))
  ·rename_i E;cases z;exact a3T h A E (.inr (.inr (.inl ⟨_,_,_,_,rfl⟩)))
  ·rename_i E;cases z;exact a3T h A E (.inr (.inr (.inr ⟨_,_,rfl⟩)))
  ·cases z
 ·rename_i op t x y t' A;split at z
  ·rename_i c d E X;split at z
   ·rename_i p q F hq;split at z
    ·rename_i ti D;split at z
     ·rename_i e C U;rw[a7a F]at E;rw[a7a hq]at X;exact d7K h A E X D C U z
     ·cases z
    ·cases z
   ·split at z
    ·rename_i ok e U;exact c9k h A E X U z B
    ·cases z
  ·rename_i cs ds E X;split at z
   ·rename_i e D U;exact d7L h A E X D U z
   ·cases z
  ·cases z
 ·rename_i op t x A;split at z
  ·rename_i c E;split at z
   ·rename_i c' I;exact d7J h A E I z
   ·cases z
  ·cases z
 ·rename_i src dst x A;split at z
  ·rename_i si di c C hd E;split at z
   ·rename_i ok c' I;exact c0c h A C hd E I z B
   ·split at z
    ·rename_i s I;exact c9m h A C hd E I z
    ·cases z
  ·cases z
 ·rename_i t xl xc A;split at z
  ·rename_i ti kl l kc c D hxl hxc;split at z
   ·rename_i C;split at z
    ·rename_i L H;split at z
     ·rename_i G;simp only[and_eq_true]at G;obtain⟨⟨M,N⟩,h3⟩:=G;cases z;simp only[and_eq_true,decide_eq_true_eq,beq_iff_eq]at B;have:=b2k h A D C H (by simpa using M) (a0g N) (by simpa[Nat.blt_eq]using h3) hxl hxc B.1.1 (by have:=b0G B.1.2;have Z:=B.1.1;rwa [Int.toNat_of_nonneg Z]at this) B.2;intro Y Q hn;refine this Y Q fun v w' F=>hn v w' ?_
      obtain⟨β',K',F⟩:=F;exact⟨β',K',F.ble,F.kle,F.kok,F.vr,F.mr,F.fresh,F.le,F.fr,F.own,F.knew,F.dom⟩
     ·cases z
    ·cases z
   ·cases z
  ·cases z
 ·rename_i t x lo hi mx A;split at z
  ·rename_i ti D;split at z
   ·rename_i s C E;split at z
    ·rename_i l r M N;exact b4U h A D C E M N z B
    ·cases z
   ·rename_i ty s C E;split at z
    ·rename_i L H;split at z
     ·rename_i hsz;split at z
      ·rename_i l r M N;exact c0d h A D C H (a0g hsz) E M N z B
      ·cases z
     ·cases z
    ·cases z
   ·rename_i ty k C E;split at z
    ·rename_i L H;exact b4V h A D C H E z B
    ·cases z
   ·rename_i m C;split at z
    ·split at z
     ·rename_i L H;exact c9e h A D C H z
     ·cases z
    ·cases z
   ·cases z
  ·cases z
 ·rename_i t x f A;split at z
  ·rename_i ti D;split at z
   ·rename_i C;split at z
    ·rename_i off size ag J;split at z
     ·cases z
     ·rename_i Z;exact b2h h A D C J (fun e=>by subst e;simp at Z) z
    ·cases z
   ·cases z
  ·cases z
 ·rename_i t x f A;split at z
  ·rename_i ti D;split at z
   ·rename_i C;split at z
    ·rename_i off size ag J;split at z
     ·rename_i cs E;split at z
      ·rename_i u R;exact c9d h A D C J E R z
      ·cases z
     ·cases z
    ·cases z
   ·cases z
  ·cases z
 ·rename_i t x i A;split at z
  ·rename_i ti D;split at z
   ·rename_i C;split at z
    ·rename_i L H;exact b2i h A D C H z B
    ·cases z
   ·rename_i m C;split at z
    ·rename_i L H;exact c1T h A D C H z B
    ·cases z
   ·cases z
  ·cases z
 ·rename_i t x i A;split at z
  ·rename_i ti D;split at z
   ·rename_i C;split at z
    ·rename_i s k j E hj;exact c9f h A D C E hj z B
    ·cases z
   ·cases z
  ·cases z
 ·rename_i fn first T A
  split at z
  ·rename_i f J;split at z
   ·rename_i ks hk;exact b4W h A rfl J hk z
   ·cases z
  ·cases z
 ·rename_i x i A;split at z
  ·rename_i ws E;split at z
   ·rename_i u R;exact c0b h A E R z
   ·cases z
  ·cases z
 ·rename_i c A;split at z
  ·rename_i b I;exact c0j h A I z B
  ·rename_i f I;split at z
   ·rename_i g T ws J hw;unfold b1Z at z;split at z
    ·rename_i sm W;split at z
     ·exact c0h h A I J hw W z B
     ·exact c2b h A I J hw W z B
    ·cases z
   ·cases z
  ·cases z
 ·cases z
end
theorem a1O {α b:Type} {f g:α->Option b}:∀{l:List α},(∀x∈l,f x=g x)->a1q f l=a1q g l
 |[],_=>rfl
 | x::r,h=>by
   simp only[a1q];rw[h x (List.mem_cons_self ..),a1O fun y a=>h y (List.mem_cons_of_mem _ a)]
theorem b5b {Γ:Env} {o:Oper} {ρ ρ':Operand->V} {get:Get} {n:Nat} (h:∀x∈o.op.operands,ρ x=ρ' x):act Γ o ρ get n=act Γ o ρ' get n:=by
 obtain⟨dst,q,type,pos,e,guard⟩:=o;cases q<;>simp only[Op.operands]at h<;>simp only[act]
 case build t ps=>
  have:a1q (fun p=>match ρ p.2 with|.val w=>some (p.1,w)|.tup _=>none) ps.toList=a1q (fun p=>match ρ' p.2 with|.val w=>some (p.1,w)|.tup _=>none) ps.toList:=
   a1O fun p d=>by rw[h p.2 (by simpa using⟨p.1,by simpa using d⟩)]
  erw [this];first|done|rfl
 case buildSlice t n ps=>
  have:a1q (fun p=>match ρ p.2 with|.val w=>some (p.1,w)|.tup _=>none) ps.toList=a1q (fun p=>match ρ' p.2 with|.val w=>some (p.1,w)|.tup _=>none) ps.toList:=
   a1O fun p d=>by rw[h p.2 (by simpa using⟨p.1,by simpa using d⟩)]
  erw [this];first|done|rfl
 case makeFunc fn first captured=>
  have:a1q (fun x=>match ρ x with|.val (.one (.ptr k 0))=>some k|_=>none) captured.toList=a1q (fun x=>match ρ' x with|.val (.one (.ptr k 0))=>some k|_=>none) captured.toList:=
   a1O fun p d=>by rw[h p (by simp;exact .inr (by simpa using d))]
  erw [this];first|done|rfl
 case call c=>
  have a:c.args.toList.map ρ=c.args.toList.map ρ':=List.map_congr_left fun x j=>h x (by simp[Call.operands];exact .inr (by simpa using j))
  rw[a];cases hc:c.callee with
  |value f=>have l:ρ f=ρ' f:=h f (by simp[Call.operands,hc]);simp only[l]
  |invoke r m=>rfl
  |builtin b=>rfl
 case slice t x lo hi mx=>
  have j:ρ x=ρ' x:=h x (by simp);have i:lo.map ρ=lo.map ρ':=by cases lo with
   |none=>rfl
   |some y=>simp[h y (by simp)]
  have g:hi.map ρ=hi.map ρ':=by cases hi with
   |none=>rfl
   |some y=>simp[h y (by simp)]
  rw[j,i,g]
 all_goals (first|rfl|(simp_all;done))
section
variable {get get':Get}
theorem a8d {c:C} (h:∀k∈a0P c,get k=get' k):roC get c=roC get' c:=by
 cases c with
 |ref t k=>simp only[roC];rw[h k (by simp[a0P])]
 |asl t k o m=>simp only[roC];rw[h k (by simp[a0P])]
 |fn f a=>cases a<;>rfl
 |_=>rfl
theorem c2d {c:W} (h:∀k∈a0M c,get k=get' k):roW get c=roW get' c:=by
 cases c with
 |one c=>simp only[roW];rw[a8d fun k a=>h k (by simpa[a0M,W.cells]using a)]
 |agg cs=>simp only[roW];rw[a1O (f:=roC get) (l:=cs) fun c b=>a8d fun k a=>h k (List.mem_flatMap.2 ⟨c,b,a⟩)]
theorem a9I {cs:List C} (h:∀k∈cs.flatMap a0P,get k=get' k):a1q (roC get) cs=a1q (roC get') cs:=
 a1O fun c a=>a8d fun k b=>h k (List.mem_flatMap.2 ⟨c,a,b⟩)
theorem a4Z {t:Ty}:∀{ps:List (Nat×W)} {l:List (Den t)},(∀k∈ps.flatMap (fun p=>a0M p.2),get k=get' k)->a1R get t l ps=a1R get' t l ps
 |[],l,_=>rfl
 | (i,u)::ps,l,h=>by
   simp only[a1R];rw[a9I (get':=get') (fun k a=>h k (List.mem_flatMap.2 ⟨(i,u),List.mem_cons_self ..,a⟩))];have c:∀l,a1R get t l ps=a1R get' t l ps:=fun l=>a4Z fun k a=>h k (by
    obtain⟨p,b,a⟩:=List.mem_flatMap.1 a;exact List.mem_flatMap.2 ⟨p,List.mem_cons_of_mem _ b,a⟩)
   simp only[c]
theorem a5K {t:Ty} {c:C} (h:∀k∈a0P c,get k=get' k):a3s get t c=a3s get' t c:=by
 cases c with
 |ref t k=>simp only[a3s];rw[h k (by simp[a0P])]
 |_=>rfl
theorem b0Q {n:Nat} {a:Bool} {size:Nat} {v:V} (h:∀k∈a1n v,get k=get' k):a1c get n a size v=a1c get' n a size v:=by
 cases v with
 |tup ws=>rfl
 | val u=>cases u with
   |agg cs=>rfl
   | one c=>cases c with
     |ptr k off=>simp only[a1c];rw[h k (by simp[a1n,a0M,W.cells,a0P])]
     |eptr k t i off=>simp only[a1c];rw[h k (by simp[a1n,a0M,W.cells,a0P])]
     |aptr k off m j=>simp only[a1c];rw[h k (by simp[a1n,a0M,W.cells,a0P])]
     |aeptr k t i off m j=>simp only[a1c];rw[h k (by simp[a1n,a0M,W.cells,a0P])]
     |_=>rfl
theorem a9r {n:Nat} {size:Nat} {u:W} {v:V} (h:∀k∈a1n v++a0M u,get k=get' k):a1i get n size u v=a1i get' n size u v:=by
 have b:a1q (roC get) u.cells=a1q (roC get') u.cells:=a9I fun k a=>h k (List.mem_append_right _ a)
 cases v with
 |tup ws=>rfl
 | val x=>cases x with
   |agg cs=>rfl
   | one c=>cases c with
     |ptr k off=>simp only[a1i];rw[h k (by simp[a1n,a0M,W.cells,a0P])]
     |eptr k t i off=>simp only[a1i];rw[h k (by simp[a1n,a0M,W.cells,a0P]),b]
     |aptr k off m j=>simp only[a1i];rw[h k (by simp[a1n,a0M,W.cells,a0P])]
     |aeptr k t i off m j=>simp only[a1i];rw[h k (by simp[a1n,a0M,W.cells,a0P])]
     |rptr t l i off=>cases t<;>rfl
     |_=>rfl
theorem b2o {n:Nat} {s:Srt} {c:C} (h:∀k∈a0P c,get k=get' k):a6W get n s c=a6W get' n s c:=by
 cases c with
 |ref t k=>cases s<;>simp only[a6W];rw[h k (by simp[a0P])]
 |_=>cases s<;>rfl
theorem a8e {n:Nat} {t:Ty} {bytes:Nat} {s x:C} (h:∀k∈a0P s++a0P x,get k=get' k):a2t get n t bytes s x=a2t get' n t bytes s x:=by
 unfold a2t;rw[a5K (get':=get') fun k a=>h k (List.mem_append_right _ a)];cases s with
 |ref t k=>dsimp only;rw[h k (by simp[a0P])]
 |_=>rfl
theorem a7q {Γ:Env} {n:Nat} {b:Builtin} {ts:List Nat} {args:List V} (h:∀k∈args.flatMap a1n,get k=get' k):a2P Γ get n b ts args=a2P Γ get' n b ts args:=by
 have g:∀c,args=[.val (.one c)]->∀s,a6W get n s c=a6W get' n s c:=fun c e s=>b2o fun k f=>h k (by subst e;simpa[a1n,a0M,W.cells]using f)
 have i:∀c d,args=[.val (.one c),.val (.one d)]->∀t a,a2t get n t a c d=a2t get' n t a c d:=fun c d e t a=>a8e fun k f=>h k (by subst e;simpa[a1n,a0M,W.cells]using f)
 unfold a2P;split
 ·simp only[g _ rfl]
 ·simp only[i _ _ rfl]
 ·rfl
 ·rfl
 ·rfl
 ·rfl
 ·rfl
 ·rfl
 ·rfl
 ·simp_all
theorem a4u (get:Get):∀(f:Nat) (b a:List Nat) (k:Nat),k∈a->k∈a2q get f b a
 |0,_,a,k,h=>by simpa[a2q]using h
 |f+1,[],a,k,h=>by simpa[a2q]using h
 | f+1,j::b,a,k,h=>by
   unfold a2q;split
   ·exact a4u get f b a k h
   ·split
    ·exact a4u get f _ _ k (List.mem_append_left _ h)
    ·exact a4u get f _ _ k (List.mem_append_left _ h)
theorem a3V:∀(f:Nat) (b a:List Nat),(∀k∈a2q get f b a,get k=get' k)->a2q get f b a=a2q get' f b a
 |0,_,a,h=>rfl
 |f+1,[],a,h=>rfl
 | f + 1,j::b,a,h=>by
   have c:b0E a j=false->get j=get' j:=by
    intro e;refine h j ?_;unfold a2q;rw[e];dsimp only;split
    ·exact a4u get f _ _ j (List.mem_append_right _ (by simp))
    ·exact a4u get f _ _ j (List.mem_append_right _ (by simp))
   unfold a2q at h ⊢;cases hq:b0E a j with
   | true =>
     rw[hq]at h;exact a3V f b a h
   | false =>
     rw[hq]at h;dsimp only at h ⊢;rw[c hq]at h ⊢;split at h
     ·exact a3V f _ _ h
     ·exact a3V f _ _ h
theorem b0R {sm:a5A} {n:Nat} {args:List W} (h:∀k∈a2q get a1D (args.flatMap a0M) [],get k=get' k):a3M sm get n args=a3M sm get' n args:=by
 unfold a3M;rw[<- a3V _ _ _ h];dsimp only;rw[a1O (f:=fun k=>(get k).bind (b1U fun k=>a2r (a2q get a1D (args.flatMap a0M) []) k 0)) fun k a=>by rw[h k a]]
theorem b2p {sm:a5A} {frz:Bool} {n:Nat} {args:List W} (h:∀k∈args.flatMap a0M,get k=get' k):a5D sm frz get n args=a5D sm frz get' n args:=by
 unfold a5D;rw[a1O (f:=roW get) fun c a=>c2d fun k b=>h k (List.mem_flatMap.2 ⟨c,a,b⟩)]
theorem a9J:∀{vs:List V} {ws:List W},a5f vs=some ws->vs.flatMap a1n=ws.flatMap a0M
 |[],ws,h=>by simp only[a5f,a1q,injEq]at h;subst h;rfl
 | v :: vs,ws,h=>by
   unfold a5f at h;simp only[a1q]at h;split at h
   ·rename_i y b;split at h
    ·rename_i ys a;cases h;have:=a9J (vs:=vs) (ws:=ys) a;cases v with
     |tup _=>cases b
     |val u=>cases b;simp[a1n,this]
    ·cases h
   ·cases h
theorem a8f:∀(a:List Nat),((a.map fun k=>W.one (.ptr k 0)).flatMap a0M)=a
 |[]=>rfl
 |k::r=>by simp only[List.map_cons,List.flatMap_cons,a8f r];rfl
theorem c0k {Γ:Env} {t:Nat} {x:Operand} {v:V} {k:Nat} (h:k∈a1n (b0H Γ t x v)):k∈a1n v:=by
 unfold b0H at h;split at h
 ·exact h
 ·split at h
  ·split at h
   ·split at h
    ·simp[a1n,a0M,W.cells,a0P]at h
    ·exact h
   ·exact h
  ·exact h
theorem b5c {Γ:Env} {o:Oper} {ρ:Operand->V} {n:Nat} (h:∀k∈a7D o ρ get,get k=get' k):act Γ o ρ get n=act Γ o ρ get' n:=by
 obtain⟨dst,I,type,pos,m,guard⟩:=o;cases I<;>simp only[a7D]at h<;>simp only[act]
 case load t x=>
  split
  ·exact b0Q h
  ·rfl
 case store t x y=>
  split
  ·rename_i ti u K v;refine a9r fun k a=>h k ?_
   rcases List.mem_append.1 a with a|a
   ·exact List.mem_append_left _ a
   ·exact List.mem_append_right _ (c0k (Γ:=Γ) (t:=t) (x:=y) (by rw[v];exact a))
  ·rfl
 case convert src dst x=>
  split
  ·rename_i z w c G hd l;split
   ·rfl
   ·have:b9X Γ get z w c=b9X Γ get' z w c:=by
     unfold b9X;rw[a5K (get':=get') fun k a=>h k (by rw[l];simpa[a1n,a0M,W.cells]using a)]
    rw[this]
  ·rfl
 case indexAddr t x i =>
  split
  ·split
   ·split
    ·split
     ·rfl
     ·rename_i t k _ j l D;rw[l]at h;rw[h k (by simp[a1n,a0M,W.cells,a0P])]
     ·rfl
     ·rfl
    ·rfl
   ·rfl
   ·rfl
  ·rfl
 case slice t x lo D mx=>
  split
  ·split
   ·rfl
   ·rfl
   ·rename_i L k G l;rw[l]at h;split
    ·unfold a7C;rw[h k (by simp[a1n,a0M,W.cells,a0P])]
    ·rfl
   ·rfl
   ·rfl
  ·rfl
 case buildSlice t len parts =>
  split
  ·split
   ·split
    ·split
     ·rename_i ps s;split
      ·rw[a4Z (get':=get') fun k a=>h k ?_];obtain⟨p,E,a⟩:=List.mem_flatMap.1 a;obtain⟨q,F,r⟩:=b6N s p E;refine List.mem_flatMap.2 ⟨q,F,?_⟩;split at r
       ·rename_i u v;cases r;rw[v];exact a
       ·cases r
      ·rfl
     ·rfl
    ·rfl
   ·rfl
  ·rfl
 case call c=>
  split
  ·rename_i b J;refine a7q fun k a=>h k ?_
   refine List.mem_append_left _ (List.mem_append_left _ ?_);simpa[List.flatMap_map]using a
  ·rename_i f B;split
   ·rename_i g e ws C H;rw[B]at h;dsimp only at h;have d:(c.args.toList.flatMap fun x=>a1n (ρ x))++a1n (ρ f)=(ws++e.map fun k=>W.one (.ptr k 0)).flatMap a0M:=by
     have A:=a9J H;rw[List.flatMap_append,<- A,a8f,C,List.flatMap_map];simp[a1n,a0M,W.cells,a0P]
    rw[d]at h;unfold b1Z;split
    ·split
     ·exact b0R fun k a=>h k (List.mem_append_right _ a)
     ·exact b2p fun k a=>h k (List.mem_append_left _ a)
    ·rfl
   ·rfl
  ·rfl
end
end Go.Proofs.YtjomnmoekchfeaaGreatDoor.AM
