/- Texts of one proof, joined: an abstract machine for the program, its functions evaluated, plain lemmas. Conditions: those that each lemma names. -/
import Derived.Calls
import Derived.Orders
import Derived.Below
import Derived.KernelRfl
import Derived.Laws.CopyRow
import Derived.Laws.AppendOwn
import Derived.WalkKit
import Derived.Laws.MakeOwn
import Derived.Laws.OwnMore
import Derived.Laws.StructEq
import Derived.Laws.FloatArith
import Derived.Laws.FloatBits
import Derived.Laws.ComplexArith
import Derived.WalkLawsBesides
import Derived.WalkSpells
import Derived.Laws.BytesString
set_option linter.unusedVariables false
set_option linter.unusedSimpArgs false
namespace Go.Proofs.YtjomnmoekchfeaaGreatDoor.AM
open Bool (and_eq_true)
open List (length_append)
open Nat (le_refl beq)
open Option.some (injEq)
open Go
inductive Ty where
 |bool
 |int (k:IntKind)
 |flt (k:FloatKind)
 |cpx (k:FloatKind)
 |str
 |slice (t:Ty)
 |nil
 |cons (a b:Ty)
 |jnk
def Ty.isJ:Ty->Bool
 |.jnk=>true
 |_=>false
@[reducible] def Den:Ty->Type
 |.bool=>Bool
 |.int _=>Int
 |.flt _=>Nat
 |.cpx _=>Nat×Nat
 |.str=>ByteArray
 |.slice t=>List (Den t)
 |.nil=>Unit
 |.cons a b=>Den a×Den b
 |.jnk=>Unit
def Ty.size:Ty->Nat
 |.nil=>0
 |.cons a b=>a.size+b.size
 |_=>1
def zero:(t:Ty)->Den t
 |.bool=>false
 |.int _=>0
 |.flt _=>0
 |.cpx _=>(0,0)
 |.str=>ByteArray.empty
 |.slice _=>[]
 |.nil=>()
 |.cons a b=>(zero a,zero b)
 |.jnk=>()
def a3i:(a b:Ty)->Option (PLift (a=b))
 |.bool,.bool=>some ⟨rfl⟩
 |.int k,.int k'=>if h:k=k' then some ⟨by rw[h]⟩else none
 |.flt k,.flt k'=>if h:k=k' then some ⟨by rw[h]⟩else none
 |.cpx k,.cpx k'=>if h:k=k' then some ⟨by rw[h]⟩else none
 |.str,.str=>some ⟨rfl⟩
 | .slice a,.slice b=>match a3i a b with
   |some ⟨h⟩=>some ⟨by rw[h]⟩
   |none=>none
 |.nil,.nil=>some ⟨rfl⟩
 |.jnk,.jnk=>some ⟨rfl⟩
 | .cons a b,.cons a' b'=>match a3i a a',a3i b b' with
   |some ⟨h⟩,some ⟨h'⟩=>some ⟨by rw[h,h']⟩
   |_,_=>none
 |_,_=>none
inductive C where
 |pois
 |bool (b:Bool)
 |int (k:IntKind) (n:Int)
 |flt (k:FloatKind) (b:Nat)
 |cpx (k:FloatKind) (a b:Nat)
 |str (s:ByteArray)
 |nil (t:Ty)
 |sl (t:Ty) (l:List (Den t))
 |ref (t:Ty) (key:Nat)
 |ptr (key off:Nat)
 |eptr (key:Nat) (t:Ty) (i off:Nat)
 |rptr (t:Ty) (l:List (Den t)) (i off:Nat)
 |fn (f:Nat) (caps:List Nat)
 |aptr (key off m j:Nat)
 |aeptr (key:Nat) (t:Ty) (i off m j:Nat)
 |arptr (t:Ty) (l:List (Den t)) (i off m j:Nat)
 |asl (t:Ty) (key off m:Nat)
 |junk
inductive W where
 |one (c:C)
 |agg (cs:List C)
def W.cells:W->List C
 |.one c=>[c]
 |.agg cs=>cs
inductive V where
 |val (w:W)
 |tup (ws:List W)
def pois:V := .val (.one .pois)
inductive Blk where
 |box (cs:List C)
 |arr (t:Ty) (l:List (Den t))
abbrev Get:=Nat->Option Blk
def enc:(t:Ty)->Den t->List C
 |.bool,b=>[.bool b]
 |.int k,n=>[.int k n]
 |.flt k,b=>[.flt k b]
 |.cpx k,p=>[.cpx k p.1 p.2]
 |.str,s=>[.str s]
 |.slice t,l=>[.sl t l]
 |.nil,_=>[]
 |.cons a b,p=>enc a p.1++enc b p.2
 |.jnk,_=>[.junk]
def dec:(t:Ty)->List C->Option (Den t×List C)
 |.bool,.bool b::r=>some (b,r)
 |.int k,.int k' n::r=>if k=k' then some (n,r)else none
 |.flt k,.flt k' n::r=>if k=k' then some (n,r)else none
 |.cpx k,.cpx k' a b::r=>if k=k' then some ((a,b),r)else none
 |.str,.str s::r=>some (s,r)
 | .slice t,.sl t' l::r=>match a3i t' t with
   |some ⟨h⟩=>some (h ▸ l,r)
   |none=>none
 |.slice _,.nil _::r=>some ([],r)
 |.nil,r=>some ((),r)
 | .cons a b,r=>match dec a r with
   | some (x,r')=>match dec b r' with
     |some (y,r'')=>some ((x,y),r'')
     |none=>none
   |none=>none
 |_,_=>none
inductive Srt where
 |slice
 |array (n:Nat)
 |string
 |struct
 |bool
 |int (k:IntKind)
 |float (k:FloatKind)
 |complex (k:FloatKind)
 |other
structure TI where
 size:Nat
 bytes:Nat
 agg:Bool
 ty:Ty
 zero:List C
 fields:List (Nat×Nat×Bool)
 elem:Nat
 sort:Srt
structure a6e where
 own:Bool
 run:List W->List Blk->Option (Bool×List W×List (Option Blk))
structure St where
 tmps:List (Nat×V)
 mem:List (Nat×Option Blk)
 n:Nat
 m:Nat
inductive Ex where
 |normal
 |exit (id:Nat)
 |ret
inductive Cv where
 |nil (t:Nat)
 |boxNil (t off:Nat)
 |frz (t:Nat)
 |frzBox (t:Nat)
 |forget (t:Nat)
 |sl (t:Nat)
 |boxSl (t off:Nat)
 |jnk (t:Nat)
 |mv (t off j:Nat)
 |frzCell (t off:Nat)
structure a4J where
 live:List Nat
 own:List Cv
 ex:Nat
 past:List Nat
 pown:List Cv
 run:St->Option (Bool×Bool×St×St)
structure Env where
 tab:Nat->Option TI
 sem:Nat->Option a6e
 eqT:Nat->Bool
 nt:Nat
 res:List ResultVar
 frz:List Nat
 cut:List (Nat×(List Nat×List Cv))
 loops:List (Nat×a4J)
 past:List (Nat×(List Nat×List Cv))
 rown:List Cv
def a1D {α:Type}:List (Nat×α)->Nat->Option α
 |[],_=>none
 | (k,x)::r,t=>match beq k t with
   |true=>some x
   |false=>a1D r t
def St.get (s:St) (k:Nat):Option Blk:=match a1D s.mem k with
 |some b=>b
 |none=>none
def St.tmpV (s:St) (t:Nat):V:=match a1D s.tmps t with
 |some v=>v
 |none=>pois
def St.put (s:St) (t:Nat) (v:V):St:={ s with tmps:=(t,v)::s.tmps }
def St.putO (s:St) (d:Option Nat) (v:V):St:=match d with
 |some t=>s.put t v
 |none=>s
def b7M:Value->C
 |.bool b => .bool b
 |.int k n => .int k n
 |.float k b => .flt k b
 |.complex k a b => .cpx k a b
 |.string s => .str s
 |_ => .pois
def b7N:Value->V
 |.agg cs => .val (.agg (cs.toList.map b7M))
 |v => .val (.one (b7M v))
def St.val (s:St):Operand->V
 |.tmp t=>s.tmpV t
 |.const v=>b7N v
 |.func f => .val (.one (.fn f []))
 |.global _=>pois
def qn:FloatKind->Nat
 |.f32=>2143289344
 |.f64=>9221120237041090560
def a0a (op:BinOp) (k:FloatKind) (a b:Nat):Nat:=
 (match op with
  |.add=>k.format.add a b
  |.sub=>k.format.sub a b
  |.mul=>k.format.mul a b
  |_=>k.format.div a b).getD (qn k)
def a1X (op:BinOp) (k:IntKind) (a b:Int):Int:=
 let x:=BitVec.ofInt k.bits a
 let y:=BitVec.ofInt k.bits b
 k.wrap ((match op with
  |.and=>x &&& y
  |.or=>x ||| y
  |.xor=>x ^^^ y
  |_=>x &&& ~~~y).toNat:Int)
def feq (k:FloatKind) (a b:Nat):Bool:=k.format.order a b==some .eq
def flt (k:FloatKind) (a b:Nat):Bool:=k.format.order a b==some .lt
def fgt (k:FloatKind) (a b:Nat):Bool:=k.format.order a b==some .gt
def a0O (a b:ByteArray):Bool:=a.toList==b.toList
def f7A (op:BinOp) (k:IntKind) (a b:Int):Option (Bool×C):=
 match op with
 |.add=>some (true,.int k (k.wrap (a+b)))
 |.sub=>some (true,.int k (k.wrap (a-b)))
 |.mul=>some (true,.int k (k.wrap (a*b)))
 |.quo=>some (b != 0,.int k (k.wrap (a.tdiv b)))
 |.rem=>some (b != 0,.int k (a.tmod b))
 |.and=>some (true,.int k (a1X .and k a b))
 |.or=>some (true,.int k (a1X .or k a b))
 |.xor=>some (true,.int k (a1X .xor k a b))
 |.andNot=>some (true,.int k (a1X .andNot k a b))
 |.eql=>some (true,.bool (a==b))
 |.neq=>some (true,.bool (a != b))
 |.lss=>some (true,.bool (decide (a<b)))
 |.leq=>some (true,.bool (decide (a<=b)))
 |.gtr=>some (true,.bool (decide (a>b)))
 |.geq=>some (true,.bool (decide (a ≥ b)))
 |_=>none
def f7B (op:BinOp) (k:FloatKind) (a b:Nat):Option C:=
 match op with
 |.add=>some (.flt k (a0a .add k a b))
 |.sub=>some (.flt k (a0a .sub k a b))
 |.mul=>some (.flt k (a0a .mul k a b))
 |.quo=>some (.flt k (a0a .quo k a b))
 |.eql=>some (.bool (feq k a b))
 |.neq=>some (.bool (!feq k a b))
 |.lss=>some (.bool (flt k a b))
 |.leq=>some (.bool (flt k a b||feq k a b))
 |.gtr=>some (.bool (fgt k a b))
 |.geq=>some (.bool (fgt k a b||feq k a b))
 |_=>none
def f7C (op:BinOp) (k:FloatKind) (a b c d:Nat):Option C:=
 match op with
 |.add=>some (.cpx k (a0a .add k a c) (a0a .add k b d))
 |.sub=>some (.cpx k (a0a .sub k a c) (a0a .sub k b d))
 |.eql=>some (.bool (feq k a c&&feq k b d))
 |.neq=>some (.bool !(feq k a c&&feq k b d))
 |_=>none
def f7D (op:BinOp) (a b:ByteArray):Option (Bool×C):=
 match op with
 |.add=>some (decide (a.size+b.size<=9223372036854775807),.str (a++b))
 |.eql=>some (true,.bool (a0O a b))
 |.neq=>some (true,.bool (!a0O a b))
 |_=>none
def a2C (k k':IntKind):Bool:=decide (k=k')
def a0X (k k':FloatKind):Bool:=decide (k=k')
def c3u (op:BinOp):C->C->Option (Bool×C)
 | .int k a,.int k' b=>match op with
   |.shl=>some (decide (0<=b),.int k (k.wrap (a*2^(min b.toNat k.bits))))
   |.shr=>some (decide (0<=b),.int k (a.fdiv (2^(min b.toNat k.bits))))
   | _=>match a2C k k' with
     |true=>f7A op k a b
     |false=>none
 | .flt k a,.flt k' b=>match a0X k k' with
   |true=>(f7B op k a b).map (true,·)
   |false=>none
 | .cpx k a b,.cpx k' c d=>match a0X k k' with
   |true=>(f7C op k a b c d).map (true,·)
   |false=>none
 |.str a,.str b=>f7D op a b
 |_,_=>none
def f7E (op:BinOp) (a b:Bool):Option C:=match op with
 |.eql=>some (.bool (a==b))
 |.neq=>some (.bool (!(a==b)))
 |_=>none
def b1i:C->Option Bool
 |.bool b=>some b
 |_=>none
def a2P:List C->List C->Option Bool
 |[],[]=>some true
 | .int k a::r,.int k' b::r'=>match a2C k k' with
   | true=>match r,r' with
     |[],[]=>some (a==b)
     | _,_=>match a2P r r' with
       |some e=>some (a==b&&e)
       |none=>none
   |false=>none
 |.bool a::r,.bool b::r'=>match r,r' with
  |[],[]=>some (a==b)
  | _,_=>match a2P r r' with
    |some e=>some (a==b&&e)
    |none=>none
 |_,_=>none
def a8n:List C->List C->Bool
 |[],[]=>true
 |.int k _::r,.int k' _::r'=>a2C k k'&&a8n r r'
 |.bool _::r,.bool _::r'=>a8n r r'
 |_,_=>false
def f7F (op:BinOp) (xs ys:List C):Option C:=match a2P xs ys with
 | some b=>match op with
   |.eql=>some (.bool b)
   |.neq=>some (.bool (!b))
   |_=>none
 |none=>none
def a3v (k:FloatKind) (a:Nat):Nat:=a ^^^ 2^(k.format.exponentBits+k.format.fractionBits)
def unC (op:UnOp):C->Option C
 | .int k n=>match op with
   |.neg=>some (.int k (k.wrap (0-n)))
   |_=>none
 | .flt k b=>match op with
   |.neg=>some (.flt k (a3v k b))
   |_=>none
 | .cpx k a b=>match op with
   |.neg=>some (.cpx k (a3v k a) (a3v k b))
   |_=>none
 | .bool b=>match op with
   |.not=>some (.bool (!b))
   |_=>none
 |_=>none
def a6f (k:FloatKind) (b:Nat) (d:IntKind):Bool:=
 match Ieee.Datum.toInt .zero (k.decode b)with
 |some n=>decide (d.min<=n)&&decide (n<=d.max)
 |none=>false
def f2i (k:FloatKind) (b:Nat):Int:=(Ieee.Datum.toInt .zero (k.decode b)).getD 0
def a1Q (b:Nat):Bool:=!(match FloatKind.f64.decode b with
 |.number s m e=>(FloatKind.f32.decode (FloatKind.f32.encode (.number s m e))).isInfinity
 |_=>false)
def a8o (src dst:FloatKind) (b:Nat):Nat:=match src.decode b with
 |.nan _ _=>qn dst
 |d=>dst.encode d
def a0u (s d:FloatKind) (b:Nat):Bool×Nat:=match s,d with
 |.f32,.f32=>(true,b)
 |.f64,.f64=>(true,b)
 |.f32,.f64=>(true,a8o .f32 .f64 b)
 |.f64,.f32=>(a1Q b,a8o .f64 .f32 b)
def b5y (dst:Srt):C->Option (Bool×C)
 | .int _ n=>match dst with
   |.int k=>some (true,.int k (k.wrap n))
   |.float k=>some (true,.flt k (k.nearest n))
   |_=>none
 | .flt s b=>match dst with
   |.int k=>some (a6f s b k,.int k (f2i s b))
   |.float k=>some ((a0u s k b).1,.flt k (a0u s k b).2)
   |_=>none
 | .cpx s a b=>match dst with
   |.complex k=>some ((a0u s k a).1&&(a0u s k b).1,.cpx k (a0u s k a).2 (a0u s k b).2)
   |_=>none
 | .str x=>match dst with
   |.string=>some (true,.str x)
   |_=>none
 |_=>none
def a2D (cs:List C) (off n:Nat):List C:=(cs.drop off).take n
def d1f (cs:List C) (off:Nat) (new:List C):List C:=cs.take off++new++cs.drop (off+new.length)
def a3w (agg:Bool) (size:Nat) (cs:List C):Option W:=match agg with
 | true=>match beq cs.length size with
   |true=>some (.agg cs)
   |false=>none
 | false=>match beq size 1 with
   | true=>match cs with
     |[c]=>some (.one c)
     |_=>none
   |false=>none
def c1z (place:List (Nat×Nat×Bool)):List C->List (Nat×W)->Option (List C)
 |cs,[]=>some cs
 | cs,(i,w)::r=>match place[i]? with
   | some (off,size,_)=>match beq w.cells.length size&&Nat.ble (off+size) cs.length with
     |true=>c1z place (d1f cs off w.cells) r
     |false=>none
   |none=>none
def a0N:C->List Nat
 |.pois=>[]
 |.bool _=>[]
 |.int _ _=>[]
 |.flt _ _=>[]
 |.cpx _ _ _=>[]
 |.str _=>[]
 |.nil _=>[]
 |.sl _ _=>[]
 |.rptr _ _ _ _=>[]
 |.ref _ k=>[k]
 |.ptr k _=>[k]
 |.eptr k _ _ _=>[k]
 |.fn _ caps=>caps
 |.aptr k _ _ _=>[k]
 |.aeptr k _ _ _ _ _=>[k]
 |.arptr _ _ _ _ _ _=>[]
 |.asl _ k _ _=>[k]
 |.junk=>[]
def a0L (w:W):List Nat:=w.cells.flatMap a0N
def a1r:V->List Nat
 |.val w=>a0L w
 |.tup ws=>ws.flatMap a0L
def b1j:List Nat->Nat->Bool
 |[],_=>false
 | x::r,k=>match beq x k with
   |true=>true
   |false=>b1j r k
def a2E (get:Get):Nat->List Nat->List Nat->List Nat
 |0,_,acc=>acc
 |_+1,[],acc=>acc
 | f + 1,k::todo,acc=>match b1j acc k with
   |true=>a2E get f todo acc
   | false=>match get k with
     |some (.box cs)=>a2E get f (cs.flatMap a0N++todo) (acc++[k])
     |_=>a2E get f todo (acc++[k])
def a1L:Nat:=400
def a2F:List Nat->Nat->Nat->Option Nat
 |[],_,_=>none
 | x::r,k,i=>match beq x k with
   |true=>some i
   |false=>a2F r k (i+1)
def a1v {α β:Type} (f:α->Option β):List α->Option (List β)
 |[]=>some []
 | x :: r=>match f x with
   | some y=>match a1v f r with
     |some ys=>some (y::ys)
     |none=>none
   |none=>none
def c3o (σ:Nat->Option Nat):C->Option C
 |.ref t k=>(σ k).map (.ref t)
 |.ptr k o=>(σ k).map fun k' => .ptr k' o
 |.eptr k t i o=>(σ k).map fun k' => .eptr k' t i o
 |.fn f caps=>(a1v σ caps).map (.fn f)
 |.aptr k o m j=>(σ k).map fun k' => .aptr k' o m j
 |.aeptr k t i o m j=>(σ k).map fun k' => .aeptr k' t i o m j
 |.asl t k o m=>(σ k).map fun k' => .asl t k' o m
 |c=>some c
def b7O (σ:Nat->Option Nat):W->Option W
 |.one c=>(c3o σ c).map .one
 |.agg cs=>(a1v (c3o σ) cs).map .agg
def e5w (σ:Nat->Option Nat):V->Option V
 |.val w=>(b7O σ w).map .val
 |.tup ws=>(a1v (b7O σ) ws).map .tup
def b2D (σ:Nat->Option Nat):Blk->Option Blk
 |.box cs=>(a1v (c3o σ) cs).map .box
 |.arr t l=>some (.arr t l)
def a5J (σ:Nat->Option Nat):Option Blk->Option (Option Blk)
 |some b=>(b2D σ b).map some
 |none=>some none
def d1g (t:Ty):Nat->List C->Option (List (Den t))
 |0,[]=>some []
 |0,_::_=>none
 | m + 1,cs=>match dec t cs with
   | some (x,r)=>match d1g t m r with
     |some l=>some (x::l)
     |none=>none
   |none=>none
def e0z (k:FloatKind):List C->Option (List (Nat×Nat))
 |[]=>some []
 | .cpx k' a b::r=>match a0X k k' with
   | true=>match e0z k r with
     |some l=>some ((a,b)::l)
     |none=>none
   |false=>none
 |_::_=>none
def e5x (cs:List C) (m j:Nat):Option C:=match cs with
 | .cpx k _ _::_=>match beq cs.length m with
   | true=>match e0z k cs with
     |some l=>some (.cpx k (l.getD j (0,0)).1 (l.getD j (0,0)).2)
     |none=>none
   |false=>none
 |_=>none
def e5y (k:FloatKind) (j a b:Nat):Nat->List (Nat×Nat)->List C
 |_,[]=>[]
 |i,p::r => .cpx k (bif beq i j then a else p.1) (bif beq i j then b else p.2)::e5y k j a b (i+1) r
def e6I (cs:List C) (m j:Nat) (w:W):Option (List C):=match w with
 | .one (.cpx k a b)=>match beq cs.length m with
   | true=>match e0z k cs with
     |some l=>some (e5y k j a b 0 l)
     |none=>none
   |false=>none
 |_=>none
def roC (get:Get):C->Option C
 | .ref t k=>match get k with
   | some (.arr t' l)=>match a3i t' t with
     | some ⟨h⟩=>match t.isJ with
       |false=>some (.sl t (h ▸ l))
       |true=>none
     |none=>none
   |_=>none
 |.ptr _ _=>none
 |.eptr _ _ _ _=>none
 |.aptr _ _ _ _=>none
 |.aeptr _ _ _ _ _ _=>none
 |.arptr _ _ _ _ _ _=>none
 | .asl t k o m=>match get k with
   | some (.box cs)=>match d1g t m (a2D cs o (m*t.size))with
     |some l=>some (.sl t l)
     |none=>none
   |_=>none
 |.fn f []=>some (.fn f [])
 |.fn _ (_::_)=>none
 |c=>some c
def roW (get:Get):W->Option W
 |.one c=>(roC get c).map .one
 |.agg cs=>(a1v (roC get) cs).map .agg
def c3v:C->Bool
 |.ref _ _=>true
 |.asl _ _ _ _=>true
 |_=>false
def bare:C->Bool
 |.sl _ _=>false
 |.rptr _ _ _ _=>false
 |.arptr _ _ _ _ _ _=>false
 |_=>true
def c1A:Ty->Bool
 |.slice _=>false
 |.cons a b=>c1A a&&c1A b
 |_=>true
def c3w:Option Blk->Bool
 |some (.box cs)=>cs.all bare
 |some (.arr t _)=>c1A t
 |none=>true
structure Out where
 ok:Bool
 v:V
 upd:List (Nat×Option Blk)
 n:Nat
def a0v (n:Nat) (b:Bool) (w:W):Option Out:=some ⟨b,.val w,[],n⟩
def a3K (get:Get) (t:Ty):C->Option (List (Den t)×List Nat)
 |.nil _=>some ([],[])
 | .sl t' l=>match a3i t' t with
   |some ⟨h⟩=>some (h ▸ l,[])
   |none=>none
 | .ref _ k=>match get k with
   | some (.arr t' l)=>match a3i t' t with
     |some ⟨h⟩=>some (h ▸ l,[k])
     |none=>none
   |_=>none
 |_=>none
def a1Y (get:Get) (t:Ty):List (Den t)->List (Nat×W)->Option (List (Den t))
 |l,[]=>some l
 | l, (i,w)::r=>match a1v (roC get) w.cells with
   | some cs=>match dec t cs with
     | some (x,[])=>match Nat.blt i l.length with
       |true=>a1Y get t (l.set i x) r
       |false=>none
     |_=>none
   |none=>none
def a0D (b:Option V) (dflt:Int):Option Int:=match b with
 |none=>some dflt
 |some (.val (.one (.int _ n)))=>some n
 |_=>none
def a0Y (get:Get) (n:Nat) (agg:Bool) (size:Nat):V->Option Out
 | .val (.one (.ptr k off))=>match get k with
   | some (.box cs)=>match a3w agg size (a2D cs off size)with
     |some w=>a0v n true w
     |none=>none
   |_=>none
 | .val (.one (.eptr k t i off))=>match get k with
   | some (.arr t' l)=>match a3i t' t with
     | some ⟨h⟩=>match a3w agg size (a2D (enc t ((h ▸ l:List (Den t)).getD i (zero t))) off size)with
       |some w=>a0v n true w
       |none=>none
     |none=>none
   |_=>none
 | .val (.one (.rptr t l i off))=>match a3w agg size (a2D (enc t (l.getD i (zero t))) off size)with
   |some w=>a0v n true w
   |none=>none
 | .val (.one (.aptr k off m j))=>match get k with
   | some (.box cs)=>match e5x (a2D cs off m) m j with
     | some c=>match a3w agg size [c]with
       |some w=>a0v n true w
       |none=>none
     |none=>none
   |_=>none
 | .val (.one (.aeptr k t i off m j))=>match get k with
   | some (.arr t' l)=>match a3i t' t with
     | some ⟨h⟩=>match e5x (a2D (enc t ((h ▸ l:List (Den t)).getD i (zero t))) off m) m j with
       | some c=>match a3w agg size [c]with
         |some w=>a0v n true w
         |none=>none
       |none=>none
     |none=>none
   |_=>none
 | .val (.one (.arptr t l i off m j))=>match e5x (a2D (enc t (l.getD i (zero t))) off m) m j with
   | some c=>match a3w agg size [c]with
     |some w=>a0v n true w
     |none=>none
   |none=>none
 |_=>none
def c1B:C->Bool
 |.pois=>false
 |_=>true
def a1j (get:Get) (n:Nat) (size:Nat) (w:W):V->Option Out
 | .val (.one (.ptr k off))=>match get k with
   | some (.box cs)=>match beq w.cells.length size&&Nat.ble (off+size) cs.length&&w.cells.all c1B with
     |true=>some ⟨true,pois,[(k,some (.box (d1f cs off w.cells)))],n⟩
     |false=>none
   |_=>none
 | .val (.one (.eptr k t i off))=>match get k with
   | some (.arr t' l)=>match a3i t' t with
     | some ⟨h⟩=>match a1v (roC get) w.cells with
       | some cs=>match beq cs.length size&&Nat.ble (off+size) t.size&&!b1j (w.cells.flatMap a0N) k&&w.cells.all c1B with
         | true=>match dec t (d1f (enc t ((h ▸ l:List (Den t)).getD i (zero t))) off cs)with
           |some (x,[])=>some ⟨true,pois,(k,some (.arr t ((h ▸ l:List (Den t)).set i x)))::(w.cells.flatMap a0N).map (·,none),n⟩
           |_=>none
         |false=>none
       |none=>none
     |none=>none
   |_=>none
 | .val (.one (.aptr k off m j))=>match get k with
   | some (.box cs)=>match e6I (a2D cs off m) m j w with
     | some cs'=>match beq size 1&&Nat.ble (off+m) cs.length with
       |true=>some ⟨true,pois,[(k,some (.box (d1f cs off cs')))],n⟩
       |false=>none
     |none=>none
   |_=>none
 | .val (.one (.aeptr k t i off m j))=>match get k with
   | some (.arr t' l)=>match a3i t' t with
     | some ⟨h⟩=>match e6I (a2D (enc t ((h ▸ l:List (Den t)).getD i (zero t))) off m) m j w with
       | some cs'=>match beq size 1&&Nat.ble (off+m) t.size with
         | true=>match dec t (d1f (enc t ((h ▸ l:List (Den t)).getD i (zero t))) off cs')with
           |some (x,[])=>some ⟨true,pois,[(k,some (.arr t ((h ▸ l:List (Den t)).set i x)))],n⟩
           |_=>none
         |false=>none
       |none=>none
     |none=>none
   |_=>none
 | .val (.one (.rptr .jnk _ _ off))=>match w with
   | .one (.flt .f32 _)=>match beq size 1&&beq off 0 with
     |true=>some ⟨true,pois,[],n⟩
     |false=>none
   |_=>none
 |_=>none
def a2G (n size m:Nat) (x i:V):Option Out:=match beq size 1&&Nat.blt 1 m with
 | true=>match x,i with
   |.val (.one (.ptr k o)),.val (.one (.int _ j))=>a0v n (decide (0<=j)&&decide (j<(m:Int))) (.one (.aptr k o m j.toNat))
   |.val (.one (.eptr k t q o)),.val (.one (.int _ j))=>a0v n (decide (0<=j)&&decide (j<(m:Int))) (.one (.aeptr k t q o m j.toNat))
   |.val (.one (.rptr t l q o)),.val (.one (.int _ j))=>a0v n (decide (0<=j)&&decide (j<(m:Int))) (.one (.arptr t l q o m j.toNat))
   |_,_=>none
 |false=>none
def b1k (n m:Nat) (ei:TI) (x:V):Option Out:=match beq ei.ty.size ei.size&&Nat.blt 0 m with
 | true=>match x with
   |.val (.one (.ptr k o))=>a0v n true (.one (.asl ei.ty k o m))
   |_=>none
 |false=>none
def a8c (get:Get) (n size:Nat) (t:Ty) (k:Nat) (lo:Option Int) (hi:Int->Option Int):Option Out:=
 match get k with
 | some (.arr t' s)=>match a3i t' t with
   | some ⟨e⟩=>match beq t.size size&&!t.isJ with
     | true=>match lo,hi (e ▸ s:List (Den t)).length with
       |some l,some h=>some ⟨decide (0<=l)&&decide (l<=h)&&decide (h<=((e ▸ s:List (Den t)).length:Int)),.val (.one (.sl t (((e ▸ s:List (Den t)).take h.toNat).drop l.toNat))),[(k,none)],n⟩
       |_,_=>none
     |false=>none
   |none=>none
 |_=>none
def a3C:Int:=1099511627776
def a0j (n:Nat):Bool:=Nat.ble n 1099511627776
theorem b1l {n:Nat} (h:a0j n=true):(n:Int)<=a3C:=by
 have:=Nat.le_of_ble_eq_true h;unfold a3C;omega
def a2H (get:Get) (n:Nat) (t:Ty) (bytes:Nat) (s x:C):Option Out:=
 match Nat.ble bytes 128 with
 |false=>none
 | true => match a3K get t x with
   |none=>none
   | some (new,kx)=>match s with
     |.nil _=>some ⟨a0j new.length,.val (.one (.ref t n)),[(n,some (.arr t new))],n+1⟩
     | .ref _ k=>match get k with
       | some (.arr t' l)=>match a3i t' t with
         | some ⟨h⟩=>match b1j kx k with
           |true=>none
           |false=>some ⟨a0j ((h ▸ l:List (Den t)).length+new.length),.val (.one (.ref t n)),
            [(n,some (.arr t ((h ▸ l:List (Den t))++new))),(k,none)],n+1⟩
         |none=>none
       |_=>none
     |_=>none
def a0o (s:ByteArray) (i:Int):Int:=((s.data.toList.getD i.toNat 0).toNat:Int)
def e0A (a b:Int):Int:=if b>a then b else a
def a2l (a b:Int):Int:=if b<a then b else a
def b2F (k:FloatKind) (a b:Nat):Nat:=match k.format.order a b with
 |none=>qn k
 |some .lt=>b
 |some .gt=>a
 |some .eq=>if(k.decode a).neg then b else a
def f4l (k:FloatKind) (a b:Nat):Nat:=match k.format.order a b with
 |none=>qn k
 |some .lt=>a
 |some .gt=>b
 |some .eq=>if(k.decode a).neg then a else b
def a7B (get:Get) (n:Nat) (s:Srt) (c:C):Option Out:=match s,c with
 |.slice,.nil _=>a0v n true (.one (.int .i64 0))
 |.slice,.sl _ l=>a0v n true (.one (.int .i64 l.length))
 | .slice,.ref _ k=>match get k with
   |some (.arr _ l)=>a0v n true (.one (.int .i64 l.length))
   |_=>none
 |.string,.str s=>a0v n true (.one (.int .i64 s.size))
 |_,_=>none
def e6J (t:Bool) (x y:V):V:=match t with
 |true=>x
 |false=>y
def a3h (Γ:Env) (get:Get) (n:Nat) (b:Builtin) (ts:List Nat) (args:List V):Option Out:=
 match b,args with
 | .len,[.val (.one c)]=>match ts with
   | [t]=>match Γ.tab t with
     |some ti=>a7B get n ti.sort c
     |none=>none
   |_=>none
 | .append, [.val (.one s),.val (.one x)]=>match ts with
   | [st,xt]=>match beq st xt with
     | true=>match Γ.tab st with
       | some si=>match si.sort with
         | .slice=>match Γ.tab si.elem with
           | some ei=>match beq ei.ty.size ei.size&&Nat.blt 0 ei.size with
             |true=>a2H get n ei.ty ei.bytes s x
             |false=>none
           |none=>none
         |_=>none
       |none=>none
     |false=>none
   |_=>none
 |.real,[.val (.one (.cpx k a _))]=>a0v n true (.one (.flt k a))
 |.imag,[.val (.one (.cpx k _ b))]=>a0v n true (.one (.flt k b))
 | .complex,[.val (.one (.flt k a)),.val (.one (.flt k' b))]=>match a0X k k' with
   |true=>a0v n true (.one (.cpx k a b))
   |false=>none
 | .max,[.val (.one (.int k a)),.val (.one (.int k' b))]=>match a2C k k' with
   |true=>a0v n true (.one (.int k (e0A a b)))
   |false=>none
 | .min,[.val (.one (.int k a)),.val (.one (.int k' b))]=>match a2C k k' with
   |true=>a0v n true (.one (.int k (a2l a b)))
   |false=>none
 | .max,[.val (.one (.flt k a)),.val (.one (.flt k' b))]=>match a0X k k' with
   |true=>a0v n true (.one (.flt k (b2F k a b)))
   |false=>none
 | .min,[.val (.one (.flt k a)),.val (.one (.flt k' b))]=>match a0X k k' with
   |true=>a0v n true (.one (.flt k (f4l k a b)))
   |false=>none
 |_,_=>none
def a6g:List Nat->Nat->Nat->Nat
 |[],n,i=>n+i
 |k::_,_,0=>k
 |_::r,n,i+1=>a6g r n i
def d1h:List W->V
 |[w] => .val w
 |ws => .tup ws
def a2q (outs:List (Option Blk)):Get:=fun k=>(outs[k]?).join
def b5z:List Nat->List (Option Blk)->Nat->List (Nat×Option Blk)
 |_,[],_=>[]
 |k::ks,b::r,n=>(k,b)::b5z ks r n
 |[],b::r,n=>(n,b)::b5z [] r (n+1)
def a4j (sm:a6e) (get:Get) (n:Nat) (args:List W):Option Out:=
 let ks:=a2E get a1L (args.flatMap a0L) []
 match a1v (b7O fun k=>a2F ks k 0) args,a1v (fun k=>(get k).bind (b2D fun k=>a2F ks k 0)) ks with
 | some args',some ins=>match sm.run args' ins with
   | some (ok,rs,outs)=>match Nat.ble ks.length outs.length,a1v (b7O fun i=>some (a6g ks n i)) rs,a1v (a5J fun i=>some (a6g ks n i)) outs with
     |true,some rs',some outs'=>some ⟨ok,d1h rs',b5z ks outs' n,n+(outs.length-ks.length)⟩
     |_,_,_=>none
   |none=>none
 |_,_=>none
def a6h (sm:a6e) (frz:Bool) (get:Get) (n:Nat) (args:List W):Option Out:=
 match a1v (roW get) args with
 | some args'=>match sm.run args' []with
   | some (ok,rs,outs) =>
     match args.all (fun w=>w.cells.all (fun c=>!c3v c))||(!frz&&rs.all (fun w=>w.cells.all bare)&&outs.all c3w)with
     |false=>none
     | true=>match frz with
       | true=>match a1v (roW (a2q outs)) rs with
         |some rs'=>some ⟨ok,d1h rs',[],n⟩
         |none=>none
       | false=>match a1v (b7O fun i=>some (n+i)) rs,a1v (a5J fun i=>some (n+i)) outs with
         |some rs',some outs'=>some ⟨ok,d1h rs',b5z [] outs' n,n+outs.length⟩
         |_,_=>none
   |none=>none
 |none=>none
def a5K:List V->Option (List W):=a1v fun
 |.val w=>some w
 |_=>none
def b2G (Γ:Env) (o:Oper) (get:Get) (n:Nat) (f:Nat) (args:List W):Option Out:=
 match Γ.sem f with
 | some sm=>match sm.own with
   |true=>a4j sm get n args
   |false=>a6h sm (match o.dst with|some d=>b1j Γ.frz d|none=>false) get n args
 |none=>none
def a7C (l:List Int):ByteArray:=l.foldl (fun r n=>r.push (UInt8.ofNat n.toNat)) ByteArray.empty
def c3x:IntKind->Bool
 |.u8=>true
 |_=>false
def c1C (Γ:Env) (get:Get) (si di:TI) (c:C):Option ByteArray:=match si.sort,di.sort with
 | .slice,.string=>match Γ.tab si.elem with
   | some ei=>match ei.sort with
     | .int k=>match c3x k with
       | true=>match a3K get (.int .u8) c with
         |some (l,_)=>some (a7C l)
         |none=>none
       |false=>none
     |_=>none
   |none=>none
 |_,_=>none
def e0B (Γ:Env) (t:Nat) (cs:List C):Bool:=match Γ.tab t with
 |some ti=>beq cs.length ti.size&&a8n ti.zero cs
 |none=>false
def d5m:Operand->Bool
 |.const (.slice none n c)=>beq n 0&&beq c 0
 |_=>false
def b1m (Γ:Env) (t:Nat) (x:Operand) (v:V):V:=match d5m x with
 |false=>v
 | true=>match Γ.tab t with
   | some ti=>match ti.sort with
     | .slice=>match Γ.tab ti.elem with
       |some ei => .val (.one (.nil ei.ty))
       |none=>v
     |_=>v
   |none=>v
def act (Γ : Env) (o:Oper) (ρ:Operand->V) (get:Get) (n:Nat):Option Out :=
 match o.op with
 |.move x=>some ⟨true,b1m Γ o.type x (ρ x),[],n⟩
 |.assign x=>some ⟨true,b1m Γ o.type x (ρ x),[],n⟩
 | .pick c a b=>match ρ c with
   |.val (.one (.bool t))=>some ⟨true,e6J t (ρ a) (ρ b),[],n⟩
   |_=>none
 | .alloc t=>match Γ.tab t with
   |some ti=>some ⟨true,.val (.one (.ptr n 0)),[(n,some (.box ti.zero))],n+1⟩
   |none=>none
 | .box _ x=>match ρ x with
   | .val w=>match w.cells.all c1B with
     |true=>some ⟨true,.val (.one (.ptr n 0)),[(n,some (.box w.cells))],n+1⟩
     |false=>none
   |.tup _=>none
 | .build t parts=>match Γ.tab t with
   | some ti=>match ti.sort with
     | .struct=>match a1v (fun p=>match ρ p.2 with|.val w=>some (p.1,w)|.tup _=>none) parts.toList with
       | some ps=>match ps.all (fun p=>p.2.cells.all c1B),c1z ti.fields ti.zero ps with
         |true,some cs=>a0v n true (.agg cs)
         |_,_=>none
       |none=>none
     | .array _=>match parts.toList,Γ.tab ti.elem with
       |[],some _=>a0v n true (.agg ti.zero)
       |_,_=>none
     |_=>none
   |none=>none
 | .buildSlice t len parts=>match Γ.tab t with
   | some ti => match ti.sort with
     | .slice=>match Γ.tab ti.elem with
       | some ei=>match a1v (fun p=>match ρ p.2 with|.val w=>some (p.1,w)|.tup _=>none) parts.toList with
         | some ps=>match Nat.ble (len*ei.size) 1000000&&beq ei.ty.size ei.size&&Nat.blt 0 ei.size&&ps.all (fun p=>p.2.cells.all c1B)with
           | true=>match a1Y get ei.ty (List.replicate len (zero ei.ty)) ps with
             |some l=>some ⟨true,.val (.one (.ref ei.ty n)),(n,some (.arr ei.ty l))::(ps.flatMap fun p=>a0L p.2).map (·,none),n+1⟩
             |none=>none
           |false=>none
         |none=>none
       |none=>none
     |_=>none
   |none=>none
 | .load t a=>match Γ.tab t with
   |some ti=>a0Y get n ti.agg ti.size (ρ a)
   |none=>none
 | .store t a x=>match Γ.tab t,b1m Γ t x (ρ x)with
   |some ti,.val w=>a1j get n ti.size w (ρ a)
   |_,_=>none
 | .nilCheck x=>match ρ x with
   |.val (.one (.ptr k o))=>some ⟨true,.val (.one (.ptr k o)),[],n⟩
   |.val (.one (.eptr k t i o))=>some ⟨true,.val (.one (.eptr k t i o)),[],n⟩
   |.val (.one (.rptr t l i o))=>some ⟨true,.val (.one (.rptr t l i o)),[],n⟩
   |.val (.one (.fn f cs))=>some ⟨true,.val (.one (.fn f cs)),[],n⟩
   |_=>none
 | .binOp op t x y _=>match ρ x,ρ y with
   | .val (.one a),.val (.one b)=>match b1i a,b1i b with
     | some p,some q=>match Γ.tab t with
       | some ti=>match ti.sort,f7E op p q with
         |.bool,some c=>a0v n true (.one c)
         |_,_=>none
       |none=>none
     | _,_=>match c3u op a b with
       |some (ok,c)=>a0v n ok (.one c)
       |none=>none
   | .val (.agg a),.val (.agg b)=>match Γ.eqT t&&e0B Γ t a,f7F op a b with
     |true,some c=>a0v n true (.one c)
     |_,_=>none
   |_,_=>none
 | .unOp op _ x=>match ρ x with
   | .val (.one c)=>match unC op c with
     |some c'=>a0v n true (.one c')
     |none=>none
   |_=>none
 | .convert src dst x=>match Γ.tab src,Γ.tab dst,ρ x with
   | some si,some di,.val (.one c)=>match b5y di.sort c with
     |some (ok,c')=>a0v n ok (.one c')
     | none=>match c1C Γ get si di c with
       |some b=>a0v n true (.one (.str b))
       |none=>none
   |_,_,_=>none
 | .makeSlice t l c=>match Γ.tab t,ρ l,ρ c with
   | some ti,.val (.one (.int _ x)),.val (.one (.int _ y))=>match ti.sort with
     | .slice=>match Γ.tab ti.elem with
       | some ei=>match Nat.ble ei.bytes 128&&beq ei.ty.size ei.size&&Nat.blt 0 ei.size with
         |true=>some ⟨decide (0<=x)&&a0j x.toNat&&(x==y),.val (.one (.ref ei.ty n)),[(n,some (.arr ei.ty (List.replicate x.toNat (zero ei.ty))))],n+1⟩
         |false=>none
       |none=>none
     |_=>none
   |_,_,_=>none
 | .slice t x lo hi mx=>match Γ.tab t,mx with
   | some ti,none=>match ti.sort,ρ x with
     | .string,.val (.one (.str s))=>match a0D (lo.map ρ) 0,a0D (hi.map ρ) s.size with
       |some l,some h=>a0v n (decide (0<=l)&&decide (l<=h)&&decide (h<=(s.size:Int))) (.one (.str (s.extract l.toNat h.toNat)))
       |_,_=>none
     | .slice,.val (.one (.sl t s))=>match Γ.tab ti.elem with
       | some ei=>match beq t.size ei.size with
         | true=>match a0D (lo.map ρ) 0,a0D (hi.map ρ) s.length with
           |some l,some h=>a0v n (decide (0<=l)&&decide (l<=h)&&decide (h<=(s.length:Int))) (.one (.sl t ((s.take h.toNat).drop l.toNat)))
           |_,_=>none
         |false=>none
       |none=>none
     | .slice,.val (.one (.ref t k))=>match Γ.tab ti.elem with
       |some ei=>a8c get n ei.size t k (a0D (lo.map ρ) 0) (a0D (hi.map ρ))
       |none=>none
     | .array m,x=>match lo,hi with
       | none,none=>match Γ.tab ti.elem with
         |some ei=>b1k n m ei x
         |none=>none
       |_,_=>none
     |_,_=>none
   |_,_=>none
 | .fieldAddr t x f=>match Γ.tab t with
   | some ti=>match ti.sort with
     | .struct=>match ti.fields[f]? with
       | some (off,size,_)=>match beq size 0 with
         |true=>none
         | false=>match ρ x with
           |.val (.one (.ptr k o))=>a0v n true (.one (.ptr k (o+off)))
           |.val (.one (.eptr k ty i o))=>a0v n true (.one (.eptr k ty i (o+off)))
           |.val (.one (.rptr ty l i o))=>a0v n true (.one (.rptr ty l i (o+off)))
           |_=>none
       |none=>none
     |_=>none
   |none=>none
 | .field t x f=>match Γ.tab t with
   | some ti=>match ti.sort with
     | .struct=>match ti.fields[f]? with
       | some (off,size,agg)=>match ρ x with
         | .val (.agg cs)=>match a3w agg size (a2D cs off size)with
           |some w=>a0v n true w
           |none=>none
         |_=>none
       |none=>none
     |_=>none
   |none=>none
 | .indexAddr t x i=>match Γ.tab t with
   | some ti => match ti.sort with
     | .slice=>match Γ.tab ti.elem with
       | some ei=>match ρ x,ρ i with
         | .val (.one (.sl t l)),.val (.one (.int _ j))=>match beq t.size ei.size with
           |true=>a0v n (decide (0<=j)&&decide (j<(l.length:Int))) (.one (.rptr t l j.toNat 0))
           |false=>none
         | .val (.one (.ref t k)),.val (.one (.int _ j))=>match get k with
           | some (.arr t' l)=>match beq t.size ei.size,a3i t' t with
             |true,some _=>a0v n (decide (0<=j)&&decide (j<(l.length:Int))) (.one (.eptr k t j.toNat 0))
             |_,_=>none
           |_=>none
         |.val (.one (.nil t)),.val (.one (.int _ _))=>a0v n false (.one (.rptr t [] 0 0))
         |_,_=>none
       |none=>none
     | .array m=>match Γ.tab ti.elem with
       |some ei=>a2G n ei.size m (ρ x) (ρ i)
       |none=>none
     |_=>none
   |none=>none
 | .index t x i=>match Γ.tab t with
   | some ti=>match ti.sort with
     | .string=>match ρ x,ρ i with
       |.val (.one (.str s)),.val (.one (.int _ j))=>a0v n (decide (0<=j)&&decide (j<(s.size:Int))) (.one (.int .u8 (a0o s j)))
       |_,_=>none
     |_=>none
   |none=>none
 | .makeFunc fn first caps=>match fn,first.toList with
   | .func f,[]=>match a1v (fun x=>match ρ x with|.val (.one (.ptr k 0))=>some k|_=>none) caps.toList with
     |some ks=>a0v n true (.one (.fn f ks))
     |none=>none
   |_,_=>none
 | .extract t i=>match ρ t with
   | .tup ws=>match ws[i]? with
     |some w=>a0v n true w
     |none=>none
   |_=>none
 | .call c=>match c.callee with
   |.builtin b=>a3h Γ get n b c.argTypes.toList (c.args.toList.map ρ)
   | .value f=>match ρ f,a5K (c.args.toList.map ρ)with
     |.val (.one (.fn g caps)),some ws=>b2G Γ o get n g (ws++caps.map fun k => .one (.ptr k 0))
     |_,_=>none
   |_=>none
 |_=>none
structure Ent where
 fp:List Nat
 up:List Nat
 kb:Bool
def a8d (o:Oper) (ρ:Operand->V) (get:Get):List Nat:=
 match o.op with
 |.load _ a=>a1r (ρ a)
 |.store _ a x=>a1r (ρ a)++a1r (ρ x)
 |.buildSlice _ _ parts=>parts.toList.flatMap fun p=>a1r (ρ p.2)
 |.indexAddr _ x _=>a1r (ρ x)
 |.slice _ x _ _ _=>a1r (ρ x)
 |.convert _ _ x=>a1r (ρ x)
 |.call c=>(c.args.toList.flatMap (fun x=>a1r (ρ x))++(match c.callee with|.value f=>a1r (ρ f)|_=>[])) ++
  a2E get a1L (c.args.toList.flatMap (fun x=>a1r (ρ x))++(match c.callee with|.value f=>a1r (ρ f)|_=>[])) []
 |_=>[]
def c1D (n:Nat):List Nat->Bool
 |[]=>true
 |k::r=>Nat.blt k n&&c1D n r
def e6K:Option Blk->List Nat
 |some (.box cs)=>cs.flatMap a0N
 |_=>[]
def d1i (o:Oper) (ρ:Operand->V) (get:Get) (n n':Nat):Bool:=
 Nat.ble n n'&&c1D n (o.op.operands.toList.flatMap fun x=>a1r (ρ x))&&c1D n (a8d o ρ get)&&c1D n ((a8d o ρ get).flatMap fun k=>e6K (get k))
def a6Y (Γ:Env) (d:Option Nat):Bool:=match d with
 |some t=>Nat.blt t Γ.nt
 |none=>true
def St.apply (s:St) (out:Out):St:={ s with mem:=out.upd++s.mem,n:=out.n }
def a2r (b:Bool):V := .val (.one (.bool b))
def c3p {R:Type} (Γ:Env) (o:Oper) (K:St->Ent->Option R) (s:St):Option R:=
 match act Γ o s.val s.get s.n with
 |none=>none
 | some out=>match a6Y Γ o.dst with
   | true=>match out.ok with
     |true=>K ((s.apply out).putO o.dst out.v) ⟨a8d o s.val s.get,out.upd.map (·.1),d1i o s.val s.get s.n out.n⟩
     |false=>none
   |false=>none
def a6Z {R:Type} (Γ:Env) (o:Oper) (K:St->Ent->Option R) (s:St):Option R:=
 match o.op with
 | .pick (.tmp t) _ _=>match s.tmpV t with
   | .val (.one (.bool b))=>match b with
     |true=>c3p Γ o K (s.put t (a2r true))
     |false=>c3p Γ o K (s.put t (a2r false))
   |_=>none
 |_=>c3p Γ o K s
def a7S {R:Type} (Γ:Env) (o:Oper) (K:St->Ent->Option R) (s:St):Option R:=
 match a6Y Γ o.dst with
 |true=>K (s.putO o.dst (.tup [])) ⟨[],[],true⟩
 |false=>none
def b0d {R:Type} (Γ:Env) (ops:Array Oper):List Oper->St->List Ent->(St->List Ent->Option R)->Option R
 |[],s,tr,K=>K s tr
 | o :: rest,s,tr,K=>match o.guard with
   |none=>a6Z Γ o (fun s' e=>b0d Γ ops rest s' (e::tr) K) s
   | some (g,want)=>match (ops[g]?).bind (·.dst)with
     |none=>none
     | some t=>match s.tmpV t with
       | .val (.one (.bool b))=>match b with
         | true=>match want with
           |true=>a6Z Γ o (fun s' e=>b0d Γ ops rest s' (e::tr) K) (s.put t (a2r true))
           |false=>a7S Γ o (fun s' e=>b0d Γ ops rest s' (e::tr) K) (s.put t (a2r true))
         | false=>match want with
           |true=>a7S Γ o (fun s' e=>b0d Γ ops rest s' (e::tr) K) (s.put t (a2r false))
           |false=>a6Z Γ o (fun s' e=>b0d Γ ops rest s' (e::tr) K) (s.put t (a2r false))
       |.tup []=>a7S Γ o (fun s' e=>b0d Γ ops rest s' (e::tr) K) s
       |_=>none
def c1E (acc:List Nat):List Edge->Nat
 |[]=>0
 | e::r=>match Region.binds .any e with
   |true=>Nat.lor (Nat.lor (Nat.shiftLeft 1 e.on) (acc.getD e.on 0)) (c1E acc r)
   |false=>c1E acc r
def c3y:List Oper->List Nat->List Nat
 |[],acc=>acc
 |o::r,acc=>c3y r (acc++[c1E acc o.after.toList])
def e5z:List Nat->List Nat->Bool
 |[],_=>true
 | x::r,l=>match b1j l x with
   |true=>false
   |false=>e5z r l
def d1j (a b:Ent):Bool:=e5z a.fp b.up&&e5z b.fp a.up&&e5z a.up b.up
def c3z (o:Op):List Nat:=o.operands.toList.filterMap fun|.tmp t=>some t|_=>none
def looks (ops:Array Oper) (o:Oper):List Nat:=c3z o.op++(match o.guard with
 |some (g,_)=>match (ops[g]?).bind (·.dst)with|some t=>[t]|none=>[]
 |none=>[])
def b7P (ops:Array Oper) (x y:Oper):Bool:=
 (match x.dst with|some d=>!b1j (looks ops y) d|none=>true) &&
 (match y.dst with|some d=>!b1j (looks ops x) d|none=>true) &&
 (match x.dst,y.dst with|some d,some e=>!beq d e|_,_=>true)
def a8e (ops:Array Oper) (anc:Nat) (o:Oper) (e:Ent):List (Nat×Oper×Ent)->Bool
 |[]=>true
 | (j,o',e')::r=>(match Nat.testBit anc j with
   |true=>true
   |false=>d1j e e'&&b7P ops o o')&&a8e ops anc o e r
def b7Q (ops:Array Oper):List Nat->List (Nat×Oper×Ent)->List (Nat×Oper×Ent)->Bool
 |a::as1,(i,o,e)::r,before=>a8e ops a o e before&&b7Q ops as1 r ((i,o,e)::before)
 |_,_,_=>true
def b1n:Nat->List Oper->List Ent->List (Nat×Oper×Ent)
 |i,o::os,e::es=>(i,o,e)::b1n (i+1) os es
 |_,_,_=>[]
def b7R:Nat->List Oper->Bool
 |_,[]=>true
 |i,o::r=>o.after.toList.all (fun e=>!Region.binds .any e||Nat.blt e.on i)&&b7R (i+1) r
def b2H (ops:Array Oper) (tr:List Ent):Bool:=
 b7Q ops (c3y ops.toList []) (b1n 0 ops.toList tr.reverse) []&&b7R 0 ops.toList&&tr.all (·.kb)
def gone (ks:List Nat):List (Nat×Option Blk):=ks.map (·,none)
def c3q (c:Cv) (s:St):St:=match c with
 |.forget t=>s.put t pois
 | .sl t=>match s.tmpV t with
   |.val (.one (.nil ty))=>s.put t (.val (.one (.sl ty [])))
   |_=>s
 | .boxSl t off=>match s.tmpV t with
   | .val (.one (.ptr k _))=>match s.get k with
     | some (.box cs)=>match cs[off]? with
       |some (.nil ty)=>{ s with mem:=(k,some (.box (cs.set off (.sl ty []))))::s.mem }
       |_=>s
     |_=>s
   |_=>s
 | .nil t=>match s.tmpV t with
   |.val (.one (.nil ty))=>{ s with tmps:=(t,.val (.one (.ref ty s.n)))::s.tmps,mem:=(s.n,some (.arr ty []))::s.mem,n:=s.n+1 }
   |_=>s
 | .boxNil t off=>match s.tmpV t with
   | .val (.one (.ptr k _))=>match s.get k with
     | some (.box cs)=>match cs[off]? with
       |some (.nil ty)=>{ s with mem:=(k,some (.box (cs.set off (.ref ty s.n))))::(s.n,some (.arr ty []))::s.mem,n:=s.n+1 }
       |_=>s
     |_=>s
   |_=>s
 | .mv t off j=>match s.tmpV t with
   | .val (.one (.ptr k _))=>match s.get k with
     | some (.box cs)=>match cs[off]? with
       | some (.ref ty j')=>match beq j j' with
         | true=>match s.get j with
           |some (.arr ty' l)=>{ s with mem:=(k,some (.box (cs.set off (.ref ty s.n))))::(s.n,some (.arr ty' l))::(j,none)::s.mem,n:=s.n+1 }
           |_=>s
         |false=>s
       |_=>s
     |_=>s
   |_=>s
 | .frz t=>match s.tmpV t with
   | .val w=>match roW s.get w with
     |some w'=>{ s with tmps:=(t,.val w')::s.tmps,mem:=gone (a0L w)++s.mem }
     |none=>s
   |_=>s
 | .frzBox t=>match s.tmpV t with
   | .val (.one (.ptr k _))=>match s.get k with
     | some (.box cs)=>match a1v (roC s.get) cs with
       | some cs'=>match b1j (cs.flatMap a0N) k with
         |false=>{ s with mem:=(k,some (.box cs'))::(gone (cs.flatMap a0N)++s.mem) }
         |true=>s
       |none=>s
     |_=>s
   |_=>s
 | .frzCell t off=>match s.tmpV t with
   | .val (.one (.ptr k _))=>match s.get k with
     | some (.box cs)=>match cs[off]? with
       | some c=>match roC s.get c with
         | some c'=>match b1j (a0N c) k with
           |false=>{ s with mem:=(k,some (.box (cs.set off c')))::(gone (a0N c)++s.mem) }
           |true=>s
         |none=>s
       |none=>s
     |_=>s
   |_=>s
 | .jnk t=>match s.tmpV t with
   | .val (.one (.ref (.flt .f32) k))=>match s.get k with
     |some (.arr (.flt .f32) l)=>{ s with tmps:=(t,.val (.one (.sl .jnk (l.map fun _=>()))))::s.tmps,mem:=(k,none)::s.mem }
     |_=>s
   |_=>s
def b2I:List Cv->St->St
 |[],s=>s
 |c::r,s=>b2I r (c3q c s)
def a3Q:List Nat->Nat->List Nat
 |[],_=>[]
 | k::r,m=>match Nat.ble m k with
   |true=>k::a3Q r m
   |false=>a3Q r m
def a2S (rest:List Nat) (m k:Nat):Option Nat:=match Nat.blt k m with
 |true=>some k
 |false=>a2F rest k m
def c3A (get:Get) (σ:Nat->Option Nat):List Nat->Option (List (Nat×Option Blk))
 |[]=>some []
 | k::r=>match σ k,a5J σ (get k),c3A get σ r with
   |some k',some b,some l=>some ((k',b)::l)
   |_,_,_=>none
def a9I:Nat->List Nat
 |0=>[]
 |n+1=>a9I n++[n]
def a8p (live:List Nat) (own:List Cv) (s0:St):Option St:=
 let s:=b2I own s0
 let ks:=a2E s.get a1L (a9I s.m++live.flatMap fun t=>a1r (s.tmpV t)) (a9I 0)
 let rest:=a3Q ks s.m
 match a1v (fun t=>(e5w (a2S rest s.m) (s.tmpV t)).map fun v=>(t,v)) live,c3A s.get (a2S rest s.m) (a9I s.m++rest)with
 |some tmps,some mem=>some { tmps,mem,n:=s.m+rest.length,m:=s.m }
 |_,_=>none
def a0I:Code->Nat
 |.region id _ _=>id
 |.seq x _=>a0I x
 |.block _ x=>a0I x
 |.loop x=>a0I x
 |.cond _ x _=>a0I x
 |_=>0
def a5L {R:Type} (cut:Option (List Nat×List Cv)) (K:Ex->St->Option R) (e:Ex) (s:St):Option R:=
 match e with
 | .normal=>match cut with
   | some c=>match a8p c.1 c.2 s with
     |some s'=>K .normal s'
     |none=>none
   |none=>K .normal s
 |e=>K e s
def a7D {R:Type} (id:Nat) (cut:Option (List Nat×List Cv)) (K:Ex->St->Option R) (e:Ex) (s:St):Option R:=
 match e with
 |.normal=>a5L cut K .normal s
 | .exit i=>match beq i id with
   |true=>a5L cut K .normal s
   |false=>K (.exit i) s
 |.ret=>K .ret s
def e0C {R:Type} (ex:Nat) (past:List Nat) (pown:List Cv) (K:Ex->St->Option R) (e:Ex) (s:St):Option R:=match e with
 |.normal=>none
 | .exit i=>match beq i ex with
   | true=>match a8p past pown s with
     |some s'=>K (.exit i) s'
     |none=>none
   |false=>none
 |.ret=>K .ret s
def a3D {R:Type} (live:List Nat) (own:List Cv) (ex:Nat) (past:List Nat) (pown:List Cv) (F:St->Option R) (K:Ex->St->Option R) (e:Ex) (s:St):Option R:=match e with
 | .normal=>match a8p live own s with
   |some s'=>F s'
   |none=>none
 |e=>e0C ex past pown K e s
def e0D {R:Type} (L:a4J) (K:Ex->St->Option R) (s:St):Option R:=
 match a8p L.live L.own s with
 |none=>none
 | some s0=>match L.run s0 with
   |none=>none
   | some (ok,b,s1,s2)=>match ok with
     |false=>none
     | true=>match b with
       |true=>K .ret s2
       |false=>K (.exit L.ex) s1
def g5i:ResultVar->Nat
 |.tmp t=>t
 |.cell a _=>a
def b2J (c:Operand):Nat:=match c with
 |.tmp t=>t
 |_=>0
def St.putC (s:St) (c:Operand) (b:Bool):St:=match c with
 |.tmp t=>s.put t (a2r b)
 |_=>s
def EBk {R:Type} (Γ:Env):Code->(Ex->St->Option R)->St->Option R
 |.skip,K,s=>K .normal s
 |.label _,K,s=>K .normal s
 | .seq x y,K,s=>EBk Γ x (fun e s'=>match e with
   |.normal=>EBk Γ y K s'
   |e=>K e s') s
 | .cond c x y,K,s=>match s.val c with
   | .val (.one (.bool b))=>match b with
     |true=>EBk Γ x (a5L (a1D Γ.cut (b2J c)) K) (s.putC c true)
     |false=>EBk Γ y (a5L (a1D Γ.cut (b2J c)) K) (s.putC c false)
   |_=>none
 |.block id x,K,s=>EBk Γ x (a7D id (a1D Γ.past id) K) s
 | .loop c,K,s=>match a1D Γ.loops (a0I c)with
   |some L=>e0D L K s
   |none=>none
 |.exit id,K,s=>K (.exit id) s
 | .ret,K,s=>match a8p (Γ.res.map g5i) Γ.rown s with
   |some s'=>K .ret s'
   |none=>none
 | .region _ ops d,K,s=>b0d Γ ops ops.toList s [] (fun s' tr=>match d with
   |false=>K .normal s'
   | true=>match b2H ops tr with
     |true=>K .normal s'
     |false=>none)
 |_,_,_=>none
def a9O {R:Type} (Γ:Env) (c:Code) (L:a4J) (K:Ex->St->Option R):Nat->St->Option R
 |0,_=>none
 |k+1,s=>EBk Γ c (a3D L.live L.own L.ex L.past L.pown (a9O Γ c L K k) K) s
def a1Z:Code->List Code
 |.seq x y=>a1Z x++a1Z y
 |.cond _ x y=>a1Z x++a1Z y
 |.block _ x=>a1Z x
 |.loop x=>x::a1Z x
 |_=>[]
def a3j (Γ:Env) (c:Code) (L:a4J):Prop:=
 ∀s0 b s1 s2,L.run s0=some (true,b,s1,s2)->∀(R:Type) (K:Ex->St->Option R),∃n,a9O Γ c L K n s0=(if b then K .ret s2 else K (.exit L.ex) s1)
def a7a (Γ:Env) (c:Code):Prop:=∀c'∈a1Z c,∀L,a1D Γ.loops (a0I c')=some L->a3j Γ c' L
def b2K:Nat->List W->List (Nat×V)
 |_,[]=>[]
 |i,w::r=>(i,.val w)::b2K (i+1) r
def c3B:Nat->List Blk->List (Nat×Option Blk)
 |_,[]=>[]
 |i,b::r=>(i,some b)::c3B (i+1) r
def a7T (args:List W) (ins:List Blk):St:={ tmps:=b2K 0 args,mem:=c3B 0 ins,n:=ins.length,m:=ins.length }
def e6L (Γ:Env) (s:St):ResultVar->Option W
 | .tmp t=>match s.tmpV t with
   |.val w=>some w
   |_=>none
 | .cell a t=>match Γ.tab t with
   | some ti=>match a0Y s.get 0 ti.agg ti.size (s.tmpV a)with
     | some out=>match out.v with
       |.val w=>some w
       |_=>none
     |none=>none
   |none=>none
def fin (Γ:Env) (s:St):Option (List W×List (Option Blk)):=
 match a1v (e6L Γ s) Γ.res with
 |none=>none
 | some ws =>
   let ks:=a2E s.get a1L (a9I s.m++ws.flatMap a0L) (a9I 0)
   let rest:=a3Q ks s.m
   match a1v (b7O (a2S rest s.m)) ws,a1v (fun k=>a5J (a2S rest s.m) (s.get k)) (a9I s.m++rest)with
   |some ws',some outs=>some (ws',outs)
   |_,_=>none
def b5A {R:Type} (Γ:Env) (c:Code) (f:List W×List (Option Blk)->Option R) (args:List W) (ins:List Blk):Option R:=
 match Nat.ble args.length Γ.nt with
 | true=>EBk Γ c (fun e s=>match e with
   |.exit _=>none
   | _=>match fin Γ s with
     |some r=>f r
     |none=>none) (a7T args ins)
 |false=>none
def All2 {α β:Type} (R:α->β->Prop):List α->List β->Prop
 |[],[]=>True
 |a::as1,b::bs=>R a b /\ All2 R as1 bs
 |_,_=>False
theorem All2.length {α β:Type} {R:α->β->Prop}:∀{as1:List α} {bs:List β},All2 R as1 bs->as1.length=bs.length
 |[],[],_=>rfl
 |_::_,_::_,h=>by simp[h.2.length]
 |[],_::_,h=>h.elim
 |_::_,[],h=>h.elim
theorem All2.mono {α β:Type} {R R':α->β->Prop} (hr:∀a b,R a b->R' a b):∀{as1:List α} {bs:List β},All2 R as1 bs->All2 R' as1 bs
 |[],[],_=>trivial
 |_::_,_::_,h=>⟨hr _ _ h.1,h.2.mono hr⟩
 |[],_::_,h=>h.elim
 |_::_,[],h=>h.elim
theorem All2.mono_mem {α β:Type} {R R':α->β->Prop}:∀{as1:List α} {bs:List β},(∀a b,a∈as1->R a b->R' a b)->All2 R as1 bs->All2 R' as1 bs
 |[],[],_,_=>trivial
 |_::_,_::_,hr,h=>⟨hr _ _ (List.mem_cons_self ..) h.1,All2.mono_mem (fun a b ha=>hr a b (List.mem_cons_of_mem _ ha)) h.2⟩
 |[],_::_,_,h=>h.elim
 |_::_,[],_,h=>h.elim
theorem All2.append {α β:Type} {R:α->β->Prop}:∀{as1:List α} {bs:List β} {as':List α} {bs':List β},All2 R as1 bs->All2 R as' bs'->All2 R (as1++as') (bs++bs')
 |[],[],_,_,_,h'=>h'
 |_::_,_::_,_,_,h,h'=>⟨h.1,h.2.append h'⟩
 |[],_::_,_,_,h,_=>h.elim
 |_::_,[],_,_,h,_=>h.elim
theorem All2.split {α β:Type} {R:α->β->Prop}:∀{as1 as':List α} {bs:List β},All2 R (as1++as') bs->∃b1 b2,bs=b1++b2 /\ All2 R as1 b1 /\ All2 R as' b2
 |[],_,bs,h=>⟨[],bs,rfl,trivial,h⟩
 | _::as1,as',b::bs,h=>by
   obtain⟨b1,b2,rfl,h1,h2⟩:=All2.split (as1:=as1) h.2;exact⟨b::b1,b2,rfl,⟨h.1,h1⟩,h2⟩
 |_::_,_,[],h=>h.elim
theorem All2.drop {α β:Type} {R:α->β->Prop}:∀(n:Nat) {as1:List α} {bs:List β},All2 R as1 bs->All2 R (as1.drop n) (bs.drop n)
 |0,_,_,h=>h
 |_+1,[],[],h=>h
 |n+1,_::_,_::_,h=>All2.drop n h.2
 |_+1,[],_::_,h=>h.elim
 |_+1,_::_,[],h=>h.elim
theorem All2.take {α β:Type} {R:α->β->Prop}:∀(n:Nat) {as1:List α} {bs:List β},All2 R as1 bs->All2 R (as1.take n) (bs.take n)
 |0,_,_,_=>trivial
 |_+1,[],[],h=>h
 |n+1,_::_,_::_,h=>⟨h.1,All2.take n h.2⟩
 |_+1,[],_::_,h=>h.elim
 |_+1,_::_,[],h=>h.elim
theorem All2.get? {α β:Type} {R:α->β->Prop}:∀{as1:List α} {bs:List β} {i:Nat} {a:α},All2 R as1 bs->as1[i]?=some a->∃b,bs[i]?=some b /\ R a b
 | _::_,b::_,0,_,h,he=>by
   simp only[List.getElem?_cons_zero,injEq]at he;subst he;exact⟨b,rfl,h.1⟩
 | _::as1,_::bs,i+1,a,h,he=>by
   simp only[List.getElem?_cons_succ]at he ⊢;exact All2.get? h.2 he
 |[],[],_,_,_,he=>by simp at he
 |[],_::_,_,_,h,_=>h.elim
 |_::_,[],_,_,h,_=>h.elim
theorem All2.get?' {α β:Type} {R:α->β->Prop} {as1:List α} {bs:List β} {i:Nat} {b:β} (h:All2 R as1 bs) (he:bs[i]?=some b):∃a,as1[i]?=some a /\ R a b:=by
 have hl:=h.length;have hi:i<as1.length:=by rw[hl];exact(List.getElem?_eq_some_iff.1 he).1
 obtain⟨b',hb,hr⟩:=h.get? (List.getElem?_eq_getElem hi);rw[he]at hb;cases hb;exact⟨_,List.getElem?_eq_getElem hi,hr⟩
theorem All2.of_get {α β:Type} {R:α->β->Prop}:∀{as1:List α} {bs:List β},as1.length=bs.length->(∀(i:Nat) a b,as1[i]?=some a->bs[i]?=some b->R a b)->All2 R as1 bs
 |[],[],_,_=>trivial
 |a::as1,b::bs,hl,h=>⟨h 0 a b rfl rfl,All2.of_get (by simpa using hl) fun i x y hx hy=>h (i+1) x y (by simpa using hx) (by simpa using hy)⟩
 |[],_::_,hl,_=>by simp at hl
 |_::_,[],hl,_=>by simp at hl
structure Hd where
 v:Value
 b:Option Nat
abbrev Bt:=Nat->Option Hd
abbrev Ks:=Nat->Option (Bool×Array Value)
def a1w (k:FloatKind) (b:Nat):Bool:=(k.decode b).isNaN
def FEq (k:FloatKind) (a b:Nat):Prop:=a=b∨(a1w k a=true /\ a1w k b=true)
theorem FEq.refl (k:FloatKind) (a:Nat):FEq k a a := .inl rfl
def sub (arr:List Value) (off n:Nat):List Value:=(arr.drop off).take n
def DR (K:Ks):(t:Ty)->Den t->List Value->Prop
 |.bool,b,vs=>vs=[.bool b]
 |.int k,n,vs=>vs=[.int k n]
 |.flt k,b,vs=>∃b',vs=[.float k b'] /\ FEq k b b'
 |.cpx k,p,vs=>∃a b,vs=[.complex k a b] /\ FEq k p.1 a /\ FEq k p.2 b
 |.str,s,vs=>vs=[.string s]
 |.slice t,l,vs=>∃a n c,vs=[.slice a n c] /\ n=l.length /\ n<=c /\
  (n=0∨∃b o arr,a=some ⟨b,o,none⟩ /\ K b=some (t.isJ,arr) /\ ∀i (h:i<l.length),DR K t l[i] (sub arr.toList (o+i*t.size) t.size))
 |.nil,_,vs=>vs=[]
 |.cons a b,p,vs=>∃v1 v2,vs=v1++v2 /\ DR K a p.1 v1 /\ DR K b p.2 v2
 |.jnk,_,vs=>∃n,vs=[.float .f32 n]
def KLe (K K':Ks):Prop:=∀b arr,K b=some arr->K' b=some arr
theorem KLe.refl (K:Ks):KLe K K:=fun _ _ h=>h
theorem KLe.trans {K K' K'':Ks} (h:KLe K K') (h':KLe K' K''):KLe K K'':=fun b arr e=>h' b arr (h b arr e)
theorem DR.mono {K K':Ks} (h:KLe K K'):∀(t:Ty) {x:Den t} {vs:List Value},DR K t x vs->DR K' t x vs:=by
 intro t
 induction t with
 | slice t ih =>
   rintro x vs ⟨a,n,c,e,hn,hc,hr⟩;refine⟨a,n,c,e,hn,hc,hr.imp id ?_⟩;rintro⟨b,o,arr,ha,hb,hi⟩;exact⟨b,o,arr,ha,h _ _ hb,fun i hl=>ih (hi i hl)⟩
 | cons a b iha ihb =>
   rintro x vs ⟨v1,v2,e,h1,h2⟩;exact⟨v1,v2,e,iha h1,ihb h2⟩
 |_=>exact fun h=>h
theorem DR.flat {K K':Ks}:∀(t:Ty) {x:Den t} {vs:List Value},c1A t=true->DR K t x vs->DR K' t x vs:=by
 intro t
 induction t with
 |slice t ih=>intro x vs h;simp[c1A]at h
 | cons a b iha ihb =>
   intro x vs h;simp only[c1A,and_eq_true]at h;rintro⟨v1,v2,e,h1,h2⟩;exact⟨v1,v2,e,iha h.1 h1,ihb h.2 h2⟩
 |_=>exact fun _ h=>h
theorem DR.length {K:Ks}:∀(t:Ty) {x:Den t} {vs:List Value},DR K t x vs->vs.length=t.size:=by
 intro t
 induction t with
 | cons a b iha ihb =>
   rintro x vs ⟨v1,v2,rfl,h1,h2⟩;simp[Ty.size,iha h1,ihb h2]
 |nil=>rintro x vs rfl;rfl
 |bool=>rintro x vs rfl;rfl
 |int k=>rintro x vs rfl;rfl
 |flt k=>rintro x vs ⟨_,rfl,_⟩;rfl
 |cpx k=>rintro x vs ⟨_,_,rfl,_⟩;rfl
 |str=>rintro x vs rfl;rfl
 |slice t ih=>rintro x vs ⟨_,_,_,rfl,_⟩;rfl
 |jnk=>rintro x vs ⟨_,rfl⟩;rfl
theorem DR.oneCell {K:Ks}:∀(t:Ty) {x:Den t} {vs:List Value},DR K t x vs->∀v∈vs,v.oneCell'=true:=by
 intro t
 induction t with
 | cons a b iha ihb =>
   rintro x vs ⟨v1,v2,rfl,h1,h2⟩ v hv;rcases List.mem_append.1 hv with hv|hv
   ·exact iha h1 v hv
   ·exact ihb h2 v hv
 |nil=>rintro x vs rfl v hv;simp at hv
 |bool=>rintro x vs rfl v hv;simp at hv;subst hv;rfl
 |int k=>rintro x vs rfl v hv;simp at hv;subst hv;rfl
 |flt k=>rintro x vs ⟨_,rfl,_⟩ v hv;simp at hv;subst hv;rfl
 |cpx k=>rintro x vs ⟨_,_,rfl,_⟩ v hv;simp at hv;subst hv;rfl
 |str=>rintro x vs rfl v hv;simp at hv;subst hv;rfl
 |slice t ih=>rintro x vs ⟨_,_,_,rfl,_⟩ v hv;simp at hv;subst hv;rfl
 |jnk=>rintro x vs ⟨_,rfl⟩ v hv;simp at hv;subst hv;rfl
def PR (β:Bt) (k off:Nat) (v:Value):Prop:=∃h b,β k=some h /\ h.v = .pointer (some ⟨b,0,none⟩) /\ v = .pointer (some ⟨b,off,none⟩)
def CR (β:Bt) (K:Ks):C->Value->Prop
 |.pois,_=>True
 |.bool b,v=>v = .bool b
 |.int k n,v=>v = .int k n
 |.flt k b,v=>∃b',v = .float k b' /\ FEq k b b'
 |.cpx k a b,v=>∃a' b',v = .complex k a' b' /\ FEq k a a' /\ FEq k b b'
 |.str s,v=>v = .string s
 |.nil _,v=>∃a,v = .slice a 0 0
 |.sl t l,v=>DR K (.slice t) l [v]
 |.ref _ k,v=>∃h a n c,β k=some h /\ h.v = .slice a n c /\ v = .slice a n c
 |.ptr k off,v=>PR β k off v
 |.eptr k t i off,v=>∃h b n c,β k=some h /\ h.v = .slice (some ⟨b,0,none⟩) n c /\ i<n /\ v = .pointer (some ⟨b,i*t.size+off,none⟩)
 |.rptr t l i off,v=>i<l.length /\ ∃b o arr,K b=some (t.isJ,arr) /\ (∀i (h:i<l.length),DR K t l[i] (sub arr.toList (o+i*t.size) t.size)) /\ v = .pointer (some ⟨b,o+i*t.size+off,none⟩)
 |.fn f caps,v=>∃cs:List Value,v = .func (.func f) #[] cs.toArray /\ All2 (fun k u=>PR β k 0 u) caps cs
 |.aptr k off m j,v=>j<m /\ PR β k (off+j) v
 |.aeptr k t i off m j,v=>j<m /\ ∃h b n c,β k=some h /\ h.v = .slice (some ⟨b,0,none⟩) n c /\ i<n /\ v = .pointer (some ⟨b,i*t.size+(off+j),none⟩)
 |.arptr t l i off m j,v=>j<m /\ i<l.length /\ ∃b o arr,K b=some (t.isJ,arr) /\ (∀i (h:i<l.length),DR K t l[i] (sub arr.toList (o+i*t.size) t.size)) /\ v = .pointer (some ⟨b,o+i*t.size+(off+j),none⟩)
 |.junk,v=>∃n,v = .float .f32 n
 |.asl t k off m,v=>∃b c,PR β k 0 (.pointer (some ⟨b,0,none⟩)) /\ m<=c /\ v = .slice (some ⟨b,off,none⟩) m c
def BLe (β β':Bt):Prop:=∀k h,β k=some h->β' k=some h
theorem BLe.refl (β:Bt):BLe β β:=fun _ _ h=>h
theorem BLe.trans {β β' β'':Bt} (h:BLe β β') (h':BLe β' β''):BLe β β'':=fun k x e=>h' k x (h k x e)
theorem PR.mono {β β':Bt} (hb:BLe β β') {k off:Nat} {v:Value} (h:PR β k off v):PR β' k off v:=by
 obtain⟨h,b,h1,h2,h3⟩:=h;exact⟨h,b,hb _ _ h1,h2,h3⟩
theorem CR.mono {β β':Bt} {K K':Ks} (hb:BLe β β') (hk:KLe K K') {c:C} {v:Value} (h:CR β K c v):CR β' K' c v:=by
 cases c with
 |sl t l=>exact DR.mono hk _ h
 |ref t k=>obtain⟨x,a,n,c,h1,h2⟩:=h;exact⟨x,a,n,c,hb _ _ h1,h2⟩
 |ptr k o=>exact PR.mono hb h
 |eptr k t i o=>obtain⟨x,b,n,c,h1,h2⟩:=h;exact⟨x,b,n,c,hb _ _ h1,h2⟩
 | rptr t l i o =>
   obtain⟨hi,b,o',arr,h1,h2,h3⟩:=h;exact⟨hi,b,o',arr,hk _ _ h1,fun j hj=>DR.mono hk _ (h2 j hj),h3⟩
 |fn f caps=>obtain⟨cs,h1,h2⟩:=h;exact⟨cs,h1,h2.mono fun _ _=>PR.mono hb⟩
 |aptr k o m j=>exact⟨h.1,PR.mono hb h.2⟩
 |aeptr k t i o m j=>obtain⟨h0,x,b,n,c,h1,h2⟩:=h;exact⟨h0,x,b,n,c,hb _ _ h1,h2⟩
 | arptr t l i o m j =>
   obtain⟨hj,hi,b,o',arr,h1,h2,h3⟩:=h;exact⟨hj,hi,b,o',arr,hk _ _ h1,fun j hj=>DR.mono hk _ (h2 j hj),h3⟩
 |asl t k o m=>obtain⟨b,c,h1,h2⟩:=h;exact⟨b,c,PR.mono hb h1,h2⟩
 |_=>exact h
theorem CR.oneCell {β:Bt} {K:Ks} {c:C} {v:Value} (hs:c1B c=true) (h:CR β K c v):v.oneCell'=true:=by
 cases c with
 |pois=>simp[c1B]at hs
 |bool b=>rw[show v=_ from h];rfl
 |int k n=>rw[show v=_ from h];rfl
 |flt k b=>obtain⟨_,rfl,_⟩:=h;rfl
 |cpx k a b=>obtain⟨_,_,rfl,_⟩:=h;rfl
 |str s=>rw[show v=_ from h];rfl
 |nil t=>obtain⟨_,rfl⟩:=h;rfl
 |sl t l=>exact DR.oneCell _ h v (by simp)
 |ref t k=>obtain⟨_,_,_,_,_,_,rfl⟩:=h;rfl
 |ptr k o=>obtain⟨_,_,_,_,rfl⟩:=h;rfl
 |eptr k t i o=>obtain⟨_,_,_,_,_,_,_,rfl⟩:=h;rfl
 |rptr t l i o=>obtain⟨_,_,_,_,_,_,rfl⟩:=h;rfl
 |fn f caps=>obtain⟨_,rfl,_⟩:=h;rfl
 |aptr k o m j=>obtain⟨_,_,_,_,_,rfl⟩:=h;rfl
 |aeptr k t i o m j=>obtain⟨_,_,_,_,_,_,_,_,rfl⟩:=h;rfl
 |asl t k o m=>obtain⟨_,_,_,_,rfl⟩:=h;rfl
 |arptr t l i o m j=>obtain⟨_,_,_,_,_,_,_,rfl⟩:=h;rfl
 |junk=>obtain⟨_,rfl⟩:=h;rfl
def WR (β:Bt) (K:Ks):W->Value->Prop
 |.one c,v=>CR β K c v
 |.agg cs,v=>∃arr:Array Value,v = .agg arr /\ All2 (CR β K) cs arr.toList
def VR (β:Bt) (K:Ks):V->Value->Prop
 |.val w,v=>WR β K w v
 |.tup ws,v=>∃arr:Array Value,v = .tuple arr /\ All2 (WR β K) ws arr.toList
theorem WR.mono {β β':Bt} {K K':Ks} (hb:BLe β β') (hk:KLe K K') {w:W} {v:Value} (h:WR β K w v):WR β' K' w v:=by
 cases w with
 |one c=>exact CR.mono hb hk h
 |agg cs=>obtain⟨arr,e,h⟩:=h;exact⟨arr,e,h.mono fun _ _=>CR.mono hb hk⟩
theorem VR.mono {β β':Bt} {K K':Ks} (hb:BLe β β') (hk:KLe K K') {w:V} {v:Value} (h:VR β K w v):VR β' K' w v:=by
 cases w with
 |val w=>exact WR.mono hb hk h
 |tup ws=>obtain⟨arr,e,h⟩:=h;exact⟨arr,e,h.mono fun _ _=>WR.mono hb hk⟩
theorem WR.cells {β:Bt} {K:Ks} {w:W} {v:Value} (hs:w.cells.all c1B=true) (h:WR β K w v):All2 (CR β K) w.cells v.cells.toList:=by
 cases w with
 | one c =>
   have hc:c1B c=true:=by simpa[W.cells]using hs
   have h1:=CR.oneCell hc h;have hv:v.cells=#[v]:=by cases v<;>simp_all[Value.cells,Value.oneCell']
   rw[hv];exact⟨h,trivial⟩
 |agg cs=>obtain⟨arr,rfl,h⟩:=h;exact h
theorem All2.oneCell {β:Bt} {K:Ks}:∀{cs:List C} {vs:List Value},cs.all c1B=true->All2 (CR β K) cs vs->∀v∈vs,v.oneCell'=true
 |[],[],_,_=>by simp
 | c::cs,v::vs,hs,h=>by
   simp only[List.all_cons,and_eq_true]at hs;intro x hx;rcases List.mem_cons.1 hx with rfl|hx
   ·exact CR.oneCell hs.1 h.1
   ·exact All2.oneCell hs.2 h.2 x hx
 |[],_::_,_,h=>h.elim
 |_::_,[],_,h=>h.elim
theorem b7S:∀(t:Ty) (x:Den t),(enc t x).length=t.size:=by
 intro t
 induction t with
 |cons a b iha ihb=>intro x;simp[enc,Ty.size,iha,ihb]
 |_=>intro x;rfl
theorem DR.enc {β:Bt} {K:Ks}:∀(t:Ty) {x:Den t} {vs:List Value},DR K t x vs->All2 (CR β K) (AM.enc t x) vs:=by
 intro t
 induction t with
 | cons a b iha ihb =>
   rintro x vs ⟨v1,v2,rfl,h1,h2⟩;exact(iha h1).append (ihb h2)
 |nil=>rintro x vs rfl;trivial
 |bool=>rintro x vs rfl;exact⟨rfl,trivial⟩
 |int k=>rintro x vs rfl;exact⟨rfl,trivial⟩
 |flt k=>rintro x vs ⟨b,rfl,h⟩;exact⟨⟨b,rfl,h⟩,trivial⟩
 |cpx k=>rintro x vs ⟨a,b,rfl,h,h'⟩;exact⟨⟨a,b,rfl,h,h'⟩,trivial⟩
 |str=>rintro x vs rfl;exact⟨rfl,trivial⟩
 | slice t ih =>
   rintro x vs h;obtain⟨a,n,c,rfl,h⟩:=h;exact⟨⟨a,n,c,rfl,h⟩,trivial⟩
 |jnk=>rintro x vs ⟨n,rfl⟩;exact⟨⟨n,rfl⟩,trivial⟩
theorem b2L {β : Bt} {K:Ks}:∀(t:Ty) {cs r:List C} {x:Den t} {vs:List Value},dec t cs=some (x,r)->All2 (CR β K) cs vs ->
 ∃v1 v2,vs=v1++v2 /\ DR K t x v1 /\ All2 (CR β K) r v2:=by
 intro t
 induction t with
 | cons a b iha ihb =>
   intro cs r x vs hd h;simp only[dec]at hd;split at hd
   ·rename_i y r' h1;split at hd
    ·rename_i z r'' h2;simp only[injEq,Prod.mk.injEq]at hd;obtain⟨rfl,rfl⟩:=hd;obtain⟨v1,v2,rfl,d1,h⟩:=iha h1 h;obtain⟨v3,v4,rfl,d2,h⟩:=ihb h2 h;exact⟨v1++v3,v4,by simp,⟨v1,v3,rfl,d1,d2⟩,h⟩
    ·cases hd
   ·cases hd
 | nil =>
   intro cs r x vs hd h;simp only[dec,injEq,Prod.mk.injEq]at hd;obtain⟨-,rfl⟩:=hd;exact⟨[],vs,rfl,rfl,h⟩
 | bool =>
   intro cs r x vs hd h;cases cs with
   |nil=>simp[dec]at hd
   | cons c cs => cases c<;>simp[dec]at hd
                  cases vs with
                  |nil=>exact h.elim
                  | cons v vs =>
                    obtain⟨rfl,rfl⟩:=hd;obtain⟨h1,h2⟩:=h;exact⟨[v],vs,rfl,by rw[show v=_ from h1];rfl,h2⟩
 | int k =>
   intro cs r x vs hd h;cases cs with
   |nil=>simp[dec]at hd
   | cons c cs => cases c<;>simp[dec]at hd
                  cases vs with
                  |nil=>exact h.elim
                  | cons v vs =>
                    obtain⟨rfl,rfl,rfl⟩:=hd;obtain⟨h1,h2⟩:=h;exact⟨[v],vs,rfl,by rw[show v=_ from h1];rfl,h2⟩
 | flt k =>
   intro cs r x vs hd h;cases cs with
   |nil=>simp[dec]at hd
   | cons c cs => cases c<;>simp[dec]at hd
                  cases vs with
                  |nil=>exact h.elim
                  | cons v vs =>
                    obtain⟨rfl,rfl,rfl⟩:=hd;obtain⟨⟨b',rfl,h1⟩,h2⟩:=h;exact⟨[_],vs,rfl,⟨b',rfl,h1⟩,h2⟩
 | cpx k =>
   intro cs r x vs hd h;cases cs with
   |nil=>simp[dec]at hd
   | cons c cs => cases c<;>simp[dec]at hd
                  cases vs with
                  |nil=>exact h.elim
                  | cons v vs =>
                    obtain⟨rfl,rfl,rfl⟩:=hd;obtain⟨⟨a',b',rfl,h1,h3⟩,h2⟩:=h;exact⟨[_],vs,rfl,⟨a',b',rfl,h1,h3⟩,h2⟩
 | str =>
   intro cs r x vs hd h;cases cs with
   |nil=>simp[dec]at hd
   | cons c cs => cases c<;>simp[dec]at hd
                  cases vs with
                  |nil=>exact h.elim
                  | cons v vs =>
                    obtain⟨rfl,rfl⟩:=hd;obtain⟨h1,h2⟩:=h;exact⟨[v],vs,rfl,by rw[show v=_ from h1];rfl,h2⟩
 | slice t ih =>
   intro cs r x vs hd h;cases cs with
   |nil=>simp[dec]at hd
   | cons c cs =>
     cases c with
     | sl t' l =>
       simp only[dec]at hd;split at hd
       ·rename_i e _;subst e;simp only[injEq,Prod.mk.injEq]at hd;obtain⟨rfl,rfl⟩:=hd;cases vs with
        |nil=>exact h.elim
        |cons v vs=>exact⟨[v],vs,rfl,h.1,h.2⟩
       ·cases hd
     | nil t' =>
       simp only[dec,injEq,Prod.mk.injEq]at hd;obtain⟨rfl,rfl⟩:=hd;cases vs with
       |nil=>exact h.elim
       | cons v vs =>
         obtain⟨⟨a,rfl⟩,h2⟩:=h;exact⟨[_],vs,rfl,⟨a,0,0,rfl,rfl,le_refl _,.inl rfl⟩,h2⟩
     |_=>simp[dec]at hd
 | jnk =>
   intro cs r x vs hd h;cases cs with
   |nil=>simp[dec]at hd
   |cons c cs=>cases c<;>simp[dec]at hd
def BR (β:Bt) (K:Ks):Blk->Hd->World->Prop
 |.box cs,h,w=>∃b arr T,h=⟨.pointer (some ⟨b,0,none⟩),some b⟩ /\ w.heap[b]?=some (.cells arr T (0,0)) /\ All2 (CR β K) cs arr.toList
 |.arr t l,h,w=>(l=[] /\ ∃a,h=⟨.slice a 0 0,none⟩) ∨
  ∃ b cap cur T,h=⟨.slice (some ⟨b,0,none⟩) l.length cap,some b⟩ /\ w.heap[b]?=some (.cells cur T (0,0)) /\ l.length<=cap /\ cap<=maxLen /\ cur.size=cap*t.size /\
    ∀i (h:i<l.length),DR K t l[i] (sub cur.toList (i*t.size) t.size)
def VJ (v u:Value):Prop:=v=u∨∃m n,v = .float .f32 m /\ u = .float .f32 n
def e6M:Int->List (Nat×Array Value):=fun m=>[(1,#[.int .i64 m]),(2,((List.range 20).map fun i=>Value.int .u64 ((10^i:Nat):Int)).toArray)]
def GK (K:Ks):Prop:=∃m:Int,∀x∈e6M m,K x.1=some (false,x.2)
theorem GK.mono {K K':Ks} (h:KLe K K') (hg:GK K):GK K':=by
 obtain⟨m,hm⟩:=hg;exact⟨m,fun x hx=>h _ _ (hm x hx)⟩
structure KOK (K:Ks) (w:World):Prop where
 ato:∀b x,K b=some x->∃cur T fz,w.heap[b]?=some (.cells cur T fz) /\ (x.1=false->cur=x.2) /\ (x.1=true->fz=(0,0) /\ All2 VJ x.2.toList cur.toList)
 gk:GK K
theorem All2.refl {α:Type} {R:α->α->Prop} (hr:∀x,R x x):∀(l:List α),All2 R l l
 |[]=>trivial
 |x::r=>⟨hr x,All2.refl hr r⟩
theorem KOK.self {fl:Bool} {cur:Array Value} {fz:Nat×Nat} (h:fl=true->fz=(0,0)):(fl=false->cur=cur) /\ (fl=true->fz=(0,0) /\ All2 VJ cur.toList cur.toList):=
 ⟨fun _=>rfl,fun e=>⟨h e,All2.refl (fun _ => .inl rfl) _⟩⟩
theorem KOK.see {K:Ks} {w:World} (h:KOK K w) {t:Ty} {b:Nat} {arr:Array Value} (e:K b=some (t.isJ,arr)):∃cur T fz,w.heap[b]?=some (.cells cur T fz) /\ cur.size=arr.size /\
 ∀o x,DR K t x (sub arr.toList o t.size)->DR K t x (sub cur.toList o t.size):=by
 obtain⟨cur,T,fz,hh,h1,h2⟩:=h.ato b _ e;refine⟨cur,T,fz,hh,?_⟩;cases t with
 | jnk =>
   have h3:=(h2 rfl).2;refine⟨by simpa using h3.length.symm,fun o x hd=>?_⟩;obtain⟨n,hn⟩:=hd;have h4:arr.toList[o]?=some (.float .f32 n):=by
    have:=congrArg (·[0]?) hn;simpa[sub,Ty.size]using this
   obtain⟨u,h5,h6⟩:=h3.get? h4;have h7:∃m,u = .float .f32 m:=by
    rcases h6 with rfl|⟨_,m,_,rfl⟩
    ·exact⟨n,rfl⟩
    ·exact⟨m,rfl⟩
   obtain⟨m,rfl⟩:=h7;refine⟨m,?_⟩;have ho:o<cur.toList.length:=(List.getElem?_eq_some_iff.1 h5).1;have h8:cur.toList[o] = .float .f32 m:=by rw[List.getElem?_eq_getElem ho]at h5;simpa using h5
   unfold sub;rw[List.drop_eq_getElem_cons ho,h8];simp[Ty.size]
 | _ =>
   have h3:=h1 rfl;subst h3;exact⟨rfl,fun o x hd=>hd⟩
def Jk (K:Ks) (x:Nat):Prop:=∃arr,K x=some (true,arr)
structure MR (β:Bt) (K:Ks) (get:Get) (w:World):Prop where
 blk:∀k b,get k=some b->∃h,β k=some h /\ BR β K b h w
 sep:∀k k' b b' h h' x,get k=some b->get k'=some b'->β k=some h->β k'=some h'->h.b=some x->h'.b=some x->k=k'
 ro:∀k b h x,get k=some b->β k=some h->h.b=some x->K x=none
def Own (β:Bt) (get:Get) (x:Nat):Prop:=∃k b h,get k=some b /\ β k=some h /\ h.b=some x
def e0E (β:Bt) (K:Ks) (get:Get) (x:Nat):Prop:=Own β get x∨Jk K x
structure Fr (S:Nat->Prop) (w0 w:World):Prop where
 os:w.os=w0.os
 tape:w.tape=w0.tape
 output:w.output=w0.output
 size:w0.heap.size<=w.heap.size
 block:∀b,b<w0.heap.size->¬S b->w.heap[b]?=w0.heap[b]?
theorem Fr.refl (S:Nat->Prop) (w:World):Fr S w w:=⟨rfl,rfl,rfl,le_refl _,fun _ _ _=>rfl⟩
theorem Fr.trans {S S':Nat->Prop} {a b c:World} (h:Fr S a b) (h':Fr S' b c) (hs:∀x,x<a.heap.size->S' x->S x):Fr S a c:=
 ⟨h'.os.trans h.os,h'.tape.trans h.tape,h'.output.trans h.output,Nat.le_trans h.size h'.size,fun k hk hn=>
  (h'.block k (Nat.lt_of_lt_of_le hk h.size) fun e=>hn (hs k hk e)).trans (h.block k hk hn)⟩
theorem BR.mono {β β':Bt} {K K':Ks} (hb:BLe β β') (hk:KLe K K') {b:Blk} {h:Hd} {w:World} (hr:BR β K b h w):BR β' K' b h w:=by
 cases b with
 |box cs=>obtain⟨x,arr,T,e,hh,hc⟩:=hr;exact⟨x,arr,T,e,hh,hc.mono fun _ _=>CR.mono hb hk⟩
 | arr t l =>
   rcases hr with hr|⟨x,cap,cur,T,e,hh,h1,h2,h3,h4⟩
   ·exact .inl hr
   ·exact .inr ⟨x,cap,cur,T,e,hh,h1,h2,h3,fun i hi=>DR.mono hk _ (h4 i hi)⟩
theorem BR.world {β:Bt} {K:Ks} {b:Blk} {h:Hd} {w w':World} (hr:BR β K b h w) (hw:∀x,h.b=some x->w'.heap[x]?=w.heap[x]?):BR β K b h w':=by
 cases b with
 |box cs=>obtain⟨x,arr,T,rfl,hh,hc⟩:=hr;exact⟨x,arr,T,rfl,by rw[hw x rfl];exact hh,hc⟩
 | arr t l =>
   rcases hr with hr|⟨x,cap,cur,T,rfl,hh,h1⟩
   ·exact .inl hr
   ·exact .inr ⟨x,cap,cur,T,rfl,by rw[hw x rfl];exact hh,h1⟩
theorem BR.lt {β:Bt} {K:Ks} {b:Blk} {h:Hd} {w:World} (hr:BR β K b h w) {x:Nat} (hx:h.b=some x):x<w.heap.size:=by
 cases b with
 |box cs=>obtain⟨y,arr,T,rfl,hh,hc⟩:=hr;cases hx;exact(Array.getElem?_eq_some_iff.1 hh).1
 | arr t l =>
   rcases hr with⟨_,a,rfl⟩|⟨y,cap,cur,T,rfl,hh,h1⟩
   ·cases hx
   ·cases hx;exact(Array.getElem?_eq_some_iff.1 hh).1
theorem KOK.lt {K:Ks} {w:World} (h:KOK K w) {b:Nat} {arr:Bool×Array Value} (e:K b=some arr):b<w.heap.size:=by
 obtain⟨cur,T,fz,hh,_⟩:=h.ato b arr e;exact(Array.getElem?_eq_some_iff.1 hh).1
def d1k:TypeDesc->Bool
 |.struct _|.array _ _=>true
 |_=>false
def b7T (P:Program) (fs:Array Field) (l:List (Nat×Nat×Bool)):Prop:=
 All2 (fun(f:Field) (x:Nat×Nat×Bool)=>f.offset=x.1 /\ ∃fi fd,P.info? f.type=some fi /\ fi.size=x.2.1 /\ P.underlying f.type=some fd /\ d1k fd=x.2.2) fs.toList l
def a1J (P:Program) (d:TypeDesc) (ti:TI):Prop:=match ti.sort with
 |.slice=>d = .slice ti.elem
 |.array n=>d = .array n ti.elem
 |.string=>d = .string
 |.struct=>∃fs,d = .struct fs /\ b7T P fs ti.fields
 |.bool=>d = .bool
 |.int k=>d = .int k
 |.float k=>d = .float k
 |.complex k=>d = .complex k
 |.other=>True
def ZR (c:C) (v:Value):Prop:=∀β K,CR β K c v
structure e5A (P:Program) (t:Nat) (ti:TI):Prop where
 ex:∃i d z,P.info? t=some i /\ P.underlying t=some d /\ i.zero=some z /\ i.size=ti.size /\ i.bytes=ti.bytes /\ d1k d=ti.agg /\
  All2 ZR ti.zero z.cells.toList /\ a1J P d ti /\ (ti.ty.size=ti.size->∀K,DR K ti.ty (zero ti.ty) z.cells.toList) /\ z.cells.size=i.size
structure e6N (P:Program) (t:Nat):Prop where
 guard:P.eqGuardType P.depth t=false
 eq:∀(cs ds:List C) (xs ys:Array Value) (b:Bool) (β:Bt) (K:Ks) (w:World),(∀i,P.info? t=some i->cs.length=i.size /\ ∃z zs,i.zero=some z /\ All2 ZR zs z.cells.toList /\ a8n zs cs=true)->a2P cs ds=some b->All2 (CR β K) cs xs.toList->All2 (CR β K) ds ys.toList ->
  (Op.equalIn 10000 t (.agg xs) (.agg ys)).run P w = .ok b w
def a7b (β:Bt) (K:Ks) (ws:List W) (v:Value):Prop:=VR β K (d1h ws) v
def a1W (ins:List Blk):Get:=fun k=>ins[k]?
structure Ret (ins:List Blk) (outs:List (Option Blk)) (rs:List W) (β0:Bt) (K0:Ks) (w0:World) (v:Value) (w':World) (β:Bt) (K:Ks):Prop where
 kle:KLe K0 K
 kok:KOK K w'
 knew:∀b arr,K b=some arr->K0 b=some arr∨Own β0 (a1W ins) b∨w0.heap.size<=b
 mr:MR β K (a2q outs) w'
 fresh:∀k,outs.length<=k->β k=none
 out:a7b β K rs v
 fr:Fr (e0E β0 K0 (a1W ins)) w0 w'
 own:∀x,Own β (a2q outs) x->Own β0 (a1W ins) x∨w0.heap.size<=x
 ble:BLe β0 β
 le:ins.length<=outs.length
def c3C (P:Program) (f:Nat) (sm:a6e):Prop:=
 ∀(args:List W) (ins:List Blk) (rs:List W) (outs:List (Option Blk)),sm.run args ins=some (true,rs,outs) ->
 ∀(β0:Bt) (K0:Ks) (w0:World) (vs:Array Value),KOK K0 w0->MR β0 K0 (a1W ins) w0->(∀k,ins.length<=k->β0 k=none)->All2 (WR β0 K0) args vs.toList ->
 Calls P f vs w0 fun e w'=>∃v β K,e = .returned v /\ Ret ins outs rs β0 K0 w0 v w' β K
structure e0F (P:Program) (f:Nat):Prop where
 body:∃fn,P.funcs[f]?=some fn /\ fn.body.isSome=true /\ (fn.name == "runtime.NumGoroutine")=false
structure a1g (P:Program) (Γ:Env):Prop where
 tab:∀t ti,Γ.tab t=some ti->e5A P t ti
 sem:∀f sm,Γ.sem f=some sm->c3C P f sm /\ e0F P f
 eq:∀t,Γ.eqT t=true->e6N P t
 mixed:P.follows .mixedOrders=true
def a4O (upd:List (Nat×Option Blk)) (get:Get):Get:=fun k=>match a1D upd k with
 |some b=>b
 |none=>get k
structure a8q (β:Bt) (K:Ks) (get:Get) (n:Nat) (w:World) (out:Out) (v:Value) (w':World) (β':Bt) (K':Ks):Prop where
 ble:BLe β β'
 kle:KLe K K'
 kok:KOK K' w'
 vr:VR β' K' out.v v
 mr:MR β' K' (a4O out.upd get) w'
 fresh:∀k,out.n<=k->β' k=none
 le:n<=out.n
 fr:Fr (e0E β K get) w w'
 own:∀x,Own β' (a4O out.upd get) x->Own β get x∨w.heap.size<=x
 knew:∀b arr,K' b=some arr->K b=some arr∨Own β get b∨w.heap.size<=b
 dom:∀k,k<n->β' k=β k
def a0Q (β:Bt) (K:Ks) (get:Get) (n:Nat) (w:World) (out:Out) (v:Value) (w':World):Prop:=∃β' K',a8q β K get n w out v w' β' K'
structure a0p (w w':World):Prop where
 heap:w'.heap=w.heap
 os:w'.os=w.os
 tape:w'.tape=w.tape
 output:w'.output=w.output
theorem a0p.refl (w:World):a0p w w:=⟨rfl,rfl,rfl,rfl⟩
theorem KOK.still {K:Ks} {w w':World} (h:KOK K w) (s:a0p w w'):KOK K w':=⟨fun b arr e=>by rw[s.heap];exact h.ato b arr e,h.gk⟩
theorem MR.world {β:Bt} {K:Ks} {get:Get} {w w':World} (h:MR β K get w) (hw:∀x,Own β get x->w'.heap[x]?=w.heap[x]?):MR β K get w':=
 ⟨fun k b e=>by
  obtain⟨x,e1,e2⟩:=h.blk k b e;exact⟨x,e1,e2.world fun y hy=>hw y ⟨k,b,x,e,e1,hy⟩⟩,h.sep,h.ro⟩
theorem MR.still {β:Bt} {K:Ks} {get:Get} {w w':World} (h:MR β K get w) (s:a0p w w'):MR β K get w':=h.world fun _ _=>by rw[s.heap]
theorem Fr.still {S:Nat->Prop} {w w':World} (s:a0p w w'):Fr S w w':=⟨s.os,s.tape,s.output,by rw[s.heap];exact le_refl _,fun _ _ _=>by rw[s.heap]⟩
theorem a8q.pure {β:Bt} {K:Ks} {get:Get} {n:Nat} {w w':World} {v:V} {u:Value} {ok:Bool} (hk:KOK K w) (hm:MR β K get w) (hf:∀k,n<=k->β k=none) (s:a0p w w') (hv:VR β K v u) :
 a0Q β K get n w ⟨ok,v,[],n⟩ u w':=
 ⟨β,K,BLe.refl _,KLe.refl _,hk.still s,hv,hm.still s,hf,le_refl _,Fr.still s,fun x h => .inl h,fun _ _ e => .inl e,fun _ _=>rfl⟩
def a9P (β:Bt) (n:Nat) (h:Hd):Bt:=fun k=>if k=n then some h else β k
theorem BLe.add {β:Bt} {n:Nat} (h:Hd) (hn:β n=none):BLe β (a9P β n h):=by
 intro k x e;unfold a9P;split
 ·rename_i he;subst he;rw[hn]at e;cases e
 ·exact e
theorem a0A (β:Bt) (n:Nat) (h:Hd):a9P β n h n=some h:=by simp[a9P]
theorem a1a (β:Bt) {n k:Nat} (h:Hd) (e:k≠n):a9P β n h k=β k:=by simp[a9P,e]
theorem MR.lt {β:Bt} {K:Ks} {get:Get} {w:World} (h:MR β K get w) {x:Nat} (o:Own β get x):x<w.heap.size:=by
 obtain⟨k,b,y,e1,e2,e3⟩:=o;obtain⟨z,e4,e5⟩:=h.blk k b e1;rw[e2]at e4;cases e4;exact e5.lt e3
theorem MR.nj {β:Bt} {K:Ks} {get:Get} {w:World} (h:MR β K get w) {k:Nat} {b:Blk} {y:Hd} {x:Nat} (e:get k=some b) (f:β k=some y) (g:y.b=some x):¬Jk K x:=by
 rintro⟨_,h1⟩;rw[h.ro k b y x e f g]at h1;cases h1
theorem MR.step {β β':Bt} {K K':Ks} {get get':Get} {w w':World} (h:MR β K get w) (hb:BLe β β') (hk:KLe K K')
 (cases:∀k b,get' k=some b ->
  (get k=some b /\ ∀x y,β k=some y->y.b=some x->w'.heap[x]?=w.heap[x]? /\ K' x=none) ∨
  (∃y,β' k=some y /\ BR β' K' b y w' /\ ∀x,y.b=some x->K' x=none /\ ∀k' b' y',get' k'=some b'->β' k'=some y'->y'.b=some x->k'=k)):MR β' K' get' w':=by
 refine⟨?_,?_,?_⟩
 ·intro k b e;rcases cases k b e with⟨e1,e2⟩|⟨y,e1,e2,_⟩
  ·obtain⟨y,e3,e4⟩:=h.blk k b e1;exact⟨y,hb _ _ e3,(e4.world fun x hx=>(e2 x y e3 hx).1).mono hb hk⟩
  ·exact⟨y,e1,e2⟩
 ·intro k k' b b' y y' x e e' f f' g g';rcases cases k b e with⟨e1,e2⟩|⟨z,e1,_,e3⟩
  ·rcases cases k' b' e' with⟨e1',e2'⟩|⟨z',e1',_,e3'⟩
   ·obtain⟨u,e4,_⟩:=h.blk k b e1;obtain⟨u',e4',_⟩:=h.blk k' b' e1';have h1:=hb _ _ e4;have h2:=hb _ _ e4';rw[f]at h1;rw[f']at h2;cases h1;cases h2;exact h.sep k k' b b' _ _ x e1 e1' e4 e4' g g'
   ·rw[f']at e1';cases e1';exact(e3' x g').2 k b y e f g
  ·rw[f]at e1;cases e1;exact((e3 x g).2 k' b' y' e' f' g').symm
 ·intro k b y x e f g;rcases cases k b e with⟨e1,e2⟩|⟨z,e1,_,e3⟩
  ·obtain⟨u,e4,_⟩:=h.blk k b e1;have h1:=hb _ _ e4;rw[f]at h1;cases h1;exact(e2 x y e4 g).2
  ·rw[f]at e1;cases e1;exact(e3 x g).1
theorem a1A {a b:Nat} (h:a≠b):beq a b=false:=by
 cases e:beq a b with
 |false=>rfl
 |true=>exact absurd (Nat.eq_of_beq_eq_true e) h
theorem a0g {a b:Nat} (h:beq a b=true):a=b:=Nat.eq_of_beq_eq_true h
theorem b1o {k:Nat} {b:Option Blk} {get:Get} {j:Nat} {c:Blk} (h:a4O [(k,b)] get j=some c):(j=k /\ b=some c)∨(j≠k /\ get j=some c):=by
 unfold a4O at h;by_cases e:k=j
 ·subst e;simp[a1D]at h;exact .inl ⟨rfl,h⟩
 ·have:beq k j=false:=a1A e;simp[a1D,this]at h;exact .inr ⟨fun x=>e x.symm,h⟩
theorem a0B {k:Nat} {b:Option Blk} {r:List (Nat×Option Blk)} {get:Get} {j:Nat} {c:Blk} (h:a4O ((k,b)::r) get j=some c):(j=k /\ b=some c)∨(j≠k /\ a4O r get j=some c):=by
 unfold a4O at h;by_cases e:k=j
 ·subst e;simp[a1D]at h;exact .inl ⟨rfl,h⟩
 ·have:beq k j=false:=a1A e;simp only[a1D,this]at h;exact .inr ⟨fun x=>e x.symm,h⟩
theorem a1o {ks:List Nat} {get:Get} {j:Nat} {c:Blk} (h:a4O (ks.map fun k=>(k,none)) get j=some c):j ∉ ks /\ get j=some c:=by
 induction ks with
 |nil=>exact⟨by simp,h⟩
 | cons k ks ih =>
   rcases a0B (by simpa using h)with⟨_,e⟩|⟨e1,e2⟩
   ·cases e
   ·obtain⟨h1,h2⟩:=ih e2;exact⟨by simp[e1,h1],h2⟩
theorem a1G (w:World) (o:Obj):(w.alloc o).heap[w.heap.size]?=some o:=by
 show(w.heap.push o)[w.heap.size]?=_;simp
theorem a4k (w:World) (o:Obj) {i:Nat} (h:i<w.heap.size):(w.alloc o).heap[i]?=w.heap[i]?:=by
 show(w.heap.push o)[i]?=_;rw[Array.getElem?_push,if_neg (by omega)]
theorem KOK.alloc {K:Ks} {w:World} (h:KOK K w) (o:Obj):KOK K (w.alloc o):=⟨fun b arr e=>by
 obtain⟨cur,T,fz,h1,h2⟩:=h.ato b arr e;exact⟨cur,T,fz,by rw[a4k w o (h.lt e)];exact h1,h2⟩,h.gk⟩
theorem Fr.alloc (S:Nat->Prop) (w:World) (o:Obj):Fr S w (w.alloc o):=⟨rfl,rfl,rfl,by simp,fun b hb _=>a4k w o hb⟩
theorem a8q.alloc {β:Bt} {K K':Ks} {get:Get} {n:Nat} {w w1:World} {b:Blk} {ok:Bool} {arr:Array Value} {T:TypeId} {h:Hd} {v:V} {gone:List Nat}
 (hk:KOK K w) (hm:MR β K get w) (hf:∀k,n<=k->β k=none) (s:a0p w w1) (hk':KLe K K') (hkok:KOK K' w)
 (hgone:∀k c x y,get k=some c->k ∉ gone->β k=some y->y.b=some x->K' x=none)
 (hh:h.b=some w.heap.size)
 (hb:BR (a9P β n h) K' b h (w1.alloc (.cells arr T))) (hv:VR (a9P β n h) K' v h.v)
 (hnew:∀b arr,K' b=some arr->K b=some arr∨Own β get b∨w.heap.size<=b:=by exact fun _ _ e => .inl e) :
 a0Q β K get n w ⟨ok,v,(n,some b)::gone.map (fun k=>(k,none)),n+1⟩ h.v (w1.alloc (.cells arr T)):=by
 have hn:β n=none:=hf n (le_refl _);have hle:=BLe.add h hn;have hsz:w1.heap.size=w.heap.size:=by rw[s.heap]
 have hold:∀x,x<w.heap.size->(w1.alloc (.cells arr T)).heap[x]?=w.heap[x]?:=fun x hx=>by
  rw[a4k w1 _ (by omega),s.heap]
 refine⟨a9P β n h,K',hle,hk',?_,hv,?_,?_,by simp,⟨s.os,s.tape,s.output,by simp[s.heap],fun x hx _=>hold x hx⟩,?_,hnew,fun k hk=>a1a _ _ (by omega)⟩
 ·exact(hkok.still s).alloc _
 ·refine hm.step hle hk' ?_;intro k c e;rcases a0B e with⟨rfl,e1⟩|⟨e1,e2⟩
  ·cases e1;refine .inr ⟨h,a0A ..,hb,fun x hx=>?_⟩;rw[hh]at hx;cases hx;refine⟨?_,?_⟩
   ·cases hq:K' w.heap.size with
    |none=>rfl
    |some a=>exact absurd (hkok.lt hq) (by omega)
   ·intro k' b' y' e' f' g';rcases a0B e' with⟨rfl,_⟩|⟨e3,e4⟩
    ·rfl
    ·obtain⟨_,e5⟩:=a1o e4;rw[a1a _ _ e3]at f';have:=hm.lt ⟨k',b',y',e5,f',g'⟩;omega
  ·obtain⟨e3,e4⟩:=a1o e2;refine .inl ⟨e4,fun x y f g=>⟨hold x (hm.lt ⟨k,c,y,e4,f,g⟩),hgone k c x y e4 e3 f g⟩⟩
 ·intro k hkk;rw[a1a _ _ (by simp at hkk;omega)];exact hf k (by simp at hkk;omega)
 ·rintro x ⟨k,c,y,e,f,g⟩;rcases a0B e with⟨rfl,e1⟩|⟨e1,e2⟩
  ·rw[a0A]at f;cases f;rw[hh]at g;cases g;exact .inr (le_refl _)
  ·obtain⟨_,e4⟩:=a1o e2;rw[a1a _ _ e1]at f;exact .inl ⟨k,c,y,e4,f,g⟩
def a0m (P:Program) (o:Oper) (a:Act) (w:World) (post:Value->World->Prop):Prop:=
 ∀(next:Act->World->Prop) (Q:Exit->Act->World->Prop),(∀v w',post v w'->next (a.put o.dst v) w')->o.wp P a w next Q
theorem a0m.value {P:Program} {o:Oper} {a:Act} {w w':World} {v:Value} {post:Value->World->Prop} (h:(execOp a.eval o).run P w = .ok (.value v) w') (hp:post v w'):a0m P o a w post:=by
 intro next Q hn;simp only[Oper.wp,h,Oper.upon];exact hn v w' hp
theorem a0m.skip {P:Program} {o:Oper} {a:Act} {w w':World} {post:Value->World->Prop} (h:(execOp a.eval o).run P w = .ok .skip w') (hp:post undef w'):a0m P o a w post:=by
 intro next Q hn;simp only[Oper.wp,h,Oper.upon];exact hn undef w' hp
theorem a1p {P:Program} {o:Oper} {ρ:Operand->Value} {w w':World} {v:Value} {s:Sem Value} (he:execOp ρ o=(do let x <- s;pure (Next.value x))) (h:s.run P w = .ok v w') :
 (execOp ρ o).run P w = .ok (.value v) w':=by
 rw[he];simp[h]
theorem a2Q (b off j:Nat):(⟨b,off,none⟩:Addr).add j=⟨b,off+j,none⟩:=by unfold Addr.add;split<;>simp_all
theorem b0e {P:Program} {t:TypeId} {d:TypeDesc} (h:P.underlying t=some d) (w:World):(isAgg t).run P w = .ok (d1k d) w:=by
 unfold isAgg;rw[Sem.run_bind,run_underlying h w];cases d<;>rfl
theorem a1b {P:Program} {t:TypeId} {i:TypeInfo} (h:P.info? t=some i) (w:World):(Go.sizeOf t).run P w = .ok i.size w:=by
 simp[sizeOf,typeInfo,h]
theorem a3R {l:List Value} {o n:Nat} (h:o+n<=l.length):(sub l o n).length=n:=by simp[sub];omega
theorem a8r {P:Program} {t:TypeId} {ti:TI} (ht:e5A P t ti) {w:World} {b off:Nat} {arr:Array Value} {T:TypeId} {fz:Nat×Nat}
 (hh:w.heap[b]?=some (.cells arr T fz)) {β:Bt} {K:Ks} {cs:List C} {u:W} (hc:All2 (CR β K) cs (sub arr.toList off ti.size)) (hu:a3w ti.agg ti.size cs=some u) :
 ∃v,(loadVar t ⟨b,off,none⟩).run P w = .ok v w /\ WR β K u v:=by
 obtain⟨i,d,z,hi,hd,hz,hs,hby,ha,_⟩:=ht.ex;have hlen:=hc.length;have hcell:∀(j:Nat) (v:Value),(sub arr.toList off ti.size)[j]?=some v->w.cell? ((⟨b,off,none⟩:Addr).add j)=some v:=by
  intro j v hv;rw[a2Q,cell_of_row w b _ arr T fz hh];unfold sub at hv;rw[List.getElem?_take]at hv;split at hv
  ·rw[List.getElem?_drop]at hv;simpa using hv
  ·cases hv
 unfold loadVar;rw[Sem.run_bind,b0e hd,Result.andThen_ok,ha];cases hag:ti.agg with
 | true =>
   rw[hag]at hu;simp only[a3w]at hu;split at hu
   ·rename_i hbeq;cases hu;have hl:cs.length=ti.size:=by simpa using hbeq
    have hr:=run_loadCells_list (P:=P) w ⟨b,off,none⟩ (sub arr.toList off ti.size) hcell;rw[<- hlen,hl]at hr;refine⟨.agg (sub arr.toList off ti.size).toArray,?_,⟨_,rfl,by simpa using hc⟩⟩;simp[a1b hi,hs,hr]
   ·cases hu
 | false =>
   rw[hag]at hu;cases cs with
   |nil=>simp[a3w]at hu;split at hu<;>cases hu
   | cons c r =>
     cases r with
     |cons c' r'=>simp[a3w]at hu;split at hu<;>cases hu
     | nil =>
       simp only[a3w]at hu;split at hu
       case h_2=>cases hu
       simp only[injEq]at hu;subst hu;cases hsub:sub arr.toList off ti.size with
       |nil=>rw[hsub]at hc;exact hc.elim
       | cons v vs =>
         rw[hsub]at hc;have h0:=hcell 0 v (by rw[hsub];rfl);rw[a2Q,Nat.add_zero]at h0;refine⟨v,?_,hc.1⟩;simp[h0]
theorem All2.sub' {R:C->Value->Prop} {cs:List C} {vs:List Value} (h:All2 R cs vs) (off n:Nat):All2 R (a2D cs off n) (sub vs off n):=(h.drop off).take n
theorem c3D (l:List Value) (o n off k:Nat) (h:off+k<=n):sub (sub l o n) off k=sub l (o+off) k:=by
 unfold sub;rw[List.drop_take,List.take_take,List.drop_drop];congr 1;omega
theorem a3S {agg:Bool} {size:Nat} {cs:List C} {u:W} (h:a3w agg size cs=some u):cs.length=size:=by
 cases agg with
 | true =>
   simp only[a3w]at h;split at h
   ·rename_i hb;exact a0g hb
   ·cases h
 | false =>
   simp only[a3w]at h;split at h
   ·rename_i hb;have hb:=a0g hb;split at h
    ·simp[hb]
    ·cases h
   ·cases h
theorem b2M {R:C->Value->Prop} {cs:List C} {l:List Value} {o m:Nat} (h:All2 R cs (sub l o m)) (hm:cs.length=m) {off size:Nat} (hl:(a2D cs off size).length=size) :
 All2 R (a2D cs off size) (sub l (o+off) size):=by
 have:=h.sub' off size;by_cases hfit:off+size<=m
 ·rwa [c3D _ _ _ _ _ hfit]at this
 ·simp only[a2D,List.length_take,List.length_drop]at hl;have h0:size=0:=by omega
  subst h0;simp[a2D,sub,All2]
theorem a3T (k:FloatKind) (b:Nat):a1w k b=true↔k.format.infRung<b%k.format.signWeight:=by
 unfold a1w FloatKind.decode Ieee.Format.read;have hb:k.format.binade<=k.format.infRung:=by cases k<;>decide
 constructor
 ·intro h;dsimp only at h;split at h
  ·simp[Ieee.Datum.isNaN]at h
  ·split at h
   ·simp[Ieee.Datum.isNaN]at h
   ·split at h
    ·simp[Ieee.Datum.isNaN]at h
    ·omega
 ·intro h;dsimp only;rw[if_neg (by omega),if_neg (by omega),if_neg (by omega)];rfl
theorem a1H {k:FloatKind} {b:Nat} (h:a1w k b=true):∃s f,k.format.read b = .nan s f:=by
 unfold a1w FloatKind.decode at h;cases hr:k.format.read b with
 |nan s f=>exact⟨s,f,rfl⟩
 |number s m e=>rw[hr]at h;simp[Ieee.Datum.isNaN]at h
 |infinity s=>rw[hr]at h;simp[Ieee.Datum.isNaN]at h
theorem a5b (k:FloatKind):a1w k (qn k)=true:=by cases k<;>decide
theorem a8s (t:Nat):a1w .f32 (t%2*2^31+2139095040+1+t/2%(2^23-1))=true:=by
 rw[a3T];have h1:FloatKind.f32.format.infRung=2139095040:=by decide
 have h2:FloatKind.f32.format.signWeight=2147483648:=by decide
 rw[h1,h2];have:=Nat.mod_lt (t/2) (show 0<2^23-1 by decide);have h0:t%2<2:=Nat.mod_lt _ (by decide);generalize t/2%(2^23-1)=x at *;generalize t%2=a at *;have:a*2^31+2139095040+1+x=2139095041+x+2147483648*a:=by omega
 rw[this,Nat.add_mul_mod_self_left];omega
theorem a8t (t:Nat):a1w .f64 (t%2*2^63+9218868437227405312+1+t/2%(2^52-1))=true:=by
 rw[a3T];have h1:FloatKind.f64.format.infRung=9218868437227405312:=by decide
 have h2:FloatKind.f64.format.signWeight=9223372036854775808:=by decide
 rw[h1,h2];have:=Nat.mod_lt (t/2) (show 0<2^52-1 by decide);have h0:t%2<2:=Nat.mod_lt _ (by decide);generalize t/2%(2^52-1)=x at *;generalize t%2=a at *;have:a*2^63+9218868437227405312+1+x=9218868437227405313+x+9223372036854775808*a:=by omega
 rw[this,Nat.add_mul_mod_self_left];omega
theorem a4l (w:World):a0p w { w with drawn:=w.drawn+1 }:=⟨rfl,rfl,rfl,rfl⟩
theorem b5B (P:Program) (k:FloatKind) (a b:Nat) (w:World):∃r w',(choose (.nanBits k a b)).run P w = .ok r w' /\ a0p w w' /\ a1w k r=true:=by
 refine⟨_,_,by simp only[run_choose,Question.forced];rfl,a4l w,?_⟩;cases k
 ·exact a8s _
 ·exact a8t _
theorem a8u (P:Program) (k:FloatKind) (a:Nat) (w:World):∃r w',(choose (.nanConv k a)).run P w = .ok r w' /\ a0p w w' /\ a1w k r=true:=by
 refine⟨_,_,by simp only[run_choose,Question.forced];rfl,a4l w,?_⟩;cases k
 ·exact a8s _
 ·exact a8t _
theorem a6i (P:Program) (k:FloatKind) (m:Bool) (a b:Nat) (w:World):∃r w',(choose (.nanMinMax k m a b)).run P w = .ok r w' /\ a0p w w' /\ a1w k r=true:=by
 refine⟨_,_,by simp only[run_choose,Question.forced];rfl,a4l w,?_⟩;cases k
 ·exact a8s _
 ·exact a8t _
theorem FEq.nan_left {k:FloatKind} {a a':Nat} (h:FEq k a a') (hn:a1w k a=true):a1w k a'=true:=by
 rcases h with rfl|⟨_,h⟩
 ·exact hn
 ·exact h
def fop (op:BinOp) (k:FloatKind) (a b:Nat):Option Nat:=match op with
 |.add=>k.format.add a b
 |.sub=>k.format.sub a b
 |.mul=>k.format.mul a b
 |_=>k.format.div a b
theorem c3E (op:BinOp) (k:FloatKind) (a b:Nat):a0a op k a b=(fop op k a b).getD (qn k):=by cases op<;>rfl
theorem a7E {op:BinOp} {k:FloatKind} {a b:Nat} (h:a1w k a=true):fop op k a b=none:=by
 obtain⟨s,f,hr⟩:=a1H h;cases op<;>simp[fop,Ieee.Format.add,Ieee.Format.sub,Ieee.Format.mul,Ieee.Format.div,hr,Ieee.Datum.sum,Ieee.Datum.product,Ieee.Datum.quotient]
theorem a6j {op:BinOp} {k:FloatKind} {a b:Nat} (h:a1w k b=true):fop op k a b=none:=by
 obtain⟨s,f,hr⟩:=a1H h;cases op<;>simp only[fop,Ieee.Format.add,Ieee.Format.sub,Ieee.Format.mul,Ieee.Format.div,hr,Ieee.Datum.opposite] <;>
  cases k.format.read a<;>rfl
theorem c3F {op:BinOp} {k:FloatKind} {a a' b b':Nat} (ha:FEq k a a') (hb:FEq k b b'):fop op k a' b'=fop op k a b:=by
 rcases ha with rfl|⟨h1,h2⟩
 ·rcases hb with rfl|⟨h3,h4⟩
  ·rfl
  ·rw[a6j h3,a6j h4]
 ·rw[a7E h1,a7E h2]
theorem a8v (P:Program) (op:BinOp) (hop:op = .add∨op = .sub∨op = .mul∨op = .quo) (k:FloatKind) (a b:Nat) (w:World) :
 ∃r w',(Op.floatArith op k a b).run P w = .ok (.float k r) w' /\ a0p w w' /\ (fop op k a b=some r∨(fop op k a b=none /\ a1w k r=true)):=by
 obtain⟨r,w',h1,h2,h3⟩:=b5B P k a b w;rcases hop with rfl|rfl|rfl|rfl
 ·cases hf:k.format.add a b with
  |some r=>exact⟨r,w,by simp[Op.floatArith,hf],a0p.refl w,.inl hf⟩
  |none=>exact⟨r,w',by simp only[Op.floatArith,hf,pure_bind,Sem.run_bind,h1,Result.andThen_ok,Sem.run_pure],h2,.inr ⟨hf,h3⟩⟩
 ·cases hf:k.format.sub a b with
  |some r=>exact⟨r,w,by simp[Op.floatArith,hf],a0p.refl w,.inl hf⟩
  |none=>exact⟨r,w',by simp only[Op.floatArith,hf,pure_bind,Sem.run_bind,h1,Result.andThen_ok,Sem.run_pure],h2,.inr ⟨hf,h3⟩⟩
 ·cases hf:k.format.mul a b with
  |some r=>exact⟨r,w,by simp[Op.floatArith,hf],a0p.refl w,.inl hf⟩
  |none=>exact⟨r,w',by simp only[Op.floatArith,hf,pure_bind,Sem.run_bind,h1,Result.andThen_ok,Sem.run_pure],h2,.inr ⟨hf,h3⟩⟩
 ·cases hf:k.format.div a b with
  |some r=>exact⟨r,w,by simp[Op.floatArith,hf],a0p.refl w,.inl hf⟩
  |none=>exact⟨r,w',by simp only[Op.floatArith,hf,pure_bind,Sem.run_bind,h1,Result.andThen_ok,Sem.run_pure],h2,.inr ⟨hf,h3⟩⟩
theorem a3U (P:Program) (op:BinOp) (hop:op = .add∨op = .sub∨op = .mul∨op = .quo) (k:FloatKind) {a a' b b':Nat} (ha:FEq k a a') (hb:FEq k b b') (w:World) :
 ∃r w',(Op.floatArith op k a' b').run P w = .ok (.float k r) w' /\ a0p w w' /\ FEq k (a0a op k a b) r:=by
 obtain⟨r,w',h1,h2,h3⟩:=a8v P op hop k a' b' w;refine⟨r,w',h1,h2,?_⟩;rw[c3E,<- c3F ha hb];rcases h3 with h3|⟨h3,h4⟩
 ·rw[h3];exact .inl rfl
 ·rw[h3];exact .inr ⟨a5b k,h4⟩
theorem a3L {k:FloatKind} {a b:Nat} (h:a1w k a=true):k.format.order a b=none:=by
 obtain⟨s,f,hr⟩:=a1H h;simp[Ieee.Format.order,hr,Ieee.Datum.order]
theorem a3k {k:FloatKind} {a b:Nat} (h:a1w k b=true):k.format.order a b=none:=by
 obtain⟨s,f,hr⟩:=a1H h;simp only[Ieee.Format.order,hr];cases k.format.read a<;>rfl
theorem a3l {k:FloatKind} {a a' b b':Nat} (ha:FEq k a a') (hb:FEq k b b'):k.format.order a' b'=k.format.order a b:=by
 rcases ha with rfl|⟨h1,h2⟩
 ·rcases hb with rfl|⟨h3,h4⟩
  ·rfl
  ·rw[a3k h3,a3k h4]
 ·rw[a3L h1,a3L h2]
theorem b0f {k:FloatKind} {a a' b b':Nat} {c:Ordering} (ha:FEq k a a') (hb:FEq k b b') (h:k.format.order a b=some c):a'=a /\ b'=b:=by
 rcases ha with rfl|⟨h1,_⟩
 ·rcases hb with rfl|⟨h3,_⟩
  ·exact⟨rfl,rfl⟩
  ·rw[a3k h3]at h;cases h
 ·rw[a3L h1]at h;cases h
theorem d1l (P:Program) (k:FloatKind) {a a' b b':Nat} (ha:FEq k a a') (hb:FEq k b b') (w:World) :
 ∃r w',(Builtin.max2 (.float k a') (.float k b')).run P w = .ok (.float k r) w' /\ a0p w w' /\ FEq k (b2F k a b) r:=by
 have ho:=a3l ha hb;unfold b2F;cases hc:k.format.order a b with
 | none =>
   obtain⟨r,w',h1,h2,h3⟩:=a6i P k true a' b' w;refine⟨r,w',?_,h2,.inr ⟨a5b k,h3⟩⟩;rw[hc]at ho;simp only[Builtin.max2,ho,Sem.run_bind,h1,Result.andThen_ok,Sem.run_pure]
 | some c =>
   obtain⟨rfl,rfl⟩:=b0f ha hb hc;cases c
   ·exact⟨b',w,by simp[Builtin.max2,hc],a0p.refl w,.inl rfl⟩
   ·exact⟨if(k.decode a').neg then b' else a',w,by simp[Builtin.max2,hc],a0p.refl w,.inl rfl⟩
   ·exact⟨a',w,by simp[Builtin.max2,hc],a0p.refl w,.inl rfl⟩
theorem d1m (P:Program) (k:FloatKind) {a a' b b':Nat} (ha:FEq k a a') (hb:FEq k b b') (w:World) :
 ∃r w',(Builtin.min2 (.float k a') (.float k b')).run P w = .ok (.float k r) w' /\ a0p w w' /\ FEq k (f4l k a b) r:=by
 have ho:=a3l ha hb;unfold f4l;cases hc:k.format.order a b with
 | none =>
   obtain⟨r,w',h1,h2,h3⟩:=a6i P k false a' b' w;refine⟨r,w',?_,h2,.inr ⟨a5b k,h3⟩⟩;rw[hc]at ho;simp only[Builtin.min2,ho,Sem.run_bind,h1,Result.andThen_ok,Sem.run_pure]
 | some c =>
   obtain⟨rfl,rfl⟩:=b0f ha hb hc;cases c
   ·exact⟨a',w,by simp[Builtin.min2,hc],a0p.refl w,.inl rfl⟩
   ·exact⟨if(k.decode a').neg then a' else b',w,by simp[Builtin.min2,hc],a0p.refl w,.inl rfl⟩
   ·exact⟨b',w,by simp[Builtin.min2,hc],a0p.refl w,.inl rfl⟩
theorem b7U {k:FloatKind} {a:Nat} (h:a1w k a=true):a1w k (a3v k a)=true:=by
 rw[a3T]at h ⊢;have:a3v k a%k.format.signWeight=a%k.format.signWeight:=by
  unfold a3v Ieee.Format.signWeight;rw[Nat.xor_mod_two_pow];simp
 rw[this];exact h
theorem a7c {k:FloatKind} {a a':Nat} (h:FEq k a a'):FEq k (a3v k a) (a3v k a'):=by
 rcases h with rfl|⟨h1,h2⟩
 ·exact .inl rfl
 ·exact .inr ⟨b7U h1,b7U h2⟩
theorem b5C {k:FloatKind} {a a':Nat} (h:FEq k a a'):Ieee.Datum.toInt .zero (k.decode a')=Ieee.Datum.toInt .zero (k.decode a):=by
 rcases h with rfl|⟨h1,h2⟩
 ·rfl
 ·obtain⟨s,f,hr⟩:=a1H h1;obtain⟨s',f',hr'⟩:=a1H h2;unfold FloatKind.decode;rw[hr,hr'];rfl
theorem d1n {m n:Nat} (h:m<2^(n+1)) (h0:0<m):m.log2<=n:=by
 have:=Nat.log2_lt (n:=m) (k:=n+1) (by omega);omega
theorem a5c (neg:Bool) (n:Nat):Ieee.Toward.even.cut neg n 0=n:=by
 unfold Ieee.Toward.cut;simp[Nat.mod_one]
theorem c3G (s:Bool) (m:Nat) (e:Int) (hm:m<2^24) (h0:0<m) (he:-149<=e) (he':e<=104) :
 ∃r,Ieee.double.nearest s m e=Ieee.double.word s r /\ r<Ieee.double.infRung:=by
 have hl:m.log2<=23:=d1n hm h0;have hlast:max (e+m.log2-Ieee.double.fractionBits) Ieee.double.leastPlace=e+m.log2-52:=by
  have:Ieee.double.leastPlace=-1074:=by decide
  have h2:(Ieee.double.fractionBits:Int)=52:=by decide
  rw[this,h2];omega
 have hkept:m <<< (52-m.log2)<2^53:=by
  rw[Nat.shiftLeft_eq];have h1:m<2^(m.log2+1):=Nat.lt_log2_self
  calc m*2^(52-m.log2)<2^(m.log2+1)*2^(52-m.log2):=Nat.mul_lt_mul_of_pos_right h1 (Nat.two_pow_pos _)
   _=2^53:=by rw[<- Nat.pow_add];congr 1;omega
 refine⟨(e+m.log2-52+1074).toNat*2^52+m <<< (52-m.log2),?_,?_⟩
 ·unfold Ieee.Format.nearest;rw[if_neg (by omega)];dsimp only;rw[hlast];have h1:(e-(e+(m.log2:Int)-52)).toNat=52-m.log2:=by omega
  have h2:(e+(m.log2:Int)-52-e).toNat=0:=by omega
  have h3:Ieee.double.leastPlace=-1074:=by decide
  have h4:Ieee.double.binade=2^52:=by decide
  have h5:Ieee.double.infRung=2047*2^52:=by decide
  rw[h1,h2,a5c,h3,h4,h5];congr 1;have:(e+(m.log2:Int)-52 - -1074).toNat<=1149:=by omega
  have h6:(e+(m.log2:Int)-52 - -1074)=e+(m.log2:Int)-52+1074:=by omega
  rw[h6]at this ⊢;apply Nat.min_eq_left;omega
 ·have h5:Ieee.double.infRung=2047*2^52:=by decide
  rw[h5];have:(e+(m.log2:Int)-52+1074).toNat<=1149:=by omega
  omega
theorem a8w (s:Bool) (r:Nat) (h:r<Ieee.double.infRung):(FloatKind.f64.decode (Ieee.double.word s r)).isInfinity=false:=by
 have h1:Ieee.double.signWeight=2^63:=by decide
 have h2:Ieee.double.infRung=2047*2^52:=by decide
 have hr:Ieee.double.word s r%Ieee.double.signWeight=r:=by
  unfold Ieee.Format.word;rw[h1];split<;>omega
 unfold FloatKind.decode;show(Ieee.double.read (Ieee.double.word s r)).isInfinity=false;unfold Ieee.Format.read;dsimp only;rw[hr];split
 ·rfl
 ·first|rfl|(rw[if_pos h];rfl)
theorem b1p {b:Nat} {s:Bool} {m:Nat} {e:Int} (h:FloatKind.f32.decode b = .number s m e):m<2^24 /\ -149<=e /\ e<=104:=by
 have h1:Ieee.single.signWeight=2^31:=by decide
 have h2:Ieee.single.infRung=255*2^23:=by decide
 have h3:Ieee.single.binade=2^23:=by decide
 have h4:Ieee.single.leastPlace=-149:=by decide
 have h5:Ieee.single.fractionBits=23:=by decide
 change Ieee.single.read b=_ at h;unfold Ieee.Format.read at h;dsimp only at h;rw[h1,h2,h3,h4]at h;split at h
 ·cases h;omega
 ·split at h
  ·cases h;have:b%2^31%2^23<2^23:=Nat.mod_lt _ (by decide);have h6:b%2^31/2^23-1<=253:=by omega
   refine⟨by omega,by omega,by omega⟩
  ·split at h<;>cases h
theorem c1F {b:Nat} {s:Bool} {m:Nat} {e:Int} (h:FloatKind.f32.decode b = .number s m e):(FloatKind.f64.decode (FloatKind.f64.encode (.number s m e))).isInfinity=false:=by
 obtain⟨hm,he,he'⟩:=b1p h;by_cases h0:m=0
 ·subst h0;show(FloatKind.f64.decode (Ieee.double.nearest s 0 e)).isInfinity=false;unfold Ieee.Format.nearest;rw[if_pos rfl];exact a8w s 0 (by decide)
 ·obtain⟨r,hr,hlt⟩:=c3G s m e hm (by omega) he he';show(FloatKind.f64.decode (Ieee.double.nearest s m e)).isInfinity=false;rw[hr];exact a8w s r hlt
theorem a2s (P:Program) (s d:FloatKind) {a a':Nat} (h:FEq s a a') (hok:(a0u s d a).1=true) (w:World) :
 ∃r w',(Conv.floatToFloat s a' d).run P w = .ok (.float d r) w' /\ a0p w w' /\ FEq d (a0u s d a).2 r:=by
 by_cases hsd:s=d
 ·subst hsd;refine⟨a',w,by simp[Conv.floatToFloat],a0p.refl w,?_⟩;cases s<;>exact h
 ·have hv:(a0u s d a).2=a8o s d a:=by cases s<;>cases d<;>first|exact absurd rfl hsd|rfl
  rw[hv];rcases h with rfl|⟨h1,h2⟩
  ·unfold Conv.floatToFloat a8o;rw[if_neg hsd];cases hdec:s.decode a with
   | nan sg f =>
     obtain⟨r,w',h1,h2,h3⟩:=a8u P d a w;exact⟨r,w',by simp only[Sem.run_bind,h1,Result.andThen_ok,Sem.run_pure],h2,.inr ⟨a5b d,h3⟩⟩
   |infinity sg=>exact⟨_,w,by simp,a0p.refl w,.inl rfl⟩
   | number sg m e =>
     have hinf:(d.decode (d.encode (.number sg m e))).isInfinity=false:=by
      cases s<;>cases d<;>first|exact absurd rfl hsd|skip
      ·exact c1F hdec
      ·simp only[a0u,a1Q,hdec,Bool.not_eq_true']at hok;exact hok
     exact⟨_,w,by simp[hinf],a0p.refl w,.inl rfl⟩
  ·obtain⟨sg,f,hr⟩:=a1H h1;obtain⟨sg',f',hr'⟩:=a1H h2;unfold Conv.floatToFloat a8o FloatKind.decode;rw[if_neg hsd,hr,hr'];obtain⟨r,w',h1,h2,h3⟩:=a8u P d a' w;exact⟨r,w',by simp only[Sem.run_bind,h1,Result.andThen_ok,Sem.run_pure],h2,.inr ⟨a5b d,h3⟩⟩
theorem a8x (P:Program) (s:FloatKind) (d:IntKind) {a a':Nat} (h:FEq s a a') (hok:a6f s a d=true) (w:World) :
 (Conv.floatToInt s a' d).run P w = .ok (.int d (f2i s a)) w:=by
 unfold Conv.floatToInt;rw[b5C h];unfold a6f at hok;unfold f2i;split at hok
 ·rename_i n hn;simp only[and_eq_true,decide_eq_true_eq]at hok;simp[hn,hok]
 ·cases hok
structure Pre (P:Program) (Γ:Env) (β:Bt) (K:Ks) (get:Get) (n:Nat) (w:World) (ρ:Operand->V) (a:Act):Prop where
 env:a1g P Γ
 kok:KOK K w
 mr:MR β K get w
 fresh:∀k,n<=k->β k=none
 val:∀x,VR β K (ρ x) (a.eval x)
section
variable {P:Program} {Γ:Env} {β:Bt} {K:Ks} {get:Get} {n:Nat} {w:World} {ρ:Operand->V} {a:Act} {o:Oper}
theorem Pre.pure (h:Pre P Γ β K get n w ρ a) {v:V} {u:Value} {ok:Bool} {w':World} (hv:VR β K v u) (hr:(execOp a.eval o).run P w = .ok (.value u) w') (s:a0p w w') :
 a0m P o a w (a0Q β K get n w ⟨ok,v,[],n⟩):=a0m.value hr (a8q.pure h.kok h.mr h.fresh s hv)
theorem Pre.pure1 (h:Pre P Γ β K get n w ρ a) {c:W} {ok:Bool} {out:Out} (ho:a0v n ok c=some out) {u:Value} {w':World} (hv:WR β K c u)
 (hr:(execOp a.eval o).run P w = .ok (.value u) w') (s:a0p w w'):a0m P o a w (a0Q β K get n w out):=by
 simp only[AM.a0v,injEq]at ho;subst ho;exact h.pure hv hr s
theorem b7V (h:Pre P Γ β K get n w ρ a) (t:Nat) (x:Operand):VR β K (b1m Γ t x (ρ x)) (a.eval x):=by
 unfold b1m;split
 ·exact h.val x
 ·rename_i hx;have e:∃ad,a.eval x = .slice ad 0 0:=by
   unfold d5m at hx;split at hx
   ·simp only[and_eq_true]at hx;have h1:=a0g hx.1;have h2:=a0g hx.2;subst h1;subst h2;exact⟨none,rfl⟩
   ·cases hx
  split
  ·split
   ·split
    ·exact e
    ·exact h.val x
   ·exact h.val x
  ·exact h.val x
theorem c3H (h:Pre P Γ β K get n w ρ a) {x:Operand} (ho:o.op = .move x∨o.op = .assign x):a0m P o a w (a0Q β K get n w ⟨true,b1m Γ o.type x (ρ x),[],n⟩):=by
 refine h.pure (b7V h _ x) (w':=w) ?_ (a0p.refl w);rcases ho with ho|ho<;>simp[execOp,ho]
theorem e0G (h:Pre P Γ β K get n w ρ a) {c x y:Operand} {t:Bool} (ho:o.op = .pick c x y) (hc:ρ c = .val (.one (.bool t))) :
 a0m P o a w (a0Q β K get n w ⟨true,e6J t (ρ x) (ρ y),[],n⟩):=by
 have e:a.eval c = .bool t:=by have:=h.val c;rw[hc]at this;exact this
 refine h.pure (u:=if t=true then a.eval x else a.eval y) (w':=w) ?_ ?_ (a0p.refl w)
 ·cases t
  ·exact h.val y
  ·exact h.val x
 ·simp[execOp,ho,e,asBool]
theorem d1o (h:Pre P Γ β K get n w ρ a) {t:TypeId} {ti:TI} (ho:o.op = .alloc t) (ht:Γ.tab t=some ti) :
 a0m P o a w (a0Q β K get n w ⟨true,.val (.one (.ptr n 0)),[(n,some (.box ti.zero))],n+1⟩):=by
 obtain⟨i,d,z,hi,hd,hz,hs,hby,ha,hzr,_⟩:=(h.env.tab t ti ht).ex;have hr:(execOp a.eval o).run P w = .ok (.value (.pointer (some ⟨w.heap.size,0,none⟩))) (w.alloc (.cells z.cells t)):=by
  refine a1p (s:=Instr.alloc t true (.tuple #[])) ?_ ?_
  ·simp[execOp,ho]
  ·simp[Instr.alloc,zeroValue,typeInfo,hi,hz,newVar,newRow]
 refine a0m.value hr ?_;have hn:=h.fresh n (le_refl _);refine a8q.alloc (gone:=[]) (h:=⟨.pointer (some ⟨w.heap.size,0,none⟩),some w.heap.size⟩) h.kok h.mr h.fresh (a0p.refl w) (KLe.refl K) h.kok ?_ rfl ?_ ?_
 ·intro k c x y e _ f g;exact h.mr.ro k c y x e f g
 ·exact⟨w.heap.size,z.cells,t,rfl,a1G w _,hzr.mono fun _ _ hh=>hh _ _⟩
 ·exact⟨_,w.heap.size,a0A ..,rfl,rfl⟩
theorem e6O (h:Pre P Γ β K get n w ρ a) {t:TypeId} {x:Operand} {u:W} (ho:o.op = .box t x) (hx:ρ x = .val u) (hs:u.cells.all c1B=true) :
 a0m P o a w (a0Q β K get n w ⟨true,.val (.one (.ptr n 0)),[(n,some (.box u.cells))],n+1⟩):=by
 have hv:WR β K u (a.eval x):=by have:=h.val x;rw[hx]at this;exact this
 have hr:(execOp a.eval o).run P w = .ok (.value (.pointer (some ⟨w.heap.size,0,none⟩))) (w.alloc (.cells (a.eval x).cells t)):=by
  refine a1p (s:=Instr.box t (a.eval x)) ?_ ?_
  ·simp[execOp,ho]
  ·simp[Instr.box,newVar,newRow]
 refine a0m.value hr ?_;have hn:=h.fresh n (le_refl _);refine a8q.alloc (gone:=[]) (h:=⟨.pointer (some ⟨w.heap.size,0,none⟩),some w.heap.size⟩) h.kok h.mr h.fresh (a0p.refl w) (KLe.refl K) h.kok ?_ rfl ?_ ?_
 ·intro k c x y e _ f g;exact h.mr.ro k c y x e f g
 ·exact⟨w.heap.size,(a.eval x).cells,t,rfl,a1G w _,(hv.cells hs).mono fun _ _=>CR.mono (BLe.add _ hn) (KLe.refl K)⟩
 ·exact⟨_,w.heap.size,a0A ..,rfl,rfl⟩
theorem b5D:∀{k:FloatKind} {cs:List C} {l:List (Nat×Nat)},e0z k cs=some l->cs=l.map fun p=>C.cpx k p.1 p.2
 |k,[],l,h=>by simp only[e0z,injEq]at h;subst h;rfl
 | k, c::r,l,h=>by
   cases c with
   | cpx k' x y =>
     simp only[e0z]at h;split at h
     ·rename_i hk;have hk:=of_decide_eq_true hk;split at h
      ·rename_i l' hl';cases h;rw[b5D hl',hk];rfl
      ·cases h
     ·cases h
   |_=>simp[e0z]at h
theorem b5E {cs:List C} {vs:List Value} {m j:Nat} {c:C} (h:All2 (CR β K) cs vs) (hc:e5x cs m j=some c) (hj:j<m):∃v,vs[j]?=some v /\ CR β K c v:=by
 unfold e5x at hc;split at hc
 ·rename_i k x y r;split at hc
  ·rename_i hm;have hm:=a0g hm;split at hc
   ·rename_i l hl;cases hc;have e:=b5D hl;have hlen:l.length=m:=by rw[<- hm,e,List.length_map]
    rw[e]at h;have hj':j<l.length:=by omega
    have hget:(l.map fun p=>C.cpx k p.1 p.2)[j]?=some (C.cpx k (l.getD j (0,0)).1 (l.getD j (0,0)).2):=by
     rw[List.getElem?_map,List.getElem?_eq_getElem hj'];simp[List.getElem?_eq_getElem hj']
    exact h.get? hget
   ·cases hc
  ·cases hc
 ·cases hc
theorem b5F {vs:List Value} {off m j:Nat} {v:Value} (h:(sub vs off m)[j]?=some v):sub vs (off+j) 1=[v] /\ j<m:=by
 unfold sub at h ⊢;rw[List.getElem?_take]at h;split at h
 ·rename_i hj;rw[List.getElem?_drop]at h;refine⟨?_,hj⟩;apply List.ext_getElem?;intro i;rw[List.getElem?_take];cases i with
  |zero=>simp[h]
  |succ i=>rw[if_neg (by omega)];rfl
 ·cases h
theorem b7W {t:TypeId} {ti:TI} (hti:e5A P t ti) (hkok:KOK K w) (hmr:MR β K get w) {x:V} {v0:Value} (hv:VR β K x v0) {out:Out} (hl:a0Y get n ti.agg ti.size x=some out) :
 ∃b off u v,v0 = .pointer (some ⟨b,off,none⟩) /\ (loadVar t ⟨b,off,none⟩).run P w = .ok v w /\ WR β K u v /\ AM.a0v n true u=some out:=by
 have fin:∀(b off:Nat) (arr:Array Value) (T:TypeId) (fz:Nat×Nat) (cs:List C) (u:W),v0 = .pointer (some ⟨b,off,none⟩)->w.heap[b]?=some (.cells arr T fz) ->
  All2 (CR β K) cs (sub arr.toList off ti.size)->a3w ti.agg ti.size cs=some u->AM.a0v n true u=some out->∃b off u v,v0 = .pointer (some ⟨b,off,none⟩) /\ (loadVar t ⟨b,off,none⟩).run P w = .ok v w /\ WR β K u v /\ AM.a0v n true u=some out:=by
  intro b off arr T fz cs u he hh hc hu hp;obtain⟨v,hr,hw⟩:=a8r hti hh hc hu;exact⟨b,off,u,v,he,hr,hw,hp⟩
 cases x with
 |tup ws=>simp[a0Y]at hl
 | val u =>
   cases u with
   |agg cs=>simp[a0Y]at hl
   | one c =>
     cases c with
     | ptr k off =>
       simp only[a0Y]at hl;obtain⟨hd,b,hb,hp,he⟩:=hv;split at hl
       ·rename_i cs hg;split at hl
        ·rename_i u hu;obtain⟨hd',hb',b',arr,T,rfl,hh,hc⟩:=hmr.blk k _ hg;rw[hb]at hb';cases hb';cases hp;exact fin b off arr T (0,0) _ u he hh (hc.sub' off ti.size) hu hl
        ·cases hl
       ·cases hl
     | eptr k t' i off =>
       simp only[a0Y]at hl;obtain⟨hd,b,m,c,hb,hp,hi,he⟩:=hv;split at hl
       ·rename_i t'' l hg;split at hl
        ·rename_i e _;subst e;split at hl
         ·rename_i u hu;obtain⟨hd',hb',hbr⟩:=hmr.blk k _ hg;rw[hb]at hb';cases hb';rcases hbr with⟨_,a',e'⟩|⟨b',cap,cur,T,e',hh,h1,h2,h3,h4⟩
          ·subst e';cases hp;omega
          ·subst e';cases hp;have hx1:l.getD i (zero t'')=l[i]:=by simp[List.getElem?_eq_getElem hi]
           rw[hx1]at hu;have hd4:=DR.enc (β:=β) t'' (h4 i hi);have hlen:=b7S t'' l[i];refine fin b _ cur T (0,0) _ u he hh ?_ hu hl;exact b2M hd4 hlen (a3S hu)
         ·cases hl
        ·cases hl
       ·cases hl
     | rptr t' l i off =>
       simp only[a0Y]at hl;obtain⟨hi,b,o',arr,hK,hall,he⟩:=hv;split at hl
       ·rename_i u hu;obtain⟨cur,T,fz,hh,_,hs⟩:=hkok.see hK;have hx1:l.getD i (zero t')=l[i]:=by simp[List.getElem?_eq_getElem hi]
        rw[hx1]at hu;exact fin b _ cur T fz _ u he hh (b2M (DR.enc (β:=β) t' (hs _ _ (hall i hi))) (b7S t' l[i]) (a3S hu)) hu hl
       ·cases hl
     | aptr k off m j =>
       simp only[a0Y]at hl;obtain⟨hj,hd,b,hb,hp,he⟩:=hv;split at hl
       ·rename_i cs hg;split at hl
        ·rename_i c hc;split at hl
         ·rename_i u hu;obtain⟨hd',hb',b',arr,T,rfl,hh,hcs⟩:=hmr.blk k _ hg;rw[hb]at hb';cases hb';cases hp;obtain⟨v,hv,hcv⟩:=b5E (hcs.sub' off m) hc hj;have h1:ti.size=1:=by have:=a3S hu;simpa using this.symm
          refine fin b (off+j) arr T (0,0) [c] u he hh ?_ hu hl;rw[h1,(b5F hv).1];exact⟨hcv,trivial⟩
         ·cases hl
        ·cases hl
       ·cases hl
     | aeptr k t' i off m j =>
       simp only[a0Y]at hl;obtain⟨hj,hd,b,q,c,hb,hp,hi,he⟩:=hv;split at hl
       ·rename_i t'' l hg;split at hl
        ·rename_i e _;subst e;split at hl
         ·rename_i c' hc;split at hl
          ·rename_i u hu;obtain⟨hd',hb',hbr⟩:=hmr.blk k _ hg;rw[hb]at hb';cases hb';rcases hbr with⟨_,a',e'⟩|⟨b',cap,cur,T,e',hh,h1,h2,h3,h4⟩
           ·subst e';cases hp;omega
           ·subst e';cases hp;have hx1:l.getD i (zero t'')=l[i]:=by simp[List.getElem?_eq_getElem hi]
            have hc:e5x (a2D (enc t'' (l.getD i (zero t''))) off m) m j=some c':=hc;rw[hx1]at hc;have hd4:=(DR.enc (β:=β) t'' (h4 i hi)).sub' off m;obtain⟨v,hv,hcv⟩:=b5E hd4 hc hj;have h1:ti.size=1:=by have:=a3S hu;simpa using this.symm
            have hv2:(sub cur.toList (i*t''.size+off) m)[j]?=some v:=by
             have e2:(sub (sub cur.toList (i*t''.size) t''.size) off m)[j]?=some v:=hv;unfold sub at e2 ⊢;simp only[List.getElem?_take,List.getElem?_drop]at e2 ⊢;rw[if_pos hj]at e2 ⊢;by_cases hq:off+j<t''.size
             ·rw[if_pos hq]at e2;rw[<- e2];congr 1;omega
             ·rw[if_neg hq]at e2;exact absurd e2 (by simp)
            refine fin b (i*t''.size+off+j) cur T (0,0) [c'] u (by rw[Nat.add_assoc];exact he) hh ?_ hu hl;rw[h1,(b5F hv2).1];exact⟨hcv,trivial⟩
          ·cases hl
         ·cases hl
        ·cases hl
       ·cases hl
     | arptr t' l i off m j =>
       simp only[a0Y]at hl;obtain⟨hj,hi,b,o',arr,hK,hall,he⟩:=hv;split at hl
       ·rename_i c' hc;split at hl
        ·rename_i u hu;obtain⟨cur,T,fz,hh,_,hs⟩:=hkok.see hK;have hx1:l.getD i (zero t')=l[i]:=by simp[List.getElem?_eq_getElem hi]
         rw[hx1]at hc;have hd4:=(DR.enc (β:=β) t' (hs _ _ (hall i hi))).sub' off m;obtain⟨v,hv,hcv⟩:=b5E hd4 hc hj;have h1:ti.size=1:=by have:=a3S hu;simpa using this.symm
         have hv2:(sub cur.toList (o'+i*t'.size+off) m)[j]?=some v:=by
          have e2:(sub (sub cur.toList (o'+i*t'.size) t'.size) off m)[j]?=some v:=hv;unfold sub at e2 ⊢;simp only[List.getElem?_take,List.getElem?_drop]at e2 ⊢;rw[if_pos hj]at e2 ⊢;by_cases hq:off+j<t'.size
          ·rw[if_pos hq]at e2;rw[<- e2];congr 1;omega
          ·rw[if_neg hq]at e2;exact absurd e2 (by simp)
         refine fin b (o'+i*t'.size+off+j) cur T fz [c'] u (by rw[Nat.add_assoc];exact he) hh ?_ hu hl;rw[h1,(b5F hv2).1];exact⟨hcv,trivial⟩
        ·cases hl
       ·cases hl
     |_=>simp[a0Y]at hl
theorem e0H (h:Pre P Γ β K get n w ρ a) {t:TypeId} {ti:TI} {x:Operand} {out:Out} (ho:o.op = .load t x) (ht:Γ.tab t=some ti) (hl:a0Y get n ti.agg ti.size (ρ x)=some out) :
 a0m P o a w (a0Q β K get n w out):=by
 obtain⟨b,off,u,v,he,hr,hw,hp⟩:=b7W (h.env.tab t ti ht) h.kok h.mr (h.val x) hl;refine h.pure1 hp hw (w':=w) ?_ (a0p.refl w);refine a1p (s:=Instr.loadAt t (a.eval x)) (by simp[execOp,ho]) ?_;simp[Instr.loadAt,he,Instr.sureAddr,hr]
end
open Classical in
noncomputable def a4P (β:Bt) (K:Ks) (get:Get) (w:World) (ks:List Nat):Ks:=fun b=>match K b with
 |some a=>some a
 | none=>if ∃k∈ks,∃c y,get k=some c /\ β k=some y /\ y.b=some b then(match w.heap[b]? with
   |some (.cells arr _ _)=>some (false,arr)
   |_=>none)else none
section
variable {β:Bt} {K:Ks} {get:Get} {w:World} {ks:List Nat}
theorem a0K:KLe K (a4P β K get w ks):=fun b arr e=>by simp[a4P,e]
theorem a4m (h:KOK K w):KOK (a4P β K get w ks) w:=by
 refine⟨?_,h.gk.mono a0K⟩;intro b arr e;unfold a4P at e;split at e
 ·rename_i a ha;cases e;exact h.ato b _ ha
 ·split at e
  ·split at e
   ·rename_i arr' T fz hh;cases e;exact⟨arr',T,fz,hh,KOK.self fun e=>by cases e⟩
   ·cases e
  ·cases e
theorem a4n:∀b arr,a4P β K get w ks b=some arr->K b=some arr∨Own β get b∨w.heap.size<=b:=by
 intro b arr e;unfold a4P at e;split at e
 ·rename_i x hx;exact .inl (hx.trans e)
 ·split at e
  ·rename_i hex;obtain⟨k,_,c,y,h1,h2,h3⟩:=hex;exact .inr (.inl ⟨k,c,y,h1,h2,h3⟩)
  ·cases e
theorem a1M (h:MR β K get w) {k:Nat} {c:Blk} {y:Hd} {x:Nat} (hg:get k=some c) (hk:k ∉ ks) (hb:β k=some y) (hx:y.b=some x):a4P β K get w ks x=none:=by
 unfold a4P;rw[h.ro k c y x hg hb hx];dsimp only;rw[if_neg];rintro⟨k',hk',c',y',hg',hb',hx'⟩;have:=h.sep k k' c c' y y' x hg hg' hb hb' hx hx';subst this;exact hk hk'
theorem b2N (h:MR β K get w) {k:Nat} {c:Blk} {y:Hd} {x:Nat} {arr:Array Value} {T:TypeId} {fz:Nat×Nat} (hg:get k=some c) (hk:k∈ks) (hb:β k=some y) (hx:y.b=some x) (hh:w.heap[x]?=some (.cells arr T fz)) :
 a4P β K get w ks x=some (false,arr):=by
 unfold a4P;rw[h.ro k c y x hg hb hx];dsimp only;rw[if_pos ⟨k,hk,c,y,hg,hb,hx⟩,hh]
theorem c3I {x:Nat}:Jk (a4P β K get w ks) x↔Jk K x:=by
 refine⟨fun⟨arr,e⟩=>?_,fun⟨arr,e⟩=>⟨arr,a0K x _ e⟩⟩;unfold a4P at e;split at e
 ·rename_i a ha;cases e;exact⟨arr,ha⟩
 ·split at e
  ·split at e<;>cases e
  ·cases e
theorem d5n (h:MR β K get w) {k:Nat} {t:Ty} {l:List (Den t)} (hj:t.isJ=false) (hg:get k=some (.arr t l)) (hk:k∈ks) {y:Hd} (hb:β k=some y):DR (a4P β K get w ks) (.slice t) l [y.v]:=by
 obtain⟨y',hb',hr⟩:=h.blk k _ hg;rw[hb]at hb';cases hb';rcases hr with⟨rfl,a,rfl⟩|⟨b,cap,cur,T,rfl,hh,h1,h2,h3,h4⟩
 ·exact⟨a,0,0,rfl,rfl,le_refl _,.inl rfl⟩
 ·refine⟨_,_,_,rfl,rfl,h1,.inr ⟨b,0,cur,rfl,by rw[hj];exact b2N h hg hk hb rfl hh,fun i hi=>?_⟩⟩;rw[Nat.zero_add];exact DR.mono a0K t (h4 i hi)
theorem d1p {t:Ty} {m:Nat} {cs:List C} {l:List (Den t)} (h0:0<m) (h:d1g t m cs=some l):t.isJ=false:=by
 cases t with
 | jnk =>
   cases m with
   |zero=>omega
   | succ m=>cases cs with
     |nil=>simp[d1g,dec]at h
     |cons c cs=>cases c<;>simp[d1g,dec]at h
 |_=>rfl
theorem c3J {t:Ty}:∀{m:Nat} {cs:List C} {l:List (Den t)} {vs:List Value},d1g t m cs=some l->All2 (CR β K) cs vs->l.length=m /\ ∀i (hi:i<l.length),DR K t l[i] (sub vs (i*t.size) t.size)
 |0,[],l,vs,h,_=>by simp only[d1g,injEq]at h;subst h;exact⟨rfl,fun i hi=>by simp at hi⟩
 |0,_::_,l,vs,h,_=>by simp[d1g]at h
 | m + 1,cs,l,vs,h,ha=>by
   simp only[d1g]at h;split at h
   ·rename_i x r hx;split at h
    ·rename_i l' hl';cases h;obtain⟨v1,v2,rfl,d1,d2⟩:=b2L t hx ha;obtain⟨h1,h2⟩:=c3J hl' d2;have hlen:=DR.length t d1;refine⟨by simp[h1],fun i hi=>?_⟩;cases i with
     | zero =>
       have:sub (v1++v2) (0*t.size) t.size=v1:=by unfold sub;rw[Nat.zero_mul,List.drop_zero,<- hlen];simp
       rw[this];exact d1
     | succ i =>
       have e:sub (v1++v2) ((i+1)*t.size) t.size=sub v2 (i*t.size) t.size:=by
        unfold sub;rw[Nat.succ_mul,List.drop_append,<- hlen];have e1:List.drop (i*v1.length+v1.length) v1=[]:=List.drop_eq_nil_of_le (by omega);rw[e1,Nat.add_sub_cancel];rfl
       rw[e];exact h2 i (by simpa using hi)
    ·cases h
   ·cases h
theorem c3K (h:MR β K get w) {c c':C} {v:Value} (hc:roC get c=some c') (hv:CR β K c v) (hk:∀k∈a0N c,k∈ks):CR β (a4P β K get w ks) c' v:=by
 cases c with
 | ref t k =>
   simp only[roC]at hc;split at hc
   ·rename_i t' l hg;split at hc
    ·rename_i e _;subst e;split at hc
     case h_2=>cases hc
     rename_i hj;cases hc;obtain⟨y,a,n,c,hb,hy,rfl⟩:=hv;have:=d5n h hj hg (hk k (by simp[a0N])) hb;rw[hy]at this;exact this
    ·cases hc
   ·cases hc
 | fn f caps =>
   cases caps with
   |nil=>simp only[roC,injEq]at hc;subst hc;exact CR.mono (BLe.refl β) a0K hv
   |cons k ks=>simp[roC]at hc
 |ptr k o=>simp[roC]at hc
 |eptr k t i o=>simp[roC]at hc
 |aptr k o m j=>simp[roC]at hc
 |aeptr k t i o m j=>simp[roC]at hc
 |arptr t l i o m j=>simp[roC]at hc
 | asl t k o m =>
   simp only[roC]at hc;split at hc
   ·rename_i cs hg;split at hc
    ·rename_i l hl;cases hc;obtain⟨b,c,⟨hd,b',hb,hp,e1⟩,hmc,rfl⟩:=hv;cases e1;obtain⟨hd',hb',b'',arr,T,rfl,hh,hcs⟩:=h.blk k _ hg;rw[hb]at hb';cases hb';cases hp;obtain⟨h1,h2⟩:=c3J hl ((hcs.sub' o (m*t.size)).mono fun _ _=>CR.mono (BLe.refl β) (a0K (β:=β) (get:=get) (w:=w) (ks:=ks)));rcases Nat.eq_zero_or_pos m with hm0|hm0
     ·exact⟨_,_,_,rfl,h1.symm,by omega,.inl hm0⟩
     have hj:t.isJ=false:=d1p hm0 hl;refine⟨_,_,_,rfl,h1.symm,by omega,.inr ⟨b,o,arr,rfl,by rw[hj];exact b2N h hg (hk k (by simp[a0N])) hb rfl hh,fun i hi=>?_⟩⟩;have:=h2 i hi;have e:sub (sub arr.toList o (m*t.size)) (i*t.size) t.size=sub arr.toList (o+i*t.size) t.size:=by
      have hle:i*t.size+t.size<=m*t.size:=by rw[<- Nat.succ_mul];exact Nat.mul_le_mul_right _ (by omega)
      unfold sub;rw[List.drop_take,List.take_take,List.drop_drop,Nat.min_eq_left (by omega)]
     rw[e]at this;exact this
    ·cases hc
   ·cases hc
 |_=>simp only[roC,injEq]at hc;subst hc;exact CR.mono (BLe.refl β) a0K hv
theorem a1c {α γ δ:Type} {f:α->Option γ} {R:α->δ->Prop} {R':γ->δ->Prop}:∀{as1:List α} {cs:List γ} {ds:List δ},a1v f as1=some cs->All2 R as1 ds->(∀a c d,a∈as1->f a=some c->R a d->R' c d)->All2 R' cs ds
 | [],cs,ds,h,ha,_=>by
   simp only[a1v,injEq]at h;subst h;cases ds with
   |nil=>trivial
   |cons d ds=>exact ha.elim
 | a :: as1,cs,ds,h,ha,hf=>by
   simp only[a1v]at h;split at h
   ·rename_i y hy;split at h
    ·rename_i ys hys;cases h;cases ds with
     |nil=>exact ha.elim
     |cons d ds=>exact⟨hf a y d (List.mem_cons_self ..) hy ha.1,a1c hys ha.2 fun a c d hm=>hf a c d (List.mem_cons_of_mem _ hm)⟩
    ·cases h
   ·cases h
theorem a2t {α γ:Type} {f:α->Option γ}:∀{as1:List α} {cs:List γ},a1v f as1=some cs->cs.length=as1.length
 |[],cs,h=>by simp only[a1v,injEq]at h;subst h;rfl
 | a::as1,cs,h=>by
   simp only[a1v]at h;split at h
   ·split at h
    ·rename_i hys;cases h;simp[a2t hys]
    ·cases h
   ·cases h
theorem b7X {α γ:Type} {f:α->Option γ}:∀{as1:List α} {cs:List γ},a1v f as1=some cs->∀c∈cs,∃a∈as1,f a=some c
 |[],cs,h=>by simp only[a1v,injEq]at h;subst h;simp
 | a :: as1,cs,h=>by
   simp only[a1v]at h;split at h
   ·rename_i y hy;split at h
    ·rename_i ys hys;cases h;intro c hc;rcases List.mem_cons.1 hc with rfl|hc
     ·exact⟨a,List.mem_cons_self ..,hy⟩
     ·obtain⟨a',h1,h2⟩:=b7X hys c hc;exact⟨a',List.mem_cons_of_mem _ h1,h2⟩
    ·cases h
   ·cases h
theorem a6k:∀{l:List Nat} {k:Nat},b1j l k=true↔k∈l
 |[],k=>by simp[b1j]
 | x::r,k=>by
   unfold b1j;split
   ·rename_i h;have:=a0g h;subst this;simp
   ·rename_i h;have hne:x≠k:=fun e=>by subst e;simp at h
    rw[a6k];simp[hne.symm]
theorem a3V {l:List Nat} {k:Nat} (h:b1j l k=false):k ∉ l:=fun hm=>by rw[a6k.2 hm]at h;cases h
end
theorem a2R (cur vs:List Value) (p o n:Nat) (hp:p+vs.length<=cur.length) (h:o+n<=p∨p+vs.length<=o) :
 sub (cur.take p++vs++cur.drop (p+vs.length)) o n=sub cur o n:=by
 apply List.ext_getElem?;intro j;unfold sub;simp only[List.getElem?_take,List.getElem?_drop];split
 ·rename_i hj;simp only[List.getElem?_append,length_append,List.length_take,List.getElem?_take,List.getElem?_drop];rcases h with h|h
  ·rw[if_pos (by omega),if_pos (by omega),if_pos (by omega)]
  ·rw[if_neg (by omega)];congr 1;omega
 ·rfl
theorem a4o (cur vs:List Value) (o n off:Nat) (hl:o+n<=cur.length) (h:off+vs.length<=n) :
 sub (cur.take (o+off)++vs++cur.drop (o+off+vs.length)) o n=(sub cur o n).take off++vs++(sub cur o n).drop (off+vs.length):=by
 apply List.ext_getElem?;intro j;unfold sub;simp only[List.getElem?_take,List.getElem?_drop,List.getElem?_append,length_append,List.length_take,List.length_drop,List.take_take];by_cases h1:j<off
 ·repeat (first|rw[if_pos (by omega)]|rw[if_neg (by omega)])
 ·by_cases h2:j<off+vs.length
  ·repeat (first|rw[if_pos (by omega)]|rw[if_neg (by omega)])
   congr 1;omega
  ·by_cases h3:j<n
   ·repeat (first|rw[if_pos (by omega)]|rw[if_neg (by omega)])
    congr 1;omega
   ·repeat (first|rw[if_pos (by omega)]|rw[if_neg (by omega)])
section
variable {P:Program} {Γ:Env} {β:Bt} {K:Ks} {get:Get} {n:Nat} {w:World} {ρ:Operand->V} {a:Act} {o:Oper}
theorem a8q.write (h:Pre P Γ β K get n w ρ a) {k b:Nat} {c0 c1:Blk} {y:Hd} {cur:Array Value} {gone:List Nat} {ok:Bool}
 (hg:get k=some c0) (hb:β k=some y) (hy:y.b=some b) (hng:k ∉ gone)
 (hbr:BR β (a4P β K get w gone) c1 y (w.setRow b cur)) :
 a0Q β K get n w ⟨ok,pois,(k,some c1)::gone.map (fun k=>(k,none)),n⟩ undef (w.setRow b cur):=by
 have hlt:=h.mr.lt ⟨k,c0,y,hg,hb,hy⟩;refine⟨β,a4P β K get w gone,BLe.refl β,a0K,⟨?_,h.kok.gk.mono a0K⟩,trivial,?_,h.fresh,le_refl _,⟨rfl,rfl,rfl,by simp,?_⟩,?_,a4n,fun _ _=>rfl⟩
 ·intro x arr e;have hx:x≠b:=fun e'=>by
   subst e';rw[a1M h.mr hg hng hb hy]at e;cases e
  rw[setRow_other w b x cur hx];exact(a4m h.kok).ato x arr e
 ·refine h.mr.step (BLe.refl β) a0K ?_;intro j c e;rcases a0B e with⟨rfl,e1⟩|⟨e1,e2⟩
  ·cases e1;refine .inr ⟨y,hb,hbr,fun x hx=>?_⟩;rw[hy]at hx;cases hx;refine⟨a1M h.mr hg hng hb hy,fun k' b' y' e' f' g'=>?_⟩;rcases a0B e' with⟨rfl,_⟩|⟨e3,e4⟩
   ·rfl
   ·obtain⟨_,e5⟩:=a1o e4;exact h.mr.sep k' j b' c0 y' y b e5 hg f' hb g' hy
  ·obtain⟨e3,e4⟩:=a1o e2;refine .inl ⟨e4,fun x z f g=>⟨setRow_other w b x cur ?_,a1M h.mr e4 e3 f g⟩⟩;intro e';subst e';exact e1 (h.mr.sep j k c c0 z y x e4 hg f hb g hy)
 ·intro x hx hn;exact setRow_other w b x cur fun e=>hn (.inl ⟨k,c0,y,hg,hb,by rw[hy,e]⟩)
 ·rintro x ⟨j,c,z,e,f,g⟩;rcases a0B e with⟨rfl,e1⟩|⟨e1,e2⟩
  ·exact .inl ⟨j,c0,z,hg,f,g⟩
  ·obtain⟨_,e4⟩:=a1o e2;exact .inl ⟨j,c,z,e4,f,g⟩
theorem a8q.give (h:Pre P Γ β K get n w ρ a) {ks:List Nat} {v:V} {u:Value} {ok:Bool} (hv:VR β (a4P β K get w ks) v u):a0Q β K get n w ⟨ok,v,ks.map fun k=>(k,none),n⟩ u w:=by
 refine⟨β,a4P β K get w ks,BLe.refl β,a0K,a4m h.kok,hv,?_,h.fresh,le_refl _,Fr.refl _ _,?_,a4n,fun _ _=>rfl⟩
 ·refine h.mr.step (BLe.refl β) a0K fun k b e=>?_
  obtain⟨h1,h2⟩:=a1o e;exact .inl ⟨h2,fun x y f g=>⟨rfl,a1M h.mr h2 h1 f g⟩⟩
 ·rintro x ⟨k,b,y,e,f,g⟩;obtain⟨h1,h2⟩:=a1o e;exact .inl ⟨k,b,y,h2,f,g⟩
theorem a8q.junkW (h:Pre P Γ β K get n w ρ a) {b:Nat} {arr cur cur':Array Value} {T:TypeId} {ok:Bool} (hK:K b=some (true,arr)) (hh:w.heap[b]?=some (.cells cur T (0,0))) (hv:All2 VJ arr.toList cur'.toList) :
 a0Q β K get n w ⟨ok,pois,[],n⟩ undef (w.setRow b cur'):=by
 refine⟨β,K,BLe.refl β,KLe.refl K,⟨?_,h.kok.gk⟩,trivial,?_,h.fresh,le_refl _,⟨rfl,rfl,rfl,by simp,?_⟩,fun x hx => .inl hx,fun _ _ e => .inl e,fun _ _=>rfl⟩
 ·intro x y e;by_cases hx:x=b
  ·subst hx;rw[hK]at e;cases e;exact⟨cur',T,(0,0),setRow_heap w x cur cur' T _ hh,⟨fun e=>(by cases e),fun _=>⟨rfl,hv⟩⟩⟩
  ·rw[setRow_other w b x cur' hx];exact h.kok.ato x y e
 ·refine h.mr.world fun x hx=>setRow_other w b x cur' fun e=>?_
  obtain⟨k,c,y,h1,h2,h3⟩:=hx;have:=h.mr.ro k c y x h1 h2 h3;rw[e,hK]at this;cases this
 ·intro x hx hn;exact setRow_other w b x cur' fun e=>hn (.inr ⟨arr,by rw[e];exact hK⟩)
theorem a3m (t:TypeId) {i:TypeInfo} (hi:P.info? t=some i) {b off:Nat} {cur:Array Value} {T:TypeId} {v:Value} (hh:w.heap[b]?=some (.cells cur T (0,0)))
 (hs:v.cells.size=i.size) (hfit:off+v.cells.size<=cur.size) (h1:∀x∈v.cells.toList,x.oneCell'=true) :
 (Instr.storeAt t (.pointer (some ⟨b,off,none⟩)) v).run P w = .ok () (w.setRow b (cur.toList.take off++v.cells.toList++cur.toList.drop (off+v.cells.toList.length)).toArray):=by
 have hst:=run_storeCells_at P b off T v.cells.toList 0 cur w hh (by simpa using hfit) h1;simp only[Nat.add_zero]at hst;simp[Instr.storeAt,Instr.sureAddr,storeVar,sizeOf,typeInfo,hi,hs,hst]
theorem a4R {R:C->Value->Prop} {cs new:List C} {vs nv:List Value} (h:All2 R cs vs) (h':All2 R new nv) (off:Nat) :
 All2 R (d1f cs off new) (vs.take off++nv++vs.drop (off+nv.length)):=by
 unfold d1f;rw[h'.length];exact((h.take off).append h').append (h.drop _)
theorem c3L {k:FloatKind} {x y:Nat} {v:Value} {j:Nat}:∀{l:List (Nat×Nat)} {i:Nat} {vs:List Value},All2 (CR β K) (l.map fun p=>C.cpx k p.1 p.2) vs->i<=j->CR β K (.cpx k x y) v ->
 All2 (CR β K) (e5y k j x y i l) (vs.set (j-i) v)
 |[],i,[],_,_,_=>trivial
 |[],_,_::_,h,_,_=>h.elim
 |_::_,_,[],h,_,_=>h.elim
 | p :: r,i,u::us,h,hij,hv=>by
   by_cases e:i=j
   ·subst e;rw[Nat.sub_self,List.set_cons_zero];refine⟨?_,?_⟩
    ·have:beq i i=true:=Nat.beq_refl i;simp only[this,cond_true];exact hv
    ·have go:∀{l:List (Nat×Nat)} {q:Nat} {vs:List Value},i<q->All2 (CR β K) (l.map fun p=>C.cpx k p.1 p.2) vs->All2 (CR β K) (e5y k i x y q l) vs:=by
      intro l
      induction l with
      |nil=>intro q vs _ h;exact h
      | cons p r ih =>
        intro q vs hq h;cases vs with
        |nil=>exact h.elim
        | cons u us =>
          refine⟨?_,ih (by omega) h.2⟩;have:beq q i=false:=a1A (by omega);simp only[this,cond_false];exact h.1
     exact go (Nat.lt_succ_self i) h.2
   ·have e2:j-i=(j-(i+1))+1:=by omega
    rw[e2,List.set_cons_succ];refine⟨?_,c3L h.2 (by omega) hv⟩;have:beq i j=false:=a1A e;simp only[this,cond_false];exact h.1
theorem b7Y {k:FloatKind} {x y j:Nat}:∀{l:List (Nat×Nat)} {i:Nat},(e5y k j x y i l).length=l.length
 |[],_=>rfl
 |_::r,_=>by simp[e5y,b7Y (l:=r)]
theorem c3M {cs cs':List C} {vs:List Value} {m j:Nat} {u:W} {v:Value} (h:All2 (CR β K) cs vs) (hp:e6I cs m j u=some cs') (hv:WR β K u v) :
 All2 (CR β K) cs' (vs.set j v) /\ cs'.length=m /\ v.cells=#[v] /\ v.oneCell'=true /\ a0L u=[]:=by
 unfold e6I at hp;split at hp
 ·rename_i k x y;split at hp
  ·rename_i hm;have hm:=a0g hm;split at hp
   ·rename_i l hl;cases hp;have e:=b5D hl;rw[e]at h;have hlen:l.length=m:=by rw[<- hm,e,List.length_map]
    obtain⟨x',y',rfl,hx,hy⟩:=hv;have:=c3L (i:=0) (j:=j) h (Nat.zero_le _) (show CR β K (.cpx k x y) (.complex k x' y')from⟨x',y',rfl,hx,hy⟩);exact⟨by simpa using this,by rw[b7Y,hlen],rfl,rfl,rfl⟩
   ·cases hp
  ·cases hp
 ·cases hp
theorem b0g {vs:List Value} {off m j:Nat} {v:Value} (hj:j<m) (hl:off+m<=vs.length) :
 vs.take off++(sub vs off m).set j v++vs.drop (off+((sub vs off m).set j v).length)=vs.take (off+j)++[v]++vs.drop (off+j+[v].length):=by
 have hlen:(sub vs off m).length=m:=a3R hl;rw[List.length_set,hlen];apply List.ext_getElem?;intro i;simp only[List.getElem?_append,length_append,List.length_take,List.getElem?_take,List.getElem?_drop,List.length_set,hlen,List.length_singleton];by_cases h1:i<off
 ·rw[if_pos (by omega),if_pos (by omega),if_pos (by omega),if_pos (by omega),if_pos (by omega),if_pos (by omega)]
 ·by_cases h2:i<off+m
  ·rw[if_pos (by omega),if_neg (by omega),List.getElem?_set];by_cases h3:i=off+j
   ·subst h3;rw[if_pos (by omega),if_pos (by omega),if_pos (by omega),if_neg (by omega)];have:off+j-min (off+j) vs.length=0:=by omega
    rw[this];rfl
   ·rw[if_neg (by omega)];unfold sub;rw[List.getElem?_take,if_pos (by omega),List.getElem?_drop];by_cases h4:i<off+j
    ·rw[if_pos (by omega),if_pos (by omega),if_pos (by omega)];congr 1;omega
    ·rw[if_neg (by omega)];congr 1;omega
  ·rw[if_neg (by omega),if_neg (by omega)];congr 1;omega
theorem d1q (h:Pre P Γ β K get n w ρ a) {t:TypeId} {ti:TI} {x y:Operand} {u:W} {out:Out} (ho:o.op = .store t x y) (ht:Γ.tab t=some ti) (hu:b1m Γ t y (ρ y) = .val u)
 (hl:a1j get n ti.size u (ρ x)=some out):a0m P o a w (a0Q β K get n w out):=by
 obtain⟨i,d,z,hi,hd,hz,hs,_⟩:=(h.env.tab t ti ht).ex;have hv:=h.val x;have hw:WR β K u (a.eval y):=by have:=b7V h t y;rw[hu]at this;exact this
 have exec:∀(w':World),(Instr.storeAt t (a.eval x) (a.eval y)).run P w = .ok () w'->(execOp a.eval o).run P w = .ok .skip w':=by
  intro w' hr;simp[execOp,ho,hr]
 cases hx:ρ x with
 |tup ws=>rw[hx]at hl;simp[a1j]at hl
 | val ux =>
   rw[hx]at hl hv;cases ux with
   |agg cs=>simp[a1j]at hl
   | one c =>
     cases c with
     | ptr k off =>
       simp only[a1j]at hl;obtain⟨hd',b,hb,hp,he⟩:=hv;split at hl
       ·rename_i cs hg;split at hl
        ·rename_i hchk;cases hl;simp only[and_eq_true]at hchk;obtain⟨⟨hc1,hc2⟩,hc3⟩:=hchk;have hc1:=a0g hc1;have hc2:off+ti.size<=cs.length:=by simpa using hc2
         have hcells:=hw.cells hc3;obtain⟨hd'',hb',b',arr,T,rfl,hh,hc⟩:=h.mr.blk k _ hg;rw[hb]at hb';cases hb';cases hp;have hsz:(a.eval y).cells.size=i.size:=by rw[hs,<- hc1];exact hcells.length.symm
         have hal:=hc.length;have hr:=a3m (P:=P) (w:=w) t hi (v:=a.eval y) (off:=off) hh hsz (by simp at hal;omega) (hcells.oneCell hc3);rw[<- he]at hr;refine a0m.skip (exec _ hr) ?_;refine a8q.write (gone:=[]) h hg hb rfl (by simp) ?_;refine⟨b,_,T,rfl,setRow_heap w b arr _ T _ hh,?_⟩;rw[List.toList_toArray];exact(a4R hc hcells off).mono fun _ _=>CR.mono (BLe.refl β) a0K
        ·cases hl
       ·cases hl
     | eptr k t' j off =>
       simp only[a1j]at hl;obtain⟨hd',b,m,c,hb,hp,hj,he⟩:=hv;split at hl
       ·rename_i t'' l hg;split at hl
        ·rename_i e _;subst e;split at hl
         ·rename_i cs hcs;split at hl
          ·rename_i hchk;simp only[and_eq_true,Bool.not_eq_true']at hchk;obtain⟨⟨⟨hc1,hc2⟩,hc3⟩,hsure⟩:=hchk;have hc1:=a0g hc1;have hc2:off+ti.size<=t''.size:=by simpa using hc2
           have hng:k ∉ u.cells.flatMap a0N:=a3V hc3;split at hl
           ·rename_i xx hdec;cases hl;have hcells:=hw.cells hsure;have hro:All2 (CR β (a4P β K get w (u.cells.flatMap a0N))) cs (a.eval y).cells.toList:=
             a1c hcs hcells fun cc cc' vv hm hf hr=>c3K h.mr hf hr fun k hk=>List.mem_flatMap.2 ⟨cc,hm,hk⟩
            obtain⟨hd'',hb',hbr⟩:=h.mr.blk k _ hg;rw[hb]at hb';cases hb';rcases hbr with⟨_,a',e'⟩|⟨b',cap,cur,T,e',hh,h1,h2,h3,h4⟩
            ·subst e';cases hp;omega
            ·subst e';cases hp;have hx1:l.getD j (zero t'')=l[j]:=by simp[List.getElem?_eq_getElem hj]
             have hdec:dec t'' (d1f (enc t'' (l.getD j (zero t''))) off cs)=some (xx,[]):=hdec;rw[hx1]at hdec;have hlen:(a.eval y).cells.toList.length=ti.size:=by rw[<- hro.length,hc1]
             have hsz:(a.eval y).cells.size=i.size:=by rw[hs,<- hlen];simp
             have hfit:j*t''.size+t''.size<=cur.size:=by
              rw[h3,<- Nat.succ_mul];exact Nat.mul_le_mul_right _ (by omega)
             have hr:=a3m (P:=P) (w:=w) t hi (v:=a.eval y) (off:=j*t''.size+off) hh hsz (by rw[hsz,hs];omega) (fun x hx=>by
              have:=All2.oneCell hsure hcells x hx;exact this)
             rw[<- he]at hr;refine a0m.skip (exec _ hr) ?_;refine a8q.write h hg hb rfl hng ?_;refine .inr ⟨b,c,_,T,by simp,setRow_heap w b cur _ T _ hh,by simpa using h1,h2,?_,?_⟩
             ·simp only[List.size_toArray,length_append,List.length_take,List.length_drop,Array.length_toList];rw[Array.length_toList]at hlen;omega
             ·intro q hq;rw[List.toList_toArray];have hq':q<l.length:=by simpa using hq
              by_cases hqj:q=j
              ·subst hqj;rw[List.getElem_set_self];rw[a4o _ _ _ _ _ (by simpa using hfit) (by rw[hlen];exact hc2)];have henc:=(DR.enc (β:=β) t'' (h4 q hj)).mono fun _ _=>CR.mono (BLe.refl β) (a0K (β:=β) (get:=get) (w:=w) (ks:=u.cells.flatMap a0N))
               obtain⟨v1,v2,e1,e2,e3⟩:=b2L t'' hdec (a4R henc hro off);cases v2 with
               |nil=>rw[e1];simpa using e2
               |cons _ _=>exact e3.elim
              ·rw[List.getElem_set_ne (by omega)];rw[a2R _ _ _ _ _ (by simp only[Array.length_toList]at *;omega) ?_]
               ·exact DR.mono a0K _ (h4 q hq')
               ·rcases Nat.lt_or_ge q j with hlt|hge
                ·left;have:q*t''.size+t''.size<=j*t''.size:=by rw[<- Nat.succ_mul];exact Nat.mul_le_mul_right _ hlt
                 omega
                ·right;have:j*t''.size+t''.size<=q*t''.size:=by rw[<- Nat.succ_mul];exact Nat.mul_le_mul_right _ (by omega)
                 rw[hlen];omega
           ·cases hl
          ·cases hl
         ·cases hl
        ·cases hl
       ·cases hl
     | rptr t' l q off =>
       cases t' with
       | jnk =>
         simp only[a1j]at hl;obtain⟨hq,b,o',arr,hK,hall,he⟩:=hv;split at hl
         ·rename_i xf;split at hl
          ·rename_i hchk;cases hl;simp only[and_eq_true]at hchk;have h1:=a0g hchk.1;have h2:=a0g hchk.2;subst h2;obtain⟨cur,T,fz,hh,_,hvj0⟩:=h.kok.ato b _ hK;obtain⟨hfz,hvj⟩:=hvj0 rfl;subst hfz;obtain⟨x',hval,_⟩:=hw;obtain⟨m,hm⟩:=hall q hq;have hlt:o'+q<arr.toList.length:=by
            have:=congrArg List.length hm;simp[sub,Ty.size]at this;simp;omega
           have hat:arr.toList[o'+q] = .float .f32 m:=by
            have:=congrArg (·[0]?) hm;simp only[sub,Ty.size,Nat.mul_one]at this;rw[List.getElem?_take,if_pos (by omega),List.getElem?_drop,Nat.add_zero,List.getElem?_eq_getElem hlt]at this;simpa using this
           have hlen:=hvj.length;have hsz:(a.eval y).cells.size=i.size:=by rw[hval,hs,h1];rfl
           have hr:=a3m (P:=P) (w:=w) t hi (v:=a.eval y) (off:=o'+q) hh hsz (by rw[hsz,hs,h1];simp at hlt hlen;omega) (by rw[hval];intro z hz;simp[Value.cells]at hz;subst hz;rfl);have he':a.eval x = .pointer (some ⟨b,o'+q,none⟩):=by rw[he];simp[Ty.size]
           rw[<- he']at hr;refine a0m.skip (exec _ hr) ?_;refine a8q.junkW h hK hh ?_;rw[List.toList_toArray,hval];refine All2.of_get (by simp[Value.cells]at hlt hlen ⊢;omega) fun j u v hu hv=>?_
           by_cases hj:j=o'+q
           ·subst hj;rw[List.getElem?_eq_getElem hlt,hat]at hu;have:v = .float .f32 x':=by
             rw[List.append_assoc,List.getElem?_append_right (by simp;omega)]at hv;simp[Value.cells]at hv;simp at hlt hlen;rw[Nat.min_eq_left (by omega)]at hv;simpa using hv.symm
            cases hu;exact .inr ⟨m,x',rfl,this⟩
           ·have hv':cur.toList[j]?=some v:=by
             rw[<- hv];simp only[Value.cells,List.getElem?_append,length_append,List.length_take,List.getElem?_take,List.getElem?_drop];simp at hlt hlen;by_cases h3:j<o'+q
             ·simp;rw[if_pos (by omega),if_pos (by omega),if_pos (by omega)]
             ·simp;rw[if_neg (by omega)];congr 1;omega
            obtain⟨v2,e1,e2⟩:=hvj.get? hu;rw[hv']at e1;cases e1;exact e2
          ·cases hl
         ·cases hl
       |_=>simp[a1j]at hl
     | aptr k off m j =>
       simp only[a1j]at hl;obtain⟨hj,hd',b,hb,hp,he⟩:=hv;split at hl
       ·rename_i cs hg;split at hl
        ·rename_i cs' hput;split at hl
         ·rename_i hchk;cases hl;simp only[and_eq_true]at hchk;have hc1:=a0g hchk.1;have hc2:off+m<=cs.length:=by simpa using hchk.2
          obtain⟨hd'',hb',b',arr,T,rfl,hh,hc⟩:=h.mr.blk k _ hg;rw[hb]at hb';cases hb';cases hp;obtain⟨hset,hlen,hcell,hone,hkeys⟩:=c3M (hc.sub' off m) hput hw;have hal:cs.length=arr.toList.length:=hc.length;have hsz:(a.eval y).cells.size=i.size:=by rw[hcell,hs,hc1];rfl
          have hr:=a3m (P:=P) (w:=w) t hi (v:=a.eval y) (off:=off+j) hh hsz (by rw[hcell];simp at hal ⊢;omega) (fun x hx=>by rw[hcell]at hx;simp at hx;subst hx;exact hone);rw[<- he]at hr;refine a0m.skip (exec _ hr) ?_;refine a8q.write (gone:=[]) h hg hb rfl (by simp) ?_;refine⟨b,_,T,rfl,setRow_heap w b arr _ T _ hh,?_⟩;rw[List.toList_toArray,hcell];have:=a4R hc hset off;rw[b0g hj (by omega)]at this;exact this.mono fun _ _=>CR.mono (BLe.refl β) a0K
         ·cases hl
        ·cases hl
       ·cases hl
     | aeptr k t' q off m j =>
       simp only[a1j]at hl;obtain⟨hj,hd',b,p,c,hb,hp,hq,he⟩:=hv;split at hl
       ·rename_i t'' l hg;split at hl
        ·rename_i e _;subst e;split at hl
         ·rename_i cs' hput;split at hl
          ·rename_i hchk;simp only[and_eq_true]at hchk;have hc1:=a0g hchk.1;have hc2:off+m<=t''.size:=by simpa using hchk.2
           split at hl
           ·rename_i xx hdec;cases hl;obtain⟨hd'',hb',hbr⟩:=h.mr.blk k _ hg;rw[hb]at hb';cases hb';rcases hbr with⟨_,a',e'⟩|⟨b',cap,cur,T,e',hh,h1,h2,h3,h4⟩
            ·subst e';cases hp;omega
            ·subst e';cases hp;have hx1:l.getD q (zero t'')=l[q]:=by simp[List.getElem?_eq_getElem hq]
             have hdec:dec t'' (d1f (enc t'' (l.getD q (zero t''))) off cs')=some (xx,[]):=hdec;have hput:e6I (a2D (enc t'' (l.getD q (zero t''))) off m) m j u=some cs':=hput;rw[hx1]at hdec hput;have henc:=DR.enc (β:=β) t'' (h4 q hq);obtain⟨hset,hlen,hcell,hone,hkeys⟩:=c3M (henc.sub' off m) hput hw;have hfit:q*t''.size+t''.size<=cur.size:=by
              rw[h3,<- Nat.succ_mul];exact Nat.mul_le_mul_right _ (by omega)
             have hsz:(a.eval y).cells.size=i.size:=by rw[hcell,hs,hc1];rfl
             have hr:=a3m (P:=P) (w:=w) t hi (v:=a.eval y) (off:=q*t''.size+(off+j)) hh hsz (by rw[hcell];simp;omega) (fun x hx=>by rw[hcell]at hx;simp at hx;subst hx;exact hone);rw[<- he]at hr;refine a0m.skip (exec _ hr) ?_;refine a8q.write (gone:=[]) h hg hb rfl (by simp) ?_;have hvl:(a.eval y).cells.toList.length=1:=by rw[hcell];rfl
             refine .inr ⟨b,c,_,T,by simp,setRow_heap w b cur _ T _ hh,by simpa using h1,h2,?_,?_⟩
             ·simp only[List.size_toArray,length_append,List.length_take,List.length_drop,Array.length_toList];rw[Array.length_toList]at hvl;omega
             ·intro z hz;rw[List.toList_toArray];have hz':z<l.length:=by simpa using hz
              by_cases hzq:z=q
              ·subst hzq;rw[List.getElem_set_self];rw[a4o _ _ _ _ _ (by simpa using hfit) (by rw[hvl];omega),hcell];have hsub:(sub cur.toList (z*t''.size) t''.size).length=t''.size:=a3R (by simpa using hfit);have hal:=(a4R henc hset off).mono fun _ _=>CR.mono (BLe.refl β) (a0K (β:=β) (get:=get) (w:=w) (ks:=[]))
               rw[b0g hj (by rw[hsub];exact hc2)]at hal;obtain⟨v1,v2,e1,e2,e3⟩:=b2L t'' hdec hal;have e1:List.take (off+j) (sub cur.toList (z*t''.size) t''.size)++[a.eval y]++List.drop (off+j+1) (sub cur.toList (z*t''.size) t''.size)=v1++v2:=e1;cases v2 with
               | nil =>
                 show DR _ _ _ (List.take (off+j) (sub cur.toList (z*t''.size) t''.size)++[a.eval y]++List.drop (off+j+1) (sub cur.toList (z*t''.size) t''.size));rw[e1];simpa using e2
               |cons _ _=>exact e3.elim
              ·rw[List.getElem_set_ne (by omega)];rw[a2R _ _ _ _ _ (by simp only[Array.length_toList]at *;omega) ?_]
               ·exact DR.mono a0K _ (h4 z hz')
               ·rcases Nat.lt_or_ge z q with hlt|hge
                ·left;have:z*t''.size+t''.size<=q*t''.size:=by rw[<- Nat.succ_mul];exact Nat.mul_le_mul_right _ hlt
                 omega
                ·right;have:q*t''.size+t''.size<=z*t''.size:=by rw[<- Nat.succ_mul];exact Nat.mul_le_mul_right _ (by omega)
                 rw[hvl];omega
           ·cases hl
          ·cases hl
         ·cases hl
        ·cases hl
       ·cases hl
     |_=>simp[a1j]at hl
end
section
variable {P:Program} {Γ:Env} {β:Bt} {K:Ks} {get:Get} {n:Nat} {w:World} {ρ:Operand->V} {a:Act} {o:Oper}
theorem Pre.one (h:Pre P Γ β K get n w ρ a) {x:Operand} {c:C} (hx:ρ x = .val (.one c)):CR β K c (a.eval x):=by
 have:=h.val x;rw[hx]at this;exact this
theorem Pre.agg (h:Pre P Γ β K get n w ρ a) {x:Operand} {cs:List C} (hx:ρ x = .val (.agg cs)):∃arr:Array Value,a.eval x = .agg arr /\ All2 (CR β K) cs arr.toList:=by
 have:=h.val x;rw[hx]at this;exact this
theorem a4p (h:Pre P Γ β K get n w ρ a) {x:Operand} {c:C} (ho:o.op = .nilCheck x) (hx:ρ x = .val (.one c))
 (hc:(∃k o,c = .ptr k o)∨(∃k t i o,c = .eptr k t i o)∨(∃t l i o,c = .rptr t l i o)∨(∃f cs,c = .fn f cs)) :
 a0m P o a w (a0Q β K get n w ⟨true,.val (.one c),[],n⟩):=by
 have hv:=h.one hx;refine h.pure (u:=a.eval x) (w':=w) hv ?_ (a0p.refl w);rcases hc with⟨k,o',rfl⟩|⟨k,t,i,o',rfl⟩|⟨t,l,i,o',rfl⟩|⟨f,cs,rfl⟩
 ·obtain⟨_,_,_,_,he⟩:=hv;simp[execOp,ho,he]
 ·obtain⟨_,_,_,_,_,_,_,he⟩:=hv;simp[execOp,ho,he]
 ·obtain⟨_,_,_,_,_,_,he⟩:=hv;simp[execOp,ho,he]
 ·obtain⟨_,he,_⟩:=hv;simp[execOp,ho,he]
theorem All2.nth {α γ:Type} {R:α->γ->Prop} {as1:List α} {cs:List γ} {i:Nat} {c:γ} (h:All2 R as1 cs) (hc:cs[i]?=some c):∃x,as1[i]?=some x /\ R x c:=h.get?' hc
theorem b2O (h:Pre P Γ β K get n w ρ a) {t:TypeId} {ti:TI} {x:Operand} {f:Nat} {off size:Nat} {ag:Bool} {out:Out} (ho:o.op = .fieldAddr t x f) (ht:Γ.tab t=some ti)
 (hs:ti.sort = .struct) (hf:ti.fields[f]?=some (off,size,ag)) (h0:size≠0)
 (hl : (match ρ x with
       |.val (.one (.ptr k o))=>a0v n true (.one (.ptr k (o+off)))
       |.val (.one (.eptr k ty i o))=>a0v n true (.one (.eptr k ty i (o+off)))
       |.val (.one (.rptr ty l i o))=>a0v n true (.one (.rptr ty l i (o+off)))
       |_=>none)=some out):a0m P o a w (a0Q β K get n w out):=by
 obtain⟨i,d,z,hi,hd,hz,_,_,_,_,hso,_⟩:=(h.env.tab t ti ht).ex;simp only[a1J,hs]at hso;obtain⟨fs,rfl,hfs⟩:=hso;obtain⟨fl,hfl,hoff,fi,fd,hfi,hfsz,_⟩:=hfs.nth hf;have hfl':fs[f]?=some fl:=by simpa using hfl
 have key:∀(b q:Nat),a.eval x = .pointer (some ⟨b,q,none⟩)->(execOp a.eval o).run P w = .ok (.value (.pointer (some ⟨b,q+off,none⟩))) w:=by
  intro b q he;refine a1p (s:=Instr.fieldAt t (a.eval x) f) (by simp[execOp,ho]) ?_;have hne:¬fi.size=0:=by rw[hfsz];exact h0
  simp[Instr.fieldAt,run_underlying hd,hfl',he,Instr.sureAddr,fieldPlace,a1b hfi,hne,a2Q,hoff]
 split at hl
 ·rename_i k q hx;obtain⟨hd',b,hb,hp,he⟩:=h.one hx;exact h.pure1 hl (u := .pointer (some ⟨b,q+off,none⟩)) ⟨hd',b,hb,hp,rfl⟩ (key b q he) (a0p.refl w)
 ·rename_i k ty j q hx;obtain⟨hd',b,m,c,hb,hp,hj,he⟩:=h.one hx;exact h.pure1 hl (u := .pointer (some ⟨b,j*ty.size+(q+off),none⟩)) ⟨hd',b,m,c,hb,hp,hj,rfl⟩ (by rw[<- Nat.add_assoc];exact key b _ he) (a0p.refl w)
 ·rename_i ty l j q hx;obtain⟨hj,b,o',arr,hK,hall,he⟩:=h.one hx;exact h.pure1 hl (u := .pointer (some ⟨b,o'+j*ty.size+(q+off),none⟩)) ⟨hj,b,o',arr,hK,hall,rfl⟩ (by rw[<- Nat.add_assoc];exact key b _ he) (a0p.refl w)
 ·cases hl
theorem a6l (ag:Bool) (t:TypeId) {fi:TypeInfo} {fd:TypeDesc} (hfi:P.info? t=some fi) (hfd:P.underlying t=some fd) (hag:d1k fd=ag) {cs:List C} {arr:Array Value} {off:Nat} {u:W}
 (hc:All2 (CR β K) cs arr.toList) (hu:a3w ag fi.size (a2D cs off fi.size)=some u):∃v,(part t arr off).run P w = .ok v w /\ WR β K u v:=by
 have hsub:=hc.sub' off fi.size;have hl:=a3S hu;unfold part;rw[Sem.run_bind,b0e hfd,Result.andThen_ok,hag];cases ag with
 | true =>
   simp only[a3w]at hu;split at hu
   ·cases hu;refine⟨.agg (arr.extract off (off+fi.size)),by simp[a1b hfi],⟨_,rfl,?_⟩⟩;rw[Array.toList_extract];have e:List.extract arr.toList off (off+fi.size)=sub arr.toList off fi.size:=by
     simp[List.extract,sub]
    rw[e];exact hsub
   ·cases hu
 | false =>
   simp only[a3w]at hu;split at hu
   ·rename_i h1;have h1:=a0g h1;split at hu
    ·rename_i c hcs;cases hu;rw[hcs]at hsub;cases hs:sub arr.toList off fi.size with
     |nil=>rw[hs]at hsub;exact hsub.elim
     | cons v vs =>
       rw[hs]at hsub;have hv:arr[off]?=some v:=by
        have:(sub arr.toList off fi.size)[0]?=some v:=by rw[hs];rfl
        unfold sub at this;rw[List.getElem?_take]at this;split at this
        ·rw[List.getElem?_drop]at this;simpa using this
        ·cases this
       exact⟨v,by simp[hv],hsub.1⟩
    ·cases hu
   ·cases hu
theorem d1r (h:Pre P Γ β K get n w ρ a) {t:TypeId} {ti:TI} {x:Operand} {f:Nat} {off size:Nat} {ag:Bool} {cs:List C} {u:W} (ho:o.op = .field t x f) (ht:Γ.tab t=some ti)
 (hs:ti.sort = .struct) (hf:ti.fields[f]?=some (off,size,ag)) (hx:ρ x = .val (.agg cs)) (hu:a3w ag size (a2D cs off size)=some u) {out:Out} (hp:AM.a0v n true u=some out) :
 a0m P o a w (a0Q β K get n w out):=by
 obtain⟨i,d,z,hi,hd,hz,_,_,_,_,hso,_⟩:=(h.env.tab t ti ht).ex;simp only[a1J,hs]at hso;obtain⟨fs,rfl,hfs⟩:=hso;obtain⟨fl,hfl,hoff,fi,fd,hfi,hfsz,hfd,hag⟩:=hfs.nth hf;have hfl':fs[f]?=some fl:=by simpa using hfl
 obtain⟨arr,he,hc⟩:=h.agg hx;dsimp only at hoff hfsz hag;subst hoff hfsz hag;obtain⟨v,hr,hv⟩:=a6l (P:=P) (w:=w) _ fl.type hfi hfd rfl hc hu;refine h.pure1 hp hv ?_ (a0p.refl w);refine a1p (s:=Instr.field t (a.eval x) f) (by simp[execOp,ho]) ?_;simp[Instr.field,run_underlying hd,hfl',he,asAgg,hr]
theorem a3W {t:TypeId} {ti:TI} (ht:e5A P t ti):∃i,P.info? t=some i /\ i.size=ti.size:=by
 obtain⟨i,_,_,hi,_,_,hs,_⟩:=ht.ex;exact⟨i,hi,hs⟩
theorem a8y {t e:TypeId} {ei:TypeInfo} (hd:P.underlying t=some (.slice e)) (hei:P.info? e=some ei) {b q m c:Nat} {k:IntKind} {j:Int} (h0:0<=j) (h1:j<m) :
 (Instr.indexAt t (.slice (some ⟨b,q,none⟩) m c) (.int k j)).run P w = .ok (.pointer (some ⟨b,q+j.toNat*ei.size,none⟩)) w:=by
 simp[Instr.indexAt,asIntOf,run_underlying hd,h0,h1,a1b hei,a2Q]
theorem b2P (h:Pre P Γ β K get n w ρ a) {t:TypeId} {ti ei:TI} {x i:Operand} {out:Out} (ho:o.op = .indexAddr t x i) (ht:Γ.tab t=some ti) (hs:ti.sort = .slice) (he:Γ.tab ti.elem=some ei)
 (hl:(match ρ x,ρ i with
 | .val (.one (.sl t l)),.val (.one (.int _ j))=>match beq t.size ei.size with
   |true=>a0v n (decide (0<=j)&&decide (j<(l.length:Int))) (.one (.rptr t l j.toNat 0))
   |false=>none
 | .val (.one (.ref t k)),.val (.one (.int _ j))=>match get k with
   | some (.arr t' l)=>match beq t.size ei.size,a3i t' t with
     |true,some _=>a0v n (decide (0<=j)&&decide (j<(l.length:Int))) (.one (.eptr k t j.toNat 0))
     |_,_=>none
   |_=>none
 |.val (.one (.nil t)),.val (.one (.int _ _))=>a0v n false (.one (.rptr t [] 0 0))
 |_,_=>none)=some out) (hok:out.ok=true):a0m P o a w (a0Q β K get n w out):=by
 obtain⟨ii,d,z,hi,hd,hz,_,_,_,_,hso,_⟩:=(h.env.tab t ti ht).ex;simp only[a1J,hs]at hso;subst hso;obtain⟨eii,hei,hes⟩:=a3W (h.env.tab _ ei he);split at hl
 ·rename_i ty l k j hx hj;split at hl
  ·rename_i hsz;have hsz:=a0g hsz;have hp:=hl;simp only[a0v,injEq]at hp;subst hp;simp only[and_eq_true,decide_eq_true_eq]at hok;obtain⟨ad,m,c,hv,hm,hmc,hrest⟩:=h.one hx;have hjv:a.eval i = .int k j:=h.one hj;simp only[List.cons.injEq,and_true]at hv;rcases hrest with h0|⟨b,q,arr,rfl,hK,hall⟩
   ·omega
   ·refine h.pure1 hl (u := .pointer (some ⟨b,q+j.toNat*eii.size,none⟩)) ?_ (w':=w) ?_ (a0p.refl w)
    ·refine⟨by omega,b,q,arr,hK,hall,?_⟩;rw[hes,<- hsz];rfl
    ·refine a1p (s:=Instr.indexAt t (a.eval x) (a.eval i)) (by simp[execOp,ho]) ?_;rw[hv,hjv];exact a8y hd hei hok.1 (by omega)
  ·cases hl
 ·rename_i ty key k j hx hj;split at hl
  ·rename_i t' l hg;split at hl
   ·rename_i hsz hsame;have e:t'=ty:=by
     cases hq:a3i t' ty with
     |none=>rw[hq]at hsame;cases hsame
     |some p=>exact p.down
    subst e;have hsz:=a0g hsz;have hp:=hl;simp only[a0v,injEq]at hp;subst hp;simp only[and_eq_true,decide_eq_true_eq]at hok;obtain⟨y,ad,m,c,hb,hy,hv⟩:=h.one hx;have hjv:a.eval i = .int k j:=h.one hj;obtain⟨y',hb',hbr⟩:=h.mr.blk key _ hg;rw[hb]at hb';cases hb';rcases hbr with⟨rfl,a',rfl⟩|⟨b,cap,cur,T,rfl,hh,h1,h2,h3,h4⟩
    ·simp at hok;omega
    ·cases hy;refine h.pure1 hl (u := .pointer (some ⟨b,0+j.toNat*eii.size,none⟩)) ?_ (w':=w) ?_ (a0p.refl w)
     ·refine⟨_,b,l.length,_,hb,rfl,by omega,?_⟩;rw[hes,<- hsz];simp
     ·refine a1p (s:=Instr.indexAt t (a.eval x) (a.eval i)) (by simp[execOp,ho]) ?_;rw[hv,hjv];exact a8y hd hei hok.1 (by omega)
   ·cases hl
  ·cases hl
 ·simp only[a0v,injEq]at hl;subst hl;cases hok
 ·cases hl
theorem c3N (h:Pre P Γ β K get n w ρ a) {t:TypeId} {ti ei:TI} {x i:Operand} {m:Nat} {out:Out} (ho:o.op = .indexAddr t x i) (ht:Γ.tab t=some ti) (hs:ti.sort = .array m) (he:Γ.tab ti.elem=some ei)
 (hl:a2G n ei.size m (ρ x) (ρ i)=some out) (hok:out.ok=true):a0m P o a w (a0Q β K get n w out):=by
 obtain⟨ii,d,z,hi,hd,hz,_,_,_,_,hso,_⟩:=(h.env.tab t ti ht).ex;simp only[a1J,hs]at hso;subst hso;obtain⟨eii,hei,hes⟩:=a3W (h.env.tab _ ei he);unfold a2G at hl;split at hl
 ·rename_i hchk;simp only[and_eq_true]at hchk;have h1:eii.size=1:=by rw[hes];exact a0g hchk.1
  have run:∀(b q:Nat) (k:IntKind) (j:Int),a.eval x = .pointer (some ⟨b,q,none⟩)->a.eval i = .int k j->0<=j->j<(m:Int)->(execOp a.eval o).run P w = .ok (.value (.pointer (some ⟨b,q+j.toNat,none⟩))) w:=by
   intro b q k j e1 e2 h0 hj;refine a1p (s:=Instr.indexAt t (a.eval x) (a.eval i)) (by simp[execOp,ho]) ?_;rw[e1,e2];simp[Instr.indexAt,asIntOf,run_underlying hd,Instr.sureAddr,h0,hj,a1b hei,a2Q,h1]
  split at hl
  ·rename_i k q kk j hx hj;have hp:=hl;simp only[a0v,injEq]at hp;subst hp;simp only[and_eq_true,decide_eq_true_eq]at hok;obtain⟨hd',b,hb,hp,he'⟩:=h.one hx;exact h.pure1 hl (u := .pointer (some ⟨b,q+j.toNat,none⟩)) ⟨by omega,hd',b,hb,hp,rfl⟩ (run b q kk j he' (h.one hj) hok.1 hok.2) (a0p.refl w)
  ·rename_i k ty r q kk j hx hj;have hp:=hl;simp only[a0v,injEq]at hp;subst hp;simp only[and_eq_true,decide_eq_true_eq]at hok;obtain⟨hd',b,mm,c,hb,hp,hr,he'⟩:=h.one hx;exact h.pure1 hl (u := .pointer (some ⟨b,r*ty.size+q+j.toNat,none⟩)) ⟨by omega,hd',b,mm,c,hb,hp,hr,by rw[Nat.add_assoc]⟩ (run b _ kk j he' (h.one hj) hok.1 hok.2) (a0p.refl w)
  ·rename_i ty l r q kk j hx hj;have hp:=hl;simp only[a0v,injEq]at hp;subst hp;simp only[and_eq_true,decide_eq_true_eq]at hok;obtain⟨hr,b,o',arr,hK,hall,he'⟩:=h.one hx;exact h.pure1 hl (u := .pointer (some ⟨b,o'+r*ty.size+q+j.toNat,none⟩)) ⟨by omega,hr,b,o',arr,hK,hall,by rw[Nat.add_assoc (o'+r*ty.size)]⟩ (run b _ kk j he' (h.one hj) hok.1 hok.2) (a0p.refl w)
  ·cases hl
 ·cases hl
theorem d1s (h:Pre P Γ β K get n w ρ a) {t:TypeId} {ti ei:TI} {x:Operand} {m:Nat} {out:Out} (ho:o.op = .slice t x none none none) (ht:Γ.tab t=some ti) (hs:ti.sort = .array m) (he:Γ.tab ti.elem=some ei)
 (hl:b1k n m ei (ρ x)=some out):a0m P o a w (a0Q β K get n w out):=by
 obtain⟨ii,d,z,hi,hd,hz,_,_,_,_,hso,_⟩:=(h.env.tab t ti ht).ex;simp only[a1J,hs]at hso;subst hso;obtain⟨eii,hei,hes⟩:=a3W (h.env.tab _ ei he);unfold b1k at hl;split at hl
 ·rename_i hchk;simp only[and_eq_true]at hchk;have h0:0<m:=by simpa[Nat.blt_eq]using hchk.2
  split at hl
  ·rename_i k q hx;obtain⟨hd',b,hb,hp,he'⟩:=h.one hx;refine h.pure1 hl (u := .slice (some ⟨b,q,none⟩) m m) ⟨b,m,⟨hd',b,hb,hp,rfl⟩,le_refl _,rfl⟩ (w':=w) ?_ (a0p.refl w);refine a1p (s:=Instr.sliceAt t (a.eval x) none none none) (by simp[execOp,ho]) ?_;rw[he'];have hm0:¬m=0:=by omega
   simp[Instr.sliceAt,run_underlying hd,Instr.sureAddr,Instr.sliceBounds,a1b hei,a2Q,hm0]
  ·cases hl
 ·cases hl
theorem d1t (h:Pre P Γ β K get n w ρ a) {t:TypeId} {ti:TI} {x i:Operand} {s:ByteArray} {k:IntKind} {j:Int} {out:Out} (ho:o.op = .index t x i) (ht:Γ.tab t=some ti) (hs:ti.sort = .string)
 (hx:ρ x = .val (.one (.str s))) (hj:ρ i = .val (.one (.int k j))) (hl:a0v n (decide (0<=j)&&decide (j<(s.size:Int))) (.one (.int .u8 (a0o s j)))=some out) (hok:out.ok=true) :
 a0m P o a w (a0Q β K get n w out):=by
 obtain⟨ii,d,z,hi,hd,hz,_,_,_,_,hso,_⟩:=(h.env.tab t ti ht).ex;simp only[a1J,hs]at hso;subst hso;have hp:=hl;simp only[a0v,injEq]at hp;subst hp;simp only[and_eq_true,decide_eq_true_eq]at hok;have e1:a.eval x = .string s:=h.one hx;have e2:a.eval i = .int k j:=h.one hj;refine h.pure1 hl (u := .int .u8 (a0o s j)) rfl (w':=w) ?_ (a0p.refl w);refine a1p (s:=Instr.index t (a.eval x) (a.eval i)) (by simp[execOp,ho]) ?_;have hlt:j.toNat<s.size:=by omega
 have hget:s[j.toNat]?=some s[j.toNat]:=ByteArray.getElem?_lt' s _ hlt;have hdat:s.data.toList.getD j.toNat 0=s[j.toNat]:=by
  have:j.toNat<s.data.toList.length:=by simpa using hlt
  simp[List.getD,List.getElem?_eq_getElem this];rfl
 rw[e1,e2];have hd2:s.data[j.toNat]?.getD 0=s[j.toNat]:=by simpa[List.getD]using hdat
 simp[Instr.index,asIntOf,run_underlying hd,hok.1,hget,a0o,hd2]
theorem e0I (h:Pre P Γ β K get n w ρ a) {op:UnOp} {t:TypeId} {x:Operand} {c c':C} {out:Out} (ho:o.op = .unOp op t x) (hx:ρ x = .val (.one c)) (hc:unC op c=some c')
 (hl:a0v n true (.one c')=some out):a0m P o a w (a0Q β K get n w out):=by
 have hv:=h.one hx;have exec:∀u,(Op.unary op (a.eval x)).run P w = .ok u w->(execOp a.eval o).run P w = .ok (.value u) w:=fun u hr=>
  a1p (s:=Op.unary op (a.eval x)) (by simp[execOp,ho]) hr
 cases c with
 | int k m =>
   cases op<;>simp only[unC,injEq,reduceCtorEq]at hc
   subst hc;refine h.pure1 hl (u := .int k (k.wrap (0-m))) rfl (exec _ ?_) (a0p.refl w);rw[show a.eval x = .int k m from hv];simp[Op.unary,Op.intArith]
 | flt k b =>
   cases op<;>simp only[unC,injEq,reduceCtorEq]at hc
   subst hc;obtain⟨b',he,hf⟩:=hv;refine h.pure1 hl (u := .float k (a3v k b')) ⟨_,rfl,a7c hf⟩ (exec _ ?_) (a0p.refl w);rw[he];simp[Op.unary,Op.negFloat,a3v]
 | cpx k p q =>
   cases op<;>simp only[unC,injEq,reduceCtorEq]at hc
   subst hc;obtain⟨p',q',he,hf,hf'⟩:=hv;refine h.pure1 hl (u := .complex k (a3v k p') (a3v k q')) ⟨_,_,rfl,a7c hf,a7c hf'⟩ (exec _ ?_) (a0p.refl w);rw[he];simp[Op.unary,Op.negFloat,a3v]
 | bool b =>
   cases op<;>simp only[unC,injEq,reduceCtorEq]at hc
   subst hc;refine h.pure1 hl (u := .bool (!b)) rfl (exec _ ?_) (a0p.refl w);rw[show a.eval x = .bool b from hv];simp[Op.unary]
 |_=>simp[unC]at hc
theorem c1G (h:Pre P Γ β K get n w ρ a) {x:Operand} {i:Nat} {ws:List W} {u:W} {out:Out} (ho:o.op = .extract x i) (hx:ρ x = .tup ws) (hu:ws[i]?=some u)
 (hl:a0v n true u=some out):a0m P o a w (a0Q β K get n w out):=by
 have hv:=h.val x;rw[hx]at hv;obtain⟨arr,he,ha⟩:=hv;obtain⟨v,hv,hr⟩:=ha.get? hu;have hv':arr[i]?=some v:=by simpa using hv
 refine h.pure1 hl hr (w':=w) ?_ (a0p.refl w);refine a1p (s:=Instr.extract (a.eval x) i) (by simp[execOp,ho]) ?_;rw[he];simp[Instr.extract,hv']
end
section
variable {P:Program} {Γ:Env} {β:Bt} {K:Ks} {get:Get} {n:Nat} {w:World} {ρ:Operand->V} {a:Act} {o:Oper}
theorem d1u (t:TypeId) {op:BinOp} {k:IntKind} {x y:Int} {ok:Bool} {c:C} (h:f7A op k x y=some (ok,c)) (hok:ok=true) (hop:op ≠ .shl /\ op ≠ .shr) (β:Bt) (K:Ks) :
 ∃v,(binOp op t (.int k x) (.int k y)).run P w = .ok v w /\ CR β K c v:=by
 cases op<;>simp only[f7A,injEq,Prod.mk.injEq,reduceCtorEq]at h
 case quo=>
  obtain⟨rfl,rfl⟩:=h;have hy:y≠0:=by simpa using hok
  exact⟨_,by simp[binOp,Op.intDiv,hy],rfl⟩
 case rem=>
  obtain⟨rfl,rfl⟩:=h;have hy:y≠0:=by simpa using hok
  exact⟨_,by simp[binOp,Op.intDiv,hy],rfl⟩
 all_goals
  obtain⟨rfl,rfl⟩:=h;refine⟨_,?_,rfl⟩;simp[binOp,Op.intArith,Op.intBits,Op.intCmp,a1X]
theorem b2Q (t:TypeId) {k k':IntKind} {x y:Int} (h0:0<=y) :
 (binOp .shl t (.int k x) (.int k' y)).run P w = .ok (.int k (k.wrap (x*2^(min y.toNat k.bits)))) w /\
 (binOp .shr t (.int k x) (.int k' y)).run P w = .ok (.int k (x.fdiv (2^(min y.toNat k.bits)))) w:=by
 have:¬y<0:=by omega
 constructor<;>simp[binOp,Op.shift,this]
theorem d1v (t:TypeId) {op:BinOp} {k:FloatKind} {x x' y y':Nat} {c:C} (h:f7B op k x y=some c) (hx:FEq k x x') (hy:FEq k y y') (β:Bt) (K:Ks) :
 ∃v w',(binOp op t (.float k x') (.float k y')).run P w = .ok v w' /\ a0p w w' /\ CR β K c v:=by
 have ho:=a3l hx hy;cases op<;>simp only[f7B,injEq,reduceCtorEq]at h
 case add=>
  subst h;obtain⟨r,w',h1,h2,h3⟩:=a3U P .add (by simp) k hx hy w;exact⟨_,w',by simpa[binOp]using h1,h2,_,rfl,h3⟩
 case sub=>
  subst h;obtain⟨r,w',h1,h2,h3⟩:=a3U P .sub (by simp) k hx hy w;exact⟨_,w',by simpa[binOp]using h1,h2,_,rfl,h3⟩
 case mul=>
  subst h;obtain⟨r,w',h1,h2,h3⟩:=a3U P .mul (by simp) k hx hy w;exact⟨_,w',by simpa[binOp]using h1,h2,_,rfl,h3⟩
 case quo=>
  subst h;obtain⟨r,w',h1,h2,h3⟩:=a3U P .quo (by simp) k hx hy w;exact⟨_,w',by simpa[binOp]using h1,h2,_,rfl,h3⟩
 all_goals
  subst h;refine⟨_,w,?_,a0p.refl w,rfl⟩;simp[binOp,Op.floatCmp,feq,flt,fgt,ho,bne]
theorem a4q (P:Program) (op:BinOp) (hop:op = .add∨op = .sub) (k:FloatKind) {x x' y y':Nat} (hx:FEq k x x') (hy:FEq k y y') (w:World) :
 ∃r w',(Op.Complex.arith op k x' y').run P w = .ok r w' /\ a0p w w' /\ FEq k (a0a op k x y) r:=by
 obtain⟨r,w',h1,h2,h3⟩:=a3U P op (by rcases hop with rfl|rfl<;>simp) k hx hy w;exact⟨r,w',by simp[Op.Complex.arith,h1],h2,h3⟩
theorem d1w (t:TypeId) {op:BinOp} {k:FloatKind} {p p' q q' r r' s s':Nat} {c:C} (h:f7C op k p q r s=some c) (hp:FEq k p p') (hq:FEq k q q') (hr:FEq k r r') (hs:FEq k s s') (β:Bt) (K:Ks) :
 ∃v w',(binOp op t (.complex k p' q') (.complex k r' s')).run P w = .ok v w' /\ a0p w w' /\ CR β K c v:=by
 have ho:=a3l hp hr;have ho':=a3l hq hs;cases op<;>simp only[f7C,injEq,reduceCtorEq]at h
 case add=>
  subst h;obtain⟨x,w1,h1,h2,h3⟩:=a4q P .add (by simp) k hp hr w;obtain⟨y,w2,h4,h5,h6⟩:=a4q P .add (by simp) k hq hs w1;exact⟨.complex k x y,w2,by simp[binOp,Op.complexOp,h1,h4],⟨h5.heap.trans h2.heap,h5.os.trans h2.os,h5.tape.trans h2.tape,h5.output.trans h2.output⟩,_,_,rfl,h3,h6⟩
 case sub=>
  subst h;obtain⟨x,w1,h1,h2,h3⟩:=a4q P .sub (by simp) k hp hr w;obtain⟨y,w2,h4,h5,h6⟩:=a4q P .sub (by simp) k hq hs w1;exact⟨.complex k x y,w2,by simp[binOp,Op.complexOp,h1,h4],⟨h5.heap.trans h2.heap,h5.os.trans h2.os,h5.tape.trans h2.tape,h5.output.trans h2.output⟩,_,_,rfl,h3,h6⟩
 case eql=>
  subst h;exact⟨_,w,run_eql_complex (P:=P) w t k p' q' r' s',a0p.refl w,by rw[ho,ho'];rfl⟩
 case neq=>
  subst h;exact⟨_,w,run_neq_complex (P:=P) w t k p' q' r' s',a0p.refl w,by rw[ho,ho'];rfl⟩
theorem d1x (t:TypeId) {op:BinOp} {x y:ByteArray} {ok:Bool} {c:C} (h:f7D op x y=some (ok,c)) (hok:ok=true) (β:Bt) (K:Ks) :
 ∃v,(binOp op t (.string x) (.string y)).run P w = .ok v w /\ CR β K c v:=by
 cases op<;>simp only[f7D,injEq,Prod.mk.injEq,reduceCtorEq]at h
 case add=>
  obtain⟨rfl,rfl⟩:=h;have hs:x.size+y.size<=9223372036854775807:=by simpa using hok
  exact⟨_,by simpa[binOp]using run_string_add_sum (P:=P) w x y hs,rfl⟩
 all_goals
  obtain⟨rfl,rfl⟩:=h;refine⟨_,?_,rfl⟩;simp[binOp,Op.stringOp,a0O]
theorem a5M (op:BinOp) (t:TypeId) (x y:Operand) {u v:Value} (hu:u.oneCell'=true) (hn:u ≠ .nilIface):(eqGuard op t x y u v).run P w = .ok () w:=by
 cases op<;>cases u<;>simp_all[eqGuard,Value.oneCell']
theorem e0J (h:Pre P Γ β K get n w ρ a) {op:BinOp} {t t':TypeId} {ti:TI} {x y:Operand} {p q:Bool} {e:C} {out:Out} (ho:o.op = .binOp op t x y t')
 (hx:ρ x = .val (.one (.bool p))) (hy:ρ y = .val (.one (.bool q))) (ht:Γ.tab t=some ti) (hs:ti.sort = .bool) (hc:f7E op p q=some e) (hl:a0v n true (.one e)=some out):a0m P o a w (a0Q β K get n w out):=by
 obtain⟨_,d,_,_,hd,_,_,_,_,_,hso,_⟩:=(h.env.tab t ti ht).ex;simp only[a1J,hs]at hso;subst hso;have e1:a.eval x = .bool p:=h.one hx;have e2:a.eval y = .bool q:=h.one hy;have exec:∀v,(binOp op t (.bool p) (.bool q)).run P w = .ok v w->(execOp a.eval o).run P w = .ok (.value v) w:=by
  intro v hr;refine a1p (s:=do eqGuard op t x y (a.eval x) (a.eval y);binOp op t (a.eval x) (a.eval y)) (by simp[execOp,ho]) ?_;rw[e1,e2,Sem.run_bind,a5M op t x y rfl (by simp),Result.andThen_ok,hr]
 have hq:=run_equalIn_bool' (P:=P) w 9999 t p q hd;cases op<;>simp only[f7E,injEq,reduceCtorEq]at hc
 ·subst hc;exact h.pure1 hl (u := .bool (p==q)) rfl (exec _ (by simp[binOp,Op.equal,Op.maxDepth,hq])) (a0p.refl w)
 ·subst hc;exact h.pure1 hl (u := .bool (!(p==q))) rfl (exec _ (by simp[binOp,Op.equal,Op.maxDepth,hq])) (a0p.refl w)
theorem d1y (h:Pre P Γ β K get n w ρ a) {op:BinOp} {t t':TypeId} {x y:Operand} {c d e:C} {ok:Bool} {out:Out} (ho:o.op = .binOp op t x y t')
 (hx:ρ x = .val (.one c)) (hy:ρ y = .val (.one d)) (hc:c3u op c d=some (ok,e)) (hl:a0v n ok (.one e)=some out) (hok:out.ok=true):a0m P o a w (a0Q β K get n w out):=by
 have hp:=hl;simp only[a0v,injEq]at hp;subst hp;dsimp only at hok;have hv:=h.one hx;have hu:=h.one hy;have exec:∀v w',(a.eval x).oneCell'=true->a.eval x ≠ .nilIface->(binOp op t (a.eval x) (a.eval y)).run P w = .ok v w'->(execOp a.eval o).run P w = .ok (.value v) w':=by
  intro v w' h1 h2 hr;refine a1p (s:=do eqGuard op t x y (a.eval x) (a.eval y);binOp op t (a.eval x) (a.eval y)) (by simp[execOp,ho]) ?_;rw[Sem.run_bind,a5M op t x y h1 h2,Result.andThen_ok,hr]
 cases c with
 | int k p =>
   cases d with
   | int k' q =>
     rw[show a.eval x = .int k p from hv,show a.eval y = .int k' q from hu]at exec;simp only[c3u]at hc;split at hc
     ·simp only[injEq,Prod.mk.injEq]at hc;obtain⟨rfl,rfl⟩:=hc;have h0:0<=q:=by simpa using hok
      exact h.pure1 hl rfl (exec _ _ rfl (by simp) (b2Q t h0).1) (a0p.refl w)
     ·simp only[injEq,Prod.mk.injEq]at hc;obtain⟨rfl,rfl⟩:=hc;have h0:0<=q:=by simpa using hok
      exact h.pure1 hl rfl (exec _ _ rfl (by simp) (b2Q t h0).2) (a0p.refl w)
     ·rename_i hn1 hn2;split at hc
      ·rename_i hk;have hk:k=k':=by simpa[a2C]using hk
       subst hk;obtain⟨v,hr,hv'⟩:=d1u (P:=P) (w:=w) t hc hok ⟨by simpa using hn1,by simpa using hn2⟩ β K;exact h.pure1 hl hv' (exec _ _ rfl (by simp) hr) (a0p.refl w)
      ·cases hc
   |_=>simp[c3u]at hc
 | flt k p =>
   cases d with
   | flt k' q =>
     obtain⟨p',he,hf⟩:=hv;obtain⟨q',he',hf'⟩:=hu;rw[he,he']at exec;simp only[c3u]at hc;split at hc
     ·rename_i hk;have hk:k=k':=by simpa[a0X]using hk
      subst hk;simp only[Option.map_eq_some_iff,Prod.mk.injEq]at hc;obtain⟨e',hb,rfl,rfl⟩:=hc;obtain⟨v,w',hr,hs,hv'⟩:=d1v (P:=P) (w:=w) t hb hf hf' β K;exact h.pure1 hl hv' (exec _ _ rfl (by simp) hr) hs
     ·cases hc
   |_=>simp[c3u]at hc
 | cpx k p q =>
   cases d with
   | cpx k' r s =>
     obtain⟨p',q',he,hf,hg⟩:=hv;obtain⟨r',s',he',hf',hg'⟩:=hu;rw[he,he']at exec;simp only[c3u]at hc;split at hc
     ·rename_i hk;have hk:k=k':=by simpa[a0X]using hk
      subst hk;simp only[Option.map_eq_some_iff,Prod.mk.injEq]at hc;obtain⟨e',hb,rfl,rfl⟩:=hc;obtain⟨v,w',hr,hs,hv'⟩:=d1w (P:=P) (w:=w) t hb hf hg hf' hg' β K;exact h.pure1 hl hv' (exec _ _ rfl (by simp) hr) hs
     ·cases hc
   |_=>simp[c3u]at hc
 | str p =>
   cases d with
   | str q =>
     rw[show a.eval x = .string p from hv,show a.eval y = .string q from hu]at exec;simp only[c3u]at hc;obtain⟨v,hr,hv'⟩:=d1x (P:=P) (w:=w) t hc hok β K;exact h.pure1 hl hv' (exec _ _ rfl (by simp) hr) (a0p.refl w)
   |_=>simp[c3u]at hc
 |_=>cases d<;>simp[c3u]at hc
theorem e0K (h:Pre P Γ β K get n w ρ a) {op:BinOp} {t t':TypeId} {x y:Operand} {cs ds:List C} {e:C} {out:Out} (ho:o.op = .binOp op t x y t')
 (hx:ρ x = .val (.agg cs)) (hy:ρ y = .val (.agg ds)) (ht:(Γ.eqT t&&e0B Γ t cs)=true) (hc:f7F op cs ds=some e) (hl:a0v n true (.one e)=some out):a0m P o a w (a0Q β K get n w out):=by
 obtain⟨xs,he,hxs⟩:=h.agg hx;obtain⟨ys,he',hys⟩:=h.agg hy;rw[and_eq_true]at ht;have hq:=h.env.eq t ht.1;have hln:∀i,P.info? t=some i->cs.length=i.size /\ ∃z zs,i.zero=some z /\ All2 ZR zs z.cells.toList /\ a8n zs cs=true:=by
  intro i hi;have h2:=ht.2;unfold e0B at h2;split at h2
  ·rename_i ti hti;rw[and_eq_true]at h2;obtain⟨i',_,z,hi',_,hz,hs,_,_,hzz,_⟩:=(h.env.tab t ti hti).ex;rw[hi]at hi';cases hi';exact⟨by rw[a0g h2.1,hs],z,ti.zero,hz,hzz,h2.2⟩
  ·cases h2
 have exec:∀v,(binOp op t (.agg xs) (.agg ys)).run P w = .ok v w->(execOp a.eval o).run P w = .ok (.value v) w:=by
  intro v hr;refine a1p (s:=do eqGuard op t x y (a.eval x) (a.eval y);binOp op t (a.eval x) (a.eval y)) (by simp[execOp,ho]) ?_;rw[he,he',Sem.run_bind,run_eqGuard_agg (P:=P) w op t x y xs ys hq.guard,Result.andThen_ok,hr]
 unfold f7F at hc;split at hc
 ·rename_i b hb;have hr:=hq.eq cs ds xs ys b β K w hln hb hxs hys;split at hc
  ·cases hc;exact h.pure1 hl (u := .bool b) rfl (exec _ (by rw[run_eql_struct,hr];rfl)) (a0p.refl w)
  ·cases hc;exact h.pure1 hl (u := .bool (!b)) rfl (exec _ (by rw[run_neq_struct,hr];rfl)) (a0p.refl w)
  ·cases hc
 ·cases hc
theorem c1H (h:Pre P Γ β K get n w ρ a) {src dst:TypeId} {si di:TI} {x:Operand} {c c':C} {ok:Bool} {out:Out} (ho:o.op = .convert src dst x) (hs:Γ.tab src=some si) (hd:Γ.tab dst=some di)
 (hx:ρ x = .val (.one c)) (hc:b5y di.sort c=some (ok,c')) (hl:a0v n ok (.one c')=some out) (hok:out.ok=true):a0m P o a w (a0Q β K get n w out):=by
 obtain⟨_,d1,_,_,hd1,_⟩:=(h.env.tab src si hs).ex;obtain⟨_,d2,_,_,hd2,_,_,_,_,_,hso,_⟩:=(h.env.tab dst di hd).ex;have hp:=hl;simp only[a0v,injEq]at hp;subst hp;dsimp only at hok;have hv:=h.one hx;have exec:∀v w',(convert src dst (a.eval x)).run P w = .ok v w'->(execOp a.eval o).run P w = .ok (.value v) w':=fun v w' hr=>
  a1p (s:=convert src dst (a.eval x)) (by simp[execOp,ho]) hr
 cases c with
 | int k m =>
   rw[show a.eval x = .int k m from hv]at exec;simp only[b5y]at hc;split at hc
   ·rename_i k' hk;simp only[a1J,hk]at hso;subst hso;cases hc;refine h.pure1 hl (u := .int k' (k'.wrap m)) rfl (exec _ w ?_) (a0p.refl w);simp[convert,run_underlying hd1,run_underlying hd2,Conv.intToInt]
   ·rename_i k' hk;simp only[a1J,hk]at hso;subst hso;cases hc;refine h.pure1 hl (u := .float k' (k'.nearest m)) ⟨_,rfl,.inl rfl⟩ (exec _ w ?_) (a0p.refl w);simp[convert,run_underlying hd1,run_underlying hd2,Conv.intToFloat]
   ·cases hc
 | flt s b =>
   obtain⟨b',he,hf⟩:=hv;rw[he]at exec;simp only[b5y]at hc;split at hc
   ·rename_i k' hk;simp only[a1J,hk]at hso;subst hso;cases hc;refine h.pure1 hl (u := .int k' (f2i s b)) rfl (exec _ w ?_) (a0p.refl w);simp[convert,run_underlying hd1,run_underlying hd2,a8x P s k' hf hok w]
   ·rename_i k' hk;simp only[a1J,hk]at hso;subst hso;cases hc;obtain⟨r,w',h1,h2,h3⟩:=a2s P s k' hf hok w;refine h.pure1 hl (u := .float k' r) ⟨_,rfl,h3⟩ (exec _ w' ?_) h2;simp[convert,run_underlying hd1,run_underlying hd2,h1]
   ·cases hc
 | cpx s p q =>
   obtain⟨p',q',he,hf,hg⟩:=hv;rw[he]at exec;simp only[b5y]at hc;split at hc
   ·rename_i k' hk;simp only[a1J,hk]at hso;subst hso;cases hc;simp only[and_eq_true]at hok;obtain⟨r,w1,h1,h2,h3⟩:=a2s P s k' hf hok.1 w;obtain⟨r',w2,h4,h5,h6⟩:=a2s P s k' hg hok.2 w1;refine h.pure1 hl (u := .complex k' r r') ⟨_,_,rfl,h3,h6⟩ (exec _ w2 ?_) ⟨h5.heap.trans h2.heap,h5.os.trans h2.os,h5.tape.trans h2.tape,h5.output.trans h2.output⟩;simp[convert,run_underlying hd1,run_underlying hd2,Conv.complexToComplex,h1,h4]
   ·cases hc
 | str s =>
   rw[show a.eval x = .string s from hv]at exec;simp only[b5y]at hc;split at hc
   ·rename_i hk;simp only[a1J,hk]at hso;subst hso;cases hc;refine h.pure1 hl (u := .string s) rfl (exec _ w ?_) (a0p.refl w);simp[convert,run_underlying hd1,run_underlying hd2]
   ·cases hc
 |_=>simp[b5y]at hc
theorem a5D (h:Pre P Γ β K get n w ρ a) {b:Option Operand} {d r:Int} (hb:a0D (b.map ρ) d=some r):(b=none /\ r=d)∨∃x k,b=some x /\ a.eval x = .int k r:=by
 cases b with
 |none=>simp[a0D]at hb;exact .inl ⟨rfl,hb.symm⟩
 | some x =>
   right;simp only[Option.map_some]at hb;cases hx:ρ x with
   |tup ws=>rw[hx]at hb;simp[a0D]at hb
   | val u =>
     rw[hx]at hb;cases u with
     |agg cs=>simp[a0D]at hb
     | one c =>
       cases c<;>simp only[a0D,injEq,reduceCtorEq]at hb
       subst hb;exact⟨x,_,rfl,h.one hx⟩
theorem a7d (h:Pre P Γ β K get n w ρ a) (isSlice:Bool) {len cap:Nat} {lo hi:Option Operand} {l r:Int} (hlo:a0D (lo.map ρ) 0=some l) (hhi:a0D (hi.map ρ) len=some r)
 (h0:0<=l) (h1:l<=r) (h2:r<=len) (hc:len<=cap):(Instr.sliceBounds isSlice len cap (lo.map a.eval) (hi.map a.eval) none).run P w = .ok (l.toNat,r.toNat,cap) w:=by
 rcases a5D h hlo with⟨rfl,rfl⟩|⟨x,k,rfl,hx⟩<;>rcases a5D h hhi with⟨rfl,rfl⟩|⟨y,k',rfl,hy⟩
 ·simp[Instr.sliceBounds]
 ·have e:=run_sliceBound (P:=P) w k' r cap (if isSlice=true then BoundsCode.sliceAcap else BoundsCode.sliceAlen) (by omega) (by omega);simp[Instr.sliceBounds,hy,e]
 ·have e:=run_sliceBound (P:=P) w k l len BoundsCode.sliceB (by omega) (by omega);simp[Instr.sliceBounds,hx,e]
 ·have e:=run_sliceBound (P:=P) w k' r cap (if isSlice=true then BoundsCode.sliceAcap else BoundsCode.sliceAlen) (by omega) (by omega);have e':=run_sliceBound (P:=P) w k l r.toNat BoundsCode.sliceB (by omega) (by omega);simp[Instr.sliceBounds,hx,hy,e,e']
theorem b5G (h:Pre P Γ β K get n w ρ a) {t:TypeId} {ti:TI} {x:Operand} {lo hi:Option Operand} {s:ByteArray} {l r:Int} {out:Out} (ho:o.op = .slice t x lo hi none) (ht:Γ.tab t=some ti) (hs:ti.sort = .string)
 (hx:ρ x = .val (.one (.str s))) (hlo:a0D (lo.map ρ) 0=some l) (hhi:a0D (hi.map ρ) s.size=some r)
 (hl:a0v n (decide (0<=l)&&decide (l<=r)&&decide (r<=(s.size:Int))) (.one (.str (s.extract l.toNat r.toNat)))=some out) (hok:out.ok=true):a0m P o a w (a0Q β K get n w out):=by
 obtain⟨_,d,_,_,hd,_,_,_,_,_,hso,_⟩:=(h.env.tab t ti ht).ex;simp only[a1J,hs]at hso;subst hso;have hp:=hl;simp only[a0v,injEq]at hp;subst hp;simp only[and_eq_true,decide_eq_true_eq]at hok;have hb:=a7d h false hlo hhi hok.1.1 hok.1.2 hok.2 (le_refl _);refine h.pure1 hl (u := .string (s.extract l.toNat r.toNat)) rfl (w':=w) ?_ (a0p.refl w);refine a1p (s:=Instr.sliceAt t (a.eval x) (lo.map a.eval) (hi.map a.eval) none) (by simp[execOp,ho]) ?_;rw[show a.eval x = .string s from h.one hx];simp[Instr.sliceAt,Instr.slice,run_underlying hd,hb]
theorem c1I (h:Pre P Γ β K get n w ρ a) {t:TypeId} {ti ei:TI} {x:Operand} {lo hi:Option Operand} {ty:Ty} {s:List (Den ty)} {l r:Int} {out:Out} (ho:o.op = .slice t x lo hi none) (ht:Γ.tab t=some ti) (hs:ti.sort = .slice)
 (he:Γ.tab ti.elem=some ei) (hsz:ty.size=ei.size)
 (hx:ρ x = .val (.one (.sl ty s))) (hlo:a0D (lo.map ρ) 0=some l) (hhi:a0D (hi.map ρ) s.length=some r)
 (hl:a0v n (decide (0<=l)&&decide (l<=r)&&decide (r<=(s.length:Int))) (.one (.sl ty ((s.take r.toNat).drop l.toNat)))=some out) (hok:out.ok=true):a0m P o a w (a0Q β K get n w out):=by
 obtain⟨_,d,_,_,hd,_,_,_,_,_,hso,_⟩:=(h.env.tab t ti ht).ex;simp only[a1J,hs]at hso;subst hso;obtain⟨eii,hei,hes⟩:=a3W (h.env.tab _ ei he);have hp:=hl;simp only[a0v,injEq]at hp;subst hp;simp only[and_eq_true,decide_eq_true_eq]at hok;obtain⟨⟨h0,h1⟩,h2⟩:=hok;obtain⟨ad,m,c,hv,hm,hmc,hrest⟩:=h.one hx;simp only[List.cons.injEq,and_true]at hv;subst hm;have hb:=a7d h true hlo hhi h0 h1 h2 hmc;refine h.pure1 hl (u := .slice (if c=l.toNat then ad else ad.map (·.add (l.toNat*eii.size))) (r.toNat-l.toNat) (c-l.toNat)) ?_ (w':=w) ?_ (a0p.refl w)
 ·have hlen:((s.take r.toNat).drop l.toNat).length=r.toNat-l.toNat:=by simp;omega
  refine⟨_,_,_,rfl,hlen.symm,by omega,?_⟩;by_cases hz:r.toNat-l.toNat=0
  ·exact .inl hz
  ·right;rcases hrest with hz'|⟨b,q,arr,rfl,hK,hall⟩
   ·omega
   ·refine⟨b,q+l.toNat*ty.size,arr,?_,hK,fun i hi=>?_⟩
    ·rw[if_neg (by omega)];simp[a2Q,hes,hsz]
    ·have hi':l.toNat+i<s.length:=by rw[hlen]at hi;omega
     have e:((s.take r.toNat).drop l.toNat)[i]=s[l.toNat+i]:=by simp
     rw[e];have:=hall (l.toNat+i) hi';rw[Nat.add_mul,<- Nat.add_assoc]at this;exact this
 ·refine a1p (s:=Instr.sliceAt t (a.eval x) (lo.map a.eval) (hi.map a.eval) none) (by simp[execOp,ho]) ?_;rw[hv];simp[Instr.sliceAt,Instr.slice,run_underlying hd,hb,a1b hei]
theorem b5H (h:Pre P Γ β K get n w ρ a) {t:TypeId} {ti ei:TI} {x:Operand} {lo hi:Option Operand} {ty:Ty} {k:Nat} {out:Out} (ho:o.op = .slice t x lo hi none) (ht:Γ.tab t=some ti) (hs:ti.sort = .slice)
 (he:Γ.tab ti.elem=some ei) (hx:ρ x = .val (.one (.ref ty k))) (hl:a8c get n ei.size ty k (a0D (lo.map ρ) 0) (a0D (hi.map ρ))=some out) (hok:out.ok=true):a0m P o a w (a0Q β K get n w out):=by
 obtain⟨_,d,_,_,hd,_,_,_,_,_,hso,_⟩:=(h.env.tab t ti ht).ex;simp only[a1J,hs]at hso;subst hso;obtain⟨eii,hei,hes⟩:=a3W (h.env.tab _ ei he);unfold a8c at hl;split at hl
 case h_2=>cases hl
 rename_i t' s hg;split at hl
 case h_2=>cases hl
 rename_i e _;subst e;split at hl
 case h_2=>cases hl
 rename_i hsz;simp only[and_eq_true,Bool.not_eq_true']at hsz;obtain⟨hsz,hj⟩:=hsz;have hsz:=a0g hsz;split at hl
 case h_2=>cases hl
 rename_i l r hlo hhi;cases hl;simp only[and_eq_true,decide_eq_true_eq]at hok;obtain⟨⟨h0,h1⟩,h2⟩:=hok;obtain⟨y,a0,n0,c0,hb,hy,hv⟩:=h.one hx;have hro:=d5n (ks:=[k]) h.mr hj hg (by simp) hb;rw[hy]at hro;obtain⟨ad,m,c,hv',hm,hmc,hrest⟩:=hro;simp only[List.cons.injEq,and_true]at hv';rw[hv']at hv;subst hm;have hb:=a7d h true hlo hhi h0 h1 h2 hmc;have hr:(execOp a.eval o).run P w = .ok (.value (.slice (if c=l.toNat then ad else ad.map (·.add (l.toNat*eii.size))) (r.toNat-l.toNat) (c-l.toNat))) w:=by
  refine a1p (s:=Instr.sliceAt t (a.eval x) (lo.map a.eval) (hi.map a.eval) none) (by simp[execOp,ho]) ?_;rw[hv];simp[Instr.sliceAt,Instr.slice,run_underlying hd,hb,a1b hei]
 refine a0m.value hr (a8q.give h (ks:=[k]) ?_);have hlen:((s.take r.toNat).drop l.toNat).length=r.toNat-l.toNat:=by simp;omega
 refine⟨_,_,_,rfl,hlen.symm,by omega,?_⟩;by_cases hz:r.toNat-l.toNat=0
 ·exact .inl hz
 ·right;rcases hrest with hz'|⟨b,q,arr,rfl,hK,hall⟩
  ·omega
  ·refine⟨b,q+l.toNat*t'.size,arr,?_,hK,fun i hi=>?_⟩
   ·rw[if_neg (by omega)];simp[a2Q,hes,hsz]
   ·have hi':l.toNat+i<s.length:=by rw[hlen]at hi;omega
    have e:((s.take r.toNat).drop l.toNat)[i]=s[l.toNat+i]:=by simp
    have:=hall (l.toNat+i) hi';rw[Nat.add_mul,<- Nat.add_assoc]at this;exact e ▸ this
theorem b5I (h:Pre P Γ β K get n w ρ a) {fn:Fn} {f:Nat} {first caps:Array Operand} {ks:List Nat} {out:Out} (ho:o.op = .makeFunc fn first caps) (hf:fn = .func f) (h1:first.toList=[])
 (hk:a1v (fun x=>match ρ x with|.val (.one (.ptr k 0))=>some k|_=>none) caps.toList=some ks) (hl:a0v n true (.one (.fn f ks))=some out):a0m P o a w (a0Q β K get n w out):=by
 subst hf;have hfirst:first=#[]:=by cases first;simp_all
 subst hfirst;refine h.pure1 hl (u := .func (.func f) #[] (caps.map a.eval)) ?_ (w':=w) ?_ (a0p.refl w)
 ·refine⟨caps.toList.map a.eval,by cases caps;simp,?_⟩;have:All2 (fun(x:Operand) (v:Value)=>v=a.eval x) caps.toList (caps.toList.map a.eval):=by
   induction caps.toList with
   |nil=>trivial
   |cons x r ih=>exact⟨rfl,ih⟩
  refine a1c hk this fun x k v hm hx hv=>?_
  subst hv;split at hx
  ·rename_i k' he;cases hx;exact h.one he
  ·cases hx
 ·refine a1p (s:=Instr.makeFunc (.func f) (Array.map a.eval #[]) (Array.map a.eval caps)) (by simp[execOp,ho]) ?_;simp[Instr.makeFunc]
end
theorem b7Z {α:Type}:∀(l r:List (Nat×α)) (k:Nat),a1D (l++r) k=match a1D l k with|some b=>some b|none=>a1D r k
 |[],r,k=>by simp[a1D]
 | (j,x)::l,r,k=>by
   simp only[List.cons_append,a1D];split
   ·rfl
   ·exact b7Z l r k
theorem b1q (z:Array Value) (m:Nat) {i:Nat} (h:i<m):(madeCells z m).toList[i]?=some z[i%z.size]!:=by
 simp[madeCells,h]
theorem a6m (z:Array Value) (m i:Nat) (h:i<m):sub (madeCells z (m*z.size)).toList (i*z.size) z.size=z.toList:=by
 apply List.ext_getElem?;intro j;unfold sub;rw[List.getElem?_take];split
 ·rename_i hj;rw[List.getElem?_drop];have hlt:i*z.size+j<m*z.size:=by
   have:i*z.size+z.size<=m*z.size:=by rw[<- Nat.succ_mul];exact Nat.mul_le_mul_right _ h
   omega
  rw[b1q z _ hlt,Nat.mul_comm i,Nat.mul_add_mod,Nat.mod_eq_of_lt hj];simp[hj]
 ·rename_i hj;have:z.toList.length<=j:=by simp;omega
  rw[List.getElem?_eq_none this]
section
variable {P:Program} {Γ:Env} {β:Bt} {K:Ks} {get:Get} {n:Nat} {w:World} {ρ:Operand->V} {a:Act} {o:Oper}
theorem b2R (h:Pre P Γ β K get n w ρ a) {t:TypeId} {ti ei:TI} {xl xc:Operand} {kl kc:IntKind} {l c:Int} (ho:o.op = .makeSlice t xl xc) (ht:Γ.tab t=some ti) (hs:ti.sort = .slice)
 (he:Γ.tab ti.elem=some ei) (hby:ei.bytes<=128) (hsz:ei.ty.size=ei.size) (h0s:0<ei.size) (hl:ρ xl = .val (.one (.int kl l))) (hc:ρ xc = .val (.one (.int kc c)))
 (h0:0<=l) (h1:l<=a3C) (h2:l=c) :
 a0m P o a w (a0Q β K get n w ⟨true,.val (.one (.ref ei.ty n)),[(n,some (.arr ei.ty (List.replicate l.toNat (zero ei.ty))))],n+1⟩):=by
 obtain⟨_,d,_,_,hd,_,_,_,_,_,hso,_⟩:=(h.env.tab t ti ht).ex;simp only[a1J,hs]at hso;subst hso;subst h2;obtain⟨ii,d',z,hi,hd',hz,hs1,hb1,ha1,_,_,hzt,hzc⟩:=(h.env.tab _ ei he).ex;have e1:a.eval xl = .int kl l:=h.one hl;have e2:a.eval xc = .int kc l:=h.one hc;have hcap:a3C=1099511627776:=rfl;have hlm:l<=9223372036854775807:=by omega
 have hw:IntKind.i64.wrap l=l:=
  by exact IntWalk.i64_in _ (by omega)
 have hbl:(ii.bytes:Int)*l<=2^48:=by
  have h3:(ii.bytes:Int)<=128:=by omega
  have h4:(ii.bytes:Int)*l<=128*l:=Int.mul_le_mul_of_nonneg_right h3 h0;omega
 have hr:(Instr.makeSlice t (a.eval xl) (a.eval xc)).run P w = .ok (.slice (some ⟨w.heap.size,0,none⟩) l.toNat l.toNat) (w.alloc (.cells (madeCells z.cells (l.toNat*ii.size)) ti.elem)):=by
  rw[e1,e2];unfold Instr.makeSlice;have hn1:¬(l<0):=by omega
  have hn2:¬((ii.bytes:Int)*l>2^48):=by omega
  have hn2':¬((281474976710656:Int)<(ii.bytes:Int)*l):=by omega
  simp only[Sem.run_bind,run_underlying hd,Result.andThen_ok];by_cases hz0:l.toNat*ii.size=0
  ·simp[asInt,asIntOf,typeInfo,hi,hw,hn1,hn2',sizeOf,hz0,newRow,madeCells];simp[Array.range]
  ·simp[asInt,asIntOf,typeInfo,hi,hw,hn1,hn2',sizeOf,hz0,newRow,madeCells,zeroValue,hz]
 refine a0m.value (a1p (s:=Instr.makeSlice t (a.eval xl) (a.eval xc)) (by simp[execOp,ho]) hr) ?_;refine a8q.alloc (gone:=[]) (h:=⟨.slice (some ⟨w.heap.size,0,none⟩) l.toNat l.toNat,some w.heap.size⟩) h.kok h.mr h.fresh (a0p.refl w) (KLe.refl K) h.kok ?_ rfl ?_ ?_
 ·intro k c x y e _ f g;exact h.mr.ro k c y x e f g
 ·refine .inr ⟨w.heap.size,l.toNat,_,ti.elem,by simp,a1G w _,by simp,?_,?_,?_⟩
  ·simp only[maxLen];omega
  ·rw[size_madeCells,hsz,hs1]
  ·intro i hi';have hi2:i<l.toNat:=by simpa using hi'
   rw[List.getElem_replicate];have hzs:z.cells.size=ei.ty.size:=by rw[hzc,hs1,hsz]
   rw[hs1,<- hsz,<- hzs,a6m _ _ _ hi2];exact hzt hsz K
 ·exact⟨_,_,_,_,a0A ..,rfl,rfl⟩
theorem a7e (off:Nat):∀(vs:List Value) (k:Nat) (cells:Array Value),off+k+vs.length<=cells.size ->
 ((vs.zipIdx k).foldl (fun(cs:Array Value) (x:Value×Nat)=>cs.setIfInBounds (off+x.2) x.1) cells).toList=cells.toList.take (off+k)++vs++cells.toList.drop (off+k+vs.length)
 |[],k,cells,_=>by simp
 | v::vs,k,cells,h=>by
   simp only[List.zipIdx_cons,List.foldl_cons];rw[a7e off vs (k+1) (cells.setIfInBounds (off+k) v) (by simp at h ⊢;omega)];have:=list_seg_step cells.toList (off+k) v vs (by simp at h ⊢;omega);simpa[Array.toList_setIfInBounds,Nat.add_assoc]using this
theorem c3O {place:List (Nat×Nat×Bool)} {pl:Nat->Option (Nat×Nat)} (hpl:∀(i:Nat) off size ag,place[i]?=some (off,size,ag)->pl i=some (off,size)) :
 ∀ {ps:List (Nat×W)} {vs:List (Nat×Value)} {cs cs':List C} {arr:Array Value},c1z place cs ps=some cs'->All2 (fun(p:Nat×W) (q:Nat×Value)=>p.1=q.1 /\ All2 (CR β K) p.2.cells q.2.cells.toList) ps vs ->
   All2 (CR β K) cs arr.toList->∃arr',Instr.fill pl arr vs=some arr' /\ All2 (CR β K) cs' arr'.toList
 |[],[],cs,cs',arr,hf,_,hc=>by simp only[c1z,injEq]at hf;subst hf;exact⟨arr,rfl,hc⟩
 | (i,u)::ps,(j,v)::vs,cs,cs',arr,hf,hv,hc=>by
   obtain⟨⟨hij,huv⟩,hr⟩:=hv;dsimp only at hij huv;subst hij;simp only[c1z]at hf;split at hf
   ·rename_i off size ag hp;split at hf
    ·rename_i hchk;simp only[and_eq_true]at hchk;have h1:=a0g hchk.1;have h2:off+size<=cs.length:=by simpa using hchk.2
     have hl:=huv.length;have hl2:=hc.length;simp only[Array.length_toList]at hl hl2;have hsz:v.cells.size=size:=by rw[<- h1];exact hl.symm
     have hfl:=a7e off v.cells.toList 0 arr (by simp;omega);obtain⟨arr',e1,e2⟩:=c3O hpl (arr:=(v.cells.toList.zipIdx 0).foldl (fun(cs:Array Value) (x:Value×Nat)=>cs.setIfInBounds (off+x.2) x.1) arr) hf hr (by
      rw[hfl,Nat.add_zero];exact a4R hc huv off)
     refine⟨arr',?_,e2⟩;simp only[Instr.fill,hpl i off size ag hp];rw[if_neg (by simp[hsz];omega)];rw[<- e1];congr 1;rw[<- Array.foldl_toList];congr 1;simp
    ·cases hf
   ·cases hf
 |[],_::_,_,_,_,_,hv,_=>hv.elim
 |_::_,[],_,_,_,_,hv,_=>hv.elim
theorem b8a {α γ:Type} (f:α->Go.Sem γ) (g:α->γ):∀(l:List α),(∀x∈l,(f x).run P w = .ok (g x) w)->(l.mapM f).run P w = .ok (l.map g) w
 |[],_=>by simp
 | x::r,h=>by
   have h1:=h x (List.mem_cons_self ..);have h2:=b8a f g r fun y hy=>h y (List.mem_cons_of_mem _ hy)
   simp[h1,h2]
theorem c1J {fs:Array Field} {l:List (Nat×Nat×Bool)} (h:b7T P fs l) :
 (Array.mapM (fun(f:Field)=>do let s <- Go.sizeOf f.type;pure (f.offset,s)) fs).run P w = .ok (l.map fun x=>(x.1,x.2.1)).toArray w:=by
 rw[Array.mapM_eq_mapM_toList];have hm:=b8a (P:=P) (w:=w) (fun(f:Field)=>do let s <- Go.sizeOf f.type;pure (f.offset,s)) (fun f=>(f.offset,((P.info? f.type).map (·.size)).getD 0)) fs.toList (by
  intro f hf;obtain⟨i,hi,he⟩:=List.mem_iff_getElem.1 hf;obtain⟨x,hx,_,fi,fd,h2,h3,_⟩:=h.get? (List.getElem?_eq_getElem hi);rw[he]at h2;simp[a1b h2,h2])
 have hl:∀(fl:List Field) (l:List (Nat×Nat×Bool)),All2 (fun(f:Field) (x:Nat×Nat×Bool)=>f.offset=x.1 /\ ∃fi fd,P.info? f.type=some fi /\ fi.size=x.2.1 /\ P.underlying f.type=some fd /\ d1k fd=x.2.2) fl l ->
  fl.map (fun f=>(f.offset,((P.info? f.type).map (·.size)).getD 0))=l.map fun x=>(x.1,x.2.1):=by
  intro fl
  induction fl with
  | nil=>intro l h;cases l with
    |nil=>rfl
    |cons _ _=>exact h.elim
  | cons f fl ih=>intro l h;cases l with
    |nil=>exact h.elim
    | cons x l =>
      obtain⟨⟨h1,fi,fd,h2,h3,_⟩,hr⟩:=h;simp[h2,h3,h1,ih l hr]
 rw[hl _ _ h]at hm;rw[Sem.run_map,hm];rfl
theorem b8b (h:Pre P Γ β K get n w ρ a) {parts:List (Nat×Operand)} {ps:List (Nat×W)} (hp:a1v (fun p=>match ρ p.2 with|.val w=>some (p.1,w)|.tup _=>none) parts=some ps) :
 All2 (fun(p:Nat×W) (q:Nat×Value)=>p.1=q.1 /\ WR β K p.2 q.2) ps (parts.map fun x=>(x.1,a.eval x.2)):=by
 have:All2 (fun(x:Nat×Operand) (q:Nat×Value)=>q=(x.1,a.eval x.2)) parts (parts.map fun x=>(x.1,a.eval x.2)):=by
  clear hp
  induction parts with
  |nil=>trivial
  |cons x r ih=>exact⟨rfl,ih⟩
 refine a1c hp this fun x p q hm hx hq=>?_
 subst hq;split at hx
 ·rename_i u hu;cases hx;have:=h.val x.2;rw[hu]at this;exact⟨rfl,this⟩
 ·cases hx
theorem b5J (h:Pre P Γ β K get n w ρ a) {t:TypeId} {ti:TI} {m:Nat} {parts:Array (Nat×Operand)} {out:Out} (ho:o.op = .build t parts) (ht:Γ.tab t=some ti) (hs:ti.sort = .array m) {ei:TI} (he:Γ.tab ti.elem=some ei) (hp:parts.toList=[])
 (hl:AM.a0v n true (.agg ti.zero)=some out):a0m P o a w (a0Q β K get n w out):=by
 obtain⟨i,d,z,hi,hd,hz,_,_,_,hzr,hso,_⟩:=(h.env.tab t ti ht).ex;simp only[a1J,hs]at hso;subst hso;have hpe:parts=#[]:=by cases parts;simpa using hp
 subst hpe;refine h.pure1 hl (u := .agg z.cells) ⟨_,rfl,hzr.mono fun _ _ hh=>hh _ _⟩ (w':=w) ?_ (a0p.refl w);refine a1p (s:=Instr.build t #[]) (by simp[execOp,ho]) ?_;unfold Instr.build;obtain⟨eii,hei,hes⟩:=a3W (h.env.tab _ _ he);simp[run_underlying hd,zeroValue,typeInfo,hi,hz,a1b hei,Instr.fill]
theorem d1z (h:Pre P Γ β K get n w ρ a) {t:TypeId} {ti:TI} {parts:Array (Nat×Operand)} {ps:List (Nat×W)} {cs:List C} {out:Out} (ho:o.op = .build t parts) (ht:Γ.tab t=some ti) (hs:ti.sort = .struct)
 (hp:a1v (fun p=>match ρ p.2 with|.val w=>some (p.1,w)|.tup _=>none) parts.toList=some ps) (hsure:ps.all (fun p=>p.2.cells.all c1B)=true) (hf:c1z ti.fields ti.zero ps=some cs)
 (hl:a0v n true (.agg cs)=some out):a0m P o a w (a0Q β K get n w out):=by
 obtain⟨i,d,z,hi,hd,hz,_,_,_,hzr,hso,_⟩:=(h.env.tab t ti ht).ex;simp only[a1J,hs]at hso;obtain⟨fs,rfl,hfs⟩:=hso;have hpr:=b8b h hp;have hpc:All2 (fun(p:Nat×W) (q:Nat×Value)=>p.1=q.1 /\ All2 (CR β K) p.2.cells q.2.cells.toList) ps (parts.toList.map fun x=>(x.1,a.eval x.2)):=by
  refine All2.mono_mem (fun p q hm hq=>⟨hq.1,WR.cells ?_ hq.2⟩) hpr;exact List.all_eq_true.1 hsure p hm
 have hpl:∀(i:Nat) off size ag,ti.fields[i]?=some (off,size,ag)->(fun(x:Nat)=>(ti.fields.map fun x=>(x.1,x.2.1)).toArray[x]?) i=some (off,size):=by
  intro i off size ag he;simp[he]
 obtain⟨arr,e1,e2⟩:=c3O (arr:=z.cells) hpl hf hpc (hzr.mono fun _ _ hh=>hh β K);refine h.pure1 hl (u := .agg arr) ⟨arr,rfl,e2⟩ (w':=w) ?_ (a0p.refl w);have hparts:(parts.map fun(x:Nat×Operand)=>match x with|(i,x)=>(i,a.eval x)).toList=parts.toList.map fun x=>(x.1,a.eval x.2):=by simp
 refine a1p (s:=Instr.build t (parts.map fun(x:Nat×Operand)=>match x with|(i,x)=>(i,a.eval x))) (by simp[execOp,ho]) ?_;unfold Instr.build;simp only[zeroValue,typeInfo,Sem.run_bind,run_program,Result.andThen_ok,hi,hz,run_underlying hd,c1J hfs,Sem.run_pure];rw[hparts,e1];rfl
theorem d5o (h:MR β K get w) {ks:List Nat} (t:Ty):∀{ps:List (Nat×W)} {vs:List (Nat×Value)} {l l':List (Den t)} {arr:Array Value} {len:Nat},a1Y get t l ps=some l' ->
 All2 (fun(p:Nat×W) (q:Nat×Value)=>p.1=q.1 /\ All2 (CR β K) p.2.cells q.2.cells.toList) ps vs->(∀p∈ps,∀k∈a0L p.2,k∈ks)->l.length=len->arr.size=len*t.size ->
 (∀i (hi:i<l.length),DR (a4P β K get w ks) t l[i] (sub arr.toList (i*t.size) t.size)) ->
 ∃arr',Instr.fill (fun i=>some (i*t.size,t.size)) arr vs=some arr' /\ l'.length=len /\ arr'.size=len*t.size /\ ∀i (hi:i<l'.length),DR (a4P β K get w ks) t l'[i] (sub arr'.toList (i*t.size) t.size)
 |[],[],l,l',arr,len,hf,_,_,hl,ha,hd=>by simp only[a1Y,injEq]at hf;subst hf;exact⟨arr,rfl,hl,ha,hd⟩
 | (i, u) :: ps,(j,v)::vs,l,l',arr,len,hf,hv,hk,hl,ha,hd=>by
   obtain⟨⟨hij,huv⟩,hr⟩:=hv;dsimp only at hij huv;subst hij;simp only[a1Y]at hf;split at hf
   ·rename_i cs hcs;split at hf
    ·rename_i x hx;split at hf
     ·rename_i hlt;have hlt:i<l.length:=by simpa[Nat.blt_eq]using hlt
      have hro:All2 (CR β (a4P β K get w ks)) cs v.cells.toList:=
       a1c hcs huv fun cc cc' vv hm hff hrr=>c3K h hff hrr fun k hkk=>hk (i,u) (List.mem_cons_self ..) k (List.mem_flatMap.2 ⟨cc,hm,hkk⟩)
      obtain⟨v1,v2,e1,e2,e3⟩:=b2L t hx hro;have e1':v.cells.toList=v1:=by
       cases v2 with
       |nil=>simpa using e1
       |cons _ _=>exact e3.elim
      rw[<- e1']at e2;have hvl:=DR.length t e2;have hvs:v.cells.size=t.size:=by simpa using hvl
      have hfit:i*t.size+t.size<=arr.size:=by rw[ha,<- Nat.succ_mul];exact Nat.mul_le_mul_right _ (by omega)
      have hfl:=a7e (i*t.size) v.cells.toList 0 arr (by rw[hvl];omega);rw[Nat.add_zero]at hfl;obtain⟨arr',f1,f2,f3,f4⟩:=d5o h t (len:=len) (arr:=(v.cells.toList.zipIdx 0).foldl (fun(cs:Array Value) (x:Value×Nat)=>cs.setIfInBounds (i*t.size+x.2) x.1) arr) hf hr
       (fun p hp=>hk p (List.mem_cons_of_mem _ hp)) (by simpa using hl) (by
        rw[<- Array.length_toList,hfl];simp only[length_append,List.length_take,List.length_drop,Array.length_toList];rw[Array.length_toList]at hvl;omega) (by
        intro q hq;have hq':q<l.length:=by simpa using hq
        rw[hfl];by_cases hqi:q=i
        ·subst hqi;rw[List.getElem_set_self];have:=a4o arr.toList v.cells.toList (q*t.size) t.size 0 (by simpa using hfit) (by rw[hvl];omega);rw[Nat.add_zero]at this;rw[this];have h2:(sub arr.toList (q*t.size) t.size).drop (0+v.cells.toList.length)=[]:=by
          rw[List.drop_eq_nil_iff,a3R (by simpa using hfit),hvl];omega
         rw[h2];simpa using e2
        ·rw[List.getElem_set_ne (by omega)];rw[a2R _ _ _ _ _ (by rw[hvl];simpa using hfit)]
         ·exact hd q hq'
         ·rw[hvl];rcases Nat.lt_or_ge q i with hlt'|hge
          ·left;have:q*t.size+t.size<=i*t.size:=by rw[<- Nat.succ_mul];exact Nat.mul_le_mul_right _ hlt'
           omega
          ·right;have:i*t.size+t.size<=q*t.size:=by rw[<- Nat.succ_mul];exact Nat.mul_le_mul_right _ (by omega)
           omega)
      refine⟨arr',?_,f2,f3,f4⟩;simp only[Instr.fill];rw[if_neg (by simp[hvs];omega)];rw[<- f1];congr 1;rw[<- Array.foldl_toList];congr 1;simp
     ·cases hf
    ·cases hf
   ·cases hf
 |[],_::_,_,_,_,_,_,hv,_,_,_,_=>hv.elim
 |_::_,[],_,_,_,_,_,hv,_,_,_,_=>hv.elim
theorem b1r (h:Pre P Γ β K get n w ρ a) {t:TypeId} {ti ei:TI} {len:Nat} {parts:Array (Nat×Operand)} {ps:List (Nat×W)} {l:List (Den ei.ty)} (ho:o.op = .buildSlice t len parts) (ht:Γ.tab t=some ti) (hs:ti.sort = .slice)
 (he:Γ.tab ti.elem=some ei) (hp:a1v (fun p=>match ρ p.2 with|.val w=>some (p.1,w)|.tup _=>none) parts.toList=some ps) (hsure:ps.all (fun p=>p.2.cells.all c1B)=true) (hlen:len*ei.size<=1000000) (hsz:ei.ty.size=ei.size) (h0s:0<ei.size)
 (hf:a1Y get ei.ty (List.replicate len (zero ei.ty)) ps=some l) :
 a0m P o a w (a0Q β K get n w ⟨true,.val (.one (.ref ei.ty n)),(n,some (.arr ei.ty l))::(ps.flatMap fun p=>a0L p.2).map (fun k=>(k,none)),n+1⟩):=by
 obtain⟨_,d,_,_,hd,_,_,_,_,_,hso,_⟩:=(h.env.tab t ti ht).ex
 simp only[a1J,hs]at hso
 subst hso
 obtain⟨ii,d',z,hi,hd',hz,hs1,hb1,ha1,_,_,hzt,hzc⟩:=(h.env.tab _ ei he).ex
 have hpr:=b8b h hp
 have hpc:All2 (fun(p:Nat×W) (q:Nat×Value)=>p.1=q.1 /\ All2 (CR β K) p.2.cells q.2.cells.toList) ps (parts.toList.map fun x=>(x.1,a.eval x.2)):=by
  refine All2.mono_mem (fun p q hm hq=>⟨hq.1,WR.cells ?_ hq.2⟩) hpr
  exact List.all_eq_true.1 hsure p hm
 have hzs:z.cells.size=ei.ty.size:=by rw[hzc,hs1,hsz]
 have hparts:(parts.map fun(x:Nat×Operand)=>match x with|(i,x)=>(i,a.eval x)).toList=parts.toList.map fun x=>(x.1,a.eval x.2):=by simp
 obtain⟨arr',f1,f2,f3,f4⟩:=d5o (ks:=ps.flatMap fun p=>a0L p.2) h.mr ei.ty (arr:=madeCells z.cells (len*z.cells.size)) (len:=len) hf hpc
  (fun p hp k hk=>List.mem_flatMap.2 ⟨p,hp,hk⟩) (by simp) (by rw[size_madeCells,hzs]) (by
   intro i hi'
   rw[List.getElem_replicate,<- hzs,a6m _ _ _ (by simpa using hi')]
   exact hzt hsz _)
 have hr:(Instr.buildSlice t len (parts.map fun(x:Nat×Operand)=>match x with|(i,x)=>(i,a.eval x))).run P w = .ok (.slice (some ⟨w.heap.size,0,none⟩) len len) (w.alloc (.cells arr' ti.elem)):=by
  unfold Instr.buildSlice
  have hn:¬(2^24<len*ii.size):=by rw[hs1];omega
  have hn':¬(16777216<len*ii.size):=by rw[hs1];omega
  rw[hzs]at f1
  simp only[hsz]at f1
  rw[<- hs1]at f1
  simp only[Sem.run_bind,run_underlying hd,Result.andThen_ok,a1b hi]
  have hlp:∀(zc:Array Value),(Array.map (fun x=>zc[x%zc.size]!) (Array.range (len*ii.size)))=madeCells z.cells (len*ii.size)->(match Instr.fill (fun i=>some (i*ii.size,ii.size)) (Array.map (fun x=>zc[x%zc.size]!) (Array.range (len*ii.size)))
   (parts.map fun(x:Nat×Operand)=>match x with|(i,x)=>(i,a.eval x)).toList with
   | some cells=>do
     let y <- newRow ti.elem cells
     pure (Value.slice (some y) len len)
   |_=>stuck "buildSlice: a part of the wrong size" : Go.Sem Value).run P w = .ok (.slice (some ⟨w.heap.size,0,none⟩) len len) (w.alloc (.cells arr' ti.elem)):=by
   intro zc hzc
   rw[hzc,hparts,f1]
   simp[newRow]
  rw[if_neg (by simpa using hn')]
  by_cases hz0:len*ii.size=0
  ·rw[if_pos hz0]
   simp only[pure_bind]
   exact hlp #[] (by rw[hz0];simp[madeCells])
  ·rw[if_neg hz0]
   simp only[Sem.run_bind,zeroValue,typeInfo,run_program,Result.andThen_ok,hi,hz,Sem.run_pure]
   exact hlp z.cells rfl
 refine a0m.value (a1p (s:=Instr.buildSlice t len (parts.map fun(x:Nat×Operand)=>match x with|(i,x)=>(i,a.eval x))) (by simp[execOp,ho]) hr) ?_
 refine a8q.alloc (h:=⟨.slice (some ⟨w.heap.size,0,none⟩) len len,some w.heap.size⟩) h.kok h.mr h.fresh (a0p.refl w) (a0K (β:=β) (get:=get) (w:=w) (ks:=ps.flatMap fun p=>a0L p.2)) (a4m h.kok) ?_ rfl ?_ ?_ a4n
 ·intro k c x y e hk f g;exact a1M h.mr e hk f g
 ·refine .inr ⟨w.heap.size,len,arr',ti.elem,by simp[f2],a1G w _,by omega,?_,f3,f4⟩
  simp only[maxLen]
  have:len*1<=len*ei.size:=Nat.mul_le_mul_left _ (by omega)
  omega
 ·exact⟨_,_,_,_,a0A ..,rfl,rfl⟩
end
section
variable {P:Program} {Γ:Env} {β:Bt} {K:Ks} {get:Get} {n:Nat} {w:World} {ρ:Operand->V} {a:Act} {o:Oper}
structure Src (K:Ks) (w:World) (t:Ty) (l:List (Den t)) (v:Value) (news:List Value):Prop where
 val:∃ad c,v = .slice ad l.length c /\ (l.length=0∨∃x,ad=some x /\ ∀(j:Nat) (u:Value),news[j]?=some u->w.cell? (x.add j)=some u)
 len:news.length=l.length*t.size
 one:∀u∈news,u.oneCell'=true
 el:∀i (h:i<l.length),DR K t l[i] (sub news (i*t.size) t.size)
theorem c3P {t:Ty} {l:List (Den t)} {b q c:Nat} {arr:Array Value} {T:TypeId} {fz:Nat×Nat} (h0:0<t.size) (hh:w.heap[b]?=some (.cells arr T fz))
 (hd:∀i (h:i<l.length),DR K t l[i] (sub arr.toList (q+i*t.size) t.size)):Src K w t l (.slice (some ⟨b,q,none⟩) l.length c) (sub arr.toList q (l.length*t.size)):=by
 have hfit:l.length≠0->q+l.length*t.size<=arr.toList.length:=by
  intro hne;have hi:l.length-1<l.length:=by omega
  have:=DR.length t (hd (l.length-1) hi);simp only[sub,List.length_take,List.length_drop]at this;have h2:(l.length-1)*t.size+t.size=l.length*t.size:=by
   rw[<- Nat.succ_mul];congr 1;omega
  omega
 have hsub:∀i,i<l.length->sub (sub arr.toList q (l.length*t.size)) (i*t.size) t.size=sub arr.toList (q+i*t.size) t.size:=by
  intro i hi;refine c3D _ _ _ _ _ ?_;rw[<- Nat.succ_mul];exact Nat.mul_le_mul_right _ hi
 refine⟨⟨_,c,rfl,?_⟩,?_,?_,?_⟩
 ·right;refine⟨_,rfl,fun j u hj=>?_⟩;rw[a2Q,cell_of_row w b _ arr T fz hh];unfold sub at hj;rw[List.getElem?_take]at hj;split at hj
  ·rw[List.getElem?_drop]at hj;simpa using hj
  ·cases hj
 ·by_cases hne:l.length=0
  ·simp[hne,sub]
  ·exact a3R (hfit hne)
 ·intro u hu;obtain⟨j,hj,he⟩:=List.mem_iff_getElem.1 hu;by_cases hne:l.length=0
  ·simp[hne,sub]at hj
  ·have hlen:=a3R (hfit hne);rw[hlen]at hj;have hi:j/t.size<l.length:=(Nat.div_lt_iff_lt_mul h0).2 hj;refine DR.oneCell t (hd _ hi) u ?_;rw[<- hsub _ hi];have hm:j%t.size<t.size:=Nat.mod_lt _ h0;refine List.mem_iff_getElem?.2 ⟨j%t.size,?_⟩;have hje:j/t.size*t.size+j%t.size=j:=by rw[Nat.mul_comm];exact Nat.div_add_mod j t.size
   show(((sub arr.toList q (l.length*t.size)).drop (j/t.size*t.size)).take t.size)[j%t.size]?=some u;rw[List.getElem?_take,if_pos hm,List.getElem?_drop,hje];rw[List.getElem?_eq_getElem (by rw[hlen];exact hj),he]
 ·intro i hi;rw[hsub i hi];exact hd i hi
theorem b5K {t:Ty} {ad:Option Addr} {c:Nat}:Src K w t [] (.slice ad 0 c) []:=
 ⟨⟨ad,c,rfl,.inl rfl⟩,by simp,by simp,fun i h=>by simp at h⟩
theorem b8c (hk:KOK K w) (hm:MR β K get w) {t:Ty} {c:C} {v:Value} {l:List (Den t)} {kx:List Nat} (h0:0<t.size) (he:a3K get t c=some (l,kx)) (hv:CR β K c v) :
 ∃news,Src K w t l v news:=by
 cases c with
 | nil t' =>
   simp only[a3K,injEq,Prod.mk.injEq]at he;obtain⟨rfl,rfl⟩:=he;obtain⟨ad,rfl⟩:=hv;exact⟨[],b5K⟩
 | sl t' l' =>
   simp only[a3K]at he;split at he
   ·rename_i e _;subst e;simp only[injEq,Prod.mk.injEq]at he;obtain⟨rfl,rfl⟩:=he;obtain⟨ad,m,c,hvv,hmm,hmc,hr⟩:=hv;simp only[List.cons.injEq,and_true]at hvv;subst hmm;rcases hr with hz|⟨b,q,arr,rfl,hK,hall⟩
    ·have:l'=[]:=List.eq_nil_of_length_eq_zero hz;subst this;rw[hvv];exact⟨[],b5K⟩
    ·obtain⟨cur,T,fz,hh,_,hs⟩:=hk.see hK;rw[hvv];exact⟨_,c3P h0 hh fun i hi=>hs _ _ (hall i hi)⟩
   ·cases he
 | ref t' k =>
   simp only[a3K]at he;split at he
   ·rename_i t'' l' hg;split at he
    ·rename_i e _;subst e;simp only[injEq,Prod.mk.injEq]at he;obtain⟨rfl,rfl⟩:=he;obtain⟨y,ad,m,c,hb,hy,rfl⟩:=hv;obtain⟨y',hb',hbr⟩:=hm.blk k _ hg;rw[hb]at hb';cases hb';rcases hbr with⟨rfl,a',rfl⟩|⟨b,cap,cur,T,rfl,hh,h1,h2,h3,h4⟩
     ·cases hy;exact⟨[],b5K⟩
     ·cases hy;exact⟨_,c3P (q:=0) h0 hh (fun i hi=>by rw[Nat.zero_add];exact h4 i hi)⟩
    ·cases he
   ·cases he
 |_=>simp[a3K]at he
theorem c1K:∀{l:List Int} {news:List Value},news.length=l.length*(Ty.int .u8).size->(∀i (h:i<l.length),DR K (.int .u8) l[i] (sub news (i*(Ty.int .u8).size) (Ty.int .u8).size))->news=l.map (Value.int .u8):=by
 intro l news hl h;have hl':news.length=l.length:=by simpa[Ty.size]using hl
 refine List.ext_getElem (by simp[hl']) fun i h1 h2=>?_
 have:=h i (by omega);simp only[Ty.size,Nat.mul_one]at this;have hs:sub news i 1=[news[i]]:=by
  unfold sub;rw[List.drop_eq_getElem_cons h1];rfl
 rw[hs]at this;have h3:[news[i]]=[Value.int .u8 l[i]]:=this;simpa using h3
theorem d1A (h:Pre P Γ β K get n w ρ a) {src dst:TypeId} {si di:TI} {x:Operand} {c:C} {s:ByteArray} {out:Out} (ho:o.op = .convert src dst x) (hs:Γ.tab src=some si) (hd:Γ.tab dst=some di)
 (hx:ρ x = .val (.one c)) (hc:c1C Γ get si di c=some s) (hl:a0v n true (.one (.str s))=some out):a0m P o a w (a0Q β K get n w out):=by
 obtain⟨_,d1,_,_,hd1,_,_,_,_,_,hso1,_⟩:=(h.env.tab src si hs).ex;obtain⟨_,d2,_,_,hd2,_,_,_,_,_,hso2,_⟩:=(h.env.tab dst di hd).ex;unfold c1C at hc;split at hc
 ·rename_i hk1 hk2;simp only[a1J,hk1]at hso1;simp only[a1J,hk2]at hso2;subst hso1;subst hso2;split at hc
  ·rename_i ei hei;obtain⟨_,d3,_,_,hd3,_,_,_,_,_,hso3,_⟩:=(h.env.tab _ ei hei).ex;split at hc
   ·rename_i k hk3;simp only[a1J,hk3]at hso3;subst hso3;split at hc
    ·rename_i hb;have hk:k = .u8:=by cases k<;>simp_all[c3x]
     subst hk;split at hc
     ·rename_i l ks he;cases hc;have hv:=h.one hx;obtain⟨news,hsrc⟩:=b8c h.kok h.mr (by decide) he hv;obtain⟨ad,cp,hval,hcell⟩:=hsrc.val;have hn:=c1K hsrc.len hsrc.el;refine h.pure1 hl (u := .string (a7C l)) rfl (a1p (s:=convert src dst (a.eval x)) (by simp[execOp,ho]) ?_) (a0p.refl w);rw[hval,run_convert_bytes_string w src dst _ ad _ _ hd1 hd3 hd2];rcases hcell with hz|⟨y,rfl,hcell⟩
      ·have:l=[]:=List.eq_nil_of_length_eq_zero hz;subst this;cases ad with
       |none=>rfl
       |some y=>exact run_bytesToString w y 0 cp [] (by simp[loadCells,loadCellsFrom])
      ·have hlo:=run_loadCells_list (P:=P) w y news hcell;refine run_bytesToString w y l.length cp l ?_;rw[hn]at hlo;simpa using hlo
     ·cases hc
    ·cases hc
   ·cases hc
  ·cases hc
 ·cases hc
theorem a6n {b:Builtin} {c:Call} (ho:o.op = .call c) (hc:c.callee = .builtin b) {s:TypeId->Array Value->Go.Sem Value} {v:Value} {w':World}
 (hb:∀ty consts args,builtin b c.argTypes ty consts args=(do let x <- s ty args;pure (Next.value x))) (hr:(s o.type (c.args.map a.eval)).run P w = .ok v w'):(execOp a.eval o).run P w = .ok (.value v) w':=by
 simp[execOp,ho,resolve,hc,invoke,hb,hr]
theorem a8q.alloc0 {β:Bt} {K:Ks} {get:Get} {n:Nat} {w w1:World} {b:Blk} {ok:Bool} {h:Hd} {v:V} {gone:List Nat}
 (hk:KOK K w) (hm:MR β K get w) (hf:∀k,n<=k->β k=none) (s:a0p w w1) (hh:h.b=none)
 (hb:BR (a9P β n h) K b h w1) (hv:VR (a9P β n h) K v h.v) :
 a0Q β K get n w ⟨ok,v,(n,some b)::gone.map (fun k=>(k,none)),n+1⟩ h.v w1:=by
 have hn:β n=none:=hf n (le_refl _);refine⟨a9P β n h,K,BLe.add h hn,KLe.refl K,hk.still s,hv,?_,?_,by simp,Fr.still s,?_,fun _ _ e => .inl e,fun k hk=>a1a _ _ (by omega)⟩
 ·refine hm.step (BLe.add h hn) (KLe.refl K) ?_;intro k c e;rcases a0B e with⟨rfl,e1⟩|⟨e1,e2⟩
  ·cases e1;exact .inr ⟨h,a0A ..,hb,fun x hx=>by rw[hh]at hx;cases hx⟩
  ·obtain⟨e3,e4⟩:=a1o e2;exact .inl ⟨e4,fun x y f g=>⟨by rw[s.heap],hm.ro k c y x e4 f g⟩⟩
 ·intro k hkk;rw[a1a _ _ (by simp at hkk;omega)];exact hf k (by simp at hkk;omega)
 ·rintro x ⟨k,c,y,e,f,g⟩;rcases a0B e with⟨rfl,e1⟩|⟨e1,e2⟩
  ·rw[a0A]at f;cases f;rw[hh]at g;cases g
  ·obtain⟨_,e4⟩:=a1o e2;rw[a1a _ _ e1]at f;exact .inl ⟨k,c,y,e4,f,g⟩
theorem a8q.moved {β:Bt} {K:Ks} {get:Get} {n:Nat} {w:World} {c0 b:Blk} {ok:Bool} {h y:Hd} {v:V} {k g:Nat} {cur:Array Value}
 (hk:KOK K w) (hm:MR β K get w) (hf:∀k,n<=k->β k=none) (hg:get k=some c0) (hy:β k=some y) (hyb:y.b=some g) (hh:h.b=some g)
 (hb:BR (a9P β n h) K b h (w.setRow g cur)) (hv:VR (a9P β n h) K v h.v) :
 a0Q β K get n w ⟨ok,v,[(n,some b),(k,none)],n+1⟩ h.v (w.setRow g cur):=by
 have hn:β n=none:=hf n (le_refl _);have hkg:K g=none:=hm.ro k c0 y g hg hy hyb;refine⟨a9P β n h,K,BLe.add h hn,KLe.refl K,⟨?_,hk.gk⟩,hv,?_,?_,by simp,⟨rfl,rfl,rfl,by simp,?_⟩,?_,fun _ _ e => .inl e,fun k hk=>a1a _ _ (by omega)⟩
 ·intro x arr e;have hx:x≠g:=fun e'=>by subst e';rw[hkg]at e;cases e
  rw[setRow_other w g x cur hx];exact hk.ato x arr e
 ·refine hm.step (BLe.add h hn) (KLe.refl K) ?_;intro j c e;rcases a0B e with⟨rfl,e1⟩|⟨e1,e2⟩
  ·cases e1;refine .inr ⟨h,a0A ..,hb,fun x hx=>?_⟩;rw[hh]at hx;cases hx;refine⟨hkg,fun k' b' y' e' f' g'=>?_⟩;rcases a0B e' with⟨rfl,_⟩|⟨e3,e4⟩
   ·rfl
   ·rcases b1o e4 with⟨_,e5⟩|⟨e5,e6⟩
    ·cases e5
    ·rw[a1a _ _ e3]at f';exact absurd (hm.sep k' k b' c0 y' y g e6 hg f' hy g' hyb) e5
  ·rcases b1o e2 with⟨_,e5⟩|⟨e5,e6⟩
   ·cases e5
   ·refine .inl ⟨e6,fun x z f g'=>⟨setRow_other w g x cur fun e'=>?_,hm.ro j c z x e6 f g'⟩⟩;subst e';exact e5 (hm.sep j k c c0 z y x e6 hg f hy g' hyb)
 ·intro j hjj;rw[a1a _ _ (by simp at hjj;omega)];exact hf j (by simp at hjj;omega)
 ·intro x hx hn';exact setRow_other w g x cur fun e=>hn' (.inl ⟨k,c0,y,hg,hy,by rw[hyb,e]⟩)
 ·rintro x ⟨j,c,z,e,f,g'⟩;rcases a0B e with⟨rfl,e1⟩|⟨e1,e2⟩
  ·rw[a0A]at f;cases f;rw[hh]at g';cases g';exact .inl ⟨k,c0,y,hg,hy,hyb⟩
  ·rcases b1o e2 with⟨_,e5⟩|⟨e5,e6⟩
   ·cases e5
   ·rw[a1a _ _ e1]at f;exact .inl ⟨j,c,z,e6,f,g'⟩
theorem a4S (x y:List Value) (o m:Nat) (h:o+m<=x.length):sub (x++y) o m=sub x o m:=by
 unfold sub;rw[List.drop_append_of_le_length (by omega),List.take_append_of_le_length (by simp;omega)]
theorem a7U (x y:List Value) (o m:Nat):sub (x++y) (x.length+o) m=sub y o m:=by
 unfold sub;have e:x.drop (x.length+o)=[]:=List.drop_eq_nil_of_le (by omega);rw[List.drop_append,e];simp
theorem b2S {t:Ty} {l l':List (Den t)} {xs ys:List Value} (hx:xs.length=l.length*t.size) (h:∀i (hi:i<l.length),DR K t l[i] (sub xs (i*t.size) t.size))
 (h':∀i (hi:i<l'.length),DR K t l'[i] (sub ys (i*t.size) t.size)) (rest:List Value) (hy:ys.length=l'.length*t.size) :
 ∀i (hi:i<(l++l').length),DR K t (l++l')[i] (sub (xs++ys++rest) (i*t.size) t.size):=by
 intro i hi;have hs:i*t.size+t.size<=(xs++ys).length:=by
  rw[length_append,hx,hy,<- Nat.add_mul,<- Nat.succ_mul];exact Nat.mul_le_mul_right _ (by have:=hi;simp at this;omega)
 rw[a4S _ _ _ _ hs];by_cases hl:i<l.length
 ·rw[List.getElem_append_left hl,a4S]
  ·exact h i hl
  ·rw[hx,<- Nat.succ_mul];exact Nat.mul_le_mul_right _ hl
 ·rw[List.getElem_append_right (by omega)];have e:i*t.size=xs.length+(i-l.length)*t.size:=by
   rw[hx,<- Nat.add_mul];congr 1;omega
  rw[e,a7U];exact h' _ _
theorem a7V (t ty e:TypeId) (i:TypeInfo) (ht:P.underlying t=some (.slice e)) (hi:P.info? e=some i)
 (g sLen sCap:Nat) (cur:Array Value) (T:TypeId) (hg:w.heap[g]?=some (.cells cur T (0,0)))
 (ad:Option Addr) (m c:Nat) (news:List Value) (hl:news.length=m*i.size) (hnews:m=0∨∃x,ad=some x /\ ∀(j:Nat) (u:Value),news[j]?=some u->w.cell? (x.add j)=some u) (h1:∀u∈news,u.oneCell'=true)
 (hroom:sLen+m<=sCap) (hfit:sLen*i.size+news.length<=cur.size) :
 (Builtin.append_ #[t,t] ty #[.slice (some ⟨g,0,none⟩) sLen sCap,.slice ad m c]).run P w =
  .ok (.slice (some ⟨g,0,none⟩) (sLen+m) sCap) (w.setRow g (cur.toList.take (sLen*i.size)++news++cur.toList.drop (sLen*i.size+news.length)).toArray):=by
 have hf:(Builtin.firstCells i.size m (.slice ad m c)).run P w = .ok news.toArray w:=by
  rcases hnews with rfl|⟨x,rfl,hn⟩
  ·have:news=[]:=List.eq_nil_of_length_eq_zero (by simpa using hl);subst this;cases ad with
   |none=>simp[Builtin.firstCells]
   |some x=>simp[Builtin.firstCells,loadCells,loadCellsFrom]
  ·exact run_firstCells_some (P:=P) w i.size m x m c news hl hn
 have hst:=run_storeCells_at P g (sLen*i.size) T news 0 cur w hg (by simpa using hfit) h1;simp only[Nat.add_zero]at hst;simp[Builtin.append_,run_underlying ht,sizeOf,typeInfo,hi,Builtin.lenOf,hroom,hf,a2Q,hst]
theorem a8z (t ty e:TypeId) (i:TypeInfo) (ht:P.underlying t=some (.slice e)) (hi:P.info? e=some i) (s ad:Option Addr) (c:Nat) :
 (Builtin.append_ #[t,t] ty #[.slice s 0 0,.slice ad 0 c]).run P w = .ok (.slice s 0 0) w:=by
 have hf:(Builtin.firstCells i.size 0 (.slice ad 0 c)).run P w = .ok #[] w:=by
  cases ad with
  |none=>simp[Builtin.firstCells]
  |some x=>simp[Builtin.firstCells,loadCells,loadCellsFrom]
 cases s with
 |none=>simp[Builtin.append_,run_underlying ht,sizeOf,typeInfo,hi,Builtin.lenOf,hf]
 |some x=>simp[Builtin.append_,run_underlying ht,sizeOf,typeInfo,hi,Builtin.lenOf,hf,storeCells]
theorem c3Q (h:Pre P Γ β K get n w ρ a) {st e:TypeId} {ei:TI} {ii:TypeInfo} {z:Value} (hu:P.underlying st=some (.slice e)) (hi:P.info? e=some ii) (hz:ii.zero=some z) (hs1:ii.size=ei.size) (hb1:ii.bytes=ei.bytes)
 (hzc:z.cells.size=ii.size) (hby:ei.bytes<=128) (hsz:ei.ty.size=ei.size) (h0s:0<ei.size) (ty:TypeId)
 {s:Option Addr} {sLen sCap:Nat} {l l':List (Den ei.ty)} {olds news:List Value} (hol:olds.length=l.length*ei.ty.size) (hsl:sLen=l.length)
 (hov:sLen=0∨∃x,s=some x /\ ∀(j:Nat) (u:Value),olds[j]?=some u->w.cell? (x.add j)=some u) (hoe:∀i (h:i<l.length),DR K ei.ty l[i] (sub olds (i*ei.ty.size) ei.ty.size))
 {v:Value} (hsrc:Src K w ei.ty l' v news) (hgrow:sCap<sLen+l'.length) (hcap:(l.length:Int)+(l'.length:Int)<=a3C) {gone:List Nat} {ok:Bool} (hexec:∀u w',(Builtin.append_ #[st,st] ty #[.slice s sLen sCap,v]).run P w = .ok u w'->(execOp a.eval o).run P w = .ok (.value u) w')
 (hnone:s=none->sCap=0) (hle:sLen<=sCap) :
 a0m P o a w (a0Q β K get n w ⟨ok,.val (.one (.ref ei.ty n)),(n,some (.arr ei.ty (l++l')))::gone.map (fun k=>(k,none)),n+1⟩):=by
 have hc0:a3C=1099511627776:=rfl;obtain⟨ad,c,rfl,hnv⟩:=hsrc.val;have hl:=hsrc.len;by_cases hm0:l'.length=0
 ·
  omega
 ·obtain⟨x,rfl,hnews⟩:=hnv.resolve_left hm0;have hfits:(sLen+l'.length)*ii.bytes<=140737488355328:=by
   have h1:(sLen+l'.length)*ii.bytes<=(sLen+l'.length)*128:=Nat.mul_le_mul_left _ (by omega);have h2:sLen+l'.length<=1099511627776:=by omega
   omega
  have hcm:∀old,grownCap w (sLen+l'.length) old e<=maxLen:=fun old=>grownCap_le_maxLen w _ old e (by simp only[maxLen];omega)
  have hr:(Builtin.append_ #[st,st] ty #[.slice s sLen sCap,.slice (some x) l'.length c]).run P w = .ok (.slice (some ⟨w.heap.size,0,none⟩) (sLen+l'.length) (grownCap w (sLen+l'.length) sCap e))
   (w.drew.alloc (.cells (olds.toArray++news.toArray++Builtin.zeroCells z.cells (grownCap w (sLen+l'.length) sCap e-(sLen+l'.length))) e)):=by
   cases s with
   | none =>
     have e0:sCap=0:=hnone rfl;subst e0;have e1:sLen=0:=by rcases hov with hov|⟨x,hx,_⟩;exact hov;cases hx
     have e2:olds=[]:=List.eq_nil_of_length_eq_zero (by rw[hol,<- hsl,e1];simp);subst e2;subst e1;have:=run_append_nil (P:=P) w st ty e ii z hu hi hz x l'.length c news (by rw[hl,hsz,hs1]) hnews (by omega) (by omega) (by rw[Nat.zero_add]at hfits;omega);simpa using this
   | some y =>
     refine run_append_grow (P:=P) w st ty e ii z hu hi hz y sLen sCap olds (by rw[hol,hsl,hsz,hs1]) ?_ x l'.length c news (by rw[hl,hsz,hs1]) hnews hgrow (by omega) (growslice_fits hgrow hfits);intro j u hj;rcases hov with h0|⟨y',hy',hov⟩
     ·have:olds=[]:=List.eq_nil_of_length_eq_zero (by rw[hol,<- hsl,h0];simp);subst this;simp at hj
     ·cases hy';exact hov j u hj
  refine a0m.value (hexec _ _ hr) ?_;have hst:a0p w w.drew:=⟨rfl,rfl,rfl,rfl⟩;refine a8q.alloc (h:=⟨.slice (some ⟨w.heap.size,0,none⟩) (sLen+l'.length) (grownCap w (sLen+l'.length) sCap e),some w.heap.size⟩) h.kok h.mr h.fresh hst (KLe.refl K) h.kok ?_ rfl ?_ ?_
  ·intro k c x y e _ f g;exact h.mr.ro k c y x e f g
  ·have hge:=grownCap_ge w (sLen+l'.length) sCap e;refine .inr ⟨w.heap.size,grownCap w (sLen+l'.length) sCap e,_,e,by simp[hsl],a1G w.drew _,by simp;omega,hcm _,?_,?_⟩
   ·simp only[Array.size_append,List.size_toArray,size_zeroCells,hzc,hol,hl,hs1,hsz,<- Nat.add_mul];congr 1;omega
   ·simp only[Array.toList_append];exact b2S hol hoe hsrc.el _ hl
  ·exact⟨_,_,_,_,a0A ..,rfl,rfl⟩
set_option maxHeartbeats 1000000 in
theorem c3R (h:Pre P Γ β K get n w ρ a) {c:Call} {st:TypeId} {si ei:TI} {xs xx:Operand} {s x:C} {out:Out} (ho:o.op = .call c) (hc:c.callee = .builtin .append) (hts:c.argTypes=#[st,st]) (hargs:c.args=#[xs,xx])
 (ht:Γ.tab st=some si) (hsort:si.sort = .slice) (he:Γ.tab si.elem=some ei) (hsz:ei.ty.size=ei.size) (h0s:0<ei.size) (hs:ρ xs = .val (.one s)) (hx:ρ xx = .val (.one x))
 (hl:a2H get n ei.ty ei.bytes s x=some out) (hok:out.ok=true):a0m P o a w (a0Q β K get n w out):=by
 obtain⟨_,d,_,_,hd,_,_,_,_,_,hso,_⟩:=(h.env.tab st si ht).ex;simp only[a1J,hsort]at hso;subst hso;obtain⟨ii,d',z,hi,hd',hz,hs1,hb1,ha1,_,_,hzt,hzc⟩:=(h.env.tab _ ei he).ex;have h0:0<ei.ty.size:=by omega
 have exec:∀u w',(Builtin.append_ #[st,st] o.type #[a.eval xs,a.eval xx]).run P w = .ok u w'->(execOp a.eval o).run P w = .ok (.value u) w':=by
  intro u w' hr;refine a6n (b := .append) (s:=fun ty args=>Builtin.append_ c.argTypes ty args) ho hc (fun ty consts args=>rfl) ?_;rw[hts,hargs];simpa using hr
 unfold a2H at hl;split at hl
 ·cases hl
 rename_i hby;have hby:ei.bytes<=128:=by simpa using hby
 split at hl
 ·cases hl
 rename_i new kx hel;obtain⟨news,hsrc⟩:=b8c h.kok h.mr h0 hel (h.one hx);have hsv:=h.one hs;have bare:∀(sa:Option Addr) (gone:List Nat) (ok:Bool),a.eval xs = .slice sa 0 0->(new.length:Int)<=a3C ->
  a0m P o a w (a0Q β K get n w ⟨ok,.val (.one (.ref ei.ty n)),(n,some (.arr ei.ty new))::gone.map (fun k=>(k,none)),n+1⟩):=by
  intro sa gone ok hv hcap;by_cases hm0:new.length=0
  ·obtain⟨ad,c',hxv,_⟩:=hsrc.val;have hr:=a8z (P:=P) (w:=w) st o.type si.elem ii hd hi sa ad c';rw[<- hm0,<- hxv,hm0,<- hv]at hr;refine a0m.value (exec _ _ hr) ?_;have e:new=[]:=List.eq_nil_of_length_eq_zero hm0;subst e;rw[hv];exact a8q.alloc0 (h:=⟨.slice sa 0 0,none⟩) h.kok h.mr h.fresh (a0p.refl w) rfl (.inl ⟨rfl,sa,rfl⟩) ⟨_,_,_,_,a0A ..,rfl,rfl⟩
  ·have:=c3Q (l:=[]) (l':=new) (olds:=[]) (news:=news) (s:=sa) (sLen:=0) (sCap:=0) (gone:=gone) (ok:=ok) h hd hi hz hs1 hb1 hzc hby hsz h0s o.type (by simp) rfl (.inl rfl) (fun i hi=>by simp at hi) hsrc (by omega) (by simpa using hcap)
    (fun u w' hr=>exec u w' (by rw[hv];exact hr)) (fun _=>rfl) (le_refl _)
   simpa using this
 split at hl
 ·cases hl;obtain⟨sa,hv⟩:=hsv;exact bare sa [] _ hv (b1l hok)
 ·rename_i ty key;split at hl
  ·rename_i t' l hg;split at hl
   ·rename_i e _;subst e;split at hl
    ·cases hl
    ·rename_i hkx;cases hl;have hcap:(l.length:Int)+(new.length:Int)<=a3C:=by have:=b1l hok;simpa using this
     obtain⟨y,ad,m,c',hb,hy,hv⟩:=hsv;obtain⟨y',hb',hbr⟩:=h.mr.blk key _ hg;rw[hb]at hb';cases hb';rcases hbr with⟨hl0,a',rfl⟩|⟨b,cap,cur,T,rfl,hh,h1,h2,h3,h4⟩
     ·cases hy;have hl0':l=[]:=hl0;subst hl0';have:=bare _ [key] (a0j (([]:List (Den ei.ty)).length+new.length)) hv (by simpa using hcap);exact this
     ·cases hy;have hold:=c3P (K:=K) (w:=w) (q:=0) (c:=c') h0 hh (l:=l) (fun i hi=>by rw[Nat.zero_add];exact h4 i hi);by_cases hroom:l.length+new.length<=c'
      ·obtain⟨ad',c'',hxv,hnv⟩:=hsrc.val;have hnl:=hsrc.len;have hfit:l.length*ii.size+news.length<=cur.size:=by
        rw[hnl,h3,hs1,hsz,<- Nat.add_mul];exact Nat.mul_le_mul_right _ hroom
       have hr:=a7V (P:=P) (w:=w) st o.type si.elem ii hd hi b l.length c' cur T hh ad' new.length c'' news (by rw[hnl,hsz,hs1]) hnv hsrc.one hroom hfit;rw[<- hxv,<- hv]at hr;refine a0m.value (exec _ _ hr) ?_;refine a8q.moved (h:=⟨.slice (some ⟨b,0,none⟩) (l.length+new.length) c',some b⟩) h.kok h.mr h.fresh hg hb rfl rfl ?_ ⟨_,_,_,_,a0A ..,rfl,rfl⟩;refine .inr ⟨b,c',_,T,by simp,setRow_heap w b cur _ T _ hh,by simpa using hroom,h2,?_,?_⟩
       ·simp only[List.size_toArray,length_append,List.length_take,List.length_drop,Array.length_toList];omega
       ·rw[List.toList_toArray,hs1,<- hsz];have e1:cur.toList.take (l.length*ei.ty.size)=sub cur.toList 0 (l.length*ei.ty.size):=by simp[sub]
        rw[e1];exact b2S hold.len hold.el hsrc.el _ hnl
      ·exact c3Q (l:=l) (l':=new) (olds:=sub cur.toList 0 (l.length*ei.ty.size)) (news:=news) (s:=some ⟨b,0,none⟩) (sLen:=l.length) (sCap:=c') (gone:=[key]) h hd hi hz hs1 hb1 hzc hby hsz h0s o.type hold.len rfl
        (by
         obtain⟨ad2,c2,e2,h5⟩:=hold.val;rcases h5 with h5|⟨x,hx1,hx2⟩
         ·exact .inl h5
         ·cases e2;exact .inr ⟨x,hx1,hx2⟩) hold.el hsrc (by omega) hcap
        (fun u w' hr=>exec u w' (by rw[hv];exact hr)) (fun hn=>by cases hn) h1
   ·cases hl
  ·cases hl
 ·cases hl
theorem e6P (h:Pre P Γ β K get n w ρ a) {c:Call} {t:TypeId} {ti:TI} {x:Operand} {cc:C} {out:Out} (ho:o.op = .call c) (hc:c.callee = .builtin .len) (hts:c.argTypes.toList=[t]) (hargs:c.args.toList=[x]) (ht:Γ.tab t=some ti) (hx:ρ x = .val (.one cc))
 (hl:a7B get n ti.sort cc=some out):a0m P o a w (a0Q β K get n w out):=by
 obtain⟨_,d,_,_,hd,_,_,_,_,_,hso,_⟩:=(h.env.tab t ti ht).ex;have hts':c.argTypes=#[t]:=by cases hq:c.argTypes;simp_all
 have hargs':c.args=#[x]:=by cases hq:c.args;simp_all
 have hv:=h.one hx;have exec:∀u,(Builtin.len_ #[t] o.type #[a.eval x]).run P w = .ok u w->(execOp a.eval o).run P w = .ok (.value u) w:=by
  intro u hr;refine a6n (b := .len) (s:=fun ty args=>Builtin.len_ c.argTypes ty args) ho hc (fun ty consts args=>rfl) ?_;rw[hts',hargs'];simpa using hr
 have slice:∀(ad:Option Addr) (m cp:Nat) (e:TypeId),d = .slice e->a.eval x = .slice ad m cp->(execOp a.eval o).run P w = .ok (.value (.int .i64 m)) w:=by
  intro ad m cp e hde hve;subst hde;refine exec _ ?_;rw[hve];simp[Builtin.len_,run_underlying hd,goInt]
 unfold a7B at hl;split at hl
 ·rename_i hs;simp only[a1J,hs]at hso;obtain⟨ad,hve⟩:=hv;exact h.pure1 hl (u := .int .i64 0) rfl (slice ad 0 0 _ hso hve) (a0p.refl w)
 ·rename_i hs;simp only[a1J,hs]at hso;obtain⟨ad,m,cp,hve,hm,_⟩:=hv;simp only[List.cons.injEq,and_true]at hve;subst hm;exact h.pure1 hl rfl (slice ad _ cp _ hso hve) (a0p.refl w)
 ·rename_i hs;simp only[a1J,hs]at hso;split at hl
  ·rename_i l hg;obtain⟨y,ad,m,cp,hb,hy,hve⟩:=hv;obtain⟨y',hb',hbr⟩:=h.mr.blk _ _ hg;rw[hb]at hb';cases hb';rcases hbr with⟨rfl,a',rfl⟩|⟨b,cap,cur,T,rfl,_⟩
   ·cases hy;exact h.pure1 hl rfl (slice _ 0 0 _ hso hve) (a0p.refl w)
   ·cases hy;exact h.pure1 hl rfl (slice _ _ _ _ hso hve) (a0p.refl w)
  ·cases hl
 ·rename_i hs;simp only[a1J,hs]at hso;subst hso;refine h.pure1 hl rfl (exec _ ?_) (a0p.refl w);rw[show a.eval x = .string _ from hv];simp[Builtin.len_,run_underlying hd,goInt]
 ·cases hl
theorem c3S (h:Pre P Γ β K get n w ρ a) {c:Call} {x:Operand} {k:FloatKind} {p q:Nat} {out:Out} (ho:o.op = .call c) (hargs:c.args.toList=[x]) (hx:ρ x = .val (.one (.cpx k p q)))
 (hc:(c.callee = .builtin .real /\ a0v n true (.one (.flt k p))=some out)∨(c.callee = .builtin .imag /\ a0v n true (.one (.flt k q))=some out)):a0m P o a w (a0Q β K get n w out):=by
 have hargs':c.args=#[x]:=by cases hq:c.args;simp_all
 obtain⟨p',q',hv,hp,hq⟩:=h.one hx;rcases hc with⟨hc,hl⟩|⟨hc,hl⟩
 ·refine h.pure1 hl (u := .float k p') ⟨_,rfl,hp⟩ (w':=w) ?_ (a0p.refl w);refine a6n (b := .real) (s:=fun ty args=>Builtin.real_ c.argTypes ty args) ho hc (fun ty consts args=>rfl) ?_;rw[hargs',show(#[x].map a.eval)=#[Value.complex k p' q']by simp[hv]];rfl
 ·refine h.pure1 hl (u := .float k q') ⟨_,rfl,hq⟩ (w':=w) ?_ (a0p.refl w);refine a6n (b := .imag) (s:=fun ty args=>Builtin.imag_ c.argTypes ty args) ho hc (fun ty consts args=>rfl) ?_;rw[hargs',show(#[x].map a.eval)=#[Value.complex k p' q']by simp[hv]];rfl
theorem c1L (h:Pre P Γ β K get n w ρ a) {c:Call} {x y:Operand} {k:FloatKind} {p q:Nat} {out:Out} (ho:o.op = .call c) (hargs:c.args.toList=[x,y]) (hx:ρ x = .val (.one (.flt k p))) (hy:ρ y = .val (.one (.flt k q)))
 (hc:c.callee = .builtin .complex) (hl:a0v n true (.one (.cpx k p q))=some out):a0m P o a w (a0Q β K get n w out):=by
 have hargs':c.args=#[x,y]:=by cases hq:c.args;simp_all
 obtain⟨p',hv,hp⟩:=h.one hx;obtain⟨q',hv',hq⟩:=h.one hy;refine h.pure1 hl (u := .complex k p' q') ⟨_,_,rfl,hp,hq⟩ (w':=w) ?_ (a0p.refl w);refine a6n (b := .complex) (s:=fun ty args=>Builtin.complex_ c.argTypes ty args) ho hc (fun ty consts args=>rfl) ?_;rw[hargs',show(#[x,y].map a.eval)=#[Value.float k p',Value.float k q']by simp[hv,hv']];cases k<;>rfl
theorem b2T (h:Pre P Γ β K get n w ρ a) {c:Call} {x y:Operand} {k:IntKind} {p q:Int} {out:Out} (ho:o.op = .call c) (hargs:c.args.toList=[x,y]) (hx:ρ x = .val (.one (.int k p))) (hy:ρ y = .val (.one (.int k q)))
 (hc:(c.callee = .builtin .max /\ a0v n true (.one (.int k (e0A p q)))=some out)∨(c.callee = .builtin .min /\ a0v n true (.one (.int k (a2l p q)))=some out)):a0m P o a w (a0Q β K get n w out):=by
 have hargs':c.args=#[x,y]:=by cases hq:c.args;simp_all
 have hv:a.eval x = .int k p:=h.one hx;have hv':a.eval y = .int k q:=h.one hy;rcases hc with⟨hc,hl⟩|⟨hc,hl⟩
 ·refine h.pure1 hl (u := .int k (e0A p q)) rfl (w':=w) ?_ (a0p.refl w);refine a6n (b := .max) (s:=fun ty args=>Builtin.max_ c.argTypes ty args) ho hc (fun ty consts args=>rfl) ?_;rw[hargs'];simp[hv,hv',Builtin.max_,Builtin.max2,e0A]
 ·refine h.pure1 hl (u := .int k (a2l p q)) rfl (w':=w) ?_ (a0p.refl w);refine a6n (b := .min) (s:=fun ty args=>Builtin.min_ c.argTypes ty args) ho hc (fun ty consts args=>rfl) ?_;rw[hargs'];simp[hv,hv',Builtin.min_,Builtin.min2,a2l]
theorem b0h (h:Pre P Γ β K get n w ρ a) {c:Call} {x y:Operand} {k:FloatKind} {p q:Nat} {out:Out} (ho:o.op = .call c) (hargs:c.args.toList=[x,y]) (hx:ρ x = .val (.one (.flt k p))) (hy:ρ y = .val (.one (.flt k q)))
 (hc:(c.callee = .builtin .max /\ a0v n true (.one (.flt k (b2F k p q)))=some out)∨(c.callee = .builtin .min /\ a0v n true (.one (.flt k (f4l k p q)))=some out)):a0m P o a w (a0Q β K get n w out):=by
 have hargs':c.args=#[x,y]:=by cases hq:c.args;simp_all
 obtain⟨p',hv,hp⟩:=h.one hx;obtain⟨q',hv',hq⟩:=h.one hy;rcases hc with⟨hc,hl⟩|⟨hc,hl⟩
 ·obtain⟨r,w',h1,h2,h3⟩:=d1l P k hp hq w;refine h.pure1 hl (u := .float k r) ⟨_,rfl,h3⟩ (w':=w') ?_ h2;refine a6n (b := .max) (s:=fun ty args=>Builtin.max_ c.argTypes ty args) ho hc (fun ty consts args=>rfl) ?_;rw[hargs',show(#[x,y].map a.eval)=#[Value.float k p',Value.float k q']by simp[hv,hv']];simp[Builtin.max_,h1]
 ·obtain⟨r,w',h1,h2,h3⟩:=d1m P k hp hq w;refine h.pure1 hl (u := .float k r) ⟨_,rfl,h3⟩ (w':=w') ?_ h2;refine a6n (b := .min) (s:=fun ty args=>Builtin.min_ c.argTypes ty args) ho hc (fun ty consts args=>rfl) ?_;rw[hargs',show(#[x,y].map a.eval)=#[Value.float k p',Value.float k q']by simp[hv,hv']];simp[Builtin.min_,h1]
end
theorem All2.ofMap {α γ:Type} {f:α→Option γ}:∀{as1:List α} {cs:List γ},a1v f as1=some cs→All2 (fun a c=>f a=some c) as1 cs
 |[],cs,h=>by simp only[a1v,injEq]at h;subst h;trivial
 | a::as1,cs,h=>by
   simp only[a1v]at h;split at h
   ·rename_i y hy;split at h
    ·rename_i hys;cases h;exact⟨hy,All2.ofMap hys⟩
    ·cases h
   ·cases h
theorem PR.ren {β β':Bt} {σ:Nat→Option Nat} (hσ:∀k k' h,σ k=some k'→β k=some h→β' k'=some h) {k k' off:Nat} {v:Value} (hk:σ k=some k') (h:PR β k off v):PR β' k' off v:=by
 obtain⟨y,b,h1,h2,h3⟩:=h;exact⟨y,b,hσ _ _ _ hk h1,h2,h3⟩
theorem b5L {β β':Bt} {K:Ks} {σ:Nat→Option Nat} (hσ:∀k k' h,σ k=some k'→β k=some h→β' k'=some h) {c c':C} {v:Value} (hc:c3o σ c=some c') (h:CR β K c v):CR β' K c' v:=by
 cases c with
 | ref t k =>
   simp only[c3o,Option.map_eq_some_iff]at hc;obtain⟨k',hk,rfl⟩:=hc;obtain⟨y,a,n,c,h1,h2⟩:=h;exact⟨y,a,n,c,hσ _ _ _ hk h1,h2⟩
 | ptr k o =>
   simp only[c3o,Option.map_eq_some_iff]at hc;obtain⟨k',hk,rfl⟩:=hc;exact PR.ren hσ hk h
 | eptr k t i o =>
   simp only[c3o,Option.map_eq_some_iff]at hc;obtain⟨k',hk,rfl⟩:=hc;obtain⟨y,b,n,c,h1,h2⟩:=h;exact⟨y,b,n,c,hσ _ _ _ hk h1,h2⟩
 | fn f caps =>
   simp only[c3o,Option.map_eq_some_iff]at hc;obtain⟨caps',hk,rfl⟩:=hc;obtain⟨cs,h1,h2⟩:=h;exact⟨cs,h1,a1c hk h2 fun k k' u _ hkk hu=>PR.ren hσ hkk hu⟩
 | aptr k o m j =>
   simp only[c3o,Option.map_eq_some_iff]at hc;obtain⟨k',hk,rfl⟩:=hc;exact⟨h.1,PR.ren hσ hk h.2⟩
 | aeptr k t i o m j =>
   simp only[c3o,Option.map_eq_some_iff]at hc;obtain⟨k',hk,rfl⟩:=hc;obtain⟨h0,y,b,n,c,h1,h2⟩:=h;exact⟨h0,y,b,n,c,hσ _ _ _ hk h1,h2⟩
 | asl t k o m =>
   simp only[c3o,Option.map_eq_some_iff]at hc;obtain⟨k',hk,rfl⟩:=hc;obtain⟨b,c,h1,h2⟩:=h;exact⟨b,c,PR.ren hσ hk h1,h2⟩
 |_=>simp only[c3o,injEq]at hc;subst hc;exact h
theorem a7f {β β':Bt} {K:Ks} {σ:Nat→Option Nat} (hσ:∀k k' h,σ k=some k'→β k=some h→β' k'=some h) {c c':W} {v:Value} (hc:b7O σ c=some c') (h:WR β K c v):WR β' K c' v:=by
 cases c with
 | one c =>
   simp only[b7O,Option.map_eq_some_iff]at hc;obtain⟨c',hk,rfl⟩:=hc;exact b5L hσ hk h
 | agg cs =>
   simp only[b7O,Option.map_eq_some_iff]at hc;obtain⟨cs',hk,rfl⟩:=hc;obtain⟨arr,e,h⟩:=h;exact⟨arr,e,a1c hk h fun c c' u _ hkk hu=>b5L hσ hkk hu⟩
theorem e0L {β β':Bt} {K:Ks} {σ:Nat→Option Nat} (hσ:∀k k' h,σ k=some k'→β k=some h→β' k'=some h) {c c':V} {v:Value} (hc:e5w σ c=some c') (h:VR β K c v):VR β' K c' v:=by
 cases c with
 | val c =>
   simp only[e5w,Option.map_eq_some_iff]at hc;obtain⟨c',hk,rfl⟩:=hc;exact a7f hσ hk h
 | tup cs =>
   simp only[e5w,Option.map_eq_some_iff]at hc;obtain⟨cs',hk,rfl⟩:=hc;obtain⟨arr,e,h⟩:=h;exact⟨arr,e,a1c hk h fun c c' u _ hkk hu=>a7f hσ hkk hu⟩
theorem a8A {β β':Bt} {K:Ks} {σ:Nat→Option Nat} {w:World} (hσ:∀k k' h,σ k=some k'→β k=some h→β' k'=some h) {b b':Blk} {y:Hd} (hc:b2D σ b=some b') (h:BR β K b y w):BR β' K b' y w:=by
 cases b with
 | box cs =>
   simp only[b2D,Option.map_eq_some_iff]at hc;obtain⟨cs',hk,rfl⟩:=hc;obtain⟨x,arr,T,e,hh,h⟩:=h;exact⟨x,arr,T,e,hh,a1c hk h fun c c' u _ hkk hu=>b5L hσ hkk hu⟩
 | arr t l =>
   simp only[b2D,injEq]at hc;subst hc;exact h
theorem a8f {β β':Bt} {K K':Ks} {f:W→Option W} {rs rs':List W} {v:Value} (hr:a1v f rs=some rs') (h:a7b β K rs v) (hf:∀c c' u,c∈rs→f c=some c'→WR β K c u→WR β' K' c' u):VR β' K' (d1h rs') v:=by
 have ha:=All2.ofMap hr;unfold a7b at h;cases rs with
 | nil=>cases rs' with
   | nil =>
     obtain⟨arr,e,h⟩:=h;refine⟨arr,e,?_⟩;cases hq:arr.toList with
     |nil=>trivial
     |cons _ _=>rw[hq]at h;exact h.elim
   |cons _ _=>exact ha.elim
 | cons x r =>
   cases rs' with
   |nil=>exact ha.elim
   | cons x' r' =>
     cases r with
     | nil=>cases r' with
       |nil=>exact hf x x' v (List.mem_cons_self ..) ha.1 h
       |cons _ _=>exact ha.2.elim
     | cons y r =>
       cases r' with
       |nil=>exact ha.2.elim
       | cons y' r' =>
         obtain⟨arr,e,h⟩:=h;exact⟨arr,e,a1c hr h fun c c' u hm hkk hu=>hf c c' u hm hkk hu⟩
theorem b1s {β β':Bt} {K:Ks} {σ:Nat→Option Nat} (hσ:∀k k' h,σ k=some k'→β k=some h→β' k'=some h) {rs rs':List W} {v:Value} (hr:a1v (b7O σ) rs=some rs') (h:a7b β K rs v):VR β' K (d1h rs') v:=
 a8f hr h fun c c' u _ hc hu=>a7f hσ hc hu
theorem c3T {β:Bt} {K K':Ks} {rs:List W} {v:Value} (h:a7b β K rs v) (hm:∀c∈rs,∀u,WR β K c u→WR β K' c u):a7b β K' rs v:=by
 unfold a7b at h ⊢;cases rs with
 | nil =>
   obtain⟨arr,e,h⟩:=h;refine⟨arr,e,?_⟩;cases hq:arr.toList with
   |nil=>trivial
   |cons _ _=>rw[hq]at h;exact h.elim
 | cons x r=>cases r with
   |nil=>exact hm x (List.mem_cons_self ..) v h
   | cons y r =>
     obtain⟨arr,e,h⟩:=h;exact⟨arr,e,All2.mono_mem (fun c u hc hu=>hm c hc u hu) h⟩
theorem b5M {β:Bt} {K K':Ks} {c:C} (hb:bare c=true) {v:Value} (h:CR β K c v):CR β K' c v:=by
 cases c<;>first|exact h|(simp[bare]at hb)
theorem e0M {β:Bt} {K K':Ks} {c:W} (hb:c.cells.all bare=true) {v:Value} (h:WR β K c v):WR β K' c v:=by
 cases c with
 |one c=>exact b5M (by simpa[W.cells]using hb) h
 | agg cs =>
   obtain⟨arr,e,h⟩:=h;exact⟨arr,e,All2.mono_mem (fun c u hc hu=>b5M (List.all_eq_true.1 hb c hc) hu) h⟩
theorem e0N {β:Bt} {K K':Ks} {b:Blk} (hb:c3w (some b)=true) {y:Hd} {w:World} (h:BR β K b y w):BR β K' b y w:=by
 cases b with
 | box cs =>
   obtain⟨x,arr,T,e,hh,h⟩:=h;exact⟨x,arr,T,e,hh,All2.mono_mem (fun c u hc hu=>b5M (List.all_eq_true.1 (by simpa[c3w]using hb) c hc) hu) h⟩
 | arr t l =>
   rcases h with h|⟨x,cap,cur,T,e,hh,h1,h2,h3,h4⟩
   ·exact .inl h
   ·exact .inr ⟨x,cap,cur,T,e,hh,h1,h2,h3,fun i hi=>DR.flat t (by simpa[c3w]using hb) (h4 i hi)⟩
theorem a0m.mono {P:Program} {o:Oper} {a:Act} {w:World} {post post':Value→World→Prop} (h:a0m P o a w post) (hp:∀v w',post v w'→post' v w'):a0m P o a w post':=fun next Q hn=>h next Q fun v w' hv=>hn v w' (hp v w' hv)
structure Fam where
 ι:Type
 inh:Nonempty ι
 mean:ι→a6e
 own:Bool
def DoesCall (P:Program) (f:Nat) (vs:Array Value) (w:World) (Q:Ending→World→Prop):Prop:=
 (e0F P f∧Calls P f vs w Q)∨∃v w',(callFunc f vs).run P w = .ok (.value v) w'∧Q (.returned v) w'
theorem DoesCall.mono {P:Program} {f:Nat} {vs:Array Value} {w:World} {Q Q':Ending→World→Prop} (h:DoesCall P f vs w Q) (hq:∀e w',Q e w'→Q' e w'):DoesCall P f vs w Q':=by
 rcases h with⟨h1,h2⟩|⟨v,w',h1,h2⟩
 ·exact .inl ⟨h1,h2.mono hq⟩
 ·exact .inr ⟨v,w',h1,hq _ _ h2⟩
structure a2i (P:Program) (f:Nat) (fam:Fam):Prop where
 own:∀z,(fam.mean z).own=fam.own
 mean:∀(args:List W) (ins:List Blk),(∀z,∃rs outs,(fam.mean z).run args ins=some (true,rs,outs)) →
  ∀(β0:Bt) (K0:Ks) (w0:World) (vs:Array Value),KOK K0 w0→MR β0 K0 (a1W ins) w0→(∀k,ins.length ≤ k→β0 k=none)→All2 (WR β0 K0) args vs.toList →
  DoesCall P f vs w0 fun e w'=>∃z rs outs v β K,(fam.mean z).run args ins=some (true,rs,outs)∧e = .returned v∧Ret ins outs rs β0 K0 w0 v w' β K
def g8X (sm:a6e):Fam:=⟨Unit,⟨()⟩,fun _=>sm,sm.own⟩
theorem c3U {P:Program} {f:Nat} {sm:a6e} (hm:c3C P f sm) (hf:e0F P f):a2i P f (g8X sm):=
 ⟨fun _=>rfl,fun args ins hr β0 K0 w0 vs h1 h2 h3 h4=>by
  obtain⟨rs,outs,hrun⟩:=hr ();exact .inl ⟨hf,(hm args ins rs outs hrun β0 K0 w0 vs h1 h2 h3 h4).mono fun e w' ⟨v,β,K,he,hR⟩=>⟨(),rs,outs,v,β,K,hrun,he,hR⟩⟩⟩
section
variable {P:Program} {Γ:Env} {β:Bt} {K:Ks} {get:Get} {n:Nat} {w:World} {ρ:Operand→V} {a:Act} {o:Oper}
theorem a0m.call {f:Nat} {vs:Array Value} {post:Value→World→Prop} (hx:(execOp a.eval o).run P w = .ok (.enter f vs) w) (hc:Calls P f vs w fun e w'=>∃v,e = .returned v∧post v w'):a0m P o a w post:=by
 intro next Q hn;simp only[Oper.wp,hx,Oper.upon];refine hc.mono fun e w' he=>?_
 obtain⟨v,rfl,hp⟩:=he;exact hn v w' hp
theorem b0i (h:Pre P Γ β K get n w ρ a) {c:Call} {f:Operand} {g:Nat} {caps:List Nat} {ws:List W} (ho:o.op = .call c) (hc:c.callee = .value f) (hf:ρ f = .val (.one (.fn g caps)))
 (hw:a5K (c.args.toList.map ρ)=some ws):∃vs:Array Value,(∀r,(callFunc g vs).run P w=r→(execOp a.eval o).run P w=r)∧All2 (WR β K) (ws++caps.map fun k => .one (.ptr k 0)) vs.toList:=by
 obtain⟨cs,hfv,hcs⟩:=h.one hf;refine⟨(c.args.map a.eval)++cs.toArray,?_,?_⟩
 ·intro r hr;rw[←hr];simp[execOp,ho,resolve,hc,hfv,Deferred.ofValue,invoke]
 ·rw [Array.toList_append];refine All2.append ?_ ?_
  ·have hl:All2 (fun(x:V) (u:Value)=>VR β K x u) (c.args.toList.map ρ) (c.args.map a.eval).toList:=by
    rw[Array.toList_map];generalize c.args.toList=l
    induction l with
    |nil=>trivial
    |cons x r ih=>exact⟨h.val x,ih⟩
   refine a1c hw hl fun x c u _ hx hu=>?_
   split at hx
   ·cases hx;exact hu
   ·cases hx
  ·simp only[];clear hf hfv
   induction caps generalizing cs with
   | nil=>cases cs with
     |nil=>trivial
     |cons _ _=>exact hcs.elim
   | cons k caps ih=>cases cs with
     |nil=>exact hcs.elim
     |cons u cs=>exact⟨hcs.1,ih cs hcs.2⟩
theorem a9Q {g:Nat} {vs:Array Value} (hfn:e0F P g) (w:World):(callFunc g vs).run P w = .ok (.enter g vs) w:=by
 obtain⟨fn,h1,h2,h3⟩:=hfn.body
 have hb:¬fn.body=none:=by intro e;rw[e]at h2;cases h2
 have h3':¬fn.name = "runtime.NumGoroutine" := by simpa using h3
 simp[callFunc,h1,h3',hb]
theorem b0j {g:Nat} {vs:Array Value} {post:Value→World→Prop} (hx:∀r,(callFunc g vs).run P w=r→(execOp a.eval o).run P w=r) (hc:DoesCall P g vs w fun e w'=>∃v,e = .returned v∧post v w'):a0m P o a w post:=by
 rcases hc with⟨h1,h2⟩|⟨v,w',h1,v',h2,h3⟩
 ·exact a0m.call (hx _ (a9Q h1 w)) h2
 ·cases h2;exact a0m.value (hx _ h1) h3
theorem b8d (hm:MR β K get w) {ks:List Nat} {c c':C} {v:Value} (hc:roC get c=some c') (hv:CR β K c v) (hk:∀k∈a0N c,k∈ks) (β0:Bt):CR β0 (a4P β K get w ks) c' v:=by
 have:=c3K hm hc hv hk;cases c with
 | ref t k =>
   simp only[roC]at hc;split at hc
   ·split at hc
    ·split at hc
     ·cases hc;exact this
     ·cases hc
    ·cases hc
   ·cases hc
 | fn f caps =>
   cases caps with
   | nil=>simp only[roC,injEq]at hc;subst hc;obtain⟨cs,e,h⟩:=this;cases cs with
     |nil=>exact⟨[],e,trivial⟩
     |cons _ _=>exact h.elim
   |cons k ks=>simp[roC]at hc
 |ptr k o=>simp[roC]at hc
 |eptr k t i o=>simp[roC]at hc
 |aptr k o m j=>simp[roC]at hc
 |aeptr k t i o m j=>simp[roC]at hc
 |arptr t l i o m j=>simp[roC]at hc
 | asl t k o m =>
   simp only[roC]at hc;split at hc
   ·split at hc
    ·cases hc;exact this
    ·cases hc
   ·cases hc
 |_=>simp only[roC,injEq]at hc;subst hc;exact this
theorem a5d (hm:MR β K get w) {ks:List Nat} {c c':W} {v:Value} (hc:roW get c=some c') (hv:WR β K c v) (hk:∀k∈a0L c,k∈ks) (β0:Bt):WR β0 (a4P β K get w ks) c' v:=by
 cases c with
 | one c =>
   simp only[roW,Option.map_eq_some_iff]at hc;obtain⟨c',hc,rfl⟩:=hc;exact b8d hm hc hv (fun k h=>hk k (by simpa[a0L,W.cells]using h)) β0
 | agg cs =>
   simp only[roW,Option.map_eq_some_iff]at hc;obtain⟨cs',hc,rfl⟩:=hc;obtain⟨arr,e,h⟩:=hv;exact⟨arr,e,a1c hc h fun c c' u hmem hcc hu=>b8d hm hcc hu (fun k hkk=>hk k (List.mem_flatMap.2 ⟨c,hmem,hkk⟩)) β0⟩
def a7W (β:Bt) (n:Nat) (β':Bt):Bt:=fun k=>if n ≤ k then β' (k-n)else β k
theorem b1t:∀(outs:List (Option Blk)) (n:Nat) (k:Nat),a1D (b5z [] outs n) k=if n ≤ k then(outs[k-n]?)else none
 |[],n,k=>by simp[b5z,a1D]
 | b :: r,n,k=>by
   simp only[b5z,a1D];split
   ·rename_i h;have:=a0g h;subst this;simp
   ·rename_i h;have hne:n≠k:=fun e=>by subst e;simp at h
    rw[b1t r (n+1) k];by_cases hk:n ≤ k
    ·rw[if_pos (by omega),if_pos hk];have:k-n=(k-(n+1))+1:=by omega
     rw[this];simp
    ·rw[if_neg (by omega),if_neg hk]
theorem a8B {outs:List (Option Blk)} {n:Nat} {get:Get} {k:Nat} {b:Blk} (h:a4O (b5z [] outs n) get k=some b) (hg:∀k,n ≤ k→get k=none) :
 (n ≤ k∧a2q outs (k-n)=some b)∨(k<n∧get k=some b):=by
 unfold a4O at h;rw[b1t]at h;by_cases hk:n ≤ k
 ·rw[if_pos hk]at h;left;refine⟨hk,?_⟩;unfold a2q;cases hq:outs[k-n]? with
  |none=>rw[hq]at h;dsimp only at h;rw[hg k hk]at h;cases h
  |some x=>rw[hq]at h;dsimp only at h;rw[h];rfl
 ·rw[if_neg hk]at h;exact .inr ⟨by omega,h⟩
theorem Pre.gnone (h:Pre P Γ β K get n w ρ a):∀k,n ≤ k→get k=none:=by
 intro k hk;cases hq:get k with
 |none=>rfl
 | some b =>
   obtain⟨y,hy,_⟩:=h.mr.blk k b hq;rw[h.fresh k hk]at hy;cases hy
theorem a3X {σ:Nat→Option Nat} {outs outs':List (Option Blk)} (h:a1v (a5J σ) outs=some outs') {i:Nat} {b:Blk} (hb:a2q outs' i=some b):∃b0,a2q outs i=some b0∧b2D σ b0=some b:=by
 have ha:=All2.ofMap h;unfold a2q at hb ⊢;cases hq:outs'[i]? with
 |none=>rw[hq]at hb;cases hb
 | some x =>
   rw[hq]at hb;have hx:x=some b:=hb;subst hx;obtain⟨y,hy,hr⟩:=ha.get?' hq;rw[hy];cases y with
   |none=>simp[a5J]at hr
   | some b0 =>
     refine⟨b0,rfl,?_⟩;simp only[a5J,Option.map_eq_some_iff,injEq]at hr;obtain⟨b1,h1,h2⟩:=hr;rw[h1,h2]
theorem a7g (h:Pre P Γ β K get n w ρ a) {c:Call} {f:Operand} {g:Nat} {caps:List Nat} {ws:List W} {fam:Fam} {frz:Bool} {out:fam.ι→Out} (ho:o.op = .call c) (hc:c.callee = .value f) (hf:ρ f = .val (.one (.fn g caps)))
 (hw:a5K (c.args.toList.map ρ)=some ws) (hfam:a2i P g fam) (hl:∀z,a6h (fam.mean z) frz get n (ws++caps.map fun k => .one (.ptr k 0))=some (out z)) (hok:∀z,(out z).ok=true):a0m P o a w (fun v w'=>∃z,a0Q β K get n w (out z) v w'):=by
 obtain⟨_,hmean⟩:=hfam;obtain⟨vs,hx,hvs⟩:=b0i h ho hc hf hw;generalize (ws++caps.map fun k=>W.one (C.ptr k 0))=args at hl hvs;simp only[a6h]at hl;obtain⟨z0⟩:=fam.inh;obtain⟨args',hargs⟩:∃args',a1v (roW get) args=some args':=by
  cases hq:a1v (roW get) args with
  |none=>have:=hl z0;rw[hq]at this;cases this
  |some x=>exact⟨x,rfl⟩
 have hrun:∀z,∃rs outs,(fam.mean z).run args' []=some (true,rs,outs):=by
  intro z;have h1:=hl z;rw[hargs]at h1;dsimp only at h1;split at h1
  case h_2=>cases h1
  rename_i ok rs outs hr;have hok':ok=true:=by
   have h3:=hok z;split at h1
   ·cases h1
   ·split at h1
    ·split at h1
     ·have h2:=Option.some.inj h1;rw[←h2]at h3;exact h3
     ·cases h1
    ·split at h1
     ·have h2:=Option.some.inj h1;rw[←h2]at h3;exact h3
     ·cases h1
  subst hok';exact⟨rs,outs,hr⟩
 refine b0j hx ?_;have hK1:=a4m (β:=β) (get:=get) (ks:=args.flatMap a0L) h.kok;have hargs':All2 (WR (fun _=>none) (a4P β K get w (args.flatMap a0L))) args' vs.toList:=
  a1c hargs hvs fun c c' u hmem hcc hu=>a5d h.mr hcc hu (fun k hk=>List.mem_flatMap.2 ⟨c,hmem,hk⟩) _
 have hM0:MR (fun _=>none) (a4P β K get w (args.flatMap a0L)) (a1W []) w:=⟨fun k b e=>by simp[a1W]at e,fun k k' b b' _ _ _ e=>by simp[a1W]at e,fun k b _ _ e=>by simp[a1W]at e⟩;refine(hmean args' [] hrun (fun _=>none) _ w vs hK1 hM0 (fun _ _=>rfl) hargs').mono ?_;rintro e w' ⟨z,rs,outs,v,β',K',hrz,rfl,hR⟩;refine⟨v,rfl,z,?_⟩;have hl:=hl z;generalize out z=out at hl;rw[hargs]at hl;dsimp only at hl;rw[hrz]at hl;dsimp only at hl;have hempty:∀x,¬Own (fun _=>none) (a1W []) x:=by rintro x ⟨k,b,y,e,_⟩;simp[a1W]at e
 have hheap:∀b,b<w.heap.size→¬Jk K b→w'.heap[b]?=w.heap[b]?:=fun b hb hj=>hR.fr.block b hb fun h1=>h1.elim (hempty b) fun h2=>hj (c3I.1 h2)
 have hownb:∀x,Own β' (a2q outs) x→w.heap.size ≤ x:=fun x hx=>(hR.own x hx).resolve_left (hempty x)
 have hgn:=h.gnone;have hfr:Fr (e0E β K get) w w':=⟨hR.fr.os,hR.fr.tape,hR.fr.output,hR.fr.size,fun b hb hn=>hheap b hb fun h1=>hn (.inr h1)⟩;have main:∀(K2:Ks),(∀b x,w.heap.size ≤ b→K2 b=some x→∃cur T fz,w'.heap[b]?=some (.cells cur T fz)∧(x.1=false→cur=x.2)∧(x.1=true→fz=(0,0)∧All2 VJ x.2.toList cur.toList)) →
  ∃K3:Ks,KLe K K3∧KOK K3 w'∧(∀x,x<w.heap.size→K3 x=K x)∧(∀x,w.heap.size ≤ x→K3 x=K2 x):=by
  intro K2 h2;refine⟨fun b=>if w.heap.size ≤ b then K2 b else K b,?_,?_,fun x hx=>?_,fun x hx=>?_⟩
  ·intro b arr e;have:=h.kok.lt e;dsimp only;rw[if_neg (by omega)];exact e
  ·refine⟨?_,h.kok.gk.mono fun b arr e=>?_⟩
   ·intro b arr e
    try dsimp only at e
    split at e
    ·exact h2 b arr ‹_› e
    ·exact hR.kok.ato b arr (hR.kle b arr (a0K b arr e))
   ·have:=h.kok.lt e
    try dsimp only
    rw[if_neg (by omega)];exact e
  ·dsimp only;rw[if_neg (by omega)]
  ·dsimp only;rw[if_pos hx]
 have noref:(args.all fun w=>w.cells.all fun c=>!c3v c)=true→a4P β K get w (args.flatMap a0L)=K:=by
  intro hn;have hk:args.flatMap a0L=[]:=by
   rw[List.flatMap_eq_nil_iff];intro u hu;have hu2:=List.all_eq_true.1 hn u hu;obtain⟨u',hu',hro⟩:∃u',u'∈args'∧roW get u=some u':=by
    obtain⟨i,hi,he⟩:=List.mem_iff_getElem.1 hu;obtain⟨u',h1,h2⟩:=(All2.ofMap hargs).get? (List.getElem?_eq_getElem hi);rw[he]at h2;exact⟨u',List.mem_of_getElem? h1,h2⟩
   unfold a0L;rw[List.flatMap_eq_nil_iff];intro cc hcc;have h3:=List.all_eq_true.1 hu2 cc hcc;have h4:∃c',roC get cc=some c':=by
    cases u with
    | one c0 =>
      simp only[W.cells,List.mem_singleton]at hcc;subst hcc;simp only[roW,Option.map_eq_some_iff]at hro;exact⟨hro.choose,hro.choose_spec.1⟩
    | agg cs =>
      simp only[roW,Option.map_eq_some_iff]at hro;obtain⟨cs',h5,_⟩:=hro;obtain⟨i,hi,he⟩:=List.mem_iff_getElem.1 (show cc∈cs from hcc);obtain⟨c',_,h6⟩:=(All2.ofMap h5).get? (List.getElem?_eq_getElem hi);rw[he]at h6;exact⟨c',h6⟩
   obtain⟨c',h4⟩:=h4;cases cc with
   |ref t k=>simp[c3v]at h3
   |ptr k o=>simp[roC]at h4
   |eptr k t i o=>simp[roC]at h4
   |aptr k o m j=>simp[roC]at h4
   |aeptr k t i o m j=>simp[roC]at h4
   |arptr t l i o m j=>simp[roC]at h4
   |asl t k o m=>simp[c3v]at h3
   | fn f caps=>cases caps with
     |nil=>rfl
     |cons _ _=>simp[roC]at h4
   |_=>rfl
  rw[hk];funext b;unfold a4P;cases hq:K b with
  |some _=>rfl
  | none =>
    dsimp only;rw[if_neg];rintro⟨k,hk,_⟩;simp at hk
 split at hl
 ·cases hl
 ·rename_i hcond;split at hl
  ·
   split at hl
   ·rename_i rs' hrs';cases hl;have hnr:(args.all fun w=>w.cells.all fun c=>!c3v c)=true:=by simpa using hcond
    have hKe:=noref hnr;obtain⟨K3,hle3,hok3,hlo,hhi⟩:=main (a4P β' K' (a2q outs) w' (rs.flatMap a0L)) (fun b arr _ e=>(a4m hR.kok).ato b arr e);have hle:KLe (a4P β' K' (a2q outs) w' (rs.flatMap a0L)) K3:=by
     intro b arr e;by_cases hb:w.heap.size ≤ b
     ·rw[hhi b hb];exact e
     ·rw[hlo b (by omega)];unfold a4P at e;split at e
      ·rename_i x hx;cases e;rcases hR.knew b _ hx with h1|h1|h1
       ·rw[hKe]at h1;exact h1
       ·exact absurd h1 (hempty b)
       ·omega
      ·split at e
       ·rename_i hex;obtain⟨k,_,c,y,h1,h2,h3⟩:=hex;have:=hownb b ⟨k,c,y,h1,h2,h3⟩;omega
       ·cases e
    refine⟨β,K3,BLe.refl β,hle3,hok3,?_,?_,h.fresh,le_refl _,hfr,fun x hx => .inl hx,(fun b arr e=>by
     by_cases hb:w.heap.size ≤ b
     ·exact .inr (.inr hb)
     ·rw[hlo b (by omega)]at e;exact .inl e),fun _ _=>rfl⟩
    ·refine a8f hrs' hR.out fun c c' u hm hcc hu=>?_
     exact WR.mono (BLe.refl β) hle (a5d hR.mr hcc hu (fun k hk=>List.mem_flatMap.2 ⟨c,hm,hk⟩) β)
    ·refine h.mr.step (BLe.refl β) hle3 fun k b e => .inl ⟨e,fun x y f g=>?_⟩
     have hx:=h.mr.lt ⟨k,b,y,e,f,g⟩;exact⟨hheap x hx (h.mr.nj e f g),by rw[hlo x hx];exact h.mr.ro k b y x e f g⟩
   ·cases hl
  ·split at hl
   ·rename_i rs' outs' hrs' houts';cases hl;obtain⟨K3,hle3,hok3,hlo,hhi⟩:=main K' (fun b arr _ e=>hR.kok.ato b arr e);have hcase:KLe K' K3∨((∀c∈rs,c.cells.all bare=true)∧∀b∈outs,c3w b=true):=by
     simp only[Bool.or_eq_true,and_eq_true]at hcond;rcases hcond with hnr|⟨⟨_,h1⟩,h2⟩
     ·left;have hKe:=noref hnr;intro b arr e;by_cases hb:w.heap.size ≤ b
      ·rw[hhi b hb];exact e
      ·rw[hlo b (by omega)];rcases hR.knew b arr e with h1|h1|h1
       ·rw[hKe]at h1;exact h1
       ·exact absurd h1 (hempty b)
       ·omega
     ·exact .inr ⟨List.all_eq_true.1 h1,List.all_eq_true.1 h2⟩
    have hout:a7b β' K3 rs v:=c3T hR.out fun c hc u hu=>by
     rcases hcase with hle|⟨h1,_⟩
     ·exact WR.mono (BLe.refl _) hle hu
     ·exact e0M (h1 c hc) hu
    have hblk:∀i b y,a2q outs i=some b→BR β' K' b y w'→BR β' K3 b y w':=by
     intro i b y hi hb;rcases hcase with hle|⟨_,h2⟩
     ·exact hb.mono (BLe.refl _) hle
     ·refine e0N (h2 _ ?_) hb;unfold a2q at hi;cases hq:outs[i]? with
      |none=>rw[hq]at hi;cases hi
      |some x=>rw[hq]at hi;have hx:x=some b:=hi;subst hx;exact List.mem_of_getElem? hq
    have hσ:∀k k' y,(fun i=>some (n+i)) k=some k'→β' k=some y→a7W β n β' k'=some y:=by
     intro k k' y e hy;cases e;unfold a7W;rw[if_pos (by omega),Nat.add_sub_cancel_left];exact hy
    have hble:BLe β (a7W β n β'):=by
     intro k y e;unfold a7W;rw[if_neg]
     ·exact e
     ·intro hk;rw[h.fresh k hk]at e;cases e
    refine⟨a7W β n β',K3,hble,hle3,hok3,b1s hσ hrs' hout,?_,?_,by simp,hfr,?_,(fun b arr e=>by
     by_cases hb:w.heap.size ≤ b
     ·exact .inr (.inr hb)
     ·rw[hlo b (by omega)]at e;exact .inl e),fun k hk=>by unfold a7W;rw[if_neg (by omega)]⟩
    ·refine h.mr.step hble hle3 ?_;intro k b e;rcases a8B e hgn with⟨hk,e1⟩|⟨hk,e1⟩
     ·right;obtain⟨b0,e2,e3⟩:=a3X houts' e1;obtain⟨y,hy,hbr⟩:=hR.mr.blk _ _ e2;refine⟨y,by unfold a7W;rw[if_pos hk];exact hy,a8A hσ e3 (hblk _ _ _ e2 hbr),fun x hx=>?_⟩;have hxs:=hownb x ⟨_,b0,y,e2,hy,hx⟩;refine⟨by rw[hhi x hxs];exact hR.mr.ro _ _ _ _ e2 hy hx,fun k' b' y' e' f' g'=>?_⟩;rcases a8B e' hgn with⟨hk',e1'⟩|⟨hk',e1'⟩
      ·obtain⟨b0',e2',_⟩:=a3X houts' e1';unfold a7W at f';rw[if_pos hk']at f';have:=hR.mr.sep _ _ _ _ _ _ x e2' e2 f' hy g' hx;omega
      ·unfold a7W at f';rw[if_neg (by omega)]at f';have:=h.mr.lt ⟨k',b',y',e1',f',g'⟩;omega
     ·refine .inl ⟨e1,fun x y f g=>?_⟩;have hx:=h.mr.lt ⟨k,b,y,e1,f,g⟩;exact⟨hheap x hx (h.mr.nj e1 f g),by rw[hlo x hx];exact h.mr.ro k b y x e1 f g⟩
    ·intro k hk;dsimp only at hk;unfold a7W;rw[if_pos (by omega)];exact hR.fresh _ (by omega)
    ·rintro x ⟨k,b,y,e,f,g⟩;rcases a8B e hgn with⟨hk,e1⟩|⟨hk,e1⟩
     ·right;obtain⟨b0,e2,e3⟩:=a3X houts' e1;unfold a7W at f;rw[if_pos hk]at f;exact hownb x ⟨_,b0,y,e2,f,g⟩
     ·left;unfold a7W at f;rw[if_neg (by omega)]at f;exact⟨k,b,y,e1,f,g⟩
   ·cases hl
theorem c3V (h:Pre P Γ β K get n w ρ a) {c:Call} {f:Operand} {g:Nat} {caps:List Nat} {ws:List W} {sm:a6e} {frz:Bool} {out:Out} (ho:o.op = .call c) (hc:c.callee = .value f) (hf:ρ f = .val (.one (.fn g caps)))
 (hw:a5K (c.args.toList.map ρ)=some ws) (hsm:Γ.sem g=some sm) (hl:a6h sm frz get n (ws++caps.map fun k => .one (.ptr k 0))=some out) (hok:out.ok=true):a0m P o a w (a0Q β K get n w out):=by
 obtain⟨hmean,hfn⟩:=h.env.sem g sm hsm;exact(a7g h ho hc hf hw (c3U hmean hfn) (out:=fun _=>out) (fun _=>hl) (fun _=>hok)).mono fun v w' ⟨_,h⟩=>h
end
theorem a2u (get:Get):∀(f:Nat) (todo acc:List Nat),acc.Nodup→(a2E get f todo acc).Nodup
 |0,_,acc,h=>by simpa[a2E]using h
 |f+1,[],acc,h=>by simpa[a2E]using h
 | f + 1,k::todo,acc,h=>by
   unfold a2E;split
   ·exact a2u get f todo acc h
   ·rename_i hk;have hn:(acc++[k]).Nodup:=by
     rw[List.nodup_append];refine⟨h,by simp,?_⟩;intro a ha b hb;simp only[List.mem_singleton]at hb;subst hb;intro e;subst e;exact a3V hk ha
    split
    ·exact a2u get f _ _ hn
    ·exact a2u get f _ _ hn
theorem a5N:∀{ks:List Nat} {k i j:Nat},a2F ks k i=some j→∃p,j=i+p∧ks[p]?=some k
 |[],_,_,_,h=>by simp[a2F]at h
 | x::r,k,i,j,h=>by
   unfold a2F at h;split at h
   ·rename_i hx;have:=a0g hx;cases h;exact⟨0,rfl,by simp[this]⟩
   ·obtain⟨p,h1,h2⟩:=a5N h;exact⟨p+1,by omega,by simpa using h2⟩
theorem b1u:∀{ks:List Nat} {n p k:Nat},ks[p]?=some k→a6g ks n p=k
 |[],_,_,_,h=>by simp at h
 |x::r,n,0,k,h=>by simpa[a6g]using h
 |x::r,n,p+1,k,h=>by simp only[a6g];exact b1u (by simpa using h)
theorem b8e:∀{ks:List Nat} {n p:Nat},ks.length ≤ p→a6g ks n p=n+(p-ks.length)
 |[],n,p,_=>by simp[a6g]
 |x::r,n,0,h=>by simp at h
 | x::r,n,p+1,h=>by
   simp only[a6g];rw[b8e (by simpa using h)];simp
theorem b2U:∀{ks:List Nat} {outs:List (Option Blk)} {n k:Nat},ks.length ≤ outs.length→(∀x∈ks,x<n)→ks.Nodup →
 (∀(p:Nat),ks[p]?=some k→a1D (b5z ks outs n) k=outs[p]?)∧(k ∉ ks→a1D (b5z ks outs n) k=if n ≤ k then outs[ks.length+(k-n)]? else none)
 | [],outs,n,k,_,_,_=>by
   refine⟨fun p h=>by simp at h,fun _=>?_⟩;rw[b1t];simp
 |x::r,[],n,k,h,_,_=>by simp at h
 | x :: r,b::outs,n,k,h,hlt,hnd=>by
   obtain⟨ih1,ih2⟩:=b2U (ks:=r) (outs:=outs) (n:=n) (k:=k) (by simpa using h) (fun y hy=>hlt y (List.mem_cons_of_mem _ hy)) (List.nodup_cons.1 hnd).2;have hx:=hlt x (List.mem_cons_self ..);refine⟨fun p hp=>?_,fun hk=>?_⟩
   ·cases p with
    | zero =>
      simp only[List.getElem?_cons_zero,injEq]at hp;subst hp;simp[b5z,a1D]
    | succ p =>
      simp only[List.getElem?_cons_succ]at hp;have hne:x≠k:=fun e=>by
       subst e;exact(List.nodup_cons.1 hnd).1 (List.mem_of_getElem? hp)
      simp only[b5z,a1D,a1A hne,List.getElem?_cons_succ];exact ih1 p hp
   ·have hne:x≠k:=fun e=>hk (by subst e;exact List.mem_cons_self ..)
    simp only[b5z,a1D,a1A hne];rw[ih2 fun hm=>hk (List.mem_cons_of_mem _ hm)];split
    ·have:(x::r).length+(k-n)=(r.length+(k-n))+1:=by simp;omega
     rw[this];simp
    ·rfl
section
variable {P:Program} {Γ:Env} {β:Bt} {K:Ks} {get:Get} {n:Nat} {w:World} {ρ:Operand→V} {a:Act} {o:Oper}
theorem a5O (h:Pre P Γ β K get n w ρ a) {c:Call} {f:Operand} {g:Nat} {caps:List Nat} {ws:List W} {fam:Fam} {out:fam.ι→Out} (ho:o.op = .call c) (hc:c.callee = .value f) (hf:ρ f = .val (.one (.fn g caps)))
 (hw:a5K (c.args.toList.map ρ)=some ws) (hfam:a2i P g fam) (hl:∀z,a4j (fam.mean z) get n (ws++caps.map fun k => .one (.ptr k 0))=some (out z)) (hok:∀z,(out z).ok=true):a0m P o a w (fun v w'=>∃z,a0Q β K get n w (out z) v w'):=by
 obtain⟨_,hmean⟩:=hfam;obtain⟨vs,hx,hvs⟩:=b0i h ho hc hf hw;generalize (ws++caps.map fun k=>W.one (C.ptr k 0))=args at hl hvs;simp only[a4j]at hl;generalize hks:a2E get a1L (args.flatMap a0L) []=ks at hl;have hnd:ks.Nodup:=by rw[←hks];exact a2u _ _ _ _ (by simp)
 obtain⟨z0⟩:=fam.inh;obtain⟨args',hargs⟩:∃args',a1v (b7O fun k=>a2F ks k 0) args=some args':=by
  cases hq:a1v (b7O fun k=>a2F ks k 0) args with
  |none=>have:=hl z0;rw[hq]at this;cases this
  |some x=>exact⟨x,rfl⟩
 obtain⟨ins,hins⟩:∃ins,a1v (fun k=>(get k).bind (b2D fun k=>a2F ks k 0)) ks=some ins:=by
  cases hq:a1v (fun k=>(get k).bind (b2D fun k=>a2F ks k 0)) ks with
  |none=>have:=hl z0;rw[hargs,hq]at this;cases this
  |some x=>exact⟨x,rfl⟩
 have hl:∀z,∃rs outs rs' outs',(fam.mean z).run args' ins=some (true,rs,outs)∧Nat.ble ks.length outs.length=true∧a1v (b7O fun i=>some (a6g ks n i)) rs=some rs'∧a1v (a5J fun i=>some (a6g ks n i)) outs=some outs' ∧
  out z=⟨true,d1h rs',b5z ks outs' n,n+(outs.length-ks.length)⟩:=by
  intro z;have h1:=hl z;rw[hargs,hins]at h1;dsimp only at h1;split at h1
  case h_2=>cases h1
  rename_i ok rs outs hrun;split at h1
  case h_2=>cases h1
  rename_i rs' outs' hlen hrs' houts';have h2:=Option.some.inj h1;have h3:=hok z;rw[←h2]at h3;dsimp only at h3;subst h3;exact⟨rs,outs,rs',outs',hrun,hlen,hrs',houts',h2.symm⟩
 have hinl:ins.length=ks.length:=a2t hins;have hin:∀p b,a1W ins p=some b→∃k b0 y,ks[p]?=some k∧get k=some b0∧b2D (fun k=>a2F ks k 0) b0=some b∧β k=some y∧BR β K b0 y w:=by
  intro p b e;obtain⟨k,hk,hb⟩:=(All2.ofMap hins).get?' e;cases hg:get k with
  |none=>rw[hg]at hb;cases hb
  | some b0 =>
    rw[hg]at hb;obtain⟨y,hy,hbr⟩:=h.mr.blk k b0 hg;exact⟨k,b0,y,hk,hg,hb,hy,hbr⟩
 have hksome:∀(p k:Nat),ks[p]?=some k→∃b0 y,get k=some b0∧β k=some y:=by
  intro p k hk;obtain⟨b,_,hb⟩:=(All2.ofMap hins).get? hk;cases hg:get k with
  |none=>rw[hg]at hb;cases hb
  | some b0 =>
    obtain⟨y,hy,_⟩:=h.mr.blk k b0 hg;exact⟨b0,y,rfl,hy⟩
 have hklt:∀x∈ks,x<n:=by
  intro x hx;obtain⟨p,hp,he⟩:=List.mem_iff_getElem.1 hx;obtain⟨b0,y,_,hy⟩:=hksome p x (by rw[List.getElem?_eq_getElem hp,he]);rcases Nat.lt_or_ge x n with h1|h1
  ·exact h1
  ·rw[h.fresh x h1]at hy;cases hy
 have hσ0:∀k k' y,(fun k=>a2F ks k 0) k=some k'→β k=some y→(fun i=>(ks[i]?).bind β) k'=some y:=by
  intro k k' y e hy;obtain⟨p,hp,hk⟩:=a5N e;have:k'=p:=by omega
  subst this;dsimp only;rw[hk];exact hy
 have hM0:MR (fun i=>(ks[i]?).bind β) K (a1W ins) w:=by
  refine⟨fun p b e=>?_,fun p p' b b' y y' x e e' f f' g g'=>?_,fun p b y x e f g=>?_⟩
  ·obtain⟨k,b0,y,hk,hg,hb,hy,hbr⟩:=hin p b e;exact⟨y,by show(ks[p]?).bind β=some y;rw[hk];exact hy,a8A hσ0 hb hbr⟩
  ·obtain⟨k,b0,z,hk,hg,hb,hy,hbr⟩:=hin p b e;obtain⟨k',b0',z',hk',hg',hb',hy',hbr'⟩:=hin p' b' e'
   try dsimp only at f f'
   rw[hk]at f;rw[hk']at f';have hkk:=h.mr.sep k k' b0 b0' y y' x hg hg' f f' g g';subst hkk;exact(List.getElem?_inj (List.getElem?_eq_some_iff.1 hk).1 hnd).1 (hk.trans hk'.symm)
  ·obtain⟨k,b0,z,hk,hg,hb,hy,hbr⟩:=hin p b e
   try dsimp only at f
   rw[hk]at f;exact h.mr.ro k b0 y x hg f g
 have hargs':All2 (WR (fun i=>(ks[i]?).bind β) K) args' vs.toList:=a1c hargs hvs fun c c' u _ hcc hu=>a7f hσ0 hcc hu
 refine b0j hx ?_;refine(hmean args' ins (fun z=>by obtain⟨rs,outs,_,_,h1,_⟩:=hl z;exact⟨rs,outs,h1⟩) _ K w vs h.kok hM0 (fun k hk=>by rw[List.getElem?_eq_none (by omega)];rfl) hargs').mono ?_;rintro e w' ⟨z,rs,outs,v,β',K',hrz,rfl,hR⟩;refine⟨v,rfl,z,?_⟩;obtain⟨rs2,outs2,rs',outs',hrun,hlen,hrs',houts',hout⟩:=hl z;rw[hrz]at hrun;cases hrun;rw[hout];have hlen:ks.length ≤ outs.length:=by simpa using hlen
 have hown:∀x,Own (fun i=>(ks[i]?).bind β) (a1W ins) x→∃(p k:Nat) (b0:Blk) (y:Hd),ks[p]?=some k∧get k=some b0∧β k=some y∧y.b=some x:=by
  rintro x ⟨p,b,y,e,f,g⟩;obtain⟨k,b0,z,hk,hg,hb,hy,hbr⟩:=hin p b e
  try dsimp only at f
  rw[hk]at f;exact⟨p,k,b0,y,hk,hg,f,g⟩
 have hold:∀k b y x,get k=some b→β k=some y→y.b=some x→k ∉ ks→¬Own (fun i=>(ks[i]?).bind β) (a1W ins) x:=by
  intro k b y x e f g hk ho';obtain⟨p,k',b0,y',h1,h2,h3,h4⟩:=hown x ho';have:=h.mr.sep k k' b b0 y y' x e h2 f h3 g h4;subst this;exact hk (List.mem_of_getElem? h1)
 have hgn:=h.gnone;have hβ'':∀k,k<n→(fun k=>if n ≤ k then β' (ks.length+(k-n))else β k) k=β k:=fun k hk=>by dsimp only;rw[if_neg (by omega)]
 have hβn:∀k,n ≤ k→(fun k=>if n ≤ k then β' (ks.length+(k-n))else β k) k=β' (ks.length+(k-n)):=fun k hk=>by dsimp only;rw[if_pos hk]
 generalize hβe:(fun k=>if n ≤ k then β' (ks.length+(k-n))else β k)=β'' at hβ'' hβn;have hble:BLe β β'':=by
  intro k y e;rw[hβ'' k]
  ·exact e
  ·rcases Nat.lt_or_ge k n with h1|h1
   ·exact h1
   ·rw[h.fresh k h1]at e;cases e
 have hσ:∀k k' y,(fun i=>some (a6g ks n i)) k=some k'→β' k=some y→β'' k'=some y:=by
  intro k k' y e hy;cases e;rcases Nat.lt_or_ge k ks.length with h1|h1
  ·have hk:=List.getElem?_eq_getElem h1;rw[b1u hk];obtain⟨b0,z,h2,h3⟩:=hksome k _ hk;have h4:=hR.ble k z (by show(ks[k]?).bind β=some z;rw[hk];exact h3);rw[hy]at h4;cases h4;rw[hβ'' _ (hklt _ (List.mem_of_getElem? hk))];exact h3
  ·rw[b8e h1,hβn _ (by omega)];have:ks.length+(n+(k-ks.length)-n)=k:=by omega
   rw[this];exact hy
 have hcase:∀k b,a4O (b5z ks outs' n) get k=some b→(∃(p:Nat) (b0:Blk),((∃hp:ks[p]?=some k,True)∨(n ≤ k∧p=ks.length+(k-n)))∧a2q outs p=some b0∧b2D (fun i=>some (a6g ks n i)) b0=some b∧β'' k=β' p)∨(k ∉ ks∧k<n∧get k=some b):=by
  intro k b e;have hll:ks.length ≤ outs'.length:=by rw[a2t houts'];exact hlen
  obtain⟨hl1,hl2⟩:=b2U (ks:=ks) (outs:=outs') (n:=n) (k:=k) hll hklt hnd;by_cases hk:k∈ks
  ·obtain⟨p,hp,he⟩:=List.mem_iff_getElem.1 hk;have hpk:ks[p]?=some k:=by rw[List.getElem?_eq_getElem hp,he]
   have h1:=hl1 p hpk;unfold a4O at e;rw[h1]at e;have hpo:p<outs'.length:=by omega
   rw[List.getElem?_eq_getElem hpo]at e;have hgo:a2q outs' p=some b:=by unfold a2q;rw[List.getElem?_eq_getElem hpo];exact e
   obtain⟨b0,h3,h4⟩:=a3X houts' hgo;left;refine⟨p,b0,.inl ⟨hpk,trivial⟩,h3,h4,?_⟩;obtain⟨y,hy,_⟩:=hR.mr.blk p b0 h3;rw[hy];exact hσ p k y (by show some (a6g ks n p)=some k;rw[b1u hpk]) hy
  ·have h1:=hl2 hk;unfold a4O at e;rw[h1]at e;by_cases hkn:n ≤ k
   ·rw[if_pos hkn]at e;left;cases hq:outs'[ks.length+(k-n)]? with
    |none=>rw[hq]at e;dsimp only at e;rw[hgn k hkn]at e;cases e
    | some x =>
      rw[hq]at e;dsimp only at e;subst e;have hgo:a2q outs' (ks.length+(k-n))=some b:=by unfold a2q;rw[hq];rfl
      obtain⟨b0,h3,h4⟩:=a3X houts' hgo;exact⟨_,b0,.inr ⟨hkn,rfl⟩,h3,h4,hβn k hkn⟩
   ·rw[if_neg hkn]at e;exact .inr ⟨hk,by omega,e⟩
 have hsame:∀(k k' p:Nat),((∃hp:ks[p]?=some k,True)∨(n ≤ k∧p=ks.length+(k-n)))→((∃hp:ks[p]?=some k',True)∨(n ≤ k'∧p=ks.length+(k'-n)))→k=k':=by
  intro k k' p h1 h2;rcases h1 with⟨h1,_⟩|⟨h1,h3⟩<;>rcases h2 with⟨h2,_⟩|⟨h2,h4⟩
  ·rw[h1]at h2;cases h2;rfl
  ·have:=(List.getElem?_eq_some_iff.1 h1).1;omega
  ·have:=(List.getElem?_eq_some_iff.1 h2).1;omega
  ·omega
 refine⟨β'',K',hble,hR.kle,hR.kok,b1s hσ hrs' hR.out,?_,?_,by dsimp only;omega,?_,?_,(fun b arr e=>by
  rcases hR.knew b arr e with h1|h1|h1
  ·exact .inl h1
  ·obtain⟨p,k,b0,y,_,h2,h3,h4⟩:=hown b h1;exact .inr (.inl ⟨k,b0,y,h2,h3,h4⟩)
  ·exact .inr (.inr h1)),hβ''⟩
 ·refine h.mr.step hble hR.kle ?_;intro k b e;rcases hcase k b e with⟨p,b0,hp,h1,h2,h3⟩|⟨hk,hkn,e1⟩
  ·right;obtain⟨y,hy,hbr⟩:=hR.mr.blk p b0 h1;refine⟨y,by rw[h3];exact hy,a8A hσ h2 hbr,fun x hx=>⟨hR.mr.ro p b0 y x h1 hy hx,fun k' b' y' e' f' g'=>?_⟩⟩;rcases hcase k' b' e' with⟨p',b0',hp',h1',h2',h3'⟩|⟨hk',hkn',e1'⟩
   ·rw[h3']at f';have:=hR.mr.sep p' p b0' b0 y' y x h1' h1 f' hy g' hx;subst this;exact hsame k' k p' hp' hp
   ·rw[hβ'' k' hkn']at f';exfalso;rcases hR.own x ⟨p,b0,y,h1,hy,hx⟩with h5|h5
    ·exact hold k' b' y' x e1' f' g' hk' h5
    ·have:=h.mr.lt ⟨k',b',y',e1',f',g'⟩;omega
  ·refine .inl ⟨e1,fun x y f g=>?_⟩;have hx:=h.mr.lt ⟨k,b,y,e1,f,g⟩;have hno:=hold k b y x e1 f g hk;have hnj:¬Jk K x:=h.mr.nj e1 f g;refine⟨hR.fr.block x hx fun h1=>h1.elim hno hnj,?_⟩;cases hq:K' x with
   |none=>rfl
   | some arr =>
     rcases hR.knew x arr hq with h1|h1|h1
     ·rw[h.mr.ro k b y x e1 f g]at h1;cases h1
     ·exact absurd h1 hno
     ·omega
 ·intro k hk;dsimp only at hk;rw[hβn k (by omega)];exact hR.fresh _ (by omega)
 ·refine⟨hR.fr.os,hR.fr.tape,hR.fr.output,hR.fr.size,fun x hx hn=>hR.fr.block x hx fun h1=>hn (h1.elim (fun h1 => .inl ?_) .inr)⟩;obtain⟨p,k,b0,y,_,h2,h3,h4⟩:=hown x h1;exact⟨k,b0,y,h2,h3,h4⟩
 ·rintro x ⟨k,b,y,e,f,g⟩;rcases hcase k b e with⟨p,b0,hp,h1,h2,h3⟩|⟨hk,hkn,e1⟩
  ·rw[h3]at f;rcases hR.own x ⟨p,b0,y,h1,f,g⟩with h5|h5
   ·obtain⟨_,k',b0',y',_,h2,h3,h4⟩:=hown x h5;exact .inl ⟨k',b0',y',h2,h3,h4⟩
   ·exact .inr h5
  ·rw[hβ'' k hkn]at f;exact .inl ⟨k,b,y,e1,f,g⟩
theorem c1M (h:Pre P Γ β K get n w ρ a) {c:Call} {f:Operand} {g:Nat} {caps:List Nat} {ws:List W} {sm:a6e} {out:Out} (ho:o.op = .call c) (hc:c.callee = .value f) (hf:ρ f = .val (.one (.fn g caps)))
 (hw:a5K (c.args.toList.map ρ)=some ws) (hsm:Γ.sem g=some sm) (hl:a4j sm get n (ws++caps.map fun k => .one (.ptr k 0))=some out) (hok:out.ok=true):a0m P o a w (a0Q β K get n w out):=by
 obtain⟨hmean,hfn⟩:=h.env.sem g sm hsm;exact(a5O h ho hc hf hw (c3U hmean hfn) (out:=fun _=>out) (fun _=>hl) (fun _=>hok)).mono fun v w' ⟨_,h⟩=>h
end
section
variable {P:Program} {Γ:Env} {β:Bt} {K:Ks} {get:Get} {n:Nat} {w:World} {ρ:Operand->V} {a:Act} {o:Oper}
theorem e0O {c:Call} {v:V} (h:c.args.toList.map ρ=[v]):∃x,c.args.toList=[x] /\ ρ x=v:=by
 cases hq:c.args.toList with
 |nil=>rw[hq]at h;simp at h
 | cons x r=>cases r with
   |nil=>rw[hq]at h;exact⟨x,rfl,by simpa using h⟩
   |cons _ _=>rw[hq]at h;simp at h
theorem c1N {c:Call} {v u:V} (h:c.args.toList.map ρ=[v,u]):∃x y,c.args.toList=[x,y] /\ ρ x=v /\ ρ y=u:=by
 cases hq:c.args.toList with
 |nil=>rw[hq]at h;simp at h
 | cons x r=>cases r with
   |nil=>rw[hq]at h;simp at h
   | cons y r=>cases r with
     |nil=>rw[hq]at h;exact⟨x,y,rfl,by simpa using h⟩
     |cons _ _=>rw[hq]at h;simp at h
theorem c1O (h:Pre P Γ β K get n w ρ a) {c:Call} {b:Builtin} {out:Out} (ho:o.op = .call c) (hc:c.callee = .builtin b)
 (hl:a3h Γ get n b c.argTypes.toList (c.args.toList.map ρ)=some out) (hok:out.ok=true):a0m P o a w (a0Q β K get n w out):=by
 unfold a3h at hl;split at hl
 ·rename_i cc hargs;obtain⟨x,h1,h2⟩:=e0O hargs;split at hl
  ·rename_i t hts;split at hl
   ·rename_i ti ht;exact e6P h ho hc hts h1 ht h2 hl
   ·cases hl
  ·cases hl
 ·rename_i s x hargs;obtain⟨xs,xx,h1,h2,h3⟩:=c1N hargs;split at hl
  ·rename_i st xt hts;split at hl
   ·rename_i hbe;have:=a0g hbe;subst this;split at hl
    ·rename_i si ht;split at hl
     ·rename_i hsort;split at hl
      ·rename_i ei he;split at hl
       ·rename_i hchk;simp only[and_eq_true]at hchk;have hts':c.argTypes=#[st,st]:=by cases hq:c.argTypes;simp_all
        have hargs':c.args=#[xs,xx]:=by cases hq:c.args;simp_all
        exact c3R h ho hc hts' hargs' ht hsort he (a0g hchk.1) (by simpa[Nat.blt_eq]using hchk.2) h2 h3 hl hok
       ·cases hl
      ·cases hl
     ·cases hl
    ·cases hl
   ·cases hl
  ·cases hl
 ·rename_i hargs;obtain⟨x,h1,h2⟩:=e0O hargs;exact c3S h ho h1 h2 (.inl ⟨hc,hl⟩)
 ·rename_i hargs;obtain⟨x,h1,h2⟩:=e0O hargs;exact c3S h ho h1 h2 (.inr ⟨hc,hl⟩)
 ·rename_i k p k' q hargs;obtain⟨x,y,h1,h2,h3⟩:=c1N hargs;split at hl
  ·rename_i hk;have:k=k':=by simpa[a0X]using hk
   subst this;exact c1L h ho h1 h2 h3 hc hl
  ·cases hl
 ·rename_i k p k' q hargs;obtain⟨x,y,h1,h2,h3⟩:=c1N hargs;split at hl
  ·rename_i hk;have:k=k':=by simpa[a2C]using hk
   subst this;exact b2T h ho h1 h2 h3 (.inl ⟨hc,hl⟩)
  ·cases hl
 ·rename_i k p k' q hargs;obtain⟨x,y,h1,h2,h3⟩:=c1N hargs;split at hl
  ·rename_i hk;have:k=k':=by simpa[a2C]using hk
   subst this;exact b2T h ho h1 h2 h3 (.inr ⟨hc,hl⟩)
  ·cases hl
 ·rename_i k p k' q hargs;obtain⟨x,y,h1,h2,h3⟩:=c1N hargs;split at hl
  ·rename_i hk;have:k=k':=by simpa[a0X]using hk
   subst this;exact b0h h ho h1 h2 h3 (.inl ⟨hc,hl⟩)
  ·cases hl
 ·rename_i k p k' q hargs;obtain⟨x,y,h1,h2,h3⟩:=c1N hargs;split at hl
  ·rename_i hk;have:k=k':=by simpa[a0X]using hk
   subst this;exact b0h h ho h1 h2 h3 (.inr ⟨hc,hl⟩)
  ·cases hl
 ·cases hl
theorem a7F {c:C} {b:Bool} (h:b1i c=some b):c = .bool b:=by
 cases c<;>simp[b1i]at h
 subst h;rfl
set_option maxHeartbeats 2000000 in
theorem c3W (h:Pre P Γ β K get n w ρ a) {out:Out} (hl:act Γ o ρ get n=some out) (hok:out.ok=true):a0m P o a w (a0Q β K get n w out):=by
 unfold act at hl;split at hl
 ·rename_i x ho;cases hl;exact c3H h (.inl ho)
 ·rename_i x ho;cases hl;exact c3H h (.inr ho)
 ·rename_i c x y ho;split at hl
  ·rename_i t hc;cases hl;exact e0G h ho hc
  ·cases hl
 ·rename_i t ho;split at hl
  ·rename_i ti ht;cases hl;exact d1o h ho ht
  ·cases hl
 ·rename_i t x ho;split at hl
  ·rename_i u hu;split at hl
   ·rename_i hs;cases hl;exact e6O h ho hu hs
   ·cases hl
  ·cases hl
 ·rename_i t parts ho;split at hl
  ·rename_i ti ht;split at hl
   ·rename_i hs;split at hl
    ·rename_i ps hp;split at hl
     ·rename_i cs hsure hf;exact d1z h ho ht hs hp hsure hf hl
     ·cases hl
    ·cases hl
   ·rename_i m hs;split at hl
    ·rename_i ei hp he;exact b5J h ho ht hs he hp hl
    ·cases hl
   ·cases hl
  ·cases hl
 ·rename_i t len parts ho;split at hl
  ·rename_i ti ht;split at hl
   ·rename_i hs;split at hl
    ·rename_i ei he;split at hl
     ·rename_i ps hp;split at hl
      ·rename_i hchk;simp only[and_eq_true]at hchk;obtain⟨⟨⟨h1,h2⟩,h3⟩,h4⟩:=hchk;split at hl
       ·rename_i l hlit;cases hl;exact b1r h ho ht hs he hp h4 (by simpa using h1) (a0g h2) (by simpa[Nat.blt_eq]using h3) hlit
       ·cases hl
      ·cases hl
     ·cases hl
    ·cases hl
   ·cases hl
  ·cases hl
 ·rename_i t x ho;split at hl
  ·rename_i ti ht;exact e0H h ho ht hl
  ·cases hl
 ·rename_i t x y ho;split at hl
  ·rename_i ti u ht hu;exact d1q h ho ht hu hl
  ·cases hl
 ·rename_i x ho;split at hl
  ·rename_i hx;cases hl;exact a4p h ho hx (.inl ⟨_,_,rfl⟩)
  ·rename_i hx;cases hl;exact a4p h ho hx (.inr (.inl ⟨_,_,_,_,rfl⟩))
  ·rename_i hx;cases hl;exact a4p h ho hx (.inr (.inr (.inl ⟨_,_,_,_,rfl⟩)))
  ·rename_i hx;cases hl;exact a4p h ho hx (.inr (.inr (.inr ⟨_,_,rfl⟩)))
  ·cases hl
 ·rename_i op t x y t' ho;split at hl
  ·rename_i c d hx hy;split at hl
   ·rename_i p q hp hq;split at hl
    ·rename_i ti ht;split at hl
     ·rename_i e hs hb;rw[a7F hp]at hx;rw[a7F hq]at hy;exact e0J h ho hx hy ht hs hb hl
     ·cases hl
    ·cases hl
   ·split at hl
    ·rename_i ok e hb;exact d1y h ho hx hy hb hl hok
    ·cases hl
  ·rename_i cs ds hx hy;split at hl
   ·rename_i e ht hb;exact e0K h ho hx hy ht hb hl
   ·cases hl
  ·cases hl
 ·rename_i op t x ho;split at hl
  ·rename_i c hx;split at hl
   ·rename_i c' hc;exact e0I h ho hx hc hl
   ·cases hl
  ·cases hl
 ·rename_i src dst x ho;split at hl
  ·rename_i si di c hs hd hx;split at hl
   ·rename_i ok c' hc;exact c1H h ho hs hd hx hc hl hok
   ·split at hl
    ·rename_i s hc;exact d1A h ho hs hd hx hc hl
    ·cases hl
  ·cases hl
 ·rename_i t xl xc ho;split at hl
  ·rename_i ti kl l kc c ht hxl hxc;split at hl
   ·rename_i hs;split at hl
    ·rename_i ei he;split at hl
     ·rename_i hchk;simp only[and_eq_true]at hchk;obtain⟨⟨h1,h2⟩,h3⟩:=hchk;cases hl;simp only[and_eq_true,decide_eq_true_eq,beq_iff_eq]at hok;have:=b2R h ho ht hs he (by simpa using h1) (a0g h2) (by simpa[Nat.blt_eq]using h3) hxl hxc hok.1.1 (by have:=b1l hok.1.2;have h0:=hok.1.1;rwa [Int.toNat_of_nonneg h0]at this) hok.2;intro next Q hn;refine this next Q fun v w' hp=>hn v w' ?_
      obtain⟨β',K',hp⟩:=hp;exact⟨β',K',hp.ble,hp.kle,hp.kok,hp.vr,hp.mr,hp.fresh,hp.le,hp.fr,hp.own,hp.knew,hp.dom⟩
     ·cases hl
    ·cases hl
   ·cases hl
  ·cases hl
 ·rename_i t x lo hi mx ho;split at hl
  ·rename_i ti ht;split at hl
   ·rename_i s hs hx;split at hl
    ·rename_i l r h1 h2;exact b5G h ho ht hs hx h1 h2 hl hok
    ·cases hl
   ·rename_i ty s hs hx;split at hl
    ·rename_i ei he;split at hl
     ·rename_i hsz;split at hl
      ·rename_i l r h1 h2;exact c1I h ho ht hs he (a0g hsz) hx h1 h2 hl hok
      ·cases hl
     ·cases hl
    ·cases hl
   ·rename_i ty k hs hx;split at hl
    ·rename_i ei he;exact b5H h ho ht hs he hx hl hok
    ·cases hl
   ·rename_i m hs;split at hl
    ·split at hl
     ·rename_i ei he;exact d1s h ho ht hs he hl
     ·cases hl
    ·cases hl
   ·cases hl
  ·cases hl
 ·rename_i t x f ho;split at hl
  ·rename_i ti ht;split at hl
   ·rename_i hs;split at hl
    ·rename_i off size ag hf;split at hl
     ·cases hl
     ·rename_i h0;exact b2O h ho ht hs hf (fun e=>by subst e;simp at h0) hl
    ·cases hl
   ·cases hl
  ·cases hl
 ·rename_i t x f ho;split at hl
  ·rename_i ti ht;split at hl
   ·rename_i hs;split at hl
    ·rename_i off size ag hf;split at hl
     ·rename_i cs hx;split at hl
      ·rename_i u hu;exact d1r h ho ht hs hf hx hu hl
      ·cases hl
     ·cases hl
    ·cases hl
   ·cases hl
  ·cases hl
 ·rename_i t x i ho;split at hl
  ·rename_i ti ht;split at hl
   ·rename_i hs;split at hl
    ·rename_i ei he;exact b2P h ho ht hs he hl hok
    ·cases hl
   ·rename_i m hs;split at hl
    ·rename_i ei he;exact c3N h ho ht hs he hl hok
    ·cases hl
   ·cases hl
  ·cases hl
 ·rename_i t x i ho;split at hl
  ·rename_i ti ht;split at hl
   ·rename_i hs;split at hl
    ·rename_i s k j hx hj;exact d1t h ho ht hs hx hj hl hok
    ·cases hl
   ·cases hl
  ·cases hl
 ·rename_i fn first caps ho
  split at hl
  ·rename_i f hf;split at hl
   ·rename_i ks hk;exact b5I h ho rfl hf hk hl
   ·cases hl
  ·cases hl
 ·rename_i x i ho;split at hl
  ·rename_i ws hx;split at hl
   ·rename_i u hu;exact c1G h ho hx hu hl
   ·cases hl
  ·cases hl
 ·rename_i c ho;split at hl
  ·rename_i b hc;exact c1O h ho hc hl hok
  ·rename_i f hc;split at hl
   ·rename_i g caps ws hf hw;unfold b2G at hl;split at hl
    ·rename_i sm hsm;split at hl
     ·exact c1M h ho hc hf hw hsm hl hok
     ·exact c3V h ho hc hf hw hsm hl hok
    ·cases hl
   ·cases hl
  ·cases hl
 ·cases hl
end
theorem a1T {α γ:Type} {f g:α->Option γ}:∀{l:List α},(∀x∈l,f x=g x)->a1v f l=a1v g l
 |[],_=>rfl
 | x::r,h=>by
   simp only[a1v];rw[h x (List.mem_cons_self ..),a1T fun y hy=>h y (List.mem_cons_of_mem _ hy)]
theorem b5N {Γ:Env} {o:Oper} {ρ ρ':Operand->V} {get:Get} {n:Nat} (h:∀x∈o.op.operands,ρ x=ρ' x):act Γ o ρ get n=act Γ o ρ' get n:=by
 obtain⟨dst,op,type,pos,after,guard⟩:=o;cases op<;>simp only[Op.operands]at h<;>simp only[act]
 case build t ps=>
  have:a1v (fun p=>match ρ p.2 with|.val w=>some (p.1,w)|.tup _=>none) ps.toList=a1v (fun p=>match ρ' p.2 with|.val w=>some (p.1,w)|.tup _=>none) ps.toList:=
   a1T fun p hp=>by rw[h p.2 (by simpa using⟨p.1,by simpa using hp⟩)]
  erw [this];first|done|rfl
 case buildSlice t n ps=>
  have:a1v (fun p=>match ρ p.2 with|.val w=>some (p.1,w)|.tup _=>none) ps.toList=a1v (fun p=>match ρ' p.2 with|.val w=>some (p.1,w)|.tup _=>none) ps.toList:=
   a1T fun p hp=>by rw[h p.2 (by simpa using⟨p.1,by simpa using hp⟩)]
  erw [this];first|done|rfl
 case makeFunc fn first captured=>
  have:a1v (fun x=>match ρ x with|.val (.one (.ptr k 0))=>some k|_=>none) captured.toList=a1v (fun x=>match ρ' x with|.val (.one (.ptr k 0))=>some k|_=>none) captured.toList:=
   a1T fun p hp=>by rw[h p (by simp;exact .inr (by simpa using hp))]
  erw [this];first|done|rfl
 case call c=>
  have hargs:c.args.toList.map ρ=c.args.toList.map ρ':=List.map_congr_left fun x hx=>h x (by simp[Call.operands];exact .inr (by simpa using hx))
  rw[hargs];cases hc:c.callee with
  |value f=>have hf:ρ f=ρ' f:=h f (by simp[Call.operands,hc]);simp only[hf]
  |invoke r m=>rfl
  |builtin b=>rfl
 case slice t x lo hi mx=>
  have hx:ρ x=ρ' x:=h x (by simp);have hlo:lo.map ρ=lo.map ρ':=by cases lo with
   |none=>rfl
   |some y=>simp[h y (by simp)]
  have hhi:hi.map ρ=hi.map ρ':=by cases hi with
   |none=>rfl
   |some y=>simp[h y (by simp)]
  rw[hx,hlo,hhi]
 all_goals (first|rfl|(simp_all;done))
section
variable {get get':Get}
theorem a8C {c:C} (h:∀k∈a0N c,get k=get' k):roC get c=roC get' c:=by
 cases c with
 |ref t k=>simp only[roC];rw[h k (by simp[a0N])]
 |asl t k o m=>simp only[roC];rw[h k (by simp[a0N])]
 |fn f caps=>cases caps<;>rfl
 |_=>rfl
theorem c3X {c:W} (h:∀k∈a0L c,get k=get' k):roW get c=roW get' c:=by
 cases c with
 |one c=>simp only[roW];rw[a8C fun k hk=>h k (by simpa[a0L,W.cells]using hk)]
 |agg cs=>simp only[roW];rw[a1T (f:=roC get) (l:=cs) fun c hc=>a8C fun k hk=>h k (List.mem_flatMap.2 ⟨c,hc,hk⟩)]
theorem b0k {cs:List C} (h:∀k∈cs.flatMap a0N,get k=get' k):a1v (roC get) cs=a1v (roC get') cs:=
 a1T fun c hc=>a8C fun k hk=>h k (List.mem_flatMap.2 ⟨c,hc,hk⟩)
theorem a5E {t:Ty}:∀{ps:List (Nat×W)} {l:List (Den t)},(∀k∈ps.flatMap (fun p=>a0L p.2),get k=get' k)->a1Y get t l ps=a1Y get' t l ps
 |[],l,_=>rfl
 | (i,u)::ps,l,h=>by
   simp only[a1Y];rw[b0k (get':=get') (fun k hk=>h k (List.mem_flatMap.2 ⟨(i,u),List.mem_cons_self ..,hk⟩))];have ih:∀l,a1Y get t l ps=a1Y get' t l ps:=fun l=>a5E fun k hk=>h k (by
    obtain⟨p,hp,hk⟩:=List.mem_flatMap.1 hk;exact List.mem_flatMap.2 ⟨p,List.mem_cons_of_mem _ hp,hk⟩)
   simp only[ih]
theorem a6o {t:Ty} {c:C} (h:∀k∈a0N c,get k=get' k):a3K get t c=a3K get' t c:=by
 cases c with
 |ref t k=>simp only[a3K];rw[h k (by simp[a0N])]
 |_=>rfl
theorem b1v {n:Nat} {ag:Bool} {size:Nat} {v:V} (h:∀k∈a1r v,get k=get' k):a0Y get n ag size v=a0Y get' n ag size v:=by
 cases v with
 |tup ws=>rfl
 | val u=>cases u with
   |agg cs=>rfl
   | one c=>cases c with
     |ptr k off=>simp only[a0Y];rw[h k (by simp[a1r,a0L,W.cells,a0N])]
     |eptr k t i off=>simp only[a0Y];rw[h k (by simp[a1r,a0L,W.cells,a0N])]
     |aptr k off m j=>simp only[a0Y];rw[h k (by simp[a1r,a0L,W.cells,a0N])]
     |aeptr k t i off m j=>simp only[a0Y];rw[h k (by simp[a1r,a0L,W.cells,a0N])]
     |_=>rfl
theorem a9R {n:Nat} {size:Nat} {u:W} {v:V} (h:∀k∈a1r v++a0L u,get k=get' k):a1j get n size u v=a1j get' n size u v:=by
 have hu:a1v (roC get) u.cells=a1v (roC get') u.cells:=b0k fun k hk=>h k (List.mem_append_right _ hk)
 cases v with
 |tup ws=>rfl
 | val x=>cases x with
   |agg cs=>rfl
   | one c=>cases c with
     |ptr k off=>simp only[a1j];rw[h k (by simp[a1r,a0L,W.cells,a0N])]
     |eptr k t i off=>simp only[a1j];rw[h k (by simp[a1r,a0L,W.cells,a0N]),hu]
     |aptr k off m j=>simp only[a1j];rw[h k (by simp[a1r,a0L,W.cells,a0N])]
     |aeptr k t i off m j=>simp only[a1j];rw[h k (by simp[a1r,a0L,W.cells,a0N])]
     |rptr t l i off=>cases t<;>rfl
     |_=>rfl
theorem b2V {n:Nat} {s:Srt} {c:C} (h:∀k∈a0N c,get k=get' k):a7B get n s c=a7B get' n s c:=by
 cases c with
 |ref t k=>cases s<;>simp only[a7B];rw[h k (by simp[a0N])]
 |_=>cases s<;>rfl
theorem a8D {n:Nat} {t:Ty} {bytes:Nat} {s x:C} (h:∀k∈a0N s++a0N x,get k=get' k):a2H get n t bytes s x=a2H get' n t bytes s x:=by
 unfold a2H;rw[a6o (get':=get') fun k hk=>h k (List.mem_append_right _ hk)];cases s with
 |ref t k=>dsimp only;rw[h k (by simp[a0N])]
 |_=>rfl
theorem a7X {Γ:Env} {n:Nat} {b:Builtin} {ts:List Nat} {args:List V} (h:∀k∈args.flatMap a1r,get k=get' k):a3h Γ get n b ts args=a3h Γ get' n b ts args:=by
 have h1:∀c,args=[.val (.one c)]->∀s,a7B get n s c=a7B get' n s c:=fun c e s=>b2V fun k hk=>h k (by subst e;simpa[a1r,a0L,W.cells]using hk)
 have h2:∀c d,args=[.val (.one c),.val (.one d)]->∀t by',a2H get n t by' c d=a2H get' n t by' c d:=fun c d e t by'=>a8D fun k hk=>h k (by subst e;simpa[a1r,a0L,W.cells]using hk)
 unfold a3h;split
 ·simp only[h1 _ rfl]
 ·simp only[h2 _ _ rfl]
 ·rfl
 ·rfl
 ·rfl
 ·rfl
 ·rfl
 ·rfl
 ·rfl
 ·simp_all
theorem a4T (get:Get):∀(f:Nat) (todo acc:List Nat) (k:Nat),k∈acc->k∈a2E get f todo acc
 |0,_,acc,k,h=>by simpa[a2E]using h
 |f+1,[],acc,k,h=>by simpa[a2E]using h
 | f+1,j::todo,acc,k,h=>by
   unfold a2E;split
   ·exact a4T get f todo acc k h
   ·split
    ·exact a4T get f _ _ k (List.mem_append_left _ h)
    ·exact a4T get f _ _ k (List.mem_append_left _ h)
theorem a4r:∀(f:Nat) (todo acc:List Nat),(∀k∈a2E get f todo acc,get k=get' k)->a2E get f todo acc=a2E get' f todo acc
 |0,_,acc,h=>rfl
 |f+1,[],acc,h=>rfl
 | f + 1,j::todo,acc,h=>by
   have hj:b1j acc j=false->get j=get' j:=by
    intro e;refine h j ?_;unfold a2E;rw[e];dsimp only;split
    ·exact a4T get f _ _ j (List.mem_append_right _ (by simp))
    ·exact a4T get f _ _ j (List.mem_append_right _ (by simp))
   unfold a2E at h ⊢;cases hq:b1j acc j with
   | true =>
     rw[hq]at h;exact a4r f todo acc h
   | false =>
     rw[hq]at h;dsimp only at h ⊢;rw[hj hq]at h ⊢;split at h
     ·exact a4r f _ _ h
     ·exact a4r f _ _ h
theorem b1w {sm:a6e} {n:Nat} {args:List W} (h:∀k∈a2E get a1L (args.flatMap a0L) [],get k=get' k):a4j sm get n args=a4j sm get' n args:=by
 unfold a4j;rw[<- a4r _ _ _ h];dsimp only;rw[a1T (f:=fun k=>(get k).bind (b2D fun k=>a2F (a2E get a1L (args.flatMap a0L) []) k 0)) fun k hk=>by rw[h k hk]]
theorem b2W {sm:a6e} {frz:Bool} {n:Nat} {args:List W} (h:∀k∈args.flatMap a0L,get k=get' k):a6h sm frz get n args=a6h sm frz get' n args:=by
 unfold a6h;rw[a1T (f:=roW get) fun c hc=>c3X fun k hk=>h k (List.mem_flatMap.2 ⟨c,hc,hk⟩)]
theorem b0l:∀{vs:List V} {ws:List W},a5K vs=some ws->vs.flatMap a1r=ws.flatMap a0L
 |[],ws,h=>by simp only[a5K,a1v,injEq]at h;subst h;rfl
 | v :: vs,ws,h=>by
   unfold a5K at h;simp only[a1v]at h;split at h
   ·rename_i y hy;split at h
    ·rename_i ys hys;cases h;have:=b0l (vs:=vs) (ws:=ys) hys;cases v with
     |tup _=>cases hy
     |val u=>cases hy;simp[a1r,this]
    ·cases h
   ·cases h
theorem a8E:∀(caps:List Nat),((caps.map fun k=>W.one (.ptr k 0)).flatMap a0L)=caps
 |[]=>rfl
 |k::r=>by simp only[List.map_cons,List.flatMap_cons,a8E r];rfl
theorem c1P {Γ:Env} {t:Nat} {x:Operand} {v:V} {k:Nat} (h:k∈a1r (b1m Γ t x v)):k∈a1r v:=by
 unfold b1m at h;split at h
 ·exact h
 ·split at h
  ·split at h
   ·split at h
    ·simp[a1r,a0L,W.cells,a0N]at h
    ·exact h
   ·exact h
  ·exact h
theorem b5O {Γ:Env} {o:Oper} {ρ:Operand->V} {n:Nat} (h:∀k∈a8d o ρ get,get k=get' k):act Γ o ρ get n=act Γ o ρ get' n:=by
 obtain⟨dst,op,type,pos,after,guard⟩:=o;cases op<;>simp only[a8d]at h<;>simp only[act]
 case load t x=>
  split
  ·exact b1v h
  ·rfl
 case store t x y=>
  split
  ·rename_i ti u ht hu;refine a9R fun k hk=>h k ?_
   rcases List.mem_append.1 hk with hk|hk
   ·exact List.mem_append_left _ hk
   ·exact List.mem_append_right _ (c1P (Γ:=Γ) (t:=t) (x:=y) (by rw[hu];exact hk))
  ·rfl
 case convert src dst x=>
  split
  ·rename_i si di c hs hd hx;split
   ·rfl
   ·have:c1C Γ get si di c=c1C Γ get' si di c:=by
     unfold c1C;rw[a6o (get':=get') fun k hk=>h k (by rw[hx];simpa[a1r,a0L,W.cells]using hk)]
    rw[this]
  ·rfl
 case indexAddr t x i =>
  split
  ·split
   ·split
    ·split
     ·rfl
     ·rename_i t k _ j hx hi;rw[hx]at h;rw[h k (by simp[a1r,a0L,W.cells,a0N])]
     ·rfl
     ·rfl
    ·rfl
   ·rfl
   ·rfl
  ·rfl
 case slice t x lo hi mx=>
  split
  ·split
   ·rfl
   ·rfl
   ·rename_i t' k hs hx;rw[hx]at h;split
    ·unfold a8c;rw[h k (by simp[a1r,a0L,W.cells,a0N])]
    ·rfl
   ·rfl
   ·rfl
  ·rfl
 case buildSlice t len parts =>
  split
  ·split
   ·split
    ·split
     ·rename_i ps hps;split
      ·rw[a5E (get':=get') fun k hk=>h k ?_];obtain⟨p,hp,hk⟩:=List.mem_flatMap.1 hk;obtain⟨q,hq,he⟩:=b7X hps p hp;refine List.mem_flatMap.2 ⟨q,hq,?_⟩;split at he
       ·rename_i u hu;cases he;rw[hu];exact hk
       ·cases he
      ·rfl
     ·rfl
    ·rfl
   ·rfl
  ·rfl
 case call c=>
  split
  ·rename_i b hb;refine a7X fun k hk=>h k ?_
   refine List.mem_append_left _ (List.mem_append_left _ ?_);simpa[List.flatMap_map]using hk
  ·rename_i f hf;split
   ·rename_i g caps ws hg hw;rw[hf]at h;dsimp only at h;have hkeys:(c.args.toList.flatMap fun x=>a1r (ρ x))++a1r (ρ f)=(ws++caps.map fun k=>W.one (.ptr k 0)).flatMap a0L:=by
     have h1:=b0l hw;rw[List.flatMap_append,<- h1,a8E,hg,List.flatMap_map];simp[a1r,a0L,W.cells,a0N]
    rw[hkeys]at h;unfold b2G;split
    ·split
     ·exact b1w fun k hk=>h k (List.mem_append_right _ hk)
     ·exact b2W fun k hk=>h k (List.mem_append_left _ hk)
    ·rfl
   ·rfl
  ·rfl
end
end Go.Proofs.YtjomnmoekchfeaaGreatDoor.AM
