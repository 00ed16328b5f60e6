/- Texts of one proof, joined: an abstract machine for the program, its functions evaluated, plain lemmas. Conditions: those that each lemma names. -/
import Derived.Test.YtjomnmoekchfeaaGreatDoorM4
import Derived.Test.YtjomnmoekchfeaaGreatDoorM3
set_option linter.unusedVariables false
set_option linter.unusedSimpArgs false
namespace Go.Proofs.YtjomnmoekchfeaaGreatDoor.AM
open IntKind (wrap)
open List (length replicate getD set length_append length_replicate length_set)
open Int (toNat toNat_natCast)
open Option (getD_some isSome_some)
open Bool (and_eq_true)
open FloatKind (nearest)
open Nat (le_refl zero_le)
open Go Go.Proofs
set_option exponentiation.threshold 2000
theorem g2K {a b:Nat} {x y q A ε:Rat} (f:IsR a x) (g:IsR b y) (j:y≠0) (i:q*y=x) (B:Int) (h:Abs q A) (n:A<=p2 B) (k:p2 (B-52)<=ε) (c:-1022<=B) (d:B<=1022) :
 ∃r,IsR (a0b .quo .f64 a b) r /\ b4K r q ε:=by
 obtain⟨o,p⟩:=h;obtain⟨r,e,l,m⟩:=g0L f g j i B c d (by grind) (by grind);exact⟨r,e,by grind,by grind⟩
theorem Abs.add {x y A B:Rat} (a:Abs x A) (b:Abs y B):Abs (x+y) (A+B):=⟨by have:=a.1;have:=b.1;grind,by have:=a.2;have:=b.2;grind⟩
theorem Abs.sub {x y A B:Rat} (a:Abs x A) (b:Abs y B):Abs (x-y) (A+B):=⟨by have:=a.1;have:=b.2;grind,by have:=a.2;have:=b.1;grind⟩
theorem b6k {w:Nat} (s:Bool) (m:Nat) (e:Int) (h:Ieee.double.read w = .number s m e) (a:-1074<=e) {q:Rat} (b:RV s m e=q):IsR w q:=⟨s,m,e,h,a,b.symm⟩
theorem e0r:IsR 0 0:=b6k false 0 (-1074) (by decide +kernel) (by decide) (a2F _ _)
theorem e7F:IsR 4607182418800017408 1:=b6k false 4503599627370496 (-52) (by decide +kernel) (by decide) (by decide +kernel)
theorem g2L:IsR 4611686018427387904 2:=b6k false 4503599627370496 (-51) (by decide +kernel) (by decide) (by decide +kernel)
theorem c7p:IsR 4726483295884279808 100000000:=b6k false 6710886400000000 (-26) (by decide +kernel) (by decide) (by decide +kernel)
theorem b0u {w:Nat} {s:Bool} {m:Nat} {e:Int} (h:Ieee.double.read w = .number s m e):-1074<=e:=by
 unfold Ieee.Format.read at h;dsimp only at h;rw[d9N]at h;split at h
 ·cases h;exact Int.le_refl _
 ·split at h
  ·cases h;omega
  ·split at h<;>cases h
theorem e0s {s:Bool} {m:Nat} {e:Int} {A:Rat} (h:RV false m e<=A):Abs (RV s m e) A:=by
 have c:0<=(m:Rat)*p2 e:=Rat.mul_nonneg (a2k m) (Rat.le_of_lt (a0q e));have a:RV false m e=(m:Rat)*p2 e:=by
  unfold RV;have:sgR false=1:=rfl;rw[this];grind
 cases s
 ·rw[a]at h ⊢;constructor<;>grind
 ·have b:RV true m e=-((m:Rat)*p2 e):=by
   unfold RV;have:sgR true=-1:=rfl;rw[this];grind
  rw[a]at h;rw[b];constructor<;>grind
theorem f7a {w:Nat} (h:le8 (w%2^63)=true):∃x,IsR w x /\ Abs x 100000000:=by
 have a:=b8S w;cases hw:Ieee.double.read w with
 | number s m e =>
   rw[hw]at a;have c:=b0u hw;have b:IsR (w%2^63) (RV false m e):=⟨false,m,e,a,c,rfl⟩;unfold le8 at h;rw[f0b b c7p,e2s b c7p]at h;simp only[Bool.or_eq_true,decide_eq_true_eq]at h;exact⟨_,⟨s,m,e,hw,c,rfl⟩,e0s (by grind)⟩
 | infinity s =>
   rw[hw]at a;exfalso;obtain⟨t,n,f,d,_,_⟩:=c7p;unfold le8 flt feq at h;have:FloatKind.f64.format.order (w%2^63) 4726483295884279808=some .gt:=by
    show(Ieee.double.read (w%2^63)).order (Ieee.double.read _)=_;rw[a,d];rfl
   rw[this]at h;cases h
 | nan s t =>
   rw[hw]at a;exfalso;unfold le8 flt feq at h;have:FloatKind.f64.format.order (w%2^63) 4726483295884279808=none:=by
    show(Ieee.double.read (w%2^63)).order (Ieee.double.read _)=_;rw[a];rfl
   rw[this]at h;cases h
theorem d6Z {j:Nat} (a:j<360):Abs (tc j) (1000001/1000000) /\ Abs (ts j) (1000001/1000000):=by
 have h:=f6Z a;have e:1+hh<=1000001/1000000:=by decide +kernel
 exact⟨h.1.mono e,h.2.mono e⟩
def TT:Nat:=2^1074
theorem d7a:0<TT:=Nat.two_pow_pos _
def b0v (b:Nat) (v:Int):Prop:=∃(s:Bool) (m c:Nat),Ieee.double.read b = .number s m ((c:Int)-1074) /\ m<2^53 /\ VU s m c=v*(TT:Int)
theorem d7b (s:Bool) (m c:Nat):(VU s m c).natAbs=m*2^c:=by
 unfold VU;cases s
 ·rfl
 ·rw[if_pos rfl,Int.natAbs_neg];rfl
theorem b4r {b:Nat} {s:Bool} {m:Nat} {p:Int} (h:Ieee.double.read b = .number s m p):m<2^53:=by
 unfold Ieee.Format.read at h;dsimp only at h;rw[b5N,b5M]at h;split at h
 ·injection h with h1 h2 h3;omega
 ·split at h
  ·injection h with h1 h2 h3
   have:=Nat.mod_lt (b%Ieee.double.signWeight) (show 2^52>0 by decide);omega
  ·split at h<;>cases h
theorem b6l (neg:Bool) (p:Int):b0v (Ieee.double.nearest neg 0 p) 0:=by
 obtain⟨c,c',a,b⟩:=a4P neg 0 0 (by decide) (.inl ⟨rfl,by decide⟩);refine⟨neg,c,c',?_,b4r a,?_⟩
 ·unfold Ieee.Format.nearest;rw[if_pos rfl];rw[Nat.zero_mul]at a;exact a
 ·rw[Nat.zero_mul]at b;rw[Int.zero_mul];have:=d7b neg c c';rw[b]at this;omega
theorem b6m (neg:Bool) (M c v:Nat) (b:0<M) (h:M*2^c=v*TT) (k:v<2^53):b0v (Ieee.double.nearest neg M ((c:Int)-1074)) (if neg then -(v:Int)else v):=by
 obtain⟨K,e,d,f,g,i⟩:=d1j neg M c v b h k;obtain⟨m,c',a,j⟩:=a4P neg K e f g;refine⟨neg,m,c',by rw[d];exact a,b4r a,?_⟩;unfold VU;rw[j,i,h];cases neg
 ·simp
 ·simp[Int.neg_mul]
theorem c1b (neg:Bool) (M c:Nat) (w:Int) (h:VU neg M c=w*(TT:Int)) (g:w.natAbs<2^53):b0v (Ieee.double.nearest neg M ((c:Int)-1074)) w:=by
 have a:=d7b neg M c;rw[h,Int.natAbs_mul,Int.natAbs_natCast]at a;by_cases f:M=0
 ·subst f;have:w.natAbs=0:=by
   rw[Nat.zero_mul]at a;rcases Nat.mul_eq_zero.1 a with h|h
   ·exact h
   ·exact absurd h (Nat.ne_of_gt d7a)
  have:w=0:=by omega
  rw[this];exact b6l _ _
 ·have:=b6m neg M c w.natAbs (by omega) a.symm g;have e:(if neg then -(w.natAbs:Int)else(w.natAbs:Int))=w:=by
   unfold VU at h;have d:(0:Int)<(TT:Int):=Int.natCast_pos.2 d7a;have i:(0:Int)<=((M*2^c:Nat):Int):=Int.natCast_nonneg _;cases neg
   ·simp only[Bool.false_eq_true,if_false]at h ⊢;have:0<=w:=by
     by_cases b:0<=w
     ·exact b
     ·have:=Int.mul_neg_of_neg_of_pos (show w<0 by omega) d;omega
    omega
   ·simp only[if_true]at h ⊢;have:w<=0:=by
     by_cases b:w<=0
     ·exact b
     ·have:=Int.mul_pos (show 0<w by omega) d;omega
    omega
  rw[e]at this;exact this
theorem c7q (n:Int) (h:n.natAbs<2^53):b0v (nearest .f64 n) n:=by
 show b0v (Ieee.double.nearest (decide (n<0)) n.natAbs 0) n;have:(0:Int)=((1074:Nat):Int)-1074:=by decide
 rw[this];refine c1b _ _ _ _ ?_ h;unfold VU;show(if decide (n<0)=true then -((n.natAbs*TT:Nat):Int)else((n.natAbs*TT:Nat):Int))=_;rw[Int.natCast_mul];by_cases a:n<0
 ·rw[if_pos (by simpa using a),<- Int.neg_mul];congr 1;omega
 ·rw[if_neg (by simpa using a)];congr 1;omega
theorem e7G {z:Nat} (f:fge z 0=true) (d:fle z 1120403456=true):∃s m e,Ieee.single.read z = .number s m e:=by
 unfold fge fle flt feq fgt at *;have i:FloatKind.f32.format.order z 1120403456=(Ieee.single.read z).order (Ieee.single.read 1120403456):=rfl;have k:∃s m e,Ieee.single.read 1120403456 = .number s m e:=⟨false,13107200,-17,by decide +kernel⟩;have j:FloatKind.f32.format.order z 0=(Ieee.single.read z).order (Ieee.single.read 0):=rfl;have l:∃s m e,Ieee.single.read 0 = .number s m e:=⟨false,0,-149,by decide +kernel⟩;obtain⟨s,m,e,h⟩:=k;obtain⟨s2,o,n,g⟩:=l;rw[i,h]at d;rw[j,g]at f;cases hz:Ieee.single.read z with
 |number a b c=>exact⟨a,b,c,rfl⟩
 |nan a b=>rw[hz]at d;simp[Ieee.Datum.order]at d
 | infinity a =>
   rw[hz]at f d;cases a<;>simp[Ieee.Datum.order]at f d
theorem c7r {x:Nat} (h:fgt .f32 x 0=true):fge x 0=true:=by unfold fge;rw[h];rfl
theorem d1W {x y:Nat} (g:∃s m e,Ieee.single.read x = .number s m e) (h:∃s m e,Ieee.single.read y = .number s m e) :
 ∃c:Ordering,FloatKind.f32.format.order x y=some c /\ FloatKind.f32.format.order y x=some c.swap:=by
 obtain⟨s,m,e,a⟩:=g;obtain⟨t,n,f,b⟩:=h;refine⟨_,by show(Ieee.single.read x).order (Ieee.single.read y)=_;rw[a,b];rfl,?_⟩;show(Ieee.single.read y).order (Ieee.single.read x)=_;rw[a,b];unfold Ieee.Datum.order;dsimp only;have d:min f e=min e f:=by omega
 rw[d];congr 1;rw[Int.compare_swap]
theorem c7s {x y:Nat} (d:∃s m e,Ieee.single.read x = .number s m e) (f:∃s m e,Ieee.single.read y = .number s m e):fge x y=fle y x /\ (fle x y=false->fge x y=true):=by
 obtain⟨c,a,b⟩:=d1W d f;unfold fge fle fgt flt feq;rw[a,b];cases c<;>exact⟨rfl,fun h=>by first|rfl|cases h⟩
structure POK (p:a4Q):Prop where
 w1:1<=p.1.length
 w2:p.1.length<=12
 a1:2<=p.2.1.length
 a2:p.2.1.length<=24
 s:p.2.2.1.length=p.1.length
 wind:∀i,i<p.1.length->a3c p i=true
 ang:∀i,i<p.2.1.length->c0P p i=true
 first:aAt p 0=0
 last:aAt p (p.2.1.length-1)=180
 row:∀i,i<p.1.length->(rAt p i).length=p.2.1.length /\ a6m (rAt p i)=true
theorem pok {p:a4Q} (h:a2b p=true):POK p:=by
 unfold a2b at h;simp only[and_eq_true,a0m,decide_eq_true_eq,beq_iff_eq]at h;obtain⟨⟨j,k⟩,⟨l,m⟩,c,d,e,f,g,a⟩:=h;refine⟨by omega,by omega,by omega,by omega,c,fun i b=>a0u.1 d i (zero_le _) (by omega),fun i b=>a0u.1 e i (zero_le _) (by omega),f,g,fun i b=>?_⟩;have:=a0u.1 a i (zero_le _) (by omega);unfold c8L at this;simpa only [and_eq_true,decide_eq_true_eq]using this
def e7H (s t q:Nat):Nat:=a0b .add .f32 s (a0b .mul .f32 (a0b .sub .f32 t s) q)
def e2A (p:a4Q) (row:List Nat) (a:Int) (j:Nat):Nat:=bif aAt p j==a then row.getD j 0 else
 e7H (row.getD (j-1) 0) (row.getD j 0) (a0b .quo .f32 (nearest .f32 (IntKind.i64.wrap (a-aAt p (j-1)))) (nearest .f32 (IntKind.i64.wrap (aAt p j-aAt p (j-1)))))
def idx (p:a4Q) (a:Int):Nat:=(a0x (fun j=>decide (a<=aAt p j)) 0 p.2.1.length).getD 0
def b4s (p:a4Q) (row:List Nat) (a:Int):Nat:=e2A p row a (idx p a)
theorem c7t {p:a4Q} (h:POK p) {a:Int} (f:a<=180):a0x (fun j=>decide (a<=aAt p j)) 0 p.2.1.length=some (idx p a) /\ idx p a<p.2.1.length /\ a<=aAt p (idx p a) /\ ∀i,i<idx p a->aAt p i<a:=by
 unfold idx;cases hf:a0x (fun j=>decide (a<=aAt p j)) 0 p.2.1.length with
 | none =>
   exfalso;have:=a1X.1 hf (p.2.1.length-1) (zero_le _) (by have:=h.a1;omega);simp only[decide_eq_false_iff_not]at this;have g:=h.last;omega
 | some j =>
   obtain⟨_,b,c,d⟩:=a1W hf;refine⟨rfl,by simpa using b,by simpa using c,fun i e=>?_⟩;have:=d i (zero_le _) e;simp only[decide_eq_false_iff_not]at this;omega
theorem b1M {p:a4Q} (h:POK p) (row:List Nat) (a:Int) (F:row.length=p.2.1.length) (E:0<=a) (u:a<=180):d5K (p,row,a,())=some (b4s p row a,()):=by
 have w:=h.a1;have x:=h.a2;have D:=h.first
 have m:b0g ((row,a,(),p.2.1,(p.2.1.length:Int),(0:Int),()),(p,()))=some (match a0x (fun j=>decide (a<=aAt p j)) 0 p.2.1.length with|some j => .inr ((e2A p row a j,()),())|none => .inl ((),())):=by
  refine(a4v (q:=b3I) (fun k=>((row,a,(),p.2.1,(p.2.1.length:Int),(k:Int),()),(p,()))) p.2.1.length (fun j=>decide (a<=aAt p j)) (.inl ((),())) (fun j => .inr ((e2A p row a j,()),())) ?_ ?_ (b8q ((row,a,(),p.2.1,(p.2.1.length:Int),(0:Int),()),(p,()))) ?_:_)
  ·intro k f B;unfold b3I e2A;have n:decide ((k:Int)<(p.2.1.length:Int))=true:=by simpa using B
   have o:decide (0<=(k:Int))=true:=by simp
   have e:decide ((k:Int)<(row.length:Int))=true:=by simp;omega
   have v:getD p.2.1 k (zero (Ty.int IntKind.i64))=aAt p k:=rfl;have y:getD row k (zero (Ty.flt FloatKind.f32))=row.getD k 0:=rfl;simp only[a2H k (by omega),n,e,o,Bool.and_self,cond_true,toNat_natCast,v,y];cases c:(aAt p k==a)
   ·simp only[cond_false];have C:aAt p k≠a:=by simpa using c
    by_cases b:aAt p k>a
    ·have l:0<k:=by
      rcases Nat.eq_zero_or_pos k with i|i
      ·rw[i]at b;omega
      ·exact i
     have g:decide (aAt p k>a)=true:=by simpa using b
     have r:decide (0<=((k-1:Nat):Int))=true:=by simp
     have s:decide (((k-1:Nat):Int)<(p.2.1.length:Int))=true:=by simp;omega
     have t:decide (((k-1:Nat):Int)<(row.length:Int))=true:=by simp;omega
     have d:decide (a<=aAt p k)=true:=by simp;omega
     have z:getD p.2.1 (k-1) (zero (Ty.int IntKind.i64))=aAt p (k-1):=rfl;have hd:getD row (k-1) (zero (Ty.flt FloatKind.f32))=row.getD (k-1) 0:=rfl;rw[d];simp only[g,cond_true,c8M k l (by omega),r,s,t,Bool.and_self,toNat_natCast,z,hd];rfl
    ·have g:decide (aAt p k>a)=false:=by simpa using b
     have d:decide (a<=aAt p k)=false:=by simp;omega
     rw[d];simp only[g,cond_false]
   ·have:aAt p k=a:=by simpa using c
    have d:decide (a<=aAt p k)=true:=by simp;omega
    rw[d];rfl
  ·intro f;unfold b3I;simp
  ·simp only[b8q];omega
 obtain⟨A,_⟩:=c7t h u;rw[A]at m;unfold d5K;simp only[c5i,c5j,c5k,m,isSome_some,cond_true];rfl
theorem b1N {p:a4Q} (h:POK p) (row:List Nat) (a:Int) (E:row.length=p.2.1.length) (D:0<=a) (t:a<=180):d3W (p.2.1,row,a,())=some (b4s p row a,()):=by
 have u:=h.a1;have v:=h.a2;have C:=h.first
 obtain⟨_,F,A,B⟩:=c7t h t;unfold b4s;generalize idx p a=j at *;have z:b7K ((p.2.1,row,a,(0:Int),()),())=some ((p.2.1,row,a,(j:Int),()),()):=by
  refine(a1K (q:=b3l) (fun k=>((p.2.1,row,a,(k:Int),()),())) j ((p.2.1,row,a,(j:Int),()),()) ?_ ?_ (b7J ((p.2.1,row,a,(0:Int),()),())) ?_:_)
  ·intro k f y;unfold b3l;have b:decide ((k:Int)<(p.2.1.length:Int))=true:=by simp;omega
   have d:decide (0<=(k:Int))=true:=by simp
   have e:getD p.2.1 k (zero (Ty.int IntKind.i64))=aAt p k:=rfl;have i:decide (aAt p k<a)=true:=by simpa using B k y
   simp only[a2H k (by omega),b,d,Bool.and_self,cond_true,toNat_natCast,e,i]
  ·intro f;unfold b3l;have b:decide ((j:Int)<(p.2.1.length:Int))=true:=by simp;omega
   have d:decide (0<=(j:Int))=true:=by simp
   have e:getD p.2.1 j (zero (Ty.int IntKind.i64))=aAt p j:=rfl;have i:decide (aAt p j<a)=false:=by simp;omega
   simp only[b,d,Bool.and_self,cond_true,toNat_natCast,e,i,cond_false]
  ·simp only[b7J];omega
 unfold d3W e2A;have b:decide ((j:Int)<(p.2.1.length:Int))=true:=by simp;omega
 have g:decide ((j:Int)<(row.length:Int))=true:=by simp;omega
 have d:decide (0<=(j:Int))=true:=by simp
 have e:getD p.2.1 j (zero (Ty.int IntKind.i64))=aAt p j:=rfl;have w:getD row j (zero (Ty.flt FloatKind.f32))=row.getD j 0:=rfl;simp only[c3S,c3T,z,isSome_some,getD_some,cond_true,b,g,d,Bool.and_self,toNat_natCast,e,w];cases c:(aAt p j==a)
 ·have n:aAt p j≠a:=by simpa using c
  have m:0<j:=by
   rcases Nat.eq_zero_or_pos j with l|l
   ·rw[l]at A n;omega
   ·exact l
  have o:decide (0<=((j-1:Nat):Int))=true:=by simp
  have r:decide (((j-1:Nat):Int)<(p.2.1.length:Int))=true:=by simp;omega
  have s:decide (((j-1:Nat):Int)<(row.length:Int))=true:=by simp;omega
  have x:getD p.2.1 (j-1) (zero (Ty.int IntKind.i64))=aAt p (j-1):=rfl;have hd:getD row (j-1) (zero (Ty.flt FloatKind.f32))=row.getD (j-1) 0:=rfl;simp only[cond_false,c8M j m (by omega),o,r,s,Bool.and_self,cond_true,toNat_natCast,x,hd];rfl
 ·rfl
def c1z (p:a4Q) (wind:Nat):Nat:=(a0x (fun k=>!fle (wAt p (k+1)) wind) 0 (p.1.length-1)).getD 0
def a7j (p:a4Q) (wind:Nat) (a:Int):Nat:=
 bif fle wind (wAt p 0)then a0b .mul .f32 (a0b .quo .f32 wind (wAt p 0)) (b4s p (rAt p 0) a)
 else bif fge wind (wAt p (p.1.length-1))then b4s p (rAt p (p.1.length-1)) a
 else e7H (b4s p (rAt p (c1z p wind)) a) (b4s p (rAt p (c1z p wind+1)) a) (a0b .quo .f32 (a0b .sub .f32 wind (wAt p (c1z p wind))) (a0b .sub .f32 (wAt p (c1z p wind+1)) (wAt p (c1z p wind))))
theorem g0O {p:a4Q} (h:POK p) {i:Nat} (a:i<p.1.length):∃s m e,Ieee.single.read (wAt p i) = .number s m e:=by
 have:=h.wind i a;unfold a3c at this;simp only[and_eq_true]at this;exact e7G (c7r this.1.1) this.1.2
theorem b6n {p:a4Q} (h:POK p) {wind:Nat} (b:fge wind 0=true) (d:fle wind 1120403456=true) (l:fle wind (wAt p 0)=false) (a:fge wind (wAt p (p.1.length-1))=false) :
 c1z p wind+1<p.1.length /\ fle (wAt p (c1z p wind+1)) wind=false /\ ∀i,i<c1z p wind->fle (wAt p (i+1)) wind=true:=by
 have f:=e7G b d;have r:=h.w1;unfold c1z;cases hf:a0x (fun k=>!fle (wAt p (k+1)) wind) 0 (p.1.length-1)with
 | none =>
   exfalso;by_cases c:p.1.length=1
   ·rw[c]at a;have:=(c7s f (g0O h (i:=0) (by omega))).2 l;rw[this]at a;cases a
   ·have:=a1X.1 hf (p.1.length-2) (zero_le _) (by omega);have e:p.1.length-2+1=p.1.length-1:=by omega
    rw[e]at this;have g:=(c7s f (g0O h (i:=p.1.length-1) (by omega))).1;rw[g]at a;rw[a]at this;cases this
 | some j =>
   obtain⟨_,q,m,n⟩:=a1W hf;show j+1<p.1.length /\ fle (wAt p (j+1)) wind=false /\ ∀i,i<j->fle (wAt p (i+1)) wind=true;refine⟨by omega,by simpa using m,fun i o=>?_⟩;have:=n i (zero_le _) o;simpa using this
theorem e0t {p:a4Q} (h:POK p) (wind:Nat) (a:Int) (t:fge wind 0=true) (u:fle wind 1120403456=true) (g:0<=a) (i:a<=180):e6c (p,wind,a,())=some (a7j p wind a,()):=by
 have J:=h.w1;have G:=h.w2;have K:=h.s;unfold e6c a7j;have v:decide ((0:Int)<(p.1.length:Int))=true:=by simp;omega
 have l:decide ((0:Int)<(p.2.2.1.length:Int))=true:=by simp;omega
 have b:getD p.1 0 (zero (Ty.flt FloatKind.f32))=wAt p 0:=rfl;have r:getD p.2.2.1 0 (zero (Ty.slice (Ty.flt FloatKind.f32)))=rAt p 0:=rfl;have y:d5K (p,rAt p 0,a,())=some (b4s p (rAt p 0) a,()):=b1M h _ _ (h.row 0 (by omega)).1 g i;have C:wrap IntKind.i64 ((p.1.length:Int)-1)=((p.1.length-1:Nat):Int):=c8M _ (by omega) (by omega);have D:decide (((p.1.length-1:Nat):Int)<(p.1.length:Int))=true:=by simp;omega
 have o:decide (((p.1.length-1:Nat):Int)<(p.2.2.1.length:Int))=true:=by simp;omega
 have E:decide (0<=((p.1.length-1:Nat):Int))=true:=by simp
 have s:getD p.1 (p.1.length-1) (zero (Ty.flt FloatKind.f32))=wAt p (p.1.length-1):=rfl;have hd:getD p.2.2.1 (p.1.length-1) (zero (Ty.slice (Ty.flt FloatKind.f32)))=rAt p (p.1.length-1):=rfl;have z:d5K (p,rAt p (p.1.length-1),a,())=some (b4s p (rAt p (p.1.length-1)) a,()):=b1M h _ _ (h.row _ (by omega)).1 g i;simp only[v,l,C,D,o,E,Bool.and_self,toNat_natCast,Int.toNat_zero,b,r,s,hd,e2n,e2o,y,z,isSome_some,getD_some,cond_true,le_refl,decide_true,Bool.true_and];show(bif fle wind (wAt p 0)then _ else bif fge wind (wAt p (p.1.length-1))then _ else _)=_;cases c1:fle wind (wAt p 0)
 rotate_left
 ·rfl
 cases c2:fge wind (wAt p (p.1.length-1))
 rotate_left
 ·rfl
 obtain⟨L,H,I⟩:=b6n h t u c1 c2;generalize c1z p wind=j at *;have c:b8t ((wind,a,(),(0:Int),()),(p,()))=some ((wind,a,(),(j:Int),()),(p,())):=by
  refine(a1K (q:=b3J) (fun k=>((wind,a,(),(k:Int),()),(p,()))) j ((wind,a,(),(j:Int),()),(p,())) ?_ ?_ (b8s ((wind,a,(),(0:Int),()),(p,()))) ?_:_)
  ·intro k f F;unfold b3J;have d:decide (((k+1:Nat):Int)<(p.1.length:Int))=true:=by simp;omega
   have e:decide (0<=((k+1:Nat):Int))=true:=by simp;omega
   have b:getD p.1 (k+1) (zero (Ty.flt FloatKind.f32))=wAt p (k+1):=rfl;simp only[a2H k (by omega),d,e,Bool.and_self,cond_true,toNat_natCast,b];show(bif fle (wAt p (k+1)) wind then _ else _)=_;rw[I k F];rfl
  ·intro f;unfold b3J;have d:decide (((j+1:Nat):Int)<(p.1.length:Int))=true:=by simp;omega
   have e:decide (0<=((j+1:Nat):Int))=true:=by simp;omega
   have b:getD p.1 (j+1) (zero (Ty.flt FloatKind.f32))=wAt p (j+1):=rfl;simp only[a2H j (by omega),d,e,Bool.and_self,cond_true,toNat_natCast,b];show(bif fle (wAt p (j+1)) wind then _ else _)=_;rw[H];rfl
  ·simp only[b8s];omega
 have d:decide (((j+1:Nat):Int)<(p.1.length:Int))=true:=by simp;omega
 have m:decide (((j+1:Nat):Int)<(p.2.2.1.length:Int))=true:=by simp;omega
 have e:decide (0<=((j+1:Nat):Int))=true:=by simp;omega
 have w:decide ((j:Int)<(p.1.length:Int))=true:=by simp;omega
 have n:decide ((j:Int)<(p.2.2.1.length:Int))=true:=by simp;omega
 have x:decide (0<=(j:Int))=true:=by simp
 have b:getD p.1 (j+1) (zero (Ty.flt FloatKind.f32))=wAt p (j+1):=rfl;have r:getD p.1 j (zero (Ty.flt FloatKind.f32))=wAt p j:=rfl;have s:getD p.2.2.1 j (zero (Ty.slice (Ty.flt FloatKind.f32)))=rAt p j:=rfl;have hd:getD p.2.2.1 (j+1) (zero (Ty.slice (Ty.flt FloatKind.f32)))=rAt p (j+1):=rfl;have A:d5K (p,rAt p j,a,())=some (b4s p (rAt p j) a,()):=b1M h _ _ (h.row _ (by omega)).1 g i;have B:d5K (p,rAt p (j+1),a,())=some (b4s p (rAt p (j+1)) a,()):=b1M h _ _ (h.row _ (by omega)).1 g i;simp only[c5l,c5m,c,isSome_some,getD_some,cond_true,cond_false,a2H j (by omega),d,m,e,w,n,x,Bool.and_self,toNat_natCast,b,r,s,hd,A,B];rfl
def b0w (p:a4Q) (wind:Nat) (a:Int):Nat×Bool×Unit:=bif a2b p&&(fge wind 0&&(fle wind 1120403456&&a0m a 0 180))then(a7j p wind a,true,())else(0,false,())
theorem e0u (p:a4Q) (wind:Nat) (a:Int):e9R (p,wind,a,())=some (b0w p wind a):=by
 unfold e9R b0w;have b:F90 (p,())=some (a2b p,()):=d6m p;have c:F44 (a,0,180,())=some (a0m a 0 180,()):=a3J _ _ _;simp only[K90,G90,b,K44,G44,c,isSome_some,getD_some,cond_true];show(bif !a2b p then _ else bif fge wind 0 then bif !fle wind 1120403456 then _ else bif !a0m a 0 180 then _ else _ else _)=_;cases c1:a2b p
 ·rfl
 cases c2:fge wind 0
 ·rfl
 cases c3:fle wind 1120403456
 ·rfl
 cases c4:a0m a 0 180
 ·rfl
 simp only[a0m,and_eq_true,decide_eq_true_eq]at c4;have d:e6c (p,wind,a,())=some (a7j p wind a,()):=e0t (pok c1) wind a c2 c3 c4.1 c4.2;simp only[f5f,f5g,d,isSome_some,getD_some,cond_true];rfl
theorem e0v (p:a4Q) (wind:Nat) (a:Int):e9n (p,wind,a,())=some (b0w p wind a):=by
 unfold e9n b0w;have b:F99 (p,())=some (a2b p,()):=d6n p;have c:F51 (a,0,180,())=some (a0m a 0 180,()):=a1x _ _ _;simp only[K99,G99,b,K51,G51,c,isSome_some,getD_some,cond_true];show(bif !a2b p then _ else bif fge wind 0 then bif !fle wind 1120403456 then _ else bif !a0m a 0 180 then _ else _ else _)=_;cases c1:a2b p
 ·rfl
 cases hw1:fge wind 0
 ·rfl
 cases hw2:fle wind 1120403456
 ·rfl
 cases c4:a0m a 0 180
 ·rfl
 simp only[a0m,and_eq_true,decide_eq_true_eq]at c4;obtain⟨g,i⟩:=c4;have h:=pok c1;have H:=h.w1;have E:=h.w2;have I:=h.s;unfold a7j;have t:decide ((0:Int)<(p.1.length:Int))=true:=by simp;omega
 have l:decide ((0:Int)<(p.2.2.1.length:Int))=true:=by simp;omega
 have d:getD p.1 0 (zero (Ty.flt FloatKind.f32))=wAt p 0:=rfl;have r:getD p.2.2.1 0 (zero (Ty.slice (Ty.flt FloatKind.f32)))=rAt p 0:=rfl;have w:d3W (p.2.1,rAt p 0,a,())=some (b4s p (rAt p 0) a,()):=b1N h _ _ (h.row 0 (by omega)).1 g i;have A:wrap IntKind.i64 ((p.1.length:Int)-1)=((p.1.length-1:Nat):Int):=c8M _ (by omega) (by omega);have B:decide (((p.1.length-1:Nat):Int)<(p.1.length:Int))=true:=by simp;omega
 have o:decide (((p.1.length-1:Nat):Int)<(p.2.2.1.length:Int))=true:=by simp;omega
 have C:decide (0<=((p.1.length-1:Nat):Int))=true:=by simp
 have s:getD p.1 (p.1.length-1) (zero (Ty.flt FloatKind.f32))=wAt p (p.1.length-1):=rfl;have hd:getD p.2.2.1 (p.1.length-1) (zero (Ty.slice (Ty.flt FloatKind.f32)))=rAt p (p.1.length-1):=rfl;have x:d3W (p.2.1,rAt p (p.1.length-1),a,())=some (b4s p (rAt p (p.1.length-1)) a,()):=b1N h _ _ (h.row _ (by omega)).1 g i;simp only[Bool.not_true,cond_false,cond_true,Bool.true_and,t,l,A,B,o,C,Bool.and_self,toNat_natCast,Int.toNat_zero,d,r,s,hd,e2e,e2f,w,x,isSome_some,getD_some,le_refl,decide_true];show(bif fle wind (wAt p 0)then _ else bif fge wind (wAt p (p.1.length-1))then _ else _)=_;cases c1:fle wind (wAt p 0)
 rotate_left
 ·rfl
 cases c2:fge wind (wAt p (p.1.length-1))
 rotate_left
 ·rfl
 obtain⟨J,F,G⟩:=b6n h hw1 hw2 c1 c2;generalize c1z p wind=j at *;have e:b1o ((wind,a,(),(0:Int),()),(p,()))=some ((wind,a,(),(j:Int),()),(p,())):=by
  refine(a1K (q:=a8D) (fun k=>((wind,a,(),(k:Int),()),(p,()))) j ((wind,a,(),(j:Int),()),(p,())) ?_ ?_ (b1n ((wind,a,(),(0:Int),()),(p,()))) ?_:_)
  ·intro k f D;unfold a8D;have b:decide (((k+1:Nat):Int)<(p.1.length:Int))=true:=by simp;omega
   have c:decide (0<=((k+1:Nat):Int))=true:=by simp;omega
   have d:getD p.1 (k+1) (zero (Ty.flt FloatKind.f32))=wAt p (k+1):=rfl;simp only[a2H k (by omega),b,c,Bool.and_self,cond_true,toNat_natCast,d];show(bif fle (wAt p (k+1)) wind then _ else _)=_;rw[G k D];rfl
  ·intro f;unfold a8D;have b:decide (((j+1:Nat):Int)<(p.1.length:Int))=true:=by simp;omega
   have c:decide (0<=((j+1:Nat):Int))=true:=by simp;omega
   have d:getD p.1 (j+1) (zero (Ty.flt FloatKind.f32))=wAt p (j+1):=rfl;simp only[a2H j (by omega),b,c,Bool.and_self,cond_true,toNat_natCast,d];show(bif fle (wAt p (j+1)) wind then _ else _)=_;rw[F];rfl
  ·simp only[b1n];omega
 have b:decide (((j+1:Nat):Int)<(p.1.length:Int))=true:=by simp;omega
 have m:decide (((j+1:Nat):Int)<(p.2.2.1.length:Int))=true:=by simp;omega
 have c:decide (0<=((j+1:Nat):Int))=true:=by simp;omega
 have u:decide ((j:Int)<(p.1.length:Int))=true:=by simp;omega
 have n:decide ((j:Int)<(p.2.2.1.length:Int))=true:=by simp;omega
 have v:decide (0<=(j:Int))=true:=by simp
 have d:getD p.1 (j+1) (zero (Ty.flt FloatKind.f32))=wAt p (j+1):=rfl;have r:getD p.1 j (zero (Ty.flt FloatKind.f32))=wAt p j:=rfl;have s:getD p.2.2.1 j (zero (Ty.slice (Ty.flt FloatKind.f32)))=rAt p j:=rfl;have hd:getD p.2.2.1 (j+1) (zero (Ty.slice (Ty.flt FloatKind.f32)))=rAt p (j+1):=rfl;have y:d3W (p.2.1,rAt p j,a,())=some (b4s p (rAt p j) a,()):=b1N h _ _ (h.row _ (by omega)).1 g i;have z:d3W (p.2.1,rAt p (j+1),a,())=some (b4s p (rAt p (j+1)) a,()):=b1N h _ _ (h.row _ (by omega)).1 g i;simp only[b7L,b7M,e,isSome_some,getD_some,cond_true,cond_false,a2H j (by omega),b,m,c,u,n,v,Bool.and_self,toNat_natCast,d,r,s,hd,y,z];rfl
theorem c7u {v:Rat} (d:p2 (-1000)<=v) (b:v<p2 1000):∃B:Int,-1000<=B /\ B<=1000 /\ p2 B<=v /\ v<p2 (B+1):=by
 have ex:∃k:Nat,v<p2 ((k:Int)-999):=⟨1999,by show v<p2 1000;exact b⟩
 classical
 have a:∀n:Nat,v<p2 ((n:Int)-999)->n<=1999->∃B:Int,-1000<=B /\ B<=1000 /\ p2 B<=v /\ v<p2 (B+1):=by
  intro n
  induction n with
  |zero=>intro h _;exact⟨-1000,by omega,by omega,d,by simpa using h⟩
  | succ n f =>
    intro h g;by_cases c:v<p2 ((n:Int)-999)
    ·exact f c (by omega)
    ·refine⟨(n:Int)-999,by omega,by omega,by grind,?_⟩;have e:((n:Int)-999)+1=((n+1:Nat):Int)-999:=by omega
     rw[e];exact h
 exact a 1999 (by show v<p2 1000;exact b) (le_refl _)
theorem e7I {a b:Nat} {x y:Rat} (j:IsR a x) (k:IsR b y) (g:p2 (-1000)<=x+y) (h:x+y<p2 1000):∃r,IsR (a0b .add .f64 a b) r /\ b4K r (x+y) ((x+y)/1000000000000000):=by
 obtain⟨B,n,o,c,d⟩:=c7u g h;have s:=a0q (B+1);have l:=a0q (-1000);obtain⟨r,i,p,q⟩:=g2m j k B (by omega) (by omega) d (by grind);have e:p2 (B-53)=p2 B*p2 (-53):=by rw[Int.sub_eq_add_neg,a0G]
 have f:p2 (-53)<=1/1000000000000000:=by decide +kernel
 have m:=Rat.mul_le_mul_of_nonneg_left f (show 0<=p2 B from Rat.le_of_lt (a0q B));have t:=a0r c (show(0:Rat)<=1/1000000000000000 by decide +kernel);exact⟨r,i,by grind,by grind⟩
theorem d7c {a b:Nat} {x y q:Rat} (i:IsR a x) (j:IsR b y) (n:y≠0) (l:q*y=x) (f:p2 (-1000)<=q) (g:q<p2 1000):∃r,IsR (a0b .quo .f64 a b) r /\ b4K r q (q/1000000000000000):=by
 obtain⟨B,o,p,c,s⟩:=c7u f g;have v:=a0q (B+1);have k:=a0q (-1000);obtain⟨r,h,t,u⟩:=g0L i j n l (B+1) (by omega) (by omega) (by grind) (by grind);have e:p2 (B+1-52)=p2 B*p2 (-51):=by rw[<- a0G];congr 1;omega
 have d:p2 (-51)<=1/1000000000000000:=by decide +kernel
 have m:=Rat.mul_le_mul_of_nonneg_left d (show 0<=p2 B from Rat.le_of_lt (a0q B));have w:=a0r c (show(0:Rat)<=1/1000000000000000 by decide +kernel);exact⟨r,h,by grind,by grind⟩
theorem a4R {z g:Rat} (a:0<g) (c:0<=z*g):0<=z:=by
 apply Classical.byContradiction;intro b;have:=Rat.mul_pos (show 0 < -z by grind) a;grind
theorem a6o {z M x:Rat} (c:1/10000000000000<=x) (a:2<=M) (b:M<=1000000000000000000) (g:0<=z*M-x):4*p2 (-1000)<=z:=by
 have e:4*p2 (-1000)<=1/10000000000000000000000000000000000:=by decide +kernel
 apply Classical.byContradiction;intro f;have d:=Rat.mul_nonneg (show 0<=1/10000000000000000000000000000000000-z by grind) (show 0<=M by grind);grind
theorem c7v {x g M:Rat} {w v:Nat} (F:IsR w x) (t:IsR v g) (d:1/10000000000000<=x) (a:2<=M) (A:2*x<=M) (b:M<=1000000000000000000) (P:x<=g*M) (Q:g<=M) (f:0<g) :
 ∃k,IsR (a0b .quo .f64 (a0b .add .f64 v (a0b .quo .f64 w v)) 4611686018427387904) k /\ x<=k*M /\ k<=M /\ 0<k:=by
 have i:g≠0:=by grind
 obtain⟨q0,l⟩:∃q0,q0=x/g:=⟨_,rfl⟩;have j:q0*g=x:=by rw[l];grind
 have C:0<=M-q0:=a4R f (by grind);have h:0<=q0*M-x:=by
  have:0<=q0:=a4R f (by rw[j];grind);have:=Rat.mul_nonneg this (show 0<=M-g by grind);grind
 have y:(4000000000000000000:Rat)<p2 1000:=by decide +kernel
 obtain⟨q,B,H,I⟩:=d7c F t i j (by have:=a6o d a b h;have:=a0q (-1000);grind) (by grind);have o:p2 (-1000)<=g+q:=by
  have:=a6o (z:=g) d a b (by grind);have:=a6o d a b h;have:=a0q (-1000);grind
 obtain⟨s,E,L,N⟩:=e7I t B o (by grind);have p:p2 (-1000)<=s/2:=by
  have e:=a6o (z:=g) d a b (by grind);have O:=a6o d a b h;have:=a0q (-1000);grind
 obtain⟨r,D,J,K⟩:=d7c (q:=s/2) E g2L (by decide) (by grind) p (by grind);have R:3*x<=(g+q0)*M:=by
  by_cases c:1<=g
  ·have m:=Rat.mul_nonneg (show 0<=g-1 by grind) (show 0<=M by grind);grind
  ·have m:0<=q0-x:=a4R f (by
    have:=Rat.mul_nonneg (show 0<=x by grind) (show 0<=1-g by grind);grind)
   have u:=Rat.mul_nonneg m (show 0<=M by grind);have G:=Rat.mul_nonneg (show 0<=x by grind) (show 0<=M-2 by grind);grind
 have S:g+q0<=M+1/2:=by
  have m:=Rat.mul_nonneg (show 0<=M-g by grind) (show 0<=g*M-x by grind);have u:0<=(M*M+x-g*M-q0*M)*g:=by
   have:(M*M+x-g*M-q0*M)*g=(M-g)*(g*M-x):=by grind
   rw[this];exact m
  have G:=a4R f u;apply Classical.byContradiction;intro T;have U:=Rat.mul_pos (show 0<g+q0-M-1/2 by grind) (show 0<M by grind);grind
 have n:(g+q0)/2*(1-4/1000000000000000)<=r:=by grind
 refine⟨r,D,?_,by grind,?_⟩
 ·have m:=a0r n (show 0<=M by grind);grind
 ·grind
theorem b9B {w v:Nat} {x g M:Rat} (l:IsR w x) (j:IsR v g) (e:1/10000000000000<=x) (a:2<=M) (b:2*x<=M) (c:M<=1000000000000000000) (h:x<=g*M) (i:g<=M) (d:0<g):∀k,∃f,IsR (gk w v k) f /\ x<=f*M /\ f<=M /\ 0<f
 |0=>⟨g,j,h,i,d⟩
 | k+1=>by
   obtain⟨o,a1,a2,m,n⟩:=b9B l j e a b c h i d k;exact c7v l a1 e a b c a2 m n
theorem g0P:∃q,IsR 4427486594234968593 q /\ 1/10000000000000<=q:=by
 have h:∃m e,Ieee.double.read 4427486594234968593 = .number false m e /\ -1074<=e /\ 1/10000000000000<=RV false m e:=by
  refine⟨(match Ieee.double.read 4427486594234968593 with|.number _ m _=>m|_=>0),(match Ieee.double.read 4427486594234968593 with|.number _ _ e=>e|_=>0),?_,?_,?_⟩<;>decide +kernel
 obtain⟨m,e,a,b,c⟩:=h;exact⟨_,⟨false,m,e,a,b,rfl⟩,c⟩
theorem e7J:∃q,IsR 4861130398305394688 q /\ 1<=q /\ q<=200000000000000000:=by
 have h:∃m e,Ieee.double.read 4861130398305394688 = .number false m e /\ -1074<=e /\ 1<=RV false m e /\ RV false m e<=200000000000000000:=by
  refine⟨(match Ieee.double.read 4861130398305394688 with|.number _ m _=>m|_=>0),(match Ieee.double.read 4861130398305394688 with|.number _ _ e=>e|_=>0),?_,?_,?_,?_⟩<;>decide +kernel
 obtain⟨m,e,a,b,c,d⟩:=h;exact⟨_,⟨false,m,e,a,b,rfl⟩,c,d⟩
theorem e7K {w c d:Nat} {x y:Rat} (j:IsR c x) (hd:IsR d y) (h:(fgt .f64 w c||feq .f64 w c)=true) (g:(flt .f64 w d||feq .f64 w d)=true):∃q,IsR w q:=by
 obtain⟨s,m,e,k,_,_⟩:=j;obtain⟨t,n,f,i,_,_⟩:=hd;have l:FloatKind.f64.format.order w c=(Ieee.double.read w).order (Ieee.double.read c):=rfl;have o:FloatKind.f64.format.order w d=(Ieee.double.read w).order (Ieee.double.read d):=rfl;unfold fgt feq flt at *;rw[l,k]at h;rw[o,i]at g;cases hz:Ieee.double.read w with
 |number a b p=>exact⟨_,a,b,p,hz,b0u hz,rfl⟩
 |nan a b=>rw[hz]at g;simp[Ieee.Datum.order]at g
 | infinity a =>
   rw[hz]at h g;cases a<;>simp[Ieee.Datum.order]at h g
theorem d1X (w:Nat):∃r,IsR (b1L w) r /\ Abs r 1000000000000000000:=by
 have f:∃r,IsR 0 r /\ Abs r 1000000000000000000:=⟨0,e0r,by constructor<;>decide +kernel⟩;obtain⟨o,b,l⟩:=g0P;obtain⟨p,d,m,n⟩:=e7J;unfold b1L;generalize i:gk w (b1Y .f64 w 4607182418800017408) 60=G;cases h1:(fgt .f64 w 4427486594234968593||feq .f64 w 4427486594234968593)
 ·exact f
 cases h2:(flt .f64 w 4861130398305394688||feq .f64 w 4861130398305394688)
 ·exact f
 obtain⟨x,a⟩:=e7K b d h1 h2;rw[f5Q a b,e2s a b]at h1;rw[f0b a d,e2s a d]at h2;simp only[Bool.or_eq_true,decide_eq_true_eq]at h1 h2;show ∃r,IsR G r /\ _;have k:∃g,IsR (b1Y .f64 w 4607182418800017408) g /\ 1<=g /\ x<=g /\ (g=x∨g=1):=by
  unfold b1Y;rw[e6C a e7F];by_cases c:x<1
  ·rw[if_pos c];exact⟨1,e7F,by grind,by grind,.inr rfl⟩
  ·rw[if_neg c];by_cases c':1<x
   ·rw[if_pos c'];exact⟨x,a,by grind,by grind,.inl rfl⟩
   ·rw[if_neg c'];have:x=1:=by grind
    dsimp only;split
    ·exact⟨1,e7F,by grind,by grind,.inr rfl⟩
    ·exact⟨x,a,by grind,by grind,.inl rfl⟩
 obtain⟨g,j,q,s,t⟩:=k;have e:x<=g*(2*g):=by
  have:=Rat.mul_nonneg (show 0<=g-1 by grind) (show 0<=g by grind);grind
 obtain⟨r,h,u,v,y⟩:=b9B (M:=2*g) a j (by grind) (by grind) (by grind) (by grind) e (by grind) (by grind) 60;rw[i]at h;exact⟨r,h,by constructor<;>grind⟩
theorem e0w (z:Nat×Nat):∃r,IsR (c8Q z) r /\ Abs r 1000000000000000000:=by
 unfold c8Q;cases a3K z
 ·exact⟨0,e0r,by constructor<;>decide +kernel⟩
 ·exact d1X _
theorem a6p {b:Nat} {q:Rat} (h:IsR b q) (c:Abs q 1000000000000000000):a1J b=true:=by
 obtain⟨s,m,e,g,l,rfl⟩:=h;unfold a1J;have hd:FloatKind.f64.decode b = .number s m e:=g;rw[hd];show(!(Ieee.single.read (Ieee.single.nearest s m e)).isInfinity)=true;by_cases a:m=0
 ·subst a;unfold Ieee.Format.nearest;rw[if_pos rfl];cases s<;>decide +kernel
 ·have f:(m:Rat)*p2 e<p2 100:=by
   have n:(1000000000000000000:Rat)<p2 100:=by decide +kernel
   exact c6p s m e (by have:=c.2;grind) (by have:=c.1;grind)
  have i:((2^m.log2:Nat):Rat)<=(m:Rat):=a0e (Nat.log2_self_le a);have o:=a0r i (Rat.le_of_lt (a0q e));have j:p2 ((m.log2:Int)+e)<p2 100:=by
   rw[a0G,a0R];grind
  have p:=a3b j;obtain⟨t,r,k,d,_⟩:=d9Q s m e 100 (by omega) (by decide) (by decide);rw[d];rfl
def b6o (w:Nat×Nat):Nat×Nat:=((a0y .f32 .f64 w.1).2,(a0y .f32 .f64 w.2).2)
def a7x (w:Nat×Nat):Nat:=bif a2E w then(a0y .f64 .f32 (c8Q (b6o w))).2 else 0
theorem b9C (z:Nat×Nat):(a0y .f64 .f32 (c8Q z)).1=true:=by
 obtain⟨r,a,b⟩:=e0w z;exact a6p a b
theorem c7w (w:Nat×Nat):e5Z (w,())=some (a7x w,()):=by
 unfold e5Z a7x;have a:F45 (w,())=some (a2E w,()):=b0i w;have b:f4K (w,())=some (b6o w,()):=rfl;have c:e5X (b6o w,())=some (c8Q (b6o w),()):=e0q _;simp only[K45,G45,a,f4L,f4M,b,f4S,f4T,c,isSome_some,getD_some,cond_true,b9C];cases a2E w<;>rfl
theorem e0x (x:Nat):e4b (x,())=some (b1L x,()):=by
 have n:∀g,b7H ((x,g,(0:Int),()),())=some ((gk x g 60,()),()):=by
  intro g;have:=a1K (q:=b3k) (fun k=>((x,gk x g k,(k:Int),()),())) 60 ((gk x g 60,()),()) ?_ ?_ (b7G ((x,g,(0:Int),()),())) ?_
  ·exact this
  ·intro k f A;unfold b3k;have i:decide ((k:Int)<60)=true:=by simp;omega
   simp only[i,a2H k (by omega),cond_true];rfl
  ·intro f;unfold b3k;simp
  ·simp[b7G]
 have d:(fgt .f64 x 4427486594234968593||feq .f64 x 4427486594234968593)=true->(flt .f64 x 4861130398305394688||feq .f64 x 4861130398305394688)=true ->
  b1Y .f64 x 4607182418800017408=bif flt .f64 x 4607182418800017408 then 4607182418800017408 else x:=by
  intro b j;obtain⟨v,a,r⟩:=g0P;obtain⟨w,l,t,u⟩:=e7J;obtain⟨q,h⟩:=e7K a l b j;rw[f5Q h a,e2s h a]at b;simp only[Bool.or_eq_true,decide_eq_true_eq]at b;rw[f0b h e7F];unfold b1Y;rw[e6C h e7F];by_cases c:q<1
  ·rw[if_pos c,decide_eq_true c];rfl
  ·rw [if_neg c,decide_eq_false c];by_cases c':1<q
   ·rw[if_pos c'];rfl
   ·rw[if_neg c'];dsimp only;obtain⟨s,m,e,p,z,o⟩:=h;have hd:FloatKind.f64.decode x = .number s m e:=p;rw[hd];cases s
    ·rfl
    ·exfalso;have y:0<=(m:Rat)*p2 e:=Rat.mul_nonneg (a2k m) (Rat.le_of_lt (a0q e));have i:RV true m e=-((m:Rat)*p2 e):=by
      unfold RV;have:sgR true=-1:=rfl;rw[this];grind
     rw[i]at o;have:=c';grind
 unfold e4b b1L;simp only[b5s,b5t,n,isSome_some,getD_some,cond_true];cases b:(fgt .f64 x 4427486594234968593||feq .f64 x 4427486594234968593)
 ·rfl
 cases j:(flt .f64 x 4861130398305394688||feq .f64 x 4861130398305394688)
 ·rfl
 rw[d b j];generalize gk x=G;cases flt .f64 x 4607182418800017408<;>rfl
theorem e0y (z:Nat×Nat):e4d (z,())=some (c8Q z,()):=by
 unfold e4d c8Q;have a:F96 (z,())=some (a3K z,()):=a7e z;have b:e1Y (z,z,())=some (a9A z z,()):=rfl;have c:e4b (a9A z z,())=some (b1L (a9A z z),()):=e0x _;simp only[K96,G96,a,d0c,c8G,b,f2N,f2O,c,isSome_some,getD_some,cond_true];cases a3K z<;>rfl
theorem c7x (w:Nat×Nat):e4f (w,())=some (a7x w,()):=by
 unfold e4f a7x;have a:F52 (w,())=some (a2E w,()):=a4j w;have b:e9l (w,())=some (b6o w,()):=rfl;have c:e4d (b6o w,())=some (c8Q (b6o w),()):=e0y _;simp only[K52,G52,a,e3R,e3S,b,f2R,f2S,c,isSome_some,getD_some,cond_true,b9C];cases a2E w<;>rfl
def upV (p:a4Q) (wind:Nat) (a:Int) (u:Nat×Nat):Nat:=a0b .mul .f32 (a7j p wind a) (a0y .f64 .f32 u.1).2
theorem b4t (k:Nat) (a:k<360):(a0y .f64 .f32 (a0T k).1).1=true:=a6p (tcR a) ((d6Z a).1.mono (by decide +kernel))
structure g2M (p:a4Q) (wind:Nat):Prop where
 ok:a2b p=true
 w1:fge wind 0=true
 w2:fle wind 1120403456=true
def e0z (p:a4Q) (wind:Nat) (a:Int):Nat×Bool×Unit:=bif a2b p&&(fge wind 0&&(fle wind 1120403456&&a0m a 0 180))then(upV p wind a (a0T (md a)),true,())else(0,false,())
def mm (a:Nat->Nat) (b c:Int):Nat->Int×Nat
 |0=>(b,0)
 |k+1=>bif a0m (k:Int) b c then(bif (k:Int)==b then((k:Int),a k)else bif fgt .f32 (a k) (mm a b c k).2 then((k:Int),a k)else mm a b c k)else mm a b c k
def a2m (w:Nat×Nat):Int:=bif !a2E w then -1 else bif (feq .f32 w.1 0&&feq .f32 w.2 0)then -1 else b1K ((a0y .f32 .f64 (a3g .f32 w.1)).2,(a0y .f32 .f64 (a3g .f32 w.2)).2)
theorem c7y (w:Nat×Nat):e5T (w,())=some (a2m w,()):=by
 unfold e5T a2m;have a:F45 (w,())=some (a2E w,()):=b0i w;have b:e5R (((a0y .f32 .f64 (a3g .f32 w.1)).2,(a0y .f32 .f64 (a3g .f32 w.2)).2),())=some (b1K ((a0y .f32 .f64 (a3g .f32 w.1)).2,(a0y .f32 .f64 (a3g .f32 w.2)).2),()):=e0o _;simp only[K45,G45,a,f4G,f4H,b,isSome_some,getD_some,cond_true];generalize b1K ((a0y .f32 .f64 (a3g .f32 w.1)).2,(a0y .f32 .f64 (a3g .f32 w.2)).2)=B;cases a2E w
 ·rfl
 ·cases (feq .f32 w.1 0&&feq .f32 w.2 0)<;>rfl
theorem d1Y (z:Nat×Nat):e3Y (z,())=some (b1K z,()):=by
 have b:∀k,bm z (k+1)=bs z k:=by
  intro k
  induction k with
  |zero=>rfl
  | succ k i =>
    show(bif ((k+1:Nat):Int)==0 then _ else bif fgt .f64 (a9A z (a0T (k+1))) (bm z (k+1)).2 then _ else bm z (k+1))=_;have:(((k+1:Nat):Int)==0)=false:=by simp;omega
    rw[this,i];rfl
 have h:b7E ((z,0,(4607182418800017408,0),a9A z (a0T 0),1,()),())=some (((bs z 359).1,()),()):=by
  have:=a1K (q:=b3j) (fun k=>((z,(bs z k).1,a0T k,(bs z k).2,((k+1:Nat):Int),()),())) 359 (((bs z 359).1,()),()) ?_ ?_ (b7D ((z,0,(4607182418800017408,0),a9A z (a0T 0),1,()),())) ?_
  ·exact this
  ·intro k f j;unfold b3j;have d:decide (((k+1:Nat):Int)<360)=true:=by simp;omega
   have e:e9m ()=some (b4o,()):=rfl;have g:e3V (a0T k,b4o,())=some (a0T (k+1),()):=c7n _ _;have a:e1Y (z,a0T (k+1),())=some (a9A z (a0T (k+1)),()):=rfl;simp only[d,a2H (k+1) (by omega),e3T,e3U,e,e3W,e3X,g,d0c,c8G,a,isSome_some,getD_some,cond_true,bs];cases fgt .f64 (a9A z (a0T (k+1))) (bs z k).2<;>rfl
  ·intro f;unfold b3j;simp
  ·simp[b7D]
 unfold e3Y;have c:F96 (z,())=some (a3K z,()):=a7e z;have a:e1Y (z,(4607182418800017408,0),())=some (a9A z (a0T 0),()):=rfl;simp only[K96,G96,c,d0c,c8G,a,c3P,c3Q,h,isSome_some,getD_some,cond_true];unfold b1K;rw[b 359];generalize bs z 359=B;cases a3K z
 ·rfl
 ·show(bif c7o z then some ((-1:Int),())else _)=_;cases c7o z<;>rfl
theorem c7z (w:Nat×Nat):e4a (w,())=some (a2m w,()):=by
 unfold e4a a2m;have a:F52 (w,())=some (a2E w,()):=a4j w;have c:e9l ((a3g .f32 w.1,a3g .f32 w.2),())=some (((a0y .f32 .f64 (a3g .f32 w.1)).2,(a0y .f32 .f64 (a3g .f32 w.2)).2),()):=rfl;have b:e3Y (((a0y .f32 .f64 (a3g .f32 w.1)).2,(a0y .f32 .f64 (a3g .f32 w.2)).2),())=some (b1K ((a0y .f32 .f64 (a3g .f32 w.1)).2,(a0y .f32 .f64 (a3g .f32 w.2)).2),()):=d1Y _;simp only[K52,G52,a,e3R,e3S,c,f2I,f2J,b,isSome_some,getD_some,cond_true];generalize b1K ((a0y .f32 .f64 (a3g .f32 w.1)).2,(a0y .f32 .f64 (a3g .f32 w.2)).2)=B;cases a2E w
 ·rfl
 ·cases (feq .f32 w.1 0&&feq .f32 w.2 0)<;>rfl
def sm (cmp:Nat->Nat->Bool) (p:a4Q) (wind:Nat) (a:Int):Nat->Int×Nat
 |0=>(a,(e0z p wind a).1)
 |k+1=>bif cmp (e0z p wind (a+((k+1:Nat):Int))).1 (sm cmp p wind a k).2 then(a+((k+1:Nat):Int),(e0z p wind (a+((k+1:Nat):Int))).1)else sm cmp p wind a k
def a4o (Y:Yv):Nat:=bif decide (a2m Y.wd<0)then 0 else(b0w Y.1.1 (a7x Y.wd) (btw Y.hd (a2m Y.wd))).1
theorem e7L (Y:Yv):F57 (Y,())=some (a4o Y,()):=by
 have a:e5T (Y.wd,())=some (a2m Y.wd,()):=c7y _;have b:e5Z (Y.wd,())=some (a7x Y.wd,()):=c7w _;have c:e6a (Y.hd,a2m Y.wd,())=some (btw Y.hd (a2m Y.wd),()):=c7k _ _;have d:=e0u Y.1.1 (a7x Y.wd) (btw Y.hd (a2m Y.wd));unfold F57 a4o;show(bif e2k (Y.wd,())then _ else _)=_;have⟨k1,g1⟩:=kgP e2k d0Q a;have⟨k2,g2⟩:=kgP e2l d9q b;have⟨k3,g3⟩:=kgP e2m d9r c;have⟨k4,g4⟩:=kgP e9S e9T d;rw[k1,cond_true];show(bif decide ((d0Q (Y.wd,())).1<0)then _ else bif e2l (Y.wd,())then bif e2m (Y.hd,d0Q (Y.wd,()))then bif e9S (Y.1.1,(d9q (Y.wd,())).1,d9r (Y.hd,d0Q (Y.wd,())))then some ((e9T (Y.1.1,(d9q (Y.wd,())).1,d9r (Y.hd,d0Q (Y.wd,())))).1,())else none else none else none)=_;rw[g1,k2,g2,k3,g3];dsimp only;rw[k4,g4];cases decide (a2m Y.wd<0)<;>rfl
theorem c7A (Y:Yv):e9q (Y,())=some (a4o Y,()):=by
 have a:e4a (Y.wd,())=some (a2m Y.wd,()):=c7z _;have b:e4f (Y.wd,())=some (a7x Y.wd,()):=c7x _;have c:e4g (Y.hd,a2m Y.wd,())=some (btw Y.hd (a2m Y.wd),()):=c7l _ _;have d:=e0v Y.1.1 (a7x Y.wd) (btw Y.hd (a2m Y.wd));unfold e9q a4o;show(bif e1Z (Y.wd,())then _ else _)=_;have⟨k1,g1⟩:=kgP e1Z d0e a;have⟨k2,g2⟩:=kgP e2a d8G b;have⟨k3,g3⟩:=kgP e2b d8K c;have⟨k4,g4⟩:=kgP e9o e9p d;rw[k1,cond_true];show(bif decide ((d0e (Y.wd,())).1<0)then _ else bif e2a (Y.wd,())then bif e2b (Y.hd,d0e (Y.wd,()))then bif e9o (Y.1.1,(d8G (Y.wd,())).1,d8K (Y.hd,d0e (Y.wd,())))then some ((e9p (Y.1.1,(d8G (Y.wd,())).1,d8K (Y.hd,d0e (Y.wd,())))).1,())else none else none else none)=_;rw[g1,k2,g2,k3,g3];dsimp only;rw[k4,g4];cases decide (a2m Y.wd<0)<;>rfl
def d7d (u:Nat×Nat) (s:Nat):Nat×Nat:=(a0b .mul .f32 (a0y .f64 .f32 u.1).2 s,a0b .mul .f32 (a0y .f64 .f32 u.2).2 s)
def b4u (k:Int) (s:Nat):(Nat×Nat)×Bool×Unit:=bif !a2e s then((0,0),false,())else(d7d (a0T (md k)) s,true,())
theorem b0x (k:Nat) (a:k<360):(a0y .f64 .f32 (a0T k).2).1=true:=a6p (tsR a) ((d6Z a).2.mono (by decide +kernel))
theorem e0A (k:Nat) (a:k<360) (s:Nat):e9V (a0T k,s,())=some (d7d (a0T k) s,()):=by
 unfold e9V;dsimp only;rw[b4t k a,b0x k a];rfl
theorem e7M (k:Int) (s:Nat):F56 (k,s,())=some (b4u k s):=by
 have a:=c6s s;have b:=e0k k;have c:=e0A (md k) (a7w k) s;unfold F56 b4u;dsimp only;simp only[e5h,e5i,a,f5l,f5m,b,f5p,f5q,c,isSome_some,getD_some,cond_true];cases a2e s<;>rfl
theorem c7B (k:Int) (s:Nat):e4k (k,s,())=some (b4u k s):=by
 have a:=e0l k;unfold e4k b4u;dsimp only;simp only[f3f,f3g,a,isSome_some,getD_some,cond_true,b4t _ (a7w k),b0x _ (a7w k)];show(bif fge s 0 then bif !(fle s 1112014848)then _ else _ else _)=_;unfold a2e;cases fge s 0
 ·rfl
 ·cases fle s 1112014848<;>rfl
def apV (w v:Nat×Nat):(Nat×Nat)×Bool×Unit:=bif !a2E w then((0,0),false,())else bif !a2E v then((0,0),false,())else((a0b .sub .f32 w.1 v.1,a0b .sub .f32 w.2 v.2),true,())
theorem e0B (w v:Nat×Nat):e9W (w,v,())=some (apV w v):=by
 have a:=b0i w;have b:=b0i v;unfold e9W apV;dsimp only;simp only[K45,G45,a,b,isSome_some,getD_some,cond_true];cases a2E w
 ·rfl
 ·cases a2E v<;>rfl
theorem e0C (w v:Nat×Nat):e9s (w,v,())=some (apV w v):=by
 have a:=a4j w;have b:=a4j v;unfold e9s apV;dsimp only;simp only[K52,G52,a,b,isSome_some,getD_some,cond_true];cases a2E w
 ·rfl
 ·cases a2E v<;>rfl
def d7e (w v:Nat×Nat) (k:Int):Den R58:=
 bif !(apV w v).2.1 then((0,0,()),false,())else bif decide (a2m (apV w v).1<0)then((0,0,()),false,())else((a7x (apV w v).1,btw k (a2m (apV w v).1),()),true,())
theorem e7N (w v:Nat×Nat) (k:Int):F58 (w,v,k,())=some (d7e w v k):=by
 have a:=e0B w v;have b:=c7y (apV w v).1;have c:=c7w (apV w v).1;have d:=c7k k (a2m (apV w v).1);unfold F58 d7e;dsimp only;simp only[f5t,f5u,a,e2k,d0Q,b,e2l,d9q,c,e2m,d9r,d,isSome_some,getD_some,cond_true];cases (apV w v).2.1
 ·rfl
 ·cases decide (a2m (apV w v).1<0)<;>rfl
theorem e0D (w v:Nat×Nat) (k:Int):e9t (w,v,k,())=some (d7e w v k):=by
 have a:=e0C w v;have b:=c7z (apV w v).1;have c:=c7x (apV w v).1;have d:=c7l k (a2m (apV w v).1);unfold e9t d7e;dsimp only;simp only[f3k,f3l,a,e1Z,d0e,b,e2a,d8G,c,e2b,d8K,d,isSome_some,getD_some,cond_true];cases (apV w v).2.1
 ·rfl
 ·cases decide (a2m (apV w v).1<0)<;>rfl
def a7y (Y:Yv):Den R19:=bif !(b4u Y.hd (a4o Y)).2.1 then((0,0,()),false,())else d7e Y.wd (b4u Y.hd (a4o Y)).1 Y.hd
def a1y (Y:Yv):Den R19:=d7e Y.wd (b4u Y.hd (a4o Y)).1 Y.hd
theorem e7O (Y:Yv):F19 (Y,())=some (a7y Y):=by
 have a:=e7L Y;have b:=e7M Y.hd (a4o Y);have c:=e7N Y.wd (b4u Y.hd (a4o Y)).1 Y.hd;have⟨k1,g1⟩:=kgP K57 G57 a;have⟨k2,g2⟩:=kgP K56 G56 b;have⟨k3,g3⟩:=kgP K58 G58 c;unfold F19 a7y;show(bif K57 (Y,())then bif K56 (Y.hd,G57 (Y,()))then bif !(G56 (Y.hd,G57 (Y,()))).2.1 then _ else bif K58 (Y.wd,(G56 (Y.hd,G57 (Y,()))).1,Y.hd,())then some (G58 (Y.wd,(G56 (Y.hd,G57 (Y,()))).1,Y.hd,()))else none else none else none)=_;rw[k1,g1,k2,g2,k3,g3];cases (b4u Y.hd (a4o Y)).2.1<;>rfl
theorem c7C (Y:Yv):F54 (Y,())=some (a1y Y):=by
 have a:=c7A Y;have b:=c7B Y.hd (a4o Y);have c:=e0D Y.wd (b4u Y.hd (a4o Y)).1 Y.hd;have⟨k1,g1⟩:=kgP e2g d3X a;have⟨k2,g2⟩:=kgP e2h d8L b;have⟨k3,g3⟩:=kgP e9u e9v c;unfold F54 a1y;show(bif e2g (Y,())then bif e2h (Y.hd,d3X (Y,()))then bif e9u (Y.wd,(d8L (Y.hd,d3X (Y,()))).1,Y.hd,())then some (e9v (Y.wd,(d8L (Y.hd,d3X (Y,()))).1,Y.hd,()))else none else none else none)=_;rw[k1,g1,k2,g2,k3,g3];rfl
theorem e7P (a b:Int):0<=btw a b /\ btw a b<=180:=by
 have h:md ((md b:Int)-(md a:Int))<360:=a7w _;unfold btw;dsimp only;split<;>omega
theorem e0E:I64 0:=⟨by decide,by decide⟩
theorem b9D (w v:Nat×Nat) (k:Int):I64 (d7e w v k).1.2.1:=by
 have:=e7P k (a2m (apV w v).1);unfold d7e;cases (apV w v).2.1
 ·exact e0E
 ·cases decide (a2m (apV w v).1<0)
  ·show I64 (btw k (a2m (apV w v).1));unfold I64;omega
  ·exact e0E
theorem c7D (Y:Yv):I64 (a7y Y).1.2.1:=by
 unfold a7y;cases (b4u Y.hd (a4o Y)).2.1
 ·exact e0E
 ·exact b9D _ _ _
theorem b4v (Y:Yv):I64 (a1y Y).1.2.1:=b9D _ _ _
theorem c7E (neg:Bool) (M c v d:Nat) (F:0<M) (h:M*2^c=v*2^d) (p:v<2^53) (hd:d<=1500) :
 ∃K e:Nat,Ieee.double.nearest neg M ((c:Int)-1074)=Ieee.double.word neg (e*2^52+K) /\ e*2^52+K<2047*2^52 /\ ((e=0 /\ K<=2^53)∨(2^52<=K /\ K<=2^53)) /\ K*2^e=M*2^c:=by
 have f:2^M.log2<=M:=Nat.log2_self_le (by omega);have g:M<2^(M.log2+1):=Nat.lt_log2_self;have A:M.log2+c<53+d:=by
  have r:2^(M.log2+c)<=M*2^c:=by rw[Nat.pow_add];exact Nat.mul_le_mul_right _ f
  have u:v*2^d<2^(53+d):=by
   rw[Nat.pow_add 2 53 d];exact Nat.mul_lt_mul_of_pos_right p (Nat.two_pow_pos _)
  rw[<- h]at u;exact(Nat.pow_lt_pow_iff_right (a:=2) (by decide)).1 (Nat.lt_of_le_of_lt r u)
 unfold Ieee.Format.nearest;rw[if_neg (by omega),f5P,d9N,b5N,b5M];dsimp only;generalize z:M.log2=L at *;by_cases G:L<=52
 ·by_cases hd:L+c<52
  ·have b:max ((c:Int)-1074+(L:Int)-(52:Nat)) (-1074)=-1074:=by omega
   rw[b];have i:((c:Int)-1074 - -1074).toNat=c:=by omega
   have j:(-1074-((c:Int)-1074)).toNat=0:=by omega
   have k:((-1074:Int) - -1074).toNat=0:=by decide
   rw[i,j,k,a3P,Nat.shiftLeft_eq];have x:M*2^c<2^53:=by
    calc M*2^c<2^(L+1)*2^c:=Nat.mul_lt_mul_of_pos_right g (Nat.two_pow_pos _)
     _=2^(L+1+c):=by rw[<- Nat.pow_add]
     _<=2^53:=Nat.pow_le_pow_right (by decide) (by omega)
   have y:0*2^52+M*2^c<2047*2^52:=by rw[Nat.zero_mul,Nat.zero_add];exact Nat.lt_trans x (by decide)
   refine⟨M*2^c,0,?_,y,.inl ⟨Eq.refl 0,Nat.le_of_lt x⟩,?_⟩
   ·rw[Nat.min_eq_left (Nat.le_of_lt y)]
   ·rw[Nat.pow_zero,Nat.mul_one]
  ·have b:max ((c:Int)-1074+(L:Int)-(52:Nat)) (-1074)=(c:Int)-1074+(L:Int)-52:=by omega
   rw[b];have i:((c:Int)-1074-((c:Int)-1074+(L:Int)-52)).toNat=52-L:=by omega
   have j:(((c:Int)-1074+(L:Int)-52)-((c:Int)-1074)).toNat=0:=by omega
   have k:(((c:Int)-1074+(L:Int)-52) - -1074).toNat=c+L-52:=by omega
   rw[i,j,k,a3P,Nat.shiftLeft_eq];have s:M*2^(52-L)<2^53:=by
    calc M*2^(52-L)<2^(L+1)*2^(52-L):=Nat.mul_lt_mul_of_pos_right g (Nat.two_pow_pos _)
     _=2^(L+1+(52-L)):=by rw[<- Nat.pow_add]
     _=2^53:=by congr 1;omega
   have t:2^52<=M*2^(52-L):=by
    calc 2^52=2^(L+(52-L)):=by congr 1;omega
     _=2^L*2^(52-L):=by rw[<- Nat.pow_add]
     _<=M*2^(52-L):=Nat.mul_le_mul_right _ f
   have E:M*2^(52-L)*2^(c+L-52)=M*2^c:=by
    rw[Nat.mul_assoc,<- Nat.pow_add];congr 2;omega
   refine⟨M*2^(52-L),c+L-52,?_,by generalize M*2^(52-L)=q at *;clear f g;omega,.inr ⟨t,Nat.le_of_lt s⟩,E⟩;rw[Nat.min_eq_left (by omega)]
 ·have b:max ((c:Int)-1074+(L:Int)-(52:Nat)) (-1074)=(c:Int)-1074+(L:Int)-52:=by omega
  rw[b];have i:((c:Int)-1074-((c:Int)-1074+(L:Int)-52)).toNat=0:=by omega
  have j:(((c:Int)-1074+(L:Int)-52)-((c:Int)-1074)).toNat=L-52:=by omega
  have k:(((c:Int)-1074+(L:Int)-52) - -1074).toNat=c+L-52:=by omega
  rw[i,j,k,Nat.shiftLeft_zero];have n:2^(L-52) ∣ M:=by
   have r:2^(L-52)*2^c ∣ M*2^c:=by
    rw[h,<- Nat.pow_add];exact Nat.dvd_trans (Nat.pow_dvd_pow 2 (by omega)) (Nat.dvd_mul_left _ _)
   exact Nat.dvd_of_mul_dvd_mul_right (Nat.two_pow_pos c) r
  have o:M%2^(L-52)=0:=Nat.mod_eq_zero_of_dvd n;have w:0<2^(L-52):=Nat.two_pow_pos _;have l:Ieee.Toward.even.cut neg M (L-52)=M/2^(L-52):=by
   unfold Ieee.Toward.cut;dsimp only;rw[z,Nat.min_eq_left (by omega),Nat.one_shiftLeft,o];simp
  rw[l];have C:M/2^(L-52)<2^53:=by
   rw[Nat.div_lt_iff_lt_mul w,<- Nat.pow_add];have:53+(L-52)=L+1:=by omega
   rw[this];exact g
  have D:2^52<=M/2^(L-52):=by
   rw[Nat.le_div_iff_mul_le w,<- Nat.pow_add];have:52+(L-52)=L:=by omega
   rw[this];exact f
  have m:=Nat.div_add_mod M (2^(L-52));rw[o,Nat.add_zero]at m;generalize M/2^(L-52)=q at *;have B:2^(c+L-52)=2^(L-52)*2^c:=by
   rw[<- Nat.pow_add];congr 1;omega
  refine⟨q,c+L-52,?_,by clear f g;omega,.inr ⟨by clear f g;omega,by clear f g;omega⟩,?_⟩
  ·rw[Nat.min_eq_left (by clear f g;omega)]
  ·rw[B,<- Nat.mul_assoc,Nat.mul_comm q,m]
theorem f1b (s:Bool) (m c:Nat):RV s m ((c:Int)-1074)=sgR s*((m*2^c:Nat):Rat)*p2 (-1074):=by
 unfold RV;rw[Int.sub_eq_add_neg,a0G,a0R,Rat.natCast_mul];grind
theorem e7Q (neg:Bool) (M c v d:Nat) (h:M*2^c=v*2^d) (a:v<2^53) (hd:d<=1500):IsR (Ieee.double.nearest neg M ((c:Int)-1074)) (RV neg M ((c:Int)-1074)):=by
 by_cases b:M=0
 ·subst b;rw[a2F];unfold Ieee.Format.nearest;rw[if_pos rfl];exact a6l neg
 ·obtain⟨K,e,f,g,i,j⟩:=c7E neg M c v d (Nat.pos_of_ne_zero b) h a hd;obtain⟨m,c',k,l⟩:=a4P neg K e g i;rw[f];refine⟨neg,m,(c':Int)-1074,k,by omega,?_⟩;rw[f1b,f1b,l,j]
theorem f7b (e:Int):p2 e≠0:=by have:=a0q e;grind
theorem g2N {a b:Nat} {x y:Rat} (F:IsR a x) (G:IsR b y) (v d:Nat) (j:v<2^53) (hd:d<=1500) (k:x-y=((v*2^d:Nat):Rat)*p2 (-1074)∨x-y=-(((v*2^d:Nat):Rat)*p2 (-1074))):IsR (a0b .sub .f64 a b) (x-y):=by
 obtain⟨s,m,e,I,R,rfl⟩:=F;obtain⟨t,n,f,o,S,rfl⟩:=G;have g:a0b .sub .f64 a b=(((Ieee.double.read a).sum (Ieee.double.read b).opposite).map Ieee.double.write).getD (qn .f64):=rfl;have A:RV s m e-RV t n f=RV s m e+RV (!t) n f:=by rw[d6l];grind
 rw[g,I,o];have J:=a3p s m e (min e f) (by omega);have K:=a3p (!t) n f (min e f) (by omega);show IsR (Ieee.double.nearest (if Ieee.signed s m (e-min e f).toNat+Ieee.signed (!t) n (f-min e f).toNat=0 then s&&!t else decide (Ieee.signed s m (e-min e f).toNat+Ieee.signed (!t) n (f-min e f).toNat<0)) (Ieee.signed s m (e-min e f).toNat+Ieee.signed (!t) n (f-min e f).toNat).natAbs (min e f)) _;generalize E:Ieee.signed s m (e-min e f).toNat+Ieee.signed (!t) n (f-min e f).toNat=T;have i:((T:Int):Rat)*p2 (min e f)=RV s m e-RV t n f:=by
  rw[<- E,Rat.intCast_add,A,<- J,<- K];grind
 obtain⟨c,H⟩:∃c:Nat,min e f=(c:Int)-1074:=⟨(min e f+1074).toNat,by omega⟩;rw[H]at i ⊢;generalize C:(if T=0 then s&&!t else decide (T<0))=B;have U:p2 ((c:Int)-1074)=((2^c:Nat):Rat)*p2 (-1074):=by rw[Int.sub_eq_add_neg,a0G,a0R]
 have u:RV B T.natAbs ((c:Int)-1074)=RV s m e-RV t n f:=by
  rw[<- i];unfold RV;rw[<- C];by_cases q:T=0
  ·subst q;simp[Rat.mul_zero,Rat.zero_mul]
  ·rw[if_neg q];by_cases r:T<0
   ·have g:((T:Int):Rat)=-((T.natAbs:Nat):Rat):=by
     rw[<- Rat.intCast_natCast,<- Rat.intCast_neg];congr 1;omega
    rw[g];simp only[r,decide_true];have:sgR true=-1:=rfl;rw[this];grind
   ·have g:((T:Int):Rat)=((T.natAbs:Nat):Rat):=by
     rw[<- Rat.intCast_natCast];congr 1;omega
    rw[g];simp only[r,decide_false];have:sgR false=1:=rfl;rw[this];grind
 have D:T.natAbs*2^c=v*2^d:=by
  have l:=f7b (-1074);have q1:RV B T.natAbs ((c:Int)-1074)=sgR B*((T.natAbs*2^c:Nat):Rat)*p2 (-1074):=f1b _ _ _;rw[u]at q1;generalize T.natAbs*2^c=P at *;generalize v*2^d=Q at *;have L:=a2k P;have M:=a2k Q;have w:=a0q (-1074);have p:((P:Nat):Rat)=((Q:Nat):Rat):=by
   have a1:((P:Nat):Rat)*p2 (-1074)=((Q:Nat):Rat)*p2 (-1074)∨((P:Nat):Rat)*p2 (-1074)=-(((Q:Nat):Rat)*p2 (-1074)):=by
    cases B
    ·have:sgR false=1:=rfl;rw[this]at q1;rcases k with h|h<;>rw[h]at q1<;>grind
    ·have:sgR true=-1:=rfl;rw[this]at q1;rcases k with h|h<;>rw[h]at q1<;>grind
   have N:=Rat.mul_nonneg L (Rat.le_of_lt w);have O:=Rat.mul_nonneg M (Rat.le_of_lt w);have a2:((P:Nat):Rat)*p2 (-1074)=((Q:Nat):Rat)*p2 (-1074):=by
    rcases a1 with h|h
    ·exact h
    ·grind
   have z:(((P:Nat):Rat)-((Q:Nat):Rat))*p2 (-1074)=0:=by grind
   rcases Rat.mul_eq_zero.1 z with h|h
   ·grind
   ·exact absurd h l
  exact Rat.natCast_inj.1 p
 rw[<- u];exact e7Q B T.natAbs c v d D j hd
theorem b0y (W q:Nat) (a:W<2^64) (e:q<64):(BitVec.ofNat 64 W &&& ~~~(BitVec.ofNat 64 (2^q-1))).toNat=W/2^q*2^q:=by
 apply Nat.eq_of_testBit_eq;intro i;rw[Nat.testBit_mul_two_pow,BitVec.toNat_and,Nat.testBit_and,BitVec.toNat_ofNat,Nat.mod_eq_of_lt a,Nat.testBit_div_two_pow];by_cases b:q<=i
 ·have c:i-q+q=i:=by omega
  rw[c];by_cases d:i<64
  ·have:(~~~(BitVec.ofNat 64 (2^q-1))).toNat.testBit i=true:=by
    rw[BitVec.testBit_toNat,BitVec.getLsbD_not,BitVec.getLsbD_ofNat,Nat.testBit_two_pow_sub_one];simp;omega
   rw[this];simp[b]
  ·have:W.testBit i=false:=Nat.testBit_lt_two_pow (Nat.lt_of_lt_of_le a (Nat.pow_le_pow_right (by decide) (by omega)));rw[this];simp
 ·have:(~~~(BitVec.ofNat 64 (2^q-1))).toNat.testBit i=false:=by
   rw[BitVec.testBit_toNat,BitVec.getLsbD_not,BitVec.getLsbD_ofNat,Nat.testBit_two_pow_sub_one];simp;omega
  rw[this];simp[b]
theorem a8Z (w:Nat):BitVec.ofInt 64 (w:Int)=BitVec.ofNat 64 (w%2^64):=by
 apply BitVec.eq_of_toNat_eq;rw[BitVec.toNat_ofInt,BitVec.toNat_ofNat];omega
theorem b4w (w q:Nat) (a:q<64):a1Q .andNot .u64 (w:Int) ((2^q-1:Nat):Int)=((w%2^64/2^q*2^q:Nat):Int):=by
 show IntKind.u64.wrap (((BitVec.ofInt 64 (w:Int) &&& ~~~(BitVec.ofInt 64 ((2^q-1:Nat):Int))).toNat:Nat):Int)=_;have b:2^q<=2^63:=Nat.pow_le_pow_right (by decide) (by omega);rw[a8Z,a8Z,Nat.mod_eq_of_lt (show 2^q-1<2^64 by omega),b0y _ q (Nat.mod_lt _ (by decide)) a,IntKind.wrap_u64];have:w%2^64/2^q*2^q<=w%2^64:=Nat.div_mul_le_self _ _;have:w%2^64<2^64:=Nat.mod_lt _ (by decide);omega
def sgB (w:Nat):Bool:=w/2^63%2==1
def sgW (w:Nat):Nat:=if sgB w then 2^63 else 0
theorem e7R (w:Nat):w%2^64=sgW w+w%2^63:=by
 unfold sgW sgB;by_cases h:w/2^63%2=1
 ·rw[if_pos (by simpa using h)];omega
 ·rw[if_neg (by simpa using h)];omega
theorem b0z (w:Nat):a1Q .and .u64 (w:Int) 9223372036854775808=((sgW w:Nat):Int):=by
 have e:BitVec.ofInt 64 9223372036854775808 = ~~~(BitVec.ofNat 64 (2^63-1)):=by decide
 show IntKind.u64.wrap (((BitVec.ofInt 64 (w:Int) &&& BitVec.ofInt 64 9223372036854775808).toNat:Nat):Int)=_;rw[a8Z,e,b0y _ 63 (Nat.mod_lt _ (by decide)) (by decide),IntKind.wrap_u64];unfold sgW sgB;by_cases h:w/2^63%2=1
 ·rw[if_pos (by simpa using h)];omega
 ·rw[if_neg (by simpa using h)];omega
structure e7S (w:Nat) (m q:Nat):Prop where
 rd:Ieee.double.read w = .number (sgB w) m (-(q:Int))
 q0:26<=q
 q1:q<=1074
 m1:m<2^53
 le:m/2^q<=100000000
 rung:(q=1074 /\ m=w%2^63 /\ m<2^52)∨(2^52<=m /\ w%2^63=(1075-q)*2^52+(m-2^52))
theorem b1O {w:Nat} (h:le8 (w%2^63)=true):∃m q,e7S w m q:=by
 obtain⟨x,C,k⟩:=f7a h;obtain⟨s,m,e,a,I,rfl⟩:=C;have g:=a;have j:(m:Rat)*p2 e<=100000000:=by
  unfold RV at k;obtain⟨r,t⟩:=k;cases s
  ·have:sgR false=1:=rfl;rw[this]at t;grind
  ·have:sgR true=-1:=rfl;rw[this]at r;grind
 unfold Ieee.Format.read at a;dsimp only at a;rw[e2r,b5N,b5M,d9N]at a;have d:∀q:Nat,e=-(q:Int)->m<=100000000*2^q:=by
  intro q i;have A:p2 e*p2 (q:Int)=1:=by rw[<- a0G,i,show -(q:Int)+(q:Int)=0 by omega];rfl
  have l:=a0r j (Rat.le_of_lt (a0q (q:Int)));have n:(m:Rat)*p2 e*p2 (q:Int)=(m:Rat):=by rw[Rat.mul_assoc,A,Rat.mul_one]
  rw[n,a0R]at l;have:(m:Rat)<=((100000000*2^q:Nat):Rat):=by
   rw[Rat.natCast_mul];exact l
  exact Rat.natCast_le_natCast.1 this
 have b:∀q:Nat,m<=100000000*2^q->m/2^q<=100000000:=fun q i=>by
  have:m/2^q<=100000000*2^q/2^q:=Nat.div_le_div_right i
  rwa [Nat.mul_div_cancel _ (Nat.two_pow_pos q)]at this
 split at a
 ·rename_i c;cases a;refine⟨w%2^63,1074,g,by decide,by decide,by omega,b 1074 (d 1074 rfl),.inl ⟨rfl,rfl,c⟩⟩
 ·rename_i c;split at a
  ·rename_i D
   injection a with f1 f2 f3
   obtain⟨q,i⟩:∃q:Int,q=-e:=⟨_,rfl⟩;have z:∃B:Nat,B=w%2^63/2^52 /\ 1<=B /\ e=(B:Int)-1075:=⟨_,rfl,by omega,by omega⟩;obtain⟨B,G,u,v⟩:=z;have y:B<=1049:=by
    apply Classical.byContradiction;intro H;have o:p2 (-25)<=p2 e:=a7v (by omega);have p:((2^52:Nat):Rat)<=(m:Rat):=a0e (by omega);have E:((2^52:Nat):Rat)*p2 (-25)<=(m:Rat)*p2 e:=by
     have a1:=a0r p (Rat.le_of_lt (a0q (-25)));have a2:=Rat.mul_le_mul_of_nonneg_left o (a2k m);grind
    have F:(100000000:Rat)<((2^52:Nat):Rat)*p2 (-25):=by decide +kernel
    grind
   have f:e=-((1075-B:Nat):Int):=by omega
   refine⟨m,1075-B,?_,by omega,by omega,by omega,b _ (d _ f),.inr ⟨by omega,by omega⟩⟩;rw[g,f,<- f1];rfl
  ·split at a<;>cases a
theorem c7F (neg:Bool) (m q:Nat) (d:m<2^53) (e:(q:Nat)<=2000):Ieee.Toward.zero.cut neg m q=m/2^q:=by
 unfold Ieee.Toward.cut;dsimp only;rw[Nat.one_shiftLeft];show m/2^min q (m.log2+2)+0=_;rw[Nat.add_zero];by_cases h:q<=m.log2+2
 ·rw[Nat.min_eq_left h]
 ·rw[Nat.min_eq_right (by omega)];have a:m<2^(m.log2+1):=Nat.lt_log2_self;have b:m<2^(m.log2+2):=Nat.lt_of_lt_of_le a (Nat.pow_le_pow_right (by decide) (by omega));have c:m<2^q:=Nat.lt_of_lt_of_le a (Nat.pow_le_pow_right (by decide) (by omega));rw[Nat.div_eq_of_lt b,Nat.div_eq_of_lt c]
def sgI (s:Bool) (n:Nat):Int:=if s then -(n:Int)else(n:Int)
theorem c7G {w:Nat} {s:Bool} {m q:Nat} (h:Ieee.double.read w = .number s m (-(q:Int))) (c:m<2^53) (d:q<=2000):Ieee.Datum.toInt .zero (FloatKind.f64.decode w)=some (sgI s (m/2^q)):=by
 have e:FloatKind.f64.decode w = .number s m (-(q:Int)):=h;rw[e];show some (Ieee.signed s (Ieee.Toward.zero.cut s (m <<< (-(q:Int)).toNat) (- -(q:Int)).toNat) 0)=_;have a:(-(q:Int)).toNat=0:=by omega
 have b:(- -(q:Int)).toNat=q:=by omega
 rw[a,b,Nat.shiftLeft_zero,c7F _ _ _ c d];rfl
theorem a9a {w:Nat} {s:Bool} {m q:Nat} (h:Ieee.double.read w = .number s m (-(q:Int))) (d:m<2^53) (f:q<=2000):f2i .f64 w=sgI s (m/2^q) /\ a5B .f64 w .i64=true:=by
 have e:=c7G h d f;unfold f2i a5B;rw[e];refine⟨rfl,?_⟩;have:m/2^q<=m:=Nat.div_le_self _ _;have a:IntKind.i64.min=-9223372036854775808:=by decide
 have b:IntKind.i64.max=9223372036854775807:=by decide
 show(decide _&&decide _)=true;rw[a,b];generalize m/2^q=c at *;unfold sgI;simp only[and_eq_true,decide_eq_true_eq];split<;>omega
def b9E (m q:Nat):Nat:=(m+2^(q-1))/2^q
theorem f7c (q m:Nat) (a:26<=q) (b:q<=52) (c:2^52<=m) (d:m<2^53) (r:Nat) (e:r=((1075-q)*2^52+(m-2^52)+2^(q-1))/2^q*2^q) :
 (r/2^52=1075-q /\ (2^52+r%2^52)/2^q=b9E m q)∨(r/2^52=1076-q /\ (2^52+r%2^52)/2^(q-1)=b9E m q):=by
 unfold b9E;have:q=26∨q=27∨q=28∨q=29∨q=30∨q=31∨q=32∨q=33∨q=34∨q=35∨q=36∨q=37∨q=38∨q=39∨q=40∨q=41∨q=42∨q=43∨q=44∨q=45∨q=46∨q=47∨q=48∨q=49∨q=50∨q=51∨q=52:=by omega
 rcases this with h|h|h|h|h|h|h|h|h|h|h|h|h|h|h|h|h|h|h|h|h|h|h|h|h|h|h<;>subst h<;>simp only[Nat.reducePow,Nat.reduceSub,Nat.reduceMul,Nat.reduceAdd]at *<;>omega
theorem d1Z (s:Bool) (r:Nat) (a:r<2^63):sgB ((if s then 2^63 else 0)+r)=s:=by
 unfold sgB;cases s
 ·have:(0+r)/2^63=0:=by omega
  rw[if_neg (by decide),this];rfl
 ·have:(2^63+r)/2^63=1:=by omega
  rw[if_pos rfl,this];rfl
theorem a9b (s:Bool) (r B:Nat) (c:r/2^52=B) (e:1<=B) (f:B<=1074):Ieee.double.read ((if s then 2^63 else 0)+r) = .number s (2^52+r%2^52) (-((1075-B:Nat):Int)):=by
 have d:r<2^63:=by omega
 have b:((if s then 2^63 else 0)+r)%2^63=r:=by cases s<;>simp<;>omega
 have a:=d1Z s r d;unfold sgB at a;unfold Ieee.Format.read;dsimp only;rw[e2r,b5N,b5M,d9N,b,a,if_neg (by omega),if_pos (by omega),c];rw[show((-1074:Int)+((B-1:Nat):Int))=-((1075-B:Nat):Int)by omega]
theorem c7H (s:Bool):Ieee.double.read (if s then 2^63 else 0) = .number s 0 (-(1074:Nat)):=by cases s<;>decide +kernel
theorem fd (a k:Nat):Int.fdiv (a:Int) (2^k)=((a/2^k:Nat):Int):=by
 have e:((2:Int)^k)=((2^k:Nat):Int):=by rw[Int.natCast_pow];rfl
 rw[e,Int.fdiv_eq_ediv_of_nonneg _ (Int.natCast_nonneg _),Int.natCast_ediv]
theorem fd1 {q:Nat} (a:26<=q) (b:q<=52):Int.fdiv 2251799813685248 (2^(52-q))=((2^(q-1):Nat):Int):=by
 have:=fd (2^51) (52-q);rw[Nat.pow_div (by omega) (by decide),show 51-(52-q)=q-1 by omega]at this;exact this
theorem fd2 {q:Nat} (d:26<=q) (f:q<=52):Int.fdiv 4503599627370495 (2^(52-q))=((2^q-1:Nat):Int):=by
 have h:=fd (2^52-1) (52-q);have e:(2^52-1)/2^(52-q)=2^q-1:=by
  have c:2^(52-q)*2^q=2^52:=by rw[<- Nat.pow_add];congr 1;omega
  have b:=Nat.two_pow_pos (52-q);have g:=Nat.two_pow_pos q;have a:2^52-1=2^(52-q)*(2^q-1)+(2^(52-q)-1):=by
   rw[Nat.mul_sub,c,Nat.mul_one];have:2^(52-q)<=2^52:=Nat.pow_le_pow_right (by decide) (by omega);omega
  rw[a,Nat.mul_add_div b,Nat.div_eq_of_lt (by omega)];rfl
 rw[e]at h;exact h
theorem c1c {w m q:Nat} (d:26<=q) (e:q<=52) (s:2^52<=m) (m1:m<2^53) (n:w%2^63=(1075-q)*2^52+(m-2^52)):a1s (w:Int)=(if sgB w then 2^63 else 0)+((1075-q)*2^52+(m-2^52)+2^(q-1))/2^q*2^q:=by
 have l:rE (w:Int)=((w%2^63/2^52:Nat):Int):=by rw[b7l];omega
 have k:w%2^63/2^52=1075-q:=by omega
 unfold a1s;rw[l,k];have f:decide (((1075-q:Nat):Int)<1023)=false:=decide_eq_false (by omega);have g:decide (((1075-q:Nat):Int)<1075)=true:=decide_eq_true (by omega);rw[f,g];have h:IntKind.u64.wrap (((1075-q:Nat):Int)-1023)=((52-q:Nat):Int):=by rw[IntKind.wrap_u64];omega
 rw[h];have i:min (toNat ((52-q:Nat):Int)) (IntKind.bits .u64)=52-q:=by
  have:IntKind.bits .u64=64:=by decide
  rw[this];omega
 rw[i,fd1 d e,fd2 d e,cond_false,cond_true];have u:2^(q-1)<=2^51:=Nat.pow_le_pow_right (by decide) (by omega);have o:=e7R w;rw[n]at o;have p:sgW w<=2^63:=by unfold sgW;split<;>omega
 have j:IntKind.u64.wrap ((w:Int)+((2^(q-1):Nat):Int))=((sgW w+((1075-q)*2^52+(m-2^52)+2^(q-1)):Nat):Int):=by
  rw[IntKind.wrap_u64];generalize 2^(q-1)=P at *;omega
 rw[j,b4w _ q (by omega),toNat_natCast];have c:sgW w+((1075-q)*2^52+(m-2^52)+2^(q-1))<2^64:=by
  generalize 2^(q-1)=P at *;omega
 rw[Nat.mod_eq_of_lt c];have b:2^q ∣ sgW w:=by
  unfold sgW;split
  ·exact Nat.pow_dvd_pow 2 (by omega)
  ·exact Nat.dvd_zero _
 obtain⟨t,r⟩:=b;have a:sgW w=(if sgB w then 2^63 else 0):=rfl;rw[<- a,r,Nat.mul_add_div (Nat.two_pow_pos q),Nat.add_mul,Nat.mul_comm t]
theorem c7I {w m q:Nat} (b:26<=q) (d:q<=52) (c:2^52<=m) (m1:m<2^53) (e:w%2^63=(1075-q)*2^52+(m-2^52)):f2i .f64 (a1s (w:Int))=sgI (sgB w) (b9E m q) /\ a5B .f64 (a1s (w:Int)) .i64=true:=by
 rw[c1c b d c m1 e];rcases f7c q m b d c m1 _ rfl with⟨c1,c2⟩|⟨c1,c2⟩
 ·have a:=a9b (sgB w) _ _ c1 (by omega) (by omega);rw[show 1075-(1075-q)=q by omega]at a;have:=a9a a (by omega) (by omega);rw[c2]at this;exact this
 ·have a:=a9b (sgB w) _ _ c1 (by omega) (by omega);rw[show 1075-(1076-q)=q-1 by omega]at a;have:=a9a a (by omega) (by omega);rw[c2]at this;exact this
theorem c7J {w m:Nat} (f:2^52<=m) (m1:m<2^53) (g:w%2^63=1022*2^52+(m-2^52)):f2i .f64 (a1s (w:Int))=sgI (sgB w) (b9E m 53) /\ a5B .f64 (a1s (w:Int)) .i64=true:=by
 have c:rE (w:Int)=1022:=by rw[b7l];omega
 have d:b9E m 53=1:=by unfold b9E;omega
 have b:a1s (w:Int)=(if sgB w then 2^63 else 0)+4607182418800017408:=by
  unfold a1s;rw[c,b0z];show toNat (a1Q .or .u64 ((sgW w:Nat):Int) 4607182418800017408)=_;unfold sgW;cases sgB w<;>decide
 have a:=a9b (sgB w) 4607182418800017408 1023 (by decide) (by decide) (by decide);rw[b,d];have h:=a9a a (by decide) (by decide);have e:(2^52+4607182418800017408%2^52)/2^(1075-1023)=1:=by decide
 rw[e]at h;exact h
theorem b4x {w m q:Nat} (i:53<q) (m1:m<2^53) (j:w%2^63/2^52<1022):f2i .f64 (a1s (w:Int))=sgI (sgB w) (b9E m q) /\ a5B .f64 (a1s (w:Int)) .i64=true:=by
 have e:rE (w:Int)=((w%2^63/2^52:Nat):Int):=by rw[b7l];omega
 have f:b9E m q=0:=by
  unfold b9E;have g:2^53<=2^(q-1):=Nat.pow_le_pow_right (by decide) (by omega);have a:2*2^(q-1)=2^q:=by rw[Nat.mul_comm,<- Nat.pow_succ];congr 1;omega
  refine Nat.div_eq_of_lt ?_;rw[<- a];generalize 2^(q-1)=P at *;omega
 have b:a1s (w:Int)=(if sgB w then 2^63 else 0):=by
  unfold a1s;rw[e];have c:decide (((w%2^63/2^52:Nat):Int)<1023)=true:=decide_eq_true (by omega);have d:(((w%2^63/2^52:Nat):Int)==1022)=false:=by
   rw[beq_eq_false_iff_ne];omega
  rw[c,d,b0z];rfl
 rw[b,f];have h:=a9a (c7H (sgB w)) (by decide) (by decide);rw[Nat.zero_div]at h;exact h
theorem a9c {w m q:Nat} (h:e7S w m q):f2i .f64 (a1s (w:Int))=sgI (sgB w) (b9E m q) /\ a5B .f64 (a1s (w:Int)) .i64=true:=by
 obtain⟨rd,q0,q1,m1,le,rung⟩:=h;rcases rung with⟨h1,h2,h3⟩|⟨hm,hr⟩
 ·exact b4x (by omega) m1 (by rw[<- h2,Nat.div_eq_of_lt h3];decide)
 ·by_cases b:q<=52
  ·exact c7I q0 b hm m1 hr
  ·by_cases a:q=53
   ·subst a;exact c7J hm m1 hr
   ·refine b4x (by omega) m1 ?_;rw[hr];clear le rd;omega
def c1d (z p:Nat×Nat):Nat:=
 a0b .add .f64 (a0b .mul .f64 (a0b .sub .f64 z.1 p.1) (a0b .sub .f64 z.1 p.1)) (a0b .mul .f64 (a0b .sub .f64 z.2 p.2) (a0b .sub .f64 z.2 p.2))
def a3r (b:List (Den a1B)) (p:Nat×Nat) (k:Nat) (a:Int×Nat):(Int×Nat)⊕((Int×Unit)×Unit):=
 bif decide (a.1<0)then .inl ((k:Int),c1d (a4W b k).fst p)else bif flt .f64 (c1d (a4W b k).fst p) a.2 then .inl ((k:Int),c1d (a4W b k).fst p)else .inl a
def e0F (b:List (Den a1B)) (p:Nat×Nat):(Int×Unit)×Unit:=a0U (a3r b p) (fun a=>((a.1,()),())) 0 b.length (-1,0)
def a6V (t:Den S30) (p:Nat×Nat):Int:=bif a4f t&&a3K p then(e0F t.1 p).1.1 else -1
theorem b1P (b:List (Den a1B)) (p:Nat×Nat):∀(n k:Nat) (a:Int×Nat),(a.1=-1 /\ k=0∨0<=a.1 /\ a.1<(k:Int))->(((a0U (a3r b p) (fun a=>((a.1,()),())) k n a).1.1:Int)=-1 /\ k+n=0)∨0<=((a0U (a3r b p) (fun a=>((a.1,()),())) k n a).1.1:Int) /\ ((a0U (a3r b p) (fun a=>((a.1,()),())) k n a).1.1:Int)<((k+n:Nat):Int)
 | 0,k,a,h=>by
   show((a.1:Int)=-1 /\ k+0=0)∨0<=a.1 /\ a.1<((k+0:Nat):Int);rcases h with⟨c,h2⟩|h
   ·exact .inl ⟨c,h2⟩
   ·exact .inr ⟨h.1,by omega⟩
 | n+1,k,a,h=>by
   simp only[a0U];have e:k+(n+1)=k+1+n:=by omega
   rw[e];unfold a3r;by_cases c:a.1<0
   ·rw[show decide (a.1<0)=true by simpa using c,cond_true];exact b1P b p n (k+1) _ (.inr ⟨by show(0:Int)<=(k:Int);omega,by show(k:Int)<((k+1:Nat):Int);omega⟩)
   ·rw[show decide (a.1<0)=false by simpa using c,cond_false];cases flt .f64 (c1d (a4W b k).fst p) a.2 with
    |true=>exact b1P b p n (k+1) _ (.inr ⟨by show(0:Int)<=(k:Int);omega,by show(k:Int)<((k+1:Nat):Int);omega⟩)
    | false =>
      refine b1P b p n (k+1) _ (.inr ?_);rcases h with⟨h2,_⟩|h
      ·omega
      ·exact⟨h.1,by omega⟩
def a7z (a b:Int):Int:=bif decide (a>b)then a-b else b-a
def a4C (a:List Int) (t:Int) (k:Nat) (b:Int):Int⊕((Int×Unit)×Unit) := .inl (bif decide (a7z (a4X a k) t<a7z (a4X a b.toNat) t)then(k:Int)else b)
def hiR (a:List Int) (t:Int):(Int×Unit)×Unit:=a0U (a4C a t) (fun b=>((b,()),())) 0 a.length 0
def hiV (a:Den S30) (t:Int):Int:=bif a4f a&&a0m t 0 10000000 then(hiR a.2.1 t).1.1 else -1
theorem b1Q {b:List (Den a1B)} {a:List Int} {u:Unit} (h:a4f (b,a,u)=true):1<=b.length /\ 1<=a.length /\ ∀i,i<a.length->0<=a4X a i /\ a4X a i<=10000000:=by
 unfold a4f at h;simp only[and_eq_true]at h;obtain⟨c,d,f,e⟩:=h;simp only[a0m,and_eq_true,decide_eq_true_eq]at c d;refine⟨by omega,by omega,fun i g=>?_⟩;have:=a0u.1 e i (zero_le _) (by omega);unfold a9x at this;simp only[and_eq_true,a0m,decide_eq_true_eq]at this;exact this.1
theorem e0G (a:List Int) (t:Int):∀(n k:Nat) (b:Int),0<=b->(b<(k:Int)∨b=0)->0<=((a0U (a4C a t) (fun b=>((b,()),())) k n b).1.1:Int) /\ (((a0U (a4C a t) (fun b=>((b,()),())) k n b).1.1:Int)<((k+n:Nat):Int)∨((a0U (a4C a t) (fun b=>((b,()),())) k n b).1.1:Int)=0)
 |0,k,b,h0,h=>⟨h0,by rcases h with h|h;exact .inl (by show b<((k+0:Nat):Int);omega);exact .inr h⟩
 | n+1,k,b,h0,h=>by
   simp only[a0U];have e:k+(n+1)=k+1+n:=by omega
   rw[e];unfold a4C;cases decide (a7z (a4X a k) t<a7z (a4X a b.toNat) t)with
   |true=>exact e0G a t n (k+1) (k:Int) (by omega) (.inl (by omega))
   |false=>exact e0G a t n (k+1) b h0 (by rcases h with h|h;exact .inl (by omega);exact .inr h)
def a4k (x:Int):Int:=bif decide (x < -21600)then -21600 else a5e x 21600
theorem d2a (x:Int):-21600<=a4k x /\ a4k x<=21600:=by
 unfold a4k a5e;by_cases h:x < -21600
 ·rw[show decide (x < -21600)=true by simpa using h,cond_true];omega
 ·rw[show decide (x < -21600)=false by simpa using h,cond_false];split<;>omega
def c7K (a b q:Nat):Nat:=a0b .add .f32 a (a0b .mul .f32 (a0b .sub .f32 b a) q)
def f7d (r:Int):Nat:=a0b .quo .f32 (nearest .f32 r) 1163984896
def g2O (a b:Nat×Nat) (q:Nat):Nat×Nat:=(c7K a.1 b.1 q,c7K a.2 b.2 q)
def e0H (s:Den a1B) (off:Int):(Nat×Nat)×Bool×Unit:=
 bif !a6k (a3d s)then((0,0),false,())else
  bif ((a4k off+21600)%3600==0)then(atV (a3d s) ((a4k off+21600)/3600).toNat,true,())
  else(g2O (atV (a3d s) ((a4k off+21600)/3600).toNat) (atV (a3d s) ((a4k off+21600)/3600+1).toNat) (f7d ((a4k off+21600)%3600)),true,())
def a3f (a:Den S30) (p:Nat×Nat) (t:Int):(Nat×Nat)×Bool×Unit:=
 bif decide (a6V a p<0)||decide (hiV a t<0)then((0,0),false,())else e0H (a4W a.1 (a6V a p).toNat) (t-a4X a.2.1 (hiV a t).toNat)
theorem e0I {b:Den S30} {p:Nat×Nat} (h:¬a6V b p<0):a4f b=true /\ a3K p=true /\ 0<=a6V b p /\ a6V b p<(b.1.length:Int):=by
 unfold a6V at h ⊢;cases hb:a4f b with
 |false=>rw[hb]at h;exact absurd h (by simp)
 | true =>
   cases hp:a3K p with
   |false=>rw[hb,hp]at h;exact absurd h (by simp)
   | true =>
     rw[hb,hp]at h;simp only[Bool.and_self,cond_true]at h ⊢;refine⟨trivial,trivial,?_⟩;have:=b1P b.1 p b.1.length 0 (-1,0) (.inl ⟨rfl,rfl⟩);have e:a0U (a3r b.1 p) (fun a=>((a.1,()),())) 0 b.1.length (-1,0)=e0F b.1 p:=rfl;rw[e,Nat.zero_add]at this;omega
theorem f7e {c:Den S30} {t:Int} (h:¬hiV c t<0):a4f c=true /\ (0<=t /\ t<=10000000) /\ 0<=hiV c t /\ hiV c t<(c.2.1.length:Int):=by
 obtain⟨d,a,_⟩:=c;unfold hiV at h ⊢;cases hb:a4f (d,a,())with
 |false=>rw[hb]at h;exact absurd h (by simp)
 | true =>
   cases ht:a0m t 0 10000000 with
   |false=>rw[hb,ht]at h;exact absurd h (by simp)
   | true =>
     rw[hb,ht]at h;simp only[Bool.and_self,cond_true]at h ⊢;simp only[a0m,and_eq_true,decide_eq_true_eq]at ht;refine⟨trivial,ht,?_⟩;have f:=(b1Q hb).2.1;have:=e0G a t a.length 0 0 (Int.le_refl 0) (.inr rfl);have e:a0U (a4C a t) (fun b=>((b,()),())) 0 a.length 0=hiR a t:=rfl;rw[e,Nat.zero_add]at this;omega
theorem f7f:((TT:Nat):Rat)*p2 (-1074)=1:=by
 have:p2 (1074:Nat)=((TT:Nat):Rat):=a0R 1074;rw[<- this,<- a0G];rfl
theorem e0J {b:Nat} {v:Int} (h:b0v b v):IsR b ((v:Int):Rat):=by
 obtain⟨s,m,c,e,f,d⟩:=h;refine⟨s,m,(c:Int)-1074,e,by omega,?_⟩;rw[f1b];have a:sgR s*((m*2^c:Nat):Rat)=((VU s m c:Int):Rat):=by
  unfold VU;cases s
  ·have:sgR false=1:=rfl;rw[this,if_neg (by decide),Rat.intCast_natCast];grind
  ·have:sgR true=-1:=rfl;rw[this,if_pos rfl,Rat.intCast_neg,Rat.intCast_natCast];grind
 rw[a,d,Rat.intCast_mul,Rat.intCast_natCast,Rat.mul_assoc,f7f,Rat.mul_one]
theorem e7T (n:Int) (h:n.natAbs<2^53):IsR (nearest .f64 n) ((n:Int):Rat):=e0J (c7q n h)
theorem f7g:IsR 4602678819172646912 (1/2):=b6k false 4503599627370496 (-53) (by decide +kernel) (by decide) (by decide +kernel)
theorem e7U:IsR 13826050856027422720 (-(1/2)):=b6k true 4503599627370496 (-53) (by decide +kernel) (by decide) (by decide +kernel)
theorem geR {a b:Nat} {x y:Rat} (c:IsR a x) (d:IsR b y):(fgt .f64 a b||feq .f64 a b)=decide (y<=x):=by
 rw[f5Q c d,e2s c d,Bool.eq_iff_iff];simp only[Bool.or_eq_true,decide_eq_true_eq];constructor
 ·intro h;rcases h with h|h<;>grind
 ·intro h;by_cases e:x=y
  ·exact .inr e
  ·exact .inl (by grind)
theorem leR {a b:Nat} {x y:Rat} (c:IsR a x) (d:IsR b y):(flt .f64 a b||feq .f64 a b)=decide (x<=y):=by
 rw[f0b c d,e2s c d,Bool.eq_iff_iff];simp only[Bool.or_eq_true,decide_eq_true_eq];constructor
 ·intro h;rcases h with h|h<;>grind
 ·intro h;by_cases e:x=y
  ·exact .inr e
  ·exact .inl (by grind)
theorem d2b (v q:Nat) (e:1<=q):(1/2:Rat)<=(v:Rat)*p2 (-(q:Int))↔2^(q-1)<=v:=by
 have c:p2 (-(q:Int))*((2^(q-1):Nat):Rat)=1/2:=by
  rw[<- a0R,<- a0G,show -(q:Int)+((q-1:Nat):Int)=-1 by omega]
  decide +kernel
 have b:=a0q (-(q:Int));constructor
 ·intro h;apply Classical.byContradiction;intro d;have a:((v:Nat):Rat)<((2^(q-1):Nat):Rat):=Rat.natCast_lt_natCast.2 (by omega);have:=Rat.mul_lt_mul_of_pos_right a b;grind
 ·intro h;have a:((2^(q-1):Nat):Rat)<=((v:Nat):Rat):=a0e h;have:=a0r a (Rat.le_of_lt b);grind
theorem e0K (m q:Nat) (e:1<=q):b9E m q=m/2^q+(if 2^(q-1)<=m%2^q then 1 else 0):=by
 unfold b9E;have b:2^q=2*2^(q-1):=by rw[Nat.mul_comm,<- Nat.pow_succ];congr 1;omega
 have d:=Nat.two_pow_pos (q-1);have a:=Nat.div_add_mod m (2^q);have c:=Nat.mod_lt m (Nat.two_pow_pos q);rw[b]at *;generalize 2^(q-1)=P at *;generalize m/(2*P)=A at *;generalize m%(2*P)=R at *;rw[<- a,Nat.add_assoc,Nat.mul_add_div (by omega)];congr 1;split
 ·exact Nat.div_eq_of_lt_le (by omega) (by omega)
 ·exact Nat.div_eq_of_lt (by omega)
def rnd (w:Nat):Int:=f2i .f64 (a1s (w:Int))
theorem d7f {w:Nat} (h:le8 (w%2^63)=true):F97 (w,())=some (rnd w,()):=by
 obtain⟨m,q,l⟩:=b1O h;have f:rnd w=sgI (sgB w) (b9E m q):=(a9c l).1;obtain⟨rd,q0,q1,m1,le,rung⟩:=l;obtain⟨v,k⟩:=a9a rd m1 (by omega);have x:IsR w (RV (sgB w) m (-(q:Int))):=⟨_,_,_,rd,by omega,rfl⟩;have t:(sgI (sgB w) (m/2^q)).natAbs<2^53:=by
  generalize m/2^q=A at *;unfold sgI;split<;>omega
 have y:=e7T _ t;have d:=Nat.div_add_mod m (2^q);have r:=Nat.mod_lt m (Nat.two_pow_pos q);have s:m%2^q<=m:=Nat.mod_le _ _;have a:RV (sgB w) m (-(q:Int))-((sgI (sgB w) (m/2^q):Int):Rat)=sgR (sgB w)*(((m%2^q:Nat):Rat)*p2 (-(q:Int))):=by
  have C:((2^q:Nat):Rat)*p2 (-(q:Int))=1:=by
   rw[<- a0R,<- a0G,show(q:Int) + -(q:Int)=0 by omega];rfl
  have j:(m:Rat)=((2^q:Nat):Rat)*((m/2^q:Nat):Rat)+((m%2^q:Nat):Rat):=by
   rw[<- Rat.natCast_mul,<- Rat.natCast_add,d]
  unfold RV;rw[j];generalize m/2^q=A at *;generalize m%2^q=R at *;generalize 2^q=P at *;generalize p2 (-(q:Int))=z at *;unfold sgI;cases sgB w
  ·have:sgR false=1:=rfl;rw[this,if_neg (by decide),Rat.intCast_natCast];grind
  ·have:sgR true=-1:=rfl;rw[this,if_pos rfl,Rat.intCast_neg,Rat.intCast_natCast];grind
 have e:((m%2^q:Nat):Rat)*p2 (-(q:Int))=((m%2^q*2^(1074-q):Nat):Rat)*p2 (-1074):=by
  rw[Rat.natCast_mul,<- a0R (1074-q),Rat.mul_assoc,<- a0G,show((1074-q:Nat):Int) + -1074=-(q:Int)by omega]
 have b:=g2N x y (m%2^q) (1074-q) (by generalize m%2^q=R at *;omega) (by omega) (by
  rw[a,e];cases sgB w
  ·left;have:sgR false=1:=rfl;rw[this];grind
  ·right;have:sgR true=-1:=rfl;rw[this];grind)
 rw[a]at b;have g:=geR b f7g;have i:=leR b e7U;have u:(0:Rat)<=((m%2^q:Nat):Rat)*p2 (-(q:Int)):=Rat.mul_nonneg (a2k _) (Rat.le_of_lt (a0q _));have c:=d2b (m%2^q) q (by omega);have p:=e0K m q (by omega);unfold F97;dsimp only;rw[k,v,g,i,f,p];have B:m/2^q<=100000000:=le;generalize ((m%2^q:Nat):Rat)*p2 (-(q:Int))=D at *;generalize m/2^q=A at *;generalize m%2^q=R at *;generalize 2^(q-1)=P at *;clear b a d e;cases sgB w
 ·have s1:sgR false=1:=rfl;have o:decide (sgR false*D <= -(1/2))=false:=decide_eq_false (by rw[s1];grind);rw[o,s1,Rat.one_mul];by_cases hh:P<=R
  ·rw[decide_eq_true (c.2 hh),if_pos hh];show some (IntKind.i64.wrap ((A:Int)+1),())=some (((A+1:Nat):Int),());rw[w64 (by omega) (by omega)];rfl
  ·rw[decide_eq_false (fun h=>hh (c.1 h)),if_neg hh];rfl
 ·have s1:sgR true=-1:=rfl;have n:decide (1/2<=sgR true*D)=false:=decide_eq_false (by rw[s1];grind);rw[n,s1];by_cases hh:P<=R
  ·rw[decide_eq_true (show -1*D <= -(1/2)by have:=c.2 hh;grind),if_pos hh];show some (IntKind.i64.wrap (-(A:Int)-1),())=some (-((A+1:Nat):Int),());rw[w64 (by omega) (by omega),show -(A:Int)-1=-((A+1:Nat):Int)by omega]
  ·rw[decide_eq_false (fun h=>hh (c.1 (by grind))),if_neg hh];rfl
def a0Z (p:Nat×Nat):Den R23:=bif !a3K p then((0,0,()),false,())else bif !a1v (rnd p.1,rnd p.2,())then((0,0,()),false,())else((rnd p.1,rnd p.2,()),true,())
set_option maxRecDepth 100000 in
theorem c7L (p:Nat×Nat):F23 (p,())=some (a0Z p):=by
 have c:=b8U p;have⟨k1,g1⟩:=kgP K61 G61 c;unfold F23 a0Z;dsimp only;rw[k1,g1];cases hv:a3K p with
 |false=>rfl
 | true =>
   have a:=hv;unfold a3K at a;simp only[and_eq_true]at a;obtain⟨m,q,d⟩:=b1O a.1;obtain⟨g,h,b⟩:=b1O a.2;have e:=(a9c d).2;have f:=(a9c b).2;show(bif a5B .f64 (a1s ((p.1:Nat):Int)) .i64 then bif a5B .f64 (a1s ((p.2:Nat):Int)) .i64 then bif K63 ((rnd p.1,rnd p.2,()),())then bif !(G63 ((rnd p.1,rnd p.2,()),())).1 then _ else _ else none else none else none)=_;rw[e,f,e6p,e6r];cases a1v (rnd p.1,rnd p.2,())<;>rfl
set_option maxRecDepth 100000 in
theorem b9F (p:Nat×Nat):F49 (p,())=some (a0Z p):=by
 have b:=a7e p;have⟨k1,g1⟩:=kgP K96 G96 b;unfold F49 a0Z;dsimp only;rw[k1,g1];cases hv:a3K p with
 |false=>rfl
 | true =>
   have a:=hv;unfold a3K at a;simp only[and_eq_true]at a;have c:=d7f a.1;have d:=d7f a.2;have⟨k3,g3⟩:=kgP K97 G97 c;have⟨k4,g4⟩:=kgP K97 G97 d;rw[k3,k4,g3,g4];show(bif K98 ((rnd p.1,rnd p.2,()),())then bif !(G98 ((rnd p.1,rnd p.2,()),())).1 then _ else _ else none)=_;rw[f5C,e6q];cases a1v (rnd p.1,rnd p.2,())<;>rfl
set_option maxRecDepth 100000
structure YM (Y:Yv):Prop where
 boat:a8N Y.1
 tk:Y.tk.length<=1000
 lg:Y.lg.length<=1000
def c1e (Y:Yv):Bool:=decide ((Y.tk.length:Int)>0)&&decide ((sg Y.tk (Y.tk.length-1)).2.1>Y.tm)
def d7g (m:Den R19) (Y:Yv):Bool:=bif decide (Y.sl ≥ 0)then m.2.1&&a2x (at' Y.sails Y.sl.toNat) m.1 else true
def c7M (Y:Yv):Bool:=a5v Y.1&&(inB Y.tm 0 10000000&&((a0Z Y.ps).2.1&&(inB Y.hd 0 359&&(a2E Y.wd&&(inB Y.sl (-1) ((Y.sails.length:Int)-1)&&(a2y Y.tk&&(!decide ((Y.lg.length:Int)>300)&&!c1e Y)))))))
def okV (m:Den R19) (Y:Yv):Bool:=c7M Y&&d7g m Y
theorem a6q {Y:Yv} (h:YM Y):Y.sails.length<=13:=h.boat.2.2.1.2
theorem d2c (Y:Yv) (h:YM Y) (m:Den R19) (i:I64 m.1.2.1) (d:inB Y.sl (-1) ((Y.sails.length:Int)-1)=true) :
 (bif decide (Y.sl ≥ 0)then bif m.2.1 then bif (decide (0<=Y.sl)&&decide (Y.sl<(Y.sails.length:Int)))then bif K20 (at' Y.sails Y.sl.toNat,m.1,())then some (G20 (at' Y.sails Y.sl.toNat,m.1,()))else none else none else some (false,())else some (true,()):OD R14)=some (d7g m Y,()):=by
 have c:=h.boat.2.2.1.1.at Y.sl.toNat;have e:=e6m (at' Y.sails Y.sl.toNat,m.1,()) c.2.1 c.2.2 i;have⟨k,g⟩:=kgP K20 G20 e;rw[k,g];unfold d7g;by_cases b:Y.sl ≥ 0
 ·have a:decide (Y.sl ≥ 0)=true:=decide_eq_true b;have f:decide (Y.sl<(Y.sails.length:Int))=true:=by
   unfold inB at d;simp only[and_eq_true,decide_eq_true_eq]at d ⊢;omega
  rw[a,f];cases m.2.1<;>rfl
 ·have a:decide (Y.sl ≥ 0)=false:=decide_eq_false b;rw[a];rfl
theorem c1f (Y:Yv) (h:YM Y) (m:Den R19) (i:I64 m.1.2.1) (d:inB Y.sl (-1) ((Y.sails.length:Int)-1)=true) :
 (bif decide (Y.sl ≥ 0)then bif m.2.1 then bif (decide (0<=Y.sl)&&decide (Y.sl<(Y.sails.length:Int)))then bif K55 (at' Y.sails Y.sl.toNat,m.1,())then some (G55 (at' Y.sails Y.sl.toNat,m.1,()))else none else none else some (false,())else some (true,()):OD R18)=some (d7g m Y,()):=by
 have c:=h.boat.2.2.1.1.at Y.sl.toNat;have e:=d5X (at' Y.sails Y.sl.toNat,m.1,()) c.2.1 c.2.2 i;have⟨k,g⟩:=kgP K55 G55 e;rw[k,g];unfold d7g;by_cases b:Y.sl ≥ 0
 ·have a:decide (Y.sl ≥ 0)=true:=decide_eq_true b;have f:decide (Y.sl<(Y.sails.length:Int))=true:=by
   unfold inB at d;simp only[and_eq_true,decide_eq_true_eq]at d ⊢;omega
  rw[a,f];cases m.2.1<;>rfl
 ·have a:decide (Y.sl ≥ 0)=false:=decide_eq_false b;rw[a];rfl
theorem c7N {n:Nat} (a:(n:Int)>0) (h:n<=1000):IntKind.i64.wrap ((n:Int)-1)=((n-1:Nat):Int) /\ (decide (0<=((n-1:Nat):Int))&&decide (((n-1:Nat):Int)<(n:Int)))=true:=by
 constructor
 ·rw[w64 (by omega) (by omega)];omega
 ·simp only[and_eq_true,decide_eq_true_eq];omega
theorem e7V (Y:Yv) (h:YM Y):F14 (Y,())=some (okV (a7y Y) Y,()):=by
 have c:=h.tk;have e:=c7L Y.ps;have⟨k1,g1⟩:=kgP K23 G23 e;have f:=e6I Y.1 h.boat;have⟨k2,g2⟩:=kgP K42 G42 f;have g:F43 (Y.tm,())=some (inB Y.tm 0 10000000,()):=c5H _;have⟨k3,g3⟩:=kgP K43 G43 g;have i:F44 (Y.hd,0,359,())=some (inB Y.hd 0 359,()):=a3H _;have⟨k4,g4⟩:=kgP K44 G44 i;have j:=b0i Y.wd;have⟨k5,g5⟩:=kgP K45 G45 j;have n:=a6q h;have w1:IntKind.i64.wrap ((Y.sails.length:Int)-1)=(Y.sails.length:Int)-1:=w64 (by omega) (by omega);have k:F44 (Y.sl,-1,(Y.sails.length:Int)-1,())=some (inB Y.sl (-1) ((Y.sails.length:Int)-1),()):=a3H _;have⟨k6,g6⟩:=kgP K44 G44 k;have l:F46 (Y.tk,())=some (a2y Y.tk,()):=d5Z Y.tk (by omega);have⟨k7,g7⟩:=kgP K46 G46 l;have m:=e7O Y;have⟨k8,g8⟩:=kgP K19 G19 m;unfold F14;show(bif K23 (Y.ps,())then bif K42 (Y.1,())then bif !(G42 (Y.1,())).1 then some (false,())else bif K43 (Y.tm,())then bif !(G43 (Y.tm,())).1 then some (false,())else
  bif !(G23 (Y.ps,())).2.1 then some (false,())else bif K44 (Y.hd,0,359,())then bif !(G44 (Y.hd,0,359,())).1 then some (false,())else
  bif K45 (Y.wd,())then bif !(G45 (Y.wd,())).1 then some (false,())else
  bif K44 (Y.sl,-1,IntKind.i64.wrap ((Y.sails.length:Int)-1),())then bif !(G44 (Y.sl,-1,IntKind.i64.wrap ((Y.sails.length:Int)-1),())).1 then some (false,())else
  bif K46 (Y.tk,())then bif !(G46 (Y.tk,())).1 then some (false,())else
  bif decide ((Y.lg.length:Int)>300)then some (false,())else
  bif decide ((Y.tk.length:Int)>0)then bif (decide (0<=IntKind.i64.wrap ((Y.tk.length:Int)-1))&&decide (IntKind.i64.wrap ((Y.tk.length:Int)-1)<(Y.tk.length:Int)))then
   bif decide ((sg Y.tk (IntKind.i64.wrap ((Y.tk.length:Int)-1)).toNat).2.1>Y.tm)then some (false,())else
   (bif decide (Y.sl ≥ 0)then bif K19 (Y,())then bif (G19 (Y,())).2.1 then bif (decide (0<=Y.sl)&&decide (Y.sl<(Y.sails.length:Int)))then bif K20 (at' Y.sails Y.sl.toNat,(G19 (Y,())).1,())then some (G20 (at' Y.sails Y.sl.toNat,(G19 (Y,())).1,()))else none else none else some (false,())else none else some (true,()))
   else none
  else(bif decide (Y.sl ≥ 0)then bif K19 (Y,())then bif (G19 (Y,())).2.1 then bif (decide (0<=Y.sl)&&decide (Y.sl<(Y.sails.length:Int)))then bif K20 (at' Y.sails Y.sl.toNat,(G19 (Y,())).1,())then some (G20 (at' Y.sails Y.sl.toNat,(G19 (Y,())).1,()))else none else none else some (false,())else none else some (true,()))
  else none else none else none else none else none else none else none:OD R14)=_
 rw[w1,k1,g1,k2,g2,k3,g3,k4,g4,k5,g5,k6,g6,k7,g7,k8,g8];simp only[cond_true];unfold okV c7M;cases c1:a5v Y.1
 ·rfl
 cases c2:inB Y.tm 0 10000000
 ·rfl
 cases c3:(a0Z Y.ps).2.1
 ·rfl
 cases c4:inB Y.hd 0 359
 ·rfl
 cases c5:a2E Y.wd
 ·rfl
 cases c6:inB Y.sl (-1) ((Y.sails.length:Int)-1)
 ·rfl
 cases c7:a2y Y.tk
 ·rfl
 cases c8:decide ((Y.lg.length:Int)>300)
 ·have d:=d2c Y h (a7y Y) (c7D Y) c6;unfold c1e;by_cases b:(Y.tk.length:Int)>0
  ·obtain⟨o,p⟩:=c7N b c;have a:decide ((Y.tk.length:Int)>0)=true:=decide_eq_true b;rw[a,o,p,toNat_natCast];cases decide ((sg Y.tk (Y.tk.length-1)).2.1>Y.tm)
   ·exact d
   ·rfl
  ·have a:decide ((Y.tk.length:Int)>0)=false:=decide_eq_false b;rw[a];exact d
 ·rfl
theorem d7h (Y:Yv) (h:YM Y):F18 (Y,())=some (okV (a1y Y) Y,()):=by
 have c:=h.tk;have e:=b9F Y.ps;have⟨k1,g1⟩:=kgP K49 G49 e;have f:=d6q Y.1 h.boat;have⟨k2,g2⟩:=kgP K50 G50 f;have g:F51 (Y.tm,0,10000000,())=some (inB Y.tm 0 10000000,()):=a1Z _;have⟨k3,g3⟩:=kgP K51 G51 g;have i:F51 (Y.hd,0,359,())=some (inB Y.hd 0 359,()):=a1Z _;have⟨k4,g4⟩:=kgP K51 G51 i;have j:=a4j Y.wd;have⟨k5,g5⟩:=kgP K52 G52 j;have n:=a6q h;have w1:IntKind.i64.wrap ((Y.sails.length:Int)-1)=(Y.sails.length:Int)-1:=w64 (by omega) (by omega);have k:F51 (Y.sl,-1,(Y.sails.length:Int)-1,())=some (inB Y.sl (-1) ((Y.sails.length:Int)-1),()):=a1Z _;have⟨k6,g6⟩:=kgP K51 G51 k;have l:F53 (Y.tk,())=some (a2y Y.tk,()):=e6s Y.tk (by omega);have⟨k7,g7⟩:=kgP K53 G53 l;have m:=c7C Y;have⟨k8,g8⟩:=kgP K54 G54 m;unfold F18;show(bif K49 (Y.ps,())then bif K50 (Y.1,())then bif !(G50 (Y.1,())).1 then some (false,())else bif K51 (Y.tm,0,10000000,())then bif !(G51 (Y.tm,0,10000000,())).1 then some (false,())else
  bif !(G49 (Y.ps,())).2.1 then some (false,())else bif K51 (Y.hd,0,359,())then bif !(G51 (Y.hd,0,359,())).1 then some (false,())else
  bif K52 (Y.wd,())then bif !(G52 (Y.wd,())).1 then some (false,())else
  bif K51 (Y.sl,-1,IntKind.i64.wrap ((Y.sails.length:Int)-1),())then bif !(G51 (Y.sl,-1,IntKind.i64.wrap ((Y.sails.length:Int)-1),())).1 then some (false,())else
  bif K53 (Y.tk,())then bif !(G53 (Y.tk,())).1 then some (false,())else
  bif decide ((Y.tk.length:Int)>0)then bif (decide (0<=IntKind.i64.wrap ((Y.tk.length:Int)-1))&&decide (IntKind.i64.wrap ((Y.tk.length:Int)-1)<(Y.tk.length:Int)))then
   bif decide ((sg Y.tk (IntKind.i64.wrap ((Y.tk.length:Int)-1)).toNat).2.1>Y.tm)then some (false,())else
   bif decide ((Y.lg.length:Int)>300)then some (false,())else
   (bif decide (Y.sl ≥ 0)then bif K54 (Y,())then bif (G54 (Y,())).2.1 then bif (decide (0<=Y.sl)&&decide (Y.sl<(Y.sails.length:Int)))then bif K55 (at' Y.sails Y.sl.toNat,(G54 (Y,())).1,())then some (G55 (at' Y.sails Y.sl.toNat,(G54 (Y,())).1,()))else none else none else some (false,())else none else some (true,()))
   else none
  else bif decide ((Y.lg.length:Int)>300)then some (false,())else(bif decide (Y.sl ≥ 0)then bif K54 (Y,())then bif (G54 (Y,())).2.1 then bif (decide (0<=Y.sl)&&decide (Y.sl<(Y.sails.length:Int)))then bif K55 (at' Y.sails Y.sl.toNat,(G54 (Y,())).1,())then some (G55 (at' Y.sails Y.sl.toNat,(G54 (Y,())).1,()))else none else none else some (false,())else none else some (true,()))
  else none else none else none else none else none else none else none:OD R18)=_
 rw[w1,k1,g1,k2,g2,k3,g3,k4,g4,k5,g5,k6,g6,k7,g7,k8,g8];simp only[cond_true];unfold okV c7M;cases c1:a5v Y.1
 ·rfl
 cases c2:inB Y.tm 0 10000000
 ·rfl
 cases c3:(a0Z Y.ps).2.1
 ·rfl
 cases c4:inB Y.hd 0 359
 ·rfl
 cases c5:a2E Y.wd
 ·rfl
 cases c6:inB Y.sl (-1) ((Y.sails.length:Int)-1)
 ·rfl
 cases c7:a2y Y.tk
 ·rfl
 have d:=c1f Y h (a1y Y) (b4v Y) c6;unfold c1e;by_cases b:(Y.tk.length:Int)>0
 ·obtain⟨o,p⟩:=c7N b c;have a:decide ((Y.tk.length:Int)>0)=true:=decide_eq_true b;rw[a,o,p,toNat_natCast];cases decide ((sg Y.tk (Y.tk.length-1)).2.1>Y.tm)
  ·cases c8:decide ((Y.lg.length:Int)>300)
   ·exact d
   ·rfl
  ·cases c8:decide ((Y.lg.length:Int)>300)<;>rfl
 ·have a:decide ((Y.tk.length:Int)>0)=false:=decide_eq_false b;rw[a];cases c8:decide ((Y.lg.length:Int)>300)
  ·exact d
  ·rfl
def d2d (g:Den a6c):Bool:=a2e g.2.1&&a0m g.2.2.1 0 100000
def d7i (v s:Nat×Nat):Nat×Nat:=(a0b .add .f32 v.1 s.1,a0b .add .f32 v.2 s.2)
def a5y (k:Int) (a:Nat) (s:Nat×Nat):(Nat×Nat)×Bool×Unit:=bif !(b4u k a).2.1 then((0,0),false,())else bif !a2E s then((0,0),false,())else(d7i (b4u k a).1 s,true,())
def onV (p v:Nat×Nat) (n:Int):Nat×Nat:=(a0b .add .f64 p.1 (a0b .mul .f64 (a0y .f32 .f64 v.1).2 (nearest .f64 n)),a0b .add .f64 p.2 (a0b .mul .f64 (a0y .f32 .f64 v.2).2 (nearest .f64 n)))
def d2e (p v:Nat×Nat) (n:Int):(Nat×Nat)×Bool×Unit:=
 bif !a3K p then((0,0),false,())else bif !a2E v then((0,0),false,())else bif !a0m n 0 100000 then((0,0),false,())else bif !a3K (onV p v n)then((0,0),false,())else(onV p v n,true,())
def b1R (p:Nat×Nat) (g:Den a6c) (n:Int) (s:Nat×Nat):(Nat×Nat)×Bool×Unit:=bif !(a5y g.1 g.2.1 s).2.1 then((0,0),false,())else d2e p (a5y g.1 g.2.1 s).1 n
def a9d (a:Den S30) (g:Den a6c):Nat->Nat×Nat->Int->Int->Option ((Nat×Nat)×Int×Int)
 |0,p,t,l=>some (p,t,l)
 |f+1,p,t,l=>bif decide (l>0)then bif !(a3f a p t).2.1 then none else bif !(b1R p g (a5e l 600) (a3f a p t).1).2.1 then none else a9d a g f (b1R p g (a5e l 600) (a3f a p t).1).1 (t+a5e l 600) (l-a5e l 600)else some (p,t,l)
def b1X (g:Den a6c):Int:=g.2.2.1
def f7h (p:Nat×Nat) (t:Int) (g:Den a6c) (a:Den S30):(Nat×Nat)×Bool×Unit:=
 bif !a3K p then((0,0),false,())else bif !d2d g then((0,0),false,())else match a9d a g 7 p t (b1X g)with|some r=>(r.1,true,())|none=>((0,0),false,())
theorem d2f {l:Int} (h:0<l):0<a5e l 600 /\ a5e l 600<=l /\ a5e l 600<=600 /\ (a5e l 600=l∨a5e l 600=600):=by
 unfold a5e;split<;>omega
theorem b4y (n:Int) (h:I64 n):F25 (n,())=some (bOf (Lib.itoa n),()):=by
 have k:K65 (n,())=true:=by
  unfold K65;unfold I64 at h;rw[decide_eq_true (show(-9223372036854775808:Int)<=n by omega),decide_eq_true (show n<=(9223372036854775807:Int)by omega)];rfl
 unfold F25
 try dsimp only
 rw[k];rfl
theorem b4z (s:ByteArray) (g:s.size<=1000):∃y,c0G ((s,(0:Int),(0:Int),()),())=some y /\ ∀z,y = .inl z->z.1.1=s /\ I64 z.1.2.1:=by
 refine a0C (q:=b5D) (fun v=>v.1.1=s /\ I64 v.1.2.1 /\ (0<=(v.1.2.2.1:Int)) /\ (v.1.2.2.1:Int)<=s.size) (fun _ r=>∃y,r=some y /\ ∀z,y = .inl z->z.1.1=s /\ I64 z.1.2.1)
  (fun v=>((s.size:Int)-v.1.2.2.1).toNat) ?_ _ _ ⟨rfl,by show I64 0;unfold I64;omega,by show(0:Int)<=0;omega,by show(0:Int)<=_;omega⟩ (by show((s.size:Int)-0).toNat<c5r _;unfold c5r;dsimp only;omega)
 rintro⟨⟨t,n,i,_⟩,_⟩ f ⟨h1,h2,h3,h4⟩ ih;dsimp only at h1 h2 h3 h4 ih;subst h1;unfold b5D;dsimp only;by_cases c:i<(t.size:Int)
 ·have b:decide (i<(t.size:Int))=true:=decide_eq_true c;have d:decide (0<=i)=true:=decide_eq_true h3;rw[b,d];simp only[Bool.and_self,cond_true];cases decide (a0o t i<48)
  ·cases decide (a0o t i>57)
   ·have e:IntKind.i64.wrap (i+1)=i+1:=w64 (by omega) (by omega);simp only[cond_false,e];refine ih _ ⟨rfl,c0J _,?_,?_⟩ ?_
    ·show 0<=i+1;omega
    ·show i+1<=t.size;omega
    ·show((t.size:Int)-(i+1)).toNat<((t.size:Int)-i).toNat;omega
   ·exact⟨_,rfl,fun z a=>by cases a⟩
  ·exact⟨_,rfl,fun z a=>by cases a⟩
 ·have b:decide (i<(t.size:Int))=false:=decide_eq_false c;rw[b];exact⟨_,rfl,fun z a=>by cases a;exact⟨rfl,h2⟩⟩
theorem e7W (s:ByteArray):∃n b,F17 (s,())=some (n,b,()):=by
 unfold F17;dsimp only;cases ((s.size:Int)==0)
 ·cases h10:decide ((s.size:Int)>10)
  ·have h:s.size<=10:=by
    have:=of_decide_eq_false h10;omega
   obtain⟨y,g,i⟩:=b4z s (by omega);simp only[cond_false,c5s,c5t,c5u,c5v,g,isSome_some,cond_true];cases y with
   |inr y=>exact⟨_,_,rfl⟩
   | inl z =>
     obtain⟨_,e⟩:=i z rfl;obtain⟨⟨t,n,_⟩,_⟩:=z;simp only[isR,cond_false,xOf];have f:K25 (n,())=true:=by unfold K25;rw[b4y n e];rfl
     have a:∀c d:Bool,∃(m:Int) (b:Bool),(bif c then some (0,false,())else bif d then some (0,false,())else some (n,true,()):OD R17)=some (m,b,()):=fun c d=>by
      cases c
      ·cases d
       ·exact⟨_,_,rfl⟩
       ·exact⟨_,_,rfl⟩
      ·exact⟨_,_,rfl⟩
     rw[show K25 (n,_)=true from f];exact a _ _
  ·exact⟨_,_,rfl⟩
 ·exact⟨_,_,rfl⟩
def c7O (l:List UInt8):List UInt8:=if l.length<3 then(if l.length<2 then(if l.length<1 then 48::48::48::l else 48::48::l)else 48::l)else l
theorem b9G {u:Nat} (h:u<10):Lib.decDigits u=[dg u]:=by rw[Lib.decDigits,dif_pos h];rfl
theorem b0A {u:Nat} (h:¬u<10):Lib.decDigits u=Lib.decDigits (u/10)++[dg (u%10)]:=by rw[Lib.decDigits,dif_neg h];rfl
theorem c7P (m:Nat) (h:m<1000):c7O (Lib.decDigits m)=(Lib.decDigits (1000+m)).drop 1:=by
 have d:dg 0=48:=rfl;have a1:Lib.decDigits (1000+m)=[dg 1,dg (m/100),dg (m/10%10),dg (m%10)]:=by
  rw[b0A (by omega),b0A (by omega),b0A (by omega),b9G (by omega)];have e:(1000+m)/10/10/10=1:=by omega
  have f:(1000+m)/10/10%10=m/100:=by omega
  have g:(1000+m)/10%10=m/10%10:=by omega
  have i:(1000+m)%10=m%10:=by omega
  rw[e,f,g,i];rfl
 rw[a1];by_cases b:m<10
 ·rw[b9G b];have a:m/100=0:=by omega
  have c:m/10%10=0:=by omega
  have j:m%10=m:=by omega
  rw[a,c,j,d];rfl
 ·by_cases k:m<100
  ·rw[b0A b,b9G (by omega)];have a:m/100=0:=by omega
   have c:m/10%10=m/10:=by omega
   rw[a,c,d];rfl
  ·rw[b0A b,b0A (by omega),b9G (by omega)];have a:m/10/10=m/100:=by omega
   rw[a];rfl
theorem d2g (n:Int) (sg l:List UInt8) (k:1<=l.length) (i:l.length<=100):c5x ((n,bOf sg,bOf l,()),())=some ((n,bOf sg,bOf (c7O l),()),()):=by
 have d:({ data:=#[48] }:ByteArray)=bOf [48]:=rfl;refine a0C (q:=c5w) (fun v=>∃l:List UInt8,v=((n,bOf sg,bOf l,()),()) /\ 1<=l.length /\ l.length<=100) (fun v r=>∀l:List UInt8,v=((n,bOf sg,bOf l,()),())->1<=l.length->r=some ((n,bOf sg,bOf (c7O l),()),()))
  (fun v=>3-v.1.2.2.1.size) ?_ _ _ ⟨l,rfl,k,i⟩ (by unfold d5Q;dsimp only;omega) l rfl k
 rintro v f ⟨l,rfl,o,p⟩ t l' s _;have e:bOf l=bOf l':=congrArg (fun v=>v.1.2.2.1) s;have g:l=l':=by
  have:=congrArg (fun b=>b.data.toList) e;simpa[bOf]using this
 subst g;unfold c5w;dsimp only;rw[a2n];by_cases j:l.length<3
 ·have c:decide (((l.length:Nat):Int)<3)=true:=decide_eq_true (by omega);have m:decide (ByteArray.size { data:=#[48] }+l.length<=9223372036854775807)=true:=decide_eq_true (by show 1+_<=_;omega);rw[c,m,cond_true,cond_true,d,a6S];refine(t _ ⟨[48]++l,rfl,by simp,by simp;omega⟩ ?_ ([48]++l) rfl (by simp)).trans ?_
  ·show 3-(bOf ([48]++l)).size<3-(bOf l).size;rw[a2n,a2n];simp;omega
  ·have:c7O ([48]++l)=c7O l:=by
    match l,o,j with
    |[a],_,_=>rfl
    |[a,b],_,_=>rfl
    |_::_::_::_,_,h=>simp at h;omega
   rw[this]
 ·have c:decide (((l.length:Nat):Int)<3)=false:=decide_eq_false (by omega);rw[c,cond_false];unfold c7O;rw[if_neg j]
theorem e0L (n:Int):e9X (n,())=some (decide ((-1000000000:Int)<=n)&&decide (n<=1000000000),()):=by
 have k:F44 (n,-1000000000,1000000000,())=some (decide ((-1000000000:Int)<=n)&&decide (n<=1000000000),()):=b8C _;unfold e9X;dsimp only;unfold K44 G44;rw[k];rfl
theorem b4A (m:Nat) (sg:List UInt8) (n:Int) (q:m<=1000000000) (s:sg.length<=1) (j:n=(m:Int)) :
 (bif K25 (((m%1000:Nat):Int),())then
  bif a8G ((n,bOf sg,G25 (((m%1000:Nat):Int),())),())then
   bif K25 (wrap IntKind.i64 (Int.tdiv (a1N ((n,bOf sg,G25 (((m%1000:Nat):Int),())),())).fst.fst 1000),())then
    bif decide (ByteArray.size (a1N ((n,bOf sg,G25 (((m%1000:Nat):Int),())),())).fst.snd.fst+ByteArray.size (G25 (wrap IntKind.i64 (Int.tdiv (a1N ((n,bOf sg,G25 (((m%1000:Nat):Int),())),())).fst.fst 1000),())).fst<=9223372036854775807)then
     bif decide (ByteArray.size ((a1N ((n,bOf sg,G25 (((m%1000:Nat):Int),())),())).fst.snd.fst++(G25 (wrap IntKind.i64 (Int.tdiv (a1N ((n,bOf sg,G25 (((m%1000:Nat):Int),())),())).fst.fst 1000),())).fst)+ByteArray.size { data:=#[46] }<=9223372036854775807)then
      bif decide (ByteArray.size ((a1N ((n,bOf sg,G25 (((m%1000:Nat):Int),())),())).fst.snd.fst++(G25 (wrap IntKind.i64 (Int.tdiv (a1N ((n,bOf sg,G25 (((m%1000:Nat):Int),())),())).fst.fst 1000),())).fst++{ data:=#[46] })+ByteArray.size (a1N ((n,bOf sg,G25 (((m%1000:Nat):Int),())),())).fst.snd.snd.fst<=9223372036854775807)then
       some ((a1N ((n,bOf sg,G25 (((m%1000:Nat):Int),())),())).fst.snd.fst++(G25 (wrap IntKind.i64 (Int.tdiv (a1N ((n,bOf sg,G25 (((m%1000:Nat):Int),())),())).fst.fst 1000),())).fst++{ data:=#[46] }++(a1N ((n,bOf sg,G25 (((m%1000:Nat):Int),())),())).fst.snd.snd.fst,())
      else none
     else none
    else none
   else none
  else none
 else none:OD f5z)=some (bOf (sg++Lib.itoa ((m/1000:Nat):Int)++[46]++(Lib.itoa ((1000+m%1000:Nat):Int)).drop 1),()):=by
 have l:I64 ((m%1000:Nat):Int):=by unfold I64;omega
 have o:I64 ((m/1000:Nat):Int):=by unfold I64;omega
 have g:=b4y _ l;have h:=b4y _ o;have⟨k1,g1⟩:=kgP K25 G25 g;have⟨k2,g2⟩:=kgP K25 G25 h;obtain⟨p,u⟩:=a3q ((m%1000:Nat):Int) (by omega);obtain⟨t,v⟩:=a3q ((m/1000:Nat):Int) (by omega);have b:=d2g n sg (Lib.itoa ((m%1000:Nat):Int)) p (by omega);have f:IntKind.i64.wrap (Int.tdiv n 1000)=((m/1000:Nat):Int):=by
  rw[j,Int.tdiv_eq_ediv_of_nonneg (by omega),w64 (by omega) (by omega)];omega
 have a:({ data:=#[46] }:ByteArray)=bOf [46]:=rfl;have e:(Lib.itoa ((1000+m%1000:Nat):Int)).drop 1=c7O (Lib.itoa ((m%1000:Nat):Int)):=by
  have c:Lib.itoa ((1000+m%1000:Nat):Int)=Lib.decDigits (1000+m%1000):=by unfold Lib.itoa;rw[if_neg (by omega),toNat_natCast]
  have d:Lib.itoa ((m%1000:Nat):Int)=Lib.decDigits (m%1000):=by unfold Lib.itoa;rw[if_neg (by omega),toNat_natCast]
  rw[c,d,c7P _ (by omega)]
 rw[k1,g1,cond_true,e];generalize Lib.itoa ((m%1000:Nat):Int)=A at *;have r:(c7O A).length<=30:=by
  unfold c7O;split
  ·split
   ·split<;>simp<;>omega
   ·simp;omega
  ·omega
 have i:a8G ((n,bOf sg,bOf A,()),())=true:=by unfold a8G;rw[b];rfl
 have k:a1N ((n,bOf sg,bOf A,()),())=((n,bOf sg,bOf (c7O A),()),()):=by unfold a1N;rw[b];rfl
 rw[i,k];dsimp only;rw[f,k2,g2];generalize Lib.itoa ((m/1000:Nat):Int)=B at *;dsimp only;simp only[cond_true,a,a6S,a2n,length_append,List.length_singleton];rw[decide_eq_true (show sg.length+B.length<=9223372036854775807 by omega),decide_eq_true (show sg.length+B.length+1<=9223372036854775807 by omega),decide_eq_true (show sg.length+B.length+1+(c7O A).length<=9223372036854775807 by omega)];rfl
theorem c7Q (n:Int):e9Y (n,())=some (bOf (a9y n),()):=by
 unfold e9Y a9y;dsimp only;unfold f9W f9X;rw[e0L];simp only[isSome_some,getD_some,cond_true];by_cases b:(-1000000000:Int)<=n /\ n<=1000000000
 ·have c:(decide ((-1000000000:Int)<=n)&&decide (n<=1000000000))=true:=by rw[decide_eq_true b.1,decide_eq_true b.2];rfl
  rw[c,Bool.not_true,cond_false,if_pos b];by_cases a:n<0
  ·have d:decide (n<0)=true:=decide_eq_true a;have f:IntKind.i64.wrap (0-n)=((n.natAbs:Nat):Int):=by rw[w64 (by omega) (by omega)];omega
   have e:Int.tmod ((n.natAbs:Nat):Int) 1000=((n.natAbs%1000:Nat):Int):=by rw[Int.tmod_eq_emod_of_nonneg (by omega)];omega
   rw[d,cond_true,f,e,if_pos a];exact b4A n.natAbs [45] _ (by omega) (by simp) rfl
  ·have d:decide (n<0)=false:=decide_eq_false a;have e:Int.tmod n 1000=((n.natAbs%1000:Nat):Int):=by rw[Int.tmod_eq_emod_of_nonneg (by omega)];omega
   rw[d,cond_false,e,if_neg a];exact b4A n.natAbs [] n (by omega) (by simp) (by omega)
 ·have c:(decide ((-1000000000:Int)<=n)&&decide (n<=1000000000))=false:=by
   rw[Bool.and_eq_false_iff,decide_eq_false_iff_not,decide_eq_false_iff_not];omega
  rw[c,Bool.not_false,cond_true,if_neg b];rfl
theorem c1g (s t:ByteArray) (sg d:Int) (h:t.size<=1000):∃y,a6N ((s,t,sg,d,(0:Int),(0:Int),()),())=some y:=by
 refine a0C (q:=a4b) (fun v=>v.1.2.1=t /\ (0<=(v.1.2.2.2.2.2.1:Int)) /\ (v.1.2.2.2.2.2.1:Int)<=t.size) (fun _ r=>∃y,r=some y)
  (fun v=>((t.size:Int)-v.1.2.2.2.2.2.1).toNat) ?_ _ _ ⟨rfl,by show(0:Int)<=0;omega,by show(0:Int)<=_;omega⟩ (by show((t.size:Int)-0).toNat<a8H _;unfold a8H;dsimp only;omega)
 rintro⟨⟨s,u,sg,d,n,i,_⟩,_⟩ f ⟨h1,h3,h4⟩ ih;dsimp only at h1 h3 h4 ih;subst h1;unfold a4b;dsimp only;by_cases c:i<(u.size:Int)
 ·have a:decide (i<(u.size:Int))=true:=decide_eq_true c;have g:decide (0<=i)=true:=decide_eq_true h3;have e:IntKind.i64.wrap (i+1)=i+1:=w64 (by omega) (by omega);have b:∀m:Int,∃y,f ((s,u,sg,d,m,i+1,()),())=some y:=fun m=>by
   refine ih _ ⟨rfl,?_,?_⟩ ?_
   ·show 0<=i+1;omega
   ·show i+1<=u.size;omega
   ·show((u.size:Int)-(i+1)).toNat<((u.size:Int)-i).toNat;omega
  rw[a,g,e];simp only[Bool.and_self,cond_true];cases (i==d)
  ·simp only[cond_false];cases decide (a0o u i<48)
   ·cases decide (a0o u i>57)
    ·exact b _
    ·exact⟨_,rfl⟩
   ·exact⟨_,rfl⟩
  ·exact b _
 ·have a:decide (i<(u.size:Int))=false:=decide_eq_false c;rw[a];exact⟨_,rfl⟩
theorem e7X (n:Int):d0W (n,())=true:=by unfold d0W;rw[c7Q];rfl
theorem c7R (s t:ByteArray) (sg:Int) (f:t.size<=1000):∃n b,(bif decide ((a5s (t,46,())).fst<1)then some (0,false,())
 else bif (((t.size:Nat):Int) != wrap IntKind.i64 ((a5s (t,46,())).fst+4))then some (0,false,())
 else bif decide ((a5s (t,46,())).fst>7)then some (0,false,())
 else bif a3n ((s,t,sg,(a5s (t,46,())).fst,0,0,()),())then
  bif a4c ((s,t,sg,(a5s (t,46,())).fst,0,0,()),())then some (a4N ((s,t,sg,(a5s (t,46,())).fst,0,0,()),())).fst
  else bif d0W (wrap IntKind.i64 ((a1h ((s,t,sg,(a5s (t,46,())).fst,0,0,()),())).fst.snd.snd.fst*(a1h ((s,t,sg,(a5s (t,46,())).fst,0,0,()),())).fst.snd.fst),())then
   bif !a1a (d9s (wrap IntKind.i64 ((a1h ((s,t,sg,(a5s (t,46,())).fst,0,0,()),())).fst.snd.snd.fst*(a1h ((s,t,sg,(a5s (t,46,())).fst,0,0,()),())).fst.snd.fst),())).fst (a1h ((s,t,sg,(a5s (t,46,())).fst,0,0,()),())).fst.fst then some (0,false,())
   else some (wrap IntKind.i64 ((a1h ((s,t,sg,(a5s (t,46,())).fst,0,0,()),())).fst.snd.snd.fst*(a1h ((s,t,sg,(a5s (t,46,())).fst,0,0,()),())).fst.snd.fst),true,())
  else none
 else none:OD e2p)=some (n,b,()):=by
 have a:∀(c:Bool) (n:Int) (b:Bool) (m:Int),∃(h:Int) (b':Bool),(bif c then some (n,b,())else some (m,true,()):OD e2p)=some (h,b',()):=fun c n b m=>by cases c<;>exact⟨_,_,rfl⟩
 generalize (a5s (t,46,())).fst=d;obtain⟨y,g⟩:=c1g s t sg d f;have e:a3n ((s,t,sg,d,0,0,()),())=true:=by unfold a3n;rw[g];rfl
 rw[e,e7X];simp only[cond_true];cases decide (d<1)
 ·cases (((t.size:Nat):Int) != wrap IntKind.i64 (d+4))
  ·cases decide (d>7)
   ·cases a4c ((s,t,sg,d,0,0,()),())
    ·exact a _ _ _ _
    ·exact⟨_,_,rfl⟩
   ·exact⟨_,_,rfl⟩
  ·exact⟨_,_,rfl⟩
 ·exact⟨_,_,rfl⟩
theorem e0M (s:ByteArray) (h:s.size<=1000):∃n b,d9t (s,())=some (n,b,()):=by
 unfold d9t;dsimp only;have a:∀t:ByteArray,e3r (t,46,())=true:=fun _=>rfl
 have c:=c7R s s 1 h;cases hb:a1a s { data:=#[] }with
 | true =>
   simp only[Bool.not_true,cond_false,a,cond_true];exact c
 | false =>
   have d:0<s.size:=by
    apply Nat.pos_of_ne_zero;intro g;have:s={ data:=#[] }:=a7g (by
     have:s.data.toList.length=0:=by rw[Array.length_toList];exact g
     rw[List.length_eq_zero_iff.1 this])
    rw[(a7M _ _).2 this]at hb;cases hb
   have e:(decide (0<=0)&&decide (0<((ByteArray.size s:Nat):Int)))=true:=by simp;omega
   have f:(decide (0<=1)&&decide (1<=((ByteArray.size s:Nat):Int))&&decide (((ByteArray.size s:Nat):Int)<=((ByteArray.size s:Nat):Int)))=true:=by simp;omega
   rw[e,f];simp only[Bool.not_false,cond_true];cases (a0o s 0==45)
   ·simp only[cond_false,a,cond_true];exact c
   ·simp only[cond_true,a];refine c7R s _ (-1) ?_;rw[ByteArray.size_extract];omega
def d2h (l:List (Den S68)) (m:Den S63):Int:=bif a2J l then(match a0x (fun i=>b1t (at' l i) m) 0 l.length with|some j=>(j:Int)|none=>-1)else -1
def e0N (l:List (Den S68)) (k:Int) (m:Den S63):Int:=
 bif !a2J l then -1 else bif inB k 0 ((l.length:Int)-1)&&a2x (at' l k.toNat) m then k else d2h l m
def daV (a b:Nat):Nat:=a0b .add .f32 a (a0b .mul .f32 (a0b .sub .f32 b a) 1056964608)
def a7A (w x:Nat×Nat):(Nat×Nat)×Bool×Unit:=bif !a2E w then((0,0),false,())else bif !a2E x then((0,0),false,())else((daV w.1 x.1,daV w.2 x.2),true,())
def uI (s:ByteArray):Int:=(G17 (s,())).1
def uB (s:ByteArray):Bool:=(G17 (s,())).2.1
theorem e7Y (s:ByteArray):F17 (s,())=some (uI s,uB s,()):=by
 obtain⟨n,b,h⟩:=e7W s;unfold uI uB G17;rw[h];rfl
def xI (s:ByteArray):Int:=(f5A (s,())).1
def xB (s:ByteArray):Bool:=(f5A (s,())).2.1
theorem e0O (s:ByteArray) (a:s.size<=1000):d9t (s,())=some (xI s,xB s,()):=by
 obtain⟨n,b,h⟩:=e0M s a;unfold xI xB f5A;rw[h];rfl
def b6p (n:Int):Nat:=bif decide ((-1000000000:Int)<=n)&&decide (n<=1000000000)then a0b .quo .f64 (nearest .f64 n) 4652007308841189376 else 0
def f7i (a b:ByteArray):Nat×Nat×Bool×Unit:=(b6p (xI a),b6p (xI b),xB a&&xB b,())
theorem c7S:IsR 4652007308841189376 1000:=b6k false 8796093022208000 (-43) (by decide +kernel) (by decide) (by decide +kernel)
theorem c7T (n:Int):∃r,IsR (b6p n) r /\ Abs r 2000000:=by
 unfold b6p;by_cases h:(-1000000000:Int)<=n /\ n<=1000000000
 ·rw[decide_eq_true h.1,decide_eq_true h.2];have i:=e7T n (by omega);have f:((-1000000000:Int):Rat)<=((n:Int):Rat):=Rat.intCast_le_intCast.2 h.1;have g:((n:Int):Rat)<=((1000000000:Int):Rat):=Rat.intCast_le_intCast.2 h.2;have d:((-1000000000:Int):Rat)=-1000000000:=by decide +kernel
  have e:((1000000000:Int):Rat)=1000000000:=by decide +kernel
  rw[d]at f;rw[e]at g;obtain⟨r,j,b,c⟩:=g2K (q:=((n:Int):Rat)/1000) (A:=1000000) (ε:=1) i c7S (by decide +kernel) (by rw[Rat.div_def,Rat.mul_assoc,show((1000:Rat)⁻¹*1000)=1 by decide +kernel,Rat.mul_one]) 20 (by
   rw[Rat.div_def];have a:(1000:Rat)⁻¹=1/1000:=by decide +kernel
   rw[a];constructor<;>grind) (by decide +kernel) (by decide +kernel) (by decide) (by decide)
  refine⟨r,j,?_⟩;rw[Rat.div_def]at b c;have a:(1000:Rat)⁻¹=1/1000:=by decide +kernel
  rw[a]at b c;constructor<;>grind
 ·have:(decide ((-1000000000:Int)<=n)&&decide (n<=1000000000))=false:=by
   rw[Bool.and_eq_false_iff,decide_eq_false_iff_not,decide_eq_false_iff_not];omega
  rw[this];exact⟨0,e0r,by constructor<;>decide +kernel⟩
theorem a7k (n:Int):(a0y .f64 .f32 (b6p n)).1=true:=by
 obtain⟨r,a,b⟩:=c7T n;exact a6p a (b.mono (by decide +kernel))
def b9H (w:Nat×Nat):Bool:=feq .f32 w.1 0&&feq .f32 w.2 0
def goS (Y:Yv):Nat:=bif decide (Y.sl ≥ 0)then a4o Y else 0
def goR (n:Int) (Y:Yv):(Nat×Nat)×Bool×Unit:=f7h Y.ps Y.tm (Y.hd,goS Y,n,()) Y.1.2.1
def goV (n:Int) (Y:Yv):Bool×Yv:=
 bif inB n 1 3600&&(!decide (Y.tm+n>10000000)&&!decide ((Y.tk.length:Int) ≥ 200))then
  bif (goR n Y).2.1&&(a0Z (goR n Y).1).2.1 then(true,Y.setGo (Y.tm+n) (goR n Y).1 (Y.tk++[((a0Z (goR n Y).1).1,Y.tm+n,())]))else(false,Y)
 else(false,Y)
theorem YM.hd' {Y:Yv} (h:YM Y) (k:Int):YM (Y.setHd k):=⟨h.boat,h.tk,h.lg⟩
theorem YM.wd' {Y:Yv} (h:YM Y) (w:Nat×Nat):YM (Y.setWd w):=⟨h.boat,h.tk,h.lg⟩
theorem kg {A R:Ty} {F:Den A->Option (Den R)} {x:Den A} {y d:Den R} (h:F x=some y):(F x).isSome=true /\ (F x).getD d=y:=by rw[h];exact⟨rfl,rfl⟩
def IsS (w:Nat) (q:Rat):Prop:=∃(s:Bool) (m:Nat) (e:Int),Ieee.single.read w = .number s m e /\ -149<=e /\ q=RV s m e
theorem c1h (neg:Bool) (K e:Nat) (g:e*2^23+K<255*2^23) (k:(e=0 /\ K<=2^24)∨(2^23<=K /\ K<=2^24)) :
 ∃(m:Nat) (c:Nat),Ieee.single.read (Ieee.single.word neg (e*2^23+K)) = .number neg m ((c:Int)-149) /\ m*2^c=K*2^e:=by
 have i:Ieee.single.word neg (e*2^23+K)%Ieee.single.signWeight=e*2^23+K:=by
  unfold Ieee.Format.word;rw[f0a];split<;>omega
 have h:(Ieee.single.word neg (e*2^23+K)/Ieee.single.signWeight%2==1)=neg:=by
  unfold Ieee.Format.word;rw[f0a];cases neg
  ·rw[if_neg (by decide)];have:(e*2^23+K)/2^31=0:=Nat.div_eq_of_lt (by omega);rw[this];rfl
  ·rw[if_pos rfl];have:(2^31+(e*2^23+K))/2^31=1:=by omega
   rw[this];rfl
 unfold Ieee.Format.read;dsimp only;rw[i,h,c6h,d1k,e6B];by_cases d:e*2^23+K<2^23
 ·rw[if_pos d];have:e=0:=by omega
  subst this;exact⟨K,0,by simp,by simp⟩
 ·rw[if_neg d,if_pos g];by_cases j:K<2^23
  ·exfalso;omega
  by_cases f:K=2^24
  ·have a:(e*2^23+K)/2^23=e+2:=by omega
   have b:(e*2^23+K)%2^23=0:=by omega
   rw[a,b];refine⟨2^23,e+1,?_,?_⟩
   ·rw[show((-149:Int)+((e+2-1:Nat):Int))=((e+1:Nat):Int)-149 by omega,Nat.add_zero]
   ·rw[f,<- Nat.pow_add,<- Nat.pow_add];congr 1;omega
  ·have a:(e*2^23+K)/2^23=e+1:=by omega
   have b:(e*2^23+K)%2^23=K-2^23:=by omega
   rw[a,b];refine⟨K,e,?_,rfl⟩;rw[show((-149:Int)+((e+1-1:Nat):Int))=((e:Nat):Int)-149 by omega,show 2^23+(K-2^23)=K by omega]
theorem a6r (neg:Bool):IsS (Ieee.single.word neg 0) 0:=by
 refine⟨neg,0,-149,?_,Int.le_refl _,?_⟩
 ·cases neg<;>decide
 ·unfold RV;grind
theorem e0P (neg:Bool) (n d:Nat) (h:2*(Ieee.Toward.even.cut neg n d*2^d)=2*n+2^d):Ieee.Toward.even.cut neg n d%2=0:=by
 unfold Ieee.Toward.cut at h ⊢;dsimp only at h ⊢;rw[Nat.one_shiftLeft]at h ⊢;by_cases hd:d<=n.log2+2
 ·rw[Nat.min_eq_left hd]at h ⊢;have a:=Nat.div_add_mod n (2^d);have c:=Nat.mod_lt n (Nat.two_pow_pos d);generalize e:(decide (2^d<2*(n%2^d))||(2^d==2*(n%2^d)&&n/2^d%2==1))=b at *;have i:b=true->2^d=2*(n%2^d)->n/2^d%2=1:=by
   intro h h';rw[h]at e;simp only[Bool.or_eq_true,decide_eq_true_eq,and_eq_true,beq_iff_eq]at e;omega
  have l:=Nat.two_pow_pos d;generalize 2^d=g at *;generalize n/g=q at *;generalize n%g=r at *;have j:q*g=g*q:=Nat.mul_comm _ _;cases b
  ·simp only[Bool.toNat_false,Nat.add_zero]at h ⊢;omega
  ·simp only[Bool.toNat_true,Nat.add_mul,Nat.one_mul]at h ⊢;have:=i rfl (by omega);omega
 ·rw[Nat.min_eq_right (by omega)]at h ⊢;have k:n<2^(n.log2+1):=Nat.lt_log2_self;have f:2^(n.log2+2)=2*2^(n.log2+1):=by rw[Nat.pow_succ];omega
  have a:n/2^(n.log2+2)=0:=Nat.div_eq_of_lt (by omega);have c:n%2^(n.log2+2)=n:=Nat.mod_eq_of_lt (by omega);rw[a,c]at h ⊢;have:(decide (2^(n.log2+2)<2*n)||(2^(n.log2+2)==2*n&&0%2==1))=false:=by
   simp only[Bool.or_eq_false_iff,decide_eq_false_iff_not,Bool.and_eq_false_iff];exact⟨by omega,.inr rfl⟩
  rw[this];rfl
theorem a3L (neg:Bool) (M:Nat) (p:Int) (t:M≠0) (P:(M.log2:Int)+p<=126) :
 ∃ (K:Nat) (last:Int),IsS (Ieee.single.nearest neg M p) (sgR neg*(K:Rat)*p2 last) /\ last=max (p+(M.log2:Int)-(23:Nat)) (-149) /\
   2*((K:Rat)*p2 last)<=2*((M:Rat)*p2 p)+p2 last /\ 2*((M:Rat)*p2 p)<=2*((K:Rat)*p2 last)+p2 last /\
   (last<=p->(K:Rat)*p2 last=(M:Rat)*p2 p) /\ (2*((K:Rat)*p2 last)=2*((M:Rat)*p2 p)+p2 last->K%2=0):=by
 unfold Ieee.Format.nearest;rw[if_neg t,g0b,e6B,c6h,d1k];dsimp only;have I:2^M.log2<=M:=Nat.log2_self_le t;have J:M<2^(M.log2+1):=Nat.lt_log2_self;generalize Q:M.log2=L at *;obtain⟨last,i⟩:∃last,last=max (p+(L:Int)-(23:Nat)) (-149):=⟨_,rfl⟩;rw[<- i];have B:p+(L:Int)-23<=last:=by omega
 have C:-149<=last:=by omega
 have D:last=p+(L:Int)-23∨last=-149:=by omega
 obtain⟨up,s⟩:∃up,up=(p-last).toNat:=⟨_,rfl⟩;obtain⟨d,hd⟩:∃d,d=(last-p).toNat:=⟨_,rfl⟩;rw[<- s,<- hd,Nat.shiftLeft_eq];have j:Ieee.Toward.even.cut neg (M*2^up) d<=2^24:=by
  refine c6j _ _ _ 24 ?_;have:M*2^up<2^(L+1+up):=by rw[Nat.pow_add];exact Nat.mul_lt_mul_of_pos_right J (Nat.two_pow_pos _)
  exact Nat.lt_of_lt_of_le this (Nat.pow_le_pow_right (by decide) (by omega))
 have q:last ≠ -149->2^23<=Ieee.Toward.even.cut neg (M*2^up) d:=by
  intro F;refine d6k _ _ _ 23 ?_;have:2^(L+up)<=M*2^up:=by rw[Nat.pow_add];exact Nat.mul_le_mul_right _ I
  exact Nat.le_trans (Nat.pow_le_pow_right (by decide) (by omega)) this
 have a:=b8V neg (M*2^up) d;have g:=e0P neg (M*2^up) d;have f:d=0->Ieee.Toward.even.cut neg (M*2^up) d=M*2^up:=fun e=>by rw[e,a3P]
 generalize Ieee.Toward.even.cut neg (M*2^up) d=K at *;obtain⟨e,A⟩:∃e,e=(last - -149).toNat:=⟨_,rfl⟩;rw[<- A];have b:e*2^23+K<255*2^23:=by omega
 rw[Nat.min_eq_left (Nat.le_of_lt b)];obtain⟨m,c,G,E⟩:=c1h neg K e b (by
  by_cases h:last=-149
  ·exact .inl ⟨by omega,j⟩
  ·exact .inr ⟨q h,j⟩)
 have H:RV neg m ((c:Int)-149)=sgR neg*(K:Rat)*p2 last:=by
  have k:(m:Rat)*p2 (c:Int)=(K:Rat)*p2 (e:Int):=by
   rw[a0R,a0R]
   exact_mod_cast congrArg (fun n:Nat=>(n:Rat)) E
  have l:last=(e:Int) + -149:=by omega
  unfold RV;rw[l,Int.sub_eq_add_neg,a0G,a0G];grind
 refine⟨K,last,⟨neg,m,_,G,by omega,H.symm⟩,rfl,?_⟩;by_cases z:last<=p
 ·have o:d=0:=by omega
  have y:=f o;have k:(K:Rat)*p2 last=(M:Rat)*p2 p:=by
   have l:p=(up:Int)+last:=by omega
   rw[y,l,a0G,a0R,Rat.natCast_mul];grind
  rw[k];have:=a0q last;exact⟨by grind,by grind,fun _=>rfl,fun h=>by exfalso;grind⟩
 ·have r:up=0:=by omega
  rw[r,Nat.pow_zero,Nat.mul_one]at a g;have k:p2 last=((2^d:Nat):Rat)*p2 p:=by
   have:last=(d:Int)+p:=by omega
   rw[this,a0G,a0R]
  have u:=a0q p;have N:2*((K:Rat)*((2^d:Nat):Rat))<=2*(M:Rat)+((2^d:Nat):Rat):=by exact_mod_cast a0e a.1
  have O:2*(M:Rat)<=2*((K:Rat)*((2^d:Nat):Rat))+((2^d:Nat):Rat):=by exact_mod_cast a0e a.2
  have m1:=a0r N (Rat.le_of_lt u);have R:=a0r O (Rat.le_of_lt u);rw[k];refine⟨by grind,by grind,fun h=>absurd h z,fun h=>g ?_⟩;have v:2*((K:Rat)*((2^d:Nat):Rat))=2*(M:Rat)+((2^d:Nat):Rat):=by
   have w:(2*((K:Rat)*((2^d:Nat):Rat))-(2*(M:Rat)+((2^d:Nat):Rat)))*p2 p=0:=by grind
   rcases Rat.mul_eq_zero.1 w with x|x
   ·grind
   ·grind
  exact_mod_cast v
theorem c7U (neg:Bool) (M:Nat) (p B:Int) (e:M≠0) (j:(M.log2:Int)+p<=B) (h:-126<=B) (i:B<=126) :
 ∃r,IsS (Ieee.single.nearest neg M p) r /\ b4K r (RV neg M p) (p2 (B-24)):=by
 obtain⟨K,last,d,l,m,n,f,g⟩:=a3L neg M p e (by omega);clear f g;refine⟨_,d,?_⟩;have c:p2 last<=2*p2 (B-24):=by
  rw[<- a2a];exact a7v (by omega)
 have a:sgR neg*(K:Rat)*p2 last=sgR neg*((K:Rat)*p2 last):=by grind
 have b:RV neg M p=sgR neg*((M:Rat)*p2 p):=by unfold RV;grind
 rw[a,b];clear a b d;generalize (K:Rat)*p2 last=k at *;generalize (M:Rat)*p2 p=x at *;generalize p2 last=u at *;generalize p2 (B-24)=ε at *;cases neg
 ·rw[show sgR false=1 from rfl];exact⟨by grind,by grind⟩
 ·rw[show sgR true=-1 from rfl];exact⟨by grind,by grind⟩
theorem c7V (neg:Bool) (M:Nat) (p:Int) (B:Int) (d:-126<=B) (e:B<=126) (c:RV neg M p<p2 (B+1)) (b:-p2 (B+1)<RV neg M p) :
 ∃r,IsS (Ieee.single.nearest neg M p) r /\ b4K r (RV neg M p) (p2 (B-24)):=by
 by_cases a:M=0
 ·subst a;refine⟨0,?_,?_⟩
  ·unfold Ieee.Format.nearest;rw[if_pos rfl];exact a6r neg
  ·rw[a2F];have:=a0q (B-24);constructor<;>grind
 ·refine c7U neg M p B a ?_ d e;have g:=c6p neg M p c b;have f:((2^M.log2:Nat):Rat)<=(M:Rat):=a0e (Nat.log2_self_le a);have h:=a0r f (Rat.le_of_lt (a0q p));have:p2 ((M.log2:Int)+p)<p2 (B+1):=by
   rw[a0G,a0R];grind
  have:=a3b this;omega
def Rnd (w:Nat) (x:Rat):Prop:=∃(neg:Bool) (M:Nat) (p:Int),w=Ieee.single.nearest neg M p /\ RV neg M p=x
theorem Rnd.val {w:Nat} {x:Rat} (h:Rnd w x) (B:Int) (c:-126<=B) (d:B<=126) (b:x<p2 (B+1)) (a:-p2 (B+1)<x):∃r,IsS w r /\ b4K r x (p2 (B-24)):=by
 obtain⟨neg,M,p,rfl,rfl⟩:=h;exact c7V neg M p B c d b a
theorem c7W {a b:Nat} {x y:Rat} (g:IsS a x) (h:IsS b y):Rnd (a0b .mul .f32 a b) (x*y):=by
 obtain⟨s,m,e,i,j,rfl⟩:=g;obtain⟨t,n,f,c,k,rfl⟩:=h;have d:a0b .mul .f32 a b=(((Ieee.single.read a).product (Ieee.single.read b)).map Ieee.single.write).getD (qn .f32):=rfl;rw[d,i,c];refine⟨s ^^ t,m*n,e+f,rfl,?_⟩;unfold RV;rw[c6q,a0G,Rat.natCast_mul];grind
theorem d7j (s t:Bool) (m n:Nat) (e f:Int):∃w,(Ieee.Datum.sum (.number s m e) (.number t n f)).map Ieee.single.write=some w /\ Rnd w (RV s m e+RV t n f):=by
 unfold Ieee.Datum.sum;dsimp only;have h:=a3p s m e (min e f) (by omega);have i:=a3p t n f (min e f) (by omega);generalize g:Ieee.signed s m (e-min e f).toNat+Ieee.signed t n (f-min e f).toNat=T;have b:((T:Int):Rat)*p2 (min e f)=RV s m e+RV t n f:=by
  rw[<- g,Rat.intCast_add,<- h,<- i];grind
 refine⟨_,rfl,_,_,_,rfl,?_⟩;rw[<- b];unfold RV;by_cases c:T=0
 ·subst c;simp[Rat.mul_zero,Rat.zero_mul]
 ·rw[if_neg c];by_cases d:T<0
  ·have a:((T:Int):Rat)=-((T.natAbs:Nat):Rat):=by
    rw[<- Rat.intCast_natCast,<- Rat.intCast_neg];congr 1;omega
   rw[a];simp only[d,decide_true];have:sgR true=-1:=rfl;rw[this];grind
  ·have a:((T:Int):Rat)=((T.natAbs:Nat):Rat):=by
    rw[<- Rat.intCast_natCast];congr 1;omega
   rw[a];simp only[d,decide_false];have:sgR false=1:=rfl;rw[this];grind
theorem d7k {a b:Nat} {x y:Rat} (i:IsS a x) (j:IsS b y):Rnd (a0b .add .f32 a b) (x+y):=by
 obtain⟨s,m,e,k,l,rfl⟩:=i;obtain⟨t,n,f,c,o,rfl⟩:=j;obtain⟨w,g,h⟩:=d7j s t m n e f;have d:a0b .add .f32 a b=(((Ieee.single.read a).sum (Ieee.single.read b)).map Ieee.single.write).getD (qn .f32):=rfl;rw[d,k,c,g];exact h
theorem b9I {a b:Nat} {x y:Rat} (j:IsS a x) (k:IsS b y):Rnd (a0b .sub .f32 a b) (x-y):=by
 obtain⟨s,m,e,l,o,rfl⟩:=j;obtain⟨t,n,f,c,p,rfl⟩:=k;have g:RV s m e-RV t n f=RV s m e+RV (!t) n f:=by rw[d6l];grind
 obtain⟨w,h,i⟩:=d7j s (!t) m n e f;have d:a0b .sub .f32 a b=(((Ieee.single.read a).sum (Ieee.single.read b).opposite).map Ieee.single.write).getD (qn .f32):=rfl;rw[d,l,c,g];show Rnd ((((Ieee.Datum.number s m e).sum (Ieee.Datum.number (!t) n f)).map Ieee.single.write).getD (qn .f32)) _;rw[h];exact i
theorem c1i (m n:Nat) (b:m≠0) (g:0<n):2^25*n<=m*2^(25+n.log2-m.log2)*2:=by
 have c:2^m.log2<=m:=Nat.log2_self_le b;have d:n<2^(n.log2+1):=Nat.lt_log2_self;have e:2^(25+n.log2)<=m*2^(25+n.log2-m.log2):=by
  have:2^m.log2*2^(25+n.log2-m.log2)<=m*2^(25+n.log2-m.log2):=Nat.mul_le_mul_right _ c;rw[<- Nat.pow_add]at this;exact Nat.le_trans (Nat.pow_le_pow_right (by decide) (by omega)) this
 have a:2^25*n<=2^25*2^(n.log2+1):=Nat.mul_le_mul_left _ (Nat.le_of_lt d);rw[<- Nat.pow_add]at a;have f:2^(25+(n.log2+1))=2^(25+n.log2)*2:=by rw[<- Nat.pow_succ];congr 1
 omega
theorem e0Q (s t:Bool) (m n:Nat) (e f:Int):Ieee.Datum.order (.number s m e) (.number t n f)=some (if RV s m e<RV t n f then .lt else if RV t n f<RV s m e then .gt else .eq):=by
 unfold Ieee.Datum.order;dsimp only;have i:=a3p s m e (min e f) (by omega);have j:=a3p t n f (min e f) (by omega);have d:=a0q (min e f);rw[<- i,<- j];generalize Ieee.signed s m (e-min e f).toNat=v;generalize Ieee.signed t n (f-min e f).toNat=w;generalize p2 (min e f)=g at *;have c:∀a b:Int,(a:Rat)*g<(b:Rat)*g↔a<b:=by
  intro a b;constructor
  ·intro h;apply Classical.byContradiction;intro k;have:(b:Rat)<=(a:Rat):=Rat.intCast_le_intCast.2 (by omega);have:=a0r this (Rat.le_of_lt d);grind
  ·intro h;have:(a:Rat)<(b:Rat):=Rat.intCast_lt_intCast.2 h;exact Rat.mul_lt_mul_of_pos_right this d
 simp only[c];congr 1;rw[Int.compare_eq_ite_lt]
theorem f7j {a b:Nat} {x y:Rat} (d:IsS a x) (g:IsS b y):FloatKind.f32.format.order a b=some (if x<y then .lt else if y<x then .gt else .eq):=by
 obtain⟨s,m,e,h,_,rfl⟩:=d;obtain⟨t,n,f,c,_,rfl⟩:=g;show(Ieee.single.read a).order (Ieee.single.read b)=_;rw[h,c];exact e0Q s t m n e f
theorem g2P {a b:Nat} {x y:Rat} (d:IsS a x) (e:IsS b y):fgt .f32 a b=decide (y<x):=by
 unfold fgt;rw[f7j d e];by_cases h:x<y
 ·have:¬y<x:=by grind
  simp[h,this]
 ·by_cases c:y<x<;>simp[h,c]
theorem e2B {a b:Nat} {x y:Rat} (d:IsS a x) (e:IsS b y):fle a b=decide (x<=y):=by
 unfold fle flt feq;rw[f7j d e];by_cases h:x<y
 ·have:x<=y:=by grind
  simp[h,this]
 ·by_cases c:y<x
  ·have:¬x<=y:=by grind
   simp[h,c,this]
  ·have:x<=y:=by grind
   simp[h,c,this]
theorem g0Q {a b:Nat} {x y:Rat} (d:IsS a x) (e:IsS b y):fge a b=decide (y<=x):=by
 unfold fge fgt feq;rw[f7j d e];by_cases h:x<y
 ·have:¬y<=x:=by grind
  simp[h,this]
 ·by_cases c:y<x
  ·have:y<=x:=by grind
   simp[h,c,this]
  ·have:y<=x:=by grind
   simp[h,c,this]
theorem e0R {w:Nat} (s:Bool) (m:Nat) (e:Int) (h:Ieee.single.read w = .number s m e) (a:-149<=e) {q:Rat} (b:RV s m e=q):IsS w q:=⟨s,m,e,h,a,b.symm⟩
theorem d2i:IsS 0 0:=e0R false 0 (-149) (by decide +kernel) (by decide) (a2F _ _)
theorem d7l:IsS 1112014848 50:=e0R false 13107200 (-18) (by decide +kernel) (by decide) (by decide +kernel)
theorem b9J:IsS 1120403456 100:=e0R false 13107200 (-17) (by decide +kernel) (by decide) (by decide +kernel)
theorem b6q {w:Nat} {s:Bool} {m:Nat} {e:Int} (h:Ieee.single.read w = .number s m e):-149<=e:=by
 unfold Ieee.Format.read at h;dsimp only at h;rw[e6B]at h;split at h
 ·cases h;exact Int.le_refl _
 ·split at h
  ·cases h;omega
  ·split at h<;>cases h
theorem f7k {w d:Nat} {y:Rat} (hd:IsS d y) (g:fge w 0=true) (c:fle w d=true):∃q,IsS w q /\ 0<=q /\ q<=y:=by
 have j:∃q,IsS w q:=by
  obtain⟨t,n,f,i,_,_⟩:=hd;have l:FloatKind.f32.format.order w 0=(Ieee.single.read w).order (Ieee.single.read 0):=rfl;have o:FloatKind.f32.format.order w d=(Ieee.single.read w).order (Ieee.single.read d):=rfl;obtain⟨s,m,e,k,_,_⟩:=d2i;unfold fge fle fgt feq flt at *;rw[l,k]at g;rw[o,i]at c;cases hz:Ieee.single.read w with
  |number a b p=>exact⟨_,a,b,p,hz,b6q hz,rfl⟩
  |nan a b=>rw[hz]at c;simp[Ieee.Datum.order]at c
  | infinity a =>
    rw[hz]at g c;cases a<;>simp[Ieee.Datum.order]at g c
 obtain⟨q,h⟩:=j;rw[g0Q h d2i]at g;rw[e2B h hd]at c;simp only[decide_eq_true_eq]at g c;exact⟨q,h,g,c⟩
theorem c7X {p:a4Q} (h:POK p):∀i,i<p.2.1.length->0<=aAt p i /\ aAt p i<=180:=by
 have step:∀i,i+1<p.2.1.length->aAt p i<aAt p (i+1):=by
  intro i a;have:=h.ang (i+1) a;unfold c0P at this;simpa using this
 have up:∀i,i<p.2.1.length->0<=aAt p i:=by
  intro i
  induction i with
  |zero=>intro _;rw[h.first];decide
  | succ i c =>
    intro a;have:=c (by omega);have:=step i a;omega
 have b:∀k i,i+k+1=p.2.1.length->aAt p i<=180:=by
  intro k
  induction k with
  | zero =>
    intro i a;have:=h.last;rw[show p.2.1.length-1=i by omega]at this;omega
  | succ k c =>
    intro i a;have:=c (i+1) (by omega);have:=step i (by omega);omega
 intro i a;exact⟨up i a,b (p.2.1.length-1-i) i (by omega)⟩
theorem e0S {p:a4Q} (h:POK p) {i:Nat} (b:i<p.1.length):∃q,IsS (wAt p i) q /\ 0<q /\ q<=100:=by
 have:=h.wind i b;unfold a3c at this;simp only[and_eq_true]at this;obtain⟨⟨a,d⟩,_⟩:=this;obtain⟨q,q1,e,c⟩:=f7k b9J (c7r a) d;rw[g2P q1 d2i]at a;simp only[decide_eq_true_eq]at a;exact⟨q,q1,a,c⟩
def spF (s:ByteArray):List ByteArray:=(G16 (s,())).1
def spO (s:ByteArray):Bool:=(G16 (s,())).2.1
theorem d7m (s:ByteArray):F16 (s,())=some (spF s,spO s,()):=by
 unfold spF spO G16;rw[b9b];cases decide ((s.size:Int)>600)
 ·cases c1x s
  ·rfl
  ·cases decide (((a0X s).length:Int)>24)<;>rfl
 ·rfl
theorem c7Y {s:ByteArray} (h:spO s=true):s.size<=600 /\ c1x s=true /\ spF s=a0X s /\ (spF s).length<=24:=by
 have e:=d7m s;rw[h]at e;exact d1z e
theorem b4B:∀(f:List (List UInt8)) (x:List UInt8),x∈f->x.length<=(a4n f).length
 | [y],x,h=>by
   rw[List.mem_singleton.1 h,a3e];exact le_refl _
 | y::z::r,x,h=>by
   rw[a2l];simp only[length_append,List.length_cons];rcases List.mem_cons.1 h with h|h
   ·rw[h];omega
   ·have:=b4B (z::r) x h;omega
theorem c7Z (b:ByteArray):b.size=b.data.toList.length:=by rw[Array.length_toList];rfl
theorem d2j {s:ByteArray} (h:spO s=true) (k:Int):(fAt (spF s) k).size<=600:=by
 obtain⟨c,_,a,_⟩:=c7Y h;have d:=c0V s;unfold fAt;rw[a,List.getD_eq_getElem?_getD];cases hx:(a0X s)[k.toNat]? with
 |none=>exact zero_le _
 | some x =>
   have b:x∈a0X s:=List.mem_of_getElem? hx;have:=b4B ((a0X s).map (·.data.toList)) x.data.toList (List.mem_map.2 ⟨x,b,rfl⟩);rw[<- a1P,<- c7Z,<- c7Z]at this;show x.size<=600;omega
structure Left (Y Z:Yv):Prop where
 boat:Z.1=Y.1
 lg:Z.lg=Y.lg
 tk:Z.tk=Y.tk∨∃s,Z.tk=Y.tk++[s]
theorem Left.refl (Y:Yv):Left Y Y:=⟨rfl,rfl,.inl rfl⟩
theorem b6r (Y:Yv) (k:Int):Left Y (Y.setSl k):=⟨rfl,rfl,.inl rfl⟩
theorem a6s {m:Den R19} {Y:Yv} (h:okV m Y=true):a5v Y.1=true /\ (0<=Y.tm /\ Y.tm<=10000000) /\ (a0Z Y.ps).2.1=true /\ (0<=Y.hd /\ Y.hd<=359) /\ a2E Y.wd=true /\ (-1<=Y.sl /\ Y.sl<=(Y.sails.length:Int)-1) /\ a2y Y.tk=true /\ Y.lg.length<=300 /\ c1e Y=false /\ d7g m Y=true:=by
 unfold okV c7M inB at h;simp only[and_eq_true,decide_eq_true_eq,Bool.not_eq_true',decide_eq_false_iff_not]at h;obtain⟨⟨b,c,d,e,f,g,i,k,j⟩,a⟩:=h;exact⟨b,c,d,e,f,g,i,by omega,j,a⟩
theorem c8a {t:List (Den S97)} (h:a2y t=true):t.length<=200:=by
 unfold a2y at h;simp only[and_eq_true,decide_eq_true_eq]at h;omega
abbrev J10:Type:=Unit×Unit×Unit×Unit×Unit×Unit×Int×Int×Int×Int×Unit×Int×Int×Int×Int×Int×(Nat×Nat)×Int×(Nat×Nat)×Int×Unit×Unit×Unit
def jn0:J10:=((),(),(),(),(),(),0,0,0,0,(),0,0,0,0,0,(0,0),0,(0,0),0,(),(),())
abbrev g0R:Type:=(((List (Den (.flt .f32)))×((List (Den (.int .i64)))×((List (Den (.slice (.flt .f32))))×((List (Den (a1B)))×((List (Den (.int .i64)))×((List (Den (S68)))×(Int×(Int×(Int×(Int×((List (Den (a2I)))×(Int×(Int×(Int×(Int×(Int×((Nat×Nat)×(Int×((Nat×Nat)×(Int×((List (Den (S97)))×((List (Den (.str)))×Unit)))))))))))))))))))))))
def flY (Y:Yv):g0R:=(Y.1.1.1,Y.1.1.2.1,Y.1.1.2.2.1,Y.1.2.1.1,Y.1.2.1.2.1,Y.1.2.2.1,Y.1.2.2.2.1.1.1.1,Y.1.2.2.2.1.1.1.2.1,Y.1.2.2.2.1.1.2.1.1,Y.1.2.2.2.1.1.2.1.2.1,Y.1.2.2.2.1.2.1,Y.1.2.2.2.1.2.2.1.1.1,Y.1.2.2.2.1.2.2.1.1.2.1,Y.1.2.2.2.1.2.2.1.2.1.1,Y.1.2.2.2.1.2.2.1.2.1.2.1,Y.2)
def g2Q (a:f5R):Den R10:=((((a.snd.fst.1,a.snd.fst.snd.1,a.snd.fst.snd.snd.1,()),(a.snd.fst.snd.snd.snd.1,a.snd.fst.snd.snd.snd.snd.1,()),a.snd.fst.snd.snd.snd.snd.snd.1,(((a.snd.fst.snd.snd.snd.snd.snd.snd.1,a.snd.fst.snd.snd.snd.snd.snd.snd.snd.1,()),(a.snd.fst.snd.snd.snd.snd.snd.snd.snd.snd.1,a.snd.fst.snd.snd.snd.snd.snd.snd.snd.snd.snd.1,()),()),a.snd.fst.snd.snd.snd.snd.snd.snd.snd.snd.snd.snd.1,((a.snd.fst.snd.snd.snd.snd.snd.snd.snd.snd.snd.snd.snd.1,a.snd.fst.snd.snd.snd.snd.snd.snd.snd.snd.snd.snd.snd.snd.1,()),(a.snd.fst.snd.snd.snd.snd.snd.snd.snd.snd.snd.snd.snd.snd.snd.1,a.snd.fst.snd.snd.snd.snd.snd.snd.snd.snd.snd.snd.snd.snd.snd.snd.1,()),()),()),()),a.snd.fst.snd.snd.snd.snd.snd.snd.snd.snd.snd.snd.snd.snd.snd.snd.snd),a.snd.snd.snd)
theorem e7Z {m:Den R19} {Z:Yv} (a1:a5v Z.1=true) (a2:0<=Z.tm /\ Z.tm<=10000000) (b:(a0Z Z.ps).2.1=true) (c:0<=Z.hd /\ Z.hd<=359) (d:a2E Z.wd=true) (e:-1<=Z.sl /\ Z.sl<=(Z.sails.length:Int)-1)
 (f:a2y Z.tk=true) (h:Z.lg.length<=300) (g:c1e Z=false) (a:d7g m Z=true):okV m Z=true:=by
 unfold okV c7M inB;simp only[and_eq_true,decide_eq_true_eq,Bool.not_eq_true',decide_eq_false_iff_not];exact⟨⟨a1,a2,b,c,d,e,f,by omega,g⟩,a⟩
theorem c1j {b:Den S40} (h:a5v b=true):a2J b.2.2.1=true:=by
 unfold a5v at h;simp only[and_eq_true]at h;exact h.2.2.1
theorem d2k {l:List (Den S68)} (h:a2J l=true) {j:Nat} (a:j<l.length):a1Y (at' l j)=true:=by
 unfold a2J at h;rw[and_eq_true]at h;have:=(a7N _ _ _).1 h.1 j (zero_le _) (by omega);rw[and_eq_true]at this;exact this.1
structure d2l (Y:Yv):Prop where
 ship:a5v Y.1=true
 tm:0<=Y.tm /\ Y.tm<=10000000
 ps:(a0Z Y.ps).2.1=true
 hd:0<=Y.hd /\ Y.hd<=359
 wd:a2E Y.wd=true
 sl:-1<=Y.sl /\ Y.sl<=(Y.sails.length:Int)-1
 tk:a2y Y.tk=true
 lg:Y.lg.length<=300
 late:c1e Y=false
theorem d2l.of {m:Den R19} {Y:Yv} (h:okV m Y=true):d2l Y:=by
 obtain⟨a,b,c,d,e,f,g,i,j,_⟩:=a6s h;exact⟨a,b,c,d,e,f,g,i,j⟩
theorem d2l.ok {Y:Yv} (h:d2l Y) {m:Den R19} (a:d7g m Y=true):okV m Y=true:=e7Z h.ship h.tm h.ps h.hd h.wd h.sl h.tk h.lg h.late a
theorem c8b {p:Nat×Nat} (h:(a0Z p).2.1=true):a1v (a0Z p).1=true:=by
 unfold a0Z at h ⊢;cases hv:a3K p with
 |false=>rw[hv]at h;cases h
 | true =>
   rw[hv]at h;cases hp:a1v (rnd p.1,rnd p.2,())with
   |false=>rw[hp]at h;cases h
   |true=>exact hp
abbrev g2R:Type:=(List (Den (.flt .f32)))×(List (Den (.int .i64)))×(List (Den (.slice (.flt .f32))))×(List (Den (a1B)))×(List (Den (.int .i64)))×(List (Den (S68)))×Int×Int×Int×Int×(List (Den (a2I)))×Int×Int×Int×Int×Unit
abbrev g0S:Type:=Unit×Unit×Unit×Unit×Unit×Unit×Int×Int×Int×Int×Unit×Int×Int×Int×Int×Unit
def flB (b:Den S40):g2R:=(b.1.1,b.1.2.1,b.1.2.2.1,b.2.1.1,b.2.1.2.1,b.2.2.1,b.2.2.2.1.1.1.1,b.2.2.2.1.1.1.2.1,b.2.2.2.1.1.2.1.1,b.2.2.2.1.1.2.1.2.1,b.2.2.2.1.2.1,b.2.2.2.1.2.2.1.1.1,b.2.2.2.1.2.2.1.1.2.1,b.2.2.2.1.2.2.1.2.1)
def jb0:g0S:=((),(),(),(),(),(),0,0,0,0,(),0,0,0,0,())
def jbB (b:Den S40):g0S:=((),(),(),(),(),(),b.2.2.2.1.1.1.1,b.2.2.2.1.1.1.2.1,b.2.2.2.1.1.2.1.1,b.2.2.2.1.1.2.1.2.1,(),b.2.2.2.1.2.2.1.1.1,b.2.2.2.1.2.2.1.1.2.1,b.2.2.2.1.2.2.1.2.1)
theorem e8a (v:c3G):v.2.1.2.2.1.length<c9Z v:=by
 unfold c9Z;refine Nat.lt_of_le_of_lt ?_ (Nat.lt_add_of_pos_right (by decide))
 repeat (first|exact Nat.le_add_left _ _|refine Nat.le_trans ?_ (Nat.le_add_right _ _))
theorem e8b (b:Den S40) (h:b.1.2.2.1.length<=1000) (o:∀r∈b.1.2.2.1,r.length<=1000) (w:List Nat) (a:List Int) :
 c3I (((),(),(),(0:Int),()),flB b,jb0,jbB b,w,a,[],())=some (((),(),(),()),flB b,jb0,jbB b,w,a,b.1.2.2.1,()):=by
 have i:c3I (((),(),(),(0:Int),()),flB b,jb0,jbB b,w,a,[],())=some (((),(),(),()),flB b,jb0,jbB b,w,a,b.1.2.2.1.take b.1.2.2.1.length,()):=by
  refine a1K (q:=c3H) (fun k=>(((),(),(),(k:Int),()),flB b,jb0,jbB b,w,a,b.1.2.2.1.take k,())) b.1.2.2.1.length _ ?_ ?_ _ (e8a (((),(),(),(0:Int),()),flB b,jb0,jbB b,w,a,[],()))
  ·intro k f d;have e:decide ((k:Int)<(b.1.2.2.1.length:Int))=true:=by simpa using d
   have m:decide (0<=(k:Int))=true:=by simp
   have c:getD b.1.2.2.1 k (zero (Ty.slice (Ty.flt FloatKind.f32)))=b.1.2.2.1[k]:=a3Z _ _ _ d;have j:a0n (0+(b.1.2.2.1[k]).length)=true:=a0v (by have:=o _ (List.getElem_mem d);omega);have l:a0n ((b.1.2.2.1.take k).length+1)=true:=a0v (by rw[List.length_take];omega);have n:IntKind.i64.wrap ((k:Int)+1)=((k+1:Nat):Int):=a2H k (by omega);have g:List.take (k+1) b.1.2.2.1=List.take k b.1.2.2.1++[b.1.2.2.1[k]]:=List.take_succ_eq_append_getElem d;unfold c3H;show(bif decide ((k:Int)<(b.1.2.2.1.length:Int))then bif (decide (0<=(k:Int))&&decide ((k:Int)<(b.1.2.2.1.length:Int)))then bif a0n (0+(getD b.1.2.2.1 k (zero (Ty.slice (Ty.flt FloatKind.f32)))).length)then bif a0n ((b.1.2.2.1.take k).length+1)then
    f (((),(),(),IntKind.i64.wrap ((k:Int)+1),()),flB b,jb0,jbB b,w,a,b.1.2.2.1.take k++[getD b.1.2.2.1 k (zero (Ty.slice (Ty.flt FloatKind.f32)))],())else none else none else none else _)=_
   rw[e,m,c,j,l,n,g];rfl
  ·intro f;have e:decide ((b.1.2.2.1.length:Int)<(b.1.2.2.1.length:Int))=false:=by simp
   unfold c3H;show(bif decide ((b.1.2.2.1.length:Int)<(b.1.2.2.1.length:Int))then _ else _)=_;rw[e];rfl
 rw[i,List.take_length]
def o80 (b:Den S40):O80.den:=((jbB b,()),b.1.1,b.1.2.1,b.1.2.2.1,b.2.1.1,b.2.1.2.1,b.2.2.1,b.2.2.2.1.2.1,())
theorem d7n (b:Den S40) (h:a8N b):F80 ((b,()),())=some (o80 b):=by
 obtain⟨⟨q,o,p,g⟩,⟨i,j⟩,⟨n,e⟩,m⟩:=h;have d:=e8b b (by omega) (fun r h=>by have:=g r h;omega) b.1.1 b.1.2.1;have f:b7y (((),(),(),(0:Int),()),flB b,jb0,jbB b,b.1.1,b.1.2.1,[],())=true:=by unfold b7y;rw[d];rfl
 have k:b7z (((),(),(),(0:Int),()),flB b,jb0,jbB b,b.1.1,b.1.2.1,[],())=(((),(),(),()),flB b,jb0,jbB b,b.1.1,b.1.2.1,b.1.2.2.1,()):=by unfold b7z;rw[d];rfl
 have a:∀{α:Type} (l:List α),l.length<=1000->a0n (0+l.length)=true:=fun l e=>e6J e
 unfold F80;show(bif a0n (0+b.1.1.length)then bif a0n (0+b.1.2.1.length)then bif b7y (((),(),(),(0:Int),()),flB b,jb0,jbB b,b.1.1,b.1.2.1,[],())then
  (fun c:d8B=>(bif a0n (0+c.2.1.2.2.2.1.length)then bif a0n (0+c.2.1.2.2.2.2.1.length)then bif a0n (0+c.2.1.2.2.2.2.2.1.length)then bif a0n (0+c.2.1.2.2.2.2.2.2.2.2.2.2.1.length)then
   some ((c.2.2.2.1,()),c.2.2.2.2.1,c.2.2.2.2.2.1,c.2.2.2.2.2.2.1,c.2.1.2.2.2.1,c.2.1.2.2.2.2.1,c.2.1.2.2.2.2.2.1,c.2.1.2.2.2.2.2.2.2.2.2.2.1,())else none else none else none else none:Option O80.den)) (b7z (((),(),(),(0:Int),()),flB b,jb0,jbB b,b.1.1,b.1.2.1,[],()))
  else none else none else none)=_
 rw[f,k,a b.1.1 (by omega),a b.1.2.1 (by omega)];show(bif a0n (0+b.2.1.1.length)then bif a0n (0+b.2.1.2.1.length)then bif a0n (0+b.2.2.1.length)then bif a0n (0+b.2.2.2.1.2.1.length)then _ else none else none else none else none)=_;rw[a b.2.1.1 (by omega),a b.2.1.2.1 (by omega),a b.2.2.1 (by omega),a b.2.2.2.1.2.1 (by omega)];rfl
def yO (a:O32.den):Yv:=(((a.snd.1,a.snd.snd.1,a.snd.snd.snd.1,()),(a.snd.snd.snd.snd.1,a.snd.snd.snd.snd.snd.1,()),a.snd.snd.snd.snd.snd.snd.1,(((a.fst.fst.snd.snd.snd.snd.snd.snd.1,a.fst.fst.snd.snd.snd.snd.snd.snd.snd.1,()),(a.fst.fst.snd.snd.snd.snd.snd.snd.snd.snd.1,a.fst.fst.snd.snd.snd.snd.snd.snd.snd.snd.snd.1,()),()),a.snd.snd.snd.snd.snd.snd.snd.1,((a.fst.fst.snd.snd.snd.snd.snd.snd.snd.snd.snd.snd.snd.1,a.fst.fst.snd.snd.snd.snd.snd.snd.snd.snd.snd.snd.snd.snd.1,()),(a.fst.fst.snd.snd.snd.snd.snd.snd.snd.snd.snd.snd.snd.snd.snd.1,a.fst.fst.snd.snd.snd.snd.snd.snd.snd.snd.snd.snd.snd.snd.snd.snd.1,()),()),()),()),a.fst.fst.snd.snd.snd.snd.snd.snd.snd.snd.snd.snd.snd.snd.snd.snd.snd)
def e8c:Yv:=((([],[],[],()),([],[],()),[],(((0,0,()),(0,0,()),()),[],((0,0,()),(0,0,()),()),()),()),0,(0,0),0,(0,0),0,[],[],())
def f1c (b:Den S40) (p:Nat×Nat) (t:Int):Bool:=a5v b&&((a0Z p).2.1&&inB t 0 10000000)
def f1d (b:Den S40) (p:Nat×Nat) (t:Int):Yv:=bif f1c b p t then(b,t,p,0,(0,0),-1,[],[],())else e8c
theorem e8d (b:Den S40) (p:Nat×Nat) (t:Int) (h:a8N b):∃o:O32.den,F32 ((b,p,t,()),())=some o /\ yO o=f1d b p t /\ o.1.2.1=f1c b p t:=by
 have a:=b9F p;have⟨k1,g1⟩:=kgP K49 G49 a;have c:=d6q b h;have⟨k2,g2⟩:=kgP K50 G50 c;have d:F51 (t,0,10000000,())=some (inB t 0 10000000,()):=a1Z _;have⟨k3,g3⟩:=kgP K51 G51 d;have e:=d7n b h;have⟨k4,g4⟩:=kgP K80 G80 e;unfold F32 f1d f1c;dsimp only;rw[k1,g1,k2,g2,k3,g3,k4,g4];cases a5v b
 ·exact⟨_,rfl,rfl,rfl⟩
 ·cases (a0Z p).2.1
  ·exact⟨_,rfl,rfl,rfl⟩
  ·cases inB t 0 10000000
   ·exact⟨_,rfl,rfl,rfl⟩
   ·exact⟨_,rfl,rfl,rfl⟩
theorem e0T (b:Den S40) (p:Nat×Nat) (t:Int) (h:a8N b):YM (f1d b p t):=by
 unfold f1d;cases f1c b p t
 ·refine⟨⟨⟨?_,?_,?_,?_⟩,⟨?_,?_⟩,⟨?_,?_⟩,?_⟩,?_,?_⟩<;>first|exact zero_le _|(intro r a;cases a)
 ·exact⟨h,zero_le _,zero_le _⟩
def c8c (l:List Int):Bool:=decide (l.length<=1048576)
structure e8e (Y Z:Yv):Prop where
 tm:Z.tm=Y.tm
 tk:Z.tk=Y.tk
theorem e8e.refl (Y:Yv):e8e Y Y:=⟨rfl,rfl⟩
def c8d (y:Den (.cons .bool .nil)):Option Unit:=bif y.1 then some ()else none
theorem d2m:∀y,c8d y=some ()->y=(true,()):=by
 rintro⟨b,⟨⟩⟩ h;cases b
 ·cases h
 ·rfl
theorem g2S (x:Den A8):F8 x=some (decide ((x.1.length:Int)>1048576),()):=rfl
set_option maxHeartbeats 0
abbrev I66:Sg:=⟨[.ptr 0],[.box (a1M)]⟩
abbrev O66:Sg:=⟨[.val (S46)],[.box (a1M)]⟩
abbrev a9e:Type:=a7u×ty2×ty3×ty6
abbrev d7o:Type:=ty5×ty2×ty3×ty6
def d7p:LX:=⟨[0,2,4],[],1,[2,4],[],⟨[(0,om1),(2,om2),(4,om3)],[(0,bx0),(1,bx4),(2,e8X),(3,.arr (.str))],4,1⟩,⟨[(2,om2),(4,om3)],[(0,bx0),(1,bx4),(2,e8X),(3,.arr (.str))],4,1⟩⟩
def b9K (f:a9e->Option (d7o)) (v:a9e):Option (d7o):=bif K34 (((),2,()),v.2.1,()) then let a:=G34 (((),2,()),v.2.1,());bif decide ((length v.2.2.2.2.1:Int)<(wrap .i64 (300+a.1.1))) then let b:=set (replicate 1 (zero Ty.str)) 0 { data:=#[115,97,105,108,32,110,111,110,101] };bif a0n (length v.2.2.2.2.1+length b) then f ((((),(),(),()),a.2.1,((),(),(),(),(),(),v.2.2.1.2.2.2.2.2.2.1,v.2.2.1.2.2.2.2.2.2.2.1,v.2.2.1.2.2.2.2.2.2.2.2.1,v.2.2.1.2.2.2.2.2.2.2.2.2.1,(),v.2.2.1.2.2.2.2.2.2.2.2.2.2.2.1,v.2.2.1.2.2.2.2.2.2.2.2.2.2.2.2.1,v.2.2.1.2.2.2.2.2.2.2.2.2.2.2.2.2.1,v.2.2.1.2.2.2.2.2.2.2.2.2.2.2.2.2.2.1,v.2.2.1.2.2.2.2.2.2.2.2.2.2.2.2.2.2.2.1,v.2.2.1.2.2.2.2.2.2.2.2.2.2.2.2.2.2.2.2.1,v.2.2.1.2.2.2.2.2.2.2.2.2.2.2.2.2.2.2.2.2.1,v.2.2.1.2.2.2.2.2.2.2.2.2.2.2.2.2.2.2.2.2.2.1,v.2.2.1.2.2.2.2.2.2.2.2.2.2.2.2.2.2.2.2.2.2.2.1,(),(),()),(v.2.2.2.1.1,v.2.2.2.1.2.1,v.2.2.2.1.2.2.1,v.2.2.2.1.2.2.2.1,v.2.2.2.1.2.2.2.2.1,v.2.2.2.1.2.2.2.2.2.1,v.2.2.2.1.2.2.2.2.2.2.1,v.2.2.2.1.2.2.2.2.2.2.2.1,v.2.2.2.1.2.2.2.2.2.2.2.2.1,v.2.2.2.1.2.2.2.2.2.2.2.2.2.1,v.2.2.2.1.2.2.2.2.2.2.2.2.2.2.1,v.2.2.2.1.2.2.2.2.2.2.2.2.2.2.2.1,v.2.2.2.1.2.2.2.2.2.2.2.2.2.2.2.2.1,v.2.2.2.1.2.2.2.2.2.2.2.2.2.2.2.2.2.1,v.2.2.2.1.2.2.2.2.2.2.2.2.2.2.2.2.2.2.1,v.2.2.2.1.2.2.2.2.2.2.2.2.2.2.2.2.2.2.2.1,v.2.2.2.1.2.2.2.2.2.2.2.2.2.2.2.2.2.2.2.2.1,v.2.2.2.1.2.2.2.2.2.2.2.2.2.2.2.2.2.2.2.2.2.1,v.2.2.2.1.2.2.2.2.2.2.2.2.2.2.2.2.2.2.2.2.2.2.1,v.2.2.2.1.2.2.2.2.2.2.2.2.2.2.2.2.2.2.2.2.2.2.2.1,v.2.2.2.1.2.2.2.2.2.2.2.2.2.2.2.2.2.2.2.2.2.2.2.2.1,(),()),v.2.2.2.2.1++b,()))else none else some (((),(),()),a.2.1,((),(),(),(),(),(),v.2.2.1.2.2.2.2.2.2.1,v.2.2.1.2.2.2.2.2.2.2.1,v.2.2.1.2.2.2.2.2.2.2.2.1,v.2.2.1.2.2.2.2.2.2.2.2.2.1,(),v.2.2.1.2.2.2.2.2.2.2.2.2.2.2.1,v.2.2.1.2.2.2.2.2.2.2.2.2.2.2.2.1,v.2.2.1.2.2.2.2.2.2.2.2.2.2.2.2.2.1,v.2.2.1.2.2.2.2.2.2.2.2.2.2.2.2.2.2.1,v.2.2.1.2.2.2.2.2.2.2.2.2.2.2.2.2.2.2.1,v.2.2.1.2.2.2.2.2.2.2.2.2.2.2.2.2.2.2.2.1,v.2.2.1.2.2.2.2.2.2.2.2.2.2.2.2.2.2.2.2.2.1,v.2.2.1.2.2.2.2.2.2.2.2.2.2.2.2.2.2.2.2.2.2.1,v.2.2.1.2.2.2.2.2.2.2.2.2.2.2.2.2.2.2.2.2.2.2.1,(),(),()),(v.2.2.2.1.1,v.2.2.2.1.2.1,v.2.2.2.1.2.2.1,v.2.2.2.1.2.2.2.1,v.2.2.2.1.2.2.2.2.1,v.2.2.2.1.2.2.2.2.2.1,v.2.2.2.1.2.2.2.2.2.2.1,v.2.2.2.1.2.2.2.2.2.2.2.1,v.2.2.2.1.2.2.2.2.2.2.2.2.1,v.2.2.2.1.2.2.2.2.2.2.2.2.2.1,v.2.2.2.1.2.2.2.2.2.2.2.2.2.2.1,v.2.2.2.1.2.2.2.2.2.2.2.2.2.2.2.1,v.2.2.2.1.2.2.2.2.2.2.2.2.2.2.2.2.1,v.2.2.2.1.2.2.2.2.2.2.2.2.2.2.2.2.2.1,v.2.2.2.1.2.2.2.2.2.2.2.2.2.2.2.2.2.2.1,v.2.2.2.1.2.2.2.2.2.2.2.2.2.2.2.2.2.2.2.1,v.2.2.2.1.2.2.2.2.2.2.2.2.2.2.2.2.2.2.2.2.1,v.2.2.2.1.2.2.2.2.2.2.2.2.2.2.2.2.2.2.2.2.2.1,v.2.2.2.1.2.2.2.2.2.2.2.2.2.2.2.2.2.2.2.2.2.2.1,v.2.2.2.1.2.2.2.2.2.2.2.2.2.2.2.2.2.2.2.2.2.2.2.1,v.2.2.2.1.2.2.2.2.2.2.2.2.2.2.2.2.2.2.2.2.2.2.2.2.1,(),()),v.2.2.2.2)else none
def c8e (v:a9e):Nat:=v.2.1.1.length+v.2.1.2.1.natAbs+v.2.1.2.2.1.natAbs+v.2.2.1.2.2.2.2.2.2.1.natAbs+v.2.2.1.2.2.2.2.2.2.2.1.natAbs+v.2.2.1.2.2.2.2.2.2.2.2.1.natAbs+v.2.2.1.2.2.2.2.2.2.2.2.2.1.natAbs+v.2.2.1.2.2.2.2.2.2.2.2.2.2.2.1.natAbs+v.2.2.1.2.2.2.2.2.2.2.2.2.2.2.2.1.natAbs+v.2.2.1.2.2.2.2.2.2.2.2.2.2.2.2.2.1.natAbs+v.2.2.1.2.2.2.2.2.2.2.2.2.2.2.2.2.2.1.natAbs+v.2.2.1.2.2.2.2.2.2.2.2.2.2.2.2.2.2.2.1.natAbs+v.2.2.1.2.2.2.2.2.2.2.2.2.2.2.2.2.2.2.2.2.1.natAbs+v.2.2.1.2.2.2.2.2.2.2.2.2.2.2.2.2.2.2.2.2.2.2.1.natAbs+v.2.2.2.1.1.length+v.2.2.2.1.2.1.length+v.2.2.2.1.2.2.1.length+v.2.2.2.1.2.2.2.1.length+v.2.2.2.1.2.2.2.2.1.length+v.2.2.2.1.2.2.2.2.2.1.length+v.2.2.2.1.2.2.2.2.2.2.1.natAbs+v.2.2.2.1.2.2.2.2.2.2.2.1.natAbs+v.2.2.2.1.2.2.2.2.2.2.2.2.1.natAbs+v.2.2.2.1.2.2.2.2.2.2.2.2.2.1.natAbs+v.2.2.2.1.2.2.2.2.2.2.2.2.2.2.1.length+v.2.2.2.1.2.2.2.2.2.2.2.2.2.2.2.1.natAbs+v.2.2.2.1.2.2.2.2.2.2.2.2.2.2.2.2.1.natAbs+v.2.2.2.1.2.2.2.2.2.2.2.2.2.2.2.2.2.1.natAbs+v.2.2.2.1.2.2.2.2.2.2.2.2.2.2.2.2.2.2.1.natAbs+v.2.2.2.1.2.2.2.2.2.2.2.2.2.2.2.2.2.2.2.1.natAbs+v.2.2.2.1.2.2.2.2.2.2.2.2.2.2.2.2.2.2.2.2.2.1.natAbs+v.2.2.2.1.2.2.2.2.2.2.2.2.2.2.2.2.2.2.2.2.2.2.2.1.natAbs+v.2.2.2.1.2.2.2.2.2.2.2.2.2.2.2.2.2.2.2.2.2.2.2.2.1.length+v.2.2.2.2.1.length+1000
def a9f (v:a9e):=a0K b9K (c8e v) v
def b6s (v):=(a9f v).isSome
def a5z (v):=(a9f v).getD (((),((),())),(([],(0,(0,()))),(((),((),((),((),((),((),(0,(0,(0,(0,((),(0,(0,(0,(0,(0,((0,0),(0,((0,0),(0,((),((),())))))))))))))))))))))),(([],([],([],([],([],([],(0,(0,(0,(0,([],(0,(0,(0,(0,(0,((0,0),(0,((0,0),(0,([],((),())))))))))))))))))))))),([],())))))
noncomputable def f1e:=gE [m33,m34,m32,m35,fzE m11,f3u,g0I,g0J,g0K] Tryz.f66 (lps:=[(18,lmX d7p a9f)]) (frz:=[14]) (rown:=[.frzBox 2])
theorem d2n:EvX f1e (lp Tryz.f66 0) d7p b9K:=fun _ _=>by kernel_rfl
theorem f7l:a1o Tryz.prog f1e:=a0L (s7c e4W a2N f2v f3K (d2M f6O) b3s e7y (s2 e7A e7C))
theorem g2T:a7b Tryz.prog 66 f1e (a0N Tryz.f66):=a1F Tryz.func66 rfl rfl rfl (by kernel_rfl) (a0j (by kernel_rfl) (s1 (lX d2n c8e)))
abbrev f7m:Ty:=.cons (S33) (.cons (S33) (.nil))
abbrev f7n:Ty:=.cons (S33) (.nil)
def g0T (x:Den f7m):OD f7n:=some ((wrap .i64 (x.1.1-x.2.1.1),wrap .i64 (x.1.2.1-x.2.1.2.1),()),())
def e8f (x):=(g0T x).isSome
def f1f (x):=(g0T x).getD (zero f7n)
def g2U:=(185,a0c f7m f7n e8f f1f)
theorem e8g:a0f Tryz.prog g2U:=fnE nS Tryz.func185
abbrev f7o:Ty:=.cons (S33) (.cons (S33) (.nil))
abbrev f7p:Ty:=.cons (.int .i64) (.nil)
def g0U (x:Den f7o):OD f7p:=some (wrap .i64 ((wrap .i64 (x.1.1*x.2.1.2.1))-(wrap .i64 (x.1.2.1*x.2.1.1))),())
def f1g (x):=(g0U x).isSome
def f7q (x):=(g0U x).getD (zero f7p)
def g2V:=(186,a0c f7o f7p f1g f7q)
theorem e8h:a0f Tryz.prog g2V:=fnE nS Tryz.func186
abbrev f7r:Ty:=.cons (S33) (.cons (S33) (.nil))
abbrev f7s:Ty:=.cons (.int .i64) (.nil)
def g0V (x:Den f7r):OD f7s:=some (wrap .i64 ((wrap .i64 (x.1.1*x.2.1.1))+(wrap .i64 (x.1.2.1*x.2.1.2.1))),())
def f1h (x):=(g0V x).isSome
def f7t (x):=(g0V x).getD (zero f7s)
def g2W:=(187,a0c f7r f7s f1h f7t)
theorem e8i:a0f Tryz.prog g2W:=fnE nS Tryz.func187
abbrev f1i:Ty:=.cons (S33) (.cons (S33) (.cons (S33) (.cons (S33) (.nil))))
abbrev f7u:Ty:=.cons (.int .i64) (.nil)
def f1j (x:Den f1i):OD f7u:=bif K63 (x.1,()) then bif !(G63 (x.1,())).1 then some (0,())else bif K63 (x.2.1,()) then bif !(G63 (x.2.1,())).1 then some (0,())else bif K63 (x.2.2.1,()) then bif !(G63 (x.2.2.1,())).1 then some (0,())else bif K63 x.2.2.2 then bif !(G63 x.2.2.2).1 then some (0,())else bif x.2.1.1==x.1.1&&x.2.1.2.1==x.1.2.1 then some (0,())else bif e8f (x.2.1,x.1,()) then let i:=e8f (x.2.2.1,x.2.1,());bif i then let c:=f1f (x.2.1,x.1,());let d:=f1f (x.2.2.1,x.2.1,());bif f1g (c.1,d) then let h:=e8f (x.2.2.2.1,x.2.1,());bif h then let e:=f1f (x.2.2.2.1,x.2.1,());bif f1g (c.1,e) then bif i then bif f1h (c.1,d) then bif h then bif f1h (c.1,e) then let a:=f7q (c.1,d);let b:=f7q (c.1,e);let g:=wrap .i64 ((wrap .i64 ((f7t (c.1,e)).1*a.1))-(wrap .i64 ((f7t (c.1,d)).1*b.1)));bif decide (g<0) then bif decide (a.1>b.1) then some (0,())else bif decide (g>0) then bif decide (a.1<b.1) then some (0,())else bif decide (a.1>0) then bif decide (b.1<=0) then some (1,())else bif decide (a.1<=0) then bif decide (b.1>0) then some (-1,())else some (0,())else some (0,())else bif decide (a.1<=0) then bif decide (b.1>0) then some (-1,())else some (0,())else some (0,())else bif decide (a.1>0) then bif decide (b.1<=0) then some (1,())else bif decide (a.1<=0) then bif decide (b.1>0) then some (-1,())else some (0,())else some (0,())else bif decide (a.1<=0) then bif decide (b.1>0) then some (-1,())else some (0,())else some (0,())else bif decide (g>0) then bif decide (a.1<b.1) then some (0,())else bif decide (a.1>0) then bif decide (b.1<=0) then some (1,())else bif decide (a.1<=0) then bif decide (b.1>0) then some (-1,())else some (0,())else some (0,())else bif decide (a.1<=0) then bif decide (b.1>0) then some (-1,())else some (0,())else some (0,())else bif decide (a.1>0) then bif decide (b.1<=0) then some (1,())else bif decide (a.1<=0) then bif decide (b.1>0) then some (-1,())else some (0,())else some (0,())else bif decide (a.1<=0) then bif decide (b.1>0) then some (-1,())else some (0,())else some (0,())else none else none else none else none else none else none else none else none else none else none else none else none else none
def e2C (x):=(f1j x).isSome
def e8j (x):=(f1j x).getD (zero f7u)
def g0W:=(122,a0c f1i f7u e2C e8j)
theorem e8k:a0f Tryz.prog g0W:=fnE (s4 c4M e8g e8h e8i) Tryz.func122
abbrev A64:Ty:=.cons (S38) (.cons (.int .i64) (.cons (.slice (S97)) (.cons (.int .i64) (.nil))))
abbrev R64:Ty:=.cons (.int .i64) (.nil)
abbrev d2o:Type:=(Int×c1w×Unit×Int×a6K)×d8r×Unit
abbrev e8l:Type:=a5r
abbrev e8m:Type:=c9J
def e8n:LR:=⟨[1,2,4,9,10,11],[],0,[],[],⟨[(1,om0),(2,e1Q),(4,om1),(9,om0),(10,om0),(11,om0)],[(0,bx9)],1,0⟩,⟨[],[],0,0⟩,⟨[(8,om0)],[],0,0⟩⟩
def c8f (f:d2o->Option (e8l⊕e8m)) (v:d2o):Option (e8l⊕e8m):=let a:=wrap .i64 (v.1.2.2.2.2.2.1+1);let b:=(length v.1.2.1:Int);bif decide (a<b) then let c:=((((v.2.1.1,v.2.1.2.1,()),(v.2.1.2.2.1,v.2.1.2.2.2.1,()),()),v.2.1.2.2.2.2.1,((v.2.1.2.2.2.2.2.1,v.2.1.2.2.2.2.2.2.1,()),v.2.1.2.2.2.2.2.2.2,()),()),v.1.1,());bif e5C c then bif decide (0<=v.1.1)&&decide (v.1.1<(length v.2.1.2.2.2.2.1:Int)) then bif decide (0<=v.1.2.2.2.2.2.1)&&decide (v.1.2.2.2.2.2.1<b) then bif decide (0<=a)&&decide (a<b) then let d:=e5D c;let e:=getD v.2.1.2.2.2.2.1 (toNat v.1.1) (zero a2I);let g:=getD v.1.2.1 (toNat v.1.2.2.2.2.2.1) (zero S97);let h:=getD v.1.2.1 (toNat a) (zero S97);bif e2C (d.1,e.1,g.1,h.1,()) then let i:=wrap .i64 (v.1.2.2.2.2.1+(e8j (d.1,e.1,g.1,h.1,())).1);bif i==v.1.2.2.2.1 then some (Sum.inr ((a,()),()))else f (((v.1.1,v.1.2.1,(),v.1.2.2.2.1,i,a,()),v.2))else none else none else none else none else none else some (Sum.inl ((),()))
def e0U (v:d2o):Nat:=v.1.1.natAbs+v.1.2.1.length+v.1.2.2.2.1.natAbs+v.1.2.2.2.2.1.natAbs+v.1.2.2.2.2.2.1.natAbs+v.2.1.1.natAbs+v.2.1.2.1.natAbs+v.2.1.2.2.1.natAbs+v.2.1.2.2.2.1.natAbs+v.2.1.2.2.2.2.1.length+v.2.1.2.2.2.2.2.1.natAbs+v.2.1.2.2.2.2.2.2.1.natAbs+v.2.1.2.2.2.2.2.2.2.1.natAbs+v.2.1.2.2.2.2.2.2.2.2.1.natAbs+1000
def b4C (v:d2o):=a0K c8f (e0U v) v
def c8g (v):=(b4C v).isSome
def c8h (v):=isR (b4C v)
def g0X (v):=xOf default (b4C v)
def c8i (v):=yOf default (b4C v)
def F64 (x:Den A64):OD R64:=bif K93 (x.1,()) then bif !(G93 (x.1,())).1 then some (-1,())else bif K46 (x.2.2.1,()) then bif !(G46 (x.2.2.1,())).1 then some (-1,())else let a:=wrap .i64 ((length x.1.2.1:Int)-1);bif K44 (x.2.1,0,a,()) then bif !(G44 (x.2.1,0,a,())).1 then some (-1,())else let b:=wrap .i64 ((length x.2.2.1:Int)-1);bif K44 (x.2.2.2.1,0,b,()) then bif !(G44 (x.2.2.2.1,0,b,())).1 then some (-1,())else bif decide (0<=x.2.1)&&decide (x.2.1<(length x.1.2.1:Int)) then bif (getD x.1.2.1 (toNat x.2.1) (zero a2I)).2.1 then bif c8g ((x.2.1,x.2.2.1,(),-1,0,x.2.2.2),(x.1.1.1.1,x.1.1.1.2.1,x.1.1.2.1.1,x.1.1.2.1.2.1,x.1.2.1,x.1.2.2.1.1.1,x.1.2.2.1.1.2.1,x.1.2.2.1.2.1),()) then bif c8h ((x.2.1,x.2.2.1,(),-1,0,x.2.2.2),(x.1.1.1.1,x.1.1.1.2.1,x.1.1.2.1.1,x.1.1.2.1.2.1,x.1.2.1,x.1.2.2.1.1.1,x.1.2.2.1.1.2.1,x.1.2.2.1.2.1),()) then some (c8i ((x.2.1,x.2.2.1,(),-1,0,x.2.2.2),(x.1.1.1.1,x.1.1.1.2.1,x.1.1.2.1.1,x.1.1.2.1.2.1,x.1.2.1,x.1.2.2.1.1.1,x.1.2.2.1.1.2.1,x.1.2.2.1.2.1),())).1 else some (-1,())else none else bif c8g ((x.2.1,x.2.2.1,(),1,0,x.2.2.2),(x.1.1.1.1,x.1.1.1.2.1,x.1.1.2.1.1,x.1.1.2.1.2.1,x.1.2.1,x.1.2.2.1.1.1,x.1.2.2.1.1.2.1,x.1.2.2.1.2.1),()) then bif c8h ((x.2.1,x.2.2.1,(),1,0,x.2.2.2),(x.1.1.1.1,x.1.1.1.2.1,x.1.1.2.1.1,x.1.1.2.1.2.1,x.1.2.1,x.1.2.2.1.1.1,x.1.2.2.1.1.2.1,x.1.2.2.1.2.1),()) then some (c8i ((x.2.1,x.2.2.1,(),1,0,x.2.2.2),(x.1.1.1.1,x.1.1.1.2.1,x.1.1.2.1.1,x.1.1.2.1.2.1,x.1.2.1,x.1.2.2.1.1.1,x.1.2.2.1.1.2.1,x.1.2.2.1.2.1),())).1 else some (-1,())else none else none else none else none else none else none
def K64 (x):=(F64 x).isSome
def G64 (x):=(F64 x).getD (zero R64)
def m64:=(64,a0c A64 R64 K64 G64)
noncomputable def g2X:=gE [m93,m46,m44,f4t,g0W] Tryz.f64 (lps:=[(8,lmR e8n b4C)])
theorem e0V:EvR g2X (lp Tryz.f64 0) e8n c8f:=fun _ _=>by kernel_rfl
theorem f7v:a0f Tryz.prog m64:=a0Q (a0L (s5 e5H e5L a9v d5m e8k)) (a1F Tryz.func64 rfl rfl rfl (by kernel_rfl) (a0j (by kernel_rfl) (s1 (lR e0V e0U)))) fun _=>by kernel_rfl
abbrev I24:Sg:=⟨[.val (S38),.val (.slice (S97)),.val (.int .i64)],[]⟩
abbrev O24:Sg:=⟨[.own (.int .i64) 0],[.arr (.int .i64)]⟩
abbrev d2p:Type:=(c1w×Int×Unit×d2T)×d8r×ty4×Unit
abbrev e0W:Type:=a5r×ty4×Unit
def e8o:LX:=⟨[1,2,3,7,11,12],[.nil 7],0,[7],[],⟨[(1,e1Q),(2,om0),(3,om1),(7,.one (.ref (.int .i64) 1)),(11,om0),(12,om0)],[(0,bx9),(1,.arr (.int .i64))],2,0⟩,⟨[(7,.one (.ref (.int .i64) 0))],[(0,.arr (.int .i64))],1,0⟩⟩
def c8j (f:d2p->Option (e0W)) (v:d2p):Option (e0W):=bif decide (v.1.2.2.2.2.2.1<v.1.2.2.2.2.1) then let b:=((((v.2.1.1,v.2.1.2.1,()),(v.2.1.2.2.1,v.2.1.2.2.2.1,()),()),v.2.1.2.2.2.2.1,((v.2.1.2.2.2.2.2.1,v.2.1.2.2.2.2.2.2.1,()),v.2.1.2.2.2.2.2.2.2,()),()),v.1.2.2.2.2.2.1,v.1.1,v.1.2.1,());bif K64 b then let a:=G64 b;bif decide (a.1<0) then some (((),()),v.2.2)else let c:=set (replicate 1 (zero (Ty.int IntKind.i64))) 0 a.1;bif a0n (length v.2.2.1+length c) then f (((v.1.1,a.1,(),(),v.1.2.2.2.2.1,wrap .i64 (v.1.2.2.2.2.2.1+1),()),v.2.1,v.2.2.1++c,()))else none else none else some (((),()),v.2.2)
def e0X (v:d2p):Nat:=v.1.1.length+v.1.2.1.natAbs+v.1.2.2.2.2.1.natAbs+v.1.2.2.2.2.2.1.natAbs+v.2.1.1.natAbs+v.2.1.2.1.natAbs+v.2.1.2.2.1.natAbs+v.2.1.2.2.2.1.natAbs+v.2.1.2.2.2.2.1.length+v.2.1.2.2.2.2.2.1.natAbs+v.2.1.2.2.2.2.2.2.1.natAbs+v.2.1.2.2.2.2.2.2.2.1.natAbs+v.2.1.2.2.2.2.2.2.2.2.1.natAbs+v.2.2.1.length+1000
def c8k (v:d2p):=a0K c8j (e0X v) v
def d7q (v):=(c8k v).isSome
def d7r (v):=(c8k v).getD default
def F24 (x:I24.den):Option (O24.den):=bif d7q ((x.1.2.1,x.1.2.2.1,(),(),(length x.1.1.2.1:Int),0,()),(x.1.1.1.1.1,x.1.1.1.1.2.1,x.1.1.1.2.1.1,x.1.1.1.2.1.2.1,x.1.1.2.1,x.1.1.2.2.1.1.1,x.1.1.2.2.1.1.2.1,x.1.1.2.2.1.2.1),[],()) then some (((),()),(d7r ((x.1.2.1,x.1.2.2.1,(),(),(length x.1.1.2.1:Int),0,()),(x.1.1.1.1.1,x.1.1.1.1.2.1,x.1.1.1.2.1.1,x.1.1.1.2.1.2.1,x.1.1.2.1,x.1.1.2.2.1.1.1,x.1.1.2.2.1.1.2.1,x.1.1.2.2.1.2.1),[],())).2)else none
def K24 (x):=(F24 x).isSome
def G24 (x):=(F24 x).getD (a0Y O24)
def m24:=(24,a0H false I24 O24 K24 G24)
noncomputable def g2Y:=gE [m64] Tryz.f24 (lps:=[(3,lmX e8o c8k)])
theorem e0Y:EvX g2Y (lp Tryz.f24 0) e8o c8j:=fun _ _=>by kernel_rfl
theorem e8p:a0f Tryz.prog m24:=a2Y (a0L (s1 f7v)) (a1F Tryz.func24 rfl rfl rfl (by kernel_rfl) (a0j (by kernel_rfl) (s1 (lX e0Y e0X)))) false fun _=>by kernel_rfl
abbrev A22:Ty:=.cons (S46) (.nil)
abbrev R22:Ty:=.cons (.str) (.nil)
def F22 (x:Den A22):OD R22:=bif K14 x then bif !(G14 x).1 then some ({ data:=#[] },())else bif K23 (x.1.2.2.1,()) then bif decide (x.1.2.2.2.2.2.1 ≥ 0) then bif decide (0<=x.1.2.2.2.2.2.1)&&decide (x.1.2.2.2.2.2.1<(length x.1.1.2.2.1:Int)) then bif K25 (x.1.2.1,()) then let b:=G23 (x.1.2.2.1,());bif K25 (b.1.1,()) then bif K25 b.1.2 then bif K25 (x.1.2.2.2.1,()) then bif K25 ((length x.1.2.2.2.2.2.2.1:Int),()) then bif K24 ((x.1.1.2.2.2.1,x.1.2.2.2.2.2.2.1,0,()),()) then let a:=G24 ((x.1.1.2.2.2.1,x.1.2.2.2.2.2.2.1,0,()),());bif K25 ((length a.2.1:Int),()) then let c:=set (set (set (set (set (set (set (replicate 7 (zero Ty.str)) 0 (G25 (x.1.2.1,())).1) 1 (G25 (b.1.1,())).1) 2 (G25 b.1.2).1) 3 (G25 (x.1.2.2.2.1,())).1) 4 (getD x.1.1.2.2.1 (toNat x.1.2.2.2.2.2.1) (zero S68)).1) 5 (G25 ((length x.1.2.2.2.2.2.2.1:Int),())).1) 6 (G25 ((length a.2.1:Int),())).1;bif K60 (c,{ data:=#[32] },()) then some (G60 (c,{ data:=#[32] },()))else none else none else none else none else none else none else none else none else none else bif K25 (x.1.2.1,()) then let b:=G23 (x.1.2.2.1,());bif K25 (b.1.1,()) then bif K25 b.1.2 then bif K25 (x.1.2.2.2.1,()) then bif K25 ((length x.1.2.2.2.2.2.2.1:Int),()) then bif K24 ((x.1.1.2.2.2.1,x.1.2.2.2.2.2.2.1,0,()),()) then let a:=G24 ((x.1.1.2.2.2.1,x.1.2.2.2.2.2.2.1,0,()),());bif K25 ((length a.2.1:Int),()) then let d:=set (set (set (set (set (set (set (replicate 7 (zero Ty.str)) 0 (G25 (x.1.2.1,())).1) 1 (G25 (b.1.1,())).1) 2 (G25 b.1.2).1) 3 (G25 (x.1.2.2.2.1,())).1) 4 { data:=#[110,111,110,101] }) 5 (G25 ((length x.1.2.2.2.2.2.2.1:Int),())).1) 6 (G25 ((length a.2.1:Int),())).1;bif K60 (d,{ data:=#[32] },()) then some (G60 (d,{ data:=#[32] },()))else none else none else none else none else none else none else none else none else none else none
def K22 (x):=(F22 x).isSome
def G22 (x):=(F22 x).getD (zero R22)
def m22:=(22,a0c A22 R22 K22 G22)
theorem f7w:a0f Tryz.prog m22:=fnE (s5 f5y d9g e6i e8p f1P) Tryz.func22
abbrev e8q:Sg:=⟨[.ptr 0,.val (S38)],[.box (a1M)]⟩
abbrev f7x:Sg:=⟨[.own (S97) 1],[.box (a1M),.arr (S97)]⟩
abbrev a9g:Type:=(Unit×Unit×Unit×Int×b2X)×ty2×d8r×c1w×a6K×Unit
abbrev c8l:Type:=a5r×ty2×c1w×Unit
def d7s:LX:=⟨[0,3,5,6,7,8],[],0,[5],[],⟨[(0,om1),(3,om2),(5,.one (.ref (S97) 2)),(6,om0),(7,.one (.ptr 3 0)),(8,om0)],[(0,bx0),(1,bx9),(2,.arr (S97)),(3,.box [.int .i64,.int .i64])],4,1⟩,⟨[(5,.one (.ref (S97) 1))],[(0,bx0),(1,.arr (S97))],2,1⟩⟩
def b9L (f:a9g->Option (c8l)) (v:a9g):Option (c8l):=let m:=(length v.2.2.1.2.2.2.2.1:Int);bif decide (v.1.2.2.2.2.2.1<(wrap .i64 (3+(wrap .i64 (m*5))))) then bif decide (v.1.2.2.2.2.2.1<60) then let i:=set (replicate 1 (zero S97)) 0 (v.2.2.2.2.1,v.1.2.2.2.1,());bif a0n (length v.2.2.2.1+length i) then bif K34 (((),30,()),v.2.1,()) then let l:=wrap .i64 (Int.tdiv v.1.2.2.2.2.2.1 5);bif decide (l<m) then let n:=((((v.2.2.1.1,v.2.2.1.2.1,()),(v.2.2.1.2.2.1,v.2.2.1.2.2.2.1,()),()),v.2.2.1.2.2.2.2.1,((v.2.2.1.2.2.2.2.2.1,v.2.2.1.2.2.2.2.2.2.1,()),v.2.2.1.2.2.2.2.2.2.2,()),()),l,());bif e1X n then let o:=decide (0<=l)&&decide (l<m);bif o then bif o then let d:=getD v.2.2.1.2.2.2.2.1 (toNat l) (zero a2I);bif d.2.1 then let j:=e3G n;let k:=wrap .i64 (d.1.1-j.1.1);bif c1y (k,-30,30,()) then let e:=wrap .i64 (d.1.2.1-j.1.2.1);bif c1y (e,-30,30,()) then bif Int.tmod v.1.2.2.2.2.2.1 5==4 then let a:=G34 (((),30,()),v.2.1,());bif K77 (((),8,()),a.2) then let b:=G77 (((),8,()),a.2);bif b.1.1 then bif c4n (((),d.1,40,()),b.2) then let c:=b5y (((),d.1,40,()),b.2);f ((((),(),(),wrap .i64 ((wrap .i64 (v.1.2.2.2.1+1))+a.1.1),(),wrap .i64 (v.1.2.2.2.2.2.1+1),()),c.2.1,v.2.2.1,v.2.2.2.1++i,c.1))else none else f ((((),(),(),wrap .i64 ((wrap .i64 (v.1.2.2.2.1+1))+a.1.1),(),wrap .i64 (v.1.2.2.2.2.2.1+1),()),b.2.1,v.2.2.1,v.2.2.2.1++i,(wrap .i64 (d.1.1-(b1W (k,-30,30,())).1),wrap .i64 (d.1.2.1-(b1W (e,-30,30,())).1),()),()))else none else let a:=G34 (((),30,()),v.2.1,());bif K77 (((),8,()),a.2) then let b:=G77 (((),8,()),a.2);bif b.1.1 then bif c4n (((),d.1,40,()),b.2) then let c:=b5y (((),d.1,40,()),b.2);f ((((),(),(),wrap .i64 ((wrap .i64 (v.1.2.2.2.1+1))+a.1.1),(),wrap .i64 (v.1.2.2.2.2.2.1+1),()),c.2.1,v.2.2.1,v.2.2.2.1++i,c.1))else none else let c:=b1W (k,-30,30,());let g:=b1W (e,-30,30,());let h:=wrap .i64 (2-Int.tmod v.1.2.2.2.2.2.1 5);f ((((),(),(),wrap .i64 ((wrap .i64 (v.1.2.2.2.1+1))+a.1.1),(),wrap .i64 (v.1.2.2.2.2.2.1+1),()),b.2.1,v.2.2.1,v.2.2.2.1++i,(wrap .i64 ((wrap .i64 (d.1.1+c.1))-(wrap .i64 ((wrap .i64 (-1*g.1))*h))),wrap .i64 ((wrap .i64 (d.1.2.1+g.1))+(wrap .i64 ((wrap .i64 (-1*c.1))*h))),()),()))else none else none else none else let j:=e3G n;let k:=wrap .i64 (d.1.1-j.1.1);bif c1y (k,-30,30,()) then let e:=wrap .i64 (d.1.2.1-j.1.2.1);bif c1y (e,-30,30,()) then bif Int.tmod v.1.2.2.2.2.2.1 5==4 then let a:=G34 (((),30,()),v.2.1,());bif K77 (((),8,()),a.2) then let b:=G77 (((),8,()),a.2);bif b.1.1 then bif c4n (((),d.1,40,()),b.2) then let c:=b5y (((),d.1,40,()),b.2);f ((((),(),(),wrap .i64 ((wrap .i64 (v.1.2.2.2.1+1))+a.1.1),(),wrap .i64 (v.1.2.2.2.2.2.1+1),()),c.2.1,v.2.2.1,v.2.2.2.1++i,c.1))else none else f ((((),(),(),wrap .i64 ((wrap .i64 (v.1.2.2.2.1+1))+a.1.1),(),wrap .i64 (v.1.2.2.2.2.2.1+1),()),b.2.1,v.2.2.1,v.2.2.2.1++i,(wrap .i64 (d.1.1-(b1W (k,-30,30,())).1),wrap .i64 (d.1.2.1-(b1W (e,-30,30,())).1),()),()))else none else let a:=G34 (((),30,()),v.2.1,());bif K77 (((),8,()),a.2) then let b:=G77 (((),8,()),a.2);bif b.1.1 then bif c4n (((),d.1,40,()),b.2) then let c:=b5y (((),d.1,40,()),b.2);f ((((),(),(),wrap .i64 ((wrap .i64 (v.1.2.2.2.1+1))+a.1.1),(),wrap .i64 (v.1.2.2.2.2.2.1+1),()),c.2.1,v.2.2.1,v.2.2.2.1++i,c.1))else none else let c:=b1W (k,-30,30,());let g:=b1W (e,-30,30,());let h:=wrap .i64 (2-Int.tmod v.1.2.2.2.2.2.1 5);f ((((),(),(),wrap .i64 ((wrap .i64 (v.1.2.2.2.1+1))+a.1.1),(),wrap .i64 (v.1.2.2.2.2.2.1+1),()),b.2.1,v.2.2.1,v.2.2.2.1++i,(wrap .i64 ((wrap .i64 (d.1.1+c.1))-(wrap .i64 ((wrap .i64 (1*g.1))*h))),wrap .i64 ((wrap .i64 (d.1.2.1+g.1))+(wrap .i64 ((wrap .i64 (1*c.1))*h))),()),()))else none else none else none else none else none else none else let d:=wrap .i64 (30+(wrap .i64 (40*Int.tmod v.1.2.2.2.2.2.1 3)));let j:=G34 (((),30,()),v.2.1,());let p:=(((),(d,0,()),25,()),j.2);bif c4n p then let a:=b5y p;f ((((),(),(),wrap .i64 ((wrap .i64 (v.1.2.2.2.1+1))+j.1.1),(),wrap .i64 (v.1.2.2.2.2.2.1+1),()),a.2.1,v.2.2.1,v.2.2.2.1++i,a.1))else none else none else none else some (((),()),v.2.1,v.2.2.2.1,())else some (((),()),v.2.1,v.2.2.2.1,())
def d7t (v:a9g):Nat:=v.1.2.2.2.1.natAbs+v.1.2.2.2.2.2.1.natAbs+v.2.1.1.length+v.2.1.2.1.natAbs+v.2.1.2.2.1.natAbs+v.2.2.1.1.natAbs+v.2.2.1.2.1.natAbs+v.2.2.1.2.2.1.natAbs+v.2.2.1.2.2.2.1.natAbs+v.2.2.1.2.2.2.2.1.length+v.2.2.1.2.2.2.2.2.1.natAbs+v.2.2.1.2.2.2.2.2.2.1.natAbs+v.2.2.1.2.2.2.2.2.2.2.1.natAbs+v.2.2.1.2.2.2.2.2.2.2.2.1.natAbs+v.2.2.2.1.length+v.2.2.2.2.1.1.natAbs+v.2.2.2.2.1.2.1.natAbs+1000
def b9M (v:a9g):=a0K b9L (d7t v) v
def c8m (v):=(b9M v).isSome
def b6t (v):=(b9M v).getD default
def f1k (x:e8q.den):Option (f7x.den):=bif K34 (((),50,()),x.2) then let a:=G34 (((),50,()),x.2);let b:=(((),(-20,0,()),15,()),a.2);bif c4n b then let c:=b5y b;let d:=(((),(),(),a.1.1,(),0,()),c.2.1,(x.1.2.1.1.1.1,x.1.2.1.1.1.2.1,x.1.2.1.1.2.1.1,x.1.2.1.1.2.1.2.1,x.1.2.1.2.1,x.1.2.1.2.2.1.1.1,x.1.2.1.2.2.1.1.2.1,x.1.2.1.2.2.1.2.1),replicate 0 (zero S97),c.1);bif c8m d then some (((),()),(b6t d).2)else none else none else none
def f7y (x):=(f1k x).isSome
def f1l (x):=(f1k x).getD (a0Y f7x)
def g0Y:=(115,a0H true e8q f7x f7y f1l)
noncomputable def f7z:=gE [m34,f3y,f2p,f6q,m77] Tryz.f115 (lps:=[(5,lmX d7s b9M)])
theorem d2q:EvX f7z (lp Tryz.f115 0) d7s b9L:=fun _ _=>by kernel_rfl
theorem e8r:a0f Tryz.prog g0Y:=a2Y (a0L (s5 a2N d4t d3z c6O a5t)) (a1F Tryz.func115 rfl rfl rfl (by kernel_rfl) (a0j (by kernel_rfl) (s1 (lX d2q d7t)))) true fun _=>by kernel_rfl
abbrev A59:Ty:=.cons (.slice (.int .u8)) (.nil)
abbrev R59:Ty:=.cons (S46) (.cons (.int .i64) (.nil))
noncomputable def f7A:=gE [m30,m77,g0Y,m34] Tryz.f59 (rown:=[.frzBox 2])
theorem f7B:a1o Tryz.prog f7A:=a0L (s4 e4r a5t e8r a2N)
theorem g2Z:a7b Tryz.prog 59 f7A (a0N Tryz.f59):=a1F Tryz.func59 rfl rfl rfl (by kernel_rfl) (a2Z (by kernel_rfl))
abbrev A21:Ty:=.cons (.slice (.int .u8)) (.nil)
abbrev R21:Ty:=.cons (S46) (.nil)
noncomputable def f7C:=gE [] Tryz.f21
theorem f7D:a1o Tryz.prog f7C:=a0L nS
theorem g3a:a7b Tryz.prog 21 f7C (a0N Tryz.f21):=a1F Tryz.func21 rfl rfl rfl (by kernel_rfl) (a2Z (by kernel_rfl))
abbrev A6:Ty:=.cons (.slice (.int .u8)) (.nil)
abbrev R6:Ty:=.cons (.bool) (.nil)
noncomputable def Γ6:=gE [m8,m22,m18,m16,m23,m24,m25] Tryz.f6
theorem g3b:a1o Tryz.prog Γ6:=a0L (s7 g1M f7w e4o f5B d9g e8p e6i)
theorem is6:a7b Tryz.prog 6 Γ6 (a0N Tryz.f6):=a1F Tryz.func6 rfl rfl rfl (by kernel_rfl) (a2Z (by kernel_rfl))
theorem f7E (x:Den f7m):e8f x=true:=rfl
theorem f7F (x:Den f7o):f1g x=true:=rfl
theorem f7G (x:Den f7r):f1h x=true:=rfl
theorem e8s (x:Den f1i):e2C x=true:=by
 unfold e2C f1j;simp only[e6p,f7E,f7F,f7G,cond_true,b5F,isSome_some,c5G]
def d2r (o m a b:Den S33):Int:=(e8j (o,m,a,b,())).1
theorem e0Z (x:Den f1i):f1j x=some (d2r x.1 x.2.1 x.2.2.1 x.2.2.2.1,()):=by
 have h:=e8s x;unfold e2C at h;unfold d2r e8j;obtain⟨y,a⟩:=Option.isSome_iff_exists.1 h;rw[show(x.1,x.2.1,x.2.2.1,x.2.2.2.1,())=x from rfl,a];rfl
def b4D (c:Den S38) (k:Nat) (t:List (Den S97)) (i:Nat) (a:Int):Int:=IntKind.i64.wrap (a+d2r (a1G c k) (mk c k).1 (sg t i).1 (sg t (i+1)).1)
def b6u (c:Den S38) (k:Nat) (t:List (Den S97)) (i:Nat) (a:Int):Int⊕Option Int:=
 bif (b4D c k t i a==1&&!(mk c k).2.1)||(b4D c k t i a == -1&&(mk c k).2.1)then .inr (some (((i+1:Nat):Int)))else .inl (b4D c k t i a)
def e1a (c:Den S38) (k:Nat) (t:List (Den S97)) (b:Nat):Option Int:=a0U (b6u c k t) (fun _=>none) b (t.length-1-b) 0
def a5c (c:Den S38) (k:Int) (t:List (Den S97)) (b:Int):Int:=
 bif a4d c&&(a2y t&&(inB k 0 ((c.2.1.length:Int)-1)&&inB b 0 ((t.length:Int)-1)))then(e1a c k.toNat t b.toNat).getD (-1)else -1
abbrev c8n (c:Den S38):Den (.int .i64)×Den (.int .i64)×Den (.int .i64)×Den (.int .i64)×List (Den a2I)×Den (.int .i64)×Den (.int .i64)×Den (.int .i64)×Den (.int .i64)×Unit:=
 (c.1.1.1,c.1.1.2.1,c.1.2.1.1,c.1.2.1.2.1,c.2.1,c.2.2.1.1.1,c.2.2.1.1.2.1,c.2.2.1.2.1.1,c.2.2.1.2.1.2.1,())
def c1k:Option Int->(Unit×Unit)⊕((Int×Unit)×Unit)
 |some n => .inr ((n,()),())
 |none => .inl ((),())
set_option maxHeartbeats 2000000 in
theorem f7H (c:Den S38) (k:Nat) (t:List (Den S97)) (b:Nat) (p:k<c.2.1.length) (g:b<t.length) (o:c.2.1.length<=9223372036854775807) (v:t.length<=9223372036854775807) :
 b4C (((k:Int),t,(),(bif (mk c k).2.1 then -1 else 1:Int),(0:Int),(b:Int),()),c8n c,())=some (c1k (e1a c k t b)):=by
 unfold e1a;rw[<- a5o c1k];refine(b1i (q:=c8f) (fun i s=>(((k:Int),t,(),(bif (mk c k).2.1 then -1 else 1:Int),s,(i:Int),()),c8n c,())) (t.length-1) (fun i s=>f1D c1k (b6u c k t i s)) (fun _=>c1k none) ?_ ?_ _ (t.length-1-b) b 0 (by omega) ?_:_)
 ·intro i s f u;have a:decide ((i:Int)<(t.length:Int))=true:=by simp;omega
  have d:decide (0<=(i:Int))=true:=by simp
  have h:decide (((i+1:Nat):Int)<(t.length:Int))=true:=by simp;omega
  have j:decide (0<=((i+1:Nat):Int))=true:=by simp;omega
  have l:decide (0<=(k:Int))=true:=by simp
  have m:decide ((k:Int)<(c.2.1.length:Int))=true:=by simpa using p
  have e:e2i ((((c.1.1.1,c.1.1.2.1,()),(c.1.2.1.1,c.1.2.1.2.1,()),()),c.2.1,((c.2.2.1.1.1,c.2.2.1.1.2.1,()),(c.2.2.1.2.1.1,c.2.2.1.2.1.2.1,()),()),()),(k:Int),())=some (a1G c k,()):=c5F c k (by omega) o;have n:∀i,t.getD i (zero S97)=sg t i:=fun _=>rfl
  have g:∀i,c.2.1.getD i (zero a2I)=mk c i:=fun _=>rfl
  have r:IntKind.i64.wrap (s+d2r (a1G c k) (mk c k).1 (sg t i).1 (sg t (i+1)).1)=b4D c k t i s:=rfl;unfold c8f b6u;simp only[c8n,a2H i (by omega),a,d,h,j,l,m,Bool.and_self,cond_true,toNat_natCast,n,g,e5C,e5D,e,e2C,e8j,e0Z,isSome_some,getD_some,r];generalize b4D c k t i s=z;cases (mk c k).2.1
  ·cases h1:(z==1)<;>simp only[cond_false,h1,Bool.not_false,Bool.and_true,Bool.and_false,Bool.or_false,cond_true]<;>rfl
  ·cases h2:(z == -1)<;>simp only[cond_false,h2,Bool.not_true,Bool.and_true,Bool.and_false,Bool.false_or,cond_true]<;>rfl
 ·intro s f;have a:IntKind.i64.wrap (((t.length-1:Nat):Int)+1)=(t.length:Int):=by rw[w64 (by omega) (by omega)];omega
  have d:decide ((t.length:Int)<(t.length:Int))=false:=by simp
  unfold c8f;simp only[a,d,cond_false];rfl
 ·simp only[e0U];omega
theorem e8t (c:Den S38) (k:Int) (t:List (Den S97)) (b:Int) (g:c.2.1.length<=9223372036854775807) (h:t.length<=9223372036854775807):F64 (c,k,t,b,())=some (a5c c k t b,()):=by
 have w1:IntKind.i64.wrap ((c.2.1.length:Int)-1)=(c.2.1.length:Int)-1:=w64 (by omega) (by omega);have w2:IntKind.i64.wrap ((t.length:Int)-1)=(t.length:Int)-1:=w64 (by omega) (by omega);unfold F64 a5c;have e:F93 (c,())=some (a4d c,()):=d5Y c g;have f:F46 (t,())=some (a2y t,()):=d5Z t h;have m:∀i,c.2.1.getD i (zero a2I)=mk c i:=fun _=>rfl
 simp only[K93,G93,e,K46,G46,f,K44,G44,a3H,w1,w2,m,isSome_some,getD_some,cond_true];cases a4d c
 ·rfl
 ·cases a2y t
  ·rfl
  ·cases hi:inB k 0 ((c.2.1.length:Int)-1)
   ·rfl
   ·cases hj:inB b 0 ((t.length:Int)-1)
    ·rfl
    ·simp only[inB,and_eq_true,decide_eq_true_eq]at hi hj;obtain⟨k,rfl⟩:=Int.eq_ofNat_of_zero_le hi.1;obtain⟨b,rfl⟩:=Int.eq_ofNat_of_zero_le hj.1;have d:=f7H c k t b (by omega) (by omega) g h;have j:decide (0<=(k:Int))=true:=by simp
     have l:decide ((k:Int)<(c.2.1.length:Int))=true:=by simp;omega
     simp only[Bool.not_true,cond_false,Bool.and_self,cond_true,toNat_natCast,c8g,c8h,c8i,j,l];cases hm:(mk c k).2.1
     ·rw[hm]at d;have a:b4C (((k:Int),t,(),1,0,(b:Int),()),(c.1.1.1,c.1.1.2.1,c.1.2.1.1,c.1.2.1.2.1,c.2.1,c.2.2.1.1.1,c.2.2.1.1.2.1,c.2.2.1.2.1),())=some (c1k (e1a c k t b)):=d;simp only[cond_false,a,isSome_some,cond_true];cases e1a c k t b<;>rfl
     ·rw[hm]at d;have a:b4C (((k:Int),t,(),-1,0,(b:Int),()),(c.1.1.1,c.1.1.2.1,c.1.2.1.1,c.1.2.1.2.1,c.2.1,c.2.2.1.1.1,c.2.2.1.1.2.1,c.2.2.1.2.1),())=some (c1k (e1a c k t b)):=d;simp only[a,isSome_some,cond_true];cases e1a c k t b<;>rfl
def a4g (c:Den S38) (t:List (Den S97)) (k:Nat) (a:Int×List Int):(Int×List Int)⊕(Bool×List Int):=
 bif decide (a5c c k t a.1<0)then .inr (true,a.2)else .inl (a5c c k t a.1,a.2++[a5c c k t a.1])
def d2s (c:Den S38) (t:List (Den S97)) (b:Int):Bool×List Int:=a0U (a4g c t) (fun a=>(false,a.2)) 0 c.2.1.length (b,[])
def e1b (c:Den S38) (t:List (Den S97)) (b:Int):List Int:=(d2s c t b).2
def g31 (p:Bool×List Int):e0W:=(((),()),(p.2,()))
theorem c8o {c:Den S38} {t:List (Den S97)} {k:Nat} {a d:Int×List Int} (h:a.2.length=k) (b:a4g c t k a = .inl d):d.2.length=k+1:=by
 unfold a4g at b;cases hd:decide (a5c c k t a.1<0)with
 |true=>rw[hd]at b;cases b
 |false=>rw[hd]at b;cases b;simp[h]
theorem f7I (c:Den S38) (t:List (Den S97)) (b:Int) (r:c.2.1.length<=1099511627776) (o:t.length<=9223372036854775807) :
 c8k ((t,b,(),(),(c.2.1.length:Int),(0:Int),()),c8n c,(([]:List Int),()))=some (g31 (d2s c t b)):=by
 unfold d2s;rw[<- a5o g31];refine(a8u (q:=c8j) (fun k a=>((t,a.1,(),(),(c.2.1.length:Int),(k:Int),()),c8n c,(a.2,()))) c.2.1.length (fun k a=>f1D g31 (a4g c t k a)) (fun a=>g31 (false,a.2)) (fun k a=>a.2.length=k) ?_ ?_ ?_ _ c.2.1.length 0 (b,[]) (by omega) ?_ rfl:_)
 ·rintro k ⟨d,out⟩ f j m;have h:decide ((k:Int)<(c.2.1.length:Int))=true:=by simpa using j
  have i:F64 ((((c.1.1.1,c.1.1.2.1,()),(c.1.2.1.1,c.1.2.1.2.1,()),()),c.2.1,((c.2.2.1.1.1,c.2.2.1.1.2.1,()),(c.2.2.1.2.1.1,c.2.2.1.2.1.2.1,()),()),()),(k:Int),t,d,())=some (a5c c k t d,()):=e8t c k t d (by omega) o;have n:out.length=k:=m;have e:a0n (out.length+((replicate 1 (zero (Ty.int IntKind.i64))).set 0 (a5c c k t d)).length)=true:=a0v (by simp;omega);unfold c8j a4g;simp only[h,K64,G64,i,isSome_some,getD_some,cond_true,a2H k (by omega),e];cases decide (a5c c k t d<0)<;>rfl
 ·intro k a p s l g;refine c8o (c:=c) (t:=t) l ?_;cases hp:a4g c t k a with
  |inl a2=>rw[hp]at g;cases g;rfl
  |inr x=>rw[hp]at g;cases g
 ·rintro⟨d,out⟩ f _;have h:decide ((c.2.1.length:Int)<(c.2.1.length:Int))=false:=by simp
  unfold c8j;simp only[h,cond_false];rfl
 ·simp only[e0X];omega
theorem e8u (c:Den S38) (t:List (Den S97)) (b:Int) (a:c.2.1.length<=1099511627776) (d:t.length<=9223372036854775807):F24 ((c,t,b,()),())=some (((),()),(e1b c t b,())):=by
 unfold F24;have h:c8k ((t,b,(),(),(c.2.1.length:Int),0,()),(c.1.1.1,c.1.1.2.1,c.1.2.1.1,c.1.2.1.2.1,c.2.1,c.2.2.1.1.1,c.2.2.1.1.2.1,c.2.2.1.2.1),[],())=some (g31 (d2s c t b)):=f7I c t b a d;simp only[d7q,d7r,h,isSome_some,getD_some,cond_true];rfl
theorem b9N (c:Den S38) (t:List (Den S97)):∀(n k:Nat) (a:Int×List Int),a.2.length=k->(a0U (a4g c t) (fun a=>(false,a.2)) k n a).2.length<=k+n
 |0,k,a,h=>by simp[a0U,h]
 | n + 1,k,a,h=>by
   simp only[a0U];cases hn:a4g c t k a with
   | inl b =>
     have:=b9N c t n (k+1) b (c8o h hn);simp only;omega
   | inr x =>
     simp only;unfold a4g at hn;cases hd:decide (a5c c k t a.1<0)with
     |true=>rw[hd]at hn;cases hn;simp only;omega
     |false=>rw[hd]at hn;cases hn
theorem c8p (c:Den S38) (t:List (Den S97)) (b:Int):(e1b c t b).length<=c.2.1.length:=by
 have:=b9N c t c.2.1.length 0 (b,[]) rfl;rw[Nat.zero_add]at this;exact this
def c1l (Y:Yv):ByteArray:=bif decide (Y.sl ≥ 0)then(at' Y.sails Y.sl.toNat).1 else c5D
def e2D (Y:Yv):List Int:=e1b Y.1.2.2.2.1 Y.tk 0
def b6v (Y:Yv):List ByteArray:=[bOf (Lib.itoa Y.tm),bOf (Lib.itoa (a0Z Y.ps).1.1),bOf (Lib.itoa (a0Z Y.ps).1.2.1),bOf (Lib.itoa Y.hd),c1l Y,bOf (Lib.itoa Y.tk.length),bOf (Lib.itoa (e2D Y).length)]
structure g0Z (Y:Yv):Prop where
 tm:I64 Y.tm
 x:I64 (a0Z Y.ps).1.1
 y:I64 (a0Z Y.ps).1.2.1
 hd:I64 Y.hd
 tk:I64 (Y.tk.length:Int)
 pr:I64 ((e2D Y).length:Int)
 nm:a6T (c1l Y).data.toList
 sl:Y.sl ≥ 0->Y.sl<(Y.sails.length:Int)
theorem d7u {m:Den R19} {Y:Yv} (f:YM Y) (h:okV m Y=true):g0Z Y:=by
 obtain⟨a,g,e,i,k,l,n,o,p,d⟩:=a6s h;have c:=c8b e;unfold a1v inB at c;simp only[and_eq_true,decide_eq_true_eq]at c;have r:=c8p Y.1.2.2.2.1 Y.tk 0;have q:Y.1.2.2.2.1.2.1.length<=1000:=by
  unfold a5v a4d inB at a;simp only[and_eq_true,decide_eq_true_eq]at a;omega
 have s:=f.tk;refine⟨?_,?_,?_,?_,?_,?_,?_,fun _=>by omega⟩
 any_goals (unfold I64;omega)
 ·unfold I64 e2D;omega
 ·unfold c1l;by_cases b:Y.sl ≥ 0
  ·rw[decide_eq_true b];have:=d2k (c1j a) (j:=Y.sl.toNat) (by show _<Y.sails.length;omega);unfold a1Y at this;rw[and_eq_true]at this;exact c6D _ this.1
  ·rw[decide_eq_false b];exact c6E
theorem b4E {Y:Yv} (h:g0Z Y):∀x∈b6v Y,a6T x.data.toList:=by
 have w:∀n:Int,I64 n->a6T (bOf (Lib.itoa n)).data.toList:=fun n b=>c6C n (by unfold I64 at b;omega)
 intro x a;simp only[b6v,List.mem_cons,List.not_mem_nil,or_false]at a;rcases a with rfl|rfl|rfl|rfl|rfl|rfl|rfl
 ·exact w _ h.tm
 ·exact w _ h.x
 ·exact w _ h.y
 ·exact w _ h.hd
 ·exact h.nm
 ·exact w _ h.tk
 ·exact w _ h.pr
theorem c8q {n:Int} (h:I64 n):K25 (n,())=true /\ G25 (n,())=(bOf (Lib.itoa n),()):=kg (F:=F25) (d:=zero R25) (b4y n h)
theorem g1a (Y:Yv) (h:YM Y):K24 ((Y.1.2.2.2.1,Y.tk,0,()),())=true /\ G24 ((Y.1.2.2.2.1,Y.tk,0,()),())=(((),()),(e2D Y,())):=
 have e:=e8u Y.1.2.2.2.1 Y.tk 0 (Nat.le_trans h.boat.2.2.2 (by decide)) (Nat.le_trans h.tk (by decide))
 ⟨by unfold K24;rw[e];rfl,by unfold G24;rw[e];rfl⟩
theorem g3c {f:List ByteArray} (h:(a1t f).size<=600) (a:f.length<=24):K60 (f,spB,())=true /\ G60 (f,spB,())=(a1t f,()):=by
 have e:(b5p f spB).length=(a1t f).size:=rfl;refine⟨?_,rfl⟩;unfold K60;rw[decide_eq_true (show(f:List ByteArray).length<=140737488355328 by omega),decide_eq_true (show(b5p f spB).length<=140737488355328 by omega)];rfl
theorem bt {α:Type} {c:Bool} {a b r:α} (h:c=true) (k:a=r):(bif c then a else b)=r:=by rw[h];exact k
theorem bf {α:Type} {c:Bool} {a b r:α} (h:c=false) (k:b=r):(bif c then a else b)=r:=by rw[h];exact k
theorem e8v (Y:Yv) (h:YM Y):F22 (Y,())=some (bif okV (a7y Y) Y then a1t (b6v Y)else{ data:=#[] },()):=by
 have b:=kg (F:=F14) (d:=zero R14) (e7V Y h);unfold F22;rw[show K14 (Y,())=true from b.1,show G14 (Y,())=_ from b.2];cases ho:okV (a7y Y) Y with
 |false=>rfl
 | true =>
   have R:=d7u h ho;have W:=b4g (b6v Y) (b4E R) (by simp[b6v]) (show 7<=24 by decide);have c:=kg (F:=F23) (d:=zero R23) (c7L Y.ps);have l:=g1a Y h;have k:=g3c W.2 (show 7<=24 by decide);have e:G23 (Y.ps,())=a0Z Y.ps:=c.2;have a1:=c8q R.tm;have a2:=c8q R.x;have f:=c8q R.y;have g:=c8q R.hd;have i:=c8q R.tk;have j:=c8q R.pr;refine bt rfl (bf rfl (bt (show K23 (Y.ps,())=true from c.1) ?_));have fin:∀nm:ByteArray,nm=c1l Y->(bif K25 (Y.tm,())then bif K25 ((G23 (Y.ps,())).1.1,())then bif K25 (G23 (Y.ps,())).1.2 then bif K25 (Y.hd,())then bif K25 ((Y.tk.length:Int),())then
    bif K24 ((Y.1.2.2.2.1,Y.tk,0,()),())then bif K25 (((G24 ((Y.1.2.2.2.1,Y.tk,0,()),())).2.1.length:Int),())then
    bif K60 ([(G25 (Y.tm,())).1,(G25 ((G23 (Y.ps,())).1.1,())).1,(G25 (G23 (Y.ps,())).1.2).1,(G25 (Y.hd,())).1,nm,(G25 ((Y.tk.length:Int),())).1,(G25 (((G24 ((Y.1.2.2.2.1,Y.tk,0,()),())).2.1.length:Int),())).1],spB,())then
    some (G60 ([(G25 (Y.tm,())).1,(G25 ((G23 (Y.ps,())).1.1,())).1,(G25 (G23 (Y.ps,())).1.2).1,(G25 (Y.hd,())).1,nm,(G25 ((Y.tk.length:Int),())).1,(G25 (((G24 ((Y.1.2.2.2.1,Y.tk,0,()),())).2.1.length:Int),())).1],spB,()))
    else none else none else none else none else none else none else none else none)=some (a1t (b6v Y),()):=by
    rintro _ rfl;rw[e,a1.1,a1.2,a2.1,a2.2,show K25 (a0Z Y.ps).1.2=true from f.1,show G25 (a0Z Y.ps).1.2=_ from f.2,g.1,g.2,i.1,i.2,l.1,l.2,j.1,j.2];show(bif K60 (b6v Y,spB,())then some (G60 (b6v Y,spB,()))else none)=_;rw[k.1,k.2];rfl
   by_cases a:Y.sl ≥ 0
   ·refine bt (decide_eq_true a) (bt (by rw[and_eq_true];exact⟨decide_eq_true a,decide_eq_true (R.sl a)⟩) ?_);exact fin (at' Y.sails Y.sl.toNat).1 (by unfold c1l;rw[decide_eq_true a];rfl)
   ·refine bf (decide_eq_false a) ?_;exact fin c5D (by unfold c1l;rw[decide_eq_false a];rfl)
theorem d7v (x:f6P.den) (h:a0a x.2.1):f6R x=true /\ a0a (f6S x).2.1:=by
 have p:Pst (f0W x) fun y=>a0a y.2.1:=by
  unfold f0W;dsimp only;refine a0d (a1j _ h) (a0V (fun _=>?_) (fun _=>?_))
  ·refine a0d (a6P _ (a1g _ h)) (a0h (G142_cur _ (a1g _ h)))
  ·refine a0d (a0k _ (a1g _ h)) (a0h (a0D _ (a1g _ h)))
 exact⟨a1H p,a1I _ p⟩
theorem c8r (x:e7z.den) (h:a0a x.2.1):f6U x=true /\ a0a (f0X x).2.1:=by
 have p:Pst (e2y x) fun y=>a0a y.2.1:=by
  unfold e2y;dsimp only;refine a0d (a1j _ h) (a0V (fun _=>?_) (fun _=>?_))
  ·refine a0d (a4z _ (a1g _ h) (by simp)) (a0h (a3m _ (a1g _ h) (by simp)))
  ·refine a0d (a0k _ (a1g _ h)) (a0h (a0D _ (a1g _ h)))
 exact⟨a1H p,a1I _ p⟩
theorem d2t (v:b4n) (h:a0a v.2.1) (d:0<=v.1.2.2.1) (i:(v.2.2.1.length:Int)+v.1.2.2.1<=300):Pst (b9x v) fun y=>a0a y.2.1 /\ y.2.2.1.length<=300:=by
 refine a0C (q:=b9w) (fun u=>a0a u.2.1 /\ 0<=u.1.2.2.1 /\ (u.2.2.1.length:Int)+u.1.2.2.1<=300)
  (fun _ r=>Pst r fun y=>a0a y.2.1 /\ y.2.2.1.length<=300) (fun u=>u.1.2.2.1.toNat) ?_ _ _ ⟨h,d,i⟩ ?_
 ·rintro⟨⟨_,_,n,t,_⟩,c,l,_⟩ f ⟨g0,g1,g2⟩ ih;dsimp only at g0 g1 g2 ih;unfold b9w;dsimp only;by_cases g:n>0
  ·refine a0d (by simpa using g) ?_;obtain⟨j,a⟩:=b1x (((),()),c,()) g0;refine a0d j (a0d (a0v (by simp only[length_set,length_replicate];omega)) (a0d (a0k _ a) (a0d (a1j _ (a0D _ a)) ?_)));have e:IntKind.i64.wrap (n-1)=n-1:=w64 (by omega) (by omega);have b:=a1g (((),60,()),(G34 (((),40,()),(d4u (((),()),c,())).snd)).snd) (a0D _ a);refine a0V (fun _=>a0d (a6P _ b) ?_) (fun _=>?_)
   ·refine ih _ ⟨G142_cur _ b,?_,?_⟩ ?_
    ·show 0<=IntKind.i64.wrap (n-1);omega
    ·simp only[e,length_append,length_set,length_replicate];omega
    ·show(IntKind.i64.wrap (n-1)).toNat<n.toNat;omega
   ·refine ih _ ⟨b,?_,?_⟩ ?_
    ·show 0<=IntKind.i64.wrap (n-1);omega
    ·simp only[e,length_append,length_set,length_replicate];omega
    ·show(IntKind.i64.wrap (n-1)).toNat<n.toNat;omega
  ·have hd:decide (n>0)=false:=by simpa using g
   rw[hd];exact a0h ⟨g0,by show l.length<=300;omega⟩
 ·unfold c7d;have:=d;omega
theorem b9O (x:e7B.den) (h:a0a x.2.1):Pst (f0Z x) fun y=>a0a y.2.1 /\ y.2.2.1.length<=300:=by
 have run:∀(n t:Int) (c:List Int×Int×Int×Unit),a0a c->0<=n->n<=300->Pst (bif a8V (((),(),n,t,()),c,[],())then some ((((),()),(a8W (((),(),n,t,()),c,[],())).snd):f0Y.den)else none) fun y=>a0a y.2.1 /\ y.2.2.1.length<=300:=by
  intro n t c m l r;obtain⟨y,i,q1,q⟩:=d2t (((),(),n,t,()),c,[],()) m l (by show(0:Int)+n<=300;omega);have j:a8V (((),(),n,t,()),c,[],())=true:=by unfold a8V;rw[i];rfl
  have k:a8W (((),(),n,t,()),c,[],())=y:=by unfold a8W;rw[i];rfl
  refine a0d j ?_;rw[k];exact a0h ⟨q1,q⟩
 have o:∀c:Int,0<=c /\ c<2->0<=IntKind.i64.wrap (200+c) /\ IntKind.i64.wrap (200+c)<=300:=fun c h=>by rw[w64 (by omega) (by omega)];omega
 have p:∀c:Int,0<=c /\ c<9->0<=c /\ c<=300:=fun c h=>by omega
 unfold f0Z;dsimp only;have a:=a0O 9 x.2.1 h (by decide);have f:a0a (G34 (((),9,()),x.snd)).2.1:=a0D _ h;have a:(0:Int)<=((G34 (((),9,()),x.snd)).1.1:Int) /\ ((G34 (((),9,()),x.snd)).1.1:Int)<(9:Int):=a;refine a0d (a0k _ h) (a0d (a1j _ f) ?_);generalize G34 (((),9,()),x.snd)=A at *;have a:=p A.1.1 a;have d:=a1g (((),40,()),A.snd) f;generalize G77 (((),40,()),A.snd)=B at *;refine a0V (fun _=>?_) (fun _=>?_)
 ·have b:=a0O 2 B.2.1 d (by decide);have g:a0a (G34 (((),2,()),B.snd)).2.1:=a0D _ d;have b:(0:Int)<=((G34 (((),2,()),B.snd)).1.1:Int) /\ ((G34 (((),2,()),B.snd)).1.1:Int)<(2:Int):=b;refine a0d (a0k _ d) (a0d (a0k _ g) ?_);generalize G34 (((),2,()),B.snd)=C at *;have e:=a0D (((),300,()),C.snd) g;generalize G34 (((),300,()),C.snd)=E at *;have b:=o C.1.1 b;exact run _ _ _ e b.1 b.2
 ·have e:=a0D (((),300,()),B.snd) d;refine a0d (a0k _ d) ?_;generalize G34 (((),300,()),B.snd)=E at *;exact run _ _ _ e a.1 a.2
theorem e1c (x:e7B.den) (h:a0a x.2.1):f6V x=true:=a1H (b9O x h)
theorem e1d (x:e7B.den) (h:a0a x.2.1):a0a (f1a x).2.1 /\ (f1a x).2.2.1.length<=300:=a1I _ (b9O x h)
theorem e1e (t:Den S30) (p:Nat×Nat) (h:a6R t):e6Z (t,p,())=some (a6V t p,()):=by
 have i:e1V (t,())=some (a4f t,()):=b5O t h;have j:F96 (p,())=some (a3K p,()):=a7e p;obtain⟨b,c,_⟩:=t;obtain⟨d,r⟩:=h;have d:b.length<=21:=d;have o:b9j ((p,(),-1,0,0,()),(b,c,()),())=some (e0F b p):=by
  refine(b1i (q:=b4h) (fun k (a:Int×Nat)=>((p,(),a.1,a.2,(k:Int),()),(b,c,()),())) b.length (a3r b p) (fun a=>((a.1,()),())) ?_ ?_ _ b.length 0 (-1,0) (by omega) ?_:_)
  ·intro k a f n;unfold b4h;have e:decide ((k:Int)<(b.length:Int))=true:=by simpa using n
   have g:decide (0<=(k:Int))=true:=by simp
   have m:getD b k (zero a1B)=a4W b k:=rfl;have l:e1Y ((a0b .sub .f64 (a4W b k).fst.1 p.1,a0b .sub .f64 (a4W b k).fst.2 p.2),(a0b .sub .f64 (a4W b k).fst.1 p.1,a0b .sub .f64 (a4W b k).fst.2 p.2),())=some (c1d (a4W b k).fst p,()):=rfl;unfold a3r;simp only[a2H k (by omega),e,g,Bool.and_self,cond_true,toNat_natCast,m,d0c,c8G,l,isSome_some,getD_some];cases decide (a.1<0)
   ·cases flt .f64 (c1d (a4W b k).fst p) a.2<;>rfl
   ·rfl
  ·intro a f;simp[b4h]
  ·simp only[c6P];omega
 unfold e6Z a6V;simp only[d8z,d8A,i,K96,G96,j,isSome_some,getD_some,cond_true,c6Q,c6R,o];cases a4f (b,c,())
 ·rfl
 ·cases a3K p<;>rfl
theorem e1f (g:Den S30) (t:Int) (h:a6R g):e7c (g,t,())=some (hiV g t,()):=by
 have y:e1V (g,())=some (a4f g,()):=b5O g h;have z:F51 (t,0,10000000,())=some (a0m t 0 10000000,()):=a1x _ _ _;obtain⟨n,c,_⟩:=g;obtain⟨_,o⟩:=h;have o:c.length<=6:=o;unfold e7c hiV;simp only[d8z,d8A,y,K51,G51,z,isSome_some,getD_some,cond_true];cases hb:a4f (n,c,())
 ·rfl
 cases ht:a0m t 0 10000000
 ·rfl
 obtain⟨_,E,s⟩:=b1Q hb;simp only[a0m,and_eq_true,decide_eq_true_eq]at ht;have p:∀a:Int,0<=a /\ a<=10000000->f0t (a,t,())=some (a7z a t,()):=by
  intro a r;unfold f0t a7z;simp only[];rw[w64 (x:=a-t) (by omega) (by omega),w64 (x:=t-a) (by omega) (by omega)];cases decide (a>t)<;>rfl
 have d:hiR c t=a0U (a4C c t) (fun b=>((b,()),())) 1 (c.length-1) 0:=by
  unfold hiR;obtain⟨m,D⟩:∃m,c.length=m+1:=⟨c.length-1,by omega⟩;rw[D];simp only[a0U];unfold a4C;have:decide (a7z (a4X c 0) t<a7z (a4X c (0:Int).toNat) t)=false:=by simp
  rw[this];rfl
 have C:b9l ((t,(),0,1,()),(n,c,()),())=some (hiR c t):=by
  rw[d];refine(a8u (q:=b4i) (fun k (b:Int)=>((t,(),b,(k:Int),()),(n,c,()),())) c.length (a4C c t) (fun b=>((b,()),())) (fun k b=>0<=b /\ b<(c.length:Int)) ?_ ?_ ?_ _ (c.length-1) 1 0 (by omega) ?_ ⟨Int.le_refl 0,by omega⟩:_)
  ·intro k b f l e;unfold b4i;have u:decide ((k:Int)<(c.length:Int))=true:=by simpa using l
   have v:decide (0<=(k:Int))=true:=by simp
   have w:(decide (0<=b)&&decide (b<(c.length:Int)))=true:=by simp only[and_eq_true,decide_eq_true_eq];exact e
   have r:∀i,getD c i (zero (Ty.int IntKind.i64))=a4X c i:=fun _=>rfl
   have A:=p _ (s k l);have B:=p _ (s b.toNat (by omega));unfold a4C;simp only[a2H k (by omega),u,v,w,Bool.and_self,cond_true,toNat_natCast,r,f0u,f0v,A,B,isSome_some,getD_some];cases decide (a7z (a4X c k) t<a7z (a4X c b.toNat) t)<;>rfl
  ·intro k b b' l e j;unfold a4C at j;have j:=Sum.inl.inj j;subst j;cases decide (a7z (a4X c k) t<a7z (a4X c b.toNat) t)with
   |true=>exact⟨by show(0:Int)<=(k:Int);omega,by show(k:Int)<_;omega⟩
   |false=>exact e
  ·intro b f _;simp[b4i]
  ·simp only[c6S];omega
 simp only[c6T,c6U,C,isSome_some,getD_some,cond_true,Bool.not_true,cond_false,Bool.and_self]
theorem e1g (x:Int):d6F (x,-21600,21600,())=some (a4k x,()):=by
 unfold d6F a4k a5e;have h:decide ((21600:Int) < -21600)=false:=by decide
 simp only[h,cond_false];cases decide (x < -21600)
 ·simp only[cond_false];by_cases a:x>21600
  ·rw[show decide (x>21600)=true by simpa using a,cond_true,if_pos (by omega)]
  ·rw[show decide (x>21600)=false by simpa using a,cond_false,if_neg (by omega)]
 ·rfl
theorem e1h (s:Den a1B) (off:Int):f0w (s,off,())=some (e0H s off):=by
 have h:e1U (s,())=some (a6k (a3d s),()):=c6u s;have j:d6F (off,-21600,21600,())=some (a4k off,()):=e1g off;have k:∀a b q:Nat,f2X (a,b,q,())=some (e7H a b q,()):=fun _ _ _=>rfl
 obtain⟨p,r⟩:=d2a off;have d:[s.snd.fst.fst,s.snd.fst.snd.fst,s.snd.fst.snd.snd.fst,s.snd.fst.snd.snd.snd.fst,s.snd.fst.snd.snd.snd.snd.fst,s.snd.fst.snd.snd.snd.snd.snd.fst,s.snd.fst.snd.snd.snd.snd.snd.snd.fst,s.snd.fst.snd.snd.snd.snd.snd.snd.snd.fst,s.snd.fst.snd.snd.snd.snd.snd.snd.snd.snd.fst,s.snd.fst.snd.snd.snd.snd.snd.snd.snd.snd.snd.fst,s.snd.fst.snd.snd.snd.snd.snd.snd.snd.snd.snd.snd.fst,s.snd.fst.snd.snd.snd.snd.snd.snd.snd.snd.snd.snd.snd.fst,s.snd.fst.snd.snd.snd.snd.snd.snd.snd.snd.snd.snd.snd.snd.fst]=a3d s:=rfl;have l:∀i,getD (a3d s) i (0,0)=atV (a3d s) i:=fun _=>rfl
 unfold f0w e0H;simp only[d,e3A,e3B,h,c1y,b1W,j,isSome_some,getD_some,cond_true];generalize a4k off=c at *;have w1:IntKind.i64.wrap (c+21600)=c+21600:=w64 (by omega) (by omega);have m:Int.tmod (c+21600) 3600=(c+21600)%3600:=Int.tmod_eq_emod_of_nonneg (by omega);have n:Int.tdiv (c+21600) 3600=(c+21600)/3600:=Int.tdiv_eq_ediv_of_nonneg (by omega);have w2:IntKind.i64.wrap ((c+21600)/3600)=(c+21600)/3600:=w64 (by omega) (by omega);have o:IntKind.i64.wrap ((c+21600)/3600+1)=(c+21600)/3600+1:=w64 (by omega) (by omega);have f:(decide (0<=(c+21600)/3600)&&decide ((c+21600)/3600<13))=true:=by simp only[and_eq_true,decide_eq_true_eq];omega
 simp only[w1,m,n,w2,o,f,cond_true,l];cases a6k (a3d s)
 ·rfl
 simp only[Bool.not_true,cond_false];by_cases e:(c+21600)%3600=0
 ·rw[show((c+21600)%3600==0)=true by simpa using e];rfl
 ·have g:(decide (0<=(c+21600)/3600+1)&&decide ((c+21600)/3600+1<13))=true:=by simp only[and_eq_true,decide_eq_true_eq];omega
  rw[show((c+21600)%3600==0)=false by simpa using e];simp only[cond_false,g,cond_true,e2c,e2d,k,isSome_some,getD_some];rfl
theorem e1i (a:Den S30) (p:Nat×Nat) (t:Int) (h:a6R a):f0x (a,p,t,())=some (a3f a p t):=by
 have m:e6Z (a,p,())=some (a6V a p,()):=e1e a p h;have n:e7c (a,t,())=some (hiV a t,()):=e1f a t h;unfold f0x a3f;simp only[f6s,f6t,m,f6x,f6y,n,isSome_some,getD_some,cond_true];by_cases d:a6V a p<0
 ·simp only[d,decide_true,cond_true,Bool.true_or]
 by_cases e:hiV a t<0
 ·simp only[d,e,decide_true,decide_false,cond_true,cond_false,Bool.or_true]
 obtain⟨_,_,s,u⟩:=e0I d;obtain⟨r,v,g,j⟩:=f7e e;have k:(decide (0<=a6V a p)&&decide (a6V a p<(a.1.length:Int)))=true:=by simp only[and_eq_true,decide_eq_true_eq];exact⟨s,u⟩
 have l:(decide (0<=hiV a t)&&decide (hiV a t<(a.2.1.length:Int)))=true:=by simp only[and_eq_true,decide_eq_true_eq];exact⟨g,j⟩
 obtain⟨c,b,_⟩:=a;have w:=(b1Q r).2.2 (hiV (c,b,()) t).toNat (by have j:hiV (c,b,()) t<(b.length:Int):=j;have g:0<=hiV (c,b,()) t:=g;omega);have q:∀i,getD b i (zero (Ty.int IntKind.i64))=a4X b i:=fun _=>rfl
 have f:∀i,getD c i (zero a1B)=a4W c i:=fun _=>rfl
 have w1:IntKind.i64.wrap (t-a4X b (hiV (c,b,()) t).toNat)=t-a4X b (hiV (c,b,()) t).toNat:=w64 (by omega) (by omega);have o:=e1h (a4W c (a6V (c,b,()) p).toNat) (t-a4X b (hiV (c,b,()) t).toNat);simp only[d,e,k,l,decide_false,cond_false,cond_true,Bool.or_self,q,f,w1,f6B,f6C,o,isSome_some,getD_some]
theorem c8s (x:Den f5W):f0d x=some (b1t x.1 x.2.1,()):=by
 unfold f0d b1t;cases (fgt .f32 x.2.1.1 x.1.2.1||feq .f32 x.2.1.1 x.1.2.1)<;>cases (flt .f32 x.2.1.1 x.1.2.2.1||feq .f32 x.2.1.1 x.1.2.2.1)<;>by_cases h:x.1.2.2.2.1<=x.2.1.2.1<;>simp[h]
theorem e1j (l:List (Den S68)) (m:Den S63) (h:c5E l):e6M (l,m,())=some (d2h l m,()):=by
 have a:=h.len;have g:b0m ((l,(),(0:Int),()),(m.1,m.2.1,()),())=some (bif a2J l then(match a0x (fun i=>b1t (at' l i) m) 0 l.length with|some j => .inr (((j:Int),()),())|none => .inl ((),()))else .inl ((),())):=by
  cases hs:a2J l with
  | true =>
    refine(a4v (q:=a7h) (fun k=>((l,(),(k:Int),()),(m.1,m.2.1,()),())) l.length (fun i=>b1t (at' l i) m) _ (fun j => .inr (((j:Int),()),())) ?_ ?_ _ ?_:_)
    ·intro k f e;unfold a7h;have b:decide ((k:Int)<(l.length:Int))=true:=by simpa using e
     have c:decide (0<=(k:Int))=true:=by simp
     have d:getD l k (zero S68)=at' l k:=rfl;simp only[a2H k (by omega),b,c,Bool.and_self,cond_true,toNat_natCast,d,d3x,d3y,b1v l h,hs,e2t,e2u,c8s,isSome_some,getD_some]
    ·intro f;simp[a7h]
    ·simp only[c6F];omega
  | false =>
    show a7h (a0K (a7h) (l.length+(0:Int).natAbs+(m.2.1:Int).natAbs+999)) ((l,(),(0:Int),()),(m.1,m.2.1,()),())=_;unfold a7h;simp only[d3x,d3y,b1v l h,hs,isSome_some,getD_some,cond_true,cond_false];cases decide ((0:Int)<(l.length:Int))<;>rfl
 unfold e6M d2h;simp only[c6G,c6H,c6I,g];cases a2J l
 ·rfl
 ·cases a0x (fun i=>b1t (at' l i) m) 0 l.length<;>rfl
theorem e1k (l:List (Den S68)) (a:Int) (m:Den S63) (h:c5E l) (n:I64 m.2.1):f0g (l,a,m,())=some (e0N l a m,()):=by
 have f:=h.len;have o:IntKind.i64.wrap ((l.length:Int)-1)=(l.length:Int)-1:=w64 (by omega) (by omega);unfold f0g e0N inB;have d:∀i,F55 (((at' l i).1,(at' l i).2.1,(at' l i).2.2.1,(at' l i).2.2.2.1,(at' l i).2.2.2.2.1,()),(m.1,m.2.1,()),())=some (a2x (at' l i) m,()):=fun i=>d5X ((at' l i),m,()) (h.rng i).1 (h.rng i).2 n
 have e:e6M (l,(m.1,m.2.1,()),())=some (d2h l m,()):=e1j l m h;have j:∀k,getD l k (zero S68)=at' l k:=fun _=>rfl
 simp only[d3x,d3y,b1v l h,K51,G51,b0h,K55,G55,f0e,f0f,o,j,d,e,isSome_some,getD_some,cond_true];cases a2J l
 ·rfl
 ·by_cases b:0<=a<;>by_cases c:a<=(l.length:Int)-1
  ·have g:a<(l.length:Int):=by omega
   cases a2x (at' l a.toNat) m<;>simp[b,c,g]
  ·simp[b,c]
  ·simp[b,c]
  ·simp[b,c]
theorem e1l (w x:Nat×Nat):f0l (w,x,1056964608,())=some (a7A w x):=by
 have c:=a4j w;have d:=a4j x;have e:f6e (1056964608,())=some (true,()):=by decide +kernel
 have f:∀a b:Nat,f6i (a,b,1056964608,())=some (daV a b,()):=fun _ _=>rfl
 unfold f0l a7A;dsimp only;simp only[K52,G52,c,d,f6f,f6g,e,f0j,f0k,f,isSome_some,getD_some,cond_true];cases a2E w
 ·rfl
 ·cases a2E x<;>rfl
theorem c8t (n:Int):f0p (n,())=some (b6p n,()):=by
 have e:F51 (n,-1000000000,1000000000,())=some (a0m n (-1000000000) 1000000000,()):=a1x _ _ _;unfold f0p b6p;dsimp only;simp only[K51,G51,e,isSome_some,getD_some,cond_true];show(bif !a0m n (-1000000000) 1000000000 then _ else _)=some (bif a0m n (-1000000000) 1000000000 then _ else _,());cases a0m n (-1000000000) 1000000000<;>rfl
theorem e1m (g:Den a6c):f0D (g,())=some (d2d g,()):=by
 have a:F51 (g.2.2.1,0,100000,())=some (a0m g.2.2.1 0 100000,()):=a1x _ _ _;unfold f0D d2d a2e;dsimp only;simp only[K51,G51,a,isSome_some,getD_some,cond_true];show(bif fge g.2.1 0 then bif fle g.2.1 1112014848 then _ else _ else _)=_;cases fge g.2.1 0
 ·rfl
 ·cases fle g.2.1 1112014848<;>rfl
theorem d2u (g:Den a6c):f0G ([g],())=some (d2d g,()):=by
 have a:=e1m g;have⟨k1,g1⟩:=kgP f0E f0F a;have c:a8T (([g],(0:Int),()),())=some (bif d2d g then .inl (([g],()),())else .inr ((false,()),())):=by
  have b:c6V (([g],(0:Int),()),())=1001:=rfl;unfold a8T;rw[b];show b4j _ _=_;unfold b4j;show(bif f0E (g,())then bif !(f0F (g,())).1 then _ else a0K (b4j) 1000 (([g],(1:Int),()),())else none)=_;rw[k1,g1];cases d2d g
  ·rfl
  ·rfl
 unfold f0G;show(bif b5V (([g],(0:Int),()),())then bif b5W (([g],(0:Int),()),())then some (b5Y (([g],(0:Int),()),())).1 else some (decide (((b5X (([g],(0:Int),()),())).1.1.length:Int)<=50),())else none)=_;unfold b5V b5W b5Y b5X;rw[c];cases d2d g<;>rfl
theorem e1n (k:Int) (a:Nat) (s:Nat×Nat):f0z (k,a,s,())=some (a5y k a s):=by
 have b:e4k (k,a,())=some (b4u k a):=c7B k a;have c:F52 (s,())=some (a2E s,()):=a4j s;unfold f0z a5y d7i;dsimp only;simp only[e2h,d8L,b,K52,G52,c,isSome_some,getD_some,cond_true];cases (b4u k a).2.1
 ·rfl
 ·cases a2E s<;>rfl
theorem e1o (p v:Nat×Nat) (n:Int):f0B (p,v,n,())=some (d2e p v n):=by
 have b:F96 (p,())=some (a3K p,()):=a7e p;have c:F52 (v,())=some (a2E v,()):=a4j v;have d:F51 (n,0,100000,())=some (a0m n 0 100000,()):=a1x n 0 100000;have a:F96 (onV p v n,())=some (a3K (onV p v n),()):=a7e (onV p v n);unfold onV at a;unfold f0B d2e onV;dsimp only;simp only[K96,G96,b,K52,G52,c,K51,G51,d,a,isSome_some,getD_some,cond_true];cases a3K p
 ·rfl
 cases a2E v
 ·rfl
 cases a0m n 0 100000
 ·rfl
 cases a3K (a0b .add .f64 p.1 (a0b .mul .f64 (a0y .f32 .f64 v.1).2 (nearest .f64 n)),a0b .add .f64 p.2 (a0b .mul .f64 (a0y .f32 .f64 v.2).2 (nearest .f64 n)))<;>rfl
theorem d2v (l:Int) (h:0<l):d6F (l,0,600,())=some (a5e l 600,()):=by
 unfold d6F a5e
 dsimp only
 rw[show decide ((600:Int)<0)=false by decide,show decide (l<0)=false by simp;omega]
 simp only[cond_false]
 by_cases a:l>600
 ·rw[show decide (l>600)=true by simpa using a,cond_true,if_pos (by omega)]
 ·rw[show decide (l>600)=false by simpa using a,cond_false,if_neg (by omega)]
theorem b6w (a:Den S30) (h:a6R a) (g:Den a6c):∀(f N:Nat) (p:Nat×Nat) (t l:Int),(l<=(f:Int)*600)->(f<N)->0<=t->t+l<=9223372036854775807->0<=l ->
 ∃w:Int,a0K (b4k) N ((p,t,[g],(),(0:Int),l,()),a,())=some (match a9d a g f p t l with|some r => .inl ((r.1,w,[g],(),(0:Int),()),a,())|none => .inr (((0,0),false,()),())):=by
 intro f
 induction f with
 | zero =>
   intro N p t l s q u i e;obtain⟨N,rfl⟩:∃M,N=M+1:=⟨N-1,by omega⟩;have c:l=0:=by omega
   subst c;exact⟨t,rfl⟩
 | succ f v =>
   intro N p t l s q u i e;obtain⟨N,rfl⟩:∃M,N=M+1:=⟨N-1,by omega⟩;by_cases d:l>0
   ·have j:decide (l>0)=true:=decide_eq_true d;obtain⟨m1,x,y,z⟩:=d2f d;have k:=d2v l d;have m:=e1i a p t h;have n:=e1n g.1 g.2.1 (a3f a p t).1;have o:=e1o p (a5y g.1 g.2.1 (a3f a p t).1).1 (a5e l 600);have⟨k0,g0⟩:=kgP c1y b1W k;have⟨k1,g1⟩:=kgP f0y d1G m;have⟨k2,g2⟩:=kgP f0A e0d n;have⟨k3,g3⟩:=kgP f0C e7h o;have w1:IntKind.i64.wrap (t+a5e l 600)=t+a5e l 600:=w64 (by omega) (by omega);have w2:IntKind.i64.wrap (l-a5e l 600)=l-a5e l 600:=w64 (by omega) (by omega);have b:=v N (b1R p g (a5e l 600) (a3f a p t).1).1 (t+a5e l 600) (l-a5e l 600) (by omega) (by omega) (by omega) (by omega) (by omega);have step:a0K (b4k) (N+1) ((p,t,[g],(),(0:Int),l,()),a,()) =
     bif decide (l>0)then bif c1y (l,0,600,())then bif f0y (a,p,t,())then bif !(d1G (a,p,t,())).2.1 then some (.inr (((0,0),false,()),()))
      else bif f0A (g.1,g.2.1,(d1G (a,p,t,())).1,())then bif !(e0d (g.1,g.2.1,(d1G (a,p,t,())).1,())).2.1 then some (.inr (((0,0),false,()),()))
       else bif f0C (p,(e0d (g.1,g.2.1,(d1G (a,p,t,())).1,())).1,b1W (l,0,600,()))then bif !(e7h (p,(e0d (g.1,g.2.1,(d1G (a,p,t,())).1,())).1,b1W (l,0,600,()))).2.1 then some (.inr (((0,0),false,()),()))
        else a0K (b4k) N (((e7h (p,(e0d (g.1,g.2.1,(d1G (a,p,t,())).1,())).1,b1W (l,0,600,()))).1,IntKind.i64.wrap (t+(b1W (l,0,600,())).1),[g],(),(0:Int),IntKind.i64.wrap (l-(b1W (l,0,600,())).1),()),a,())
      else none else none else none else none
     else some (.inl ((p,t,[g],(),(0:Int),()),a,())):=rfl
    rw[step,j,k0,g0,k1,g1];simp only[cond_true,k2,g2,w1,w2,k3,g3];unfold a9d;rw[j,cond_true];unfold b1R at b ⊢;cases (a3f a p t).2.1
    ·exact⟨0,rfl⟩
    ·cases hg:(a5y g.1 g.2.1 (a3f a p t).1).2.1
     ·exact⟨0,rfl⟩
     ·rw[hg]at b;simp only[Bool.not_true,cond_false]at b ⊢;cases (d2e p (a5y g.1 g.2.1 (a3f a p t).1).1 (a5e l 600)).2.1
      ·exact⟨0,rfl⟩
      ·exact b
   ·have c:l=0:=by omega
    subst c;exact⟨t,rfl⟩
theorem e1p (p:Nat×Nat) (t:Int) (g:Den a6c) (a:Den S30) (h:a6R a) (l:0<=t) (m:t<=1000000000000) (q:b1X g<=3600):e7l (p,t,[g],a,())=some (f7h p t g a):=by
 have e:F96 (p,())=some (a3K p,()):=a7e p;have f:=d2u g;have⟨k1,g1⟩:=kgP K96 G96 e;have⟨k2,g2⟩:=kgP f0H f0I f;unfold e7l f7h;show(bif K96 (p,())then bif !(G96 (p,())).1 then _ else bif f0H ([g],())then bif !(f0I ([g],())).1 then _ else
  bif b6c ((p,t,[g],(),(0:Int),()),a,())then bif b6d ((p,t,[g],(),(0:Int),()),a,())then some (b6f ((p,t,[g],(),(0:Int),()),a,())).1
   else some ((b6e ((p,t,[g],(),(0:Int),()),a,())).1.1,true,())else none else none else none)=_
 rw[k1,g1,k2,g2];cases hp:a3K p
 ·rfl
 cases hg':d2d g
 ·rfl
 simp only[Bool.not_true,cond_true,cond_false];have c:0<=b1X g:=by
  unfold d2d a0m at hg';simp only[and_eq_true,decide_eq_true_eq]at hg';exact hg'.2.1
 obtain⟨o,k⟩:=b6w a h g 7 (b9o ((p,t,[g],(),(0:Int),b1X g,()),a,())) p t (b1X g) (by omega) (by unfold b9o;dsimp only;omega) l (by omega) c;have b:b0q ((p,t,[g],(),(0:Int),b1X g,()),a,())=_:=k;have d:a8U ((p,t,[g],(),(0:Int),()),a,())=some (match a9d a g 7 p t (b1X g)with|some r => .inl ((r.1,()),())|none => .inr (((0,0),false,()),())):=by
  unfold a8U;have j:∃M,b4l ((p,t,[g],(),(0:Int),()),a,())=M+2:=⟨b4l ((p,t,[g],(),(0:Int),()),a,())-2,by unfold b4l;dsimp only;omega⟩;obtain⟨M,i⟩:=j;rw[i];show(bif b5Z ((p,t,[g],(),(0:Int),b1X g,()),a,())then bif b6a ((p,t,[g],(),(0:Int),b1X g,()),a,())then(some (Sum.inr (b6b ((p,t,[g],(),(0:Int),b1X g,()),a,()))):Option (c6W⊕c6X))else _ else none)=_;unfold b5Z b6a b6b;rw[b];cases hpv:a9d a g 7 p t (b1X g)with
  |none=>rfl
  | some r =>
    have n:a4B ((p,t,[g],(),(0:Int),b1X g,()),a,())=((r.1,o,[g],(),(0:Int),()),a,()):=by
     unfold a4B;rw[b,hpv];rfl
    show a0K (c6Y) (M+1) (((a4B ((p,t,[g],(),(0:Int),b1X g,()),a,())).1.1,(a4B ((p,t,[g],(),(0:Int),b1X g,()),a,())).1.2.1,(a4B ((p,t,[g],(),(0:Int),b1X g,()),a,())).1.2.2.1,(),IntKind.i64.wrap ((a4B ((p,t,[g],(),(0:Int),b1X g,()),a,())).1.2.2.2.2.1+1),()),(a4B ((p,t,[g],(),(0:Int),b1X g,()),a,())).2)=_;rw[n];rfl
 unfold b6c b6d b6f b6e;rw[d];cases a9d a g 7 p t (b1X g)with
 |none=>rfl
 |some r=>rfl
theorem e8w (a c:Int) (b:48<=c) (d:c<=57):IntKind.i64.wrap (IntKind.i64.wrap (IntKind.i64.wrap (10*a)+IntKind.i64.wrap c)-48)=IntKind.i64.wrap (IntKind.i64.wrap (a*10)+IntKind.i64.wrap (IntKind.u8.wrap (c-48))):=by
 rw[IntWalk.u8_in (c-48) (by omega),w64 (x:=c) (by omega) (by omega),w64 (x:=c-48) (by omega) (by omega)];simp only[IntKind.wrap_i64];omega
theorem d2w (f:b1r->Option (c5p⊕c5q)) (v:b1r):b0n f v=b5D f v:=by
 unfold b0n b5D;dsimp only;by_cases a:a0o v.1.1 v.1.2.2.1<48
 ·simp only[decide_eq_true a,cond_true]
 ·by_cases b:a0o v.1.1 v.1.2.2.1>57
  ·simp only[decide_eq_false a,decide_eq_true b,cond_false,cond_true]
  ·simp only[decide_eq_false a,decide_eq_false b,cond_false,e8w v.1.2.1 (a0o v.1.1 v.1.2.2.1) (by omega) (by omega)]
theorem d2x (v:b1r):b0o v=c0G v:=by
 have:(b0n:(b1r->Option (c5p⊕c5q))->b1r->Option (c5p⊕c5q))=b5D:=by
  funext f v;exact d2w f v
 show a0K (b0n) (c5r v) v=a0K (b5D) (c5r v) v;rw[this]
theorem c8u {n:Int} (h:I64 n):n.natAbs<=9223372036854775808:=by unfold I64 at h;omega
theorem e1q (s:ByteArray):f0n (s,())=some (uI s,uB s,()):=by
 rw[<- e7Y s];unfold f0n F17 c6J c6K c6L c6M c5s c5t c5u c5v;dsimp only;rw[d2x];by_cases a:s.size=0
 ·have c:((s.size:Int)==0)=true:=by simp[a]
  have d:decide ((s.size:Int)>10)=false:=by simp[a]
  have e:s=ByteArray.empty:=a7g (by
   have:s.data.toList.length=0:=by rw[Array.length_toList];exact a
   rw[List.length_eq_zero_iff.1 this];rfl)
  rw[c,d];subst e
  decide +kernel
 ·have c:((s.size:Int)==0)=false:=by simp[a]
  rw[c,cond_false];cases h10:decide ((s.size:Int)>10)
  ·have h:s.size<=10:=by
    have:=of_decide_eq_false h10;omega
   obtain⟨y,f,g⟩:=b4z s (by omega);simp only[cond_false,f,isSome_some,cond_true];cases y with
   |inr y=>rfl
   | inl z =>
     obtain⟨_,b⟩:=g z rfl;obtain⟨⟨t,n,_⟩,_⟩:=z;have b:I64 n:=b;have a1:=b1I n (c8u b);have a2:=b4y n b;have⟨k1,g1⟩:=kgP b3i a6L a1;have⟨k2,g2⟩:=kgP K25 G25 a2;show(bif decide (n>1000000000)then some (0,false,())else bif b3i (n,())then bif !a1a (a6L (n,())).1 t then some (0,false,())else some (n,true,())else none:OD R17) =
      (bif decide (n>1000000000)then some (0,false,())else bif K25 (n,())then bif !a1a (G25 (n,())).1 t then some (0,false,())else some (n,true,())else none:OD R17)
     rw[k1,g1,k2,g2]
  ·rfl
theorem e8x:∀(k u:Nat),u<10^(k+1)->Lib.nDigits u<=k+1
 |0,u,h=>by rw[Lib.nDigits_small (by simpa using h)];omega
 | k+1,u,h=>by
   by_cases a:u<10
   ·rw[Lib.nDigits_small a];omega
   ·rw[Lib.nDigits_big a];have:=e8x k (u/10) (by rw[Nat.pow_succ]at h;omega);omega
theorem c1m (m:Int):(a9y m).length<=11∨((a9y m).length<=12 /\ (a9y m).getD 0 0=45):=by
 unfold a9y;by_cases h:-1000000000<=m /\ m<=1000000000
 ·rw[if_pos h];have b:(Lib.itoa ((m.natAbs/1000:Nat):Int)).length<=7:=by
   rw[Lib.itoa_nonneg,Lib.decDigits_length];exact e8x 6 _ (by show m.natAbs/1000<10000000;omega)
  have c:(Lib.itoa ((1000+m.natAbs%1000:Nat):Int)).length=4:=by
   rw[Lib.itoa_nonneg,Lib.decDigits_length];exact Lib.nDigits_unique 3 _ (by show 1000<=_;omega) (by show _<10000;omega)
  by_cases a:m<0
  ·rw[if_pos a];right;constructor
   ·simp only[length_append,List.length_drop,List.length_cons,List.length_nil];omega
   ·rfl
  ·rw[if_neg a];left;simp only[length_append,List.length_drop,List.length_cons,List.length_nil];omega
 ·rw[if_neg h];left;simp
def f7J (n c:Int):Int:=IntKind.i64.wrap (IntKind.i64.wrap (n*10)+IntKind.i64.wrap (IntKind.u8.wrap (c-48)))
def dgV (t:ByteArray) (d:Int):Nat->Nat->Int->Option Int
 |0,_,n=>some n
 |k+1,i,n=>bif ((i:Int)==d)then dgV t d k (i+1) n else bif decide (a0o t i<48)then none else bif decide (a0o t i>57)then none else dgV t d k (i+1) (f7J n (a0o t i))
theorem f7K {t:ByteArray} {d:Int}:∀(k i:Nat) (n m:Int),I64 n->dgV t d k i n=some m->I64 m:=by
 intro k
 induction k with
 |zero=>intro i n m h e;cases e;exact h
 | succ k a =>
   intro i n m h e;unfold dgV at e;cases h1:((i:Int)==d)
   ·rw[h1,cond_false]at e;cases h2:decide (a0o t i<48)
    ·rw[h2,cond_false]at e;cases h3:decide (a0o t i>57)
     ·rw[h3,cond_false]at e;exact a _ _ _ (c0J _) e
     ·rw[h3]at e;cases e
    ·rw[h2]at e;cases e
   ·rw[h1,cond_true]at e;exact a _ _ _ h e
theorem e8y {t:ByteArray} {d:Int} {j:Nat} (g:(j:Int)≠d) (f:a0o t j<48):∀(k i:Nat) (n:Int),i<=j->j<i+k->dgV t d k i n=none:=by
 intro k
 induction k with
 |zero=>intro i n c e;omega
 | succ k b =>
   intro i n c e;unfold dgV;by_cases a:i=j
   ·subst a;rw[show((i:Int)==d)=false by simpa using g,decide_eq_true f];rfl
   ·rw[b (i+1) n (by omega) (by omega),b (i+1) _ (by omega) (by omega)];cases ((i:Int)==d)<;>cases decide (a0o t i<48)<;>cases decide (a0o t i>57)<;>rfl
theorem f7L (s t:ByteArray) (sg d:Int) (j:t.size<=1000):∀(k N i:Nat) (n:Int),i+k=t.size->k<N ->
 a0K (a4b) N ((s,t,sg,d,n,(i:Int),()),())=some (match dgV t d k i n with|some m => .inl ((s,sg,m,()),())|none => .inr ((0,false,()),())):=by
 intro k
 induction k with
 | zero =>
   intro N i n g h;obtain⟨N,rfl⟩:∃M,N=M+1:=⟨N-1,by omega⟩;show a4b _ _=_;unfold a4b;dsimp only;rw[show decide ((i:Int)<(t.size:Int))=false by simp;omega];rfl
 | succ k c =>
   intro N i n g h;obtain⟨N,rfl⟩:∃M,N=M+1:=⟨N-1,by omega⟩;show a4b (a0K (a4b) N) _=_;unfold a4b dgV;have e:decide ((i:Int)<(t.size:Int))=true:=by simp;omega
   have f:decide (0<=(i:Int))=true:=by simp
   simp only[e,f,cond_true,Bool.and_self,a2H i (by omega)];have a:=c N (i+1) n (by omega) (by omega);have b:=c N (i+1) (f7J n (a0o t i)) (by omega) (by omega);cases ((i:Int)==d)
   ·simp only[cond_false];cases decide (a0o t i<48)
    ·cases decide (a0o t i>57)
     ·exact b
     ·rfl
    ·rfl
   ·exact a
theorem f7M (s t:ByteArray) (l:t.size<=1000) (j:5<=t.size):∀(k N i:Nat) (n:Int),i+k=t.size->k<N ->
 a0K (a7i) N ((s,t,n,(i:Int),()),())=some (match dgV t ((t.size:Int)-4) k i n with|some m => .inl ((s,t,m,()),())|none => .inr ((0,false,()),())):=by
 intro k;have h:IntKind.i64.wrap ((t.size:Int)-4)=(t.size:Int)-4:=w64 (by omega) (by omega)
 induction k with
 | zero =>
   intro N i n f g;obtain⟨N,rfl⟩:∃M,N=M+1:=⟨N-1,by omega⟩;show a7i _ _=_;unfold a7i;dsimp only;rw[show decide ((i:Int)<(t.size:Int))=false by simp;omega];rfl
 | succ k c =>
   intro N i n f g;obtain⟨N,rfl⟩:∃M,N=M+1:=⟨N-1,by omega⟩;show a7i (a0K (a7i) N) _=_;unfold a7i dgV;have d:decide ((i:Int)<(t.size:Int))=true:=by simp;omega
   have e:decide (0<=(i:Int))=true:=by simp
   simp only[d,e,cond_true,Bool.and_self,a2H i (by omega),h];have a:=c N (i+1) n (by omega) (by omega);have b:=c N (i+1) (f7J n (a0o t i)) (by omega) (by omega);cases ((i:Int)==(t.size:Int)-4)
   ·simp only[cond_false];cases decide (a0o t i<48)
    ·cases decide (a0o t i>57)
     ·exact b
     ·rfl
    ·rfl
   ·exact a
def tv (s t:ByteArray) (sg:Int):Int×Bool×Unit:=
 bif a0m (t.size:Int) 5 11&&a0o t ((t.size:Int)-4)==46 then
  (match dgV t ((t.size:Int)-4) t.size 0 0 with
  |none=>(0,false,())
  |some n=>bif a1a (bOf (a9y (IntKind.i64.wrap (n*sg)))) s then(IntKind.i64.wrap (n*sg),true,())else(0,false,()))
 else(0,false,())
theorem a9h {t:ByteArray} {j:Nat} (h:j<t.size) (c:UInt8):t.data.toList[j]?=some c↔a0o t j=(c.toNat:Int):=by
 have a:j<t.data.toList.length:=by rw[Array.length_toList];exact h
 unfold a0o;rw[toNat_natCast,List.getElem?_eq_getElem a,List.getD_eq_getElem?_getD,List.getElem?_eq_getElem a];simp only[getD_some,Option.some.injEq];constructor
 ·intro e;rw[e]
 ·intro e;exact UInt8.toNat_inj.1 (by omega)
theorem e8z (s t:ByteArray) (sg:Int) (D:t.size<=1000):(bif decide ((a5s (t,46,())).fst<1)then some (0,false,())
 else bif (((t.size:Nat):Int) != wrap IntKind.i64 ((a5s (t,46,())).fst+4))then some (0,false,())
 else bif decide ((a5s (t,46,())).fst>7)then some (0,false,())
 else bif a3n ((s,t,sg,(a5s (t,46,())).fst,0,0,()),())then
  bif a4c ((s,t,sg,(a5s (t,46,())).fst,0,0,()),())then some (a4N ((s,t,sg,(a5s (t,46,())).fst,0,0,()),())).fst
  else bif d0W (wrap IntKind.i64 ((a1h ((s,t,sg,(a5s (t,46,())).fst,0,0,()),())).fst.snd.snd.fst*(a1h ((s,t,sg,(a5s (t,46,())).fst,0,0,()),())).fst.snd.fst),())then
   bif !a1a (d9s (wrap IntKind.i64 ((a1h ((s,t,sg,(a5s (t,46,())).fst,0,0,()),())).fst.snd.snd.fst*(a1h ((s,t,sg,(a5s (t,46,())).fst,0,0,()),())).fst.snd.fst),())).fst (a1h ((s,t,sg,(a5s (t,46,())).fst,0,0,()),())).fst.fst then some (0,false,())
   else some (wrap IntKind.i64 ((a1h ((s,t,sg,(a5s (t,46,())).fst,0,0,()),())).fst.snd.snd.fst*(a1h ((s,t,sg,(a5s (t,46,())).fst,0,0,()),())).fst.snd.fst),true,())
  else none
 else none:OD e2p)=some (tv s t sg):=by
 have B:(a5s (t,46,())).fst=Lib.indexByte t.data.toList 46:=rfl;rw[B];have C:=Lib.indexByte_ge t.data.toList 46;have c:=@Lib.indexByte_none t.data.toList 46;have b:=fun o=>@Lib.indexByte_some t.data.toList 46 o
 generalize Lib.indexByte t.data.toList 46=d at *;have i:=f7L s t sg d D t.size (a8H ((s,t,sg,d,0,((0:Nat):Int),()),())) 0 0 (by omega) (by unfold a8H;dsimp only;omega);have i:a6N ((s,t,sg,d,0,0,()),())=_:=i;unfold tv;by_cases a:(5<=t.size /\ t.size<=11) /\ a0o t ((t.size:Int)-4)=46
 ·obtain⟨⟨r,E⟩,u⟩:=a;have l:(a0m (t.size:Int) 5 11&&a0o t ((t.size:Int)-4)==46)=true:=by
   unfold a0m;rw[u,decide_eq_true (by omega),decide_eq_true (by omega)];rfl
  rw[l,cond_true];have x:((t.size:Int)-4)=((t.size-4:Nat):Int):=by omega
  have f:t.data.toList[t.size-4]?=some 46:=(a9h (by omega) 46).2 (by rw[<- x];exact u);have A:d ≠ -1:=fun e=>c e _ f
  obtain⟨j,rfl⟩:∃j:Nat,d=(j:Int):=⟨d.toNat,by omega⟩;obtain⟨k,y⟩:=b j rfl;have F:j<=t.size-4:=by
   by_cases h:t.size-4<j
   ·exact absurd f (y _ h)
   ·omega
  by_cases p:j=t.size-4
  ·subst p;rw[<- x]at i ⊢;rw[show decide ((t.size:Int)-4<1)=false by simp;omega,w64 (by omega) (by omega),show((t.size:Int) != (t.size:Int)-4+4)=false by simp,show decide ((t.size:Int)-4>7)=false by simp;omega];simp only[cond_false];unfold a3n a4c a4N a1h;rw[i];cases dgV t ((t.size:Int)-4) t.size 0 0 with
   |none=>rfl
   | some n =>
     show(bif d0W (IntKind.i64.wrap (n*sg),())then bif !a1a (d9s (IntKind.i64.wrap (n*sg),())).1 s then some (0,false,())else some (IntKind.i64.wrap (n*sg),true,())else none:OD e2p)=some (bif a1a (bOf (a9y (IntKind.i64.wrap (n*sg)))) s then(IntKind.i64.wrap (n*sg),true,())else(0,false,()));have e:=c7Q (IntKind.i64.wrap (n*sg));have⟨k1,r⟩:=kgP d0W d9s e;rw[k1,r];cases a1a (bOf (a9y (IntKind.i64.wrap (n*sg)))) s<;>rfl
  ·have m:a0o t j<48:=by
    rw[(a9h (by omega) 46).1 k]
    decide
   rw[e8y (j:=j) (by omega) m t.size 0 0 (by omega) (by omega)];by_cases g:(j:Int)<1
   ·rw[decide_eq_true g];rfl
   ·rw[decide_eq_false g,w64 (by omega) (by omega),show((t.size:Int) != (j:Int)+4)=true by simp;omega];rfl
 ·have l:(a0m (t.size:Int) 5 11&&a0o t ((t.size:Int)-4)==46)=false:=by
   apply Bool.eq_false_iff.2;intro h;unfold a0m at h;simp only[and_eq_true,decide_eq_true_eq,beq_iff_eq]at h;exact a ⟨⟨by omega,by omega⟩,h.2⟩
  rw[l,cond_false];by_cases v:d<1
  ·rw[decide_eq_true v];rfl
  rw[decide_eq_false v,cond_false];obtain⟨j,rfl⟩:∃j:Nat,d=(j:Int):=⟨d.toNat,by omega⟩;obtain⟨k,y⟩:=b j rfl;have q:j<t.size:=by
   have:=(List.getElem?_eq_some_iff.1 k).1;rw[Array.length_toList]at this;exact this
  rw[w64 (by omega) (by omega)];by_cases w:(t.size:Int)=(j:Int)+4
  ·rw[show((t.size:Int) != (j:Int)+4)=false by simpa using w,cond_false];by_cases z:(j:Int)>7
   ·rw[decide_eq_true z];rfl
   ·exfalso;apply a;refine⟨⟨by omega,by omega⟩,?_⟩;rw[show(t.size:Int)-4=(j:Int)by omega,(a9h q 46).1 k];rfl
  ·rw[show((t.size:Int) != (j:Int)+4)=true by simpa using w];rfl
theorem e8A (n:Int):K83 (n,())=true:=by unfold K83;rw[c6x];rfl
theorem e8B (n:Int):G83 (n,())=(bOf (a9y n),()):=by unfold G83;rw[c6x];rfl
theorem d2y {s:ByteArray} {m:Int} (h:12<=s.size /\ a0o s 0≠45∨13<=s.size):a1a (bOf (a9y m)) s=false:=by
 apply Bool.eq_false_iff.2;intro e;have e:=(a7M _ _).1 e;subst e;have a:(bOf (a9y m)).size=(a9y m).length:=by simp[bOf,ByteArray.size]
 rw[a]at h;rcases c1m m with b|⟨b,c⟩
 ·omega
 ·rcases h with⟨_,h3⟩|h3
  ·apply h3;unfold a0o;show(((a9y m).getD 0 0).toNat:Int)=45;rw[c];rfl
  ·omega
theorem e1r (s t:ByteArray) (sg:Int) (g:t.size<=1000) (a:(sg=1 /\ s=t /\ a0o s 0≠45)∨(sg=-1 /\ t.size+1=s.size)) :
 (bif decide (((t.size:Nat):Int)<5)then some (0,false,())
  else bif decide (((t.size:Nat):Int)>12)then some (0,false,())
  else bif (decide (0<=wrap IntKind.i64 (((t.size:Nat):Int)-4))&&decide (wrap IntKind.i64 (((t.size:Nat):Int)-4)<((t.size:Nat):Int)))then
   bif (a0o t (wrap IntKind.i64 (((t.size:Nat):Int)-4)) != 46)then some (0,false,())
   else bif a8Q ((s,t,0,0,()),())then
    bif a8R ((s,t,0,0,()),())then some (a8S ((s,t,0,0,()),())).fst
    else bif decide (((ByteArray.size (a2c ((s,t,0,0,()),())).fst.snd.fst:Nat):Int)<((ByteArray.size (a2c ((s,t,0,0,()),())).fst.fst:Nat):Int))then
     bif K83 (wrap IntKind.i64 (0-(a2c ((s,t,0,0,()),())).fst.snd.snd.fst),())then
      bif !a1a (G83 (wrap IntKind.i64 (0-(a2c ((s,t,0,0,()),())).fst.snd.snd.fst),())).fst (a2c ((s,t,0,0,()),())).fst.fst then some (0,false,())
      else some (wrap IntKind.i64 (0-(a2c ((s,t,0,0,()),())).fst.snd.snd.fst),true,())
     else none
    else bif K83 (a2c ((s,t,0,0,()),())).fst.snd.snd then
     bif !a1a (G83 (a2c ((s,t,0,0,()),())).fst.snd.snd).fst (a2c ((s,t,0,0,()),())).fst.fst then some (0,false,())
     else some ((a2c ((s,t,0,0,()),())).fst.snd.snd.1,true,())
    else none
   else none
  else none:OD e6U)=some (tv s t sg):=by
 unfold tv a0m;by_cases i:t.size<5
 ·rw[show decide (((t.size:Nat):Int)<5)=true by simp;omega,show decide ((5:Int)<=(t.size:Int))=false by simp;omega];rfl
 rw[show decide (((t.size:Nat):Int)<5)=false by simp;omega,show decide ((5:Int)<=(t.size:Int))=true by simp;omega,cond_false];by_cases f:12<t.size
 ·rw[show decide (((t.size:Nat):Int)>12)=true by simp;omega,show decide ((t.size:Int)<=11)=false by simp;omega];rfl
 rw[show decide (((t.size:Nat):Int)>12)=false by simp;omega,cond_false,w64 (x:=((t.size:Nat):Int)-4) (by omega) (by omega)];rw[show(decide (0<=((t.size:Nat):Int)-4)&&decide (((t.size:Nat):Int)-4<((t.size:Nat):Int)))=true by simp;omega,cond_true];by_cases hd:a0o t ((t.size:Int)-4)=46
 ·rw [hd];have b:=f7M s t g (by omega) t.size (b9h ((s,t,0,((0:Nat):Int),()),())) 0 0 (by omega) (by unfold b9h;dsimp only;omega);have b:b0p ((s,t,0,0,()),())=_:=b;unfold a8Q a8R a8S a2c;rw[b];cases hdg:dgV t ((t.size:Int)-4) t.size 0 0 with
  | none =>
    cases decide ((t.size:Int)<=11)<;>rfl
  | some n =>
    have d:I64 n:=f7K _ _ _ _ (by unfold I64;omega) hdg;have c:(bif decide (((t.size:Nat):Int)<((s.size:Nat):Int))then bif K83 (IntKind.i64.wrap (0-n),())then bif !a1a (G83 (IntKind.i64.wrap (0-n),())).1 s then some (0,false,())else some (IntKind.i64.wrap (0-n),true,())else none
     else bif K83 (n,())then bif !a1a (G83 (n,())).1 s then some (0,false,())else some (n,true,())else none:OD e6U)=some (bif a1a (bOf (a9y (IntKind.i64.wrap (n*sg)))) s then(IntKind.i64.wrap (n*sg),true,())else(0,false,())):=by
     rcases a with⟨rfl,rfl,_⟩|⟨rfl,h⟩
     ·rw[show decide (((s.size:Nat):Int)<((s.size:Nat):Int))=false by simp,cond_false,e8A,e8B,show n*1=n by omega,w64 (x:=n) (by unfold I64 at d;omega) (by unfold I64 at d;omega)];cases a1a (bOf (a9y n)) s<;>rfl
     ·rw[show decide (((t.size:Nat):Int)<((s.size:Nat):Int))=true by simp;omega,cond_true,e8A,e8B,show n * -1=0-n by omega];cases a1a (bOf (a9y (IntKind.i64.wrap (0-n)))) s<;>rfl
    refine Eq.trans c ?_;by_cases e:t.size<=11
    ·rw[show decide ((t.size:Int)<=11)=true by simp;omega];rfl
    ·rw[show decide ((t.size:Int)<=11)=false by simp;omega,d2y (by
      rcases a with⟨rfl,rfl,h⟩|⟨rfl,h⟩
      ·exact .inl ⟨by omega,h⟩
      ·exact .inr (by omega))]
     rfl
 ·rw[show(a0o t ((t.size:Int)-4) != 46)=true by simpa using hd,show(a0o t ((t.size:Int)-4)==46)=false by simpa using hd,Bool.and_false];rfl
def xV (s:ByteArray):Int×Bool×Unit:=bif a0o s 0==45 then tv s (ByteArray.extract s 1 s.size) (-1)else tv s s 1
theorem d2z {s:ByteArray} (a:a1a s { data:=#[] }=false):0<s.size:=by
 apply Nat.pos_of_ne_zero;intro b;have:s={ data:=#[] }:=a7g (by
  have:s.data.toList.length=0:=by rw[Array.length_toList];exact b
  rw[List.length_eq_zero_iff.1 this])
 rw[(a7M _ _).2 this]at a;cases a
theorem e1s (s:ByteArray) (g:s.size<=1000):d9t (s,())=some (xV s):=by
 unfold d9t xV;dsimp only;have a:∀t:ByteArray,e3r (t,46,())=true:=fun _=>rfl
 have b:=e8z s s 1 g;cases hb:a1a s { data:=#[] }with
 | true =>
   have f:a0o s 0=0:=by rw[(a7M _ _).1 hb];rfl
   simp only[Bool.not_true,cond_false,a,cond_true,f];exact b
 | false =>
   have c:=d2z hb;have d:(decide (0<=0)&&decide (0<((ByteArray.size s:Nat):Int)))=true:=by simp;omega
   have e:(decide (0<=1)&&decide (1<=((ByteArray.size s:Nat):Int))&&decide (((ByteArray.size s:Nat):Int)<=((ByteArray.size s:Nat):Int)))=true:=by simp;omega
   rw[d,e];simp only[Bool.not_false,cond_true];cases (a0o s 0==45)
   ·simp only[cond_false,a,cond_true];exact b
   ·simp only[cond_true,a];refine e8z s _ (-1) ?_;rw[ByteArray.size_extract];omega
set_option maxHeartbeats 4000000 in
theorem e1t (s:ByteArray) (e:s.size<=1000):e6V (s,())=some (xV s):=by
 unfold e6V xV;dsimp only;by_cases d:0<s.size
 ·have b:decide (((ByteArray.size s:Nat):Int)>0)=true:=by simp;omega
  have h:(decide (0<=0)&&decide (0<((ByteArray.size s:Nat):Int)))=true:=by simp;omega
  have f:(decide (0<=1)&&decide (1<=((ByteArray.size s:Nat):Int))&&decide (((ByteArray.size s:Nat):Int)<=((ByteArray.size s:Nat):Int)))=true:=by simp;omega
  have g:decide (0<=0)=true:=by simp
  rw[b,g,f];simp only[cond_true,Bool.and_self];by_cases a:a0o s 0=45
  ·rw[a];simp only[beq_self_eq_true,cond_true];refine e1r s _ (-1) ?_ (.inr ⟨rfl,?_⟩)
   ·rw[ByteArray.size_extract];omega
   ·show(ByteArray.extract s 1 s.size).size+1=s.size;rw[ByteArray.size_extract];omega
  ·rw[show(a0o s 0==45)=false by simpa using a];simp only[cond_false];exact e1r s s 1 e (.inl ⟨rfl,rfl,a⟩)
 ·have b:decide (((ByteArray.size s:Nat):Int)>0)=false:=decide_eq_false (by omega);have c:s={ data:=#[] }:=a7g (by
   have:s.data.toList.length=0:=by rw[Array.length_toList];show s.size=0;omega
   rw[List.length_eq_zero_iff.1 this])
  have a:a0o s 0≠45:=by rw[c];decide
  rw[b,show(a0o s 0==45)=false by simpa using a];simp only[cond_false];exact e1r s s 1 e (.inl ⟨rfl,rfl,a⟩)
theorem c8v (s:ByteArray) (a:s.size<=1000):e6V (s,())=some (xI s,xB s,()):=by
 rw[<- e0O s a,e1s s a,e1t s a]
theorem e1u (n a b:ByteArray) (g:a.size<=1000) (h:b.size<=1000):e2v ([n,a,b],())=some (f7i a b):=by
 have c:=c8v a g;have d:=c8v b h;have e:=c8t (xI a);have f:=c8t (xI b);have⟨k1,g1⟩:=kgP e0a c0W c;have⟨k2,g2⟩:=kgP e0a c0W d;have⟨k3,g3⟩:=kgP e0b c6N e;have⟨k4,g4⟩:=kgP e0b c6N f;unfold e2v f7i;show(bif e0a (a,())then bif e0a (b,())then bif e0b ((c0W (a,())).1,())then bif e0b ((c0W (b,())).1,())then bif (c0W (a,())).2.1 then some ((c6N ((c0W (a,())).1,())).1,(c6N ((c0W (b,())).1,())).1,(c0W (b,())).2)else some ((c6N ((c0W (a,())).1,())).1,(c6N ((c0W (b,())).1,())).1,false,())else none else none else none else none:OD f0q)=_;rw[k1,g1,k2,g2];dsimp only;rw[k3,g3,k4,g4];cases xB a<;>rfl
def kpS (Y:Yv):Yv:=bif decide (Y.sl<0)then Y else Y.setSl (bif (a1y Y).2.1 then e0N Y.sails Y.sl (a1y Y).1 else -1)
def uW (f:List ByteArray):Int:=bif decide (f.length=2)&&uB (fAt f 1)then uI (fAt f 1)else -1
def a7B (f:List ByteArray):Nat×Nat×Bool×Unit:=bif decide (f.length=3)then f7i (fAt f 1) (fAt f 2)else(0,0,false,())
def b9P (f:List ByteArray) (Y:Yv):Bool×Yv:=bif a0m (uW f) 0 359 then(true,kpS (Y.setHd (uW f)))else(false,Y)
def b9Q (x:Nat×Nat) (Y:Yv):Bool×Yv:=
 bif b9H Y.wd then(true,kpS (Y.setWd x))
 else bif (a7A Y.wd x).2.1&&a2E (a7A Y.wd x).1 then(true,kpS (Y.setWd (a7A Y.wd x).1))else(false,Y)
def c8w (f:List ByteArray) (Y:Yv):Bool×Yv:=bif (a7B f).2.2.1&&a2E (b4L (a7B f))then b9Q (b4L (a7B f)) Y else(false,Y)
def e1v (f:List ByteArray) (Y:Yv) (i:Nat):Bool:=a1a (at' Y.sails i).1 (fAt f 1)&&((a1y Y).2.1&&b1t (at' Y.sails i) (a1y Y).1)
def c8x (f:List ByteArray) (Y:Yv):Bool×Yv:=
 bif !decide (f.length=2)then(false,Y)else bif a1a (fAt f 1) c6v then(true,Y.setSl (-1))
 else match a0x (e1v f Y) 0 Y.sails.length with|some j=>(true,Y.setSl (j:Int))|none=>(false,Y)
def f1m (f:List ByteArray) (Y:Yv):Bool×Yv:=
 bif (a7B f).2.2.1&&(a0Z ((a7B f).1,(a7B f).2.1)).2.1 then(true,Y.setPs ((a7B f).1,(a7B f).2.1))else(false,Y)
def a9i (f:List ByteArray) (Y:Yv):Bool×Yv:=
 bif a1a (fAt f 0) b8W then b9P f Y else bif a1a (fAt f 0) d1n then c8w f Y else bif a1a (fAt f 0) d1o then c8x f Y else bif a1a (fAt f 0) f0c then f1m f Y else bif a1a (fAt f 0) sGo then goV (uW f) Y else(false,Y)
def swY (p:Bool×Yv):Yv×Bool×Unit:=(p.2,p.1,())
theorem b6x (Y:Yv) (h:YM Y):f0K (Y,())=some (kpS Y,()):=by
 have a:=c7C Y;have⟨k1,g1⟩:=kgP K54 G54 a;have c:=a6q h;have b:=e1k Y.sails Y.sl (a1y Y).1 (h.boat.2.2.1.1.good c) (b4v Y);have⟨k2,g2⟩:=kgP f0h f0i b;unfold f0K kpS;show(bif decide (Y.sl<0)then some (Y,())else bif K54 (Y,())then bif !(G54 (Y,())).2.1 then some (Y.setSl (-1),())else bif f0h (Y.sails,Y.sl,(G54 (Y,())).1,())then some (Y.setSl (f0i (Y.sails,Y.sl,(G54 (Y,())).1,())).1,())else none else none:OD f0J)=_;rw[k1,g1,k2,g2];cases decide (Y.sl<0)
 ·cases (a1y Y).2.1<;>rfl
 ·rfl
theorem e1w (f:List ByteArray):f0s (f,())=some (uW f,()):=by
 unfold f0s uW;dsimp only;by_cases h:f.length=2
 ·obtain⟨a,b,rfl⟩:∃a b,f=[a,b]:=by
   match f,h with
   |[a,b],_=>exact⟨a,b,rfl⟩
  have c:=e1q b;have⟨k1,g1⟩:=kgP f0o e6S c;show(bif f0o (b,())then bif !(e6S (b,())).2.1 then some (-1,())else some ((e6S (b,())).1,())else none:OD f0r)=some (bif uB b then uI b else -1,());rw[k1,g1];cases uB b<;>rfl
 ·rw[show((f.length:Int) != 2)=true by simp;omega,decide_eq_false h];rfl
theorem d7w (f:List ByteArray) (c:∀k,(fAt f k).size<=1000):e2v (f,())=some (a7B f):=by
 by_cases h:f.length=3
 ·obtain⟨n,a,b,rfl⟩:∃n a b,f=[n,a,b]:=by
   match f,h with
   |[n,a,b],_=>exact⟨n,a,b,rfl⟩
  exact e1u n a b (c 1) (c 2)
 ·unfold e2v a7B;dsimp only;rw[show((f.length:Int) != 3)=true by simp;omega,decide_eq_false h];rfl
theorem c1n (f:List ByteArray):(a0y .f64 .f32 (a7B f).1).1=true /\ (a0y .f64 .f32 (a7B f).2.1).1=true:=by
 unfold a7B;cases decide (f.length=3)
 ·exact⟨(by decide +kernel:(a0y FloatKind.f64 FloatKind.f32 0).1=true),(by decide +kernel:(a0y FloatKind.f64 FloatKind.f32 0).1=true)⟩
 ·exact⟨a7k _,a7k _⟩
theorem e1x (f:List ByteArray) (Y:Yv) (h:YM Y) (i:∀k,(fAt f k).size<=1000):f0M (Y,f,())=some (swY (c8w f Y)):=by
 have t:=d7w f i;have⟨k0,g0⟩:=kgP e0c a6v t;obtain⟨j,l⟩:=c1n f;generalize g:b4L (a7B f)=X;have a:F52 (X,())=some (a2E X,()):=a4j X;have⟨k1,g1⟩:=kgP K52 G52 a;have b:=e1l Y.wd X;have⟨k2,g2⟩:=kgP f0m d6w b;have c:F52 ((a7A Y.wd X).1,())=some (a2E (a7A Y.wd X).1,()):=a4j _;have⟨k3,g3⟩:=kgP K52 G52 c;have d:=b6x (Y.setWd (a7A Y.wd X).1) (h.wd' _);have⟨k4,g4⟩:=kgP c8O c8P d;have e:=b6x (Y.setWd X) (h.wd' _);have⟨k5,g5⟩:=kgP c8O c8P e;unfold f0M c8w b9Q swY;show(bif e0c (f,())then bif (a0y .f64 .f32 (a6v (f,())).1).1 then bif (a0y .f64 .f32 (a6v (f,())).2.1).1 then bif !(a6v (f,())).2.2.1 then some (Y,false,())
  else bif K52 (b4L (a6v (f,())),())then bif !(G52 (b4L (a6v (f,())),())).1 then some (Y,false,())
   else bif !(b9H Y.wd)then bif f0m (Y.wd,b4L (a6v (f,())),1056964608,())then bif !(d6w (Y.wd,b4L (a6v (f,())),1056964608,())).2.1 then some (Y,false,())
    else bif K52 ((d6w (Y.wd,b4L (a6v (f,())),1056964608,())).1,())then bif !(G52 ((d6w (Y.wd,b4L (a6v (f,())),1056964608,())).1,())).1 then some (Y,false,())
     else bif c8O (Y.setWd (d6w (Y.wd,b4L (a6v (f,())),1056964608,())).1,())then some ((c8P (Y.setWd (d6w (Y.wd,b4L (a6v (f,())),1056964608,())).1,())).1,true,())else none else none else none
    else bif !(a6v (f,())).2.2.1 then some (Y,false,())else bif K52 (b4L (a6v (f,())),())then bif !(G52 (b4L (a6v (f,())),())).1 then some (Y,false,())else bif c8O (Y.setWd (b4L (a6v (f,()))),())then some ((c8P (Y.setWd (b4L (a6v (f,()))),())).1,true,())else none else none
   else none else none else none else none:OD f0L)=_
 rw[k0,g0,j,l,g,k1,g1,k2,g2];dsimp only;rw[k3,g3,k4,g4,k5,g5];cases (a7B f).2.2.1
 ·rfl
 ·cases a2E X
  ·rfl
  ·cases b9H Y.wd
   ·cases (a7A Y.wd X).2.1
    ·rfl
    ·cases a2E (a7A Y.wd X).1<;>rfl
   ·rfl
def bkY (b:g0R):Yv:=(g2Q (((),(),(),()),b,jn0,[],())).1
theorem e1y (f:List ByteArray) (Y:Yv) (h:YM Y):f0P (Y,f,())=some (swY (c8x f Y)):=by
 have n:=c7C Y;have⟨k1,g1⟩:=kgP K54 G54 n;have l:=a6q h;unfold f0P c8x;by_cases i:f.length=2
 ·obtain⟨a,b,rfl⟩:∃a b,f=[a,b]:=by
   match f,i with
   |[a,b],_=>exact⟨a,b,rfl⟩
  have c:b0r (([a,b],(),(),(),(a1y Y).2.1,(0:Int),()),flY Y,jn0,(a1y Y).1,())=some (match a0x (e1v [a,b] Y) 0 Y.sails.length with
   |some j => .inr (((),true,()),flY (Y.setSl (j:Int)),())|none => .inl (((),(),()),flY Y,jn0,())):=by
   refine(a4v (q:=b4m) (fun k=>(([a,b],(),(),(),(a1y Y).2.1,(k:Int),()),flY Y,jn0,(a1y Y).1,())) Y.sails.length (e1v [a,b] Y) _ (fun j => .inr (((),true,()),flY (Y.setSl (j:Int)),())) ?_ ?_ _ ?_:_)
   ·intro k d r;have g:decide ((k:Int)<(Y.sails.length:Int))=true:=by simpa using r
    have m:decide (0<=(k:Int))=true:=by simp
    have p:IntKind.i64.wrap ((k:Int)+1)=((k+1:Nat):Int):=a2H k (by omega);have o:=c8s (at' Y.sails k,(a1y Y).1,());have⟨k3,g3⟩:=kgP e2t e2u o;unfold b4m e1v;show(bif decide ((k:Int)<(Y.sails.length:Int))then bif (decide (0<=(k:Int))&&decide ((k:Int)<(Y.sails.length:Int)))then
     bif a1a (at' Y.sails k).1 b then bif (a1y Y).2.1 then bif (decide (0<=(k:Int))&&decide ((k:Int)<(Y.sails.length:Int)))then bif e2t (at' Y.sails k,(a1y Y).1,())then bif (e2u (at' Y.sails k,(a1y Y).1,())).1 then some (.inr (((),true,()),flY (Y.setSl (k:Int)),()))
      else d (([a,b],(),(),(),(a1y Y).2.1,IntKind.i64.wrap ((k:Int)+1),()),flY Y,jn0,(a1y Y).1,())else none else none
      else d (([a,b],(),(),(),(a1y Y).2.1,IntKind.i64.wrap ((k:Int)+1),()),flY Y,jn0,(a1y Y).1,())
     else d (([a,b],(),(),(),(a1y Y).2.1,IntKind.i64.wrap ((k:Int)+1),()),flY Y,jn0,(a1y Y).1,())else none else _)=bif a1a (at' Y.sails k).1 b&&((a1y Y).2.1&&b1t (at' Y.sails k) (a1y Y).1)then _ else _
    rw[g,m,p,k3,g3];cases a1a (at' Y.sails k).1 b
    ·rfl
    ·cases (a1y Y).2.1
     ·rfl
     ·cases b1t (at' Y.sails k) (a1y Y).1<;>rfl
   ·intro d;have g:decide ((Y.sails.length:Int)<(Y.sails.length:Int))=false:=by simp
    unfold b4m;show(bif decide ((Y.sails.length:Int)<(Y.sails.length:Int))then _ else _)=_;rw[g];rfl
   ·show Y.sails.length<b9r _;unfold b9r;refine Nat.lt_of_le_of_lt ?_ (Nat.lt_add_of_pos_right (by decide))
    repeat (first|exact Nat.le_add_left _ _|refine Nat.le_trans ?_ (Nat.le_add_right _ _))
  show(bif a1a b c6v then some (Y.setSl (-1),true,())else bif K54 (Y,())then bif b6g (([a,b],(),(),(),(G54 (Y,())).2.1,(0:Int),()),flY Y,jn0,(G54 (Y,())).1,())then
   bif b6h (([a,b],(),(),(),(G54 (Y,())).2.1,(0:Int),()),flY Y,jn0,(G54 (Y,())).1,())then(fun e:c7a=>(some (bkY e.2.1,e.1.2):OD e2x)) (b6j (([a,b],(),(),(),(G54 (Y,())).2.1,(0:Int),()),flY Y,jn0,(G54 (Y,())).1,()))
   else(fun e:c6Z=>(some (bkY e.2.1,false,()):OD e2x)) (b6i (([a,b],(),(),(),(G54 (Y,())).2.1,(0:Int),()),flY Y,jn0,(G54 (Y,())).1,()))
   else none else none:OD e2x)=some (swY (bif a1a b c6v then(true,Y.setSl (-1))else match a0x (e1v [a,b] Y) 0 Y.sails.length with|some j=>(true,Y.setSl (j:Int))|none=>(false,Y)))
  rw[k1,g1];unfold b6g b6h b6j b6i;rw[c];cases a1a b c6v
  ·cases a0x (e1v [a,b] Y) 0 Y.sails.length<;>rfl
  ·rfl
 ·dsimp only;rw[show((f.length:Int) != 2)=true by simp;omega,decide_eq_false i];rfl
theorem e8C (r:List UInt8):pcs (32::r)=[]::pcs r:=by
 conv=>lhs;unfold pcs
 rw[if_pos rfl]
theorem f7N (x r:List UInt8) (a:32 ∉ x):fl (x++32::r)=(if x=[]then[]else[x])++fl r:=by
 unfold fl;rw[a8P x (32::r) a,e8C];show List.filter _ ((x++[])::pcs r)=_;rw[List.append_nil,List.filter_cons];by_cases h:x=[]
 ·subst h;simp
 ·simp[h]
theorem e1z (x:List UInt8) (a:32 ∉ x):fl x=if x=[]then[]else[x]:=by
 unfold fl;have h:=a8P x [] a;rw[List.append_nil]at h;rw[h];show List.filter _ [x++[]]=_;rw[List.append_nil];by_cases h:x=[]
 ·subst h;simp
 ·simp[h]
def e1A (l:List UInt8):List ByteArray:=(fl l).map bOf
theorem e1B (s:ByteArray):e1A s.data.toList=a0X s:=by
 apply b5U;rw[a5w];unfold e1A;rw[List.map_map];show List.map (fun x=>x) _=_;simp
theorem c8y (s:ByteArray) (a b:Nat):ByteArray.extract s a b=bOf ((s.data.toList.drop a).take (b-a)):=by
 apply ByteArray.ext;rw[ByteArray.data_extract];apply Array.ext';simp[bOf]
theorem c1o (l:List UInt8) (a i:Nat) (h:a<=i):l.drop a=(l.drop a).take (i-a)++l.drop i:=by
 have:l.drop i=(l.drop a).drop (i-a):=by rw[List.drop_drop];congr 1;omega
 rw[this,List.take_append_drop]
theorem b6y (s:ByteArray) (R:s.size<=1000):∀(k N a i:Nat) (b:List ByteArray),i+k=s.size->k+1<N->a<=i->b.length<=i->32 ∉ (s.data.toList.drop a).take (i-a) ->
 a0K a5x N ((s,(),(a:Int),(i:Int),()),b,())=some (bif a0i (b5S s) i k then .inl (((),()),b++e1A (s.data.toList.drop a),())else .inr (([],false,()),())):=by
 have G:s.data.toList.length=s.size:=Array.length_toList;intro k
 induction k with
 | zero =>
   intro N a i b J K E L p;obtain⟨N,rfl⟩:∃M,N=M+2:=⟨N-2,by omega⟩;have C:i=s.size:=by omega
   subst C;have H:(s.data.toList.drop a).take (s.size-a)=s.data.toList.drop a:=List.take_of_length_le (by rw[List.length_drop];omega);rw[H]at p;have t:decide ((s.size:Int)<=(s.size:Int))=true:=by simp
   have u:decide ((s.size:Int)<(s.size:Int))=false:=by simp
   have z:IntKind.i64.wrap ((s.size:Int)+1)=(s.size:Int)+1:=w64 (by omega) (by omega);have w:decide ((s.size:Int)+1<=(s.size:Int))=false:=by simp;omega
   have d:∀(v:Int) (c:List ByteArray),a0K a5x (N+1) ((s,(),v,(s.size:Int)+1,()),c,())=some (.inl (((),()),c,())):=by
    intro v c;show a5x (a0K a5x N) _=_;unfold a5x;dsimp only;rw[w];rfl
   show a5x (a0K a5x (N+1)) _=_;generalize a0K a5x (N+1)=I at d;unfold a5x;simp only[t,u,cond_true,cond_false,z];unfold e1A;rw[e1z _ p];by_cases q:a<s.size
   ·have m:decide ((a:Int)<(s.size:Int))=true:=by simpa using q
    have x:(decide (0<=(a:Int))&&decide ((a:Int)<=(s.size:Int))&&true)=true:=by simp;omega
    have y:a0n (b.length+1)=true:=a0v (by omega);have f:s.data.toList.drop a≠[]:=fun h=>by have:=congrArg length h;rw[List.length_drop]at this;simp at this;omega
    rw[m,x,if_neg f];simp only[cond_true,length_set,length_replicate];rw[y,cond_true,d];show some (Sum.inl (((),()),b++[ByteArray.extract s (toNat (a:Int)) (toNat (s.size:Int))],()))=some (Sum.inl (((),()),b++[bOf (s.data.toList.drop a)],()));rw[toNat_natCast,toNat_natCast,c8y,H]
   ·have m:decide ((a:Int)<(s.size:Int))=false:=by simpa using q
    have f:s.data.toList.drop a=[]:=List.drop_of_length_le (by omega);rw[m,f,if_pos rfl];simp only[cond_false];rw[d];show some (Sum.inl (((),()),b,()))=some (Sum.inl (((),()),b++[],()));rw[List.append_nil]
 | succ k o =>
   intro N a i b J K E L p;obtain⟨N,rfl⟩:∃M,N=M+1:=⟨N-1,by omega⟩;have C:i<s.size:=by omega
   have n:i<s.data.toList.length:=by omega
   have t:decide ((i:Int)<=(s.size:Int))=true:=by simp;omega
   have u:decide ((i:Int)<(s.size:Int))=true:=by simpa using C
   have w:decide (0<=(i:Int))=true:=by simp
   have z:IntKind.i64.wrap ((i:Int)+1)=((i+1:Nat):Int):=a2H i (by omega);have o:=o N;show a5x (a0K a5x N) _=_;generalize a0K a5x N=I at o;have P:b5S s i=(!decide (a0o s (i:Int)<32)&&!decide (a0o s (i:Int)>126)):=rfl;unfold a5x a0i;rw[P];simp only[t,u,w,Bool.and_self,cond_true,z];cases c1:decide (a0o s i<32)
   ·cases c2:decide (a0o s i>126)
    ·simp only[cond_false,Bool.not_false,Bool.and_self,Bool.true_and];have B:s.data.toList.drop i=s.data.toList[i]::s.data.toList.drop (i+1):=List.drop_eq_getElem_cons n;have r:a0o s i=(s.data.toList[i].toNat:Int):=by
      unfold a0o;rw[toNat_natCast,List.getD_eq_getElem?_getD,List.getElem?_eq_getElem n];rfl
     by_cases j:a0o s i=32
     ·have O:s.data.toList[i]=32:=UInt8.toNat_inj.1 (by rw[r]at j;show s.data.toList[i].toNat=32;omega);rw[show(a0o s (i:Int) != 32)=false by simpa using j];simp only[cond_false];have D:s.data.toList.drop a=(s.data.toList.drop a).take (i-a)++32::s.data.toList.drop (i+1):=by
       conv=>lhs;rw[c1o s.data.toList a i E,B,O]
      have F:e1A (s.data.toList.drop a)=(if(s.data.toList.drop a).take (i-a)=[]then[]else[bOf ((s.data.toList.drop a).take (i-a))])++e1A (s.data.toList.drop (i+1)):=by
       unfold e1A
       conv=>lhs;rw[D,f7N _ _ p,List.map_append]
       by_cases h:(s.data.toList.drop a).take (i-a)=[]
       ·rw[if_pos h,if_pos h];rfl
       ·rw[if_neg h,if_neg h];rfl
      by_cases q:a<i
      ·have m:decide ((a:Int)<(i:Int))=true:=by simpa using q
       have x:(decide (0<=(a:Int))&&decide ((a:Int)<=(i:Int))&&true)=true:=by simp;omega
       have y:a0n (b.length+1)=true:=a0v (by omega);have f:(s.data.toList.drop a).take (i-a)≠[]:=fun h=>by have:=congrArg length h;rw[List.length_take,List.length_drop]at this;simp at this;omega
       rw[m,x];simp only[cond_true,length_set,length_replicate];rw[y,cond_true];have g:=o (i+1) (i+1) (b++[ByteArray.extract s a i]) (by omega) (by omega) (by omega) (by rw[length_append,List.length_singleton];omega) (by rw[Nat.sub_self];simp);refine Eq.trans g ?_;rw[F,if_neg f,c8y,List.append_assoc]
      ·have A:a=i:=by omega
       have m:decide ((a:Int)<(i:Int))=false:=by simpa using q
       rw[m];simp only[cond_false];have g:=o (i+1) (i+1) b (by omega) (by omega) (by omega) (by omega) (by rw[Nat.sub_self];simp);refine Eq.trans g ?_;rw[F,if_pos (by rw[A,Nat.sub_self];rfl)];rfl
     ·rw[show(a0o s (i:Int) != 32)=true by simpa using j];simp only[cond_true];have g:=o a (i+1) b (by omega) (by omega) (by omega) (by omega) (by
       have e:i+1-a=(i-a)+1:=by omega
       rw[e,List.take_add_one];have Q:(s.data.toList.drop a)[i-a]?=some s.data.toList[i]:=by
        rw[List.getElem?_drop,show a+(i-a)=i by omega,List.getElem?_eq_getElem n]
       rw[Q];intro l;rw[List.mem_append]at l;rcases l with l|l
       ·exact p l
       ·have l:(32:UInt8)=s.data.toList[i]:=List.mem_singleton.1 l;apply j;rw[r,<- l];rfl)
      exact g
    ·rfl
   ·rfl
theorem e8D (s:ByteArray):F87 (s,())=some (spF s,spO s,()):=by
 rw[<- d7m s,b9b];unfold F87;dsimp only;cases h6:decide (((ByteArray.size s:Nat):Int)>600)
 ·have b:s.size<=600:=by
   have:=of_decide_eq_false h6;omega
  have a:=b6y s (by omega) s.size (d1M ((s,(),((0:Nat):Int),((0:Nat):Int),()),[],())) 0 0 [] (by omega) (by unfold d1M;dsimp only;omega) (by omega) (by simp) (by simp);have a:c0X ((s,(),0,0,()),replicate 0 (zero Ty.str),())=some (bif c1x s then .inl (((),()),a0X s,())else .inr (([],false,()),())):=by
   rw[<- e1B];exact a
  unfold d6S d6T d6V d6U;rw[a];cases c1x s
  ·rfl
  ·show(bif decide (((a0X s).length:Int)>24)then _ else _)=some (bif decide (((a0X s).length:Int)>24)then _ else _);cases decide (((a0X s).length:Int)>24)<;>rfl
 ·rfl
theorem e1C (n:Int) (Y:Yv) (h:YM Y) (l:0<=Y.tm /\ Y.tm<=10000000):f0T (Y,n,())=some (swY (goV n Y)):=by
 have g:F51 (n,1,3600,())=some (inB n 1 3600,()):=a1Z _;have⟨k2,g2⟩:=kgP K51 G51 g;have i:=c7A Y;have⟨k3,g3⟩:=kgP e2g d3X i;unfold f0T goV;dsimp only;rw[k2,g2];cases hin:inB n 1 3600 with
 |false=>rfl
 | true =>
   have a:=hin;unfold inB at a;simp only[and_eq_true,decide_eq_true_eq]at a;have w1:IntKind.i64.wrap (Y.2.1+n)=Y.tm+n:=w64 (by show _<=Y.tm+n;omega) (by show Y.tm+n<=_;omega);rw[w1];simp only[Bool.not_true,cond_false,cond_true];cases decide (Y.tm+n>10000000)
   ·have c:length Y.2.2.2.2.2.2.1=Y.tk.length:=rfl;rw[c];cases decide ((Y.tk.length:Int) ≥ 200)
    ·simp only[cond_false,Bool.not_false,Bool.and_self,cond_true];have f:e7l (Y.ps,Y.tm,[((Y.hd,goS Y,n,()):Den a6c)],Y.1.2.1,())=some (goR n Y):=e1p Y.ps Y.tm (Y.hd,goS Y,n,()) Y.1.2.1 h.boat.2.1 l.1 (by omega) a.2;have⟨k1,g1⟩:=kgP e7m d1I f;have j:=b9F (goR n Y).1;have⟨k4,g4⟩:=kgP K49 G49 j;have d:a0n (0+Y.tk.length)=true:=e6J h.tk;have e:a0n (Y.tk.length+1)=true:=a0v (by have:=h.tk;omega);have b:∀s:Nat,goS Y=s->(bif e7m (Y.ps,Y.tm,[((Y.hd,s,n,()):Den a6c)],Y.1.2.1,())then bif K49 ((d1I (Y.ps,Y.tm,[((Y.hd,s,n,()):Den a6c)],Y.1.2.1,())).1,())then
      bif !(d1I (Y.ps,Y.tm,[((Y.hd,s,n,()):Den a6c)],Y.1.2.1,())).2.1 then some (Y,false,())else bif !(G49 ((d1I (Y.ps,Y.tm,[((Y.hd,s,n,()):Den a6c)],Y.1.2.1,())).1,())).2.1 then some (Y,false,())
       else bif a0n (0+Y.tk.length)then bif a0n (Y.tk.length+1)then some (Y.setGo (Y.tm+n) (d1I (Y.ps,Y.tm,[((Y.hd,s,n,()):Den a6c)],Y.1.2.1,())).1 (Y.tk++[((G49 ((d1I (Y.ps,Y.tm,[((Y.hd,s,n,()):Den a6c)],Y.1.2.1,())).1,())).1,Y.tm+n,())]),true,())else none else none
      else none else none:OD f0S)=some (swY (bif (goR n Y).2.1&&(a0Z (goR n Y).1).2.1 then(true,Y.setGo (Y.tm+n) (goR n Y).1 (Y.tk++[((a0Z (goR n Y).1).1,Y.tm+n,())]))else(false,Y))):=by
      intro s k;subst k;rw[k1,g1,k4,g4,d,e];cases (goR n Y).2.1
      ·rfl
      ·cases (a0Z (goR n Y).1).2.1<;>rfl
     cases hsl:decide (Y.sl ≥ 0)with
     | false =>
       have:=b 0 (by unfold goS;rw[hsl];rfl);rw[show decide (Y.2.2.2.2.2.1 ≥ 0)=false from hsl,cond_false];exact this
     | true =>
       have:=b (a4o Y) (by unfold goS;rw[hsl];rfl);rw[show decide (Y.2.2.2.2.2.1 ≥ 0)=true from hsl,cond_true,k3,g3];exact this
    ·rfl
   ·rfl
theorem e8E (f:List ByteArray) (Y:Yv) (h:YM Y) (m:0<f.length) (a:∀k,(fAt f k).size<=1000) (l:0<=Y.tm /\ Y.tm<=10000000):F88 (Y,f,())=some (swY (a9i f Y)):=by
 have j:(decide (0<=0)&&decide (0<(f.length:Int)))=true:=by simp;omega
 have a1:=e1w f;have⟨k1,g1⟩:=kgP e2w c8N a1;have a2:F51 (uW f,0,359,())=some (a0m (uW f) 0 359,()):=a1x _ _ _;have⟨k2,g2⟩:=kgP K51 G51 a2;have b:=b6x (Y.setHd (uW f)) (h.hd' _);have⟨k3,g3⟩:=kgP c8O c8P b;have c:=e1x f Y h a;have⟨k4,g4⟩:=kgP f0N f0O c;have d:=e1y f Y h;have⟨k5,g5⟩:=kgP f0Q f0R d;have e:=d7w f a;have⟨k6,g6⟩:=kgP e0c a6v e;have g:=b9F ((a7B f).1,(a7B f).2.1);have⟨k7,g7⟩:=kgP K49 G49 g;have i:=e1C (uW f) Y h l;have⟨k8,g8⟩:=kgP f0U f0V i;unfold F88 a9i b9P f1m;show(bif (decide (0<=0)&&decide (0<(f.length:Int)))then
  bif a1a (fAt f 0) b8W then bif e2w (f,())then bif K51 ((c8N (f,())).1,0,359,())then bif !(G51 ((c8N (f,())).1,0,359,())).1 then some (Y,false,())else bif c8O (Y.setHd (c8N (f,())).1,())then some ((c8P (Y.setHd (c8N (f,())).1,())).1,true,())else none else none else none
  else bif a1a (fAt f 0) d1n then bif f0N (Y,f,())then some (f0O (Y,f,()))else none
  else bif a1a (fAt f 0) d1o then bif f0Q (Y,f,())then some (f0R (Y,f,()))else none
  else bif a1a (fAt f 0) f0c then bif e0c (f,())then bif K49 (((a6v (f,())).1,(a6v (f,())).2.1),())then bif !(a6v (f,())).2.2.1 then some (Y,false,())else bif !(G49 (((a6v (f,())).1,(a6v (f,())).2.1),())).2.1 then some (Y,false,())else some (Y.setPs ((a6v (f,())).1,(a6v (f,())).2.1),true,())else none else none
  else bif a1a (fAt f 0) sGo then bif e2w (f,())then bif f0U (Y,c8N (f,()))then some (f0V (Y,c8N (f,())))else none else none
  else some (Y,false,())else none:OD R88)=_
 rw[j,k1,g1,k4,g4,k5,g5,k6,g6];dsimp only;rw[k2,g2,k3,g3,k7,g7,k8,g8];cases a1a (fAt f 0) b8W
 ·cases a1a (fAt f 0) d1n
  ·cases a1a (fAt f 0) d1o
   ·cases a1a (fAt f 0) f0c
    ·cases a1a (fAt f 0) sGo<;>rfl
    ·cases (a7B f).2.2.1
     ·rfl
     ·cases (a0Z ((a7B f).1,(a7B f).2.1)).2.1<;>rfl
   ·rfl
  ·rfl
 ·cases a0m (uW f) 0 359<;>rfl
def jnY (Y:Yv):J10:=((),(),(),(),(),(),Y.1.2.2.2.1.1.1.1,Y.1.2.2.2.1.1.1.2.1,Y.1.2.2.2.1.1.2.1.1,Y.1.2.2.2.1.1.2.1.2.1,(),Y.1.2.2.2.1.2.2.1.1.1,Y.1.2.2.2.1.2.2.1.1.2.1,Y.1.2.2.2.1.2.2.1.2.1.1,Y.1.2.2.2.1.2.2.1.2.1.2.1,Y.tm,Y.ps,Y.hd,Y.wd,Y.sl,(),(),())
def o37 (Y:Yv):O37.den:=((jnY Y,()),Y.1.1.1,Y.1.1.2.1,Y.1.1.2.2.1,Y.1.2.1.1,Y.1.2.1.2.1,Y.1.2.2.1,Y.1.2.2.2.1.2.1,Y.tk,Y.lg,())
def c1p (v:O37.den):Yv:=(((v.2.1,v.2.2.1,v.2.2.2.1,()),(v.2.2.2.2.1,v.2.2.2.2.2.1,()),v.2.2.2.2.2.2.1,(((v.1.1.2.2.2.2.2.2.1,v.1.1.2.2.2.2.2.2.2.1,()),(v.1.1.2.2.2.2.2.2.2.2.1,v.1.1.2.2.2.2.2.2.2.2.2.1,()),()),v.2.2.2.2.2.2.2.1,((v.1.1.2.2.2.2.2.2.2.2.2.2.2.1,v.1.1.2.2.2.2.2.2.2.2.2.2.2.2.1,()),(v.1.1.2.2.2.2.2.2.2.2.2.2.2.2.2.1,v.1.1.2.2.2.2.2.2.2.2.2.2.2.2.2.2.1,()),()),()),()),v.1.1.2.2.2.2.2.2.2.2.2.2.2.2.2.2.2.1,v.1.1.2.2.2.2.2.2.2.2.2.2.2.2.2.2.2.2.1,v.1.1.2.2.2.2.2.2.2.2.2.2.2.2.2.2.2.2.2.1,v.1.1.2.2.2.2.2.2.2.2.2.2.2.2.2.2.2.2.2.2.1,v.1.1.2.2.2.2.2.2.2.2.2.2.2.2.2.2.2.2.2.2.2.1,v.2.2.2.2.2.2.2.2.1,v.2.2.2.2.2.2.2.2.2.1,())
theorem d7x (Y:Yv):c1p (o37 Y)=Y:=rfl
theorem d7y (Y:Yv) (h:YM Y):F37 ((Y,()),())=some (o37 Y):=by
 have e:=d7n Y.1 h.boat;have⟨k,g⟩:=kgP K80 G80 e;have a:a0n (0+Y.tk.length)=true:=e6J h.tk;have b:a0n (0+Y.lg.length)=true:=e6J h.lg;unfold F37;dsimp only;rw[show K80 ((Y.1,()),())=true from k,show G80 ((Y.1,()),())=o80 Y.1 from g];show(bif a0n (0+Y.tk.length)then bif a0n (0+Y.lg.length)then some (o37 Y)else none else none:Option O37.den)=_;rw[a,b];rfl
theorem a2O (Y:Yv):Left Y (kpS Y):=by
 unfold kpS;cases decide (Y.sl<0)
 ·exact b6r _ _
 ·exact .refl Y
theorem b6z (x:Nat×Nat) (Y:Yv):Left Y (b9Q x Y).2:=by
 unfold b9Q;cases b9H Y.wd
 ·cases ((a7A Y.wd x).2.1&&a2E (a7A Y.wd x).1)
  ·exact .refl Y
  ·exact⟨(a2O (Y.setWd _)).boat,(a2O (Y.setWd _)).lg,(a2O (Y.setWd _)).tk⟩
 ·exact⟨(a2O (Y.setWd _)).boat,(a2O (Y.setWd _)).lg,(a2O (Y.setWd _)).tk⟩
theorem d2A (n:Int) (Y:Yv):Left Y (goV n Y).2:=by
 unfold goV;cases (inB n 1 3600&&(!decide (Y.tm+n>10000000)&&!decide ((Y.tk.length:Int) ≥ 200)))
 ·exact .refl Y
 ·cases ((goR n Y).2.1&&(a0Z (goR n Y).1).2.1)
  ·exact .refl Y
  ·exact⟨rfl,rfl,.inr ⟨_,rfl⟩⟩
theorem c1q (f:List ByteArray) (Y:Yv):Left Y (a9i f Y).2:=by
 unfold a9i;cases a1a (fAt f 0) b8W
 ·cases a1a (fAt f 0) d1n
  ·cases a1a (fAt f 0) d1o
   ·cases a1a (fAt f 0) f0c
    ·cases a1a (fAt f 0) sGo
     ·exact .refl Y
     ·exact d2A _ Y
    ·show Left Y (f1m f Y).2;unfold f1m;cases ((a7B f).2.2.1&&(a0Z ((a7B f).1,(a7B f).2.1)).2.1)
     ·exact .refl Y
     ·exact⟨rfl,rfl,.inl rfl⟩
   ·show Left Y (c8x f Y).2;unfold c8x;cases !decide (f.length=2)
    ·cases a1a (fAt f 1) c6v
     ·cases a0x (e1v f Y) 0 Y.sails.length
      ·exact .refl Y
      ·exact b6r _ _
     ·exact b6r _ _
    ·exact .refl Y
  ·show Left Y (c8w f Y).2;unfold c8w;cases ((a7B f).2.2.1&&a2E (b4L (a7B f)))
   ·exact .refl Y
   ·exact b6z _ Y
 ·show Left Y (b9P f Y).2;unfold b9P;cases a0m (uW f) 0 359
  ·exact .refl Y
  ·exact⟨(a2O (Y.setHd _)).boat,(a2O (Y.setHd _)).lg,(a2O (Y.setHd _)).tk⟩
def f1n (Y:Yv) (s:ByteArray):Bool:=okV (a1y Y) Y&&(decide ((Y.lg.length:Int)<300)&&(spO s&&(!decide ((spF s).length=0)&&(a9i (spF s) Y).1)))
def f7O (Y:Yv) (s:ByteArray):Yv:=(a9i (spF s) Y).2.setLg (Y.lg++[a1t (spF s)])
def d7z (Y:Yv) (s:ByteArray):Yv×Bool×Unit:=bif f1n Y s then(f7O Y s,true,())else(Y,false,())
theorem b0B (x:List UInt8):∀(f:List (List UInt8)),f≠[]->a4n (f++[x])=a4n f++32::x
 |[],h=>absurd rfl h
 | [a],_=>by
   show a4n [a,x]=_;rw[a2l,a3e,a3e]
 | a::b::r,_=>by
   show a4n (a::b::(r++[x]))=_;rw[a2l,a2l,show b::(r++[x])=(b::r)++[x]from rfl,b0B x (b::r) (by simp)];simp
theorem b0C (f:List ByteArray) (x:ByteArray) (h:f≠[]):a1t (f++[x])=a1t f++{ data:=#[32] }++x:=by
 apply a7g;rw[a1P,List.map_append,List.map_singleton,b0B _ _ (by simpa using h),<- a1P];simp[ByteArray.data_append]
theorem b4F (x:ByteArray):a1t [x]=x:=by
 apply a7g;rw[a1P];exact a3e _
theorem b6A (f:List ByteArray) (b:∀k,(fAt f k).size<=600):∀k,k<f.length->(a1t (f.take (k+1))).size<=601*(k+1):=by
 intro k
 induction k with
 | zero =>
   intro h;obtain⟨a,r,rfl⟩:∃a r,f=a::r:=by
    cases f with
    |nil=>simp at h
    |cons a r=>exact⟨a,r,rfl⟩
   show(a1t [a]).size<=_;rw[b4F];have:=b 0;show a.size<=601*(0+1);have e:fAt (a::r) 0=a:=rfl;rw[e]at this;omega
 | succ k l =>
   intro h;have m:=l (by omega);have e:f.take (k+1+1)=f.take (k+1)++[f[k+1]]:=List.take_succ_eq_append_getElem h;rw[e,b0C _ _ (by intro d;have j:=congrArg length d;rw[List.length_take,List.length_nil]at j;omega)];have g:=b ((k+1:Nat):Int);have c:fAt f ((k+1:Nat):Int)=f[k+1]:=a3Z _ _ _ h;rw[c]at g;have i:({ data:=#[32] }:ByteArray).size=1:=rfl;rw[ByteArray.size_append,ByteArray.size_append,i];omega
def flL (Y:Yv):=(Y.1.1.1,Y.1.1.2.1,Y.1.1.2.2.1,Y.1.2.1.1,Y.1.2.1.2.1,Y.1.2.2.1,Y.1.2.2.2.1.1.1.1,Y.1.2.2.2.1.1.1.2.1,Y.1.2.2.2.1.1.2.1.1,Y.1.2.2.2.1.1.2.1.2.1,Y.1.2.2.2.1.2.1,Y.1.2.2.2.1.2.2.1.1.1,Y.1.2.2.2.1.2.2.1.1.2.1,Y.1.2.2.2.1.2.2.1.2.1.1,Y.1.2.2.2.1.2.2.1.2.1.2.1,Y.tm,Y.ps,Y.hd,Y.wd,Y.sl,Y.tk,(),())
def o38 (p:Yv×Bool×Unit):O38.den:=((flL p.1,p.2),p.1.lg,())
set_option maxHeartbeats 2000000 in
theorem e8F (Y:Yv) (s:ByteArray) (h:YM Y):F38 ((Y,s,()),())=some (o38 (d7z Y s)):=by
 have a1:=e8D s;have⟨k1,g1⟩:=kgP K87 G87 a1;have a2:=d7y Y h;have⟨k2,g2⟩:=kgP K37 G37 a2;have x:=d7h Y h;have⟨k3,g3⟩:=kgP K18 G18 x;unfold F38 d7z f1n f7O;show (bif K87 (s,())then bif !(G87 (s,())).2.1 then bif K37 ((Y,()),())then some (o38 (c1p (G37 ((Y,()),())),false,()))else none
  else bif (((G87 (s,())).1.length:Int)==0)then bif K37 ((Y,()),())then some (o38 (c1p (G37 ((Y,()),())),false,()))else none
  else bif K18 (Y,())then bif !(G18 (Y,())).1 then bif K37 ((Y,()),())then some (o38 (c1p (G37 ((Y,()),())),false,()))else none
   else bif decide ((Y.lg.length:Int) ≥ 300)then bif K37 ((Y,()),())then some (o38 (c1p (G37 ((Y,()),())),false,()))else none
   else bif K37 ((Y,()),())then bif K88 (c1p (G37 ((Y,()),())),(G87 (s,())).1,())then
    bif !(G88 (c1p (G37 ((Y,()),())),(G87 (s,())).1,())).2.1 then bif K37 ((Y,()),())then some (o38 (c1p (G37 ((Y,()),())),false,()))else none
    else bif (decide (0<=0)&&decide (0<((G87 (s,())).1.length:Int)))then
     (fun Z:Yv=>bif b9s (((),(),(G87 (s,())).1,(),fAt (G87 (s,())).1 0,(1:Int),()),flY Y,jn0,flY Z,())then
      (fun v:e0f=>bif a0n (0+length v.2.1.2.2.2.2.2.2.2.2.2.2.2.2.2.2.2.2.2.2.2.2.2.1)then bif a0n (length v.2.1.2.2.2.2.2.2.2.2.2.2.2.2.2.2.2.2.2.2.2.2.2.1+1)then(some (o38 ((bkY v.2.2.2.1).setLg (v.2.1.2.2.2.2.2.2.2.2.2.2.2.2.2.2.2.2.2.2.2.2.2.1++[v.1.2.2.2.1]),true,())):Option O38.den)else none else none)
       (b9t (((),(),(G87 (s,())).1,(),fAt (G87 (s,())).1 0,(1:Int),()),flY Y,jn0,flY Z,()))else none) (G88 (c1p (G37 ((Y,()),())),(G87 (s,())).1,())).1
    else none else none else none
   else none else none:Option O38.den)=_
 rw[k1,g1,k2,g2,k3,g3,d7x];dsimp only;cases hb:spO s with
 |false=>cases okV (a1y Y) Y<;>cases decide ((Y.lg.length:Int)<300)<;>rfl
 |true=>
 by_cases c:(spF s).length=0
 ·rw[show(((spF s).length:Int)==0)=true by simp[c],decide_eq_true c];cases okV (a1y Y) Y<;>cases decide ((Y.lg.length:Int)<300)<;>rfl
 rw[show(((spF s).length:Int)==0)=false by simp[c],decide_eq_false c];cases ho:okV (a1y Y) Y with
 |false=>rfl
 |true=>
 by_cases w:(Y.lg.length:Int)<300
 ·rw [show decide ((Y.lg.length:Int) ≥ 300)=false by simp;omega,decide_eq_true w];obtain⟨_,L,_⟩:=a6s ho;have d:0<(spF s).length:=by omega
  have o:∀k,(fAt (spF s) k).size<=600:=fun k=>d2j hb k
  have y:=e8E (spF s) Y h d (fun k=>Nat.le_trans (o k) (by decide)) L;have⟨k4,g4⟩:=kgP K88 G88 y;rw[k4,g4];have E:(decide (0<=0)&&decide (0<((spF s).length:Int)))=true:=by simp;omega
  rw[E];cases hd:(a9i (spF s) Y).1 with
  | false =>
    simp only[swY,hd];rfl
  | true =>
    have j:=(c7Y hb).2.2.2;generalize J:(a9i (spF s) Y).2=Z;have n:swY (a9i (spF s) Y)=(Z,true,()):=by unfold swY;rw[hd,J]
    rw[n];generalize O:spF s=f at *;have b:c7c (((),(),f,(),fAt f 0,(1:Int),()),flY Y,jn0,flY Z,())=some (((),(),(),a1t f,()),flY Y,jn0,flY Z,()):=by
     have i:=a1K (q:=c7b) (fun k=>(((),(),f,(),a1t (f.take (k+1)),((k+1:Nat):Int),()),flY Y,jn0,flY Z,())) (f.length-1) (((),(),(),a1t f,()),flY Y,jn0,flY Z,()) (by
      intro k p u;have g:k+1<f.length:=by omega
      have l:decide (((k+1:Nat):Int)<(f.length:Int))=true:=by simp;omega
      have B:decide (0<=((k+1:Nat):Int))=true:=by simp;omega
      have sm:=b6A f o k (by omega);have t:({ data:=#[32] }:ByteArray).size=1:=rfl;have C:decide ((a1t (f.take (k+1))).size+({ data:=#[32] }:ByteArray).size<=9223372036854775807)=true:=decide_eq_true (by rw[t];omega);have N:=o ((k+1:Nat):Int);have D:decide ((a1t (f.take (k+1))++{ data:=#[32] }).size+(fAt f ((k+1:Nat):Int)).size<=9223372036854775807)=true:=decide_eq_true (by rw[ByteArray.size_append,t];omega);have G:IntKind.i64.wrap (((k+1:Nat):Int)+1)=((k+1+1:Nat):Int):=a2H (k+1) (by omega);have K:a1t (f.take (k+1+1))=a1t (f.take (k+1))++{ data:=#[32] }++fAt f ((k+1:Nat):Int):=by
       have e:f.take (k+1+1)=f.take (k+1)++[f[k+1]]:=List.take_succ_eq_append_getElem g;have F:fAt f ((k+1:Nat):Int)=f[k+1]:=a3Z _ _ _ g;rw[e,F,b0C _ _ (by intro H;have I:=congrArg length H;rw[List.length_take,List.length_nil]at I;omega)]
      unfold c7b;show(bif decide (((k+1:Nat):Int)<(f.length:Int))then bif decide ((a1t (f.take (k+1))).size+({ data:=#[32] }:ByteArray).size<=9223372036854775807)then
       bif (decide (0<=((k+1:Nat):Int))&&decide (((k+1:Nat):Int)<(f.length:Int)))then
        bif decide ((a1t (f.take (k+1))++{ data:=#[32] }).size+(fAt f ((k+1:Nat):Int)).size<=9223372036854775807)then
         p (((),(),f,(),a1t (f.take (k+1))++{ data:=#[32] }++fAt f ((k+1:Nat):Int),IntKind.i64.wrap (((k+1:Nat):Int)+1),()),flY Y,jn0,flY Z,())else none else none else none else _)=_
      rw[l,B,C,D,G,<- K];rfl) (by
      intro p;have e:f.length-1+1=f.length:=by omega
      have l:decide (((f.length-1+1:Nat):Int)<(f.length:Int))=false:=by simp;omega
      unfold c7b;show(bif decide (((f.length-1+1:Nat):Int)<(f.length:Int))then _ else some (((),(),(),a1t (f.take (f.length-1+1)),()),flY Y,jn0,flY Z,()))=_;rw[l,e,List.take_length];rfl) (d1P (((),(),f,(),a1t (f.take (0+1)),((0+1:Nat):Int),()),flY Y,jn0,flY Z,())) (by
      unfold d1P;refine Nat.lt_of_lt_of_le (show f.length-1<1000 by omega) (Nat.le_add_left _ _))
     have m:a1t (f.take (0+1))=fAt f 0:=by
      obtain⟨a,r,rfl⟩:∃a r,f=a::r:=by
       cases f with
       |nil=>simp at d
       |cons a r=>exact⟨a,r,rfl⟩
      exact b4F a
     unfold c7c;rw[m]at i;exact i
    have u:b9s (((),(),f,(),fAt f 0,(1:Int),()),flY Y,jn0,flY Z,())=true:=by unfold b9s;rw[b];rfl
    have M:b9t (((),(),f,(),fAt f 0,(1:Int),()),flY Y,jn0,flY Z,())=(((),(),(),a1t f,()),flY Y,jn0,flY Z,()):=by unfold b9t;rw[b];rfl
    dsimp only;rw[u,M];have z:a0n (0+Y.lg.length)=true:=e6J h.lg;have A:a0n (Y.lg.length+1)=true:=a0v (by have:=h.lg;omega);show(bif a0n (0+Y.lg.length)then bif a0n (Y.lg.length+1)then _ else none else none)=_;rw[z,A];rfl
 ·rw[show decide ((Y.lg.length:Int) ≥ 300)=true by simp;omega,decide_eq_false w];rfl
theorem YM.doVS {Y:Yv} (h:YM Y) (s:ByteArray):YM (d7z Y s).1:=by
 unfold AM.d7z;cases hd:f1n Y s with
 |false=>exact h
 | true =>
   show YM (f7O Y s);unfold f1n at hd;simp only[and_eq_true,decide_eq_true_eq]at hd;obtain⟨a,d,_⟩:=hd;obtain⟨_,_,_,_,_,_,b,_,_,_⟩:=a6s a;have c:=c8a b;have L:=c1q (spF s) Y;refine⟨?_,?_,?_⟩
   ·show a8N (a9i (spF s) Y).2.1;rw[L.boat];exact h.boat
   ·show((a9i (spF s) Y).2.tk).length<=1000;rcases L.tk with e|⟨x,e⟩
    ·rw[e];exact h.tk
    ·rw[e,length_append,List.length_singleton];omega
   ·show(Y.lg++[a1t (spF s)]).length<=1000;rw[length_append,List.length_singleton];omega
def b1S (Y:Yv) (a:List ByteArray):Nat->Yv×List Bool
 |0=>(Y,[])
 |k+1=>((d7z (b1S Y a k).1 (a.getD k (zero Ty.str))).1,(b1S Y a k).2++[(d7z (b1S Y a k).1 (a.getD k (zero Ty.str))).2.1])
theorem b6B (Y:Yv) (a:List ByteArray) (h:YM Y):∀k,YM (b1S Y a k).1
 |0=>h
 |k+1=>(b6B Y a h k).doVS _
theorem b9R (Y:Yv) (a:List ByteArray):∀k,(b1S Y a k).2.length=k
 |0=>rfl
 | k+1=>by
   show((b1S Y a k).2++[_]).length=_;rw[length_append,b9R Y a k];rfl
theorem e8G (v:c0Y):v.1.1.length<d1R v:=by
 unfold d1R;refine Nat.lt_of_le_of_lt ?_ (Nat.lt_add_of_pos_right (by decide))
 repeat (first|exact le_refl _|refine Nat.le_trans ?_ (Nat.le_add_right _ _))
theorem e1D (Y:Yv) (a:List ByteArray) (k:Nat) (i:k<a.length) (l:a.length<=1000) (bs:List Bool) (j:bs.length<=1000) (h:YM Y) (f:c0Y->Option d1Q) :
 c0Z f ((a,(),(),(),(k:Int),()),jn0,bs,flL Y,Y.lg,())=f ((a,(),(),(),((k+1:Nat):Int),()),jn0,bs++[(d7z Y (a.getD k (zero Ty.str))).2.1],flL (d7z Y (a.getD k (zero Ty.str))).1,(d7z Y (a.getD k (zero Ty.str))).1.lg,()):=by
 have b:decide ((k:Int)<(a.length:Int))=true:=by simpa using i
 have c:decide (0<=(k:Int))=true:=by simp
 have e:=e8F Y (a.getD k (zero Ty.str)) h;have⟨k1,g1⟩:=kgP K38 G38 e;have g:a0n (bs.length+1)=true:=a0v (by omega);have d:IntKind.i64.wrap ((k:Int)+1)=((k+1:Nat):Int):=a2H k (by omega);unfold c0Z;show(bif decide ((k:Int)<(a.length:Int))then bif (decide (0<=(k:Int))&&decide ((k:Int)<(a.length:Int)))then bif K38 ((Y,a.getD k (zero Ty.str),()),())then bif a0n (bs.length+1)then
  f ((a,(),(),(),IntKind.i64.wrap ((k:Int)+1),()),jn0,bs++[(G38 ((Y,a.getD k (zero Ty.str),()),())).1.2.1],(G38 ((Y,a.getD k (zero Ty.str),()),())).1.1,(G38 ((Y,a.getD k (zero Ty.str),()),())).2)else none else none else none else _)=_
 rw[b,c,k1,g1,g,d];rfl
def o11 (Y:Yv) (b:List Bool):O11.den:=((flL Y,b,()),Y.lg,())
set_option maxHeartbeats 2000000 in
theorem e8H (Y:Yv) (a:List ByteArray) (h:YM Y) (i:a.length<=1000):F11 ((Y,a,()),())=some (o11 (b1S Y a a.length).1 (b1S Y a a.length).2):=by
 have c:=d7y Y h;have⟨k37,g37⟩:=kgP K37 G37 c;have b:d1S ((a,(),(),(),(0:Int),()),jn0,[],flL Y,Y.lg,())=some (((),(),(),()),jn0,(b1S Y a a.length).2,flL (b1S Y a a.length).1,(b1S Y a a.length).1.lg,()):=by
  refine a1K (q:=c0Z) (fun k=>((a,(),(),(),(k:Int),()),jn0,(b1S Y a k).2,flL (b1S Y a k).1,(b1S Y a k).1.lg,())) a.length _ ?_ ?_ _ ?_
  ·intro k f d;exact e1D (b1S Y a k).1 a k d i (b1S Y a k).2 (by rw[b9R];omega) (b6B Y a h k) f
  ·intro f;have g:decide ((a.length:Int)<(a.length:Int))=false:=by simp
   unfold c0Z;show(bif decide ((a.length:Int)<(a.length:Int))then _ else _)=_;rw[g];rfl
  ·exact e8G ((a,(),(),(),(0:Int),()),jn0,[],flL Y,Y.lg,())
 have d:b9u ((a,(),(),(),(0:Int),()),jn0,[],flL Y,Y.lg,())=true:=by unfold b9u;rw[b];rfl
 have j:b9v ((a,(),(),(),(0:Int),()),jn0,[],flL Y,Y.lg,())=(((),(),(),()),jn0,(b1S Y a a.length).2,flL (b1S Y a a.length).1,(b1S Y a a.length).1.lg,()):=by unfold b9v;rw[b];rfl
 unfold F11;show(bif K37 ((Y,()),())then bif b9u ((a,(),(),(),(0:Int),()),jn0,[],flL (c1p (G37 ((Y,()),()))),(c1p (G37 ((Y,()),()))).lg,())then
  (fun e:d1Q=>(some ((e.2.2.2.1,e.2.2.1,()),e.2.2.2.2):Option O11.den)) (b9v ((a,(),(),(),(0:Int),()),jn0,[],flL (c1p (G37 ((Y,()),()))),(c1p (G37 ((Y,()),()))).lg,()))else none else none)=_
 rw[k37,g37,d7x];dsimp only;rw[d,j];rfl
noncomputable def N66 (p31:KI I31) (Q31:QI I31 O31) (e31:Nonempty (Ch I31 O31 p31 Q31)) (p128:KI a9n) (Q128:QI a9n b1V) (e128:Nonempty (Ch a9n b1V p128 Q128)):a6I:=mkN [(31,a2w true I31 O31 p31 Q31 e31),(128,a2w true a9n b1V p128 Q128 e128)] []
noncomputable def g1b (p31:KI I31) (Q31:QI I31 O31) (e31:Nonempty (Ch I31 O31 p31 Q31)) (p128:KI a9n) (Q128:QI a9n b1V) (e128:Nonempty (Ch a9n b1V p128 Q128)) (h:O66.den->Option Unit) (x:I66.den):Option Unit:=a3u fun(s:Ch I31 O31 p31 Q31)=>bif p31 (((),()),x.2) then let j:=s.val (((),()),x.2);bif K33 (((),60,()),j.2) then let l:=G33 (((),60,()),j.2);bif K34 (((),3000,()),l.2) then let m:=G34 (((),3000,()),l.2);bif K32 ((j.1.1,l.1.1,m.1),()) then bif K35 (((),j.1),m.2) then let g:=G32 ((j.1.1,l.1.1,m.1),());let n:=G35 (((),j.1),m.2);let i:=(((((g.2.1,g.2.2.1,g.2.2.2.1,()),(g.2.2.2.2.1,g.2.2.2.2.2.1,()),g.2.2.2.2.2.2.1,(((g.1.1.2.2.2.2.2.2.1,g.1.1.2.2.2.2.2.2.2.1,()),(g.1.1.2.2.2.2.2.2.2.2.1,g.1.1.2.2.2.2.2.2.2.2.2.1,()),()),g.2.2.2.2.2.2.2.1,((g.1.1.2.2.2.2.2.2.2.2.2.2.2.1,g.1.1.2.2.2.2.2.2.2.2.2.2.2.2.1,()),(g.1.1.2.2.2.2.2.2.2.2.2.2.2.2.2.1,g.1.1.2.2.2.2.2.2.2.2.2.2.2.2.2.2.1,()),()),()),()),g.1.1.2.2.2.2.2.2.2.2.2.2.2.2.2.2.2),n.2.2),());bif K11 i then bif K34 (((),30,()),n.2.1,()) then let e:=G34 (((),30,()),n.2.1,());bif e.1.1==0 then let o:=set (set (set (set (replicate 4 (zero (Ty.int IntKind.i64))) 0 (-1)) 1 0) 2 10000000) 3 10000001;let p:=(((),(),()),e.2.1,o,());bif c8H p then let d:=G11 i;let k:=b5x p;h ((((((d.1.1.1,d.1.1.2.1,d.1.1.2.2.1,()),(d.1.1.2.2.2.1,d.1.1.2.2.2.2.1,()),d.1.1.2.2.2.2.2.1,(((d.1.1.2.2.2.2.2.2.1,d.1.1.2.2.2.2.2.2.2.1,()),(d.1.1.2.2.2.2.2.2.2.2.1,d.1.1.2.2.2.2.2.2.2.2.2.1,()),()),d.1.1.2.2.2.2.2.2.2.2.2.2.1,((d.1.1.2.2.2.2.2.2.2.2.2.2.2.1,d.1.1.2.2.2.2.2.2.2.2.2.2.2.2.1,()),(d.1.1.2.2.2.2.2.2.2.2.2.2.2.2.2.1,d.1.1.2.2.2.2.2.2.2.2.2.2.2.2.2.2.1,()),()),()),()),k.1.1,d.1.1.2.2.2.2.2.2.2.2.2.2.2.2.2.2.2.2.1,d.1.1.2.2.2.2.2.2.2.2.2.2.2.2.2.2.2.2.2.1,d.1.1.2.2.2.2.2.2.2.2.2.2.2.2.2.2.2.2.2.2.1,d.1.1.2.2.2.2.2.2.2.2.2.2.2.2.2.2.2.2.2.2.2.1,d.1.1.2.2.2.2.2.2.2.2.2.2.2.2.2.2.2.2.2.2.2.2.1,d.2),()),k.2.1,()))else none else bif e.1.1==1 then bif f6R (((),()),e.2) then let a:=G11 i;let c:=f6S (((),()),e.2);h ((((((a.1.1.1,a.1.1.2.1,a.1.1.2.2.1,()),(a.1.1.2.2.2.1,a.1.1.2.2.2.2.1,()),a.1.1.2.2.2.2.2.1,(((a.1.1.2.2.2.2.2.2.1,a.1.1.2.2.2.2.2.2.2.1,()),(a.1.1.2.2.2.2.2.2.2.2.1,a.1.1.2.2.2.2.2.2.2.2.2.1,()),()),a.1.1.2.2.2.2.2.2.2.2.2.2.1,((a.1.1.2.2.2.2.2.2.2.2.2.2.2.1,a.1.1.2.2.2.2.2.2.2.2.2.2.2.2.1,()),(a.1.1.2.2.2.2.2.2.2.2.2.2.2.2.2.1,a.1.1.2.2.2.2.2.2.2.2.2.2.2.2.2.2.1,()),()),()),()),a.1.1.2.2.2.2.2.2.2.2.2.2.2.2.2.2.2.1,a.1.1.2.2.2.2.2.2.2.2.2.2.2.2.2.2.2.2.1,c.1.1,a.1.1.2.2.2.2.2.2.2.2.2.2.2.2.2.2.2.2.2.2.1,a.1.1.2.2.2.2.2.2.2.2.2.2.2.2.2.2.2.2.2.2.2.1,a.1.1.2.2.2.2.2.2.2.2.2.2.2.2.2.2.2.2.2.2.2.2.1,a.2),()),c.2))else none else bif e.1.1==2 then let q:=(((),(length j.1.1.2.2.1:Int),()),e.2);bif f6U q then let a:=G11 i;let c:=f0X q;h ((((((a.1.1.1,a.1.1.2.1,a.1.1.2.2.1,()),(a.1.1.2.2.2.1,a.1.1.2.2.2.2.1,()),a.1.1.2.2.2.2.2.1,(((a.1.1.2.2.2.2.2.2.1,a.1.1.2.2.2.2.2.2.2.1,()),(a.1.1.2.2.2.2.2.2.2.2.1,a.1.1.2.2.2.2.2.2.2.2.2.1,()),()),a.1.1.2.2.2.2.2.2.2.2.2.2.1,((a.1.1.2.2.2.2.2.2.2.2.2.2.2.1,a.1.1.2.2.2.2.2.2.2.2.2.2.2.2.1,()),(a.1.1.2.2.2.2.2.2.2.2.2.2.2.2.2.1,a.1.1.2.2.2.2.2.2.2.2.2.2.2.2.2.2.1,()),()),()),()),a.1.1.2.2.2.2.2.2.2.2.2.2.2.2.2.2.2.1,a.1.1.2.2.2.2.2.2.2.2.2.2.2.2.2.2.2.2.1,a.1.1.2.2.2.2.2.2.2.2.2.2.2.2.2.2.2.2.2.1,a.1.1.2.2.2.2.2.2.2.2.2.2.2.2.2.2.2.2.2.2.1,c.1.1,a.1.1.2.2.2.2.2.2.2.2.2.2.2.2.2.2.2.2.2.2.2.2.1,a.2),()),c.2))else none else bif e.1.1==3 then a3u fun(f:Ch a9n b1V p128 Q128)=>bif p128 (((),()),e.2) then let a:=G11 i;let c:=f.val (((),()),e.2);h ((((((a.1.1.1,a.1.1.2.1,a.1.1.2.2.1,()),(a.1.1.2.2.2.1,a.1.1.2.2.2.2.1,()),a.1.1.2.2.2.2.2.1,(((a.1.1.2.2.2.2.2.2.1,a.1.1.2.2.2.2.2.2.2.1,()),(a.1.1.2.2.2.2.2.2.2.2.1,a.1.1.2.2.2.2.2.2.2.2.2.1,()),()),a.1.1.2.2.2.2.2.2.2.2.2.2.1,((a.1.1.2.2.2.2.2.2.2.2.2.2.2.1,a.1.1.2.2.2.2.2.2.2.2.2.2.2.2.1,()),(a.1.1.2.2.2.2.2.2.2.2.2.2.2.2.2.1,a.1.1.2.2.2.2.2.2.2.2.2.2.2.2.2.2.1,()),()),()),()),a.1.1.2.2.2.2.2.2.2.2.2.2.2.2.2.2.2.1,a.1.1.2.2.2.2.2.2.2.2.2.2.2.2.2.2.2.2.1,a.1.1.2.2.2.2.2.2.2.2.2.2.2.2.2.2.2.2.2.1,c.1.1,a.1.1.2.2.2.2.2.2.2.2.2.2.2.2.2.2.2.2.2.2.2.1,a.1.1.2.2.2.2.2.2.2.2.2.2.2.2.2.2.2.2.2.2.2.2.1,a.2),()),c.2))else none else bif e.1.1==4 then bif K33 (((),12000,()),e.2) then let a:=G11 i;let c:=G33 (((),12000,()),e.2);h ((((((a.1.1.1,a.1.1.2.1,a.1.1.2.2.1,()),(a.1.1.2.2.2.1,a.1.1.2.2.2.2.1,()),a.1.1.2.2.2.2.2.1,(((a.1.1.2.2.2.2.2.2.1,a.1.1.2.2.2.2.2.2.2.1,()),(a.1.1.2.2.2.2.2.2.2.2.1,a.1.1.2.2.2.2.2.2.2.2.2.1,()),()),a.1.1.2.2.2.2.2.2.2.2.2.2.1,((a.1.1.2.2.2.2.2.2.2.2.2.2.2.1,a.1.1.2.2.2.2.2.2.2.2.2.2.2.2.1,()),(a.1.1.2.2.2.2.2.2.2.2.2.2.2.2.2.1,a.1.1.2.2.2.2.2.2.2.2.2.2.2.2.2.2.1,()),()),()),()),a.1.1.2.2.2.2.2.2.2.2.2.2.2.2.2.2.2.1,c.1.1,a.1.1.2.2.2.2.2.2.2.2.2.2.2.2.2.2.2.2.2.1,a.1.1.2.2.2.2.2.2.2.2.2.2.2.2.2.2.2.2.2.2.1,a.1.1.2.2.2.2.2.2.2.2.2.2.2.2.2.2.2.2.2.2.2.1,a.1.1.2.2.2.2.2.2.2.2.2.2.2.2.2.2.2.2.2.2.2.2.1,a.2),()),c.2))else none else bif e.1.1==5 then bif f6V (((),()),e.2) then let a:=G11 i;let c:=f1a (((),()),e.2);h ((((((a.1.1.1,a.1.1.2.1,a.1.1.2.2.1,()),(a.1.1.2.2.2.1,a.1.1.2.2.2.2.1,()),a.1.1.2.2.2.2.2.1,(((a.1.1.2.2.2.2.2.2.1,a.1.1.2.2.2.2.2.2.2.1,()),(a.1.1.2.2.2.2.2.2.2.2.1,a.1.1.2.2.2.2.2.2.2.2.2.1,()),()),a.1.1.2.2.2.2.2.2.2.2.2.2.1,((a.1.1.2.2.2.2.2.2.2.2.2.2.2.1,a.1.1.2.2.2.2.2.2.2.2.2.2.2.2.1,()),(a.1.1.2.2.2.2.2.2.2.2.2.2.2.2.2.1,a.1.1.2.2.2.2.2.2.2.2.2.2.2.2.2.2.1,()),()),()),()),a.1.1.2.2.2.2.2.2.2.2.2.2.2.2.2.2.2.1,a.1.1.2.2.2.2.2.2.2.2.2.2.2.2.2.2.2.2.1,a.1.1.2.2.2.2.2.2.2.2.2.2.2.2.2.2.2.2.2.1,a.1.1.2.2.2.2.2.2.2.2.2.2.2.2.2.2.2.2.2.2.1,a.1.1.2.2.2.2.2.2.2.2.2.2.2.2.2.2.2.2.2.2.2.1,c.2.2.1,a.2),()),c.2.1,()))else none else bif e.1.1==6 then let b:=G11 i;let r:=(((),(),(),()),e.2.1,((),(),(),(),(),(),0,0,0,0,(),0,0,0,0,0,(0,0),0,(0,0),0,(),(),()),(b.1.1.1,b.1.1.2.1,b.1.1.2.2.1,b.1.1.2.2.2.1,b.1.1.2.2.2.2.1,b.1.1.2.2.2.2.2.1,b.1.1.2.2.2.2.2.2.1,b.1.1.2.2.2.2.2.2.2.1,b.1.1.2.2.2.2.2.2.2.2.1,b.1.1.2.2.2.2.2.2.2.2.2.1,b.1.1.2.2.2.2.2.2.2.2.2.2.1,b.1.1.2.2.2.2.2.2.2.2.2.2.2.1,b.1.1.2.2.2.2.2.2.2.2.2.2.2.2.1,b.1.1.2.2.2.2.2.2.2.2.2.2.2.2.2.1,b.1.1.2.2.2.2.2.2.2.2.2.2.2.2.2.2.1,b.1.1.2.2.2.2.2.2.2.2.2.2.2.2.2.2.2.1,b.1.1.2.2.2.2.2.2.2.2.2.2.2.2.2.2.2.2.1,b.1.1.2.2.2.2.2.2.2.2.2.2.2.2.2.2.2.2.2.1,b.1.1.2.2.2.2.2.2.2.2.2.2.2.2.2.2.2.2.2.2.1,b.1.1.2.2.2.2.2.2.2.2.2.2.2.2.2.2.2.2.2.2.2.1,b.1.1.2.2.2.2.2.2.2.2.2.2.2.2.2.2.2.2.2.2.2.2.1,(),()),b.2);bif b6s r then let c:=a5z r;h ((((((c.2.2.2.1.1,c.2.2.2.1.2.1,c.2.2.2.1.2.2.1,()),(c.2.2.2.1.2.2.2.1,c.2.2.2.1.2.2.2.2.1,()),c.2.2.2.1.2.2.2.2.2.1,(((c.2.2.2.1.2.2.2.2.2.2.1,c.2.2.2.1.2.2.2.2.2.2.2.1,()),(c.2.2.2.1.2.2.2.2.2.2.2.2.1,c.2.2.2.1.2.2.2.2.2.2.2.2.2.1,()),()),c.2.2.2.1.2.2.2.2.2.2.2.2.2.2.1,((c.2.2.2.1.2.2.2.2.2.2.2.2.2.2.2.1,c.2.2.2.1.2.2.2.2.2.2.2.2.2.2.2.2.1,()),(c.2.2.2.1.2.2.2.2.2.2.2.2.2.2.2.2.2.1,c.2.2.2.1.2.2.2.2.2.2.2.2.2.2.2.2.2.2.1,()),()),()),()),c.2.2.2.1.2.2.2.2.2.2.2.2.2.2.2.2.2.2.2.1,c.2.2.2.1.2.2.2.2.2.2.2.2.2.2.2.2.2.2.2.2.1,c.2.2.2.1.2.2.2.2.2.2.2.2.2.2.2.2.2.2.2.2.2.1,c.2.2.2.1.2.2.2.2.2.2.2.2.2.2.2.2.2.2.2.2.2.2.1,c.2.2.2.1.2.2.2.2.2.2.2.2.2.2.2.2.2.2.2.2.2.2.2.1,c.2.2.2.1.2.2.2.2.2.2.2.2.2.2.2.2.2.2.2.2.2.2.2.2.1,c.2.2.2.2),()),c.2.1,()))else none else let b:=G11 i;h ((((((b.1.1.1,b.1.1.2.1,b.1.1.2.2.1,()),(b.1.1.2.2.2.1,b.1.1.2.2.2.2.1,()),b.1.1.2.2.2.2.2.1,(((b.1.1.2.2.2.2.2.2.1,b.1.1.2.2.2.2.2.2.2.1,()),(b.1.1.2.2.2.2.2.2.2.2.1,b.1.1.2.2.2.2.2.2.2.2.2.1,()),()),b.1.1.2.2.2.2.2.2.2.2.2.2.1,((b.1.1.2.2.2.2.2.2.2.2.2.2.2.1,b.1.1.2.2.2.2.2.2.2.2.2.2.2.2.1,()),(b.1.1.2.2.2.2.2.2.2.2.2.2.2.2.2.1,b.1.1.2.2.2.2.2.2.2.2.2.2.2.2.2.2.1,()),()),()),()),b.1.1.2.2.2.2.2.2.2.2.2.2.2.2.2.2.2.1,b.1.1.2.2.2.2.2.2.2.2.2.2.2.2.2.2.2.2.1,b.1.1.2.2.2.2.2.2.2.2.2.2.2.2.2.2.2.2.2.1,b.1.1.2.2.2.2.2.2.2.2.2.2.2.2.2.2.2.2.2.2.1,b.1.1.2.2.2.2.2.2.2.2.2.2.2.2.2.2.2.2.2.2.2.1,b.1.1.2.2.2.2.2.2.2.2.2.2.2.2.2.2.2.2.2.2.2.2.1,b.2),()),e.2))else none else none else none else none else none else none else none
theorem f7P (p31 Q31 e31 p128 Q128 e128 h x) :a4i (f1e) (N66 p31 Q31 e31 p128 Q128 e128) (a0N Tryz.f66) I66 O66 h x=g1b p31 Q31 e31 p128 Q128 e128 h x:=by kernel_rfl
theorem c8z:YM e8c:=by
 refine⟨⟨⟨?_,?_,?_,?_⟩,⟨?_,?_⟩,⟨?_,?_⟩,?_⟩,?_,?_⟩<;>first|exact zero_le _|(intro r a;cases a)
theorem d2B (v:a9e) (h:a0a v.2.1) (k:v.2.2.2.2.1.length<=1000):Pst (a9f v) fun y=>a0a y.2.1 /\ y.2.2.2.1=v.2.2.2.1 /\ y.2.2.2.2.1.length<=1000:=by
 refine a0C (q:=b9K) (fun u=>a0a u.2.1 /\ u.2.2.2.1=v.2.2.2.1 /\ u.2.2.2.2.1.length<=1000)
  (fun _ r=>Pst r fun y=>a0a y.2.1 /\ y.2.2.2.1=v.2.2.2.1 /\ y.2.2.2.2.1.length<=1000) (fun u=>302-u.2.2.2.2.1.length) ?_ _ _ ⟨h,rfl,k⟩ ?_
 ·rintro⟨_,c,j,z,l,_⟩ f ⟨g0,g1,g2⟩ ih;dsimp only at g0 g1 g2 ih;have i:=a0O 2 c g0 (by decide);have e:a0a (G34 (((),2,()),c,())).2.1:=a0D _ g0;have b:∀d:Int,0<=d /\ d<2->(l.length:Int)<IntKind.i64.wrap (300+d)->l.length<302:=fun d hd hh=>by rw[w64 (by omega) (by omega)]at hh;omega
  unfold b9K;dsimp only;refine a0d (a0k _ g0) (a0V (fun a=>?_) (fun _=>a0h ⟨e,g1,g2⟩));have g:=b _ i (of_decide_eq_true a);refine a0d (a0v (by simp only[length_set,length_replicate];omega)) (ih _ ⟨e,g1,?_⟩ ?_)
  ·show(l++set _ _ _).length<=1000;simp only[length_append,length_set,length_replicate];omega
  ·show 302-(l++set _ _ _).length<302-l.length;simp only[length_append,length_set,length_replicate];omega
 ·unfold c8e;refine Nat.lt_of_lt_of_le (show 302-v.2.2.2.2.1.length<1000 by omega) (Nat.le_add_left _ _)
def p66 (x:I66.den):Bool:=c8I x.2.1
def Q66 (x:I66.den) (y:O66.den):Prop:=a0a y.2.1 /\ YM y.1.1
theorem e66:Nonempty (Ch I66 O66 p66 Q66):=⟨⟨fun _=>((e8c,()),(d0Z,())),fun _ _=>⟨a4A,c8z⟩⟩⟩
def bkL (c:(List (Den (.flt .f32)))×(List (Den (.int .i64)))×(List (Den (.slice (.flt .f32))))×(List (Den (a1B)))×(List (Den (.int .i64)))×(List (Den (S68)))×Int×Int×Int×Int×(List (Den (a2I)))×Int×Int×Int×Int×Int×(Nat×Nat)×Int×(Nat×Nat)×Int×(List (Den (S97)))×Unit×Unit) (l:List ByteArray):Yv:=(((c.1,c.2.1,c.2.2.1,()),(c.2.2.2.1,c.2.2.2.2.1,()),c.2.2.2.2.2.1,(((c.2.2.2.2.2.2.1,c.2.2.2.2.2.2.2.1,()),(c.2.2.2.2.2.2.2.2.1,c.2.2.2.2.2.2.2.2.2.1,()),()),c.2.2.2.2.2.2.2.2.2.2.1,((c.2.2.2.2.2.2.2.2.2.2.2.1,c.2.2.2.2.2.2.2.2.2.2.2.2.1,()),(c.2.2.2.2.2.2.2.2.2.2.2.2.2.1,c.2.2.2.2.2.2.2.2.2.2.2.2.2.2.1,()),()),()),()),c.2.2.2.2.2.2.2.2.2.2.2.2.2.2.2.1,c.2.2.2.2.2.2.2.2.2.2.2.2.2.2.2.2.1,c.2.2.2.2.2.2.2.2.2.2.2.2.2.2.2.2.2.1,c.2.2.2.2.2.2.2.2.2.2.2.2.2.2.2.2.2.2.1,c.2.2.2.2.2.2.2.2.2.2.2.2.2.2.2.2.2.2.2.1,c.2.2.2.2.2.2.2.2.2.2.2.2.2.2.2.2.2.2.2.2.1,l,())
set_option maxHeartbeats 2000000 in
theorem f7Q:a1T Tryz.prog 66 (a2w true I66 O66 p66 Q66 e66):=a9P f7l (N:=N66 p31 Q31 e31 p128 Q128 e128) (a4h ⟨f5V,d6b,trivial⟩) g2T a1L fun x U k d=>by
 have d:∀y:O66.den,a0a y.2.1->YM y.1.1->k y=some ():=fun y a b=>d y ⟨a,b⟩
 have h:a0a x.2.1:=a0W.1 U;refine Eq.trans (f7P _ _ _ _ _ _ k x) ?_;unfold g1b;dsimp only
 haveI:=e31
 refine a0t fun g=>?_
 have m:p31 (((),()),x.snd)=true:=a0W.2 h;obtain⟨q1,H⟩:=g.2 _ m;refine a0p m ?_;generalize g.val (((),()),x.snd)=A at *;refine a0p (c5R _ q1) ?_;have I:a0a (G33 (((),60,()),A.snd)).2.1:=G33_cur _ q1;generalize G33 (((),60,()),A.snd)=B at *;refine a0p (a0k _ I) ?_;have J:a0a (G34 (((),3000,()),B.snd)).2.1:=a0D _ I;generalize G34 (((),3000,()),B.snd)=C at *;obtain⟨o,L,T,_⟩:=e8d A.fst.fst B.fst.fst C.fst.1 H;have G:K32 ((A.fst.fst,B.fst.fst,C.fst),())=true:=by
  show(F32 ((A.fst.fst,B.fst.fst,C.fst.1,()),())).isSome=true;rw[L];rfl
 have z:G32 ((A.fst.fst,B.fst.fst,C.fst),())=o:=by
  show(F32 ((A.fst.fst,B.fst.fst,C.fst.1,()),())).getD _=o;rw[L];rfl
 refine a0p G ?_;have r:a0E A.fst.fst.2.2.1 /\ A.fst.fst.2.2.1.length<=13:=H.2.2.1;refine a0p (e6G (((),A.fst),C.snd) J r.1 r.2) ?_;obtain⟨K,W⟩:=e6H (((),A.fst),C.snd) J r.1 r.2;generalize G35 (((),A.fst),C.snd)=D at *;rw[z];have M:YM (yO o):=by rw[T];exact e0T _ _ _ H
 have i:F11 ((yO o,D.snd.snd),())=_:=e8H (yO o) D.snd.snd.fst M (Nat.le_trans W.1 (by decide));obtain⟨Z,bs,e,F,f⟩:∃(Z:Yv) (bs:List Bool),YM Z /\ K11 ((yO o,D.snd.snd),())=true /\ G11 ((yO o,D.snd.snd),())=o11 Z bs:=
  ⟨_,_,b6B (yO o) D.snd.snd.fst M D.snd.snd.fst.length,by unfold K11;rw[i];rfl,by unfold G11;rw[i];rfl⟩
 clear i;refine a0p F ?_;unfold yO at f;rw[f];clear f;have j:∀(t:Int) (p:Nat×Nat) (hd:Int) (w:Nat×Nat) (s:Int),YM (Z.1,t,p,hd,w,s,Z.tk,Z.lg,()):=fun _ _ _ _ _=>⟨e.boat,e.tk,e.lg⟩
 refine a0p (a0k _ K) ?_;have c:a0a (G34 (((),30,()),D.snd.fst,())).2.1:=a0D _ K;generalize G34 (((),30,()),D.snd.fst,())=E at *;refine a1m (fun _=>a0p (a4z _ c (by simp)) (d _ (a3m _ c (by simp)) (j _ _ _ _ _))) (fun _=>?_);refine a1m (fun _=>a0p (d7v _ c).1 (d _ (d7v _ c).2 (j _ _ _ _ _))) (fun _=>?_);refine a1m (fun _=>a0p (c8r _ c).1 (d _ (c8r _ c).2 (j _ _ _ _ _))) (fun _=>?_);refine a1m (fun _=>?_) (fun _=>?_)
 ·haveI:=e128
  refine a0t fun g=>?_
  have m:p128 (((),()),E.snd)=true:=a0W.2 c;exact a0p m (d _ (g.2 _ m) (j _ _ _ _ _))
 refine a1m (fun _=>a0p (c5R _ c) (d _ (G33_cur _ c) (j _ _ _ _ _))) (fun _=>?_);refine a1m (fun _=>?_) (fun _=>?_)
 ·obtain⟨S,V⟩:=e1d (((),()),E.snd) c;exact a0p (e1c _ c) (d _ S ⟨e.boat,Nat.le_trans V (by decide),e.lg⟩)
 refine a1m (fun _=>?_) (fun _=>d _ c (j _ _ _ _ _));have n:∀v:a9e,v.2.1=E.2.1 /\ v.2.2.2.1=flL Z /\ v.2.2.2.2.1=Z.lg->b6s v=true /\ a0a (a5z v).2.1 /\ (a5z v).2.2.2.1=flL Z /\ (a5z v).2.2.2.2.1.length<=1000:=by
  rintro v ⟨a1,a2,O⟩;obtain⟨y,u,X,Y,r3⟩:=d2B v (by rw[a1];exact c) (by rw[O];exact e.lg);exact⟨by unfold b6s;rw[u];rfl,by show a0a ((a9f v).getD _).2.1;rw[u];exact X,by show((a9f v).getD _).2.2.2.1=_;rw[u];exact Y.trans a2,by show((a9f v).getD _).2.2.2.2.1.length<=1000;rw[u];exact r3⟩
 have y1:∀l:List ByteArray,l.length<=1000->YM (bkL (flL Z) l):=fun l h=>⟨e.boat,e.tk,h⟩
 have q:∀v:a9e,v.2.1=E.2.1 /\ v.2.2.2.1=flL Z /\ v.2.2.2.2.1=Z.lg->k ((bkL (a5z v).2.2.2.1 (a5z v).2.2.2.2.1,()),(a5z v).2.1,())=some ():=by
  intro v a;obtain⟨_,P,Q,R⟩:=n v a;exact d _ P (by rw[Q];exact y1 _ R)
 refine a0p ?_ ?_
 ·apply fun v a=>(n v a).1
  exact⟨rfl,rfl,rfl⟩
 ·apply q;exact⟨rfl,rfl,rfl⟩
theorem f7R (x:Den f6o):c1y x=true:=by
 unfold c1y d6F;cases decide (x.2.2.1<x.2.1)<;>cases decide (x.1<x.2.1)<;>cases decide (x.1>x.2.2.1)<;>rfl
theorem c1r (x:e7z.den) (h:a0a x.2.1):Pst (e2y x) fun y=>a0a y.2.1:=by
 unfold e2y;dsimp only;refine a0d (a1j _ cu) ?_;refine a0V (fun _=>?_) (fun _=>?_)
 ·have j:∀a b c d e:Int,0<(((((replicate 5 (zero (Ty.int IntKind.i64))).set 0 a).set 1 b).set 2 c).set 3 d |>.set 4 e).length:=by intros;simp only[length_set,length_replicate];decide
  have f:a0a (G77 (((),15,()),x.snd)).snd.fst:=cu;have k:=fun l (h:0<l.length)=>a4z (((),(),()),(G77 (((),15,()),x.snd)).snd.fst,l,()) f h
  have g:=fun l (h:0<l.length)=>a3m (((),(),()),(G77 (((),15,()),x.snd)).snd.fst,l,()) f h
  have i:=j (-1) x.fst.snd.fst (wrap IntKind.i64 (x.fst.snd.fst+1)) 9223372036854775807 (-9223372036854775808);generalize (((((replicate 5 (zero (Ty.int IntKind.i64))).set 0 (-1)).set 1 x.fst.snd.fst).set 2 (wrap IntKind.i64 (x.fst.snd.fst+1))).set 3 9223372036854775807).set 4 (-9223372036854775808)=l at *;refine a0d (k l i) ?_;exact a0h (g l i)
 ·refine a0d (a0k _ cu) ?_;exact a0h cu
theorem G127_cur (x:e7z.den) (h:a0a x.2.1):a0a (f0X x).2.1:=a1I _ (c1r x h)
theorem b4G (v:a9g) (h:a0a v.2.1) (b:0<=v.1.2.2.2.2.2.1) (d:v.1.2.2.2.2.2.1<=60) (g:(v.2.2.2.1.length:Int)<=v.1.2.2.2.2.2.1) (j:v.2.2.1.2.2.2.2.1.length<=22):Pst (b9M v) fun y=>a0a y.2.1 /\ y.2.2.1.length<=300:=by
 refine a0C (q:=b9L) (fun v=>a0a v.2.1 /\ 0<=v.1.2.2.2.2.2.1 /\ v.1.2.2.2.2.2.1<=60 /\ (v.2.2.2.1.length:Int)<=v.1.2.2.2.2.2.1 /\ v.2.2.1.2.2.2.2.1.length<=22) (fun _ r=>Pst r fun y=>a0a y.2.1 /\ y.2.2.1.length<=300)
  (fun v=>60-v.1.2.2.2.2.2.1.toNat) ?_ _ _ ⟨h,b,d,g,j⟩ (Nat.lt_of_lt_of_le (m:=1000) (by omega) (Nat.le_add_left _ _))
 clear h b d g j v;rintro⟨⟨_,_,_,w,_,i,_⟩,c,⟨q1,q2,q3,q4,l,q5,q6,q7,q8,_⟩,t,p,_⟩ f ⟨g0,g1,g2,g3,g4⟩ ih;simp only at g0 g1 g2 g3 g4 ih;have fin:∀{z},z=t->Pst (some (((),()),((c.1,(c.2.1,(c.2.2.1,()))),(z,()))):Option c8l) fun y=>a0a y.2.1 /\ y.2.2.1.length<=300:=fun e=>a0h ⟨g0,by rw[e];show t.length<=300;omega⟩
 unfold b9L;dsimp only;refine a0V (fun _=>?_) (fun _=>fin rfl);by_cases k:i<60
 ·refine a0d (by simpa using k) ?_;refine a0d ?_ ?_
  ·refine a0v ?_;simp only[length_set,length_replicate];omega
  refine a0d (a0k _ cu) ?_;have e:IntKind.i64.wrap (i+1)=i+1:=w64 (by omega) (by omega);have n:0<=IntKind.i64.wrap (Int.tdiv i 5):=by
   rw[Int.tdiv_eq_ediv_of_nonneg g1,w64 (by omega) (by omega)];omega
  generalize IntKind.i64.wrap (Int.tdiv i 5)=v4 at *;by_cases a:v4<(l.length:Int)
  ·refine a0d (by simpa using a) ?_;refine a0d (e6u _ _ n (by show v4<=(l.length:Int);omega) (by show l.length<=1000;omega)) ?_;have a1:(decide (0<=v4)&&decide (v4<(l.length:Int)))=true:=by simp[n,a]
   refine a0d a1 ?_;refine a0d a1 ?_
   (repeat' (with_reducible first|refine a0d (a0k _ cu) ?_|refine a0d (a1j _ cu) ?_|refine a0d (a6Q _ cu) ?_|refine a0d (f7R _) ?_|refine a0V (fun _=>?_) (fun _=>?_)))<;>(refine ih _ ⟨cu,?_,?_,?_,g4⟩ ?_<;>simp only[e,length_append,length_set,length_replicate]<;>omega)
  ·have:decide (v4<(l.length:Int))=false:=by simpa using a
   rw[this];simp only[cond_false];refine a0d (a6Q _ cu) ?_;refine ih _ ⟨cu,?_,?_,?_,g4⟩ ?_<;>simp only[e,length_append,length_set,length_replicate]<;>omega
 ·have:decide (i<60)=false:=by simpa using k
  rw[this];exact fin rfl
theorem b9S (x:e8q.den) (h:a0a x.2.1) (e:x.1.2.1.2.1.length<=22):Pst (f1k x) fun y=>a0a y.2.1 /\ y.2.2.1.length<=300:=by
 unfold f1k;dsimp only;refine a0d (a0k _ cu) ?_;refine a0d (a6Q _ cu) ?_;have g:=fun(v:a9g) h a b c d=>(a1H (b4G v h a b c d):c8m v=true)
 have f:=fun(v:a9g) h a b c d=>(a1I _ (b4G v h a b c d):a0a (b6t v).2.1 /\ (b6t v).2.2.1.length<=300)
 refine a0d (g _ cu (by simp) (by simp) (by simp) e) ?_;exact a0h (f _ cu (by simp) (by simp) (by simp) e)
theorem e1E (x:e8q.den) (h:a0a x.2.1) (a:x.1.2.1.2.1.length<=22):f7y x=true:=a1H (b9S x h a)
theorem e1F (x:e8q.den) (h:a0a x.2.1) (a:x.1.2.1.2.1.length<=22):a0a (f1l x).2.1 /\ (f1l x).2.2.1.length<=300:=a1I _ (b9S x h a)
end Go.Proofs.YtjomnmoekchfeaaGreatDoor.AM
