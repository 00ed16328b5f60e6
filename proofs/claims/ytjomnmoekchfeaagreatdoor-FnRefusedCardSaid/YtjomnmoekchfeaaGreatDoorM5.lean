/- Texts of one proof, joined: an abstract machine for the program, its functions evaluated, plain lemmas. Conditions: those that each lemma names. -/
import Derived.Test.YtjomnmoekchfeaaGreatDoorM4
import Derived.Test.YtjomnmoekchfeaaGreatDoorM3
set_option linter.unusedVariables false
set_option linter.unusedSimpArgs false
namespace Go.Proofs.YtjomnmoekchfeaaGreatDoor.AM
open IntKind (wrap)
open List (length replicate getD set length_append length_replicate length_set)
open Int (toNat toNat_natCast)
open Option (getD_some isSome_some)
open Bool (and_eq_true)
open FloatKind (nearest)
open Nat (le_refl zero_le)
open Go Go.Proofs
set_option exponentiation.threshold 2000
def TT:Nat:=2^1074
theorem e0c:0<TT:=Nat.two_pow_pos _
def b0W (b:Nat) (v:Int):Prop:=∃(s:Bool) (m c:Nat),Ieee.double.read b = .number s m ((c:Int)-1074) /\ m<2^53 /\ VU s m c=v*(TT:Int)
theorem e0d (s:Bool) (m c:Nat):(VU s m c).natAbs=m*2^c:=by
 unfold VU;cases s
 ·rfl
 ·rw[if_pos rfl,Int.natAbs_neg];rfl
theorem b4W {b:Nat} {s:Bool} {m:Nat} {p:Int} (h:Ieee.double.read b = .number s m p):m<2^53:=by
 unfold Ieee.Format.read at h;dsimp only at h;rw[b7g,b7f]at h;split at h
 ·injection h with h1 h2 h3;omega
 ·split at h
  ·injection h with h1 h2 h3
   have:=Nat.mod_lt (b%Ieee.double.signWeight) (show 2^52>0 by decide);omega
  ·split at h<;>cases h
theorem b7l (neg:Bool) (p:Int):b0W (Ieee.double.nearest neg 0 p) 0:=by
 obtain⟨m',c',h6,h7⟩:=a5p neg 0 0 (by decide) (.inl ⟨rfl,by decide⟩);refine⟨neg,m',c',?_,b4W h6,?_⟩
 ·unfold Ieee.Format.nearest;rw[if_pos rfl];rw[Nat.zero_mul]at h6;exact h6
 ·rw[Nat.zero_mul]at h7;rw[Int.zero_mul];have:=e0d neg m' c';rw[h7]at this;omega
theorem b7m (neg:Bool) (M c v:Nat) (h0:0<M) (h:M*2^c=v*TT) (hv:v<2^53):b0W (Ieee.double.nearest neg M ((c:Int)-1074)) (if neg then -(v:Int)else v):=by
 obtain⟨K,e,h1,h2,h3,h4⟩:=d4o neg M c v h0 h hv;obtain⟨m,c',h5,h6⟩:=a5p neg K e h2 h3;refine⟨neg,m,c',by rw[h1];exact h5,b4W h5,?_⟩;unfold VU;rw[h6,h4,h];cases neg
 ·simp
 ·simp[Int.neg_mul]
theorem c2L (neg:Bool) (M c:Nat) (w:Int) (h:VU neg M c=w*(TT:Int)) (hw:w.natAbs<2^53):b0W (Ieee.double.nearest neg M ((c:Int)-1074)) w:=by
 have ha:=e0d neg M c;rw[h,Int.natAbs_mul,Int.natAbs_natCast]at ha;by_cases h0:M=0
 ·subst h0;have:w.natAbs=0:=by
   rw[Nat.zero_mul]at ha;rcases Nat.mul_eq_zero.1 ha with h|h
   ·exact h
   ·exact absurd h (Nat.ne_of_gt e0c)
  have:w=0:=by omega
  rw[this];exact b7l _ _
 ·have:=b7m neg M c w.natAbs (by omega) ha.symm hw;have e:(if neg then -(w.natAbs:Int)else(w.natAbs:Int))=w:=by
   unfold VU at h;have hT:(0:Int)<(TT:Int):=Int.natCast_pos.2 e0c;have hM:(0:Int)<=((M*2^c:Nat):Int):=Int.natCast_nonneg _;cases neg
   ·simp only[Bool.false_eq_true,if_false]at h ⊢;have:0<=w:=by
     by_cases hn:0<=w
     ·exact hn
     ·have:=Int.mul_neg_of_neg_of_pos (show w<0 by omega) hT;omega
    omega
   ·simp only[if_true]at h ⊢;have:w<=0:=by
     by_cases hn:w<=0
     ·exact hn
     ·have:=Int.mul_pos (show 0<w by omega) hT;omega
    omega
  rw[e]at this;exact this
theorem c9F (n:Int) (h:n.natAbs<2^53):b0W (nearest .f64 n) n:=by
 show b0W (Ieee.double.nearest (decide (n<0)) n.natAbs 0) n;have:(0:Int)=((1074:Nat):Int)-1074:=by decide
 rw[this];refine c2L _ _ _ _ ?_ h;unfold VU;show(if decide (n<0)=true then -((n.natAbs*TT:Nat):Int)else((n.natAbs*TT:Nat):Int))=_;rw[Int.natCast_mul];by_cases hn:n<0
 ·rw[if_pos (by simpa using hn),<- Int.neg_mul];congr 1;omega
 ·rw[if_neg (by simpa using hn)];congr 1;omega
theorem f3s {z:Nat} (h1:fge z 0=true) (h2:fle z 1120403456=true):∃s m e,Ieee.single.read z = .number s m e:=by
 unfold fge fle flt feq fgt at *;have o1:FloatKind.f32.format.order z 1120403456=(Ieee.single.read z).order (Ieee.single.read 1120403456):=rfl;have r1:∃s m e,Ieee.single.read 1120403456 = .number s m e:=⟨false,13107200,-17,by decide +kernel⟩;have o2:FloatKind.f32.format.order z 0=(Ieee.single.read z).order (Ieee.single.read 0):=rfl;have r2:∃s m e,Ieee.single.read 0 = .number s m e:=⟨false,0,-149,by decide +kernel⟩;obtain⟨s,m,e,hr⟩:=r1;obtain⟨s2,m2,e2,hr2⟩:=r2;rw[o1,hr]at h2;rw[o2,hr2]at h1;cases hz:Ieee.single.read z with
 |number a b c=>exact⟨a,b,c,rfl⟩
 |nan a b=>rw[hz]at h2;simp[Ieee.Datum.order]at h2
 | infinity a =>
   rw[hz]at h1 h2;cases a<;>simp[Ieee.Datum.order]at h1 h2
theorem e4a {x:Nat} (h:fgt .f32 x 0=true):fge x 0=true:=by unfold fge;rw[h];rfl
theorem d4t {x y:Nat} (hx:∃s m e,Ieee.single.read x = .number s m e) (hy:∃s m e,Ieee.single.read y = .number s m e) :
 ∃c:Ordering,FloatKind.f32.format.order x y=some c /\ FloatKind.f32.format.order y x=some c.swap:=by
 obtain⟨s,m,e,h1⟩:=hx;obtain⟨t,n,f,h2⟩:=hy;refine⟨_,by show(Ieee.single.read x).order (Ieee.single.read y)=_;rw[h1,h2];rfl,?_⟩;show(Ieee.single.read y).order (Ieee.single.read x)=_;rw[h1,h2];unfold Ieee.Datum.order;dsimp only;have hm:min f e=min e f:=by omega
 rw[hm];congr 1;rw[Int.compare_swap]
theorem c9G {x y:Nat} (hx:∃s m e,Ieee.single.read x = .number s m e) (hy:∃s m e,Ieee.single.read y = .number s m e):fge x y=fle y x /\ (fle x y=false->fge x y=true):=by
 obtain⟨c,h1,h2⟩:=d4t hx hy;unfold fge fle fgt flt feq;rw[h1,h2];cases c<;>exact⟨rfl,fun h=>by first|rfl|cases h⟩
structure POK (p:a6O):Prop where
 w1:1<=p.1.length
 w2:p.1.length<=12
 a1:2<=p.2.1.length
 a2:p.2.1.length<=24
 s:p.2.2.1.length=p.1.length
 wind:∀i,i<p.1.length->a3A p i=true
 ang:∀i,i<p.2.1.length->c3s p i=true
 first:aAt p 0=0
 last:aAt p (p.2.1.length-1)=180
 row:∀i,i<p.1.length->(rAt p i).length=p.2.1.length /\ a7N (rAt p i)=true
theorem pok {p:a6O} (h:a2O p=true):POK p:=by
 unfold a2O at h;simp only[and_eq_true,a0n,decide_eq_true_eq,beq_iff_eq]at h;obtain⟨⟨h1,h2⟩,⟨h3,h4⟩,h5,h6,h7,h8,h9,h10⟩:=h;refine⟨by omega,by omega,by omega,by omega,h5,fun i hi=>a0t.1 h6 i (zero_le _) (by omega),fun i hi=>a0t.1 h7 i (zero_le _) (by omega),h8,h9,fun i hi=>?_⟩;have:=a0t.1 h10 i (zero_le _) (by omega);unfold d1b at this;simpa only [and_eq_true,decide_eq_true_eq]using this
def g4G (s t q:Nat):Nat:=a0a .add .f32 s (a0a .mul .f32 (a0a .sub .f32 t s) q)
def f3t (p:a6O) (row:List Nat) (angle:Int) (j:Nat):Nat:=bif aAt p j==angle then row.getD j 0 else
 g4G (row.getD (j-1) 0) (row.getD j 0) (a0a .quo .f32 (nearest .f32 (IntKind.i64.wrap (angle-aAt p (j-1)))) (nearest .f32 (IntKind.i64.wrap (aAt p j-aAt p (j-1)))))
def idx (p:a6O) (angle:Int):Nat:=(a0s (fun j=>decide (angle<=aAt p j)) 0 p.2.1.length).getD 0
def b7n (p:a6O) (row:List Nat) (angle:Int):Nat:=f3t p row angle (idx p angle)
theorem e0e {p:a6O} (h:POK p) {angle:Int} (h2:angle<=180):a0s (fun j=>decide (angle<=aAt p j)) 0 p.2.1.length=some (idx p angle) /\ idx p angle<p.2.1.length /\ angle<=aAt p (idx p angle) /\ ∀i,i<idx p angle->aAt p i<angle:=by
 unfold idx;cases hf:a0s (fun j=>decide (angle<=aAt p j)) 0 p.2.1.length with
 | none =>
   exfalso;have:=a2c.1 hf (p.2.1.length-1) (zero_le _) (by have:=h.a1;omega);simp only[decide_eq_false_iff_not]at this;have hl:=h.last;omega
 | some j =>
   obtain⟨_,h3,h4,h5⟩:=a1I hf;refine⟨rfl,by simpa using h3,by simpa using h4,fun i hi=>?_⟩;have:=h5 i (zero_le _) hi;simp only[decide_eq_false_iff_not]at this;omega
theorem b2q {p:a6O} (h:POK p) (row:List Nat) (angle:Int) (hr:row.length=p.2.1.length) (h1:0<=angle) (h2:angle<=180):d8o (p,row,angle,())=some (b7n p row angle,()):=by
 have ha1:=h.a1;have ha2:=h.a2;have h0:=h.first
 have hl:b0I ((row,angle,(),p.2.1,(p.2.1.length:Int),(0:Int),()),(p,()))=some (match a0s (fun j=>decide (angle<=aAt p j)) 0 p.2.1.length with|some j => .inr ((f3t p row angle j,()),())|none => .inl ((),())):=by
  refine(a4b (q:=b4l) (fun k=>((row,angle,(),p.2.1,(p.2.1.length:Int),(k:Int),()),(p,()))) p.2.1.length (fun j=>decide (angle<=aAt p j)) (.inl ((),())) (fun j => .inr ((f3t p row angle j,()),())) ?_ ?_ (b9z ((row,angle,(),p.2.1,(p.2.1.length:Int),(0:Int),()),(p,()))) ?_:_)
  ·intro k f hk;unfold b4l f3t;have e1:decide ((k:Int)<(p.2.1.length:Int))=true:=by simpa using hk
   have e2:decide (0<=(k:Int))=true:=by simp
   have e1':decide ((k:Int)<(row.length:Int))=true:=by simp;omega
   have ha:getD p.2.1 k (zero (Ty.int IntKind.i64))=aAt p k:=rfl;have hb:getD row k (zero (Ty.flt FloatKind.f32))=row.getD k 0:=rfl;simp only[a2h k (by omega),e1,e1',e2,Bool.and_self,cond_true,toNat_natCast,ha,hb];cases c:(aAt p k==angle)
   ·simp only[cond_false];have hne:aAt p k≠angle:=by simpa using c
    by_cases hgt:aAt p k>angle
    ·have hk0:0<k:=by
      rcases Nat.eq_zero_or_pos k with h3|h3
      ·rw[h3]at hgt;omega
      ·exact h3
     have e3:decide (aAt p k>angle)=true:=by simpa using hgt
     have e4:decide (0<=((k-1:Nat):Int))=true:=by simp
     have e5:decide (((k-1:Nat):Int)<(p.2.1.length:Int))=true:=by simp;omega
     have e6:decide (((k-1:Nat):Int)<(row.length:Int))=true:=by simp;omega
     have e7:decide (angle<=aAt p k)=true:=by simp;omega
     have hc:getD p.2.1 (k-1) (zero (Ty.int IntKind.i64))=aAt p (k-1):=rfl;have hd:getD row (k-1) (zero (Ty.flt FloatKind.f32))=row.getD (k-1) 0:=rfl;rw[e7];simp only[e3,cond_true,d1c k hk0 (by omega),e4,e5,e6,Bool.and_self,toNat_natCast,hc,hd];rfl
    ·have e3:decide (aAt p k>angle)=false:=by simpa using hgt
     have e7:decide (angle<=aAt p k)=false:=by simp;omega
     rw[e7];simp only[e3,cond_false]
   ·have:aAt p k=angle:=by simpa using c
    have e7:decide (angle<=aAt p k)=true:=by simp;omega
    rw[e7];rfl
  ·intro f;unfold b4l;simp
  ·simp only[b9z];omega
 obtain⟨hf,_⟩:=e0e h h2;rw[hf]at hl;unfold d8o;simp only[c7c,c7d,c7e,hl,isSome_some,cond_true];rfl
theorem b2r {p:a6O} (h:POK p) (row:List Nat) (angle:Int) (hr:row.length=p.2.1.length) (h1:0<=angle) (h2:angle<=180):d6D (p.2.1,row,angle,())=some (b7n p row angle,()):=by
 have ha1:=h.a1;have ha2:=h.a2;have h0:=h.first
 obtain⟨_,i1,i2,i3⟩:=e0e h h2;unfold b7n;generalize idx p angle=j at *;have hl:b8T ((p.2.1,row,angle,(0:Int),()),())=some ((p.2.1,row,angle,(j:Int),()),()):=by
  refine(a1k (q:=b3O) (fun k=>((p.2.1,row,angle,(k:Int),()),())) j ((p.2.1,row,angle,(j:Int),()),()) ?_ ?_ (b8S ((p.2.1,row,angle,(0:Int),()),())) ?_:_)
  ·intro k f hk;unfold b3O;have e1:decide ((k:Int)<(p.2.1.length:Int))=true:=by simp;omega
   have e2:decide (0<=(k:Int))=true:=by simp
   have ha:getD p.2.1 k (zero (Ty.int IntKind.i64))=aAt p k:=rfl;have e3:decide (aAt p k<angle)=true:=by simpa using i3 k hk
   simp only[a2h k (by omega),e1,e2,Bool.and_self,cond_true,toNat_natCast,ha,e3]
  ·intro f;unfold b3O;have e1:decide ((j:Int)<(p.2.1.length:Int))=true:=by simp;omega
   have e2:decide (0<=(j:Int))=true:=by simp
   have ha:getD p.2.1 j (zero (Ty.int IntKind.i64))=aAt p j:=rfl;have e3:decide (aAt p j<angle)=false:=by simp;omega
   simp only[e1,e2,Bool.and_self,cond_true,toNat_natCast,ha,e3,cond_false]
  ·simp only[b8S];omega
 unfold d6D f3t;have e1:decide ((j:Int)<(p.2.1.length:Int))=true:=by simp;omega
 have e1':decide ((j:Int)<(row.length:Int))=true:=by simp;omega
 have e2:decide (0<=(j:Int))=true:=by simp
 have ha:getD p.2.1 j (zero (Ty.int IntKind.i64))=aAt p j:=rfl;have hb:getD row j (zero (Ty.flt FloatKind.f32))=row.getD j 0:=rfl;simp only[c5L,c5M,hl,isSome_some,getD_some,cond_true,e1,e1',e2,Bool.and_self,toNat_natCast,ha,hb];cases c:(aAt p j==angle)
 ·have hne:aAt p j≠angle:=by simpa using c
  have hj0:0<j:=by
   rcases Nat.eq_zero_or_pos j with h3|h3
   ·rw[h3]at i2 hne;omega
   ·exact h3
  have e4:decide (0<=((j-1:Nat):Int))=true:=by simp
  have e5:decide (((j-1:Nat):Int)<(p.2.1.length:Int))=true:=by simp;omega
  have e6:decide (((j-1:Nat):Int)<(row.length:Int))=true:=by simp;omega
  have hc:getD p.2.1 (j-1) (zero (Ty.int IntKind.i64))=aAt p (j-1):=rfl;have hd:getD row (j-1) (zero (Ty.flt FloatKind.f32))=row.getD (j-1) 0:=rfl;simp only[cond_false,d1c j hj0 (by omega),e4,e5,e6,Bool.and_self,cond_true,toNat_natCast,hc,hd];rfl
 ·rfl
def c9H (p:a6O) (wind:Nat):Nat:=(a0s (fun k=>!fle (wAt p (k+1)) wind) 0 (p.1.length-1)).getD 0
def b0X (p:a6O) (wind:Nat) (angle:Int):Nat:=
 bif fle wind (wAt p 0)then a0a .mul .f32 (a0a .quo .f32 wind (wAt p 0)) (b7n p (rAt p 0) angle)
 else bif fge wind (wAt p (p.1.length-1))then b7n p (rAt p (p.1.length-1)) angle
 else g4G (b7n p (rAt p (c9H p wind)) angle) (b7n p (rAt p (c9H p wind+1)) angle) (a0a .quo .f32 (a0a .sub .f32 wind (wAt p (c9H p wind))) (a0a .sub .f32 (wAt p (c9H p wind+1)) (wAt p (c9H p wind))))
theorem g8Q {p:a6O} (h:POK p) {i:Nat} (hi:i<p.1.length):∃s m e,Ieee.single.read (wAt p i) = .number s m e:=by
 have:=h.wind i hi;unfold a3A at this;simp only[and_eq_true]at this;exact f3s (e4a this.1.1) this.1.2
theorem c9I {p:a6O} (h:POK p) {wind:Nat} (hw1:fge wind 0=true) (hw2:fle wind 1120403456=true) (h1:fle wind (wAt p 0)=false) (h2:fge wind (wAt p (p.1.length-1))=false) :
 c9H p wind+1<p.1.length /\ fle (wAt p (c9H p wind+1)) wind=false /\ ∀i,i<c9H p wind->fle (wAt p (i+1)) wind=true:=by
 have hn:=f3s hw1 hw2;have hl:=h.w1;unfold c9H;cases hf:a0s (fun k=>!fle (wAt p (k+1)) wind) 0 (p.1.length-1)with
 | none =>
   exfalso;by_cases c:p.1.length=1
   ·rw[c]at h2;have:=(c9G hn (g8Q h (i:=0) (by omega))).2 h1;rw[this]at h2;cases h2
   ·have:=a2c.1 hf (p.1.length-2) (zero_le _) (by omega);have e:p.1.length-2+1=p.1.length-1:=by omega
    rw[e]at this;have e2:=(c9G hn (g8Q h (i:=p.1.length-1) (by omega))).1;rw[e2]at h2;rw[h2]at this;cases this
 | some j =>
   obtain⟨_,h3,h4,h5⟩:=a1I hf;show j+1<p.1.length /\ fle (wAt p (j+1)) wind=false /\ ∀i,i<j->fle (wAt p (i+1)) wind=true;refine⟨by omega,by simpa using h4,fun i hi=>?_⟩;have:=h5 i (zero_le _) hi;simpa using this
theorem e4b {p:a6O} (h:POK p) (wind:Nat) (angle:Int) (hw1:fge wind 0=true) (hw2:fle wind 1120403456=true) (h1:0<=angle) (h2:angle<=180):f0t (p,wind,angle,())=some (b0X p wind angle,()):=by
 have hl:=h.w1;have hl2:=h.w2;have hs:=h.s;unfold f0t b0X;have e0:decide ((0:Int)<(p.1.length:Int))=true:=by simp;omega
 have e0':decide ((0:Int)<(p.2.2.1.length:Int))=true:=by simp;omega
 have ha:getD p.1 0 (zero (Ty.flt FloatKind.f32))=wAt p 0:=rfl;have hb:getD p.2.2.1 0 (zero (Ty.slice (Ty.flt FloatKind.f32)))=rAt p 0:=rfl;have f0:d8o (p,rAt p 0,angle,())=some (b7n p (rAt p 0) angle,()):=b2q h _ _ (h.row 0 (by omega)).1 h1 h2;have g2:wrap IntKind.i64 ((p.1.length:Int)-1)=((p.1.length-1:Nat):Int):=d1c _ (by omega) (by omega);have g3:decide (((p.1.length-1:Nat):Int)<(p.1.length:Int))=true:=by simp;omega
 have g3':decide (((p.1.length-1:Nat):Int)<(p.2.2.1.length:Int))=true:=by simp;omega
 have g4:decide (0<=((p.1.length-1:Nat):Int))=true:=by simp
 have hc:getD p.1 (p.1.length-1) (zero (Ty.flt FloatKind.f32))=wAt p (p.1.length-1):=rfl;have hd:getD p.2.2.1 (p.1.length-1) (zero (Ty.slice (Ty.flt FloatKind.f32)))=rAt p (p.1.length-1):=rfl;have f1:d8o (p,rAt p (p.1.length-1),angle,())=some (b7n p (rAt p (p.1.length-1)) angle,()):=b2q h _ _ (h.row _ (by omega)).1 h1 h2;simp only[e0,e0',g2,g3,g3',g4,Bool.and_self,toNat_natCast,Int.toNat_zero,ha,hb,hc,hd,e6m,e6n,f0,f1,isSome_some,getD_some,cond_true,le_refl,decide_true,Bool.true_and];show(bif fle wind (wAt p 0)then _ else bif fge wind (wAt p (p.1.length-1))then _ else _)=_;cases c1:fle wind (wAt p 0)
 rotate_left
 ·rfl
 cases c2:fge wind (wAt p (p.1.length-1))
 rotate_left
 ·rfl
 obtain⟨i1,i2,i3⟩:=c9I h hw1 hw2 c1 c2;generalize c9H p wind=j at *;have hloop:b9C ((wind,angle,(),(0:Int),()),(p,()))=some ((wind,angle,(),(j:Int),()),(p,())):=by
  refine(a1k (q:=b4m) (fun k=>((wind,angle,(),(k:Int),()),(p,()))) j ((wind,angle,(),(j:Int),()),(p,())) ?_ ?_ (b9B ((wind,angle,(),(0:Int),()),(p,()))) ?_:_)
  ·intro k f hk;unfold b4m;have e1:decide (((k+1:Nat):Int)<(p.1.length:Int))=true:=by simp;omega
   have e2:decide (0<=((k+1:Nat):Int))=true:=by simp;omega
   have ha:getD p.1 (k+1) (zero (Ty.flt FloatKind.f32))=wAt p (k+1):=rfl;simp only[a2h k (by omega),e1,e2,Bool.and_self,cond_true,toNat_natCast,ha];show(bif fle (wAt p (k+1)) wind then _ else _)=_;rw[i3 k hk];rfl
  ·intro f;unfold b4m;have e1:decide (((j+1:Nat):Int)<(p.1.length:Int))=true:=by simp;omega
   have e2:decide (0<=((j+1:Nat):Int))=true:=by simp;omega
   have ha:getD p.1 (j+1) (zero (Ty.flt FloatKind.f32))=wAt p (j+1):=rfl;simp only[a2h j (by omega),e1,e2,Bool.and_self,cond_true,toNat_natCast,ha];show(bif fle (wAt p (j+1)) wind then _ else _)=_;rw[i2];rfl
  ·simp only[b9B];omega
 have e1:decide (((j+1:Nat):Int)<(p.1.length:Int))=true:=by simp;omega
 have e1':decide (((j+1:Nat):Int)<(p.2.2.1.length:Int))=true:=by simp;omega
 have e2:decide (0<=((j+1:Nat):Int))=true:=by simp;omega
 have e3:decide ((j:Int)<(p.1.length:Int))=true:=by simp;omega
 have e3':decide ((j:Int)<(p.2.2.1.length:Int))=true:=by simp;omega
 have e4:decide (0<=(j:Int))=true:=by simp
 have ha:getD p.1 (j+1) (zero (Ty.flt FloatKind.f32))=wAt p (j+1):=rfl;have hb:getD p.1 j (zero (Ty.flt FloatKind.f32))=wAt p j:=rfl;have hc:getD p.2.2.1 j (zero (Ty.slice (Ty.flt FloatKind.f32)))=rAt p j:=rfl;have hd:getD p.2.2.1 (j+1) (zero (Ty.slice (Ty.flt FloatKind.f32)))=rAt p (j+1):=rfl;have f2:d8o (p,rAt p j,angle,())=some (b7n p (rAt p j) angle,()):=b2q h _ _ (h.row _ (by omega)).1 h1 h2;have f3:d8o (p,rAt p (j+1),angle,())=some (b7n p (rAt p (j+1)) angle,()):=b2q h _ _ (h.row _ (by omega)).1 h1 h2;simp only[c7f,c7g,hloop,isSome_some,getD_some,cond_true,cond_false,a2h j (by omega),e1,e1',e2,e3,e3',e4,Bool.and_self,toNat_natCast,ha,hb,hc,hd,f2,f3];rfl
def a9t (p:a6O) (wind:Nat) (angle:Int):Nat×Bool×Unit:=bif a2O p&&(fge wind 0&&(fle wind 1120403456&&a0n angle 0 180))then(b0X p wind angle,true,())else(0,false,())
theorem e4c (p:a6O) (wind:Nat) (angle:Int):f5z (p,wind,angle,())=some (a9t p wind angle):=by
 unfold f5z a9t;have e1:F90 (p,())=some (a2O p,()):=d9Z p;have e2:F44 (angle,0,180,())=some (a0n angle 0 180,()):=a2N _ _ _;simp only[K90,G90,e1,K44,G44,e2,isSome_some,getD_some,cond_true];show(bif !a2O p then _ else bif fge wind 0 then bif !fle wind 1120403456 then _ else bif !a0n angle 0 180 then _ else _ else _)=_;cases c1:a2O p
 ·rfl
 cases c2:fge wind 0
 ·rfl
 cases c3:fle wind 1120403456
 ·rfl
 cases c4:a0n angle 0 180
 ·rfl
 simp only[a0n,and_eq_true,decide_eq_true_eq]at c4;have e3:f0t (p,wind,angle,())=some (b0X p wind angle,()):=e4b (pok c1) wind angle c2 c3 c4.1 c4.2;simp only[g1B,g1C,e3,isSome_some,getD_some,cond_true];rfl
theorem e4d (p:a6O) (wind:Nat) (angle:Int):f4Z (p,wind,angle,())=some (a9t p wind angle):=by
 unfold f4Z a9t;have e1:F99 (p,())=some (a2O p,()):=e0a p;have e2:F51 (angle,0,180,())=some (a0n angle 0 180,()):=a1F _ _ _;simp only[K99,G99,e1,K51,G51,e2,isSome_some,getD_some,cond_true];show(bif !a2O p then _ else bif fge wind 0 then bif !fle wind 1120403456 then _ else bif !a0n angle 0 180 then _ else _ else _)=_;cases c1:a2O p
 ·rfl
 cases hw1:fge wind 0
 ·rfl
 cases hw2:fle wind 1120403456
 ·rfl
 cases c4:a0n angle 0 180
 ·rfl
 simp only[a0n,and_eq_true,decide_eq_true_eq]at c4;obtain⟨h1,h2⟩:=c4;have h:=pok c1;have hl:=h.w1;have hl2:=h.w2;have hs:=h.s;unfold b0X;have e0:decide ((0:Int)<(p.1.length:Int))=true:=by simp;omega
 have e0':decide ((0:Int)<(p.2.2.1.length:Int))=true:=by simp;omega
 have ha:getD p.1 0 (zero (Ty.flt FloatKind.f32))=wAt p 0:=rfl;have hb:getD p.2.2.1 0 (zero (Ty.slice (Ty.flt FloatKind.f32)))=rAt p 0:=rfl;have f0:d6D (p.2.1,rAt p 0,angle,())=some (b7n p (rAt p 0) angle,()):=b2r h _ _ (h.row 0 (by omega)).1 h1 h2;have g2:wrap IntKind.i64 ((p.1.length:Int)-1)=((p.1.length-1:Nat):Int):=d1c _ (by omega) (by omega);have g3:decide (((p.1.length-1:Nat):Int)<(p.1.length:Int))=true:=by simp;omega
 have g3':decide (((p.1.length-1:Nat):Int)<(p.2.2.1.length:Int))=true:=by simp;omega
 have g4:decide (0<=((p.1.length-1:Nat):Int))=true:=by simp
 have hc:getD p.1 (p.1.length-1) (zero (Ty.flt FloatKind.f32))=wAt p (p.1.length-1):=rfl;have hd:getD p.2.2.1 (p.1.length-1) (zero (Ty.slice (Ty.flt FloatKind.f32)))=rAt p (p.1.length-1):=rfl;have f1:d6D (p.2.1,rAt p (p.1.length-1),angle,())=some (b7n p (rAt p (p.1.length-1)) angle,()):=b2r h _ _ (h.row _ (by omega)).1 h1 h2;simp only[Bool.not_true,cond_false,cond_true,Bool.true_and,e0,e0',g2,g3,g3',g4,Bool.and_self,toNat_natCast,Int.toNat_zero,ha,hb,hc,hd,e6b,e6c,f0,f1,isSome_some,getD_some,le_refl,decide_true];show(bif fle wind (wAt p 0)then _ else bif fge wind (wAt p (p.1.length-1))then _ else _)=_;cases c1:fle wind (wAt p 0)
 rotate_left
 ·rfl
 cases c2:fge wind (wAt p (p.1.length-1))
 rotate_left
 ·rfl
 obtain⟨i1,i2,i3⟩:=c9I h hw1 hw2 c1 c2;generalize c9H p wind=j at *;have hloop:b1W ((wind,angle,(),(0:Int),()),(p,()))=some ((wind,angle,(),(j:Int),()),(p,())):=by
  refine(a1k (q:=a9b) (fun k=>((wind,angle,(),(k:Int),()),(p,()))) j ((wind,angle,(),(j:Int),()),(p,())) ?_ ?_ (b1V ((wind,angle,(),(0:Int),()),(p,()))) ?_:_)
  ·intro k f hk;unfold a9b;have e1:decide (((k+1:Nat):Int)<(p.1.length:Int))=true:=by simp;omega
   have e2:decide (0<=((k+1:Nat):Int))=true:=by simp;omega
   have ha:getD p.1 (k+1) (zero (Ty.flt FloatKind.f32))=wAt p (k+1):=rfl;simp only[a2h k (by omega),e1,e2,Bool.and_self,cond_true,toNat_natCast,ha];show(bif fle (wAt p (k+1)) wind then _ else _)=_;rw[i3 k hk];rfl
  ·intro f;unfold a9b;have e1:decide (((j+1:Nat):Int)<(p.1.length:Int))=true:=by simp;omega
   have e2:decide (0<=((j+1:Nat):Int))=true:=by simp;omega
   have ha:getD p.1 (j+1) (zero (Ty.flt FloatKind.f32))=wAt p (j+1):=rfl;simp only[a2h j (by omega),e1,e2,Bool.and_self,cond_true,toNat_natCast,ha];show(bif fle (wAt p (j+1)) wind then _ else _)=_;rw[i2];rfl
  ·simp only[b1V];omega
 have e1:decide (((j+1:Nat):Int)<(p.1.length:Int))=true:=by simp;omega
 have e1':decide (((j+1:Nat):Int)<(p.2.2.1.length:Int))=true:=by simp;omega
 have e2:decide (0<=((j+1:Nat):Int))=true:=by simp;omega
 have e3:decide ((j:Int)<(p.1.length:Int))=true:=by simp;omega
 have e3':decide ((j:Int)<(p.2.2.1.length:Int))=true:=by simp;omega
 have e4:decide (0<=(j:Int))=true:=by simp
 have ha:getD p.1 (j+1) (zero (Ty.flt FloatKind.f32))=wAt p (j+1):=rfl;have hb:getD p.1 j (zero (Ty.flt FloatKind.f32))=wAt p j:=rfl;have hc:getD p.2.2.1 j (zero (Ty.slice (Ty.flt FloatKind.f32)))=rAt p j:=rfl;have hd:getD p.2.2.1 (j+1) (zero (Ty.slice (Ty.flt FloatKind.f32)))=rAt p (j+1):=rfl;have f2:d6D (p.2.1,rAt p j,angle,())=some (b7n p (rAt p j) angle,()):=b2r h _ _ (h.row _ (by omega)).1 h1 h2;have f3:d6D (p.2.1,rAt p (j+1),angle,())=some (b7n p (rAt p (j+1)) angle,()):=b2r h _ _ (h.row _ (by omega)).1 h1 h2;simp only[b8U,b8V,hloop,isSome_some,getD_some,cond_true,cond_false,a2h j (by omega),e1,e1',e2,e3,e3',e4,Bool.and_self,toNat_natCast,ha,hb,hc,hd,f2,f3];rfl
theorem c9J {v:Rat} (h1:p2 (-1000)<=v) (h2:v<p2 1000):∃B:Int,-1000<=B /\ B<=1000 /\ p2 B<=v /\ v<p2 (B+1):=by
 have ex:∃k:Nat,v<p2 ((k:Int)-999):=⟨1999,by show v<p2 1000;exact h2⟩
 classical
 have key:∀n:Nat,v<p2 ((n:Int)-999)->n<=1999->∃B:Int,-1000<=B /\ B<=1000 /\ p2 B<=v /\ v<p2 (B+1):=by
  intro n
  induction n with
  |zero=>intro h _;exact⟨-1000,by omega,by omega,h1,by simpa using h⟩
  | succ n ih =>
    intro h hn;by_cases c:v<p2 ((n:Int)-999)
    ·exact ih c (by omega)
    ·refine⟨(n:Int)-999,by omega,by omega,by grind,?_⟩;have e:((n:Int)-999)+1=((n+1:Nat):Int)-999:=by omega
     rw[e];exact h
 exact key 1999 (by show v<p2 1000;exact h2) (le_refl _)
theorem f3u {a b:Nat} {x y:Rat} (ha:IsR a x) (hb:IsR b y) (h1:p2 (-1000)<=x+y) (h2:x+y<p2 1000):∃r,IsR (a0a .add .f64 a b) r /\ c2H r (x+y) ((x+y)/1000000000000000):=by
 obtain⟨B,b1,b2,b3,b4⟩:=c9J h1 h2;have hp:=a0Z (B+1);have hp0:=a0Z (-1000);obtain⟨r,h3,h4,h5⟩:=h1a ha hb B (by omega) (by omega) b4 (by grind);have e:p2 (B-53)=p2 B*p2 (-53):=by rw[Int.sub_eq_add_neg,a1B]
 have e2:p2 (-53)<=1/1000000000000000:=by decide +kernel
 have m:=Rat.mul_le_mul_of_nonneg_left e2 (show 0<=p2 B from Rat.le_of_lt (a0Z B));have m2:=a1f b3 (show(0:Rat)<=1/1000000000000000 by decide +kernel);exact⟨r,h3,by grind,by grind⟩
theorem e0f {a b:Nat} {x y q:Rat} (ha:IsR a x) (hb:IsR b y) (hy:y≠0) (hq:q*y=x) (h1:p2 (-1000)<=q) (h2:q<p2 1000):∃r,IsR (a0a .quo .f64 a b) r /\ c2H r q (q/1000000000000000):=by
 obtain⟨B,b1,b2,b3,b4⟩:=c9J h1 h2;have hp:=a0Z (B+1);have hp0:=a0Z (-1000);obtain⟨r,h3,h4,h5⟩:=g8P ha hb hy hq (B+1) (by omega) (by omega) (by grind) (by grind);have e:p2 (B+1-52)=p2 B*p2 (-51):=by rw[<- a1B];congr 1;omega
 have e2:p2 (-51)<=1/1000000000000000:=by decide +kernel
 have m:=Rat.mul_le_mul_of_nonneg_left e2 (show 0<=p2 B from Rat.le_of_lt (a0Z B));have m2:=a1f b3 (show(0:Rat)<=1/1000000000000000 by decide +kernel);exact⟨r,h3,by grind,by grind⟩
theorem a5q {z g:Rat} (hg0:0<g) (hz:0<=z*g):0<=z:=by
 apply Classical.byContradiction;intro hc;have:=Rat.mul_pos (show 0 < -z by grind) hg0;grind
theorem a6P {z M x:Rat} (hx0:1/10000000000000<=x) (hM1:2<=M) (hM3:M<=1000000000000000000) (hz:0<=z*M-x):4*p2 (-1000)<=z:=by
 have e:4*p2 (-1000)<=1/10000000000000000000000000000000000:=by decide +kernel
 apply Classical.byContradiction;intro hc;have h3:=Rat.mul_nonneg (show 0<=1/10000000000000000000000000000000000-z by grind) (show 0<=M by grind);grind
theorem c9K {x g M:Rat} {w v:Nat} (hw:IsR w x) (hv:IsR v g) (hx0:1/10000000000000<=x) (hM1:2<=M) (hM2:2*x<=M) (hM3:M<=1000000000000000000) (h1:x<=g*M) (h2:g<=M) (hg0:0<g) :
 ∃g',IsR (a0a .quo .f64 (a0a .add .f64 v (a0a .quo .f64 w v)) 4611686018427387904) g' /\ x<=g'*M /\ g'<=M /\ 0<g':=by
 have hgne:g≠0:=by grind
 obtain⟨q0,hq0⟩:∃q0,q0=x/g:=⟨_,rfl⟩;have hqg:q0*g=x:=by rw[hq0];grind
 have hqM:0<=M-q0:=a5q hg0 (by grind);have hMq:0<=q0*M-x:=by
  have:0<=q0:=a5q hg0 (by rw[hqg];grind);have:=Rat.mul_nonneg this (show 0<=M-g by grind);grind
 have big:(4000000000000000000:Rat)<p2 1000:=by decide +kernel
 obtain⟨q,hq,nq1,nq2⟩:=e0f hw hv hgne hqg (by have:=a6P hx0 hM1 hM3 hMq;have:=a0Z (-1000);grind) (by grind);have hs0:p2 (-1000)<=g+q:=by
  have:=a6P (z:=g) hx0 hM1 hM3 (by grind);have:=a6P hx0 hM1 hM3 hMq;have:=a0Z (-1000);grind
 obtain⟨s,hs,ns1,ns2⟩:=f3u hv hq hs0 (by grind);have hs1:p2 (-1000)<=s/2:=by
  have e:=a6P (z:=g) hx0 hM1 hM3 (by grind);have e2:=a6P hx0 hM1 hM3 hMq;have:=a0Z (-1000);grind
 obtain⟨r,hr,nr1,nr2⟩:=e0f (q:=s/2) hs h1c (by decide) (by grind) hs1 (by grind);have h3:3*x<=(g+q0)*M:=by
  by_cases c:1<=g
  ·have m:=Rat.mul_nonneg (show 0<=g-1 by grind) (show 0<=M by grind);grind
  ·have m:0<=q0-x:=a5q hg0 (by
    have:=Rat.mul_nonneg (show 0<=x by grind) (show 0<=1-g by grind);grind)
   have m2:=Rat.mul_nonneg m (show 0<=M by grind);have m3:=Rat.mul_nonneg (show 0<=x by grind) (show 0<=M-2 by grind);grind
 have h4:g+q0<=M+1/2:=by
  have m:=Rat.mul_nonneg (show 0<=M-g by grind) (show 0<=g*M-x by grind);have m2:0<=(M*M+x-g*M-q0*M)*g:=by
   have:(M*M+x-g*M-q0*M)*g=(M-g)*(g*M-x):=by grind
   rw[this];exact m
  have m3:=a5q hg0 m2;apply Classical.byContradiction;intro hc;have m4:=Rat.mul_pos (show 0<g+q0-M-1/2 by grind) (show 0<M by grind);grind
 have hr1:(g+q0)/2*(1-4/1000000000000000)<=r:=by grind
 refine⟨r,hr,?_,by grind,?_⟩
 ·have m:=a1f hr1 (show 0<=M by grind);grind
 ·grind
theorem c0U {w v:Nat} {x g M:Rat} (hw:IsR w x) (hv:IsR v g) (hx0:1/10000000000000<=x) (hM1:2<=M) (hM2:2*x<=M) (hM3:M<=1000000000000000000) (h1:x<=g*M) (h2:g<=M) (hg0:0<g):∀k,∃g',IsR (gk w v k) g' /\ x<=g'*M /\ g'<=M /\ 0<g'
 |0=>⟨g,hv,h1,h2,hg0⟩
 | k+1=>by
   obtain⟨g1,a1,a2,a3,a4⟩:=c0U hw hv hx0 hM1 hM2 hM3 h1 h2 hg0 k;exact c9K hw a1 hx0 hM1 hM2 hM3 a2 a3 a4
theorem g8R:∃q,IsR 4427486594234968593 q /\ 1/10000000000000<=q:=by
 have h:∃m e,Ieee.double.read 4427486594234968593 = .number false m e /\ -1074<=e /\ 1/10000000000000<=RV false m e:=by
  refine⟨(match Ieee.double.read 4427486594234968593 with|.number _ m _=>m|_=>0),(match Ieee.double.read 4427486594234968593 with|.number _ _ e=>e|_=>0),?_,?_,?_⟩<;>decide +kernel
 obtain⟨m,e,h1,h2,h3⟩:=h;exact⟨_,⟨false,m,e,h1,h2,rfl⟩,h3⟩
theorem f3v:∃q,IsR 4861130398305394688 q /\ 1<=q /\ q<=200000000000000000:=by
 have h:∃m e,Ieee.double.read 4861130398305394688 = .number false m e /\ -1074<=e /\ 1<=RV false m e /\ RV false m e<=200000000000000000:=by
  refine⟨(match Ieee.double.read 4861130398305394688 with|.number _ m _=>m|_=>0),(match Ieee.double.read 4861130398305394688 with|.number _ _ e=>e|_=>0),?_,?_,?_,?_⟩<;>decide +kernel
 obtain⟨m,e,h1,h2,h3,h4⟩:=h;exact⟨_,⟨false,m,e,h1,h2,rfl⟩,h3,h4⟩
theorem f3w {w c d:Nat} {x y:Rat} (hc:IsR c x) (hd:IsR d y) (h1:(fgt .f64 w c||feq .f64 w c)=true) (h2:(flt .f64 w d||feq .f64 w d)=true):∃q,IsR w q:=by
 obtain⟨s,m,e,hr,_,_⟩:=hc;obtain⟨t,n,f,hr2,_,_⟩:=hd;have o1:FloatKind.f64.format.order w c=(Ieee.double.read w).order (Ieee.double.read c):=rfl;have o2:FloatKind.f64.format.order w d=(Ieee.double.read w).order (Ieee.double.read d):=rfl;unfold fgt feq flt at *;rw[o1,hr]at h1;rw[o2,hr2]at h2;cases hz:Ieee.double.read w with
 |number a b p=>exact⟨_,a,b,p,hz,b0V hz,rfl⟩
 |nan a b=>rw[hz]at h2;simp[Ieee.Datum.order]at h2
 | infinity a =>
   rw[hz]at h1 h2;cases a<;>simp[Ieee.Datum.order]at h1 h2
theorem d4u (w:Nat):∃r,IsR (b2p w) r /\ Abs r 1000000000000000000:=by
 have hz:∃r,IsR 0 r /\ Abs r 1000000000000000000:=⟨0,e3Y,by constructor<;>decide +kernel⟩;obtain⟨c1,hc1,b1⟩:=g8R;obtain⟨c2,hc2,b2,b3⟩:=f3v;unfold b2p;generalize hG:gk w (b2F .f64 w 4607182418800017408) 60=G;cases h1:(fgt .f64 w 4427486594234968593||feq .f64 w 4427486594234968593)
 ·exact hz
 cases h2:(flt .f64 w 4861130398305394688||feq .f64 w 4861130398305394688)
 ·exact hz
 obtain⟨x,hx⟩:=f3w hc1 hc2 h1 h2;rw[g4D hx hc1,e6E hx hc1]at h1;rw[f7s hx hc2,e6E hx hc2]at h2;simp only[Bool.or_eq_true,decide_eq_true_eq]at h1 h2;show ∃r,IsR G r /\ _;have hm:∃g,IsR (b2F .f64 w 4607182418800017408) g /\ 1<=g /\ x<=g /\ (g=x∨g=1):=by
  unfold b2F;rw[f3p hx f3r];by_cases c:x<1
  ·rw[if_pos c];exact⟨1,f3r,by grind,by grind,.inr rfl⟩
  ·rw[if_neg c];by_cases c':1<x
   ·rw[if_pos c'];exact⟨x,hx,by grind,by grind,.inl rfl⟩
   ·rw[if_neg c'];have:x=1:=by grind
    dsimp only;split
    ·exact⟨1,f3r,by grind,by grind,.inr rfl⟩
    ·exact⟨x,hx,by grind,by grind,.inl rfl⟩
 obtain⟨g,hg,g1,g2,g3⟩:=hm;have hgM:x<=g*(2*g):=by
  have:=Rat.mul_nonneg (show 0<=g-1 by grind) (show 0<=g by grind);grind
 obtain⟨r,r1,r2,r3,r4⟩:=c0U (M:=2*g) hx hg (by grind) (by grind) (by grind) (by grind) hgM (by grind) (by grind) 60;rw[hG]at r1;exact⟨r,r1,by constructor<;>grind⟩
theorem e4e (z:Nat×Nat):∃r,IsR (d1d z) r /\ Abs r 1000000000000000000:=by
 unfold d1d;cases a3d z
 ·exact⟨0,e3Y,by constructor<;>decide +kernel⟩
 ·exact d4u _
theorem a6Q {b:Nat} {q:Rat} (h:IsR b q) (hq:Abs q 1000000000000000000):a1Q b=true:=by
 obtain⟨s,m,e,hr,he,rfl⟩:=h;unfold a1Q;have hd:FloatKind.f64.decode b = .number s m e:=hr;rw[hd];show(!(Ieee.single.read (Ieee.single.nearest s m e)).isInfinity)=true;by_cases h0:m=0
 ·subst h0;unfold Ieee.Format.nearest;rw[if_pos rfl];cases s<;>decide +kernel
 ·have hlt:(m:Rat)*p2 e<p2 100:=by
   have hp:(1000000000000000000:Rat)<p2 100:=by decide +kernel
   exact d9Y s m e (by have:=hq.2;grind) (by have:=hq.1;grind)
  have l1:((2^m.log2:Nat):Rat)<=(m:Rat):=a0V (Nat.log2_self_le h0);have l2:=a1f l1 (Rat.le_of_lt (a0Z e));have l3:p2 ((m.log2:Int)+e)<p2 100:=by
   rw[a1B,a1O];grind
  have l4:=b4S l3;obtain⟨s',m',e',h1,_⟩:=e3J s m e 100 (by omega) (by decide) (by decide);rw[h1];rfl
def b7o (w:Nat×Nat):Nat×Nat:=((a0u .f32 .f64 w.1).2,(a0u .f32 .f64 w.2).2)
def a4M (w:Nat×Nat):Nat:=bif a1K w then(a0u .f64 .f32 (d1d (b7o w))).2 else 0
theorem c0V (z:Nat×Nat):(a0u .f64 .f32 (d1d z)).1=true:=by
 obtain⟨r,h1,h2⟩:=e4e z;exact a6Q h1 h2
theorem c9L (w:Nat×Nat):f0q (w,())=some (a4M w,()):=by
 unfold f0q a4M;have e1:F45 (w,())=some (a1K w,()):=a4G w;have e2:g1h (w,())=some (b7o w,()):=rfl;have e3:f0o (b7o w,())=some (d1d (b7o w),()):=e3X _;simp only[K45,G45,e1,g1i,g1j,e2,g1p,g1q,e3,isSome_some,getD_some,cond_true,c0V];cases a1K w<;>rfl
theorem e4f (x:Nat):e8t (x,())=some (b2p x,()):=by
 have hl:∀g,b8Q ((x,g,(0:Int),()),())=some ((gk x g 60,()),()):=by
  intro g;have:=a1k (q:=b3N) (fun k=>((x,gk x g k,(k:Int),()),())) 60 ((gk x g 60,()),()) ?_ ?_ (b8P ((x,g,(0:Int),()),())) ?_
  ·exact this
  ·intro k f hk;unfold b3N;have e2:decide ((k:Int)<60)=true:=by simp;omega
   simp only[e2,a2h k (by omega),cond_true];rfl
  ·intro f;unfold b3N;simp
  ·simp[b8P]
 have hmax:(fgt .f64 x 4427486594234968593||feq .f64 x 4427486594234968593)=true->(flt .f64 x 4861130398305394688||feq .f64 x 4861130398305394688)=true ->
  b2F .f64 x 4607182418800017408=bif flt .f64 x 4607182418800017408 then 4607182418800017408 else x:=by
  intro h1 h2;obtain⟨c1,hc1,b1⟩:=g8R;obtain⟨c2,hc2,b2,b3⟩:=f3v;obtain⟨q,hx⟩:=f3w hc1 hc2 h1 h2;rw[g4D hx hc1,e6E hx hc1]at h1;simp only[Bool.or_eq_true,decide_eq_true_eq]at h1;rw[f7s hx f3r];unfold b2F;rw[f3p hx f3r];by_cases c:q<1
  ·rw[if_pos c,decide_eq_true c];rfl
  ·rw [if_neg c,decide_eq_false c];by_cases c':1<q
   ·rw[if_pos c'];rfl
   ·rw[if_neg c'];dsimp only;obtain⟨s,m,e,hr,he,hq⟩:=hx;have hd:FloatKind.f64.decode x = .number s m e:=hr;rw[hd];cases s
    ·rfl
    ·exfalso;have h0:0<=(m:Rat)*p2 e:=Rat.mul_nonneg (a2v m) (Rat.le_of_lt (a0Z e));have e2:RV true m e=-((m:Rat)*p2 e):=by
      unfold RV;have:sgR true=-1:=rfl;rw[this];grind
     rw[e2]at hq;have:=c';grind
 unfold e8t b2p;simp only[b6f,b6g,hl,isSome_some,getD_some,cond_true];cases h1:(fgt .f64 x 4427486594234968593||feq .f64 x 4427486594234968593)
 ·rfl
 cases h2:(flt .f64 x 4861130398305394688||feq .f64 x 4861130398305394688)
 ·rfl
 rw[hmax h1 h2];generalize gk x=G;cases flt .f64 x 4607182418800017408<;>rfl
theorem e4g (z:Nat×Nat):e8v (z,())=some (d1d z,()):=by
 unfold e8v d1d;have e1:F96 (z,())=some (a3d z,()):=a7M z;have e2:e5V (z,z,())=some (a9Z z z,()):=rfl;have e3:e8t (a9Z z z,())=some (b2p (a9Z z z),()):=e4f _;simp only[K96,G96,e1,d2s,d0R,e2,f9m,f9n,e3,isSome_some,getD_some,cond_true];cases a3d z<;>rfl
theorem c9M (w:Nat×Nat):e8x (w,())=some (a4M w,()):=by
 unfold e8x a4M;have e1:F52 (w,())=some (a1K w,()):=a4H w;have e2:f4X (w,())=some (b7o w,()):=rfl;have e3:e8v (b7o w,())=some (d1d (b7o w),()):=e4g _;simp only[K52,G52,e1,e8j,e8k,e2,f9q,f9r,e3,isSome_some,getD_some,cond_true,c0V];cases a1K w<;>rfl
def upV (p:a6O) (wind:Nat) (angle:Int) (u:Nat×Nat):Nat:=a0a .mul .f32 (b0X p wind angle) (a0u .f64 .f32 u.1).2
theorem b4X (k:Nat) (hk:k<360):(a0u .f64 .f32 (a0U k).1).1=true:=a6Q (tcR hk) ((e0b hk).1.mono (by decide +kernel))
def e4h (p:a6O) (wind:Nat) (angle:Int):Nat×Bool×Unit:=bif a2O p&&(fge wind 0&&(fle wind 1120403456&&a0n angle 0 180))then(upV p wind angle (a0U (md angle)),true,())else(0,false,())
def mm (fx:Nat->Nat) (lo hi:Int):Nat->Int×Nat
 |0=>(lo,0)
 |k+1=>bif a0n (k:Int) lo hi then(bif (k:Int)==lo then((k:Int),fx k)else bif fgt .f32 (fx k) (mm fx lo hi k).2 then((k:Int),fx k)else mm fx lo hi k)else mm fx lo hi k
def a1u (w:Nat×Nat):Int:=bif !a1K w then -1 else bif (feq .f32 w.1 0&&feq .f32 w.2 0)then -1 else b2o ((a0u .f32 .f64 (a3v .f32 w.1)).2,(a0u .f32 .f64 (a3v .f32 w.2)).2)
theorem c9N (w:Nat×Nat):f0k (w,())=some (a1u w,()):=by
 unfold f0k a1u;have e1:F45 (w,())=some (a1K w,()):=a4G w;have e2:f0i (((a0u .f32 .f64 (a3v .f32 w.1)).2,(a0u .f32 .f64 (a3v .f32 w.2)).2),())=some (b2o ((a0u .f32 .f64 (a3v .f32 w.1)).2,(a0u .f32 .f64 (a3v .f32 w.2)).2),()):=e3V _;simp only[K45,G45,e1,g1d,g1e,e2,isSome_some,getD_some,cond_true];generalize b2o ((a0u .f32 .f64 (a3v .f32 w.1)).2,(a0u .f32 .f64 (a3v .f32 w.2)).2)=B;cases a1K w
 ·rfl
 ·cases (feq .f32 w.1 0&&feq .f32 w.2 0)<;>rfl
theorem d4v (z:Nat×Nat):e8q (z,())=some (b2o z,()):=by
 have hbs:∀k,bm z (k+1)=bs z k:=by
  intro k
  induction k with
  |zero=>rfl
  | succ k ih =>
    show(bif ((k+1:Nat):Int)==0 then _ else bif fgt .f64 (a9Z z (a0U (k+1))) (bm z (k+1)).2 then _ else bm z (k+1))=_;have:(((k+1:Nat):Int)==0)=false:=by simp;omega
    rw[this,ih];rfl
 have hl:b8N ((z,0,(4607182418800017408,0),a9Z z (a0U 0),1,()),())=some (((bs z 359).1,()),()):=by
  have:=a1k (q:=b3M) (fun k=>((z,(bs z k).1,a0U k,(bs z k).2,((k+1:Nat):Int),()),())) 359 (((bs z 359).1,()),()) ?_ ?_ (b8M ((z,0,(4607182418800017408,0),a9Z z (a0U 0),1,()),())) ?_
  ·exact this
  ·intro k f hk;unfold b3M;have e2:decide (((k+1:Nat):Int)<360)=true:=by simp;omega
   have e3:f4Y ()=some (c2J,()):=rfl;have e4:e8n (a0U k,c2J,())=some (a0U (k+1),()):=c9C _ _;have e5:e5V (z,a0U (k+1),())=some (a9Z z (a0U (k+1)),()):=rfl;simp only[e2,a2h (k+1) (by omega),e8l,e8m,e3,e8o,e8p,e4,d2s,d0R,e5,isSome_some,getD_some,cond_true,bs];cases fgt .f64 (a9Z z (a0U (k+1))) (bs z k).2<;>rfl
  ·intro f;unfold b3M;simp
  ·simp[b8M]
 unfold e8q;have e1:F96 (z,())=some (a3d z,()):=a7M z;have e5:e5V (z,(4607182418800017408,0),())=some (a9Z z (a0U 0),()):=rfl;simp only[K96,G96,e1,d2s,d0R,e5,c5I,c5J,hl,isSome_some,getD_some,cond_true];unfold b2o;rw[hbs 359];generalize bs z 359=B;cases a3d z
 ·rfl
 ·show(bif c9D z then some ((-1:Int),())else _)=_;cases c9D z<;>rfl
theorem c9O (w:Nat×Nat):e8s (w,())=some (a1u w,()):=by
 unfold e8s a1u;have e1:F52 (w,())=some (a1K w,()):=a4H w;have e3:f4X ((a3v .f32 w.1,a3v .f32 w.2),())=some (((a0u .f32 .f64 (a3v .f32 w.1)).2,(a0u .f32 .f64 (a3v .f32 w.2)).2),()):=rfl;have e2:e8q (((a0u .f32 .f64 (a3v .f32 w.1)).2,(a0u .f32 .f64 (a3v .f32 w.2)).2),())=some (b2o ((a0u .f32 .f64 (a3v .f32 w.1)).2,(a0u .f32 .f64 (a3v .f32 w.2)).2),()):=d4v _;simp only[K52,G52,e1,e8j,e8k,e3,f9h,f9i,e2,isSome_some,getD_some,cond_true];generalize b2o ((a0u .f32 .f64 (a3v .f32 w.1)).2,(a0u .f32 .f64 (a3v .f32 w.2)).2)=B;cases a1K w
 ·rfl
 ·cases (feq .f32 w.1 0&&feq .f32 w.2 0)<;>rfl
def sm (cmp:Nat->Nat->Bool) (p:a6O) (wind:Nat) (lo:Int):Nat->Int×Nat
 |0=>(lo,(e4h p wind lo).1)
 |k+1=>bif cmp (e4h p wind (lo+((k+1:Nat):Int))).1 (sm cmp p wind lo k).2 then(lo+((k+1:Nat):Int),(e4h p wind (lo+((k+1:Nat):Int))).1)else sm cmp p wind lo k
def b4Y (z p:Nat×Nat):Nat:=
 a0a .add .f64 (a0a .mul .f64 (a0a .sub .f64 z.1 p.1) (a0a .sub .f64 z.1 p.1)) (a0a .mul .f64 (a0a .sub .f64 z.2 p.2) (a0a .sub .f64 z.2 p.2))
def a2A (st:List (Den a1m)) (p:Nat×Nat) (k:Nat) (a:Int×Nat):(Int×Nat)⊕((Int×Unit)×Unit):=
 bif decide (a.1<0)then .inl ((k:Int),b4Y (a3B st k).fst p)else bif flt .f64 (b4Y (a3B st k).fst p) a.2 then .inl ((k:Int),b4Y (a3B st k).fst p)else .inl a
def d4w (st:List (Den a1m)) (p:Nat×Nat):(Int×Unit)×Unit:=a1t (a2A st p) (fun a=>((a.1,()),())) 0 st.length (-1,0)
def a4f (t:Den S30) (p:Nat×Nat):Int:=bif a3s t&&a3d p then(d4w t.1 p).1.1 else -1
theorem b2s (st:List (Den a1m)) (p:Nat×Nat):∀(n k:Nat) (a:Int×Nat),(a.1=-1 /\ k=0∨0<=a.1 /\ a.1<(k:Int))->(((a1t (a2A st p) (fun a=>((a.1,()),())) k n a).1.1:Int)=-1 /\ k+n=0)∨0<=((a1t (a2A st p) (fun a=>((a.1,()),())) k n a).1.1:Int) /\ ((a1t (a2A st p) (fun a=>((a.1,()),())) k n a).1.1:Int)<((k+n:Nat):Int)
 | 0,k,a,h=>by
   show((a.1:Int)=-1 /\ k+0=0)∨0<=a.1 /\ a.1<((k+0:Nat):Int);rcases h with⟨h1,h2⟩|h
   ·exact .inl ⟨h1,h2⟩
   ·exact .inr ⟨h.1,by omega⟩
 | n+1,k,a,h=>by
   simp only[a1t];have e:k+(n+1)=k+1+n:=by omega
   rw[e];unfold a2A;by_cases h1:a.1<0
   ·rw[show decide (a.1<0)=true by simpa using h1,cond_true];exact b2s st p n (k+1) _ (.inr ⟨by show(0:Int)<=(k:Int);omega,by show(k:Int)<((k+1:Nat):Int);omega⟩)
   ·rw[show decide (a.1<0)=false by simpa using h1,cond_false];cases flt .f64 (b4Y (a3B st k).fst p) a.2 with
    |true=>exact b2s st p n (k+1) _ (.inr ⟨by show(0:Int)<=(k:Int);omega,by show(k:Int)<((k+1:Nat):Int);omega⟩)
    | false =>
      refine b2s st p n (k+1) _ (.inr ?_);rcases h with⟨h2,_⟩|h
      ·omega
      ·exact⟨h.1,by omega⟩
theorem e4i (t:Den S30) (p:Nat×Nat) (h:a4y t):f0U (t,p,())=some (a4f t p,()):=by
 have e1:F91 (t,())=some (a3s t,()):=c9v t h;have e2:F61 (p,())=some (a3d p,()):=a7L p;obtain⟨st,hs,_⟩:=t;obtain⟨h1,h2⟩:=h;have h1:st.length<=21:=h1;have hl:b9L ((p,-1,0,st,(st.length:Int),0,()),())=some (d4w st p):=by
  refine(b1N (q:=b4q) (fun k (a:Int×Nat)=>((p,a.1,a.2,st,(st.length:Int),(k:Int),()),())) st.length (a2A st p) (fun a=>((a.1,()),())) ?_ ?_ _ st.length 0 (-1,0) (by omega) ?_:_)
  ·intro k a f hk;unfold b4q;have d1:decide ((k:Int)<(st.length:Int))=true:=by simpa using hk
   have d2:decide (0<=(k:Int))=true:=by simp
   have ha:getD st k (zero a1m)=a3B st k:=rfl;have e3:g2g ((a3B st k).fst,p,())=some ((a0a .sub .f64 (a3B st k).fst.1 p.1,a0a .sub .f64 (a3B st k).fst.2 p.2),()):=rfl;have e4:f0d ((a0a .sub .f64 (a3B st k).fst.1 p.1,a0a .sub .f64 (a3B st k).fst.2 p.2),(a0a .sub .f64 (a3B st k).fst.1 p.1,a0a .sub .f64 (a3B st k).fst.2 p.2),())=some (b4Y (a3B st k).fst p,()):=rfl;unfold a2A;simp only[a2h k (by omega),d1,d2,Bool.and_self,cond_true,toNat_natCast,ha,g2h,g2i,e3,e2z,d3h,e4,isSome_some,getD_some];cases decide (a.1<0)
   ·cases flt .f64 (b4Y (a3B st k).fst p) a.2<;>rfl
   ·rfl
  ·intro a f;simp[b4q]
  ·simp only[c7w];omega
 unfold f0U a4f;simp only[K91,G91,e1,K61,G61,e2,isSome_some,getD_some,cond_true,c7x,c7y,hl];cases a3s (st,hs,())
 ·rfl
 ·cases a3d p<;>rfl
def a3O (a b:Int):Int:=bif decide (a>b)then a-b else b-a
def a3H (hs:List Int) (t:Int) (k:Nat) (b:Int):Int⊕((Int×Unit)×Unit) := .inl (bif decide (a3O (a3e hs k) t<a3O (a3e hs b.toNat) t)then(k:Int)else b)
def hiR (hs:List Int) (t:Int):(Int×Unit)×Unit:=a1t (a3H hs t) (fun b=>((b,()),())) 0 hs.length 0
def hiV (td:Den S30) (t:Int):Int:=bif a3s td&&a0n t 0 10000000 then(hiR td.2.1 t).1.1 else -1
theorem a6R {st:List (Den a1m)} {hs:List Int} {u:Unit} (h:a3s (st,hs,u)=true):1<=st.length /\ 1<=hs.length /\ ∀i,i<hs.length->0<=a3e hs i /\ a3e hs i<=10000000:=by
 unfold a3s at h;simp only[and_eq_true]at h;obtain⟨h1,h2,h3,h4⟩:=h;simp only[a0n,and_eq_true,decide_eq_true_eq]at h1 h2;refine⟨by omega,by omega,fun i hi=>?_⟩;have:=a0t.1 h4 i (zero_le _) (by omega);unfold a9Y at this;simp only[and_eq_true,a0n,decide_eq_true_eq]at this;exact this.1
theorem e4j (hs:List Int) (t:Int):∀(n k:Nat) (b:Int),0<=b->(b<(k:Int)∨b=0)->0<=((a1t (a3H hs t) (fun b=>((b,()),())) k n b).1.1:Int) /\ (((a1t (a3H hs t) (fun b=>((b,()),())) k n b).1.1:Int)<((k+n:Nat):Int)∨((a1t (a3H hs t) (fun b=>((b,()),())) k n b).1.1:Int)=0)
 |0,k,b,h0,h=>⟨h0,by rcases h with h|h;exact .inl (by show b<((k+0:Nat):Int);omega);exact .inr h⟩
 | n+1,k,b,h0,h=>by
   simp only[a1t];have e:k+(n+1)=k+1+n:=by omega
   rw[e];unfold a3H;cases decide (a3O (a3e hs k) t<a3O (a3e hs b.toNat) t)with
   |true=>exact e4j hs t n (k+1) (k:Int) (by omega) (.inl (by omega))
   |false=>exact e4j hs t n (k+1) b h0 (by rcases h with h|h;exact .inl (by omega);exact .inr h)
theorem d4x (a b:Int):e0A (b-a) (a-b)=a3O a b:=by
 unfold e0A a3O;by_cases h:a>b
 ·rw[show decide (a>b)=true by simpa using h,cond_true,if_pos (by omega)]
 ·rw[show decide (a>b)=false by simpa using h,cond_false];by_cases h2:a-b>b-a
  ·omega
  ·rw[if_neg h2]
theorem c9P (st:List (Den a1m)) (hs:List Int) (t i:Int) (hi:0<=i /\ i<(hs.length:Int)) (ht:0<=t /\ t<=10000000) (hh:0<=a3e hs i.toNat /\ a3e hs i.toNat<=10000000) :
 e6p ((i,(),(),()),t,(st,hs,()),())=some ((a3O (a3e hs i.toNat) t,()),(t,(st,hs,()),())):=by
 have d1:(decide (0<=i)&&decide (i<(hs.length:Int)))=true:=by simp only[and_eq_true,decide_eq_true_eq];exact hi
 have ha:getD hs i.toNat (zero (Ty.int IntKind.i64))=a3e hs i.toNat:=rfl;unfold e6p;simp only[d1,cond_true,ha];rw[w64 (x:=t-a3e hs i.toNat) (by omega) (by omega),w64 (x:=a3e hs i.toNat-t) (by omega) (by omega),d4x]
theorem e4k (td:Den S30) (t:Int) (h:a4y td):f0X (td,t,())=some (hiV td t,()):=by
 have e1:F91 (td,())=some (a3s td,()):=c9v td h;have e2:F43 (t,())=some (a0n t 0 10000000,()):=c0c (t,());obtain⟨st,hs,_⟩:=td;obtain⟨_,h2⟩:=h;have h2:hs.length<=6:=h2;unfold f0X hiV;simp only[K91,G91,e1,K43,G43,e2,isSome_some,getD_some,cond_true];cases hb:a3s (st,hs,())
 ·rfl
 cases ht:a0n t 0 10000000
 ·rfl
 obtain⟨_,r2,r3⟩:=a6R hb;simp only[a0n,and_eq_true,decide_eq_true_eq]at ht;have hl:b9N (((),0,(hs.length:Int),0,()),(t,()),(st,hs,()),())=some (hiR hs t):=by
  refine(a8R (q:=b4r) (fun k (b:Int)=>(((),b,(hs.length:Int),(k:Int),()),(t,()),(st,hs,()),())) hs.length (a3H hs t) (fun b=>((b,()),())) (fun k b=>0<=b /\ b<(hs.length:Int)) ?_ ?_ ?_ _ hs.length 0 0 (by omega) ?_ ⟨Int.le_refl 0,by omega⟩:_)
  ·intro k b f hk hb0;unfold b4r;have d1:decide ((k:Int)<(hs.length:Int))=true:=by simpa using hk
   have e3:e6p (((k:Int),(),(),()),t,(st,hs,()),())=some ((a3O (a3e hs k) t,()),(t,(st,hs,()),())):=c9P st hs t k ⟨by omega,by omega⟩ ht (r3 k hk);have e4:e6p ((b,(),(),()),t,(st,hs,()),())=some ((a3O (a3e hs b.toNat) t,()),(t,(st,hs,()),())):=c9P st hs t b hb0 ht (r3 _ (by omega));unfold a3H;simp only[a2h k (by omega),d1,cond_true,f5Y,f5Z,e3,e4,isSome_some,getD_some];cases decide (a3O (a3e hs k) t<a3O (a3e hs b.toNat) t)<;>rfl
  ·intro k b b' hk hb0 hn;unfold a3H at hn;have hn:=Sum.inl.inj hn;subst hn;cases decide (a3O (a3e hs k) t<a3O (a3e hs b.toNat) t)with
   |true=>exact⟨by show(0:Int)<=(k:Int);omega,by show(k:Int)<_;omega⟩
   |false=>exact hb0
  ·intro b f _;simp[b4r]
  ·simp only[c7z];omega
 simp only[c7A,c7B,hl,isSome_some,getD_some,cond_true,Bool.not_true,cond_false,Bool.and_self]
def a2V (x:Int):Int:=bif decide (x < -21600)then -21600 else a2l x 21600
theorem c0W (x:Int):-21600<=a2V x /\ a2V x<=21600:=by
 unfold a2V a2l;by_cases h:x < -21600
 ·rw[show decide (x < -21600)=true by simpa using h,cond_true];omega
 ·rw[show decide (x < -21600)=false by simpa using h,cond_false];split<;>omega
theorem e4l (x:Int):f0Z (x,-21600,21600,())=some (a2V x,()):=by
 unfold f0Z a2V;have h:decide ((21600:Int) < -21600)=false:=by decide
 simp only[h,cond_false];cases decide (x < -21600)<;>rfl
def b7p (a b q:Nat):Nat:=a0a .add .f32 a (a0a .mul .f32 (a0a .sub .f32 b a) q)
def g4H (r:Int):Nat:=a0a .quo .f32 (nearest .f32 r) 1163984896
def h1d (a b:Nat×Nat) (q:Nat):Nat×Nat:=(b7p a.1 b.1 q,b7p a.2 b.2 q)
def c9Q (s:Den a1m) (off:Int):(Nat×Nat)×Bool×Unit:=
 bif !a5z (a2f s)then((0,0),false,())else
  bif ((a2V off+21600)%3600==0)then(atV (a2f s) ((a2V off+21600)/3600).toNat,true,())
  else(h1d (atV (a2f s) ((a2V off+21600)/3600).toNat) (atV (a2f s) ((a2V off+21600)/3600+1).toNat) (g4H ((a2V off+21600)%3600)),true,())
theorem e4m (s:Den a1m) (off:Int):f6a (s,off,())=some (c9Q s off):=by
 have e1:e6f (a2f s,())=some (a5z (a2f s),()):=c0P _ (by rw[b4T];decide);have e2:f0Z (off,-21600,21600,())=some (a2V off,()):=e4l off;have e3:∀a b q:Nat,g1v (a,b,q,())=some (b7p a b q,()):=fun _ _ _=>rfl
 obtain⟨c1,c2⟩:=c0W off;have hfl:[s.snd.fst.fst,s.snd.fst.snd.fst,s.snd.fst.snd.snd.fst,s.snd.fst.snd.snd.snd.fst,s.snd.fst.snd.snd.snd.snd.fst,s.snd.fst.snd.snd.snd.snd.snd.fst,s.snd.fst.snd.snd.snd.snd.snd.snd.fst,s.snd.fst.snd.snd.snd.snd.snd.snd.snd.fst,s.snd.fst.snd.snd.snd.snd.snd.snd.snd.snd.fst,s.snd.fst.snd.snd.snd.snd.snd.snd.snd.snd.snd.fst,s.snd.fst.snd.snd.snd.snd.snd.snd.snd.snd.snd.snd.fst,s.snd.fst.snd.snd.snd.snd.snd.snd.snd.snd.snd.snd.snd.fst,s.snd.fst.snd.snd.snd.snd.snd.snd.snd.snd.snd.snd.snd.snd.fst]=a2f s:=rfl;have ha:∀i,getD (a2f s) i (0,0)=atV (a2f s) i:=fun _=>rfl
 unfold f6a c9Q;simp only[hfl,e9J,e9K,e1,g2t,g2u,e2,isSome_some,getD_some,cond_true];generalize a2V off=c at *;have w1:IntKind.i64.wrap (c+21600)=c+21600:=w64 (by omega) (by omega);have t1:Int.tmod (c+21600) 3600=(c+21600)%3600:=Int.tmod_eq_emod_of_nonneg (by omega);have t2:Int.tdiv (c+21600) 3600=(c+21600)/3600:=Int.tdiv_eq_ediv_of_nonneg (by omega);have w2:IntKind.i64.wrap ((c+21600)/3600)=(c+21600)/3600:=w64 (by omega) (by omega);have w3:IntKind.i64.wrap ((c+21600)/3600+1)=(c+21600)/3600+1:=w64 (by omega) (by omega);have d1:(decide (0<=(c+21600)/3600)&&decide ((c+21600)/3600<13))=true:=by simp only[and_eq_true,decide_eq_true_eq];omega
 simp only[w1,t1,t2,w2,w3,d1,cond_true,ha];cases a5z (a2f s)
 ·rfl
 simp only[Bool.not_true,cond_false];by_cases hz:(c+21600)%3600=0
 ·rw[show((c+21600)%3600==0)=true by simpa using hz];rfl
 ·have d2:(decide (0<=(c+21600)/3600+1)&&decide ((c+21600)/3600+1<13))=true:=by simp only[and_eq_true,decide_eq_true_eq];omega
  rw[show((c+21600)%3600==0)=false by simpa using hz];simp only[cond_false,d2,cond_true,e6k,e6l,e3,isSome_some,getD_some];rfl
def a0P (td:Den S30) (p:Nat×Nat) (t:Int):(Nat×Nat)×Bool×Unit:=
 bif decide (a4f td p<0)||decide (hiV td t<0)then((0,0),false,())else c9Q (a3B td.1 (a4f td p).toNat) (t-a3e td.2.1 (hiV td t).toNat)
theorem c9R {td:Den S30} {p:Nat×Nat} (h:¬a4f td p<0):a3s td=true /\ a3d p=true /\ 0<=a4f td p /\ a4f td p<(td.1.length:Int):=by
 unfold a4f at h ⊢;cases hb:a3s td with
 |false=>rw[hb]at h;exact absurd h (by simp)
 | true =>
   cases hp:a3d p with
   |false=>rw[hb,hp]at h;exact absurd h (by simp)
   | true =>
     rw[hb,hp]at h;simp only[Bool.and_self,cond_true]at h ⊢;refine⟨trivial,trivial,?_⟩;have:=b2s td.1 p td.1.length 0 (-1,0) (.inl ⟨rfl,rfl⟩);have e:a1t (a2A td.1 p) (fun a=>((a.1,()),())) 0 td.1.length (-1,0)=d4w td.1 p:=rfl;rw[e,Nat.zero_add]at this;omega
theorem f3x {td:Den S30} {t:Int} (h:¬hiV td t<0):a3s td=true /\ (0<=t /\ t<=10000000) /\ 0<=hiV td t /\ hiV td t<(td.2.1.length:Int):=by
 obtain⟨st,hs,_⟩:=td;unfold hiV at h ⊢;cases hb:a3s (st,hs,())with
 |false=>rw[hb]at h;exact absurd h (by simp)
 | true =>
   cases ht:a0n t 0 10000000 with
   |false=>rw[hb,ht]at h;exact absurd h (by simp)
   | true =>
     rw[hb,ht]at h;simp only[Bool.and_self,cond_true]at h ⊢;simp only[a0n,and_eq_true,decide_eq_true_eq]at ht;refine⟨trivial,ht,?_⟩;have h1:=(a6R hb).2.1;have:=e4j hs t hs.length 0 0 (Int.le_refl 0) (.inr rfl);have e:a1t (a3H hs t) (fun b=>((b,()),())) 0 hs.length 0=hiR hs t:=rfl;rw[e,Nat.zero_add]at this;omega
theorem e4n (td:Den S30) (p:Nat×Nat) (t:Int) (h:a4y td):f6b (td,p,t,())=some (a0P td p t):=by
 have e1:f0U (td,p,())=some (a4f td p,()):=e4i td p h;have e2:f0X (td,t,())=some (hiV td t,()):=e4k td t h;unfold f6b a0P;simp only[g2k,g2l,e1,g2p,g2q,e2,isSome_some,getD_some,cond_true];by_cases h1:a4f td p<0
 ·simp only[h1,decide_true,cond_true,Bool.true_or]
 by_cases h2:hiV td t<0
 ·simp only[h1,h2,decide_true,decide_false,cond_true,cond_false,Bool.or_true]
 obtain⟨_,_,n3,n4⟩:=c9R h1;obtain⟨hb,ht,q3,q4⟩:=f3x h2;have d1:(decide (0<=a4f td p)&&decide (a4f td p<(td.1.length:Int)))=true:=by simp only[and_eq_true,decide_eq_true_eq];exact⟨n3,n4⟩
 have d2:(decide (0<=hiV td t)&&decide (hiV td t<(td.2.1.length:Int)))=true:=by simp only[and_eq_true,decide_eq_true_eq];exact⟨q3,q4⟩
 obtain⟨st,hs,_⟩:=td;have r3:=(a6R hb).2.2 (hiV (st,hs,()) t).toNat (by have q4:hiV (st,hs,()) t<(hs.length:Int):=q4;have q3:0<=hiV (st,hs,()) t:=q3;omega);have ha:∀i,getD hs i (zero (Ty.int IntKind.i64))=a3e hs i:=fun _=>rfl
 have hs':∀i,getD st i (zero a1m)=a3B st i:=fun _=>rfl
 have w1:IntKind.i64.wrap (t-a3e hs (hiV (st,hs,()) t).toNat)=t-a3e hs (hiV (st,hs,()) t).toNat:=w64 (by omega) (by omega);have e3:=e4m (a3B st (a4f (st,hs,()) p).toNat) (t-a3e hs (hiV (st,hs,()) t).toNat);simp only[h1,h2,d1,d2,decide_false,cond_false,cond_true,Bool.or_self,ha,hs',w1,g2w,g2x,e3,isSome_some,getD_some]
theorem e4o (t:Den S30) (p:Nat×Nat) (h:a4y t):f1O (t,p,())=some (a4f t p,()):=by
 have e1:e5T (t,())=some (a3s t,()):=b7j t h;have e2:F96 (p,())=some (a3d p,()):=a7M p;obtain⟨st,hs,_⟩:=t;obtain⟨h1,h2⟩:=h;have h1:st.length<=21:=h1;have hl:c0l ((p,(),-1,0,0,()),(st,hs,()),())=some (d4w st p):=by
  refine(b1N (q:=b4C) (fun k (a:Int×Nat)=>((p,(),a.1,a.2,(k:Int),()),(st,hs,()),())) st.length (a2A st p) (fun a=>((a.1,()),())) ?_ ?_ _ st.length 0 (-1,0) (by omega) ?_:_)
  ·intro k a f hk;unfold b4C;have d1:decide ((k:Int)<(st.length:Int))=true:=by simpa using hk
   have d2:decide (0<=(k:Int))=true:=by simp
   have ha:getD st k (zero a1m)=a3B st k:=rfl;have e4:e5V ((a0a .sub .f64 (a3B st k).fst.1 p.1,a0a .sub .f64 (a3B st k).fst.2 p.2),(a0a .sub .f64 (a3B st k).fst.1 p.1,a0a .sub .f64 (a3B st k).fst.2 p.2),())=some (b4Y (a3B st k).fst p,()):=rfl;unfold a2A;simp only[a2h k (by omega),d1,d2,Bool.and_self,cond_true,toNat_natCast,ha,d2s,d0R,e4,isSome_some,getD_some];cases decide (a.1<0)
   ·cases flt .f64 (b4Y (a3B st k).fst p) a.2<;>rfl
   ·rfl
  ·intro a f;simp[b4C]
  ·simp only[c8h];omega
 unfold f1O a4f;simp only[e1G,e1H,e1,K96,G96,e2,isSome_some,getD_some,cond_true,c8i,c8j,hl];cases a3s (st,hs,())
 ·rfl
 ·cases a3d p<;>rfl
theorem e4p (td:Den S30) (t:Int) (h:a4y td):f1R (td,t,())=some (hiV td t,()):=by
 have e1:e5T (td,())=some (a3s td,()):=b7j td h;have e2:F51 (t,0,10000000,())=some (a0n t 0 10000000,()):=a1F _ _ _;obtain⟨st,hs,_⟩:=td;obtain⟨_,h2⟩:=h;have h2:hs.length<=6:=h2;unfold f1R hiV;simp only[e1G,e1H,e1,K51,G51,e2,isSome_some,getD_some,cond_true];cases hb:a3s (st,hs,())
 ·rfl
 cases ht:a0n t 0 10000000
 ·rfl
 obtain⟨_,r2,r3⟩:=a6R hb;simp only[a0n,and_eq_true,decide_eq_true_eq]at ht;have hA:∀a:Int,0<=a /\ a<=10000000->f6I (a,t,())=some (a3O a t,()):=by
  intro a ha;unfold f6I a3O;simp only[];rw[w64 (x:=a-t) (by omega) (by omega),w64 (x:=t-a) (by omega) (by omega)];cases decide (a>t)<;>rfl
 have hfirst:hiR hs t=a1t (a3H hs t) (fun b=>((b,()),())) 1 (hs.length-1) 0:=by
  unfold hiR;obtain⟨m,hm⟩:∃m,hs.length=m+1:=⟨hs.length-1,by omega⟩;rw[hm];simp only[a1t];unfold a3H;have:decide (a3O (a3e hs 0) t<a3O (a3e hs (0:Int).toNat) t)=false:=by simp
  rw[this];rfl
 have hl:c0n ((t,(),0,1,()),(st,hs,()),())=some (hiR hs t):=by
  rw[hfirst];refine(a8R (q:=b4D) (fun k (b:Int)=>((t,(),b,(k:Int),()),(st,hs,()),())) hs.length (a3H hs t) (fun b=>((b,()),())) (fun k b=>0<=b /\ b<(hs.length:Int)) ?_ ?_ ?_ _ (hs.length-1) 1 0 (by omega) ?_ ⟨Int.le_refl 0,by omega⟩:_)
  ·intro k b f hk hb0;unfold b4D;have d1:decide ((k:Int)<(hs.length:Int))=true:=by simpa using hk
   have d2:decide (0<=(k:Int))=true:=by simp
   have d3:(decide (0<=b)&&decide (b<(hs.length:Int)))=true:=by simp only[and_eq_true,decide_eq_true_eq];exact hb0
   have ha:∀i,getD hs i (zero (Ty.int IntKind.i64))=a3e hs i:=fun _=>rfl
   have e3:=hA _ (r3 k hk);have e4:=hA _ (r3 b.toNat (by omega));unfold a3H;simp only[a2h k (by omega),d1,d2,d3,Bool.and_self,cond_true,toNat_natCast,ha,f6J,f6K,e3,e4,isSome_some,getD_some];cases decide (a3O (a3e hs k) t<a3O (a3e hs b.toNat) t)<;>rfl
  ·intro k b b' hk hb0 hn;unfold a3H at hn;have hn:=Sum.inl.inj hn;subst hn;cases decide (a3O (a3e hs k) t<a3O (a3e hs b.toNat) t)with
   |true=>exact⟨by show(0:Int)<=(k:Int);omega,by show(k:Int)<_;omega⟩
   |false=>exact hb0
  ·intro b f _;simp[b4D]
  ·simp only[c8k];omega
 simp only[c8l,c8m,hl,isSome_some,getD_some,cond_true,Bool.not_true,cond_false,Bool.and_self]
theorem e4q (x:Int):e2Y (x,-21600,21600,())=some (a2V x,()):=by
 unfold e2Y a2V a2l;have h:decide ((21600:Int) < -21600)=false:=by decide
 simp only[h,cond_false];cases decide (x < -21600)
 ·simp only[cond_false];by_cases h2:x>21600
  ·rw[show decide (x>21600)=true by simpa using h2,cond_true,if_pos (by omega)]
  ·rw[show decide (x>21600)=false by simpa using h2,cond_false,if_neg (by omega)]
 ·rfl
theorem e4r (s:Den a1m) (off:Int):f6L (s,off,())=some (c9Q s off):=by
 have e1:e5S (s,())=some (a5z (a2f s),()):=c9u s;have e2:e2Y (off,-21600,21600,())=some (a2V off,()):=e4q off;have e3:∀a b q:Nat,f9w (a,b,q,())=some (g4G a b q,()):=fun _ _ _=>rfl
 obtain⟨c1,c2⟩:=c0W off;have hfl:[s.snd.fst.fst,s.snd.fst.snd.fst,s.snd.fst.snd.snd.fst,s.snd.fst.snd.snd.snd.fst,s.snd.fst.snd.snd.snd.snd.fst,s.snd.fst.snd.snd.snd.snd.snd.fst,s.snd.fst.snd.snd.snd.snd.snd.snd.fst,s.snd.fst.snd.snd.snd.snd.snd.snd.snd.fst,s.snd.fst.snd.snd.snd.snd.snd.snd.snd.snd.fst,s.snd.fst.snd.snd.snd.snd.snd.snd.snd.snd.snd.fst,s.snd.fst.snd.snd.snd.snd.snd.snd.snd.snd.snd.snd.fst,s.snd.fst.snd.snd.snd.snd.snd.snd.snd.snd.snd.snd.snd.fst,s.snd.fst.snd.snd.snd.snd.snd.snd.snd.snd.snd.snd.snd.snd.fst]=a2f s:=rfl;have ha:∀i,getD (a2f s) i (0,0)=atV (a2f s) i:=fun _=>rfl
 unfold f6L c9Q;simp only[hfl,e7S,e7T,e1,e6w,d0W,e2,isSome_some,getD_some,cond_true];generalize a2V off=c at *;have w1:IntKind.i64.wrap (c+21600)=c+21600:=w64 (by omega) (by omega);have t1:Int.tmod (c+21600) 3600=(c+21600)%3600:=Int.tmod_eq_emod_of_nonneg (by omega);have t2:Int.tdiv (c+21600) 3600=(c+21600)/3600:=Int.tdiv_eq_ediv_of_nonneg (by omega);have w2:IntKind.i64.wrap ((c+21600)/3600)=(c+21600)/3600:=w64 (by omega) (by omega);have w3:IntKind.i64.wrap ((c+21600)/3600+1)=(c+21600)/3600+1:=w64 (by omega) (by omega);have d1:(decide (0<=(c+21600)/3600)&&decide ((c+21600)/3600<13))=true:=by simp only[and_eq_true,decide_eq_true_eq];omega
 simp only[w1,t1,t2,w2,w3,d1,cond_true,ha];cases a5z (a2f s)
 ·rfl
 simp only[Bool.not_true,cond_false];by_cases hz:(c+21600)%3600=0
 ·rw[show((c+21600)%3600==0)=true by simpa using hz];rfl
 ·have d2:(decide (0<=(c+21600)/3600+1)&&decide ((c+21600)/3600+1<13))=true:=by simp only[and_eq_true,decide_eq_true_eq];omega
  rw[show((c+21600)%3600==0)=false by simpa using hz];simp only[cond_false,d2,cond_true,e5Z,e6a,e3,isSome_some,getD_some];rfl
theorem e4s (td:Den S30) (p:Nat×Nat) (t:Int) (h:a4y td):f6M (td,p,t,())=some (a0P td p t):=by
 have e1:f1O (td,p,())=some (a4f td p,()):=e4o td p h;have e2:f1R (td,t,())=some (hiV td t,()):=e4p td t h;unfold f6M a0P;simp only[g3y,g3z,e1,g3D,g3E,e2,isSome_some,getD_some,cond_true];by_cases h1:a4f td p<0
 ·simp only[h1,decide_true,cond_true,Bool.true_or]
 by_cases h2:hiV td t<0
 ·simp only[h1,h2,decide_true,decide_false,cond_true,cond_false,Bool.or_true]
 obtain⟨_,_,n3,n4⟩:=c9R h1;obtain⟨hb,ht,q3,q4⟩:=f3x h2;have d1:(decide (0<=a4f td p)&&decide (a4f td p<(td.1.length:Int)))=true:=by simp only[and_eq_true,decide_eq_true_eq];exact⟨n3,n4⟩
 have d2:(decide (0<=hiV td t)&&decide (hiV td t<(td.2.1.length:Int)))=true:=by simp only[and_eq_true,decide_eq_true_eq];exact⟨q3,q4⟩
 obtain⟨st,hs,_⟩:=td;have r3:=(a6R hb).2.2 (hiV (st,hs,()) t).toNat (by have q4:hiV (st,hs,()) t<(hs.length:Int):=q4;have q3:0<=hiV (st,hs,()) t:=q3;omega);have ha:∀i,getD hs i (zero (Ty.int IntKind.i64))=a3e hs i:=fun _=>rfl
 have hs':∀i,getD st i (zero a1m)=a3B st i:=fun _=>rfl
 have w1:IntKind.i64.wrap (t-a3e hs (hiV (st,hs,()) t).toNat)=t-a3e hs (hiV (st,hs,()) t).toNat:=w64 (by omega) (by omega);have e3:=e4r (a3B st (a4f (st,hs,()) p).toNat) (t-a3e hs (hiV (st,hs,()) t).toNat);simp only[h1,h2,d1,d2,decide_false,cond_false,cond_true,Bool.or_self,ha,hs',w1,g3H,g3I,e3,isSome_some,getD_some]
set_option maxRecDepth 100000
set_option maxHeartbeats 0
abbrev Yv:Type:=Den S46
namespace Yv
def tm (Y:Yv):Int:=Y.2.1
def ps (Y:Yv):Nat×Nat:=Y.2.2.1
def hd (Y:Yv):Int:=Y.2.2.2.1
def wd (Y:Yv):Nat×Nat:=Y.2.2.2.2.1
def sl (Y:Yv):Int:=Y.2.2.2.2.2.1
def tk (Y:Yv):List (Den S97):=Y.2.2.2.2.2.2.1
def lg (Y:Yv):List ByteArray:=Y.2.2.2.2.2.2.2.1
def sails (Y:Yv):List (Den S68):=Y.1.2.2.1
def setHd (Y:Yv) (h:Int):Yv:=(Y.1,Y.2.1,Y.2.2.1,h,Y.2.2.2.2)
def setWd (Y:Yv) (w:Nat×Nat):Yv:=(Y.1,Y.2.1,Y.2.2.1,Y.2.2.2.1,w,Y.2.2.2.2.2)
def setSl (Y:Yv) (k:Int):Yv:=(Y.1,Y.2.1,Y.2.2.1,Y.2.2.2.1,Y.2.2.2.2.1,k,Y.2.2.2.2.2.2)
def setPs (Y:Yv) (p:Nat×Nat):Yv:=(Y.1,Y.2.1,p,Y.2.2.2)
def setGo (Y:Yv) (t:Int) (p:Nat×Nat) (tr:List (Den S97)):Yv:=(Y.1,t,p,Y.2.2.2.1,Y.2.2.2.2.1,Y.2.2.2.2.2.1,tr,Y.2.2.2.2.2.2.2)
def setLg (Y:Yv) (l:List ByteArray):Yv:=(Y.1,Y.2.1,Y.2.2.1,Y.2.2.2.1,Y.2.2.2.2.1,Y.2.2.2.2.2.1,Y.2.2.2.2.2.2.1,l,())
end Yv
abbrev I68:Sg:=⟨[.ptr 0,.val (.slice (.str))],[.boxC [.sl (.flt .f32),.sl (.int .i64),.sl (.slice (.flt .f32)),.sl (a1m),.sl (.int .i64),.sl (S68),.int .i64,.int .i64,.int .i64,.int .i64,.sl (a2n),.int .i64,.int .i64,.int .i64,.int .i64,.int .i64,.cpx .f64,.int .i64,.cpx .f32,.int .i64,.ref (S97) 1,.ref (.str) 2],.arr (S97),.arr (.str)]⟩
abbrev O68:Sg:=⟨[.val (.bool)],[.boxC [.sl (.flt .f32),.sl (.int .i64),.sl (.slice (.flt .f32)),.sl (a1m),.sl (.int .i64),.sl (S68),.int .i64,.int .i64,.int .i64,.int .i64,.sl (a2n),.int .i64,.int .i64,.int .i64,.int .i64,.int .i64,.cpx .f64,.int .i64,.cpx .f32,.int .i64,.ref (S97) 3,.ref (.str) 2],.gone,.arr (.str),.arr (S97)]⟩
def a3I:ByteArray:={ data:=#[115,116,101,101,114] }
def a7t:ByteArray:={ data:=#[119,105,110,100] }
def a9u:ByteArray:={ data:=#[115,97,105,108] }
def b0a:ByteArray:={ data:=#[110,111,110,101] }
def c9S:ByteArray:={ data:=#[102,105,120] }
def sGo:ByteArray:={ data:=#[103,111] }
def yIn (x:I68.den):Yv:=(((x.2.1.1,x.2.1.2.1,x.2.1.2.2.1,()),(x.2.1.2.2.2.1,x.2.1.2.2.2.2.1,()),x.2.1.2.2.2.2.2.1,(((x.2.1.2.2.2.2.2.2.1,x.2.1.2.2.2.2.2.2.2.1,()),(x.2.1.2.2.2.2.2.2.2.2.1,x.2.1.2.2.2.2.2.2.2.2.2.1,()),()),x.2.1.2.2.2.2.2.2.2.2.2.2.1,((x.2.1.2.2.2.2.2.2.2.2.2.2.2.1,x.2.1.2.2.2.2.2.2.2.2.2.2.2.2.1,()),(x.2.1.2.2.2.2.2.2.2.2.2.2.2.2.2.1,x.2.1.2.2.2.2.2.2.2.2.2.2.2.2.2.2.1,()),()),()),()),
 x.2.1.2.2.2.2.2.2.2.2.2.2.2.2.2.2.2.1,x.2.1.2.2.2.2.2.2.2.2.2.2.2.2.2.2.2.2.1,x.2.1.2.2.2.2.2.2.2.2.2.2.2.2.2.2.2.2.2.1,x.2.1.2.2.2.2.2.2.2.2.2.2.2.2.2.2.2.2.2.2.1,x.2.1.2.2.2.2.2.2.2.2.2.2.2.2.2.2.2.2.2.2.2.1,x.2.2)
def c3t (b:Bool) (Y:Yv):O68.den:=((b,()),(Y.1.1.1,Y.1.1.2.1,Y.1.1.2.2.1,Y.1.2.1.1,Y.1.2.1.2.1,Y.1.2.2.1,Y.1.2.2.2.1.1.1.1,Y.1.2.2.2.1.1.1.2.1,Y.1.2.2.2.1.1.2.1.1,Y.1.2.2.2.1.1.2.1.2.1,Y.1.2.2.2.1.2.1,Y.1.2.2.2.1.2.2.1.1.1,Y.1.2.2.2.1.2.2.1.1.2.1,Y.1.2.2.2.1.2.2.1.2.1.1,Y.1.2.2.2.1.2.2.1.2.1.2.1,
 Y.2.1,Y.2.2.1,Y.2.2.2.1,Y.2.2.2.2.1,Y.2.2.2.2.2.1,(),(),()),(),Y.lg,Y.tk,())
section
variable {R:Type} (f:List ByteArray)
def ixB (k:Int):Bool:=decide (k<(↑(length f):Int))
def fAt (k:Int):ByteArray:=getD f (toNat k) (zero Ty.str)
def kpK (Y:Yv) (h:Bool->Yv->Option R):Option R:=
 bif decide (Y.sl ≥ 0)then
 bif K19 (Y,())then
 bif (G19 (Y,())).2.1 then
 bif f6n (Y.sails,Y.sl,(G19 (Y,())).1,())then h true (Y.setSl (f6o (Y.sails,Y.sl,(G19 (Y,())).1,())).1)else none
 else h true (Y.setSl (-1))
 else none
 else h true Y
def a7u (Y:Yv) (h:Bool->Yv->Option R):Option R:=
 bif ixB f 0 then
 bif a0O (fAt f 0) a3I then kpK Y h
 else bif ixB f 0 then bif a0O (fAt f 0) a7t then kpK Y h else h true Y else none
 else none
def b0Y (Y:Yv) (h:Bool->Yv->Option R):Option R:=
 bif ixB f 1 then
 bif K17 (fAt f 1,())then
 bif !(G17 (fAt f 1,())).2.1 then h false Y
 else bif decide ((G17 (fAt f 1,())).1>359)then h false Y
 else a7u f (Y.setHd (G17 (fAt f 1,())).1) h
 else none
 else none
def slB:Bool:=decide (1<=(↑(length f):Int))&&decide ((↑(length f):Int)<=(↑(length f):Int))
def a9L:List ByteArray:=List.drop (toNat 1) (List.take (toNat (↑(length f):Int)) f)
def a7O (p:Nat×Nat×Bool×Unit):Nat×Nat:=((a0u .f64 .f32 p.1).2,(a0u .f64 .f32 p.2.1).2)
def c2M (Y:Yv) (h:Bool->Yv->Option R):Option R:=
 bif slB f then
 bif f0L (a9L f,())then
 bif (a0u .f64 .f32 (a9W (a9L f,())).1).1 then
 bif (a0u .f64 .f32 (a9W (a9L f,())).2.1).1 then
 bif !(a9W (a9L f,())).2.2.1 then h false Y
 else bif K45 (a7O (a9W (a9L f,())),())then
 bif !(G45 (a7O (a9W (a9L f,())),())).1 then h false Y
 else bif !(feq .f32 Y.wd.1 0&&feq .f32 Y.wd.2 0)then
 bif f5P (Y.wd,a7O (a9W (a9L f,())),1056964608,())then
 bif !(e2H (Y.wd,a7O (a9W (a9L f,())),1056964608,())).2.1 then h false Y
 else bif K45 ((e2H (Y.wd,a7O (a9W (a9L f,())),1056964608,())).1,())then
 bif !(G45 ((e2H (Y.wd,a7O (a9W (a9L f,())),1056964608,())).1,())).1 then h false Y
 else a7u f (Y.setWd (e2H (Y.wd,a7O (a9W (a9L f,())),1056964608,())).1) h
 else none
 else none
 else a7u f (Y.setWd (a7O (a9W (a9L f,())))) h
 else none
 else none
 else none
 else none
 else none
def c2N (Y:Yv) (h:Bool->Yv->Option R):Option R:=
 bif ixB f 1 then
 bif a0O (fAt f 1) b0a then h true (Y.setSl (-1))
 else bif ixB f 1 then
 bif e6g (Y.sails,fAt f 1,())then
 bif K19 (Y,())then
 bif decide ((c6S (Y.sails,fAt f 1,())).1<0)then h false Y
 else bif !(G19 (Y,())).2.1 then h false Y
 else bif decide (0<=(c6S (Y.sails,fAt f 1,())).1)&&decide ((c6S (Y.sails,fAt f 1,())).1<(↑(length Y.sails):Int))then
 bif e2I (getD Y.sails (toNat (c6S (Y.sails,fAt f 1,())).1) (zero S68),(G19 (Y,())).1,())then
 bif !(e2J (getD Y.sails (toNat (c6S (Y.sails,fAt f 1,())).1) (zero S68),(G19 (Y,())).1,())).1 then h false Y
 else a7u f (Y.setSl (c6S (Y.sails,fAt f 1,())).1) h
 else none
 else none
 else none
 else none
 else none
 else none
def e6G (Y:Yv) (h:Bool->Yv->Option R):Option R:=
 bif slB f then
 bif f0L (a9L f,())then
 bif K23 (((a9W (a9L f,())).1,(a9W (a9L f,())).2.1),())then
 bif !(a9W (a9L f,())).2.2.1 then h false Y
 else bif !(G23 (((a9W (a9L f,())).1,(a9W (a9L f,())).2.1),())).2.1 then h false Y
 else a7u f (Y.setPs ((a9W (a9L f,())).1,(a9W (a9L f,())).2.1)) h
 else none
 else none
 else none
def b7q (Y:Yv) (n t:Int) (s:Nat) (h:Bool->Yv->Option R):Option R:=
 bif f6j (Y.ps,Y.tm,set (replicate 1 (zero a2z)) 0 (Y.hd,s,n,()),Y.1.2.1,())then
 bif K23 ((d8J (Y.ps,Y.tm,set (replicate 1 (zero a2z)) 0 (Y.hd,s,n,()),Y.1.2.1,())).1,())then
 bif !(d8J (Y.ps,Y.tm,set (replicate 1 (zero a2z)) 0 (Y.hd,s,n,()),Y.1.2.1,())).2.1 then h false Y
 else bif !(G23 ((d8J (Y.ps,Y.tm,set (replicate 1 (zero a2z)) 0 (Y.hd,s,n,()),Y.1.2.1,())).1,())).2.1 then h false Y
 else bif a0j (length Y.tk+1)then
 a7u f (Y.setGo t (d8J (Y.ps,Y.tm,set (replicate 1 (zero a2z)) 0 (Y.hd,s,n,()),Y.1.2.1,())).1 (Y.tk++[((G23 ((d8J (Y.ps,Y.tm,set (replicate 1 (zero a2z)) 0 (Y.hd,s,n,()),Y.1.2.1,())).1,())).1,t,())])) h
 else none
 else none
 else none
def goK (Y:Yv) (h:Bool->Yv->Option R):Option R:=
 bif ixB f 1 then
 bif K17 (fAt f 1,())then
 bif !(G17 (fAt f 1,())).2.1 then h false Y
 else bif K44 ((G17 (fAt f 1,())).1,1,3600,())then
 bif !(G44 ((G17 (fAt f 1,())).1,1,3600,())).1 then h false Y
 else bif decide (wrap .i64 (Y.tm+(G17 (fAt f 1,())).1)>10000000)then h false Y
 else bif decide ((↑(length Y.tk):Int) ≥ 200)then h false Y
 else bif decide (Y.sl ≥ 0)then
 bif K57 (Y,())then b7q f Y (G17 (fAt f 1,())).1 (wrap .i64 (Y.tm+(G17 (fAt f 1,())).1)) (G57 (Y,())).1 h else none
 else b7q f Y (G17 (fAt f 1,())).1 (wrap .i64 (Y.tm+(G17 (fAt f 1,())).1)) 0 h
 else none
 else none
 else none
def b0b (n:Int) (s:ByteArray) (a b:Option R):Option R:=
 bif (↑(length f):Int)==n then bif ixB f 0 then bif a0O (fAt f 0) s then a else b else none else b
def c2O (Y:Yv) (h:Bool->Yv->Option R):Option R:=
 b0b f 2 a3I (b0Y f Y h)
 (b0b f 3 a7t (c2M f Y h)
 (b0b f 2 a9u (c2N f Y h)
 (b0b f 3 c9S (e6G f Y h)
 (b0b f 2 sGo (goK f Y h) (h false Y)))))
end
def F68 (x:I68.den):Option (O68.den):=c2O x.1.2.1 (yIn x) fun b Y=>some (c3t b Y)
def K68 (x):=(F68 x).isSome
def G68 (x):=(F68 x).getD (a0R O68)
def m68:=(68,a0y true I68 O68 K68 G68)
theorem g4I:a0d Tryz.prog m68:=sgE true (s7c g1R f0M b1Z f0P d7P f0B d8x (s5 e9L a5X f0w f1j f1m)) Tryz.func68 (rown:=[.mv 0 20 1])
def a1P (Y:Yv):Nat:=bif decide (a1u Y.wd<0)then 0 else(a9t Y.1.1 (a4M Y.wd) (btw Y.hd (a1u Y.wd))).1
theorem e0g (Y:Yv):F57 (Y,())=some (a1P Y,()):=by
 have e1:f0k (Y.wd,())=some (a1u Y.wd,()):=c9N _;have e2:f0q (Y.wd,())=some (a4M Y.wd,()):=c9L _;have e3:f0r (Y.hd,a1u Y.wd,())=some (btw Y.hd (a1u Y.wd),()):=c9z _ _;have e4:=e4c Y.1.1 (a4M Y.wd) (btw Y.hd (a1u Y.wd));unfold F57 a1P;show(bif e6h (Y.wd,())then _ else _)=_;have k1:e6h (Y.wd,())=true:=isS e1;have g1:d3j (Y.wd,())=(a1u Y.wd,()):=gtS e1;have k2:e6i (Y.wd,())=true:=isS e2;have g2:e2A (Y.wd,())=(a4M Y.wd,()):=gtS e2;have k3:e6j (Y.hd,a1u Y.wd,())=true:=isS e3;have g3:e2B (Y.hd,a1u Y.wd,())=(btw Y.hd (a1u Y.wd),()):=gtS e3;have k4:f5A (Y.1.1,a4M Y.wd,btw Y.hd (a1u Y.wd),())=true:=isS e4;have g4:f5B (Y.1.1,a4M Y.wd,btw Y.hd (a1u Y.wd),())=a9t Y.1.1 (a4M Y.wd) (btw Y.hd (a1u Y.wd)):=gtS e4;rw[k1,cond_true];show(bif decide ((d3j (Y.wd,())).1<0)then _ else bif e6i (Y.wd,())then bif e6j (Y.hd,d3j (Y.wd,()))then bif f5A (Y.1.1,(e2A (Y.wd,())).1,e2B (Y.hd,d3j (Y.wd,())))then some ((f5B (Y.1.1,(e2A (Y.wd,())).1,e2B (Y.hd,d3j (Y.wd,())))).1,())else none else none else none)=_;rw[g1,k2,g2,k3,g3];dsimp only;rw[k4,g4];cases decide (a1u Y.wd<0)<;>rfl
theorem c9T (Y:Yv):f5c (Y,())=some (a1P Y,()):=by
 have e1:e8s (Y.wd,())=some (a1u Y.wd,()):=c9O _;have e2:e8x (Y.wd,())=some (a4M Y.wd,()):=c9M _;have e3:e8y (Y.hd,a1u Y.wd,())=some (btw Y.hd (a1u Y.wd),()):=c9A _ _;have e4:=e4d Y.1.1 (a4M Y.wd) (btw Y.hd (a1u Y.wd));unfold f5c a1P;show(bif e5W (Y.wd,())then _ else _)=_;have k1:e5W (Y.wd,())=true:=isS e1;have g1:d2u (Y.wd,())=(a1u Y.wd,()):=gtS e1;have k2:e5X (Y.wd,())=true:=isS e2;have g2:e1N (Y.wd,())=(a4M Y.wd,()):=gtS e2;have k3:e5Y (Y.hd,a1u Y.wd,())=true:=isS e3;have g3:e1R (Y.hd,a1u Y.wd,())=(btw Y.hd (a1u Y.wd),()):=gtS e3;have k4:f5a (Y.1.1,a4M Y.wd,btw Y.hd (a1u Y.wd),())=true:=isS e4;have g4:f5b (Y.1.1,a4M Y.wd,btw Y.hd (a1u Y.wd),())=a9t Y.1.1 (a4M Y.wd) (btw Y.hd (a1u Y.wd)):=gtS e4;rw[k1,cond_true];show(bif decide ((d2u (Y.wd,())).1<0)then _ else bif e5X (Y.wd,())then bif e5Y (Y.hd,d2u (Y.wd,()))then bif f5a (Y.1.1,(e1N (Y.wd,())).1,e1R (Y.hd,d2u (Y.wd,())))then some ((f5b (Y.1.1,(e1N (Y.wd,())).1,e1R (Y.hd,d2u (Y.wd,())))).1,())else none else none else none)=_;rw[g1,k2,g2,k3,g3];dsimp only;rw[k4,g4];cases decide (a1u Y.wd<0)<;>rfl
def e0h (u:Nat×Nat) (s:Nat):Nat×Nat:=(a0a .mul .f32 (a0u .f64 .f32 u.1).2 s,a0a .mul .f32 (a0u .f64 .f32 u.2).2 s)
def a7P (k:Int) (s:Nat):(Nat×Nat)×Bool×Unit:=bif !a3z s then((0,0),false,())else(e0h (a0U (md k)) s,true,())
theorem b0Z (k:Nat) (hk:k<360):(a0u .f64 .f32 (a0U k).2).1=true:=a6Q (tsR hk) ((e0b hk).2.mono (by decide +kernel))
theorem e4t (k:Nat) (hk:k<360) (s:Nat):f5D (a0U k,s,())=some (e0h (a0U k) s,()):=by
 unfold f5D;dsimp only;rw[b4X k hk,b0Z k hk];rfl
theorem e0i (k:Int) (s:Nat):F56 (k,s,())=some (a7P k s):=by
 have e1:=b7i s;have e2:=e3R k;have e3:=e4t (md k) (a8a k) s;unfold F56 a7P;dsimp only;simp only[e2l,e2m,e1,g1G,g1H,e2,g1K,g1L,e3,isSome_some,getD_some,cond_true];cases a3z s<;>rfl
theorem c9U (k:Int) (s:Nat):e8C (k,s,())=some (a7P k s):=by
 have e2:=e3S k;unfold e8C a7P;dsimp only;simp only[f9E,f9F,e2,isSome_some,getD_some,cond_true,b4X _ (a8a k),b0Z _ (a8a k)];show(bif fge s 0 then bif !(fle s 1112014848)then _ else _ else _)=_;unfold a3z;cases fge s 0
 ·rfl
 ·cases fle s 1112014848<;>rfl
def apV (w v:Nat×Nat):(Nat×Nat)×Bool×Unit:=bif !a1K w then((0,0),false,())else bif !a1K v then((0,0),false,())else((a0a .sub .f32 w.1 v.1,a0a .sub .f32 w.2 v.2),true,())
theorem e4u (w v:Nat×Nat):f5E (w,v,())=some (apV w v):=by
 have e1:=a4G w;have e2:=a4G v;unfold f5E apV;dsimp only;simp only[K45,G45,e1,e2,isSome_some,getD_some,cond_true];cases a1K w
 ·rfl
 ·cases a1K v<;>rfl
theorem e4v (w v:Nat×Nat):f5e (w,v,())=some (apV w v):=by
 have e1:=a4H w;have e2:=a4H v;unfold f5e apV;dsimp only;simp only[K52,G52,e1,e2,isSome_some,getD_some,cond_true];cases a1K w
 ·rfl
 ·cases a1K v<;>rfl
def d1e (w v:Nat×Nat) (k:Int):Den R58:=
 bif !(apV w v).2.1 then((0,0,()),false,())else bif decide (a1u (apV w v).1<0)then((0,0,()),false,())else((a4M (apV w v).1,btw k (a1u (apV w v).1),()),true,())
theorem f3y (w v:Nat×Nat) (k:Int):F58 (w,v,k,())=some (d1e w v k):=by
 have e1:=e4u w v;have e2:=c9N (apV w v).1;have e3:=c9L (apV w v).1;have e4:=c9z k (a1u (apV w v).1);unfold F58 d1e;dsimp only;simp only[g1N,g1O,e1,e6h,d3j,e2,e6i,e2A,e3,e6j,e2B,e4,isSome_some,getD_some,cond_true];cases (apV w v).2.1
 ·rfl
 ·cases decide (a1u (apV w v).1<0)<;>rfl
theorem e4w (w v:Nat×Nat) (k:Int):f5f (w,v,k,())=some (d1e w v k):=by
 have e1:=e4v w v;have e2:=c9O (apV w v).1;have e3:=c9M (apV w v).1;have e4:=c9A k (a1u (apV w v).1);unfold f5f d1e;dsimp only;simp only[f9J,f9K,e1,e5W,d2u,e2,e5X,e1N,e3,e5Y,e1R,e4,isSome_some,getD_some,cond_true];cases (apV w v).2.1
 ·rfl
 ·cases decide (a1u (apV w v).1<0)<;>rfl
def a2k (Y:Yv):Den R19:=bif !(a7P Y.hd (a1P Y)).2.1 then((0,0,()),false,())else d1e Y.wd (a7P Y.hd (a1P Y)).1 Y.hd
def a1l (Y:Yv):Den R19:=d1e Y.wd (a7P Y.hd (a1P Y)).1 Y.hd
theorem c9V (Y:Yv):F19 (Y,())=some (a2k Y):=by
 have e1:=e0g Y;have e2:=e0i Y.hd (a1P Y);have e3:=f3y Y.wd (a7P Y.hd (a1P Y)).1 Y.hd;have k1:K57 (Y,())=true:=isS e1;have g1:G57 (Y,())=(a1P Y,()):=gtS e1;have k2:K56 (Y.hd,a1P Y,())=true:=isS e2;have g2:G56 (Y.hd,a1P Y,())=a7P Y.hd (a1P Y):=gtS e2;have k3:K58 (Y.wd,(a7P Y.hd (a1P Y)).1,Y.hd,())=true:=isS e3;have g3:G58 (Y.wd,(a7P Y.hd (a1P Y)).1,Y.hd,())=d1e Y.wd (a7P Y.hd (a1P Y)).1 Y.hd:=gtS e3;unfold F19 a2k;show(bif K57 (Y,())then bif K56 (Y.hd,G57 (Y,()))then bif !(G56 (Y.hd,G57 (Y,()))).2.1 then _ else bif K58 (Y.wd,(G56 (Y.hd,G57 (Y,()))).1,Y.hd,())then some (G58 (Y.wd,(G56 (Y.hd,G57 (Y,()))).1,Y.hd,()))else none else none else none)=_;rw[k1,g1,k2,g2,k3,g3];cases (a7P Y.hd (a1P Y)).2.1<;>rfl
theorem c9W (Y:Yv):F54 (Y,())=some (a1l Y):=by
 have e1:=c9T Y;have e2:=c9U Y.hd (a1P Y);have e3:=e4w Y.wd (a7P Y.hd (a1P Y)).1 Y.hd;have k1:e6d (Y,())=true:=isS e1;have g1:d6E (Y,())=(a1P Y,()):=gtS e1;have k2:e6e (Y.hd,a1P Y,())=true:=isS e2;have g2:e1S (Y.hd,a1P Y,())=a7P Y.hd (a1P Y):=gtS e2;have k3:f5g (Y.wd,(a7P Y.hd (a1P Y)).1,Y.hd,())=true:=isS e3;have g3:f5h (Y.wd,(a7P Y.hd (a1P Y)).1,Y.hd,())=d1e Y.wd (a7P Y.hd (a1P Y)).1 Y.hd:=gtS e3;unfold F54 a1l;show(bif e6d (Y,())then bif e6e (Y.hd,d6E (Y,()))then bif f5g (Y.wd,(e1S (Y.hd,d6E (Y,()))).1,Y.hd,())then some (f5h (Y.wd,(e1S (Y.hd,d6E (Y,()))).1,Y.hd,()))else none else none else none)=_;rw[k1,g1,k2,g2,k3,g3];rfl
theorem f3z (a b:Int):0<=btw a b /\ btw a b<=180:=by
 have h:md ((md b:Int)-(md a:Int))<360:=a8a _;unfold btw;dsimp only;split<;>omega
theorem e4x:I64 0:=⟨by decide,by decide⟩
theorem c0X (w v:Nat×Nat) (k:Int):I64 (d1e w v k).1.2.1:=by
 have:=f3z k (a1u (apV w v).1);unfold d1e;cases (apV w v).2.1
 ·exact e4x
 ·cases decide (a1u (apV w v).1<0)
  ·show I64 (btw k (a1u (apV w v).1));unfold I64;omega
  ·exact e4x
theorem b4Z (Y:Yv):I64 (a2k Y).1.2.1:=by
 unfold a2k;cases (a7P Y.hd (a1P Y)).2.1
 ·exact e4x
 ·exact c0X _ _ _
theorem b5a (Y:Yv):I64 (a1l Y).1.2.1:=c0X _ _ _
theorem c9X (neg:Bool) (M c v d:Nat) (h0:0<M) (h:M*2^c=v*2^d) (hv53:v<2^53) (hd:d<=1500) :
 ∃K e:Nat,Ieee.double.nearest neg M ((c:Int)-1074)=Ieee.double.word neg (e*2^52+K) /\ e*2^52+K<2047*2^52 /\ ((e=0 /\ K<=2^53)∨(2^52<=K /\ K<=2^53)) /\ K*2^e=M*2^c:=by
 have l1:2^M.log2<=M:=Nat.log2_self_le (by omega);have l2:M<2^(M.log2+1):=Nat.lt_log2_self;have hlc:M.log2+c<53+d:=by
  have h1:2^(M.log2+c)<=M*2^c:=by rw[Nat.pow_add];exact Nat.mul_le_mul_right _ l1
  have h2:v*2^d<2^(53+d):=by
   rw[Nat.pow_add 2 53 d];exact Nat.mul_lt_mul_of_pos_right hv53 (Nat.two_pow_pos _)
  rw[<- h]at h2;exact(Nat.pow_lt_pow_iff_right (a:=2) (by decide)).1 (Nat.lt_of_le_of_lt h1 h2)
 unfold Ieee.Format.nearest;rw[if_neg (by omega),g4C,e3G,b7g,b7f];dsimp only;generalize hL:M.log2=L at *;by_cases hs:L<=52
 ·by_cases hd:L+c<52
  ·have hlast:max ((c:Int)-1074+(L:Int)-(52:Nat)) (-1074)=-1074:=by omega
   rw[hlast];have e1:((c:Int)-1074 - -1074).toNat=c:=by omega
   have e2:(-1074-((c:Int)-1074)).toNat=0:=by omega
   have e3:((-1074:Int) - -1074).toNat=0:=by decide
   rw[e1,e2,e3,a5c,Nat.shiftLeft_eq];have hk:M*2^c<2^53:=by
    calc M*2^c<2^(L+1)*2^c:=Nat.mul_lt_mul_of_pos_right l2 (Nat.two_pow_pos _)
     _=2^(L+1+c):=by rw[<- Nat.pow_add]
     _<=2^53:=Nat.pow_le_pow_right (by decide) (by omega)
   have hx:0*2^52+M*2^c<2047*2^52:=by rw[Nat.zero_mul,Nat.zero_add];exact Nat.lt_trans hk (by decide)
   refine⟨M*2^c,0,?_,hx,.inl ⟨Eq.refl 0,Nat.le_of_lt hk⟩,?_⟩
   ·rw[Nat.min_eq_left (Nat.le_of_lt hx)]
   ·rw[Nat.pow_zero,Nat.mul_one]
  ·have hlast:max ((c:Int)-1074+(L:Int)-(52:Nat)) (-1074)=(c:Int)-1074+(L:Int)-52:=by omega
   rw[hlast];have e1:((c:Int)-1074-((c:Int)-1074+(L:Int)-52)).toNat=52-L:=by omega
   have e2:(((c:Int)-1074+(L:Int)-52)-((c:Int)-1074)).toNat=0:=by omega
   have e3:(((c:Int)-1074+(L:Int)-52) - -1074).toNat=c+L-52:=by omega
   rw[e1,e2,e3,a5c,Nat.shiftLeft_eq];have hk1:M*2^(52-L)<2^53:=by
    calc M*2^(52-L)<2^(L+1)*2^(52-L):=Nat.mul_lt_mul_of_pos_right l2 (Nat.two_pow_pos _)
     _=2^(L+1+(52-L)):=by rw[<- Nat.pow_add]
     _=2^53:=by congr 1;omega
   have hk2:2^52<=M*2^(52-L):=by
    calc 2^52=2^(L+(52-L)):=by congr 1;omega
     _=2^L*2^(52-L):=by rw[<- Nat.pow_add]
     _<=M*2^(52-L):=Nat.mul_le_mul_right _ l1
   have hv:M*2^(52-L)*2^(c+L-52)=M*2^c:=by
    rw[Nat.mul_assoc,<- Nat.pow_add];congr 2;omega
   refine⟨M*2^(52-L),c+L-52,?_,by generalize M*2^(52-L)=q at *;clear l1 l2;omega,.inr ⟨hk2,Nat.le_of_lt hk1⟩,hv⟩;rw[Nat.min_eq_left (by omega)]
 ·have hlast:max ((c:Int)-1074+(L:Int)-(52:Nat)) (-1074)=(c:Int)-1074+(L:Int)-52:=by omega
  rw[hlast];have e1:((c:Int)-1074-((c:Int)-1074+(L:Int)-52)).toNat=0:=by omega
  have e2:(((c:Int)-1074+(L:Int)-52)-((c:Int)-1074)).toNat=L-52:=by omega
  have e3:(((c:Int)-1074+(L:Int)-52) - -1074).toNat=c+L-52:=by omega
  rw[e1,e2,e3,Nat.shiftLeft_zero];have hdvd:2^(L-52) ∣ M:=by
   have h1:2^(L-52)*2^c ∣ M*2^c:=by
    rw[h,<- Nat.pow_add];exact Nat.dvd_trans (Nat.pow_dvd_pow 2 (by omega)) (Nat.dvd_mul_left _ _)
   exact Nat.dvd_of_mul_dvd_mul_right (Nat.two_pow_pos c) h1
  have hm0:M%2^(L-52)=0:=Nat.mod_eq_zero_of_dvd hdvd;have hg:0<2^(L-52):=Nat.two_pow_pos _;have hcut:Ieee.Toward.even.cut neg M (L-52)=M/2^(L-52):=by
   unfold Ieee.Toward.cut;dsimp only;rw[hL,Nat.min_eq_left (by omega),Nat.one_shiftLeft,hm0];simp
  rw[hcut];have hq1:M/2^(L-52)<2^53:=by
   rw[Nat.div_lt_iff_lt_mul hg,<- Nat.pow_add];have:53+(L-52)=L+1:=by omega
   rw[this];exact l2
  have hq2:2^52<=M/2^(L-52):=by
   rw[Nat.le_div_iff_mul_le hg,<- Nat.pow_add];have:52+(L-52)=L:=by omega
   rw[this];exact l1
  have hdm:=Nat.div_add_mod M (2^(L-52));rw[hm0,Nat.add_zero]at hdm;generalize M/2^(L-52)=q at *;have hp:2^(c+L-52)=2^(L-52)*2^c:=by
   rw[<- Nat.pow_add];congr 1;omega
  refine⟨q,c+L-52,?_,by clear l1 l2;omega,.inr ⟨by clear l1 l2;omega,by clear l1 l2;omega⟩,?_⟩
  ·rw[Nat.min_eq_left (by clear l1 l2;omega)]
  ·rw[hp,<- Nat.mul_assoc,Nat.mul_comm q,hdm]
theorem f7t (s:Bool) (m c:Nat):RV s m ((c:Int)-1074)=sgR s*((m*2^c:Nat):Rat)*p2 (-1074):=by
 unfold RV;rw[Int.sub_eq_add_neg,a1B,a1O,Rat.natCast_mul];grind
theorem f3A (neg:Bool) (M c v d:Nat) (h:M*2^c=v*2^d) (hv53:v<2^53) (hd:d<=1500):IsR (Ieee.double.nearest neg M ((c:Int)-1074)) (RV neg M ((c:Int)-1074)):=by
 by_cases h0:M=0
 ·subst h0;rw[a6c];unfold Ieee.Format.nearest;rw[if_pos rfl];exact a6N neg
 ·obtain⟨K,e,h1,h2,h3,h4⟩:=c9X neg M c v d (Nat.pos_of_ne_zero h0) h hv53 hd;obtain⟨m,c',h5,h6⟩:=a5p neg K e h2 h3;rw[h1];refine⟨neg,m,(c':Int)-1074,h5,by omega,?_⟩;rw[f7t,f7t,h6,h4]
theorem g4J (e:Int):p2 e≠0:=by have:=a0Z e;grind
theorem h1e {a b:Nat} {x y:Rat} (ha:IsR a x) (hb:IsR b y) (v d:Nat) (hv53:v<2^53) (hd:d<=1500) (hxy:x-y=((v*2^d:Nat):Rat)*p2 (-1074)∨x-y=-(((v*2^d:Nat):Rat)*p2 (-1074))):IsR (a0a .sub .f64 a b) (x-y):=by
 obtain⟨s,m,e,hr,he,rfl⟩:=ha;obtain⟨t,n,f,hr',hf,rfl⟩:=hb;have e1:a0a .sub .f64 a b=(((Ieee.double.read a).sum (Ieee.double.read b).opposite).map Ieee.double.write).getD (qn .f64):=rfl;have e2:RV s m e-RV t n f=RV s m e+RV (!t) n f:=by rw[f3o];grind
 rw[e1,hr,hr'];have hs:=a8m s m e (min e f) (by omega);have ht:=a8m (!t) n f (min e f) (by omega);show IsR (Ieee.double.nearest (if Ieee.signed s m (e-min e f).toNat+Ieee.signed (!t) n (f-min e f).toNat=0 then s&&!t else decide (Ieee.signed s m (e-min e f).toNat+Ieee.signed (!t) n (f-min e f).toNat<0)) (Ieee.signed s m (e-min e f).toNat+Ieee.signed (!t) n (f-min e f).toNat).natAbs (min e f)) _;generalize hT:Ieee.signed s m (e-min e f).toNat+Ieee.signed (!t) n (f-min e f).toNat=T;have hT2:((T:Int):Rat)*p2 (min e f)=RV s m e-RV t n f:=by
  rw[<- hT,Rat.intCast_add,e2,<- hs,<- ht];grind
 obtain⟨c,hc⟩:∃c:Nat,min e f=(c:Int)-1074:=⟨(min e f+1074).toNat,by omega⟩;rw[hc]at hT2 ⊢;generalize hB:(if T=0 then s&&!t else decide (T<0))=B;have hp:p2 ((c:Int)-1074)=((2^c:Nat):Rat)*p2 (-1074):=by rw[Int.sub_eq_add_neg,a1B,a1O]
 have hV:RV B T.natAbs ((c:Int)-1074)=RV s m e-RV t n f:=by
  rw[<- hT2];unfold RV;rw[<- hB];by_cases c0:T=0
  ·subst c0;simp[Rat.mul_zero,Rat.zero_mul]
  ·rw[if_neg c0];by_cases c1:T<0
   ·have e1:((T:Int):Rat)=-((T.natAbs:Nat):Rat):=by
     rw[<- Rat.intCast_natCast,<- Rat.intCast_neg];congr 1;omega
    rw[e1];simp only[c1,decide_true];have:sgR true=-1:=rfl;rw[this];grind
   ·have e1:((T:Int):Rat)=((T.natAbs:Nat):Rat):=by
     rw[<- Rat.intCast_natCast];congr 1;omega
    rw[e1];simp only[c1,decide_false];have:sgR false=1:=rfl;rw[this];grind
 have hN:T.natAbs*2^c=v*2^d:=by
  have hp1:=g4J (-1074);have q1:RV B T.natAbs ((c:Int)-1074)=sgR B*((T.natAbs*2^c:Nat):Rat)*p2 (-1074):=f7t _ _ _;rw[hV]at q1;generalize T.natAbs*2^c=P at *;generalize v*2^d=Q at *;have n1:=a2v P;have n2:=a2v Q;have pp:=a0Z (-1074);have key:((P:Nat):Rat)=((Q:Nat):Rat):=by
   have a1:((P:Nat):Rat)*p2 (-1074)=((Q:Nat):Rat)*p2 (-1074)∨((P:Nat):Rat)*p2 (-1074)=-(((Q:Nat):Rat)*p2 (-1074)):=by
    cases B
    ·have:sgR false=1:=rfl;rw[this]at q1;rcases hxy with h|h<;>rw[h]at q1<;>grind
    ·have:sgR true=-1:=rfl;rw[this]at q1;rcases hxy with h|h<;>rw[h]at q1<;>grind
   have b1:=Rat.mul_nonneg n1 (Rat.le_of_lt pp);have b2:=Rat.mul_nonneg n2 (Rat.le_of_lt pp);have a2:((P:Nat):Rat)*p2 (-1074)=((Q:Nat):Rat)*p2 (-1074):=by
    rcases a1 with h|h
    ·exact h
    ·grind
   have a3:(((P:Nat):Rat)-((Q:Nat):Rat))*p2 (-1074)=0:=by grind
   rcases Rat.mul_eq_zero.1 a3 with h|h
   ·grind
   ·exact absurd h hp1
  exact Rat.natCast_inj.1 key
 rw[<- hV];exact f3A B T.natAbs c v d hN hv53 hd
theorem b1a (W q:Nat) (hW:W<2^64) (hq:q<64):(BitVec.ofNat 64 W &&& ~~~(BitVec.ofNat 64 (2^q-1))).toNat=W/2^q*2^q:=by
 apply Nat.eq_of_testBit_eq;intro i;rw[Nat.testBit_mul_two_pow,BitVec.toNat_and,Nat.testBit_and,BitVec.toNat_ofNat,Nat.mod_eq_of_lt hW,Nat.testBit_div_two_pow];by_cases hi:q<=i
 ·have e1:i-q+q=i:=by omega
  rw[e1];by_cases h64:i<64
  ·have:(~~~(BitVec.ofNat 64 (2^q-1))).toNat.testBit i=true:=by
    rw[BitVec.testBit_toNat,BitVec.getLsbD_not,BitVec.getLsbD_ofNat,Nat.testBit_two_pow_sub_one];simp;omega
   rw[this];simp[hi]
  ·have:W.testBit i=false:=Nat.testBit_lt_two_pow (Nat.lt_of_lt_of_le hW (Nat.pow_le_pow_right (by decide) (by omega)));rw[this];simp
 ·have:(~~~(BitVec.ofNat 64 (2^q-1))).toNat.testBit i=false:=by
   rw[BitVec.testBit_toNat,BitVec.getLsbD_not,BitVec.getLsbD_ofNat,Nat.testBit_two_pow_sub_one];simp;omega
  rw[this];simp[hi]
theorem a9v (w:Nat):BitVec.ofInt 64 (w:Int)=BitVec.ofNat 64 (w%2^64):=by
 apply BitVec.eq_of_toNat_eq;rw[BitVec.toNat_ofInt,BitVec.toNat_ofNat];omega
theorem b5b (w q:Nat) (hq:q<64):a1X .andNot .u64 (w:Int) ((2^q-1:Nat):Int)=((w%2^64/2^q*2^q:Nat):Int):=by
 show IntKind.u64.wrap (((BitVec.ofInt 64 (w:Int) &&& ~~~(BitVec.ofInt 64 ((2^q-1:Nat):Int))).toNat:Nat):Int)=_;have hq2:2^q<=2^63:=Nat.pow_le_pow_right (by decide) (by omega);rw[a9v,a9v,Nat.mod_eq_of_lt (show 2^q-1<2^64 by omega),b1a _ q (Nat.mod_lt _ (by decide)) hq,IntKind.wrap_u64];have:w%2^64/2^q*2^q<=w%2^64:=Nat.div_mul_le_self _ _;have:w%2^64<2^64:=Nat.mod_lt _ (by decide);omega
def sgB (w:Nat):Bool:=w/2^63%2==1
def sgW (w:Nat):Nat:=if sgB w then 2^63 else 0
theorem f3B (w:Nat):w%2^64=sgW w+w%2^63:=by
 unfold sgW sgB;by_cases h:w/2^63%2=1
 ·rw[if_pos (by simpa using h)];omega
 ·rw[if_neg (by simpa using h)];omega
theorem b1b (w:Nat):a1X .and .u64 (w:Int) 9223372036854775808=((sgW w:Nat):Int):=by
 have e:BitVec.ofInt 64 9223372036854775808 = ~~~(BitVec.ofNat 64 (2^63-1)):=by decide
 show IntKind.u64.wrap (((BitVec.ofInt 64 (w:Int) &&& BitVec.ofInt 64 9223372036854775808).toNat:Nat):Int)=_;rw[a9v,e,b1a _ 63 (Nat.mod_lt _ (by decide)) (by decide),IntKind.wrap_u64];unfold sgW sgB;by_cases h:w/2^63%2=1
 ·rw[if_pos (by simpa using h)];omega
 ·rw[if_neg (by simpa using h)];omega
structure f3C (w:Nat) (m q:Nat):Prop where
 rd:Ieee.double.read w = .number (sgB w) m (-(q:Int))
 q0:26<=q
 q1:q<=1074
 m1:m<2^53
 le:m/2^q<=100000000
 rung:(q=1074 /\ m=w%2^63 /\ m<2^52)∨(2^52<=m /\ w%2^63=(1075-q)*2^52+(m-2^52))
theorem b2t {w:Nat} (h:le8 (w%2^63)=true):∃m q,f3C w m q:=by
 obtain⟨x,hx,ha⟩:=g4F h;obtain⟨s,m,e,hr,he,rfl⟩:=hx;have hr0:=hr;have hlt:(m:Rat)*p2 e<=100000000:=by
  unfold RV at ha;obtain⟨h1,h2⟩:=ha;cases s
  ·have:sgR false=1:=rfl;rw[this]at h2;grind
  ·have:sgR true=-1:=rfl;rw[this]at h1;grind
 unfold Ieee.Format.read at hr;dsimp only at hr;rw[e6D,b7g,b7f,e3G]at hr;have hle:∀q:Nat,e=-(q:Int)->m<=100000000*2^q:=by
  intro q hq;have hp:p2 e*p2 (q:Int)=1:=by rw[<- a1B,hq,show -(q:Int)+(q:Int)=0 by omega];rfl
  have hm:=a1f hlt (Rat.le_of_lt (a0Z (q:Int)));have e1:(m:Rat)*p2 e*p2 (q:Int)=(m:Rat):=by rw[Rat.mul_assoc,hp,Rat.mul_one]
  rw[e1,a1O]at hm;have:(m:Rat)<=((100000000*2^q:Nat):Rat):=by
   rw[Rat.natCast_mul];exact hm
  exact Rat.natCast_le_natCast.1 this
 have hdiv:∀q:Nat,m<=100000000*2^q->m/2^q<=100000000:=fun q hq=>by
  have:m/2^q<=100000000*2^q/2^q:=Nat.div_le_div_right hq
  rwa [Nat.mul_div_cancel _ (Nat.two_pow_pos q)]at this
 split at hr
 ·rename_i c;cases hr;refine⟨w%2^63,1074,hr0,by decide,by decide,by omega,hdiv 1074 (hle 1074 rfl),.inl ⟨rfl,rfl,c⟩⟩
 ·rename_i c;split at hr
  ·rename_i c2
   injection hr with f1 f2 f3
   obtain⟨q,hq⟩:∃q:Int,q=-e:=⟨_,rfl⟩;have hb:∃B:Nat,B=w%2^63/2^52 /\ 1<=B /\ e=(B:Int)-1075:=⟨_,rfl,by omega,by omega⟩;obtain⟨B,hB,hB1,hBe⟩:=hb;have hBm:B<=1049:=by
    apply Classical.byContradiction;intro hc;have g1:p2 (-25)<=p2 e:=b7h (by omega);have g2:((2^52:Nat):Rat)<=(m:Rat):=a0V (by omega);have g3:((2^52:Nat):Rat)*p2 (-25)<=(m:Rat)*p2 e:=by
     have a1:=a1f g2 (Rat.le_of_lt (a0Z (-25)));have a2:=Rat.mul_le_mul_of_nonneg_left g1 (a2v m);grind
    have g4:(100000000:Rat)<((2^52:Nat):Rat)*p2 (-25):=by decide +kernel
    grind
   have hqe:e=-((1075-B:Nat):Int):=by omega
   refine⟨m,1075-B,?_,by omega,by omega,by omega,hdiv _ (hle _ hqe),.inr ⟨by omega,by omega⟩⟩;rw[hr0,hqe,<- f1];rfl
  ·split at hr<;>cases hr
theorem c9Y (neg:Bool) (m q:Nat) (hm:m<2^53) (hq:(q:Nat)<=2000):Ieee.Toward.zero.cut neg m q=m/2^q:=by
 unfold Ieee.Toward.cut;dsimp only;rw[Nat.one_shiftLeft];show m/2^min q (m.log2+2)+0=_;rw[Nat.add_zero];by_cases h:q<=m.log2+2
 ·rw[Nat.min_eq_left h]
 ·rw[Nat.min_eq_right (by omega)];have hl:m<2^(m.log2+1):=Nat.lt_log2_self;have h1:m<2^(m.log2+2):=Nat.lt_of_lt_of_le hl (Nat.pow_le_pow_right (by decide) (by omega));have h2:m<2^q:=Nat.lt_of_lt_of_le hl (Nat.pow_le_pow_right (by decide) (by omega));rw[Nat.div_eq_of_lt h1,Nat.div_eq_of_lt h2]
def sgI (s:Bool) (n:Nat):Int:=if s then -(n:Int)else(n:Int)
theorem c9Z {w:Nat} {s:Bool} {m q:Nat} (h:Ieee.double.read w = .number s m (-(q:Int))) (hm:m<2^53) (hq:q<=2000):Ieee.Datum.toInt .zero (FloatKind.f64.decode w)=some (sgI s (m/2^q)):=by
 have e:FloatKind.f64.decode w = .number s m (-(q:Int)):=h;rw[e];show some (Ieee.signed s (Ieee.Toward.zero.cut s (m <<< (-(q:Int)).toNat) (- -(q:Int)).toNat) 0)=_;have e1:(-(q:Int)).toNat=0:=by omega
 have e2:(- -(q:Int)).toNat=q:=by omega
 rw[e1,e2,Nat.shiftLeft_zero,c9Y _ _ _ hm hq];rfl
theorem a9w {w:Nat} {s:Bool} {m q:Nat} (h:Ieee.double.read w = .number s m (-(q:Int))) (hm:m<2^53) (hq:q<=2000):f2i .f64 w=sgI s (m/2^q) /\ a6f .f64 w .i64=true:=by
 have e:=c9Z h hm hq;unfold f2i a6f;rw[e];refine⟨rfl,?_⟩;have:m/2^q<=m:=Nat.div_le_self _ _;have h1:IntKind.i64.min=-9223372036854775808:=by decide
 have h2:IntKind.i64.max=9223372036854775807:=by decide
 show(decide _&&decide _)=true;rw[h1,h2];generalize m/2^q=c at *;unfold sgI;simp only[and_eq_true,decide_eq_true_eq];split<;>omega
def c0Y (m q:Nat):Nat:=(m+2^(q-1))/2^q
theorem g4K (q m:Nat) (h1:26<=q) (h2:q<=52) (h3:2^52<=m) (h4:m<2^53) (r:Nat) (hr:r=((1075-q)*2^52+(m-2^52)+2^(q-1))/2^q*2^q) :
 (r/2^52=1075-q /\ (2^52+r%2^52)/2^q=c0Y m q)∨(r/2^52=1076-q /\ (2^52+r%2^52)/2^(q-1)=c0Y m q):=by
 unfold c0Y;have:q=26∨q=27∨q=28∨q=29∨q=30∨q=31∨q=32∨q=33∨q=34∨q=35∨q=36∨q=37∨q=38∨q=39∨q=40∨q=41∨q=42∨q=43∨q=44∨q=45∨q=46∨q=47∨q=48∨q=49∨q=50∨q=51∨q=52:=by omega
 rcases this with h|h|h|h|h|h|h|h|h|h|h|h|h|h|h|h|h|h|h|h|h|h|h|h|h|h|h<;>subst h<;>simp only[Nat.reducePow,Nat.reduceSub,Nat.reduceMul,Nat.reduceAdd]at *<;>omega
theorem d4y (s:Bool) (r:Nat) (hr:r<2^63):sgB ((if s then 2^63 else 0)+r)=s:=by
 unfold sgB;cases s
 ·have:(0+r)/2^63=0:=by omega
  rw[if_neg (by decide),this];rfl
 ·have:(2^63+r)/2^63=1:=by omega
  rw[if_pos rfl,this];rfl
theorem a9x (s:Bool) (r B:Nat) (hB:r/2^52=B) (h1:1<=B) (h2:B<=1074):Ieee.double.read ((if s then 2^63 else 0)+r) = .number s (2^52+r%2^52) (-((1075-B:Nat):Int)):=by
 have hr:r<2^63:=by omega
 have e1:((if s then 2^63 else 0)+r)%2^63=r:=by cases s<;>simp<;>omega
 have e2:=d4y s r hr;unfold sgB at e2;unfold Ieee.Format.read;dsimp only;rw[e6D,b7g,b7f,e3G,e1,e2,if_neg (by omega),if_pos (by omega),hB];rw[show((-1074:Int)+((B-1:Nat):Int))=-((1075-B:Nat):Int)by omega]
theorem d0a (s:Bool):Ieee.double.read (if s then 2^63 else 0) = .number s 0 (-(1074:Nat)):=by cases s<;>decide +kernel
theorem fd (a k:Nat):Int.fdiv (a:Int) (2^k)=((a/2^k:Nat):Int):=by
 have e:((2:Int)^k)=((2^k:Nat):Int):=by rw[Int.natCast_pow];rfl
 rw[e,Int.fdiv_eq_ediv_of_nonneg _ (Int.natCast_nonneg _),Int.natCast_ediv]
theorem fd1 {q:Nat} (h1:26<=q) (h2:q<=52):Int.fdiv 2251799813685248 (2^(52-q))=((2^(q-1):Nat):Int):=by
 have:=fd (2^51) (52-q);rw[Nat.pow_div (by omega) (by decide),show 51-(52-q)=q-1 by omega]at this;exact this
theorem fd2 {q:Nat} (h1:26<=q) (h2:q<=52):Int.fdiv 4503599627370495 (2^(52-q))=((2^q-1:Nat):Int):=by
 have h:=fd (2^52-1) (52-q);have e:(2^52-1)/2^(52-q)=2^q-1:=by
  have hp:2^(52-q)*2^q=2^52:=by rw[<- Nat.pow_add];congr 1;omega
  have hk:=Nat.two_pow_pos (52-q);have hq:=Nat.two_pow_pos q;have e1:2^52-1=2^(52-q)*(2^q-1)+(2^(52-q)-1):=by
   rw[Nat.mul_sub,hp,Nat.mul_one];have:2^(52-q)<=2^52:=Nat.pow_le_pow_right (by decide) (by omega);omega
  rw[e1,Nat.mul_add_div hk,Nat.div_eq_of_lt (by omega)];rfl
 rw[e]at h;exact h
theorem c2P {w m q:Nat} (h0:26<=q) (hq:q<=52) (hm:2^52<=m) (m1:m<2^53) (hr:w%2^63=(1075-q)*2^52+(m-2^52)):a1x (w:Int)=(if sgB w then 2^63 else 0)+((1075-q)*2^52+(m-2^52)+2^(q-1))/2^q*2^q:=by
 have hE:rE (w:Int)=((w%2^63/2^52:Nat):Int):=by rw[b8u];omega
 have hB:w%2^63/2^52=1075-q:=by omega
 unfold a1x;rw[hE,hB];have d1:decide (((1075-q:Nat):Int)<1023)=false:=decide_eq_false (by omega);have d2:decide (((1075-q:Nat):Int)<1075)=true:=decide_eq_true (by omega);rw[d1,d2];have d3:IntKind.u64.wrap (((1075-q:Nat):Int)-1023)=((52-q:Nat):Int):=by rw[IntKind.wrap_u64];omega
 rw[d3];have d4:min (toNat ((52-q:Nat):Int)) (IntKind.bits .u64)=52-q:=by
  have:IntKind.bits .u64=64:=by decide
  rw[this];omega
 rw[d4,fd1 h0 hq,fd2 h0 hq,cond_false,cond_true];have hp:2^(q-1)<=2^51:=Nat.pow_le_pow_right (by decide) (by omega);have hs:=f3B w;rw[hr]at hs;have hsw:sgW w<=2^63:=by unfold sgW;split<;>omega
 have d7:IntKind.u64.wrap ((w:Int)+((2^(q-1):Nat):Int))=((sgW w+((1075-q)*2^52+(m-2^52)+2^(q-1)):Nat):Int):=by
  rw[IntKind.wrap_u64];generalize 2^(q-1)=P at *;omega
 rw[d7,b5b _ q (by omega),toNat_natCast];have hlt:sgW w+((1075-q)*2^52+(m-2^52)+2^(q-1))<2^64:=by
  generalize 2^(q-1)=P at *;omega
 rw[Nat.mod_eq_of_lt hlt];have hdv:2^q ∣ sgW w:=by
  unfold sgW;split
  ·exact Nat.pow_dvd_pow 2 (by omega)
  ·exact Nat.dvd_zero _
 obtain⟨t,ht⟩:=hdv;have hsw2:sgW w=(if sgB w then 2^63 else 0):=rfl;rw[<- hsw2,ht,Nat.mul_add_div (Nat.two_pow_pos q),Nat.add_mul,Nat.mul_comm t]
theorem d0b {w m q:Nat} (h0:26<=q) (hq:q<=52) (hm:2^52<=m) (m1:m<2^53) (hr:w%2^63=(1075-q)*2^52+(m-2^52)):f2i .f64 (a1x (w:Int))=sgI (sgB w) (c0Y m q) /\ a6f .f64 (a1x (w:Int)) .i64=true:=by
 rw[c2P h0 hq hm m1 hr];rcases g4K q m h0 hq hm m1 _ rfl with⟨c1,c2⟩|⟨c1,c2⟩
 ·have hrd:=a9x (sgB w) _ _ c1 (by omega) (by omega);rw[show 1075-(1075-q)=q by omega]at hrd;have:=a9w hrd (by omega) (by omega);rw[c2]at this;exact this
 ·have hrd:=a9x (sgB w) _ _ c1 (by omega) (by omega);rw[show 1075-(1076-q)=q-1 by omega]at hrd;have:=a9w hrd (by omega) (by omega);rw[c2]at this;exact this
theorem d0c {w m:Nat} (hm:2^52<=m) (m1:m<2^53) (hr:w%2^63=1022*2^52+(m-2^52)):f2i .f64 (a1x (w:Int))=sgI (sgB w) (c0Y m 53) /\ a6f .f64 (a1x (w:Int)) .i64=true:=by
 have hE:rE (w:Int)=1022:=by rw[b8u];omega
 have hM:c0Y m 53=1:=by unfold c0Y;omega
 have key:a1x (w:Int)=(if sgB w then 2^63 else 0)+4607182418800017408:=by
  unfold a1x;rw[hE,b1b];show toNat (a1X .or .u64 ((sgW w:Nat):Int) 4607182418800017408)=_;unfold sgW;cases sgB w<;>decide
 have hrd:=a9x (sgB w) 4607182418800017408 1023 (by decide) (by decide) (by decide);rw[key,hM];have h:=a9w hrd (by decide) (by decide);have e:(2^52+4607182418800017408%2^52)/2^(1075-1023)=1:=by decide
 rw[e]at h;exact h
theorem b5c {w m q:Nat} (hq:53<q) (m1:m<2^53) (hr:w%2^63/2^52<1022):f2i .f64 (a1x (w:Int))=sgI (sgB w) (c0Y m q) /\ a6f .f64 (a1x (w:Int)) .i64=true:=by
 have hE:rE (w:Int)=((w%2^63/2^52:Nat):Int):=by rw[b8u];omega
 have hM:c0Y m q=0:=by
  unfold c0Y;have h1:2^53<=2^(q-1):=Nat.pow_le_pow_right (by decide) (by omega);have hp2:2*2^(q-1)=2^q:=by rw[Nat.mul_comm,<- Nat.pow_succ];congr 1;omega
  refine Nat.div_eq_of_lt ?_;rw[<- hp2];generalize 2^(q-1)=P at *;omega
 have key:a1x (w:Int)=(if sgB w then 2^63 else 0):=by
  unfold a1x;rw[hE];have d1:decide (((w%2^63/2^52:Nat):Int)<1023)=true:=decide_eq_true (by omega);have d2:(((w%2^63/2^52:Nat):Int)==1022)=false:=by
   rw[beq_eq_false_iff_ne];omega
  rw[d1,d2,b1b];rfl
 rw[key,hM];have h:=a9w (d0a (sgB w)) (by decide) (by decide);rw[Nat.zero_div]at h;exact h
theorem a9y {w m q:Nat} (h:f3C w m q):f2i .f64 (a1x (w:Int))=sgI (sgB w) (c0Y m q) /\ a6f .f64 (a1x (w:Int)) .i64=true:=by
 obtain⟨rd,q0,q1,m1,le,rung⟩:=h;rcases rung with⟨h1,h2,h3⟩|⟨hm,hr⟩
 ·exact b5c (by omega) m1 (by rw[<- h2,Nat.div_eq_of_lt h3];decide)
 ·by_cases hq:q<=52
  ·exact d0b q0 hq hm m1 hr
  ·by_cases h53:q=53
   ·subst h53;exact d0c hm m1 hr
   ·refine b5c (by omega) m1 ?_;rw[hr];clear le rd;omega
theorem g4L:((TT:Nat):Rat)*p2 (-1074)=1:=by
 have:p2 (1074:Nat)=((TT:Nat):Rat):=a1O 1074;rw[<- this,<- a1B];rfl
theorem e4y {b:Nat} {v:Int} (h:b0W b v):IsR b ((v:Int):Rat):=by
 obtain⟨s,m,c,hr,hm,hV⟩:=h;refine⟨s,m,(c:Int)-1074,hr,by omega,?_⟩;rw[f7t];have e1:sgR s*((m*2^c:Nat):Rat)=((VU s m c:Int):Rat):=by
  unfold VU;cases s
  ·have:sgR false=1:=rfl;rw[this,if_neg (by decide),Rat.intCast_natCast];grind
  ·have:sgR true=-1:=rfl;rw[this,if_pos rfl,Rat.intCast_neg,Rat.intCast_natCast];grind
 rw[e1,hV,Rat.intCast_mul,Rat.intCast_natCast,Rat.mul_assoc,g4L,Rat.mul_one]
theorem f3D (n:Int) (h:n.natAbs<2^53):IsR (nearest .f64 n) ((n:Int):Rat):=e4y (c9F n h)
theorem g4M:IsR 4602678819172646912 (1/2):=b7k false 4503599627370496 (-53) (by decide +kernel) (by decide) (by decide +kernel)
theorem f3E:IsR 13826050856027422720 (-(1/2)):=b7k true 4503599627370496 (-53) (by decide +kernel) (by decide) (by decide +kernel)
theorem geR {a b:Nat} {x y:Rat} (ha:IsR a x) (hb:IsR b y):(fgt .f64 a b||feq .f64 a b)=decide (y<=x):=by
 rw[g4D ha hb,e6E ha hb,Bool.eq_iff_iff];simp only[Bool.or_eq_true,decide_eq_true_eq];constructor
 ·intro h;rcases h with h|h<;>grind
 ·intro h;by_cases he:x=y
  ·exact .inr he
  ·exact .inl (by grind)
theorem leR {a b:Nat} {x y:Rat} (ha:IsR a x) (hb:IsR b y):(flt .f64 a b||feq .f64 a b)=decide (x<=y):=by
 rw[f7s ha hb,e6E ha hb,Bool.eq_iff_iff];simp only[Bool.or_eq_true,decide_eq_true_eq];constructor
 ·intro h;rcases h with h|h<;>grind
 ·intro h;by_cases he:x=y
  ·exact .inr he
  ·exact .inl (by grind)
theorem d4z (v q:Nat) (hq:1<=q):(1/2:Rat)<=(v:Rat)*p2 (-(q:Int))↔2^(q-1)<=v:=by
 have e1:p2 (-(q:Int))*((2^(q-1):Nat):Rat)=1/2:=by
  rw[<- a1O,<- a1B,show -(q:Int)+((q-1:Nat):Int)=-1 by omega]
  decide +kernel
 have hp:=a0Z (-(q:Int));constructor
 ·intro h;apply Classical.byContradiction;intro hc;have h1:((v:Nat):Rat)<((2^(q-1):Nat):Rat):=Rat.natCast_lt_natCast.2 (by omega);have:=Rat.mul_lt_mul_of_pos_right h1 hp;grind
 ·intro h;have h1:((2^(q-1):Nat):Rat)<=((v:Nat):Rat):=a0V h;have:=a1f h1 (Rat.le_of_lt hp);grind
theorem e4z (m q:Nat) (hq:1<=q):c0Y m q=m/2^q+(if 2^(q-1)<=m%2^q then 1 else 0):=by
 unfold c0Y;have hp2:2^q=2*2^(q-1):=by rw[Nat.mul_comm,<- Nat.pow_succ];congr 1;omega
 have hP:=Nat.two_pow_pos (q-1);have hdm:=Nat.div_add_mod m (2^q);have hlt:=Nat.mod_lt m (Nat.two_pow_pos q);rw[hp2]at *;generalize 2^(q-1)=P at *;generalize m/(2*P)=A at *;generalize m%(2*P)=R at *;rw[<- hdm,Nat.add_assoc,Nat.mul_add_div (by omega)];congr 1;split
 ·exact Nat.div_eq_of_lt_le (by omega) (by omega)
 ·exact Nat.div_eq_of_lt (by omega)
def rnd (w:Nat):Int:=f2i .f64 (a1x (w:Int))
theorem e0j {w:Nat} (h:le8 (w%2^63)=true):F97 (w,())=some (rnd w,()):=by
 obtain⟨m,q,hs⟩:=b2t h;have hrnd:rnd w=sgI (sgB w) (c0Y m q):=(a9y hs).1;obtain⟨rd,q0,q1,m1,le,rung⟩:=hs;obtain⟨ht,hok⟩:=a9w rd m1 (by omega);have hx:IsR w (RV (sgB w) m (-(q:Int))):=⟨_,_,_,rd,by omega,rfl⟩;have hn:(sgI (sgB w) (m/2^q)).natAbs<2^53:=by
  generalize m/2^q=A at *;unfold sgI;split<;>omega
 have hy:=f3D _ hn;have hdm:=Nat.div_add_mod m (2^q);have hlt:=Nat.mod_lt m (Nat.two_pow_pos q);have hml:m%2^q<=m:=Nat.mod_le _ _;have hrest:RV (sgB w) m (-(q:Int))-((sgI (sgB w) (m/2^q):Int):Rat)=sgR (sgB w)*(((m%2^q:Nat):Rat)*p2 (-(q:Int))):=by
  have hp:((2^q:Nat):Rat)*p2 (-(q:Int))=1:=by
   rw[<- a1O,<- a1B,show(q:Int) + -(q:Int)=0 by omega];rfl
  have hmr:(m:Rat)=((2^q:Nat):Rat)*((m/2^q:Nat):Rat)+((m%2^q:Nat):Rat):=by
   rw[<- Rat.natCast_mul,<- Rat.natCast_add,hdm]
  unfold RV;rw[hmr];generalize m/2^q=A at *;generalize m%2^q=R at *;generalize 2^q=P at *;generalize p2 (-(q:Int))=z at *;unfold sgI;cases sgB w
  ·have:sgR false=1:=rfl;rw[this,if_neg (by decide),Rat.intCast_natCast];grind
  ·have:sgR true=-1:=rfl;rw[this,if_pos rfl,Rat.intCast_neg,Rat.intCast_natCast];grind
 have hpq:((m%2^q:Nat):Rat)*p2 (-(q:Int))=((m%2^q*2^(1074-q):Nat):Rat)*p2 (-1074):=by
  rw[Rat.natCast_mul,<- a1O (1074-q),Rat.mul_assoc,<- a1B,show((1074-q:Nat):Int) + -1074=-(q:Int)by omega]
 have hsub:=h1e hx hy (m%2^q) (1074-q) (by generalize m%2^q=R at *;omega) (by omega) (by
  rw[hrest,hpq];cases sgB w
  ·left;have:sgR false=1:=rfl;rw[this];grind
  ·right;have:sgR true=-1:=rfl;rw[this];grind)
 rw[hrest]at hsub;have hge:=geR hsub g4M;have hle:=leR hsub f3E;have hnn:(0:Rat)<=((m%2^q:Nat):Rat)*p2 (-(q:Int)):=Rat.mul_nonneg (a2v _) (Rat.le_of_lt (a0Z _));have hif:=d4z (m%2^q) q (by omega);have hM:=e4z m q (by omega);unfold F97;dsimp only;rw[hok,ht,hge,hle,hrnd,hM];have hA:m/2^q<=100000000:=le;generalize ((m%2^q:Nat):Rat)*p2 (-(q:Int))=D at *;generalize m/2^q=A at *;generalize m%2^q=R at *;generalize 2^(q-1)=P at *;clear hsub hrest hdm hpq;cases sgB w
 ·have s1:sgR false=1:=rfl;have d2:decide (sgR false*D <= -(1/2))=false:=decide_eq_false (by rw[s1];grind);rw[d2,s1,Rat.one_mul];by_cases hh:P<=R
  ·rw[decide_eq_true (hif.2 hh),if_pos hh];show some (IntKind.i64.wrap ((A:Int)+1),())=some (((A+1:Nat):Int),());rw[w64 (by omega) (by omega)];rfl
  ·rw[decide_eq_false (fun h=>hh (hif.1 h)),if_neg hh];rfl
 ·have s1:sgR true=-1:=rfl;have d1:decide (1/2<=sgR true*D)=false:=decide_eq_false (by rw[s1];grind);rw[d1,s1];by_cases hh:P<=R
  ·rw[decide_eq_true (show -1*D <= -(1/2)by have:=hif.2 hh;grind),if_pos hh];show some (IntKind.i64.wrap (-(A:Int)-1),())=some (-((A+1:Nat):Int),());rw[w64 (by omega) (by omega),show -(A:Int)-1=-((A+1:Nat):Int)by omega]
  ·rw[decide_eq_false (fun h=>hh (hif.1 (by grind))),if_neg hh];rfl
def a0S (p:Nat×Nat):Den R23:=bif !a3d p then((0,0,()),false,())else bif !a1N (rnd p.1,rnd p.2,())then((0,0,()),false,())else((rnd p.1,rnd p.2,()),true,())
set_option maxRecDepth 100000 in
theorem d0d (p:Nat×Nat):F23 (p,())=some (a0S p):=by
 have e1:=a7L p;have k1:K61 (p,())=true:=isS e1;have g1:G61 (p,())=(a3d p,()):=gtS e1;unfold F23 a0S;dsimp only;rw[k1,g1];cases hv:a3d p with
 |false=>rfl
 | true =>
   have hv2:=hv;unfold a3d at hv2;simp only[and_eq_true]at hv2;obtain⟨m,q,hs⟩:=b2t hv2.1;obtain⟨m',q',hs'⟩:=b2t hv2.2;have o1:=(a9y hs).2;have o2:=(a9y hs').2;show(bif a6f .f64 (a1x ((p.1:Nat):Int)) .i64 then bif a6f .f64 (a1x ((p.2:Nat):Int)) .i64 then bif K63 ((rnd p.1,rnd p.2,()),())then bif !(G63 ((rnd p.1,rnd p.2,()),())).1 then _ else _ else none else none else none)=_;rw[o1,o2,g3b,f1x];cases a1N (rnd p.1,rnd p.2,())<;>rfl
set_option maxRecDepth 100000 in
theorem c0Z (p:Nat×Nat):F49 (p,())=some (a0S p):=by
 have e1:=a7M p;have k1:K96 (p,())=true:=isS e1;have g1:G96 (p,())=(a3d p,()):=gtS e1;unfold F49 a0S;dsimp only;rw[k1,g1];cases hv:a3d p with
 |false=>rfl
 | true =>
   have hv2:=hv;unfold a3d at hv2;simp only[and_eq_true]at hv2;have e3:=e0j hv2.1;have e4:=e0j hv2.2;have k3:K97 (p.1,())=true:=isS e3;have g3:G97 (p.1,())=(rnd p.1,()):=gtS e3;have k4:K97 (p.2,())=true:=isS e4;have g4:G97 (p.2,())=(rnd p.2,()):=gtS e4;rw[k3,k4,g3,g4];show(bif K98 ((rnd p.1,rnd p.2,()),())then bif !(G98 ((rnd p.1,rnd p.2,()),())).1 then _ else _ else none)=_;rw[g3a,f1w];cases a1N (rnd p.1,rnd p.2,())<;>rfl
theorem c2Q (v:b3Q) (hc:a0c v.2.1) (hk:v.1.2.2.2.2.2.2.1=0) (hr:v.2.2.2.2.2.2.2.1=[]) (ha:v.2.2.2.2.2.1.length<=30) :
 Pst (b3R v) fun y=>a0c y.2.1 /\ y.1.2.2.2.2.1=v.1.2.2.2.2.1 /\ y.2.2.2.2.1=v.2.2.2.2.1 /\ y.2.2.2.2.2.1=v.2.2.2.2.2.1 /\ y.2.2.2.2.2.2.1=v.2.2.2.2.2.2.1 /\ y.2.2.2.2.2.2.2.1.length=v.2.2.2.2.2.1.length:=by
 unfold b3R;refine a0E (q:=b8Z)
  (fun u=>a0c u.2.1 /\ u.1.2.2.2.2.1=v.1.2.2.2.2.1 /\ u.2.2.2.2.1=v.2.2.2.2.1 /\ u.2.2.2.2.2.1=v.2.2.2.2.2.1 /\ u.2.2.2.2.2.2.1=v.2.2.2.2.2.2.1 /\ 0<=(u.1.2.2.2.2.2.2.1:Int) /\ (u.1.2.2.2.2.2.2.1:Int)<=(v.2.2.2.2.2.1.length:Int) /\ (u.2.2.2.2.2.2.2.1.length:Int)=u.1.2.2.2.2.2.2.1)
  (fun _ r=>Pst r fun y=>a0c y.2.1 /\ y.1.2.2.2.2.1=v.1.2.2.2.2.1 /\ y.2.2.2.2.1=v.2.2.2.2.1 /\ y.2.2.2.2.2.1=v.2.2.2.2.2.1 /\ y.2.2.2.2.2.2.1=v.2.2.2.2.2.2.1 /\ y.2.2.2.2.2.2.2.1.length=v.2.2.2.2.2.1.length)
  (fun u=>(30-(u.1.2.2.2.2.2.2.1:Int)).toNat) ?_ _ _ ⟨hc,rfl,rfl,rfl,rfl,by rw[hk];exact Int.le_refl 0,by rw[hk];exact Int.natCast_nonneg _,by rw[hr,hk];rfl⟩ (by unfold c5S;omega)
 clear hk hr hc;rintro⟨⟨_,_,_,w,n,_,i,_⟩,⟨c0,c1,c2,_⟩,_,_,ws,as_,sp,row,_⟩ f ⟨g0,g1,g2,g3,g4,g5,g6,g7⟩ ih;dsimp only at g0 g1 g2 g3 g4 g5 g6 g7 ih;subst g1 g2 g4;have ea:as_.length=v.2.2.2.2.2.1.length:=by rw[g3]
 unfold b8Z;dsimp only;by_cases hk:i<(as_.length:Int)
 ·refine a0e (by simpa using hk) ?_;have e:IntKind.i64.wrap (i+1)=i+1:=w64 (by omega) (by omega);rw[e];have fin:∀(x:Nat) (c:List Int×Int×Int×Unit),a0c c->Pst (bif (a0j (length row+length (set (replicate 1 (zero (Ty.flt FloatKind.f32))) 0 x)))then f (((),((),((),((w),((v.1.2.2.2.2.1),((),((i+1),()))))))),(((c.1),((c.2.1),((c.2.2.1),()))),(((),((),((),()))),(((),((),((),()))),((v.2.2.2.2.1),((as_),((v.2.2.2.2.2.2.1),((row++set (replicate 1 (zero (Ty.flt FloatKind.f32))) 0 x),()))))))))else none)
   fun y=>a0c y.2.1 /\ y.1.2.2.2.2.1=v.1.2.2.2.2.1 /\ y.2.2.2.2.1=v.2.2.2.2.1 /\ y.2.2.2.2.2.1=v.2.2.2.2.2.1 /\ y.2.2.2.2.2.2.1=v.2.2.2.2.2.2.1 /\ y.2.2.2.2.2.2.2.1.length=v.2.2.2.2.2.1.length:=by
   intro x c h;refine a0e (a0r (by simp only[length_set,length_replicate];omega)) ?_;refine ih _ ⟨h,rfl,rfl,g3,rfl,?_,?_,?_⟩ ?_<;>simp only[length_append,length_set,length_replicate]<;>omega
  refine a0e (a0k _ cu) ?_;refine a0W (fun _=>?_) (fun _=>?_)
  ·refine a0e (a1y _ cu) ?_;refine a0W (fun _=>?_) (fun _=>?_)
   ·refine a0W (fun _=>?_) (fun _=>?_)
    ·refine a0e (a0k _ cu) ?_;exact fin _ _ cu
    ·exact fin _ _ cu
   ·refine a0W (fun _=>?_) (fun _=>?_)
    ·refine a0e (a0k _ cu) ?_;exact fin _ _ cu
    ·exact fin _ _ cu
  ·refine a0W (fun _=>?_) (fun _=>?_)
   ·refine a0e (a0k _ cu) ?_;exact fin _ _ cu
   ·exact fin _ _ cu
 ·have hd:decide (i<(as_.length:Int))=false:=by simpa using hk
  rw[hd];exact a0h ⟨g0,rfl,rfl,g3,rfl,by show row.length=_;omega⟩
def b5d (n:Nat) (a:Nat) (ws:List Nat) (sp:List (List Nat)):Prop:=ws.length=n /\ sp.length=n /\ ∀r∈sp,r.length=a
theorem b7r (v:b3S) (hc:a0c v.2.1) (hn:0<=(v.1.2.2.2.2.1:Int) /\ (v.1.2.2.2.2.1:Int)<=8) (hw:v.2.2.2.2.1=[]) (hs:v.2.2.2.2.2.2.1=[]) (ha:v.2.2.2.2.2.1.length<=30) :
 Pst (b3T v) fun y=>a0c y.2.1 /\ y.2.2.2.2.2.1=v.2.2.2.2.2.1 /\ b5d (v.1.2.2.2.2.1:Int).toNat v.2.2.2.2.2.1.length y.2.2.2.2.1 y.2.2.2.2.2.2.1:=by
 unfold b3T;refine a0E (q:=b9a)
  (fun u=>a0c u.2.1 /\ u.2.2.2.2.2.1=v.2.2.2.2.2.1 /\ 0<=(u.1.2.2.2.2.1:Int) /\ (u.2.2.2.2.1.length:Int)+u.1.2.2.2.2.1=v.1.2.2.2.2.1 /\ b5d u.2.2.2.2.1.length v.2.2.2.2.2.1.length u.2.2.2.2.1 u.2.2.2.2.2.2.1)
  (fun _ r=>Pst r fun y=>a0c y.2.1 /\ y.2.2.2.2.2.1=v.2.2.2.2.2.1 /\ b5d (v.1.2.2.2.2.1:Int).toNat v.2.2.2.2.2.1.length y.2.2.2.2.1 y.2.2.2.2.2.2.1)
  (fun u=>(u.1.2.2.2.2.1:Int).toNat) ?_ _ _ ⟨hc,rfl,hn.1,by rw[hw];exact Int.zero_add _,by rw[hw,hs];exact⟨rfl,rfl,fun _ h=>by cases h⟩⟩ (by unfold c5T;omega)
 clear hc hw hs;rintro⟨⟨_,_,_,w,n,_⟩,⟨c0,c1,c2,_⟩,_,_,ws,as_,sp,_⟩ f ⟨g0,g1,g2,g3,g4⟩ ih;dsimp only at g0 g1 g2 g3 g4 ih;obtain⟨g4,g5,g6⟩:=g4;have ea:as_.length=v.2.2.2.2.2.1.length:=by rw[g1]
 unfold b9a;dsimp only;by_cases hk:n>0
 ·refine a0e (by simpa using hk) ?_;refine a0e (a0r (by simp only[length_set,length_replicate];omega)) ?_;have hr:=c2Q (((),(),(),w,n,(),0,()),(c0,c1,c2,()),((),(),(),()),((),(),(),()),ws++(replicate 1 (zero (Ty.flt FloatKind.f32))).set 0 w,as_,sp,replicate 0 (zero (Ty.flt FloatKind.f32)),()) g0 rfl rfl (by show as_.length<=30;omega);refine a0e (a1V hr) ?_;have hx:=a2j (((),((),((),(0,(0,((),())))))),(([],(0,(0,()))),(((),((),((),()))),(((),((),((),()))),([],([],([],([],())))))))) hr;change a0c (a4X _).2.1 /\ (a4X _).1.2.2.2.2.1=n /\ (a4X _).2.2.2.2.1=_ /\ (a4X _).2.2.2.2.2.1=as_ /\ (a4X _).2.2.2.2.2.2.1=sp /\ (a4X _).2.2.2.2.2.2.2.1.length=as_.length at hx;generalize a4X (((),(),(),w,n,(),0,()),(c0,c1,c2,()),((),(),(),()),((),(),(),()),ws++(replicate 1 (zero (Ty.flt FloatKind.f32))).set 0 w,as_,sp,replicate 0 (zero (Ty.flt FloatKind.f32)),())=y at *;obtain⟨⟨_,_,_,w',n',_,_⟩,c',_,_,ws',as',sp',row,_⟩:=y;dsimp only at hx;obtain⟨h1,h2,h3,h4,h5,h6⟩:=hx;subst h2 h3 h4 h5;refine a0e (a0r (by simp only[length_set,length_replicate];omega)) ?_;refine a0e (a0k _ cu) ?_;have e:IntKind.i64.wrap (n'-1)=n'-1:=w64 (by omega) (by omega);dsimp only;rw[e];refine ih _ ⟨cu,g1,?_,?_,?_,?_,?_⟩ ?_
  ·show 0<=n'-1;omega
  ·simp only[length_append,length_set,length_replicate];omega
  ·rfl
  ·simp only[length_append,length_set,length_replicate];omega
  ·intro r hr;rcases List.mem_append.1 hr with hr|hr
   ·exact g6 r hr
   ·rw[show r=row from List.mem_singleton.1 hr,h6,ea]
  ·show(n'-1).toNat<n'.toNat;omega
 ·have hd:decide (n>0)=false:=by simpa using hk
  rw[hd];refine a0h ⟨g0,g1,?_,?_,g6⟩
  ·show ws.length=_;omega
  ·show sp.length=_;omega
theorem e4A (a b:Int) (h1:a>0) (h2:a<180) (h:0<=b /\ b<50):IntKind.i64.wrap (IntKind.i64.wrap (a+5)+b)<=1000:=by
 rw[w64 (x:=a+5) (by omega) (by omega),w64 (by omega) (by omega)];omega
theorem e4B (b:Int) (h:0<=b /\ b<4):0<=IntKind.i64.wrap (1+b) /\ IntKind.i64.wrap (1+b)<=8 /\ 1<=(IntKind.i64.wrap (1+b)).toNat /\ (IntKind.i64.wrap (1+b)).toNat<=4:=by
 rw[w64 (by omega) (by omega)];omega
theorem e4C (b:Int) (h:0<=b /\ b<25):IntKind.i64.wrap (20+b)<=1000:=by
 rw[w64 (by omega) (by omega)];omega
theorem b2u (v:c5U) (hc:a0c v.2.1) (hn:(v.1.2.2.2.1:Int)<=1000) (hw:v.2.2.2.2.1.length=1) :
 Pst (c5V v) fun y=>a0c y.2.1 /\ 1<=y.2.2.2.2.1.length /\ y.2.2.2.2.1.length<=21:=by
 unfold c5V;refine a0E (q:=d2B)
  (fun u=>a0c u.2.1 /\ (u.1.2.2.2.1:Int)<=1000 /\ 1<=u.2.2.2.2.1.length /\ u.2.2.2.2.1.length<=21)
  (fun _ r=>Pst r fun y=>a0c y.2.1 /\ 1<=y.2.2.2.2.1.length /\ y.2.2.2.2.1.length<=21)
  (fun u=>21-u.2.2.2.2.1.length) ?_ _ _ ⟨hc,hn,by omega,by omega⟩ (by unfold e1Y;omega)
 rintro⟨⟨_,_,_,a,_⟩,⟨c0,c1,c2,_⟩,_,_,as_,_⟩ f ⟨g0,g1,g2,g3⟩ ih;dsimp only at g0 g1 g2 g3 ih;unfold d2B;dsimp only;refine a0W (fun h1=>?_) (fun _=>a0h ⟨g0,g2,g3⟩);refine a0W (fun h2=>?_) (fun _=>a0h ⟨g0,g2,g3⟩);refine a0W (fun h3=>?_) (fun _=>a0h ⟨g0,g2,g3⟩);have h1:a>0:=by simpa using h1
 have h2:a<180:=by simpa using h2
 have h3 : as_.length < 20 := by have:(as_.length:Int)<20:=by simpa using h3
                                 omega
 refine a0e (a0r (by simp only[length_set,length_replicate];omega)) ?_;refine a0e (a0k _ cu) ?_;have hb:=a0M 50 (c0,c1,c2,()) g0 (by decide);refine ih _ ⟨cu,e4A _ _ h1 h2 hb,?_,?_⟩ ?_
 all_goals simp only[length_append,length_set,length_replicate];omega
def b5e (ws:List Nat) (as_:List Int) (sp:List (List Nat)):Prop:=2<=as_.length /\ as_.length<=22 /\ 1<=ws.length /\ ws.length<=4 /\ b5d ws.length as_.length ws sp
theorem b1c (x:I73.den) (h:a0c x.2.1):Pst (F73 x) fun y=>a0c y.2.1 /\ b5e y.1.1.1 y.1.1.2.1 y.1.1.2.2.1:=by
 unfold F73;dsimp only;have a2a:∀(n:Int) (c:List Int×Int×Int×Unit),a0c c->0<n->0<=((G34 (((),n,()),c,())).1.1:Int) /\ ((G34 (((),n,()),c,())).1.1:Int)<n:=fun n c h hn=>a0M n c h hn
 refine a0e (a0k _ cu) ?_;have b1:0<=((G34 (((),25,()),x.snd)).1.1:Int) /\ ((G34 (((),25,()),x.snd)).1.1:Int)<25:=a2a 25 x.2.1 h (by decide);have c1:a0c (G34 (((),25,()),x.snd)).2.1:=cu;generalize G34 (((),25,()),x.snd)=A at *;refine a0e (a1y _ cu) ?_;have c2:a0c (G77 (((),6,()),A.snd)).2.1:=cu;generalize G77 (((),6,()),A.snd)=B at *;have main:∀a:Int,a<=1000->Pst (
  let v5:=set (replicate 1 (zero (Ty.int IntKind.i64))) 0 0
  let v6:=(c5W (((),(),(),a,()),B.snd.fst,((),(),(),()),((),(),(),()),v5,()))
  bif (v6)then
   let v7:=(a9c (((),(),(),a,()),B.snd.fst,((),(),(),()),((),(),(),()),v5,()))
   let v8:=(set (replicate 1 (zero (Ty.int IntKind.i64))) 0 180)
   bif (a0j (length v7.snd.snd.snd.snd.fst+length v8))then
    let v9:=(K34 (((),4,()),v7.snd.fst,()))
    bif (v9)then
     let v10:=(G34 (((),4,()),v7.snd.fst,()))
     let v11:=(K34 (((),4,()),v10.snd))
     bif (v11)then
      let v12:=(wrap IntKind.i64 (1+v10.fst.fst))
      let v13:=(G34 (((),4,()),v10.snd))
      let v14:=(wrap IntKind.i64 (1+v13.fst.fst))
      let v15:=(v7.snd.snd.snd.snd.fst++v8)
      let v16:=(b6h (((),(),(),nearest FloatKind.f32 v12,v14,()),v13.snd.fst,((),(),(),()),((),(),(),()),[],v15,[],()))
      bif (v16)then
       let v17:=(a4Y (((),(),(),nearest FloatKind.f32 v12,v14,()),v13.snd.fst,((),(),(),()),((),(),(),()),[],v15,[],()))
       (some ((v17.snd.snd.snd.snd,()),v17.snd.fst,()):Option O73.den)
      else none
     else none
    else none
   else none
  else none) fun y=>a0c y.2.1 /\ b5e y.1.1.1 y.1.1.2.1 y.1.1.2.2.1:=by
  intro a ha;dsimp only;have hr:=b2u (((),(),(),a,()),B.snd.fst,((),(),(),()),((),(),(),()),set (replicate 1 (zero (Ty.int IntKind.i64))) 0 0,()) c2 ha rfl;refine a0e (a1V hr) ?_;have hx:=a2j (((),((),((),()))),(([],(0,(0,()))),(((),((),((),()))),(((),((),((),()))),([],()))))) hr;change a0c (a9c _).2.1 /\ 1<=(a9c _).2.2.2.2.1.length /\ (a9c _).2.2.2.2.1.length<=21 at hx;generalize a9c (((),(),(),a,()),B.snd.fst,((),(),(),()),((),(),(),()),set (replicate 1 (zero (Ty.int IntKind.i64))) 0 0,())=y at *;obtain⟨_,c,_,_,as_,_⟩:=y;dsimp only at hx ⊢;obtain⟨h1,h2,h3⟩:=hx;refine a0e (a0r (by simp only[length_set,length_replicate];omega)) ?_;refine a0e (a0k _ cu) ?_;have c3:a0c (G34 (((),4,()),c,())).2.1:=cu;generalize G34 (((),4,()),c,())=D at *;refine a0e (a0k _ cu) ?_;have b4:0<=((G34 (((),4,()),D.snd)).1.1:Int) /\ ((G34 (((),4,()),D.snd)).1.1:Int)<4:=a2a 4 D.2.1 c3 (by decide);have c4:a0c (G34 (((),4,()),D.snd)).2.1:=cu;generalize G34 (((),4,()),D.snd)=E at *;have hn:0<=IntKind.i64.wrap (1+E.fst.fst) /\ IntKind.i64.wrap (1+E.fst.fst)<=8 /\ 1<=(IntKind.i64.wrap (1+E.fst.fst)).toNat /\ (IntKind.i64.wrap (1+E.fst.fst)).toNat<=4:=e4B _ b4;generalize IntKind.i64.wrap (1+E.fst.fst)=nn at *;generalize nearest FloatKind.f32 (wrap IntKind.i64 (1+D.fst.fst))=w;have hq:=b7r (((),(),(),w,nn,()),E.snd.fst,((),(),(),()),((),(),(),()),[],as_++set (replicate 1 (zero (Ty.int IntKind.i64))) 0 180,[],()) c4 ⟨hn.1,hn.2.1⟩ rfl rfl (by simp only[length_append,length_set,length_replicate];omega);refine a0e (a1V hq) ?_;have hx:=a2j (((),((),())),(([],(0,(0,()))),(((),((),((),()))),(((),((),((),()))),([],([],([],()))))))) hq;change a0c (a4Y _).2.1 /\ (a4Y _).2.2.2.2.2.1=_ /\ b5d nn.toNat _ (a4Y _).2.2.2.2.1 (a4Y _).2.2.2.2.2.2.1 at hx;generalize a4Y (((),(),(),w,nn,()),E.snd.fst,((),(),(),()),((),(),(),()),[],as_++set (replicate 1 (zero (Ty.int IntKind.i64))) 0 180,[],())=y at *;obtain⟨_,c',_,_,ws',as',sp',_⟩:=y;dsimp only at hx;obtain⟨k1,k2,k3,k4,k5⟩:=hx;subst k2;refine a0h ⟨k1,?_⟩;dsimp only;have el:(as_++set (replicate 1 (zero (Ty.int IntKind.i64))) 0 180).length=as_.length+1:=by simp only[length_append,length_set,length_replicate]
  refine⟨by rw[el];omega,by rw[el];omega,by rw[k3];exact hn.2.2.1,by rw[k3];exact hn.2.2.2,rfl,by rw[k3,k4],k5⟩
 refine a0W (fun _=>?_) (fun _=>?_)
 ·exact main 0 (by decide)
 ·exact main _ (e4C _ b1)
theorem f3F (x:I73.den) (h:a0c x.2.1):K73 x=true:=a1V (b1c x h)
theorem f3G (x:I73.den) (h:a0c x.2.1):a0c (G73 x).2.1 /\ b5e (G73 x).1.1.1 (G73 x).1.1.2.1 (G73 x).1.1.2.2.1:=a2j _ (b1c x h)
abbrev A27:Ty:=.cons (S46) (.cons (.str) (.nil))
abbrev R27:Ty:=.cons (S46) (.cons (.bool) (.nil))
def F27 (x:Den A27):OD R27:=let d:=K36 ((x.1,()),());bif d then bif K16 x.2 then bif K14 (x.1,()) then bif !(G14 (x.1,())).1 then bif d then let b:=G36 ((x.1,()),());some ((((b.1.1.1,b.1.1.2.1,b.1.1.2.2.1,()),(b.1.1.2.2.2.1,b.1.1.2.2.2.2.1,()),b.1.1.2.2.2.2.2.1,(((b.1.1.2.2.2.2.2.2.1,b.1.1.2.2.2.2.2.2.2.1,()),(b.1.1.2.2.2.2.2.2.2.2.1,b.1.1.2.2.2.2.2.2.2.2.2.1,()),()),b.1.1.2.2.2.2.2.2.2.2.2.2.1,((b.1.1.2.2.2.2.2.2.2.2.2.2.2.1,b.1.1.2.2.2.2.2.2.2.2.2.2.2.2.1,()),(b.1.1.2.2.2.2.2.2.2.2.2.2.2.2.2.1,b.1.1.2.2.2.2.2.2.2.2.2.2.2.2.2.2.1,()),()),()),()),b.1.1.2.2.2.2.2.2.2.2.2.2.2.2.2.2.2.1,b.1.1.2.2.2.2.2.2.2.2.2.2.2.2.2.2.2.2.1,b.1.1.2.2.2.2.2.2.2.2.2.2.2.2.2.2.2.2.2.1,b.1.1.2.2.2.2.2.2.2.2.2.2.2.2.2.2.2.2.2.2.1,b.1.1.2.2.2.2.2.2.2.2.2.2.2.2.2.2.2.2.2.2.2.1,b.2),false,())else none else bif decide ((length x.1.2.2.2.2.2.2.2.1:Int) ≥ 300) then bif d then let b:=G36 ((x.1,()),());some ((((b.1.1.1,b.1.1.2.1,b.1.1.2.2.1,()),(b.1.1.2.2.2.1,b.1.1.2.2.2.2.1,()),b.1.1.2.2.2.2.2.1,(((b.1.1.2.2.2.2.2.2.1,b.1.1.2.2.2.2.2.2.2.1,()),(b.1.1.2.2.2.2.2.2.2.2.1,b.1.1.2.2.2.2.2.2.2.2.2.1,()),()),b.1.1.2.2.2.2.2.2.2.2.2.2.1,((b.1.1.2.2.2.2.2.2.2.2.2.2.2.1,b.1.1.2.2.2.2.2.2.2.2.2.2.2.2.1,()),(b.1.1.2.2.2.2.2.2.2.2.2.2.2.2.2.1,b.1.1.2.2.2.2.2.2.2.2.2.2.2.2.2.2.1,()),()),()),()),b.1.1.2.2.2.2.2.2.2.2.2.2.2.2.2.2.2.1,b.1.1.2.2.2.2.2.2.2.2.2.2.2.2.2.2.2.2.1,b.1.1.2.2.2.2.2.2.2.2.2.2.2.2.2.2.2.2.2.1,b.1.1.2.2.2.2.2.2.2.2.2.2.2.2.2.2.2.2.2.2.1,b.1.1.2.2.2.2.2.2.2.2.2.2.2.2.2.2.2.2.2.2.2.1,b.2),false,())else none else let b:=G16 x.2;bif !b.2.1 then bif d then let a:=G36 ((x.1,()),());some ((((a.1.1.1,a.1.1.2.1,a.1.1.2.2.1,()),(a.1.1.2.2.2.1,a.1.1.2.2.2.2.1,()),a.1.1.2.2.2.2.2.1,(((a.1.1.2.2.2.2.2.2.1,a.1.1.2.2.2.2.2.2.2.1,()),(a.1.1.2.2.2.2.2.2.2.2.1,a.1.1.2.2.2.2.2.2.2.2.2.1,()),()),a.1.1.2.2.2.2.2.2.2.2.2.2.1,((a.1.1.2.2.2.2.2.2.2.2.2.2.2.1,a.1.1.2.2.2.2.2.2.2.2.2.2.2.2.1,()),(a.1.1.2.2.2.2.2.2.2.2.2.2.2.2.2.1,a.1.1.2.2.2.2.2.2.2.2.2.2.2.2.2.2.1,()),()),()),()),a.1.1.2.2.2.2.2.2.2.2.2.2.2.2.2.2.2.1,a.1.1.2.2.2.2.2.2.2.2.2.2.2.2.2.2.2.2.1,a.1.1.2.2.2.2.2.2.2.2.2.2.2.2.2.2.2.2.2.1,a.1.1.2.2.2.2.2.2.2.2.2.2.2.2.2.2.2.2.2.2.1,a.1.1.2.2.2.2.2.2.2.2.2.2.2.2.2.2.2.2.2.2.2.1,a.2),false,())else none else let a:=G36 ((x.1,()),());let g:=(((),b.1,()),(a.1.1.1,a.1.1.2.1,a.1.1.2.2.1,a.1.1.2.2.2.1,a.1.1.2.2.2.2.1,a.1.1.2.2.2.2.2.1,a.1.1.2.2.2.2.2.2.1,a.1.1.2.2.2.2.2.2.2.1,a.1.1.2.2.2.2.2.2.2.2.1,a.1.1.2.2.2.2.2.2.2.2.2.1,a.1.1.2.2.2.2.2.2.2.2.2.2.1,a.1.1.2.2.2.2.2.2.2.2.2.2.2.1,a.1.1.2.2.2.2.2.2.2.2.2.2.2.2.1,a.1.1.2.2.2.2.2.2.2.2.2.2.2.2.2.1,a.1.1.2.2.2.2.2.2.2.2.2.2.2.2.2.2.1,a.1.1.2.2.2.2.2.2.2.2.2.2.2.2.2.2.2.1,a.1.1.2.2.2.2.2.2.2.2.2.2.2.2.2.2.2.2.1,a.1.1.2.2.2.2.2.2.2.2.2.2.2.2.2.2.2.2.2.1,a.1.1.2.2.2.2.2.2.2.2.2.2.2.2.2.2.2.2.2.2.1,a.1.1.2.2.2.2.2.2.2.2.2.2.2.2.2.2.2.2.2.2.2.1,(),(),()),a.2);bif K68 g then let c:=G68 g;bif !c.1.1 then bif d then some ((((a.1.1.1,a.1.1.2.1,a.1.1.2.2.1,()),(a.1.1.2.2.2.1,a.1.1.2.2.2.2.1,()),a.1.1.2.2.2.2.2.1,(((a.1.1.2.2.2.2.2.2.1,a.1.1.2.2.2.2.2.2.2.1,()),(a.1.1.2.2.2.2.2.2.2.2.1,a.1.1.2.2.2.2.2.2.2.2.2.1,()),()),a.1.1.2.2.2.2.2.2.2.2.2.2.1,((a.1.1.2.2.2.2.2.2.2.2.2.2.2.1,a.1.1.2.2.2.2.2.2.2.2.2.2.2.2.1,()),(a.1.1.2.2.2.2.2.2.2.2.2.2.2.2.2.1,a.1.1.2.2.2.2.2.2.2.2.2.2.2.2.2.2.1,()),()),()),()),a.1.1.2.2.2.2.2.2.2.2.2.2.2.2.2.2.2.1,a.1.1.2.2.2.2.2.2.2.2.2.2.2.2.2.2.2.2.1,a.1.1.2.2.2.2.2.2.2.2.2.2.2.2.2.2.2.2.2.1,a.1.1.2.2.2.2.2.2.2.2.2.2.2.2.2.2.2.2.2.2.1,a.1.1.2.2.2.2.2.2.2.2.2.2.2.2.2.2.2.2.2.2.2.1,a.2),false,())else none else bif K60 (b.1,{ data:=#[32] },()) then let e:=set (replicate 1 (zero Ty.str)) 0 (G60 (b.1,{ data:=#[32] },())).1;bif a0j (length c.2.2.2.1+length e) then some ((((c.2.1.1,c.2.1.2.1,c.2.1.2.2.1,()),(c.2.1.2.2.2.1,c.2.1.2.2.2.2.1,()),c.2.1.2.2.2.2.2.1,(((c.2.1.2.2.2.2.2.2.1,c.2.1.2.2.2.2.2.2.2.1,()),(c.2.1.2.2.2.2.2.2.2.2.1,c.2.1.2.2.2.2.2.2.2.2.2.1,()),()),c.2.1.2.2.2.2.2.2.2.2.2.2.1,((c.2.1.2.2.2.2.2.2.2.2.2.2.2.1,c.2.1.2.2.2.2.2.2.2.2.2.2.2.2.1,()),(c.2.1.2.2.2.2.2.2.2.2.2.2.2.2.2.1,c.2.1.2.2.2.2.2.2.2.2.2.2.2.2.2.2.1,()),()),()),()),c.2.1.2.2.2.2.2.2.2.2.2.2.2.2.2.2.2.1,c.2.1.2.2.2.2.2.2.2.2.2.2.2.2.2.2.2.2.1,c.2.1.2.2.2.2.2.2.2.2.2.2.2.2.2.2.2.2.2.1,c.2.1.2.2.2.2.2.2.2.2.2.2.2.2.2.2.2.2.2.2.1,c.2.1.2.2.2.2.2.2.2.2.2.2.2.2.2.2.2.2.2.2.2.1,c.2.2.2.2.1,c.2.2.2.1++e,()),true,())else none else none else none else none else none else none
def K27 (x):=(F27 x).isSome
def G27 (x):=(F27 x).getD (zero R27)
def m27:=(27,a0b A27 R27 K27 G27)
theorem g4N:a0d Tryz.prog m27:=fnE (s5 g2Y f1t g1Q g4I f8b) Tryz.func27 (rown:=[.frzBox 4])
abbrev A10:Ty:=.cons (S46) (.cons (.slice (.str)) (.nil))
abbrev R10:Ty:=.cons (S46) (.cons (.slice (.bool)) (.nil))
abbrev g4O:Type:=a7l×ty1×ty4×List (Den .bool)×Unit
abbrev I31:Sg:=⟨[.ptr 0],[.box (a1U)]⟩
abbrev O31:Sg:=⟨[.val (S40)],[.box (a1U)]⟩
noncomputable def g4P:=gE [m73,m74,m76,m77] Tryz.f31 (rown:=[.frzBox 2])
theorem g4Q:a1g Tryz.prog g4P:=a0z (s4 f9P e8T g0d a7n)
theorem h1f:a5s Tryz.prog 31 g4P (a0x Tryz.f31):=a1n Tryz.func31 rfl rfl rfl (by kernel_rfl) (a1E (by kernel_rfl))
abbrev A9:Ty:=.cons (.slice (.int .u8)) (.nil)
abbrev R9:Ty:=.cons (S46) (.cons (.slice (.str)) (.nil))
noncomputable def N31 (p75:KI I75) (Q75:QI I75 O75) (e75:Nonempty (Ch I75 O75 p75 Q75)) (a4e:KI a6a) (a5y:QI a6a a6M) (b2k:Nonempty (Ch a6a a6M a4e a5y)) (p79:KI I79) (Q79:QI I79 O79) (e79:Nonempty (Ch I79 O79 p79 Q79)):a7H:=mkN [(75,a2K true I75 O75 p75 Q75 e75),(78,a2K true a6a a6M a4e a5y b2k),(79,a2K true I79 O79 p79 Q79 e79)] []
noncomputable def g8S (p75:KI I75) (Q75:QI I75 O75) (e75:Nonempty (Ch I75 O75 p75 Q75)) (a4e:KI a6a) (a5y:QI a6a a6M) (b2k:Nonempty (Ch a6a a6M a4e a5y)) (p79:KI I79) (Q79:QI I79 O79) (e79:Nonempty (Ch I79 O79 p79 Q79)) (h:O31.den->Option Unit) (x:I31.den):Option Unit:=bif K73 (((),()),x.2) then let p:=G73 (((),()),x.2);bif K74 (((),()),p.2) then a3a fun(c75_6:Ch I75 O75 p75 Q75)=>let q:=G74 (((),()),p.2);bif p75 (((),()),q.2.1,()) then let k:=c75_6.val (((),()),q.2.1,());bif K76 (((),()),k.2.1,()) then let u:=(length k.2.2.1:Int);bif decide (u>0) then let g:=G76 (((),()),k.2.1,());bif K77 (((),2,()),g.2) then let l:=G77 (((),2,()),g.2);bif l.1.1 then bif decide (0<=0)&&decide (0<u) then let s:=getD k.2.2.1 (toNat 0) (zero S68);let c:=set k.2.2.1 (toNat 0) (s.1,0,s.2.2);bif decide (0<=0)&&decide (0<(length c:Int)) then let r:=getD c (toNat 0) (zero S68);let a:=set c (toNat 0) (r.1,r.2.1,1120403456,r.2.2.2);bif decide (0<=0)&&decide (0<(length a:Int)) then let m:=getD a (toNat 0) (zero S68);let b:=set a (toNat 0) (m.1,m.2.1,m.2.2.1,0,m.2.2.2.2);bif decide (0<=0)&&decide (0<(length b:Int)) then bif K77 (((),30,()),l.2) then let i:=G77 (((),30,()),l.2);bif i.1.1 then a3a fun(c2078_30:Ch a6a a6M a4e a5y)=>bif a4e (((),()),i.2) then let d:=c2078_30.val (((),()),i.2);bif K77 (((),30,()),d.2) then let j:=G77 (((),30,()),d.2);bif j.1.1 then a3a fun(c79_38:Ch I79 O79 p79 Q79)=>bif p79 (((),()),j.2) then let t:=c79_38.val (((),()),j.2);let n:=getD b (toNat 0) (zero S68);h ((((d.1.1,t.1.1,set b (toNat 0) (n.1,n.2.1,n.2.2.1,n.2.2.2.1,180,()),g.1),()),t.2))else none else let e:=getD b (toNat 0) (zero S68);h ((((d.1.1,q.2.2,set b (toNat 0) (e.1,e.2.1,e.2.2.1,e.2.2.2.1,180,()),g.1),()),j.2))else none else none else bif K77 (((),30,()),i.2) then let d:=G77 (((),30,()),i.2);bif d.1.1 then a3a fun(c79_34:Ch I79 O79 p79 Q79)=>bif p79 (((),()),d.2) then let j:=c79_34.val (((),()),d.2);let e:=getD b (toNat 0) (zero S68);h ((((p.1.1,j.1.1,set b (toNat 0) (e.1,e.2.1,e.2.2.1,e.2.2.2.1,180,()),g.1),()),j.2))else none else let o:=getD b (toNat 0) (zero S68);h ((((p.1.1,q.2.2,set b (toNat 0) (o.1,o.2.1,o.2.2.1,o.2.2.2.1,180,()),g.1),()),d.2))else none else none else none else none else none else none else bif K77 (((),30,()),l.2) then let c:=G77 (((),30,()),l.2);bif c.1.1 then a3a fun(c2078_22:Ch a6a a6M a4e a5y)=>bif a4e (((),()),c.2) then let a:=c2078_22.val (((),()),c.2);bif K77 (((),30,()),a.2) then let b:=G77 (((),30,()),a.2);bif b.1.1 then a3a fun(c79_30:Ch I79 O79 p79 Q79)=>bif p79 (((),()),b.2) then let i:=c79_30.val (((),()),b.2);h ((((a.1.1,i.1.1,k.2.2.1,g.1),()),i.2))else none else h ((((a.1.1,q.2.2,k.2.2.1,g.1),()),b.2))else none else none else bif K77 (((),30,()),c.2) then let a:=G77 (((),30,()),c.2);bif a.1.1 then a3a fun(c79_26:Ch I79 O79 p79 Q79)=>bif p79 (((),()),a.2) then let b:=c79_26.val (((),()),a.2);h ((((p.1.1,b.1.1,k.2.2.1,g.1),()),b.2))else none else h ((((p.1.1,q.2.2,k.2.2.1,g.1),()),a.2))else none else none else none else let g:=G76 (((),()),k.2.1,());bif K77 (((),30,()),g.2) then let l:=G77 (((),30,()),g.2);bif l.1.1 then a3a fun(c2078_18:Ch a6a a6M a4e a5y)=>bif a4e (((),()),l.2) then let c:=c2078_18.val (((),()),l.2);bif K77 (((),30,()),c.2) then let a:=G77 (((),30,()),c.2);bif a.1.1 then a3a fun(c79_26:Ch I79 O79 p79 Q79)=>bif p79 (((),()),a.2) then let b:=c79_26.val (((),()),a.2);h ((((c.1.1,b.1.1,k.2.2.1,g.1),()),b.2))else none else h ((((c.1.1,q.2.2,k.2.2.1,g.1),()),a.2))else none else none else bif K77 (((),30,()),l.2) then let c:=G77 (((),30,()),l.2);bif c.1.1 then a3a fun(c79_22:Ch I79 O79 p79 Q79)=>bif p79 (((),()),c.2) then let a:=c79_22.val (((),()),c.2);h ((((p.1.1,a.1.1,k.2.2.1,g.1),()),a.2))else none else h ((((p.1.1,q.2.2,k.2.2.1,g.1),()),c.2))else none else none else none else none else none else none
theorem g4R (p75 Q75 e75 a4e a5y b2k p79 Q79 e79 h x) :a2T (g4P) (N31 p75 Q75 e75 a4e a5y b2k p79 Q79 e79) (a0x Tryz.f31) I31 O31 h x=g8S p75 Q75 e75 a4e a5y b2k p79 Q79 e79 h x:=by kernel_rfl
def a5B (b:Den S40):Prop:=d4n b.1 /\ a4y b.2.1 /\ (a0F b.2.2.1 /\ b.2.2.1.length<=13) /\ b.2.2.2.1.2.1.length<=22
def p31 (x:I31.den):Bool:=d0U x.2.1
def Q31 (x:I31.den) (y:O31.den):Prop:=a0c y.2.1 /\ a5B y.1.1
theorem d0e:a4y ([],[],()):=⟨zero_le _,zero_le _⟩
theorem d4A:d4n ([],[],[],()):=⟨zero_le _,zero_le _,zero_le _,fun _ h=>by cases h⟩
theorem e31:Nonempty (Ch I31 O31 p31 Q31):=⟨⟨fun _=>((zero S40,()),(d3z,())),fun _ _=>⟨a4Z,d4A,d0e,⟨(fun _ h=>by cases h),zero_le _⟩,zero_le _⟩⟩⟩
noncomputable def d4B (h:O31.den->Option Unit) (c:O77.den) (P:Den S27) (T:Den S30) (S:List (Den S68)) (C:Den S38×Unit):Option Unit:=
 bif c.1.1 then
  a3a fun(b:Ch I79 O79 p79 Q79)=>
   bif p79 (((),()),c.2)then h (((P,(b.val (((),()),c.2)).1.1,S,C),()),(b.val (((),()),c.2)).2)else none
 else h (((P,T,S,C),()),c.2)
noncomputable def e0k (h:O31.den->Option Unit) (c:(List Int×Int×Int×Unit)×Unit) (P:Den S27) (T:Den S30) (S:List (Den S68)) (C:Den S38×Unit):Option Unit :=
 bif K77 (((),30,()),c)then
  bif (G77 (((),30,()),c)).1.1 then
   a3a fun(a:Ch a6a a6M a4e a5y)=>
    bif a4e (((),()),(G77 (((),30,()),c)).2)then
     bif K77 (((),30,()),(a.val (((),()),(G77 (((),30,()),c)).2)).2)then
      d4B h (G77 (((),30,()),(a.val (((),()),(G77 (((),30,()),c)).2)).2)) (a.val (((),()),(G77 (((),30,()),c)).2)).1.1 T S C
     else none
    else none
  else
   bif K77 (((),30,()),(G77 (((),30,()),c)).2)then
    d4B h (G77 (((),30,()),(G77 (((),30,()),c)).2)) P T S C
   else none
 else none
theorem c1a {h:O31.den->Option Unit} {c:O77.den} {P:Den S27} {T:Den S30} {S:List (Den S68)} {C:Den S38×Unit} (hc:a0c c.2.1) (hP:d4n P) (hT:a4y T) (hS:a0F S /\ S.length<=13) (hC:C.1.2.1.length<=22)
 (hh:∀y:O31.den,a0c y.2.1 /\ a5B y.1.1->h y=some ()):d4B h c P T S C=some ():=by
 unfold d4B;refine a1q (fun _=>?_) (fun _=>hh _ ⟨hc,hP,hT,hS,hC⟩)
 haveI:=e79
 refine a0l fun b=>?_
 have hp:p79 (((),()),c.2)=true:=a0T.2 hc;obtain⟨q1,q2⟩:=b.2 _ hp;exact a0q hp (hh _ ⟨q1,hP,q2,hS,hC⟩)
theorem a9z {h:O31.den->Option Unit} {c:(List Int×Int×Int×Unit)×Unit} {P:Den S27} {T:Den S30} {S:List (Den S68)} {C:Den S38×Unit} (hc:a0c c.1) (hP:d4n P) (hT:a4y T) (hS:a0F S /\ S.length<=13) (hC:C.1.2.1.length<=22)
 (hh:∀y:O31.den,a0c y.2.1 /\ a5B y.1.1->h y=some ()):e0k h c P T S C=some ():=by
 unfold e0k;refine a0q (a1y _ hc) ?_;have c1:a0c (G77 (((),30,()),c)).2.1:=a1i _ hc;generalize G77 (((),30,()),c)=A at *;refine a1q (fun _=>?_) (fun _=>?_)
 ·haveI:=b2k
  refine a0l fun a=>?_
  have hp:a4e (((),()),A.2)=true:=a0T.2 c1;obtain⟨q1,q2⟩:=a.2 _ hp;refine a0q hp (a0q (a1y _ q1) (c1a (a1i _ q1) q2 hT hS hC hh))
 ·exact a0q (a1y _ c1) (c1a (a1i _ c1) hP hT hS hC hh)
theorem b5e.m {ws:List Nat} {as_:List Int} {sp:List (List Nat)} (h:b5e ws as_ sp):d4n (ws,as_,sp,()):=by
 obtain⟨h1,h2,h3,h4,h5,h6,h7⟩:=h;exact⟨by show ws.length<=14;omega,h2,by show sp.length<=14;omega,fun r hr=>by rw[h7 r hr];exact h2⟩
set_option maxRecDepth 100000 in
theorem g4S:a2i Tryz.prog 31 (a2K true I31 O31 p31 Q31 e31):=b0r g4Q (N:=N31 p75 Q75 e75 a4e a5y b2k p79 Q79 e79) (a2m ⟨g3d,e3F,g4u,trivial⟩) h1f a1d fun x hx k hk=>by
 have hk:∀y:O31.den,a0c y.2.1 /\ a5B y.1.1->k y=some ():=hk;have h:a0c x.2.1:=a0T.1 hx;refine Eq.trans (g4R _ _ _ _ _ _ _ _ _ k x) ?_;unfold g8S;dsimp only;refine a0q (f3F _ h) ?_;obtain⟨c1,q1⟩:=f3G (((),()),x.snd) h;generalize G73 (((),()),x.snd)=v1 at *;refine a0q (d9P _ c1) ?_;obtain⟨c3,q3,_,q4⟩:=d9Q (((),()),v1.snd) c1;generalize G74 (((),()),v1.snd)=v3 at *;have hT:a4y v3.snd.snd:=⟨by have:=q3.2;show v3.2.2.1.length<=21;omega,by show v3.2.2.2.1.length<=6;omega⟩;have hP:d4n v1.fst.fst:=q1.m
 haveI:=e75
 refine a0l fun g=>?_
 have hp:p75 (((),()),v3.snd.fst,())=true:=a0T.2 c3;obtain⟨c5,gs,gl⟩:=g.2 _ hp;refine a0q hp ?_;generalize g.val (((),()),v3.snd.fst,())=v5 at *;refine a0q (f3f _ c5) ?_;obtain⟨c7,q7⟩:=a2j _ (b4L (((),()),v5.snd.fst,()) c5);change a0c (G76 _).2.1 at c7;change (G76 _).1.1.2.1.length<=22 at q7;generalize G76 (((),()),v5.snd.fst,())=v7 at *;refine a1q (fun hl=>?_) (fun _=>?_)
 ·have hl:0<length v5.snd.snd.fst:=by
   have:=of_decide_eq_true hl;omega
  have hat:∀(l:List (Den S68)),a0F l->b6F (getD l (toNat 0) (zero S68)):=fun l h=>h.at _
  have ix:∀n:Nat,0<n->(decide (0<=0)&&decide (0<((n:Nat):Int)))=true:=fun n h=>by simp;omega
  refine a0q (a1y _ c7) ?_;have c9:a0c (G77 (((),2,()),v7.snd)).2.1:=a1i _ c7;generalize G77 (((),2,()),v7.snd)=v9 at *;refine a1q (fun _=>?_) (fun _=>?_)
  ·have z0:I64 0:=a8j;have z180:I64 180:=by unfold I64;decide
   have s1:a0F (set v5.snd.snd.fst (toNat 0) ((getD v5.snd.snd.fst (toNat 0) (zero S68)).fst,0,(getD v5.snd.snd.fst (toNat 0) (zero S68)).snd.snd)):=gs.set (hat _ gs);refine a0q (ix _ hl) ?_;generalize hA:set v5.snd.snd.fst (toNat 0) ((getD v5.snd.snd.fst (toNat 0) (zero S68)).fst,0,(getD v5.snd.snd.fst (toNat 0) (zero S68)).snd.snd)=LA at *;have lA:LA.length=v5.snd.snd.fst.length:=by rw[<- hA,length_set]
   refine a0q (ix _ (by omega)) ?_;have s2:a0F (set LA (toNat 0) ((getD LA (toNat 0) (zero S68)).fst,(getD LA (toNat 0) (zero S68)).snd.fst,1120403456,(getD LA (toNat 0) (zero S68)).snd.snd.snd)):=s1.set (hat _ s1);generalize hB:set LA (toNat 0) ((getD LA (toNat 0) (zero S68)).fst,(getD LA (toNat 0) (zero S68)).snd.fst,1120403456,(getD LA (toNat 0) (zero S68)).snd.snd.snd)=LB at *;have lB:LB.length=LA.length:=by rw[<- hB,length_set]
   refine a0q (ix _ (by omega)) ?_;have s3:a0F (set LB (toNat 0) ((getD LB (toNat 0) (zero S68)).fst,(getD LB (toNat 0) (zero S68)).snd.fst,(getD LB (toNat 0) (zero S68)).snd.snd.fst,0,(getD LB (toNat 0) (zero S68)).snd.snd.snd.snd)):=s2.set ⟨(hat _ s2).1,z0,(hat _ s2).2.2⟩;generalize hC:set LB (toNat 0) ((getD LB (toNat 0) (zero S68)).fst,(getD LB (toNat 0) (zero S68)).snd.fst,(getD LB (toNat 0) (zero S68)).snd.snd.fst,0,(getD LB (toNat 0) (zero S68)).snd.snd.snd.snd)=LC at *;have lC:LC.length=LB.length:=by rw[<- hC,length_set]
   refine a0q (ix _ (by omega)) ?_;have s4:a0F (set LC (toNat 0) ((getD LC (toNat 0) (zero S68)).fst,(getD LC (toNat 0) (zero S68)).snd.fst,(getD LC (toNat 0) (zero S68)).snd.snd.fst,(getD LC (toNat 0) (zero S68)).snd.snd.snd.fst,180,())):=s3.set ⟨(hat _ s3).1,(hat _ s3).2.1,z180⟩;exact a9z (h:=k) (c:=v9.snd) (P:=v1.fst.fst) (T:=v3.snd.snd) (C:=v7.fst) c9 hP hT ⟨s4,by rw[length_set];omega⟩ q7 hk
  ·exact a9z (h:=k) (c:=v9.snd) (P:=v1.fst.fst) (T:=v3.snd.snd) (S:=v5.snd.snd.fst) (C:=v7.fst) c9 hP hT ⟨gs,gl⟩ q7 hk
 ·exact a9z (h:=k) (c:=v7.snd) (P:=v1.fst.fst) (T:=v3.snd.snd) (S:=v5.snd.snd.fst) (C:=v7.fst) c7 hP hT ⟨gs,gl⟩ q7 hk
def bOf (l:List UInt8):ByteArray:=⟨l.toArray⟩
theorem a7v (a b:List UInt8):bOf a++bOf b=bOf (a++b):=by
 apply ByteArray.ext;simp[bOf,ByteArray.data_append]
theorem a2B (a:List UInt8):(bOf a).size=a.length:=by simp[bOf,ByteArray.size]
def dig (u:Nat):List UInt8:=if u=0 then[]else Lib.decDigits u
def dg (u:Nat):UInt8:=UInt8.ofNat (48+u)
theorem c1b {u:Nat} (h:u≠0):dig u=dig (u/10)++[dg (u%10)]:=by
 unfold dig dg;rw[if_neg h,Lib.decDigits];by_cases h1:u<10
 ·rw[dif_pos h1,if_pos (by omega),Nat.mod_eq_of_lt h1];rfl
 ·rw[dif_neg h1,if_neg (by omega)]
theorem b7s:∀(k u:Nat),u<10^k->(dig u).length<=k
 | 0,u,h=>by
   have:u=0:=by simpa using h
   subst this;exact le_refl 0
 | k+1,u,h=>by
   by_cases h0:u=0
   ·subst h0;exact zero_le _
   ·rw[c1b h0,length_append,List.length_singleton];have:=b7s k (u/10) (by rw[Nat.pow_succ]at h;omega);omega
theorem c1c (d:Nat) (h:d<10):a7C [IntKind.u8.wrap (IntKind.i64.wrap (48+(d:Int)))]=bOf [dg d]:=by
 have e:∀d:Fin 10,a7C [IntKind.u8.wrap (IntKind.i64.wrap (48+((d:Nat):Int)))]=bOf [dg d]:=by decide
 exact e ⟨d,h⟩
theorem e4D (d:Nat) (h:d<10):f4V ((d:Int),())=some (IntKind.u8.wrap (IntKind.i64.wrap (48+(d:Int))),()):=by
 unfold f4V;have:decide ((d:Int)<10)=true:=by simp;omega
 simp only[this,cond_true]
theorem d4C (n:Int) (b:Bool) (s:List UInt8) (hn:n.natAbs<=9223372036854775808) (hs:s.length+(dig n.natAbs).length<=1000):b3K ((n,b,bOf s,()),())=some ((b,bOf (dig n.natAbs++s),()),()):=by
 refine a0E (q:=b8K) (fun v=>∃(n:Int) (s:List UInt8),v=((n,b,bOf s,()),()) /\ n.natAbs<=9223372036854775808 /\ s.length+(dig n.natAbs).length<=1000)
  (fun v r=>∀(n:Int) (s:List UInt8),v=((n,b,bOf s,()),())->s.length+(dig n.natAbs).length<=1000->r=some ((b,bOf (dig n.natAbs++s),()),())) (fun v=>v.1.1.natAbs) ?_ _ _ ⟨n,s,rfl,hn,hs⟩ (by simp only[c5C];omega) n s rfl hs
 rintro v f ⟨n,s,rfl,hn,hs⟩ ih n' s' he hs';have he1:n=n':=congrArg (fun v=>v.1.1) he;have he2:bOf s=bOf s':=congrArg (fun v=>v.1.2.2.1) he;subst he1;have he3:s=s':=by
  have:=congrArg (fun b=>b.data.toList) he2;simpa[bOf]using this
 subst he3;unfold b8K;dsimp only;by_cases h0:n=0
 ·subst h0;simp[dig]
 ·have e0:(n != 0)=true:=by simpa using h0
  have hd:∀d:Nat,d<10->e8d ((d:Int),())=true /\ e8e ((d:Int),())=(IntKind.u8.wrap (IntKind.i64.wrap (48+(d:Int))),()):=fun d h=>by
   unfold e8d e8e;rw[e4D d h];exact⟨rfl,rfl⟩
  have hm:n.natAbs%10<10:=Nat.mod_lt _ (by decide);have hstep:=c1b (u:=n.natAbs) (by omega);have hq:(Int.tdiv n 10).natAbs=n.natAbs/10:=by rw[Int.natAbs_tdiv];rfl
  have hw:IntKind.i64.wrap (Int.tdiv n 10)=Int.tdiv n 10:=by
   have h1:(Int.tdiv n 10).natAbs<=922337203685477580:=by rw[hq];omega
   rw[w64 (by omega) (by omega)]
  have hlen:(dig n.natAbs).length=(dig (n.natAbs/10)).length+1:=by rw[hstep,length_append,List.length_singleton]
  have fin:f ((Int.tdiv n 10,b,bOf ([dg (n.natAbs%10)]++s),()),())=some ((b,bOf (dig n.natAbs++s),()),()):=by
   have:=ih _ ⟨Int.tdiv n 10,[dg (n.natAbs%10)]++s,rfl,by rw[hq];omega,by rw[hq,length_append,List.length_singleton];omega⟩ (by show(Int.tdiv n 10).natAbs<n.natAbs;rw[hq];omega) (Int.tdiv n 10) ([dg (n.natAbs%10)]++s) rfl (by rw[hq,length_append,List.length_singleton];omega);rw[this,hq,<- List.append_assoc,<- hstep]
  have hsz:decide (ByteArray.size (bOf [dg (n.natAbs%10)])+ByteArray.size (bOf s)<=9223372036854775807)=true:=by
   rw[a2B,a2B,List.length_singleton];exact decide_eq_true (by omega)
  rw[e0,cond_true];by_cases hneg:Int.tmod n 10<0
  ·have e1:decide (Int.tmod n 10<0)=true:=decide_eq_true hneg;have e2:IntKind.i64.wrap (0-Int.tmod n 10)=((n.natAbs%10:Nat):Int):=by
    have h1:(Int.tmod n 10).natAbs=n.natAbs%10:=by rw[Int.natAbs_tmod];rfl
    rw[w64 (by omega) (by omega)];omega
   simp only[e1,cond_true,e2,(hd _ hm).1,(hd _ hm).2];rw[show set (replicate 1 (zero (Ty.int IntKind.u8))) 0 (IntKind.u8.wrap (IntKind.i64.wrap (48+((n.natAbs%10:Nat):Int))))=[IntKind.u8.wrap (IntKind.i64.wrap (48+((n.natAbs%10:Nat):Int)))]from rfl,c1c _ hm,hsz,cond_true,hw,a7v];exact fin
  ·have e1:decide (Int.tmod n 10<0)=false:=decide_eq_false hneg;have e2:Int.tmod n 10=((n.natAbs%10:Nat):Int):=by
    have h1:(Int.tmod n 10).natAbs=n.natAbs%10:=by rw[Int.natAbs_tmod];rfl
    omega
   simp only[e1,cond_false,e2,(hd _ hm).1,(hd _ hm).2,cond_true];rw[show set (replicate 1 (zero (Ty.int IntKind.u8))) 0 (IntKind.u8.wrap (IntKind.i64.wrap (48+((n.natAbs%10:Nat):Int))))=[IntKind.u8.wrap (IntKind.i64.wrap (48+((n.natAbs%10:Nat):Int)))]from rfl,c1c _ hm,hsz,cond_true,hw,a7v];exact fin
theorem b2v (n:Int) (hn:n.natAbs<=9223372036854775808):f4W (n,())=some (bOf (Lib.itoa n),()):=by
 have hd:(dig n.natAbs).length<=19:=b7s 19 _ (by omega);unfold f4W;dsimp only;by_cases h0:n=0
 ·subst h0;have:Lib.itoa 0=[48]:=by unfold Lib.itoa;rw[if_neg (by decide),Lib.decDigits,dif_pos (by decide)];rfl
  rw[this];rfl
 ·have e0:(n==0)=false:=by simpa using h0
  have hl:=d4C n (decide (n<0)) [] hn (by simp;omega);have hl':b3K ((n,decide (n<0),{ data:=#[] },()),())=some ((decide (n<0),bOf (dig n.natAbs++[]),()),()):=hl;simp only[e0,cond_false,c5D,c5E,hl',isSome_some,getD_some,cond_true,List.append_nil];have hdig:dig n.natAbs=Lib.decDigits n.natAbs:=if_neg (by omega);by_cases hneg:n<0
  ·have e1:decide (n<0)=true:=decide_eq_true hneg;have e2:decide (ByteArray.size { data:=#[45] }+ByteArray.size (bOf (dig n.natAbs))<=9223372036854775807)=true:=by
    rw[a2B];exact decide_eq_true (by show 1+_<=_;omega)
   simp only[e1,e2,cond_true];have:({ data:=#[45] }:ByteArray)=bOf [45]:=rfl;rw[this,a7v,hdig];unfold Lib.itoa;rw[if_pos hneg];rfl
  ·have e1:decide (n<0)=false:=decide_eq_false hneg;simp only[e1,cond_false];unfold Lib.itoa;rw[if_neg hneg,hdig,show n.natAbs=n.toNat by omega]
theorem a4A (n:Int) (hn:n.natAbs<=9223372036854775808):1<=(Lib.itoa n).length /\ (Lib.itoa n).length<=20:=by
 have hd:(dig n.natAbs).length<=19:=b7s 19 _ (by omega);have h1:∀u:Nat,1<=(Lib.decDigits u).length:=fun u=>by
  rw[Lib.decDigits];split<;>simp
 by_cases h0:n=0
 ·subst h0;have:Lib.itoa 0=[48]:=by unfold Lib.itoa;rw[if_neg (by decide),Lib.decDigits,dif_pos (by decide)];rfl
  rw[this];decide
 ·have hdig:dig n.natAbs=Lib.decDigits n.natAbs:=if_neg (by omega);unfold Lib.itoa;split
  ·rw[List.length_cons,<- hdig];omega
  ·rw[show n.toNat=n.natAbs by omega,<- hdig];have:=h1 n.natAbs;rw[<- hdig]at this;omega
theorem b7t (l:List UInt8) (k:Nat):ByteArray.extract (bOf l) k l.length=bOf (l.drop k):=by
 apply ByteArray.ext;rw[ByteArray.data_extract];apply Array.ext';simp[bOf,ByteArray.size];exact List.take_of_length_le (by rw[List.length_drop];omega)
def a9M (n:Int):List UInt8:=
 if -1000000000<=n /\ n<=1000000000 then(if n<0 then[45]else[])++Lib.itoa ((n.natAbs/1000:Nat):Int)++[46]++(Lib.itoa ((1000+n.natAbs%1000:Nat):Int)).drop 1 else[]
theorem c1d (m:Nat) (sg:List UInt8) (hm:m<=1000000000) (hs:sg.length<=1) {k:OD R83} (h:k=some (bOf (sg++Lib.itoa ((m/1000:Nat):Int)++[46]++(Lib.itoa ((1000+m%1000:Nat):Int)).drop 1),())) :
 (bif b3L (((1000+m%1000:Nat):Int),())then
  bif b3L (((m/1000:Nat):Int),())then
   bif decide (ByteArray.size (bOf sg)+ByteArray.size (a7m (((m/1000:Nat):Int),())).1<=9223372036854775807)then
    bif decide (ByteArray.size (bOf sg++(a7m (((m/1000:Nat):Int),())).1)+ByteArray.size { data:=#[46] }<=9223372036854775807)then
     bif decide (0<=1)&&decide (1<=((ByteArray.size (a7m (((1000+m%1000:Nat):Int),())).1:Nat):Int))&&decide (((ByteArray.size (a7m (((1000+m%1000:Nat):Int),())).1:Nat):Int)<=((ByteArray.size (a7m (((1000+m%1000:Nat):Int),())).1:Nat):Int))then
      bif decide (ByteArray.size (bOf sg++(a7m (((m/1000:Nat):Int),())).1++{ data:=#[46] })+ByteArray.size (ByteArray.extract (a7m (((1000+m%1000:Nat):Int),())).1 (toNat 1) (toNat ((ByteArray.size (a7m (((1000+m%1000:Nat):Int),())).1:Nat):Int)))<=9223372036854775807)then
       some (bOf sg++(a7m (((m/1000:Nat):Int),())).1++{ data:=#[46] }++ByteArray.extract (a7m (((1000+m%1000:Nat):Int),())).1 (toNat 1) (toNat ((ByteArray.size (a7m (((1000+m%1000:Nat):Int),())).1:Nat):Int)),())
      else none
     else none
    else none
   else none
  else none
 else none:OD R83)=k:=by
 have f1:=b2v ((1000+m%1000:Nat):Int) (by omega);have f2:=b2v ((m/1000:Nat):Int) (by omega);obtain⟨l1,u1⟩:=a4A ((1000+m%1000:Nat):Int) (by omega);obtain⟨l2,u2⟩:=a4A ((m/1000:Nat):Int) (by omega);have dot:({ data:=#[46] }:ByteArray)=bOf [46]:=rfl;unfold b3L a7m;rw[f1,f2,h,dot];generalize Lib.itoa ((1000+m%1000:Nat):Int)=A at *;generalize Lib.itoa ((m/1000:Nat):Int)=B at *;simp only[isSome_some,getD_some,cond_true,toNat_natCast,show toNat 1=1 from rfl,a2B,b7t,a7v,length_append,List.length_singleton,List.length_drop];have e1:decide (sg.length+B.length<=9223372036854775807)=true:=decide_eq_true (by omega);have e2:decide (sg.length+B.length+1<=9223372036854775807)=true:=decide_eq_true (by omega);have e3:(decide (0<=1)&&decide (1<=((A.length:Nat):Int))&&decide (((A.length:Nat):Int)<=((A.length:Nat):Int)))=true:=by simp;omega
 have e4:decide (sg.length+B.length+1+(A.length-1)<=9223372036854775807)=true:=decide_eq_true (by omega);simp only[e1,e2,e3,e4,cond_true]
theorem d0f (n:Int):F83 (n,())=some (bOf (a9M n),()):=by
 unfold F83 a9M;have k51:K51 (n,-1000000000,1000000000,())=true:=by unfold K51;rw[b0L];rfl
 have g51:(G51 (n,-1000000000,1000000000,())).1=(decide ((-1000000000:Int)<=n)&&decide (n<=1000000000)):=by unfold G51;rw[b0L];rfl
 dsimp only;rw[k51,cond_true,g51];by_cases hin:(-1000000000:Int)<=n /\ n<=1000000000
 ·have e0:(decide ((-1000000000:Int)<=n)&&decide (n<=1000000000))=true:=by rw[decide_eq_true hin.1,decide_eq_true hin.2];rfl
  rw[e0,Bool.not_true,cond_false,if_pos hin];by_cases hneg:n<0
  ·have e1:decide (n<0)=true:=decide_eq_true hneg;have e2:IntKind.i64.wrap (0-n)=((n.natAbs:Nat):Int):=by rw[w64 (by omega) (by omega)];omega
   have e3:IntKind.i64.wrap (1000+Int.tmod ((n.natAbs:Nat):Int) 1000)=((1000+n.natAbs%1000:Nat):Int):=by
    rw[Int.tmod_eq_emod_of_nonneg (by omega),w64 (by omega) (by omega)];omega
   have e4:IntKind.i64.wrap (Int.tdiv ((n.natAbs:Nat):Int) 1000)=((n.natAbs/1000:Nat):Int):=by
    rw[Int.tdiv_eq_ediv_of_nonneg (by omega),w64 (by omega) (by omega)];omega
   rw[e1,cond_true,e2,e3,e4,if_pos hneg];exact c1d n.natAbs [45] (by omega) (by simp) rfl
  ·have e1:decide (n<0)=false:=decide_eq_false hneg;have hn:n=((n.natAbs:Nat):Int):=by omega
   have e3:IntKind.i64.wrap (1000+Int.tmod n 1000)=((1000+n.natAbs%1000:Nat):Int):=by
    rw[Int.tmod_eq_emod_of_nonneg (by omega),w64 (by omega) (by omega)];omega
   have e4:IntKind.i64.wrap (Int.tdiv n 1000)=((n.natAbs/1000:Nat):Int):=by
    rw[Int.tdiv_eq_ediv_of_nonneg (by omega),w64 (by omega) (by omega)];omega
   rw[e1,cond_false,e3,e4,if_neg hneg];exact c1d n.natAbs [] (by omega) (by simp) rfl
 ·have e0:(decide ((-1000000000:Int)<=n)&&decide (n<=1000000000))=false:=by
   rw[Bool.and_eq_false_iff,decide_eq_false_iff_not,decide_eq_false_iff_not];omega
  rw[e0,Bool.not_false,cond_true,if_neg hin];rfl
theorem d4D (n:Int):(a9M n).length<=50:=by
 unfold a9M;split
 ·obtain⟨l1,u1⟩:=a4A ((1000+n.natAbs%1000:Nat):Int) (by omega);obtain⟨l2,u2⟩:=a4A ((n.natAbs/1000:Nat):Int) (by omega);generalize Lib.itoa ((1000+n.natAbs%1000:Nat):Int)=A at *;generalize Lib.itoa ((n.natAbs/1000:Nat):Int)=B at *;simp only[length_append,List.length_singleton,List.length_drop];split<;>simp<;>omega
 ·exact zero_le _
theorem e0l (n:Int) (h:n.natAbs<=9223372036854775808):b3L (n,())=true /\ (a7m (n,())).1.size<=20:=by
 unfold b3L a7m;rw[b2v n h];exact⟨rfl,by rw[getD_some,a2B];exact(a4A n h).2⟩
theorem c2R (n:Int):K83 (n,())=true /\ (G83 (n,())).1.size<=50:=by
 unfold K83 G83;rw[d0f n];exact⟨rfl,by rw[getD_some,a2B];exact d4D n⟩
theorem d4E (n:Int):(IntKind.i64.wrap n).natAbs<=9223372036854775808:=by
 have:=c2q n;unfold I64 at this;omega
theorem sz {a b:ByteArray} {n m:Nat} (h1:a.size<=n) (h2:b.size<=m) (h:n+m<=9223372036854775807):decide (a.size+b.size<=9223372036854775807)=true:=decide_eq_true (by omega)
theorem szA {a b:ByteArray} {n m:Nat} (h1:a.size<=n) (h2:b.size<=m):(a++b).size<=n+m:=by rw[ByteArray.size_append];omega
set_option maxRecDepth 100000 in
theorem b5f (x:I67.den) (h:a0c x.2.1) (hg:a0F x.1.2.1.2.2.1) (hl:x.1.2.1.2.2.1.length<=13):Pst (F67 x) fun y=>a0c y.2.1 /\ y.1.1.size<=2000:=by
 unfold F67;dsimp only;have a2a:∀(n:Int) (c:(List Int×Int×Int×Unit)×Unit),a0c c.1->0<n->0<=((G34 (((),n,()),c)).1.1:Int) /\ ((G34 (((),n,()),c)).1.1:Int)<n:=fun n c h hn=>a0M n c.1 h hn
 have b365:∀z:Int,0<=z /\ z<365->z.natAbs<=9223372036854775808:=fun z h=>by omega
 refine a0e (a0k _ h) ?_;have c0:a0c (G34 (((),12,()),x.snd)).2.1:=a0G _ h;generalize G34 (((),12,()),x.snd)=A at *;have steer:Pst (bif K34 (((),365,()),A.snd)then
  bif b3L (G34 (((),365,()),A.snd)).fst then
   bif decide (ByteArray.size { data:=#[115,116,101,101,114,32] }+ByteArray.size (a7m (G34 (((),365,()),A.snd)).fst).fst<=9223372036854775807)then
    some ((({ data:=#[115,116,101,101,114,32] }++(a7m (G34 (((),365,()),A.snd)).fst).fst,()),(G34 (((),365,()),A.snd)).snd):O67.den)
   else none
  else none
  else none) fun y=>a0c y.2.1 /\ y.1.1.size<=2000:=by
  refine a0e (a0k _ c0) ?_;have c1:a0c (G34 (((),365,()),A.snd)).2.1:=a0G _ c0;have b1:=a2a 365 A.snd c0 (by decide);generalize G34 (((),365,()),A.snd)=B at *;obtain⟨k1,s1⟩:=e0l B.1.1 (b365 _ b1);refine a0e k1 (a0e (sz (n:=6) (m:=20) (le_refl _) s1 (by decide)) (a0h ⟨c1,Nat.le_trans (szA (n:=6) (m:=20) (le_refl _) s1) (by decide)⟩))
 have wind:Pst (bif K34 (((),25,()),A.snd)then
  bif K83 (wrap IntKind.i64 (wrap IntKind.i64 (1000*(G34 (((),25,()),A.snd)).fst.fst)-12000),())then
   bif decide (ByteArray.size { data:=#[119,105,110,100,32] }+ByteArray.size (G83 (wrap IntKind.i64 (wrap IntKind.i64 (1000*(G34 (((),25,()),A.snd)).fst.fst)-12000),())).fst<=9223372036854775807)then
    bif decide (ByteArray.size ({ data:=#[119,105,110,100,32] }++(G83 (wrap IntKind.i64 (wrap IntKind.i64 (1000*(G34 (((),25,()),A.snd)).fst.fst)-12000),())).fst)+ByteArray.size { data:=#[32] }<=9223372036854775807)then
     bif K34 (((),49,()),(G34 (((),25,()),A.snd)).snd)then
      bif K83 (wrap IntKind.i64 (wrap IntKind.i64 (500*(G34 (((),49,()),(G34 (((),25,()),A.snd)).snd)).fst.fst)-12000),())then
       bif decide (ByteArray.size ({ data:=#[119,105,110,100,32] }++(G83 (wrap IntKind.i64 (wrap IntKind.i64 (1000*(G34 (((),25,()),A.snd)).fst.fst)-12000),())).fst++{ data:=#[32] })+ByteArray.size (G83 (wrap IntKind.i64 (wrap IntKind.i64 (500*(G34 (((),49,()),(G34 (((),25,()),A.snd)).snd)).fst.fst)-12000),())).fst<=9223372036854775807)then
        some (((({ data:=#[119,105,110,100,32] }++(G83 (wrap IntKind.i64 (wrap IntKind.i64 (1000*(G34 (((),25,()),A.snd)).fst.fst)-12000),())).fst++{ data:=#[32] })++(G83 (wrap IntKind.i64 (wrap IntKind.i64 (500*(G34 (((),49,()),(G34 (((),25,()),A.snd)).snd)).fst.fst)-12000),())).fst,()),(G34 (((),49,()),(G34 (((),25,()),A.snd)).snd)).snd):O67.den)
       else none
      else none
     else none
    else none
   else none
  else none
  else none) fun y=>a0c y.2.1 /\ y.1.1.size<=2000:=by
  refine a0e (a0k _ c0) ?_;have c1:a0c (G34 (((),25,()),A.snd)).2.1:=a0G _ c0;generalize G34 (((),25,()),A.snd)=B at *;obtain⟨k1,s1⟩:=c2R (wrap IntKind.i64 (wrap IntKind.i64 (1000*B.fst.fst)-12000));have s2:=szA (n:=5) (m:=50) (a:={ data:=#[119,105,110,100,32] }) (le_refl _) s1;have s3:=szA (m:=1) (b:={ data:=#[32] }) s2 (le_refl _);refine a0e k1 (a0e (sz (n:=5) (m:=50) (le_refl _) s1 (by decide)) (a0e (sz (m:=1) s2 (le_refl _) (by decide)) ?_));refine a0e (a0k _ c1) ?_;have c2:a0c (G34 (((),49,()),B.snd)).2.1:=a0G _ c1;generalize G34 (((),49,()),B.snd)=D at *;obtain⟨k2,s4⟩:=c2R (wrap IntKind.i64 (wrap IntKind.i64 (500*D.fst.fst)-12000));exact a0e k2 (a0e (sz s3 s4 (by decide)) (a0h ⟨c2,Nat.le_trans (szA s3 s4) (by decide)⟩))
 have sail:Pst (bif decide ((↑(length x.fst.snd.fst.snd.snd.fst):Int)>0)then
  bif K77 (((),5,()),A.snd)then
   bif !(G77 (((),5,()),A.snd)).fst.fst then
    bif K34 (((),(↑(length x.fst.snd.fst.snd.snd.fst):Int),()),(G77 (((),5,()),A.snd)).snd)then
     bif decide (0<=(G34 (((),(↑(length x.fst.snd.fst.snd.snd.fst):Int),()),(G77 (((),5,()),A.snd)).snd)).fst.fst)&&decide ((G34 (((),(↑(length x.fst.snd.fst.snd.snd.fst):Int),()),(G77 (((),5,()),A.snd)).snd)).fst.fst<(↑(length x.fst.snd.fst.snd.snd.fst):Int))then
      bif decide (ByteArray.size { data:=#[115,97,105,108,32] }+ByteArray.size (getD x.fst.snd.fst.snd.snd.fst (toNat (G34 (((),(↑(length x.fst.snd.fst.snd.snd.fst):Int),()),(G77 (((),5,()),A.snd)).snd)).fst.fst) (zero S68)).fst<=9223372036854775807)then
       some ((({ data:=#[115,97,105,108,32] }++(getD x.fst.snd.fst.snd.snd.fst (toNat (G34 (((),(↑(length x.fst.snd.fst.snd.snd.fst):Int),()),(G77 (((),5,()),A.snd)).snd)).fst.fst) (zero S68)).fst,()),(G34 (((),(↑(length x.fst.snd.fst.snd.snd.fst):Int),()),(G77 (((),5,()),A.snd)).snd)).snd):O67.den)
      else none
     else none
    else none
   else some ((({ data:=#[115,97,105,108,32] }++{ data:=#[110,111,110,101] },()),(G77 (((),5,()),A.snd)).snd):O67.den)
  else none
  else some ((({ data:=#[115,97,105,108,32] }++{ data:=#[110,111,110,101] },()),A.snd):O67.den)) fun y=>a0c y.2.1 /\ y.1.1.size<=2000:=by
  have none9:ByteArray.size ({ data:=#[115,97,105,108,32] }++{ data:=#[110,111,110,101] })<=2000:=Nat.le_trans (szA (n:=5) (m:=4) (le_refl _) (le_refl _)) (by decide);refine a0W (fun hp=>?_) (fun _=>a0h ⟨c0,none9⟩);have hpos:0<x.1.2.1.2.2.1.length:=by
   have:=of_decide_eq_true hp;show 0<length x.fst.snd.fst.snd.snd.fst;omega
  refine a0e (a1y _ c0) ?_;have c1:a0c (G77 (((),5,()),A.snd)).2.1:=a1i _ c0;generalize G77 (((),5,()),A.snd)=B at *;refine a0W (fun _=>?_) (fun _=>a0h ⟨c1,none9⟩);refine a0e (a0k _ c1) ?_;have c2:a0c (G34 (((),(↑(length x.fst.snd.fst.snd.snd.fst):Int),()),B.snd)).2.1:=a0G _ c1;have b2:=a2a (↑(length x.fst.snd.fst.snd.snd.fst):Int) B.snd c1 (by omega);generalize G34 (((),(↑(length x.fst.snd.fst.snd.snd.fst):Int),()),B.snd)=D at *;have hat:(getD x.fst.snd.fst.snd.snd.fst (toNat D.fst.fst) (zero S68)).fst.size<=1000:=(hg.at _).1;refine a0e (by rw[decide_eq_true b2.1,decide_eq_true b2.2];rfl) (a0e (sz (n:=5) (le_refl _) hat (by decide)) (a0h ⟨c2,Nat.le_trans (szA (n:=5) (le_refl _) hat) (by decide)⟩))
 refine a0W (fun _=>steer) (fun _=>a0W (fun _=>steer) (fun _=>a0W (fun _=>wind) (fun _=>a0W (fun _=>wind) (fun _=>a0W (fun _=>sail) (fun _=>a0W (fun _=>sail) (fun _=>a0W (fun _=>?_) (fun _=>a0W (fun _=>?_) (fun _=>?_))))))))
 ·refine a0e (a0k _ c0) ?_;have c1:a0c (G34 (((),200000,()),A.snd)).2.1:=a0G _ c0;generalize G34 (((),200000,()),A.snd)=B at *;obtain⟨k1,s1⟩:=c2R (wrap IntKind.i64 (B.fst.fst-100000));have s2:=szA (n:=4) (m:=50) (a:={ data:=#[102,105,120,32] }) (le_refl _) s1;have s3:=szA (m:=2) (b:={ data:=#[32,32] }) s2 (le_refl _);refine a0e k1 (a0e (sz (n:=4) (m:=50) (le_refl _) s1 (by decide)) (a0e (sz (m:=2) s2 (le_refl _) (by decide)) ?_));refine a0e (a0k _ c1) ?_;have c2:a0c (G34 (((),200000,()),B.snd)).2.1:=a0G _ c1;generalize G34 (((),200000,()),B.snd)=D at *;obtain⟨k2,s4⟩:=c2R (wrap IntKind.i64 (D.fst.fst-100000));exact a0e k2 (a0e (sz s3 s4 (by decide)) (a0h ⟨c2,Nat.le_trans (szA s3 s4) (by decide)⟩))
 ·have hall:∀l:List ByteArray,(l.all fun s=>Nat.ble s.size 1000)=true->∀s∈l,s.size<=1000:=fun l h s hs=>Nat.le_of_ble_eq_true (List.all_eq_true.1 h s hs)
  have key:∀L:List ByteArray,(L.all fun s=>Nat.ble s.size 1000)=true->0<L.length ->
   Pst (bif e8L (((),(),()),A.snd.fst,L,())then some (((e1W (((),(),()),A.snd.fst,L,())).fst,(e1W (((),(),()),A.snd.fst,L,())).snd.fst,()):O67.den)else none) fun y=>a0c y.2.1 /\ y.1.1.size<=2000:=by
   intro L h1 h2;refine a0e (c7U _ c0 h2) ?_;obtain⟨c1,m1⟩:=c7V (((),(),()),A.snd.fst,L,()) c0 h2;exact a0h ⟨c1,Nat.le_trans (hall _ h1 _ m1) (by decide)⟩
  exact key _ rfl (by simp only[length_set,length_replicate];decide)
 ·refine a0e (a0k _ c0) ?_;have c1:a0c (G34 (((),40,()),A.snd)).2.1:=a0G _ c0;generalize G34 (((),40,()),A.snd)=B at *;refine a0e (a0k _ c1) ?_;have c2:a0c (G34 (((),40,()),B.snd)).2.1:=a0G _ c1;generalize G34 (((),40,()),B.snd)=D at *;obtain⟨k1,s1⟩:=e0l (wrap IntKind.i64 (1+wrap IntKind.i64 (B.fst.fst*D.fst.fst))) (d4E _);exact a0e k1 (a0e (sz (n:=3) (m:=20) (le_refl _) s1 (by decide)) (a0h ⟨c2,Nat.le_trans (szA (n:=3) (m:=20) (le_refl _) s1) (by decide)⟩))
theorem c1e (x:I67.den) (h:a0c x.2.1) (hg:a0F x.1.2.1.2.2.1) (hl:x.1.2.1.2.2.1.length<=13):K67 x=true:=a1V (b5f x h hg hl)
theorem d4F (x:I67.den) (h:a0c x.2.1) (hg:a0F x.1.2.1.2.2.1) (hl:x.1.2.1.2.2.1.length<=13):a0c (G67 x).2.1 /\ (G67 x).1.1.size<=2000:=a2j _ (b5f x h hg hl)
def a7Q (l:List ByteArray):Prop:=l.length<=30 /\ ∀s∈l,s.size<=2000
set_option maxRecDepth 100000 in
theorem b1d (v:b3Y) (hc:a0c v.2.1) (hg:a0F v.2.2.1.2.2.2.2.2.1) (hl:v.2.2.1.2.2.2.2.2.1.length<=13) (hn:(v.1.2.2.2.1:Int)+v.2.2.2.1.length<=30) (hn':(v.2.2.2.1.length:Int)<=30) (hs:∀s∈v.2.2.2.1,s.size<=2000) :
 Pst (d2S v) fun y=>a0c y.2.1 /\ a7Q y.2.2.1:=by
 refine a0E (q:=d2R) (fun v=>a0c v.2.1 /\ a0F v.2.2.1.2.2.2.2.2.1 /\ v.2.2.1.2.2.2.2.2.1.length<=13 /\ (v.1.2.2.2.1:Int)+v.2.2.2.1.length<=30 /\ (v.2.2.2.1.length:Int)<=30 /\ ∀s∈v.2.2.2.1,s.size<=2000)
  (fun _ r=>Pst r fun y=>a0c y.2.1 /\ a7Q y.2.2.1) (fun v=>v.1.2.2.2.1.toNat) ?_ _ _ ⟨hc,hg,hl,hn,hn',hs⟩ (Nat.lt_of_lt_of_le (m:=1000) (by show(v.1.2.2.2.1:Int).toNat<1000;omega) (Nat.le_add_left _ _))
 clear hc hg hl hn hn' hs v;rintro⟨⟨_,_,_,n,_⟩,c,B,ls,_⟩ f ⟨g0,g1,g2,g3,g4,g5⟩ ih;dsimp only at g0 g1 g2 g3 g4 g5 ih;unfold d2R;dsimp only;by_cases hk:n>0
 ·refine a0e (by simpa using hk) ?_;have key:∀b:Den S40,b.2.2.1=B.2.2.2.2.2.1->Pst (bif K67 (((),b,()),c,())then
   bif a0j (length ls+length (set (replicate 1 (zero Ty.str)) 0 (G67 (((),b,()),c,())).fst.fst))then
    f (((),(),(),wrap IntKind.i64 (n-1),()),(G67 (((),b,()),c,())).snd.fst,B,ls++set (replicate 1 (zero Ty.str)) 0 (G67 (((),b,()),c,())).fst.fst,())
   else none
   else none) fun y=>a0c y.2.1 /\ a7Q y.2.2.1:=by
   intro b hb;have g1':a0F b.2.2.1:=by rw[hb];exact g1
   have g2':b.2.2.1.length<=13:=by rw[hb];exact g2
   refine a0e (c1e (((),b,()),c,()) g0 g1' g2') ?_;obtain⟨c1,s1⟩:=d4F (((),b,()),c,()) g0 g1' g2';generalize G67 (((),b,()),c,())=y at *;have e:IntKind.i64.wrap (n-1)=n-1:=w64 (by omega) (by omega);have e1:∀z:ByteArray,set (replicate 1 (zero Ty.str)) 0 z=[z]:=fun _=>rfl
   rw[e1,e];refine a0e (a0r (by rw[List.length_singleton];omega)) ?_;refine ih _ ⟨c1,g1,g2,?_,?_,?_⟩ ?_
   ·show n-1+((ls++[y.1.1]).length:Int)<=30;rw[length_append,List.length_singleton];omega
   ·show((ls++[y.1.1]).length:Int)<=30;rw[length_append,List.length_singleton];omega
   ·intro s hs;rcases List.mem_append.1 hs with h|h
    ·exact g5 s h
    ·rw[List.mem_singleton.1 h];exact s1
   ·show(n-1).toNat<n.toNat;omega
  exact key _ rfl
 ·have hd:decide (n>0)=false:=by simpa using hk
  rw[hd];exact a0h ⟨g0,by show ls.length<=30;omega,g5⟩
theorem d0g (v:b3Y) (hc:a0c v.2.1) (hg:a0F v.2.2.1.2.2.2.2.2.1) (hl:v.2.2.1.2.2.2.2.2.1.length<=13) (hn:(v.1.2.2.2.1:Int)+v.2.2.2.1.length<=30) (hn':(v.2.2.2.1.length:Int)<=30) (hs:∀s∈v.2.2.2.1,s.size<=2000) :
 b3Z v=true /\ a0c (b0A v).2.1 /\ a7Q (b0A v).2.2.1:=⟨a1V (b1d v hc hg hl hn hn' hs),a2j _ (b1d v hc hg hl hn hn' hs)⟩
set_option maxRecDepth 100000 in
theorem c1f (x:I35.den) (h:a0c x.2.1) (hg:a0F x.1.2.1.2.2.1) (hl:x.1.2.1.2.2.1.length<=13):Pst (F35 x) fun y=>a0c y.2.1 /\ a7Q y.2.2.1:=by
 unfold F35;dsimp only;have a2a:∀(n:Int) (c:(List Int×Int×Int×Unit)×Unit),a0c c.1->0<n->0<=((G34 (((),n,()),c)).1.1:Int) /\ ((G34 (((),n,()),c)).1.1:Int)<n:=fun n c h hn=>a0M n c.1 h hn
 have b9:∀(z:Int) (k:Nat),0<=z /\ z<9->k<=2->z+(k:Int)<=30:=fun z k h hk=>by omega
 have e1:∀z:ByteArray,set (replicate 1 (zero Ty.str)) 0 z=[z]:=fun _=>rfl
 refine a0e (a0k _ h) ?_;have c0:a0c (G34 (((),33,()),x.snd)).2.1:=a0G _ h;generalize G34 (((),33,()),x.snd)=A at *;obtain⟨k1,s1⟩:=c2R (wrap IntKind.i64 (wrap IntKind.i64 (500*A.fst.fst)-8000));have s2:=szA (n:=5) (m:=50) (a:={ data:=#[119,105,110,100,32] }) (le_refl _) s1;have s3:=szA (m:=1) (b:={ data:=#[32] }) s2 (le_refl _);refine a0e k1 (a0e (sz (n:=5) (m:=50) (le_refl _) s1 (by decide)) (a0e (sz (m:=1) s2 (le_refl _) (by decide)) ?_));refine a0e (a0k _ c0) ?_;have c1:a0c (G34 (((),33,()),A.snd)).2.1:=a0G _ c0;generalize G34 (((),33,()),A.snd)=B at *;obtain⟨k2,s4⟩:=c2R (wrap IntKind.i64 (wrap IntKind.i64 (500*B.fst.fst)-8000));refine a0e k2 (a0e (sz s3 s4 (by decide)) ?_);have s5:=szA s3 s4;generalize { data:=#[119,105,110,100,32] }++(G83 (wrap IntKind.i64 (wrap IntKind.i64 (500*A.fst.fst)-8000),())).fst++{ data:=#[32] }++(G83 (wrap IntKind.i64 (wrap IntKind.i64 (500*B.fst.fst)-8000),())).fst=w at *;refine a0W (fun hp=>?_) (fun _=>?_)
 ·have hpos:0<length x.fst.snd.fst.snd.snd.fst:=by
   have:=of_decide_eq_true hp;omega
  refine a0e (by have:decide (0<((length x.fst.snd.fst.snd.snd.fst:Nat):Int))=true:=decide_eq_true (by omega);rw[this];rfl) ?_;have hat:(getD x.fst.snd.fst.snd.snd.fst (toNat 0) (zero S68)).fst.size<=1000:=(hg.at _).1;refine a0e (sz (n:=5) (le_refl _) hat (by decide)) ?_;have s6:=szA (n:=5) (a:={ data:=#[115,97,105,108,32] }) (le_refl _) hat;refine a0e (a0k _ c1) ?_;have c2:a0c (G34 (((),9,()),B.snd)).2.1:=a0G _ c1;have b2:=a2a 9 B.snd c1 (by decide);generalize G34 (((),9,()),B.snd)=D at *;generalize { data:=#[115,97,105,108,32] }++(getD x.fst.snd.fst.snd.snd.fst (toNat 0) (zero S68)).fst=u at *;simp only[e1];have hall:∀s∈[w]++[u],s.size<=2000:=fun s hs=>by
   rcases List.mem_append.1 hs with h|h
   ·rw[List.mem_singleton.1 h];exact Nat.le_trans s5 (by decide)
   ·rw[List.mem_singleton.1 h];exact Nat.le_trans s6 (by decide)
  have key:∀v:b3Y,a0c v.2.1->a0F v.2.2.1.2.2.2.2.2.1->v.2.2.1.2.2.2.2.2.1.length<=13->(v.1.2.2.2.1:Int)+v.2.2.2.1.length<=30->(v.2.2.2.1.length:Int)<=30->(∀s∈v.2.2.2.1,s.size<=2000) ->
   Pst (bif b3Z v then some ((((),()),(b0A v).snd):O35.den)else none) fun y=>a0c y.2.1 /\ a7Q y.2.2.1:=fun v a1 a2 a3 a4 a5 a6=>by
   obtain⟨d0,d1,d2⟩:=d0g v a1 a2 a3 a4 a5 a6;exact a0e d0 (a0h ⟨d1,d2⟩)
  exact key _ c2 hg hl (b9 _ 2 b2 (by decide)) (by show(2:Int)<=30;decide) hall
 ·refine a0e (a0k _ c1) ?_;have c2:a0c (G34 (((),9,()),B.snd)).2.1:=a0G _ c1;have b2:=a2a 9 B.snd c1 (by decide);generalize G34 (((),9,()),B.snd)=D at *;simp only[e1];have hall:∀s∈[w],s.size<=2000:=fun s hs=>by rw[List.mem_singleton.1 hs];exact Nat.le_trans s5 (by decide)
  have key:∀v:b3Y,a0c v.2.1->a0F v.2.2.1.2.2.2.2.2.1->v.2.2.1.2.2.2.2.2.1.length<=13->(v.1.2.2.2.1:Int)+v.2.2.2.1.length<=30->(v.2.2.2.1.length:Int)<=30->(∀s∈v.2.2.2.1,s.size<=2000) ->
   Pst (bif b3Z v then some ((((),()),(b0A v).snd):O35.den)else none) fun y=>a0c y.2.1 /\ a7Q y.2.2.1:=fun v a1 a2 a3 a4 a5 a6=>by
   obtain⟨d0,d1,d2⟩:=d0g v a1 a2 a3 a4 a5 a6;exact a0e d0 (a0h ⟨d1,d2⟩)
  exact key _ c2 hg hl (b9 _ 1 b2 (by decide)) (by show(1:Int)<=30;decide) hall
theorem f3H (x:I35.den) (h:a0c x.2.1) (hg:a0F x.1.2.1.2.2.1) (hl:x.1.2.1.2.2.1.length<=13):K35 x=true:=a1V (c1f x h hg hl)
theorem f3I (x:I35.den) (h:a0c x.2.1) (hg:a0F x.1.2.1.2.2.1) (hl:x.1.2.1.2.2.1.length<=13):a0c (G35 x).2.1 /\ a7Q (G35 x).2.2.1:=a2j _ (c1f x h hg hl)
def a7w (b:Den S40):Bool:=a2O b.1&&(a3s b.2.1&&(a2U b.2.2.1&&(decide ((b.2.2.1.length:Int)>0)&&a9h b.2.2.2.1)))
theorem f3J (b:Den S40) (h:a5B b):F42 (b,())=some (a7w b,()):=by
 obtain⟨P,T,S,C,_⟩:=b;obtain⟨hP,hT,⟨hS,hl⟩,hC⟩:=h;have k1:=d9Z P;have k2:=c9v T hT;have k3:=c7Q S (hS.good hl);have k4:=f1v C (by have:C.2.1.length<=22:=hC;omega);unfold F42 a7w;dsimp only;simp only[K90,G90,k1,K91,G91,k2,K92,G92,k3,K93,G93,k4,isSome_some,getD_some,cond_true];cases a2O P
 ·rfl
 ·cases a3s T
  ·rfl
  ·cases a2U S
   ·rfl
   ·cases decide (((length S:Nat):Int)>0)<;>rfl
theorem e0m (b:Den S40) (h:a5B b):F50 (b,())=some (a7w b,()):=by
 obtain⟨P,T,S,C,_⟩:=b;obtain⟨hP,hT,⟨hS,hl⟩,hC⟩:=h;have k1:=e0a P;have k2:=b7j T hT;have k3:=b2c S (hS.good hl);have k4:=e2T C (by have:C.2.1.length<=22:=hC;omega);unfold F50 a7w;dsimp only;simp only[K99,G99,k1,e1G,e1H,k2,d6f,d6g,k3,f8R,f8S,k4,isSome_some,getD_some,cond_true];cases a2O P
 ·rfl
 ·cases a3s T
  ·rfl
  ·cases a2U S
   ·rfl
   ·cases decide (((length S:Nat):Int)>0)<;>rfl
theorem c2S {α:Type} {l:List α} (h:l.length<=1000):a0j (0+l.length)=true:=a0r (by omega)
theorem d0h (sp:List (List Nat)) (a:List Nat) (b:List Int) (h:sp.length<=1000) (hr:∀r∈sp,r.length<=1000) :
 b9V (((),(),sp,(sp.length:Int),(0:Int),()),((),(),(),()),(a,b,(),()),[],())=some (((),(),()),((),(),(),()),(a,b,(),()),sp,()):=by
 refine a0E (q:=b9T) (fun v=>∃k:Nat,k<=sp.length /\ v=(((),(),sp,(sp.length:Int),(k:Int),()),((),(),(),()),(a,b,(),()),sp.take k,()))
  (fun _ r=>r=some (((),(),()),((),(),(),()),(a,b,(),()),sp,())) (fun v=>sp.length-v.1.2.2.2.2.1.toNat) ?_ _ _ ⟨0,zero_le _,rfl⟩ (by show sp.length-toNat 0<b9U _;unfold b9U;dsimp only;omega)
 rintro v f ⟨k,hk,rfl⟩ ih;unfold b9T;dsimp only;by_cases hlt:k<sp.length
 ·have e1:decide ((k:Int)<(sp.length:Int))=true:=by simpa using hlt
  have e2:decide (0<=(k:Int))=true:=by simp
  have hrow:getD sp (toNat (k:Int)) (zero (Ty.slice (Ty.flt FloatKind.f32)))=sp[k]:=by rw[toNat_natCast,a3q _ _ _ hlt]
  have hk1:e5I (sp[k],())=true:=a0r (by have:=hr _ (List.getElem_mem hlt);show 0+length sp[k]<=_;omega);have e3:set (replicate 1 (zero (Ty.slice (Ty.flt FloatKind.f32)))) 0 sp[k]=[sp[k]]:=rfl;have ew:IntKind.i64.wrap ((k:Int)+1)=((k+1:Nat):Int):=a2h k (by omega);rw[e1,e2,hrow,hk1,ew];simp only[Bool.and_self,cond_true];rw[show(e5J (sp[k],())).1=sp[k]from rfl,e3,a0r (by rw[List.length_singleton,List.length_take];omega),cond_true];refine ih _ ⟨k+1,hlt,?_⟩ ?_
  ·rw[show List.take (k+1) sp=List.take k sp++[sp[k]]from(List.take_succ_eq_append_getElem hlt)]
  ·show sp.length-((k+1:Nat):Int).toNat<sp.length-((k:Nat):Int).toNat;omega
 ·have e1:decide ((k:Int)<(sp.length:Int))=false:=by simpa using hlt
  rw[e1,cond_false,List.take_of_length_le (by omega)]
theorem e4E (p:Den S27) (h:d4n p):f6p (p,())=some (p,()):=by
 obtain⟨ws,as_,sp,_⟩:=p;obtain⟨h1,h2,h3,h4⟩:=h;have h1:ws.length<=14:=h1;have h2:as_.length<=22:=h2;have h3:sp.length<=14:=h3;have hl:=d0h sp ws as_ (by omega) (fun r hr=>by have:=h4 r hr;omega);have k1:e5I (ws,())=true:=c2S (l:=ws) (by omega);have k2:e5L (as_,())=true:=c2S (l:=as_) (by omega);have g1:e5J (ws,())=(ws,()):=rfl;have g2:e5M (as_,())=(as_,()):=rfl;unfold f6p;dsimp only;simp only[k1,k2,g1,g2,cond_true,c7J,c7K,hl,isSome_some,getD_some]
theorem e4F (t:Den S30) (h:a4y t):f6q (t,())=some (t,()):=by
 obtain⟨st,hs,_⟩:=t;have h1:st.length<=21:=h.1;have h2:hs.length<=6:=h.2;have k1:f4F (st,())=true:=c2S (l:=st) (by omega);have k2:e5L (hs,())=true:=c2S (l:=hs) (by omega);have g1:f4G (st,())=(st,()):=rfl;have g2:e5M (hs,())=(hs,()):=rfl;unfold f6q;dsimp only;simp only[k1,k2,g1,g2,cond_true]
theorem e4G (c:Den S38) (h:c.2.1.length<=22):f6r (c,())=some (c,()):=by
 obtain⟨⟨⟨a1,a2,_⟩,⟨a3,a4,_⟩,_⟩,ms,⟨⟨b1,b2,_⟩,⟨b3,b4,_⟩,_⟩,_⟩:=c;have h:ms.length<=22:=h;have k1:f4J (ms,())=true:=c2S (l:=ms) (by omega);have g1:f4K (ms,())=(ms,()):=rfl;unfold f6r;dsimp only;simp only[k1,g1,cond_true]
theorem f3K (b:Den S40) (h:a5B b):F84 (b,())=some (b,()):=by
 obtain⟨P,T,S,C,_⟩:=b;obtain⟨hP,hT,⟨hS,hl⟩,hC⟩:=h;have hl:S.length<=13:=hl;have k3:f4H (S,())=true:=c2S (l:=S) (by omega);have g3:f4I (S,())=(S,()):=rfl;unfold F84;dsimp only;simp only[g2O,g2P,e4E P hP,g2S,g2T,e4F T hT,k3,g3,g2V,g2W,e4G C hC,isSome_some,getD_some,cond_true]
theorem a3f {α β:Type} (c:Bool) (a b:Option α) (f:α->Option β):(bif c then a else b).bind f=bif c then a.bind f else b.bind f:=by cases c<;>rfl
def prY (b:Bool) (Y:Yv):Option (Bool×Yv):=some (b,Y)
def unY {R:Type} (h:Bool->Yv->Option R) (p:Bool×Yv):Option R:=h p.1 p.2
section
variable {R:Type} (K17:Den A17->Bool) (G17:Den A17->Den R17) (f0L:Den f5J->Bool) (a9W:Den f5J->Den f0K) (K45:Den A45->Bool) (G45:Den A45->Den R45) (f5P:Den f5M->Bool) (e2H:Den f5M->Den f5N) (e6g:Den f5s->Bool) (c6S:Den f5s->Den f5t) (K19:Den A19->Bool) (G19:Den A19->Den R19) (e2I:Den f0Q->Bool) (e2J:Den f0Q->Den f5Q) (K23:Den A23->Bool) (G23:Den A23->Den R23) (K44:Den A44->Bool) (G44:Den A44->Den R44) (K57:Den A57->Bool) (G57:Den A57->Den R57) (f6j:Den f6h->Bool) (d8J:Den f6h->Den f6i) (f6n:Den f6l->Bool) (f6o:Den f6l->Den f1l) (f:List ByteArray)
theorem d4G (Y:Yv) (h:Bool->Yv->Option R):kpK Y h=(kpK Y prY).bind (unY h):=by
 simp only[kpK,a3f,Option.bind_none];rfl
theorem a4g (Y:Yv) (h:Bool->Yv->Option R):a7u f Y h=(a7u f Y prY).bind (unY h):=by
 simp only[a7u,a3f,Option.bind_none,d4G _ h];rfl
theorem b7u (Y:Yv) (h:Bool->Yv->Option R):b0Y f Y h=(b0Y f Y prY).bind (unY h):=by
 simp only[b0Y,a3f,Option.bind_none,a4g f _ h];rfl
theorem c2T (Y:Yv) (h:Bool->Yv->Option R):c2M f Y h=(c2M f Y prY).bind (unY h):=by
 simp only[c2M,a3f,Option.bind_none,a4g f _ h];rfl
theorem c2U (Y:Yv) (h:Bool->Yv->Option R):c2N f Y h=(c2N f Y prY).bind (unY h):=by
 simp only[c2N,a3f,Option.bind_none,a4g f _ h];rfl
theorem d0i (Y:Yv) (h:Bool->Yv->Option R):e6G f Y h=(e6G f Y prY).bind (unY h):=by
 simp only[e6G,a3f,Option.bind_none,a4g f _ h];rfl
theorem c2V (Y:Yv) (n t:Int) (s:Nat) (h:Bool->Yv->Option R):b7q f Y n t s h=(b7q f Y n t s prY).bind (unY h):=by
 simp only[b7q,a3f,Option.bind_none,a4g f _ h];rfl
theorem d4H (Y:Yv) (h:Bool->Yv->Option R):goK f Y h=(goK f Y prY).bind (unY h):=by
 simp only[goK,a3f,Option.bind_none,c2V f _ _ _ _ h];rfl
theorem c2W (Y:Yv) (h:Bool->Yv->Option R):c2O f Y h=(c2O f Y prY).bind (unY h):=by
 simp only[c2O,b0b,a3f,Option.bind_none,b7u f _ h,c2T f _ h,c2U f _ h,d0i f _ h,d4H f _ h];rfl
end
def d4I (f:List ByteArray) (Y:Yv):Option (Bool×Yv):=c2O f Y prY
theorem f3L (x:I68.den):F68 x=(d4I x.1.2.1 (yIn x)).bind (unY fun b Y=>some (c3t b Y)):=c2W _ _ _
theorem f3M (Y:Yv) (hB:a5B Y.1) (ht:Y.tk.length<=1000) (hl:Y.lg.length<=1000):F36 ((Y,()),())=some (((c3t true Y).2.1,()),(Y.tk,Y.lg,())):=by
 obtain⟨B,t,p,h,w,s,tr,lg,_⟩:=Y;have ht:tr.length<=1000:=ht;have hl:lg.length<=1000:=hl;have k1:K85 ((tr,()),())=true:=c2S (l:=tr) ht;have k2:K86 ((lg,()),())=true:=c2S (l:=lg) hl;have g1:G85 ((tr,()),())=(((),()),(tr,())):=rfl;have g2:G86 ((lg,()),())=(((),()),(lg,())):=rfl;have h84:=f3K B hB;unfold F36;dsimp only;simp only[K84,G84,h84,k1,k2,g1,g2,isSome_some,getD_some,cond_true];rfl
def a1h (f:List ByteArray):ByteArray:=⟨(b6c f { data:=#[32] }).toArray⟩
theorem f3N (Y:Yv) (s:ByteArray) (hB:a5B Y.1) (ht:Y.tk.length<=1000) (hl:Y.lg.length<=1000) {a b:Bool} {f:List ByteArray} (h14:F14 (Y,())=some (a,())) (h16:F16 (s,())=some (f,b,()))
 {d:Bool} {Z:Yv} (hd:a=true->(Y.lg.length:Int)<300->b=true->d4I f Y=some (d,Z) /\ (d=true->K60 (f,{ data:=#[32] },())=true /\ Z.lg.length<=1000)) :
 F27 (Y,s,())=some (bif a&&(decide ((Y.lg.length:Int)<300)&&(b&&d))then(Z.setLg (Z.lg++[a1h f]),true,())else(Y,false,())):=by
 have h36:=f3M Y hB ht hl;unfold F27;dsimp only;simp only[K36,G36,h36,K14,G14,h14,K16,G16,h16,isSome_some,getD_some,cond_true];cases a with
 |false=>rfl
 | true =>
   simp only[Bool.not_true,cond_false,Bool.true_and];by_cases h300:(Y.lg.length:Int)<300
   ·have e1:decide (((length Y.snd.snd.snd.snd.snd.snd.snd.fst:Nat):Int) ≥ 300)=false:=decide_eq_false (by show ¬((Y.lg.length:Int) ≥ 300);omega);have e2:decide ((Y.lg.length:Int)<300)=true:=decide_eq_true h300;rw[e1,e2];simp only[cond_false,Bool.true_and];cases b with
    |false=>rfl
    | true =>
      obtain⟨h68,hj⟩:=hd rfl h300 rfl;have key:∀x:I68.den,x.1.2.1=f->yIn x=Y->K68 x=true /\ G68 x=c3t d Z:=fun x e1 e2=>by
       unfold K68 G68;rw[f3L,e1,e2,h68];exact⟨rfl,rfl⟩
      have hk:=key (((),f,()),(c3t true Y).2.1,Y.tk,Y.lg,()) rfl rfl;refine Eq.trans (?_:_=(bif K68 (((),f,()),(c3t true Y).2.1,Y.tk,Y.lg,())then
       bif !(G68 (((),f,()),(c3t true Y).2.1,Y.tk,Y.lg,())).1.1 then some (Y,false,())
       else bif K60 (f,{ data:=#[32] },())then
        bif a0j (length (G68 (((),f,()),(c3t true Y).2.1,Y.tk,Y.lg,())).2.2.2.1+1)then
         some (yIn (((),f,()),(G68 (((),f,()),(c3t true Y).2.1,Y.tk,Y.lg,())).2.1,(G68 (((),f,()),(c3t true Y).2.1,Y.tk,Y.lg,())).2.2.2.2.1,(G68 (((),f,()),(c3t true Y).2.1,Y.tk,Y.lg,())).2.2.2.1++[(G60 (f,{ data:=#[32] },())).1],()),true,())
        else none
       else none
      else none:OD R27)) ?_
      ·rfl
      ·rw[hk.1,hk.2];cases d with
       |false=>rfl
       | true =>
         obtain⟨j1,j2⟩:=hj rfl;rw[j1];have:a0j (length (c3t true Z).2.2.2.1+1)=true:=a0r (by show Z.lg.length+1<=_;omega);rw[this];rfl
   ·have e1:decide (((length Y.snd.snd.snd.snd.snd.snd.snd.fst:Nat):Int) ≥ 300)=true:=decide_eq_true (by show((Y.lg.length:Int) ≥ 300);omega);have e2:decide ((Y.lg.length:Int)<300)=false:=decide_eq_false h300;rw[e1,e2];rfl
structure YM (Y:Yv):Prop where
 boat:a5B Y.1
 tk:Y.tk.length<=1000
 lg:Y.lg.length<=1000
def d4J (Y:Yv):Bool:=decide ((Y.tk.length:Int)>0)&&decide ((sg Y.tk (Y.tk.length-1)).2.1>Y.tm)
def e6H (m:Den R19) (Y:Yv):Bool:=bif decide (Y.sl ≥ 0)then m.2.1&&a1z (at' Y.sails Y.sl.toNat) m.1 else true
def d4K (Y:Yv):Bool:=a7w Y.1&&(inB Y.tm 0 10000000&&((a0S Y.ps).2.1&&(inB Y.hd 0 359&&(a1K Y.wd&&(inB Y.sl (-1) ((Y.sails.length:Int)-1)&&(a3G Y.tk&&(!decide ((Y.lg.length:Int)>300)&&!d4J Y)))))))
def okV (m:Den R19) (Y:Yv):Bool:=d4K Y&&e6H m Y
theorem a4h {Y:Yv} (h:YM Y):Y.sails.length<=13:=h.boat.2.2.1.2
theorem d4L (Y:Yv) (h:YM Y) (m:Den R19) (hm:I64 m.1.2.1) (hs:inB Y.sl (-1) ((Y.sails.length:Int)-1)=true) :
 (bif decide (Y.sl ≥ 0)then bif m.2.1 then bif (decide (0<=Y.sl)&&decide (Y.sl<(Y.sails.length:Int)))then bif K20 (at' Y.sails Y.sl.toNat,m.1,())then some (G20 (at' Y.sails Y.sl.toNat,m.1,()))else none else none else some (false,())else some (true,()):OD R14)=some (e6H m Y,()):=by
 have hg:=h.boat.2.2.1.1.at Y.sl.toNat;have e:=d8W (at' Y.sails Y.sl.toNat,m.1,()) hg.2.1 hg.2.2 hm;have k:K20 (at' Y.sails Y.sl.toNat,m.1,())=true:=isS e;have g:G20 (at' Y.sails Y.sl.toNat,m.1,())=(a1z (at' Y.sails Y.sl.toNat) m.1,()):=gtS e;rw[k,g];unfold e6H;by_cases h0:Y.sl ≥ 0
 ·have d1:decide (Y.sl ≥ 0)=true:=decide_eq_true h0;have d2:decide (Y.sl<(Y.sails.length:Int))=true:=by
   unfold inB at hs;simp only[and_eq_true,decide_eq_true_eq]at hs ⊢;omega
  rw[d1,d2];cases m.2.1<;>rfl
 ·have d1:decide (Y.sl ≥ 0)=false:=decide_eq_false h0;rw[d1];rfl
theorem c2X (Y:Yv) (h:YM Y) (m:Den R19) (hm:I64 m.1.2.1) (hs:inB Y.sl (-1) ((Y.sails.length:Int)-1)=true) :
 (bif decide (Y.sl ≥ 0)then bif m.2.1 then bif (decide (0<=Y.sl)&&decide (Y.sl<(Y.sails.length:Int)))then bif K55 (at' Y.sails Y.sl.toNat,m.1,())then some (G55 (at' Y.sails Y.sl.toNat,m.1,()))else none else none else some (false,())else some (true,()):OD R18)=some (e6H m Y,()):=by
 have hg:=h.boat.2.2.1.1.at Y.sl.toNat;have e:=d8V (at' Y.sails Y.sl.toNat,m.1,()) hg.2.1 hg.2.2 hm;have k:K55 (at' Y.sails Y.sl.toNat,m.1,())=true:=isS e;have g:G55 (at' Y.sails Y.sl.toNat,m.1,())=(a1z (at' Y.sails Y.sl.toNat) m.1,()):=gtS e;rw[k,g];unfold e6H;by_cases h0:Y.sl ≥ 0
 ·have d1:decide (Y.sl ≥ 0)=true:=decide_eq_true h0;have d2:decide (Y.sl<(Y.sails.length:Int))=true:=by
   unfold inB at hs;simp only[and_eq_true,decide_eq_true_eq]at hs ⊢;omega
  rw[d1,d2];cases m.2.1<;>rfl
 ·have d1:decide (Y.sl ≥ 0)=false:=decide_eq_false h0;rw[d1];rfl
theorem d0j {n:Nat} (h0:(n:Int)>0) (h:n<=1000):IntKind.i64.wrap ((n:Int)-1)=((n-1:Nat):Int) /\ (decide (0<=((n-1:Nat):Int))&&decide (((n-1:Nat):Int)<(n:Int)))=true:=by
 constructor
 ·rw[w64 (by omega) (by omega)];omega
 ·simp only[and_eq_true,decide_eq_true_eq];omega
theorem f3O (Y:Yv) (h:YM Y):F14 (Y,())=some (okV (a2k Y) Y,()):=by
 have htk:=h.tk;have e1:=d0d Y.ps;have k1:K23 (Y.ps,())=true:=isS e1;have g1:G23 (Y.ps,())=a0S Y.ps:=gtS e1;have e2:=f3J Y.1 h.boat;have k2:K42 (Y.1,())=true:=isS e2;have g2:G42 (Y.1,())=(a7w Y.1,()):=gtS e2;have e3:F43 (Y.tm,())=some (inB Y.tm 0 10000000,()):=c0c _;have k3:K43 (Y.tm,())=true:=isS e3;have g3:G43 (Y.tm,())=(inB Y.tm 0 10000000,()):=gtS e3;have e4:F44 (Y.hd,0,359,())=some (inB Y.hd 0 359,()):=a3r _;have k4:K44 (Y.hd,0,359,())=true:=isS e4;have g4:G44 (Y.hd,0,359,())=(inB Y.hd 0 359,()):=gtS e4;have e5:=a4G Y.wd;have k5:K45 (Y.wd,())=true:=isS e5;have g5:G45 (Y.wd,())=(a1K Y.wd,()):=gtS e5;have hsl:=a4h h;have w1:IntKind.i64.wrap ((Y.sails.length:Int)-1)=(Y.sails.length:Int)-1:=w64 (by omega) (by omega);have e6:F44 (Y.sl,-1,(Y.sails.length:Int)-1,())=some (inB Y.sl (-1) ((Y.sails.length:Int)-1),()):=a3r _;have k6:K44 (Y.sl,-1,(Y.sails.length:Int)-1,())=true:=isS e6;have g6:G44 (Y.sl,-1,(Y.sails.length:Int)-1,())=(inB Y.sl (-1) ((Y.sails.length:Int)-1),()):=gtS e6;have e7:F46 (Y.tk,())=some (a3G Y.tk,()):=f1z Y.tk (by omega);have k7:K46 (Y.tk,())=true:=isS e7;have g7:G46 (Y.tk,())=(a3G Y.tk,()):=gtS e7;have e8:=c9V Y;have k8:K19 (Y,())=true:=isS e8;have g8:G19 (Y,())=a2k Y:=gtS e8;unfold F14;show(bif K23 (Y.ps,())then bif K42 (Y.1,())then bif !(G42 (Y.1,())).1 then some (false,())else bif K43 (Y.tm,())then bif !(G43 (Y.tm,())).1 then some (false,())else
  bif !(G23 (Y.ps,())).2.1 then some (false,())else bif K44 (Y.hd,0,359,())then bif !(G44 (Y.hd,0,359,())).1 then some (false,())else
  bif K45 (Y.wd,())then bif !(G45 (Y.wd,())).1 then some (false,())else
  bif K44 (Y.sl,-1,IntKind.i64.wrap ((Y.sails.length:Int)-1),())then bif !(G44 (Y.sl,-1,IntKind.i64.wrap ((Y.sails.length:Int)-1),())).1 then some (false,())else
  bif K46 (Y.tk,())then bif !(G46 (Y.tk,())).1 then some (false,())else
  bif decide ((Y.lg.length:Int)>300)then some (false,())else
  bif decide ((Y.tk.length:Int)>0)then bif (decide (0<=IntKind.i64.wrap ((Y.tk.length:Int)-1))&&decide (IntKind.i64.wrap ((Y.tk.length:Int)-1)<(Y.tk.length:Int)))then
   bif decide ((sg Y.tk (IntKind.i64.wrap ((Y.tk.length:Int)-1)).toNat).2.1>Y.tm)then some (false,())else
   (bif decide (Y.sl ≥ 0)then bif K19 (Y,())then bif (G19 (Y,())).2.1 then bif (decide (0<=Y.sl)&&decide (Y.sl<(Y.sails.length:Int)))then bif K20 (at' Y.sails Y.sl.toNat,(G19 (Y,())).1,())then some (G20 (at' Y.sails Y.sl.toNat,(G19 (Y,())).1,()))else none else none else some (false,())else none else some (true,()))
   else none
  else(bif decide (Y.sl ≥ 0)then bif K19 (Y,())then bif (G19 (Y,())).2.1 then bif (decide (0<=Y.sl)&&decide (Y.sl<(Y.sails.length:Int)))then bif K20 (at' Y.sails Y.sl.toNat,(G19 (Y,())).1,())then some (G20 (at' Y.sails Y.sl.toNat,(G19 (Y,())).1,()))else none else none else some (false,())else none else some (true,()))
  else none else none else none else none else none else none else none:OD R14)=_
 rw[w1,k1,g1,k2,g2,k3,g3,k4,g4,k5,g5,k6,g6,k7,g7,k8,g8];simp only[cond_true];unfold okV d4K;cases c1:a7w Y.1
 ·rfl
 cases c2:inB Y.tm 0 10000000
 ·rfl
 cases c3:(a0S Y.ps).2.1
 ·rfl
 cases c4:inB Y.hd 0 359
 ·rfl
 cases c5:a1K Y.wd
 ·rfl
 cases c6:inB Y.sl (-1) ((Y.sails.length:Int)-1)
 ·rfl
 cases c7:a3G Y.tk
 ·rfl
 cases c8:decide ((Y.lg.length:Int)>300)
 ·have ht:=d4L Y h (a2k Y) (b4Z Y) c6;unfold d4J;by_cases h0:(Y.tk.length:Int)>0
  ·obtain⟨i1,i2⟩:=d0j h0 htk;have d1:decide ((Y.tk.length:Int)>0)=true:=decide_eq_true h0;rw[d1,i1,i2,toNat_natCast];cases decide ((sg Y.tk (Y.tk.length-1)).2.1>Y.tm)
   ·exact ht
   ·rfl
  ·have d1:decide ((Y.tk.length:Int)>0)=false:=decide_eq_false h0;rw[d1];exact ht
 ·rfl
theorem f3P (Y:Yv) (h:YM Y):F18 (Y,())=some (okV (a1l Y) Y,()):=by
 have htk:=h.tk;have e1:=c0Z Y.ps;have k1:K49 (Y.ps,())=true:=isS e1;have g1:G49 (Y.ps,())=a0S Y.ps:=gtS e1;have e2:=e0m Y.1 h.boat;have k2:K50 (Y.1,())=true:=isS e2;have g2:G50 (Y.1,())=(a7w Y.1,()):=gtS e2;have e3:F51 (Y.tm,0,10000000,())=some (inB Y.tm 0 10000000,()):=a2d _;have k3:K51 (Y.tm,0,10000000,())=true:=isS e3;have g3:G51 (Y.tm,0,10000000,())=(inB Y.tm 0 10000000,()):=gtS e3;have e4:F51 (Y.hd,0,359,())=some (inB Y.hd 0 359,()):=a2d _;have k4:K51 (Y.hd,0,359,())=true:=isS e4;have g4:G51 (Y.hd,0,359,())=(inB Y.hd 0 359,()):=gtS e4;have e5:=a4H Y.wd;have k5:K52 (Y.wd,())=true:=isS e5;have g5:G52 (Y.wd,())=(a1K Y.wd,()):=gtS e5;have hsl:=a4h h;have w1:IntKind.i64.wrap ((Y.sails.length:Int)-1)=(Y.sails.length:Int)-1:=w64 (by omega) (by omega);have e6:F51 (Y.sl,-1,(Y.sails.length:Int)-1,())=some (inB Y.sl (-1) ((Y.sails.length:Int)-1),()):=a2d _;have k6:K51 (Y.sl,-1,(Y.sails.length:Int)-1,())=true:=isS e6;have g6:G51 (Y.sl,-1,(Y.sails.length:Int)-1,())=(inB Y.sl (-1) ((Y.sails.length:Int)-1),()):=gtS e6;have e7:F53 (Y.tk,())=some (a3G Y.tk,()):=f1y Y.tk (by omega);have k7:K53 (Y.tk,())=true:=isS e7;have g7:G53 (Y.tk,())=(a3G Y.tk,()):=gtS e7;have e8:=c9W Y;have k8:K54 (Y,())=true:=isS e8;have g8:G54 (Y,())=a1l Y:=gtS e8;unfold F18;show(bif K49 (Y.ps,())then bif K50 (Y.1,())then bif !(G50 (Y.1,())).1 then some (false,())else bif K51 (Y.tm,0,10000000,())then bif !(G51 (Y.tm,0,10000000,())).1 then some (false,())else
  bif !(G49 (Y.ps,())).2.1 then some (false,())else bif K51 (Y.hd,0,359,())then bif !(G51 (Y.hd,0,359,())).1 then some (false,())else
  bif K52 (Y.wd,())then bif !(G52 (Y.wd,())).1 then some (false,())else
  bif K51 (Y.sl,-1,IntKind.i64.wrap ((Y.sails.length:Int)-1),())then bif !(G51 (Y.sl,-1,IntKind.i64.wrap ((Y.sails.length:Int)-1),())).1 then some (false,())else
  bif K53 (Y.tk,())then bif !(G53 (Y.tk,())).1 then some (false,())else
  bif decide ((Y.tk.length:Int)>0)then bif (decide (0<=IntKind.i64.wrap ((Y.tk.length:Int)-1))&&decide (IntKind.i64.wrap ((Y.tk.length:Int)-1)<(Y.tk.length:Int)))then
   bif decide ((sg Y.tk (IntKind.i64.wrap ((Y.tk.length:Int)-1)).toNat).2.1>Y.tm)then some (false,())else
   bif decide ((Y.lg.length:Int)>300)then some (false,())else
   (bif decide (Y.sl ≥ 0)then bif K54 (Y,())then bif (G54 (Y,())).2.1 then bif (decide (0<=Y.sl)&&decide (Y.sl<(Y.sails.length:Int)))then bif K55 (at' Y.sails Y.sl.toNat,(G54 (Y,())).1,())then some (G55 (at' Y.sails Y.sl.toNat,(G54 (Y,())).1,()))else none else none else some (false,())else none else some (true,()))
   else none
  else bif decide ((Y.lg.length:Int)>300)then some (false,())else(bif decide (Y.sl ≥ 0)then bif K54 (Y,())then bif (G54 (Y,())).2.1 then bif (decide (0<=Y.sl)&&decide (Y.sl<(Y.sails.length:Int)))then bif K55 (at' Y.sails Y.sl.toNat,(G54 (Y,())).1,())then some (G55 (at' Y.sails Y.sl.toNat,(G54 (Y,())).1,()))else none else none else some (false,())else none else some (true,()))
  else none else none else none else none else none else none else none:OD R18)=_
 rw[w1,k1,g1,k2,g2,k3,g3,k4,g4,k5,g5,k6,g6,k7,g7,k8,g8];simp only[cond_true];unfold okV d4K;cases c1:a7w Y.1
 ·rfl
 cases c2:inB Y.tm 0 10000000
 ·rfl
 cases c3:(a0S Y.ps).2.1
 ·rfl
 cases c4:inB Y.hd 0 359
 ·rfl
 cases c5:a1K Y.wd
 ·rfl
 cases c6:inB Y.sl (-1) ((Y.sails.length:Int)-1)
 ·rfl
 cases c7:a3G Y.tk
 ·rfl
 have ht:=c2X Y h (a1l Y) (b5a Y) c6;unfold d4J;by_cases h0:(Y.tk.length:Int)>0
 ·obtain⟨i1,i2⟩:=d0j h0 htk;have d1:decide ((Y.tk.length:Int)>0)=true:=decide_eq_true h0;rw[d1,i1,i2,toNat_natCast];cases decide ((sg Y.tk (Y.tk.length-1)).2.1>Y.tm)
  ·cases c8:decide ((Y.lg.length:Int)>300)
   ·exact ht
   ·rfl
  ·cases c8:decide ((Y.lg.length:Int)>300)<;>rfl
 ·have d1:decide ((Y.tk.length:Int)>0)=false:=decide_eq_false h0;rw[d1];cases c8:decide ((Y.lg.length:Int)>300)
  ·exact ht
  ·rfl
def b0c (g:Den a2z):Bool:=a3z g.2.1&&a0n g.2.2.1 0 100000
theorem e4H (g:Den a2z):f5S (g,())=some (b0c g,()):=by
 have e1:=b7i g.2.1;have e2:=a2N g.2.2.1 0 100000;unfold f5S b0c;dsimp only;simp only[e2l,e2m,e1,K44,G44,e2,isSome_some,getD_some,cond_true];cases a3z g.2.1<;>rfl
theorem d4M (g:Den a2z):f5V ([g],())=some (b0c g,()):=by
 have e1:=e4H g;have k1:f5T (g,())=true:=isS e1;have g1:f5U (g,())=(b0c g,()):=gtS e1;have hl:a9f (([g],[g],(1:Int),(0:Int),()),())=some (bif b0c g then .inl (([g],()),())else .inr ((false,()),())):=by
  have hb:c7v (([g],[g],(1:Int),(0:Int),()),())=1003:=rfl;unfold a9f;rw[hb];show b4p _ _=_;unfold b4p;show(bif f5T (g,())then bif !(f5U (g,())).1 then _ else a0C (b4p) 1002 (([g],[g],(1:Int),(1:Int),()),())else none)=_;rw[k1,g1];cases b0c g
  ·rfl
  ·rfl
 unfold f5V;show(bif b6r (([g],[g],(1:Int),(0:Int),()),())then bif b6s (([g],[g],(1:Int),(0:Int),()),())then some (b6u (([g],[g],(1:Int),(0:Int),()),())).1 else some (decide (((b6t (([g],[g],(1:Int),(0:Int),()),())).1.1.length:Int)<=50),())else none)=_;unfold b6r b6s b6u b6t;rw[hl];cases b0c g<;>rfl
def d0k (v s:Nat×Nat):Nat×Nat:=(a0a .add .f32 v.1 s.1,a0a .add .f32 v.2 s.2)
def a1S (k:Int) (sp:Nat) (s:Nat×Nat):(Nat×Nat)×Bool×Unit:=bif !(a7P k sp).2.1 then((0,0),false,())else bif !a1K s then((0,0),false,())else(d0k (a7P k sp).1 s,true,())
theorem e4I (k:Int) (sp:Nat) (s:Nat×Nat):f6d (k,sp,s,())=some (a1S k sp s):=by
 have e1:=e0i k sp;have e2:=a4G s;have e3:g2A ((a7P k sp).1,s,())=some (d0k (a7P k sp).1 s,()):=rfl;unfold f6d a1S;dsimp only;simp only[K56,G56,e1,K45,G45,e2,g2B,g2C,e3,isSome_some,getD_some,cond_true];cases (a7P k sp).2.1
 ·rfl
 ·cases a1K s<;>rfl
def onV (p v:Nat×Nat) (n:Int):Nat×Nat:=(a0a .add .f64 p.1 (a0a .mul .f64 (a0u .f32 .f64 v.1).2 (nearest .f64 n)),a0a .add .f64 p.2 (a0a .mul .f64 (a0u .f32 .f64 v.2).2 (nearest .f64 n)))
def b7v (p v:Nat×Nat) (n:Int):(Nat×Nat)×Bool×Unit:=
 bif !a3d p then((0,0),false,())else bif !a1K v then((0,0),false,())else bif !a0n n 0 100000 then((0,0),false,())else bif !a3d (onV p v n)then((0,0),false,())else(onV p v n,true,())
theorem e4J (p v:Nat×Nat) (n:Int):f6e (p,v,n,())=some (b7v p v n):=by
 have e1:=a7L p;have e2:=a4G v;have e3:=a2N n 0 100000;have e4:=a7L (onV p v n);unfold onV at e4;unfold f6e b7v onV;dsimp only;simp only[K61,G61,e1,K45,G45,e2,K44,G44,e3,e4,isSome_some,getD_some,cond_true];cases a3d p
 ·rfl
 cases a1K v
 ·rfl
 cases a0n n 0 100000
 ·rfl
 cases a3d (a0a .add .f64 p.1 (a0a .mul .f64 (a0u .f32 .f64 v.1).2 (nearest .f64 n)),a0a .add .f64 p.2 (a0a .mul .f64 (a0u .f32 .f64 v.2).2 (nearest .f64 n)))<;>rfl
def a4B (p:Nat×Nat) (g:Den a2z) (n:Int) (s:Nat×Nat):(Nat×Nat)×Bool×Unit:=bif !(a1S g.1 g.2.1 s).2.1 then((0,0),false,())else b7v p (a1S g.1 g.2.1 s).1 n
theorem e4K (p:Nat×Nat) (g:Den a2z) (n:Int) (s:Nat×Nat):f6f (p,g,n,s,())=some (a4B p g n s):=by
 have e1:=e4I g.1 g.2.1 s;have e2:=e4J p (a1S g.1 g.2.1 s).1 n;unfold f6f a4B;dsimp only;simp only[g2E,g2F,e1,g2H,g2I,e2,isSome_some,getD_some,cond_true];cases (a1S g.1 g.2.1 s).2.1<;>rfl
def a4I (td:Den S30) (g:Den a2z):Nat->Nat×Nat->Int->Int->Option ((Nat×Nat)×Int×Int)
 |0,p,t,l=>some (p,t,l)
 |f+1,p,t,l=>bif decide (l>0)then bif !(a0P td p t).2.1 then none else bif !(a4B p g (a2l l 600) (a0P td p t).1).2.1 then none else a4I td g f (a4B p g (a2l l 600) (a0P td p t).1).1 (t+a2l l 600) (l-a2l l 600)else some (p,t,l)
def a4Q (g:Den a2z):Int:=g.2.2.1
def f3Q (p:Nat×Nat) (t:Int) (g:Den a2z) (td:Den S30):(Nat×Nat)×Bool×Unit:=
 bif !a3d p then((0,0),false,())else bif !b0c g then((0,0),false,())else match a4I td g 7 p t (a4Q g)with|some r=>(r.1,true,())|none=>((0,0),false,())
theorem c1g {l:Int} (h:0<l):0<a2l l 600 /\ a2l l 600<=l /\ a2l l 600<=600 /\ (a2l l 600=l∨a2l l 600=600):=by
 unfold a2l;split<;>omega
abbrev e4L:Type:=List (Den (a2z))×Int×Int×Unit
theorem c2Y (td:Den S30) (h:a4y td) (g:Den a2z) (rest:e4L):∀(f N:Nat) (p:Nat×Nat) (t l:Int),(l<=(f:Int)*600)->(f<N)->0<=t->t+l<=9223372036854775807->0<=l ->
 ∃t':Int,a0C (b4s) N ((p,t,(),(),l,rest),td,g,())=some (match a4I td g f p t l with|some r => .inl ((r.1,t',(),rest),td,())|none => .inr (((0,0),false,()),())):=by
 intro f
 induction f with
 | zero =>
   intro N p t l hl hN ht htl hl0;obtain⟨N,rfl⟩:∃M,N=M+1:=⟨N-1,by omega⟩;have h0:l=0:=by omega
   subst h0;exact⟨t,rfl⟩
 | succ f ih =>
   intro N p t l hl hN ht htl hl0;obtain⟨N,rfl⟩:∃M,N=M+1:=⟨N-1,by omega⟩;by_cases h1:l>0
   ·have d1:decide (l>0)=true:=decide_eq_true h1;obtain⟨m1,m2,m3,m4⟩:=c1g h1;have e1:=e4n td p t h;have e2:=e4K p g (a2l l 600) (a0P td p t).1;have k1:f6c (td,p,t,())=true:=isS e1;have g1:e2K (td,p,t,())=a0P td p t:=gtS e1;have k2:f6g (p,g,a2l l 600,(a0P td p t).1,())=true:=isS e2;have g2:f1g (p,g,a2l l 600,(a0P td p t).1,())=a4B p g (a2l l 600) (a0P td p t).1:=gtS e2;have w1:IntKind.i64.wrap (t+a2l l 600)=t+a2l l 600:=w64 (by omega) (by omega);have w2:IntKind.i64.wrap (l-a2l l 600)=l-a2l l 600:=w64 (by omega) (by omega);have ih':=ih N (a4B p g (a2l l 600) (a0P td p t).1).1 (t+a2l l 600) (l-a2l l 600) (by omega) (by omega) (by omega) (by omega) (by omega);have step:a0C (b4s) (N+1) ((p,t,(),(),l,rest),td,g,()) =
     bif decide (l>0)then bif f6c (td,p,t,())then bif !(e2K (td,p,t,())).2.1 then some (.inr (((0,0),false,()),()))
      else bif f6g (p,g,a2l l 600,(e2K (td,p,t,())).1,())then bif !(f1g (p,g,a2l l 600,(e2K (td,p,t,())).1,())).2.1 then some (.inr (((0,0),false,()),()))
       else a0C (b4s) N (((f1g (p,g,a2l l 600,(e2K (td,p,t,())).1,())).1,IntKind.i64.wrap (t+a2l l 600),(),(),IntKind.i64.wrap (l-a2l l 600),rest),td,g,())
      else none else none
     else some (.inl ((p,t,(),rest),td,())):=rfl
    rw[step,d1,k1,g1];simp only[cond_true,k2,g2,w1,w2];unfold a4I;rw[d1,cond_true];cases (a0P td p t).2.1
    ·exact⟨0,rfl⟩
    ·cases (a4B p g (a2l l 600) (a0P td p t).1).2.1
     ·exact⟨0,rfl⟩
     ·exact ih'
   ·have h0:l=0:=by omega
    subst h0;exact⟨t,rfl⟩
theorem e4M (p:Nat×Nat) (t:Int) (g:Den a2z) (td:Den S30) (h:a4y td) (ht:0<=t) (ht':t<=1000000000000) (hg:a4Q g<=3600):e2L (p,t,[g],td,())=some (f3Q p t g td):=by
 have e1:=a7L p;have e2:=d4M g;have k1:K61 (p,())=true:=isS e1;have g1:G61 (p,())=(a3d p,()):=gtS e1;have k2:f5W ([g],())=true:=isS e2;have g2:f5X ([g],())=(b0c g,()):=gtS e2;unfold e2L f3Q;show(bif K61 (p,())then bif !(G61 (p,())).1 then _ else bif f5W ([g],())then bif !(f5X ([g],())).1 then _ else
  bif b6y ((p,t,(),[g],(1:Int),(0:Int),()),td,())then bif b6z ((p,t,(),[g],(1:Int),(0:Int),()),td,())then some (b6B ((p,t,(),[g],(1:Int),(0:Int),()),td,())).1
   else some ((b6A ((p,t,(),[g],(1:Int),(0:Int),()),td,())).1.1,true,())else none else none else none)=_
 rw[k1,g1,k2,g2];cases hp:a3d p
 ·rfl
 cases hg':b0c g
 ·rfl
 simp only[Bool.not_true,cond_true,cond_false];have hg2:0<=a4Q g:=by
  unfold b0c a0n at hg';simp only[and_eq_true,decide_eq_true_eq]at hg';exact hg'.2.1
 obtain⟨t',hl⟩:=c2Y td h g ([g],(1:Int),(0:Int),()) 7 (b9P ((p,t,(),(),a4Q g,([g],(1:Int),(0:Int),())),td,g,())) p t (a4Q g) (by omega) (by unfold b9P;dsimp only;omega) ht (by omega) hg2;have hl7:b0J ((p,t,(),(),a4Q g,([g],(1:Int),(0:Int),())),td,g,())=_:=hl;have hl4:a9g ((p,t,(),[g],(1:Int),(0:Int),()),td,())=some (match a4I td g 7 p t (a4Q g)with|some r => .inl ((r.1,()),())|none => .inr (((0,0),false,()),())):=by
  unfold a9g;have hb:∃M,b4t ((p,t,(),[g],(1:Int),(0:Int),()),td,())=M+2:=⟨b4t ((p,t,(),[g],(1:Int),(0:Int),()),td,())-2,by unfold b4t;dsimp only;omega⟩;obtain⟨M,hM⟩:=hb;rw[hM];show(bif b6v ((p,t,(),(),a4Q g,([g],(1:Int),(0:Int),())),td,g,())then bif b6w ((p,t,(),(),a4Q g,([g],(1:Int),(0:Int),())),td,g,())then(some (Sum.inr (b6x ((p,t,(),(),a4Q g,([g],(1:Int),(0:Int),())),td,g,()))):Option (c7C⊕c7D))else _ else none)=_;unfold b6v b6w b6x;rw[hl7];cases hpv:a4I td g 7 p t (a4Q g)with
  |none=>rfl
  | some r =>
    have hx:a4x ((p,t,(),(),a4Q g,([g],(1:Int),(0:Int),())),td,g,())=((r.1,t',(),([g],(1:Int),(0:Int),())),td,()):=by
     unfold a4x;rw[hl7,hpv];rfl
    show a0C (c7E) (M+1) (((a4x ((p,t,(),(),a4Q g,([g],(1:Int),(0:Int),())),td,g,())).1.1,(a4x ((p,t,(),(),a4Q g,([g],(1:Int),(0:Int),())),td,g,())).1.2.1,(),(a4x ((p,t,(),(),a4Q g,([g],(1:Int),(0:Int),())),td,g,())).1.2.2.2.1,(a4x ((p,t,(),(),a4Q g,([g],(1:Int),(0:Int),())),td,g,())).1.2.2.2.2.1,IntKind.i64.wrap ((a4x ((p,t,(),(),a4Q g,([g],(1:Int),(0:Int),())),td,g,())).1.2.2.2.2.2.1+1),()),(a4x ((p,t,(),(),a4Q g,([g],(1:Int),(0:Int),())),td,g,())).2)=_;rw[hx];rfl
 unfold b6y b6z b6B b6A;rw[hl4];cases a4I td g 7 p t (a4Q g)with
 |none=>rfl
 |some r=>rfl
def b7w (s:ByteArray) (i:Nat):Bool:=!decide (a0o s (i:Int)<32)&&!decide (a0o s (i:Int)>126)
def c2Z (s:ByteArray):Bool:=a0i (b7w s) 0 s.size
def spB:ByteArray:={ data:=#[32] }
def d0l (s:ByteArray):Bool:=!a0O s { data:=#[] }
def a0J (s:ByteArray):List ByteArray:=(a4c s spB).filter d0l
theorem d4N (s:ByteArray) (h:s.size<=1000):c2o ((s,(0:Int),()),())=some (bif c2Z s then .inl ((s,()),())else .inr (((),false,()),())):=by
 refine(a0H (q:=c7N) (fun k=>((s,(k:Int),()),())) s.size (b7w s) _ _ ?_ ?_ _ ?_:_)
 ·intro k f hk;have e1:decide ((k:Int)<(s.size:Int))=true:=by simpa using hk
  have e2:decide (0<=(k:Int))=true:=by simp
  unfold c7N b7w;simp only[a2h k (by omega),e1,e2,Bool.and_self,cond_true];cases decide (a0o s (k:Int)<32)
  ·cases decide (a0o s (k:Int)>126)<;>rfl
  ·rfl
 ·intro f;simp[c7N]
 ·simp only[e2M];omega
theorem c3a (l:List ByteArray) (h:l.length<=1000):b9Z (((),l,(l.length:Int),(0:Int),()),[],())=some (((),()),l.filter d0l,()):=by
 refine a0E (q:=b9X) (fun v=>∃k:Nat,k<=l.length /\ v=(((),l,(l.length:Int),(k:Int),()),(l.take k).filter d0l,()))
  (fun _ r=>r=some (((),()),l.filter d0l,())) (fun v=>l.length-v.1.2.2.2.1.toNat) ?_ _ _ ⟨0,zero_le _,rfl⟩ (by show l.length-toNat 0<b9Y _;unfold b9Y;dsimp only;omega)
 rintro v f ⟨k,hk,rfl⟩ ih;unfold b9X;dsimp only;by_cases hlt:k<l.length
 ·have e1:decide ((k:Int)<(l.length:Int))=true:=by simpa using hlt
  have e2:decide (0<=(k:Int))=true:=by simp
  have hrow:getD l (toNat (k:Int)) (zero Ty.str)=l[k]:=by rw[toNat_natCast,a3q _ _ _ hlt]
  have ew:IntKind.i64.wrap ((k:Int)+1)=((k+1:Nat):Int):=a2h k (by omega);have e3:set (replicate 1 (zero Ty.str)) 0 l[k]=[l[k]]:=rfl;have htk:List.take (k+1) l=List.take k l++[l[k]]:=List.take_succ_eq_append_getElem hlt;have hmu:l.length-((k+1:Nat):Int).toNat<l.length-((k:Nat):Int).toNat:=by omega
  rw[e1,e2,hrow,ew,e3];simp only[Bool.and_self,cond_true];cases hb:!a0O l[k] { data:=#[] }with
  | true =>
    have hcap:a0j (length (List.filter d0l (List.take k l))+length [l[k]])=true:=a0r (by
     have:=List.length_filter_le d0l (List.take k l);rw[List.length_take]at this;rw[List.length_singleton];omega)
    rw[hcap];simp only[cond_true];refine ih _ ⟨k+1,hlt,?_⟩ hmu;rw[htk,List.filter_append,List.filter_cons_of_pos (show d0l l[k]=true from hb),List.filter_nil]
  | false =>
    simp only[cond_false];refine ih _ ⟨k+1,hlt,?_⟩ hmu;rw[htk,List.filter_append,List.filter_cons_of_neg (by show ¬(d0l l[k]=true);rw[show d0l l[k]=false from hb];simp),List.filter_nil,List.append_nil]
 ·have e1:decide ((k:Int)<(l.length:Int))=false:=by simpa using hlt
  rw[e1,cond_false,List.take_of_length_le (by omega)]
theorem d0m (s:ByteArray):(a4c s spB).length<=s.size+1:=by
 have h1:=Lib.splitB_all spB (by decide) 0 _ s rfl;unfold a4c;rw[h1];have:=Lib.countB_le spB (by decide) s.size s (le_refl _);omega
theorem c1h (s:ByteArray):F16 (s,())=some (bif decide ((s.size:Int)>600)then([],false,())else bif !c2Z s then([],false,())else bif decide (((a0J s).length:Int)>24)then([],false,())else(a0J s,true,())):=by
 unfold F16;dsimp only;cases h6:decide (((ByteArray.size s:Nat):Int)>600)with
 |true=>rfl
 | false =>
   have hs:s.size<=600:=by
    have:=of_decide_eq_false h6;omega
   have hl:=d4N s (by omega);have hsl:=d0m s;have k48:K48 (s,{ data:=#[32] },())=true:=by
    unfold K48;rw[decide_eq_true (show(s:ByteArray).size<4294967281 by omega),decide_eq_true (show 1<=ByteArray.size { data:=#[32] }by decide)];rfl
   have g48:G48 (s,{ data:=#[32] },())=(a4c s spB,()):=rfl;have hq:=c3a (a4c s spB) (by omega);simp only[cond_false,d8R,d8S,d8T,d8U,hl,isSome_some,cond_true];cases c2Z s with
   |false=>rfl
   | true =>
     simp only[cond_true,isR,xOf,cond_false,k48,g48,c7L,c7M,hq,isSome_some,getD_some,Bool.not_true];show(bif decide (((length (a0J s):Nat):Int)>24)then some ([],false,())else some (a0J s,true,()))=_;cases decide (((length (a0J s):Nat):Int)>24)<;>rfl
def pcs:List UInt8->List (List UInt8)
 |[]=>[[]]
 | b::r=>if b=32 then[]::pcs r else match pcs r with
   |[]=>[[b]]
   |p::ps=>(b::p)::ps
theorem c1i:∀l,pcs l≠[]
 |[]=>by simp[pcs]
 | b::r=>by
   unfold pcs;split
   ·simp
   ·split<;>simp
theorem b1e (b:UInt8) (l:List UInt8):Lib.index (b::l) [32]=if b=32 then 0 else if Lib.index l [32] == -1 then -1 else Lib.index l [32]+1:=by
 rw[Lib.index];by_cases h:b=32
 ·subst h;simp
 ·have:([32]:List UInt8).isPrefixOf (b::l)=false:=by
   simp[List.isPrefixOf];exact fun e=>h e.symm
  rw[this,if_neg h];simp
theorem b5g:∀l:List UInt8,Lib.splitK [32] 0 (Lib.count l [32]) l=pcs l
 |[]=>rfl
 | b::r=>by
   have ih:=b5g r;by_cases h:b=32
   ·subst h;rw[Lib.count_cons_eq,Nat.add_comm];unfold Lib.splitK pcs;rw[b1e,if_pos rfl,if_neg (by decide),if_pos rfl];simp[ih]
   ·rw [Lib.count_cons_ne b 32 r h];unfold pcs;rw[if_neg h];cases hc:Lib.count r [32]with
    | zero =>
      rw[hc]at ih;rw[<- ih];rfl
    | succ k =>
      rw[hc]at ih;have hne:¬(Lib.index r [32] == -1)=true:=fun e=>by
       have:=Lib.count_miss (s:=r) (sub:=[32]) (beq_iff_eq.1 e);omega
      have hge:=Lib.index_ge r [32];have hne':Lib.index r [32] ≠ -1:=fun e=>hne (beq_iff_eq.2 e)
      unfold Lib.splitK at ih ⊢;rw[if_neg hne]at ih;rw[b1e,if_neg h,if_neg hne,if_neg (by intro e;have:=beq_iff_eq.1 e;omega),<- ih];have e1:(Lib.index r [32]+1).toNat=(Lib.index r [32]).toNat+1:=by omega
      rw[e1];simp[Nat.add_assoc]
theorem c3b (s:ByteArray):(a4c s spB).map (·.data.toList)=pcs s.data.toList:=by
 unfold a4c;rw[Lib.splitB_data];exact b5g _
theorem a9A:∀(x l:List UInt8),32 ∉ x->pcs (x++l)=(match pcs l with
 |[]=>[x]
 |p::ps=>(x++p)::ps)
 | [],l,_=>by
   have:=c1i l;cases h:pcs l with
   |nil=>exact absurd h this
   |cons p ps=>simp[h]
 | b::x,l,hx=>by
   have hb:b≠32:=fun e=>hx (by rw[e];exact List.mem_cons_self ..)
   have ih:=a9A x l (fun e=>hx (List.mem_cons_of_mem _ e));rw[List.cons_append]
   conv=>lhs;unfold pcs
   rw[if_neg hb,ih];cases h:pcs l with
   |nil=>exact absurd h (c1i l)
   |cons p ps=>rfl
def a4N (f:List (List UInt8)):List UInt8:=Lib.join f [32]
theorem a3t (x:List UInt8):a4N [x]=x:=Lib.join_one x [32]
theorem a2w (x y:List UInt8) (r:List (List UInt8)):a4N (x::y::r)=x++32::a4N (y::r):=by
 unfold a4N;rw[Lib.join_cons,Lib.join_cons];simp[Lib.joinTail]
theorem c1j:∀(f:List (List UInt8)),(∀x∈f,32 ∉ x)->f≠[]->pcs (a4N f)=f
 |[],_,h=>absurd rfl h
 | [x],h,_=>by
   rw[a3t];have:=a9A x [] (h x (List.mem_cons_self ..));rw[List.append_nil]at this;rw[this];simp[pcs]
 | x::y::r,h,_=>by
   rw[a2w,a9A x _ (h x (List.mem_cons_self ..))];have ih:=c1j (y::r) (fun z hz=>h z (List.mem_cons_of_mem _ hz)) (by simp);have:pcs (32::a4N (y::r))=[]::(y::r):=by
    conv=>lhs;unfold pcs
    rw[if_pos rfl,ih]
   rw[this];simp
theorem e0n:∀(l:List UInt8),∀p∈pcs l,32 ∉ p /\ ∀b∈p,b∈l
 | [],p,hp=>by
   have:p=[]:=by simpa[pcs]using hp
   subst this;exact⟨by simp,fun b hb=>by cases hb⟩
 | b :: r,p,hp=>by
   have ih:=e0n r;unfold pcs at hp;split at hp
   ·rcases List.mem_cons.1 hp with h|h
    ·subst h;exact⟨by simp,fun b hb=>by cases hb⟩
    ·exact⟨(ih p h).1,fun c hc=>List.mem_cons_of_mem _ ((ih p h).2 c hc)⟩
   ·rename_i hb;split at hp
    ·rename_i h0;exact absurd h0 (c1i r)
    ·rename_i q qs hq;have hq':=ih q (by rw[hq];exact List.mem_cons_self ..);rcases List.mem_cons.1 hp with h|h
     ·subst h;refine⟨fun e=>?_,fun c hc=>?_⟩
      ·rcases List.mem_cons.1 e with e|e
       ·exact hb e.symm
       ·exact hq'.1 e
      ·rcases List.mem_cons.1 hc with e|e
       ·rw[e];exact List.mem_cons_self ..
       ·exact List.mem_cons_of_mem _ (hq'.2 c e)
     ·have:=ih p (by rw[hq];exact List.mem_cons_of_mem _ h);exact⟨this.1,fun c hc=>List.mem_cons_of_mem _ (this.2 c hc)⟩
def wt:List (List UInt8)->Nat
 |[]=>0
 |p::ps=>p.length+1+wt ps
theorem e0o:∀l,wt (pcs l)=l.length+1
 |[]=>rfl
 | b :: r=>by
   have ih:=e0o r;unfold pcs;split
   ·simp[wt,ih];omega
   ·split
    ·rename_i h0;exact absurd h0 (c1i r)
    ·rename_i q qs hq;rw[hq]at ih;simp[wt]at ih ⊢;omega
theorem b5h (g:List UInt8->Bool):∀l,wt (l.filter g)<=wt l
 |[]=>le_refl _
 | p::ps=>by
   have:=b5h g ps;rw[List.filter_cons];split<;>simp only[wt]<;>omega
theorem d0n:∀f,(a4N f).length<=wt f /\ (f≠[]->(a4N f).length+1=wt f)
 |[]=>⟨le_refl _,fun h=>absurd rfl h⟩
 |[x]=>by rw[a3t];simp[wt]
 | x::y::r=>by
   have:=(d0n (y::r)).2 (by simp);rw[a2w];simp only[length_append,List.length_cons,wt]at this ⊢;exact⟨by omega,fun _=>by omega⟩
def fl (l:List UInt8):List (List UInt8):=(pcs l).filter (·≠[])
theorem e4N (l:List UInt8):∀p∈fl l,p≠[] /\ 32 ∉ p /\ ∀b∈p,b∈l:=fun p hp=>by
 have h:=List.mem_filter.1 hp;exact⟨by simpa using h.2,e0n l p h.1⟩
theorem e4O (l:List UInt8):fl (a4N (fl l))=fl l:=by
 by_cases h:fl l=[]
 ·rw[h];rfl
 ·show(pcs (a4N (fl l))).filter _=fl l;rw[c1j (fl l) (fun x hx=>(e4N l x hx).2.1) h];exact List.filter_eq_self.2 fun x hx=>by simpa using(e4N l x hx).1
theorem f3R (l:List UInt8):(a4N (fl l)).length<=l.length:=by
 by_cases h:fl l=[]
 ·rw[h];exact zero_le _
 ·have h1:=(d0n (fl l)).2 h;have h2:=b5h (fun p=>decide (p≠[])) (pcs l);rw[e0o]at h2;have h3:wt (fl l)<=l.length+1:=h2;omega
theorem a7R {a b:ByteArray} (h:a.data.toList=b.data.toList):a=b:=by
 apply ByteArray.ext;exact Array.ext' h
theorem b7x:∀{l m:List ByteArray},l.map (·.data.toList)=m.map (·.data.toList)->l=m
 |[],[],_=>rfl
 | a::l,b::m,h=>by
   simp only[List.map_cons,List.cons.injEq]at h;rw[a7R h.1,b7x h.2]
 |[],_::_,h=>by simp at h
 |_::_,[],h=>by simp at h
theorem b5i (bs:ByteArray):∀(n i:Nat) (r:List UInt8),bs.size-i<=n->ByteArray.toList.loop bs i r=r.reverse++bs.data.toList.drop i
 | 0,i,r,h=>by
   unfold ByteArray.toList.loop;rw[if_neg (by omega)];have:bs.data.toList.length<=i:=by rw[Array.length_toList];exact Nat.le_of_sub_eq_zero (Nat.le_zero.1 h)
   rw[List.drop_of_length_le this,List.append_nil]
 | n+1,i,r,h=>by
   unfold ByteArray.toList.loop;by_cases hi:i<bs.size
   ·rw[if_pos hi,b5i bs n (i+1) _ (by omega),List.reverse_cons,List.append_assoc];have hl:i<bs.data.toList.length:=by rw[Array.length_toList];exact hi
    rw[List.drop_eq_getElem_cons hl];congr 1;rw[List.singleton_append];congr 1;rw[Array.getElem_toList];show bs.get! i=_;unfold ByteArray.get!;exact getElem!_pos bs.data i hi
   ·rw[if_neg hi];have:bs.data.toList.length<=i:=by rw[Array.length_toList];exact Nat.not_lt.1 hi
    rw[List.drop_of_length_le this,List.append_nil]
theorem a6S (bs:ByteArray):bs.toList=bs.data.toList:=by
 unfold ByteArray.toList;rw[b5i bs bs.size 0 [] (by omega)];simp
theorem d4O (s:ByteArray):d0l s=decide (s.data.toList≠[]):=by
 unfold d0l a0O;rw[a6S,a6S];cases h:s.data.toList with
 |nil=>rfl
 |cons a l=>rfl
theorem a3u (s:ByteArray):(a0J s).map (·.data.toList)=fl s.data.toList:=by
 unfold a0J fl;rw[<- c3b,List.filter_map];congr 1;apply List.filter_congr;intro x _;exact d4O x
theorem a2x (f:List ByteArray):(a1h f).data.toList=a4N (f.map (·.data.toList)):=rfl
theorem b7y (s:ByteArray):a0J (a1h (a0J s))=a0J s:=by
 apply b7x;rw[a3u,a2x,a3u,e4O]
theorem a7x (s:ByteArray):(a1h (a0J s)).size<=s.size:=by
 have h:=f3R s.data.toList;rw[<- a3u,<- a2x]at h;have e:∀b:ByteArray,b.size=b.data.toList.length:=fun b=>by rw[Array.length_toList];rfl
 rw[e,e];exact h
theorem a4C (a b:ByteArray):a0O a b=true↔a=b:=by
 unfold a0O;rw[a6S,a6S,beq_iff_eq];exact⟨a7R,fun h=>by rw[h]⟩
theorem b5j (s:ByteArray) (i:Nat):b7w s i=true↔32<=(s.data.toList.getD i 0).toNat /\ (s.data.toList.getD i 0).toNat<=126:=by
 unfold b7w a0o;rw[toNat_natCast];generalize (s.data.toList.getD i 0).toNat=n;simp only[and_eq_true,Bool.not_eq_true',decide_eq_false_iff_not];omega
theorem c1k:∀(n k:Nat) (g:Nat->Bool),a0i g k n=true↔∀i,k<=i->i<k+n->g i=true
 | 0,k,g=>by
   constructor
   ·intro _ i h1 h2;omega
   ·intro _;rfl
 | n+1,k,g=>by
   unfold a0i;have ih:=c1k n (k+1) g;constructor
   ·intro h i h1 h2;cases hg:g k with
    |false=>rw[hg]at h;exact absurd h (by simp)
    | true =>
      rw[hg]at h;by_cases he:i=k
      ·rw[he];exact hg
      ·exact ih.1 (by simpa using h) i (by omega) (by omega)
   ·intro h;rw[h k (le_refl _) (by omega)];have:=ih.2 fun i h1 h2=>h i (by omega) (by omega)
    simpa using this
theorem d4P (s:ByteArray):c2Z s=true↔∀b∈s.data.toList,32<=b.toNat /\ b.toNat<=126:=by
 unfold c2Z;rw[c1k];have hlen:s.size=s.data.toList.length:=by rw[Array.length_toList];rfl
 constructor
 ·intro h b hb;obtain⟨i,hi,rfl⟩:=List.getElem_of_mem hb;have:=(b5j s i).1 (h i (zero_le _) (by omega));rw[a3q _ _ _ hi]at this;exact this
 ·intro h i _ hi;have hi':i<s.data.toList.length:=by omega
  rw[b5j,a3q _ _ _ hi'];exact h _ (List.getElem_mem _)
theorem b5k:∀(f:List (List UInt8)) (b:UInt8),b∈a4N f->b=32∨∃p∈f,b∈p
 |[],b,h=>by cases h
 |[x],b,h=>by rw[a3t]at h;exact .inr ⟨x,List.mem_cons_self ..,h⟩
 | x :: y::r,b,h=>by
   rw[a2w]at h;rcases List.mem_append.1 h with h|h
   ·exact .inr ⟨x,List.mem_cons_self ..,h⟩
   ·rcases List.mem_cons.1 h with h|h
    ·exact .inl h
    ·rcases b5k (y::r) b h with h|⟨p,hp,hb⟩
     ·exact .inl h
     ·exact .inr ⟨p,List.mem_cons_of_mem _ hp,hb⟩
theorem d4Q (s:ByteArray) (h:c2Z s=true):c2Z (a1h (a0J s))=true:=by
 rw[d4P]at h ⊢;intro b hb;rw[a2x,a3u]at hb;rcases b5k _ b hb with rfl|⟨p,hp,hb⟩
 ·decide
 ·exact h b ((e4N _ p hp).2.2 b hb)
theorem c1l {s:ByteArray} {f:List ByteArray} (h:F16 (s,())=some (f,true,())):s.size<=600 /\ c2Z s=true /\ f=a0J s /\ f.length<=24:=by
 rw[c1h]at h;cases h6:decide ((s.size:Int)>600)with
 |true=>rw[h6]at h;simp at h
 | false =>
   rw[h6]at h;cases hv:c2Z s with
   |false=>rw[hv]at h;simp at h
   | true =>
     rw[hv]at h;cases hl:decide (((a0J s).length:Int)>24)with
     |true=>rw[hl]at h;simp at h
     | false =>
       rw[hl]at h;simp only[cond_false,Bool.not_true,Option.some.injEq,Prod.mk.injEq,and_true]at h;have h1:=of_decide_eq_false h6;have h2:=of_decide_eq_false hl;exact⟨by omega,rfl,h.symm,by rw[<- h];omega⟩
theorem d4R {s:ByteArray} {f:List ByteArray} (h:F16 (s,())=some (f,true,())):F16 (a1h f,())=some (f,true,()):=by
 obtain⟨h1,h2,rfl,h4⟩:=c1l h;have h5:=a7x s;rw[c1h,d4Q s h2,b7y,decide_eq_false (by omega),decide_eq_false (by omega)];rfl
theorem c1m (n:Int) (h:I64 n):F25 (n,())=some (bOf (Lib.itoa n),()):=by
 have k:K65 (n,())=true:=by
  unfold K65;unfold I64 at h;rw[decide_eq_true (show(-9223372036854775808:Int)<=n by omega),decide_eq_true (show n<=(9223372036854775807:Int)by omega)];rfl
 unfold F25
 try dsimp only
 rw[k];rfl
theorem b5l (s:ByteArray) (hs:s.size<=1000):∃y,b6q ((s,(0:Int),(0:Int),()),())=some y /\ ∀z,y = .inl z->z.1.1=s /\ I64 z.1.2.1:=by
 refine a0E (q:=b4o) (fun v=>v.1.1=s /\ I64 v.1.2.1 /\ (0<=(v.1.2.2.1:Int)) /\ (v.1.2.2.1:Int)<=s.size) (fun _ r=>∃y,r=some y /\ ∀z,y = .inl z->z.1.1=s /\ I64 z.1.2.1)
  (fun v=>((s.size:Int)-v.1.2.2.1).toNat) ?_ _ _ ⟨rfl,by show I64 0;unfold I64;omega,by show(0:Int)<=0;omega,by show(0:Int)<=_;omega⟩ (by show((s.size:Int)-0).toNat<c2n _;unfold c2n;dsimp only;omega)
 rintro⟨⟨t,n,i,_⟩,_⟩ f ⟨h1,h2,h3,h4⟩ ih;dsimp only at h1 h2 h3 h4 ih;subst h1;unfold b4o;dsimp only;by_cases hi:i<(t.size:Int)
 ·have e1:decide (i<(t.size:Int))=true:=decide_eq_true hi;have e2:decide (0<=i)=true:=decide_eq_true h3;rw[e1,e2];simp only[Bool.and_self,cond_true];cases decide (a0o t i<48)
  ·cases decide (a0o t i>57)
   ·have e:IntKind.i64.wrap (i+1)=i+1:=w64 (by omega) (by omega);simp only[cond_false,e];refine ih _ ⟨rfl,c2q _,?_,?_⟩ ?_
    ·show 0<=i+1;omega
    ·show i+1<=t.size;omega
    ·show((t.size:Int)-(i+1)).toNat<((t.size:Int)-i).toNat;omega
   ·exact⟨_,rfl,fun z hz=>by cases hz⟩
  ·exact⟨_,rfl,fun z hz=>by cases hz⟩
 ·have e1:decide (i<(t.size:Int))=false:=decide_eq_false hi;rw[e1];exact⟨_,rfl,fun z hz=>by cases hz;exact⟨rfl,h2⟩⟩
theorem f3S (s:ByteArray):∃n b,F17 (s,())=some (n,b,()):=by
 unfold F17;dsimp only;cases ((s.size:Int)==0)
 ·cases h10:decide ((s.size:Int)>10)
  ·have h:s.size<=10:=by
    have:=of_decide_eq_false h10;omega
   obtain⟨y,hy,hz⟩:=b5l s (by omega);simp only[cond_false,c7l,c7m,c7n,c7o,hy,isSome_some,cond_true];cases y with
   |inr y=>exact⟨_,_,rfl⟩
   | inl z =>
     obtain⟨_,hI⟩:=hz z rfl;obtain⟨⟨t,n,_⟩,_⟩:=z;simp only[isR,cond_false,xOf];have hk:K25 (n,())=true:=by unfold K25;rw[c1m n hI];rfl
     have key:∀c d:Bool,∃(m:Int) (b:Bool),(bif c then some (0,false,())else bif d then some (0,false,())else some (n,true,()):OD R17)=some (m,b,()):=fun c d=>by
      cases c
      ·cases d
       ·exact⟨_,_,rfl⟩
       ·exact⟨_,_,rfl⟩
      ·exact⟨_,_,rfl⟩
     rw[show K25 (n,_)=true from hk];exact key _ _
  ·exact⟨_,_,rfl⟩
 ·exact⟨_,_,rfl⟩
def d0o (l:List UInt8):List UInt8:=if l.length<3 then(if l.length<2 then(if l.length<1 then 48::48::48::l else 48::48::l)else 48::l)else l
theorem c1n {u:Nat} (h:u<10):Lib.decDigits u=[dg u]:=by rw[Lib.decDigits,dif_pos h];rfl
theorem b1f {u:Nat} (h:¬u<10):Lib.decDigits u=Lib.decDigits (u/10)++[dg (u%10)]:=by rw[Lib.decDigits,dif_neg h];rfl
theorem d0p (m:Nat) (h:m<1000):d0o (Lib.decDigits m)=(Lib.decDigits (1000+m)).drop 1:=by
 have e0:dg 0=48:=rfl;have a1:Lib.decDigits (1000+m)=[dg 1,dg (m/100),dg (m/10%10),dg (m%10)]:=by
  rw[b1f (by omega),b1f (by omega),b1f (by omega),c1n (by omega)];have x1:(1000+m)/10/10/10=1:=by omega
  have x2:(1000+m)/10/10%10=m/100:=by omega
  have x3:(1000+m)/10%10=m/10%10:=by omega
  have x4:(1000+m)%10=m%10:=by omega
  rw[x1,x2,x3,x4];rfl
 rw[a1];by_cases h1:m<10
 ·rw[c1n h1];have y1:m/100=0:=by omega
  have y2:m/10%10=0:=by omega
  have y3:m%10=m:=by omega
  rw[y1,y2,y3,e0];rfl
 ·by_cases h2:m<100
  ·rw[b1f h1,c1n (by omega)];have y1:m/100=0:=by omega
   have y2:m/10%10=m/10:=by omega
   rw[y1,y2,e0];rfl
  ·rw[b1f h1,b1f (by omega),c1n (by omega)];have y1:m/10/10=m/100:=by omega
   rw[y1];rfl
theorem d4S (n:Int) (sg l:List UInt8) (hl:1<=l.length) (hl':l.length<=100):b9I ((n,bOf sg,bOf l,()),())=some ((n,bOf sg,bOf (d0o l),()),()):=by
 have e48:({ data:=#[48] }:ByteArray)=bOf [48]:=rfl;refine a0E (q:=b9H) (fun v=>∃l:List UInt8,v=((n,bOf sg,bOf l,()),()) /\ 1<=l.length /\ l.length<=100) (fun v r=>∀l:List UInt8,v=((n,bOf sg,bOf l,()),())->1<=l.length->r=some ((n,bOf sg,bOf (d0o l),()),()))
  (fun v=>3-v.1.2.2.1.size) ?_ _ _ ⟨l,rfl,hl,hl'⟩ (by unfold c7p;dsimp only;omega) l rfl hl
 rintro v f ⟨l,rfl,h1,h1'⟩ ih l' he _;have he2:bOf l=bOf l':=congrArg (fun v=>v.1.2.2.1) he;have he3:l=l':=by
  have:=congrArg (fun b=>b.data.toList) he2;simpa[bOf]using this
 subst he3;unfold b9H;dsimp only;rw[a2B];by_cases h3:l.length<3
 ·have e1:decide (((l.length:Nat):Int)<3)=true:=decide_eq_true (by omega);have e2:decide (ByteArray.size { data:=#[48] }+l.length<=9223372036854775807)=true:=decide_eq_true (by show 1+_<=_;omega);rw[e1,e2,cond_true,cond_true,e48,a7v];refine(ih _ ⟨[48]++l,rfl,by simp,by simp;omega⟩ ?_ ([48]++l) rfl (by simp)).trans ?_
  ·show 3-(bOf ([48]++l)).size<3-(bOf l).size;rw[a2B,a2B];simp;omega
  ·have:d0o ([48]++l)=d0o l:=by
    match l,h1,h3 with
    |[a],_,_=>rfl
    |[a,b],_,_=>rfl
    |_::_::_::_,_,h=>simp at h;omega
   rw[this]
 ·have e1:decide (((l.length:Nat):Int)<3)=false:=decide_eq_false (by omega);rw[e1,cond_false];unfold d0o;rw[if_neg h3]
theorem d0q (n:Int):f5F (n,())=some (decide ((-1000000000:Int)<=n)&&decide (n<=1000000000),()):=by
 have k:F44 (n,-1000000000,1000000000,())=some (decide ((-1000000000:Int)<=n)&&decide (n<=1000000000),()):=b4v _;unfold f5F;dsimp only;unfold K44 G44;rw[k];rfl
theorem b5m (m:Nat) (sg:List UInt8) (n:Int) (hm:m<=1000000000) (hs:sg.length<=1) (hn:n=(m:Int)) :
 (bif K25 (((m%1000:Nat):Int),())then
  bif a9e ((n,bOf sg,G25 (((m%1000:Nat):Int),())),())then
   bif K25 (wrap IntKind.i64 (Int.tdiv (a1R ((n,bOf sg,G25 (((m%1000:Nat):Int),())),())).fst.fst 1000),())then
    bif decide (ByteArray.size (a1R ((n,bOf sg,G25 (((m%1000:Nat):Int),())),())).fst.snd.fst+ByteArray.size (G25 (wrap IntKind.i64 (Int.tdiv (a1R ((n,bOf sg,G25 (((m%1000:Nat):Int),())),())).fst.fst 1000),())).fst<=9223372036854775807)then
     bif decide (ByteArray.size ((a1R ((n,bOf sg,G25 (((m%1000:Nat):Int),())),())).fst.snd.fst++(G25 (wrap IntKind.i64 (Int.tdiv (a1R ((n,bOf sg,G25 (((m%1000:Nat):Int),())),())).fst.fst 1000),())).fst)+ByteArray.size { data:=#[46] }<=9223372036854775807)then
      bif decide (ByteArray.size ((a1R ((n,bOf sg,G25 (((m%1000:Nat):Int),())),())).fst.snd.fst++(G25 (wrap IntKind.i64 (Int.tdiv (a1R ((n,bOf sg,G25 (((m%1000:Nat):Int),())),())).fst.fst 1000),())).fst++{ data:=#[46] })+ByteArray.size (a1R ((n,bOf sg,G25 (((m%1000:Nat):Int),())),())).fst.snd.snd.fst<=9223372036854775807)then
       some ((a1R ((n,bOf sg,G25 (((m%1000:Nat):Int),())),())).fst.snd.fst++(G25 (wrap IntKind.i64 (Int.tdiv (a1R ((n,bOf sg,G25 (((m%1000:Nat):Int),())),())).fst.fst 1000),())).fst++{ data:=#[46] }++(a1R ((n,bOf sg,G25 (((m%1000:Nat):Int),())),())).fst.snd.snd.fst,())
      else none
     else none
    else none
   else none
  else none
 else none:OD f5G)=some (bOf (sg++Lib.itoa ((m/1000:Nat):Int)++[46]++(Lib.itoa ((1000+m%1000:Nat):Int)).drop 1),()):=by
 have i1:I64 ((m%1000:Nat):Int):=by unfold I64;omega
 have i2:I64 ((m/1000:Nat):Int):=by unfold I64;omega
 have f1:=c1m _ i1;have f2:=c1m _ i2;have k1:K25 (((m%1000:Nat):Int),())=true:=isS f1;have g1:G25 (((m%1000:Nat):Int),())=(bOf (Lib.itoa ((m%1000:Nat):Int)),()):=gtS f1;have k2:K25 (((m/1000:Nat):Int),())=true:=isS f2;have g2:G25 (((m/1000:Nat):Int),())=(bOf (Lib.itoa ((m/1000:Nat):Int)),()):=gtS f2;obtain⟨l1,u1⟩:=a4A ((m%1000:Nat):Int) (by omega);obtain⟨l2,u2⟩:=a4A ((m/1000:Nat):Int) (by omega);have hl:=d4S n sg (Lib.itoa ((m%1000:Nat):Int)) l1 (by omega);have ew:IntKind.i64.wrap (Int.tdiv n 1000)=((m/1000:Nat):Int):=by
  rw[hn,Int.tdiv_eq_ediv_of_nonneg (by omega),w64 (by omega) (by omega)];omega
 have dot:({ data:=#[46] }:ByteArray)=bOf [46]:=rfl;have et:(Lib.itoa ((1000+m%1000:Nat):Int)).drop 1=d0o (Lib.itoa ((m%1000:Nat):Int)):=by
  have e1:Lib.itoa ((1000+m%1000:Nat):Int)=Lib.decDigits (1000+m%1000):=by unfold Lib.itoa;rw[if_neg (by omega),toNat_natCast]
  have e2:Lib.itoa ((m%1000:Nat):Int)=Lib.decDigits (m%1000):=by unfold Lib.itoa;rw[if_neg (by omega),toNat_natCast]
  rw[e1,e2,d0p _ (by omega)]
 rw[k1,g1,cond_true,et];generalize Lib.itoa ((m%1000:Nat):Int)=A at *;have hp:(d0o A).length<=30:=by
  unfold d0o;split
  ·split
   ·split<;>simp<;>omega
   ·simp;omega
  ·omega
 have hk:a9e ((n,bOf sg,bOf A,()),())=true:=by unfold a9e;rw[hl];rfl
 have hx:a1R ((n,bOf sg,bOf A,()),())=((n,bOf sg,bOf (d0o A),()),()):=by unfold a1R;rw[hl];rfl
 rw[hk,hx];dsimp only;rw[ew,k2,g2];generalize Lib.itoa ((m/1000:Nat):Int)=B at *;dsimp only;simp only[cond_true,dot,a7v,a2B,length_append,List.length_singleton];rw[decide_eq_true (show sg.length+B.length<=9223372036854775807 by omega),decide_eq_true (show sg.length+B.length+1<=9223372036854775807 by omega),decide_eq_true (show sg.length+B.length+1+(d0o A).length<=9223372036854775807 by omega)];rfl
theorem d0r (n:Int):f5H (n,())=some (bOf (a9M n),()):=by
 unfold f5H a9M;dsimp only;unfold f0F f0G;rw[d0q];simp only[isSome_some,getD_some,cond_true];by_cases hin:(-1000000000:Int)<=n /\ n<=1000000000
 ·have e0:(decide ((-1000000000:Int)<=n)&&decide (n<=1000000000))=true:=by rw[decide_eq_true hin.1,decide_eq_true hin.2];rfl
  rw[e0,Bool.not_true,cond_false,if_pos hin];by_cases hneg:n<0
  ·have e1:decide (n<0)=true:=decide_eq_true hneg;have e2:IntKind.i64.wrap (0-n)=((n.natAbs:Nat):Int):=by rw[w64 (by omega) (by omega)];omega
   have e3:Int.tmod ((n.natAbs:Nat):Int) 1000=((n.natAbs%1000:Nat):Int):=by rw[Int.tmod_eq_emod_of_nonneg (by omega)];omega
   rw[e1,cond_true,e2,e3,if_pos hneg];exact b5m n.natAbs [45] _ (by omega) (by simp) rfl
  ·have e1:decide (n<0)=false:=decide_eq_false hneg;have e3:Int.tmod n 1000=((n.natAbs%1000:Nat):Int):=by rw[Int.tmod_eq_emod_of_nonneg (by omega)];omega
   rw[e1,cond_false,e3,if_neg hneg];exact b5m n.natAbs [] n (by omega) (by simp) (by omega)
 ·have e0:(decide ((-1000000000:Int)<=n)&&decide (n<=1000000000))=false:=by
   rw[Bool.and_eq_false_iff,decide_eq_false_iff_not,decide_eq_false_iff_not];omega
  rw[e0,Bool.not_false,cond_true,if_neg hin];rfl
theorem c3c (s t:ByteArray) (sg d:Int) (hs:t.size<=1000):∃y,a5Y ((s,t,sg,d,(0:Int),(0:Int),()),())=some y:=by
 refine a0E (q:=a3N) (fun v=>v.1.2.1=t /\ (0<=(v.1.2.2.2.2.2.1:Int)) /\ (v.1.2.2.2.2.2.1:Int)<=t.size) (fun _ r=>∃y,r=some y)
  (fun v=>((t.size:Int)-v.1.2.2.2.2.2.1).toNat) ?_ _ _ ⟨rfl,by show(0:Int)<=0;omega,by show(0:Int)<=_;omega⟩ (by show((t.size:Int)-0).toNat<a7p _;unfold a7p;dsimp only;omega)
 rintro⟨⟨s,u,sg,d,n,i,_⟩,_⟩ f ⟨h1,h3,h4⟩ ih;dsimp only at h1 h3 h4 ih;subst h1;unfold a3N;dsimp only;by_cases hi:i<(u.size:Int)
 ·have e1:decide (i<(u.size:Int))=true:=decide_eq_true hi;have e2:decide (0<=i)=true:=decide_eq_true h3;have e:IntKind.i64.wrap (i+1)=i+1:=w64 (by omega) (by omega);have go:∀m:Int,∃y,f ((s,u,sg,d,m,i+1,()),())=some y:=fun m=>by
   refine ih _ ⟨rfl,?_,?_⟩ ?_
   ·show 0<=i+1;omega
   ·show i+1<=u.size;omega
   ·show((u.size:Int)-(i+1)).toNat<((u.size:Int)-i).toNat;omega
  rw[e1,e2,e];simp only[Bool.and_self,cond_true];cases (i==d)
  ·simp only[cond_false];cases decide (a0o u i<48)
   ·cases decide (a0o u i>57)
    ·exact go _
    ·exact⟨_,rfl⟩
   ·exact⟨_,rfl⟩
  ·exact go _
 ·have e1:decide (i<(u.size:Int))=false:=decide_eq_false hi;rw[e1];exact⟨_,rfl⟩
theorem f3T (n:Int):d0T (n,())=true:=by unfold d0T;rw[d0r];rfl
theorem d0s (s t:ByteArray) (sg:Int) (ht:t.size<=1000):∃n b,(bif decide ((a5x (t,46,())).fst<1)then some (0,false,())
 else bif (((t.size:Nat):Int) != wrap IntKind.i64 ((a5x (t,46,())).fst+4))then some (0,false,())
 else bif decide ((a5x (t,46,())).fst>7)then some (0,false,())
 else bif a3E ((s,t,sg,(a5x (t,46,())).fst,0,0,()),())then
  bif a4w ((s,t,sg,(a5x (t,46,())).fst,0,0,()),())then some (a5o ((s,t,sg,(a5x (t,46,())).fst,0,0,()),())).fst
  else bif d0T (wrap IntKind.i64 ((a1e ((s,t,sg,(a5x (t,46,())).fst,0,0,()),())).fst.snd.snd.fst*(a1e ((s,t,sg,(a5x (t,46,())).fst,0,0,()),())).fst.snd.fst),())then
   bif !a0O (d8w (wrap IntKind.i64 ((a1e ((s,t,sg,(a5x (t,46,())).fst,0,0,()),())).fst.snd.snd.fst*(a1e ((s,t,sg,(a5x (t,46,())).fst,0,0,()),())).fst.snd.fst),())).fst (a1e ((s,t,sg,(a5x (t,46,())).fst,0,0,()),())).fst.fst then some (0,false,())
   else some (wrap IntKind.i64 ((a1e ((s,t,sg,(a5x (t,46,())).fst,0,0,()),())).fst.snd.snd.fst*(a1e ((s,t,sg,(a5x (t,46,())).fst,0,0,()),())).fst.snd.fst),true,())
  else none
 else none:OD e2D)=some (n,b,()):=by
 have two:∀(c:Bool) (n:Int) (b:Bool) (m:Int),∃(n':Int) (b':Bool),(bif c then some (n,b,())else some (m,true,()):OD e2D)=some (n',b',()):=fun c n b m=>by cases c<;>exact⟨_,_,rfl⟩
 generalize (a5x (t,46,())).fst=d;obtain⟨y,hy⟩:=c3c s t sg d ht;have hk:a3E ((s,t,sg,d,0,0,()),())=true:=by unfold a3E;rw[hy];rfl
 rw[hk,f3T];simp only[cond_true];cases decide (d<1)
 ·cases (((t.size:Nat):Int) != wrap IntKind.i64 (d+4))
  ·cases decide (d>7)
   ·cases a4w ((s,t,sg,d,0,0,()),())
    ·exact two _ _ _ _
    ·exact⟨_,_,rfl⟩
   ·exact⟨_,_,rfl⟩
  ·exact⟨_,_,rfl⟩
 ·exact⟨_,_,rfl⟩
theorem e4P (s:ByteArray) (hs:s.size<=1000):∃n b,e2E (s,())=some (n,b,()):=by
 unfold e2E;dsimp only;have k235:∀t:ByteArray,e1u (t,46,())=true:=fun _=>rfl
 have plain:=d0s s s 1 hs;cases hb:a0O s { data:=#[] }with
 | true =>
   simp only[Bool.not_true,cond_false,k235,cond_true];exact plain
 | false =>
   have hpos:0<s.size:=by
    apply Nat.pos_of_ne_zero;intro h0;have:s={ data:=#[] }:=a7R (by
     have:s.data.toList.length=0:=by rw[Array.length_toList];exact h0
     rw[List.length_eq_zero_iff.1 this])
    rw[(a4C _ _).2 this]at hb;cases hb
   have e1:(decide (0<=0)&&decide (0<((ByteArray.size s:Nat):Int)))=true:=by simp;omega
   have e2:(decide (0<=1)&&decide (1<=((ByteArray.size s:Nat):Int))&&decide (((ByteArray.size s:Nat):Int)<=((ByteArray.size s:Nat):Int)))=true:=by simp;omega
   rw[e1,e2];simp only[Bool.not_false,cond_true];cases (a0o s 0==45)
   ·simp only[cond_false,k235,cond_true];exact plain
   ·simp only[cond_true,k235];refine d0s s _ (-1) ?_;rw[ByteArray.size_extract];omega
def b7z (l:List (Den S68)) (m:Den S63):Int:=bif a2U l then(match a0s (fun i=>a4d (at' l i) m) 0 l.length with|some j=>(j:Int)|none=>-1)else -1
theorem e4Q (l:List (Den S68)) (m:Den S63) (h:b6E l):f6k (l,m,())=some (b7z l m,()):=by
 have hlen:=h.len;have hl:b0K (((),l,(l.length:Int),(0:Int),()),(m.1,m.2.1,()),())=some (match a0s (fun i=>a4d (at' l i) m) 0 l.length with|some j => .inr (((j:Int),()),())|none => .inl ((),())):=by
  refine(a4b (q:=b4u) (fun k=>(((),l,(l.length:Int),(k:Int),()),(m.1,m.2.1,()),())) l.length (fun i=>a4d (at' l i) m) _ (fun j => .inr (((j:Int),()),())) ?_ ?_ _ ?_:_)
  ·intro k f hk;unfold b4u;have e1:decide ((k:Int)<(l.length:Int))=true:=by simpa using hk
   have e2:decide (0<=(k:Int))=true:=by simp
   have ha:getD l k (zero S68)=at' l k:=rfl;simp only[a2h k (by omega),e1,e2,Bool.and_self,cond_true,toNat_natCast,ha,e2I,e2J,b6C,isSome_some,getD_some]
  ·intro f;simp[b4u]
  ·simp only[c7F];omega
 unfold f6k b7z;simp only[K92,G92,c7Q l h,isSome_some,getD_some,cond_true,c7G,c7H,c7I,hl];cases a2U l
 ·rfl
 ·cases a0s (fun i=>a4d (at' l i) m) 0 l.length<;>rfl
def b5n (l:List (Den S68)) (k:Int) (m:Den S63):Int:=
 bif !a2U l then -1 else bif inB k 0 ((l.length:Int)-1)&&a1z (at' l k.toNat) m then k else b7z l m
theorem e4R (l:List (Den S68)) (k:Int) (m:Den S63) (h:b6E l) (hl:l.length<=13) (hm:I64 m.2.1):f6m (l,k,m,())=some (b5n l k m,()):=by
 have e1:=c7Q l h;have k1:K92 (l,())=true:=isS e1;have g1:G92 (l,())=(a2U l,()):=gtS e1;have w1:IntKind.i64.wrap ((l.length:Int)-1)=(l.length:Int)-1:=w64 (by omega) (by omega);have e2:F44 (k,0,(l.length:Int)-1,())=some (inB k 0 ((l.length:Int)-1),()):=a3r _;have k2:K44 (k,0,(l.length:Int)-1,())=true:=isS e2;have g2:G44 (k,0,(l.length:Int)-1,())=(inB k 0 ((l.length:Int)-1),()):=gtS e2;have hg:=h.rng k.toNat;have e3:=d8W (at' l k.toNat,m,()) hg.1 hg.2 hm;have k3:K20 (at' l k.toNat,m,())=true:=isS e3;have g3:G20 (at' l k.toNat,m,())=(a1z (at' l k.toNat) m,()):=gtS e3;have e4:=e4Q l m h;have k4:e6q (l,m,())=true:=isS e4;have g4:e6r (l,m,())=(b7z l m,()):=gtS e4;unfold f6m b5n;show(bif K92 (l,())then bif !(G92 (l,())).1 then some (-1,())else bif K44 (k,0,IntKind.i64.wrap ((l.length:Int)-1),())then bif (G44 (k,0,IntKind.i64.wrap ((l.length:Int)-1),())).1 then
  bif (decide (0<=k)&&decide (k<(l.length:Int)))then bif K20 (at' l k.toNat,m,())then bif (G20 (at' l k.toNat,m,())).1 then some (k,())else bif e6q (l,m,())then some (e6r (l,m,()))else none else none else none
  else bif e6q (l,m,())then some (e6r (l,m,()))else none else none else none:OD f1l)=_
 rw[w1,k1,g1,k2,g2,k3,g3,k4,g4];cases a2U l
 ·rfl
 ·cases hin:inB k 0 ((l.length:Int)-1)with
  |false=>rfl
  | true =>
    have d2:(decide (0<=k)&&decide (k<(l.length:Int)))=true:=by
     unfold inB at hin;simp only[and_eq_true,decide_eq_true_eq]at hin ⊢;omega
    rw[d2];cases a1z (at' l k.toNat) m<;>rfl
def a2p (l:List (Den S68)) (s:ByteArray):Int:=match a0s (fun i=>a0O (at' l i).1 s) 0 l.length with|some j=>(j:Int)|none=>-1
def daV (a b:Nat):Nat:=a0a .add .f32 a (a0a .mul .f32 (a0a .sub .f32 b a) 1056964608)
def a1C (w x:Nat×Nat):(Nat×Nat)×Bool×Unit:=bif !a1K w then((0,0),false,())else bif !a1K x then((0,0),false,())else((daV w.1 x.1,daV w.2 x.2),true,())
theorem e4S (w x:Nat×Nat):f5O (w,x,1056964608,())=some (a1C w x):=by
 have e1:=a4G w;have e2:=a4G x;have e3:g1X (1056964608,())=some (true,()):=by decide +kernel
 have e4:∀a b:Nat,g2b (a,b,1056964608,())=some (daV a b,()):=fun _ _=>rfl
 unfold f5O a1C;dsimp only;simp only[K45,G45,e1,e2,g1Y,g1Z,e3,f5K,f5L,e4,isSome_some,getD_some,cond_true];cases a1K w
 ·rfl
 ·cases a1K x<;>rfl
def uI (s:ByteArray):Int:=(G17 (s,())).1
def uB (s:ByteArray):Bool:=(G17 (s,())).2.1
theorem d0t (s:ByteArray):F17 (s,())=some (uI s,uB s,()):=by
 obtain⟨n,b,h⟩:=f3S s;unfold uI uB G17;rw[h];rfl
def xI (s:ByteArray):Int:=(b5x (s,())).1
def xB (s:ByteArray):Bool:=(b5x (s,())).2.1
theorem b7A (s:ByteArray) (hs:s.size<=1000):e2E (s,())=some (xI s,xB s,()):=by
 obtain⟨n,b,h⟩:=e4P s hs;unfold xI xB b5x;rw[h];rfl
def a7y (n:Int):Nat:=bif decide ((-1000000000:Int)<=n)&&decide (n<=1000000000)then a0a .quo .f64 (nearest .f64 n) 4652007308841189376 else 0
theorem d0u (n:Int):f5I (n,())=some (a7y n,()):=by
 unfold f5I a7y;dsimp only;unfold f0F f0G;rw[d0q];simp only[isSome_some,getD_some,cond_true];cases (decide ((-1000000000:Int)<=n)&&decide (n<=1000000000))<;>rfl
def a9N (a b:ByteArray):Nat×Nat×Bool×Unit:=(a7y (xI a),a7y (xI b),xB a&&xB b,())
theorem e4T (a b:ByteArray) (ha:a.size<=1000) (hb:b.size<=1000):e6o ([a,b],())=some (a9N a b):=by
 have e1:=b7A a ha;have e2:=b7A b hb;have e3:=d0u (xI a);have e4:=d0u (xI b);have k1:e2F (a,())=true:=isS e1;have g1:b5x (a,())=(xI a,xB a,()):=gtS e1;have k2:e2F (b,())=true:=isS e2;have g2:b5x (b,())=(xI b,xB b,()):=gtS e2;have k3:e2G (xI a,())=true:=isS e3;have g3:c7u (xI a,())=(a7y (xI a),()):=gtS e3;have k4:e2G (xI b,())=true:=isS e4;have g4:c7u (xI b,())=(a7y (xI b),()):=gtS e4;unfold e6o a9N;show(bif e2F (a,())then bif e2F (b,())then bif e2G ((b5x (a,())).1,())then bif e2G ((b5x (b,())).1,())then bif (b5x (a,())).2.1 then some ((c7u ((b5x (a,())).1,())).1,(c7u ((b5x (b,())).1,())).1,(b5x (b,())).2)else some ((c7u ((b5x (a,())).1,())).1,(c7u ((b5x (b,())).1,())).1,false,())else none else none else none else none:OD f0K)=_;rw[k1,g1,k2,g2];dsimp only;rw[k3,g3,k4,g4];cases xB a<;>rfl
theorem d0v:IsR 4652007308841189376 1000:=b7k false 8796093022208000 (-43) (by decide +kernel) (by decide) (by decide +kernel)
theorem d0w (n:Int):∃r,IsR (a7y n) r /\ Abs r 2000000:=by
 unfold a7y;by_cases h:(-1000000000:Int)<=n /\ n<=1000000000
 ·rw[decide_eq_true h.1,decide_eq_true h.2];have hn:=f3D n (by omega);have h1:((-1000000000:Int):Rat)<=((n:Int):Rat):=Rat.intCast_le_intCast.2 h.1;have h2:((n:Int):Rat)<=((1000000000:Int):Rat):=Rat.intCast_le_intCast.2 h.2;have e1:((-1000000000:Int):Rat)=-1000000000:=by decide +kernel
  have e2:((1000000000:Int):Rat)=1000000000:=by decide +kernel
  rw[e1]at h1;rw[e2]at h2;obtain⟨r,r1,r2,r3⟩:=h1b (q:=((n:Int):Rat)/1000) (A:=1000000) (ε:=1) hn d0v (by decide +kernel) (by rw[Rat.div_def,Rat.mul_assoc,show((1000:Rat)⁻¹*1000)=1 by decide +kernel,Rat.mul_one]) 20 (by
   rw[Rat.div_def];have e3:(1000:Rat)⁻¹=1/1000:=by decide +kernel
   rw[e3];constructor<;>grind) (by decide +kernel) (by decide +kernel) (by decide) (by decide)
  refine⟨r,r1,?_⟩;rw[Rat.div_def]at r2 r3;have e3:(1000:Rat)⁻¹=1/1000:=by decide +kernel
  rw[e3]at r2 r3;constructor<;>grind
 ·have:(decide ((-1000000000:Int)<=n)&&decide (n<=1000000000))=false:=by
   rw[Bool.and_eq_false_iff,decide_eq_false_iff_not,decide_eq_false_iff_not];omega
  rw[this];exact⟨0,e3Y,by constructor<;>decide +kernel⟩
theorem a3J (n:Int):(a0u .f64 .f32 (a7y n)).1=true:=by
 obtain⟨r,h1,h2⟩:=d0w n;exact a6Q h1 (h2.mono (by decide +kernel))
theorem d0x (x:Den g3e):f6s x=some (a4d x.1 x.2.1,()):=by
 unfold f6s a4d;cases (fgt .f32 x.2.1.1 x.1.2.1||feq .f32 x.2.1.1 x.1.2.1)<;>cases (flt .f32 x.2.1.1 x.1.2.2.1||feq .f32 x.2.1.1 x.1.2.2.1)<;>by_cases h:x.1.2.2.2.1<=x.2.1.2.1<;>simp[h]
theorem e4U (l:List (Den S68)) (m:Den S63) (h:b6E l):f1B (l,m,())=some (b7z l m,()):=by
 have hlen:=h.len;have hl:b0M ((l,(),(0:Int),()),(m.1,m.2.1,()),())=some (bif a2U l then(match a0s (fun i=>a4d (at' l i) m) 0 l.length with|some j => .inr (((j:Int),()),())|none => .inl ((),()))else .inl ((),())):=by
  cases hs:a2U l with
  | true =>
    refine(a4b (q:=a7J) (fun k=>((l,(),(k:Int),()),(m.1,m.2.1,()),())) l.length (fun i=>a4d (at' l i) m) _ (fun j => .inr (((j:Int),()),())) ?_ ?_ _ ?_:_)
    ·intro k f hk;unfold a7J;have e1:decide ((k:Int)<(l.length:Int))=true:=by simpa using hk
     have e2:decide (0<=(k:Int))=true:=by simp
     have ha:getD l k (zero S68)=at' l k:=rfl;simp only[a2h k (by omega),e1,e2,Bool.and_self,cond_true,toNat_natCast,ha,d6f,d6g,b2c l h,hs,e6s,e6t,d0x,isSome_some,getD_some]
    ·intro f;simp[a7J]
    ·simp only[c7Y];omega
  | false =>
    show a7J (a0C (a7J) (l.length+(0:Int).natAbs+(m.2.1:Int).natAbs+999)) ((l,(),(0:Int),()),(m.1,m.2.1,()),())=_;unfold a7J;simp only[d6f,d6g,b2c l h,hs,isSome_some,getD_some,cond_true,cond_false];cases decide ((0:Int)<(l.length:Int))<;>rfl
 unfold f1B b7z;simp only[c7Z,c8a,c8b,hl];cases a2U l
 ·rfl
 ·cases a0s (fun i=>a4d (at' l i) m) 0 l.length<;>rfl
theorem e4V (l:List (Den S68)) (a:Int) (m:Den S63) (h:b6E l) (hm:I64 m.2.1):f6v (l,a,m,())=some (b5n l a m,()):=by
 have hlen:=h.len;have hw:IntKind.i64.wrap ((l.length:Int)-1)=(l.length:Int)-1:=w64 (by omega) (by omega);unfold f6v b5n inB;have h24:∀i,F55 (((at' l i).1,(at' l i).2.1,(at' l i).2.2.1,(at' l i).2.2.2.1,(at' l i).2.2.2.2.1,()),(m.1,m.2.1,()),())=some (a1z (at' l i) m,()):=fun i=>d8V ((at' l i),m,()) (h.rng i).1 (h.rng i).2 hm
 have h31:f1B (l,(m.1,m.2.1,()),())=some (b7z l m,()):=e4U l m h;have ha:∀k,getD l k (zero S68)=at' l k:=fun _=>rfl
 simp only[d6f,d6g,b2c l h,K51,G51,b0L,K55,G55,f6t,f6u,hw,ha,h24,h31,isSome_some,getD_some,cond_true];cases a2U l
 ·rfl
 ·by_cases h1:0<=a<;>by_cases h2:a<=(l.length:Int)-1
  ·have h3:a<(l.length:Int):=by omega
   cases a1z (at' l a.toNat) m<;>simp[h1,h2,h3]
  ·simp[h1,h2]
  ·simp[h1,h2]
  ·simp[h1,h2]
theorem e4W (w x:Nat×Nat):f6A (w,x,1056964608,())=some (a1C w x):=by
 have e1:=a4H w;have e2:=a4H x;have e3:g3m (1056964608,())=some (true,()):=by decide +kernel
 have e4:∀a b:Nat,g3q (a,b,1056964608,())=some (daV a b,()):=fun _ _=>rfl
 unfold f6A a1C;dsimp only;simp only[K52,G52,e1,e2,g3n,g3o,e3,f6y,f6z,e4,isSome_some,getD_some,cond_true];cases a1K w
 ·rfl
 ·cases a1K x<;>rfl
theorem d0y (n:Int):f6E (n,())=some (a7y n,()):=by
 have e:F51 (n,-1000000000,1000000000,())=some (a0n n (-1000000000) 1000000000,()):=a1F _ _ _;unfold f6E a7y;dsimp only;simp only[K51,G51,e,isSome_some,getD_some,cond_true];show(bif !a0n n (-1000000000) 1000000000 then _ else _)=some (bif a0n n (-1000000000) 1000000000 then _ else _,());cases a0n n (-1000000000) 1000000000<;>rfl
theorem e4X (g:Den a2z):f6S (g,())=some (b0c g,()):=by
 have e2:F51 (g.2.2.1,0,100000,())=some (a0n g.2.2.1 0 100000,()):=a1F _ _ _;unfold f6S b0c a3z;dsimp only;simp only[K51,G51,e2,isSome_some,getD_some,cond_true];show(bif fge g.2.1 0 then bif fle g.2.1 1112014848 then _ else _ else _)=_;cases fge g.2.1 0
 ·rfl
 ·cases fle g.2.1 1112014848<;>rfl
theorem d4T (g:Den a2z):f6V ([g],())=some (b0c g,()):=by
 have e1:=e4X g;have k1:f6T (g,())=true:=isS e1;have g1:f6U (g,())=(b0c g,()):=gtS e1;have hl:a9l (([g],(0:Int),()),())=some (bif b0c g then .inl (([g],()),())else .inr ((false,()),())):=by
  have hb:c8n (([g],(0:Int),()),())=1001:=rfl;unfold a9l;rw[hb];show b4E _ _=_;unfold b4E;show(bif f6T (g,())then bif !(f6U (g,())).1 then _ else a0C (b4E) 1000 (([g],(1:Int),()),())else none)=_;rw[k1,g1];cases b0c g
  ·rfl
  ·rfl
 unfold f6V;show(bif b6G (([g],(0:Int),()),())then bif b6H (([g],(0:Int),()),())then some (b6J (([g],(0:Int),()),())).1 else some (decide (((b6I (([g],(0:Int),()),())).1.1.length:Int)<=50),())else none)=_;unfold b6G b6H b6J b6I;rw[hl];cases b0c g<;>rfl
theorem e4Y (k:Int) (sp:Nat) (s:Nat×Nat):f6O (k,sp,s,())=some (a1S k sp s):=by
 have e1:e8C (k,sp,())=some (a7P k sp):=c9U k sp;have e2:F52 (s,())=some (a1K s,()):=a4H s;unfold f6O a1S d0k;dsimp only;simp only[e6e,e1S,e1,K52,G52,e2,isSome_some,getD_some,cond_true];cases (a7P k sp).2.1
 ·rfl
 ·cases a1K s<;>rfl
theorem e4Z (p v:Nat×Nat) (n:Int):f6Q (p,v,n,())=some (b7v p v n):=by
 have e1:F96 (p,())=some (a3d p,()):=a7M p;have e2:F52 (v,())=some (a1K v,()):=a4H v;have e3:F51 (n,0,100000,())=some (a0n n 0 100000,()):=a1F n 0 100000;have e4:F96 (onV p v n,())=some (a3d (onV p v n),()):=a7M (onV p v n);unfold onV at e4;unfold f6Q b7v onV;dsimp only;simp only[K96,G96,e1,K52,G52,e2,K51,G51,e3,e4,isSome_some,getD_some,cond_true];cases a3d p
 ·rfl
 cases a1K v
 ·rfl
 cases a0n n 0 100000
 ·rfl
 cases a3d (a0a .add .f64 p.1 (a0a .mul .f64 (a0u .f32 .f64 v.1).2 (nearest .f64 n)),a0a .add .f64 p.2 (a0a .mul .f64 (a0u .f32 .f64 v.2).2 (nearest .f64 n)))<;>rfl
theorem d4U (l:Int) (h:0<l):e2Y (l,0,600,())=some (a2l l 600,()):=by
 unfold e2Y a2l
 dsimp only
 rw[show decide ((600:Int)<0)=false by decide,show decide (l<0)=false by simp;omega]
 simp only[cond_false]
 by_cases h2:l>600
 ·rw[show decide (l>600)=true by simpa using h2,cond_true,if_pos (by omega)]
 ·rw[show decide (l>600)=false by simpa using h2,cond_false,if_neg (by omega)]
theorem b7B (td:Den S30) (h:a4y td) (g:Den a2z):∀(f N:Nat) (p:Nat×Nat) (t l:Int),(l<=(f:Int)*600)->(f<N)->0<=t->t+l<=9223372036854775807->0<=l ->
 ∃t':Int,a0C (b4F) N ((p,t,[g],(),(0:Int),l,()),td,())=some (match a4I td g f p t l with|some r => .inl ((r.1,t',[g],(),(0:Int),()),td,())|none => .inr (((0,0),false,()),())):=by
 intro f
 induction f with
 | zero =>
   intro N p t l hl hN ht htl hl0;obtain⟨N,rfl⟩:∃M,N=M+1:=⟨N-1,by omega⟩;have h0:l=0:=by omega
   subst h0;exact⟨t,rfl⟩
 | succ f ih =>
   intro N p t l hl hN ht htl hl0;obtain⟨N,rfl⟩:∃M,N=M+1:=⟨N-1,by omega⟩;by_cases h1:l>0
   ·have d1:decide (l>0)=true:=decide_eq_true h1;obtain⟨m1,m2,m3,m4⟩:=c1g h1;have e0:=d4U l h1;have e1:=e4s td p t h;have e2:=e4Y g.1 g.2.1 (a0P td p t).1;have e3:=e4Z p (a1S g.1 g.2.1 (a0P td p t).1).1 (a2l l 600);have k0:e6w (l,0,600,())=true:=isS e0;have g0:d0W (l,0,600,())=(a2l l 600,()):=gtS e0;have k1:f6N (td,p,t,())=true:=isS e1;have g1:d3F (td,p,t,())=a0P td p t:=gtS e1;have k2:f6P (g.1,g.2.1,(a0P td p t).1,())=true:=isS e2;have g2:e2Z (g.1,g.2.1,(a0P td p t).1,())=a1S g.1 g.2.1 (a0P td p t).1:=gtS e2;have k3:f6R (p,(a1S g.1 g.2.1 (a0P td p t).1).1,a2l l 600,())=true:=isS e3;have g3:f1W (p,(a1S g.1 g.2.1 (a0P td p t).1).1,a2l l 600,())=b7v p (a1S g.1 g.2.1 (a0P td p t).1).1 (a2l l 600):=gtS e3;have w1:IntKind.i64.wrap (t+a2l l 600)=t+a2l l 600:=w64 (by omega) (by omega);have w2:IntKind.i64.wrap (l-a2l l 600)=l-a2l l 600:=w64 (by omega) (by omega);have ih':=ih N (a4B p g (a2l l 600) (a0P td p t).1).1 (t+a2l l 600) (l-a2l l 600) (by omega) (by omega) (by omega) (by omega) (by omega);have step:a0C (b4F) (N+1) ((p,t,[g],(),(0:Int),l,()),td,()) =
     bif decide (l>0)then bif e6w (l,0,600,())then bif f6N (td,p,t,())then bif !(d3F (td,p,t,())).2.1 then some (.inr (((0,0),false,()),()))
      else bif f6P (g.1,g.2.1,(d3F (td,p,t,())).1,())then bif !(e2Z (g.1,g.2.1,(d3F (td,p,t,())).1,())).2.1 then some (.inr (((0,0),false,()),()))
       else bif f6R (p,(e2Z (g.1,g.2.1,(d3F (td,p,t,())).1,())).1,d0W (l,0,600,()))then bif !(f1W (p,(e2Z (g.1,g.2.1,(d3F (td,p,t,())).1,())).1,d0W (l,0,600,()))).2.1 then some (.inr (((0,0),false,()),()))
        else a0C (b4F) N (((f1W (p,(e2Z (g.1,g.2.1,(d3F (td,p,t,())).1,())).1,d0W (l,0,600,()))).1,IntKind.i64.wrap (t+(d0W (l,0,600,())).1),[g],(),(0:Int),IntKind.i64.wrap (l-(d0W (l,0,600,())).1),()),td,())
      else none else none else none else none
     else some (.inl ((p,t,[g],(),(0:Int),()),td,())):=rfl
    rw[step,d1,k0,g0,k1,g1];simp only[cond_true,k2,g2,w1,w2,k3,g3];unfold a4I;rw[d1,cond_true];unfold a4B at ih' ⊢;cases (a0P td p t).2.1
    ·exact⟨0,rfl⟩
    ·cases hg:(a1S g.1 g.2.1 (a0P td p t).1).2.1
     ·exact⟨0,rfl⟩
     ·rw[hg]at ih';simp only[Bool.not_true,cond_false]at ih' ⊢;cases (b7v p (a1S g.1 g.2.1 (a0P td p t).1).1 (a2l l 600)).2.1
      ·exact⟨0,rfl⟩
      ·exact ih'
   ·have h0:l=0:=by omega
    subst h0;exact⟨t,rfl⟩
theorem e5a (p:Nat×Nat) (t:Int) (g:Den a2z) (td:Den S30) (h:a4y td) (ht:0<=t) (ht':t<=1000000000000) (hg:a4Q g<=3600):f2a (p,t,[g],td,())=some (f3Q p t g td):=by
 have e1:F96 (p,())=some (a3d p,()):=a7M p;have e2:=d4T g;have k1:K96 (p,())=true:=isS e1;have g1:G96 (p,())=(a3d p,()):=gtS e1;have k2:f6W ([g],())=true:=isS e2;have g2:f6X ([g],())=(b0c g,()):=gtS e2;unfold f2a f3Q;show(bif K96 (p,())then bif !(G96 (p,())).1 then _ else bif f6W ([g],())then bif !(f6X ([g],())).1 then _ else
  bif b6N ((p,t,[g],(),(0:Int),()),td,())then bif b6O ((p,t,[g],(),(0:Int),()),td,())then some (b6Q ((p,t,[g],(),(0:Int),()),td,())).1
   else some ((b6P ((p,t,[g],(),(0:Int),()),td,())).1.1,true,())else none else none else none)=_
 rw[k1,g1,k2,g2];cases hp:a3d p
 ·rfl
 cases hg':b0c g
 ·rfl
 simp only[Bool.not_true,cond_true,cond_false];have hg2:0<=a4Q g:=by
  unfold b0c a0n at hg';simp only[and_eq_true,decide_eq_true_eq]at hg';exact hg'.2.1
 obtain⟨t',hl⟩:=b7B td h g 7 (c0q ((p,t,[g],(),(0:Int),a4Q g,()),td,())) p t (a4Q g) (by omega) (by unfold c0q;dsimp only;omega) ht (by omega) hg2;have hl7:b0Q ((p,t,[g],(),(0:Int),a4Q g,()),td,())=_:=hl;have hl4:a9m ((p,t,[g],(),(0:Int),()),td,())=some (match a4I td g 7 p t (a4Q g)with|some r => .inl ((r.1,()),())|none => .inr (((0,0),false,()),())):=by
  unfold a9m;have hb:∃M,b4G ((p,t,[g],(),(0:Int),()),td,())=M+2:=⟨b4G ((p,t,[g],(),(0:Int),()),td,())-2,by unfold b4G;dsimp only;omega⟩;obtain⟨M,hM⟩:=hb;rw[hM];show(bif b6K ((p,t,[g],(),(0:Int),a4Q g,()),td,())then bif b6L ((p,t,[g],(),(0:Int),a4Q g,()),td,())then(some (Sum.inr (b6M ((p,t,[g],(),(0:Int),a4Q g,()),td,()))):Option (c8o⊕c8p))else _ else none)=_;unfold b6K b6L b6M;rw[hl7];cases hpv:a4I td g 7 p t (a4Q g)with
  |none=>rfl
  | some r =>
    have hx:a5a ((p,t,[g],(),(0:Int),a4Q g,()),td,())=((r.1,t',[g],(),(0:Int),()),td,()):=by
     unfold a5a;rw[hl7,hpv];rfl
    show a0C (c8q) (M+1) (((a5a ((p,t,[g],(),(0:Int),a4Q g,()),td,())).1.1,(a5a ((p,t,[g],(),(0:Int),a4Q g,()),td,())).1.2.1,(a5a ((p,t,[g],(),(0:Int),a4Q g,()),td,())).1.2.2.1,(),IntKind.i64.wrap ((a5a ((p,t,[g],(),(0:Int),a4Q g,()),td,())).1.2.2.2.2.1+1),()),(a5a ((p,t,[g],(),(0:Int),a4Q g,()),td,())).2)=_;rw[hx];rfl
 unfold b6N b6O b6Q b6P;rw[hl4];cases a4I td g 7 p t (a4Q g)with
 |none=>rfl
 |some r=>rfl
theorem f3U (a c:Int) (h1:48<=c) (h2:c<=57):IntKind.i64.wrap (IntKind.i64.wrap (IntKind.i64.wrap (10*a)+IntKind.i64.wrap c)-48)=IntKind.i64.wrap (IntKind.i64.wrap (a*10)+IntKind.i64.wrap (IntKind.u8.wrap (c-48))):=by
 rw[IntWalk.u8_in (c-48) (by omega),w64 (x:=c) (by omega) (by omega),w64 (x:=c-48) (by omega) (by omega)];simp only[IntKind.wrap_i64];omega
theorem d4V (f:b2a->Option (c7j⊕c7k)) (v:b2a):b0N f v=b4o f v:=by
 unfold b0N b4o;dsimp only;by_cases h1:a0o v.1.1 v.1.2.2.1<48
 ·simp only[decide_eq_true h1,cond_true]
 ·by_cases h2:a0o v.1.1 v.1.2.2.1>57
  ·simp only[decide_eq_false h1,decide_eq_true h2,cond_false,cond_true]
  ·simp only[decide_eq_false h1,decide_eq_false h2,cond_false,f3U v.1.2.1 (a0o v.1.1 v.1.2.2.1) (by omega) (by omega)]
theorem d4W (v:b2a):b0O v=b6q v:=by
 have:(b0N:(b2a->Option (c7j⊕c7k))->b2a->Option (c7j⊕c7k))=b4o:=by
  funext f v;exact d4V f v
 show a0C (b0N) (c2n v) v=a0C (b4o) (c2n v) v;rw[this]
theorem d0z {n:Int} (h:I64 n):n.natAbs<=9223372036854775808:=by unfold I64 at h;omega
theorem e5b (s:ByteArray):f6C (s,())=some (uI s,uB s,()):=by
 rw[<- d0t s];unfold f6C F17 c8c c8d c8e c8f c7l c7m c7n c7o;dsimp only;rw[d4W];by_cases h0:s.size=0
 ·have e0:((s.size:Int)==0)=true:=by simp[h0]
  have e1:decide ((s.size:Int)>10)=false:=by simp[h0]
  have hs:s=ByteArray.empty:=a7R (by
   have:s.data.toList.length=0:=by rw[Array.length_toList];exact h0
   rw[List.length_eq_zero_iff.1 this];rfl)
  rw[e0,e1];subst hs
  decide +kernel
 ·have e0:((s.size:Int)==0)=false:=by simp[h0]
  rw[e0,cond_false];cases h10:decide ((s.size:Int)>10)
  ·have h:s.size<=10:=by
    have:=of_decide_eq_false h10;omega
   obtain⟨y,hy,hz⟩:=b5l s (by omega);simp only[cond_false,hy,isSome_some,cond_true];cases y with
   |inr y=>rfl
   | inl z =>
     obtain⟨_,hI⟩:=hz z rfl;obtain⟨⟨t,n,_⟩,_⟩:=z;have hI:I64 n:=hI;have a1:=b2v n (d0z hI);have a2:=c1m n hI;have k1:b3L (n,())=true:=isS a1;have g1:a7m (n,())=(bOf (Lib.itoa n),()):=gtS a1;have k2:K25 (n,())=true:=isS a2;have g2:G25 (n,())=(bOf (Lib.itoa n),()):=gtS a2;show(bif decide (n>1000000000)then some (0,false,())else bif b3L (n,())then bif !a0O (a7m (n,())).1 t then some (0,false,())else some (n,true,())else none:OD R17) =
      (bif decide (n>1000000000)then some (0,false,())else bif K25 (n,())then bif !a0O (G25 (n,())).1 t then some (0,false,())else some (n,true,())else none:OD R17)
     rw[k1,g1,k2,g2]
  ·rfl
theorem f3V:∀(k u:Nat),u<10^(k+1)->Lib.nDigits u<=k+1
 |0,u,h=>by rw[Lib.nDigits_small (by simpa using h)];omega
 | k+1,u,h=>by
   by_cases h1:u<10
   ·rw[Lib.nDigits_small h1];omega
   ·rw[Lib.nDigits_big h1];have:=f3V k (u/10) (by rw[Nat.pow_succ]at h;omega);omega
theorem c3d (m:Int):(a9M m).length<=11∨((a9M m).length<=12 /\ (a9M m).getD 0 0=45):=by
 unfold a9M;by_cases h:-1000000000<=m /\ m<=1000000000
 ·rw[if_pos h];have h1:(Lib.itoa ((m.natAbs/1000:Nat):Int)).length<=7:=by
   rw[Lib.itoa_nonneg,Lib.decDigits_length];exact f3V 6 _ (by show m.natAbs/1000<10000000;omega)
  have h2:(Lib.itoa ((1000+m.natAbs%1000:Nat):Int)).length=4:=by
   rw[Lib.itoa_nonneg,Lib.decDigits_length];exact Lib.nDigits_unique 3 _ (by show 1000<=_;omega) (by show _<10000;omega)
  by_cases hm:m<0
  ·rw[if_pos hm];right;constructor
   ·simp only[length_append,List.length_drop,List.length_cons,List.length_nil];omega
   ·rfl
  ·rw[if_neg hm];left;simp only[length_append,List.length_drop,List.length_cons,List.length_nil];omega
 ·rw[if_neg h];left;simp
def g4T (n c:Int):Int:=IntKind.i64.wrap (IntKind.i64.wrap (n*10)+IntKind.i64.wrap (IntKind.u8.wrap (c-48)))
def dgV (t:ByteArray) (d:Int):Nat->Nat->Int->Option Int
 |0,_,n=>some n
 |k+1,i,n=>bif ((i:Int)==d)then dgV t d k (i+1) n else bif decide (a0o t i<48)then none else bif decide (a0o t i>57)then none else dgV t d k (i+1) (g4T n (a0o t i))
theorem g4U {t:ByteArray} {d:Int}:∀(k i:Nat) (n m:Int),I64 n->dgV t d k i n=some m->I64 m:=by
 intro k
 induction k with
 |zero=>intro i n m h e;cases e;exact h
 | succ k ih =>
   intro i n m h e;unfold dgV at e;cases h1:((i:Int)==d)
   ·rw[h1,cond_false]at e;cases h2:decide (a0o t i<48)
    ·rw[h2,cond_false]at e;cases h3:decide (a0o t i>57)
     ·rw[h3,cond_false]at e;exact ih _ _ _ (c2q _) e
     ·rw[h3]at e;cases e
    ·rw[h2]at e;cases e
   ·rw[h1,cond_true]at e;exact ih _ _ _ h e
theorem f3W {t:ByteArray} {d:Int} {j:Nat} (hj:(j:Int)≠d) (hc:a0o t j<48):∀(k i:Nat) (n:Int),i<=j->j<i+k->dgV t d k i n=none:=by
 intro k
 induction k with
 |zero=>intro i n h1 h2;omega
 | succ k ih =>
   intro i n h1 h2;unfold dgV;by_cases hij:i=j
   ·subst hij;rw[show((i:Int)==d)=false by simpa using hj,decide_eq_true hc];rfl
   ·rw[ih (i+1) n (by omega) (by omega),ih (i+1) _ (by omega) (by omega)];cases ((i:Int)==d)<;>cases decide (a0o t i<48)<;>cases decide (a0o t i>57)<;>rfl
theorem g4V (s t:ByteArray) (sg d:Int) (ht:t.size<=1000):∀(k N i:Nat) (n:Int),i+k=t.size->k<N ->
 a0C (a3N) N ((s,t,sg,d,n,(i:Int),()),())=some (match dgV t d k i n with|some m => .inl ((s,sg,m,()),())|none => .inr ((0,false,()),())):=by
 intro k
 induction k with
 | zero =>
   intro N i n h1 h2;obtain⟨N,rfl⟩:∃M,N=M+1:=⟨N-1,by omega⟩;show a3N _ _=_;unfold a3N;dsimp only;rw[show decide ((i:Int)<(t.size:Int))=false by simp;omega];rfl
 | succ k ih =>
   intro N i n h1 h2;obtain⟨N,rfl⟩:∃M,N=M+1:=⟨N-1,by omega⟩;show a3N (a0C (a3N) N) _=_;unfold a3N dgV;have e1:decide ((i:Int)<(t.size:Int))=true:=by simp;omega
   have e2:decide (0<=(i:Int))=true:=by simp
   simp only[e1,e2,cond_true,Bool.and_self,a2h i (by omega)];have ih1:=ih N (i+1) n (by omega) (by omega);have ih2:=ih N (i+1) (g4T n (a0o t i)) (by omega) (by omega);cases ((i:Int)==d)
   ·simp only[cond_false];cases decide (a0o t i<48)
    ·cases decide (a0o t i>57)
     ·exact ih2
     ·rfl
    ·rfl
   ·exact ih1
theorem g4W (s t:ByteArray) (ht:t.size<=1000) (h5:5<=t.size):∀(k N i:Nat) (n:Int),i+k=t.size->k<N ->
 a0C (a7K) N ((s,t,n,(i:Int),()),())=some (match dgV t ((t.size:Int)-4) k i n with|some m => .inl ((s,t,m,()),())|none => .inr ((0,false,()),())):=by
 intro k;have w4:IntKind.i64.wrap ((t.size:Int)-4)=(t.size:Int)-4:=w64 (by omega) (by omega)
 induction k with
 | zero =>
   intro N i n h1 h2;obtain⟨N,rfl⟩:∃M,N=M+1:=⟨N-1,by omega⟩;show a7K _ _=_;unfold a7K;dsimp only;rw[show decide ((i:Int)<(t.size:Int))=false by simp;omega];rfl
 | succ k ih =>
   intro N i n h1 h2;obtain⟨N,rfl⟩:∃M,N=M+1:=⟨N-1,by omega⟩;show a7K (a0C (a7K) N) _=_;unfold a7K dgV;have e1:decide ((i:Int)<(t.size:Int))=true:=by simp;omega
   have e2:decide (0<=(i:Int))=true:=by simp
   simp only[e1,e2,cond_true,Bool.and_self,a2h i (by omega),w4];have ih1:=ih N (i+1) n (by omega) (by omega);have ih2:=ih N (i+1) (g4T n (a0o t i)) (by omega) (by omega);cases ((i:Int)==(t.size:Int)-4)
   ·simp only[cond_false];cases decide (a0o t i<48)
    ·cases decide (a0o t i>57)
     ·exact ih2
     ·rfl
    ·rfl
   ·exact ih1
def tv (s t:ByteArray) (sg:Int):Int×Bool×Unit:=
 bif a0n (t.size:Int) 5 11&&a0o t ((t.size:Int)-4)==46 then
  (match dgV t ((t.size:Int)-4) t.size 0 0 with
  |none=>(0,false,())
  |some n=>bif a0O (bOf (a9M (IntKind.i64.wrap (n*sg)))) s then(IntKind.i64.wrap (n*sg),true,())else(0,false,()))
 else(0,false,())
theorem a9B {t:ByteArray} {j:Nat} (h:j<t.size) (c:UInt8):t.data.toList[j]?=some c↔a0o t j=(c.toNat:Int):=by
 have hl:j<t.data.toList.length:=by rw[Array.length_toList];exact h
 unfold a0o;rw[toNat_natCast,List.getElem?_eq_getElem hl,List.getD_eq_getElem?_getD,List.getElem?_eq_getElem hl];simp only[getD_some,Option.some.injEq];constructor
 ·intro e;rw[e]
 ·intro e;exact UInt8.toNat_inj.1 (by omega)
theorem f3X (s t:ByteArray) (sg:Int) (ht:t.size<=1000):(bif decide ((a5x (t,46,())).fst<1)then some (0,false,())
 else bif (((t.size:Nat):Int) != wrap IntKind.i64 ((a5x (t,46,())).fst+4))then some (0,false,())
 else bif decide ((a5x (t,46,())).fst>7)then some (0,false,())
 else bif a3E ((s,t,sg,(a5x (t,46,())).fst,0,0,()),())then
  bif a4w ((s,t,sg,(a5x (t,46,())).fst,0,0,()),())then some (a5o ((s,t,sg,(a5x (t,46,())).fst,0,0,()),())).fst
  else bif d0T (wrap IntKind.i64 ((a1e ((s,t,sg,(a5x (t,46,())).fst,0,0,()),())).fst.snd.snd.fst*(a1e ((s,t,sg,(a5x (t,46,())).fst,0,0,()),())).fst.snd.fst),())then
   bif !a0O (d8w (wrap IntKind.i64 ((a1e ((s,t,sg,(a5x (t,46,())).fst,0,0,()),())).fst.snd.snd.fst*(a1e ((s,t,sg,(a5x (t,46,())).fst,0,0,()),())).fst.snd.fst),())).fst (a1e ((s,t,sg,(a5x (t,46,())).fst,0,0,()),())).fst.fst then some (0,false,())
   else some (wrap IntKind.i64 ((a1e ((s,t,sg,(a5x (t,46,())).fst,0,0,()),())).fst.snd.snd.fst*(a1e ((s,t,sg,(a5x (t,46,())).fst,0,0,()),())).fst.snd.fst),true,())
  else none
 else none:OD e2D)=some (tv s t sg):=by
 have hg:(a5x (t,46,())).fst=Lib.indexByte t.data.toList 46:=rfl;rw[hg];have hge:=Lib.indexByte_ge t.data.toList 46;have hnone:=@Lib.indexByte_none t.data.toList 46;have hsome:=fun o=>@Lib.indexByte_some t.data.toList 46 o
 generalize Lib.indexByte t.data.toList 46=d at *;have hl:=g4V s t sg d ht t.size (a7p ((s,t,sg,d,0,((0:Nat):Int),()),())) 0 0 (by omega) (by unfold a7p;dsimp only;omega);have hl:a5Y ((s,t,sg,d,0,0,()),())=_:=hl;unfold tv;by_cases hgood:(5<=t.size /\ t.size<=11) /\ a0o t ((t.size:Int)-4)=46
 ·obtain⟨⟨g1,g2⟩,g3⟩:=hgood;have eg:(a0n (t.size:Int) 5 11&&a0o t ((t.size:Int)-4)==46)=true:=by
   unfold a0n;rw[g3,decide_eq_true (by omega),decide_eq_true (by omega)];rfl
  rw[eg,cond_true];have hc:((t.size:Int)-4)=((t.size-4:Nat):Int):=by omega
  have hat:t.data.toList[t.size-4]?=some 46:=(a9B (by omega) 46).2 (by rw[<- hc];exact g3);have hd0:d ≠ -1:=fun e=>hnone e _ hat
  obtain⟨j,rfl⟩:∃j:Nat,d=(j:Int):=⟨d.toNat,by omega⟩;obtain⟨j1,j2⟩:=hsome j rfl;have hj:j<=t.size-4:=by
   by_cases h:t.size-4<j
   ·exact absurd hat (j2 _ h)
   ·omega
  by_cases hj2:j=t.size-4
  ·subst hj2;rw[<- hc]at hl ⊢;rw[show decide ((t.size:Int)-4<1)=false by simp;omega,w64 (by omega) (by omega),show((t.size:Int) != (t.size:Int)-4+4)=false by simp,show decide ((t.size:Int)-4>7)=false by simp;omega];simp only[cond_false];unfold a3E a4w a5o a1e;rw[hl];cases dgV t ((t.size:Int)-4) t.size 0 0 with
   |none=>rfl
   | some n =>
     show(bif d0T (IntKind.i64.wrap (n*sg),())then bif !a0O (d8w (IntKind.i64.wrap (n*sg),())).1 s then some (0,false,())else some (IntKind.i64.wrap (n*sg),true,())else none:OD e2D)=some (bif a0O (bOf (a9M (IntKind.i64.wrap (n*sg)))) s then(IntKind.i64.wrap (n*sg),true,())else(0,false,()));have e:=d0r (IntKind.i64.wrap (n*sg));have k1:d0T (IntKind.i64.wrap (n*sg),())=true:=isS e;have g1:d8w (IntKind.i64.wrap (n*sg),())=(bOf (a9M (IntKind.i64.wrap (n*sg))),()):=gtS e;rw[k1,g1];cases a0O (bOf (a9M (IntKind.i64.wrap (n*sg)))) s<;>rfl
  ·have hcj:a0o t j<48:=by
    rw[(a9B (by omega) 46).1 j1]
    decide
   rw[f3W (j:=j) (by omega) hcj t.size 0 0 (by omega) (by omega)];by_cases hj0:(j:Int)<1
   ·rw[decide_eq_true hj0];rfl
   ·rw[decide_eq_false hj0,w64 (by omega) (by omega),show((t.size:Int) != (j:Int)+4)=true by simp;omega];rfl
 ·have eg:(a0n (t.size:Int) 5 11&&a0o t ((t.size:Int)-4)==46)=false:=by
   apply Bool.eq_false_iff.2;intro h;unfold a0n at h;simp only[and_eq_true,decide_eq_true_eq,beq_iff_eq]at h;exact hgood ⟨⟨by omega,by omega⟩,h.2⟩
  rw[eg,cond_false];by_cases h1:d<1
  ·rw[decide_eq_true h1];rfl
  rw[decide_eq_false h1,cond_false];obtain⟨j,rfl⟩:∃j:Nat,d=(j:Int):=⟨d.toNat,by omega⟩;obtain⟨j1,j2⟩:=hsome j rfl;have hjt:j<t.size:=by
   have:=(List.getElem?_eq_some_iff.1 j1).1;rw[Array.length_toList]at this;exact this
  rw[w64 (by omega) (by omega)];by_cases h2:(t.size:Int)=(j:Int)+4
  ·rw[show((t.size:Int) != (j:Int)+4)=false by simpa using h2,cond_false];by_cases h3:(j:Int)>7
   ·rw[decide_eq_true h3];rfl
   ·exfalso;apply hgood;refine⟨⟨by omega,by omega⟩,?_⟩;rw[show(t.size:Int)-4=(j:Int)by omega,(a9B hjt 46).1 j1];rfl
  ·rw[show((t.size:Int) != (j:Int)+4)=true by simpa using h2];rfl
theorem f3Y (n:Int):K83 (n,())=true:=by unfold K83;rw[d0f];rfl
theorem f3Z (n:Int):G83 (n,())=(bOf (a9M n),()):=by unfold G83;rw[d0f];rfl
theorem d4X {s:ByteArray} {m:Int} (h:12<=s.size /\ a0o s 0≠45∨13<=s.size):a0O (bOf (a9M m)) s=false:=by
 apply Bool.eq_false_iff.2;intro e;have e:=(a4C _ _).1 e;subst e;have hsz:(bOf (a9M m)).size=(a9M m).length:=by simp[bOf,ByteArray.size]
 rw[hsz]at h;rcases c3d m with h1|⟨h1,h2⟩
 ·omega
 ·rcases h with⟨_,h3⟩|h3
  ·apply h3;unfold a0o;show(((a9M m).getD 0 0).toNat:Int)=45;rw[h2];rfl
  ·omega
theorem e5c (s t:ByteArray) (sg:Int) (ht:t.size<=1000) (hst:(sg=1 /\ s=t /\ a0o s 0≠45)∨(sg=-1 /\ t.size+1=s.size)) :
 (bif decide (((t.size:Nat):Int)<5)then some (0,false,())
  else bif decide (((t.size:Nat):Int)>12)then some (0,false,())
  else bif (decide (0<=wrap IntKind.i64 (((t.size:Nat):Int)-4))&&decide (wrap IntKind.i64 (((t.size:Nat):Int)-4)<((t.size:Nat):Int)))then
   bif (a0o t (wrap IntKind.i64 (((t.size:Nat):Int)-4)) != 46)then some (0,false,())
   else bif a9i ((s,t,0,0,()),())then
    bif a9j ((s,t,0,0,()),())then some (a9k ((s,t,0,0,()),())).fst
    else bif decide (((ByteArray.size (a2e ((s,t,0,0,()),())).fst.snd.fst:Nat):Int)<((ByteArray.size (a2e ((s,t,0,0,()),())).fst.fst:Nat):Int))then
     bif K83 (wrap IntKind.i64 (0-(a2e ((s,t,0,0,()),())).fst.snd.snd.fst),())then
      bif !a0O (G83 (wrap IntKind.i64 (0-(a2e ((s,t,0,0,()),())).fst.snd.snd.fst),())).fst (a2e ((s,t,0,0,()),())).fst.fst then some (0,false,())
      else some (wrap IntKind.i64 (0-(a2e ((s,t,0,0,()),())).fst.snd.snd.fst),true,())
     else none
    else bif K83 (a2e ((s,t,0,0,()),())).fst.snd.snd then
     bif !a0O (G83 (a2e ((s,t,0,0,()),())).fst.snd.snd).fst (a2e ((s,t,0,0,()),())).fst.fst then some (0,false,())
     else some ((a2e ((s,t,0,0,()),())).fst.snd.snd.1,true,())
    else none
   else none
  else none:OD f1J)=some (tv s t sg):=by
 unfold tv a0n;by_cases h5:t.size<5
 ·rw[show decide (((t.size:Nat):Int)<5)=true by simp;omega,show decide ((5:Int)<=(t.size:Int))=false by simp;omega];rfl
 rw[show decide (((t.size:Nat):Int)<5)=false by simp;omega,show decide ((5:Int)<=(t.size:Int))=true by simp;omega,cond_false];by_cases h12:12<t.size
 ·rw[show decide (((t.size:Nat):Int)>12)=true by simp;omega,show decide ((t.size:Int)<=11)=false by simp;omega];rfl
 rw[show decide (((t.size:Nat):Int)>12)=false by simp;omega,cond_false,w64 (x:=((t.size:Nat):Int)-4) (by omega) (by omega)];rw[show(decide (0<=((t.size:Nat):Int)-4)&&decide (((t.size:Nat):Int)-4<((t.size:Nat):Int)))=true by simp;omega,cond_true];by_cases hd:a0o t ((t.size:Int)-4)=46
 ·rw [hd];have hl:=g4W s t ht (by omega) t.size (c0j ((s,t,0,((0:Nat):Int),()),())) 0 0 (by omega) (by unfold c0j;dsimp only;omega);have hl:b0P ((s,t,0,0,()),())=_:=hl;unfold a9i a9j a9k a2e;rw[hl];cases hdg:dgV t ((t.size:Int)-4) t.size 0 0 with
  | none =>
    cases decide ((t.size:Int)<=11)<;>rfl
  | some n =>
    have hI:I64 n:=g4U _ _ _ _ (by unfold I64;omega) hdg;have key:(bif decide (((t.size:Nat):Int)<((s.size:Nat):Int))then bif K83 (IntKind.i64.wrap (0-n),())then bif !a0O (G83 (IntKind.i64.wrap (0-n),())).1 s then some (0,false,())else some (IntKind.i64.wrap (0-n),true,())else none
     else bif K83 (n,())then bif !a0O (G83 (n,())).1 s then some (0,false,())else some (n,true,())else none:OD f1J)=some (bif a0O (bOf (a9M (IntKind.i64.wrap (n*sg)))) s then(IntKind.i64.wrap (n*sg),true,())else(0,false,())):=by
     rcases hst with⟨rfl,rfl,_⟩|⟨rfl,h⟩
     ·rw[show decide (((s.size:Nat):Int)<((s.size:Nat):Int))=false by simp,cond_false,f3Y,f3Z,show n*1=n by omega,w64 (x:=n) (by unfold I64 at hI;omega) (by unfold I64 at hI;omega)];cases a0O (bOf (a9M n)) s<;>rfl
     ·rw[show decide (((t.size:Nat):Int)<((s.size:Nat):Int))=true by simp;omega,cond_true,f3Y,f3Z,show n * -1=0-n by omega];cases a0O (bOf (a9M (IntKind.i64.wrap (0-n)))) s<;>rfl
    refine Eq.trans key ?_;by_cases h11:t.size<=11
    ·rw[show decide ((t.size:Int)<=11)=true by simp;omega];rfl
    ·rw[show decide ((t.size:Int)<=11)=false by simp;omega,d4X (by
      rcases hst with⟨rfl,rfl,h⟩|⟨rfl,h⟩
      ·exact .inl ⟨by omega,h⟩
      ·exact .inr (by omega))]
     rfl
 ·rw[show(a0o t ((t.size:Int)-4) != 46)=true by simpa using hd,show(a0o t ((t.size:Int)-4)==46)=false by simpa using hd,Bool.and_false];rfl
def xV (s:ByteArray):Int×Bool×Unit:=bif a0o s 0==45 then tv s (ByteArray.extract s 1 s.size) (-1)else tv s s 1
theorem d4Y {s:ByteArray} (hb:a0O s { data:=#[] }=false):0<s.size:=by
 apply Nat.pos_of_ne_zero;intro h0;have:s={ data:=#[] }:=a7R (by
  have:s.data.toList.length=0:=by rw[Array.length_toList];exact h0
  rw[List.length_eq_zero_iff.1 this])
 rw[(a4C _ _).2 this]at hb;cases hb
theorem e5d (s:ByteArray) (hs:s.size<=1000):e2E (s,())=some (xV s):=by
 unfold e2E xV;dsimp only;have k235:∀t:ByteArray,e1u (t,46,())=true:=fun _=>rfl
 have plain:=f3X s s 1 hs;cases hb:a0O s { data:=#[] }with
 | true =>
   have h0:a0o s 0=0:=by rw[(a4C _ _).1 hb];rfl
   simp only[Bool.not_true,cond_false,k235,cond_true,h0];exact plain
 | false =>
   have hpos:=d4Y hb;have e1:(decide (0<=0)&&decide (0<((ByteArray.size s:Nat):Int)))=true:=by simp;omega
   have e2:(decide (0<=1)&&decide (1<=((ByteArray.size s:Nat):Int))&&decide (((ByteArray.size s:Nat):Int)<=((ByteArray.size s:Nat):Int)))=true:=by simp;omega
   rw[e1,e2];simp only[Bool.not_false,cond_true];cases (a0o s 0==45)
   ·simp only[cond_false,k235,cond_true];exact plain
   ·simp only[cond_true,k235];refine f3X s _ (-1) ?_;rw[ByteArray.size_extract];omega
set_option maxHeartbeats 4000000 in
theorem e5e (s:ByteArray) (hs:s.size<=1000):f1K (s,())=some (xV s):=by
 unfold f1K xV;dsimp only;by_cases hpos:0<s.size
 ·have e0:decide (((ByteArray.size s:Nat):Int)>0)=true:=by simp;omega
  have e1:(decide (0<=0)&&decide (0<((ByteArray.size s:Nat):Int)))=true:=by simp;omega
  have e2:(decide (0<=1)&&decide (1<=((ByteArray.size s:Nat):Int))&&decide (((ByteArray.size s:Nat):Int)<=((ByteArray.size s:Nat):Int)))=true:=by simp;omega
  have e3:decide (0<=0)=true:=by simp
  rw[e0,e3,e2];simp only[cond_true,Bool.and_self];by_cases h45:a0o s 0=45
  ·rw[h45];simp only[beq_self_eq_true,cond_true];refine e5c s _ (-1) ?_ (.inr ⟨rfl,?_⟩)
   ·rw[ByteArray.size_extract];omega
   ·show(ByteArray.extract s 1 s.size).size+1=s.size;rw[ByteArray.size_extract];omega
  ·rw[show(a0o s 0==45)=false by simpa using h45];simp only[cond_false];exact e5c s s 1 hs (.inl ⟨rfl,rfl,h45⟩)
 ·have e0:decide (((ByteArray.size s:Nat):Int)>0)=false:=decide_eq_false (by omega);have hs0:s={ data:=#[] }:=a7R (by
   have:s.data.toList.length=0:=by rw[Array.length_toList];show s.size=0;omega
   rw[List.length_eq_zero_iff.1 this])
  have h45:a0o s 0≠45:=by rw[hs0];decide
  rw[e0,show(a0o s 0==45)=false by simpa using h45];simp only[cond_false];exact e5c s s 1 hs (.inl ⟨rfl,rfl,h45⟩)
theorem d0A (s:ByteArray) (hs:s.size<=1000):f1K (s,())=some (xI s,xB s,()):=by
 rw[<- b7A s hs,e5d s hs,e5e s hs]
theorem e5f (n a b:ByteArray) (ha:a.size<=1000) (hb:b.size<=1000):e6u ([n,a,b],())=some (a9N a b):=by
 have e1:=d0A a ha;have e2:=d0A b hb;have e3:=d0y (xI a);have e4:=d0y (xI b);have k1:e2V (a,())=true:=isS e1;have g1:c2s (a,())=(xI a,xB a,()):=gtS e1;have k2:e2V (b,())=true:=isS e2;have g2:c2s (b,())=(xI b,xB b,()):=gtS e2;have k3:e2W (xI a,())=true:=isS e3;have g3:c8g (xI a,())=(a7y (xI a),()):=gtS e3;have k4:e2W (xI b,())=true:=isS e4;have g4:c8g (xI b,())=(a7y (xI b),()):=gtS e4;unfold e6u a9N;show(bif e2V (a,())then bif e2V (b,())then bif e2W ((c2s (a,())).1,())then bif e2W ((c2s (b,())).1,())then bif (c2s (a,())).2.1 then some ((c8g ((c2s (a,())).1,())).1,(c8g ((c2s (b,())).1,())).1,(c2s (b,())).2)else some ((c8g ((c2s (a,())).1,())).1,(c8g ((c2s (b,())).1,())).1,false,())else none else none else none else none:OD f6F)=_;rw[k1,g1,k2,g2];dsimp only;rw[k3,g3,k4,g4];cases xB a<;>rfl
def kpV (Y:Yv):Yv:=bif decide (Y.sl ≥ 0)then Y.setSl (bif (a2k Y).2.1 then b5n Y.sails Y.sl (a2k Y).1 else -1)else Y
def a9C (f:List ByteArray) (Y:Yv):Bool×Yv:=
 bif uB (fAt f 1)&&!decide (uI (fAt f 1)>359)then(true,kpV (Y.setHd (uI (fAt f 1))))else(false,Y)
def a6T (w:Nat×Nat):Bool:=feq .f32 w.1 0&&feq .f32 w.2 0
def a2g (f:List ByteArray):Nat×Nat:=a7O (a9N (fAt f 1) (fAt f 2))
def b7C (f:List ByteArray) (Y:Yv):Bool×Yv:=
 bif (a9N (fAt f 1) (fAt f 2)).2.2.1&&a1K (a2g f)then
  bif a6T Y.wd then(true,kpV (Y.setWd (a2g f)))
  else bif (a1C Y.wd (a2g f)).2.1&&a1K (a1C Y.wd (a2g f)).1 then(true,kpV (Y.setWd (a1C Y.wd (a2g f)).1))else(false,Y)
 else(false,Y)
def b7D (f:List ByteArray) (Y:Yv):Bool×Yv:=
 bif a0O (fAt f 1) b0a then(true,Y.setSl (-1))
 else bif !decide (a2p Y.sails (fAt f 1)<0)&&((a2k Y).2.1&&a4d (at' Y.sails (a2p Y.sails (fAt f 1)).toNat) (a2k Y).1)then(true,Y.setSl (a2p Y.sails (fAt f 1)))else(false,Y)
def d0B (f:List ByteArray):Nat×Nat:=((a9N (fAt f 1) (fAt f 2)).1,(a9N (fAt f 1) (fAt f 2)).2.1)
def e5g (f:List ByteArray) (Y:Yv):Bool×Yv:=
 bif (a9N (fAt f 1) (fAt f 2)).2.2.1&&(a0S (d0B f)).2.1 then(true,Y.setPs (d0B f))else(false,Y)
def goS (Y:Yv):Nat:=bif decide (Y.sl ≥ 0)then a1P Y else 0
def goR (n:Int) (Y:Yv):(Nat×Nat)×Bool×Unit:=f3Q Y.ps Y.tm (Y.hd,goS Y,n,()) Y.1.2.1
def goV (n:Int) (Y:Yv):Bool×Yv:=
 bif inB n 1 3600&&(!decide (Y.tm+n>10000000)&&!decide ((Y.tk.length:Int) ≥ 200))then
  bif (goR n Y).2.1&&(a0S (goR n Y).1).2.1 then(true,Y.setGo (Y.tm+n) (goR n Y).1 (Y.tk++[((a0S (goR n Y).1).1,Y.tm+n,())]))else(false,Y)
 else(false,Y)
def goW (f:List ByteArray) (Y:Yv):Bool×Yv:=bif uB (fAt f 1)then goV (uI (fAt f 1)) Y else(false,Y)
def isC (f:List ByteArray) (n:Nat) (s:ByteArray):Bool:=decide (f.length=n)&&a0O (fAt f 0) s
def a3P (f:List ByteArray) (Y:Yv):Bool×Yv:=
 bif isC f 2 a3I then a9C f Y else bif isC f 3 a7t then b7C f Y else bif isC f 2 a9u then b7D f Y else bif isC f 3 c9S then e5g f Y else bif isC f 2 sGo then goW f Y else(false,Y)
theorem g4X (Y:Yv) (h:YM Y):kpK Y prY=some (true,kpV Y):=by
 have e8:=c9V Y;have k8:K19 (Y,())=true:=isS e8;have g8:G19 (Y,())=a2k Y:=gtS e8;have hl:=a4h h;have e1:=e4R Y.sails Y.sl (a2k Y).1 (h.boat.2.2.1.1.good hl) hl (b4Z Y);have k1:f6n (Y.sails,Y.sl,(a2k Y).1,())=true:=isS e1;have g1:f6o (Y.sails,Y.sl,(a2k Y).1,())=(b5n Y.sails Y.sl (a2k Y).1,()):=gtS e1;unfold kpK kpV;rw[k8,g8,k1,g1];cases decide (Y.sl ≥ 0)
 ·rfl
 ·cases (a2k Y).2.1<;>rfl
theorem d0C (f:List ByteArray) (Y:Yv) (h:YM Y) (hf:0<f.length) (hs:a0O (fAt f 0) a3I=true∨a0O (fAt f 0) a7t=true):a7u f Y prY=some (true,kpV Y):=by
 have d:ixB f 0=true:=decide_eq_true (by omega);unfold a7u;rw[d,g4X Y h];rcases hs with hs|hs
 ·rw[hs];rfl
 ·rw[hs];cases a0O (fAt f 0) a3I<;>rfl
theorem d0D (f:List ByteArray) (Y:Yv) (hf:0<f.length) (s:ByteArray) (hs:a0O (fAt f 0) s=true) (h1:a0O s a3I=false) (h2:a0O s a7t=false):a7u f Y prY=some (true,Y):=by
 have d:ixB f 0=true:=decide_eq_true (by omega);have e:=(a4C _ _).1 hs;unfold a7u;rw[d,e,h1,h2];rfl
theorem d0E (f:List ByteArray) (n:Nat) (hn:0<n) (s:ByteArray) (a b:Option (Bool×Yv)):b0b f (n:Int) s a b=bif isC f n s then a else b:=by
 unfold b0b isC;by_cases h:f.length=n
 ·have e1:((f.length:Int)==(n:Int))=true:=by rw[beq_iff_eq];omega
  have d:ixB f 0=true:=decide_eq_true (by omega);rw[e1,d,decide_eq_true h];rfl
 ·have e1:((f.length:Int)==(n:Int))=false:=by rw[beq_eq_false_iff_ne];omega
  rw[e1,decide_eq_false h];rfl
theorem c3e {f:List ByteArray} {n:Nat} {s:ByteArray} (h:isC f n s=true):f.length=n /\ a0O (fAt f 0) s=true:=by
 unfold isC at h;simpa using h
theorem YM.hd' {Y:Yv} (h:YM Y) (k:Int):YM (Y.setHd k):=⟨h.boat,h.tk,h.lg⟩
theorem YM.wd' {Y:Yv} (h:YM Y) (w:Nat×Nat):YM (Y.setWd w):=⟨h.boat,h.tk,h.lg⟩
theorem ix1 {f:List ByteArray} (h:2<=f.length):ixB f 1=true:=decide_eq_true (by omega)
theorem uK (s:ByteArray):K17 (s,())=true:=by unfold K17;rw[d0t];rfl
theorem uG (s:ByteArray):G17 (s,())=(uI s,uB s,()):=by unfold G17;rw[d0t];rfl
theorem d4Z (f:List ByteArray) (Y:Yv) (h:YM Y) (hc:isC f 2 a3I=true):b0Y f Y prY=some (a9C f Y):=by
 obtain⟨hl,hs⟩:=c3e hc;have he:=d0C f (Y.setHd (uI (fAt f 1))) (h.hd' _) (by omega) (.inl hs);unfold b0Y a9C;rw[ix1 (by omega),uK,uG];dsimp only;rw[he];cases uB (fAt f 1)
 ·rfl
 ·cases decide (uI (fAt f 1)>359)<;>rfl
theorem e0p {f:List ByteArray} (hl:f.length=3) (hz:∀k,(fAt f k).size<=1000):slB f=true /\ f0L (a9L f,())=true /\ a9W (a9L f,())=a9N (fAt f 1) (fAt f 2):=by
 obtain⟨a,b,c,rfl⟩:∃a b c,f=[a,b,c]:=by
  match f,hl with
  |[a,b,c],_=>exact⟨a,b,c,rfl⟩
 have e:=e4T b c (hz 1) (hz 2);refine⟨rfl,?_,?_⟩
 ·show(e6o ([b,c],())).isSome=true;rw[e];rfl
 ·show(e6o ([b,c],())).getD _=_;rw[e];rfl
theorem e5h (f:List ByteArray) (Y:Yv) (h:YM Y) (hc:isC f 3 a7t=true) (hz:∀k,(fAt f k).size<=1000):c2M f Y prY=some (b7C f Y):=by
 obtain⟨hl,hs⟩:=c3e hc;obtain⟨t1,t2,t3⟩:=e0p hl hz;have n1:(a0u .f64 .f32 (a9N (fAt f 1) (fAt f 2)).1).1=true:=a3J _;have n2:(a0u .f64 .f32 (a9N (fAt f 1) (fAt f 2)).2.1).1=true:=a3J _;have e1:=a4G (a2g f);have k1:K45 (a2g f,())=true:=isS e1;have g1:G45 (a2g f,())=(a1K (a2g f),()):=gtS e1;have e2:=e4S Y.wd (a2g f);have k2:f5P (Y.wd,a2g f,1056964608,())=true:=isS e2;have g2:e2H (Y.wd,a2g f,1056964608,())=a1C Y.wd (a2g f):=gtS e2;have e3:=a4G (a1C Y.wd (a2g f)).1;have k3:K45 ((a1C Y.wd (a2g f)).1,())=true:=isS e3;have g3:G45 ((a1C Y.wd (a2g f)).1,())=(a1K (a1C Y.wd (a2g f)).1,()):=gtS e3;have he1:=d0C f (Y.setWd (a2g f)) (h.wd' _) (by omega) (.inr hs);have he2:=d0C f (Y.setWd (a1C Y.wd (a2g f)).1) (h.wd' _) (by omega) (.inr hs);unfold c2M b7C;rw[t1,t2,t3,n1,n2];have hx:a7O (a9N (fAt f 1) (fAt f 2))=a2g f:=rfl;rw[hx,k1,g1,k2,g2,k3,g3,he1,he2];have hcalm:(feq FloatKind.f32 Y.wd.1 0&&feq FloatKind.f32 Y.wd.2 0)=a6T Y.wd:=rfl;rw[hcalm];cases (a9N (fAt f 1) (fAt f 2)).2.2.1
 ·rfl
 ·cases a1K (a2g f)
  ·rfl
  ·cases a6T Y.wd
   ·cases (a1C Y.wd (a2g f)).2.1
    ·rfl
    ·cases a1K (a1C Y.wd (a2g f)).1<;>rfl
   ·rfl
theorem e5i (f:List ByteArray) (Y:Yv) (h:YM Y) (hc:isC f 2 a9u=true):c2N f Y prY=some (b7D f Y):=by
 obtain⟨hl,hs⟩:=c3e hc;have hlen:=a4h h;have e8:=c9V Y;have k8:K19 (Y,())=true:=isS e8;have g8:G19 (Y,())=a2k Y:=gtS e8;have e1:e9Q (Y.sails,fAt f 1,())=some (a2p Y.sails (fAt f 1),()):=c7P Y.sails (fAt f 1) (by omega);have k1:e6g (Y.sails,fAt f 1,())=true:=isS e1;have g1:c6S (Y.sails,fAt f 1,())=(a2p Y.sails (fAt f 1),()):=gtS e1;have k2:e2I (at' Y.sails (a2p Y.sails (fAt f 1)).toNat,(a2k Y).1,())=true:=by unfold e2I;rw[b6C];rfl
 have g2:e2J (at' Y.sails (a2p Y.sails (fAt f 1)).toNat,(a2k Y).1,())=(a4d (at' Y.sails (a2p Y.sails (fAt f 1)).toNat) (a2k Y).1,()):=by unfold e2J;rw[b6C];rfl
 have he:=d0D f (Y.setSl (a2p Y.sails (fAt f 1))) (by omega) a9u hs (by decide +kernel) (by decide +kernel);have hlt:a2p Y.sails (fAt f 1)<(Y.sails.length:Int):=by
  unfold a2p;cases hf:a0s (fun i=>a0O (at' Y.sails i).1 (fAt f 1)) 0 Y.sails.length with
  |none=>show(-1:Int)<_;omega
  |some j=>have:=(a1I hf).2.1;show(j:Int)<_;omega
 have ha:∀k,getD Y.sails k (zero S68)=at' Y.sails k:=fun _=>rfl
 unfold c2N b7D;rw[ix1 (by omega),k1,k8,g1,g8];dsimp only;rw[ha,k2,g2,he];cases a0O (fAt f 1) b0a
 ·by_cases h0:a2p Y.sails (fAt f 1)<0
  ·rw[decide_eq_true h0];rfl
  ·have d1:decide (0<=a2p Y.sails (fAt f 1))=true:=decide_eq_true (by omega);rw[decide_eq_false h0,d1,decide_eq_true hlt];cases (a2k Y).2.1
   ·rfl
   ·cases a4d (at' Y.sails (a2p Y.sails (fAt f 1)).toNat) (a2k Y).1<;>rfl
 ·rfl
theorem f4a (f:List ByteArray) (Y:Yv) (hc:isC f 3 c9S=true) (hz:∀k,(fAt f k).size<=1000):e6G f Y prY=some (e5g f Y):=by
 obtain⟨hl,hs⟩:=c3e hc;obtain⟨t1,t2,t3⟩:=e0p hl hz;have e1:=d0d (d0B f);have k1:K23 (d0B f,())=true:=isS e1;have g1:G23 (d0B f,())=a0S (d0B f):=gtS e1;have he:=d0D f (Y.setPs (d0B f)) (by omega) c9S hs (by decide +kernel) (by decide +kernel);unfold e6G e5g;rw[t1,t2,t3];have hx:((a9N (fAt f 1) (fAt f 2)).1,(a9N (fAt f 1) (fAt f 2)).2.1)=d0B f:=rfl;rw[hx,k1,g1,he];cases (a9N (fAt f 1) (fAt f 2)).2.2.1
 ·rfl
 ·cases (a0S (d0B f)).2.1<;>rfl
theorem e0q (f:List ByteArray) (Y:Yv) (h:YM Y) (n:Int) (s:Nat) (hn:n<=3600) (ht:0<=Y.tm /\ Y.tm<=10000000) (hl:f.length=2) (hs:a0O (fAt f 0) sGo=true) (hsp:goS Y=s) (t:Int) (het:t=Y.tm+n) :
 b7q f Y n t s prY=some (bif (goR n Y).2.1&&(a0S (goR n Y).1).2.1 then(true,Y.setGo t (goR n Y).1 (Y.tk++[((a0S (goR n Y).1).1,t,())]))else(false,Y)):=by
 have e1:e2L (Y.ps,Y.tm,[((Y.hd,s,n,()):Den a2z)],Y.1.2.1,())=some (goR n Y):=by
  unfold goR;rw[hsp];exact e4M Y.ps Y.tm (Y.hd,s,n,()) Y.1.2.1 h.boat.2.1 ht.1 (by omega) hn
 have k1:f6j (Y.ps,Y.tm,set (replicate 1 (zero a2z)) 0 (Y.hd,s,n,()),Y.1.2.1,())=true:=by
  show(e2L (Y.ps,Y.tm,[((Y.hd,s,n,()):Den a2z)],Y.1.2.1,())).isSome=true;rw[e1];rfl
 have g1:d8J (Y.ps,Y.tm,set (replicate 1 (zero a2z)) 0 (Y.hd,s,n,()),Y.1.2.1,())=goR n Y:=by
  show(e2L (Y.ps,Y.tm,[((Y.hd,s,n,()):Den a2z)],Y.1.2.1,())).getD _=_;rw[e1];rfl
 have e2:=d0d (goR n Y).1;have k2:K23 ((goR n Y).1,())=true:=isS e2;have g2:G23 ((goR n Y).1,())=a0S (goR n Y).1:=gtS e2;have hcap:a0j (length Y.tk+1)=true:=a0r (by have:=h.tk;omega);have he:=d0D f (Y.setGo t (goR n Y).1 (Y.tk++[((a0S (goR n Y).1).1,t,())])) (by omega) sGo hs (by decide +kernel) (by decide +kernel);unfold b7q;rw[k1,g1,k2,g2,hcap,he];cases (goR n Y).2.1
 ·rfl
 ·cases (a0S (goR n Y).1).2.1<;>rfl
theorem g4Y (f:List ByteArray) (Y:Yv) (h:YM Y) (hc:isC f 2 sGo=true) (ht:0<=Y.tm /\ Y.tm<=10000000):goK f Y prY=some (goW f Y):=by
 obtain⟨hl,hs⟩:=c3e hc;unfold goK goW;rw[ix1 (by omega),uK,uG];dsimp only;generalize uI (fAt f 1)=n;have e2:F44 (n,1,3600,())=some (inB n 1 3600,()):=a3r _;have k2:K44 (n,1,3600,())=true:=isS e2;have g2:G44 (n,1,3600,())=(inB n 1 3600,()):=gtS e2;have e3:=e0g Y;have k3:K57 (Y,())=true:=isS e3;have g3:G57 (Y,())=(a1P Y,()):=gtS e3;rw[k2,g2,k3,g3];unfold goV;cases uB (fAt f 1)
 ·rfl
 cases hin:inB n 1 3600 with
 |false=>rfl
 | true =>
   have hin':=hin;unfold inB at hin';simp only[and_eq_true,decide_eq_true_eq]at hin';have w1:IntKind.i64.wrap (Y.tm+n)=Y.tm+n:=w64 (by omega) (by omega);rw[w1];cases decide (Y.tm+n>10000000)
   ·cases decide ((Y.tk.length:Int) ≥ 200)
    ·cases hsl:decide (Y.sl ≥ 0)with
     |false=>exact e0q f Y h n 0 hin'.2 ht hl hs (by unfold goS;rw[hsl];rfl) _ rfl
     |true=>exact e0q f Y h n (a1P Y) hin'.2 ht hl hs (by unfold goS;rw[hsl];rfl) _ rfl
    ·rfl
   ·rfl
theorem d5a (f:List ByteArray) (Y:Yv) (h:YM Y) (hz:∀k,(fAt f k).size<=1000) (ht:0<=Y.tm /\ Y.tm<=10000000):d4I f Y=some (a3P f Y):=by
 unfold d4I c2O a3P;have c2:∀(s:ByteArray) (a b:Option (Bool×Yv)),b0b f 2 s a b=bif isC f 2 s then a else b:=fun s a b=>d0E f 2 (by decide) s a b
 have c3:∀(s:ByteArray) (a b:Option (Bool×Yv)),b0b f 3 s a b=bif isC f 3 s then a else b:=fun s a b=>d0E f 3 (by decide) s a b
 rw[c2,c3,c2,c3,c2];cases c1:isC f 2 a3I with
 |true=>exact d4Z f Y h c1
 |false=>
 cases c1:isC f 3 a7t with
 |true=>exact e5h f Y h c1 hz
 |false=>
 cases c1:isC f 2 a9u with
 |true=>exact e5i f Y h c1
 |false=>
 cases c1:isC f 3 c9S with
 |true=>exact f4a f Y c1 hz
 |false=>
 cases c1:isC f 2 sGo with
 |true=>exact g4Y f Y h c1 ht
 |false=>rfl
end Go.Proofs.YtjomnmoekchfeaaGreatDoor.AM
