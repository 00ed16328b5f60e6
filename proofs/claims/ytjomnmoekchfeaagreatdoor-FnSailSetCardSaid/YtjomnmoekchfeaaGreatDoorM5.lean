/- Texts of one proof, joined: an abstract machine for the program, its functions evaluated, plain lemmas. Conditions: those that each lemma names. -/
import Derived.Test.YtjomnmoekchfeaaGreatDoorM4
import Derived.Test.YtjomnmoekchfeaaGreatDoorM3
set_option linter.unusedVariables false
set_option linter.unusedSimpArgs false
namespace Go.Proofs.YtjomnmoekchfeaaGreatDoor.AM
open IntKind (wrap)
open List (length replicate getD set length_append length_replicate length_set)
open Int (toNat toNat_natCast)
open Option (getD_some isSome_some)
open Bool (and_eq_true)
open FloatKind (nearest)
open Nat (beq zero_le)
open Go Go.Proofs
set_option exponentiation.threshold 2000
theorem e0B (neg:Bool) (M c v:Nat) (h0:0<M) (h:M*2^c=v*2^1074) (hv53:v<2^53) :
 ∃K e:Nat,Ieee.double.nearest neg M ((c:Int)-1074)=Ieee.double.word neg (e*2^52+K) /\ e*2^52+K<2047*2^52 /\ ((e=0 /\ K<=2^53)∨(2^52<=K /\ K<=2^53)) /\ K*2^e=M*2^c:=by
 have l1:2^M.log2<=M:=Nat.log2_self_le (by omega);have l2:M<2^(M.log2+1):=Nat.lt_log2_self;have hlc:M.log2+c<1127:=by
  have h1:2^(M.log2+c)<=M*2^c:=by rw[Nat.pow_add];exact Nat.mul_le_mul_right _ l1
  have h2:v*2^1074<2^(53+1074):=by
   rw[Nat.pow_add 2 53 1074];exact Nat.mul_lt_mul_of_pos_right hv53 (Nat.two_pow_pos _)
  rw[<- h]at h2;exact(Nat.pow_lt_pow_iff_right (a:=2) (by decide)).1 (Nat.lt_of_le_of_lt h1 h2)
 unfold Ieee.Format.nearest;rw[if_neg (by omega),g3v,e7c,c3F,c3E];dsimp only;generalize hL:M.log2=L at *;by_cases hs:L<=52
 ·
  by_cases hd:L+c<52
  ·have hlast:max ((c:Int)-1074+(L:Int)-(52:Nat)) (-1074)=-1074:=by omega
   rw[hlast];have e1:((c:Int)-1074 - -1074).toNat=c:=by omega
   have e2:(-1074-((c:Int)-1074)).toNat=0:=by omega
   have e3:((-1074:Int) - -1074).toNat=0:=by decide
   rw[e1,e2,e3,a4D,Nat.shiftLeft_eq];have hk:M*2^c<2^53:=by
    calc M*2^c<2^(L+1)*2^c:=Nat.mul_lt_mul_of_pos_right l2 (Nat.two_pow_pos _)
     _=2^(L+1+c):=by rw[<- Nat.pow_add]
     _<=2^53:=Nat.pow_le_pow_right (by decide) (by omega)
   have hx:0*2^52+M*2^c<2047*2^52:=by rw[Nat.zero_mul,Nat.zero_add];exact Nat.lt_trans hk (by decide)
   refine⟨M*2^c,0,?_,hx,.inl ⟨Eq.refl 0,Nat.le_of_lt hk⟩,?_⟩
   ·rw[Nat.min_eq_left (Nat.le_of_lt hx)]
   ·rw[Nat.pow_zero,Nat.mul_one]
  ·have hlast:max ((c:Int)-1074+(L:Int)-(52:Nat)) (-1074)=(c:Int)-1074+(L:Int)-52:=by omega
   rw[hlast];have e1:((c:Int)-1074-((c:Int)-1074+(L:Int)-52)).toNat=52-L:=by omega
   have e2:(((c:Int)-1074+(L:Int)-52)-((c:Int)-1074)).toNat=0:=by omega
   have e3:(((c:Int)-1074+(L:Int)-52) - -1074).toNat=c+L-52:=by omega
   rw[e1,e2,e3,a4D,Nat.shiftLeft_eq];have hk1:M*2^(52-L)<2^53:=by
    calc M*2^(52-L)<2^(L+1)*2^(52-L):=Nat.mul_lt_mul_of_pos_right l2 (Nat.two_pow_pos _)
     _=2^(L+1+(52-L)):=by rw[<- Nat.pow_add]
     _=2^53:=by congr 1;omega
   have hk2:2^52<=M*2^(52-L):=by
    calc 2^52=2^(L+(52-L)):=by congr 1;omega
     _=2^L*2^(52-L):=by rw[<- Nat.pow_add]
     _<=M*2^(52-L):=Nat.mul_le_mul_right _ l1
   have hv:M*2^(52-L)*2^(c+L-52)=M*2^c:=by
    rw[Nat.mul_assoc,<- Nat.pow_add];congr 2;omega
   refine⟨M*2^(52-L),c+L-52,?_,by generalize M*2^(52-L)=q at *;clear l1 l2;omega,.inr ⟨hk2,Nat.le_of_lt hk1⟩,hv⟩;rw[Nat.min_eq_left (by omega)]
 ·
  have hlast:max ((c:Int)-1074+(L:Int)-(52:Nat)) (-1074)=(c:Int)-1074+(L:Int)-52:=by omega
  rw[hlast];have e1:((c:Int)-1074-((c:Int)-1074+(L:Int)-52)).toNat=0:=by omega
  have e2:(((c:Int)-1074+(L:Int)-52)-((c:Int)-1074)).toNat=L-52:=by omega
  have e3:(((c:Int)-1074+(L:Int)-52) - -1074).toNat=c+L-52:=by omega
  rw[e1,e2,e3,Nat.shiftLeft_zero];have hdvd:2^(L-52) ∣ M:=by
   have h1:2^(L-52)*2^c ∣ M*2^c:=by
    rw[h,<- Nat.pow_add];exact Nat.dvd_trans (Nat.pow_dvd_pow 2 (by omega)) (Nat.dvd_mul_left _ _)
   exact Nat.dvd_of_mul_dvd_mul_right (Nat.two_pow_pos c) h1
  have hm0:M%2^(L-52)=0:=Nat.mod_eq_zero_of_dvd hdvd;have hg:0<2^(L-52):=Nat.two_pow_pos _;have hcut:Ieee.Toward.even.cut neg M (L-52)=M/2^(L-52):=by
   unfold Ieee.Toward.cut;dsimp only;rw[hL,Nat.min_eq_left (by omega),Nat.one_shiftLeft,hm0];simp
  rw[hcut];have hq1:M/2^(L-52)<2^53:=by
   rw[Nat.div_lt_iff_lt_mul hg,<- Nat.pow_add];have:53+(L-52)=L+1:=by omega
   rw[this];exact l2
  have hq2:2^52<=M/2^(L-52):=by
   rw[Nat.le_div_iff_mul_le hg,<- Nat.pow_add];have:52+(L-52)=L:=by omega
   rw[this];exact l1
  have hdm:=Nat.div_add_mod M (2^(L-52));rw[hm0,Nat.add_zero]at hdm;generalize M/2^(L-52)=q at *;have hp:2^(c+L-52)=2^(L-52)*2^c:=by
   rw[<- Nat.pow_add];congr 1;omega
  refine⟨q,c+L-52,?_,by omega,.inr ⟨by omega,by omega⟩,?_⟩
  ·rw[Nat.min_eq_left (by omega)]
  ·rw[hp,<- Nat.mul_assoc,Nat.mul_comm q,hdm]
theorem f6V:Ieee.single.signWeight=2^31:=by decide
theorem e0C:Ieee.single.infRung=255*2^23:=by decide
theorem e0D:Ieee.single.binade=2^23:=by decide
theorem f3B:Ieee.single.leastPlace=-149:=by decide
theorem g4N:Ieee.single.fractionBits=23:=by decide
def Sz (b:Nat) (N:Int):Prop:=∃s m e,Ieee.single.read b = .number s m e /\ (m.log2:Int)+e<=N /\ -149<=e
theorem Sz.mono {b:Nat} {N M:Int} (h:Sz b N) (hM:N<=M):Sz b M:=by
 obtain⟨s,m,e,h1,h2,h3⟩:=h;exact⟨s,m,e,h1,by omega,h3⟩
theorem d4L {M k:Nat} (h:M<2^(k+1)):M.log2<=k:=by
 rcases Nat.eq_zero_or_pos M with h0|h0
 ·subst h0;simp
 ·have:=Nat.log2_self_le (n:=M) (by omega);have h2:=Nat.lt_of_le_of_lt this h;have:=(Nat.pow_lt_pow_iff_right (a:=2) (by decide)).1 h2;omega
theorem d4M (neg:Bool) (M d k:Nat) (h:M<2^(k+d)):Ieee.Toward.even.cut neg M d<=2^k:=by
 unfold Ieee.Toward.cut;dsimp only;rw[Nat.one_shiftLeft];by_cases hd:d<=M.log2+2
 ·rw[Nat.min_eq_left hd];have h1:M/2^d<2^k:=by rw[Nat.div_lt_iff_lt_mul (Nat.two_pow_pos _),<- Nat.pow_add];exact h
  generalize (decide (2^d<2*(M%2^d))||(2^d==2*(M%2^d)&&M/2^d%2==1))=b;cases b<;>simp<;>omega
 ·rw[Nat.min_eq_right (by omega)];have h0:M<2^(M.log2+2):=Nat.lt_trans Nat.lt_log2_self (Nat.pow_lt_pow_right (by decide) (by omega));have h1:M/2^(M.log2+2)=0:=Nat.div_eq_of_lt h0;rw[h1];have hk:=Nat.two_pow_pos k;generalize (decide (2^(M.log2+2)<2*(M%2^(M.log2+2)))||(2^(M.log2+2)==2*(M%2^(M.log2+2))&&0%2==1))=b;cases b<;>simp<;>omega
theorem d4N (neg:Bool) (r:Nat) (h:r<255*2^23):Ieee.single.read (Ieee.single.word neg r)=if r<2^23 then .number neg r (-149)else .number neg (2^23+r%2^23) (-149+((r/2^23-1:Nat):Int)):=by
 have hr:Ieee.single.word neg r%Ieee.single.signWeight=r:=by
  unfold Ieee.Format.word;rw[f6V];split<;>omega
 have hn:(Ieee.single.word neg r/Ieee.single.signWeight%2==1)=neg:=by
  unfold Ieee.Format.word;rw[f6V];cases neg
  ·rw[if_neg (by decide)];have:r/2^31=0:=Nat.div_eq_of_lt (by omega);rw[this];rfl
  ·rw[if_pos rfl];have:(2^31+r)/2^31=1:=by omega
   rw[this];rfl
 unfold Ieee.Format.read;dsimp only;rw[hr,hn,e0D,e0C,f3B];by_cases c:r<2^23
 ·rw[if_pos c,if_pos c]
 ·rw[if_neg c,if_neg c,if_pos h]
theorem e7f (neg:Bool) (M:Nat) (p N:Int) (h:(M.log2:Int)+p<=N) (hN:N<=126) (hN2:-126<=N):Sz (Ieee.single.nearest neg M p) (N+1):=by
 have fin:∀r:Nat,(r:Int)<=(N+126)*2^23+2^24->Sz (Ieee.single.word neg r) (N+1):=by
  intro r hr;have hlt:r<255*2^23:=by omega
  have:=d4N neg r hlt;by_cases c:r<2^23
  ·rw[if_pos c]at this;refine⟨_,_,_,this,?_,Int.le_refl _⟩;have:=d4L (k:=22) c;omega
  ·rw[if_neg c]at this;refine⟨_,_,_,this,?_,by omega⟩;have h1:(2^23+r%2^23).log2<=23:=d4L (k:=23) (by have:=Nat.mod_lt r (show 2^23>0 by decide);omega);have h2:((r/2^23:Nat):Int)<=N+128:=by omega
   omega
 unfold Ieee.Format.nearest;by_cases h0:M=0
 ·rw[if_pos h0];exact fin 0 (by omega)
 ·rw[if_neg h0,g4N,f3B,e0D,e0C];dsimp only;have l2:M<2^(M.log2+1):=Nat.lt_log2_self;generalize hL:M.log2=L at *;obtain⟨last,hlast⟩:∃last,last=max (p+(L:Int)-(23:Nat)) (-149):=⟨_,rfl⟩;rw[<- hlast];have hl1:p+(L:Int)-23<=last:=by omega
  have hl2:-149<=last:=by omega
  have hl3:last<=N-23:=by omega
  have hcut:Ieee.Toward.even.cut neg (M <<< (p-last).toNat) (last-p).toNat<=2^24:=by
   refine d4M _ _ _ 24 ?_;rw[Nat.shiftLeft_eq];have h1:M*2^(p-last).toNat<2^(L+1+(p-last).toNat):=by rw[Nat.pow_add];exact Nat.mul_lt_mul_of_pos_right l2 (Nat.two_pow_pos _)
   exact Nat.lt_of_lt_of_le h1 (Nat.pow_le_pow_right (by decide) (by omega))
  generalize Ieee.Toward.even.cut neg (M <<< (p-last).toNat) (last-p).toNat=K at hcut;have hk:(((last - -149).toNat*2^23+K:Nat):Int)<=(N+126)*2^23+2^24:=by omega
  exact fin _ (Int.le_trans (Int.ofNat_le.2 (Nat.min_le_left _ _)) hk)
theorem d4O:Ieee.double.read 0 = .number false 0 (-1074):=by decide
def g4O (d:Ieee.Datum):Ieee.Datum:=match d with
 |.number _ m e => .number false m e
 |.infinity _ => .infinity false
 |.nan _ f => .nan false f
theorem c6z (a:Nat):Ieee.double.read (a%2^63)=g4O (Ieee.double.read a):=by
 unfold Ieee.Format.read;dsimp only;rw[e9i];have e1:a%2^63%2^63=a%2^63:=Nat.mod_mod _ _;have e2:(a%2^63/2^63%2==1)=false:=by
  have:a%2^63/2^63=0:=Nat.div_eq_of_lt (Nat.mod_lt _ (by decide));rw[this];rfl
 rw[e1,e2];split
 ·rfl
 ·split
  ·rfl
  ·split<;>rfl
theorem c6A (a:Nat):Ieee.double.read (a3G .f64 a)=(Ieee.double.read a).opposite:=by
 have hf:a3G .f64 a=a ^^^ 2^63:=rfl;rw[hf];unfold Ieee.Format.read;dsimp only;rw[e9i];have e1:(a ^^^ 2^63)%2^63=a%2^63:=by rw[Nat.xor_mod_two_pow,Nat.mod_self,Nat.xor_zero]
 have e2:((a ^^^ 2^63)/2^63%2==1)=!(a/2^63%2==1):=by
  rw[Nat.xor_div_two_pow,Nat.div_self (by decide)];have h1:(a/2^63 ^^^ 1)%2=(a/2^63%2) ^^^ 1:=by
   have:=Nat.xor_mod_two_pow (a:=a/2^63) (b:=1) (n:=1);simpa using this
  rw[h1];rcases Nat.mod_two_eq_zero_or_one (a/2^63)with h|h<;>rw[h]<;>rfl
 rw[e1,e2];split
 ·rfl
 ·split
  ·rfl
  ·split<;>rfl
def d7g (a:Nat):Nat:=bif flt .f64 a 0 then a3G .f64 a else a
theorem d4P (a c:Nat):FloatKind.f64.format.order (d7g a) c=FloatKind.f64.format.order (a%2^63) c:=by
 show(Ieee.double.read (d7g a)).order (Ieee.double.read c)=(Ieee.double.read (a%2^63)).order (Ieee.double.read c);rw[c6z];have h0:flt .f64 a 0=((Ieee.double.read a).order (Ieee.double.read 0)==some .lt):=rfl;unfold d7g;rw[h0,d4O];generalize Ieee.double.read c=d;cases hr:Ieee.double.read a with
 | nan s f =>
   have:((Ieee.Datum.nan s f).order (.number false 0 (-1074))==some Ordering.lt)=false:=rfl;rw[this,cond_false,hr];cases d<;>rfl
 | infinity s =>
   cases s with
   | true =>
     have:((Ieee.Datum.infinity true).order (.number false 0 (-1074))==some Ordering.lt)=true:=rfl;rw[this,cond_true,c6A,hr];rfl
   | false =>
     have:((Ieee.Datum.infinity false).order (.number false 0 (-1074))==some Ordering.lt)=false:=rfl;rw[this,cond_false,hr];rfl
 | number s m e =>
   cases s with
   | false =>
     have h1:((Ieee.Datum.number false m e).order (.number false 0 (-1074))==some Ordering.lt)=false:=by
      unfold Ieee.Datum.order Ieee.signed;simp only[Bool.false_eq_true,if_false,Nat.zero_shiftLeft];have:∀x:Nat,(some (compare ((x:Nat):Int) ((0:Nat):Int))==some Ordering.lt)=false:=by
       intro x;rw[Int.compare_eq_ite_lt,if_neg (by omega)];split<;>rfl
      exact this _
     rw[h1,cond_false,hr];rfl
   | true =>
     cases h1:((Ieee.Datum.number true m e).order (.number false 0 (-1074))==some Ordering.lt)with
     |true=>rw[cond_true,c6A,hr];rfl
     | false =>
       rw[cond_false,hr];have hm:m=0:=by
        unfold Ieee.Datum.order Ieee.signed at h1;simp only[if_true,Bool.false_eq_true,if_false,Nat.zero_shiftLeft,Nat.shiftLeft_eq]at h1;rcases Nat.eq_zero_or_pos m with h|h
        ·exact h
        ·exfalso;have hp:=Nat.mul_pos h (Nat.two_pow_pos (e-min e (-1074)).toNat);rw[Int.compare_eq_ite_lt,if_pos (by omega)]at h1;cases h1
       subst hm;unfold g4O;cases d with
       | number t n j =>
         unfold Ieee.Datum.order Ieee.signed;simp
       |infinity t=>rfl
       |nan t f=>rfl
def le8 (a:Nat):Bool:=flt .f64 a 4726483295884279808||feq .f64 a 4726483295884279808
theorem d4Q (a:Nat):le8 (d7g a)=le8 (a%2^63):=by
 unfold le8 flt feq;rw[d4P]
def a4u (z:Nat×Nat):Bool:=le8 (z.1%2^63)&&le8 (z.2%2^63)
theorem a9v (z:Nat×Nat):F61 (z,())=some (a4u z,()):=by
 unfold F61 r61 a4u;simp only[f4C,f4D,cond_true];show(bif le8 (z.1%2^63)then some (le8 (z.2%2^63),())else some (false,()))=_;cases le8 (z.1%2^63)<;>rfl
theorem d4R (a:Nat):e8T (a,())=some (d7g a,()):=by
 unfold e8T f7S d7g;cases flt .f64 a 0<;>rfl
theorem c6B (z:Nat×Nat):F96 (z,())=some (a4u z,()):=by
 unfold F96 r96 a4u;have e1:e8T (z.1,())=some (d7g z.1,()):=d4R z.1;have e2:e8T (z.2,())=some (d7g z.2,()):=d4R z.2;simp only[f4K,f4L,e1,e2,isSome_some,getD_some,cond_true];show(bif le8 (d7g z.1)then some (le8 (d7g z.2),())else some (false,()))=_;rw[d4Q,d4Q];cases le8 (z.1%2^63)<;>rfl
def p2 (e:Int):Rat:=(2:Rat)^e
theorem a1f (e:Int):0<p2 e:=Rat.zpow_pos (by decide)
theorem a1E (a b:Int):p2 (a+b)=p2 a*p2 b:=Rat.zpow_add (by decide) a b
theorem a1K (n:Nat):p2 (n:Int)=((2^n:Nat):Rat):=by
 unfold p2;rw[Rat.zpow_natCast,Rat.natCast_pow];rfl
theorem c8L (n:Nat):1<=p2 (n:Int):=by
 rw[a1K];have:1<=2^n:=Nat.one_le_two_pow
 exact_mod_cast this
theorem c1A {a b:Int} (h:a<=b):p2 a<=p2 b:=by
 have e:b=a+((b-a).toNat:Int):=by omega
 rw[e,a1E];have h1:=c8L (b-a).toNat;have h2:=a1f a;generalize p2 ((b-a).toNat:Int)=y at *;generalize p2 a=x at *;have:=Rat.mul_nonneg (Rat.le_of_lt h2) (show 0<=y-1 by grind);grind
theorem b1R {a b:Int} (h:p2 a<p2 b):a<b:=by
 apply Classical.byContradiction;intro hn;have:=c1A (show b<=a by omega);grind
theorem a5Q (a:Int):p2 (a+1)=2*p2 a:=by
 rw[a1E];have:p2 1=2:=by unfold p2;rw[Rat.zpow_one]
 rw[this];grind
theorem a0R {a b:Nat} (h:a<=b):(a:Rat)<=(b:Rat):=Rat.natCast_le_natCast.2 h
theorem a1h {a b c:Rat} (h:a<=b) (hc:0<=c):a*c<=b*c:=Rat.mul_le_mul_of_nonneg_right h hc
theorem a2L (a:Nat):(0:Rat)<=(a:Rat):=by
 have:=a0R (zero_le a);simpa using this
def sgR (s:Bool):Rat:=if s then -1 else 1
def RV (s:Bool) (m:Nat) (e:Int):Rat:=sgR s*(m:Rat)*p2 e
def IsR (w:Nat) (q:Rat):Prop:=∃(s:Bool) (m:Nat) (e:Int),Ieee.double.read w = .number s m e /\ -1074<=e /\ q=RV s m e
def b3u (a b ε:Rat):Prop:=a<=b+ε /\ b<=a+ε
theorem c6C (neg:Bool) (N d:Nat):2*(Ieee.Toward.even.cut neg N d*2^d)<=2*N+2^d /\ 2*N<=2*(Ieee.Toward.even.cut neg N d*2^d)+2^d:=by
 unfold Ieee.Toward.cut;dsimp only;rw[Nat.one_shiftLeft];by_cases hd:d<=N.log2+2
 ·rw[Nat.min_eq_left hd];have h1:=Nat.div_add_mod N (2^d);have h2:=Nat.mod_lt N (Nat.two_pow_pos d);generalize hb:(decide (2^d<2*(N%2^d))||(2^d==2*(N%2^d)&&N/2^d%2==1))=b;have hg:b=true->2^d<=2*(N%2^d):=by
   intro h;rw[h]at hb;simp only[Bool.or_eq_true,decide_eq_true_eq,and_eq_true,beq_iff_eq]at hb;omega
  have hl:b=false->2*(N%2^d)<=2^d:=by
   intro h;rw[h]at hb;simp only[Bool.or_eq_false_iff,decide_eq_false_iff_not]at hb;omega
  generalize 2^d=g at *;generalize N/g=q at *;generalize N%g=r at *;have e1:q*g=g*q:=Nat.mul_comm _ _;cases b
  ·have:=hl rfl;simp only[Bool.toNat_false,Nat.add_zero];omega
  ·have:=hg rfl;simp only[Bool.toNat_true,Nat.add_mul,Nat.one_mul];omega
 ·rw[Nat.min_eq_right (by omega)];have h0:N<2^(N.log2+1):=Nat.lt_log2_self;have h00:2^(N.log2+2)=2*2^(N.log2+1):=by rw[Nat.pow_succ];omega
  have h1:N/2^(N.log2+2)=0:=Nat.div_eq_of_lt (by omega);have h2:N%2^(N.log2+2)=N:=Nat.mod_eq_of_lt (by omega);have h3:2^(N.log2+2)<=2^d:=Nat.pow_le_pow_right (by decide) (by omega);rw[h1,h2];have:(decide (2^(N.log2+2)<2*N)||(2^(N.log2+2)==2*N&&0%2==1))=false:=by
   simp only[Bool.or_eq_false_iff,decide_eq_false_iff_not,Bool.and_eq_false_iff];exact⟨by omega,.inr rfl⟩
  rw[this];simp only[Bool.toNat_false,Nat.add_zero,Nat.zero_mul];omega
theorem e3V (neg:Bool) (N d k:Nat) (h:2^(k+d)<=N):2^k<=Ieee.Toward.even.cut neg N d:=by
 unfold Ieee.Toward.cut;dsimp only;rw[Nat.one_shiftLeft];have hd:d<=N.log2+2:=by
  have h1:N<2^(N.log2+1):=Nat.lt_log2_self;have:=(Nat.pow_lt_pow_iff_right (a:=2) (by decide)).1 (Nat.lt_of_le_of_lt h h1);omega
 rw[Nat.min_eq_left hd];have h1:2^k<=N/2^d:=by rw[Nat.le_div_iff_mul_le (Nat.two_pow_pos _),<- Nat.pow_add];exact h
 exact Nat.le_trans h1 (Nat.le_add_right _ _)
theorem a7V (neg:Bool):IsR (Ieee.double.word neg 0) 0:=by
 refine⟨neg,0,-1074,?_,Int.le_refl _,?_⟩
 ·cases neg<;>decide
 ·unfold RV;grind
theorem e0E (neg:Bool) (M:Nat) (p B:Int) (h0:M≠0) (hB:(M.log2:Int)+p<=B) (h1:-1022<=B) (h2:B<=1022) :
 ∃r,IsR (Ieee.double.nearest neg M p) r /\ b3u r (RV neg M p) (p2 (B-53)):=by
 unfold Ieee.Format.nearest;rw[if_neg h0,g3v,e7c,c3F,c3E];dsimp only;have l1:2^M.log2<=M:=Nat.log2_self_le h0;have l2:M<2^(M.log2+1):=Nat.lt_log2_self;generalize hL:M.log2=L at *;obtain⟨last,hlast⟩:∃last,last=max (p+(L:Int)-(52:Nat)) (-1074):=⟨_,rfl⟩;rw[<- hlast];have hl1:p+(L:Int)-52<=last:=by omega
 have hl2:-1074<=last:=by omega
 have hl3:last<=B-52:=by omega
 have hl4:last=p+(L:Int)-52∨last=-1074:=by omega
 obtain⟨up,hup⟩:∃up,up=(p-last).toNat:=⟨_,rfl⟩;obtain⟨d,hd⟩:∃d,d=(last-p).toNat:=⟨_,rfl⟩;rw[<- hup,<- hd,Nat.shiftLeft_eq];have hle:Ieee.Toward.even.cut neg (M*2^up) d<=2^53:=by
  refine d4M _ _ _ 53 ?_;have:M*2^up<2^(L+1+up):=by rw[Nat.pow_add];exact Nat.mul_lt_mul_of_pos_right l2 (Nat.two_pow_pos _)
  exact Nat.lt_of_lt_of_le this (Nat.pow_le_pow_right (by decide) (by omega))
 have hge:last ≠ -1074->2^52<=Ieee.Toward.even.cut neg (M*2^up) d:=by
  intro hne;refine e3V _ _ _ 52 ?_;have:2^(L+up)<=M*2^up:=by rw[Nat.pow_add];exact Nat.mul_le_mul_right _ l1
  exact Nat.le_trans (Nat.pow_le_pow_right (by decide) (by omega)) this
 have hnear:=c6C neg (M*2^up) d;have hexact:d=0->Ieee.Toward.even.cut neg (M*2^up) d=M*2^up:=fun e=>by rw[e,a4D]
 generalize Ieee.Toward.even.cut neg (M*2^up) d=K at *;obtain⟨e,he⟩:∃e,e=(last - -1074).toNat:=⟨_,rfl⟩;rw[<- he];have hrung:e*2^52+K<2047*2^52:=by omega
 rw[Nat.min_eq_left (Nat.le_of_lt hrung)];obtain⟨m,c,hr,hm⟩:=a6i neg K e hrung (by
  by_cases h:last=-1074
  ·exact .inl ⟨by omega,hle⟩
  ·exact .inr ⟨hge h,hle⟩)
 refine⟨RV neg m ((c:Int)-1074),⟨neg,m,_,hr,by omega,rfl⟩,?_⟩;have hv:RV neg m ((c:Int)-1074)=sgR neg*(K:Rat)*p2 last:=by
  have e1:(m:Rat)*p2 (c:Int)=(K:Rat)*p2 (e:Int):=by
   rw[a1K,a1K]
   exact_mod_cast congrArg (fun n:Nat=>(n:Rat)) hm
  have e2:last=(e:Int) + -1074:=by omega
  unfold RV;rw[e2,Int.sub_eq_add_neg,a1E,a1E];grind
 rw[hv];by_cases hc:last<=p
 ·have hd0:d=0:=by omega
  have hK:=hexact hd0;have e1:RV neg M p=sgR neg*(K:Rat)*p2 last:=by
   unfold RV;have e2:p=(up:Int)+last:=by omega
   rw[hK,e2,a1E,a1K,Rat.natCast_mul];grind
  rw[e1];have:=a1f (B-53);constructor<;>grind
 ·have hu0:up=0:=by omega
  rw[hu0,Nat.pow_zero,Nat.mul_one]at hnear;have e1:p2 last=((2^d:Nat):Rat)*p2 p:=by
   have:last=(d:Int)+p:=by omega
   rw[this,a1E,a1K]
  have hp:=a1f p;have n1:2*((K:Rat)*((2^d:Nat):Rat))<=2*(M:Rat)+((2^d:Nat):Rat):=by exact_mod_cast a0R hnear.1
  have n2:2*(M:Rat)<=2*((K:Rat)*((2^d:Nat):Rat))+((2^d:Nat):Rat):=by exact_mod_cast a0R hnear.2
  have m1:=a1h n1 (Rat.le_of_lt hp);have m2:=a1h n2 (Rat.le_of_lt hp);have hle2:p2 last<=2*p2 (B-53):=by
   rw[<- a5Q];exact c1A (by omega)
  unfold RV;rw[e1]at *;generalize ((2^d:Nat):Rat)=g at *;generalize (K:Rat)=k at *;generalize (M:Rat)=mm at *;generalize p2 (B-53)=ε at *;generalize p2 p=t at *;cases neg
  ·have:sgR false=1:=rfl;rw[this];constructor<;>grind
  ·have:sgR true=-1:=rfl;rw[this];constructor<;>grind
theorem a4Q (s:Bool) (e:Int):RV s 0 e=0:=by unfold RV;grind
theorem d4S (s:Bool) (m:Nat) (e:Int) {b:Rat} (h1:RV s m e<b) (h2:-b<RV s m e):(m:Rat)*p2 e<b:=by
 unfold RV at h1 h2;cases s
 ·have:sgR false=1:=rfl;rw[this]at h1;grind
 ·have:sgR true=-1:=rfl;rw[this]at h2;grind
theorem b7R (neg:Bool) (M:Nat) (p:Int) (B:Int) (h1:-1022<=B) (h2:B<=1022) (hlt:RV neg M p<p2 (B+1)) (hgt:-p2 (B+1)<RV neg M p) :
 ∃r,IsR (Ieee.double.nearest neg M p) r /\ b3u r (RV neg M p) (p2 (B-53)):=by
 by_cases h0:M=0
 ·subst h0;refine⟨0,?_,?_⟩
  ·unfold Ieee.Format.nearest;rw[if_pos rfl];exact a7V neg
  ·rw[a4Q];have:=a1f (B-53);constructor<;>grind
 ·refine e0E neg M p B h0 ?_ h1 h2;have hm:=d4S neg M p hlt hgt;have l1:((2^M.log2:Nat):Rat)<=(M:Rat):=a0R (Nat.log2_self_le h0);have l2:=a1h l1 (Rat.le_of_lt (a1f p));have:p2 ((M.log2:Int)+p)<p2 (B+1):=by
   rw[a1E,a1K];grind
  have:=b1R this;omega
theorem e7g (s t:Bool):sgR (s ^^ t)=sgR s*sgR t:=by cases s<;>cases t<;>decide +kernel
theorem e7h (s:Bool):sgR (!s)=-sgR s:=by cases s<;>decide +kernel
theorem a3R (s:Bool) (m:Nat) (e base:Int) (h:base<=e):((Ieee.signed s m (e-base).toNat:Int):Rat)*p2 base=RV s m e:=by
 unfold Ieee.signed RV;have e1:e=((e-base).toNat:Int)+base:=by omega
 rw[Nat.shiftLeft_eq];have e2:p2 e=((2^(e-base).toNat:Nat):Rat)*p2 base:=by
  have:=a1E ((e-base).toNat:Int) base;rw[<- e1,a1K]at this;exact this
 rw[e2];cases s
 ·have:sgR false=1:=rfl;rw[this,if_neg (by decide),Rat.intCast_natCast,Rat.natCast_mul];grind
 ·have:sgR true=-1:=rfl;rw[this,if_pos rfl,Rat.intCast_neg,Rat.intCast_natCast,Rat.natCast_mul];grind
theorem g6T (s t:Bool) (m n:Nat) (e f:Int) (B:Int) (h1:-1022<=B) (h2:B<=1022) (hlt:RV s m e+RV t n f<p2 (B+1)) (hgt:-p2 (B+1)<RV s m e+RV t n f) :
 ∃w r,(Ieee.Datum.sum (.number s m e) (.number t n f)).map Ieee.double.write=some w /\ IsR w r /\ b3u r (RV s m e+RV t n f) (p2 (B-53)):=by
 unfold Ieee.Datum.sum;dsimp only;have hs:=a3R s m e (min e f) (by omega);have ht:=a3R t n f (min e f) (by omega);generalize hT:Ieee.signed s m (e-min e f).toNat+Ieee.signed t n (f-min e f).toNat=T;have hT2:((T:Int):Rat)*p2 (min e f)=RV s m e+RV t n f:=by
  rw[<- hT,Rat.intCast_add,<- hs,<- ht];grind
 have hV:RV (if T=0 then s&&t else decide (T<0)) T.natAbs (min e f)=RV s m e+RV t n f:=by
  rw[<- hT2];unfold RV;by_cases c0:T=0
  ·subst c0;simp[Rat.mul_zero,Rat.zero_mul]
  ·rw[if_neg c0];by_cases c1:T<0
   ·have e1:((T:Int):Rat)=-((T.natAbs:Nat):Rat):=by
     rw[<- Rat.intCast_natCast,<- Rat.intCast_neg];congr 1;omega
    rw[e1];simp only[c1,decide_true];have:sgR true=-1:=rfl;rw[this];grind
   ·have e1:((T:Int):Rat)=((T.natAbs:Nat):Rat):=by
     rw[<- Rat.intCast_natCast];congr 1;omega
    rw[e1];simp only[c1,decide_false];have:sgR false=1:=rfl;rw[this];grind
 rw[<- hV]at hlt hgt;obtain⟨r,h3,h4⟩:=b7R _ _ _ B h1 h2 hlt hgt;rw[hV]at h4;exact⟨_,r,rfl,h3,h4⟩
theorem g6U {a b:Nat} {x y:Rat} (ha:IsR a x) (hb:IsR b y) (B:Int) (h1:-1022<=B) (h2:B<=1022) (hlt:x+y<p2 (B+1)) (hgt:-p2 (B+1)<x+y) :
 ∃r,IsR (a0g .add .f64 a b) r /\ b3u r (x+y) (p2 (B-53)):=by
 obtain⟨s,m,e,hr,he,rfl⟩:=ha;obtain⟨t,n,f,hr',hf,rfl⟩:=hb;obtain⟨w,r,h3,h4,h5⟩:=g6T s t m n e f B h1 h2 hlt hgt;have e1:a0g .add .f64 a b=(((Ieee.double.read a).sum (Ieee.double.read b)).map Ieee.double.write).getD (qn .f64):=rfl;rw[e1,hr,hr',h3];exact⟨r,h4,h5⟩
theorem e3W (s:Bool) (m:Nat) (e:Int):RV (!s) m e=-RV s m e:=by
 unfold RV;rw[e7h];grind
theorem d4T {w:Nat} {q:Rat} (h:IsR w q):∃v:Int,isD w v /\ q=(v:Rat)*p2 (-1074):=by
 obtain⟨s,m,e,hr,he,rfl⟩:=h;obtain⟨c,hc⟩:∃c:Nat,e=(c:Int)-1074:=⟨(e+1074).toNat,by omega⟩;subst hc;refine⟨VU s m c,⟨s,m,c,hr,rfl⟩,?_⟩;unfold RV VU;rw[Int.sub_eq_add_neg,a1E,a1K];cases s
 ·have:sgR false=1:=rfl;rw[this,if_neg (by decide),Rat.intCast_natCast,Rat.natCast_mul];grind
 ·have:sgR true=-1:=rfl;rw[this,if_pos rfl,Rat.intCast_neg,Rat.intCast_natCast,Rat.natCast_mul];grind
theorem e7i {v w:Int}:(v:Rat)*p2 (-1074)<(w:Rat)*p2 (-1074)↔v<w:=by
 have hp:=a1f (-1074);constructor
 ·intro h;apply Classical.byContradiction;intro hn;have:(w:Rat)<=(v:Rat):=Rat.intCast_le_intCast.2 (by omega);have:=a1h this (Rat.le_of_lt hp);grind
 ·intro h;have:(v:Rat)<(w:Rat):=Rat.intCast_lt_intCast.2 h;exact Rat.mul_lt_mul_of_pos_right this hp
theorem f3C {a b:Nat} {x y:Rat} (ha:IsR a x) (hb:IsR b y):FloatKind.f64.format.order a b=some (if x<y then .lt else if y<x then .gt else .eq):=by
 obtain⟨v,h1,rfl⟩:=d4T ha;obtain⟨w,h2,rfl⟩:=d4T hb;rw[g6S h1 h2];simp only[e7i];congr 1;rw[Int.compare_eq_ite_lt]
theorem f6W {a b:Nat} {x y:Rat} (ha:IsR a x) (hb:IsR b y):flt .f64 a b=decide (x<y):=by
 unfold flt;rw[f3C ha hb];by_cases h:x<y
 ·simp[h]
 ·by_cases h2:y<x<;>simp[h,h2]
theorem g3w {a b:Nat} {x y:Rat} (ha:IsR a x) (hb:IsR b y):fgt .f64 a b=decide (y<x):=by
 unfold fgt;rw[f3C ha hb];by_cases h:x<y
 ·have:¬y<x:=by grind
  simp[h,this]
 ·by_cases h2:y<x<;>simp[h,h2]
theorem e9j {a b:Nat} {x y:Rat} (ha:IsR a x) (hb:IsR b y):feq .f64 a b=decide (x=y):=by
 unfold feq;rw[f3C ha hb];by_cases h:x<y
 ·have:¬x=y:=by grind
  simp[h,this]
 ·by_cases h2:y<x
  ·have:¬x=y:=by grind
   simp[h,h2,this]
  ·have:x=y:=by grind
   simp[this]
abbrev a7W:Type:=List Nat×List Int×List (List Nat)×Unit
def wAt (p:a7W) (i:Nat):Nat:=p.1.getD i 0
def aAt (p:a7W) (i:Nat):Int:=p.2.1.getD i 0
def rAt (p:a7W) (i:Nat):List Nat:=p.2.2.1.getD i []
def fle (x c:Nat):Bool:=flt .f32 x c||feq .f32 x c
def fge (x c:Nat):Bool:=fgt .f32 x c||feq .f32 x c
def a3K (x:Nat):Bool:=fge x 0&&fle x 1112014848
def a9w (l:List Nat):Bool:=a0r (fun j=>a3K (l.getD j 0)) 0 l.length
def a3L (p:a7W) (i:Nat):Bool:=fgt .f32 (wAt p i) 0&&fle (wAt p i) 1120403456&&(decide (i=0)||fgt .f32 (wAt p i) (wAt p (i-1)))
def c9M (p:a7W) (i:Nat):Bool:=decide (i=0)||decide (aAt p (i-1)<aAt p i)
def d7h (p:a7W) (i:Nat):Bool:=decide ((rAt p i).length=p.2.1.length)&&a9w (rAt p i)
def a3a (p:a7W):Bool:=a0I (p.1.length:Int) 1 12&&(a0I (p.2.1.length:Int) 2 24&&(decide (p.2.2.1.length=p.1.length)&&(a0r (a3L p) 0 p.1.length &&
 (a0r (c9M p) 0 p.2.1.length&&(aAt p 0==0&&(aAt p (p.2.1.length-1)==180&&a0r (d7h p) 0 p.2.2.1.length))))))
theorem c3G (x:Nat):f1E (x,())=some (a3K x,()):=by
 unfold f1E g0e a3K;show(bif fge x 0 then some (fle x 1112014848,())else some (false,()))=_;cases fge x 0<;>rfl
theorem e7j (x:Nat):f1F (x,())=some (!a3K x,()):=by
 unfold f1F g0h;have e:f1E (x,())=some (a3K x,()):=c3G x;simp only[d6P,d6Q,e,isSome_some,getD_some,cond_true]
theorem d7i (k:Nat) (h0:0<k) (h:k<9223372036854775807):wrap IntKind.i64 ((k:Int)-1)=((k-1:Nat):Int):=by rw[w64 (by omega) (by omega)];omega
theorem e7k (l:List Nat) (h:l.length<=1000):f1I ((l,(),()),())=some ((!a9w l,()),()):=by
 have hl:c0b ((l,(),(l.length:Int),(0:Int),()),())=some (match a0L (fun j=>!a3K (l.getD j 0)) 0 l.length with|some j => .inr (((j:Int),()),())|none => .inl ((),())):=by
  refine(a7C (q:=c0a d9d d9e) (fun k=>((l,(),(l.length:Int),(k:Int),()),())) l.length (fun j=>!a3K (l.getD j 0)) (.inl ((),())) (fun j => .inr (((j:Int),()),())) ?_ ?_ (c5w ((l,(),(l.length:Int),(0:Int),()),())) ?_:_)
  ·intro k f hk;unfold c0a;have e1:decide ((k:Int)<(l.length:Int))=true:=by simpa using hk
   have e2:decide (0<=(k:Int))=true:=by simp
   have ha:getD l k (zero (Ty.flt FloatKind.f32))=l.getD k 0:=rfl;have e3:f1F (l.getD k 0,())=some (!a3K (l.getD k 0),()):=e7j _;simp only[a3I k (by omega),e1,e2,Bool.and_self,cond_true,toNat_natCast,ha,d9d,d9e,e3,isSome_some,getD_some]
  ·intro f;unfold c0a;simp
  ·simp only[c5w];omega
 have h55:f5C ((l,(),()),())=some ((match a0L (fun j=>!a3K (l.getD j 0)) 0 l.length with|none=>(-1:Int)|some j=>(j:Int),()),()):=by
  unfold f5C g0j;simp only[b5S,b5T,b5U,hl,isSome_some,cond_true];cases a0L (fun j=>!a3K (l.getD j 0)) 0 l.length<;>rfl
 unfold f1I g0m;simp only[f5D,f5E,h55,isSome_some,getD_some,cond_true];unfold a9w;cases hf:a0L (fun j=>!a3K (l.getD j 0)) 0 l.length with
 | none =>
   have h1:a0r (fun j=>a3K (l.getD j 0)) 0 l.length=true:=a0H.2 fun j h0 hj=>by
    have:=a2A.1 hf j h0 hj;simpa using this
   rw[h1];rfl
 | some j =>
   obtain⟨h1,h2,h3,_⟩:=a1B hf;have h4:a0r (fun j=>a3K (l.getD j 0)) 0 l.length=false:=by
    rw[Bool.eq_false_iff];intro ht;have:=a0H.1 ht j h1 h2;have h3':(!a3K (l.getD j 0))=true:=h3;rw[this]at h3';cases h3'
   rw[h4];have:decide ((j:Int) ≥ 0)=true:=by simp
   exact congrArg (fun b:Bool=>some ((b,()),())) this
theorem e3X (p:a7W):F90 (p,())=some (a3a p,()):=by
 unfold F90 r90 a3a;have i1:F44 ((p.1.length:Int),1,12,())=some (a0I (p.1.length:Int) 1 12,()):=a2Z _ _ _;have i2:F44 ((p.2.1.length:Int),2,24,())=some (a0I (p.2.1.length:Int) 2 24,()):=a2Z _ _ _;simp only[K44,G44,i1,i2,isSome_some,getD_some,cond_true];cases h1:a0I (p.1.length:Int) 1 12
 ·rfl
 cases h2:a0I (p.2.1.length:Int) 2 24
 ·rfl
 simp only[a0I,and_eq_true,decide_eq_true_eq]at h1 h2;by_cases h3:p.2.2.1.length=p.1.length
 rotate_left
 ·have e1:((p.2.2.1.length:Int) != (p.1.length:Int))=true:=by simp;omega
  have e2:decide (p.2.2.1.length=p.1.length)=false:=by simpa using h3
  rw[e1,e2];rfl
 have e1:((p.2.2.1.length:Int) != (p.1.length:Int))=false:=by simp;omega
 have e2:decide (p.2.2.1.length=p.1.length)=true:=by simpa using h3
 rw[e1,e2];have hl4:d2G (((),p.1,(p.1.length:Int),(0:Int),()),(p,()))=some (bif a0r (a3L p) 0 p.1.length then .inl (((),()),(p,()))else .inr ((false,()),())):=by
  refine(a0Z (q:=d2F K44 G44 c8f c8g) (fun k=>(((),p.1,(p.1.length:Int),(k:Int),()),(p,()))) p.1.length (a3L p) _ _ ?_ ?_ _ ?_:_)
  ·intro k f hk;unfold d2F a3L;have e1:decide ((k:Int)<(p.1.length:Int))=true:=by simpa using hk
   have e2:decide (0<=(k:Int))=true:=by simp
   have ha:getD p.1 k (zero (Ty.flt FloatKind.f32))=wAt p k:=rfl;simp only[a3I k (by omega),e1,e2,Bool.and_self,cond_true,toNat_natCast,ha];show(bif fgt .f32 (wAt p k) 0 then bif !fle (wAt p k) 1120403456 then _ else _ else _)=_;cases fgt .f32 (wAt p k) 0
   ·rfl
   cases fle (wAt p k) 1120403456
   ·rfl
   simp only[Bool.not_true,cond_false,cond_true,Bool.true_and];by_cases h0:k=0
   ·subst h0;simp
   ·have e3:decide ((k:Int)>0)=true:=by simp;omega
    have e4:decide (0<=((k-1:Nat):Int))=true:=by simp
    have e5:decide (((k-1:Nat):Int)<(p.1.length:Int))=true:=by simp;omega
    have e6:decide (k=0)=false:=by simpa using h0
    have hb:getD p.1 (k-1) (zero (Ty.flt FloatKind.f32))=wAt p (k-1):=rfl;simp only[e3,d7i k (by omega) (by omega),e4,e5,Bool.and_self,cond_true,toNat_natCast,hb,e6,Bool.false_or];cases fgt .f32 (wAt p k) (wAt p (k-1))<;>rfl
  ·intro f;unfold d2F;simp
  ·simp only[e6c];omega
 simp only[b3h,b3i,b3k,b3j,hl4,isSome_some,cond_true,cond_false,Bool.true_and];cases a0r (a3L p) 0 p.1.length
 ·rfl
 simp only[cond_true,isR,xOf,cond_false,Bool.true_and];have hl10:c0j (((),p.2.1,(p.2.1.length:Int),(0:Int),()),(p,()))=some (bif a0r (c9M p) 0 p.2.1.length then .inl (((),()),(p,()))else .inr ((false,()),())):=by
  refine(a0Z (q:=c0i K44 G44 c8f c8g) (fun k=>(((),p.2.1,(p.2.1.length:Int),(k:Int),()),(p,()))) p.2.1.length (c9M p) _ _ ?_ ?_ _ ?_:_)
  ·intro k f hk;unfold c0i c9M;have e1:decide ((k:Int)<(p.2.1.length:Int))=true:=by simpa using hk
   have e2:decide (0<=(k:Int))=true:=by simp
   have ha:getD p.2.1 k (zero (Ty.int IntKind.i64))=aAt p k:=rfl;simp only[a3I k (by omega),e1,e2,Bool.and_self,cond_true,toNat_natCast,ha];by_cases h0:k=0
   ·subst h0;simp
   ·have e3:decide ((k:Int)>0)=true:=by simp;omega
    have e4:decide (0<=((k-1:Nat):Int))=true:=by simp
    have e5:decide (((k-1:Nat):Int)<(p.2.1.length:Int))=true:=by simp;omega
    have e6:decide (k=0)=false:=by simpa using h0
    have hb:getD p.2.1 (k-1) (zero (Ty.int IntKind.i64))=aAt p (k-1):=rfl;simp only[e3,d7i k (by omega) (by omega),e4,e5,Bool.and_self,cond_true,toNat_natCast,hb,e6,Bool.false_or];have e7:decide (aAt p k<=aAt p (k-1))=!decide (aAt p (k-1)<aAt p k):=by
     by_cases h:aAt p (k-1)<aAt p k
     ·simp[h]
     ·simp[h];omega
    rw[e7];cases decide (aAt p (k-1)<aAt p k)<;>rfl
  ·intro f;unfold c0i;simp
  ·simp only[d2E];omega
 simp only[a8E,a8F,a8H,a8G,hl10,isSome_some,cond_true,cond_false];cases a0r (c9M p) 0 p.2.1.length
 ·rfl
 simp only[cond_true,isR,xOf,cond_false,Bool.true_and];have g1:(decide (0<=0)&&decide ((0:Int)<(length (α:=Den (Ty.int IntKind.i64)) p.2.1:Int)))=true:=by
  have:(0:Int)<(p.2.1.length:Int):=by omega
  exact(decide_eq_true this:_)
 have g2:wrap IntKind.i64 ((length (α:=Den (Ty.int IntKind.i64)) p.2.1:Int)-1)=((length (α:=Den (Ty.int IntKind.i64)) p.2.1-1:Nat):Int):=d7i _ (by omega) (by omega);have g3:decide (((length (α:=Den (Ty.int IntKind.i64)) p.2.1-1:Nat):Int)<(length (α:=Den (Ty.int IntKind.i64)) p.2.1:Int))=true:=by simp;omega
 have g4:decide (0<=((length (α:=Den (Ty.int IntKind.i64)) p.2.1-1:Nat):Int))=true:=by simp
 have ha:getD p.2.1 0 (zero (Ty.int IntKind.i64))=aAt p 0:=rfl;have hb:getD p.2.1 (p.2.1.length-1) (zero (Ty.int IntKind.i64))=aAt p (p.2.1.length-1):=rfl
 erw [g1]
 simp only[g2,g3,g4,toNat_natCast,Int.toNat_zero,ha,hb,Bool.and_self,Bool.not_true,cond_false,cond_true];by_cases h5:aAt p 0=0
 rotate_left
 ·have e5:(aAt p 0 != 0)=true:=by simpa using h5
  have e6:(aAt p 0==0)=false:=by simpa using h5
  rw[e5,e6];rfl
 have e5:(aAt p 0 != 0)=false:=by simpa using h5
 have e6:(aAt p 0==0)=true:=by simpa using h5
 rw[e5,e6];by_cases h7:aAt p (p.2.1.length-1)=180
 rotate_left
 ·have e7:(aAt p (p.2.1.length-1) != 180)=true:=by simpa using h7
  have e8:(aAt p (p.2.1.length-1)==180)=false:=by simpa using h7
  rw[e7,e8];rfl
 have e7:(aAt p (p.2.1.length-1) != 180)=false:=by simpa using h7
 have e8:(aAt p (p.2.1.length-1)==180)=true:=by simpa using h7
 rw[e7,e8];have hl18:c0h (((),p.2.2.1,(p.2.2.1.length:Int),(0:Int),()),(p,()))=some (bif a0r (d7h p) 0 p.2.2.1.length then .inl ((),())else .inr ((false,()),())):=by
  refine(a0Z (q:=c0g K44 G44 c8f c8g) (fun k=>(((),p.2.2.1,(p.2.2.1.length:Int),(k:Int),()),(p,()))) p.2.2.1.length (d7h p) _ _ ?_ ?_ _ ?_:_)
  ·intro k f hk;unfold c0g d7h;have e1:decide ((k:Int)<(p.2.2.1.length:Int))=true:=by simpa using hk
   have e2:decide (0<=(k:Int))=true:=by simp
   have ha:getD p.2.2.1 k (zero (Ty.slice (Ty.flt FloatKind.f32)))=rAt p k:=rfl;simp only[a3I k (by omega),e1,e2,Bool.and_self,cond_true,toNat_natCast,ha];by_cases h9:(rAt p k).length=p.2.1.length
   ·have e3:(((rAt p k).length:Int) != (p.2.1.length:Int))=false:=by simp;omega
    have e4:decide ((rAt p k).length=p.2.1.length)=true:=by simpa using h9
    have e9:f1I ((rAt p k,(),()),())=some ((!a9w (rAt p k),()),()):=e7k _ (by omega);rw[e3,e4];simp only[cond_false,c8f,c8g,e9,isSome_some,getD_some,cond_true,Bool.true_and];cases a9w (rAt p k)<;>rfl
   ·have e3:(((rAt p k).length:Int) != (p.2.1.length:Int))=true:=by simp;omega
    have e4:decide ((rAt p k).length=p.2.1.length)=false:=by simpa using h9
    rw[e3,e4];rfl
  ·intro f;unfold c0g;simp
  ·simp only[d2D];omega
 simp only[a8B,a8C,a8D,hl18,isSome_some,cond_true,cond_false,Bool.true_and];cases a0r (d7h p) 0 p.2.2.1.length<;>rfl
theorem c8M {x y:Nat} (hx:fgt .f32 x 0=true) (hx2:fle x 1120403456=true) (hy:fgt .f32 y 0=true) (hy2:fle y 1120403456=true):fle x y=!fgt .f32 x y:=by
 unfold fle flt feq fgt at *;have num:∀z:Nat,(FloatKind.f32.format.order z 0==some .gt)=true->((FloatKind.f32.format.order z 1120403456==some .lt)||(FloatKind.f32.format.order z 1120403456==some .eq))=true->∃s m e,Ieee.single.read z = .number s m e:=by
  intro z h1 h2;have o1:FloatKind.f32.format.order z 1120403456=(Ieee.single.read z).order (Ieee.single.read 1120403456):=rfl;have r1:∃s m e,Ieee.single.read 1120403456 = .number s m e:=⟨false,13107200,-17,by decide +kernel⟩;have o2:FloatKind.f32.format.order z 0=(Ieee.single.read z).order (Ieee.single.read 0):=rfl;have r2:∃s m e,Ieee.single.read 0 = .number s m e:=⟨false,0,-149,by decide +kernel⟩;obtain⟨s,m,e,hr⟩:=r1;obtain⟨s2,m2,e2,hr2⟩:=r2;rw[o1,hr]at h2;rw[o2,hr2]at h1;cases hz:Ieee.single.read z with
  |number a b c=>exact⟨a,b,c,rfl⟩
  |nan a b=>rw[hz]at h2;simp[Ieee.Datum.order]at h2
  | infinity a =>
    rw[hz]at h1 h2;cases a<;>simp[Ieee.Datum.order]at h1 h2
 obtain⟨s,m,e,h1⟩:=num x hx hx2;obtain⟨t,n,f,h2⟩:=num y hy hy2;have o:FloatKind.f32.format.order x y=(Ieee.single.read x).order (Ieee.single.read y):=rfl;rw[o,h1,h2];unfold Ieee.Datum.order;dsimp only;generalize compare (α:=Int) _ _=c;cases c<;>rfl
def a6u (p:a7W) (i:Nat):Bool:=a3L p i&&d7h p i
theorem e3Y (p:a7W):F99 (p,())=some (a3a p,()):=by
 unfold F99 r99;have i1:F51 ((p.1.length:Int),1,12,())=some (a0I (p.1.length:Int) 1 12,()):=a4t _ _ _;have i2:F51 ((p.2.1.length:Int),2,24,())=some (a0I (p.2.1.length:Int) 2 24,()):=a4t _ _ _;simp only[K51,G51,i1,i2,isSome_some,getD_some,cond_true];unfold a3a;cases h1:a0I (p.1.length:Int) 1 12
 ·rfl
 cases h2:a0I (p.2.1.length:Int) 2 24
 ·rfl
 simp only[a0I,and_eq_true,decide_eq_true_eq]at h1 h2;by_cases h3:p.2.2.1.length=p.1.length
 rotate_left
 ·have e1:((p.2.2.1.length:Int) != (p.1.length:Int))=true:=by simp;omega
  have e2:decide (p.2.2.1.length=p.1.length)=false:=by simpa using h3
  rw[e1,e2];rfl
 have e1:((p.2.2.1.length:Int) != (p.1.length:Int))=false:=by simp;omega
 have e2:decide (p.2.2.1.length=p.1.length)=true:=by simpa using h3
 rw[e1,e2];have hl9:∀k,k<p.1.length->(rAt p k).length<=24->d1d (((),(k:Int),(0:Int),()),(p,()))=some (bif a9w (rAt p k)then .inl (((),(k:Int),()),(p,()))else .inr ((false,()),())):=by
  intro k hk h24;refine(a0Z (q:=d1c K51 G51) (fun j=>(((),(k:Int),(j:Int),()),(p,()))) (rAt p k).length (fun j=>a3K ((rAt p k).getD j 0)) _ _ ?_ ?_ _ ?_:_)
  ·intro j f hj;unfold d1c a3K;have e1:decide ((k:Int)<(p.2.2.1.length:Int))=true:=by simp;omega
   have e2:decide (0<=(k:Int))=true:=by simp
   have e3:decide ((j:Int)<((rAt p k).length:Int))=true:=by simpa using hj
   have e4:decide (0<=(j:Int))=true:=by simp
   have ha:getD p.2.2.1 k (zero (Ty.slice (Ty.flt FloatKind.f32)))=rAt p k:=rfl;have hb:getD (rAt p k) j (zero (Ty.flt FloatKind.f32))=(rAt p k).getD j 0:=rfl;simp only[a3I j (by omega),e1,e2,Bool.and_self,cond_true,toNat_natCast,ha,e3,e4,hb];show(bif fge ((rAt p k).getD j 0) 0 then bif !fle ((rAt p k).getD j 0) 1112014848 then _ else _ else _)=_;cases fge ((rAt p k).getD j 0) 0
   ·rfl
   cases fle ((rAt p k).getD j 0) 1112014848<;>rfl
  ·intro f;unfold d1c;have e1:decide ((k:Int)<(p.2.2.1.length:Int))=true:=by simp;omega
   have e2:decide (0<=(k:Int))=true:=by simp
   have ha:getD p.2.2.1 k (zero (Ty.slice (Ty.flt FloatKind.f32)))=rAt p k:=rfl;simp only[e1,e2,Bool.and_self,cond_true,toNat_natCast,ha,Int.lt_irrefl,decide_false,cond_false]
  ·simp only[e5r];have:(rAt p k).length<=24:=h24;omega
 have hl4 : d1e (((),(0:Int),()),(p,()))=some (bif a0r (a6u p) 0 p.1.length then .inl (((),()),(p,()))else .inr ((false,()),())):=by
  have key:∀(n k:Nat),k+n=p.1.length->a0r (a3L p) 0 k=true->∀m,n<m->a1t (b4v K51 G51 a4n a3P a4o a4p) m (((),(k:Int),()),(p,()))=some (bif a0r (a6u p) k n then .inl (((),()),(p,()))else .inr ((false,()),())):=by
   intro n
   induction n with
   | zero =>
     intro k hk _ m hm;cases m with
     |zero=>omega
     | succ m =>
       show b4v K51 G51 a4n a3P a4o a4p _ _=_;have:k=p.1.length:=by omega
       unfold b4v;simp only[this,Int.lt_irrefl,decide_false,cond_false];rfl
   | succ n ih =>
     intro k hk hw m hm;cases m with
     |zero=>omega
     | succ m =>
       show b4v K51 G51 a4n a3P a4o a4p (a1t (b4v K51 G51 a4n a3P a4o a4p) m) _=_;have e1:decide ((k:Int)<(p.1.length:Int))=true:=by simp;omega
       have e1':decide ((k:Int)<(p.2.2.1.length:Int))=true:=by simp;omega
       have e2:decide (0<=(k:Int))=true:=by simp
       have ha:getD p.1 k (zero (Ty.flt FloatKind.f32))=wAt p k:=rfl;have hr:getD p.2.2.1 k (zero (Ty.slice (Ty.flt FloatKind.f32)))=rAt p k:=rfl;have hcons:a0r (a6u p) k (n+1)=bif a6u p k then a0r (a6u p) (k+1) n else false:=by
        show(a6u p k&&a0r (a6u p) (k+1) n)=_;cases a6u p k<;>rfl
       have hnext:a3L p k=true->a0r (a3L p) 0 (k+1)=true:=by
        intro h;refine a0H.2 fun j h0 hj=>?_
        by_cases c:j=k
        ·rw[c];exact h
        ·exact a0H.1 hw j h0 (by omega)
       have tail:a3L p k=true->(bif (((rAt p k).length:Int) != (p.2.1.length:Int))then some (Sum.inr ((false,()),()))else
        bif a4n (((),(k:Int),0,()),(p,()))then bif a4o (((),(k:Int),0,()),(p,()))then some (Sum.inr (((a4p (((),(k:Int),0,()),(p,()))).1.1,()),()))
        else a1t (b4v K51 G51 a4n a3P a4o a4p) m (((),wrap IntKind.i64 ((a3P (((),(k:Int),0,()),(p,()))).1.2.1+1),()),((a3P (((),(k:Int),0,()),(p,()))).2.1,()))else none) =
        some (bif a0r (a6u p) k (n+1)then .inl (((),()),(p,()))else .inr ((false,()),())):=by
        intro hwk;rw[hcons];unfold a6u d7h;rw[hwk];by_cases h9:(rAt p k).length=p.2.1.length
        ·have e3:(((rAt p k).length:Int) != (p.2.1.length:Int))=false:=by simp;omega
         have e4:decide ((rAt p k).length=p.2.1.length)=true:=by simpa using h9
         have h99:=hl9 k (by omega) (by omega);rw[e3,e4];simp only[cond_false,a4n,a4o,a3P,a4p,h99,isSome_some,cond_true,Bool.true_and];cases a9w (rAt p k)
         ·rfl
         ·simp only[cond_true,isR,xOf,cond_false,a3I k (by omega)];exact ih (k+1) (by omega) (hnext hwk) m (by omega)
        ·have e3:(((rAt p k).length:Int) != (p.2.1.length:Int))=true:=by simp;omega
         have e4:decide ((rAt p k).length=p.2.1.length)=false:=by simpa using h9
         rw[e3,e4];rfl
       have hno:a3L p k=false->some (Sum.inr ((false,()),()))=(some (bif a0r (a6u p) k (n+1)then .inl (((),()),(p,()))else .inr ((false,()),())):Option (c7P⊕c7Q)):=by
        intro h;rw[hcons];unfold a6u;rw[h];rfl
       unfold b4v;simp only[e1,e1',e2,Bool.and_self,cond_true,toNat_natCast,ha,hr];show(bif fgt .f32 (wAt p k) 0 then bif !fle (wAt p k) 1120403456 then _ else _ else _)=_;cases c1:fgt .f32 (wAt p k) 0
       ·exact hno (by unfold a3L;rw[c1];rfl)
       cases c2:fle (wAt p k) 1120403456
       ·exact hno (by unfold a3L;rw[c1,c2];rfl)
       simp only[Bool.not_true,cond_false,cond_true];by_cases h0:k=0
       ·have e3:decide ((k:Int)>0)=false:=by simp;omega
        rw[e3];exact tail (by unfold a3L;rw[c1,c2,h0];rfl)
       ·have e3:decide ((k:Int)>0)=true:=by simp;omega
        have e4:decide (0<=((k-1:Nat):Int))=true:=by simp
        have e5:decide (((k-1:Nat):Int)<(p.1.length:Int))=true:=by simp;omega
        have e6:decide (k=0)=false:=by simpa using h0
        have hb:getD p.1 (k-1) (zero (Ty.flt FloatKind.f32))=wAt p (k-1):=rfl;have hwp:a3L p (k-1)=true:=a0H.1 hw (k-1) (zero_le _) (by omega);have hwp':fgt .f32 (wAt p (k-1)) 0=true /\ fle (wAt p (k-1)) 1120403456=true:=by
         unfold a3L at hwp;simp only[and_eq_true]at hwp;exact hwp.1
        have hfl:=c8M c1 c2 hwp'.1 hwp'.2;simp only[e3,d7i k (by omega) (by omega),e4,e5,Bool.and_self,cond_true,toNat_natCast,hb];show(bif fle (wAt p k) (wAt p (k-1))then _ else _)=_;rw[hfl];cases c3:fgt .f32 (wAt p k) (wAt p (k-1))
        ·exact hno (by unfold a3L;rw[c1,c2,c3,e6];rfl)
        ·exact tail (by unfold a3L;rw[c1,c2,c3,e6];rfl)
  exact key p.1.length 0 (by omega) rfl _ (by simp only[e5t];omega)
 have hrows:a0r (a6u p) 0 p.1.length=(a0r (a3L p) 0 p.1.length&&a0r (d7h p) 0 p.1.length):=by
  rw[Bool.eq_iff_iff];simp only[and_eq_true];constructor
  ·intro h;exact⟨a0H.2 fun j h0 hj=>by have:=a0H.1 h j h0 hj;unfold a6u at this;simp only[and_eq_true]at this;exact this.1,
    a0H.2 fun j h0 hj=>by have:=a0H.1 h j h0 hj;unfold a6u at this;simp only[and_eq_true]at this;exact this.2⟩
  ·rintro⟨h,h'⟩;exact a0H.2 fun j h0 hj=>by unfold a6u;rw[a0H.1 h j h0 hj,a0H.1 h' j h0 hj];rfl
 simp only[b2P,b2Q,b2S,b2R,hl4,isSome_some,cond_true,cond_false,Bool.true_and];rw[h3,hrows];cases hwb:a0r (a3L p) 0 p.1.length
 ·rfl
 cases hrb:a0r (d7h p) 0 p.1.length
 ·simp only[Bool.and_false,Bool.and_self,isR,yOf,cond_true,cond_false];rfl
 simp only[Bool.and_self,cond_true,isR,xOf,cond_false,Bool.true_and,Bool.and_true];have hl14:b9k (((),(1:Int),()),(p,()))=some (bif a0r (c9M p) 0 p.2.1.length then .inl (((),()),(p,()))else .inr ((false,()),())):=by
  have h0:a0r (c9M p) 0 p.2.1.length=a0r (fun j=>c9M p (j+1)) 0 (p.2.1.length-1):=by
   rw[Bool.eq_iff_iff,a0H,a0H];constructor
   ·intro h j _ hj;exact h (j+1) (by omega) (by omega)
   ·intro h j _ hj;by_cases c:j=0
    ·subst c;rfl
    ·have:=h (j-1) (zero_le _) (by omega)
     rwa [show j-1+1=j by omega]at this
  rw[h0];refine(a0Z (q:=b9j K51 G51) (fun k=>(((),((k+1:Nat):Int),()),(p,()))) (p.2.1.length-1) (fun j=>c9M p (j+1)) _ _ ?_ ?_ _ ?_:_)
  ·intro k f hk;unfold b9j c9M;have e1:decide (((k+1:Nat):Int)<(p.2.1.length:Int))=true:=by simp;omega
   have e2:decide (0<=((k+1:Nat):Int))=true:=by simp;omega
   have ha:getD p.2.1 (k+1) (zero (Ty.int IntKind.i64))=aAt p (k+1):=rfl;have e4:decide (0<=((k+1-1:Nat):Int))=true:=by simp
   have e5:decide (((k+1-1:Nat):Int)<(p.2.1.length:Int))=true:=by simp;omega
   have hb:getD p.2.1 (k+1-1) (zero (Ty.int IntKind.i64))=aAt p (k+1-1):=rfl;simp only[a3I (k+1) (by omega),e1,e2,Bool.and_self,cond_true,toNat_natCast,ha,d7i (k+1) (by omega) (by omega),e4,e5,hb];have e6:decide (k+1=0)=false:=by simp
   have e7:decide (aAt p (k+1)<=aAt p (k+1-1))=!decide (aAt p (k+1-1)<aAt p (k+1)):=by
    by_cases h:aAt p (k+1-1)<aAt p (k+1)
    ·have:¬aAt p (k+1)<=aAt p (k+1-1):=by omega
     rw[decide_eq_false this,decide_eq_true h];rfl
    ·have:aAt p (k+1)<=aAt p (k+1-1):=by omega
     rw[decide_eq_true this,decide_eq_false h];rfl
   rw[e6,e7];cases decide (aAt p (k+1-1)<aAt p (k+1))<;>rfl
  ·intro f;unfold b9j;have:decide (((p.2.1.length-1+1:Nat):Int)<(p.2.1.length:Int))=false:=by simp;omega
   simp only[this,cond_false]
  ·simp only[d1b];omega
 simp only[a8u,a8v,a8x,a8w,hl14,isSome_some,cond_true];cases a0r (c9M p) 0 p.2.1.length
 ·rfl
 simp only[cond_true,isR,xOf,cond_false,Bool.true_and];have g1:(decide (0<=0)&&decide ((0:Int)<(length (α:=Den (Ty.int IntKind.i64)) p.2.1:Int)))=true:=by
  have:(0:Int)<(p.2.1.length:Int):=by omega
  exact(decide_eq_true this:_)
 have g2:wrap IntKind.i64 ((length (α:=Den (Ty.int IntKind.i64)) p.2.1:Int)-1)=((length (α:=Den (Ty.int IntKind.i64)) p.2.1-1:Nat):Int):=d7i _ (by omega) (by omega);have g3:decide (((length (α:=Den (Ty.int IntKind.i64)) p.2.1-1:Nat):Int)<(length (α:=Den (Ty.int IntKind.i64)) p.2.1:Int))=true:=by simp;omega
 have g4:decide (0<=((length (α:=Den (Ty.int IntKind.i64)) p.2.1-1:Nat):Int))=true:=by simp
 have ha:getD p.2.1 0 (zero (Ty.int IntKind.i64))=aAt p 0:=rfl;have hb:getD p.2.1 (p.2.1.length-1) (zero (Ty.int IntKind.i64))=aAt p (p.2.1.length-1):=rfl
 erw [g1]
 simp only[g2,g3,g4,toNat_natCast,Int.toNat_zero,ha,hb,Bool.and_self,Bool.not_true,cond_false,cond_true];cases (aAt p 0==0)
 ·rfl
 cases (aAt p (p.2.1.length-1)==180)<;>rfl
def a3r (s:Den a0Y):List (Nat×Nat):=[s.snd.fst.fst,s.snd.fst.snd.fst,s.snd.fst.snd.snd.fst,s.snd.fst.snd.snd.snd.fst,s.snd.fst.snd.snd.snd.snd.fst,s.snd.fst.snd.snd.snd.snd.snd.fst,s.snd.fst.snd.snd.snd.snd.snd.snd.fst,s.snd.fst.snd.snd.snd.snd.snd.snd.snd.fst,s.snd.fst.snd.snd.snd.snd.snd.snd.snd.snd.fst,s.snd.fst.snd.snd.snd.snd.snd.snd.snd.snd.snd.fst,s.snd.fst.snd.snd.snd.snd.snd.snd.snd.snd.snd.snd.fst,s.snd.fst.snd.snd.snd.snd.snd.snd.snd.snd.snd.snd.snd.fst,s.snd.fst.snd.snd.snd.snd.snd.snd.snd.snd.snd.snd.snd.snd.fst]
theorem c1B (s:Den a0Y):(a3r s).length=13:=rfl
theorem c6D (l:List (Nat×Nat)) (h:l.length<=13):e9a (l,())=some (a7U l,()):=by
 have hl:c0n ((l,(l.length:Int),(0:Int),()),())=some (bif a7U l then .inl ((),())else .inr ((false,()),())):=by
  refine(a0Z (q:=c0m K45 G45) (fun k=>((l,(l.length:Int),(k:Int),()),())) l.length (fun i=>a2o (atV l i)) _ _ ?_ ?_ _ ?_:_)
  ·intro k f hk;unfold c0m;have e1:decide ((k:Int)<(l.length:Int))=true:=by simpa using hk
   have e2:decide (0<=(k:Int))=true:=by simp
   have ha:getD l k (zero (Ty.cpx FloatKind.f32))=atV l k:=rfl;have e3:F45 (atV l k,())=some (a2o (atV l k),()):=a5r _;simp only[a3I k (by omega),e1,e2,Bool.and_self,cond_true,toNat_natCast,ha,K45,G45,e3,isSome_some,getD_some];cases a2o (atV l k)<;>rfl
  ·intro f;simp[c0m]
  ·simp only[d2I];omega
 unfold e9a g0p;simp only[b6f,b6g,b6h,hl,isSome_some,cond_true];cases a7U l<;>rfl
theorem e7l (s:Den a0Y):f0p (s,())=some (a7U (a3r s),()):=by
 have hl:b9n (((),0,()),(s.fst,s.snd.fst),())=some (bif a7U (a3r s)then .inl ((),())else .inr ((false,()),())):=by
  refine(a0Z (q:=c4L K52 G52) (fun k=>(((),(k:Int),()),(s.fst,s.snd.fst),())) 13 (fun i=>a2o (atV (a3r s) i)) _ _ ?_ ?_ _ ?_:_)
  ·intro k f hk;unfold c4L;have e1:decide ((k:Int)<13)=true:=by simp;omega
   have e2:decide (0<=(k:Int))=true:=by simp
   have e3:F52 ((a3r s).getD k (0,0),())=some (a2o (atV (a3r s) k),()):=b3t _;generalize a2o (atV (a3r s) k)=b at e3 ⊢;simp only[a3I k (by omega),e1,e2,Bool.and_self,cond_true,toNat_natCast];unfold a3r at e3;simp only[K52,G52,e3,isSome_some,getD_some,cond_true];cases b<;>rfl
  ·intro f;rfl
  ·simp only[d1h];omega
 unfold f0p f7Y;simp only[b4z,b4A,b4B,hl,isSome_some,cond_true];cases a7U (a3r s)<;>rfl
def a5x (l:List (Den a0Y)) (i:Nat):Den a0Y:=l.getD i (zero a0Y)
def a5s (l:List Int) (i:Nat):Int:=l.getD i 0
def b7S (s:Den a0Y):Bool:=a4u s.fst&&a7U (a3r s)
def b2q (hs:List Int) (k:Nat):Bool:=a0I (a5s hs k) 0 10000000&&(decide (k=0)||!decide (a5s hs k<IntKind.i64.wrap (a5s hs (k-1)+21600)))
def a4R (t:Den S30):Bool:=a0I (t.1.length:Int) 1 20&&(a0I (t.2.1.length:Int) 1 60&&(a0r (fun i=>b7S (a5x t.1 i)) 0 t.1.length&&a0r (b2q t.2.1) 0 t.2.1.length))
theorem d4U (t:Den S30) (h:a7O t):F91 (t,())=some (a4R t,()):=by
 obtain⟨st,hs,_⟩:=t;obtain⟨h1,h2⟩:=h;have h1:st.length<=21:=h1;have h2:hs.length<=6:=h2;have hl:d2O (((),st,(st.length:Int),0,()),(st,hs,()),())=some (bif a0r (fun i=>b7S (a5x st i)) 0 st.length then .inl (((),()),(st,hs,()),())else .inr ((false,()),())):=by
  refine(a0Z (q:=d2N K44 G44 K61 G61 c8h c8i K43 G43) (fun k=>(((),st,(st.length:Int),(k:Int),()),(st,hs,()),())) st.length (fun i=>b7S (a5x st i)) _ _ ?_ ?_ _ ?_:_)
  ·intro k f hk;unfold d2N;have e1:decide ((k:Int)<(st.length:Int))=true:=by simpa using hk
   have e2:decide (0<=(k:Int))=true:=by simp
   have ha:getD st k (zero a0Y)=a5x st k:=rfl;have e3:F61 ((a5x st k).fst,())=some (a4u (a5x st k).fst,()):=a9v _;have e4:e9a (a3r (a5x st k),())=some (a7U (a3r (a5x st k)),()):=c6D _ (by rw[c1B];decide);unfold b7S;simp only[a3I k (by omega),e1,e2,Bool.and_self,cond_true,toNat_natCast,ha,K61,G61,e3,isSome_some,getD_some];unfold a3r at e4 ⊢;simp only[c8h,c8i,e4,isSome_some,getD_some];cases a4u (a5x st k).fst
   ·rfl
   ·cases a7U _<;>rfl
  ·intro f;simp[d2N]
  ·simp only[e6e];omega
 have hl2:c0r (((),hs,(hs.length:Int),0,()),(st,hs,()),())=some (bif a0r (b2q hs) 0 hs.length then .inl ((),())else .inr ((false,()),())):=by
  refine(a0Z (q:=c0q K44 G44 K61 G61 c8h c8i K43 G43) (fun k=>(((),hs,(hs.length:Int),(k:Int),()),(st,hs,()),())) hs.length (b2q hs) _ _ ?_ ?_ _ ?_:_)
  ·intro k f hk;unfold c0q;have e1:decide ((k:Int)<(hs.length:Int))=true:=by simpa using hk
   have e2:decide (0<=(k:Int))=true:=by simp
   have ha:∀i,getD hs i (zero (Ty.int IntKind.i64))=a5s hs i:=fun _=>rfl
   have e3:F43 (a5s hs k,())=some (a0I (a5s hs k) 0 10000000,()):=c6k _;unfold b2q;simp only[a3I k (by omega),e1,e2,Bool.and_self,cond_true,toNat_natCast,ha,K43,G43,e3,isSome_some,getD_some];cases a0I (a5s hs k) 0 10000000
   ·rfl
   ·cases k with
    |zero=>rfl
    | succ k =>
      have e5:IntKind.i64.wrap (((k+1:Nat):Int)-1)=(k:Int):=by rw[w64 (by omega) (by omega)];omega
      have e6:decide (((k+1:Nat):Int)>0)=true:=decide_eq_true (by omega);have e7:(decide (0<=(k:Int))&&decide ((k:Int)<(hs.length:Int)))=true:=by simp only[and_eq_true,decide_eq_true_eq];omega
      simp only[e5,e6,e7,cond_true,toNat_natCast,Bool.not_true,cond_false,Nat.add_sub_cancel,Bool.true_and];have e8:decide (k+1=0)=false:=by simp
      rw[e8,Bool.false_or];cases decide (a5s hs (k+1)<IntKind.i64.wrap (a5s hs k+21600))<;>rfl
  ·intro f;simp[c0q]
  ·simp only[d2M];omega
 have i1:F44 ((st.length:Int),1,20,())=some (a0I (st.length:Int) 1 20,()):=a2Z _ _ _;have i2:F44 ((hs.length:Int),1,60,())=some (a0I (hs.length:Int) 1 60,()):=a2Z _ _ _;unfold F91 r91 a4R;simp only[K44,G44,i1,i2,isSome_some,getD_some,cond_true,c0s,c0t,c0u,c0v,hl];cases a0I (st.length:Int) 1 20
 ·rfl
 cases a0I (hs.length:Int) 1 60
 ·rfl
 cases a0r (fun i=>b7S (a5x st i)) 0 st.length
 ·rfl
 simp only[cond_true,isR,xOf,Bool.not_true,cond_false,b1w,b1x,b1y,hl2,isSome_some];cases a0r (b2q hs) 0 hs.length<;>rfl
theorem e7m (t:Den S30) (h:a7O t):f4P (t,())=some (a4R t,()):=by
 obtain⟨st,hs,_⟩:=t;obtain⟨h1,h2⟩:=h;have h1:st.length<=21:=h1;have h2:hs.length<=6:=h2;have hl:b9v (((),0,()),(st,hs,()),())=some (bif a0r (fun i=>b7S (a5x st i)) 0 st.length then .inl (((),()),(st,hs,()),())else .inr ((false,()),())):=by
  refine(a0Z (q:=b9u K51 G51 K96 G96 d6v d6w) (fun k=>(((),(k:Int),()),(st,hs,()),())) st.length (fun i=>b7S (a5x st i)) _ _ ?_ ?_ _ ?_:_)
  ·intro k f hk;unfold b9u;have e1:decide ((k:Int)<(st.length:Int))=true:=by simpa using hk
   have e2:decide (0<=(k:Int))=true:=by simp
   have ha:getD st k (zero a0Y)=a5x st k:=rfl;have e3:F96 ((a5x st k).fst,())=some (a4u (a5x st k).fst,()):=c6B _;have e4:f0p (a5x st k,())=some (a7U (a3r (a5x st k)),()):=e7l _;unfold b7S;simp only[a3I k (by omega),e1,e2,Bool.and_self,cond_true,toNat_natCast,ha,K96,G96,e3,d6v,d6w,e4,isSome_some,getD_some];cases a4u (a5x st k).fst
   ·rfl
   ·cases a7U _<;>rfl
  ·intro f;simp[b9u]
  ·simp only[d1l];omega
 have hl2:b9t (((),0,()),(st,hs,()),())=some (bif a0r (b2q hs) 0 hs.length then .inl ((),())else .inr ((false,()),())):=by
  refine(a0Z (q:=b9s K51 G51 K96 G96 d6v d6w) (fun k=>(((),(k:Int),()),(st,hs,()),())) hs.length (b2q hs) _ _ ?_ ?_ _ ?_:_)
  ·intro k f hk;unfold b9s;have e1:decide ((k:Int)<(hs.length:Int))=true:=by simpa using hk
   have e2:decide (0<=(k:Int))=true:=by simp
   have ha:∀i,getD hs i (zero (Ty.int IntKind.i64))=a5s hs i:=fun _=>rfl
   have e3:F51 (a5s hs k,0,10000000,())=some (a0I (a5s hs k) 0 10000000,()):=a4t _ _ _;unfold b2q;simp only[a3I k (by omega),e1,e2,Bool.and_self,cond_true,toNat_natCast,ha,K51,G51,e3,isSome_some,getD_some];cases a0I (a5s hs k) 0 10000000
   ·rfl
   ·cases k with
    |zero=>rfl
    | succ k =>
      have e5:IntKind.i64.wrap (((k+1:Nat):Int)-1)=(k:Int):=by rw[w64 (by omega) (by omega)];omega
      have e6:decide (((k+1:Nat):Int)>0)=true:=decide_eq_true (by omega);have e7:(decide (0<=(k:Int))&&decide ((k:Int)<(hs.length:Int)))=true:=by simp only[and_eq_true,decide_eq_true_eq];omega
      simp only[e5,e6,e7,cond_true,toNat_natCast,Bool.not_true,cond_false,Nat.add_sub_cancel,Bool.true_and];have e8:decide (k+1=0)=false:=by simp
      rw[e8,Bool.false_or];cases decide (a5s hs (k+1)<IntKind.i64.wrap (a5s hs k+21600))<;>rfl
  ·intro f;simp[b9s]
  ·simp only[d1k];omega
 have i1:F51 ((st.length:Int),1,20,())=some (a0I (st.length:Int) 1 20,()):=a4t _ _ _;have i2:F51 ((hs.length:Int),1,60,())=some (a0I (hs.length:Int) 1 60,()):=a4t _ _ _;unfold f4P f8a a4R;simp only[K51,G51,i1,i2,isSome_some,getD_some,cond_true,b1d,b1e,b1f,b1g,hl];cases a0I (st.length:Int) 1 20
 ·rfl
 cases a0I (hs.length:Int) 1 60
 ·rfl
 cases a0r (fun i=>b7S (a5x st i)) 0 st.length
 ·rfl
 simp only[cond_true,isR,xOf,Bool.not_true,cond_false,b1a,b1b,b1c,hl2,isSome_some];cases a0r (b2q hs) 0 hs.length<;>rfl
theorem d4V (m n:Nat) (hn:0<n) (more:Nat):∀Q,Q=2*(m <<< more/n)+(m <<< more%n != 0).toNat->Q*n<=2*(m*2^more)+n /\ 2*(m*2^more)<=Q*n+n:=by
 intro Q hQ;rw[Nat.shiftLeft_eq]at hQ;have h1:=Nat.div_add_mod (m*2^more) n;have h2:=Nat.mod_lt (m*2^more) hn;generalize m*2^more=x at *;have h3:2*(x/n)*n=2*(n*(x/n)):=by rw[Nat.mul_assoc,Nat.mul_comm (x/n)]
 subst hQ;rw[Nat.add_mul,h3];generalize n*(x/n)=y at *;by_cases c:x%n=0
 ·rw[c];simp only[bne_self_eq_false,Bool.toNat_false,Nat.zero_mul];omega
 ·have:(x%n != 0)=true:=by simpa using c
  rw[this];simp only[Bool.toNat_true,Nat.one_mul];omega
theorem d4W (m n:Nat) (hm:m≠0) (hn:0<n):2^54*n<=m*2^(54+n.log2-m.log2)*2:=by
 have l1:2^m.log2<=m:=Nat.log2_self_le hm;have l2:n<2^(n.log2+1):=Nat.lt_log2_self;have h1:2^(54+n.log2)<=m*2^(54+n.log2-m.log2):=by
  have:2^m.log2*2^(54+n.log2-m.log2)<=m*2^(54+n.log2-m.log2):=Nat.mul_le_mul_right _ l1;rw[<- Nat.pow_add]at this;exact Nat.le_trans (Nat.pow_le_pow_right (by decide) (by omega)) this
 have h2:2^54*n<=2^54*2^(n.log2+1):=Nat.mul_le_mul_left _ (Nat.le_of_lt l2);rw[<- Nat.pow_add]at h2;have h3:2^(54+(n.log2+1))=2^(54+n.log2)*2:=by rw[<- Nat.pow_succ];congr 1
 omega
theorem g4P {a b:Nat} {x y q:Rat} (ha:IsR a x) (hb:IsR b y) (hy:y≠0) (hq:q*y=x) (B:Int) (h1:-1022<=B) (h2:B<=1022) (hle:q<=p2 B) (hge:-p2 B<=q) :
 ∃r,IsR (a0g .quo .f64 a b) r /\ b3u r q (p2 (B-52)):=by
 obtain⟨s,m,e,hr,he,rfl⟩:=ha;obtain⟨t,n,f,hr',hf,rfl⟩:=hb;have e1:a0g .quo .f64 a b=(((Ieee.double.read a).quotient 54 (Ieee.double.read b)).map Ieee.double.write).getD (qn .f64):=rfl;have hn0:n≠0:=fun h=>hy (by rw[h,a4Q])
 have hn:0<n:=Nat.pos_of_ne_zero hn0;rw[e1,hr,hr'];unfold Ieee.Datum.quotient;dsimp only;rw[if_neg hn0];show ∃r,IsR (Ieee.double.nearest (s ^^ t) (2*(m <<< (54+n.log2-m.log2)/n)+(m <<< (54+n.log2-m.log2)%n != 0).toNat) (e-f-((54+n.log2-m.log2:Nat):Int)-1)) r /\ _;have hN:=d4V m n hn (54+n.log2-m.log2) _ rfl;have hzero:m=0->2*(m <<< (54+n.log2-m.log2)/n)+(m <<< (54+n.log2-m.log2)%n != 0).toNat=0:=by
  intro h;subst h;simp[Nat.shiftLeft_eq]
 have hplace:m≠0->_:=fun h=>d4W m n h hn
 generalize hQ:2*(m <<< (54+n.log2-m.log2)/n)+(m <<< (54+n.log2-m.log2)%n != 0).toNat=Q at *;generalize hM:54+n.log2-m.log2=more at *;obtain⟨pl,hpl⟩:∃pl:Int,pl=e-f-(more:Int)-1:=⟨_,rfl⟩;rw[<- hpl];have hnR:(0:Rat)<(n:Rat):=by
  have:(0:Rat)<((n:Nat):Rat):=by exact_mod_cast Rat.natCast_lt_natCast.2 hn
  exact this
 have hqv:q*(n:Rat)=sgR (s ^^ t)*(2*((m:Rat)*((2^more:Nat):Rat)))*p2 pl:=by
  have e2:e=f+(more:Int)+1+pl:=by omega
  have hx:RV s m e=sgR s*(2*((m:Rat)*((2^more:Nat):Rat)))*p2 pl*p2 f:=by
   unfold RV;rw[e2,a1E,a5Q,a1E,a1K];grind
  have hf:=a1f f;have hy2:RV t n f=sgR t*(n:Rat)*p2 f:=rfl;rw[hx,hy2]at hq;have hs:sgR t*sgR t=1:=by cases t<;>decide +kernel
  have h3:(q*(n:Rat)-sgR (s ^^ t)*(2*((m:Rat)*((2^more:Nat):Rat)))*p2 pl)*p2 f=0:=by
   rw[e7g];have:q*(sgR t*(n:Rat)*p2 f)*sgR t=sgR s*(2*((m:Rat)*((2^more:Nat):Rat)))*p2 pl*p2 f*sgR t:=by rw[hq]
   grind
  rcases Rat.mul_eq_zero.1 h3 with h4|h4
  ·grind
  ·grind
 have hp:=a1f pl;have n1:(Q:Rat)*(n:Rat)<=2*((m:Rat)*((2^more:Nat):Rat))+(n:Rat):=by exact_mod_cast a0R hN.1
 have n2:2*((m:Rat)*((2^more:Nat):Rat))<=(Q:Rat)*(n:Rat)+(n:Rat):=by exact_mod_cast a0R hN.2
 have m1:=a1h n1 (Rat.le_of_lt hp);have m2:=a1h n2 (Rat.le_of_lt hp);have hnear:b3u (RV (s ^^ t) Q pl) q (p2 pl):=by
  unfold RV;have g1:(sgR (s ^^ t)*(Q:Rat)*p2 pl-q-p2 pl)*(n:Rat)<=0:=by
   have:sgR (s ^^ t)*(Q:Rat)*p2 pl*(n:Rat)-q*(n:Rat)-p2 pl*(n:Rat)<=0:=by
    rw[hqv];cases (s ^^ t)
    ·have:sgR false=1:=rfl;rw[this];grind
    ·have:sgR true=-1:=rfl;rw[this];grind
   grind
  have g2:(q-sgR (s ^^ t)*(Q:Rat)*p2 pl-p2 pl)*(n:Rat)<=0:=by
   have:q*(n:Rat)-sgR (s ^^ t)*(Q:Rat)*p2 pl*(n:Rat)-p2 pl*(n:Rat)<=0:=by
    rw[hqv];cases (s ^^ t)
    ·have:sgR false=1:=rfl;rw[this];grind
    ·have:sgR true=-1:=rfl;rw[this];grind
   grind
  have neg_of:∀z:Rat,z*(n:Rat)<=0->z<=0:=by
   intro z hz;apply Classical.byContradiction;intro hc;have:=Rat.mul_pos (show 0<z by grind) hnR;grind
  have k1:=neg_of _ g1;have k2:=neg_of _ g2;constructor<;>grind
 by_cases hm0:m=0
 ·have hq0:=hzero hm0;subst hm0;rw[hq0]at hnear ⊢;have hqz:q=0:=by
   have:q*(n:Rat)=0:=by
    rw[hqv];have:((0:Nat):Rat)=0:=by simp
    rw[this];grind
   rcases Rat.mul_eq_zero.1 this with h|h
   ·exact h
   ·grind
  obtain⟨r,h3,h4⟩:=b7R (s ^^ t) 0 pl B h1 h2 (by rw[a4Q];exact a1f _) (by rw[a4Q];have:=a1f (B+1);grind);rw[a4Q]at h4;have hle2:p2 (B-53)<=p2 (B-52):=c1A (by omega);refine⟨r,h3,?_⟩;rw[hqz];exact⟨by have:=h4.1;grind,by have:=h4.2;grind⟩
 ·have hpp:=hplace hm0;have h54:p2 (54+pl)<=p2 B:=by
   have e3:p2 (54+pl)=((2^54:Nat):Rat)*p2 pl:=by rw[a1E,show(54:Int)=((54:Nat):Int)from rfl,a1K]
   have n3:((2^54:Nat):Rat)*(n:Rat)<=(m:Rat)*((2^more:Nat):Rat)*2:=by exact_mod_cast a0R hpp
   have m3:=a1h n3 (Rat.le_of_lt hp);have h5:(p2 (54+pl)-p2 B)*(n:Rat)<=0:=by
    have hle':=a1h hle (Rat.le_of_lt hnR);have hge':=a1h hge (Rat.le_of_lt hnR);rw[hqv]at hle' hge';rw[e3];generalize (s ^^ t)=u at *;cases u
    ·have:sgR false=1:=rfl;rw[this]at hle';grind
    ·have:sgR true=-1:=rfl;rw[this]at hge';grind
   apply Classical.byContradiction;intro hc;have:=Rat.mul_pos (show 0<p2 (54+pl)-p2 B by grind) hnR;grind
  have hplB:54+pl<=B:=by
   apply Classical.byContradiction;intro hc;have h6:=c1A (show B+1<=54+pl by omega);have h7:=a5Q B;have:=a1f B;grind
  have hsm:p2 pl<=p2 (B-54):=c1A (by omega);have e5:p2 (B-53)=2*p2 (B-54):=by rw[<- a5Q];congr 1;omega
  have e6:p2 (B-52)=2*p2 (B-53):=by rw[<- a5Q];congr 1;omega
  have e7:p2 (B+1)=2*p2 B:=a5Q B;have hB0:p2 (B-54)<p2 B:=by
   have h8:p2 (B-54+1)<=p2 B:=c1A (by omega);rw[a5Q]at h8;have:=a1f (B-54);grind
  obtain⟨r,h3,h4⟩:=b7R (s ^^ t) Q pl B h1 h2 (by have:=hnear.1;grind) (by have:=hnear.2;grind);refine⟨r,h3,?_⟩;have:=a1f (B-54);exact⟨by have:=h4.1;have:=hnear.1;grind,by have:=h4.2;have:=hnear.2;grind⟩
set_option maxRecDepth 100000
set_option maxHeartbeats 0
def c6E (z w:Nat×Nat):Nat×Nat:=(a0g .sub .f64 (a0g .mul .f64 z.1 w.1) (a0g .mul .f64 z.2 w.2),a0g .add .f64 (a0g .mul .f64 z.1 w.2) (a0g .mul .f64 z.2 w.1))
def c8N:Nat×Nat:=(4607181046959943561,4580687535080594718)
def a0X:Nat->Nat×Nat
 |0=>(4607182418800017408,0)
 |n+1=>c6E (a0X n) c8N
structure TE where
 k:Nat
 a:Nat
 b:Nat
 c:Nat
 s:Nat
def b3v (w C:Nat):Bool:=match Ieee.double.read w with
 | .number s m e=>decide (e <= -40)&&decide (-1074<=e)&&Nat.ble C 2199023255552 &&
   decide ((if s then -(m:Int)else(m:Int))<=((C:Int)-1099511627776)*(2^(-40-e).toNat:Nat)+(2^(-40-e).toNat:Nat)) &&
   decide (((C:Int)-1099511627776)*(2^(-40-e).toNat:Nat)<=(if s then -(m:Int)else(m:Int))+(2^(-40-e).toNat:Nat))
 |_=>false
def c1C:Nat->Nat×Nat->List TE->Bool
 |k,_,[]=>beq k 360
 |k,z,t::r=>beq t.k k&&beq t.a z.1&&beq t.b z.2&&b3v t.a t.c&&b3v t.b t.s&&c1C (k+1) (c6E (t.a,t.b) c8N) r
def e7n:List TE:=[
 ⟨0,4607182418800017408,0,2199023255552,1099511627776⟩,
 ⟨1,4607181046959943561,4580687535080594718,2198855794605,1118700751586⟩,
 ⟨2,4607176931857597797,4585190368566828071,2198353462776,1137884030204⟩,
 ⟨3,4607170074746480155,4587703227212876044,2197516413079,1157055620216⟩,
 ⟨4,4607160477715333107,4589690904329736486,2196344900488,1176209681770⟩,
 ⟨5,4607148143687505309,4590944653792149759,2194839281857,1195340380355⟩,
 ⟨6,4607133076420061121,4592196490234713959,2193000015811,1214441888572⟩,
 ⟨7,4607115280502636166,4593446032335921868,2190827662610,1233508387919⟩,
 ⟨8,4607094761356039284,4594182259695525397,2188322883973,1252534070555⟩,
 ⟨9,4607071525230601301,4594804165878240112,2185486442879,1271513141073⟩,
 ⟨10,4607045579204271120,4595424355236410244,2182319203337,1290439818263⟩,
 ⟨11,4607016931180459706,4596042638854349385,2178822130118,1309308336877⟩,
 ⟨12,4606985589885632631,4596658828396878062,2174996288464,1328112949381⟩,
 ⟨13,4606951564866651910,4597272736166692460,2170842843764,1346847927708⟩,
 ⟨14,4606914866487867932,4597884175161538835,2166363061198,1365507565001⟩,
 ⟨15,4606875505927962379,4598334089338226315,2161558305350,1384086177356⟩,
 ⟨16,4606833495176543093,4598637061089693219,2156430039796,1402578105546⟩,
 ⟨17,4606788847030491924,4598938520319677888,2150979826655,1420977716751⟩,
 ⟨18,4606741575090066675,4599238375200778568,2145209326115,1439279406272⟩,
 ⟨19,4606691693754758334,4599536534394293715,2139120295926,1457477599235⟩,
 ⟨20,4606639218218904846,4599832907078044652,2132714590865,1475566752296⟩,
 ⟨21,4606584164467062775,4600127402974040882,2125994162174,1493541355323⟩,
 ⟨22,4606526549269138249,4600419932375979638,2118961056958,1511395933078⟩,
 ⟨23,4606466390175278687,4600710406176571294,2111617417571,1529125046884⟩,
 ⟨24,4606403705510526853,4600998735894682307,2103965480956,1546723296280⟩,
 ⟨25,4606338514369238870,4601284833702287428,2096007577967,1564185320670⟩,
 ⟨26,4606270836609267896,4601568612451222968,2087746132658,1581505800952⟩,
 ⟨27,4606200692845915227,4601849985699732975,2079183661545,1598679461139⟩,
 ⟨28,4606128104445650677,4602128867738800229,2070322772841,1615701069969⟩,
 ⟨29,4606053093519604147,4602405173618254039,2061166165658,1632565442495⟩,
 ⟨30,4605975682916830359,4602678819172646889,2051716629186,1649267441664⟩,
 ⟨31,4605895896217348810,4602814270109769479,2041977041847,1665801979887⟩,
 ⟨32,4605813757724961074,4602948307947150621,2031950370413,1682164020583⟩,
 ⟨33,4605729292459847624,4603080891855566606,2021639669105,1698348579716⟩,
 ⟨34,4605642526150946448,4603211981448674563,2011048078663,1714350727312⟩,
 ⟨35,4605553485228115762,4603341536795314536,2000178825388,1730165588962⟩,
 ⟨36,4605462196814083219,4603469518431672908,1989035220160,1745788347307⟩,
 ⟨37,4605368688716184063,4603595887373303459,1977620657428,1761214243502⟩,
 ⟨38,4605272989417890748,4603720605127002405,1965938614179,1776438578670⟩,
 ⟨39,4605175128070136594,4603843633702533800,1953992648877,1791456715332⟩,
 ⟨40,4605075134482436131,4603964935624201734,1941786400379,1806264078817⟩,
 ⟨41,4604973039113804833,4604084473942265789,1929323586825,1820856158658⟩,
 ⟨42,4604868873063481004,4604202212244196288,1916608004510,1835228509968⟩,
 ⟨43,4604762668061452652,4604318114665765906,1903643526723,1849376754789⟩,
 ⟨44,4604654456458792226,4604432145901974262,1890434102570,1863296583428⟩,
 ⟨45,4604544271217802166,4604544271217802161,1876983755770,1876983755770⟩,
 ⟨46,4604432145901974265,4604654456458792220,1863296583428,1890434102570⟩,
 ⟨47,4604318114665765908,4604762668061452644,1849376754789,1903643526723⟩,
 ⟨48,4604202212244196288,4604868873063480994,1835228509968,1916608004510⟩,
 ⟨49,4604084473942265788,4604973039113804822,1820856158658,1929323586825⟩,
 ⟨50,4603964935624201733,4605075134482436119,1806264078817,1941786400379⟩,
 ⟨51,4603843633702533798,4605175128070136581,1791456715332,1953992648877⟩,
 ⟨52,4603720605127002402,4605272989417890734,1776438578670,1965938614179⟩,
 ⟨53,4603595887373303455,4605368688716184048,1761214243502,1977620657428⟩,
 ⟨54,4603469518431672903,4605462196814083203,1745788347307,1989035220160⟩,
 ⟨55,4603341536795314530,4605553485228115745,1730165588962,2000178825388⟩,
 ⟨56,4603211981448674556,4605642526150946430,1714350727312,2011048078663⟩,
 ⟨57,4603080891855566599,4605729292459847604,1698348579716,2021639669105⟩,
 ⟨58,4602948307947150613,4605813757724961052,1682164020583,2031950370413⟩,
 ⟨59,4602814270109769470,4605895896217348788,1665801979887,2041977041847⟩,
 ⟨60,4602678819172646869,4605975682916830336,1649267441664,2051716629186⟩,
 ⟨61,4602405173618254018,4606053093519604123,1632565442495,2061166165658⟩,
 ⟨62,4602128867738800207,4606128104445650651,1615701069969,2070322772841⟩,
 ⟨63,4601849985699732952,4606200692845915199,1598679461139,2079183661545⟩,
 ⟨64,4601568612451222944,4606270836609267867,1581505800952,2087746132658⟩,
 ⟨65,4601284833702287404,4606338514369238840,1564185320670,2096007577967⟩,
 ⟨66,4600998735894682283,4606403705510526821,1546723296280,2103965480956⟩,
 ⟨67,4600710406176571270,4606466390175278653,1529125046884,2111617417571⟩,
 ⟨68,4600419932375979614,4606526549269138213,1511395933078,2118961056958⟩,
 ⟨69,4600127402974040858,4606584164467062737,1493541355323,2125994162174⟩,
 ⟨70,4599832907078044629,4606639218218904807,1475566752296,2132714590865⟩,
 ⟨71,4599536534394293692,4606691693754758294,1457477599235,2139120295926⟩,
 ⟨72,4599238375200778546,4606741575090066634,1439279406272,2145209326115⟩,
 ⟨73,4598938520319677867,4606788847030491881,1420977716751,2150979826655⟩,
 ⟨74,4598637061089693199,4606833495176543048,1402578105546,2156430039796⟩,
 ⟨75,4598334089338226296,4606875505927962332,1384086177356,2161558305350⟩,
 ⟨76,4597884175161538799,4606914866487867883,1365507565001,2166363061198⟩,
 ⟨77,4597272736166692426,4606951564866651860,1346847927708,2170842843764⟩,
 ⟨78,4596658828396878031,4606985589885632580,1328112949381,2174996288464⟩,
 ⟨79,4596042638854349356,4607016931180459653,1309308336877,2178822130118⟩,
 ⟨80,4595424355236410218,4607045579204271066,1290439818263,2182319203337⟩,
 ⟨81,4594804165878240089,4607071525230601246,1271513141073,2185486442879⟩,
 ⟨82,4594182259695525377,4607094761356039227,1252534070555,2188322883973⟩,
 ⟨83,4593446032335921836,4607115280502636108,1233508387919,2190827662610⟩,
 ⟨84,4592196490234713933,4607133076420061062,1214441888572,2193000015811⟩,
 ⟨85,4590944653792149740,4607148143687505249,1195340380355,2194839281857⟩,
 ⟨86,4589690904329736474,4607160477715333045,1176209681770,2196344900488⟩,
 ⟨87,4587703227212876035,4607170074746480091,1157055620216,2197516413079⟩,
 ⟨88,4585190368566828078,4607176931857597732,1137884030204,2198353462776⟩,
 ⟨89,4580687535080594769,4607181046959943494,1118700751586,2198855794605⟩,
 ⟨90,4374754456781193216,4607182418800017340,1099511627776,2199023255552⟩,
 ⟨91,13804059571935370399,4607181046959943493,1080322503966,2198855794605⟩,
 ⟨92,13808562405421603796,4607176931857597729,1061139225348,2198353462776⟩,
 ⟨93,13811075264067651750,4607170074746480087,1041967635336,2197516413079⟩,
 ⟨94,13813062941184512234,4607160477715333040,1022813573782,2196344900488⟩,
 ⟨95,13814316690646925498,4607148143687505242,1003682875197,2194839281857⟩,
 ⟨96,13815568527089489689,4607133076420061054,984581366980,2193000015811⟩,
 ⟨97,13816818069190697589,4607115280502636099,965514867633,2190827662610⟩,
 ⟨98,13817554296550301156,4607094761356039217,946489184997,2188322883973⟩,
 ⟨99,13818176202733015866,4607071525230601234,927510114479,2185486442879⟩,
 ⟨100,13818796392091185993,4607045579204271053,908583437289,2182319203337⟩,
 ⟨101,13819414675709125129,4607016931180459639,889714918675,2178822130118⟩,
 ⟨102,13820030865251653802,4606985589885632564,870910306171,2174996288464⟩,
 ⟨103,13820644773021468196,4606951564866651843,852175327844,2170842843764⟩,
 ⟨104,13821256212016314566,4606914866487867865,833515690551,2166363061198⟩,
 ⟨105,13821706126193002082,4606875505927962312,814937078196,2161558305350⟩,
 ⟨106,13822009097944468984,4606833495176543027,796445150006,2156430039796⟩,
 ⟨107,13822310557174453651,4606788847030491859,778045538801,2150979826655⟩,
 ⟨108,13822610412055554328,4606741575090066610,759743849280,2145209326115⟩,
 ⟨109,13822908571249069472,4606691693754758269,741545656317,2139120295926⟩,
 ⟨110,13823204943932820407,4606639218218904782,723456503256,2132714590865⟩,
 ⟨111,13823499439828816635,4606584164467062712,705481900229,2125994162174⟩,
 ⟨112,13823791969230755389,4606526549269138187,687627322474,2118961056958⟩,
 ⟨113,13824082443031347043,4606466390175278625,669898208668,2111617417571⟩,
 ⟨114,13824370772749458054,4606403705510526791,652299959272,2103965480956⟩,
 ⟨115,13824656870557063172,4606338514369238809,634837934882,2096007577967⟩,
 ⟨116,13824940649305998710,4606270836609267836,617517454600,2087746132658⟩,
 ⟨117,13825222022554508715,4606200692845915167,600343794413,2079183661545⟩,
 ⟨118,13825500904593575967,4606128104445650618,583322185583,2070322772841⟩,
 ⟨119,13825777210473029775,4606053093519604089,566457813057,2061166165658⟩,
 ⟨120,13826050856027422623,4605975682916830301,549755813888,2051716629186⟩,
 ⟨121,13826186306964545249,4605895896217348752,533221275665,2041977041847⟩,
 ⟨122,13826320344801926390,4605813757724961016,516859234969,2031950370413⟩,
 ⟨123,13826452928710342374,4605729292459847567,500674675836,2021639669105⟩,
 ⟨124,13826584018303450330,4605642526150946392,484672528240,2011048078663⟩,
 ⟨125,13826713573650090302,4605553485228115707,468857666590,2000178825388⟩,
 ⟨126,13826841555286448673,4605462196814083165,453234908245,1989035220160⟩,
 ⟨127,13826967924228079224,4605368688716184010,437809012050,1977620657428⟩,
 ⟨128,13827092641981778169,4605272989417890696,422584676882,1965938614179⟩,
 ⟨129,13827215670557309564,4605175128070136543,407566540220,1953992648877⟩,
 ⟨130,13827336972478977498,4605075134482436081,392759176735,1941786400378⟩,
 ⟨131,13827456510797041552,4604973039113804784,378167096894,1929323586825⟩,
 ⟨132,13827574249098972050,4604868873063480956,363794745584,1916608004510⟩,
 ⟨133,13827690151520541667,4604762668061452605,349646500763,1903643526723⟩,
 ⟨134,13827804182756750022,4604654456458792180,335726672124,1890434102570⟩,
 ⟨135,13827916308072577920,4604544271217802120,322039499782,1876983755770⟩,
 ⟨136,13828026493313567978,4604432145901974220,308589152982,1863296583428⟩,
 ⟨137,13828134704916228402,4604318114665765864,295379728829,1849376754789⟩,
 ⟨138,13828240909918256752,4604202212244196245,282415251042,1835228509968⟩,
 ⟨139,13828345075968580579,4604084473942265746,269699668727,1820856158658⟩,
 ⟨140,13828447171337211875,4603964935624201692,257236855174,1806264078817⟩,
 ⟨141,13828547164924912336,4603843633702533758,245030606675,1791456715332⟩,
 ⟨142,13828645026272666488,4603720605127002363,233084641373,1776438578670⟩,
 ⟨143,13828740725570959801,4603595887373303418,221402598124,1761214243502⟩,
 ⟨144,13828834233668858955,4603469518431672867,209988035392,1745788347307⟩,
 ⟨145,13828925522082891496,4603341536795314495,198844430164,1730165588962⟩,
 ⟨146,13829014563005722180,4603211981448674522,187975176889,1714350727312⟩,
 ⟨147,13829101329314623353,4603080891855566566,177383586447,1698348579716⟩,
 ⟨148,13829185794579736800,4602948307947150581,167072885139,1682164020583⟩,
 ⟨149,13829267933072124535,4602814270109769439,157046213705,1665801979887⟩,
 ⟨150,13829347719771606083,4602678819172646809,147306626366,1649267441664⟩,
 ⟨151,13829425130374379870,4602405173618253960,137857089894,1632565442495⟩,
 ⟨152,13829500141300426398,4602128867738800151,128700482711,1615701069969⟩,
 ⟨153,13829572729700690945,4601849985699732898,119839594007,1598679461139⟩,
 ⟨154,13829642873464043612,4601568612451222893,111277122894,1581505800952⟩,
 ⟨155,13829710551224014584,4601284833702287355,103015677585,1564185320670⟩,
 ⟨156,13829775742365302565,4600998735894682236,95057774596,1546723296280⟩,
 ⟨157,13829838427030054397,4600710406176571225,87405837981,1529125046884⟩,
 ⟨158,13829898586123913957,4600419932375979571,80062198594,1511395933078⟩,
 ⟨159,13829956201321838481,4600127402974040817,73029093378,1493541355323⟩,
 ⟨160,13830011255073680550,4599832907078044590,66308664687,1475566752296⟩,
 ⟨161,13830063730609534036,4599536534394293656,59902959626,1457477599235⟩,
 ⟨162,13830113611944842375,4599238375200778512,53813929437,1439279406272⟩,
 ⟨163,13830160883885267622,4598938520319677835,48043428897,1420977716751⟩,
 ⟨164,13830205532031318789,4598637061089693169,42593215756,1402578105546⟩,
 ⟨165,13830247542782738073,4598334089338226268,37464950202,1384086177356⟩,
 ⟨166,13830286903342643624,4597884175161538748,32660194354,1365507565001⟩,
 ⟨167,13830323601721427601,4597272736166692380,28180411788,1346847927708⟩,
 ⟨168,13830357626740408321,4596658828396877989,24026967088,1328112949381⟩,
 ⟨169,13830388968035235394,4596042638854349319,20201125434,1309308336877⟩,
 ⟨170,13830417616059046807,4595424355236410186,16704052215,1290439818263⟩,
 ⟨171,13830443562085376987,4594804165878240062,13536812673,1271513141073⟩,
 ⟨172,13830466798210814968,4594182259695525355,10700371579,1252534070555⟩,
 ⟨173,13830487317357411849,4593446032335921801,8195592942,1233508387919⟩,
 ⟨174,13830505113274836803,4592196490234713907,6023239741,1214441888572⟩,
 ⟨175,13830520180542280990,4590944653792149723,4183973695,1195340380355⟩,
 ⟨176,13830532514570108786,4589690904329736466,2678355064,1176209681770⟩,
 ⟨177,13830542111601255832,4587703227212876038,1506842473,1157055620216⟩,
 ⟨178,13830548968712373473,4585190368566828100,669792776,1137884030204⟩,
 ⟨179,13830553083814719235,4580687535080594850,167460947,1118700751586⟩,
 ⟨180,13830554455654793081,4380278403199139840,0,1099511627776⟩,
 ⟨181,13830553083814719234,13804059571935370244,167460947,1080322503966⟩,
 ⟨182,13830548968712373471,13808562405421603700,669792776,1061139225348⟩,
 ⟨183,13830542111601255829,13811075264067651636,1506842473,1041967635336⟩,
 ⟨184,13830532514570108782,13813062941184512168,2678355064,1022813573782⟩,
 ⟨185,13830520180542280985,13814316690646925423,4183973695,1003682875197⟩,
 ⟨186,13830505113274836797,13815568527089489605,6023239741,984581366980⟩,
 ⟨187,13830487317357411842,13816818069190697496,8195592942,965514867633⟩,
 ⟨188,13830466798210814960,13817554296550301106,10700371579,946489184997⟩,
 ⟨189,13830443562085376978,13818176202733015812,13536812673,927510114479⟩,
 ⟨190,13830417616059046797,13818796392091185934,16704052215,908583437289⟩,
 ⟨191,13830388968035235384,13819414675709125066,20201125434,889714918675⟩,
 ⟨192,13830357626740408310,13820030865251653734,24026967088,870910306171⟩,
 ⟨193,13830323601721427589,13820644773021468123,28180411788,852175327844⟩,
 ⟨194,13830286903342643611,13821256212016314489,32660194354,833515690551⟩,
 ⟨195,13830247542782738059,13821706126193002041,37464950202,814937078196⟩,
 ⟨196,13830205532031318774,13822009097944468941,42593215756,796445150006⟩,
 ⟨197,13830160883885267606,13822310557174453606,48043428897,778045538801⟩,
 ⟨198,13830113611944842358,13822610412055554281,53813929437,759743849280⟩,
 ⟨199,13830063730609534018,13822908571249069423,59902959626,741545656317⟩,
 ⟨200,13830011255073680531,13823204943932820356,66308664687,723456503256⟩,
 ⟨201,13829956201321838461,13823499439828816582,73029093378,705481900229⟩,
 ⟨202,13829898586123913936,13823791969230755334,80062198594,687627322474⟩,
 ⟨203,13829838427030054375,13824082443031346987,87405837981,669898208668⟩,
 ⟨204,13829775742365302542,13824370772749457996,95057774596,652299959272⟩,
 ⟨205,13829710551224014560,13824656870557063112,103015677585,634837934882⟩,
 ⟨206,13829642873464043587,13824940649305998648,111277122894,617517454600⟩,
 ⟨207,13829572729700690919,13825222022554508651,119839594007,600343794413⟩,
 ⟨208,13829500141300426370,13825500904593575901,128700482711,583322185583⟩,
 ⟨209,13829425130374379841,13825777210473029707,137857089894,566457813057⟩,
 ⟨210,13829347719771606054,13826050856027422553,147306626366,549755813888⟩,
 ⟨211,13829267933072124506,13826186306964545213,157046213705,533221275665⟩,
 ⟨212,13829185794579736771,13826320344801926353,167072885139,516859234969⟩,
 ⟨213,13829101329314623323,13826452928710342336,177383586447,500674675836⟩,
 ⟨214,13829014563005722148,13826584018303450291,187975176889,484672528240⟩,
 ⟨215,13828925522082891463,13826713573650090262,198844430164,468857666590⟩,
 ⟨216,13828834233668858921,13826841555286448633,209988035392,453234908245⟩,
 ⟨217,13828740725570959766,13826967924228079183,221402598124,437809012050⟩,
 ⟨218,13828645026272666453,13827092641981778127,233084641373,422584676882⟩,
 ⟨219,13828547164924912301,13827215670557309522,245030606675,407566540220⟩,
 ⟨220,13828447171337211840,13827336972478977455,257236855174,392759176735⟩,
 ⟨221,13828345075968580543,13827456510797041508,269699668727,378167096894⟩,
 ⟨222,13828240909918256715,13827574249098972005,282415251042,363794745584⟩,
 ⟨223,13828134704916228365,13827690151520541621,295379728829,349646500763⟩,
 ⟨224,13828026493313567940,13827804182756749975,308589152982,335726672124⟩,
 ⟨225,13827916308072577881,13827916308072577873,322039499782,322039499782⟩,
 ⟨226,13827804182756749982,13828026493313567930,335726672124,308589152982⟩,
 ⟨227,13827690151520541627,13828134704916228353,349646500763,295379728829⟩,
 ⟨228,13827574249098972009,13828240909918256703,363794745584,282415251042⟩,
 ⟨229,13827456510797041511,13828345075968580529,378167096894,269699668727⟩,
 ⟨230,13827336972478977458,13828447171337211825,392759176735,257236855174⟩,
 ⟨231,13827215670557309525,13828547164924912286,407566540220,245030606675⟩,
 ⟨232,13827092641981778131,13828645026272666437,422584676882,233084641373⟩,
 ⟨233,13826967924228079187,13828740725570959749,437809012050,221402598124⟩,
 ⟨234,13826841555286448637,13828834233668858902,453234908245,209988035392⟩,
 ⟨235,13826713573650090266,13828925522082891443,468857666590,198844430164⟩,
 ⟨236,13826584018303450294,13829014563005722127,484672528240,187975176889⟩,
 ⟨237,13826452928710342339,13829101329314623300,500674675836,177383586447⟩,
 ⟨238,13826320344801926355,13829185794579736747,516859234969,167072885139⟩,
 ⟨239,13826186306964545214,13829267933072124481,533221275665,157046213705⟩,
 ⟨240,13826050856027422553,13829347719771606028,549755813888,147306626366⟩,
 ⟨241,13825777210473029706,13829425130374379814,566457813057,137857089894⟩,
 ⟨242,13825500904593575899,13829500141300426341,583322185583,128700482711⟩,
 ⟨243,13825222022554508648,13829572729700690888,600343794413,119839594007⟩,
 ⟨244,13824940649305998645,13829642873464043555,617517454600,111277122894⟩,
 ⟨245,13824656870557063109,13829710551224014527,634837934882,103015677585⟩,
 ⟨246,13824370772749457992,13829775742365302508,652299959272,95057774596⟩,
 ⟨247,13824082443031346983,13829838427030054339,669898208668,87405837981⟩,
 ⟨248,13823791969230755331,13829898586123913898,687627322474,80062198594⟩,
 ⟨249,13823499439828816580,13829956201321838421,705481900229,73029093378⟩,
 ⟨250,13823204943932820355,13830011255073680490,723456503256,66308664687⟩,
 ⟨251,13822908571249069423,13830063730609533976,741545656317,59902959626⟩,
 ⟨252,13822610412055554281,13830113611944842315,759743849280,53813929437⟩,
 ⟨253,13822310557174453606,13830160883885267561,778045538801,48043428897⟩,
 ⟨254,13822009097944468942,13830205532031318727,796445150006,42593215756⟩,
 ⟨255,13821706126193002043,13830247542782738011,814937078196,37464950202⟩,
 ⟨256,13821256212016314494,13830286903342643562,833515690551,32660194354⟩,
 ⟨257,13820644773021468130,13830323601721427538,852175327844,28180411788⟩,
 ⟨258,13820030865251653744,13830357626740408258,870910306171,24026967088⟩,
 ⟨259,13819414675709125078,13830388968035235331,889714918675,20201125434⟩,
 ⟨260,13818796392091185949,13830417616059046743,908583437289,16704052215⟩,
 ⟨261,13818176202733015829,13830443562085376922,927510114479,13536812673⟩,
 ⟨262,13817554296550301126,13830466798210814903,946489184997,10700371579⟩,
 ⟨263,13816818069190697544,13830487317357411784,965514867633,8195592942⟩,
 ⟨264,13815568527089489659,13830505113274836738,984581366980,6023239741⟩,
 ⟨265,13814316690646925484,13830520180542280925,1003682875197,4183973695⟩,
 ⟨266,13813062941184512236,13830532514570108721,1022813573782,2678355064⟩,
 ⟨267,13811075264067651788,13830542111601255767,1041967635336,1506842473⟩,
 ⟨268,13808562405421603868,13830548968712373408,1061139225348,669792776⟩,
 ⟨269,13804059571935370615,13830553083814719170,1080322503966,167460947⟩,
 ⟨270,13603439333821382656,13830554455654793016,1099511627776,0⟩,
 ⟨271,4580687535080594405,13830553083814719169,1118700751586,167460947⟩,
 ⟨272,4585190368566827858,13830548968712373406,1137884030204,669792776⟩,
 ⟨273,4587703227212875776,13830542111601255764,1157055620216,1506842473⟩,
 ⟨274,4589690904329736324,13830532514570108717,1176209681770,2678355064⟩,
 ⟨275,4590944653792149570,13830520180542280920,1195340380355,4183973695⟩,
 ⟨276,4592196490234713743,13830505113274836732,1214441888572,6023239741⟩,
 ⟨277,4593446032335921625,13830487317357411777,1233508387919,8195592942⟩,
 ⟨278,4594182259695525261,13830466798210814895,1252534070555,10700371579⟩,
 ⟨279,4594804165878239962,13830443562085376913,1271513141073,13536812673⟩,
 ⟨280,4595424355236410080,13830417616059046733,1290439818263,16704052215⟩,
 ⟨281,4596042638854349207,13830388968035235320,1309308336877,20201125434⟩,
 ⟨282,4596658828396877871,13830357626740408246,1328112949381,24026967088⟩,
 ⟨283,4597272736166692256,13830323601721427525,1346847927708,28180411788⟩,
 ⟨284,4597884175161538617,13830286903342643548,1365507565001,32660194354⟩,
 ⟨285,4598334089338226199,13830247542782737996,1384086177356,37464950202⟩,
 ⟨286,4598637061089693096,13830205532031318711,1402578105546,42593215756⟩,
 ⟨287,4598938520319677758,13830160883885267543,1420977716751,48043428897⟩,
 ⟨288,4599238375200778431,13830113611944842295,1439279406272,53813929437⟩,
 ⟨289,4599536534394293571,13830063730609533955,1457477599235,59902959626⟩,
 ⟨290,4599832907078044502,13830011255073680468,1475566752296,66308664687⟩,
 ⟨291,4600127402974040725,13829956201321838399,1493541355323,73029093378⟩,
 ⟨292,4600419932375979475,13829898586123913875,1511395933078,80062198594⟩,
 ⟨293,4600710406176571125,13829838427030054314,1529125046884,87405837981⟩,
 ⟨294,4600998735894682132,13829775742365302481,1546723296280,95057774596⟩,
 ⟨295,4601284833702287246,13829710551224014500,1564185320670,103015677585⟩,
 ⟨296,4601568612451222780,13829642873464043528,1581505800952,111277122894⟩,
 ⟨297,4601849985699732781,13829572729700690860,1598679461139,119839594007⟩,
 ⟨298,4602128867738800029,13829500141300426312,1615701069969,128700482711⟩,
 ⟨299,4602405173618253834,13829425130374379784,1632565442495,137857089894⟩,
 ⟨300,4602678819172646678,13829347719771605997,1649267441664,147306626366⟩,
 ⟨301,4602814270109769371,13829267933072124450,1665801979887,157046213705⟩,
 ⟨302,4602948307947150510,13829185794579736715,1682164020583,167072885139⟩,
 ⟨303,4603080891855566492,13829101329314623267,1698348579716,177383586447⟩,
 ⟨304,4603211981448674446,13829014563005722093,1714350727312,187975176889⟩,
 ⟨305,4603341536795314417,13828925522082891409,1730165588962,198844430164⟩,
 ⟨306,4603469518431672787,13828834233668858868,1745788347307,209988035392⟩,
 ⟨307,4603595887373303336,13828740725570959714,1761214243502,221402598124⟩,
 ⟨308,4603720605127002279,13828645026272666401,1776438578670,233084641373⟩,
 ⟨309,4603843633702533673,13828547164924912249,1791456715332,245030606675⟩,
 ⟨310,4603964935624201605,13828447171337211788,1806264078817,257236855174⟩,
 ⟨311,4604084473942265657,13828345075968580492,1820856158658,269699668727⟩,
 ⟨312,4604202212244196154,13828240909918256665,1835228509968,282415251042⟩,
 ⟨313,4604318114665765770,13828134704916228315,1849376754789,295379728829⟩,
 ⟨314,4604432145901974123,13828026493313567892,1863296583428,308589152982⟩,
 ⟨315,4604544271217802020,13827916308072577834,1876983755770,322039499782⟩,
 ⟨316,4604654456458792076,13827804182756749936,1890434102570,335726672124⟩,
 ⟨317,4604762668061452498,13827690151520541581,1903643526723,349646500763⟩,
 ⟨318,4604868873063480847,13827574249098971964,1916608004510,363794745584⟩,
 ⟨319,4604973039113804673,13827456510797041467,1929323586825,378167096894⟩,
 ⟨320,4605075134482435968,13827336972478977415,1941786400378,392759176735⟩,
 ⟨321,4605175128070136428,13827215670557309483,1953992648877,407566540220⟩,
 ⟨322,4605272989417890579,13827092641981778089,1965938614179,422584676882⟩,
 ⟨323,4605368688716183891,13826967924228079146,1977620657428,437809012050⟩,
 ⟨324,4605462196814083044,13826841555286448597,1989035220160,453234908245⟩,
 ⟨325,4605553485228115584,13826713573650090227,2000178825388,468857666590⟩,
 ⟨326,4605642526150946267,13826584018303450256,2011048078663,484672528240⟩,
 ⟨327,4605729292459847439,13826452928710342302,2021639669105,500674675836⟩,
 ⟨328,4605813757724960885,13826320344801926319,2031950370413,516859234969⟩,
 ⟨329,4605895896217348619,13826186306964545179,2041977041847,533221275665⟩,
 ⟨330,4605975682916830166,13826050856027422485,2051716629186,549755813888⟩,
 ⟨331,4606053093519603951,13825777210473029640,2061166165658,566457813057⟩,
 ⟨332,4606128104445650478,13825500904593575835,2070322772841,583322185583⟩,
 ⟨333,4606200692845915024,13825222022554508587,2079183661545,600343794413⟩,
 ⟨334,4606270836609267690,13824940649305998586,2087746132658,617517454600⟩,
 ⟨335,4606338514369238661,13824656870557063052,2096007577967,634837934882⟩,
 ⟨336,4606403705510526641,13824370772749457937,2103965480956,652299959272⟩,
 ⟨337,4606466390175278472,13824082443031346930,2111617417571,669898208668⟩,
 ⟨338,4606526549269138031,13823791969230755280,2118961056958,687627322474⟩,
 ⟨339,4606584164467062554,13823499439828816531,2125994162174,705481900229⟩,
 ⟨340,4606639218218904622,13823204943932820308,2132714590865,723456503256⟩,
 ⟨341,4606691693754758107,13822908571249069378,2139120295926,741545656317⟩,
 ⟨342,4606741575090066446,13822610412055554238,2145209326115,759743849280⟩,
 ⟨343,4606788847030491692,13822310557174453565,2150979826655,778045538801⟩,
 ⟨344,4606833495176542858,13822009097944468903,2156430039796,796445150006⟩,
 ⟨345,4606875505927962142,13821706126193002006,2161558305350,814937078196⟩,
 ⟨346,4606914866487867693,13821256212016314424,2166363061198,833515690551⟩,
 ⟨347,4606951564866651669,13820644773021468064,2170842843764,852175327844⟩,
 ⟨348,4606985589885632388,13820030865251653682,2174996288464,870910306171⟩,
 ⟨349,4607016931180459461,13819414675709125021,2178822130118,889714918675⟩,
 ⟨350,4607045579204270873,13818796392091185897,2182319203337,908583437289⟩,
 ⟨351,4607071525230601052,13818176202733015782,2185486442879,927510114479⟩,
 ⟨352,4607094761356039032,13817554296550301084,2188322883973,946489184997⟩,
 ⟨353,4607115280502635912,13816818069190697469,2190827662610,965514867633⟩,
 ⟨354,4607133076420060866,13815568527089489593,2193000015811,984581366980⟩,
 ⟨355,4607148143687505053,13814316690646925427,2194839281857,1003682875197⟩,
 ⟨356,4607160477715332849,13813062941184512188,2196344900488,1022813573782⟩,
 ⟨357,4607170074746479895,13811075264067651710,2197516413079,1041967635336⟩,
 ⟨358,4607176931857597536,13808562405421603808,2198353462776,1061139225348⟩,
 ⟨359,4607181046959943298,13804059571935370530,2198855794605,1080322503966⟩]
theorem e0F:c1C 0 (a0X 0) e7n=true:=by decide +kernel
theorem c1D:∀(l:List TE) (k:Nat),c1C k (a0X k) l=true->∀j,k<=j->j<360->∃t∈l,t.k=j /\ (t.a,t.b)=a0X j /\ b3v t.a t.c=true /\ b3v t.b t.s=true
 | [],k,h,j,h1,h2=>by
   simp only[c1C]at h;have:=a0l h;omega
 | t::r,k,h,j,h1,h2=>by
   simp only[c1C,and_eq_true]at h;obtain⟨⟨⟨⟨⟨a1,a2⟩,a3⟩,a4⟩,a5⟩,a6⟩:=h;have e:(t.a,t.b)=a0X k:=by rw[a0l a2,a0l a3]
   by_cases c:j=k
   ·subst c;exact⟨t,List.mem_cons_self,a0l a1,e,a4,a5⟩
   ·rw[e]at a6;obtain⟨t',h3,h4⟩:=c1D r (k+1) a6 j (by omega) h2;exact⟨t',List.mem_cons_of_mem _ h3,h4⟩
def Abs (x A:Rat):Prop := -A<=x /\ x<=A
theorem Abs.mono {x A B:Rat} (h:Abs x A) (hAB:A<=B):Abs x B:=⟨by have:=h.1;grind,by have:=h.2;grind⟩
theorem Abs.nn {x A:Rat} (h:Abs x A):0<=A:=by have:=h.1;have:=h.2;grind
theorem Abs.mul {x y A B:Rat} (hx:Abs x A) (hy:Abs y B):Abs (x*y) (A*B):=by
 obtain⟨h1,h2⟩:=hx;obtain⟨h3,h4⟩:=hy;have p1:=Rat.mul_nonneg (show 0<=A-x by grind) (show 0<=B-y by grind);have p2:=Rat.mul_nonneg (show 0<=A+x by grind) (show 0<=B+y by grind);have p3:=Rat.mul_nonneg (show 0<=A-x by grind) (show 0<=B+y by grind);have p4:=Rat.mul_nonneg (show 0<=A+x by grind) (show 0<=B-y by grind);constructor<;>grind
theorem Abs.near {x y e:Rat} (h:Abs (x-y) e):b3u x y e:=⟨by have:=h.2;grind,by have:=h.1;grind⟩
def e9k (w:Nat):Rat:=match Ieee.double.read w with
 |.number s m e=>RV s m e
 |_=>0
theorem IsR.val {w:Nat} {q:Rat} (h:IsR w q):q=e9k w:=by
 obtain⟨s,m,e,hr,_,rfl⟩:=h;unfold e9k;rw[hr]
def hh:Rat:=1/1099511627776
theorem p40:p2 (-40)=hh:=by
 have h1:p2 ((40:Int) + -40)=p2 40*p2 (-40):=a1E _ _;have h2:p2 ((40:Int) + -40)=1:=by
  have:((40:Int) + -40)=((0:Nat):Int):=by decide
  rw[this,a1K];rfl
 have h3:p2 40=1099511627776:=by
  have:(40:Int)=((40:Nat):Int):=rfl;rw[this,a1K];rfl
 rw[h2,h3]at h1;unfold hh;grind
theorem c6F {w C:Nat} (h:b3v w C=true):IsR w (e9k w) /\ C<=2199023255552 /\ b3u (e9k w) (((C:Rat)-1099511627776)*hh) hh:=by
 unfold b3v at h;split at h
 ·rename_i s m e hr;simp only[and_eq_true,decide_eq_true_eq]at h;obtain⟨⟨⟨⟨h1,h2⟩,h3⟩,h4⟩,h5⟩:=h;have hR:IsR w (RV s m e):=⟨s,m,e,hr,h2,rfl⟩;rw[<- hR.val];refine⟨hR,by simpa using h3,?_⟩;have hv:RV s m e=(((if s then -(m:Int)else(m:Int)):Int):Rat)*p2 e:=by
   unfold RV;cases s
   ·have:sgR false=1:=rfl;rw[this,if_neg (by decide),Rat.intCast_natCast];grind
   ·have:sgR true=-1:=rfl;rw[this,if_pos rfl,Rat.intCast_neg,Rat.intCast_natCast];grind
  rw[hv,<- p40];have e1:p2 (-40)=((2^(-40-e).toNat:Nat):Rat)*p2 e:=by
   have:(-40:Int)=((-40-e).toNat:Int)+e:=by omega
   have h6:=a1E ((-40-e).toNat:Int) e;rw[<- this,a1K]at h6;exact h6
  rw[e1];have hp:=a1f e;have r1:(((if s then -(m:Int)else(m:Int)):Int):Rat)<=((C:Rat)-1099511627776)*((2^(-40-e).toNat:Nat):Rat)+((2^(-40-e).toNat:Nat):Rat):=by
   have:=Rat.intCast_le_intCast.2 h4;simpa[Rat.intCast_natCast]using this
  have r2:((C:Rat)-1099511627776)*((2^(-40-e).toNat:Nat):Rat)<=(((if s then -(m:Int)else(m:Int)):Int):Rat)+((2^(-40-e).toNat:Nat):Rat):=by
   have:=Rat.intCast_le_intCast.2 h5;simpa[Rat.intCast_natCast]using this
  generalize ((2^(-40-e).toNat:Nat):Rat)=g at *;generalize (((if s then -(m:Int)else(m:Int)):Int):Rat)=v at *;generalize p2 e=t at *;have m1:=a1h r1 (Rat.le_of_lt hp);have m2:=a1h r2 (Rat.le_of_lt hp);constructor<;>grind
 ·cases h
def tc (j:Nat):Rat:=e9k (a0X j).1
def ts (j:Nat):Rat:=e9k (a0X j).2
theorem e7o (j:Nat) (hj:j<360):∃t∈e7n,t.k=j /\ IsR (a0X j).1 (tc j) /\ IsR (a0X j).2 (ts j) /\ t.c<=2199023255552 /\ t.s<=2199023255552 /\ b3u (tc j) (((t.c:Rat)-1099511627776)*hh) hh /\ b3u (ts j) (((t.s:Rat)-1099511627776)*hh) hh:=by
 obtain⟨t,h1,h2,h3,h4,h5⟩:=c1D e7n 0 e0F j (zero_le _) hj;have e1:t.a=(a0X j).1:=congrArg Prod.fst h3;have e2:t.b=(a0X j).2:=congrArg Prod.snd h3;rw[e1]at h4;rw[e2]at h5;obtain⟨a1,a2,a3⟩:=c6F h4;obtain⟨b1,b2,b3⟩:=c6F h5;exact⟨t,h1,h2,a1,b1,a2,b2,a3,b3⟩
theorem tcR {j:Nat} (hj:j<360):IsR (a0X j).1 (tc j):=let ⟨_,_,_,h,_⟩:=e7o j hj;h
theorem tsR {j:Nat} (hj:j<360):IsR (a0X j).2 (ts j):=let ⟨_,_,_,_,h,_⟩:=e7o j hj;h
theorem c6G {C:Nat} (h:C<=2199023255552):Abs (((C:Rat)-1099511627776)*hh) 1:=by
 have h1:=a2L C;have h2:(C:Rat)<=2199023255552:=by exact_mod_cast a0R h
 unfold hh;constructor<;>grind
theorem g3x {j:Nat} (hj:j<360):Abs (tc j) (1+hh) /\ Abs (ts j) (1+hh):=by
 obtain⟨t,_,_,_,_,h1,h2,h3,h4⟩:=e7o j hj;have a:=c6G h1;have b:=c6G h2;obtain⟨a1,a2⟩:=a;obtain⟨b1,b2⟩:=b;obtain⟨c1,c2⟩:=h3;obtain⟨d1,d2⟩:=h4;exact⟨⟨by grind,by grind⟩,by grind,by grind⟩
theorem c6H (n:Int):-360<Int.tmod n 360 /\ Int.tmod n 360<360:=⟨Int.lt_tmod_of_pos n (by decide),Int.tmod_lt_of_pos n (by decide)⟩
theorem c8O {x:Int} (h1:-360<x) (h2:x<360):Int.tmod x 360=x:=by
 by_cases h:0<=x
 ·exact Int.tmod_eq_of_lt h h2
 ·have e:x=-(-x):=by omega
  rw[e,Int.neg_tmod,Int.tmod_eq_of_lt (by omega) (by omega)]
def md (n:Int):Nat:=(Int.tmod (Int.tmod n 360+360) 360).toNat
theorem d4X (n:Int):(md n:Int)=(Int.tmod n 360+360)%360:=by
 unfold md;have:=c6H n;rw[Int.tmod_eq_emod_of_nonneg (by omega)];omega
theorem a9S (n:Int):md n<360:=by
 have:=d4X n;omega
theorem e0G {x:Int} (h1:-360<x) (h2:x<360):(md x:Int)=(x+360)%360:=by rw[d4X,c8O h1 h2]
theorem f3D (n:Int):Int.tmod (wrap IntKind.i64 (Int.tmod n 360+360)) 360=(md n:Int):=by
 have:=c6H n;rw[w64 (by omega) (by omega),d4X,Int.tmod_eq_emod_of_nonneg (by omega)]
theorem a8Q (n:Int):d9C (n,())=some ((md n:Int),()):=by
 unfold d9C g1f;exact congrArg (fun z:Int=>some (z,())) (f3D n)
theorem b7T (n:Int):e5F (n,())=some ((md n:Int),()):=a8Q n
def btw (ka kb:Int):Int:=let v:Int:=(md ((md kb:Int)-(md ka:Int)):Int);if v>360-v then 360-v else v
theorem d4Y (ka kb:Int):f2j (ka,kb,())=some (btw ka kb,()):=by
 unfold f2j g1i;have h1:=a9S ka;have h2:=a9S kb;have e1:d9C (kb,())=some ((md kb:Int),()):=a8Q kb;have e2:d9C (ka,())=some ((md ka:Int),()):=a8Q ka;have e3:d9C ((md kb:Int)-(md ka:Int),())=some ((md ((md kb:Int)-(md ka:Int)):Int),()):=a8Q _;have h3:=a9S ((md kb:Int)-(md ka:Int));simp only[d6T,d6U,e1,e2,isSome_some,getD_some,cond_true];rw[w64 (by omega) (by omega)];simp only[e3,isSome_some,getD_some,cond_true];have e5:wrap IntKind.i64 (0-(md ((md kb:Int)-(md ka:Int)):Int))=-(md ((md kb:Int)-(md ka:Int)):Int):=by rw[w64 (by omega) (by omega)];omega
 rw[e5];have e4:d9C (-(md ((md kb:Int)-(md ka:Int)):Int),())=some ((md (-(md ((md kb:Int)-(md ka:Int)):Int)):Int),()):=a8Q _;simp only[e4,isSome_some,getD_some,cond_true];have h6:=e0G (x := -(md ((md kb:Int)-(md ka:Int)):Int)) (by omega) (by omega);have key:a4x (md ((md kb:Int)-(md ka:Int)):Int) (md (-(md ((md kb:Int)-(md ka:Int)):Int)):Int)=btw ka kb:=by
  unfold btw a4x;generalize md ((md kb:Int)-(md ka:Int))=v at *;rw[h6];dsimp only;split<;>split<;>omega
 exact congrArg (fun z:Int=>some (z,())) key
theorem d4Z (ka kb:Int):f0P (ka,kb,())=some (btw ka kb,()):=by
 unfold f0P f8U;have h1:=a9S ka;have h2:=a9S kb;have e1:e5F (kb,())=some ((md kb:Int),()):=b7T kb;have e2:e5F (ka,())=some ((md ka:Int),()):=b7T ka;have e3:e5F ((md kb:Int)-(md ka:Int),())=some ((md ((md kb:Int)-(md ka:Int)):Int),()):=b7T _;have h3:=a9S ((md kb:Int)-(md ka:Int));simp only[d6E,d6F,e1,e2,isSome_some,getD_some,cond_true];rw[w64 (by omega) (by omega)];simp only[e3,isSome_some,getD_some,cond_true];have e5:wrap IntKind.i64 (360-(md ((md kb:Int)-(md ka:Int)):Int))=360-(md ((md kb:Int)-(md ka:Int)):Int):=w64 (by omega) (by omega);rw[e5];unfold btw;generalize md ((md kb:Int)-(md ka:Int))=v at *;dsimp only;by_cases c:(v:Int)>360-(v:Int)
 ·have:decide ((v:Int)>360-(v:Int))=true:=by simpa using c
  rw[this,if_pos c];rfl
 ·have:decide ((v:Int)>360-(v:Int))=false:=by simpa using c
  rw[this,if_neg c];rfl
theorem d5a (z w:Nat×Nat):f1V (z,w,())=some (c6E z w,()):=rfl
theorem d5b (z w:Nat×Nat):f0E (z,w,())=some (c6E z w,()):=rfl
theorem e7p (n:Int):f5X (n,())=some (a0X (md n),()):=by
 have hlt:=a9S n;have e1:d9C (n,())=some ((md n:Int),()):=a8Q n;have hl:d3x (((4607182418800017408,0),(md n:Int),()),())=some ((a0X (md n),()),()):=by
  have:=a2z (q:=c0Q d6T d6U c8o c8p) (fun k=>((a0X k,((md n-k:Nat):Int),()),())) (md n) ((a0X (md n),()),()) ?_ ?_ (c5U (((4607182418800017408,0),(md n:Int),()),())) ?_
  ·exact this
  ·intro k f hk;unfold c0Q;have e2:decide (((md n-k:Nat):Int)>0)=true:=by simp;omega
   have e3:wrap IntKind.i64 (((md n-k:Nat):Int)-1)=((md n-(k+1):Nat):Int):=by rw[w64 (by omega) (by omega)];omega
   have e4:f1V (a0X k,(4607181046959943561,4580687535080594718),())=some (a0X (k+1),()):=d5a _ _;simp only[e2,e3,c8o,c8p,e4,isSome_some,getD_some,cond_true]
  ·intro f;unfold c0Q;simp
  ·simp only[c5U];omega
 unfold f5X g1u;simp only[d6T,d6U,e1,b6U,b6V,hl,isSome_some,getD_some,cond_true]
theorem e7q (n:Int):f5m (n,())=some (a0X (md n),()):=by
 have hlt:=a9S n;have e1:e5F (n,())=some ((md n:Int),()):=b7T n;have hl:d1U (((4607182418800017408,0),(md n:Int),()),())=some ((a0X (md n),()),()):=by
  have:=a2z (q:=b9Q d6E d6F c7W c7X c7Y c7Z) (fun k=>((a0X k,((md n-k:Nat):Int),()),())) (md n) ((a0X (md n),()),()) ?_ ?_ (c5a (((4607182418800017408,0),(md n:Int),()),())) ?_
  ·exact this
  ·intro k f hk;unfold b9Q;have e2:decide (((md n-k:Nat):Int)>0)=true:=by simp;omega
   have e3:wrap IntKind.i64 (((md n-k:Nat):Int)-1)=((md n-(k+1):Nat):Int):=by rw[w64 (by omega) (by omega)];omega
   have e4:f0E (a0X k,c8N,())=some (a0X (k+1),()):=d5b _ _;have e5:f5d ()=some (c8N,()):=rfl;simp only[e2,e3,c7W,c7X,e5,c7Y,c7Z,e4,isSome_some,getD_some,cond_true]
  ·intro f;unfold b9Q;simp
  ·simp only[c5a];omega
 unfold f5m f9f;simp only[d6E,d6F,e1,b5w,b5x,hl,isSome_some,getD_some,cond_true]
def b2r (z w:Nat×Nat):Nat:=a0g .add .f64 (a0g .mul .f64 z.1 w.1) (a0g .mul .f64 z.2 w.2)
def bm (z:Nat×Nat):Nat->Int×Nat
 |0=>(0,0)
 |k+1=>bif (k:Int)==0 then((k:Int),b2r z (a0X k))else bif fgt .f64 (b2r z (a0X k)) (bm z k).2 then((k:Int),b2r z (a0X k))else bm z k
theorem e7r (z:Nat×Nat) (k:Nat):f5I (((k:Int),a0X k,(),(),(),()),(z,(bm z k).2,(bm z k).1,()))=some ((),(z,(bm z (k+1)).2,(bm z (k+1)).1,())):=by
 unfold f5I g0H;have e1:f1U (z,a0X k,())=some (b2r z (a0X k),()):=rfl;simp only[c8m,c8n,e1,isSome_some,getD_some,cond_true,bm];cases (k:Int)==0
 ·simp only[cond_false];cases fgt .f64 (b2r z (a0X k)) (bm z k).2<;>rfl
 ·rfl
theorem e7s (z:Nat×Nat):f5J (((),()),z,0,0,())=some ((),(z,(bm z 360).2,(bm z 360).1,())):=by
 have hl:d3m (((),(4607182418800017408,0),0,()),(z,()),(0,()),(0,()),())=some ((),(z,()),((bm z 360).2,()),((bm z 360).1,()),()):=by
  have:=a2z (q:=c0G c8o c8p d9s d9t) (fun k=>(((),a0X k,(k:Int),()),(z,()),((bm z k).2,()),((bm z k).1,()),())) 360 ((),(z,()),((bm z 360).2,()),((bm z 360).1,()),()) ?_ ?_ (c5M (((),(4607182418800017408,0),0,()),(z,()),(0,()),(0,()),())) ?_
  ·exact this
  ·intro k f hk;unfold c0G;have e2:decide ((k:Int)<360)=true:=by simp;omega
   have e4:f1V (a0X k,(4607181046959943561,4580687535080594718),())=some (a0X (k+1),()):=d5a _ _;have e5:=e7r z k;simp only[e2,a3I k (by omega),c8o,c8p,e4,d9s,d9t,e5,isSome_some,getD_some,cond_true]
  ·intro f;unfold c0G;simp
  ·simp[c5M]
 unfold f5J g0L;simp only[b6B,b6C,hl,isSome_some,getD_some,cond_true]
def d5c (z:Nat×Nat):Bool:=feq .f64 z.1 0&&feq .f64 z.2 0
def b7U (z:Nat×Nat):Int:=bif !a4u z then -1 else bif d5c z then -1 else(bm z 360).1
theorem e7t (z:Nat×Nat):f1Y (z,())=some (b7U z,()):=by
 unfold f1Y g0O b7U;have e1:F61 (z,())=some (a4u z,()):=a9v z;have e2:=e7s z;simp only[K61,G61,e1,f5K,f5L,e2,isSome_some,getD_some,cond_true];show(bif !a4u z then some (-1,())else bif d5c z then some (-1,())else some ((bm z 360).1,()))=_;cases a4u z<;>cases d5c z<;>rfl
def bs (z:Nat×Nat):Nat->Int×Nat
 |0=>(0,b2r z (a0X 0))
 |k+1=>bif fgt .f64 (b2r z (a0X (k+1))) (bs z k).2 then(((k+1:Nat):Int),b2r z (a0X (k+1)))else bs z k
def gk (x g:Nat):Nat->Nat
 |0=>g
 |k+1=>a0g .quo .f64 (a0g .add .f64 (gk x g k) (a0g .quo .f64 x (gk x g k))) 4611686018427387904
def b7V (x:Nat):Nat:=bif (fgt .f64 x 4427486594234968593||feq .f64 x 4427486594234968593)then(bif !(flt .f64 x 4861130398305394688||feq .f64 x 4861130398305394688)then 0 else gk x (b8l .f64 x 4607182418800017408) 60)else 0
set_option maxRecDepth 100000 in
theorem e7u (x:Nat):f2d (x,())=some (b7V x,()):=by
 have hl:d3p ((x,b8l .f64 x 4607182418800017408,0,()),())=some ((gk x (b8l .f64 x 4607182418800017408) 60,()),()):=by
  have:=a2z (q:=c0I) (fun k=>((x,gk x (b8l .f64 x 4607182418800017408) k,(k:Int),()),())) 60 ((gk x (b8l .f64 x 4607182418800017408) 60,()),()) ?_ ?_ (c5N ((x,b8l .f64 x 4607182418800017408,0,()),())) ?_
  ·exact this
  ·intro k f hk;unfold c0I;have e2:decide ((k:Int)<60)=true:=by simp;omega
   simp only[e2,a3I k (by omega),cond_true];rfl
  ·intro f;unfold c0I;simp
  ·simp[c5N]
 unfold f2d g0W b7V;simp only[b6F,b6G,hl,isSome_some,getD_some,cond_true];generalize gk x (b8l .f64 x 4607182418800017408) 60=g;cases (fgt .f64 x 4427486594234968593||feq .f64 x 4427486594234968593)<;>cases (flt .f64 x 4861130398305394688||feq .f64 x 4861130398305394688)<;>rfl
def d7j (z:Nat×Nat):Nat:=bif !a4u z then 0 else b7V (b2r z z)
theorem e7v (z:Nat×Nat):f2f (z,())=some (d7j z,()):=by
 unfold f2f g0Z d7j;have e1:F61 (z,())=some (a4u z,()):=a9v z;have e2:f1U (z,z,())=some (b2r z z,()):=rfl;have e3:f2d (b2r z z,())=some (b7V (b2r z z),()):=e7u _;simp only[K61,G61,e1,c8m,c8n,e2,f5Q,f5R,e3,isSome_some,getD_some,cond_true];cases a4u z<;>rfl
theorem g6V {a b:Nat} {x y q A ε:Rat} (ha:IsR a x) (hb:IsR b y) (hy:y≠0) (hq:q*y=x) (B:Int) (h:Abs q A) (hA:A<=p2 B) (hε:p2 (B-52)<=ε) (h1:-1022<=B) (h2:B<=1022) :
 ∃r,IsR (a0g .quo .f64 a b) r /\ b3u r q ε:=by
 obtain⟨k1,k2⟩:=h;obtain⟨r,h3,h4,h5⟩:=g4P ha hb hy hq B h1 h2 (by grind) (by grind);exact⟨r,h3,by grind,by grind⟩
theorem Abs.add {x y A B:Rat} (hx:Abs x A) (hy:Abs y B):Abs (x+y) (A+B):=⟨by have:=hx.1;have:=hy.1;grind,by have:=hx.2;have:=hy.2;grind⟩
theorem Abs.sub {x y A B:Rat} (hx:Abs x A) (hy:Abs y B):Abs (x-y) (A+B):=⟨by have:=hx.1;have:=hy.2;grind,by have:=hx.2;have:=hy.1;grind⟩
theorem c3H {w:Nat} (s:Bool) (m:Nat) (e:Int) (h:Ieee.double.read w = .number s m e) (he:-1074<=e) {q:Rat} (hq:RV s m e=q):IsR w q:=⟨s,m,e,h,he,hq.symm⟩
theorem e7w:IsR 0 0:=c3H false 0 (-1074) (by decide +kernel) (by decide) (a4Q _ _)
theorem f3E:IsR 4607182418800017408 1:=c3H false 4503599627370496 (-52) (by decide +kernel) (by decide) (by decide +kernel)
theorem g6W:IsR 4611686018427387904 2:=c3H false 4503599627370496 (-51) (by decide +kernel) (by decide) (by decide +kernel)
theorem d5d:IsR 4726483295884279808 100000000:=c3H false 6710886400000000 (-26) (by decide +kernel) (by decide) (by decide +kernel)
theorem b3w {w:Nat} {s:Bool} {m:Nat} {e:Int} (h:Ieee.double.read w = .number s m e):-1074<=e:=by
 unfold Ieee.Format.read at h;dsimp only at h;rw[e7c]at h;split at h
 ·cases h;exact Int.le_refl _
 ·split at h
  ·cases h;omega
  ·split at h<;>cases h
theorem e7x {s:Bool} {m:Nat} {e:Int} {A:Rat} (h:RV false m e<=A):Abs (RV s m e) A:=by
 have h0:0<=(m:Rat)*p2 e:=Rat.mul_nonneg (a2L m) (Rat.le_of_lt (a1f e));have e1:RV false m e=(m:Rat)*p2 e:=by
  unfold RV;have:sgR false=1:=rfl;rw[this];grind
 cases s
 ·rw[e1]at h ⊢;constructor<;>grind
 ·have e2:RV true m e=-((m:Rat)*p2 e):=by
   unfold RV;have:sgR true=-1:=rfl;rw[this];grind
  rw[e1]at h;rw[e2];constructor<;>grind
theorem g3y {w:Nat} (h:le8 (w%2^63)=true):∃x,IsR w x /\ Abs x 100000000:=by
 have hr:=c6z w;cases hw:Ieee.double.read w with
 | number s m e =>
   rw[hw]at hr;have he:=b3w hw;have hI:IsR (w%2^63) (RV false m e):=⟨false,m,e,hr,he,rfl⟩;unfold le8 at h;rw[f6W hI d5d,e9j hI d5d]at h;simp only[Bool.or_eq_true,decide_eq_true_eq]at h;exact⟨_,⟨s,m,e,hw,he,rfl⟩,e7x (by grind)⟩
 | infinity s =>
   rw[hw]at hr;exfalso;obtain⟨t,n,f,h1,_,_⟩:=d5d;unfold le8 flt feq at h;have:FloatKind.f64.format.order (w%2^63) 4726483295884279808=some .gt:=by
    show(Ieee.double.read (w%2^63)).order (Ieee.double.read _)=_;rw[hr,h1];rfl
   rw[this]at h;cases h
 | nan s t =>
   rw[hw]at hr;exfalso;unfold le8 flt feq at h;have:FloatKind.f64.format.order (w%2^63) 4726483295884279808=none:=by
    show(Ieee.double.read (w%2^63)).order (Ieee.double.read _)=_;rw[hr];rfl
   rw[this]at h;cases h
theorem e3Z {j:Nat} (hj:j<360):Abs (tc j) (1000001/1000000) /\ Abs (ts j) (1000001/1000000):=by
 have h:=g3x hj;have e:1+hh<=1000001/1000000:=by decide +kernel
 exact⟨h.1.mono e,h.2.mono e⟩
def TT:Nat:=2^1074
theorem e4a:0<TT:=Nat.two_pow_pos _
def b3x (b:Nat) (v:Int):Prop:=∃(s:Bool) (m c:Nat),Ieee.double.read b = .number s m ((c:Int)-1074) /\ m<2^53 /\ VU s m c=v*(TT:Int)
theorem e4b (s:Bool) (m c:Nat):(VU s m c).natAbs=m*2^c:=by
 unfold VU;cases s
 ·rfl
 ·rw[if_pos rfl,Int.natAbs_neg];rfl
theorem c1E {b:Nat} {s:Bool} {m:Nat} {p:Int} (h:Ieee.double.read b = .number s m p):m<2^53:=by
 unfold Ieee.Format.read at h;dsimp only at h;rw[c3F,c3E]at h;split at h
 ·injection h with h1 h2 h3;omega
 ·split at h
  ·injection h with h1 h2 h3
   have:=Nat.mod_lt (b%Ieee.double.signWeight) (show 2^52>0 by decide);omega
  ·split at h<;>cases h
theorem c3I (neg:Bool) (p:Int):b3x (Ieee.double.nearest neg 0 p) 0:=by
 obtain⟨m',c',h6,h7⟩:=a6i neg 0 0 (by decide) (.inl ⟨rfl,by decide⟩);refine⟨neg,m',c',?_,c1E h6,?_⟩
 ·unfold Ieee.Format.nearest;rw[if_pos rfl];rw[Nat.zero_mul]at h6;exact h6
 ·rw[Nat.zero_mul]at h7;rw[Int.zero_mul];have:=e4b neg m' c';rw[h7]at this;omega
theorem c3J (neg:Bool) (M c v:Nat) (h0:0<M) (h:M*2^c=v*TT) (hv:v<2^53):b3x (Ieee.double.nearest neg M ((c:Int)-1074)) (if neg then -(v:Int)else v):=by
 obtain⟨K,e,h1,h2,h3,h4⟩:=e0B neg M c v h0 h hv;obtain⟨m,c',h5,h6⟩:=a6i neg K e h2 h3;refine⟨neg,m,c',by rw[h1];exact h5,c1E h5,?_⟩;unfold VU;rw[h6,h4,h];cases neg
 ·simp
 ·simp[Int.neg_mul]
theorem c8P (neg:Bool) (M c:Nat) (w:Int) (h:VU neg M c=w*(TT:Int)) (hw:w.natAbs<2^53):b3x (Ieee.double.nearest neg M ((c:Int)-1074)) w:=by
 have ha:=e4b neg M c;rw[h,Int.natAbs_mul,Int.natAbs_natCast]at ha;by_cases h0:M=0
 ·subst h0;have:w.natAbs=0:=by
   rw[Nat.zero_mul]at ha;rcases Nat.mul_eq_zero.1 ha with h|h
   ·exact h
   ·exact absurd h (Nat.ne_of_gt e4a)
  have:w=0:=by omega
  rw[this];exact c3I _ _
 ·have:=c3J neg M c w.natAbs (by omega) ha.symm hw;have e:(if neg then -(w.natAbs:Int)else(w.natAbs:Int))=w:=by
   unfold VU at h;have hT:(0:Int)<(TT:Int):=Int.natCast_pos.2 e4a;have hM:(0:Int)<=((M*2^c:Nat):Int):=Int.natCast_nonneg _;cases neg
   ·simp only[Bool.false_eq_true,if_false]at h ⊢;have:0<=w:=by
     by_cases hn:0<=w
     ·exact hn
     ·have:=Int.mul_neg_of_neg_of_pos (show w<0 by omega) hT;omega
    omega
   ·simp only[if_true]at h ⊢;have:w<=0:=by
     by_cases hn:w<=0
     ·exact hn
     ·have:=Int.mul_pos (show 0<w by omega) hT;omega
    omega
  rw[e]at this;exact this
theorem d5e (n:Int) (h:n.natAbs<2^53):b3x (nearest .f64 n) n:=by
 show b3x (Ieee.double.nearest (decide (n<0)) n.natAbs 0) n;have:(0:Int)=((1074:Nat):Int)-1074:=by decide
 rw[this];refine c8P _ _ _ _ ?_ h;unfold VU;show(if decide (n<0)=true then -((n.natAbs*TT:Nat):Int)else((n.natAbs*TT:Nat):Int))=_;rw[Int.natCast_mul];by_cases hn:n<0
 ·rw[if_pos (by simpa using hn),<- Int.neg_mul];congr 1;omega
 ·rw[if_neg (by simpa using hn)];congr 1;omega
theorem f3F {z:Nat} (h1:fge z 0=true) (h2:fle z 1120403456=true):∃s m e,Ieee.single.read z = .number s m e:=by
 unfold fge fle flt feq fgt at *;have o1:FloatKind.f32.format.order z 1120403456=(Ieee.single.read z).order (Ieee.single.read 1120403456):=rfl;have r1:∃s m e,Ieee.single.read 1120403456 = .number s m e:=⟨false,13107200,-17,by decide +kernel⟩;have o2:FloatKind.f32.format.order z 0=(Ieee.single.read z).order (Ieee.single.read 0):=rfl;have r2:∃s m e,Ieee.single.read 0 = .number s m e:=⟨false,0,-149,by decide +kernel⟩;obtain⟨s,m,e,hr⟩:=r1;obtain⟨s2,m2,e2,hr2⟩:=r2;rw[o1,hr]at h2;rw[o2,hr2]at h1;cases hz:Ieee.single.read z with
 |number a b c=>exact⟨a,b,c,rfl⟩
 |nan a b=>rw[hz]at h2;simp[Ieee.Datum.order]at h2
 | infinity a =>
   rw[hz]at h1 h2;cases a<;>simp[Ieee.Datum.order]at h1 h2
theorem e7y {x:Nat} (h:fgt .f32 x 0=true):fge x 0=true:=by unfold fge;rw[h];rfl
theorem e0H {x y:Nat} (hx:∃s m e,Ieee.single.read x = .number s m e) (hy:∃s m e,Ieee.single.read y = .number s m e) :
 ∃c:Ordering,FloatKind.f32.format.order x y=some c /\ FloatKind.f32.format.order y x=some c.swap:=by
 obtain⟨s,m,e,h1⟩:=hx;obtain⟨t,n,f,h2⟩:=hy;refine⟨_,by show(Ieee.single.read x).order (Ieee.single.read y)=_;rw[h1,h2];rfl,?_⟩;show(Ieee.single.read y).order (Ieee.single.read x)=_;rw[h1,h2];unfold Ieee.Datum.order;dsimp only;have hm:min f e=min e f:=by omega
 rw[hm];congr 1;rw[Int.compare_swap]
theorem d5f {x y:Nat} (hx:∃s m e,Ieee.single.read x = .number s m e) (hy:∃s m e,Ieee.single.read y = .number s m e):fge x y=fle y x /\ (fle x y=false->fge x y=true):=by
 obtain⟨c,h1,h2⟩:=e0H hx hy;unfold fge fle fgt flt feq;rw[h1,h2];cases c<;>exact⟨rfl,fun h=>by first|rfl|cases h⟩
structure POK (p:a7W):Prop where
 w1:1<=p.1.length
 w2:p.1.length<=12
 a1:2<=p.2.1.length
 a2:p.2.1.length<=24
 s:p.2.2.1.length=p.1.length
 wind:∀i,i<p.1.length->a3L p i=true
 ang:∀i,i<p.2.1.length->c9M p i=true
 first:aAt p 0=0
 last:aAt p (p.2.1.length-1)=180
 row:∀i,i<p.1.length->(rAt p i).length=p.2.1.length /\ a9w (rAt p i)=true
theorem pok {p:a7W} (h:a3a p=true):POK p:=by
 unfold a3a at h;simp only[and_eq_true,a0I,decide_eq_true_eq,beq_iff_eq]at h;obtain⟨⟨h1,h2⟩,⟨h3,h4⟩,h5,h6,h7,h8,h9,h10⟩:=h;refine⟨by omega,by omega,by omega,by omega,h5,fun i hi=>a0H.1 h6 i (zero_le _) (by omega),fun i hi=>a0H.1 h7 i (zero_le _) (by omega),h8,h9,fun i hi=>?_⟩;have:=a0H.1 h10 i (zero_le _) (by omega);unfold d7h at this;simpa only [and_eq_true,decide_eq_true_eq]using this
def g4Q (s t q:Nat):Nat:=a0g .add .f32 s (a0g .mul .f32 (a0g .sub .f32 t s) q)
def f3G (p:a7W) (row:List Nat) (angle:Int) (j:Nat):Nat:=bif aAt p j==angle then row.getD j 0 else
 g4Q (row.getD (j-1) 0) (row.getD j 0) (a0g .quo .f32 (nearest .f32 (IntKind.i64.wrap (angle-aAt p (j-1)))) (nearest .f32 (IntKind.i64.wrap (aAt p j-aAt p (j-1)))))
def idx (p:a7W) (angle:Int):Nat:=(a0L (fun j=>decide (angle<=aAt p j)) 0 p.2.1.length).getD 0
def c3K (p:a7W) (row:List Nat) (angle:Int):Nat:=f3G p row angle (idx p angle)
theorem e4c {p:a7W} (h:POK p) {angle:Int} (h2:angle<=180):a0L (fun j=>decide (angle<=aAt p j)) 0 p.2.1.length=some (idx p angle) /\ idx p angle<p.2.1.length /\ angle<=aAt p (idx p angle) /\ ∀i,i<idx p angle->aAt p i<angle:=by
 unfold idx;cases hf:a0L (fun j=>decide (angle<=aAt p j)) 0 p.2.1.length with
 | none =>
   exfalso;have:=a2A.1 hf (p.2.1.length-1) (zero_le _) (by have:=h.a1;omega);simp only[decide_eq_false_iff_not]at this;have hl:=h.last;omega
 | some j =>
   obtain⟨_,h3,h4,h5⟩:=a1B hf;refine⟨rfl,by simpa using h3,by simpa using h4,fun i hi=>?_⟩;have:=h5 i (zero_le _) hi;simp only[decide_eq_false_iff_not]at this;omega
theorem b7W {p:a7W} (h:POK p) (row:List Nat) (angle:Int) (hr:row.length=p.2.1.length) (h1:0<=angle) (h2:angle<=180):e3q (p,row,angle,())=some (c3K p row angle,()):=by
 have ha1:=h.a1;have ha2:=h.a2;have h0:=h.first
 have hl:c0M ((row,angle,(),p.2.1,(p.2.1.length:Int),(0:Int),()),(p,()))=some (match a0L (fun j=>decide (angle<=aAt p j)) 0 p.2.1.length with|some j => .inr ((f3G p row angle j,()),())|none => .inl ((),())):=by
  refine(a7C (q:=c0L c5Q c5R) (fun k=>((row,angle,(),p.2.1,(p.2.1.length:Int),(k:Int),()),(p,()))) p.2.1.length (fun j=>decide (angle<=aAt p j)) (.inl ((),())) (fun j => .inr ((f3G p row angle j,()),())) ?_ ?_ (c5S ((row,angle,(),p.2.1,(p.2.1.length:Int),(0:Int),()),(p,()))) ?_:_)
  ·intro k f hk;unfold c0L f3G;have e1:decide ((k:Int)<(p.2.1.length:Int))=true:=by simpa using hk
   have e2:decide (0<=(k:Int))=true:=by simp
   have e1':decide ((k:Int)<(row.length:Int))=true:=by simp;omega
   have ha:getD p.2.1 k (zero (Ty.int IntKind.i64))=aAt p k:=rfl;have hb:getD row k (zero (Ty.flt FloatKind.f32))=row.getD k 0:=rfl;simp only[a3I k (by omega),e1,e1',e2,Bool.and_self,cond_true,toNat_natCast,ha,hb];cases c:(aAt p k==angle)
   ·simp only[cond_false];have hne:aAt p k≠angle:=by simpa using c
    by_cases hgt:aAt p k>angle
    ·have hk0:0<k:=by
      rcases Nat.eq_zero_or_pos k with h3|h3
      ·rw[h3]at hgt;omega
      ·exact h3
     have e3:decide (aAt p k>angle)=true:=by simpa using hgt
     have e4:decide (0<=((k-1:Nat):Int))=true:=by simp
     have e5:decide (((k-1:Nat):Int)<(p.2.1.length:Int))=true:=by simp;omega
     have e6:decide (((k-1:Nat):Int)<(row.length:Int))=true:=by simp;omega
     have e7:decide (angle<=aAt p k)=true:=by simp;omega
     have hc:getD p.2.1 (k-1) (zero (Ty.int IntKind.i64))=aAt p (k-1):=rfl;have hd:getD row (k-1) (zero (Ty.flt FloatKind.f32))=row.getD (k-1) 0:=rfl;rw[e7];simp only[e3,cond_true,d7i k hk0 (by omega),e4,e5,e6,Bool.and_self,toNat_natCast,hc,hd];rfl
    ·have e3:decide (aAt p k>angle)=false:=by simpa using hgt
     have e7:decide (angle<=aAt p k)=false:=by simp;omega
     rw[e7];simp only[e3,cond_false]
   ·have:aAt p k=angle:=by simpa using c
    have e7:decide (angle<=aAt p k)=true:=by simp;omega
    rw[e7];rfl
  ·intro f;unfold c0L;simp
  ·simp only[c5S];omega
 obtain⟨hf,_⟩:=e4c h h2;rw[hf]at hl;unfold e3q g1n;simp only[b6L,b6M,b6N,hl,isSome_some,cond_true];rfl
theorem b7X {p:a7W} (h:POK p) (row:List Nat) (angle:Int) (hr:row.length=p.2.1.length) (h1:0<=angle) (h2:angle<=180):e2t (p.2.1,row,angle,())=some (c3K p row angle,()):=by
 have ha1:=h.a1;have ha2:=h.a2;have h0:=h.first
 obtain⟨_,i1,i2,i3⟩:=e4c h h2;unfold c3K;generalize idx p angle=j at *;have hl:d1R ((p.2.1,row,angle,(0:Int),()),())=some ((p.2.1,row,angle,(j:Int),()),()):=by
  refine(a2z (q:=b9O d1N d1O) (fun k=>((p.2.1,row,angle,(k:Int),()),())) j ((p.2.1,row,angle,(j:Int),()),()) ?_ ?_ (c4Y ((p.2.1,row,angle,(0:Int),()),())) ?_:_)
  ·intro k f hk;unfold b9O;have e1:decide ((k:Int)<(p.2.1.length:Int))=true:=by simp;omega
   have e2:decide (0<=(k:Int))=true:=by simp
   have ha:getD p.2.1 k (zero (Ty.int IntKind.i64))=aAt p k:=rfl;have e3:decide (aAt p k<angle)=true:=by simpa using i3 k hk
   simp only[a3I k (by omega),e1,e2,Bool.and_self,cond_true,toNat_natCast,ha,e3]
  ·intro f;unfold b9O;have e1:decide ((j:Int)<(p.2.1.length:Int))=true:=by simp;omega
   have e2:decide (0<=(j:Int))=true:=by simp
   have ha:getD p.2.1 j (zero (Ty.int IntKind.i64))=aAt p j:=rfl;have e3:decide (aAt p j<angle)=false:=by simp;omega
   simp only[e1,e2,Bool.and_self,cond_true,toNat_natCast,ha,e3,cond_false]
  ·simp only[c4Y];omega
 unfold e2t f8Y f3G;have e1:decide ((j:Int)<(p.2.1.length:Int))=true:=by simp;omega
 have e1':decide ((j:Int)<(row.length:Int))=true:=by simp;omega
 have e2:decide (0<=(j:Int))=true:=by simp
 have ha:getD p.2.1 j (zero (Ty.int IntKind.i64))=aAt p j:=rfl;have hb:getD row j (zero (Ty.flt FloatKind.f32))=row.getD j 0:=rfl;simp only[b5r,b5s,hl,isSome_some,getD_some,cond_true,e1,e1',e2,Bool.and_self,toNat_natCast,ha,hb];cases c:(aAt p j==angle)
 ·have hne:aAt p j≠angle:=by simpa using c
  have hj0:0<j:=by
   rcases Nat.eq_zero_or_pos j with h3|h3
   ·rw[h3]at i2 hne;omega
   ·exact h3
  have e4:decide (0<=((j-1:Nat):Int))=true:=by simp
  have e5:decide (((j-1:Nat):Int)<(p.2.1.length:Int))=true:=by simp;omega
  have e6:decide (((j-1:Nat):Int)<(row.length:Int))=true:=by simp;omega
  have hc:getD p.2.1 (j-1) (zero (Ty.int IntKind.i64))=aAt p (j-1):=rfl;have hd:getD row (j-1) (zero (Ty.flt FloatKind.f32))=row.getD (j-1) 0:=rfl;simp only[cond_false,d7i j hj0 (by omega),e4,e5,e6,Bool.and_self,cond_true,toNat_natCast,hc,hd];rfl
 ·rfl
def d5g (p:a7W) (wind:Nat):Nat:=(a0L (fun k=>!fle (wAt p (k+1)) wind) 0 (p.1.length-1)).getD 0
def b3y (p:a7W) (wind:Nat) (angle:Int):Nat:=
 bif fle wind (wAt p 0)then a0g .mul .f32 (a0g .quo .f32 wind (wAt p 0)) (c3K p (rAt p 0) angle)
 else bif fge wind (wAt p (p.1.length-1))then c3K p (rAt p (p.1.length-1)) angle
 else g4Q (c3K p (rAt p (d5g p wind)) angle) (c3K p (rAt p (d5g p wind+1)) angle) (a0g .quo .f32 (a0g .sub .f32 wind (wAt p (d5g p wind))) (a0g .sub .f32 (wAt p (d5g p wind+1)) (wAt p (d5g p wind))))
theorem g4R {p:a7W} (h:POK p) {i:Nat} (hi:i<p.1.length):∃s m e,Ieee.single.read (wAt p i) = .number s m e:=by
 have:=h.wind i hi;unfold a3L at this;simp only[and_eq_true]at this;exact f3F (e7y this.1.1) this.1.2
theorem d5h {p:a7W} (h:POK p) {wind:Nat} (hw1:fge wind 0=true) (hw2:fle wind 1120403456=true) (h1:fle wind (wAt p 0)=false) (h2:fge wind (wAt p (p.1.length-1))=false) :
 d5g p wind+1<p.1.length /\ fle (wAt p (d5g p wind+1)) wind=false /\ ∀i,i<d5g p wind->fle (wAt p (i+1)) wind=true:=by
 have hn:=f3F hw1 hw2;have hl:=h.w1;unfold d5g;cases hf:a0L (fun k=>!fle (wAt p (k+1)) wind) 0 (p.1.length-1)with
 | none =>
   exfalso;by_cases c:p.1.length=1
   ·rw[c]at h2;have:=(d5f hn (g4R h (i:=0) (by omega))).2 h1;rw[this]at h2;cases h2
   ·have:=a2A.1 hf (p.1.length-2) (zero_le _) (by omega);have e:p.1.length-2+1=p.1.length-1:=by omega
    rw[e]at this;have e2:=(d5f hn (g4R h (i:=p.1.length-1) (by omega))).1;rw[e2]at h2;rw[h2]at this;cases this
 | some j =>
   obtain⟨_,h3,h4,h5⟩:=a1B hf;show j+1<p.1.length /\ fle (wAt p (j+1)) wind=false /\ ∀i,i<j->fle (wAt p (i+1)) wind=true;refine⟨by omega,by simpa using h4,fun i hi=>?_⟩;have:=h5 i (zero_le _) hi;simpa using this
theorem e7z {p:a7W} (h:POK p) (wind:Nat) (angle:Int) (hw1:fge wind 0=true) (hw2:fle wind 1120403456=true) (h1:0<=angle) (h2:angle<=180):f2n (p,wind,angle,())=some (b3y p wind angle,()):=by
 have hl:=h.w1;have hl2:=h.w2;have hs:=h.s;unfold f2n g1p b3y;have e0:decide ((0:Int)<(p.1.length:Int))=true:=by simp;omega
 have e0':decide ((0:Int)<(p.2.2.1.length:Int))=true:=by simp;omega
 have ha:getD p.1 0 (zero (Ty.flt FloatKind.f32))=wAt p 0:=rfl;have hb:getD p.2.2.1 0 (zero (Ty.slice (Ty.flt FloatKind.f32)))=rAt p 0:=rfl;have f0:e3q (p,rAt p 0,angle,())=some (c3K p (rAt p 0) angle,()):=b7W h _ _ (h.row 0 (by omega)).1 h1 h2;have g2:wrap IntKind.i64 ((p.1.length:Int)-1)=((p.1.length-1:Nat):Int):=d7i _ (by omega) (by omega);have g3:decide (((p.1.length-1:Nat):Int)<(p.1.length:Int))=true:=by simp;omega
 have g3':decide (((p.1.length-1:Nat):Int)<(p.2.2.1.length:Int))=true:=by simp;omega
 have g4:decide (0<=((p.1.length-1:Nat):Int))=true:=by simp
 have hc:getD p.1 (p.1.length-1) (zero (Ty.flt FloatKind.f32))=wAt p (p.1.length-1):=rfl;have hd:getD p.2.2.1 (p.1.length-1) (zero (Ty.slice (Ty.flt FloatKind.f32)))=rAt p (p.1.length-1):=rfl;have f1:e3q (p,rAt p (p.1.length-1),angle,())=some (c3K p (rAt p (p.1.length-1)) angle,()):=b7W h _ _ (h.row _ (by omega)).1 h1 h2;simp only[e0,e0',g2,g3,g3',g4,Bool.and_self,toNat_natCast,Int.toNat_zero,ha,hb,hc,hd,e6t,e6u,f0,f1,isSome_some,getD_some,cond_true,Nat.le_refl,decide_true,Bool.true_and];show(bif fle wind (wAt p 0)then _ else bif fge wind (wAt p (p.1.length-1))then _ else _)=_;cases c1:fle wind (wAt p 0)
 rotate_left
 ·rfl
 cases c2:fge wind (wAt p (p.1.length-1))
 rotate_left
 ·rfl
 obtain⟨i1,i2,i3⟩:=d5h h hw1 hw2 c1 c2;generalize d5g p wind=j at *;have hloop:d3v ((wind,angle,(),(0:Int),()),(p,()))=some ((wind,angle,(),(j:Int),()),(p,())):=by
  refine(a2z (q:=c0O e6t e6u c5Q c5R) (fun k=>((wind,angle,(),(k:Int),()),(p,()))) j ((wind,angle,(),(j:Int),()),(p,())) ?_ ?_ (c5T ((wind,angle,(),(0:Int),()),(p,()))) ?_:_)
  ·intro k f hk;unfold c0O;have e1:decide (((k+1:Nat):Int)<(p.1.length:Int))=true:=by simp;omega
   have e2:decide (0<=((k+1:Nat):Int))=true:=by simp;omega
   have ha:getD p.1 (k+1) (zero (Ty.flt FloatKind.f32))=wAt p (k+1):=rfl;simp only[a3I k (by omega),e1,e2,Bool.and_self,cond_true,toNat_natCast,ha];show(bif fle (wAt p (k+1)) wind then _ else _)=_;rw[i3 k hk];rfl
  ·intro f;unfold c0O;have e1:decide (((j+1:Nat):Int)<(p.1.length:Int))=true:=by simp;omega
   have e2:decide (0<=((j+1:Nat):Int))=true:=by simp;omega
   have ha:getD p.1 (j+1) (zero (Ty.flt FloatKind.f32))=wAt p (j+1):=rfl;simp only[a3I j (by omega),e1,e2,Bool.and_self,cond_true,toNat_natCast,ha];show(bif fle (wAt p (j+1)) wind then _ else _)=_;rw[i2];rfl
  ·simp only[c5T];omega
 have e1:decide (((j+1:Nat):Int)<(p.1.length:Int))=true:=by simp;omega
 have e1':decide (((j+1:Nat):Int)<(p.2.2.1.length:Int))=true:=by simp;omega
 have e2:decide (0<=((j+1:Nat):Int))=true:=by simp;omega
 have e3:decide ((j:Int)<(p.1.length:Int))=true:=by simp;omega
 have e3':decide ((j:Int)<(p.2.2.1.length:Int))=true:=by simp;omega
 have e4:decide (0<=(j:Int))=true:=by simp
 have ha:getD p.1 (j+1) (zero (Ty.flt FloatKind.f32))=wAt p (j+1):=rfl;have hb:getD p.1 j (zero (Ty.flt FloatKind.f32))=wAt p j:=rfl;have hc:getD p.2.2.1 j (zero (Ty.slice (Ty.flt FloatKind.f32)))=rAt p j:=rfl;have hd:getD p.2.2.1 (j+1) (zero (Ty.slice (Ty.flt FloatKind.f32)))=rAt p (j+1):=rfl;have f2:e3q (p,rAt p j,angle,())=some (c3K p (rAt p j) angle,()):=b7W h _ _ (h.row _ (by omega)).1 h1 h2;have f3:e3q (p,rAt p (j+1),angle,())=some (c3K p (rAt p (j+1)) angle,()):=b7W h _ _ (h.row _ (by omega)).1 h1 h2;simp only[b6Q,b6R,hloop,isSome_some,getD_some,cond_true,cond_false,a3I j (by omega),e1,e1',e2,e3,e3',e4,Bool.and_self,toNat_natCast,ha,hb,hc,hd,f2,f3];rfl
def b1S (p:a7W) (wind:Nat) (angle:Int):Nat×Bool×Unit:=bif a3a p&&(fge wind 0&&(fle wind 1120403456&&a0I angle 0 180))then(b3y p wind angle,true,())else(0,false,())
theorem e7A (p:a7W) (wind:Nat) (angle:Int):f5W (p,wind,angle,())=some (b1S p wind angle):=by
 unfold f5W g1s b1S;have e1:F90 (p,())=some (a3a p,()):=e3X p;have e2:F44 (angle,0,180,())=some (a0I angle 0 180,()):=a2Z _ _ _;simp only[K90,G90,e1,K44,G44,e2,isSome_some,getD_some,cond_true];show(bif !a3a p then _ else bif fge wind 0 then bif !fle wind 1120403456 then _ else bif !a0I angle 0 180 then _ else _ else _)=_;cases c1:a3a p
 ·rfl
 cases c2:fge wind 0
 ·rfl
 cases c3:fle wind 1120403456
 ·rfl
 cases c4:a0I angle 0 180
 ·rfl
 simp only[a0I,and_eq_true,decide_eq_true_eq]at c4;have e3:f2n (p,wind,angle,())=some (b3y p wind angle,()):=e7z (pok c1) wind angle c2 c3 c4.1 c4.2;simp only[f5U,f5V,e3,isSome_some,getD_some,cond_true];rfl
theorem e7B (p:a7W) (wind:Nat) (angle:Int):f5k (p,wind,angle,())=some (b1S p wind angle):=by
 unfold f5k f9a b1S;have e1:F99 (p,())=some (a3a p,()):=e3Y p;have e2:F51 (angle,0,180,())=some (a0I angle 0 180,()):=a4t _ _ _;simp only[K99,G99,e1,K51,G51,e2,isSome_some,getD_some,cond_true];show(bif !a3a p then _ else bif fge wind 0 then bif !fle wind 1120403456 then _ else bif !a0I angle 0 180 then _ else _ else _)=_;cases c1:a3a p
 ·rfl
 cases hw1:fge wind 0
 ·rfl
 cases hw2:fle wind 1120403456
 ·rfl
 cases c4:a0I angle 0 180
 ·rfl
 simp only[a0I,and_eq_true,decide_eq_true_eq]at c4;obtain⟨h1,h2⟩:=c4;have h:=pok c1;have hl:=h.w1;have hl2:=h.w2;have hs:=h.s;unfold b3y;have e0:decide ((0:Int)<(p.1.length:Int))=true:=by simp;omega
 have e0':decide ((0:Int)<(p.2.2.1.length:Int))=true:=by simp;omega
 have ha:getD p.1 0 (zero (Ty.flt FloatKind.f32))=wAt p 0:=rfl;have hb:getD p.2.2.1 0 (zero (Ty.slice (Ty.flt FloatKind.f32)))=rAt p 0:=rfl;have f0:e2t (p.2.1,rAt p 0,angle,())=some (c3K p (rAt p 0) angle,()):=b7X h _ _ (h.row 0 (by omega)).1 h1 h2;have g2:wrap IntKind.i64 ((p.1.length:Int)-1)=((p.1.length-1:Nat):Int):=d7i _ (by omega) (by omega);have g3:decide (((p.1.length-1:Nat):Int)<(p.1.length:Int))=true:=by simp;omega
 have g3':decide (((p.1.length-1:Nat):Int)<(p.2.2.1.length:Int))=true:=by simp;omega
 have g4:decide (0<=((p.1.length-1:Nat):Int))=true:=by simp
 have hc:getD p.1 (p.1.length-1) (zero (Ty.flt FloatKind.f32))=wAt p (p.1.length-1):=rfl;have hd:getD p.2.2.1 (p.1.length-1) (zero (Ty.slice (Ty.flt FloatKind.f32)))=rAt p (p.1.length-1):=rfl;have f1:e2t (p.2.1,rAt p (p.1.length-1),angle,())=some (c3K p (rAt p (p.1.length-1)) angle,()):=b7X h _ _ (h.row _ (by omega)).1 h1 h2;simp only[Bool.not_true,cond_false,cond_true,Bool.true_and,e0,e0',g2,g3,g3',g4,Bool.and_self,toNat_natCast,Int.toNat_zero,ha,hb,hc,hd,e5G,e5H,f0,f1,isSome_some,getD_some,Nat.le_refl,decide_true];show(bif fle wind (wAt p 0)then _ else bif fge wind (wAt p (p.1.length-1))then _ else _)=_;cases c1:fle wind (wAt p 0)
 rotate_left
 ·rfl
 cases c2:fge wind (wAt p (p.1.length-1))
 rotate_left
 ·rfl
 obtain⟨i1,i2,i3⟩:=d5h h hw1 hw2 c1 c2;generalize d5g p wind=j at *;have hloop:c2Q ((wind,angle,(),(0:Int),()),(p,()))=some ((wind,angle,(),(j:Int),()),(p,())):=by
  refine(a2z (q:=b1n K99 G99 K51 G51 e5G e5H d1N d1O) (fun k=>((wind,angle,(),(k:Int),()),(p,()))) j ((wind,angle,(),(j:Int),()),(p,())) ?_ ?_ (b5t ((wind,angle,(),(0:Int),()),(p,()))) ?_:_)
  ·intro k f hk;unfold b1n;have e1:decide (((k+1:Nat):Int)<(p.1.length:Int))=true:=by simp;omega
   have e2:decide (0<=((k+1:Nat):Int))=true:=by simp;omega
   have ha:getD p.1 (k+1) (zero (Ty.flt FloatKind.f32))=wAt p (k+1):=rfl;simp only[a3I k (by omega),e1,e2,Bool.and_self,cond_true,toNat_natCast,ha];show(bif fle (wAt p (k+1)) wind then _ else _)=_;rw[i3 k hk];rfl
  ·intro f;unfold b1n;have e1:decide (((j+1:Nat):Int)<(p.1.length:Int))=true:=by simp;omega
   have e2:decide (0<=((j+1:Nat):Int))=true:=by simp;omega
   have ha:getD p.1 (j+1) (zero (Ty.flt FloatKind.f32))=wAt p (j+1):=rfl;simp only[a3I j (by omega),e1,e2,Bool.and_self,cond_true,toNat_natCast,ha];show(bif fle (wAt p (j+1)) wind then _ else _)=_;rw[i2];rfl
  ·simp only[b5t];omega
 have e1:decide (((j+1:Nat):Int)<(p.1.length:Int))=true:=by simp;omega
 have e1':decide (((j+1:Nat):Int)<(p.2.2.1.length:Int))=true:=by simp;omega
 have e2:decide (0<=((j+1:Nat):Int))=true:=by simp;omega
 have e3:decide ((j:Int)<(p.1.length:Int))=true:=by simp;omega
 have e3':decide ((j:Int)<(p.2.2.1.length:Int))=true:=by simp;omega
 have e4:decide (0<=(j:Int))=true:=by simp
 have ha:getD p.1 (j+1) (zero (Ty.flt FloatKind.f32))=wAt p (j+1):=rfl;have hb:getD p.1 j (zero (Ty.flt FloatKind.f32))=wAt p j:=rfl;have hc:getD p.2.2.1 j (zero (Ty.slice (Ty.flt FloatKind.f32)))=rAt p j:=rfl;have hd:getD p.2.2.1 (j+1) (zero (Ty.slice (Ty.flt FloatKind.f32)))=rAt p (j+1):=rfl;have f2:e2t (p.2.1,rAt p j,angle,())=some (c3K p (rAt p j) angle,()):=b7X h _ _ (h.row _ (by omega)).1 h1 h2;have f3:e2t (p.2.1,rAt p (j+1),angle,())=some (c3K p (rAt p (j+1)) angle,()):=b7X h _ _ (h.row _ (by omega)).1 h1 h2;simp only[b0c,b0d,hloop,isSome_some,getD_some,cond_true,cond_false,a3I j (by omega),e1,e1',e2,e3,e3',e4,Bool.and_self,toNat_natCast,ha,hb,hc,hd,f2,f3];rfl
theorem d5i {v:Rat} (h1:p2 (-1000)<=v) (h2:v<p2 1000):∃B:Int,-1000<=B /\ B<=1000 /\ p2 B<=v /\ v<p2 (B+1):=by
 have ex:∃k:Nat,v<p2 ((k:Int)-999):=⟨1999,by show v<p2 1000;exact h2⟩
 classical
 have key:∀n:Nat,v<p2 ((n:Int)-999)->n<=1999->∃B:Int,-1000<=B /\ B<=1000 /\ p2 B<=v /\ v<p2 (B+1):=by
  intro n
  induction n with
  |zero=>intro h _;exact⟨-1000,by omega,by omega,h1,by simpa using h⟩
  | succ n ih =>
    intro h hn;by_cases c:v<p2 ((n:Int)-999)
    ·exact ih c (by omega)
    ·refine⟨(n:Int)-999,by omega,by omega,by grind,?_⟩;have e:((n:Int)-999)+1=((n+1:Nat):Int)-999:=by omega
     rw[e];exact h
 exact key 1999 (by show v<p2 1000;exact h2) (Nat.le_refl _)
theorem f3H {a b:Nat} {x y:Rat} (ha:IsR a x) (hb:IsR b y) (h1:p2 (-1000)<=x+y) (h2:x+y<p2 1000):∃r,IsR (a0g .add .f64 a b) r /\ b3u r (x+y) ((x+y)/1000000000000000):=by
 obtain⟨B,b1,b2,b3,b4⟩:=d5i h1 h2;have hp:=a1f (B+1);have hp0:=a1f (-1000);obtain⟨r,h3,h4,h5⟩:=g6U ha hb B (by omega) (by omega) b4 (by grind);have e:p2 (B-53)=p2 B*p2 (-53):=by rw[Int.sub_eq_add_neg,a1E]
 have e2:p2 (-53)<=1/1000000000000000:=by decide +kernel
 have m:=Rat.mul_le_mul_of_nonneg_left e2 (show 0<=p2 B from Rat.le_of_lt (a1f B));have m2:=a1h b3 (show(0:Rat)<=1/1000000000000000 by decide +kernel);exact⟨r,h3,by grind,by grind⟩
theorem e4d {a b:Nat} {x y q:Rat} (ha:IsR a x) (hb:IsR b y) (hy:y≠0) (hq:q*y=x) (h1:p2 (-1000)<=q) (h2:q<p2 1000):∃r,IsR (a0g .quo .f64 a b) r /\ b3u r q (q/1000000000000000):=by
 obtain⟨B,b1,b2,b3,b4⟩:=d5i h1 h2;have hp:=a1f (B+1);have hp0:=a1f (-1000);obtain⟨r,h3,h4,h5⟩:=g4P ha hb hy hq (B+1) (by omega) (by omega) (by grind) (by grind);have e:p2 (B+1-52)=p2 B*p2 (-51):=by rw[<- a1E];congr 1;omega
 have e2:p2 (-51)<=1/1000000000000000:=by decide +kernel
 have m:=Rat.mul_le_mul_of_nonneg_left e2 (show 0<=p2 B from Rat.le_of_lt (a1f B));have m2:=a1h b3 (show(0:Rat)<=1/1000000000000000 by decide +kernel);exact⟨r,h3,by grind,by grind⟩
theorem a6j {z g:Rat} (hg0:0<g) (hz:0<=z*g):0<=z:=by
 apply Classical.byContradiction;intro hc;have:=Rat.mul_pos (show 0 < -z by grind) hg0;grind
theorem a7X {z M x:Rat} (hx0:1/10000000000000<=x) (hM1:2<=M) (hM3:M<=1000000000000000000) (hz:0<=z*M-x):4*p2 (-1000)<=z:=by
 have e:4*p2 (-1000)<=1/10000000000000000000000000000000000:=by decide +kernel
 apply Classical.byContradiction;intro hc;have h3:=Rat.mul_nonneg (show 0<=1/10000000000000000000000000000000000-z by grind) (show 0<=M by grind);grind
theorem d5j {x g M:Rat} {w v:Nat} (hw:IsR w x) (hv:IsR v g) (hx0:1/10000000000000<=x) (hM1:2<=M) (hM2:2*x<=M) (hM3:M<=1000000000000000000) (h1:x<=g*M) (h2:g<=M) (hg0:0<g) :
 ∃g',IsR (a0g .quo .f64 (a0g .add .f64 v (a0g .quo .f64 w v)) 4611686018427387904) g' /\ x<=g'*M /\ g'<=M /\ 0<g':=by
 have hgne:g≠0:=by grind
 obtain⟨q0,hq0⟩:∃q0,q0=x/g:=⟨_,rfl⟩;have hqg:q0*g=x:=by rw[hq0];grind
 have hqM:0<=M-q0:=a6j hg0 (by grind);have hMq:0<=q0*M-x:=by
  have:0<=q0:=a6j hg0 (by rw[hqg];grind);have:=Rat.mul_nonneg this (show 0<=M-g by grind);grind
 have big:(4000000000000000000:Rat)<p2 1000:=by decide +kernel
 obtain⟨q,hq,nq1,nq2⟩:=e4d hw hv hgne hqg (by have:=a7X hx0 hM1 hM3 hMq;have:=a1f (-1000);grind) (by grind);have hs0:p2 (-1000)<=g+q:=by
  have:=a7X (z:=g) hx0 hM1 hM3 (by grind);have:=a7X hx0 hM1 hM3 hMq;have:=a1f (-1000);grind
 obtain⟨s,hs,ns1,ns2⟩:=f3H hv hq hs0 (by grind);have hs1:p2 (-1000)<=s/2:=by
  have e:=a7X (z:=g) hx0 hM1 hM3 (by grind);have e2:=a7X hx0 hM1 hM3 hMq;have:=a1f (-1000);grind
 obtain⟨r,hr,nr1,nr2⟩:=e4d (q:=s/2) hs g6W (by decide) (by grind) hs1 (by grind);have h3:3*x<=(g+q0)*M:=by
  by_cases c:1<=g
  ·have m:=Rat.mul_nonneg (show 0<=g-1 by grind) (show 0<=M by grind);grind
  ·have m:0<=q0-x:=a6j hg0 (by
    have:=Rat.mul_nonneg (show 0<=x by grind) (show 0<=1-g by grind);grind)
   have m2:=Rat.mul_nonneg m (show 0<=M by grind);have m3:=Rat.mul_nonneg (show 0<=x by grind) (show 0<=M-2 by grind);grind
 have h4:g+q0<=M+1/2:=by
  have m:=Rat.mul_nonneg (show 0<=M-g by grind) (show 0<=g*M-x by grind);have m2:0<=(M*M+x-g*M-q0*M)*g:=by
   have:(M*M+x-g*M-q0*M)*g=(M-g)*(g*M-x):=by grind
   rw[this];exact m
  have m3:=a6j hg0 m2;apply Classical.byContradiction;intro hc;have m4:=Rat.mul_pos (show 0<g+q0-M-1/2 by grind) (show 0<M by grind);grind
 have hr1:(g+q0)/2*(1-4/1000000000000000)<=r:=by grind
 refine⟨r,hr,?_,by grind,?_⟩
 ·have m:=a1h hr1 (show 0<=M by grind);grind
 ·grind
theorem c6I {w v:Nat} {x g M:Rat} (hw:IsR w x) (hv:IsR v g) (hx0:1/10000000000000<=x) (hM1:2<=M) (hM2:2*x<=M) (hM3:M<=1000000000000000000) (h1:x<=g*M) (h2:g<=M) (hg0:0<g):∀k,∃g',IsR (gk w v k) g' /\ x<=g'*M /\ g'<=M /\ 0<g'
 |0=>⟨g,hv,h1,h2,hg0⟩
 | k+1=>by
   obtain⟨g1,a1,a2,a3,a4⟩:=c6I hw hv hx0 hM1 hM2 hM3 h1 h2 hg0 k;exact d5j hw a1 hx0 hM1 hM2 hM3 a2 a3 a4
theorem g4S:∃q,IsR 4427486594234968593 q /\ 1/10000000000000<=q:=by
 have h:∃m e,Ieee.double.read 4427486594234968593 = .number false m e /\ -1074<=e /\ 1/10000000000000<=RV false m e:=by
  refine⟨(match Ieee.double.read 4427486594234968593 with|.number _ m _=>m|_=>0),(match Ieee.double.read 4427486594234968593 with|.number _ _ e=>e|_=>0),?_,?_,?_⟩<;>decide +kernel
 obtain⟨m,e,h1,h2,h3⟩:=h;exact⟨_,⟨false,m,e,h1,h2,rfl⟩,h3⟩
theorem f3I:∃q,IsR 4861130398305394688 q /\ 1<=q /\ q<=200000000000000000:=by
 have h:∃m e,Ieee.double.read 4861130398305394688 = .number false m e /\ -1074<=e /\ 1<=RV false m e /\ RV false m e<=200000000000000000:=by
  refine⟨(match Ieee.double.read 4861130398305394688 with|.number _ m _=>m|_=>0),(match Ieee.double.read 4861130398305394688 with|.number _ _ e=>e|_=>0),?_,?_,?_,?_⟩<;>decide +kernel
 obtain⟨m,e,h1,h2,h3,h4⟩:=h;exact⟨_,⟨false,m,e,h1,h2,rfl⟩,h3,h4⟩
theorem f3J {w c d:Nat} {x y:Rat} (hc:IsR c x) (hd:IsR d y) (h1:(fgt .f64 w c||feq .f64 w c)=true) (h2:(flt .f64 w d||feq .f64 w d)=true):∃q,IsR w q:=by
 obtain⟨s,m,e,hr,_,_⟩:=hc;obtain⟨t,n,f,hr2,_,_⟩:=hd;have o1:FloatKind.f64.format.order w c=(Ieee.double.read w).order (Ieee.double.read c):=rfl;have o2:FloatKind.f64.format.order w d=(Ieee.double.read w).order (Ieee.double.read d):=rfl;unfold fgt feq flt at *;rw[o1,hr]at h1;rw[o2,hr2]at h2;cases hz:Ieee.double.read w with
 |number a b p=>exact⟨_,a,b,p,hz,b3w hz,rfl⟩
 |nan a b=>rw[hz]at h2;simp[Ieee.Datum.order]at h2
 | infinity a =>
   rw[hz]at h1 h2;cases a<;>simp[Ieee.Datum.order]at h1 h2
theorem e0I (w:Nat):∃r,IsR (b7V w) r /\ Abs r 1000000000000000000:=by
 have hz:∃r,IsR 0 r /\ Abs r 1000000000000000000:=⟨0,e7w,by constructor<;>decide +kernel⟩;obtain⟨c1,hc1,b1⟩:=g4S;obtain⟨c2,hc2,b2,b3⟩:=f3I;unfold b7V;generalize hG:gk w (b8l .f64 w 4607182418800017408) 60=G;cases h1:(fgt .f64 w 4427486594234968593||feq .f64 w 4427486594234968593)
 ·exact hz
 cases h2:(flt .f64 w 4861130398305394688||feq .f64 w 4861130398305394688)
 ·exact hz
 obtain⟨x,hx⟩:=f3J hc1 hc2 h1 h2;rw[g3w hx hc1,e9j hx hc1]at h1;rw[f6W hx hc2,e9j hx hc2]at h2;simp only[Bool.or_eq_true,decide_eq_true_eq]at h1 h2;show ∃r,IsR G r /\ _;have hm:∃g,IsR (b8l .f64 w 4607182418800017408) g /\ 1<=g /\ x<=g /\ (g=x∨g=1):=by
  unfold b8l;rw[f3C hx f3E];by_cases c:x<1
  ·rw[if_pos c];exact⟨1,f3E,by grind,by grind,.inr rfl⟩
  ·rw[if_neg c];by_cases c':1<x
   ·rw[if_pos c'];exact⟨x,hx,by grind,by grind,.inl rfl⟩
   ·rw[if_neg c'];have:x=1:=by grind
    dsimp only;split
    ·exact⟨1,f3E,by grind,by grind,.inr rfl⟩
    ·exact⟨x,hx,by grind,by grind,.inl rfl⟩
 obtain⟨g,hg,g1,g2,g3⟩:=hm;have hgM:x<=g*(2*g):=by
  have:=Rat.mul_nonneg (show 0<=g-1 by grind) (show 0<=g by grind);grind
 obtain⟨r,r1,r2,r3,r4⟩:=c6I (M:=2*g) hx hg (by grind) (by grind) (by grind) (by grind) hgM (by grind) (by grind) 60;rw[hG]at r1;exact⟨r,r1,by constructor<;>grind⟩
theorem e7C (z:Nat×Nat):∃r,IsR (d7j z) r /\ Abs r 1000000000000000000:=by
 unfold d7j;cases a4u z
 ·exact⟨0,e7w,by constructor<;>decide +kernel⟩
 ·exact e0I _
theorem a7Y {b:Nat} {q:Rat} (h:IsR b q) (hq:Abs q 1000000000000000000):a2k b=true:=by
 obtain⟨s,m,e,hr,he,rfl⟩:=h;unfold a2k;have hd:FloatKind.f64.decode b = .number s m e:=hr;rw[hd];show(!(Ieee.single.read (Ieee.single.nearest s m e)).isInfinity)=true;by_cases h0:m=0
 ·subst h0;unfold Ieee.Format.nearest;rw[if_pos rfl];cases s<;>decide +kernel
 ·have hlt:(m:Rat)*p2 e<p2 100:=by
   have hp:(1000000000000000000:Rat)<p2 100:=by decide +kernel
   exact d4S s m e (by have:=hq.2;grind) (by have:=hq.1;grind)
  have l1:((2^m.log2:Nat):Rat)<=(m:Rat):=a0R (Nat.log2_self_le h0);have l2:=a1h l1 (Rat.le_of_lt (a1f e));have l3:p2 ((m.log2:Int)+e)<p2 100:=by
   rw[a1E,a1K];grind
  have l4:=b1R l3;obtain⟨s',m',e',h1,_⟩:=e7f s m e 100 (by omega) (by decide) (by decide);rw[h1];rfl
def c3L (w:Nat×Nat):Nat×Nat:=((a0N .f32 .f64 w.1).2,(a0N .f32 .f64 w.2).2)
def a5v (w:Nat×Nat):Nat:=bif a2o w then(a0N .f64 .f32 (d7j (c3L w))).2 else 0
theorem c6J (z:Nat×Nat):(a0N .f64 .f32 (d7j z)).1=true:=by
 obtain⟨r,h1,h2⟩:=e7C z;exact a7Y h1 h2
theorem d5k (w:Nat×Nat):f2h (w,())=some (a5v w,()):=by
 unfold f2h g1c a5v;have e1:F45 (w,())=some (a2o w,()):=a5r w;have e2:g0V (w,())=some (c3L w,()):=rfl;have e3:f2f (c3L w,())=some (d7j (c3L w),()):=e7v _;simp only[K45,G45,e1,f5O,f5P,e2,f5S,f5T,e3,isSome_some,getD_some,cond_true,c6J];cases a2o w<;>rfl
theorem e7D (x:Nat):f0K (x,())=some (b7V x,()):=by
 have hl:∀g,d1L ((x,g,(0:Int),()),())=some ((gk x g 60,()),()):=by
  intro g;have:=a2z (q:=b9M) (fun k=>((x,gk x g k,(k:Int),()),())) 60 ((gk x g 60,()),()) ?_ ?_ (c4W ((x,g,(0:Int),()),())) ?_
  ·exact this
  ·intro k f hk;unfold b9M;have e2:decide ((k:Int)<60)=true:=by simp;omega
   simp only[e2,a3I k (by omega),cond_true];rfl
  ·intro f;unfold b9M;simp
  ·simp[c4W]
 have hmax:(fgt .f64 x 4427486594234968593||feq .f64 x 4427486594234968593)=true->(flt .f64 x 4861130398305394688||feq .f64 x 4861130398305394688)=true ->
  b8l .f64 x 4607182418800017408=bif flt .f64 x 4607182418800017408 then 4607182418800017408 else x:=by
  intro h1 h2;obtain⟨c1,hc1,b1⟩:=g4S;obtain⟨c2,hc2,b2,b3⟩:=f3I;obtain⟨q,hx⟩:=f3J hc1 hc2 h1 h2;rw[g3w hx hc1,e9j hx hc1]at h1;simp only[Bool.or_eq_true,decide_eq_true_eq]at h1;rw[f6W hx f3E];unfold b8l;rw[f3C hx f3E];by_cases c:q<1
  ·rw[if_pos c,decide_eq_true c];rfl
  ·rw [if_neg c,decide_eq_false c];by_cases c':1<q
   ·rw[if_pos c'];rfl
   ·rw[if_neg c'];dsimp only;obtain⟨s,m,e,hr,he,hq⟩:=hx;have hd:FloatKind.f64.decode x = .number s m e:=hr;rw[hd];cases s
    ·rfl
    ·exfalso;have h0:0<=(m:Rat)*p2 e:=Rat.mul_nonneg (a2L m) (Rat.le_of_lt (a1f e));have e2:RV true m e=-((m:Rat)*p2 e):=by
      unfold RV;have:sgR true=-1:=rfl;rw[this];grind
     rw[e2]at hq;have:=c';grind
 unfold f0K f8J b7V;simp only[b5n,b5o,hl,isSome_some,getD_some,cond_true];cases h1:(fgt .f64 x 4427486594234968593||feq .f64 x 4427486594234968593)
 ·rfl
 cases h2:(flt .f64 x 4861130398305394688||feq .f64 x 4861130398305394688)
 ·rfl
 rw[hmax h1 h2];generalize gk x=G;cases flt .f64 x 4607182418800017408<;>rfl
theorem e7E (z:Nat×Nat):f0M (z,())=some (d7j z,()):=by
 unfold f0M f8M d7j;have e1:F96 (z,())=some (a4u z,()):=c6B z;have e2:f0D (z,z,())=some (b2r z z,()):=rfl;have e3:f0K (b2r z z,())=some (b7V (b2r z z),()):=e7D _;simp only[K96,G96,e1,d1F,d1G,e2,f5g,f5h,e3,isSome_some,getD_some,cond_true];cases a4u z<;>rfl
theorem d5l (w:Nat×Nat):f0O (w,())=some (a5v w,()):=by
 unfold f0O f8P a5v;have e1:F52 (w,())=some (a2o w,()):=b3t w;have e2:f5c (w,())=some (c3L w,()):=rfl;have e3:f0M (c3L w,())=some (d7j (c3L w),()):=e7E _;simp only[K52,G52,e1,e5D,e5E,e2,f5i,f5j,e3,isSome_some,getD_some,cond_true,c6J];cases a2o w<;>rfl
def upV (p:a7W) (wind:Nat) (angle:Int) (u:Nat×Nat):Nat:=a0g .mul .f32 (b3y p wind angle) (a0N .f64 .f32 u.1).2
theorem c1F (k:Nat) (hk:k<360):(a0N .f64 .f32 (a0X k).1).1=true:=a7Y (tcR hk) ((e3Z hk).1.mono (by decide +kernel))
def e7F (p:a7W) (wind:Nat) (angle:Int):Nat×Bool×Unit:=bif a3a p&&(fge wind 0&&(fle wind 1120403456&&a0I angle 0 180))then(upV p wind angle (a0X (md angle)),true,())else(0,false,())
def mm (fx:Nat->Nat) (lo hi:Int):Nat->Int×Nat
 |0=>(lo,0)
 |k+1=>bif a0I (k:Int) lo hi then(bif (k:Int)==lo then((k:Int),fx k)else bif fgt .f32 (fx k) (mm fx lo hi k).2 then((k:Int),fx k)else mm fx lo hi k)else mm fx lo hi k
def a1G (w:Nat×Nat):Int:=bif !a2o w then -1 else bif (feq .f32 w.1 0&&feq .f32 w.2 0)then -1 else b7U ((a0N .f32 .f64 (a3G .f32 w.1)).2,(a0N .f32 .f64 (a3G .f32 w.2)).2)
theorem d5m (w:Nat×Nat):f2a (w,())=some (a1G w,()):=by
 unfold f2a g0R a1G;have e1:F45 (w,())=some (a2o w,()):=a5r w;have e2:f1Y (((a0N .f32 .f64 (a3G .f32 w.1)).2,(a0N .f32 .f64 (a3G .f32 w.2)).2),())=some (b7U ((a0N .f32 .f64 (a3G .f32 w.1)).2,(a0N .f32 .f64 (a3G .f32 w.2)).2),()):=e7t _;simp only[K45,G45,e1,f5M,f5N,e2,isSome_some,getD_some,cond_true];generalize b7U ((a0N .f32 .f64 (a3G .f32 w.1)).2,(a0N .f32 .f64 (a3G .f32 w.2)).2)=B;cases a2o w
 ·rfl
 ·cases (feq .f32 w.1 0&&feq .f32 w.2 0)<;>rfl
theorem e0J (z:Nat×Nat):f0G (z,())=some (b7U z,()):=by
 have hbs:∀k,bm z (k+1)=bs z k:=by
  intro k
  induction k with
  |zero=>rfl
  | succ k ih =>
    show(bif ((k+1:Nat):Int)==0 then _ else bif fgt .f64 (b2r z (a0X (k+1))) (bm z (k+1)).2 then _ else bm z (k+1))=_;have:(((k+1:Nat):Int)==0)=false:=by simp;omega
    rw[this,ih];rfl
 have hl:d1I ((z,0,(4607182418800017408,0),b2r z (a0X 0),1,()),())=some (((bs z 359).1,()),()):=by
  have:=a2z (q:=b9K K96 G96 d1F d1G c7W c7X c7Y c7Z) (fun k=>((z,(bs z k).1,a0X k,(bs z k).2,((k+1:Nat):Int),()),())) 359 (((bs z 359).1,()),()) ?_ ?_ (c4V ((z,0,(4607182418800017408,0),b2r z (a0X 0),1,()),())) ?_
  ·exact this
  ·intro k f hk;unfold b9K;have e2:decide (((k+1:Nat):Int)<360)=true:=by simp;omega
   have e3:f5d ()=some (c8N,()):=rfl;have e4:f0E (a0X k,c8N,())=some (a0X (k+1),()):=d5b _ _;have e5:f0D (z,a0X (k+1),())=some (b2r z (a0X (k+1)),()):=rfl;simp only[e2,a3I (k+1) (by omega),c7W,c7X,e3,c7Y,c7Z,e4,d1F,d1G,e5,isSome_some,getD_some,cond_true,bs];cases fgt .f64 (b2r z (a0X (k+1))) (bs z k).2<;>rfl
  ·intro f;unfold b9K;simp
  ·simp[c4V]
 unfold f0G f8E;have e1:F96 (z,())=some (a4u z,()):=c6B z;have e5:f0D (z,(4607182418800017408,0),())=some (b2r z (a0X 0),()):=rfl;simp only[K96,G96,e1,d1F,d1G,e5,b5j,b5k,hl,isSome_some,getD_some,cond_true];unfold b7U;rw[hbs 359];generalize bs z 359=B;cases a4u z
 ·rfl
 ·show(bif d5c z then some ((-1:Int),())else _)=_;cases d5c z<;>rfl
theorem d5n (w:Nat×Nat):f0I (w,())=some (a1G w,()):=by
 unfold f0I f8H a1G;have e1:F52 (w,())=some (a2o w,()):=b3t w;have e3:f5c ((a3G .f32 w.1,a3G .f32 w.2),())=some (((a0N .f32 .f64 (a3G .f32 w.1)).2,(a0N .f32 .f64 (a3G .f32 w.2)).2),()):=rfl;have e2:f0G (((a0N .f32 .f64 (a3G .f32 w.1)).2,(a0N .f32 .f64 (a3G .f32 w.2)).2),())=some (b7U ((a0N .f32 .f64 (a3G .f32 w.1)).2,(a0N .f32 .f64 (a3G .f32 w.2)).2),()):=e0J _;simp only[K52,G52,e1,e5D,e5E,e3,f5e,f5f,e2,isSome_some,getD_some,cond_true];generalize b7U ((a0N .f32 .f64 (a3G .f32 w.1)).2,(a0N .f32 .f64 (a3G .f32 w.2)).2)=B;cases a2o w
 ·rfl
 ·cases (feq .f32 w.1 0&&feq .f32 w.2 0)<;>rfl
def sm (cmp:Nat->Nat->Bool) (p:a7W) (wind:Nat) (lo:Int):Nat->Int×Nat
 |0=>(lo,(e7F p wind lo).1)
 |k+1=>bif cmp (e7F p wind (lo+((k+1:Nat):Int))).1 (sm cmp p wind lo k).2 then(lo+((k+1:Nat):Int),(e7F p wind (lo+((k+1:Nat):Int))).1)else sm cmp p wind lo k
def IsS (w:Nat) (q:Rat):Prop:=∃(s:Bool) (m:Nat) (e:Int),Ieee.single.read w = .number s m e /\ -149<=e /\ q=RV s m e
theorem c8Q (neg:Bool) (K e:Nat) (h1:e*2^23+K<255*2^23) (h2:(e=0 /\ K<=2^24)∨(2^23<=K /\ K<=2^24)) :
 ∃(m:Nat) (c:Nat),Ieee.single.read (Ieee.single.word neg (e*2^23+K)) = .number neg m ((c:Int)-149) /\ m*2^c=K*2^e:=by
 have hr:Ieee.single.word neg (e*2^23+K)%Ieee.single.signWeight=e*2^23+K:=by
  unfold Ieee.Format.word;rw[f6V];split<;>omega
 have hn:(Ieee.single.word neg (e*2^23+K)/Ieee.single.signWeight%2==1)=neg:=by
  unfold Ieee.Format.word;rw[f6V];cases neg
  ·rw[if_neg (by decide)];have:(e*2^23+K)/2^31=0:=Nat.div_eq_of_lt (by omega);rw[this];rfl
  ·rw[if_pos rfl];have:(2^31+(e*2^23+K))/2^31=1:=by omega
   rw[this];rfl
 unfold Ieee.Format.read;dsimp only;rw[hr,hn,e0D,e0C,f3B];by_cases c1:e*2^23+K<2^23
 ·rw[if_pos c1];have:e=0:=by omega
  subst this;exact⟨K,0,by simp,by simp⟩
 ·rw[if_neg c1,if_pos h1];by_cases c2:K<2^23
  ·exfalso;omega
  by_cases c3:K=2^24
  ·have e1:(e*2^23+K)/2^23=e+2:=by omega
   have e2:(e*2^23+K)%2^23=0:=by omega
   rw[e1,e2];refine⟨2^23,e+1,?_,?_⟩
   ·rw[show((-149:Int)+((e+2-1:Nat):Int))=((e+1:Nat):Int)-149 by omega,Nat.add_zero]
   ·rw[c3,<- Nat.pow_add,<- Nat.pow_add];congr 1;omega
  ·have e1:(e*2^23+K)/2^23=e+1:=by omega
   have e2:(e*2^23+K)%2^23=K-2^23:=by omega
   rw[e1,e2];refine⟨K,e,?_,rfl⟩;rw[show((-149:Int)+((e+1-1:Nat):Int))=((e:Nat):Int)-149 by omega,show 2^23+(K-2^23)=K by omega]
theorem a4S (neg:Bool):IsS (Ieee.single.word neg 0) 0:=by
 refine⟨neg,0,-149,?_,Int.le_refl _,?_⟩
 ·cases neg<;>decide
 ·unfold RV;grind
theorem d5o (neg:Bool) (M:Nat) (p B:Int) (h0:M≠0) (hB:(M.log2:Int)+p<=B) (h1:-126<=B) (h2:B<=126) :
 ∃r,IsS (Ieee.single.nearest neg M p) r /\ b3u r (RV neg M p) (p2 (B-24)):=by
 unfold Ieee.Format.nearest;rw[if_neg h0,g4N,f3B,e0D,e0C];dsimp only;have l1:2^M.log2<=M:=Nat.log2_self_le h0;have l2:M<2^(M.log2+1):=Nat.lt_log2_self;generalize hL:M.log2=L at *;obtain⟨last,hlast⟩:∃last,last=max (p+(L:Int)-(23:Nat)) (-149):=⟨_,rfl⟩;rw[<- hlast];have hl1:p+(L:Int)-23<=last:=by omega
 have hl2:-149<=last:=by omega
 have hl3:last<=B-23:=by omega
 have hl4:last=p+(L:Int)-23∨last=-149:=by omega
 obtain⟨up,hup⟩:∃up,up=(p-last).toNat:=⟨_,rfl⟩;obtain⟨d,hd⟩:∃d,d=(last-p).toNat:=⟨_,rfl⟩;rw[<- hup,<- hd,Nat.shiftLeft_eq];have hle:Ieee.Toward.even.cut neg (M*2^up) d<=2^24:=by
  refine d4M _ _ _ 24 ?_;have:M*2^up<2^(L+1+up):=by rw[Nat.pow_add];exact Nat.mul_lt_mul_of_pos_right l2 (Nat.two_pow_pos _)
  exact Nat.lt_of_lt_of_le this (Nat.pow_le_pow_right (by decide) (by omega))
 have hge:last ≠ -149->2^23<=Ieee.Toward.even.cut neg (M*2^up) d:=by
  intro hne;refine e3V _ _ _ 23 ?_;have:2^(L+up)<=M*2^up:=by rw[Nat.pow_add];exact Nat.mul_le_mul_right _ l1
  exact Nat.le_trans (Nat.pow_le_pow_right (by decide) (by omega)) this
 have hnear:=c6C neg (M*2^up) d;have hexact:d=0->Ieee.Toward.even.cut neg (M*2^up) d=M*2^up:=fun e=>by rw[e,a4D]
 generalize Ieee.Toward.even.cut neg (M*2^up) d=K at *;obtain⟨e,he⟩:∃e,e=(last - -149).toNat:=⟨_,rfl⟩;rw[<- he];have hrung:e*2^23+K<255*2^23:=by omega
 rw[Nat.min_eq_left (Nat.le_of_lt hrung)];obtain⟨m,c,hr,hm⟩:=c8Q neg K e hrung (by
  by_cases h:last=-149
  ·exact .inl ⟨by omega,hle⟩
  ·exact .inr ⟨hge h,hle⟩)
 refine⟨RV neg m ((c:Int)-149),⟨neg,m,_,hr,by omega,rfl⟩,?_⟩;have hv:RV neg m ((c:Int)-149)=sgR neg*(K:Rat)*p2 last:=by
  have e1:(m:Rat)*p2 (c:Int)=(K:Rat)*p2 (e:Int):=by
   rw[a1K,a1K]
   exact_mod_cast congrArg (fun n:Nat=>(n:Rat)) hm
  have e2:last=(e:Int) + -149:=by omega
  unfold RV;rw[e2,Int.sub_eq_add_neg,a1E,a1E];grind
 rw[hv];by_cases hc:last<=p
 ·have hd0:d=0:=by omega
  have hK:=hexact hd0;have e1:RV neg M p=sgR neg*(K:Rat)*p2 last:=by
   unfold RV;have e2:p=(up:Int)+last:=by omega
   rw[hK,e2,a1E,a1K,Rat.natCast_mul];grind
  rw[e1];have:=a1f (B-24);constructor<;>grind
 ·have hu0:up=0:=by omega
  rw[hu0,Nat.pow_zero,Nat.mul_one]at hnear;have e1:p2 last=((2^d:Nat):Rat)*p2 p:=by
   have:last=(d:Int)+p:=by omega
   rw[this,a1E,a1K]
  have hp:=a1f p;have n1:2*((K:Rat)*((2^d:Nat):Rat))<=2*(M:Rat)+((2^d:Nat):Rat):=by exact_mod_cast a0R hnear.1
  have n2:2*(M:Rat)<=2*((K:Rat)*((2^d:Nat):Rat))+((2^d:Nat):Rat):=by exact_mod_cast a0R hnear.2
  have m1:=a1h n1 (Rat.le_of_lt hp);have m2:=a1h n2 (Rat.le_of_lt hp);have hle2:p2 last<=2*p2 (B-24):=by
   rw[<- a5Q];exact c1A (by omega)
  unfold RV;rw[e1]at *;generalize ((2^d:Nat):Rat)=g at *;generalize (K:Rat)=k at *;generalize (M:Rat)=mm at *;generalize p2 (B-24)=ε at *;generalize p2 p=t at *;cases neg
  ·have:sgR false=1:=rfl;rw[this];constructor<;>grind
  ·have:sgR true=-1:=rfl;rw[this];constructor<;>grind
theorem d5p (neg:Bool) (M:Nat) (p:Int) (B:Int) (h1:-126<=B) (h2:B<=126) (hlt:RV neg M p<p2 (B+1)) (hgt:-p2 (B+1)<RV neg M p) :
 ∃r,IsS (Ieee.single.nearest neg M p) r /\ b3u r (RV neg M p) (p2 (B-24)):=by
 by_cases h0:M=0
 ·subst h0;refine⟨0,?_,?_⟩
  ·unfold Ieee.Format.nearest;rw[if_pos rfl];exact a4S neg
  ·rw[a4Q];have:=a1f (B-24);constructor<;>grind
 ·refine d5o neg M p B h0 ?_ h1 h2;have hm:=d4S neg M p hlt hgt;have l1:((2^M.log2:Nat):Rat)<=(M:Rat):=a0R (Nat.log2_self_le h0);have l2:=a1h l1 (Rat.le_of_lt (a1f p));have:p2 ((M.log2:Int)+p)<p2 (B+1):=by
   rw[a1E,a1K];grind
  have:=b1R this;omega
theorem g4T (s t:Bool) (m n:Nat) (e f:Int) (B:Int) (h1:-126<=B) (h2:B<=126) (hlt:RV s m e+RV t n f<p2 (B+1)) (hgt:-p2 (B+1)<RV s m e+RV t n f) :
 ∃w r,(Ieee.Datum.sum (.number s m e) (.number t n f)).map Ieee.single.write=some w /\ IsS w r /\ b3u r (RV s m e+RV t n f) (p2 (B-24)):=by
 unfold Ieee.Datum.sum;dsimp only;have hs:=a3R s m e (min e f) (by omega);have ht:=a3R t n f (min e f) (by omega);generalize hT:Ieee.signed s m (e-min e f).toNat+Ieee.signed t n (f-min e f).toNat=T;have hT2:((T:Int):Rat)*p2 (min e f)=RV s m e+RV t n f:=by
  rw[<- hT,Rat.intCast_add,<- hs,<- ht];grind
 have hV:RV (if T=0 then s&&t else decide (T<0)) T.natAbs (min e f)=RV s m e+RV t n f:=by
  rw[<- hT2];unfold RV;by_cases c0:T=0
  ·subst c0;simp[Rat.mul_zero,Rat.zero_mul]
  ·rw[if_neg c0];by_cases c1:T<0
   ·have e1:((T:Int):Rat)=-((T.natAbs:Nat):Rat):=by
     rw[<- Rat.intCast_natCast,<- Rat.intCast_neg];congr 1;omega
    rw[e1];simp only[c1,decide_true];have:sgR true=-1:=rfl;rw[this];grind
   ·have e1:((T:Int):Rat)=((T.natAbs:Nat):Rat):=by
     rw[<- Rat.intCast_natCast];congr 1;omega
    rw[e1];simp only[c1,decide_false];have:sgR false=1:=rfl;rw[this];grind
 rw[<- hV]at hlt hgt;obtain⟨r,h3,h4⟩:=d5p _ _ _ B h1 h2 hlt hgt;rw[hV]at h4;exact⟨_,r,rfl,h3,h4⟩
theorem g6X {a b:Nat} {x y:Rat} (ha:IsS a x) (hb:IsS b y) (B:Int) (h1:-126<=B) (h2:B<=126) (hlt:x+y<p2 (B+1)) (hgt:-p2 (B+1)<x+y) :
 ∃r,IsS (a0g .add .f32 a b) r /\ b3u r (x+y) (p2 (B-24)):=by
 obtain⟨s,m,e,hr,he,rfl⟩:=ha;obtain⟨t,n,f,hr',hf,rfl⟩:=hb;obtain⟨w,r,h3,h4,h5⟩:=g4T s t m n e f B h1 h2 hlt hgt;have e1:a0g .add .f32 a b=(((Ieee.single.read a).sum (Ieee.single.read b)).map Ieee.single.write).getD (qn .f32):=rfl;rw[e1,hr,hr',h3];exact⟨r,h4,h5⟩
theorem g6Y {a b:Nat} {x y:Rat} (ha:IsS a x) (hb:IsS b y) (B:Int) (h1:-126<=B) (h2:B<=126) (hlt:x-y<p2 (B+1)) (hgt:-p2 (B+1)<x-y) :
 ∃r,IsS (a0g .sub .f32 a b) r /\ b3u r (x-y) (p2 (B-24)):=by
 obtain⟨s,m,e,hr,he,rfl⟩:=ha;obtain⟨t,n,f,hr',hf,rfl⟩:=hb;have e2:RV s m e-RV t n f=RV s m e+RV (!t) n f:=by rw[e3W];grind
 rw[e2]at hlt hgt ⊢;obtain⟨w,r,h3,h4,h5⟩:=g4T s (!t) m n e f B h1 h2 hlt hgt;have e1:a0g .sub .f32 a b=(((Ieee.single.read a).sum (Ieee.single.read b).opposite).map Ieee.single.write).getD (qn .f32):=rfl;rw[e1,hr,hr'];show ∃r,IsS ((((Ieee.Datum.number s m e).sum (Ieee.Datum.number (!t) n f)).map Ieee.single.write).getD (qn .f32)) r /\ _;rw[h3];exact⟨r,h4,h5⟩
theorem e7G (s t:Bool) (m n:Nat) (e f:Int):Ieee.Datum.order (.number s m e) (.number t n f)=some (if RV s m e<RV t n f then .lt else if RV t n f<RV s m e then .gt else .eq):=by
 unfold Ieee.Datum.order;dsimp only;have hs:=a3R s m e (min e f) (by omega);have ht:=a3R t n f (min e f) (by omega);have hp:=a1f (min e f);rw[<- hs,<- ht];generalize Ieee.signed s m (e-min e f).toNat=v;generalize Ieee.signed t n (f-min e f).toNat=w;generalize p2 (min e f)=g at *;have key:∀a b:Int,(a:Rat)*g<(b:Rat)*g↔a<b:=by
  intro a b;constructor
  ·intro h;apply Classical.byContradiction;intro hn;have:(b:Rat)<=(a:Rat):=Rat.intCast_le_intCast.2 (by omega);have:=a1h this (Rat.le_of_lt hp);grind
  ·intro h;have:(a:Rat)<(b:Rat):=Rat.intCast_lt_intCast.2 h;exact Rat.mul_lt_mul_of_pos_right this hp
 simp only[key];congr 1;rw[Int.compare_eq_ite_lt]
theorem f3K {a b:Nat} {x y:Rat} (ha:IsS a x) (hb:IsS b y):FloatKind.f32.format.order a b=some (if x<y then .lt else if y<x then .gt else .eq):=by
 obtain⟨s,m,e,hr,_,rfl⟩:=ha;obtain⟨t,n,f,hr',_,rfl⟩:=hb;show(Ieee.single.read a).order (Ieee.single.read b)=_;rw[hr,hr'];exact e7G s t m n e f
theorem g6Z {a b:Nat} {x y:Rat} (ha:IsS a x) (hb:IsS b y):fgt .f32 a b=decide (y<x):=by
 unfold fgt;rw[f3K ha hb];by_cases h:x<y
 ·have:¬y<x:=by grind
  simp[h,this]
 ·by_cases h2:y<x<;>simp[h,h2]
theorem g3z {a b:Nat} {x y:Rat} (ha:IsS a x) (hb:IsS b y):fle a b=decide (x<=y):=by
 unfold fle flt feq;rw[f3K ha hb];by_cases h:x<y
 ·have:x<=y:=by grind
  simp[h,this]
 ·by_cases h2:y<x
  ·have:¬x<=y:=by grind
   simp[h,h2,this]
  ·have:x<=y:=by grind
   simp[h,h2,this]
theorem g3A {a b:Nat} {x y:Rat} (ha:IsS a x) (hb:IsS b y):fge a b=decide (y<=x):=by
 unfold fge fgt feq;rw[f3K ha hb];by_cases h:x<y
 ·have:¬y<=x:=by grind
  simp[h,this]
 ·by_cases h2:y<x
  ·have:y<=x:=by grind
   simp[h,h2,this]
  ·have:y<=x:=by grind
   simp[h,h2,this]
theorem e7H {w:Nat} (s:Bool) (m:Nat) (e:Int) (h:Ieee.single.read w = .number s m e) (he:-149<=e) {q:Rat} (hq:RV s m e=q):IsS w q:=⟨s,m,e,h,he,hq.symm⟩
theorem e0K:IsS 0 0:=e7H false 0 (-149) (by decide +kernel) (by decide) (a4Q _ _)
theorem c3M {w:Nat} {s:Bool} {m:Nat} {e:Int} (h:Ieee.single.read w = .number s m e):-149<=e:=by
 unfold Ieee.Format.read at h;dsimp only at h;rw[f3B]at h;split at h
 ·cases h;exact Int.le_refl _
 ·split at h
  ·cases h;omega
  ·split at h<;>cases h
theorem g3B {a b:Nat} {x y A ε:Rat} (ha:IsS a x) (hb:IsS b y) (B:Int) (h:Abs (x+y) A) (hA:A<p2 (B+1)) (hε:p2 (B-24)<=ε) (h1:-126<=B) (h2:B<=126):∃r,IsS (a0g .add .f32 a b) r /\ b3u r (x+y) ε:=by
 obtain⟨k1,k2⟩:=h;obtain⟨r,h3,h4,h5⟩:=g6X ha hb B h1 h2 (by grind) (by grind);exact⟨r,h3,by grind,by grind⟩
theorem g3C {a b:Nat} {x y A ε:Rat} (ha:IsS a x) (hb:IsS b y) (B:Int) (h:Abs (x-y) A) (hA:A<p2 (B+1)) (hε:p2 (B-24)<=ε) (h1:-126<=B) (h2:B<=126):∃r,IsS (a0g .sub .f32 a b) r /\ b3u r (x-y) ε:=by
 obtain⟨k1,k2⟩:=h;obtain⟨r,h3,h4,h5⟩:=g6Y ha hb B h1 h2 (by grind) (by grind);exact⟨r,h3,by grind,by grind⟩
abbrev Yv:Type:=Den S46
namespace Yv
def tm (Y:Yv):Int:=Y.2.1
def ps (Y:Yv):Nat×Nat:=Y.2.2.1
def hd (Y:Yv):Int:=Y.2.2.2.1
def wd (Y:Yv):Nat×Nat:=Y.2.2.2.2.1
def sl (Y:Yv):Int:=Y.2.2.2.2.2.1
def tk (Y:Yv):List (Den S97):=Y.2.2.2.2.2.2.1
def lg (Y:Yv):List ByteArray:=Y.2.2.2.2.2.2.2.1
def sails (Y:Yv):List (Den S68):=Y.1.2.2.1
def setHd (Y:Yv) (h:Int):Yv:=(Y.1,Y.2.1,Y.2.2.1,h,Y.2.2.2.2)
def setWd (Y:Yv) (w:Nat×Nat):Yv:=(Y.1,Y.2.1,Y.2.2.1,Y.2.2.2.1,w,Y.2.2.2.2.2)
def setSl (Y:Yv) (k:Int):Yv:=(Y.1,Y.2.1,Y.2.2.1,Y.2.2.2.1,Y.2.2.2.2.1,k,Y.2.2.2.2.2.2)
def setPs (Y:Yv) (p:Nat×Nat):Yv:=(Y.1,Y.2.1,p,Y.2.2.2)
def setGo (Y:Yv) (t:Int) (p:Nat×Nat) (tr:List (Den S97)):Yv:=(Y.1,t,p,Y.2.2.2.1,Y.2.2.2.2.1,Y.2.2.2.2.2.1,tr,Y.2.2.2.2.2.2.2)
def setLg (Y:Yv) (l:List ByteArray):Yv:=(Y.1,Y.2.1,Y.2.2.1,Y.2.2.2.1,Y.2.2.2.2.1,Y.2.2.2.2.2.1,Y.2.2.2.2.2.2.1,l,())
end Yv
abbrev I68:Sg:=⟨[.ptr 0,.val (.slice (.str))],[.boxC [.sl (.flt .f32),.sl (.int .i64),.sl (.slice (.flt .f32)),.sl (a0Y),.sl (.int .i64),.sl (S68),.int .i64,.int .i64,.int .i64,.int .i64,.sl (a1U),.int .i64,.int .i64,.int .i64,.int .i64,.int .i64,.cpx .f64,.int .i64,.cpx .f32,.int .i64,.ref (S97) 1,.ref (.str) 2],.arr (S97),.arr (.str)]⟩
abbrev O68:Sg:=⟨[.val (.bool)],[.boxC [.sl (.flt .f32),.sl (.int .i64),.sl (.slice (.flt .f32)),.sl (a0Y),.sl (.int .i64),.sl (S68),.int .i64,.int .i64,.int .i64,.int .i64,.sl (a1U),.int .i64,.int .i64,.int .i64,.int .i64,.int .i64,.cpx .f64,.int .i64,.cpx .f32,.int .i64,.ref (S97) 3,.ref (.str) 2],.gone,.arr (.str),.arr (S97)]⟩
noncomputable def g7a (n o a b p q c d e g r s h i t u w y z A j k l m) :=a0m tab eqs [(17,a0a A17 R17 n o),(132,a0a c8s d3G a b),(45,a0a A45 R45 p q),(133,a0a c8t d7a c d),(134,a0a b8k c8j e g),(19,a0a A19 R19 r s),(135,a0a b7a c8u h i),(23,a0a A23 R23 t u),(44,a0a A44 R44 w y),(57,a0a A57 R57 z A),(136,a0a c8E d7e j k),(137,a0a c8F d3X l m)] 356 [.tmp 4] [] [] [] [] [.mv 0 20 1]
def a5R:ByteArray:={ data:=#[115,116,101,101,114] }
def b2s:ByteArray:={ data:=#[119,105,110,100] }
def c1G:ByteArray:={ data:=#[115,97,105,108] }
def c8R:ByteArray:={ data:=#[110,111,110,101] }
def e4e:ByteArray:={ data:=#[102,105,120] }
def sGo:ByteArray:={ data:=#[103,111] }
def yIn (x:I68.den):Yv:=(((x.2.1.1,x.2.1.2.1,x.2.1.2.2.1,()),(x.2.1.2.2.2.1,x.2.1.2.2.2.2.1,()),x.2.1.2.2.2.2.2.1,(((x.2.1.2.2.2.2.2.2.1,x.2.1.2.2.2.2.2.2.2.1,()),(x.2.1.2.2.2.2.2.2.2.2.1,x.2.1.2.2.2.2.2.2.2.2.2.1,()),()),x.2.1.2.2.2.2.2.2.2.2.2.2.1,((x.2.1.2.2.2.2.2.2.2.2.2.2.2.1,x.2.1.2.2.2.2.2.2.2.2.2.2.2.2.1,()),(x.2.1.2.2.2.2.2.2.2.2.2.2.2.2.2.1,x.2.1.2.2.2.2.2.2.2.2.2.2.2.2.2.2.1,()),()),()),()),
 x.2.1.2.2.2.2.2.2.2.2.2.2.2.2.2.2.2.1,x.2.1.2.2.2.2.2.2.2.2.2.2.2.2.2.2.2.2.1,x.2.1.2.2.2.2.2.2.2.2.2.2.2.2.2.2.2.2.2.1,x.2.1.2.2.2.2.2.2.2.2.2.2.2.2.2.2.2.2.2.2.1,x.2.1.2.2.2.2.2.2.2.2.2.2.2.2.2.2.2.2.2.2.2.1,x.2.2)
def c8S (b:Bool) (Y:Yv):O68.den:=((b,()),(Y.1.1.1,Y.1.1.2.1,Y.1.1.2.2.1,Y.1.2.1.1,Y.1.2.1.2.1,Y.1.2.2.1,Y.1.2.2.2.1.1.1.1,Y.1.2.2.2.1.1.1.2.1,Y.1.2.2.2.1.1.2.1.1,Y.1.2.2.2.1.1.2.1.2.1,Y.1.2.2.2.1.2.1,Y.1.2.2.2.1.2.2.1.1.1,Y.1.2.2.2.1.2.2.1.1.2.1,Y.1.2.2.2.1.2.2.1.2.1.1,Y.1.2.2.2.1.2.2.1.2.1.2.1,
 Y.2.1,Y.2.2.1,Y.2.2.2.1,Y.2.2.2.2.1,Y.2.2.2.2.2.1,(),(),()),(),Y.lg,Y.tk,())
section
variable {R:Type} (k17:KA A17) (g17:GA A17 R17) (k132:KA c8s) (g132:GA c8s d3G) (k45:KA A45) (g45:GA A45 R45) (k133:KA c8t) (g133:GA c8t d7a) (k134:KA b8k) (g134:GA b8k c8j) (k19:KA A19) (g19:GA A19 R19) (k135:KA b7a) (g135:GA b7a c8u) (k23:KA A23) (g23:GA A23 R23) (k44:KA A44) (g44:GA A44 R44) (k57:KA A57) (g57:GA A57 R57) (k136:KA c8E) (g136:GA c8E d7e) (k137:KA c8F) (g137:GA c8F d3X) (f:List ByteArray)
def ixB (k:Int):Bool:=decide (k<(↑(length f):Int))
def fAt (k:Int):ByteArray:=getD f (toNat k) (zero Ty.str)
def kpK (Y:Yv) (h:Bool->Yv->Option R):Option R:=
 bif decide (Y.sl ≥ 0)then
 bif k19 (Y,())then
 bif (g19 (Y,())).2.1 then
 bif k137 (Y.sails,Y.sl,(g19 (Y,())).1,())then h true (Y.setSl (g137 (Y.sails,Y.sl,(g19 (Y,())).1,())).1)else none
 else h true (Y.setSl (-1))
 else none
 else h true Y
def a8R (Y:Yv) (h:Bool->Yv->Option R):Option R:=
 bif ixB f 0 then
 bif a2F (fAt f 0) a5R then kpK k19 g19 k137 g137 Y h
 else bif ixB f 0 then bif a2F (fAt f 0) b2s then kpK k19 g19 k137 g137 Y h else h true Y else none
 else none
def b3z (Y:Yv) (h:Bool->Yv->Option R):Option R:=
 bif ixB f 1 then
 bif k17 (fAt f 1,())then
 bif !(g17 (fAt f 1,())).2.1 then h false Y
 else bif decide ((g17 (fAt f 1,())).1>359)then h false Y
 else a8R k19 g19 k137 g137 f (Y.setHd (g17 (fAt f 1,())).1) h
 else none
 else none
def slB:Bool:=decide (1<=(↑(length f):Int))&&decide ((↑(length f):Int)<=(↑(length f):Int))
def b2e:List ByteArray:=List.drop (toNat 1) (List.take (toNat (↑(length f):Int)) f)
def d7k (p:Nat×Nat×Bool×Unit):Nat×Nat:=((a0N .f64 .f32 p.1).2,(a0N .f64 .f32 p.2.1).2)
def c8T (Y:Yv) (h:Bool->Yv->Option R):Option R:=
 bif slB f then
 bif k132 (b2e f,())then
 bif (a0N .f64 .f32 (g132 (b2e f,())).1).1 then
 bif (a0N .f64 .f32 (g132 (b2e f,())).2.1).1 then
 bif !(g132 (b2e f,())).2.2.1 then h false Y
 else bif k45 (d7k (g132 (b2e f,())),())then
 bif !(g45 (d7k (g132 (b2e f,())),())).1 then h false Y
 else bif !(feq .f32 Y.wd.1 0&&feq .f32 Y.wd.2 0)then
 bif k133 (Y.wd,d7k (g132 (b2e f,())),1056964608,())then
 bif !(g133 (Y.wd,d7k (g132 (b2e f,())),1056964608,())).2.1 then h false Y
 else bif k45 ((g133 (Y.wd,d7k (g132 (b2e f,())),1056964608,())).1,())then
 bif !(g45 ((g133 (Y.wd,d7k (g132 (b2e f,())),1056964608,())).1,())).1 then h false Y
 else a8R k19 g19 k137 g137 f (Y.setWd (g133 (Y.wd,d7k (g132 (b2e f,())),1056964608,())).1) h
 else none
 else none
 else a8R k19 g19 k137 g137 f (Y.setWd (d7k (g132 (b2e f,())))) h
 else none
 else none
 else none
 else none
 else none
def c8U (Y:Yv) (h:Bool->Yv->Option R):Option R:=
 bif ixB f 1 then
 bif a2F (fAt f 1) c8R then h true (Y.setSl (-1))
 else bif ixB f 1 then
 bif k134 (Y.sails,fAt f 1,())then
 bif k19 (Y,())then
 bif decide ((g134 (Y.sails,fAt f 1,())).1<0)then h false Y
 else bif !(g19 (Y,())).2.1 then h false Y
 else bif decide (0<=(g134 (Y.sails,fAt f 1,())).1)&&decide ((g134 (Y.sails,fAt f 1,())).1<(↑(length Y.sails):Int))then
 bif k135 (getD Y.sails (toNat (g134 (Y.sails,fAt f 1,())).1) (zero S68),(g19 (Y,())).1,())then
 bif !(g135 (getD Y.sails (toNat (g134 (Y.sails,fAt f 1,())).1) (zero S68),(g19 (Y,())).1,())).1 then h false Y
 else a8R k19 g19 k137 g137 f (Y.setSl (g134 (Y.sails,fAt f 1,())).1) h
 else none
 else none
 else none
 else none
 else none
 else none
def e9l (Y:Yv) (h:Bool->Yv->Option R):Option R:=
 bif slB f then
 bif k132 (b2e f,())then
 bif k23 (((g132 (b2e f,())).1,(g132 (b2e f,())).2.1),())then
 bif !(g132 (b2e f,())).2.2.1 then h false Y
 else bif !(g23 (((g132 (b2e f,())).1,(g132 (b2e f,())).2.1),())).2.1 then h false Y
 else a8R k19 g19 k137 g137 f (Y.setPs ((g132 (b2e f,())).1,(g132 (b2e f,())).2.1)) h
 else none
 else none
 else none
def c3N (Y:Yv) (n t:Int) (s:Nat) (h:Bool->Yv->Option R):Option R:=
 bif k136 (Y.ps,Y.tm,set (replicate 1 (zero a3Y)) 0 (Y.hd,s,n,()),Y.1.2.1,())then
 bif k23 ((g136 (Y.ps,Y.tm,set (replicate 1 (zero a3Y)) 0 (Y.hd,s,n,()),Y.1.2.1,())).1,())then
 bif !(g136 (Y.ps,Y.tm,set (replicate 1 (zero a3Y)) 0 (Y.hd,s,n,()),Y.1.2.1,())).2.1 then h false Y
 else bif !(g23 ((g136 (Y.ps,Y.tm,set (replicate 1 (zero a3Y)) 0 (Y.hd,s,n,()),Y.1.2.1,())).1,())).2.1 then h false Y
 else bif a0D (length Y.tk+1)then
 a8R k19 g19 k137 g137 f (Y.setGo t (g136 (Y.ps,Y.tm,set (replicate 1 (zero a3Y)) 0 (Y.hd,s,n,()),Y.1.2.1,())).1 (Y.tk++[((g23 ((g136 (Y.ps,Y.tm,set (replicate 1 (zero a3Y)) 0 (Y.hd,s,n,()),Y.1.2.1,())).1,())).1,t,())])) h
 else none
 else none
 else none
def goK (Y:Yv) (h:Bool->Yv->Option R):Option R:=
 bif ixB f 1 then
 bif k17 (fAt f 1,())then
 bif !(g17 (fAt f 1,())).2.1 then h false Y
 else bif k44 ((g17 (fAt f 1,())).1,1,3600,())then
 bif !(g44 ((g17 (fAt f 1,())).1,1,3600,())).1 then h false Y
 else bif decide (wrap .i64 (Y.tm+(g17 (fAt f 1,())).1)>10000000)then h false Y
 else bif decide ((↑(length Y.tk):Int) ≥ 200)then h false Y
 else bif decide (Y.sl ≥ 0)then
 bif k57 (Y,())then c3N k19 g19 k23 g23 k136 g136 k137 g137 f Y (g17 (fAt f 1,())).1 (wrap .i64 (Y.tm+(g17 (fAt f 1,())).1)) (g57 (Y,())).1 h else none
 else c3N k19 g19 k23 g23 k136 g136 k137 g137 f Y (g17 (fAt f 1,())).1 (wrap .i64 (Y.tm+(g17 (fAt f 1,())).1)) 0 h
 else none
 else none
 else none
def b2t (n:Int) (s:ByteArray) (a b:Option R):Option R:=
 bif (↑(length f):Int)==n then bif ixB f 0 then bif a2F (fAt f 0) s then a else b else none else b
def c8V (Y:Yv) (h:Bool->Yv->Option R):Option R:=
 b2t f 2 a5R (b3z k17 g17 k19 g19 k137 g137 f Y h)
 (b2t f 3 b2s (c8T k132 g132 k45 g45 k133 g133 k19 g19 k137 g137 f Y h)
 (b2t f 2 c1G (c8U k134 g134 k19 g19 k135 g135 k137 g137 f Y h)
 (b2t f 3 e4e (e9l k132 g132 k19 g19 k23 g23 k137 g137 f Y h)
 (b2t f 2 sGo (goK k17 g17 k19 g19 k23 g23 k44 g44 k57 g57 k136 g136 k137 g137 f Y h) (h false Y)))))
end
def r68 (o:KA A17) (p:GA A17 R17) (a:KA c8s) (c:GA c8s d3G) (q:KA A45) (r:GA A45 R45) (d:KA c8t) (e:GA c8t d7a) (g:KA b8k) (h:GA b8k c8j) (s:KA A19) (t:GA A19 R19) (i:KA b7a) (j:GA b7a c8u) (u:KA A23) (w:GA A23 R23) (y:KA A44) (z:GA A44 R44) (A:KA A57) (B:GA A57 R57) (k:KA c8E) (l:GA c8E d7e) (m:KA c8F) (n:GA c8F d3X) (x:I68.den):Option (O68.den):=c8V o p a c q r d e g h s t i j u w y z A B k l m n x.1.2.1 (yIn x) fun b Y=>some (c8S b Y)
theorem g7b (n o a b p q c d e g r s h i t u w y z A j k l m x) :a1W (g7a n o a b p q c d e g r s h i t u w y z A j k l m) (a0b Tryz.f68) I68 O68 x=r68 n o a b p q c d e g r s h i t u w y z A j k l m x:=by kernel_rfl
def F68 (x:I68.den):Option (O68.den):=r68 K17 G17 e6B e6C K45 G45 e9c e9d c9F c9G K19 G19 c8v c8w K23 G23 K44 G44 K57 G57 e6J e6K c6b c6c x
def K68 (x:I68.den):Bool:=(F68 x).isSome
def G68 (x:I68.den):O68.den:=(F68 x).getD (a1l O68)
theorem g3D:a0k Tryz.prog (68,a0j true I68 O68 K68 G68):=a1p (a0v mixed a0x a0w (.cons g1E (.cons f2F (.cons b6b (.cons f2I (.cons e2Y (.cons e6v (.cons e3B (.cons f1M (.cons a7a (.cons f2s (.cons f3c (.cons f3f .nil))))))))))))) (a1H Tryz.func68 rfl rfl rfl (by kernel_rfl) (a0O (by kernel_rfl))) true fun x=>g7b K17 G17 e6B e6C K45 G45 e9c e9d c9F c9G K19 G19 c8v c8w K23 G23 K44 G44 K57 G57 e6J e6K c6b c6c x
def a2j (Y:Yv):Nat:=bif decide (a1G Y.wd<0)then 0 else(b1S Y.1.1 (a5v Y.wd) (btw Y.hd (a1G Y.wd))).1
theorem e4f (Y:Yv):F57 (Y,())=some (a2j Y,()):=by
 have e1:f2a (Y.wd,())=some (a1G Y.wd,()):=d5m _;have e2:f2h (Y.wd,())=some (a5v Y.wd,()):=d5k _;have e3:f2j (Y.hd,a1G Y.wd,())=some (btw Y.hd (a1G Y.wd),()):=d4Y _ _;have e4:=e7A Y.1.1 (a5v Y.wd) (btw Y.hd (a1G Y.wd));unfold F57 r57 a2j;show(bif e3g (Y.wd,())then _ else _)=_;have k1:e3g (Y.wd,())=true:=isS e1;have g1:d3n (Y.wd,())=(a1G Y.wd,()):=gtS e1;have k2:e3l (Y.wd,())=true:=isS e2;have g2:d9B (Y.wd,())=(a5v Y.wd,()):=gtS e2;have k3:e3o (Y.hd,a1G Y.wd,())=true:=isS e3;have g3:d9D (Y.hd,a1G Y.wd,())=(btw Y.hd (a1G Y.wd),()):=gtS e3;have k4:f2p (Y.1.1,a5v Y.wd,btw Y.hd (a1G Y.wd),())=true:=isS e4;have g4:f2q (Y.1.1,a5v Y.wd,btw Y.hd (a1G Y.wd),())=b1S Y.1.1 (a5v Y.wd) (btw Y.hd (a1G Y.wd)):=gtS e4;rw[k1,cond_true];show(bif decide ((d3n (Y.wd,())).1<0)then _ else bif e3l (Y.wd,())then bif e3o (Y.hd,d3n (Y.wd,()))then bif f2p (Y.1.1,(d9B (Y.wd,())).1,d9D (Y.hd,d3n (Y.wd,())))then some ((f2q (Y.1.1,(d9B (Y.wd,())).1,d9D (Y.hd,d3n (Y.wd,())))).1,())else none else none else none)=_;rw[g1,k2,g2,k3,g3];dsimp only;rw[k4,g4];cases decide (a1G Y.wd<0)<;>rfl
theorem e7I (Y:Yv):f5l (Y,())=some (a2j Y,()):=by
 have e1:f0I (Y.wd,())=some (a1G Y.wd,()):=d5n _;have e2:f0O (Y.wd,())=some (a5v Y.wd,()):=d5l _;have e3:f0P (Y.hd,a1G Y.wd,())=some (btw Y.hd (a1G Y.wd),()):=d4Z _ _;have e4:=e7B Y.1.1 (a5v Y.wd) (btw Y.hd (a1G Y.wd));unfold f5l f9d a2j;show(bif e2j (Y.wd,())then _ else _)=_;have k1:e2j (Y.wd,())=true:=isS e1;have g1:d1J (Y.wd,())=(a1G Y.wd,()):=gtS e1;have k2:e2n (Y.wd,())=true:=isS e2;have g2:d8B (Y.wd,())=(a5v Y.wd,()):=gtS e2;have k3:e2q (Y.hd,a1G Y.wd,())=true:=isS e3;have g3:d8C (Y.hd,a1G Y.wd,())=(btw Y.hd (a1G Y.wd),()):=gtS e3;have k4:f0T (Y.1.1,a5v Y.wd,btw Y.hd (a1G Y.wd),())=true:=isS e4;have g4:f0U (Y.1.1,a5v Y.wd,btw Y.hd (a1G Y.wd),())=b1S Y.1.1 (a5v Y.wd) (btw Y.hd (a1G Y.wd)):=gtS e4;rw[k1,cond_true];show(bif decide ((d1J (Y.wd,())).1<0)then _ else bif e2n (Y.wd,())then bif e2q (Y.hd,d1J (Y.wd,()))then bif f0T (Y.1.1,(d8B (Y.wd,())).1,d8C (Y.hd,d1J (Y.wd,())))then some ((f0U (Y.1.1,(d8B (Y.wd,())).1,d8C (Y.hd,d1J (Y.wd,())))).1,())else none else none else none)=_;rw[g1,k2,g2,k3,g3];dsimp only;rw[k4,g4];cases decide (a1G Y.wd<0)<;>rfl
def a2E (u:Nat×Nat) (s:Nat):Nat×Nat:=(a0g .mul .f32 (a0N .f64 .f32 u.1).2 s,a0g .mul .f32 (a0N .f64 .f32 u.2).2 s)
def a9x (k:Int) (s:Nat):(Nat×Nat)×Bool×Unit:=bif !a3K s then((0,0),false,())else(a2E (a0X (md k)) s,true,())
theorem b3A (k:Nat) (hk:k<360):(a0N .f64 .f32 (a0X k).2).1=true:=a7Y (tsR hk) ((e3Z hk).2.mono (by decide +kernel))
theorem e7J (k:Nat) (hk:k<360) (s:Nat):f6a (a0X k,s,())=some (a2E (a0X k) s,()):=by
 unfold f6a g1x;dsimp only;rw[c1F k hk,b3A k hk];rfl
theorem e4g (k:Int) (s:Nat):F56 (k,s,())=some (a9x k s):=by
 have e1:=c3G s;have e2:=e7p k;have e3:=e7J (md k) (a9S k) s;unfold F56 r56 a9x;dsimp only;simp only[d6P,d6Q,e1,f5Y,f5Z,e2,f6b,f6c,e3,isSome_some,getD_some,cond_true];cases a3K s<;>rfl
theorem e7K (k:Int) (s:Nat):f5p (k,s,())=some (a9x k s):=by
 have e2:=e7q k;unfold f5p f9i a9x;dsimp only;simp only[f5n,f5o,e2,isSome_some,getD_some,cond_true,c1F _ (a9S k),b3A _ (a9S k)];show(bif fge s 0 then bif !(fle s 1112014848)then _ else _ else _)=_;unfold a3K;cases fge s 0
 ·rfl
 ·cases fle s 1112014848<;>rfl
def apV (w v:Nat×Nat):(Nat×Nat)×Bool×Unit:=bif !a2o w then((0,0),false,())else bif !a2o v then((0,0),false,())else((a0g .sub .f32 w.1 v.1,a0g .sub .f32 w.2 v.2),true,())
theorem e7L (w v:Nat×Nat):f6d (w,v,())=some (apV w v):=by
 have e1:=a5r w;have e2:=a5r v;unfold f6d g1A apV;dsimp only;simp only[K45,G45,e1,e2,isSome_some,getD_some,cond_true];cases a2o w
 ·rfl
 ·cases a2o v<;>rfl
theorem e7M (w v:Nat×Nat):f5q (w,v,())=some (apV w v):=by
 have e1:=b3t w;have e2:=b3t v;unfold f5q f9l apV;dsimp only;simp only[K52,G52,e1,e2,isSome_some,getD_some,cond_true];cases a2o w
 ·rfl
 ·cases a2o v<;>rfl
def c9N (w v:Nat×Nat) (k:Int):Den R58:=
 bif !(apV w v).2.1 then((0,0,()),false,())else bif decide (a1G (apV w v).1<0)then((0,0,()),false,())else((a5v (apV w v).1,btw k (a1G (apV w v).1),()),true,())
theorem f3L (w v:Nat×Nat) (k:Int):F58 (w,v,k,())=some (c9N w v k):=by
 have e1:=e7L w v;have e2:=d5m (apV w v).1;have e3:=d5k (apV w v).1;have e4:=d4Y k (a1G (apV w v).1);unfold F58 r58 c9N;dsimp only;simp only[f6e,f6f,e1,e3g,d3n,e2,e3l,d9B,e3,e3o,d9D,e4,isSome_some,getD_some,cond_true];cases (apV w v).2.1
 ·rfl
 ·cases decide (a1G (apV w v).1<0)<;>rfl
theorem e7N (w v:Nat×Nat) (k:Int):f5t (w,v,k,())=some (c9N w v k):=by
 have e1:=e7M w v;have e2:=d5n (apV w v).1;have e3:=d5l (apV w v).1;have e4:=d4Z k (a1G (apV w v).1);unfold f5t f9o c9N;dsimp only;simp only[f5r,f5s,e1,e2j,d1J,e2,e2n,d8B,e3,e2q,d8C,e4,isSome_some,getD_some,cond_true];cases (apV w v).2.1
 ·rfl
 ·cases decide (a1G (apV w v).1<0)<;>rfl
def a0F (Y:Yv):Den R19:=bif !(a9x Y.hd (a2j Y)).2.1 then((0,0,()),false,())else c9N Y.wd (a9x Y.hd (a2j Y)).1 Y.hd
def b7Y (Y:Yv):Den R19:=c9N Y.wd (a9x Y.hd (a2j Y)).1 Y.hd
theorem c6K (Y:Yv):F19 (Y,())=some (a0F Y):=by
 have e1:=e4f Y;have e2:=e4g Y.hd (a2j Y);have e3:=f3L Y.wd (a9x Y.hd (a2j Y)).1 Y.hd;have k1:K57 (Y,())=true:=isS e1;have g1:G57 (Y,())=(a2j Y,()):=gtS e1;have k2:K56 (Y.hd,a2j Y,())=true:=isS e2;have g2:G56 (Y.hd,a2j Y,())=a9x Y.hd (a2j Y):=gtS e2;have k3:K58 (Y.wd,(a9x Y.hd (a2j Y)).1,Y.hd,())=true:=isS e3;have g3:G58 (Y.wd,(a9x Y.hd (a2j Y)).1,Y.hd,())=c9N Y.wd (a9x Y.hd (a2j Y)).1 Y.hd:=gtS e3;unfold F19 r19 a0F;show(bif K57 (Y,())then bif K56 (Y.hd,G57 (Y,()))then bif !(G56 (Y.hd,G57 (Y,()))).2.1 then _ else bif K58 (Y.wd,(G56 (Y.hd,G57 (Y,()))).1,Y.hd,())then some (G58 (Y.wd,(G56 (Y.hd,G57 (Y,()))).1,Y.hd,()))else none else none else none)=_;rw[k1,g1,k2,g2,k3,g3];cases (a9x Y.hd (a2j Y)).2.1<;>rfl
theorem f3M (Y:Yv):F54 (Y,())=some (b7Y Y):=by
 have e1:=e7I Y;have e2:=e7K Y.hd (a2j Y);have e3:=e7N Y.wd (a9x Y.hd (a2j Y)).1 Y.hd;have k1:f0W (Y,())=true:=isS e1;have g1:e5I (Y,())=(a2j Y,()):=gtS e1;have k2:f1a (Y.hd,a2j Y,())=true:=isS e2;have g2:e8W (Y.hd,a2j Y,())=a9x Y.hd (a2j Y):=gtS e2;have k3:f1d (Y.wd,(a9x Y.hd (a2j Y)).1,Y.hd,())=true:=isS e3;have g3:f1e (Y.wd,(a9x Y.hd (a2j Y)).1,Y.hd,())=c9N Y.wd (a9x Y.hd (a2j Y)).1 Y.hd:=gtS e3;unfold F54 r54 b7Y;show(bif f0W (Y,())then bif f1a (Y.hd,e5I (Y,()))then bif f1d (Y.wd,(e8W (Y.hd,e5I (Y,()))).1,Y.hd,())then some (f1e (Y.wd,(e8W (Y.hd,e5I (Y,()))).1,Y.hd,()))else none else none else none)=_;rw[k1,g1,k2,g2,k3,g3];rfl
theorem f3N (a b:Int):0<=btw a b /\ btw a b<=180:=by
 have h:md ((md b:Int)-(md a:Int))<360:=a9S _;unfold btw;dsimp only;split<;>omega
theorem e7O:I64 0:=⟨by decide,by decide⟩
theorem c6L (w v:Nat×Nat) (k:Int):I64 (c9N w v k).1.2.1:=by
 have:=f3N k (a1G (apV w v).1);unfold c9N;cases (apV w v).2.1
 ·exact e7O
 ·cases decide (a1G (apV w v).1<0)
  ·show I64 (btw k (a1G (apV w v).1));unfold I64;omega
  ·exact e7O
theorem b1T (Y:Yv):I64 (a0F Y).1.2.1:=by
 unfold a0F;cases (a9x Y.hd (a2j Y)).2.1
 ·exact e7O
 ·exact c6L _ _ _
theorem d5q (Y:Yv):I64 (b7Y Y).1.2.1:=c6L _ _ _
theorem d5r (neg:Bool) (M c v d:Nat) (h0:0<M) (h:M*2^c=v*2^d) (hv53:v<2^53) (hd:d<=1500) :
 ∃K e:Nat,Ieee.double.nearest neg M ((c:Int)-1074)=Ieee.double.word neg (e*2^52+K) /\ e*2^52+K<2047*2^52 /\ ((e=0 /\ K<=2^53)∨(2^52<=K /\ K<=2^53)) /\ K*2^e=M*2^c:=by
 have l1:2^M.log2<=M:=Nat.log2_self_le (by omega);have l2:M<2^(M.log2+1):=Nat.lt_log2_self;have hlc:M.log2+c<53+d:=by
  have h1:2^(M.log2+c)<=M*2^c:=by rw[Nat.pow_add];exact Nat.mul_le_mul_right _ l1
  have h2:v*2^d<2^(53+d):=by
   rw[Nat.pow_add 2 53 d];exact Nat.mul_lt_mul_of_pos_right hv53 (Nat.two_pow_pos _)
  rw[<- h]at h2;exact(Nat.pow_lt_pow_iff_right (a:=2) (by decide)).1 (Nat.lt_of_le_of_lt h1 h2)
 unfold Ieee.Format.nearest;rw[if_neg (by omega),g3v,e7c,c3F,c3E];dsimp only;generalize hL:M.log2=L at *;by_cases hs:L<=52
 ·by_cases hd:L+c<52
  ·have hlast:max ((c:Int)-1074+(L:Int)-(52:Nat)) (-1074)=-1074:=by omega
   rw[hlast];have e1:((c:Int)-1074 - -1074).toNat=c:=by omega
   have e2:(-1074-((c:Int)-1074)).toNat=0:=by omega
   have e3:((-1074:Int) - -1074).toNat=0:=by decide
   rw[e1,e2,e3,a4D,Nat.shiftLeft_eq];have hk:M*2^c<2^53:=by
    calc M*2^c<2^(L+1)*2^c:=Nat.mul_lt_mul_of_pos_right l2 (Nat.two_pow_pos _)
     _=2^(L+1+c):=by rw[<- Nat.pow_add]
     _<=2^53:=Nat.pow_le_pow_right (by decide) (by omega)
   have hx:0*2^52+M*2^c<2047*2^52:=by rw[Nat.zero_mul,Nat.zero_add];exact Nat.lt_trans hk (by decide)
   refine⟨M*2^c,0,?_,hx,.inl ⟨Eq.refl 0,Nat.le_of_lt hk⟩,?_⟩
   ·rw[Nat.min_eq_left (Nat.le_of_lt hx)]
   ·rw[Nat.pow_zero,Nat.mul_one]
  ·have hlast:max ((c:Int)-1074+(L:Int)-(52:Nat)) (-1074)=(c:Int)-1074+(L:Int)-52:=by omega
   rw[hlast];have e1:((c:Int)-1074-((c:Int)-1074+(L:Int)-52)).toNat=52-L:=by omega
   have e2:(((c:Int)-1074+(L:Int)-52)-((c:Int)-1074)).toNat=0:=by omega
   have e3:(((c:Int)-1074+(L:Int)-52) - -1074).toNat=c+L-52:=by omega
   rw[e1,e2,e3,a4D,Nat.shiftLeft_eq];have hk1:M*2^(52-L)<2^53:=by
    calc M*2^(52-L)<2^(L+1)*2^(52-L):=Nat.mul_lt_mul_of_pos_right l2 (Nat.two_pow_pos _)
     _=2^(L+1+(52-L)):=by rw[<- Nat.pow_add]
     _=2^53:=by congr 1;omega
   have hk2:2^52<=M*2^(52-L):=by
    calc 2^52=2^(L+(52-L)):=by congr 1;omega
     _=2^L*2^(52-L):=by rw[<- Nat.pow_add]
     _<=M*2^(52-L):=Nat.mul_le_mul_right _ l1
   have hv:M*2^(52-L)*2^(c+L-52)=M*2^c:=by
    rw[Nat.mul_assoc,<- Nat.pow_add];congr 2;omega
   refine⟨M*2^(52-L),c+L-52,?_,by generalize M*2^(52-L)=q at *;clear l1 l2;omega,.inr ⟨hk2,Nat.le_of_lt hk1⟩,hv⟩;rw[Nat.min_eq_left (by omega)]
 ·have hlast:max ((c:Int)-1074+(L:Int)-(52:Nat)) (-1074)=(c:Int)-1074+(L:Int)-52:=by omega
  rw[hlast];have e1:((c:Int)-1074-((c:Int)-1074+(L:Int)-52)).toNat=0:=by omega
  have e2:(((c:Int)-1074+(L:Int)-52)-((c:Int)-1074)).toNat=L-52:=by omega
  have e3:(((c:Int)-1074+(L:Int)-52) - -1074).toNat=c+L-52:=by omega
  rw[e1,e2,e3,Nat.shiftLeft_zero];have hdvd:2^(L-52) ∣ M:=by
   have h1:2^(L-52)*2^c ∣ M*2^c:=by
    rw[h,<- Nat.pow_add];exact Nat.dvd_trans (Nat.pow_dvd_pow 2 (by omega)) (Nat.dvd_mul_left _ _)
   exact Nat.dvd_of_mul_dvd_mul_right (Nat.two_pow_pos c) h1
  have hm0:M%2^(L-52)=0:=Nat.mod_eq_zero_of_dvd hdvd;have hg:0<2^(L-52):=Nat.two_pow_pos _;have hcut:Ieee.Toward.even.cut neg M (L-52)=M/2^(L-52):=by
   unfold Ieee.Toward.cut;dsimp only;rw[hL,Nat.min_eq_left (by omega),Nat.one_shiftLeft,hm0];simp
  rw[hcut];have hq1:M/2^(L-52)<2^53:=by
   rw[Nat.div_lt_iff_lt_mul hg,<- Nat.pow_add];have:53+(L-52)=L+1:=by omega
   rw[this];exact l2
  have hq2:2^52<=M/2^(L-52):=by
   rw[Nat.le_div_iff_mul_le hg,<- Nat.pow_add];have:52+(L-52)=L:=by omega
   rw[this];exact l1
  have hdm:=Nat.div_add_mod M (2^(L-52));rw[hm0,Nat.add_zero]at hdm;generalize M/2^(L-52)=q at *;have hp:2^(c+L-52)=2^(L-52)*2^c:=by
   rw[<- Nat.pow_add];congr 1;omega
  refine⟨q,c+L-52,?_,by clear l1 l2;omega,.inr ⟨by clear l1 l2;omega,by clear l1 l2;omega⟩,?_⟩
  ·rw[Nat.min_eq_left (by clear l1 l2;omega)]
  ·rw[hp,<- Nat.mul_assoc,Nat.mul_comm q,hdm]
theorem f6X (s:Bool) (m c:Nat):RV s m ((c:Int)-1074)=sgR s*((m*2^c:Nat):Rat)*p2 (-1074):=by
 unfold RV;rw[Int.sub_eq_add_neg,a1E,a1K,Rat.natCast_mul];grind
theorem f3O (neg:Bool) (M c v d:Nat) (h:M*2^c=v*2^d) (hv53:v<2^53) (hd:d<=1500):IsR (Ieee.double.nearest neg M ((c:Int)-1074)) (RV neg M ((c:Int)-1074)):=by
 by_cases h0:M=0
 ·subst h0;rw[a4Q];unfold Ieee.Format.nearest;rw[if_pos rfl];exact a7V neg
 ·obtain⟨K,e,h1,h2,h3,h4⟩:=d5r neg M c v d (Nat.pos_of_ne_zero h0) h hv53 hd;obtain⟨m,c',h5,h6⟩:=a6i neg K e h2 h3;rw[h1];refine⟨neg,m,(c':Int)-1074,h5,by omega,?_⟩;rw[f6X,f6X,h6,h4]
theorem g3E (e:Int):p2 e≠0:=by have:=a1f e;grind
theorem g7c {a b:Nat} {x y:Rat} (ha:IsR a x) (hb:IsR b y) (v d:Nat) (hv53:v<2^53) (hd:d<=1500) (hxy:x-y=((v*2^d:Nat):Rat)*p2 (-1074)∨x-y=-(((v*2^d:Nat):Rat)*p2 (-1074))):IsR (a0g .sub .f64 a b) (x-y):=by
 obtain⟨s,m,e,hr,he,rfl⟩:=ha;obtain⟨t,n,f,hr',hf,rfl⟩:=hb;have e1:a0g .sub .f64 a b=(((Ieee.double.read a).sum (Ieee.double.read b).opposite).map Ieee.double.write).getD (qn .f64):=rfl;have e2:RV s m e-RV t n f=RV s m e+RV (!t) n f:=by rw[e3W];grind
 rw[e1,hr,hr'];have hs:=a3R s m e (min e f) (by omega);have ht:=a3R (!t) n f (min e f) (by omega);show IsR (Ieee.double.nearest (if Ieee.signed s m (e-min e f).toNat+Ieee.signed (!t) n (f-min e f).toNat=0 then s&&!t else decide (Ieee.signed s m (e-min e f).toNat+Ieee.signed (!t) n (f-min e f).toNat<0)) (Ieee.signed s m (e-min e f).toNat+Ieee.signed (!t) n (f-min e f).toNat).natAbs (min e f)) _;generalize hT:Ieee.signed s m (e-min e f).toNat+Ieee.signed (!t) n (f-min e f).toNat=T;have hT2:((T:Int):Rat)*p2 (min e f)=RV s m e-RV t n f:=by
  rw[<- hT,Rat.intCast_add,e2,<- hs,<- ht];grind
 obtain⟨c,hc⟩:∃c:Nat,min e f=(c:Int)-1074:=⟨(min e f+1074).toNat,by omega⟩;rw[hc]at hT2 ⊢;generalize hB:(if T=0 then s&&!t else decide (T<0))=B;have hp:p2 ((c:Int)-1074)=((2^c:Nat):Rat)*p2 (-1074):=by rw[Int.sub_eq_add_neg,a1E,a1K]
 have hV:RV B T.natAbs ((c:Int)-1074)=RV s m e-RV t n f:=by
  rw[<- hT2];unfold RV;rw[<- hB];by_cases c0:T=0
  ·subst c0;simp[Rat.mul_zero,Rat.zero_mul]
  ·rw[if_neg c0];by_cases c1:T<0
   ·have e1:((T:Int):Rat)=-((T.natAbs:Nat):Rat):=by
     rw[<- Rat.intCast_natCast,<- Rat.intCast_neg];congr 1;omega
    rw[e1];simp only[c1,decide_true];have:sgR true=-1:=rfl;rw[this];grind
   ·have e1:((T:Int):Rat)=((T.natAbs:Nat):Rat):=by
     rw[<- Rat.intCast_natCast];congr 1;omega
    rw[e1];simp only[c1,decide_false];have:sgR false=1:=rfl;rw[this];grind
 have hN:T.natAbs*2^c=v*2^d:=by
  have hp1:=g3E (-1074);have q1:RV B T.natAbs ((c:Int)-1074)=sgR B*((T.natAbs*2^c:Nat):Rat)*p2 (-1074):=f6X _ _ _;rw[hV]at q1;generalize T.natAbs*2^c=P at *;generalize v*2^d=Q at *;have n1:=a2L P;have n2:=a2L Q;have pp:=a1f (-1074);have key:((P:Nat):Rat)=((Q:Nat):Rat):=by
   have a1:((P:Nat):Rat)*p2 (-1074)=((Q:Nat):Rat)*p2 (-1074)∨((P:Nat):Rat)*p2 (-1074)=-(((Q:Nat):Rat)*p2 (-1074)):=by
    cases B
    ·have:sgR false=1:=rfl;rw[this]at q1;rcases hxy with h|h<;>rw[h]at q1<;>grind
    ·have:sgR true=-1:=rfl;rw[this]at q1;rcases hxy with h|h<;>rw[h]at q1<;>grind
   have b1:=Rat.mul_nonneg n1 (Rat.le_of_lt pp);have b2:=Rat.mul_nonneg n2 (Rat.le_of_lt pp);have a2:((P:Nat):Rat)*p2 (-1074)=((Q:Nat):Rat)*p2 (-1074):=by
    rcases a1 with h|h
    ·exact h
    ·grind
   have a3:(((P:Nat):Rat)-((Q:Nat):Rat))*p2 (-1074)=0:=by grind
   rcases Rat.mul_eq_zero.1 a3 with h|h
   ·grind
   ·exact absurd h hp1
  exact Rat.natCast_inj.1 key
 rw[<- hV];exact f3O B T.natAbs c v d hN hv53 hd
theorem b3B (W q:Nat) (hW:W<2^64) (hq:q<64):(BitVec.ofNat 64 W &&& ~~~(BitVec.ofNat 64 (2^q-1))).toNat=W/2^q*2^q:=by
 apply Nat.eq_of_testBit_eq;intro i;rw[Nat.testBit_mul_two_pow,BitVec.toNat_and,Nat.testBit_and,BitVec.toNat_ofNat,Nat.mod_eq_of_lt hW,Nat.testBit_div_two_pow];by_cases hi:q<=i
 ·have e1:i-q+q=i:=by omega
  rw[e1];by_cases h64:i<64
  ·have:(~~~(BitVec.ofNat 64 (2^q-1))).toNat.testBit i=true:=by
    rw[BitVec.testBit_toNat,BitVec.getLsbD_not,BitVec.getLsbD_ofNat,Nat.testBit_two_pow_sub_one];simp;omega
   rw[this];simp[hi]
  ·have:W.testBit i=false:=Nat.testBit_lt_two_pow (Nat.lt_of_lt_of_le hW (Nat.pow_le_pow_right (by decide) (by omega)));rw[this];simp
 ·have:(~~~(BitVec.ofNat 64 (2^q-1))).toNat.testBit i=false:=by
   rw[BitVec.testBit_toNat,BitVec.getLsbD_not,BitVec.getLsbD_ofNat,Nat.testBit_two_pow_sub_one];simp;omega
  rw[this];simp[hi]
theorem b1U (w:Nat):BitVec.ofInt 64 (w:Int)=BitVec.ofNat 64 (w%2^64):=by
 apply BitVec.eq_of_toNat_eq;rw[BitVec.toNat_ofInt,BitVec.toNat_ofNat];omega
theorem c1H (w q:Nat) (hq:q<64):a2u .andNot .u64 (w:Int) ((2^q-1:Nat):Int)=((w%2^64/2^q*2^q:Nat):Int):=by
 show IntKind.u64.wrap (((BitVec.ofInt 64 (w:Int) &&& ~~~(BitVec.ofInt 64 ((2^q-1:Nat):Int))).toNat:Nat):Int)=_;have hq2:2^q<=2^63:=Nat.pow_le_pow_right (by decide) (by omega);rw[b1U,b1U,Nat.mod_eq_of_lt (show 2^q-1<2^64 by omega),b3B _ q (Nat.mod_lt _ (by decide)) hq,IntKind.wrap_u64];have:w%2^64/2^q*2^q<=w%2^64:=Nat.div_mul_le_self _ _;have:w%2^64<2^64:=Nat.mod_lt _ (by decide);omega
def sgB (w:Nat):Bool:=w/2^63%2==1
def sgW (w:Nat):Nat:=if sgB w then 2^63 else 0
theorem f3P (w:Nat):w%2^64=sgW w+w%2^63:=by
 unfold sgW sgB;by_cases h:w/2^63%2=1
 ·rw[if_pos (by simpa using h)];omega
 ·rw[if_neg (by simpa using h)];omega
theorem b3C (w:Nat):a2u .and .u64 (w:Int) 9223372036854775808=((sgW w:Nat):Int):=by
 have e:BitVec.ofInt 64 9223372036854775808 = ~~~(BitVec.ofNat 64 (2^63-1)):=by decide
 show IntKind.u64.wrap (((BitVec.ofInt 64 (w:Int) &&& BitVec.ofInt 64 9223372036854775808).toNat:Nat):Int)=_;rw[b1U,e,b3B _ 63 (Nat.mod_lt _ (by decide)) (by decide),IntKind.wrap_u64];unfold sgW sgB;by_cases h:w/2^63%2=1
 ·rw[if_pos (by simpa using h)];omega
 ·rw[if_neg (by simpa using h)];omega
structure f3Q (w:Nat) (m q:Nat):Prop where
 rd:Ieee.double.read w = .number (sgB w) m (-(q:Int))
 q0:26<=q
 q1:q<=1074
 m1:m<2^53
 le:m/2^q<=100000000
 rung:(q=1074 /\ m=w%2^63 /\ m<2^52)∨(2^52<=m /\ w%2^63=(1075-q)*2^52+(m-2^52))
theorem b7Z {w:Nat} (h:le8 (w%2^63)=true):∃m q,f3Q w m q:=by
 obtain⟨x,hx,ha⟩:=g3y h;obtain⟨s,m,e,hr,he,rfl⟩:=hx;have hr0:=hr;have hlt:(m:Rat)*p2 e<=100000000:=by
  unfold RV at ha;obtain⟨h1,h2⟩:=ha;cases s
  ·have:sgR false=1:=rfl;rw[this]at h2;grind
  ·have:sgR true=-1:=rfl;rw[this]at h1;grind
 unfold Ieee.Format.read at hr;dsimp only at hr;rw[e9i,c3F,c3E,e7c]at hr;have hle:∀q:Nat,e=-(q:Int)->m<=100000000*2^q:=by
  intro q hq;have hp:p2 e*p2 (q:Int)=1:=by rw[<- a1E,hq,show -(q:Int)+(q:Int)=0 by omega];rfl
  have hm:=a1h hlt (Rat.le_of_lt (a1f (q:Int)));have e1:(m:Rat)*p2 e*p2 (q:Int)=(m:Rat):=by rw[Rat.mul_assoc,hp,Rat.mul_one]
  rw[e1,a1K]at hm;have:(m:Rat)<=((100000000*2^q:Nat):Rat):=by
   rw[Rat.natCast_mul];exact hm
  exact Rat.natCast_le_natCast.1 this
 have hdiv:∀q:Nat,m<=100000000*2^q->m/2^q<=100000000:=fun q hq=>by
  have:m/2^q<=100000000*2^q/2^q:=Nat.div_le_div_right hq
  rwa [Nat.mul_div_cancel _ (Nat.two_pow_pos q)]at this
 split at hr
 ·rename_i c;cases hr;refine⟨w%2^63,1074,hr0,by decide,by decide,by omega,hdiv 1074 (hle 1074 rfl),.inl ⟨rfl,rfl,c⟩⟩
 ·rename_i c;split at hr
  ·rename_i c2
   injection hr with f1 f2 f3
   obtain⟨q,hq⟩:∃q:Int,q=-e:=⟨_,rfl⟩;have hb:∃B:Nat,B=w%2^63/2^52 /\ 1<=B /\ e=(B:Int)-1075:=⟨_,rfl,by omega,by omega⟩;obtain⟨B,hB,hB1,hBe⟩:=hb;have hBm:B<=1049:=by
    apply Classical.byContradiction;intro hc;have g1:p2 (-25)<=p2 e:=c1A (by omega);have g2:((2^52:Nat):Rat)<=(m:Rat):=a0R (by omega);have g3:((2^52:Nat):Rat)*p2 (-25)<=(m:Rat)*p2 e:=by
     have a1:=a1h g2 (Rat.le_of_lt (a1f (-25)));have a2:=Rat.mul_le_mul_of_nonneg_left g1 (a2L m);grind
    have g4:(100000000:Rat)<((2^52:Nat):Rat)*p2 (-25):=by decide +kernel
    grind
   have hqe:e=-((1075-B:Nat):Int):=by omega
   refine⟨m,1075-B,?_,by omega,by omega,by omega,hdiv _ (hle _ hqe),.inr ⟨by omega,by omega⟩⟩;rw[hr0,hqe,<- f1];rfl
  ·split at hr<;>cases hr
theorem d5s (neg:Bool) (m q:Nat) (hm:m<2^53) (hq:(q:Nat)<=2000):Ieee.Toward.zero.cut neg m q=m/2^q:=by
 unfold Ieee.Toward.cut;dsimp only;rw[Nat.one_shiftLeft];show m/2^min q (m.log2+2)+0=_;rw[Nat.add_zero];by_cases h:q<=m.log2+2
 ·rw[Nat.min_eq_left h]
 ·rw[Nat.min_eq_right (by omega)];have hl:m<2^(m.log2+1):=Nat.lt_log2_self;have h1:m<2^(m.log2+2):=Nat.lt_of_lt_of_le hl (Nat.pow_le_pow_right (by decide) (by omega));have h2:m<2^q:=Nat.lt_of_lt_of_le hl (Nat.pow_le_pow_right (by decide) (by omega));rw[Nat.div_eq_of_lt h1,Nat.div_eq_of_lt h2]
def sgI (s:Bool) (n:Nat):Int:=if s then -(n:Int)else(n:Int)
theorem d5t {w:Nat} {s:Bool} {m q:Nat} (h:Ieee.double.read w = .number s m (-(q:Int))) (hm:m<2^53) (hq:q<=2000):Ieee.Datum.toInt .zero (FloatKind.f64.decode w)=some (sgI s (m/2^q)):=by
 have e:FloatKind.f64.decode w = .number s m (-(q:Int)):=h;rw[e];show some (Ieee.signed s (Ieee.Toward.zero.cut s (m <<< (-(q:Int)).toNat) (- -(q:Int)).toNat) 0)=_;have e1:(-(q:Int)).toNat=0:=by omega
 have e2:(- -(q:Int)).toNat=q:=by omega
 rw[e1,e2,Nat.shiftLeft_zero,d5s _ _ _ hm hq];rfl
theorem b1V {w:Nat} {s:Bool} {m q:Nat} (h:Ieee.double.read w = .number s m (-(q:Int))) (hm:m<2^53) (hq:q<=2000):f2i .f64 w=sgI s (m/2^q) /\ a7f .f64 w .i64=true:=by
 have e:=d5t h hm hq;unfold f2i a7f;rw[e];refine⟨rfl,?_⟩;have:m/2^q<=m:=Nat.div_le_self _ _;have h1:IntKind.i64.min=-9223372036854775808:=by decide
 have h2:IntKind.i64.max=9223372036854775807:=by decide
 show(decide _&&decide _)=true;rw[h1,h2];generalize m/2^q=c at *;unfold sgI;simp only[and_eq_true,decide_eq_true_eq];split<;>omega
def c6M (m q:Nat):Nat:=(m+2^(q-1))/2^q
theorem g3F (q m:Nat) (h1:26<=q) (h2:q<=52) (h3:2^52<=m) (h4:m<2^53) (r:Nat) (hr:r=((1075-q)*2^52+(m-2^52)+2^(q-1))/2^q*2^q) :
 (r/2^52=1075-q /\ (2^52+r%2^52)/2^q=c6M m q)∨(r/2^52=1076-q /\ (2^52+r%2^52)/2^(q-1)=c6M m q):=by
 unfold c6M;have:q=26∨q=27∨q=28∨q=29∨q=30∨q=31∨q=32∨q=33∨q=34∨q=35∨q=36∨q=37∨q=38∨q=39∨q=40∨q=41∨q=42∨q=43∨q=44∨q=45∨q=46∨q=47∨q=48∨q=49∨q=50∨q=51∨q=52:=by omega
 rcases this with h|h|h|h|h|h|h|h|h|h|h|h|h|h|h|h|h|h|h|h|h|h|h|h|h|h|h<;>subst h<;>simp only[Nat.reducePow,Nat.reduceSub,Nat.reduceMul,Nat.reduceAdd]at *<;>omega
theorem e0L (s:Bool) (r:Nat) (hr:r<2^63):sgB ((if s then 2^63 else 0)+r)=s:=by
 unfold sgB;cases s
 ·have:(0+r)/2^63=0:=by omega
  rw[if_neg (by decide),this];rfl
 ·have:(2^63+r)/2^63=1:=by omega
  rw[if_pos rfl,this];rfl
theorem b1W (s:Bool) (r B:Nat) (hB:r/2^52=B) (h1:1<=B) (h2:B<=1074):Ieee.double.read ((if s then 2^63 else 0)+r) = .number s (2^52+r%2^52) (-((1075-B:Nat):Int)):=by
 have hr:r<2^63:=by omega
 have e1:((if s then 2^63 else 0)+r)%2^63=r:=by cases s<;>simp<;>omega
 have e2:=e0L s r hr;unfold sgB at e2;unfold Ieee.Format.read;dsimp only;rw[e9i,c3F,c3E,e7c,e1,e2,if_neg (by omega),if_pos (by omega),hB];rw[show((-1074:Int)+((B-1:Nat):Int))=-((1075-B:Nat):Int)by omega]
theorem d5u (s:Bool):Ieee.double.read (if s then 2^63 else 0) = .number s 0 (-(1074:Nat)):=by cases s<;>decide +kernel
theorem fd (a k:Nat):Int.fdiv (a:Int) (2^k)=((a/2^k:Nat):Int):=by
 have e:((2:Int)^k)=((2^k:Nat):Int):=by rw[Int.natCast_pow];rfl
 rw[e,Int.fdiv_eq_ediv_of_nonneg _ (Int.natCast_nonneg _),Int.natCast_ediv]
theorem fd1 {q:Nat} (h1:26<=q) (h2:q<=52):Int.fdiv 2251799813685248 (2^(52-q))=((2^(q-1):Nat):Int):=by
 have:=fd (2^51) (52-q);rw[Nat.pow_div (by omega) (by decide),show 51-(52-q)=q-1 by omega]at this;exact this
theorem fd2 {q:Nat} (h1:26<=q) (h2:q<=52):Int.fdiv 4503599627370495 (2^(52-q))=((2^q-1:Nat):Int):=by
 have h:=fd (2^52-1) (52-q);have e:(2^52-1)/2^(52-q)=2^q-1:=by
  have hp:2^(52-q)*2^q=2^52:=by rw[<- Nat.pow_add];congr 1;omega
  have hk:=Nat.two_pow_pos (52-q);have hq:=Nat.two_pow_pos q;have e1:2^52-1=2^(52-q)*(2^q-1)+(2^(52-q)-1):=by
   rw[Nat.mul_sub,hp,Nat.mul_one];have:2^(52-q)<=2^52:=Nat.pow_le_pow_right (by decide) (by omega);omega
  rw[e1,Nat.mul_add_div hk,Nat.div_eq_of_lt (by omega)];rfl
 rw[e]at h;exact h
theorem c8W {w m q:Nat} (h0:26<=q) (hq:q<=52) (hm:2^52<=m) (m1:m<2^53) (hr:w%2^63=(1075-q)*2^52+(m-2^52)):a1R (w:Int)=(if sgB w then 2^63 else 0)+((1075-q)*2^52+(m-2^52)+2^(q-1))/2^q*2^q:=by
 have hE:rE (w:Int)=((w%2^63/2^52:Nat):Int):=by rw[c4I];omega
 have hB:w%2^63/2^52=1075-q:=by omega
 unfold a1R;rw[hE,hB];have d1:decide (((1075-q:Nat):Int)<1023)=false:=decide_eq_false (by omega);have d2:decide (((1075-q:Nat):Int)<1075)=true:=decide_eq_true (by omega);rw[d1,d2];have d3:IntKind.u64.wrap (((1075-q:Nat):Int)-1023)=((52-q:Nat):Int):=by rw[IntKind.wrap_u64];omega
 rw[d3];have d4:min (toNat ((52-q:Nat):Int)) (IntKind.bits .u64)=52-q:=by
  have:IntKind.bits .u64=64:=by decide
  rw[this];omega
 rw[d4,fd1 h0 hq,fd2 h0 hq,cond_false,cond_true];have hp:2^(q-1)<=2^51:=Nat.pow_le_pow_right (by decide) (by omega);have hs:=f3P w;rw[hr]at hs;have hsw:sgW w<=2^63:=by unfold sgW;split<;>omega
 have d7:IntKind.u64.wrap ((w:Int)+((2^(q-1):Nat):Int))=((sgW w+((1075-q)*2^52+(m-2^52)+2^(q-1)):Nat):Int):=by
  rw[IntKind.wrap_u64];generalize 2^(q-1)=P at *;omega
 rw[d7,c1H _ q (by omega),toNat_natCast];have hlt:sgW w+((1075-q)*2^52+(m-2^52)+2^(q-1))<2^64:=by
  generalize 2^(q-1)=P at *;omega
 rw[Nat.mod_eq_of_lt hlt];have hdv:2^q ∣ sgW w:=by
  unfold sgW;split
  ·exact Nat.pow_dvd_pow 2 (by omega)
  ·exact Nat.dvd_zero _
 obtain⟨t,ht⟩:=hdv;have hsw2:sgW w=(if sgB w then 2^63 else 0):=rfl;rw[<- hsw2,ht,Nat.mul_add_div (Nat.two_pow_pos q),Nat.add_mul,Nat.mul_comm t]
theorem d5v {w m q:Nat} (h0:26<=q) (hq:q<=52) (hm:2^52<=m) (m1:m<2^53) (hr:w%2^63=(1075-q)*2^52+(m-2^52)):f2i .f64 (a1R (w:Int))=sgI (sgB w) (c6M m q) /\ a7f .f64 (a1R (w:Int)) .i64=true:=by
 rw[c8W h0 hq hm m1 hr];rcases g3F q m h0 hq hm m1 _ rfl with⟨c1,c2⟩|⟨c1,c2⟩
 ·have hrd:=b1W (sgB w) _ _ c1 (by omega) (by omega);rw[show 1075-(1075-q)=q by omega]at hrd;have:=b1V hrd (by omega) (by omega);rw[c2]at this;exact this
 ·have hrd:=b1W (sgB w) _ _ c1 (by omega) (by omega);rw[show 1075-(1076-q)=q-1 by omega]at hrd;have:=b1V hrd (by omega) (by omega);rw[c2]at this;exact this
theorem d5w {w m:Nat} (hm:2^52<=m) (m1:m<2^53) (hr:w%2^63=1022*2^52+(m-2^52)):f2i .f64 (a1R (w:Int))=sgI (sgB w) (c6M m 53) /\ a7f .f64 (a1R (w:Int)) .i64=true:=by
 have hE:rE (w:Int)=1022:=by rw[c4I];omega
 have hM:c6M m 53=1:=by unfold c6M;omega
 have key:a1R (w:Int)=(if sgB w then 2^63 else 0)+4607182418800017408:=by
  unfold a1R;rw[hE,b3C];show toNat (a2u .or .u64 ((sgW w:Nat):Int) 4607182418800017408)=_;unfold sgW;cases sgB w<;>decide
 have hrd:=b1W (sgB w) 4607182418800017408 1023 (by decide) (by decide) (by decide);rw[key,hM];have h:=b1V hrd (by decide) (by decide);have e:(2^52+4607182418800017408%2^52)/2^(1075-1023)=1:=by decide
 rw[e]at h;exact h
theorem c1I {w m q:Nat} (hq:53<q) (m1:m<2^53) (hr:w%2^63/2^52<1022):f2i .f64 (a1R (w:Int))=sgI (sgB w) (c6M m q) /\ a7f .f64 (a1R (w:Int)) .i64=true:=by
 have hE:rE (w:Int)=((w%2^63/2^52:Nat):Int):=by rw[c4I];omega
 have hM:c6M m q=0:=by
  unfold c6M;have h1:2^53<=2^(q-1):=Nat.pow_le_pow_right (by decide) (by omega);have hp2:2*2^(q-1)=2^q:=by rw[Nat.mul_comm,<- Nat.pow_succ];congr 1;omega
  refine Nat.div_eq_of_lt ?_;rw[<- hp2];generalize 2^(q-1)=P at *;omega
 have key:a1R (w:Int)=(if sgB w then 2^63 else 0):=by
  unfold a1R;rw[hE];have d1:decide (((w%2^63/2^52:Nat):Int)<1023)=true:=decide_eq_true (by omega);have d2:(((w%2^63/2^52:Nat):Int)==1022)=false:=by
   rw[beq_eq_false_iff_ne];omega
  rw[d1,d2,b3C];rfl
 rw[key,hM];have h:=b1V (d5u (sgB w)) (by decide) (by decide);rw[Nat.zero_div]at h;exact h
theorem b1X {w m q:Nat} (h:f3Q w m q):f2i .f64 (a1R (w:Int))=sgI (sgB w) (c6M m q) /\ a7f .f64 (a1R (w:Int)) .i64=true:=by
 obtain⟨rd,q0,q1,m1,le,rung⟩:=h;rcases rung with⟨h1,h2,h3⟩|⟨hm,hr⟩
 ·exact c1I (by omega) m1 (by rw[<- h2,Nat.div_eq_of_lt h3];decide)
 ·by_cases hq:q<=52
  ·exact d5v q0 hq hm m1 hr
  ·by_cases h53:q=53
   ·subst h53;exact d5w hm m1 hr
   ·refine c1I (by omega) m1 ?_;rw[hr];clear le rd;omega
def c8X (z p:Nat×Nat):Nat:=
 a0g .add .f64 (a0g .mul .f64 (a0g .sub .f64 z.1 p.1) (a0g .sub .f64 z.1 p.1)) (a0g .mul .f64 (a0g .sub .f64 z.2 p.2) (a0g .sub .f64 z.2 p.2))
def a3S (st:List (Den a0Y)) (p:Nat×Nat) (k:Nat) (a:Int×Nat):(Int×Nat)⊕((Int×Unit)×Unit):=
 bif decide (a.1<0)then .inl ((k:Int),c8X (a5x st k).fst p)else bif flt .f64 (c8X (a5x st k).fst p) a.2 then .inl ((k:Int),c8X (a5x st k).fst p)else .inl a
def e7P (st:List (Den a0Y)) (p:Nat×Nat):(Int×Unit)×Unit:=a1Y (a3S st p) (fun a=>((a.1,()),())) 0 st.length (-1,0)
def a8S (t:Den S30) (p:Nat×Nat):Int:=bif a4R t&&a4u p then(e7P t.1 p).1.1 else -1
theorem b8a (st:List (Den a0Y)) (p:Nat×Nat):∀(n k:Nat) (a:Int×Nat),(a.1=-1 /\ k=0∨0<=a.1 /\ a.1<(k:Int))->(((a1Y (a3S st p) (fun a=>((a.1,()),())) k n a).1.1:Int)=-1 /\ k+n=0)∨0<=((a1Y (a3S st p) (fun a=>((a.1,()),())) k n a).1.1:Int) /\ ((a1Y (a3S st p) (fun a=>((a.1,()),())) k n a).1.1:Int)<((k+n:Nat):Int)
 | 0,k,a,h=>by
   show((a.1:Int)=-1 /\ k+0=0)∨0<=a.1 /\ a.1<((k+0:Nat):Int);rcases h with⟨h1,h2⟩|h
   ·exact .inl ⟨h1,h2⟩
   ·exact .inr ⟨h.1,by omega⟩
 | n+1,k,a,h=>by
   simp only[a1Y];have e:k+(n+1)=k+1+n:=by omega
   rw[e];unfold a3S;by_cases h1:a.1<0
   ·rw[show decide (a.1<0)=true by simpa using h1,cond_true];exact b8a st p n (k+1) _ (.inr ⟨by show(0:Int)<=(k:Int);omega,by show(k:Int)<((k+1:Nat):Int);omega⟩)
   ·rw[show decide (a.1<0)=false by simpa using h1,cond_false];cases flt .f64 (c8X (a5x st k).fst p) a.2 with
    |true=>exact b8a st p n (k+1) _ (.inr ⟨by show(0:Int)<=(k:Int);omega,by show(k:Int)<((k+1:Nat):Int);omega⟩)
    | false =>
      refine b8a st p n (k+1) _ (.inr ?_);rcases h with⟨h2,_⟩|h
      ·omega
      ·exact⟨h.1,by omega⟩
theorem e7Q (t:Den S30) (p:Nat×Nat) (h:a7O t):f2O (t,p,())=some (a8S t p,()):=by
 have e1:F91 (t,())=some (a4R t,()):=d4U t h;have e2:F61 (p,())=some (a4u p,()):=a9v p;obtain⟨st,hs,_⟩:=t;obtain⟨h1,h2⟩:=h;have h1:st.length<=21:=h1;have hl:d3N ((p,-1,0,st,(st.length:Int),0,()),())=some (e7P st p):=by
  refine(c4D (q:=c0W K91 G91 K61 G61 e6D e6E c8m c8n) (fun k (a:Int×Nat)=>((p,a.1,a.2,st,(st.length:Int),(k:Int),()),())) st.length (a3S st p) (fun a=>((a.1,()),())) ?_ ?_ _ st.length 0 (-1,0) (by omega) ?_:_)
  ·intro k a f hk;unfold c0W;have d1:decide ((k:Int)<(st.length:Int))=true:=by simpa using hk
   have d2:decide (0<=(k:Int))=true:=by simp
   have ha:getD st k (zero a0Y)=a5x st k:=rfl;have e3:g2l ((a5x st k).fst,p,())=some ((a0g .sub .f64 (a5x st k).fst.1 p.1,a0g .sub .f64 (a5x st k).fst.2 p.2),()):=rfl;have e4:f1U ((a0g .sub .f64 (a5x st k).fst.1 p.1,a0g .sub .f64 (a5x st k).fst.2 p.2),(a0g .sub .f64 (a5x st k).fst.1 p.1,a0g .sub .f64 (a5x st k).fst.2 p.2),())=some (c8X (a5x st k).fst p,()):=rfl;unfold a3S;simp only[a3I k (by omega),d1,d2,Bool.and_self,cond_true,toNat_natCast,ha,e6D,e6E,e3,c8m,c8n,e4,isSome_some,getD_some];cases decide (a.1<0)
   ·cases flt .f64 (c8X (a5x st k).fst p) a.2<;>rfl
   ·rfl
  ·intro a f;simp[c0W]
  ·simp only[d3M];omega
 unfold f2O g2m a8S;simp only[K91,G91,e1,K61,G61,e2,isSome_some,getD_some,cond_true,b7g,b7h,hl];cases a4R (st,hs,())
 ·rfl
 ·cases a4u p<;>rfl
def a8T (a b:Int):Int:=bif decide (a>b)then a-b else b-a
def a7Z (hs:List Int) (t:Int) (k:Nat) (b:Int):Int⊕((Int×Unit)×Unit) := .inl (bif decide (a8T (a5s hs k) t<a8T (a5s hs b.toNat) t)then(k:Int)else b)
def hiR (hs:List Int) (t:Int):(Int×Unit)×Unit:=a1Y (a7Z hs t) (fun b=>((b,()),())) 0 hs.length 0
def hiV (td:Den S30) (t:Int):Int:=bif a4R td&&a0I t 0 10000000 then(hiR td.2.1 t).1.1 else -1
theorem b8b {st:List (Den a0Y)} {hs:List Int} {u:Unit} (h:a4R (st,hs,u)=true):1<=st.length /\ 1<=hs.length /\ ∀i,i<hs.length->0<=a5s hs i /\ a5s hs i<=10000000:=by
 unfold a4R at h;simp only[and_eq_true]at h;obtain⟨h1,h2,h3,h4⟩:=h;simp only[a0I,and_eq_true,decide_eq_true_eq]at h1 h2;refine⟨by omega,by omega,fun i hi=>?_⟩;have:=a0H.1 h4 i (zero_le _) (by omega);unfold b2q at this;simp only[and_eq_true,a0I,decide_eq_true_eq]at this;exact this.1
theorem e7R (hs:List Int) (t:Int):∀(n k:Nat) (b:Int),0<=b->(b<(k:Int)∨b=0)->0<=((a1Y (a7Z hs t) (fun b=>((b,()),())) k n b).1.1:Int) /\ (((a1Y (a7Z hs t) (fun b=>((b,()),())) k n b).1.1:Int)<((k+n:Nat):Int)∨((a1Y (a7Z hs t) (fun b=>((b,()),())) k n b).1.1:Int)=0)
 |0,k,b,h0,h=>⟨h0,by rcases h with h|h;exact .inl (by show b<((k+0:Nat):Int);omega);exact .inr h⟩
 | n+1,k,b,h0,h=>by
   simp only[a1Y];have e:k+(n+1)=k+1+n:=by omega
   rw[e];unfold a7Z;cases decide (a8T (a5s hs k) t<a8T (a5s hs b.toNat) t)with
   |true=>exact e7R hs t n (k+1) (k:Int) (by omega) (.inl (by omega))
   |false=>exact e7R hs t n (k+1) b h0 (by rcases h with h|h;exact .inl (by omega);exact .inr h)
theorem e0M (a b:Int):e4w (b-a) (a-b)=a8T a b:=by
 unfold e4w a8T;by_cases h:a>b
 ·rw[show decide (a>b)=true by simpa using h,cond_true,if_pos (by omega)]
 ·rw[show decide (a>b)=false by simpa using h,cond_false];by_cases h2:a-b>b-a
  ·omega
  ·rw[if_neg h2]
theorem d5x (st:List (Den a0Y)) (hs:List Int) (t i:Int) (hi:0<=i /\ i<(hs.length:Int)) (ht:0<=t /\ t<=10000000) (hh:0<=a5s hs i.toNat /\ a5s hs i.toNat<=10000000) :
 e9e ((i,(),(),()),t,(st,hs,()),())=some ((a8T (a5s hs i.toNat) t,()),(t,(st,hs,()),())):=by
 have d1:(decide (0<=i)&&decide (i<(hs.length:Int)))=true:=by simp only[and_eq_true,decide_eq_true_eq];exact hi
 have ha:getD hs i.toNat (zero (Ty.int IntKind.i64))=a5s hs i.toNat:=rfl;unfold e9e g2p;simp only[d1,cond_true,ha];rw[w64 (x:=t-a5s hs i.toNat) (by omega) (by omega),w64 (x:=a5s hs i.toNat-t) (by omega) (by omega),e0M]
theorem e7S (td:Den S30) (t:Int) (h:a7O td):f2S (td,t,())=some (hiV td t,()):=by
 have e1:F91 (td,())=some (a4R td,()):=d4U td h;have e2:F43 (t,())=some (a0I t 0 10000000,()):=c6k (t,());obtain⟨st,hs,_⟩:=td;obtain⟨_,h2⟩:=h;have h2:hs.length<=6:=h2;unfold f2S g2r hiV;simp only[K91,G91,e1,K43,G43,e2,isSome_some,getD_some,cond_true];cases hb:a4R (st,hs,())
 ·rfl
 cases ht:a0I t 0 10000000
 ·rfl
 obtain⟨_,r2,r3⟩:=b8b hb;simp only[a0I,and_eq_true,decide_eq_true_eq]at ht;have hl:d3R (((),0,(hs.length:Int),0,()),(t,()),(st,hs,()),())=some (hiR hs t):=by
  refine(b8V (q:=c0Y K91 G91 K43 G43 e6F e6G) (fun k (b:Int)=>(((),b,(hs.length:Int),(k:Int),()),(t,()),(st,hs,()),())) hs.length (a7Z hs t) (fun b=>((b,()),())) (fun k b=>0<=b /\ b<(hs.length:Int)) ?_ ?_ ?_ _ hs.length 0 0 (by omega) ?_ ⟨Int.le_refl 0,by omega⟩:_)
  ·intro k b f hk hb0;unfold c0Y;have d1:decide ((k:Int)<(hs.length:Int))=true:=by simpa using hk
   have e3:e9e (((k:Int),(),(),()),t,(st,hs,()),())=some ((a8T (a5s hs k) t,()),(t,(st,hs,()),())):=d5x st hs t k ⟨by omega,by omega⟩ ht (r3 k hk);have e4:e9e ((b,(),(),()),t,(st,hs,()),())=some ((a8T (a5s hs b.toNat) t,()),(t,(st,hs,()),())):=d5x st hs t b hb0 ht (r3 _ (by omega));unfold a7Z;simp only[a3I k (by omega),d1,cond_true,e6F,e6G,e3,e4,isSome_some,getD_some];cases decide (a8T (a5s hs k) t<a8T (a5s hs b.toNat) t)<;>rfl
  ·intro k b b' hk hb0 hn;unfold a7Z at hn;have hn:=Sum.inl.inj hn;subst hn;cases decide (a8T (a5s hs k) t<a8T (a5s hs b.toNat) t)with
   |true=>exact⟨by show(0:Int)<=(k:Int);omega,by show(k:Int)<_;omega⟩
   |false=>exact hb0
  ·intro b f _;simp[c0Y]
  ·simp only[d3Q];omega
 simp only[b7k,b7l,hl,isSome_some,getD_some,cond_true,Bool.not_true,cond_false,Bool.and_self]
def a5t (x:Int):Int:=bif decide (x < -21600)then -21600 else a4x x 21600
theorem e0N (x:Int):-21600<=a5t x /\ a5t x<=21600:=by
 unfold a5t a4x;by_cases h:x < -21600
 ·rw[show decide (x < -21600)=true by simpa using h,cond_true];omega
 ·rw[show decide (x < -21600)=false by simpa using h,cond_false];split<;>omega
theorem e7T (x:Int):f2U (x,-21600,21600,())=some (a5t x,()):=by
 unfold f2U g2u a5t;have h:decide ((21600:Int) < -21600)=false:=by decide
 simp only[h,cond_false];cases decide (x < -21600)<;>rfl
def c3O (a b q:Nat):Nat:=a0g .add .f32 a (a0g .mul .f32 (a0g .sub .f32 b a) q)
def g3G (r:Int):Nat:=a0g .quo .f32 (nearest .f32 r) 1163984896
def g7d (a b:Nat×Nat) (q:Nat):Nat×Nat:=(c3O a.1 b.1 q,c3O a.2 b.2 q)
def e7U (s:Den a0Y) (off:Int):(Nat×Nat)×Bool×Unit:=
 bif !a7U (a3r s)then((0,0),false,())else
  bif ((a5t off+21600)%3600==0)then(atV (a3r s) ((a5t off+21600)/3600).toNat,true,())
  else(g7d (atV (a3r s) ((a5t off+21600)/3600).toNat) (atV (a3r s) ((a5t off+21600)/3600+1).toNat) (g3G ((a5t off+21600)%3600)),true,())
theorem e7V (s:Den a0Y) (off:Int):f6x (s,off,())=some (e7U s off):=by
 have e1:e9a (a3r s,())=some (a7U (a3r s),()):=c6D _ (by rw[c1B];decide);have e2:f2U (off,-21600,21600,())=some (a5t off,()):=e7T off;have e3:∀a b q:Nat,g1m (a,b,q,())=some (c3O a b q,()):=fun _ _ _=>rfl
 obtain⟨c1,c2⟩:=e0N off;have hfl:[s.snd.fst.fst,s.snd.fst.snd.fst,s.snd.fst.snd.snd.fst,s.snd.fst.snd.snd.snd.fst,s.snd.fst.snd.snd.snd.snd.fst,s.snd.fst.snd.snd.snd.snd.snd.fst,s.snd.fst.snd.snd.snd.snd.snd.snd.fst,s.snd.fst.snd.snd.snd.snd.snd.snd.snd.fst,s.snd.fst.snd.snd.snd.snd.snd.snd.snd.snd.fst,s.snd.fst.snd.snd.snd.snd.snd.snd.snd.snd.snd.fst,s.snd.fst.snd.snd.snd.snd.snd.snd.snd.snd.snd.snd.fst,s.snd.fst.snd.snd.snd.snd.snd.snd.snd.snd.snd.snd.snd.fst,s.snd.fst.snd.snd.snd.snd.snd.snd.snd.snd.snd.snd.snd.snd.fst]=a3r s:=rfl;have ha:∀i,getD (a3r s) i (0,0)=atV (a3r s) i:=fun _=>rfl
 unfold f6x g2x e7U;simp only[hfl,c8h,c8i,e1,f6v,f6w,e2,isSome_some,getD_some,cond_true];generalize a5t off=c at *;have w1:IntKind.i64.wrap (c+21600)=c+21600:=w64 (by omega) (by omega);have t1:Int.tmod (c+21600) 3600=(c+21600)%3600:=Int.tmod_eq_emod_of_nonneg (by omega);have t2:Int.tdiv (c+21600) 3600=(c+21600)/3600:=Int.tdiv_eq_ediv_of_nonneg (by omega);have w2:IntKind.i64.wrap ((c+21600)/3600)=(c+21600)/3600:=w64 (by omega) (by omega);have w3:IntKind.i64.wrap ((c+21600)/3600+1)=(c+21600)/3600+1:=w64 (by omega) (by omega);have d1:(decide (0<=(c+21600)/3600)&&decide ((c+21600)/3600<13))=true:=by simp only[and_eq_true,decide_eq_true_eq];omega
 simp only[w1,t1,t2,w2,w3,d1,cond_true,ha];cases a7U (a3r s)
 ·rfl
 simp only[Bool.not_true,cond_false];by_cases hz:(c+21600)%3600=0
 ·rw[show((c+21600)%3600==0)=true by simpa using hz];rfl
 ·have d2:(decide (0<=(c+21600)/3600+1)&&decide ((c+21600)/3600+1<13))=true:=by simp only[and_eq_true,decide_eq_true_eq];omega
  rw[show((c+21600)%3600==0)=false by simpa using hz];simp only[cond_false,d2,cond_true,c5Q,c5R,e3,isSome_some,getD_some];rfl
def a2M (td:Den S30) (p:Nat×Nat) (t:Int):(Nat×Nat)×Bool×Unit:=
 bif decide (a8S td p<0)||decide (hiV td t<0)then((0,0),false,())else e7U (a5x td.1 (a8S td p).toNat) (t-a5s td.2.1 (hiV td t).toNat)
theorem e7W {td:Den S30} {p:Nat×Nat} (h:¬a8S td p<0):a4R td=true /\ a4u p=true /\ 0<=a8S td p /\ a8S td p<(td.1.length:Int):=by
 unfold a8S at h ⊢;cases hb:a4R td with
 |false=>rw[hb]at h;exact absurd h (by simp)
 | true =>
   cases hp:a4u p with
   |false=>rw[hb,hp]at h;exact absurd h (by simp)
   | true =>
     rw[hb,hp]at h;simp only[Bool.and_self,cond_true]at h ⊢;refine⟨trivial,trivial,?_⟩;have:=b8a td.1 p td.1.length 0 (-1,0) (.inl ⟨rfl,rfl⟩);have e:a1Y (a3S td.1 p) (fun a=>((a.1,()),())) 0 td.1.length (-1,0)=e7P td.1 p:=rfl;rw[e,Nat.zero_add]at this;omega
theorem g3H {td:Den S30} {t:Int} (h:¬hiV td t<0):a4R td=true /\ (0<=t /\ t<=10000000) /\ 0<=hiV td t /\ hiV td t<(td.2.1.length:Int):=by
 obtain⟨st,hs,_⟩:=td;unfold hiV at h ⊢;cases hb:a4R (st,hs,())with
 |false=>rw[hb]at h;exact absurd h (by simp)
 | true =>
   cases ht:a0I t 0 10000000 with
   |false=>rw[hb,ht]at h;exact absurd h (by simp)
   | true =>
     rw[hb,ht]at h;simp only[Bool.and_self,cond_true]at h ⊢;simp only[a0I,and_eq_true,decide_eq_true_eq]at ht;refine⟨trivial,ht,?_⟩;have h1:=(b8b hb).2.1;have:=e7R hs t hs.length 0 0 (Int.le_refl 0) (.inr rfl);have e:a1Y (a7Z hs t) (fun b=>((b,()),())) 0 hs.length 0=hiR hs t:=rfl;rw[e,Nat.zero_add]at this;omega
theorem e7X (td:Den S30) (p:Nat×Nat) (t:Int) (h:a7O td):f6A (td,p,t,())=some (a2M td p t):=by
 have e1:f2O (td,p,())=some (a8S td p,()):=e7Q td p h;have e2:f2S (td,t,())=some (hiV td t,()):=e7S td t h;unfold f6A g2A a2M;simp only[f6r,f6s,e1,f6t,f6u,e2,isSome_some,getD_some,cond_true];by_cases h1:a8S td p<0
 ·simp only[h1,decide_true,cond_true,Bool.true_or]
 by_cases h2:hiV td t<0
 ·simp only[h1,h2,decide_true,decide_false,cond_true,cond_false,Bool.or_true]
 obtain⟨_,_,n3,n4⟩:=e7W h1;obtain⟨hb,ht,q3,q4⟩:=g3H h2;have d1:(decide (0<=a8S td p)&&decide (a8S td p<(td.1.length:Int)))=true:=by simp only[and_eq_true,decide_eq_true_eq];exact⟨n3,n4⟩
 have d2:(decide (0<=hiV td t)&&decide (hiV td t<(td.2.1.length:Int)))=true:=by simp only[and_eq_true,decide_eq_true_eq];exact⟨q3,q4⟩
 obtain⟨st,hs,_⟩:=td;have r3:=(b8b hb).2.2 (hiV (st,hs,()) t).toNat (by have q4:hiV (st,hs,()) t<(hs.length:Int):=q4;have q3:0<=hiV (st,hs,()) t:=q3;omega);have ha:∀i,getD hs i (zero (Ty.int IntKind.i64))=a5s hs i:=fun _=>rfl
 have hs':∀i,getD st i (zero a0Y)=a5x st i:=fun _=>rfl
 have w1:IntKind.i64.wrap (t-a5s hs (hiV (st,hs,()) t).toNat)=t-a5s hs (hiV (st,hs,()) t).toNat:=w64 (by omega) (by omega);have e3:=e7V (a5x st (a8S (st,hs,()) p).toNat) (t-a5s hs (hiV (st,hs,()) t).toNat);simp only[h1,h2,d1,d2,decide_false,cond_false,cond_true,Bool.or_self,ha,hs',w1,f6y,f6z,e3,isSome_some,getD_some]
theorem g3I:((TT:Nat):Rat)*p2 (-1074)=1:=by
 have:p2 (1074:Nat)=((TT:Nat):Rat):=a1K 1074;rw[<- this,<- a1E];rfl
theorem e7Y {b:Nat} {v:Int} (h:b3x b v):IsR b ((v:Int):Rat):=by
 obtain⟨s,m,c,hr,hm,hV⟩:=h;refine⟨s,m,(c:Int)-1074,hr,by omega,?_⟩;rw[f6X];have e1:sgR s*((m*2^c:Nat):Rat)=((VU s m c:Int):Rat):=by
  unfold VU;cases s
  ·have:sgR false=1:=rfl;rw[this,if_neg (by decide),Rat.intCast_natCast];grind
  ·have:sgR true=-1:=rfl;rw[this,if_pos rfl,Rat.intCast_neg,Rat.intCast_natCast];grind
 rw[e1,hV,Rat.intCast_mul,Rat.intCast_natCast,Rat.mul_assoc,g3I,Rat.mul_one]
theorem f3R (n:Int) (h:n.natAbs<2^53):IsR (nearest .f64 n) ((n:Int):Rat):=e7Y (d5e n h)
theorem g3J:IsR 4602678819172646912 (1/2):=c3H false 4503599627370496 (-53) (by decide +kernel) (by decide) (by decide +kernel)
theorem f3S:IsR 13826050856027422720 (-(1/2)):=c3H true 4503599627370496 (-53) (by decide +kernel) (by decide) (by decide +kernel)
theorem geR {a b:Nat} {x y:Rat} (ha:IsR a x) (hb:IsR b y):(fgt .f64 a b||feq .f64 a b)=decide (y<=x):=by
 rw[g3w ha hb,e9j ha hb,Bool.eq_iff_iff];simp only[Bool.or_eq_true,decide_eq_true_eq];constructor
 ·intro h;rcases h with h|h<;>grind
 ·intro h;by_cases he:x=y
  ·exact .inr he
  ·exact .inl (by grind)
theorem leR {a b:Nat} {x y:Rat} (ha:IsR a x) (hb:IsR b y):(flt .f64 a b||feq .f64 a b)=decide (x<=y):=by
 rw[f6W ha hb,e9j ha hb,Bool.eq_iff_iff];simp only[Bool.or_eq_true,decide_eq_true_eq];constructor
 ·intro h;rcases h with h|h<;>grind
 ·intro h;by_cases he:x=y
  ·exact .inr he
  ·exact .inl (by grind)
theorem e0O (v q:Nat) (hq:1<=q):(1/2:Rat)<=(v:Rat)*p2 (-(q:Int))↔2^(q-1)<=v:=by
 have e1:p2 (-(q:Int))*((2^(q-1):Nat):Rat)=1/2:=by
  rw[<- a1K,<- a1E,show -(q:Int)+((q-1:Nat):Int)=-1 by omega]
  decide +kernel
 have hp:=a1f (-(q:Int));constructor
 ·intro h;apply Classical.byContradiction;intro hc;have h1:((v:Nat):Rat)<((2^(q-1):Nat):Rat):=Rat.natCast_lt_natCast.2 (by omega);have:=Rat.mul_lt_mul_of_pos_right h1 hp;grind
 ·intro h;have h1:((2^(q-1):Nat):Rat)<=((v:Nat):Rat):=a0R h;have:=a1h h1 (Rat.le_of_lt hp);grind
theorem e7Z (m q:Nat) (hq:1<=q):c6M m q=m/2^q+(if 2^(q-1)<=m%2^q then 1 else 0):=by
 unfold c6M;have hp2:2^q=2*2^(q-1):=by rw[Nat.mul_comm,<- Nat.pow_succ];congr 1;omega
 have hP:=Nat.two_pow_pos (q-1);have hdm:=Nat.div_add_mod m (2^q);have hlt:=Nat.mod_lt m (Nat.two_pow_pos q);rw[hp2]at *;generalize 2^(q-1)=P at *;generalize m/(2*P)=A at *;generalize m%(2*P)=R at *;rw[<- hdm,Nat.add_assoc,Nat.mul_add_div (by omega)];congr 1;split
 ·exact Nat.div_eq_of_lt_le (by omega) (by omega)
 ·exact Nat.div_eq_of_lt (by omega)
def rnd (w:Nat):Int:=f2i .f64 (a1R (w:Int))
theorem e4h {w:Nat} (h:le8 (w%2^63)=true):F97 (w,())=some (rnd w,()):=by
 obtain⟨m,q,hs⟩:=b7Z h;have hrnd:rnd w=sgI (sgB w) (c6M m q):=(b1X hs).1;obtain⟨rd,q0,q1,m1,le,rung⟩:=hs;obtain⟨ht,hok⟩:=b1V rd m1 (by omega);have hx:IsR w (RV (sgB w) m (-(q:Int))):=⟨_,_,_,rd,by omega,rfl⟩;have hn:(sgI (sgB w) (m/2^q)).natAbs<2^53:=by
  generalize m/2^q=A at *;unfold sgI;split<;>omega
 have hy:=f3R _ hn;have hdm:=Nat.div_add_mod m (2^q);have hlt:=Nat.mod_lt m (Nat.two_pow_pos q);have hml:m%2^q<=m:=Nat.mod_le _ _;have hrest:RV (sgB w) m (-(q:Int))-((sgI (sgB w) (m/2^q):Int):Rat)=sgR (sgB w)*(((m%2^q:Nat):Rat)*p2 (-(q:Int))):=by
  have hp:((2^q:Nat):Rat)*p2 (-(q:Int))=1:=by
   rw[<- a1K,<- a1E,show(q:Int) + -(q:Int)=0 by omega];rfl
  have hmr:(m:Rat)=((2^q:Nat):Rat)*((m/2^q:Nat):Rat)+((m%2^q:Nat):Rat):=by
   rw[<- Rat.natCast_mul,<- Rat.natCast_add,hdm]
  unfold RV;rw[hmr];generalize m/2^q=A at *;generalize m%2^q=R at *;generalize 2^q=P at *;generalize p2 (-(q:Int))=z at *;unfold sgI;cases sgB w
  ·have:sgR false=1:=rfl;rw[this,if_neg (by decide),Rat.intCast_natCast];grind
  ·have:sgR true=-1:=rfl;rw[this,if_pos rfl,Rat.intCast_neg,Rat.intCast_natCast];grind
 have hpq:((m%2^q:Nat):Rat)*p2 (-(q:Int))=((m%2^q*2^(1074-q):Nat):Rat)*p2 (-1074):=by
  rw[Rat.natCast_mul,<- a1K (1074-q),Rat.mul_assoc,<- a1E,show((1074-q:Nat):Int) + -1074=-(q:Int)by omega]
 have hsub:=g7c hx hy (m%2^q) (1074-q) (by generalize m%2^q=R at *;omega) (by omega) (by
  rw[hrest,hpq];cases sgB w
  ·left;have:sgR false=1:=rfl;rw[this];grind
  ·right;have:sgR true=-1:=rfl;rw[this];grind)
 rw[hrest]at hsub;have hge:=geR hsub g3J;have hle:=leR hsub f3S;have hnn:(0:Rat)<=((m%2^q:Nat):Rat)*p2 (-(q:Int)):=Rat.mul_nonneg (a2L _) (Rat.le_of_lt (a1f _));have hif:=e0O (m%2^q) q (by omega);have hM:=e7Z m q (by omega);unfold F97 r97;dsimp only;rw[hok,ht,hge,hle,hrnd,hM];have hA:m/2^q<=100000000:=le;generalize ((m%2^q:Nat):Rat)*p2 (-(q:Int))=D at *;generalize m/2^q=A at *;generalize m%2^q=R at *;generalize 2^(q-1)=P at *;clear hsub hrest hdm hpq;cases sgB w
 ·have s1:sgR false=1:=rfl;have d2:decide (sgR false*D <= -(1/2))=false:=decide_eq_false (by rw[s1];grind);rw[d2,s1,Rat.one_mul];by_cases hh:P<=R
  ·rw[decide_eq_true (hif.2 hh),if_pos hh];show some (IntKind.i64.wrap ((A:Int)+1),())=some (((A+1:Nat):Int),());rw[w64 (by omega) (by omega)];rfl
  ·rw[decide_eq_false (fun h=>hh (hif.1 h)),if_neg hh];rfl
 ·have s1:sgR true=-1:=rfl;have d1:decide (1/2<=sgR true*D)=false:=decide_eq_false (by rw[s1];grind);rw[d1,s1];by_cases hh:P<=R
  ·rw[decide_eq_true (show -1*D <= -(1/2)by have:=hif.2 hh;grind),if_pos hh];show some (IntKind.i64.wrap (-(A:Int)-1),())=some (-((A+1:Nat):Int),());rw[w64 (by omega) (by omega),show -(A:Int)-1=-((A+1:Nat):Int)by omega]
  ·rw[decide_eq_false (fun h=>hh (hif.1 (by grind))),if_neg hh];rfl
def a1c (p:Nat×Nat):Den R23:=bif !a4u p then((0,0,()),false,())else bif !a1V (rnd p.1,rnd p.2,())then((0,0,()),false,())else((rnd p.1,rnd p.2,()),true,())
set_option maxRecDepth 100000 in
theorem d5y (p:Nat×Nat):F23 (p,())=some (a1c p):=by
 have e1:=a9v p;have k1:K61 (p,())=true:=isS e1;have g1:G61 (p,())=(a4u p,()):=gtS e1;unfold F23 r23 a1c;dsimp only;rw[k1,g1];cases hv:a4u p with
 |false=>rfl
 | true =>
   have hv2:=hv;unfold a4u at hv2;simp only[and_eq_true]at hv2;obtain⟨m,q,hs⟩:=b7Z hv2.1;obtain⟨m',q',hs'⟩:=b7Z hv2.2;have o1:=(b1X hs).2;have o2:=(b1X hs').2;show(bif a7f .f64 (a1R ((p.1:Nat):Int)) .i64 then bif a7f .f64 (a1R ((p.2:Nat):Int)) .i64 then bif K63 ((rnd p.1,rnd p.2,()),())then bif !(G63 ((rnd p.1,rnd p.2,()),())).1 then _ else _ else none else none else none)=_;rw[o1,o2,g3i,f3p];cases a1V (rnd p.1,rnd p.2,())<;>rfl
set_option maxRecDepth 100000 in
theorem e4i (p:Nat×Nat):F49 (p,())=some (a1c p):=by
 have e1:=c6B p;have k1:K96 (p,())=true:=isS e1;have g1:G96 (p,())=(a4u p,()):=gtS e1;unfold F49 r49 a1c;dsimp only;rw[k1,g1];cases hv:a4u p with
 |false=>rfl
 | true =>
   have hv2:=hv;unfold a4u at hv2;simp only[and_eq_true]at hv2;have e3:=e4h hv2.1;have e4:=e4h hv2.2;have k3:K97 (p.1,())=true:=isS e3;have g3:G97 (p.1,())=(rnd p.1,()):=gtS e3;have k4:K97 (p.2,())=true:=isS e4;have g4:G97 (p.2,())=(rnd p.2,()):=gtS e4;rw[k3,k4,g3,g4];show(bif K98 ((rnd p.1,rnd p.2,()),())then bif !(G98 ((rnd p.1,rnd p.2,()),())).1 then _ else _ else none)=_;rw[g3h,f3o];cases a1V (rnd p.1,rnd p.2,())<;>rfl
theorem c8Y (v:a5H) (hc:a0h v.2.1) (hk:v.1.2.2.2.2.2.2.1=0) (hr:v.2.2.2.2.2.2.2.1=[]) (ha:v.2.2.2.2.2.1.length<=30) :
 Pst (c5g v) fun y=>a0h y.2.1 /\ y.1.2.2.2.2.1=v.1.2.2.2.2.1 /\ y.2.2.2.2.1=v.2.2.2.2.1 /\ y.2.2.2.2.2.1=v.2.2.2.2.2.1 /\ y.2.2.2.2.2.2.1=v.2.2.2.2.2.2.1 /\ y.2.2.2.2.2.2.2.1.length=v.2.2.2.2.2.1.length:=by
 unfold c5g;refine a0V (q:=c5f K34 G34 K77 G77)
  (fun u=>a0h u.2.1 /\ u.1.2.2.2.2.1=v.1.2.2.2.2.1 /\ u.2.2.2.2.1=v.2.2.2.2.1 /\ u.2.2.2.2.2.1=v.2.2.2.2.2.1 /\ u.2.2.2.2.2.2.1=v.2.2.2.2.2.2.1 /\ 0<=(u.1.2.2.2.2.2.2.1:Int) /\ (u.1.2.2.2.2.2.2.1:Int)<=(v.2.2.2.2.2.1.length:Int) /\ (u.2.2.2.2.2.2.2.1.length:Int)=u.1.2.2.2.2.2.2.1)
  (fun _ r=>Pst r fun y=>a0h y.2.1 /\ y.1.2.2.2.2.1=v.1.2.2.2.2.1 /\ y.2.2.2.2.1=v.2.2.2.2.1 /\ y.2.2.2.2.2.1=v.2.2.2.2.2.1 /\ y.2.2.2.2.2.2.1=v.2.2.2.2.2.2.1 /\ y.2.2.2.2.2.2.2.1.length=v.2.2.2.2.2.1.length)
  (fun u=>(30-(u.1.2.2.2.2.2.2.1:Int)).toNat) ?_ _ _ ⟨hc,rfl,rfl,rfl,rfl,by rw[hk];exact Int.le_refl 0,by rw[hk];exact Int.natCast_nonneg _,by rw[hr,hk];rfl⟩ (by unfold d1Z;omega)
 clear hk hr hc;rintro⟨⟨_,_,_,w,n,_,i,_⟩,⟨c0,c1,c2,_⟩,_,_,ws,as_,sp,row,_⟩ f ⟨g0,g1,g2,g3,g4,g5,g6,g7⟩ ih;dsimp only at g0 g1 g2 g3 g4 g5 g6 g7 ih;subst g1 g2 g4;have ea:as_.length=v.2.2.2.2.2.1.length:=by rw[g3]
 unfold c5f;dsimp only;by_cases hk:i<(as_.length:Int)
 ·refine a0n (by simpa using hk) ?_;have e:IntKind.i64.wrap (i+1)=i+1:=w64 (by omega) (by omega);rw[e];have fin:∀(x:Nat) (c:List Int×Int×Int×Unit),a0h c->Pst (bif (a0D (length row+length (set (replicate 1 (zero (Ty.flt FloatKind.f32))) 0 x)))then f (((),((),((),((w),((v.1.2.2.2.2.1),((),((i+1),()))))))),(((c.1),((c.2.1),((c.2.2.1),()))),(((),((),((),()))),(((),((),((),()))),((v.2.2.2.2.1),((as_),((v.2.2.2.2.2.2.1),((row++set (replicate 1 (zero (Ty.flt FloatKind.f32))) 0 x),()))))))))else none)
   fun y=>a0h y.2.1 /\ y.1.2.2.2.2.1=v.1.2.2.2.2.1 /\ y.2.2.2.2.1=v.2.2.2.2.1 /\ y.2.2.2.2.2.1=v.2.2.2.2.2.1 /\ y.2.2.2.2.2.2.1=v.2.2.2.2.2.2.1 /\ y.2.2.2.2.2.2.2.1.length=v.2.2.2.2.2.1.length:=by
   intro x c h;refine a0n (a0K (by simp only[length_set,length_replicate];omega)) ?_;refine ih _ ⟨h,rfl,rfl,g3,rfl,?_,?_,?_⟩ ?_<;>simp only[length_append,length_set,length_replicate]<;>omega
  refine a0n (a0C _ (by(repeat ((try dsimp only);first|assumption|(with_reducible first|apply a0c|apply a0i|apply a0e|apply a0d|apply a0f))))) ?_;refine a1x (fun _=>?_) (fun _=>?_)
  ·refine a0n (a2i _ (by(repeat ((try dsimp only);first|assumption|(with_reducible first|apply a0c|apply a0i|apply a0e|apply a0d|apply a0f))))) ?_;refine a1x (fun _=>?_) (fun _=>?_)
   ·refine a1x (fun _=>?_) (fun _=>?_)
    ·refine a0n (a0C _ (by(repeat ((try dsimp only);first|assumption|(with_reducible first|apply a0c|apply a0i|apply a0e|apply a0d|apply a0f))))) ?_;exact fin _ _ (by(repeat ((try dsimp only);first|assumption|(with_reducible first|apply a0c|apply a0i|apply a0e|apply a0d|apply a0f))))
    ·exact fin _ _ (by(repeat ((try dsimp only);first|assumption|(with_reducible first|apply a0c|apply a0i|apply a0e|apply a0d|apply a0f))))
   ·refine a1x (fun _=>?_) (fun _=>?_)
    ·refine a0n (a0C _ (by(repeat ((try dsimp only);first|assumption|(with_reducible first|apply a0c|apply a0i|apply a0e|apply a0d|apply a0f))))) ?_;exact fin _ _ (by(repeat ((try dsimp only);first|assumption|(with_reducible first|apply a0c|apply a0i|apply a0e|apply a0d|apply a0f))))
    ·exact fin _ _ (by(repeat ((try dsimp only);first|assumption|(with_reducible first|apply a0c|apply a0i|apply a0e|apply a0d|apply a0f))))
  ·refine a1x (fun _=>?_) (fun _=>?_)
   ·refine a0n (a0C _ (by(repeat ((try dsimp only);first|assumption|(with_reducible first|apply a0c|apply a0i|apply a0e|apply a0d|apply a0f))))) ?_;exact fin _ _ (by(repeat ((try dsimp only);first|assumption|(with_reducible first|apply a0c|apply a0i|apply a0e|apply a0d|apply a0f))))
   ·exact fin _ _ (by(repeat ((try dsimp only);first|assumption|(with_reducible first|apply a0c|apply a0i|apply a0e|apply a0d|apply a0f))))
 ·have hd:decide (i<(as_.length:Int))=false:=by simpa using hk
  rw[hd];exact a0s ⟨g0,rfl,rfl,g3,rfl,by show row.length=_;omega⟩
def c1J (n:Nat) (a:Nat) (ws:List Nat) (sp:List (List Nat)):Prop:=ws.length=n /\ sp.length=n /\ ∀r∈sp,r.length=a
theorem c3P (v:a7G) (hc:a0h v.2.1) (hn:0<=(v.1.2.2.2.2.1:Int) /\ (v.1.2.2.2.2.1:Int)<=8) (hw:v.2.2.2.2.1=[]) (hs:v.2.2.2.2.2.2.1=[]) (ha:v.2.2.2.2.2.1.length<=30) :
 Pst (c5i v) fun y=>a0h y.2.1 /\ y.2.2.2.2.2.1=v.2.2.2.2.2.1 /\ c1J (v.1.2.2.2.2.1:Int).toNat v.2.2.2.2.2.1.length y.2.2.2.2.1 y.2.2.2.2.2.2.1:=by
 unfold c5i;refine a0V (q:=c5h K34 G34 K77 G77 a6U a2B)
  (fun u=>a0h u.2.1 /\ u.2.2.2.2.2.1=v.2.2.2.2.2.1 /\ 0<=(u.1.2.2.2.2.1:Int) /\ (u.2.2.2.2.1.length:Int)+u.1.2.2.2.2.1=v.1.2.2.2.2.1 /\ c1J u.2.2.2.2.1.length v.2.2.2.2.2.1.length u.2.2.2.2.1 u.2.2.2.2.2.2.1)
  (fun _ r=>Pst r fun y=>a0h y.2.1 /\ y.2.2.2.2.2.1=v.2.2.2.2.2.1 /\ c1J (v.1.2.2.2.2.1:Int).toNat v.2.2.2.2.2.1.length y.2.2.2.2.1 y.2.2.2.2.2.2.1)
  (fun u=>(u.1.2.2.2.2.1:Int).toNat) ?_ _ _ ⟨hc,rfl,hn.1,by rw[hw];exact Int.zero_add _,by rw[hw,hs];exact⟨rfl,rfl,fun _ h=>by cases h⟩⟩ (by unfold d2a;omega)
 clear hc hw hs;rintro⟨⟨_,_,_,w,n,_⟩,⟨c0,c1,c2,_⟩,_,_,ws,as_,sp,_⟩ f ⟨g0,g1,g2,g3,g4⟩ ih;dsimp only at g0 g1 g2 g3 g4 ih;obtain⟨g4,g5,g6⟩:=g4;have ea:as_.length=v.2.2.2.2.2.1.length:=by rw[g1]
 unfold c5h;dsimp only;by_cases hk:n>0
 ·refine a0n (by simpa using hk) ?_;refine a0n (a0K (by simp only[length_set,length_replicate];omega)) ?_;have hr:=c8Y (((),(),(),w,n,(),0,()),(c0,c1,c2,()),((),(),(),()),((),(),(),()),ws++(replicate 1 (zero (Ty.flt FloatKind.f32))).set 0 w,as_,sp,replicate 0 (zero (Ty.flt FloatKind.f32)),()) g0 rfl rfl (by show as_.length<=30;omega);refine a0n (a2K hr) ?_;have hx:=a3f (((),((),((),(0,(0,((),())))))),(([],(0,(0,()))),(((),((),((),()))),(((),((),((),()))),([],([],([],([],())))))))) hr;change a0h (a2B _).2.1 /\ (a2B _).1.2.2.2.2.1=n /\ (a2B _).2.2.2.2.1=_ /\ (a2B _).2.2.2.2.2.1=as_ /\ (a2B _).2.2.2.2.2.2.1=sp /\ (a2B _).2.2.2.2.2.2.2.1.length=as_.length at hx;generalize a2B (((),(),(),w,n,(),0,()),(c0,c1,c2,()),((),(),(),()),((),(),(),()),ws++(replicate 1 (zero (Ty.flt FloatKind.f32))).set 0 w,as_,sp,replicate 0 (zero (Ty.flt FloatKind.f32)),())=y at *;obtain⟨⟨_,_,_,w',n',_,_⟩,c',_,_,ws',as',sp',row,_⟩:=y;dsimp only at hx;obtain⟨h1,h2,h3,h4,h5,h6⟩:=hx;subst h2 h3 h4 h5;refine a0n (a0K (by simp only[length_set,length_replicate];omega)) ?_;refine a0n (a0C _ (by(repeat ((try dsimp only);first|assumption|(with_reducible first|apply a0c|apply a0i|apply a0e|apply a0d|apply a0f))))) ?_;have e:IntKind.i64.wrap (n'-1)=n'-1:=w64 (by omega) (by omega);dsimp only;rw[e];refine ih _ ⟨by(repeat ((try dsimp only);first|assumption|(with_reducible first|apply a0c|apply a0i|apply a0e|apply a0d|apply a0f))),g1,?_,?_,?_,?_,?_⟩ ?_
  ·show 0<=n'-1;omega
  ·simp only[length_append,length_set,length_replicate];omega
  ·rfl
  ·simp only[length_append,length_set,length_replicate];omega
  ·intro r hr;rcases List.mem_append.1 hr with hr|hr
   ·exact g6 r hr
   ·rw[show r=row from List.mem_singleton.1 hr,h6,ea]
  ·show(n'-1).toNat<n'.toNat;omega
 ·have hd:decide (n>0)=false:=by simpa using hk
  rw[hd];refine a0s ⟨g0,g1,?_,?_,g6⟩
  ·show ws.length=_;omega
  ·show sp.length=_;omega
theorem e8a (a b:Int) (h1:a>0) (h2:a<180) (h:0<=b /\ b<50):IntKind.i64.wrap (IntKind.i64.wrap (a+5)+b)<=1000:=by
 rw[w64 (x:=a+5) (by omega) (by omega),w64 (by omega) (by omega)];omega
theorem e8b (b:Int) (h:0<=b /\ b<4):0<=IntKind.i64.wrap (1+b) /\ IntKind.i64.wrap (1+b)<=8 /\ 1<=(IntKind.i64.wrap (1+b)).toNat /\ (IntKind.i64.wrap (1+b)).toNat<=4:=by
 rw[w64 (by omega) (by omega)];omega
theorem e8c (b:Int) (h:0<=b /\ b<25):IntKind.i64.wrap (20+b)<=1000:=by
 rw[w64 (by omega) (by omega)];omega
theorem b8c (v:b5y) (hc:a0h v.2.1) (hn:(v.1.2.2.2.1:Int)<=1000) (hw:v.2.2.2.2.1.length=1) :
 Pst (d8Q v) fun y=>a0h y.2.1 /\ 1<=y.2.2.2.2.1.length /\ y.2.2.2.2.1.length<=21:=by
 unfold d8Q;refine a0V (q:=d8P K34 G34 K77 G77)
  (fun u=>a0h u.2.1 /\ (u.1.2.2.2.1:Int)<=1000 /\ 1<=u.2.2.2.2.1.length /\ u.2.2.2.2.1.length<=21)
  (fun _ r=>Pst r fun y=>a0h y.2.1 /\ 1<=y.2.2.2.2.1.length /\ y.2.2.2.2.1.length<=21)
  (fun u=>21-u.2.2.2.2.1.length) ?_ _ _ ⟨hc,hn,by omega,by omega⟩ (by unfold e5N;omega)
 rintro⟨⟨_,_,_,a,_⟩,⟨c0,c1,c2,_⟩,_,_,as_,_⟩ f ⟨g0,g1,g2,g3⟩ ih;dsimp only at g0 g1 g2 g3 ih;unfold d8P;dsimp only;refine a1x (fun h1=>?_) (fun _=>a0s ⟨g0,g2,g3⟩);refine a1x (fun h2=>?_) (fun _=>a0s ⟨g0,g2,g3⟩);refine a1x (fun h3=>?_) (fun _=>a0s ⟨g0,g2,g3⟩);have h1:a>0:=by simpa using h1
 have h2:a<180:=by simpa using h2
 have h3 : as_.length < 20 := by have:(as_.length:Int)<20:=by simpa using h3
                                 omega
 refine a0n (a0K (by simp only[length_set,length_replicate];omega)) ?_;refine a0n (a0C _ (by(repeat ((try dsimp only);first|assumption|(with_reducible first|apply a0c|apply a0i|apply a0e|apply a0d|apply a0f))))) ?_;have hb:=a1m 50 (c0,c1,c2,()) g0 (by decide);refine ih _ ⟨by(repeat ((try dsimp only);first|assumption|(with_reducible first|apply a0c|apply a0i|apply a0e|apply a0d|apply a0f))),e8a _ _ h1 h2 hb,?_,?_⟩ ?_
 all_goals simp only[length_append,length_set,length_replicate];omega
def c1K (ws:List Nat) (as_:List Int) (sp:List (List Nat)):Prop:=2<=as_.length /\ as_.length<=22 /\ 1<=ws.length /\ ws.length<=4 /\ c1J ws.length as_.length ws sp
theorem b3D (x:I73.den) (h:a0h x.2.1):Pst (F73 x) fun y=>a0h y.2.1 /\ c1K y.1.1.1 y.1.1.2.1 y.1.1.2.2.1:=by
 unfold F73 r73;dsimp only;have a2x:∀(n:Int) (c:List Int×Int×Int×Unit),a0h c->0<n->0<=((G34 (((),n,()),c,())).1.1:Int) /\ ((G34 (((),n,()),c,())).1.1:Int)<n:=fun n c h hn=>a1m n c h hn
 refine a0n (a0C _ (by(repeat ((try dsimp only);first|assumption|(with_reducible first|apply a0c|apply a0i|apply a0e|apply a0d|apply a0f))))) ?_;have b1:0<=((G34 (((),25,()),x.snd)).1.1:Int) /\ ((G34 (((),25,()),x.snd)).1.1:Int)<25:=a2x 25 x.2.1 h (by decide);have c1:a0h (G34 (((),25,()),x.snd)).2.1:=by(repeat ((try dsimp only);first|assumption|(with_reducible first|apply a0c|apply a0i|apply a0e|apply a0d|apply a0f)))
 generalize G34 (((),25,()),x.snd)=A at *;refine a0n (a2i _ (by(repeat ((try dsimp only);first|assumption|(with_reducible first|apply a0c|apply a0i|apply a0e|apply a0d|apply a0f))))) ?_;have c2:a0h (G77 (((),6,()),A.snd)).2.1:=by(repeat ((try dsimp only);first|assumption|(with_reducible first|apply a0c|apply a0i|apply a0e|apply a0d|apply a0f)))
 generalize G77 (((),6,()),A.snd)=B at *;have main:∀a:Int,a<=1000->Pst (
  let v5:=set (replicate 1 (zero (Ty.int IntKind.i64))) 0 0
  let v6:=(b3a (((),(),(),a,()),B.snd.fst,((),(),(),()),((),(),(),()),v5,()))
  bif (v6)then
   let v7:=(a6C (((),(),(),a,()),B.snd.fst,((),(),(),()),((),(),(),()),v5,()))
   let v8:=(set (replicate 1 (zero (Ty.int IntKind.i64))) 0 180)
   bif (a0D (length v7.snd.snd.snd.snd.fst+length v8))then
    let v9:=(K34 (((),4,()),v7.snd.fst,()))
    bif (v9)then
     let v10:=(G34 (((),4,()),v7.snd.fst,()))
     let v11:=(K34 (((),4,()),v10.snd))
     bif (v11)then
      let v12:=(wrap IntKind.i64 (1+v10.fst.fst))
      let v13:=(G34 (((),4,()),v10.snd))
      let v14:=(wrap IntKind.i64 (1+v13.fst.fst))
      let v15:=(v7.snd.snd.snd.snd.fst++v8)
      let v16:=(a8y (((),(),(),nearest FloatKind.f32 v12,v14,()),v13.snd.fst,((),(),(),()),((),(),(),()),[],v15,[],()))
      bif (v16)then
       let v17:=(a3C (((),(),(),nearest FloatKind.f32 v12,v14,()),v13.snd.fst,((),(),(),()),((),(),(),()),[],v15,[],()))
       (some ((v17.snd.snd.snd.snd,()),v17.snd.fst,()):Option O73.den)
      else none
     else none
    else none
   else none
  else none) fun y=>a0h y.2.1 /\ c1K y.1.1.1 y.1.1.2.1 y.1.1.2.2.1:=by
  intro a ha;dsimp only;have hr:=b8c (((),(),(),a,()),B.snd.fst,((),(),(),()),((),(),(),()),set (replicate 1 (zero (Ty.int IntKind.i64))) 0 0,()) c2 ha rfl;refine a0n (a2K hr) ?_;have hx:=a3f (((),((),((),()))),(([],(0,(0,()))),(((),((),((),()))),(((),((),((),()))),([],()))))) hr;change a0h (a6C _).2.1 /\ 1<=(a6C _).2.2.2.2.1.length /\ (a6C _).2.2.2.2.1.length<=21 at hx;generalize a6C (((),(),(),a,()),B.snd.fst,((),(),(),()),((),(),(),()),set (replicate 1 (zero (Ty.int IntKind.i64))) 0 0,())=y at *;obtain⟨_,c,_,_,as_,_⟩:=y;dsimp only at hx ⊢;obtain⟨h1,h2,h3⟩:=hx;refine a0n (a0K (by simp only[length_set,length_replicate];omega)) ?_;refine a0n (a0C _ (by(repeat ((try dsimp only);first|assumption|(with_reducible first|apply a0c|apply a0i|apply a0e|apply a0d|apply a0f))))) ?_;have c3:a0h (G34 (((),4,()),c,())).2.1:=by(repeat ((try dsimp only);first|assumption|(with_reducible first|apply a0c|apply a0i|apply a0e|apply a0d|apply a0f)))
  generalize G34 (((),4,()),c,())=D at *;refine a0n (a0C _ (by(repeat ((try dsimp only);first|assumption|(with_reducible first|apply a0c|apply a0i|apply a0e|apply a0d|apply a0f))))) ?_;have b4:0<=((G34 (((),4,()),D.snd)).1.1:Int) /\ ((G34 (((),4,()),D.snd)).1.1:Int)<4:=a2x 4 D.2.1 c3 (by decide);have c4:a0h (G34 (((),4,()),D.snd)).2.1:=by(repeat ((try dsimp only);first|assumption|(with_reducible first|apply a0c|apply a0i|apply a0e|apply a0d|apply a0f)))
  generalize G34 (((),4,()),D.snd)=E at *;have hn:0<=IntKind.i64.wrap (1+E.fst.fst) /\ IntKind.i64.wrap (1+E.fst.fst)<=8 /\ 1<=(IntKind.i64.wrap (1+E.fst.fst)).toNat /\ (IntKind.i64.wrap (1+E.fst.fst)).toNat<=4:=e8b _ b4;generalize IntKind.i64.wrap (1+E.fst.fst)=nn at *;generalize nearest FloatKind.f32 (wrap IntKind.i64 (1+D.fst.fst))=w;have hq:=c3P (((),(),(),w,nn,()),E.snd.fst,((),(),(),()),((),(),(),()),[],as_++set (replicate 1 (zero (Ty.int IntKind.i64))) 0 180,[],()) c4 ⟨hn.1,hn.2.1⟩ rfl rfl (by simp only[length_append,length_set,length_replicate];omega);refine a0n (a2K hq) ?_;have hx:=a3f (((),((),())),(([],(0,(0,()))),(((),((),((),()))),(((),((),((),()))),([],([],([],()))))))) hq;change a0h (a3C _).2.1 /\ (a3C _).2.2.2.2.2.1=_ /\ c1J nn.toNat _ (a3C _).2.2.2.2.1 (a3C _).2.2.2.2.2.2.1 at hx;generalize a3C (((),(),(),w,nn,()),E.snd.fst,((),(),(),()),((),(),(),()),[],as_++set (replicate 1 (zero (Ty.int IntKind.i64))) 0 180,[],())=y at *;obtain⟨_,c',_,_,ws',as',sp',_⟩:=y;dsimp only at hx;obtain⟨k1,k2,k3,k4,k5⟩:=hx;subst k2;refine a0s ⟨k1,?_⟩;dsimp only;have el:(as_++set (replicate 1 (zero (Ty.int IntKind.i64))) 0 180).length=as_.length+1:=by simp only[length_append,length_set,length_replicate]
  refine⟨by rw[el];omega,by rw[el];omega,by rw[k3];exact hn.2.2.1,by rw[k3];exact hn.2.2.2,rfl,by rw[k3,k4],k5⟩
 refine a1x (fun _=>?_) (fun _=>?_)
 ·exact main 0 (by decide)
 ·exact main _ (e8c _ b1)
theorem f3T (x:I73.den) (h:a0h x.2.1):K73 x=true:=a2K (b3D x h)
theorem f3U (x:I73.den) (h:a0h x.2.1):a0h (G73 x).2.1 /\ c1K (G73 x).1.1.1 (G73 x).1.1.2.1 (G73 x).1.1.2.2.1:=a3f _ (b3D x h)
abbrev A27:Ty:=.cons (S46) (.cons (.str) (.nil))
abbrev R27:Ty:=.cons (S46) (.cons (.bool) (.nil))
noncomputable def g7e (a b c d e g h i j k) :=a0m tab eqs [(36,a0j false I36 O36 a b),(16,a0a A16 R16 c d),(14,a0a A14 R14 e g),(68,a0j true I68 O68 h i),(60,a0a A60 R60 j k)] 44 [.cell 4 47,.tmp 5] [] [] [] [] [.frzBox 4]
def r27 (h:KI I36) (d:GI I36 O36) (i:KA A16) (j:GA A16 R16) (k:KA A14) (l:GA A14 R14) (m:KI I68) (n:GI I68 O68) (o:KA A60) (p:GA A60 R60) (x:Den A27):OD R27:=let e:=h ((x.1,()),());bif e then bif i x.2 then bif k (x.1,()) then bif !(l (x.1,())).1 then bif e then let b:=d ((x.1,()),());some ((((b.1.1.1,b.1.1.2.1,b.1.1.2.2.1,()),(b.1.1.2.2.2.1,b.1.1.2.2.2.2.1,()),b.1.1.2.2.2.2.2.1,(((b.1.1.2.2.2.2.2.2.1,b.1.1.2.2.2.2.2.2.2.1,()),(b.1.1.2.2.2.2.2.2.2.2.1,b.1.1.2.2.2.2.2.2.2.2.2.1,()),()),b.1.1.2.2.2.2.2.2.2.2.2.2.1,((b.1.1.2.2.2.2.2.2.2.2.2.2.2.1,b.1.1.2.2.2.2.2.2.2.2.2.2.2.2.1,()),(b.1.1.2.2.2.2.2.2.2.2.2.2.2.2.2.1,b.1.1.2.2.2.2.2.2.2.2.2.2.2.2.2.2.1,()),()),()),()),b.1.1.2.2.2.2.2.2.2.2.2.2.2.2.2.2.2.1,b.1.1.2.2.2.2.2.2.2.2.2.2.2.2.2.2.2.2.1,b.1.1.2.2.2.2.2.2.2.2.2.2.2.2.2.2.2.2.2.1,b.1.1.2.2.2.2.2.2.2.2.2.2.2.2.2.2.2.2.2.2.1,b.1.1.2.2.2.2.2.2.2.2.2.2.2.2.2.2.2.2.2.2.2.1,b.2),false,())else none else bif decide ((length x.1.2.2.2.2.2.2.2.1:Int) ≥ 300) then bif e then let b:=d ((x.1,()),());some ((((b.1.1.1,b.1.1.2.1,b.1.1.2.2.1,()),(b.1.1.2.2.2.1,b.1.1.2.2.2.2.1,()),b.1.1.2.2.2.2.2.1,(((b.1.1.2.2.2.2.2.2.1,b.1.1.2.2.2.2.2.2.2.1,()),(b.1.1.2.2.2.2.2.2.2.2.1,b.1.1.2.2.2.2.2.2.2.2.2.1,()),()),b.1.1.2.2.2.2.2.2.2.2.2.2.1,((b.1.1.2.2.2.2.2.2.2.2.2.2.2.1,b.1.1.2.2.2.2.2.2.2.2.2.2.2.2.1,()),(b.1.1.2.2.2.2.2.2.2.2.2.2.2.2.2.1,b.1.1.2.2.2.2.2.2.2.2.2.2.2.2.2.2.1,()),()),()),()),b.1.1.2.2.2.2.2.2.2.2.2.2.2.2.2.2.2.1,b.1.1.2.2.2.2.2.2.2.2.2.2.2.2.2.2.2.2.1,b.1.1.2.2.2.2.2.2.2.2.2.2.2.2.2.2.2.2.2.1,b.1.1.2.2.2.2.2.2.2.2.2.2.2.2.2.2.2.2.2.2.1,b.1.1.2.2.2.2.2.2.2.2.2.2.2.2.2.2.2.2.2.2.2.1,b.2),false,())else none else let b:=j x.2;bif !b.2.1 then bif e then let a:=d ((x.1,()),());some ((((a.1.1.1,a.1.1.2.1,a.1.1.2.2.1,()),(a.1.1.2.2.2.1,a.1.1.2.2.2.2.1,()),a.1.1.2.2.2.2.2.1,(((a.1.1.2.2.2.2.2.2.1,a.1.1.2.2.2.2.2.2.2.1,()),(a.1.1.2.2.2.2.2.2.2.2.1,a.1.1.2.2.2.2.2.2.2.2.2.1,()),()),a.1.1.2.2.2.2.2.2.2.2.2.2.1,((a.1.1.2.2.2.2.2.2.2.2.2.2.2.1,a.1.1.2.2.2.2.2.2.2.2.2.2.2.2.1,()),(a.1.1.2.2.2.2.2.2.2.2.2.2.2.2.2.1,a.1.1.2.2.2.2.2.2.2.2.2.2.2.2.2.2.1,()),()),()),()),a.1.1.2.2.2.2.2.2.2.2.2.2.2.2.2.2.2.1,a.1.1.2.2.2.2.2.2.2.2.2.2.2.2.2.2.2.2.1,a.1.1.2.2.2.2.2.2.2.2.2.2.2.2.2.2.2.2.2.1,a.1.1.2.2.2.2.2.2.2.2.2.2.2.2.2.2.2.2.2.2.1,a.1.1.2.2.2.2.2.2.2.2.2.2.2.2.2.2.2.2.2.2.2.1,a.2),false,())else none else let a:=d ((x.1,()),());let q:=(((),b.1,()),(a.1.1.1,a.1.1.2.1,a.1.1.2.2.1,a.1.1.2.2.2.1,a.1.1.2.2.2.2.1,a.1.1.2.2.2.2.2.1,a.1.1.2.2.2.2.2.2.1,a.1.1.2.2.2.2.2.2.2.1,a.1.1.2.2.2.2.2.2.2.2.1,a.1.1.2.2.2.2.2.2.2.2.2.1,a.1.1.2.2.2.2.2.2.2.2.2.2.1,a.1.1.2.2.2.2.2.2.2.2.2.2.2.1,a.1.1.2.2.2.2.2.2.2.2.2.2.2.2.1,a.1.1.2.2.2.2.2.2.2.2.2.2.2.2.2.1,a.1.1.2.2.2.2.2.2.2.2.2.2.2.2.2.2.1,a.1.1.2.2.2.2.2.2.2.2.2.2.2.2.2.2.2.1,a.1.1.2.2.2.2.2.2.2.2.2.2.2.2.2.2.2.2.1,a.1.1.2.2.2.2.2.2.2.2.2.2.2.2.2.2.2.2.2.1,a.1.1.2.2.2.2.2.2.2.2.2.2.2.2.2.2.2.2.2.2.1,a.1.1.2.2.2.2.2.2.2.2.2.2.2.2.2.2.2.2.2.2.2.1,(),(),()),a.2);bif m q then let c:=n q;bif !c.1.1 then bif e then some ((((a.1.1.1,a.1.1.2.1,a.1.1.2.2.1,()),(a.1.1.2.2.2.1,a.1.1.2.2.2.2.1,()),a.1.1.2.2.2.2.2.1,(((a.1.1.2.2.2.2.2.2.1,a.1.1.2.2.2.2.2.2.2.1,()),(a.1.1.2.2.2.2.2.2.2.2.1,a.1.1.2.2.2.2.2.2.2.2.2.1,()),()),a.1.1.2.2.2.2.2.2.2.2.2.2.1,((a.1.1.2.2.2.2.2.2.2.2.2.2.2.1,a.1.1.2.2.2.2.2.2.2.2.2.2.2.2.1,()),(a.1.1.2.2.2.2.2.2.2.2.2.2.2.2.2.1,a.1.1.2.2.2.2.2.2.2.2.2.2.2.2.2.2.1,()),()),()),()),a.1.1.2.2.2.2.2.2.2.2.2.2.2.2.2.2.2.1,a.1.1.2.2.2.2.2.2.2.2.2.2.2.2.2.2.2.2.1,a.1.1.2.2.2.2.2.2.2.2.2.2.2.2.2.2.2.2.2.1,a.1.1.2.2.2.2.2.2.2.2.2.2.2.2.2.2.2.2.2.2.1,a.1.1.2.2.2.2.2.2.2.2.2.2.2.2.2.2.2.2.2.2.2.1,a.2),false,())else none else bif o (b.1,{ data:=#[32] },()) then let g:=set (replicate 1 (zero Ty.str)) 0 (p (b.1,{ data:=#[32] },())).1;bif a0D (length c.2.2.2.1+length g) then some ((((c.2.1.1,c.2.1.2.1,c.2.1.2.2.1,()),(c.2.1.2.2.2.1,c.2.1.2.2.2.2.1,()),c.2.1.2.2.2.2.2.1,(((c.2.1.2.2.2.2.2.2.1,c.2.1.2.2.2.2.2.2.2.1,()),(c.2.1.2.2.2.2.2.2.2.2.1,c.2.1.2.2.2.2.2.2.2.2.2.1,()),()),c.2.1.2.2.2.2.2.2.2.2.2.2.1,((c.2.1.2.2.2.2.2.2.2.2.2.2.2.1,c.2.1.2.2.2.2.2.2.2.2.2.2.2.2.1,()),(c.2.1.2.2.2.2.2.2.2.2.2.2.2.2.2.1,c.2.1.2.2.2.2.2.2.2.2.2.2.2.2.2.2.1,()),()),()),()),c.2.1.2.2.2.2.2.2.2.2.2.2.2.2.2.2.2.1,c.2.1.2.2.2.2.2.2.2.2.2.2.2.2.2.2.2.2.1,c.2.1.2.2.2.2.2.2.2.2.2.2.2.2.2.2.2.2.2.1,c.2.1.2.2.2.2.2.2.2.2.2.2.2.2.2.2.2.2.2.2.1,c.2.1.2.2.2.2.2.2.2.2.2.2.2.2.2.2.2.2.2.2.2.1,c.2.2.2.2.1,c.2.2.2.1++g,()),true,())else none else none else none else none else none else none
theorem g7f (a b c d e g h i j k x) :a0t (g7e a b c d e g h i j k) (a0b Tryz.f27) (a1a R27) (a0M A27 x) []=r27 a b c d e g h i j k x:=by kernel_rfl
def F27 (x:Den A27):OD R27:=r27 K36 G36 K16 G16 K14 G14 K68 G68 K60 G60 x
def K27 (x:Den A27):Bool:=(F27 x).isSome
def G27 (x:Den A27):Den R27:=(F27 x).getD (zero R27)
theorem g3K:a0k Tryz.prog (27,a0a A27 R27 K27 G27):=fnO (.cons f3k (.cons g3f (.cons g1D (.cons g3D (.cons f7x .nil))))) Tryz.func27 (g7f K36 G36 K16 G16 K14 G14 K68 G68 K60 G60)
abbrev A10:Ty:=.cons (S46) (.cons (.slice (.str)) (.nil))
abbrev R10:Ty:=.cons (S46) (.cons (.slice (.bool)) (.nil))
abbrev b2u:Type:=((Unit×(Unit×(Unit×((List (Den (.str)))×(Int×(Int×Unit))))))×(((List (Den (.flt .f32)))×((List (Den (.int .i64)))×((List (Den (.slice (.flt .f32))))×((List (Den (a0Y)))×((List (Den (.int .i64)))×((List (Den (S68)))×(Int×(Int×(Int×(Int×((List (Den (a1U)))×(Int×(Int×(Int×(Int×(Int×((Nat×Nat)×(Int×((Nat×Nat)×(Int×((List (Den (S97)))×((List (Den (.str)))×Unit))))))))))))))))))))))×((Unit×(Unit×(Unit×(Unit×(Unit×(Unit×(Int×(Int×(Int×(Int×(Unit×(Int×(Int×(Int×(Int×(Int×((Nat×Nat)×(Int×((Nat×Nat)×(Int×(Unit×(Unit×Unit))))))))))))))))))))))×((List (Den (.bool)))×Unit))))
def c6N:ShS:=⟨[(2,.one (.ptr 0 0)),(4,.one (.ptr 1 0)),(6,.one (.ref (.bool) 2)),(13,.one (.sl (.str))),(14,.one (.int .i64)),(15,.one (.int .i64))],[(0,.box [.sl (.flt .f32),.sl (.int .i64),.sl (.slice (.flt .f32)),.sl (a0Y),.sl (.int .i64),.sl (S68),.int .i64,.int .i64,.int .i64,.int .i64,.sl (a1U),.int .i64,.int .i64,.int .i64,.int .i64,.int .i64,.cpx .f64,.int .i64,.cpx .f32,.int .i64,.sl (S97),.sl (.str)]),(1,.box [.nil (.flt .f32),.nil (.int .i64),.nil (.slice (.flt .f32)),.nil (a0Y),.nil (.int .i64),.nil (S68),.int .i64,.int .i64,.int .i64,.int .i64,.nil (a1U),.int .i64,.int .i64,.int .i64,.int .i64,.int .i64,.cpx .f64,.int .i64,.cpx .f32,.int .i64,.nil (S97),.nil (.str)]),(2,.arr (.bool))],3,0⟩
abbrev c3Q:Type:=((Unit×(Unit×(Unit×Unit)))×(((List (Den (.flt .f32)))×((List (Den (.int .i64)))×((List (Den (.slice (.flt .f32))))×((List (Den (a0Y)))×((List (Den (.int .i64)))×((List (Den (S68)))×(Int×(Int×(Int×(Int×((List (Den (a1U)))×(Int×(Int×(Int×(Int×(Int×((Nat×Nat)×(Int×((Nat×Nat)×(Int×((List (Den (S97)))×((List (Den (.str)))×Unit))))))))))))))))))))))×((Unit×(Unit×(Unit×(Unit×(Unit×(Unit×(Int×(Int×(Int×(Int×(Unit×(Int×(Int×(Int×(Int×(Int×((Nat×Nat)×(Int×((Nat×Nat)×(Int×(Unit×(Unit×Unit))))))))))))))))))))))×((List (Den (.bool)))×Unit))))
def c3R:ShS:=⟨[(2,.one (.ptr 0 0)),(4,.one (.ptr 1 0)),(6,.one (.ref (.bool) 2))],[(0,.box [.sl (.flt .f32),.sl (.int .i64),.sl (.slice (.flt .f32)),.sl (a0Y),.sl (.int .i64),.sl (S68),.int .i64,.int .i64,.int .i64,.int .i64,.sl (a1U),.int .i64,.int .i64,.int .i64,.int .i64,.int .i64,.cpx .f64,.int .i64,.cpx .f32,.int .i64,.sl (S97),.sl (.str)]),(1,.box [.nil (.flt .f32),.nil (.int .i64),.nil (.slice (.flt .f32)),.nil (a0Y),.nil (.int .i64),.nil (S68),.int .i64,.int .i64,.int .i64,.int .i64,.nil (a1U),.int .i64,.int .i64,.int .i64,.int .i64,.int .i64,.cpx .f64,.int .i64,.cpx .f32,.int .i64,.nil (S97),.nil (.str)]),(2,.arr (.bool))],3,0⟩
noncomputable def g4U (a b c d e g) :=a0m tab eqs [(36,a0j false I36 O36 a b),(27,a0a A27 R27 c d)] 33 [.cell 4 47,.tmp 5] [] [] [(4,a1Q [2,4,6,13,14,15] [.frzBox 2,.nil 6] 0 [2,4,6] [] c6N c3R e g)] [] [.frz 5]
noncomputable def e4j:Code:=(a0p (a0b Tryz.f10)).getD 0 .skip
def c8Z (g:KI I36) (h:GI I36 O36) (b:KA A27) (c:GA A27 R27) (f:b2u->Option (c3Q)) (v:b2u):Option (c3Q):=bif decide (v.1.2.2.2.2.2.1<v.1.2.2.2.2.1) then bif decide (0<=v.1.2.2.2.2.2.1)&&decide (v.1.2.2.2.2.2.1<(length v.1.2.2.2.1:Int)) then let i:=getD v.1.2.2.2.1 (toNat v.1.2.2.2.2.2.1) (zero Ty.str);let d:=((((v.2.1.1,v.2.1.2.1,v.2.1.2.2.1,()),(v.2.1.2.2.2.1,v.2.1.2.2.2.2.1,()),v.2.1.2.2.2.2.2.1,(((v.2.1.2.2.2.2.2.2.1,v.2.1.2.2.2.2.2.2.2.1,()),(v.2.1.2.2.2.2.2.2.2.2.1,v.2.1.2.2.2.2.2.2.2.2.2.1,()),()),v.2.1.2.2.2.2.2.2.2.2.2.2.1,((v.2.1.2.2.2.2.2.2.2.2.2.2.2.1,v.2.1.2.2.2.2.2.2.2.2.2.2.2.2.1,()),(v.2.1.2.2.2.2.2.2.2.2.2.2.2.2.2.1,v.2.1.2.2.2.2.2.2.2.2.2.2.2.2.2.2.1,()),()),()),()),v.2.1.2.2.2.2.2.2.2.2.2.2.2.2.2.2.2),i,());bif b d then let a:=c d;let e:=set (replicate 1 (zero Ty.bool)) 0 a.2.1;bif a0D (length v.2.2.2.1+length e) then f ((((),(),(),v.1.2.2.2.1,v.1.2.2.2.2.1,wrap .i64 (v.1.2.2.2.2.2.1+1),()),(a.1.1.1.1,a.1.1.1.2.1,a.1.1.1.2.2.1,a.1.1.2.1.1,a.1.1.2.1.2.1,a.1.1.2.2.1,a.1.1.2.2.2.1.1.1.1,a.1.1.2.2.2.1.1.1.2.1,a.1.1.2.2.2.1.1.2.1.1,a.1.1.2.2.2.1.1.2.1.2.1,a.1.1.2.2.2.1.2.1,a.1.1.2.2.2.1.2.2.1.1.1,a.1.1.2.2.2.1.2.2.1.1.2.1,a.1.1.2.2.2.1.2.2.1.2.1.1,a.1.1.2.2.2.1.2.2.1.2.1.2.1,a.1.2),((),(),(),(),(),(),v.2.2.1.2.2.2.2.2.2.1,v.2.2.1.2.2.2.2.2.2.2.1,v.2.2.1.2.2.2.2.2.2.2.2.1,v.2.2.1.2.2.2.2.2.2.2.2.2.1,(),v.2.2.1.2.2.2.2.2.2.2.2.2.2.2.1,v.2.2.1.2.2.2.2.2.2.2.2.2.2.2.2.1,v.2.2.1.2.2.2.2.2.2.2.2.2.2.2.2.2.1,v.2.2.1.2.2.2.2.2.2.2.2.2.2.2.2.2.2.1,v.2.2.1.2.2.2.2.2.2.2.2.2.2.2.2.2.2.2.1,v.2.2.1.2.2.2.2.2.2.2.2.2.2.2.2.2.2.2.2.1,v.2.2.1.2.2.2.2.2.2.2.2.2.2.2.2.2.2.2.2.2.1,v.2.2.1.2.2.2.2.2.2.2.2.2.2.2.2.2.2.2.2.2.2.1,v.2.2.1.2.2.2.2.2.2.2.2.2.2.2.2.2.2.2.2.2.2.2.1,(),(),()),v.2.2.2.1++e,()))else none else none else none else some (((),(),(),()),v.2.1,((),(),(),(),(),(),v.2.2.1.2.2.2.2.2.2.1,v.2.2.1.2.2.2.2.2.2.2.1,v.2.2.1.2.2.2.2.2.2.2.2.1,v.2.2.1.2.2.2.2.2.2.2.2.2.1,(),v.2.2.1.2.2.2.2.2.2.2.2.2.2.2.1,v.2.2.1.2.2.2.2.2.2.2.2.2.2.2.2.1,v.2.2.1.2.2.2.2.2.2.2.2.2.2.2.2.2.1,v.2.2.1.2.2.2.2.2.2.2.2.2.2.2.2.2.2.1,v.2.2.1.2.2.2.2.2.2.2.2.2.2.2.2.2.2.2.1,v.2.2.1.2.2.2.2.2.2.2.2.2.2.2.2.2.2.2.2.1,v.2.2.1.2.2.2.2.2.2.2.2.2.2.2.2.2.2.2.2.2.1,v.2.2.1.2.2.2.2.2.2.2.2.2.2.2.2.2.2.2.2.2.2.1,v.2.2.1.2.2.2.2.2.2.2.2.2.2.2.2.2.2.2.2.2.2.2.1,(),(),()),v.2.2.2)
theorem e8d (a b c d e g f v) :EBk (g4U a b c d e g) e4j (a0z [2,4,6,13,14,15] [.frzBox 2,.nil 6] 0 [2,4,6] [] (atS c6N f) (a4X c3R)) (mkS c6N v)=c8Z a b c d f v:=by kernel_rfl
def e0P (v:b2u):Nat:=v.1.2.2.2.1.length+v.1.2.2.2.2.1.natAbs+v.1.2.2.2.2.2.1.natAbs+v.2.1.1.length+v.2.1.2.1.length+v.2.1.2.2.1.length+v.2.1.2.2.2.1.length+v.2.1.2.2.2.2.1.length+v.2.1.2.2.2.2.2.1.length+v.2.1.2.2.2.2.2.2.1.natAbs+v.2.1.2.2.2.2.2.2.2.1.natAbs+v.2.1.2.2.2.2.2.2.2.2.1.natAbs+v.2.1.2.2.2.2.2.2.2.2.2.1.natAbs+v.2.1.2.2.2.2.2.2.2.2.2.2.1.length+v.2.1.2.2.2.2.2.2.2.2.2.2.2.1.natAbs+v.2.1.2.2.2.2.2.2.2.2.2.2.2.2.1.natAbs+v.2.1.2.2.2.2.2.2.2.2.2.2.2.2.2.1.natAbs+v.2.1.2.2.2.2.2.2.2.2.2.2.2.2.2.2.1.natAbs+v.2.1.2.2.2.2.2.2.2.2.2.2.2.2.2.2.2.1.natAbs+v.2.1.2.2.2.2.2.2.2.2.2.2.2.2.2.2.2.2.2.1.natAbs+v.2.1.2.2.2.2.2.2.2.2.2.2.2.2.2.2.2.2.2.2.2.1.natAbs+v.2.1.2.2.2.2.2.2.2.2.2.2.2.2.2.2.2.2.2.2.2.2.1.length+v.2.1.2.2.2.2.2.2.2.2.2.2.2.2.2.2.2.2.2.2.2.2.2.1.length+v.2.2.1.2.2.2.2.2.2.1.natAbs+v.2.2.1.2.2.2.2.2.2.2.1.natAbs+v.2.2.1.2.2.2.2.2.2.2.2.1.natAbs+v.2.2.1.2.2.2.2.2.2.2.2.2.1.natAbs+v.2.2.1.2.2.2.2.2.2.2.2.2.2.2.1.natAbs+v.2.2.1.2.2.2.2.2.2.2.2.2.2.2.2.1.natAbs+v.2.2.1.2.2.2.2.2.2.2.2.2.2.2.2.2.1.natAbs+v.2.2.1.2.2.2.2.2.2.2.2.2.2.2.2.2.2.1.natAbs+v.2.2.1.2.2.2.2.2.2.2.2.2.2.2.2.2.2.2.1.natAbs+v.2.2.1.2.2.2.2.2.2.2.2.2.2.2.2.2.2.2.2.2.1.natAbs+v.2.2.1.2.2.2.2.2.2.2.2.2.2.2.2.2.2.2.2.2.2.2.1.natAbs+v.2.2.2.1.length+1000
def e8e (v:b2u):Option (c3Q):=a1t (c8Z K36 G36 K27 G27) (e0P v) v
def b3E (v:b2u):Bool:=(e8e v).isSome
def b3F (v:b2u):c3Q:=(e8e v).getD (((),((),((),()))),(([],([],([],([],([],([],(0,(0,(0,(0,([],(0,(0,(0,(0,(0,((0,0),(0,((0,0),(0,([],([],())))))))))))))))))))))),(((),((),((),((),((),((),(0,(0,(0,(0,((),(0,(0,(0,(0,(0,((0,0),(0,((0,0),(0,((),((),())))))))))))))))))))))),([],()))))
def r10 (c:KI I36) (d:GI I36 O36) (i:KA A27) (j:GA A27 R27) (e:b2u->Bool) (g:b2u->c3Q) (x:Den A10):OD R10:=bif c ((x.1,()),()) then let a:=d ((x.1,()),());let h:=(((),(),(),x.2.1,(length x.2.1:Int),0,()),(a.1.1.1,a.1.1.2.1,a.1.1.2.2.1,a.1.1.2.2.2.1,a.1.1.2.2.2.2.1,a.1.1.2.2.2.2.2.1,a.1.1.2.2.2.2.2.2.1,a.1.1.2.2.2.2.2.2.2.1,a.1.1.2.2.2.2.2.2.2.2.1,a.1.1.2.2.2.2.2.2.2.2.2.1,a.1.1.2.2.2.2.2.2.2.2.2.2.1,a.1.1.2.2.2.2.2.2.2.2.2.2.2.1,a.1.1.2.2.2.2.2.2.2.2.2.2.2.2.1,a.1.1.2.2.2.2.2.2.2.2.2.2.2.2.2.1,a.1.1.2.2.2.2.2.2.2.2.2.2.2.2.2.2.1,a.1.1.2.2.2.2.2.2.2.2.2.2.2.2.2.2.2.1,a.1.1.2.2.2.2.2.2.2.2.2.2.2.2.2.2.2.2.1,a.1.1.2.2.2.2.2.2.2.2.2.2.2.2.2.2.2.2.2.1,a.1.1.2.2.2.2.2.2.2.2.2.2.2.2.2.2.2.2.2.2.1,a.1.1.2.2.2.2.2.2.2.2.2.2.2.2.2.2.2.2.2.2.2.1,a.2),((),(),(),(),(),(),0,0,0,0,(),0,0,0,0,0,(0,0),0,(0,0),0,(),(),()),[],());bif e h then let b:=g h;some ((((b.2.1.1,b.2.1.2.1,b.2.1.2.2.1,()),(b.2.1.2.2.2.1,b.2.1.2.2.2.2.1,()),b.2.1.2.2.2.2.2.1,(((b.2.1.2.2.2.2.2.2.1,b.2.1.2.2.2.2.2.2.2.1,()),(b.2.1.2.2.2.2.2.2.2.2.1,b.2.1.2.2.2.2.2.2.2.2.2.1,()),()),b.2.1.2.2.2.2.2.2.2.2.2.2.1,((b.2.1.2.2.2.2.2.2.2.2.2.2.2.1,b.2.1.2.2.2.2.2.2.2.2.2.2.2.2.1,()),(b.2.1.2.2.2.2.2.2.2.2.2.2.2.2.2.1,b.2.1.2.2.2.2.2.2.2.2.2.2.2.2.2.2.1,()),()),()),()),b.2.1.2.2.2.2.2.2.2.2.2.2.2.2.2.2.2),b.2.2.2)else none else none
theorem g7g (a b c d e g x) :a0t (g4U a b c d e g) (a0b Tryz.f10) (a1a R10) (a0M A10 x) []=r10 a b c d e g x:=by kernel_rfl
def F10 (x:Den A10):OD R10:=r10 K36 G36 K27 G27 b3E b3F x
def K10 (x:Den A10):Bool:=(F10 x).isSome
def G10 (x:Den A10):Den R10:=(F10 x).getD (zero R10)
theorem g3L:a0k Tryz.prog (10,a0a A10 R10 K10 G10):=a1d (a0v mixed a0x a0w (.cons f3k (.cons g3K .nil))) (a1H Tryz.func10 rfl rfl rfl (by kernel_rfl) (a0y (l:=[e4j]) (by kernel_rfl) (.cons (a0o rfl (a0q (sh:=c6N) (shX:=c3R) (fun f v=>e8d K36 G36 K27 G27 b3E b3F f v) e0P (((),((),((),()))),(([],([],([],([],([],([],(0,(0,(0,(0,([],(0,(0,(0,(0,(0,((0,0),(0,((0,0),(0,([],([],())))))))))))))))))))))),(((),((),((),((),((),((),(0,(0,(0,(0,((),(0,(0,(0,(0,(0,((0,0),(0,((0,0),(0,((),((),())))))))))))))))))))))),([],())))))) (.nil)))) fun x=>g7g K36 G36 K27 G27 b3E b3F x
abbrev I31:Sg:=⟨[.ptr 0],[.box (a2X)]⟩
abbrev O31:Sg:=⟨[.val (S40)],[.box (a2X)]⟩
noncomputable def f6Y (c d e g h i j k l m a b n o) :=a0m tab eqs [(73,a0j true I73 O73 c d),(74,a0j true I74 O74 e g),(75,a0j true I75 O75 h i),(76,a0j true I76 O76 j k),(77,a0j true I77 O77 l m),(78,a0j true a3F a4r a b),(79,a0j true I79 O79 n o)] 48 [.cell 2 41] [] [] [] [] [.frzBox 2]
def r31 (D:KI I73) (E:GI I73 O73) (F:KI I74) (G:GI I74 O74) (H:KI I75) (I:GI I75 O75) (J:KI I76) (z:GI I76 O76) (d:KI I77) (e:GI I77 O77) (k:KI a3F) (l:GI a3F a4r) (o:KI I79) (p:GI I79 O79) (x:I31.den):Option (O31.den):=bif D (((),()),x.2) then let u:=E (((),()),x.2);bif F (((),()),u.2) then let w:=G (((),()),u.2);bif H (((),()),w.2.1,()) then let n:=I (((),()),w.2.1,());bif J (((),()),n.2.1,()) then let K:=(length n.2.2.1:Int);bif decide (K>0) then let i:=z (((),()),n.2.1,());bif d (((),2,()),i.2) then let q:=e (((),2,()),i.2);bif q.1.1 then bif decide (0<=0)&&decide (0<K) then let A:=getD n.2.2.1 (toNat 0) (zero S68);let c:=set n.2.2.1 (toNat 0) (A.1,0,A.2.2);bif decide (0<=0)&&decide (0<(length c:Int)) then let y:=getD c (toNat 0) (zero S68);let a:=set c (toNat 0) (y.1,y.2.1,1120403456,y.2.2.2);bif decide (0<=0)&&decide (0<(length a:Int)) then let r:=getD a (toNat 0) (zero S68);let b:=set a (toNat 0) (r.1,r.2.1,r.2.2.1,0,r.2.2.2.2);bif decide (0<=0)&&decide (0<(length b:Int)) then bif d (((),30,()),q.2) then let j:=e (((),30,()),q.2);bif j.1.1 then bif k (((),()),j.2) then let g:=l (((),()),j.2);bif d (((),30,()),g.2) then let m:=e (((),30,()),g.2);bif m.1.1 then bif o (((),()),m.2) then let B:=p (((),()),m.2);let s:=getD b (toNat 0) (zero S68);some (((g.1.1,B.1.1,set b (toNat 0) (s.1,s.2.1,s.2.2.1,s.2.2.2.1,180,()),i.1),()),B.2)else none else let h:=getD b (toNat 0) (zero S68);some (((g.1.1,w.2.2,set b (toNat 0) (h.1,h.2.1,h.2.2.1,h.2.2.2.1,180,()),i.1),()),m.2)else none else none else bif d (((),30,()),j.2) then let g:=e (((),30,()),j.2);bif g.1.1 then bif o (((),()),g.2) then let m:=p (((),()),g.2);let h:=getD b (toNat 0) (zero S68);some (((u.1.1,m.1.1,set b (toNat 0) (h.1,h.2.1,h.2.2.1,h.2.2.2.1,180,()),i.1),()),m.2)else none else let t:=getD b (toNat 0) (zero S68);some (((u.1.1,w.2.2,set b (toNat 0) (t.1,t.2.1,t.2.2.1,t.2.2.2.1,180,()),i.1),()),g.2)else none else none else none else none else none else none else bif d (((),30,()),q.2) then let c:=e (((),30,()),q.2);bif c.1.1 then bif k (((),()),c.2) then let a:=l (((),()),c.2);bif d (((),30,()),a.2) then let b:=e (((),30,()),a.2);bif b.1.1 then bif o (((),()),b.2) then let j:=p (((),()),b.2);some (((a.1.1,j.1.1,n.2.2.1,i.1),()),j.2)else none else some (((a.1.1,w.2.2,n.2.2.1,i.1),()),b.2)else none else none else bif d (((),30,()),c.2) then let a:=e (((),30,()),c.2);bif a.1.1 then bif o (((),()),a.2) then let b:=p (((),()),a.2);some (((u.1.1,b.1.1,n.2.2.1,i.1),()),b.2)else none else some (((u.1.1,w.2.2,n.2.2.1,i.1),()),a.2)else none else none else none else let i:=z (((),()),n.2.1,());bif d (((),30,()),i.2) then let q:=e (((),30,()),i.2);bif q.1.1 then bif k (((),()),q.2) then let c:=l (((),()),q.2);bif d (((),30,()),c.2) then let a:=e (((),30,()),c.2);bif a.1.1 then bif o (((),()),a.2) then let b:=p (((),()),a.2);some (((c.1.1,b.1.1,n.2.2.1,i.1),()),b.2)else none else some (((c.1.1,w.2.2,n.2.2.1,i.1),()),a.2)else none else none else bif d (((),30,()),q.2) then let c:=e (((),30,()),q.2);bif c.1.1 then bif o (((),()),c.2) then let a:=p (((),()),c.2);some (((u.1.1,a.1.1,n.2.2.1,i.1),()),a.2)else none else some (((u.1.1,w.2.2,n.2.2.1,i.1),()),c.2)else none else none else none else none else none else none
theorem g7h (c d e g h i j k l m a b n o x) :a1W (f6Y c d e g h i j k l m a b n o) (a0b Tryz.f31) I31 O31 x=r31 c d e g h i j k l m a b n o x:=by kernel_rfl
def F31 (x:I31.den):Option (O31.den):=r31 K73 G73 K74 G74 K75 G75 K76 G76 K77 G77 d4H d4I K79 G79 x
def K31 (x:I31.den):Bool:=(F31 x).isSome
def G31 (x:I31.den):O31.den:=(F31 x).getD (a1l O31)
theorem f3V:a1F Tryz.prog (f6Y K73 G73 K74 G74 K75 G75 K76 G76 K77 G77 d4H d4I K79 G79):=a0v mixed a0x a0w (.cons f9w (.cons f1j (.cons f9H (.cons f9T (.cons b2n (.cons e6Z (.cons f9Y .nil)))))))
theorem g4V:a6z Tryz.prog 31 (f6Y K73 G73 K74 G74 K75 G75 K76 G76 K77 G77 d4H d4I K79 G79) (a0b Tryz.f31):=a1H Tryz.func31 rfl rfl rfl (by kernel_rfl) (a0O (by kernel_rfl))
theorem g3M:a0k Tryz.prog (31,a0j true I31 O31 K31 G31):=a1p f3V g4V true fun x=>g7h K73 G73 K74 G74 K75 G75 K76 G76 K77 G77 d4H d4I K79 G79 x
abbrev A9:Ty:=.cons (.slice (.int .u8)) (.nil)
abbrev R9:Ty:=.cons (S46) (.cons (.slice (.str)) (.nil))
noncomputable def Γ9 (a b c d e g h i j k l m) :=a0m tab eqs [(30,a0j false I30 O30 a b),(31,a0j true I31 O31 c d),(33,a0j true I33 O33 e g),(34,a0j true I34 O34 h i),(32,a0j false I32 O32 j k),(35,a0j true I35 O35 l m)] 25 [.cell 2 47,.tmp 3] [] [] [] [] [.frzBox 2,.frz 3]
def r9 (e:KI I30) (g:GI I30 O30) (h:KI I31) (i:GI I31 O31) (j:KI I33) (k:GI I33 O33) (l:KI I34) (m:GI I34 O34) (n:KI I32) (o:GI I32 O32) (p:KI I35) (q:GI I35 O35) (x:Den A9):OD R9:=bif e (x,()) then let r:=g (x,());bif h (((),()),r.2) then let b:=i (((),()),r.2);bif j (((),60,()),b.2) then let c:=k (((),60,()),b.2);bif l (((),3000,()),c.2) then let d:=m (((),3000,()),c.2);bif n ((b.1.1,c.1.1,d.1),()) then bif p (((),b.1),d.2) then let a:=o ((b.1.1,c.1.1,d.1),());some ((((a.2.1,a.2.2.1,a.2.2.2.1,()),(a.2.2.2.2.1,a.2.2.2.2.2.1,()),a.2.2.2.2.2.2.1,(((a.1.1.2.2.2.2.2.2.1,a.1.1.2.2.2.2.2.2.2.1,()),(a.1.1.2.2.2.2.2.2.2.2.1,a.1.1.2.2.2.2.2.2.2.2.2.1,()),()),a.2.2.2.2.2.2.2.1,((a.1.1.2.2.2.2.2.2.2.2.2.2.2.1,a.1.1.2.2.2.2.2.2.2.2.2.2.2.2.1,()),(a.1.1.2.2.2.2.2.2.2.2.2.2.2.2.2.1,a.1.1.2.2.2.2.2.2.2.2.2.2.2.2.2.2.1,()),()),()),()),a.1.1.2.2.2.2.2.2.2.2.2.2.2.2.2.2.2),(q (((),b.1),d.2)).2.2)else none else none else none else none else none else none
theorem ev9 (a b c d e g h i j k l m x) :a0t (Γ9 a b c d e g h i j k l m) (a0b Tryz.f9) (a1a R9) (a0M A9 x) []=r9 a b c d e g h i j k l m x:=by kernel_rfl
def F9 (x:Den A9):OD R9:=r9 K30 G30 K31 G31 K33 G33 K34 G34 K32 G32 K35 G35 x
def K9 (x:Den A9):Bool:=(F9 x).isSome
def G9 (x:Den A9):Den R9:=(F9 x).getD (zero R9)
theorem g4W:a1F Tryz.prog (Γ9 K30 G30 K31 G31 K33 G33 K34 G34 K32 G32 K35 G35):=a0v mixed a0x a0w (.cons f1g (.cons g3M (.cons f1t (.cons a4M (.cons f8p (.cons g0a .nil))))))
theorem is9:a6z Tryz.prog 9 (Γ9 K30 G30 K31 G31 K33 G33 K34 G34 K32 G32 K35 G35) (a0b Tryz.f9):=a1H Tryz.func9 rfl rfl rfl (by kernel_rfl) (a0O (by kernel_rfl))
theorem g7i:a0k Tryz.prog (9,a0a A9 R9 K9 G9):=a1d g4W is9 fun x=>ev9 K30 G30 K31 G31 K33 G33 K34 G34 K32 G32 K35 G35 x
abbrev A4:Ty:=.cons (.slice (.int .u8)) (.nil)
abbrev R4:Ty:=.cons (.bool) (.nil)
abbrev f6Z:Type:=((Unit×(Unit×(Int×(Int×(Int×Unit)))))×(((List (Den (.flt .f32)))×((List (Den (.int .i64)))×((List (Den (.slice (.flt .f32))))×((List (Den (a0Y)))×((List (Den (.int .i64)))×((List (Den (S68)))×(Int×(Int×(Int×(Int×((List (Den (a1U)))×(Int×(Int×(Int×(Int×(Int×((Nat×Nat)×(Int×((Nat×Nat)×(Int×((List (Den (S97)))×((List (Den (.str)))×Unit))))))))))))))))))))))×(((List (Den (.flt .f32)))×((List (Den (.int .i64)))×((List (Den (.slice (.flt .f32))))×((List (Den (a0Y)))×((List (Den (.int .i64)))×((List (Den (S68)))×(Int×(Int×(Int×(Int×((List (Den (a1U)))×(Int×(Int×(Int×(Int×(Int×((Nat×Nat)×(Int×((Nat×Nat)×(Int×((List (Den (S97)))×((List (Den (.str)))×Unit))))))))))))))))))))))×Unit)))
abbrev g7j:Type:=((Unit×(Unit×(Int×(Int×Unit))))×(((List (Den (.flt .f32)))×((List (Den (.int .i64)))×((List (Den (.slice (.flt .f32))))×((List (Den (a0Y)))×((List (Den (.int .i64)))×((List (Den (S68)))×(Int×(Int×(Int×(Int×((List (Den (a1U)))×(Int×(Int×(Int×(Int×(Int×((Nat×Nat)×(Int×((Nat×Nat)×(Int×((List (Den (S97)))×((List (Den (.str)))×Unit))))))))))))))))))))))×(((List (Den (.flt .f32)))×((List (Den (.int .i64)))×((List (Den (.slice (.flt .f32))))×((List (Den (a0Y)))×((List (Den (.int .i64)))×((List (Den (S68)))×(Int×(Int×(Int×(Int×((List (Den (a1U)))×(Int×(Int×(Int×(Int×(Int×((Nat×Nat)×(Int×((Nat×Nat)×(Int×((List (Den (S97)))×((List (Den (.str)))×Unit))))))))))))))))))))))×Unit)))
abbrev g7k:Type:=((Bool×Unit)×Unit)
def r4 (l:KA A8) (m:GA A8 R8) (n:KA A9) (o:GA A9 R9) (e:KA A10) (g:GA A10 R10) (p:KA A16) (q:GA A16 R16) (r:KA A17) (s:GA A17 R17) (h:f6Z->Bool) (i:f6Z->g7j) (j:f6Z->Bool) (k:f6Z->g7k) (x:Den A4):OD R4:=bif l x then bif (m x).1 then some (true,())else bif n x then let a:=o x;bif e a then let b:=g a;let d:=(((),(),0,0,0,()),(a.1.1.1.1,a.1.1.1.2.1,a.1.1.1.2.2.1,a.1.1.2.1.1,a.1.1.2.1.2.1,a.1.1.2.2.1,a.1.1.2.2.2.1.1.1.1,a.1.1.2.2.2.1.1.1.2.1,a.1.1.2.2.2.1.1.2.1.1,a.1.1.2.2.2.1.1.2.1.2.1,a.1.1.2.2.2.1.2.1,a.1.1.2.2.2.1.2.2.1.1.1,a.1.1.2.2.2.1.2.2.1.1.2.1,a.1.1.2.2.2.1.2.2.1.2.1.1,a.1.1.2.2.2.1.2.2.1.2.1.2.1,a.1.2),(b.1.1.1.1,b.1.1.1.2.1,b.1.1.1.2.2.1,b.1.1.2.1.1,b.1.1.2.1.2.1,b.1.1.2.2.1,b.1.1.2.2.2.1.1.1.1,b.1.1.2.2.2.1.1.1.2.1,b.1.1.2.2.2.1.1.2.1.1,b.1.1.2.2.2.1.1.2.1.2.1,b.1.1.2.2.2.1.2.1,b.1.1.2.2.2.1.2.2.1.1.1,b.1.1.2.2.2.1.2.2.1.1.2.1,b.1.1.2.2.2.1.2.2.1.2.1.1,b.1.1.2.2.2.1.2.2.1.2.1.2.1,b.1.2),());bif h d then bif j d then some (k d).1 else let c:=i d;bif c.2.2.1.2.2.2.2.2.2.2.2.2.2.2.2.2.2.2.1==(wrap .i64 (c.2.1.2.2.2.2.2.2.2.2.2.2.2.2.2.2.2.1+c.1.2.2.1)) then some ((length c.2.2.1.2.2.2.2.2.2.2.2.2.2.2.2.2.2.2.2.2.2.2.2.1:Int)==c.1.2.2.2.1,())else some (false,())else none else none else none else none
noncomputable def N31 (p75:KI I75) (Q75:QI I75 O75) (e75:Nonempty (Ch I75 O75 p75 Q75)) (a4s:KI a3F) (a6t:QI a3F a4r) (b7P:Nonempty (Ch a3F a4r a4s a6t)) (p79:KI I79) (Q79:QI I79 O79) (e79:Nonempty (Ch I79 O79 p79 Q79)):a9F:=mkN [(75,a3B true I75 O75 p75 Q75 e75),(78,a3B true a3F a4r a4s a6t b7P),(79,a3B true I79 O79 p79 Q79 e79)] []
noncomputable def g4X (z:KI I73) (A:GI I73 O73) (B:KI I74) (D:GI I74 O74) (I:KI I75) (J:GI I75 O75) (E:KI I76) (u:GI I76 O76) (d:KI I77) (e:GI I77 O77) (F:KI a3F) (G:GI a3F a4r) (K:KI I79) (L:GI I79 O79) (p75:KI I75) (Q75:QI I75 O75) (e75:Nonempty (Ch I75 O75 p75 Q75)) (a4s:KI a3F) (a6t:QI a3F a4r) (b7P:Nonempty (Ch a3F a4r a4s a6t)) (p79:KI I79) (Q79:QI I79 O79) (e79:Nonempty (Ch I79 O79 p79 Q79)) (h:O31.den->Option Unit) (x:I31.den):Option Unit:=bif z (((),()),x.2) then let r:=A (((),()),x.2);bif B (((),()),r.2) then a3z fun(c75_6:Ch I75 O75 p75 Q75)=>let s:=D (((),()),r.2);bif p75 (((),()),s.2.1,()) then let m:=c75_6.val (((),()),s.2.1,());bif E (((),()),m.2.1,()) then let H:=(length m.2.2.1:Int);bif decide (H>0) then let j:=u (((),()),m.2.1,());bif d (((),2,()),j.2) then let n:=e (((),2,()),j.2);bif n.1.1 then bif decide (0<=0)&&decide (0<H) then let w:=getD m.2.2.1 (toNat 0) (zero S68);let c:=set m.2.2.1 (toNat 0) (w.1,0,w.2.2);bif decide (0<=0)&&decide (0<(length c:Int)) then let t:=getD c (toNat 0) (zero S68);let a:=set c (toNat 0) (t.1,t.2.1,1120403456,t.2.2.2);bif decide (0<=0)&&decide (0<(length a:Int)) then let o:=getD a (toNat 0) (zero S68);let b:=set a (toNat 0) (o.1,o.2.1,o.2.2.1,0,o.2.2.2.2);bif decide (0<=0)&&decide (0<(length b:Int)) then bif d (((),30,()),n.2) then let k:=e (((),30,()),n.2);bif k.1.1 then a3z fun(c2078_30:Ch a3F a4r a4s a6t)=>bif a4s (((),()),k.2) then let g:=c2078_30.val (((),()),k.2);bif d (((),30,()),g.2) then let l:=e (((),30,()),g.2);bif l.1.1 then a3z fun(c79_38:Ch I79 O79 p79 Q79)=>bif p79 (((),()),l.2) then let y:=c79_38.val (((),()),l.2);let p:=getD b (toNat 0) (zero S68);h ((((g.1.1,y.1.1,set b (toNat 0) (p.1,p.2.1,p.2.2.1,p.2.2.2.1,180,()),j.1),()),y.2))else none else let i:=getD b (toNat 0) (zero S68);h ((((g.1.1,s.2.2,set b (toNat 0) (i.1,i.2.1,i.2.2.1,i.2.2.2.1,180,()),j.1),()),l.2))else none else none else bif d (((),30,()),k.2) then let g:=e (((),30,()),k.2);bif g.1.1 then a3z fun(c79_34:Ch I79 O79 p79 Q79)=>bif p79 (((),()),g.2) then let l:=c79_34.val (((),()),g.2);let i:=getD b (toNat 0) (zero S68);h ((((r.1.1,l.1.1,set b (toNat 0) (i.1,i.2.1,i.2.2.1,i.2.2.2.1,180,()),j.1),()),l.2))else none else let q:=getD b (toNat 0) (zero S68);h ((((r.1.1,s.2.2,set b (toNat 0) (q.1,q.2.1,q.2.2.1,q.2.2.2.1,180,()),j.1),()),g.2))else none else none else none else none else none else none else bif d (((),30,()),n.2) then let c:=e (((),30,()),n.2);bif c.1.1 then a3z fun(c2078_22:Ch a3F a4r a4s a6t)=>bif a4s (((),()),c.2) then let a:=c2078_22.val (((),()),c.2);bif d (((),30,()),a.2) then let b:=e (((),30,()),a.2);bif b.1.1 then a3z fun(c79_30:Ch I79 O79 p79 Q79)=>bif p79 (((),()),b.2) then let k:=c79_30.val (((),()),b.2);h ((((a.1.1,k.1.1,m.2.2.1,j.1),()),k.2))else none else h ((((a.1.1,s.2.2,m.2.2.1,j.1),()),b.2))else none else none else bif d (((),30,()),c.2) then let a:=e (((),30,()),c.2);bif a.1.1 then a3z fun(c79_26:Ch I79 O79 p79 Q79)=>bif p79 (((),()),a.2) then let b:=c79_26.val (((),()),a.2);h ((((r.1.1,b.1.1,m.2.2.1,j.1),()),b.2))else none else h ((((r.1.1,s.2.2,m.2.2.1,j.1),()),a.2))else none else none else none else let j:=u (((),()),m.2.1,());bif d (((),30,()),j.2) then let n:=e (((),30,()),j.2);bif n.1.1 then a3z fun(c2078_18:Ch a3F a4r a4s a6t)=>bif a4s (((),()),n.2) then let c:=c2078_18.val (((),()),n.2);bif d (((),30,()),c.2) then let a:=e (((),30,()),c.2);bif a.1.1 then a3z fun(c79_26:Ch I79 O79 p79 Q79)=>bif p79 (((),()),a.2) then let b:=c79_26.val (((),()),a.2);h ((((c.1.1,b.1.1,m.2.2.1,j.1),()),b.2))else none else h ((((c.1.1,s.2.2,m.2.2.1,j.1),()),a.2))else none else none else bif d (((),30,()),n.2) then let c:=e (((),30,()),n.2);bif c.1.1 then a3z fun(c79_22:Ch I79 O79 p79 Q79)=>bif p79 (((),()),c.2) then let a:=c79_22.val (((),()),c.2);h ((((r.1.1,a.1.1,m.2.2.1,j.1),()),a.2))else none else h ((((r.1.1,s.2.2,m.2.2.1,j.1),()),c.2))else none else none else none else none else none else none
theorem g3N (c d e g i j k l m n a b o p p75 Q75 e75 a4s a6t b7P p79 Q79 e79 h x) :a3A (f6Y c d e g i j k l m n a b o p) (N31 p75 Q75 e75 a4s a6t b7P p79 Q79 e79) (a0b Tryz.f31) I31 O31 h x=g4X c d e g i j k l m n a b o p p75 Q75 e75 a4s a6t b7P p79 Q79 e79 h x:=by kernel_rfl
noncomputable def N9 (p31:KI I31) (Q31:QI I31 O31) (e31:Nonempty (Ch I31 O31 p31 Q31)):a9F:=mkN [(31,a3B true I31 O31 p31 Q31 e31)] []
noncomputable def rN9 (e:KI I30) (g:GI I30 O30) (r:KI I31) (s:GI I31 O31) (i:KI I33) (j:GI I33 O33) (k:KI I34) (l:GI I34 O34) (m:KI I32) (n:GI I32 O32) (o:KI I35) (p:GI I35 O35) (p31:KI I31) (Q31:QI I31 O31) (e31:Nonempty (Ch I31 O31 p31 Q31)) (h:Den R9->Option Unit) (x:Den A9):Option Unit:=bif e (x,()) then a3z fun(c31_4:Ch I31 O31 p31 Q31)=>let q:=g (x,());bif p31 (((),()),q.2) then let b:=c31_4.val (((),()),q.2);bif i (((),60,()),b.2) then let c:=j (((),60,()),b.2);bif k (((),3000,()),c.2) then let d:=l (((),3000,()),c.2);bif m ((b.1.1,c.1.1,d.1),()) then bif o (((),b.1),d.2) then let a:=n ((b.1.1,c.1.1,d.1),());h (((((a.2.1,a.2.2.1,a.2.2.2.1,()),(a.2.2.2.2.1,a.2.2.2.2.2.1,()),a.2.2.2.2.2.2.1,(((a.1.1.2.2.2.2.2.2.1,a.1.1.2.2.2.2.2.2.2.1,()),(a.1.1.2.2.2.2.2.2.2.2.1,a.1.1.2.2.2.2.2.2.2.2.2.1,()),()),a.2.2.2.2.2.2.2.1,((a.1.1.2.2.2.2.2.2.2.2.2.2.2.1,a.1.1.2.2.2.2.2.2.2.2.2.2.2.2.1,()),(a.1.1.2.2.2.2.2.2.2.2.2.2.2.2.2.1,a.1.1.2.2.2.2.2.2.2.2.2.2.2.2.2.2.1,()),()),()),()),a.1.1.2.2.2.2.2.2.2.2.2.2.2.2.2.2.2),(p (((),b.1),d.2)).2.2))else none else none else none else none else none else none
theorem g7l (a b c d e g i j k l m n p31 Q31 e31 h x) :a6p (Γ9 a b c d e g i j k l m n) (N9 p31 Q31 e31) (a0b Tryz.f9) (a6q R9 h) (a0M A9 x) []=rN9 a b c d e g i j k l m n p31 Q31 e31 h x:=by kernel_rfl
def a6v (b:Den S40):Prop:=e3T b.1 /\ a7O b.2.1 /\ (a0W b.2.2.1 /\ b.2.2.1.length<=13) /\ b.2.2.2.1.2.1.length<=22
def p31 (x:I31.den):Bool:=e0s x.2.1
def Q31 (x:I31.den) (y:O31.den):Prop:=a0h y.2.1 /\ a6v y.1.1
theorem d5z:a7O ([],[],()):=⟨zero_le _,zero_le _⟩
theorem e0Q:e3T ([],[],[],()):=⟨zero_le _,zero_le _,zero_le _,fun _ h=>by cases h⟩
theorem e31:Nonempty (Ch I31 O31 p31 Q31):=⟨⟨fun _=>((zero S40,()),(e3P,())),fun _ _=>⟨a7b,e0Q,d5z,⟨(fun _ h=>by cases h),zero_le _⟩,zero_le _⟩⟩⟩
noncomputable def e0R (h:O31.den->Option Unit) (c:O77.den) (P:Den S27) (T:Den S30) (S:List (Den S68)) (C:Den S38×Unit):Option Unit:=
 bif c.1.1 then
  a3z fun(b:Ch I79 O79 p79 Q79)=>
   bif p79 (((),()),c.2)then h (((P,(b.val (((),()),c.2)).1.1,S,C),()),(b.val (((),()),c.2)).2)else none
 else h (((P,T,S,C),()),c.2)
noncomputable def e4k (h:O31.den->Option Unit) (c:(List Int×Int×Int×Unit)×Unit) (P:Den S27) (T:Den S30) (S:List (Den S68)) (C:Den S38×Unit):Option Unit :=
 bif K77 (((),30,()),c)then
  bif (G77 (((),30,()),c)).1.1 then
   a3z fun(a:Ch a3F a4r a4s a6t)=>
    bif a4s (((),()),(G77 (((),30,()),c)).2)then
     bif K77 (((),30,()),(a.val (((),()),(G77 (((),30,()),c)).2)).2)then
      e0R h (G77 (((),30,()),(a.val (((),()),(G77 (((),30,()),c)).2)).2)) (a.val (((),()),(G77 (((),30,()),c)).2)).1.1 T S C
     else none
    else none
  else
   bif K77 (((),30,()),(G77 (((),30,()),c)).2)then
    e0R h (G77 (((),30,()),(G77 (((),30,()),c)).2)) P T S C
   else none
 else none
theorem c6O {h:O31.den->Option Unit} {c:O77.den} {P:Den S27} {T:Den S30} {S:List (Den S68)} {C:Den S38×Unit} (hc:a0h c.2.1) (hP:e3T P) (hT:a7O T) (hS:a0W S /\ S.length<=13) (hC:C.1.2.1.length<=22)
 (hh:∀y:O31.den,a0h y.2.1 /\ a6v y.1.1->h y=some ()):e0R h c P T S C=some ():=by
 unfold e0R;refine a2g (fun _=>?_) (fun _=>hh _ ⟨hc,hP,hT,hS,hC⟩)
 haveI:=e79
 refine a0B fun b=>?_
 have hp:p79 (((),()),c.2)=true:=a1y.2 hc;obtain⟨q1,q2⟩:=b.2 _ hp;exact a0G hp (hh _ ⟨q1,hP,q2,hS,hC⟩)
theorem b1Y {h:O31.den->Option Unit} {c:(List Int×Int×Int×Unit)×Unit} {P:Den S27} {T:Den S30} {S:List (Den S68)} {C:Den S38×Unit} (hc:a0h c.1) (hP:e3T P) (hT:a7O T) (hS:a0W S /\ S.length<=13) (hC:C.1.2.1.length<=22)
 (hh:∀y:O31.den,a0h y.2.1 /\ a6v y.1.1->h y=some ()):e4k h c P T S C=some ():=by
 unfold e4k;refine a0G (a2i _ hc) ?_;have c1:a0h (G77 (((),30,()),c)).2.1:=a0f _ hc;generalize G77 (((),30,()),c)=A at *;refine a2g (fun _=>?_) (fun _=>?_)
 ·haveI:=b7P
  refine a0B fun a=>?_
  have hp:a4s (((),()),A.2)=true:=a1y.2 c1;obtain⟨q1,q2⟩:=a.2 _ hp;refine a0G hp (a0G (a2i _ q1) (c6O (a0f _ q1) q2 hT hS hC hh))
 ·exact a0G (a2i _ c1) (c6O (a0f _ c1) hP hT hS hC hh)
theorem c1K.m {ws:List Nat} {as_:List Int} {sp:List (List Nat)} (h:c1K ws as_ sp):e3T (ws,as_,sp,()):=by
 obtain⟨h1,h2,h3,h4,h5,h6,h7⟩:=h;exact⟨by show ws.length<=14;omega,h2,by show sp.length<=14;omega,fun r hr=>by rw[h7 r hr];exact h2⟩
set_option maxRecDepth 100000 in
theorem g3O:a2V Tryz.prog 31 (a3B true I31 O31 p31 Q31 e31):=b9c f3V (N:=N31 p75 Q75 e75 a4s a6t b7P p79 Q79 e79) (a2W ⟨g3k,e7b,g3n,trivial⟩) g4V a1C fun x hx k hk=>by
 have hk:∀y:O31.den,a0h y.2.1 /\ a6v y.1.1->k y=some ():=hk;have h:a0h x.2.1:=a1y.1 hx;refine Eq.trans (g3N _ _ _ _ _ _ _ _ _ _ _ _ _ _ _ _ _ _ _ _ _ _ _ k x) ?_;unfold g4X;dsimp only;refine a0G (f3T _ h) ?_;obtain⟨c1,q1⟩:=f3U (((),()),x.snd) h;generalize G73 (((),()),x.snd)=v1 at *;refine a0G (e3R _ c1) ?_;obtain⟨c3,q3,_,q4⟩:=e3S (((),()),v1.snd) c1;generalize G74 (((),()),v1.snd)=v3 at *;have hT:a7O v3.snd.snd:=⟨by have:=q3.2;show v3.2.2.1.length<=21;omega,by show v3.2.2.2.1.length<=6;omega⟩;have hP:e3T v1.fst.fst:=q1.m
 haveI:=e75
 refine a0B fun g=>?_
 have hp:p75 (((),()),v3.snd.fst,())=true:=a1y.2 c3;obtain⟨c5,gs,gl⟩:=g.2 _ hp;refine a0G hp ?_;generalize g.val (((),()),v3.snd.fst,())=v5 at *;refine a0G (f3u _ c5) ?_;obtain⟨c7,q7⟩:=a3f _ (c1u (((),()),v5.snd.fst,()) c5);change a0h (G76 _).2.1 at c7;change (G76 _).1.1.2.1.length<=22 at q7;generalize G76 (((),()),v5.snd.fst,())=v7 at *;refine a2g (fun hl=>?_) (fun _=>?_)
 ·have hl:0<length v5.snd.snd.fst:=by
   have:=of_decide_eq_true hl;omega
  have hat:∀(l:List (Den S68)),a0W l->c3z (getD l (toNat 0) (zero S68)):=fun l h=>h.at _
  have ix:∀n:Nat,0<n->(decide (0<=0)&&decide (0<((n:Nat):Int)))=true:=fun n h=>by simp;omega
  refine a0G (a2i _ c7) ?_;have c9:a0h (G77 (((),2,()),v7.snd)).2.1:=a0f _ c7;generalize G77 (((),2,()),v7.snd)=v9 at *;refine a2g (fun _=>?_) (fun _=>?_)
  ·have z0:I64 0:=b0j;have z180:I64 180:=by unfold I64;decide
   have s1:a0W (set v5.snd.snd.fst (toNat 0) ((getD v5.snd.snd.fst (toNat 0) (zero S68)).fst,0,(getD v5.snd.snd.fst (toNat 0) (zero S68)).snd.snd)):=gs.set (hat _ gs);refine a0G (ix _ hl) ?_;generalize hA:set v5.snd.snd.fst (toNat 0) ((getD v5.snd.snd.fst (toNat 0) (zero S68)).fst,0,(getD v5.snd.snd.fst (toNat 0) (zero S68)).snd.snd)=LA at *;have lA:LA.length=v5.snd.snd.fst.length:=by rw[<- hA,length_set]
   refine a0G (ix _ (by omega)) ?_;have s2:a0W (set LA (toNat 0) ((getD LA (toNat 0) (zero S68)).fst,(getD LA (toNat 0) (zero S68)).snd.fst,1120403456,(getD LA (toNat 0) (zero S68)).snd.snd.snd)):=s1.set (hat _ s1);generalize hB:set LA (toNat 0) ((getD LA (toNat 0) (zero S68)).fst,(getD LA (toNat 0) (zero S68)).snd.fst,1120403456,(getD LA (toNat 0) (zero S68)).snd.snd.snd)=LB at *;have lB:LB.length=LA.length:=by rw[<- hB,length_set]
   refine a0G (ix _ (by omega)) ?_;have s3:a0W (set LB (toNat 0) ((getD LB (toNat 0) (zero S68)).fst,(getD LB (toNat 0) (zero S68)).snd.fst,(getD LB (toNat 0) (zero S68)).snd.snd.fst,0,(getD LB (toNat 0) (zero S68)).snd.snd.snd.snd)):=s2.set ⟨(hat _ s2).1,z0,(hat _ s2).2.2⟩;generalize hC:set LB (toNat 0) ((getD LB (toNat 0) (zero S68)).fst,(getD LB (toNat 0) (zero S68)).snd.fst,(getD LB (toNat 0) (zero S68)).snd.snd.fst,0,(getD LB (toNat 0) (zero S68)).snd.snd.snd.snd)=LC at *;have lC:LC.length=LB.length:=by rw[<- hC,length_set]
   refine a0G (ix _ (by omega)) ?_;have s4:a0W (set LC (toNat 0) ((getD LC (toNat 0) (zero S68)).fst,(getD LC (toNat 0) (zero S68)).snd.fst,(getD LC (toNat 0) (zero S68)).snd.snd.fst,(getD LC (toNat 0) (zero S68)).snd.snd.snd.fst,180,())):=s3.set ⟨(hat _ s3).1,(hat _ s3).2.1,z180⟩;exact b1Y (h:=k) (c:=v9.snd) (P:=v1.fst.fst) (T:=v3.snd.snd) (C:=v7.fst) c9 hP hT ⟨s4,by rw[length_set];omega⟩ q7 hk
  ·exact b1Y (h:=k) (c:=v9.snd) (P:=v1.fst.fst) (T:=v3.snd.snd) (S:=v5.snd.snd.fst) (C:=v7.fst) c9 hP hT ⟨gs,gl⟩ q7 hk
 ·exact b1Y (h:=k) (c:=v7.snd) (P:=v1.fst.fst) (T:=v3.snd.snd) (S:=v5.snd.snd.fst) (C:=v7.fst) c7 hP hT ⟨gs,gl⟩ q7 hk
def bOf (l:List UInt8):ByteArray:=⟨l.toArray⟩
theorem a8U (a b:List UInt8):bOf a++bOf b=bOf (a++b):=by
 apply ByteArray.ext;simp[bOf,ByteArray.data_append]
theorem a2P (a:List UInt8):(bOf a).size=a.length:=by simp[bOf,ByteArray.size]
def dig (u:Nat):List UInt8:=if u=0 then[]else Lib.decDigits u
def dg (u:Nat):UInt8:=UInt8.ofNat (48+u)
theorem c6P {u:Nat} (h:u≠0):dig u=dig (u/10)++[dg (u%10)]:=by
 unfold dig dg;rw[if_neg h,Lib.decDigits];by_cases h1:u<10
 ·rw[dif_pos h1,if_pos (by omega),Nat.mod_eq_of_lt h1];rfl
 ·rw[dif_neg h1,if_neg (by omega)]
theorem c3S:∀(k u:Nat),u<10^k->(dig u).length<=k
 | 0,u,h=>by
   have:u=0:=by simpa using h
   subst this;exact Nat.le_refl 0
 | k+1,u,h=>by
   by_cases h0:u=0
   ·subst h0;exact zero_le _
   ·rw[c6P h0,length_append,List.length_singleton];have:=c3S k (u/10) (by rw[Nat.pow_succ]at h;omega);omega
theorem c6Q (d:Nat) (h:d<10):a9a [IntKind.u8.wrap (IntKind.i64.wrap (48+(d:Int)))]=bOf [dg d]:=by
 have e:∀d:Fin 10,a9a [IntKind.u8.wrap (IntKind.i64.wrap (48+((d:Nat):Int)))]=bOf [dg d]:=by decide
 exact e ⟨d,h⟩
theorem e8f (d:Nat) (h:d<10):f5a ((d:Int),())=some (IntKind.u8.wrap (IntKind.i64.wrap (48+(d:Int))),()):=by
 unfold f5a f8r;have:decide ((d:Int)<10)=true:=by simp;omega
 simp only[this,cond_true]
theorem e0S (n:Int) (b:Bool) (s:List UInt8) (hn:n.natAbs<=9223372036854775808) (hs:s.length+(dig n.natAbs).length<=1000):c4O ((n,b,bOf s,()),())=some ((b,bOf (dig n.natAbs++s),()),()):=by
 refine a0V (q:=c4N e2a e2b) (fun v=>∃(n:Int) (s:List UInt8),v=((n,b,bOf s,()),()) /\ n.natAbs<=9223372036854775808 /\ s.length+(dig n.natAbs).length<=1000)
  (fun v r=>∀(n:Int) (s:List UInt8),v=((n,b,bOf s,()),())->s.length+(dig n.natAbs).length<=1000->r=some ((b,bOf (dig n.natAbs++s),()),())) (fun v=>v.1.1.natAbs) ?_ _ _ ⟨n,s,rfl,hn,hs⟩ (by simp only[d1y];omega) n s rfl hs
 rintro v f ⟨n,s,rfl,hn,hs⟩ ih n' s' he hs';have he1:n=n':=congrArg (fun v=>v.1.1) he;have he2:bOf s=bOf s':=congrArg (fun v=>v.1.2.2.1) he;subst he1;have he3:s=s':=by
  have:=congrArg (fun b=>b.data.toList) he2;simpa[bOf]using this
 subst he3;unfold c4N;dsimp only;by_cases h0:n=0
 ·subst h0;simp[dig]
 ·have e0:(n != 0)=true:=by simpa using h0
  have hd:∀d:Nat,d<10->e2a ((d:Int),())=true /\ e2b ((d:Int),())=(IntKind.u8.wrap (IntKind.i64.wrap (48+(d:Int))),()):=fun d h=>by
   unfold e2a e2b;rw[e8f d h];exact⟨rfl,rfl⟩
  have hm:n.natAbs%10<10:=Nat.mod_lt _ (by decide);have hstep:=c6P (u:=n.natAbs) (by omega);have hq:(Int.tdiv n 10).natAbs=n.natAbs/10:=by rw[Int.natAbs_tdiv];rfl
  have hw:IntKind.i64.wrap (Int.tdiv n 10)=Int.tdiv n 10:=by
   have h1:(Int.tdiv n 10).natAbs<=922337203685477580:=by rw[hq];omega
   rw[w64 (by omega) (by omega)]
  have hlen:(dig n.natAbs).length=(dig (n.natAbs/10)).length+1:=by rw[hstep,length_append,List.length_singleton]
  have fin:f ((Int.tdiv n 10,b,bOf ([dg (n.natAbs%10)]++s),()),())=some ((b,bOf (dig n.natAbs++s),()),()):=by
   have:=ih _ ⟨Int.tdiv n 10,[dg (n.natAbs%10)]++s,rfl,by rw[hq];omega,by rw[hq,length_append,List.length_singleton];omega⟩ (by show(Int.tdiv n 10).natAbs<n.natAbs;rw[hq];omega) (Int.tdiv n 10) ([dg (n.natAbs%10)]++s) rfl (by rw[hq,length_append,List.length_singleton];omega);rw[this,hq,<- List.append_assoc,<- hstep]
  have hsz:decide (ByteArray.size (bOf [dg (n.natAbs%10)])+ByteArray.size (bOf s)<=9223372036854775807)=true:=by
   rw[a2P,a2P,List.length_singleton];exact decide_eq_true (by omega)
  rw[e0,cond_true];by_cases hneg:Int.tmod n 10<0
  ·have e1:decide (Int.tmod n 10<0)=true:=decide_eq_true hneg;have e2:IntKind.i64.wrap (0-Int.tmod n 10)=((n.natAbs%10:Nat):Int):=by
    have h1:(Int.tmod n 10).natAbs=n.natAbs%10:=by rw[Int.natAbs_tmod];rfl
    rw[w64 (by omega) (by omega)];omega
   simp only[e1,cond_true,e2,(hd _ hm).1,(hd _ hm).2];rw[show set (replicate 1 (zero (Ty.int IntKind.u8))) 0 (IntKind.u8.wrap (IntKind.i64.wrap (48+((n.natAbs%10:Nat):Int))))=[IntKind.u8.wrap (IntKind.i64.wrap (48+((n.natAbs%10:Nat):Int)))]from rfl,c6Q _ hm,hsz,cond_true,hw,a8U];exact fin
  ·have e1:decide (Int.tmod n 10<0)=false:=decide_eq_false hneg;have e2:Int.tmod n 10=((n.natAbs%10:Nat):Int):=by
    have h1:(Int.tmod n 10).natAbs=n.natAbs%10:=by rw[Int.natAbs_tmod];rfl
    omega
   simp only[e1,cond_false,e2,(hd _ hm).1,(hd _ hm).2,cond_true];rw[show set (replicate 1 (zero (Ty.int IntKind.u8))) 0 (IntKind.u8.wrap (IntKind.i64.wrap (48+((n.natAbs%10:Nat):Int))))=[IntKind.u8.wrap (IntKind.i64.wrap (48+((n.natAbs%10:Nat):Int)))]from rfl,c6Q _ hm,hsz,cond_true,hw,a8U];exact fin
theorem c3T (n:Int) (hn:n.natAbs<=9223372036854775808):f5b (n,())=some (bOf (Lib.itoa n),()):=by
 have hd:(dig n.natAbs).length<=19:=c3S 19 _ (by omega);unfold f5b f8t;dsimp only;by_cases h0:n=0
 ·subst h0;have:Lib.itoa 0=[48]:=by unfold Lib.itoa;rw[if_neg (by decide),Lib.decDigits,dif_pos (by decide)];rfl
  rw[this];rfl
 ·have e0:(n==0)=false:=by simpa using h0
  have hl:=e0S n (decide (n<0)) [] hn (by simp;omega);have hl':c4O ((n,decide (n<0),{ data:=#[] },()),())=some ((decide (n<0),bOf (dig n.natAbs++[]),()),()):=hl;simp only[e0,cond_false,b5f,b5g,hl',isSome_some,getD_some,cond_true,List.append_nil];have hdig:dig n.natAbs=Lib.decDigits n.natAbs:=if_neg (by omega);by_cases hneg:n<0
  ·have e1:decide (n<0)=true:=decide_eq_true hneg;have e2:decide (ByteArray.size { data:=#[45] }+ByteArray.size (bOf (dig n.natAbs))<=9223372036854775807)=true:=by
    rw[a2P];exact decide_eq_true (by show 1+_<=_;omega)
   simp only[e1,e2,cond_true];have:({ data:=#[45] }:ByteArray)=bOf [45]:=rfl;rw[this,a8U,hdig];unfold Lib.itoa;rw[if_pos hneg];rfl
  ·have e1:decide (n<0)=false:=decide_eq_false hneg;simp only[e1,cond_false];unfold Lib.itoa;rw[if_neg hneg,hdig,show n.natAbs=n.toNat by omega]
theorem a4T (n:Int) (hn:n.natAbs<=9223372036854775808):1<=(Lib.itoa n).length /\ (Lib.itoa n).length<=20:=by
 have hd:(dig n.natAbs).length<=19:=c3S 19 _ (by omega);have h1:∀u:Nat,1<=(Lib.decDigits u).length:=fun u=>by
  rw[Lib.decDigits];split<;>simp
 by_cases h0:n=0
 ·subst h0;have:Lib.itoa 0=[48]:=by unfold Lib.itoa;rw[if_neg (by decide),Lib.decDigits,dif_pos (by decide)];rfl
  rw[this];decide
 ·have hdig:dig n.natAbs=Lib.decDigits n.natAbs:=if_neg (by omega);unfold Lib.itoa;split
  ·rw[List.length_cons,<- hdig];omega
  ·rw[show n.toNat=n.natAbs by omega,<- hdig];have:=h1 n.natAbs;rw[<- hdig]at this;omega
theorem c3U (l:List UInt8) (k:Nat):ByteArray.extract (bOf l) k l.length=bOf (l.drop k):=by
 apply ByteArray.ext;rw[ByteArray.data_extract];apply Array.ext';simp[bOf,ByteArray.size];exact List.take_of_length_le (by rw[List.length_drop];omega)
def e9m (n:Int):List UInt8:=
 if -1000000000<=n /\ n<=1000000000 then(if n<0 then[45]else[])++Lib.itoa ((n.natAbs/1000:Nat):Int)++[46]++(Lib.itoa ((1000+n.natAbs%1000:Nat):Int)).drop 1 else[]
theorem c6R (m:Nat) (sg:List UInt8) (hm:m<=1000000000) (hs:sg.length<=1) {k:OD R83} (h:k=some (bOf (sg++Lib.itoa ((m/1000:Nat):Int)++[46]++(Lib.itoa ((1000+m%1000:Nat):Int)).drop 1),())) :
 (bif d1z (((1000+m%1000:Nat):Int),())then
  bif d1z (((m/1000:Nat):Int),())then
   bif decide (ByteArray.size (bOf sg)+ByteArray.size (b2m (((m/1000:Nat):Int),())).1<=9223372036854775807)then
    bif decide (ByteArray.size (bOf sg++(b2m (((m/1000:Nat):Int),())).1)+ByteArray.size { data:=#[46] }<=9223372036854775807)then
     bif decide (0<=1)&&decide (1<=((ByteArray.size (b2m (((1000+m%1000:Nat):Int),())).1:Nat):Int))&&decide (((ByteArray.size (b2m (((1000+m%1000:Nat):Int),())).1:Nat):Int)<=((ByteArray.size (b2m (((1000+m%1000:Nat):Int),())).1:Nat):Int))then
      bif decide (ByteArray.size (bOf sg++(b2m (((m/1000:Nat):Int),())).1++{ data:=#[46] })+ByteArray.size (ByteArray.extract (b2m (((1000+m%1000:Nat):Int),())).1 (toNat 1) (toNat ((ByteArray.size (b2m (((1000+m%1000:Nat):Int),())).1:Nat):Int)))<=9223372036854775807)then
       some (bOf sg++(b2m (((m/1000:Nat):Int),())).1++{ data:=#[46] }++ByteArray.extract (b2m (((1000+m%1000:Nat):Int),())).1 (toNat 1) (toNat ((ByteArray.size (b2m (((1000+m%1000:Nat):Int),())).1:Nat):Int)),())
      else none
     else none
    else none
   else none
  else none
 else none:OD R83)=k:=by
 have f1:=c3T ((1000+m%1000:Nat):Int) (by omega);have f2:=c3T ((m/1000:Nat):Int) (by omega);obtain⟨l1,u1⟩:=a4T ((1000+m%1000:Nat):Int) (by omega);obtain⟨l2,u2⟩:=a4T ((m/1000:Nat):Int) (by omega);have dot:({ data:=#[46] }:ByteArray)=bOf [46]:=rfl;unfold d1z b2m;rw[f1,f2,h,dot];generalize Lib.itoa ((1000+m%1000:Nat):Int)=A at *;generalize Lib.itoa ((m/1000:Nat):Int)=B at *;simp only[isSome_some,getD_some,cond_true,toNat_natCast,show toNat 1=1 from rfl,a2P,c3U,a8U,length_append,List.length_singleton,List.length_drop];have e1:decide (sg.length+B.length<=9223372036854775807)=true:=decide_eq_true (by omega);have e2:decide (sg.length+B.length+1<=9223372036854775807)=true:=decide_eq_true (by omega);have e3:(decide (0<=1)&&decide (1<=((A.length:Nat):Int))&&decide (((A.length:Nat):Int)<=((A.length:Nat):Int)))=true:=by simp;omega
 have e4:decide (sg.length+B.length+1+(A.length-1)<=9223372036854775807)=true:=decide_eq_true (by omega);simp only[e1,e2,e3,e4,cond_true]
theorem f3W (n:Int):F83 (n,())=some (bOf (e9m n),()):=by
 unfold F83 r83 e9m;have k51:K51 (n,-1000000000,1000000000,())=true:=by unfold K51;rw[c1n];rfl
 have g51:(G51 (n,-1000000000,1000000000,())).1=(decide ((-1000000000:Int)<=n)&&decide (n<=1000000000)):=by unfold G51;rw[c1n];rfl
 dsimp only;rw[k51,cond_true,g51];by_cases hin:(-1000000000:Int)<=n /\ n<=1000000000
 ·have e0:(decide ((-1000000000:Int)<=n)&&decide (n<=1000000000))=true:=by rw[decide_eq_true hin.1,decide_eq_true hin.2];rfl
  rw[e0,Bool.not_true,cond_false,if_pos hin];by_cases hneg:n<0
  ·have e1:decide (n<0)=true:=decide_eq_true hneg;have e2:IntKind.i64.wrap (0-n)=((n.natAbs:Nat):Int):=by rw[w64 (by omega) (by omega)];omega
   have e3:IntKind.i64.wrap (1000+Int.tmod ((n.natAbs:Nat):Int) 1000)=((1000+n.natAbs%1000:Nat):Int):=by
    rw[Int.tmod_eq_emod_of_nonneg (by omega),w64 (by omega) (by omega)];omega
   have e4:IntKind.i64.wrap (Int.tdiv ((n.natAbs:Nat):Int) 1000)=((n.natAbs/1000:Nat):Int):=by
    rw[Int.tdiv_eq_ediv_of_nonneg (by omega),w64 (by omega) (by omega)];omega
   rw[e1,cond_true,e2,e3,e4,if_pos hneg];exact c6R n.natAbs [45] (by omega) (by simp) rfl
  ·have e1:decide (n<0)=false:=decide_eq_false hneg;have hn:n=((n.natAbs:Nat):Int):=by omega
   have e3:IntKind.i64.wrap (1000+Int.tmod n 1000)=((1000+n.natAbs%1000:Nat):Int):=by
    rw[Int.tmod_eq_emod_of_nonneg (by omega),w64 (by omega) (by omega)];omega
   have e4:IntKind.i64.wrap (Int.tdiv n 1000)=((n.natAbs/1000:Nat):Int):=by
    rw[Int.tdiv_eq_ediv_of_nonneg (by omega),w64 (by omega) (by omega)];omega
   rw[e1,cond_false,e3,e4,if_neg hneg];exact c6R n.natAbs [] (by omega) (by simp) rfl
 ·have e0:(decide ((-1000000000:Int)<=n)&&decide (n<=1000000000))=false:=by
   rw[Bool.and_eq_false_iff,decide_eq_false_iff_not,decide_eq_false_iff_not];omega
  rw[e0,Bool.not_false,cond_true,if_neg hin];rfl
theorem e0T (n:Int):(e9m n).length<=50:=by
 unfold e9m;split
 ·obtain⟨l1,u1⟩:=a4T ((1000+n.natAbs%1000:Nat):Int) (by omega);obtain⟨l2,u2⟩:=a4T ((n.natAbs/1000:Nat):Int) (by omega);generalize Lib.itoa ((1000+n.natAbs%1000:Nat):Int)=A at *;generalize Lib.itoa ((n.natAbs/1000:Nat):Int)=B at *;simp only[length_append,List.length_singleton,List.length_drop];split<;>simp<;>omega
 ·exact zero_le _
end Go.Proofs.YtjomnmoekchfeaaGreatDoor.AM
