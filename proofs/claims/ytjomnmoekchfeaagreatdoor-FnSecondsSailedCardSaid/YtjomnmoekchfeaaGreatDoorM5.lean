/- Texts of one proof, joined: an abstract machine for the program, its functions evaluated, plain lemmas. Conditions: those that each lemma names. -/
import Derived.Test.YtjomnmoekchfeaaGreatDoorM4
import Derived.Test.YtjomnmoekchfeaaGreatDoorM3
set_option linter.unusedVariables false
set_option linter.unusedSimpArgs false
namespace Go.Proofs.YtjomnmoekchfeaaGreatDoor.AM
open Go Go.Proofs
set_option exponentiation.threshold 2000
theorem f9c:Ieee.single.signWeight=2^31:=by decide
theorem e9i:Ieee.single.infRung=255*2^23:=by decide
theorem e9j:Ieee.single.binade=2^23:=by decide
theorem f9d:Ieee.single.leastPlace=-149:=by decide
theorem g1a:Ieee.single.fractionBits=23:=by decide
def Sz (b:Nat) (N:Int):Prop:=∃s m e,Ieee.single.read b = .number s m e /\ (m.log2:Int)+e<=N /\ -149<=e
theorem Sz.mono {b:Nat} {N M:Int} (h:Sz b N) (hM:N<=M):Sz b M:=by
 obtain⟨s,m,e,h1,h2,h3⟩:=h
 exact⟨s,m,e,h1,by omega,h3⟩
theorem d2r {M k:Nat} (h:M<2^(k+1)):M.log2<=k:=by
 rcases Nat.eq_zero_or_pos M with h0|h0
 ·subst h0;simp
 ·have:=Nat.log2_self_le (n:=M) (by omega)
  have h2:=Nat.lt_of_le_of_lt this h
  have:=(Nat.pow_lt_pow_iff_right (a:=2) (by decide)).1 h2
  omega
theorem e0w (neg:Bool) (M d k:Nat) (h:M<2^(k+d)):Ieee.Toward.even.cut neg M d<=2^k:=by
 unfold Ieee.Toward.cut
 dsimp only
 rw[Nat.one_shiftLeft]
 by_cases hd:d<=M.log2+2
 ·rw[Nat.min_eq_left hd]
  have h1:M/2^d<2^k:=by rw[Nat.div_lt_iff_lt_mul (Nat.two_pow_pos _),<- Nat.pow_add];exact h
  generalize (decide (2^d<2*(M%2^d))||(2^d==2*(M%2^d)&&M/2^d%2==1))=b
  cases b<;>simp<;>omega
 ·rw[Nat.min_eq_right (by omega)]
  have h0:M<2^(M.log2+2):=Nat.lt_trans Nat.lt_log2_self (Nat.pow_lt_pow_right (by decide) (by omega))
  have h1:M/2^(M.log2+2)=0:=Nat.div_eq_of_lt h0
  rw[h1]
  have hk:=Nat.two_pow_pos k
  generalize (decide (2^(M.log2+2)<2*(M%2^(M.log2+2)))||(2^(M.log2+2)==2*(M%2^(M.log2+2))&&0%2==1))=b
  cases b<;>simp<;>omega
theorem d2s (neg:Bool) (r:Nat) (h:r<255*2^23):Ieee.single.read (Ieee.single.word neg r)=if r<2^23 then .number neg r (-149)else .number neg (2^23+r%2^23) (-149+((r/2^23-1:Nat):Int)):=by
 have hr:Ieee.single.word neg r%Ieee.single.signWeight=r:=by
  unfold Ieee.Format.word
  rw[f9c]
  split<;>omega
 have hn:(Ieee.single.word neg r/Ieee.single.signWeight%2==1)=neg:=by
  unfold Ieee.Format.word
  rw[f9c]
  cases neg
  ·rw[if_neg (by decide)]
   have:r/2^31=0:=Nat.div_eq_of_lt (by omega)
   rw[this];rfl
  ·rw[if_pos rfl]
   have:(2^31+r)/2^31=1:=by omega
   rw[this];rfl
 unfold Ieee.Format.read
 dsimp only
 rw[hr,hn,e9j,e9i,f9d]
 by_cases c:r<2^23
 ·rw[if_pos c,if_pos c]
 ·rw[if_neg c,if_neg c,if_pos h]
theorem e3y (neg:Bool) (M:Nat) (p N:Int) (h:(M.log2:Int)+p<=N) (hN:N<=126) (hN2:-126<=N):Sz (Ieee.single.nearest neg M p) (N+1):=by
 have fin:∀r:Nat,(r:Int)<=(N+126)*2^23+2^24->Sz (Ieee.single.word neg r) (N+1):=by
  intro r hr
  have hlt:r<255*2^23:=by omega
  have:=d2s neg r hlt
  by_cases c:r<2^23
  ·rw[if_pos c]at this
   refine⟨_,_,_,this,?_,Int.le_refl _⟩
   have:=d2r (k:=22) c
   omega
  ·rw[if_neg c]at this
   refine⟨_,_,_,this,?_,by omega⟩
   have h1:(2^23+r%2^23).log2<=23:=d2r (k:=23) (by have:=Nat.mod_lt r (show 2^23>0 by decide);omega)
   have h2:((r/2^23:Nat):Int)<=N+128:=by omega
   omega
 unfold Ieee.Format.nearest
 by_cases h0:M=0
 ·rw[if_pos h0]
  exact fin 0 (by omega)
 ·rw[if_neg h0,g1a,f9d,e9j,e9i]
  dsimp only
  have l2:M<2^(M.log2+1):=Nat.lt_log2_self
  generalize hL:M.log2=L at *
  obtain⟨last,hlast⟩:∃last,last=max (p+(L:Int)-(23:Nat)) (-149):=⟨_,rfl⟩
  rw[<- hlast]
  have hl1:p+(L:Int)-23<=last:=by omega
  have hl2:-149<=last:=by omega
  have hl3:last<=N-23:=by omega
  have hcut:Ieee.Toward.even.cut neg (M <<< (p-last).toNat) (last-p).toNat<=2^24:=by
   refine e0w _ _ _ 24 ?_
   rw[Nat.shiftLeft_eq]
   have h1:M*2^(p-last).toNat<2^(L+1+(p-last).toNat):=by rw[Nat.pow_add];exact Nat.mul_lt_mul_of_pos_right l2 (Nat.two_pow_pos _)
   exact Nat.lt_of_lt_of_le h1 (Nat.pow_le_pow_right (by decide) (by omega))
  generalize Ieee.Toward.even.cut neg (M <<< (p-last).toNat) (last-p).toNat=K at hcut
  have hk:(((last - -149).toNat*2^23+K:Nat):Int)<=(N+126)*2^23+2^24:=by omega
  exact fin _ (Int.le_trans (Int.ofNat_le.2 (Nat.min_le_left _ _)) hk)
theorem d2t:Ieee.double.read 0 = .number false 0 (-1074):=by decide
def f9e (d:Ieee.Datum):Ieee.Datum:=match d with
 |.number _ m e => .number false m e
 |.infinity _ => .infinity false
 |.nan _ f => .nan false f
theorem c5f (a:Nat):Ieee.double.read (a%2^63)=f9e (Ieee.double.read a):=by
 unfold Ieee.Format.read
 dsimp only
 rw[e5t]
 have e1:a%2^63%2^63=a%2^63:=Nat.mod_mod _ _
 have e2:(a%2^63/2^63%2==1)=false:=by
  have:a%2^63/2^63=0:=Nat.div_eq_of_lt (Nat.mod_lt _ (by decide))
  rw[this];rfl
 rw[e1,e2]
 split
 ·rfl
 ·split
  ·rfl
  ·split<;>rfl
theorem c5g (a:Nat):Ieee.double.read (a5T .f64 a)=(Ieee.double.read a).opposite:=by
 have hf:a5T .f64 a=a ^^^ 2^63:=rfl
 rw[hf]
 unfold Ieee.Format.read
 dsimp only
 rw[e5t]
 have e1:(a ^^^ 2^63)%2^63=a%2^63:=by rw[Nat.xor_mod_two_pow,Nat.mod_self,Nat.xor_zero]
 have e2:((a ^^^ 2^63)/2^63%2==1)=!(a/2^63%2==1):=by
  rw[Nat.xor_div_two_pow,Nat.div_self (by decide)]
  have h1:(a/2^63 ^^^ 1)%2=(a/2^63%2) ^^^ 1:=by
   have:=Nat.xor_mod_two_pow (a:=a/2^63) (b:=1) (n:=1)
   simpa using this
  rw[h1]
  rcases Nat.mod_two_eq_zero_or_one (a/2^63)with h|h<;>rw[h]<;>rfl
 rw[e1,e2]
 split
 ·rfl
 ·split
  ·rfl
  ·split<;>rfl
def d4x (a:Nat):Nat:=bif flt .f64 a 0 then a5T .f64 a else a
theorem d2u (a c:Nat):FloatKind.f64.format.order (d4x a) c=FloatKind.f64.format.order (a%2^63) c:=by
 show(Ieee.double.read (d4x a)).order (Ieee.double.read c)=(Ieee.double.read (a%2^63)).order (Ieee.double.read c)
 rw[c5f]
 have h0:flt .f64 a 0=((Ieee.double.read a).order (Ieee.double.read 0)==some .lt):=rfl
 unfold d4x
 rw[h0,d2t]
 generalize Ieee.double.read c=d
 cases hr:Ieee.double.read a with
 | nan s f =>
   have:((Ieee.Datum.nan s f).order (.number false 0 (-1074))==some Ordering.lt)=false:=rfl
   rw[this,cond_false,hr]
   cases d<;>rfl
 | infinity s =>
   cases s with
   | true =>
     have:((Ieee.Datum.infinity true).order (.number false 0 (-1074))==some Ordering.lt)=true:=rfl
     rw[this,cond_true,c5g,hr]
     rfl
   | false =>
     have:((Ieee.Datum.infinity false).order (.number false 0 (-1074))==some Ordering.lt)=false:=rfl
     rw[this,cond_false,hr]
     rfl
 | number s m e =>
   cases s with
   | false =>
     have h1:((Ieee.Datum.number false m e).order (.number false 0 (-1074))==some Ordering.lt)=false:=by
      unfold Ieee.Datum.order Ieee.signed
      simp only[Bool.false_eq_true,if_false,Nat.zero_shiftLeft]
      have:∀x:Nat,(some (compare ((x:Nat):Int) ((0:Nat):Int))==some Ordering.lt)=false:=by
       intro x
       rw[Int.compare_eq_ite_lt,if_neg (by omega)]
       split<;>rfl
      exact this _
     rw[h1,cond_false,hr]
     rfl
   | true =>
     cases h1:((Ieee.Datum.number true m e).order (.number false 0 (-1074))==some Ordering.lt)with
     |true=>rw[cond_true,c5g,hr];rfl
     | false =>
       rw[cond_false,hr]
       have hm:m=0:=by
        unfold Ieee.Datum.order Ieee.signed at h1
        simp only[if_true,Bool.false_eq_true,if_false,Nat.zero_shiftLeft,Nat.shiftLeft_eq]at h1
        rcases Nat.eq_zero_or_pos m with h|h
        ·exact h
        ·exfalso
         have hp:=Nat.mul_pos h (Nat.two_pow_pos (e-min e (-1074)).toNat)
         rw[Int.compare_eq_ite_lt,if_pos (by omega)]at h1
         cases h1
       subst hm
       unfold f9e
       cases d with
       | number t n j =>
         unfold Ieee.Datum.order Ieee.signed
         simp
       |infinity t=>rfl
       |nan t f=>rfl
def le8 (a:Nat):Bool:=flt .f64 a 4726483295884279808||feq .f64 a 4726483295884279808
theorem d2v (a:Nat):le8 (d4x a)=le8 (a%2^63):=by
 unfold le8 flt feq
 rw[d2u]
def a5g (z:Nat×Nat):Bool:=le8 (z.1%2^63)&&le8 (z.2%2^63)
theorem a9a (z:Nat×Nat):F61 (z,())=some (a5g z,()):=by
 unfold F61 r61 a5g
 simp only[f0m,f0n,cond_true]
 show(bif le8 (z.1%2^63)then some (le8 (z.2%2^63),())else some (false,()))=_
 cases le8 (z.1%2^63)<;>rfl
theorem d2w (a:Nat):e5h (a,())=some (d4x a,()):=by
 unfold e5h f3m d4x
 cases flt .f64 a 0<;>rfl
theorem e0x (z:Nat×Nat):F96 (z,())=some (a5g z,()):=by
 unfold F96 r96 a5g
 have e1:e5h (z.1,())=some (d4x z.1,()):=d2w z.1
 have e2:e5h (z.2,())=some (d4x z.2,()):=d2w z.2
 simp only[f0u,f0v,e1,e2,Option.isSome_some,Option.getD_some,cond_true]
 show(bif le8 (d4x z.1)then some (le8 (d4x z.2),())else some (false,()))=_
 rw[d2v,d2v]
 cases le8 (z.1%2^63)<;>rfl
def p2 (e:Int):Rat:=(2:Rat)^e
theorem a1r (e:Int):0<p2 e:=Rat.zpow_pos (by decide)
theorem a1M (a b:Int):p2 (a+b)=p2 a*p2 b:=Rat.zpow_add (by decide) a b
theorem a2c (n:Nat):p2 (n:Int)=((2^n:Nat):Rat):=by
 unfold p2
 rw[Rat.zpow_natCast,Rat.natCast_pow]
 rfl
theorem c6Z (n:Nat):1<=p2 (n:Int):=by
 rw[a2c]
 have:1<=2^n:=Nat.one_le_two_pow
 exact_mod_cast this
theorem c2q {a b:Int} (h:a<=b):p2 a<=p2 b:=by
 have e:b=a+((b-a).toNat:Int):=by omega
 rw[e,a1M]
 have h1:=c6Z (b-a).toNat
 have h2:=a1r a
 generalize p2 ((b-a).toNat:Int)=y at *
 generalize p2 a=x at *
 have:=Rat.mul_nonneg (Rat.le_of_lt h2) (show 0<=y-1 by grind)
 grind
theorem c0m {a b:Int} (h:p2 a<p2 b):a<b:=by
 apply Classical.byContradiction
 intro hn
 have:=c2q (show b<=a by omega)
 grind
theorem a6N (a:Int):p2 (a+1)=2*p2 a:=by
 rw[a1M]
 have:p2 1=2:=by unfold p2;rw[Rat.zpow_one]
 rw[this];grind
theorem a1e {a b:Nat} (h:a<=b):(a:Rat)<=(b:Rat):=Rat.natCast_le_natCast.2 h
theorem a1t {a b c:Rat} (h:a<=b) (hc:0<=c):a*c<=b*c:=Rat.mul_le_mul_of_nonneg_right h hc
theorem a3h (a:Nat):(0:Rat)<=(a:Rat):=by
 have:=a1e (Nat.zero_le a)
 simpa using this
def sgR (s:Bool):Rat:=if s then -1 else 1
def RV (s:Bool) (m:Nat) (e:Int):Rat:=sgR s*(m:Rat)*p2 e
def IsR (w:Nat) (q:Rat):Prop:=∃(s:Bool) (m:Nat) (e:Int),Ieee.double.read w = .number s m e /\ -1074<=e /\ q=RV s m e
def c7a (a b ε:Rat):Prop:=a<=b+ε /\ b<=a+ε
theorem d7B (neg:Bool) (N d:Nat):2*(Ieee.Toward.even.cut neg N d*2^d)<=2*N+2^d /\ 2*N<=2*(Ieee.Toward.even.cut neg N d*2^d)+2^d:=by
 unfold Ieee.Toward.cut
 dsimp only
 rw[Nat.one_shiftLeft]
 by_cases hd:d<=N.log2+2
 ·rw[Nat.min_eq_left hd]
  have h1:=Nat.div_add_mod N (2^d)
  have h2:=Nat.mod_lt N (Nat.two_pow_pos d)
  generalize hb:(decide (2^d<2*(N%2^d))||(2^d==2*(N%2^d)&&N/2^d%2==1))=b
  have hg:b=true->2^d<=2*(N%2^d):=by
   intro h
   rw[h]at hb
   simp only[Bool.or_eq_true,decide_eq_true_eq,Bool.and_eq_true,beq_iff_eq]at hb
   omega
  have hl:b=false->2*(N%2^d)<=2^d:=by
   intro h
   rw[h]at hb
   simp only[Bool.or_eq_false_iff,decide_eq_false_iff_not]at hb
   omega
  generalize 2^d=g at *
  generalize N/g=q at *
  generalize N%g=r at *
  have e1:q*g=g*q:=Nat.mul_comm _ _
  cases b
  ·have:=hl rfl
   simp only[Bool.toNat_false,Nat.add_zero]
   omega
  ·have:=hg rfl
   simp only[Bool.toNat_true,Nat.add_mul,Nat.one_mul]
   omega
 ·rw[Nat.min_eq_right (by omega)]
  have h0:N<2^(N.log2+1):=Nat.lt_log2_self
  have h00:2^(N.log2+2)=2*2^(N.log2+1):=by rw[Nat.pow_succ];omega
  have h1:N/2^(N.log2+2)=0:=Nat.div_eq_of_lt (by omega)
  have h2:N%2^(N.log2+2)=N:=Nat.mod_eq_of_lt (by omega)
  have h3:2^(N.log2+2)<=2^d:=Nat.pow_le_pow_right (by decide) (by omega)
  rw[h1,h2]
  have:(decide (2^(N.log2+2)<2*N)||(2^(N.log2+2)==2*N&&0%2==1))=false:=by
   simp only[Bool.or_eq_false_iff,decide_eq_false_iff_not,Bool.and_eq_false_iff]
   exact⟨by omega,.inr rfl⟩
  rw[this]
  simp only[Bool.toNat_false,Nat.add_zero,Nat.zero_mul]
  omega
theorem e9k (neg:Bool) (N d k:Nat) (h:2^(k+d)<=N):2^k<=Ieee.Toward.even.cut neg N d:=by
 unfold Ieee.Toward.cut
 dsimp only
 rw[Nat.one_shiftLeft]
 have hd:d<=N.log2+2:=by
  have h1:N<2^(N.log2+1):=Nat.lt_log2_self
  have:=(Nat.pow_lt_pow_iff_right (a:=2) (by decide)).1 (Nat.lt_of_le_of_lt h h1)
  omega
 rw[Nat.min_eq_left hd]
 have h1:2^k<=N/2^d:=by rw[Nat.le_div_iff_mul_le (Nat.two_pow_pos _),<- Nat.pow_add];exact h
 exact Nat.le_trans h1 (Nat.le_add_right _ _)
theorem a7J (neg:Bool):IsR (Ieee.double.word neg 0) 0:=by
 refine⟨neg,0,-1074,?_,Int.le_refl _,?_⟩
 ·cases neg<;>decide
 ·unfold RV;grind
theorem d7C (neg:Bool) (M:Nat) (p B:Int) (h0:M≠0) (hB:(M.log2:Int)+p<=B) (h1:-1022<=B) (h2:B<=1022) :
 ∃r,IsR (Ieee.double.nearest neg M p) r /\ c7a r (RV neg M p) (p2 (B-53)):=by
 unfold Ieee.Format.nearest
 rw[if_neg h0,f7T,e3v,c2p,c2o]
 dsimp only
 have l1:2^M.log2<=M:=Nat.log2_self_le h0
 have l2:M<2^(M.log2+1):=Nat.lt_log2_self
 generalize hL:M.log2=L at *
 obtain⟨last,hlast⟩:∃last,last=max (p+(L:Int)-(52:Nat)) (-1074):=⟨_,rfl⟩
 rw[<- hlast]
 have hl1:p+(L:Int)-52<=last:=by omega
 have hl2:-1074<=last:=by omega
 have hl3:last<=B-52:=by omega
 have hl4:last=p+(L:Int)-52∨last=-1074:=by omega
 obtain⟨up,hup⟩:∃up,up=(p-last).toNat:=⟨_,rfl⟩
 obtain⟨d,hd⟩:∃d,d=(last-p).toNat:=⟨_,rfl⟩
 rw[<- hup,<- hd,Nat.shiftLeft_eq]
 have hle:Ieee.Toward.even.cut neg (M*2^up) d<=2^53:=by
  refine e0w _ _ _ 53 ?_
  have:M*2^up<2^(L+1+up):=by rw[Nat.pow_add];exact Nat.mul_lt_mul_of_pos_right l2 (Nat.two_pow_pos _)
  exact Nat.lt_of_lt_of_le this (Nat.pow_le_pow_right (by decide) (by omega))
 have hge:last ≠ -1074->2^52<=Ieee.Toward.even.cut neg (M*2^up) d:=by
  intro hne
  refine e9k _ _ _ 52 ?_
  have:2^(L+up)<=M*2^up:=by rw[Nat.pow_add];exact Nat.mul_le_mul_right _ l1
  exact Nat.le_trans (Nat.pow_le_pow_right (by decide) (by omega)) this
 have hnear:=d7B neg (M*2^up) d
 have hexact:d=0->Ieee.Toward.even.cut neg (M*2^up) d=M*2^up:=fun e=>by rw[e,a5A]
 generalize Ieee.Toward.even.cut neg (M*2^up) d=K at *
 obtain⟨e,he⟩:∃e,e=(last - -1074).toNat:=⟨_,rfl⟩
 rw[<- he]
 have hrung:e*2^52+K<2047*2^52:=by omega
 rw[Nat.min_eq_left (Nat.le_of_lt hrung)]
 obtain⟨m,c,hr,hm⟩:=a5P neg K e hrung (by
  by_cases h:last=-1074
  ·exact .inl ⟨by omega,hle⟩
  ·exact .inr ⟨hge h,hle⟩)
 refine⟨RV neg m ((c:Int)-1074),⟨neg,m,_,hr,by omega,rfl⟩,?_⟩
 have hv:RV neg m ((c:Int)-1074)=sgR neg*(K:Rat)*p2 last:=by
  have e1:(m:Rat)*p2 (c:Int)=(K:Rat)*p2 (e:Int):=by
   rw[a2c,a2c]
   exact_mod_cast congrArg (fun n:Nat=>(n:Rat)) hm
  have e2:last=(e:Int) + -1074:=by omega
  unfold RV
  rw[e2,Int.sub_eq_add_neg,a1M,a1M]
  grind
 rw[hv]
 by_cases hc:last<=p
 ·have hd0:d=0:=by omega
  have hK:=hexact hd0
  have e1:RV neg M p=sgR neg*(K:Rat)*p2 last:=by
   unfold RV
   have e2:p=(up:Int)+last:=by omega
   rw[hK,e2,a1M,a2c,Rat.natCast_mul]
   grind
  rw[e1]
  have:=a1r (B-53)
  constructor<;>grind
 ·have hu0:up=0:=by omega
  rw[hu0,Nat.pow_zero,Nat.mul_one]at hnear
  have e1:p2 last=((2^d:Nat):Rat)*p2 p:=by
   have:last=(d:Int)+p:=by omega
   rw[this,a1M,a2c]
  have hp:=a1r p
  have n1:2*((K:Rat)*((2^d:Nat):Rat))<=2*(M:Rat)+((2^d:Nat):Rat):=by exact_mod_cast a1e hnear.1
  have n2:2*(M:Rat)<=2*((K:Rat)*((2^d:Nat):Rat))+((2^d:Nat):Rat):=by exact_mod_cast a1e hnear.2
  have m1:=a1t n1 (Rat.le_of_lt hp)
  have m2:=a1t n2 (Rat.le_of_lt hp)
  have hle2:p2 last<=2*p2 (B-53):=by
   rw[<- a6N]
   exact c2q (by omega)
  unfold RV
  rw[e1]at *
  generalize ((2^d:Nat):Rat)=g at *
  generalize (K:Rat)=k at *
  generalize (M:Rat)=mm at *
  generalize p2 (B-53)=ε at *
  generalize p2 p=t at *
  cases neg
  ·have:sgR false=1:=rfl
   rw[this]
   constructor<;>grind
  ·have:sgR true=-1:=rfl
   rw[this]
   constructor<;>grind
theorem a6O (s:Bool) (e:Int):RV s 0 e=0:=by unfold RV;grind
theorem e0y (s:Bool) (m:Nat) (e:Int) {b:Rat} (h1:RV s m e<b) (h2:-b<RV s m e):(m:Rat)*p2 e<b:=by
 unfold RV at h1 h2
 cases s
 ·have:sgR false=1:=rfl
  rw[this]at h1;grind
 ·have:sgR true=-1:=rfl
  rw[this]at h2;grind
theorem b6O (neg:Bool) (M:Nat) (p:Int) (B:Int) (h1:-1022<=B) (h2:B<=1022) (hlt:RV neg M p<p2 (B+1)) (hgt:-p2 (B+1)<RV neg M p) :
 ∃r,IsR (Ieee.double.nearest neg M p) r /\ c7a r (RV neg M p) (p2 (B-53)):=by
 by_cases h0:M=0
 ·subst h0
  refine⟨0,?_,?_⟩
  ·unfold Ieee.Format.nearest
   rw[if_pos rfl]
   exact a7J neg
  ·rw[a6O]
   have:=a1r (B-53)
   constructor<;>grind
 ·refine d7C neg M p B h0 ?_ h1 h2
  have hm:=e0y neg M p hlt hgt
  have l1:((2^M.log2:Nat):Rat)<=(M:Rat):=a1e (Nat.log2_self_le h0)
  have l2:=a1t l1 (Rat.le_of_lt (a1r p))
  have:p2 ((M.log2:Int)+p)<p2 (B+1):=by
   rw[a1M,a2c]
   grind
  have:=c0m this
  omega
theorem e3z (s t:Bool):sgR (s ^^ t)=sgR s*sgR t:=by cases s<;>cases t<;>decide +kernel
theorem e3A (s:Bool):sgR (!s)=-sgR s:=by cases s<;>decide +kernel
theorem a9N (s:Bool) (m:Nat) (e base:Int) (h:base<=e):((Ieee.signed s m (e-base).toNat:Int):Rat)*p2 base=RV s m e:=by
 unfold Ieee.signed RV
 have e1:e=((e-base).toNat:Int)+base:=by omega
 rw[Nat.shiftLeft_eq]
 have e2:p2 e=((2^(e-base).toNat:Nat):Rat)*p2 base:=by
  have:=a1M ((e-base).toNat:Int) base
  rw[<- e1,a2c]at this
  exact this
 rw[e2]
 cases s
 ·have:sgR false=1:=rfl
  rw[this,if_neg (by decide),Rat.intCast_natCast,Rat.natCast_mul]
  grind
 ·have:sgR true=-1:=rfl
  rw[this,if_pos rfl,Rat.intCast_neg,Rat.intCast_natCast,Rat.natCast_mul]
  grind
theorem g1b (s t:Bool) (m n:Nat) (e f:Int) (B:Int) (h1:-1022<=B) (h2:B<=1022) (hlt:RV s m e+RV t n f<p2 (B+1)) (hgt:-p2 (B+1)<RV s m e+RV t n f) :
 ∃w r,(Ieee.Datum.sum (.number s m e) (.number t n f)).map Ieee.double.write=some w /\ IsR w r /\ c7a r (RV s m e+RV t n f) (p2 (B-53)):=by
 unfold Ieee.Datum.sum
 dsimp only
 have hs:=a9N s m e (min e f) (by omega)
 have ht:=a9N t n f (min e f) (by omega)
 generalize hT:Ieee.signed s m (e-min e f).toNat+Ieee.signed t n (f-min e f).toNat=T
 have hT2:((T:Int):Rat)*p2 (min e f)=RV s m e+RV t n f:=by
  rw[<- hT,Rat.intCast_add,<- hs,<- ht]
  grind
 have hV:RV (if T=0 then s&&t else decide (T<0)) T.natAbs (min e f)=RV s m e+RV t n f:=by
  rw[<- hT2]
  unfold RV
  by_cases c0:T=0
  ·subst c0
   simp[Rat.mul_zero,Rat.zero_mul]
  ·rw[if_neg c0]
   by_cases c1:T<0
   ·have e1:((T:Int):Rat)=-((T.natAbs:Nat):Rat):=by
     rw[<- Rat.intCast_natCast,<- Rat.intCast_neg]
     congr 1
     omega
    rw[e1]
    simp only[c1,decide_true]
    have:sgR true=-1:=rfl
    rw[this]
    grind
   ·have e1:((T:Int):Rat)=((T.natAbs:Nat):Rat):=by
     rw[<- Rat.intCast_natCast]
     congr 1
     omega
    rw[e1]
    simp only[c1,decide_false]
    have:sgR false=1:=rfl
    rw[this]
    grind
 rw[<- hV]at hlt hgt
 obtain⟨r,h3,h4⟩:=b6O _ _ _ B h1 h2 hlt hgt
 rw[hV]at h4
 exact⟨_,r,rfl,h3,h4⟩
theorem g1c {a b:Nat} {x y:Rat} (ha:IsR a x) (hb:IsR b y) (B:Int) (h1:-1022<=B) (h2:B<=1022) (hlt:x+y<p2 (B+1)) (hgt:-p2 (B+1)<x+y) :
 ∃r,IsR (a0i .add .f64 a b) r /\ c7a r (x+y) (p2 (B-53)):=by
 obtain⟨s,m,e,hr,he,rfl⟩:=ha
 obtain⟨t,n,f,hr',hf,rfl⟩:=hb
 obtain⟨w,r,h3,h4,h5⟩:=g1b s t m n e f B h1 h2 hlt hgt
 have e1:a0i .add .f64 a b=(((Ieee.double.read a).sum (Ieee.double.read b)).map Ieee.double.write).getD (qn .f64):=rfl
 rw[e1,hr,hr',h3]
 exact⟨r,h4,h5⟩
theorem e9l (s:Bool) (m:Nat) (e:Int):RV (!s) m e=-RV s m e:=by
 unfold RV
 rw[e3A]
 grind
theorem d2x {w:Nat} {q:Rat} (h:IsR w q):∃v:Int,isD w v /\ q=(v:Rat)*p2 (-1074):=by
 obtain⟨s,m,e,hr,he,rfl⟩:=h
 obtain⟨c,hc⟩:∃c:Nat,e=(c:Int)-1074:=⟨(e+1074).toNat,by omega⟩
 subst hc
 refine⟨VU s m c,⟨s,m,c,hr,rfl⟩,?_⟩
 unfold RV VU
 rw[Int.sub_eq_add_neg,a1M,a2c]
 cases s
 ·have:sgR false=1:=rfl
  rw[this,if_neg (by decide),Rat.intCast_natCast,Rat.natCast_mul]
  grind
 ·have:sgR true=-1:=rfl
  rw[this,if_pos rfl,Rat.intCast_neg,Rat.intCast_natCast,Rat.natCast_mul]
  grind
theorem e3B {v w:Int}:(v:Rat)*p2 (-1074)<(w:Rat)*p2 (-1074)↔v<w:=by
 have hp:=a1r (-1074)
 constructor
 ·intro h
  apply Classical.byContradiction
  intro hn
  have:(w:Rat)<=(v:Rat):=Rat.intCast_le_intCast.2 (by omega)
  have:=a1t this (Rat.le_of_lt hp)
  grind
 ·intro h
  have:(v:Rat)<(w:Rat):=Rat.intCast_lt_intCast.2 h
  exact Rat.mul_lt_mul_of_pos_right this hp
theorem f2o {a b:Nat} {x y:Rat} (ha:IsR a x) (hb:IsR b y):FloatKind.f64.format.order a b=some (if x<y then .lt else if y<x then .gt else .eq):=by
 obtain⟨v,h1,rfl⟩:=d2x ha
 obtain⟨w,h2,rfl⟩:=d2x hb
 rw[g0Z h1 h2]
 simp only[e3B]
 congr 1
 rw[Int.compare_eq_ite_lt]
theorem f7U {a b:Nat} {x y:Rat} (ha:IsR a x) (hb:IsR b y):flt .f64 a b=decide (x<y):=by
 unfold flt
 rw[f2o ha hb]
 by_cases h:x<y
 ·simp[h]
 ·by_cases h2:y<x<;>simp[h,h2]
theorem f9f {a b:Nat} {x y:Rat} (ha:IsR a x) (hb:IsR b y):fgt .f64 a b=decide (y<x):=by
 unfold fgt
 rw[f2o ha hb]
 by_cases h:x<y
 ·have:¬y<x:=by grind
  simp[h,this]
 ·by_cases h2:y<x<;>simp[h,h2]
theorem e9m {a b:Nat} {x y:Rat} (ha:IsR a x) (hb:IsR b y):feq .f64 a b=decide (x=y):=by
 unfold feq
 rw[f2o ha hb]
 by_cases h:x<y
 ·have:¬x=y:=by grind
  simp[h,this]
 ·by_cases h2:y<x
  ·have:¬x=y:=by grind
   simp[h,h2,this]
  ·have:x=y:=by grind
   simp[this]
abbrev a8C:Type:=List Nat×List Int×List (List Nat)×Unit
def wAt (p:a8C) (i:Nat):Nat:=p.1.getD i 0
def aAt (p:a8C) (i:Nat):Int:=p.2.1.getD i 0
def rAt (p:a8C) (i:Nat):List Nat:=p.2.2.1.getD i []
def fle (x c:Nat):Bool:=flt .f32 x c||feq .f32 x c
def fge (x c:Nat):Bool:=fgt .f32 x c||feq .f32 x c
def a4g (x:Nat):Bool:=fge x 0&&fle x 1112014848
def a9b (l:List Nat):Bool:=a0w (fun j=>a4g (l.getD j 0)) 0 l.length
def a3z (p:a8C) (i:Nat):Bool:=fgt .f32 (wAt p i) 0&&fle (wAt p i) 1120403456&&(decide (i=0)||fgt .f32 (wAt p i) (wAt p (i-1)))
def c7N (p:a8C) (i:Nat):Bool:=decide (i=0)||decide (aAt p (i-1)<aAt p i)
def d4y (p:a8C) (i:Nat):Bool:=decide ((rAt p i).length=p.2.1.length)&&a9b (rAt p i)
def a3F (p:a8C):Bool:=a0L (p.1.length:Int) 1 12&&(a0L (p.2.1.length:Int) 2 24&&(decide (p.2.2.1.length=p.1.length)&&(a0w (a3z p) 0 p.1.length &&
 (a0w (c7N p) 0 p.2.1.length&&(aAt p 0==0&&(aAt p (p.2.1.length-1)==180&&a0w (d4y p) 0 p.2.2.1.length))))))
theorem c2r (x:Nat):e7l (x,())=some (a4g x,()):=by
 unfold e7l f4E a4g
 show(bif fge x 0 then some (fle x 1112014848,())else some (false,()))=_
 cases fge x 0<;>rfl
theorem e3C (x:Nat):e7m (x,())=some (!a4g x,()):=by
 unfold e7m f4H
 have e:e7l (x,())=some (a4g x,()):=c2r x
 simp only[d4c,d4d,e,Option.isSome_some,Option.getD_some,cond_true]
theorem e0z (k:Nat) (h0:0<k) (h:k<9223372036854775807):IntKind.wrap IntKind.i64 ((k:Int)-1)=((k-1:Nat):Int):=by rw[w64 (by omega) (by omega)];omega
theorem e3D (l:List Nat) (h:l.length<=1000):e7p ((l,(),()),())=some ((!a9b l,()),()):=by
 have hl:b8M ((l,(),(l.length:Int),(0:Int),()),())=some (match a0M (fun j=>!a4g (l.getD j 0)) 0 l.length with|some j => .inr (((j:Int),()),())|none => .inl ((),())):=by
  refine(a7o (q:=b8L d6a d6b) (fun k=>((l,(),(l.length:Int),(k:Int),()),())) l.length (fun j=>!a4g (l.getD j 0)) (.inl ((),())) (fun j => .inr (((j:Int),()),())) ?_ ?_ (c3W ((l,(),(l.length:Int),(0:Int),()),())) ?_:_)
  ·intro k f hk
   unfold b8L
   have e1:decide ((k:Int)<(l.length:Int))=true:=by simpa using hk
   have e2:decide (0<=(k:Int))=true:=by simp
   have ha:List.getD l k (zero (Ty.flt FloatKind.f32))=l.getD k 0:=rfl
   have e3:e7m (l.getD k 0,())=some (!a4g (l.getD k 0),()):=e3C _
   simp only[a4y k (by omega),e1,e2,Bool.and_self,cond_true,Int.toNat_natCast,ha,d6a,d6b,e3,Option.isSome_some,Option.getD_some]
  ·intro f
   unfold b8L
   simp
  ·simp only[c3W];omega
 have h55:f0U ((l,(),()),())=some ((match a0M (fun j=>!a4g (l.getD j 0)) 0 l.length with|none=>(-1:Int)|some j=>(j:Int),()),()):=by
  unfold f0U f4J
  simp only[b4Q,b4R,b4S,hl,Option.isSome_some,cond_true]
  cases a0M (fun j=>!a4g (l.getD j 0)) 0 l.length<;>rfl
 unfold e7p f4M
 simp only[f0V,f0W,h55,Option.isSome_some,Option.getD_some,cond_true]
 unfold a9b
 cases hf:a0M (fun j=>!a4g (l.getD j 0)) 0 l.length with
 | none =>
   have h1:a0w (fun j=>a4g (l.getD j 0)) 0 l.length=true:=a0I.2 fun j h0 hj=>by
    have:=a2q.1 hf j h0 hj
    simpa using this
   rw[h1]
   rfl
 | some j =>
   obtain⟨h1,h2,h3,_⟩:=a1V hf
   have h4:a0w (fun j=>a4g (l.getD j 0)) 0 l.length=false:=by
    rw[Bool.eq_false_iff]
    intro ht
    have:=a0I.1 ht j h1 h2
    have h3':(!a4g (l.getD j 0))=true:=h3
    rw[this]at h3'
    cases h3'
   rw[h4]
   have:decide ((j:Int) ≥ 0)=true:=by simp
   exact congrArg (fun b:Bool=>some ((b,()),())) this
theorem e0A (p:a8C):F90 (p,())=some (a3F p,()):=by
 unfold F90 r90 a3F
 have i1:F44 ((p.1.length:Int),1,12,())=some (a0L (p.1.length:Int) 1 12,()):=a2P _ _ _
 have i2:F44 ((p.2.1.length:Int),2,24,())=some (a0L (p.2.1.length:Int) 2 24,()):=a2P _ _ _
 simp only[K44,G44,i1,i2,Option.isSome_some,Option.getD_some,cond_true]
 cases h1:a0L (p.1.length:Int) 1 12
 ·rfl
 cases h2:a0L (p.2.1.length:Int) 2 24
 ·rfl
 simp only[a0L,Bool.and_eq_true,decide_eq_true_eq]at h1 h2
 by_cases h3:p.2.2.1.length=p.1.length
 rotate_left
 ·have e1:((p.2.2.1.length:Int) != (p.1.length:Int))=true:=by simp;omega
  have e2:decide (p.2.2.1.length=p.1.length)=false:=by simpa using h3
  rw[e1,e2];rfl
 have e1:((p.2.2.1.length:Int) != (p.1.length:Int))=false:=by simp;omega
 have e2:decide (p.2.2.1.length=p.1.length)=true:=by simpa using h3
 rw[e1,e2]
 have hl4:d0m (((),p.1,(p.1.length:Int),(0:Int),()),(p,()))=some (bif a0w (a3z p) 0 p.1.length then .inl (((),()),(p,()))else .inr ((false,()),())):=by
  refine(a0X (q:=d0l K44 G44 c6x c6y) (fun k=>(((),p.1,(p.1.length:Int),(k:Int),()),(p,()))) p.1.length (a3z p) _ _ ?_ ?_ _ ?_:_)
  ·intro k f hk
   unfold d0l a3z
   have e1:decide ((k:Int)<(p.1.length:Int))=true:=by simpa using hk
   have e2:decide (0<=(k:Int))=true:=by simp
   have ha:List.getD p.1 k (zero (Ty.flt FloatKind.f32))=wAt p k:=rfl
   simp only[a4y k (by omega),e1,e2,Bool.and_self,cond_true,Int.toNat_natCast,ha]
   show(bif fgt .f32 (wAt p k) 0 then bif !fle (wAt p k) 1120403456 then _ else _ else _)=_
   cases fgt .f32 (wAt p k) 0
   ·rfl
   cases fle (wAt p k) 1120403456
   ·rfl
   simp only[Bool.not_true,cond_false,cond_true,Bool.true_and]
   by_cases h0:k=0
   ·subst h0
    simp
   ·have e3:decide ((k:Int)>0)=true:=by simp;omega
    have e4:decide (0<=((k-1:Nat):Int))=true:=by simp
    have e5:decide (((k-1:Nat):Int)<(p.1.length:Int))=true:=by simp;omega
    have e6:decide (k=0)=false:=by simpa using h0
    have hb:List.getD p.1 (k-1) (zero (Ty.flt FloatKind.f32))=wAt p (k-1):=rfl
    simp only[e3,e0z k (by omega) (by omega),e4,e5,Bool.and_self,cond_true,Int.toNat_natCast,hb,e6,Bool.false_or]
    cases fgt .f32 (wAt p k) (wAt p (k-1))<;>rfl
  ·intro f
   unfold d0l
   simp
  ·simp only[e2v];omega
 simp only[b2C,b2D,b2F,b2E,hl4,Option.isSome_some,cond_true,cond_false,Bool.true_and]
 cases a0w (a3z p) 0 p.1.length
 ·rfl
 simp only[cond_true,isR,xOf,cond_false,Bool.true_and]
 have hl10:b8U (((),p.2.1,(p.2.1.length:Int),(0:Int),()),(p,()))=some (bif a0w (c7N p) 0 p.2.1.length then .inl (((),()),(p,()))else .inr ((false,()),())):=by
  refine(a0X (q:=b8T K44 G44 c6x c6y) (fun k=>(((),p.2.1,(p.2.1.length:Int),(k:Int),()),(p,()))) p.2.1.length (c7N p) _ _ ?_ ?_ _ ?_:_)
  ·intro k f hk
   unfold b8T c7N
   have e1:decide ((k:Int)<(p.2.1.length:Int))=true:=by simpa using hk
   have e2:decide (0<=(k:Int))=true:=by simp
   have ha:List.getD p.2.1 k (zero (Ty.int IntKind.i64))=aAt p k:=rfl
   simp only[a4y k (by omega),e1,e2,Bool.and_self,cond_true,Int.toNat_natCast,ha]
   by_cases h0:k=0
   ·subst h0
    simp
   ·have e3:decide ((k:Int)>0)=true:=by simp;omega
    have e4:decide (0<=((k-1:Nat):Int))=true:=by simp
    have e5:decide (((k-1:Nat):Int)<(p.2.1.length:Int))=true:=by simp;omega
    have e6:decide (k=0)=false:=by simpa using h0
    have hb:List.getD p.2.1 (k-1) (zero (Ty.int IntKind.i64))=aAt p (k-1):=rfl
    simp only[e3,e0z k (by omega) (by omega),e4,e5,Bool.and_self,cond_true,Int.toNat_natCast,hb,e6,Bool.false_or]
    have e7:decide (aAt p k<=aAt p (k-1))=!decide (aAt p (k-1)<aAt p k):=by
     by_cases h:aAt p (k-1)<aAt p k
     ·simp[h]
     ·simp[h];omega
    rw[e7]
    cases decide (aAt p (k-1)<aAt p k)<;>rfl
  ·intro f
   unfold b8T
   simp
  ·simp only[d0k];omega
 simp only[a8q,a8r,a8t,a8s,hl10,Option.isSome_some,cond_true,cond_false]
 cases a0w (c7N p) 0 p.2.1.length
 ·rfl
 simp only[cond_true,isR,xOf,cond_false,Bool.true_and]
 have g1:(decide (0<=0)&&decide ((0:Int)<(List.length (α:=Den (Ty.int IntKind.i64)) p.2.1:Int)))=true:=by
  have:(0:Int)<(p.2.1.length:Int):=by omega
  exact(decide_eq_true this:_)
 have g2:IntKind.wrap IntKind.i64 ((List.length (α:=Den (Ty.int IntKind.i64)) p.2.1:Int)-1)=((List.length (α:=Den (Ty.int IntKind.i64)) p.2.1-1:Nat):Int):=e0z _ (by omega) (by omega)
 have g3:decide (((List.length (α:=Den (Ty.int IntKind.i64)) p.2.1-1:Nat):Int)<(List.length (α:=Den (Ty.int IntKind.i64)) p.2.1:Int))=true:=by simp;omega
 have g4:decide (0<=((List.length (α:=Den (Ty.int IntKind.i64)) p.2.1-1:Nat):Int))=true:=by simp
 have ha:List.getD p.2.1 0 (zero (Ty.int IntKind.i64))=aAt p 0:=rfl
 have hb:List.getD p.2.1 (p.2.1.length-1) (zero (Ty.int IntKind.i64))=aAt p (p.2.1.length-1):=rfl
 erw [g1]
 simp only[g2,g3,g4,Int.toNat_natCast,Int.toNat_zero,ha,hb,Bool.and_self,Bool.not_true,cond_false,cond_true]
 by_cases h5:aAt p 0=0
 rotate_left
 ·have e5:(aAt p 0 != 0)=true:=by simpa using h5
  have e6:(aAt p 0==0)=false:=by simpa using h5
  rw[e5,e6];rfl
 have e5:(aAt p 0 != 0)=false:=by simpa using h5
 have e6:(aAt p 0==0)=true:=by simpa using h5
 rw[e5,e6]
 by_cases h7:aAt p (p.2.1.length-1)=180
 rotate_left
 ·have e7:(aAt p (p.2.1.length-1) != 180)=true:=by simpa using h7
  have e8:(aAt p (p.2.1.length-1)==180)=false:=by simpa using h7
  rw[e7,e8];rfl
 have e7:(aAt p (p.2.1.length-1) != 180)=false:=by simpa using h7
 have e8:(aAt p (p.2.1.length-1)==180)=true:=by simpa using h7
 rw[e7,e8]
 have hl18:b8S (((),p.2.2.1,(p.2.2.1.length:Int),(0:Int),()),(p,()))=some (bif a0w (d4y p) 0 p.2.2.1.length then .inl ((),())else .inr ((false,()),())):=by
  refine(a0X (q:=b8R K44 G44 c6x c6y) (fun k=>(((),p.2.2.1,(p.2.2.1.length:Int),(k:Int),()),(p,()))) p.2.2.1.length (d4y p) _ _ ?_ ?_ _ ?_:_)
  ·intro k f hk
   unfold b8R d4y
   have e1:decide ((k:Int)<(p.2.2.1.length:Int))=true:=by simpa using hk
   have e2:decide (0<=(k:Int))=true:=by simp
   have ha:List.getD p.2.2.1 k (zero (Ty.slice (Ty.flt FloatKind.f32)))=rAt p k:=rfl
   simp only[a4y k (by omega),e1,e2,Bool.and_self,cond_true,Int.toNat_natCast,ha]
   by_cases h9:(rAt p k).length=p.2.1.length
   ·have e3:(((rAt p k).length:Int) != (p.2.1.length:Int))=false:=by simp;omega
    have e4:decide ((rAt p k).length=p.2.1.length)=true:=by simpa using h9
    have e9:e7p ((rAt p k,(),()),())=some ((!a9b (rAt p k),()),()):=e3D _ (by omega)
    rw[e3,e4]
    simp only[cond_false,c6x,c6y,e9,Option.isSome_some,Option.getD_some,cond_true,Bool.true_and]
    cases a9b (rAt p k)<;>rfl
   ·have e3:(((rAt p k).length:Int) != (p.2.1.length:Int))=true:=by simp;omega
    have e4:decide ((rAt p k).length=p.2.1.length)=false:=by simpa using h9
    rw[e3,e4];rfl
  ·intro f
   unfold b8R
   simp
  ·simp only[d0j];omega
 simp only[a8n,a8o,a8p,hl18,Option.isSome_some,cond_true,cond_false,Bool.true_and]
 cases a0w (d4y p) 0 p.2.2.1.length<;>rfl
theorem c7b {x y:Nat} (hx:fgt .f32 x 0=true) (hx2:fle x 1120403456=true) (hy:fgt .f32 y 0=true) (hy2:fle y 1120403456=true):fle x y=!fgt .f32 x y:=by
 unfold fle flt feq fgt at *
 have num:∀z:Nat,(FloatKind.f32.format.order z 0==some .gt)=true->((FloatKind.f32.format.order z 1120403456==some .lt)||(FloatKind.f32.format.order z 1120403456==some .eq))=true->∃s m e,Ieee.single.read z = .number s m e:=by
  intro z h1 h2
  have o1:FloatKind.f32.format.order z 1120403456=(Ieee.single.read z).order (Ieee.single.read 1120403456):=rfl
  have r1:∃s m e,Ieee.single.read 1120403456 = .number s m e:=⟨false,13107200,-17,by decide +kernel⟩
  have o2:FloatKind.f32.format.order z 0=(Ieee.single.read z).order (Ieee.single.read 0):=rfl
  have r2:∃s m e,Ieee.single.read 0 = .number s m e:=⟨false,0,-149,by decide +kernel⟩
  obtain⟨s,m,e,hr⟩:=r1
  obtain⟨s2,m2,e2,hr2⟩:=r2
  rw[o1,hr]at h2
  rw[o2,hr2]at h1
  cases hz:Ieee.single.read z with
  |number a b c=>exact⟨a,b,c,rfl⟩
  |nan a b=>rw[hz]at h2;simp[Ieee.Datum.order]at h2
  | infinity a =>
    rw[hz]at h1 h2
    cases a<;>simp[Ieee.Datum.order]at h1 h2
 obtain⟨s,m,e,h1⟩:=num x hx hx2
 obtain⟨t,n,f,h2⟩:=num y hy hy2
 have o:FloatKind.f32.format.order x y=(Ieee.single.read x).order (Ieee.single.read y):=rfl
 rw[o,h1,h2]
 unfold Ieee.Datum.order
 dsimp only
 generalize compare (α:=Int) _ _=c
 cases c<;>rfl
def a6d (p:a8C) (i:Nat):Bool:=a3z p i&&d4y p i
theorem e9n (p:a8C):F99 (p,())=some (a3F p,()):=by
 unfold F99 r99
 have i1:F51 ((p.1.length:Int),1,12,())=some (a0L (p.1.length:Int) 1 12,()):=a5x _ _ _
 have i2:F51 ((p.2.1.length:Int),2,24,())=some (a0L (p.2.1.length:Int) 2 24,()):=a5x _ _ _
 simp only[K51,G51,i1,i2,Option.isSome_some,Option.getD_some,cond_true]
 unfold a3F
 cases h1:a0L (p.1.length:Int) 1 12
 ·rfl
 cases h2:a0L (p.2.1.length:Int) 2 24
 ·rfl
 simp only[a0L,Bool.and_eq_true,decide_eq_true_eq]at h1 h2
 by_cases h3:p.2.2.1.length=p.1.length
 rotate_left
 ·have e1:((p.2.2.1.length:Int) != (p.1.length:Int))=true:=by simp;omega
  have e2:decide (p.2.2.1.length=p.1.length)=false:=by simpa using h3
  rw[e1,e2];rfl
 have e1:((p.2.2.1.length:Int) != (p.1.length:Int))=false:=by simp;omega
 have e2:decide (p.2.2.1.length=p.1.length)=true:=by simpa using h3
 rw[e1,e2]
 have hl9:∀k,k<p.1.length->(rAt p k).length<=24->c9f (((),(k:Int),(0:Int),()),(p,()))=some (bif a9b (rAt p k)then .inl (((),(k:Int),()),(p,()))else .inr ((false,()),())):=by
  intro k hk h24
  refine(a0X (q:=c9e K51 G51) (fun j=>(((),(k:Int),(j:Int),()),(p,()))) (rAt p k).length (fun j=>a4g ((rAt p k).getD j 0)) _ _ ?_ ?_ _ ?_:_)
  ·intro j f hj
   unfold c9e a4g
   have e1:decide ((k:Int)<(p.2.2.1.length:Int))=true:=by simp;omega
   have e2:decide (0<=(k:Int))=true:=by simp
   have e3:decide ((j:Int)<((rAt p k).length:Int))=true:=by simpa using hj
   have e4:decide (0<=(j:Int))=true:=by simp
   have ha:List.getD p.2.2.1 k (zero (Ty.slice (Ty.flt FloatKind.f32)))=rAt p k:=rfl
   have hb:List.getD (rAt p k) j (zero (Ty.flt FloatKind.f32))=(rAt p k).getD j 0:=rfl
   simp only[a4y j (by omega),e1,e2,Bool.and_self,cond_true,Int.toNat_natCast,ha,e3,e4,hb]
   show(bif fge ((rAt p k).getD j 0) 0 then bif !fle ((rAt p k).getD j 0) 1112014848 then _ else _ else _)=_
   cases fge ((rAt p k).getD j 0) 0
   ·rfl
   cases fle ((rAt p k).getD j 0) 1112014848<;>rfl
  ·intro f
   unfold c9e
   have e1:decide ((k:Int)<(p.2.2.1.length:Int))=true:=by simp;omega
   have e2:decide (0<=(k:Int))=true:=by simp
   have ha:List.getD p.2.2.1 k (zero (Ty.slice (Ty.flt FloatKind.f32)))=rAt p k:=rfl
   simp only[e1,e2,Bool.and_self,cond_true,Int.toNat_natCast,ha,Int.lt_irrefl,decide_false,cond_false]
  ·simp only[e1S]
   have:(rAt p k).length<=24:=h24
   omega
 have hl4 : c9g (((),(0:Int),()),(p,()))=some (bif a0w (a6d p) 0 p.1.length then .inl (((),()),(p,()))else .inr ((false,()),())):=by
  have key:∀(n k:Nat),k+n=p.1.length->a0w (a3z p) 0 k=true->∀m,n<m->a1u (b3K K51 G51 a4a a3D a4b a4c) m (((),(k:Int),()),(p,()))=some (bif a0w (a6d p) k n then .inl (((),()),(p,()))else .inr ((false,()),())):=by
   intro n
   induction n with
   | zero =>
     intro k hk _ m hm
     cases m with
     |zero=>omega
     | succ m =>
       show b3K K51 G51 a4a a3D a4b a4c _ _=_
       have:k=p.1.length:=by omega
       unfold b3K
       simp only[this,Int.lt_irrefl,decide_false,cond_false]
       rfl
   | succ n ih =>
     intro k hk hw m hm
     cases m with
     |zero=>omega
     | succ m =>
       show b3K K51 G51 a4a a3D a4b a4c (a1u (b3K K51 G51 a4a a3D a4b a4c) m) _=_
       have e1:decide ((k:Int)<(p.1.length:Int))=true:=by simp;omega
       have e1':decide ((k:Int)<(p.2.2.1.length:Int))=true:=by simp;omega
       have e2:decide (0<=(k:Int))=true:=by simp
       have ha:List.getD p.1 k (zero (Ty.flt FloatKind.f32))=wAt p k:=rfl
       have hr:List.getD p.2.2.1 k (zero (Ty.slice (Ty.flt FloatKind.f32)))=rAt p k:=rfl
       have hcons:a0w (a6d p) k (n+1)=bif a6d p k then a0w (a6d p) (k+1) n else false:=by
        show(a6d p k&&a0w (a6d p) (k+1) n)=_
        cases a6d p k<;>rfl
       have hnext:a3z p k=true->a0w (a3z p) 0 (k+1)=true:=by
        intro h
        refine a0I.2 fun j h0 hj=>?_
        by_cases c:j=k
        ·rw[c];exact h
        ·exact a0I.1 hw j h0 (by omega)
       have tail:a3z p k=true->(bif (((rAt p k).length:Int) != (p.2.1.length:Int))then some (Sum.inr ((false,()),()))else
        bif a4a (((),(k:Int),0,()),(p,()))then bif a4b (((),(k:Int),0,()),(p,()))then some (Sum.inr (((a4c (((),(k:Int),0,()),(p,()))).1.1,()),()))
        else a1u (b3K K51 G51 a4a a3D a4b a4c) m (((),IntKind.wrap IntKind.i64 ((a3D (((),(k:Int),0,()),(p,()))).1.2.1+1),()),((a3D (((),(k:Int),0,()),(p,()))).2.1,()))else none) =
        some (bif a0w (a6d p) k (n+1)then .inl (((),()),(p,()))else .inr ((false,()),())):=by
        intro hwk
        rw[hcons]
        unfold a6d d4y
        rw[hwk]
        by_cases h9:(rAt p k).length=p.2.1.length
        ·have e3:(((rAt p k).length:Int) != (p.2.1.length:Int))=false:=by simp;omega
         have e4:decide ((rAt p k).length=p.2.1.length)=true:=by simpa using h9
         have h99:=hl9 k (by omega) (by omega)
         rw[e3,e4]
         simp only[cond_false,a4a,a4b,a3D,a4c,h99,Option.isSome_some,cond_true,Bool.true_and]
         cases a9b (rAt p k)
         ·rfl
         ·simp only[cond_true,isR,xOf,cond_false,a4y k (by omega)]
          exact ih (k+1) (by omega) (hnext hwk) m (by omega)
        ·have e3:(((rAt p k).length:Int) != (p.2.1.length:Int))=true:=by simp;omega
         have e4:decide ((rAt p k).length=p.2.1.length)=false:=by simpa using h9
         rw[e3,e4];rfl
       have hno:a3z p k=false->some (Sum.inr ((false,()),()))=(some (bif a0w (a6d p) k (n+1)then .inl (((),()),(p,()))else .inr ((false,()),())):Option (c6l⊕c6m)):=by
        intro h
        rw[hcons]
        unfold a6d
        rw[h];rfl
       unfold b3K
       simp only[e1,e1',e2,Bool.and_self,cond_true,Int.toNat_natCast,ha,hr]
       show(bif fgt .f32 (wAt p k) 0 then bif !fle (wAt p k) 1120403456 then _ else _ else _)=_
       cases c1:fgt .f32 (wAt p k) 0
       ·exact hno (by unfold a3z;rw[c1];rfl)
       cases c2:fle (wAt p k) 1120403456
       ·exact hno (by unfold a3z;rw[c1,c2];rfl)
       simp only[Bool.not_true,cond_false,cond_true]
       by_cases h0:k=0
       ·have e3:decide ((k:Int)>0)=false:=by simp;omega
        rw[e3]
        exact tail (by unfold a3z;rw[c1,c2,h0];rfl)
       ·have e3:decide ((k:Int)>0)=true:=by simp;omega
        have e4:decide (0<=((k-1:Nat):Int))=true:=by simp
        have e5:decide (((k-1:Nat):Int)<(p.1.length:Int))=true:=by simp;omega
        have e6:decide (k=0)=false:=by simpa using h0
        have hb:List.getD p.1 (k-1) (zero (Ty.flt FloatKind.f32))=wAt p (k-1):=rfl
        have hwp:a3z p (k-1)=true:=a0I.1 hw (k-1) (Nat.zero_le _) (by omega)
        have hwp':fgt .f32 (wAt p (k-1)) 0=true /\ fle (wAt p (k-1)) 1120403456=true:=by
         unfold a3z at hwp
         simp only[Bool.and_eq_true]at hwp
         exact hwp.1
        have hfl:=c7b c1 c2 hwp'.1 hwp'.2
        simp only[e3,e0z k (by omega) (by omega),e4,e5,Bool.and_self,cond_true,Int.toNat_natCast,hb]
        show(bif fle (wAt p k) (wAt p (k-1))then _ else _)=_
        rw[hfl]
        cases c3:fgt .f32 (wAt p k) (wAt p (k-1))
        ·exact hno (by unfold a3z;rw[c1,c2,c3,e6];rfl)
        ·exact tail (by unfold a3z;rw[c1,c2,c3,e6];rfl)
  exact key p.1.length 0 (by omega) rfl _ (by simp only[e1U];omega)
 have hrows:a0w (a6d p) 0 p.1.length=(a0w (a3z p) 0 p.1.length&&a0w (d4y p) 0 p.1.length):=by
  rw[Bool.eq_iff_iff]
  simp only[Bool.and_eq_true]
  constructor
  ·intro h
   exact⟨a0I.2 fun j h0 hj=>by have:=a0I.1 h j h0 hj;unfold a6d at this;simp only[Bool.and_eq_true]at this;exact this.1,
    a0I.2 fun j h0 hj=>by have:=a0I.1 h j h0 hj;unfold a6d at this;simp only[Bool.and_eq_true]at this;exact this.2⟩
  ·rintro⟨h,h'⟩
   exact a0I.2 fun j h0 hj=>by unfold a6d;rw[a0I.1 h j h0 hj,a0I.1 h' j h0 hj];rfl
 simp only[b2k,b2l,b2n,b2m,hl4,Option.isSome_some,cond_true,cond_false,Bool.true_and]
 rw[h3,hrows]
 cases hwb:a0w (a3z p) 0 p.1.length
 ·rfl
 cases hrb:a0w (d4y p) 0 p.1.length
 ·simp only[Bool.and_false,Bool.and_self,isR,yOf,cond_true,cond_false]
  rfl
 simp only[Bool.and_self,cond_true,isR,xOf,cond_false,Bool.true_and,Bool.and_true]
 have hl14:b8d (((),(1:Int),()),(p,()))=some (bif a0w (c7N p) 0 p.2.1.length then .inl (((),()),(p,()))else .inr ((false,()),())):=by
  have h0:a0w (c7N p) 0 p.2.1.length=a0w (fun j=>c7N p (j+1)) 0 (p.2.1.length-1):=by
   rw[Bool.eq_iff_iff,a0I,a0I]
   constructor
   ·intro h j _ hj
    exact h (j+1) (by omega) (by omega)
   ·intro h j _ hj
    by_cases c:j=0
    ·subst c;rfl
    ·have:=h (j-1) (Nat.zero_le _) (by omega)
     rwa [show j-1+1=j by omega]at this
  rw[h0]
  refine(a0X (q:=b8c K51 G51) (fun k=>(((),((k+1:Nat):Int),()),(p,()))) (p.2.1.length-1) (fun j=>c7N p (j+1)) _ _ ?_ ?_ _ ?_:_)
  ·intro k f hk
   unfold b8c c7N
   have e1:decide (((k+1:Nat):Int)<(p.2.1.length:Int))=true:=by simp;omega
   have e2:decide (0<=((k+1:Nat):Int))=true:=by simp;omega
   have ha:List.getD p.2.1 (k+1) (zero (Ty.int IntKind.i64))=aAt p (k+1):=rfl
   have e4:decide (0<=((k+1-1:Nat):Int))=true:=by simp
   have e5:decide (((k+1-1:Nat):Int)<(p.2.1.length:Int))=true:=by simp;omega
   have hb:List.getD p.2.1 (k+1-1) (zero (Ty.int IntKind.i64))=aAt p (k+1-1):=rfl
   simp only[a4y (k+1) (by omega),e1,e2,Bool.and_self,cond_true,Int.toNat_natCast,ha,e0z (k+1) (by omega) (by omega),e4,e5,hb]
   have e6:decide (k+1=0)=false:=by simp
   have e7:decide (aAt p (k+1)<=aAt p (k+1-1))=!decide (aAt p (k+1-1)<aAt p (k+1)):=by
    by_cases h:aAt p (k+1-1)<aAt p (k+1)
    ·have:¬aAt p (k+1)<=aAt p (k+1-1):=by omega
     rw[decide_eq_false this,decide_eq_true h];rfl
    ·have:aAt p (k+1)<=aAt p (k+1-1):=by omega
     rw[decide_eq_true this,decide_eq_false h];rfl
   rw[e6,e7]
   cases decide (aAt p (k+1-1)<aAt p (k+1))<;>rfl
  ·intro f
   unfold b8c
   have:decide (((p.2.1.length-1+1:Nat):Int)<(p.2.1.length:Int))=false:=by simp;omega
   simp only[this,cond_false]
  ·simp only[c9d];omega
 simp only[a8g,a8h,a8j,a8i,hl14,Option.isSome_some,cond_true]
 cases a0w (c7N p) 0 p.2.1.length
 ·rfl
 simp only[cond_true,isR,xOf,cond_false,Bool.true_and]
 have g1:(decide (0<=0)&&decide ((0:Int)<(List.length (α:=Den (Ty.int IntKind.i64)) p.2.1:Int)))=true:=by
  have:(0:Int)<(p.2.1.length:Int):=by omega
  exact(decide_eq_true this:_)
 have g2:IntKind.wrap IntKind.i64 ((List.length (α:=Den (Ty.int IntKind.i64)) p.2.1:Int)-1)=((List.length (α:=Den (Ty.int IntKind.i64)) p.2.1-1:Nat):Int):=e0z _ (by omega) (by omega)
 have g3:decide (((List.length (α:=Den (Ty.int IntKind.i64)) p.2.1-1:Nat):Int)<(List.length (α:=Den (Ty.int IntKind.i64)) p.2.1:Int))=true:=by simp;omega
 have g4:decide (0<=((List.length (α:=Den (Ty.int IntKind.i64)) p.2.1-1:Nat):Int))=true:=by simp
 have ha:List.getD p.2.1 0 (zero (Ty.int IntKind.i64))=aAt p 0:=rfl
 have hb:List.getD p.2.1 (p.2.1.length-1) (zero (Ty.int IntKind.i64))=aAt p (p.2.1.length-1):=rfl
 erw [g1]
 simp only[g2,g3,g4,Int.toNat_natCast,Int.toNat_zero,ha,hb,Bool.and_self,Bool.not_true,cond_false,cond_true]
 cases (aAt p 0==0)
 ·rfl
 cases (aAt p (p.2.1.length-1)==180)<;>rfl
def a3e (s:Den a0S):List (Nat×Nat):=[s.snd.fst.fst,s.snd.fst.snd.fst,s.snd.fst.snd.snd.fst,s.snd.fst.snd.snd.snd.fst,s.snd.fst.snd.snd.snd.snd.fst,s.snd.fst.snd.snd.snd.snd.snd.fst,s.snd.fst.snd.snd.snd.snd.snd.snd.fst,s.snd.fst.snd.snd.snd.snd.snd.snd.snd.fst,s.snd.fst.snd.snd.snd.snd.snd.snd.snd.snd.fst,s.snd.fst.snd.snd.snd.snd.snd.snd.snd.snd.snd.fst,s.snd.fst.snd.snd.snd.snd.snd.snd.snd.snd.snd.snd.fst,s.snd.fst.snd.snd.snd.snd.snd.snd.snd.snd.snd.snd.snd.fst,s.snd.fst.snd.snd.snd.snd.snd.snd.snd.snd.snd.snd.snd.snd.fst]
theorem c0n (s:Den a0S):(a3e s).length=13:=rfl
theorem c5h (l:List (Nat×Nat)) (h:l.length<=13):e5n (l,())=some (a7I l,()):=by
 have hl:b8Y ((l,(l.length:Int),(0:Int),()),())=some (bif a7I l then .inl ((),())else .inr ((false,()),())):=by
  refine(a0X (q:=b8X K45 G45) (fun k=>((l,(l.length:Int),(k:Int),()),())) l.length (fun i=>a3M (atV l i)) _ _ ?_ ?_ _ ?_:_)
  ·intro k f hk
   unfold b8X
   have e1:decide ((k:Int)<(l.length:Int))=true:=by simpa using hk
   have e2:decide (0<=(k:Int))=true:=by simp
   have ha:List.getD l k (zero (Ty.cpx FloatKind.f32))=atV l k:=rfl
   have e3:F45 (atV l k,())=some (a3M (atV l k),()):=a5a _
   simp only[a4y k (by omega),e1,e2,Bool.and_self,cond_true,Int.toNat_natCast,ha,K45,G45,e3,Option.isSome_some,Option.getD_some]
   cases a3M (atV l k)<;>rfl
  ·intro f
   simp[b8X]
  ·simp only[d0o];omega
 unfold e5n f4P
 simp only[b5d,b5e,b5f,hl,Option.isSome_some,cond_true]
 cases a7I l<;>rfl
theorem e3E (s:Den a0S):e6A (s,())=some (a7I (a3e s),()):=by
 have hl:b8g (((),0,()),(s.fst,s.snd.fst),())=some (bif a7I (a3e s)then .inl ((),())else .inr ((false,()),())):=by
  refine(a0X (q:=c3x K52 G52) (fun k=>(((),(k:Int),()),(s.fst,s.snd.fst),())) 13 (fun i=>a3M (atV (a3e s) i)) _ _ ?_ ?_ _ ?_:_)
  ·intro k f hk
   unfold c3x
   have e1:decide ((k:Int)<13)=true:=by simp;omega
   have e2:decide (0<=(k:Int))=true:=by simp
   have e3:F52 ((a3e s).getD k (0,0),())=some (a3M (atV (a3e s) k),()):=e9h _
   generalize a3M (atV (a3e s) k)=b at e3 ⊢
   simp only[a4y k (by omega),e1,e2,Bool.and_self,cond_true,Int.toNat_natCast]
   unfold a3e at e3
   simp only[K52,G52,e3,Option.isSome_some,Option.getD_some,cond_true]
   cases b<;>rfl
  ·intro f
   rfl
  ·simp only[c9i];omega
 unfold e6A f3v
 simp only[b3O,b3P,b3Q,hl,Option.isSome_some,cond_true]
 cases a7I (a3e s)<;>rfl
def a5h (l:List (Den a0S)) (i:Nat):Den a0S:=l.getD i (zero a0S)
def a5b (l:List Int) (i:Nat):Int:=l.getD i 0
def b6P (s:Den a0S):Bool:=a5g s.fst&&a7I (a3e s)
def b1P (hs:List Int) (k:Nat):Bool:=a0L (a5b hs k) 0 10000000&&(decide (k=0)||!decide (a5b hs k<IntKind.i64.wrap (a5b hs (k-1)+21600)))
def a4D (t:Den S30):Bool:=a0L (t.1.length:Int) 1 20&&(a0L (t.2.1.length:Int) 1 60&&(a0w (fun i=>b6P (a5h t.1 i)) 0 t.1.length&&a0w (b1P t.2.1) 0 t.2.1.length))
theorem d2y (t:Den S30) (h:a7C t):F91 (t,())=some (a4D t,()):=by
 obtain⟨st,hs,_⟩:=t
 obtain⟨h1,h2⟩:=h
 have h1:st.length<=21:=h1
 have h2:hs.length<=6:=h2
 have hl:d0u (((),st,(st.length:Int),0,()),(st,hs,()),())=some (bif a0w (fun i=>b6P (a5h st i)) 0 st.length then .inl (((),()),(st,hs,()),())else .inr ((false,()),())):=by
  refine(a0X (q:=d0t K44 G44 K61 G61 c6z c6A K43 G43) (fun k=>(((),st,(st.length:Int),(k:Int),()),(st,hs,()),())) st.length (fun i=>b6P (a5h st i)) _ _ ?_ ?_ _ ?_:_)
  ·intro k f hk
   unfold d0t
   have e1:decide ((k:Int)<(st.length:Int))=true:=by simpa using hk
   have e2:decide (0<=(k:Int))=true:=by simp
   have ha:List.getD st k (zero a0S)=a5h st k:=rfl
   have e3:F61 ((a5h st k).fst,())=some (a5g (a5h st k).fst,()):=a9a _
   have e4:e5n (a3e (a5h st k),())=some (a7I (a3e (a5h st k)),()):=c5h _ (by rw[c0n];decide)
   unfold b6P
   simp only[a4y k (by omega),e1,e2,Bool.and_self,cond_true,Int.toNat_natCast,ha,K61,G61,e3,Option.isSome_some,Option.getD_some]
   unfold a3e at e4 ⊢
   simp only[c6z,c6A,e4,Option.isSome_some,Option.getD_some]
   cases a5g (a5h st k).fst
   ·rfl
   ·cases a7I _<;>rfl
  ·intro f
   simp[d0t]
  ·simp only[e2x];omega
 have hl2:b9c (((),hs,(hs.length:Int),0,()),(st,hs,()),())=some (bif a0w (b1P hs) 0 hs.length then .inl ((),())else .inr ((false,()),())):=by
  refine(a0X (q:=b9b K44 G44 K61 G61 c6z c6A K43 G43) (fun k=>(((),hs,(hs.length:Int),(k:Int),()),(st,hs,()),())) hs.length (b1P hs) _ _ ?_ ?_ _ ?_:_)
  ·intro k f hk
   unfold b9b
   have e1:decide ((k:Int)<(hs.length:Int))=true:=by simpa using hk
   have e2:decide (0<=(k:Int))=true:=by simp
   have ha:∀i,List.getD hs i (zero (Ty.int IntKind.i64))=a5b hs i:=fun _=>rfl
   have e3:F43 (a5b hs k,())=some (a0L (a5b hs k) 0 10000000,()):=c4Q _
   unfold b1P
   simp only[a4y k (by omega),e1,e2,Bool.and_self,cond_true,Int.toNat_natCast,ha,K43,G43,e3,Option.isSome_some,Option.getD_some]
   cases a0L (a5b hs k) 0 10000000
   ·rfl
   ·cases k with
    |zero=>rfl
    | succ k =>
      have e5:IntKind.i64.wrap (((k+1:Nat):Int)-1)=(k:Int):=by rw[w64 (by omega) (by omega)];omega
      have e6:decide (((k+1:Nat):Int)>0)=true:=decide_eq_true (by omega)
      have e7:(decide (0<=(k:Int))&&decide ((k:Int)<(hs.length:Int)))=true:=by simp only[Bool.and_eq_true,decide_eq_true_eq];omega
      simp only[e5,e6,e7,cond_true,Int.toNat_natCast,Bool.not_true,cond_false,Nat.add_sub_cancel,Bool.true_and]
      have e8:decide (k+1=0)=false:=by simp
      rw[e8,Bool.false_or]
      cases decide (a5b hs (k+1)<IntKind.i64.wrap (a5b hs k+21600))<;>rfl
  ·intro f
   simp[b9b]
  ·simp only[d0s];omega
 have i1:F44 ((st.length:Int),1,20,())=some (a0L (st.length:Int) 1 20,()):=a2P _ _ _
 have i2:F44 ((hs.length:Int),1,60,())=some (a0L (hs.length:Int) 1 60,()):=a2P _ _ _
 unfold F91 r91 a4D
 simp only[K44,G44,i1,i2,Option.isSome_some,Option.getD_some,cond_true,b9d,b9e,b9f,b9g,hl]
 cases a0L (st.length:Int) 1 20
 ·rfl
 cases a0L (hs.length:Int) 1 60
 ·rfl
 cases a0w (fun i=>b6P (a5h st i)) 0 st.length
 ·rfl
 simp only[cond_true,isR,xOf,Bool.not_true,cond_false,b0S,b0T,b0U,hl2,Option.isSome_some]
 cases a0w (b1P hs) 0 hs.length<;>rfl
theorem e3F (t:Den S30) (h:a7C t):f0z (t,())=some (a4D t,()):=by
 obtain⟨st,hs,_⟩:=t
 obtain⟨h1,h2⟩:=h
 have h1:st.length<=21:=h1
 have h2:hs.length<=6:=h2
 have hl:b8o (((),0,()),(st,hs,()),())=some (bif a0w (fun i=>b6P (a5h st i)) 0 st.length then .inl (((),()),(st,hs,()),())else .inr ((false,()),())):=by
  refine(a0X (q:=b8n K51 G51 K96 G96 d3O d3P) (fun k=>(((),(k:Int),()),(st,hs,()),())) st.length (fun i=>b6P (a5h st i)) _ _ ?_ ?_ _ ?_:_)
  ·intro k f hk
   unfold b8n
   have e1:decide ((k:Int)<(st.length:Int))=true:=by simpa using hk
   have e2:decide (0<=(k:Int))=true:=by simp
   have ha:List.getD st k (zero a0S)=a5h st k:=rfl
   have e3:F96 ((a5h st k).fst,())=some (a5g (a5h st k).fst,()):=e0x _
   have e4:e6A (a5h st k,())=some (a7I (a3e (a5h st k)),()):=e3E _
   unfold b6P
   simp only[a4y k (by omega),e1,e2,Bool.and_self,cond_true,Int.toNat_natCast,ha,K96,G96,e3,d3O,d3P,e4,Option.isSome_some,Option.getD_some]
   cases a5g (a5h st k).fst
   ·rfl
   ·cases a7I _<;>rfl
  ·intro f
   simp[b8n]
  ·simp only[c9m];omega
 have hl2:b8m (((),0,()),(st,hs,()),())=some (bif a0w (b1P hs) 0 hs.length then .inl ((),())else .inr ((false,()),())):=by
  refine(a0X (q:=b8l K51 G51 K96 G96 d3O d3P) (fun k=>(((),(k:Int),()),(st,hs,()),())) hs.length (b1P hs) _ _ ?_ ?_ _ ?_:_)
  ·intro k f hk
   unfold b8l
   have e1:decide ((k:Int)<(hs.length:Int))=true:=by simpa using hk
   have e2:decide (0<=(k:Int))=true:=by simp
   have ha:∀i,List.getD hs i (zero (Ty.int IntKind.i64))=a5b hs i:=fun _=>rfl
   have e3:F51 (a5b hs k,0,10000000,())=some (a0L (a5b hs k) 0 10000000,()):=a5x _ _ _
   unfold b1P
   simp only[a4y k (by omega),e1,e2,Bool.and_self,cond_true,Int.toNat_natCast,ha,K51,G51,e3,Option.isSome_some,Option.getD_some]
   cases a0L (a5b hs k) 0 10000000
   ·rfl
   ·cases k with
    |zero=>rfl
    | succ k =>
      have e5:IntKind.i64.wrap (((k+1:Nat):Int)-1)=(k:Int):=by rw[w64 (by omega) (by omega)];omega
      have e6:decide (((k+1:Nat):Int)>0)=true:=decide_eq_true (by omega)
      have e7:(decide (0<=(k:Int))&&decide ((k:Int)<(hs.length:Int)))=true:=by simp only[Bool.and_eq_true,decide_eq_true_eq];omega
      simp only[e5,e6,e7,cond_true,Int.toNat_natCast,Bool.not_true,cond_false,Nat.add_sub_cancel,Bool.true_and]
      have e8:decide (k+1=0)=false:=by simp
      rw[e8,Bool.false_or]
      cases decide (a5b hs (k+1)<IntKind.i64.wrap (a5b hs k+21600))<;>rfl
  ·intro f
   simp[b8l]
  ·simp only[c9l];omega
 have i1:F51 ((st.length:Int),1,20,())=some (a0L (st.length:Int) 1 20,()):=a5x _ _ _
 have i2:F51 ((hs.length:Int),1,60,())=some (a0L (hs.length:Int) 1 60,()):=a5x _ _ _
 unfold f0z f3x a4D
 simp only[K51,G51,i1,i2,Option.isSome_some,Option.getD_some,cond_true,b0C,b0D,b0E,b0F,hl]
 cases a0L (st.length:Int) 1 20
 ·rfl
 cases a0L (hs.length:Int) 1 60
 ·rfl
 cases a0w (fun i=>b6P (a5h st i)) 0 st.length
 ·rfl
 simp only[cond_true,isR,xOf,Bool.not_true,cond_false,b0z,b0A,b0B,hl2,Option.isSome_some]
 cases a0w (b1P hs) 0 hs.length<;>rfl
theorem d2z (m n:Nat) (hn:0<n) (more:Nat):∀Q,Q=2*(m <<< more/n)+(m <<< more%n != 0).toNat->Q*n<=2*(m*2^more)+n /\ 2*(m*2^more)<=Q*n+n:=by
 intro Q hQ
 rw[Nat.shiftLeft_eq]at hQ
 have h1:=Nat.div_add_mod (m*2^more) n
 have h2:=Nat.mod_lt (m*2^more) hn
 generalize m*2^more=x at *
 have h3:2*(x/n)*n=2*(n*(x/n)):=by rw[Nat.mul_assoc,Nat.mul_comm (x/n)]
 subst hQ
 rw[Nat.add_mul,h3]
 generalize n*(x/n)=y at *
 by_cases c:x%n=0
 ·rw[c]
  simp only[bne_self_eq_false,Bool.toNat_false,Nat.zero_mul]
  omega
 ·have:(x%n != 0)=true:=by simpa using c
  rw[this]
  simp only[Bool.toNat_true,Nat.one_mul]
  omega
theorem d2A (m n:Nat) (hm:m≠0) (hn:0<n):2^54*n<=m*2^(54+n.log2-m.log2)*2:=by
 have l1:2^m.log2<=m:=Nat.log2_self_le hm
 have l2:n<2^(n.log2+1):=Nat.lt_log2_self
 have h1:2^(54+n.log2)<=m*2^(54+n.log2-m.log2):=by
  have:2^m.log2*2^(54+n.log2-m.log2)<=m*2^(54+n.log2-m.log2):=Nat.mul_le_mul_right _ l1
  rw[<- Nat.pow_add]at this
  exact Nat.le_trans (Nat.pow_le_pow_right (by decide) (by omega)) this
 have h2:2^54*n<=2^54*2^(n.log2+1):=Nat.mul_le_mul_left _ (Nat.le_of_lt l2)
 rw[<- Nat.pow_add]at h2
 have h3:2^(54+(n.log2+1))=2^(54+n.log2)*2:=by rw[<- Nat.pow_succ];congr 1
 omega
theorem f9g {a b:Nat} {x y q:Rat} (ha:IsR a x) (hb:IsR b y) (hy:y≠0) (hq:q*y=x) (B:Int) (h1:-1022<=B) (h2:B<=1022) (hle:q<=p2 B) (hge:-p2 B<=q) :
 ∃r,IsR (a0i .quo .f64 a b) r /\ c7a r q (p2 (B-52)):=by
 obtain⟨s,m,e,hr,he,rfl⟩:=ha
 obtain⟨t,n,f,hr',hf,rfl⟩:=hb
 have e1:a0i .quo .f64 a b=(((Ieee.double.read a).quotient 54 (Ieee.double.read b)).map Ieee.double.write).getD (qn .f64):=rfl
 have hn0:n≠0:=fun h=>hy (by rw[h,a6O])
 have hn:0<n:=Nat.pos_of_ne_zero hn0
 rw[e1,hr,hr']
 unfold Ieee.Datum.quotient
 dsimp only
 rw[if_neg hn0]
 show ∃r,IsR (Ieee.double.nearest (s ^^ t) (2*(m <<< (54+n.log2-m.log2)/n)+(m <<< (54+n.log2-m.log2)%n != 0).toNat) (e-f-((54+n.log2-m.log2:Nat):Int)-1)) r /\ _
 have hN:=d2z m n hn (54+n.log2-m.log2) _ rfl
 have hzero:m=0->2*(m <<< (54+n.log2-m.log2)/n)+(m <<< (54+n.log2-m.log2)%n != 0).toNat=0:=by
  intro h
  subst h
  simp[Nat.shiftLeft_eq]
 have hplace:m≠0->_:=fun h=>d2A m n h hn
 generalize hQ:2*(m <<< (54+n.log2-m.log2)/n)+(m <<< (54+n.log2-m.log2)%n != 0).toNat=Q at *
 generalize hM:54+n.log2-m.log2=more at *
 obtain⟨pl,hpl⟩:∃pl:Int,pl=e-f-(more:Int)-1:=⟨_,rfl⟩
 rw[<- hpl]
 have hnR:(0:Rat)<(n:Rat):=by
  have:(0:Rat)<((n:Nat):Rat):=by exact_mod_cast Rat.natCast_lt_natCast.2 hn
  exact this
 have hqv:q*(n:Rat)=sgR (s ^^ t)*(2*((m:Rat)*((2^more:Nat):Rat)))*p2 pl:=by
  have e2:e=f+(more:Int)+1+pl:=by omega
  have hx:RV s m e=sgR s*(2*((m:Rat)*((2^more:Nat):Rat)))*p2 pl*p2 f:=by
   unfold RV
   rw[e2,a1M,a6N,a1M,a2c]
   grind
  have hf:=a1r f
  have hy2:RV t n f=sgR t*(n:Rat)*p2 f:=rfl
  rw[hx,hy2]at hq
  have hs:sgR t*sgR t=1:=by cases t<;>decide +kernel
  have h3:(q*(n:Rat)-sgR (s ^^ t)*(2*((m:Rat)*((2^more:Nat):Rat)))*p2 pl)*p2 f=0:=by
   rw[e3z]
   have:q*(sgR t*(n:Rat)*p2 f)*sgR t=sgR s*(2*((m:Rat)*((2^more:Nat):Rat)))*p2 pl*p2 f*sgR t:=by rw[hq]
   grind
  rcases Rat.mul_eq_zero.1 h3 with h4|h4
  ·grind
  ·grind
 have hp:=a1r pl
 have n1:(Q:Rat)*(n:Rat)<=2*((m:Rat)*((2^more:Nat):Rat))+(n:Rat):=by exact_mod_cast a1e hN.1
 have n2:2*((m:Rat)*((2^more:Nat):Rat))<=(Q:Rat)*(n:Rat)+(n:Rat):=by exact_mod_cast a1e hN.2
 have m1:=a1t n1 (Rat.le_of_lt hp)
 have m2:=a1t n2 (Rat.le_of_lt hp)
 have hnear:c7a (RV (s ^^ t) Q pl) q (p2 pl):=by
  unfold RV
  have g1:(sgR (s ^^ t)*(Q:Rat)*p2 pl-q-p2 pl)*(n:Rat)<=0:=by
   have:sgR (s ^^ t)*(Q:Rat)*p2 pl*(n:Rat)-q*(n:Rat)-p2 pl*(n:Rat)<=0:=by
    rw[hqv]
    cases (s ^^ t)
    ·have:sgR false=1:=rfl
     rw[this];grind
    ·have:sgR true=-1:=rfl
     rw[this];grind
   grind
  have g2:(q-sgR (s ^^ t)*(Q:Rat)*p2 pl-p2 pl)*(n:Rat)<=0:=by
   have:q*(n:Rat)-sgR (s ^^ t)*(Q:Rat)*p2 pl*(n:Rat)-p2 pl*(n:Rat)<=0:=by
    rw[hqv]
    cases (s ^^ t)
    ·have:sgR false=1:=rfl
     rw[this];grind
    ·have:sgR true=-1:=rfl
     rw[this];grind
   grind
  have neg_of:∀z:Rat,z*(n:Rat)<=0->z<=0:=by
   intro z hz
   apply Classical.byContradiction
   intro hc
   have:=Rat.mul_pos (show 0<z by grind) hnR
   grind
  have k1:=neg_of _ g1
  have k2:=neg_of _ g2
  constructor<;>grind
 by_cases hm0:m=0
 ·have hq0:=hzero hm0
  subst hm0
  rw[hq0]at hnear ⊢
  have hqz:q=0:=by
   have:q*(n:Rat)=0:=by
    rw[hqv]
    have:((0:Nat):Rat)=0:=by simp
    rw[this]
    grind
   rcases Rat.mul_eq_zero.1 this with h|h
   ·exact h
   ·grind
  obtain⟨r,h3,h4⟩:=b6O (s ^^ t) 0 pl B h1 h2 (by rw[a6O];exact a1r _) (by rw[a6O];have:=a1r (B+1);grind)
  rw[a6O]at h4
  have hle2:p2 (B-53)<=p2 (B-52):=c2q (by omega)
  refine⟨r,h3,?_⟩
  rw[hqz]
  exact⟨by have:=h4.1;grind,by have:=h4.2;grind⟩
 ·have hpp:=hplace hm0
  have h54:p2 (54+pl)<=p2 B:=by
   have e3:p2 (54+pl)=((2^54:Nat):Rat)*p2 pl:=by rw[a1M,show(54:Int)=((54:Nat):Int)from rfl,a2c]
   have n3:((2^54:Nat):Rat)*(n:Rat)<=(m:Rat)*((2^more:Nat):Rat)*2:=by exact_mod_cast a1e hpp
   have m3:=a1t n3 (Rat.le_of_lt hp)
   have h5:(p2 (54+pl)-p2 B)*(n:Rat)<=0:=by
    have hle':=a1t hle (Rat.le_of_lt hnR)
    have hge':=a1t hge (Rat.le_of_lt hnR)
    rw[hqv]at hle' hge'
    rw[e3]
    generalize (s ^^ t)=u at *
    cases u
    ·have:sgR false=1:=rfl
     rw[this]at hle';grind
    ·have:sgR true=-1:=rfl
     rw[this]at hge';grind
   apply Classical.byContradiction
   intro hc
   have:=Rat.mul_pos (show 0<p2 (54+pl)-p2 B by grind) hnR
   grind
  have hplB:54+pl<=B:=by
   apply Classical.byContradiction
   intro hc
   have h6:=c2q (show B+1<=54+pl by omega)
   have h7:=a6N B
   have:=a1r B
   grind
  have hsm:p2 pl<=p2 (B-54):=c2q (by omega)
  have e5:p2 (B-53)=2*p2 (B-54):=by rw[<- a6N];congr 1;omega
  have e6:p2 (B-52)=2*p2 (B-53):=by rw[<- a6N];congr 1;omega
  have e7:p2 (B+1)=2*p2 B:=a6N B
  have hB0:p2 (B-54)<p2 B:=by
   have h8:p2 (B-54+1)<=p2 B:=c2q (by omega)
   rw[a6N]at h8
   have:=a1r (B-54)
   grind
  obtain⟨r,h3,h4⟩:=b6O (s ^^ t) Q pl B h1 h2 (by have:=hnear.1;grind) (by have:=hnear.2;grind)
  refine⟨r,h3,?_⟩
  have:=a1r (B-54)
  exact⟨by have:=h4.1;have:=hnear.1;grind,by have:=h4.2;have:=hnear.2;grind⟩
set_option maxRecDepth 100000
set_option maxHeartbeats 0
def d2B (z w:Nat×Nat):Nat×Nat:=(a0i .sub .f64 (a0i .mul .f64 z.1 w.1) (a0i .mul .f64 z.2 w.2),a0i .add .f64 (a0i .mul .f64 z.1 w.2) (a0i .mul .f64 z.2 w.1))
def e9o:Nat×Nat:=(4607181046959943561,4580687535080594718)
def a1I:Nat->Nat×Nat
 |0=>(4607182418800017408,0)
 |n+1=>d2B (a1I n) e9o
structure TE where
 k:Nat
 a:Nat
 b:Nat
 c:Nat
 s:Nat
def b2M (w C:Nat):Bool:=match Ieee.double.read w with
 | .number s m e=>decide (e <= -40)&&decide (-1074<=e)&&Nat.ble C 2199023255552 &&
   decide ((if s then -(m:Int)else(m:Int))<=((C:Int)-1099511627776)*(2^(-40-e).toNat:Nat)+(2^(-40-e).toNat:Nat)) &&
   decide (((C:Int)-1099511627776)*(2^(-40-e).toNat:Nat)<=(if s then -(m:Int)else(m:Int))+(2^(-40-e).toNat:Nat))
 |_=>false
def c0o:Nat->Nat×Nat->List TE->Bool
 |k,_,[]=>Nat.beq k 360
 |k,z,t::r=>Nat.beq t.k k&&Nat.beq t.a z.1&&Nat.beq t.b z.2&&b2M t.a t.c&&b2M t.b t.s&&c0o (k+1) (d2B (t.a,t.b) e9o) r
def e3G:List TE:=[
 ⟨0,4607182418800017408,0,2199023255552,1099511627776⟩,
 ⟨1,4607181046959943561,4580687535080594718,2198855794605,1118700751586⟩,
 ⟨2,4607176931857597797,4585190368566828071,2198353462776,1137884030204⟩,
 ⟨3,4607170074746480155,4587703227212876044,2197516413079,1157055620216⟩,
 ⟨4,4607160477715333107,4589690904329736486,2196344900488,1176209681770⟩,
 ⟨5,4607148143687505309,4590944653792149759,2194839281857,1195340380355⟩,
 ⟨6,4607133076420061121,4592196490234713959,2193000015811,1214441888572⟩,
 ⟨7,4607115280502636166,4593446032335921868,2190827662610,1233508387919⟩,
 ⟨8,4607094761356039284,4594182259695525397,2188322883973,1252534070555⟩,
 ⟨9,4607071525230601301,4594804165878240112,2185486442879,1271513141073⟩,
 ⟨10,4607045579204271120,4595424355236410244,2182319203337,1290439818263⟩,
 ⟨11,4607016931180459706,4596042638854349385,2178822130118,1309308336877⟩,
 ⟨12,4606985589885632631,4596658828396878062,2174996288464,1328112949381⟩,
 ⟨13,4606951564866651910,4597272736166692460,2170842843764,1346847927708⟩,
 ⟨14,4606914866487867932,4597884175161538835,2166363061198,1365507565001⟩,
 ⟨15,4606875505927962379,4598334089338226315,2161558305350,1384086177356⟩,
 ⟨16,4606833495176543093,4598637061089693219,2156430039796,1402578105546⟩,
 ⟨17,4606788847030491924,4598938520319677888,2150979826655,1420977716751⟩,
 ⟨18,4606741575090066675,4599238375200778568,2145209326115,1439279406272⟩,
 ⟨19,4606691693754758334,4599536534394293715,2139120295926,1457477599235⟩,
 ⟨20,4606639218218904846,4599832907078044652,2132714590865,1475566752296⟩,
 ⟨21,4606584164467062775,4600127402974040882,2125994162174,1493541355323⟩,
 ⟨22,4606526549269138249,4600419932375979638,2118961056958,1511395933078⟩,
 ⟨23,4606466390175278687,4600710406176571294,2111617417571,1529125046884⟩,
 ⟨24,4606403705510526853,4600998735894682307,2103965480956,1546723296280⟩,
 ⟨25,4606338514369238870,4601284833702287428,2096007577967,1564185320670⟩,
 ⟨26,4606270836609267896,4601568612451222968,2087746132658,1581505800952⟩,
 ⟨27,4606200692845915227,4601849985699732975,2079183661545,1598679461139⟩,
 ⟨28,4606128104445650677,4602128867738800229,2070322772841,1615701069969⟩,
 ⟨29,4606053093519604147,4602405173618254039,2061166165658,1632565442495⟩,
 ⟨30,4605975682916830359,4602678819172646889,2051716629186,1649267441664⟩,
 ⟨31,4605895896217348810,4602814270109769479,2041977041847,1665801979887⟩,
 ⟨32,4605813757724961074,4602948307947150621,2031950370413,1682164020583⟩,
 ⟨33,4605729292459847624,4603080891855566606,2021639669105,1698348579716⟩,
 ⟨34,4605642526150946448,4603211981448674563,2011048078663,1714350727312⟩,
 ⟨35,4605553485228115762,4603341536795314536,2000178825388,1730165588962⟩,
 ⟨36,4605462196814083219,4603469518431672908,1989035220160,1745788347307⟩,
 ⟨37,4605368688716184063,4603595887373303459,1977620657428,1761214243502⟩,
 ⟨38,4605272989417890748,4603720605127002405,1965938614179,1776438578670⟩,
 ⟨39,4605175128070136594,4603843633702533800,1953992648877,1791456715332⟩,
 ⟨40,4605075134482436131,4603964935624201734,1941786400379,1806264078817⟩,
 ⟨41,4604973039113804833,4604084473942265789,1929323586825,1820856158658⟩,
 ⟨42,4604868873063481004,4604202212244196288,1916608004510,1835228509968⟩,
 ⟨43,4604762668061452652,4604318114665765906,1903643526723,1849376754789⟩,
 ⟨44,4604654456458792226,4604432145901974262,1890434102570,1863296583428⟩,
 ⟨45,4604544271217802166,4604544271217802161,1876983755770,1876983755770⟩,
 ⟨46,4604432145901974265,4604654456458792220,1863296583428,1890434102570⟩,
 ⟨47,4604318114665765908,4604762668061452644,1849376754789,1903643526723⟩,
 ⟨48,4604202212244196288,4604868873063480994,1835228509968,1916608004510⟩,
 ⟨49,4604084473942265788,4604973039113804822,1820856158658,1929323586825⟩,
 ⟨50,4603964935624201733,4605075134482436119,1806264078817,1941786400379⟩,
 ⟨51,4603843633702533798,4605175128070136581,1791456715332,1953992648877⟩,
 ⟨52,4603720605127002402,4605272989417890734,1776438578670,1965938614179⟩,
 ⟨53,4603595887373303455,4605368688716184048,1761214243502,1977620657428⟩,
 ⟨54,4603469518431672903,4605462196814083203,1745788347307,1989035220160⟩,
 ⟨55,4603341536795314530,4605553485228115745,1730165588962,2000178825388⟩,
 ⟨56,4603211981448674556,4605642526150946430,1714350727312,2011048078663⟩,
 ⟨57,4603080891855566599,4605729292459847604,1698348579716,2021639669105⟩,
 ⟨58,4602948307947150613,4605813757724961052,1682164020583,2031950370413⟩,
 ⟨59,4602814270109769470,4605895896217348788,1665801979887,2041977041847⟩,
 ⟨60,4602678819172646869,4605975682916830336,1649267441664,2051716629186⟩,
 ⟨61,4602405173618254018,4606053093519604123,1632565442495,2061166165658⟩,
 ⟨62,4602128867738800207,4606128104445650651,1615701069969,2070322772841⟩,
 ⟨63,4601849985699732952,4606200692845915199,1598679461139,2079183661545⟩,
 ⟨64,4601568612451222944,4606270836609267867,1581505800952,2087746132658⟩,
 ⟨65,4601284833702287404,4606338514369238840,1564185320670,2096007577967⟩,
 ⟨66,4600998735894682283,4606403705510526821,1546723296280,2103965480956⟩,
 ⟨67,4600710406176571270,4606466390175278653,1529125046884,2111617417571⟩,
 ⟨68,4600419932375979614,4606526549269138213,1511395933078,2118961056958⟩,
 ⟨69,4600127402974040858,4606584164467062737,1493541355323,2125994162174⟩,
 ⟨70,4599832907078044629,4606639218218904807,1475566752296,2132714590865⟩,
 ⟨71,4599536534394293692,4606691693754758294,1457477599235,2139120295926⟩,
 ⟨72,4599238375200778546,4606741575090066634,1439279406272,2145209326115⟩,
 ⟨73,4598938520319677867,4606788847030491881,1420977716751,2150979826655⟩,
 ⟨74,4598637061089693199,4606833495176543048,1402578105546,2156430039796⟩,
 ⟨75,4598334089338226296,4606875505927962332,1384086177356,2161558305350⟩,
 ⟨76,4597884175161538799,4606914866487867883,1365507565001,2166363061198⟩,
 ⟨77,4597272736166692426,4606951564866651860,1346847927708,2170842843764⟩,
 ⟨78,4596658828396878031,4606985589885632580,1328112949381,2174996288464⟩,
 ⟨79,4596042638854349356,4607016931180459653,1309308336877,2178822130118⟩,
 ⟨80,4595424355236410218,4607045579204271066,1290439818263,2182319203337⟩,
 ⟨81,4594804165878240089,4607071525230601246,1271513141073,2185486442879⟩,
 ⟨82,4594182259695525377,4607094761356039227,1252534070555,2188322883973⟩,
 ⟨83,4593446032335921836,4607115280502636108,1233508387919,2190827662610⟩,
 ⟨84,4592196490234713933,4607133076420061062,1214441888572,2193000015811⟩,
 ⟨85,4590944653792149740,4607148143687505249,1195340380355,2194839281857⟩,
 ⟨86,4589690904329736474,4607160477715333045,1176209681770,2196344900488⟩,
 ⟨87,4587703227212876035,4607170074746480091,1157055620216,2197516413079⟩,
 ⟨88,4585190368566828078,4607176931857597732,1137884030204,2198353462776⟩,
 ⟨89,4580687535080594769,4607181046959943494,1118700751586,2198855794605⟩,
 ⟨90,4374754456781193216,4607182418800017340,1099511627776,2199023255552⟩,
 ⟨91,13804059571935370399,4607181046959943493,1080322503966,2198855794605⟩,
 ⟨92,13808562405421603796,4607176931857597729,1061139225348,2198353462776⟩,
 ⟨93,13811075264067651750,4607170074746480087,1041967635336,2197516413079⟩,
 ⟨94,13813062941184512234,4607160477715333040,1022813573782,2196344900488⟩,
 ⟨95,13814316690646925498,4607148143687505242,1003682875197,2194839281857⟩,
 ⟨96,13815568527089489689,4607133076420061054,984581366980,2193000015811⟩,
 ⟨97,13816818069190697589,4607115280502636099,965514867633,2190827662610⟩,
 ⟨98,13817554296550301156,4607094761356039217,946489184997,2188322883973⟩,
 ⟨99,13818176202733015866,4607071525230601234,927510114479,2185486442879⟩,
 ⟨100,13818796392091185993,4607045579204271053,908583437289,2182319203337⟩,
 ⟨101,13819414675709125129,4607016931180459639,889714918675,2178822130118⟩,
 ⟨102,13820030865251653802,4606985589885632564,870910306171,2174996288464⟩,
 ⟨103,13820644773021468196,4606951564866651843,852175327844,2170842843764⟩,
 ⟨104,13821256212016314566,4606914866487867865,833515690551,2166363061198⟩,
 ⟨105,13821706126193002082,4606875505927962312,814937078196,2161558305350⟩,
 ⟨106,13822009097944468984,4606833495176543027,796445150006,2156430039796⟩,
 ⟨107,13822310557174453651,4606788847030491859,778045538801,2150979826655⟩,
 ⟨108,13822610412055554328,4606741575090066610,759743849280,2145209326115⟩,
 ⟨109,13822908571249069472,4606691693754758269,741545656317,2139120295926⟩,
 ⟨110,13823204943932820407,4606639218218904782,723456503256,2132714590865⟩,
 ⟨111,13823499439828816635,4606584164467062712,705481900229,2125994162174⟩,
 ⟨112,13823791969230755389,4606526549269138187,687627322474,2118961056958⟩,
 ⟨113,13824082443031347043,4606466390175278625,669898208668,2111617417571⟩,
 ⟨114,13824370772749458054,4606403705510526791,652299959272,2103965480956⟩,
 ⟨115,13824656870557063172,4606338514369238809,634837934882,2096007577967⟩,
 ⟨116,13824940649305998710,4606270836609267836,617517454600,2087746132658⟩,
 ⟨117,13825222022554508715,4606200692845915167,600343794413,2079183661545⟩,
 ⟨118,13825500904593575967,4606128104445650618,583322185583,2070322772841⟩,
 ⟨119,13825777210473029775,4606053093519604089,566457813057,2061166165658⟩,
 ⟨120,13826050856027422623,4605975682916830301,549755813888,2051716629186⟩,
 ⟨121,13826186306964545249,4605895896217348752,533221275665,2041977041847⟩,
 ⟨122,13826320344801926390,4605813757724961016,516859234969,2031950370413⟩,
 ⟨123,13826452928710342374,4605729292459847567,500674675836,2021639669105⟩,
 ⟨124,13826584018303450330,4605642526150946392,484672528240,2011048078663⟩,
 ⟨125,13826713573650090302,4605553485228115707,468857666590,2000178825388⟩,
 ⟨126,13826841555286448673,4605462196814083165,453234908245,1989035220160⟩,
 ⟨127,13826967924228079224,4605368688716184010,437809012050,1977620657428⟩,
 ⟨128,13827092641981778169,4605272989417890696,422584676882,1965938614179⟩,
 ⟨129,13827215670557309564,4605175128070136543,407566540220,1953992648877⟩,
 ⟨130,13827336972478977498,4605075134482436081,392759176735,1941786400378⟩,
 ⟨131,13827456510797041552,4604973039113804784,378167096894,1929323586825⟩,
 ⟨132,13827574249098972050,4604868873063480956,363794745584,1916608004510⟩,
 ⟨133,13827690151520541667,4604762668061452605,349646500763,1903643526723⟩,
 ⟨134,13827804182756750022,4604654456458792180,335726672124,1890434102570⟩,
 ⟨135,13827916308072577920,4604544271217802120,322039499782,1876983755770⟩,
 ⟨136,13828026493313567978,4604432145901974220,308589152982,1863296583428⟩,
 ⟨137,13828134704916228402,4604318114665765864,295379728829,1849376754789⟩,
 ⟨138,13828240909918256752,4604202212244196245,282415251042,1835228509968⟩,
 ⟨139,13828345075968580579,4604084473942265746,269699668727,1820856158658⟩,
 ⟨140,13828447171337211875,4603964935624201692,257236855174,1806264078817⟩,
 ⟨141,13828547164924912336,4603843633702533758,245030606675,1791456715332⟩,
 ⟨142,13828645026272666488,4603720605127002363,233084641373,1776438578670⟩,
 ⟨143,13828740725570959801,4603595887373303418,221402598124,1761214243502⟩,
 ⟨144,13828834233668858955,4603469518431672867,209988035392,1745788347307⟩,
 ⟨145,13828925522082891496,4603341536795314495,198844430164,1730165588962⟩,
 ⟨146,13829014563005722180,4603211981448674522,187975176889,1714350727312⟩,
 ⟨147,13829101329314623353,4603080891855566566,177383586447,1698348579716⟩,
 ⟨148,13829185794579736800,4602948307947150581,167072885139,1682164020583⟩,
 ⟨149,13829267933072124535,4602814270109769439,157046213705,1665801979887⟩,
 ⟨150,13829347719771606083,4602678819172646809,147306626366,1649267441664⟩,
 ⟨151,13829425130374379870,4602405173618253960,137857089894,1632565442495⟩,
 ⟨152,13829500141300426398,4602128867738800151,128700482711,1615701069969⟩,
 ⟨153,13829572729700690945,4601849985699732898,119839594007,1598679461139⟩,
 ⟨154,13829642873464043612,4601568612451222893,111277122894,1581505800952⟩,
 ⟨155,13829710551224014584,4601284833702287355,103015677585,1564185320670⟩,
 ⟨156,13829775742365302565,4600998735894682236,95057774596,1546723296280⟩,
 ⟨157,13829838427030054397,4600710406176571225,87405837981,1529125046884⟩,
 ⟨158,13829898586123913957,4600419932375979571,80062198594,1511395933078⟩,
 ⟨159,13829956201321838481,4600127402974040817,73029093378,1493541355323⟩,
 ⟨160,13830011255073680550,4599832907078044590,66308664687,1475566752296⟩,
 ⟨161,13830063730609534036,4599536534394293656,59902959626,1457477599235⟩,
 ⟨162,13830113611944842375,4599238375200778512,53813929437,1439279406272⟩,
 ⟨163,13830160883885267622,4598938520319677835,48043428897,1420977716751⟩,
 ⟨164,13830205532031318789,4598637061089693169,42593215756,1402578105546⟩,
 ⟨165,13830247542782738073,4598334089338226268,37464950202,1384086177356⟩,
 ⟨166,13830286903342643624,4597884175161538748,32660194354,1365507565001⟩,
 ⟨167,13830323601721427601,4597272736166692380,28180411788,1346847927708⟩,
 ⟨168,13830357626740408321,4596658828396877989,24026967088,1328112949381⟩,
 ⟨169,13830388968035235394,4596042638854349319,20201125434,1309308336877⟩,
 ⟨170,13830417616059046807,4595424355236410186,16704052215,1290439818263⟩,
 ⟨171,13830443562085376987,4594804165878240062,13536812673,1271513141073⟩,
 ⟨172,13830466798210814968,4594182259695525355,10700371579,1252534070555⟩,
 ⟨173,13830487317357411849,4593446032335921801,8195592942,1233508387919⟩,
 ⟨174,13830505113274836803,4592196490234713907,6023239741,1214441888572⟩,
 ⟨175,13830520180542280990,4590944653792149723,4183973695,1195340380355⟩,
 ⟨176,13830532514570108786,4589690904329736466,2678355064,1176209681770⟩,
 ⟨177,13830542111601255832,4587703227212876038,1506842473,1157055620216⟩,
 ⟨178,13830548968712373473,4585190368566828100,669792776,1137884030204⟩,
 ⟨179,13830553083814719235,4580687535080594850,167460947,1118700751586⟩,
 ⟨180,13830554455654793081,4380278403199139840,0,1099511627776⟩,
 ⟨181,13830553083814719234,13804059571935370244,167460947,1080322503966⟩,
 ⟨182,13830548968712373471,13808562405421603700,669792776,1061139225348⟩,
 ⟨183,13830542111601255829,13811075264067651636,1506842473,1041967635336⟩,
 ⟨184,13830532514570108782,13813062941184512168,2678355064,1022813573782⟩,
 ⟨185,13830520180542280985,13814316690646925423,4183973695,1003682875197⟩,
 ⟨186,13830505113274836797,13815568527089489605,6023239741,984581366980⟩,
 ⟨187,13830487317357411842,13816818069190697496,8195592942,965514867633⟩,
 ⟨188,13830466798210814960,13817554296550301106,10700371579,946489184997⟩,
 ⟨189,13830443562085376978,13818176202733015812,13536812673,927510114479⟩,
 ⟨190,13830417616059046797,13818796392091185934,16704052215,908583437289⟩,
 ⟨191,13830388968035235384,13819414675709125066,20201125434,889714918675⟩,
 ⟨192,13830357626740408310,13820030865251653734,24026967088,870910306171⟩,
 ⟨193,13830323601721427589,13820644773021468123,28180411788,852175327844⟩,
 ⟨194,13830286903342643611,13821256212016314489,32660194354,833515690551⟩,
 ⟨195,13830247542782738059,13821706126193002041,37464950202,814937078196⟩,
 ⟨196,13830205532031318774,13822009097944468941,42593215756,796445150006⟩,
 ⟨197,13830160883885267606,13822310557174453606,48043428897,778045538801⟩,
 ⟨198,13830113611944842358,13822610412055554281,53813929437,759743849280⟩,
 ⟨199,13830063730609534018,13822908571249069423,59902959626,741545656317⟩,
 ⟨200,13830011255073680531,13823204943932820356,66308664687,723456503256⟩,
 ⟨201,13829956201321838461,13823499439828816582,73029093378,705481900229⟩,
 ⟨202,13829898586123913936,13823791969230755334,80062198594,687627322474⟩,
 ⟨203,13829838427030054375,13824082443031346987,87405837981,669898208668⟩,
 ⟨204,13829775742365302542,13824370772749457996,95057774596,652299959272⟩,
 ⟨205,13829710551224014560,13824656870557063112,103015677585,634837934882⟩,
 ⟨206,13829642873464043587,13824940649305998648,111277122894,617517454600⟩,
 ⟨207,13829572729700690919,13825222022554508651,119839594007,600343794413⟩,
 ⟨208,13829500141300426370,13825500904593575901,128700482711,583322185583⟩,
 ⟨209,13829425130374379841,13825777210473029707,137857089894,566457813057⟩,
 ⟨210,13829347719771606054,13826050856027422553,147306626366,549755813888⟩,
 ⟨211,13829267933072124506,13826186306964545213,157046213705,533221275665⟩,
 ⟨212,13829185794579736771,13826320344801926353,167072885139,516859234969⟩,
 ⟨213,13829101329314623323,13826452928710342336,177383586447,500674675836⟩,
 ⟨214,13829014563005722148,13826584018303450291,187975176889,484672528240⟩,
 ⟨215,13828925522082891463,13826713573650090262,198844430164,468857666590⟩,
 ⟨216,13828834233668858921,13826841555286448633,209988035392,453234908245⟩,
 ⟨217,13828740725570959766,13826967924228079183,221402598124,437809012050⟩,
 ⟨218,13828645026272666453,13827092641981778127,233084641373,422584676882⟩,
 ⟨219,13828547164924912301,13827215670557309522,245030606675,407566540220⟩,
 ⟨220,13828447171337211840,13827336972478977455,257236855174,392759176735⟩,
 ⟨221,13828345075968580543,13827456510797041508,269699668727,378167096894⟩,
 ⟨222,13828240909918256715,13827574249098972005,282415251042,363794745584⟩,
 ⟨223,13828134704916228365,13827690151520541621,295379728829,349646500763⟩,
 ⟨224,13828026493313567940,13827804182756749975,308589152982,335726672124⟩,
 ⟨225,13827916308072577881,13827916308072577873,322039499782,322039499782⟩,
 ⟨226,13827804182756749982,13828026493313567930,335726672124,308589152982⟩,
 ⟨227,13827690151520541627,13828134704916228353,349646500763,295379728829⟩,
 ⟨228,13827574249098972009,13828240909918256703,363794745584,282415251042⟩,
 ⟨229,13827456510797041511,13828345075968580529,378167096894,269699668727⟩,
 ⟨230,13827336972478977458,13828447171337211825,392759176735,257236855174⟩,
 ⟨231,13827215670557309525,13828547164924912286,407566540220,245030606675⟩,
 ⟨232,13827092641981778131,13828645026272666437,422584676882,233084641373⟩,
 ⟨233,13826967924228079187,13828740725570959749,437809012050,221402598124⟩,
 ⟨234,13826841555286448637,13828834233668858902,453234908245,209988035392⟩,
 ⟨235,13826713573650090266,13828925522082891443,468857666590,198844430164⟩,
 ⟨236,13826584018303450294,13829014563005722127,484672528240,187975176889⟩,
 ⟨237,13826452928710342339,13829101329314623300,500674675836,177383586447⟩,
 ⟨238,13826320344801926355,13829185794579736747,516859234969,167072885139⟩,
 ⟨239,13826186306964545214,13829267933072124481,533221275665,157046213705⟩,
 ⟨240,13826050856027422553,13829347719771606028,549755813888,147306626366⟩,
 ⟨241,13825777210473029706,13829425130374379814,566457813057,137857089894⟩,
 ⟨242,13825500904593575899,13829500141300426341,583322185583,128700482711⟩,
 ⟨243,13825222022554508648,13829572729700690888,600343794413,119839594007⟩,
 ⟨244,13824940649305998645,13829642873464043555,617517454600,111277122894⟩,
 ⟨245,13824656870557063109,13829710551224014527,634837934882,103015677585⟩,
 ⟨246,13824370772749457992,13829775742365302508,652299959272,95057774596⟩,
 ⟨247,13824082443031346983,13829838427030054339,669898208668,87405837981⟩,
 ⟨248,13823791969230755331,13829898586123913898,687627322474,80062198594⟩,
 ⟨249,13823499439828816580,13829956201321838421,705481900229,73029093378⟩,
 ⟨250,13823204943932820355,13830011255073680490,723456503256,66308664687⟩,
 ⟨251,13822908571249069423,13830063730609533976,741545656317,59902959626⟩,
 ⟨252,13822610412055554281,13830113611944842315,759743849280,53813929437⟩,
 ⟨253,13822310557174453606,13830160883885267561,778045538801,48043428897⟩,
 ⟨254,13822009097944468942,13830205532031318727,796445150006,42593215756⟩,
 ⟨255,13821706126193002043,13830247542782738011,814937078196,37464950202⟩,
 ⟨256,13821256212016314494,13830286903342643562,833515690551,32660194354⟩,
 ⟨257,13820644773021468130,13830323601721427538,852175327844,28180411788⟩,
 ⟨258,13820030865251653744,13830357626740408258,870910306171,24026967088⟩,
 ⟨259,13819414675709125078,13830388968035235331,889714918675,20201125434⟩,
 ⟨260,13818796392091185949,13830417616059046743,908583437289,16704052215⟩,
 ⟨261,13818176202733015829,13830443562085376922,927510114479,13536812673⟩,
 ⟨262,13817554296550301126,13830466798210814903,946489184997,10700371579⟩,
 ⟨263,13816818069190697544,13830487317357411784,965514867633,8195592942⟩,
 ⟨264,13815568527089489659,13830505113274836738,984581366980,6023239741⟩,
 ⟨265,13814316690646925484,13830520180542280925,1003682875197,4183973695⟩,
 ⟨266,13813062941184512236,13830532514570108721,1022813573782,2678355064⟩,
 ⟨267,13811075264067651788,13830542111601255767,1041967635336,1506842473⟩,
 ⟨268,13808562405421603868,13830548968712373408,1061139225348,669792776⟩,
 ⟨269,13804059571935370615,13830553083814719170,1080322503966,167460947⟩,
 ⟨270,13603439333821382656,13830554455654793016,1099511627776,0⟩,
 ⟨271,4580687535080594405,13830553083814719169,1118700751586,167460947⟩,
 ⟨272,4585190368566827858,13830548968712373406,1137884030204,669792776⟩,
 ⟨273,4587703227212875776,13830542111601255764,1157055620216,1506842473⟩,
 ⟨274,4589690904329736324,13830532514570108717,1176209681770,2678355064⟩,
 ⟨275,4590944653792149570,13830520180542280920,1195340380355,4183973695⟩,
 ⟨276,4592196490234713743,13830505113274836732,1214441888572,6023239741⟩,
 ⟨277,4593446032335921625,13830487317357411777,1233508387919,8195592942⟩,
 ⟨278,4594182259695525261,13830466798210814895,1252534070555,10700371579⟩,
 ⟨279,4594804165878239962,13830443562085376913,1271513141073,13536812673⟩,
 ⟨280,4595424355236410080,13830417616059046733,1290439818263,16704052215⟩,
 ⟨281,4596042638854349207,13830388968035235320,1309308336877,20201125434⟩,
 ⟨282,4596658828396877871,13830357626740408246,1328112949381,24026967088⟩,
 ⟨283,4597272736166692256,13830323601721427525,1346847927708,28180411788⟩,
 ⟨284,4597884175161538617,13830286903342643548,1365507565001,32660194354⟩,
 ⟨285,4598334089338226199,13830247542782737996,1384086177356,37464950202⟩,
 ⟨286,4598637061089693096,13830205532031318711,1402578105546,42593215756⟩,
 ⟨287,4598938520319677758,13830160883885267543,1420977716751,48043428897⟩,
 ⟨288,4599238375200778431,13830113611944842295,1439279406272,53813929437⟩,
 ⟨289,4599536534394293571,13830063730609533955,1457477599235,59902959626⟩,
 ⟨290,4599832907078044502,13830011255073680468,1475566752296,66308664687⟩,
 ⟨291,4600127402974040725,13829956201321838399,1493541355323,73029093378⟩,
 ⟨292,4600419932375979475,13829898586123913875,1511395933078,80062198594⟩,
 ⟨293,4600710406176571125,13829838427030054314,1529125046884,87405837981⟩,
 ⟨294,4600998735894682132,13829775742365302481,1546723296280,95057774596⟩,
 ⟨295,4601284833702287246,13829710551224014500,1564185320670,103015677585⟩,
 ⟨296,4601568612451222780,13829642873464043528,1581505800952,111277122894⟩,
 ⟨297,4601849985699732781,13829572729700690860,1598679461139,119839594007⟩,
 ⟨298,4602128867738800029,13829500141300426312,1615701069969,128700482711⟩,
 ⟨299,4602405173618253834,13829425130374379784,1632565442495,137857089894⟩,
 ⟨300,4602678819172646678,13829347719771605997,1649267441664,147306626366⟩,
 ⟨301,4602814270109769371,13829267933072124450,1665801979887,157046213705⟩,
 ⟨302,4602948307947150510,13829185794579736715,1682164020583,167072885139⟩,
 ⟨303,4603080891855566492,13829101329314623267,1698348579716,177383586447⟩,
 ⟨304,4603211981448674446,13829014563005722093,1714350727312,187975176889⟩,
 ⟨305,4603341536795314417,13828925522082891409,1730165588962,198844430164⟩,
 ⟨306,4603469518431672787,13828834233668858868,1745788347307,209988035392⟩,
 ⟨307,4603595887373303336,13828740725570959714,1761214243502,221402598124⟩,
 ⟨308,4603720605127002279,13828645026272666401,1776438578670,233084641373⟩,
 ⟨309,4603843633702533673,13828547164924912249,1791456715332,245030606675⟩,
 ⟨310,4603964935624201605,13828447171337211788,1806264078817,257236855174⟩,
 ⟨311,4604084473942265657,13828345075968580492,1820856158658,269699668727⟩,
 ⟨312,4604202212244196154,13828240909918256665,1835228509968,282415251042⟩,
 ⟨313,4604318114665765770,13828134704916228315,1849376754789,295379728829⟩,
 ⟨314,4604432145901974123,13828026493313567892,1863296583428,308589152982⟩,
 ⟨315,4604544271217802020,13827916308072577834,1876983755770,322039499782⟩,
 ⟨316,4604654456458792076,13827804182756749936,1890434102570,335726672124⟩,
 ⟨317,4604762668061452498,13827690151520541581,1903643526723,349646500763⟩,
 ⟨318,4604868873063480847,13827574249098971964,1916608004510,363794745584⟩,
 ⟨319,4604973039113804673,13827456510797041467,1929323586825,378167096894⟩,
 ⟨320,4605075134482435968,13827336972478977415,1941786400378,392759176735⟩,
 ⟨321,4605175128070136428,13827215670557309483,1953992648877,407566540220⟩,
 ⟨322,4605272989417890579,13827092641981778089,1965938614179,422584676882⟩,
 ⟨323,4605368688716183891,13826967924228079146,1977620657428,437809012050⟩,
 ⟨324,4605462196814083044,13826841555286448597,1989035220160,453234908245⟩,
 ⟨325,4605553485228115584,13826713573650090227,2000178825388,468857666590⟩,
 ⟨326,4605642526150946267,13826584018303450256,2011048078663,484672528240⟩,
 ⟨327,4605729292459847439,13826452928710342302,2021639669105,500674675836⟩,
 ⟨328,4605813757724960885,13826320344801926319,2031950370413,516859234969⟩,
 ⟨329,4605895896217348619,13826186306964545179,2041977041847,533221275665⟩,
 ⟨330,4605975682916830166,13826050856027422485,2051716629186,549755813888⟩,
 ⟨331,4606053093519603951,13825777210473029640,2061166165658,566457813057⟩,
 ⟨332,4606128104445650478,13825500904593575835,2070322772841,583322185583⟩,
 ⟨333,4606200692845915024,13825222022554508587,2079183661545,600343794413⟩,
 ⟨334,4606270836609267690,13824940649305998586,2087746132658,617517454600⟩,
 ⟨335,4606338514369238661,13824656870557063052,2096007577967,634837934882⟩,
 ⟨336,4606403705510526641,13824370772749457937,2103965480956,652299959272⟩,
 ⟨337,4606466390175278472,13824082443031346930,2111617417571,669898208668⟩,
 ⟨338,4606526549269138031,13823791969230755280,2118961056958,687627322474⟩,
 ⟨339,4606584164467062554,13823499439828816531,2125994162174,705481900229⟩,
 ⟨340,4606639218218904622,13823204943932820308,2132714590865,723456503256⟩,
 ⟨341,4606691693754758107,13822908571249069378,2139120295926,741545656317⟩,
 ⟨342,4606741575090066446,13822610412055554238,2145209326115,759743849280⟩,
 ⟨343,4606788847030491692,13822310557174453565,2150979826655,778045538801⟩,
 ⟨344,4606833495176542858,13822009097944468903,2156430039796,796445150006⟩,
 ⟨345,4606875505927962142,13821706126193002006,2161558305350,814937078196⟩,
 ⟨346,4606914866487867693,13821256212016314424,2166363061198,833515690551⟩,
 ⟨347,4606951564866651669,13820644773021468064,2170842843764,852175327844⟩,
 ⟨348,4606985589885632388,13820030865251653682,2174996288464,870910306171⟩,
 ⟨349,4607016931180459461,13819414675709125021,2178822130118,889714918675⟩,
 ⟨350,4607045579204270873,13818796392091185897,2182319203337,908583437289⟩,
 ⟨351,4607071525230601052,13818176202733015782,2185486442879,927510114479⟩,
 ⟨352,4607094761356039032,13817554296550301084,2188322883973,946489184997⟩,
 ⟨353,4607115280502635912,13816818069190697469,2190827662610,965514867633⟩,
 ⟨354,4607133076420060866,13815568527089489593,2193000015811,984581366980⟩,
 ⟨355,4607148143687505053,13814316690646925427,2194839281857,1003682875197⟩,
 ⟨356,4607160477715332849,13813062941184512188,2196344900488,1022813573782⟩,
 ⟨357,4607170074746479895,13811075264067651710,2197516413079,1041967635336⟩,
 ⟨358,4607176931857597536,13808562405421603808,2198353462776,1061139225348⟩,
 ⟨359,4607181046959943298,13804059571935370530,2198855794605,1080322503966⟩]
theorem d7D:c0o 0 (a1I 0) e3G=true:=by decide +kernel
theorem c0p:∀(l:List TE) (k:Nat),c0o k (a1I k) l=true->∀j,k<=j->j<360->∃t∈l,t.k=j /\ (t.a,t.b)=a1I j /\ b2M t.a t.c=true /\ b2M t.b t.s=true
 | [],k,h,j,h1,h2=>by
   simp only[c0o]at h
   have:=a0o h
   omega
 | t::r,k,h,j,h1,h2=>by
   simp only[c0o,Bool.and_eq_true]at h
   obtain⟨⟨⟨⟨⟨a1,a2⟩,a3⟩,a4⟩,a5⟩,a6⟩:=h
   have e:(t.a,t.b)=a1I k:=by rw[a0o a2,a0o a3]
   by_cases c:j=k
   ·subst c
    exact⟨t,List.mem_cons_self,a0o a1,e,a4,a5⟩
   ·rw[e]at a6
    obtain⟨t',h3,h4⟩:=c0p r (k+1) a6 j (by omega) h2
    exact⟨t',List.mem_cons_of_mem _ h3,h4⟩
def Abs (x A:Rat):Prop := -A<=x /\ x<=A
theorem Abs.mono {x A B:Rat} (h:Abs x A) (hAB:A<=B):Abs x B:=⟨by have:=h.1;grind,by have:=h.2;grind⟩
theorem Abs.nn {x A:Rat} (h:Abs x A):0<=A:=by have:=h.1;have:=h.2;grind
theorem Abs.mul {x y A B:Rat} (hx:Abs x A) (hy:Abs y B):Abs (x*y) (A*B):=by
 obtain⟨h1,h2⟩:=hx
 obtain⟨h3,h4⟩:=hy
 have p1:=Rat.mul_nonneg (show 0<=A-x by grind) (show 0<=B-y by grind)
 have p2:=Rat.mul_nonneg (show 0<=A+x by grind) (show 0<=B+y by grind)
 have p3:=Rat.mul_nonneg (show 0<=A-x by grind) (show 0<=B+y by grind)
 have p4:=Rat.mul_nonneg (show 0<=A+x by grind) (show 0<=B-y by grind)
 constructor<;>grind
theorem Abs.near {x y e:Rat} (h:Abs (x-y) e):c7a x y e:=⟨by have:=h.2;grind,by have:=h.1;grind⟩
def e5u (w:Nat):Rat:=match Ieee.double.read w with
 |.number s m e=>RV s m e
 |_=>0
theorem IsR.val {w:Nat} {q:Rat} (h:IsR w q):q=e5u w:=by
 obtain⟨s,m,e,hr,_,rfl⟩:=h
 unfold e5u
 rw[hr]
def hh:Rat:=1/1099511627776
theorem p40:p2 (-40)=hh:=by
 have h1:p2 ((40:Int) + -40)=p2 40*p2 (-40):=a1M _ _
 have h2:p2 ((40:Int) + -40)=1:=by
  have:((40:Int) + -40)=((0:Nat):Int):=by decide
  rw[this,a2c];rfl
 have h3:p2 40=1099511627776:=by
  have:(40:Int)=((40:Nat):Int):=rfl
  rw[this,a2c];rfl
 rw[h2,h3]at h1
 unfold hh
 grind
theorem c5i {w C:Nat} (h:b2M w C=true):IsR w (e5u w) /\ C<=2199023255552 /\ c7a (e5u w) (((C:Rat)-1099511627776)*hh) hh:=by
 unfold b2M at h
 split at h
 ·rename_i s m e hr
  simp only[Bool.and_eq_true,decide_eq_true_eq]at h
  obtain⟨⟨⟨⟨h1,h2⟩,h3⟩,h4⟩,h5⟩:=h
  have hR:IsR w (RV s m e):=⟨s,m,e,hr,h2,rfl⟩
  rw[<- hR.val]
  refine⟨hR,by simpa using h3,?_⟩
  have hv:RV s m e=(((if s then -(m:Int)else(m:Int)):Int):Rat)*p2 e:=by
   unfold RV
   cases s
   ·have:sgR false=1:=rfl
    rw[this,if_neg (by decide),Rat.intCast_natCast];grind
   ·have:sgR true=-1:=rfl
    rw[this,if_pos rfl,Rat.intCast_neg,Rat.intCast_natCast];grind
  rw[hv,<- p40]
  have e1:p2 (-40)=((2^(-40-e).toNat:Nat):Rat)*p2 e:=by
   have:(-40:Int)=((-40-e).toNat:Int)+e:=by omega
   have h6:=a1M ((-40-e).toNat:Int) e
   rw[<- this,a2c]at h6
   exact h6
  rw[e1]
  have hp:=a1r e
  have r1:(((if s then -(m:Int)else(m:Int)):Int):Rat)<=((C:Rat)-1099511627776)*((2^(-40-e).toNat:Nat):Rat)+((2^(-40-e).toNat:Nat):Rat):=by
   have:=Rat.intCast_le_intCast.2 h4
   simpa[Rat.intCast_natCast]using this
  have r2:((C:Rat)-1099511627776)*((2^(-40-e).toNat:Nat):Rat)<=(((if s then -(m:Int)else(m:Int)):Int):Rat)+((2^(-40-e).toNat:Nat):Rat):=by
   have:=Rat.intCast_le_intCast.2 h5
   simpa[Rat.intCast_natCast]using this
  generalize ((2^(-40-e).toNat:Nat):Rat)=g at *
  generalize (((if s then -(m:Int)else(m:Int)):Int):Rat)=v at *
  generalize p2 e=t at *
  have m1:=a1t r1 (Rat.le_of_lt hp)
  have m2:=a1t r2 (Rat.le_of_lt hp)
  constructor<;>grind
 ·cases h
def tc (j:Nat):Rat:=e5u (a1I j).1
def ts (j:Nat):Rat:=e5u (a1I j).2
theorem e3H (j:Nat) (hj:j<360):∃t∈e3G,t.k=j /\ IsR (a1I j).1 (tc j) /\ IsR (a1I j).2 (ts j) /\ t.c<=2199023255552 /\ t.s<=2199023255552 /\ c7a (tc j) (((t.c:Rat)-1099511627776)*hh) hh /\ c7a (ts j) (((t.s:Rat)-1099511627776)*hh) hh:=by
 obtain⟨t,h1,h2,h3,h4,h5⟩:=c0p e3G 0 d7D j (Nat.zero_le _) hj
 have e1:t.a=(a1I j).1:=congrArg Prod.fst h3
 have e2:t.b=(a1I j).2:=congrArg Prod.snd h3
 rw[e1]at h4
 rw[e2]at h5
 obtain⟨a1,a2,a3⟩:=c5i h4
 obtain⟨b1,b2,b3⟩:=c5i h5
 exact⟨t,h1,h2,a1,b1,a2,b2,a3,b3⟩
theorem tcR {j:Nat} (hj:j<360):IsR (a1I j).1 (tc j):=let ⟨_,_,_,h,_⟩:=e3H j hj;h
theorem tsR {j:Nat} (hj:j<360):IsR (a1I j).2 (ts j):=let ⟨_,_,_,_,h,_⟩:=e3H j hj;h
theorem c5j {C:Nat} (h:C<=2199023255552):Abs (((C:Rat)-1099511627776)*hh) 1:=by
 have h1:=a3h C
 have h2:(C:Rat)<=2199023255552:=by exact_mod_cast a1e h
 unfold hh
 constructor<;>grind
theorem f7V {j:Nat} (hj:j<360):Abs (tc j) (1+hh) /\ Abs (ts j) (1+hh):=by
 obtain⟨t,_,_,_,_,h1,h2,h3,h4⟩:=e3H j hj
 have a:=c5j h1
 have b:=c5j h2
 obtain⟨a1,a2⟩:=a
 obtain⟨b1,b2⟩:=b
 obtain⟨c1,c2⟩:=h3
 obtain⟨d1,d2⟩:=h4
 exact⟨⟨by grind,by grind⟩,by grind,by grind⟩
theorem c5k (n:Int):-360<Int.tmod n 360 /\ Int.tmod n 360<360:=⟨Int.lt_tmod_of_pos n (by decide),Int.tmod_lt_of_pos n (by decide)⟩
theorem c7c {x:Int} (h1:-360<x) (h2:x<360):Int.tmod x 360=x:=by
 by_cases h:0<=x
 ·exact Int.tmod_eq_of_lt h h2
 ·have e:x=-(-x):=by omega
  rw[e,Int.neg_tmod,Int.tmod_eq_of_lt (by omega) (by omega)]
def md (n:Int):Nat:=(Int.tmod (Int.tmod n 360+360) 360).toNat
theorem d2C (n:Int):(md n:Int)=(Int.tmod n 360+360)%360:=by
 unfold md
 have:=c5k n
 rw[Int.tmod_eq_emod_of_nonneg (by omega)]
 omega
theorem c7d (n:Int):md n<360:=by
 have:=d2C n
 omega
theorem d7E {x:Int} (h1:-360<x) (h2:x<360):(md x:Int)=(x+360)%360:=by rw[d2C,c7c h1 h2]
theorem e9p (n:Int):Int.tmod (IntKind.wrap IntKind.i64 (Int.tmod n 360+360)) 360=(md n:Int):=by
 have:=c5k n
 rw[w64 (by omega) (by omega),d2C,Int.tmod_eq_emod_of_nonneg (by omega)]
theorem b1o (n:Int):d6A (n,())=some ((md n:Int),()):=by
 unfold d6A f5F
 exact congrArg (fun z:Int=>some (z,())) (e9p n)
def btw (ka kb:Int):Int:=let v:Int:=(md ((md kb:Int)-(md ka:Int)):Int);if v>360-v then 360-v else v
theorem d2D (ka kb:Int):e7P (ka,kb,())=some (btw ka kb,()):=by
 unfold e7P f5I
 have h1:=c7d ka
 have h2:=c7d kb
 have e1:d6A (kb,())=some ((md kb:Int),()):=b1o kb
 have e2:d6A (ka,())=some ((md ka:Int),()):=b1o ka
 have e3:d6A ((md kb:Int)-(md ka:Int),())=some ((md ((md kb:Int)-(md ka:Int)):Int),()):=b1o _
 have h3:=c7d ((md kb:Int)-(md ka:Int))
 simp only[d4h,d4i,e1,e2,Option.isSome_some,Option.getD_some,cond_true]
 rw[w64 (by omega) (by omega)]
 simp only[e3,Option.isSome_some,Option.getD_some,cond_true]
 have e5:IntKind.wrap IntKind.i64 (0-(md ((md kb:Int)-(md ka:Int)):Int))=-(md ((md kb:Int)-(md ka:Int)):Int):=by rw[w64 (by omega) (by omega)];omega
 rw[e5]
 have e4:d6A (-(md ((md kb:Int)-(md ka:Int)):Int),())=some ((md (-(md ((md kb:Int)-(md ka:Int)):Int)):Int),()):=b1o _
 simp only[e4,Option.isSome_some,Option.getD_some,cond_true]
 have h6:=d7E (x := -(md ((md kb:Int)-(md ka:Int)):Int)) (by omega) (by omega)
 have key:a4j (md ((md kb:Int)-(md ka:Int)):Int) (md (-(md ((md kb:Int)-(md ka:Int)):Int)):Int)=btw ka kb:=by
  unfold btw a4j
  generalize md ((md kb:Int)-(md ka:Int))=v at *
  rw[h6]
  dsimp only
  split<;>split<;>omega
 exact congrArg (fun z:Int=>some (z,())) key
theorem d2E (z w:Nat×Nat):e7C (z,w,())=some (d2B z w,()):=rfl
theorem e3I (n:Int):f1p (n,())=some (a1I (md n),()):=by
 have hlt:=c7d n
 have e1:d6A (n,())=some ((md n:Int),()):=b1o n
 have hl:d1c (((4607182418800017408,0),(md n:Int),()),())=some ((a1I (md n),()),()):=by
  have:=a4x (q:=b9B d4h d4i c6I c6J) (fun k=>((a1I k,((md n-k:Nat):Int),()),())) (md n) ((a1I (md n),()),()) ?_ ?_ (c4u (((4607182418800017408,0),(md n:Int),()),())) ?_
  ·exact this
  ·intro k f hk
   unfold b9B
   have e2:decide (((md n-k:Nat):Int)>0)=true:=by simp;omega
   have e3:IntKind.wrap IntKind.i64 (((md n-k:Nat):Int)-1)=((md n-(k+1):Nat):Int):=by rw[w64 (by omega) (by omega)];omega
   have e4:e7C (a1I k,(4607181046959943561,4580687535080594718),())=some (a1I (k+1),()):=d2E _ _
   simp only[e2,e3,c6I,c6J,e4,Option.isSome_some,Option.getD_some,cond_true]
  ·intro f
   unfold b9B
   simp
  ·simp only[c4u];omega
 unfold f1p f5U
 simp only[d4h,d4i,e1,b5S,b5T,hl,Option.isSome_some,Option.getD_some,cond_true]
def c7O (z w:Nat×Nat):Nat:=a0i .add .f64 (a0i .mul .f64 z.1 w.1) (a0i .mul .f64 z.2 w.2)
def bm (z:Nat×Nat):Nat->Int×Nat
 |0=>(0,0)
 |k+1=>bif (k:Int)==0 then((k:Int),c7O z (a1I k))else bif fgt .f64 (c7O z (a1I k)) (bm z k).2 then((k:Int),c7O z (a1I k))else bm z k
theorem e3J (z:Nat×Nat) (k:Nat):f1a (((k:Int),a1I k,(),(),(),()),(z,(bm z k).2,(bm z k).1,()))=some ((),(z,(bm z (k+1)).2,(bm z (k+1)).1,())):=by
 unfold f1a f5h
 have e1:e7B (z,a1I k,())=some (c7O z (a1I k),()):=rfl
 simp only[c6G,c6H,e1,Option.isSome_some,Option.getD_some,cond_true,bm]
 cases (k:Int)==0
 ·simp only[cond_false]
  cases fgt .f64 (c7O z (a1I k)) (bm z k).2<;>rfl
 ·rfl
theorem e3K (z:Nat×Nat):f1b (((),()),z,0,0,())=some ((),(z,(bm z 360).2,(bm z 360).1,())):=by
 have hl:d0S (((),(4607182418800017408,0),0,()),(z,()),(0,()),(0,()),())=some ((),(z,()),((bm z 360).2,()),((bm z 360).1,()),()):=by
  have:=a4x (q:=b9r c6I c6J d6p d6q) (fun k=>(((),a1I k,(k:Int),()),(z,()),((bm z k).2,()),((bm z k).1,()),())) 360 ((),(z,()),((bm z 360).2,()),((bm z 360).1,()),()) ?_ ?_ (c4m (((),(4607182418800017408,0),0,()),(z,()),(0,()),(0,()),())) ?_
  ·exact this
  ·intro k f hk
   unfold b9r
   have e2:decide ((k:Int)<360)=true:=by simp;omega
   have e4:e7C (a1I k,(4607181046959943561,4580687535080594718),())=some (a1I (k+1),()):=d2E _ _
   have e5:=e3J z k
   simp only[e2,a4y k (by omega),c6I,c6J,e4,d6p,d6q,e5,Option.isSome_some,Option.getD_some,cond_true]
  ·intro f
   unfold b9r
   simp
  ·simp[c4m]
 unfold f1b f5l
 simp only[b5z,b5A,hl,Option.isSome_some,Option.getD_some,cond_true]
def e3L (z:Nat×Nat):Bool:=feq .f64 z.1 0&&feq .f64 z.2 0
def d2F (z:Nat×Nat):Int:=bif !a5g z then -1 else bif e3L z then -1 else(bm z 360).1
theorem e3M (z:Nat×Nat):e7F (z,())=some (d2F z,()):=by
 unfold e7F f5o d2F
 have e1:F61 (z,())=some (a5g z,()):=a9a z
 have e2:=e3K z
 simp only[K61,G61,e1,f1c,f1d,e2,Option.isSome_some,Option.getD_some,cond_true]
 show(bif !a5g z then some (-1,())else bif e3L z then some (-1,())else some ((bm z 360).1,()))=_
 cases a5g z<;>cases e3L z<;>rfl
def bs (z:Nat×Nat):Nat->Int×Nat
 |0=>(0,c7O z (a1I 0))
 |k+1=>bif fgt .f64 (c7O z (a1I (k+1))) (bs z k).2 then(((k+1:Nat):Int),c7O z (a1I (k+1)))else bs z k
def gk (x g:Nat):Nat->Nat
 |0=>g
 |k+1=>a0i .quo .f64 (a0i .add .f64 (gk x g k) (a0i .quo .f64 x (gk x g k))) 4611686018427387904
def c7e (x:Nat):Nat:=bif (fgt .f64 x 4427486594234968593||feq .f64 x 4427486594234968593)then(bif !(flt .f64 x 4861130398305394688||feq .f64 x 4861130398305394688)then 0 else gk x (c0T .f64 x 4607182418800017408) 60)else 0
set_option maxRecDepth 100000 in
theorem e3N (x:Nat):e7K (x,())=some (c7e x,()):=by
 have hl:d0U ((x,c0T .f64 x 4607182418800017408,0,()),())=some ((gk x (c0T .f64 x 4607182418800017408) 60,()),()):=by
  have:=a4x (q:=b9t) (fun k=>((x,gk x (c0T .f64 x 4607182418800017408) k,(k:Int),()),())) 60 ((gk x (c0T .f64 x 4607182418800017408) 60,()),()) ?_ ?_ (c4n ((x,c0T .f64 x 4607182418800017408,0,()),())) ?_
  ·exact this
  ·intro k f hk
   unfold b9t
   have e2:decide ((k:Int)<60)=true:=by simp;omega
   simp only[e2,a4y k (by omega),cond_true]
   rfl
  ·intro f
   unfold b9t
   simp
  ·simp[c4n]
 unfold e7K f5w c7e
 simp only[b5D,b5E,hl,Option.isSome_some,Option.getD_some,cond_true]
 generalize gk x (c0T .f64 x 4607182418800017408) 60=g
 cases (fgt .f64 x 4427486594234968593||feq .f64 x 4427486594234968593)<;>cases (flt .f64 x 4861130398305394688||feq .f64 x 4861130398305394688)<;>rfl
def e3O (z:Nat×Nat):Nat:=bif !a5g z then 0 else c7e (c7O z z)
theorem e3P (z:Nat×Nat):e7M (z,())=some (e3O z,()):=by
 unfold e7M f5z e3O
 have e1:F61 (z,())=some (a5g z,()):=a9a z
 have e2:e7B (z,z,())=some (c7O z z,()):=rfl
 have e3:e7K (c7O z z,())=some (c7e (c7O z z),()):=e3N _
 simp only[K61,G61,e1,c6G,c6H,e2,f1i,f1j,e3,Option.isSome_some,Option.getD_some,cond_true]
 cases a5g z<;>rfl
theorem g1d {a b:Nat} {x y q A ε:Rat} (ha:IsR a x) (hb:IsR b y) (hy:y≠0) (hq:q*y=x) (B:Int) (h:Abs q A) (hA:A<=p2 B) (hε:p2 (B-52)<=ε) (h1:-1022<=B) (h2:B<=1022) :
 ∃r,IsR (a0i .quo .f64 a b) r /\ c7a r q ε:=by
 obtain⟨k1,k2⟩:=h
 obtain⟨r,h3,h4,h5⟩:=f9g ha hb hy hq B h1 h2 (by grind) (by grind)
 exact⟨r,h3,by grind,by grind⟩
theorem Abs.add {x y A B:Rat} (hx:Abs x A) (hy:Abs y B):Abs (x+y) (A+B):=⟨by have:=hx.1;have:=hy.1;grind,by have:=hx.2;have:=hy.2;grind⟩
theorem Abs.sub {x y A B:Rat} (hx:Abs x A) (hy:Abs y B):Abs (x-y) (A+B):=⟨by have:=hx.1;have:=hy.2;grind,by have:=hx.2;have:=hy.1;grind⟩
theorem c2s {w:Nat} (s:Bool) (m:Nat) (e:Int) (h:Ieee.double.read w = .number s m e) (he:-1074<=e) {q:Rat} (hq:RV s m e=q):IsR w q:=⟨s,m,e,h,he,hq.symm⟩
theorem e3Q:IsR 0 0:=c2s false 0 (-1074) (by decide +kernel) (by decide) (a6O _ _)
theorem f7W:IsR 4607182418800017408 1:=c2s false 4503599627370496 (-52) (by decide +kernel) (by decide) (by decide +kernel)
theorem g1e:IsR 4611686018427387904 2:=c2s false 4503599627370496 (-51) (by decide +kernel) (by decide) (by decide +kernel)
theorem d2G:IsR 4726483295884279808 100000000:=c2s false 6710886400000000 (-26) (by decide +kernel) (by decide) (by decide +kernel)
theorem b2N {w:Nat} {s:Bool} {m:Nat} {e:Int} (h:Ieee.double.read w = .number s m e):-1074<=e:=by
 unfold Ieee.Format.read at h
 dsimp only at h
 rw[e3v]at h
 split at h
 ·cases h;exact Int.le_refl _
 ·split at h
  ·cases h;omega
  ·split at h<;>cases h
theorem e3R {s:Bool} {m:Nat} {e:Int} {A:Rat} (h:RV false m e<=A):Abs (RV s m e) A:=by
 have h0:0<=(m:Rat)*p2 e:=Rat.mul_nonneg (a3h m) (Rat.le_of_lt (a1r e))
 have e1:RV false m e=(m:Rat)*p2 e:=by
  unfold RV
  have:sgR false=1:=rfl
  rw[this];grind
 cases s
 ·rw[e1]at h ⊢
  constructor<;>grind
 ·have e2:RV true m e=-((m:Rat)*p2 e):=by
   unfold RV
   have:sgR true=-1:=rfl
   rw[this];grind
  rw[e1]at h
  rw[e2]
  constructor<;>grind
theorem f7X {w:Nat} (h:le8 (w%2^63)=true):∃x,IsR w x /\ Abs x 100000000:=by
 have hr:=c5f w
 cases hw:Ieee.double.read w with
 | number s m e =>
   rw[hw]at hr
   have he:=b2N hw
   have hI:IsR (w%2^63) (RV false m e):=⟨false,m,e,hr,he,rfl⟩
   unfold le8 at h
   rw[f7U hI d2G,e9m hI d2G]at h
   simp only[Bool.or_eq_true,decide_eq_true_eq]at h
   exact⟨_,⟨s,m,e,hw,he,rfl⟩,e3R (by grind)⟩
 | infinity s =>
   rw[hw]at hr
   exfalso
   obtain⟨t,n,f,h1,_,_⟩:=d2G
   unfold le8 flt feq at h
   have:FloatKind.f64.format.order (w%2^63) 4726483295884279808=some .gt:=by
    show(Ieee.double.read (w%2^63)).order (Ieee.double.read _)=_
    rw[hr,h1];rfl
   rw[this]at h
   cases h
 | nan s t =>
   rw[hw]at hr
   exfalso
   unfold le8 flt feq at h
   have:FloatKind.f64.format.order (w%2^63) 4726483295884279808=none:=by
    show(Ieee.double.read (w%2^63)).order (Ieee.double.read _)=_
    rw[hr];rfl
   rw[this]at h
   cases h
theorem e0B {j:Nat} (hj:j<360):Abs (tc j) (1000001/1000000) /\ Abs (ts j) (1000001/1000000):=by
 have h:=f7V hj
 have e:1+hh<=1000001/1000000:=by decide +kernel
 exact⟨h.1.mono e,h.2.mono e⟩
def TT:Nat:=2^1074
theorem e0C:0<TT:=Nat.two_pow_pos _
def b2O (b:Nat) (v:Int):Prop:=∃(s:Bool) (m c:Nat),Ieee.double.read b = .number s m ((c:Int)-1074) /\ m<2^53 /\ VU s m c=v*(TT:Int)
theorem e0D (s:Bool) (m c:Nat):(VU s m c).natAbs=m*2^c:=by
 unfold VU
 cases s
 ·rfl
 ·rw[if_pos rfl,Int.natAbs_neg];rfl
theorem c0q {b:Nat} {s:Bool} {m:Nat} {p:Int} (h:Ieee.double.read b = .number s m p):m<2^53:=by
 unfold Ieee.Format.read at h
 dsimp only at h
 rw[c2p,c2o]at h
 split at h
 ·injection h with h1 h2 h3;omega
 ·split at h
  ·injection h with h1 h2 h3
   have:=Nat.mod_lt (b%Ieee.double.signWeight) (show 2^52>0 by decide)
   omega
  ·split at h<;>cases h
theorem c2t (neg:Bool) (p:Int):b2O (Ieee.double.nearest neg 0 p) 0:=by
 obtain⟨m',c',h6,h7⟩:=a5P neg 0 0 (by decide) (.inl ⟨rfl,by decide⟩)
 refine⟨neg,m',c',?_,c0q h6,?_⟩
 ·unfold Ieee.Format.nearest
  rw[if_pos rfl]
  rw[Nat.zero_mul]at h6
  exact h6
 ·rw[Nat.zero_mul]at h7
  rw[Int.zero_mul]
  have:=e0D neg m' c'
  rw[h7]at this
  omega
theorem c2u (neg:Bool) (M c v:Nat) (h0:0<M) (h:M*2^c=v*TT) (hv:v<2^53):b2O (Ieee.double.nearest neg M ((c:Int)-1074)) (if neg then -(v:Int)else v):=by
 obtain⟨K,e,h1,h2,h3,h4⟩:=d7A neg M c v h0 h hv
 obtain⟨m,c',h5,h6⟩:=a5P neg K e h2 h3
 refine⟨neg,m,c',by rw[h1];exact h5,c0q h5,?_⟩
 unfold VU
 rw[h6,h4,h]
 cases neg
 ·simp
 ·simp[Int.neg_mul]
theorem c7f (neg:Bool) (M c:Nat) (w:Int) (h:VU neg M c=w*(TT:Int)) (hw:w.natAbs<2^53):b2O (Ieee.double.nearest neg M ((c:Int)-1074)) w:=by
 have ha:=e0D neg M c
 rw[h,Int.natAbs_mul,Int.natAbs_natCast]at ha
 by_cases h0:M=0
 ·subst h0
  have:w.natAbs=0:=by
   rw[Nat.zero_mul]at ha
   rcases Nat.mul_eq_zero.1 ha with h|h
   ·exact h
   ·exact absurd h (Nat.ne_of_gt e0C)
  have:w=0:=by omega
  rw[this]
  exact c2t _ _
 ·have:=c2u neg M c w.natAbs (by omega) ha.symm hw
  have e:(if neg then -(w.natAbs:Int)else(w.natAbs:Int))=w:=by
   unfold VU at h
   have hT:(0:Int)<(TT:Int):=Int.natCast_pos.2 e0C
   have hM:(0:Int)<=((M*2^c:Nat):Int):=Int.natCast_nonneg _
   cases neg
   ·simp only[Bool.false_eq_true,if_false]at h ⊢
    have:0<=w:=by
     by_cases hn:0<=w
     ·exact hn
     ·have:=Int.mul_neg_of_neg_of_pos (show w<0 by omega) hT
      omega
    omega
   ·simp only[if_true]at h ⊢
    have:w<=0:=by
     by_cases hn:w<=0
     ·exact hn
     ·have:=Int.mul_pos (show 0<w by omega) hT
      omega
    omega
  rw[e]at this
  exact this
theorem d2H (n:Int) (h:n.natAbs<2^53):b2O (FloatKind.nearest .f64 n) n:=by
 show b2O (Ieee.double.nearest (decide (n<0)) n.natAbs 0) n
 have:(0:Int)=((1074:Nat):Int)-1074:=by decide
 rw[this]
 refine c7f _ _ _ _ ?_ h
 unfold VU
 show(if decide (n<0)=true then -((n.natAbs*TT:Nat):Int)else((n.natAbs*TT:Nat):Int))=_
 rw[Int.natCast_mul]
 by_cases hn:n<0
 ·rw[if_pos (by simpa using hn),<- Int.neg_mul]
  congr 1
  omega
 ·rw[if_neg (by simpa using hn)]
  congr 1
  omega
theorem e9q {z:Nat} (h1:fge z 0=true) (h2:fle z 1120403456=true):∃s m e,Ieee.single.read z = .number s m e:=by
 unfold fge fle flt feq fgt at *
 have o1:FloatKind.f32.format.order z 1120403456=(Ieee.single.read z).order (Ieee.single.read 1120403456):=rfl
 have r1:∃s m e,Ieee.single.read 1120403456 = .number s m e:=⟨false,13107200,-17,by decide +kernel⟩
 have o2:FloatKind.f32.format.order z 0=(Ieee.single.read z).order (Ieee.single.read 0):=rfl
 have r2:∃s m e,Ieee.single.read 0 = .number s m e:=⟨false,0,-149,by decide +kernel⟩
 obtain⟨s,m,e,hr⟩:=r1
 obtain⟨s2,m2,e2,hr2⟩:=r2
 rw[o1,hr]at h2
 rw[o2,hr2]at h1
 cases hz:Ieee.single.read z with
 |number a b c=>exact⟨a,b,c,rfl⟩
 |nan a b=>rw[hz]at h2;simp[Ieee.Datum.order]at h2
 | infinity a =>
   rw[hz]at h1 h2
   cases a<;>simp[Ieee.Datum.order]at h1 h2
theorem e3S {x:Nat} (h:fgt .f32 x 0=true):fge x 0=true:=by unfold fge;rw[h];rfl
theorem d7F {x y:Nat} (hx:∃s m e,Ieee.single.read x = .number s m e) (hy:∃s m e,Ieee.single.read y = .number s m e) :
 ∃c:Ordering,FloatKind.f32.format.order x y=some c /\ FloatKind.f32.format.order y x=some c.swap:=by
 obtain⟨s,m,e,h1⟩:=hx
 obtain⟨t,n,f,h2⟩:=hy
 refine⟨_,by show(Ieee.single.read x).order (Ieee.single.read y)=_;rw[h1,h2];rfl,?_⟩
 show(Ieee.single.read y).order (Ieee.single.read x)=_
 rw[h1,h2]
 unfold Ieee.Datum.order
 dsimp only
 have hm:min f e=min e f:=by omega
 rw[hm]
 congr 1
 rw[Int.compare_swap]
theorem d2I {x y:Nat} (hx:∃s m e,Ieee.single.read x = .number s m e) (hy:∃s m e,Ieee.single.read y = .number s m e):fge x y=fle y x /\ (fle x y=false->fge x y=true):=by
 obtain⟨c,h1,h2⟩:=d7F hx hy
 unfold fge fle fgt flt feq
 rw[h1,h2]
 cases c<;>exact⟨rfl,fun h=>by first|rfl|cases h⟩
structure POK (p:a8C):Prop where
 w1:1<=p.1.length
 w2:p.1.length<=12
 a1:2<=p.2.1.length
 a2:p.2.1.length<=24
 s:p.2.2.1.length=p.1.length
 wind:∀i,i<p.1.length->a3z p i=true
 ang:∀i,i<p.2.1.length->c7N p i=true
 first:aAt p 0=0
 last:aAt p (p.2.1.length-1)=180
 row:∀i,i<p.1.length->(rAt p i).length=p.2.1.length /\ a9b (rAt p i)=true
theorem pok {p:a8C} (h:a3F p=true):POK p:=by
 unfold a3F at h
 simp only[Bool.and_eq_true,a0L,decide_eq_true_eq,beq_iff_eq]at h
 obtain⟨⟨h1,h2⟩,⟨h3,h4⟩,h5,h6,h7,h8,h9,h10⟩:=h
 refine⟨by omega,by omega,by omega,by omega,h5,fun i hi=>a0I.1 h6 i (Nat.zero_le _) (by omega),fun i hi=>a0I.1 h7 i (Nat.zero_le _) (by omega),h8,h9,fun i hi=>?_⟩
 have:=a0I.1 h10 i (Nat.zero_le _) (by omega)
 unfold d4y at this
 simpa only [Bool.and_eq_true,decide_eq_true_eq]using this
def f9h (s t q:Nat):Nat:=a0i .add .f32 s (a0i .mul .f32 (a0i .sub .f32 t s) q)
def f2p (p:a8C) (row:List Nat) (angle:Int) (j:Nat):Nat:=bif aAt p j==angle then row.getD j 0 else
 f9h (row.getD (j-1) 0) (row.getD j 0) (a0i .quo .f32 (FloatKind.nearest .f32 (IntKind.i64.wrap (angle-aAt p (j-1)))) (FloatKind.nearest .f32 (IntKind.i64.wrap (aAt p j-aAt p (j-1)))))
def idx (p:a8C) (angle:Int):Nat:=(a0M (fun j=>decide (angle<=aAt p j)) 0 p.2.1.length).getD 0
def d7G (p:a8C) (row:List Nat) (angle:Int):Nat:=f2p p row angle (idx p angle)
theorem e9r {p:a8C} (h:POK p) {angle:Int} (h2:angle<=180):a0M (fun j=>decide (angle<=aAt p j)) 0 p.2.1.length=some (idx p angle) /\ idx p angle<p.2.1.length /\ angle<=aAt p (idx p angle) /\ ∀i,i<idx p angle->aAt p i<angle:=by
 unfold idx
 cases hf:a0M (fun j=>decide (angle<=aAt p j)) 0 p.2.1.length with
 | none =>
   exfalso
   have:=a2q.1 hf (p.2.1.length-1) (Nat.zero_le _) (by have:=h.a1;omega)
   simp only[decide_eq_false_iff_not]at this
   have hl:=h.last
   omega
 | some j =>
   obtain⟨_,h3,h4,h5⟩:=a1V hf
   refine⟨rfl,by simpa using h3,by simpa using h4,fun i hi=>?_⟩
   have:=h5 i (Nat.zero_le _) hi
   simp only[decide_eq_false_iff_not]at this
   omega
theorem b6Q {p:a8C} (h:POK p) (row:List Nat) (angle:Int) (hr:row.length=p.2.1.length) (h1:0<=angle) (h2:angle<=180):d9Q (p,row,angle,())=some (d7G p row angle,()):=by
 have ha1:=h.a1
 have ha2:=h.a2
 have h0:=h.first
 have hl:b9x ((row,angle,(),p.2.1,(p.2.1.length:Int),(0:Int),()),(p,()))=some (match a0M (fun j=>decide (angle<=aAt p j)) 0 p.2.1.length with|some j => .inr ((f2p p row angle j,()),())|none => .inl ((),())):=by
  refine(a7o (q:=b9w c4q c4r) (fun k=>((row,angle,(),p.2.1,(p.2.1.length:Int),(k:Int),()),(p,()))) p.2.1.length (fun j=>decide (angle<=aAt p j)) (.inl ((),())) (fun j => .inr ((f2p p row angle j,()),())) ?_ ?_ (c4s ((row,angle,(),p.2.1,(p.2.1.length:Int),(0:Int),()),(p,()))) ?_:_)
  ·intro k f hk
   unfold b9w f2p
   have e1:decide ((k:Int)<(p.2.1.length:Int))=true:=by simpa using hk
   have e2:decide (0<=(k:Int))=true:=by simp
   have e1':decide ((k:Int)<(row.length:Int))=true:=by simp;omega
   have ha:List.getD p.2.1 k (zero (Ty.int IntKind.i64))=aAt p k:=rfl
   have hb:List.getD row k (zero (Ty.flt FloatKind.f32))=row.getD k 0:=rfl
   simp only[a4y k (by omega),e1,e1',e2,Bool.and_self,cond_true,Int.toNat_natCast,ha,hb]
   cases c:(aAt p k==angle)
   ·simp only[cond_false]
    have hne:aAt p k≠angle:=by simpa using c
    by_cases hgt:aAt p k>angle
    ·have hk0:0<k:=by
      rcases Nat.eq_zero_or_pos k with h3|h3
      ·rw[h3]at hgt;omega
      ·exact h3
     have e3:decide (aAt p k>angle)=true:=by simpa using hgt
     have e4:decide (0<=((k-1:Nat):Int))=true:=by simp
     have e5:decide (((k-1:Nat):Int)<(p.2.1.length:Int))=true:=by simp;omega
     have e6:decide (((k-1:Nat):Int)<(row.length:Int))=true:=by simp;omega
     have e7:decide (angle<=aAt p k)=true:=by simp;omega
     have hc:List.getD p.2.1 (k-1) (zero (Ty.int IntKind.i64))=aAt p (k-1):=rfl
     have hd:List.getD row (k-1) (zero (Ty.flt FloatKind.f32))=row.getD (k-1) 0:=rfl
     rw[e7]
     simp only[e3,cond_true,e0z k hk0 (by omega),e4,e5,e6,Bool.and_self,Int.toNat_natCast,hc,hd]
     rfl
    ·have e3:decide (aAt p k>angle)=false:=by simpa using hgt
     have e7:decide (angle<=aAt p k)=false:=by simp;omega
     rw[e7]
     simp only[e3,cond_false]
   ·have:aAt p k=angle:=by simpa using c
    have e7:decide (angle<=aAt p k)=true:=by simp;omega
    rw[e7]
    rfl
  ·intro f
   unfold b9w
   simp
  ·simp only[c4s];omega
 obtain⟨hf,_⟩:=e9r h h2
 rw[hf]at hl
 unfold d9Q f5N
 simp only[b5J,b5K,b5L,hl,Option.isSome_some,cond_true]
 rfl
def d4z (p:a8C) (wind:Nat):Nat:=(a0M (fun k=>!fle (wAt p (k+1)) wind) 0 (p.1.length-1)).getD 0
def c0r (p:a8C) (wind:Nat) (angle:Int):Nat:=
 bif fle wind (wAt p 0)then a0i .mul .f32 (a0i .quo .f32 wind (wAt p 0)) (d7G p (rAt p 0) angle)
 else bif fge wind (wAt p (p.1.length-1))then d7G p (rAt p (p.1.length-1)) angle
 else f9h (d7G p (rAt p (d4z p wind)) angle) (d7G p (rAt p (d4z p wind+1)) angle) (a0i .quo .f32 (a0i .sub .f32 wind (wAt p (d4z p wind))) (a0i .sub .f32 (wAt p (d4z p wind+1)) (wAt p (d4z p wind))))
theorem f9i {p:a8C} (h:POK p) {i:Nat} (hi:i<p.1.length):∃s m e,Ieee.single.read (wAt p i) = .number s m e:=by
 have:=h.wind i hi
 unfold a3z at this
 simp only[Bool.and_eq_true]at this
 exact e9q (e3S this.1.1) this.1.2
theorem e3T {p:a8C} (h:POK p) {wind:Nat} (hw1:fge wind 0=true) (hw2:fle wind 1120403456=true) (h1:fle wind (wAt p 0)=false) (h2:fge wind (wAt p (p.1.length-1))=false) :
 d4z p wind+1<p.1.length /\ fle (wAt p (d4z p wind+1)) wind=false /\ ∀i,i<d4z p wind->fle (wAt p (i+1)) wind=true:=by
 have hn:=e9q hw1 hw2
 have hl:=h.w1
 unfold d4z
 cases hf:a0M (fun k=>!fle (wAt p (k+1)) wind) 0 (p.1.length-1)with
 | none =>
   exfalso
   by_cases c:p.1.length=1
   ·rw[c]at h2
    have:=(d2I hn (f9i h (i:=0) (by omega))).2 h1
    rw[this]at h2
    cases h2
   ·have:=a2q.1 hf (p.1.length-2) (Nat.zero_le _) (by omega)
    have e:p.1.length-2+1=p.1.length-1:=by omega
    rw[e]at this
    have e2:=(d2I hn (f9i h (i:=p.1.length-1) (by omega))).1
    rw[e2]at h2
    rw[h2]at this
    cases this
 | some j =>
   obtain⟨_,h3,h4,h5⟩:=a1V hf
   show j+1<p.1.length /\ fle (wAt p (j+1)) wind=false /\ ∀i,i<j->fle (wAt p (i+1)) wind=true
   refine⟨by omega,by simpa using h4,fun i hi=>?_⟩
   have:=h5 i (Nat.zero_le _) hi
   simpa using this
theorem e3U {p:a8C} (h:POK p) (wind:Nat) (angle:Int) (hw1:fge wind 0=true) (hw2:fle wind 1120403456=true) (h1:0<=angle) (h2:angle<=180):e7T (p,wind,angle,())=some (c0r p wind angle,()):=by
 have hl:=h.w1
 have hl2:=h.w2
 have hs:=h.s
 unfold e7T f5P c0r
 have e0:decide ((0:Int)<(p.1.length:Int))=true:=by simp;omega
 have e0':decide ((0:Int)<(p.2.2.1.length:Int))=true:=by simp;omega
 have ha:List.getD p.1 0 (zero (Ty.flt FloatKind.f32))=wAt p 0:=rfl
 have hb:List.getD p.2.2.1 0 (zero (Ty.slice (Ty.flt FloatKind.f32)))=rAt p 0:=rfl
 have f0:d9Q (p,rAt p 0,angle,())=some (d7G p (rAt p 0) angle,()):=b6Q h _ _ (h.row 0 (by omega)).1 h1 h2
 have g2:IntKind.wrap IntKind.i64 ((p.1.length:Int)-1)=((p.1.length-1:Nat):Int):=e0z _ (by omega) (by omega)
 have g3:decide (((p.1.length-1:Nat):Int)<(p.1.length:Int))=true:=by simp;omega
 have g3':decide (((p.1.length-1:Nat):Int)<(p.2.2.1.length:Int))=true:=by simp;omega
 have g4:decide (0<=((p.1.length-1:Nat):Int))=true:=by simp
 have hc:List.getD p.1 (p.1.length-1) (zero (Ty.flt FloatKind.f32))=wAt p (p.1.length-1):=rfl
 have hd:List.getD p.2.2.1 (p.1.length-1) (zero (Ty.slice (Ty.flt FloatKind.f32)))=rAt p (p.1.length-1):=rfl
 have f1:d9Q (p,rAt p (p.1.length-1),angle,())=some (d7G p (rAt p (p.1.length-1)) angle,()):=b6Q h _ _ (h.row _ (by omega)).1 h1 h2
 simp only[e0,e0',g2,g3,g3',g4,Bool.and_self,Int.toNat_natCast,Int.toNat_zero,ha,hb,hc,hd,e2M,e2N,f0,f1,Option.isSome_some,Option.getD_some,cond_true,Nat.le_refl,decide_true,Bool.true_and]
 show(bif fle wind (wAt p 0)then _ else bif fge wind (wAt p (p.1.length-1))then _ else _)=_
 cases c1:fle wind (wAt p 0)
 rotate_left
 ·rfl
 cases c2:fge wind (wAt p (p.1.length-1))
 rotate_left
 ·rfl
 obtain⟨i1,i2,i3⟩:=e3T h hw1 hw2 c1 c2
 generalize d4z p wind=j at *
 have hloop:d1a ((wind,angle,(),(0:Int),()),(p,()))=some ((wind,angle,(),(j:Int),()),(p,())):=by
  refine(a4x (q:=b9z e2M e2N c4q c4r) (fun k=>((wind,angle,(),(k:Int),()),(p,()))) j ((wind,angle,(),(j:Int),()),(p,())) ?_ ?_ (c4t ((wind,angle,(),(0:Int),()),(p,()))) ?_:_)
  ·intro k f hk
   unfold b9z
   have e1:decide (((k+1:Nat):Int)<(p.1.length:Int))=true:=by simp;omega
   have e2:decide (0<=((k+1:Nat):Int))=true:=by simp;omega
   have ha:List.getD p.1 (k+1) (zero (Ty.flt FloatKind.f32))=wAt p (k+1):=rfl
   simp only[a4y k (by omega),e1,e2,Bool.and_self,cond_true,Int.toNat_natCast,ha]
   show(bif fle (wAt p (k+1)) wind then _ else _)=_
   rw[i3 k hk]
   rfl
  ·intro f
   unfold b9z
   have e1:decide (((j+1:Nat):Int)<(p.1.length:Int))=true:=by simp;omega
   have e2:decide (0<=((j+1:Nat):Int))=true:=by simp;omega
   have ha:List.getD p.1 (j+1) (zero (Ty.flt FloatKind.f32))=wAt p (j+1):=rfl
   simp only[a4y j (by omega),e1,e2,Bool.and_self,cond_true,Int.toNat_natCast,ha]
   show(bif fle (wAt p (j+1)) wind then _ else _)=_
   rw[i2]
   rfl
  ·simp only[c4t];omega
 have e1:decide (((j+1:Nat):Int)<(p.1.length:Int))=true:=by simp;omega
 have e1':decide (((j+1:Nat):Int)<(p.2.2.1.length:Int))=true:=by simp;omega
 have e2:decide (0<=((j+1:Nat):Int))=true:=by simp;omega
 have e3:decide ((j:Int)<(p.1.length:Int))=true:=by simp;omega
 have e3':decide ((j:Int)<(p.2.2.1.length:Int))=true:=by simp;omega
 have e4:decide (0<=(j:Int))=true:=by simp
 have ha:List.getD p.1 (j+1) (zero (Ty.flt FloatKind.f32))=wAt p (j+1):=rfl
 have hb:List.getD p.1 j (zero (Ty.flt FloatKind.f32))=wAt p j:=rfl
 have hc:List.getD p.2.2.1 j (zero (Ty.slice (Ty.flt FloatKind.f32)))=rAt p j:=rfl
 have hd:List.getD p.2.2.1 (j+1) (zero (Ty.slice (Ty.flt FloatKind.f32)))=rAt p (j+1):=rfl
 have f2:d9Q (p,rAt p j,angle,())=some (d7G p (rAt p j) angle,()):=b6Q h _ _ (h.row _ (by omega)).1 h1 h2
 have f3:d9Q (p,rAt p (j+1),angle,())=some (d7G p (rAt p (j+1)) angle,()):=b6Q h _ _ (h.row _ (by omega)).1 h1 h2
 simp only[b5O,b5P,hloop,Option.isSome_some,Option.getD_some,cond_true,cond_false,a4y j (by omega),e1,e1',e2,e3,e3',e4,Bool.and_self,Int.toNat_natCast,ha,hb,hc,hd,f2,f3]
 rfl
def c5l (p:a8C) (wind:Nat) (angle:Int):Nat×Bool×Unit:=bif a3F p&&(fge wind 0&&(fle wind 1120403456&&a0L angle 0 180))then(c0r p wind angle,true,())else(0,false,())
theorem e3V (p:a8C) (wind:Nat) (angle:Int):f1o (p,wind,angle,())=some (c5l p wind angle):=by
 unfold f1o f5S c5l
 have e1:F90 (p,())=some (a3F p,()):=e0A p
 have e2:F44 (angle,0,180,())=some (a0L angle 0 180,()):=a2P _ _ _
 simp only[K90,G90,e1,K44,G44,e2,Option.isSome_some,Option.getD_some,cond_true]
 show(bif !a3F p then _ else bif fge wind 0 then bif !fle wind 1120403456 then _ else bif !a0L angle 0 180 then _ else _ else _)=_
 cases c1:a3F p
 ·rfl
 cases c2:fge wind 0
 ·rfl
 cases c3:fle wind 1120403456
 ·rfl
 cases c4:a0L angle 0 180
 ·rfl
 simp only[a0L,Bool.and_eq_true,decide_eq_true_eq]at c4
 have e3:e7T (p,wind,angle,())=some (c0r p wind angle,()):=e3U (pok c1) wind angle c2 c3 c4.1 c4.2
 simp only[f1m,f1n,e3,Option.isSome_some,Option.getD_some,cond_true]
 rfl
theorem d2J {v:Rat} (h1:p2 (-1000)<=v) (h2:v<p2 1000):∃B:Int,-1000<=B /\ B<=1000 /\ p2 B<=v /\ v<p2 (B+1):=by
 have ex:∃k:Nat,v<p2 ((k:Int)-999):=⟨1999,by show v<p2 1000;exact h2⟩
 classical
 have key:∀n:Nat,v<p2 ((n:Int)-999)->n<=1999->∃B:Int,-1000<=B /\ B<=1000 /\ p2 B<=v /\ v<p2 (B+1):=by
  intro n
  induction n with
  |zero=>intro h _;exact⟨-1000,by omega,by omega,h1,by simpa using h⟩
  | succ n ih =>
    intro h hn
    by_cases c:v<p2 ((n:Int)-999)
    ·exact ih c (by omega)
    ·refine⟨(n:Int)-999,by omega,by omega,by grind,?_⟩
     have e:((n:Int)-999)+1=((n+1:Nat):Int)-999:=by omega
     rw[e];exact h
 exact key 1999 (by show v<p2 1000;exact h2) (Nat.le_refl _)
theorem e9s {a b:Nat} {x y:Rat} (ha:IsR a x) (hb:IsR b y) (h1:p2 (-1000)<=x+y) (h2:x+y<p2 1000):∃r,IsR (a0i .add .f64 a b) r /\ c7a r (x+y) ((x+y)/1000000000000000):=by
 obtain⟨B,b1,b2,b3,b4⟩:=d2J h1 h2
 have hp:=a1r (B+1)
 have hp0:=a1r (-1000)
 obtain⟨r,h3,h4,h5⟩:=g1c ha hb B (by omega) (by omega) b4 (by grind)
 have e:p2 (B-53)=p2 B*p2 (-53):=by rw[Int.sub_eq_add_neg,a1M]
 have e2:p2 (-53)<=1/1000000000000000:=by decide +kernel
 have m:=Rat.mul_le_mul_of_nonneg_left e2 (show 0<=p2 B from Rat.le_of_lt (a1r B))
 have m2:=a1t b3 (show(0:Rat)<=1/1000000000000000 by decide +kernel)
 exact⟨r,h3,by grind,by grind⟩
theorem e0E {a b:Nat} {x y q:Rat} (ha:IsR a x) (hb:IsR b y) (hy:y≠0) (hq:q*y=x) (h1:p2 (-1000)<=q) (h2:q<p2 1000):∃r,IsR (a0i .quo .f64 a b) r /\ c7a r q (q/1000000000000000):=by
 obtain⟨B,b1,b2,b3,b4⟩:=d2J h1 h2
 have hp:=a1r (B+1)
 have hp0:=a1r (-1000)
 obtain⟨r,h3,h4,h5⟩:=f9g ha hb hy hq (B+1) (by omega) (by omega) (by grind) (by grind)
 have e:p2 (B+1-52)=p2 B*p2 (-51):=by rw[<- a1M];congr 1;omega
 have e2:p2 (-51)<=1/1000000000000000:=by decide +kernel
 have m:=Rat.mul_le_mul_of_nonneg_left e2 (show 0<=p2 B from Rat.le_of_lt (a1r B))
 have m2:=a1t b3 (show(0:Rat)<=1/1000000000000000 by decide +kernel)
 exact⟨r,h3,by grind,by grind⟩
theorem a5Q {z g:Rat} (hg0:0<g) (hz:0<=z*g):0<=z:=by
 apply Classical.byContradiction
 intro hc
 have:=Rat.mul_pos (show 0 < -z by grind) hg0
 grind
theorem a7K {z M x:Rat} (hx0:1/10000000000000<=x) (hM1:2<=M) (hM3:M<=1000000000000000000) (hz:0<=z*M-x):4*p2 (-1000)<=z:=by
 have e:4*p2 (-1000)<=1/10000000000000000000000000000000000:=by decide +kernel
 apply Classical.byContradiction
 intro hc
 have h3:=Rat.mul_nonneg (show 0<=1/10000000000000000000000000000000000-z by grind) (show 0<=M by grind)
 grind
theorem d2K {x g M:Rat} {w v:Nat} (hw:IsR w x) (hv:IsR v g) (hx0:1/10000000000000<=x) (hM1:2<=M) (hM2:2*x<=M) (hM3:M<=1000000000000000000) (h1:x<=g*M) (h2:g<=M) (hg0:0<g) :
 ∃g',IsR (a0i .quo .f64 (a0i .add .f64 v (a0i .quo .f64 w v)) 4611686018427387904) g' /\ x<=g'*M /\ g'<=M /\ 0<g':=by
 have hgne:g≠0:=by grind
 obtain⟨q0,hq0⟩:∃q0,q0=x/g:=⟨_,rfl⟩
 have hqg:q0*g=x:=by rw[hq0];grind
 have hqM:0<=M-q0:=a5Q hg0 (by grind)
 have hMq:0<=q0*M-x:=by
  have:0<=q0:=a5Q hg0 (by rw[hqg];grind)
  have:=Rat.mul_nonneg this (show 0<=M-g by grind)
  grind
 have big:(4000000000000000000:Rat)<p2 1000:=by decide +kernel
 obtain⟨q,hq,nq1,nq2⟩:=e0E hw hv hgne hqg (by have:=a7K hx0 hM1 hM3 hMq;have:=a1r (-1000);grind) (by grind)
 have hs0:p2 (-1000)<=g+q:=by
  have:=a7K (z:=g) hx0 hM1 hM3 (by grind)
  have:=a7K hx0 hM1 hM3 hMq
  have:=a1r (-1000)
  grind
 obtain⟨s,hs,ns1,ns2⟩:=e9s hv hq hs0 (by grind)
 have hs1:p2 (-1000)<=s/2:=by
  have e:=a7K (z:=g) hx0 hM1 hM3 (by grind)
  have e2:=a7K hx0 hM1 hM3 hMq
  have:=a1r (-1000)
  grind
 obtain⟨r,hr,nr1,nr2⟩:=e0E (q:=s/2) hs g1e (by decide) (by grind) hs1 (by grind)
 have h3:3*x<=(g+q0)*M:=by
  by_cases c:1<=g
  ·have m:=Rat.mul_nonneg (show 0<=g-1 by grind) (show 0<=M by grind)
   grind
  ·have m:0<=q0-x:=a5Q hg0 (by
    have:=Rat.mul_nonneg (show 0<=x by grind) (show 0<=1-g by grind)
    grind)
   have m2:=Rat.mul_nonneg m (show 0<=M by grind)
   have m3:=Rat.mul_nonneg (show 0<=x by grind) (show 0<=M-2 by grind)
   grind
 have h4:g+q0<=M+1/2:=by
  have m:=Rat.mul_nonneg (show 0<=M-g by grind) (show 0<=g*M-x by grind)
  have m2:0<=(M*M+x-g*M-q0*M)*g:=by
   have:(M*M+x-g*M-q0*M)*g=(M-g)*(g*M-x):=by grind
   rw[this];exact m
  have m3:=a5Q hg0 m2
  apply Classical.byContradiction
  intro hc
  have m4:=Rat.mul_pos (show 0<g+q0-M-1/2 by grind) (show 0<M by grind)
  grind
 have hr1:(g+q0)/2*(1-4/1000000000000000)<=r:=by grind
 refine⟨r,hr,?_,by grind,?_⟩
 ·have m:=a1t hr1 (show 0<=M by grind)
  grind
 ·grind
theorem c5m {w v:Nat} {x g M:Rat} (hw:IsR w x) (hv:IsR v g) (hx0:1/10000000000000<=x) (hM1:2<=M) (hM2:2*x<=M) (hM3:M<=1000000000000000000) (h1:x<=g*M) (h2:g<=M) (hg0:0<g):∀k,∃g',IsR (gk w v k) g' /\ x<=g'*M /\ g'<=M /\ 0<g'
 |0=>⟨g,hv,h1,h2,hg0⟩
 | k+1=>by
   obtain⟨g1,a1,a2,a3,a4⟩:=c5m hw hv hx0 hM1 hM2 hM3 h1 h2 hg0 k
   exact d2K hw a1 hx0 hM1 hM2 hM3 a2 a3 a4
theorem g1f:∃q,IsR 4427486594234968593 q /\ 1/10000000000000<=q:=by
 have h:∃m e,Ieee.double.read 4427486594234968593 = .number false m e /\ -1074<=e /\ 1/10000000000000<=RV false m e:=by
  refine⟨(match Ieee.double.read 4427486594234968593 with|.number _ m _=>m|_=>0),(match Ieee.double.read 4427486594234968593 with|.number _ _ e=>e|_=>0),?_,?_,?_⟩<;>decide +kernel
 obtain⟨m,e,h1,h2,h3⟩:=h
 exact⟨_,⟨false,m,e,h1,h2,rfl⟩,h3⟩
theorem f7Y:∃q,IsR 4861130398305394688 q /\ 1<=q /\ q<=200000000000000000:=by
 have h:∃m e,Ieee.double.read 4861130398305394688 = .number false m e /\ -1074<=e /\ 1<=RV false m e /\ RV false m e<=200000000000000000:=by
  refine⟨(match Ieee.double.read 4861130398305394688 with|.number _ m _=>m|_=>0),(match Ieee.double.read 4861130398305394688 with|.number _ _ e=>e|_=>0),?_,?_,?_,?_⟩<;>decide +kernel
 obtain⟨m,e,h1,h2,h3,h4⟩:=h
 exact⟨_,⟨false,m,e,h1,h2,rfl⟩,h3,h4⟩
theorem f7Z {w c d:Nat} {x y:Rat} (hc:IsR c x) (hd:IsR d y) (h1:(fgt .f64 w c||feq .f64 w c)=true) (h2:(flt .f64 w d||feq .f64 w d)=true):∃q,IsR w q:=by
 obtain⟨s,m,e,hr,_,_⟩:=hc
 obtain⟨t,n,f,hr2,_,_⟩:=hd
 have o1:FloatKind.f64.format.order w c=(Ieee.double.read w).order (Ieee.double.read c):=rfl
 have o2:FloatKind.f64.format.order w d=(Ieee.double.read w).order (Ieee.double.read d):=rfl
 unfold fgt feq flt at *
 rw[o1,hr]at h1
 rw[o2,hr2]at h2
 cases hz:Ieee.double.read w with
 |number a b p=>exact⟨_,a,b,p,hz,b2N hz,rfl⟩
 |nan a b=>rw[hz]at h2;simp[Ieee.Datum.order]at h2
 | infinity a =>
   rw[hz]at h1 h2
   cases a<;>simp[Ieee.Datum.order]at h1 h2
theorem d7H (w:Nat):∃r,IsR (c7e w) r /\ Abs r 1000000000000000000:=by
 have hz:∃r,IsR 0 r /\ Abs r 1000000000000000000:=⟨0,e3Q,by constructor<;>decide +kernel⟩
 obtain⟨c1,hc1,b1⟩:=g1f
 obtain⟨c2,hc2,b2,b3⟩:=f7Y
 unfold c7e
 generalize hG:gk w (c0T .f64 w 4607182418800017408) 60=G
 cases h1:(fgt .f64 w 4427486594234968593||feq .f64 w 4427486594234968593)
 ·exact hz
 cases h2:(flt .f64 w 4861130398305394688||feq .f64 w 4861130398305394688)
 ·exact hz
 obtain⟨x,hx⟩:=f7Z hc1 hc2 h1 h2
 rw[f9f hx hc1,e9m hx hc1]at h1
 rw[f7U hx hc2,e9m hx hc2]at h2
 simp only[Bool.or_eq_true,decide_eq_true_eq]at h1 h2
 show ∃r,IsR G r /\ _
 have hm:∃g,IsR (c0T .f64 w 4607182418800017408) g /\ 1<=g /\ x<=g /\ (g=x∨g=1):=by
  unfold c0T
  rw[f2o hx f7W]
  by_cases c:x<1
  ·rw[if_pos c];exact⟨1,f7W,by grind,by grind,.inr rfl⟩
  ·rw[if_neg c]
   by_cases c':1<x
   ·rw[if_pos c'];exact⟨x,hx,by grind,by grind,.inl rfl⟩
   ·rw[if_neg c']
    have:x=1:=by grind
    dsimp only
    split
    ·exact⟨1,f7W,by grind,by grind,.inr rfl⟩
    ·exact⟨x,hx,by grind,by grind,.inl rfl⟩
 obtain⟨g,hg,g1,g2,g3⟩:=hm
 have hgM:x<=g*(2*g):=by
  have:=Rat.mul_nonneg (show 0<=g-1 by grind) (show 0<=g by grind)
  grind
 obtain⟨r,r1,r2,r3,r4⟩:=c5m (M:=2*g) hx hg (by grind) (by grind) (by grind) (by grind) hgM (by grind) (by grind) 60
 rw[hG]at r1
 exact⟨r,r1,by constructor<;>grind⟩
theorem e3W (z:Nat×Nat):∃r,IsR (e3O z) r /\ Abs r 1000000000000000000:=by
 unfold e3O
 cases a5g z
 ·exact⟨0,e3Q,by constructor<;>decide +kernel⟩
 ·exact d7H _
theorem a7L {b:Nat} {q:Rat} (h:IsR b q) (hq:Abs q 1000000000000000000):a2d b=true:=by
 obtain⟨s,m,e,hr,he,rfl⟩:=h
 unfold a2d
 have hd:FloatKind.f64.decode b = .number s m e:=hr
 rw[hd]
 show(!(Ieee.single.read (Ieee.single.nearest s m e)).isInfinity)=true
 by_cases h0:m=0
 ·subst h0
  unfold Ieee.Format.nearest
  rw[if_pos rfl]
  cases s<;>decide +kernel
 ·have hlt:(m:Rat)*p2 e<p2 100:=by
   have hp:(1000000000000000000:Rat)<p2 100:=by decide +kernel
   exact e0y s m e (by have:=hq.2;grind) (by have:=hq.1;grind)
  have l1:((2^m.log2:Nat):Rat)<=(m:Rat):=a1e (Nat.log2_self_le h0)
  have l2:=a1t l1 (Rat.le_of_lt (a1r e))
  have l3:p2 ((m.log2:Int)+e)<p2 100:=by
   rw[a1M,a2c]
   grind
  have l4:=c0m l3
  obtain⟨s',m',e',h1,_⟩:=e3y s m e 100 (by omega) (by decide) (by decide)
  rw[h1];rfl
def d7I (w:Nat×Nat):Nat×Nat:=((a0Z .f32 .f64 w.1).2,(a0Z .f32 .f64 w.2).2)
def b1Q (w:Nat×Nat):Nat:=bif a3M w then(a0Z .f64 .f32 (e3O (d7I w))).2 else 0
theorem d7J (z:Nat×Nat):(a0Z .f64 .f32 (e3O z)).1=true:=by
 obtain⟨r,h1,h2⟩:=e3W z
 exact a7L h1 h2
theorem d2L (w:Nat×Nat):e7O (w,())=some (b1Q w,()):=by
 unfold e7O f5C b1Q
 have e1:F45 (w,())=some (a3M w,()):=a5a w
 have e2:f5v (w,())=some (d7I w,()):=rfl
 have e3:e7M (d7I w,())=some (e3O (d7I w),()):=e3P _
 simp only[K45,G45,e1,f1g,f1h,e2,f1k,f1l,e3,Option.isSome_some,Option.getD_some,cond_true,d7J]
 cases a3M w<;>rfl
def upV (p:a8C) (wind:Nat) (angle:Int) (u:Nat×Nat):Nat:=a0i .mul .f32 (c0r p wind angle) (a0Z .f64 .f32 u.1).2
theorem d2M (k:Nat) (hk:k<360):(a0Z .f64 .f32 (a1I k).1).1=true:=a7L (tcR hk) ((e0B hk).1.mono (by decide +kernel))
def e3X (p:a8C) (wind:Nat) (angle:Int):Nat×Bool×Unit:=bif a3F p&&(fge wind 0&&(fle wind 1120403456&&a0L angle 0 180))then(upV p wind angle (a1I (md angle)),true,())else(0,false,())
def mm (fx:Nat->Nat) (lo hi:Int):Nat->Int×Nat
 |0=>(lo,0)
 |k+1=>bif a0L (k:Int) lo hi then(bif (k:Int)==lo then((k:Int),fx k)else bif fgt .f32 (fx k) (mm fx lo hi k).2 then((k:Int),fx k)else mm fx lo hi k)else mm fx lo hi k
def a3v (w:Nat×Nat):Int:=bif !a3M w then -1 else bif (feq .f32 w.1 0&&feq .f32 w.2 0)then -1 else d2F ((a0Z .f32 .f64 (a5T .f32 w.1)).2,(a0Z .f32 .f64 (a5T .f32 w.2)).2)
theorem d2N (w:Nat×Nat):e7H (w,())=some (a3v w,()):=by
 unfold e7H f5r a3v
 have e1:F45 (w,())=some (a3M w,()):=a5a w
 have e2:e7F (((a0Z .f32 .f64 (a5T .f32 w.1)).2,(a0Z .f32 .f64 (a5T .f32 w.2)).2),())=some (d2F ((a0Z .f32 .f64 (a5T .f32 w.1)).2,(a0Z .f32 .f64 (a5T .f32 w.2)).2),()):=e3M _
 simp only[K45,G45,e1,f1e,f1f,e2,Option.isSome_some,Option.getD_some,cond_true]
 generalize d2F ((a0Z .f32 .f64 (a5T .f32 w.1)).2,(a0Z .f32 .f64 (a5T .f32 w.2)).2)=B
 cases a3M w
 ·rfl
 ·cases (feq .f32 w.1 0&&feq .f32 w.2 0)<;>rfl
def sm (cmp:Nat->Nat->Bool) (p:a8C) (wind:Nat) (lo:Int):Nat->Int×Nat
 |0=>(lo,(e3X p wind lo).1)
 |k+1=>bif cmp (e3X p wind (lo+((k+1:Nat):Int))).1 (sm cmp p wind lo k).2 then(lo+((k+1:Nat):Int),(e3X p wind (lo+((k+1:Nat):Int))).1)else sm cmp p wind lo k
abbrev Yv:Type:=Den S46
namespace Yv
def tm (Y:Yv):Int:=Y.2.1
def ps (Y:Yv):Nat×Nat:=Y.2.2.1
def hd (Y:Yv):Int:=Y.2.2.2.1
def wd (Y:Yv):Nat×Nat:=Y.2.2.2.2.1
def sl (Y:Yv):Int:=Y.2.2.2.2.2.1
def tk (Y:Yv):List (Den S97):=Y.2.2.2.2.2.2.1
def lg (Y:Yv):List ByteArray:=Y.2.2.2.2.2.2.2.1
def sails (Y:Yv):List (Den S68):=Y.1.2.2.1
def setHd (Y:Yv) (h:Int):Yv:=(Y.1,Y.2.1,Y.2.2.1,h,Y.2.2.2.2)
def setWd (Y:Yv) (w:Nat×Nat):Yv:=(Y.1,Y.2.1,Y.2.2.1,Y.2.2.2.1,w,Y.2.2.2.2.2)
def setSl (Y:Yv) (k:Int):Yv:=(Y.1,Y.2.1,Y.2.2.1,Y.2.2.2.1,Y.2.2.2.2.1,k,Y.2.2.2.2.2.2)
def setPs (Y:Yv) (p:Nat×Nat):Yv:=(Y.1,Y.2.1,p,Y.2.2.2)
def setGo (Y:Yv) (t:Int) (p:Nat×Nat) (tr:List (Den S97)):Yv:=(Y.1,t,p,Y.2.2.2.1,Y.2.2.2.2.1,Y.2.2.2.2.2.1,tr,Y.2.2.2.2.2.2.2)
def setLg (Y:Yv) (l:List ByteArray):Yv:=(Y.1,Y.2.1,Y.2.2.1,Y.2.2.2.1,Y.2.2.2.2.1,Y.2.2.2.2.2.1,Y.2.2.2.2.2.2.1,l,())
end Yv
abbrev I68:Sg:=⟨[.ptr 0,.val (.slice (.str))],[.boxC [.sl (.flt .f32),.sl (.int .i64),.sl (.slice (.flt .f32)),.sl (a0S),.sl (.int .i64),.sl (S68),.int .i64,.int .i64,.int .i64,.int .i64,.sl (a1E),.int .i64,.int .i64,.int .i64,.int .i64,.int .i64,.cpx .f64,.int .i64,.cpx .f32,.int .i64,.ref (S97) 1,.ref (.str) 2],.arr (S97),.arr (.str)]⟩
abbrev O68:Sg:=⟨[.val (.bool)],[.boxC [.sl (.flt .f32),.sl (.int .i64),.sl (.slice (.flt .f32)),.sl (a0S),.sl (.int .i64),.sl (S68),.int .i64,.int .i64,.int .i64,.int .i64,.sl (a1E),.int .i64,.int .i64,.int .i64,.int .i64,.int .i64,.cpx .f64,.int .i64,.cpx .f32,.int .i64,.ref (S97) 3,.ref (.str) 2],.gone,.arr (.str),.arr (S97)]⟩
noncomputable def g1g (k17 g17 k132 g132 k45 g45 k133 g133 k134 g134 k19 g19 k135 g135 k23 g23 k44 g44 k57 g57 k136 g136 k137 g137) :=a0t tab eqs [(17,a0a A17 R17 k17 g17),(132,a0a c6K d1n k132 g132),(45,a0a A45 R45 k45 g45),(133,a0a c6L d4p k133 g133),(134,a0a b7c c6B k134 g134),(19,a0a A19 R19 k19 g19),(135,a0a b5Y c6M k135 g135),(23,a0a A23 R23 k23 g23),(44,a0a A44 R44 k44 g44),(57,a0a A57 R57 k57 g57),(136,a0a c6S d4v k136 g136),(137,a0a c6T d1E k137 g137)] 356 [.tmp 4] [] [] [] [] [.mv 0 20 1]
def a6n:ByteArray:={ data:=#[115,116,101,101,114] }
def b6R:ByteArray:={ data:=#[119,105,110,100] }
def c2v:ByteArray:={ data:=#[115,97,105,108] }
def d2O:ByteArray:={ data:=#[110,111,110,101] }
def e3Y:ByteArray:={ data:=#[102,105,120] }
def sGo:ByteArray:={ data:=#[103,111] }
def yIn (x:I68.den):Yv:=(((x.2.1.1,x.2.1.2.1,x.2.1.2.2.1,()),(x.2.1.2.2.2.1,x.2.1.2.2.2.2.1,()),x.2.1.2.2.2.2.2.1,(((x.2.1.2.2.2.2.2.2.1,x.2.1.2.2.2.2.2.2.2.1,()),(x.2.1.2.2.2.2.2.2.2.2.1,x.2.1.2.2.2.2.2.2.2.2.2.1,()),()),x.2.1.2.2.2.2.2.2.2.2.2.2.1,((x.2.1.2.2.2.2.2.2.2.2.2.2.2.1,x.2.1.2.2.2.2.2.2.2.2.2.2.2.2.1,()),(x.2.1.2.2.2.2.2.2.2.2.2.2.2.2.2.1,x.2.1.2.2.2.2.2.2.2.2.2.2.2.2.2.2.1,()),()),()),()),
 x.2.1.2.2.2.2.2.2.2.2.2.2.2.2.2.2.2.1,x.2.1.2.2.2.2.2.2.2.2.2.2.2.2.2.2.2.2.1,x.2.1.2.2.2.2.2.2.2.2.2.2.2.2.2.2.2.2.2.1,x.2.1.2.2.2.2.2.2.2.2.2.2.2.2.2.2.2.2.2.2.1,x.2.1.2.2.2.2.2.2.2.2.2.2.2.2.2.2.2.2.2.2.2.1,x.2.2)
def c7g (b:Bool) (Y:Yv):O68.den:=((b,()),(Y.1.1.1,Y.1.1.2.1,Y.1.1.2.2.1,Y.1.2.1.1,Y.1.2.1.2.1,Y.1.2.2.1,Y.1.2.2.2.1.1.1.1,Y.1.2.2.2.1.1.1.2.1,Y.1.2.2.2.1.1.2.1.1,Y.1.2.2.2.1.1.2.1.2.1,Y.1.2.2.2.1.2.1,Y.1.2.2.2.1.2.2.1.1.1,Y.1.2.2.2.1.2.2.1.1.2.1,Y.1.2.2.2.1.2.2.1.2.1.1,Y.1.2.2.2.1.2.2.1.2.1.2.1,
 Y.2.1,Y.2.2.1,Y.2.2.2.1,Y.2.2.2.2.1,Y.2.2.2.2.2.1,(),(),()),(),Y.lg,Y.tk,())
section
variable {R:Type} (k17:KA A17) (g17:GA A17 R17) (k132:KA c6K) (g132:GA c6K d1n) (k45:KA A45) (g45:GA A45 R45) (k133:KA c6L) (g133:GA c6L d4p) (k134:KA b7c) (g134:GA b7c c6B) (k19:KA A19) (g19:GA A19 R19) (k135:KA b5Y) (g135:GA b5Y c6M) (k23:KA A23) (g23:GA A23 R23) (k44:KA A44) (g44:GA A44 R44) (k57:KA A57) (g57:GA A57 R57) (k136:KA c6S) (g136:GA c6S d4v) (k137:KA c6T) (g137:GA c6T d1E) (f:List ByteArray)
def ixB (k:Int):Bool:=decide (k<(↑(List.length f):Int))
def fAt (k:Int):ByteArray:=List.getD f (Int.toNat k) (zero Ty.str)
def kpK (Y:Yv) (h:Bool->Yv->Option R):Option R:=
 bif decide (Y.sl ≥ 0)then
 bif k19 (Y,())then
 bif (g19 (Y,())).2.1 then
 bif k137 (Y.sails,Y.sl,(g19 (Y,())).1,())then h true (Y.setSl (g137 (Y.sails,Y.sl,(g19 (Y,())).1,())).1)else none
 else h true (Y.setSl (-1))
 else none
 else h true Y
def a8D (Y:Yv) (h:Bool->Yv->Option R):Option R:=
 bif ixB f 0 then
 bif a2w (fAt f 0) a6n then kpK k19 g19 k137 g137 Y h
 else bif ixB f 0 then bif a2w (fAt f 0) b6R then kpK k19 g19 k137 g137 Y h else h true Y else none
 else none
def b2P (Y:Yv) (h:Bool->Yv->Option R):Option R:=
 bif ixB f 1 then
 bif k17 (fAt f 1,())then
 bif !(g17 (fAt f 1,())).2.1 then h false Y
 else bif decide ((g17 (fAt f 1,())).1>359)then h false Y
 else a8D k19 g19 k137 g137 f (Y.setHd (g17 (fAt f 1,())).1) h
 else none
 else none
def slB:Bool:=decide (1<=(↑(List.length f):Int))&&decide ((↑(List.length f):Int)<=(↑(List.length f):Int))
def b1D:List ByteArray:=List.drop (Int.toNat 1) (List.take (Int.toNat (↑(List.length f):Int)) f)
def d4A (p:Nat×Nat×Bool×Unit):Nat×Nat:=((a0Z .f64 .f32 p.1).2,(a0Z .f64 .f32 p.2.1).2)
def c7h (Y:Yv) (h:Bool->Yv->Option R):Option R:=
 bif slB f then
 bif k132 (b1D f,())then
 bif (a0Z .f64 .f32 (g132 (b1D f,())).1).1 then
 bif (a0Z .f64 .f32 (g132 (b1D f,())).2.1).1 then
 bif !(g132 (b1D f,())).2.2.1 then h false Y
 else bif k45 (d4A (g132 (b1D f,())),())then
 bif !(g45 (d4A (g132 (b1D f,())),())).1 then h false Y
 else bif !(feq .f32 Y.wd.1 0&&feq .f32 Y.wd.2 0)then
 bif k133 (Y.wd,d4A (g132 (b1D f,())),1056964608,())then
 bif !(g133 (Y.wd,d4A (g132 (b1D f,())),1056964608,())).2.1 then h false Y
 else bif k45 ((g133 (Y.wd,d4A (g132 (b1D f,())),1056964608,())).1,())then
 bif !(g45 ((g133 (Y.wd,d4A (g132 (b1D f,())),1056964608,())).1,())).1 then h false Y
 else a8D k19 g19 k137 g137 f (Y.setWd (g133 (Y.wd,d4A (g132 (b1D f,())),1056964608,())).1) h
 else none
 else none
 else a8D k19 g19 k137 g137 f (Y.setWd (d4A (g132 (b1D f,())))) h
 else none
 else none
 else none
 else none
 else none
def c7i (Y:Yv) (h:Bool->Yv->Option R):Option R:=
 bif ixB f 1 then
 bif a2w (fAt f 1) d2O then h true (Y.setSl (-1))
 else bif ixB f 1 then
 bif k134 (Y.sails,fAt f 1,())then
 bif k19 (Y,())then
 bif decide ((g134 (Y.sails,fAt f 1,())).1<0)then h false Y
 else bif !(g19 (Y,())).2.1 then h false Y
 else bif decide (0<=(g134 (Y.sails,fAt f 1,())).1)&&decide ((g134 (Y.sails,fAt f 1,())).1<(↑(List.length Y.sails):Int))then
 bif k135 (List.getD Y.sails (Int.toNat (g134 (Y.sails,fAt f 1,())).1) (zero S68),(g19 (Y,())).1,())then
 bif !(g135 (List.getD Y.sails (Int.toNat (g134 (Y.sails,fAt f 1,())).1) (zero S68),(g19 (Y,())).1,())).1 then h false Y
 else a8D k19 g19 k137 g137 f (Y.setSl (g134 (Y.sails,fAt f 1,())).1) h
 else none
 else none
 else none
 else none
 else none
 else none
def e5v (Y:Yv) (h:Bool->Yv->Option R):Option R:=
 bif slB f then
 bif k132 (b1D f,())then
 bif k23 (((g132 (b1D f,())).1,(g132 (b1D f,())).2.1),())then
 bif !(g132 (b1D f,())).2.2.1 then h false Y
 else bif !(g23 (((g132 (b1D f,())).1,(g132 (b1D f,())).2.1),())).2.1 then h false Y
 else a8D k19 g19 k137 g137 f (Y.setPs ((g132 (b1D f,())).1,(g132 (b1D f,())).2.1)) h
 else none
 else none
 else none
def c2w (Y:Yv) (n t:Int) (s:Nat) (h:Bool->Yv->Option R):Option R:=
 bif k136 (Y.ps,Y.tm,List.set (List.replicate 1 (zero a3L)) 0 (Y.hd,s,n,()),Y.1.2.1,())then
 bif k23 ((g136 (Y.ps,Y.tm,List.set (List.replicate 1 (zero a3L)) 0 (Y.hd,s,n,()),Y.1.2.1,())).1,())then
 bif !(g136 (Y.ps,Y.tm,List.set (List.replicate 1 (zero a3L)) 0 (Y.hd,s,n,()),Y.1.2.1,())).2.1 then h false Y
 else bif !(g23 ((g136 (Y.ps,Y.tm,List.set (List.replicate 1 (zero a3L)) 0 (Y.hd,s,n,()),Y.1.2.1,())).1,())).2.1 then h false Y
 else bif a0F (List.length Y.tk+1)then
 a8D k19 g19 k137 g137 f (Y.setGo t (g136 (Y.ps,Y.tm,List.set (List.replicate 1 (zero a3L)) 0 (Y.hd,s,n,()),Y.1.2.1,())).1 (Y.tk++[((g23 ((g136 (Y.ps,Y.tm,List.set (List.replicate 1 (zero a3L)) 0 (Y.hd,s,n,()),Y.1.2.1,())).1,())).1,t,())])) h
 else none
 else none
 else none
def goK (Y:Yv) (h:Bool->Yv->Option R):Option R:=
 bif ixB f 1 then
 bif k17 (fAt f 1,())then
 bif !(g17 (fAt f 1,())).2.1 then h false Y
 else bif k44 ((g17 (fAt f 1,())).1,1,3600,())then
 bif !(g44 ((g17 (fAt f 1,())).1,1,3600,())).1 then h false Y
 else bif decide (IntKind.wrap .i64 (Y.tm+(g17 (fAt f 1,())).1)>10000000)then h false Y
 else bif decide ((↑(List.length Y.tk):Int) ≥ 200)then h false Y
 else bif decide (Y.sl ≥ 0)then
 bif k57 (Y,())then c2w k19 g19 k23 g23 k136 g136 k137 g137 f Y (g17 (fAt f 1,())).1 (IntKind.wrap .i64 (Y.tm+(g17 (fAt f 1,())).1)) (g57 (Y,())).1 h else none
 else c2w k19 g19 k23 g23 k136 g136 k137 g137 f Y (g17 (fAt f 1,())).1 (IntKind.wrap .i64 (Y.tm+(g17 (fAt f 1,())).1)) 0 h
 else none
 else none
 else none
def b1R (n:Int) (s:ByteArray) (a b:Option R):Option R:=
 bif (↑(List.length f):Int)==n then bif ixB f 0 then bif a2w (fAt f 0) s then a else b else none else b
def c7j (Y:Yv) (h:Bool->Yv->Option R):Option R:=
 b1R f 2 a6n (b2P k17 g17 k19 g19 k137 g137 f Y h)
 (b1R f 3 b6R (c7h k132 g132 k45 g45 k133 g133 k19 g19 k137 g137 f Y h)
 (b1R f 2 c2v (c7i k134 g134 k19 g19 k135 g135 k137 g137 f Y h)
 (b1R f 3 e3Y (e5v k132 g132 k19 g19 k23 g23 k137 g137 f Y h)
 (b1R f 2 sGo (goK k17 g17 k19 g19 k23 g23 k44 g44 k57 g57 k136 g136 k137 g137 f Y h) (h false Y)))))
end
def r68 (k17:KA A17) (g17:GA A17 R17) (k132:KA c6K) (g132:GA c6K d1n) (k45:KA A45) (g45:GA A45 R45) (k133:KA c6L) (g133:GA c6L d4p) (k134:KA b7c) (g134:GA b7c c6B) (k19:KA A19) (g19:GA A19 R19) (k135:KA b5Y) (g135:GA b5Y c6M) (k23:KA A23) (g23:GA A23 R23) (k44:KA A44) (g44:GA A44 R44) (k57:KA A57) (g57:GA A57 R57) (k136:KA c6S) (g136:GA c6S d4v) (k137:KA c6T) (g137:GA c6T d1E) (x:I68.den):Option (O68.den):=c7j k17 g17 k132 g132 k45 g45 k133 g133 k134 g134 k19 g19 k135 g135 k23 g23 k44 g44 k57 g57 k136 g136 k137 g137 x.1.2.1 (yIn x) fun b Y=>some (c7g b Y)
theorem g1h (k17 g17 k132 g132 k45 g45 k133 g133 k134 g134 k19 g19 k135 g135 k23 g23 k44 g44 k57 g57 k136 g136 k137 g137 x) :a1N (g1g k17 g17 k132 g132 k45 g45 k133 g133 k134 g134 k19 g19 k135 g135 k23 g23 k44 g44 k57 g57 k136 g136 k137 g137) (a0e Tryz.f68) I68 O68 x=r68 k17 g17 k132 g132 k45 g45 k133 g133 k134 g134 k19 g19 k135 g135 k23 g23 k44 g44 k57 g57 k136 g136 k137 g137 x:=by kernel_rfl
def F68 (x:I68.den):Option (O68.den):=r68 K17 G17 e2Q e2R K45 G45 e2S e2T c6C c6D K19 G19 c6N c6O K23 G23 K44 G44 K57 G57 e3a e3b c2d c2e x
def K68 (x:I68.den):Bool:=(F68 x).isSome
def G68 (x:I68.den):O68.den:=(F68 x).getD (a1d O68)
theorem f8a:a0q Tryz.prog (68,a0n true I68 O68 K68 G68):=a1k (a0j mixed a0l a0k (.cons e8f (.cons e8m (.cons b4Z (.cons e8p (.cons d9B (.cons e8c (.cons e0b (.cons e7t (.cons a6J (.cons e7W (.cons e8J (.cons e8M .nil))))))))))))) (a0O Tryz.func68 rfl rfl rfl (by kernel_rfl) (a0m (by kernel_rfl))) true fun x=>g1h K17 G17 e2Q e2R K45 G45 e2S e2T c6C c6D K19 G19 c6N c6O K23 G23 K44 G44 K57 G57 e3a e3b c2d c2e x
def a5e (Y:Yv):Nat:=bif decide (a3v Y.wd<0)then 0 else(c5l Y.1.1 (b1Q Y.wd) (btw Y.hd (a3v Y.wd))).1
theorem e0F (Y:Yv):F57 (Y,())=some (a5e Y,()):=by
 have e1:e7H (Y.wd,())=some (a3v Y.wd,()):=d2N _
 have e2:e7O (Y.wd,())=some (b1Q Y.wd,()):=d2L _
 have e3:e7P (Y.hd,a3v Y.wd,())=some (btw Y.hd (a3v Y.wd),()):=d2D _ _
 have e4:=e3V Y.1.1 (b1Q Y.wd) (btw Y.hd (a3v Y.wd))
 unfold F57 r57 a5e
 show(bif d6u (Y.wd,())then _ else _)=_
 have k1:d6u (Y.wd,())=true:=by unfold d6u;rw[e1];rfl
 have g1:c7K (Y.wd,())=(a3v Y.wd,()):=by unfold c7K;rw[e1];rfl
 have k2:d6z (Y.wd,())=true:=by unfold d6z;rw[e2];rfl
 have g2:d4g (Y.wd,())=(b1Q Y.wd,()):=by unfold d4g;rw[e2];rfl
 have k3:d6B (Y.hd,a3v Y.wd,())=true:=by unfold d6B;rw[e3];rfl
 have g3:d4k (Y.hd,a3v Y.wd,())=(btw Y.hd (a3v Y.wd),()):=by unfold d4k;rw[e3];rfl
 have k4:e5o (Y.1.1,b1Q Y.wd,btw Y.hd (a3v Y.wd),())=true:=by unfold e5o;rw[e4];rfl
 have g4:e5p (Y.1.1,b1Q Y.wd,btw Y.hd (a3v Y.wd),())=c5l Y.1.1 (b1Q Y.wd) (btw Y.hd (a3v Y.wd)):=by unfold e5p;rw[e4];rfl
 rw[k1,cond_true]
 show(bif decide ((c7K (Y.wd,())).1<0)then _ else bif d6z (Y.wd,())then bif d6B (Y.hd,c7K (Y.wd,()))then bif e5o (Y.1.1,(d4g (Y.wd,())).1,d4k (Y.hd,c7K (Y.wd,())))then some ((e5p (Y.1.1,(d4g (Y.wd,())).1,d4k (Y.hd,c7K (Y.wd,())))).1,())else none else none else none)=_
 rw[g1,k2,g2,k3,g3]
 dsimp only
 rw[k4,g4]
 cases decide (a3v Y.wd<0)<;>rfl
def e0G (u:Nat×Nat) (s:Nat):Nat×Nat:=(a0i .mul .f32 (a0Z .f64 .f32 u.1).2 s,a0i .mul .f32 (a0Z .f64 .f32 u.2).2 s)
def c0R (k:Int) (s:Nat):(Nat×Nat)×Bool×Unit:=bif !a4g s then((0,0),false,())else(e0G (a1I (md k)) s,true,())
theorem c7k (k:Nat) (hk:k<360):(a0Z .f64 .f32 (a1I k).2).1=true:=a7L (tsR hk) ((e0B hk).2.mono (by decide +kernel))
theorem e3Z (k:Nat) (hk:k<360) (s:Nat):f1s (a1I k,s,())=some (e0G (a1I k) s,()):=by
 unfold f1s f5X
 dsimp only
 rw[d2M k hk,c7k k hk]
 rfl
theorem e0H (k:Int) (s:Nat):F56 (k,s,())=some (c0R k s):=by
 have e1:=c2r s
 have e2:=e3I k
 have e3:=e3Z (md k) (c7d k) s
 unfold F56 r56 c0R
 dsimp only
 simp only[d4c,d4d,e1,f1q,f1r,e2,f1t,f1u,e3,Option.isSome_some,Option.getD_some,cond_true]
 cases a4g s<;>rfl
def apV (w v:Nat×Nat):(Nat×Nat)×Bool×Unit:=bif !a3M w then((0,0),false,())else bif !a3M v then((0,0),false,())else((a0i .sub .f32 w.1 v.1,a0i .sub .f32 w.2 v.2),true,())
theorem e4a (w v:Nat×Nat):f1v (w,v,())=some (apV w v):=by
 have e1:=a5a w
 have e2:=a5a v
 unfold f1v f6a apV
 dsimp only
 simp only[K45,G45,e1,e2,Option.isSome_some,Option.getD_some,cond_true]
 cases a3M w
 ·rfl
 ·cases a3M v<;>rfl
def e5w (w v:Nat×Nat) (k:Int):Den R58:=
 bif !(apV w v).2.1 then((0,0,()),false,())else bif decide (a3v (apV w v).1<0)then((0,0,()),false,())else((b1Q (apV w v).1,btw k (a3v (apV w v).1),()),true,())
theorem e9t (w v:Nat×Nat) (k:Int):F58 (w,v,k,())=some (e5w w v k):=by
 have e1:=e4a w v
 have e2:=d2N (apV w v).1
 have e3:=d2L (apV w v).1
 have e4:=d2D k (a3v (apV w v).1)
 unfold F58 r58 e5w
 dsimp only
 simp only[f1w,f1x,e1,d6u,c7K,e2,d6z,d4g,e3,d6B,d4k,e4,Option.isSome_some,Option.getD_some,cond_true]
 cases (apV w v).2.1
 ·rfl
 ·cases decide (a3v (apV w v).1<0)<;>rfl
def a2v (Y:Yv):Den R19:=bif !(c0R Y.hd (a5e Y)).2.1 then((0,0,()),false,())else e5w Y.wd (c0R Y.hd (a5e Y)).1 Y.hd
theorem d2P (Y:Yv):F19 (Y,())=some (a2v Y):=by
 have e1:=e0F Y
 have e2:=e0H Y.hd (a5e Y)
 have e3:=e9t Y.wd (c0R Y.hd (a5e Y)).1 Y.hd
 have k1:K57 (Y,())=true:=by unfold K57;rw[e1];rfl
 have g1:G57 (Y,())=(a5e Y,()):=by unfold G57;rw[e1];rfl
 have k2:K56 (Y.hd,a5e Y,())=true:=by unfold K56;rw[e2];rfl
 have g2:G56 (Y.hd,a5e Y,())=c0R Y.hd (a5e Y):=by unfold G56;rw[e2];rfl
 have k3:K58 (Y.wd,(c0R Y.hd (a5e Y)).1,Y.hd,())=true:=by unfold K58;rw[e3];rfl
 have g3:G58 (Y.wd,(c0R Y.hd (a5e Y)).1,Y.hd,())=e5w Y.wd (c0R Y.hd (a5e Y)).1 Y.hd:=by unfold G58;rw[e3];rfl
 unfold F19 r19 a2v
 show(bif K57 (Y,())then bif K56 (Y.hd,G57 (Y,()))then bif !(G56 (Y.hd,G57 (Y,()))).2.1 then _ else bif K58 (Y.wd,(G56 (Y.hd,G57 (Y,()))).1,Y.hd,())then some (G58 (Y.wd,(G56 (Y.hd,G57 (Y,()))).1,Y.hd,()))else none else none else none)=_
 rw[k1,g1,k2,g2,k3,g3]
 cases (c0R Y.hd (a5e Y)).2.1<;>rfl
theorem e9u (a b:Int):0<=btw a b /\ btw a b<=180:=by
 have h:md ((md b:Int)-(md a:Int))<360:=c7d _
 unfold btw
 dsimp only
 split<;>omega
theorem e4b:I64 0:=⟨by decide,by decide⟩
theorem d7K (w v:Nat×Nat) (k:Int):I64 (e5w w v k).1.2.1:=by
 have:=e9u k (a3v (apV w v).1)
 unfold e5w
 cases (apV w v).2.1
 ·exact e4b
 ·cases decide (a3v (apV w v).1<0)
  ·show I64 (btw k (a3v (apV w v).1))
   unfold I64;omega
  ·exact e4b
theorem c0s (Y:Yv):I64 (a2v Y).1.2.1:=by
 unfold a2v
 cases (c0R Y.hd (a5e Y)).2.1
 ·exact e4b
 ·exact d7K _ _ _
theorem d2Q (neg:Bool) (M c v d:Nat) (h0:0<M) (h:M*2^c=v*2^d) (hv53:v<2^53) (hd:d<=1500) :
 ∃K e:Nat,Ieee.double.nearest neg M ((c:Int)-1074)=Ieee.double.word neg (e*2^52+K) /\ e*2^52+K<2047*2^52 /\ ((e=0 /\ K<=2^53)∨(2^52<=K /\ K<=2^53)) /\ K*2^e=M*2^c:=by
 have l1:2^M.log2<=M:=Nat.log2_self_le (by omega)
 have l2:M<2^(M.log2+1):=Nat.lt_log2_self
 have hlc:M.log2+c<53+d:=by
  have h1:2^(M.log2+c)<=M*2^c:=by rw[Nat.pow_add];exact Nat.mul_le_mul_right _ l1
  have h2:v*2^d<2^(53+d):=by
   rw[Nat.pow_add 2 53 d];exact Nat.mul_lt_mul_of_pos_right hv53 (Nat.two_pow_pos _)
  rw[<- h]at h2
  exact(Nat.pow_lt_pow_iff_right (a:=2) (by decide)).1 (Nat.lt_of_le_of_lt h1 h2)
 unfold Ieee.Format.nearest
 rw[if_neg (by omega),f7T,e3v,c2p,c2o]
 dsimp only
 generalize hL:M.log2=L at *
 by_cases hs:L<=52
 ·by_cases hd:L+c<52
  ·have hlast:max ((c:Int)-1074+(L:Int)-(52:Nat)) (-1074)=-1074:=by omega
   rw[hlast]
   have e1:((c:Int)-1074 - -1074).toNat=c:=by omega
   have e2:(-1074-((c:Int)-1074)).toNat=0:=by omega
   have e3:((-1074:Int) - -1074).toNat=0:=by decide
   rw[e1,e2,e3,a5A,Nat.shiftLeft_eq]
   have hk:M*2^c<2^53:=by
    calc M*2^c<2^(L+1)*2^c:=Nat.mul_lt_mul_of_pos_right l2 (Nat.two_pow_pos _)
     _=2^(L+1+c):=by rw[<- Nat.pow_add]
     _<=2^53:=Nat.pow_le_pow_right (by decide) (by omega)
   have hx:0*2^52+M*2^c<2047*2^52:=by rw[Nat.zero_mul,Nat.zero_add];exact Nat.lt_trans hk (by decide)
   refine⟨M*2^c,0,?_,hx,.inl ⟨Eq.refl 0,Nat.le_of_lt hk⟩,?_⟩
   ·rw[Nat.min_eq_left (Nat.le_of_lt hx)]
   ·rw[Nat.pow_zero,Nat.mul_one]
  ·have hlast:max ((c:Int)-1074+(L:Int)-(52:Nat)) (-1074)=(c:Int)-1074+(L:Int)-52:=by omega
   rw[hlast]
   have e1:((c:Int)-1074-((c:Int)-1074+(L:Int)-52)).toNat=52-L:=by omega
   have e2:(((c:Int)-1074+(L:Int)-52)-((c:Int)-1074)).toNat=0:=by omega
   have e3:(((c:Int)-1074+(L:Int)-52) - -1074).toNat=c+L-52:=by omega
   rw[e1,e2,e3,a5A,Nat.shiftLeft_eq]
   have hk1:M*2^(52-L)<2^53:=by
    calc M*2^(52-L)<2^(L+1)*2^(52-L):=Nat.mul_lt_mul_of_pos_right l2 (Nat.two_pow_pos _)
     _=2^(L+1+(52-L)):=by rw[<- Nat.pow_add]
     _=2^53:=by congr 1;omega
   have hk2:2^52<=M*2^(52-L):=by
    calc 2^52=2^(L+(52-L)):=by congr 1;omega
     _=2^L*2^(52-L):=by rw[<- Nat.pow_add]
     _<=M*2^(52-L):=Nat.mul_le_mul_right _ l1
   have hv:M*2^(52-L)*2^(c+L-52)=M*2^c:=by
    rw[Nat.mul_assoc,<- Nat.pow_add]
    congr 2
    omega
   refine⟨M*2^(52-L),c+L-52,?_,by generalize M*2^(52-L)=q at *;clear l1 l2;omega,.inr ⟨hk2,Nat.le_of_lt hk1⟩,hv⟩
   rw[Nat.min_eq_left (by omega)]
 ·have hlast:max ((c:Int)-1074+(L:Int)-(52:Nat)) (-1074)=(c:Int)-1074+(L:Int)-52:=by omega
  rw[hlast]
  have e1:((c:Int)-1074-((c:Int)-1074+(L:Int)-52)).toNat=0:=by omega
  have e2:(((c:Int)-1074+(L:Int)-52)-((c:Int)-1074)).toNat=L-52:=by omega
  have e3:(((c:Int)-1074+(L:Int)-52) - -1074).toNat=c+L-52:=by omega
  rw[e1,e2,e3,Nat.shiftLeft_zero]
  have hdvd:2^(L-52) ∣ M:=by
   have h1:2^(L-52)*2^c ∣ M*2^c:=by
    rw[h,<- Nat.pow_add]
    exact Nat.dvd_trans (Nat.pow_dvd_pow 2 (by omega)) (Nat.dvd_mul_left _ _)
   exact Nat.dvd_of_mul_dvd_mul_right (Nat.two_pow_pos c) h1
  have hm0:M%2^(L-52)=0:=Nat.mod_eq_zero_of_dvd hdvd
  have hg:0<2^(L-52):=Nat.two_pow_pos _
  have hcut:Ieee.Toward.even.cut neg M (L-52)=M/2^(L-52):=by
   unfold Ieee.Toward.cut
   dsimp only
   rw[hL,Nat.min_eq_left (by omega),Nat.one_shiftLeft,hm0]
   simp
  rw[hcut]
  have hq1:M/2^(L-52)<2^53:=by
   rw[Nat.div_lt_iff_lt_mul hg,<- Nat.pow_add]
   have:53+(L-52)=L+1:=by omega
   rw[this];exact l2
  have hq2:2^52<=M/2^(L-52):=by
   rw[Nat.le_div_iff_mul_le hg,<- Nat.pow_add]
   have:52+(L-52)=L:=by omega
   rw[this];exact l1
  have hdm:=Nat.div_add_mod M (2^(L-52))
  rw[hm0,Nat.add_zero]at hdm
  generalize M/2^(L-52)=q at *
  have hp:2^(c+L-52)=2^(L-52)*2^c:=by
   rw[<- Nat.pow_add]
   congr 1
   omega
  refine⟨q,c+L-52,?_,by clear l1 l2;omega,.inr ⟨by clear l1 l2;omega,by clear l1 l2;omega⟩,?_⟩
  ·rw[Nat.min_eq_left (by clear l1 l2;omega)]
  ·rw[hp,<- Nat.mul_assoc,Nat.mul_comm q,hdm]
theorem f2q (s:Bool) (m c:Nat):RV s m ((c:Int)-1074)=sgR s*((m*2^c:Nat):Rat)*p2 (-1074):=by
 unfold RV
 rw[Int.sub_eq_add_neg,a1M,a2c,Rat.natCast_mul]
 grind
theorem e9v (neg:Bool) (M c v d:Nat) (h:M*2^c=v*2^d) (hv53:v<2^53) (hd:d<=1500):IsR (Ieee.double.nearest neg M ((c:Int)-1074)) (RV neg M ((c:Int)-1074)):=by
 by_cases h0:M=0
 ·subst h0
  rw[a6O]
  unfold Ieee.Format.nearest
  rw[if_pos rfl]
  exact a7J neg
 ·obtain⟨K,e,h1,h2,h3,h4⟩:=d2Q neg M c v d (Nat.pos_of_ne_zero h0) h hv53 hd
  obtain⟨m,c',h5,h6⟩:=a5P neg K e h2 h3
  rw[h1]
  refine⟨neg,m,(c':Int)-1074,h5,by omega,?_⟩
  rw[f2q,f2q,h6,h4]
theorem f8b (e:Int):p2 e≠0:=by have:=a1r e;grind
theorem g1i {a b:Nat} {x y:Rat} (ha:IsR a x) (hb:IsR b y) (v d:Nat) (hv53:v<2^53) (hd:d<=1500) (hxy:x-y=((v*2^d:Nat):Rat)*p2 (-1074)∨x-y=-(((v*2^d:Nat):Rat)*p2 (-1074))):IsR (a0i .sub .f64 a b) (x-y):=by
 obtain⟨s,m,e,hr,he,rfl⟩:=ha
 obtain⟨t,n,f,hr',hf,rfl⟩:=hb
 have e1:a0i .sub .f64 a b=(((Ieee.double.read a).sum (Ieee.double.read b).opposite).map Ieee.double.write).getD (qn .f64):=rfl
 have e2:RV s m e-RV t n f=RV s m e+RV (!t) n f:=by rw[e9l];grind
 rw[e1,hr,hr']
 have hs:=a9N s m e (min e f) (by omega)
 have ht:=a9N (!t) n f (min e f) (by omega)
 show IsR (Ieee.double.nearest (if Ieee.signed s m (e-min e f).toNat+Ieee.signed (!t) n (f-min e f).toNat=0 then s&&!t else decide (Ieee.signed s m (e-min e f).toNat+Ieee.signed (!t) n (f-min e f).toNat<0)) (Ieee.signed s m (e-min e f).toNat+Ieee.signed (!t) n (f-min e f).toNat).natAbs (min e f)) _
 generalize hT:Ieee.signed s m (e-min e f).toNat+Ieee.signed (!t) n (f-min e f).toNat=T
 have hT2:((T:Int):Rat)*p2 (min e f)=RV s m e-RV t n f:=by
  rw[<- hT,Rat.intCast_add,e2,<- hs,<- ht]
  grind
 obtain⟨c,hc⟩:∃c:Nat,min e f=(c:Int)-1074:=⟨(min e f+1074).toNat,by omega⟩
 rw[hc]at hT2 ⊢
 generalize hB:(if T=0 then s&&!t else decide (T<0))=B
 have hp:p2 ((c:Int)-1074)=((2^c:Nat):Rat)*p2 (-1074):=by rw[Int.sub_eq_add_neg,a1M,a2c]
 have hV:RV B T.natAbs ((c:Int)-1074)=RV s m e-RV t n f:=by
  rw[<- hT2]
  unfold RV
  rw[<- hB]
  by_cases c0:T=0
  ·subst c0
   simp[Rat.mul_zero,Rat.zero_mul]
  ·rw[if_neg c0]
   by_cases c1:T<0
   ·have e1:((T:Int):Rat)=-((T.natAbs:Nat):Rat):=by
     rw[<- Rat.intCast_natCast,<- Rat.intCast_neg]
     congr 1
     omega
    rw[e1]
    simp only[c1,decide_true]
    have:sgR true=-1:=rfl
    rw[this]
    grind
   ·have e1:((T:Int):Rat)=((T.natAbs:Nat):Rat):=by
     rw[<- Rat.intCast_natCast]
     congr 1
     omega
    rw[e1]
    simp only[c1,decide_false]
    have:sgR false=1:=rfl
    rw[this]
    grind
 have hN:T.natAbs*2^c=v*2^d:=by
  have hp1:=f8b (-1074)
  have q1:RV B T.natAbs ((c:Int)-1074)=sgR B*((T.natAbs*2^c:Nat):Rat)*p2 (-1074):=f2q _ _ _
  rw[hV]at q1
  generalize T.natAbs*2^c=P at *
  generalize v*2^d=Q at *
  have n1:=a3h P
  have n2:=a3h Q
  have pp:=a1r (-1074)
  have key:((P:Nat):Rat)=((Q:Nat):Rat):=by
   have a1:((P:Nat):Rat)*p2 (-1074)=((Q:Nat):Rat)*p2 (-1074)∨((P:Nat):Rat)*p2 (-1074)=-(((Q:Nat):Rat)*p2 (-1074)):=by
    cases B
    ·have:sgR false=1:=rfl
     rw[this]at q1
     rcases hxy with h|h<;>rw[h]at q1<;>grind
    ·have:sgR true=-1:=rfl
     rw[this]at q1
     rcases hxy with h|h<;>rw[h]at q1<;>grind
   have b1:=Rat.mul_nonneg n1 (Rat.le_of_lt pp)
   have b2:=Rat.mul_nonneg n2 (Rat.le_of_lt pp)
   have a2:((P:Nat):Rat)*p2 (-1074)=((Q:Nat):Rat)*p2 (-1074):=by
    rcases a1 with h|h
    ·exact h
    ·grind
   have a3:(((P:Nat):Rat)-((Q:Nat):Rat))*p2 (-1074)=0:=by grind
   rcases Rat.mul_eq_zero.1 a3 with h|h
   ·grind
   ·exact absurd h hp1
  exact Rat.natCast_inj.1 key
 rw[<- hV]
 exact e9v B T.natAbs c v d hN hv53 hd
theorem b2Q (W q:Nat) (hW:W<2^64) (hq:q<64):(BitVec.ofNat 64 W &&& ~~~(BitVec.ofNat 64 (2^q-1))).toNat=W/2^q*2^q:=by
 apply Nat.eq_of_testBit_eq
 intro i
 rw[Nat.testBit_mul_two_pow,BitVec.toNat_and,Nat.testBit_and,BitVec.toNat_ofNat,Nat.mod_eq_of_lt hW,Nat.testBit_div_two_pow]
 by_cases hi:q<=i
 ·have e1:i-q+q=i:=by omega
  rw[e1]
  by_cases h64:i<64
  ·have:(~~~(BitVec.ofNat 64 (2^q-1))).toNat.testBit i=true:=by
    rw[BitVec.testBit_toNat,BitVec.getLsbD_not,BitVec.getLsbD_ofNat,Nat.testBit_two_pow_sub_one]
    simp;omega
   rw[this]
   simp[hi]
  ·have:W.testBit i=false:=Nat.testBit_lt_two_pow (Nat.lt_of_lt_of_le hW (Nat.pow_le_pow_right (by decide) (by omega)))
   rw[this]
   simp
 ·have:(~~~(BitVec.ofNat 64 (2^q-1))).toNat.testBit i=false:=by
   rw[BitVec.testBit_toNat,BitVec.getLsbD_not,BitVec.getLsbD_ofNat,Nat.testBit_two_pow_sub_one]
   simp;omega
  rw[this]
  simp[hi]
theorem b1p (w:Nat):BitVec.ofInt 64 (w:Int)=BitVec.ofNat 64 (w%2^64):=by
 apply BitVec.eq_of_toNat_eq
 rw[BitVec.toNat_ofInt,BitVec.toNat_ofNat]
 omega
theorem c0t (w q:Nat) (hq:q<64):a2l .andNot .u64 (w:Int) ((2^q-1:Nat):Int)=((w%2^64/2^q*2^q:Nat):Int):=by
 show IntKind.u64.wrap (((BitVec.ofInt 64 (w:Int) &&& ~~~(BitVec.ofInt 64 ((2^q-1:Nat):Int))).toNat:Nat):Int)=_
 have hq2:2^q<=2^63:=Nat.pow_le_pow_right (by decide) (by omega)
 rw[b1p,b1p,Nat.mod_eq_of_lt (show 2^q-1<2^64 by omega),b2Q _ q (Nat.mod_lt _ (by decide)) hq,IntKind.wrap_u64]
 have:w%2^64/2^q*2^q<=w%2^64:=Nat.div_mul_le_self _ _
 have:w%2^64<2^64:=Nat.mod_lt _ (by decide)
 omega
def sgB (w:Nat):Bool:=w/2^63%2==1
def sgW (w:Nat):Nat:=if sgB w then 2^63 else 0
theorem e9w (w:Nat):w%2^64=sgW w+w%2^63:=by
 unfold sgW sgB
 by_cases h:w/2^63%2=1
 ·rw[if_pos (by simpa using h)];omega
 ·rw[if_neg (by simpa using h)];omega
theorem b2R (w:Nat):a2l .and .u64 (w:Int) 9223372036854775808=((sgW w:Nat):Int):=by
 have e:BitVec.ofInt 64 9223372036854775808 = ~~~(BitVec.ofNat 64 (2^63-1)):=by decide
 show IntKind.u64.wrap (((BitVec.ofInt 64 (w:Int) &&& BitVec.ofInt 64 9223372036854775808).toNat:Nat):Int)=_
 rw[b1p,e,b2Q _ 63 (Nat.mod_lt _ (by decide)) (by decide),IntKind.wrap_u64]
 unfold sgW sgB
 by_cases h:w/2^63%2=1
 ·rw[if_pos (by simpa using h)];omega
 ·rw[if_neg (by simpa using h)];omega
structure e9x (w:Nat) (m q:Nat):Prop where
 rd:Ieee.double.read w = .number (sgB w) m (-(q:Int))
 q0:26<=q
 q1:q<=1074
 m1:m<2^53
 le:m/2^q<=100000000
 rung:(q=1074 /\ m=w%2^63 /\ m<2^52)∨(2^52<=m /\ w%2^63=(1075-q)*2^52+(m-2^52))
theorem b6S {w:Nat} (h:le8 (w%2^63)=true):∃m q,e9x w m q:=by
 obtain⟨x,hx,ha⟩:=f7X h
 obtain⟨s,m,e,hr,he,rfl⟩:=hx
 have hr0:=hr
 have hlt:(m:Rat)*p2 e<=100000000:=by
  unfold RV at ha
  obtain⟨h1,h2⟩:=ha
  cases s
  ·have:sgR false=1:=rfl
   rw[this]at h2;grind
  ·have:sgR true=-1:=rfl
   rw[this]at h1;grind
 unfold Ieee.Format.read at hr
 dsimp only at hr
 rw[e5t,c2p,c2o,e3v]at hr
 have hle:∀q:Nat,e=-(q:Int)->m<=100000000*2^q:=by
  intro q hq
  have hp:p2 e*p2 (q:Int)=1:=by rw[<- a1M,hq,show -(q:Int)+(q:Int)=0 by omega];rfl
  have hm:=a1t hlt (Rat.le_of_lt (a1r (q:Int)))
  have e1:(m:Rat)*p2 e*p2 (q:Int)=(m:Rat):=by rw[Rat.mul_assoc,hp,Rat.mul_one]
  rw[e1,a2c]at hm
  have:(m:Rat)<=((100000000*2^q:Nat):Rat):=by
   rw[Rat.natCast_mul]
   exact hm
  exact Rat.natCast_le_natCast.1 this
 have hdiv:∀q:Nat,m<=100000000*2^q->m/2^q<=100000000:=fun q hq=>by
  have:m/2^q<=100000000*2^q/2^q:=Nat.div_le_div_right hq
  rwa [Nat.mul_div_cancel _ (Nat.two_pow_pos q)]at this
 split at hr
 ·rename_i c
  cases hr
  refine⟨w%2^63,1074,hr0,by decide,by decide,by omega,hdiv 1074 (hle 1074 rfl),.inl ⟨rfl,rfl,c⟩⟩
 ·rename_i c
  split at hr
  ·rename_i c2
   injection hr with f1 f2 f3
   obtain⟨q,hq⟩:∃q:Int,q=-e:=⟨_,rfl⟩
   have hb:∃B:Nat,B=w%2^63/2^52 /\ 1<=B /\ e=(B:Int)-1075:=⟨_,rfl,by omega,by omega⟩
   obtain⟨B,hB,hB1,hBe⟩:=hb
   have hBm:B<=1049:=by
    apply Classical.byContradiction
    intro hc
    have g1:p2 (-25)<=p2 e:=c2q (by omega)
    have g2:((2^52:Nat):Rat)<=(m:Rat):=a1e (by omega)
    have g3:((2^52:Nat):Rat)*p2 (-25)<=(m:Rat)*p2 e:=by
     have a1:=a1t g2 (Rat.le_of_lt (a1r (-25)))
     have a2:=Rat.mul_le_mul_of_nonneg_left g1 (a3h m)
     grind
    have g4:(100000000:Rat)<((2^52:Nat):Rat)*p2 (-25):=by decide +kernel
    grind
   have hqe:e=-((1075-B:Nat):Int):=by omega
   refine⟨m,1075-B,?_,by omega,by omega,by omega,hdiv _ (hle _ hqe),.inr ⟨by omega,by omega⟩⟩
   rw[hr0,hqe,<- f1]
   rfl
  ·split at hr<;>cases hr
theorem d2R (neg:Bool) (m q:Nat) (hm:m<2^53) (hq:(q:Nat)<=2000):Ieee.Toward.zero.cut neg m q=m/2^q:=by
 unfold Ieee.Toward.cut
 dsimp only
 rw[Nat.one_shiftLeft]
 show m/2^min q (m.log2+2)+0=_
 rw[Nat.add_zero]
 by_cases h:q<=m.log2+2
 ·rw[Nat.min_eq_left h]
 ·rw[Nat.min_eq_right (by omega)]
  have hl:m<2^(m.log2+1):=Nat.lt_log2_self
  have h1:m<2^(m.log2+2):=Nat.lt_of_lt_of_le hl (Nat.pow_le_pow_right (by decide) (by omega))
  have h2:m<2^q:=Nat.lt_of_lt_of_le hl (Nat.pow_le_pow_right (by decide) (by omega))
  rw[Nat.div_eq_of_lt h1,Nat.div_eq_of_lt h2]
def sgI (s:Bool) (n:Nat):Int:=if s then -(n:Int)else(n:Int)
theorem d2S {w:Nat} {s:Bool} {m q:Nat} (h:Ieee.double.read w = .number s m (-(q:Int))) (hm:m<2^53) (hq:q<=2000):Ieee.Datum.toInt .zero (FloatKind.f64.decode w)=some (sgI s (m/2^q)):=by
 have e:FloatKind.f64.decode w = .number s m (-(q:Int)):=h
 rw[e]
 show some (Ieee.signed s (Ieee.Toward.zero.cut s (m <<< (-(q:Int)).toNat) (- -(q:Int)).toNat) 0)=_
 have e1:(-(q:Int)).toNat=0:=by omega
 have e2:(- -(q:Int)).toNat=q:=by omega
 rw[e1,e2,Nat.shiftLeft_zero,d2R _ _ _ hm hq]
 rfl
theorem b1q {w:Nat} {s:Bool} {m q:Nat} (h:Ieee.double.read w = .number s m (-(q:Int))) (hm:m<2^53) (hq:q<=2000):f2i .f64 w=sgI s (m/2^q) /\ a6R .f64 w .i64=true:=by
 have e:=d2S h hm hq
 unfold f2i a6R
 rw[e]
 refine⟨rfl,?_⟩
 have:m/2^q<=m:=Nat.div_le_self _ _
 have h1:IntKind.i64.min=-9223372036854775808:=by decide
 have h2:IntKind.i64.max=9223372036854775807:=by decide
 show(decide _&&decide _)=true
 rw[h1,h2]
 generalize m/2^q=c at *
 unfold sgI
 simp only[Bool.and_eq_true,decide_eq_true_eq]
 split<;>omega
def c5n (m q:Nat):Nat:=(m+2^(q-1))/2^q
theorem f8c (q m:Nat) (h1:26<=q) (h2:q<=52) (h3:2^52<=m) (h4:m<2^53) (r:Nat) (hr:r=((1075-q)*2^52+(m-2^52)+2^(q-1))/2^q*2^q) :
 (r/2^52=1075-q /\ (2^52+r%2^52)/2^q=c5n m q)∨(r/2^52=1076-q /\ (2^52+r%2^52)/2^(q-1)=c5n m q):=by
 unfold c5n
 have:q=26∨q=27∨q=28∨q=29∨q=30∨q=31∨q=32∨q=33∨q=34∨q=35∨q=36∨q=37∨q=38∨q=39∨q=40∨q=41∨q=42∨q=43∨q=44∨q=45∨q=46∨q=47∨q=48∨q=49∨q=50∨q=51∨q=52:=by omega
 rcases this with h|h|h|h|h|h|h|h|h|h|h|h|h|h|h|h|h|h|h|h|h|h|h|h|h|h|h<;>subst h<;>simp only[Nat.reducePow,Nat.reduceSub,Nat.reduceMul,Nat.reduceAdd]at *<;>omega
theorem d7L (s:Bool) (r:Nat) (hr:r<2^63):sgB ((if s then 2^63 else 0)+r)=s:=by
 unfold sgB
 cases s
 ·have:(0+r)/2^63=0:=by omega
  rw[if_neg (by decide),this];rfl
 ·have:(2^63+r)/2^63=1:=by omega
  rw[if_pos rfl,this];rfl
theorem b1r (s:Bool) (r B:Nat) (hB:r/2^52=B) (h1:1<=B) (h2:B<=1074):Ieee.double.read ((if s then 2^63 else 0)+r) = .number s (2^52+r%2^52) (-((1075-B:Nat):Int)):=by
 have hr:r<2^63:=by omega
 have e1:((if s then 2^63 else 0)+r)%2^63=r:=by cases s<;>simp<;>omega
 have e2:=d7L s r hr
 unfold sgB at e2
 unfold Ieee.Format.read
 dsimp only
 rw[e5t,c2p,c2o,e3v,e1,e2,if_neg (by omega),if_pos (by omega),hB]
 rw[show((-1074:Int)+((B-1:Nat):Int))=-((1075-B:Nat):Int)by omega]
theorem d2T (s:Bool):Ieee.double.read (if s then 2^63 else 0) = .number s 0 (-(1074:Nat)):=by cases s<;>decide +kernel
theorem fd (a k:Nat):Int.fdiv (a:Int) (2^k)=((a/2^k:Nat):Int):=by
 have e:((2:Int)^k)=((2^k:Nat):Int):=by rw[Int.natCast_pow];rfl
 rw[e,Int.fdiv_eq_ediv_of_nonneg _ (Int.natCast_nonneg _),Int.natCast_ediv]
theorem fd1 {q:Nat} (h1:26<=q) (h2:q<=52):Int.fdiv 2251799813685248 (2^(52-q))=((2^(q-1):Nat):Int):=by
 have:=fd (2^51) (52-q)
 rw[Nat.pow_div (by omega) (by decide),show 51-(52-q)=q-1 by omega]at this
 exact this
theorem fd2 {q:Nat} (h1:26<=q) (h2:q<=52):Int.fdiv 4503599627370495 (2^(52-q))=((2^q-1:Nat):Int):=by
 have h:=fd (2^52-1) (52-q)
 have e:(2^52-1)/2^(52-q)=2^q-1:=by
  have hp:2^(52-q)*2^q=2^52:=by rw[<- Nat.pow_add];congr 1;omega
  have hk:=Nat.two_pow_pos (52-q)
  have hq:=Nat.two_pow_pos q
  have e1:2^52-1=2^(52-q)*(2^q-1)+(2^(52-q)-1):=by
   rw[Nat.mul_sub,hp,Nat.mul_one]
   have:2^(52-q)<=2^52:=Nat.pow_le_pow_right (by decide) (by omega)
   omega
  rw[e1,Nat.mul_add_div hk,Nat.div_eq_of_lt (by omega)]
  rfl
 rw[e]at h
 exact h
theorem c7l {w m q:Nat} (h0:26<=q) (hq:q<=52) (hm:2^52<=m) (m1:m<2^53) (hr:w%2^63=(1075-q)*2^52+(m-2^52)):a1H (w:Int)=(if sgB w then 2^63 else 0)+((1075-q)*2^52+(m-2^52)+2^(q-1))/2^q*2^q:=by
 have hE:rE (w:Int)=((w%2^63/2^52:Nat):Int):=by rw[c3u];omega
 have hB:w%2^63/2^52=1075-q:=by omega
 unfold a1H
 rw[hE,hB]
 have d1:decide (((1075-q:Nat):Int)<1023)=false:=decide_eq_false (by omega)
 have d2:decide (((1075-q:Nat):Int)<1075)=true:=decide_eq_true (by omega)
 rw[d1,d2]
 have d3:IntKind.u64.wrap (((1075-q:Nat):Int)-1023)=((52-q:Nat):Int):=by rw[IntKind.wrap_u64];omega
 rw[d3]
 have d4:min (Int.toNat ((52-q:Nat):Int)) (IntKind.bits .u64)=52-q:=by
  have:IntKind.bits .u64=64:=by decide
  rw[this];omega
 rw[d4,fd1 h0 hq,fd2 h0 hq,cond_false,cond_true]
 have hp:2^(q-1)<=2^51:=Nat.pow_le_pow_right (by decide) (by omega)
 have hs:=e9w w
 rw[hr]at hs
 have hsw:sgW w<=2^63:=by unfold sgW;split<;>omega
 have d7:IntKind.u64.wrap ((w:Int)+((2^(q-1):Nat):Int))=((sgW w+((1075-q)*2^52+(m-2^52)+2^(q-1)):Nat):Int):=by
  rw[IntKind.wrap_u64]
  generalize 2^(q-1)=P at *
  omega
 rw[d7,c0t _ q (by omega),Int.toNat_natCast]
 have hlt:sgW w+((1075-q)*2^52+(m-2^52)+2^(q-1))<2^64:=by
  generalize 2^(q-1)=P at *
  omega
 rw[Nat.mod_eq_of_lt hlt]
 have hdv:2^q ∣ sgW w:=by
  unfold sgW
  split
  ·exact Nat.pow_dvd_pow 2 (by omega)
  ·exact Nat.dvd_zero _
 obtain⟨t,ht⟩:=hdv
 have hsw2:sgW w=(if sgB w then 2^63 else 0):=rfl
 rw[<- hsw2,ht,Nat.mul_add_div (Nat.two_pow_pos q),Nat.add_mul,Nat.mul_comm t]
theorem d2U {w m q:Nat} (h0:26<=q) (hq:q<=52) (hm:2^52<=m) (m1:m<2^53) (hr:w%2^63=(1075-q)*2^52+(m-2^52)):f2i .f64 (a1H (w:Int))=sgI (sgB w) (c5n m q) /\ a6R .f64 (a1H (w:Int)) .i64=true:=by
 rw[c7l h0 hq hm m1 hr]
 rcases f8c q m h0 hq hm m1 _ rfl with⟨c1,c2⟩|⟨c1,c2⟩
 ·have hrd:=b1r (sgB w) _ _ c1 (by omega) (by omega)
  rw[show 1075-(1075-q)=q by omega]at hrd
  have:=b1q hrd (by omega) (by omega)
  rw[c2]at this
  exact this
 ·have hrd:=b1r (sgB w) _ _ c1 (by omega) (by omega)
  rw[show 1075-(1076-q)=q-1 by omega]at hrd
  have:=b1q hrd (by omega) (by omega)
  rw[c2]at this
  exact this
theorem d2V {w m:Nat} (hm:2^52<=m) (m1:m<2^53) (hr:w%2^63=1022*2^52+(m-2^52)):f2i .f64 (a1H (w:Int))=sgI (sgB w) (c5n m 53) /\ a6R .f64 (a1H (w:Int)) .i64=true:=by
 have hE:rE (w:Int)=1022:=by rw[c3u];omega
 have hM:c5n m 53=1:=by unfold c5n;omega
 have key:a1H (w:Int)=(if sgB w then 2^63 else 0)+4607182418800017408:=by
  unfold a1H
  rw[hE,b2R]
  show Int.toNat (a2l .or .u64 ((sgW w:Nat):Int) 4607182418800017408)=_
  unfold sgW
  cases sgB w<;>decide
 have hrd:=b1r (sgB w) 4607182418800017408 1023 (by decide) (by decide) (by decide)
 rw[key,hM]
 have h:=b1q hrd (by decide) (by decide)
 have e:(2^52+4607182418800017408%2^52)/2^(1075-1023)=1:=by decide
 rw[e]at h
 exact h
theorem c0u {w m q:Nat} (hq:53<q) (m1:m<2^53) (hr:w%2^63/2^52<1022):f2i .f64 (a1H (w:Int))=sgI (sgB w) (c5n m q) /\ a6R .f64 (a1H (w:Int)) .i64=true:=by
 have hE:rE (w:Int)=((w%2^63/2^52:Nat):Int):=by rw[c3u];omega
 have hM:c5n m q=0:=by
  unfold c5n
  have h1:2^53<=2^(q-1):=Nat.pow_le_pow_right (by decide) (by omega)
  have hp2:2*2^(q-1)=2^q:=by rw[Nat.mul_comm,<- Nat.pow_succ];congr 1;omega
  refine Nat.div_eq_of_lt ?_
  rw[<- hp2]
  generalize 2^(q-1)=P at *
  omega
 have key:a1H (w:Int)=(if sgB w then 2^63 else 0):=by
  unfold a1H
  rw[hE]
  have d1:decide (((w%2^63/2^52:Nat):Int)<1023)=true:=decide_eq_true (by omega)
  have d2:(((w%2^63/2^52:Nat):Int)==1022)=false:=by
   rw[beq_eq_false_iff_ne];omega
  rw[d1,d2,b2R]
  rfl
 rw[key,hM]
 have h:=b1q (d2T (sgB w)) (by decide) (by decide)
 rw[Nat.zero_div]at h
 exact h
theorem b1s {w m q:Nat} (h:e9x w m q):f2i .f64 (a1H (w:Int))=sgI (sgB w) (c5n m q) /\ a6R .f64 (a1H (w:Int)) .i64=true:=by
 obtain⟨rd,q0,q1,m1,le,rung⟩:=h
 rcases rung with⟨h1,h2,h3⟩|⟨hm,hr⟩
 ·exact c0u (by omega) m1 (by rw[<- h2,Nat.div_eq_of_lt h3];decide)
 ·by_cases hq:q<=52
  ·exact d2U q0 hq hm m1 hr
  ·by_cases h53:q=53
   ·subst h53
    exact d2V hm m1 hr
   ·refine c0u (by omega) m1 ?_
    rw[hr]
    clear le rd
    omega
def c7m (z p:Nat×Nat):Nat:=
 a0i .add .f64 (a0i .mul .f64 (a0i .sub .f64 z.1 p.1) (a0i .sub .f64 z.1 p.1)) (a0i .mul .f64 (a0i .sub .f64 z.2 p.2) (a0i .sub .f64 z.2 p.2))
def a3G (st:List (Den a0S)) (p:Nat×Nat) (k:Nat) (a:Int×Nat):(Int×Nat)⊕((Int×Unit)×Unit):=
 bif decide (a.1<0)then .inl ((k:Int),c7m (a5h st k).fst p)else bif flt .f64 (c7m (a5h st k).fst p) a.2 then .inl ((k:Int),c7m (a5h st k).fst p)else .inl a
def e4c (st:List (Den a0S)) (p:Nat×Nat):(Int×Unit)×Unit:=a1P (a3G st p) (fun a=>((a.1,()),())) 0 st.length (-1,0)
def a8E (t:Den S30) (p:Nat×Nat):Int:=bif a4D t&&a5g p then(e4c t.1 p).1.1 else -1
theorem b6T (st:List (Den a0S)) (p:Nat×Nat):∀(n k:Nat) (a:Int×Nat),(a.1=-1 /\ k=0∨0<=a.1 /\ a.1<(k:Int))->(((a1P (a3G st p) (fun a=>((a.1,()),())) k n a).1.1:Int)=-1 /\ k+n=0)∨0<=((a1P (a3G st p) (fun a=>((a.1,()),())) k n a).1.1:Int) /\ ((a1P (a3G st p) (fun a=>((a.1,()),())) k n a).1.1:Int)<((k+n:Nat):Int)
 | 0,k,a,h=>by
   show((a.1:Int)=-1 /\ k+0=0)∨0<=a.1 /\ a.1<((k+0:Nat):Int)
   rcases h with⟨h1,h2⟩|h
   ·exact .inl ⟨h1,h2⟩
   ·exact .inr ⟨h.1,by omega⟩
 | n+1,k,a,h=>by
   simp only[a1P]
   have e:k+(n+1)=k+1+n:=by omega
   rw[e]
   unfold a3G
   by_cases h1:a.1<0
   ·rw[show decide (a.1<0)=true by simpa using h1,cond_true]
    exact b6T st p n (k+1) _ (.inr ⟨by show(0:Int)<=(k:Int);omega,by show(k:Int)<((k+1:Nat):Int);omega⟩)
   ·rw[show decide (a.1<0)=false by simpa using h1,cond_false]
    cases flt .f64 (c7m (a5h st k).fst p) a.2 with
    |true=>exact b6T st p n (k+1) _ (.inr ⟨by show(0:Int)<=(k:Int);omega,by show(k:Int)<((k+1:Nat):Int);omega⟩)
    | false =>
      refine b6T st p n (k+1) _ (.inr ?_)
      rcases h with⟨h2,_⟩|h
      ·omega
      ·exact⟨h.1,by omega⟩
theorem e4d (t:Den S30) (p:Nat×Nat) (h:a7C t):e8v (t,p,())=some (a8E t p,()):=by
 have e1:F91 (t,())=some (a4D t,()):=d2y t h
 have e2:F61 (p,())=some (a5g p,()):=a9a p
 obtain⟨st,hs,_⟩:=t
 obtain⟨h1,h2⟩:=h
 have h1:st.length<=21:=h1
 have hl:d1u ((p,-1,0,st,(st.length:Int),0,()),())=some (e4c st p):=by
  refine(c3p (q:=b9H K91 G91 K61 G61 e2U e2V c6G c6H) (fun k (a:Int×Nat)=>((p,a.1,a.2,st,(st.length:Int),(k:Int),()),())) st.length (a3G st p) (fun a=>((a.1,()),())) ?_ ?_ _ st.length 0 (-1,0) (by omega) ?_:_)
  ·intro k a f hk
   unfold b9H
   have d1:decide ((k:Int)<(st.length:Int))=true:=by simpa using hk
   have d2:decide (0<=(k:Int))=true:=by simp
   have ha:List.getD st k (zero a0S)=a5h st k:=rfl
   have e3:f6K ((a5h st k).fst,p,())=some ((a0i .sub .f64 (a5h st k).fst.1 p.1,a0i .sub .f64 (a5h st k).fst.2 p.2),()):=rfl
   have e4:e7B ((a0i .sub .f64 (a5h st k).fst.1 p.1,a0i .sub .f64 (a5h st k).fst.2 p.2),(a0i .sub .f64 (a5h st k).fst.1 p.1,a0i .sub .f64 (a5h st k).fst.2 p.2),())=some (c7m (a5h st k).fst p,()):=rfl
   unfold a3G
   simp only[a4y k (by omega),d1,d2,Bool.and_self,cond_true,Int.toNat_natCast,ha,e2U,e2V,e3,c6G,c6H,e4,Option.isSome_some,Option.getD_some]
   cases decide (a.1<0)
   ·cases flt .f64 (c7m (a5h st k).fst p) a.2<;>rfl
   ·rfl
  ·intro a f
   simp[b9H]
  ·simp only[d1t];omega
 unfold e8v f6L a8E
 simp only[K91,G91,e1,K61,G61,e2,Option.isSome_some,Option.getD_some,cond_true,b6e,b6f,hl]
 cases a4D (st,hs,())
 ·rfl
 ·cases a5g p<;>rfl
def a8F (a b:Int):Int:=bif decide (a>b)then a-b else b-a
def a7M (hs:List Int) (t:Int) (k:Nat) (b:Int):Int⊕((Int×Unit)×Unit) := .inl (bif decide (a8F (a5b hs k) t<a8F (a5b hs b.toNat) t)then(k:Int)else b)
def hiR (hs:List Int) (t:Int):(Int×Unit)×Unit:=a1P (a7M hs t) (fun b=>((b,()),())) 0 hs.length 0
def hiV (td:Den S30) (t:Int):Int:=bif a4D td&&a0L t 0 10000000 then(hiR td.2.1 t).1.1 else -1
theorem b6U {st:List (Den a0S)} {hs:List Int} {u:Unit} (h:a4D (st,hs,u)=true):1<=st.length /\ 1<=hs.length /\ ∀i,i<hs.length->0<=a5b hs i /\ a5b hs i<=10000000:=by
 unfold a4D at h
 simp only[Bool.and_eq_true]at h
 obtain⟨h1,h2,h3,h4⟩:=h
 simp only[a0L,Bool.and_eq_true,decide_eq_true_eq]at h1 h2
 refine⟨by omega,by omega,fun i hi=>?_⟩
 have:=a0I.1 h4 i (Nat.zero_le _) (by omega)
 unfold b1P at this
 simp only[Bool.and_eq_true,a0L,decide_eq_true_eq]at this
 exact this.1
theorem e4e (hs:List Int) (t:Int):∀(n k:Nat) (b:Int),0<=b->(b<(k:Int)∨b=0)->0<=((a1P (a7M hs t) (fun b=>((b,()),())) k n b).1.1:Int) /\ (((a1P (a7M hs t) (fun b=>((b,()),())) k n b).1.1:Int)<((k+n:Nat):Int)∨((a1P (a7M hs t) (fun b=>((b,()),())) k n b).1.1:Int)=0)
 |0,k,b,h0,h=>⟨h0,by rcases h with h|h;exact .inl (by show b<((k+0:Nat):Int);omega);exact .inr h⟩
 | n+1,k,b,h0,h=>by
   simp only[a1P]
   have e:k+(n+1)=k+1+n:=by omega
   rw[e]
   unfold a7M
   cases decide (a8F (a5b hs k) t<a8F (a5b hs b.toNat) t)with
   |true=>exact e4e hs t n (k+1) (k:Int) (by omega) (.inl (by omega))
   |false=>exact e4e hs t n (k+1) b h0 (by rcases h with h|h;exact .inl (by omega);exact .inr h)
theorem d7M (a b:Int):e0W (b-a) (a-b)=a8F a b:=by
 unfold e0W a8F
 by_cases h:a>b
 ·rw[show decide (a>b)=true by simpa using h,cond_true,if_pos (by omega)]
 ·rw[show decide (a>b)=false by simpa using h,cond_false]
  by_cases h2:a-b>b-a
  ·omega
  ·rw[if_neg h2]
theorem d2W (st:List (Den a0S)) (hs:List Int) (t i:Int) (hi:0<=i /\ i<(hs.length:Int)) (ht:0<=t /\ t<=10000000) (hh:0<=a5b hs i.toNat /\ a5b hs i.toNat<=10000000) :
 e5r ((i,(),(),()),t,(st,hs,()),())=some ((a8F (a5b hs i.toNat) t,()),(t,(st,hs,()),())):=by
 have d1:(decide (0<=i)&&decide (i<(hs.length:Int)))=true:=by simp only[Bool.and_eq_true,decide_eq_true_eq];exact hi
 have ha:List.getD hs i.toNat (zero (Ty.int IntKind.i64))=a5b hs i.toNat:=rfl
 unfold e5r f6O
 simp only[d1,cond_true,ha]
 rw[w64 (x:=t-a5b hs i.toNat) (by omega) (by omega),w64 (x:=a5b hs i.toNat-t) (by omega) (by omega),d7M]
theorem e4f (td:Den S30) (t:Int) (h:a7C td):e8z (td,t,())=some (hiV td t,()):=by
 have e1:F91 (td,())=some (a4D td,()):=d2y td h
 have e2:F43 (t,())=some (a0L t 0 10000000,()):=c4Q (t,())
 obtain⟨st,hs,_⟩:=td
 obtain⟨_,h2⟩:=h
 have h2:hs.length<=6:=h2
 unfold e8z f6Q hiV
 simp only[K91,G91,e1,K43,G43,e2,Option.isSome_some,Option.getD_some,cond_true]
 cases hb:a4D (st,hs,())
 ·rfl
 cases ht:a0L t 0 10000000
 ·rfl
 obtain⟨_,r2,r3⟩:=b6U hb
 simp only[a0L,Bool.and_eq_true,decide_eq_true_eq]at ht
 have hl:d1y (((),0,(hs.length:Int),0,()),(t,()),(st,hs,()),())=some (hiR hs t):=by
  refine(b7N (q:=b9J K91 G91 K43 G43 e2W e2X) (fun k (b:Int)=>(((),b,(hs.length:Int),(k:Int),()),(t,()),(st,hs,()),())) hs.length (a7M hs t) (fun b=>((b,()),())) (fun k b=>0<=b /\ b<(hs.length:Int)) ?_ ?_ ?_ _ hs.length 0 0 (by omega) ?_ ⟨Int.le_refl 0,by omega⟩:_)
  ·intro k b f hk hb0
   unfold b9J
   have d1:decide ((k:Int)<(hs.length:Int))=true:=by simpa using hk
   have e3:e5r (((k:Int),(),(),()),t,(st,hs,()),())=some ((a8F (a5b hs k) t,()),(t,(st,hs,()),())):=d2W st hs t k ⟨by omega,by omega⟩ ht (r3 k hk)
   have e4:e5r ((b,(),(),()),t,(st,hs,()),())=some ((a8F (a5b hs b.toNat) t,()),(t,(st,hs,()),())):=d2W st hs t b hb0 ht (r3 _ (by omega))
   unfold a7M
   simp only[a4y k (by omega),d1,cond_true,e2W,e2X,e3,e4,Option.isSome_some,Option.getD_some]
   cases decide (a8F (a5b hs k) t<a8F (a5b hs b.toNat) t)<;>rfl
  ·intro k b b' hk hb0 hn
   unfold a7M at hn
   have hn:=Sum.inl.inj hn
   subst hn
   cases decide (a8F (a5b hs k) t<a8F (a5b hs b.toNat) t)with
   |true=>exact⟨by show(0:Int)<=(k:Int);omega,by show(k:Int)<_;omega⟩
   |false=>exact hb0
  ·intro b f _
   simp[b9J]
  ·simp only[d1x];omega
 simp only[b6i,b6j,hl,Option.isSome_some,Option.getD_some,cond_true,Bool.not_true,cond_false,Bool.and_self]
def a5c (x:Int):Int:=bif decide (x < -21600)then -21600 else a4j x 21600
theorem d7N (x:Int):-21600<=a5c x /\ a5c x<=21600:=by
 unfold a5c a4j
 by_cases h:x < -21600
 ·rw[show decide (x < -21600)=true by simpa using h,cond_true];omega
 ·rw[show decide (x < -21600)=false by simpa using h,cond_false]
  split<;>omega
theorem e4g (x:Int):e8B (x,-21600,21600,())=some (a5c x,()):=by
 unfold e8B f6T a5c
 have h:decide ((21600:Int) < -21600)=false:=by decide
 simp only[h,cond_false]
 cases decide (x < -21600)<;>rfl
def c2x (a b q:Nat):Nat:=a0i .add .f32 a (a0i .mul .f32 (a0i .sub .f32 b a) q)
def f8d (r:Int):Nat:=a0i .quo .f32 (FloatKind.nearest .f32 r) 1163984896
def g1j (a b:Nat×Nat) (q:Nat):Nat×Nat:=(c2x a.1 b.1 q,c2x a.2 b.2 q)
def e4h (s:Den a0S) (off:Int):(Nat×Nat)×Bool×Unit:=
 bif !a7I (a3e s)then((0,0),false,())else
  bif ((a5c off+21600)%3600==0)then(atV (a3e s) ((a5c off+21600)/3600).toNat,true,())
  else(g1j (atV (a3e s) ((a5c off+21600)/3600).toNat) (atV (a3e s) ((a5c off+21600)/3600+1).toNat) (f8d ((a5c off+21600)%3600)),true,())
theorem e4i (s:Den a0S) (off:Int):f1P (s,off,())=some (e4h s off):=by
 have e1:e5n (a3e s,())=some (a7I (a3e s),()):=c5h _ (by rw[c0n];decide)
 have e2:e8B (off,-21600,21600,())=some (a5c off,()):=e4g off
 have e3:∀a b q:Nat,f5M (a,b,q,())=some (c2x a b q,()):=fun _ _ _=>rfl
 obtain⟨c1,c2⟩:=d7N off
 have hfl:[s.snd.fst.fst,s.snd.fst.snd.fst,s.snd.fst.snd.snd.fst,s.snd.fst.snd.snd.snd.fst,s.snd.fst.snd.snd.snd.snd.fst,s.snd.fst.snd.snd.snd.snd.snd.fst,s.snd.fst.snd.snd.snd.snd.snd.snd.fst,s.snd.fst.snd.snd.snd.snd.snd.snd.snd.fst,s.snd.fst.snd.snd.snd.snd.snd.snd.snd.snd.fst,s.snd.fst.snd.snd.snd.snd.snd.snd.snd.snd.snd.fst,s.snd.fst.snd.snd.snd.snd.snd.snd.snd.snd.snd.snd.fst,s.snd.fst.snd.snd.snd.snd.snd.snd.snd.snd.snd.snd.snd.fst,s.snd.fst.snd.snd.snd.snd.snd.snd.snd.snd.snd.snd.snd.snd.fst]=a3e s:=rfl
 have ha:∀i,List.getD (a3e s) i (0,0)=atV (a3e s) i:=fun _=>rfl
 unfold f1P f6W e4h
 simp only[hfl,c6z,c6A,e1,f1N,f1O,e2,Option.isSome_some,Option.getD_some,cond_true]
 generalize a5c off=c at *
 have w1:IntKind.i64.wrap (c+21600)=c+21600:=w64 (by omega) (by omega)
 have t1:Int.tmod (c+21600) 3600=(c+21600)%3600:=Int.tmod_eq_emod_of_nonneg (by omega)
 have t2:Int.tdiv (c+21600) 3600=(c+21600)/3600:=Int.tdiv_eq_ediv_of_nonneg (by omega)
 have w2:IntKind.i64.wrap ((c+21600)/3600)=(c+21600)/3600:=w64 (by omega) (by omega)
 have w3:IntKind.i64.wrap ((c+21600)/3600+1)=(c+21600)/3600+1:=w64 (by omega) (by omega)
 have d1:(decide (0<=(c+21600)/3600)&&decide ((c+21600)/3600<13))=true:=by simp only[Bool.and_eq_true,decide_eq_true_eq];omega
 simp only[w1,t1,t2,w2,w3,d1,cond_true,ha]
 cases a7I (a3e s)
 ·rfl
 simp only[Bool.not_true,cond_false]
 by_cases hz:(c+21600)%3600=0
 ·rw[show((c+21600)%3600==0)=true by simpa using hz]
  rfl
 ·have d2:(decide (0<=(c+21600)/3600+1)&&decide ((c+21600)/3600+1<13))=true:=by simp only[Bool.and_eq_true,decide_eq_true_eq];omega
  rw[show((c+21600)%3600==0)=false by simpa using hz]
  simp only[cond_false,d2,cond_true,c4q,c4r,e3,Option.isSome_some,Option.getD_some]
  rfl
def a2D (td:Den S30) (p:Nat×Nat) (t:Int):(Nat×Nat)×Bool×Unit:=
 bif decide (a8E td p<0)||decide (hiV td t<0)then((0,0),false,())else e4h (a5h td.1 (a8E td p).toNat) (t-a5b td.2.1 (hiV td t).toNat)
theorem e4j {td:Den S30} {p:Nat×Nat} (h:¬a8E td p<0):a4D td=true /\ a5g p=true /\ 0<=a8E td p /\ a8E td p<(td.1.length:Int):=by
 unfold a8E at h ⊢
 cases hb:a4D td with
 |false=>rw[hb]at h;exact absurd h (by simp)
 | true =>
   cases hp:a5g p with
   |false=>rw[hb,hp]at h;exact absurd h (by simp)
   | true =>
     rw[hb,hp]at h
     simp only[Bool.and_self,cond_true]at h ⊢
     refine⟨trivial,trivial,?_⟩
     have:=b6T td.1 p td.1.length 0 (-1,0) (.inl ⟨rfl,rfl⟩)
     have e:a1P (a3G td.1 p) (fun a=>((a.1,()),())) 0 td.1.length (-1,0)=e4c td.1 p:=rfl
     rw[e,Nat.zero_add]at this
     omega
theorem f8e {td:Den S30} {t:Int} (h:¬hiV td t<0):a4D td=true /\ (0<=t /\ t<=10000000) /\ 0<=hiV td t /\ hiV td t<(td.2.1.length:Int):=by
 obtain⟨st,hs,_⟩:=td
 unfold hiV at h ⊢
 cases hb:a4D (st,hs,())with
 |false=>rw[hb]at h;exact absurd h (by simp)
 | true =>
   cases ht:a0L t 0 10000000 with
   |false=>rw[hb,ht]at h;exact absurd h (by simp)
   | true =>
     rw[hb,ht]at h
     simp only[Bool.and_self,cond_true]at h ⊢
     simp only[a0L,Bool.and_eq_true,decide_eq_true_eq]at ht
     refine⟨trivial,ht,?_⟩
     have h1:=(b6U hb).2.1
     have:=e4e hs t hs.length 0 0 (Int.le_refl 0) (.inr rfl)
     have e:a1P (a7M hs t) (fun b=>((b,()),())) 0 hs.length 0=hiR hs t:=rfl
     rw[e,Nat.zero_add]at this
     omega
theorem e4k (td:Den S30) (p:Nat×Nat) (t:Int) (h:a7C td):f1S (td,p,t,())=some (a2D td p t):=by
 have e1:e8v (td,p,())=some (a8E td p,()):=e4d td p h
 have e2:e8z (td,t,())=some (hiV td t,()):=e4f td t h
 unfold f1S f6Z a2D
 simp only[f1J,f1K,e1,f1L,f1M,e2,Option.isSome_some,Option.getD_some,cond_true]
 by_cases h1:a8E td p<0
 ·simp only[h1,decide_true,cond_true,Bool.true_or]
 by_cases h2:hiV td t<0
 ·simp only[h1,h2,decide_true,decide_false,cond_true,cond_false,Bool.or_true]
 obtain⟨_,_,n3,n4⟩:=e4j h1
 obtain⟨hb,ht,q3,q4⟩:=f8e h2
 have d1:(decide (0<=a8E td p)&&decide (a8E td p<(td.1.length:Int)))=true:=by simp only[Bool.and_eq_true,decide_eq_true_eq];exact⟨n3,n4⟩
 have d2:(decide (0<=hiV td t)&&decide (hiV td t<(td.2.1.length:Int)))=true:=by simp only[Bool.and_eq_true,decide_eq_true_eq];exact⟨q3,q4⟩
 obtain⟨st,hs,_⟩:=td
 have r3:=(b6U hb).2.2 (hiV (st,hs,()) t).toNat (by have q4:hiV (st,hs,()) t<(hs.length:Int):=q4;have q3:0<=hiV (st,hs,()) t:=q3;omega)
 have ha:∀i,List.getD hs i (zero (Ty.int IntKind.i64))=a5b hs i:=fun _=>rfl
 have hs':∀i,List.getD st i (zero a0S)=a5h st i:=fun _=>rfl
 have w1:IntKind.i64.wrap (t-a5b hs (hiV (st,hs,()) t).toNat)=t-a5b hs (hiV (st,hs,()) t).toNat:=w64 (by omega) (by omega)
 have e3:=e4i (a5h st (a8E (st,hs,()) p).toNat) (t-a5b hs (hiV (st,hs,()) t).toNat)
 simp only[h1,h2,d1,d2,decide_false,cond_false,cond_true,Bool.or_self,ha,hs',w1,f1Q,f1R,e3,Option.isSome_some,Option.getD_some]
theorem f8f:((TT:Nat):Rat)*p2 (-1074)=1:=by
 have:p2 (1074:Nat)=((TT:Nat):Rat):=a2c 1074
 rw[<- this,<- a1M]
 rfl
theorem e4l {b:Nat} {v:Int} (h:b2O b v):IsR b ((v:Int):Rat):=by
 obtain⟨s,m,c,hr,hm,hV⟩:=h
 refine⟨s,m,(c:Int)-1074,hr,by omega,?_⟩
 rw[f2q]
 have e1:sgR s*((m*2^c:Nat):Rat)=((VU s m c:Int):Rat):=by
  unfold VU
  cases s
  ·have:sgR false=1:=rfl
   rw[this,if_neg (by decide),Rat.intCast_natCast]
   grind
  ·have:sgR true=-1:=rfl
   rw[this,if_pos rfl,Rat.intCast_neg,Rat.intCast_natCast]
   grind
 rw[e1,hV,Rat.intCast_mul,Rat.intCast_natCast,Rat.mul_assoc,f8f,Rat.mul_one]
theorem e9y (n:Int) (h:n.natAbs<2^53):IsR (FloatKind.nearest .f64 n) ((n:Int):Rat):=e4l (d2H n h)
theorem f8g:IsR 4602678819172646912 (1/2):=c2s false 4503599627370496 (-53) (by decide +kernel) (by decide) (by decide +kernel)
theorem e9z:IsR 13826050856027422720 (-(1/2)):=c2s true 4503599627370496 (-53) (by decide +kernel) (by decide) (by decide +kernel)
theorem geR {a b:Nat} {x y:Rat} (ha:IsR a x) (hb:IsR b y):(fgt .f64 a b||feq .f64 a b)=decide (y<=x):=by
 rw[f9f ha hb,e9m ha hb,Bool.eq_iff_iff]
 simp only[Bool.or_eq_true,decide_eq_true_eq]
 constructor
 ·intro h;rcases h with h|h<;>grind
 ·intro h
  by_cases he:x=y
  ·exact .inr he
  ·exact .inl (by grind)
theorem leR {a b:Nat} {x y:Rat} (ha:IsR a x) (hb:IsR b y):(flt .f64 a b||feq .f64 a b)=decide (x<=y):=by
 rw[f7U ha hb,e9m ha hb,Bool.eq_iff_iff]
 simp only[Bool.or_eq_true,decide_eq_true_eq]
 constructor
 ·intro h;rcases h with h|h<;>grind
 ·intro h
  by_cases he:x=y
  ·exact .inr he
  ·exact .inl (by grind)
theorem d7O (v q:Nat) (hq:1<=q):(1/2:Rat)<=(v:Rat)*p2 (-(q:Int))↔2^(q-1)<=v:=by
 have e1:p2 (-(q:Int))*((2^(q-1):Nat):Rat)=1/2:=by
  rw[<- a2c,<- a1M,show -(q:Int)+((q-1:Nat):Int)=-1 by omega]
  decide +kernel
 have hp:=a1r (-(q:Int))
 constructor
 ·intro h
  apply Classical.byContradiction
  intro hc
  have h1:((v:Nat):Rat)<((2^(q-1):Nat):Rat):=Rat.natCast_lt_natCast.2 (by omega)
  have:=Rat.mul_lt_mul_of_pos_right h1 hp
  grind
 ·intro h
  have h1:((2^(q-1):Nat):Rat)<=((v:Nat):Rat):=a1e h
  have:=a1t h1 (Rat.le_of_lt hp)
  grind
theorem e4m (m q:Nat) (hq:1<=q):c5n m q=m/2^q+(if 2^(q-1)<=m%2^q then 1 else 0):=by
 unfold c5n
 have hp2:2^q=2*2^(q-1):=by rw[Nat.mul_comm,<- Nat.pow_succ];congr 1;omega
 have hP:=Nat.two_pow_pos (q-1)
 have hdm:=Nat.div_add_mod m (2^q)
 have hlt:=Nat.mod_lt m (Nat.two_pow_pos q)
 rw[hp2]at *
 generalize 2^(q-1)=P at *
 generalize m/(2*P)=A at *
 generalize m%(2*P)=R at *
 rw[<- hdm,Nat.add_assoc,Nat.mul_add_div (by omega)]
 congr 1
 split
 ·exact Nat.div_eq_of_lt_le (by omega) (by omega)
 ·exact Nat.div_eq_of_lt (by omega)
def rnd (w:Nat):Int:=f2i .f64 (a1H (w:Int))
theorem e0I {w:Nat} (h:le8 (w%2^63)=true):F97 (w,())=some (rnd w,()):=by
 obtain⟨m,q,hs⟩:=b6S h
 have hrnd:rnd w=sgI (sgB w) (c5n m q):=(b1s hs).1
 obtain⟨rd,q0,q1,m1,le,rung⟩:=hs
 obtain⟨ht,hok⟩:=b1q rd m1 (by omega)
 have hx:IsR w (RV (sgB w) m (-(q:Int))):=⟨_,_,_,rd,by omega,rfl⟩
 have hn:(sgI (sgB w) (m/2^q)).natAbs<2^53:=by
  generalize m/2^q=A at *
  unfold sgI
  split<;>omega
 have hy:=e9y _ hn
 have hdm:=Nat.div_add_mod m (2^q)
 have hlt:=Nat.mod_lt m (Nat.two_pow_pos q)
 have hml:m%2^q<=m:=Nat.mod_le _ _
 have hrest:RV (sgB w) m (-(q:Int))-((sgI (sgB w) (m/2^q):Int):Rat)=sgR (sgB w)*(((m%2^q:Nat):Rat)*p2 (-(q:Int))):=by
  have hp:((2^q:Nat):Rat)*p2 (-(q:Int))=1:=by
   rw[<- a2c,<- a1M,show(q:Int) + -(q:Int)=0 by omega];rfl
  have hmr:(m:Rat)=((2^q:Nat):Rat)*((m/2^q:Nat):Rat)+((m%2^q:Nat):Rat):=by
   rw[<- Rat.natCast_mul,<- Rat.natCast_add,hdm]
  unfold RV
  rw[hmr]
  generalize m/2^q=A at *
  generalize m%2^q=R at *
  generalize 2^q=P at *
  generalize p2 (-(q:Int))=z at *
  unfold sgI
  cases sgB w
  ·have:sgR false=1:=rfl
   rw[this,if_neg (by decide),Rat.intCast_natCast]
   grind
  ·have:sgR true=-1:=rfl
   rw[this,if_pos rfl,Rat.intCast_neg,Rat.intCast_natCast]
   grind
 have hpq:((m%2^q:Nat):Rat)*p2 (-(q:Int))=((m%2^q*2^(1074-q):Nat):Rat)*p2 (-1074):=by
  rw[Rat.natCast_mul,<- a2c (1074-q),Rat.mul_assoc,<- a1M,show((1074-q:Nat):Int) + -1074=-(q:Int)by omega]
 have hsub:=g1i hx hy (m%2^q) (1074-q) (by generalize m%2^q=R at *;omega) (by omega) (by
  rw[hrest,hpq]
  cases sgB w
  ·left
   have:sgR false=1:=rfl
   rw[this];grind
  ·right
   have:sgR true=-1:=rfl
   rw[this];grind)
 rw[hrest]at hsub
 have hge:=geR hsub f8g
 have hle:=leR hsub e9z
 have hnn:(0:Rat)<=((m%2^q:Nat):Rat)*p2 (-(q:Int)):=Rat.mul_nonneg (a3h _) (Rat.le_of_lt (a1r _))
 have hif:=d7O (m%2^q) q (by omega)
 have hM:=e4m m q (by omega)
 unfold F97 r97
 dsimp only
 rw[hok,ht,hge,hle,hrnd,hM]
 have hA:m/2^q<=100000000:=le
 generalize ((m%2^q:Nat):Rat)*p2 (-(q:Int))=D at *
 generalize m/2^q=A at *
 generalize m%2^q=R at *
 generalize 2^(q-1)=P at *
 clear hsub hrest hdm hpq
 cases sgB w
 ·have s1:sgR false=1:=rfl
  have d2:decide (sgR false*D <= -(1/2))=false:=decide_eq_false (by rw[s1];grind)
  rw[d2,s1,Rat.one_mul]
  by_cases hh:P<=R
  ·rw[decide_eq_true (hif.2 hh),if_pos hh]
   show some (IntKind.i64.wrap ((A:Int)+1),())=some (((A+1:Nat):Int),())
   rw[w64 (by omega) (by omega)]
   rfl
  ·rw[decide_eq_false (fun h=>hh (hif.1 h)),if_neg hh]
   rfl
 ·have s1:sgR true=-1:=rfl
  have d1:decide (1/2<=sgR true*D)=false:=decide_eq_false (by rw[s1];grind)
  rw[d1,s1]
  by_cases hh:P<=R
  ·rw[decide_eq_true (show -1*D <= -(1/2)by have:=hif.2 hh;grind),if_pos hh]
   show some (IntKind.i64.wrap (-(A:Int)-1),())=some (-((A+1:Nat):Int),())
   rw[w64 (by omega) (by omega),show -(A:Int)-1=-((A+1:Nat):Int)by omega]
  ·rw[decide_eq_false (fun h=>hh (hif.1 (by grind))),if_neg hh]
   rfl
def a1J (p:Nat×Nat):Den R23:=bif !a5g p then((0,0,()),false,())else bif !a2h (rnd p.1,rnd p.2,())then((0,0,()),false,())else((rnd p.1,rnd p.2,()),true,())
set_option maxRecDepth 100000 in
theorem d2X (p:Nat×Nat):F23 (p,())=some (a1J p):=by
 have e1:=a9a p
 have k1:K61 (p,())=true:=by unfold K61;rw[e1];rfl
 have g1:G61 (p,())=(a5g p,()):=by unfold G61;rw[e1];rfl
 unfold F23 r23 a1J
 dsimp only
 rw[k1,g1]
 cases hv:a5g p with
 |false=>rfl
 | true =>
   have hv2:=hv
   unfold a5g at hv2
   simp only[Bool.and_eq_true]at hv2
   obtain⟨m,q,hs⟩:=b6S hv2.1
   obtain⟨m',q',hs'⟩:=b6S hv2.2
   have o1:=(b1s hs).2
   have o2:=(b1s hs').2
   show(bif a6R .f64 (a1H ((p.1:Nat):Int)) .i64 then bif a6R .f64 (a1H ((p.2:Nat):Int)) .i64 then bif K63 ((rnd p.1,rnd p.2,()),())then bif !(G63 ((rnd p.1,rnd p.2,()),())).1 then _ else _ else none else none else none)=_
   rw[o1,o2,f7G,e8W]
   cases a2h (rnd p.1,rnd p.2,())<;>rfl
set_option maxRecDepth 100000 in
theorem e9A (p:Nat×Nat):F49 (p,())=some (a1J p):=by
 have e1:=e0x p
 have k1:K96 (p,())=true:=by unfold K96;rw[e1];rfl
 have g1:G96 (p,())=(a5g p,()):=by unfold G96;rw[e1];rfl
 unfold F49 r49 a1J
 dsimp only
 rw[k1,g1]
 cases hv:a5g p with
 |false=>rfl
 | true =>
   have hv2:=hv
   unfold a5g at hv2
   simp only[Bool.and_eq_true]at hv2
   have e3:=e0I hv2.1
   have e4:=e0I hv2.2
   have k3:K97 (p.1,())=true:=by unfold K97;rw[e3];rfl
   have g3:G97 (p.1,())=(rnd p.1,()):=by unfold G97;rw[e3];rfl
   have k4:K97 (p.2,())=true:=by unfold K97;rw[e4];rfl
   have g4:G97 (p.2,())=(rnd p.2,()):=by unfold G97;rw[e4];rfl
   rw[k3,k4,g3,g4]
   show(bif K98 ((rnd p.1,rnd p.2,()),())then bif !(G98 ((rnd p.1,rnd p.2,()),())).1 then _ else _ else none)=_
   rw[f7F,e8V]
   cases a2h (rnd p.1,rnd p.2,())<;>rfl
theorem c7n (v:a5q) (hc:a0g v.2.1) (hk:v.1.2.2.2.2.2.2.1=0) (hr:v.2.2.2.2.2.2.2.1=[]) (ha:v.2.2.2.2.2.1.length<=30) :
 Pst (c3G v) fun y=>a0g y.2.1 /\ y.1.2.2.2.2.1=v.1.2.2.2.2.1 /\ y.2.2.2.2.1=v.2.2.2.2.1 /\ y.2.2.2.2.2.1=v.2.2.2.2.2.1 /\ y.2.2.2.2.2.2.1=v.2.2.2.2.2.2.1 /\ y.2.2.2.2.2.2.2.1.length=v.2.2.2.2.2.1.length:=by
 unfold c3G
 refine a0W (q:=c3F K34 G34 K77 G77)
  (fun u=>a0g u.2.1 /\ u.1.2.2.2.2.1=v.1.2.2.2.2.1 /\ u.2.2.2.2.1=v.2.2.2.2.1 /\ u.2.2.2.2.2.1=v.2.2.2.2.2.1 /\ u.2.2.2.2.2.2.1=v.2.2.2.2.2.2.1 /\ 0<=(u.1.2.2.2.2.2.2.1:Int) /\ (u.1.2.2.2.2.2.2.1:Int)<=(v.2.2.2.2.2.1.length:Int) /\ (u.2.2.2.2.2.2.2.1.length:Int)=u.1.2.2.2.2.2.2.1)
  (fun _ r=>Pst r fun y=>a0g y.2.1 /\ y.1.2.2.2.2.1=v.1.2.2.2.2.1 /\ y.2.2.2.2.1=v.2.2.2.2.1 /\ y.2.2.2.2.2.1=v.2.2.2.2.2.1 /\ y.2.2.2.2.2.2.1=v.2.2.2.2.2.2.1 /\ y.2.2.2.2.2.2.2.1.length=v.2.2.2.2.2.1.length)
  (fun u=>(30-(u.1.2.2.2.2.2.2.1:Int)).toNat) ?_ _ _ ⟨hc,rfl,rfl,rfl,rfl,by rw[hk];exact Int.le_refl 0,by rw[hk];exact Int.natCast_nonneg _,by rw[hr,hk];rfl⟩ (by unfold c9F;omega)
 clear hk hr hc
 rintro⟨⟨_,_,_,w,n,_,i,_⟩,⟨c0,c1,c2,_⟩,_,_,ws,as_,sp,row,_⟩ f ⟨g0,g1,g2,g3,g4,g5,g6,g7⟩ ih
 dsimp only at g0 g1 g2 g3 g4 g5 g6 g7 ih
 subst g1 g2 g4
 have ea:as_.length=v.2.2.2.2.2.1.length:=by rw[g3]
 unfold c3F
 dsimp only
 by_cases hk:i<(as_.length:Int)
 ·refine a0p (by simpa using hk) ?_
  have e:IntKind.i64.wrap (i+1)=i+1:=w64 (by omega) (by omega)
  rw[e]
  have fin:∀(x:Nat) (c:List Int×Int×Int×Unit),a0g c->Pst (bif (a0F (List.length row+List.length (List.set (List.replicate 1 (zero (Ty.flt FloatKind.f32))) 0 x)))then f (((),((),((),((w),((v.1.2.2.2.2.1),((),((i+1),()))))))),(((c.1),((c.2.1),((c.2.2.1),()))),(((),((),((),()))),(((),((),((),()))),((v.2.2.2.2.1),((as_),((v.2.2.2.2.2.2.1),((row++List.set (List.replicate 1 (zero (Ty.flt FloatKind.f32))) 0 x),()))))))))else none)
   fun y=>a0g y.2.1 /\ y.1.2.2.2.2.1=v.1.2.2.2.2.1 /\ y.2.2.2.2.1=v.2.2.2.2.1 /\ y.2.2.2.2.2.1=v.2.2.2.2.2.1 /\ y.2.2.2.2.2.2.1=v.2.2.2.2.2.2.1 /\ y.2.2.2.2.2.2.2.1.length=v.2.2.2.2.2.1.length:=by
   intro x c h
   refine a0p (a0K (by simp only[List.length_set,List.length_replicate];omega)) ?_
   refine ih _ ⟨h,rfl,rfl,g3,rfl,?_,?_,?_⟩ ?_<;>simp only[List.length_append,List.length_set,List.length_replicate]<;>omega
  refine a0p (a0C _ (by(repeat ((try dsimp only);first|assumption|(with_reducible first|apply a0b|apply a0h|apply a0d|apply a0c|apply a0f))))) ?_
  refine a1q (fun _=>?_) (fun _=>?_)
  ·refine a0p (a2b _ (by(repeat ((try dsimp only);first|assumption|(with_reducible first|apply a0b|apply a0h|apply a0d|apply a0c|apply a0f))))) ?_
   refine a1q (fun _=>?_) (fun _=>?_)
   ·refine a1q (fun _=>?_) (fun _=>?_)
    ·refine a0p (a0C _ (by(repeat ((try dsimp only);first|assumption|(with_reducible first|apply a0b|apply a0h|apply a0d|apply a0c|apply a0f))))) ?_
     exact fin _ _ (by(repeat ((try dsimp only);first|assumption|(with_reducible first|apply a0b|apply a0h|apply a0d|apply a0c|apply a0f))))
    ·exact fin _ _ (by(repeat ((try dsimp only);first|assumption|(with_reducible first|apply a0b|apply a0h|apply a0d|apply a0c|apply a0f))))
   ·refine a1q (fun _=>?_) (fun _=>?_)
    ·refine a0p (a0C _ (by(repeat ((try dsimp only);first|assumption|(with_reducible first|apply a0b|apply a0h|apply a0d|apply a0c|apply a0f))))) ?_
     exact fin _ _ (by(repeat ((try dsimp only);first|assumption|(with_reducible first|apply a0b|apply a0h|apply a0d|apply a0c|apply a0f))))
    ·exact fin _ _ (by(repeat ((try dsimp only);first|assumption|(with_reducible first|apply a0b|apply a0h|apply a0d|apply a0c|apply a0f))))
  ·refine a1q (fun _=>?_) (fun _=>?_)
   ·refine a0p (a0C _ (by(repeat ((try dsimp only);first|assumption|(with_reducible first|apply a0b|apply a0h|apply a0d|apply a0c|apply a0f))))) ?_
    exact fin _ _ (by(repeat ((try dsimp only);first|assumption|(with_reducible first|apply a0b|apply a0h|apply a0d|apply a0c|apply a0f))))
   ·exact fin _ _ (by(repeat ((try dsimp only);first|assumption|(with_reducible first|apply a0b|apply a0h|apply a0d|apply a0c|apply a0f))))
 ·have hd:decide (i<(as_.length:Int))=false:=by simpa using hk
  rw[hd]
  exact a0v ⟨g0,rfl,rfl,g3,rfl,by show row.length=_;omega⟩
def c0v (n:Nat) (a:Nat) (ws:List Nat) (sp:List (List Nat)):Prop:=ws.length=n /\ sp.length=n /\ ∀r∈sp,r.length=a
theorem c2y (v:a7s) (hc:a0g v.2.1) (hn:0<=(v.1.2.2.2.2.1:Int) /\ (v.1.2.2.2.2.1:Int)<=8) (hw:v.2.2.2.2.1=[]) (hs:v.2.2.2.2.2.2.1=[]) (ha:v.2.2.2.2.2.1.length<=30) :
 Pst (c3I v) fun y=>a0g y.2.1 /\ y.2.2.2.2.2.1=v.2.2.2.2.2.1 /\ c0v (v.1.2.2.2.2.1:Int).toNat v.2.2.2.2.2.1.length y.2.2.2.2.1 y.2.2.2.2.2.2.1:=by
 unfold c3I
 refine a0W (q:=c3H K34 G34 K77 G77 a6D a2r)
  (fun u=>a0g u.2.1 /\ u.2.2.2.2.2.1=v.2.2.2.2.2.1 /\ 0<=(u.1.2.2.2.2.1:Int) /\ (u.2.2.2.2.1.length:Int)+u.1.2.2.2.2.1=v.1.2.2.2.2.1 /\ c0v u.2.2.2.2.1.length v.2.2.2.2.2.1.length u.2.2.2.2.1 u.2.2.2.2.2.2.1)
  (fun _ r=>Pst r fun y=>a0g y.2.1 /\ y.2.2.2.2.2.1=v.2.2.2.2.2.1 /\ c0v (v.1.2.2.2.2.1:Int).toNat v.2.2.2.2.2.1.length y.2.2.2.2.1 y.2.2.2.2.2.2.1)
  (fun u=>(u.1.2.2.2.2.1:Int).toNat) ?_ _ _ ⟨hc,rfl,hn.1,by rw[hw];exact Int.zero_add _,by rw[hw,hs];exact⟨rfl,rfl,fun _ h=>by cases h⟩⟩ (by unfold c9G;omega)
 clear hc hw hs
 rintro⟨⟨_,_,_,w,n,_⟩,⟨c0,c1,c2,_⟩,_,_,ws,as_,sp,_⟩ f ⟨g0,g1,g2,g3,g4⟩ ih
 dsimp only at g0 g1 g2 g3 g4 ih
 obtain⟨g4,g5,g6⟩:=g4
 have ea:as_.length=v.2.2.2.2.2.1.length:=by rw[g1]
 unfold c3H
 dsimp only
 by_cases hk:n>0
 ·refine a0p (by simpa using hk) ?_
  refine a0p (a0K (by simp only[List.length_set,List.length_replicate];omega)) ?_
  have hr:=c7n (((),(),(),w,n,(),0,()),(c0,c1,c2,()),((),(),(),()),((),(),(),()),ws++(List.replicate 1 (zero (Ty.flt FloatKind.f32))).set 0 w,as_,sp,List.replicate 0 (zero (Ty.flt FloatKind.f32)),()) g0 rfl rfl (by show as_.length<=30;omega)
  refine a0p (a2C hr) ?_
  have hx:=a2T (((),((),((),(0,(0,((),())))))),(([],(0,(0,()))),(((),((),((),()))),(((),((),((),()))),([],([],([],([],())))))))) hr
  change a0g (a2r _).2.1 /\ (a2r _).1.2.2.2.2.1=n /\ (a2r _).2.2.2.2.1=_ /\ (a2r _).2.2.2.2.2.1=as_ /\ (a2r _).2.2.2.2.2.2.1=sp /\ (a2r _).2.2.2.2.2.2.2.1.length=as_.length at hx
  generalize a2r (((),(),(),w,n,(),0,()),(c0,c1,c2,()),((),(),(),()),((),(),(),()),ws++(List.replicate 1 (zero (Ty.flt FloatKind.f32))).set 0 w,as_,sp,List.replicate 0 (zero (Ty.flt FloatKind.f32)),())=y at *
  obtain⟨⟨_,_,_,w',n',_,_⟩,c',_,_,ws',as',sp',row,_⟩:=y
  dsimp only at hx
  obtain⟨h1,h2,h3,h4,h5,h6⟩:=hx
  subst h2 h3 h4 h5
  refine a0p (a0K (by simp only[List.length_set,List.length_replicate];omega)) ?_
  refine a0p (a0C _ (by(repeat ((try dsimp only);first|assumption|(with_reducible first|apply a0b|apply a0h|apply a0d|apply a0c|apply a0f))))) ?_
  have e:IntKind.i64.wrap (n'-1)=n'-1:=w64 (by omega) (by omega)
  dsimp only
  rw[e]
  refine ih _ ⟨by(repeat ((try dsimp only);first|assumption|(with_reducible first|apply a0b|apply a0h|apply a0d|apply a0c|apply a0f))),g1,?_,?_,?_,?_,?_⟩ ?_
  ·show 0<=n'-1;omega
  ·simp only[List.length_append,List.length_set,List.length_replicate];omega
  ·rfl
  ·simp only[List.length_append,List.length_set,List.length_replicate];omega
  ·intro r hr
   rcases List.mem_append.1 hr with hr|hr
   ·exact g6 r hr
   ·rw[show r=row from List.mem_singleton.1 hr,h6,ea]
  ·show(n'-1).toNat<n'.toNat;omega
 ·have hd:decide (n>0)=false:=by simpa using hk
  rw[hd]
  refine a0v ⟨g0,g1,?_,?_,g6⟩
  ·show ws.length=_;omega
  ·show sp.length=_;omega
theorem e4n (a b:Int) (h1:a>0) (h2:a<180) (h:0<=b /\ b<50):IntKind.i64.wrap (IntKind.i64.wrap (a+5)+b)<=1000:=by
 rw[w64 (x:=a+5) (by omega) (by omega),w64 (by omega) (by omega)]
 omega
theorem e4o (b:Int) (h:0<=b /\ b<4):0<=IntKind.i64.wrap (1+b) /\ IntKind.i64.wrap (1+b)<=8 /\ 1<=(IntKind.i64.wrap (1+b)).toNat /\ (IntKind.i64.wrap (1+b)).toNat<=4:=by
 rw[w64 (by omega) (by omega)]
 omega
theorem e4p (b:Int) (h:0<=b /\ b<25):IntKind.i64.wrap (20+b)<=1000:=by
 rw[w64 (by omega) (by omega)]
 omega
theorem b6V (v:b4w) (hc:a0g v.2.1) (hn:(v.1.2.2.2.1:Int)<=1000) (hw:v.2.2.2.2.1.length=1) :
 Pst (d5N v) fun y=>a0g y.2.1 /\ 1<=y.2.2.2.2.1.length /\ y.2.2.2.2.1.length<=21:=by
 unfold d5N
 refine a0W (q:=d5M K34 G34 K77 G77)
  (fun u=>a0g u.2.1 /\ (u.1.2.2.2.1:Int)<=1000 /\ 1<=u.2.2.2.2.1.length /\ u.2.2.2.2.1.length<=21)
  (fun _ r=>Pst r fun y=>a0g y.2.1 /\ 1<=y.2.2.2.2.1.length /\ y.2.2.2.2.1.length<=21)
  (fun u=>21-u.2.2.2.2.1.length) ?_ _ _ ⟨hc,hn,by omega,by omega⟩ (by unfold e2g;omega)
 rintro⟨⟨_,_,_,a,_⟩,⟨c0,c1,c2,_⟩,_,_,as_,_⟩ f ⟨g0,g1,g2,g3⟩ ih
 dsimp only at g0 g1 g2 g3 ih
 unfold d5M
 dsimp only
 refine a1q (fun h1=>?_) (fun _=>a0v ⟨g0,g2,g3⟩)
 refine a1q (fun h2=>?_) (fun _=>a0v ⟨g0,g2,g3⟩)
 refine a1q (fun h3=>?_) (fun _=>a0v ⟨g0,g2,g3⟩)
 have h1:a>0:=by simpa using h1
 have h2:a<180:=by simpa using h2
 have h3 : as_.length < 20 := by have:(as_.length:Int)<20:=by simpa using h3
                                 omega
 refine a0p (a0K (by simp only[List.length_set,List.length_replicate];omega)) ?_
 refine a0p (a0C _ (by(repeat ((try dsimp only);first|assumption|(with_reducible first|apply a0b|apply a0h|apply a0d|apply a0c|apply a0f))))) ?_
 have hb:=a1g 50 (c0,c1,c2,()) g0 (by decide)
 refine ih _ ⟨by(repeat ((try dsimp only);first|assumption|(with_reducible first|apply a0b|apply a0h|apply a0d|apply a0c|apply a0f))),e4n _ _ h1 h2 hb,?_,?_⟩ ?_
 all_goals simp only[List.length_append,List.length_set,List.length_replicate];omega
def c0w (ws:List Nat) (as_:List Int) (sp:List (List Nat)):Prop:=2<=as_.length /\ as_.length<=22 /\ 1<=ws.length /\ ws.length<=4 /\ c0v ws.length as_.length ws sp
theorem b2S (x:I73.den) (h:a0g x.2.1):Pst (F73 x) fun y=>a0g y.2.1 /\ c0w y.1.1.1 y.1.1.2.1 y.1.1.2.2.1:=by
 unfold F73 r73
 dsimp only
 have a2o:∀(n:Int) (c:List Int×Int×Int×Unit),a0g c->0<n->0<=((G34 (((),n,()),c,())).1.1:Int) /\ ((G34 (((),n,()),c,())).1.1:Int)<n:=fun n c h hn=>a1g n c h hn
 refine a0p (a0C _ (by(repeat ((try dsimp only);first|assumption|(with_reducible first|apply a0b|apply a0h|apply a0d|apply a0c|apply a0f))))) ?_
 have b1:0<=((G34 (((),25,()),x.snd)).1.1:Int) /\ ((G34 (((),25,()),x.snd)).1.1:Int)<25:=a2o 25 x.2.1 h (by decide)
 have c1:a0g (G34 (((),25,()),x.snd)).2.1:=by(repeat ((try dsimp only);first|assumption|(with_reducible first|apply a0b|apply a0h|apply a0d|apply a0c|apply a0f)))
 generalize G34 (((),25,()),x.snd)=A at *
 refine a0p (a2b _ (by(repeat ((try dsimp only);first|assumption|(with_reducible first|apply a0b|apply a0h|apply a0d|apply a0c|apply a0f))))) ?_
 have c2:a0g (G77 (((),6,()),A.snd)).2.1:=by(repeat ((try dsimp only);first|assumption|(with_reducible first|apply a0b|apply a0h|apply a0d|apply a0c|apply a0f)))
 generalize G77 (((),6,()),A.snd)=B at *
 have main:∀a:Int,a<=1000->Pst (
  let v5:=List.set (List.replicate 1 (zero (Ty.int IntKind.i64))) 0 0
  let v6:=(b2v (((),(),(),a,()),B.snd.fst,((),(),(),()),((),(),(),()),v5,()))
  bif (v6)then
   let v7:=(a6l (((),(),(),a,()),B.snd.fst,((),(),(),()),((),(),(),()),v5,()))
   let v8:=(List.set (List.replicate 1 (zero (Ty.int IntKind.i64))) 0 180)
   bif (a0F (List.length v7.snd.snd.snd.snd.fst+List.length v8))then
    let v9:=(K34 (((),4,()),v7.snd.fst,()))
    bif (v9)then
     let v10:=(G34 (((),4,()),v7.snd.fst,()))
     let v11:=(K34 (((),4,()),v10.snd))
     bif (v11)then
      let v12:=(IntKind.wrap IntKind.i64 (1+v10.fst.fst))
      let v13:=(G34 (((),4,()),v10.snd))
      let v14:=(IntKind.wrap IntKind.i64 (1+v13.fst.fst))
      let v15:=(v7.snd.snd.snd.snd.fst++v8)
      let v16:=(a8k (((),(),(),FloatKind.nearest FloatKind.f32 v12,v14,()),v13.snd.fst,((),(),(),()),((),(),(),()),[],v15,[],()))
      bif (v16)then
       let v17:=(a3q (((),(),(),FloatKind.nearest FloatKind.f32 v12,v14,()),v13.snd.fst,((),(),(),()),((),(),(),()),[],v15,[],()))
       (some ((v17.snd.snd.snd.snd,()),v17.snd.fst,()):Option O73.den)
      else none
     else none
    else none
   else none
  else none) fun y=>a0g y.2.1 /\ c0w y.1.1.1 y.1.1.2.1 y.1.1.2.2.1:=by
  intro a ha
  dsimp only
  have hr:=b6V (((),(),(),a,()),B.snd.fst,((),(),(),()),((),(),(),()),List.set (List.replicate 1 (zero (Ty.int IntKind.i64))) 0 0,()) c2 ha rfl
  refine a0p (a2C hr) ?_
  have hx:=a2T (((),((),((),()))),(([],(0,(0,()))),(((),((),((),()))),(((),((),((),()))),([],()))))) hr
  change a0g (a6l _).2.1 /\ 1<=(a6l _).2.2.2.2.1.length /\ (a6l _).2.2.2.2.1.length<=21 at hx
  generalize a6l (((),(),(),a,()),B.snd.fst,((),(),(),()),((),(),(),()),List.set (List.replicate 1 (zero (Ty.int IntKind.i64))) 0 0,())=y at *
  obtain⟨_,c,_,_,as_,_⟩:=y
  dsimp only at hx ⊢
  obtain⟨h1,h2,h3⟩:=hx
  refine a0p (a0K (by simp only[List.length_set,List.length_replicate];omega)) ?_
  refine a0p (a0C _ (by(repeat ((try dsimp only);first|assumption|(with_reducible first|apply a0b|apply a0h|apply a0d|apply a0c|apply a0f))))) ?_
  have c3:a0g (G34 (((),4,()),c,())).2.1:=by(repeat ((try dsimp only);first|assumption|(with_reducible first|apply a0b|apply a0h|apply a0d|apply a0c|apply a0f)))
  generalize G34 (((),4,()),c,())=D at *
  refine a0p (a0C _ (by(repeat ((try dsimp only);first|assumption|(with_reducible first|apply a0b|apply a0h|apply a0d|apply a0c|apply a0f))))) ?_
  have b4:0<=((G34 (((),4,()),D.snd)).1.1:Int) /\ ((G34 (((),4,()),D.snd)).1.1:Int)<4:=a2o 4 D.2.1 c3 (by decide)
  have c4:a0g (G34 (((),4,()),D.snd)).2.1:=by(repeat ((try dsimp only);first|assumption|(with_reducible first|apply a0b|apply a0h|apply a0d|apply a0c|apply a0f)))
  generalize G34 (((),4,()),D.snd)=E at *
  have hn:0<=IntKind.i64.wrap (1+E.fst.fst) /\ IntKind.i64.wrap (1+E.fst.fst)<=8 /\ 1<=(IntKind.i64.wrap (1+E.fst.fst)).toNat /\ (IntKind.i64.wrap (1+E.fst.fst)).toNat<=4:=e4o _ b4
  generalize IntKind.i64.wrap (1+E.fst.fst)=nn at *
  generalize FloatKind.nearest FloatKind.f32 (IntKind.wrap IntKind.i64 (1+D.fst.fst))=w
  have hq:=c2y (((),(),(),w,nn,()),E.snd.fst,((),(),(),()),((),(),(),()),[],as_++List.set (List.replicate 1 (zero (Ty.int IntKind.i64))) 0 180,[],()) c4 ⟨hn.1,hn.2.1⟩ rfl rfl (by simp only[List.length_append,List.length_set,List.length_replicate];omega)
  refine a0p (a2C hq) ?_
  have hx:=a2T (((),((),())),(([],(0,(0,()))),(((),((),((),()))),(((),((),((),()))),([],([],([],()))))))) hq
  change a0g (a3q _).2.1 /\ (a3q _).2.2.2.2.2.1=_ /\ c0v nn.toNat _ (a3q _).2.2.2.2.1 (a3q _).2.2.2.2.2.2.1 at hx
  generalize a3q (((),(),(),w,nn,()),E.snd.fst,((),(),(),()),((),(),(),()),[],as_++List.set (List.replicate 1 (zero (Ty.int IntKind.i64))) 0 180,[],())=y at *
  obtain⟨_,c',_,_,ws',as',sp',_⟩:=y
  dsimp only at hx
  obtain⟨k1,k2,k3,k4,k5⟩:=hx
  subst k2
  refine a0v ⟨k1,?_⟩
  dsimp only
  have el:(as_++List.set (List.replicate 1 (zero (Ty.int IntKind.i64))) 0 180).length=as_.length+1:=by simp only[List.length_append,List.length_set,List.length_replicate]
  refine⟨by rw[el];omega,by rw[el];omega,by rw[k3];exact hn.2.2.1,by rw[k3];exact hn.2.2.2,rfl,by rw[k3,k4],k5⟩
 refine a1q (fun _=>?_) (fun _=>?_)
 ·exact main 0 (by decide)
 ·exact main _ (e4p _ b1)
theorem e9B (x:I73.den) (h:a0g x.2.1):K73 x=true:=a2C (b2S x h)
theorem e9C (x:I73.den) (h:a0g x.2.1):a0g (G73 x).2.1 /\ c0w (G73 x).1.1.1 (G73 x).1.1.2.1 (G73 x).1.1.2.2.1:=a2T _ (b2S x h)
abbrev A27:Ty:=.cons (S46) (.cons (.str) (.nil))
abbrev R27:Ty:=.cons (S46) (.cons (.bool) (.nil))
noncomputable def g1k (k36 g36 k16 g16 k14 g14 k68 g68 k60 g60) :=a0t tab eqs [(36,a0n false I36 O36 k36 g36),(16,a0a A16 R16 k16 g16),(14,a0a A14 R14 k14 g14),(68,a0n true I68 O68 k68 g68),(60,a0a A60 R60 k60 g60)] 44 [.cell 4 47,.tmp 5] [] [] [] [] [.frzBox 4]
def r27 (k36:KI I36) (g36:GI I36 O36) (k16:KA A16) (g16:GA A16 R16) (k14:KA A14) (g14:GA A14 R14) (k68:KI I68) (g68:GI I68 O68) (k60:KA A60) (g60:GA A60 R60) (x:Den A27):Option (Den R27):=
 let v0:=(k36 ((x.1,()),()))
 bif v0 then
 bif (k16 x.2)then
 bif (k14 (x.1,()))then
 bif (!(g14 (x.1,())).1)then
 bif v0 then
 let v4:=(g36 ((x.1,()),()))
 some (((((v4.1.1.1,v4.1.1.2.1,v4.1.1.2.2.1,()),(v4.1.1.2.2.2.1,v4.1.1.2.2.2.2.1,()),v4.1.1.2.2.2.2.2.1,(((v4.1.1.2.2.2.2.2.2.1,v4.1.1.2.2.2.2.2.2.2.1,()),(v4.1.1.2.2.2.2.2.2.2.2.1,v4.1.1.2.2.2.2.2.2.2.2.2.1,()),()),v4.1.1.2.2.2.2.2.2.2.2.2.2.1,((v4.1.1.2.2.2.2.2.2.2.2.2.2.2.1,v4.1.1.2.2.2.2.2.2.2.2.2.2.2.2.1,()),(v4.1.1.2.2.2.2.2.2.2.2.2.2.2.2.2.1,v4.1.1.2.2.2.2.2.2.2.2.2.2.2.2.2.2.1,()),()),()),()),v4.1.1.2.2.2.2.2.2.2.2.2.2.2.2.2.2.2.1,v4.1.1.2.2.2.2.2.2.2.2.2.2.2.2.2.2.2.2.1,v4.1.1.2.2.2.2.2.2.2.2.2.2.2.2.2.2.2.2.2.1,v4.1.1.2.2.2.2.2.2.2.2.2.2.2.2.2.2.2.2.2.2.1,v4.1.1.2.2.2.2.2.2.2.2.2.2.2.2.2.2.2.2.2.2.2.1,v4.2),false,()))
 else
 none
 else
 bif (decide ((↑(List.length x.1.2.2.2.2.2.2.2.1):Int) ≥ 300))then
 bif v0 then
 let v4:=(g36 ((x.1,()),()))
 some (((((v4.1.1.1,v4.1.1.2.1,v4.1.1.2.2.1,()),(v4.1.1.2.2.2.1,v4.1.1.2.2.2.2.1,()),v4.1.1.2.2.2.2.2.1,(((v4.1.1.2.2.2.2.2.2.1,v4.1.1.2.2.2.2.2.2.2.1,()),(v4.1.1.2.2.2.2.2.2.2.2.1,v4.1.1.2.2.2.2.2.2.2.2.2.1,()),()),v4.1.1.2.2.2.2.2.2.2.2.2.2.1,((v4.1.1.2.2.2.2.2.2.2.2.2.2.2.1,v4.1.1.2.2.2.2.2.2.2.2.2.2.2.2.1,()),(v4.1.1.2.2.2.2.2.2.2.2.2.2.2.2.2.1,v4.1.1.2.2.2.2.2.2.2.2.2.2.2.2.2.2.1,()),()),()),()),v4.1.1.2.2.2.2.2.2.2.2.2.2.2.2.2.2.2.1,v4.1.1.2.2.2.2.2.2.2.2.2.2.2.2.2.2.2.2.1,v4.1.1.2.2.2.2.2.2.2.2.2.2.2.2.2.2.2.2.2.1,v4.1.1.2.2.2.2.2.2.2.2.2.2.2.2.2.2.2.2.2.2.1,v4.1.1.2.2.2.2.2.2.2.2.2.2.2.2.2.2.2.2.2.2.2.1,v4.2),false,()))
 else
 none
 else
 let v4:=(g16 x.2)
 bif (!v4.2.1)then
 bif v0 then
 let v5:=(g36 ((x.1,()),()))
 some (((((v5.1.1.1,v5.1.1.2.1,v5.1.1.2.2.1,()),(v5.1.1.2.2.2.1,v5.1.1.2.2.2.2.1,()),v5.1.1.2.2.2.2.2.1,(((v5.1.1.2.2.2.2.2.2.1,v5.1.1.2.2.2.2.2.2.2.1,()),(v5.1.1.2.2.2.2.2.2.2.2.1,v5.1.1.2.2.2.2.2.2.2.2.2.1,()),()),v5.1.1.2.2.2.2.2.2.2.2.2.2.1,((v5.1.1.2.2.2.2.2.2.2.2.2.2.2.1,v5.1.1.2.2.2.2.2.2.2.2.2.2.2.2.1,()),(v5.1.1.2.2.2.2.2.2.2.2.2.2.2.2.2.1,v5.1.1.2.2.2.2.2.2.2.2.2.2.2.2.2.2.1,()),()),()),()),v5.1.1.2.2.2.2.2.2.2.2.2.2.2.2.2.2.2.1,v5.1.1.2.2.2.2.2.2.2.2.2.2.2.2.2.2.2.2.1,v5.1.1.2.2.2.2.2.2.2.2.2.2.2.2.2.2.2.2.2.1,v5.1.1.2.2.2.2.2.2.2.2.2.2.2.2.2.2.2.2.2.2.1,v5.1.1.2.2.2.2.2.2.2.2.2.2.2.2.2.2.2.2.2.2.2.1,v5.2),false,()))
 else
 none
 else
 let v5:=(g36 ((x.1,()),()))
 let w0:=(((),v4.1,()),(v5.1.1.1,v5.1.1.2.1,v5.1.1.2.2.1,v5.1.1.2.2.2.1,v5.1.1.2.2.2.2.1,v5.1.1.2.2.2.2.2.1,v5.1.1.2.2.2.2.2.2.1,v5.1.1.2.2.2.2.2.2.2.1,v5.1.1.2.2.2.2.2.2.2.2.1,v5.1.1.2.2.2.2.2.2.2.2.2.1,v5.1.1.2.2.2.2.2.2.2.2.2.2.1,v5.1.1.2.2.2.2.2.2.2.2.2.2.2.1,v5.1.1.2.2.2.2.2.2.2.2.2.2.2.2.1,v5.1.1.2.2.2.2.2.2.2.2.2.2.2.2.2.1,v5.1.1.2.2.2.2.2.2.2.2.2.2.2.2.2.2.1,v5.1.1.2.2.2.2.2.2.2.2.2.2.2.2.2.2.2.1,v5.1.1.2.2.2.2.2.2.2.2.2.2.2.2.2.2.2.2.1,v5.1.1.2.2.2.2.2.2.2.2.2.2.2.2.2.2.2.2.2.1,v5.1.1.2.2.2.2.2.2.2.2.2.2.2.2.2.2.2.2.2.2.1,v5.1.1.2.2.2.2.2.2.2.2.2.2.2.2.2.2.2.2.2.2.2.1,(),(),()),v5.2)
 bif (k68 w0)then
 let v7:=(g68 w0)
 bif (!v7.1.1)then
 bif v0 then
 some (((((v5.1.1.1,v5.1.1.2.1,v5.1.1.2.2.1,()),(v5.1.1.2.2.2.1,v5.1.1.2.2.2.2.1,()),v5.1.1.2.2.2.2.2.1,(((v5.1.1.2.2.2.2.2.2.1,v5.1.1.2.2.2.2.2.2.2.1,()),(v5.1.1.2.2.2.2.2.2.2.2.1,v5.1.1.2.2.2.2.2.2.2.2.2.1,()),()),v5.1.1.2.2.2.2.2.2.2.2.2.2.1,((v5.1.1.2.2.2.2.2.2.2.2.2.2.2.1,v5.1.1.2.2.2.2.2.2.2.2.2.2.2.2.1,()),(v5.1.1.2.2.2.2.2.2.2.2.2.2.2.2.2.1,v5.1.1.2.2.2.2.2.2.2.2.2.2.2.2.2.2.1,()),()),()),()),v5.1.1.2.2.2.2.2.2.2.2.2.2.2.2.2.2.2.1,v5.1.1.2.2.2.2.2.2.2.2.2.2.2.2.2.2.2.2.1,v5.1.1.2.2.2.2.2.2.2.2.2.2.2.2.2.2.2.2.2.1,v5.1.1.2.2.2.2.2.2.2.2.2.2.2.2.2.2.2.2.2.2.1,v5.1.1.2.2.2.2.2.2.2.2.2.2.2.2.2.2.2.2.2.2.2.1,v5.2),false,()))
 else
 none
 else
 bif (k60 (v4.1,{ data:=#[32] },()))then
 let v10:=(List.set (List.replicate 1 (zero Ty.str)) 0 (g60 (v4.1,{ data:=#[32] },())).1)
 bif (a0F (List.length v7.2.2.2.1+List.length v10))then
 some (((((v7.2.1.1,v7.2.1.2.1,v7.2.1.2.2.1,()),(v7.2.1.2.2.2.1,v7.2.1.2.2.2.2.1,()),v7.2.1.2.2.2.2.2.1,(((v7.2.1.2.2.2.2.2.2.1,v7.2.1.2.2.2.2.2.2.2.1,()),(v7.2.1.2.2.2.2.2.2.2.2.1,v7.2.1.2.2.2.2.2.2.2.2.2.1,()),()),v7.2.1.2.2.2.2.2.2.2.2.2.2.1,((v7.2.1.2.2.2.2.2.2.2.2.2.2.2.1,v7.2.1.2.2.2.2.2.2.2.2.2.2.2.2.1,()),(v7.2.1.2.2.2.2.2.2.2.2.2.2.2.2.2.1,v7.2.1.2.2.2.2.2.2.2.2.2.2.2.2.2.2.1,()),()),()),()),v7.2.1.2.2.2.2.2.2.2.2.2.2.2.2.2.2.2.1,v7.2.1.2.2.2.2.2.2.2.2.2.2.2.2.2.2.2.2.1,v7.2.1.2.2.2.2.2.2.2.2.2.2.2.2.2.2.2.2.2.1,v7.2.1.2.2.2.2.2.2.2.2.2.2.2.2.2.2.2.2.2.2.1,v7.2.1.2.2.2.2.2.2.2.2.2.2.2.2.2.2.2.2.2.2.2.1,v7.2.2.2.2.1,(v7.2.2.2.1++v10),()),true,()))
 else
 none
 else
 none
 else
 none
 else
 none
 else
 none
 else
 none
theorem g1l (k36 g36 k16 g16 k14 g14 k68 g68 k60 g60 x) :a0E (g1k k36 g36 k16 g16 k14 g14 k68 g68 k60 g60) (a0e Tryz.f27) (a1f R27) (a0V A27 x) []=r27 k36 g36 k16 g16 k14 g14 k68 g68 k60 g60 x:=by kernel_rfl
def F27 (x:Den A27):Option (Den R27):=r27 K36 G36 K16 G16 K14 G14 K68 G68 K60 G60 x
def K27 (x:Den A27):Bool:=(F27 x).isSome
def G27 (x:Den A27):Den R27:=(F27 x).getD (zero R27)
theorem f8h:a0q Tryz.prog (27,a0a A27 R27 K27 G27):=a0s (a0j mixed a0l a0k (.cons e8S (.cons e8R (.cons f6d (.cons f8a (.cons f2R .nil)))))) (a0O Tryz.func27 rfl rfl rfl (by kernel_rfl) (a0m (by kernel_rfl))) fun x=>g1l K36 G36 K16 G16 K14 G14 K68 G68 K60 G60 x
abbrev A10:Ty:=.cons (S46) (.cons (.slice (.str)) (.nil))
abbrev R10:Ty:=.cons (S46) (.cons (.slice (.bool)) (.nil))
abbrev b1S:Type:=((Unit×(Unit×(Unit×((List (Den (.str)))×(Int×(Int×Unit))))))×(((List (Den (.flt .f32)))×((List (Den (.int .i64)))×((List (Den (.slice (.flt .f32))))×((List (Den (a0S)))×((List (Den (.int .i64)))×((List (Den (S68)))×(Int×(Int×(Int×(Int×((List (Den (a1E)))×(Int×(Int×(Int×(Int×(Int×((Nat×Nat)×(Int×((Nat×Nat)×(Int×((List (Den (S97)))×((List (Den (.str)))×Unit))))))))))))))))))))))×((Unit×(Unit×(Unit×(Unit×(Unit×(Unit×(Int×(Int×(Int×(Int×(Unit×(Int×(Int×(Int×(Int×(Int×((Nat×Nat)×(Int×((Nat×Nat)×(Int×(Unit×(Unit×Unit))))))))))))))))))))))×((List (Den (.bool)))×Unit))))
def c5o:ShS:=⟨[(2,.one (.ptr 0 0)),(4,.one (.ptr 1 0)),(6,.one (.ref (.bool) 2)),(13,.one (.sl (.str))),(14,.one (.int .i64)),(15,.one (.int .i64))],[(0,.box [.sl (.flt .f32),.sl (.int .i64),.sl (.slice (.flt .f32)),.sl (a0S),.sl (.int .i64),.sl (S68),.int .i64,.int .i64,.int .i64,.int .i64,.sl (a1E),.int .i64,.int .i64,.int .i64,.int .i64,.int .i64,.cpx .f64,.int .i64,.cpx .f32,.int .i64,.sl (S97),.sl (.str)]),(1,.box [.nil (.flt .f32),.nil (.int .i64),.nil (.slice (.flt .f32)),.nil (a0S),.nil (.int .i64),.nil (S68),.int .i64,.int .i64,.int .i64,.int .i64,.nil (a1E),.int .i64,.int .i64,.int .i64,.int .i64,.int .i64,.cpx .f64,.int .i64,.cpx .f32,.int .i64,.nil (S97),.nil (.str)]),(2,.arr (.bool))],3,0⟩
abbrev c2z:Type:=((Unit×(Unit×(Unit×Unit)))×(((List (Den (.flt .f32)))×((List (Den (.int .i64)))×((List (Den (.slice (.flt .f32))))×((List (Den (a0S)))×((List (Den (.int .i64)))×((List (Den (S68)))×(Int×(Int×(Int×(Int×((List (Den (a1E)))×(Int×(Int×(Int×(Int×(Int×((Nat×Nat)×(Int×((Nat×Nat)×(Int×((List (Den (S97)))×((List (Den (.str)))×Unit))))))))))))))))))))))×((Unit×(Unit×(Unit×(Unit×(Unit×(Unit×(Int×(Int×(Int×(Int×(Unit×(Int×(Int×(Int×(Int×(Int×((Nat×Nat)×(Int×((Nat×Nat)×(Int×(Unit×(Unit×Unit))))))))))))))))))))))×((List (Den (.bool)))×Unit))))
def c2A:ShS:=⟨[(2,.one (.ptr 0 0)),(4,.one (.ptr 1 0)),(6,.one (.ref (.bool) 2))],[(0,.box [.sl (.flt .f32),.sl (.int .i64),.sl (.slice (.flt .f32)),.sl (a0S),.sl (.int .i64),.sl (S68),.int .i64,.int .i64,.int .i64,.int .i64,.sl (a1E),.int .i64,.int .i64,.int .i64,.int .i64,.int .i64,.cpx .f64,.int .i64,.cpx .f32,.int .i64,.sl (S97),.sl (.str)]),(1,.box [.nil (.flt .f32),.nil (.int .i64),.nil (.slice (.flt .f32)),.nil (a0S),.nil (.int .i64),.nil (S68),.int .i64,.int .i64,.int .i64,.int .i64,.nil (a1E),.int .i64,.int .i64,.int .i64,.int .i64,.int .i64,.cpx .f64,.int .i64,.cpx .f32,.int .i64,.nil (S97),.nil (.str)]),(2,.arr (.bool))],3,0⟩
noncomputable def f9j (k36 g36 k27 g27 kl4 xl4) :=a0t tab eqs [(36,a0n false I36 O36 k36 g36),(27,a0a A27 R27 k27 g27)] 33 [.cell 4 47,.tmp 5] [] [] [(4,a1X [2,4,6,13,14,15] [.frzBox 2,.nil 6] 0 [2,4,6] [] c5o c2A kl4 xl4)] [] [.frz 5]
noncomputable def e0J:Code:=(a0u (a0e Tryz.f10)).getD 0 .skip
def c7o (k36:KI I36) (g36:GI I36 O36) (k27:KA A27) (g27:GA A27 R27) (f:b1S->Option (c2z)) (v:b1S):Option (c2z):=
 bif (decide (v.1.2.2.2.2.2.1<v.1.2.2.2.2.1))then
 bif (decide (0<=v.1.2.2.2.2.2.1)&&decide (v.1.2.2.2.2.2.1<(↑(List.length v.1.2.2.2.1):Int)))then
 let v0:=(List.getD v.1.2.2.2.1 (Int.toNat v.1.2.2.2.2.2.1) (zero Ty.str))
 let w0:=((((v.2.1.1,v.2.1.2.1,v.2.1.2.2.1,()),(v.2.1.2.2.2.1,v.2.1.2.2.2.2.1,()),v.2.1.2.2.2.2.2.1,(((v.2.1.2.2.2.2.2.2.1,v.2.1.2.2.2.2.2.2.2.1,()),(v.2.1.2.2.2.2.2.2.2.2.1,v.2.1.2.2.2.2.2.2.2.2.2.1,()),()),v.2.1.2.2.2.2.2.2.2.2.2.2.1,((v.2.1.2.2.2.2.2.2.2.2.2.2.2.1,v.2.1.2.2.2.2.2.2.2.2.2.2.2.2.1,()),(v.2.1.2.2.2.2.2.2.2.2.2.2.2.2.2.1,v.2.1.2.2.2.2.2.2.2.2.2.2.2.2.2.2.1,()),()),()),()),v.2.1.2.2.2.2.2.2.2.2.2.2.2.2.2.2.2),v0,())
 bif (k27 w0)then
 let v2:=(g27 w0)
 let v3:=(List.set (List.replicate 1 (zero Ty.bool)) 0 v2.2.1)
 bif (a0F (List.length v.2.2.2.1+List.length v3))then
 f ((((),(),(),v.1.2.2.2.1,v.1.2.2.2.2.1,(IntKind.wrap .i64 (v.1.2.2.2.2.2.1+1)),()),(v2.1.1.1.1,v2.1.1.1.2.1,v2.1.1.1.2.2.1,v2.1.1.2.1.1,v2.1.1.2.1.2.1,v2.1.1.2.2.1,v2.1.1.2.2.2.1.1.1.1,v2.1.1.2.2.2.1.1.1.2.1,v2.1.1.2.2.2.1.1.2.1.1,v2.1.1.2.2.2.1.1.2.1.2.1,v2.1.1.2.2.2.1.2.1,v2.1.1.2.2.2.1.2.2.1.1.1,v2.1.1.2.2.2.1.2.2.1.1.2.1,v2.1.1.2.2.2.1.2.2.1.2.1.1,v2.1.1.2.2.2.1.2.2.1.2.1.2.1,v2.1.2),((),(),(),(),(),(),v.2.2.1.2.2.2.2.2.2.1,v.2.2.1.2.2.2.2.2.2.2.1,v.2.2.1.2.2.2.2.2.2.2.2.1,v.2.2.1.2.2.2.2.2.2.2.2.2.1,(),v.2.2.1.2.2.2.2.2.2.2.2.2.2.2.1,v.2.2.1.2.2.2.2.2.2.2.2.2.2.2.2.1,v.2.2.1.2.2.2.2.2.2.2.2.2.2.2.2.2.1,v.2.2.1.2.2.2.2.2.2.2.2.2.2.2.2.2.2.1,v.2.2.1.2.2.2.2.2.2.2.2.2.2.2.2.2.2.2.1,v.2.2.1.2.2.2.2.2.2.2.2.2.2.2.2.2.2.2.2.1,v.2.2.1.2.2.2.2.2.2.2.2.2.2.2.2.2.2.2.2.2.1,v.2.2.1.2.2.2.2.2.2.2.2.2.2.2.2.2.2.2.2.2.2.1,v.2.2.1.2.2.2.2.2.2.2.2.2.2.2.2.2.2.2.2.2.2.2.1,(),(),()),(v.2.2.2.1++v3),()))
 else
 none
 else
 none
 else
 none
 else
 some ((((),(),(),()),v.2.1,((),(),(),(),(),(),v.2.2.1.2.2.2.2.2.2.1,v.2.2.1.2.2.2.2.2.2.2.1,v.2.2.1.2.2.2.2.2.2.2.2.1,v.2.2.1.2.2.2.2.2.2.2.2.2.1,(),v.2.2.1.2.2.2.2.2.2.2.2.2.2.2.1,v.2.2.1.2.2.2.2.2.2.2.2.2.2.2.2.1,v.2.2.1.2.2.2.2.2.2.2.2.2.2.2.2.2.1,v.2.2.1.2.2.2.2.2.2.2.2.2.2.2.2.2.2.1,v.2.2.1.2.2.2.2.2.2.2.2.2.2.2.2.2.2.2.1,v.2.2.1.2.2.2.2.2.2.2.2.2.2.2.2.2.2.2.2.1,v.2.2.1.2.2.2.2.2.2.2.2.2.2.2.2.2.2.2.2.2.1,v.2.2.1.2.2.2.2.2.2.2.2.2.2.2.2.2.2.2.2.2.2.1,v.2.2.1.2.2.2.2.2.2.2.2.2.2.2.2.2.2.2.2.2.2.2.1,(),(),()),v.2.2.2))
theorem e4q (k36 g36 k27 g27 kl4 xl4 f v) :EBk (f9j k36 g36 k27 g27 kl4 xl4) e0J (a0B [2,4,6,13,14,15] [.frzBox 2,.nil 6] 0 [2,4,6] [] (atS c5o f) (a5W c2A)) (mkS c5o v)=c7o k36 g36 k27 g27 f v:=by kernel_rfl
def d7P (v:b1S):Nat:=v.1.2.2.2.1.length+v.1.2.2.2.2.1.natAbs+v.1.2.2.2.2.2.1.natAbs+v.2.1.1.length+v.2.1.2.1.length+v.2.1.2.2.1.length+v.2.1.2.2.2.1.length+v.2.1.2.2.2.2.1.length+v.2.1.2.2.2.2.2.1.length+v.2.1.2.2.2.2.2.2.1.natAbs+v.2.1.2.2.2.2.2.2.2.1.natAbs+v.2.1.2.2.2.2.2.2.2.2.1.natAbs+v.2.1.2.2.2.2.2.2.2.2.2.1.natAbs+v.2.1.2.2.2.2.2.2.2.2.2.2.1.length+v.2.1.2.2.2.2.2.2.2.2.2.2.2.1.natAbs+v.2.1.2.2.2.2.2.2.2.2.2.2.2.2.1.natAbs+v.2.1.2.2.2.2.2.2.2.2.2.2.2.2.2.1.natAbs+v.2.1.2.2.2.2.2.2.2.2.2.2.2.2.2.2.1.natAbs+v.2.1.2.2.2.2.2.2.2.2.2.2.2.2.2.2.2.1.natAbs+v.2.1.2.2.2.2.2.2.2.2.2.2.2.2.2.2.2.2.2.1.natAbs+v.2.1.2.2.2.2.2.2.2.2.2.2.2.2.2.2.2.2.2.2.2.1.natAbs+v.2.1.2.2.2.2.2.2.2.2.2.2.2.2.2.2.2.2.2.2.2.2.1.length+v.2.1.2.2.2.2.2.2.2.2.2.2.2.2.2.2.2.2.2.2.2.2.2.1.length+v.2.2.1.2.2.2.2.2.2.1.natAbs+v.2.2.1.2.2.2.2.2.2.2.1.natAbs+v.2.2.1.2.2.2.2.2.2.2.2.1.natAbs+v.2.2.1.2.2.2.2.2.2.2.2.2.1.natAbs+v.2.2.1.2.2.2.2.2.2.2.2.2.2.2.1.natAbs+v.2.2.1.2.2.2.2.2.2.2.2.2.2.2.2.1.natAbs+v.2.2.1.2.2.2.2.2.2.2.2.2.2.2.2.2.1.natAbs+v.2.2.1.2.2.2.2.2.2.2.2.2.2.2.2.2.2.1.natAbs+v.2.2.1.2.2.2.2.2.2.2.2.2.2.2.2.2.2.2.1.natAbs+v.2.2.1.2.2.2.2.2.2.2.2.2.2.2.2.2.2.2.2.2.1.natAbs+v.2.2.1.2.2.2.2.2.2.2.2.2.2.2.2.2.2.2.2.2.2.2.1.natAbs+v.2.2.2.1.length+1000
def e4r (v:b1S):Option (c2z):=a1u (c7o K36 G36 K27 G27) (d7P v) v
def b2T (v:b1S):Bool:=(e4r v).isSome
def b2U (v:b1S):c2z:=(e4r v).getD (((),((),((),()))),(([],([],([],([],([],([],(0,(0,(0,(0,([],(0,(0,(0,(0,(0,((0,0),(0,((0,0),(0,([],([],())))))))))))))))))))))),(((),((),((),((),((),((),(0,(0,(0,(0,((),(0,(0,(0,(0,(0,((0,0),(0,((0,0),(0,((),((),())))))))))))))))))))))),([],()))))
def r10 (k36:KI I36) (g36:GI I36 O36) (k27:KA A27) (g27:GA A27 R27) (kl4:b1S->Bool) (xl4:b1S->c2z) (x:Den A10):Option (Den R10):=
 bif (k36 ((x.1,()),()))then
 let v1:=(g36 ((x.1,()),()))
 let w0:=(((),(),(),x.2.1,(↑(List.length x.2.1):Int),0,()),(v1.1.1.1,v1.1.1.2.1,v1.1.1.2.2.1,v1.1.1.2.2.2.1,v1.1.1.2.2.2.2.1,v1.1.1.2.2.2.2.2.1,v1.1.1.2.2.2.2.2.2.1,v1.1.1.2.2.2.2.2.2.2.1,v1.1.1.2.2.2.2.2.2.2.2.1,v1.1.1.2.2.2.2.2.2.2.2.2.1,v1.1.1.2.2.2.2.2.2.2.2.2.2.1,v1.1.1.2.2.2.2.2.2.2.2.2.2.2.1,v1.1.1.2.2.2.2.2.2.2.2.2.2.2.2.1,v1.1.1.2.2.2.2.2.2.2.2.2.2.2.2.2.1,v1.1.1.2.2.2.2.2.2.2.2.2.2.2.2.2.2.1,v1.1.1.2.2.2.2.2.2.2.2.2.2.2.2.2.2.2.1,v1.1.1.2.2.2.2.2.2.2.2.2.2.2.2.2.2.2.2.1,v1.1.1.2.2.2.2.2.2.2.2.2.2.2.2.2.2.2.2.2.1,v1.1.1.2.2.2.2.2.2.2.2.2.2.2.2.2.2.2.2.2.2.1,v1.1.1.2.2.2.2.2.2.2.2.2.2.2.2.2.2.2.2.2.2.2.1,v1.2),((),(),(),(),(),(),0,0,0,0,(),0,0,0,0,0,(0,0),0,(0,0),0,(),(),()),[],())
 bif (kl4 w0)then
 let v3:=(xl4 w0)
 some (((((v3.2.1.1,v3.2.1.2.1,v3.2.1.2.2.1,()),(v3.2.1.2.2.2.1,v3.2.1.2.2.2.2.1,()),v3.2.1.2.2.2.2.2.1,(((v3.2.1.2.2.2.2.2.2.1,v3.2.1.2.2.2.2.2.2.2.1,()),(v3.2.1.2.2.2.2.2.2.2.2.1,v3.2.1.2.2.2.2.2.2.2.2.2.1,()),()),v3.2.1.2.2.2.2.2.2.2.2.2.2.1,((v3.2.1.2.2.2.2.2.2.2.2.2.2.2.1,v3.2.1.2.2.2.2.2.2.2.2.2.2.2.2.1,()),(v3.2.1.2.2.2.2.2.2.2.2.2.2.2.2.2.1,v3.2.1.2.2.2.2.2.2.2.2.2.2.2.2.2.2.1,()),()),()),()),v3.2.1.2.2.2.2.2.2.2.2.2.2.2.2.2.2.2),v3.2.2.2))
 else
 none
 else
 none
theorem g1m (k36 g36 k27 g27 kl4 xl4 x) :a0E (f9j k36 g36 k27 g27 kl4 xl4) (a0e Tryz.f10) (a1f R10) (a0V A10 x) []=r10 k36 g36 k27 g27 kl4 xl4 x:=by kernel_rfl
def F10 (x:Den A10):Option (Den R10):=r10 K36 G36 K27 G27 b2T b2U x
def K10 (x:Den A10):Bool:=(F10 x).isSome
def G10 (x:Den A10):Den R10:=(F10 x).getD (zero R10)
theorem f8i:a0q Tryz.prog (10,a0a A10 R10 K10 G10):=a0s (a0j mixed a0l a0k (.cons e8S (.cons f8h .nil))) (a0O Tryz.func10 rfl rfl rfl (by kernel_rfl) (a0D (l:=[e0J]) (by kernel_rfl) (.cons (a0r rfl (a0y (sh:=c5o) (shX:=c2A) (fun f v=>e4q K36 G36 K27 G27 b2T b2U f v) d7P (((),((),((),()))),(([],([],([],([],([],([],(0,(0,(0,(0,([],(0,(0,(0,(0,(0,((0,0),(0,((0,0),(0,([],([],())))))))))))))))))))))),(((),((),((),((),((),((),(0,(0,(0,(0,((),(0,(0,(0,(0,(0,((0,0),(0,((0,0),(0,((),((),())))))))))))))))))))))),([],())))))) (.nil)))) fun x=>g1m K36 G36 K27 G27 b2T b2U x
abbrev I31:Sg:=⟨[.ptr 0],[.box (a2O)]⟩
abbrev O31:Sg:=⟨[.val (S40)],[.box (a2O)]⟩
noncomputable def f2r (k73 g73 k74 g74 k75 g75 k76 g76 k77 g77 k2078 g2078 k79 g79) :=a0t tab eqs [(73,a0n true I73 O73 k73 g73),(74,a0n true I74 O74 k74 g74),(75,a0n true I75 O75 k75 g75),(76,a0n true I76 O76 k76 g76),(77,a0n true I77 O77 k77 g77),(78,a0n true a3u a4e k2078 g2078),(79,a0n true I79 O79 k79 g79)] 48 [.cell 2 41] [] [] [] [] [.frzBox 2]
def r31 (k73:KI I73) (g73:GI I73 O73) (k74:KI I74) (g74:GI I74 O74) (k75:KI I75) (g75:GI I75 O75) (k76:KI I76) (g76:GI I76 O76) (k77:KI I77) (g77:GI I77 O77) (k2078:KI a3u) (g2078:GI a3u a4e) (k79:KI I79) (g79:GI I79 O79) (x:I31.den):Option (O31.den):=
 bif (k73 (((),()),x.2))then
 let v1:=(g73 (((),()),x.2))
 bif (k74 (((),()),v1.2))then
 let v3:=(g74 (((),()),v1.2))
 bif (k75 (((),()),v3.2.1,()))then
 let v5:=(g75 (((),()),v3.2.1,()))
 bif (k76 (((),()),v5.2.1,()))then
 let w0:=(↑(List.length v5.2.2.1):Int)
 bif (decide (w0>0))then
 let v7:=(g76 (((),()),v5.2.1,()))
 bif (k77 (((),2,()),v7.2))then
 let v9:=(g77 (((),2,()),v7.2))
 bif v9.1.1 then
 bif (decide (0<=0)&&decide (0<w0))then
 let v10:=(List.getD v5.2.2.1 (Int.toNat 0) (zero S68))
 let v11:=(List.set v5.2.2.1 (Int.toNat 0) (v10.1,0,v10.2.2))
 bif (decide (0<=0)&&decide (0<(↑(List.length v11):Int)))then
 let v12:=(List.getD v11 (Int.toNat 0) (zero S68))
 let v13:=(List.set v11 (Int.toNat 0) (v12.1,v12.2.1,1120403456,v12.2.2.2))
 bif (decide (0<=0)&&decide (0<(↑(List.length v13):Int)))then
 let v14:=(List.getD v13 (Int.toNat 0) (zero S68))
 let v15:=(List.set v13 (Int.toNat 0) (v14.1,v14.2.1,v14.2.2.1,0,v14.2.2.2.2))
 bif (decide (0<=0)&&decide (0<(↑(List.length v15):Int)))then
 bif (k77 (((),30,()),v9.2))then
 let v17:=(g77 (((),30,()),v9.2))
 bif v17.1.1 then
 bif (k2078 (((),()),v17.2))then
 let v19:=(g2078 (((),()),v17.2))
 bif (k77 (((),30,()),v19.2))then
 let v21:=(g77 (((),30,()),v19.2))
 bif v21.1.1 then
 bif (k79 (((),()),v21.2))then
 let v23:=(g79 (((),()),v21.2))
 let v24:=(List.getD v15 (Int.toNat 0) (zero S68))
 some ((((v19.1.1,v23.1.1,(List.set v15 (Int.toNat 0) (v24.1,v24.2.1,v24.2.2.1,v24.2.2.2.1,180,())),v7.1),()),v23.2))
 else
 none
 else
 let v22:=(List.getD v15 (Int.toNat 0) (zero S68))
 some ((((v19.1.1,v3.2.2,(List.set v15 (Int.toNat 0) (v22.1,v22.2.1,v22.2.2.1,v22.2.2.2.1,180,())),v7.1),()),v21.2))
 else
 none
 else
 none
 else
 bif (k77 (((),30,()),v17.2))then
 let v19:=(g77 (((),30,()),v17.2))
 bif v19.1.1 then
 bif (k79 (((),()),v19.2))then
 let v21:=(g79 (((),()),v19.2))
 let v22:=(List.getD v15 (Int.toNat 0) (zero S68))
 some ((((v1.1.1,v21.1.1,(List.set v15 (Int.toNat 0) (v22.1,v22.2.1,v22.2.2.1,v22.2.2.2.1,180,())),v7.1),()),v21.2))
 else
 none
 else
 let v20:=(List.getD v15 (Int.toNat 0) (zero S68))
 some ((((v1.1.1,v3.2.2,(List.set v15 (Int.toNat 0) (v20.1,v20.2.1,v20.2.2.1,v20.2.2.2.1,180,())),v7.1),()),v19.2))
 else
 none
 else
 none
 else
 none
 else
 none
 else
 none
 else
 none
 else
 bif (k77 (((),30,()),v9.2))then
 let v11:=(g77 (((),30,()),v9.2))
 bif v11.1.1 then
 bif (k2078 (((),()),v11.2))then
 let v13:=(g2078 (((),()),v11.2))
 bif (k77 (((),30,()),v13.2))then
 let v15:=(g77 (((),30,()),v13.2))
 bif v15.1.1 then
 bif (k79 (((),()),v15.2))then
 let v17:=(g79 (((),()),v15.2))
 some ((((v13.1.1,v17.1.1,v5.2.2.1,v7.1),()),v17.2))
 else
 none
 else
 some ((((v13.1.1,v3.2.2,v5.2.2.1,v7.1),()),v15.2))
 else
 none
 else
 none
 else
 bif (k77 (((),30,()),v11.2))then
 let v13:=(g77 (((),30,()),v11.2))
 bif v13.1.1 then
 bif (k79 (((),()),v13.2))then
 let v15:=(g79 (((),()),v13.2))
 some ((((v1.1.1,v15.1.1,v5.2.2.1,v7.1),()),v15.2))
 else
 none
 else
 some ((((v1.1.1,v3.2.2,v5.2.2.1,v7.1),()),v13.2))
 else
 none
 else
 none
 else
 none
 else
 let v7:=(g76 (((),()),v5.2.1,()))
 bif (k77 (((),30,()),v7.2))then
 let v9:=(g77 (((),30,()),v7.2))
 bif v9.1.1 then
 bif (k2078 (((),()),v9.2))then
 let v11:=(g2078 (((),()),v9.2))
 bif (k77 (((),30,()),v11.2))then
 let v13:=(g77 (((),30,()),v11.2))
 bif v13.1.1 then
 bif (k79 (((),()),v13.2))then
 let v15:=(g79 (((),()),v13.2))
 some ((((v11.1.1,v15.1.1,v5.2.2.1,v7.1),()),v15.2))
 else
 none
 else
 some ((((v11.1.1,v3.2.2,v5.2.2.1,v7.1),()),v13.2))
 else
 none
 else
 none
 else
 bif (k77 (((),30,()),v9.2))then
 let v11:=(g77 (((),30,()),v9.2))
 bif v11.1.1 then
 bif (k79 (((),()),v11.2))then
 let v13:=(g79 (((),()),v11.2))
 some ((((v1.1.1,v13.1.1,v5.2.2.1,v7.1),()),v13.2))
 else
 none
 else
 some ((((v1.1.1,v3.2.2,v5.2.2.1,v7.1),()),v11.2))
 else
 none
 else
 none
 else
 none
 else
 none
 else
 none
 else
 none
theorem g1n (k73 g73 k74 g74 k75 g75 k76 g76 k77 g77 k2078 g2078 k79 g79 x) :a1N (f2r k73 g73 k74 g74 k75 g75 k76 g76 k77 g77 k2078 g2078 k79 g79) (a0e Tryz.f31) I31 O31 x=r31 k73 g73 k74 g74 k75 g75 k76 g76 k77 g77 k2078 g2078 k79 g79 x:=by kernel_rfl
def F31 (x:I31.den):Option (O31.den):=r31 K73 G73 K74 G74 K75 G75 K76 G76 K77 G77 d2n d2o K79 G79 x
def K31 (x:I31.den):Bool:=(F31 x).isSome
def G31 (x:I31.den):O31.den:=(F31 x).getD (a1d O31)
theorem e9D:a1y Tryz.prog (f2r K73 G73 K74 G74 K75 G75 K76 G76 K77 G77 d2n d2o K79 G79):=a0j mixed a0l a0k (.cons f3W (.cons e6Q (.cons f4h (.cons f4t (.cons b1M (.cons e3s (.cons f4y .nil)))))))
theorem f9k:a6i Tryz.prog 31 (f2r K73 G73 K74 G74 K75 G75 K76 G76 K77 G77 d2n d2o K79 G79) (a0e Tryz.f31):=a0O Tryz.func31 rfl rfl rfl (by kernel_rfl) (a0m (by kernel_rfl))
theorem f8j:a0q Tryz.prog (31,a0n true I31 O31 K31 G31):=a1k e9D f9k true fun x=>g1n K73 G73 K74 G74 K75 G75 K76 G76 K77 G77 d2n d2o K79 G79 x
abbrev A9:Ty:=.cons (.slice (.int .u8)) (.nil)
abbrev R9:Ty:=.cons (S46) (.cons (.slice (.str)) (.nil))
noncomputable def Γ9 (k30 g30 k31 g31 k33 g33 k34 g34 k32 g32 k35 g35) :=a0t tab eqs [(30,a0n false I30 O30 k30 g30),(31,a0n true I31 O31 k31 g31),(33,a0n true I33 O33 k33 g33),(34,a0n true I34 O34 k34 g34),(32,a0n false I32 O32 k32 g32),(35,a0n true I35 O35 k35 g35)] 25 [.cell 2 47,.tmp 3] [] [] [] [] [.frzBox 2,.frz 3]
def r9 (k30:KI I30) (g30:GI I30 O30) (k31:KI I31) (g31:GI I31 O31) (k33:KI I33) (g33:GI I33 O33) (k34:KI I34) (g34:GI I34 O34) (k32:KI I32) (g32:GI I32 O32) (k35:KI I35) (g35:GI I35 O35) (x:Den A9):Option (Den R9):=
 bif (k30 (x,()))then
 let v1:=(g30 (x,()))
 bif (k31 (((),()),v1.2))then
 let v3:=(g31 (((),()),v1.2))
 bif (k33 (((),60,()),v3.2))then
 let v5:=(g33 (((),60,()),v3.2))
 bif (k34 (((),3000,()),v5.2))then
 let v7:=(g34 (((),3000,()),v5.2))
 bif (k32 ((v3.1.1,v5.1.1,v7.1),()))then
 bif (k35 (((),v3.1),v7.2))then
 let v10:=(g32 ((v3.1.1,v5.1.1,v7.1),()))
 some (((((v10.2.1,v10.2.2.1,v10.2.2.2.1,()),(v10.2.2.2.2.1,v10.2.2.2.2.2.1,()),v10.2.2.2.2.2.2.1,(((v10.1.1.2.2.2.2.2.2.1,v10.1.1.2.2.2.2.2.2.2.1,()),(v10.1.1.2.2.2.2.2.2.2.2.1,v10.1.1.2.2.2.2.2.2.2.2.2.1,()),()),v10.2.2.2.2.2.2.2.1,((v10.1.1.2.2.2.2.2.2.2.2.2.2.2.1,v10.1.1.2.2.2.2.2.2.2.2.2.2.2.2.1,()),(v10.1.1.2.2.2.2.2.2.2.2.2.2.2.2.2.1,v10.1.1.2.2.2.2.2.2.2.2.2.2.2.2.2.2.1,()),()),()),()),v10.1.1.2.2.2.2.2.2.2.2.2.2.2.2.2.2.2),(g35 (((),v3.1),v7.2)).2.2))
 else
 none
 else
 none
 else
 none
 else
 none
 else
 none
 else
 none
theorem ev9 (k30 g30 k31 g31 k33 g33 k34 g34 k32 g32 k35 g35 x) :a0E (Γ9 k30 g30 k31 g31 k33 g33 k34 g34 k32 g32 k35 g35) (a0e Tryz.f9) (a1f R9) (a0V A9 x) []=r9 k30 g30 k31 g31 k33 g33 k34 g34 k32 g32 k35 g35 x:=by kernel_rfl
def F9 (x:Den A9):Option (Den R9):=r9 K30 G30 K31 G31 K33 G33 K34 G34 K32 G32 K35 G35 x
def K9 (x:Den A9):Bool:=(F9 x).isSome
def G9 (x:Den A9):Den R9:=(F9 x).getD (zero R9)
theorem f9l:a1y Tryz.prog (Γ9 K30 G30 K31 G31 K33 G33 K34 G34 K32 G32 K35 G35):=a0j mixed a0l a0k (.cons e6N (.cons f8j (.cons e7a (.cons a4z (.cons f3N (.cons f4A .nil))))))
theorem is9:a6i Tryz.prog 9 (Γ9 K30 G30 K31 G31 K33 G33 K34 G34 K32 G32 K35 G35) (a0e Tryz.f9):=a0O Tryz.func9 rfl rfl rfl (by kernel_rfl) (a0m (by kernel_rfl))
theorem g1o:a0q Tryz.prog (9,a0a A9 R9 K9 G9):=a0s f9l is9 fun x=>ev9 K30 G30 K31 G31 K33 G33 K34 G34 K32 G32 K35 G35 x
abbrev A4:Ty:=.cons (.slice (.int .u8)) (.nil)
abbrev R4:Ty:=.cons (.bool) (.nil)
abbrev c0x:Type:=((Unit×(Unit×(Int×(Int×(Int×Unit)))))×(((List (Den (.flt .f32)))×((List (Den (.int .i64)))×((List (Den (.slice (.flt .f32))))×((List (Den (a0S)))×((List (Den (.int .i64)))×((List (Den (S68)))×(Int×(Int×(Int×(Int×((List (Den (a1E)))×(Int×(Int×(Int×(Int×(Int×((Nat×Nat)×(Int×((Nat×Nat)×(Int×((List (Den (S97)))×((List (Den (.str)))×Unit))))))))))))))))))))))×(((List (Den (.flt .f32)))×((List (Den (.int .i64)))×((List (Den (.slice (.flt .f32))))×((List (Den (a0S)))×((List (Den (.int .i64)))×((List (Den (S68)))×(Int×(Int×(Int×(Int×((List (Den (a1E)))×(Int×(Int×(Int×(Int×(Int×((Nat×Nat)×(Int×((Nat×Nat)×(Int×((List (Den (S97)))×((List (Den (.str)))×Unit))))))))))))))))))))))×Unit)))
def d7Q:ShS:=⟨[(3,.one (.ptr 0 0)),(5,.one (.ptr 1 0)),(7,.one (.int .i64)),(8,.one (.int .i64)),(9,.one (.int .i64))],[(0,.box [.sl (.flt .f32),.sl (.int .i64),.sl (.slice (.flt .f32)),.sl (a0S),.sl (.int .i64),.sl (S68),.int .i64,.int .i64,.int .i64,.int .i64,.sl (a1E),.int .i64,.int .i64,.int .i64,.int .i64,.int .i64,.cpx .f64,.int .i64,.cpx .f32,.int .i64,.sl (S97),.sl (.str)]),(1,.box [.sl (.flt .f32),.sl (.int .i64),.sl (.slice (.flt .f32)),.sl (a0S),.sl (.int .i64),.sl (S68),.int .i64,.int .i64,.int .i64,.int .i64,.sl (a1E),.int .i64,.int .i64,.int .i64,.int .i64,.int .i64,.cpx .f64,.int .i64,.cpx .f32,.int .i64,.sl (S97),.sl (.str)])],2,0⟩
abbrev e4s:Type:=((Unit×(Unit×(Int×(Int×Unit))))×(((List (Den (.flt .f32)))×((List (Den (.int .i64)))×((List (Den (.slice (.flt .f32))))×((List (Den (a0S)))×((List (Den (.int .i64)))×((List (Den (S68)))×(Int×(Int×(Int×(Int×((List (Den (a1E)))×(Int×(Int×(Int×(Int×(Int×((Nat×Nat)×(Int×((Nat×Nat)×(Int×((List (Den (S97)))×((List (Den (.str)))×Unit))))))))))))))))))))))×(((List (Den (.flt .f32)))×((List (Den (.int .i64)))×((List (Den (.slice (.flt .f32))))×((List (Den (a0S)))×((List (Den (.int .i64)))×((List (Den (S68)))×(Int×(Int×(Int×(Int×((List (Den (a1E)))×(Int×(Int×(Int×(Int×(Int×((Nat×Nat)×(Int×((Nat×Nat)×(Int×((List (Den (S97)))×((List (Den (.str)))×Unit))))))))))))))))))))))×Unit)))
def d2Y:ShS:=⟨[(3,.one (.ptr 0 0)),(5,.one (.ptr 1 0)),(7,.one (.int .i64)),(8,.one (.int .i64))],[(0,.box [.sl (.flt .f32),.sl (.int .i64),.sl (.slice (.flt .f32)),.sl (a0S),.sl (.int .i64),.sl (S68),.int .i64,.int .i64,.int .i64,.int .i64,.sl (a1E),.int .i64,.int .i64,.int .i64,.int .i64,.int .i64,.cpx .f64,.int .i64,.cpx .f32,.int .i64,.sl (S97),.sl (.str)]),(1,.box [.sl (.flt .f32),.sl (.int .i64),.sl (.slice (.flt .f32)),.sl (a0S),.sl (.int .i64),.sl (S68),.int .i64,.int .i64,.int .i64,.int .i64,.sl (a1E),.int .i64,.int .i64,.int .i64,.int .i64,.int .i64,.cpx .f64,.int .i64,.cpx .f32,.int .i64,.sl (S97),.sl (.str)])],2,0⟩
abbrev e5x:Type:=((Bool×Unit)×Unit)
def d2Z:ShS:=⟨[(2,.one (.bool))],[],0,0⟩
noncomputable def Γ4 (k8 g8 k9 g9 k10 g10 k16 g16 k17 g17 kl8 xl8 tl8 yl8) :=a0t tab eqs [(8,a0a A8 R8 k8 g8),(9,a0a A9 R9 k9 g9),(10,a0a A10 R10 k10 g10),(16,a0a A16 R16 k16 g16),(17,a0a A17 R17 k17 g17)] 80 [.tmp 2] [] [] [(8,a1U [3,5,7,8,9] [] 0 [3,5,7,8] [] d7Q d2Y d2Z kl8 tl8 xl8 yl8)] [] []
noncomputable def e9E:Code:=(a0u (a0e Tryz.f4)).getD 0 .skip
def e9F (k8:KA A8) (g8:GA A8 R8) (k9:KA A9) (g9:GA A9 R9) (k10:KA A10) (g10:GA A10 R10) (k16:KA A16) (g16:GA A16 R16) (k17:KA A17) (g17:GA A17 R17) (f:c0x->Option (e4s⊕e5x)) (v:c0x):Option (e4s⊕e5x):=
 let w0:=(v.1.2.2.2.2.1<(↑(List.length v.2.2.1.2.2.2.2.2.2.2.2.2.2.2.2.2.2.2.2.2.2.2.2.2.1):Int))
 bif (decide w0)then
 bif (decide (0<=v.1.2.2.2.2.1)&&decide w0)then
 let v0:=(List.getD v.2.2.1.2.2.2.2.2.2.2.2.2.2.2.2.2.2.2.2.2.2.2.2.2.1 (Int.toNat v.1.2.2.2.2.1) (zero Ty.str))
 bif (k16 (v0,()))then
 let v2:=(g16 (v0,()))
 let w1:=(↑(List.length v2.1):Int)
 bif (w1==2)then
 bif (decide (0<=0)&&decide (0<w1))then
 bif (a2w (List.getD v2.1 (Int.toNat 0) (zero Ty.str)) { data:=#[103,111] })then
 bif (decide (0<=1)&&decide (1<w1))then
 let v4:=(List.getD v2.1 (Int.toNat 1) (zero Ty.str))
 bif (k17 (v4,()))then
 let v6:=(g17 (v4,()))
 bif (!v6.2.1)then
 some (Sum.inr (((false,()),())))
 else
 f ((((),(),(IntKind.wrap .i64 (v.1.2.2.1+v6.1)),(IntKind.wrap .i64 (v.1.2.2.2.1+1)),(IntKind.wrap .i64 (v.1.2.2.2.2.1+1)),()),v.2))
 else
 none
 else
 none
 else
 f ((((),(),v.1.2.2.1,v.1.2.2.2.1,(IntKind.wrap .i64 (v.1.2.2.2.2.1+1)),()),v.2))
 else
 none
 else
 f ((((),(),v.1.2.2.1,v.1.2.2.2.1,(IntKind.wrap .i64 (v.1.2.2.2.2.1+1)),()),v.2))
 else
 none
 else
 none
 else
 some (Sum.inl ((((),(),v.1.2.2.1,v.1.2.2.2.1,()),v.2)))
theorem e9G (k8 g8 k9 g9 k10 g10 k16 g16 k17 g17 kl8 xl8 tl8 yl8 f v) :EBk (Γ4 k8 g8 k9 g9 k10 g10 k16 g16 k17 g17 kl8 xl8 tl8 yl8) e9E (a0B [3,5,7,8,9] [] 0 [3,5,7,8] [] (atS d7Q f) (a5J d2Y d2Z)) (mkS d7Q v)=e9F k8 g8 k9 g9 k10 g10 k16 g16 k17 g17 f v:=by kernel_rfl
def f2s (v:c0x):Nat:=v.1.2.2.1.natAbs+v.1.2.2.2.1.natAbs+v.1.2.2.2.2.1.natAbs+v.2.1.1.length+v.2.1.2.1.length+v.2.1.2.2.1.length+v.2.1.2.2.2.1.length+v.2.1.2.2.2.2.1.length+v.2.1.2.2.2.2.2.1.length+v.2.1.2.2.2.2.2.2.1.natAbs+v.2.1.2.2.2.2.2.2.2.1.natAbs+v.2.1.2.2.2.2.2.2.2.2.1.natAbs+v.2.1.2.2.2.2.2.2.2.2.2.1.natAbs+v.2.1.2.2.2.2.2.2.2.2.2.2.1.length+v.2.1.2.2.2.2.2.2.2.2.2.2.2.1.natAbs+v.2.1.2.2.2.2.2.2.2.2.2.2.2.2.1.natAbs+v.2.1.2.2.2.2.2.2.2.2.2.2.2.2.2.1.natAbs+v.2.1.2.2.2.2.2.2.2.2.2.2.2.2.2.2.1.natAbs+v.2.1.2.2.2.2.2.2.2.2.2.2.2.2.2.2.2.1.natAbs+v.2.1.2.2.2.2.2.2.2.2.2.2.2.2.2.2.2.2.2.1.natAbs+v.2.1.2.2.2.2.2.2.2.2.2.2.2.2.2.2.2.2.2.2.2.1.natAbs+v.2.1.2.2.2.2.2.2.2.2.2.2.2.2.2.2.2.2.2.2.2.2.1.length+v.2.1.2.2.2.2.2.2.2.2.2.2.2.2.2.2.2.2.2.2.2.2.2.1.length+v.2.2.1.1.length+v.2.2.1.2.1.length+v.2.2.1.2.2.1.length+v.2.2.1.2.2.2.1.length+v.2.2.1.2.2.2.2.1.length+v.2.2.1.2.2.2.2.2.1.length+v.2.2.1.2.2.2.2.2.2.1.natAbs+v.2.2.1.2.2.2.2.2.2.2.1.natAbs+v.2.2.1.2.2.2.2.2.2.2.2.1.natAbs+v.2.2.1.2.2.2.2.2.2.2.2.2.1.natAbs+v.2.2.1.2.2.2.2.2.2.2.2.2.2.1.length+v.2.2.1.2.2.2.2.2.2.2.2.2.2.2.1.natAbs+v.2.2.1.2.2.2.2.2.2.2.2.2.2.2.2.1.natAbs+v.2.2.1.2.2.2.2.2.2.2.2.2.2.2.2.2.1.natAbs+v.2.2.1.2.2.2.2.2.2.2.2.2.2.2.2.2.2.1.natAbs+v.2.2.1.2.2.2.2.2.2.2.2.2.2.2.2.2.2.2.1.natAbs+v.2.2.1.2.2.2.2.2.2.2.2.2.2.2.2.2.2.2.2.2.1.natAbs+v.2.2.1.2.2.2.2.2.2.2.2.2.2.2.2.2.2.2.2.2.2.2.1.natAbs+v.2.2.1.2.2.2.2.2.2.2.2.2.2.2.2.2.2.2.2.2.2.2.2.1.length+v.2.2.1.2.2.2.2.2.2.2.2.2.2.2.2.2.2.2.2.2.2.2.2.2.1.length+1000
def e9H (v:c0x):Option (e4s⊕e5x):=a1u (e9F K8 G8 K9 G9 K10 G10 K16 G16 K17 G17) (f2s v) v
def c2B (v:c0x):Bool:=(e9H v).isSome
def c2C (v:c0x):Bool:=isR (e9H v)
def c2D (v:c0x):e4s:=xOf (((),((),(0,(0,())))),(([],([],([],([],([],([],(0,(0,(0,(0,([],(0,(0,(0,(0,(0,((0,0),(0,((0,0),(0,([],([],())))))))))))))))))))))),(([],([],([],([],([],([],(0,(0,(0,(0,([],(0,(0,(0,(0,(0,((0,0),(0,((0,0),(0,([],([],())))))))))))))))))))))),()))) (e9H v)
def d7R (v:c0x):e5x:=yOf ((false,()),()) (e9H v)
def r4 (k8:KA A8) (g8:GA A8 R8) (k9:KA A9) (g9:GA A9 R9) (k10:KA A10) (g10:GA A10 R10) (k16:KA A16) (g16:GA A16 R16) (k17:KA A17) (g17:GA A17 R17) (kl8:c0x->Bool) (xl8:c0x->e4s) (tl8:c0x->Bool) (yl8:c0x->e5x) (x:Den A4):Option (Den R4):=
 bif (k8 x)then
 bif (g8 x).1 then
 some ((true,()))
 else
 bif (k9 x)then
 let v3:=(g9 x)
 bif (k10 v3)then
 let v5:=(g10 v3)
 let w0:=(((),(),0,0,0,()),(v3.1.1.1.1,v3.1.1.1.2.1,v3.1.1.1.2.2.1,v3.1.1.2.1.1,v3.1.1.2.1.2.1,v3.1.1.2.2.1,v3.1.1.2.2.2.1.1.1.1,v3.1.1.2.2.2.1.1.1.2.1,v3.1.1.2.2.2.1.1.2.1.1,v3.1.1.2.2.2.1.1.2.1.2.1,v3.1.1.2.2.2.1.2.1,v3.1.1.2.2.2.1.2.2.1.1.1,v3.1.1.2.2.2.1.2.2.1.1.2.1,v3.1.1.2.2.2.1.2.2.1.2.1.1,v3.1.1.2.2.2.1.2.2.1.2.1.2.1,v3.1.2),(v5.1.1.1.1,v5.1.1.1.2.1,v5.1.1.1.2.2.1,v5.1.1.2.1.1,v5.1.1.2.1.2.1,v5.1.1.2.2.1,v5.1.1.2.2.2.1.1.1.1,v5.1.1.2.2.2.1.1.1.2.1,v5.1.1.2.2.2.1.1.2.1.1,v5.1.1.2.2.2.1.1.2.1.2.1,v5.1.1.2.2.2.1.2.1,v5.1.1.2.2.2.1.2.2.1.1.1,v5.1.1.2.2.2.1.2.2.1.1.2.1,v5.1.1.2.2.2.1.2.2.1.2.1.1,v5.1.1.2.2.2.1.2.2.1.2.1.2.1,v5.1.2),())
 bif (kl8 w0)then
 bif (tl8 w0)then
 some (yl8 w0).1
 else
 let v8:=(xl8 w0)
 bif (v8.2.2.1.2.2.2.2.2.2.2.2.2.2.2.2.2.2.2.1==(IntKind.wrap .i64 (v8.2.1.2.2.2.2.2.2.2.2.2.2.2.2.2.2.2.1+v8.1.2.2.1)))then
 some (((↑(List.length v8.2.2.1.2.2.2.2.2.2.2.2.2.2.2.2.2.2.2.2.2.2.2.2.1):Int)==v8.1.2.2.2.1,()))
 else
 some ((false,()))
 else
 none
 else
 none
 else
 none
 else
 none
theorem g1p:a1y Tryz.prog (Γ4 K8 G8 K9 G9 K10 G10 K16 G16 K17 G17 c2B c2D c2C d7R):=a0j mixed a0l a0k (.cons g0j (.cons g1o (.cons f8i (.cons e8R (.cons e8f .nil)))))
theorem is4:a6i Tryz.prog 4 (Γ4 K8 G8 K9 G9 K10 G10 K16 G16 K17 G17 c2B c2D c2C d7R) (a0e Tryz.f4):=a0O Tryz.func4 rfl rfl rfl (by kernel_rfl) (a0D (l:=[e9E]) (by kernel_rfl) (.cons (a0r rfl (a0x (sh:=d7Q) (shX:=d2Y) (shR:=d2Z) (fun f v=>e9G K8 G8 K9 G9 K10 G10 K16 G16 K17 G17 c2B c2D c2C d7R f v) f2s (((),((),(0,(0,())))),(([],([],([],([],([],([],(0,(0,(0,(0,([],(0,(0,(0,(0,(0,((0,0),(0,((0,0),(0,([],([],())))))))))))))))))))))),(([],([],([],([],([],([],(0,(0,(0,(0,([],(0,(0,(0,(0,(0,((0,0),(0,((0,0),(0,([],([],())))))))))))))))))))))),()))) ((false,()),()))) (.nil)))
noncomputable def N31 (p75:KI I75) (Q75:QI I75 O75) (e75:Nonempty (Ch I75 O75 p75 Q75)) (a4f:KI a3u) (a6c:QI a3u a4e) (b6N:Nonempty (Ch a3u a4e a4f a6c)) (p79:KI I79) (Q79:QI I79 O79) (e79:Nonempty (Ch I79 O79 p79 Q79)):a9j:=mkN [(75,a3p true I75 O75 p75 Q75 e75),(78,a3p true a3u a4e a4f a6c b6N),(79,a3p true I79 O79 p79 Q79 e79)] []
noncomputable def f9m (k73:KI I73) (g73:GI I73 O73) (k74:KI I74) (g74:GI I74 O74) (k75:KI I75) (g75:GI I75 O75) (k76:KI I76) (g76:GI I76 O76) (k77:KI I77) (g77:GI I77 O77) (k2078:KI a3u) (g2078:GI a3u a4e) (k79:KI I79) (g79:GI I79 O79) (p75:KI I75) (Q75:QI I75 O75) (e75:Nonempty (Ch I75 O75 p75 Q75)) (a4f:KI a3u) (a6c:QI a3u a4e) (b6N:Nonempty (Ch a3u a4e a4f a6c)) (p79:KI I79) (Q79:QI I79 O79) (e79:Nonempty (Ch I79 O79 p79 Q79)) (h:O31.den->Option Unit) (x:I31.den):Option Unit:=
 bif (k73 (((),()),x.2))then
 let v1:=(g73 (((),()),x.2))
 bif (k74 (((),()),v1.2))then
 a3n fun(c75_6:Ch I75 O75 p75 Q75)=>
 let v3:=(g74 (((),()),v1.2))
 bif (p75 (((),()),v3.2.1,()))then
 let v5:=(c75_6.val (((),()),v3.2.1,()))
 bif (k76 (((),()),v5.2.1,()))then
 let w0:=(↑(List.length v5.2.2.1):Int)
 bif (decide (w0>0))then
 let v7:=(g76 (((),()),v5.2.1,()))
 bif (k77 (((),2,()),v7.2))then
 let v9:=(g77 (((),2,()),v7.2))
 bif v9.1.1 then
 bif (decide (0<=0)&&decide (0<w0))then
 let v10:=(List.getD v5.2.2.1 (Int.toNat 0) (zero S68))
 let v11:=(List.set v5.2.2.1 (Int.toNat 0) (v10.1,0,v10.2.2))
 bif (decide (0<=0)&&decide (0<(↑(List.length v11):Int)))then
 let v12:=(List.getD v11 (Int.toNat 0) (zero S68))
 let v13:=(List.set v11 (Int.toNat 0) (v12.1,v12.2.1,1120403456,v12.2.2.2))
 bif (decide (0<=0)&&decide (0<(↑(List.length v13):Int)))then
 let v14:=(List.getD v13 (Int.toNat 0) (zero S68))
 let v15:=(List.set v13 (Int.toNat 0) (v14.1,v14.2.1,v14.2.2.1,0,v14.2.2.2.2))
 bif (decide (0<=0)&&decide (0<(↑(List.length v15):Int)))then
 bif (k77 (((),30,()),v9.2))then
 let v17:=(g77 (((),30,()),v9.2))
 bif v17.1.1 then
 a3n fun(c2078_30:Ch a3u a4e a4f a6c)=>
 bif (a4f (((),()),v17.2))then
 let v19:=(c2078_30.val (((),()),v17.2))
 bif (k77 (((),30,()),v19.2))then
 let v21:=(g77 (((),30,()),v19.2))
 bif v21.1.1 then
 a3n fun(c79_38:Ch I79 O79 p79 Q79)=>
 bif (p79 (((),()),v21.2))then
 let v23:=(c79_38.val (((),()),v21.2))
 let v24:=(List.getD v15 (Int.toNat 0) (zero S68))
 h ((((v19.1.1,v23.1.1,(List.set v15 (Int.toNat 0) (v24.1,v24.2.1,v24.2.2.1,v24.2.2.2.1,180,())),v7.1),()),v23.2))
 else
 none
 else
 let v22:=(List.getD v15 (Int.toNat 0) (zero S68))
 h ((((v19.1.1,v3.2.2,(List.set v15 (Int.toNat 0) (v22.1,v22.2.1,v22.2.2.1,v22.2.2.2.1,180,())),v7.1),()),v21.2))
 else
 none
 else
 none
 else
 bif (k77 (((),30,()),v17.2))then
 let v19:=(g77 (((),30,()),v17.2))
 bif v19.1.1 then
 a3n fun(c79_34:Ch I79 O79 p79 Q79)=>
 bif (p79 (((),()),v19.2))then
 let v21:=(c79_34.val (((),()),v19.2))
 let v22:=(List.getD v15 (Int.toNat 0) (zero S68))
 h ((((v1.1.1,v21.1.1,(List.set v15 (Int.toNat 0) (v22.1,v22.2.1,v22.2.2.1,v22.2.2.2.1,180,())),v7.1),()),v21.2))
 else
 none
 else
 let v20:=(List.getD v15 (Int.toNat 0) (zero S68))
 h ((((v1.1.1,v3.2.2,(List.set v15 (Int.toNat 0) (v20.1,v20.2.1,v20.2.2.1,v20.2.2.2.1,180,())),v7.1),()),v19.2))
 else
 none
 else
 none
 else
 none
 else
 none
 else
 none
 else
 none
 else
 bif (k77 (((),30,()),v9.2))then
 let v11:=(g77 (((),30,()),v9.2))
 bif v11.1.1 then
 a3n fun(c2078_22:Ch a3u a4e a4f a6c)=>
 bif (a4f (((),()),v11.2))then
 let v13:=(c2078_22.val (((),()),v11.2))
 bif (k77 (((),30,()),v13.2))then
 let v15:=(g77 (((),30,()),v13.2))
 bif v15.1.1 then
 a3n fun(c79_30:Ch I79 O79 p79 Q79)=>
 bif (p79 (((),()),v15.2))then
 let v17:=(c79_30.val (((),()),v15.2))
 h ((((v13.1.1,v17.1.1,v5.2.2.1,v7.1),()),v17.2))
 else
 none
 else
 h ((((v13.1.1,v3.2.2,v5.2.2.1,v7.1),()),v15.2))
 else
 none
 else
 none
 else
 bif (k77 (((),30,()),v11.2))then
 let v13:=(g77 (((),30,()),v11.2))
 bif v13.1.1 then
 a3n fun(c79_26:Ch I79 O79 p79 Q79)=>
 bif (p79 (((),()),v13.2))then
 let v15:=(c79_26.val (((),()),v13.2))
 h ((((v1.1.1,v15.1.1,v5.2.2.1,v7.1),()),v15.2))
 else
 none
 else
 h ((((v1.1.1,v3.2.2,v5.2.2.1,v7.1),()),v13.2))
 else
 none
 else
 none
 else
 none
 else
 let v7:=(g76 (((),()),v5.2.1,()))
 bif (k77 (((),30,()),v7.2))then
 let v9:=(g77 (((),30,()),v7.2))
 bif v9.1.1 then
 a3n fun(c2078_18:Ch a3u a4e a4f a6c)=>
 bif (a4f (((),()),v9.2))then
 let v11:=(c2078_18.val (((),()),v9.2))
 bif (k77 (((),30,()),v11.2))then
 let v13:=(g77 (((),30,()),v11.2))
 bif v13.1.1 then
 a3n fun(c79_26:Ch I79 O79 p79 Q79)=>
 bif (p79 (((),()),v13.2))then
 let v15:=(c79_26.val (((),()),v13.2))
 h ((((v11.1.1,v15.1.1,v5.2.2.1,v7.1),()),v15.2))
 else
 none
 else
 h ((((v11.1.1,v3.2.2,v5.2.2.1,v7.1),()),v13.2))
 else
 none
 else
 none
 else
 bif (k77 (((),30,()),v9.2))then
 let v11:=(g77 (((),30,()),v9.2))
 bif v11.1.1 then
 a3n fun(c79_22:Ch I79 O79 p79 Q79)=>
 bif (p79 (((),()),v11.2))then
 let v13:=(c79_22.val (((),()),v11.2))
 h ((((v1.1.1,v13.1.1,v5.2.2.1,v7.1),()),v13.2))
 else
 none
 else
 h ((((v1.1.1,v3.2.2,v5.2.2.1,v7.1),()),v11.2))
 else
 none
 else
 none
 else
 none
 else
 none
 else
 none
 else
 none
theorem f8k (k73 g73 k74 g74 k75 g75 k76 g76 k77 g77 k2078 g2078 k79 g79 p75 Q75 e75 a4f a6c b6N p79 Q79 e79 h x) :a3o (f2r k73 g73 k74 g74 k75 g75 k76 g76 k77 g77 k2078 g2078 k79 g79) (N31 p75 Q75 e75 a4f a6c b6N p79 Q79 e79) (a0e Tryz.f31) I31 O31 h x=f9m k73 g73 k74 g74 k75 g75 k76 g76 k77 g77 k2078 g2078 k79 g79 p75 Q75 e75 a4f a6c b6N p79 Q79 e79 h x:=by kernel_rfl
noncomputable def N9 (p31:KI I31) (Q31:QI I31 O31) (e31:Nonempty (Ch I31 O31 p31 Q31)):a9j:=mkN [(31,a3p true I31 O31 p31 Q31 e31)] []
noncomputable def rN9 (k30:KI I30) (g30:GI I30 O30) (k31:KI I31) (g31:GI I31 O31) (k33:KI I33) (g33:GI I33 O33) (k34:KI I34) (g34:GI I34 O34) (k32:KI I32) (g32:GI I32 O32) (k35:KI I35) (g35:GI I35 O35) (p31:KI I31) (Q31:QI I31 O31) (e31:Nonempty (Ch I31 O31 p31 Q31)) (h:Den R9->Option Unit) (x:Den A9):Option Unit:=
 bif (k30 (x,()))then
 a3n fun(c31_4:Ch I31 O31 p31 Q31)=>
 let v1:=(g30 (x,()))
 bif (p31 (((),()),v1.2))then
 let v3:=(c31_4.val (((),()),v1.2))
 bif (k33 (((),60,()),v3.2))then
 let v5:=(g33 (((),60,()),v3.2))
 bif (k34 (((),3000,()),v5.2))then
 let v7:=(g34 (((),3000,()),v5.2))
 bif (k32 ((v3.1.1,v5.1.1,v7.1),()))then
 bif (k35 (((),v3.1),v7.2))then
 let v10:=(g32 ((v3.1.1,v5.1.1,v7.1),()))
 h (((((v10.2.1,v10.2.2.1,v10.2.2.2.1,()),(v10.2.2.2.2.1,v10.2.2.2.2.2.1,()),v10.2.2.2.2.2.2.1,(((v10.1.1.2.2.2.2.2.2.1,v10.1.1.2.2.2.2.2.2.2.1,()),(v10.1.1.2.2.2.2.2.2.2.2.1,v10.1.1.2.2.2.2.2.2.2.2.2.1,()),()),v10.2.2.2.2.2.2.2.1,((v10.1.1.2.2.2.2.2.2.2.2.2.2.2.1,v10.1.1.2.2.2.2.2.2.2.2.2.2.2.2.1,()),(v10.1.1.2.2.2.2.2.2.2.2.2.2.2.2.2.1,v10.1.1.2.2.2.2.2.2.2.2.2.2.2.2.2.2.1,()),()),()),()),v10.1.1.2.2.2.2.2.2.2.2.2.2.2.2.2.2.2),(g35 (((),v3.1),v7.2)).2.2))
 else
 none
 else
 none
 else
 none
 else
 none
 else
 none
 else
 none
theorem g1q (k30 g30 k31 g31 k33 g33 k34 g34 k32 g32 k35 g35 p31 Q31 e31 h x) :a5Y (Γ9 k30 g30 k31 g31 k33 g33 k34 g34 k32 g32 k35 g35) (N9 p31 Q31 e31) (a0e Tryz.f9) (a5Z R9 h) (a0V A9 x) []=rN9 k30 g30 k31 g31 k33 g33 k34 g34 k32 g32 k35 g35 p31 Q31 e31 h x:=by kernel_rfl
noncomputable def N4 (pT9:KA A9) (QT9:Den A9->Den R9->Prop) (eT9:Nonempty (ChT A9 R9 pT9 QT9)):a9j:=mkN [(9,c6i A9 R9 pT9 QT9 eT9)] []
noncomputable def rN4 (k8:KA A8) (g8:GA A8 R8) (k9:KA A9) (g9:GA A9 R9) (k10:KA A10) (g10:GA A10 R10) (k16:KA A16) (g16:GA A16 R16) (k17:KA A17) (g17:GA A17 R17) (kl8:c0x->Bool) (xl8:c0x->e4s) (tl8:c0x->Bool) (yl8:c0x->e5x) (pT9:KA A9) (QT9:Den A9->Den R9->Prop) (eT9:Nonempty (ChT A9 R9 pT9 QT9)) (h:Den R4->Option Unit) (x:Den A4):Option Unit:=
 bif (k8 x)then
 bif (g8 x).1 then
 h ((true,()))
 else
 a3n fun(cT9_6:ChT A9 R9 pT9 QT9)=>
 bif (pT9 x)then
 let v3:=(cT9_6.val x)
 bif (k10 v3)then
 let v5:=(g10 v3)
 let w0:=(((),(),0,0,0,()),(v3.1.1.1.1,v3.1.1.1.2.1,v3.1.1.1.2.2.1,v3.1.1.2.1.1,v3.1.1.2.1.2.1,v3.1.1.2.2.1,v3.1.1.2.2.2.1.1.1.1,v3.1.1.2.2.2.1.1.1.2.1,v3.1.1.2.2.2.1.1.2.1.1,v3.1.1.2.2.2.1.1.2.1.2.1,v3.1.1.2.2.2.1.2.1,v3.1.1.2.2.2.1.2.2.1.1.1,v3.1.1.2.2.2.1.2.2.1.1.2.1,v3.1.1.2.2.2.1.2.2.1.2.1.1,v3.1.1.2.2.2.1.2.2.1.2.1.2.1,v3.1.2),(v5.1.1.1.1,v5.1.1.1.2.1,v5.1.1.1.2.2.1,v5.1.1.2.1.1,v5.1.1.2.1.2.1,v5.1.1.2.2.1,v5.1.1.2.2.2.1.1.1.1,v5.1.1.2.2.2.1.1.1.2.1,v5.1.1.2.2.2.1.1.2.1.1,v5.1.1.2.2.2.1.1.2.1.2.1,v5.1.1.2.2.2.1.2.1,v5.1.1.2.2.2.1.2.2.1.1.1,v5.1.1.2.2.2.1.2.2.1.1.2.1,v5.1.1.2.2.2.1.2.2.1.2.1.1,v5.1.1.2.2.2.1.2.2.1.2.1.2.1,v5.1.2),())
 bif (kl8 w0)then
 bif (tl8 w0)then
 h (yl8 w0).1
 else
 let v8:=(xl8 w0)
 bif (v8.2.2.1.2.2.2.2.2.2.2.2.2.2.2.2.2.2.2.1==(IntKind.wrap .i64 (v8.2.1.2.2.2.2.2.2.2.2.2.2.2.2.2.2.2.1+v8.1.2.2.1)))then
 h (((↑(List.length v8.2.2.1.2.2.2.2.2.2.2.2.2.2.2.2.2.2.2.2.2.2.2.2.1):Int)==v8.1.2.2.2.1,()))
 else
 h ((false,()))
 else
 none
 else
 none
 else
 none
 else
 none
theorem g1r (k8 g8 k9 g9 k10 g10 k16 g16 k17 g17 kl8 xl8 tl8 yl8 pT9 QT9 eT9 h x) :a5Y (Γ4 k8 g8 k9 g9 k10 g10 k16 g16 k17 g17 kl8 xl8 tl8 yl8) (N4 pT9 QT9 eT9) (a0e Tryz.f4) (a5Z R4 h) (a0V A4 x) []=rN4 k8 g8 k9 g9 k10 g10 k16 g16 k17 g17 kl8 xl8 tl8 yl8 pT9 QT9 eT9 h x:=by kernel_rfl
def a6e (b:Den S40):Prop:=e0u b.1 /\ a7C b.2.1 /\ (a0T b.2.2.1 /\ b.2.2.1.length<=13) /\ b.2.2.2.1.2.1.length<=22
def p31 (x:I31.den):Bool:=d7r x.2.1
def Q31 (x:I31.den) (y:O31.den):Prop:=a0g y.2.1 /\ a6e y.1.1
theorem d3a:a7C ([],[],()):=⟨Nat.zero_le _,Nat.zero_le _⟩
theorem d7S:e0u ([],[],[],()):=⟨Nat.zero_le _,Nat.zero_le _,Nat.zero_le _,fun _ h=>by cases h⟩
theorem e31:Nonempty (Ch I31 O31 p31 Q31):=⟨⟨fun _=>((zero S40,()),(e0q,())),fun _ _=>⟨a6K,d7S,d3a,⟨(fun _ h=>by cases h),Nat.zero_le _⟩,Nat.zero_le _⟩⟩⟩
noncomputable def d7T (h:O31.den->Option Unit) (c:O77.den) (P:Den S27) (T:Den S30) (S:List (Den S68)) (C:Den S38×Unit):Option Unit:=
 bif c.1.1 then
  a3n fun(b:Ch I79 O79 p79 Q79)=>
   bif p79 (((),()),c.2)then h (((P,(b.val (((),()),c.2)).1.1,S,C),()),(b.val (((),()),c.2)).2)else none
 else h (((P,T,S,C),()),c.2)
noncomputable def e0K (h:O31.den->Option Unit) (c:(List Int×Int×Int×Unit)×Unit) (P:Den S27) (T:Den S30) (S:List (Den S68)) (C:Den S38×Unit):Option Unit :=
 bif K77 (((),30,()),c)then
  bif (G77 (((),30,()),c)).1.1 then
   a3n fun(a:Ch a3u a4e a4f a6c)=>
    bif a4f (((),()),(G77 (((),30,()),c)).2)then
     bif K77 (((),30,()),(a.val (((),()),(G77 (((),30,()),c)).2)).2)then
      d7T h (G77 (((),30,()),(a.val (((),()),(G77 (((),30,()),c)).2)).2)) (a.val (((),()),(G77 (((),30,()),c)).2)).1.1 T S C
     else none
    else none
  else
   bif K77 (((),30,()),(G77 (((),30,()),c)).2)then
    d7T h (G77 (((),30,()),(G77 (((),30,()),c)).2)) P T S C
   else none
 else none
theorem c5p {h:O31.den->Option Unit} {c:O77.den} {P:Den S27} {T:Den S30} {S:List (Den S68)} {C:Den S38×Unit} (hc:a0g c.2.1) (hP:e0u P) (hT:a7C T) (hS:a0T S /\ S.length<=13) (hC:C.1.2.1.length<=22)
 (hh:∀y:O31.den,a0g y.2.1 /\ a6e y.1.1->h y=some ()):d7T h c P T S C=some ():=by
 unfold d7T
 refine a1Z (fun _=>?_) (fun _=>hh _ ⟨hc,hP,hT,hS,hC⟩)
 haveI:=e79
 refine a0A fun b=>?_
 have hp:p79 (((),()),c.2)=true:=a1s.2 hc
 obtain⟨q1,q2⟩:=b.2 _ hp
 exact a0H hp (hh _ ⟨q1,hP,q2,hS,hC⟩)
theorem b1t {h:O31.den->Option Unit} {c:(List Int×Int×Int×Unit)×Unit} {P:Den S27} {T:Den S30} {S:List (Den S68)} {C:Den S38×Unit} (hc:a0g c.1) (hP:e0u P) (hT:a7C T) (hS:a0T S /\ S.length<=13) (hC:C.1.2.1.length<=22)
 (hh:∀y:O31.den,a0g y.2.1 /\ a6e y.1.1->h y=some ()):e0K h c P T S C=some ():=by
 unfold e0K
 refine a0H (a2b _ hc) ?_
 have c1:a0g (G77 (((),30,()),c)).2.1:=a0f _ hc
 generalize G77 (((),30,()),c)=A at *
 refine a1Z (fun _=>?_) (fun _=>?_)
 ·haveI:=b6N
  refine a0A fun a=>?_
  have hp:a4f (((),()),A.2)=true:=a1s.2 c1
  obtain⟨q1,q2⟩:=a.2 _ hp
  refine a0H hp (a0H (a2b _ q1) (c5p (a0f _ q1) q2 hT hS hC hh))
 ·exact a0H (a2b _ c1) (c5p (a0f _ c1) hP hT hS hC hh)
theorem c0w.m {ws:List Nat} {as_:List Int} {sp:List (List Nat)} (h:c0w ws as_ sp):e0u (ws,as_,sp,()):=by
 obtain⟨h1,h2,h3,h4,h5,h6,h7⟩:=h
 exact⟨by show ws.length<=14;omega,h2,by show sp.length<=14;omega,fun r hr=>by rw[h7 r hr];exact h2⟩
set_option maxRecDepth 100000 in
theorem f8l:a2M Tryz.prog 31 (a3p true I31 O31 p31 Q31 e31):=b7U e9D (N:=N31 p75 Q75 e75 a4f a6c b6N p79 Q79 e79) (a2N ⟨f7I,e3u,f7L,trivial⟩) f9k a1w fun x hx k hk=>by
 have hk:∀y:O31.den,a0g y.2.1 /\ a6e y.1.1->k y=some ():=hk
 have h:a0g x.2.1:=a1s.1 hx
 refine Eq.trans (f8k _ _ _ _ _ _ _ _ _ _ _ _ _ _ _ _ _ _ _ _ _ _ _ k x) ?_
 unfold f9m
 dsimp only
 refine a0H (e9B _ h) ?_
 obtain⟨c1,q1⟩:=e9C (((),()),x.snd) h
 generalize G73 (((),()),x.snd)=v1 at *
 refine a0H (e0s _ c1) ?_
 obtain⟨c3,q3,_,q4⟩:=e0t (((),()),v1.snd) c1
 generalize G74 (((),()),v1.snd)=v3 at *
 have hT:a7C v3.snd.snd:=⟨by have:=q3.2;show v3.2.2.1.length<=21;omega,by show v3.2.2.2.1.length<=6;omega⟩
 have hP:e0u v1.fst.fst:=q1.m
 haveI:=e75
 refine a0A fun g=>?_
 have hp:p75 (((),()),v3.snd.fst,())=true:=a1s.2 c3
 obtain⟨c5,gs,gl⟩:=g.2 _ hp
 refine a0H hp ?_
 generalize g.val (((),()),v3.snd.fst,())=v5 at *
 refine a0H (e9a _ c5) ?_
 obtain⟨c7,q7⟩:=a2T _ (c0f (((),()),v5.snd.fst,()) c5)
 change a0g (G76 _).2.1 at c7
 change (G76 _).1.1.2.1.length<=22 at q7
 generalize G76 (((),()),v5.snd.fst,())=v7 at *
 refine a1Z (fun hl=>?_) (fun _=>?_)
 ·have hl:0<List.length v5.snd.snd.fst:=by
   have:=of_decide_eq_true hl
   omega
  have hat:∀(l:List (Den S68)),a0T l->c2j (List.getD l (Int.toNat 0) (zero S68)):=fun l h=>h.at _
  have ix:∀n:Nat,0<n->(decide (0<=0)&&decide (0<((n:Nat):Int)))=true:=fun n h=>by simp;omega
  refine a0H (a2b _ c7) ?_
  have c9:a0g (G77 (((),2,()),v7.snd)).2.1:=a0f _ c7
  generalize G77 (((),2,()),v7.snd)=v9 at *
  refine a1Z (fun _=>?_) (fun _=>?_)
  ·have z0:I64 0:=a9H
   have z180:I64 180:=by unfold I64;decide
   have s1:a0T (List.set v5.snd.snd.fst (Int.toNat 0) ((List.getD v5.snd.snd.fst (Int.toNat 0) (zero S68)).fst,0,(List.getD v5.snd.snd.fst (Int.toNat 0) (zero S68)).snd.snd)):=gs.set (hat _ gs)
   refine a0H (ix _ hl) ?_
   generalize hA:List.set v5.snd.snd.fst (Int.toNat 0) ((List.getD v5.snd.snd.fst (Int.toNat 0) (zero S68)).fst,0,(List.getD v5.snd.snd.fst (Int.toNat 0) (zero S68)).snd.snd)=LA at *
   have lA:LA.length=v5.snd.snd.fst.length:=by rw[<- hA,List.length_set]
   refine a0H (ix _ (by omega)) ?_
   have s2:a0T (List.set LA (Int.toNat 0) ((List.getD LA (Int.toNat 0) (zero S68)).fst,(List.getD LA (Int.toNat 0) (zero S68)).snd.fst,1120403456,(List.getD LA (Int.toNat 0) (zero S68)).snd.snd.snd)):=s1.set (hat _ s1)
   generalize hB:List.set LA (Int.toNat 0) ((List.getD LA (Int.toNat 0) (zero S68)).fst,(List.getD LA (Int.toNat 0) (zero S68)).snd.fst,1120403456,(List.getD LA (Int.toNat 0) (zero S68)).snd.snd.snd)=LB at *
   have lB:LB.length=LA.length:=by rw[<- hB,List.length_set]
   refine a0H (ix _ (by omega)) ?_
   have s3:a0T (List.set LB (Int.toNat 0) ((List.getD LB (Int.toNat 0) (zero S68)).fst,(List.getD LB (Int.toNat 0) (zero S68)).snd.fst,(List.getD LB (Int.toNat 0) (zero S68)).snd.snd.fst,0,(List.getD LB (Int.toNat 0) (zero S68)).snd.snd.snd.snd)):=s2.set ⟨(hat _ s2).1,z0,(hat _ s2).2.2⟩
   generalize hC:List.set LB (Int.toNat 0) ((List.getD LB (Int.toNat 0) (zero S68)).fst,(List.getD LB (Int.toNat 0) (zero S68)).snd.fst,(List.getD LB (Int.toNat 0) (zero S68)).snd.snd.fst,0,(List.getD LB (Int.toNat 0) (zero S68)).snd.snd.snd.snd)=LC at *
   have lC:LC.length=LB.length:=by rw[<- hC,List.length_set]
   refine a0H (ix _ (by omega)) ?_
   have s4:a0T (List.set LC (Int.toNat 0) ((List.getD LC (Int.toNat 0) (zero S68)).fst,(List.getD LC (Int.toNat 0) (zero S68)).snd.fst,(List.getD LC (Int.toNat 0) (zero S68)).snd.snd.fst,(List.getD LC (Int.toNat 0) (zero S68)).snd.snd.snd.fst,180,())):=s3.set ⟨(hat _ s3).1,(hat _ s3).2.1,z180⟩
   exact b1t (h:=k) (c:=v9.snd) (P:=v1.fst.fst) (T:=v3.snd.snd) (C:=v7.fst) c9 hP hT ⟨s4,by rw[List.length_set];omega⟩ q7 hk
  ·exact b1t (h:=k) (c:=v9.snd) (P:=v1.fst.fst) (T:=v3.snd.snd) (S:=v5.snd.snd.fst) (C:=v7.fst) c9 hP hT ⟨gs,gl⟩ q7 hk
 ·exact b1t (h:=k) (c:=v7.snd) (P:=v1.fst.fst) (T:=v3.snd.snd) (S:=v5.snd.snd.fst) (C:=v7.fst) c7 hP hT ⟨gs,gl⟩ q7 hk
def bOf (l:List UInt8):ByteArray:=⟨l.toArray⟩
theorem a8G (a b:List UInt8):bOf a++bOf b=bOf (a++b):=by
 apply ByteArray.ext
 simp[bOf,ByteArray.data_append]
theorem a2G (a:List UInt8):(bOf a).size=a.length:=by simp[bOf,ByteArray.size]
def dig (u:Nat):List UInt8:=if u=0 then[]else Lib.decDigits u
def dg (u:Nat):UInt8:=UInt8.ofNat (48+u)
theorem c5q {u:Nat} (h:u≠0):dig u=dig (u/10)++[dg (u%10)]:=by
 unfold dig dg
 rw[if_neg h,Lib.decDigits]
 by_cases h1:u<10
 ·rw[dif_pos h1,if_pos (by omega),Nat.mod_eq_of_lt h1];rfl
 ·rw[dif_neg h1,if_neg (by omega)]
theorem c2E:∀(k u:Nat),u<10^k->(dig u).length<=k
 | 0,u,h=>by
   have:u=0:=by simpa using h
   subst this;exact Nat.le_refl 0
 | k+1,u,h=>by
   by_cases h0:u=0
   ·subst h0;exact Nat.zero_le _
   ·rw[c5q h0,List.length_append,List.length_singleton]
    have:=c2E k (u/10) (by rw[Nat.pow_succ]at h;omega)
    omega
theorem c5r (d:Nat) (h:d<10):a8L [IntKind.u8.wrap (IntKind.i64.wrap (48+(d:Int)))]=bOf [dg d]:=by
 have e:∀d:Fin 10,a8L [IntKind.u8.wrap (IntKind.i64.wrap (48+((d:Nat):Int)))]=bOf [dg d]:=by decide
 exact e ⟨d,h⟩
theorem e4t (d:Nat) (h:d<10):f0K ((d:Int),())=some (IntKind.u8.wrap (IntKind.i64.wrap (48+(d:Int))),()):=by
 unfold f0K f3P
 have:decide ((d:Int)<10)=true:=by simp;omega
 simp only[this,cond_true]
theorem d7U (n:Int) (b:Bool) (s:List UInt8) (hn:n.natAbs<=9223372036854775808) (hs:s.length+(dig n.natAbs).length<=1000):c3A ((n,b,bOf s,()),())=some ((b,bOf (dig n.natAbs++s),()),()):=by
 refine a0W (q:=c3z d9a d9b) (fun v=>∃(n:Int) (s:List UInt8),v=((n,b,bOf s,()),()) /\ n.natAbs<=9223372036854775808 /\ s.length+(dig n.natAbs).length<=1000)
  (fun v r=>∀(n:Int) (s:List UInt8),v=((n,b,bOf s,()),())->s.length+(dig n.natAbs).length<=1000->r=some ((b,bOf (dig n.natAbs++s),()),())) (fun v=>v.1.1.natAbs) ?_ _ _ ⟨n,s,rfl,hn,hs⟩ (by simp only[c9z];omega) n s rfl hs
 rintro v f ⟨n,s,rfl,hn,hs⟩ ih n' s' he hs'
 have he1:n=n':=congrArg (fun v=>v.1.1) he
 have he2:bOf s=bOf s':=congrArg (fun v=>v.1.2.2.1) he
 subst he1
 have he3:s=s':=by
  have:=congrArg (fun b=>b.data.toList) he2
  simpa[bOf]using this
 subst he3
 unfold c3z
 dsimp only
 by_cases h0:n=0
 ·subst h0
  simp[dig]
 ·have e0:(n != 0)=true:=by simpa using h0
  have hd:∀d:Nat,d<10->d9a ((d:Int),())=true /\ d9b ((d:Int),())=(IntKind.u8.wrap (IntKind.i64.wrap (48+(d:Int))),()):=fun d h=>by
   unfold d9a d9b
   rw[e4t d h]
   exact⟨rfl,rfl⟩
  have hm:n.natAbs%10<10:=Nat.mod_lt _ (by decide)
  have hstep:=c5q (u:=n.natAbs) (by omega)
  have hq:(Int.tdiv n 10).natAbs=n.natAbs/10:=by rw[Int.natAbs_tdiv];rfl
  have hw:IntKind.i64.wrap (Int.tdiv n 10)=Int.tdiv n 10:=by
   have h1:(Int.tdiv n 10).natAbs<=922337203685477580:=by rw[hq];omega
   rw[w64 (by omega) (by omega)]
  have hlen:(dig n.natAbs).length=(dig (n.natAbs/10)).length+1:=by rw[hstep,List.length_append,List.length_singleton]
  have fin:f ((Int.tdiv n 10,b,bOf ([dg (n.natAbs%10)]++s),()),())=some ((b,bOf (dig n.natAbs++s),()),()):=by
   have:=ih _ ⟨Int.tdiv n 10,[dg (n.natAbs%10)]++s,rfl,by rw[hq];omega,by rw[hq,List.length_append,List.length_singleton];omega⟩ (by show(Int.tdiv n 10).natAbs<n.natAbs;rw[hq];omega) (Int.tdiv n 10) ([dg (n.natAbs%10)]++s) rfl (by rw[hq,List.length_append,List.length_singleton];omega)
   rw[this,hq,<- List.append_assoc,<- hstep]
  have hsz:decide (ByteArray.size (bOf [dg (n.natAbs%10)])+ByteArray.size (bOf s)<=9223372036854775807)=true:=by
   rw[a2G,a2G,List.length_singleton]
   exact decide_eq_true (by omega)
  rw[e0,cond_true]
  by_cases hneg:Int.tmod n 10<0
  ·have e1:decide (Int.tmod n 10<0)=true:=decide_eq_true hneg
   have e2:IntKind.i64.wrap (0-Int.tmod n 10)=((n.natAbs%10:Nat):Int):=by
    have h1:(Int.tmod n 10).natAbs=n.natAbs%10:=by rw[Int.natAbs_tmod];rfl
    rw[w64 (by omega) (by omega)]
    omega
   simp only[e1,cond_true,e2,(hd _ hm).1,(hd _ hm).2]
   rw[show List.set (List.replicate 1 (zero (Ty.int IntKind.u8))) 0 (IntKind.u8.wrap (IntKind.i64.wrap (48+((n.natAbs%10:Nat):Int))))=[IntKind.u8.wrap (IntKind.i64.wrap (48+((n.natAbs%10:Nat):Int)))]from rfl,c5r _ hm,hsz,cond_true,hw,a8G]
   exact fin
  ·have e1:decide (Int.tmod n 10<0)=false:=decide_eq_false hneg
   have e2:Int.tmod n 10=((n.natAbs%10:Nat):Int):=by
    have h1:(Int.tmod n 10).natAbs=n.natAbs%10:=by rw[Int.natAbs_tmod];rfl
    omega
   simp only[e1,cond_false,e2,(hd _ hm).1,(hd _ hm).2,cond_true]
   rw[show List.set (List.replicate 1 (zero (Ty.int IntKind.u8))) 0 (IntKind.u8.wrap (IntKind.i64.wrap (48+((n.natAbs%10:Nat):Int))))=[IntKind.u8.wrap (IntKind.i64.wrap (48+((n.natAbs%10:Nat):Int)))]from rfl,c5r _ hm,hsz,cond_true,hw,a8G]
   exact fin
theorem c2F (n:Int) (hn:n.natAbs<=9223372036854775808):f0L (n,())=some (bOf (Lib.itoa n),()):=by
 have hd:(dig n.natAbs).length<=19:=c2E 19 _ (by omega)
 unfold f0L f3R
 dsimp only
 by_cases h0:n=0
 ·subst h0
  have:Lib.itoa 0=[48]:=by unfold Lib.itoa;rw[if_neg (by decide),Lib.decDigits,dif_pos (by decide)];rfl
  rw[this]
  rfl
 ·have e0:(n==0)=false:=by simpa using h0
  have hl:=d7U n (decide (n<0)) [] hn (by simp;omega)
  have hl':c3A ((n,decide (n<0),{ data:=#[] },()),())=some ((decide (n<0),bOf (dig n.natAbs++[]),()),()):=hl
  simp only[e0,cond_false,b4u,b4v,hl',Option.isSome_some,Option.getD_some,cond_true,List.append_nil]
  have hdig:dig n.natAbs=Lib.decDigits n.natAbs:=if_neg (by omega)
  by_cases hneg:n<0
  ·have e1:decide (n<0)=true:=decide_eq_true hneg
   have e2:decide (ByteArray.size { data:=#[45] }+ByteArray.size (bOf (dig n.natAbs))<=9223372036854775807)=true:=by
    rw[a2G]
    exact decide_eq_true (by show 1+_<=_;omega)
   simp only[e1,e2,cond_true]
   have:({ data:=#[45] }:ByteArray)=bOf [45]:=rfl
   rw[this,a8G,hdig]
   unfold Lib.itoa
   rw[if_pos hneg]
   rfl
  ·have e1:decide (n<0)=false:=decide_eq_false hneg
   simp only[e1,cond_false]
   unfold Lib.itoa
   rw[if_neg hneg,hdig,show n.natAbs=n.toNat by omega]
theorem a4E (n:Int) (hn:n.natAbs<=9223372036854775808):1<=(Lib.itoa n).length /\ (Lib.itoa n).length<=20:=by
 have hd:(dig n.natAbs).length<=19:=c2E 19 _ (by omega)
 have h1:∀u:Nat,1<=(Lib.decDigits u).length:=fun u=>by
  rw[Lib.decDigits]
  split<;>simp
 by_cases h0:n=0
 ·subst h0
  have:Lib.itoa 0=[48]:=by unfold Lib.itoa;rw[if_neg (by decide),Lib.decDigits,dif_pos (by decide)];rfl
  rw[this];decide
 ·have hdig:dig n.natAbs=Lib.decDigits n.natAbs:=if_neg (by omega)
  unfold Lib.itoa
  split
  ·rw[List.length_cons,<- hdig];omega
  ·rw[show n.toNat=n.natAbs by omega,<- hdig]
   have:=h1 n.natAbs
   rw[<- hdig]at this
   omega
theorem c2G (l:List UInt8) (k:Nat):ByteArray.extract (bOf l) k l.length=bOf (l.drop k):=by
 apply ByteArray.ext
 rw[ByteArray.data_extract]
 apply Array.ext'
 simp[bOf,ByteArray.size]
 exact List.take_of_length_le (by rw[List.length_drop];omega)
def e5y (n:Int):List UInt8:=
 if -1000000000<=n /\ n<=1000000000 then(if n<0 then[45]else[])++Lib.itoa ((n.natAbs/1000:Nat):Int)++[46]++(Lib.itoa ((1000+n.natAbs%1000:Nat):Int)).drop 1 else[]
theorem c5s (m:Nat) (sg:List UInt8) (hm:m<=1000000000) (hs:sg.length<=1) {k:Option (Den R83)} (h:k=some (bOf (sg++Lib.itoa ((m/1000:Nat):Int)++[46]++(Lib.itoa ((1000+m%1000:Nat):Int)).drop 1),())) :
 (bif c9A (((1000+m%1000:Nat):Int),())then
  bif c9A (((m/1000:Nat):Int),())then
   bif decide (ByteArray.size (bOf sg)+ByteArray.size (b1L (((m/1000:Nat):Int),())).1<=9223372036854775807)then
    bif decide (ByteArray.size (bOf sg++(b1L (((m/1000:Nat):Int),())).1)+ByteArray.size { data:=#[46] }<=9223372036854775807)then
     bif decide (0<=1)&&decide (1<=((ByteArray.size (b1L (((1000+m%1000:Nat):Int),())).1:Nat):Int))&&decide (((ByteArray.size (b1L (((1000+m%1000:Nat):Int),())).1:Nat):Int)<=((ByteArray.size (b1L (((1000+m%1000:Nat):Int),())).1:Nat):Int))then
      bif decide (ByteArray.size (bOf sg++(b1L (((m/1000:Nat):Int),())).1++{ data:=#[46] })+ByteArray.size (ByteArray.extract (b1L (((1000+m%1000:Nat):Int),())).1 (Int.toNat 1) (Int.toNat ((ByteArray.size (b1L (((1000+m%1000:Nat):Int),())).1:Nat):Int)))<=9223372036854775807)then
       some (bOf sg++(b1L (((m/1000:Nat):Int),())).1++{ data:=#[46] }++ByteArray.extract (b1L (((1000+m%1000:Nat):Int),())).1 (Int.toNat 1) (Int.toNat ((ByteArray.size (b1L (((1000+m%1000:Nat):Int),())).1:Nat):Int)),())
      else none
     else none
    else none
   else none
  else none
 else none:Option (Den R83))=k:=by
 have f1:=c2F ((1000+m%1000:Nat):Int) (by omega)
 have f2:=c2F ((m/1000:Nat):Int) (by omega)
 obtain⟨l1,u1⟩:=a4E ((1000+m%1000:Nat):Int) (by omega)
 obtain⟨l2,u2⟩:=a4E ((m/1000:Nat):Int) (by omega)
 have dot:({ data:=#[46] }:ByteArray)=bOf [46]:=rfl
 unfold c9A b1L
 rw[f1,f2,h,dot]
 generalize Lib.itoa ((1000+m%1000:Nat):Int)=A at *
 generalize Lib.itoa ((m/1000:Nat):Int)=B at *
 simp only[Option.isSome_some,Option.getD_some,cond_true,Int.toNat_natCast,show Int.toNat 1=1 from rfl,a2G,c2G,a8G,List.length_append,List.length_singleton,List.length_drop]
 have e1:decide (sg.length+B.length<=9223372036854775807)=true:=decide_eq_true (by omega)
 have e2:decide (sg.length+B.length+1<=9223372036854775807)=true:=decide_eq_true (by omega)
 have e3:(decide (0<=1)&&decide (1<=((A.length:Nat):Int))&&decide (((A.length:Nat):Int)<=((A.length:Nat):Int)))=true:=by simp;omega
 have e4:decide (sg.length+B.length+1+(A.length-1)<=9223372036854775807)=true:=decide_eq_true (by omega)
 simp only[e1,e2,e3,e4,cond_true]
theorem e9I (n:Int):F83 (n,())=some (bOf (e5y n),()):=by
 unfold F83 r83 e5y
 have k51:K51 (n,-1000000000,1000000000,())=true:=by unfold K51;rw[c4N];rfl
 have g51:(G51 (n,-1000000000,1000000000,())).1=(decide ((-1000000000:Int)<=n)&&decide (n<=1000000000)):=by unfold G51;rw[c4N];rfl
 dsimp only
 rw[k51,cond_true,g51]
 by_cases hin:(-1000000000:Int)<=n /\ n<=1000000000
 ·have e0:(decide ((-1000000000:Int)<=n)&&decide (n<=1000000000))=true:=by rw[decide_eq_true hin.1,decide_eq_true hin.2];rfl
  rw[e0,Bool.not_true,cond_false,if_pos hin]
  by_cases hneg:n<0
  ·have e1:decide (n<0)=true:=decide_eq_true hneg
   have e2:IntKind.i64.wrap (0-n)=((n.natAbs:Nat):Int):=by rw[w64 (by omega) (by omega)];omega
   have e3:IntKind.i64.wrap (1000+Int.tmod ((n.natAbs:Nat):Int) 1000)=((1000+n.natAbs%1000:Nat):Int):=by
    rw[Int.tmod_eq_emod_of_nonneg (by omega),w64 (by omega) (by omega)];omega
   have e4:IntKind.i64.wrap (Int.tdiv ((n.natAbs:Nat):Int) 1000)=((n.natAbs/1000:Nat):Int):=by
    rw[Int.tdiv_eq_ediv_of_nonneg (by omega),w64 (by omega) (by omega)];omega
   rw[e1,cond_true,e2,e3,e4,if_pos hneg]
   exact c5s n.natAbs [45] (by omega) (by simp) rfl
  ·have e1:decide (n<0)=false:=decide_eq_false hneg
   have hn:n=((n.natAbs:Nat):Int):=by omega
   have e3:IntKind.i64.wrap (1000+Int.tmod n 1000)=((1000+n.natAbs%1000:Nat):Int):=by
    rw[Int.tmod_eq_emod_of_nonneg (by omega),w64 (by omega) (by omega)];omega
   have e4:IntKind.i64.wrap (Int.tdiv n 1000)=((n.natAbs/1000:Nat):Int):=by
    rw[Int.tdiv_eq_ediv_of_nonneg (by omega),w64 (by omega) (by omega)];omega
   rw[e1,cond_false,e3,e4,if_neg hneg]
   exact c5s n.natAbs [] (by omega) (by simp) rfl
 ·have e0:(decide ((-1000000000:Int)<=n)&&decide (n<=1000000000))=false:=by
   rw[Bool.and_eq_false_iff,decide_eq_false_iff_not,decide_eq_false_iff_not]
   omega
  rw[e0,Bool.not_false,cond_true,if_neg hin]
  rfl
theorem d7V (n:Int):(e5y n).length<=50:=by
 unfold e5y
 split
 ·obtain⟨l1,u1⟩:=a4E ((1000+n.natAbs%1000:Nat):Int) (by omega)
  obtain⟨l2,u2⟩:=a4E ((n.natAbs/1000:Nat):Int) (by omega)
  generalize Lib.itoa ((1000+n.natAbs%1000:Nat):Int)=A at *
  generalize Lib.itoa ((n.natAbs/1000:Nat):Int)=B at *
  simp only[List.length_append,List.length_singleton,List.length_drop]
  split<;>simp<;>omega
 ·exact Nat.zero_le _
theorem e0L (n:Int) (h:n.natAbs<=9223372036854775808):c9A (n,())=true /\ (b1L (n,())).1.size<=20:=by
 unfold c9A b1L
 rw[c2F n h]
 exact⟨rfl,by rw[Option.getD_some,a2G];exact(a4E n h).2⟩
theorem c7p (n:Int):K83 (n,())=true /\ (G83 (n,())).1.size<=50:=by
 unfold K83 G83
 rw[e9I n]
 exact⟨rfl,by rw[Option.getD_some,a2G];exact d7V n⟩
theorem d7W (n:Int):(IntKind.i64.wrap n).natAbs<=9223372036854775808:=by
 have:=d1W n
 unfold I64 at this
 omega
theorem sz {a b:ByteArray} {n m:Nat} (h1:a.size<=n) (h2:b.size<=m) (h:n+m<=9223372036854775807):decide (a.size+b.size<=9223372036854775807)=true:=decide_eq_true (by omega)
theorem szA {a b:ByteArray} {n m:Nat} (h1:a.size<=n) (h2:b.size<=m):(a++b).size<=n+m:=by rw[ByteArray.size_append];omega
set_option maxRecDepth 100000 in
theorem c0y (x:I67.den) (h:a0g x.2.1) (hg:a0T x.1.2.1.2.2.1) (hl:x.1.2.1.2.2.1.length<=13):Pst (F67 x) fun y=>a0g y.2.1 /\ y.1.1.size<=2000:=by
 unfold F67 r67
 dsimp only
 have a2o:∀(n:Int) (c:(List Int×Int×Int×Unit)×Unit),a0g c.1->0<n->0<=((G34 (((),n,()),c)).1.1:Int) /\ ((G34 (((),n,()),c)).1.1:Int)<n:=fun n c h hn=>a1g n c.1 h hn
 have b365:∀z:Int,0<=z /\ z<365->z.natAbs<=9223372036854775808:=fun z h=>by omega
 refine a0p (a0C _ h) ?_
 have c0:a0g (G34 (((),12,()),x.snd)).2.1:=a0c _ h
 generalize G34 (((),12,()),x.snd)=A at *
 have steer:Pst (bif K34 (((),365,()),A.snd)then
  bif c9A (G34 (((),365,()),A.snd)).fst then
   bif decide (ByteArray.size { data:=#[115,116,101,101,114,32] }+ByteArray.size (b1L (G34 (((),365,()),A.snd)).fst).fst<=9223372036854775807)then
    some ((({ data:=#[115,116,101,101,114,32] }++(b1L (G34 (((),365,()),A.snd)).fst).fst,()),(G34 (((),365,()),A.snd)).snd):O67.den)
   else none
  else none
  else none) fun y=>a0g y.2.1 /\ y.1.1.size<=2000:=by
  refine a0p (a0C _ c0) ?_
  have c1:a0g (G34 (((),365,()),A.snd)).2.1:=a0c _ c0
  have b1:=a2o 365 A.snd c0 (by decide)
  generalize G34 (((),365,()),A.snd)=B at *
  obtain⟨k1,s1⟩:=e0L B.1.1 (b365 _ b1)
  refine a0p k1 (a0p (sz (n:=6) (m:=20) (Nat.le_refl _) s1 (by decide)) (a0v ⟨c1,Nat.le_trans (szA (n:=6) (m:=20) (Nat.le_refl _) s1) (by decide)⟩))
 have wind:Pst (bif K34 (((),25,()),A.snd)then
  bif K83 (IntKind.wrap IntKind.i64 (IntKind.wrap IntKind.i64 (1000*(G34 (((),25,()),A.snd)).fst.fst)-12000),())then
   bif decide (ByteArray.size { data:=#[119,105,110,100,32] }+ByteArray.size (G83 (IntKind.wrap IntKind.i64 (IntKind.wrap IntKind.i64 (1000*(G34 (((),25,()),A.snd)).fst.fst)-12000),())).fst<=9223372036854775807)then
    bif decide (ByteArray.size ({ data:=#[119,105,110,100,32] }++(G83 (IntKind.wrap IntKind.i64 (IntKind.wrap IntKind.i64 (1000*(G34 (((),25,()),A.snd)).fst.fst)-12000),())).fst)+ByteArray.size { data:=#[32] }<=9223372036854775807)then
     bif K34 (((),49,()),(G34 (((),25,()),A.snd)).snd)then
      bif K83 (IntKind.wrap IntKind.i64 (IntKind.wrap IntKind.i64 (500*(G34 (((),49,()),(G34 (((),25,()),A.snd)).snd)).fst.fst)-12000),())then
       bif decide (ByteArray.size ({ data:=#[119,105,110,100,32] }++(G83 (IntKind.wrap IntKind.i64 (IntKind.wrap IntKind.i64 (1000*(G34 (((),25,()),A.snd)).fst.fst)-12000),())).fst++{ data:=#[32] })+ByteArray.size (G83 (IntKind.wrap IntKind.i64 (IntKind.wrap IntKind.i64 (500*(G34 (((),49,()),(G34 (((),25,()),A.snd)).snd)).fst.fst)-12000),())).fst<=9223372036854775807)then
        some (((({ data:=#[119,105,110,100,32] }++(G83 (IntKind.wrap IntKind.i64 (IntKind.wrap IntKind.i64 (1000*(G34 (((),25,()),A.snd)).fst.fst)-12000),())).fst++{ data:=#[32] })++(G83 (IntKind.wrap IntKind.i64 (IntKind.wrap IntKind.i64 (500*(G34 (((),49,()),(G34 (((),25,()),A.snd)).snd)).fst.fst)-12000),())).fst,()),(G34 (((),49,()),(G34 (((),25,()),A.snd)).snd)).snd):O67.den)
       else none
      else none
     else none
    else none
   else none
  else none
  else none) fun y=>a0g y.2.1 /\ y.1.1.size<=2000:=by
  refine a0p (a0C _ c0) ?_
  have c1:a0g (G34 (((),25,()),A.snd)).2.1:=a0c _ c0
  generalize G34 (((),25,()),A.snd)=B at *
  obtain⟨k1,s1⟩:=c7p (IntKind.wrap IntKind.i64 (IntKind.wrap IntKind.i64 (1000*B.fst.fst)-12000))
  have s2:=szA (n:=5) (m:=50) (a:={ data:=#[119,105,110,100,32] }) (Nat.le_refl _) s1
  have s3:=szA (m:=1) (b:={ data:=#[32] }) s2 (Nat.le_refl _)
  refine a0p k1 (a0p (sz (n:=5) (m:=50) (Nat.le_refl _) s1 (by decide)) (a0p (sz (m:=1) s2 (Nat.le_refl _) (by decide)) ?_))
  refine a0p (a0C _ c1) ?_
  have c2:a0g (G34 (((),49,()),B.snd)).2.1:=a0c _ c1
  generalize G34 (((),49,()),B.snd)=D at *
  obtain⟨k2,s4⟩:=c7p (IntKind.wrap IntKind.i64 (IntKind.wrap IntKind.i64 (500*D.fst.fst)-12000))
  exact a0p k2 (a0p (sz s3 s4 (by decide)) (a0v ⟨c2,Nat.le_trans (szA s3 s4) (by decide)⟩))
 have sail:Pst (bif decide ((↑(List.length x.fst.snd.fst.snd.snd.fst):Int)>0)then
  bif K77 (((),5,()),A.snd)then
   bif !(G77 (((),5,()),A.snd)).fst.fst then
    bif K34 (((),(↑(List.length x.fst.snd.fst.snd.snd.fst):Int),()),(G77 (((),5,()),A.snd)).snd)then
     bif decide (0<=(G34 (((),(↑(List.length x.fst.snd.fst.snd.snd.fst):Int),()),(G77 (((),5,()),A.snd)).snd)).fst.fst)&&decide ((G34 (((),(↑(List.length x.fst.snd.fst.snd.snd.fst):Int),()),(G77 (((),5,()),A.snd)).snd)).fst.fst<(↑(List.length x.fst.snd.fst.snd.snd.fst):Int))then
      bif decide (ByteArray.size { data:=#[115,97,105,108,32] }+ByteArray.size (List.getD x.fst.snd.fst.snd.snd.fst (Int.toNat (G34 (((),(↑(List.length x.fst.snd.fst.snd.snd.fst):Int),()),(G77 (((),5,()),A.snd)).snd)).fst.fst) (zero S68)).fst<=9223372036854775807)then
       some ((({ data:=#[115,97,105,108,32] }++(List.getD x.fst.snd.fst.snd.snd.fst (Int.toNat (G34 (((),(↑(List.length x.fst.snd.fst.snd.snd.fst):Int),()),(G77 (((),5,()),A.snd)).snd)).fst.fst) (zero S68)).fst,()),(G34 (((),(↑(List.length x.fst.snd.fst.snd.snd.fst):Int),()),(G77 (((),5,()),A.snd)).snd)).snd):O67.den)
      else none
     else none
    else none
   else some ((({ data:=#[115,97,105,108,32] }++{ data:=#[110,111,110,101] },()),(G77 (((),5,()),A.snd)).snd):O67.den)
  else none
  else some ((({ data:=#[115,97,105,108,32] }++{ data:=#[110,111,110,101] },()),A.snd):O67.den)) fun y=>a0g y.2.1 /\ y.1.1.size<=2000:=by
  have none9:ByteArray.size ({ data:=#[115,97,105,108,32] }++{ data:=#[110,111,110,101] })<=2000:=Nat.le_trans (szA (n:=5) (m:=4) (Nat.le_refl _) (Nat.le_refl _)) (by decide)
  refine a1q (fun hp=>?_) (fun _=>a0v ⟨c0,none9⟩)
  have hpos:0<x.1.2.1.2.2.1.length:=by
   have:=of_decide_eq_true hp
   show 0<List.length x.fst.snd.fst.snd.snd.fst
   omega
  refine a0p (a2b _ c0) ?_
  have c1:a0g (G77 (((),5,()),A.snd)).2.1:=a0f _ c0
  generalize G77 (((),5,()),A.snd)=B at *
  refine a1q (fun _=>?_) (fun _=>a0v ⟨c1,none9⟩)
  refine a0p (a0C _ c1) ?_
  have c2:a0g (G34 (((),(↑(List.length x.fst.snd.fst.snd.snd.fst):Int),()),B.snd)).2.1:=a0c _ c1
  have b2:=a2o (↑(List.length x.fst.snd.fst.snd.snd.fst):Int) B.snd c1 (by omega)
  generalize G34 (((),(↑(List.length x.fst.snd.fst.snd.snd.fst):Int),()),B.snd)=D at *
  have hat:(List.getD x.fst.snd.fst.snd.snd.fst (Int.toNat D.fst.fst) (zero S68)).fst.size<=1000:=(hg.at _).1
  refine a0p (by rw[decide_eq_true b2.1,decide_eq_true b2.2];rfl) (a0p (sz (n:=5) (Nat.le_refl _) hat (by decide)) (a0v ⟨c2,Nat.le_trans (szA (n:=5) (Nat.le_refl _) hat) (by decide)⟩))
 refine a1q (fun _=>steer) (fun _=>a1q (fun _=>steer) (fun _=>a1q (fun _=>wind) (fun _=>a1q (fun _=>wind) (fun _=>a1q (fun _=>sail) (fun _=>a1q (fun _=>sail) (fun _=>a1q (fun _=>?_) (fun _=>a1q (fun _=>?_) (fun _=>?_))))))))
 ·refine a0p (a0C _ c0) ?_
  have c1:a0g (G34 (((),200000,()),A.snd)).2.1:=a0c _ c0
  generalize G34 (((),200000,()),A.snd)=B at *
  obtain⟨k1,s1⟩:=c7p (IntKind.wrap IntKind.i64 (B.fst.fst-100000))
  have s2:=szA (n:=4) (m:=50) (a:={ data:=#[102,105,120,32] }) (Nat.le_refl _) s1
  have s3:=szA (m:=2) (b:={ data:=#[32,32] }) s2 (Nat.le_refl _)
  refine a0p k1 (a0p (sz (n:=4) (m:=50) (Nat.le_refl _) s1 (by decide)) (a0p (sz (m:=2) s2 (Nat.le_refl _) (by decide)) ?_))
  refine a0p (a0C _ c1) ?_
  have c2:a0g (G34 (((),200000,()),B.snd)).2.1:=a0c _ c1
  generalize G34 (((),200000,()),B.snd)=D at *
  obtain⟨k2,s4⟩:=c7p (IntKind.wrap IntKind.i64 (D.fst.fst-100000))
  exact a0p k2 (a0p (sz s3 s4 (by decide)) (a0v ⟨c2,Nat.le_trans (szA s3 s4) (by decide)⟩))
 ·have hall:∀l:List ByteArray,(l.all fun s=>Nat.ble s.size 1000)=true->∀s∈l,s.size<=1000:=fun l h s hs=>Nat.le_of_ble_eq_true (List.all_eq_true.1 h s hs)
  have key:∀L:List ByteArray,(L.all fun s=>Nat.ble s.size 1000)=true->0<L.length ->
   Pst (bif c1A (((),(),()),A.snd.fst,L,())then some (((b8D (((),(),()),A.snd.fst,L,())).fst,(b8D (((),(),()),A.snd.fst,L,())).snd.fst,()):O67.den)else none) fun y=>a0g y.2.1 /\ y.1.1.size<=2000:=by
   intro L h1 h2
   refine a0p (d1U _ c0 h2) ?_
   obtain⟨c1,m1⟩:=d1V (((),(),()),A.snd.fst,L,()) c0 h2
   exact a0v ⟨c1,Nat.le_trans (hall _ h1 _ m1) (by decide)⟩
  exact key _ rfl (by simp only[List.length_set,List.length_replicate];decide)
 ·refine a0p (a0C _ c0) ?_
  have c1:a0g (G34 (((),40,()),A.snd)).2.1:=a0c _ c0
  generalize G34 (((),40,()),A.snd)=B at *
  refine a0p (a0C _ c1) ?_
  have c2:a0g (G34 (((),40,()),B.snd)).2.1:=a0c _ c1
  generalize G34 (((),40,()),B.snd)=D at *
  obtain⟨k1,s1⟩:=e0L (IntKind.wrap IntKind.i64 (1+IntKind.wrap IntKind.i64 (B.fst.fst*D.fst.fst))) (d7W _)
  exact a0p k1 (a0p (sz (n:=3) (m:=20) (Nat.le_refl _) s1 (by decide)) (a0v ⟨c2,Nat.le_trans (szA (n:=3) (m:=20) (Nat.le_refl _) s1) (by decide)⟩))
theorem d7X (x:I67.den) (h:a0g x.2.1) (hg:a0T x.1.2.1.2.2.1) (hl:x.1.2.1.2.2.1.length<=13):K67 x=true:=a2C (c0y x h hg hl)
theorem d7Y (x:I67.den) (h:a0g x.2.1) (hg:a0T x.1.2.1.2.2.1) (hl:x.1.2.1.2.2.1.length<=13):a0g (G67 x).2.1 /\ (G67 x).1.1.size<=2000:=a2T _ (c0y x h hg hl)
def a7N (l:List ByteArray):Prop:=l.length<=30 /\ ∀s∈l,s.size<=2000
set_option maxRecDepth 100000 in
theorem b2V (v:a9m) (hc:a0g v.2.1) (hg:a0T v.2.2.1.2.2.2.2.2.1) (hl:v.2.2.1.2.2.2.2.2.1.length<=13) (hn:(v.1.2.2.2.1:Int)+v.2.2.2.1.length<=30) (hn':(v.2.2.2.1.length:Int)<=30) (hs:∀s∈v.2.2.2.1,s.size<=2000) :
 Pst (e2r v) fun y=>a0g y.2.1 /\ a7N y.2.2.1:=by
 refine a0W (q:=d5Z K34 G34 K83 G83 K67 G67) (fun v=>a0g v.2.1 /\ a0T v.2.2.1.2.2.2.2.2.1 /\ v.2.2.1.2.2.2.2.2.1.length<=13 /\ (v.1.2.2.2.1:Int)+v.2.2.2.1.length<=30 /\ (v.2.2.2.1.length:Int)<=30 /\ ∀s∈v.2.2.2.1,s.size<=2000)
  (fun _ r=>Pst r fun y=>a0g y.2.1 /\ a7N y.2.2.1) (fun v=>v.1.2.2.2.1.toNat) ?_ _ _ ⟨hc,hg,hl,hn,hn',hs⟩ (Nat.lt_of_lt_of_le (m:=1000) (by show(v.1.2.2.2.1:Int).toNat<1000;omega) (Nat.le_add_left _ _))
 clear hc hg hl hn hn' hs v
 rintro⟨⟨_,_,_,n,_⟩,c,B,ls,_⟩ f ⟨g0,g1,g2,g3,g4,g5⟩ ih
 dsimp only at g0 g1 g2 g3 g4 g5 ih
 unfold d5Z
 dsimp only
 by_cases hk:n>0
 ·refine a0p (by simpa using hk) ?_
  have key:∀b:Den S40,b.2.2.1=B.2.2.2.2.2.1->Pst (bif K67 (((),b,()),c,())then
   bif a0F (List.length ls+List.length (List.set (List.replicate 1 (zero Ty.str)) 0 (G67 (((),b,()),c,())).fst.fst))then
    f (((),(),(),IntKind.wrap IntKind.i64 (n-1),()),(G67 (((),b,()),c,())).snd.fst,B,ls++List.set (List.replicate 1 (zero Ty.str)) 0 (G67 (((),b,()),c,())).fst.fst,())
   else none
   else none) fun y=>a0g y.2.1 /\ a7N y.2.2.1:=by
   intro b hb
   have g1':a0T b.2.2.1:=by rw[hb];exact g1
   have g2':b.2.2.1.length<=13:=by rw[hb];exact g2
   refine a0p (d7X (((),b,()),c,()) g0 g1' g2') ?_
   obtain⟨c1,s1⟩:=d7Y (((),b,()),c,()) g0 g1' g2'
   generalize G67 (((),b,()),c,())=y at *
   have e:IntKind.i64.wrap (n-1)=n-1:=w64 (by omega) (by omega)
   have e1:∀z:ByteArray,List.set (List.replicate 1 (zero Ty.str)) 0 z=[z]:=fun _=>rfl
   rw[e1,e]
   refine a0p (a0K (by rw[List.length_singleton];omega)) ?_
   refine ih _ ⟨c1,g1,g2,?_,?_,?_⟩ ?_
   ·show n-1+((ls++[y.1.1]).length:Int)<=30
    rw[List.length_append,List.length_singleton];omega
   ·show((ls++[y.1.1]).length:Int)<=30
    rw[List.length_append,List.length_singleton];omega
   ·intro s hs
    rcases List.mem_append.1 hs with h|h
    ·exact g5 s h
    ·rw[List.mem_singleton.1 h];exact s1
   ·show(n-1).toNat<n.toNat;omega
  exact key _ rfl
 ·have hd:decide (n>0)=false:=by simpa using hk
  rw[hd]
  exact a0v ⟨g0,by show ls.length<=30;omega,g5⟩
theorem d3b (v:a9m) (hc:a0g v.2.1) (hg:a0T v.2.2.1.2.2.2.2.2.1) (hl:v.2.2.1.2.2.2.2.2.1.length<=13) (hn:(v.1.2.2.2.1:Int)+v.2.2.2.1.length<=30) (hn':(v.2.2.2.1.length:Int)<=30) (hs:∀s∈v.2.2.2.1,s.size<=2000) :
 b2B v=true /\ a0g (b0P v).2.1 /\ a7N (b0P v).2.2.1:=⟨a2C (b2V v hc hg hl hn hn' hs),a2T _ (b2V v hc hg hl hn hn' hs)⟩
set_option maxRecDepth 100000 in
theorem c5t (x:I35.den) (h:a0g x.2.1) (hg:a0T x.1.2.1.2.2.1) (hl:x.1.2.1.2.2.1.length<=13):Pst (F35 x) fun y=>a0g y.2.1 /\ a7N y.2.2.1:=by
 unfold F35 r35
 dsimp only
 have a2o:∀(n:Int) (c:(List Int×Int×Int×Unit)×Unit),a0g c.1->0<n->0<=((G34 (((),n,()),c)).1.1:Int) /\ ((G34 (((),n,()),c)).1.1:Int)<n:=fun n c h hn=>a1g n c.1 h hn
 have b9:∀(z:Int) (k:Nat),0<=z /\ z<9->k<=2->z+(k:Int)<=30:=fun z k h hk=>by omega
 have e1:∀z:ByteArray,List.set (List.replicate 1 (zero Ty.str)) 0 z=[z]:=fun _=>rfl
 refine a0p (a0C _ h) ?_
 have c0:a0g (G34 (((),33,()),x.snd)).2.1:=a0c _ h
 generalize G34 (((),33,()),x.snd)=A at *
 obtain⟨k1,s1⟩:=c7p (IntKind.wrap IntKind.i64 (IntKind.wrap IntKind.i64 (500*A.fst.fst)-8000))
 have s2:=szA (n:=5) (m:=50) (a:={ data:=#[119,105,110,100,32] }) (Nat.le_refl _) s1
 have s3:=szA (m:=1) (b:={ data:=#[32] }) s2 (Nat.le_refl _)
 refine a0p k1 (a0p (sz (n:=5) (m:=50) (Nat.le_refl _) s1 (by decide)) (a0p (sz (m:=1) s2 (Nat.le_refl _) (by decide)) ?_))
 refine a0p (a0C _ c0) ?_
 have c1:a0g (G34 (((),33,()),A.snd)).2.1:=a0c _ c0
 generalize G34 (((),33,()),A.snd)=B at *
 obtain⟨k2,s4⟩:=c7p (IntKind.wrap IntKind.i64 (IntKind.wrap IntKind.i64 (500*B.fst.fst)-8000))
 refine a0p k2 (a0p (sz s3 s4 (by decide)) ?_)
 have s5:=szA s3 s4
 generalize { data:=#[119,105,110,100,32] }++(G83 (IntKind.wrap IntKind.i64 (IntKind.wrap IntKind.i64 (500*A.fst.fst)-8000),())).fst++{ data:=#[32] }++(G83 (IntKind.wrap IntKind.i64 (IntKind.wrap IntKind.i64 (500*B.fst.fst)-8000),())).fst=w at *
 refine a1q (fun hp=>?_) (fun _=>?_)
 ·have hpos:0<List.length x.fst.snd.fst.snd.snd.fst:=by
   have:=of_decide_eq_true hp
   omega
  refine a0p (by have:decide (0<((List.length x.fst.snd.fst.snd.snd.fst:Nat):Int))=true:=decide_eq_true (by omega);rw[this];rfl) ?_
  have hat:(List.getD x.fst.snd.fst.snd.snd.fst (Int.toNat 0) (zero S68)).fst.size<=1000:=(hg.at _).1
  refine a0p (sz (n:=5) (Nat.le_refl _) hat (by decide)) ?_
  have s6:=szA (n:=5) (a:={ data:=#[115,97,105,108,32] }) (Nat.le_refl _) hat
  refine a0p (a0C _ c1) ?_
  have c2:a0g (G34 (((),9,()),B.snd)).2.1:=a0c _ c1
  have b2:=a2o 9 B.snd c1 (by decide)
  generalize G34 (((),9,()),B.snd)=D at *
  generalize { data:=#[115,97,105,108,32] }++(List.getD x.fst.snd.fst.snd.snd.fst (Int.toNat 0) (zero S68)).fst=u at *
  simp only[e1]
  have hall:∀s∈[w]++[u],s.size<=2000:=fun s hs=>by
   rcases List.mem_append.1 hs with h|h
   ·rw[List.mem_singleton.1 h];exact Nat.le_trans s5 (by decide)
   ·rw[List.mem_singleton.1 h];exact Nat.le_trans s6 (by decide)
  have key:∀v:a9m,a0g v.2.1->a0T v.2.2.1.2.2.2.2.2.1->v.2.2.1.2.2.2.2.2.1.length<=13->(v.1.2.2.2.1:Int)+v.2.2.2.1.length<=30->(v.2.2.2.1.length:Int)<=30->(∀s∈v.2.2.2.1,s.size<=2000) ->
   Pst (bif b2B v then some ((((),()),(b0P v).snd):O35.den)else none) fun y=>a0g y.2.1 /\ a7N y.2.2.1:=fun v a1 a2 a3 a4 a5 a6=>by
   obtain⟨d0,d1,d2⟩:=d3b v a1 a2 a3 a4 a5 a6
   exact a0p d0 (a0v ⟨d1,d2⟩)
  exact key _ c2 hg hl (b9 _ 2 b2 (by decide)) (by show(2:Int)<=30;decide) hall
 ·refine a0p (a0C _ c1) ?_
  have c2:a0g (G34 (((),9,()),B.snd)).2.1:=a0c _ c1
  have b2:=a2o 9 B.snd c1 (by decide)
  generalize G34 (((),9,()),B.snd)=D at *
  simp only[e1]
  have hall:∀s∈[w],s.size<=2000:=fun s hs=>by rw[List.mem_singleton.1 hs];exact Nat.le_trans s5 (by decide)
  have key:∀v:a9m,a0g v.2.1->a0T v.2.2.1.2.2.2.2.2.1->v.2.2.1.2.2.2.2.2.1.length<=13->(v.1.2.2.2.1:Int)+v.2.2.2.1.length<=30->(v.2.2.2.1.length:Int)<=30->(∀s∈v.2.2.2.1,s.size<=2000) ->
   Pst (bif b2B v then some ((((),()),(b0P v).snd):O35.den)else none) fun y=>a0g y.2.1 /\ a7N y.2.2.1:=fun v a1 a2 a3 a4 a5 a6=>by
   obtain⟨d0,d1,d2⟩:=d3b v a1 a2 a3 a4 a5 a6
   exact a0p d0 (a0v ⟨d1,d2⟩)
  exact key _ c2 hg hl (b9 _ 1 b2 (by decide)) (by show(1:Int)<=30;decide) hall
theorem e9J (x:I35.den) (h:a0g x.2.1) (hg:a0T x.1.2.1.2.2.1) (hl:x.1.2.1.2.2.1.length<=13):K35 x=true:=a2C (c5t x h hg hl)
theorem e9K (x:I35.den) (h:a0g x.2.1) (hg:a0T x.1.2.1.2.2.1) (hl:x.1.2.1.2.2.1.length<=13):a0g (G35 x).2.1 /\ a7N (G35 x).2.2.1:=a2T _ (c5t x h hg hl)
def b1u (b:Den S40):Bool:=a3F b.1&&(a4D b.2.1&&(a4Z b.2.2.1&&(decide ((b.2.2.1.length:Int)>0)&&b1h b.2.2.2.1)))
theorem e9L (b:Den S40) (h:a6e b):F42 (b,())=some (b1u b,()):=by
 obtain⟨P,T,S,C,_⟩:=b
 obtain⟨hP,hT,⟨hS,hl⟩,hC⟩:=h
 have k1:=e0A P
 have k2:=d2y T hT
 have k3:=d1Q S (hS.good hl)
 have k4:=e8U C (by have:C.2.1.length<=22:=hC;omega)
 unfold F42 r42 b1u
 dsimp only
 simp only[K90,G90,k1,K91,G91,k2,K92,G92,k3,K93,G93,k4,Option.isSome_some,Option.getD_some,cond_true]
 cases a3F P
 ·rfl
 ·cases a4D T
  ·rfl
  ·cases a4Z S
   ·rfl
   ·cases decide (((List.length S:Nat):Int)>0)<;>rfl
theorem e9M (b:Den S40) (h:a6e b):F50 (b,())=some (b1u b,()):=by
 obtain⟨P,T,S,C,_⟩:=b
 obtain⟨hP,hT,⟨hS,hl⟩,hC⟩:=h
 have k1:=e9n P
 have k2:=e3F T hT
 have k3:=e3i S (hS.good hl)
 have k4:=e3m C (by have:C.2.1.length<=22:=hC;omega)
 unfold F50 r50 b1u
 dsimp only
 simp only[K99,G99,k1,f0A,f0B,k2,f0E,f0F,k3,f0I,f0J,k4,Option.isSome_some,Option.getD_some,cond_true]
 cases a3F P
 ·rfl
 ·cases a4D T
  ·rfl
  ·cases a4Z S
   ·rfl
   ·cases decide (((List.length S:Nat):Int)>0)<;>rfl
theorem d7Z {α:Type} {l:List α} (h:l.length<=1000):a0F (0+l.length)=true:=a0K (by omega)
theorem d3c (sp:List (List Nat)) (a:List Nat) (b:List Int) (h:sp.length<=1000) (hr:∀r∈sp,r.length<=1000) :
 d1G (((),(),sp,(sp.length:Int),(0:Int),()),((),(),(),()),(a,b,(),()),[],())=some (((),(),()),((),(),(),()),(a,b,(),()),sp,()):=by
 refine a0W (q:=c4I d8M d8N d3L d3M) (fun v=>∃k:Nat,k<=sp.length /\ v=(((),(),sp,(sp.length:Int),(k:Int),()),((),(),(),()),(a,b,(),()),sp.take k,()))
  (fun _ r=>r=some (((),(),()),((),(),(),()),(a,b,(),()),sp,())) (fun v=>sp.length-v.1.2.2.2.2.1.toNat) ?_ _ _ ⟨0,Nat.zero_le _,rfl⟩ (by show sp.length-Int.toNat 0<c4J _;unfold c4J;dsimp only;omega)
 rintro v f ⟨k,hk,rfl⟩ ih
 unfold c4I
 dsimp only
 by_cases hlt:k<sp.length
 ·have e1:decide ((k:Int)<(sp.length:Int))=true:=by simpa using hlt
  have e2:decide (0<=(k:Int))=true:=by simp
  have hrow:List.getD sp (Int.toNat (k:Int)) (zero (Ty.slice (Ty.flt FloatKind.f32)))=sp[k]:=by rw[Int.toNat_natCast,a5o _ _ _ hlt]
  have hk1:d8M (sp[k],())=true:=a0K (by have:=hr _ (List.getElem_mem hlt);show 0+List.length sp[k]<=_;omega)
  have e3:List.set (List.replicate 1 (zero (Ty.slice (Ty.flt FloatKind.f32)))) 0 sp[k]=[sp[k]]:=rfl
  have ew:IntKind.i64.wrap ((k:Int)+1)=((k+1:Nat):Int):=a4y k (by omega)
  rw[e1,e2,hrow,hk1,ew]
  simp only[Bool.and_self,cond_true]
  rw[show(d8N (sp[k],())).1=sp[k]from rfl,e3,a0K (by rw[List.length_singleton,List.length_take];omega),cond_true]
  refine ih _ ⟨k+1,hlt,?_⟩ ?_
  ·rw[show List.take (k+1) sp=List.take k sp++[sp[k]]from(List.take_succ_eq_append_getElem hlt)]
  ·show sp.length-((k+1:Nat):Int).toNat<sp.length-((k:Nat):Int).toNat
   omega
 ·have e1:decide ((k:Int)<(sp.length:Int))=false:=by simpa using hlt
  rw[e1,cond_false,List.take_of_length_le (by omega)]
theorem e4u (p:Den S27) (h:e0u p):f2e (p,())=some (p,()):=by
 obtain⟨ws,as_,sp,_⟩:=p
 obtain⟨h1,h2,h3,h4⟩:=h
 have h1:ws.length<=14:=h1
 have h2:as_.length<=22:=h2
 have h3:sp.length<=14:=h3
 have hl:=d3c sp ws as_ (by omega) (fun r hr=>by have:=h4 r hr;omega)
 have k1:d8M (ws,())=true:=d7Z (l:=ws) (by omega)
 have k2:d3L (as_,())=true:=d7Z (l:=as_) (by omega)
 have g1:d8N (ws,())=(ws,()):=rfl
 have g2:d3M (as_,())=(as_,()):=rfl
 unfold f2e f7u
 dsimp only
 simp only[k1,k2,g1,g2,cond_true,b6y,b6z,hl,Option.isSome_some,Option.getD_some]
theorem e4v (t:Den S30) (h:a7C t):f2h (t,())=some (t,()):=by
 obtain⟨st,hs,_⟩:=t
 have h1:st.length<=21:=h.1
 have h2:hs.length<=6:=h.2
 have k1:f0o (st,())=true:=d7Z (l:=st) (by omega)
 have k2:d3L (hs,())=true:=d7Z (l:=hs) (by omega)
 have g1:f0p (st,())=(st,()):=rfl
 have g2:d3M (hs,())=(hs,()):=rfl
 unfold f2h f7x
 dsimp only
 simp only[k1,k2,g1,g2,cond_true]
theorem e4w (c:Den S38) (h:c.2.1.length<=22):f2l (c,())=some (c,()):=by
 obtain⟨⟨⟨a1,a2,_⟩,⟨a3,a4,_⟩,_⟩,ms,⟨⟨b1,b2,_⟩,⟨b3,b4,_⟩,_⟩,_⟩:=c
 have h:ms.length<=22:=h
 have k1:f0s (ms,())=true:=d7Z (l:=ms) (by omega)
 have g1:f0t (ms,())=(ms,()):=rfl
 unfold f2l f7A
 dsimp only
 simp only[k1,g1,cond_true]
theorem e9N (b:Den S40) (h:a6e b):F84 (b,())=some (b,()):=by
 obtain⟨P,T,S,C,_⟩:=b
 obtain⟨hP,hT,⟨hS,hl⟩,hC⟩:=h
 have hl:S.length<=13:=hl
 have k3:f0q (S,())=true:=d7Z (l:=S) (by omega)
 have g3:f0r (S,())=(S,()):=rfl
 unfold F84 r84
 dsimp only
 simp only[f2f,f2g,e4u P hP,f2j,f2k,e4v T hT,k3,g3,f2m,f2n,e4w C hC,Option.isSome_some,Option.getD_some,cond_true]
theorem a3f {α β:Type} (c:Bool) (a b:Option α) (f:α->Option β):(bif c then a else b).bind f=bif c then a.bind f else b.bind f:=by cases c<;>rfl
def prY (b:Bool) (Y:Yv):Option (Bool×Yv):=some (b,Y)
def unY {R:Type} (h:Bool->Yv->Option R) (p:Bool×Yv):Option R:=h p.1 p.2
section
variable {R:Type} (k17:Den A17->Bool) (g17:Den A17->Den R17) (k132:Den c6K->Bool) (g132:Den c6K->Den d1n) (k45:Den A45->Bool) (g45:Den A45->Den R45) (k133:Den c6L->Bool) (g133:Den c6L->Den d4p) (k134:Den b7c->Bool) (g134:Den b7c->Den c6B) (k19:Den A19->Bool) (g19:Den A19->Den R19) (k135:Den b5Y->Bool) (g135:Den b5Y->Den c6M) (k23:Den A23->Bool) (g23:Den A23->Den R23) (k44:Den A44->Bool) (g44:Den A44->Den R44) (k57:Den A57->Bool) (g57:Den A57->Den R57) (k136:Den c6S->Bool) (g136:Den c6S->Den d4v) (k137:Den c6T->Bool) (g137:Den c6T->Den d1E) (f:List ByteArray)
theorem d8a (Y:Yv) (h:Bool->Yv->Option R):kpK k19 g19 k137 g137 Y h=(kpK k19 g19 k137 g137 Y prY).bind (unY h):=by
 simp only[kpK,a3f,Option.bind_none]
 rfl
theorem a4h (Y:Yv) (h:Bool->Yv->Option R):a8D k19 g19 k137 g137 f Y h=(a8D k19 g19 k137 g137 f Y prY).bind (unY h):=by
 simp only[a8D,a3f,Option.bind_none,d8a k19 g19 k137 g137 _ h]
 rfl
theorem c2H (Y:Yv) (h:Bool->Yv->Option R):b2P k17 g17 k19 g19 k137 g137 f Y h=(b2P k17 g17 k19 g19 k137 g137 f Y prY).bind (unY h):=by
 simp only[b2P,a3f,Option.bind_none,a4h k19 g19 k137 g137 f _ h]
 rfl
theorem c7q (Y:Yv) (h:Bool->Yv->Option R):c7h k132 g132 k45 g45 k133 g133 k19 g19 k137 g137 f Y h=(c7h k132 g132 k45 g45 k133 g133 k19 g19 k137 g137 f Y prY).bind (unY h):=by
 simp only[c7h,a3f,Option.bind_none,a4h k19 g19 k137 g137 f _ h]
 rfl
theorem c7r (Y:Yv) (h:Bool->Yv->Option R):c7i k134 g134 k19 g19 k135 g135 k137 g137 f Y h=(c7i k134 g134 k19 g19 k135 g135 k137 g137 f Y prY).bind (unY h):=by
 simp only[c7i,a3f,Option.bind_none,a4h k19 g19 k137 g137 f _ h]
 rfl
theorem d3d (Y:Yv) (h:Bool->Yv->Option R):e5v k132 g132 k19 g19 k23 g23 k137 g137 f Y h=(e5v k132 g132 k19 g19 k23 g23 k137 g137 f Y prY).bind (unY h):=by
 simp only[e5v,a3f,Option.bind_none,a4h k19 g19 k137 g137 f _ h]
 rfl
theorem c7s (Y:Yv) (n t:Int) (s:Nat) (h:Bool->Yv->Option R):c2w k19 g19 k23 g23 k136 g136 k137 g137 f Y n t s h=(c2w k19 g19 k23 g23 k136 g136 k137 g137 f Y n t s prY).bind (unY h):=by
 simp only[c2w,a3f,Option.bind_none,a4h k19 g19 k137 g137 f _ h]
 rfl
theorem d8b (Y:Yv) (h:Bool->Yv->Option R):goK k17 g17 k19 g19 k23 g23 k44 g44 k57 g57 k136 g136 k137 g137 f Y h=(goK k17 g17 k19 g19 k23 g23 k44 g44 k57 g57 k136 g136 k137 g137 f Y prY).bind (unY h):=by
 simp only[goK,a3f,Option.bind_none,c7s k19 g19 k23 g23 k136 g136 k137 g137 f _ _ _ _ h]
 rfl
theorem c7t (Y:Yv) (h:Bool->Yv->Option R):c7j k17 g17 k132 g132 k45 g45 k133 g133 k134 g134 k19 g19 k135 g135 k23 g23 k44 g44 k57 g57 k136 g136 k137 g137 f Y h=(c7j k17 g17 k132 g132 k45 g45 k133 g133 k134 g134 k19 g19 k135 g135 k23 g23 k44 g44 k57 g57 k136 g136 k137 g137 f Y prY).bind (unY h):=by
 simp only[c7j,b1R,a3f,Option.bind_none,c2H k17 g17 k19 g19 k137 g137 f _ h,c7q k132 g132 k45 g45 k133 g133 k19 g19 k137 g137 f _ h,c7r k134 g134 k19 g19 k135 g135 k137 g137 f _ h,d3d k132 g132 k19 g19 k23 g23 k137 g137 f _ h,d8b k17 g17 k19 g19 k23 g23 k44 g44 k57 g57 k136 g136 k137 g137 f _ h]
 rfl
end
def d8c (f:List ByteArray) (Y:Yv):Option (Bool×Yv):=c7j K17 G17 e2Q e2R K45 G45 e2S e2T c6C c6D K19 G19 c6N c6O K23 G23 K44 G44 K57 G57 e3a e3b c2d c2e f Y prY
theorem e9O (x:I68.den):F68 x=(d8c x.1.2.1 (yIn x)).bind (unY fun b Y=>some (c7g b Y)):=c7t _ _ _ _ _ _ _ _ _ _ _ _ _ _ _ _ _ _ _ _ _ _ _ _ _ _ _
end Go.Proofs.YtjomnmoekchfeaaGreatDoor.AM
