/- Texts of one proof, joined: an abstract machine for the program, its functions evaluated, plain lemmas. Conditions: those that each lemma names. -/
import Derived.Test.YtjomnmoekchfeaaGreatDoorM5
set_option linter.unusedVariables false
set_option linter.unusedSimpArgs false
namespace Go.Proofs.YtjomnmoekchfeaaGreatDoor.AM
open Int (toNat)
open List (getD)
open Nat (zero_le)
open Go Go.Proofs
set_option exponentiation.threshold 2000
def Sv (D:Rat):Prop:=∃(m:Nat) (e:Int),m<2^24 /\ -149<=e /\ D=(m:Rat)*p2 e
theorem b9T {w:Nat} {s:Bool} {m:Nat} {e:Int} (h:Ieee.single.read w = .number s m e):m<2^24:=by
 unfold Ieee.Format.read at h;dsimp only at h;rw[c6h]at h;split at h
 ·cases h;omega
 ·split at h
  ·cases h;omega
  ·split at h<;>cases h
theorem IsS.sv {w:Nat} {x:Rat} (h:IsS w x) (a:0<=x):Sv x:=by
 obtain⟨s,m,e,c,b,rfl⟩:=h;refine⟨m,e,b9T c,b,?_⟩;have d:(0:Rat)<=(m:Rat)*p2 e:=Rat.mul_nonneg (by exact_mod_cast a0e (zero_le m)) (Rat.le_of_lt (a0q e));unfold RV at a ⊢;cases s
 ·rw[show sgR false=1 from rfl];grind
 ·rw[show sgR true=-1 from rfl]at a ⊢;grind
theorem Sv.units {D:Rat} (h:Sv D) {M:Nat} {p last:Int} (b:M≠0) (j:last=max (p+(M.log2:Int)-(23:Nat)) (-149)) (k:(M:Rat)*p2 p<=D):∃n:Nat,D=(n:Rat)*p2 last:=by
 obtain⟨m,e,d,i,rfl⟩:=h;have c:last<=e:=by
  rcases (show last=-149∨last=p+(M.log2:Int)-23 by omega)with h1|h1
  ·omega
  ·have f:=a0r (a0e (Nat.log2_self_le b)) (Rat.le_of_lt (a0q p));have g:(m:Rat)*p2 e<((2^24:Nat):Rat)*p2 e:=Rat.mul_lt_mul_of_pos_right (Rat.natCast_lt_natCast.2 d) (a0q e);rw[<- a0R,<- a0G]at f;rw[<- a0R,<- a0G]at g;have:=a3b (show p2 ((M.log2:Int)+p)<p2 (((24:Nat):Int)+e)by grind);omega
 refine⟨m*2^(e-last).toNat,?_⟩;have a:e=((e-last).toNat:Int)+last:=by omega
 rw[Rat.natCast_mul,<- a0R]
 conv=>lhs;rw[a,a0G]
 grind
theorem b1T {K n:Nat} {u:Rat} (b:0<u) (h:2*((K:Rat)*u)<=2*((n:Rat)*u)+u):(K:Rat)*u<=(n:Rat)*u:=by
 apply Classical.byContradiction;intro d;have c:n+1<=K:=by
  apply Classical.byContradiction;intro a;exact d (a0r (a0e (by omega)) (Rat.le_of_lt b))
 have a:=a0r (a0e c) (Rat.le_of_lt b);rw[Rat.natCast_add]at a;have e:((1:Nat):Rat)=1:=rfl;grind
theorem Rnd.le {w:Nat} {x D:Rat} (h:Rnd w x) (i:Sv D) (y:D<=p2 126) (c:x<=D) (d:-D<=x):∃r,IsS w r /\ r<=D /\ -D<=r /\ (0<=x->0<=r) /\ (x<=0->r<=0):=by
 obtain⟨neg,M,p,rfl,rfl⟩:=h;have v:(0:Rat)<=(M:Rat)*p2 p:=Rat.mul_nonneg (by exact_mod_cast a0e (zero_le M)) (Rat.le_of_lt (a0q p));have b:RV neg M p=sgR neg*((M:Rat)*p2 p):=by unfold RV;grind
 have o:(M:Rat)*p2 p<=D:=by
  rw[b]at c d;cases neg
  ·rw[show sgR false=1 from rfl]at c;grind
  ·rw[show sgR true=-1 from rfl]at d;grind
 by_cases a:M=0
 ·subst a;refine⟨0,?_,by grind,by grind,fun _=>Rat.le_refl,fun _=>Rat.le_refl⟩;unfold Ieee.Format.nearest;rw[if_pos rfl];exact a6r neg
 ·have g:(M.log2:Int)+p<=126:=by
   have q:=a0r (a0e (Nat.log2_self_le a)) (Rat.le_of_lt (a0q p));rw[<- a0R,<- a0G]at q;apply Classical.byContradiction;intro z;have:=a7v (show(126:Int)+1<=(M.log2:Int)+p by omega);rw[a2a]at this;have:=a0q 126;grind
  obtain⟨K,last,m,l,B,C,s,t⟩:=a3L neg M p a g;obtain⟨n,A⟩:=i.units a l o;have e:=a0q last;have u:=b1T e (show 2*((K:Rat)*p2 last)<=2*((n:Rat)*p2 last)+p2 last by grind);have j:(0:Rat)<=(K:Rat)*p2 last:=Rat.mul_nonneg (by exact_mod_cast a0e (zero_le K)) (Rat.le_of_lt e);have f:sgR neg*(K:Rat)*p2 last=sgR neg*((K:Rat)*p2 last):=by grind
  refine⟨_,m,?_⟩;rw[f,b];have k:0<(M:Rat)*p2 p:=Rat.mul_pos (by exact_mod_cast Rat.natCast_lt_natCast.2 (Nat.pos_of_ne_zero a)) (a0q p);cases neg
  ·rw[show sgR false=1 from rfl];exact⟨by grind,by grind,fun _=>by grind,fun _=>by grind⟩
  ·rw[show sgR true=-1 from rfl];exact⟨by grind,by grind,fun _=>by grind,fun _=>by grind⟩
theorem c8A {a b:Nat} {x y:Rat} (ha:IsS a x) (hb:IsS b y) (B:0<=x) (w:0<y) (h:x<=y):∃r,IsS (a0b .quo .f32 a b) r /\ 0<=r /\ r<=1:=by
 obtain⟨s,m,e,hr,he,rfl⟩:=ha;obtain⟨t,n,f,K,R,rfl⟩:=hb;have X:a0b .quo .f32 a b=(((Ieee.single.read a).quotient 25 (Ieee.single.read b)).map Ieee.single.write).getD (qn .f32):=rfl;have q:n≠0:=fun h=>by rw[h,a2F]at w;exact absurd w (by decide)
 have S:0<n:=Nat.pos_of_ne_zero q;have one:Sv 1:=⟨1,0,by decide,by decide,by decide +kernel⟩;have fin:∀(neg:Bool) (M:Nat) (p:Int),0<=RV neg M p->(M:Rat)*p2 p<=1->∃r,IsS (Ieee.single.nearest neg M p) r /\ 0<=r /\ r<=1:=by
  intro neg M p N g1;have Z:RV neg M p<=1:=by
   have hM:(0:Rat)<=(M:Rat)*p2 p:=Rat.mul_nonneg (by exact_mod_cast a0e (zero_le M)) (Rat.le_of_lt (a0q p));unfold RV at N ⊢;cases neg
   ·rw[show sgR false=1 from rfl];grind
   ·rw[show sgR true=-1 from rfl];grind
  obtain⟨r,k1,k2,k3,k4,_⟩:=Rnd.le ⟨neg,M,p,rfl,rfl⟩ one (by decide +kernel) Z (by grind);exact⟨r,k1,k4 N,k2⟩
 rw[X,hr,K];unfold Ieee.Datum.quotient;dsimp only;rw[if_neg q];show ∃r,IsS (Ieee.single.nearest (s ^^ t) (2*(m <<< (25+n.log2-m.log2)/n)+(m <<< (25+n.log2-m.log2)%n != 0).toNat) (e-f-((25+n.log2-m.log2:Nat):Int)-1)) r /\ _;by_cases G:m=0
 ·subst G;refine fin _ _ _ ?_ ?_
  ·simp[Nat.shiftLeft_eq,a2F]
  ·simp[Nat.shiftLeft_eq]
   decide +kernel
 have j:=c1i m n G S;rw[Nat.shiftLeft_eq];generalize 25+n.log2-m.log2=i at *;obtain⟨d,I⟩:∃d:Int,d=e-f-(i:Int)-1:=⟨_,rfl⟩;rw[<- I];generalize F:m*2^i=g at *;have H:(0:Rat)<(m:Rat):=by exact_mod_cast Rat.natCast_lt_natCast.2 (Nat.pos_of_ne_zero G)
 have v:(0:Rat)<(n:Rat):=by exact_mod_cast Rat.natCast_lt_natCast.2 S
 have ht:t=false:=by
  cases t
  ·rfl
  ·exfalso;have:=Rat.mul_pos v (a0q f);unfold RV at w;rw[show sgR true=-1 from rfl]at w;grind
 have hs:s=false:=by
  cases s
  ·rfl
  ·exfalso;have:=Rat.mul_pos H (a0q e);unfold RV at B;rw[show sgR true=-1 from rfl]at B;grind
 subst ht hs;have L:2*(g:Rat)*p2 d<=(n:Rat):=by
  have Y:e=f+(i:Int)+1+d:=by omega
  have R:=a0q f;unfold RV at h;rw[show sgR false=1 from rfl,Y,a0G,a2a,a0G,a0R]at h;have A:(g:Rat)=(m:Rat)*((2^i:Nat):Rat):=by rw[<- F,Rat.natCast_mul]
  rw[A];have C:(2*((m:Rat)*((2^i:Nat):Rat))*p2 d)*p2 f<=(n:Rat)*p2 f:=by grind
  exact Rat.le_of_mul_le_mul_right C R
 have J:d <= -25:=by
  apply Classical.byContradiction;intro hc;have T:=a0r (a0e j) (Rat.le_of_lt (a0q d));have U:=a7v (show(-24:Int)<=d by omega);rw[Rat.natCast_mul,Rat.natCast_mul]at T;have l:p2 (-24)*((2^25:Nat):Rat)=2:=by decide +kernel
  have V:=Rat.mul_le_mul_of_nonneg_left U (Rat.le_of_lt v);have:((2:Nat):Rat)=2:=rfl;have l4:(n:Rat)*p2 (-24)*((2^25:Nat):Rat)<=(n:Rat)*p2 d*((2^25:Nat):Rat):=a0r V (by decide +kernel);have W:(n:Rat)*p2 (-24)*((2^25:Nat):Rat)=2*(n:Rat):=by rw[Rat.mul_assoc,l];grind
  rw[W]at l4;rw[this]at T;clear fin l U V h B w W this;generalize ((2^25:Nat):Rat)=c at *;generalize p2 d=u at *;generalize (g:Rat)=z at *;generalize (n:Rat)=y at *;grind
 obtain⟨P,hP⟩:∃P:Nat,P=(-d-1).toNat:=⟨_,rfl⟩;have o:p2 d*(2*((2^P:Nat):Rat))=1:=by
  rw[<- a0R,<- a2a,<- a0G];rw[show d+((P:Int)+1)=0 by omega]
  decide +kernel
 have k:g<=n*2^P:=by
  have O:(g:Rat)<=(n:Rat)*((2^P:Nat):Rat):=by
   have Q:=a0r L (show(0:Rat)<=((2^P:Nat):Rat)by exact_mod_cast a0e (zero_le _));have E:2*(g:Rat)*p2 d*((2^P:Nat):Rat)=(g:Rat)*(p2 d*(2*((2^P:Nat):Rat))):=by
    clear fin;generalize ((2^P:Nat):Rat)=c;grind
   rw[E,o,Rat.mul_one]at Q;exact Q
  rw[<- Rat.natCast_mul]at O;exact Rat.natCast_le_natCast.1 O
 have hQ:2*(g/n)+(g%n != 0).toNat<=2*2^P:=by
  have h1:=Nat.div_add_mod g n;have h2:g/n<=2^P:=Nat.div_le_of_le_mul (by rw[Nat.mul_comm]at k;rw[Nat.mul_comm];exact k);by_cases A:g/n=2^P
  ·have C:g%n=0:=by rw[A]at h1;omega
   rw[A,C];exact Nat.le_refl _
  ·have:(g%n != 0).toNat<=1:=by cases (g%n != 0)<;>decide
   omega
 refine fin _ _ _ ?_ ?_
 ·unfold RV;rw[show sgR (false ^^ false)=1 from rfl];have:(0:Rat)<=((2*(g/n)+(g%n != 0).toNat:Nat):Rat)*p2 d:=Rat.mul_nonneg (by exact_mod_cast a0e (zero_le _)) (Rat.le_of_lt (a0q d));rw[Rat.one_mul];exact this
 ·have D:=a0r (a0e hQ) (Rat.le_of_lt (a0q d));rw[Rat.natCast_mul,show((2:Nat):Rat)=2 from rfl]at D;have E:2*((2^P:Nat):Rat)*p2 d=1:=by rw[Rat.mul_comm];exact o
  rw[E]at D;exact D
theorem d7A:Sv 50:=⟨13107200,-18,by decide,by decide,by decide +kernel⟩
theorem IsS.svn {w:Nat} {x:Rat} (h:IsS w x) (a:x<=0):Sv (-x):=by
 obtain⟨s,m,e,c,b,rfl⟩:=h;refine⟨m,e,b9T c,b,?_⟩;have d:(0:Rat)<=(m:Rat)*p2 e:=Rat.mul_nonneg (by exact_mod_cast a0e (zero_le m)) (Rat.le_of_lt (a0q e));unfold RV at a ⊢;cases s
 ·rw[show sgR false=1 from rfl]at a ⊢;grind
 ·rw[show sgR true=-1 from rfl];grind
theorem Rnd.fifty {w:Nat} {x:Rat} (h:Rnd w x) (z:0<=x) (A:x<=50+p2 (-19)):∃r,IsS w r /\ 0<=r /\ r<=50:=by
 by_cases a:x<=50
 ·obtain⟨r,E,F,_,G,_⟩:=h.le d7A (by decide +kernel) a (by grind);exact⟨r,E,G z,F⟩
 obtain⟨neg,M,p,rfl,rfl⟩:=h;have P:(0:Rat)<=(M:Rat)*p2 p:=Rat.mul_nonneg (by exact_mod_cast a0e (zero_le M)) (Rat.le_of_lt (a0q p));have e:neg=false:=by
  cases neg
  ·rfl
  ·exfalso;unfold RV at a;rw[show sgR true=-1 from rfl]at a;grind
 subst e;have y:RV false M p=(M:Rat)*p2 p:=by unfold RV;rw[show sgR false=1 from rfl];grind
 rw[y]at A a;have c:M≠0:=by
  intro h;subst h;apply a;rw[show((0:Nat):Rat)=0 from rfl,Rat.zero_mul]
  decide +kernel
 have J:p2 (-19)<=1:=by decide +kernel
 have t:(M.log2:Int)+p=5:=by
  have H:=a0r (a0e (Nat.log2_self_le c)) (Rat.le_of_lt (a0q p));have I:(M:Rat)*p2 p<((2^(M.log2+1):Nat):Rat)*p2 p:=Rat.mul_lt_mul_of_pos_right (Rat.natCast_lt_natCast.2 Nat.lt_log2_self) (a0q p);rw[<- a0R,<- a0G]at H I;have N:p2 5=32:=by decide +kernel
  have O:p2 6=64:=by decide +kernel
  have a1:=a3b (show p2 ((M.log2:Int)+p)<p2 6 by grind);have a2:=a3b (show p2 5<p2 (((M.log2+1:Nat):Int)+p)by grind);omega
 obtain⟨K,last,o,R,S,T,q,j⟩:=a3L false M p c (by omega);have d:last=-18:=by omega
 subst d;have L:p2 (-18)=2*p2 (-19):=by rw[<- a2a];rfl
 have i:((13107200:Nat):Rat)*p2 (-18)=50:=by decide +kernel
 have f:=a0q (-18);have g:sgR false*(K:Rat)*p2 (-18)=(K:Rat)*p2 (-18):=by rw[show sgR false=1 from rfl];grind
 refine⟨_,o,?_⟩;rw[g];have l:(0:Rat)<=(K:Rat)*p2 (-18):=Rat.mul_nonneg (by exact_mod_cast a0e (zero_le K)) (Rat.le_of_lt f);refine⟨l,?_⟩;rw[<- i];refine a0r (a0e ?_) (Rat.le_of_lt f);apply Classical.byContradiction;intro Q;have n:13107201<=K:=by omega
 have m1:=a0r (a0e n) (Rat.le_of_lt f);have b:((13107201:Nat):Rat)*p2 (-18)=50+p2 (-18):=by decide +kernel
 rw[b]at m1;have m:(K:Rat)*p2 (-18)=50+p2 (-18):=by
  clear q j o g;generalize (K:Rat)*p2 (-18)=k at *;generalize (M:Rat)*p2 p=x at *;generalize p2 (-18)=u at *;generalize p2 (-19)=v at *;grind
 have D:K=13107201:=by
  have B:((K:Rat)-((13107201:Nat):Rat))*p2 (-18)=0:=by rw[<- b]at m;grind
  rcases Rat.mul_eq_zero.1 B with s|s
  ·have C:(K:Rat)=((13107201:Nat):Rat):=by grind
   exact_mod_cast C
  ·rw[s]at f;exact absurd f (by decide)
 have:=j (by
  clear q j o g;generalize (K:Rat)*p2 (-18)=k at *;generalize (M:Rat)*p2 p=x at *;generalize p2 (-18)=u at *;generalize p2 (-19)=v at *;grind)
 omega
theorem e8I {s t q:Nat} {x y z:Rat} (f:IsS s x) (E:IsS t y) (n:IsS q z) (K:0<=x) (L:x<=50) (Q:0<=y) (R:y<=50) (u:0<=z) (S:z<=1):∃r,IsS (e7H s t q) r /\ 0<=r /\ r<=50:=by
 unfold e7H;have hd:=b9I E f;by_cases F:x<=y
 ·obtain⟨d,a,l,v,w,_⟩:=hd.le d7A (by decide +kernel) (by grind) (by grind);have b:=w (by grind);have P:p2 (5+1)=64:=by decide +kernel
  obtain⟨e,B,C,D⟩:=hd.val 5 (by decide) (by decide) (by grind) (by grind);have h:e=d:=by
   obtain⟨s1,m1,M,j,_,rfl⟩:=a;obtain⟨s2,o,N,k,_,rfl⟩:=B;rw[j]at k;cases k;rfl
  subst h;have i:0<=e*z:=Rat.mul_nonneg b u;have c:e*z<=e:=by have:=Rat.mul_nonneg b (show 0<=1-z by grind);grind
  obtain⟨m,m1,o,_,H,_⟩:=(c7W a n).le (a.sv b) (Rat.le_trans l (by decide +kernel)) c (by grind);have G:=H i;rw[show(5:Int)-24=-19 from rfl]at C D;exact(d7k f m1).fifty (by grind) (by grind)
 ·have p:=f.sv K;have g:x<=p2 126:=Rat.le_trans L (by decide +kernel);obtain⟨d,a,l,v,_,A⟩:=hd.le p g (by grind) (by grind);have b:=A (by grind);have i:d*z<=0:=by have:=Rat.mul_nonneg (show 0 <= -d by grind) u;grind
  have c:d<=d*z:=by have:=Rat.mul_nonneg (show 0 <= -d by grind) (show 0<=1-z by grind);grind
  obtain⟨m,m1,o,O,_,I⟩:=(c7W a n).le (a.svn b) (Rat.le_trans (show -d<=x by grind) g) (by grind) (by grind);have G:=I i;obtain⟨r,j,k,_,J,_⟩:=(d7k f m1).le p g (by grind) (by grind);exact⟨r,j,J (by grind),by grind⟩
theorem Rnd.exact {w:Nat} {x:Rat} (h:Rnd w x) (f:Sv x) (d:0<=x) (e:x<=p2 126):IsS w x:=by
 obtain⟨r,o,y,z,q,_⟩:=h.le f e Rat.le_refl (by grind);obtain⟨neg,M,p,rfl,rfl⟩:=h;have A:(0:Rat)<=(M:Rat)*p2 p:=Rat.mul_nonneg (by exact_mod_cast a0e (zero_le M)) (Rat.le_of_lt (a0q p));by_cases a:M=0
 ·subst a;rw[a2F]at *;have:=q Rat.le_refl;rw[show(0:Rat)=r by grind];exact o
 have b:(M.log2:Int)+p<=126:=by
  have v:=a0r (a0e (Nat.log2_self_le a)) (Rat.le_of_lt (a0q p));rw[<- a0R,<- a0G]at v;apply Classical.byContradiction;intro B;have:=a7v (show(126:Int)+1<=(M.log2:Int)+p by omega);rw[a2a]at this;have:=a0q 126;unfold RV at e d;cases neg
  ·rw[show sgR false=1 from rfl]at e;grind
  ·rw[show sgR true=-1 from rfl]at d;have:=a0q ((M.log2:Int)+p);grind
 obtain⟨K,last,g,t,j,k,_,_⟩:=a3L neg M p a b;have s:0<(M:Rat)*p2 p:=Rat.mul_pos (by exact_mod_cast Rat.natCast_lt_natCast.2 (Nat.pos_of_ne_zero a)) (a0q p);have c:neg=false:=by
  cases neg
  ·rfl
  ·exfalso;unfold RV at d;rw[show sgR true=-1 from rfl]at d;grind
 subst c;have m:RV false M p=(M:Rat)*p2 p:=by unfold RV;rw[show sgR false=1 from rfl];grind
 rw[m]at f ⊢;obtain⟨n,u⟩:=f.units a t Rat.le_refl;have i:=a0q last;rw[u]at j k ⊢;have C:=b1T i j;have D:=b1T i k;have l:sgR false*(K:Rat)*p2 last=(K:Rat)*p2 last:=by rw[show sgR false=1 from rfl];grind
 rw[l]at g;rw[show(n:Rat)*p2 last=(K:Rat)*p2 last by grind];exact g
theorem g1c {n:Int} (h:1<=n) (f:n<=1000):IsS (FloatKind.nearest .f32 n) (n:Rat):=by
 have c:((n.natAbs:Nat):Rat)=(n:Rat):=by
  rw[<- Rat.intCast_natCast];congr 1;omega
 have d:RV false n.natAbs 0=(n:Rat):=by
  unfold RV;rw[show sgR false=1 from rfl,show p2 0=1 by decide +kernel,c];grind
 have e:FloatKind.nearest .f32 n=Ieee.single.nearest (decide (n<0)) n.natAbs 0:=rfl;rw[e,show decide (n<0)=false from decide_eq_false (by omega)];have g:(n:Rat)<=((1000:Int):Rat):=Rat.intCast_le_intCast.2 f;have a:((0:Int):Rat)<=n:=Rat.intCast_le_intCast.2 (show(0:Int)<=n by omega);have b:n.natAbs<2^24:=by omega
 exact Rnd.exact ⟨false,n.natAbs,0,rfl,d⟩ ⟨n.natAbs,0,b,by decide,by rw[show p2 0=1 by decide +kernel,c];grind⟩ a (Rat.le_trans g (by decide +kernel))
theorem Sv.cases {x:Rat} (h:Sv x) {last:Int} (j:-149<=last):(∃n:Nat,x=(n:Rat)*p2 last)∨(last ≠ -149 /\ x<((2^23:Nat):Rat)*p2 last):=by
 obtain⟨m,e,f,i,rfl⟩:=h;by_cases d:last<=e
 ·left;refine⟨m*2^(e-last).toNat,?_⟩;have c:e=((e-last).toNat:Int)+last:=by omega
  rw[Rat.natCast_mul,<- a0R]
  conv=>lhs;rw[c,a0G]
  grind
 ·right;refine⟨by omega,?_⟩;have g:(m:Rat)*p2 e<((2^24:Nat):Rat)*p2 e:=Rat.mul_lt_mul_of_pos_right (Rat.natCast_lt_natCast.2 f) (a0q e);have b:=a7v (show e+1<=last by omega);rw[a2a]at b;have a:((2^24:Nat):Rat)=2*((2^23:Nat):Rat):=by decide +kernel
  have k:=Rat.mul_le_mul_of_nonneg_left b (show(0:Rat)<=((2^23:Nat):Rat)by decide +kernel);rw[a]at g;grind
theorem f7S {v u x:Nat} {V U X:Rat} (n:IsS v V) (A:IsS u U) (C:IsS x X) (J:0<U) (L:U<=X) (N:X<V) (H:V<=1000):∃d,IsS (a0b .sub .f32 v u) d /\ X-U<d:=by
 obtain⟨neg,M,p,B,g⟩:=b9I n A;rw[B];have G:(0:Rat)<=(M:Rat)*p2 p:=Rat.mul_nonneg (by exact_mod_cast a0e (zero_le M)) (Rat.le_of_lt (a0q p));have j:neg=false:=by
  cases neg
  ·rfl
  ·exfalso;unfold RV at g;rw[show sgR true=-1 from rfl]at g;grind
 subst j;have r:RV false M p=(M:Rat)*p2 p:=by unfold RV;rw[show sgR false=1 from rfl];grind
 rw[r]at g;have e:M≠0:=by
  intro h;subst h;rw[show((0:Nat):Rat)=0 from rfl,Rat.zero_mul]at g;grind
 have i:(M.log2:Int)+p<=126:=by
  have l:=a0r (a0e (Nat.log2_self_le e)) (Rat.le_of_lt (a0q p));rw[<- a0R,<- a0G]at l;have q:p2 10=1024:=by decide +kernel
  have:=a3b (show p2 ((M.log2:Int)+p)<p2 10 by grind);omega
 obtain⟨K,last,m,z,D,E,_,_⟩:=a3L false M p e i;have o:sgR false*(K:Rat)*p2 last=(K:Rat)*p2 last:=by rw[show sgR false=1 from rfl];grind
 rw[o]at m;refine⟨_,m,?_⟩;rw[g]at D E;have f:=a0q last;obtain⟨a,I⟩:=(n.sv (by grind)).units e z (show(M:Rat)*p2 p<=V by grind);rcases (C.sv (by grind)).cases (last:=last) (by omega)with⟨b,hb⟩|⟨h149,hb⟩
 ·have k:b+1<=a:=by
   apply Classical.byContradiction;intro y;have:=a0r (a0e (show a<=b by omega)) (Rat.le_of_lt f);grind
  have s:=a0r (a0e k) (Rat.le_of_lt f);rw[Rat.natCast_add,show((1:Nat):Rat)=1 from rfl]at s;grind
 ·have l:=a0r (a0e (Nat.log2_self_le e)) (Rat.le_of_lt (a0q p));rw[<- a0R,<- a0G,show(M.log2:Int)+p=((23:Nat):Int)+last by omega,a0G,a0R,g]at l;have w:2^23<=K:=by
   apply Classical.byContradiction;intro y;have t:=a0r (a0e (show K+1<=2^23 by omega)) (Rat.le_of_lt f);rw[Rat.natCast_add,show((1:Nat):Rat)=1 from rfl]at t;generalize ((2^23:Nat):Rat)=c at *;grind
  have F:=a0r (a0e w) (Rat.le_of_lt f);generalize ((2^23:Nat):Rat)=c at *;grind
def V50 (w:Nat):Prop:=∃r,IsS w r /\ 0<=r /\ r<=50
theorem V50.boat {w:Nat} (h:V50 w):a2e w=true:=by
 obtain⟨r,a,b,c⟩:=h;unfold a2e;rw[g0Q a d2i,e2B a d7l];simp only[b,c,decide_true,Bool.and_self]
theorem d2C {p:a4Q} (h:POK p) {i:Nat} (t:i<p.1.length) {a:Int} (I:0<=a) (r:a<=180):V50 (b4s p (rAt p i) a):=by
 obtain⟨k,g⟩:=h.row i t;have b:∀j,j<p.2.1.length->V50 ((rAt p i).getD j 0):=by
  intro j L;unfold a6m at g;have:=a0u.1 g j (zero_le _) (by omega);have this:a2e ((rAt p i).getD j 0)=true:=this;unfold a2e at this;simp only[Bool.and_eq_true]at this;exact f7k d7l this.1 this.2
 obtain⟨_,f,v,w⟩:=c7t h r;unfold b4s;generalize idx p a=j at *;unfold e2A;cases c:(aAt p j==a)
 ·have e:aAt p j≠a:=by simpa using c
  have u:0<j:=by
   rcases Nat.eq_zero_or_pos j with d|d
   ·have:=h.first
    rw[d]at v e;omega
   ·exact d
  have J:=c7X h (j-1) (by omega);have s:=c7X h j f;have K:=w (j-1) (by omega);have w1:IntKind.i64.wrap (a-aAt p (j-1))=a-aAt p (j-1):=w64 (by omega) (by omega);have w2:IntKind.i64.wrap (aAt p j-aAt p (j-1))=aAt p j-aAt p (j-1):=w64 (by omega) (by omega);rw[w1,w2];obtain⟨x,C,D,E⟩:=b (j-1) (by omega);obtain⟨y,F,G,H⟩:=b j f;have z:=g1c (n:=a-aAt p (j-1)) (by omega) (by omega);have l:=g1c (n:=aAt p j-aAt p (j-1)) (by omega) (by omega);have m:((1:Int):Rat)<=((a-aAt p (j-1):Int):Rat):=Rat.intCast_le_intCast.2 (by omega);have o:((a-aAt p (j-1):Int):Rat)<=((aAt p j-aAt p (j-1):Int):Rat):=Rat.intCast_le_intCast.2 (by omega);rw[show((1:Int):Rat)=1 from rfl]at m;obtain⟨q,q1,A,B⟩:=c8A z l (by grind) (by grind) o;exact e8I C F q1 D E G H A B
 ·exact b j f
theorem e1G {p:a4Q} {wind:Nat} (h:g2M p wind) {a:Int} (k:0<=a) (l:a<=180):V50 (a7j p wind a):=by
 have b:=pok h.ok;have Z:=b.w1;obtain⟨x,e,T,x3⟩:=f7k b9J h.w1 h.w2;unfold a7j;cases c1:fle wind (wAt p 0)
 rotate_left
 ·obtain⟨w,w1,w2,w3⟩:=e0S b (i:=0) (by omega);rw[e2B e w1]at c1;simp only[decide_eq_true_eq]at c1;obtain⟨q,q1,y,E⟩:=c8A e w1 T w2 c1;obtain⟨r,f,c,z⟩:=d2C b (i:=0) (by omega) k l;have J:q*r<=r:=by have:=Rat.mul_nonneg (show 0<=1-q by grind) c;grind
  have H:=Rat.mul_nonneg y c;obtain⟨m,m1,L,_,M,_⟩:=(c7W q1 f).le (f.sv c) (Rat.le_trans z (by decide +kernel)) J (by grind);exact⟨m,m1,M H,by grind⟩
 cases c2:fge wind (wAt p (p.1.length-1))
 rotate_left
 ·exact d2C b (i:=p.1.length-1) (by omega) k l
 obtain⟨i1,C,K⟩:=b6n b h.w1 h.w2 c1 c2;generalize c1z p wind=j at *;obtain⟨u,g,S,u3⟩:=e0S b (i:=j) (by omega);obtain⟨v,A,v2,v3⟩:=e0S b (i:=j+1) (by omega);rw[e2B A e]at C;simp only[decide_eq_false_iff_not]at C;have t:u<=x:=by
  rcases Nat.eq_zero_or_pos j with B|B
  ·subst B;rw[e2B e g]at c1;simp only[decide_eq_false_iff_not]at c1;grind
  ·have:=K (j-1) (by omega);rw[show j-1+1=j by omega,e2B g e]at this;simpa using this
 obtain⟨d,o,U⟩:=f7S A g e S t (by grind) (by grind);have hd:d<=p2 126:=by
  have p8:p2 (7+1)=256:=by decide +kernel
  obtain⟨F,G,V,W⟩:=(b9I A g).val 7 (by decide) (by decide) (by grind) (by grind);have I:F=d:=by
   obtain⟨s1,m1,X,f,_,rfl⟩:=o;obtain⟨s2,L,Y,c,_,rfl⟩:=G;rw[f]at c;cases c;rfl
  have R:p2 (7-24)<=1:=by decide +kernel
  have D:(1000:Rat)<=p2 126:=by decide +kernel
  grind
 simp only[cond_false];obtain⟨n,O,P,_,Q,_⟩:=(b9I e g).le (o.sv (by grind)) hd (by grind) (by grind);have N:=Q (by grind);obtain⟨q,q1,y,E⟩:=c8A O o N (by grind) P;obtain⟨r,f,c,z⟩:=d2C b (i:=j) (by omega) k l;obtain⟨s,s1,s2,s3⟩:=d2C b (i:=j+1) (by omega) k l;exact e8I f s1 q1 c z s2 s3 y E
theorem c8B (Y:Yv):a2e (a4o Y)=true:=by
 unfold a4o b0w;cases decide (a2m Y.wd<0)
 ·cases h:(a2b Y.1.1&&(fge (a7x Y.wd) 0&&(fle (a7x Y.wd) 1120403456&&a0m (btw Y.hd (a2m Y.wd)) 0 180)))
  ·exact(by decide +kernel:a2e 0=true)
  ·simp only[Bool.and_eq_true]at h;obtain⟨b,c,d,a⟩:=h;unfold a0m at a;simp only[Bool.and_eq_true,decide_eq_true_eq]at a;exact(e1G ⟨b,c,d⟩ a.1 a.2).boat
 ·exact(by decide +kernel:a2e 0=true)
theorem c8C (Y:Yv):a7y Y=a1y Y:=by
 unfold a7y a1y;rw[show(b4u Y.hd (a4o Y)).2.1=true from by unfold b4u;rw[c8B];rfl];rfl
set_option maxRecDepth 100000
set_option maxHeartbeats 0
noncomputable def N59 (p66:KI I66) (Q66:QI I66 O66) (e66:Nonempty (Ch I66 O66 p66 Q66)):a6I:=mkN [(66,a2w true I66 O66 p66 Q66 e66)] []
noncomputable def g1d (p66:KI I66) (Q66:QI I66 O66) (e66:Nonempty (Ch I66 O66 p66 Q66)) (h:Den R59->Option Unit) (x:Den A59):Option Unit:=bif K30 (x,()) then a3u fun(f:Ch I66 O66 p66 Q66)=>let d:=G30 (x,());bif p66 (((),()),d.2) then let a:=f.val (((),()),d.2);bif K77 (((),3,()),a.2) then let b:=G77 (((),3,()),a.2);bif b.1.1 then let e:=(((),a.1.1.1.2.2.2),b.2);bif f7y e then let c:=f1l e;bif K34 (((),60,()),c.2.1,()) then h (((a.1.1.1,10000000,a.1.1.2.2.1,a.1.1.2.2.2.1,a.1.1.2.2.2.2.1,a.1.1.2.2.2.2.2.1,c.2.2.1,a.1.1.2.2.2.2.2.2.2),(G34 (((),60,()),c.2.1,())).1))else none else none else bif K34 (((),60,()),b.2) then h ((a.1.1,(G34 (((),60,()),b.2)).1))else none else none else none else none
theorem f7T (p66 Q66 e66 h x) :a7s (f7A) (N59 p66 Q66 e66) (a0N Tryz.f59) (a7t R59 h) (a6t A59 x) []=g1d p66 Q66 e66 h x:=by kernel_rfl
noncomputable def N21 (pT59:KA A59) (QT59:Den A59->Den R59->Prop) (eT59:Nonempty (ChT A59 R59 pT59 QT59)):a6I:=mkN [(59,b2Q A59 R59 pT59 QT59 eT59)] []
noncomputable def g1e (pT59:KA A59) (QT59:Den A59->Den R59->Prop) (eT59:Nonempty (ChT A59 R59 pT59 QT59)) (h:Den R21->Option Unit) (x:Den A21):Option Unit:=a3u fun(a:ChT A59 R59 pT59 QT59)=>bif pT59 x then h (((a.val x).1,()))else none
theorem f7U (pT59 QT59 eT59 h x) :a7s (f7C) (N21 pT59 QT59 eT59) (a0N Tryz.f21) (a7t R21 h) (a6t A21 x) []=g1e pT59 QT59 eT59 h x:=by kernel_rfl
noncomputable def N6 (pT21:KA A21) (QT21:Den A21->Den R21->Prop) (eT21:Nonempty (ChT A21 R21 pT21 QT21)):a6I:=mkN [(21,b2Q A21 R21 pT21 QT21 eT21)] []
noncomputable def rN6 (pT21:KA A21) (QT21:Den A21->Den R21->Prop) (eT21:Nonempty (ChT A21 R21 pT21 QT21)) (h:Den R6->Option Unit) (x:Den A6):Option Unit:=bif K8 x then bif (G8 x).1 then h ((true,()))else a3u fun(c:ChT A21 R21 pT21 QT21)=>bif pT21 x then let b:=c.val x;bif K22 b then bif K18 b then bif !(G18 b).1 then h ((a1a (G22 b).1 { data:=#[] },()))else let i:=G22 b;bif K16 i then bif K23 (b.1.2.2.1,()) then let j:=((b.1.1.2.2.2.1,b.1.2.2.2.2.2.2.1,0,()),());bif K24 j then let a:=G16 i;bif a.2.1 then let e:=(List.length a.1:Int);bif e==7 then bif decide (0<=0)&&decide (0<e) then bif K25 (b.1.2.1,()) then bif a1a (getD a.1 (toNat 0) (zero Ty.str)) (G25 (b.1.2.1,())).1 then bif decide (0<=1)&&decide (1<e) then let d:=G23 (b.1.2.2.1,());bif K25 (d.1.1,()) then bif a1a (getD a.1 (toNat 1) (zero Ty.str)) (G25 (d.1.1,())).1 then bif decide (0<=2)&&decide (2<e) then bif K25 d.1.2 then bif a1a (getD a.1 (toNat 2) (zero Ty.str)) (G25 d.1.2).1 then bif decide (0<=5)&&decide (5<e) then let k:=((List.length b.1.2.2.2.2.2.2.1:Int),());bif K25 k then bif a1a (getD a.1 (toNat 5) (zero Ty.str)) (G25 k).1 then bif decide (0<=6)&&decide (6<e) then let g:=G24 j;let l:=((List.length g.2.1:Int),());bif K25 l then h ((a1a (getD a.1 (toNat 6) (zero Ty.str)) (G25 l).1,()))else none else none else h ((false,()))else none else none else h ((false,()))else none else none else h ((false,()))else none else none else h ((false,()))else none else none else h ((false,()))else h ((false,()))else none else none else none else none else none else none else none
theorem g3d (pT21 QT21 eT21 h x) :a7s (Γ6) (N6 pT21 QT21 eT21) (a0N Tryz.f6) (a7t R6 h) (a6t A6 x) []=rN6 pT21 QT21 eT21 h x:=by kernel_rfl
def pT59 (x:Den A59):Bool:=c8c x.1
def QT59 (x:Den A59) (y:Den R59):Prop:=YM y.1
theorem eT59:Nonempty (ChT A59 R59 pT59 QT59):=⟨⟨fun _=>(e8c,0,()),fun _ _=>c8z⟩⟩
def pT21 (x:Den A21):Bool:=c8c x.1
def QT21 (x:Den A21) (y:Den R21):Prop:=YM y.1
theorem eT21:Nonempty (ChT A21 R21 pT21 QT21):=⟨⟨fun _=>(e8c,()),fun _ _=>c8z⟩⟩
theorem f7V:a1T Tryz.prog 59 (b2Q A59 R59 pT59 QT59 eT59):=d2P f7B (N:=N59 p66 Q66 e66) (a4h ⟨f7Q,trivial⟩) g2Z a1L fun x j k a=>by
 have a:∀y:Den R59,YM y.1->k y=some ():=a;have h:x.1.length<=1048576:=by simpa[pT59,c8c]using j
 refine Eq.trans (f7T _ _ _ k x) ?_;unfold g1d;dsimp only;have f:=c4t (x,()) h
 haveI:=e66
 refine a0p (d4D (x,()) h) ?_;refine a0t fun g=>?_
 have e:p66 (((),()),(G30 (x,())).snd)=true:=a0W.2 f;obtain⟨q1,b⟩:=g.2 _ e;refine a0p e ?_;generalize g.val (((),()),(G30 (x,())).snd)=A at *;refine a0p (a1j _ q1) ?_;have c:a0a (G77 (((),3,()),A.snd)).2.1:=a1g _ q1;generalize G77 (((),3,()),A.snd)=B at *;refine a1m (fun _=>?_) (fun _=>a0p (a0k _ c) (a _ b));have d:A.fst.fst.1.2.2.2.1.2.1.length<=22:=b.boat.2.2.2;obtain⟨i,l⟩:=e1F (((),A.fst.fst.fst.snd.snd.snd),B.snd) c d;refine a0p (e1E (((),A.fst.fst.fst.snd.snd.snd),B.snd) c d) ?_;exact a0p (a0k _ i) (a _ ⟨b.boat,Nat.le_trans l (by decide),b.lg⟩)
theorem f7W:a1T Tryz.prog 21 (b2Q A21 R21 pT21 QT21 eT21):=d2P f7D (N:=N21 pT59 QT59 eT59) (a4h ⟨f7V,trivial⟩) g3a a1L fun x b k a=>by
 have a:∀y:Den R21,YM y.1->k y=some ():=a;refine Eq.trans (f7U _ _ _ k x) ?_;unfold g1e
 haveI:=eT59
 refine a0t fun g=>?_
 exact a0p (show pT59 x=true from b) (a _ (g.2 x b))
theorem g3e:NOK Tryz.prog (N6 pT21 QT21 eT21):=a4h ⟨f7W,trivial⟩
theorem b4H (x:Den A6) (w:Wf A6 x):a7s (Γ6) (N6 pT21 QT21 eT21) (a0N Tryz.f6) (a7t R6 c8d) (a6t A6 x) []=some ():=by
 refine Eq.trans (g3d _ _ _ c8d x) ?_;unfold rN6;simp only[K8,G8,g2S,Option.isSome_some,Option.getD_some,cond_true];by_cases n:(x.1.length:Int)>1048576
 ·simp only[n,decide_true,cond_true];rfl
 simp only[n,decide_false,cond_false]
 haveI:=eT21
 refine a0t fun g=>?_
 have o:pT21 x=true:=by show decide (x.1.length<=1048576)=true;simp;omega
 have e:YM (g.val x).1:=g.2 _ o;refine a0p o ?_;generalize g.val x=d at *;obtain⟨Y,_⟩:=d;change Yv at Y;have e:YM Y:=e;have h:=kg (F:=F22) (d:=zero R22) (e8v Y e);have c:=kg (F:=F18) (d:=zero R18) (d7h Y e);rw[<- c8C]at c;refine a0p (show K22 (Y,())=true from h.1) (a0p (show K18 (Y,())=true from c.1) ?_);rw[show G18 (Y,())=_ from c.2,show G22 (Y,())=_ from h.2];obtain⟨T,b⟩:∃T,T=(bif okV (a7y Y) Y then a1t (b6v Y)else{ data:=#[] }):=⟨_,rfl⟩;rw[<- b];cases ho:okV (a7y Y) Y with
 | false =>
   rw[ho]at b;have b:T={ data:=#[] }:=b;subst b;show c8d (a1a { data:=#[] } { data:=#[] },())=some ();rw[a3a];rfl
 | true =>
   have R:=d7u e ho;have W:=b4g (b6v Y) (b4E R) (by simp[b6v]) (show 7<=24 by decide);have f:=kg (F:=F16) (d:=zero R16) W.1;have i:=kg (F:=F23) (d:=zero R23) (c7L Y.ps);have a:G23 (Y.ps,())=a0Z Y.ps:=i.2;have p:=g1a Y e;have a1:=c8q R.tm;have a2:=c8q R.x;have k:=c8q R.y;have l:=c8q R.tk;have m:=c8q R.pr;have j:G24 ((Y.1.2.2.2.1,Y.tk,0,()),())=(((),()),(e2D Y,())):=p.2;rw[ho]at b;have b:T=a1t (b6v Y):=b;subst b;refine bf rfl (bt (show K16 (a1t (b6v Y),())=true from f.1) (bt (show K23 (Y.ps,())=true from i.1) (bt p.1 ?_)));rw[show G16 (a1t (b6v Y),())=(b6v Y,true,())from f.2];refine bt rfl (bt rfl (bt rfl (bt a1.1 (bt ?_ (bt rfl (bt ?_ (bt ?_ (bt rfl (bt ?_ (bt ?_ (bt rfl (bt l.1 (bt ?_ (bt rfl (bt ?_ ?_)))))))))))))))
   ·show a1a (bOf (Lib.itoa Y.tm)) (G25 (Y.tm,())).1=true;rw[a1.2];exact a3a _
   ·show K25 ((G23 (Y.ps,())).1.1,())=true;rw[a];exact a2.1
   ·show a1a (bOf (Lib.itoa (a0Z Y.ps).1.1)) (G25 ((G23 (Y.ps,())).1.1,())).1=true;rw[a,a2.2];exact a3a _
   ·show K25 (G23 (Y.ps,())).1.2=true;rw[a];exact k.1
   ·show a1a (bOf (Lib.itoa (a0Z Y.ps).1.2.1)) (G25 (G23 (Y.ps,())).1.2).1=true;rw[a,show G25 (a0Z Y.ps).1.2=_ from k.2];exact a3a _
   ·show a1a (bOf (Lib.itoa Y.tk.length)) (G25 ((Y.tk.length:Int),())).1=true;rw[l.2];exact a3a _
   ·show K25 (((G24 ((Y.1.2.2.2.1,Y.tk,0,()),())).2.1.length:Int),())=true;rw[j];exact m.1
   ·show c8d (a1a (bOf (Lib.itoa (e2D Y).length)) (G25 (((G24 ((Y.1.2.2.2.1,Y.tk,0,()),())).2.1.length:Int),())).1,())=some ();rw[j,m.2,a3a];rfl
end Go.Proofs.YtjomnmoekchfeaaGreatDoor.AM
