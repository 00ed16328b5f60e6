/- Texts of one proof, joined: an abstract machine for the program, its functions evaluated, plain lemmas. Conditions: those that each lemma names. -/
import Derived.Test.YtjomnmoekchfeaaGreatDoorM4
import Derived.Test.YtjomnmoekchfeaaGreatDoorM3
set_option linter.unusedVariables false
set_option linter.unusedSimpArgs false
namespace Go.Proofs.YtjomnmoekchfeaaGreatDoor.AM
open IntKind (wrap)
open List (length replicate getD set length_append length_replicate length_set)
open Int (toNat toNat_natCast)
open Option (getD_some isSome_some)
open Bool (and_eq_true)
open FloatKind (nearest)
open Nat (le_refl zero_le)
open Option.some (injEq)
open Go Go.Proofs
set_option exponentiation.threshold 2000
theorem b1e (W q:Nat) (a:W<2^64) (e:q<64):(BitVec.ofNat 64 W &&& ~~~(BitVec.ofNat 64 (2^q-1))).toNat=W/2^q*2^q:=by
 apply Nat.eq_of_testBit_eq;intro i;rw[Nat.testBit_mul_two_pow,BitVec.toNat_and,Nat.testBit_and,BitVec.toNat_ofNat,Nat.mod_eq_of_lt a,Nat.testBit_div_two_pow];by_cases b:q<=i
 ·have c:i-q+q=i:=by omega
  rw[c];by_cases d:i<64
  ·have:(~~~(BitVec.ofNat 64 (2^q-1))).toNat.testBit i=true:=by
    rw[BitVec.testBit_toNat,BitVec.getLsbD_not,BitVec.getLsbD_ofNat,Nat.testBit_two_pow_sub_one];simp;omega
   rw[this];simp[b]
  ·have:W.testBit i=false:=Nat.testBit_lt_two_pow (Nat.lt_of_lt_of_le a (Nat.pow_le_pow_right (by decide) (by omega)));rw[this];simp
 ·have:(~~~(BitVec.ofNat 64 (2^q-1))).toNat.testBit i=false:=by
   rw[BitVec.testBit_toNat,BitVec.getLsbD_not,BitVec.getLsbD_ofNat,Nat.testBit_two_pow_sub_one];simp;omega
  rw[this];simp[b]
theorem a9C (w:Nat):BitVec.ofInt 64 (w:Int)=BitVec.ofNat 64 (w%2^64):=by
 apply BitVec.eq_of_toNat_eq;rw[BitVec.toNat_ofInt,BitVec.toNat_ofNat];omega
theorem b5k (w q:Nat) (a:q<64):a2c .andNot .u64 (w:Int) ((2^q-1:Nat):Int)=((w%2^64/2^q*2^q:Nat):Int):=by
 show IntKind.u64.wrap (((BitVec.ofInt 64 (w:Int) &&& ~~~(BitVec.ofInt 64 ((2^q-1:Nat):Int))).toNat:Nat):Int)=_;have b:2^q<=2^63:=Nat.pow_le_pow_right (by decide) (by omega);rw[a9C,a9C,Nat.mod_eq_of_lt (show 2^q-1<2^64 by omega),b1e _ q (Nat.mod_lt _ (by decide)) a,IntKind.wrap_u64];have:w%2^64/2^q*2^q<=w%2^64:=Nat.div_mul_le_self _ _;have:w%2^64<2^64:=Nat.mod_lt _ (by decide);omega
def sgB (w:Nat):Bool:=w/2^63%2==1
def sgW (w:Nat):Nat:=if sgB w then 2^63 else 0
theorem f3s (w:Nat):w%2^64=sgW w+w%2^63:=by
 unfold sgW sgB;by_cases h:w/2^63%2=1
 ·rw[if_pos (by simpa using h)];omega
 ·rw[if_neg (by simpa using h)];omega
theorem b1f (w:Nat):a2c .and .u64 (w:Int) 9223372036854775808=((sgW w:Nat):Int):=by
 have e:BitVec.ofInt 64 9223372036854775808 = ~~~(BitVec.ofNat 64 (2^63-1)):=by decide
 show IntKind.u64.wrap (((BitVec.ofInt 64 (w:Int) &&& BitVec.ofInt 64 9223372036854775808).toNat:Nat):Int)=_;rw[a9C,e,b1e _ 63 (Nat.mod_lt _ (by decide)) (by decide),IntKind.wrap_u64];unfold sgW sgB;by_cases h:w/2^63%2=1
 ·rw[if_pos (by simpa using h)];omega
 ·rw[if_neg (by simpa using h)];omega
structure f3t (w:Nat) (m q:Nat):Prop where
 rd:Ieee.double.read w = .number (sgB w) m (-(q:Int))
 q0:26<=q
 q1:q<=1074
 m1:m<2^53
 le:m/2^q<=100000000
 rung:(q=1074 /\ m=w%2^63 /\ m<2^52)∨(2^52<=m /\ w%2^63=(1075-q)*2^52+(m-2^52))
theorem b2H {w:Nat} (h:le8 (w%2^63)=true):∃m q,f3t w m q:=by
 obtain⟨x,C,k⟩:=g4O h;obtain⟨s,m,e,a,I,rfl⟩:=C;have g:=a;have j:(m:Rat)*p2 e<=100000000:=by
  unfold RV at k;obtain⟨r,t⟩:=k;cases s
  ·have:sgR false=1:=rfl;rw[this]at t;grind
  ·have:sgR true=-1:=rfl;rw[this]at r;grind
 unfold Ieee.Format.read at a;dsimp only at a;rw[e7K,b7j,b7i,e4i]at a;have d:∀q:Nat,e=-(q:Int)->m<=100000000*2^q:=by
  intro q i;have A:p2 e*p2 (q:Int)=1:=by rw[<- a0N,i,show -(q:Int)+(q:Int)=0 by omega];rfl
  have l:=a0s j (Rat.le_of_lt (a0q (q:Int)));have n:(m:Rat)*p2 e*p2 (q:Int)=(m:Rat):=by rw[Rat.mul_assoc,A,Rat.mul_one]
  rw[n,a0T]at l;have:(m:Rat)<=((100000000*2^q:Nat):Rat):=by
   rw[Rat.natCast_mul];exact l
  exact Rat.natCast_le_natCast.1 this
 have b:∀q:Nat,m<=100000000*2^q->m/2^q<=100000000:=fun q i=>by
  have:m/2^q<=100000000*2^q/2^q:=Nat.div_le_div_right i
  rwa [Nat.mul_div_cancel _ (Nat.two_pow_pos q)]at this
 split at a
 ·rename_i c;cases a;refine⟨w%2^63,1074,g,by decide,by decide,by omega,b 1074 (d 1074 rfl),.inl ⟨rfl,rfl,c⟩⟩
 ·rename_i c;split at a
  ·rename_i D
   injection a with f1 f2 f3
   obtain⟨q,i⟩:∃q:Int,q=-e:=⟨_,rfl⟩;have z:∃B:Nat,B=w%2^63/2^52 /\ 1<=B /\ e=(B:Int)-1075:=⟨_,rfl,by omega,by omega⟩;obtain⟨B,G,u,v⟩:=z;have y:B<=1049:=by
    apply Classical.byContradiction;intro H;have o:p2 (-25)<=p2 e:=a8f (by omega);have p:((2^52:Nat):Rat)<=(m:Rat):=a0e (by omega);have E:((2^52:Nat):Rat)*p2 (-25)<=(m:Rat)*p2 e:=by
     have a1:=a0s p (Rat.le_of_lt (a0q (-25)));have a2:=Rat.mul_le_mul_of_nonneg_left o (a2w m);grind
    have F:(100000000:Rat)<((2^52:Nat):Rat)*p2 (-25):=by decide +kernel
    grind
   have f:e=-((1075-B:Nat):Int):=by omega
   refine⟨m,1075-B,?_,by omega,by omega,by omega,b _ (d _ f),.inr ⟨by omega,by omega⟩⟩;rw[g,f,<- f1];rfl
  ·split at a<;>cases a
theorem c9U (neg:Bool) (m q:Nat) (d:m<2^53) (e:(q:Nat)<=2000):Ieee.Toward.zero.cut neg m q=m/2^q:=by
 unfold Ieee.Toward.cut;dsimp only;rw[Nat.one_shiftLeft];show m/2^min q (m.log2+2)+0=_;rw[Nat.add_zero];by_cases h:q<=m.log2+2
 ·rw[Nat.min_eq_left h]
 ·rw[Nat.min_eq_right (by omega)];have a:m<2^(m.log2+1):=Nat.lt_log2_self;have b:m<2^(m.log2+2):=Nat.lt_of_lt_of_le a (Nat.pow_le_pow_right (by decide) (by omega));have c:m<2^q:=Nat.lt_of_lt_of_le a (Nat.pow_le_pow_right (by decide) (by omega));rw[Nat.div_eq_of_lt b,Nat.div_eq_of_lt c]
def sgI (s:Bool) (n:Nat):Int:=if s then -(n:Int)else(n:Int)
theorem c9V {w:Nat} {s:Bool} {m q:Nat} (h:Ieee.double.read w = .number s m (-(q:Int))) (c:m<2^53) (d:q<=2000):Ieee.Datum.toInt .zero (FloatKind.f64.decode w)=some (sgI s (m/2^q)):=by
 have e:FloatKind.f64.decode w = .number s m (-(q:Int)):=h;rw[e];show some (Ieee.signed s (Ieee.Toward.zero.cut s (m <<< (-(q:Int)).toNat) (- -(q:Int)).toNat) 0)=_;have a:(-(q:Int)).toNat=0:=by omega
 have b:(- -(q:Int)).toNat=q:=by omega
 rw[a,b,Nat.shiftLeft_zero,c9U _ _ _ c d];rfl
theorem a9D {w:Nat} {s:Bool} {m q:Nat} (h:Ieee.double.read w = .number s m (-(q:Int))) (d:m<2^53) (f:q<=2000):f2i .f64 w=sgI s (m/2^q) /\ a6n .f64 w .i64=true:=by
 have e:=c9V h d f;unfold f2i a6n;rw[e];refine⟨rfl,?_⟩;have:m/2^q<=m:=Nat.div_le_self _ _;have a:IntKind.i64.min=-9223372036854775808:=by decide
 have b:IntKind.i64.max=9223372036854775807:=by decide
 show(decide _&&decide _)=true;rw[a,b];generalize m/2^q=c at *;unfold sgI;simp only[and_eq_true,decide_eq_true_eq];split<;>omega
def c0X (m q:Nat):Nat:=(m+2^(q-1))/2^q
theorem g4W (q m:Nat) (a:26<=q) (b:q<=52) (c:2^52<=m) (d:m<2^53) (r:Nat) (e:r=((1075-q)*2^52+(m-2^52)+2^(q-1))/2^q*2^q) :
 (r/2^52=1075-q /\ (2^52+r%2^52)/2^q=c0X m q)∨(r/2^52=1076-q /\ (2^52+r%2^52)/2^(q-1)=c0X m q):=by
 unfold c0X;have:q=26∨q=27∨q=28∨q=29∨q=30∨q=31∨q=32∨q=33∨q=34∨q=35∨q=36∨q=37∨q=38∨q=39∨q=40∨q=41∨q=42∨q=43∨q=44∨q=45∨q=46∨q=47∨q=48∨q=49∨q=50∨q=51∨q=52:=by omega
 rcases this with h|h|h|h|h|h|h|h|h|h|h|h|h|h|h|h|h|h|h|h|h|h|h|h|h|h|h<;>subst h<;>simp only[Nat.reducePow,Nat.reduceSub,Nat.reduceMul,Nat.reduceAdd]at *<;>omega
theorem d4X (s:Bool) (r:Nat) (a:r<2^63):sgB ((if s then 2^63 else 0)+r)=s:=by
 unfold sgB;cases s
 ·have:(0+r)/2^63=0:=by omega
  rw[if_neg (by decide),this];rfl
 ·have:(2^63+r)/2^63=1:=by omega
  rw[if_pos rfl,this];rfl
theorem a9E (s:Bool) (r B:Nat) (c:r/2^52=B) (e:1<=B) (f:B<=1074):Ieee.double.read ((if s then 2^63 else 0)+r) = .number s (2^52+r%2^52) (-((1075-B:Nat):Int)):=by
 have d:r<2^63:=by omega
 have b:((if s then 2^63 else 0)+r)%2^63=r:=by cases s<;>simp<;>omega
 have a:=d4X s r d;unfold sgB at a;unfold Ieee.Format.read;dsimp only;rw[e7K,b7j,b7i,e4i,b,a,if_neg (by omega),if_pos (by omega),c];rw[show((-1074:Int)+((B-1:Nat):Int))=-((1075-B:Nat):Int)by omega]
theorem c9W (s:Bool):Ieee.double.read (if s then 2^63 else 0) = .number s 0 (-(1074:Nat)):=by cases s<;>decide +kernel
theorem fd (a k:Nat):Int.fdiv (a:Int) (2^k)=((a/2^k:Nat):Int):=by
 have e:((2:Int)^k)=((2^k:Nat):Int):=by rw[Int.natCast_pow];rfl
 rw[e,Int.fdiv_eq_ediv_of_nonneg _ (Int.natCast_nonneg _),Int.natCast_ediv]
theorem fd1 {q:Nat} (a:26<=q) (b:q<=52):Int.fdiv 2251799813685248 (2^(52-q))=((2^(q-1):Nat):Int):=by
 have:=fd (2^51) (52-q);rw[Nat.pow_div (by omega) (by decide),show 51-(52-q)=q-1 by omega]at this;exact this
theorem fd2 {q:Nat} (d:26<=q) (f:q<=52):Int.fdiv 4503599627370495 (2^(52-q))=((2^q-1:Nat):Int):=by
 have h:=fd (2^52-1) (52-q);have e:(2^52-1)/2^(52-q)=2^q-1:=by
  have c:2^(52-q)*2^q=2^52:=by rw[<- Nat.pow_add];congr 1;omega
  have b:=Nat.two_pow_pos (52-q);have g:=Nat.two_pow_pos q;have a:2^52-1=2^(52-q)*(2^q-1)+(2^(52-q)-1):=by
   rw[Nat.mul_sub,c,Nat.mul_one];have:2^(52-q)<=2^52:=Nat.pow_le_pow_right (by decide) (by omega);omega
  rw[a,Nat.mul_add_div b,Nat.div_eq_of_lt (by omega)];rfl
 rw[e]at h;exact h
theorem c3e {w m q:Nat} (d:26<=q) (e:q<=52) (s:2^52<=m) (m1:m<2^53) (n:w%2^63=(1075-q)*2^52+(m-2^52)):a1z (w:Int)=(if sgB w then 2^63 else 0)+((1075-q)*2^52+(m-2^52)+2^(q-1))/2^q*2^q:=by
 have l:rE (w:Int)=((w%2^63/2^52:Nat):Int):=by rw[b8O];omega
 have k:w%2^63/2^52=1075-q:=by omega
 unfold a1z;rw[l,k];have f:decide (((1075-q:Nat):Int)<1023)=false:=decide_eq_false (by omega);have g:decide (((1075-q:Nat):Int)<1075)=true:=decide_eq_true (by omega);rw[f,g];have h:IntKind.u64.wrap (((1075-q:Nat):Int)-1023)=((52-q:Nat):Int):=by rw[IntKind.wrap_u64];omega
 rw[h];have i:min (toNat ((52-q:Nat):Int)) (IntKind.bits .u64)=52-q:=by
  have:IntKind.bits .u64=64:=by decide
  rw[this];omega
 rw[i,fd1 d e,fd2 d e,cond_false,cond_true];have u:2^(q-1)<=2^51:=Nat.pow_le_pow_right (by decide) (by omega);have o:=f3s w;rw[n]at o;have p:sgW w<=2^63:=by unfold sgW;split<;>omega
 have j:IntKind.u64.wrap ((w:Int)+((2^(q-1):Nat):Int))=((sgW w+((1075-q)*2^52+(m-2^52)+2^(q-1)):Nat):Int):=by
  rw[IntKind.wrap_u64];generalize 2^(q-1)=P at *;omega
 rw[j,b5k _ q (by omega),toNat_natCast];have c:sgW w+((1075-q)*2^52+(m-2^52)+2^(q-1))<2^64:=by
  generalize 2^(q-1)=P at *;omega
 rw[Nat.mod_eq_of_lt c];have b:2^q ∣ sgW w:=by
  unfold sgW;split
  ·exact Nat.pow_dvd_pow 2 (by omega)
  ·exact Nat.dvd_zero _
 obtain⟨t,r⟩:=b;have a:sgW w=(if sgB w then 2^63 else 0):=rfl;rw[<- a,r,Nat.mul_add_div (Nat.two_pow_pos q),Nat.add_mul,Nat.mul_comm t]
theorem c9X {w m q:Nat} (b:26<=q) (d:q<=52) (c:2^52<=m) (m1:m<2^53) (e:w%2^63=(1075-q)*2^52+(m-2^52)):f2i .f64 (a1z (w:Int))=sgI (sgB w) (c0X m q) /\ a6n .f64 (a1z (w:Int)) .i64=true:=by
 rw[c3e b d c m1 e];rcases g4W q m b d c m1 _ rfl with⟨c1,c2⟩|⟨c1,c2⟩
 ·have a:=a9E (sgB w) _ _ c1 (by omega) (by omega);rw[show 1075-(1075-q)=q by omega]at a;have:=a9D a (by omega) (by omega);rw[c2]at this;exact this
 ·have a:=a9E (sgB w) _ _ c1 (by omega) (by omega);rw[show 1075-(1076-q)=q-1 by omega]at a;have:=a9D a (by omega) (by omega);rw[c2]at this;exact this
theorem c9Y {w m:Nat} (f:2^52<=m) (m1:m<2^53) (g:w%2^63=1022*2^52+(m-2^52)):f2i .f64 (a1z (w:Int))=sgI (sgB w) (c0X m 53) /\ a6n .f64 (a1z (w:Int)) .i64=true:=by
 have c:rE (w:Int)=1022:=by rw[b8O];omega
 have d:c0X m 53=1:=by unfold c0X;omega
 have b:a1z (w:Int)=(if sgB w then 2^63 else 0)+4607182418800017408:=by
  unfold a1z;rw[c,b1f];show toNat (a2c .or .u64 ((sgW w:Nat):Int) 4607182418800017408)=_;unfold sgW;cases sgB w<;>decide
 have a:=a9E (sgB w) 4607182418800017408 1023 (by decide) (by decide) (by decide);rw[b,d];have h:=a9D a (by decide) (by decide);have e:(2^52+4607182418800017408%2^52)/2^(1075-1023)=1:=by decide
 rw[e]at h;exact h
theorem b5l {w m q:Nat} (i:53<q) (m1:m<2^53) (j:w%2^63/2^52<1022):f2i .f64 (a1z (w:Int))=sgI (sgB w) (c0X m q) /\ a6n .f64 (a1z (w:Int)) .i64=true:=by
 have e:rE (w:Int)=((w%2^63/2^52:Nat):Int):=by rw[b8O];omega
 have f:c0X m q=0:=by
  unfold c0X;have g:2^53<=2^(q-1):=Nat.pow_le_pow_right (by decide) (by omega);have a:2*2^(q-1)=2^q:=by rw[Nat.mul_comm,<- Nat.pow_succ];congr 1;omega
  refine Nat.div_eq_of_lt ?_;rw[<- a];generalize 2^(q-1)=P at *;omega
 have b:a1z (w:Int)=(if sgB w then 2^63 else 0):=by
  unfold a1z;rw[e];have c:decide (((w%2^63/2^52:Nat):Int)<1023)=true:=decide_eq_true (by omega);have d:(((w%2^63/2^52:Nat):Int)==1022)=false:=by
   rw[beq_eq_false_iff_ne];omega
  rw[c,d,b1f];rfl
 rw[b,f];have h:=a9D (c9W (sgB w)) (by decide) (by decide);rw[Nat.zero_div]at h;exact h
theorem a9F {w m q:Nat} (h:f3t w m q):f2i .f64 (a1z (w:Int))=sgI (sgB w) (c0X m q) /\ a6n .f64 (a1z (w:Int)) .i64=true:=by
 obtain⟨rd,q0,q1,m1,le,rung⟩:=h;rcases rung with⟨h1,h2,h3⟩|⟨hm,hr⟩
 ·exact b5l (by omega) m1 (by rw[<- h2,Nat.div_eq_of_lt h3];decide)
 ·by_cases b:q<=52
  ·exact c9X q0 b hm m1 hr
  ·by_cases a:q=53
   ·subst a;exact c9Y hm m1 hr
   ·refine b5l (by omega) m1 ?_;rw[hr];clear le rd;omega
def b5m (z p:Nat×Nat):Nat:=
 a0a .add .f64 (a0a .mul .f64 (a0a .sub .f64 z.1 p.1) (a0a .sub .f64 z.1 p.1)) (a0a .mul .f64 (a0a .sub .f64 z.2 p.2) (a0a .sub .f64 z.2 p.2))
def a2A (b:List (Den a1r)) (p:Nat×Nat) (k:Nat) (a:Int×Nat):(Int×Nat)⊕((Int×Unit)×Unit):=
 bif decide (a.1<0)then .inl ((k:Int),b5m (a3K b k).fst p)else bif flt .f64 (b5m (a3K b k).fst p) a.2 then .inl ((k:Int),b5m (a3K b k).fst p)else .inl a
def d4Y (b:List (Den a1r)) (p:Nat×Nat):(Int×Unit)×Unit:=a1w (a2A b p) (fun a=>((a.1,()),())) 0 b.length (-1,0)
def a4l (t:Den S30) (p:Nat×Nat):Int:=bif a3B t&&a3G p then(d4Y t.1 p).1.1 else -1
theorem b2I (b:List (Den a1r)) (p:Nat×Nat):∀(n k:Nat) (a:Int×Nat),(a.1=-1 /\ k=0∨0<=a.1 /\ a.1<(k:Int))->(((a1w (a2A b p) (fun a=>((a.1,()),())) k n a).1.1:Int)=-1 /\ k+n=0)∨0<=((a1w (a2A b p) (fun a=>((a.1,()),())) k n a).1.1:Int) /\ ((a1w (a2A b p) (fun a=>((a.1,()),())) k n a).1.1:Int)<((k+n:Nat):Int)
 | 0,k,a,h=>by
   show((a.1:Int)=-1 /\ k+0=0)∨0<=a.1 /\ a.1<((k+0:Nat):Int);rcases h with⟨c,h2⟩|h
   ·exact .inl ⟨c,h2⟩
   ·exact .inr ⟨h.1,by omega⟩
 | n+1,k,a,h=>by
   simp only[a1w];have e:k+(n+1)=k+1+n:=by omega
   rw[e];unfold a2A;by_cases c:a.1<0
   ·rw[show decide (a.1<0)=true by simpa using c,cond_true];exact b2I b p n (k+1) _ (.inr ⟨by show(0:Int)<=(k:Int);omega,by show(k:Int)<((k+1:Nat):Int);omega⟩)
   ·rw[show decide (a.1<0)=false by simpa using c,cond_false];cases flt .f64 (b5m (a3K b k).fst p) a.2 with
    |true=>exact b2I b p n (k+1) _ (.inr ⟨by show(0:Int)<=(k:Int);omega,by show(k:Int)<((k+1:Nat):Int);omega⟩)
    | false =>
      refine b2I b p n (k+1) _ (.inr ?_);rcases h with⟨h2,_⟩|h
      ·omega
      ·exact⟨h.1,by omega⟩
theorem e4R (t:Den S30) (p:Nat×Nat) (h:a4I t):f2o (t,p,())=some (a4l t p,()):=by
 have g:F91 (t,())=some (a3B t,()):=c9k t h;have i:F61 (p,())=some (a3G p,()):=a7O p;obtain⟨b,r,_⟩:=t;obtain⟨c,s⟩:=h;have c:b.length<=21:=c;have o:c0g ((p,-1,0,b,(b.length:Int),0,()),())=some (d4Y b p):=by
  refine(b2a (q:=b4F) (fun k (a:Int×Nat)=>((p,a.1,a.2,b,(b.length:Int),(k:Int),()),())) b.length (a2A b p) (fun a=>((a.1,()),())) ?_ ?_ _ b.length 0 (-1,0) (by omega) ?_:_)
  ·intro k a f n;unfold b4F;have d:decide ((k:Int)<(b.length:Int))=true:=by simpa using n
   have e:decide (0<=(k:Int))=true:=by simp
   have m:getD b k (zero a1r)=a3K b k:=rfl;have j:g3C ((a3K b k).fst,p,())=some ((a0a .sub .f64 (a3K b k).fst.1 p.1,a0a .sub .f64 (a3K b k).fst.2 p.2),()):=rfl;have l:f1v ((a0a .sub .f64 (a3K b k).fst.1 p.1,a0a .sub .f64 (a3K b k).fst.2 p.2),(a0a .sub .f64 (a3K b k).fst.1 p.1,a0a .sub .f64 (a3K b k).fst.2 p.2),())=some (b5m (a3K b k).fst p,()):=rfl;unfold a2A;simp only[a1Z k (by omega),d,e,Bool.and_self,cond_true,toNat_natCast,m,g3D,g3E,j,e3F,d4k,l,isSome_some,getD_some];cases decide (a.1<0)
   ·cases flt .f64 (b5m (a3K b k).fst p) a.2<;>rfl
   ·rfl
  ·intro a f;simp[b4F]
  ·simp only[c8d];omega
 unfold f2o a4l;simp only[K91,G91,g,K61,G61,i,isSome_some,getD_some,cond_true,c8e,c8f,o];cases a3B (b,r,())
 ·rfl
 ·cases a3G p<;>rfl
def a3V (a b:Int):Int:=bif decide (a>b)then a-b else b-a
def a3P (a:List Int) (t:Int) (k:Nat) (b:Int):Int⊕((Int×Unit)×Unit) := .inl (bif decide (a3V (a3h a k) t<a3V (a3h a b.toNat) t)then(k:Int)else b)
def hiR (a:List Int) (t:Int):(Int×Unit)×Unit:=a1w (a3P a t) (fun b=>((b,()),())) 0 a.length 0
def hiV (a:Den S30) (t:Int):Int:=bif a3B a&&a0l t 0 10000000 then(hiR a.2.1 t).1.1 else -1
theorem a7a {b:List (Den a1r)} {a:List Int} {u:Unit} (h:a3B (b,a,u)=true):1<=b.length /\ 1<=a.length /\ ∀i,i<a.length->0<=a3h a i /\ a3h a i<=10000000:=by
 unfold a3B at h;simp only[and_eq_true]at h;obtain⟨c,d,f,e⟩:=h;simp only[a0l,and_eq_true,decide_eq_true_eq]at c d;refine⟨by omega,by omega,fun i g=>?_⟩;have:=a0u.1 e i (zero_le _) (by omega);unfold b0i at this;simp only[and_eq_true,a0l,decide_eq_true_eq]at this;exact this.1
theorem e4S (a:List Int) (t:Int):∀(n k:Nat) (b:Int),0<=b->(b<(k:Int)∨b=0)->0<=((a1w (a3P a t) (fun b=>((b,()),())) k n b).1.1:Int) /\ (((a1w (a3P a t) (fun b=>((b,()),())) k n b).1.1:Int)<((k+n:Nat):Int)∨((a1w (a3P a t) (fun b=>((b,()),())) k n b).1.1:Int)=0)
 |0,k,b,h0,h=>⟨h0,by rcases h with h|h;exact .inl (by show b<((k+0:Nat):Int);omega);exact .inr h⟩
 | n+1,k,b,h0,h=>by
   simp only[a1w];have e:k+(n+1)=k+1+n:=by omega
   rw[e];unfold a3P;cases decide (a3V (a3h a k) t<a3V (a3h a b.toNat) t)with
   |true=>exact e4S a t n (k+1) (k:Int) (by omega) (.inl (by omega))
   |false=>exact e4S a t n (k+1) b h0 (by rcases h with h|h;exact .inl (by omega);exact .inr h)
theorem d4Z (a b:Int):e1H (b-a) (a-b)=a3V a b:=by
 unfold e1H a3V;by_cases h:a>b
 ·rw[show decide (a>b)=true by simpa using h,cond_true,if_pos (by omega)]
 ·rw[show decide (a>b)=false by simpa using h,cond_false];by_cases c:a-b>b-a
  ·omega
  ·rw[if_neg c]
theorem c9Z (b:List (Den a1r)) (a:List Int) (t i:Int) (e:0<=i /\ i<(a.length:Int)) (f:0<=t /\ t<=10000000) (hh:0<=a3h a i.toNat /\ a3h a i.toNat<=10000000) :
 e7G ((i,(),(),()),t,(b,a,()),())=some ((a3V (a3h a i.toNat) t,()),(t,(b,a,()),())):=by
 have c:(decide (0<=i)&&decide (i<(a.length:Int)))=true:=by simp only[and_eq_true,decide_eq_true_eq];exact e
 have d:getD a i.toNat (zero (Ty.int IntKind.i64))=a3h a i.toNat:=rfl;unfold e7G;simp only[c,cond_true,d];rw[w64 (x:=t-a3h a i.toNat) (by omega) (by omega),w64 (x:=a3h a i.toNat-t) (by omega) (by omega),d4Z]
theorem e4T (e:Den S30) (t:Int) (h:a4I e):f2r (e,t,())=some (hiV e t,()):=by
 have n:F91 (e,())=some (a3B e,()):=c9k e h;have o:F43 (t,())=some (a0l t 0 10000000,()):=b4N (t,());obtain⟨c,a,_⟩:=e;obtain⟨_,j⟩:=h;have j:a.length<=6:=j;unfold f2r hiV;simp only[K91,G91,n,K43,G43,o,isSome_some,getD_some,cond_true];cases hb:a3B (c,a,())
 ·rfl
 cases ht:a0l t 0 10000000
 ·rfl
 obtain⟨_,u,l⟩:=a7a hb;simp only[a0l,and_eq_true,decide_eq_true_eq]at ht;have s:c0i (((),0,(a.length:Int),0,()),(t,()),(c,a,()),())=some (hiR a t):=by
  refine(a9a (q:=b4G) (fun k (b:Int)=>(((),b,(a.length:Int),(k:Int),()),(t,()),(c,a,()),())) a.length (a3P a t) (fun b=>((b,()),())) (fun k b=>0<=b /\ b<(a.length:Int)) ?_ ?_ ?_ _ a.length 0 0 (by omega) ?_ ⟨Int.le_refl 0,by omega⟩:_)
  ·intro k b f i d;unfold b4G;have m:decide ((k:Int)<(a.length:Int))=true:=by simpa using i
   have p:e7G (((k:Int),(),(),()),t,(c,a,()),())=some ((a3V (a3h a k) t,()),(t,(c,a,()),())):=c9Z c a t k ⟨by omega,by omega⟩ ht (l k i);have r:e7G ((b,(),(),()),t,(c,a,()),())=some ((a3V (a3h a b.toNat) t,()),(t,(c,a,()),())):=c9Z c a t b d ht (l _ (by omega));unfold a3P;simp only[a1Z k (by omega),m,cond_true,f7F,f7G,p,r,isSome_some,getD_some];cases decide (a3V (a3h a k) t<a3V (a3h a b.toNat) t)<;>rfl
  ·intro k b b' i d g;unfold a3P at g;have g:=Sum.inl.inj g;subst g;cases decide (a3V (a3h a k) t<a3V (a3h a b.toNat) t)with
   |true=>exact⟨by show(0:Int)<=(k:Int);omega,by show(k:Int)<_;omega⟩
   |false=>exact d
  ·intro b f _;simp[b4G]
  ·simp only[c8g];omega
 simp only[c8h,c8i,s,isSome_some,getD_some,cond_true,Bool.not_true,cond_false,Bool.and_self]
def a2Z (x:Int):Int:=bif decide (x < -21600)then -21600 else a3a x 21600
theorem c0Y (x:Int):-21600<=a2Z x /\ a2Z x<=21600:=by
 unfold a2Z a3a;by_cases h:x < -21600
 ·rw[show decide (x < -21600)=true by simpa using h,cond_true];omega
 ·rw[show decide (x < -21600)=false by simpa using h,cond_false];split<;>omega
theorem e4U (x:Int):f2t (x,-21600,21600,())=some (a2Z x,()):=by
 unfold f2t a2Z;have h:decide ((21600:Int) < -21600)=false:=by decide
 simp only[h,cond_false];cases decide (x < -21600)<;>rfl
def b7s (a b q:Nat):Nat:=a0a .add .f32 a (a0a .mul .f32 (a0a .sub .f32 b a) q)
def g4X (r:Int):Nat:=a0a .quo .f32 (nearest .f32 r) 1163984896
def h2b (a b:Nat×Nat) (q:Nat):Nat×Nat:=(b7s a.1 b.1 q,b7s a.2 b.2 q)
def d0a (s:Den a1r) (off:Int):(Nat×Nat)×Bool×Unit:=
 bif !a5K (a2l s)then((0,0),false,())else
  bif ((a2Z off+21600)%3600==0)then(atV (a2l s) ((a2Z off+21600)/3600).toNat,true,())
  else(h2b (atV (a2l s) ((a2Z off+21600)/3600).toNat) (atV (a2l s) ((a2Z off+21600)/3600+1).toNat) (g4X ((a2Z off+21600)%3600)),true,())
theorem e4V (s:Den a1r) (off:Int):f7H (s,off,())=some (d0a s off):=by
 have h:e7u (a2l s,())=some (a5K (a2l s),()):=c0O _ (by rw[b4Z];decide);have j:f2t (off,-21600,21600,())=some (a2Z off,()):=e4U off;have k:∀a b q:Nat,g2S (a,b,q,())=some (b7s a b q,()):=fun _ _ _=>rfl
 obtain⟨p,r⟩:=c0Y off;have d:[s.snd.fst.fst,s.snd.fst.snd.fst,s.snd.fst.snd.snd.fst,s.snd.fst.snd.snd.snd.fst,s.snd.fst.snd.snd.snd.snd.fst,s.snd.fst.snd.snd.snd.snd.snd.fst,s.snd.fst.snd.snd.snd.snd.snd.snd.fst,s.snd.fst.snd.snd.snd.snd.snd.snd.snd.fst,s.snd.fst.snd.snd.snd.snd.snd.snd.snd.snd.fst,s.snd.fst.snd.snd.snd.snd.snd.snd.snd.snd.snd.fst,s.snd.fst.snd.snd.snd.snd.snd.snd.snd.snd.snd.snd.fst,s.snd.fst.snd.snd.snd.snd.snd.snd.snd.snd.snd.snd.snd.fst,s.snd.fst.snd.snd.snd.snd.snd.snd.snd.snd.snd.snd.snd.snd.fst]=a2l s:=rfl;have l:∀i,getD (a2l s) i (0,0)=atV (a2l s) i:=fun _=>rfl
 unfold f7H d0a;simp only[d,f1b,f1c,h,g3P,g3Q,j,isSome_some,getD_some,cond_true];generalize a2Z off=c at *;have w1:IntKind.i64.wrap (c+21600)=c+21600:=w64 (by omega) (by omega);have m:Int.tmod (c+21600) 3600=(c+21600)%3600:=Int.tmod_eq_emod_of_nonneg (by omega);have n:Int.tdiv (c+21600) 3600=(c+21600)/3600:=Int.tdiv_eq_ediv_of_nonneg (by omega);have w2:IntKind.i64.wrap ((c+21600)/3600)=(c+21600)/3600:=w64 (by omega) (by omega);have o:IntKind.i64.wrap ((c+21600)/3600+1)=(c+21600)/3600+1:=w64 (by omega) (by omega);have f:(decide (0<=(c+21600)/3600)&&decide ((c+21600)/3600<13))=true:=by simp only[and_eq_true,decide_eq_true_eq];omega
 simp only[w1,m,n,w2,o,f,cond_true,l];cases a5K (a2l s)
 ·rfl
 simp only[Bool.not_true,cond_false];by_cases e:(c+21600)%3600=0
 ·rw[show((c+21600)%3600==0)=true by simpa using e];rfl
 ·have g:(decide (0<=(c+21600)/3600+1)&&decide ((c+21600)/3600+1<13))=true:=by simp only[and_eq_true,decide_eq_true_eq];omega
  rw[show((c+21600)%3600==0)=false by simpa using e];simp only[cond_false,g,cond_true,e7z,e7A,k,isSome_some,getD_some];rfl
def a1H (a:Den S30) (p:Nat×Nat) (t:Int):(Nat×Nat)×Bool×Unit:=
 bif decide (a4l a p<0)||decide (hiV a t<0)then((0,0),false,())else d0a (a3K a.1 (a4l a p).toNat) (t-a3h a.2.1 (hiV a t).toNat)
theorem d0b {b:Den S30} {p:Nat×Nat} (h:¬a4l b p<0):a3B b=true /\ a3G p=true /\ 0<=a4l b p /\ a4l b p<(b.1.length:Int):=by
 unfold a4l at h ⊢;cases hb:a3B b with
 |false=>rw[hb]at h;exact absurd h (by simp)
 | true =>
   cases hp:a3G p with
   |false=>rw[hb,hp]at h;exact absurd h (by simp)
   | true =>
     rw[hb,hp]at h;simp only[Bool.and_self,cond_true]at h ⊢;refine⟨trivial,trivial,?_⟩;have:=b2I b.1 p b.1.length 0 (-1,0) (.inl ⟨rfl,rfl⟩);have e:a1w (a2A b.1 p) (fun a=>((a.1,()),())) 0 b.1.length (-1,0)=d4Y b.1 p:=rfl;rw[e,Nat.zero_add]at this;omega
theorem f3u {c:Den S30} {t:Int} (h:¬hiV c t<0):a3B c=true /\ (0<=t /\ t<=10000000) /\ 0<=hiV c t /\ hiV c t<(c.2.1.length:Int):=by
 obtain⟨d,a,_⟩:=c;unfold hiV at h ⊢;cases hb:a3B (d,a,())with
 |false=>rw[hb]at h;exact absurd h (by simp)
 | true =>
   cases ht:a0l t 0 10000000 with
   |false=>rw[hb,ht]at h;exact absurd h (by simp)
   | true =>
     rw[hb,ht]at h;simp only[Bool.and_self,cond_true]at h ⊢;simp only[a0l,and_eq_true,decide_eq_true_eq]at ht;refine⟨trivial,ht,?_⟩;have f:=(a7a hb).2.1;have:=e4S a t a.length 0 0 (Int.le_refl 0) (.inr rfl);have e:a1w (a3P a t) (fun b=>((b,()),())) 0 a.length 0=hiR a t:=rfl;rw[e,Nat.zero_add]at this;omega
theorem e4W (a:Den S30) (p:Nat×Nat) (t:Int) (h:a4I a):f7I (a,p,t,())=some (a1H a p t):=by
 have m:f2o (a,p,())=some (a4l a p,()):=e4R a p h;have n:f2r (a,t,())=some (hiV a t,()):=e4T a t h;unfold f7I a1H;simp only[g3G,g3H,m,g3L,g3M,n,isSome_some,getD_some,cond_true];by_cases d:a4l a p<0
 ·simp only[d,decide_true,cond_true,Bool.true_or]
 by_cases e:hiV a t<0
 ·simp only[d,e,decide_true,decide_false,cond_true,cond_false,Bool.or_true]
 obtain⟨_,_,s,u⟩:=d0b d;obtain⟨r,v,g,j⟩:=f3u e;have k:(decide (0<=a4l a p)&&decide (a4l a p<(a.1.length:Int)))=true:=by simp only[and_eq_true,decide_eq_true_eq];exact⟨s,u⟩
 have l:(decide (0<=hiV a t)&&decide (hiV a t<(a.2.1.length:Int)))=true:=by simp only[and_eq_true,decide_eq_true_eq];exact⟨g,j⟩
 obtain⟨c,b,_⟩:=a;have w:=(a7a r).2.2 (hiV (c,b,()) t).toNat (by have j:hiV (c,b,()) t<(b.length:Int):=j;have g:0<=hiV (c,b,()) t:=g;omega);have q:∀i,getD b i (zero (Ty.int IntKind.i64))=a3h b i:=fun _=>rfl
 have f:∀i,getD c i (zero a1r)=a3K c i:=fun _=>rfl
 have w1:IntKind.i64.wrap (t-a3h b (hiV (c,b,()) t).toNat)=t-a3h b (hiV (c,b,()) t).toNat:=w64 (by omega) (by omega);have o:=e4V (a3K c (a4l (c,b,()) p).toNat) (t-a3h b (hiV (c,b,()) t).toNat);simp only[d,e,k,l,decide_false,cond_false,cond_true,Bool.or_self,q,f,w1,g3S,g3T,o,isSome_some,getD_some]
theorem g4Y:((TT:Nat):Rat)*p2 (-1074)=1:=by
 have:p2 (1074:Nat)=((TT:Nat):Rat):=a0T 1074;rw[<- this,<- a0N];rfl
theorem e4X {b:Nat} {v:Int} (h:b0Z b v):IsR b ((v:Int):Rat):=by
 obtain⟨s,m,c,e,f,d⟩:=h;refine⟨s,m,(c:Int)-1074,e,by omega,?_⟩;rw[f8c];have a:sgR s*((m*2^c:Nat):Rat)=((VU s m c:Int):Rat):=by
  unfold VU;cases s
  ·have:sgR false=1:=rfl;rw[this,if_neg (by decide),Rat.intCast_natCast];grind
  ·have:sgR true=-1:=rfl;rw[this,if_pos rfl,Rat.intCast_neg,Rat.intCast_natCast];grind
 rw[a,d,Rat.intCast_mul,Rat.intCast_natCast,Rat.mul_assoc,g4Y,Rat.mul_one]
theorem f3v (n:Int) (h:n.natAbs<2^53):IsR (nearest .f64 n) ((n:Int):Rat):=e4X (c9x n h)
theorem g4Z:IsR 4602678819172646912 (1/2):=b7m false 4503599627370496 (-53) (by decide +kernel) (by decide) (by decide +kernel)
theorem f3w:IsR 13826050856027422720 (-(1/2)):=b7m true 4503599627370496 (-53) (by decide +kernel) (by decide) (by decide +kernel)
theorem geR {a b:Nat} {x y:Rat} (c:IsR a x) (d:IsR b y):(fgt .f64 a b||feq .f64 a b)=decide (y<=x):=by
 rw[g4K c d,e7L c d,Bool.eq_iff_iff];simp only[Bool.or_eq_true,decide_eq_true_eq];constructor
 ·intro h;rcases h with h|h<;>grind
 ·intro h;by_cases e:x=y
  ·exact .inr e
  ·exact .inl (by grind)
theorem leR {a b:Nat} {x y:Rat} (c:IsR a x) (d:IsR b y):(flt .f64 a b||feq .f64 a b)=decide (x<=y):=by
 rw[f8b c d,e7L c d,Bool.eq_iff_iff];simp only[Bool.or_eq_true,decide_eq_true_eq];constructor
 ·intro h;rcases h with h|h<;>grind
 ·intro h;by_cases e:x=y
  ·exact .inr e
  ·exact .inl (by grind)
theorem d5a (v q:Nat) (e:1<=q):(1/2:Rat)<=(v:Rat)*p2 (-(q:Int))↔2^(q-1)<=v:=by
 have c:p2 (-(q:Int))*((2^(q-1):Nat):Rat)=1/2:=by
  rw[<- a0T,<- a0N,show -(q:Int)+((q-1:Nat):Int)=-1 by omega]
  decide +kernel
 have b:=a0q (-(q:Int));constructor
 ·intro h;apply Classical.byContradiction;intro d;have a:((v:Nat):Rat)<((2^(q-1):Nat):Rat):=Rat.natCast_lt_natCast.2 (by omega);have:=Rat.mul_lt_mul_of_pos_right a b;grind
 ·intro h;have a:((2^(q-1):Nat):Rat)<=((v:Nat):Rat):=a0e h;have:=a0s a (Rat.le_of_lt b);grind
theorem e4Y (m q:Nat) (e:1<=q):c0X m q=m/2^q+(if 2^(q-1)<=m%2^q then 1 else 0):=by
 unfold c0X;have b:2^q=2*2^(q-1):=by rw[Nat.mul_comm,<- Nat.pow_succ];congr 1;omega
 have d:=Nat.two_pow_pos (q-1);have a:=Nat.div_add_mod m (2^q);have c:=Nat.mod_lt m (Nat.two_pow_pos q);rw[b]at *;generalize 2^(q-1)=P at *;generalize m/(2*P)=A at *;generalize m%(2*P)=R at *;rw[<- a,Nat.add_assoc,Nat.mul_add_div (by omega)];congr 1;split
 ·exact Nat.div_eq_of_lt_le (by omega) (by omega)
 ·exact Nat.div_eq_of_lt (by omega)
def rnd (w:Nat):Int:=f2i .f64 (a1z (w:Int))
theorem e0B {w:Nat} (h:le8 (w%2^63)=true):F97 (w,())=some (rnd w,()):=by
 obtain⟨m,q,l⟩:=b2H h;have f:rnd w=sgI (sgB w) (c0X m q):=(a9F l).1;obtain⟨rd,q0,q1,m1,le,rung⟩:=l;obtain⟨v,k⟩:=a9D rd m1 (by omega);have x:IsR w (RV (sgB w) m (-(q:Int))):=⟨_,_,_,rd,by omega,rfl⟩;have t:(sgI (sgB w) (m/2^q)).natAbs<2^53:=by
  generalize m/2^q=A at *;unfold sgI;split<;>omega
 have y:=f3v _ t;have d:=Nat.div_add_mod m (2^q);have r:=Nat.mod_lt m (Nat.two_pow_pos q);have s:m%2^q<=m:=Nat.mod_le _ _;have a:RV (sgB w) m (-(q:Int))-((sgI (sgB w) (m/2^q):Int):Rat)=sgR (sgB w)*(((m%2^q:Nat):Rat)*p2 (-(q:Int))):=by
  have C:((2^q:Nat):Rat)*p2 (-(q:Int))=1:=by
   rw[<- a0T,<- a0N,show(q:Int) + -(q:Int)=0 by omega];rfl
  have j:(m:Rat)=((2^q:Nat):Rat)*((m/2^q:Nat):Rat)+((m%2^q:Nat):Rat):=by
   rw[<- Rat.natCast_mul,<- Rat.natCast_add,d]
  unfold RV;rw[j];generalize m/2^q=A at *;generalize m%2^q=R at *;generalize 2^q=P at *;generalize p2 (-(q:Int))=z at *;unfold sgI;cases sgB w
  ·have:sgR false=1:=rfl;rw[this,if_neg (by decide),Rat.intCast_natCast];grind
  ·have:sgR true=-1:=rfl;rw[this,if_pos rfl,Rat.intCast_neg,Rat.intCast_natCast];grind
 have e:((m%2^q:Nat):Rat)*p2 (-(q:Int))=((m%2^q*2^(1074-q):Nat):Rat)*p2 (-1074):=by
  rw[Rat.natCast_mul,<- a0T (1074-q),Rat.mul_assoc,<- a0N,show((1074-q:Nat):Int) + -1074=-(q:Int)by omega]
 have b:=h2a x y (m%2^q) (1074-q) (by generalize m%2^q=R at *;omega) (by omega) (by
  rw[a,e];cases sgB w
  ·left;have:sgR false=1:=rfl;rw[this];grind
  ·right;have:sgR true=-1:=rfl;rw[this];grind)
 rw[a]at b;have g:=geR b g4Z;have i:=leR b f3w;have u:(0:Rat)<=((m%2^q:Nat):Rat)*p2 (-(q:Int)):=Rat.mul_nonneg (a2w _) (Rat.le_of_lt (a0q _));have c:=d5a (m%2^q) q (by omega);have p:=e4Y m q (by omega);unfold F97;dsimp only;rw[k,v,g,i,f,p];have B:m/2^q<=100000000:=le;generalize ((m%2^q:Nat):Rat)*p2 (-(q:Int))=D at *;generalize m/2^q=A at *;generalize m%2^q=R at *;generalize 2^(q-1)=P at *;clear b a d e;cases sgB w
 ·have s1:sgR false=1:=rfl;have o:decide (sgR false*D <= -(1/2))=false:=decide_eq_false (by rw[s1];grind);rw[o,s1,Rat.one_mul];by_cases hh:P<=R
  ·rw[decide_eq_true (c.2 hh),if_pos hh];show some (IntKind.i64.wrap ((A:Int)+1),())=some (((A+1:Nat):Int),());rw[w64 (by omega) (by omega)];rfl
  ·rw[decide_eq_false (fun h=>hh (c.1 h)),if_neg hh];rfl
 ·have s1:sgR true=-1:=rfl;have n:decide (1/2<=sgR true*D)=false:=decide_eq_false (by rw[s1];grind);rw[n,s1];by_cases hh:P<=R
  ·rw[decide_eq_true (show -1*D <= -(1/2)by have:=c.2 hh;grind),if_pos hh];show some (IntKind.i64.wrap (-(A:Int)-1),())=some (-((A+1:Nat):Int),());rw[w64 (by omega) (by omega),show -(A:Int)-1=-((A+1:Nat):Int)by omega]
  ·rw[decide_eq_false (fun h=>hh (c.1 (by grind))),if_neg hh];rfl
def a0L (p:Nat×Nat):Den R23:=bif !a3G p then((0,0,()),false,())else bif !a1C (rnd p.1,rnd p.2,())then((0,0,()),false,())else((rnd p.1,rnd p.2,()),true,())
set_option maxRecDepth 100000 in
theorem c0Z (p:Nat×Nat):F23 (p,())=some (a0L p):=by
 have c:=a7O p;have⟨k1,g1⟩:=kgP K61 G61 c;unfold F23 a0L;dsimp only;rw[k1,g1];cases hv:a3G p with
 |false=>rfl
 | true =>
   have a:=hv;unfold a3G at a;simp only[and_eq_true]at a;obtain⟨m,q,d⟩:=b2H a.1;obtain⟨g,h,b⟩:=b2H a.2;have e:=(a9F d).2;have f:=(a9F b).2;show(bif a6n .f64 (a1z ((p.1:Nat):Int)) .i64 then bif a6n .f64 (a1z ((p.2:Nat):Int)) .i64 then bif K63 ((rnd p.1,rnd p.2,()),())then bif !(G63 ((rnd p.1,rnd p.2,()),())).1 then _ else _ else none else none else none)=_;rw[e,f,g4w,f2S];cases a1C (rnd p.1,rnd p.2,())<;>rfl
set_option maxRecDepth 100000 in
theorem c1a (p:Nat×Nat):F49 (p,())=some (a0L p):=by
 have b:=a7P p;have⟨k1,g1⟩:=kgP K96 G96 b;unfold F49 a0L;dsimp only;rw[k1,g1];cases hv:a3G p with
 |false=>rfl
 | true =>
   have a:=hv;unfold a3G at a;simp only[and_eq_true]at a;have c:=e0B a.1;have d:=e0B a.2;have⟨k3,g3⟩:=kgP K97 G97 c;have⟨k4,g4⟩:=kgP K97 G97 d;rw[k3,k4,g3,g4];show(bif K98 ((rnd p.1,rnd p.2,()),())then bif !(G98 ((rnd p.1,rnd p.2,()),())).1 then _ else _ else none)=_;rw[g4v,f2R];cases a1C (rnd p.1,rnd p.2,())<;>rfl
theorem c3f (v:b4f) (b:a0c v.2.1) (a:v.1.2.2.2.2.2.2.1=0) (d:v.2.2.2.2.2.2.2.1=[]) (j:v.2.2.2.2.2.1.length<=30) :
 Pst (b4g v) fun y=>a0c y.2.1 /\ y.1.2.2.2.2.1=v.1.2.2.2.2.1 /\ y.2.2.2.2.1=v.2.2.2.2.1 /\ y.2.2.2.2.2.1=v.2.2.2.2.2.1 /\ y.2.2.2.2.2.2.1=v.2.2.2.2.2.2.1 /\ y.2.2.2.2.2.2.2.1.length=v.2.2.2.2.2.1.length:=by
 unfold b4g;refine a0J (q:=b9t)
  (fun u=>a0c u.2.1 /\ u.1.2.2.2.2.1=v.1.2.2.2.2.1 /\ u.2.2.2.2.1=v.2.2.2.2.1 /\ u.2.2.2.2.2.1=v.2.2.2.2.2.1 /\ u.2.2.2.2.2.2.1=v.2.2.2.2.2.2.1 /\ 0<=(u.1.2.2.2.2.2.2.1:Int) /\ (u.1.2.2.2.2.2.2.1:Int)<=(v.2.2.2.2.2.1.length:Int) /\ (u.2.2.2.2.2.2.2.1.length:Int)=u.1.2.2.2.2.2.2.1)
  (fun _ r=>Pst r fun y=>a0c y.2.1 /\ y.1.2.2.2.2.1=v.1.2.2.2.2.1 /\ y.2.2.2.2.1=v.2.2.2.2.1 /\ y.2.2.2.2.2.1=v.2.2.2.2.2.1 /\ y.2.2.2.2.2.2.1=v.2.2.2.2.2.2.1 /\ y.2.2.2.2.2.2.2.1.length=v.2.2.2.2.2.1.length)
  (fun u=>(30-(u.1.2.2.2.2.2.2.1:Int)).toNat) ?_ _ _ ⟨b,rfl,rfl,rfl,rfl,by rw[a];exact Int.le_refl 0,by rw[a];exact Int.natCast_nonneg _,by rw[d,a];rfl⟩ (by unfold c6A;omega)
 clear a d b;rintro⟨⟨_,_,_,w,n,_,i,_⟩,⟨c0,c1,c2,_⟩,_,_,ws,as_,sp,row,_⟩ f ⟨g0,g1,g2,g3,g4,g5,g6,g7⟩ ih;dsimp only at g0 g1 g2 g3 g4 g5 g6 g7 ih;subst g1 g2 g4;have g:as_.length=v.2.2.2.2.2.1.length:=by rw[g3]
 unfold b9t;dsimp only;by_cases a:i<(as_.length:Int)
 ·refine a0h (by simpa using a) ?_;have e:IntKind.i64.wrap (i+1)=i+1:=w64 (by omega) (by omega);rw[e];have fin:∀(x:Nat) (c:List Int×Int×Int×Unit),a0c c->Pst (bif (a0k (length row+length (set (replicate 1 (zero (Ty.flt FloatKind.f32))) 0 x)))then f (((),((),((),((w),((v.1.2.2.2.2.1),((),((i+1),()))))))),(((c.1),((c.2.1),((c.2.2.1),()))),(((),((),((),()))),(((),((),((),()))),((v.2.2.2.2.1),((as_),((v.2.2.2.2.2.2.1),((row++set (replicate 1 (zero (Ty.flt FloatKind.f32))) 0 x),()))))))))else none)
   fun y=>a0c y.2.1 /\ y.1.2.2.2.2.1=v.1.2.2.2.2.1 /\ y.2.2.2.2.1=v.2.2.2.2.1 /\ y.2.2.2.2.2.1=v.2.2.2.2.2.1 /\ y.2.2.2.2.2.2.1=v.2.2.2.2.2.2.1 /\ y.2.2.2.2.2.2.2.1.length=v.2.2.2.2.2.1.length:=by
   intro x c h;refine a0h (a0v (by simp only[length_set,length_replicate];omega)) ?_;refine ih _ ⟨h,rfl,rfl,g3,rfl,?_,?_,?_⟩ ?_<;>simp only[length_append,length_set,length_replicate]<;>omega
  refine a0h (a0o _ cu) ?_;refine a1j (fun _=>?_) (fun _=>?_)
  ·refine a0h (a1R _ cu) ?_;refine a1j (fun _=>?_) (fun _=>?_)
   ·refine a1j (fun _=>?_) (fun _=>?_)
    ·refine a0h (a0o _ cu) ?_;exact fin _ _ cu
    ·exact fin _ _ cu
   ·refine a1j (fun _=>?_) (fun _=>?_)
    ·refine a0h (a0o _ cu) ?_;exact fin _ _ cu
    ·exact fin _ _ cu
  ·refine a1j (fun _=>?_) (fun _=>?_)
   ·refine a0h (a0o _ cu) ?_;exact fin _ _ cu
   ·exact fin _ _ cu
 ·have hd:decide (i<(as_.length:Int))=false:=by simpa using a
  rw[hd];exact a0j ⟨g0,rfl,rfl,g3,rfl,by show row.length=_;omega⟩
def b5n (n:Nat) (a:Nat) (ws:List Nat) (b:List (List Nat)):Prop:=ws.length=n /\ b.length=n /\ ∀r∈b,r.length=a
theorem b7t (v:b4h) (j:a0c v.2.1) (A:0<=(v.1.2.2.2.2.1:Int) /\ (v.1.2.2.2.2.1:Int)<=8) (d:v.2.2.2.2.1=[]) (l:v.2.2.2.2.2.2.1=[]) (F:v.2.2.2.2.2.1.length<=30) :
 Pst (b4i v) fun y=>a0c y.2.1 /\ y.2.2.2.2.2.1=v.2.2.2.2.2.1 /\ b5n (v.1.2.2.2.2.1:Int).toNat v.2.2.2.2.2.1.length y.2.2.2.2.1 y.2.2.2.2.2.2.1:=by
 unfold b4i;refine a0J (q:=b9u)
  (fun u=>a0c u.2.1 /\ u.2.2.2.2.2.1=v.2.2.2.2.2.1 /\ 0<=(u.1.2.2.2.2.1:Int) /\ (u.2.2.2.2.1.length:Int)+u.1.2.2.2.2.1=v.1.2.2.2.2.1 /\ b5n u.2.2.2.2.1.length v.2.2.2.2.2.1.length u.2.2.2.2.1 u.2.2.2.2.2.2.1)
  (fun _ r=>Pst r fun y=>a0c y.2.1 /\ y.2.2.2.2.2.1=v.2.2.2.2.2.1 /\ b5n (v.1.2.2.2.2.1:Int).toNat v.2.2.2.2.2.1.length y.2.2.2.2.1 y.2.2.2.2.2.2.1)
  (fun u=>(u.1.2.2.2.2.1:Int).toNat) ?_ _ _ ⟨j,rfl,A.1,by rw[d];exact Int.zero_add _,by rw[d,l];exact⟨rfl,rfl,fun _ h=>by cases h⟩⟩ (by unfold c6B;omega)
 clear j d l;rintro⟨⟨_,_,_,w,n,_⟩,⟨c0,c1,c2,_⟩,_,_,ws,as_,sp,_⟩ f ⟨g0,g1,g2,g3,c⟩ ih;dsimp only at g0 g1 g2 g3 c ih;obtain⟨c,D,i⟩:=c;have o:as_.length=v.2.2.2.2.2.1.length:=by rw[g1]
 unfold b9u;dsimp only;by_cases k:n>0
 ·refine a0h (by simpa using k) ?_;refine a0h (a0v (by simp only[length_set,length_replicate];omega)) ?_;have a:=c3f (((),(),(),w,n,(),0,()),(c0,c1,c2,()),((),(),(),()),((),(),(),()),ws++(replicate 1 (zero (Ty.flt FloatKind.f32))).set 0 w,as_,sp,replicate 0 (zero (Ty.flt FloatKind.f32)),()) g0 rfl rfl (by show as_.length<=30;omega);refine a0h (a2v a) ?_;have g:=a2W (((),((),((),(0,(0,((),())))))),(([],(0,(0,()))),(((),((),((),()))),(((),((),((),()))),([],([],([],([],())))))))) a;change a0c (a5i _).2.1 /\ (a5i _).1.2.2.2.2.1=n /\ (a5i _).2.2.2.2.1=_ /\ (a5i _).2.2.2.2.2.1=as_ /\ (a5i _).2.2.2.2.2.2.1=sp /\ (a5i _).2.2.2.2.2.2.2.1.length=as_.length at g;generalize a5i (((),(),(),w,n,(),0,()),(c0,c1,c2,()),((),(),(),()),((),(),(),()),ws++(replicate 1 (zero (Ty.flt FloatKind.f32))).set 0 w,as_,sp,replicate 0 (zero (Ty.flt FloatKind.f32)),())=y at *;obtain⟨⟨_,_,_,w',b,_,_⟩,c',_,_,C,m,B,row,_⟩:=y;dsimp only at g;obtain⟨E,p,s,t,x,z⟩:=g;subst p s t x;refine a0h (a0v (by simp only[length_set,length_replicate];omega)) ?_;refine a0h (a0o _ cu) ?_;have e:IntKind.i64.wrap (b-1)=b-1:=w64 (by omega) (by omega);dsimp only;rw[e];refine ih _ ⟨cu,g1,?_,?_,?_,?_,?_⟩ ?_
  ·show 0<=b-1;omega
  ·simp only[length_append,length_set,length_replicate];omega
  ·rfl
  ·simp only[length_append,length_set,length_replicate];omega
  ·intro r a;rcases List.mem_append.1 a with a|a
   ·exact i r a
   ·rw[show r=row from List.mem_singleton.1 a,z,o]
  ·show(b-1).toNat<b.toNat;omega
 ·have hd:decide (n>0)=false:=by simpa using k
  rw[hd];refine a0j ⟨g0,g1,?_,?_,i⟩
  ·show ws.length=_;omega
  ·show sp.length=_;omega
theorem e4Z (a b:Int) (c:a>0) (d:a<180) (h:0<=b /\ b<50):IntKind.i64.wrap (IntKind.i64.wrap (a+5)+b)<=1000:=by
 rw[w64 (x:=a+5) (by omega) (by omega),w64 (by omega) (by omega)];omega
theorem e5a (b:Int) (h:0<=b /\ b<4):0<=IntKind.i64.wrap (1+b) /\ IntKind.i64.wrap (1+b)<=8 /\ 1<=(IntKind.i64.wrap (1+b)).toNat /\ (IntKind.i64.wrap (1+b)).toNat<=4:=by
 rw[w64 (by omega) (by omega)];omega
theorem e5b (b:Int) (h:0<=b /\ b<25):IntKind.i64.wrap (20+b)<=1000:=by
 rw[w64 (by omega) (by omega)];omega
theorem b2J (v:c6C) (g:a0c v.2.1) (h:(v.1.2.2.2.1:Int)<=1000) (i:v.2.2.2.2.1.length=1) :
 Pst (c6D v) fun y=>a0c y.2.1 /\ 1<=y.2.2.2.2.1.length /\ y.2.2.2.2.1.length<=21:=by
 unfold c6D;refine a0J (q:=d3F)
  (fun u=>a0c u.2.1 /\ (u.1.2.2.2.1:Int)<=1000 /\ 1<=u.2.2.2.2.1.length /\ u.2.2.2.2.1.length<=21)
  (fun _ r=>Pst r fun y=>a0c y.2.1 /\ 1<=y.2.2.2.2.1.length /\ y.2.2.2.2.1.length<=21)
  (fun u=>21-u.2.2.2.2.1.length) ?_ _ _ ⟨g,h,by omega,by omega⟩ (by unfold e3e;omega)
 rintro⟨⟨_,_,_,a,_⟩,⟨c0,c1,c2,_⟩,_,_,as_,_⟩ f ⟨g0,g1,g2,g3⟩ ih;dsimp only at g0 g1 g2 g3 ih;unfold d3F;dsimp only;refine a1j (fun b=>?_) (fun _=>a0j ⟨g0,g2,g3⟩);refine a1j (fun c=>?_) (fun _=>a0j ⟨g0,g2,g3⟩);refine a1j (fun d=>?_) (fun _=>a0j ⟨g0,g2,g3⟩);have b:a>0:=by simpa using b
 have c:a<180:=by simpa using c
 have d : as_.length < 20 := by have:(as_.length:Int)<20:=by simpa using d
                                omega
 refine a0h (a0v (by simp only[length_set,length_replicate];omega)) ?_;refine a0h (a0o _ cu) ?_;have e:=a1a 50 (c0,c1,c2,()) g0 (by decide);refine ih _ ⟨cu,e4Z _ _ b c e,?_,?_⟩ ?_
 all_goals simp only[length_append,length_set,length_replicate];omega
def b5o (ws:List Nat) (a:List Int) (b:List (List Nat)):Prop:=2<=a.length /\ a.length<=22 /\ 1<=ws.length /\ ws.length<=4 /\ b5n ws.length a.length ws b
theorem b1g (x:I73.den) (h:a0c x.2.1):Pst (F73 x) fun y=>a0c y.2.1 /\ b5o y.1.1.1 y.1.1.2.1 y.1.1.2.2.1:=by
 unfold F73;dsimp only;have a2f:∀(n:Int) (c:List Int×Int×Int×Unit),a0c c->0<n->0<=((G34 (((),n,()),c,())).1.1:Int) /\ ((G34 (((),n,()),c,())).1.1:Int)<n:=fun n c h i=>a1a n c h i
 refine a0h (a0o _ cu) ?_;have C:0<=((G34 (((),25,()),x.snd)).1.1:Int) /\ ((G34 (((),25,()),x.snd)).1.1:Int)<25:=a2f 25 x.2.1 h (by decide);have S:a0c (G34 (((),25,()),x.snd)).2.1:=cu;generalize G34 (((),25,()),x.snd)=A at *;refine a0h (a1R _ cu) ?_;have G:a0c (G77 (((),6,()),A.snd)).2.1:=cu;generalize G77 (((),6,()),A.snd)=B at *;have d:∀a:Int,a<=1000->Pst (
  let u:=set (replicate 1 (zero (Ty.int IntKind.i64))) 0 0
  let P:=(c6E (((),(),(),a,()),B.snd.fst,((),(),(),()),((),(),(),()),u,()))
  bif (P)then
   let o:=(a9l (((),(),(),a,()),B.snd.fst,((),(),(),()),((),(),(),()),u,()))
   let v:=(set (replicate 1 (zero (Ty.int IntKind.i64))) 0 180)
   bif (a0k (length o.snd.snd.snd.snd.fst+length v))then
    let Q:=(K34 (((),4,()),o.snd.fst,()))
    bif (Q)then
     let f:=(G34 (((),4,()),o.snd.fst,()))
     let q:=(K34 (((),4,()),f.snd))
     bif (q)then
      let j:=(wrap IntKind.i64 (1+f.fst.fst))
      let g:=(G34 (((),4,()),f.snd))
      let k:=(wrap IntKind.i64 (1+g.fst.fst))
      let l:=(o.snd.snd.snd.snd.fst++v)
      let r:=(b6G (((),(),(),nearest FloatKind.f32 j,k,()),g.snd.fst,((),(),(),()),((),(),(),()),[],l,[],()))
      bif (r)then
       let m:=(a5j (((),(),(),nearest FloatKind.f32 j,k,()),g.snd.fst,((),(),(),()),((),(),(),()),[],l,[],()))
       (some ((m.snd.snd.snd.snd,()),m.snd.fst,()):Option O73.den)
      else none
     else none
    else none
   else none
  else none) fun y=>a0c y.2.1 /\ b5o y.1.1.1 y.1.1.2.1 y.1.1.2.2.1:=by
  intro a J;dsimp only;have t:=b2J (((),(),(),a,()),B.snd.fst,((),(),(),()),((),(),(),()),set (replicate 1 (zero (Ty.int IntKind.i64))) 0 0,()) G J rfl;refine a0h (a2v t) ?_;have e:=a2W (((),((),((),()))),(([],(0,(0,()))),(((),((),((),()))),(((),((),((),()))),([],()))))) t;change a0c (a9l _).2.1 /\ 1<=(a9l _).2.2.2.2.1.length /\ (a9l _).2.2.2.2.1.length<=21 at e;generalize a9l (((),(),(),a,()),B.snd.fst,((),(),(),()),((),(),(),()),set (replicate 1 (zero (Ty.int IntKind.i64))) 0 0,())=y at *;obtain⟨_,c,_,_,b,_⟩:=y;dsimp only at e ⊢;obtain⟨T,U,V⟩:=e;refine a0h (a0v (by simp only[length_set,length_replicate];omega)) ?_;refine a0h (a0o _ cu) ?_;have H:a0c (G34 (((),4,()),c,())).2.1:=cu;generalize G34 (((),4,()),c,())=D at *;refine a0h (a0o _ cu) ?_;have F:0<=((G34 (((),4,()),D.snd)).1.1:Int) /\ ((G34 (((),4,()),D.snd)).1.1:Int)<4:=a2f 4 D.2.1 H (by decide);have I:a0c (G34 (((),4,()),D.snd)).2.1:=cu;generalize G34 (((),4,()),D.snd)=E at *;have i:0<=IntKind.i64.wrap (1+E.fst.fst) /\ IntKind.i64.wrap (1+E.fst.fst)<=8 /\ 1<=(IntKind.i64.wrap (1+E.fst.fst)).toNat /\ (IntKind.i64.wrap (1+E.fst.fst)).toNat<=4:=e5a _ F;generalize IntKind.i64.wrap (1+E.fst.fst)=nn at *;generalize nearest FloatKind.f32 (wrap IntKind.i64 (1+D.fst.fst))=w;have s:=b7t (((),(),(),w,nn,()),E.snd.fst,((),(),(),()),((),(),(),()),[],b++set (replicate 1 (zero (Ty.int IntKind.i64))) 0 180,[],()) I ⟨i.1,i.2.1⟩ rfl rfl (by simp only[length_append,length_set,length_replicate];omega);refine a0h (a2v s) ?_;have e:=a2W (((),((),())),(([],(0,(0,()))),(((),((),((),()))),(((),((),((),()))),([],([],([],()))))))) s;change a0c (a5j _).2.1 /\ (a5j _).2.2.2.2.2.1=_ /\ b5n nn.toNat _ (a5j _).2.2.2.2.1 (a5j _).2.2.2.2.2.2.1 at e;generalize a5j (((),(),(),w,nn,()),E.snd.fst,((),(),(),()),((),(),(),()),[],b++set (replicate 1 (zero (Ty.int IntKind.i64))) 0 180,[],())=y at *;obtain⟨_,c',_,_,R,z,O,_⟩:=y;dsimp only at e;obtain⟨K,L,p,M,N⟩:=e;subst L;refine a0j ⟨K,?_⟩;dsimp only;have el:(b++set (replicate 1 (zero (Ty.int IntKind.i64))) 0 180).length=b.length+1:=by simp only[length_append,length_set,length_replicate]
  refine⟨by rw[el];omega,by rw[el];omega,by rw[p];exact i.2.2.1,by rw[p];exact i.2.2.2,rfl,by rw[p,M],N⟩
 refine a1j (fun _=>?_) (fun _=>?_)
 ·exact d 0 (by decide)
 ·exact d _ (e5b _ C)
theorem f3x (x:I73.den) (h:a0c x.2.1):K73 x=true:=a2v (b1g x h)
theorem f3y (x:I73.den) (h:a0c x.2.1):a0c (G73 x).2.1 /\ b5o (G73 x).1.1.1 (G73 x).1.1.2.1 (G73 x).1.1.2.2.1:=a2W _ (b1g x h)
set_option maxRecDepth 100000
set_option maxHeartbeats 0
abbrev A27:Ty:=.cons (S46) (.cons (.str) (.nil))
abbrev R27:Ty:=.cons (S46) (.cons (.bool) (.nil))
def F27 (x:Den A27):OD R27:=let d:=K36 ((x.1,()),());bif d then bif K16 x.2 then bif K14 (x.1,()) then bif !(G14 (x.1,())).1 then bif d then let b:=G36 ((x.1,()),());some ((((b.1.1.1,b.1.1.2.1,b.1.1.2.2.1,()),(b.1.1.2.2.2.1,b.1.1.2.2.2.2.1,()),b.1.1.2.2.2.2.2.1,(((b.1.1.2.2.2.2.2.2.1,b.1.1.2.2.2.2.2.2.2.1,()),(b.1.1.2.2.2.2.2.2.2.2.1,b.1.1.2.2.2.2.2.2.2.2.2.1,()),()),b.1.1.2.2.2.2.2.2.2.2.2.2.1,((b.1.1.2.2.2.2.2.2.2.2.2.2.2.1,b.1.1.2.2.2.2.2.2.2.2.2.2.2.2.1,()),(b.1.1.2.2.2.2.2.2.2.2.2.2.2.2.2.1,b.1.1.2.2.2.2.2.2.2.2.2.2.2.2.2.2.1,()),()),()),()),b.1.1.2.2.2.2.2.2.2.2.2.2.2.2.2.2.2.1,b.1.1.2.2.2.2.2.2.2.2.2.2.2.2.2.2.2.2.1,b.1.1.2.2.2.2.2.2.2.2.2.2.2.2.2.2.2.2.2.1,b.1.1.2.2.2.2.2.2.2.2.2.2.2.2.2.2.2.2.2.2.1,b.1.1.2.2.2.2.2.2.2.2.2.2.2.2.2.2.2.2.2.2.2.1,b.2),false,())else none else bif decide ((length x.1.2.2.2.2.2.2.2.1:Int) ≥ 300) then bif d then let b:=G36 ((x.1,()),());some ((((b.1.1.1,b.1.1.2.1,b.1.1.2.2.1,()),(b.1.1.2.2.2.1,b.1.1.2.2.2.2.1,()),b.1.1.2.2.2.2.2.1,(((b.1.1.2.2.2.2.2.2.1,b.1.1.2.2.2.2.2.2.2.1,()),(b.1.1.2.2.2.2.2.2.2.2.1,b.1.1.2.2.2.2.2.2.2.2.2.1,()),()),b.1.1.2.2.2.2.2.2.2.2.2.2.1,((b.1.1.2.2.2.2.2.2.2.2.2.2.2.1,b.1.1.2.2.2.2.2.2.2.2.2.2.2.2.1,()),(b.1.1.2.2.2.2.2.2.2.2.2.2.2.2.2.1,b.1.1.2.2.2.2.2.2.2.2.2.2.2.2.2.2.1,()),()),()),()),b.1.1.2.2.2.2.2.2.2.2.2.2.2.2.2.2.2.1,b.1.1.2.2.2.2.2.2.2.2.2.2.2.2.2.2.2.2.1,b.1.1.2.2.2.2.2.2.2.2.2.2.2.2.2.2.2.2.2.1,b.1.1.2.2.2.2.2.2.2.2.2.2.2.2.2.2.2.2.2.2.1,b.1.1.2.2.2.2.2.2.2.2.2.2.2.2.2.2.2.2.2.2.2.1,b.2),false,())else none else let b:=G16 x.2;bif !b.2.1 then bif d then let a:=G36 ((x.1,()),());some ((((a.1.1.1,a.1.1.2.1,a.1.1.2.2.1,()),(a.1.1.2.2.2.1,a.1.1.2.2.2.2.1,()),a.1.1.2.2.2.2.2.1,(((a.1.1.2.2.2.2.2.2.1,a.1.1.2.2.2.2.2.2.2.1,()),(a.1.1.2.2.2.2.2.2.2.2.1,a.1.1.2.2.2.2.2.2.2.2.2.1,()),()),a.1.1.2.2.2.2.2.2.2.2.2.2.1,((a.1.1.2.2.2.2.2.2.2.2.2.2.2.1,a.1.1.2.2.2.2.2.2.2.2.2.2.2.2.1,()),(a.1.1.2.2.2.2.2.2.2.2.2.2.2.2.2.1,a.1.1.2.2.2.2.2.2.2.2.2.2.2.2.2.2.1,()),()),()),()),a.1.1.2.2.2.2.2.2.2.2.2.2.2.2.2.2.2.1,a.1.1.2.2.2.2.2.2.2.2.2.2.2.2.2.2.2.2.1,a.1.1.2.2.2.2.2.2.2.2.2.2.2.2.2.2.2.2.2.1,a.1.1.2.2.2.2.2.2.2.2.2.2.2.2.2.2.2.2.2.2.1,a.1.1.2.2.2.2.2.2.2.2.2.2.2.2.2.2.2.2.2.2.2.1,a.2),false,())else none else let a:=G36 ((x.1,()),());let g:=(((),b.1,()),(a.1.1.1,a.1.1.2.1,a.1.1.2.2.1,a.1.1.2.2.2.1,a.1.1.2.2.2.2.1,a.1.1.2.2.2.2.2.1,a.1.1.2.2.2.2.2.2.1,a.1.1.2.2.2.2.2.2.2.1,a.1.1.2.2.2.2.2.2.2.2.1,a.1.1.2.2.2.2.2.2.2.2.2.1,a.1.1.2.2.2.2.2.2.2.2.2.2.1,a.1.1.2.2.2.2.2.2.2.2.2.2.2.1,a.1.1.2.2.2.2.2.2.2.2.2.2.2.2.1,a.1.1.2.2.2.2.2.2.2.2.2.2.2.2.2.1,a.1.1.2.2.2.2.2.2.2.2.2.2.2.2.2.2.1,a.1.1.2.2.2.2.2.2.2.2.2.2.2.2.2.2.2.1,a.1.1.2.2.2.2.2.2.2.2.2.2.2.2.2.2.2.2.1,a.1.1.2.2.2.2.2.2.2.2.2.2.2.2.2.2.2.2.2.1,a.1.1.2.2.2.2.2.2.2.2.2.2.2.2.2.2.2.2.2.2.1,a.1.1.2.2.2.2.2.2.2.2.2.2.2.2.2.2.2.2.2.2.2.1,(),(),()),a.2);bif K68 g then let c:=G68 g;bif !c.1.1 then bif d then some ((((a.1.1.1,a.1.1.2.1,a.1.1.2.2.1,()),(a.1.1.2.2.2.1,a.1.1.2.2.2.2.1,()),a.1.1.2.2.2.2.2.1,(((a.1.1.2.2.2.2.2.2.1,a.1.1.2.2.2.2.2.2.2.1,()),(a.1.1.2.2.2.2.2.2.2.2.1,a.1.1.2.2.2.2.2.2.2.2.2.1,()),()),a.1.1.2.2.2.2.2.2.2.2.2.2.1,((a.1.1.2.2.2.2.2.2.2.2.2.2.2.1,a.1.1.2.2.2.2.2.2.2.2.2.2.2.2.1,()),(a.1.1.2.2.2.2.2.2.2.2.2.2.2.2.2.1,a.1.1.2.2.2.2.2.2.2.2.2.2.2.2.2.2.1,()),()),()),()),a.1.1.2.2.2.2.2.2.2.2.2.2.2.2.2.2.2.1,a.1.1.2.2.2.2.2.2.2.2.2.2.2.2.2.2.2.2.1,a.1.1.2.2.2.2.2.2.2.2.2.2.2.2.2.2.2.2.2.1,a.1.1.2.2.2.2.2.2.2.2.2.2.2.2.2.2.2.2.2.2.1,a.1.1.2.2.2.2.2.2.2.2.2.2.2.2.2.2.2.2.2.2.2.1,a.2),false,())else none else bif K60 (b.1,{ data:=#[32] },()) then let e:=set (replicate 1 (zero Ty.str)) 0 (G60 (b.1,{ data:=#[32] },())).1;bif a0k (length c.2.2.2.1+length e) then some ((((c.2.1.1,c.2.1.2.1,c.2.1.2.2.1,()),(c.2.1.2.2.2.1,c.2.1.2.2.2.2.1,()),c.2.1.2.2.2.2.2.1,(((c.2.1.2.2.2.2.2.2.1,c.2.1.2.2.2.2.2.2.2.1,()),(c.2.1.2.2.2.2.2.2.2.2.1,c.2.1.2.2.2.2.2.2.2.2.2.1,()),()),c.2.1.2.2.2.2.2.2.2.2.2.2.1,((c.2.1.2.2.2.2.2.2.2.2.2.2.2.1,c.2.1.2.2.2.2.2.2.2.2.2.2.2.2.1,()),(c.2.1.2.2.2.2.2.2.2.2.2.2.2.2.2.1,c.2.1.2.2.2.2.2.2.2.2.2.2.2.2.2.2.1,()),()),()),()),c.2.1.2.2.2.2.2.2.2.2.2.2.2.2.2.2.2.1,c.2.1.2.2.2.2.2.2.2.2.2.2.2.2.2.2.2.2.1,c.2.1.2.2.2.2.2.2.2.2.2.2.2.2.2.2.2.2.2.1,c.2.1.2.2.2.2.2.2.2.2.2.2.2.2.2.2.2.2.2.2.1,c.2.1.2.2.2.2.2.2.2.2.2.2.2.2.2.2.2.2.2.2.2.1,c.2.2.2.2.1,c.2.2.2.1++e,()),true,())else none else none else none else none else none else none
def K27 (x):=(F27 x).isSome
def G27 (x):=(F27 x).getD (zero R27)
def m27:=(27,a0b A27 R27 K27 G27)
theorem f3z:a0d Tryz.prog m27:=fnE (s5 f2O g4t f1V g4U f9z) Tryz.func27 (rown:=[.frzBox 4])
abbrev A10:Ty:=.cons (S46) (.cons (.slice (.str)) (.nil))
abbrev R10:Ty:=.cons (S46) (.cons (.slice (.bool)) (.nil))
abbrev c3g:Type:=(Unit×Unit×Unit×c5m×a4h)×ty0×ty2×e8A×Unit
abbrev d5b:Type:=a7N×ty0×ty2×e8A×Unit
def f3A:LX:=⟨[2,4,6,13,14,15],[.frzBox 2,.nil 6],0,[2,4,6],[],⟨[(2,om1),(4,om3),(6,.one (.ref (.bool) 2)),(13,d3d),(14,om0),(15,om0)],[(0,bx3),(1,bx4),(2,.arr (.bool))],3,0⟩,⟨[(2,om1),(4,om3),(6,.one (.ref (.bool) 2))],[(0,bx3),(1,bx4),(2,.arr (.bool))],3,0⟩⟩
def c3h (f:c3g->Option (d5b)) (v:c3g):Option (d5b):=bif decide (v.1.2.2.2.2.2.1<v.1.2.2.2.2.1) then bif decide (0<=v.1.2.2.2.2.2.1)&&decide (v.1.2.2.2.2.2.1<(length v.1.2.2.2.1:Int)) then let d:=getD v.1.2.2.2.1 (toNat v.1.2.2.2.2.2.1) (zero Ty.str);let b:=((((v.2.1.1,v.2.1.2.1,v.2.1.2.2.1,()),(v.2.1.2.2.2.1,v.2.1.2.2.2.2.1,()),v.2.1.2.2.2.2.2.1,(((v.2.1.2.2.2.2.2.2.1,v.2.1.2.2.2.2.2.2.2.1,()),(v.2.1.2.2.2.2.2.2.2.2.1,v.2.1.2.2.2.2.2.2.2.2.2.1,()),()),v.2.1.2.2.2.2.2.2.2.2.2.2.1,((v.2.1.2.2.2.2.2.2.2.2.2.2.2.1,v.2.1.2.2.2.2.2.2.2.2.2.2.2.2.1,()),(v.2.1.2.2.2.2.2.2.2.2.2.2.2.2.2.1,v.2.1.2.2.2.2.2.2.2.2.2.2.2.2.2.2.1,()),()),()),()),v.2.1.2.2.2.2.2.2.2.2.2.2.2.2.2.2.2),d,());bif K27 b then let a:=G27 b;let c:=set (replicate 1 (zero Ty.bool)) 0 a.2.1;bif a0k (length v.2.2.2.1+length c) then f ((((),(),(),v.1.2.2.2.1,v.1.2.2.2.2.1,wrap .i64 (v.1.2.2.2.2.2.1+1),()),(a.1.1.1.1,a.1.1.1.2.1,a.1.1.1.2.2.1,a.1.1.2.1.1,a.1.1.2.1.2.1,a.1.1.2.2.1,a.1.1.2.2.2.1.1.1.1,a.1.1.2.2.2.1.1.1.2.1,a.1.1.2.2.2.1.1.2.1.1,a.1.1.2.2.2.1.1.2.1.2.1,a.1.1.2.2.2.1.2.1,a.1.1.2.2.2.1.2.2.1.1.1,a.1.1.2.2.2.1.2.2.1.1.2.1,a.1.1.2.2.2.1.2.2.1.2.1.1,a.1.1.2.2.2.1.2.2.1.2.1.2.1,a.1.2),((),(),(),(),(),(),v.2.2.1.2.2.2.2.2.2.1,v.2.2.1.2.2.2.2.2.2.2.1,v.2.2.1.2.2.2.2.2.2.2.2.1,v.2.2.1.2.2.2.2.2.2.2.2.2.1,(),v.2.2.1.2.2.2.2.2.2.2.2.2.2.2.1,v.2.2.1.2.2.2.2.2.2.2.2.2.2.2.2.1,v.2.2.1.2.2.2.2.2.2.2.2.2.2.2.2.2.1,v.2.2.1.2.2.2.2.2.2.2.2.2.2.2.2.2.2.1,v.2.2.1.2.2.2.2.2.2.2.2.2.2.2.2.2.2.2.1,v.2.2.1.2.2.2.2.2.2.2.2.2.2.2.2.2.2.2.2.1,v.2.2.1.2.2.2.2.2.2.2.2.2.2.2.2.2.2.2.2.2.1,v.2.2.1.2.2.2.2.2.2.2.2.2.2.2.2.2.2.2.2.2.2.1,v.2.2.1.2.2.2.2.2.2.2.2.2.2.2.2.2.2.2.2.2.2.2.1,(),(),()),v.2.2.2.1++c,()))else none else none else none else some (((),(),(),()),v.2.1,((),(),(),(),(),(),v.2.2.1.2.2.2.2.2.2.1,v.2.2.1.2.2.2.2.2.2.2.1,v.2.2.1.2.2.2.2.2.2.2.2.1,v.2.2.1.2.2.2.2.2.2.2.2.2.1,(),v.2.2.1.2.2.2.2.2.2.2.2.2.2.2.1,v.2.2.1.2.2.2.2.2.2.2.2.2.2.2.2.1,v.2.2.1.2.2.2.2.2.2.2.2.2.2.2.2.2.1,v.2.2.1.2.2.2.2.2.2.2.2.2.2.2.2.2.2.1,v.2.2.1.2.2.2.2.2.2.2.2.2.2.2.2.2.2.2.1,v.2.2.1.2.2.2.2.2.2.2.2.2.2.2.2.2.2.2.2.1,v.2.2.1.2.2.2.2.2.2.2.2.2.2.2.2.2.2.2.2.2.1,v.2.2.1.2.2.2.2.2.2.2.2.2.2.2.2.2.2.2.2.2.2.1,v.2.2.1.2.2.2.2.2.2.2.2.2.2.2.2.2.2.2.2.2.2.2.1,(),(),()),v.2.2.2)
def d5c (v:c3g):Nat:=v.1.2.2.2.1.length+v.1.2.2.2.2.1.natAbs+v.1.2.2.2.2.2.1.natAbs+v.2.1.1.length+v.2.1.2.1.length+v.2.1.2.2.1.length+v.2.1.2.2.2.1.length+v.2.1.2.2.2.2.1.length+v.2.1.2.2.2.2.2.1.length+v.2.1.2.2.2.2.2.2.1.natAbs+v.2.1.2.2.2.2.2.2.2.1.natAbs+v.2.1.2.2.2.2.2.2.2.2.1.natAbs+v.2.1.2.2.2.2.2.2.2.2.2.1.natAbs+v.2.1.2.2.2.2.2.2.2.2.2.2.1.length+v.2.1.2.2.2.2.2.2.2.2.2.2.2.1.natAbs+v.2.1.2.2.2.2.2.2.2.2.2.2.2.2.1.natAbs+v.2.1.2.2.2.2.2.2.2.2.2.2.2.2.2.1.natAbs+v.2.1.2.2.2.2.2.2.2.2.2.2.2.2.2.2.1.natAbs+v.2.1.2.2.2.2.2.2.2.2.2.2.2.2.2.2.2.1.natAbs+v.2.1.2.2.2.2.2.2.2.2.2.2.2.2.2.2.2.2.2.1.natAbs+v.2.1.2.2.2.2.2.2.2.2.2.2.2.2.2.2.2.2.2.2.2.1.natAbs+v.2.1.2.2.2.2.2.2.2.2.2.2.2.2.2.2.2.2.2.2.2.2.1.length+v.2.1.2.2.2.2.2.2.2.2.2.2.2.2.2.2.2.2.2.2.2.2.2.1.length+v.2.2.1.2.2.2.2.2.2.1.natAbs+v.2.2.1.2.2.2.2.2.2.2.1.natAbs+v.2.2.1.2.2.2.2.2.2.2.2.1.natAbs+v.2.2.1.2.2.2.2.2.2.2.2.2.1.natAbs+v.2.2.1.2.2.2.2.2.2.2.2.2.2.2.1.natAbs+v.2.2.1.2.2.2.2.2.2.2.2.2.2.2.2.1.natAbs+v.2.2.1.2.2.2.2.2.2.2.2.2.2.2.2.2.1.natAbs+v.2.2.1.2.2.2.2.2.2.2.2.2.2.2.2.2.2.1.natAbs+v.2.2.1.2.2.2.2.2.2.2.2.2.2.2.2.2.2.2.1.natAbs+v.2.2.1.2.2.2.2.2.2.2.2.2.2.2.2.2.2.2.2.2.1.natAbs+v.2.2.1.2.2.2.2.2.2.2.2.2.2.2.2.2.2.2.2.2.2.2.1.natAbs+v.2.2.2.1.length+1000
def d5d (v:c3g):=a0F c3h (d5c v) v
def c1b (v):=(d5d v).isSome
def c1c (v):=(d5d v).getD (((),((),((),()))),(([],([],([],([],([],([],(0,(0,(0,(0,([],(0,(0,(0,(0,(0,((0,0),(0,((0,0),(0,([],([],())))))))))))))))))))))),(((),((),((),((),((),((),(0,(0,(0,(0,((),(0,(0,(0,(0,(0,((0,0),(0,((0,0),(0,((),((),())))))))))))))))))))))),([],()))))
def F10 (x:Den A10):OD R10:=bif K36 ((x.1,()),()) then let a:=G36 ((x.1,()),());let c:=(((),(),(),x.2.1,(length x.2.1:Int),0,()),(a.1.1.1,a.1.1.2.1,a.1.1.2.2.1,a.1.1.2.2.2.1,a.1.1.2.2.2.2.1,a.1.1.2.2.2.2.2.1,a.1.1.2.2.2.2.2.2.1,a.1.1.2.2.2.2.2.2.2.1,a.1.1.2.2.2.2.2.2.2.2.1,a.1.1.2.2.2.2.2.2.2.2.2.1,a.1.1.2.2.2.2.2.2.2.2.2.2.1,a.1.1.2.2.2.2.2.2.2.2.2.2.2.1,a.1.1.2.2.2.2.2.2.2.2.2.2.2.2.1,a.1.1.2.2.2.2.2.2.2.2.2.2.2.2.2.1,a.1.1.2.2.2.2.2.2.2.2.2.2.2.2.2.2.1,a.1.1.2.2.2.2.2.2.2.2.2.2.2.2.2.2.2.1,a.1.1.2.2.2.2.2.2.2.2.2.2.2.2.2.2.2.2.1,a.1.1.2.2.2.2.2.2.2.2.2.2.2.2.2.2.2.2.2.1,a.1.1.2.2.2.2.2.2.2.2.2.2.2.2.2.2.2.2.2.2.1,a.1.1.2.2.2.2.2.2.2.2.2.2.2.2.2.2.2.2.2.2.2.1,a.2),((),(),(),(),(),(),0,0,0,0,(),0,0,0,0,0,(0,0),0,(0,0),0,(),(),()),[],());bif c1b c then let b:=c1c c;some ((((b.2.1.1,b.2.1.2.1,b.2.1.2.2.1,()),(b.2.1.2.2.2.1,b.2.1.2.2.2.2.1,()),b.2.1.2.2.2.2.2.1,(((b.2.1.2.2.2.2.2.2.1,b.2.1.2.2.2.2.2.2.2.1,()),(b.2.1.2.2.2.2.2.2.2.2.1,b.2.1.2.2.2.2.2.2.2.2.2.1,()),()),b.2.1.2.2.2.2.2.2.2.2.2.2.1,((b.2.1.2.2.2.2.2.2.2.2.2.2.2.1,b.2.1.2.2.2.2.2.2.2.2.2.2.2.2.1,()),(b.2.1.2.2.2.2.2.2.2.2.2.2.2.2.2.1,b.2.1.2.2.2.2.2.2.2.2.2.2.2.2.2.2.1,()),()),()),()),b.2.1.2.2.2.2.2.2.2.2.2.2.2.2.2.2.2),b.2.2.2)else none else none
def K10 (x):=(F10 x).isSome
def G10 (x):=(F10 x).getD (zero R10)
def m10:=(10,a0b A10 R10 K10 G10)
noncomputable def h2c:=gE [m36,m27] Tryz.f10 (lps:=[(4,lmX f3A d5d)]) (rown:=[.frz 5])
theorem e5c:EvX h2c (lp Tryz.f10 0) f3A c3h:=fun _ _=>by kernel_rfl
theorem g5a:a0d Tryz.prog m10:=a0y (a0C (s2 f2O f3z)) (a1q Tryz.func10 rfl rfl rfl (by kernel_rfl) (a0f (by kernel_rfl) (s1 (lX e5c d5c)))) fun _=>by kernel_rfl
abbrev I31:Sg:=⟨[.ptr 0],[.box (a2L)]⟩
abbrev O31:Sg:=⟨[.val (S40)],[.box (a2L)]⟩
noncomputable def g5b:=gE [m73,m74,m76,m77] Tryz.f31 (rown:=[.frzBox 2])
theorem g5c:a1m Tryz.prog g5b:=a0C (s4 g1n f0m g1A b0e)
theorem h2d:a5P Tryz.prog 31 g5b (a0B Tryz.f31):=a1q Tryz.func31 rfl rfl rfl (by kernel_rfl) (a1E (by kernel_rfl))
abbrev A9:Ty:=.cons (.slice (.int .u8)) (.nil)
abbrev R9:Ty:=.cons (S46) (.cons (.slice (.str)) (.nil))
noncomputable def Γ9:=gE [m30,m33,m34,m32,m35] Tryz.f9 (rown:=[.frzBox 2,.frz 3])
theorem h2e:a1m Tryz.prog Γ9:=a0C (s5 f0b f0I a4F g0s g1G)
theorem is9:a5P Tryz.prog 9 Γ9 (a0B Tryz.f9):=a1q Tryz.func9 rfl rfl rfl (by kernel_rfl) (a1E (by kernel_rfl))
noncomputable def N31 (p75:KI I75) (Q75:QI I75 O75) (e75:Nonempty (Ch I75 O75 p75 Q75)) (a4j:KI a6k) (a5J:QI a6k a6U) (b2y:Nonempty (Ch a6k a6U a4j a5J)) (p79:KI I79) (Q79:QI I79 O79) (e79:Nonempty (Ch I79 O79 p79 Q79)):a8e:=mkN [(75,a3w true I75 O75 p75 Q75 e75),(78,a3w true a6k a6U a4j a5J b2y),(79,a3w true I79 O79 p79 Q79 e79)] []
noncomputable def g9s (p75:KI I75) (Q75:QI I75 O75) (e75:Nonempty (Ch I75 O75 p75 Q75)) (a4j:KI a6k) (a5J:QI a6k a6U) (b2y:Nonempty (Ch a6k a6U a4j a5J)) (p79:KI I79) (Q79:QI I79 O79) (e79:Nonempty (Ch I79 O79 p79 Q79)) (h:O31.den->Option Unit) (x:I31.den):Option Unit:=bif K73 (((),()),x.2) then let p:=G73 (((),()),x.2);bif K74 (((),()),p.2) then a3u fun(D:Ch I75 O75 p75 Q75)=>let q:=G74 (((),()),p.2);bif p75 (((),()),q.2.1,()) then let k:=D.val (((),()),q.2.1,());bif K76 (((),()),k.2.1,()) then let u:=(length k.2.2.1:Int);bif decide (u>0) then let g:=G76 (((),()),k.2.1,());bif K77 (((),2,()),g.2) then let l:=G77 (((),2,()),g.2);bif l.1.1 then bif decide (0<=0)&&decide (0<u) then let s:=getD k.2.2.1 (toNat 0) (zero S68);let c:=set k.2.2.1 (toNat 0) (s.1,0,s.2.2);bif decide (0<=0)&&decide (0<(length c:Int)) then let r:=getD c (toNat 0) (zero S68);let a:=set c (toNat 0) (r.1,r.2.1,1120403456,r.2.2.2);bif decide (0<=0)&&decide (0<(length a:Int)) then let m:=getD a (toNat 0) (zero S68);let b:=set a (toNat 0) (m.1,m.2.1,m.2.2.1,0,m.2.2.2.2);bif decide (0<=0)&&decide (0<(length b:Int)) then bif K77 (((),30,()),l.2) then let i:=G77 (((),30,()),l.2);bif i.1.1 then a3u fun(y:Ch a6k a6U a4j a5J)=>bif a4j (((),()),i.2) then let d:=y.val (((),()),i.2);bif K77 (((),30,()),d.2) then let j:=G77 (((),30,()),d.2);bif j.1.1 then a3u fun(C:Ch I79 O79 p79 Q79)=>bif p79 (((),()),j.2) then let t:=C.val (((),()),j.2);let n:=getD b (toNat 0) (zero S68);h ((((d.1.1,t.1.1,set b (toNat 0) (n.1,n.2.1,n.2.2.1,n.2.2.2.1,180,()),g.1),()),t.2))else none else let e:=getD b (toNat 0) (zero S68);h ((((d.1.1,q.2.2,set b (toNat 0) (e.1,e.2.1,e.2.2.1,e.2.2.2.1,180,()),g.1),()),j.2))else none else none else bif K77 (((),30,()),i.2) then let d:=G77 (((),30,()),i.2);bif d.1.1 then a3u fun(B:Ch I79 O79 p79 Q79)=>bif p79 (((),()),d.2) then let j:=B.val (((),()),d.2);let e:=getD b (toNat 0) (zero S68);h ((((p.1.1,j.1.1,set b (toNat 0) (e.1,e.2.1,e.2.2.1,e.2.2.2.1,180,()),g.1),()),j.2))else none else let o:=getD b (toNat 0) (zero S68);h ((((p.1.1,q.2.2,set b (toNat 0) (o.1,o.2.1,o.2.2.1,o.2.2.2.1,180,()),g.1),()),d.2))else none else none else none else none else none else none else bif K77 (((),30,()),l.2) then let c:=G77 (((),30,()),l.2);bif c.1.1 then a3u fun(w:Ch a6k a6U a4j a5J)=>bif a4j (((),()),c.2) then let a:=w.val (((),()),c.2);bif K77 (((),30,()),a.2) then let b:=G77 (((),30,()),a.2);bif b.1.1 then a3u fun(A:Ch I79 O79 p79 Q79)=>bif p79 (((),()),b.2) then let i:=A.val (((),()),b.2);h ((((a.1.1,i.1.1,k.2.2.1,g.1),()),i.2))else none else h ((((a.1.1,q.2.2,k.2.2.1,g.1),()),b.2))else none else none else bif K77 (((),30,()),c.2) then let a:=G77 (((),30,()),c.2);bif a.1.1 then a3u fun(f:Ch I79 O79 p79 Q79)=>bif p79 (((),()),a.2) then let b:=f.val (((),()),a.2);h ((((p.1.1,b.1.1,k.2.2.1,g.1),()),b.2))else none else h ((((p.1.1,q.2.2,k.2.2.1,g.1),()),a.2))else none else none else none else let g:=G76 (((),()),k.2.1,());bif K77 (((),30,()),g.2) then let l:=G77 (((),30,()),g.2);bif l.1.1 then a3u fun(v:Ch a6k a6U a4j a5J)=>bif a4j (((),()),l.2) then let c:=v.val (((),()),l.2);bif K77 (((),30,()),c.2) then let a:=G77 (((),30,()),c.2);bif a.1.1 then a3u fun(f:Ch I79 O79 p79 Q79)=>bif p79 (((),()),a.2) then let b:=f.val (((),()),a.2);h ((((c.1.1,b.1.1,k.2.2.1,g.1),()),b.2))else none else h ((((c.1.1,q.2.2,k.2.2.1,g.1),()),a.2))else none else none else bif K77 (((),30,()),l.2) then let c:=G77 (((),30,()),l.2);bif c.1.1 then a3u fun(z:Ch I79 O79 p79 Q79)=>bif p79 (((),()),c.2) then let a:=z.val (((),()),c.2);h ((((p.1.1,a.1.1,k.2.2.1,g.1),()),a.2))else none else h ((((p.1.1,q.2.2,k.2.2.1,g.1),()),c.2))else none else none else none else none else none else none
theorem g5d (p75 Q75 e75 a4j a5J b2y p79 Q79 e79 h x) :a3v (g5b) (N31 p75 Q75 e75 a4j a5J b2y p79 Q79 e79) (a0B Tryz.f31) I31 O31 h x=g9s p75 Q75 e75 a4j a5J b2y p79 Q79 e79 h x:=by kernel_rfl
noncomputable def N9 (p31:KI I31) (Q31:QI I31 O31) (e31:Nonempty (Ch I31 O31 p31 Q31)):a8e:=mkN [(31,a3w true I31 O31 p31 Q31 e31)] []
noncomputable def rN9 (p31:KI I31) (Q31:QI I31 O31) (e31:Nonempty (Ch I31 O31 p31 Q31)) (h:Den R9->Option Unit) (x:Den A9):Option Unit:=bif K30 (x,()) then a3u fun(f:Ch I31 O31 p31 Q31)=>let e:=G30 (x,());bif p31 (((),()),e.2) then let b:=f.val (((),()),e.2);bif K33 (((),60,()),b.2) then let c:=G33 (((),60,()),b.2);bif K34 (((),3000,()),c.2) then let d:=G34 (((),3000,()),c.2);bif K32 ((b.1.1,c.1.1,d.1),()) then bif K35 (((),b.1),d.2) then let a:=G32 ((b.1.1,c.1.1,d.1),());h (((((a.2.1,a.2.2.1,a.2.2.2.1,()),(a.2.2.2.2.1,a.2.2.2.2.2.1,()),a.2.2.2.2.2.2.1,(((a.1.1.2.2.2.2.2.2.1,a.1.1.2.2.2.2.2.2.2.1,()),(a.1.1.2.2.2.2.2.2.2.2.1,a.1.1.2.2.2.2.2.2.2.2.2.1,()),()),a.2.2.2.2.2.2.2.1,((a.1.1.2.2.2.2.2.2.2.2.2.2.2.1,a.1.1.2.2.2.2.2.2.2.2.2.2.2.2.1,()),(a.1.1.2.2.2.2.2.2.2.2.2.2.2.2.2.1,a.1.1.2.2.2.2.2.2.2.2.2.2.2.2.2.2.1,()),()),()),()),a.1.1.2.2.2.2.2.2.2.2.2.2.2.2.2.2.2),(G35 (((),b.1),d.2)).2.2))else none else none else none else none else none else none
theorem h2f (p31 Q31 e31 h x) :a5G (Γ9) (N9 p31 Q31 e31) (a0B Tryz.f9) (a5H R9 h) (a5Q A9 x) []=rN9 p31 Q31 e31 h x:=by kernel_rfl
def a4m (b:Den S40):Prop:=d4M b.1 /\ a4I b.2.1 /\ (a0K b.2.2.1 /\ b.2.2.1.length<=13) /\ b.2.2.2.1.2.1.length<=22
def p31 (x:I31.den):Bool:=d4C x.2.1
def Q31 (x:I31.den) (y:O31.den):Prop:=a0c y.2.1 /\ a4m y.1.1
theorem d0c:a4I ([],[],()):=⟨zero_le _,zero_le _⟩
theorem d5e:d4M ([],[],[],()):=⟨zero_le _,zero_le _,zero_le _,fun _ h=>by cases h⟩
theorem e31:Nonempty (Ch I31 O31 p31 Q31):=⟨⟨fun _=>((zero S40,()),(e0c,())),fun _ _=>⟨a6j,d5e,d0c,⟨(fun _ h=>by cases h),zero_le _⟩,zero_le _⟩⟩⟩
noncomputable def d5f (h:O31.den->Option Unit) (c:O77.den) (P:Den S27) (T:Den S30) (S:List (Den S68)) (C:Den S38×Unit):Option Unit:=
 bif c.1.1 then
  a3u fun(b:Ch I79 O79 p79 Q79)=>
   bif p79 (((),()),c.2)then h (((P,(b.val (((),()),c.2)).1.1,S,C),()),(b.val (((),()),c.2)).2)else none
 else h (((P,T,S,C),()),c.2)
noncomputable def e0C (h:O31.den->Option Unit) (c:(List Int×Int×Int×Unit)×Unit) (P:Den S27) (T:Den S30) (S:List (Den S68)) (C:Den S38×Unit):Option Unit :=
 bif K77 (((),30,()),c)then
  bif (G77 (((),30,()),c)).1.1 then
   a3u fun(a:Ch a6k a6U a4j a5J)=>
    bif a4j (((),()),(G77 (((),30,()),c)).2)then
     bif K77 (((),30,()),(a.val (((),()),(G77 (((),30,()),c)).2)).2)then
      d5f h (G77 (((),30,()),(a.val (((),()),(G77 (((),30,()),c)).2)).2)) (a.val (((),()),(G77 (((),30,()),c)).2)).1.1 T S C
     else none
    else none
  else
   bif K77 (((),30,()),(G77 (((),30,()),c)).2)then
    d5f h (G77 (((),30,()),(G77 (((),30,()),c)).2)) P T S C
   else none
 else none
theorem c1d {h:O31.den->Option Unit} {c:O77.den} {P:Den S27} {T:Den S30} {S:List (Den S68)} {C:Den S38×Unit} (f:a0c c.2.1) (d:d4M P) (i:a4I T) (e:a0K S /\ S.length<=13) (a:C.1.2.1.length<=22)
 (hh:∀y:O31.den,a0c y.2.1 /\ a4m y.1.1->h y=some ()):d5f h c P T S C=some ():=by
 unfold d5f;refine a1N (fun _=>?_) (fun _=>hh _ ⟨f,d,i,e,a⟩)
 haveI:=e79
 refine a0n fun b=>?_
 have g:p79 (((),()),c.2)=true:=a1l.2 f;obtain⟨q1,j⟩:=b.2 _ g;exact a0w g (hh _ ⟨q1,d,j,e,a⟩)
theorem a9G {h:O31.den->Option Unit} {c:(List Int×Int×Int×Unit)×Unit} {P:Den S27} {T:Den S30} {S:List (Den S68)} {C:Den S38×Unit} (g:a0c c.1) (j:d4M P) (f:a4I T) (e:a0K S /\ S.length<=13) (d:C.1.2.1.length<=22)
 (hh:∀y:O31.den,a0c y.2.1 /\ a4m y.1.1->h y=some ()):e0C h c P T S C=some ():=by
 unfold e0C;refine a0w (a1R _ g) ?_;have b:a0c (G77 (((),30,()),c)).2.1:=a2V _ g;generalize G77 (((),30,()),c)=A at *;refine a1N (fun _=>?_) (fun _=>?_)
 ·haveI:=b2y
  refine a0n fun a=>?_
  have i:a4j (((),()),A.2)=true:=a1l.2 b;obtain⟨q1,k⟩:=a.2 _ i;refine a0w i (a0w (a1R _ q1) (c1d (a2V _ q1) k f e d hh))
 ·exact a0w (a1R _ b) (c1d (a2V _ b) j f e d hh)
theorem b5o.m {ws:List Nat} {a:List Int} {b:List (List Nat)} (h:b5o ws a b):d4M (ws,a,b,()):=by
 obtain⟨f,c,g,i,j,k,d⟩:=h;exact⟨by show ws.length<=14;omega,c,by show b.length<=14;omega,fun r e=>by rw[d r e];exact c⟩
set_option maxRecDepth 100000 in
theorem g5e:a2s Tryz.prog 31 (a3w true I31 O31 p31 Q31 e31):=b3K g5c (N:=N31 p75 Q75 e75 a4j a5J b2y p79 Q79 e79) (a2K ⟨g4y,e4h,g4B,trivial⟩) h2d a1p fun x F k i=>by
 have i:∀y:O31.den,a0c y.2.1 /\ a4m y.1.1->k y=some ():=i;have h:a0c x.2.1:=a1l.1 F;refine Eq.trans (g5d _ _ _ _ _ _ _ _ _ k x) ?_;unfold g9s;dsimp only;refine a0w (f3x _ h) ?_;obtain⟨u,q1⟩:=f3y (((),()),x.snd) h;generalize G73 (((),()),x.snd)=v1 at *;refine a0w (e0e _ u) ?_;obtain⟨A,G,_,L⟩:=e0f (((),()),v1.snd) u;generalize G74 (((),()),v1.snd)=v3 at *;have s:a4I v3.snd.snd:=⟨by have:=G.2;show v3.2.2.1.length<=21;omega,by show v3.2.2.2.1.length<=6;omega⟩;have r:d4M v1.fst.fst:=q1.m
 haveI:=e75
 refine a0n fun g=>?_
 have z:p75 (((),()),v3.snd.fst,())=true:=a1l.2 A;obtain⟨v,o,gl⟩:=g.2 _ z;refine a0w z ?_;generalize g.val (((),()),v3.snd.fst,())=d at *;refine a0w (f2X _ v) ?_;obtain⟨m,q⟩:=a2W _ (b4S (((),()),d.snd.fst,()) v);change a0c (G76 _).2.1 at m;change (G76 _).1.1.2.1.length<=22 at q;generalize G76 (((),()),d.snd.fst,())=v7 at *;refine a1N (fun t=>?_) (fun _=>?_)
 ·have t:0<length d.snd.snd.fst:=by
   have:=of_decide_eq_true t;omega
  have a:∀(l:List (Den S68)),a0K l->b7b (getD l (toNat 0) (zero S68)):=fun l h=>h.at _
  have p:∀n:Nat,0<n->(decide (0<=0)&&decide (0<((n:Nat):Int)))=true:=fun n h=>by simp;omega
  refine a0w (a1R _ m) ?_;have w:a0c (G77 (((),2,()),v7.snd)).2.1:=a2V _ m;generalize G77 (((),2,()),v7.snd)=v9 at *;refine a1N (fun _=>?_) (fun _=>?_)
  ·have H:I64 0:=a8s;have j:I64 180:=by unfold I64;decide
   have s1:a0K (set d.snd.snd.fst (toNat 0) ((getD d.snd.snd.fst (toNat 0) (zero S68)).fst,0,(getD d.snd.snd.fst (toNat 0) (zero S68)).snd.snd)):=o.set (a _ o);refine a0w (p _ t) ?_;generalize B:set d.snd.snd.fst (toNat 0) ((getD d.snd.snd.fst (toNat 0) (zero S68)).fst,0,(getD d.snd.snd.fst (toNat 0) (zero S68)).snd.snd)=e at *;have I:e.length=d.snd.snd.fst.length:=by rw[<- B,length_set]
   refine a0w (p _ (by omega)) ?_;have s2:a0K (set e (toNat 0) ((getD e (toNat 0) (zero S68)).fst,(getD e (toNat 0) (zero S68)).snd.fst,1120403456,(getD e (toNat 0) (zero S68)).snd.snd.snd)):=s1.set (a _ s1);generalize D:set e (toNat 0) ((getD e (toNat 0) (zero S68)).fst,(getD e (toNat 0) (zero S68)).snd.fst,1120403456,(getD e (toNat 0) (zero S68)).snd.snd.snd)=b at *;have J:b.length=e.length:=by rw[<- D,length_set]
   refine a0w (p _ (by omega)) ?_;have s3:a0K (set b (toNat 0) ((getD b (toNat 0) (zero S68)).fst,(getD b (toNat 0) (zero S68)).snd.fst,(getD b (toNat 0) (zero S68)).snd.snd.fst,0,(getD b (toNat 0) (zero S68)).snd.snd.snd.snd)):=s2.set ⟨(a _ s2).1,H,(a _ s2).2.2⟩;generalize E:set b (toNat 0) ((getD b (toNat 0) (zero S68)).fst,(getD b (toNat 0) (zero S68)).snd.fst,(getD b (toNat 0) (zero S68)).snd.snd.fst,0,(getD b (toNat 0) (zero S68)).snd.snd.snd.snd)=f at *;have K:f.length=b.length:=by rw[<- E,length_set]
   refine a0w (p _ (by omega)) ?_;have s4:a0K (set f (toNat 0) ((getD f (toNat 0) (zero S68)).fst,(getD f (toNat 0) (zero S68)).snd.fst,(getD f (toNat 0) (zero S68)).snd.snd.fst,(getD f (toNat 0) (zero S68)).snd.snd.snd.fst,180,())):=s3.set ⟨(a _ s3).1,(a _ s3).2.1,j⟩;exact a9G (h:=k) (c:=v9.snd) (P:=v1.fst.fst) (T:=v3.snd.snd) (C:=v7.fst) w r s ⟨s4,by rw[length_set];omega⟩ q i
  ·exact a9G (h:=k) (c:=v9.snd) (P:=v1.fst.fst) (T:=v3.snd.snd) (S:=d.snd.snd.fst) (C:=v7.fst) w r s ⟨o,gl⟩ q i
 ·exact a9G (h:=k) (c:=v7.snd) (P:=v1.fst.fst) (T:=v3.snd.snd) (S:=d.snd.snd.fst) (C:=v7.fst) m r s ⟨o,gl⟩ q i
def bOf (l:List UInt8):ByteArray:=⟨l.toArray⟩
theorem a7z (a b:List UInt8):bOf a++bOf b=bOf (a++b):=by
 apply ByteArray.ext;simp[bOf,ByteArray.data_append]
theorem a2B (a:List UInt8):(bOf a).size=a.length:=by simp[bOf,ByteArray.size]
def dig (u:Nat):List UInt8:=if u=0 then[]else Lib.decDigits u
def dg (u:Nat):UInt8:=UInt8.ofNat (48+u)
theorem c1e {u:Nat} (h:u≠0):dig u=dig (u/10)++[dg (u%10)]:=by
 unfold dig dg;rw[if_neg h,Lib.decDigits];by_cases a:u<10
 ·rw[dif_pos a,if_pos (by omega),Nat.mod_eq_of_lt a];rfl
 ·rw[dif_neg a,if_neg (by omega)]
theorem b7u:∀(k u:Nat),u<10^k->(dig u).length<=k
 | 0,u,h=>by
   have:u=0:=by simpa using h
   subst this;exact le_refl 0
 | k+1,u,h=>by
   by_cases a:u=0
   ·subst a;exact zero_le _
   ·rw[c1e a,length_append,List.length_singleton];have:=b7u k (u/10) (by rw[Nat.pow_succ]at h;omega);omega
theorem c1f (d:Nat) (h:d<10):a7H [IntKind.u8.wrap (IntKind.i64.wrap (48+(d:Int)))]=bOf [dg d]:=by
 have e:∀d:Fin 10,a7H [IntKind.u8.wrap (IntKind.i64.wrap (48+((d:Nat):Int)))]=bOf [dg d]:=by decide
 exact e ⟨d,h⟩
theorem e5d (d:Nat) (h:d<10):f6B ((d:Int),())=some (IntKind.u8.wrap (IntKind.i64.wrap (48+(d:Int))),()):=by
 unfold f6B;have:decide ((d:Int)<10)=true:=by simp;omega
 simp only[this,cond_true]
theorem d5g (n:Int) (b:Bool) (s:List UInt8) (z:n.natAbs<=9223372036854775808) (p:s.length+(dig n.natAbs).length<=1000):b3Z ((n,b,bOf s,()),())=some ((b,bOf (dig n.natAbs++s),()),()):=by
 refine a0J (q:=b9e) (fun v=>∃(n:Int) (s:List UInt8),v=((n,b,bOf s,()),()) /\ n.natAbs<=9223372036854775808 /\ s.length+(dig n.natAbs).length<=1000)
  (fun v r=>∀(n:Int) (s:List UInt8),v=((n,b,bOf s,()),())->s.length+(dig n.natAbs).length<=1000->r=some ((b,bOf (dig n.natAbs++s),()),())) (fun v=>v.1.1.natAbs) ?_ _ _ ⟨n,s,rfl,z,p⟩ (by simp only[c6k];omega) n s rfl p
 rintro v f ⟨n,s,rfl,z,p⟩ E F B x D;have l:n=F:=congrArg (fun v=>v.1.1) x;have m:bOf s=bOf B:=congrArg (fun v=>v.1.2.2.1) x;subst l;have o:s=B:=by
  have:=congrArg (fun b=>b.data.toList) m;simpa[bOf]using this
 subst o;unfold b9e;dsimp only;by_cases t:n=0
 ·subst t;simp[dig]
 ·have C:(n != 0)=true:=by simpa using t
  have hd:∀d:Nat,d<10->e9w ((d:Int),())=true /\ e9x ((d:Int),())=(IntKind.u8.wrap (IntKind.i64.wrap (48+(d:Int))),()):=fun d h=>by
   unfold e9w e9x;rw[e5d d h];exact⟨rfl,rfl⟩
  have e:n.natAbs%10<10:=Nat.mod_lt _ (by decide);have a:=c1e (u:=n.natAbs) (by omega);have g:(Int.tdiv n 10).natAbs=n.natAbs/10:=by rw[Int.natAbs_tdiv];rfl
  have A:IntKind.i64.wrap (Int.tdiv n 10)=Int.tdiv n 10:=by
   have w:(Int.tdiv n 10).natAbs<=922337203685477580:=by rw[g];omega
   rw[w64 (by omega) (by omega)]
  have y:(dig n.natAbs).length=(dig (n.natAbs/10)).length+1:=by rw[a,length_append,List.length_singleton]
  have fin:f ((Int.tdiv n 10,b,bOf ([dg (n.natAbs%10)]++s),()),())=some ((b,bOf (dig n.natAbs++s),()),()):=by
   have:=E _ ⟨Int.tdiv n 10,[dg (n.natAbs%10)]++s,rfl,by rw[g];omega,by rw[g,length_append,List.length_singleton];omega⟩ (by show(Int.tdiv n 10).natAbs<n.natAbs;rw[g];omega) (Int.tdiv n 10) ([dg (n.natAbs%10)]++s) rfl (by rw[g,length_append,List.length_singleton];omega);rw[this,g,<- List.append_assoc,<- a]
  have i:decide (ByteArray.size (bOf [dg (n.natAbs%10)])+ByteArray.size (bOf s)<=9223372036854775807)=true:=by
   rw[a2B,a2B,List.length_singleton];exact decide_eq_true (by omega)
  rw[C,cond_true];by_cases c:Int.tmod n 10<0
  ·have j:decide (Int.tmod n 10<0)=true:=decide_eq_true c;have k:IntKind.i64.wrap (0-Int.tmod n 10)=((n.natAbs%10:Nat):Int):=by
    have w:(Int.tmod n 10).natAbs=n.natAbs%10:=by rw[Int.natAbs_tmod];rfl
    rw[w64 (by omega) (by omega)];omega
   simp only[j,cond_true,k,(hd _ e).1,(hd _ e).2];rw[show set (replicate 1 (zero (Ty.int IntKind.u8))) 0 (IntKind.u8.wrap (IntKind.i64.wrap (48+((n.natAbs%10:Nat):Int))))=[IntKind.u8.wrap (IntKind.i64.wrap (48+((n.natAbs%10:Nat):Int)))]from rfl,c1f _ e,i,cond_true,A,a7z];exact fin
  ·have j:decide (Int.tmod n 10<0)=false:=decide_eq_false c;have k:Int.tmod n 10=((n.natAbs%10:Nat):Int):=by
    have w:(Int.tmod n 10).natAbs=n.natAbs%10:=by rw[Int.natAbs_tmod];rfl
    omega
   simp only[j,cond_false,k,(hd _ e).1,(hd _ e).2,cond_true];rw[show set (replicate 1 (zero (Ty.int IntKind.u8))) 0 (IntKind.u8.wrap (IntKind.i64.wrap (48+((n.natAbs%10:Nat):Int))))=[IntKind.u8.wrap (IntKind.i64.wrap (48+((n.natAbs%10:Nat):Int)))]from rfl,c1f _ e,i,cond_true,A,a7z];exact fin
theorem b2K (n:Int) (i:n.natAbs<=9223372036854775808):f6C (n,())=some (bOf (Lib.itoa n),()):=by
 have hd:(dig n.natAbs).length<=19:=b7u 19 _ (by omega);unfold f6C;dsimp only;by_cases e:n=0
 ·subst e;have:Lib.itoa 0=[48]:=by unfold Lib.itoa;rw[if_neg (by decide),Lib.decDigits,dif_pos (by decide)];rfl
  rw[this];rfl
 ·have f:(n==0)=false:=by simpa using e
  have h:=d5g n (decide (n<0)) [] i (by simp;omega);have d:b3Z ((n,decide (n<0),{ data:=#[] },()),())=some ((decide (n<0),bOf (dig n.natAbs++[]),()),()):=h;simp only[f,cond_false,c6l,c6m,d,isSome_some,getD_some,cond_true,List.append_nil];have b:dig n.natAbs=Lib.decDigits n.natAbs:=if_neg (by omega);by_cases a:n<0
  ·have c:decide (n<0)=true:=decide_eq_true a;have g:decide (ByteArray.size { data:=#[45] }+ByteArray.size (bOf (dig n.natAbs))<=9223372036854775807)=true:=by
    rw[a2B];exact decide_eq_true (by show 1+_<=_;omega)
   simp only[c,g,cond_true];have:({ data:=#[45] }:ByteArray)=bOf [45]:=rfl;rw[this,a7z,b];unfold Lib.itoa;rw[if_pos a];rfl
  ·have c:decide (n<0)=false:=decide_eq_false a;simp only[c,cond_false];unfold Lib.itoa;rw[if_neg a,b,show n.natAbs=n.toNat by omega]
theorem a4M (n:Int) (d:n.natAbs<=9223372036854775808):1<=(Lib.itoa n).length /\ (Lib.itoa n).length<=20:=by
 have hd:(dig n.natAbs).length<=19:=b7u 19 _ (by omega);have c:∀u:Nat,1<=(Lib.decDigits u).length:=fun u=>by
  rw[Lib.decDigits];split<;>simp
 by_cases b:n=0
 ·subst b;have:Lib.itoa 0=[48]:=by unfold Lib.itoa;rw[if_neg (by decide),Lib.decDigits,dif_pos (by decide)];rfl
  rw[this];decide
 ·have a:dig n.natAbs=Lib.decDigits n.natAbs:=if_neg (by omega);unfold Lib.itoa;split
  ·rw[List.length_cons,<- a];omega
  ·rw[show n.toNat=n.natAbs by omega,<- a];have:=c n.natAbs;rw[<- a]at this;omega
theorem b7v (l:List UInt8) (k:Nat):ByteArray.extract (bOf l) k l.length=bOf (l.drop k):=by
 apply ByteArray.ext;rw[ByteArray.data_extract];apply Array.ext';simp[bOf,ByteArray.size];exact List.take_of_length_le (by rw[List.length_drop];omega)
def b0m (n:Int):List UInt8:=
 if -1000000000<=n /\ n<=1000000000 then(if n<0 then[45]else[])++Lib.itoa ((n.natAbs/1000:Nat):Int)++[46]++(Lib.itoa ((1000+n.natAbs%1000:Nat):Int)).drop 1 else[]
theorem c1g (m:Nat) (sg:List UInt8) (i:m<=1000000000) (j:sg.length<=1) {k:OD R83} (h:k=some (bOf (sg++Lib.itoa ((m/1000:Nat):Int)++[46]++(Lib.itoa ((1000+m%1000:Nat):Int)).drop 1),())) :
 (bif b4a (((1000+m%1000:Nat):Int),())then
  bif b4a (((m/1000:Nat):Int),())then
   bif decide (ByteArray.size (bOf sg)+ByteArray.size (a7t (((m/1000:Nat):Int),())).1<=9223372036854775807)then
    bif decide (ByteArray.size (bOf sg++(a7t (((m/1000:Nat):Int),())).1)+ByteArray.size { data:=#[46] }<=9223372036854775807)then
     bif decide (0<=1)&&decide (1<=((ByteArray.size (a7t (((1000+m%1000:Nat):Int),())).1:Nat):Int))&&decide (((ByteArray.size (a7t (((1000+m%1000:Nat):Int),())).1:Nat):Int)<=((ByteArray.size (a7t (((1000+m%1000:Nat):Int),())).1:Nat):Int))then
      bif decide (ByteArray.size (bOf sg++(a7t (((m/1000:Nat):Int),())).1++{ data:=#[46] })+ByteArray.size (ByteArray.extract (a7t (((1000+m%1000:Nat):Int),())).1 (toNat 1) (toNat ((ByteArray.size (a7t (((1000+m%1000:Nat):Int),())).1:Nat):Int)))<=9223372036854775807)then
       some (bOf sg++(a7t (((m/1000:Nat):Int),())).1++{ data:=#[46] }++ByteArray.extract (a7t (((1000+m%1000:Nat):Int),())).1 (toNat 1) (toNat ((ByteArray.size (a7t (((1000+m%1000:Nat):Int),())).1:Nat):Int)),())
      else none
     else none
    else none
   else none
  else none
 else none:OD R83)=k:=by
 have f:=b2K ((1000+m%1000:Nat):Int) (by omega);have g:=b2K ((m/1000:Nat):Int) (by omega);obtain⟨l,o⟩:=a4M ((1000+m%1000:Nat):Int) (by omega);obtain⟨n,p⟩:=a4M ((m/1000:Nat):Int) (by omega);have a:({ data:=#[46] }:ByteArray)=bOf [46]:=rfl;unfold b4a a7t;rw[f,g,h,a];generalize Lib.itoa ((1000+m%1000:Nat):Int)=A at *;generalize Lib.itoa ((m/1000:Nat):Int)=B at *;simp only[isSome_some,getD_some,cond_true,toNat_natCast,show toNat 1=1 from rfl,a2B,b7v,a7z,length_append,List.length_singleton,List.length_drop];have b:decide (sg.length+B.length<=9223372036854775807)=true:=decide_eq_true (by omega);have c:decide (sg.length+B.length+1<=9223372036854775807)=true:=decide_eq_true (by omega);have d:(decide (0<=1)&&decide (1<=((A.length:Nat):Int))&&decide (((A.length:Nat):Int)<=((A.length:Nat):Int)))=true:=by simp;omega
 have e:decide (sg.length+B.length+1+(A.length-1)<=9223372036854775807)=true:=decide_eq_true (by omega);simp only[b,c,d,e,cond_true]
theorem d0d (n:Int):F83 (n,())=some (bOf (b0m n),()):=by
 unfold F83 b0m;have h:K51 (n,-1000000000,1000000000,())=true:=by unfold K51;rw[b0U];rfl
 have g:(G51 (n,-1000000000,1000000000,())).1=(decide ((-1000000000:Int)<=n)&&decide (n<=1000000000)):=by unfold G51;rw[b0U];rfl
 dsimp only;rw[h,cond_true,g];by_cases b:(-1000000000:Int)<=n /\ n<=1000000000
 ·have c:(decide ((-1000000000:Int)<=n)&&decide (n<=1000000000))=true:=by rw[decide_eq_true b.1,decide_eq_true b.2];rfl
  rw[c,Bool.not_true,cond_false,if_pos b];by_cases a:n<0
  ·have d:decide (n<0)=true:=decide_eq_true a;have i:IntKind.i64.wrap (0-n)=((n.natAbs:Nat):Int):=by rw[w64 (by omega) (by omega)];omega
   have e:IntKind.i64.wrap (1000+Int.tmod ((n.natAbs:Nat):Int) 1000)=((1000+n.natAbs%1000:Nat):Int):=by
    rw[Int.tmod_eq_emod_of_nonneg (by omega),w64 (by omega) (by omega)];omega
   have f:IntKind.i64.wrap (Int.tdiv ((n.natAbs:Nat):Int) 1000)=((n.natAbs/1000:Nat):Int):=by
    rw[Int.tdiv_eq_ediv_of_nonneg (by omega),w64 (by omega) (by omega)];omega
   rw[d,cond_true,i,e,f,if_pos a];exact c1g n.natAbs [45] (by omega) (by simp) rfl
  ·have d:decide (n<0)=false:=decide_eq_false a;have j:n=((n.natAbs:Nat):Int):=by omega
   have e:IntKind.i64.wrap (1000+Int.tmod n 1000)=((1000+n.natAbs%1000:Nat):Int):=by
    rw[Int.tmod_eq_emod_of_nonneg (by omega),w64 (by omega) (by omega)];omega
   have f:IntKind.i64.wrap (Int.tdiv n 1000)=((n.natAbs/1000:Nat):Int):=by
    rw[Int.tdiv_eq_ediv_of_nonneg (by omega),w64 (by omega) (by omega)];omega
   rw[d,cond_false,e,f,if_neg a];exact c1g n.natAbs [] (by omega) (by simp) rfl
 ·have c:(decide ((-1000000000:Int)<=n)&&decide (n<=1000000000))=false:=by
   rw[Bool.and_eq_false_iff,decide_eq_false_iff_not,decide_eq_false_iff_not];omega
  rw[c,Bool.not_false,cond_true,if_neg b];rfl
theorem d5h (n:Int):(b0m n).length<=50:=by
 unfold b0m;split
 ·obtain⟨a,c⟩:=a4M ((1000+n.natAbs%1000:Nat):Int) (by omega);obtain⟨b,d⟩:=a4M ((n.natAbs/1000:Nat):Int) (by omega);generalize Lib.itoa ((1000+n.natAbs%1000:Nat):Int)=A at *;generalize Lib.itoa ((n.natAbs/1000:Nat):Int)=B at *;simp only[length_append,List.length_singleton,List.length_drop];split<;>simp<;>omega
 ·exact zero_le _
theorem e0D (n:Int) (h:n.natAbs<=9223372036854775808):b4a (n,())=true /\ (a7t (n,())).1.size<=20:=by
 unfold b4a a7t;rw[b2K n h];exact⟨rfl,by rw[getD_some,a2B];exact(a4M n h).2⟩
theorem c3i (n:Int):K83 (n,())=true /\ (G83 (n,())).1.size<=50:=by
 unfold K83 G83;rw[d0d n];exact⟨rfl,by rw[getD_some,a2B];exact d5h n⟩
theorem d5i (n:Int):(IntKind.i64.wrap n).natAbs<=9223372036854775808:=by
 have:=c2O n;unfold I64 at this;omega
theorem sz {a b:ByteArray} {n m:Nat} (c:a.size<=n) (d:b.size<=m) (h:n+m<=9223372036854775807):decide (a.size+b.size<=9223372036854775807)=true:=decide_eq_true (by omega)
theorem szA {a b:ByteArray} {n m:Nat} (c:a.size<=n) (d:b.size<=m):(a++b).size<=n+m:=by rw[ByteArray.size_append];omega
set_option maxRecDepth 100000 in
theorem b5p (x:I67.den) (h:a0c x.2.1) (F:a0K x.1.2.1.2.2.1) (J:x.1.2.1.2.2.1.length<=13):Pst (F67 x) fun y=>a0c y.2.1 /\ y.1.1.size<=2000:=by
 unfold F67;dsimp only;have a2f:∀(n:Int) (c:(List Int×Int×Int×Unit)×Unit),a0c c.1->0<n->0<=((G34 (((),n,()),c)).1.1:Int) /\ ((G34 (((),n,()),c)).1.1:Int)<n:=fun n c h G=>a1a n c.1 h G
 have o:∀z:Int,0<=z /\ z<365->z.natAbs<=9223372036854775808:=fun z h=>by omega
 refine a0h (a0o _ h) ?_;have e:a0c (G34 (((),12,()),x.snd)).2.1:=a1i _ h;generalize G34 (((),12,()),x.snd)=A at *;have g:Pst (bif K34 (((),365,()),A.snd)then
  bif b4a (G34 (((),365,()),A.snd)).fst then
   bif decide (ByteArray.size { data:=#[115,116,101,101,114,32] }+ByteArray.size (a7t (G34 (((),365,()),A.snd)).fst).fst<=9223372036854775807)then
    some ((({ data:=#[115,116,101,101,114,32] }++(a7t (G34 (((),365,()),A.snd)).fst).fst,()),(G34 (((),365,()),A.snd)).snd):O67.den)
   else none
  else none
  else none) fun y=>a0c y.2.1 /\ y.1.1.size<=2000:=by
  refine a0h (a0o _ e) ?_;have d:a0c (G34 (((),365,()),A.snd)).2.1:=a1i _ e;have C:=a2f 365 A.snd e (by decide);generalize G34 (((),365,()),A.snd)=B at *;obtain⟨k,s1⟩:=e0D B.1.1 (o _ C);refine a0h k (a0h (sz (n:=6) (m:=20) (le_refl _) s1 (by decide)) (a0j ⟨d,Nat.le_trans (szA (n:=6) (m:=20) (le_refl _) s1) (by decide)⟩))
 have wind:Pst (bif K34 (((),25,()),A.snd)then
  bif K83 (wrap IntKind.i64 (wrap IntKind.i64 (1000*(G34 (((),25,()),A.snd)).fst.fst)-12000),())then
   bif decide (ByteArray.size { data:=#[119,105,110,100,32] }+ByteArray.size (G83 (wrap IntKind.i64 (wrap IntKind.i64 (1000*(G34 (((),25,()),A.snd)).fst.fst)-12000),())).fst<=9223372036854775807)then
    bif decide (ByteArray.size ({ data:=#[119,105,110,100,32] }++(G83 (wrap IntKind.i64 (wrap IntKind.i64 (1000*(G34 (((),25,()),A.snd)).fst.fst)-12000),())).fst)+ByteArray.size { data:=#[32] }<=9223372036854775807)then
     bif K34 (((),49,()),(G34 (((),25,()),A.snd)).snd)then
      bif K83 (wrap IntKind.i64 (wrap IntKind.i64 (500*(G34 (((),49,()),(G34 (((),25,()),A.snd)).snd)).fst.fst)-12000),())then
       bif decide (ByteArray.size ({ data:=#[119,105,110,100,32] }++(G83 (wrap IntKind.i64 (wrap IntKind.i64 (1000*(G34 (((),25,()),A.snd)).fst.fst)-12000),())).fst++{ data:=#[32] })+ByteArray.size (G83 (wrap IntKind.i64 (wrap IntKind.i64 (500*(G34 (((),49,()),(G34 (((),25,()),A.snd)).snd)).fst.fst)-12000),())).fst<=9223372036854775807)then
        some (((({ data:=#[119,105,110,100,32] }++(G83 (wrap IntKind.i64 (wrap IntKind.i64 (1000*(G34 (((),25,()),A.snd)).fst.fst)-12000),())).fst++{ data:=#[32] })++(G83 (wrap IntKind.i64 (wrap IntKind.i64 (500*(G34 (((),49,()),(G34 (((),25,()),A.snd)).snd)).fst.fst)-12000),())).fst,()),(G34 (((),49,()),(G34 (((),25,()),A.snd)).snd)).snd):O67.den)
       else none
      else none
     else none
    else none
   else none
  else none
  else none) fun y=>a0c y.2.1 /\ y.1.1.size<=2000:=by
  refine a0h (a0o _ e) ?_;have d:a0c (G34 (((),25,()),A.snd)).2.1:=a1i _ e;generalize G34 (((),25,()),A.snd)=B at *;obtain⟨k,s1⟩:=c3i (wrap IntKind.i64 (wrap IntKind.i64 (1000*B.fst.fst)-12000));have s2:=szA (n:=5) (m:=50) (a:={ data:=#[119,105,110,100,32] }) (le_refl _) s1;have s3:=szA (m:=1) (b:={ data:=#[32] }) s2 (le_refl _);refine a0h k (a0h (sz (n:=5) (m:=50) (le_refl _) s1 (by decide)) (a0h (sz (m:=1) s2 (le_refl _) (by decide)) ?_));refine a0h (a0o _ d) ?_;have j:a0c (G34 (((),49,()),B.snd)).2.1:=a1i _ d;generalize G34 (((),49,()),B.snd)=D at *;obtain⟨r,s4⟩:=c3i (wrap IntKind.i64 (wrap IntKind.i64 (500*D.fst.fst)-12000));exact a0h r (a0h (sz s3 s4 (by decide)) (a0j ⟨j,Nat.le_trans (szA s3 s4) (by decide)⟩))
 have i:Pst (bif decide ((↑(length x.fst.snd.fst.snd.snd.fst):Int)>0)then
  bif K77 (((),5,()),A.snd)then
   bif !(G77 (((),5,()),A.snd)).fst.fst then
    bif K34 (((),(↑(length x.fst.snd.fst.snd.snd.fst):Int),()),(G77 (((),5,()),A.snd)).snd)then
     bif decide (0<=(G34 (((),(↑(length x.fst.snd.fst.snd.snd.fst):Int),()),(G77 (((),5,()),A.snd)).snd)).fst.fst)&&decide ((G34 (((),(↑(length x.fst.snd.fst.snd.snd.fst):Int),()),(G77 (((),5,()),A.snd)).snd)).fst.fst<(↑(length x.fst.snd.fst.snd.snd.fst):Int))then
      bif decide (ByteArray.size { data:=#[115,97,105,108,32] }+ByteArray.size (getD x.fst.snd.fst.snd.snd.fst (toNat (G34 (((),(↑(length x.fst.snd.fst.snd.snd.fst):Int),()),(G77 (((),5,()),A.snd)).snd)).fst.fst) (zero S68)).fst<=9223372036854775807)then
       some ((({ data:=#[115,97,105,108,32] }++(getD x.fst.snd.fst.snd.snd.fst (toNat (G34 (((),(↑(length x.fst.snd.fst.snd.snd.fst):Int),()),(G77 (((),5,()),A.snd)).snd)).fst.fst) (zero S68)).fst,()),(G34 (((),(↑(length x.fst.snd.fst.snd.snd.fst):Int),()),(G77 (((),5,()),A.snd)).snd)).snd):O67.den)
      else none
     else none
    else none
   else some ((({ data:=#[115,97,105,108,32] }++{ data:=#[110,111,110,101] },()),(G77 (((),5,()),A.snd)).snd):O67.den)
  else none
  else some ((({ data:=#[115,97,105,108,32] }++{ data:=#[110,111,110,101] },()),A.snd):O67.den)) fun y=>a0c y.2.1 /\ y.1.1.size<=2000:=by
  have f:ByteArray.size ({ data:=#[115,97,105,108,32] }++{ data:=#[110,111,110,101] })<=2000:=Nat.le_trans (szA (n:=5) (m:=4) (le_refl _) (le_refl _)) (by decide);refine a1j (fun H=>?_) (fun _=>a0j ⟨e,f⟩);have w:0<x.1.2.1.2.2.1.length:=by
   have:=of_decide_eq_true H;show 0<length x.fst.snd.fst.snd.snd.fst;omega
  refine a0h (a1R _ e) ?_;have d:a0c (G77 (((),5,()),A.snd)).2.1:=a2V _ e;generalize G77 (((),5,()),A.snd)=B at *;refine a1j (fun _=>?_) (fun _=>a0j ⟨d,f⟩);refine a0h (a0o _ d) ?_;have j:a0c (G34 (((),(↑(length x.fst.snd.fst.snd.snd.fst):Int),()),B.snd)).2.1:=a1i _ d;have u:=a2f (↑(length x.fst.snd.fst.snd.snd.fst):Int) B.snd d (by omega);generalize G34 (((),(↑(length x.fst.snd.fst.snd.snd.fst):Int),()),B.snd)=D at *;have q:(getD x.fst.snd.fst.snd.snd.fst (toNat D.fst.fst) (zero S68)).fst.size<=1000:=(F.at _).1;refine a0h (by rw[decide_eq_true u.1,decide_eq_true u.2];rfl) (a0h (sz (n:=5) (le_refl _) q (by decide)) (a0j ⟨j,Nat.le_trans (szA (n:=5) (le_refl _) q) (by decide)⟩))
 refine a1j (fun _=>g) (fun _=>a1j (fun _=>g) (fun _=>a1j (fun _=>wind) (fun _=>a1j (fun _=>wind) (fun _=>a1j (fun _=>i) (fun _=>a1j (fun _=>i) (fun _=>a1j (fun _=>?_) (fun _=>a1j (fun _=>?_) (fun _=>?_))))))))
 ·refine a0h (a0o _ e) ?_;have d:a0c (G34 (((),200000,()),A.snd)).2.1:=a1i _ e;generalize G34 (((),200000,()),A.snd)=B at *;obtain⟨k,s1⟩:=c3i (wrap IntKind.i64 (B.fst.fst-100000));have s2:=szA (n:=4) (m:=50) (a:={ data:=#[102,105,120,32] }) (le_refl _) s1;have s3:=szA (m:=2) (b:={ data:=#[32,32] }) s2 (le_refl _);refine a0h k (a0h (sz (n:=4) (m:=50) (le_refl _) s1 (by decide)) (a0h (sz (m:=2) s2 (le_refl _) (by decide)) ?_));refine a0h (a0o _ d) ?_;have j:a0c (G34 (((),200000,()),B.snd)).2.1:=a1i _ d;generalize G34 (((),200000,()),B.snd)=D at *;obtain⟨r,s4⟩:=c3i (wrap IntKind.i64 (D.fst.fst-100000));exact a0h r (a0h (sz s3 s4 (by decide)) (a0j ⟨j,Nat.le_trans (szA s3 s4) (by decide)⟩))
 ·have p:∀l:List ByteArray,(l.all fun s=>Nat.ble s.size 1000)=true->∀s∈l,s.size<=1000:=fun l h s I=>Nat.le_of_ble_eq_true (List.all_eq_true.1 h s I)
  have t:∀L:List ByteArray,(L.all fun s=>Nat.ble s.size 1000)=true->0<L.length ->
   Pst (bif f0e (((),(),()),A.snd.fst,L,())then some (((e3c (((),(),()),A.snd.fst,L,())).fst,(e3c (((),(),()),A.snd.fst,L,())).snd.fst,()):O67.den)else none) fun y=>a0c y.2.1 /\ y.1.1.size<=2000:=by
   intro L E v;refine a0h (c8C _ e v) ?_;obtain⟨d,m1⟩:=c8D (((),(),()),A.snd.fst,L,()) e v;exact a0j ⟨d,Nat.le_trans (p _ E _ m1) (by decide)⟩
  exact t _ rfl (by simp only[length_set,length_replicate];decide)
 ·refine a0h (a0o _ e) ?_;have d:a0c (G34 (((),40,()),A.snd)).2.1:=a1i _ e;generalize G34 (((),40,()),A.snd)=B at *;refine a0h (a0o _ d) ?_;have j:a0c (G34 (((),40,()),B.snd)).2.1:=a1i _ d;generalize G34 (((),40,()),B.snd)=D at *;obtain⟨k,s1⟩:=e0D (wrap IntKind.i64 (1+wrap IntKind.i64 (B.fst.fst*D.fst.fst))) (d5i _);exact a0h k (a0h (sz (n:=3) (m:=20) (le_refl _) s1 (by decide)) (a0j ⟨j,Nat.le_trans (szA (n:=3) (m:=20) (le_refl _) s1) (by decide)⟩))
theorem d5j (x:I67.den) (h:a0c x.2.1) (a:a0K x.1.2.1.2.2.1) (b:x.1.2.1.2.2.1.length<=13):K67 x=true:=a2v (b5p x h a b)
theorem d5k (x:I67.den) (h:a0c x.2.1) (a:a0K x.1.2.1.2.2.1) (b:x.1.2.1.2.2.1.length<=13):a0c (G67 x).2.1 /\ (G67 x).1.1.size<=2000:=a2W _ (b5p x h a b)
def a7b (l:List ByteArray):Prop:=l.length<=30 /\ ∀s∈l,s.size<=2000
set_option maxRecDepth 100000 in
theorem b1h (v:b4l) (l:a0c v.2.1) (o:a0K v.2.2.1.2.2.2.2.2.1) (t:v.2.2.1.2.2.2.2.2.1.length<=13) (u:(v.1.2.2.2.1:Int)+v.2.2.2.1.length<=30) (g:(v.2.2.2.1.length:Int)<=30) (i:∀s∈v.2.2.2.1,s.size<=2000) :
 Pst (d3W v) fun y=>a0c y.2.1 /\ a7b y.2.2.1:=by
 refine a0J (q:=d3V) (fun v=>a0c v.2.1 /\ a0K v.2.2.1.2.2.2.2.2.1 /\ v.2.2.1.2.2.2.2.2.1.length<=13 /\ (v.1.2.2.2.1:Int)+v.2.2.2.1.length<=30 /\ (v.2.2.2.1.length:Int)<=30 /\ ∀s∈v.2.2.2.1,s.size<=2000)
  (fun _ r=>Pst r fun y=>a0c y.2.1 /\ a7b y.2.2.1) (fun v=>v.1.2.2.2.1.toNat) ?_ _ _ ⟨l,o,t,u,g,i⟩ (Nat.lt_of_lt_of_le (m:=1000) (by show(v.1.2.2.2.1:Int).toNat<1000;omega) (Nat.le_add_left _ _))
 clear l o t u g i v;rintro⟨⟨_,_,_,n,_⟩,c,B,ls,_⟩ f ⟨g0,g1,g2,g3,g4,g5⟩ ih;dsimp only at g0 g1 g2 g3 g4 g5 ih;unfold d3V;dsimp only;by_cases p:n>0
 ·refine a0h (by simpa using p) ?_;have j:∀b:Den S40,b.2.2.1=B.2.2.2.2.2.1->Pst (bif K67 (((),b,()),c,())then
   bif a0k (length ls+length (set (replicate 1 (zero Ty.str)) 0 (G67 (((),b,()),c,())).fst.fst))then
    f (((),(),(),wrap IntKind.i64 (n-1),()),(G67 (((),b,()),c,())).snd.fst,B,ls++set (replicate 1 (zero Ty.str)) 0 (G67 (((),b,()),c,())).fst.fst,())
   else none
   else none) fun y=>a0c y.2.1 /\ a7b y.2.2.1:=by
   intro b k;have a:a0K b.2.2.1:=by rw[k];exact g1
   have d:b.2.2.1.length<=13:=by rw[k];exact g2
   refine a0h (d5j (((),b,()),c,()) g0 a d) ?_;obtain⟨w,s1⟩:=d5k (((),b,()),c,()) g0 a d;generalize G67 (((),b,()),c,())=y at *;have e:IntKind.i64.wrap (n-1)=n-1:=w64 (by omega) (by omega);have x:∀z:ByteArray,set (replicate 1 (zero Ty.str)) 0 z=[z]:=fun _=>rfl
   rw[x,e];refine a0h (a0v (by rw[List.length_singleton];omega)) ?_;refine ih _ ⟨w,g1,g2,?_,?_,?_⟩ ?_
   ·show n-1+((ls++[y.1.1]).length:Int)<=30;rw[length_append,List.length_singleton];omega
   ·show((ls++[y.1.1]).length:Int)<=30;rw[length_append,List.length_singleton];omega
   ·intro s i;rcases List.mem_append.1 i with h|h
    ·exact g5 s h
    ·rw[List.mem_singleton.1 h];exact s1
   ·show(n-1).toNat<n.toNat;omega
  exact j _ rfl
 ·have hd:decide (n>0)=false:=by simpa using p
  rw[hd];exact a0j ⟨g0,by show ls.length<=30;omega,g5⟩
theorem d0e (v:b4l) (b:a0c v.2.1) (c:a0K v.2.2.1.2.2.2.2.2.1) (d:v.2.2.1.2.2.2.2.2.1.length<=13) (e:(v.1.2.2.2.1:Int)+v.2.2.2.1.length<=30) (a:(v.2.2.2.1.length:Int)<=30) (f:∀s∈v.2.2.2.1,s.size<=2000) :
 b4m v=true /\ a0c (b0J v).2.1 /\ a7b (b0J v).2.2.1:=⟨a2v (b1h v b c d e a f),a2W _ (b1h v b c d e a f)⟩
set_option maxRecDepth 100000 in
theorem c1h (x:I35.den) (h:a0c x.2.1) (E:a0K x.1.2.1.2.2.1) (J:x.1.2.1.2.2.1.length<=13):Pst (F35 x) fun y=>a0c y.2.1 /\ a7b y.2.2.1:=by
 unfold F35;dsimp only;have a2f:∀(n:Int) (c:(List Int×Int×Int×Unit)×Unit),a0c c.1->0<n->0<=((G34 (((),n,()),c)).1.1:Int) /\ ((G34 (((),n,()),c)).1.1:Int)<n:=fun n c h L=>a1a n c.1 h L
 have G:∀(z:Int) (k:Nat),0<=z /\ z<9->k<=2->z+(k:Int)<=30:=fun z k h P=>by omega
 have I:∀z:ByteArray,set (replicate 1 (zero Ty.str)) 0 z=[z]:=fun _=>rfl
 refine a0h (a0o _ h) ?_;have H:a0c (G34 (((),33,()),x.snd)).2.1:=a1i _ h;generalize G34 (((),33,()),x.snd)=A at *;obtain⟨N,s1⟩:=c3i (wrap IntKind.i64 (wrap IntKind.i64 (500*A.fst.fst)-8000));have s2:=szA (n:=5) (m:=50) (a:={ data:=#[119,105,110,100,32] }) (le_refl _) s1;have s3:=szA (m:=1) (b:={ data:=#[32] }) s2 (le_refl _);refine a0h N (a0h (sz (n:=5) (m:=50) (le_refl _) s1 (by decide)) (a0h (sz (m:=1) s2 (le_refl _) (by decide)) ?_));refine a0h (a0o _ H) ?_;have f:a0c (G34 (((),33,()),A.snd)).2.1:=a1i _ H;generalize G34 (((),33,()),A.snd)=B at *;obtain⟨O,s4⟩:=c3i (wrap IntKind.i64 (wrap IntKind.i64 (500*B.fst.fst)-8000));refine a0h O (a0h (sz s3 s4 (by decide)) ?_);have s5:=szA s3 s4;generalize { data:=#[119,105,110,100,32] }++(G83 (wrap IntKind.i64 (wrap IntKind.i64 (500*A.fst.fst)-8000),())).fst++{ data:=#[32] }++(G83 (wrap IntKind.i64 (wrap IntKind.i64 (500*B.fst.fst)-8000),())).fst=w at *;refine a1j (fun M=>?_) (fun _=>?_)
 ·have K:0<length x.fst.snd.fst.snd.snd.fst:=by
   have:=of_decide_eq_true M;omega
  refine a0h (by have:decide (0<((length x.fst.snd.fst.snd.snd.fst:Nat):Int))=true:=decide_eq_true (by omega);rw[this];rfl) ?_;have g:(getD x.fst.snd.fst.snd.snd.fst (toNat 0) (zero S68)).fst.size<=1000:=(E.at _).1;refine a0h (sz (n:=5) (le_refl _) g (by decide)) ?_;have s6:=szA (n:=5) (a:={ data:=#[115,97,105,108,32] }) (le_refl _) g;refine a0h (a0o _ f) ?_;have q:a0c (G34 (((),9,()),B.snd)).2.1:=a1i _ f;have p:=a2f 9 B.snd f (by decide);generalize G34 (((),9,()),B.snd)=D at *;generalize { data:=#[115,97,105,108,32] }++(getD x.fst.snd.fst.snd.snd.fst (toNat 0) (zero S68)).fst=u at *;simp only[I];have d:∀s∈[w]++[u],s.size<=2000:=fun s F=>by
   rcases List.mem_append.1 F with h|h
   ·rw[List.mem_singleton.1 h];exact Nat.le_trans s5 (by decide)
   ·rw[List.mem_singleton.1 h];exact Nat.le_trans s6 (by decide)
  have e:∀v:b4l,a0c v.2.1->a0K v.2.2.1.2.2.2.2.2.1->v.2.2.1.2.2.2.2.2.1.length<=13->(v.1.2.2.2.1:Int)+v.2.2.2.1.length<=30->(v.2.2.2.1.length:Int)<=30->(∀s∈v.2.2.2.1,s.size<=2000) ->
   Pst (bif b4m v then some ((((),()),(b0J v).snd):O35.den)else none) fun y=>a0c y.2.1 /\ a7b y.2.2.1:=fun v a1 a2 i j l o=>by
   obtain⟨r,t,C⟩:=d0e v a1 a2 i j l o;exact a0h r (a0j ⟨t,C⟩)
  exact e _ q E J (G _ 2 p (by decide)) (by show(2:Int)<=30;decide) d
 ·refine a0h (a0o _ f) ?_;have q:a0c (G34 (((),9,()),B.snd)).2.1:=a1i _ f;have p:=a2f 9 B.snd f (by decide);generalize G34 (((),9,()),B.snd)=D at *;simp only[I];have d:∀s∈[w],s.size<=2000:=fun s F=>by rw[List.mem_singleton.1 F];exact Nat.le_trans s5 (by decide)
  have e:∀v:b4l,a0c v.2.1->a0K v.2.2.1.2.2.2.2.2.1->v.2.2.1.2.2.2.2.2.1.length<=13->(v.1.2.2.2.1:Int)+v.2.2.2.1.length<=30->(v.2.2.2.1.length:Int)<=30->(∀s∈v.2.2.2.1,s.size<=2000) ->
   Pst (bif b4m v then some ((((),()),(b0J v).snd):O35.den)else none) fun y=>a0c y.2.1 /\ a7b y.2.2.1:=fun v a1 a2 i j l o=>by
   obtain⟨r,t,C⟩:=d0e v a1 a2 i j l o;exact a0h r (a0j ⟨t,C⟩)
  exact e _ q E J (G _ 1 p (by decide)) (by show(1:Int)<=30;decide) d
theorem f3B (x:I35.den) (h:a0c x.2.1) (a:a0K x.1.2.1.2.2.1) (b:x.1.2.1.2.2.1.length<=13):K35 x=true:=a2v (c1h x h a b)
theorem f3C (x:I35.den) (h:a0c x.2.1) (a:a0K x.1.2.1.2.2.1) (b:x.1.2.1.2.2.1.length<=13):a0c (G35 x).2.1 /\ a7b (G35 x).2.2.1:=a2W _ (c1h x h a b)
def a5M (b:Den S40):Bool:=a2k b.1&&(a3B b.2.1&&(a1B b.2.2.1&&(decide ((b.2.2.1.length:Int)>0)&&a9t b.2.2.2.1)))
theorem e0E (b:Den S40) (h:a4m b):F42 (b,())=some (a5M b,()):=by
 obtain⟨P,T,S,C,_⟩:=b;obtain⟨k,d,⟨c,e⟩,a⟩:=h;have f:=e0o P;have g:=c9k T d;have i:=c8y S (c.good e);have j:=f2Q C (by have:C.2.1.length<=22:=a;omega);unfold F42 a5M;dsimp only;simp only[K90,G90,f,K91,G91,g,K92,G92,i,K93,G93,j,isSome_some,getD_some,cond_true];cases a2k P
 ·rfl
 ·cases a3B T
  ·rfl
  ·cases a1B S
   ·rfl
   ·cases decide (((length S:Nat):Int)>0)<;>rfl
theorem e0F (b:Den S40) (h:a4m b):F50 (b,())=some (a5M b,()):=by
 obtain⟨P,T,S,C,_⟩:=b;obtain⟨k,d,⟨c,e⟩,a⟩:=h;have f:=e0p P;have g:=b7l T d;have i:=b2q S (c.good e);have j:=e3X C (by have:C.2.1.length<=22:=a;omega);unfold F50 a5M;dsimp only;simp only[K99,G99,f,e2M,e2N,g,d7m,d7n,i,g0p,g0q,j,isSome_some,getD_some,cond_true];cases a2k P
 ·rfl
 ·cases a3B T
  ·rfl
  ·cases a1B S
   ·rfl
   ·cases decide (((length S:Nat):Int)>0)<;>rfl
theorem c3j {α:Type} {l:List α} (h:l.length<=1000):a0k (0+l.length)=true:=a0v (by omega)
theorem d0f (c:List (List Nat)) (a:List Nat) (b:List Int) (h:c.length<=1000) (n:∀r∈c,r.length<=1000) :
 c0q (((),(),c,(c.length:Int),(0:Int),()),((),(),(),()),(a,b,(),()),[],())=some (((),(),()),((),(),(),()),(a,b,(),()),c,()):=by
 refine a0J (q:=c0o) (fun v=>∃k:Nat,k<=c.length /\ v=(((),(),c,(c.length:Int),(k:Int),()),((),(),(),()),(a,b,(),()),c.take k,()))
  (fun _ r=>r=some (((),(),()),((),(),(),()),(a,b,(),()),c,())) (fun v=>c.length-v.1.2.2.2.2.1.toNat) ?_ _ _ ⟨0,zero_le _,rfl⟩ (by show c.length-toNat 0<c0p _;unfold c0p;dsimp only;omega)
 rintro v f ⟨k,p,rfl⟩ o;unfold c0o;dsimp only;by_cases d:k<c.length
 ·have g:decide ((k:Int)<(c.length:Int))=true:=by simpa using d
  have j:decide (0<=(k:Int))=true:=by simp
  have e:getD c (toNat (k:Int)) (zero (Ty.slice (Ty.flt FloatKind.f32)))=c[k]:=by rw[toNat_natCast,a3t _ _ _ d]
  have i:e6T (c[k],())=true:=a0v (by have:=n _ (List.getElem_mem d);show 0+length c[k]<=_;omega);have l:set (replicate 1 (zero (Ty.slice (Ty.flt FloatKind.f32)))) 0 c[k]=[c[k]]:=rfl;have m:IntKind.i64.wrap ((k:Int)+1)=((k+1:Nat):Int):=a1Z k (by omega);rw[g,j,e,i,m];simp only[Bool.and_self,cond_true];rw[show(e6U (c[k],())).1=c[k]from rfl,l,a0v (by rw[List.length_singleton,List.length_take];omega),cond_true];refine o _ ⟨k+1,d,?_⟩ ?_
  ·rw[show List.take (k+1) c=List.take k c++[c[k]]from(List.take_succ_eq_append_getElem d)]
  ·show c.length-((k+1:Nat):Int).toNat<c.length-((k:Nat):Int).toNat;omega
 ·have g:decide ((k:Int)<(c.length:Int))=false:=by simpa using d
  rw[g,cond_false,List.take_of_length_le (by omega)]
theorem e5e (p:Den S27) (h:d4M p):f7W (p,())=some (p,()):=by
 obtain⟨ws,a,e,_⟩:=p;obtain⟨b,c,d,i⟩:=h;have b:ws.length<=14:=b;have c:a.length<=22:=c;have d:e.length<=14:=d;have j:=d0f e ws a (by omega) (fun r k=>by have:=i r k;omega);have m:e6T (ws,())=true:=c3j (l:=ws) (by omega);have n:e6W (a,())=true:=c3j (l:=a) (by omega);have f:e6U (ws,())=(ws,()):=rfl;have g:e6X (a,())=(a,()):=rfl;unfold f7W;dsimp only;simp only[m,n,f,g,cond_true,c8q,c8r,j,isSome_some,getD_some]
theorem e5f (t:Den S30) (h:a4I t):f7X (t,())=some (t,()):=by
 obtain⟨b,a,_⟩:=t;have g:b.length<=21:=h.1;have i:a.length<=6:=h.2;have e:f6l (b,())=true:=c3j (l:=b) (by omega);have f:e6W (a,())=true:=c3j (l:=a) (by omega);have c:f6m (b,())=(b,()):=rfl;have d:e6X (a,())=(a,()):=rfl;unfold f7X;dsimp only;simp only[e,f,c,d,cond_true]
theorem e5g (c:Den S38) (h:c.2.1.length<=22):f7Y (c,())=some (c,()):=by
 obtain⟨⟨⟨a1,a2,_⟩,⟨e,f,_⟩,_⟩,a,⟨⟨g,i,_⟩,⟨j,k,_⟩,_⟩,_⟩:=c;have h:a.length<=22:=h;have d:f6p (a,())=true:=c3j (l:=a) (by omega);have b:f6q (a,())=(a,()):=rfl;unfold f7Y;dsimp only;simp only[d,b,cond_true]
theorem e0G (b:Den S40) (h:a4m b):F84 (b,())=some (b,()):=by
 obtain⟨P,T,S,C,_⟩:=b;obtain⟨e,f,⟨i,a⟩,d⟩:=h;have a:S.length<=13:=a;have g:f6n (S,())=true:=c3j (l:=S) (by omega);have c:f6o (S,())=(S,()):=rfl;unfold F84;dsimp only;simp only[g4k,g4l,e5e P e,g4o,g4p,e5f T f,g,c,g4r,g4s,e5g C d,isSome_some,getD_some,cond_true]
theorem a3i {α β:Type} (c:Bool) (a b:Option α) (f:α->Option β):(bif c then a else b).bind f=bif c then a.bind f else b.bind f:=by cases c<;>rfl
def prY (b:Bool) (Y:Yv):Option (Bool×Yv):=some (b,Y)
def unY {R:Type} (h:Bool->Yv->Option R) (p:Bool×Yv):Option R:=h p.1 p.2
section
variable {R:Type} (K17:Den A17->Bool) (G17:Den A17->Den R17) (f2e:Den f7q->Bool) (b0g:Den f7q->Den f2d) (K45:Den A45->Bool) (G45:Den A45->Den R45) (f7w:Den f7t->Bool) (e3N:Den f7t->Den f7u) (e7v:Den f6Z->Bool) (c7D:Den f6Z->Den f7a) (K19:Den A19->Bool) (G19:Den A19->Den R19) (e7E:Den f2k->Bool) (e7F:Den f2k->Den f7x) (K23:Den A23->Bool) (G23:Den A23->Den R23) (K44:Den A44->Bool) (G44:Den A44->Den R44) (K57:Den A57->Bool) (G57:Den A57->Den R57) (f7Q:Den f7O->Bool) (d9N:Den f7O->Den f7P) (f7U:Den f7S->Bool) (f7V:Den f7S->Den f2F) (f:List ByteArray)
theorem d5l (Y:Yv) (h:Bool->Yv->Option R):kpK Y h=(kpK Y prY).bind (unY h):=by
 simp only[kpK,a3i,Option.bind_none];rfl
theorem a4n (Y:Yv) (h:Bool->Yv->Option R):a7y f Y h=(a7y f Y prY).bind (unY h):=by
 simp only[a7y,a3i,Option.bind_none,d5l _ h];rfl
theorem b7w (Y:Yv) (h:Bool->Yv->Option R):b1b f Y h=(b1b f Y prY).bind (unY h):=by
 simp only[b1b,a3i,Option.bind_none,a4n f _ h];rfl
theorem c3k (Y:Yv) (h:Bool->Yv->Option R):c3b f Y h=(c3b f Y prY).bind (unY h):=by
 simp only[c3b,a3i,Option.bind_none,a4n f _ h];rfl
theorem c3l (Y:Yv) (h:Bool->Yv->Option R):c3c f Y h=(c3c f Y prY).bind (unY h):=by
 simp only[c3c,a3i,Option.bind_none,a4n f _ h];rfl
theorem d0g (Y:Yv) (h:Bool->Yv->Option R):e7O f Y h=(e7O f Y prY).bind (unY h):=by
 simp only[e7O,a3i,Option.bind_none,a4n f _ h];rfl
theorem c3m (Y:Yv) (n t:Int) (s:Nat) (h:Bool->Yv->Option R):b7r f Y n t s h=(b7r f Y n t s prY).bind (unY h):=by
 simp only[b7r,a3i,Option.bind_none,a4n f _ h];rfl
theorem d5m (Y:Yv) (h:Bool->Yv->Option R):goK f Y h=(goK f Y prY).bind (unY h):=by
 simp only[goK,a3i,Option.bind_none,c3m f _ _ _ _ h];rfl
theorem c3n (Y:Yv) (h:Bool->Yv->Option R):c3d f Y h=(c3d f Y prY).bind (unY h):=by
 simp only[c3d,b0l,a3i,Option.bind_none,b7w f _ h,c3k f _ h,c3l f _ h,d0g f _ h,d5m f _ h];rfl
end
def d5n (f:List ByteArray) (Y:Yv):Option (Bool×Yv):=c3d f Y prY
theorem f3D (x:I68.den):F68 x=(d5n x.1.2.1 (yIn x)).bind (unY fun b Y=>some (c3Z b Y)):=c3n _ _ _
theorem e0H (Y:Yv) (g:a4m Y.1) (d:Y.tk.length<=1000) (c:Y.lg.length<=1000):F36 ((Y,()),())=some (((c3Z true Y).2.1,()),(Y.tk,Y.lg,())):=by
 obtain⟨B,t,p,h,w,s,a,lg,_⟩:=Y;have d:a.length<=1000:=d;have c:lg.length<=1000:=c;have i:K85 ((a,()),())=true:=c3j (l:=a) d;have j:K86 ((lg,()),())=true:=c3j (l:=lg) c;have e:G85 ((a,()),())=(((),()),(a,())):=rfl;have f:G86 ((lg,()),())=(((),()),(lg,())):=rfl;have b:=e0G B g;unfold F36;dsimp only;simp only[K84,G84,b,i,j,e,f,isSome_some,getD_some,cond_true];rfl
def a1c (f:List ByteArray):ByteArray:=⟨(b6B f { data:=#[32] }).toArray⟩
theorem f3E (Y:Yv) (s:ByteArray) (n:a4m Y.1) (q:Y.tk.length<=1000) (p:Y.lg.length<=1000) {a b:Bool} {f:List ByteArray} (h:F14 (Y,())=some (a,())) (i:F16 (s,())=some (f,b,()))
 {d:Bool} {Z:Yv} (hd:a=true->(Y.lg.length:Int)<300->b=true->d5n f Y=some (d,Z) /\ (d=true->K60 (f,{ data:=#[32] },())=true /\ Z.lg.length<=1000)) :
 F27 (Y,s,())=some (bif a&&(decide ((Y.lg.length:Int)<300)&&(b&&d))then(Z.setLg (Z.lg++[a1c f]),true,())else(Y,false,())):=by
 have j:=e0H Y n q p;unfold F27;dsimp only;simp only[K36,G36,j,K14,G14,h,K16,G16,i,isSome_some,getD_some,cond_true];cases a with
 |false=>rfl
 | true =>
   simp only[Bool.not_true,cond_false,Bool.true_and];by_cases c:(Y.lg.length:Int)<300
   ·have e:decide (((length Y.snd.snd.snd.snd.snd.snd.snd.fst:Nat):Int) ≥ 300)=false:=decide_eq_false (by show ¬((Y.lg.length:Int) ≥ 300);omega);have g:decide ((Y.lg.length:Int)<300)=true:=decide_eq_true c;rw[e,g];simp only[cond_false,Bool.true_and];cases b with
    |false=>rfl
    | true =>
      obtain⟨k,o⟩:=hd rfl c rfl;have l:∀x:I68.den,x.1.2.1=f->yIn x=Y->K68 x=true /\ G68 x=c3Z d Z:=fun x e g=>by
       unfold K68 G68;rw[f3D,e,g,k];exact⟨rfl,rfl⟩
      have m:=l (((),f,()),(c3Z true Y).2.1,Y.tk,Y.lg,()) rfl rfl;refine Eq.trans (?_:_=(bif K68 (((),f,()),(c3Z true Y).2.1,Y.tk,Y.lg,())then
       bif !(G68 (((),f,()),(c3Z true Y).2.1,Y.tk,Y.lg,())).1.1 then some (Y,false,())
       else bif K60 (f,{ data:=#[32] },())then
        bif a0k (length (G68 (((),f,()),(c3Z true Y).2.1,Y.tk,Y.lg,())).2.2.2.1+1)then
         some (yIn (((),f,()),(G68 (((),f,()),(c3Z true Y).2.1,Y.tk,Y.lg,())).2.1,(G68 (((),f,()),(c3Z true Y).2.1,Y.tk,Y.lg,())).2.2.2.2.1,(G68 (((),f,()),(c3Z true Y).2.1,Y.tk,Y.lg,())).2.2.2.1++[(G60 (f,{ data:=#[32] },())).1],()),true,())
        else none
       else none
      else none:OD R27)) ?_
      ·rfl
      ·rw[m.1,m.2];cases d with
       |false=>rfl
       | true =>
         obtain⟨r,t⟩:=o rfl;rw[r];have:a0k (length (c3Z true Z).2.2.2.1+1)=true:=a0v (by show Z.lg.length+1<=_;omega);rw[this];rfl
   ·have e:decide (((length Y.snd.snd.snd.snd.snd.snd.snd.fst:Nat):Int) ≥ 300)=true:=decide_eq_true (by show((Y.lg.length:Int) ≥ 300);omega);have g:decide ((Y.lg.length:Int)<300)=false:=decide_eq_false c;rw[e,g];rfl
structure YM (Y:Yv):Prop where
 boat:a4m Y.1
 tk:Y.tk.length<=1000
 lg:Y.lg.length<=1000
def b5q (Y:Yv):Bool:=decide ((Y.tk.length:Int)>0)&&decide ((sg Y.tk (Y.tk.length-1)).2.1>Y.tm)
def c1i (m:Den R19) (Y:Yv):Bool:=bif decide (Y.sl ≥ 0)then m.2.1&&a0V (at' Y.sails Y.sl.toNat) m.1 else true
def c3o (Y:Yv):Bool:=a5M Y.1&&(inB Y.tm 0 10000000&&((a0L Y.ps).2.1&&(inB Y.hd 0 359&&(a1O Y.wd&&(inB Y.sl (-1) ((Y.sails.length:Int)-1)&&(a2M Y.tk&&(!decide ((Y.lg.length:Int)>300)&&!b5q Y)))))))
def okV (m:Den R19) (Y:Yv):Bool:=c3o Y&&c1i m Y
theorem a4o {Y:Yv} (h:YM Y):Y.sails.length<=13:=h.boat.2.2.1.2
theorem d5o (Y:Yv) (h:YM Y) (m:Den R19) (i:I64 m.1.2.1) (d:inB Y.sl (-1) ((Y.sails.length:Int)-1)=true) :
 (bif decide (Y.sl ≥ 0)then bif m.2.1 then bif (decide (0<=Y.sl)&&decide (Y.sl<(Y.sails.length:Int)))then bif K20 (at' Y.sails Y.sl.toNat,m.1,())then some (G20 (at' Y.sails Y.sl.toNat,m.1,()))else none else none else some (false,())else some (true,()):OD R14)=some (c1i m Y,()):=by
 have c:=h.boat.2.2.1.1.at Y.sl.toNat;have e:=e0a (at' Y.sails Y.sl.toNat,m.1,()) c.2.1 c.2.2 i;have⟨k,g⟩:=kgP K20 G20 e;rw[k,g];unfold c1i;by_cases b:Y.sl ≥ 0
 ·have a:decide (Y.sl ≥ 0)=true:=decide_eq_true b;have f:decide (Y.sl<(Y.sails.length:Int))=true:=by
   unfold inB at d;simp only[and_eq_true,decide_eq_true_eq]at d ⊢;omega
  rw[a,f];cases m.2.1<;>rfl
 ·have a:decide (Y.sl ≥ 0)=false:=decide_eq_false b;rw[a];rfl
theorem c3p (Y:Yv) (h:YM Y) (m:Den R19) (i:I64 m.1.2.1) (d:inB Y.sl (-1) ((Y.sails.length:Int)-1)=true) :
 (bif decide (Y.sl ≥ 0)then bif m.2.1 then bif (decide (0<=Y.sl)&&decide (Y.sl<(Y.sails.length:Int)))then bif K55 (at' Y.sails Y.sl.toNat,m.1,())then some (G55 (at' Y.sails Y.sl.toNat,m.1,()))else none else none else some (false,())else some (true,()):OD R18)=some (c1i m Y,()):=by
 have c:=h.boat.2.2.1.1.at Y.sl.toNat;have e:=d9Z (at' Y.sails Y.sl.toNat,m.1,()) c.2.1 c.2.2 i;have⟨k,g⟩:=kgP K55 G55 e;rw[k,g];unfold c1i;by_cases b:Y.sl ≥ 0
 ·have a:decide (Y.sl ≥ 0)=true:=decide_eq_true b;have f:decide (Y.sl<(Y.sails.length:Int))=true:=by
   unfold inB at d;simp only[and_eq_true,decide_eq_true_eq]at d ⊢;omega
  rw[a,f];cases m.2.1<;>rfl
 ·have a:decide (Y.sl ≥ 0)=false:=decide_eq_false b;rw[a];rfl
theorem d0h {n:Nat} (a:(n:Int)>0) (h:n<=1000):IntKind.i64.wrap ((n:Int)-1)=((n-1:Nat):Int) /\ (decide (0<=((n-1:Nat):Int))&&decide (((n-1:Nat):Int)<(n:Int)))=true:=by
 constructor
 ·rw[w64 (by omega) (by omega)];omega
 ·simp only[and_eq_true,decide_eq_true_eq];omega
theorem d0i (Y:Yv) (h:YM Y):F14 (Y,())=some (okV (a0A Y) Y,()):=by
 have c:=h.tk;have e:=c0Z Y.ps;have⟨k1,g1⟩:=kgP K23 G23 e;have f:=e0E Y.1 h.boat;have⟨k2,g2⟩:=kgP K42 G42 f;have g:F43 (Y.tm,())=some (inB Y.tm 0 10000000,()):=b4N _;have⟨k3,g3⟩:=kgP K43 G43 g;have i:F44 (Y.hd,0,359,())=some (inB Y.hd 0 359,()):=a3y _;have⟨k4,g4⟩:=kgP K44 G44 i;have j:=a4R Y.wd;have⟨k5,g5⟩:=kgP K45 G45 j;have n:=a4o h;have w1:IntKind.i64.wrap ((Y.sails.length:Int)-1)=(Y.sails.length:Int)-1:=w64 (by omega) (by omega);have k:F44 (Y.sl,-1,(Y.sails.length:Int)-1,())=some (inB Y.sl (-1) ((Y.sails.length:Int)-1),()):=a3y _;have⟨k6,g6⟩:=kgP K44 G44 k;have l:F46 (Y.tk,())=some (a2M Y.tk,()):=f2U Y.tk (by omega);have⟨k7,g7⟩:=kgP K46 G46 l;have m:=c9Q Y;have⟨k8,g8⟩:=kgP K19 G19 m;unfold F14;show(bif K23 (Y.ps,())then bif K42 (Y.1,())then bif !(G42 (Y.1,())).1 then some (false,())else bif K43 (Y.tm,())then bif !(G43 (Y.tm,())).1 then some (false,())else
  bif !(G23 (Y.ps,())).2.1 then some (false,())else bif K44 (Y.hd,0,359,())then bif !(G44 (Y.hd,0,359,())).1 then some (false,())else
  bif K45 (Y.wd,())then bif !(G45 (Y.wd,())).1 then some (false,())else
  bif K44 (Y.sl,-1,IntKind.i64.wrap ((Y.sails.length:Int)-1),())then bif !(G44 (Y.sl,-1,IntKind.i64.wrap ((Y.sails.length:Int)-1),())).1 then some (false,())else
  bif K46 (Y.tk,())then bif !(G46 (Y.tk,())).1 then some (false,())else
  bif decide ((Y.lg.length:Int)>300)then some (false,())else
  bif decide ((Y.tk.length:Int)>0)then bif (decide (0<=IntKind.i64.wrap ((Y.tk.length:Int)-1))&&decide (IntKind.i64.wrap ((Y.tk.length:Int)-1)<(Y.tk.length:Int)))then
   bif decide ((sg Y.tk (IntKind.i64.wrap ((Y.tk.length:Int)-1)).toNat).2.1>Y.tm)then some (false,())else
   (bif decide (Y.sl ≥ 0)then bif K19 (Y,())then bif (G19 (Y,())).2.1 then bif (decide (0<=Y.sl)&&decide (Y.sl<(Y.sails.length:Int)))then bif K20 (at' Y.sails Y.sl.toNat,(G19 (Y,())).1,())then some (G20 (at' Y.sails Y.sl.toNat,(G19 (Y,())).1,()))else none else none else some (false,())else none else some (true,()))
   else none
  else(bif decide (Y.sl ≥ 0)then bif K19 (Y,())then bif (G19 (Y,())).2.1 then bif (decide (0<=Y.sl)&&decide (Y.sl<(Y.sails.length:Int)))then bif K20 (at' Y.sails Y.sl.toNat,(G19 (Y,())).1,())then some (G20 (at' Y.sails Y.sl.toNat,(G19 (Y,())).1,()))else none else none else some (false,())else none else some (true,()))
  else none else none else none else none else none else none else none:OD R14)=_
 rw[w1,k1,g1,k2,g2,k3,g3,k4,g4,k5,g5,k6,g6,k7,g7,k8,g8];simp only[cond_true];unfold okV c3o;cases c1:a5M Y.1
 ·rfl
 cases c2:inB Y.tm 0 10000000
 ·rfl
 cases c3:(a0L Y.ps).2.1
 ·rfl
 cases c4:inB Y.hd 0 359
 ·rfl
 cases c5:a1O Y.wd
 ·rfl
 cases c6:inB Y.sl (-1) ((Y.sails.length:Int)-1)
 ·rfl
 cases c7:a2M Y.tk
 ·rfl
 cases c8:decide ((Y.lg.length:Int)>300)
 ·have d:=d5o Y h (a0A Y) (b5i Y) c6;unfold b5q;by_cases b:(Y.tk.length:Int)>0
  ·obtain⟨o,p⟩:=d0h b c;have a:decide ((Y.tk.length:Int)>0)=true:=decide_eq_true b;rw[a,o,p,toNat_natCast];cases decide ((sg Y.tk (Y.tk.length-1)).2.1>Y.tm)
   ·exact d
   ·rfl
  ·have a:decide ((Y.tk.length:Int)>0)=false:=decide_eq_false b;rw[a];exact d
 ·rfl
theorem f3F (Y:Yv) (h:YM Y):F18 (Y,())=some (okV (a1G Y) Y,()):=by
 have c:=h.tk;have e:=c1a Y.ps;have⟨k1,g1⟩:=kgP K49 G49 e;have f:=e0F Y.1 h.boat;have⟨k2,g2⟩:=kgP K50 G50 f;have g:F51 (Y.tm,0,10000000,())=some (inB Y.tm 0 10000000,()):=a2h _;have⟨k3,g3⟩:=kgP K51 G51 g;have i:F51 (Y.hd,0,359,())=some (inB Y.hd 0 359,()):=a2h _;have⟨k4,g4⟩:=kgP K51 G51 i;have j:=a4S Y.wd;have⟨k5,g5⟩:=kgP K52 G52 j;have n:=a4o h;have w1:IntKind.i64.wrap ((Y.sails.length:Int)-1)=(Y.sails.length:Int)-1:=w64 (by omega) (by omega);have k:F51 (Y.sl,-1,(Y.sails.length:Int)-1,())=some (inB Y.sl (-1) ((Y.sails.length:Int)-1),()):=a2h _;have⟨k6,g6⟩:=kgP K51 G51 k;have l:F53 (Y.tk,())=some (a2M Y.tk,()):=f2T Y.tk (by omega);have⟨k7,g7⟩:=kgP K53 G53 l;have m:=c9R Y;have⟨k8,g8⟩:=kgP K54 G54 m;unfold F18;show(bif K49 (Y.ps,())then bif K50 (Y.1,())then bif !(G50 (Y.1,())).1 then some (false,())else bif K51 (Y.tm,0,10000000,())then bif !(G51 (Y.tm,0,10000000,())).1 then some (false,())else
  bif !(G49 (Y.ps,())).2.1 then some (false,())else bif K51 (Y.hd,0,359,())then bif !(G51 (Y.hd,0,359,())).1 then some (false,())else
  bif K52 (Y.wd,())then bif !(G52 (Y.wd,())).1 then some (false,())else
  bif K51 (Y.sl,-1,IntKind.i64.wrap ((Y.sails.length:Int)-1),())then bif !(G51 (Y.sl,-1,IntKind.i64.wrap ((Y.sails.length:Int)-1),())).1 then some (false,())else
  bif K53 (Y.tk,())then bif !(G53 (Y.tk,())).1 then some (false,())else
  bif decide ((Y.tk.length:Int)>0)then bif (decide (0<=IntKind.i64.wrap ((Y.tk.length:Int)-1))&&decide (IntKind.i64.wrap ((Y.tk.length:Int)-1)<(Y.tk.length:Int)))then
   bif decide ((sg Y.tk (IntKind.i64.wrap ((Y.tk.length:Int)-1)).toNat).2.1>Y.tm)then some (false,())else
   bif decide ((Y.lg.length:Int)>300)then some (false,())else
   (bif decide (Y.sl ≥ 0)then bif K54 (Y,())then bif (G54 (Y,())).2.1 then bif (decide (0<=Y.sl)&&decide (Y.sl<(Y.sails.length:Int)))then bif K55 (at' Y.sails Y.sl.toNat,(G54 (Y,())).1,())then some (G55 (at' Y.sails Y.sl.toNat,(G54 (Y,())).1,()))else none else none else some (false,())else none else some (true,()))
   else none
  else bif decide ((Y.lg.length:Int)>300)then some (false,())else(bif decide (Y.sl ≥ 0)then bif K54 (Y,())then bif (G54 (Y,())).2.1 then bif (decide (0<=Y.sl)&&decide (Y.sl<(Y.sails.length:Int)))then bif K55 (at' Y.sails Y.sl.toNat,(G54 (Y,())).1,())then some (G55 (at' Y.sails Y.sl.toNat,(G54 (Y,())).1,()))else none else none else some (false,())else none else some (true,()))
  else none else none else none else none else none else none else none:OD R18)=_
 rw[w1,k1,g1,k2,g2,k3,g3,k4,g4,k5,g5,k6,g6,k7,g7,k8,g8];simp only[cond_true];unfold okV c3o;cases c1:a5M Y.1
 ·rfl
 cases c2:inB Y.tm 0 10000000
 ·rfl
 cases c3:(a0L Y.ps).2.1
 ·rfl
 cases c4:inB Y.hd 0 359
 ·rfl
 cases c5:a1O Y.wd
 ·rfl
 cases c6:inB Y.sl (-1) ((Y.sails.length:Int)-1)
 ·rfl
 cases c7:a2M Y.tk
 ·rfl
 have d:=c3p Y h (a1G Y) (b5j Y) c6;unfold b5q;by_cases b:(Y.tk.length:Int)>0
 ·obtain⟨o,p⟩:=d0h b c;have a:decide ((Y.tk.length:Int)>0)=true:=decide_eq_true b;rw[a,o,p,toNat_natCast];cases decide ((sg Y.tk (Y.tk.length-1)).2.1>Y.tm)
  ·cases c8:decide ((Y.lg.length:Int)>300)
   ·exact d
   ·rfl
  ·cases c8:decide ((Y.lg.length:Int)>300)<;>rfl
 ·have a:decide ((Y.tk.length:Int)>0)=false:=decide_eq_false b;rw[a];cases c8:decide ((Y.lg.length:Int)>300)
  ·exact d
  ·rfl
def b5r (g:Den a2R):Bool:=a2j g.2.1&&a0l g.2.2.1 0 100000
theorem e5h (g:Den a2R):f7z (g,())=some (b5r g,()):=by
 have a:=b7k g.2.1;have b:=a2P g.2.2.1 0 100000;unfold f7z b5r;dsimp only;simp only[e3q,e3r,a,K44,G44,b,isSome_some,getD_some,cond_true];cases a2j g.2.1<;>rfl
theorem d5p (g:Den a2R):f7C ([g],())=some (b5r g,()):=by
 have a:=e5h g;have⟨k1,g1⟩:=kgP f7A f7B a;have c:a9r (([g],[g],(1:Int),(0:Int),()),())=some (bif b5r g then .inl (([g],()),())else .inr ((false,()),())):=by
  have b:c8c (([g],[g],(1:Int),(0:Int),()),())=1003:=rfl;unfold a9r;rw[b];show b4E _ _=_;unfold b4E;show(bif f7A (g,())then bif !(f7B (g,())).1 then _ else a0F (b4E) 1002 (([g],[g],(1:Int),(1:Int),()),())else none)=_;rw[k1,g1];cases b5r g
  ·rfl
  ·rfl
 unfold f7C;show(bif b6O (([g],[g],(1:Int),(0:Int),()),())then bif b6P (([g],[g],(1:Int),(0:Int),()),())then some (b6R (([g],[g],(1:Int),(0:Int),()),())).1 else some (decide (((b6Q (([g],[g],(1:Int),(0:Int),()),())).1.1.length:Int)<=50),())else none)=_;unfold b6O b6P b6R b6Q;rw[c];cases b5r g<;>rfl
def d0j (v s:Nat×Nat):Nat×Nat:=(a0a .add .f32 v.1 s.1,a0a .add .f32 v.2 s.2)
def a3C (k:Int) (a:Nat) (s:Nat×Nat):(Nat×Nat)×Bool×Unit:=bif !(b1c k a).2.1 then((0,0),false,())else bif !a1O s then((0,0),false,())else(d0j (b1c k a).1 s,true,())
theorem e5i (k:Int) (a:Nat) (s:Nat×Nat):f7K (k,a,s,())=some (a3C k a s):=by
 have b:=e0z k a;have c:=a4R s;have d:g3W ((b1c k a).1,s,())=some (d0j (b1c k a).1 s,()):=rfl;unfold f7K a3C;dsimp only;simp only[K56,G56,b,K45,G45,c,g3X,g3Y,d,isSome_some,getD_some,cond_true];cases (b1c k a).2.1
 ·rfl
 ·cases a1O s<;>rfl
def onV (p v:Nat×Nat) (n:Int):Nat×Nat:=(a0a .add .f64 p.1 (a0a .mul .f64 (a0x .f32 .f64 v.1).2 (nearest .f64 n)),a0a .add .f64 p.2 (a0a .mul .f64 (a0x .f32 .f64 v.2).2 (nearest .f64 n)))
def c3q (p v:Nat×Nat) (n:Int):(Nat×Nat)×Bool×Unit:=
 bif !a3G p then((0,0),false,())else bif !a1O v then((0,0),false,())else bif !a0l n 0 100000 then((0,0),false,())else bif !a3G (onV p v n)then((0,0),false,())else(onV p v n,true,())
theorem e5j (p v:Nat×Nat) (n:Int):f7L (p,v,n,())=some (c3q p v n):=by
 have b:=a7O p;have c:=a4R v;have d:=a2P n 0 100000;have a:=a7O (onV p v n);unfold onV at a;unfold f7L c3q onV;dsimp only;simp only[K61,G61,b,K45,G45,c,K44,G44,d,a,isSome_some,getD_some,cond_true];cases a3G p
 ·rfl
 cases a1O v
 ·rfl
 cases a0l n 0 100000
 ·rfl
 cases a3G (a0a .add .f64 p.1 (a0a .mul .f64 (a0x .f32 .f64 v.1).2 (nearest .f64 n)),a0a .add .f64 p.2 (a0a .mul .f64 (a0x .f32 .f64 v.2).2 (nearest .f64 n)))<;>rfl
def a5m (p:Nat×Nat) (g:Den a2R) (n:Int) (s:Nat×Nat):(Nat×Nat)×Bool×Unit:=bif !(a3C g.1 g.2.1 s).2.1 then((0,0),false,())else c3q p (a3C g.1 g.2.1 s).1 n
theorem e5k (p:Nat×Nat) (g:Den a2R) (n:Int) (s:Nat×Nat):f7M (p,g,n,s,())=some (a5m p g n s):=by
 have a:=e5i g.1 g.2.1 s;have b:=e5j p (a3C g.1 g.2.1 s).1 n;unfold f7M a5m;dsimp only;simp only[g4a,g4b,a,g4d,g4e,b,isSome_some,getD_some,cond_true];cases (a3C g.1 g.2.1 s).2.1<;>rfl
def a4T (a:Den S30) (g:Den a2R):Nat->Nat×Nat->Int->Int->Option ((Nat×Nat)×Int×Int)
 |0,p,t,l=>some (p,t,l)
 |f+1,p,t,l=>bif decide (l>0)then bif !(a1H a p t).2.1 then none else bif !(a5m p g (a3a l 600) (a1H a p t).1).2.1 then none else a4T a g f (a5m p g (a3a l 600) (a1H a p t).1).1 (t+a3a l 600) (l-a3a l 600)else some (p,t,l)
def a5b (g:Den a2R):Int:=g.2.2.1
def f3G (p:Nat×Nat) (t:Int) (g:Den a2R) (a:Den S30):(Nat×Nat)×Bool×Unit:=
 bif !a3G p then((0,0),false,())else bif !b5r g then((0,0),false,())else match a4T a g 7 p t (a5b g)with|some r=>(r.1,true,())|none=>((0,0),false,())
theorem c1j {l:Int} (h:0<l):0<a3a l 600 /\ a3a l 600<=l /\ a3a l 600<=600 /\ (a3a l 600=l∨a3a l 600=600):=by
 unfold a3a;split<;>omega
abbrev e5l:Type:=List (Den (a2R))×Int×Int×Unit
theorem c3r (b:Den S30) (h:a4I b) (g:Den a2R) (a:e5l):∀(f N:Nat) (p:Nat×Nat) (t l:Int),(l<=(f:Int)*600)->(f<N)->0<=t->t+l<=9223372036854775807->0<=l ->
 ∃v:Int,a0F (b4H) N ((p,t,(),(),l,a),b,g,())=some (match a4T b g f p t l with|some r => .inl ((r.1,v,(),a),b,())|none => .inr (((0,0),false,()),())):=by
 intro f
 induction f with
 | zero =>
   intro N p t l q o s e d;obtain⟨N,rfl⟩:∃M,N=M+1:=⟨N-1,by omega⟩;have c:l=0:=by omega
   subst c;exact⟨t,rfl⟩
 | succ f u =>
   intro N p t l q o s e d;obtain⟨N,rfl⟩:∃M,N=M+1:=⟨N-1,by omega⟩;by_cases k:l>0
   ·have j:decide (l>0)=true:=decide_eq_true k;obtain⟨m1,w,x,y⟩:=c1j k;have m:=e4W b p t h;have n:=e5k p g (a3a l 600) (a1H b p t).1;have⟨k1,g1⟩:=kgP f7J e3O m;have⟨k2,g2⟩:=kgP f7N f2A n;have w1:IntKind.i64.wrap (t+a3a l 600)=t+a3a l 600:=w64 (by omega) (by omega);have w2:IntKind.i64.wrap (l-a3a l 600)=l-a3a l 600:=w64 (by omega) (by omega);have i:=u N (a5m p g (a3a l 600) (a1H b p t).1).1 (t+a3a l 600) (l-a3a l 600) (by omega) (by omega) (by omega) (by omega) (by omega);have step:a0F (b4H) (N+1) ((p,t,(),(),l,a),b,g,()) =
     bif decide (l>0)then bif f7J (b,p,t,())then bif !(e3O (b,p,t,())).2.1 then some (.inr (((0,0),false,()),()))
      else bif f7N (p,g,a3a l 600,(e3O (b,p,t,())).1,())then bif !(f2A (p,g,a3a l 600,(e3O (b,p,t,())).1,())).2.1 then some (.inr (((0,0),false,()),()))
       else a0F (b4H) N (((f2A (p,g,a3a l 600,(e3O (b,p,t,())).1,())).1,IntKind.i64.wrap (t+a3a l 600),(),(),IntKind.i64.wrap (l-a3a l 600),a),b,g,())
      else none else none
     else some (.inl ((p,t,(),a),b,())):=rfl
    rw[step,j,k1,g1];simp only[cond_true,k2,g2,w1,w2];unfold a4T;rw[j,cond_true];cases (a1H b p t).2.1
    ·exact⟨0,rfl⟩
    ·cases (a5m p g (a3a l 600) (a1H b p t).1).2.1
     ·exact⟨0,rfl⟩
     ·exact i
   ·have c:l=0:=by omega
    subst c;exact⟨t,rfl⟩
theorem e5m (p:Nat×Nat) (t:Int) (g:Den a2R) (a:Den S30) (h:a4I a) (l:0<=t) (m:t<=1000000000000) (q:a5b g<=3600):e3P (p,t,[g],a,())=some (f3G p t g a):=by
 have e:=a7O p;have f:=d5p g;have⟨k1,g1⟩:=kgP K61 G61 e;have⟨k2,g2⟩:=kgP f7D f7E f;unfold e3P f3G;show(bif K61 (p,())then bif !(G61 (p,())).1 then _ else bif f7D ([g],())then bif !(f7E ([g],())).1 then _ else
  bif b6V ((p,t,(),[g],(1:Int),(0:Int),()),a,())then bif b6W ((p,t,(),[g],(1:Int),(0:Int),()),a,())then some (b6Y ((p,t,(),[g],(1:Int),(0:Int),()),a,())).1
   else some ((b6X ((p,t,(),[g],(1:Int),(0:Int),()),a,())).1.1,true,())else none else none else none)=_
 rw[k1,g1,k2,g2];cases hp:a3G p
 ·rfl
 cases hg':b5r g
 ·rfl
 simp only[Bool.not_true,cond_true,cond_false];have c:0<=a5b g:=by
  unfold b5r a0l at hg';simp only[and_eq_true,decide_eq_true_eq]at hg';exact hg'.2.1
 obtain⟨o,k⟩:=c3r a h g ([g],(1:Int),(0:Int),()) 7 (c0k ((p,t,(),(),a5b g,([g],(1:Int),(0:Int),())),a,g,())) p t (a5b g) (by omega) (by unfold c0k;dsimp only;omega) l (by omega) c;have b:b0S ((p,t,(),(),a5b g,([g],(1:Int),(0:Int),())),a,g,())=_:=k;have d:a9s ((p,t,(),[g],(1:Int),(0:Int),()),a,())=some (match a4T a g 7 p t (a5b g)with|some r => .inl ((r.1,()),())|none => .inr (((0,0),false,()),())):=by
  unfold a9s;have j:∃M,b4I ((p,t,(),[g],(1:Int),(0:Int),()),a,())=M+2:=⟨b4I ((p,t,(),[g],(1:Int),(0:Int),()),a,())-2,by unfold b4I;dsimp only;omega⟩;obtain⟨M,i⟩:=j;rw[i];show(bif b6S ((p,t,(),(),a5b g,([g],(1:Int),(0:Int),())),a,g,())then bif b6T ((p,t,(),(),a5b g,([g],(1:Int),(0:Int),())),a,g,())then(some (Sum.inr (b6U ((p,t,(),(),a5b g,([g],(1:Int),(0:Int),())),a,g,()))):Option (c8j⊕c8k))else _ else none)=_;unfold b6S b6T b6U;rw[b];cases hpv:a4T a g 7 p t (a5b g)with
  |none=>rfl
  | some r =>
    have n:a4H ((p,t,(),(),a5b g,([g],(1:Int),(0:Int),())),a,g,())=((r.1,o,(),([g],(1:Int),(0:Int),())),a,()):=by
     unfold a4H;rw[b,hpv];rfl
    show a0F (c8l) (M+1) (((a4H ((p,t,(),(),a5b g,([g],(1:Int),(0:Int),())),a,g,())).1.1,(a4H ((p,t,(),(),a5b g,([g],(1:Int),(0:Int),())),a,g,())).1.2.1,(),(a4H ((p,t,(),(),a5b g,([g],(1:Int),(0:Int),())),a,g,())).1.2.2.2.1,(a4H ((p,t,(),(),a5b g,([g],(1:Int),(0:Int),())),a,g,())).1.2.2.2.2.1,IntKind.i64.wrap ((a4H ((p,t,(),(),a5b g,([g],(1:Int),(0:Int),())),a,g,())).1.2.2.2.2.2.1+1),()),(a4H ((p,t,(),(),a5b g,([g],(1:Int),(0:Int),())),a,g,())).2)=_;rw[n];rfl
 unfold b6V b6W b6Y b6X;rw[d];cases a4T a g 7 p t (a5b g)with
 |none=>rfl
 |some r=>rfl
def b7x (s:ByteArray) (i:Nat):Bool:=!decide (a0p s (i:Int)<32)&&!decide (a0p s (i:Int)>126)
def c3s (s:ByteArray):Bool:=a0i (b7x s) 0 s.size
def spB:ByteArray:={ data:=#[32] }
def d0k (s:ByteArray):Bool:=!a0G s { data:=#[] }
def a0P (s:ByteArray):List ByteArray:=(a4i s spB).filter d0k
theorem d5q (s:ByteArray) (h:s.size<=1000):c2M ((s,(0:Int),()),())=some (bif c3s s then .inl ((s,()),())else .inr (((),false,()),())):=by
 refine(a0M (q:=c8u) (fun k=>((s,(k:Int),()),())) s.size (b7x s) _ _ ?_ ?_ _ ?_:_)
 ·intro k f c;have a:decide ((k:Int)<(s.size:Int))=true:=by simpa using c
  have b:decide (0<=(k:Int))=true:=by simp
  unfold c8u b7x;simp only[a1Z k (by omega),a,b,Bool.and_self,cond_true];cases decide (a0p s (k:Int)<32)
  ·cases decide (a0p s (k:Int)>126)<;>rfl
  ·rfl
 ·intro f;simp[c8u]
 ·simp only[e3Q];omega
theorem c3t (l:List ByteArray) (h:l.length<=1000):c0u (((),l,(l.length:Int),(0:Int),()),[],())=some (((),()),l.filter d0k,()):=by
 refine a0J (q:=c0s) (fun v=>∃k:Nat,k<=l.length /\ v=(((),l,(l.length:Int),(k:Int),()),(l.take k).filter d0k,()))
  (fun _ r=>r=some (((),()),l.filter d0k,())) (fun v=>l.length-v.1.2.2.2.1.toNat) ?_ _ _ ⟨0,zero_le _,rfl⟩ (by show l.length-toNat 0<c0t _;unfold c0t;dsimp only;omega)
 rintro v f ⟨k,o,rfl⟩ i;unfold c0s;dsimp only;by_cases a:k<l.length
 ·have g:decide ((k:Int)<(l.length:Int))=true:=by simpa using a
  have j:decide (0<=(k:Int))=true:=by simp
  have d:getD l (toNat (k:Int)) (zero Ty.str)=l[k]:=by rw[toNat_natCast,a3t _ _ _ a]
  have n:IntKind.i64.wrap ((k:Int)+1)=((k+1:Nat):Int):=a1Z k (by omega);have m:set (replicate 1 (zero Ty.str)) 0 l[k]=[l[k]]:=rfl;have e:List.take (k+1) l=List.take k l++[l[k]]:=List.take_succ_eq_append_getElem a;have c:l.length-((k+1:Nat):Int).toNat<l.length-((k:Nat):Int).toNat:=by omega
  rw[g,j,d,n,m];simp only[Bool.and_self,cond_true];cases hb:!a0G l[k] { data:=#[] }with
  | true =>
    have b:a0k (length (List.filter d0k (List.take k l))+length [l[k]])=true:=a0v (by
     have:=List.length_filter_le d0k (List.take k l);rw[List.length_take]at this;rw[List.length_singleton];omega)
    rw[b];simp only[cond_true];refine i _ ⟨k+1,a,?_⟩ c;rw[e,List.filter_append,List.filter_cons_of_pos (show d0k l[k]=true from hb),List.filter_nil]
  | false =>
    simp only[cond_false];refine i _ ⟨k+1,a,?_⟩ c;rw[e,List.filter_append,List.filter_cons_of_neg (by show ¬(d0k l[k]=true);rw[show d0k l[k]=false from hb];simp),List.filter_nil,List.append_nil]
 ·have g:decide ((k:Int)<(l.length:Int))=false:=by simpa using a
  rw[g,cond_false,List.take_of_length_le (by omega)]
theorem d0l (s:ByteArray):(a4i s spB).length<=s.size+1:=by
 have a:=Lib.splitB_all spB (by decide) 0 _ s rfl;unfold a4i;rw[a];have:=Lib.countB_le spB (by decide) s.size s (le_refl _);omega
theorem c1k (s:ByteArray):F16 (s,())=some (bif decide ((s.size:Int)>600)then([],false,())else bif !c3s s then([],false,())else bif decide (((a0P s).length:Int)>24)then([],false,())else(a0P s,true,())):=by
 unfold F16;dsimp only;cases h6:decide (((ByteArray.size s:Nat):Int)>600)with
 |true=>rfl
 | false =>
   have f:s.size<=600:=by
    have:=of_decide_eq_false h6;omega
   have c:=d5q s (by omega);have e:=d0l s;have b:K48 (s,{ data:=#[32] },())=true:=by
    unfold K48;rw[decide_eq_true (show(s:ByteArray).size<4294967281 by omega),decide_eq_true (show 1<=ByteArray.size { data:=#[32] }by decide)];rfl
   have a:G48 (s,{ data:=#[32] },())=(a4i s spB,()):=rfl;have d:=c3t (a4i s spB) (by omega);simp only[cond_false,d9V,d9W,d9X,d9Y,c,isSome_some,cond_true];cases c3s s with
   |false=>rfl
   | true =>
     simp only[cond_true,isR,xOf,cond_false,b,a,c8s,c8t,d,isSome_some,getD_some,Bool.not_true];show(bif decide (((length (a0P s):Nat):Int)>24)then some ([],false,())else some (a0P s,true,()))=_;cases decide (((length (a0P s):Nat):Int)>24)<;>rfl
def pcs:List UInt8->List (List UInt8)
 |[]=>[[]]
 | b::r=>if b=32 then[]::pcs r else match pcs r with
   |[]=>[[b]]
   |p::ps=>(b::p)::ps
theorem c1l:∀l,pcs l≠[]
 |[]=>by simp[pcs]
 | b::r=>by
   unfold pcs;split
   ·simp
   ·split<;>simp
theorem b1i (b:UInt8) (l:List UInt8):Lib.index (b::l) [32]=if b=32 then 0 else if Lib.index l [32] == -1 then -1 else Lib.index l [32]+1:=by
 rw[Lib.index];by_cases h:b=32
 ·subst h;simp
 ·have:([32]:List UInt8).isPrefixOf (b::l)=false:=by
   simp[List.isPrefixOf];exact fun e=>h e.symm
  rw[this,if_neg h];simp
theorem b5s:∀l:List UInt8,Lib.splitK [32] 0 (Lib.count l [32]) l=pcs l
 |[]=>rfl
 | b::r=>by
   have c:=b5s r;by_cases h:b=32
   ·subst h;rw[Lib.count_cons_eq,Nat.add_comm];unfold Lib.splitK pcs;rw[b1i,if_pos rfl,if_neg (by decide),if_pos rfl];simp[c]
   ·rw [Lib.count_cons_ne b 32 r h];unfold pcs;rw[if_neg h];cases hc:Lib.count r [32]with
    | zero =>
      rw[hc]at c;rw[<- c];rfl
    | succ k =>
      rw[hc]at c;have a:¬(Lib.index r [32] == -1)=true:=fun e=>by
       have:=Lib.count_miss (s:=r) (sub:=[32]) (beq_iff_eq.1 e);omega
      have g:=Lib.index_ge r [32];have d:Lib.index r [32] ≠ -1:=fun e=>a (beq_iff_eq.2 e)
      unfold Lib.splitK at c ⊢;rw[if_neg a]at c;rw[b1i,if_neg h,if_neg a,if_neg (by intro e;have:=beq_iff_eq.1 e;omega),<- c];have f:(Lib.index r [32]+1).toNat=(Lib.index r [32]).toNat+1:=by omega
      rw[f];simp[Nat.add_assoc]
theorem c3u (s:ByteArray):(a4i s spB).map (·.data.toList)=pcs s.data.toList:=by
 unfold a4i;rw[Lib.splitB_data];exact b5s _
theorem a9H:∀(x l:List UInt8),32 ∉ x->pcs (x++l)=(match pcs l with
 |[]=>[x]
 |p::ps=>(x++p)::ps)
 | [],l,_=>by
   have:=c1l l;cases h:pcs l with
   |nil=>exact absurd h this
   |cons p ps=>simp[h]
 | b::x,l,hx=>by
   have a:b≠32:=fun e=>hx (by rw[e];exact List.mem_cons_self ..)
   have c:=a9H x l (fun e=>hx (List.mem_cons_of_mem _ e));rw[List.cons_append]
   conv=>lhs;unfold pcs
   rw[if_neg a,c];cases h:pcs l with
   |nil=>exact absurd h (c1l l)
   |cons p ps=>rfl
def a4Y (f:List (List UInt8)):List UInt8:=Lib.join f [32]
theorem a3D (x:List UInt8):a4Y [x]=x:=Lib.join_one x [32]
theorem a2y (x y:List UInt8) (r:List (List UInt8)):a4Y (x::y::r)=x++32::a4Y (y::r):=by
 unfold a4Y;rw[Lib.join_cons,Lib.join_cons];simp[Lib.joinTail]
theorem c1m:∀(f:List (List UInt8)),(∀x∈f,32 ∉ x)->f≠[]->pcs (a4Y f)=f
 |[],_,h=>absurd rfl h
 | [x],h,_=>by
   rw[a3D];have:=a9H x [] (h x (List.mem_cons_self ..));rw[List.append_nil]at this;rw[this];simp[pcs]
 | x::y::r,h,_=>by
   rw[a2y,a9H x _ (h x (List.mem_cons_self ..))];have b:=c1m (y::r) (fun z a=>h z (List.mem_cons_of_mem _ a)) (by simp);have:pcs (32::a4Y (y::r))=[]::(y::r):=by
    conv=>lhs;unfold pcs
    rw[if_pos rfl,b]
   rw[this];simp
theorem e0I:∀(l:List UInt8),∀p∈pcs l,32 ∉ p /\ ∀b∈p,b∈l
 | [],p,hp=>by
   have:p=[]:=by simpa[pcs]using hp
   subst this;exact⟨by simp,fun b a=>by cases a⟩
 | b :: r,p,hp=>by
   have g:=e0I r;unfold pcs at hp;split at hp
   ·rcases List.mem_cons.1 hp with h|h
    ·subst h;exact⟨by simp,fun b a=>by cases a⟩
    ·exact⟨(g p h).1,fun c d=>List.mem_cons_of_mem _ ((g p h).2 c d)⟩
   ·rename_i a;split at hp
    ·rename_i j;exact absurd j (c1l r)
    ·rename_i q k i;have f:=g q (by rw[i];exact List.mem_cons_self ..);rcases List.mem_cons.1 hp with h|h
     ·subst h;refine⟨fun e=>?_,fun c d=>?_⟩
      ·rcases List.mem_cons.1 e with e|e
       ·exact a e.symm
       ·exact f.1 e
      ·rcases List.mem_cons.1 d with e|e
       ·rw[e];exact List.mem_cons_self ..
       ·exact List.mem_cons_of_mem _ (f.2 c e)
     ·have:=g p (by rw[i];exact List.mem_cons_of_mem _ h);exact⟨this.1,fun c d=>List.mem_cons_of_mem _ (this.2 c d)⟩
def wt:List (List UInt8)->Nat
 |[]=>0
 |p::ps=>p.length+1+wt ps
theorem e0J:∀l,wt (pcs l)=l.length+1
 |[]=>rfl
 | b :: r=>by
   have a:=e0J r;unfold pcs;split
   ·simp[wt,a];omega
   ·split
    ·rename_i c;exact absurd c (c1l r)
    ·rename_i q e d;rw[d]at a;simp[wt]at a ⊢;omega
theorem b5t (g:List UInt8->Bool):∀l,wt (l.filter g)<=wt l
 |[]=>le_refl _
 | p::ps=>by
   have:=b5t g ps;rw[List.filter_cons];split<;>simp only[wt]<;>omega
theorem d0m:∀f,(a4Y f).length<=wt f /\ (f≠[]->(a4Y f).length+1=wt f)
 |[]=>⟨le_refl _,fun h=>absurd rfl h⟩
 |[x]=>by rw[a3D];simp[wt]
 | x::y::r=>by
   have:=(d0m (y::r)).2 (by simp);rw[a2y];simp only[length_append,List.length_cons,wt]at this ⊢;exact⟨by omega,fun _=>by omega⟩
def fl (l:List UInt8):List (List UInt8):=(pcs l).filter (·≠[])
theorem e5n (l:List UInt8):∀p∈fl l,p≠[] /\ 32 ∉ p /\ ∀b∈p,b∈l:=fun p a=>by
 have h:=List.mem_filter.1 a;exact⟨by simpa using h.2,e0I l p h.1⟩
theorem e5o (l:List UInt8):fl (a4Y (fl l))=fl l:=by
 by_cases h:fl l=[]
 ·rw[h];rfl
 ·show(pcs (a4Y (fl l))).filter _=fl l;rw[c1m (fl l) (fun x a=>(e5n l x a).2.1) h];exact List.filter_eq_self.2 fun x a=>by simpa using(e5n l x a).1
theorem f3H (l:List UInt8):(a4Y (fl l)).length<=l.length:=by
 by_cases h:fl l=[]
 ·rw[h];exact zero_le _
 ·have b:=(d0m (fl l)).2 h;have a:=b5t (fun p=>decide (p≠[])) (pcs l);rw[e0J]at a;have c:wt (fl l)<=l.length+1:=a;omega
theorem a7S {a b:ByteArray} (h:a.data.toList=b.data.toList):a=b:=by
 apply ByteArray.ext;exact Array.ext' h
theorem b7y:∀{l m:List ByteArray},l.map (·.data.toList)=m.map (·.data.toList)->l=m
 |[],[],_=>rfl
 | a::l,b::m,h=>by
   simp only[List.map_cons,List.cons.injEq]at h;rw[a7S h.1,b7y h.2]
 |[],_::_,h=>by simp at h
 |_::_,[],h=>by simp at h
theorem b5u (bs:ByteArray):∀(n i:Nat) (r:List UInt8),bs.size-i<=n->ByteArray.toList.loop bs i r=r.reverse++bs.data.toList.drop i
 | 0,i,r,h=>by
   unfold ByteArray.toList.loop;rw[if_neg (by omega)];have:bs.data.toList.length<=i:=by rw[Array.length_toList];exact Nat.le_of_sub_eq_zero (Nat.le_zero.1 h)
   rw[List.drop_of_length_le this,List.append_nil]
 | n+1,i,r,h=>by
   unfold ByteArray.toList.loop;by_cases a:i<bs.size
   ·rw[if_pos a,b5u bs n (i+1) _ (by omega),List.reverse_cons,List.append_assoc];have b:i<bs.data.toList.length:=by rw[Array.length_toList];exact a
    rw[List.drop_eq_getElem_cons b];congr 1;rw[List.singleton_append];congr 1;rw[Array.getElem_toList];show bs.get! i=_;unfold ByteArray.get!;exact getElem!_pos bs.data i a
   ·rw[if_neg a];have:bs.data.toList.length<=i:=by rw[Array.length_toList];exact Nat.not_lt.1 a
    rw[List.drop_of_length_le this,List.append_nil]
theorem a7c (bs:ByteArray):bs.toList=bs.data.toList:=by
 unfold ByteArray.toList;rw[b5u bs bs.size 0 [] (by omega)];simp
theorem d5r (s:ByteArray):d0k s=decide (s.data.toList≠[]):=by
 unfold d0k a0G;rw[a7c,a7c];cases h:s.data.toList with
 |nil=>rfl
 |cons a l=>rfl
theorem a3E (s:ByteArray):(a0P s).map (·.data.toList)=fl s.data.toList:=by
 unfold a0P fl;rw[<- c3u,List.filter_map];congr 1;apply List.filter_congr;intro x _;exact d5r x
theorem a2z (f:List ByteArray):(a1c f).data.toList=a4Y (f.map (·.data.toList)):=rfl
theorem b7z (s:ByteArray):a0P (a1c (a0P s))=a0P s:=by
 apply b7y;rw[a3E,a2z,a3E,e5o]
theorem a7A (s:ByteArray):(a1c (a0P s)).size<=s.size:=by
 have h:=f3H s.data.toList;rw[<- a3E,<- a2z]at h;have e:∀b:ByteArray,b.size=b.data.toList.length:=fun b=>by rw[Array.length_toList];rfl
 rw[e,e];exact h
theorem a1V (a b:ByteArray):a0G a b=true↔a=b:=by
 unfold a0G;rw[a7c,a7c,beq_iff_eq];exact⟨a7S,fun h=>by rw[h]⟩
theorem b5v (s:ByteArray) (i:Nat):b7x s i=true↔32<=(s.data.toList.getD i 0).toNat /\ (s.data.toList.getD i 0).toNat<=126:=by
 unfold b7x a0p;rw[toNat_natCast];generalize (s.data.toList.getD i 0).toNat=n;simp only[and_eq_true,Bool.not_eq_true',decide_eq_false_iff_not];omega
theorem a8v:∀(n k:Nat) (g:Nat->Bool),a0i g k n=true↔∀i,k<=i->i<k+n->g i=true
 | 0,k,g=>by
   constructor
   ·intro _ i a b;omega
   ·intro _;rfl
 | n+1,k,g=>by
   unfold a0i;have c:=a8v n (k+1) g;constructor
   ·intro h i a b;cases hg:g k with
    |false=>rw[hg]at h;exact absurd h (by simp)
    | true =>
      rw[hg]at h;by_cases d:i=k
      ·rw[d];exact hg
      ·exact c.1 (by simpa using h) i (by omega) (by omega)
   ·intro h;rw[h k (le_refl _) (by omega)];have:=c.2 fun i a b=>h i (by omega) (by omega)
    simpa using this
theorem d5s (s:ByteArray):c3s s=true↔∀b∈s.data.toList,32<=b.toNat /\ b.toNat<=126:=by
 unfold c3s;rw[a8v];have d:s.size=s.data.toList.length:=by rw[Array.length_toList];rfl
 constructor
 ·intro h b e;obtain⟨i,c,rfl⟩:=List.getElem_of_mem e;have:=(b5v s i).1 (h i (zero_le _) (by omega));rw[a3t _ _ _ c]at this;exact this
 ·intro h i _ c;have a:i<s.data.toList.length:=by omega
  rw[b5v,a3t _ _ _ a];exact h _ (List.getElem_mem _)
theorem b5w:∀(f:List (List UInt8)) (b:UInt8),b∈a4Y f->b=32∨∃p∈f,b∈p
 |[],b,h=>by cases h
 |[x],b,h=>by rw[a3D]at h;exact .inr ⟨x,List.mem_cons_self ..,h⟩
 | x :: y::r,b,h=>by
   rw[a2y]at h;rcases List.mem_append.1 h with h|h
   ·exact .inr ⟨x,List.mem_cons_self ..,h⟩
   ·rcases List.mem_cons.1 h with h|h
    ·exact .inl h
    ·rcases b5w (y::r) b h with h|⟨p,c,a⟩
     ·exact .inl h
     ·exact .inr ⟨p,List.mem_cons_of_mem _ c,a⟩
theorem d5t (s:ByteArray) (h:c3s s=true):c3s (a1c (a0P s))=true:=by
 rw[d5s]at h ⊢;intro b a;rw[a2z,a3E]at a;rcases b5w _ b a with rfl|⟨p,c,a⟩
 ·decide
 ·exact h b ((e5n _ p c).2.2 b a)
theorem c1n {s:ByteArray} {f:List ByteArray} (h:F16 (s,())=some (f,true,())):s.size<=600 /\ c3s s=true /\ f=a0P s /\ f.length<=24:=by
 rw[c1k]at h;cases h6:decide ((s.size:Int)>600)with
 |true=>rw[h6]at h;simp at h
 | false =>
   rw[h6]at h;cases hv:c3s s with
   |false=>rw[hv]at h;simp at h
   | true =>
     rw[hv]at h;cases hl:decide (((a0P s).length:Int)>24)with
     |true=>rw[hl]at h;simp at h
     | false =>
       rw[hl]at h;simp only[cond_false,Bool.not_true,injEq,Prod.mk.injEq,and_true]at h;have a:=of_decide_eq_false h6;have b:=of_decide_eq_false hl;exact⟨by omega,rfl,h.symm,by rw[<- h];omega⟩
theorem d5u {s:ByteArray} {f:List ByteArray} (h:F16 (s,())=some (f,true,())):F16 (a1c f,())=some (f,true,()):=by
 obtain⟨b,a,rfl,c⟩:=c1n h;have d:=a7A s;rw[c1k,d5t s a,b7z,decide_eq_false (by omega),decide_eq_false (by omega)];rfl
theorem c1o (n:Int) (h:I64 n):F25 (n,())=some (bOf (Lib.itoa n),()):=by
 have k:K65 (n,())=true:=by
  unfold K65;unfold I64 at h;rw[decide_eq_true (show(-9223372036854775808:Int)<=n by omega),decide_eq_true (show n<=(9223372036854775807:Int)by omega)];rfl
 unfold F25
 try dsimp only
 rw[k];rfl
theorem b5x (s:ByteArray) (g:s.size<=1000):∃y,b2o ((s,(0:Int),(0:Int),()),())=some y /\ ∀z,y = .inl z->z.1.1=s /\ I64 z.1.2.1:=by
 refine a0J (q:=b0f) (fun v=>v.1.1=s /\ I64 v.1.2.1 /\ (0<=(v.1.2.2.1:Int)) /\ (v.1.2.2.1:Int)<=s.size) (fun _ r=>∃y,r=some y /\ ∀z,y = .inl z->z.1.1=s /\ I64 z.1.2.1)
  (fun v=>((s.size:Int)-v.1.2.2.1).toNat) ?_ _ _ ⟨rfl,by show I64 0;unfold I64;omega,by show(0:Int)<=0;omega,by show(0:Int)<=_;omega⟩ (by show((s.size:Int)-0).toNat<b4B _;unfold b4B;dsimp only;omega)
 rintro⟨⟨t,n,i,_⟩,_⟩ f ⟨h1,h2,h3,h4⟩ ih;dsimp only at h1 h2 h3 h4 ih;subst h1;unfold b0f;dsimp only;by_cases c:i<(t.size:Int)
 ·have b:decide (i<(t.size:Int))=true:=decide_eq_true c;have d:decide (0<=i)=true:=decide_eq_true h3;rw[b,d];simp only[Bool.and_self,cond_true];cases decide (a0p t i<48)
  ·cases decide (a0p t i>57)
   ·have e:IntKind.i64.wrap (i+1)=i+1:=w64 (by omega) (by omega);simp only[cond_false,e];refine ih _ ⟨rfl,c2O _,?_,?_⟩ ?_
    ·show 0<=i+1;omega
    ·show i+1<=t.size;omega
    ·show((t.size:Int)-(i+1)).toNat<((t.size:Int)-i).toNat;omega
   ·exact⟨_,rfl,fun z a=>by cases a⟩
  ·exact⟨_,rfl,fun z a=>by cases a⟩
 ·have b:decide (i<(t.size:Int))=false:=decide_eq_false c;rw[b];exact⟨_,rfl,fun z a=>by cases a;exact⟨rfl,h2⟩⟩
theorem f3I (s:ByteArray):∃n b,F17 (s,())=some (n,b,()):=by
 unfold F17;dsimp only;cases ((s.size:Int)==0)
 ·cases h10:decide ((s.size:Int)>10)
  ·have h:s.size<=10:=by
    have:=of_decide_eq_false h10;omega
   obtain⟨y,g,i⟩:=b5x s (by omega);simp only[cond_false,a9o,a9p,b4C,b4D,g,isSome_some,cond_true];cases y with
   |inr y=>exact⟨_,_,rfl⟩
   | inl z =>
     obtain⟨_,e⟩:=i z rfl;obtain⟨⟨t,n,_⟩,_⟩:=z;simp only[isR,cond_false,xOf];have f:K25 (n,())=true:=by unfold K25;rw[c1o n e];rfl
     have a:∀c d:Bool,∃(m:Int) (b:Bool),(bif c then some (0,false,())else bif d then some (0,false,())else some (n,true,()):OD R17)=some (m,b,()):=fun c d=>by
      cases c
      ·cases d
       ·exact⟨_,_,rfl⟩
       ·exact⟨_,_,rfl⟩
      ·exact⟨_,_,rfl⟩
     rw[show K25 (n,_)=true from f];exact a _ _
  ·exact⟨_,_,rfl⟩
 ·exact⟨_,_,rfl⟩
def d0n (l:List UInt8):List UInt8:=if l.length<3 then(if l.length<2 then(if l.length<1 then 48::48::48::l else 48::48::l)else 48::l)else l
theorem c1p {u:Nat} (h:u<10):Lib.decDigits u=[dg u]:=by rw[Lib.decDigits,dif_pos h];rfl
theorem b1j {u:Nat} (h:¬u<10):Lib.decDigits u=Lib.decDigits (u/10)++[dg (u%10)]:=by rw[Lib.decDigits,dif_neg h];rfl
theorem d0o (m:Nat) (h:m<1000):d0n (Lib.decDigits m)=(Lib.decDigits (1000+m)).drop 1:=by
 have d:dg 0=48:=rfl;have a1:Lib.decDigits (1000+m)=[dg 1,dg (m/100),dg (m/10%10),dg (m%10)]:=by
  rw[b1j (by omega),b1j (by omega),b1j (by omega),c1p (by omega)];have e:(1000+m)/10/10/10=1:=by omega
  have f:(1000+m)/10/10%10=m/100:=by omega
  have g:(1000+m)/10%10=m/10%10:=by omega
  have i:(1000+m)%10=m%10:=by omega
  rw[e,f,g,i];rfl
 rw[a1];by_cases b:m<10
 ·rw[c1p b];have a:m/100=0:=by omega
  have c:m/10%10=0:=by omega
  have j:m%10=m:=by omega
  rw[a,c,j,d];rfl
 ·by_cases k:m<100
  ·rw[b1j b,c1p (by omega)];have a:m/100=0:=by omega
   have c:m/10%10=m/10:=by omega
   rw[a,c,d];rfl
  ·rw[b1j b,b1j (by omega),c1p (by omega)];have a:m/10/10=m/100:=by omega
   rw[a];rfl
theorem d5v (n:Int) (sg l:List UInt8) (k:1<=l.length) (i:l.length<=100):c0d ((n,bOf sg,bOf l,()),())=some ((n,bOf sg,bOf (d0n l),()),()):=by
 have d:({ data:=#[48] }:ByteArray)=bOf [48]:=rfl;refine a0J (q:=c0c) (fun v=>∃l:List UInt8,v=((n,bOf sg,bOf l,()),()) /\ 1<=l.length /\ l.length<=100) (fun v r=>∀l:List UInt8,v=((n,bOf sg,bOf l,()),())->1<=l.length->r=some ((n,bOf sg,bOf (d0n l),()),()))
  (fun v=>3-v.1.2.2.1.size) ?_ _ _ ⟨l,rfl,k,i⟩ (by unfold c7W;dsimp only;omega) l rfl k
 rintro v f ⟨l,rfl,o,p⟩ t l' s _;have e:bOf l=bOf l':=congrArg (fun v=>v.1.2.2.1) s;have g:l=l':=by
  have:=congrArg (fun b=>b.data.toList) e;simpa[bOf]using this
 subst g;unfold c0c;dsimp only;rw[a2B];by_cases j:l.length<3
 ·have c:decide (((l.length:Nat):Int)<3)=true:=decide_eq_true (by omega);have m:decide (ByteArray.size { data:=#[48] }+l.length<=9223372036854775807)=true:=decide_eq_true (by show 1+_<=_;omega);rw[c,m,cond_true,cond_true,d,a7z];refine(t _ ⟨[48]++l,rfl,by simp,by simp;omega⟩ ?_ ([48]++l) rfl (by simp)).trans ?_
  ·show 3-(bOf ([48]++l)).size<3-(bOf l).size;rw[a2B,a2B];simp;omega
  ·have:d0n ([48]++l)=d0n l:=by
    match l,o,j with
    |[a],_,_=>rfl
    |[a,b],_,_=>rfl
    |_::_::_::_,_,h=>simp at h;omega
   rw[this]
 ·have c:decide (((l.length:Nat):Int)<3)=false:=decide_eq_false (by omega);rw[c,cond_false];unfold d0n;rw[if_neg j]
theorem d0p (n:Int):f7m (n,())=some (decide ((-1000000000:Int)<=n)&&decide (n<=1000000000),()):=by
 have k:F44 (n,-1000000000,1000000000,())=some (decide ((-1000000000:Int)<=n)&&decide (n<=1000000000),()):=b4K _;unfold f7m;dsimp only;unfold K44 G44;rw[k];rfl
theorem b5y (m:Nat) (sg:List UInt8) (n:Int) (q:m<=1000000000) (s:sg.length<=1) (j:n=(m:Int)) :
 (bif K25 (((m%1000:Nat):Int),())then
  bif a9q ((n,bOf sg,G25 (((m%1000:Nat):Int),())),())then
   bif K25 (wrap IntKind.i64 (Int.tdiv (a1W ((n,bOf sg,G25 (((m%1000:Nat):Int),())),())).fst.fst 1000),())then
    bif decide (ByteArray.size (a1W ((n,bOf sg,G25 (((m%1000:Nat):Int),())),())).fst.snd.fst+ByteArray.size (G25 (wrap IntKind.i64 (Int.tdiv (a1W ((n,bOf sg,G25 (((m%1000:Nat):Int),())),())).fst.fst 1000),())).fst<=9223372036854775807)then
     bif decide (ByteArray.size ((a1W ((n,bOf sg,G25 (((m%1000:Nat):Int),())),())).fst.snd.fst++(G25 (wrap IntKind.i64 (Int.tdiv (a1W ((n,bOf sg,G25 (((m%1000:Nat):Int),())),())).fst.fst 1000),())).fst)+ByteArray.size { data:=#[46] }<=9223372036854775807)then
      bif decide (ByteArray.size ((a1W ((n,bOf sg,G25 (((m%1000:Nat):Int),())),())).fst.snd.fst++(G25 (wrap IntKind.i64 (Int.tdiv (a1W ((n,bOf sg,G25 (((m%1000:Nat):Int),())),())).fst.fst 1000),())).fst++{ data:=#[46] })+ByteArray.size (a1W ((n,bOf sg,G25 (((m%1000:Nat):Int),())),())).fst.snd.snd.fst<=9223372036854775807)then
       some ((a1W ((n,bOf sg,G25 (((m%1000:Nat):Int),())),())).fst.snd.fst++(G25 (wrap IntKind.i64 (Int.tdiv (a1W ((n,bOf sg,G25 (((m%1000:Nat):Int),())),())).fst.fst 1000),())).fst++{ data:=#[46] }++(a1W ((n,bOf sg,G25 (((m%1000:Nat):Int),())),())).fst.snd.snd.fst,())
      else none
     else none
    else none
   else none
  else none
 else none:OD f7n)=some (bOf (sg++Lib.itoa ((m/1000:Nat):Int)++[46]++(Lib.itoa ((1000+m%1000:Nat):Int)).drop 1),()):=by
 have l:I64 ((m%1000:Nat):Int):=by unfold I64;omega
 have o:I64 ((m/1000:Nat):Int):=by unfold I64;omega
 have g:=c1o _ l;have h:=c1o _ o;have⟨k1,g1⟩:=kgP K25 G25 g;have⟨k2,g2⟩:=kgP K25 G25 h;obtain⟨p,u⟩:=a4M ((m%1000:Nat):Int) (by omega);obtain⟨t,v⟩:=a4M ((m/1000:Nat):Int) (by omega);have b:=d5v n sg (Lib.itoa ((m%1000:Nat):Int)) p (by omega);have f:IntKind.i64.wrap (Int.tdiv n 1000)=((m/1000:Nat):Int):=by
  rw[j,Int.tdiv_eq_ediv_of_nonneg (by omega),w64 (by omega) (by omega)];omega
 have a:({ data:=#[46] }:ByteArray)=bOf [46]:=rfl;have e:(Lib.itoa ((1000+m%1000:Nat):Int)).drop 1=d0n (Lib.itoa ((m%1000:Nat):Int)):=by
  have c:Lib.itoa ((1000+m%1000:Nat):Int)=Lib.decDigits (1000+m%1000):=by unfold Lib.itoa;rw[if_neg (by omega),toNat_natCast]
  have d:Lib.itoa ((m%1000:Nat):Int)=Lib.decDigits (m%1000):=by unfold Lib.itoa;rw[if_neg (by omega),toNat_natCast]
  rw[c,d,d0o _ (by omega)]
 rw[k1,g1,cond_true,e];generalize Lib.itoa ((m%1000:Nat):Int)=A at *;have r:(d0n A).length<=30:=by
  unfold d0n;split
  ·split
   ·split<;>simp<;>omega
   ·simp;omega
  ·omega
 have i:a9q ((n,bOf sg,bOf A,()),())=true:=by unfold a9q;rw[b];rfl
 have k:a1W ((n,bOf sg,bOf A,()),())=((n,bOf sg,bOf (d0n A),()),()):=by unfold a1W;rw[b];rfl
 rw[i,k];dsimp only;rw[f,k2,g2];generalize Lib.itoa ((m/1000:Nat):Int)=B at *;dsimp only;simp only[cond_true,a,a7z,a2B,length_append,List.length_singleton];rw[decide_eq_true (show sg.length+B.length<=9223372036854775807 by omega),decide_eq_true (show sg.length+B.length+1<=9223372036854775807 by omega),decide_eq_true (show sg.length+B.length+1+(d0n A).length<=9223372036854775807 by omega)];rfl
theorem d0q (n:Int):f7o (n,())=some (bOf (b0m n),()):=by
 unfold f7o b0m;dsimp only;unfold f1Y f1Z;rw[d0p];simp only[isSome_some,getD_some,cond_true];by_cases b:(-1000000000:Int)<=n /\ n<=1000000000
 ·have c:(decide ((-1000000000:Int)<=n)&&decide (n<=1000000000))=true:=by rw[decide_eq_true b.1,decide_eq_true b.2];rfl
  rw[c,Bool.not_true,cond_false,if_pos b];by_cases a:n<0
  ·have d:decide (n<0)=true:=decide_eq_true a;have f:IntKind.i64.wrap (0-n)=((n.natAbs:Nat):Int):=by rw[w64 (by omega) (by omega)];omega
   have e:Int.tmod ((n.natAbs:Nat):Int) 1000=((n.natAbs%1000:Nat):Int):=by rw[Int.tmod_eq_emod_of_nonneg (by omega)];omega
   rw[d,cond_true,f,e,if_pos a];exact b5y n.natAbs [45] _ (by omega) (by simp) rfl
  ·have d:decide (n<0)=false:=decide_eq_false a;have e:Int.tmod n 1000=((n.natAbs%1000:Nat):Int):=by rw[Int.tmod_eq_emod_of_nonneg (by omega)];omega
   rw[d,cond_false,e,if_neg a];exact b5y n.natAbs [] n (by omega) (by simp) (by omega)
 ·have c:(decide ((-1000000000:Int)<=n)&&decide (n<=1000000000))=false:=by
   rw[Bool.and_eq_false_iff,decide_eq_false_iff_not,decide_eq_false_iff_not];omega
  rw[c,Bool.not_false,cond_true,if_neg b];rfl
theorem c3v (s t:ByteArray) (sg d:Int) (h:t.size<=1000):∃y,a6i ((s,t,sg,d,(0:Int),(0:Int),()),())=some y:=by
 refine a0J (q:=a3U) (fun v=>v.1.2.1=t /\ (0<=(v.1.2.2.2.2.2.1:Int)) /\ (v.1.2.2.2.2.2.1:Int)<=t.size) (fun _ r=>∃y,r=some y)
  (fun v=>((t.size:Int)-v.1.2.2.2.2.2.1).toNat) ?_ _ _ ⟨rfl,by show(0:Int)<=0;omega,by show(0:Int)<=_;omega⟩ (by show((t.size:Int)-0).toNat<a7v _;unfold a7v;dsimp only;omega)
 rintro⟨⟨s,u,sg,d,n,i,_⟩,_⟩ f ⟨h1,h3,h4⟩ ih;dsimp only at h1 h3 h4 ih;subst h1;unfold a3U;dsimp only;by_cases c:i<(u.size:Int)
 ·have a:decide (i<(u.size:Int))=true:=decide_eq_true c;have g:decide (0<=i)=true:=decide_eq_true h3;have e:IntKind.i64.wrap (i+1)=i+1:=w64 (by omega) (by omega);have b:∀m:Int,∃y,f ((s,u,sg,d,m,i+1,()),())=some y:=fun m=>by
   refine ih _ ⟨rfl,?_,?_⟩ ?_
   ·show 0<=i+1;omega
   ·show i+1<=u.size;omega
   ·show((u.size:Int)-(i+1)).toNat<((u.size:Int)-i).toNat;omega
  rw[a,g,e];simp only[Bool.and_self,cond_true];cases (i==d)
  ·simp only[cond_false];cases decide (a0p u i<48)
   ·cases decide (a0p u i>57)
    ·exact b _
    ·exact⟨_,rfl⟩
   ·exact⟨_,rfl⟩
  ·exact b _
 ·have a:decide (i<(u.size:Int))=false:=decide_eq_false c;rw[a];exact⟨_,rfl⟩
theorem f3J (n:Int):d1Z (n,())=true:=by unfold d1Z;rw[d0q];rfl
theorem d0r (s t:ByteArray) (sg:Int) (f:t.size<=1000):∃n b,(bif decide ((a5I (t,46,())).fst<1)then some (0,false,())
 else bif (((t.size:Nat):Int) != wrap IntKind.i64 ((a5I (t,46,())).fst+4))then some (0,false,())
 else bif decide ((a5I (t,46,())).fst>7)then some (0,false,())
 else bif a3N ((s,t,sg,(a5I (t,46,())).fst,0,0,()),())then
  bif a4G ((s,t,sg,(a5I (t,46,())).fst,0,0,()),())then some (a5A ((s,t,sg,(a5I (t,46,())).fst,0,0,()),())).fst
  else bif d1Z (wrap IntKind.i64 ((a1k ((s,t,sg,(a5I (t,46,())).fst,0,0,()),())).fst.snd.snd.fst*(a1k ((s,t,sg,(a5I (t,46,())).fst,0,0,()),())).fst.snd.fst),())then
   bif !a0G (d9A (wrap IntKind.i64 ((a1k ((s,t,sg,(a5I (t,46,())).fst,0,0,()),())).fst.snd.snd.fst*(a1k ((s,t,sg,(a5I (t,46,())).fst,0,0,()),())).fst.snd.fst),())).fst (a1k ((s,t,sg,(a5I (t,46,())).fst,0,0,()),())).fst.fst then some (0,false,())
   else some (wrap IntKind.i64 ((a1k ((s,t,sg,(a5I (t,46,())).fst,0,0,()),())).fst.snd.snd.fst*(a1k ((s,t,sg,(a5I (t,46,())).fst,0,0,()),())).fst.snd.fst),true,())
  else none
 else none:OD e3J)=some (n,b,()):=by
 have a:∀(c:Bool) (n:Int) (b:Bool) (m:Int),∃(h:Int) (b':Bool),(bif c then some (n,b,())else some (m,true,()):OD e3J)=some (h,b',()):=fun c n b m=>by cases c<;>exact⟨_,_,rfl⟩
 generalize (a5I (t,46,())).fst=d;obtain⟨y,g⟩:=c3v s t sg d f;have e:a3N ((s,t,sg,d,0,0,()),())=true:=by unfold a3N;rw[g];rfl
 rw[e,f3J];simp only[cond_true];cases decide (d<1)
 ·cases (((t.size:Nat):Int) != wrap IntKind.i64 (d+4))
  ·cases decide (d>7)
   ·cases a4G ((s,t,sg,d,0,0,()),())
    ·exact a _ _ _ _
    ·exact⟨_,_,rfl⟩
   ·exact⟨_,_,rfl⟩
  ·exact⟨_,_,rfl⟩
 ·exact⟨_,_,rfl⟩
theorem e5p (s:ByteArray) (h:s.size<=1000):∃n b,e3K (s,())=some (n,b,()):=by
 unfold e3K;dsimp only;have a:∀t:ByteArray,e2A (t,46,())=true:=fun _=>rfl
 have c:=d0r s s 1 h;cases hb:a0G s { data:=#[] }with
 | true =>
   simp only[Bool.not_true,cond_false,a,cond_true];exact c
 | false =>
   have d:0<s.size:=by
    apply Nat.pos_of_ne_zero;intro g;have:s={ data:=#[] }:=a7S (by
     have:s.data.toList.length=0:=by rw[Array.length_toList];exact g
     rw[List.length_eq_zero_iff.1 this])
    rw[(a1V _ _).2 this]at hb;cases hb
   have e:(decide (0<=0)&&decide (0<((ByteArray.size s:Nat):Int)))=true:=by simp;omega
   have f:(decide (0<=1)&&decide (1<=((ByteArray.size s:Nat):Int))&&decide (((ByteArray.size s:Nat):Int)<=((ByteArray.size s:Nat):Int)))=true:=by simp;omega
   rw[e,f];simp only[Bool.not_false,cond_true];cases (a0p s 0==45)
   ·simp only[cond_false,a,cond_true];exact c
   ·simp only[cond_true,a];refine d0r s _ (-1) ?_;rw[ByteArray.size_extract];omega
def a9I (l:List (Den S68)) (m:Den S63):Int:=bif a1B l then(match a0r (fun i=>a3g (at' l i) m) 0 l.length with|some j=>(j:Int)|none=>-1)else -1
theorem e5q (l:List (Den S68)) (m:Den S63) (h:b7a l):f7R (l,m,())=some (a9I l m,()):=by
 have a:=h.len;have g:b0T (((),l,(l.length:Int),(0:Int),()),(m.1,m.2.1,()),())=some (match a0r (fun i=>a3g (at' l i) m) 0 l.length with|some j => .inr (((j:Int),()),())|none => .inl ((),())):=by
  refine(a4g (q:=b4J) (fun k=>(((),l,(l.length:Int),(k:Int),()),(m.1,m.2.1,()),())) l.length (fun i=>a3g (at' l i) m) _ (fun j => .inr (((j:Int),()),())) ?_ ?_ _ ?_:_)
  ·intro k f e;unfold b4J;have b:decide ((k:Int)<(l.length:Int))=true:=by simpa using e
   have c:decide (0<=(k:Int))=true:=by simp
   have d:getD l k (zero S68)=at' l k:=rfl;simp only[a1Z k (by omega),b,c,Bool.and_self,cond_true,toNat_natCast,d,e7E,e7F,c8v,isSome_some,getD_some]
  ·intro f;simp[b4J]
  ·simp only[c8m];omega
 unfold f7R a9I;simp only[K92,G92,c8y l h,isSome_some,getD_some,cond_true,c8n,c8o,c8p,g];cases a1B l
 ·rfl
 ·cases a0r (fun i=>a3g (at' l i) m) 0 l.length<;>rfl
def a3F (l:List (Den S68)) (k:Int) (m:Den S63):Int:=
 bif !a1B l then -1 else bif inB k 0 ((l.length:Int)-1)&&a0V (at' l k.toNat) m then k else a9I l m
theorem e5r (l:List (Den S68)) (k:Int) (m:Den S63) (h:b7a l) (i:l.length<=13) (g:I64 m.2.1):f7T (l,k,m,())=some (a3F l k m,()):=by
 have c:=c8y l h;have⟨k1,g1⟩:=kgP K92 G92 c;have w1:IntKind.i64.wrap ((l.length:Int)-1)=(l.length:Int)-1:=w64 (by omega) (by omega);have d:F44 (k,0,(l.length:Int)-1,())=some (inB k 0 ((l.length:Int)-1),()):=a3y _;have⟨k2,g2⟩:=kgP K44 G44 d;have a:=h.rng k.toNat;have e:=e0a (at' l k.toNat,m,()) a.1 a.2 g;have⟨k3,g3⟩:=kgP K20 G20 e;have f:=e5q l m h;have⟨k4,g4⟩:=kgP e7H e7I f;unfold f7T a3F;show(bif K92 (l,())then bif !(G92 (l,())).1 then some (-1,())else bif K44 (k,0,IntKind.i64.wrap ((l.length:Int)-1),())then bif (G44 (k,0,IntKind.i64.wrap ((l.length:Int)-1),())).1 then
  bif (decide (0<=k)&&decide (k<(l.length:Int)))then bif K20 (at' l k.toNat,m,())then bif (G20 (at' l k.toNat,m,())).1 then some (k,())else bif e7H (l,m,())then some (e7I (l,m,()))else none else none else none
  else bif e7H (l,m,())then some (e7I (l,m,()))else none else none else none:OD f2F)=_
 rw[w1,k1,g1,k2,g2,k3,g3,k4,g4];cases a1B l
 ·rfl
 ·cases hin:inB k 0 ((l.length:Int)-1)with
  |false=>rfl
  | true =>
    have b:(decide (0<=k)&&decide (k<(l.length:Int)))=true:=by
     unfold inB at hin;simp only[and_eq_true,decide_eq_true_eq]at hin ⊢;omega
    rw[b];cases a0V (at' l k.toNat) m<;>rfl
def a0Y (l:List (Den S68)) (s:ByteArray):Int:=match a0r (fun i=>a0G (at' l i).1 s) 0 l.length with|some j=>(j:Int)|none=>-1
def daV (a b:Nat):Nat:=a0a .add .f32 a (a0a .mul .f32 (a0a .sub .f32 b a) 1056964608)
def a1L (w x:Nat×Nat):(Nat×Nat)×Bool×Unit:=bif !a1O w then((0,0),false,())else bif !a1O x then((0,0),false,())else((daV w.1 x.1,daV w.2 x.2),true,())
theorem e5s (w x:Nat×Nat):f7v (w,x,1056964608,())=some (a1L w x):=by
 have c:=a4R w;have d:=a4R x;have e:g3t (1056964608,())=some (true,()):=by decide +kernel
 have f:∀a b:Nat,g3x (a,b,1056964608,())=some (daV a b,()):=fun _ _=>rfl
 unfold f7v a1L;dsimp only;simp only[K45,G45,c,d,g3u,g3v,e,f7r,f7s,f,isSome_some,getD_some,cond_true];cases a1O w
 ·rfl
 ·cases a1O x<;>rfl
def uI (s:ByteArray):Int:=(G17 (s,())).1
def uB (s:ByteArray):Bool:=(G17 (s,())).2.1
theorem c1q (s:ByteArray):F17 (s,())=some (uI s,uB s,()):=by
 obtain⟨n,b,h⟩:=f3I s;unfold uI uB G17;rw[h];rfl
def xI (s:ByteArray):Int:=(b5W (s,())).1
def xB (s:ByteArray):Bool:=(b5W (s,())).2.1
theorem b7A (s:ByteArray) (a:s.size<=1000):e3K (s,())=some (xI s,xB s,()):=by
 obtain⟨n,b,h⟩:=e5p s a;unfold xI xB b5W;rw[h];rfl
def b2L (n:Int):Nat:=bif decide ((-1000000000:Int)<=n)&&decide (n<=1000000000)then a0a .quo .f64 (nearest .f64 n) 4652007308841189376 else 0
theorem d0s (n:Int):f7p (n,())=some (b2L n,()):=by
 unfold f7p b2L;dsimp only;unfold f1Y f1Z;rw[d0p];simp only[isSome_some,getD_some,cond_true];cases (decide ((-1000000000:Int)<=n)&&decide (n<=1000000000))<;>rfl
def a8j (a b:ByteArray):Nat×Nat×Bool×Unit:=(b2L (xI a),b2L (xI b),xB a&&xB b,())
theorem e5t (a b:ByteArray) (g:a.size<=1000) (h:b.size<=1000):e7D ([a,b],())=some (a8j a b):=by
 have c:=b7A a g;have d:=b7A b h;have e:=d0s (xI a);have f:=d0s (xI b);have⟨k1,g1⟩:=kgP e3L b5W c;have⟨k2,g2⟩:=kgP e3L b5W d;have⟨k3,g3⟩:=kgP e3M c8b e;have⟨k4,g4⟩:=kgP e3M c8b f;unfold e7D a8j;show(bif e3L (a,())then bif e3L (b,())then bif e3M ((b5W (a,())).1,())then bif e3M ((b5W (b,())).1,())then bif (b5W (a,())).2.1 then some ((c8b ((b5W (a,())).1,())).1,(c8b ((b5W (b,())).1,())).1,(b5W (b,())).2)else some ((c8b ((b5W (a,())).1,())).1,(c8b ((b5W (b,())).1,())).1,false,())else none else none else none else none:OD f2d)=_;rw[k1,g1,k2,g2];dsimp only;rw[k3,g3,k4,g4];cases xB a<;>rfl
theorem d0t:IsR 4652007308841189376 1000:=b7m false 8796093022208000 (-43) (by decide +kernel) (by decide) (by decide +kernel)
theorem d0u (n:Int):∃r,IsR (b2L n) r /\ Abs r 2000000:=by
 unfold b2L;by_cases h:(-1000000000:Int)<=n /\ n<=1000000000
 ·rw[decide_eq_true h.1,decide_eq_true h.2];have i:=f3v n (by omega);have f:((-1000000000:Int):Rat)<=((n:Int):Rat):=Rat.intCast_le_intCast.2 h.1;have g:((n:Int):Rat)<=((1000000000:Int):Rat):=Rat.intCast_le_intCast.2 h.2;have d:((-1000000000:Int):Rat)=-1000000000:=by decide +kernel
  have e:((1000000000:Int):Rat)=1000000000:=by decide +kernel
  rw[d]at f;rw[e]at g;obtain⟨r,j,b,c⟩:=h1V (q:=((n:Int):Rat)/1000) (A:=1000000) (ε:=1) i d0t (by decide +kernel) (by rw[Rat.div_def,Rat.mul_assoc,show((1000:Rat)⁻¹*1000)=1 by decide +kernel,Rat.mul_one]) 20 (by
   rw[Rat.div_def];have a:(1000:Rat)⁻¹=1/1000:=by decide +kernel
   rw[a];constructor<;>grind) (by decide +kernel) (by decide +kernel) (by decide) (by decide)
  refine⟨r,j,?_⟩;rw[Rat.div_def]at b c;have a:(1000:Rat)⁻¹=1/1000:=by decide +kernel
  rw[a]at b c;constructor<;>grind
 ·have:(decide ((-1000000000:Int)<=n)&&decide (n<=1000000000))=false:=by
   rw[Bool.and_eq_false_iff,decide_eq_false_iff_not,decide_eq_false_iff_not];omega
  rw[this];exact⟨0,e4z,by constructor<;>decide +kernel⟩
theorem a3Q (n:Int):(a0x .f64 .f32 (b2L n)).1=true:=by
 obtain⟨r,a,b⟩:=d0u n;exact a6Y a (b.mono (by decide +kernel))
def kpV (Y:Yv):Yv:=bif decide (Y.sl ≥ 0)then Y.setSl (bif (a0A Y).2.1 then a3F Y.sails Y.sl (a0A Y).1 else -1)else Y
def a4U (f:List ByteArray) (Y:Yv):Bool×Yv:=
 bif uB (fAt f 1)&&!decide (uI (fAt f 1)>359)then(true,kpV (Y.setHd (uI (fAt f 1))))else(false,Y)
def a5T (w:Nat×Nat):Bool:=feq .f32 w.1 0&&feq .f32 w.2 0
def a1S (f:List ByteArray):Nat×Nat:=a7R (a8j (fAt f 1) (fAt f 2))
def a9J (f:List ByteArray) (Y:Yv):Bool×Yv:=
 bif (a8j (fAt f 1) (fAt f 2)).2.2.1&&a1O (a1S f)then
  bif a5T Y.wd then(true,kpV (Y.setWd (a1S f)))
  else bif (a1L Y.wd (a1S f)).2.1&&a1O (a1L Y.wd (a1S f)).1 then(true,kpV (Y.setWd (a1L Y.wd (a1S f)).1))else(false,Y)
 else(false,Y)
def a8k (f:List ByteArray) (Y:Yv):Bool×Yv:=
 bif a0G (fAt f 1) a8i then(true,Y.setSl (-1))
 else bif !decide (a0Y Y.sails (fAt f 1)<0)&&((a0A Y).2.1&&a3g (at' Y.sails (a0Y Y.sails (fAt f 1)).toNat) (a0A Y).1)then(true,Y.setSl (a0Y Y.sails (fAt f 1)))else(false,Y)
def d0v (f:List ByteArray):Nat×Nat:=((a8j (fAt f 1) (fAt f 2)).1,(a8j (fAt f 1) (fAt f 2)).2.1)
def d0w (f:List ByteArray) (Y:Yv):Bool×Yv:=
 bif (a8j (fAt f 1) (fAt f 2)).2.2.1&&(a0L (d0v f)).2.1 then(true,Y.setPs (d0v f))else(false,Y)
def goS (Y:Yv):Nat:=bif decide (Y.sl ≥ 0)then a4L Y else 0
def goR (n:Int) (Y:Yv):(Nat×Nat)×Bool×Unit:=f3G Y.ps Y.tm (Y.hd,goS Y,n,()) Y.1.2.1
def goV (n:Int) (Y:Yv):Bool×Yv:=
 bif inB n 1 3600&&(!decide (Y.tm+n>10000000)&&!decide ((Y.tk.length:Int) ≥ 200))then
  bif (goR n Y).2.1&&(a0L (goR n Y).1).2.1 then(true,Y.setGo (Y.tm+n) (goR n Y).1 (Y.tk++[((a0L (goR n Y).1).1,Y.tm+n,())]))else(false,Y)
 else(false,Y)
def goW (f:List ByteArray) (Y:Yv):Bool×Yv:=bif uB (fAt f 1)then goV (uI (fAt f 1)) Y else(false,Y)
def isC (f:List ByteArray) (n:Nat) (s:ByteArray):Bool:=decide (f.length=n)&&a0G (fAt f 0) s
def a2a (f:List ByteArray) (Y:Yv):Bool×Yv:=
 bif isC f 2 a1Y then a4U f Y else bif isC f 3 a4K then a9J f Y else bif isC f 2 a5l then a8k f Y else bif isC f 3 b5h then d0w f Y else bif isC f 2 sGo then goW f Y else(false,Y)
theorem g5f (Y:Yv) (h:YM Y):kpK Y prY=some (true,kpV Y):=by
 have c:=c9Q Y;have⟨k8,g8⟩:=kgP K19 G19 c;have a:=a4o h;have b:=e5r Y.sails Y.sl (a0A Y).1 (h.boat.2.2.1.1.good a) a (b5i Y);have⟨k1,g1⟩:=kgP f7U f7V b;unfold kpK kpV;rw[k8,g8,k1,g1];cases decide (Y.sl ≥ 0)
 ·rfl
 ·cases (a0A Y).2.1<;>rfl
theorem d0x (f:List ByteArray) (Y:Yv) (h:YM Y) (b:0<f.length) (a:a0G (fAt f 0) a1Y=true∨a0G (fAt f 0) a4K=true):a7y f Y prY=some (true,kpV Y):=by
 have d:ixB f 0=true:=decide_eq_true (by omega);unfold a7y;rw[d,g5f Y h];rcases a with a|a
 ·rw[a];rfl
 ·rw[a];cases a0G (fAt f 0) a1Y<;>rfl
theorem d0y (f:List ByteArray) (Y:Yv) (g:0<f.length) (s:ByteArray) (c:a0G (fAt f 0) s=true) (a:a0G s a1Y=false) (b:a0G s a4K=false):a7y f Y prY=some (true,Y):=by
 have d:ixB f 0=true:=decide_eq_true (by omega);have e:=(a1V _ _).1 c;unfold a7y;rw[d,e,a,b];rfl
theorem d0z (f:List ByteArray) (n:Nat) (e:0<n) (s:ByteArray) (a b:Option (Bool×Yv)):b0l f (n:Int) s a b=bif isC f n s then a else b:=by
 unfold b0l isC;by_cases h:f.length=n
 ·have c:((f.length:Int)==(n:Int))=true:=by rw[beq_iff_eq];omega
  have d:ixB f 0=true:=decide_eq_true (by omega);rw[c,d,decide_eq_true h];rfl
 ·have c:((f.length:Int)==(n:Int))=false:=by rw[beq_eq_false_iff_ne];omega
  rw[c,decide_eq_false h];rfl
theorem c3w {f:List ByteArray} {n:Nat} {s:ByteArray} (h:isC f n s=true):f.length=n /\ a0G (fAt f 0) s=true:=by
 unfold isC at h;simpa using h
theorem YM.hd' {Y:Yv} (h:YM Y) (k:Int):YM (Y.setHd k):=⟨h.boat,h.tk,h.lg⟩
theorem YM.wd' {Y:Yv} (h:YM Y) (w:Nat×Nat):YM (Y.setWd w):=⟨h.boat,h.tk,h.lg⟩
theorem ix1 {f:List ByteArray} (h:2<=f.length):ixB f 1=true:=decide_eq_true (by omega)
theorem uK (s:ByteArray):K17 (s,())=true:=by unfold K17;rw[c1q];rfl
theorem uG (s:ByteArray):G17 (s,())=(uI s,uB s,()):=by unfold G17;rw[c1q];rfl
theorem d5w (f:List ByteArray) (Y:Yv) (h:YM Y) (a:isC f 2 a1Y=true):b1b f Y prY=some (a4U f Y):=by
 obtain⟨d,c⟩:=c3w a;have b:=d0x f (Y.setHd (uI (fAt f 1))) (h.hd' _) (by omega) (.inl c);unfold b1b a4U;rw[ix1 (by omega),uK,uG];dsimp only;rw[b];cases uB (fAt f 1)
 ·rfl
 ·cases decide (uI (fAt f 1)>359)<;>rfl
theorem e0K {f:List ByteArray} (g:f.length=3) (d:∀k,(fAt f k).size<=1000):slB f=true /\ f2e (a9V f,())=true /\ b0g (a9V f,())=a8j (fAt f 1) (fAt f 2):=by
 obtain⟨a,b,c,rfl⟩:∃a b c,f=[a,b,c]:=by
  match f,g with
  |[a,b,c],_=>exact⟨a,b,c,rfl⟩
 have e:=e5t b c (d 1) (d 2);refine⟨rfl,?_,?_⟩
 ·show(e7D ([b,c],())).isSome=true;rw[e];rfl
 ·show(e7D ([b,c],())).getD _=_;rw[e];rfl
theorem e5u (f:List ByteArray) (Y:Yv) (h:YM Y) (j:isC f 3 a4K=true) (n:∀k,(fAt f k).size<=1000):c3b f Y prY=some (a9J f Y):=by
 obtain⟨l,d⟩:=c3w j;obtain⟨q,r,s⟩:=e0K l n;have o:(a0x .f64 .f32 (a8j (fAt f 1) (fAt f 2)).1).1=true:=a3Q _;have p:(a0x .f64 .f32 (a8j (fAt f 1) (fAt f 2)).2.1).1=true:=a3Q _;have e:=a4R (a1S f);have⟨k1,g1⟩:=kgP K45 G45 e;have g:=e5s Y.wd (a1S f);have⟨k2,g2⟩:=kgP f7w e3N g;have i:=a4R (a1L Y.wd (a1S f)).1;have⟨k3,g3⟩:=kgP K45 G45 i;have b:=d0x f (Y.setWd (a1S f)) (h.wd' _) (by omega) (.inr d);have c:=d0x f (Y.setWd (a1L Y.wd (a1S f)).1) (h.wd' _) (by omega) (.inr d);unfold c3b a9J;rw[q,r,s,o,p];have m:a7R (a8j (fAt f 1) (fAt f 2))=a1S f:=rfl;rw[m,k1,g1,k2,g2,k3,g3,b,c];have a:(feq FloatKind.f32 Y.wd.1 0&&feq FloatKind.f32 Y.wd.2 0)=a5T Y.wd:=rfl;rw[a];cases (a8j (fAt f 1) (fAt f 2)).2.2.1
 ·rfl
 ·cases a1O (a1S f)
  ·rfl
  ·cases a5T Y.wd
   ·cases (a1L Y.wd (a1S f)).2.1
    ·rfl
    ·cases a1O (a1L Y.wd (a1S f)).1<;>rfl
   ·rfl
theorem e5v (f:List ByteArray) (Y:Yv) (h:YM Y) (m:isC f 2 a5l=true):c3c f Y prY=some (a8k f Y):=by
 obtain⟨p,o⟩:=c3w m;have c:=a4o h;have g:=c9Q Y;have⟨k8,g8⟩:=kgP K19 G19 g;have e:f1h (Y.sails,fAt f 1,())=some (a0Y Y.sails (fAt f 1),()):=c8x Y.sails (fAt f 1) (by omega);have⟨k1,g1⟩:=kgP e7v c7D e;have⟨k2,g2⟩:=kgP e7E e7F (c8v (at' Y.sails (a0Y Y.sails (fAt f 1)).toNat,(a0A Y).1,()));have n:=d0y f (Y.setSl (a0Y Y.sails (fAt f 1))) (by omega) a5l o (by decide +kernel) (by decide +kernel);have a:a0Y Y.sails (fAt f 1)<(Y.sails.length:Int):=by
  unfold a0Y;cases hf:a0r (fun i=>a0G (at' Y.sails i).1 (fAt f 1)) 0 Y.sails.length with
  |none=>show(-1:Int)<_;omega
  |some j=>have:=(a0X hf).2.1;show(j:Int)<_;omega
 have l:∀k,getD Y.sails k (zero S68)=at' Y.sails k:=fun _=>rfl
 unfold c3c a8k;rw[ix1 (by omega),k1,k8,g1,g8];dsimp only;rw[l,k2,g2,n];cases a0G (fAt f 1) a8i
 ·by_cases b:a0Y Y.sails (fAt f 1)<0
  ·rw[decide_eq_true b];rfl
  ·have d:decide (0<=a0Y Y.sails (fAt f 1))=true:=decide_eq_true (by omega);rw[decide_eq_false b,d,decide_eq_true a];cases (a0A Y).2.1
   ·rfl
   ·cases a3g (at' Y.sails (a0Y Y.sails (fAt f 1)).toNat) (a0A Y).1<;>rfl
 ·rfl
theorem f3K (f:List ByteArray) (Y:Yv) (b:isC f 3 b5h=true) (h:∀k,(fAt f k).size<=1000):e7O f Y prY=some (d0w f Y):=by
 obtain⟨d,e⟩:=c3w b;obtain⟨i,j,l⟩:=e0K d h;have a:=c0Z (d0v f);have⟨k1,g1⟩:=kgP K23 G23 a;have c:=d0y f (Y.setPs (d0v f)) (by omega) b5h e (by decide +kernel) (by decide +kernel);unfold e7O d0w;rw[i,j,l];have g:((a8j (fAt f 1) (fAt f 2)).1,(a8j (fAt f 1) (fAt f 2)).2.1)=d0v f:=rfl;rw[g,k1,g1,c];cases (a8j (fAt f 1) (fAt f 2)).2.2.1
 ·rfl
 ·cases (a0L (d0v f)).2.1<;>rfl
theorem e0L (f:List ByteArray) (Y:Yv) (h:YM Y) (n:Int) (s:Nat) (j:n<=3600) (l:0<=Y.tm /\ Y.tm<=10000000) (o:f.length=2) (k:a0G (fAt f 0) sGo=true) (b:goS Y=s) (t:Int) (i:t=Y.tm+n) :
 b7r f Y n t s prY=some (bif (goR n Y).2.1&&(a0L (goR n Y).1).2.1 then(true,Y.setGo t (goR n Y).1 (Y.tk++[((a0L (goR n Y).1).1,t,())]))else(false,Y)):=by
 have c:e3P (Y.ps,Y.tm,[((Y.hd,s,n,()):Den a2R)],Y.1.2.1,())=some (goR n Y):=by
  unfold goR;rw[b];exact e5m Y.ps Y.tm (Y.hd,s,n,()) Y.1.2.1 h.boat.2.1 l.1 (by omega) j
 have m:f7Q (Y.ps,Y.tm,set (replicate 1 (zero a2R)) 0 (Y.hd,s,n,()),Y.1.2.1,())=true:=by
  show(e3P (Y.ps,Y.tm,[((Y.hd,s,n,()):Den a2R)],Y.1.2.1,())).isSome=true;rw[c];rfl
 have e:d9N (Y.ps,Y.tm,set (replicate 1 (zero a2R)) 0 (Y.hd,s,n,()),Y.1.2.1,())=goR n Y:=by
  show(e3P (Y.ps,Y.tm,[((Y.hd,s,n,()):Den a2R)],Y.1.2.1,())).getD _=_;rw[c];rfl
 have d:=c0Z (goR n Y).1;have⟨k2,g2⟩:=kgP K23 G23 d;have a:a0k (length Y.tk+1)=true:=a0v (by have:=h.tk;omega);have g:=d0y f (Y.setGo t (goR n Y).1 (Y.tk++[((a0L (goR n Y).1).1,t,())])) (by omega) sGo k (by decide +kernel) (by decide +kernel);unfold b7r;rw[m,e,k2,g2,a,g];cases (goR n Y).2.1
 ·rfl
 ·cases (a0L (goR n Y).1).2.1<;>rfl
theorem g5g (f:List ByteArray) (Y:Yv) (h:YM Y) (i:isC f 2 sGo=true) (d:0<=Y.tm /\ Y.tm<=10000000):goK f Y prY=some (goW f Y):=by
 obtain⟨b,c⟩:=c3w i;unfold goK goW;rw[ix1 (by omega),uK,uG];dsimp only;generalize uI (fAt f 1)=n;have e:F44 (n,1,3600,())=some (inB n 1 3600,()):=a3y _;have⟨k2,g2⟩:=kgP K44 G44 e;have g:=e0x Y;have⟨k3,g3⟩:=kgP K57 G57 g;rw[k2,g2,k3,g3];unfold goV;cases uB (fAt f 1)
 ·rfl
 cases hin:inB n 1 3600 with
 |false=>rfl
 | true =>
   have a:=hin;unfold inB at a;simp only[and_eq_true,decide_eq_true_eq]at a;have w1:IntKind.i64.wrap (Y.tm+n)=Y.tm+n:=w64 (by omega) (by omega);rw[w1];cases decide (Y.tm+n>10000000)
   ·cases decide ((Y.tk.length:Int) ≥ 200)
    ·cases hsl:decide (Y.sl ≥ 0)with
     |false=>exact e0L f Y h n 0 a.2 d b c (by unfold goS;rw[hsl];rfl) _ rfl
     |true=>exact e0L f Y h n (a4L Y) a.2 d b c (by unfold goS;rw[hsl];rfl) _ rfl
    ·rfl
   ·rfl
theorem d5x (f:List ByteArray) (Y:Yv) (h:YM Y) (e:∀k,(fAt f k).size<=1000) (g:0<=Y.tm /\ Y.tm<=10000000):d5n f Y=some (a2a f Y):=by
 unfold d5n c3d a2a;have c:∀(s:ByteArray) (a b:Option (Bool×Yv)),b0l f 2 s a b=bif isC f 2 s then a else b:=fun s a b=>d0z f 2 (by decide) s a b
 have d:∀(s:ByteArray) (a b:Option (Bool×Yv)),b0l f 3 s a b=bif isC f 3 s then a else b:=fun s a b=>d0z f 3 (by decide) s a b
 rw[c,d,c,d,c];cases c1:isC f 2 a1Y with
 |true=>exact d5w f Y h c1
 |false=>
 cases c1:isC f 3 a4K with
 |true=>exact e5u f Y h c1 e
 |false=>
 cases c1:isC f 2 a5l with
 |true=>exact e5v f Y h c1
 |false=>
 cases c1:isC f 3 b5h with
 |true=>exact f3K f Y c1 e
 |false=>
 cases c1:isC f 2 sGo with
 |true=>exact g5g f Y h c1 g
 |false=>rfl
theorem d0A {w:Nat} {s:Bool} {m:Nat} {e:Int} (h:Ieee.single.read w = .number s m e):∃q,IsS w q:=⟨_,s,m,e,h,a9A h,rfl⟩
theorem d5y {g f z w:Nat} {x y:Rat} (o:IsS z x) (l:IsS w y) (h:fge g z=true) (e:fgt .f32 f g=true) (i:fle f w=true):(∃v,IsS g v) /\ ∃v,IsS f v:=by
 obtain⟨s,m,c,j,_⟩:=o;obtain⟨t,n,d,k,_⟩:=l;have u:FloatKind.f32.format.order g z=(Ieee.single.read g).order (Ieee.single.read z):=rfl;have A:FloatKind.f32.format.order f g=(Ieee.single.read f).order (Ieee.single.read g):=rfl;have B:FloatKind.f32.format.order f w=(Ieee.single.read f).order (Ieee.single.read w):=rfl;unfold fge fgt feq at h;unfold fgt at e;unfold fle flt feq at i;rw[u,j]at h;rw[A]at e;rw[B,k]at i;cases hl:Ieee.single.read g with
 |nan a b=>rw[hl]at h;simp[Ieee.Datum.order]at h
 | infinity a =>
   rw[hl]at h e;cases hh:Ieee.single.read f with
   |nan p q=>rw[hh]at e;simp[Ieee.Datum.order]at e
   | infinity p =>
     rw[hh]at e i;cases a<;>cases p<;>simp[Ieee.Datum.order]at h e i
     all_goals exact absurd e (by decide)
   | number p q r =>
     rw[hh]at e;cases a<;>simp[Ieee.Datum.order]at h e
 | number p q r =>
   refine⟨d0A hl,?_⟩;rw[hl]at e;cases hh:Ieee.single.read f with
   |nan a b=>rw[hh]at e;simp[Ieee.Datum.order]at e
   | infinity a =>
     rw[hh]at e i;cases a<;>simp[Ieee.Datum.order]at e i
   |number a b c=>exact d0A hh
theorem b7B {a g d:Nat} {x y:Rat} (j:IsS g x) (i:IsS d y) (h:fge a g=true) (c:fle a d=true):∃v,IsS a v:=by
 obtain⟨s,m,e,l,_,_⟩:=j;obtain⟨t,n,f,k,_,_⟩:=i;have o:FloatKind.f32.format.order a g=(Ieee.single.read a).order (Ieee.single.read g):=rfl;have q:FloatKind.f32.format.order a d=(Ieee.single.read a).order (Ieee.single.read d):=rfl;unfold fge fle fgt feq flt at *;rw[o,l]at h;rw[q,k]at c;cases hz:Ieee.single.read a with
 |number a b p=>exact d0A hz
 |nan a b=>rw[hz]at c;simp[Ieee.Datum.order]at c
 | infinity a =>
   rw[hz]at h c;cases a<;>simp[Ieee.Datum.order]at h c
theorem g9t:IsS 1065353216 1:=c9L false 8388608 (-23) (by decide +kernel) (by decide) (by decide +kernel)
theorem g9u:IsS 1128792064 200:=c9L false 13107200 (-16) (by decide +kernel) (by decide) (by decide +kernel)
theorem b5z {s:Den S68} {m:Den S63} (j:a1U s=true) (h:a3g s m=true):a0V s m=true:=by
 unfold a1U at j;unfold a3g at h;unfold a0V;rw[and_eq_true,and_eq_true,and_eq_true,and_eq_true]at j;rw[and_eq_true,and_eq_true,and_eq_true]at h;obtain⟨_,a1,a2,a,_⟩:=j;obtain⟨⟨b,c⟩,k,l⟩:=h;have a1:fge s.2.1 0=true:=a1;have a:fle s.2.2.1 1128792064=true:=a;have b:fge m.1 s.2.1=true:=b;have c:fle m.1 s.2.2.1=true:=c;obtain⟨⟨x,d⟩,y,e⟩:=d5y c3a g9u a1 a2 a;obtain⟨v,f⟩:=b7B d e b c;have p:(0:Rat)<=x:=by rw[f3n d c3a]at a1;simpa using a1
 have q:x<y:=by rw[g9q e d]at a2;simpa using a2
 have u:y<=200:=by rw[d4V e g9u]at a;simpa using a
 have w:x<=v:=by rw[f3n f d]at b;simpa using b
 have z:v<=y:=by rw[d4V f e]at c;simpa using c
 obtain⟨r,n,B,C⟩:=g4S d g9t 8 (A:=300) (ε:=1/2) (by constructor<;>grind) (by decide +kernel) (by decide +kernel) (by decide) (by decide);obtain⟨t,o,D,E⟩:=g4R e g9t 8 (A:=300) (ε:=1/2) (by constructor<;>grind) (by decide +kernel) (by decide +kernel) (by decide) (by decide);have g:fge m.1 (a0a .sub .f32 s.2.1 1065353216)=true:=by rw[f3n f n];simp only[decide_eq_true_eq];grind
 have i:fle m.1 (a0a .add .f32 s.2.2.1 1065353216)=true:=by rw[d4V f o];simp only[decide_eq_true_eq];grind
 have g:(fgt .f32 m.1 (a0a .sub .f32 s.2.1 1065353216)||feq .f32 m.1 (a0a .sub .f32 s.2.1 1065353216))=true:=g;have i:(flt .f32 m.1 (a0a .add .f32 s.2.2.1 1065353216)||feq .f32 m.1 (a0a .add .f32 s.2.2.1 1065353216))=true:=i;rw[g,i,k,l];rfl
def spF (s:ByteArray):List ByteArray:=(G16 (s,())).1
def spO (s:ByteArray):Bool:=(G16 (s,())).2.1
theorem b5A (s:ByteArray):F16 (s,())=some (spF s,spO s,()):=by
 unfold spF spO G16;rw[c1k];cases decide ((s.size:Int)>600)
 ·cases c3s s
  ·rfl
  ·cases decide (((a0P s).length:Int)>24)<;>rfl
 ·rfl
theorem b7C {s:ByteArray} (h:spO s=true):s.size<=600 /\ c3s s=true /\ spF s=a0P s /\ (spF s).length<=24:=by
 have e:=b5A s;rw[h]at e;exact c1n e
theorem d0B {s:ByteArray} (h:spO s=true):spF (a1c (spF s))=spF s /\ spO (a1c (spF s))=true:=by
 have e:=b5A s;rw[h]at e;have a:=d5u e;rw[b5A]at a;simp only[injEq,Prod.mk.injEq,and_true]at a;exact a
theorem b5B:∀(f:List (List UInt8)) (x:List UInt8),x∈f->x.length<=(a4Y f).length
 | [y],x,h=>by
   rw[List.mem_singleton.1 h,a3D];exact le_refl _
 | y::z::r,x,h=>by
   rw[a2y];simp only[length_append,List.length_cons];rcases List.mem_cons.1 h with h|h
   ·rw[h];omega
   ·have:=b5B (z::r) x h;omega
theorem d0C (b:ByteArray):b.size=b.data.toList.length:=by rw[Array.length_toList];rfl
theorem c1r {s:ByteArray} (h:spO s=true) (k:Int):(fAt (spF s) k).size<=600:=by
 obtain⟨c,_,a,_⟩:=b7C h;have d:=a7A s;unfold fAt;rw[a,List.getD_eq_getElem?_getD];cases hx:(a0P s)[k.toNat]? with
 |none=>exact zero_le _
 | some x =>
   have b:x∈a0P s:=List.mem_of_getElem? hx;have:=b5B ((a0P s).map (·.data.toList)) x.data.toList (List.mem_map.2 ⟨x,b,rfl⟩);rw[<- a2z,<- d0C,<- d0C]at this;show x.size<=600;omega
theorem d0D (f:List ByteArray):(b6B f { data:=#[32] }).length=(a1c f).size:=by
 unfold a1c;show _=Array.size _;rw[List.size_toArray]
theorem e5w {s:ByteArray} (h:spO s=true):K60 (spF s,{ data:=#[32] },())=true:=by
 obtain⟨c,_,a,b⟩:=b7C h;have d:=a7A s;unfold K60;show(decide ((spF s).length<=140737488355328)&&decide ((b6B (spF s) { data:=#[32] }).length<=140737488355328))=true;rw[d0D,a];rw[a]at b;simp only[and_eq_true,decide_eq_true_eq];omega
structure Left (Y Z:Yv):Prop where
 boat:Z.1=Y.1
 lg:Z.lg=Y.lg
 tk:Z.tk=Y.tk∨∃s,Z.tk=Y.tk++[s]
theorem Left.refl (Y:Yv):Left Y Y:=⟨rfl,rfl,.inl rfl⟩
theorem a7B (Y:Yv) (k:Int):Left Y (Y.setSl k):=⟨rfl,rfl,.inl rfl⟩
theorem a4N (Y:Yv):Left Y (kpV Y):=by
 unfold kpV;cases decide (Y.sl ≥ 0)
 ·exact .refl Y
 ·exact a7B _ _
theorem a4p (f:List ByteArray) (Y:Yv):Left Y (a2a f Y).2:=by
 unfold a2a;cases isC f 2 a1Y
 ·cases isC f 3 a4K
  ·cases isC f 2 a5l
   ·cases isC f 3 b5h
    ·cases isC f 2 sGo
     ·exact .refl Y
     ·show Left Y (goW f Y).2;unfold goW goV;cases uB (fAt f 1)
      ·exact .refl Y
      ·cases (inB (uI (fAt f 1)) 1 3600&&(!decide (Y.tm+uI (fAt f 1)>10000000)&&!decide ((Y.tk.length:Int) ≥ 200)))
       ·exact .refl Y
       ·cases ((goR (uI (fAt f 1)) Y).2.1&&(a0L (goR (uI (fAt f 1)) Y).1).2.1)
        ·exact .refl Y
        ·exact⟨rfl,rfl,.inr ⟨_,rfl⟩⟩
    ·show Left Y (d0w f Y).2;unfold d0w;cases ((a8j (fAt f 1) (fAt f 2)).2.2.1&&(a0L (d0v f)).2.1)
     ·exact .refl Y
     ·exact⟨rfl,rfl,.inl rfl⟩
   ·show Left Y (a8k f Y).2;unfold a8k;cases a0G (fAt f 1) a8i
    ·cases (!decide (a0Y Y.sails (fAt f 1)<0)&&((a0A Y).2.1&&a3g (at' Y.sails (a0Y Y.sails (fAt f 1)).toNat) (a0A Y).1))
     ·exact .refl Y
     ·exact a7B _ _
    ·exact a7B _ _
  ·show Left Y (a9J f Y).2;unfold a9J;cases ((a8j (fAt f 1) (fAt f 2)).2.2.1&&a1O (a1S f))
   ·exact .refl Y
   ·cases a5T Y.wd
    ·cases ((a1L Y.wd (a1S f)).2.1&&a1O (a1L Y.wd (a1S f)).1)
     ·exact .refl Y
     ·exact⟨(a4N (Y.setWd _)).boat,(a4N (Y.setWd _)).lg,(a4N (Y.setWd _)).tk⟩
    ·exact⟨(a4N (Y.setWd _)).boat,(a4N (Y.setWd _)).lg,(a4N (Y.setWd _)).tk⟩
 ·show Left Y (a4U f Y).2;unfold a4U;cases (uB (fAt f 1)&&!decide (uI (fAt f 1)>359))
  ·exact .refl Y
  ·exact⟨(a4N (Y.setHd _)).boat,(a4N (Y.setHd _)).lg,(a4N (Y.setHd _)).tk⟩
def doB (Y:Yv) (s:ByteArray):Bool:=okV (a0A Y) Y&&(decide ((Y.lg.length:Int)<300)&&(spO s&&(a2a (spF s) Y).1))
def doZ (Y:Yv) (s:ByteArray):Yv:=(a2a (spF s) Y).2.setLg ((a2a (spF s) Y).2.lg++[a1c (spF s)])
def doV (Y:Yv) (s:ByteArray):Yv×Bool×Unit:=bif doB Y s then(doZ Y s,true,())else(Y,false,())
theorem a2Q {m:Den R19} {Y:Yv} (h:okV m Y=true):a5M Y.1=true /\ (0<=Y.tm /\ Y.tm<=10000000) /\ (a0L Y.ps).2.1=true /\ (0<=Y.hd /\ Y.hd<=359) /\ a1O Y.wd=true /\ (-1<=Y.sl /\ Y.sl<=(Y.sails.length:Int)-1) /\ a2M Y.tk=true /\ Y.lg.length<=300 /\ b5q Y=false /\ c1i m Y=true:=by
 unfold okV c3o inB at h;simp only[and_eq_true,decide_eq_true_eq,Bool.not_eq_true',decide_eq_false_iff_not]at h;obtain⟨⟨b,c,d,e,f,g,i,k,j⟩,a⟩:=h;exact⟨b,c,d,e,f,g,i,by omega,j,a⟩
theorem b5C {t:List (Den S97)} (h:a2M t=true):t.length<=200:=by
 unfold a2M at h;simp only[and_eq_true,decide_eq_true_eq]at h;omega
theorem d0E (Y:Yv) (s:ByteArray) (h:YM Y):F27 (Y,s,())=some (doV Y s):=by
 have a:=f3E Y s h.boat h.tk h.lg (d0i Y h) (b5A s) (d:=(a2a (spF s) Y).1) (Z:=(a2a (spF s) Y).2) (fun c f b=>by
  obtain⟨_,e,_⟩:=a2Q c;refine⟨d5x (spF s) Y h (fun k=>Nat.le_trans (c1r b k) (by decide)) e,fun hd=>⟨e5w b,?_⟩⟩;rw[(a4p (spF s) Y).lg];exact h.lg)
 rw[a];unfold doV doB doZ;rfl
theorem YM.doV {Y:Yv} (h:YM Y) (s:ByteArray):YM (doV Y s).1:=by
 unfold AM.doV;cases hd:doB Y s with
 |false=>exact h
 | true =>
   show YM (doZ Y s);unfold doB at hd;simp only[and_eq_true,decide_eq_true_eq]at hd;obtain⟨a,d,_,_⟩:=hd;obtain⟨_,_,_,_,_,_,b,_,_,_⟩:=a2Q a;have c:=b5C b;have L:=a4p (spF s) Y;refine⟨?_,?_,?_⟩
   ·show a4m (a2a (spF s) Y).2.1;rw[L.boat];exact h.boat
   ·show((a2a (spF s) Y).2.tk).length<=1000;rcases L.tk with e|⟨x,e⟩
    ·rw[e];exact h.tk
    ·rw[e,length_append,List.length_singleton];omega
   ·show((a2a (spF s) Y).2.lg++[a1c (spF s)]).length<=1000;rw[L.lg,length_append,List.length_singleton];omega
def a1I (Y:Yv) (a:List ByteArray):Nat->Yv×List Bool
 |0=>(Y,[])
 |k+1=>((doV (a1I Y a k).1 (a.getD k (zero Ty.str))).1,(a1I Y a k).2++[(doV (a1I Y a k).1 (a.getD k (zero Ty.str))).2.1])
theorem b2M (Y:Yv) (a:List ByteArray) (h:YM Y):∀k,YM (a1I Y a k).1
 |0=>h
 |k+1=>(b2M Y a h k).doV _
theorem b2N (Y:Yv) (a:List ByteArray):∀k,(a1I Y a k).2.length=k
 |0=>rfl
 | k+1=>by
   show((a1I Y a k).2++[_]).length=_;rw[length_append,b2N Y a k];rfl
abbrev J10:Type:=Unit×Unit×Unit×Unit×Unit×Unit×Int×Int×Int×Int×Unit×Int×Int×Int×Int×Int×(Nat×Nat)×Int×(Nat×Nat)×Int×Unit×Unit×Unit
def jn0:J10:=((),(),(),(),(),(),0,0,0,0,(),0,0,0,0,0,(0,0),0,(0,0),0,(),(),())
abbrev g5h:Type:=(((List (Den (.flt .f32)))×((List (Den (.int .i64)))×((List (Den (.slice (.flt .f32))))×((List (Den (a1r)))×((List (Den (.int .i64)))×((List (Den (S68)))×(Int×(Int×(Int×(Int×((List (Den (a2u)))×(Int×(Int×(Int×(Int×(Int×((Nat×Nat)×(Int×((Nat×Nat)×(Int×((List (Den (S97)))×((List (Den (.str)))×Unit)))))))))))))))))))))))
def flY (Y:Yv):g5h:=(Y.1.1.1,Y.1.1.2.1,Y.1.1.2.2.1,Y.1.2.1.1,Y.1.2.1.2.1,Y.1.2.2.1,Y.1.2.2.2.1.1.1.1,Y.1.2.2.2.1.1.1.2.1,Y.1.2.2.2.1.1.2.1.1,Y.1.2.2.2.1.1.2.1.2.1,Y.1.2.2.2.1.2.1,Y.1.2.2.2.1.2.2.1.1.1,Y.1.2.2.2.1.2.2.1.1.2.1,Y.1.2.2.2.1.2.2.1.2.1.1,Y.1.2.2.2.1.2.2.1.2.1.2.1,Y.2)
theorem f3L (v:c3g):v.1.2.2.2.1.length<d5c v:=by
 unfold d5c;refine Nat.lt_of_le_of_lt ?_ (Nat.lt_add_of_pos_right (by decide))
 repeat (first|exact le_refl _|refine Nat.le_trans ?_ (Nat.le_add_right _ _))
theorem e5x (Y:Yv) (a:List ByteArray) (k:Nat) (i:k<a.length) (l:a.length<=1000) (bs:List Bool) (j:bs.length<=1000) (h:YM Y) (f:c3g->Option d5b) :
 c3h f (((),(),(),a,(a.length:Int),(k:Int),()),flY Y,jn0,bs,())=f (((),(),(),a,(a.length:Int),((k+1:Nat):Int),()),flY (doV Y (a.getD k (zero Ty.str))).1,jn0,bs++[(doV Y (a.getD k (zero Ty.str))).2.1],()):=by
 have b:decide ((k:Int)<(a.length:Int))=true:=by simpa using i
 have c:decide (0<=(k:Int))=true:=by simp
 have e:=d0E Y (a.getD k (zero Ty.str)) h;have⟨k1,g1⟩:=kgP K27 G27 e;have g:a0k (bs.length+1)=true:=a0v (by omega);have d:IntKind.i64.wrap ((k:Int)+1)=((k+1:Nat):Int):=a1Z k (by omega);unfold c3h;show(bif decide ((k:Int)<(a.length:Int))then bif (decide (0<=(k:Int))&&decide ((k:Int)<(a.length:Int)))then bif K27 (Y,a.getD k (zero Ty.str),())then bif a0k (bs.length+1)then
  f (((),(),(),a,(a.length:Int),IntKind.i64.wrap ((k:Int)+1),()),flY (G27 (Y,a.getD k (zero Ty.str),())).1,jn0,bs++[(G27 (Y,a.getD k (zero Ty.str),())).2.1],())else none else none else none else _)=_
 rw[b,c,k1,g1,g,d];rfl
def g9v (a:d5b):Den R10:=((((a.snd.fst.1,a.snd.fst.snd.1,a.snd.fst.snd.snd.1,()),(a.snd.fst.snd.snd.snd.1,a.snd.fst.snd.snd.snd.snd.1,()),a.snd.fst.snd.snd.snd.snd.snd.1,(((a.snd.fst.snd.snd.snd.snd.snd.snd.1,a.snd.fst.snd.snd.snd.snd.snd.snd.snd.1,()),(a.snd.fst.snd.snd.snd.snd.snd.snd.snd.snd.1,a.snd.fst.snd.snd.snd.snd.snd.snd.snd.snd.snd.1,()),()),a.snd.fst.snd.snd.snd.snd.snd.snd.snd.snd.snd.snd.1,((a.snd.fst.snd.snd.snd.snd.snd.snd.snd.snd.snd.snd.snd.1,a.snd.fst.snd.snd.snd.snd.snd.snd.snd.snd.snd.snd.snd.snd.1,()),(a.snd.fst.snd.snd.snd.snd.snd.snd.snd.snd.snd.snd.snd.snd.snd.1,a.snd.fst.snd.snd.snd.snd.snd.snd.snd.snd.snd.snd.snd.snd.snd.snd.1,()),()),()),()),a.snd.fst.snd.snd.snd.snd.snd.snd.snd.snd.snd.snd.snd.snd.snd.snd.snd),a.snd.snd.snd)
theorem f3M (Y:Yv) (a:List ByteArray) (h:YM Y) (l:a.length<=1000):F10 (Y,a,())=some ((a1I Y a a.length).1,(a1I Y a a.length).2,()):=by
 have d:=e0H Y h.boat h.tk h.lg;have⟨k36,g36⟩:=kgP K36 G36 d;have b:d5d (((),(),(),a,(a.length:Int),(0:Int),()),flY Y,jn0,[],())=some (((),(),(),()),flY (a1I Y a a.length).1,jn0,(a1I Y a a.length).2,()):=by
  refine a0Z (q:=c3h) (fun k=>(((),(),(),a,(a.length:Int),(k:Int),()),flY (a1I Y a k).1,jn0,(a1I Y a k).2,())) a.length _ ?_ ?_ _ ?_
  ·intro k f e;exact e5x (a1I Y a k).1 a k e l (a1I Y a k).2 (by rw[b2N];omega) (b2M Y a h k) f
  ·intro f;have i:decide ((a.length:Int)<(a.length:Int))=false:=by simp
   unfold c3h;show(bif decide ((a.length:Int)<(a.length:Int))then _ else _)=_;rw[i];rfl
  ·exact f3L (((),(),(),a,(a.length:Int),(0:Int),()),flY Y,jn0,[],())
 have e:c1b (((),(),(),a,(a.length:Int),(0:Int),()),flY Y,jn0,[],())=true:=by unfold c1b;rw[b];rfl
 have m:c1c (((),(),(),a,(a.length:Int),(0:Int),()),flY Y,jn0,[],())=(((),(),(),()),flY (a1I Y a a.length).1,jn0,(a1I Y a a.length).2,()):=by unfold c1c;rw[b];rfl
 let c (g:O36.den):g5h:=(g.1.1.1,g.1.1.2.1,g.1.1.2.2.1,g.1.1.2.2.2.1,g.1.1.2.2.2.2.1,g.1.1.2.2.2.2.2.1,g.1.1.2.2.2.2.2.2.1,g.1.1.2.2.2.2.2.2.2.1,g.1.1.2.2.2.2.2.2.2.2.1,g.1.1.2.2.2.2.2.2.2.2.2.1,g.1.1.2.2.2.2.2.2.2.2.2.2.1,g.1.1.2.2.2.2.2.2.2.2.2.2.2.1,g.1.1.2.2.2.2.2.2.2.2.2.2.2.2.1,g.1.1.2.2.2.2.2.2.2.2.2.2.2.2.2.1,g.1.1.2.2.2.2.2.2.2.2.2.2.2.2.2.2.1,g.1.1.2.2.2.2.2.2.2.2.2.2.2.2.2.2.2.1,g.1.1.2.2.2.2.2.2.2.2.2.2.2.2.2.2.2.2.1,g.1.1.2.2.2.2.2.2.2.2.2.2.2.2.2.2.2.2.2.1,g.1.1.2.2.2.2.2.2.2.2.2.2.2.2.2.2.2.2.2.2.1,g.1.1.2.2.2.2.2.2.2.2.2.2.2.2.2.2.2.2.2.2.2.1,g.2)
 have j:c (G36 ((Y,()),()))=flY Y:=by rw[g36];rfl
 unfold F10;show(bif K36 ((Y,()),())then bif c1b (((),(),(),a,(a.length:Int),(0:Int),()),c (G36 ((Y,()),())),jn0,[],())then some (g9v (c1c (((),(),(),a,(a.length:Int),(0:Int),()),c (G36 ((Y,()),())),jn0,[],())))else none else none)=_;rw[j,k36,e,m];rfl
theorem f3N (s:ByteArray) (m:s.size<=10):∀y,b2o ((s,(0:Int),(0:Int),()),())=some y->(∀z,y = .inl z->0<=z.1.2.1) /\ (∀z,y = .inr z->z.1.2.1=false):=by
 refine a0J (q:=b0f) (fun v=>∃(n i:Nat),v=((s,(n:Int),(i:Int),()),()) /\ n<10^i /\ i<=s.size) (fun _ r=>∀y,r=some y->(∀z,y = .inl z->0<=z.1.2.1) /\ (∀z,y = .inr z->z.1.2.1=false))
  (fun v=>((s.size:Int)-v.1.2.2.1).toNat) ?_ _ _ ⟨0,0,rfl,by decide,zero_le _⟩ (by show((s.size:Int)-0).toNat<b4B _;unfold b4B;dsimp only;omega)
 rintro v f ⟨n,i,rfl,w,x⟩ p;unfold b0f;dsimp only;by_cases e:i<s.size
 ·have d:decide ((i:Int)<(s.size:Int))=true:=by simpa using e
  have k:decide (0<=(i:Int))=true:=by simp
  have l:IntKind.i64.wrap ((i:Int)+1)=((i+1:Nat):Int):=a1Z i (by omega);rw[d,k,l];simp only[Bool.and_self,cond_true];by_cases h:a0p s (i:Int)<48
  ·rw[decide_eq_true h];intro y b;cases b;exact⟨fun z a=>(by cases a),fun z a=>(by cases a;rfl)⟩
  ·rw[decide_eq_false h];by_cases j:a0p s (i:Int)>57
   ·rw[decide_eq_true j];intro y b;cases b;exact⟨fun z a=>(by cases a),fun z a=>(by cases a;rfl)⟩
   ·rw[decide_eq_false j];have A:10^i<=10^9:=Nat.pow_le_pow_right (by decide) (by omega);have g:10^(i+1)=10*10^i:=by rw[Nat.pow_succ,Nat.mul_comm]
    have w1:IntKind.i64.wrap ((n:Int)*10)=((n*10:Nat):Int):=by rw[w64 (by omega) (by omega)];omega
    obtain⟨c,o⟩:∃c:Nat,a0p s (i:Int)=(c:Int)+48 /\ c<=9:=⟨(a0p s (i:Int)-48).toNat,by omega,by omega⟩;have w2:IntKind.u8.wrap (a0p s (i:Int)-48)=(c:Int):=by rw[o.1,IntKind.wrap_u8];omega
    have t:IntKind.i64.wrap (c:Int)=(c:Int):=w64 (by omega) (by omega);have u:IntKind.i64.wrap (((n*10:Nat):Int)+(c:Int))=((n*10+c:Nat):Int):=by rw[w64 (by omega) (by omega)];omega
    simp only[cond_false,w1,w2,t,u];refine p _ ⟨n*10+c,i+1,rfl,?_,e⟩ ?_
    ·rw[g];omega
    ·show((s.size:Int)-((i+1:Nat):Int)).toNat<((s.size:Int)-(i:Int)).toNat;omega
 ·have d:decide ((i:Int)<(s.size:Int))=false:=by simpa using e
  rw[d];intro y b;cases b;exact⟨fun z a=>(by cases a;exact Int.natCast_nonneg n),fun z a=>(by cases a)⟩
theorem f3O {s:ByteArray} (h:uB s=true):0<=uI s /\ uI s<=1000000000:=by
 have e:=c1q s;rw[h]at e;generalize uI s=m at *;unfold F17 at e;dsimp only at e;cases h0:((s.size:Int)==0)with
 |true=>rw[h0]at e;simp at e
 | false =>
   rw[h0]at e;cases h10:decide ((s.size:Int)>10)with
   |true=>rw[h10]at e;simp at e
   | false =>
     rw[h10]at e;have f:s.size<=10:=by
      have:=of_decide_eq_false h10;omega
     cases hl:b2o ((s,(0:Int),(0:Int),()),())with
     | none =>
       have:a9o ((s,(0:Int),(0:Int),()),())=false:=by unfold a9o;rw[hl];rfl
       rw[this]at e;simp at e
     | some y =>
       obtain⟨j,k⟩:=f3N s f y hl;have d:a9o ((s,(0:Int),(0:Int),()),())=true:=by unfold a9o;rw[hl];rfl
       rw[d]at e;cases y with
       | inr z =>
         have a:a9p ((s,(0:Int),(0:Int),()),())=true:=by unfold a9p;rw[hl];rfl
         have i:b4D ((s,(0:Int),(0:Int),()),())=z:=by unfold b4D;rw[hl];rfl
         rw[a,i]at e;have:=k z rfl;simp only[cond_false,cond_true,injEq]at e;rw[e]at this;cases this
       | inl z =>
         have a:a9p ((s,(0:Int),(0:Int),()),())=false:=by unfold a9p;rw[hl];rfl
         have g:b4C ((s,(0:Int),(0:Int),()),())=z:=by unfold b4C;rw[hl];rfl
         rw[a,g]at e;have c:=j z rfl;obtain⟨⟨t,n,_⟩,_⟩:=z;have c:(0:Int)<=n:=c;simp only[cond_false]at e;by_cases b:n>1000000000
         ·rw[decide_eq_true b]at e;simp at e
         ·rw [decide_eq_false b]at e;simp only[cond_false]at e;cases hkk:K25 (n,())with
          | false =>
            have:K25 (n,PUnit.unit)=false:=hkk;rw[this]at e;simp at e
          | true =>
            have:K25 (n,PUnit.unit)=true:=hkk;rw[this]at e;simp only[cond_true]at e;cases hbs:!a0G (G25 (n,PUnit.unit)).fst t with
            |true=>rw[hbs]at e;simp at e
            | false =>
              rw[hbs]at e;simp only[cond_false,injEq,Prod.mk.injEq]at e;obtain⟨rfl,_⟩:=e;omega
theorem a7T {m:Den R19} {Z:Yv} (a1:a5M Z.1=true) (a2:0<=Z.tm /\ Z.tm<=10000000) (b:(a0L Z.ps).2.1=true) (c:0<=Z.hd /\ Z.hd<=359) (d:a1O Z.wd=true) (e:-1<=Z.sl /\ Z.sl<=(Z.sails.length:Int)-1)
 (f:a2M Z.tk=true) (h:Z.lg.length<=300) (g:b5q Z=false) (a:c1i m Z=true):okV m Z=true:=by
 unfold okV c3o inB;simp only[and_eq_true,decide_eq_true_eq,Bool.not_eq_true',decide_eq_false_iff_not];exact⟨⟨a1,a2,b,c,d,e,f,by omega,g⟩,a⟩
theorem a7C {b:Den S40} (h:a5M b=true):a1B b.2.2.1=true:=by
 unfold a5M at h;simp only[and_eq_true]at h;exact h.2.2.1
theorem c1s {l:List (Den S68)} (h:a1B l=true) {j:Nat} (a:j<l.length):a1U (at' l j)=true:=by
 unfold a1B at h;rw[and_eq_true]at h;have:=(a8v _ _ _).1 h.1 j (zero_le _) (by omega);rw[and_eq_true]at this;exact this.1
theorem e5y {l:List (Den S68)} (c:a1B l=true) (a:Int) (m:Den S63):a3F l a m=-1∨(0<=a3F l a m /\ a3F l a m<=(l.length:Int)-1 /\ a0V (at' l (a3F l a m).toNat) m=true):=by
 unfold a3F;rw[c];cases hc:(inB a 0 ((l.length:Int)-1)&&a0V (at' l a.toNat) m)with
 | true =>
   right;rw[and_eq_true]at hc;obtain⟨b,d⟩:=hc;unfold inB at b;simp only[and_eq_true,decide_eq_true_eq]at b;exact⟨b.1,b.2,d⟩
 | false =>
   show a9I l m=-1∨(0<=a9I l m /\ a9I l m<=(l.length:Int)-1 /\ a0V (at' l (a9I l m).toNat) m=true);unfold a9I;rw[c];cases hf:a0r (fun i=>a3g (at' l i) m) 0 l.length with
   |none=>exact .inl rfl
   | some j =>
     right;obtain⟨_,d,e,_⟩:=a0X hf;have f:j<l.length:=by omega
     refine⟨Int.natCast_nonneg j,?_,?_⟩
     ·show(j:Int)<=_;omega
     ·exact b5z (c1s c f) e
structure b5D (Y:Yv):Prop where
 ship:a5M Y.1=true
 tm:0<=Y.tm /\ Y.tm<=10000000
 ps:(a0L Y.ps).2.1=true
 hd:0<=Y.hd /\ Y.hd<=359
 wd:a1O Y.wd=true
 sl:-1<=Y.sl /\ Y.sl<=(Y.sails.length:Int)-1
 tk:a2M Y.tk=true
 lg:Y.lg.length<=300
 late:b5q Y=false
theorem b5D.of {m:Den R19} {Y:Yv} (h:okV m Y=true):b5D Y:=by
 obtain⟨a,b,c,d,e,f,g,i,j,_⟩:=a2Q h;exact⟨a,b,c,d,e,f,g,i,j⟩
theorem b5D.ok {Y:Yv} (h:b5D Y) {m:Den R19} (a:c1i m Y=true):okV m Y=true:=a7T h.ship h.tm h.ps h.hd h.wd h.sl h.tk h.lg h.late a
theorem e5z {Y:Yv} (h:b5D Y):okV (a0A (kpV Y)) (kpV Y)=true:=by
 unfold kpV;by_cases b:Y.sl ≥ 0
 ·rw [decide_eq_true b];show okV (a0A (Y.setSl (bif (a0A Y).2.1 then a3F Y.sails Y.sl (a0A Y).1 else -1))) (Y.setSl (bif (a0A Y).2.1 then a3F Y.sails Y.sl (a0A Y).1 else -1))=true;have e:0<=(Y.sails.length:Int):=Int.natCast_nonneg _;have a:okV (a0A (Y.setSl (-1))) (Y.setSl (-1))=true:=a7T (Z:=Y.setSl (-1)) h.ship h.tm h.ps h.hd h.wd ⟨by show(-1:Int) <= -1;omega,by show(-1:Int)<=(Y.sails.length:Int)-1;omega⟩ h.tk h.lg h.late rfl;cases hf:(a0A Y).2.1 with
  |false=>exact a
  | true =>
    show okV (a0A (Y.setSl (a3F Y.sails Y.sl (a0A Y).1))) (Y.setSl (a3F Y.sails Y.sl (a0A Y).1))=true;rcases e5y (a7C h.ship) Y.sl (a0A Y).1 with c|⟨f,g,d⟩
    ·have c:a3F Y.sails Y.sl (a0A Y).1=-1:=c;rw[c];exact a
    ·refine a7T (Z:=Y.setSl (a3F Y.sails Y.sl (a0A Y).1)) h.ship h.tm h.ps h.hd h.wd ⟨by show -1<=a3F Y.sails Y.sl (a0A Y).1;have:0<=a3F Y.sails Y.sl (a0A Y).1:=f;omega,g⟩ h.tk h.lg h.late ?_;unfold c1i;show(bif decide (a3F Y.sails Y.sl (a0A Y).1 ≥ 0)then(a0A Y).2.1&&a0V (at' Y.sails (a3F Y.sails Y.sl (a0A Y).1).toNat) (a0A Y).1 else true)=true;have d:a0V (at' Y.sails (a3F Y.sails Y.sl (a0A Y).1).toNat) (a0A Y).1=true:=d;rw[hf,d];cases decide (a3F Y.sails Y.sl (a0A Y).1 ≥ 0)<;>rfl
 ·rw[decide_eq_false b];refine h.ok ?_;unfold c1i;show(bif decide (Y.sl ≥ 0)then _ else true)=true;rw[decide_eq_false b];rfl
theorem d0F {p:Nat×Nat} (h:(a0L p).2.1=true):a1C (a0L p).1=true:=by
 unfold a0L at h ⊢;cases hv:a3G p with
 |false=>rw[hv]at h;cases h
 | true =>
   rw[hv]at h;cases hp:a1C (rnd p.1,rnd p.2,())with
   |false=>rw[hp]at h;cases h
   |true=>exact hp
theorem d0G {t:List (Den S97)} {s:Den S97} {k:Nat} (h:k<t.length):sg (t++[s]) k=sg t k:=by
 unfold sg;rw[List.getD_eq_getElem?_getD,List.getD_eq_getElem?_getD,List.getElem?_append_left h]
theorem d0H (t:List (Den S97)) (s:Den S97):sg (t++[s]) t.length=s:=by
 unfold sg;rw[List.getD_eq_getElem?_getD,List.getElem?_append_right (le_refl _)];simp
theorem d0I {t:List (Den S97)} {s:Den S97} (b:a2M t=true) (k:t.length<200) (f:a1C s.1=true) (g:inB s.2.1 0 10000000=true) (h:0<t.length->(sg t (t.length-1)).2.1<s.2.1):a2M (t++[s])=true:=by
 unfold a2M at b ⊢;rw[and_eq_true]at b ⊢;obtain⟨d,_⟩:=b;refine⟨?_,by rw[decide_eq_true_eq,length_append,List.length_singleton];omega⟩;rw[a8v]at d ⊢;intro i _ j;rw[length_append,List.length_singleton]at j;by_cases a:i<t.length
 ·have:=d i (zero_le _) (by omega);unfold a5k at this ⊢;rw[d0G a,d0G (show i-1<t.length by omega)];exact this
 ·have:i=t.length:=by omega
  subst this;unfold a5k;rw[d0H,f,g];by_cases c:0<t.length
  ·rw[d0G (show t.length-1<t.length by omega)];have:=h c;have e:decide ((s.2.1:Int)<=(sg t (t.length-1)).2.1)=false:=decide_eq_false (Int.not_le.2 this);rw[e,Bool.and_false];rfl
  ·rw[decide_eq_false c];rfl
theorem g5i {Y:Yv} (h:b5D Y) (f:c1i (a0A Y) Y=true) (n:Int) (hd:(goV n Y).1=true):okV (a0A (goV n Y).2) (goV n Y).2=true:=by
 unfold goV at hd ⊢;cases ha:(inB n 1 3600&&(!decide (Y.tm+n>10000000)&&!decide ((Y.tk.length:Int) ≥ 200)))with
 |false=>rw[ha]at hd;cases hd
 | true =>
   rw[ha]at hd;cases hb:((goR n Y).2.1&&(a0L (goR n Y).1).2.1)with
   |false=>rw[hb]at hd;cases hd
   | true =>
     unfold inB at ha;simp only[and_eq_true,decide_eq_true_eq,Bool.not_eq_true',decide_eq_false_iff_not]at ha;rw[and_eq_true]at hb;obtain⟨⟨j,k⟩,l,m⟩:=ha;have i:=h.tm;have d:Y.tk.length<200:=by omega
     have b:inB (Y.tm+n) 0 10000000=true:=by
      unfold inB;simp only[and_eq_true,decide_eq_true_eq];omega
     have a:0<Y.tk.length->(sg Y.tk (Y.tk.length-1)).2.1<Y.tm+n:=by
      intro g;have c:=h.late;unfold b5q at c;rw[decide_eq_true (show(Y.tk.length:Int)>0 by omega),Bool.true_and]at c;have:=of_decide_eq_false c;exact Int.lt_of_le_of_lt (Int.not_lt.1 this) (by omega)
     show okV (a0A (Y.setGo (Y.tm+n) (goR n Y).1 (Y.tk++[((a0L (goR n Y).1).1,Y.tm+n,())]))) (Y.setGo (Y.tm+n) (goR n Y).1 (Y.tk++[((a0L (goR n Y).1).1,Y.tm+n,())]))=true;refine a7T (Z:=Y.setGo (Y.tm+n) (goR n Y).1 (Y.tk++[((a0L (goR n Y).1).1,Y.tm+n,())])) h.ship ⟨by show 0<=Y.tm+n;omega,by show Y.tm+n<=_;omega⟩ hb.2 h.hd h.wd h.sl ?_ h.lg ?_ f
     ·exact d0I h.tk d (d0F hb.2) b a
     ·unfold b5q;show(decide (((Y.tk++[((a0L (goR n Y).1).1,Y.tm+n,())]).length:Int)>0)&&decide ((sg (Y.tk++[((a0L (goR n Y).1).1,Y.tm+n,())]) ((Y.tk++[((a0L (goR n Y).1).1,Y.tm+n,())]).length-1)).2.1>Y.tm+n))=false;have e:(Y.tk++[(((a0L (goR n Y).1).1,Y.tm+n,()):Den S97)]).length-1=Y.tk.length:=by rw[length_append,List.length_singleton];omega
      rw[e,d0H];have:decide ((Y.tm+n:Int)>Y.tm+n)=false:=decide_eq_false (Int.lt_irrefl _);show(_&&decide ((Y.tm+n:Int)>Y.tm+n))=false;rw[this,Bool.and_false]
theorem e5A (f:List ByteArray) {Y:Yv} (a:okV (a0A Y) Y=true) (hd:(a2a f Y).1=true):okV (a0A (a2a f Y).2) (a2a f Y).2=true:=by
 have h:=b5D.of a;have e:c1i (a0A Y) Y=true:=(a2Q a).2.2.2.2.2.2.2.2.2;have d:0<=(Y.sails.length:Int):=Int.natCast_nonneg _;have b:okV (a0A (Y.setSl (-1))) (Y.setSl (-1))=true:=a7T (Z:=Y.setSl (-1)) h.ship h.tm h.ps h.hd h.wd ⟨by show(-1:Int) <= -1;omega,by show(-1:Int)<=(Y.sails.length:Int)-1;omega⟩ h.tk h.lg h.late rfl;unfold a2a at hd ⊢;cases c1:isC f 2 a1Y with
 | true =>
   rw[c1]at hd;have hd:(a4U f Y).1=true:=hd;show okV (a0A (a4U f Y).2) (a4U f Y).2=true;unfold a4U at hd ⊢;cases hu:(uB (fAt f 1)&&!decide (uI (fAt f 1)>359))with
   |false=>exact a
   | true =>
     rw[and_eq_true,Bool.not_eq_true',decide_eq_false_iff_not]at hu;have:=(f3O hu.1).1;exact e5z (Y:=Y.setHd (uI (fAt f 1))) ⟨h.ship,h.tm,h.ps,⟨this,by show uI (fAt f 1)<=359;omega⟩,h.wd,h.sl,h.tk,h.lg,h.late⟩
 |false=>
 rw[c1]at hd;cases c2:isC f 3 a4K with
 | true =>
   show okV (a0A (a9J f Y).2) (a9J f Y).2=true;unfold a9J;cases c:((a8j (fAt f 1) (fAt f 2)).2.2.1&&a1O (a1S f))with
   |false=>exact a
   | true =>
     rw[and_eq_true]at c;cases a5T Y.wd with
     |true=>exact e5z (Y:=Y.setWd (a1S f)) ⟨h.ship,h.tm,h.ps,h.hd,c.2,h.sl,h.tk,h.lg,h.late⟩
     | false =>
       show okV (a0A (bif ((a1L Y.wd (a1S f)).2.1&&a1O (a1L Y.wd (a1S f)).1)then(true,kpV (Y.setWd (a1L Y.wd (a1S f)).1))else(false,Y)).2) (bif ((a1L Y.wd (a1S f)).2.1&&a1O (a1L Y.wd (a1S f)).1)then(true,kpV (Y.setWd (a1L Y.wd (a1S f)).1))else(false,Y)).2=true;cases hdm:((a1L Y.wd (a1S f)).2.1&&a1O (a1L Y.wd (a1S f)).1)with
       |false=>exact a
       | true =>
         rw[and_eq_true]at hdm;exact e5z (Y:=Y.setWd (a1L Y.wd (a1S f)).1) ⟨h.ship,h.tm,h.ps,h.hd,hdm.2,h.sl,h.tk,h.lg,h.late⟩
 |false=>
 rw[c2]at hd;cases c3:isC f 2 a5l with
 | true =>
   show okV (a0A (a8k f Y).2) (a8k f Y).2=true;unfold a8k;cases a0G (fAt f 1) a8i with
   |true=>exact b
   | false =>
     show okV (a0A (bif !decide (a0Y Y.sails (fAt f 1)<0)&&((a0A Y).2.1&&a3g (at' Y.sails (a0Y Y.sails (fAt f 1)).toNat) (a0A Y).1)then(true,Y.setSl (a0Y Y.sails (fAt f 1)))else(false,Y)).2) (bif !decide (a0Y Y.sails (fAt f 1)<0)&&((a0A Y).2.1&&a3g (at' Y.sails (a0Y Y.sails (fAt f 1)).toNat) (a0A Y).1)then(true,Y.setSl (a0Y Y.sails (fAt f 1)))else(false,Y)).2=true;cases hf:(!decide (a0Y Y.sails (fAt f 1)<0)&&((a0A Y).2.1&&a3g (at' Y.sails (a0Y Y.sails (fAt f 1)).toNat) (a0A Y).1))with
     |false=>exact a
     | true =>
       rw[and_eq_true,and_eq_true,Bool.not_eq_true',decide_eq_false_iff_not]at hf;obtain⟨m,g,k⟩:=hf;have l:a0Y Y.sails (fAt f 1)<(Y.sails.length:Int):=by
        unfold a0Y;cases hff:a0r (fun i=>a0G (at' Y.sails i).1 (fAt f 1)) 0 Y.sails.length with
        |none=>show(-1:Int)<_;omega
        |some j=>have:=(a0X hff).2.1;show(j:Int)<_;omega
       show okV (a0A (Y.setSl (a0Y Y.sails (fAt f 1)))) (Y.setSl (a0Y Y.sails (fAt f 1)))=true;have c:a0V (at' Y.sails (a0Y Y.sails (fAt f 1)).toNat) (a0A Y).1=true:=b5z (c1s (a7C h.ship) (by show(a0Y Y.sails (fAt f 1)).toNat<Y.sails.length;omega)) k;refine a7T (Z:=Y.setSl (a0Y Y.sails (fAt f 1))) h.ship h.tm h.ps h.hd h.wd ⟨by show -1<=a0Y Y.sails (fAt f 1);omega,by show a0Y Y.sails (fAt f 1)<=(Y.sails.length:Int)-1;omega⟩ h.tk h.lg h.late ?_;unfold c1i;show(bif decide (a0Y Y.sails (fAt f 1) ≥ 0)then(a0A Y).2.1&&a0V (at' Y.sails (a0Y Y.sails (fAt f 1)).toNat) (a0A Y).1 else true)=true;rw[g,c];cases decide (a0Y Y.sails (fAt f 1) ≥ 0)<;>rfl
 |false=>
 rw[c3]at hd;cases c4:isC f 3 b5h with
 | true =>
   show okV (a0A (d0w f Y).2) (d0w f Y).2=true;unfold d0w;cases hp:((a8j (fAt f 1) (fAt f 2)).2.2.1&&(a0L (d0v f)).2.1)with
   |false=>exact a
   | true =>
     rw[and_eq_true]at hp;exact a7T (Z:=Y.setPs (d0v f)) h.ship h.tm hp.2 h.hd h.wd h.sl h.tk h.lg h.late e
 |false=>
 rw[c4]at hd;cases c5:isC f 2 sGo with
 | true =>
   rw[c5]at hd;have hd:(goW f Y).1=true:=hd;show okV (a0A (goW f Y).2) (goW f Y).2=true;unfold goW at hd ⊢;cases hu:uB (fAt f 1)with
   |false=>exact a
   | true =>
     rw[hu]at hd;exact g5i h e _ hd
 |false=>exact a
theorem f3P {Z:Yv} (h:okV (a0A Z) Z=true) (l:List ByteArray) (c:l.length<=300):okV (a0A (Z.setLg l)) (Z.setLg l)=true:=by
 have a:=b5D.of h;have b:c1i (a0A Z) Z=true:=(a2Q h).2.2.2.2.2.2.2.2.2;exact a7T (Z:=Z.setLg l) a.ship a.tm a.ps a.hd a.wd a.sl a.tk c a.late b
theorem f3Q {Y:Yv} (s:ByteArray) (hd:doB Y s=true):okV (a0A (doZ Y s)) (doZ Y s)=true:=by
 unfold doB at hd;simp only[and_eq_true,decide_eq_true_eq]at hd;obtain⟨b,c,d,a⟩:=hd;have h:=e5A (spF s) b a;have L:=(a4p (spF s) Y).lg;unfold doZ;generalize (a2a (spF s) Y).2=D at *;refine f3P h _ ?_;rw[L,length_append,List.length_singleton];omega
theorem e0M {Y:Yv} (a:List ByteArray) (h:okV (a0A Y) Y=true):∀k,okV (a0A (a1I Y a k).1) (a1I Y a k).1=true
 |0=>h
 | k+1=>by
   show okV (a0A (doV (a1I Y a k).1 (a.getD k (zero Ty.str))).1) (doV (a1I Y a k).1 (a.getD k (zero Ty.str))).1=true;unfold doV;cases hd:doB (a1I Y a k).1 (a.getD k (zero Ty.str))with
   |false=>exact e0M a h k
   |true=>exact f3Q _ hd
theorem c1t {Y:Yv} (a:List ByteArray) (h:okV (a0A Y) Y=false):∀k,(a1I Y a k).1=Y
 |0=>rfl
 | k+1=>by
   show(doV (a1I Y a k).1 (a.getD k (zero Ty.str))).1=Y;rw[c1t a h k];unfold doV;have:doB Y (a.getD k (zero Ty.str))=false:=by unfold doB;rw[h];rfl
   rw[this];rfl
abbrev g5j:Ty:=.cons (S68) (.cons (S63) (.nil))
abbrev g5k:Ty:=.cons (.bool) (.nil)
def f8d (x:Den g5j):OD g5k:=bif fgt .f32 x.2.1.1 x.1.2.1||feq .f32 x.2.1.1 x.1.2.1 then bif flt .f32 x.2.1.1 x.1.2.2.1||feq .f32 x.2.1.1 x.1.2.2.1 then bif decide (x.2.1.2.1 ≥ x.1.2.2.2.1) then some (decide (x.2.1.2.1<=x.1.2.2.2.2.1),())else some (false,())else some (false,())else some (false,())
def e7P (x):=(f8d x).isSome
def e7Q (x):=(f8d x).getD (zero g5k)
def g5l:=(206,a0b g5j g5k e7P e7Q)
theorem e0N:a0d Tryz.prog g5l:=fnE nS Tryz.func206
abbrev g9w:Ty:=.cons (.slice (S68)) (.cons (S63) (.nil))
abbrev g5m:Ty:=.cons (.int .i64) (.nil)
abbrev c1u:Type:=(b2c×b2d)×d1W×Unit
abbrev e0O:Type:=a4r
abbrev e0P:Type:=c5o
def e0Q:LR:=⟨[0,3,5],[],0,[],[],⟨[(0,om7),(3,om1),(5,om0)],[(0,f9u)],1,0⟩,⟨[],[],0,0⟩,⟨[(4,om0)],[],0,0⟩⟩
def a7U (f:c1u->Option (e0O⊕e0P)) (v:c1u):Option (e0O⊕e0P):=bif decide (v.1.2.2.1<(length v.1.1:Int)) then bif d7m (v.1.1,()) then bif (d7n (v.1.1,())).1 then bif decide (0<=v.1.2.2.1)&&decide (v.1.2.2.1<(length v.1.1:Int)) then let a:=getD v.1.1 (toNat v.1.2.2.1) (zero S68);bif e7P (a,v.2) then bif (e7Q (a,v.2)).1 then some (Sum.inr (v.1.2.2,()))else f (((v.1.1,(),wrap .i64 (v.1.2.2.1+1),()),v.2))else none else none else some (Sum.inl ((),()))else none else some (Sum.inl ((),()))
def d0J (v:c1u):Nat:=v.1.1.length+v.1.2.2.1.natAbs+v.2.1.2.1.natAbs+1000
def b1k (v:c1u):=a0F a7U (d0J v) v
def d0K (v):=(b1k v).isSome
def d0L (v):=isR (b1k v)
def g5n (v):=xOf default (b1k v)
def d0M (v):=yOf default (b1k v)
def f3R (x:Den g9w):OD g5m:=bif d0K ((x.1,(),0,()),x.2) then bif d0L ((x.1,(),0,()),x.2) then some (d0M ((x.1,(),0,()),x.2)).1 else some (-1,())else none
def f8e (x):=(f3R x).isSome
def f8f (x):=(f3R x).getD (zero g5m)
def h2g:=(244,a0b g9w g5m f8e f8f)
noncomputable def g5o:=gE [g6V,g5l] Tryz.f244 (lps:=[(2,lmR e0Q b1k)])
theorem d5z:EvR g5o (lp Tryz.f244 0) e0Q a7U:=fun _ _=>by kernel_rfl
theorem f3S:a0d Tryz.prog h2g:=a0y (a0C (s2 c6c e0N)) (a1q Tryz.func244 rfl rfl rfl (by kernel_rfl) (a0f (by kernel_rfl) (s1 (lR d5z d0J)))) fun _=>by kernel_rfl
abbrev g9x:Ty:=.cons (.slice (S68)) (.cons (.int .i64) (.cons (S63) (.nil)))
abbrev g5p:Ty:=.cons (.int .i64) (.nil)
def f8g (x:Den g9x):OD g5p:=bif d7m (x.1,()) then bif !(d7n (x.1,())).1 then some (-1,())else let a:=wrap .i64 ((length x.1:Int)-1);bif K51 (x.2.1,0,a,()) then bif (G51 (x.2.1,0,a,())).1 then bif decide (0<=x.2.1)&&decide (x.2.1<(length x.1:Int)) then let b:=getD x.1 (toNat x.2.1) (zero S68);bif K55 (b,x.2.2) then bif (G55 (b,x.2.2)).1 then some (x.2.1,())else bif f8e (x.1,x.2.2) then some (f8f (x.1,x.2.2))else none else none else none else bif f8e (x.1,x.2.2) then some (f8f (x.1,x.2.2))else none else none else none
def f8h (x):=(f8g x).isSome
def f8i (x):=(f8g x).getD (zero g5p)
def h2h:=(204,a0b g9x g5p f8h f8i)
theorem f3T:a0d Tryz.prog h2h:=fnE (s4 c6c a4E e9Y f3S) Tryz.func204
abbrev g9y:Ty:=.cons (.flt .f32) (.nil)
abbrev g5q:Ty:=.cons (.bool) (.nil)
def g5r (x:Den g9y):OD g5q:=bif fgt .f32 x.1 0||feq .f32 x.1 0 then some (flt .f32 x.1 1065353216||feq .f32 x.1 1065353216,())else some (false,())
def g5s (x):=(g5r x).isSome
def g5t (x):=(g5r x).getD (zero g5q)
def h2i:=(245,a0b g9y g5q g5s g5t)
theorem f3U:a0d Tryz.prog h2i:=fnE nS Tryz.func245
abbrev g9z:Ty:=.cons (.flt .f32) (.cons (.flt .f32) (.cons (.flt .f32) (.nil)))
abbrev g5u:Ty:=.cons (.flt .f32) (.nil)
def g5v (x:Den g9z):OD g5u:=some (a0a .add .f32 x.1 (a0a .mul .f32 (a0a .sub .f32 x.2.1 x.1) x.2.2.1),())
def f8j (x):=(g5v x).isSome
def f8k (x):=(g5v x).getD (zero g5u)
def h2j:=(246,a0b g9z g5u f8j f8k)
theorem f3V:a0d Tryz.prog h2j:=fnE nS Tryz.func246
abbrev g9A:Ty:=.cons (.cpx .f32) (.cons (.cpx .f32) (.cons (.flt .f32) (.nil)))
abbrev g5w:Ty:=.cons (.cpx .f32) (.cons (.bool) (.nil))
def f8l (x:Den g9A):OD g5w:=bif K52 (x.1,()) then bif !(G52 (x.1,())).1 then some ((0,0),false,())else bif K52 (x.2.1,()) then bif !(G52 (x.2.1,())).1 then some ((0,0),false,())else bif g5s x.2.2 then bif !(g5t x.2.2).1 then some ((0,0),false,())else bif f8j (x.1.1,x.2.1.1,x.2.2) then bif f8j (x.1.2,x.2.1.2,x.2.2) then some (((f8k (x.1.1,x.2.1.1,x.2.2)).1,(f8k (x.1.2,x.2.1.2,x.2.2)).1),true,())else none else none else none else none else none
def f8m (x):=(f8l x).isSome
def e0R (x):=(f8l x).getD (zero g5w)
def h2k:=(205,a0b g9A g5w f8m e0R)
theorem f3W:a0d Tryz.prog h2k:=fnE (s3 b2g f3U f3V) Tryz.func205
abbrev g9B:Ty:=.cons (.str) (.nil)
abbrev g5x:Ty:=.cons (.int .i64) (.cons (.bool) (.nil))
abbrev c1v:Type:=(b3O×a4h)×Unit
abbrev e0S:Type:=e8B
abbrev e0T:Type:=(Int×d1V)×Unit
def e0U:LR:=⟨[0,4,5],[],0,[0,4],[],⟨[(0,om5),(4,om0),(5,om0)],[],0,0⟩,⟨[(0,om5),(4,om0)],[],0,0⟩,⟨[(2,om0),(3,om2)],[],0,0⟩⟩
def b1l (f:c1v->Option (e0S⊕e0T)) (v:c1v):Option (e0S⊕e0T):=let b:=v.1.2.2.1<(ByteArray.size v.1.1:Int);bif decide b then let a:=decide (0<=v.1.2.2.1)&&decide b;bif a then bif decide (a0p v.1.1 v.1.2.2.1<48) then some (Sum.inr ((0,false,()),()))else bif a then bif decide (a0p v.1.1 v.1.2.2.1>57) then some (Sum.inr ((0,false,()),()))else bif a then f (((v.1.1,wrap .i64 ((wrap .i64 ((wrap .i64 (10*v.1.2.1))+(wrap .i64 (a0p v.1.1 v.1.2.2.1))))-48),wrap .i64 (v.1.2.2.1+1),()),()))else none else none else none else some (Sum.inl ((v.1.1,v.1.2.1,()),()))
def e0V (v:c1v):Nat:=v.1.1.size+v.1.2.1.natAbs+v.1.2.2.1.natAbs+1000
def b1m (v:c1v):=a0F b1l (e0V v) v
def d0N (v):=(b1m v).isSome
def d0O (v):=isR (b1m v)
def d0P (v):=xOf default (b1m v)
def d0Q (v):=yOf default (b1m v)
def f8n (x:Den g9B):OD g5x:=bif decide ((ByteArray.size x.1:Int)>10) then some (0,false,())else bif d0N ((x.1,0,0,()),()) then bif d0O ((x.1,0,0,()),()) then some (d0Q ((x.1,0,0,()),())).1 else let a:=d0P ((x.1,0,0,()),());bif decide (a.1.2.1>1000000000) then some (0,false,())else bif b4a a.1.2 then bif !a0G (a7t a.1.2).1 a.1.1 then some (0,false,())else some (a.1.2.1,true,())else none else none
def f8o (x):=(f8n x).isSome
def f3X (x):=(f8n x).getD (zero g5x)
def h2l:=(203,a0b g9B g5x f8o f3X)
noncomputable def g5y:=gE [g7d] Tryz.f203 (lps:=[(5,lmR e0U b1m)])
theorem d5A:EvR g5y (lp Tryz.f203 0) e0U b1l:=fun _ _=>by kernel_rfl
theorem f3Y:a0d Tryz.prog h2l:=a0y (a0C (s1 c6n)) (a1q Tryz.func203 rfl rfl rfl (by kernel_rfl) (a0f (by kernel_rfl) (s1 (lR d5A e0V)))) fun _=>by kernel_rfl
abbrev g9C:Ty:=.cons (.str) (.nil)
abbrev f3Z:Ty:=.cons (.int .i64) (.cons (.bool) (.nil))
abbrev c1w:Type:=(b3O×b3O×a4h)×Unit
abbrev e0W:Type:=(b3O×b3O×ty6)×Unit
abbrev e0X:Type:=(Int×d1V)×Unit
def e0Y:LR:=⟨[0,4,5,6],[],0,[0,4,5],[],⟨[(0,om5),(4,om5),(5,om0),(6,om0)],[],0,0⟩,⟨[(0,om5),(4,om5),(5,om0)],[],0,0⟩,⟨[(2,om0),(3,om2)],[],0,0⟩⟩
def a7V (f:c1w->Option (e0W⊕e0X)) (v:c1w):Option (e0W⊕e0X):=bif decide (v.1.2.2.2.1<(ByteArray.size v.1.2.1:Int)) then bif v.1.2.2.2.1==(wrap .i64 ((ByteArray.size v.1.2.1:Int)-4)) then f (((v.1.1,v.1.2.1,v.1.2.2.1,wrap .i64 (v.1.2.2.2.1+1),()),()))else bif decide (0<=v.1.2.2.2.1)&&decide (v.1.2.2.2.1<(ByteArray.size v.1.2.1:Int)) then bif decide (a0p v.1.2.1 v.1.2.2.2.1<48) then some (Sum.inr ((0,false,()),()))else bif decide (0<=v.1.2.2.2.1)&&decide (v.1.2.2.2.1<(ByteArray.size v.1.2.1:Int)) then bif decide (a0p v.1.2.1 v.1.2.2.2.1>57) then some (Sum.inr ((0,false,()),()))else bif decide (0<=v.1.2.2.2.1)&&decide (v.1.2.2.2.1<(ByteArray.size v.1.2.1:Int)) then f (((v.1.1,v.1.2.1,wrap .i64 ((wrap .i64 (v.1.2.2.1*10))+(wrap .i64 (wrap .u8 (a0p v.1.2.1 v.1.2.2.2.1-48)))),wrap .i64 (v.1.2.2.2.1+1),()),()))else none else none else none else some (Sum.inl ((v.1.1,v.1.2.1,v.1.2.2.1,()),()))
def c1x (v:c1w):Nat:=v.1.1.size+v.1.2.1.size+v.1.2.2.1.natAbs+v.1.2.2.2.1.natAbs+1000
def b1n (v:c1w):=a0F a7V (c1x v) v
def a9K (v):=(b1n v).isSome
def a9L (v):=isR (b1n v)
def a2m (v):=xOf default (b1n v)
def a9M (v):=yOf default (b1n v)
def f4a (x:Den g9C):OD f3Z:=let b:=(ByteArray.size x.1:Int);bif decide (b>0) then bif decide (0<=0)&&decide (0<b) then bif a0p x.1 0==45 then bif decide (0<=1)&&decide (1<=b)&&decide (b<=b) then let h:=ByteArray.extract x.1 (toNat 1) (toNat b);let e:=(ByteArray.size h:Int);bif decide (e<5) then some (0,false,())else bif decide (e>12) then some (0,false,())else let c:=wrap .i64 (e-4);bif decide (0<=c)&&decide (c<e) then bif a0p h c != 46 then some (0,false,())else let g:=((x.1,ByteArray.extract x.1 (toNat 1) (toNat b),0,0,()),());bif a9K g then bif a9L g then some (a9M g).1 else let a:=a2m g;bif decide ((ByteArray.size a.1.2.1:Int)<(ByteArray.size a.1.1:Int)) then let d:=wrap .i64 (0-a.1.2.2.1);bif K83 (d,()) then bif !a0G (G83 (d,())).1 a.1.1 then some (0,false,())else some (d,true,())else none else bif K83 a.1.2.2 then bif !a0G (G83 a.1.2.2).1 a.1.1 then some (0,false,())else some (a.1.2.2.1,true,())else none else none else none else none else bif decide (b<5) then some (0,false,())else bif decide (b>12) then some (0,false,())else let c:=wrap .i64 (b-4);bif decide (0<=c)&&decide (c<b) then bif a0p x.1 c != 46 then some (0,false,())else bif a9K ((x.1,x.1,0,0,()),()) then bif a9L ((x.1,x.1,0,0,()),()) then some (a9M ((x.1,x.1,0,0,()),())).1 else let a:=a2m ((x.1,x.1,0,0,()),());bif decide ((ByteArray.size a.1.2.1:Int)<(ByteArray.size a.1.1:Int)) then let d:=wrap .i64 (0-a.1.2.2.1);bif K83 (d,()) then bif !a0G (G83 (d,())).1 a.1.1 then some (0,false,())else some (d,true,())else none else bif K83 a.1.2.2 then bif !a0G (G83 a.1.2.2).1 a.1.1 then some (0,false,())else some (a.1.2.2.1,true,())else none else none else none else none else bif decide (b<5) then some (0,false,())else bif decide (b>12) then some (0,false,())else let c:=wrap .i64 (b-4);bif decide (0<=c)&&decide (c<b) then bif a0p x.1 c != 46 then some (0,false,())else bif a9K ((x.1,x.1,0,0,()),()) then bif a9L ((x.1,x.1,0,0,()),()) then some (a9M ((x.1,x.1,0,0,()),())).1 else let a:=a2m ((x.1,x.1,0,0,()),());bif decide ((ByteArray.size a.1.2.1:Int)<(ByteArray.size a.1.1:Int)) then let d:=wrap .i64 (0-a.1.2.2.1);bif K83 (d,()) then bif !a0G (G83 (d,())).1 a.1.1 then some (0,false,())else some (d,true,())else none else bif K83 a.1.2.2 then bif !a0G (G83 a.1.2.2).1 a.1.1 then some (0,false,())else some (a.1.2.2.1,true,())else none else none else none
def e5B (x):=(f4a x).isSome
def c3x (x):=(f4a x).getD (zero f3Z)
def h2m:=(207,a0b g9C f3Z e5B c3x)
noncomputable def g5z:=gE [m83] Tryz.f207 (lps:=[(8,lmR e0Y b1n)])
theorem d5B:EvR g5z (lp Tryz.f207 0) e0Y a7V:=fun _ _=>by kernel_rfl
theorem f4b:a0d Tryz.prog h2m:=a0y (a0C (s1 e2Q)) (a1q Tryz.func207 rfl rfl rfl (by kernel_rfl) (a0f (by kernel_rfl) (s1 (lR d5B c1x)))) fun _=>by kernel_rfl
abbrev g9D:Ty:=.cons (.int .i64) (.nil)
abbrev g5A:Ty:=.cons (.flt .f64) (.nil)
def f8p (x:Den g9D):OD g5A:=let a:=(x.1,-1000000000,1000000000,());bif K51 a then bif !(G51 a).1 then some (0,())else some (a0a .quo .f64 (nearest .f64 x.1) 4652007308841189376,())else none
def e5C (x):=(f8p x).isSome
def d0R (x):=(f8p x).getD (zero g5A)
def h2n:=(208,a0b g9D g5A e5C d0R)
theorem f4c:a0d Tryz.prog h2n:=fnE (s1 a4E) Tryz.func208
abbrev g9E:Ty:=.cons (.slice (.str)) (.nil)
abbrev f8q:Ty:=.cons (.flt .f64) (.cons (.flt .f64) (.cons (.bool) (.nil)))
def e7R (x:Den g9E):OD f8q:=let c:=(length x.1:Int);bif c != 3 then some (0,0,false,())else bif decide (0<=1)&&decide (1<c) then let d:=getD x.1 (toNat 1) (zero Ty.str);bif e5B (d,()) then bif decide (0<=2)&&decide (2<c) then let e:=getD x.1 (toNat 2) (zero Ty.str);bif e5B (e,()) then let a:=c3x (d,());bif e5C (a.1,()) then let b:=c3x (e,());bif e5C (b.1,()) then bif a.2.1 then some ((d0R (a.1,())).1,(d0R (b.1,())).1,b.2)else some ((d0R (a.1,())).1,(d0R (b.1,())).1,false,())else none else none else none else none else none else none
def e5D (x):=(e7R x).isSome
def a7f (x):=(e7R x).getD (zero f8q)
def h2o:=(155,a0b g9E f8q e5D a7f)
theorem e0Z:a0d Tryz.prog h2o:=fnE (s2 f4b f4c) Tryz.func155
abbrev g9F:Ty:=.cons (.slice (.str)) (.nil)
abbrev f8r:Ty:=.cons (.int .i64) (.nil)
def f8s (x:Den g9F):OD f8r:=bif (length x.1:Int) != 2 then some (-1,())else bif decide (0<=1)&&decide (1<(length x.1:Int)) then let a:=getD x.1 (toNat 1) (zero Ty.str);bif f8o (a,()) then let b:=f3X (a,());bif !b.2.1 then some (-1,())else some (b.1,())else none else none
def e7S (x):=(f8s x).isSome
def d2f (x):=(f8s x).getD (zero f8r)
def h2p:=(151,a0b g9F f8r e7S d2f)
theorem f4d:a0d Tryz.prog h2p:=fnE (s1 f3Y) Tryz.func151
abbrev g9G:Ty:=.cons (.int .i64) (.cons (.int .i64) (.cons (.int .i64) (.nil)))
abbrev g5B:Ty:=.cons (.int .i64) (.nil)
def e5E (x:Den g9G):OD g5B:=bif decide (x.2.2.1<x.2.1) then some (x.2.1,())else bif decide (x.1<x.2.1) then some (x.2.1,())else bif decide (x.1>x.2.2.1) then some (x.2.2)else some (x.1,())
def e7T (x):=(e5E x).isSome
def d2g (x):=(e5E x).getD (zero g5B)
def g9H:=(182,a0b g9G g5B e7T d2g)
theorem e1a:a0d Tryz.prog g9H:=fnE nS Tryz.func182
abbrev g9I:Ty:=.cons (S30) (.cons (.cpx .f64) (.nil))
abbrev g5C:Ty:=.cons (.int .i64) (.nil)
abbrev c1y:Type:=(a4X×Unit×Int×d1W)×b3P
abbrev e1b:Type:=c5o
def e1c:LX:=⟨[1,2,5,6,7],[],0,[5],[],⟨[(1,om6),(2,om1),(5,om0),(6,d3c),(7,om0)],c2C,1,0⟩,⟨[(5,om0)],[],0,0⟩⟩
def b5E (f:c1y->Option (e1b)) (v:c1y):Option (e1b):=bif decide (v.1.2.2.2.2.1<(length v.2.1.1:Int)) then bif decide (0<=v.1.2.2.2.2.1)&&decide (v.1.2.2.2.2.1<(length v.2.1.1:Int)) then let c:=getD v.2.1.1 (toNat v.1.2.2.2.2.1) (zero a1r);let a:=a0a .sub .f64 c.1.1 v.1.1.1;let b:=a0a .sub .f64 c.1.2 v.1.1.2;bif d3w ((a,b),(a,b),()) then bif decide (v.1.2.2.1<0) then f (((v.1.1,(),v.1.2.2.2.2.1,(d1Y ((a,b),(a,b),())).1,wrap .i64 (v.1.2.2.2.2.1+1),()),v.2))else let d:=d1Y ((a,b),(a,b),());bif flt .f64 d.1 v.1.2.2.2.1 then f (((v.1.1,(),v.1.2.2.2.2.1,d.1,wrap .i64 (v.1.2.2.2.2.1+1),()),v.2))else f (((v.1.1,(),v.1.2.2.1,v.1.2.2.2.1,wrap .i64 (v.1.2.2.2.2.1+1),()),v.2))else none else none else some ((v.1.2.2.1,()),())
def d0S (v:c1y):Nat:=v.1.2.2.1.natAbs+v.1.2.2.2.2.1.natAbs+v.2.1.1.length+v.2.1.2.1.length+1000
def c1z (v:c1y):=a0F b5E (d0S v) v
def d0T (v):=(c1z v).isSome
def d0U (v):=(c1z v).getD default
def f4e (x:Den g9I):OD g5C:=bif e2M (x.1,()) then bif !(e2N (x.1,())).1 then some (-1,())else bif K96 x.2 then bif !(G96 x.2).1 then some (-1,())else let a:=((x.2.1,(),-1,0,0,()),x.1,());bif d0T a then some (d0U a).1 else none else none else none
def g5D (x):=(f4e x).isSome
def g5E (x):=(f4e x).getD (zero g5C)
def h2q:=(268,a0b g9I g5C g5D g5E)
noncomputable def g5F:=gE [g0c,m96,g0z] Tryz.f268 (lps:=[(6,lmX e1c c1z)])
theorem d5C:EvX g5F (lp Tryz.f268 0) e1c b5E:=fun _ _=>by kernel_rfl
theorem f4f:a0d Tryz.prog h2q:=a0y (a0C (s3 c5M b6D c6p)) (a1q Tryz.func268 rfl rfl rfl (by kernel_rfl) (a0f (by kernel_rfl) (s1 (lX d5C d0S)))) fun _=>by kernel_rfl
abbrev g9J:Ty:=.cons (.int .i64) (.cons (.int .i64) (.nil))
abbrev g5G:Ty:=.cons (.int .i64) (.nil)
def f8t (x:Den g9J):OD g5G:=bif decide (x.1>x.2.1) then some (wrap .i64 (x.1-x.2.1),())else some (wrap .i64 (x.2.1-x.1),())
def f8u (x):=(f8t x).isSome
def f8v (x):=(f8t x).getD (zero g5G)
def g9K:=(275,a0b g9J g5G f8u f8v)
theorem f4g:a0d Tryz.prog g9K:=fnE nS Tryz.func275
abbrev g9L:Ty:=.cons (S30) (.cons (.int .i64) (.nil))
abbrev g5H:Ty:=.cons (.int .i64) (.nil)
abbrev c1A:Type:=(Int×Unit×a4h)×b3P
abbrev e1d:Type:=c5o
def e1e:LX:=⟨[1,2,5,6],[],0,[5],[],⟨[(1,om0),(2,om1),(5,om0),(6,om0)],c2C,1,0⟩,⟨[(5,om0)],[],0,0⟩⟩
def b5F (f:c1A->Option (e1d)) (v:c1A):Option (e1d):=bif decide (v.1.2.2.2.1<(length v.2.1.2.1:Int)) then bif decide (0<=v.1.2.2.2.1)&&decide (v.1.2.2.2.1<(length v.2.1.2.1:Int)) then let a:=getD v.2.1.2.1 (toNat v.1.2.2.2.1) (zero (Ty.int IntKind.i64));bif f8u (a,v.1.1,()) then bif decide (0<=v.1.2.2.1)&&decide (v.1.2.2.1<(length v.2.1.2.1:Int)) then let b:=getD v.2.1.2.1 (toNat v.1.2.2.1) (zero (Ty.int IntKind.i64));bif f8u (b,v.1.1,()) then bif decide ((f8v (a,v.1.1,())).1<(f8v (b,v.1.1,())).1) then f (((v.1.1,(),v.1.2.2.2.1,wrap .i64 (v.1.2.2.2.1+1),()),v.2))else f (((v.1.1,(),v.1.2.2.1,wrap .i64 (v.1.2.2.2.1+1),()),v.2))else none else none else none else none else some ((v.1.2.2.1,()),())
def d0V (v:c1A):Nat:=v.1.1.natAbs+v.1.2.2.1.natAbs+v.1.2.2.2.1.natAbs+v.2.1.1.length+v.2.1.2.1.length+1000
def c1B (v:c1A):=a0F b5F (d0V v) v
def d0W (v):=(c1B v).isSome
def d0X (v):=(c1B v).getD default
def f4h (x:Den g9L):OD g5H:=bif e2M (x.1,()) then bif !(e2N (x.1,())).1 then some (-1,())else bif K51 (x.2.1,0,10000000,()) then bif !(G51 (x.2.1,0,10000000,())).1 then some (-1,())else let a:=((x.2.1,(),0,1,()),x.1,());bif d0W a then some (d0X a).1 else none else none else none
def g5I (x):=(f4h x).isSome
def g5J (x):=(f4h x).getD (zero g5H)
def h2r:=(269,a0b g9L g5H g5I g5J)
noncomputable def g5K:=gE [g0c,m51,g9K] Tryz.f269 (lps:=[(5,lmX e1e c1B)])
theorem d5D:EvX g5K (lp Tryz.f269 0) e1e b5F:=fun _ _=>by kernel_rfl
theorem f4i:a0d Tryz.prog h2r:=a0y (a0C (s3 c5M a4E f4g)) (a1q Tryz.func269 rfl rfl rfl (by kernel_rfl) (a0f (by kernel_rfl) (s1 (lX d5D d0V)))) fun _=>by kernel_rfl
abbrev g9M:Ty:=.cons (a1r) (.cons (.int .i64) (.nil))
abbrev g5L:Ty:=.cons (.cpx .f32) (.cons (.bool) (.nil))
def f8w (x:Den g9M):OD g5L:=bif e9l (x.1,()) then bif !(e9m (x.1,())).1 then some ((0,0),false,())else bif e7T (x.2.1,-21600,21600,()) then let b:=wrap .i64 ((d2g (x.2.1,-21600,21600,())).1+21600);bif Int.tmod b 3600==0 then let a:=wrap .i64 (Int.tdiv b 3600);bif decide (0<=a)&&decide (a<(↑13:Int)) then some (getD [x.1.2.1.1,x.1.2.1.2.1,x.1.2.1.2.2.1,x.1.2.1.2.2.2.1,x.1.2.1.2.2.2.2.1,x.1.2.1.2.2.2.2.2.1,x.1.2.1.2.2.2.2.2.2.1,x.1.2.1.2.2.2.2.2.2.2.1,x.1.2.1.2.2.2.2.2.2.2.2.1,x.1.2.1.2.2.2.2.2.2.2.2.2.1,x.1.2.1.2.2.2.2.2.2.2.2.2.2.1,x.1.2.1.2.2.2.2.2.2.2.2.2.2.2.1,x.1.2.1.2.2.2.2.2.2.2.2.2.2.2.2.1] (toNat a) (0,0),true,())else none else let a:=wrap .i64 (Int.tdiv b 3600);bif decide (0<=a)&&decide (a<(↑13:Int)) then let g:=wrap .i64 (a+1);bif decide (0<=g)&&decide (g<(↑13:Int)) then let c:=getD [x.1.2.1.1,x.1.2.1.2.1,x.1.2.1.2.2.1,x.1.2.1.2.2.2.1,x.1.2.1.2.2.2.2.1,x.1.2.1.2.2.2.2.2.1,x.1.2.1.2.2.2.2.2.2.1,x.1.2.1.2.2.2.2.2.2.2.1,x.1.2.1.2.2.2.2.2.2.2.2.1,x.1.2.1.2.2.2.2.2.2.2.2.2.1,x.1.2.1.2.2.2.2.2.2.2.2.2.2.1,x.1.2.1.2.2.2.2.2.2.2.2.2.2.2.1,x.1.2.1.2.2.2.2.2.2.2.2.2.2.2.2.1] (toNat a) (0,0);let d:=getD [x.1.2.1.1,x.1.2.1.2.1,x.1.2.1.2.2.1,x.1.2.1.2.2.2.1,x.1.2.1.2.2.2.2.1,x.1.2.1.2.2.2.2.2.1,x.1.2.1.2.2.2.2.2.2.1,x.1.2.1.2.2.2.2.2.2.2.1,x.1.2.1.2.2.2.2.2.2.2.2.1,x.1.2.1.2.2.2.2.2.2.2.2.2.1,x.1.2.1.2.2.2.2.2.2.2.2.2.2.1,x.1.2.1.2.2.2.2.2.2.2.2.2.2.2.1,x.1.2.1.2.2.2.2.2.2.2.2.2.2.2.2.1] (toNat g) (0,0);let e:=a0a .quo .f32 (nearest .f32 (Int.tmod b 3600)) 1163984896;bif e7k (c.1,d.1,e,()) then bif e7k (c.2,d.2,e,()) then some (((e7l (c.1,d.1,e,())).1,(e7l (c.2,d.2,e,())).1),true,())else none else none else none else none else none else none
def g5M (x):=(f8w x).isSome
def g5N (x):=(f8w x).getD (zero g5L)
def h2s:=(270,a0b g9M g5L g5M g5N)
theorem f4j:a0d Tryz.prog h2s:=fnE (s3 d6W e1a c6s) Tryz.func270
abbrev g9N:Ty:=.cons (S30) (.cons (.cpx .f64) (.cons (.int .i64) (.nil)))
abbrev g5O:Ty:=.cons (.cpx .f32) (.cons (.bool) (.nil))
def f8x (x:Den g9N):OD g5O:=bif g5D (x.1,x.2.1,()) then bif g5I (x.1,x.2.2) then let a:=g5E (x.1,x.2.1,());bif decide (a.1<0) then some ((0,0),false,())else let b:=g5J (x.1,x.2.2);bif decide (b.1<0) then some ((0,0),false,())else bif decide (0<=a.1)&&decide (a.1<(length x.1.1:Int)) then bif decide (0<=b.1)&&decide (b.1<(length x.1.2.1:Int)) then let c:=getD x.1.1 (toNat a.1) (zero a1r);let d:=wrap .i64 (x.2.2.1-(getD x.1.2.1 (toNat b.1) (zero (Ty.int IntKind.i64))));bif g5M (c,d,()) then some (g5N (c,d,()))else none else none else none else none else none
def f8y (x):=(f8x x).isSome
def d5E (x):=(f8x x).getD (zero g5O)
def g9O:=(248,a0b g9N g5O f8y d5E)
theorem f4k:a0d Tryz.prog g9O:=fnE (s3 f4f f4i f4j) Tryz.func248
abbrev g9P:Ty:=.cons (.int .i64) (.cons (.flt .f32) (.cons (.cpx .f32) (.nil)))
abbrev g5P:Ty:=.cons (.cpx .f32) (.cons (.bool) (.nil))
def f8z (x:Den g9P):OD g5P:=bif e7p (x.1,x.2.1,()) then let a:=e2Y (x.1,x.2.1,());bif !a.2.1 then some ((0,0),false,())else bif K52 x.2.2 then bif !(G52 x.2.2).1 then some ((0,0),false,())else some ((a0a .add .f32 a.1.1 x.2.2.1.1,a0a .add .f32 a.1.2 x.2.2.1.2),true,())else none else none
def f8A (x):=(f8z x).isSome
def e5F (x):=(f8z x).getD (zero g5P)
def g9Q:=(249,a0b g9P g5P f8A e5F)
theorem f4l:a0d Tryz.prog g9Q:=fnE (s2 d7P b2g) Tryz.func249
abbrev g9R:Ty:=.cons (.cpx .f64) (.cons (.cpx .f32) (.cons (.int .i64) (.nil)))
abbrev g5Q:Ty:=.cons (.cpx .f64) (.cons (.bool) (.nil))
def f8B (x:Den g9R):OD g5Q:=bif K96 (x.1,()) then bif !(G96 (x.1,())).1 then some ((0,0),false,())else bif K52 (x.2.1,()) then bif !(G52 (x.2.1,())).1 then some ((0,0),false,())else bif K51 (x.2.2.1,0,100000,()) then bif !(G51 (x.2.2.1,0,100000,())).1 then some ((0,0),false,())else let c:=nearest .f64 x.2.2.1;let a:=a0a .add .f64 x.1.1 (a0a .mul .f64 (a0x .f32 .f64 x.2.1.1).2 c);let b:=a0a .add .f64 x.1.2 (a0a .mul .f64 (a0x .f32 .f64 x.2.1.2).2 c);bif K96 ((a,b),()) then bif !(G96 ((a,b),())).1 then some ((0,0),false,())else some ((a,b),true,())else none else none else none else none
def f8C (x):=(f8B x).isSome
def f4m (x):=(f8B x).getD (zero g5Q)
def g9S:=(250,a0b g9R g5Q f8C f4m)
theorem f4n:a0d Tryz.prog g9S:=fnE (s3 b6D b2g a4E) Tryz.func250
abbrev g9T:Ty:=.cons (a2R) (.nil)
abbrev g5R:Ty:=.cons (.bool) (.nil)
def f8D (x:Den g9T):OD g5R:=bif fgt .f32 x.1.2.1 0||feq .f32 x.1.2.1 0 then bif flt .f32 x.1.2.1 1112014848||feq .f32 x.1.2.1 1112014848 then bif K51 (x.1.2.2.1,0,100000,()) then some (G51 (x.1.2.2.1,0,100000,()))else none else some (false,())else some (false,())
def f8E (x):=(f8D x).isSome
def f8F (x):=(f8D x).getD (zero g5R)
def g9U:=(267,a0b g9T g5R f8E f8F)
theorem f4o:a0d Tryz.prog g9U:=fnE (s1 a4E) Tryz.func267
abbrev g9V:Ty:=.cons (.slice (a2R)) (.nil)
abbrev g5S:Ty:=.cons (.bool) (.nil)
abbrev c1C:Type:=(c5n×ty6)×Unit
abbrev e1f:Type:=(c5n×Unit)×Unit
abbrev e1g:Type:=ty9
def e1h:LR:=⟨[0,3],[],0,[0],[],⟨[(0,om8),(3,om0)],[],0,0⟩,⟨[(0,om8)],[],0,0⟩,⟨a9h,[],0,0⟩⟩
def b5G (f:c1C->Option (e1f⊕e1g)) (v:c1C):Option (e1f⊕e1g):=let a:=v.1.2.1<(length v.1.1:Int);bif decide a then bif decide (0<=v.1.2.1)&&decide a then let b:=getD v.1.1 (toNat v.1.2.1) (zero a2R);bif f8E (b,()) then bif !(f8F (b,())).1 then some (Sum.inr ((false,()),()))else f (((v.1.1,wrap .i64 (v.1.2.1+1),()),()))else none else none else some (Sum.inl ((v.1.1,()),()))
def d0Y (v:c1C):Nat:=v.1.1.length+v.1.2.1.natAbs+1000
def a9N (v:c1C):=a0F b5G (d0Y v) v
def b7D (v):=(a9N v).isSome
def b7E (v):=isR (a9N v)
def b7F (v):=xOf default (a9N v)
def b7G (v):=yOf default (a9N v)
def f8G (x:Den g9V):OD g5S:=bif b7D ((x.1,0,()),()) then bif b7E ((x.1,0,()),()) then some (b7G ((x.1,0,()),())).1 else some (decide ((↑(length (b7F ((x.1,0,()),())).1.1):Int)<=50),())else none
def f8H (x):=(f8G x).isSome
def f8I (x):=(f8G x).getD (zero g5S)
def g9W:=(247,a0b g9V g5S f8H f8I)
noncomputable def g5T:=gE [g9U] Tryz.f247 (lps:=[(2,lmR e1h a9N)])
theorem d5F:EvR g5T (lp Tryz.f247 0) e1h b5G:=fun _ _=>by kernel_rfl
theorem f4p:a0d Tryz.prog g9W:=a0y (a0C (s1 f4o)) (a1q Tryz.func247 rfl rfl rfl (by kernel_rfl) (a0f (by kernel_rfl) (s1 (lR d5F d0Y)))) fun _=>by kernel_rfl
abbrev g9X:Ty:=.cons (.cpx .f64) (.cons (.int .i64) (.cons (.slice (a2R)) (.cons (S30) (.nil))))
abbrev g5U:Ty:=.cons (.cpx .f64) (.cons (.bool) (.nil))
abbrev c1D:Type:=(a4X×Int×c5n×Unit×a4h)×b3P
abbrev e1i:Type:=(a4X×Int×c5n×b2d)×b3P
abbrev e1j:Type:=f6g
def e1k:LR:=⟨[0,1,2,7,10,11],[],2,[0,1,2,7,10],[],⟨[(0,om6),(1,om0),(2,om8),(7,om1),(10,om0),(11,om0)],c2C,1,0⟩,⟨[(0,om6),(1,om0),(2,om8),(7,om1),(10,om0)],c2C,1,0⟩,⟨[(8,om6),(9,om2)],[],0,0⟩⟩
def b5H (f:c1D->Option (e1i⊕e1j)) (v:c1D):Option (e1i⊕e1j):=bif decide (v.1.2.2.2.2.2.1>0) then let e:=(v.1.2.2.2.2.2.1,0,600,());bif e7T e then bif f8y (v.2.1,v.1.1,v.1.2.1,()) then let c:=d5E (v.2.1,v.1.1,v.1.2.1,());bif !c.2.1 then some (Sum.inr (((0,0),false,()),()))else let g:=decide (0<=v.1.2.2.2.2.1)&&decide (v.1.2.2.2.2.1<(length v.1.2.2.1:Int));bif g then bif g then let a:=getD v.1.2.2.1 (toNat v.1.2.2.2.2.1) (zero a2R);bif f8A (a.1,a.2.1,c.1,()) then let d:=e5F (a.1,a.2.1,c.1,());bif !d.2.1 then some (Sum.inr (((0,0),false,()),()))else let b:=d2g e;bif f8C (v.1.1,d.1,b) then let h:=f4m (v.1.1,d.1,b);bif !h.2.1 then some (Sum.inr (((0,0),false,()),()))else f (((h.1,wrap .i64 (v.1.2.1+b.1),v.1.2.2.1,(),v.1.2.2.2.2.1,wrap .i64 (v.1.2.2.2.2.2.1-b.1),()),v.2))else none else none else none else none else none else none else some (Sum.inl ((v.1.1,v.1.2.1,v.1.2.2.1,(),v.1.2.2.2.2.1,()),v.2))
def c1E (v:c1D):Nat:=v.1.2.1.natAbs+v.1.2.2.1.length+v.1.2.2.2.2.1.natAbs+v.1.2.2.2.2.2.1.natAbs+v.2.1.1.length+v.2.1.2.1.length+1000
def b1o (v:c1D):=a0F b5H (c1E v) v
def b7H (v):=(b1o v).isSome
def b7I (v):=isR (b1o v)
def a5n (v):=xOf default (b1o v)
def b7J (v):=yOf default (b1o v)
abbrev c1F:Type:=(a4X×Int×c5n×b2d)×b3P
abbrev d0Z:Type:=f6h
abbrev d1a:Type:=f6g
def e1l:LR:=⟨[0,1,2,7,10],[],0,[0],[],⟨[(0,om6),(1,om0),(2,om8),(7,om1),(10,om0)],c2C,1,0⟩,⟨[(0,om6)],[],0,0⟩,⟨[(8,om6),(9,om2)],[],0,0⟩⟩
def d1b (f:c1F->Option (d0Z⊕d1a)) (v:c1F):Option (d0Z⊕d1a):=let c:=v.1.2.2.2.2.1<(length v.1.2.2.1:Int);bif decide c then bif decide (0<=v.1.2.2.2.2.1)&&decide c then let d:=getD v.1.2.2.1 (toNat v.1.2.2.2.2.1) (zero a2R);let b:=((v.1.1,v.1.2.1,v.1.2.2.1,(),v.1.2.2.2.2.1,d.2.2),v.2);bif b7H b then bif b7I b then some (Sum.inr (b7J b))else let a:=a5n b;f (((a.1.1,a.1.2.1,a.1.2.2.1,(),wrap .i64 (a.1.2.2.2.2.1+1),()),a.2))else none else none else some (Sum.inl ((v.1.1,()),()))
def b5I (v:c1F):Nat:=v.1.2.1.natAbs+v.1.2.2.1.length+v.1.2.2.2.2.1.natAbs+v.2.1.1.length+v.2.1.2.1.length+1000
def a9O (v:c1F):=a0F d1b (b5I v) v
def b7K (v):=(a9O v).isSome
def b7L (v):=isR (a9O v)
def b7M (v):=xOf default (a9O v)
def b7N (v):=yOf default (a9O v)
def f4q (x:Den g9X):OD g5U:=bif K96 (x.1,()) then bif !(G96 (x.1,())).1 then some ((0,0),false,())else bif f8H (x.2.2.1,()) then bif !(f8I (x.2.2.1,())).1 then some ((0,0),false,())else let a:=((x.1,x.2.1,x.2.2.1,(),0,()),x.2.2.2);bif b7K a then bif b7L a then some (b7N a).1 else some ((b7M a).1.1,true,())else none else none else none
def f4r (x):=(f4q x).isSome
def d5G (x):=(f4q x).getD (zero g5U)
def h2t:=(209,a0b g9X g5U f4r d5G)
noncomputable def f4s:=gE [m96,g9W,g9H,g9O,g9Q,g9S] Tryz.f209 (lps:=[(4,lmR e1l a9O),(7,lmR e1k b1o)])
theorem d5H:EvR f4s (lp Tryz.f209 0) e1l d1b:=fun _ _=>by kernel_rfl
theorem d5I:EvR f4s (lp Tryz.f209 1) e1k b5H:=fun _ _=>by kernel_rfl
theorem f4t:a0d Tryz.prog h2t:=a0y (a0C (s6 b6D f4p e1a f4k f4l f4n)) (a1q Tryz.func209 rfl rfl rfl (by kernel_rfl) (a0f (by kernel_rfl) (s2 (lR d5H b5I) (lR d5I c1E)))) fun _=>by kernel_rfl
abbrev g9Y:Ty:=.cons (S46) (.nil)
abbrev f8J:Ty:=.cons (S46) (.nil)
def f8K (x:Den g9Y):OD f8J:=bif decide (x.1.2.2.2.2.2.1<0) then some (x)else bif K54 x then let a:=G54 x;bif !a.2.1 then some ((x.1.1,x.1.2.1,x.1.2.2.1,x.1.2.2.2.1,x.1.2.2.2.2.1,-1,x.1.2.2.2.2.2.2),())else let b:=(x.1.1.2.2.1,x.1.2.2.2.2.2.1,a.1,());bif f8h b then some ((x.1.1,x.1.2.1,x.1.2.2.1,x.1.2.2.2.1,x.1.2.2.2.2.1,(f8i b).1,x.1.2.2.2.2.2.2),())else none else none
def d2h (x):=(f8K x).isSome
def d2i (x):=(f8K x).getD (zero f8J)
def h2u:=(152,a0b g9Y f8J d2h d2i)
theorem e1m:a0d Tryz.prog h2u:=fnE (s2 e2Z f3T) Tryz.func152
abbrev A87:Ty:=.cons (.str) (.nil)
abbrev R87:Ty:=.cons (.slice (.str)) (.cons (.bool) (.nil))
abbrev d5J:Type:=(b3O×Unit×a4h)×d6G
abbrev f4u:Type:=a4r×d6G
abbrev f4v:Type:=(c5m×d1V)×Unit
def f4w:LR:=⟨[0,4,5,6],[],0,[4],[],⟨[(0,om5),(4,on0),(5,om0),(6,om0)],[(0,.arr (.str))],1,0⟩,⟨[(4,on0)],[(0,.arr (.str))],1,0⟩,⟨[(2,d3d),(3,om2)],[],0,0⟩⟩
def a6l (f:d5J->Option (f4u⊕f4v)) (v:d5J):Option (f4u⊕f4v):=bif decide (v.1.2.2.2.1<=(ByteArray.size v.1.1:Int)) then bif decide (v.1.2.2.2.1<(ByteArray.size v.1.1:Int)) then bif decide (0<=v.1.2.2.2.1)&&decide (v.1.2.2.2.1<(ByteArray.size v.1.1:Int)) then bif decide (a0p v.1.1 v.1.2.2.2.1<32) then some (Sum.inr ((replicate 0 (zero Ty.str),false,()),()))else bif decide (0<=v.1.2.2.2.1)&&decide (v.1.2.2.2.1<(ByteArray.size v.1.1:Int)) then bif decide (a0p v.1.1 v.1.2.2.2.1>126) then some (Sum.inr ((replicate 0 (zero Ty.str),false,()),()))else bif decide (v.1.2.2.2.1<(ByteArray.size v.1.1:Int)) then bif decide (0<=v.1.2.2.2.1)&&decide (v.1.2.2.2.1<(ByteArray.size v.1.1:Int)) then bif a0p v.1.1 v.1.2.2.2.1 != 32 then f (((v.1.1,(),v.1.2.2.1,wrap .i64 (v.1.2.2.2.1+1),()),v.2))else bif decide (v.1.2.2.1<v.1.2.2.2.1) then bif decide (0<=v.1.2.2.1)&&decide (v.1.2.2.1<=v.1.2.2.2.1)&&decide (v.1.2.2.2.1<=(ByteArray.size v.1.1:Int)) then let a:=set (replicate 1 (zero Ty.str)) 0 (ByteArray.extract v.1.1 (toNat v.1.2.2.1) (toNat v.1.2.2.2.1));bif a0k (length v.2.1+length a) then let b:=wrap .i64 (v.1.2.2.2.1+1);f (((v.1.1,(),b,b,()),v.2.1++a,()))else none else none else let a:=wrap .i64 (v.1.2.2.2.1+1);f (((v.1.1,(),a,a,()),v.2))else none else bif decide (v.1.2.2.1<v.1.2.2.2.1) then bif decide (0<=v.1.2.2.1)&&decide (v.1.2.2.1<=v.1.2.2.2.1)&&decide (v.1.2.2.2.1<=(ByteArray.size v.1.1:Int)) then let a:=set (replicate 1 (zero Ty.str)) 0 (ByteArray.extract v.1.1 (toNat v.1.2.2.1) (toNat v.1.2.2.2.1));bif a0k (length v.2.1+length a) then let b:=wrap .i64 (v.1.2.2.2.1+1);f (((v.1.1,(),b,b,()),v.2.1++a,()))else none else none else let a:=wrap .i64 (v.1.2.2.2.1+1);f (((v.1.1,(),a,a,()),v.2))else none else none else bif decide (v.1.2.2.2.1<(ByteArray.size v.1.1:Int)) then bif decide (0<=v.1.2.2.2.1)&&decide (v.1.2.2.2.1<(ByteArray.size v.1.1:Int)) then bif a0p v.1.1 v.1.2.2.2.1 != 32 then f (((v.1.1,(),v.1.2.2.1,wrap .i64 (v.1.2.2.2.1+1),()),v.2))else bif decide (v.1.2.2.1<v.1.2.2.2.1) then bif decide (0<=v.1.2.2.1)&&decide (v.1.2.2.1<=v.1.2.2.2.1)&&decide (v.1.2.2.2.1<=(ByteArray.size v.1.1:Int)) then let a:=set (replicate 1 (zero Ty.str)) 0 (ByteArray.extract v.1.1 (toNat v.1.2.2.1) (toNat v.1.2.2.2.1));bif a0k (length v.2.1+length a) then let b:=wrap .i64 (v.1.2.2.2.1+1);f (((v.1.1,(),b,b,()),v.2.1++a,()))else none else none else let a:=wrap .i64 (v.1.2.2.2.1+1);f (((v.1.1,(),a,a,()),v.2))else none else bif decide (v.1.2.2.1<v.1.2.2.2.1) then bif decide (0<=v.1.2.2.1)&&decide (v.1.2.2.1<=v.1.2.2.2.1)&&decide (v.1.2.2.2.1<=(ByteArray.size v.1.1:Int)) then let a:=set (replicate 1 (zero Ty.str)) 0 (ByteArray.extract v.1.1 (toNat v.1.2.2.1) (toNat v.1.2.2.2.1));bif a0k (length v.2.1+length a) then let b:=wrap .i64 (v.1.2.2.2.1+1);f (((v.1.1,(),b,b,()),v.2.1++a,()))else none else none else let a:=wrap .i64 (v.1.2.2.2.1+1);f (((v.1.1,(),a,a,()),v.2))else some (Sum.inl (((),()),v.2))
def d5K (v:d5J):Nat:=v.1.1.size+v.1.2.2.1.natAbs+v.1.2.2.2.1.natAbs+v.2.1.length+1000
def c3y (v:d5J):=a0F a6l (d5K v) v
def e1n (v):=(c3y v).isSome
def e1o (v):=isR (c3y v)
def e1p (v):=xOf default (c3y v)
def e1q (v):=yOf default (c3y v)
def F87 (x:Den A87):OD R87:=bif decide ((ByteArray.size x.1:Int)>600) then some (replicate 0 (zero Ty.str),false,())else let a:=((x.1,(),0,0,()),replicate 0 (zero Ty.str),());bif e1n a then bif e1o a then some (e1q a).1 else let b:=e1p a;bif decide ((length b.2.1:Int)>24) then some (replicate 0 (zero Ty.str),false,())else some (b.2.1,true,())else none
def K87 (x):=(F87 x).isSome
def G87 (x):=(F87 x).getD (zero R87)
def m87:=(87,a0b A87 R87 K87 G87)
noncomputable def h2v:=gE [] Tryz.f87 (lps:=[(6,lmR f4w c3y)]) (rown:=[.frz 2])
theorem e5G:EvR h2v (lp Tryz.f87 0) f4w a6l:=fun _ _=>by kernel_rfl
theorem g5V:a0d Tryz.prog m87:=a0y (a0C nS) (a1q Tryz.func87 rfl rfl rfl (by kernel_rfl) (a0f (by kernel_rfl) (s1 (lR e5G d5K)))) fun _=>by kernel_rfl
theorem e5H (t:Den S30) (p:Nat×Nat) (h:a4I t):f4e (t,p,())=some (a4l t p,()):=by
 have i:e7e (t,())=some (a3B t,()):=b7l t h;have j:F96 (p,())=some (a3G p,()):=a7P p;obtain⟨b,c,_⟩:=t;obtain⟨d,r⟩:=h;have d:b.length<=21:=d;have o:c1z ((p,(),-1,0,0,()),(b,c,()),())=some (d4Y b p):=by
  refine(b2a (q:=b5E) (fun k (a:Int×Nat)=>((p,(),a.1,a.2,(k:Int),()),(b,c,()),())) b.length (a2A b p) (fun a=>((a.1,()),())) ?_ ?_ _ b.length 0 (-1,0) (by omega) ?_:_)
  ·intro k a f n;unfold b5E;have e:decide ((k:Int)<(b.length:Int))=true:=by simpa using n
   have g:decide (0<=(k:Int))=true:=by simp
   have m:getD b k (zero a1r)=a3K b k:=rfl;have l:e7g ((a0a .sub .f64 (a3K b k).fst.1 p.1,a0a .sub .f64 (a3K b k).fst.2 p.2),(a0a .sub .f64 (a3K b k).fst.1 p.1,a0a .sub .f64 (a3K b k).fst.2 p.2),())=some (b5m (a3K b k).fst p,()):=rfl;unfold a2A;simp only[a1Z k (by omega),e,g,Bool.and_self,cond_true,toNat_natCast,m,d3w,d1Y,l,isSome_some,getD_some];cases decide (a.1<0)
   ·cases flt .f64 (b5m (a3K b k).fst p) a.2<;>rfl
   ·rfl
  ·intro a f;simp[b5E]
  ·simp only[d0S];omega
 unfold f4e a4l;simp only[e2M,e2N,i,K96,G96,j,isSome_some,getD_some,cond_true,d0T,d0U,o];cases a3B (b,c,())
 ·rfl
 ·cases a3G p<;>rfl
theorem e5I (g:Den S30) (t:Int) (h:a4I g):f4h (g,t,())=some (hiV g t,()):=by
 have y:e7e (g,())=some (a3B g,()):=b7l g h;have z:F51 (t,0,10000000,())=some (a0l t 0 10000000,()):=a1F _ _ _;obtain⟨n,c,_⟩:=g;obtain⟨_,o⟩:=h;have o:c.length<=6:=o;unfold f4h hiV;simp only[e2M,e2N,y,K51,G51,z,isSome_some,getD_some,cond_true];cases hb:a3B (n,c,())
 ·rfl
 cases ht:a0l t 0 10000000
 ·rfl
 obtain⟨_,E,s⟩:=a7a hb;simp only[a0l,and_eq_true,decide_eq_true_eq]at ht;have p:∀a:Int,0<=a /\ a<=10000000->f8t (a,t,())=some (a3V a t,()):=by
  intro a r;unfold f8t a3V;simp only[];rw[w64 (x:=a-t) (by omega) (by omega),w64 (x:=t-a) (by omega) (by omega)];cases decide (a>t)<;>rfl
 have d:hiR c t=a1w (a3P c t) (fun b=>((b,()),())) 1 (c.length-1) 0:=by
  unfold hiR;obtain⟨m,D⟩:∃m,c.length=m+1:=⟨c.length-1,by omega⟩;rw[D];simp only[a1w];unfold a3P;have:decide (a3V (a3h c 0) t<a3V (a3h c (0:Int).toNat) t)=false:=by simp
  rw[this];rfl
 have C:c1B ((t,(),0,1,()),(n,c,()),())=some (hiR c t):=by
  rw[d];refine(a9a (q:=b5F) (fun k (b:Int)=>((t,(),b,(k:Int),()),(n,c,()),())) c.length (a3P c t) (fun b=>((b,()),())) (fun k b=>0<=b /\ b<(c.length:Int)) ?_ ?_ ?_ _ (c.length-1) 1 0 (by omega) ?_ ⟨Int.le_refl 0,by omega⟩:_)
  ·intro k b f l e;unfold b5F;have u:decide ((k:Int)<(c.length:Int))=true:=by simpa using l
   have v:decide (0<=(k:Int))=true:=by simp
   have w:(decide (0<=b)&&decide (b<(c.length:Int)))=true:=by simp only[and_eq_true,decide_eq_true_eq];exact e
   have r:∀i,getD c i (zero (Ty.int IntKind.i64))=a3h c i:=fun _=>rfl
   have A:=p _ (s k l);have B:=p _ (s b.toNat (by omega));unfold a3P;simp only[a1Z k (by omega),u,v,w,Bool.and_self,cond_true,toNat_natCast,r,f8u,f8v,A,B,isSome_some,getD_some];cases decide (a3V (a3h c k) t<a3V (a3h c b.toNat) t)<;>rfl
  ·intro k b b' l e j;unfold a3P at j;have j:=Sum.inl.inj j;subst j;cases decide (a3V (a3h c k) t<a3V (a3h c b.toNat) t)with
   |true=>exact⟨by show(0:Int)<=(k:Int);omega,by show(k:Int)<_;omega⟩
   |false=>exact e
  ·intro b f _;simp[b5F]
  ·simp only[d0V];omega
 simp only[d0W,d0X,C,isSome_some,getD_some,cond_true,Bool.not_true,cond_false,Bool.and_self]
theorem e5J (x:Int):e5E (x,-21600,21600,())=some (a2Z x,()):=by
 unfold e5E a2Z a3a;have h:decide ((21600:Int) < -21600)=false:=by decide
 simp only[h,cond_false];cases decide (x < -21600)
 ·simp only[cond_false];by_cases a:x>21600
  ·rw[show decide (x>21600)=true by simpa using a,cond_true,if_pos (by omega)]
  ·rw[show decide (x>21600)=false by simpa using a,cond_false,if_neg (by omega)]
 ·rfl
theorem e5K (s:Den a1r) (off:Int):f8w (s,off,())=some (d0a s off):=by
 have h:e7d (s,())=some (a5K (a2l s),()):=c9j s;have j:e5E (off,-21600,21600,())=some (a2Z off,()):=e5J off;have k:∀a b q:Nat,g0U (a,b,q,())=some (f3j a b q,()):=fun _ _ _=>rfl
 obtain⟨p,r⟩:=c0Y off;have d:[s.snd.fst.fst,s.snd.fst.snd.fst,s.snd.fst.snd.snd.fst,s.snd.fst.snd.snd.snd.fst,s.snd.fst.snd.snd.snd.snd.fst,s.snd.fst.snd.snd.snd.snd.snd.fst,s.snd.fst.snd.snd.snd.snd.snd.snd.fst,s.snd.fst.snd.snd.snd.snd.snd.snd.snd.fst,s.snd.fst.snd.snd.snd.snd.snd.snd.snd.snd.fst,s.snd.fst.snd.snd.snd.snd.snd.snd.snd.snd.snd.fst,s.snd.fst.snd.snd.snd.snd.snd.snd.snd.snd.snd.snd.fst,s.snd.fst.snd.snd.snd.snd.snd.snd.snd.snd.snd.snd.snd.fst,s.snd.fst.snd.snd.snd.snd.snd.snd.snd.snd.snd.snd.snd.snd.fst]=a2l s:=rfl;have l:∀i,getD (a2l s) i (0,0)=atV (a2l s) i:=fun _=>rfl
 unfold f8w d0a;simp only[d,e9l,e9m,h,e7T,d2g,j,isSome_some,getD_some,cond_true];generalize a2Z off=c at *;have w1:IntKind.i64.wrap (c+21600)=c+21600:=w64 (by omega) (by omega);have m:Int.tmod (c+21600) 3600=(c+21600)%3600:=Int.tmod_eq_emod_of_nonneg (by omega);have n:Int.tdiv (c+21600) 3600=(c+21600)/3600:=Int.tdiv_eq_ediv_of_nonneg (by omega);have w2:IntKind.i64.wrap ((c+21600)/3600)=(c+21600)/3600:=w64 (by omega) (by omega);have o:IntKind.i64.wrap ((c+21600)/3600+1)=(c+21600)/3600+1:=w64 (by omega) (by omega);have f:(decide (0<=(c+21600)/3600)&&decide ((c+21600)/3600<13))=true:=by simp only[and_eq_true,decide_eq_true_eq];omega
 simp only[w1,m,n,w2,o,f,cond_true,l];cases a5K (a2l s)
 ·rfl
 simp only[Bool.not_true,cond_false];by_cases e:(c+21600)%3600=0
 ·rw[show((c+21600)%3600==0)=true by simpa using e];rfl
 ·have g:(decide (0<=(c+21600)/3600+1)&&decide ((c+21600)/3600+1<13))=true:=by simp only[and_eq_true,decide_eq_true_eq];omega
  rw[show((c+21600)%3600==0)=false by simpa using e];simp only[cond_false,g,cond_true,e7k,e7l,k,isSome_some,getD_some];rfl
theorem e5L (a:Den S30) (p:Nat×Nat) (t:Int) (h:a4I a):f8x (a,p,t,())=some (a1H a p t):=by
 have m:f4e (a,p,())=some (a4l a p,()):=e5H a p h;have n:f4h (a,t,())=some (hiV a t,()):=e5I a t h;unfold f8x a1H;simp only[g5D,g5E,m,g5I,g5J,n,isSome_some,getD_some,cond_true];by_cases d:a4l a p<0
 ·simp only[d,decide_true,cond_true,Bool.true_or]
 by_cases e:hiV a t<0
 ·simp only[d,e,decide_true,decide_false,cond_true,cond_false,Bool.or_true]
 obtain⟨_,_,s,u⟩:=d0b d;obtain⟨r,v,g,j⟩:=f3u e;have k:(decide (0<=a4l a p)&&decide (a4l a p<(a.1.length:Int)))=true:=by simp only[and_eq_true,decide_eq_true_eq];exact⟨s,u⟩
 have l:(decide (0<=hiV a t)&&decide (hiV a t<(a.2.1.length:Int)))=true:=by simp only[and_eq_true,decide_eq_true_eq];exact⟨g,j⟩
 obtain⟨c,b,_⟩:=a;have w:=(a7a r).2.2 (hiV (c,b,()) t).toNat (by have j:hiV (c,b,()) t<(b.length:Int):=j;have g:0<=hiV (c,b,()) t:=g;omega);have q:∀i,getD b i (zero (Ty.int IntKind.i64))=a3h b i:=fun _=>rfl
 have f:∀i,getD c i (zero a1r)=a3K c i:=fun _=>rfl
 have w1:IntKind.i64.wrap (t-a3h b (hiV (c,b,()) t).toNat)=t-a3h b (hiV (c,b,()) t).toNat:=w64 (by omega) (by omega);have o:=e5K (a3K c (a4l (c,b,()) p).toNat) (t-a3h b (hiV (c,b,()) t).toNat);simp only[d,e,k,l,decide_false,cond_false,cond_true,Bool.or_self,q,f,w1,g5M,g5N,o,isSome_some,getD_some]
theorem d1c (x:Den g5j):f8d x=some (a3g x.1 x.2.1,()):=by
 unfold f8d a3g;cases (fgt .f32 x.2.1.1 x.1.2.1||feq .f32 x.2.1.1 x.1.2.1)<;>cases (flt .f32 x.2.1.1 x.1.2.2.1||feq .f32 x.2.1.1 x.1.2.2.1)<;>by_cases h:x.1.2.2.2.1<=x.2.1.2.1<;>simp[h]
theorem e5M (l:List (Den S68)) (m:Den S63) (h:b7a l):f3R (l,m,())=some (a9I l m,()):=by
 have a:=h.len;have g:b1k ((l,(),(0:Int),()),(m.1,m.2.1,()),())=some (bif a1B l then(match a0r (fun i=>a3g (at' l i) m) 0 l.length with|some j => .inr (((j:Int),()),())|none => .inl ((),()))else .inl ((),())):=by
  cases hs:a1B l with
  | true =>
    refine(a4g (q:=a7U) (fun k=>((l,(),(k:Int),()),(m.1,m.2.1,()),())) l.length (fun i=>a3g (at' l i) m) _ (fun j => .inr (((j:Int),()),())) ?_ ?_ _ ?_:_)
    ·intro k f e;unfold a7U;have b:decide ((k:Int)<(l.length:Int))=true:=by simpa using e
     have c:decide (0<=(k:Int))=true:=by simp
     have d:getD l k (zero S68)=at' l k:=rfl;simp only[a1Z k (by omega),b,c,Bool.and_self,cond_true,toNat_natCast,d,d7m,d7n,b2q l h,hs,e7P,e7Q,d1c,isSome_some,getD_some]
    ·intro f;simp[a7U]
    ·simp only[d0J];omega
  | false =>
    show a7U (a0F (a7U) (l.length+(0:Int).natAbs+(m.2.1:Int).natAbs+999)) ((l,(),(0:Int),()),(m.1,m.2.1,()),())=_;unfold a7U;simp only[d7m,d7n,b2q l h,hs,isSome_some,getD_some,cond_true,cond_false];cases decide ((0:Int)<(l.length:Int))<;>rfl
 unfold f3R a9I;simp only[d0K,d0L,d0M,g];cases a1B l
 ·rfl
 ·cases a0r (fun i=>a3g (at' l i) m) 0 l.length<;>rfl
theorem e5N (l:List (Den S68)) (a:Int) (m:Den S63) (h:b7a l) (n:I64 m.2.1):f8g (l,a,m,())=some (a3F l a m,()):=by
 have f:=h.len;have o:IntKind.i64.wrap ((l.length:Int)-1)=(l.length:Int)-1:=w64 (by omega) (by omega);unfold f8g a3F inB;have d:∀i,F55 (((at' l i).1,(at' l i).2.1,(at' l i).2.2.1,(at' l i).2.2.2.1,(at' l i).2.2.2.2.1,()),(m.1,m.2.1,()),())=some (a0V (at' l i) m,()):=fun i=>d9Z ((at' l i),m,()) (h.rng i).1 (h.rng i).2 n
 have e:f3R (l,(m.1,m.2.1,()),())=some (a9I l m,()):=e5M l m h;have j:∀k,getD l k (zero S68)=at' l k:=fun _=>rfl
 simp only[d7m,d7n,b2q l h,K51,G51,b0U,K55,G55,f8e,f8f,o,j,d,e,isSome_some,getD_some,cond_true];cases a1B l
 ·rfl
 ·by_cases b:0<=a<;>by_cases c:a<=(l.length:Int)-1
  ·have g:a<(l.length:Int):=by omega
   cases a0V (at' l a.toNat) m<;>simp[b,c,g]
  ·simp[b,c]
  ·simp[b,c]
  ·simp[b,c]
theorem e5O (w x:Nat×Nat):f8l (w,x,1056964608,())=some (a1L w x):=by
 have c:=a4S w;have d:=a4S x;have e:g5r (1056964608,())=some (true,()):=by decide +kernel
 have f:∀a b:Nat,g5v (a,b,1056964608,())=some (daV a b,()):=fun _ _=>rfl
 unfold f8l a1L;dsimp only;simp only[K52,G52,c,d,g5s,g5t,e,f8j,f8k,f,isSome_some,getD_some,cond_true];cases a1O w
 ·rfl
 ·cases a1O x<;>rfl
theorem d1d (n:Int):f8p (n,())=some (b2L n,()):=by
 have e:F51 (n,-1000000000,1000000000,())=some (a0l n (-1000000000) 1000000000,()):=a1F _ _ _;unfold f8p b2L;dsimp only;simp only[K51,G51,e,isSome_some,getD_some,cond_true];show(bif !a0l n (-1000000000) 1000000000 then _ else _)=some (bif a0l n (-1000000000) 1000000000 then _ else _,());cases a0l n (-1000000000) 1000000000<;>rfl
theorem e5P (g:Den a2R):f8D (g,())=some (b5r g,()):=by
 have a:F51 (g.2.2.1,0,100000,())=some (a0l g.2.2.1 0 100000,()):=a1F _ _ _;unfold f8D b5r a2j;dsimp only;simp only[K51,G51,a,isSome_some,getD_some,cond_true];show(bif fge g.2.1 0 then bif fle g.2.1 1112014848 then _ else _ else _)=_;cases fge g.2.1 0
 ·rfl
 ·cases fle g.2.1 1112014848<;>rfl
theorem d5L (g:Den a2R):f8G ([g],())=some (b5r g,()):=by
 have a:=e5P g;have⟨k1,g1⟩:=kgP f8E f8F a;have c:a9N (([g],(0:Int),()),())=some (bif b5r g then .inl (([g],()),())else .inr ((false,()),())):=by
  have b:d0Y (([g],(0:Int),()),())=1001:=rfl;unfold a9N;rw[b];show b5G _ _=_;unfold b5G;show(bif f8E (g,())then bif !(f8F (g,())).1 then _ else a0F (b5G) 1000 (([g],(1:Int),()),())else none)=_;rw[k1,g1];cases b5r g
  ·rfl
  ·rfl
 unfold f8G;show(bif b7D (([g],(0:Int),()),())then bif b7E (([g],(0:Int),()),())then some (b7G (([g],(0:Int),()),())).1 else some (decide (((b7F (([g],(0:Int),()),())).1.1.length:Int)<=50),())else none)=_;unfold b7D b7E b7G b7F;rw[c];cases b5r g<;>rfl
theorem e5Q (k:Int) (a:Nat) (s:Nat×Nat):f8z (k,a,s,())=some (a3C k a s):=by
 have b:e9V (k,a,())=some (b1c k a):=c9P k a;have c:F52 (s,())=some (a1O s,()):=a4S s;unfold f8z a3C d0j;dsimp only;simp only[e7p,e2Y,b,K52,G52,c,isSome_some,getD_some,cond_true];cases (b1c k a).2.1
 ·rfl
 ·cases a1O s<;>rfl
theorem e5R (p v:Nat×Nat) (n:Int):f8B (p,v,n,())=some (c3q p v n):=by
 have b:F96 (p,())=some (a3G p,()):=a7P p;have c:F52 (v,())=some (a1O v,()):=a4S v;have d:F51 (n,0,100000,())=some (a0l n 0 100000,()):=a1F n 0 100000;have a:F96 (onV p v n,())=some (a3G (onV p v n),()):=a7P (onV p v n);unfold onV at a;unfold f8B c3q onV;dsimp only;simp only[K96,G96,b,K52,G52,c,K51,G51,d,a,isSome_some,getD_some,cond_true];cases a3G p
 ·rfl
 cases a1O v
 ·rfl
 cases a0l n 0 100000
 ·rfl
 cases a3G (a0a .add .f64 p.1 (a0a .mul .f64 (a0x .f32 .f64 v.1).2 (nearest .f64 n)),a0a .add .f64 p.2 (a0a .mul .f64 (a0x .f32 .f64 v.2).2 (nearest .f64 n)))<;>rfl
theorem d5M (l:Int) (h:0<l):e5E (l,0,600,())=some (a3a l 600,()):=by
 unfold e5E a3a
 dsimp only
 rw[show decide ((600:Int)<0)=false by decide,show decide (l<0)=false by simp;omega]
 simp only[cond_false]
 by_cases a:l>600
 ·rw[show decide (l>600)=true by simpa using a,cond_true,if_pos (by omega)]
 ·rw[show decide (l>600)=false by simpa using a,cond_false,if_neg (by omega)]
theorem b7O (a:Den S30) (h:a4I a) (g:Den a2R):∀(f N:Nat) (p:Nat×Nat) (t l:Int),(l<=(f:Int)*600)->(f<N)->0<=t->t+l<=9223372036854775807->0<=l ->
 ∃w:Int,a0F (b5H) N ((p,t,[g],(),(0:Int),l,()),a,())=some (match a4T a g f p t l with|some r => .inl ((r.1,w,[g],(),(0:Int),()),a,())|none => .inr (((0,0),false,()),())):=by
 intro f
 induction f with
 | zero =>
   intro N p t l s q u i e;obtain⟨N,rfl⟩:∃M,N=M+1:=⟨N-1,by omega⟩;have c:l=0:=by omega
   subst c;exact⟨t,rfl⟩
 | succ f v =>
   intro N p t l s q u i e;obtain⟨N,rfl⟩:∃M,N=M+1:=⟨N-1,by omega⟩;by_cases d:l>0
   ·have j:decide (l>0)=true:=decide_eq_true d;obtain⟨m1,x,y,z⟩:=c1j d;have k:=d5M l d;have m:=e5L a p t h;have n:=e5Q g.1 g.2.1 (a1H a p t).1;have o:=e5R p (a3C g.1 g.2.1 (a1H a p t).1).1 (a3a l 600);have⟨k0,g0⟩:=kgP e7T d2g k;have⟨k1,g1⟩:=kgP f8y d5E m;have⟨k2,g2⟩:=kgP f8A e5F n;have⟨k3,g3⟩:=kgP f8C f4m o;have w1:IntKind.i64.wrap (t+a3a l 600)=t+a3a l 600:=w64 (by omega) (by omega);have w2:IntKind.i64.wrap (l-a3a l 600)=l-a3a l 600:=w64 (by omega) (by omega);have b:=v N (a5m p g (a3a l 600) (a1H a p t).1).1 (t+a3a l 600) (l-a3a l 600) (by omega) (by omega) (by omega) (by omega) (by omega);have step:a0F (b5H) (N+1) ((p,t,[g],(),(0:Int),l,()),a,()) =
     bif decide (l>0)then bif e7T (l,0,600,())then bif f8y (a,p,t,())then bif !(d5E (a,p,t,())).2.1 then some (.inr (((0,0),false,()),()))
      else bif f8A (g.1,g.2.1,(d5E (a,p,t,())).1,())then bif !(e5F (g.1,g.2.1,(d5E (a,p,t,())).1,())).2.1 then some (.inr (((0,0),false,()),()))
       else bif f8C (p,(e5F (g.1,g.2.1,(d5E (a,p,t,())).1,())).1,d2g (l,0,600,()))then bif !(f4m (p,(e5F (g.1,g.2.1,(d5E (a,p,t,())).1,())).1,d2g (l,0,600,()))).2.1 then some (.inr (((0,0),false,()),()))
        else a0F (b5H) N (((f4m (p,(e5F (g.1,g.2.1,(d5E (a,p,t,())).1,())).1,d2g (l,0,600,()))).1,IntKind.i64.wrap (t+(d2g (l,0,600,())).1),[g],(),(0:Int),IntKind.i64.wrap (l-(d2g (l,0,600,())).1),()),a,())
      else none else none else none else none
     else some (.inl ((p,t,[g],(),(0:Int),()),a,())):=rfl
    rw[step,j,k0,g0,k1,g1];simp only[cond_true,k2,g2,w1,w2,k3,g3];unfold a4T;rw[j,cond_true];unfold a5m at b ⊢;cases (a1H a p t).2.1
    ·exact⟨0,rfl⟩
    ·cases hg:(a3C g.1 g.2.1 (a1H a p t).1).2.1
     ·exact⟨0,rfl⟩
     ·rw[hg]at b;simp only[Bool.not_true,cond_false]at b ⊢;cases (c3q p (a3C g.1 g.2.1 (a1H a p t).1).1 (a3a l 600)).2.1
      ·exact⟨0,rfl⟩
      ·exact b
   ·have c:l=0:=by omega
    subst c;exact⟨t,rfl⟩
theorem e5S (p:Nat×Nat) (t:Int) (g:Den a2R) (a:Den S30) (h:a4I a) (l:0<=t) (m:t<=1000000000000) (q:a5b g<=3600):f4q (p,t,[g],a,())=some (f3G p t g a):=by
 have e:F96 (p,())=some (a3G p,()):=a7P p;have f:=d5L g;have⟨k1,g1⟩:=kgP K96 G96 e;have⟨k2,g2⟩:=kgP f8H f8I f;unfold f4q f3G;show(bif K96 (p,())then bif !(G96 (p,())).1 then _ else bif f8H ([g],())then bif !(f8I ([g],())).1 then _ else
  bif b7K ((p,t,[g],(),(0:Int),()),a,())then bif b7L ((p,t,[g],(),(0:Int),()),a,())then some (b7N ((p,t,[g],(),(0:Int),()),a,())).1
   else some ((b7M ((p,t,[g],(),(0:Int),()),a,())).1.1,true,())else none else none else none)=_
 rw[k1,g1,k2,g2];cases hp:a3G p
 ·rfl
 cases hg':b5r g
 ·rfl
 simp only[Bool.not_true,cond_true,cond_false];have c:0<=a5b g:=by
  unfold b5r a0l at hg';simp only[and_eq_true,decide_eq_true_eq]at hg';exact hg'.2.1
 obtain⟨o,k⟩:=b7O a h g 7 (c1E ((p,t,[g],(),(0:Int),a5b g,()),a,())) p t (a5b g) (by omega) (by unfold c1E;dsimp only;omega) l (by omega) c;have b:b1o ((p,t,[g],(),(0:Int),a5b g,()),a,())=_:=k;have d:a9O ((p,t,[g],(),(0:Int),()),a,())=some (match a4T a g 7 p t (a5b g)with|some r => .inl ((r.1,()),())|none => .inr (((0,0),false,()),())):=by
  unfold a9O;have j:∃M,b5I ((p,t,[g],(),(0:Int),()),a,())=M+2:=⟨b5I ((p,t,[g],(),(0:Int),()),a,())-2,by unfold b5I;dsimp only;omega⟩;obtain⟨M,i⟩:=j;rw[i];show(bif b7H ((p,t,[g],(),(0:Int),a5b g,()),a,())then bif b7I ((p,t,[g],(),(0:Int),a5b g,()),a,())then(some (Sum.inr (b7J ((p,t,[g],(),(0:Int),a5b g,()),a,()))):Option (d0Z⊕d1a))else _ else none)=_;unfold b7H b7I b7J;rw[b];cases hpv:a4T a g 7 p t (a5b g)with
  |none=>rfl
  | some r =>
    have n:a5n ((p,t,[g],(),(0:Int),a5b g,()),a,())=((r.1,o,[g],(),(0:Int),()),a,()):=by
     unfold a5n;rw[b,hpv];rfl
    show a0F (d1b) (M+1) (((a5n ((p,t,[g],(),(0:Int),a5b g,()),a,())).1.1,(a5n ((p,t,[g],(),(0:Int),a5b g,()),a,())).1.2.1,(a5n ((p,t,[g],(),(0:Int),a5b g,()),a,())).1.2.2.1,(),IntKind.i64.wrap ((a5n ((p,t,[g],(),(0:Int),a5b g,()),a,())).1.2.2.2.2.1+1),()),(a5n ((p,t,[g],(),(0:Int),a5b g,()),a,())).2)=_;rw[n];rfl
 unfold b7K b7L b7N b7M;rw[d];cases a4T a g 7 p t (a5b g)with
 |none=>rfl
 |some r=>rfl
theorem f4x (a c:Int) (b:48<=c) (d:c<=57):IntKind.i64.wrap (IntKind.i64.wrap (IntKind.i64.wrap (10*a)+IntKind.i64.wrap c)-48)=IntKind.i64.wrap (IntKind.i64.wrap (a*10)+IntKind.i64.wrap (IntKind.u8.wrap (c-48))):=by
 rw[IntWalk.u8_in (c-48) (by omega),w64 (x:=c) (by omega) (by omega),w64 (x:=c-48) (by omega) (by omega)];simp only[IntKind.wrap_i64];omega
theorem d5N (f:b2n->Option (c7U⊕c7V)) (v:b2n):b1l f v=b0f f v:=by
 unfold b1l b0f;dsimp only;by_cases a:a0p v.1.1 v.1.2.2.1<48
 ·simp only[decide_eq_true a,cond_true]
 ·by_cases b:a0p v.1.1 v.1.2.2.1>57
  ·simp only[decide_eq_false a,decide_eq_true b,cond_false,cond_true]
  ·simp only[decide_eq_false a,decide_eq_false b,cond_false,f4x v.1.2.1 (a0p v.1.1 v.1.2.2.1) (by omega) (by omega)]
theorem d5O (v:b2n):b1m v=b2o v:=by
 have:(b1l:(b2n->Option (c7U⊕c7V))->b2n->Option (c7U⊕c7V))=b0f:=by
  funext f v;exact d5N f v
 show a0F (b1l) (b4B v) v=a0F (b0f) (b4B v) v;rw[this]
theorem d1e {n:Int} (h:I64 n):n.natAbs<=9223372036854775808:=by unfold I64 at h;omega
theorem e5T (s:ByteArray):f8n (s,())=some (uI s,uB s,()):=by
 rw[<- c1q s];unfold f8n F17 d0N d0O d0P d0Q a9o a9p b4C b4D;dsimp only;rw[d5O];by_cases a:s.size=0
 ·have c:((s.size:Int)==0)=true:=by simp[a]
  have d:decide ((s.size:Int)>10)=false:=by simp[a]
  have e:s=ByteArray.empty:=a7S (by
   have:s.data.toList.length=0:=by rw[Array.length_toList];exact a
   rw[List.length_eq_zero_iff.1 this];rfl)
  rw[c,d];subst e
  decide +kernel
 ·have c:((s.size:Int)==0)=false:=by simp[a]
  rw[c,cond_false];cases h10:decide ((s.size:Int)>10)
  ·have h:s.size<=10:=by
    have:=of_decide_eq_false h10;omega
   obtain⟨y,f,g⟩:=b5x s (by omega);simp only[cond_false,f,isSome_some,cond_true];cases y with
   |inr y=>rfl
   | inl z =>
     obtain⟨_,b⟩:=g z rfl;obtain⟨⟨t,n,_⟩,_⟩:=z;have b:I64 n:=b;have a1:=b2K n (d1e b);have a2:=c1o n b;have⟨k1,g1⟩:=kgP b4a a7t a1;have⟨k2,g2⟩:=kgP K25 G25 a2;show(bif decide (n>1000000000)then some (0,false,())else bif b4a (n,())then bif !a0G (a7t (n,())).1 t then some (0,false,())else some (n,true,())else none:OD R17) =
      (bif decide (n>1000000000)then some (0,false,())else bif K25 (n,())then bif !a0G (G25 (n,())).1 t then some (0,false,())else some (n,true,())else none:OD R17)
     rw[k1,g1,k2,g2]
  ·rfl
theorem f4y:∀(k u:Nat),u<10^(k+1)->Lib.nDigits u<=k+1
 |0,u,h=>by rw[Lib.nDigits_small (by simpa using h)];omega
 | k+1,u,h=>by
   by_cases a:u<10
   ·rw[Lib.nDigits_small a];omega
   ·rw[Lib.nDigits_big a];have:=f4y k (u/10) (by rw[Nat.pow_succ]at h;omega);omega
theorem c3z (m:Int):(b0m m).length<=11∨((b0m m).length<=12 /\ (b0m m).getD 0 0=45):=by
 unfold b0m;by_cases h:-1000000000<=m /\ m<=1000000000
 ·rw[if_pos h];have b:(Lib.itoa ((m.natAbs/1000:Nat):Int)).length<=7:=by
   rw[Lib.itoa_nonneg,Lib.decDigits_length];exact f4y 6 _ (by show m.natAbs/1000<10000000;omega)
  have c:(Lib.itoa ((1000+m.natAbs%1000:Nat):Int)).length=4:=by
   rw[Lib.itoa_nonneg,Lib.decDigits_length];exact Lib.nDigits_unique 3 _ (by show 1000<=_;omega) (by show _<10000;omega)
  by_cases a:m<0
  ·rw[if_pos a];right;constructor
   ·simp only[length_append,List.length_drop,List.length_cons,List.length_nil];omega
   ·rfl
  ·rw[if_neg a];left;simp only[length_append,List.length_drop,List.length_cons,List.length_nil];omega
 ·rw[if_neg h];left;simp
def g5W (n c:Int):Int:=IntKind.i64.wrap (IntKind.i64.wrap (n*10)+IntKind.i64.wrap (IntKind.u8.wrap (c-48)))
def dgV (t:ByteArray) (d:Int):Nat->Nat->Int->Option Int
 |0,_,n=>some n
 |k+1,i,n=>bif ((i:Int)==d)then dgV t d k (i+1) n else bif decide (a0p t i<48)then none else bif decide (a0p t i>57)then none else dgV t d k (i+1) (g5W n (a0p t i))
theorem g5X {t:ByteArray} {d:Int}:∀(k i:Nat) (n m:Int),I64 n->dgV t d k i n=some m->I64 m:=by
 intro k
 induction k with
 |zero=>intro i n m h e;cases e;exact h
 | succ k a =>
   intro i n m h e;unfold dgV at e;cases h1:((i:Int)==d)
   ·rw[h1,cond_false]at e;cases h2:decide (a0p t i<48)
    ·rw[h2,cond_false]at e;cases h3:decide (a0p t i>57)
     ·rw[h3,cond_false]at e;exact a _ _ _ (c2O _) e
     ·rw[h3]at e;cases e
    ·rw[h2]at e;cases e
   ·rw[h1,cond_true]at e;exact a _ _ _ h e
theorem f4z {t:ByteArray} {d:Int} {j:Nat} (g:(j:Int)≠d) (f:a0p t j<48):∀(k i:Nat) (n:Int),i<=j->j<i+k->dgV t d k i n=none:=by
 intro k
 induction k with
 |zero=>intro i n c e;omega
 | succ k b =>
   intro i n c e;unfold dgV;by_cases a:i=j
   ·subst a;rw[show((i:Int)==d)=false by simpa using g,decide_eq_true f];rfl
   ·rw[b (i+1) n (by omega) (by omega),b (i+1) _ (by omega) (by omega)];cases ((i:Int)==d)<;>cases decide (a0p t i<48)<;>cases decide (a0p t i>57)<;>rfl
theorem g5Y (s t:ByteArray) (sg d:Int) (j:t.size<=1000):∀(k N i:Nat) (n:Int),i+k=t.size->k<N ->
 a0F (a3U) N ((s,t,sg,d,n,(i:Int),()),())=some (match dgV t d k i n with|some m => .inl ((s,sg,m,()),())|none => .inr ((0,false,()),())):=by
 intro k
 induction k with
 | zero =>
   intro N i n g h;obtain⟨N,rfl⟩:∃M,N=M+1:=⟨N-1,by omega⟩;show a3U _ _=_;unfold a3U;dsimp only;rw[show decide ((i:Int)<(t.size:Int))=false by simp;omega];rfl
 | succ k c =>
   intro N i n g h;obtain⟨N,rfl⟩:∃M,N=M+1:=⟨N-1,by omega⟩;show a3U (a0F (a3U) N) _=_;unfold a3U dgV;have e:decide ((i:Int)<(t.size:Int))=true:=by simp;omega
   have f:decide (0<=(i:Int))=true:=by simp
   simp only[e,f,cond_true,Bool.and_self,a1Z i (by omega)];have a:=c N (i+1) n (by omega) (by omega);have b:=c N (i+1) (g5W n (a0p t i)) (by omega) (by omega);cases ((i:Int)==d)
   ·simp only[cond_false];cases decide (a0p t i<48)
    ·cases decide (a0p t i>57)
     ·exact b
     ·rfl
    ·rfl
   ·exact a
theorem g5Z (s t:ByteArray) (l:t.size<=1000) (j:5<=t.size):∀(k N i:Nat) (n:Int),i+k=t.size->k<N ->
 a0F (a7V) N ((s,t,n,(i:Int),()),())=some (match dgV t ((t.size:Int)-4) k i n with|some m => .inl ((s,t,m,()),())|none => .inr ((0,false,()),())):=by
 intro k;have h:IntKind.i64.wrap ((t.size:Int)-4)=(t.size:Int)-4:=w64 (by omega) (by omega)
 induction k with
 | zero =>
   intro N i n f g;obtain⟨N,rfl⟩:∃M,N=M+1:=⟨N-1,by omega⟩;show a7V _ _=_;unfold a7V;dsimp only;rw[show decide ((i:Int)<(t.size:Int))=false by simp;omega];rfl
 | succ k c =>
   intro N i n f g;obtain⟨N,rfl⟩:∃M,N=M+1:=⟨N-1,by omega⟩;show a7V (a0F (a7V) N) _=_;unfold a7V dgV;have d:decide ((i:Int)<(t.size:Int))=true:=by simp;omega
   have e:decide (0<=(i:Int))=true:=by simp
   simp only[d,e,cond_true,Bool.and_self,a1Z i (by omega),h];have a:=c N (i+1) n (by omega) (by omega);have b:=c N (i+1) (g5W n (a0p t i)) (by omega) (by omega);cases ((i:Int)==(t.size:Int)-4)
   ·simp only[cond_false];cases decide (a0p t i<48)
    ·cases decide (a0p t i>57)
     ·exact b
     ·rfl
    ·rfl
   ·exact a
def tv (s t:ByteArray) (sg:Int):Int×Bool×Unit:=
 bif a0l (t.size:Int) 5 11&&a0p t ((t.size:Int)-4)==46 then
  (match dgV t ((t.size:Int)-4) t.size 0 0 with
  |none=>(0,false,())
  |some n=>bif a0G (bOf (b0m (IntKind.i64.wrap (n*sg)))) s then(IntKind.i64.wrap (n*sg),true,())else(0,false,()))
 else(0,false,())
theorem a9P {t:ByteArray} {j:Nat} (h:j<t.size) (c:UInt8):t.data.toList[j]?=some c↔a0p t j=(c.toNat:Int):=by
 have a:j<t.data.toList.length:=by rw[Array.length_toList];exact h
 unfold a0p;rw[toNat_natCast,List.getElem?_eq_getElem a,List.getD_eq_getElem?_getD,List.getElem?_eq_getElem a];simp only[getD_some,injEq];constructor
 ·intro e;rw[e]
 ·intro e;exact UInt8.toNat_inj.1 (by omega)
theorem f4A (s t:ByteArray) (sg:Int) (D:t.size<=1000):(bif decide ((a5I (t,46,())).fst<1)then some (0,false,())
 else bif (((t.size:Nat):Int) != wrap IntKind.i64 ((a5I (t,46,())).fst+4))then some (0,false,())
 else bif decide ((a5I (t,46,())).fst>7)then some (0,false,())
 else bif a3N ((s,t,sg,(a5I (t,46,())).fst,0,0,()),())then
  bif a4G ((s,t,sg,(a5I (t,46,())).fst,0,0,()),())then some (a5A ((s,t,sg,(a5I (t,46,())).fst,0,0,()),())).fst
  else bif d1Z (wrap IntKind.i64 ((a1k ((s,t,sg,(a5I (t,46,())).fst,0,0,()),())).fst.snd.snd.fst*(a1k ((s,t,sg,(a5I (t,46,())).fst,0,0,()),())).fst.snd.fst),())then
   bif !a0G (d9A (wrap IntKind.i64 ((a1k ((s,t,sg,(a5I (t,46,())).fst,0,0,()),())).fst.snd.snd.fst*(a1k ((s,t,sg,(a5I (t,46,())).fst,0,0,()),())).fst.snd.fst),())).fst (a1k ((s,t,sg,(a5I (t,46,())).fst,0,0,()),())).fst.fst then some (0,false,())
   else some (wrap IntKind.i64 ((a1k ((s,t,sg,(a5I (t,46,())).fst,0,0,()),())).fst.snd.snd.fst*(a1k ((s,t,sg,(a5I (t,46,())).fst,0,0,()),())).fst.snd.fst),true,())
  else none
 else none:OD e3J)=some (tv s t sg):=by
 have B:(a5I (t,46,())).fst=Lib.indexByte t.data.toList 46:=rfl;rw[B];have C:=Lib.indexByte_ge t.data.toList 46;have c:=@Lib.indexByte_none t.data.toList 46;have b:=fun o=>@Lib.indexByte_some t.data.toList 46 o
 generalize Lib.indexByte t.data.toList 46=d at *;have i:=g5Y s t sg d D t.size (a7v ((s,t,sg,d,0,((0:Nat):Int),()),())) 0 0 (by omega) (by unfold a7v;dsimp only;omega);have i:a6i ((s,t,sg,d,0,0,()),())=_:=i;unfold tv;by_cases a:(5<=t.size /\ t.size<=11) /\ a0p t ((t.size:Int)-4)=46
 ·obtain⟨⟨r,E⟩,u⟩:=a;have l:(a0l (t.size:Int) 5 11&&a0p t ((t.size:Int)-4)==46)=true:=by
   unfold a0l;rw[u,decide_eq_true (by omega),decide_eq_true (by omega)];rfl
  rw[l,cond_true];have x:((t.size:Int)-4)=((t.size-4:Nat):Int):=by omega
  have f:t.data.toList[t.size-4]?=some 46:=(a9P (by omega) 46).2 (by rw[<- x];exact u);have A:d ≠ -1:=fun e=>c e _ f
  obtain⟨j,rfl⟩:∃j:Nat,d=(j:Int):=⟨d.toNat,by omega⟩;obtain⟨k,y⟩:=b j rfl;have F:j<=t.size-4:=by
   by_cases h:t.size-4<j
   ·exact absurd f (y _ h)
   ·omega
  by_cases p:j=t.size-4
  ·subst p;rw[<- x]at i ⊢;rw[show decide ((t.size:Int)-4<1)=false by simp;omega,w64 (by omega) (by omega),show((t.size:Int) != (t.size:Int)-4+4)=false by simp,show decide ((t.size:Int)-4>7)=false by simp;omega];simp only[cond_false];unfold a3N a4G a5A a1k;rw[i];cases dgV t ((t.size:Int)-4) t.size 0 0 with
   |none=>rfl
   | some n =>
     show(bif d1Z (IntKind.i64.wrap (n*sg),())then bif !a0G (d9A (IntKind.i64.wrap (n*sg),())).1 s then some (0,false,())else some (IntKind.i64.wrap (n*sg),true,())else none:OD e3J)=some (bif a0G (bOf (b0m (IntKind.i64.wrap (n*sg)))) s then(IntKind.i64.wrap (n*sg),true,())else(0,false,()));have e:=d0q (IntKind.i64.wrap (n*sg));have⟨k1,r⟩:=kgP d1Z d9A e;rw[k1,r];cases a0G (bOf (b0m (IntKind.i64.wrap (n*sg)))) s<;>rfl
  ·have m:a0p t j<48:=by
    rw[(a9P (by omega) 46).1 k]
    decide
   rw[f4z (j:=j) (by omega) m t.size 0 0 (by omega) (by omega)];by_cases g:(j:Int)<1
   ·rw[decide_eq_true g];rfl
   ·rw[decide_eq_false g,w64 (by omega) (by omega),show((t.size:Int) != (j:Int)+4)=true by simp;omega];rfl
 ·have l:(a0l (t.size:Int) 5 11&&a0p t ((t.size:Int)-4)==46)=false:=by
   apply Bool.eq_false_iff.2;intro h;unfold a0l at h;simp only[and_eq_true,decide_eq_true_eq,beq_iff_eq]at h;exact a ⟨⟨by omega,by omega⟩,h.2⟩
  rw[l,cond_false];by_cases v:d<1
  ·rw[decide_eq_true v];rfl
  rw[decide_eq_false v,cond_false];obtain⟨j,rfl⟩:∃j:Nat,d=(j:Int):=⟨d.toNat,by omega⟩;obtain⟨k,y⟩:=b j rfl;have q:j<t.size:=by
   have:=(List.getElem?_eq_some_iff.1 k).1;rw[Array.length_toList]at this;exact this
  rw[w64 (by omega) (by omega)];by_cases w:(t.size:Int)=(j:Int)+4
  ·rw[show((t.size:Int) != (j:Int)+4)=false by simpa using w,cond_false];by_cases z:(j:Int)>7
   ·rw[decide_eq_true z];rfl
   ·exfalso;apply a;refine⟨⟨by omega,by omega⟩,?_⟩;rw[show(t.size:Int)-4=(j:Int)by omega,(a9P q 46).1 k];rfl
  ·rw[show((t.size:Int) != (j:Int)+4)=true by simpa using w];rfl
theorem f4B (n:Int):K83 (n,())=true:=by unfold K83;rw[d0d];rfl
theorem f4C (n:Int):G83 (n,())=(bOf (b0m n),()):=by unfold G83;rw[d0d];rfl
theorem d5P {s:ByteArray} {m:Int} (h:12<=s.size /\ a0p s 0≠45∨13<=s.size):a0G (bOf (b0m m)) s=false:=by
 apply Bool.eq_false_iff.2;intro e;have e:=(a1V _ _).1 e;subst e;have a:(bOf (b0m m)).size=(b0m m).length:=by simp[bOf,ByteArray.size]
 rw[a]at h;rcases c3z m with b|⟨b,c⟩
 ·omega
 ·rcases h with⟨_,h3⟩|h3
  ·apply h3;unfold a0p;show(((b0m m).getD 0 0).toNat:Int)=45;rw[c];rfl
  ·omega
theorem e5U (s t:ByteArray) (sg:Int) (g:t.size<=1000) (a:(sg=1 /\ s=t /\ a0p s 0≠45)∨(sg=-1 /\ t.size+1=s.size)) :
 (bif decide (((t.size:Nat):Int)<5)then some (0,false,())
  else bif decide (((t.size:Nat):Int)>12)then some (0,false,())
  else bif (decide (0<=wrap IntKind.i64 (((t.size:Nat):Int)-4))&&decide (wrap IntKind.i64 (((t.size:Nat):Int)-4)<((t.size:Nat):Int)))then
   bif (a0p t (wrap IntKind.i64 (((t.size:Nat):Int)-4)) != 46)then some (0,false,())
   else bif a9K ((s,t,0,0,()),())then
    bif a9L ((s,t,0,0,()),())then some (a9M ((s,t,0,0,()),())).fst
    else bif decide (((ByteArray.size (a2m ((s,t,0,0,()),())).fst.snd.fst:Nat):Int)<((ByteArray.size (a2m ((s,t,0,0,()),())).fst.fst:Nat):Int))then
     bif K83 (wrap IntKind.i64 (0-(a2m ((s,t,0,0,()),())).fst.snd.snd.fst),())then
      bif !a0G (G83 (wrap IntKind.i64 (0-(a2m ((s,t,0,0,()),())).fst.snd.snd.fst),())).fst (a2m ((s,t,0,0,()),())).fst.fst then some (0,false,())
      else some (wrap IntKind.i64 (0-(a2m ((s,t,0,0,()),())).fst.snd.snd.fst),true,())
     else none
    else bif K83 (a2m ((s,t,0,0,()),())).fst.snd.snd then
     bif !a0G (G83 (a2m ((s,t,0,0,()),())).fst.snd.snd).fst (a2m ((s,t,0,0,()),())).fst.fst then some (0,false,())
     else some ((a2m ((s,t,0,0,()),())).fst.snd.snd.1,true,())
    else none
   else none
  else none:OD f3Z)=some (tv s t sg):=by
 unfold tv a0l;by_cases i:t.size<5
 ·rw[show decide (((t.size:Nat):Int)<5)=true by simp;omega,show decide ((5:Int)<=(t.size:Int))=false by simp;omega];rfl
 rw[show decide (((t.size:Nat):Int)<5)=false by simp;omega,show decide ((5:Int)<=(t.size:Int))=true by simp;omega,cond_false];by_cases f:12<t.size
 ·rw[show decide (((t.size:Nat):Int)>12)=true by simp;omega,show decide ((t.size:Int)<=11)=false by simp;omega];rfl
 rw[show decide (((t.size:Nat):Int)>12)=false by simp;omega,cond_false,w64 (x:=((t.size:Nat):Int)-4) (by omega) (by omega)];rw[show(decide (0<=((t.size:Nat):Int)-4)&&decide (((t.size:Nat):Int)-4<((t.size:Nat):Int)))=true by simp;omega,cond_true];by_cases hd:a0p t ((t.size:Int)-4)=46
 ·rw [hd];have b:=g5Z s t g (by omega) t.size (c1x ((s,t,0,((0:Nat):Int),()),())) 0 0 (by omega) (by unfold c1x;dsimp only;omega);have b:b1n ((s,t,0,0,()),())=_:=b;unfold a9K a9L a9M a2m;rw[b];cases hdg:dgV t ((t.size:Int)-4) t.size 0 0 with
  | none =>
    cases decide ((t.size:Int)<=11)<;>rfl
  | some n =>
    have d:I64 n:=g5X _ _ _ _ (by unfold I64;omega) hdg;have c:(bif decide (((t.size:Nat):Int)<((s.size:Nat):Int))then bif K83 (IntKind.i64.wrap (0-n),())then bif !a0G (G83 (IntKind.i64.wrap (0-n),())).1 s then some (0,false,())else some (IntKind.i64.wrap (0-n),true,())else none
     else bif K83 (n,())then bif !a0G (G83 (n,())).1 s then some (0,false,())else some (n,true,())else none:OD f3Z)=some (bif a0G (bOf (b0m (IntKind.i64.wrap (n*sg)))) s then(IntKind.i64.wrap (n*sg),true,())else(0,false,())):=by
     rcases a with⟨rfl,rfl,_⟩|⟨rfl,h⟩
     ·rw[show decide (((s.size:Nat):Int)<((s.size:Nat):Int))=false by simp,cond_false,f4B,f4C,show n*1=n by omega,w64 (x:=n) (by unfold I64 at d;omega) (by unfold I64 at d;omega)];cases a0G (bOf (b0m n)) s<;>rfl
     ·rw[show decide (((t.size:Nat):Int)<((s.size:Nat):Int))=true by simp;omega,cond_true,f4B,f4C,show n * -1=0-n by omega];cases a0G (bOf (b0m (IntKind.i64.wrap (0-n)))) s<;>rfl
    refine Eq.trans c ?_;by_cases e:t.size<=11
    ·rw[show decide ((t.size:Int)<=11)=true by simp;omega];rfl
    ·rw[show decide ((t.size:Int)<=11)=false by simp;omega,d5P (by
      rcases a with⟨rfl,rfl,h⟩|⟨rfl,h⟩
      ·exact .inl ⟨by omega,h⟩
      ·exact .inr (by omega))]
     rfl
 ·rw[show(a0p t ((t.size:Int)-4) != 46)=true by simpa using hd,show(a0p t ((t.size:Int)-4)==46)=false by simpa using hd,Bool.and_false];rfl
def xV (s:ByteArray):Int×Bool×Unit:=bif a0p s 0==45 then tv s (ByteArray.extract s 1 s.size) (-1)else tv s s 1
theorem d5Q {s:ByteArray} (a:a0G s { data:=#[] }=false):0<s.size:=by
 apply Nat.pos_of_ne_zero;intro b;have:s={ data:=#[] }:=a7S (by
  have:s.data.toList.length=0:=by rw[Array.length_toList];exact b
  rw[List.length_eq_zero_iff.1 this])
 rw[(a1V _ _).2 this]at a;cases a
theorem e5V (s:ByteArray) (g:s.size<=1000):e3K (s,())=some (xV s):=by
 unfold e3K xV;dsimp only;have a:∀t:ByteArray,e2A (t,46,())=true:=fun _=>rfl
 have b:=f4A s s 1 g;cases hb:a0G s { data:=#[] }with
 | true =>
   have f:a0p s 0=0:=by rw[(a1V _ _).1 hb];rfl
   simp only[Bool.not_true,cond_false,a,cond_true,f];exact b
 | false =>
   have c:=d5Q hb;have d:(decide (0<=0)&&decide (0<((ByteArray.size s:Nat):Int)))=true:=by simp;omega
   have e:(decide (0<=1)&&decide (1<=((ByteArray.size s:Nat):Int))&&decide (((ByteArray.size s:Nat):Int)<=((ByteArray.size s:Nat):Int)))=true:=by simp;omega
   rw[d,e];simp only[Bool.not_false,cond_true];cases (a0p s 0==45)
   ·simp only[cond_false,a,cond_true];exact b
   ·simp only[cond_true,a];refine f4A s _ (-1) ?_;rw[ByteArray.size_extract];omega
set_option maxHeartbeats 4000000 in
theorem e5W (s:ByteArray) (e:s.size<=1000):f4a (s,())=some (xV s):=by
 unfold f4a xV;dsimp only;by_cases d:0<s.size
 ·have b:decide (((ByteArray.size s:Nat):Int)>0)=true:=by simp;omega
  have h:(decide (0<=0)&&decide (0<((ByteArray.size s:Nat):Int)))=true:=by simp;omega
  have f:(decide (0<=1)&&decide (1<=((ByteArray.size s:Nat):Int))&&decide (((ByteArray.size s:Nat):Int)<=((ByteArray.size s:Nat):Int)))=true:=by simp;omega
  have g:decide (0<=0)=true:=by simp
  rw[b,g,f];simp only[cond_true,Bool.and_self];by_cases a:a0p s 0=45
  ·rw[a];simp only[beq_self_eq_true,cond_true];refine e5U s _ (-1) ?_ (.inr ⟨rfl,?_⟩)
   ·rw[ByteArray.size_extract];omega
   ·show(ByteArray.extract s 1 s.size).size+1=s.size;rw[ByteArray.size_extract];omega
  ·rw[show(a0p s 0==45)=false by simpa using a];simp only[cond_false];exact e5U s s 1 e (.inl ⟨rfl,rfl,a⟩)
 ·have b:decide (((ByteArray.size s:Nat):Int)>0)=false:=decide_eq_false (by omega);have c:s={ data:=#[] }:=a7S (by
   have:s.data.toList.length=0:=by rw[Array.length_toList];show s.size=0;omega
   rw[List.length_eq_zero_iff.1 this])
  have a:a0p s 0≠45:=by rw[c];decide
  rw[b,show(a0p s 0==45)=false by simpa using a];simp only[cond_false];exact e5U s s 1 e (.inl ⟨rfl,rfl,a⟩)
theorem d1f (s:ByteArray) (a:s.size<=1000):f4a (s,())=some (xI s,xB s,()):=by
 rw[<- b7A s a,e5V s a,e5W s a]
theorem e5X (n a b:ByteArray) (g:a.size<=1000) (h:b.size<=1000):e7R ([n,a,b],())=some (a8j a b):=by
 have c:=d1f a g;have d:=d1f b h;have e:=d1d (xI a);have f:=d1d (xI b);have⟨k1,g1⟩:=kgP e5B c3x c;have⟨k2,g2⟩:=kgP e5B c3x d;have⟨k3,g3⟩:=kgP e5C d0R e;have⟨k4,g4⟩:=kgP e5C d0R f;unfold e7R a8j;show(bif e5B (a,())then bif e5B (b,())then bif e5C ((c3x (a,())).1,())then bif e5C ((c3x (b,())).1,())then bif (c3x (a,())).2.1 then some ((d0R ((c3x (a,())).1,())).1,(d0R ((c3x (b,())).1,())).1,(c3x (b,())).2)else some ((d0R ((c3x (a,())).1,())).1,(d0R ((c3x (b,())).1,())).1,false,())else none else none else none else none:OD f8q)=_;rw[k1,g1,k2,g2];dsimp only;rw[k3,g3,k4,g4];cases xB a<;>rfl
end Go.Proofs.YtjomnmoekchfeaaGreatDoor.AM
