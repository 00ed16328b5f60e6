/- Texts of one proof, joined: an abstract machine for the program, its functions evaluated, plain lemmas. Conditions: those that each lemma names. -/
import Derived.Test.YtjomnmoekchfeaaGreatDoorM3
import Derived.Test.YtjomnmoekchfeaaGreatDoorM2
set_option linter.unusedVariables false
set_option linter.unusedSimpArgs false
namespace Go.Proofs.YtjomnmoekchfeaaGreatDoor.AM
open IntKind (wrap)
open List (length replicate getD set length_append length_replicate length_set)
open Int (toNat toNat_natCast)
open Option (getD_some isSome_some)
open Bool (and_eq_true)
open FloatKind (nearest)
open Nat (le_refl beq zero_le)
open Go Go.Proofs
theorem b3R (x:I33.den) (h:a0a x.2.1):Pst (F33 x) fun y=>a0a y.2.1:=by
 unfold F33;dsimp only;refine a0d (c5J _ cu) ?_;refine a0d (c5J _ cu) ?_;exact a0h cu
theorem c5R (x:I33.den) (h:a0a x.2.1):K33 x=true:=a1H (b3R x h)
theorem G33_cur (x:I33.den) (h:a0a x.2.1):a0a (G33 x).2.1:=a1I _ (b3R x h)
theorem d1b (x:Den e9B) (h:x.1.length<=1048576):Pst (e9C x) fun _=>True:=by
 have a:=c4t (x,()) h;unfold e9C;dsimp only;refine a0d (d4D (x,()) h) ?_;generalize G30 (x,())=A at *;refine a0d (c5R _ cu) ?_;refine a0d (a0k _ cu) ?_;refine a0V (fun _=>a0h trivial) (fun _=>?_);refine a0V (fun _=>a0h trivial) (fun _=>?_);refine a0V (fun _=>?_) (fun _=>a0h trivial);refine a0d (a6O _ cu) ?_;refine a0d (a6O _ cu) ?_;exact a0h trivial
theorem d9E (x:Den e9B) (h:x.1.length<=1048576):f3G x=true:=a1H (d1b x h)
theorem c5S (v:c4f) (h:a0a v.2.1) (b:0<=v.1.2.2.2.2.2.1):Pst (d0p v) fun y=>a0a y.2.1 /\ y.1.2.2.2.1=v.1.2.2.2.1 /\ y.2.2.2.2.1=v.2.2.2.2.1:=by
 refine a0C (q:=d0o) (fun u=>a0a u.2.1 /\ u.1.2.2.2.1=v.1.2.2.2.1 /\ u.2.2.2.2.1=v.2.2.2.2.1 /\ 0<=u.1.2.2.2.2.2.1)
  (fun _ r=>Pst r fun y=>a0a y.2.1 /\ y.1.2.2.2.1=v.1.2.2.2.1 /\ y.2.2.2.2.1=v.2.2.2.2.1) (fun u=>(13-u.1.2.2.2.2.2.1).toNat) ?_ _ _ ⟨h,rfl,rfl,b⟩ ?_
 ·rintro⟨⟨_,_,_,n,_,i,_⟩,⟨c0,c1,c2,_⟩,_,_,l,st,_⟩ f ⟨g0,g1,g2,g3⟩ ih;dsimp only at g0 g1 g2 g3 ih;unfold d0o;dsimp only;by_cases a:i<13
  ·refine a0d (by simpa using a) ?_;refine a0d (a0k _ cu) ?_;refine a0d (a0k _ cu) ?_;refine a0d (by simp;omega) ?_;have e:IntKind.i64.wrap (i+1)=i+1:=w64 (by omega) (by omega);refine ih _ ⟨cu,g1,g2,?_⟩ ?_
   ·show 0<=IntKind.i64.wrap (i+1);omega
   ·show(13-IntKind.i64.wrap (i+1)).toNat<(13-i).toNat;omega
  ·have hd:decide (i<13)=false:=by simpa using a
   rw[hd];exact a0h ⟨g0,g1,g2⟩
 ·exact Nat.lt_of_lt_of_le (m:=1000) (by omega) (Nat.le_add_left _ _)
theorem b1y (v:c4i) (h:a0a v.2.1) (b:0<=v.1.2.2.2.1) (p:(v.2.2.2.2.1.length:Int)+v.1.2.2.2.1<=3) (s:1<=(v.2.2.2.2.1.length:Int)+v.1.2.2.2.1):Pst (d0r v) fun y=>a0a y.2.1 /\ 1<=y.2.2.2.2.1.length /\ y.2.2.2.2.1.length<=3:=by
 refine a0C (q:=d0q) (fun u=>a0a u.2.1 /\ 0<=u.1.2.2.2.1 /\ (u.2.2.2.2.1.length:Int)+u.1.2.2.2.1<=3 /\ 1<=(u.2.2.2.2.1.length:Int)+u.1.2.2.2.1)
  (fun _ r=>Pst r fun y=>a0a y.2.1 /\ 1<=y.2.2.2.2.1.length /\ y.2.2.2.2.1.length<=3) (fun u=>u.1.2.2.2.1.toNat) ?_ _ _ ⟨h,b,p,s⟩ ?_
 ·rintro⟨⟨_,_,_,n,_⟩,⟨c0,c1,c2,_⟩,_,_,l,_⟩ f ⟨g0,g1,g2,g3⟩ ih;dsimp only at g0 g1 g2 g3 ih;unfold d0q;dsimp only;by_cases d:n>0
  ·refine a0d (by simpa using d) ?_;refine a0d (a0k _ cu) ?_;refine a0d (a0k _ cu) ?_;have k:a0a (G34 (((),8001,()),(G34 (((),8001,()),(c0,c1,c2,()),())).snd)).snd.fst:=cu;generalize w:G34 (((),8001,()),(c0,c1,c2,()),())=A at *;generalize x:G34 (((),8001,()),A.snd)=B at *;generalize (nearest FloatKind.f64 (wrap IntKind.i64 (A.fst.fst-4000)),nearest FloatKind.f64 (wrap IntKind.i64 (B.fst.fst-4000)))=at0;have t:=c5S (((),(),(),n,(),0,()),B.snd.fst,((),(),()),((),(),()),l,(at0,(0,0),(0,0),(0,0),(0,0),(0,0),(0,0),(0,0),(0,0),(0,0),(0,0),(0,0),(0,0),(0,0),()),()) k (Int.le_refl 0);obtain⟨y,g,q1,i,j⟩:=t;have m:c4g (((),(),(),n,(),0,()),B.snd.fst,((),(),()),((),(),()),l,(at0,(0,0),(0,0),(0,0),(0,0),(0,0),(0,0),(0,0),(0,0),(0,0),(0,0),(0,0),(0,0),(0,0),()),())=true:=by unfold c4g;rw[g];rfl
   have o:c4h (((),(),(),n,(),0,()),B.snd.fst,((),(),()),((),(),()),l,(at0,(0,0),(0,0),(0,0),(0,0),(0,0),(0,0),(0,0),(0,0),(0,0),(0,0),(0,0),(0,0),(0,0),()),())=y:=by unfold c4h;rw[g];rfl
   refine a0d m ?_;rw[o];obtain⟨⟨_,_,_,a,_,_⟩,c,_,_,l',z,_⟩:=y;dsimp only at q1 i j;subst i j;dsimp only;have e:IntKind.i64.wrap (a-1)=a-1:=w64 (by omega) (by omega);refine a0d (a1j _ cu) ?_;refine a0V (fun _=>?_) (fun _=>?_)
   all_goals
    refine a0d (a0v (by simp only[length_set,length_replicate];omega)) ?_;refine ih _ ⟨cu,?_,?_,?_⟩ ?_
    ·show 0<=IntKind.i64.wrap (a-1);omega
    ·simp only[e,length_append,length_set,length_replicate];omega
    ·simp only[e,length_append,length_set,length_replicate];omega
    ·show(IntKind.i64.wrap (a-1)).toNat<a.toNat;omega
  ·have hd:decide (n>0)=false:=by simpa using d
   rw[hd];exact a0h ⟨g0,by show 1<=l.length;omega,by show l.length<=3;omega⟩
 ·unfold d8T;have:=b;omega
theorem c0L (v:b3r) (h:a0a v.2.1) (a:0<=v.1.2.2.2.2.1) (c:(v.2.2.2.2.2.1.length:Int)+v.1.2.2.2.2.1<=5) (d:1<=(v.2.2.2.2.2.1.length:Int)+v.1.2.2.2.2.1):Pst (b7T v) fun y=>a0a y.2.1 /\ y.2.2.2.2.1=v.2.2.2.2.1 /\ 1<=y.2.2.2.2.2.1.length /\ y.2.2.2.2.2.1.length<=5:=by
 refine a0C (q:=b7S) (fun u=>a0a u.2.1 /\ u.2.2.2.2.1=v.2.2.2.2.1 /\ 0<=u.1.2.2.2.2.1 /\ (u.2.2.2.2.2.1.length:Int)+u.1.2.2.2.2.1<=5 /\ 1<=(u.2.2.2.2.2.1.length:Int)+u.1.2.2.2.2.1)
  (fun _ r=>Pst r fun y=>a0a y.2.1 /\ y.2.2.2.2.1=v.2.2.2.2.1 /\ 1<=y.2.2.2.2.2.1.length /\ y.2.2.2.2.2.1.length<=5) (fun u=>u.1.2.2.2.2.1.toNat) ?_ _ _ ⟨h,rfl,a,c,d⟩ ?_
 ·rintro⟨⟨_,_,_,t,n,_⟩,⟨c0,c1,c2,_⟩,_,_,l,hs,_⟩ f ⟨g0,g1,g2,g3,g4⟩ ih;dsimp only at g0 g1 g2 g3 g4 ih;unfold b7S;dsimp only;by_cases b:n>0
  ·refine a0d (by simpa using b) ?_;refine a0d (a0v (by simp only[length_set,length_replicate];omega)) ?_;refine a0d (a0k _ cu) ?_;refine a0d (a0k _ cu) ?_;have e:IntKind.i64.wrap (n-1)=n-1:=w64 (by omega) (by omega);refine ih _ ⟨cu,g1,?_,?_,?_⟩ ?_
   ·show 0<=IntKind.i64.wrap (n-1);omega
   ·simp only[e,length_append,length_set,length_replicate];omega
   ·simp only[e,length_append,length_set,length_replicate];omega
   ·show(IntKind.i64.wrap (n-1)).toNat<n.toNat;omega
  ·have hd:decide (n>0)=false:=by simpa using b
   rw[hd];exact a0h ⟨g0,g1,by show 1<=hs.length;omega,by show hs.length<=5;omega⟩
 ·unfold c4e;have:=a;omega
theorem b8J (d n:Int) (hd:0<=d /\ d<n) (a:n<=100):1<=IntKind.i64.wrap (1+d) /\ IntKind.i64.wrap (1+d)<=n:=by
 rw[w64 (by omega) (by omega)];omega
theorem c5T (x:I74.den) (h:a0a x.2.1):Pst (F74 x) fun y=>a0a y.2.1 /\ (1<=y.2.2.1.length /\ y.2.2.1.length<=3) /\ 1<=y.2.2.2.1.length /\ y.2.2.2.1.length<=5:=by
 unfold F74;dsimp only;refine a0d (a0k _ cu) ?_;have b:=b8J _ 3 (a0O 3 x.2.1 h (by decide)) (by decide);have o:a0a (G34 (((),3,()),x.snd)).snd.fst:=cu;have b:1<=IntKind.i64.wrap (1+(G34 (((),3,()),x.snd)).fst.fst) /\ IntKind.i64.wrap (1+(G34 (((),3,()),x.snd)).fst.fst)<=3:=b;generalize G34 (((),3,()),x.snd)=A at *;generalize IntKind.i64.wrap (1+A.fst.fst)=n at *;obtain⟨y,a,q1,e,f⟩:=b1y (((),(),(),n,()),A.snd.fst,((),(),()),((),(),()),[],()) o (by show 0<=n;omega) (by show(0:Int)+n<=3;omega) (by show 1<=(0:Int)+n;omega);have r:c4j (((),(),(),n,()),A.snd.fst,((),(),()),((),(),()),[],())=true:=by unfold c4j;rw[a];rfl
 have s:c4k (((),(),(),n,()),A.snd.fst,((),(),()),((),(),()),[],())=y:=by unfold c4k;rw[a];rfl
 refine a0d r ?_;rw[s];obtain⟨_,c,_,_,l,_⟩:=y;dsimp only at q1 e f ⊢;refine a0d (a0k _ cu) ?_;have p:a0a (G34 (((),30000,()),c,())).snd.fst:=cu;generalize G34 (((),30000,()),c,())=B at *;refine a0d (a0k _ cu) ?_;have d:=b8J _ 5 (a0O 5 B.2.1 p (by decide)) (by decide);have q:a0a (G34 (((),5,()),B.snd)).snd.fst:=cu;have d:1<=IntKind.i64.wrap (1+(G34 (((),5,()),B.snd)).fst.fst) /\ IntKind.i64.wrap (1+(G34 (((),5,()),B.snd)).fst.fst)<=5:=d;generalize G34 (((),5,()),B.snd)=C at *;generalize IntKind.i64.wrap (1+C.fst.fst)=m at *;obtain⟨y,a,g,i,j,k⟩:=c0L (((),(),(),B.fst.fst,m,()),C.snd.fst,((),(),()),((),(),()),l,[],()) q (by show 0<=m;omega) (by show(0:Int)+m<=5;omega) (by show 1<=(0:Int)+m;omega);have t:b5v (((),(),(),B.fst.fst,m,()),C.snd.fst,((),(),()),((),(),()),l,[],())=true:=by unfold b5v;rw[a];rfl
 have u:b5w (((),(),(),B.fst.fst,m,()),C.snd.fst,((),(),()),((),(),()),l,[],())=y:=by unfold b5w;rw[a];rfl
 refine a0d t ?_;rw[u];obtain⟨_,c',_,_,l',v,_⟩:=y;dsimp only at g i j k ⊢;subst i;exact a0h ⟨g,⟨e,f⟩,j,k⟩
theorem d6c (x:I74.den) (h:a0a x.2.1):K74 x=true:=a1H (c5T x h)
theorem d6d (x:I74.den) (h:a0a x.2.1):a0a (G74 x).2.1 /\ (1<=(G74 x).2.2.1.length /\ (G74 x).2.2.1.length<=3) /\ 1<=(G74 x).2.2.2.1.length /\ (G74 x).2.2.2.1.length<=5:=a1I _ (c5T x h)
theorem e6w (d:Int) (h:0<=d /\ d<2):IntKind.i64.wrap (20+d)<=21:=by
 rw[w64 (by omega) (by omega)];omega
theorem b5H (v:b3u) (h:a0a v.2.1) (c:1<=v.2.2.2.2.1.length) (d:v.2.2.2.2.1.length<=21):Pst (b7Z v) fun y=>a0a y.2.1 /\ y.2.2.2.2.1.length<=21 /\ y.2.2.2.2.2.1=v.2.2.2.2.2.1:=by
 refine a0C (q:=b7Y) (fun u=>a0a u.2.1 /\ 1<=u.2.2.2.2.1.length /\ u.2.2.2.2.1.length<=21 /\ u.2.2.2.2.2.1=v.2.2.2.2.2.1)
  (fun _ r=>Pst r fun y=>a0a y.2.1 /\ y.2.2.2.2.1.length<=21 /\ y.2.2.2.2.2.1=v.2.2.2.2.2.1) (fun u=>21-u.2.2.2.2.1.length) ?_ _ _ ⟨h,c,d,rfl⟩ ?_
 ·rintro⟨_,⟨c0,c1,c2,_⟩,_,_,l,hs,_⟩ f ⟨g0,g1,g2,g3⟩ ih;dsimp only at g0 g1 g2 g3 ih;unfold b7Y;dsimp only;refine a0d (a0k _ cu) ?_;have b:=a0O 2 (c0,c1,c2,()) g0 (by decide);have e:IntKind.i64.wrap (20+(G34 (((),2,()),(c0,c1,c2,()),())).fst.fst)<=21:=e6w _ b;refine a0V (fun a=>?_) (fun _=>a0h ⟨cu,g2,g3⟩);have a:(l.length:Int)<IntKind.i64.wrap (20+(G34 (((),2,()),(c0,c1,c2,()),())).fst.fst):=by simpa using a
  refine a0d (by simp;omega) ?_;refine a0d (a0v (by simp only[length_set,length_replicate];omega)) ?_;refine ih _ ⟨cu,?_,?_,g3⟩ ?_<;>simp only[length_append,length_set,length_replicate]<;>omega
 ·unfold c4r;omega
def p79 (x:I79.den):Bool:=c8I x.2.1
def a6R (t:Den S30):Prop:=t.1.length<=21 /\ t.2.1.length<=6
def Q79 (x:I79.den) (y:O79.den):Prop:=a0a y.2.1 /\ a6R y.1.1
theorem e79:Nonempty (Ch I79 O79 p79 Q79):=⟨⟨fun _=>((([],[],()),()),(d0Z,())),fun _ _=>⟨a4A,by show 0<=21;decide,by show 0<=6;decide⟩⟩⟩
theorem f5H:a1T Tryz.prog 79 (a2w true I79 O79 p79 Q79 e79):=a9P f3I (N:=N79 p128 Q128 e128) (a4h ⟨d6b,trivial⟩) g1K a1L fun x K k b=>by
 have b:∀y:O79.den,a0a y.2.1->y.1.1.1.length<=21->y.1.1.2.1.length<=6->k y=some ():=fun y H I J=>b y ⟨H,I,J⟩
 have h:a0a x.2.1:=a0W.1 K;refine Eq.trans (f3M _ _ _ k x) ?_;unfold f9g;dsimp only
 haveI:=e128
 have u:=d6d (((),()),x.snd) h;refine a0p (d6c _ h) ?_;generalize G74 (((),()),x.snd)=T at *;obtain⟨_,c,l,a,_⟩:=T;dsimp only at u ⊢;obtain⟨L,⟨M,P⟩,Q,R⟩:=u;refine a0p (a0k _ cu) ?_;have n:=a0O (l.length:Int) c L (by omega);have v:a0a (G34 (((),(l.length:Int),()),c,())).snd.fst:=cu;generalize G34 (((),(l.length:Int),()),c,())=A at *;obtain⟨⟨i,_⟩,o,_⟩:=A;dsimp only at n v ⊢;refine a0p (a0k _ cu) ?_;have d:a0a (G34 (((),24,()),o,())).snd.fst:=cu;generalize G34 (((),24,()),o,())=B at *;have e:(decide (0<=i)&&decide (i<(l.length:Int)))=true:=by simp only[and_eq_true,decide_eq_true_eq];exact n
 refine a1m (fun _=>?_) (fun _=>?_)
 ·refine a0p (b3x _ d) ?_;have w:=d9c (((),()),B.snd) d;generalize G82 (((),()),B.snd)=C at *;refine a0p (d9E _ (by simp)) ?_;refine a0p e ?_;exact b _ w (by simp only[length_set];omega) (by show a.length<=6;omega)
 refine a1m (fun _=>?_) (fun _=>?_)
 ·refine a0t fun g=>?_
  refine a0p (a0k _ cu) ?_;have f:=a0O 13 B.2.1 d (by decide);have f:0<=(G34 (((),13,()),B.snd)).fst.fst /\ (G34 (((),13,()),B.snd)).fst.fst<13:=f;have z:a0a (G34 (((),13,()),B.snd)).snd.fst:=cu;generalize G34 (((),13,()),B.snd)=D at *;have p:p128 (((),()),D.snd)=true:=a0W.2 z;have q1:a0a (g.val (((),()),D.snd)).2.1:=g.2 _ p;refine a0p p ?_;generalize g.val (((),()),D.snd)=C at *;refine a0p e ?_;refine a0p (by simp only[and_eq_true,decide_eq_true_eq];exact f) ?_;exact b _ q1 (by simp only[length_set];omega) (by show a.length<=6;omega)
 refine a1m (fun _=>?_) (fun _=>?_)
 ·refine a0p (a0k _ cu) ?_;have j:=a0O (a.length:Int) B.2.1 d (by omega);have j:0<=(G34 (((),(a.length:Int),()),B.snd)).fst.fst /\ (G34 (((),(a.length:Int),()),B.snd)).fst.fst<(a.length:Int):=j;have O:a0a (G34 (((),(a.length:Int),()),B.snd)).snd.fst:=cu;generalize G34 (((),(a.length:Int),()),B.snd)=D at *;refine a0p (a6P _ cu) ?_;refine a0p (by simp only[and_eq_true,decide_eq_true_eq];exact j) ?_;exact b _ cu (by show l.length<=21;omega) (by simp only[length_set];omega)
 refine a1m (fun _=>b _ d (by show l.length<=21;omega) (by show 0<=6;decide)) (fun _=>?_);refine a1m (fun _=>b _ d (by show 0<=21;decide) (by show a.length<=6;omega)) (fun _=>?_);refine a1m (fun _=>?_) (fun _=>?_)
 ·obtain⟨y,q,r,s,t⟩:=b5H (((),(),(),()),B.snd.fst,((),(),()),((),(),()),l,a,()) d M (by show l.length<=21;omega);have E:b5A (((),(),(),()),B.snd.fst,((),(),()),((),(),()),l,a,())=true:=by unfold b5A;rw[q];rfl
  have F:b5B (((),(),(),()),B.snd.fst,((),(),()),((),(),()),l,a,())=y:=by unfold b5B;rw[q];rfl
  refine a0p E ?_;rw[F];obtain⟨_,c',_,_,l',m,_⟩:=y;dsimp only at r s t ⊢;subst t;exact b _ r s (by show m.length<=6;omega)
 refine a1m (fun _=>?_) (fun _=>b _ d (by show l.length<=21;omega) (by show a.length<=6;omega));have G:IntKind.i64.wrap ((a.length:Int)-1)=(a.length:Int)-1:=w64 (by omega) (by omega);rw[G];refine a0p (by simp only[and_eq_true,decide_eq_true_eq];omega) ?_;refine a0p (a0v (by simp only[length_set,length_replicate];omega)) ?_;exact b _ d (by show l.length<=21;omega) (by simp only[length_append,length_set,length_replicate];omega)
def e9Z:List (Nat×TI):=[
 (1,⟨1,8,false,.nil,[.pois],[],0,.other⟩),
 (2,⟨1,8,false,.int .i64,[.int .i64 0],[],0,.int .i64⟩),
 (3,⟨1,8,false,.int .i64,[.int .i64 0],[],0,.int .i64⟩),
 (4,⟨1,1,false,.bool,[.bool false],[],0,.bool⟩),
 (5,⟨1,1,false,.int .u8,[.int .u8 0],[],0,.int .u8⟩),
 (9,⟨1,16,false,.str,[.str ByteArray.empty],[],0,.string⟩),
 (10,⟨1,16,false,.str,[.str ByteArray.empty],[],0,.string⟩),
 (22,⟨1,24,false,.slice (.int .u8),[.nil (.int .u8)],[],5,.slice⟩),
 (24,⟨1,24,false,.slice .jnk,[.nil (.flt .f32)],[],62,.slice⟩),
 (25,⟨1,24,false,.slice (.int .i64),[.nil (.int .i64)],[],3,.slice⟩),
 (26,⟨1,24,false,.slice (.slice .jnk),[.nil (.slice .jnk)],[],24,.slice⟩),
 (28,⟨3,72,true,S27,[.nil (.flt .f32),.nil (.int .i64),.nil (.slice .jnk)],[(0,1,false),(1,1,false),(2,1,false)],0,.struct⟩),
 (50,⟨1,24,false,.slice (.bool),[.nil (.bool)],[],4,.slice⟩),
 (62,⟨1,4,false,.flt .f32,[.flt .f32 0],[],0,.float .f32⟩),
 (104,⟨1,8,false,.int .u64,[.int .u64 0],[],0,.int .u64⟩),
 (109,⟨1,8,false,.flt .f64,[.flt .f64 0],[],0,.float .f64⟩),
 (122,⟨3,40,true,a1M,[.nil (.int .u8),.int .i64 0,.int .i64 0],[(0,1,false),(1,1,false),(2,1,false)],0,.struct⟩),
 (142,⟨1,8,false,.nil,[.pois],[],0,.other⟩),
 (208,⟨1,8,false,.nil,[.pois],[],0,.other⟩),
 (240,⟨1,8,false,.nil,[.pois],[],0,.other⟩)]
theorem d9F:e8L Tryz.prog e9Z=true:=by kernel_rfl
theorem d6e {sems fn lps frz cut past rown} (a:a6u (a0f Tryz.prog) sems):a1o Tryz.prog (gE sems fn lps frz cut past rown e9Z):=b2C mixed d9F b2U a
set_option maxRecDepth 100000
set_option maxHeartbeats 0
abbrev c5U:Sg:=⟨[.ptr 0],[.box (a1M)]⟩
abbrev d1c:Sg:=⟨[.mix [.ref (.flt .f32) 1,.ref (.int .i64) 2,.ref (.slice (.jnk)) 3]],[.box (a1M),.arr (.flt .f32),.arr (.int .i64),.arr (.slice (.jnk))]⟩
abbrev a6f:Type:=(Unit×Unit×Unit×Nat×Int×b2X)×ty2×a7u×a7u×b2V×ty4×List (Den (.slice (.jnk)))×b2V×Unit
abbrev b8K:Type:=(Unit×Unit×Unit×Nat×Int×List (Den (.jnk))×Unit)×ty8
def b8L:LX:=⟨[0,2,3,6,7,8,9],[],4,[0,2,3,6,7,8],[.jnk 8],⟨li5,[(0,bx0),(1,bx3),(2,bx5),(3,.arr (.flt .f32)),(4,.arr (.int .i64)),(5,.arr (.slice (.jnk))),(6,.arr (.flt .f32))],7,1⟩,⟨[(0,om1),(2,om2),(3,om3),(6,om7),(7,om0),(8,.one (.sl (.jnk)))],li3,6,1⟩⟩
def a7K (f:a6f->Option (b8K)) (v:a6f):Option (b8K):=bif decide (v.1.2.2.2.2.2.2.1<(length v.2.2.2.2.2.1:Int)) then bif K34 (((),57,()),v.2.1,()) then bif v.1.2.2.2.2.2.2.1==0 then let a:=G34 (((),57,()),v.2.1,());bif K77 (((),8,()),a.2) then let b:=G77 (((),8,()),a.2);bif !b.1.1 then bif fgt .f32 v.1.2.2.2.1 1084227584 then bif K34 (((),40,()),b.2) then let c:=G34 (((),40,()),b.2);let d:=set (replicate 1 (zero (Ty.flt .f32))) 0 (a0b .add .f32 0 (a0b .quo .f32 (nearest .f32 c.1.1) 1098907648));bif a0n (length v.2.2.2.2.2.2.2.1+length d) then f ((((),(),(),v.1.2.2.2.1,v.1.2.2.2.2.1,(),wrap .i64 (v.1.2.2.2.2.2.2.1+1),()),c.2.1,((),(),(),()),((),(),(),()),v.2.2.2.2.1,v.2.2.2.2.2.1,v.2.2.2.2.2.2.1,v.2.2.2.2.2.2.2.1++d,()))else none else none else let e:=set (replicate 1 (zero (Ty.flt .f32))) 0 0;bif a0n (length v.2.2.2.2.2.2.2.1+length e) then f ((((),(),(),v.1.2.2.2.1,v.1.2.2.2.2.1,(),wrap .i64 (v.1.2.2.2.2.2.2.1+1),()),b.2.1,((),(),(),()),((),(),(),()),v.2.2.2.2.1,v.2.2.2.2.2.1,v.2.2.2.2.2.2.1,v.2.2.2.2.2.2.2.1++e,()))else none else bif fgt .f32 v.1.2.2.2.1 1084227584 then bif K34 (((),40,()),b.2) then let h:=G34 (((),40,()),b.2);let g:=set (replicate 1 (zero (Ty.flt .f32))) 0 (a0b .add .f32 (a0b .quo .f32 (nearest .f32 (wrap .i64 (8+a.1.1))) 1098907648) (a0b .quo .f32 (nearest .f32 h.1.1) 1098907648));bif a0n (length v.2.2.2.2.2.2.2.1+length g) then f ((((),(),(),v.1.2.2.2.1,v.1.2.2.2.2.1,(),wrap .i64 (v.1.2.2.2.2.2.2.1+1),()),h.2.1,((),(),(),()),((),(),(),()),v.2.2.2.2.1,v.2.2.2.2.2.1,v.2.2.2.2.2.2.1,v.2.2.2.2.2.2.2.1++g,()))else none else none else let i:=set (replicate 1 (zero (Ty.flt .f32))) 0 (a0b .quo .f32 (nearest .f32 (wrap .i64 (8+a.1.1))) 1098907648);bif a0n (length v.2.2.2.2.2.2.2.1+length i) then f ((((),(),(),v.1.2.2.2.1,v.1.2.2.2.2.1,(),wrap .i64 (v.1.2.2.2.2.2.2.1+1),()),b.2.1,((),(),(),()),((),(),(),()),v.2.2.2.2.1,v.2.2.2.2.2.1,v.2.2.2.2.2.2.1,v.2.2.2.2.2.2.2.1++i,()))else none else none else bif fgt .f32 v.1.2.2.2.1 1084227584 then let a:=G34 (((),57,()),v.2.1,());bif K34 (((),40,()),a.2) then let c:=G34 (((),40,()),a.2);let d:=set (replicate 1 (zero (Ty.flt .f32))) 0 (a0b .add .f32 (a0b .quo .f32 (nearest .f32 (wrap .i64 (8+a.1.1))) 1098907648) (a0b .quo .f32 (nearest .f32 c.1.1) 1098907648));bif a0n (length v.2.2.2.2.2.2.2.1+length d) then f ((((),(),(),v.1.2.2.2.1,v.1.2.2.2.2.1,(),wrap .i64 (v.1.2.2.2.2.2.2.1+1),()),c.2.1,((),(),(),()),((),(),(),()),v.2.2.2.2.1,v.2.2.2.2.2.1,v.2.2.2.2.2.2.1,v.2.2.2.2.2.2.2.1++d,()))else none else none else let a:=G34 (((),57,()),v.2.1,());let e:=set (replicate 1 (zero (Ty.flt .f32))) 0 (a0b .quo .f32 (nearest .f32 (wrap .i64 (8+a.1.1))) 1098907648);bif a0n (length v.2.2.2.2.2.2.2.1+length e) then f ((((),(),(),v.1.2.2.2.1,v.1.2.2.2.2.1,(),wrap .i64 (v.1.2.2.2.2.2.2.1+1),()),a.2.1,((),(),(),()),((),(),(),()),v.2.2.2.2.1,v.2.2.2.2.2.1,v.2.2.2.2.2.2.1,v.2.2.2.2.2.2.2.1++e,()))else none else none else some (((),(),(),v.1.2.2.2.1,v.1.2.2.2.2.1,List.map (fun x=>()) v.2.2.2.2.2.2.2.1,()),v.2.1,((),(),(),()),((),(),(),()),v.2.2.2.2.1,v.2.2.2.2.2.1,v.2.2.2.2.2.2.1,())
def b1z (v:a6f):Nat:=v.1.2.2.2.2.1.natAbs+v.1.2.2.2.2.2.2.1.natAbs+v.2.1.1.length+v.2.1.2.1.natAbs+v.2.1.2.2.1.natAbs+v.2.2.2.2.1.length+v.2.2.2.2.2.1.length+v.2.2.2.2.2.2.1.length+v.2.2.2.2.2.2.2.1.length+1000
def a6g (v:a6f):=a0K a7K (b1z v) v
def c5V (v):=(a6g v).isSome
def a2z (v):=(a6g v).getD default
abbrev a6h:Type:=(Unit×Unit×Unit×Nat×ty7)×ty8
abbrev b8M:Type:=ty5×ty8
def b8N:LX:=⟨[0,2,3,6,7],[.boxNil 3 0,.boxNil 3 2],2,[2,3],[],⟨[(0,om1),(2,om2),(3,om3),(6,om7),(7,om0)],li3,6,1⟩,⟨li8,li3,6,1⟩⟩
def a7L (f:a6h->Option (b8M)) (v:a6h):Option (b8M):=bif decide (v.1.2.2.2.2.1>0) then let b:=zero (Ty.flt .f32);let c:=set (replicate 1 b) 0 v.1.2.2.2.1;bif a0n (length v.2.2.2.2.1+length c) then let h:=v.2.2.2.2.1++c;let d:=(((),(),(),v.1.2.2.2.1,v.1.2.2.2.2.1,(),0,()),v.2.1,((),(),(),()),((),(),(),()),h,v.2.2.2.2.2.1,v.2.2.2.2.2.2.1,replicate 0 b,());bif c5V d then let a:=a2z d;let e:=set (replicate 1 (zero (Ty.slice Ty.jnk))) 0 a.1.2.2.2.2.2.1;bif a0n (length a.2.2.2.2.2.2.1+length e) then bif K34 (((),40,()),a.2.1,()) then let g:=G34 (((),40,()),a.2.1,());f ((((),(),(),a0b .add .f32 a.1.2.2.2.1 (a0b .quo .f32 (nearest .f32 (wrap .i64 (1+g.1.1))) 1090519040),wrap .i64 (a.1.2.2.2.2.1-1),()),g.2.1,((),(),(),()),((),(),(),()),a.2.2.2.2.1,a.2.2.2.2.2.1,a.2.2.2.2.2.2.1++e,()))else none else none else none else none else some (((),(),()),v.2.1,((),(),(),()),((),(),(),()),v.2.2.2.2)
def b1A (v:a6h):Nat:=v.1.2.2.2.2.1.natAbs+v.2.1.1.length+v.2.1.2.1.natAbs+v.2.1.2.2.1.natAbs+v.2.2.2.2.1.length+v.2.2.2.2.2.1.length+v.2.2.2.2.2.2.1.length+1000
def a6i (v:a6h):=a0K a7L (b1A v) v
def a8J (v):=(a6i v).isSome
def a2A (v):=(a6i v).getD default
abbrev a8K:Type:=d2S×e8U
abbrev c5W:Type:=a7u×e8U
def c5X:LX:=⟨[0,2,3,5],[],0,[0,2,3],[],⟨[(0,om1),(2,om2),(3,om3),(5,om0)],[(0,bx0),(1,bx3),(2,f8h),(3,.arr (.int .i64))],4,1⟩,⟨li7,[(0,bx0),(1,bx3),(2,f8h),(3,.arr (.int .i64))],4,1⟩⟩
def b1B (f:a8K->Option (c5W)) (v:a8K):Option (c5W):=bif decide (v.1.2.2.2.1>0) then bif decide (v.1.2.2.2.1<180) then bif decide ((length v.2.2.2.2.1:Int)<20) then let a:=set (replicate 1 (zero (Ty.int IntKind.i64))) 0 v.1.2.2.2.1;bif a0n (length v.2.2.2.2.1+length a) then bif K34 (((),50,()),v.2.1,()) then let b:=G34 (((),50,()),v.2.1,());f ((((),(),(),wrap .i64 ((wrap .i64 (v.1.2.2.2.1+5))+b.1.1),()),b.2.1,((),(),(),()),((),(),(),()),v.2.2.2.2.1++a,()))else none else none else some (((),(),(),()),v.2.1,((),(),(),()),((),(),(),()),v.2.2.2.2)else some (((),(),(),()),v.2.1,((),(),(),()),((),(),(),()),v.2.2.2.2)else some (((),(),(),()),v.2.1,((),(),(),()),((),(),(),()),v.2.2.2.2)
def b5I (v:a8K):Nat:=v.1.2.2.2.1.natAbs+v.2.1.1.length+v.2.1.2.1.natAbs+v.2.1.2.2.1.natAbs+v.2.2.2.2.1.length+1000
def a8L (v:a8K):=a0K b1B (b5I v) v
def b1C (v):=(a8L v).isSome
def a4e (v):=(a8L v).getD default
def d1d (x:c5U.den):Option (d1c.den):=bif K34 (((),25,()),x.2) then let j:=G34 (((),25,()),x.2);bif K77 (((),6,()),j.2) then let k:=G77 (((),6,()),j.2);bif k.1.1 then let p:=replicate 1 (zero (Ty.int IntKind.i64));let l:=set p 0 0;let q:=(((),(),(),0,()),k.2.1,((),(),(),()),((),(),(),()),l,());bif b1C q then let i:=a4e q;let c:=set p 0 180;bif a0n (length i.2.2.2.2.1+length c) then bif K34 (((),4,()),i.2.1,()) then let m:=G34 (((),4,()),i.2.1,());bif K34 (((),4,()),m.2) then let n:=wrap .i64 (1+m.1.1);let a:=G34 (((),4,()),m.2);let b:=wrap .i64 (1+a.1.1);let d:=i.2.2.2.2.1++c;let r:=(((),(),(),nearest .f32 n,b,()),a.2.1,((),(),(),()),((),(),(),()),[],d,[],());bif a8J r then let g:=a2A r;some ((((),(),(),()),()),g.2.1,g.2.2.2.2)else none else none else none else none else none else let l:=wrap .i64 (20+j.1.1);let s:=replicate 1 (zero (Ty.int IntKind.i64));let y:=set s 0 0;let t:=(((),(),(),l,()),k.2.1,((),(),(),()),((),(),(),()),y,());bif b1C t then let c:=a4e t;let u:=set s 0 180;bif a0n (length c.2.2.2.2.1+length u) then bif K34 (((),4,()),c.2.1,()) then let e:=G34 (((),4,()),c.2.1,());bif K34 (((),4,()),e.2) then let a:=wrap .i64 (1+e.1.1);let b:=G34 (((),4,()),e.2);let d:=wrap .i64 (1+b.1.1);let o:=c.2.2.2.2.1++u;let w:=(((),(),(),nearest .f32 a,d,()),b.2.1,((),(),(),()),((),(),(),()),[],o,[],());bif a8J w then let h:=a2A w;some ((((),(),(),()),()),h.2.1,h.2.2.2.2)else none else none else none else none else none else none else none
def d9G (x):=(d1d x).isSome
def b5J (x):=(d1d x).getD (a0Y d1c)
def e6x:=(73,a0H true c5U d1c d9G b5J)
noncomputable def c5Y:=gE [m34,m77] Tryz.f73 (lps:=[(6,lmX c5X a8L),(12,lmX b8N a6i),(17,lmX b8L a6g)]) (tb:=e9Z)
theorem c5Z:EvX c5Y (lp Tryz.f73 0) c5X b1B:=fun _ _=>by kernel_rfl
theorem c0M:EvX c5Y (lp Tryz.f73 1) b8N a7L:=fun _ _=>by kernel_rfl
theorem c0N:EvX c5Y (lp Tryz.f73 2) b8L a7K:=fun _ _=>by kernel_rfl
theorem d9H:a0f Tryz.prog e6x:=a2Y (d6e (s2 a2N a5t)) (a1F Tryz.func73 rfl rfl rfl (by kernel_rfl) (a0j (by kernel_rfl) (s3 (lX c5Z b5I) (lX c0M b1A) (lX c0N b1z)))) true fun _=>by kernel_rfl
abbrev I78:Sg:=⟨[.ptr 0],[.box (a1M)]⟩
abbrev O78:Sg:=⟨[.val (.cons (.slice (.flt .f32)) (.cons (.slice (.int .i64)) (.cons (.slice (.slice .jnk)) (.nil))))],[.box (a1M)]⟩
abbrev b3S:Type:=(Unit×Unit×Int×a6K)×ty8
abbrev d6f:Type:=ty5×ty8
def d6g:LX:=⟨[2,3,4,117,118],[],3,[2,3],[],⟨[(2,om2),(3,om3),(4,om0),(117,om0),(118,om0)],li3,6,1⟩,⟨li8,li3,6,1⟩⟩
def b8O (f:b3S->Option (d6f)) (v:b3S):Option (d6f):=bif decide (v.1.2.2.2.2.1<v.1.2.2.2.1) then bif decide (0<=v.1.2.2.1)&&decide (v.1.2.2.1<(length v.2.2.2.2.2.2.1:Int)) then bif decide (0<=v.1.2.2.2.2.1)&&decide (v.1.2.2.2.2.1<(↑(length (getD v.2.2.2.2.2.2.1 (toNat v.1.2.2.1) (zero (Ty.slice Ty.jnk)))):Int)) then f ((((),(),v.1.2.2.1,v.1.2.2.2.1,wrap .i64 (v.1.2.2.2.2.1+1),()),v.2.1,((),(),(),()),((),(),(),()),v.2.2.2.2))else none else none else some (((),(),()),v.2.1,((),(),(),()),((),(),(),()),v.2.2.2.2)
def c6a (v:b3S):Nat:=v.1.2.2.1.natAbs+v.1.2.2.2.1.natAbs+v.1.2.2.2.2.1.natAbs+v.2.1.1.length+v.2.1.2.1.natAbs+v.2.1.2.2.1.natAbs+v.2.2.2.2.1.length+v.2.2.2.2.2.1.length+v.2.2.2.2.2.2.1.length+1000
def b3T (v:b3S):=a0K b8O (c6a v) v
def d9I (v):=(b3T v).isSome
def b5K (v):=(b3T v).getD default
abbrev b3U:Type:=a7u×ty8
abbrev d6h:Type:=ty5×ty8
def d6i:LX:=⟨[0,2,3],[],1,[2,3],[],⟨li7,li3,6,1⟩,⟨li8,li3,6,1⟩⟩
def b8P (f:b3U->Option (d6h)) (v:b3U):Option (d6h):=bif K34 (((),2,()),v.2.1,()) then let a:=G34 (((),2,()),v.2.1,());let b:=(length v.2.2.2.2.1:Int);bif decide (b<(wrap .i64 (12+a.1.1))) then let c:=wrap .i64 (b-1);bif decide (0<=c)&&decide (c<b) then let d:=zero (Ty.flt .f32);let e:=set (replicate 1 d) 0 (a0b .add .f32 (getD v.2.2.2.2.1 (toNat c) d) 1065353216);bif a0n (length v.2.2.2.2.1+length e) then bif decide (0<=0)&&decide (0<(length v.2.2.2.2.2.2.1:Int)) then let g:=set (replicate 1 (zero (Ty.slice Ty.jnk))) 0 (getD v.2.2.2.2.2.2.1 (toNat 0) (zero (Ty.slice Ty.jnk)));bif a0n (length v.2.2.2.2.2.2.1+length g) then f ((((),(),(),()),a.2.1,((),(),(),()),((),(),(),()),v.2.2.2.2.1++e,v.2.2.2.2.2.1,v.2.2.2.2.2.2.1++g,()))else none else none else none else none else some (((),(),()),a.2.1,((),(),(),()),((),(),(),()),v.2.2.2.2)else none
def c6b (v:b3U):Nat:=v.2.1.1.length+v.2.1.2.1.natAbs+v.2.1.2.2.1.natAbs+v.2.2.2.2.1.length+v.2.2.2.2.2.1.length+v.2.2.2.2.2.2.1.length+1000
def b3V (v:b3U):=a0K b8P (c6b v) v
def d9J (v):=(b3V v).isSome
def a8M (v):=(b3V v).getD default
noncomputable def e2q:=gE [e6x,m34,e4J] Tryz.f78 (lps:=[(18,lmX d6i b3V),(25,lmX d6g b3T)]) (rown:=[.frzBox 2]) (tb:=e9Z)
theorem d1e:EvX e2q (lp Tryz.f78 0) d6i b8P:=fun _ _=>by kernel_rfl
theorem d1f:EvX e2q (lp Tryz.f78 1) d6g b8O:=fun _ _=>by kernel_rfl
theorem f5I:a1o Tryz.prog e2q:=d6e (s3 d9H a2N b3t)
theorem g2j:a7b Tryz.prog 78 e2q (a0N Tryz.f78):=a1F Tryz.func78 rfl rfl rfl (by kernel_rfl) (a0j (by kernel_rfl) (s2 (lX d1e c6b) (lX d1f c6a)))
noncomputable def N78 (p141:KI a4M) (Q141:QI a4M a6M) (e141:Nonempty (Ch a4M a6M p141 Q141)):a6I:=mkN [(141,a2w true a4M a6M p141 Q141 e141)] []
noncomputable def g0a (p141:KI a4M) (Q141:QI a4M a6M) (e141:Nonempty (Ch a4M a6M p141 Q141)) (h:O78.den->Option Unit) (x:I78.den):Option Unit:=bif d9G (((),()),x.2) then let a:=b5J (((),()),x.2);let l:=(length a.2.2.1:Int);bif K34 (((),l,()),a.2.1,()) then let c:=G34 (((),l,()),a.2.1,());let m:=(length a.2.2.2.1:Int);bif K34 (((),m,()),c.2) then let d:=G34 (((),m,()),c.2);bif K34 (((),24,()),d.2) then let b:=G34 (((),24,()),d.2);bif b.1.1==0 then a3u fun(f:Ch a4M a6M p141 Q141)=>bif p141 (((),120,()),b.2) then bif decide (0<=c.1.1)&&decide (c.1.1<l) then let e:=f.val (((),120,()),b.2);h ((((set a.2.2.1 (toNat c.1.1) e.1.1,a.2.2.2),()),e.2))else none else none else bif b.1.1==1 then bif d4n (((),()),b.2) then bif decide (0<=d.1.1)&&decide (d.1.1<m) then let e:=d4o (((),()),b.2);h ((((a.2.2.1,set a.2.2.2.1 (toNat d.1.1) e.1.1,a.2.2.2.2),()),e.2))else none else none else bif b.1.1==2 then a3u fun(q:Ch a4M a6M p141 Q141)=>bif decide (0<=c.1.1)&&decide (c.1.1<(length a.2.2.2.2.1:Int)) then bif p141 (((),60,()),b.2) then bif decide (0<=d.1.1)&&decide (d.1.1<(↑(length (getD a.2.2.2.2.1 (toNat c.1.1) (zero (Ty.slice Ty.jnk)))):Int)) then h (((a.2.2,()),(q.val (((),60,()),b.2)).2))else none else none else none else bif b.1.1==3 then let n:=decide (0<=c.1.1)&&decide (c.1.1<(length a.2.2.2.2.1:Int));bif n then let i:=getD a.2.2.2.2.1 (toNat c.1.1) (zero (Ty.slice Ty.jnk));let j:=(length i:Int);bif decide (0<=1)&&decide (1<=j)&&decide (j<=j) then bif n then h ((((a.2.2.1,a.2.2.2.1,set a.2.2.2.2.1 (toNat c.1.1) (List.drop (toNat 1) (List.take (toNat j) i)),()),()),b.2))else none else none else none else bif b.1.1==4 then let k:=(length a.2.2.2.2.1:Int);bif decide (0<=1)&&decide (1<=k)&&decide (k<=k) then h ((((a.2.2.1,a.2.2.2.1,List.drop (toNat 1) (List.take (toNat k) a.2.2.2.2.1),()),()),b.2))else none else bif b.1.1==5 then h (((([],[],[],()),()),b.2))else bif b.1.1==6 then let o:=(((),(),(),()),b.2.1,((),(),(),()),((),(),(),()),a.2.2);bif d9J o then let e:=a8M o;h (((e.2.2.2.2,()),e.2.1,()))else none else bif b.1.1==7 then bif decide (0<=c.1.1)&&decide (c.1.1<(length a.2.2.2.2.1:Int)) then bif decide (0<=d.1.1)&&decide (d.1.1<(↑(length (getD a.2.2.2.2.1 (toNat c.1.1) (zero (Ty.slice Ty.jnk)))):Int)) then h (((a.2.2,()),b.2))else none else none else bif b.1.1==8 then bif decide (0<=c.1.1)&&decide (c.1.1<(length a.2.2.2.2.1:Int)) then let i:=getD a.2.2.2.2.1 (toNat c.1.1) (zero (Ty.slice Ty.jnk));let p:=(((),(),c.1.1,(length i:Int),0,()),b.2.1,((),(),(),()),((),(),(),()),a.2.2);bif d9I p then let g:=b5K p;h (((g.2.2.2.2,()),g.2.1,()))else none else none else h (((a.2.2,()),b.2))else none else none else none else none
theorem f5J (p141 Q141 e141 h x) :a4i (e2q) (N78 p141 Q141 e141) (a0N Tryz.f78) I78 O78 h x=g0a p141 Q141 e141 h x:=by kernel_rfl
theorem d1g (v:a6f) (b:a0a v.2.1) (a:v.1.2.2.2.2.2.2.1=0) (d:v.2.2.2.2.2.2.2.1=[]) (j:v.2.2.2.2.2.1.length<=30) :
 Pst (a6g v) fun y=>a0a y.2.1 /\ y.1.2.2.2.2.1=v.1.2.2.2.2.1 /\ y.2.2.2.2.1=v.2.2.2.2.1 /\ y.2.2.2.2.2.1=v.2.2.2.2.2.1 /\ y.2.2.2.2.2.2.1=v.2.2.2.2.2.2.1 /\ y.1.2.2.2.2.2.1.length=v.2.2.2.2.2.1.length:=by
 unfold a6g;refine a0C (q:=a7K)
  (fun u=>a0a u.2.1 /\ u.1.2.2.2.2.1=v.1.2.2.2.2.1 /\ u.2.2.2.2.1=v.2.2.2.2.1 /\ u.2.2.2.2.2.1=v.2.2.2.2.2.1 /\ u.2.2.2.2.2.2.1=v.2.2.2.2.2.2.1 /\ 0<=(u.1.2.2.2.2.2.2.1:Int) /\ (u.1.2.2.2.2.2.2.1:Int)<=(v.2.2.2.2.2.1.length:Int) /\ (u.2.2.2.2.2.2.2.1.length:Int)=u.1.2.2.2.2.2.2.1)
  (fun _ r=>Pst r fun y=>a0a y.2.1 /\ y.1.2.2.2.2.1=v.1.2.2.2.2.1 /\ y.2.2.2.2.1=v.2.2.2.2.1 /\ y.2.2.2.2.2.1=v.2.2.2.2.2.1 /\ y.2.2.2.2.2.2.1=v.2.2.2.2.2.2.1 /\ y.1.2.2.2.2.2.1.length=v.2.2.2.2.2.1.length)
  (fun u=>(30-(u.1.2.2.2.2.2.2.1:Int)).toNat) ?_ _ _ ⟨b,rfl,rfl,rfl,rfl,by rw[a];exact Int.le_refl 0,by rw[a];exact Int.natCast_nonneg _,by rw[d,a];rfl⟩ (by unfold b1z;omega)
 clear a d b;rintro⟨⟨_,_,_,w,n,_,i,_⟩,⟨c0,c1,c2,_⟩,_,_,ws,as_,sp,row,_⟩ f ⟨g0,g1,g2,g3,g4,g5,g6,g7⟩ ih;dsimp only at g0 g1 g2 g3 g4 g5 g6 g7 ih;subst g1 g2 g4;have g:as_.length=v.2.2.2.2.2.1.length:=by rw[g3]
 unfold a7K;dsimp only;by_cases a:i<(as_.length:Int)
 ·refine a0d (by simpa using a) ?_;have e:IntKind.i64.wrap (i+1)=i+1:=w64 (by omega) (by omega);rw[e];have fin:∀(x:Nat) (c:List Int×Int×Int×Unit),a0a c->Pst (bif (a0n (length row+length (set (replicate 1 (zero (Ty.flt FloatKind.f32))) 0 x)))then f (((),((),((),((w),((v.1.2.2.2.2.1),((),((i+1),()))))))),(((c.1),((c.2.1),((c.2.2.1),()))),(((),((),((),()))),(((),((),((),()))),((v.2.2.2.2.1),((as_),((v.2.2.2.2.2.2.1),((row++set (replicate 1 (zero (Ty.flt FloatKind.f32))) 0 x),()))))))))else none)
   fun y=>a0a y.2.1 /\ y.1.2.2.2.2.1=v.1.2.2.2.2.1 /\ y.2.2.2.2.1=v.2.2.2.2.1 /\ y.2.2.2.2.2.1=v.2.2.2.2.2.1 /\ y.2.2.2.2.2.2.1=v.2.2.2.2.2.2.1 /\ y.1.2.2.2.2.2.1.length=v.2.2.2.2.2.1.length:=by
   intro x c h;refine a0d (a0v (by simp only[length_set,length_replicate];omega)) ?_;refine ih _ ⟨h,rfl,rfl,g3,rfl,?_,?_,?_⟩ ?_<;>simp only[length_append,length_set,length_replicate]<;>omega
  refine a0d (a0k _ cu) ?_;refine a0V (fun _=>?_) (fun _=>?_)
  ·refine a0d (a1j _ cu) ?_;refine a0V (fun _=>?_) (fun _=>?_)
   ·refine a0V (fun _=>?_) (fun _=>?_)
    ·refine a0d (a0k _ cu) ?_;exact fin _ _ cu
    ·exact fin _ _ cu
   ·refine a0V (fun _=>?_) (fun _=>?_)
    ·refine a0d (a0k _ cu) ?_;exact fin _ _ cu
    ·exact fin _ _ cu
  ·refine a0V (fun _=>?_) (fun _=>?_)
   ·refine a0d (a0k _ cu) ?_;exact fin _ _ cu
   ·exact fin _ _ cu
 ·have hd:decide (i<(as_.length:Int))=false:=by simpa using a
  rw[hd];exact a0h ⟨g0,rfl,rfl,g3,rfl,by show(row.map fun _=>()).length=_;rw[List.length_map];omega⟩
def Rows (n:Nat) (a:Nat) (ws:List Nat) (b:List (List Unit)):Prop:=ws.length=n /\ b.length=n /\ ∀r∈b,r.length=a
theorem c6c (v:a6h) (j:a0a v.2.1) (A:0<=(v.1.2.2.2.2.1:Int) /\ (v.1.2.2.2.2.1:Int)<=8) (d:v.2.2.2.2.1=[]) (l:v.2.2.2.2.2.2.1=[]) (F:v.2.2.2.2.2.1.length<=30) :
 Pst (a6i v) fun y=>a0a y.2.1 /\ y.2.2.2.2.2.1=v.2.2.2.2.2.1 /\ Rows (v.1.2.2.2.2.1:Int).toNat v.2.2.2.2.2.1.length y.2.2.2.2.1 y.2.2.2.2.2.2.1:=by
 unfold a6i;refine a0C (q:=a7L)
  (fun u=>a0a u.2.1 /\ u.2.2.2.2.2.1=v.2.2.2.2.2.1 /\ 0<=(u.1.2.2.2.2.1:Int) /\ (u.2.2.2.2.1.length:Int)+u.1.2.2.2.2.1=v.1.2.2.2.2.1 /\ Rows u.2.2.2.2.1.length v.2.2.2.2.2.1.length u.2.2.2.2.1 u.2.2.2.2.2.2.1)
  (fun _ r=>Pst r fun y=>a0a y.2.1 /\ y.2.2.2.2.2.1=v.2.2.2.2.2.1 /\ Rows (v.1.2.2.2.2.1:Int).toNat v.2.2.2.2.2.1.length y.2.2.2.2.1 y.2.2.2.2.2.2.1)
  (fun u=>(u.1.2.2.2.2.1:Int).toNat) ?_ _ _ ⟨j,rfl,A.1,by rw[d];exact Int.zero_add _,by rw[d,l];exact⟨rfl,rfl,fun _ h=>by cases h⟩⟩ (by unfold b1A;omega)
 clear j d l;rintro⟨⟨_,_,_,w,n,_⟩,⟨c0,c1,c2,_⟩,_,_,ws,as_,sp,_⟩ f ⟨g0,g1,g2,g3,c⟩ ih;dsimp only at g0 g1 g2 g3 c ih;obtain⟨c,D,i⟩:=c;have o:as_.length=v.2.2.2.2.2.1.length:=by rw[g1]
 unfold a7L;dsimp only;by_cases k:n>0
 ·refine a0d (by simpa using k) ?_;refine a0d (a0v (by simp only[length_set,length_replicate];omega)) ?_;have a:=d1g (((),(),(),w,n,(),0,()),(c0,c1,c2,()),((),(),(),()),((),(),(),()),ws++(replicate 1 (zero (Ty.flt FloatKind.f32))).set 0 w,as_,sp,replicate 0 (zero (Ty.flt FloatKind.f32)),()) g0 rfl rfl (by show as_.length<=30;omega);refine a0d (a1H a) ?_;have g:=a1I (((),((),((),(0,(0,([],())))))),(([],(0,(0,()))),(((),((),((),()))),(((),((),((),()))),([],([],([],()))))))) a;change a0a (a2z _).2.1 /\ (a2z _).1.2.2.2.2.1=n /\ (a2z _).2.2.2.2.1=_ /\ (a2z _).2.2.2.2.2.1=as_ /\ (a2z _).2.2.2.2.2.2.1=sp /\ (a2z _).1.2.2.2.2.2.1.length=as_.length at g;generalize a2z (((),(),(),w,n,(),0,()),(c0,c1,c2,()),((),(),(),()),((),(),(),()),ws++(replicate 1 (zero (Ty.flt FloatKind.f32))).set 0 w,as_,sp,replicate 0 (zero (Ty.flt FloatKind.f32)),())=y at *;obtain⟨⟨_,_,_,w',b,row,_⟩,c',_,_,C,m,B,_⟩:=y;dsimp only at g;obtain⟨E,p,s,t,x,z⟩:=g;subst p s t x;refine a0d (a0v (by simp only[length_set,length_replicate];omega)) ?_;refine a0d (a0k _ cu) ?_;have e:IntKind.i64.wrap (b-1)=b-1:=w64 (by omega) (by omega);dsimp only;rw[e];refine ih _ ⟨cu,g1,?_,?_,?_,?_,?_⟩ ?_
  ·show 0<=b-1;omega
  ·simp only[length_append,length_set,length_replicate];omega
  ·rfl
  ·simp only[length_append,length_set,length_replicate];omega
  ·intro r a;rcases List.mem_append.1 a with a|a
   ·exact i r a
   ·rw[show r=row from List.mem_singleton.1 a,z,o]
  ·show(b-1).toNat<b.toNat;omega
 ·have hd:decide (n>0)=false:=by simpa using k
  rw[hd];refine a0h ⟨g0,g1,?_,?_,i⟩
  ·show ws.length=_;omega
  ·show sp.length=_;omega
theorem f5K (a b:Int) (c:a>0) (d:a<180) (h:0<=b /\ b<50):IntKind.i64.wrap (IntKind.i64.wrap (a+5)+b)<=1000:=by
 rw[w64 (x:=a+5) (by omega) (by omega),w64 (by omega) (by omega)];omega
theorem f5L (b:Int) (h:0<=b /\ b<4):0<=IntKind.i64.wrap (1+b) /\ IntKind.i64.wrap (1+b)<=8 /\ 1<=(IntKind.i64.wrap (1+b)).toNat /\ (IntKind.i64.wrap (1+b)).toNat<=4:=by
 rw[w64 (by omega) (by omega)];omega
theorem f5M (b:Int) (h:0<=b /\ b<25):IntKind.i64.wrap (20+b)<=1000:=by
 rw[w64 (by omega) (by omega)];omega
theorem b5L (v:a8K) (g:a0a v.2.1) (h:(v.1.2.2.2.1:Int)<=1000) (i:v.2.2.2.2.1.length=1) :
 Pst (a8L v) fun y=>a0a y.2.1 /\ 1<=y.2.2.2.2.1.length /\ y.2.2.2.2.1.length<=21:=by
 unfold a8L;refine a0C (q:=b1B)
  (fun u=>a0a u.2.1 /\ (u.1.2.2.2.1:Int)<=1000 /\ 1<=u.2.2.2.2.1.length /\ u.2.2.2.2.1.length<=21)
  (fun _ r=>Pst r fun y=>a0a y.2.1 /\ 1<=y.2.2.2.2.1.length /\ y.2.2.2.2.1.length<=21)
  (fun u=>21-u.2.2.2.2.1.length) ?_ _ _ ⟨g,h,by omega,by omega⟩ (by unfold b5I;omega)
 rintro⟨⟨_,_,_,a,_⟩,⟨c0,c1,c2,_⟩,_,_,as_,_⟩ f ⟨g0,g1,g2,g3⟩ ih;dsimp only at g0 g1 g2 g3 ih;unfold b1B;dsimp only;refine a0V (fun b=>?_) (fun _=>a0h ⟨g0,g2,g3⟩);refine a0V (fun c=>?_) (fun _=>a0h ⟨g0,g2,g3⟩);refine a0V (fun d=>?_) (fun _=>a0h ⟨g0,g2,g3⟩);have b:a>0:=by simpa using b
 have c:a<180:=by simpa using c
 have d : as_.length < 20 := by have:(as_.length:Int)<20:=by simpa using d
                                omega
 refine a0d (a0v (by simp only[length_set,length_replicate];omega)) ?_;refine a0d (a0k _ cu) ?_;have e:=a0O 50 (c0,c1,c2,()) g0 (by decide);refine ih _ ⟨cu,f5K _ _ b c e,?_,?_⟩ ?_
 all_goals simp only[length_append,length_set,length_replicate];omega
def e6y (ws:List Nat) (a:List Int) (b:List (List Unit)):Prop:=2<=a.length /\ a.length<=22 /\ 1<=ws.length /\ ws.length<=4 /\ Rows ws.length a.length ws b
theorem b8Q (x:c5U.den) (h:a0a x.2.1):Pst (d1d x) fun y=>a0a y.2.1 /\ e6y y.2.2.1 y.2.2.2.1 y.2.2.2.2.1:=by
 unfold d1d;dsimp only;have a1U:∀(n:Int) (c:List Int×Int×Int×Unit),a0a c->0<n->0<=((G34 (((),n,()),c,())).1.1:Int) /\ ((G34 (((),n,()),c,())).1.1:Int)<n:=fun n c h j=>a0O n c h j
 refine a0d (a0k _ cu) ?_;have C:0<=((G34 (((),25,()),x.snd)).1.1:Int) /\ ((G34 (((),25,()),x.snd)).1.1:Int)<25:=a1U 25 x.2.1 h (by decide);have S:a0a (G34 (((),25,()),x.snd)).2.1:=cu;generalize G34 (((),25,()),x.snd)=A at *;refine a0d (a1j _ cu) ?_;have G:a0a (G77 (((),6,()),A.snd)).2.1:=cu;generalize G77 (((),6,()),A.snd)=B at *;have e:∀a:Int,a<=1000->Pst (
  let u:=set (replicate 1 (zero (Ty.int IntKind.i64))) 0 0
  let P:=(b1C (((),(),(),a,()),B.snd.fst,((),(),(),()),((),(),(),()),u,()))
  bif (P)then
   let o:=(a4e (((),(),(),a,()),B.snd.fst,((),(),(),()),((),(),(),()),u,()))
   let v:=(set (replicate 1 (zero (Ty.int IntKind.i64))) 0 180)
   bif (a0n (length o.snd.snd.snd.snd.fst+length v))then
    let Q:=(K34 (((),4,()),o.snd.fst,()))
    bif (Q)then
     let g:=(G34 (((),4,()),o.snd.fst,()))
     let q:=(K34 (((),4,()),g.snd))
     bif (q)then
      let k:=(wrap IntKind.i64 (1+g.fst.fst))
      let i:=(G34 (((),4,()),g.snd))
      let l:=(wrap IntKind.i64 (1+i.fst.fst))
      let m:=(o.snd.snd.snd.snd.fst++v)
      let r:=(a8J (((),(),(),nearest FloatKind.f32 k,l,()),i.snd.fst,((),(),(),()),((),(),(),()),[],m,[],()))
      bif (r)then
       let b:=(a2A (((),(),(),nearest FloatKind.f32 k,l,()),i.snd.fst,((),(),(),()),((),(),(),()),[],m,[],()))
       (some ((((),((),((),()))),()),(((b.snd.fst.1),((b.snd.fst.snd.1),((b.snd.fst.snd.snd.1),()))),((b.snd.snd.snd.snd.1),((b.snd.snd.snd.snd.snd.1),((b.snd.snd.snd.snd.snd.snd.1),()))))):Option d1c.den)
      else none
     else none
    else none
   else none
  else none) fun y=>a0a y.2.1 /\ e6y y.2.2.1 y.2.2.2.1 y.2.2.2.2.1:=by
  intro a J;dsimp only;have t:=b5L (((),(),(),a,()),B.snd.fst,((),(),(),()),((),(),(),()),set (replicate 1 (zero (Ty.int IntKind.i64))) 0 0,()) G J rfl;refine a0d (a1H t) ?_;have f:=a1I (((),((),((),()))),(([],(0,(0,()))),(((),((),((),()))),(((),((),((),()))),([],()))))) t;change a0a (a4e _).2.1 /\ 1<=(a4e _).2.2.2.2.1.length /\ (a4e _).2.2.2.2.1.length<=21 at f;generalize a4e (((),(),(),a,()),B.snd.fst,((),(),(),()),((),(),(),()),set (replicate 1 (zero (Ty.int IntKind.i64))) 0 0,())=y at *;obtain⟨_,c,_,_,d,_⟩:=y;dsimp only at f ⊢;obtain⟨T,U,V⟩:=f;refine a0d (a0v (by simp only[length_set,length_replicate];omega)) ?_;refine a0d (a0k _ cu) ?_;have H:a0a (G34 (((),4,()),c,())).2.1:=cu;generalize G34 (((),4,()),c,())=D at *;refine a0d (a0k _ cu) ?_;have F:0<=((G34 (((),4,()),D.snd)).1.1:Int) /\ ((G34 (((),4,()),D.snd)).1.1:Int)<4:=a1U 4 D.2.1 H (by decide);have I:a0a (G34 (((),4,()),D.snd)).2.1:=cu;generalize G34 (((),4,()),D.snd)=E at *;have j:0<=IntKind.i64.wrap (1+E.fst.fst) /\ IntKind.i64.wrap (1+E.fst.fst)<=8 /\ 1<=(IntKind.i64.wrap (1+E.fst.fst)).toNat /\ (IntKind.i64.wrap (1+E.fst.fst)).toNat<=4:=f5L _ F;generalize IntKind.i64.wrap (1+E.fst.fst)=nn at *;generalize nearest FloatKind.f32 (wrap IntKind.i64 (1+D.fst.fst))=w;have s:=c6c (((),(),(),w,nn,()),E.snd.fst,((),(),(),()),((),(),(),()),[],d++set (replicate 1 (zero (Ty.int IntKind.i64))) 0 180,[],()) I ⟨j.1,j.2.1⟩ rfl rfl (by simp only[length_append,length_set,length_replicate];omega);refine a0d (a1H s) ?_;have f:=a1I (((),((),())),(([],(0,(0,()))),(((),((),((),()))),(((),((),((),()))),([],([],([],()))))))) s;change a0a (a2A _).2.1 /\ (a2A _).2.2.2.2.2.1=_ /\ Rows nn.toNat _ (a2A _).2.2.2.2.1 (a2A _).2.2.2.2.2.2.1 at f;generalize a2A (((),(),(),w,nn,()),E.snd.fst,((),(),(),()),((),(),(),()),[],d++set (replicate 1 (zero (Ty.int IntKind.i64))) 0 180,[],())=y at *;obtain⟨_,c',_,_,R,z,O,_⟩:=y;dsimp only at f;obtain⟨K,L,p,M,N⟩:=f;subst L;refine a0h ⟨K,?_⟩;dsimp only;have el:(d++set (replicate 1 (zero (Ty.int IntKind.i64))) 0 180).length=d.length+1:=by simp only[length_append,length_set,length_replicate]
  refine⟨by rw[el];omega,by rw[el];omega,by rw[p];exact j.2.2.1,by rw[p];exact j.2.2.2,rfl,by rw[p,M],N⟩
 refine a0V (fun _=>?_) (fun _=>?_)
 ·exact e 0 (by decide)
 ·exact e _ (f5M _ C)
theorem d1h (x:c5U.den) (h:a0a x.2.1):d9G x=true:=a1H (b8Q x h)
theorem d1i (x:c5U.den) (h:a0a x.2.1):a0a (b5J x).2.1 /\ e6y (b5J x).2.2.1 (b5J x).2.2.2.1 (b5J x).2.2.2.2.1:=a1I _ (b8Q x h)
def c8J (ws:List Nat) (a:List Int) (b:List (List Unit)):Prop:=ws.length<=14 /\ a.length<=22 /\ b.length<=14 /\ ∀r∈b,r.length<=22
theorem e6y.some {ws:List Nat} {a:List Int} {c:List (List Unit)} (h:e6y ws a c):c8J ws a c:=by
 obtain⟨f,b,g,i,j,k,d⟩:=h;exact⟨by omega,b,by omega,fun r e=>by rw[d r e];exact b⟩
theorem c8J.nil:c8J [] [] []:=⟨zero_le _,zero_le _,zero_le _,fun _ h=>by cases h⟩
theorem w12 (a:Int) (h:0<=a /\ a<2):12<=IntKind.i64.wrap (12+a) /\ IntKind.i64.wrap (12+a)<=13:=by
 rw[w64 (by omega) (by omega)];omega
theorem f5N (a:Int) (n:Nat) (h:0<=a /\ a<(n:Int)):a.toNat<n:=by omega
theorem c6d (v:b3U) (d:a0a v.2.1) (i:1<=v.2.2.2.2.1.length /\ v.2.2.2.2.1.length<=4) (h:v.2.2.2.2.2.2.1.length=v.2.2.2.2.1.length) (a:∀r∈v.2.2.2.2.2.2.1,length r<=22) :
 Pst (b3V v) fun y=>a0a y.2.1 /\ y.2.2.2.2.2.1=v.2.2.2.2.2.1 /\ y.2.2.2.2.1.length<=14 /\ y.2.2.2.2.2.2.1.length<=14 /\ ∀r∈y.2.2.2.2.2.2.1,length r<=22:=by
 unfold b3V;refine a0C (q:=b8P)
  (fun u=>a0a u.2.1 /\ u.2.2.2.2.2.1=v.2.2.2.2.2.1 /\ 1<=u.2.2.2.2.1.length /\ u.2.2.2.2.1.length<=13 /\ u.2.2.2.2.2.2.1.length=u.2.2.2.2.1.length /\ ∀r∈u.2.2.2.2.2.2.1,length r<=22)
  (fun _ r=>Pst r fun y=>a0a y.2.1 /\ y.2.2.2.2.2.1=v.2.2.2.2.2.1 /\ y.2.2.2.2.1.length<=14 /\ y.2.2.2.2.2.2.1.length<=14 /\ ∀r∈y.2.2.2.2.2.2.1,length r<=22)
  (fun u=>14-u.2.2.2.2.1.length) ?_ _ _ ⟨d,rfl,i.1,by omega,h,a⟩ (by unfold c6b;omega)
 clear d i h a;rintro⟨_,⟨c0,c1,c2,_⟩,_,_,ws,as_,sp,_⟩ f ⟨g0,g1,g2,g3,g4,g5⟩ ih;dsimp only at g0 g1 g2 g3 g4 g5 ih;unfold b8P;dsimp only;refine a0d (a0k _ cu) ?_;have k:=w12 _ (a0O 2 (c0,c1,c2,()) g0 (by decide));have b:a0a (G34 (((),2,()),(c0,c1,c2,()),())).2.1:=cu;generalize G34 (((),2,()),(c0,c1,c2,()),())=A at *;generalize IntKind.i64.wrap (12+A.fst.fst)=n at *;have e:IntKind.i64.wrap ((ws.length:Int)-1)=((ws.length-1:Nat):Int):=by rw[w64 (by omega) (by omega)];omega
 rw[e];by_cases g:(ws.length:Int)<n
 ·refine a0d (by simpa using g) ?_;refine a0d (by simp;omega) ?_;refine a0d (a0v (by simp only[length_set,length_replicate];omega)) ?_;refine a0d (by simp;omega) ?_;refine a0d (a0v (by simp only[length_set,length_replicate];omega)) ?_;have j:getD sp (toNat 0) (zero (Ty.slice Ty.jnk))∈sp:=by
   have c:0<sp.length:=by omega
   show sp.getD 0 _∈sp;rw[List.getD_eq_getElem?_getD,List.getElem?_eq_getElem c];exact List.getElem_mem c
  refine ih _ ⟨b,g1,?_,?_,?_,?_⟩ ?_
  ·simp only[length_append,length_set,length_replicate];omega
  ·simp only[length_append,length_set,length_replicate];omega
  ·simp only[length_append,length_set,length_replicate];omega
  ·intro r a;rcases List.mem_append.1 a with a|a
   ·exact g5 r a
   ·rw[show r=_ from List.mem_singleton.1 a];exact g5 _ j
  ·simp only[length_append,length_set,length_replicate];omega
 ·have hd:decide ((ws.length:Int)<n)=false:=by simpa using g
  rw[hd];exact a0h ⟨b,g1,by show ws.length<=14;omega,by show sp.length<=14;omega,g5⟩
theorem c6e (v:b3S) (d:a0a v.2.1) (g:0<=(v.1.2.2.1:Int) /\ (v.1.2.2.1:Int)<(v.2.2.2.2.2.2.1.length:Int)) (b:(v.1.2.2.2.1:Int)=((getD v.2.2.2.2.2.2.1 (v.1.2.2.1:Int).toNat (zero (Ty.slice Ty.jnk))).length:Int)) (h:(v.1.2.2.2.1:Int)<=22) (a:v.1.2.2.2.2.1=0) :
 Pst (b3T v) fun y=>a0a y.2.1 /\ y.2.2.2.2=v.2.2.2.2:=by
 unfold b3T;refine a0C (q:=b8O)
  (fun u=>a0a u.2.1 /\ u.2.2.2.2=v.2.2.2.2 /\ u.1.2.2.1=v.1.2.2.1 /\ u.1.2.2.2.1=v.1.2.2.2.1 /\ 0<=(u.1.2.2.2.2.1:Int) /\ (u.1.2.2.2.2.1:Int)<=v.1.2.2.2.1)
  (fun _ r=>Pst r fun y=>a0a y.2.1 /\ y.2.2.2.2=v.2.2.2.2)
  (fun u=>(v.1.2.2.2.1-u.1.2.2.2.2.1:Int).toNat) ?_ _ _ ⟨d,rfl,rfl,rfl,by rw[a];exact Int.le_refl 0,by rw[a,b];exact Int.natCast_nonneg _⟩ (by rw[a];unfold c6a;omega)
 clear d a;rintro⟨⟨_,_,i,n,k,_⟩,⟨c0,c1,c2,_⟩,_,_,ws,as_,sp,_⟩ f ⟨g0,g1,g2,g3,g4,g5⟩ ih;dsimp only at g0 g1 g2 g3 g4 g5 ih;have c:sp=v.2.2.2.2.2.2.1:=congrArg (·.2.2.1) g1;rw[<- g2,<- c]at g;rw[<- g2,<- g3,<- c]at b;rw[<- g3]at h g5;unfold b8O;dsimp only;by_cases a:k<n
 ·refine a0d (by simpa using a) ?_;refine a0d (by simp;omega) ?_;rw[<- b];refine a0d (by simp;omega) ?_;have e:IntKind.i64.wrap (k+1)=k+1:=w64 (by omega) (by omega);rw[e];refine ih _ ⟨g0,g1,g2,g3,?_,?_⟩ ?_
  ·show 0<=k+1;omega
  ·show k+1<=v.1.2.2.2.1;rw[<- g3];omega
  ·show(v.1.2.2.2.1-(k+1):Int).toNat<(v.1.2.2.2.1-k:Int).toNat;rw[<- g3];omega
 ·have hd:decide (k<n)=false:=by simpa using a
  rw[hd];exact a0h ⟨g0,g1⟩
def p78 (x:I78.den):Bool:=c8I x.2.1
def Q78 (x:I78.den) (y:O78.den):Prop:=a0a y.2.1 /\ c8J y.1.1.1 y.1.1.2.1 y.1.1.2.2.1
theorem e6z (x:I78.den) (d:p78 x=true) (k:O78.den->Option Unit) (f:∀y,Q78 x y->k y=some ()) :
 a4i (e2q) (N78 p141 Q141 e141) (a0N Tryz.f78) I78 O78 k x=some ():=by
 have f:∀y:O78.den,a0a y.2.1 /\ c8J y.1.1.1 y.1.1.2.1 y.1.1.2.2.1->k y=some ():=f;have h:a0a x.2.1:=a0W.1 d;refine Eq.trans (f5J _ _ _ k x) ?_;unfold g0a;dsimp only
 haveI:=e141
 have a1U:∀(n:Int) (c:List Int×Int×Int×Unit),a0a c->0<n->0<=((G34 (((),n,()),c,())).1.1:Int) /\ ((G34 (((),n,()),c,())).1.1:Int)<n:=fun n c h O=>a0O n c h O
 refine a0p (d1h (((),()),x.snd) h) ?_;obtain⟨E,z⟩:=d1i (((),()),x.snd) h;generalize b5J (((),()),x.snd)=A at *;obtain⟨_,c,ws,a,e,_⟩:=A;dsimp only at E z ⊢;have b:=z.some;obtain⟨U,p2,Q,R,-,t,S⟩:=z;refine a0p (a0k _ cu) ?_;have v:0<=((G34 (((),(ws.length:Int),()),c,())).1.1:Int) /\ ((G34 (((),(ws.length:Int),()),c,())).1.1:Int)<(ws.length:Int):=a1U _ c E (by omega);have M:a0a (G34 (((),(ws.length:Int),()),c,())).2.1:=cu;generalize G34 (((),(ws.length:Int),()),c,())=B at *;refine a0p (a0k _ cu) ?_;have L:0<=((G34 (((),(a.length:Int),()),B.snd)).1.1:Int) /\ ((G34 (((),(a.length:Int),()),B.snd)).1.1:Int)<(a.length:Int):=a1U _ B.2.1 M (by omega);have T:a0a (G34 (((),(a.length:Int),()),B.snd)).2.1:=cu;generalize G34 (((),(a.length:Int),()),B.snd)=C at *;refine a0p (a0k _ cu) ?_;have j:a0a (G34 (((),24,()),C.snd)).2.1:=cu;generalize G34 (((),24,()),C.snd)=D at *;have I:(decide (0<=(B.fst.fst:Int))&&decide ((B.fst.fst:Int)<(ws.length:Int)))=true:=by simp[v]
 have s:(decide (0<=(B.fst.fst:Int))&&decide ((B.fst.fst:Int)<(e.length:Int)))=true:=by rw[t];exact I
 have J:(decide (0<=(C.fst.fst:Int))&&decide ((C.fst.fst:Int)<(a.length:Int)))=true:=by simp[L]
 have o:(B.fst.fst:Int).toNat<e.length:=by
  rw[t];exact f5N _ _ v
 have N:getD e (toNat B.fst.fst) (zero (Ty.slice Ty.jnk))∈e:=by
  rw[List.getD_eq_getElem?_getD,List.getElem?_eq_getElem o];exact List.getElem_mem o
 have l:(getD e (toNat B.fst.fst) (zero (Ty.slice Ty.jnk))).length=a.length:=S _ N;have K:(decide (0<=(C.fst.fst:Int))&&decide ((C.fst.fst:Int)<((getD e (toNat B.fst.fst) (zero (Ty.slice Ty.jnk))).length:Int)))=true:=by rw[l];exact J
 have q:∀(i:Nat) (r:List Unit),r.length<=22->c8J ws a (e.set i r):=fun i r m=>⟨b.1,b.2.1,by rw[length_set];exact b.2.2.1,fun u P=>by
  rcases List.mem_or_eq_of_mem_set P with w|w
  ·exact b.2.2.2 u w
  ·rw[w];exact m⟩
 refine a1m (fun _=>?_) (fun _=>?_)
 ·refine a0t fun g=>?_
  have p:p141 (((),120,()),D.snd)=true:=a0W.2 j;refine a0p p ?_;refine a0p I ?_;exact f _ ⟨g.2 _ p,by show(set ws _ _).length<=14;rw[length_set];exact b.1,b.2⟩
 refine a1m (fun _=>?_) (fun _=>?_)
 ·refine a0p (a6P _ cu) ?_;refine a0p J ?_;exact f _ ⟨cu,b.1,by show(set a _ _).length<=22;rw[length_set];exact b.2.1,b.2.2⟩
 refine a1m (fun _=>?_) (fun _=>?_)
 ·refine a0t fun g=>?_
  refine a0p s ?_;have p:p141 (((),60,()),D.snd)=true:=a0W.2 j;refine a0p p ?_;refine a0p K ?_;exact f _ ⟨g.2 _ p,b⟩
 refine a1m (fun _=>?_) (fun _=>?_)
 ·refine a0p s ?_;refine a0p (by rw[l];simp;omega) ?_;refine a0p s ?_;refine f _ ⟨j,q _ _ ?_⟩;simp only[List.length_drop,List.length_take];rw[l];omega
 refine a1m (fun _=>?_) (fun _=>?_)
 ·refine a0p (by simp;omega) ?_;refine f _ ⟨j,b.1,b.2.1,?_,fun r m=>?_⟩
  ·simp only[List.length_drop,List.length_take];have:=b.2.2.1;omega
  ·exact b.2.2.2 r (List.mem_of_mem_take (List.mem_of_mem_drop m))
 refine a1m (fun _=>f _ ⟨j,c8J.nil⟩) (fun _=>?_);refine a1m (fun _=>?_) (fun _=>?_)
 ·have m:=c6d (((),(),(),()),D.snd.fst,((),(),(),()),((),(),(),()),ws,a,e,()) j ⟨Q,R⟩ t b.2.2.2;refine a0p (a1H m) ?_;have d:=a1I (((),((),())),(([],(0,(0,()))),(((),((),((),()))),(((),((),((),()))),([],([],([],()))))))) m;change a0a (a8M _).2.1 /\ (a8M _).2.2.2.2.2.1=a /\ (a8M _).2.2.2.2.1.length<=14 /\ (a8M _).2.2.2.2.2.2.1.length<=14 /\ _ at d;refine f _ ⟨d.1,d.2.2.1,?_,d.2.2.2.1,d.2.2.2.2⟩;refine Nat.le_trans (Nat.le_of_eq ?_) b.2.1;exact congrArg length d.2.1
 refine a1m (fun _=>?_) (fun _=>?_)
 ·refine a0p s ?_;refine a0p K ?_;exact f _ ⟨j,b⟩
 refine a1m (fun _=>?_) (fun _=>f _ ⟨j,b⟩);refine a0p s ?_;have m:=c6e (((),(),B.fst.fst,((getD e (toNat B.fst.fst) (zero (Ty.slice Ty.jnk))).length:Int),0,()),D.snd.fst,((),(),(),()),((),(),(),()),ws,a,e,()) j
  (by show 0<=(B.fst.fst:Int) /\ (B.fst.fst:Int)<(e.length:Int);rw[t];exact v) rfl (by show((getD e (toNat B.fst.fst) (zero (Ty.slice Ty.jnk))).length:Int)<=22;rw[l];omega) rfl
 refine a0p (a1H m) ?_;have d:=a1I (((),((),())),(([],(0,(0,()))),(((),((),((),()))),(((),((),((),()))),([],([],([],()))))))) m;change a0a (b5K _).2.1 /\ (b5K _).2.2.2.2=(ws,a,e,())at d;have F:=congrArg (·.1) d.2;have G:=congrArg (·.2.1) d.2;have H:=congrArg (·.2.2.1) d.2;dsimp only at F G H;refine f _ ⟨d.1,?_⟩;dsimp only;rw[F,G,H];exact b
theorem e6A:Nonempty (Ch I78 (unO O78) p78 fun x y=>Q78 x (e3a O78 y)):=⟨⟨fun _=>((([],[],[],()),()),(d0Z,())),fun _ _=>⟨a4A,c8J.nil⟩⟩⟩
theorem f5O:a1T Tryz.prog 78 (a2w true I78 (unO O78) p78 (fun x y=>Q78 x (e3a O78 y)) e6A):=
 e3c f5I (N:=N78 p141 Q141 e141) (a4h ⟨c5M,trivial⟩) g2j a1L rfl (fun _=>rfl) (fun _=>rfl) (fun _=>rfl) e6z
abbrev a5u:Sg:=⟨[.ptr 0],[.box (a1M)]⟩
abbrev a6j:Sg:=⟨[.val (S27)],[.box (a1M)]⟩
def a3I (x:a5u.den):Bool:=c8I x.2.1
def d9K (p:List Nat×List Int×List (List Nat)×Unit):Prop:=p.1.length<=14 /\ p.2.1.length<=22 /\ p.2.2.1.length<=14 /\ ∀r∈p.2.2.1,r.length<=22
def a4U (x:a5u.den) (y:a6j.den):Prop:=a0a y.2.1 /\ d9K y.1.1
theorem b1D:Nonempty (Ch a5u a6j a3I a4U):=⟨⟨fun _=>((([],[],[],()),()),(d0Z,())),fun _ _=>⟨a4A,zero_le _,zero_le _,zero_le _,fun _ h=>by cases h⟩⟩⟩
theorem d9L (x:I78.den) (y:a6j.den):Q78 x (e3a O78 y)↔a4U x y:=by
 obtain⟨⟨⟨ws,a,b,_⟩,_⟩,c,_⟩:=y;have d:∀r:List Nat,length (shp (.slice .jnk) r)=r.length:=fun r=>List.length_map _
 show a0a c /\ c8J (List.map (shp (.flt .f32)) ws) (List.map (shp (.int .i64)) a) (List.map (shp (.slice .jnk)) b)↔a0a c /\ (ws.length<=14 /\ a.length<=22 /\ b.length<=14 /\ ∀r∈b,r.length<=22);unfold c8J;simp only[List.length_map,List.mem_map,forall_exists_index,and_imp,forall_apply_eq_imp_iff₂,d]
theorem c6f {P:Program} {f:Nat} {own:Bool} {I O:Sg} {ok:I.den->Bool} {Q b:I.den->O.den->Prop} (e:∀x y,Q x y↔b x y) {c:Nonempty (Ch I O ok Q)} {a:Nonempty (Ch I O ok b)} (h:a1T P f (a2w own I O ok Q c)):a1T P f (a2w own I O ok b a):=by
 have e:Q=b:=funext fun x=>funext fun y=>propext (e x y)
 subst e;exact h
theorem d9M:a1T Tryz.prog 78 (a2w true a5u a6j a3I a4U b1D):=c6f (O:=a6j) d9L f5O
def amt (s:Nat):Nat:=bif flt .f32 s 0 then a3g .f32 s else s
theorem d6j (s:Nat):F94 (s,())=some (amt s,()):=by
 unfold F94 amt;cases flt .f32 s 0<;>rfl
theorem c6g (s:Nat):e1T (s,())=some (amt s,()):=by
 unfold e1T amt;cases flt .f32 s 0<;>rfl
def b3W (s:Nat):Bool:=flt .f32 (amt s) 1120403456||feq .f32 (amt s) 1120403456
def a2E (c:Nat×Nat):Bool:=b3W c.1&&b3W c.2
theorem b0i (c:Nat×Nat):F45 (c,())=some (a2E c,()):=by
 unfold F45 a2E;have a:F94 (c.1,())=some (amt c.1,()):=d6j c.1;have b:F94 (c.2,())=some (amt c.2,()):=d6j c.2;simp only[K94,G94,a,b,isSome_some,getD_some,cond_true];show(bif b3W c.1 then some (b3W c.2,())else some (false,()))=_;cases b3W c.1<;>rfl
theorem a4j (c:Nat×Nat):F52 (c,())=some (a2E c,()):=by
 unfold F52 a2E;have a:e1T (c.1,())=some (amt c.1,()):=c6g c.1;have b:e1T (c.2,())=some (amt c.2,()):=c6g c.2;simp only[e9b,e9c,a,b,isSome_some,getD_some,cond_true];show(bif b3W c.1 then some (b3W c.2,())else some (false,()))=_;cases b3W c.1<;>rfl
def atV (l:List (Nat×Nat)) (i:Nat):Nat×Nat:=l.getD i (0,0)
def a6k (l:List (Nat×Nat)):Bool:=a0i (fun i=>a2E (atV l i)) 0 l.length
def a0m (x a b:Int):Bool:=decide (a<=x)&&decide (x<=b)
theorem a3J (x a b:Int):F44 (x,a,b,())=some (a0m x a b,()):=by
 unfold F44 a0m;show(bif decide (x ≥ a)then some (decide (x<=b),())else some (false,()))=_;show(bif decide (a<=x)then some (decide (x<=b),())else some (false,()))=_;cases decide (a<=x)<;>rfl
theorem a1x (x a b:Int):F51 (x,a,b,())=some (a0m x a b,()):=a3J x a b
theorem e2r:Ieee.double.signWeight=2^63:=by decide
theorem b5M:Ieee.double.infRung=2047*2^52:=by decide
theorem b5N:Ieee.double.binade=2^52:=by decide
theorem d9N:Ieee.double.leastPlace=-1074:=by decide
theorem f5P:Ieee.double.fractionBits=52:=by decide
theorem a4P (neg:Bool) (K e:Nat) (g:e*2^52+K<2047*2^52) (k:(e=0 /\ K<=2^53)∨(2^52<=K /\ K<=2^53)) :
 ∃(m:Nat) (c:Nat),Ieee.double.read (Ieee.double.word neg (e*2^52+K)) = .number neg m ((c:Int)-1074) /\ m*2^c=K*2^e:=by
 have i:Ieee.double.word neg (e*2^52+K)%Ieee.double.signWeight=e*2^52+K:=by
  unfold Ieee.Format.word;rw[e2r];split<;>omega
 have h:(Ieee.double.word neg (e*2^52+K)/Ieee.double.signWeight%2==1)=neg:=by
  unfold Ieee.Format.word;rw[e2r];cases neg
  ·rw[if_neg (by decide)];have:(e*2^52+K)/2^63=0:=Nat.div_eq_of_lt (by omega);rw[this];rfl
  ·rw[if_pos rfl];have:(2^63+(e*2^52+K))/2^63=1:=by omega
   rw[this];rfl
 unfold Ieee.Format.read;dsimp only;rw[i,h,b5N,b5M,d9N];by_cases d:e*2^52+K<2^52
 ·rw[if_pos d];have:e=0:=by omega
  subst this;exact⟨K,0,by simp,by simp⟩
 ·rw[if_neg d,if_pos g];by_cases j:K<2^52
  ·exfalso;omega
  by_cases f:K=2^53
  ·have a:(e*2^52+K)/2^52=e+2:=by omega
   have b:(e*2^52+K)%2^52=0:=by omega
   rw[a,b];refine⟨2^52,e+1,?_,?_⟩
   ·rw[show((-1074:Int)+((e+2-1:Nat):Int))=((e+1:Nat):Int)-1074 by omega,Nat.add_zero]
   ·rw[f,<- Nat.pow_add,<- Nat.pow_add];congr 1;omega
  ·have a:(e*2^52+K)/2^52=e+1:=by omega
   have b:(e*2^52+K)%2^52=K-2^52:=by omega
   rw[a,b];refine⟨K,e,?_,rfl⟩;rw[show((-1074:Int)+((e+1-1:Nat):Int))=((e:Nat):Int)-1074 by omega,show 2^52+(K-2^52)=K by omega]
def VU (s:Bool) (m c:Nat):Int:=if s then -((m*2^c:Nat):Int)else((m*2^c:Nat):Int)
def isD (b:Nat) (v:Int):Prop:=∃(s:Bool) (m c:Nat),Ieee.double.read b = .number s m ((c:Int)-1074) /\ v=VU s m c
theorem b8R (s:Bool) (m c d:Nat) (h:d<=c):Ieee.signed s m (c-d)*((2^d:Nat):Int)=VU s m c:=by
 have e:m*2^(c-d)*2^d=m*2^c:=by rw[Nat.mul_assoc,<- Nat.pow_add];congr 2;omega
 unfold Ieee.signed VU;rw[Nat.shiftLeft_eq];split
 ·rw[Int.neg_mul,<- Int.natCast_mul,e]
 ·rw[<- Int.natCast_mul,e]
theorem d9O (a b k:Int) (c:0<k):compare (a*k) (b*k)=compare a b:=by
 have d:a*k<b*k↔a<b:=Int.mul_lt_mul_right c;have e:b*k<a*k↔b<a:=Int.mul_lt_mul_right c;rw[Int.compare_eq_ite_lt,Int.compare_eq_ite_lt];simp only[d,e]
theorem d9P (s t:Bool) (m n c d:Nat):Ieee.Datum.order (.number s m ((c:Int)-1074)) (.number t n ((d:Int)-1074))=some (compare (VU s m c) (VU t n d)):=by
 unfold Ieee.Datum.order;dsimp only;have a:(((c:Int)-1074)-min ((c:Int)-1074) ((d:Int)-1074)).toNat=c-min c d:=by omega
 have b:(((d:Int)-1074)-min ((c:Int)-1074) ((d:Int)-1074)).toNat=d-min c d:=by omega
 rw[a,b,<- b8R s m c (min c d) (Nat.min_le_left _ _),<- b8R t n d (min c d) (Nat.min_le_right _ _),d9O];exact Int.natCast_pos.2 (Nat.two_pow_pos _)
theorem g2k {a b:Nat} {x y:Int} (g:isD a x) (h:isD b y):FloatKind.f64.format.order a b=some (compare x y):=by
 obtain⟨s,m,c,e,rfl⟩:=g;obtain⟨t,n,d,f,rfl⟩:=h;show(Ieee.double.read a).order (Ieee.double.read b)=_;rw[e,f];exact d9P s t m n c d
set_option exponentiation.threshold 2000
theorem d1j (neg:Bool) (M c v:Nat) (E:0<M) (h:M*2^c=v*2^1074) (m:v<2^53) :
 ∃K e:Nat,Ieee.double.nearest neg M ((c:Int)-1074)=Ieee.double.word neg (e*2^52+K) /\ e*2^52+K<2047*2^52 /\ ((e=0 /\ K<=2^53)∨(2^52<=K /\ K<=2^53)) /\ K*2^e=M*2^c:=by
 have n:2^M.log2<=M:=Nat.log2_self_le (by omega);have o:M<2^(M.log2+1):=Nat.lt_log2_self;have z:M.log2+c<1127:=by
  have p:2^(M.log2+c)<=M*2^c:=by rw[Nat.pow_add];exact Nat.mul_le_mul_right _ n
  have t:v*2^1074<2^(53+1074):=by
   rw[Nat.pow_add 2 53 1074];exact Nat.mul_lt_mul_of_pos_right m (Nat.two_pow_pos _)
  rw[<- h]at t;exact(Nat.pow_lt_pow_iff_right (a:=2) (by decide)).1 (Nat.lt_of_le_of_lt p t)
 unfold Ieee.Format.nearest;rw[if_neg (by omega),f5P,d9N,b5N,b5M];dsimp only;generalize y:M.log2=L at *;by_cases F:L<=52
 ·
  by_cases hd:L+c<52
  ·have b:max ((c:Int)-1074+(L:Int)-(52:Nat)) (-1074)=-1074:=by omega
   rw[b];have d:((c:Int)-1074 - -1074).toNat=c:=by omega
   have f:(-1074-((c:Int)-1074)).toNat=0:=by omega
   have g:((-1074:Int) - -1074).toNat=0:=by decide
   rw[d,f,g,a3P,Nat.shiftLeft_eq];have w:M*2^c<2^53:=by
    calc M*2^c<2^(L+1)*2^c:=Nat.mul_lt_mul_of_pos_right o (Nat.two_pow_pos _)
     _=2^(L+1+c):=by rw[<- Nat.pow_add]
     _<=2^53:=Nat.pow_le_pow_right (by decide) (by omega)
   have x:0*2^52+M*2^c<2047*2^52:=by rw[Nat.zero_mul,Nat.zero_add];exact Nat.lt_trans w (by decide)
   refine⟨M*2^c,0,?_,x,.inl ⟨Eq.refl 0,Nat.le_of_lt w⟩,?_⟩
   ·rw[Nat.min_eq_left (Nat.le_of_lt x)]
   ·rw[Nat.pow_zero,Nat.mul_one]
  ·have b:max ((c:Int)-1074+(L:Int)-(52:Nat)) (-1074)=(c:Int)-1074+(L:Int)-52:=by omega
   rw[b];have d:((c:Int)-1074-((c:Int)-1074+(L:Int)-52)).toNat=52-L:=by omega
   have f:(((c:Int)-1074+(L:Int)-52)-((c:Int)-1074)).toNat=0:=by omega
   have g:(((c:Int)-1074+(L:Int)-52) - -1074).toNat=c+L-52:=by omega
   rw[d,f,g,a3P,Nat.shiftLeft_eq];have r:M*2^(52-L)<2^53:=by
    calc M*2^(52-L)<2^(L+1)*2^(52-L):=Nat.mul_lt_mul_of_pos_right o (Nat.two_pow_pos _)
     _=2^(L+1+(52-L)):=by rw[<- Nat.pow_add]
     _=2^53:=by congr 1;omega
   have s:2^52<=M*2^(52-L):=by
    calc 2^52=2^(L+(52-L)):=by congr 1;omega
     _=2^L*2^(52-L):=by rw[<- Nat.pow_add]
     _<=M*2^(52-L):=Nat.mul_le_mul_right _ n
   have D:M*2^(52-L)*2^(c+L-52)=M*2^c:=by
    rw[Nat.mul_assoc,<- Nat.pow_add];congr 2;omega
   refine⟨M*2^(52-L),c+L-52,?_,by generalize M*2^(52-L)=q at *;clear n o;omega,.inr ⟨s,Nat.le_of_lt r⟩,D⟩;rw[Nat.min_eq_left (by omega)]
 ·
  have b:max ((c:Int)-1074+(L:Int)-(52:Nat)) (-1074)=(c:Int)-1074+(L:Int)-52:=by omega
  rw[b];have d:((c:Int)-1074-((c:Int)-1074+(L:Int)-52)).toNat=0:=by omega
  have f:(((c:Int)-1074+(L:Int)-52)-((c:Int)-1074)).toNat=L-52:=by omega
  have g:(((c:Int)-1074+(L:Int)-52) - -1074).toNat=c+L-52:=by omega
  rw[d,f,g,Nat.shiftLeft_zero];have k:2^(L-52) ∣ M:=by
   have p:2^(L-52)*2^c ∣ M*2^c:=by
    rw[h,<- Nat.pow_add];exact Nat.dvd_trans (Nat.pow_dvd_pow 2 (by omega)) (Nat.dvd_mul_left _ _)
   exact Nat.dvd_of_mul_dvd_mul_right (Nat.two_pow_pos c) p
  have l:M%2^(L-52)=0:=Nat.mod_eq_zero_of_dvd k;have u:0<2^(L-52):=Nat.two_pow_pos _;have i:Ieee.Toward.even.cut neg M (L-52)=M/2^(L-52):=by
   unfold Ieee.Toward.cut;dsimp only;rw[y,Nat.min_eq_left (by omega),Nat.one_shiftLeft,l];simp
  rw[i];have B:M/2^(L-52)<2^53:=by
   rw[Nat.div_lt_iff_lt_mul u,<- Nat.pow_add];have:53+(L-52)=L+1:=by omega
   rw[this];exact o
  have C:2^52<=M/2^(L-52):=by
   rw[Nat.le_div_iff_mul_le u,<- Nat.pow_add];have:52+(L-52)=L:=by omega
   rw[this];exact n
  have j:=Nat.div_add_mod M (2^(L-52));rw[l,Nat.add_zero]at j;generalize M/2^(L-52)=q at *;have A:2^(c+L-52)=2^(L-52)*2^c:=by
   rw[<- Nat.pow_add];congr 1;omega
  refine⟨q,c+L-52,?_,by omega,.inr ⟨by omega,by omega⟩,?_⟩
  ·rw[Nat.min_eq_left (by omega)]
  ·rw[A,<- Nat.mul_assoc,Nat.mul_comm q,j]
theorem f0a:Ieee.single.signWeight=2^31:=by decide
theorem d1k:Ieee.single.infRung=255*2^23:=by decide
theorem c6h:Ieee.single.binade=2^23:=by decide
theorem e6B:Ieee.single.leastPlace=-149:=by decide
theorem g0b:Ieee.single.fractionBits=23:=by decide
def Sz (b:Nat) (N:Int):Prop:=∃s m e,Ieee.single.read b = .number s m e /\ (m.log2:Int)+e<=N /\ -149<=e
theorem Sz.mono {b:Nat} {N M:Int} (h:Sz b N) (f:N<=M):Sz b M:=by
 obtain⟨s,m,e,a,d,c⟩:=h;exact⟨s,m,e,a,by omega,c⟩
theorem c6i {M k:Nat} (h:M<2^(k+1)):M.log2<=k:=by
 rcases Nat.eq_zero_or_pos M with b|b
 ·subst b;simp
 ·have:=Nat.log2_self_le (n:=M) (by omega);have c:=Nat.lt_of_le_of_lt this h;have:=(Nat.pow_lt_pow_iff_right (a:=2) (by decide)).1 c;omega
theorem c6j (neg:Bool) (M d k:Nat) (h:M<2^(k+d)):Ieee.Toward.even.cut neg M d<=2^k:=by
 unfold Ieee.Toward.cut;dsimp only;rw[Nat.one_shiftLeft];by_cases hd:d<=M.log2+2
 ·rw[Nat.min_eq_left hd];have a:M/2^d<2^k:=by rw[Nat.div_lt_iff_lt_mul (Nat.two_pow_pos _),<- Nat.pow_add];exact h
  generalize (decide (2^d<2*(M%2^d))||(2^d==2*(M%2^d)&&M/2^d%2==1))=b;cases b<;>simp<;>omega
 ·rw[Nat.min_eq_right (by omega)];have c:M<2^(M.log2+2):=Nat.lt_trans Nat.lt_log2_self (Nat.pow_lt_pow_right (by decide) (by omega));have a:M/2^(M.log2+2)=0:=Nat.div_eq_of_lt c;rw[a];have e:=Nat.two_pow_pos k;generalize (decide (2^(M.log2+2)<2*(M%2^(M.log2+2)))||(2^(M.log2+2)==2*(M%2^(M.log2+2))&&0%2==1))=b;cases b<;>simp<;>omega
theorem c6k (neg:Bool) (r:Nat) (h:r<255*2^23):Ieee.single.read (Ieee.single.word neg r)=if r<2^23 then .number neg r (-149)else .number neg (2^23+r%2^23) (-149+((r/2^23-1:Nat):Int)):=by
 have b:Ieee.single.word neg r%Ieee.single.signWeight=r:=by
  unfold Ieee.Format.word;rw[f0a];split<;>omega
 have a:(Ieee.single.word neg r/Ieee.single.signWeight%2==1)=neg:=by
  unfold Ieee.Format.word;rw[f0a];cases neg
  ·rw[if_neg (by decide)];have:r/2^31=0:=Nat.div_eq_of_lt (by omega);rw[this];rfl
  ·rw[if_pos rfl];have:(2^31+r)/2^31=1:=by omega
   rw[this];rfl
 unfold Ieee.Format.read;dsimp only;rw[b,a,c6h,d1k,e6B];by_cases c:r<2^23
 ·rw[if_pos c,if_pos c]
 ·rw[if_neg c,if_neg c,if_pos h]
theorem d9Q (neg:Bool) (M:Nat) (p N:Int) (h:(M.log2:Int)+p<=N) (s:N<=126) (g:-126<=N):Sz (Ieee.single.nearest neg M p) (N+1):=by
 have fin:∀r:Nat,(r:Int)<=(N+126)*2^23+2^24->Sz (Ieee.single.word neg r) (N+1):=by
  intro r t;have d:r<255*2^23:=by omega
  have:=c6k neg r d;by_cases c:r<2^23
  ·rw[if_pos c]at this;refine⟨_,_,_,this,?_,Int.le_refl _⟩;have:=c6i (k:=22) c;omega
  ·rw[if_neg c]at this;refine⟨_,_,_,this,?_,by omega⟩;have f:(2^23+r%2^23).log2<=23:=c6i (k:=23) (by have:=Nat.mod_lt r (show 2^23>0 by decide);omega);have o:((r/2^23:Nat):Int)<=N+128:=by omega
   omega
 unfold Ieee.Format.nearest;by_cases e:M=0
 ·rw[if_pos e];exact fin 0 (by omega)
 ·rw[if_neg e,g0b,e6B,c6h,d1k];dsimp only;have n:M<2^(M.log2+1):=Nat.lt_log2_self;generalize q:M.log2=L at *;obtain⟨last,a⟩:∃last,last=max (p+(L:Int)-(23:Nat)) (-149):=⟨_,rfl⟩;rw[<- a];have j:p+(L:Int)-23<=last:=by omega
  have l:-149<=last:=by omega
  have m:last<=N-23:=by omega
  have b:Ieee.Toward.even.cut neg (M <<< (p-last).toNat) (last-p).toNat<=2^24:=by
   refine c6j _ _ _ 24 ?_;rw[Nat.shiftLeft_eq];have f:M*2^(p-last).toNat<2^(L+1+(p-last).toNat):=by rw[Nat.pow_add];exact Nat.mul_lt_mul_of_pos_right n (Nat.two_pow_pos _)
   exact Nat.lt_of_lt_of_le f (Nat.pow_le_pow_right (by decide) (by omega))
  generalize Ieee.Toward.even.cut neg (M <<< (p-last).toNat) (last-p).toNat=K at b;have i:(((last - -149).toNat*2^23+K:Nat):Int)<=(N+126)*2^23+2^24:=by omega
  exact fin _ (Int.le_trans (Int.ofNat_le.2 (Nat.min_le_left _ _)) i)
theorem c6l:Ieee.double.read 0 = .number false 0 (-1074):=by decide
def g0c (d:Ieee.Datum):Ieee.Datum:=match d with
 |.number _ m e => .number false m e
 |.infinity _ => .infinity false
 |.nan _ f => .nan false f
theorem b8S (a:Nat):Ieee.double.read (a%2^63)=g0c (Ieee.double.read a):=by
 unfold Ieee.Format.read;dsimp only;rw[e2r];have b:a%2^63%2^63=a%2^63:=Nat.mod_mod _ _;have c:(a%2^63/2^63%2==1)=false:=by
  have:a%2^63/2^63=0:=Nat.div_eq_of_lt (Nat.mod_lt _ (by decide));rw[this];rfl
 rw[b,c];split
 ·rfl
 ·split
  ·rfl
  ·split<;>rfl
theorem b8T (a:Nat):Ieee.double.read (a3g .f64 a)=(Ieee.double.read a).opposite:=by
 have f:a3g .f64 a=a ^^^ 2^63:=rfl;rw[f];unfold Ieee.Format.read;dsimp only;rw[e2r];have c:(a ^^^ 2^63)%2^63=a%2^63:=by rw[Nat.xor_mod_two_pow,Nat.mod_self,Nat.xor_zero]
 have d:((a ^^^ 2^63)/2^63%2==1)=!(a/2^63%2==1):=by
  rw[Nat.xor_div_two_pow,Nat.div_self (by decide)];have e:(a/2^63 ^^^ 1)%2=(a/2^63%2) ^^^ 1:=by
   have:=Nat.xor_mod_two_pow (a:=a/2^63) (b:=1) (n:=1);simpa using this
  rw[e];rcases Nat.mod_two_eq_zero_or_one (a/2^63)with h|h<;>rw[h]<;>rfl
 rw[c,d];split
 ·rfl
 ·split
  ·rfl
  ·split<;>rfl
def c8K (a:Nat):Nat:=bif flt .f64 a 0 then a3g .f64 a else a
theorem c6m (a c:Nat):FloatKind.f64.format.order (c8K a) c=FloatKind.f64.format.order (a%2^63) c:=by
 show(Ieee.double.read (c8K a)).order (Ieee.double.read c)=(Ieee.double.read (a%2^63)).order (Ieee.double.read c);rw[b8S];have g:flt .f64 a 0=((Ieee.double.read a).order (Ieee.double.read 0)==some .lt):=rfl;unfold c8K;rw[g,c6l];generalize Ieee.double.read c=d;cases hr:Ieee.double.read a with
 | nan s f =>
   have:((Ieee.Datum.nan s f).order (.number false 0 (-1074))==some Ordering.lt)=false:=rfl;rw[this,cond_false,hr];cases d<;>rfl
 | infinity s =>
   cases s with
   | true =>
     have:((Ieee.Datum.infinity true).order (.number false 0 (-1074))==some Ordering.lt)=true:=rfl;rw[this,cond_true,b8T,hr];rfl
   | false =>
     have:((Ieee.Datum.infinity false).order (.number false 0 (-1074))==some Ordering.lt)=false:=rfl;rw[this,cond_false,hr];rfl
 | number s m e =>
   cases s with
   | false =>
     have b:((Ieee.Datum.number false m e).order (.number false 0 (-1074))==some Ordering.lt)=false:=by
      unfold Ieee.Datum.order Ieee.signed;simp only[Bool.false_eq_true,if_false,Nat.zero_shiftLeft];have:∀x:Nat,(some (compare ((x:Nat):Int) ((0:Nat):Int))==some Ordering.lt)=false:=by
       intro x;rw[Int.compare_eq_ite_lt,if_neg (by omega)];split<;>rfl
      exact this _
     rw[b,cond_false,hr];rfl
   | true =>
     cases b:((Ieee.Datum.number true m e).order (.number false 0 (-1074))==some Ordering.lt)with
     |true=>rw[cond_true,b8T,hr];rfl
     | false =>
       rw[cond_false,hr];have i:m=0:=by
        unfold Ieee.Datum.order Ieee.signed at b;simp only[if_true,Bool.false_eq_true,if_false,Nat.zero_shiftLeft,Nat.shiftLeft_eq]at b;rcases Nat.eq_zero_or_pos m with h|h
        ·exact h
        ·exfalso;have k:=Nat.mul_pos h (Nat.two_pow_pos (e-min e (-1074)).toNat);rw[Int.compare_eq_ite_lt,if_pos (by omega)]at b;cases b
       subst i;unfold g0c;cases d with
       | number t n j =>
         unfold Ieee.Datum.order Ieee.signed;simp
       |infinity t=>rfl
       |nan t f=>rfl
def le8 (a:Nat):Bool:=flt .f64 a 4726483295884279808||feq .f64 a 4726483295884279808
theorem c6n (a:Nat):le8 (c8K a)=le8 (a%2^63):=by
 unfold le8 flt feq;rw[c6m]
def a3K (z:Nat×Nat):Bool:=le8 (z.1%2^63)&&le8 (z.2%2^63)
theorem b8U (z:Nat×Nat):F61 (z,())=some (a3K z,()):=by
 unfold F61 a3K;simp only[e3m,e3n,cond_true];show(bif le8 (z.1%2^63)then some (le8 (z.2%2^63),())else some (false,()))=_;cases le8 (z.1%2^63)<;>rfl
theorem c6o (a:Nat):e1S (a,())=some (c8K a,()):=by
 unfold e1S c8K;cases flt .f64 a 0<;>rfl
theorem a7e (z:Nat×Nat):F96 (z,())=some (a3K z,()):=by
 unfold F96 a3K;have a:e1S (z.1,())=some (c8K z.1,()):=c6o z.1;have b:e1S (z.2,())=some (c8K z.2,()):=c6o z.2;simp only[e8Z,e9a,a,b,isSome_some,getD_some,cond_true];show(bif le8 (c8K z.1)then some (le8 (c8K z.2),())else some (false,()))=_;rw[c6n,c6n];cases le8 (z.1%2^63)<;>rfl
def p2 (e:Int):Rat:=(2:Rat)^e
theorem a0q (e:Int):0<p2 e:=Rat.zpow_pos (by decide)
theorem a0G (a b:Int):p2 (a+b)=p2 a*p2 b:=Rat.zpow_add (by decide) a b
theorem a0R (n:Nat):p2 (n:Int)=((2^n:Nat):Rat):=by
 unfold p2;rw[Rat.zpow_natCast,Rat.natCast_pow];rfl
theorem c0O (n:Nat):1<=p2 (n:Int):=by
 rw[a0R];have:1<=2^n:=Nat.one_le_two_pow
 exact_mod_cast this
theorem a7v {a b:Int} (h:a<=b):p2 a<=p2 b:=by
 have e:b=a+((b-a).toNat:Int):=by omega
 rw[e,a0G];have d:=c0O (b-a).toNat;have c:=a0q a;generalize p2 ((b-a).toNat:Int)=y at *;generalize p2 a=x at *;have:=Rat.mul_nonneg (Rat.le_of_lt c) (show 0<=y-1 by grind);grind
theorem a3b {a b:Int} (h:p2 a<p2 b):a<b:=by
 apply Classical.byContradiction;intro c;have:=a7v (show b<=a by omega);grind
theorem a2a (a:Int):p2 (a+1)=2*p2 a:=by
 rw[a0G];have:p2 1=2:=by unfold p2;rw[Rat.zpow_one]
 rw[this];grind
theorem a0e {a b:Nat} (h:a<=b):(a:Rat)<=(b:Rat):=Rat.natCast_le_natCast.2 h
theorem a0r {a b c:Rat} (h:a<=b) (d:0<=c):a*c<=b*c:=Rat.mul_le_mul_of_nonneg_right h d
theorem a2k (a:Nat):(0:Rat)<=(a:Rat):=by
 have:=a0e (zero_le a);simpa using this
def sgR (s:Bool):Rat:=if s then -1 else 1
def RV (s:Bool) (m:Nat) (e:Int):Rat:=sgR s*(m:Rat)*p2 e
def IsR (w:Nat) (q:Rat):Prop:=∃(s:Bool) (m:Nat) (e:Int),Ieee.double.read w = .number s m e /\ -1074<=e /\ q=RV s m e
def b4K (a b ε:Rat):Prop:=a<=b+ε /\ b<=a+ε
theorem b8V (neg:Bool) (N d:Nat):2*(Ieee.Toward.even.cut neg N d*2^d)<=2*N+2^d /\ 2*N<=2*(Ieee.Toward.even.cut neg N d*2^d)+2^d:=by
 unfold Ieee.Toward.cut;dsimp only;rw[Nat.one_shiftLeft];by_cases hd:d<=N.log2+2
 ·rw[Nat.min_eq_left hd];have c:=Nat.div_add_mod N (2^d);have e:=Nat.mod_lt N (Nat.two_pow_pos d);generalize a:(decide (2^d<2*(N%2^d))||(2^d==2*(N%2^d)&&N/2^d%2==1))=b;have i:b=true->2^d<=2*(N%2^d):=by
   intro h;rw[h]at a;simp only[Bool.or_eq_true,decide_eq_true_eq,and_eq_true,beq_iff_eq]at a;omega
  have j:b=false->2*(N%2^d)<=2^d:=by
   intro h;rw[h]at a;simp only[Bool.or_eq_false_iff,decide_eq_false_iff_not]at a;omega
  generalize 2^d=g at *;generalize N/g=q at *;generalize N%g=r at *;have k:q*g=g*q:=Nat.mul_comm _ _;cases b
  ·have:=j rfl;simp only[Bool.toNat_false,Nat.add_zero];omega
  ·have:=i rfl;simp only[Bool.toNat_true,Nat.add_mul,Nat.one_mul];omega
 ·rw[Nat.min_eq_right (by omega)];have l:N<2^(N.log2+1):=Nat.lt_log2_self;have f:2^(N.log2+2)=2*2^(N.log2+1):=by rw[Nat.pow_succ];omega
  have c:N/2^(N.log2+2)=0:=Nat.div_eq_of_lt (by omega);have e:N%2^(N.log2+2)=N:=Nat.mod_eq_of_lt (by omega);have m:2^(N.log2+2)<=2^d:=Nat.pow_le_pow_right (by decide) (by omega);rw[c,e];have:(decide (2^(N.log2+2)<2*N)||(2^(N.log2+2)==2*N&&0%2==1))=false:=by
   simp only[Bool.or_eq_false_iff,decide_eq_false_iff_not,Bool.and_eq_false_iff];exact⟨by omega,.inr rfl⟩
  rw[this];simp only[Bool.toNat_false,Nat.add_zero,Nat.zero_mul];omega
theorem d6k (neg:Bool) (N d k:Nat) (h:2^(k+d)<=N):2^k<=Ieee.Toward.even.cut neg N d:=by
 unfold Ieee.Toward.cut;dsimp only;rw[Nat.one_shiftLeft];have hd:d<=N.log2+2:=by
  have b:N<2^(N.log2+1):=Nat.lt_log2_self;have:=(Nat.pow_lt_pow_iff_right (a:=2) (by decide)).1 (Nat.lt_of_le_of_lt h b);omega
 rw[Nat.min_eq_left hd];have b:2^k<=N/2^d:=by rw[Nat.le_div_iff_mul_le (Nat.two_pow_pos _),<- Nat.pow_add];exact h
 exact Nat.le_trans b (Nat.le_add_right _ _)
theorem a6l (neg:Bool):IsR (Ieee.double.word neg 0) 0:=by
 refine⟨neg,0,-1074,?_,Int.le_refl _,?_⟩
 ·cases neg<;>decide
 ·unfold RV;grind
theorem d1l (neg:Bool) (M:Nat) (p B:Int) (w:M≠0) (T:(M.log2:Int)+p<=B) (R:-1022<=B) (S:B<=1022) :
 ∃r,IsR (Ieee.double.nearest neg M p) r /\ b4K r (RV neg M p) (p2 (B-53)):=by
 unfold Ieee.Format.nearest;rw[if_neg w,f5P,d9N,b5N,b5M];dsimp only;have N:2^M.log2<=M:=Nat.log2_self_le w;have O:M<2^(M.log2+1):=Nat.lt_log2_self;generalize U:M.log2=L at *;obtain⟨last,i⟩:∃last,last=max (p+(L:Int)-(52:Nat)) (-1074):=⟨_,rfl⟩;rw[<- i];have C:p+(L:Int)-52<=last:=by omega
 have D:-1074<=last:=by omega
 have E:last<=B-52:=by omega
 have F:last=p+(L:Int)-52∨last=-1074:=by omega
 obtain⟨up,v⟩:∃up,up=(p-last).toNat:=⟨_,rfl⟩;obtain⟨d,hd⟩:∃d,d=(last-p).toNat:=⟨_,rfl⟩;rw[<- v,<- hd,Nat.shiftLeft_eq];have j:Ieee.Toward.even.cut neg (M*2^up) d<=2^53:=by
  refine c6j _ _ _ 53 ?_;have:M*2^up<2^(L+1+up):=by rw[Nat.pow_add];exact Nat.mul_lt_mul_of_pos_right O (Nat.two_pow_pos _)
  exact Nat.lt_of_lt_of_le this (Nat.pow_le_pow_right (by decide) (by omega))
 have s:last ≠ -1074->2^52<=Ieee.Toward.even.cut neg (M*2^up) d:=by
  intro H;refine d6k _ _ _ 52 ?_;have:2^(L+up)<=M*2^up:=by rw[Nat.pow_add];exact Nat.mul_le_mul_right _ N
  exact Nat.le_trans (Nat.pow_le_pow_right (by decide) (by omega)) this
 have a:=b8V neg (M*2^up) d;have f:d=0->Ieee.Toward.even.cut neg (M*2^up) d=M*2^up:=fun e=>by rw[e,a3P]
 generalize Ieee.Toward.even.cut neg (M*2^up) d=K at *;obtain⟨e,A⟩:∃e,e=(last - -1074).toNat:=⟨_,rfl⟩;rw[<- A];have b:e*2^52+K<2047*2^52:=by omega
 rw[Nat.min_eq_left (Nat.le_of_lt b)];obtain⟨m,c,I,G⟩:=a4P neg K e b (by
  by_cases h:last=-1074
  ·exact .inl ⟨by omega,j⟩
  ·exact .inr ⟨s h,j⟩)
 refine⟨RV neg m ((c:Int)-1074),⟨neg,m,_,I,by omega,rfl⟩,?_⟩;have J:RV neg m ((c:Int)-1074)=sgR neg*(K:Rat)*p2 last:=by
  have l:(m:Rat)*p2 (c:Int)=(K:Rat)*p2 (e:Int):=by
   rw[a0R,a0R]
   exact_mod_cast congrArg (fun n:Nat=>(n:Rat)) G
  have o:last=(e:Int) + -1074:=by omega
  unfold RV;rw[o,Int.sub_eq_add_neg,a0G,a0G];grind
 rw[J];by_cases V:last<=p
 ·have q:d=0:=by omega
  have z:=f q;have l:RV neg M p=sgR neg*(K:Rat)*p2 last:=by
   unfold RV;have o:p=(up:Int)+last:=by omega
   rw[z,o,a0G,a0R,Rat.natCast_mul];grind
  rw[l];have:=a0q (B-53);constructor<;>grind
 ·have u:up=0:=by omega
  rw[u,Nat.pow_zero,Nat.mul_one]at a;have l:p2 last=((2^d:Nat):Rat)*p2 p:=by
   have:last=(d:Int)+p:=by omega
   rw[this,a0G,a0R]
  have y:=a0q p;have P:2*((K:Rat)*((2^d:Nat):Rat))<=2*(M:Rat)+((2^d:Nat):Rat):=by exact_mod_cast a0e a.1
  have Q:2*(M:Rat)<=2*((K:Rat)*((2^d:Nat):Rat))+((2^d:Nat):Rat):=by exact_mod_cast a0e a.2
  have m1:=a0r P (Rat.le_of_lt y);have W:=a0r Q (Rat.le_of_lt y);have x:p2 last<=2*p2 (B-53):=by
   rw[<- a2a];exact a7v (by omega)
  unfold RV;rw[l]at *;generalize ((2^d:Nat):Rat)=g at *;generalize (K:Rat)=k at *;generalize (M:Rat)=mm at *;generalize p2 (B-53)=ε at *;generalize p2 p=t at *;cases neg
  ·have:sgR false=1:=rfl;rw[this];constructor<;>grind
  ·have:sgR true=-1:=rfl;rw[this];constructor<;>grind
theorem a2F (s:Bool) (e:Int):RV s 0 e=0:=by unfold RV;grind
theorem c6p (s:Bool) (m:Nat) (e:Int) {b:Rat} (a:RV s m e<b) (c:-b<RV s m e):(m:Rat)*p2 e<b:=by
 unfold RV at a c;cases s
 ·have:sgR false=1:=rfl;rw[this]at a;grind
 ·have:sgR true=-1:=rfl;rw[this]at c;grind
theorem b1E (neg:Bool) (M:Nat) (p:Int) (B:Int) (d:-1022<=B) (e:B<=1022) (c:RV neg M p<p2 (B+1)) (b:-p2 (B+1)<RV neg M p) :
 ∃r,IsR (Ieee.double.nearest neg M p) r /\ b4K r (RV neg M p) (p2 (B-53)):=by
 by_cases a:M=0
 ·subst a;refine⟨0,?_,?_⟩
  ·unfold Ieee.Format.nearest;rw[if_pos rfl];exact a6l neg
  ·rw[a2F];have:=a0q (B-53);constructor<;>grind
 ·refine d1l neg M p B a ?_ d e;have g:=c6p neg M p c b;have f:((2^M.log2:Nat):Rat)<=(M:Rat):=a0e (Nat.log2_self_le a);have h:=a0r f (Rat.le_of_lt (a0q p));have:p2 ((M.log2:Int)+p)<p2 (B+1):=by
   rw[a0G,a0R];grind
  have:=a3b this;omega
theorem c6q (s t:Bool):sgR (s ^^ t)=sgR s*sgR t:=by cases s<;>cases t<;>decide +kernel
theorem d9R (s:Bool):sgR (!s)=-sgR s:=by cases s<;>decide +kernel
theorem a3p (s:Bool) (m:Nat) (e base:Int) (h:base<=e):((Ieee.signed s m (e-base).toNat:Int):Rat)*p2 base=RV s m e:=by
 unfold Ieee.signed RV;have a:e=((e-base).toNat:Int)+base:=by omega
 rw[Nat.shiftLeft_eq];have b:p2 e=((2^(e-base).toNat:Nat):Rat)*p2 base:=by
  have:=a0G ((e-base).toNat:Int) base;rw[<- a,a0R]at this;exact this
 rw[b];cases s
 ·have:sgR false=1:=rfl;rw[this,if_neg (by decide),Rat.intCast_natCast,Rat.natCast_mul];grind
 ·have:sgR true=-1:=rfl;rw[this,if_pos rfl,Rat.intCast_neg,Rat.intCast_natCast,Rat.natCast_mul];grind
theorem g2l (s t:Bool) (m n:Nat) (e f:Int) (B:Int) (k:-1022<=B) (l:B<=1022) (b:RV s m e+RV t n f<p2 (B+1)) (a:-p2 (B+1)<RV s m e+RV t n f) :
 ∃w r,(Ieee.Datum.sum (.number s m e) (.number t n f)).map Ieee.double.write=some w /\ IsR w r /\ b4K r (RV s m e+RV t n f) (p2 (B-53)):=by
 unfold Ieee.Datum.sum;dsimp only;have q:=a3p s m e (min e f) (by omega);have u:=a3p t n f (min e f) (by omega);generalize p:Ieee.signed s m (e-min e f).toNat+Ieee.signed t n (f-min e f).toNat=T;have d:((T:Int):Rat)*p2 (min e f)=RV s m e+RV t n f:=by
  rw[<- p,Rat.intCast_add,<- q,<- u];grind
 have j:RV (if T=0 then s&&t else decide (T<0)) T.natAbs (min e f)=RV s m e+RV t n f:=by
  rw[<- d];unfold RV;by_cases g:T=0
  ·subst g;simp[Rat.mul_zero,Rat.zero_mul]
  ·rw[if_neg g];by_cases h:T<0
   ·have c:((T:Int):Rat)=-((T.natAbs:Nat):Rat):=by
     rw[<- Rat.intCast_natCast,<- Rat.intCast_neg];congr 1;omega
    rw[c];simp only[h,decide_true];have:sgR true=-1:=rfl;rw[this];grind
   ·have c:((T:Int):Rat)=((T.natAbs:Nat):Rat):=by
     rw[<- Rat.intCast_natCast];congr 1;omega
    rw[c];simp only[h,decide_false];have:sgR false=1:=rfl;rw[this];grind
 rw[<- j]at b a;obtain⟨r,o,i⟩:=b1E _ _ _ B k l b a;rw[j]at i;exact⟨_,r,rfl,o,i⟩
theorem g2m {a b:Nat} {x y:Rat} (p:IsR a x) (q:IsR b y) (B:Int) (i:-1022<=B) (j:B<=1022) (d:x+y<p2 (B+1)) (c:-p2 (B+1)<x+y) :
 ∃r,IsR (a0b .add .f64 a b) r /\ b4K r (x+y) (p2 (B-53)):=by
 obtain⟨s,m,e,u,v,rfl⟩:=p;obtain⟨t,n,f,g,z,rfl⟩:=q;obtain⟨w,r,k,l,o⟩:=g2l s t m n e f B i j d c;have h:a0b .add .f64 a b=(((Ieee.double.read a).sum (Ieee.double.read b)).map Ieee.double.write).getD (qn .f64):=rfl;rw[h,u,g,k];exact⟨r,l,o⟩
theorem d6l (s:Bool) (m:Nat) (e:Int):RV (!s) m e=-RV s m e:=by
 unfold RV;rw[d9R];grind
theorem c6r {w:Nat} {q:Rat} (h:IsR w q):∃v:Int,isD w v /\ q=(v:Rat)*p2 (-1074):=by
 obtain⟨s,m,e,b,d,rfl⟩:=h;obtain⟨c,a⟩:∃c:Nat,e=(c:Int)-1074:=⟨(e+1074).toNat,by omega⟩;subst a;refine⟨VU s m c,⟨s,m,c,b,rfl⟩,?_⟩;unfold RV VU;rw[Int.sub_eq_add_neg,a0G,a0R];cases s
 ·have:sgR false=1:=rfl;rw[this,if_neg (by decide),Rat.intCast_natCast,Rat.natCast_mul];grind
 ·have:sgR true=-1:=rfl;rw[this,if_pos rfl,Rat.intCast_neg,Rat.intCast_natCast,Rat.natCast_mul];grind
theorem d9S {v w:Int}:(v:Rat)*p2 (-1074)<(w:Rat)*p2 (-1074)↔v<w:=by
 have a:=a0q (-1074);constructor
 ·intro h;apply Classical.byContradiction;intro b;have:(w:Rat)<=(v:Rat):=Rat.intCast_le_intCast.2 (by omega);have:=a0r this (Rat.le_of_lt a);grind
 ·intro h;have:(v:Rat)<(w:Rat):=Rat.intCast_lt_intCast.2 h;exact Rat.mul_lt_mul_of_pos_right this a
theorem e6C {a b:Nat} {x y:Rat} (e:IsR a x) (f:IsR b y):FloatKind.f64.format.order a b=some (if x<y then .lt else if y<x then .gt else .eq):=by
 obtain⟨v,c,rfl⟩:=c6r e;obtain⟨w,d,rfl⟩:=c6r f;rw[g2k c d];simp only[d9S];congr 1;rw[Int.compare_eq_ite_lt]
theorem f0b {a b:Nat} {x y:Rat} (d:IsR a x) (e:IsR b y):flt .f64 a b=decide (x<y):=by
 unfold flt;rw[e6C d e];by_cases h:x<y
 ·simp[h]
 ·by_cases c:y<x<;>simp[h,c]
theorem f5Q {a b:Nat} {x y:Rat} (d:IsR a x) (e:IsR b y):fgt .f64 a b=decide (y<x):=by
 unfold fgt;rw[e6C d e];by_cases h:x<y
 ·have:¬y<x:=by grind
  simp[h,this]
 ·by_cases c:y<x<;>simp[h,c]
theorem e2s {a b:Nat} {x y:Rat} (d:IsR a x) (e:IsR b y):feq .f64 a b=decide (x=y):=by
 unfold feq;rw[e6C d e];by_cases h:x<y
 ·have:¬x=y:=by grind
  simp[h,this]
 ·by_cases c:y<x
  ·have:¬x=y:=by grind
   simp[h,c,this]
  ·have:x=y:=by grind
   simp[this]
abbrev a4Q:Type:=List Nat×List Int×List (List Nat)×Unit
def wAt (p:a4Q) (i:Nat):Nat:=p.1.getD i 0
def aAt (p:a4Q) (i:Nat):Int:=p.2.1.getD i 0
def rAt (p:a4Q) (i:Nat):List Nat:=p.2.2.1.getD i []
def fle (x c:Nat):Bool:=flt .f32 x c||feq .f32 x c
def fge (x c:Nat):Bool:=fgt .f32 x c||feq .f32 x c
def a2e (x:Nat):Bool:=fge x 0&&fle x 1112014848
def a6m (l:List Nat):Bool:=a0i (fun j=>a2e (l.getD j 0)) 0 l.length
def a3c (p:a4Q) (i:Nat):Bool:=fgt .f32 (wAt p i) 0&&fle (wAt p i) 1120403456&&(decide (i=0)||fgt .f32 (wAt p i) (wAt p (i-1)))
def c0P (p:a4Q) (i:Nat):Bool:=decide (i=0)||decide (aAt p (i-1)<aAt p i)
def c8L (p:a4Q) (i:Nat):Bool:=decide ((rAt p i).length=p.2.1.length)&&a6m (rAt p i)
def a2b (p:a4Q):Bool:=a0m (p.1.length:Int) 1 12&&(a0m (p.2.1.length:Int) 2 24&&(decide (p.2.2.1.length=p.1.length)&&(a0i (a3c p) 0 p.1.length &&
 (a0i (c0P p) 0 p.2.1.length&&(aAt p 0==0&&(aAt p (p.2.1.length-1)==180&&a0i (c8L p) 0 p.2.2.1.length))))))
theorem c6s (x:Nat):e5g (x,())=some (a2e x,()):=by
 unfold e5g a2e;show(bif fge x 0 then some (fle x 1112014848,())else some (false,()))=_;cases fge x 0<;>rfl
theorem d9T (x:Nat):e5j (x,())=some (!a2e x,()):=by
 unfold e5j;have e:e5g (x,())=some (a2e x,()):=c6s x;simp only[e5h,e5i,e,isSome_some,getD_some,cond_true]
theorem c8M (k:Nat) (a:0<k) (h:k<9223372036854775807):wrap IntKind.i64 ((k:Int)-1)=((k-1:Nat):Int):=by rw[w64 (by omega) (by omega)];omega
theorem d9U (l:List Nat) (h:l.length<=1000):e5l ((l,(),()),())=some ((!a6m l,()),()):=by
 have u:a9Z ((l,(),(l.length:Int),(0:Int),()),())=some (match a0x (fun j=>!a2e (l.getD j 0)) 0 l.length with|some j => .inr (((j:Int),()),())|none => .inl ((),())):=by
  refine(a4v (q:=b3z) (fun k=>((l,(),(l.length:Int),(k:Int),()),())) l.length (fun j=>!a2e (l.getD j 0)) (.inl ((),())) (fun j => .inr (((j:Int),()),())) ?_ ?_ (b8c ((l,(),(l.length:Int),(0:Int),()),())) ?_:_)
  ·intro k f t;unfold b3z;have e:decide ((k:Int)<(l.length:Int))=true:=by simpa using t
   have g:decide (0<=(k:Int))=true:=by simp
   have r:getD l k (zero (Ty.flt FloatKind.f32))=l.getD k 0:=rfl;have i:e5j (l.getD k 0,())=some (!a2e (l.getD k 0),()):=d9T _;simp only[a2H k (by omega),e,g,Bool.and_self,cond_true,toNat_natCast,r,f3P,f3Q,i,isSome_some,getD_some]
  ·intro f;unfold b3z;simp
  ·simp only[b8c];omega
 have d:e9E ((l,(),()),())=some ((match a0x (fun j=>!a2e (l.getD j 0)) 0 l.length with|none=>(-1:Int)|some j=>(j:Int),()),()):=by
  unfold e9E;simp only[c4u,c4v,c4w,u,isSome_some,cond_true];cases a0x (fun j=>!a2e (l.getD j 0)) 0 l.length<;>rfl
 unfold e5l;simp only[f3T,f3U,d,isSome_some,getD_some,cond_true];unfold a6m;cases hf:a0x (fun j=>!a2e (l.getD j 0)) 0 l.length with
 | none =>
   have c:a0i (fun j=>a2e (l.getD j 0)) 0 l.length=true:=a0u.2 fun j m s=>by
    have:=a1X.1 hf j m s;simpa using this
   rw[c];rfl
 | some j =>
   obtain⟨c,n,o,_⟩:=a1W hf;have p:a0i (fun j=>a2e (l.getD j 0)) 0 l.length=false:=by
    rw[Bool.eq_false_iff];intro v;have:=a0u.1 v j c n;have a:(!a2e (l.getD j 0))=true:=o;rw[this]at a;cases a
   rw[p];have:decide ((j:Int) ≥ 0)=true:=by simp
   exact congrArg (fun b:Bool=>some ((b,()),())) this
theorem d6m (p:a4Q):F90 (p,())=some (a2b p,()):=by
 unfold F90 a2b;have D:F44 ((p.1.length:Int),1,12,())=some (a0m (p.1.length:Int) 1 12,()):=a3J _ _ _;have E:F44 ((p.2.1.length:Int),2,24,())=some (a0m (p.2.1.length:Int) 2 24,()):=a3J _ _ _;simp only[K44,G44,D,E,isSome_some,getD_some,cond_true];cases h1:a0m (p.1.length:Int) 1 12
 ·rfl
 cases h2:a0m (p.2.1.length:Int) 2 24
 ·rfl
 simp only[a0m,and_eq_true,decide_eq_true_eq]at h1 h2;by_cases w:p.2.2.1.length=p.1.length
 rotate_left
 ·have a:((p.2.2.1.length:Int) != (p.1.length:Int))=true:=by simp;omega
  have b:decide (p.2.2.1.length=p.1.length)=false:=by simpa using w
  rw[a,b];rfl
 have a:((p.2.2.1.length:Int) != (p.1.length:Int))=false:=by simp;omega
 have b:decide (p.2.2.1.length=p.1.length)=true:=by simpa using w
 rw[a,b];have v:c0C (((),p.1,(p.1.length:Int),(0:Int),()),(p,()))=some (bif a0i (a3c p) 0 p.1.length then .inl (((),()),(p,()))else .inr ((false,()),())):=by
  refine(a0F (q:=c4G) (fun k=>(((),p.1,(p.1.length:Int),(k:Int),()),(p,()))) p.1.length (a3c p) _ _ ?_ ?_ _ ?_:_)
  ·intro k f n;unfold c4G a3c;have a:decide ((k:Int)<(p.1.length:Int))=true:=by simpa using n
   have b:decide (0<=(k:Int))=true:=by simp
   have i:getD p.1 k (zero (Ty.flt FloatKind.f32))=wAt p k:=rfl;simp only[a2H k (by omega),a,b,Bool.and_self,cond_true,toNat_natCast,i];show(bif fgt .f32 (wAt p k) 0 then bif !fle (wAt p k) 1120403456 then _ else _ else _)=_;cases fgt .f32 (wAt p k) 0
   ·rfl
   cases fle (wAt p k) 1120403456
   ·rfl
   simp only[Bool.not_true,cond_false,cond_true,Bool.true_and];by_cases l:k=0
   ·subst l;simp
   ·have c:decide ((k:Int)>0)=true:=by simp;omega
    have d:decide (0<=((k-1:Nat):Int))=true:=by simp
    have e:decide (((k-1:Nat):Int)<(p.1.length:Int))=true:=by simp;omega
    have g:decide (k=0)=false:=by simpa using l
    have m:getD p.1 (k-1) (zero (Ty.flt FloatKind.f32))=wAt p (k-1):=rfl;simp only[c,c8M k (by omega) (by omega),d,e,Bool.and_self,cond_true,toNat_natCast,m,g,Bool.false_or];cases fgt .f32 (wAt p k) (wAt p (k-1))<;>rfl
  ·intro f;unfold c4G;simp
  ·simp only[d9e];omega
 simp only[d4P,d4Q,d4S,d4R,v,isSome_some,cond_true,cond_false,Bool.true_and];cases a0i (a3c p) 0 p.1.length
 ·rfl
 simp only[cond_true,isR,xOf,cond_false,Bool.true_and];have o:b0b (((),p.2.1,(p.2.1.length:Int),(0:Int),()),(p,()))=some (bif a0i (c0P p) 0 p.2.1.length then .inl (((),()),(p,()))else .inr ((false,()),())):=by
  refine(a0F (q:=b3B) (fun k=>(((),p.2.1,(p.2.1.length:Int),(k:Int),()),(p,()))) p.2.1.length (c0P p) _ _ ?_ ?_ _ ?_:_)
  ·intro k f n;unfold b3B c0P;have a:decide ((k:Int)<(p.2.1.length:Int))=true:=by simpa using n
   have b:decide (0<=(k:Int))=true:=by simp
   have i:getD p.2.1 k (zero (Ty.int IntKind.i64))=aAt p k:=rfl;simp only[a2H k (by omega),a,b,Bool.and_self,cond_true,toNat_natCast,i];by_cases l:k=0
   ·subst l;simp
   ·have c:decide ((k:Int)>0)=true:=by simp;omega
    have d:decide (0<=((k-1:Nat):Int))=true:=by simp
    have e:decide (((k-1:Nat):Int)<(p.2.1.length:Int))=true:=by simp;omega
    have g:decide (k=0)=false:=by simpa using l
    have m:getD p.2.1 (k-1) (zero (Ty.int IntKind.i64))=aAt p (k-1):=rfl;simp only[c,c8M k (by omega) (by omega),d,e,Bool.and_self,cond_true,toNat_natCast,m,g,Bool.false_or];have j:decide (aAt p k<=aAt p (k-1))=!decide (aAt p (k-1)<aAt p k):=by
     by_cases h:aAt p (k-1)<aAt p k
     ·simp[h]
     ·simp[h];omega
    rw[j];cases decide (aAt p (k-1)<aAt p k)<;>rfl
  ·intro f;unfold b3B;simp
  ·simp only[c4B];omega
 simp only[c4C,c4D,c4F,c4E,o,isSome_some,cond_true,cond_false];cases a0i (c0P p) 0 p.2.1.length
 ·rfl
 simp only[cond_true,isR,xOf,cond_false,Bool.true_and];have z:(decide (0<=0)&&decide ((0:Int)<(length (α:=Den (Ty.int IntKind.i64)) p.2.1:Int)))=true:=by
  have:(0:Int)<(p.2.1.length:Int):=by omega
  exact(decide_eq_true this:_)
 have A:wrap IntKind.i64 ((length (α:=Den (Ty.int IntKind.i64)) p.2.1:Int)-1)=((length (α:=Den (Ty.int IntKind.i64)) p.2.1-1:Nat):Int):=c8M _ (by omega) (by omega);have B:decide (((length (α:=Den (Ty.int IntKind.i64)) p.2.1-1:Nat):Int)<(length (α:=Den (Ty.int IntKind.i64)) p.2.1:Int))=true:=by simp;omega
 have C:decide (0<=((length (α:=Den (Ty.int IntKind.i64)) p.2.1-1:Nat):Int))=true:=by simp
 have i:getD p.2.1 0 (zero (Ty.int IntKind.i64))=aAt p 0:=rfl;have m:getD p.2.1 (p.2.1.length-1) (zero (Ty.int IntKind.i64))=aAt p (p.2.1.length-1):=rfl
 erw [z]
 simp only[A,B,C,toNat_natCast,Int.toNat_zero,i,m,Bool.and_self,Bool.not_true,cond_false,cond_true];by_cases s:aAt p 0=0
 rotate_left
 ·have e:(aAt p 0 != 0)=true:=by simpa using s
  have g:(aAt p 0==0)=false:=by simpa using s
  rw[e,g];rfl
 have e:(aAt p 0 != 0)=false:=by simpa using s
 have g:(aAt p 0==0)=true:=by simpa using s
 rw[e,g];by_cases t:aAt p (p.2.1.length-1)=180
 rotate_left
 ·have j:(aAt p (p.2.1.length-1) != 180)=true:=by simpa using t
  have u:(aAt p (p.2.1.length-1)==180)=false:=by simpa using t
  rw[j,u];rfl
 have j:(aAt p (p.2.1.length-1) != 180)=false:=by simpa using t
 have u:(aAt p (p.2.1.length-1)==180)=true:=by simpa using t
 rw[j,u];have r:b0a (((),p.2.2.1,(p.2.2.1.length:Int),(0:Int),()),(p,()))=some (bif a0i (c8L p) 0 p.2.2.1.length then .inl ((),())else .inr ((false,()),())):=by
  refine(a0F (q:=b3A) (fun k=>(((),p.2.2.1,(p.2.2.1.length:Int),(k:Int),()),(p,()))) p.2.2.1.length (c8L p) _ _ ?_ ?_ _ ?_:_)
  ·intro k f n;unfold b3A c8L;have a:decide ((k:Int)<(p.2.2.1.length:Int))=true:=by simpa using n
   have b:decide (0<=(k:Int))=true:=by simp
   have i:getD p.2.2.1 k (zero (Ty.slice (Ty.flt FloatKind.f32)))=rAt p k:=rfl;simp only[a2H k (by omega),a,b,Bool.and_self,cond_true,toNat_natCast,i];by_cases x:(rAt p k).length=p.2.1.length
   ·have c:(((rAt p k).length:Int) != (p.2.1.length:Int))=false:=by simp;omega
    have d:decide ((rAt p k).length=p.2.1.length)=true:=by simpa using x
    have y:e5l ((rAt p k,(),()),())=some ((!a6m (rAt p k),()),()):=d9U _ (by omega);rw[c,d];simp only[cond_false,f3X,f3Y,y,isSome_some,getD_some,cond_true,Bool.true_and];cases a6m (rAt p k)<;>rfl
   ·have c:(((rAt p k).length:Int) != (p.2.1.length:Int))=true:=by simp;omega
    have d:decide ((rAt p k).length=p.2.1.length)=false:=by simpa using x
    rw[c,d];rfl
  ·intro f;unfold b3A;simp
  ·simp only[c4x];omega
 simp only[c4y,c4z,c4A,r,isSome_some,cond_true,cond_false,Bool.true_and];cases a0i (c8L p) 0 p.2.2.1.length<;>rfl
theorem c0Q {x y:Nat} (l:fgt .f32 x 0=true) (i:fle x 1120403456=true) (p:fgt .f32 y 0=true) (j:fle y 1120403456=true):fle x y=!fgt .f32 x y:=by
 unfold fle flt feq fgt at *;have num:∀z:Nat,(FloatKind.f32.format.order z 0==some .gt)=true->((FloatKind.f32.format.order z 1120403456==some .lt)||(FloatKind.f32.format.order z 1120403456==some .eq))=true->∃s m e,Ieee.single.read z = .number s m e:=by
  intro z g d;have q:FloatKind.f32.format.order z 1120403456=(Ieee.single.read z).order (Ieee.single.read 1120403456):=rfl;have u:∃s m e,Ieee.single.read 1120403456 = .number s m e:=⟨false,13107200,-17,by decide +kernel⟩;have r:FloatKind.f32.format.order z 0=(Ieee.single.read z).order (Ieee.single.read 0):=rfl;have v:∃s m e,Ieee.single.read 0 = .number s m e:=⟨false,0,-149,by decide +kernel⟩;obtain⟨s,m,e,k⟩:=u;obtain⟨s2,A,w,h⟩:=v;rw[q,k]at d;rw[r,h]at g;cases hz:Ieee.single.read z with
  |number a b c=>exact⟨a,b,c,rfl⟩
  |nan a b=>rw[hz]at d;simp[Ieee.Datum.order]at d
  | infinity a =>
    rw[hz]at g d;cases a<;>simp[Ieee.Datum.order]at g d
 obtain⟨s,m,e,g⟩:=num x l i;obtain⟨t,n,f,d⟩:=num y p j;have o:FloatKind.f32.format.order x y=(Ieee.single.read x).order (Ieee.single.read y):=rfl;rw[o,g,d];unfold Ieee.Datum.order;dsimp only;generalize compare (α:=Int) _ _=c;cases c<;>rfl
def a4V (p:a4Q) (i:Nat):Bool:=a3c p i&&c8L p i
theorem d6n (p:a4Q):F99 (p,())=some (a2b p,()):=by
 unfold F99;have U:F51 ((p.1.length:Int),1,12,())=some (a0m (p.1.length:Int) 1 12,()):=a1x _ _ _;have V:F51 ((p.2.1.length:Int),2,24,())=some (a0m (p.2.1.length:Int) 2 24,()):=a1x _ _ _;simp only[K51,G51,U,V,isSome_some,getD_some,cond_true];unfold a2b;cases h1:a0m (p.1.length:Int) 1 12
 ·rfl
 cases h2:a0m (p.2.1.length:Int) 2 24
 ·rfl
 simp only[a0m,and_eq_true,decide_eq_true_eq]at h1 h2;by_cases E:p.2.2.1.length=p.1.length
 rotate_left
 ·have b:((p.2.2.1.length:Int) != (p.1.length:Int))=true:=by simp;omega
  have d:decide (p.2.2.1.length=p.1.length)=false:=by simpa using E
  rw[b,d];rfl
 have b:((p.2.2.1.length:Int) != (p.1.length:Int))=false:=by simp;omega
 have d:decide (p.2.2.1.length=p.1.length)=true:=by simpa using E
 rw[b,d];have J:∀k,k<p.1.length->(rAt p k).length<=24->c0y (((),(k:Int),(0:Int),()),(p,()))=some (bif a6m (rAt p k)then .inl (((),(k:Int),()),(p,()))else .inr ((false,()),())):=by
  intro k H D;refine(a0F (q:=c2X) (fun j=>(((),(k:Int),(j:Int),()),(p,()))) (rAt p k).length (fun j=>a2e ((rAt p k).getD j 0)) _ _ ?_ ?_ _ ?_:_)
  ·intro j f g;unfold c2X a2e;have b:decide ((k:Int)<(p.2.2.1.length:Int))=true:=by simp;omega
   have d:decide (0<=(k:Int))=true:=by simp
   have i:decide ((j:Int)<((rAt p k).length:Int))=true:=by simpa using g
   have l:decide (0<=(j:Int))=true:=by simp
   have o:getD p.2.2.1 k (zero (Ty.slice (Ty.flt FloatKind.f32)))=rAt p k:=rfl;have t:getD (rAt p k) j (zero (Ty.flt FloatKind.f32))=(rAt p k).getD j 0:=rfl;simp only[a2H j (by omega),b,d,Bool.and_self,cond_true,toNat_natCast,o,i,l,t];show(bif fge ((rAt p k).getD j 0) 0 then bif !fle ((rAt p k).getD j 0) 1112014848 then _ else _ else _)=_;cases fge ((rAt p k).getD j 0) 0
   ·rfl
   cases fle ((rAt p k).getD j 0) 1112014848<;>rfl
  ·intro f;unfold c2X;have b:decide ((k:Int)<(p.2.2.1.length:Int))=true:=by simp;omega
   have d:decide (0<=(k:Int))=true:=by simp
   have o:getD p.2.2.1 k (zero (Ty.slice (Ty.flt FloatKind.f32)))=rAt p k:=rfl;simp only[b,d,Bool.and_self,cond_true,toNat_natCast,o,Int.lt_irrefl,decide_false,cond_false]
  ·simp only[d8t];have:(rAt p k).length<=24:=D;omega
 have I : c0z (((),(0:Int),()),(p,()))=some (bif a0i (a4V p) 0 p.1.length then .inl (((),()),(p,()))else .inr ((false,()),())):=by
  have K:∀(n k:Nat),k+n=p.1.length->a0i (a3c p) 0 k=true->∀m,n<m->a0K (b1k) m (((),(k:Int),()),(p,()))=some (bif a0i (a4V p) k n then .inl (((),()),(p,()))else .inr ((false,()),())):=by
   intro n
   induction n with
   | zero =>
     intro k H _ m S;cases m with
     |zero=>omega
     | succ m =>
       show b1k _ _=_;have:k=p.1.length:=by omega
       unfold b1k;simp only[this,Int.lt_irrefl,decide_false,cond_false];rfl
   | succ n W =>
     intro k H M m S;cases m with
     |zero=>omega
     | succ m =>
       show b1k (a0K (b1k) m) _=_;have b:decide ((k:Int)<(p.1.length:Int))=true:=by simp;omega
       have B:decide ((k:Int)<(p.2.2.1.length:Int))=true:=by simp;omega
       have d:decide (0<=(k:Int))=true:=by simp
       have o:getD p.1 k (zero (Ty.flt FloatKind.f32))=wAt p k:=rfl;have T:getD p.2.2.1 k (zero (Ty.slice (Ty.flt FloatKind.f32)))=rAt p k:=rfl;have e:a0i (a4V p) k (n+1)=bif a4V p k then a0i (a4V p) (k+1) n else false:=by
        show(a4V p k&&a0i (a4V p) (k+1) n)=_;cases a4V p k<;>rfl
       have u:a3c p k=true->a0i (a3c p) 0 (k+1)=true:=by
        intro h;refine a0u.2 fun j a g=>?_
        by_cases c:j=k
        ·rw[c];exact h
        ·exact a0u.1 M j a (by omega)
       have s:a3c p k=true->(bif (((rAt p k).length:Int) != (p.2.1.length:Int))then some (Sum.inr ((false,()),()))else
        bif b7n (((),(k:Int),0,()),(p,()))then bif b7o (((),(k:Int),0,()),(p,()))then some (Sum.inr (((b7p (((),(k:Int),0,()),(p,()))).1.1,()),()))
        else a0K (b1k) m (((),wrap IntKind.i64 ((b3a (((),(k:Int),0,()),(p,()))).1.2.1+1),()),((b3a (((),(k:Int),0,()),(p,()))).2.1,()))else none) =
        some (bif a0i (a4V p) k (n+1)then .inl (((),()),(p,()))else .inr ((false,()),())):=by
        intro z;rw[e];unfold a4V c8L;rw[z];by_cases L:(rAt p k).length=p.2.1.length
        ·have i:(((rAt p k).length:Int) != (p.2.1.length:Int))=false:=by simp;omega
         have l:decide ((rAt p k).length=p.2.1.length)=true:=by simpa using L
         have F:=J k (by omega) (by omega);rw[i,l];simp only[cond_false,b7n,b7o,b3a,b7p,F,isSome_some,cond_true,Bool.true_and];cases a6m (rAt p k)
         ·rfl
         ·simp only[cond_true,isR,xOf,cond_false,a2H k (by omega)];exact W (k+1) (by omega) (u z) m (by omega)
        ·have i:(((rAt p k).length:Int) != (p.2.1.length:Int))=true:=by simp;omega
         have l:decide ((rAt p k).length=p.2.1.length)=false:=by simpa using L
         rw[i,l];rfl
       have v:a3c p k=false->some (Sum.inr ((false,()),()))=(some (bif a0i (a4V p) k (n+1)then .inl (((),()),(p,()))else .inr ((false,()),())):Option (d8u⊕d8v)):=by
        intro h;rw[e];unfold a4V;rw[h];rfl
       unfold b1k;simp only[b,B,d,Bool.and_self,cond_true,toNat_natCast,o,T];show(bif fgt .f32 (wAt p k) 0 then bif !fle (wAt p k) 1120403456 then _ else _ else _)=_;cases c1:fgt .f32 (wAt p k) 0
       ·exact v (by unfold a3c;rw[c1];rfl)
       cases c2:fle (wAt p k) 1120403456
       ·exact v (by unfold a3c;rw[c1,c2];rfl)
       simp only[Bool.not_true,cond_false,cond_true];by_cases a:k=0
       ·have i:decide ((k:Int)>0)=false:=by simp;omega
        rw[i];exact s (by unfold a3c;rw[c1,c2,a];rfl)
       ·have i:decide ((k:Int)>0)=true:=by simp;omega
        have l:decide (0<=((k-1:Nat):Int))=true:=by simp
        have C:decide (((k-1:Nat):Int)<(p.1.length:Int))=true:=by simp;omega
        have A:decide (k=0)=false:=by simpa using a
        have t:getD p.1 (k-1) (zero (Ty.flt FloatKind.f32))=wAt p (k-1):=rfl;have x:a3c p (k-1)=true:=a0u.1 M (k-1) (zero_le _) (by omega);have r:fgt .f32 (wAt p (k-1)) 0=true /\ fle (wAt p (k-1)) 1120403456=true:=by
         unfold a3c at x;simp only[and_eq_true]at x;exact x.1
        have G:=c0Q c1 c2 r.1 r.2;simp only[i,c8M k (by omega) (by omega),l,C,Bool.and_self,cond_true,toNat_natCast,t];show(bif fle (wAt p k) (wAt p (k-1))then _ else _)=_;rw[G];cases c3:fgt .f32 (wAt p k) (wAt p (k-1))
        ·exact v (by unfold a3c;rw[c1,c2,c3,A];rfl)
        ·exact s (by unfold a3c;rw[c1,c2,c3,A];rfl)
  exact K p.1.length 0 (by omega) rfl _ (by simp only[d8w];omega)
 have w:a0i (a4V p) 0 p.1.length=(a0i (a3c p) 0 p.1.length&&a0i (c8L p) 0 p.1.length):=by
  rw[Bool.eq_iff_iff];simp only[and_eq_true];constructor
  ·intro h;exact⟨a0u.2 fun j a g=>by have:=a0u.1 h j a g;unfold a4V at this;simp only[and_eq_true]at this;exact this.1,
    a0u.2 fun j a g=>by have:=a0u.1 h j a g;unfold a4V at this;simp only[and_eq_true]at this;exact this.2⟩
  ·rintro⟨h,h'⟩;exact a0u.2 fun j a g=>by unfold a4V;rw[a0u.1 h j a g,a0u.1 h' j a g];rfl
 simp only[d3a,d3b,d3d,d3c,I,isSome_some,cond_true,cond_false,Bool.true_and];rw[E,w];cases hwb:a0i (a3c p) 0 p.1.length
 ·rfl
 cases hrb:a0i (c8L p) 0 p.1.length
 ·simp only[Bool.and_false,Bool.and_self,isR,yOf,cond_true,cond_false];rfl
 simp only[Bool.and_self,cond_true,isR,xOf,cond_false,Bool.true_and,Bool.and_true];have y:a9Q (((),(1:Int),()),(p,()))=some (bif a0i (c0P p) 0 p.2.1.length then .inl (((),()),(p,()))else .inr ((false,()),())):=by
  have a:a0i (c0P p) 0 p.2.1.length=a0i (fun j=>c0P p (j+1)) 0 (p.2.1.length-1):=by
   rw[Bool.eq_iff_iff,a0u,a0u];constructor
   ·intro h j _ g;exact h (j+1) (by omega) (by omega)
   ·intro h j _ g;by_cases c:j=0
    ·subst c;rfl
    ·have:=h (j-1) (zero_le _) (by omega)
     rwa [show j-1+1=j by omega]at this
  rw[a];refine(a0F (q:=b2Z) (fun k=>(((),((k+1:Nat):Int),()),(p,()))) (p.2.1.length-1) (fun j=>c0P p (j+1)) _ _ ?_ ?_ _ ?_:_)
  ·intro k f H;unfold b2Z c0P;have b:decide (((k+1:Nat):Int)<(p.2.1.length:Int))=true:=by simp;omega
   have d:decide (0<=((k+1:Nat):Int))=true:=by simp;omega
   have o:getD p.2.1 (k+1) (zero (Ty.int IntKind.i64))=aAt p (k+1):=rfl;have l:decide (0<=((k+1-1:Nat):Int))=true:=by simp
   have C:decide (((k+1-1:Nat):Int)<(p.2.1.length:Int))=true:=by simp;omega
   have t:getD p.2.1 (k+1-1) (zero (Ty.int IntKind.i64))=aAt p (k+1-1):=rfl;simp only[a2H (k+1) (by omega),b,d,Bool.and_self,cond_true,toNat_natCast,o,c8M (k+1) (by omega) (by omega),l,C,t];have A:decide (k+1=0)=false:=by simp
   have N:decide (aAt p (k+1)<=aAt p (k+1-1))=!decide (aAt p (k+1-1)<aAt p (k+1)):=by
    by_cases h:aAt p (k+1-1)<aAt p (k+1)
    ·have:¬aAt p (k+1)<=aAt p (k+1-1):=by omega
     rw[decide_eq_false this,decide_eq_true h];rfl
    ·have:aAt p (k+1)<=aAt p (k+1-1):=by omega
     rw[decide_eq_true this,decide_eq_false h];rfl
   rw[A,N];cases decide (aAt p (k+1-1)<aAt p (k+1))<;>rfl
  ·intro f;unfold b2Z;have:decide (((p.2.1.length-1+1:Nat):Int)<(p.2.1.length:Int))=false:=by simp;omega
   simp only[this,cond_false]
  ·simp only[c2S];omega
 simp only[c2T,c2U,c2W,c2V,y,isSome_some,cond_true];cases a0i (c0P p) 0 p.2.1.length
 ·rfl
 simp only[cond_true,isR,xOf,cond_false,Bool.true_and];have O:(decide (0<=0)&&decide ((0:Int)<(length (α:=Den (Ty.int IntKind.i64)) p.2.1:Int)))=true:=by
  have:(0:Int)<(p.2.1.length:Int):=by omega
  exact(decide_eq_true this:_)
 have P:wrap IntKind.i64 ((length (α:=Den (Ty.int IntKind.i64)) p.2.1:Int)-1)=((length (α:=Den (Ty.int IntKind.i64)) p.2.1-1:Nat):Int):=c8M _ (by omega) (by omega);have Q:decide (((length (α:=Den (Ty.int IntKind.i64)) p.2.1-1:Nat):Int)<(length (α:=Den (Ty.int IntKind.i64)) p.2.1:Int))=true:=by simp;omega
 have R:decide (0<=((length (α:=Den (Ty.int IntKind.i64)) p.2.1-1:Nat):Int))=true:=by simp
 have o:getD p.2.1 0 (zero (Ty.int IntKind.i64))=aAt p 0:=rfl;have t:getD p.2.1 (p.2.1.length-1) (zero (Ty.int IntKind.i64))=aAt p (p.2.1.length-1):=rfl
 erw [O]
 simp only[P,Q,R,toNat_natCast,Int.toNat_zero,o,t,Bool.and_self,Bool.not_true,cond_false,cond_true];cases (aAt p 0==0)
 ·rfl
 cases (aAt p (p.2.1.length-1)==180)<;>rfl
def a3d (s:Den a1B):List (Nat×Nat):=[s.snd.fst.fst,s.snd.fst.snd.fst,s.snd.fst.snd.snd.fst,s.snd.fst.snd.snd.snd.fst,s.snd.fst.snd.snd.snd.snd.fst,s.snd.fst.snd.snd.snd.snd.snd.fst,s.snd.fst.snd.snd.snd.snd.snd.snd.fst,s.snd.fst.snd.snd.snd.snd.snd.snd.snd.fst,s.snd.fst.snd.snd.snd.snd.snd.snd.snd.snd.fst,s.snd.fst.snd.snd.snd.snd.snd.snd.snd.snd.snd.fst,s.snd.fst.snd.snd.snd.snd.snd.snd.snd.snd.snd.snd.fst,s.snd.fst.snd.snd.snd.snd.snd.snd.snd.snd.snd.snd.snd.fst,s.snd.fst.snd.snd.snd.snd.snd.snd.snd.snd.snd.snd.snd.snd.fst]
theorem c6t (s:Den a1B):(a3d s).length=13:=rfl
theorem d1m (l:List (Nat×Nat)) (h:l.length<=13):e5r (l,())=some (a6k l,()):=by
 have g:b0c ((l,(l.length:Int),(0:Int),()),())=some (bif a6k l then .inl ((),())else .inr ((false,()),())):=by
  refine(a0F (q:=b3C) (fun k=>((l,(l.length:Int),(k:Int),()),())) l.length (fun i=>a2E (atV l i)) _ _ ?_ ?_ _ ?_:_)
  ·intro k f e;unfold b3C;have a:decide ((k:Int)<(l.length:Int))=true:=by simpa using e
   have b:decide (0<=(k:Int))=true:=by simp
   have d:getD l k (zero (Ty.cpx FloatKind.f32))=atV l k:=rfl;have c:F45 (atV l k,())=some (a2E (atV l k),()):=b0i _;simp only[a2H k (by omega),a,b,Bool.and_self,cond_true,toNat_natCast,d,K45,G45,c,isSome_some,getD_some];cases a2E (atV l k)<;>rfl
  ·intro f;simp[b3C]
  ·simp only[c4I];omega
 unfold e5r;simp only[c4J,c4K,c4L,g,isSome_some,cond_true];cases a6k l<;>rfl
theorem c6u (s:Den a1B):e1U (s,())=some (a6k (a3d s),()):=by
 have e:a9R (((),0,()),(s.fst,s.snd.fst),())=some (bif a6k (a3d s)then .inl ((),())else .inr ((false,()),())):=by
  refine(a0F (q:=b7r) (fun k=>(((),(k:Int),()),(s.fst,s.snd.fst),())) 13 (fun i=>a2E (atV (a3d s) i)) _ _ ?_ ?_ _ ?_:_)
  ·intro k f g;unfold b7r;have c:decide ((k:Int)<13)=true:=by simp;omega
   have d:decide (0<=(k:Int))=true:=by simp
   have a:F52 ((a3d s).getD k (0,0),())=some (a2E (atV (a3d s) k),()):=a4j _;generalize a2E (atV (a3d s) k)=b at a ⊢;simp only[a2H k (by omega),c,d,Bool.and_self,cond_true,toNat_natCast];unfold a3d at a;simp only[K52,G52,a,isSome_some,getD_some,cond_true];cases b<;>rfl
  ·intro f;rfl
  ·simp only[c2Y];omega
 unfold e1U;simp only[c2Z,c3a,c3b,e,isSome_some,cond_true];cases a6k (a3d s)<;>rfl
def a4W (l:List (Den a1B)) (i:Nat):Den a1B:=l.getD i (zero a1B)
def a4X (l:List Int) (i:Nat):Int:=l.getD i 0
def b1F (s:Den a1B):Bool:=a3K s.fst&&a6k (a3d s)
def a9x (a:List Int) (k:Nat):Bool:=a0m (a4X a k) 0 10000000&&(decide (k=0)||!decide (a4X a k<IntKind.i64.wrap (a4X a (k-1)+21600)))
def a4f (t:Den S30):Bool:=a0m (t.1.length:Int) 1 20&&(a0m (t.2.1.length:Int) 1 60&&(a0i (fun i=>b1F (a4W t.1 i)) 0 t.1.length&&a0i (a9x t.2.1) 0 t.2.1.length))
theorem e6D (t:Den S30) (h:a6R t):F91 (t,())=some (a4f t,()):=by
 obtain⟨b,a,_⟩:=t;obtain⟨n,o⟩:=h;have n:b.length<=21:=n;have o:a.length<=6:=o;have v:c0D (((),b,(b.length:Int),0,()),(b,a,()),())=some (bif a0i (fun i=>b1F (a4W b i)) 0 b.length then .inl (((),()),(b,a,()),())else .inr ((false,()),())):=by
  refine(a0F (q:=c4R) (fun k=>(((),b,(b.length:Int),(k:Int),()),(b,a,()),())) b.length (fun i=>b1F (a4W b i)) _ _ ?_ ?_ _ ?_:_)
  ·intro k f j;unfold c4R;have c:decide ((k:Int)<(b.length:Int))=true:=by simpa using j
   have d:decide (0<=(k:Int))=true:=by simp
   have g:getD b k (zero a1B)=a4W b k:=rfl;have e:F61 ((a4W b k).fst,())=some (a3K (a4W b k).fst,()):=b8U _;have m:e5r (a3d (a4W b k),())=some (a6k (a3d (a4W b k)),()):=d1m _ (by rw[c6t];decide);unfold b1F;simp only[a2H k (by omega),c,d,Bool.and_self,cond_true,toNat_natCast,g,K61,G61,e,isSome_some,getD_some];unfold a3d at m ⊢;simp only[f4e,f4f,m,isSome_some,getD_some];cases a3K (a4W b k).fst
   ·rfl
   ·cases a6k _<;>rfl
  ·intro f;simp[c4R]
  ·simp only[d9i];omega
 have l:b0d (((),a,(a.length:Int),0,()),(b,a,()),())=some (bif a0i (a9x a) 0 a.length then .inl ((),())else .inr ((false,()),())):=by
  refine(a0F (q:=b3D) (fun k=>(((),a,(a.length:Int),(k:Int),()),(b,a,()),())) a.length (a9x a) _ _ ?_ ?_ _ ?_:_)
  ·intro k f j;unfold b3D;have c:decide ((k:Int)<(a.length:Int))=true:=by simpa using j
   have d:decide (0<=(k:Int))=true:=by simp
   have g:∀i,getD a i (zero (Ty.int IntKind.i64))=a4X a i:=fun _=>rfl
   have e:F43 (a4X a k,())=some (a0m (a4X a k) 0 10000000,()):=c5H _;unfold a9x;simp only[a2H k (by omega),c,d,Bool.and_self,cond_true,toNat_natCast,g,K43,G43,e,isSome_some,getD_some];cases a0m (a4X a k) 0 10000000
   ·rfl
   ·cases k with
    |zero=>rfl
    | succ k =>
      have p:IntKind.i64.wrap (((k+1:Nat):Int)-1)=(k:Int):=by rw[w64 (by omega) (by omega)];omega
      have r:decide (((k+1:Nat):Int)>0)=true:=decide_eq_true (by omega);have s:(decide (0<=(k:Int))&&decide ((k:Int)<(a.length:Int)))=true:=by simp only[and_eq_true,decide_eq_true_eq];omega
      simp only[p,r,s,cond_true,toNat_natCast,Bool.not_true,cond_false,Nat.add_sub_cancel,Bool.true_and];have u:decide (k+1=0)=false:=by simp
      rw[u,Bool.false_or];cases decide (a4X a (k+1)<IntKind.i64.wrap (a4X a k+21600))<;>rfl
  ·intro f;simp[b3D]
  ·simp only[c4N];omega
 have w:F44 ((b.length:Int),1,20,())=some (a0m (b.length:Int) 1 20,()):=a3J _ _ _;have x:F44 ((a.length:Int),1,60,())=some (a0m (a.length:Int) 1 60,()):=a3J _ _ _;unfold F91 a4f;simp only[K44,G44,w,x,isSome_some,getD_some,cond_true,d4Z,d5a,d5b,d5c,v];cases a0m (b.length:Int) 1 20
 ·rfl
 cases a0m (a.length:Int) 1 60
 ·rfl
 cases a0i (fun i=>b1F (a4W b i)) 0 b.length
 ·rfl
 simp only[cond_true,isR,xOf,Bool.not_true,cond_false,c4O,c4P,c4Q,l,isSome_some];cases a0i (a9x a) 0 a.length<;>rfl
theorem b5O (t:Den S30) (h:a6R t):e1V (t,())=some (a4f t,()):=by
 obtain⟨b,a,_⟩:=t;obtain⟨m,n⟩:=h;have m:b.length<=21:=m;have n:a.length<=6:=n;have v:a9T (((),0,()),(b,a,()),())=some (bif a0i (fun i=>b1F (a4W b i)) 0 b.length then .inl (((),()),(b,a,()),())else .inr ((false,()),())):=by
  refine(a0F (q:=b3c) (fun k=>(((),(k:Int),()),(b,a,()),())) b.length (fun i=>b1F (a4W b i)) _ _ ?_ ?_ _ ?_:_)
  ·intro k f j;unfold b3c;have c:decide ((k:Int)<(b.length:Int))=true:=by simpa using j
   have d:decide (0<=(k:Int))=true:=by simp
   have g:getD b k (zero a1B)=a4W b k:=rfl;have e:F96 ((a4W b k).fst,())=some (a3K (a4W b k).fst,()):=a7e _;have o:e1U (a4W b k,())=some (a6k (a3d (a4W b k)),()):=c6u _;unfold b1F;simp only[a2H k (by omega),c,d,Bool.and_self,cond_true,toNat_natCast,g,K96,G96,e,e3A,e3B,o,isSome_some,getD_some];cases a3K (a4W b k).fst
   ·rfl
   ·cases a6k _<;>rfl
  ·intro f;simp[b3c]
  ·simp only[c3g];omega
 have l:a9S (((),0,()),(b,a,()),())=some (bif a0i (a9x a) 0 a.length then .inl ((),())else .inr ((false,()),())):=by
  refine(a0F (q:=b3b) (fun k=>(((),(k:Int),()),(b,a,()),())) a.length (a9x a) _ _ ?_ ?_ _ ?_:_)
  ·intro k f j;unfold b3b;have c:decide ((k:Int)<(a.length:Int))=true:=by simpa using j
   have d:decide (0<=(k:Int))=true:=by simp
   have g:∀i,getD a i (zero (Ty.int IntKind.i64))=a4X a i:=fun _=>rfl
   have e:F51 (a4X a k,0,10000000,())=some (a0m (a4X a k) 0 10000000,()):=a1x _ _ _;unfold a9x;simp only[a2H k (by omega),c,d,Bool.and_self,cond_true,toNat_natCast,g,K51,G51,e,isSome_some,getD_some];cases a0m (a4X a k) 0 10000000
   ·rfl
   ·cases k with
    |zero=>rfl
    | succ k =>
      have p:IntKind.i64.wrap (((k+1:Nat):Int)-1)=(k:Int):=by rw[w64 (by omega) (by omega)];omega
      have r:decide (((k+1:Nat):Int)>0)=true:=decide_eq_true (by omega);have s:(decide (0<=(k:Int))&&decide ((k:Int)<(a.length:Int)))=true:=by simp only[and_eq_true,decide_eq_true_eq];omega
      simp only[p,r,s,cond_true,toNat_natCast,Bool.not_true,cond_false,Nat.add_sub_cancel,Bool.true_and];have u:decide (k+1=0)=false:=by simp
      rw[u,Bool.false_or];cases decide (a4X a (k+1)<IntKind.i64.wrap (a4X a k+21600))<;>rfl
  ·intro f;simp[b3b]
  ·simp only[c3c];omega
 have w:F51 ((b.length:Int),1,20,())=some (a0m (b.length:Int) 1 20,()):=a1x _ _ _;have x:F51 ((a.length:Int),1,60,())=some (a0m (a.length:Int) 1 60,()):=a1x _ _ _;unfold e1V a4f;simp only[K51,G51,w,x,isSome_some,getD_some,cond_true,c3h,c3i,c3j,c3k,v];cases a0m (b.length:Int) 1 20
 ·rfl
 cases a0m (a.length:Int) 1 60
 ·rfl
 cases a0i (fun i=>b1F (a4W b i)) 0 b.length
 ·rfl
 simp only[cond_true,isR,xOf,Bool.not_true,cond_false,c3d,c3e,c3f,l,isSome_some];cases a0i (a9x a) 0 a.length<;>rfl
theorem c0R (v:b3n) (b:a0a v.2.1) (a:v.1.2.2.2.2.2.2.1=0) (d:v.2.2.2.2.2.2.2.1=[]) (j:v.2.2.2.2.2.1.length<=30) :
 Pst (b3o v) fun y=>a0a y.2.1 /\ y.1.2.2.2.2.1=v.1.2.2.2.2.1 /\ y.2.2.2.2.1=v.2.2.2.2.1 /\ y.2.2.2.2.2.1=v.2.2.2.2.2.1 /\ y.2.2.2.2.2.2.1=v.2.2.2.2.2.2.1 /\ y.2.2.2.2.2.2.2.1.length=v.2.2.2.2.2.1.length:=by
 unfold b3o;refine a0C (q:=b7Q)
  (fun u=>a0a u.2.1 /\ u.1.2.2.2.2.1=v.1.2.2.2.2.1 /\ u.2.2.2.2.1=v.2.2.2.2.1 /\ u.2.2.2.2.2.1=v.2.2.2.2.2.1 /\ u.2.2.2.2.2.2.1=v.2.2.2.2.2.2.1 /\ 0<=(u.1.2.2.2.2.2.2.1:Int) /\ (u.1.2.2.2.2.2.2.1:Int)<=(v.2.2.2.2.2.1.length:Int) /\ (u.2.2.2.2.2.2.2.1.length:Int)=u.1.2.2.2.2.2.2.1)
  (fun _ r=>Pst r fun y=>a0a y.2.1 /\ y.1.2.2.2.2.1=v.1.2.2.2.2.1 /\ y.2.2.2.2.1=v.2.2.2.2.1 /\ y.2.2.2.2.2.1=v.2.2.2.2.2.1 /\ y.2.2.2.2.2.2.1=v.2.2.2.2.2.2.1 /\ y.2.2.2.2.2.2.2.1.length=v.2.2.2.2.2.1.length)
  (fun u=>(30-(u.1.2.2.2.2.2.2.1:Int)).toNat) ?_ _ _ ⟨b,rfl,rfl,rfl,rfl,by rw[a];exact Int.le_refl 0,by rw[a];exact Int.natCast_nonneg _,by rw[d,a];rfl⟩ (by unfold c3Z;omega)
 clear a d b;rintro⟨⟨_,_,_,w,n,_,i,_⟩,⟨c0,c1,c2,_⟩,_,_,ws,as_,sp,row,_⟩ f ⟨g0,g1,g2,g3,g4,g5,g6,g7⟩ ih;dsimp only at g0 g1 g2 g3 g4 g5 g6 g7 ih;subst g1 g2 g4;have g:as_.length=v.2.2.2.2.2.1.length:=by rw[g3]
 unfold b7Q;dsimp only;by_cases a:i<(as_.length:Int)
 ·refine a0d (by simpa using a) ?_;have e:IntKind.i64.wrap (i+1)=i+1:=w64 (by omega) (by omega);rw[e];have fin:∀(x:Nat) (c:List Int×Int×Int×Unit),a0a c->Pst (bif (a0n (length row+length (set (replicate 1 (zero (Ty.flt FloatKind.f32))) 0 x)))then f (((),((),((),((w),((v.1.2.2.2.2.1),((),((i+1),()))))))),(((c.1),((c.2.1),((c.2.2.1),()))),(((),((),((),()))),(((),((),((),()))),((v.2.2.2.2.1),((as_),((v.2.2.2.2.2.2.1),((row++set (replicate 1 (zero (Ty.flt FloatKind.f32))) 0 x),()))))))))else none)
   fun y=>a0a y.2.1 /\ y.1.2.2.2.2.1=v.1.2.2.2.2.1 /\ y.2.2.2.2.1=v.2.2.2.2.1 /\ y.2.2.2.2.2.1=v.2.2.2.2.2.1 /\ y.2.2.2.2.2.2.1=v.2.2.2.2.2.2.1 /\ y.2.2.2.2.2.2.2.1.length=v.2.2.2.2.2.1.length:=by
   intro x c h;refine a0d (a0v (by simp only[length_set,length_replicate];omega)) ?_;refine ih _ ⟨h,rfl,rfl,g3,rfl,?_,?_,?_⟩ ?_<;>simp only[length_append,length_set,length_replicate]<;>omega
  refine a0d (a0k _ cu) ?_;refine a0V (fun _=>?_) (fun _=>?_)
  ·refine a0d (a1j _ cu) ?_;refine a0V (fun _=>?_) (fun _=>?_)
   ·refine a0V (fun _=>?_) (fun _=>?_)
    ·refine a0d (a0k _ cu) ?_;exact fin _ _ cu
    ·exact fin _ _ cu
   ·refine a0V (fun _=>?_) (fun _=>?_)
    ·refine a0d (a0k _ cu) ?_;exact fin _ _ cu
    ·exact fin _ _ cu
  ·refine a0V (fun _=>?_) (fun _=>?_)
   ·refine a0d (a0k _ cu) ?_;exact fin _ _ cu
   ·exact fin _ _ cu
 ·have hd:decide (i<(as_.length:Int))=false:=by simpa using a
  rw[hd];exact a0h ⟨g0,rfl,rfl,g3,rfl,by show row.length=_;omega⟩
def b3X (n:Nat) (a:Nat) (ws:List Nat) (b:List (List Nat)):Prop:=ws.length=n /\ b.length=n /\ ∀r∈b,r.length=a
theorem b5P (v:b3p) (j:a0a v.2.1) (A:0<=(v.1.2.2.2.2.1:Int) /\ (v.1.2.2.2.2.1:Int)<=8) (d:v.2.2.2.2.1=[]) (l:v.2.2.2.2.2.2.1=[]) (F:v.2.2.2.2.2.1.length<=30) :
 Pst (b3q v) fun y=>a0a y.2.1 /\ y.2.2.2.2.2.1=v.2.2.2.2.2.1 /\ b3X (v.1.2.2.2.2.1:Int).toNat v.2.2.2.2.2.1.length y.2.2.2.2.1 y.2.2.2.2.2.2.1:=by
 unfold b3q;refine a0C (q:=b7R)
  (fun u=>a0a u.2.1 /\ u.2.2.2.2.2.1=v.2.2.2.2.2.1 /\ 0<=(u.1.2.2.2.2.1:Int) /\ (u.2.2.2.2.1.length:Int)+u.1.2.2.2.2.1=v.1.2.2.2.2.1 /\ b3X u.2.2.2.2.1.length v.2.2.2.2.2.1.length u.2.2.2.2.1 u.2.2.2.2.2.2.1)
  (fun _ r=>Pst r fun y=>a0a y.2.1 /\ y.2.2.2.2.2.1=v.2.2.2.2.2.1 /\ b3X (v.1.2.2.2.2.1:Int).toNat v.2.2.2.2.2.1.length y.2.2.2.2.1 y.2.2.2.2.2.2.1)
  (fun u=>(u.1.2.2.2.2.1:Int).toNat) ?_ _ _ ⟨j,rfl,A.1,by rw[d];exact Int.zero_add _,by rw[d,l];exact⟨rfl,rfl,fun _ h=>by cases h⟩⟩ (by unfold c4a;omega)
 clear j d l;rintro⟨⟨_,_,_,w,n,_⟩,⟨c0,c1,c2,_⟩,_,_,ws,as_,sp,_⟩ f ⟨g0,g1,g2,g3,c⟩ ih;dsimp only at g0 g1 g2 g3 c ih;obtain⟨c,D,i⟩:=c;have o:as_.length=v.2.2.2.2.2.1.length:=by rw[g1]
 unfold b7R;dsimp only;by_cases k:n>0
 ·refine a0d (by simpa using k) ?_;refine a0d (a0v (by simp only[length_set,length_replicate];omega)) ?_;have a:=c0R (((),(),(),w,n,(),0,()),(c0,c1,c2,()),((),(),(),()),((),(),(),()),ws++(replicate 1 (zero (Ty.flt FloatKind.f32))).set 0 w,as_,sp,replicate 0 (zero (Ty.flt FloatKind.f32)),()) g0 rfl rfl (by show as_.length<=30;omega);refine a0d (a1H a) ?_;have g:=a1I (((),((),((),(0,(0,((),())))))),(([],(0,(0,()))),(((),((),((),()))),(((),((),((),()))),([],([],([],([],())))))))) a;change a0a (a4x _).2.1 /\ (a4x _).1.2.2.2.2.1=n /\ (a4x _).2.2.2.2.1=_ /\ (a4x _).2.2.2.2.2.1=as_ /\ (a4x _).2.2.2.2.2.2.1=sp /\ (a4x _).2.2.2.2.2.2.2.1.length=as_.length at g;generalize a4x (((),(),(),w,n,(),0,()),(c0,c1,c2,()),((),(),(),()),((),(),(),()),ws++(replicate 1 (zero (Ty.flt FloatKind.f32))).set 0 w,as_,sp,replicate 0 (zero (Ty.flt FloatKind.f32)),())=y at *;obtain⟨⟨_,_,_,w',b,_,_⟩,c',_,_,C,m,B,row,_⟩:=y;dsimp only at g;obtain⟨E,p,s,t,x,z⟩:=g;subst p s t x;refine a0d (a0v (by simp only[length_set,length_replicate];omega)) ?_;refine a0d (a0k _ cu) ?_;have e:IntKind.i64.wrap (b-1)=b-1:=w64 (by omega) (by omega);dsimp only;rw[e];refine ih _ ⟨cu,g1,?_,?_,?_,?_,?_⟩ ?_
  ·show 0<=b-1;omega
  ·simp only[length_append,length_set,length_replicate];omega
  ·rfl
  ·simp only[length_append,length_set,length_replicate];omega
  ·intro r a;rcases List.mem_append.1 a with a|a
   ·exact i r a
   ·rw[show r=row from List.mem_singleton.1 a,z,o]
  ·show(b-1).toNat<b.toNat;omega
 ·have hd:decide (n>0)=false:=by simpa using k
  rw[hd];refine a0h ⟨g0,g1,?_,?_,i⟩
  ·show ws.length=_;omega
  ·show sp.length=_;omega
theorem d9V (a b:Int) (c:a>0) (d:a<180) (h:0<=b /\ b<50):IntKind.i64.wrap (IntKind.i64.wrap (a+5)+b)<=1000:=by
 rw[w64 (x:=a+5) (by omega) (by omega),w64 (by omega) (by omega)];omega
theorem d9W (b:Int) (h:0<=b /\ b<4):0<=IntKind.i64.wrap (1+b) /\ IntKind.i64.wrap (1+b)<=8 /\ 1<=(IntKind.i64.wrap (1+b)).toNat /\ (IntKind.i64.wrap (1+b)).toNat<=4:=by
 rw[w64 (by omega) (by omega)];omega
theorem d9X (b:Int) (h:0<=b /\ b<25):IntKind.i64.wrap (20+b)<=1000:=by
 rw[w64 (by omega) (by omega)];omega
theorem b1G (v:c4b) (g:a0a v.2.1) (h:(v.1.2.2.2.1:Int)<=1000) (i:v.2.2.2.2.1.length=1) :
 Pst (c4c v) fun y=>a0a y.2.1 /\ 1<=y.2.2.2.2.1.length /\ y.2.2.2.2.1.length<=21:=by
 unfold c4c;refine a0C (q:=d0l)
  (fun u=>a0a u.2.1 /\ (u.1.2.2.2.1:Int)<=1000 /\ 1<=u.2.2.2.2.1.length /\ u.2.2.2.2.1.length<=21)
  (fun _ r=>Pst r fun y=>a0a y.2.1 /\ 1<=y.2.2.2.2.1.length /\ y.2.2.2.2.1.length<=21)
  (fun u=>21-u.2.2.2.2.1.length) ?_ _ _ ⟨g,h,by omega,by omega⟩ (by unfold d8R;omega)
 rintro⟨⟨_,_,_,a,_⟩,⟨c0,c1,c2,_⟩,_,_,as_,_⟩ f ⟨g0,g1,g2,g3⟩ ih;dsimp only at g0 g1 g2 g3 ih;unfold d0l;dsimp only;refine a0V (fun b=>?_) (fun _=>a0h ⟨g0,g2,g3⟩);refine a0V (fun c=>?_) (fun _=>a0h ⟨g0,g2,g3⟩);refine a0V (fun d=>?_) (fun _=>a0h ⟨g0,g2,g3⟩);have b:a>0:=by simpa using b
 have c:a<180:=by simpa using c
 have d : as_.length < 20 := by have:(as_.length:Int)<20:=by simpa using d
                                omega
 refine a0d (a0v (by simp only[length_set,length_replicate];omega)) ?_;refine a0d (a0k _ cu) ?_;have e:=a0O 50 (c0,c1,c2,()) g0 (by decide);refine ih _ ⟨cu,d9V _ _ b c e,?_,?_⟩ ?_
 all_goals simp only[length_append,length_set,length_replicate];omega
def b3Y (ws:List Nat) (a:List Int) (b:List (List Nat)):Prop:=2<=a.length /\ a.length<=22 /\ 1<=ws.length /\ ws.length<=4 /\ b3X ws.length a.length ws b
theorem b0j (x:I73.den) (h:a0a x.2.1):Pst (F73 x) fun y=>a0a y.2.1 /\ b3Y y.1.1.1 y.1.1.2.1 y.1.1.2.2.1:=by
 unfold F73;dsimp only;have a1U:∀(n:Int) (c:List Int×Int×Int×Unit),a0a c->0<n->0<=((G34 (((),n,()),c,())).1.1:Int) /\ ((G34 (((),n,()),c,())).1.1:Int)<n:=fun n c h i=>a0O n c h i
 refine a0d (a0k _ cu) ?_;have C:0<=((G34 (((),25,()),x.snd)).1.1:Int) /\ ((G34 (((),25,()),x.snd)).1.1:Int)<25:=a1U 25 x.2.1 h (by decide);have S:a0a (G34 (((),25,()),x.snd)).2.1:=cu;generalize G34 (((),25,()),x.snd)=A at *;refine a0d (a1j _ cu) ?_;have G:a0a (G77 (((),6,()),A.snd)).2.1:=cu;generalize G77 (((),6,()),A.snd)=B at *;have d:∀a:Int,a<=1000->Pst (
  let u:=set (replicate 1 (zero (Ty.int IntKind.i64))) 0 0
  let P:=(c4d (((),(),(),a,()),B.snd.fst,((),(),(),()),((),(),(),()),u,()))
  bif (P)then
   let o:=(a8E (((),(),(),a,()),B.snd.fst,((),(),(),()),((),(),(),()),u,()))
   let v:=(set (replicate 1 (zero (Ty.int IntKind.i64))) 0 180)
   bif (a0n (length o.snd.snd.snd.snd.fst+length v))then
    let Q:=(K34 (((),4,()),o.snd.fst,()))
    bif (Q)then
     let f:=(G34 (((),4,()),o.snd.fst,()))
     let q:=(K34 (((),4,()),f.snd))
     bif (q)then
      let j:=(wrap IntKind.i64 (1+f.fst.fst))
      let g:=(G34 (((),4,()),f.snd))
      let k:=(wrap IntKind.i64 (1+g.fst.fst))
      let l:=(o.snd.snd.snd.snd.fst++v)
      let r:=(b5u (((),(),(),nearest FloatKind.f32 j,k,()),g.snd.fst,((),(),(),()),((),(),(),()),[],l,[],()))
      bif (r)then
       let m:=(a4y (((),(),(),nearest FloatKind.f32 j,k,()),g.snd.fst,((),(),(),()),((),(),(),()),[],l,[],()))
       (some ((m.snd.snd.snd.snd,()),m.snd.fst,()):Option O73.den)
      else none
     else none
    else none
   else none
  else none) fun y=>a0a y.2.1 /\ b3Y y.1.1.1 y.1.1.2.1 y.1.1.2.2.1:=by
  intro a J;dsimp only;have t:=b1G (((),(),(),a,()),B.snd.fst,((),(),(),()),((),(),(),()),set (replicate 1 (zero (Ty.int IntKind.i64))) 0 0,()) G J rfl;refine a0d (a1H t) ?_;have e:=a1I (((),((),((),()))),(([],(0,(0,()))),(((),((),((),()))),(((),((),((),()))),([],()))))) t;change a0a (a8E _).2.1 /\ 1<=(a8E _).2.2.2.2.1.length /\ (a8E _).2.2.2.2.1.length<=21 at e;generalize a8E (((),(),(),a,()),B.snd.fst,((),(),(),()),((),(),(),()),set (replicate 1 (zero (Ty.int IntKind.i64))) 0 0,())=y at *;obtain⟨_,c,_,_,b,_⟩:=y;dsimp only at e ⊢;obtain⟨T,U,V⟩:=e;refine a0d (a0v (by simp only[length_set,length_replicate];omega)) ?_;refine a0d (a0k _ cu) ?_;have H:a0a (G34 (((),4,()),c,())).2.1:=cu;generalize G34 (((),4,()),c,())=D at *;refine a0d (a0k _ cu) ?_;have F:0<=((G34 (((),4,()),D.snd)).1.1:Int) /\ ((G34 (((),4,()),D.snd)).1.1:Int)<4:=a1U 4 D.2.1 H (by decide);have I:a0a (G34 (((),4,()),D.snd)).2.1:=cu;generalize G34 (((),4,()),D.snd)=E at *;have i:0<=IntKind.i64.wrap (1+E.fst.fst) /\ IntKind.i64.wrap (1+E.fst.fst)<=8 /\ 1<=(IntKind.i64.wrap (1+E.fst.fst)).toNat /\ (IntKind.i64.wrap (1+E.fst.fst)).toNat<=4:=d9W _ F;generalize IntKind.i64.wrap (1+E.fst.fst)=nn at *;generalize nearest FloatKind.f32 (wrap IntKind.i64 (1+D.fst.fst))=w;have s:=b5P (((),(),(),w,nn,()),E.snd.fst,((),(),(),()),((),(),(),()),[],b++set (replicate 1 (zero (Ty.int IntKind.i64))) 0 180,[],()) I ⟨i.1,i.2.1⟩ rfl rfl (by simp only[length_append,length_set,length_replicate];omega);refine a0d (a1H s) ?_;have e:=a1I (((),((),())),(([],(0,(0,()))),(((),((),((),()))),(((),((),((),()))),([],([],([],()))))))) s;change a0a (a4y _).2.1 /\ (a4y _).2.2.2.2.2.1=_ /\ b3X nn.toNat _ (a4y _).2.2.2.2.1 (a4y _).2.2.2.2.2.2.1 at e;generalize a4y (((),(),(),w,nn,()),E.snd.fst,((),(),(),()),((),(),(),()),[],b++set (replicate 1 (zero (Ty.int IntKind.i64))) 0 180,[],())=y at *;obtain⟨_,c',_,_,R,z,O,_⟩:=y;dsimp only at e;obtain⟨K,L,p,M,N⟩:=e;subst L;refine a0h ⟨K,?_⟩;dsimp only;have el:(b++set (replicate 1 (zero (Ty.int IntKind.i64))) 0 180).length=b.length+1:=by simp only[length_append,length_set,length_replicate]
  refine⟨by rw[el];omega,by rw[el];omega,by rw[p];exact i.2.2.1,by rw[p];exact i.2.2.2,rfl,by rw[p,M],N⟩
 refine a0V (fun _=>?_) (fun _=>?_)
 ·exact d 0 (by decide)
 ·exact d _ (d9X _ C)
theorem e6E (x:I73.den) (h:a0a x.2.1):K73 x=true:=a1H (b0j x h)
theorem e6F (x:I73.den) (h:a0a x.2.1):a0a (G73 x).2.1 /\ b3Y (G73 x).1.1.1 (G73 x).1.1.2.1 (G73 x).1.1.2.2.1:=a1I _ (b0j x h)
abbrev Yv:Type:=Den S46
namespace Yv
def tm (Y:Yv):Int:=Y.2.1
def ps (Y:Yv):Nat×Nat:=Y.2.2.1
def hd (Y:Yv):Int:=Y.2.2.2.1
def wd (Y:Yv):Nat×Nat:=Y.2.2.2.2.1
def sl (Y:Yv):Int:=Y.2.2.2.2.2.1
def tk (Y:Yv):List (Den S97):=Y.2.2.2.2.2.2.1
def lg (Y:Yv):List ByteArray:=Y.2.2.2.2.2.2.2.1
def sails (Y:Yv):List (Den S68):=Y.1.2.2.1
def setHd (Y:Yv) (h:Int):Yv:=(Y.1,Y.2.1,Y.2.2.1,h,Y.2.2.2.2)
def setWd (Y:Yv) (w:Nat×Nat):Yv:=(Y.1,Y.2.1,Y.2.2.1,Y.2.2.2.1,w,Y.2.2.2.2.2)
def setSl (Y:Yv) (k:Int):Yv:=(Y.1,Y.2.1,Y.2.2.1,Y.2.2.2.1,Y.2.2.2.2.1,k,Y.2.2.2.2.2.2)
def setPs (Y:Yv) (p:Nat×Nat):Yv:=(Y.1,Y.2.1,p,Y.2.2.2)
def setGo (Y:Yv) (t:Int) (p:Nat×Nat) (a:List (Den S97)):Yv:=(Y.1,t,p,Y.2.2.2.1,Y.2.2.2.2.1,Y.2.2.2.2.2.1,a,Y.2.2.2.2.2.2.2)
def setLg (Y:Yv) (l:List ByteArray):Yv:=(Y.1,Y.2.1,Y.2.2.1,Y.2.2.2.1,Y.2.2.2.2.1,Y.2.2.2.2.2.1,Y.2.2.2.2.2.2.1,l,())
end Yv
def b8W:ByteArray:={ data:=#[115,116,101,101,114] }
def d1n:ByteArray:={ data:=#[119,105,110,100] }
def d1o:ByteArray:={ data:=#[115,97,105,108] }
def c6v:ByteArray:={ data:=#[110,111,110,101] }
def f0c:ByteArray:={ data:=#[102,105,120] }
def sGo:ByteArray:={ data:=#[103,111] }
section
variable {R:Type} (f:List ByteArray)
def fAt (k:Int):ByteArray:=getD f (toNat k) (zero Ty.str)
def b4L (p:Nat×Nat×Bool×Unit):Nat×Nat:=((a0y .f64 .f32 p.1).2,(a0y .f64 .f32 p.2.1).2)
end
abbrev A10:Ty:=.cons (S46) (.cons (.slice (.str)) (.nil))
abbrev R10:Ty:=.cons (S46) (.cons (.slice (.bool)) (.nil))
abbrev f5R:Type:=a7u×ty0×ty3×List (Den .bool)×Unit
abbrev I31:Sg:=⟨[.ptr 0],[.box (a1M)]⟩
abbrev O31:Sg:=⟨[.val (S40)],[.box (a1M)]⟩
noncomputable def f5S:=gE [m73,m74,m76,m77] Tryz.f31 (rown:=[.frzBox 2])
theorem f5T:a1o Tryz.prog f5S:=a0L (s4 f3p e4C f3E a5t)
theorem g2n:a7b Tryz.prog 31 f5S (a0N Tryz.f31):=a1F Tryz.func31 rfl rfl rfl (by kernel_rfl) (a2Z (by kernel_rfl))
abbrev A9:Ty:=.cons (.slice (.int .u8)) (.nil)
abbrev R9:Ty:=.cons (S46) (.cons (.slice (.str)) (.nil))
noncomputable def N31 (p75:KI I75) (Q75:QI I75 O75) (e75:Nonempty (Ch I75 O75 p75 Q75)) (a3I:KI a5u) (a4U:QI a5u a6j) (b1D:Nonempty (Ch a5u a6j a3I a4U)) (p79:KI I79) (Q79:QI I79 O79) (e79:Nonempty (Ch I79 O79 p79 Q79)):a6I:=mkN [(75,a2w true I75 O75 p75 Q75 e75),(78,a2w true a5u a6j a3I a4U b1D),(79,a2w true I79 O79 p79 Q79 e79)] []
noncomputable def g0d (p75:KI I75) (Q75:QI I75 O75) (e75:Nonempty (Ch I75 O75 p75 Q75)) (a3I:KI a5u) (a4U:QI a5u a6j) (b1D:Nonempty (Ch a5u a6j a3I a4U)) (p79:KI I79) (Q79:QI I79 O79) (e79:Nonempty (Ch I79 O79 p79 Q79)) (h:O31.den->Option Unit) (x:I31.den):Option Unit:=bif K73 (((),()),x.2) then let p:=G73 (((),()),x.2);bif K74 (((),()),p.2) then a3u fun(D:Ch I75 O75 p75 Q75)=>let q:=G74 (((),()),p.2);bif p75 (((),()),q.2.1,()) then let k:=D.val (((),()),q.2.1,());bif K76 (((),()),k.2.1,()) then let u:=(length k.2.2.1:Int);bif decide (u>0) then let g:=G76 (((),()),k.2.1,());bif K77 (((),2,()),g.2) then let l:=G77 (((),2,()),g.2);bif l.1.1 then bif decide (0<=0)&&decide (0<u) then let s:=getD k.2.2.1 (toNat 0) (zero S68);let c:=set k.2.2.1 (toNat 0) (s.1,0,s.2.2);bif decide (0<=0)&&decide (0<(length c:Int)) then let r:=getD c (toNat 0) (zero S68);let a:=set c (toNat 0) (r.1,r.2.1,1120403456,r.2.2.2);bif decide (0<=0)&&decide (0<(length a:Int)) then let m:=getD a (toNat 0) (zero S68);let b:=set a (toNat 0) (m.1,m.2.1,m.2.2.1,0,m.2.2.2.2);bif decide (0<=0)&&decide (0<(length b:Int)) then bif K77 (((),30,()),l.2) then let i:=G77 (((),30,()),l.2);bif i.1.1 then a3u fun(y:Ch a5u a6j a3I a4U)=>bif a3I (((),()),i.2) then let d:=y.val (((),()),i.2);bif K77 (((),30,()),d.2) then let j:=G77 (((),30,()),d.2);bif j.1.1 then a3u fun(C:Ch I79 O79 p79 Q79)=>bif p79 (((),()),j.2) then let t:=C.val (((),()),j.2);let n:=getD b (toNat 0) (zero S68);h ((((d.1.1,t.1.1,set b (toNat 0) (n.1,n.2.1,n.2.2.1,n.2.2.2.1,180,()),g.1),()),t.2))else none else let e:=getD b (toNat 0) (zero S68);h ((((d.1.1,q.2.2,set b (toNat 0) (e.1,e.2.1,e.2.2.1,e.2.2.2.1,180,()),g.1),()),j.2))else none else none else bif K77 (((),30,()),i.2) then let d:=G77 (((),30,()),i.2);bif d.1.1 then a3u fun(B:Ch I79 O79 p79 Q79)=>bif p79 (((),()),d.2) then let j:=B.val (((),()),d.2);let e:=getD b (toNat 0) (zero S68);h ((((p.1.1,j.1.1,set b (toNat 0) (e.1,e.2.1,e.2.2.1,e.2.2.2.1,180,()),g.1),()),j.2))else none else let o:=getD b (toNat 0) (zero S68);h ((((p.1.1,q.2.2,set b (toNat 0) (o.1,o.2.1,o.2.2.1,o.2.2.2.1,180,()),g.1),()),d.2))else none else none else none else none else none else none else bif K77 (((),30,()),l.2) then let c:=G77 (((),30,()),l.2);bif c.1.1 then a3u fun(w:Ch a5u a6j a3I a4U)=>bif a3I (((),()),c.2) then let a:=w.val (((),()),c.2);bif K77 (((),30,()),a.2) then let b:=G77 (((),30,()),a.2);bif b.1.1 then a3u fun(A:Ch I79 O79 p79 Q79)=>bif p79 (((),()),b.2) then let i:=A.val (((),()),b.2);h ((((a.1.1,i.1.1,k.2.2.1,g.1),()),i.2))else none else h ((((a.1.1,q.2.2,k.2.2.1,g.1),()),b.2))else none else none else bif K77 (((),30,()),c.2) then let a:=G77 (((),30,()),c.2);bif a.1.1 then a3u fun(f:Ch I79 O79 p79 Q79)=>bif p79 (((),()),a.2) then let b:=f.val (((),()),a.2);h ((((p.1.1,b.1.1,k.2.2.1,g.1),()),b.2))else none else h ((((p.1.1,q.2.2,k.2.2.1,g.1),()),a.2))else none else none else none else let g:=G76 (((),()),k.2.1,());bif K77 (((),30,()),g.2) then let l:=G77 (((),30,()),g.2);bif l.1.1 then a3u fun(v:Ch a5u a6j a3I a4U)=>bif a3I (((),()),l.2) then let c:=v.val (((),()),l.2);bif K77 (((),30,()),c.2) then let a:=G77 (((),30,()),c.2);bif a.1.1 then a3u fun(f:Ch I79 O79 p79 Q79)=>bif p79 (((),()),a.2) then let b:=f.val (((),()),a.2);h ((((c.1.1,b.1.1,k.2.2.1,g.1),()),b.2))else none else h ((((c.1.1,q.2.2,k.2.2.1,g.1),()),a.2))else none else none else bif K77 (((),30,()),l.2) then let c:=G77 (((),30,()),l.2);bif c.1.1 then a3u fun(z:Ch I79 O79 p79 Q79)=>bif p79 (((),()),c.2) then let a:=z.val (((),()),c.2);h ((((p.1.1,a.1.1,k.2.2.1,g.1),()),a.2))else none else h ((((p.1.1,q.2.2,k.2.2.1,g.1),()),c.2))else none else none else none else none else none else none
theorem f5U (p75 Q75 e75 a3I a4U b1D p79 Q79 e79 h x) :a4i (f5S) (N31 p75 Q75 e75 a3I a4U b1D p79 Q79 e79) (a0N Tryz.f31) I31 O31 h x=g0d p75 Q75 e75 a3I a4U b1D p79 Q79 e79 h x:=by kernel_rfl
def a8N (b:Den S40):Prop:=d9K b.1 /\ a6R b.2.1 /\ (a0E b.2.2.1 /\ b.2.2.1.length<=13) /\ b.2.2.2.1.2.1.length<=22
def p31 (x:I31.den):Bool:=c8I x.2.1
def Q31 (x:I31.den) (y:O31.den):Prop:=a0a y.2.1 /\ a8N y.1.1
theorem c6w:a6R ([],[],()):=⟨zero_le _,zero_le _⟩
theorem d1p:d9K ([],[],[],()):=⟨zero_le _,zero_le _,zero_le _,fun _ h=>by cases h⟩
theorem e31:Nonempty (Ch I31 O31 p31 Q31):=⟨⟨fun _=>((zero S40,()),(d0Z,())),fun _ _=>⟨a4A,d1p,c6w,⟨(fun _ h=>by cases h),zero_le _⟩,zero_le _⟩⟩⟩
noncomputable def d1q (h:O31.den->Option Unit) (c:O77.den) (P:Den S27) (T:Den S30) (S:List (Den S68)) (C:Den S38×Unit):Option Unit:=
 bif c.1.1 then
  a3u fun(b:Ch I79 O79 p79 Q79)=>
   bif p79 (((),()),c.2)then h (((P,(b.val (((),()),c.2)).1.1,S,C),()),(b.val (((),()),c.2)).2)else none
 else h (((P,T,S,C),()),c.2)
noncomputable def d6o (h:O31.den->Option Unit) (c:(List Int×Int×Int×Unit)×Unit) (P:Den S27) (T:Den S30) (S:List (Den S68)) (C:Den S38×Unit):Option Unit :=
 bif K77 (((),30,()),c)then
  bif (G77 (((),30,()),c)).1.1 then
   a3u fun(a:Ch a5u a6j a3I a4U)=>
    bif a3I (((),()),(G77 (((),30,()),c)).2)then
     bif K77 (((),30,()),(a.val (((),()),(G77 (((),30,()),c)).2)).2)then
      d1q h (G77 (((),30,()),(a.val (((),()),(G77 (((),30,()),c)).2)).2)) (a.val (((),()),(G77 (((),30,()),c)).2)).1.1 T S C
     else none
    else none
  else
   bif K77 (((),30,()),(G77 (((),30,()),c)).2)then
    d1q h (G77 (((),30,()),(G77 (((),30,()),c)).2)) P T S C
   else none
 else none
theorem b8X {h:O31.den->Option Unit} {c:O77.den} {P:Den S27} {T:Den S30} {S:List (Den S68)} {C:Den S38×Unit} (f:a0a c.2.1) (d:d9K P) (i:a6R T) (e:a0E S /\ S.length<=13) (a:C.1.2.1.length<=22)
 (hh:∀y:O31.den,a0a y.2.1 /\ a8N y.1.1->h y=some ()):d1q h c P T S C=some ():=by
 unfold d1q;refine a1m (fun _=>?_) (fun _=>hh _ ⟨f,d,i,e,a⟩)
 haveI:=e79
 refine a0t fun b=>?_
 have g:p79 (((),()),c.2)=true:=a0W.2 f;obtain⟨q1,j⟩:=b.2 _ g;exact a0p g (hh _ ⟨q1,d,j,e,a⟩)
theorem a8O {h:O31.den->Option Unit} {c:(List Int×Int×Int×Unit)×Unit} {P:Den S27} {T:Den S30} {S:List (Den S68)} {C:Den S38×Unit} (g:a0a c.1) (j:d9K P) (f:a6R T) (e:a0E S /\ S.length<=13) (d:C.1.2.1.length<=22)
 (hh:∀y:O31.den,a0a y.2.1 /\ a8N y.1.1->h y=some ()):d6o h c P T S C=some ():=by
 unfold d6o;refine a0p (a1j _ g) ?_;have b:a0a (G77 (((),30,()),c)).2.1:=a1g _ g;generalize G77 (((),30,()),c)=A at *;refine a1m (fun _=>?_) (fun _=>?_)
 ·haveI:=b1D
  refine a0t fun a=>?_
  have i:a3I (((),()),A.2)=true:=a0W.2 b;obtain⟨q1,k⟩:=a.2 _ i;refine a0p i (a0p (a1j _ q1) (b8X (a1g _ q1) k f e d hh))
 ·exact a0p (a1j _ b) (b8X (a1g _ b) j f e d hh)
theorem b3Y.m {ws:List Nat} {a:List Int} {b:List (List Nat)} (h:b3Y ws a b):d9K (ws,a,b,()):=by
 obtain⟨f,c,g,i,j,k,d⟩:=h;exact⟨by show ws.length<=14;omega,c,by show b.length<=14;omega,fun r e=>by rw[d r e];exact c⟩
set_option maxRecDepth 100000 in
theorem f5V:a1T Tryz.prog 31 (a2w true I31 O31 p31 Q31 e31):=a9P f5T (N:=N31 p75 Q75 e75 a3I a4U b1D p79 Q79 e79) (a4h ⟨f5E,d9M,f5H,trivial⟩) g2n a1L fun x G k i=>by
 have i:∀y:O31.den,a0a y.2.1 /\ a8N y.1.1->k y=some ():=i;have h:a0a x.2.1:=a0W.1 G;refine Eq.trans (f5U _ _ _ _ _ _ _ _ _ k x) ?_;unfold g0d;dsimp only;refine a0p (e6E _ h) ?_;obtain⟨u,q1⟩:=e6F (((),()),x.snd) h;generalize G73 (((),()),x.snd)=v1 at *;refine a0p (d6c _ u) ?_;obtain⟨B,H,_,M⟩:=d6d (((),()),v1.snd) u;generalize G74 (((),()),v1.snd)=v3 at *;have s:a6R v3.snd.snd:=⟨by have:=H.2;show v3.2.2.1.length<=21;omega,by show v3.2.2.2.1.length<=6;omega⟩;have r:d9K v1.fst.fst:=q1.m
 haveI:=e75
 refine a0t fun g=>?_
 have A:p75 (((),()),v3.snd.fst,())=true:=a0W.2 B;obtain⟨v,o,z⟩:=g.2 _ A;refine a0p A ?_;generalize g.val (((),()),v3.snd.fst,())=d at *;refine a0p (e6v _ v) ?_;obtain⟨m,q⟩:=a1I _ (a8I (((),()),d.snd.fst,()) v);change a0a (G76 _).2.1 at m;change (G76 _).1.1.2.1.length<=22 at q;generalize G76 (((),()),d.snd.fst,())=v7 at *;refine a1m (fun t=>?_) (fun _=>?_)
 ·have t:0<length d.snd.snd.fst:=by
   have:=of_decide_eq_true t;omega
  have a:∀(l:List (Den S68)),a0E l->b5G (getD l (toNat 0) (zero S68)):=fun l h=>h.at _
  have p:∀n:Nat,0<n->(decide (0<=0)&&decide (0<((n:Nat):Int)))=true:=fun n h=>by simp;omega
  refine a0p (a1j _ m) ?_;have w:a0a (G77 (((),2,()),v7.snd)).2.1:=a1g _ m;generalize G77 (((),2,()),v7.snd)=v9 at *;refine a1m (fun _=>?_) (fun _=>?_)
  ·have I:I64 0:=a7J;have j:I64 180:=by unfold I64;decide
   have s1:a0E (set d.snd.snd.fst (toNat 0) ((getD d.snd.snd.fst (toNat 0) (zero S68)).fst,0,(getD d.snd.snd.fst (toNat 0) (zero S68)).snd.snd)):=o.set (a _ o);refine a0p (p _ t) ?_;generalize D:set d.snd.snd.fst (toNat 0) ((getD d.snd.snd.fst (toNat 0) (zero S68)).fst,0,(getD d.snd.snd.fst (toNat 0) (zero S68)).snd.snd)=e at *;have J:e.length=d.snd.snd.fst.length:=by rw[<- D,length_set]
   refine a0p (p _ (by omega)) ?_;have s2:a0E (set e (toNat 0) ((getD e (toNat 0) (zero S68)).fst,(getD e (toNat 0) (zero S68)).snd.fst,1120403456,(getD e (toNat 0) (zero S68)).snd.snd.snd)):=s1.set (a _ s1);generalize E:set e (toNat 0) ((getD e (toNat 0) (zero S68)).fst,(getD e (toNat 0) (zero S68)).snd.fst,1120403456,(getD e (toNat 0) (zero S68)).snd.snd.snd)=b at *;have K:b.length=e.length:=by rw[<- E,length_set]
   refine a0p (p _ (by omega)) ?_;have s3:a0E (set b (toNat 0) ((getD b (toNat 0) (zero S68)).fst,(getD b (toNat 0) (zero S68)).snd.fst,(getD b (toNat 0) (zero S68)).snd.snd.fst,0,(getD b (toNat 0) (zero S68)).snd.snd.snd.snd)):=s2.set ⟨(a _ s2).1,I,(a _ s2).2.2⟩;generalize F:set b (toNat 0) ((getD b (toNat 0) (zero S68)).fst,(getD b (toNat 0) (zero S68)).snd.fst,(getD b (toNat 0) (zero S68)).snd.snd.fst,0,(getD b (toNat 0) (zero S68)).snd.snd.snd.snd)=f at *;have L:f.length=b.length:=by rw[<- F,length_set]
   refine a0p (p _ (by omega)) ?_;have s4:a0E (set f (toNat 0) ((getD f (toNat 0) (zero S68)).fst,(getD f (toNat 0) (zero S68)).snd.fst,(getD f (toNat 0) (zero S68)).snd.snd.fst,(getD f (toNat 0) (zero S68)).snd.snd.snd.fst,180,())):=s3.set ⟨(a _ s3).1,(a _ s3).2.1,j⟩;exact a8O (h:=k) (c:=v9.snd) (P:=v1.fst.fst) (T:=v3.snd.snd) (C:=v7.fst) w r s ⟨s4,by rw[length_set];omega⟩ q i
  ·exact a8O (h:=k) (c:=v9.snd) (P:=v1.fst.fst) (T:=v3.snd.snd) (S:=d.snd.snd.fst) (C:=v7.fst) w r s ⟨o,z⟩ q i
 ·exact a8O (h:=k) (c:=v7.snd) (P:=v1.fst.fst) (T:=v3.snd.snd) (S:=d.snd.snd.fst) (C:=v7.fst) m r s ⟨o,z⟩ q i
def bOf (l:List UInt8):ByteArray:=⟨l.toArray⟩
theorem a6S (a b:List UInt8):bOf a++bOf b=bOf (a++b):=by
 apply ByteArray.ext;simp[bOf,ByteArray.data_append]
theorem a2n (a:List UInt8):(bOf a).size=a.length:=by simp[bOf,ByteArray.size]
def dig (u:Nat):List UInt8:=if u=0 then[]else Lib.decDigits u
def dg (u:Nat):UInt8:=UInt8.ofNat (48+u)
theorem b1H {u:Nat} (h:u≠0):dig u=dig (u/10)++[dg (u%10)]:=by
 unfold dig dg;rw[if_neg h,Lib.decDigits];by_cases a:u<10
 ·rw[dif_pos a,if_pos (by omega),Nat.mod_eq_of_lt a];rfl
 ·rw[dif_neg a,if_neg (by omega)]
theorem b5Q:∀(k u:Nat),u<10^k->(dig u).length<=k
 | 0,u,h=>by
   have:u=0:=by simpa using h
   subst this;exact le_refl 0
 | k+1,u,h=>by
   by_cases a:u=0
   ·subst a;exact zero_le _
   ·rw[b1H a,length_append,List.length_singleton];have:=b5Q k (u/10) (by rw[Nat.pow_succ]at h;omega);omega
theorem b8Y (d:Nat) (h:d<10):a6X [IntKind.u8.wrap (IntKind.i64.wrap (48+(d:Int)))]=bOf [dg d]:=by
 have e:∀d:Fin 10,a6X [IntKind.u8.wrap (IntKind.i64.wrap (48+((d:Nat):Int)))]=bOf [dg d]:=by decide
 exact e ⟨d,h⟩
theorem d9Y (d:Nat) (h:d<10):e9j ((d:Int),())=some (IntKind.u8.wrap (IntKind.i64.wrap (48+(d:Int))),()):=by
 unfold e9j;have:decide ((d:Int)<10)=true:=by simp;omega
 simp only[this,cond_true]
theorem d1r (n:Int) (b:Bool) (s:List UInt8) (z:n.natAbs<=9223372036854775808) (p:s.length+(dig n.natAbs).length<=1000):b3h ((n,b,bOf s,()),())=some ((b,bOf (dig n.natAbs++s),()),()):=by
 refine a0C (q:=b7B) (fun v=>∃(n:Int) (s:List UInt8),v=((n,b,bOf s,()),()) /\ n.natAbs<=9223372036854775808 /\ s.length+(dig n.natAbs).length<=1000)
  (fun v r=>∀(n:Int) (s:List UInt8),v=((n,b,bOf s,()),())->s.length+(dig n.natAbs).length<=1000->r=some ((b,bOf (dig n.natAbs++s),()),())) (fun v=>v.1.1.natAbs) ?_ _ _ ⟨n,s,rfl,z,p⟩ (by simp only[c3J];omega) n s rfl p
 rintro v f ⟨n,s,rfl,z,p⟩ E F B x D;have l:n=F:=congrArg (fun v=>v.1.1) x;have m:bOf s=bOf B:=congrArg (fun v=>v.1.2.2.1) x;subst l;have o:s=B:=by
  have:=congrArg (fun b=>b.data.toList) m;simpa[bOf]using this
 subst o;unfold b7B;dsimp only;by_cases t:n=0
 ·subst t;simp[dig]
 ·have C:(n != 0)=true:=by simpa using t
  have hd:∀d:Nat,d<10->e3L ((d:Int),())=true /\ e3M ((d:Int),())=(IntKind.u8.wrap (IntKind.i64.wrap (48+(d:Int))),()):=fun d h=>by
   unfold e3L e3M;rw[d9Y d h];exact⟨rfl,rfl⟩
  have e:n.natAbs%10<10:=Nat.mod_lt _ (by decide);have a:=b1H (u:=n.natAbs) (by omega);have g:(Int.tdiv n 10).natAbs=n.natAbs/10:=by rw[Int.natAbs_tdiv];rfl
  have A:IntKind.i64.wrap (Int.tdiv n 10)=Int.tdiv n 10:=by
   have w:(Int.tdiv n 10).natAbs<=922337203685477580:=by rw[g];omega
   rw[w64 (by omega) (by omega)]
  have y:(dig n.natAbs).length=(dig (n.natAbs/10)).length+1:=by rw[a,length_append,List.length_singleton]
  have fin:f ((Int.tdiv n 10,b,bOf ([dg (n.natAbs%10)]++s),()),())=some ((b,bOf (dig n.natAbs++s),()),()):=by
   have:=E _ ⟨Int.tdiv n 10,[dg (n.natAbs%10)]++s,rfl,by rw[g];omega,by rw[g,length_append,List.length_singleton];omega⟩ (by show(Int.tdiv n 10).natAbs<n.natAbs;rw[g];omega) (Int.tdiv n 10) ([dg (n.natAbs%10)]++s) rfl (by rw[g,length_append,List.length_singleton];omega);rw[this,g,<- List.append_assoc,<- a]
  have i:decide (ByteArray.size (bOf [dg (n.natAbs%10)])+ByteArray.size (bOf s)<=9223372036854775807)=true:=by
   rw[a2n,a2n,List.length_singleton];exact decide_eq_true (by omega)
  rw[C,cond_true];by_cases c:Int.tmod n 10<0
  ·have j:decide (Int.tmod n 10<0)=true:=decide_eq_true c;have k:IntKind.i64.wrap (0-Int.tmod n 10)=((n.natAbs%10:Nat):Int):=by
    have w:(Int.tmod n 10).natAbs=n.natAbs%10:=by rw[Int.natAbs_tmod];rfl
    rw[w64 (by omega) (by omega)];omega
   simp only[j,cond_true,k,(hd _ e).1,(hd _ e).2];rw[show set (replicate 1 (zero (Ty.int IntKind.u8))) 0 (IntKind.u8.wrap (IntKind.i64.wrap (48+((n.natAbs%10:Nat):Int))))=[IntKind.u8.wrap (IntKind.i64.wrap (48+((n.natAbs%10:Nat):Int)))]from rfl,b8Y _ e,i,cond_true,A,a6S];exact fin
  ·have j:decide (Int.tmod n 10<0)=false:=decide_eq_false c;have k:Int.tmod n 10=((n.natAbs%10:Nat):Int):=by
    have w:(Int.tmod n 10).natAbs=n.natAbs%10:=by rw[Int.natAbs_tmod];rfl
    omega
   simp only[j,cond_false,k,(hd _ e).1,(hd _ e).2,cond_true];rw[show set (replicate 1 (zero (Ty.int IntKind.u8))) 0 (IntKind.u8.wrap (IntKind.i64.wrap (48+((n.natAbs%10:Nat):Int))))=[IntKind.u8.wrap (IntKind.i64.wrap (48+((n.natAbs%10:Nat):Int)))]from rfl,b8Y _ e,i,cond_true,A,a6S];exact fin
theorem b1I (n:Int) (i:n.natAbs<=9223372036854775808):e9k (n,())=some (bOf (Lib.itoa n),()):=by
 have hd:(dig n.natAbs).length<=19:=b5Q 19 _ (by omega);unfold e9k;dsimp only;by_cases e:n=0
 ·subst e;have:Lib.itoa 0=[48]:=by unfold Lib.itoa;rw[if_neg (by decide),Lib.decDigits,dif_pos (by decide)];rfl
  rw[this];rfl
 ·have f:(n==0)=false:=by simpa using e
  have h:=d1r n (decide (n<0)) [] i (by simp;omega);have d:b3h ((n,decide (n<0),{ data:=#[] },()),())=some ((decide (n<0),bOf (dig n.natAbs++[]),()),()):=h;simp only[f,cond_false,c3K,c3L,d,isSome_some,getD_some,cond_true,List.append_nil];have b:dig n.natAbs=Lib.decDigits n.natAbs:=if_neg (by omega);by_cases a:n<0
  ·have c:decide (n<0)=true:=decide_eq_true a;have g:decide (ByteArray.size { data:=#[45] }+ByteArray.size (bOf (dig n.natAbs))<=9223372036854775807)=true:=by
    rw[a2n];exact decide_eq_true (by show 1+_<=_;omega)
   simp only[c,g,cond_true];have:({ data:=#[45] }:ByteArray)=bOf [45]:=rfl;rw[this,a6S,b];unfold Lib.itoa;rw[if_pos a];rfl
  ·have c:decide (n<0)=false:=decide_eq_false a;simp only[c,cond_false];unfold Lib.itoa;rw[if_neg a,b,show n.natAbs=n.toNat by omega]
theorem a3q (n:Int) (d:n.natAbs<=9223372036854775808):1<=(Lib.itoa n).length /\ (Lib.itoa n).length<=20:=by
 have hd:(dig n.natAbs).length<=19:=b5Q 19 _ (by omega);have c:∀u:Nat,1<=(Lib.decDigits u).length:=fun u=>by
  rw[Lib.decDigits];split<;>simp
 by_cases b:n=0
 ·subst b;have:Lib.itoa 0=[48]:=by unfold Lib.itoa;rw[if_neg (by decide),Lib.decDigits,dif_pos (by decide)];rfl
  rw[this];decide
 ·have a:dig n.natAbs=Lib.decDigits n.natAbs:=if_neg (by omega);unfold Lib.itoa;split
  ·rw[List.length_cons,<- a];omega
  ·rw[show n.toNat=n.natAbs by omega,<- a];have:=c n.natAbs;rw[<- a]at this;omega
theorem b5R (l:List UInt8) (k:Nat):ByteArray.extract (bOf l) k l.length=bOf (l.drop k):=by
 apply ByteArray.ext;rw[ByteArray.data_extract];apply Array.ext';simp[bOf,ByteArray.size];exact List.take_of_length_le (by rw[List.length_drop];omega)
def a9y (n:Int):List UInt8:=
 if -1000000000<=n /\ n<=1000000000 then(if n<0 then[45]else[])++Lib.itoa ((n.natAbs/1000:Nat):Int)++[46]++(Lib.itoa ((1000+n.natAbs%1000:Nat):Int)).drop 1 else[]
theorem b8Z (m:Nat) (sg:List UInt8) (i:m<=1000000000) (j:sg.length<=1) {k:OD R83} (h:k=some (bOf (sg++Lib.itoa ((m/1000:Nat):Int)++[46]++(Lib.itoa ((1000+m%1000:Nat):Int)).drop 1),())) :
 (bif b3i (((1000+m%1000:Nat):Int),())then
  bif b3i (((m/1000:Nat):Int),())then
   bif decide (ByteArray.size (bOf sg)+ByteArray.size (a6L (((m/1000:Nat):Int),())).1<=9223372036854775807)then
    bif decide (ByteArray.size (bOf sg++(a6L (((m/1000:Nat):Int),())).1)+ByteArray.size { data:=#[46] }<=9223372036854775807)then
     bif decide (0<=1)&&decide (1<=((ByteArray.size (a6L (((1000+m%1000:Nat):Int),())).1:Nat):Int))&&decide (((ByteArray.size (a6L (((1000+m%1000:Nat):Int),())).1:Nat):Int)<=((ByteArray.size (a6L (((1000+m%1000:Nat):Int),())).1:Nat):Int))then
      bif decide (ByteArray.size (bOf sg++(a6L (((m/1000:Nat):Int),())).1++{ data:=#[46] })+ByteArray.size (ByteArray.extract (a6L (((1000+m%1000:Nat):Int),())).1 (toNat 1) (toNat ((ByteArray.size (a6L (((1000+m%1000:Nat):Int),())).1:Nat):Int)))<=9223372036854775807)then
       some (bOf sg++(a6L (((m/1000:Nat):Int),())).1++{ data:=#[46] }++ByteArray.extract (a6L (((1000+m%1000:Nat):Int),())).1 (toNat 1) (toNat ((ByteArray.size (a6L (((1000+m%1000:Nat):Int),())).1:Nat):Int)),())
      else none
     else none
    else none
   else none
  else none
 else none:OD R83)=k:=by
 have f:=b1I ((1000+m%1000:Nat):Int) (by omega);have g:=b1I ((m/1000:Nat):Int) (by omega);obtain⟨l,o⟩:=a3q ((1000+m%1000:Nat):Int) (by omega);obtain⟨n,p⟩:=a3q ((m/1000:Nat):Int) (by omega);have a:({ data:=#[46] }:ByteArray)=bOf [46]:=rfl;unfold b3i a6L;rw[f,g,h,a];generalize Lib.itoa ((1000+m%1000:Nat):Int)=A at *;generalize Lib.itoa ((m/1000:Nat):Int)=B at *;simp only[isSome_some,getD_some,cond_true,toNat_natCast,show toNat 1=1 from rfl,a2n,b5R,a6S,length_append,List.length_singleton,List.length_drop];have b:decide (sg.length+B.length<=9223372036854775807)=true:=decide_eq_true (by omega);have c:decide (sg.length+B.length+1<=9223372036854775807)=true:=decide_eq_true (by omega);have d:(decide (0<=1)&&decide (1<=((A.length:Nat):Int))&&decide (((A.length:Nat):Int)<=((A.length:Nat):Int)))=true:=by simp;omega
 have e:decide (sg.length+B.length+1+(A.length-1)<=9223372036854775807)=true:=decide_eq_true (by omega);simp only[b,c,d,e,cond_true]
theorem c6x (n:Int):F83 (n,())=some (bOf (a9y n),()):=by
 unfold F83 a9y;have h:K51 (n,-1000000000,1000000000,())=true:=by unfold K51;rw[b0h];rfl
 have g:(G51 (n,-1000000000,1000000000,())).1=(decide ((-1000000000:Int)<=n)&&decide (n<=1000000000)):=by unfold G51;rw[b0h];rfl
 dsimp only;rw[h,cond_true,g];by_cases b:(-1000000000:Int)<=n /\ n<=1000000000
 ·have c:(decide ((-1000000000:Int)<=n)&&decide (n<=1000000000))=true:=by rw[decide_eq_true b.1,decide_eq_true b.2];rfl
  rw[c,Bool.not_true,cond_false,if_pos b];by_cases a:n<0
  ·have d:decide (n<0)=true:=decide_eq_true a;have i:IntKind.i64.wrap (0-n)=((n.natAbs:Nat):Int):=by rw[w64 (by omega) (by omega)];omega
   have e:IntKind.i64.wrap (1000+Int.tmod ((n.natAbs:Nat):Int) 1000)=((1000+n.natAbs%1000:Nat):Int):=by
    rw[Int.tmod_eq_emod_of_nonneg (by omega),w64 (by omega) (by omega)];omega
   have f:IntKind.i64.wrap (Int.tdiv ((n.natAbs:Nat):Int) 1000)=((n.natAbs/1000:Nat):Int):=by
    rw[Int.tdiv_eq_ediv_of_nonneg (by omega),w64 (by omega) (by omega)];omega
   rw[d,cond_true,i,e,f,if_pos a];exact b8Z n.natAbs [45] (by omega) (by simp) rfl
  ·have d:decide (n<0)=false:=decide_eq_false a;have j:n=((n.natAbs:Nat):Int):=by omega
   have e:IntKind.i64.wrap (1000+Int.tmod n 1000)=((1000+n.natAbs%1000:Nat):Int):=by
    rw[Int.tmod_eq_emod_of_nonneg (by omega),w64 (by omega) (by omega)];omega
   have f:IntKind.i64.wrap (Int.tdiv n 1000)=((n.natAbs/1000:Nat):Int):=by
    rw[Int.tdiv_eq_ediv_of_nonneg (by omega),w64 (by omega) (by omega)];omega
   rw[d,cond_false,e,f,if_neg a];exact b8Z n.natAbs [] (by omega) (by simp) rfl
 ·have c:(decide ((-1000000000:Int)<=n)&&decide (n<=1000000000))=false:=by
   rw[Bool.and_eq_false_iff,decide_eq_false_iff_not,decide_eq_false_iff_not];omega
  rw[c,Bool.not_false,cond_true,if_neg b];rfl
theorem d1s (n:Int):(a9y n).length<=50:=by
 unfold a9y;split
 ·obtain⟨a,c⟩:=a3q ((1000+n.natAbs%1000:Nat):Int) (by omega);obtain⟨b,d⟩:=a3q ((n.natAbs/1000:Nat):Int) (by omega);generalize Lib.itoa ((1000+n.natAbs%1000:Nat):Int)=A at *;generalize Lib.itoa ((n.natAbs/1000:Nat):Int)=B at *;simp only[length_append,List.length_singleton,List.length_drop];split<;>simp<;>omega
 ·exact zero_le _
theorem d6p (n:Int) (h:n.natAbs<=9223372036854775808):b3i (n,())=true /\ (a6L (n,())).1.size<=20:=by
 unfold b3i a6L;rw[b1I n h];exact⟨rfl,by rw[getD_some,a2n];exact(a3q n h).2⟩
theorem c0S (n:Int):K83 (n,())=true /\ (G83 (n,())).1.size<=50:=by
 unfold K83 G83;rw[c6x n];exact⟨rfl,by rw[getD_some,a2n];exact d1s n⟩
theorem d1t (n:Int):(IntKind.i64.wrap n).natAbs<=9223372036854775808:=by
 have:=c0J n;unfold I64 at this;omega
theorem sz {a b:ByteArray} {n m:Nat} (c:a.size<=n) (d:b.size<=m) (h:n+m<=9223372036854775807):decide (a.size+b.size<=9223372036854775807)=true:=decide_eq_true (by omega)
theorem szA {a b:ByteArray} {n m:Nat} (c:a.size<=n) (d:b.size<=m):(a++b).size<=n+m:=by rw[ByteArray.size_append];omega
set_option maxRecDepth 100000 in
theorem b3Z (x:I67.den) (h:a0a x.2.1) (F:a0E x.1.2.1.2.2.1) (J:x.1.2.1.2.2.1.length<=13):Pst (F67 x) fun y=>a0a y.2.1 /\ y.1.1.size<=2000:=by
 unfold F67;dsimp only;have a1U:∀(n:Int) (c:(List Int×Int×Int×Unit)×Unit),a0a c.1->0<n->0<=((G34 (((),n,()),c)).1.1:Int) /\ ((G34 (((),n,()),c)).1.1:Int)<n:=fun n c h G=>a0O n c.1 h G
 have o:∀z:Int,0<=z /\ z<365->z.natAbs<=9223372036854775808:=fun z h=>by omega
 refine a0d (a0k _ h) ?_;have e:a0a (G34 (((),12,()),x.snd)).2.1:=a0D _ h;generalize G34 (((),12,()),x.snd)=A at *;have g:Pst (bif K34 (((),365,()),A.snd)then
  bif b3i (G34 (((),365,()),A.snd)).fst then
   bif decide (ByteArray.size { data:=#[115,116,101,101,114,32] }+ByteArray.size (a6L (G34 (((),365,()),A.snd)).fst).fst<=9223372036854775807)then
    some ((({ data:=#[115,116,101,101,114,32] }++(a6L (G34 (((),365,()),A.snd)).fst).fst,()),(G34 (((),365,()),A.snd)).snd):O67.den)
   else none
  else none
  else none) fun y=>a0a y.2.1 /\ y.1.1.size<=2000:=by
  refine a0d (a0k _ e) ?_;have d:a0a (G34 (((),365,()),A.snd)).2.1:=a0D _ e;have C:=a1U 365 A.snd e (by decide);generalize G34 (((),365,()),A.snd)=B at *;obtain⟨k,s1⟩:=d6p B.1.1 (o _ C);refine a0d k (a0d (sz (n:=6) (m:=20) (le_refl _) s1 (by decide)) (a0h ⟨d,Nat.le_trans (szA (n:=6) (m:=20) (le_refl _) s1) (by decide)⟩))
 have wind:Pst (bif K34 (((),25,()),A.snd)then
  bif K83 (wrap IntKind.i64 (wrap IntKind.i64 (1000*(G34 (((),25,()),A.snd)).fst.fst)-12000),())then
   bif decide (ByteArray.size { data:=#[119,105,110,100,32] }+ByteArray.size (G83 (wrap IntKind.i64 (wrap IntKind.i64 (1000*(G34 (((),25,()),A.snd)).fst.fst)-12000),())).fst<=9223372036854775807)then
    bif decide (ByteArray.size ({ data:=#[119,105,110,100,32] }++(G83 (wrap IntKind.i64 (wrap IntKind.i64 (1000*(G34 (((),25,()),A.snd)).fst.fst)-12000),())).fst)+ByteArray.size { data:=#[32] }<=9223372036854775807)then
     bif K34 (((),49,()),(G34 (((),25,()),A.snd)).snd)then
      bif K83 (wrap IntKind.i64 (wrap IntKind.i64 (500*(G34 (((),49,()),(G34 (((),25,()),A.snd)).snd)).fst.fst)-12000),())then
       bif decide (ByteArray.size ({ data:=#[119,105,110,100,32] }++(G83 (wrap IntKind.i64 (wrap IntKind.i64 (1000*(G34 (((),25,()),A.snd)).fst.fst)-12000),())).fst++{ data:=#[32] })+ByteArray.size (G83 (wrap IntKind.i64 (wrap IntKind.i64 (500*(G34 (((),49,()),(G34 (((),25,()),A.snd)).snd)).fst.fst)-12000),())).fst<=9223372036854775807)then
        some (((({ data:=#[119,105,110,100,32] }++(G83 (wrap IntKind.i64 (wrap IntKind.i64 (1000*(G34 (((),25,()),A.snd)).fst.fst)-12000),())).fst++{ data:=#[32] })++(G83 (wrap IntKind.i64 (wrap IntKind.i64 (500*(G34 (((),49,()),(G34 (((),25,()),A.snd)).snd)).fst.fst)-12000),())).fst,()),(G34 (((),49,()),(G34 (((),25,()),A.snd)).snd)).snd):O67.den)
       else none
      else none
     else none
    else none
   else none
  else none
  else none) fun y=>a0a y.2.1 /\ y.1.1.size<=2000:=by
  refine a0d (a0k _ e) ?_;have d:a0a (G34 (((),25,()),A.snd)).2.1:=a0D _ e;generalize G34 (((),25,()),A.snd)=B at *;obtain⟨k,s1⟩:=c0S (wrap IntKind.i64 (wrap IntKind.i64 (1000*B.fst.fst)-12000));have s2:=szA (n:=5) (m:=50) (a:={ data:=#[119,105,110,100,32] }) (le_refl _) s1;have s3:=szA (m:=1) (b:={ data:=#[32] }) s2 (le_refl _);refine a0d k (a0d (sz (n:=5) (m:=50) (le_refl _) s1 (by decide)) (a0d (sz (m:=1) s2 (le_refl _) (by decide)) ?_));refine a0d (a0k _ d) ?_;have j:a0a (G34 (((),49,()),B.snd)).2.1:=a0D _ d;generalize G34 (((),49,()),B.snd)=D at *;obtain⟨r,s4⟩:=c0S (wrap IntKind.i64 (wrap IntKind.i64 (500*D.fst.fst)-12000));exact a0d r (a0d (sz s3 s4 (by decide)) (a0h ⟨j,Nat.le_trans (szA s3 s4) (by decide)⟩))
 have i:Pst (bif decide ((↑(length x.fst.snd.fst.snd.snd.fst):Int)>0)then
  bif K77 (((),5,()),A.snd)then
   bif !(G77 (((),5,()),A.snd)).fst.fst then
    bif K34 (((),(↑(length x.fst.snd.fst.snd.snd.fst):Int),()),(G77 (((),5,()),A.snd)).snd)then
     bif decide (0<=(G34 (((),(↑(length x.fst.snd.fst.snd.snd.fst):Int),()),(G77 (((),5,()),A.snd)).snd)).fst.fst)&&decide ((G34 (((),(↑(length x.fst.snd.fst.snd.snd.fst):Int),()),(G77 (((),5,()),A.snd)).snd)).fst.fst<(↑(length x.fst.snd.fst.snd.snd.fst):Int))then
      bif decide (ByteArray.size { data:=#[115,97,105,108,32] }+ByteArray.size (getD x.fst.snd.fst.snd.snd.fst (toNat (G34 (((),(↑(length x.fst.snd.fst.snd.snd.fst):Int),()),(G77 (((),5,()),A.snd)).snd)).fst.fst) (zero S68)).fst<=9223372036854775807)then
       some ((({ data:=#[115,97,105,108,32] }++(getD x.fst.snd.fst.snd.snd.fst (toNat (G34 (((),(↑(length x.fst.snd.fst.snd.snd.fst):Int),()),(G77 (((),5,()),A.snd)).snd)).fst.fst) (zero S68)).fst,()),(G34 (((),(↑(length x.fst.snd.fst.snd.snd.fst):Int),()),(G77 (((),5,()),A.snd)).snd)).snd):O67.den)
      else none
     else none
    else none
   else some ((({ data:=#[115,97,105,108,32] }++{ data:=#[110,111,110,101] },()),(G77 (((),5,()),A.snd)).snd):O67.den)
  else none
  else some ((({ data:=#[115,97,105,108,32] }++{ data:=#[110,111,110,101] },()),A.snd):O67.den)) fun y=>a0a y.2.1 /\ y.1.1.size<=2000:=by
  have f:ByteArray.size ({ data:=#[115,97,105,108,32] }++{ data:=#[110,111,110,101] })<=2000:=Nat.le_trans (szA (n:=5) (m:=4) (le_refl _) (le_refl _)) (by decide);refine a0V (fun H=>?_) (fun _=>a0h ⟨e,f⟩);have w:0<x.1.2.1.2.2.1.length:=by
   have:=of_decide_eq_true H;show 0<length x.fst.snd.fst.snd.snd.fst;omega
  refine a0d (a1j _ e) ?_;have d:a0a (G77 (((),5,()),A.snd)).2.1:=a1g _ e;generalize G77 (((),5,()),A.snd)=B at *;refine a0V (fun _=>?_) (fun _=>a0h ⟨d,f⟩);refine a0d (a0k _ d) ?_;have j:a0a (G34 (((),(↑(length x.fst.snd.fst.snd.snd.fst):Int),()),B.snd)).2.1:=a0D _ d;have u:=a1U (↑(length x.fst.snd.fst.snd.snd.fst):Int) B.snd d (by omega);generalize G34 (((),(↑(length x.fst.snd.fst.snd.snd.fst):Int),()),B.snd)=D at *;have q:(getD x.fst.snd.fst.snd.snd.fst (toNat D.fst.fst) (zero S68)).fst.size<=1000:=(F.at _).1;refine a0d (by rw[decide_eq_true u.1,decide_eq_true u.2];rfl) (a0d (sz (n:=5) (le_refl _) q (by decide)) (a0h ⟨j,Nat.le_trans (szA (n:=5) (le_refl _) q) (by decide)⟩))
 refine a0V (fun _=>g) (fun _=>a0V (fun _=>g) (fun _=>a0V (fun _=>wind) (fun _=>a0V (fun _=>wind) (fun _=>a0V (fun _=>i) (fun _=>a0V (fun _=>i) (fun _=>a0V (fun _=>?_) (fun _=>a0V (fun _=>?_) (fun _=>?_))))))))
 ·refine a0d (a0k _ e) ?_;have d:a0a (G34 (((),200000,()),A.snd)).2.1:=a0D _ e;generalize G34 (((),200000,()),A.snd)=B at *;obtain⟨k,s1⟩:=c0S (wrap IntKind.i64 (B.fst.fst-100000));have s2:=szA (n:=4) (m:=50) (a:={ data:=#[102,105,120,32] }) (le_refl _) s1;have s3:=szA (m:=2) (b:={ data:=#[32,32] }) s2 (le_refl _);refine a0d k (a0d (sz (n:=4) (m:=50) (le_refl _) s1 (by decide)) (a0d (sz (m:=2) s2 (le_refl _) (by decide)) ?_));refine a0d (a0k _ d) ?_;have j:a0a (G34 (((),200000,()),B.snd)).2.1:=a0D _ d;generalize G34 (((),200000,()),B.snd)=D at *;obtain⟨r,s4⟩:=c0S (wrap IntKind.i64 (D.fst.fst-100000));exact a0d r (a0d (sz s3 s4 (by decide)) (a0h ⟨j,Nat.le_trans (szA s3 s4) (by decide)⟩))
 ·have p:∀l:List ByteArray,(l.all fun s=>Nat.ble s.size 1000)=true->∀s∈l,s.size<=1000:=fun l h s I=>Nat.le_of_ble_eq_true (List.all_eq_true.1 h s I)
  have t:∀L:List ByteArray,(L.all fun s=>Nat.ble s.size 1000)=true->0<L.length ->
   Pst (bif e4u (((),(),()),A.snd.fst,L,())then some (((d8P (((),(),()),A.snd.fst,L,())).fst,(d8P (((),(),()),A.snd.fst,L,())).snd.fst,()):O67.den)else none) fun y=>a0a y.2.1 /\ y.1.1.size<=2000:=by
   intro L E v;refine a0d (c5K _ e v) ?_;obtain⟨d,m1⟩:=c5L (((),(),()),A.snd.fst,L,()) e v;exact a0h ⟨d,Nat.le_trans (p _ E _ m1) (by decide)⟩
  exact t _ rfl (by simp only[length_set,length_replicate];decide)
 ·refine a0d (a0k _ e) ?_;have d:a0a (G34 (((),40,()),A.snd)).2.1:=a0D _ e;generalize G34 (((),40,()),A.snd)=B at *;refine a0d (a0k _ d) ?_;have j:a0a (G34 (((),40,()),B.snd)).2.1:=a0D _ d;generalize G34 (((),40,()),B.snd)=D at *;obtain⟨k,s1⟩:=d6p (wrap IntKind.i64 (1+wrap IntKind.i64 (B.fst.fst*D.fst.fst))) (d1t _);exact a0d k (a0d (sz (n:=3) (m:=20) (le_refl _) s1 (by decide)) (a0h ⟨j,Nat.le_trans (szA (n:=3) (m:=20) (le_refl _) s1) (by decide)⟩))
theorem d1u (x:I67.den) (h:a0a x.2.1) (a:a0E x.1.2.1.2.2.1) (b:x.1.2.1.2.2.1.length<=13):K67 x=true:=a1H (b3Z x h a b)
theorem d1v (x:I67.den) (h:a0a x.2.1) (a:a0E x.1.2.1.2.2.1) (b:x.1.2.1.2.2.1.length<=13):a0a (G67 x).2.1 /\ (G67 x).1.1.size<=2000:=a1I _ (b3Z x h a b)
def a7f (l:List ByteArray):Prop:=l.length<=30 /\ ∀s∈l,s.size<=2000
set_option maxRecDepth 100000 in
theorem b0k (v:b3v) (l:a0a v.2.1) (o:a0E v.2.2.1.2.2.2.2.2.1) (t:v.2.2.1.2.2.2.2.2.1.length<=13) (u:(v.1.2.2.2.1:Int)+v.2.2.2.1.length<=30) (g:(v.2.2.2.1.length:Int)<=30) (i:∀s∈v.2.2.2.1,s.size<=2000) :
 Pst (d0B v) fun y=>a0a y.2.1 /\ a7f y.2.2.1:=by
 refine a0C (q:=d0A) (fun v=>a0a v.2.1 /\ a0E v.2.2.1.2.2.2.2.2.1 /\ v.2.2.1.2.2.2.2.2.1.length<=13 /\ (v.1.2.2.2.1:Int)+v.2.2.2.1.length<=30 /\ (v.2.2.2.1.length:Int)<=30 /\ ∀s∈v.2.2.2.1,s.size<=2000)
  (fun _ r=>Pst r fun y=>a0a y.2.1 /\ a7f y.2.2.1) (fun v=>v.1.2.2.2.1.toNat) ?_ _ _ ⟨l,o,t,u,g,i⟩ (Nat.lt_of_lt_of_le (m:=1000) (by show(v.1.2.2.2.1:Int).toNat<1000;omega) (Nat.le_add_left _ _))
 clear l o t u g i v;rintro⟨⟨_,_,_,n,_⟩,c,B,ls,_⟩ f ⟨g0,g1,g2,g3,g4,g5⟩ ih;dsimp only at g0 g1 g2 g3 g4 g5 ih;unfold d0A;dsimp only;by_cases p:n>0
 ·refine a0d (by simpa using p) ?_;have j:∀b:Den S40,b.2.2.1=B.2.2.2.2.2.1->Pst (bif K67 (((),b,()),c,())then
   bif a0n (length ls+length (set (replicate 1 (zero Ty.str)) 0 (G67 (((),b,()),c,())).fst.fst))then
    f (((),(),(),wrap IntKind.i64 (n-1),()),(G67 (((),b,()),c,())).snd.fst,B,ls++set (replicate 1 (zero Ty.str)) 0 (G67 (((),b,()),c,())).fst.fst,())
   else none
   else none) fun y=>a0a y.2.1 /\ a7f y.2.2.1:=by
   intro b k;have a:a0E b.2.2.1:=by rw[k];exact g1
   have d:b.2.2.1.length<=13:=by rw[k];exact g2
   refine a0d (d1u (((),b,()),c,()) g0 a d) ?_;obtain⟨w,s1⟩:=d1v (((),b,()),c,()) g0 a d;generalize G67 (((),b,()),c,())=y at *;have e:IntKind.i64.wrap (n-1)=n-1:=w64 (by omega) (by omega);have x:∀z:ByteArray,set (replicate 1 (zero Ty.str)) 0 z=[z]:=fun _=>rfl
   rw[x,e];refine a0d (a0v (by rw[List.length_singleton];omega)) ?_;refine ih _ ⟨w,g1,g2,?_,?_,?_⟩ ?_
   ·show n-1+((ls++[y.1.1]).length:Int)<=30;rw[length_append,List.length_singleton];omega
   ·show((ls++[y.1.1]).length:Int)<=30;rw[length_append,List.length_singleton];omega
   ·intro s i;rcases List.mem_append.1 i with h|h
    ·exact g5 s h
    ·rw[List.mem_singleton.1 h];exact s1
   ·show(n-1).toNat<n.toNat;omega
  exact j _ rfl
 ·have hd:decide (n>0)=false:=by simpa using p
  rw[hd];exact a0h ⟨g0,by show ls.length<=30;omega,g5⟩
theorem c6y (v:b3v) (b:a0a v.2.1) (c:a0E v.2.2.1.2.2.2.2.2.1) (d:v.2.2.1.2.2.2.2.2.1.length<=13) (e:(v.1.2.2.2.1:Int)+v.2.2.2.1.length<=30) (a:(v.2.2.2.1.length:Int)<=30) (f:∀s∈v.2.2.2.1,s.size<=2000) :
 b3w v=true /\ a0a (a9Y v).2.1 /\ a7f (a9Y v).2.2.1:=⟨a1H (b0k v b c d e a f),a1I _ (b0k v b c d e a f)⟩
set_option maxRecDepth 100000 in
theorem b9a (x:I35.den) (h:a0a x.2.1) (E:a0E x.1.2.1.2.2.1) (J:x.1.2.1.2.2.1.length<=13):Pst (F35 x) fun y=>a0a y.2.1 /\ a7f y.2.2.1:=by
 unfold F35;dsimp only;have a1U:∀(n:Int) (c:(List Int×Int×Int×Unit)×Unit),a0a c.1->0<n->0<=((G34 (((),n,()),c)).1.1:Int) /\ ((G34 (((),n,()),c)).1.1:Int)<n:=fun n c h L=>a0O n c.1 h L
 have G:∀(z:Int) (k:Nat),0<=z /\ z<9->k<=2->z+(k:Int)<=30:=fun z k h P=>by omega
 have I:∀z:ByteArray,set (replicate 1 (zero Ty.str)) 0 z=[z]:=fun _=>rfl
 refine a0d (a0k _ h) ?_;have H:a0a (G34 (((),33,()),x.snd)).2.1:=a0D _ h;generalize G34 (((),33,()),x.snd)=A at *;obtain⟨N,s1⟩:=c0S (wrap IntKind.i64 (wrap IntKind.i64 (500*A.fst.fst)-8000));have s2:=szA (n:=5) (m:=50) (a:={ data:=#[119,105,110,100,32] }) (le_refl _) s1;have s3:=szA (m:=1) (b:={ data:=#[32] }) s2 (le_refl _);refine a0d N (a0d (sz (n:=5) (m:=50) (le_refl _) s1 (by decide)) (a0d (sz (m:=1) s2 (le_refl _) (by decide)) ?_));refine a0d (a0k _ H) ?_;have f:a0a (G34 (((),33,()),A.snd)).2.1:=a0D _ H;generalize G34 (((),33,()),A.snd)=B at *;obtain⟨O,s4⟩:=c0S (wrap IntKind.i64 (wrap IntKind.i64 (500*B.fst.fst)-8000));refine a0d O (a0d (sz s3 s4 (by decide)) ?_);have s5:=szA s3 s4;generalize { data:=#[119,105,110,100,32] }++(G83 (wrap IntKind.i64 (wrap IntKind.i64 (500*A.fst.fst)-8000),())).fst++{ data:=#[32] }++(G83 (wrap IntKind.i64 (wrap IntKind.i64 (500*B.fst.fst)-8000),())).fst=w at *;refine a0V (fun M=>?_) (fun _=>?_)
 ·have K:0<length x.fst.snd.fst.snd.snd.fst:=by
   have:=of_decide_eq_true M;omega
  refine a0d (by have:decide (0<((length x.fst.snd.fst.snd.snd.fst:Nat):Int))=true:=decide_eq_true (by omega);rw[this];rfl) ?_;have g:(getD x.fst.snd.fst.snd.snd.fst (toNat 0) (zero S68)).fst.size<=1000:=(E.at _).1;refine a0d (sz (n:=5) (le_refl _) g (by decide)) ?_;have s6:=szA (n:=5) (a:={ data:=#[115,97,105,108,32] }) (le_refl _) g;refine a0d (a0k _ f) ?_;have q:a0a (G34 (((),9,()),B.snd)).2.1:=a0D _ f;have p:=a1U 9 B.snd f (by decide);generalize G34 (((),9,()),B.snd)=D at *;generalize { data:=#[115,97,105,108,32] }++(getD x.fst.snd.fst.snd.snd.fst (toNat 0) (zero S68)).fst=u at *;simp only[I];have d:∀s∈[w]++[u],s.size<=2000:=fun s F=>by
   rcases List.mem_append.1 F with h|h
   ·rw[List.mem_singleton.1 h];exact Nat.le_trans s5 (by decide)
   ·rw[List.mem_singleton.1 h];exact Nat.le_trans s6 (by decide)
  have e:∀v:b3v,a0a v.2.1->a0E v.2.2.1.2.2.2.2.2.1->v.2.2.1.2.2.2.2.2.1.length<=13->(v.1.2.2.2.1:Int)+v.2.2.2.1.length<=30->(v.2.2.2.1.length:Int)<=30->(∀s∈v.2.2.2.1,s.size<=2000) ->
   Pst (bif b3w v then some ((((),()),(a9Y v).snd):O35.den)else none) fun y=>a0a y.2.1 /\ a7f y.2.2.1:=fun v a1 a2 i j l o=>by
   obtain⟨r,t,C⟩:=c6y v a1 a2 i j l o;exact a0d r (a0h ⟨t,C⟩)
  exact e _ q E J (G _ 2 p (by decide)) (by show(2:Int)<=30;decide) d
 ·refine a0d (a0k _ f) ?_;have q:a0a (G34 (((),9,()),B.snd)).2.1:=a0D _ f;have p:=a1U 9 B.snd f (by decide);generalize G34 (((),9,()),B.snd)=D at *;simp only[I];have d:∀s∈[w],s.size<=2000:=fun s F=>by rw[List.mem_singleton.1 F];exact Nat.le_trans s5 (by decide)
  have e:∀v:b3v,a0a v.2.1->a0E v.2.2.1.2.2.2.2.2.1->v.2.2.1.2.2.2.2.2.1.length<=13->(v.1.2.2.2.1:Int)+v.2.2.2.1.length<=30->(v.2.2.2.1.length:Int)<=30->(∀s∈v.2.2.2.1,s.size<=2000) ->
   Pst (bif b3w v then some ((((),()),(a9Y v).snd):O35.den)else none) fun y=>a0a y.2.1 /\ a7f y.2.2.1:=fun v a1 a2 i j l o=>by
   obtain⟨r,t,C⟩:=c6y v a1 a2 i j l o;exact a0d r (a0h ⟨t,C⟩)
  exact e _ q E J (G _ 1 p (by decide)) (by show(1:Int)<=30;decide) d
theorem e6G (x:I35.den) (h:a0a x.2.1) (a:a0E x.1.2.1.2.2.1) (b:x.1.2.1.2.2.1.length<=13):K35 x=true:=a1H (b9a x h a b)
theorem e6H (x:I35.den) (h:a0a x.2.1) (a:a0E x.1.2.1.2.2.1) (b:x.1.2.1.2.2.1.length<=13):a0a (G35 x).2.1 /\ a7f (G35 x).2.2.1:=a1I _ (b9a x h a b)
def a5v (b:Den S40):Bool:=a2b b.1&&(a4f b.2.1&&(a2J b.2.2.1&&(decide ((b.2.2.1.length:Int)>0)&&a4d b.2.2.2.1)))
theorem e6I (b:Den S40) (h:a8N b):F42 (b,())=some (a5v b,()):=by
 obtain⟨P,T,S,C,_⟩:=b;obtain⟨k,d,⟨c,e⟩,a⟩:=h;have f:=d6m P;have g:=e6D T d;have i:=e6o S (c.good e);have j:=d5Y C (by have:C.2.1.length<=22:=a;omega);unfold F42 a5v;dsimp only;simp only[K90,G90,f,K91,G91,g,K92,G92,i,K93,G93,j,isSome_some,getD_some,cond_true];cases a2b P
 ·rfl
 ·cases a4f T
  ·rfl
  ·cases a2J S
   ·rfl
   ·cases decide (((length S:Nat):Int)>0)<;>rfl
theorem d6q (b:Den S40) (h:a8N b):F50 (b,())=some (a5v b,()):=by
 obtain⟨P,T,S,C,_⟩:=b;obtain⟨k,d,⟨c,e⟩,a⟩:=h;have f:=d6n P;have g:=b5O T d;have i:=b1v S (c.good e);have j:=d9B C (by have:C.2.1.length<=22:=a;omega);unfold F50 a5v;dsimp only;simp only[K99,G99,f,d8z,d8A,g,d3x,d3y,i,f2s,f2t,j,isSome_some,getD_some,cond_true];cases a2b P
 ·rfl
 ·cases a4f T
  ·rfl
  ·cases a2J S
   ·rfl
   ·cases decide (((length S:Nat):Int)>0)<;>rfl
theorem e6J {α:Type} {l:List α} (h:l.length<=1000):a0n (0+l.length)=true:=a0v (by omega)
def a1t (f:List ByteArray):ByteArray:=⟨(b5p f { data:=#[32] }).toArray⟩
def b5S (s:ByteArray) (i:Nat):Bool:=!decide (a0o s (i:Int)<32)&&!decide (a0o s (i:Int)>126)
def c1x (s:ByteArray):Bool:=a0i (b5S s) 0 s.size
def spB:ByteArray:={ data:=#[32] }
def c6z (s:ByteArray):Bool:=!a1a s { data:=#[] }
def a0X (s:ByteArray):List ByteArray:=(a3G s spB).filter c6z
theorem d1w (s:ByteArray) (h:s.size<=1000):c0H ((s,(0:Int),()),())=some (bif c1x s then .inl ((s,()),())else .inr (((),false,()),())):=by
 refine(a0F (q:=c5C) (fun k=>((s,(k:Int),()),())) s.size (b5S s) _ _ ?_ ?_ _ ?_:_)
 ·intro k f c;have a:decide ((k:Int)<(s.size:Int))=true:=by simpa using c
  have b:decide (0<=(k:Int))=true:=by simp
  unfold c5C b5S;simp only[a2H k (by omega),a,b,Bool.and_self,cond_true];cases decide (a0o s (k:Int)<32)
  ·cases decide (a0o s (k:Int)>126)<;>rfl
  ·rfl
 ·intro f;simp[c5C]
 ·simp only[d9u];omega
theorem c0T (l:List ByteArray) (h:l.length<=1000):b8B (((),l,(l.length:Int),(0:Int),()),[],())=some (((),()),l.filter c6z,()):=by
 refine a0C (q:=b8z) (fun v=>∃k:Nat,k<=l.length /\ v=(((),l,(l.length:Int),(k:Int),()),(l.take k).filter c6z,()))
  (fun _ r=>r=some (((),()),l.filter c6z,())) (fun v=>l.length-v.1.2.2.2.1.toNat) ?_ _ _ ⟨0,zero_le _,rfl⟩ (by show l.length-toNat 0<b8A _;unfold b8A;dsimp only;omega)
 rintro v f ⟨k,o,rfl⟩ i;unfold b8z;dsimp only;by_cases a:k<l.length
 ·have g:decide ((k:Int)<(l.length:Int))=true:=by simpa using a
  have j:decide (0<=(k:Int))=true:=by simp
  have d:getD l (toNat (k:Int)) (zero Ty.str)=l[k]:=by rw[toNat_natCast,a3Z _ _ _ a]
  have n:IntKind.i64.wrap ((k:Int)+1)=((k+1:Nat):Int):=a2H k (by omega);have m:set (replicate 1 (zero Ty.str)) 0 l[k]=[l[k]]:=rfl;have e:List.take (k+1) l=List.take k l++[l[k]]:=List.take_succ_eq_append_getElem a;have c:l.length-((k+1:Nat):Int).toNat<l.length-((k:Nat):Int).toNat:=by omega
  rw[g,j,d,n,m];simp only[Bool.and_self,cond_true];cases hb:!a1a l[k] { data:=#[] }with
  | true =>
    have b:a0n (length (List.filter c6z (List.take k l))+length [l[k]])=true:=a0v (by
     have:=List.length_filter_le c6z (List.take k l);rw[List.length_take]at this;rw[List.length_singleton];omega)
    rw[b];simp only[cond_true];refine i _ ⟨k+1,a,?_⟩ c;rw[e,List.filter_append,List.filter_cons_of_pos (show c6z l[k]=true from hb),List.filter_nil]
  | false =>
    simp only[cond_false];refine i _ ⟨k+1,a,?_⟩ c;rw[e,List.filter_append,List.filter_cons_of_neg (by show ¬(c6z l[k]=true);rw[show c6z l[k]=false from hb];simp),List.filter_nil,List.append_nil]
 ·have g:decide ((k:Int)<(l.length:Int))=false:=by simpa using a
  rw[g,cond_false,List.take_of_length_le (by omega)]
theorem c6A (s:ByteArray):(a3G s spB).length<=s.size+1:=by
 have a:=Lib.splitB_all spB (by decide) 0 _ s rfl;unfold a3G;rw[a];have:=Lib.countB_le spB (by decide) s.size s (le_refl _);omega
theorem b9b (s:ByteArray):F16 (s,())=some (bif decide ((s.size:Int)>600)then([],false,())else bif !c1x s then([],false,())else bif decide (((a0X s).length:Int)>24)then([],false,())else(a0X s,true,())):=by
 unfold F16;dsimp only;cases h6:decide (((ByteArray.size s:Nat):Int)>600)with
 |true=>rfl
 | false =>
   have f:s.size<=600:=by
    have:=of_decide_eq_false h6;omega
   have c:=d1w s (by omega);have e:=c6A s;have b:K48 (s,{ data:=#[32] },())=true:=by
    unfold K48;rw[decide_eq_true (show(s:ByteArray).size<4294967281 by omega),decide_eq_true (show 1<=ByteArray.size { data:=#[32] }by decide)];rfl
   have a:G48 (s,{ data:=#[32] },())=(a3G s spB,()):=rfl;have d:=c0T (a3G s spB) (by omega);simp only[cond_false,d5T,d5U,d5V,d5W,c,isSome_some,cond_true];cases c1x s with
   |false=>rfl
   | true =>
     simp only[cond_true,isR,xOf,cond_false,b,a,c5A,c5B,d,isSome_some,getD_some,Bool.not_true];show(bif decide (((length (a0X s):Nat):Int)>24)then some ([],false,())else some (a0X s,true,()))=_;cases decide (((length (a0X s):Nat):Int)>24)<;>rfl
def pcs:List UInt8->List (List UInt8)
 |[]=>[[]]
 | b::r=>if b=32 then[]::pcs r else match pcs r with
   |[]=>[[b]]
   |p::ps=>(b::p)::ps
theorem c6B:∀l,pcs l≠[]
 |[]=>by simp[pcs]
 | b::r=>by
   unfold pcs;split
   ·simp
   ·split<;>simp
theorem b0l (b:UInt8) (l:List UInt8):Lib.index (b::l) [32]=if b=32 then 0 else if Lib.index l [32] == -1 then -1 else Lib.index l [32]+1:=by
 rw[Lib.index];by_cases h:b=32
 ·subst h;simp
 ·have:([32]:List UInt8).isPrefixOf (b::l)=false:=by
   simp[List.isPrefixOf];exact fun e=>h e.symm
  rw[this,if_neg h];simp
theorem b4a:∀l:List UInt8,Lib.splitK [32] 0 (Lib.count l [32]) l=pcs l
 |[]=>rfl
 | b::r=>by
   have c:=b4a r;by_cases h:b=32
   ·subst h;rw[Lib.count_cons_eq,Nat.add_comm];unfold Lib.splitK pcs;rw[b0l,if_pos rfl,if_neg (by decide),if_pos rfl];simp[c]
   ·rw [Lib.count_cons_ne b 32 r h];unfold pcs;rw[if_neg h];cases hc:Lib.count r [32]with
    | zero =>
      rw[hc]at c;rw[<- c];rfl
    | succ k =>
      rw[hc]at c;have a:¬(Lib.index r [32] == -1)=true:=fun e=>by
       have:=Lib.count_miss (s:=r) (sub:=[32]) (beq_iff_eq.1 e);omega
      have g:=Lib.index_ge r [32];have d:Lib.index r [32] ≠ -1:=fun e=>a (beq_iff_eq.2 e)
      unfold Lib.splitK at c ⊢;rw[if_neg a]at c;rw[b0l,if_neg h,if_neg a,if_neg (by intro e;have:=beq_iff_eq.1 e;omega),<- c];have f:(Lib.index r [32]+1).toNat=(Lib.index r [32]).toNat+1:=by omega
      rw[f];simp[Nat.add_assoc]
theorem c0U (s:ByteArray):(a3G s spB).map (·.data.toList)=pcs s.data.toList:=by
 unfold a3G;rw[Lib.splitB_data];exact b4a _
theorem a8P:∀(x l:List UInt8),32 ∉ x->pcs (x++l)=(match pcs l with
 |[]=>[x]
 |p::ps=>(x++p)::ps)
 | [],l,_=>by
   have:=c6B l;cases h:pcs l with
   |nil=>exact absurd h this
   |cons p ps=>simp[h]
 | b::x,l,hx=>by
   have a:b≠32:=fun e=>hx (by rw[e];exact List.mem_cons_self ..)
   have c:=a8P x l (fun e=>hx (List.mem_cons_of_mem _ e));rw[List.cons_append]
   conv=>lhs;unfold pcs
   rw[if_neg a,c];cases h:pcs l with
   |nil=>exact absurd h (c6B l)
   |cons p ps=>rfl
def a4n (f:List (List UInt8)):List UInt8:=Lib.join f [32]
theorem a3e (x:List UInt8):a4n [x]=x:=Lib.join_one x [32]
theorem a2l (x y:List UInt8) (r:List (List UInt8)):a4n (x::y::r)=x++32::a4n (y::r):=by
 unfold a4n;rw[Lib.join_cons,Lib.join_cons];simp[Lib.joinTail]
theorem b9c:∀(f:List (List UInt8)),(∀x∈f,32 ∉ x)->f≠[]->pcs (a4n f)=f
 |[],_,h=>absurd rfl h
 | [x],h,_=>by
   rw[a3e];have:=a8P x [] (h x (List.mem_cons_self ..));rw[List.append_nil]at this;rw[this];simp[pcs]
 | x::y::r,h,_=>by
   rw[a2l,a8P x _ (h x (List.mem_cons_self ..))];have b:=b9c (y::r) (fun z a=>h z (List.mem_cons_of_mem _ a)) (by simp);have:pcs (32::a4n (y::r))=[]::(y::r):=by
    conv=>lhs;unfold pcs
    rw[if_pos rfl,b]
   rw[this];simp
def wt:List (List UInt8)->Nat
 |[]=>0
 |p::ps=>p.length+1+wt ps
theorem d6r:∀l,wt (pcs l)=l.length+1
 |[]=>rfl
 | b :: r=>by
   have a:=d6r r;unfold pcs;split
   ·simp[wt,a];omega
   ·split
    ·rename_i c;exact absurd c (c6B r)
    ·rename_i q e d;rw[d]at a;simp[wt]at a ⊢;omega
theorem b4b (g:List UInt8->Bool):∀l,wt (l.filter g)<=wt l
 |[]=>le_refl _
 | p::ps=>by
   have:=b4b g ps;rw[List.filter_cons];split<;>simp only[wt]<;>omega
theorem b5T:∀f,(a4n f).length<=wt f /\ (f≠[]->(a4n f).length+1=wt f)
 |[]=>⟨le_refl _,fun h=>absurd rfl h⟩
 |[x]=>by rw[a3e];simp[wt]
 | x::y::r=>by
   have:=(b5T (y::r)).2 (by simp);rw[a2l];simp only[length_append,List.length_cons,wt]at this ⊢;exact⟨by omega,fun _=>by omega⟩
def fl (l:List UInt8):List (List UInt8):=(pcs l).filter (·≠[])
theorem e6K (l:List UInt8):(a4n (fl l)).length<=l.length:=by
 by_cases h:fl l=[]
 ·rw[h];exact zero_le _
 ·have b:=(b5T (fl l)).2 h;have a:=b4b (fun p=>decide (p≠[])) (pcs l);rw[d6r]at a;have c:wt (fl l)<=l.length+1:=a;omega
theorem a7g {a b:ByteArray} (h:a.data.toList=b.data.toList):a=b:=by
 apply ByteArray.ext;exact Array.ext' h
theorem b5U:∀{l m:List ByteArray},l.map (·.data.toList)=m.map (·.data.toList)->l=m
 |[],[],_=>rfl
 | a::l,b::m,h=>by
   simp only[List.map_cons,List.cons.injEq]at h;rw[a7g h.1,b5U h.2]
 |[],_::_,h=>by simp at h
 |_::_,[],h=>by simp at h
theorem b4c (bs:ByteArray):∀(n i:Nat) (r:List UInt8),bs.size-i<=n->ByteArray.toList.loop bs i r=r.reverse++bs.data.toList.drop i
 | 0,i,r,h=>by
   unfold ByteArray.toList.loop;rw[if_neg (by omega)];have:bs.data.toList.length<=i:=by rw[Array.length_toList];exact Nat.le_of_sub_eq_zero (Nat.le_zero.1 h)
   rw[List.drop_of_length_le this,List.append_nil]
 | n+1,i,r,h=>by
   unfold ByteArray.toList.loop;by_cases a:i<bs.size
   ·rw[if_pos a,b4c bs n (i+1) _ (by omega),List.reverse_cons,List.append_assoc];have b:i<bs.data.toList.length:=by rw[Array.length_toList];exact a
    rw[List.drop_eq_getElem_cons b];congr 1;rw[List.singleton_append];congr 1;rw[Array.getElem_toList];show bs.get! i=_;unfold ByteArray.get!;exact getElem!_pos bs.data i a
   ·rw[if_neg a];have:bs.data.toList.length<=i:=by rw[Array.length_toList];exact Nat.not_lt.1 a
    rw[List.drop_of_length_le this,List.append_nil]
theorem a6n (bs:ByteArray):bs.toList=bs.data.toList:=by
 unfold ByteArray.toList;rw[b4c bs bs.size 0 [] (by omega)];simp
theorem d1x (s:ByteArray):c6z s=decide (s.data.toList≠[]):=by
 unfold c6z a1a;rw[a6n,a6n];cases h:s.data.toList with
 |nil=>rfl
 |cons a l=>rfl
theorem a5w (s:ByteArray):(a0X s).map (·.data.toList)=fl s.data.toList:=by
 unfold a0X fl;rw[<- c0U,List.filter_map];congr 1;apply List.filter_congr;intro x _;exact d1x x
theorem a1P (f:List ByteArray):(a1t f).data.toList=a4n (f.map (·.data.toList)):=rfl
theorem c0V (s:ByteArray):(a1t (a0X s)).size<=s.size:=by
 have h:=e6K s.data.toList;rw[<- a5w,<- a1P]at h;have e:∀b:ByteArray,b.size=b.data.toList.length:=fun b=>by rw[Array.length_toList];rfl
 rw[e,e];exact h
theorem a7M (a b:ByteArray):a1a a b=true↔a=b:=by
 unfold a1a;rw[a6n,a6n,beq_iff_eq];exact⟨a7g,fun h=>by rw[h]⟩
theorem b4d (s:ByteArray) (i:Nat):b5S s i=true↔32<=(s.data.toList.getD i 0).toNat /\ (s.data.toList.getD i 0).toNat<=126:=by
 unfold b5S a0o;rw[toNat_natCast];generalize (s.data.toList.getD i 0).toNat=n;simp only[and_eq_true,Bool.not_eq_true',decide_eq_false_iff_not];omega
theorem a7N:∀(n k:Nat) (g:Nat->Bool),a0i g k n=true↔∀i,k<=i->i<k+n->g i=true
 | 0,k,g=>by
   constructor
   ·intro _ i a b;omega
   ·intro _;rfl
 | n+1,k,g=>by
   unfold a0i;have c:=a7N n (k+1) g;constructor
   ·intro h i a b;cases hg:g k with
    |false=>rw[hg]at h;exact absurd h (by simp)
    | true =>
      rw[hg]at h;by_cases d:i=k
      ·rw[d];exact hg
      ·exact c.1 (by simpa using h) i (by omega) (by omega)
   ·intro h;rw[h k (le_refl _) (by omega)];have:=c.2 fun i a b=>h i (by omega) (by omega)
    simpa using this
theorem d1y (s:ByteArray):c1x s=true↔∀b∈s.data.toList,32<=b.toNat /\ b.toNat<=126:=by
 unfold c1x;rw[a7N];have d:s.size=s.data.toList.length:=by rw[Array.length_toList];rfl
 constructor
 ·intro h b e;obtain⟨i,c,rfl⟩:=List.getElem_of_mem e;have:=(b4d s i).1 (h i (zero_le _) (by omega));rw[a3Z _ _ _ c]at this;exact this
 ·intro h i _ c;have a:i<s.data.toList.length:=by omega
  rw[b4d,a3Z _ _ _ a];exact h _ (List.getElem_mem _)
theorem b4e:∀(f:List (List UInt8)) (b:UInt8),b∈a4n f->b=32∨∃p∈f,b∈p
 |[],b,h=>by cases h
 |[x],b,h=>by rw[a3e]at h;exact .inr ⟨x,List.mem_cons_self ..,h⟩
 | x :: y::r,b,h=>by
   rw[a2l]at h;rcases List.mem_append.1 h with h|h
   ·exact .inr ⟨x,List.mem_cons_self ..,h⟩
   ·rcases List.mem_cons.1 h with h|h
    ·exact .inl h
    ·rcases b4e (y::r) b h with h|⟨p,c,a⟩
     ·exact .inl h
     ·exact .inr ⟨p,List.mem_cons_of_mem _ c,a⟩
theorem d1z {s:ByteArray} {f:List ByteArray} (h:F16 (s,())=some (f,true,())):s.size<=600 /\ c1x s=true /\ f=a0X s /\ f.length<=24:=by
 rw[b9b]at h;cases h6:decide ((s.size:Int)>600)with
 |true=>rw[h6]at h;simp at h
 | false =>
   rw[h6]at h;cases hv:c1x s with
   |false=>rw[hv]at h;simp at h
   | true =>
     rw[hv]at h;cases hl:decide (((a0X s).length:Int)>24)with
     |true=>rw[hl]at h;simp at h
     | false =>
       rw[hl]at h;simp only[cond_false,Bool.not_true,Option.some.injEq,Prod.mk.injEq,and_true]at h;have a:=of_decide_eq_false h6;have b:=of_decide_eq_false hl;exact⟨by omega,rfl,h.symm,by rw[<- h];omega⟩
def a6T (l:List UInt8):Prop:=l≠[] /\ l.length<=20 /\ ∀b∈l,33<=b.toNat /\ b.toNat<=126
theorem d9Z {l:List UInt8} (h:a6T l):32 ∉ l:=fun a=>by
 have:=(h.2.2 32 a).1;exact absurd this (by decide)
theorem d1A (f:List (List UInt8)) (h:∀x∈f,a6T x) (b:f≠[]):fl (a4n f)=f:=by
 unfold fl;rw[b9c f (fun x a=>d9Z (h x a)) b];exact List.filter_eq_self.2 fun x a=>by simpa using(h x a).1
theorem b4f (f:List ByteArray) (h:∀x∈f,a6T x.data.toList) (a:f≠[]):a0X (a1t f)=f:=by
 apply b5U;rw[a5w,a1P];refine d1A _ (fun x b=>?_) (by simpa using a);obtain⟨y,c,rfl⟩:=List.mem_map.1 b;exact h y c
theorem e6L:∀f:List (List UInt8),(∀x∈f,a6T x)->wt f<=21*f.length
 |[],_=>le_refl _
 | p::ps,h=>by
   have b:=(h p (List.mem_cons_self ..)).2.1;have c:=e6L ps fun x a=>h x (List.mem_cons_of_mem _ a)
   simp only[wt,List.length_cons];omega
theorem b4g (f:List ByteArray) (h:∀x∈f,a6T x.data.toList) (e:f≠[]) (o:f.length<=24):F16 (a1t f,())=some (f,true,()) /\ (a1t f).size<=600:=by
 have c:∀x∈f.map (·.data.toList),a6T x:=fun x k=>by
  obtain⟨y,l,rfl⟩:=List.mem_map.1 k;exact h y l
 have i:(a1t f).size<=600:=by
  have m:=(b5T (f.map (·.data.toList))).1;have d:=e6L _ c;rw[List.length_map]at d;have n:(a1t f).size=(a4n (f.map (·.data.toList))).length:=by
   rw[<- a1P];exact(Array.length_toList).symm
  omega
 have j:c1x (a1t f)=true:=by
  rw[d1y];intro b a;rw[a1P]at a;rcases b4e _ b a with rfl|⟨p,g,a⟩
  ·decide
  ·have:=(c p g).2.2 b a;omega
 refine⟨?_,i⟩;rw[b9b,j,b4f f h e,decide_eq_false (by omega),decide_eq_false (by omega)];rfl
theorem b9d:∀(k u:Nat),u<10^k->∀b∈dig u,33<=b.toNat /\ b.toNat<=126
 | 0,u,h=>by
   have:u=0:=by simpa using h
   subst this;intro b a;cases a
 | k + 1,u,h=>by
   by_cases c:u=0
   ·subst c;intro b a;cases a
   ·rw[b1H c];intro b a;rcases List.mem_append.1 a with a|a
    ·exact b9d k (u/10) (by rw[Nat.pow_succ]at h;omega) b a
    ·rw[List.mem_singleton.1 a];have:u%10<10:=Nat.mod_lt _ (by decide);have e:(dg (u%10)).toNat=48+u%10:=by
      unfold dg;rw[UInt8.toNat_ofNat'];omega
     rw[e];omega
theorem c6C (n:Int) (f:n.natAbs<=9223372036854775808):a6T (bOf (Lib.itoa n)).data.toList:=by
 have d:=a3q n f;refine⟨?_,?_,?_⟩
 ·show Lib.itoa n≠[];intro h;rw[h]at d;exact absurd d.1 (by decide)
 ·exact d.2
 ·show ∀b∈Lib.itoa n,_;by_cases e:n=0
  ·subst e;have:Lib.itoa 0=[48]:=by unfold Lib.itoa;rw[if_neg (by decide),Lib.decDigits,dif_pos (by decide)];rfl
   rw[this];intro b c;rw[List.mem_singleton.1 c];decide
  ·have hd:=b9d 19 n.natAbs (by omega);have a:dig n.natAbs=Lib.decDigits n.natAbs:=if_neg (by omega);unfold Lib.itoa;split
   ·intro b c;rcases List.mem_cons.1 c with rfl|c
    ·decide
    ·exact hd b (by rw[a];exact c)
   ·rw[show n.toNat=n.natAbs by omega,<- a];exact hd
theorem c6D (s:ByteArray) (h:b1u s=true):a6T s.data.toList:=by
 unfold b1u at h;simp only[and_eq_true,decide_eq_true_eq]at h;obtain⟨a,⟨j,k⟩,_⟩:=h;have c:s.data.toList.length=s.size:=Array.length_toList;refine⟨fun d=>by rw[d]at c;simp at c;omega,by omega,fun b f=>?_⟩;obtain⟨i,g,rfl⟩:=List.getElem_of_mem f;unfold a4O at a;have:=(a7N _ _ _).1 a i (zero_le _) (by omega);simp only[and_eq_true,decide_eq_true_eq]at this;have e:a0o s (i:Int)=(s.data.toList[i].toNat:Int):=by
  unfold a0o;rw[toNat_natCast,List.getD_eq_getElem?_getD,List.getElem?_eq_getElem g];rfl
 rw[e]at this;omega
theorem c6E:a6T c5D.data.toList:=by unfold a6T c5D;decide
abbrev f5W:Ty:=.cons (S68) (.cons (S63) (.nil))
abbrev f5X:Ty:=.cons (.bool) (.nil)
def f0d (x:Den f5W):OD f5X:=bif fgt .f32 x.2.1.1 x.1.2.1||feq .f32 x.2.1.1 x.1.2.1 then bif flt .f32 x.2.1.1 x.1.2.2.1||feq .f32 x.2.1.1 x.1.2.2.1 then bif decide (x.2.1.2.1 ≥ x.1.2.2.2.1) then some (decide (x.2.1.2.1<=x.1.2.2.2.2.1),())else some (false,())else some (false,())else some (false,())
def e2t (x):=(f0d x).isSome
def e2u (x):=(f0d x).getD (zero f5X)
def f5Y:=(206,a0c f5W f5X e2t e2u)
theorem d6s:a0f Tryz.prog f5Y:=fnE nS Tryz.func206
abbrev g0e:Ty:=.cons (.slice (S68)) (.cons (S63) (.nil))
abbrev f5Z:Ty:=.cons (.int .i64) (.nil)
abbrev b9e:Type:=(b4I×b2X)×(Nat×ty7)×Unit
abbrev d6t:Type:=a5r
abbrev d6u:Type:=c9J
def d6v:LR:=⟨[0,3,5],[],0,[],[],⟨[(0,om8),(3,om1),(5,om0)],[(0,.box [.flt .f32,.int .i64])],1,0⟩,⟨[],[],0,0⟩,⟨[(4,om0)],[],0,0⟩⟩
def a7h (f:b9e->Option (d6t⊕d6u)) (v:b9e):Option (d6t⊕d6u):=bif decide (v.1.2.2.1<(length v.1.1:Int)) then bif d3x (v.1.1,()) then bif (d3y (v.1.1,())).1 then bif decide (0<=v.1.2.2.1)&&decide (v.1.2.2.1<(length v.1.1:Int)) then let a:=getD v.1.1 (toNat v.1.2.2.1) (zero S68);bif e2t (a,v.2) then bif (e2u (a,v.2)).1 then some (Sum.inr (v.1.2.2,()))else f (((v.1.1,(),wrap .i64 (v.1.2.2.1+1),()),v.2))else none else none else some (Sum.inl ((),()))else none else some (Sum.inl ((),()))
def c6F (v:b9e):Nat:=v.1.1.length+v.1.2.2.1.natAbs+v.2.1.2.1.natAbs+1000
def b0m (v:b9e):=a0K a7h (c6F v) v
def c6G (v):=(b0m v).isSome
def c6H (v):=isR (b0m v)
def f6a (v):=xOf default (b0m v)
def c6I (v):=yOf default (b0m v)
def e6M (x:Den g0e):OD f5Z:=bif c6G ((x.1,(),0,()),x.2) then bif c6H ((x.1,(),0,()),x.2) then some (c6I ((x.1,(),0,()),x.2)).1 else some (-1,())else none
def f0e (x):=(e6M x).isSome
def f0f (x):=(e6M x).getD (zero f5Z)
def g2o:=(244,a0c g0e f5Z f0e f0f)
noncomputable def f6b:=gE [f8t,f5Y] Tryz.f244 (lps:=[(2,lmR d6v b0m)])
theorem d1B:EvR f6b (lp Tryz.f244 0) d6v a7h:=fun _ _=>by kernel_rfl
theorem e6N:a0f Tryz.prog g2o:=a0Q (a0L (s2 c3B d6s)) (a1F Tryz.func244 rfl rfl rfl (by kernel_rfl) (a0j (by kernel_rfl) (s1 (lR d1B c6F)))) fun _=>by kernel_rfl
abbrev g0f:Ty:=.cons (.slice (S68)) (.cons (.int .i64) (.cons (S63) (.nil)))
abbrev f6c:Ty:=.cons (.int .i64) (.nil)
def f0g (x:Den g0f):OD f6c:=bif d3x (x.1,()) then bif !(d3y (x.1,())).1 then some (-1,())else let a:=wrap .i64 ((length x.1:Int)-1);bif K51 (x.2.1,0,a,()) then bif (G51 (x.2.1,0,a,())).1 then bif decide (0<=x.2.1)&&decide (x.2.1<(length x.1:Int)) then let b:=getD x.1 (toNat x.2.1) (zero S68);bif K55 (b,x.2.2) then bif (G55 (b,x.2.2)).1 then some (x.2.1,())else bif f0e (x.1,x.2.2) then some (f0f (x.1,x.2.2))else none else none else none else bif f0e (x.1,x.2.2) then some (f0f (x.1,x.2.2))else none else none else none
def f0h (x):=(f0g x).isSome
def f0i (x):=(f0g x).getD (zero f6c)
def g2p:=(204,a0c g0f f6c f0h f0i)
theorem e6O:a0f Tryz.prog g2p:=fnE (s4 c3B a4a e4n e6N) Tryz.func204
abbrev g0g:Ty:=.cons (.flt .f32) (.nil)
abbrev f6d:Ty:=.cons (.bool) (.nil)
def f6e (x:Den g0g):OD f6d:=bif fgt .f32 x.1 0||feq .f32 x.1 0 then some (flt .f32 x.1 1065353216||feq .f32 x.1 1065353216,())else some (false,())
def f6f (x):=(f6e x).isSome
def f6g (x):=(f6e x).getD (zero f6d)
def g2q:=(245,a0c g0g f6d f6f f6g)
theorem e6P:a0f Tryz.prog g2q:=fnE nS Tryz.func245
abbrev g0h:Ty:=.cons (.flt .f32) (.cons (.flt .f32) (.cons (.flt .f32) (.nil)))
abbrev f6h:Ty:=.cons (.flt .f32) (.nil)
def f6i (x:Den g0h):OD f6h:=some (a0b .add .f32 x.1 (a0b .mul .f32 (a0b .sub .f32 x.2.1 x.1) x.2.2.1),())
def f0j (x):=(f6i x).isSome
def f0k (x):=(f6i x).getD (zero f6h)
def g2r:=(246,a0c g0h f6h f0j f0k)
theorem e6Q:a0f Tryz.prog g2r:=fnE nS Tryz.func246
abbrev g0i:Ty:=.cons (.cpx .f32) (.cons (.cpx .f32) (.cons (.flt .f32) (.nil)))
abbrev f6j:Ty:=.cons (.cpx .f32) (.cons (.bool) (.nil))
def f0l (x:Den g0i):OD f6j:=bif K52 (x.1,()) then bif !(G52 (x.1,())).1 then some ((0,0),false,())else bif K52 (x.2.1,()) then bif !(G52 (x.2.1,())).1 then some ((0,0),false,())else bif f6f x.2.2 then bif !(f6g x.2.2).1 then some ((0,0),false,())else bif f0j (x.1.1,x.2.1.1,x.2.2) then bif f0j (x.1.2,x.2.1.2,x.2.2) then some (((f0k (x.1.1,x.2.1.1,x.2.2)).1,(f0k (x.1.2,x.2.1.2,x.2.2)).1),true,())else none else none else none else none else none
def f0m (x):=(f0l x).isSome
def d6w (x):=(f0l x).getD (zero f6j)
def g2s:=(205,a0c g0i f6j f0m d6w)
theorem e6R:a0f Tryz.prog g2s:=fnE (s3 b1l e6P e6Q) Tryz.func205
abbrev g0j:Ty:=.cons (.str) (.nil)
abbrev f6k:Ty:=.cons (.int .i64) (.cons (.bool) (.nil))
abbrev b9f:Type:=(b2W×a6K)×Unit
abbrev d6x:Type:=e3e
abbrev d6y:Type:=(Int×c8F)×Unit
def d6z:LR:=⟨[0,4,5],[],0,[0,4],[],⟨[(0,om5),(4,om0),(5,om0)],[],0,0⟩,⟨[(0,om5),(4,om0)],[],0,0⟩,⟨[(2,om0),(3,om4)],[],0,0⟩⟩
def b0n (f:b9f->Option (d6x⊕d6y)) (v:b9f):Option (d6x⊕d6y):=let b:=v.1.2.2.1<(ByteArray.size v.1.1:Int);bif decide b then let a:=decide (0<=v.1.2.2.1)&&decide b;bif a then bif decide (a0o v.1.1 v.1.2.2.1<48) then some (Sum.inr ((0,false,()),()))else bif a then bif decide (a0o v.1.1 v.1.2.2.1>57) then some (Sum.inr ((0,false,()),()))else bif a then f (((v.1.1,wrap .i64 ((wrap .i64 ((wrap .i64 (10*v.1.2.1))+(wrap .i64 (a0o v.1.1 v.1.2.2.1))))-48),wrap .i64 (v.1.2.2.1+1),()),()))else none else none else none else some (Sum.inl ((v.1.1,v.1.2.1,()),()))
def d6A (v:b9f):Nat:=v.1.1.size+v.1.2.1.natAbs+v.1.2.2.1.natAbs+1000
def b0o (v:b9f):=a0K b0n (d6A v) v
def c6J (v):=(b0o v).isSome
def c6K (v):=isR (b0o v)
def c6L (v):=xOf default (b0o v)
def c6M (v):=yOf default (b0o v)
def f0n (x:Den g0j):OD f6k:=bif decide ((ByteArray.size x.1:Int)>10) then some (0,false,())else bif c6J ((x.1,0,0,()),()) then bif c6K ((x.1,0,0,()),()) then some (c6M ((x.1,0,0,()),())).1 else let a:=c6L ((x.1,0,0,()),());bif decide (a.1.2.1>1000000000) then some (0,false,())else bif b3i a.1.2 then bif !a1a (a6L a.1.2).1 a.1.1 then some (0,false,())else some (a.1.2.1,true,())else none else none
def f0o (x):=(f0n x).isSome
def e6S (x):=(f0n x).getD (zero f6k)
def g2t:=(203,a0c g0j f6k f0o e6S)
noncomputable def f6l:=gE [f8A] Tryz.f203 (lps:=[(5,lmR d6z b0o)])
theorem d1C:EvR f6l (lp Tryz.f203 0) d6z b0n:=fun _ _=>by kernel_rfl
theorem e6T:a0f Tryz.prog g2t:=a0Q (a0L (s1 c3M)) (a1F Tryz.func203 rfl rfl rfl (by kernel_rfl) (a0j (by kernel_rfl) (s1 (lR d1C d6A)))) fun _=>by kernel_rfl
abbrev g0k:Ty:=.cons (.str) (.nil)
abbrev e6U:Ty:=.cons (.int .i64) (.cons (.bool) (.nil))
abbrev b9g:Type:=(b2W×b2W×a6K)×Unit
abbrev d6B:Type:=(b2W×b2W×ty7)×Unit
abbrev d6C:Type:=(Int×c8F)×Unit
def d6D:LR:=⟨[0,4,5,6],[],0,[0,4,5],[],⟨[(0,om5),(4,om5),(5,om0),(6,om0)],[],0,0⟩,⟨[(0,om5),(4,om5),(5,om0)],[],0,0⟩,⟨[(2,om0),(3,om4)],[],0,0⟩⟩
def a7i (f:b9g->Option (d6B⊕d6C)) (v:b9g):Option (d6B⊕d6C):=bif decide (v.1.2.2.2.1<(ByteArray.size v.1.2.1:Int)) then bif v.1.2.2.2.1==(wrap .i64 ((ByteArray.size v.1.2.1:Int)-4)) then f (((v.1.1,v.1.2.1,v.1.2.2.1,wrap .i64 (v.1.2.2.2.1+1),()),()))else bif decide (0<=v.1.2.2.2.1)&&decide (v.1.2.2.2.1<(ByteArray.size v.1.2.1:Int)) then bif decide (a0o v.1.2.1 v.1.2.2.2.1<48) then some (Sum.inr ((0,false,()),()))else bif decide (0<=v.1.2.2.2.1)&&decide (v.1.2.2.2.1<(ByteArray.size v.1.2.1:Int)) then bif decide (a0o v.1.2.1 v.1.2.2.2.1>57) then some (Sum.inr ((0,false,()),()))else bif decide (0<=v.1.2.2.2.1)&&decide (v.1.2.2.2.1<(ByteArray.size v.1.2.1:Int)) then f (((v.1.1,v.1.2.1,wrap .i64 ((wrap .i64 (v.1.2.2.1*10))+(wrap .i64 (wrap .u8 (a0o v.1.2.1 v.1.2.2.2.1-48)))),wrap .i64 (v.1.2.2.2.1+1),()),()))else none else none else none else some (Sum.inl ((v.1.1,v.1.2.1,v.1.2.2.1,()),()))
def b9h (v:b9g):Nat:=v.1.1.size+v.1.2.1.size+v.1.2.2.1.natAbs+v.1.2.2.2.1.natAbs+1000
def b0p (v:b9g):=a0K a7i (b9h v) v
def a8Q (v):=(b0p v).isSome
def a8R (v):=isR (b0p v)
def a2c (v):=xOf default (b0p v)
def a8S (v):=yOf default (b0p v)
def e6V (x:Den g0k):OD e6U:=let b:=(ByteArray.size x.1:Int);bif decide (b>0) then bif decide (0<=0)&&decide (0<b) then bif a0o x.1 0==45 then bif decide (0<=1)&&decide (1<=b)&&decide (b<=b) then let h:=ByteArray.extract x.1 (toNat 1) (toNat b);let e:=(ByteArray.size h:Int);bif decide (e<5) then some (0,false,())else bif decide (e>12) then some (0,false,())else let c:=wrap .i64 (e-4);bif decide (0<=c)&&decide (c<e) then bif a0o h c != 46 then some (0,false,())else let g:=((x.1,ByteArray.extract x.1 (toNat 1) (toNat b),0,0,()),());bif a8Q g then bif a8R g then some (a8S g).1 else let a:=a2c g;bif decide ((ByteArray.size a.1.2.1:Int)<(ByteArray.size a.1.1:Int)) then let d:=wrap .i64 (0-a.1.2.2.1);bif K83 (d,()) then bif !a1a (G83 (d,())).1 a.1.1 then some (0,false,())else some (d,true,())else none else bif K83 a.1.2.2 then bif !a1a (G83 a.1.2.2).1 a.1.1 then some (0,false,())else some (a.1.2.2.1,true,())else none else none else none else none else bif decide (b<5) then some (0,false,())else bif decide (b>12) then some (0,false,())else let c:=wrap .i64 (b-4);bif decide (0<=c)&&decide (c<b) then bif a0o x.1 c != 46 then some (0,false,())else bif a8Q ((x.1,x.1,0,0,()),()) then bif a8R ((x.1,x.1,0,0,()),()) then some (a8S ((x.1,x.1,0,0,()),())).1 else let a:=a2c ((x.1,x.1,0,0,()),());bif decide ((ByteArray.size a.1.2.1:Int)<(ByteArray.size a.1.1:Int)) then let d:=wrap .i64 (0-a.1.2.2.1);bif K83 (d,()) then bif !a1a (G83 (d,())).1 a.1.1 then some (0,false,())else some (d,true,())else none else bif K83 a.1.2.2 then bif !a1a (G83 a.1.2.2).1 a.1.1 then some (0,false,())else some (a.1.2.2.1,true,())else none else none else none else none else bif decide (b<5) then some (0,false,())else bif decide (b>12) then some (0,false,())else let c:=wrap .i64 (b-4);bif decide (0<=c)&&decide (c<b) then bif a0o x.1 c != 46 then some (0,false,())else bif a8Q ((x.1,x.1,0,0,()),()) then bif a8R ((x.1,x.1,0,0,()),()) then some (a8S ((x.1,x.1,0,0,()),())).1 else let a:=a2c ((x.1,x.1,0,0,()),());bif decide ((ByteArray.size a.1.2.1:Int)<(ByteArray.size a.1.1:Int)) then let d:=wrap .i64 (0-a.1.2.2.1);bif K83 (d,()) then bif !a1a (G83 (d,())).1 a.1.1 then some (0,false,())else some (d,true,())else none else bif K83 a.1.2.2 then bif !a1a (G83 a.1.2.2).1 a.1.1 then some (0,false,())else some (a.1.2.2.1,true,())else none else none else none
def e0a (x):=(e6V x).isSome
def c0W (x):=(e6V x).getD (zero e6U)
def g2u:=(207,a0c g0k e6U e0a c0W)
noncomputable def f6m:=gE [m83] Tryz.f207 (lps:=[(8,lmR d6D b0p)])
theorem d1D:EvR f6m (lp Tryz.f207 0) d6D a7i:=fun _ _=>by kernel_rfl
theorem e6W:a0f Tryz.prog g2u:=a0Q (a0L (s1 d8D)) (a1F Tryz.func207 rfl rfl rfl (by kernel_rfl) (a0j (by kernel_rfl) (s1 (lR d1D b9h)))) fun _=>by kernel_rfl
abbrev g0l:Ty:=.cons (.int .i64) (.nil)
abbrev f6n:Ty:=.cons (.flt .f64) (.nil)
def f0p (x:Den g0l):OD f6n:=let a:=(x.1,-1000000000,1000000000,());bif K51 a then bif !(G51 a).1 then some (0,())else some (a0b .quo .f64 (nearest .f64 x.1) 4652007308841189376,())else none
def e0b (x):=(f0p x).isSome
def c6N (x):=(f0p x).getD (zero f6n)
def g2v:=(208,a0c g0l f6n e0b c6N)
theorem e6X:a0f Tryz.prog g2v:=fnE (s1 a4a) Tryz.func208
abbrev g0m:Ty:=.cons (.slice (.str)) (.nil)
abbrev f0q:Ty:=.cons (.flt .f64) (.cons (.flt .f64) (.cons (.bool) (.nil)))
def e2v (x:Den g0m):OD f0q:=let c:=(length x.1:Int);bif c != 3 then some (0,0,false,())else bif decide (0<=1)&&decide (1<c) then let d:=getD x.1 (toNat 1) (zero Ty.str);bif e0a (d,()) then bif decide (0<=2)&&decide (2<c) then let e:=getD x.1 (toNat 2) (zero Ty.str);bif e0a (e,()) then let a:=c0W (d,());bif e0b (a.1,()) then let b:=c0W (e,());bif e0b (b.1,()) then bif a.2.1 then some ((c6N (a.1,())).1,(c6N (b.1,())).1,b.2)else some ((c6N (a.1,())).1,(c6N (b.1,())).1,false,())else none else none else none else none else none else none
def e0c (x):=(e2v x).isSome
def a6v (x):=(e2v x).getD (zero f0q)
def g2w:=(155,a0c g0m f0q e0c a6v)
theorem d6E:a0f Tryz.prog g2w:=fnE (s2 e6W e6X) Tryz.func155
abbrev g0n:Ty:=.cons (.slice (.str)) (.nil)
abbrev f0r:Ty:=.cons (.int .i64) (.nil)
def f0s (x:Den g0n):OD f0r:=bif (length x.1:Int) != 2 then some (-1,())else bif decide (0<=1)&&decide (1<(length x.1:Int)) then let a:=getD x.1 (toNat 1) (zero Ty.str);bif f0o (a,()) then let b:=e6S (a,());bif !b.2.1 then some (-1,())else some (b.1,())else none else none
def e2w (x):=(f0s x).isSome
def c8N (x):=(f0s x).getD (zero f0r)
def g2x:=(151,a0c g0n f0r e2w c8N)
theorem e6Y:a0f Tryz.prog g2x:=fnE (s1 e6T) Tryz.func151
abbrev f6o:Ty:=.cons (.int .i64) (.cons (.int .i64) (.cons (.int .i64) (.nil)))
abbrev f6p:Ty:=.cons (.int .i64) (.nil)
def d6F (x:Den f6o):OD f6p:=bif decide (x.2.2.1<x.2.1) then some (x.2.1,())else bif decide (x.1<x.2.1) then some (x.2.1,())else bif decide (x.1>x.2.2.1) then some (x.2.2)else some (x.1,())
def c1y (x):=(d6F x).isSome
def b1W (x):=(d6F x).getD (zero f6p)
def f6q:=(182,a0c f6o f6p c1y b1W)
theorem c6O:a0f Tryz.prog f6q:=fnE nS Tryz.func182
abbrev g0o:Ty:=.cons (S30) (.cons (.cpx .f64) (.nil))
abbrev f6r:Ty:=.cons (.int .i64) (.nil)
abbrev b9i:Type:=(a4r×Unit×Int×Nat×ty7)×c2L
abbrev d6G:Type:=c9J
def d6H:LX:=⟨[1,2,5,6,7],[],0,[5],[],⟨[(1,om6),(2,om1),(5,om0),(6,om9),(7,om0)],c2M,1,0⟩,⟨[(5,om0)],[],0,0⟩⟩
def b4h (f:b9i->Option (d6G)) (v:b9i):Option (d6G):=bif decide (v.1.2.2.2.2.1<(length v.2.1.1:Int)) then bif decide (0<=v.1.2.2.2.2.1)&&decide (v.1.2.2.2.2.1<(length v.2.1.1:Int)) then let c:=getD v.2.1.1 (toNat v.1.2.2.2.2.1) (zero a1B);let a:=a0b .sub .f64 c.1.1 v.1.1.1;let b:=a0b .sub .f64 c.1.2 v.1.1.2;bif d0c ((a,b),(a,b),()) then bif decide (v.1.2.2.1<0) then f (((v.1.1,(),v.1.2.2.2.2.1,(c8G ((a,b),(a,b),())).1,wrap .i64 (v.1.2.2.2.2.1+1),()),v.2))else let d:=c8G ((a,b),(a,b),());bif flt .f64 d.1 v.1.2.2.2.1 then f (((v.1.1,(),v.1.2.2.2.2.1,d.1,wrap .i64 (v.1.2.2.2.2.1+1),()),v.2))else f (((v.1.1,(),v.1.2.2.1,v.1.2.2.2.1,wrap .i64 (v.1.2.2.2.2.1+1),()),v.2))else none else none else some ((v.1.2.2.1,()),())
def c6P (v:b9i):Nat:=v.1.2.2.1.natAbs+v.1.2.2.2.2.1.natAbs+v.2.1.1.length+v.2.1.2.1.length+1000
def b9j (v:b9i):=a0K b4h (c6P v) v
def c6Q (v):=(b9j v).isSome
def c6R (v):=(b9j v).getD default
def e6Z (x:Den g0o):OD f6r:=bif d8z (x.1,()) then bif !(d8A (x.1,())).1 then some (-1,())else bif K96 x.2 then bif !(G96 x.2).1 then some (-1,())else let a:=((x.2.1,(),-1,0,0,()),x.1,());bif c6Q a then some (c6R a).1 else none else none else none
def f6s (x):=(e6Z x).isSome
def f6t (x):=(e6Z x).getD (zero f6r)
def g2y:=(268,a0c g0o f6r f6s f6t)
noncomputable def f6u:=gE [f2f,m96,f2C] Tryz.f268 (lps:=[(6,lmX d6H b9j)])
theorem d1E:EvX f6u (lp Tryz.f268 0) d6H b4h:=fun _ _=>by kernel_rfl
theorem e7a:a0f Tryz.prog g2y:=a0Q (a0L (s3 c3l b5r c3O)) (a1F Tryz.func268 rfl rfl rfl (by kernel_rfl) (a0j (by kernel_rfl) (s1 (lX d1E c6P)))) fun _=>by kernel_rfl
abbrev g0p:Ty:=.cons (.int .i64) (.cons (.int .i64) (.nil))
abbrev f6v:Ty:=.cons (.int .i64) (.nil)
def f0t (x:Den g0p):OD f6v:=bif decide (x.1>x.2.1) then some (wrap .i64 (x.1-x.2.1),())else some (wrap .i64 (x.2.1-x.1),())
def f0u (x):=(f0t x).isSome
def f0v (x):=(f0t x).getD (zero f6v)
def g0q:=(275,a0c g0p f6v f0u f0v)
theorem e7b:a0f Tryz.prog g0q:=fnE nS Tryz.func275
abbrev g0r:Ty:=.cons (S30) (.cons (.int .i64) (.nil))
abbrev f6w:Ty:=.cons (.int .i64) (.nil)
abbrev b9k:Type:=(Int×d2T)×c2L
abbrev d6I:Type:=c9J
def d6J:LX:=⟨[1,2,5,6],[],0,[5],[],⟨[(1,om0),(2,om1),(5,om0),(6,om0)],c2M,1,0⟩,⟨[(5,om0)],[],0,0⟩⟩
def b4i (f:b9k->Option (d6I)) (v:b9k):Option (d6I):=bif decide (v.1.2.2.2.1<(length v.2.1.2.1:Int)) then bif decide (0<=v.1.2.2.2.1)&&decide (v.1.2.2.2.1<(length v.2.1.2.1:Int)) then let a:=getD v.2.1.2.1 (toNat v.1.2.2.2.1) (zero (Ty.int IntKind.i64));bif f0u (a,v.1.1,()) then bif decide (0<=v.1.2.2.1)&&decide (v.1.2.2.1<(length v.2.1.2.1:Int)) then let b:=getD v.2.1.2.1 (toNat v.1.2.2.1) (zero (Ty.int IntKind.i64));bif f0u (b,v.1.1,()) then bif decide ((f0v (a,v.1.1,())).1<(f0v (b,v.1.1,())).1) then f (((v.1.1,(),v.1.2.2.2.1,wrap .i64 (v.1.2.2.2.1+1),()),v.2))else f (((v.1.1,(),v.1.2.2.1,wrap .i64 (v.1.2.2.2.1+1),()),v.2))else none else none else none else none else some ((v.1.2.2.1,()),())
def c6S (v:b9k):Nat:=v.1.1.natAbs+v.1.2.2.1.natAbs+v.1.2.2.2.1.natAbs+v.2.1.1.length+v.2.1.2.1.length+1000
def b9l (v:b9k):=a0K b4i (c6S v) v
def c6T (v):=(b9l v).isSome
def c6U (v):=(b9l v).getD default
def e7c (x:Den g0r):OD f6w:=bif d8z (x.1,()) then bif !(d8A (x.1,())).1 then some (-1,())else bif K51 (x.2.1,0,10000000,()) then bif !(G51 (x.2.1,0,10000000,())).1 then some (-1,())else let a:=((x.2.1,(),0,1,()),x.1,());bif c6T a then some (c6U a).1 else none else none else none
def f6x (x):=(e7c x).isSome
def f6y (x):=(e7c x).getD (zero f6w)
def g2z:=(269,a0c g0r f6w f6x f6y)
noncomputable def f6z:=gE [f2f,m51,g0q] Tryz.f269 (lps:=[(5,lmX d6J b9l)])
theorem d1F:EvX f6z (lp Tryz.f269 0) d6J b4i:=fun _ _=>by kernel_rfl
theorem e7d:a0f Tryz.prog g2z:=a0Q (a0L (s3 c3l a4a e7b)) (a1F Tryz.func269 rfl rfl rfl (by kernel_rfl) (a0j (by kernel_rfl) (s1 (lX d1F c6S)))) fun _=>by kernel_rfl
abbrev g0s:Ty:=.cons (a1B) (.cons (.int .i64) (.nil))
abbrev f6A:Ty:=.cons (.cpx .f32) (.cons (.bool) (.nil))
def f0w (x:Den g0s):OD f6A:=bif e3A (x.1,()) then bif !(e3B (x.1,())).1 then some ((0,0),false,())else bif c1y (x.2.1,-21600,21600,()) then let b:=wrap .i64 ((b1W (x.2.1,-21600,21600,())).1+21600);bif Int.tmod b 3600==0 then let a:=wrap .i64 (Int.tdiv b 3600);bif decide (0<=a)&&decide (a<(↑13:Int)) then some (getD [x.1.2.1.1,x.1.2.1.2.1,x.1.2.1.2.2.1,x.1.2.1.2.2.2.1,x.1.2.1.2.2.2.2.1,x.1.2.1.2.2.2.2.2.1,x.1.2.1.2.2.2.2.2.2.1,x.1.2.1.2.2.2.2.2.2.2.1,x.1.2.1.2.2.2.2.2.2.2.2.1,x.1.2.1.2.2.2.2.2.2.2.2.2.1,x.1.2.1.2.2.2.2.2.2.2.2.2.2.1,x.1.2.1.2.2.2.2.2.2.2.2.2.2.2.1,x.1.2.1.2.2.2.2.2.2.2.2.2.2.2.2.1] (toNat a) (0,0),true,())else none else let a:=wrap .i64 (Int.tdiv b 3600);bif decide (0<=a)&&decide (a<(↑13:Int)) then let g:=wrap .i64 (a+1);bif decide (0<=g)&&decide (g<(↑13:Int)) then let c:=getD [x.1.2.1.1,x.1.2.1.2.1,x.1.2.1.2.2.1,x.1.2.1.2.2.2.1,x.1.2.1.2.2.2.2.1,x.1.2.1.2.2.2.2.2.1,x.1.2.1.2.2.2.2.2.2.1,x.1.2.1.2.2.2.2.2.2.2.1,x.1.2.1.2.2.2.2.2.2.2.2.1,x.1.2.1.2.2.2.2.2.2.2.2.2.1,x.1.2.1.2.2.2.2.2.2.2.2.2.2.1,x.1.2.1.2.2.2.2.2.2.2.2.2.2.2.1,x.1.2.1.2.2.2.2.2.2.2.2.2.2.2.2.1] (toNat a) (0,0);let d:=getD [x.1.2.1.1,x.1.2.1.2.1,x.1.2.1.2.2.1,x.1.2.1.2.2.2.1,x.1.2.1.2.2.2.2.1,x.1.2.1.2.2.2.2.2.1,x.1.2.1.2.2.2.2.2.2.1,x.1.2.1.2.2.2.2.2.2.2.1,x.1.2.1.2.2.2.2.2.2.2.2.1,x.1.2.1.2.2.2.2.2.2.2.2.2.1,x.1.2.1.2.2.2.2.2.2.2.2.2.2.1,x.1.2.1.2.2.2.2.2.2.2.2.2.2.2.1,x.1.2.1.2.2.2.2.2.2.2.2.2.2.2.2.1] (toNat g) (0,0);let e:=a0b .quo .f32 (nearest .f32 (Int.tmod b 3600)) 1163984896;bif e2c (c.1,d.1,e,()) then bif e2c (c.2,d.2,e,()) then some (((e2d (c.1,d.1,e,())).1,(e2d (c.2,d.2,e,())).1),true,())else none else none else none else none else none else none
def f6B (x):=(f0w x).isSome
def f6C (x):=(f0w x).getD (zero f6A)
def g2A:=(270,a0c g0s f6A f6B f6C)
theorem e7e:a0f Tryz.prog g2A:=fnE (s3 d3h c6O c3R) Tryz.func270
abbrev g0t:Ty:=.cons (S30) (.cons (.cpx .f64) (.cons (.int .i64) (.nil)))
abbrev f6D:Ty:=.cons (.cpx .f32) (.cons (.bool) (.nil))
def f0x (x:Den g0t):OD f6D:=bif f6s (x.1,x.2.1,()) then bif f6x (x.1,x.2.2) then let a:=f6t (x.1,x.2.1,());bif decide (a.1<0) then some ((0,0),false,())else let b:=f6y (x.1,x.2.2);bif decide (b.1<0) then some ((0,0),false,())else bif decide (0<=a.1)&&decide (a.1<(length x.1.1:Int)) then bif decide (0<=b.1)&&decide (b.1<(length x.1.2.1:Int)) then let c:=getD x.1.1 (toNat a.1) (zero a1B);let d:=wrap .i64 (x.2.2.1-(getD x.1.2.1 (toNat b.1) (zero (Ty.int IntKind.i64))));bif f6B (c,d,()) then some (f6C (c,d,()))else none else none else none else none else none
def f0y (x):=(f0x x).isSome
def d1G (x):=(f0x x).getD (zero f6D)
def g0u:=(248,a0c g0t f6D f0y d1G)
theorem e7f:a0f Tryz.prog g0u:=fnE (s3 e7a e7d e7e) Tryz.func248
abbrev g0v:Ty:=.cons (.int .i64) (.cons (.flt .f32) (.cons (.cpx .f32) (.nil)))
abbrev f6E:Ty:=.cons (.cpx .f32) (.cons (.bool) (.nil))
def f0z (x:Den g0v):OD f6E:=bif e2h (x.1,x.2.1,()) then let a:=d8L (x.1,x.2.1,());bif !a.2.1 then some ((0,0),false,())else bif K52 x.2.2 then bif !(G52 x.2.2).1 then some ((0,0),false,())else some ((a0b .add .f32 a.1.1 x.2.2.1.1,a0b .add .f32 a.1.2 x.2.2.1.2),true,())else none else none
def f0A (x):=(f0z x).isSome
def e0d (x):=(f0z x).getD (zero f6E)
def g0w:=(249,a0c g0v f6E f0A e0d)
theorem e7g:a0f Tryz.prog g0w:=fnE (s2 d4b b1l) Tryz.func249
abbrev g0x:Ty:=.cons (.cpx .f64) (.cons (.cpx .f32) (.cons (.int .i64) (.nil)))
abbrev f6F:Ty:=.cons (.cpx .f64) (.cons (.bool) (.nil))
def f0B (x:Den g0x):OD f6F:=bif K96 (x.1,()) then bif !(G96 (x.1,())).1 then some ((0,0),false,())else bif K52 (x.2.1,()) then bif !(G52 (x.2.1,())).1 then some ((0,0),false,())else bif K51 (x.2.2.1,0,100000,()) then bif !(G51 (x.2.2.1,0,100000,())).1 then some ((0,0),false,())else let c:=nearest .f64 x.2.2.1;let a:=a0b .add .f64 x.1.1 (a0b .mul .f64 (a0y .f32 .f64 x.2.1.1).2 c);let b:=a0b .add .f64 x.1.2 (a0b .mul .f64 (a0y .f32 .f64 x.2.1.2).2 c);bif K96 ((a,b),()) then bif !(G96 ((a,b),())).1 then some ((0,0),false,())else some ((a,b),true,())else none else none else none else none
def f0C (x):=(f0B x).isSome
def e7h (x):=(f0B x).getD (zero f6F)
def g0y:=(250,a0c g0x f6F f0C e7h)
theorem e7i:a0f Tryz.prog g0y:=fnE (s3 b5r b1l a4a) Tryz.func250
abbrev g0z:Ty:=.cons (a6c) (.nil)
abbrev f6G:Ty:=.cons (.bool) (.nil)
def f0D (x:Den g0z):OD f6G:=bif fgt .f32 x.1.2.1 0||feq .f32 x.1.2.1 0 then bif flt .f32 x.1.2.1 1112014848||feq .f32 x.1.2.1 1112014848 then bif K51 (x.1.2.2.1,0,100000,()) then some (G51 (x.1.2.2.1,0,100000,()))else none else some (false,())else some (false,())
def f0E (x):=(f0D x).isSome
def f0F (x):=(f0D x).getD (zero f6G)
def g0A:=(267,a0c g0z f6G f0E f0F)
theorem e7j:a0f Tryz.prog g0A:=fnE (s1 a4a) Tryz.func267
abbrev g0B:Ty:=.cons (.slice (a6c)) (.nil)
abbrev f6H:Ty:=.cons (.bool) (.nil)
abbrev b9m:Type:=(e3f×ty7)×Unit
abbrev d6K:Type:=(e3f×Unit)×Unit
abbrev d6L:Type:=a9l
def d6M:LR:=⟨[0,3],[],0,[0],[],⟨[(0,e3g),(3,om0)],[],0,0⟩,⟨[(0,e3g)],[],0,0⟩,⟨a9m,[],0,0⟩⟩
def b4j (f:b9m->Option (d6K⊕d6L)) (v:b9m):Option (d6K⊕d6L):=let a:=v.1.2.1<(length v.1.1:Int);bif decide a then bif decide (0<=v.1.2.1)&&decide a then let b:=getD v.1.1 (toNat v.1.2.1) (zero a6c);bif f0E (b,()) then bif !(f0F (b,())).1 then some (Sum.inr ((false,()),()))else f (((v.1.1,wrap .i64 (v.1.2.1+1),()),()))else none else none else some (Sum.inl ((v.1.1,()),()))
def c6V (v:b9m):Nat:=v.1.1.length+v.1.2.1.natAbs+1000
def a8T (v:b9m):=a0K b4j (c6V v) v
def b5V (v):=(a8T v).isSome
def b5W (v):=isR (a8T v)
def b5X (v):=xOf default (a8T v)
def b5Y (v):=yOf default (a8T v)
def f0G (x:Den g0B):OD f6H:=bif b5V ((x.1,0,()),()) then bif b5W ((x.1,0,()),()) then some (b5Y ((x.1,0,()),())).1 else some (decide ((↑(length (b5X ((x.1,0,()),())).1.1):Int)<=50),())else none
def f0H (x):=(f0G x).isSome
def f0I (x):=(f0G x).getD (zero f6H)
def g0C:=(247,a0c g0B f6H f0H f0I)
noncomputable def f6I:=gE [g0A] Tryz.f247 (lps:=[(2,lmR d6M a8T)])
theorem d1H:EvR f6I (lp Tryz.f247 0) d6M b4j:=fun _ _=>by kernel_rfl
theorem e7k:a0f Tryz.prog g0C:=a0Q (a0L (s1 e7j)) (a1F Tryz.func247 rfl rfl rfl (by kernel_rfl) (a0j (by kernel_rfl) (s1 (lR d1H c6V)))) fun _=>by kernel_rfl
abbrev g0D:Ty:=.cons (.cpx .f64) (.cons (.int .i64) (.cons (.slice (a6c)) (.cons (S30) (.nil))))
abbrev f6J:Ty:=.cons (.cpx .f64) (.cons (.bool) (.nil))
abbrev b9n:Type:=(a4r×Int×e3f×d2T)×c2L
abbrev d6N:Type:=(a4r×Int×e3f×b2X)×c2L
abbrev d6O:Type:=(a4r×c8F)×Unit
def d6P:LR:=⟨[0,1,2,7,10,11],[],2,[0,1,2,7,10],[],⟨[(0,om6),(1,om0),(2,e3g),(7,om1),(10,om0),(11,om0)],c2M,1,0⟩,⟨[(0,om6),(1,om0),(2,e3g),(7,om1),(10,om0)],c2M,1,0⟩,⟨[(8,om6),(9,om4)],[],0,0⟩⟩
def b4k (f:b9n->Option (d6N⊕d6O)) (v:b9n):Option (d6N⊕d6O):=bif decide (v.1.2.2.2.2.2.1>0) then let e:=(v.1.2.2.2.2.2.1,0,600,());bif c1y e then bif f0y (v.2.1,v.1.1,v.1.2.1,()) then let c:=d1G (v.2.1,v.1.1,v.1.2.1,());bif !c.2.1 then some (Sum.inr (((0,0),false,()),()))else let g:=decide (0<=v.1.2.2.2.2.1)&&decide (v.1.2.2.2.2.1<(length v.1.2.2.1:Int));bif g then bif g then let a:=getD v.1.2.2.1 (toNat v.1.2.2.2.2.1) (zero a6c);bif f0A (a.1,a.2.1,c.1,()) then let d:=e0d (a.1,a.2.1,c.1,());bif !d.2.1 then some (Sum.inr (((0,0),false,()),()))else let b:=b1W e;bif f0C (v.1.1,d.1,b) then let h:=e7h (v.1.1,d.1,b);bif !h.2.1 then some (Sum.inr (((0,0),false,()),()))else f (((h.1,wrap .i64 (v.1.2.1+b.1),v.1.2.2.1,(),v.1.2.2.2.2.1,wrap .i64 (v.1.2.2.2.2.2.1-b.1),()),v.2))else none else none else none else none else none else none else some (Sum.inl ((v.1.1,v.1.2.1,v.1.2.2.1,(),v.1.2.2.2.2.1,()),v.2))
def b9o (v:b9n):Nat:=v.1.2.1.natAbs+v.1.2.2.1.length+v.1.2.2.2.2.1.natAbs+v.1.2.2.2.2.2.1.natAbs+v.2.1.1.length+v.2.1.2.1.length+1000
def b0q (v:b9n):=a0K b4k (b9o v) v
def b5Z (v):=(b0q v).isSome
def b6a (v):=isR (b0q v)
def a4B (v):=xOf default (b0q v)
def b6b (v):=yOf default (b0q v)
abbrev b9p:Type:=(a4r×Int×e3f×b2X)×c2L
abbrev c6W:Type:=(a4r×Unit)×Unit
abbrev c6X:Type:=(a4r×c8F)×Unit
def d6Q:LR:=⟨[0,1,2,7,10],[],0,[0],[],⟨[(0,om6),(1,om0),(2,e3g),(7,om1),(10,om0)],c2M,1,0⟩,⟨[(0,om6)],[],0,0⟩,⟨[(8,om6),(9,om4)],[],0,0⟩⟩
def c6Y (f:b9p->Option (c6W⊕c6X)) (v:b9p):Option (c6W⊕c6X):=let c:=v.1.2.2.2.2.1<(length v.1.2.2.1:Int);bif decide c then bif decide (0<=v.1.2.2.2.2.1)&&decide c then let d:=getD v.1.2.2.1 (toNat v.1.2.2.2.2.1) (zero a6c);let b:=((v.1.1,v.1.2.1,v.1.2.2.1,(),v.1.2.2.2.2.1,d.2.2),v.2);bif b5Z b then bif b6a b then some (Sum.inr (b6b b))else let a:=a4B b;f (((a.1.1,a.1.2.1,a.1.2.2.1,(),wrap .i64 (a.1.2.2.2.2.1+1),()),a.2))else none else none else some (Sum.inl ((v.1.1,()),()))
def b4l (v:b9p):Nat:=v.1.2.1.natAbs+v.1.2.2.1.length+v.1.2.2.2.2.1.natAbs+v.2.1.1.length+v.2.1.2.1.length+1000
def a8U (v:b9p):=a0K c6Y (b4l v) v
def b6c (v):=(a8U v).isSome
def b6d (v):=isR (a8U v)
def b6e (v):=xOf default (a8U v)
def b6f (v):=yOf default (a8U v)
def e7l (x:Den g0D):OD f6J:=bif K96 (x.1,()) then bif !(G96 (x.1,())).1 then some ((0,0),false,())else bif f0H (x.2.2.1,()) then bif !(f0I (x.2.2.1,())).1 then some ((0,0),false,())else let a:=((x.1,x.2.1,x.2.2.1,(),0,()),x.2.2.2);bif b6c a then bif b6d a then some (b6f a).1 else some ((b6e a).1.1,true,())else none else none else none
def e7m (x):=(e7l x).isSome
def d1I (x):=(e7l x).getD (zero f6J)
def g2B:=(209,a0c g0D f6J e7m d1I)
noncomputable def e7n:=gE [m96,g0C,f6q,g0u,g0w,g0y] Tryz.f209 (lps:=[(4,lmR d6Q a8U),(7,lmR d6P b0q)])
theorem d1J:EvR e7n (lp Tryz.f209 0) d6Q c6Y:=fun _ _=>by kernel_rfl
theorem d1K:EvR e7n (lp Tryz.f209 1) d6P b4k:=fun _ _=>by kernel_rfl
theorem e7o:a0f Tryz.prog g2B:=a0Q (a0L (s6 b5r e7k c6O e7f e7g e7i)) (a1F Tryz.func209 rfl rfl rfl (by kernel_rfl) (a0j (by kernel_rfl) (s2 (lR d1J b4l) (lR d1K b9o)))) fun _=>by kernel_rfl
abbrev g0E:Ty:=.cons (S46) (.nil)
abbrev f0J:Ty:=.cons (S46) (.nil)
def f0K (x:Den g0E):OD f0J:=bif decide (x.1.2.2.2.2.2.1<0) then some (x)else bif K54 x then let a:=G54 x;bif !a.2.1 then some ((x.1.1,x.1.2.1,x.1.2.2.1,x.1.2.2.2.1,x.1.2.2.2.2.1,-1,x.1.2.2.2.2.2.2),())else let b:=(x.1.1.2.2.1,x.1.2.2.2.2.2.1,a.1,());bif f0h b then some ((x.1.1,x.1.2.1,x.1.2.2.1,x.1.2.2.2.1,x.1.2.2.2.2.1,(f0i b).1,x.1.2.2.2.2.2.2),())else none else none
def c8O (x):=(f0K x).isSome
def c8P (x):=(f0K x).getD (zero f0J)
def g2C:=(152,a0c g0E f0J c8O c8P)
theorem d6R:a0f Tryz.prog g2C:=fnE (s2 d8M e6O) Tryz.func152
abbrev A87:Ty:=.cons (.str) (.nil)
abbrev R87:Ty:=.cons (.slice (.str)) (.cons (.bool) (.nil))
abbrev d1L:Type:=(b2W×d2T)×d2R
abbrev e7p:Type:=a5r×d2R
abbrev e7q:Type:=(d8q×c8F)×Unit
def e7r:LR:=⟨[0,4,5,6],[],0,[4],[],⟨[(0,om5),(4,on0),(5,om0),(6,om0)],[(0,.arr (.str))],1,0⟩,⟨[(4,on0)],[(0,.arr (.str))],1,0⟩,⟨[(2,e3h),(3,om4)],[],0,0⟩⟩
def a5x (f:d1L->Option (e7p⊕e7q)) (v:d1L):Option (e7p⊕e7q):=bif decide (v.1.2.2.2.1<=(ByteArray.size v.1.1:Int)) then bif decide (v.1.2.2.2.1<(ByteArray.size v.1.1:Int)) then bif decide (0<=v.1.2.2.2.1)&&decide (v.1.2.2.2.1<(ByteArray.size v.1.1:Int)) then bif decide (a0o v.1.1 v.1.2.2.2.1<32) then some (Sum.inr ((replicate 0 (zero Ty.str),false,()),()))else bif decide (0<=v.1.2.2.2.1)&&decide (v.1.2.2.2.1<(ByteArray.size v.1.1:Int)) then bif decide (a0o v.1.1 v.1.2.2.2.1>126) then some (Sum.inr ((replicate 0 (zero Ty.str),false,()),()))else bif decide (v.1.2.2.2.1<(ByteArray.size v.1.1:Int)) then bif decide (0<=v.1.2.2.2.1)&&decide (v.1.2.2.2.1<(ByteArray.size v.1.1:Int)) then bif a0o v.1.1 v.1.2.2.2.1 != 32 then f (((v.1.1,(),v.1.2.2.1,wrap .i64 (v.1.2.2.2.1+1),()),v.2))else bif decide (v.1.2.2.1<v.1.2.2.2.1) then bif decide (0<=v.1.2.2.1)&&decide (v.1.2.2.1<=v.1.2.2.2.1)&&decide (v.1.2.2.2.1<=(ByteArray.size v.1.1:Int)) then let a:=set (replicate 1 (zero Ty.str)) 0 (ByteArray.extract v.1.1 (toNat v.1.2.2.1) (toNat v.1.2.2.2.1));bif a0n (length v.2.1+length a) then let b:=wrap .i64 (v.1.2.2.2.1+1);f (((v.1.1,(),b,b,()),v.2.1++a,()))else none else none else let a:=wrap .i64 (v.1.2.2.2.1+1);f (((v.1.1,(),a,a,()),v.2))else none else bif decide (v.1.2.2.1<v.1.2.2.2.1) then bif decide (0<=v.1.2.2.1)&&decide (v.1.2.2.1<=v.1.2.2.2.1)&&decide (v.1.2.2.2.1<=(ByteArray.size v.1.1:Int)) then let a:=set (replicate 1 (zero Ty.str)) 0 (ByteArray.extract v.1.1 (toNat v.1.2.2.1) (toNat v.1.2.2.2.1));bif a0n (length v.2.1+length a) then let b:=wrap .i64 (v.1.2.2.2.1+1);f (((v.1.1,(),b,b,()),v.2.1++a,()))else none else none else let a:=wrap .i64 (v.1.2.2.2.1+1);f (((v.1.1,(),a,a,()),v.2))else none else none else bif decide (v.1.2.2.2.1<(ByteArray.size v.1.1:Int)) then bif decide (0<=v.1.2.2.2.1)&&decide (v.1.2.2.2.1<(ByteArray.size v.1.1:Int)) then bif a0o v.1.1 v.1.2.2.2.1 != 32 then f (((v.1.1,(),v.1.2.2.1,wrap .i64 (v.1.2.2.2.1+1),()),v.2))else bif decide (v.1.2.2.1<v.1.2.2.2.1) then bif decide (0<=v.1.2.2.1)&&decide (v.1.2.2.1<=v.1.2.2.2.1)&&decide (v.1.2.2.2.1<=(ByteArray.size v.1.1:Int)) then let a:=set (replicate 1 (zero Ty.str)) 0 (ByteArray.extract v.1.1 (toNat v.1.2.2.1) (toNat v.1.2.2.2.1));bif a0n (length v.2.1+length a) then let b:=wrap .i64 (v.1.2.2.2.1+1);f (((v.1.1,(),b,b,()),v.2.1++a,()))else none else none else let a:=wrap .i64 (v.1.2.2.2.1+1);f (((v.1.1,(),a,a,()),v.2))else none else bif decide (v.1.2.2.1<v.1.2.2.2.1) then bif decide (0<=v.1.2.2.1)&&decide (v.1.2.2.1<=v.1.2.2.2.1)&&decide (v.1.2.2.2.1<=(ByteArray.size v.1.1:Int)) then let a:=set (replicate 1 (zero Ty.str)) 0 (ByteArray.extract v.1.1 (toNat v.1.2.2.1) (toNat v.1.2.2.2.1));bif a0n (length v.2.1+length a) then let b:=wrap .i64 (v.1.2.2.2.1+1);f (((v.1.1,(),b,b,()),v.2.1++a,()))else none else none else let a:=wrap .i64 (v.1.2.2.2.1+1);f (((v.1.1,(),a,a,()),v.2))else some (Sum.inl (((),()),v.2))
def d1M (v:d1L):Nat:=v.1.1.size+v.1.2.2.1.natAbs+v.1.2.2.2.1.natAbs+v.2.1.length+1000
def c0X (v:d1L):=a0K a5x (d1M v) v
def d6S (v):=(c0X v).isSome
def d6T (v):=isR (c0X v)
def d6U (v):=xOf default (c0X v)
def d6V (v):=yOf default (c0X v)
def F87 (x:Den A87):OD R87:=bif decide ((ByteArray.size x.1:Int)>600) then some (replicate 0 (zero Ty.str),false,())else let a:=((x.1,(),0,0,()),replicate 0 (zero Ty.str),());bif d6S a then bif d6T a then some (d6V a).1 else let b:=d6U a;bif decide ((length b.2.1:Int)>24) then some (replicate 0 (zero Ty.str),false,())else some (b.2.1,true,())else none
def K87 (x):=(F87 x).isSome
def G87 (x):=(F87 x).getD (zero R87)
def m87:=(87,a0c A87 R87 K87 G87)
noncomputable def g2D:=gE [] Tryz.f87 (lps:=[(6,lmR e7r c0X)]) (rown:=[.frz 2])
theorem e0e:EvR g2D (lp Tryz.f87 0) e7r a5x:=fun _ _=>by kernel_rfl
theorem f6K:a0f Tryz.prog m87:=a0Q (a0L nS) (a1F Tryz.func87 rfl rfl rfl (by kernel_rfl) (a0j (by kernel_rfl) (s1 (lR e0e d1M)))) fun _=>by kernel_rfl
abbrev g0F:Ty:=.cons (S46) (.cons (.slice (.str)) (.nil))
abbrev f0L:Ty:=.cons (S46) (.cons (.bool) (.nil))
def f0M (x:Den g0F):OD f0L:=bif e0c x.2 then let a:=a6v x.2;let d:=a0y .f64 .f32 a.1;bif d.1 then let e:=a0y .f64 .f32 a.2.1;bif e.1 then bif !a.2.2.1 then some (x.1,false,())else let b:=(d.2,e.2);let g:=K52 (b,());bif g then let h:=G52 (b,());bif !h.1 then some (x.1,false,())else bif !(feq .f32 x.1.2.2.2.2.1.1 0&&feq .f32 x.1.2.2.2.2.1.2 0) then let i:=(x.1.2.2.2.2.1,b,1056964608,());bif f0m i then let c:=d6w i;bif !c.2.1 then some (x.1,false,())else bif K52 (c.1,()) then bif !(G52 (c.1,())).1 then some (x.1,false,())else let j:=((x.1.1,x.1.2.1,x.1.2.2.1,x.1.2.2.2.1,c.1,x.1.2.2.2.2.2),());bif c8O j then some ((c8P j).1,true,())else none else none else none else bif !a.2.2.1 then some (x.1,false,())else bif g then bif !h.1 then some (x.1,false,())else let k:=((x.1.1,x.1.2.1,x.1.2.2.1,x.1.2.2.2.1,b,x.1.2.2.2.2.2),());bif c8O k then some ((c8P k).1,true,())else none else none else none else none else none else none
def f0N (x):=(f0M x).isSome
def f0O (x):=(f0M x).getD (zero f0L)
def g2E:=(153,a0c g0F f0L f0N f0O)
theorem e7s:a0f Tryz.prog g2E:=fnE (s4 d6E b1l e6R d6R) Tryz.func153
abbrev g0G:Ty:=.cons (S46) (.cons (.slice (.str)) (.nil))
abbrev e2x:Ty:=.cons (S46) (.cons (.bool) (.nil))
abbrev b9q:Type:=(d8q×Unit×Unit×Unit×Bool×ty7)×ty0×ty3×(Nat×ty7)×Unit
abbrev c6Z:Type:=ty5×ty0×ty3×Unit
abbrev c7a:Type:=(Unit×c8F)×ty0×Unit
def d6W:LR:=⟨[1,2,4,6,7,8],[],0,[2,4],[],⟨[(1,e3h),(2,om1),(4,om2),(6,om3),(7,om4),(8,om0)],[(0,bx7),(1,bx4),(2,.box [.flt .f32,.int .i64])],3,0⟩,⟨[(2,om1),(4,om2)],[(0,bx7),(1,bx4)],2,0⟩,⟨[(4,om1),(5,om4)],[(0,bx7)],1,0⟩⟩
def b4m (f:b9q->Option (c6Z⊕c7a)) (v:b9q):Option (c6Z⊕c7a):=let b:=v.1.2.2.2.2.2.1<(length v.2.1.2.2.2.2.2.1:Int);bif decide b then let c:=decide (0<=v.1.2.2.2.2.2.1)&&decide b;bif c then bif decide (0<=1)&&decide (1<(length v.1.1:Int)) then let a:=getD v.2.1.2.2.2.2.2.1 (toNat v.1.2.2.2.2.2.1) (zero S68);bif a1a a.1 (getD v.1.1 (toNat 1) (zero Ty.str)) then bif v.1.2.2.2.2.1 then bif c then bif e2t (a,v.2.2.2) then bif (e2u (a,v.2.2.2)).1 then some (Sum.inr (((),true,()),(v.2.1.1,v.2.1.2.1,v.2.1.2.2.1,v.2.1.2.2.2.1,v.2.1.2.2.2.2.1,v.2.1.2.2.2.2.2.1,v.2.1.2.2.2.2.2.2.1,v.2.1.2.2.2.2.2.2.2.1,v.2.1.2.2.2.2.2.2.2.2.1,v.2.1.2.2.2.2.2.2.2.2.2.1,v.2.1.2.2.2.2.2.2.2.2.2.2.1,v.2.1.2.2.2.2.2.2.2.2.2.2.2.1,v.2.1.2.2.2.2.2.2.2.2.2.2.2.2.1,v.2.1.2.2.2.2.2.2.2.2.2.2.2.2.2.1,v.2.1.2.2.2.2.2.2.2.2.2.2.2.2.2.2.1,v.2.1.2.2.2.2.2.2.2.2.2.2.2.2.2.2.2.1,v.2.1.2.2.2.2.2.2.2.2.2.2.2.2.2.2.2.2.1,v.2.1.2.2.2.2.2.2.2.2.2.2.2.2.2.2.2.2.2.1,v.2.1.2.2.2.2.2.2.2.2.2.2.2.2.2.2.2.2.2.2.1,v.1.2.2.2.2.2.1,v.2.1.2.2.2.2.2.2.2.2.2.2.2.2.2.2.2.2.2.2.2.2),()))else f (((v.1.1,(),(),(),v.1.2.2.2.2.1,wrap .i64 (v.1.2.2.2.2.2.1+1),()),v.2.1,((),(),(),(),(),(),v.2.2.1.2.2.2.2.2.2.1,v.2.2.1.2.2.2.2.2.2.2.1,v.2.2.1.2.2.2.2.2.2.2.2.1,v.2.2.1.2.2.2.2.2.2.2.2.2.1,(),v.2.2.1.2.2.2.2.2.2.2.2.2.2.2.1,v.2.2.1.2.2.2.2.2.2.2.2.2.2.2.2.1,v.2.2.1.2.2.2.2.2.2.2.2.2.2.2.2.2.1,v.2.2.1.2.2.2.2.2.2.2.2.2.2.2.2.2.2.1,v.2.2.1.2.2.2.2.2.2.2.2.2.2.2.2.2.2.2.1,v.2.2.1.2.2.2.2.2.2.2.2.2.2.2.2.2.2.2.2.1,v.2.2.1.2.2.2.2.2.2.2.2.2.2.2.2.2.2.2.2.2.1,v.2.2.1.2.2.2.2.2.2.2.2.2.2.2.2.2.2.2.2.2.2.1,v.2.2.1.2.2.2.2.2.2.2.2.2.2.2.2.2.2.2.2.2.2.2.1,(),(),()),v.2.2.2))else none else none else f (((v.1.1,(),(),(),v.1.2.2.2.2.1,wrap .i64 (v.1.2.2.2.2.2.1+1),()),v.2.1,((),(),(),(),(),(),v.2.2.1.2.2.2.2.2.2.1,v.2.2.1.2.2.2.2.2.2.2.1,v.2.2.1.2.2.2.2.2.2.2.2.1,v.2.2.1.2.2.2.2.2.2.2.2.2.1,(),v.2.2.1.2.2.2.2.2.2.2.2.2.2.2.1,v.2.2.1.2.2.2.2.2.2.2.2.2.2.2.2.1,v.2.2.1.2.2.2.2.2.2.2.2.2.2.2.2.2.1,v.2.2.1.2.2.2.2.2.2.2.2.2.2.2.2.2.2.1,v.2.2.1.2.2.2.2.2.2.2.2.2.2.2.2.2.2.2.1,v.2.2.1.2.2.2.2.2.2.2.2.2.2.2.2.2.2.2.2.1,v.2.2.1.2.2.2.2.2.2.2.2.2.2.2.2.2.2.2.2.2.1,v.2.2.1.2.2.2.2.2.2.2.2.2.2.2.2.2.2.2.2.2.2.1,v.2.2.1.2.2.2.2.2.2.2.2.2.2.2.2.2.2.2.2.2.2.2.1,(),(),()),v.2.2.2))else f (((v.1.1,(),(),(),v.1.2.2.2.2.1,wrap .i64 (v.1.2.2.2.2.2.1+1),()),v.2.1,((),(),(),(),(),(),v.2.2.1.2.2.2.2.2.2.1,v.2.2.1.2.2.2.2.2.2.2.1,v.2.2.1.2.2.2.2.2.2.2.2.1,v.2.2.1.2.2.2.2.2.2.2.2.2.1,(),v.2.2.1.2.2.2.2.2.2.2.2.2.2.2.1,v.2.2.1.2.2.2.2.2.2.2.2.2.2.2.2.1,v.2.2.1.2.2.2.2.2.2.2.2.2.2.2.2.2.1,v.2.2.1.2.2.2.2.2.2.2.2.2.2.2.2.2.2.1,v.2.2.1.2.2.2.2.2.2.2.2.2.2.2.2.2.2.2.1,v.2.2.1.2.2.2.2.2.2.2.2.2.2.2.2.2.2.2.2.1,v.2.2.1.2.2.2.2.2.2.2.2.2.2.2.2.2.2.2.2.2.1,v.2.2.1.2.2.2.2.2.2.2.2.2.2.2.2.2.2.2.2.2.2.1,v.2.2.1.2.2.2.2.2.2.2.2.2.2.2.2.2.2.2.2.2.2.2.1,(),(),()),v.2.2.2))else none else none else some (Sum.inl (((),(),()),v.2.1,((),(),(),(),(),(),v.2.2.1.2.2.2.2.2.2.1,v.2.2.1.2.2.2.2.2.2.2.1,v.2.2.1.2.2.2.2.2.2.2.2.1,v.2.2.1.2.2.2.2.2.2.2.2.2.1,(),v.2.2.1.2.2.2.2.2.2.2.2.2.2.2.1,v.2.2.1.2.2.2.2.2.2.2.2.2.2.2.2.1,v.2.2.1.2.2.2.2.2.2.2.2.2.2.2.2.2.1,v.2.2.1.2.2.2.2.2.2.2.2.2.2.2.2.2.2.1,v.2.2.1.2.2.2.2.2.2.2.2.2.2.2.2.2.2.2.1,v.2.2.1.2.2.2.2.2.2.2.2.2.2.2.2.2.2.2.2.1,v.2.2.1.2.2.2.2.2.2.2.2.2.2.2.2.2.2.2.2.2.1,v.2.2.1.2.2.2.2.2.2.2.2.2.2.2.2.2.2.2.2.2.2.1,v.2.2.1.2.2.2.2.2.2.2.2.2.2.2.2.2.2.2.2.2.2.2.1,(),(),()),()))
def b9r (v:b9q):Nat:=v.1.1.length+v.1.2.2.2.2.2.1.natAbs+v.2.1.1.length+v.2.1.2.1.length+v.2.1.2.2.1.length+v.2.1.2.2.2.1.length+v.2.1.2.2.2.2.1.length+v.2.1.2.2.2.2.2.1.length+v.2.1.2.2.2.2.2.2.1.natAbs+v.2.1.2.2.2.2.2.2.2.1.natAbs+v.2.1.2.2.2.2.2.2.2.2.1.natAbs+v.2.1.2.2.2.2.2.2.2.2.2.1.natAbs+v.2.1.2.2.2.2.2.2.2.2.2.2.1.length+v.2.1.2.2.2.2.2.2.2.2.2.2.2.1.natAbs+v.2.1.2.2.2.2.2.2.2.2.2.2.2.2.1.natAbs+v.2.1.2.2.2.2.2.2.2.2.2.2.2.2.2.1.natAbs+v.2.1.2.2.2.2.2.2.2.2.2.2.2.2.2.2.1.natAbs+v.2.1.2.2.2.2.2.2.2.2.2.2.2.2.2.2.2.1.natAbs+v.2.1.2.2.2.2.2.2.2.2.2.2.2.2.2.2.2.2.2.1.natAbs+v.2.1.2.2.2.2.2.2.2.2.2.2.2.2.2.2.2.2.2.2.2.1.natAbs+v.2.1.2.2.2.2.2.2.2.2.2.2.2.2.2.2.2.2.2.2.2.2.1.length+v.2.1.2.2.2.2.2.2.2.2.2.2.2.2.2.2.2.2.2.2.2.2.2.1.length+v.2.2.1.2.2.2.2.2.2.1.natAbs+v.2.2.1.2.2.2.2.2.2.2.1.natAbs+v.2.2.1.2.2.2.2.2.2.2.2.1.natAbs+v.2.2.1.2.2.2.2.2.2.2.2.2.1.natAbs+v.2.2.1.2.2.2.2.2.2.2.2.2.2.2.1.natAbs+v.2.2.1.2.2.2.2.2.2.2.2.2.2.2.2.1.natAbs+v.2.2.1.2.2.2.2.2.2.2.2.2.2.2.2.2.1.natAbs+v.2.2.1.2.2.2.2.2.2.2.2.2.2.2.2.2.2.1.natAbs+v.2.2.1.2.2.2.2.2.2.2.2.2.2.2.2.2.2.2.1.natAbs+v.2.2.1.2.2.2.2.2.2.2.2.2.2.2.2.2.2.2.2.2.1.natAbs+v.2.2.1.2.2.2.2.2.2.2.2.2.2.2.2.2.2.2.2.2.2.2.1.natAbs+v.2.2.2.1.2.1.natAbs+1000
def b0r (v:b9q):=a0K b4m (b9r v) v
def b6g (v):=(b0r v).isSome
def b6h (v):=isR (b0r v)
def b6i (v):=xOf (((),((),())),(([],([],([],([],([],([],(0,(0,(0,(0,([],(0,(0,(0,(0,(0,((0,0),(0,((0,0),(0,([],([],())))))))))))))))))))))),(((),((),((),((),((),((),(0,(0,(0,(0,((),(0,(0,(0,(0,(0,((0,0),(0,((0,0),(0,((),((),())))))))))))))))))))))),()))) (b0r v)
def b6j (v):=yOf default (b0r v)
def f0P (x:Den g0G):OD e2x:=bif (length x.2.1:Int) != 2 then some (x.1,false,())else bif decide (0<=1)&&decide (1<(length x.2.1:Int)) then bif a1a (getD x.2.1 (toNat 1) (zero Ty.str)) { data:=#[110,111,110,101] } then some ((x.1.1,x.1.2.1,x.1.2.2.1,x.1.2.2.2.1,x.1.2.2.2.2.1,-1,x.1.2.2.2.2.2.2),true,())else bif K54 (x.1,()) then let b:=G54 (x.1,());bif b6g ((x.2.1,(),(),(),b.2.1,0,()),(x.1.1.1.1,x.1.1.1.2.1,x.1.1.1.2.2.1,x.1.1.2.1.1,x.1.1.2.1.2.1,x.1.1.2.2.1,x.1.1.2.2.2.1.1.1.1,x.1.1.2.2.2.1.1.1.2.1,x.1.1.2.2.2.1.1.2.1.1,x.1.1.2.2.2.1.1.2.1.2.1,x.1.1.2.2.2.1.2.1,x.1.1.2.2.2.1.2.2.1.1.1,x.1.1.2.2.2.1.2.2.1.1.2.1,x.1.1.2.2.2.1.2.2.1.2.1.1,x.1.1.2.2.2.1.2.2.1.2.1.2.1,x.1.2),((),(),(),(),(),(),0,0,0,0,(),0,0,0,0,0,(0,0),0,(0,0),0,(),(),()),b.1,()) then bif b6h ((x.2.1,(),(),(),b.2.1,0,()),(x.1.1.1.1,x.1.1.1.2.1,x.1.1.1.2.2.1,x.1.1.2.1.1,x.1.1.2.1.2.1,x.1.1.2.2.1,x.1.1.2.2.2.1.1.1.1,x.1.1.2.2.2.1.1.1.2.1,x.1.1.2.2.2.1.1.2.1.1,x.1.1.2.2.2.1.1.2.1.2.1,x.1.1.2.2.2.1.2.1,x.1.1.2.2.2.1.2.2.1.1.1,x.1.1.2.2.2.1.2.2.1.1.2.1,x.1.1.2.2.2.1.2.2.1.2.1.1,x.1.1.2.2.2.1.2.2.1.2.1.2.1,x.1.2),((),(),(),(),(),(),0,0,0,0,(),0,0,0,0,0,(0,0),0,(0,0),0,(),(),()),b.1,()) then let a:=b6j ((x.2.1,(),(),(),b.2.1,0,()),(x.1.1.1.1,x.1.1.1.2.1,x.1.1.1.2.2.1,x.1.1.2.1.1,x.1.1.2.1.2.1,x.1.1.2.2.1,x.1.1.2.2.2.1.1.1.1,x.1.1.2.2.2.1.1.1.2.1,x.1.1.2.2.2.1.1.2.1.1,x.1.1.2.2.2.1.1.2.1.2.1,x.1.1.2.2.2.1.2.1,x.1.1.2.2.2.1.2.2.1.1.1,x.1.1.2.2.2.1.2.2.1.1.2.1,x.1.1.2.2.2.1.2.2.1.2.1.1,x.1.1.2.2.2.1.2.2.1.2.1.2.1,x.1.2),((),(),(),(),(),(),0,0,0,0,(),0,0,0,0,0,(0,0),0,(0,0),0,(),(),()),b.1,());some ((((a.2.1.1,a.2.1.2.1,a.2.1.2.2.1,()),(a.2.1.2.2.2.1,a.2.1.2.2.2.2.1,()),a.2.1.2.2.2.2.2.1,(((a.2.1.2.2.2.2.2.2.1,a.2.1.2.2.2.2.2.2.2.1,()),(a.2.1.2.2.2.2.2.2.2.2.1,a.2.1.2.2.2.2.2.2.2.2.2.1,()),()),a.2.1.2.2.2.2.2.2.2.2.2.2.1,((a.2.1.2.2.2.2.2.2.2.2.2.2.2.1,a.2.1.2.2.2.2.2.2.2.2.2.2.2.2.1,()),(a.2.1.2.2.2.2.2.2.2.2.2.2.2.2.2.1,a.2.1.2.2.2.2.2.2.2.2.2.2.2.2.2.2.1,()),()),()),()),a.2.1.2.2.2.2.2.2.2.2.2.2.2.2.2.2.2),a.1.2)else let a:=b6i ((x.2.1,(),(),(),b.2.1,0,()),(x.1.1.1.1,x.1.1.1.2.1,x.1.1.1.2.2.1,x.1.1.2.1.1,x.1.1.2.1.2.1,x.1.1.2.2.1,x.1.1.2.2.2.1.1.1.1,x.1.1.2.2.2.1.1.1.2.1,x.1.1.2.2.2.1.1.2.1.1,x.1.1.2.2.2.1.1.2.1.2.1,x.1.1.2.2.2.1.2.1,x.1.1.2.2.2.1.2.2.1.1.1,x.1.1.2.2.2.1.2.2.1.1.2.1,x.1.1.2.2.2.1.2.2.1.2.1.1,x.1.1.2.2.2.1.2.2.1.2.1.2.1,x.1.2),((),(),(),(),(),(),0,0,0,0,(),0,0,0,0,0,(0,0),0,(0,0),0,(),(),()),b.1,());some ((((a.2.1.1,a.2.1.2.1,a.2.1.2.2.1,()),(a.2.1.2.2.2.1,a.2.1.2.2.2.2.1,()),a.2.1.2.2.2.2.2.1,(((a.2.1.2.2.2.2.2.2.1,a.2.1.2.2.2.2.2.2.2.1,()),(a.2.1.2.2.2.2.2.2.2.2.1,a.2.1.2.2.2.2.2.2.2.2.2.1,()),()),a.2.1.2.2.2.2.2.2.2.2.2.2.1,((a.2.1.2.2.2.2.2.2.2.2.2.2.2.1,a.2.1.2.2.2.2.2.2.2.2.2.2.2.2.1,()),(a.2.1.2.2.2.2.2.2.2.2.2.2.2.2.2.1,a.2.1.2.2.2.2.2.2.2.2.2.2.2.2.2.2.1,()),()),()),()),a.2.1.2.2.2.2.2.2.2.2.2.2.2.2.2.2.2),false,())else none else none else none
def f0Q (x):=(f0P x).isSome
def f0R (x):=(f0P x).getD (zero e2x)
def g2F:=(154,a0c g0G e2x f0Q f0R)
noncomputable def f6L:=gE [m54,f5Y] Tryz.f154 (lps:=[(8,lmR d6W b0r)])
theorem d1N:EvR f6L (lp Tryz.f154 0) d6W b4m:=fun _ _=>by kernel_rfl
theorem e7t:a0f Tryz.prog g2F:=a0Q (a0L (s2 d8M d6s)) (a1F Tryz.func154 rfl rfl rfl (by kernel_rfl) (a0j (by kernel_rfl) (s1 (lR d1N b9r)))) fun _=>by kernel_rfl
abbrev g0H:Ty:=.cons (S46) (.cons (.int .i64) (.nil))
abbrev f0S:Ty:=.cons (S46) (.cons (.bool) (.nil))
def f0T (x:Den g0H):OD f0S:=bif K51 (x.2.1,1,3600,()) then bif !(G51 (x.2.1,1,3600,())).1 then some (x.1,false,())else let c:=wrap .i64 (x.1.2.1+x.2.1);bif decide (c>10000000) then some (x.1,false,())else bif decide ((length x.1.2.2.2.2.2.2.1:Int) ≥ 200) then some (x.1,false,())else bif decide (x.1.2.2.2.2.2.1 ≥ 0) then bif e2g (x.1,()) then let b:=set (replicate 1 (zero a6c)) 0 (x.1.2.2.2.1,(d3X (x.1,())).1,x.2);let h:=(x.1.2.2.1,x.1.2.1,b,x.1.1.2.1,());bif e7m h then let a:=d1I h;bif K49 (a.1,()) then bif !a.2.1 then some (x.1,false,())else let d:=G49 (a.1,());bif !d.2.1 then some (x.1,false,())else bif a0n (length (replicate 0 (zero S97))+length x.1.2.2.2.2.2.2.1) then let e:=replicate 0 (zero S97)++x.1.2.2.2.2.2.2.1;let g:=set (replicate 1 (zero S97)) 0 (d.1,c,());bif a0n (length e+length g) then some ((x.1.1,c,a.1,x.1.2.2.2.1,x.1.2.2.2.2.1,x.1.2.2.2.2.2.1,e++g,x.1.2.2.2.2.2.2.2),true,())else none else none else none else none else none else let k:=set (replicate 1 (zero a6c)) 0 (x.1.2.2.2.1,0,x.2);let i:=(x.1.2.2.1,x.1.2.1,k,x.1.1.2.1,());bif e7m i then let b:=d1I i;bif K49 (b.1,()) then bif !b.2.1 then some (x.1,false,())else let a:=G49 (b.1,());bif !a.2.1 then some (x.1,false,())else bif a0n (length (replicate 0 (zero S97))+length x.1.2.2.2.2.2.2.1) then let j:=replicate 0 (zero S97)++x.1.2.2.2.2.2.2.1;let d:=set (replicate 1 (zero S97)) 0 (a.1,c,());bif a0n (length j+length d) then some ((x.1.1,c,b.1,x.1.2.2.2.1,x.1.2.2.2.2.1,x.1.2.2.2.2.2.1,j++d,x.1.2.2.2.2.2.2.2),true,())else none else none else none else none else none
def f0U (x):=(f0T x).isSome
def f0V (x):=(f0T x).getD (zero f0S)
def g2G:=(156,a0c g0H f0S f0U f0V)
theorem e7u:a0f Tryz.prog g2G:=fnE (s4 a4a d3Y e7o c9O) Tryz.func156 (rown:=[.frzBox 4])
abbrev I37:Sg:=⟨[.val (S46)],[]⟩
abbrev O37:Sg:=⟨[.mix [.ref (.flt .f32) 0,.ref (.int .i64) 1,.ref (.slice (.flt .f32)) 2,.ref (a1B) 3,.ref (.int .i64) 4,.ref (S68) 5,.int .i64,.int .i64,.int .i64,.int .i64,.ref (a2I) 6,.int .i64,.int .i64,.int .i64,.int .i64,.int .i64,.cpx .f64,.int .i64,.cpx .f32,.int .i64,.ref (S97) 7,.ref (.str) 8]],[.arr (.flt .f32),.arr (.int .i64),.arr (.slice (.flt .f32)),.arr (a1B),.arr (.int .i64),.arr (S68),.arr (a2I),.arr (S97),.arr (.str)]⟩
def F37 (x:I37.den):Option (O37.den):=bif K80 ((x.1.1.1,()),()) then bif a0n (length (replicate 0 (zero S97))+length x.1.1.2.2.2.2.2.2.1) then bif a0n (length (replicate 0 (zero Ty.str))+length x.1.1.2.2.2.2.2.2.2.1) then let a:=G80 ((x.1.1.1,()),());some ((((),(),(),(),(),(),a.1.1.2.2.2.2.2.2.1,a.1.1.2.2.2.2.2.2.2.1,a.1.1.2.2.2.2.2.2.2.2.1,a.1.1.2.2.2.2.2.2.2.2.2.1,(),a.1.1.2.2.2.2.2.2.2.2.2.2.2.1,a.1.1.2.2.2.2.2.2.2.2.2.2.2.2.1,a.1.1.2.2.2.2.2.2.2.2.2.2.2.2.2.1,a.1.1.2.2.2.2.2.2.2.2.2.2.2.2.2.2.1,x.1.1.2.1,x.1.1.2.2.1,x.1.1.2.2.2.1,x.1.1.2.2.2.2.1,x.1.1.2.2.2.2.2.1,(),(),()),()),a.2.1,a.2.2.1,a.2.2.2.1,a.2.2.2.2.1,a.2.2.2.2.2.1,a.2.2.2.2.2.2.1,a.2.2.2.2.2.2.2.1,replicate 0 (zero S97)++x.1.1.2.2.2.2.2.2.1,replicate 0 (zero Ty.str)++x.1.1.2.2.2.2.2.2.2.1,())else none else none else none
def K37 (x):=(F37 x).isSome
def G37 (x):=(F37 x).getD (a0Y O37)
def m37:=(37,a0H false I37 O37 K37 G37)
theorem e7v:a0f Tryz.prog m37:=sgE false (s1 e3K) Tryz.func37
abbrev A88:Ty:=.cons (S46) (.cons (.slice (.str)) (.nil))
abbrev R88:Ty:=.cons (S46) (.cons (.bool) (.nil))
def F88 (x:Den A88):OD R88:=bif decide (0<=0)&&decide (0<(length x.2.1:Int)) then let b:=getD x.2.1 (toNat 0) (zero Ty.str);bif a1a b { data:=#[115,116,101,101,114] } then bif e2w x.2 then let a:=c8N x.2;bif K51 (a.1,0,359,()) then bif !(G51 (a.1,0,359,())).1 then some (x.1,false,())else let c:=((x.1.1,x.1.2.1,x.1.2.2.1,a.1,x.1.2.2.2.2),());bif c8O c then some ((c8P c).1,true,())else none else none else none else bif a1a b { data:=#[119,105,110,100] } then bif f0N x then some (f0O x)else none else bif a1a b { data:=#[115,97,105,108] } then bif f0Q x then some (f0R x)else none else bif a1a b { data:=#[102,105,120] } then bif e0c x.2 then let a:=a6v x.2;bif K49 ((a.1,a.2.1),()) then bif !a.2.2.1 then some (x.1,false,())else bif !(G49 ((a.1,a.2.1),())).2.1 then some (x.1,false,())else some ((x.1.1,x.1.2.1,(a.1,a.2.1),x.1.2.2.2),true,())else none else none else bif a1a b { data:=#[103,111] } then bif e2w x.2 then let a:=c8N x.2;bif f0U (x.1,a) then some (f0V (x.1,a))else none else none else some (x.1,false,())else none
def K88 (x):=(F88 x).isSome
def G88 (x):=(F88 x).getD (zero R88)
def m88:=(88,a0c A88 R88 K88 G88)
theorem f6M:a0f Tryz.prog m88:=fnE (s7c e6Y a4a d6R e7s e7t d6E c9O (s1 e7u)) Tryz.func88
abbrev I38:Sg:=⟨[.val (S46),.val (.str)],[]⟩
abbrev O38:Sg:=⟨[.mix [.sl (.flt .f32),.sl (.int .i64),.sl (.slice (.flt .f32)),.sl (a1B),.sl (.int .i64),.sl (S68),.int .i64,.int .i64,.int .i64,.int .i64,.sl (a2I),.int .i64,.int .i64,.int .i64,.int .i64,.int .i64,.cpx .f64,.int .i64,.cpx .f32,.int .i64,.sl (S97),.ref (.str) 0],.val (.bool)],[.arr (.str)]⟩
abbrev d1O:Type:=(Unit×Unit×d8q×Unit×b2W×ty7)×ty0×ty3×ty0×Unit
abbrev e0f:Type:=(Unit×Unit×Unit×d2U)×ty0×ty3×ty0×Unit
def e7w:LX:=⟨[2,4,6,8,10,11],[],0,[2,4,8,10],[],⟨[(2,om1),(4,om2),(6,e3h),(8,om3),(10,om5),(11,om0)],[(0,bx7),(1,bx4),(2,bx7)],3,0⟩,⟨[(2,om1),(4,om2),(8,om3),(10,om5)],[(0,bx7),(1,bx4),(2,bx7)],3,0⟩⟩
def c7b (f:d1O->Option (e0f)) (v:d1O):Option (e0f):=let a:=v.1.2.2.2.2.2.1<(length v.1.2.2.1:Int);bif decide a then bif decide (ByteArray.size v.1.2.2.2.2.1+ByteArray.size { data:=#[32] }<=9223372036854775807) then bif decide (0<=v.1.2.2.2.2.2.1)&&decide a then let b:=v.1.2.2.2.2.1++{ data:=#[32] };let c:=getD v.1.2.2.1 (toNat v.1.2.2.2.2.2.1) (zero Ty.str);bif decide (ByteArray.size b+ByteArray.size c<=9223372036854775807) then f ((((),(),v.1.2.2.1,(),b++c,wrap .i64 (v.1.2.2.2.2.2.1+1),()),v.2.1,((),(),(),(),(),(),v.2.2.1.2.2.2.2.2.2.1,v.2.2.1.2.2.2.2.2.2.2.1,v.2.2.1.2.2.2.2.2.2.2.2.1,v.2.2.1.2.2.2.2.2.2.2.2.2.1,(),v.2.2.1.2.2.2.2.2.2.2.2.2.2.2.1,v.2.2.1.2.2.2.2.2.2.2.2.2.2.2.2.1,v.2.2.1.2.2.2.2.2.2.2.2.2.2.2.2.2.1,v.2.2.1.2.2.2.2.2.2.2.2.2.2.2.2.2.2.1,v.2.2.1.2.2.2.2.2.2.2.2.2.2.2.2.2.2.2.1,v.2.2.1.2.2.2.2.2.2.2.2.2.2.2.2.2.2.2.2.1,v.2.2.1.2.2.2.2.2.2.2.2.2.2.2.2.2.2.2.2.2.1,v.2.2.1.2.2.2.2.2.2.2.2.2.2.2.2.2.2.2.2.2.2.1,v.2.2.1.2.2.2.2.2.2.2.2.2.2.2.2.2.2.2.2.2.2.2.1,(),(),()),v.2.2.2))else none else none else none else some (((),(),(),v.1.2.2.2.2.1,()),v.2.1,((),(),(),(),(),(),v.2.2.1.2.2.2.2.2.2.1,v.2.2.1.2.2.2.2.2.2.2.1,v.2.2.1.2.2.2.2.2.2.2.2.1,v.2.2.1.2.2.2.2.2.2.2.2.2.1,(),v.2.2.1.2.2.2.2.2.2.2.2.2.2.2.1,v.2.2.1.2.2.2.2.2.2.2.2.2.2.2.2.1,v.2.2.1.2.2.2.2.2.2.2.2.2.2.2.2.2.1,v.2.2.1.2.2.2.2.2.2.2.2.2.2.2.2.2.2.1,v.2.2.1.2.2.2.2.2.2.2.2.2.2.2.2.2.2.2.1,v.2.2.1.2.2.2.2.2.2.2.2.2.2.2.2.2.2.2.2.1,v.2.2.1.2.2.2.2.2.2.2.2.2.2.2.2.2.2.2.2.2.1,v.2.2.1.2.2.2.2.2.2.2.2.2.2.2.2.2.2.2.2.2.2.1,v.2.2.1.2.2.2.2.2.2.2.2.2.2.2.2.2.2.2.2.2.2.2.1,(),(),()),v.2.2.2)
def d1P (v:d1O):Nat:=v.1.2.2.1.length+v.1.2.2.2.2.1.size+v.1.2.2.2.2.2.1.natAbs+v.2.1.1.length+v.2.1.2.1.length+v.2.1.2.2.1.length+v.2.1.2.2.2.1.length+v.2.1.2.2.2.2.1.length+v.2.1.2.2.2.2.2.1.length+v.2.1.2.2.2.2.2.2.1.natAbs+v.2.1.2.2.2.2.2.2.2.1.natAbs+v.2.1.2.2.2.2.2.2.2.2.1.natAbs+v.2.1.2.2.2.2.2.2.2.2.2.1.natAbs+v.2.1.2.2.2.2.2.2.2.2.2.2.1.length+v.2.1.2.2.2.2.2.2.2.2.2.2.2.1.natAbs+v.2.1.2.2.2.2.2.2.2.2.2.2.2.2.1.natAbs+v.2.1.2.2.2.2.2.2.2.2.2.2.2.2.2.1.natAbs+v.2.1.2.2.2.2.2.2.2.2.2.2.2.2.2.2.1.natAbs+v.2.1.2.2.2.2.2.2.2.2.2.2.2.2.2.2.2.1.natAbs+v.2.1.2.2.2.2.2.2.2.2.2.2.2.2.2.2.2.2.2.1.natAbs+v.2.1.2.2.2.2.2.2.2.2.2.2.2.2.2.2.2.2.2.2.2.1.natAbs+v.2.1.2.2.2.2.2.2.2.2.2.2.2.2.2.2.2.2.2.2.2.2.1.length+v.2.1.2.2.2.2.2.2.2.2.2.2.2.2.2.2.2.2.2.2.2.2.2.1.length+v.2.2.1.2.2.2.2.2.2.1.natAbs+v.2.2.1.2.2.2.2.2.2.2.1.natAbs+v.2.2.1.2.2.2.2.2.2.2.2.1.natAbs+v.2.2.1.2.2.2.2.2.2.2.2.2.1.natAbs+v.2.2.1.2.2.2.2.2.2.2.2.2.2.2.1.natAbs+v.2.2.1.2.2.2.2.2.2.2.2.2.2.2.2.1.natAbs+v.2.2.1.2.2.2.2.2.2.2.2.2.2.2.2.2.1.natAbs+v.2.2.1.2.2.2.2.2.2.2.2.2.2.2.2.2.2.1.natAbs+v.2.2.1.2.2.2.2.2.2.2.2.2.2.2.2.2.2.2.1.natAbs+v.2.2.1.2.2.2.2.2.2.2.2.2.2.2.2.2.2.2.2.2.1.natAbs+v.2.2.1.2.2.2.2.2.2.2.2.2.2.2.2.2.2.2.2.2.2.2.1.natAbs+v.2.2.2.1.1.length+v.2.2.2.1.2.1.length+v.2.2.2.1.2.2.1.length+v.2.2.2.1.2.2.2.1.length+v.2.2.2.1.2.2.2.2.1.length+v.2.2.2.1.2.2.2.2.2.1.length+v.2.2.2.1.2.2.2.2.2.2.1.natAbs+v.2.2.2.1.2.2.2.2.2.2.2.1.natAbs+v.2.2.2.1.2.2.2.2.2.2.2.2.1.natAbs+v.2.2.2.1.2.2.2.2.2.2.2.2.2.1.natAbs+v.2.2.2.1.2.2.2.2.2.2.2.2.2.2.1.length+v.2.2.2.1.2.2.2.2.2.2.2.2.2.2.2.1.natAbs+v.2.2.2.1.2.2.2.2.2.2.2.2.2.2.2.2.1.natAbs+v.2.2.2.1.2.2.2.2.2.2.2.2.2.2.2.2.2.1.natAbs+v.2.2.2.1.2.2.2.2.2.2.2.2.2.2.2.2.2.2.1.natAbs+v.2.2.2.1.2.2.2.2.2.2.2.2.2.2.2.2.2.2.2.1.natAbs+v.2.2.2.1.2.2.2.2.2.2.2.2.2.2.2.2.2.2.2.2.2.1.natAbs+v.2.2.2.1.2.2.2.2.2.2.2.2.2.2.2.2.2.2.2.2.2.2.2.1.natAbs+v.2.2.2.1.2.2.2.2.2.2.2.2.2.2.2.2.2.2.2.2.2.2.2.2.1.length+v.2.2.2.1.2.2.2.2.2.2.2.2.2.2.2.2.2.2.2.2.2.2.2.2.2.1.length+1000
def c7c (v:d1O):=a0K c7b (d1P v) v
def b9s (v):=(c7c v).isSome
def b9t (v):=(c7c v).getD (((),((),((),(ByteArray.empty,())))),(([],([],([],([],([],([],(0,(0,(0,(0,([],(0,(0,(0,(0,(0,((0,0),(0,((0,0),(0,([],([],())))))))))))))))))))))),(((),((),((),((),((),((),(0,(0,(0,(0,((),(0,(0,(0,(0,(0,((0,0),(0,((0,0),(0,((),((),())))))))))))))))))))))),(([],([],([],([],([],([],(0,(0,(0,(0,([],(0,(0,(0,(0,(0,((0,0),(0,((0,0),(0,([],([],())))))))))))))))))))))),()))))
def F38 (x:I38.den):Option (O38.den):=bif K87 x.1.2 then let e:=G87 x.1.2;bif !e.2.1 then bif K37 ((x.1.1,()),()) then let c:=G37 ((x.1.1,()),());some (((c.2.1,c.2.2.1,c.2.2.2.1,c.2.2.2.2.1,c.2.2.2.2.2.1,c.2.2.2.2.2.2.1,c.1.1.2.2.2.2.2.2.1,c.1.1.2.2.2.2.2.2.2.1,c.1.1.2.2.2.2.2.2.2.2.1,c.1.1.2.2.2.2.2.2.2.2.2.1,c.2.2.2.2.2.2.2.1,c.1.1.2.2.2.2.2.2.2.2.2.2.2.1,c.1.1.2.2.2.2.2.2.2.2.2.2.2.2.1,c.1.1.2.2.2.2.2.2.2.2.2.2.2.2.2.1,c.1.1.2.2.2.2.2.2.2.2.2.2.2.2.2.2.1,c.1.1.2.2.2.2.2.2.2.2.2.2.2.2.2.2.2.1,c.1.1.2.2.2.2.2.2.2.2.2.2.2.2.2.2.2.2.1,c.1.1.2.2.2.2.2.2.2.2.2.2.2.2.2.2.2.2.2.1,c.1.1.2.2.2.2.2.2.2.2.2.2.2.2.2.2.2.2.2.2.1,c.1.1.2.2.2.2.2.2.2.2.2.2.2.2.2.2.2.2.2.2.2.1,c.2.2.2.2.2.2.2.2.1,(),()),false,()),c.2.2.2.2.2.2.2.2.2)else none else bif (length e.1:Int)==0 then bif K37 ((x.1.1,()),()) then let c:=G37 ((x.1.1,()),());some (((c.2.1,c.2.2.1,c.2.2.2.1,c.2.2.2.2.1,c.2.2.2.2.2.1,c.2.2.2.2.2.2.1,c.1.1.2.2.2.2.2.2.1,c.1.1.2.2.2.2.2.2.2.1,c.1.1.2.2.2.2.2.2.2.2.1,c.1.1.2.2.2.2.2.2.2.2.2.1,c.2.2.2.2.2.2.2.1,c.1.1.2.2.2.2.2.2.2.2.2.2.2.1,c.1.1.2.2.2.2.2.2.2.2.2.2.2.2.1,c.1.1.2.2.2.2.2.2.2.2.2.2.2.2.2.1,c.1.1.2.2.2.2.2.2.2.2.2.2.2.2.2.2.1,c.1.1.2.2.2.2.2.2.2.2.2.2.2.2.2.2.2.1,c.1.1.2.2.2.2.2.2.2.2.2.2.2.2.2.2.2.2.1,c.1.1.2.2.2.2.2.2.2.2.2.2.2.2.2.2.2.2.2.1,c.1.1.2.2.2.2.2.2.2.2.2.2.2.2.2.2.2.2.2.2.1,c.1.1.2.2.2.2.2.2.2.2.2.2.2.2.2.2.2.2.2.2.2.1,c.2.2.2.2.2.2.2.2.1,(),()),false,()),c.2.2.2.2.2.2.2.2.2)else none else bif K18 (x.1.1,()) then bif !(G18 (x.1.1,())).1 then bif K37 ((x.1.1,()),()) then let a:=G37 ((x.1.1,()),());some (((a.2.1,a.2.2.1,a.2.2.2.1,a.2.2.2.2.1,a.2.2.2.2.2.1,a.2.2.2.2.2.2.1,a.1.1.2.2.2.2.2.2.1,a.1.1.2.2.2.2.2.2.2.1,a.1.1.2.2.2.2.2.2.2.2.1,a.1.1.2.2.2.2.2.2.2.2.2.1,a.2.2.2.2.2.2.2.1,a.1.1.2.2.2.2.2.2.2.2.2.2.2.1,a.1.1.2.2.2.2.2.2.2.2.2.2.2.2.1,a.1.1.2.2.2.2.2.2.2.2.2.2.2.2.2.1,a.1.1.2.2.2.2.2.2.2.2.2.2.2.2.2.2.1,a.1.1.2.2.2.2.2.2.2.2.2.2.2.2.2.2.2.1,a.1.1.2.2.2.2.2.2.2.2.2.2.2.2.2.2.2.2.1,a.1.1.2.2.2.2.2.2.2.2.2.2.2.2.2.2.2.2.2.1,a.1.1.2.2.2.2.2.2.2.2.2.2.2.2.2.2.2.2.2.2.1,a.1.1.2.2.2.2.2.2.2.2.2.2.2.2.2.2.2.2.2.2.2.1,a.2.2.2.2.2.2.2.2.1,(),()),false,()),a.2.2.2.2.2.2.2.2.2)else none else bif decide ((length x.1.1.2.2.2.2.2.2.2.1:Int) ≥ 300) then bif K37 ((x.1.1,()),()) then let a:=G37 ((x.1.1,()),());some (((a.2.1,a.2.2.1,a.2.2.2.1,a.2.2.2.2.1,a.2.2.2.2.2.1,a.2.2.2.2.2.2.1,a.1.1.2.2.2.2.2.2.1,a.1.1.2.2.2.2.2.2.2.1,a.1.1.2.2.2.2.2.2.2.2.1,a.1.1.2.2.2.2.2.2.2.2.2.1,a.2.2.2.2.2.2.2.1,a.1.1.2.2.2.2.2.2.2.2.2.2.2.1,a.1.1.2.2.2.2.2.2.2.2.2.2.2.2.1,a.1.1.2.2.2.2.2.2.2.2.2.2.2.2.2.1,a.1.1.2.2.2.2.2.2.2.2.2.2.2.2.2.2.1,a.1.1.2.2.2.2.2.2.2.2.2.2.2.2.2.2.2.1,a.1.1.2.2.2.2.2.2.2.2.2.2.2.2.2.2.2.2.1,a.1.1.2.2.2.2.2.2.2.2.2.2.2.2.2.2.2.2.2.1,a.1.1.2.2.2.2.2.2.2.2.2.2.2.2.2.2.2.2.2.2.1,a.1.1.2.2.2.2.2.2.2.2.2.2.2.2.2.2.2.2.2.2.2.1,a.2.2.2.2.2.2.2.2.1,(),()),false,()),a.2.2.2.2.2.2.2.2.2)else none else let i:=K37 ((x.1.1,()),());bif i then let a:=G37 ((x.1.1,()),());let j:=((((a.2.1,a.2.2.1,a.2.2.2.1,()),(a.2.2.2.2.1,a.2.2.2.2.2.1,()),a.2.2.2.2.2.2.1,(((a.1.1.2.2.2.2.2.2.1,a.1.1.2.2.2.2.2.2.2.1,()),(a.1.1.2.2.2.2.2.2.2.2.1,a.1.1.2.2.2.2.2.2.2.2.2.1,()),()),a.2.2.2.2.2.2.2.1,((a.1.1.2.2.2.2.2.2.2.2.2.2.2.1,a.1.1.2.2.2.2.2.2.2.2.2.2.2.2.1,()),(a.1.1.2.2.2.2.2.2.2.2.2.2.2.2.2.1,a.1.1.2.2.2.2.2.2.2.2.2.2.2.2.2.2.1,()),()),()),()),a.1.1.2.2.2.2.2.2.2.2.2.2.2.2.2.2.2.1,a.1.1.2.2.2.2.2.2.2.2.2.2.2.2.2.2.2.2.1,a.1.1.2.2.2.2.2.2.2.2.2.2.2.2.2.2.2.2.2.1,a.1.1.2.2.2.2.2.2.2.2.2.2.2.2.2.2.2.2.2.2.1,a.1.1.2.2.2.2.2.2.2.2.2.2.2.2.2.2.2.2.2.2.2.1,a.2.2.2.2.2.2.2.2),e.1,());bif K88 j then let d:=G88 j;bif !d.2.1 then bif i then some (((a.2.1,a.2.2.1,a.2.2.2.1,a.2.2.2.2.1,a.2.2.2.2.2.1,a.2.2.2.2.2.2.1,a.1.1.2.2.2.2.2.2.1,a.1.1.2.2.2.2.2.2.2.1,a.1.1.2.2.2.2.2.2.2.2.1,a.1.1.2.2.2.2.2.2.2.2.2.1,a.2.2.2.2.2.2.2.1,a.1.1.2.2.2.2.2.2.2.2.2.2.2.1,a.1.1.2.2.2.2.2.2.2.2.2.2.2.2.1,a.1.1.2.2.2.2.2.2.2.2.2.2.2.2.2.1,a.1.1.2.2.2.2.2.2.2.2.2.2.2.2.2.2.1,a.1.1.2.2.2.2.2.2.2.2.2.2.2.2.2.2.2.1,a.1.1.2.2.2.2.2.2.2.2.2.2.2.2.2.2.2.2.1,a.1.1.2.2.2.2.2.2.2.2.2.2.2.2.2.2.2.2.2.1,a.1.1.2.2.2.2.2.2.2.2.2.2.2.2.2.2.2.2.2.2.1,a.1.1.2.2.2.2.2.2.2.2.2.2.2.2.2.2.2.2.2.2.2.1,a.2.2.2.2.2.2.2.2.1,(),()),false,()),a.2.2.2.2.2.2.2.2.2)else none else bif decide (0<=0)&&decide (0<(length e.1:Int)) then let l:=getD e.1 (toNat 0) (zero Ty.str);let k:=(((),(),e.1,(),l,1,()),(x.1.1.1.1.1,x.1.1.1.1.2.1,x.1.1.1.1.2.2.1,x.1.1.1.2.1.1,x.1.1.1.2.1.2.1,x.1.1.1.2.2.1,x.1.1.1.2.2.2.1.1.1.1,x.1.1.1.2.2.2.1.1.1.2.1,x.1.1.1.2.2.2.1.1.2.1.1,x.1.1.1.2.2.2.1.1.2.1.2.1,x.1.1.1.2.2.2.1.2.1,x.1.1.1.2.2.2.1.2.2.1.1.1,x.1.1.1.2.2.2.1.2.2.1.1.2.1,x.1.1.1.2.2.2.1.2.2.1.2.1.1,x.1.1.1.2.2.2.1.2.2.1.2.1.2.1,x.1.1.2),((),(),(),(),(),(),0,0,0,0,(),0,0,0,0,0,(0,0),0,(0,0),0,(),(),()),(d.1.1.1.1,d.1.1.1.2.1,d.1.1.1.2.2.1,d.1.1.2.1.1,d.1.1.2.1.2.1,d.1.1.2.2.1,d.1.1.2.2.2.1.1.1.1,d.1.1.2.2.2.1.1.1.2.1,d.1.1.2.2.2.1.1.2.1.1,d.1.1.2.2.2.1.1.2.1.2.1,d.1.1.2.2.2.1.2.1,d.1.1.2.2.2.1.2.2.1.1.1,d.1.1.2.2.2.1.2.2.1.1.2.1,d.1.1.2.2.2.1.2.2.1.2.1.1,d.1.1.2.2.2.1.2.2.1.2.1.2.1,d.1.2),());bif b9s k then let b:=b9t k;bif a0n (length (replicate 0 (zero Ty.str))+length b.2.1.2.2.2.2.2.2.2.2.2.2.2.2.2.2.2.2.2.2.2.2.2.1) then let g:=replicate 0 (zero Ty.str)++b.2.1.2.2.2.2.2.2.2.2.2.2.2.2.2.2.2.2.2.2.2.2.2.1;let h:=set (replicate 1 (zero Ty.str)) 0 b.1.2.2.2.1;bif a0n (length g+length h) then some (((b.2.2.2.1.1,b.2.2.2.1.2.1,b.2.2.2.1.2.2.1,b.2.2.2.1.2.2.2.1,b.2.2.2.1.2.2.2.2.1,b.2.2.2.1.2.2.2.2.2.1,b.2.2.2.1.2.2.2.2.2.2.1,b.2.2.2.1.2.2.2.2.2.2.2.1,b.2.2.2.1.2.2.2.2.2.2.2.2.1,b.2.2.2.1.2.2.2.2.2.2.2.2.2.1,b.2.2.2.1.2.2.2.2.2.2.2.2.2.2.1,b.2.2.2.1.2.2.2.2.2.2.2.2.2.2.2.1,b.2.2.2.1.2.2.2.2.2.2.2.2.2.2.2.2.1,b.2.2.2.1.2.2.2.2.2.2.2.2.2.2.2.2.2.1,b.2.2.2.1.2.2.2.2.2.2.2.2.2.2.2.2.2.2.1,b.2.2.2.1.2.2.2.2.2.2.2.2.2.2.2.2.2.2.2.1,b.2.2.2.1.2.2.2.2.2.2.2.2.2.2.2.2.2.2.2.2.1,b.2.2.2.1.2.2.2.2.2.2.2.2.2.2.2.2.2.2.2.2.2.1,b.2.2.2.1.2.2.2.2.2.2.2.2.2.2.2.2.2.2.2.2.2.2.1,b.2.2.2.1.2.2.2.2.2.2.2.2.2.2.2.2.2.2.2.2.2.2.2.1,b.2.2.2.1.2.2.2.2.2.2.2.2.2.2.2.2.2.2.2.2.2.2.2.2.1,(),()),true,()),g++h,())else none else none else none else none else none else none else none else none
def K38 (x):=(F38 x).isSome
def G38 (x):=(F38 x).getD (a0Y O38)
def m38:=(38,a0H false I38 O38 K38 G38)
noncomputable def g2H:=gE [m87,m18,m37,m88] Tryz.f38 (lps:=[(9,lmX e7w c7c)]) (frz:=[39]) (rown:=[.frzCell 4 0,.frzCell 4 1,.frzCell 4 2,.frzCell 4 3,.frzCell 4 4,.frzCell 4 5,.frzCell 4 10,.frzCell 4 20])
theorem e0g:EvX g2H (lp Tryz.f38 0) e7w c7b:=fun _ _=>by kernel_rfl
theorem f6N:a0f Tryz.prog m38:=a2Y (a0L (s4 f6K e4o e7v f6M)) (a1F Tryz.func38 rfl rfl rfl (by kernel_rfl) (a0j (by kernel_rfl) (s1 (lX e0g d1P)))) false fun _=>by kernel_rfl
abbrev I11:Sg:=⟨[.val (S46),.val (.slice (.str))],[]⟩
abbrev O11:Sg:=⟨[.mix [.sl (.flt .f32),.sl (.int .i64),.sl (.slice (.flt .f32)),.sl (a1B),.sl (.int .i64),.sl (S68),.int .i64,.int .i64,.int .i64,.int .i64,.sl (a2I),.int .i64,.int .i64,.int .i64,.int .i64,.int .i64,.cpx .f64,.int .i64,.cpx .f32,.int .i64,.sl (S97),.ref (.str) 0],.val (.slice (.bool))],[.arr (.str)]⟩
abbrev c0Y:Type:=(d8q×d2S)×ty3×List (Den .bool)×ty6
abbrev d1Q:Type:=a7u×ty3×List (Den .bool)×ty6
def e7x:LX:=⟨[1,4,6,7,8],[.frzCell 7 0,.frzCell 7 1,.frzCell 7 2,.frzCell 7 3,.frzCell 7 4,.frzCell 7 5,.frzCell 7 10,.frzCell 7 20],0,[4,6,7],[],⟨[(1,e3h),(4,om1),(6,.one (.ref (.bool) 1)),(7,om3),(8,om0)],[(0,bx4),(1,.arr (.bool)),(2,e8X),(3,.arr (.str))],4,0⟩,⟨[(4,om1),(6,.one (.ref (.bool) 1)),(7,om3)],[(0,bx4),(1,.arr (.bool)),(2,e8X),(3,.arr (.str))],4,0⟩⟩
def c0Z (f:c0Y->Option (d1Q)) (v:c0Y):Option (d1Q):=let b:=v.1.2.2.2.2.1<(length v.1.1:Int);bif decide b then bif decide (0<=v.1.2.2.2.2.1)&&decide b then let e:=getD v.1.1 (toNat v.1.2.2.2.2.1) (zero Ty.str);let c:=(((((v.2.2.2.1.1,v.2.2.2.1.2.1,v.2.2.2.1.2.2.1,()),(v.2.2.2.1.2.2.2.1,v.2.2.2.1.2.2.2.2.1,()),v.2.2.2.1.2.2.2.2.2.1,(((v.2.2.2.1.2.2.2.2.2.2.1,v.2.2.2.1.2.2.2.2.2.2.2.1,()),(v.2.2.2.1.2.2.2.2.2.2.2.2.1,v.2.2.2.1.2.2.2.2.2.2.2.2.2.1,()),()),v.2.2.2.1.2.2.2.2.2.2.2.2.2.2.1,((v.2.2.2.1.2.2.2.2.2.2.2.2.2.2.2.1,v.2.2.2.1.2.2.2.2.2.2.2.2.2.2.2.2.1,()),(v.2.2.2.1.2.2.2.2.2.2.2.2.2.2.2.2.2.1,v.2.2.2.1.2.2.2.2.2.2.2.2.2.2.2.2.2.2.1,()),()),()),()),v.2.2.2.1.2.2.2.2.2.2.2.2.2.2.2.2.2.2.2.1,v.2.2.2.1.2.2.2.2.2.2.2.2.2.2.2.2.2.2.2.2.1,v.2.2.2.1.2.2.2.2.2.2.2.2.2.2.2.2.2.2.2.2.2.1,v.2.2.2.1.2.2.2.2.2.2.2.2.2.2.2.2.2.2.2.2.2.2.1,v.2.2.2.1.2.2.2.2.2.2.2.2.2.2.2.2.2.2.2.2.2.2.2.1,v.2.2.2.1.2.2.2.2.2.2.2.2.2.2.2.2.2.2.2.2.2.2.2.2.1,v.2.2.2.2),e,()),());bif K38 c then let a:=G38 c;let d:=set (replicate 1 (zero Ty.bool)) 0 a.1.2.1;bif a0n (length v.2.2.1+length d) then f (((v.1.1,(),(),(),wrap .i64 (v.1.2.2.2.2.1+1),()),((),(),(),(),(),(),v.2.1.2.2.2.2.2.2.1,v.2.1.2.2.2.2.2.2.2.1,v.2.1.2.2.2.2.2.2.2.2.1,v.2.1.2.2.2.2.2.2.2.2.2.1,(),v.2.1.2.2.2.2.2.2.2.2.2.2.2.1,v.2.1.2.2.2.2.2.2.2.2.2.2.2.2.1,v.2.1.2.2.2.2.2.2.2.2.2.2.2.2.2.1,v.2.1.2.2.2.2.2.2.2.2.2.2.2.2.2.2.1,v.2.1.2.2.2.2.2.2.2.2.2.2.2.2.2.2.2.1,v.2.1.2.2.2.2.2.2.2.2.2.2.2.2.2.2.2.2.1,v.2.1.2.2.2.2.2.2.2.2.2.2.2.2.2.2.2.2.2.1,v.2.1.2.2.2.2.2.2.2.2.2.2.2.2.2.2.2.2.2.2.1,v.2.1.2.2.2.2.2.2.2.2.2.2.2.2.2.2.2.2.2.2.2.1,(),(),()),v.2.2.1++d,(a.1.1.1,a.1.1.2.1,a.1.1.2.2.1,a.1.1.2.2.2.1,a.1.1.2.2.2.2.1,a.1.1.2.2.2.2.2.1,a.1.1.2.2.2.2.2.2.1,a.1.1.2.2.2.2.2.2.2.1,a.1.1.2.2.2.2.2.2.2.2.1,a.1.1.2.2.2.2.2.2.2.2.2.1,a.1.1.2.2.2.2.2.2.2.2.2.2.1,a.1.1.2.2.2.2.2.2.2.2.2.2.2.1,a.1.1.2.2.2.2.2.2.2.2.2.2.2.2.1,a.1.1.2.2.2.2.2.2.2.2.2.2.2.2.2.1,a.1.1.2.2.2.2.2.2.2.2.2.2.2.2.2.2.1,a.1.1.2.2.2.2.2.2.2.2.2.2.2.2.2.2.2.1,a.1.1.2.2.2.2.2.2.2.2.2.2.2.2.2.2.2.2.1,a.1.1.2.2.2.2.2.2.2.2.2.2.2.2.2.2.2.2.2.1,a.1.1.2.2.2.2.2.2.2.2.2.2.2.2.2.2.2.2.2.2.1,a.1.1.2.2.2.2.2.2.2.2.2.2.2.2.2.2.2.2.2.2.2.1,a.1.1.2.2.2.2.2.2.2.2.2.2.2.2.2.2.2.2.2.2.2.2.1,(),()),a.2))else none else none else none else some (((),(),(),()),((),(),(),(),(),(),v.2.1.2.2.2.2.2.2.1,v.2.1.2.2.2.2.2.2.2.1,v.2.1.2.2.2.2.2.2.2.2.1,v.2.1.2.2.2.2.2.2.2.2.2.1,(),v.2.1.2.2.2.2.2.2.2.2.2.2.2.1,v.2.1.2.2.2.2.2.2.2.2.2.2.2.2.1,v.2.1.2.2.2.2.2.2.2.2.2.2.2.2.2.1,v.2.1.2.2.2.2.2.2.2.2.2.2.2.2.2.2.1,v.2.1.2.2.2.2.2.2.2.2.2.2.2.2.2.2.2.1,v.2.1.2.2.2.2.2.2.2.2.2.2.2.2.2.2.2.2.1,v.2.1.2.2.2.2.2.2.2.2.2.2.2.2.2.2.2.2.2.1,v.2.1.2.2.2.2.2.2.2.2.2.2.2.2.2.2.2.2.2.2.1,v.2.1.2.2.2.2.2.2.2.2.2.2.2.2.2.2.2.2.2.2.2.1,(),(),()),v.2.2.1,(v.2.2.2.1.1,v.2.2.2.1.2.1,v.2.2.2.1.2.2.1,v.2.2.2.1.2.2.2.1,v.2.2.2.1.2.2.2.2.1,v.2.2.2.1.2.2.2.2.2.1,v.2.2.2.1.2.2.2.2.2.2.1,v.2.2.2.1.2.2.2.2.2.2.2.1,v.2.2.2.1.2.2.2.2.2.2.2.2.1,v.2.2.2.1.2.2.2.2.2.2.2.2.2.1,v.2.2.2.1.2.2.2.2.2.2.2.2.2.2.1,v.2.2.2.1.2.2.2.2.2.2.2.2.2.2.2.1,v.2.2.2.1.2.2.2.2.2.2.2.2.2.2.2.2.1,v.2.2.2.1.2.2.2.2.2.2.2.2.2.2.2.2.2.1,v.2.2.2.1.2.2.2.2.2.2.2.2.2.2.2.2.2.2.1,v.2.2.2.1.2.2.2.2.2.2.2.2.2.2.2.2.2.2.2.1,v.2.2.2.1.2.2.2.2.2.2.2.2.2.2.2.2.2.2.2.2.1,v.2.2.2.1.2.2.2.2.2.2.2.2.2.2.2.2.2.2.2.2.2.1,v.2.2.2.1.2.2.2.2.2.2.2.2.2.2.2.2.2.2.2.2.2.2.1,v.2.2.2.1.2.2.2.2.2.2.2.2.2.2.2.2.2.2.2.2.2.2.2.1,v.2.2.2.1.2.2.2.2.2.2.2.2.2.2.2.2.2.2.2.2.2.2.2.2.1,(),()),v.2.2.2.2)
def d1R (v:c0Y):Nat:=v.1.1.length+v.1.2.2.2.2.1.natAbs+v.2.1.2.2.2.2.2.2.1.natAbs+v.2.1.2.2.2.2.2.2.2.1.natAbs+v.2.1.2.2.2.2.2.2.2.2.1.natAbs+v.2.1.2.2.2.2.2.2.2.2.2.1.natAbs+v.2.1.2.2.2.2.2.2.2.2.2.2.2.1.natAbs+v.2.1.2.2.2.2.2.2.2.2.2.2.2.2.1.natAbs+v.2.1.2.2.2.2.2.2.2.2.2.2.2.2.2.1.natAbs+v.2.1.2.2.2.2.2.2.2.2.2.2.2.2.2.2.1.natAbs+v.2.1.2.2.2.2.2.2.2.2.2.2.2.2.2.2.2.1.natAbs+v.2.1.2.2.2.2.2.2.2.2.2.2.2.2.2.2.2.2.2.1.natAbs+v.2.1.2.2.2.2.2.2.2.2.2.2.2.2.2.2.2.2.2.2.2.1.natAbs+v.2.2.1.length+v.2.2.2.1.1.length+v.2.2.2.1.2.1.length+v.2.2.2.1.2.2.1.length+v.2.2.2.1.2.2.2.1.length+v.2.2.2.1.2.2.2.2.1.length+v.2.2.2.1.2.2.2.2.2.1.length+v.2.2.2.1.2.2.2.2.2.2.1.natAbs+v.2.2.2.1.2.2.2.2.2.2.2.1.natAbs+v.2.2.2.1.2.2.2.2.2.2.2.2.1.natAbs+v.2.2.2.1.2.2.2.2.2.2.2.2.2.1.natAbs+v.2.2.2.1.2.2.2.2.2.2.2.2.2.2.1.length+v.2.2.2.1.2.2.2.2.2.2.2.2.2.2.2.1.natAbs+v.2.2.2.1.2.2.2.2.2.2.2.2.2.2.2.2.1.natAbs+v.2.2.2.1.2.2.2.2.2.2.2.2.2.2.2.2.2.1.natAbs+v.2.2.2.1.2.2.2.2.2.2.2.2.2.2.2.2.2.2.1.natAbs+v.2.2.2.1.2.2.2.2.2.2.2.2.2.2.2.2.2.2.2.1.natAbs+v.2.2.2.1.2.2.2.2.2.2.2.2.2.2.2.2.2.2.2.2.2.1.natAbs+v.2.2.2.1.2.2.2.2.2.2.2.2.2.2.2.2.2.2.2.2.2.2.2.1.natAbs+v.2.2.2.1.2.2.2.2.2.2.2.2.2.2.2.2.2.2.2.2.2.2.2.2.1.length+v.2.2.2.2.1.length+1000
def d1S (v:c0Y):=a0K c0Z (d1R v) v
def b9u (v):=(d1S v).isSome
def b9v (v):=(d1S v).getD (((),((),((),()))),(((),((),((),((),((),((),(0,(0,(0,(0,((),(0,(0,(0,(0,(0,((0,0),(0,((0,0),(0,((),((),())))))))))))))))))))))),([],(([],([],([],([],([],([],(0,(0,(0,(0,([],(0,(0,(0,(0,(0,((0,0),(0,((0,0),(0,([],((),())))))))))))))))))))))),([],())))))
def F11 (x:I11.den):Option (O11.den):=bif K37 ((x.1.1,()),()) then let b:=G37 ((x.1.1,()),());let c:=((x.1.2.1,(),(),(),0,()),((),(),(),(),(),(),0,0,0,0,(),0,0,0,0,0,(0,0),0,(0,0),0,(),(),()),replicate 0 (zero Ty.bool),(b.2.1,b.2.2.1,b.2.2.2.1,b.2.2.2.2.1,b.2.2.2.2.2.1,b.2.2.2.2.2.2.1,b.1.1.2.2.2.2.2.2.1,b.1.1.2.2.2.2.2.2.2.1,b.1.1.2.2.2.2.2.2.2.2.1,b.1.1.2.2.2.2.2.2.2.2.2.1,b.2.2.2.2.2.2.2.1,b.1.1.2.2.2.2.2.2.2.2.2.2.2.1,b.1.1.2.2.2.2.2.2.2.2.2.2.2.2.1,b.1.1.2.2.2.2.2.2.2.2.2.2.2.2.2.1,b.1.1.2.2.2.2.2.2.2.2.2.2.2.2.2.2.1,b.1.1.2.2.2.2.2.2.2.2.2.2.2.2.2.2.2.1,b.1.1.2.2.2.2.2.2.2.2.2.2.2.2.2.2.2.2.1,b.1.1.2.2.2.2.2.2.2.2.2.2.2.2.2.2.2.2.2.1,b.1.1.2.2.2.2.2.2.2.2.2.2.2.2.2.2.2.2.2.2.1,b.1.1.2.2.2.2.2.2.2.2.2.2.2.2.2.2.2.2.2.2.2.1,b.2.2.2.2.2.2.2.2.1,(),()),b.2.2.2.2.2.2.2.2.2);bif b9u c then let a:=b9v c;some (((a.2.2.2.1.1,a.2.2.2.1.2.1,a.2.2.2.1.2.2.1,a.2.2.2.1.2.2.2.1,a.2.2.2.1.2.2.2.2.1,a.2.2.2.1.2.2.2.2.2.1,a.2.2.2.1.2.2.2.2.2.2.1,a.2.2.2.1.2.2.2.2.2.2.2.1,a.2.2.2.1.2.2.2.2.2.2.2.2.1,a.2.2.2.1.2.2.2.2.2.2.2.2.2.1,a.2.2.2.1.2.2.2.2.2.2.2.2.2.2.1,a.2.2.2.1.2.2.2.2.2.2.2.2.2.2.2.1,a.2.2.2.1.2.2.2.2.2.2.2.2.2.2.2.2.1,a.2.2.2.1.2.2.2.2.2.2.2.2.2.2.2.2.2.1,a.2.2.2.1.2.2.2.2.2.2.2.2.2.2.2.2.2.2.1,a.2.2.2.1.2.2.2.2.2.2.2.2.2.2.2.2.2.2.2.1,a.2.2.2.1.2.2.2.2.2.2.2.2.2.2.2.2.2.2.2.2.1,a.2.2.2.1.2.2.2.2.2.2.2.2.2.2.2.2.2.2.2.2.2.1,a.2.2.2.1.2.2.2.2.2.2.2.2.2.2.2.2.2.2.2.2.2.2.1,a.2.2.2.1.2.2.2.2.2.2.2.2.2.2.2.2.2.2.2.2.2.2.2.1,a.2.2.2.1.2.2.2.2.2.2.2.2.2.2.2.2.2.2.2.2.2.2.2.2.1,(),()),a.2.2.1,()),a.2.2.2.2)else none else none
def K11 (x):=(F11 x).isSome
def G11 (x):=(F11 x).getD (a0Y O11)
def m11:=(11,a0H false I11 O11 K11 G11)
noncomputable def g2I:=gE [m37,fzE m38] Tryz.f11 (lps:=[(4,lmX e7x d1S)]) (rown:=[.frz 5])
theorem e0h:EvX g2I (lp Tryz.f11 0) e7x c0Z:=fun _ _=>by kernel_rfl
theorem f6O:a0f Tryz.prog m11:=a2Y (a0L (s2 e7v (d2M f6N))) (a1F Tryz.func11 rfl rfl rfl (by kernel_rfl) (a0j (by kernel_rfl) (s1 (lX e0h d1R)))) false fun _=>by kernel_rfl
abbrev f6P:Sg:=⟨[.ptr 0],[.box (a1M)]⟩
abbrev f6Q:Sg:=⟨[.val (.int .i64)],[.box (a1M)]⟩
def f0W (x:f6P.den):Option (f6Q.den):=bif K77 (((),12,()),x.2) then let a:=G77 (((),12,()),x.2);bif a.1.1 then bif d4n (((),()),a.2) then let b:=d4o (((),()),a.2);some ((wrap .i64 ((wrap .i64 (Int.tdiv b.1.1 2))-200),()),b.2)else none else bif K34 (((),360,()),a.2) then some (G34 (((),360,()),a.2))else none else none
def f6R (x):=(f0W x).isSome
def f6S (x):=(f0W x).getD (a0Y f6Q)
def g0I:=(126,a0H true f6P f6Q f6R f6S)
theorem e7y:a0f Tryz.prog g0I:=sgE true (s3 a5t b3t a2N) Tryz.func126
abbrev e7z:Sg:=⟨[.ptr 0,.val (.int .i64)],[.box (a1M)]⟩
abbrev f6T:Sg:=⟨[.val (.int .i64)],[.box (a1M)]⟩
def e2y (x:e7z.den):Option (f6T.den):=bif K77 (((),15,()),x.2) then let a:=G77 (((),15,()),x.2);bif a.1.1 then let b:=set (set (set (set (set (replicate 5 (zero (Ty.int IntKind.i64))) 0 (-1)) 1 x.1.2.1) 2 (wrap .i64 (x.1.2.1+1))) 3 9223372036854775807) 4 (-9223372036854775808);bif c8H (((),(),()),a.2.1,b,()) then let c:=b5x (((),(),()),a.2.1,b,());some (c.1,c.2.1,())else none else bif K34 (((),x.1.2),a.2) then some (G34 (((),x.1.2),a.2))else none else none
def f6U (x):=(e2y x).isSome
def f0X (x):=(e2y x).getD (a0Y f6T)
def g0J:=(127,a0H true e7z f6T f6U f0X)
theorem e7A:a0f Tryz.prog g0J:=sgE true (s3 a5t b3s a2N) Tryz.func127
abbrev e7B:Sg:=⟨[.ptr 0],[.box (a1M)]⟩
abbrev f0Y:Sg:=⟨[.own (S97) 1],[.box (a1M),.arr (S97)]⟩
abbrev b4n:Type:=(Unit×d2T)×ty2×c1w×Unit
abbrev d6X:Type:=a5r×ty2×c1w×Unit
def d6Y:LX:=⟨[0,3,4,5],[],0,[3],[],⟨[(0,om1),(3,.one (.ref (S97) 1)),(4,om0),(5,om0)],[(0,bx0),(1,.arr (S97))],2,1⟩,⟨[(3,.one (.ref (S97) 1))],[(0,bx0),(1,.arr (S97))],2,1⟩⟩
def b9w (f:b4n->Option (d6X)) (v:b4n):Option (d6X):=bif decide (v.1.2.2.1>0) then bif d8Y (((),()),v.2.1,()) then let b:=d4u (((),()),v.2.1,());let c:=set (replicate 1 (zero S97)) 0 (b.1.1,v.1.2.2.2);bif a0n (length v.2.2.1+length c) then bif K34 (((),40,()),b.2) then let d:=G34 (((),40,()),b.2);bif K77 (((),60,()),d.2) then let a:=G77 (((),60,()),d.2);bif a.1.1 then bif d4n (((),()),a.2) then let e:=d4o (((),()),a.2);f ((((),(),wrap .i64 (v.1.2.2.1-1),e.1),e.2.1,v.2.2.1++c,()))else none else f ((((),(),wrap .i64 (v.1.2.2.1-1),wrap .i64 ((wrap .i64 (v.1.2.2.2.1+1))+d.1.1),()),a.2.1,v.2.2.1++c,()))else none else none else none else none else some (((),()),v.2)
def c7d (v:b4n):Nat:=v.1.2.2.1.natAbs+v.1.2.2.2.1.natAbs+v.2.1.1.length+v.2.1.2.1.natAbs+v.2.1.2.2.1.natAbs+v.2.2.1.length+1000
def b9x (v:b4n):=a0K b9w (c7d v) v
def a8V (v):=(b9x v).isSome
def a8W (v):=(b9x v).getD default
def f0Z (x:e7B.den):Option (f0Y.den):=bif K34 (((),9,()),x.2) then let c:=G34 (((),9,()),x.2);bif K77 (((),40,()),c.2) then let b:=G77 (((),40,()),c.2);bif b.1.1 then bif K34 (((),2,()),b.2) then let a:=G34 (((),2,()),b.2);bif K34 (((),300,()),a.2) then let h:=wrap .i64 (200+a.1.1);let d:=G34 (((),300,()),a.2);let e:=(((),(),h,d.1),d.2.1,replicate 0 (zero S97),());bif a8V e then some (((),()),(a8W e).2)else none else none else none else bif K34 (((),300,()),b.2) then let a:=G34 (((),300,()),b.2);let g:=(((),(),c.1.1,a.1),a.2.1,replicate 0 (zero S97),());bif a8V g then some (((),()),(a8W g).2)else none else none else none else none
def f6V (x):=(f0Z x).isSome
def f1a (x):=(f0Z x).getD (a0Y f0Y)
def g0K:=(129,a0H true e7B f0Y f6V f1a)
noncomputable def f6W:=gE [m34,m77,f8Y,e4J] Tryz.f129 (lps:=[(6,lmX d6Y b9x)])
theorem d1T:EvX f6W (lp Tryz.f129 0) d6Y b9w:=fun _ _=>by kernel_rfl
theorem e7C:a0f Tryz.prog g0K:=a2Y (a0L (s4 a2N a5t d4v b3t)) (a1F Tryz.func129 rfl rfl rfl (by kernel_rfl) (a0j (by kernel_rfl) (s1 (lX d1T c7d)))) true fun _=>by kernel_rfl
theorem c7e (m n:Nat) (e:0<n) (a:Nat):∀Q,Q=2*(m <<< a/n)+(m <<< a%n != 0).toNat->Q*n<=2*(m*2^a)+n /\ 2*(m*2^a)<=Q*n+n:=by
 intro Q b;rw[Nat.shiftLeft_eq]at b;have f:=Nat.div_add_mod (m*2^a) n;have g:=Nat.mod_lt (m*2^a) e;generalize m*2^a=x at *;have d:2*(x/n)*n=2*(n*(x/n)):=by rw[Nat.mul_assoc,Nat.mul_comm (x/n)]
 subst b;rw[Nat.add_mul,d];generalize n*(x/n)=y at *;by_cases c:x%n=0
 ·rw[c];simp only[bne_self_eq_false,Bool.toNat_false,Nat.zero_mul];omega
 ·have:(x%n != 0)=true:=by simpa using c
  rw[this];simp only[Bool.toNat_true,Nat.one_mul];omega
theorem c7f (m n:Nat) (b:m≠0) (g:0<n):2^54*n<=m*2^(54+n.log2-m.log2)*2:=by
 have c:2^m.log2<=m:=Nat.log2_self_le b;have d:n<2^(n.log2+1):=Nat.lt_log2_self;have e:2^(54+n.log2)<=m*2^(54+n.log2-m.log2):=by
  have:2^m.log2*2^(54+n.log2-m.log2)<=m*2^(54+n.log2-m.log2):=Nat.mul_le_mul_right _ c;rw[<- Nat.pow_add]at this;exact Nat.le_trans (Nat.pow_le_pow_right (by decide) (by omega)) this
 have a:2^54*n<=2^54*2^(n.log2+1):=Nat.mul_le_mul_left _ (Nat.le_of_lt d);rw[<- Nat.pow_add]at a;have f:2^(54+(n.log2+1))=2^(54+n.log2)*2:=by rw[<- Nat.pow_succ];congr 1
 omega
theorem g0L {a b:Nat} {x y q:Rat} (ha:IsR a x) (hb:IsR b y) (hy:y≠0) (U:q*y=x) (B:Int) (N:-1022<=B) (O:B<=1022) (E:q<=p2 B) (D:-p2 B<=q) :
 ∃r,IsR (a0b .quo .f64 a b) r /\ b4K r q (p2 (B-52)):=by
 obtain⟨s,m,e,hr,he,rfl⟩:=ha;obtain⟨t,n,f,L,hf,rfl⟩:=hb;have V:a0b .quo .f64 a b=(((Ieee.double.read a).quotient 54 (Ieee.double.read b)).map Ieee.double.write).getD (qn .f64):=rfl;have C:n≠0:=fun h=>hy (by rw[h,a2F])
 have F:0<n:=Nat.pos_of_ne_zero C;rw[V,hr,L];unfold Ieee.Datum.quotient;dsimp only;rw[if_neg C];show ∃r,IsR (Ieee.double.nearest (s ^^ t) (2*(m <<< (54+n.log2-m.log2)/n)+(m <<< (54+n.log2-m.log2)%n != 0).toNat) (e-f-((54+n.log2-m.log2:Nat):Int)-1)) r /\ _;have P:=c7e m n F (54+n.log2-m.log2) _ rfl;have w:m=0->2*(m <<< (54+n.log2-m.log2)/n)+(m <<< (54+n.log2-m.log2)%n != 0).toNat=0:=by
  intro h;subst h;simp[Nat.shiftLeft_eq]
 have j:m≠0->_:=fun h=>c7f m n h F
 generalize hQ:2*(m <<< (54+n.log2-m.log2)/n)+(m <<< (54+n.log2-m.log2)%n != 0).toNat=Q at *;generalize hM:54+n.log2-m.log2=c at *;obtain⟨d,H⟩:∃d:Int,d=e-f-(c:Int)-1:=⟨_,rfl⟩;rw[<- H];have i:(0:Rat)<(n:Rat):=by
  have:(0:Rat)<((n:Nat):Rat):=by exact_mod_cast Rat.natCast_lt_natCast.2 F
  exact this
 have k:q*(n:Rat)=sgR (s ^^ t)*(2*((m:Rat)*((2^c:Nat):Rat)))*p2 d:=by
  have W:e=f+(c:Int)+1+d:=by omega
  have hx:RV s m e=sgR s*(2*((m:Rat)*((2^c:Nat):Rat)))*p2 d*p2 f:=by
   unfold RV;rw[W,a0G,a2a,a0G,a0R];grind
  have hf:=a0q f;have M:RV t n f=sgR t*(n:Rat)*p2 f:=rfl;rw[hx,M]at U;have hs:sgR t*sgR t=1:=by cases t<;>decide +kernel
  have A:(q*(n:Rat)-sgR (s ^^ t)*(2*((m:Rat)*((2^c:Nat):Rat)))*p2 d)*p2 f=0:=by
   rw[c6q];have:q*(sgR t*(n:Rat)*p2 f)*sgR t=sgR s*(2*((m:Rat)*((2^c:Nat):Rat)))*p2 d*p2 f*sgR t:=by rw[U]
   grind
  rcases Rat.mul_eq_zero.1 A with l|l
  ·grind
  ·grind
 have G:=a0q d;have n1:(Q:Rat)*(n:Rat)<=2*((m:Rat)*((2^c:Nat):Rat))+(n:Rat):=by exact_mod_cast a0e P.1
 have n2:2*((m:Rat)*((2^c:Nat):Rat))<=(Q:Rat)*(n:Rat)+(n:Rat):=by exact_mod_cast a0e P.2
 have m1:=a0r n1 (Rat.le_of_lt G);have m2:=a0r n2 (Rat.le_of_lt G);have g:b4K (RV (s ^^ t) Q d) q (p2 d):=by
  unfold RV;have Y:(sgR (s ^^ t)*(Q:Rat)*p2 d-q-p2 d)*(n:Rat)<=0:=by
   have:sgR (s ^^ t)*(Q:Rat)*p2 d*(n:Rat)-q*(n:Rat)-p2 d*(n:Rat)<=0:=by
    rw[k];cases (s ^^ t)
    ·have:sgR false=1:=rfl;rw[this];grind
    ·have:sgR true=-1:=rfl;rw[this];grind
   grind
  have Z:(q-sgR (s ^^ t)*(Q:Rat)*p2 d-p2 d)*(n:Rat)<=0:=by
   have:q*(n:Rat)-sgR (s ^^ t)*(Q:Rat)*p2 d*(n:Rat)-p2 d*(n:Rat)<=0:=by
    rw[k];cases (s ^^ t)
    ·have:sgR false=1:=rfl;rw[this];grind
    ·have:sgR true=-1:=rfl;rw[this];grind
   grind
  have neg_of:∀z:Rat,z*(n:Rat)<=0->z<=0:=by
   intro z hz;apply Classical.byContradiction;intro R;have:=Rat.mul_pos (show 0<z by grind) i;grind
  have k1:=neg_of _ Y;have k2:=neg_of _ Z;constructor<;>grind
 by_cases v:m=0
 ·have J:=w v;subst v;rw[J]at g ⊢;have K:q=0:=by
   have:q*(n:Rat)=0:=by
    rw[k];have:((0:Nat):Rat)=0:=by simp
    rw[this];grind
   rcases Rat.mul_eq_zero.1 this with h|h
   ·exact h
   ·grind
  obtain⟨r,A,l⟩:=b1E (s ^^ t) 0 d B N O (by rw[a2F];exact a0q _) (by rw[a2F];have:=a0q (B+1);grind);rw[a2F]at l;have S:p2 (B-53)<=p2 (B-52):=a7v (by omega);refine⟨r,A,?_⟩;rw[K];exact⟨by have:=l.1;grind,by have:=l.2;grind⟩
 ·have I:=j v;have h54:p2 (54+d)<=p2 B:=by
   have X:p2 (54+d)=((2^54:Nat):Rat)*p2 d:=by rw[a0G,show(54:Int)=((54:Nat):Int)from rfl,a0R]
   have n3:((2^54:Nat):Rat)*(n:Rat)<=(m:Rat)*((2^c:Nat):Rat)*2:=by exact_mod_cast a0e I
   have m3:=a0r n3 (Rat.le_of_lt G);have h5:(p2 (54+d)-p2 B)*(n:Rat)<=0:=by
    have p:=a0r E (Rat.le_of_lt i);have o:=a0r D (Rat.le_of_lt i);rw[k]at p o;rw[X];generalize (s ^^ t)=u at *;cases u
    ·have:sgR false=1:=rfl;rw[this]at p;grind
    ·have:sgR true=-1:=rfl;rw[this]at o;grind
   apply Classical.byContradiction;intro R;have:=Rat.mul_pos (show 0<p2 (54+d)-p2 B by grind) i;grind
  have T:54+d<=B:=by
   apply Classical.byContradiction;intro R;have h6:=a7v (show B+1<=54+d by omega);have h7:=a2a B;have:=a0q B;grind
  have hsm:p2 d<=p2 (B-54):=a7v (by omega);have e5:p2 (B-53)=2*p2 (B-54):=by rw[<- a2a];congr 1;omega
  have e6:p2 (B-52)=2*p2 (B-53):=by rw[<- a2a];congr 1;omega
  have e7:p2 (B+1)=2*p2 B:=a2a B;have hB0:p2 (B-54)<p2 B:=by
   have h8:p2 (B-54+1)<=p2 B:=a7v (by omega);rw[a2a]at h8;have:=a0q (B-54);grind
  obtain⟨r,A,l⟩:=b1E (s ^^ t) Q d B N O (by have:=g.1;grind) (by have:=g.2;grind);refine⟨r,A,?_⟩;have:=a0q (B-54);exact⟨by have:=l.1;have:=g.1;grind,by have:=l.2;have:=g.2;grind⟩
def b0s (z w:Nat×Nat):Nat×Nat:=(a0b .sub .f64 (a0b .mul .f64 z.1 w.1) (a0b .mul .f64 z.2 w.2),a0b .add .f64 (a0b .mul .f64 z.1 w.2) (a0b .mul .f64 z.2 w.1))
def b4o:Nat×Nat:=(4607181046959943561,4580687535080594718)
def a0T:Nat→Nat×Nat
 |0=>(4607182418800017408,0)
 |n+1=>b0s (a0T n) b4o
structure TE where
 k:Nat
 a:Nat
 b:Nat
 c:Nat
 s:Nat
def b0t (w C:Nat):Bool:=match Ieee.double.read w with
 | .number s m e=>decide (e ≤ -40)&&decide (-1074 ≤ e)&&Nat.ble C 2199023255552 &&
   decide ((if s then -(m:Int)else(m:Int)) ≤ ((C:Int)-1099511627776)*(2^(-40-e).toNat:Nat)+(2^(-40-e).toNat:Nat)) &&
   decide (((C:Int)-1099511627776)*(2^(-40-e).toNat:Nat) ≤ (if s then -(m:Int)else(m:Int))+(2^(-40-e).toNat:Nat))
 |_=>false
def a8X:Nat→Nat×Nat→List TE→Bool
 |k,_,[]=>beq k 360
 |k,z,t::r=>beq t.k k&&beq t.a z.1&&beq t.b z.2&&b0t t.a t.c&&b0t t.b t.s&&a8X (k+1) (b0s (t.a,t.b) b4o) r
def f6X (x y:TE):Bool:=beq x.k y.k||Nat.ble (x.c*y.c+x.s*y.s+2417851639229258349412352) (1208744480741687000301568+1099511627776*(x.c+y.c+x.s+y.s))
def g2J (d:Nat):Bool:=(Nat.ble 20 d&&Nat.ble d 160)||(Nat.ble 200 d&&Nat.ble d 340)
def c7g (x y:TE):Bool:=!(g2J ((y.k+360-x.k)%360)) ||
 Nat.ble (x.s*y.c+1099511627776*(x.c+y.s)+411034778668973948928000) (x.c*y.s+1099511627776*(x.s+y.c)) ||
 Nat.ble (x.c*y.s+1099511627776*(x.s+y.c)+411034778668973948928000) (x.s*y.c+1099511627776*(x.c+y.s))
def e0i (x:TE):Bool:=Nat.ble (1208925819597036988661760+1099511627776*(x.c+x.c+x.s+x.s)) (x.c*x.c+x.s*x.s+2417851639229258349412352) &&
 Nat.ble (x.c*x.c+x.s*x.s+2417851639229258349412352) (1208925819632221360750592+1099511627776*(x.c+x.c+x.s+x.s))
def g0M (w:Nat):Nat:=match Ieee.double.read w with
 |.number s m e=>if s then 1099511627776-m/2^(-40-e).toNat else 1099511627776+m/2^(-40-e).toNat
 |_=>0
def frc (n:Nat) (f:Nat→Bool):Bool:=Nat.casesOn n (f 0) fun m=>f (Nat.succ m)
theorem e7D (n:Nat) (f:Nat→Bool):frc n f=f n:=by cases n<;>rfl
def c7h:Nat→Nat→Nat→Nat→(List TE→Bool)→Bool
 |0,_,_,_,f=>f []
 |n+1,k,a,b,f=>frc (b0s (a,b) b4o).1 fun d=>frc (b0s (a,b) b4o).2 fun b'=>frc (g0M a) fun c=>frc (g0M b) fun s=>frc (k+1) fun k'=>c7h n k' d b' fun r=>f (⟨k,a,b,c,s⟩::r)
theorem b4p:∀(n k a b:Nat) (f:List TE→Bool),c7h n k a b f=true→∃l,f l=true
 |0,_,_,_,f,h=>⟨[],h⟩
 | n+1,k,a,b,f,h=>by
   simp only[c7h,e7D]at h;obtain⟨l,c⟩:=b4p n _ _ _ _ h;exact⟨_,c⟩
theorem c7i:∃l:List TE,(a8X 0 (a0T 0) l&&((l.all fun x=>l.all fun y=>f6X x y&&c7g x y)&&l.all e0i))=true:=
 b4p 360 0 4607182418800017408 0 _ (by decide +kernel)
noncomputable def a9z:List TE:=Classical.choose c7i
theorem a8Y:a8X 0 (a0T 0) a9z=true∧(a9z.all fun x=>a9z.all fun y=>f6X x y&&c7g x y)=true∧(a9z.all e0i)=true:=by
 have h:=Classical.choose_spec c7i;rw[and_eq_true,and_eq_true]at h;exact h
theorem d1U:a8X 0 (a0T 0) a9z=true:=a8Y.1
theorem g0N:(a9z.all fun x=>a9z.all fun y=>f6X x y&&c7g x y)=true:=a8Y.2.1
theorem f6Y:(a9z.all e0i)=true:=a8Y.2.2
theorem b4q:∀(l:List TE) (k:Nat),a8X k (a0T k) l=true→∀j,k ≤ j→j<360→∃t∈l,t.k=j∧(t.a,t.b)=a0T j∧b0t t.a t.c=true∧b0t t.b t.s=true
 | [],k,h,j,h1,h2=>by
   simp only[a8X]at h;have:=a0g h;omega
 | t::r,k,h,j,h1,h2=>by
   simp only[a8X,and_eq_true]at h;obtain⟨⟨⟨⟨⟨a1,a2⟩,b⟩,d⟩,f⟩,a⟩:=h;have e:(t.a,t.b)=a0T k:=by rw[a0g a2,a0g b]
   by_cases c:j=k
   ·subst c;exact⟨t,List.mem_cons_self,a0g a1,e,d,f⟩
   ·rw[e]at a;obtain⟨m,g,i⟩:=b4q r (k+1) a j (by omega) h2;exact⟨m,List.mem_cons_of_mem _ g,i⟩
def Abs (x A:Rat):Prop := -A<=x /\ x<=A
theorem Abs.mono {x A B:Rat} (h:Abs x A) (a:A<=B):Abs x B:=⟨by have:=h.1;grind,by have:=h.2;grind⟩
theorem Abs.nn {x A:Rat} (h:Abs x A):0<=A:=by have:=h.1;have:=h.2;grind
theorem Abs.mul {x y A B:Rat} (a:Abs x A) (b:Abs y B):Abs (x*y) (A*B):=by
 obtain⟨c,d⟩:=a;obtain⟨e,f⟩:=b;have g:=Rat.mul_nonneg (show 0<=A-x by grind) (show 0<=B-y by grind);have p2:=Rat.mul_nonneg (show 0<=A+x by grind) (show 0<=B+y by grind);have h:=Rat.mul_nonneg (show 0<=A-x by grind) (show 0<=B+y by grind);have i:=Rat.mul_nonneg (show 0<=A+x by grind) (show 0<=B-y by grind);constructor<;>grind
theorem Abs.near {x y e:Rat} (h:Abs (x-y) e):b4K x y e:=⟨by have:=h.2;grind,by have:=h.1;grind⟩
def e2z (w:Nat):Rat:=match Ieee.double.read w with
 |.number s m e=>RV s m e
 |_=>0
theorem IsR.val {w:Nat} {q:Rat} (h:IsR w q):q=e2z w:=by
 obtain⟨s,m,e,a,_,rfl⟩:=h;unfold e2z;rw[a]
def hh:Rat:=1/1099511627776
theorem p40:p2 (-40)=hh:=by
 have a:p2 ((40:Int) + -40)=p2 40*p2 (-40):=a0G _ _;have b:p2 ((40:Int) + -40)=1:=by
  have:((40:Int) + -40)=((0:Nat):Int):=by decide
  rw[this,a0R];rfl
 have c:p2 40=1099511627776:=by
  have:(40:Int)=((40:Nat):Int):=rfl;rw[this,a0R];rfl
 rw[b,c]at a;unfold hh;grind
theorem b9y {w C:Nat} (h:b0t w C=true):IsR w (e2z w) /\ C<=2199023255552 /\ b4K (e2z w) (((C:Rat)-1099511627776)*hh) hh:=by
 unfold b0t at h;split at h
 ·rename_i s m e l;simp only[and_eq_true,decide_eq_true_eq]at h;obtain⟨⟨⟨⟨q,f⟩,i⟩,j⟩,k⟩:=h;have b:IsR w (RV s m e):=⟨s,m,e,l,f,rfl⟩;rw[<- b.val];refine⟨b,by simpa using i,?_⟩;have n:RV s m e=(((if s then -(m:Int)else(m:Int)):Int):Rat)*p2 e:=by
   unfold RV;cases s
   ·have:sgR false=1:=rfl;rw[this,if_neg (by decide),Rat.intCast_natCast];grind
   ·have:sgR true=-1:=rfl;rw[this,if_pos rfl,Rat.intCast_neg,Rat.intCast_natCast];grind
  rw[n,<- p40];have d:p2 (-40)=((2^(-40-e).toNat:Nat):Rat)*p2 e:=by
   have:(-40:Int)=((-40-e).toNat:Int)+e:=by omega
   have a:=a0G ((-40-e).toNat:Int) e;rw[<- this,a0R]at a;exact a
  rw[d];have c:=a0q e;have o:(((if s then -(m:Int)else(m:Int)):Int):Rat)<=((C:Rat)-1099511627776)*((2^(-40-e).toNat:Nat):Rat)+((2^(-40-e).toNat:Nat):Rat):=by
   have:=Rat.intCast_le_intCast.2 j;simpa[Rat.intCast_natCast]using this
  have p:((C:Rat)-1099511627776)*((2^(-40-e).toNat:Nat):Rat)<=(((if s then -(m:Int)else(m:Int)):Int):Rat)+((2^(-40-e).toNat:Nat):Rat):=by
   have:=Rat.intCast_le_intCast.2 k;simpa[Rat.intCast_natCast]using this
  generalize ((2^(-40-e).toNat:Nat):Rat)=g at *;generalize (((if s then -(m:Int)else(m:Int)):Int):Rat)=v at *;generalize p2 e=t at *;have m1:=a0r o (Rat.le_of_lt c);have r:=a0r p (Rat.le_of_lt c);constructor<;>grind
 ·cases h
def tc (j:Nat):Rat:=e2z (a0T j).1
def ts (j:Nat):Rat:=e2z (a0T j).2
theorem e0j (j:Nat) (m:j<360):∃t∈a9z,t.k=j /\ IsR (a0T j).1 (tc j) /\ IsR (a0T j).2 (ts j) /\ t.c<=2199023255552 /\ t.s<=2199023255552 /\ b4K (tc j) (((t.c:Rat)-1099511627776)*hh) hh /\ b4K (ts j) (((t.s:Rat)-1099511627776)*hh) hh:=by
 obtain⟨t,k,l,a,b,c⟩:=b4q a9z 0 d1U j (zero_le _) m;have h:t.a=(a0T j).1:=congrArg Prod.fst a;have i:t.b=(a0T j).2:=congrArg Prod.snd a;rw[h]at b;rw[i]at c;obtain⟨a1,a2,d⟩:=b9y b;obtain⟨e,f,g⟩:=b9y c;exact⟨t,k,l,a1,e,a2,f,d,g⟩
theorem tcR {j:Nat} (a:j<360):IsR (a0T j).1 (tc j):=let ⟨_,_,_,h,_⟩:=e0j j a;h
theorem tsR {j:Nat} (a:j<360):IsR (a0T j).2 (ts j):=let ⟨_,_,_,_,h,_⟩:=e0j j a;h
theorem b9z {C:Nat} (h:C<=2199023255552):Abs (((C:Rat)-1099511627776)*hh) 1:=by
 have a:=a2k C;have b:(C:Rat)<=2199023255552:=by exact_mod_cast a0e h
 unfold hh;constructor<;>grind
theorem f6Z {j:Nat} (g:j<360):Abs (tc j) (1+hh) /\ Abs (ts j) (1+hh):=by
 obtain⟨t,_,_,_,_,c,d,e,f⟩:=e0j j g;have a:=b9z c;have b:=b9z d;obtain⟨a1,a2⟩:=a;obtain⟨h,i⟩:=b;obtain⟨k,l⟩:=e;obtain⟨m,n⟩:=f;exact⟨⟨by grind,by grind⟩,by grind,by grind⟩
theorem b9A (n:Int):-360<Int.tmod n 360 /\ Int.tmod n 360<360:=⟨Int.lt_tmod_of_pos n (by decide),Int.tmod_lt_of_pos n (by decide)⟩
theorem c1a {x:Int} (b:-360<x) (a:x<360):Int.tmod x 360=x:=by
 by_cases h:0<=x
 ·exact Int.tmod_eq_of_lt h a
 ·have e:x=-(-x):=by omega
  rw[e,Int.neg_tmod,Int.tmod_eq_of_lt (by omega) (by omega)]
def md (n:Int):Nat:=(Int.tmod (Int.tmod n 360+360) 360).toNat
theorem c7j (n:Int):(md n:Int)=(Int.tmod n 360+360)%360:=by
 unfold md;have:=b9A n;rw[Int.tmod_eq_emod_of_nonneg (by omega)];omega
theorem a7w (n:Int):md n<360:=by
 have:=c7j n;omega
theorem d1V {x:Int} (a:-360<x) (b:x<360):(md x:Int)=(x+360)%360:=by rw[c7j,c1a a b]
theorem e7E (n:Int):Int.tmod (wrap IntKind.i64 (Int.tmod n 360+360)) 360=(md n:Int):=by
 have:=b9A n;rw[w64 (by omega) (by omega),c7j,Int.tmod_eq_emod_of_nonneg (by omega)]
theorem a6U (n:Int):d0S (n,())=some ((md n:Int),()):=by
 unfold d0S;exact congrArg (fun z:Int=>some (z,())) (e7E n)
theorem b1J (n:Int):d8H (n,())=some ((md n:Int),()):=a6U n
def btw (a kb:Int):Int:=let v:Int:=(md ((md kb:Int)-(md a:Int)):Int);if v>360-v then 360-v else v
theorem c7k (a kb:Int):e6a (a,kb,())=some (btw a kb,()):=by
 unfold e6a;have i:=a7w a;have j:=a7w kb;have c:d0S (kb,())=some ((md kb:Int),()):=a6U kb;have d:d0S (a,())=some ((md a:Int),()):=a6U a;have e:d0S ((md kb:Int)-(md a:Int),())=some ((md ((md kb:Int)-(md a:Int)):Int),()):=a6U _;have k:=a7w ((md kb:Int)-(md a:Int));simp only[d5C,d5D,c,d,isSome_some,getD_some,cond_true];rw[w64 (by omega) (by omega)];simp only[e,isSome_some,getD_some,cond_true];have g:wrap IntKind.i64 (0-(md ((md kb:Int)-(md a:Int)):Int))=-(md ((md kb:Int)-(md a:Int)):Int):=by rw[w64 (by omega) (by omega)];omega
 rw[g];have f:d0S (-(md ((md kb:Int)-(md a:Int)):Int),())=some ((md (-(md ((md kb:Int)-(md a:Int)):Int)):Int),()):=a6U _;simp only[f,isSome_some,getD_some,cond_true];have h:=d1V (x := -(md ((md kb:Int)-(md a:Int)):Int)) (by omega) (by omega);have b:a5e (md ((md kb:Int)-(md a:Int)):Int) (md (-(md ((md kb:Int)-(md a:Int)):Int)):Int)=btw a kb:=by
  unfold btw a5e;generalize md ((md kb:Int)-(md a:Int))=v at *;rw[h];dsimp only;split<;>split<;>omega
 exact congrArg (fun z:Int=>some (z,())) b
theorem c7l (a kb:Int):e4g (a,kb,())=some (btw a kb,()):=by
 unfold e4g;have g:=a7w a;have h:=a7w kb;have b:d8H (kb,())=some ((md kb:Int),()):=b1J kb;have d:d8H (a,())=some ((md a:Int),()):=b1J a;have e:d8H ((md kb:Int)-(md a:Int),())=some ((md ((md kb:Int)-(md a:Int)):Int),()):=b1J _;have i:=a7w ((md kb:Int)-(md a:Int));simp only[d8I,d8J,b,d,isSome_some,getD_some,cond_true];rw[w64 (by omega) (by omega)];simp only[e,isSome_some,getD_some,cond_true];have f:wrap IntKind.i64 (360-(md ((md kb:Int)-(md a:Int)):Int))=360-(md ((md kb:Int)-(md a:Int)):Int):=w64 (by omega) (by omega);rw[f];unfold btw;generalize md ((md kb:Int)-(md a:Int))=v at *;dsimp only;by_cases c:(v:Int)>360-(v:Int)
 ·have:decide ((v:Int)>360-(v:Int))=true:=by simpa using c
  rw[this,if_pos c];rfl
 ·have:decide ((v:Int)>360-(v:Int))=false:=by simpa using c
  rw[this,if_neg c];rfl
theorem c7m (z w:Nat×Nat):e5N (z,w,())=some (b0s z w,()):=rfl
theorem c7n (z w:Nat×Nat):e3V (z,w,())=some (b0s z w,()):=rfl
theorem e0k (n:Int):e9U (n,())=some (a0T (md n),()):=by
 have g:=a7w n;have a:d0S (n,())=some ((md n:Int),()):=a6U n;have e:b8w (((4607182418800017408,0),(md n:Int),()),())=some ((a0T (md n),()),()):=by
  have:=a1K (q:=b3K) (fun k=>((a0T k,((md n-k:Nat):Int),()),())) (md n) ((a0T (md n),()),()) ?_ ?_ (b8v (((4607182418800017408,0),(md n:Int),()),())) ?_
  ·exact this
  ·intro k f h;unfold b3K;have b:decide (((md n-k:Nat):Int)>0)=true:=by simp;omega
   have c:wrap IntKind.i64 (((md n-k:Nat):Int)-1)=((md n-(k+1):Nat):Int):=by rw[w64 (by omega) (by omega)];omega
   have d:e5N (a0T k,(4607181046959943561,4580687535080594718),())=some (a0T (k+1),()):=c7m _ _;simp only[b,c,e5O,e5P,d,isSome_some,getD_some,cond_true]
  ·intro f;unfold b3K;simp
  ·simp only[b8v];omega
 unfold e9U;simp only[d5C,d5D,a,c5n,c5o,e,isSome_some,getD_some,cond_true]
theorem e0l (n:Int):e9r (n,())=some (a0T (md n),()):=by
 have h:=a7w n;have a:d8H (n,())=some ((md n:Int),()):=b1J n;have g:b7P (((4607182418800017408,0),(md n:Int),()),())=some ((a0T (md n),()),()):=by
  have:=a1K (q:=b3m) (fun k=>((a0T k,((md n-k:Nat):Int),()),())) (md n) ((a0T (md n),()),()) ?_ ?_ (b7O (((4607182418800017408,0),(md n:Int),()),())) ?_
  ·exact this
  ·intro k f i;unfold b3m;have b:decide (((md n-k:Nat):Int)>0)=true:=by simp;omega
   have c:wrap IntKind.i64 (((md n-k:Nat):Int)-1)=((md n-(k+1):Nat):Int):=by rw[w64 (by omega) (by omega)];omega
   have d:e3V (a0T k,b4o,())=some (a0T (k+1),()):=c7n _ _;have e:e9m ()=some (b4o,()):=rfl;simp only[b,c,e3T,e3U,e,e3W,e3X,d,isSome_some,getD_some,cond_true]
  ·intro f;unfold b3m;simp
  ·simp only[b7O];omega
 unfold e9r;simp only[d8I,d8J,a,c3X,c3Y,g,isSome_some,getD_some,cond_true]
def a9A (z w:Nat×Nat):Nat:=a0b .add .f64 (a0b .mul .f64 z.1 w.1) (a0b .mul .f64 z.2 w.2)
def bm (z:Nat×Nat):Nat->Int×Nat
 |0=>(0,0)
 |k+1=>bif (k:Int)==0 then((k:Int),a9A z (a0T k))else bif fgt .f64 (a9A z (a0T k)) (bm z k).2 then((k:Int),a9A z (a0T k))else bm z k
theorem e0m (z:Nat×Nat) (k:Nat):e9P (((k:Int),a0T k,(),(),(),()),(z,(bm z k).2,(bm z k).1,()))=some ((),(z,(bm z (k+1)).2,(bm z (k+1)).1,())):=by
 unfold e9P;have a:e9O (z,a0T k,())=some (a9A z (a0T k),()):=rfl;simp only[e5M,e2j,a,isSome_some,getD_some,cond_true,bm];cases (k:Int)==0
 ·simp only[cond_false];cases fgt .f64 (a9A z (a0T k)) (bm z k).2<;>rfl
 ·rfl
theorem e0n (z:Nat×Nat):e9Q (((),()),z,0,0,())=some ((),(z,(bm z 360).2,(bm z 360).1,())):=by
 have d:b8l (((),(4607182418800017408,0),0,()),(z,()),(0,()),(0,()),())=some ((),(z,()),((bm z 360).2,()),((bm z 360).1,()),()):=by
  have:=a1K (q:=b3G) (fun k=>(((),a0T k,(k:Int),()),(z,()),((bm z k).2,()),((bm z k).1,()),())) 360 ((),(z,()),((bm z 360).2,()),((bm z 360).1,()),()) ?_ ?_ (b8k (((),(4607182418800017408,0),0,()),(z,()),(0,()),(0,()),())) ?_
  ·exact this
  ·intro k f e;unfold b3G;have a:decide ((k:Int)<360)=true:=by simp;omega
   have b:e5N (a0T k,(4607181046959943561,4580687535080594718),())=some (a0T (k+1),()):=c7m _ _;have c:=e0m z k;simp only[a,a2H k (by omega),e5O,e5P,b,f4x,f4y,c,isSome_some,getD_some,cond_true]
  ·intro f;unfold b3G;simp
  ·simp[b8k]
 unfold e9Q;simp only[c5e,c5f,d,isSome_some,getD_some,cond_true]
def c7o (z:Nat×Nat):Bool:=feq .f64 z.1 0&&feq .f64 z.2 0
def b1K (z:Nat×Nat):Int:=bif !a3K z then -1 else bif c7o z then -1 else(bm z 360).1
theorem e0o (z:Nat×Nat):e5R (z,())=some (b1K z,()):=by
 unfold e5R b1K;have a:F61 (z,())=some (a3K z,()):=b8U z;have b:=e0n z;simp only[K61,G61,a,f4C,f4D,b,isSome_some,getD_some,cond_true];show(bif !a3K z then some (-1,())else bif c7o z then some (-1,())else some ((bm z 360).1,()))=_;cases a3K z<;>cases c7o z<;>rfl
def bs (z:Nat×Nat):Nat->Int×Nat
 |0=>(0,a9A z (a0T 0))
 |k+1=>bif fgt .f64 (a9A z (a0T (k+1))) (bs z k).2 then(((k+1:Nat):Int),a9A z (a0T (k+1)))else bs z k
def gk (x g:Nat):Nat->Nat
 |0=>g
 |k+1=>a0b .quo .f64 (a0b .add .f64 (gk x g k) (a0b .quo .f64 x (gk x g k))) 4611686018427387904
def b1L (x:Nat):Nat:=bif (fgt .f64 x 4427486594234968593||feq .f64 x 4427486594234968593)then(bif !(flt .f64 x 4861130398305394688||feq .f64 x 4861130398305394688)then 0 else gk x (b1Y .f64 x 4607182418800017408) 60)else 0
set_option maxRecDepth 100000 in
theorem e0p (x:Nat):e5V (x,())=some (b1L x,()):=by
 have b:b8o ((x,b1Y .f64 x 4607182418800017408,0,()),())=some ((gk x (b1Y .f64 x 4607182418800017408) 60,()),()):=by
  have:=a1K (q:=b3H) (fun k=>((x,gk x (b1Y .f64 x 4607182418800017408) k,(k:Int),()),())) 60 ((gk x (b1Y .f64 x 4607182418800017408) 60,()),()) ?_ ?_ (b8n ((x,b1Y .f64 x 4607182418800017408,0,()),())) ?_
  ·exact this
  ·intro k f c;unfold b3H;have a:decide ((k:Int)<60)=true:=by simp;omega
   simp only[a,a2H k (by omega),cond_true];rfl
  ·intro f;unfold b3H;simp
  ·simp[b8n]
 unfold e5V b1L;simp only[c5g,c5h,b,isSome_some,getD_some,cond_true];generalize gk x (b1Y .f64 x 4607182418800017408) 60=g;cases (fgt .f64 x 4427486594234968593||feq .f64 x 4427486594234968593)<;>cases (flt .f64 x 4861130398305394688||feq .f64 x 4861130398305394688)<;>rfl
def c8Q (z:Nat×Nat):Nat:=bif !a3K z then 0 else b1L (a9A z z)
theorem e0q (z:Nat×Nat):e5X (z,())=some (c8Q z,()):=by
 unfold e5X c8Q;have a:F61 (z,())=some (a3K z,()):=b8U z;have b:e9O (z,z,())=some (a9A z z,()):=rfl;have c:e5V (a9A z z,())=some (b1L (a9A z z),()):=e0p _;simp only[K61,G61,a,e5M,e2j,b,f4O,f4P,c,isSome_some,getD_some,cond_true];cases a3K z<;>rfl
end Go.Proofs.YtjomnmoekchfeaaGreatDoor.AM
