/- Texts of one proof, joined: an abstract machine for the program, its functions evaluated, plain lemmas. Conditions: those that each lemma names. -/
import Derived.Test.YtjomnmoekchfeaaGreatDoorM5
set_option linter.unusedVariables false
set_option linter.unusedSimpArgs false
namespace Go.Proofs.YtjomnmoekchfeaaGreatDoor.AM
open IntKind (wrap)
open List (length replicate getD set length_append)
open Int (toNat toNat_natCast)
open Option (getD_some isSome_some)
open Bool (and_eq_true)
open FloatKind (nearest)
open Nat (le_refl zero_le)
open Option.some (injEq)
open Go Go.Proofs
theorem e4l (n:Int) (h:n.natAbs<=9223372036854775808):d1z (n,())=true /\ (b2m (n,())).1.size<=20:=by
 unfold d1z b2m;rw[c3T n h];exact⟨rfl,by rw[getD_some,a2P];exact(a4T n h).2⟩
theorem c9a (n:Int):K83 (n,())=true /\ (G83 (n,())).1.size<=50:=by
 unfold K83 G83;rw[f3W n];exact⟨rfl,by rw[getD_some,a2P];exact e0T n⟩
theorem e0U (n:Int):(IntKind.i64.wrap n).natAbs<=9223372036854775808:=by
 have:=d4q n;unfold I64 at this;omega
theorem sz {a b:ByteArray} {n m:Nat} (h1:a.size<=n) (h2:b.size<=m) (h:n+m<=9223372036854775807):decide (a.size+b.size<=9223372036854775807)=true:=decide_eq_true (by omega)
theorem szA {a b:ByteArray} {n m:Nat} (h1:a.size<=n) (h2:b.size<=m):(a++b).size<=n+m:=by rw[ByteArray.size_append];omega
set_option maxRecDepth 100000 in
theorem c1L (x:I67.den) (h:a0h x.2.1) (hg:a0W x.1.2.1.2.2.1) (hl:x.1.2.1.2.2.1.length<=13):Pst (F67 x) fun y=>a0h y.2.1 /\ y.1.1.size<=2000:=by
 unfold F67 r67;dsimp only;have a2x:∀(n:Int) (c:(List Int×Int×Int×Unit)×Unit),a0h c.1->0<n->0<=((G34 (((),n,()),c)).1.1:Int) /\ ((G34 (((),n,()),c)).1.1:Int)<n:=fun n c h hn=>a1m n c.1 h hn
 have b365:∀z:Int,0<=z /\ z<365->z.natAbs<=9223372036854775808:=fun z h=>by omega
 refine a0n (a0C _ h) ?_;have c0:a0h (G34 (((),12,()),x.snd)).2.1:=a0d _ h;generalize G34 (((),12,()),x.snd)=A at *;have steer:Pst (bif K34 (((),365,()),A.snd)then
  bif d1z (G34 (((),365,()),A.snd)).fst then
   bif decide (ByteArray.size { data:=#[115,116,101,101,114,32] }+ByteArray.size (b2m (G34 (((),365,()),A.snd)).fst).fst<=9223372036854775807)then
    some ((({ data:=#[115,116,101,101,114,32] }++(b2m (G34 (((),365,()),A.snd)).fst).fst,()),(G34 (((),365,()),A.snd)).snd):O67.den)
   else none
  else none
  else none) fun y=>a0h y.2.1 /\ y.1.1.size<=2000:=by
  refine a0n (a0C _ c0) ?_;have c1:a0h (G34 (((),365,()),A.snd)).2.1:=a0d _ c0;have b1:=a2x 365 A.snd c0 (by decide);generalize G34 (((),365,()),A.snd)=B at *;obtain⟨k1,s1⟩:=e4l B.1.1 (b365 _ b1);refine a0n k1 (a0n (sz (n:=6) (m:=20) (le_refl _) s1 (by decide)) (a0s ⟨c1,Nat.le_trans (szA (n:=6) (m:=20) (le_refl _) s1) (by decide)⟩))
 have wind:Pst (bif K34 (((),25,()),A.snd)then
  bif K83 (wrap IntKind.i64 (wrap IntKind.i64 (1000*(G34 (((),25,()),A.snd)).fst.fst)-12000),())then
   bif decide (ByteArray.size { data:=#[119,105,110,100,32] }+ByteArray.size (G83 (wrap IntKind.i64 (wrap IntKind.i64 (1000*(G34 (((),25,()),A.snd)).fst.fst)-12000),())).fst<=9223372036854775807)then
    bif decide (ByteArray.size ({ data:=#[119,105,110,100,32] }++(G83 (wrap IntKind.i64 (wrap IntKind.i64 (1000*(G34 (((),25,()),A.snd)).fst.fst)-12000),())).fst)+ByteArray.size { data:=#[32] }<=9223372036854775807)then
     bif K34 (((),49,()),(G34 (((),25,()),A.snd)).snd)then
      bif K83 (wrap IntKind.i64 (wrap IntKind.i64 (500*(G34 (((),49,()),(G34 (((),25,()),A.snd)).snd)).fst.fst)-12000),())then
       bif decide (ByteArray.size ({ data:=#[119,105,110,100,32] }++(G83 (wrap IntKind.i64 (wrap IntKind.i64 (1000*(G34 (((),25,()),A.snd)).fst.fst)-12000),())).fst++{ data:=#[32] })+ByteArray.size (G83 (wrap IntKind.i64 (wrap IntKind.i64 (500*(G34 (((),49,()),(G34 (((),25,()),A.snd)).snd)).fst.fst)-12000),())).fst<=9223372036854775807)then
        some (((({ data:=#[119,105,110,100,32] }++(G83 (wrap IntKind.i64 (wrap IntKind.i64 (1000*(G34 (((),25,()),A.snd)).fst.fst)-12000),())).fst++{ data:=#[32] })++(G83 (wrap IntKind.i64 (wrap IntKind.i64 (500*(G34 (((),49,()),(G34 (((),25,()),A.snd)).snd)).fst.fst)-12000),())).fst,()),(G34 (((),49,()),(G34 (((),25,()),A.snd)).snd)).snd):O67.den)
       else none
      else none
     else none
    else none
   else none
  else none
  else none) fun y=>a0h y.2.1 /\ y.1.1.size<=2000:=by
  refine a0n (a0C _ c0) ?_;have c1:a0h (G34 (((),25,()),A.snd)).2.1:=a0d _ c0;generalize G34 (((),25,()),A.snd)=B at *;obtain⟨k1,s1⟩:=c9a (wrap IntKind.i64 (wrap IntKind.i64 (1000*B.fst.fst)-12000));have s2:=szA (n:=5) (m:=50) (a:={ data:=#[119,105,110,100,32] }) (le_refl _) s1;have s3:=szA (m:=1) (b:={ data:=#[32] }) s2 (le_refl _);refine a0n k1 (a0n (sz (n:=5) (m:=50) (le_refl _) s1 (by decide)) (a0n (sz (m:=1) s2 (le_refl _) (by decide)) ?_));refine a0n (a0C _ c1) ?_;have c2:a0h (G34 (((),49,()),B.snd)).2.1:=a0d _ c1;generalize G34 (((),49,()),B.snd)=D at *;obtain⟨k2,s4⟩:=c9a (wrap IntKind.i64 (wrap IntKind.i64 (500*D.fst.fst)-12000));exact a0n k2 (a0n (sz s3 s4 (by decide)) (a0s ⟨c2,Nat.le_trans (szA s3 s4) (by decide)⟩))
 have sail:Pst (bif decide ((↑(length x.fst.snd.fst.snd.snd.fst):Int)>0)then
  bif K77 (((),5,()),A.snd)then
   bif !(G77 (((),5,()),A.snd)).fst.fst then
    bif K34 (((),(↑(length x.fst.snd.fst.snd.snd.fst):Int),()),(G77 (((),5,()),A.snd)).snd)then
     bif decide (0<=(G34 (((),(↑(length x.fst.snd.fst.snd.snd.fst):Int),()),(G77 (((),5,()),A.snd)).snd)).fst.fst)&&decide ((G34 (((),(↑(length x.fst.snd.fst.snd.snd.fst):Int),()),(G77 (((),5,()),A.snd)).snd)).fst.fst<(↑(length x.fst.snd.fst.snd.snd.fst):Int))then
      bif decide (ByteArray.size { data:=#[115,97,105,108,32] }+ByteArray.size (getD x.fst.snd.fst.snd.snd.fst (toNat (G34 (((),(↑(length x.fst.snd.fst.snd.snd.fst):Int),()),(G77 (((),5,()),A.snd)).snd)).fst.fst) (zero S68)).fst<=9223372036854775807)then
       some ((({ data:=#[115,97,105,108,32] }++(getD x.fst.snd.fst.snd.snd.fst (toNat (G34 (((),(↑(length x.fst.snd.fst.snd.snd.fst):Int),()),(G77 (((),5,()),A.snd)).snd)).fst.fst) (zero S68)).fst,()),(G34 (((),(↑(length x.fst.snd.fst.snd.snd.fst):Int),()),(G77 (((),5,()),A.snd)).snd)).snd):O67.den)
      else none
     else none
    else none
   else some ((({ data:=#[115,97,105,108,32] }++{ data:=#[110,111,110,101] },()),(G77 (((),5,()),A.snd)).snd):O67.den)
  else none
  else some ((({ data:=#[115,97,105,108,32] }++{ data:=#[110,111,110,101] },()),A.snd):O67.den)) fun y=>a0h y.2.1 /\ y.1.1.size<=2000:=by
  have none9:ByteArray.size ({ data:=#[115,97,105,108,32] }++{ data:=#[110,111,110,101] })<=2000:=Nat.le_trans (szA (n:=5) (m:=4) (le_refl _) (le_refl _)) (by decide);refine a1x (fun hp=>?_) (fun _=>a0s ⟨c0,none9⟩);have hpos:0<x.1.2.1.2.2.1.length:=by
   have:=of_decide_eq_true hp;show 0<length x.fst.snd.fst.snd.snd.fst;omega
  refine a0n (a2i _ c0) ?_;have c1:a0h (G77 (((),5,()),A.snd)).2.1:=a0f _ c0;generalize G77 (((),5,()),A.snd)=B at *;refine a1x (fun _=>?_) (fun _=>a0s ⟨c1,none9⟩);refine a0n (a0C _ c1) ?_;have c2:a0h (G34 (((),(↑(length x.fst.snd.fst.snd.snd.fst):Int),()),B.snd)).2.1:=a0d _ c1;have b2:=a2x (↑(length x.fst.snd.fst.snd.snd.fst):Int) B.snd c1 (by omega);generalize G34 (((),(↑(length x.fst.snd.fst.snd.snd.fst):Int),()),B.snd)=D at *;have hat:(getD x.fst.snd.fst.snd.snd.fst (toNat D.fst.fst) (zero S68)).fst.size<=1000:=(hg.at _).1;refine a0n (by rw[decide_eq_true b2.1,decide_eq_true b2.2];rfl) (a0n (sz (n:=5) (le_refl _) hat (by decide)) (a0s ⟨c2,Nat.le_trans (szA (n:=5) (le_refl _) hat) (by decide)⟩))
 refine a1x (fun _=>steer) (fun _=>a1x (fun _=>steer) (fun _=>a1x (fun _=>wind) (fun _=>a1x (fun _=>wind) (fun _=>a1x (fun _=>sail) (fun _=>a1x (fun _=>sail) (fun _=>a1x (fun _=>?_) (fun _=>a1x (fun _=>?_) (fun _=>?_))))))))
 ·refine a0n (a0C _ c0) ?_;have c1:a0h (G34 (((),200000,()),A.snd)).2.1:=a0d _ c0;generalize G34 (((),200000,()),A.snd)=B at *;obtain⟨k1,s1⟩:=c9a (wrap IntKind.i64 (B.fst.fst-100000));have s2:=szA (n:=4) (m:=50) (a:={ data:=#[102,105,120,32] }) (le_refl _) s1;have s3:=szA (m:=2) (b:={ data:=#[32,32] }) s2 (le_refl _);refine a0n k1 (a0n (sz (n:=4) (m:=50) (le_refl _) s1 (by decide)) (a0n (sz (m:=2) s2 (le_refl _) (by decide)) ?_));refine a0n (a0C _ c1) ?_;have c2:a0h (G34 (((),200000,()),B.snd)).2.1:=a0d _ c1;generalize G34 (((),200000,()),B.snd)=D at *;obtain⟨k2,s4⟩:=c9a (wrap IntKind.i64 (D.fst.fst-100000));exact a0n k2 (a0n (sz s3 s4 (by decide)) (a0s ⟨c2,Nat.le_trans (szA s3 s4) (by decide)⟩))
 ·have hall:∀l:List ByteArray,(l.all fun s=>Nat.ble s.size 1000)=true->∀s∈l,s.size<=1000:=fun l h s hs=>Nat.le_of_ble_eq_true (List.all_eq_true.1 h s hs)
  have key:∀L:List ByteArray,(L.all fun s=>Nat.ble s.size 1000)=true->0<L.length ->
   Pst (bif c2S (((),(),()),A.snd.fst,L,())then some (((b9S (((),(),()),A.snd.fst,L,())).fst,(b9S (((),(),()),A.snd.fst,L,())).snd.fst,()):O67.den)else none) fun y=>a0h y.2.1 /\ y.1.1.size<=2000:=by
   intro L h1 h2;refine a0n (d4o _ c0 h2) ?_;obtain⟨c1,m1⟩:=d4p (((),(),()),A.snd.fst,L,()) c0 h2;exact a0s ⟨c1,Nat.le_trans (hall _ h1 _ m1) (by decide)⟩
  exact key _ rfl (by simp only[List.length_set,List.length_replicate];decide)
 ·refine a0n (a0C _ c0) ?_;have c1:a0h (G34 (((),40,()),A.snd)).2.1:=a0d _ c0;generalize G34 (((),40,()),A.snd)=B at *;refine a0n (a0C _ c1) ?_;have c2:a0h (G34 (((),40,()),B.snd)).2.1:=a0d _ c1;generalize G34 (((),40,()),B.snd)=D at *;obtain⟨k1,s1⟩:=e4l (wrap IntKind.i64 (1+wrap IntKind.i64 (B.fst.fst*D.fst.fst))) (e0U _);exact a0n k1 (a0n (sz (n:=3) (m:=20) (le_refl _) s1 (by decide)) (a0s ⟨c2,Nat.le_trans (szA (n:=3) (m:=20) (le_refl _) s1) (by decide)⟩))
theorem e0V (x:I67.den) (h:a0h x.2.1) (hg:a0W x.1.2.1.2.2.1) (hl:x.1.2.1.2.2.1.length<=13):K67 x=true:=a2K (c1L x h hg hl)
theorem e0W (x:I67.den) (h:a0h x.2.1) (hg:a0W x.1.2.1.2.2.1) (hl:x.1.2.1.2.2.1.length<=13):a0h (G67 x).2.1 /\ (G67 x).1.1.size<=2000:=a3f _ (c1L x h hg hl)
def a8a (l:List ByteArray):Prop:=l.length<=30 /\ ∀s∈l,s.size<=2000
set_option maxRecDepth 100000 in
theorem b3G (v:a9K) (hc:a0h v.2.1) (hg:a0W v.2.2.1.2.2.2.2.2.1) (hl:v.2.2.1.2.2.2.2.2.1.length<=13) (hn:(v.1.2.2.2.1:Int)+v.2.2.2.1.length<=30) (hn':(v.2.2.2.1.length:Int)<=30) (hs:∀s∈v.2.2.2.1,s.size<=2000) :
 Pst (e5Y v) fun y=>a0h y.2.1 /\ a8a y.2.2.1:=by
 refine a0V (q:=d9c K34 G34 K83 G83 K67 G67) (fun v=>a0h v.2.1 /\ a0W v.2.2.1.2.2.2.2.2.1 /\ v.2.2.1.2.2.2.2.2.1.length<=13 /\ (v.1.2.2.2.1:Int)+v.2.2.2.1.length<=30 /\ (v.2.2.2.1.length:Int)<=30 /\ ∀s∈v.2.2.2.1,s.size<=2000)
  (fun _ r=>Pst r fun y=>a0h y.2.1 /\ a8a y.2.2.1) (fun v=>v.1.2.2.2.1.toNat) ?_ _ _ ⟨hc,hg,hl,hn,hn',hs⟩ (Nat.lt_of_lt_of_le (m:=1000) (by show(v.1.2.2.2.1:Int).toNat<1000;omega) (Nat.le_add_left _ _))
 clear hc hg hl hn hn' hs v;rintro⟨⟨_,_,_,n,_⟩,c,B,ls,_⟩ f ⟨g0,g1,g2,g3,g4,g5⟩ ih;dsimp only at g0 g1 g2 g3 g4 g5 ih;unfold d9c;dsimp only;by_cases hk:n>0
 ·refine a0n (by simpa using hk) ?_;have key:∀b:Den S40,b.2.2.1=B.2.2.2.2.2.1->Pst (bif K67 (((),b,()),c,())then
   bif a0D (length ls+length (set (replicate 1 (zero Ty.str)) 0 (G67 (((),b,()),c,())).fst.fst))then
    f (((),(),(),wrap IntKind.i64 (n-1),()),(G67 (((),b,()),c,())).snd.fst,B,ls++set (replicate 1 (zero Ty.str)) 0 (G67 (((),b,()),c,())).fst.fst,())
   else none
   else none) fun y=>a0h y.2.1 /\ a8a y.2.2.1:=by
   intro b hb;have g1':a0W b.2.2.1:=by rw[hb];exact g1
   have g2':b.2.2.1.length<=13:=by rw[hb];exact g2
   refine a0n (e0V (((),b,()),c,()) g0 g1' g2') ?_;obtain⟨c1,s1⟩:=e0W (((),b,()),c,()) g0 g1' g2';generalize G67 (((),b,()),c,())=y at *;have e:IntKind.i64.wrap (n-1)=n-1:=w64 (by omega) (by omega);have e1:∀z:ByteArray,set (replicate 1 (zero Ty.str)) 0 z=[z]:=fun _=>rfl
   rw[e1,e];refine a0n (a0K (by rw[List.length_singleton];omega)) ?_;refine ih _ ⟨c1,g1,g2,?_,?_,?_⟩ ?_
   ·show n-1+((ls++[y.1.1]).length:Int)<=30;rw[length_append,List.length_singleton];omega
   ·show((ls++[y.1.1]).length:Int)<=30;rw[length_append,List.length_singleton];omega
   ·intro s hs;rcases List.mem_append.1 hs with h|h
    ·exact g5 s h
    ·rw[List.mem_singleton.1 h];exact s1
   ·show(n-1).toNat<n.toNat;omega
  exact key _ rfl
 ·have hd:decide (n>0)=false:=by simpa using hk
  rw[hd];exact a0s ⟨g0,by show ls.length<=30;omega,g5⟩
theorem d5A (v:a9K) (hc:a0h v.2.1) (hg:a0W v.2.2.1.2.2.2.2.2.1) (hl:v.2.2.1.2.2.2.2.2.1.length<=13) (hn:(v.1.2.2.2.1:Int)+v.2.2.2.1.length<=30) (hn':(v.2.2.2.1.length:Int)<=30) (hs:∀s∈v.2.2.2.1,s.size<=2000) :
 b3g v=true /\ a0h (b1t v).2.1 /\ a8a (b1t v).2.2.1:=⟨a2K (b3G v hc hg hl hn hn' hs),a3f _ (b3G v hc hg hl hn hn' hs)⟩
set_option maxRecDepth 100000 in
theorem c6S (x:I35.den) (h:a0h x.2.1) (hg:a0W x.1.2.1.2.2.1) (hl:x.1.2.1.2.2.1.length<=13):Pst (F35 x) fun y=>a0h y.2.1 /\ a8a y.2.2.1:=by
 unfold F35 r35;dsimp only;have a2x:∀(n:Int) (c:(List Int×Int×Int×Unit)×Unit),a0h c.1->0<n->0<=((G34 (((),n,()),c)).1.1:Int) /\ ((G34 (((),n,()),c)).1.1:Int)<n:=fun n c h hn=>a1m n c.1 h hn
 have b9:∀(z:Int) (k:Nat),0<=z /\ z<9->k<=2->z+(k:Int)<=30:=fun z k h hk=>by omega
 have e1:∀z:ByteArray,set (replicate 1 (zero Ty.str)) 0 z=[z]:=fun _=>rfl
 refine a0n (a0C _ h) ?_;have c0:a0h (G34 (((),33,()),x.snd)).2.1:=a0d _ h;generalize G34 (((),33,()),x.snd)=A at *;obtain⟨k1,s1⟩:=c9a (wrap IntKind.i64 (wrap IntKind.i64 (500*A.fst.fst)-8000));have s2:=szA (n:=5) (m:=50) (a:={ data:=#[119,105,110,100,32] }) (le_refl _) s1;have s3:=szA (m:=1) (b:={ data:=#[32] }) s2 (le_refl _);refine a0n k1 (a0n (sz (n:=5) (m:=50) (le_refl _) s1 (by decide)) (a0n (sz (m:=1) s2 (le_refl _) (by decide)) ?_));refine a0n (a0C _ c0) ?_;have c1:a0h (G34 (((),33,()),A.snd)).2.1:=a0d _ c0;generalize G34 (((),33,()),A.snd)=B at *;obtain⟨k2,s4⟩:=c9a (wrap IntKind.i64 (wrap IntKind.i64 (500*B.fst.fst)-8000));refine a0n k2 (a0n (sz s3 s4 (by decide)) ?_);have s5:=szA s3 s4;generalize { data:=#[119,105,110,100,32] }++(G83 (wrap IntKind.i64 (wrap IntKind.i64 (500*A.fst.fst)-8000),())).fst++{ data:=#[32] }++(G83 (wrap IntKind.i64 (wrap IntKind.i64 (500*B.fst.fst)-8000),())).fst=w at *;refine a1x (fun hp=>?_) (fun _=>?_)
 ·have hpos:0<length x.fst.snd.fst.snd.snd.fst:=by
   have:=of_decide_eq_true hp;omega
  refine a0n (by have:decide (0<((length x.fst.snd.fst.snd.snd.fst:Nat):Int))=true:=decide_eq_true (by omega);rw[this];rfl) ?_;have hat:(getD x.fst.snd.fst.snd.snd.fst (toNat 0) (zero S68)).fst.size<=1000:=(hg.at _).1;refine a0n (sz (n:=5) (le_refl _) hat (by decide)) ?_;have s6:=szA (n:=5) (a:={ data:=#[115,97,105,108,32] }) (le_refl _) hat;refine a0n (a0C _ c1) ?_;have c2:a0h (G34 (((),9,()),B.snd)).2.1:=a0d _ c1;have b2:=a2x 9 B.snd c1 (by decide);generalize G34 (((),9,()),B.snd)=D at *;generalize { data:=#[115,97,105,108,32] }++(getD x.fst.snd.fst.snd.snd.fst (toNat 0) (zero S68)).fst=u at *;simp only[e1];have hall:∀s∈[w]++[u],s.size<=2000:=fun s hs=>by
   rcases List.mem_append.1 hs with h|h
   ·rw[List.mem_singleton.1 h];exact Nat.le_trans s5 (by decide)
   ·rw[List.mem_singleton.1 h];exact Nat.le_trans s6 (by decide)
  have key:∀v:a9K,a0h v.2.1->a0W v.2.2.1.2.2.2.2.2.1->v.2.2.1.2.2.2.2.2.1.length<=13->(v.1.2.2.2.1:Int)+v.2.2.2.1.length<=30->(v.2.2.2.1.length:Int)<=30->(∀s∈v.2.2.2.1,s.size<=2000) ->
   Pst (bif b3g v then some ((((),()),(b1t v).snd):O35.den)else none) fun y=>a0h y.2.1 /\ a8a y.2.2.1:=fun v a1 a2 a3 a4 a5 a6=>by
   obtain⟨d0,d1,d2⟩:=d5A v a1 a2 a3 a4 a5 a6;exact a0n d0 (a0s ⟨d1,d2⟩)
  exact key _ c2 hg hl (b9 _ 2 b2 (by decide)) (by show(2:Int)<=30;decide) hall
 ·refine a0n (a0C _ c1) ?_;have c2:a0h (G34 (((),9,()),B.snd)).2.1:=a0d _ c1;have b2:=a2x 9 B.snd c1 (by decide);generalize G34 (((),9,()),B.snd)=D at *;simp only[e1];have hall:∀s∈[w],s.size<=2000:=fun s hs=>by rw[List.mem_singleton.1 hs];exact Nat.le_trans s5 (by decide)
  have key:∀v:a9K,a0h v.2.1->a0W v.2.2.1.2.2.2.2.2.1->v.2.2.1.2.2.2.2.2.1.length<=13->(v.1.2.2.2.1:Int)+v.2.2.2.1.length<=30->(v.2.2.2.1.length:Int)<=30->(∀s∈v.2.2.2.1,s.size<=2000) ->
   Pst (bif b3g v then some ((((),()),(b1t v).snd):O35.den)else none) fun y=>a0h y.2.1 /\ a8a y.2.2.1:=fun v a1 a2 a3 a4 a5 a6=>by
   obtain⟨d0,d1,d2⟩:=d5A v a1 a2 a3 a4 a5 a6;exact a0n d0 (a0s ⟨d1,d2⟩)
  exact key _ c2 hg hl (b9 _ 1 b2 (by decide)) (by show(1:Int)<=30;decide) hall
theorem f3X (x:I35.den) (h:a0h x.2.1) (hg:a0W x.1.2.1.2.2.1) (hl:x.1.2.1.2.2.1.length<=13):K35 x=true:=a2K (c6S x h hg hl)
theorem f3Y (x:I35.den) (h:a0h x.2.1) (hg:a0W x.1.2.1.2.2.1) (hl:x.1.2.1.2.2.1.length<=13):a0h (G35 x).2.1 /\ a8a (G35 x).2.2.1:=a3f _ (c6S x h hg hl)
def a4U (b:Den S40):Bool:=a3a b.1&&(a4R b.2.1&&(a3k b.2.2.1&&(decide ((b.2.2.1.length:Int)>0)&&b1K b.2.2.2.1)))
theorem f3Z (b:Den S40) (h:a6v b):F42 (b,())=some (a4U b,()):=by
 obtain⟨P,T,S,C,_⟩:=b;obtain⟨hP,hT,⟨hS,hl⟩,hC⟩:=h;have k1:=e3X P;have k2:=d4U T hT;have k3:=d4k S (hS.good hl);have k4:=f3n C (by have:C.2.1.length<=22:=hC;omega);unfold F42 r42 a4U;dsimp only;simp only[K90,G90,k1,K91,G91,k2,K92,G92,k3,K93,G93,k4,isSome_some,getD_some,cond_true];cases a3a P
 ·rfl
 ·cases a4R T
  ·rfl
  ·cases a3k S
   ·rfl
   ·cases decide (((length S:Nat):Int)>0)<;>rfl
theorem e4m (b:Den S40) (h:a6v b):F50 (b,())=some (a4U b,()):=by
 obtain⟨P,T,S,C,_⟩:=b;obtain⟨hP,hT,⟨hS,hl⟩,hC⟩:=h;have k1:=e3Y P;have k2:=e7m T hT;have k3:=e6P S (hS.good hl);have k4:=e6T C (by have:C.2.1.length<=22:=hC;omega);unfold F50 r50 a4U;dsimp only;simp only[K99,G99,k1,f4Q,f4R,k2,f4U,f4V,k3,f4Y,f4Z,k4,isSome_some,getD_some,cond_true];cases a3a P
 ·rfl
 ·cases a4R T
  ·rfl
  ·cases a3k S
   ·rfl
   ·cases decide (((length S:Nat):Int)>0)<;>rfl
theorem e0X {α:Type} {l:List α} (h:l.length<=1000):a0D (0+l.length)=true:=a0K (by omega)
theorem d5B (sp:List (List Nat)) (a:List Nat) (b:List Int) (h:sp.length<=1000) (hr:∀r∈sp,r.length<=1000) :
 d3Z (((),(),sp,(sp.length:Int),(0:Int),()),((),(),(),()),(a,b,(),()),[],())=some (((),(),()),((),(),(),()),(a,b,(),()),sp,()):=by
 refine a0V (q:=c6d e1M e1N d6s d6t) (fun v=>∃k:Nat,k<=sp.length /\ v=(((),(),sp,(sp.length:Int),(k:Int),()),((),(),(),()),(a,b,(),()),sp.take k,()))
  (fun _ r=>r=some (((),(),()),((),(),(),()),(a,b,(),()),sp,())) (fun v=>sp.length-v.1.2.2.2.2.1.toNat) ?_ _ _ ⟨0,zero_le _,rfl⟩ (by show sp.length-toNat 0<c6e _;unfold c6e;dsimp only;omega)
 rintro v f ⟨k,hk,rfl⟩ ih;unfold c6d;dsimp only;by_cases hlt:k<sp.length
 ·have e1:decide ((k:Int)<(sp.length:Int))=true:=by simpa using hlt
  have e2:decide (0<=(k:Int))=true:=by simp
  have hrow:getD sp (toNat (k:Int)) (zero (Ty.slice (Ty.flt FloatKind.f32)))=sp[k]:=by rw[toNat_natCast,a5E _ _ _ hlt]
  have hk1:e1M (sp[k],())=true:=a0K (by have:=hr _ (List.getElem_mem hlt);show 0+length sp[k]<=_;omega);have e3:set (replicate 1 (zero (Ty.slice (Ty.flt FloatKind.f32)))) 0 sp[k]=[sp[k]]:=rfl;have ew:IntKind.i64.wrap ((k:Int)+1)=((k+1:Nat):Int):=a3I k (by omega);rw[e1,e2,hrow,hk1,ew];simp only[Bool.and_self,cond_true];rw[show(e1N (sp[k],())).1=sp[k]from rfl,e3,a0K (by rw[List.length_singleton,List.length_take];omega),cond_true];refine ih _ ⟨k+1,hlt,?_⟩ ?_
  ·rw[show List.take (k+1) sp=List.take k sp++[sp[k]]from(List.take_succ_eq_append_getElem hlt)]
  ·show sp.length-((k+1:Nat):Int).toNat<sp.length-((k:Nat):Int).toNat;omega
 ·have e1:decide ((k:Int)<(sp.length:Int))=false:=by simpa using hlt
  rw[e1,cond_false,List.take_of_length_le (by omega)]
theorem e8g (p:Den S27) (h:e3T p):f6M (p,())=some (p,()):=by
 obtain⟨ws,as_,sp,_⟩:=p;obtain⟨h1,h2,h3,h4⟩:=h;have h1:ws.length<=14:=h1;have h2:as_.length<=22:=h2;have h3:sp.length<=14:=h3;have hl:=d5B sp ws as_ (by omega) (fun r hr=>by have:=h4 r hr;omega);have k1:e1M (ws,())=true:=e0X (l:=ws) (by omega);have k2:d6s (as_,())=true:=e0X (l:=as_) (by omega);have g1:e1N (ws,())=(ws,()):=rfl;have g2:d6t (as_,())=(as_,()):=rfl;unfold f6M g2V;dsimp only;simp only[k1,k2,g1,g2,cond_true,b7A,b7B,hl,isSome_some,getD_some]
theorem e8h (t:Den S30) (h:a7O t):f6P (t,())=some (t,()):=by
 obtain⟨st,hs,_⟩:=t;have h1:st.length<=21:=h.1;have h2:hs.length<=6:=h.2;have k1:f4E (st,())=true:=e0X (l:=st) (by omega);have k2:d6s (hs,())=true:=e0X (l:=hs) (by omega);have g1:f4F (st,())=(st,()):=rfl;have g2:d6t (hs,())=(hs,()):=rfl;unfold f6P g2Y;dsimp only;simp only[k1,k2,g1,g2,cond_true]
theorem e8i (c:Den S38) (h:c.2.1.length<=22):f6S (c,())=some (c,()):=by
 obtain⟨⟨⟨a1,a2,_⟩,⟨a3,a4,_⟩,_⟩,ms,⟨⟨b1,b2,_⟩,⟨b3,b4,_⟩,_⟩,_⟩:=c;have h:ms.length<=22:=h;have k1:f4I (ms,())=true:=e0X (l:=ms) (by omega);have g1:f4J (ms,())=(ms,()):=rfl;unfold f6S g3b;dsimp only;simp only[k1,g1,cond_true]
theorem f4a (b:Den S40) (h:a6v b):F84 (b,())=some (b,()):=by
 obtain⟨P,T,S,C,_⟩:=b;obtain⟨hP,hT,⟨hS,hl⟩,hC⟩:=h;have hl:S.length<=13:=hl;have k3:f4G (S,())=true:=e0X (l:=S) (by omega);have g3:f4H (S,())=(S,()):=rfl;unfold F84 r84;dsimp only;simp only[f6N,f6O,e8g P hP,f6Q,f6R,e8h T hT,k3,g3,f6T,f6U,e8i C hC,isSome_some,getD_some,cond_true]
set_option maxRecDepth 100000
theorem a3s {α β:Type} (c:Bool) (a b:Option α) (f:α->Option β):(bif c then a else b).bind f=bif c then a.bind f else b.bind f:=by cases c<;>rfl
def prY (b:Bool) (Y:Yv):Option (Bool×Yv):=some (b,Y)
def unY {R:Type} (h:Bool->Yv->Option R) (p:Bool×Yv):Option R:=h p.1 p.2
section
variable {R:Type} (k17:Den A17->Bool) (g17:Den A17->Den R17) (k132:Den c8s->Bool) (g132:Den c8s->Den d3G) (k45:Den A45->Bool) (g45:Den A45->Den R45) (k133:Den c8t->Bool) (g133:Den c8t->Den d7a) (k134:Den b8k->Bool) (g134:Den b8k->Den c8j) (k19:Den A19->Bool) (g19:Den A19->Den R19) (k135:Den b7a->Bool) (g135:Den b7a->Den c8u) (k23:Den A23->Bool) (g23:Den A23->Den R23) (k44:Den A44->Bool) (g44:Den A44->Den R44) (k57:Den A57->Bool) (g57:Den A57->Den R57) (k136:Den c8E->Bool) (g136:Den c8E->Den d7e) (k137:Den c8F->Bool) (g137:Den c8F->Den d3X) (f:List ByteArray)
theorem e0Y (Y:Yv) (h:Bool->Yv->Option R):kpK k19 g19 k137 g137 Y h=(kpK k19 g19 k137 g137 Y prY).bind (unY h):=by
 simp only[kpK,a3s,Option.bind_none];rfl
theorem a4v (Y:Yv) (h:Bool->Yv->Option R):a8R k19 g19 k137 g137 f Y h=(a8R k19 g19 k137 g137 f Y prY).bind (unY h):=by
 simp only[a8R,a3s,Option.bind_none,e0Y k19 g19 k137 g137 _ h];rfl
theorem c3V (Y:Yv) (h:Bool->Yv->Option R):b3z k17 g17 k19 g19 k137 g137 f Y h=(b3z k17 g17 k19 g19 k137 g137 f Y prY).bind (unY h):=by
 simp only[b3z,a3s,Option.bind_none,a4v k19 g19 k137 g137 f _ h];rfl
theorem c9b (Y:Yv) (h:Bool->Yv->Option R):c8T k132 g132 k45 g45 k133 g133 k19 g19 k137 g137 f Y h=(c8T k132 g132 k45 g45 k133 g133 k19 g19 k137 g137 f Y prY).bind (unY h):=by
 simp only[c8T,a3s,Option.bind_none,a4v k19 g19 k137 g137 f _ h];rfl
theorem c9c (Y:Yv) (h:Bool->Yv->Option R):c8U k134 g134 k19 g19 k135 g135 k137 g137 f Y h=(c8U k134 g134 k19 g19 k135 g135 k137 g137 f Y prY).bind (unY h):=by
 simp only[c8U,a3s,Option.bind_none,a4v k19 g19 k137 g137 f _ h];rfl
theorem d5C (Y:Yv) (h:Bool->Yv->Option R):e9l k132 g132 k19 g19 k23 g23 k137 g137 f Y h=(e9l k132 g132 k19 g19 k23 g23 k137 g137 f Y prY).bind (unY h):=by
 simp only[e9l,a3s,Option.bind_none,a4v k19 g19 k137 g137 f _ h];rfl
theorem c9d (Y:Yv) (n t:Int) (s:Nat) (h:Bool->Yv->Option R):c3N k19 g19 k23 g23 k136 g136 k137 g137 f Y n t s h=(c3N k19 g19 k23 g23 k136 g136 k137 g137 f Y n t s prY).bind (unY h):=by
 simp only[c3N,a3s,Option.bind_none,a4v k19 g19 k137 g137 f _ h];rfl
theorem e0Z (Y:Yv) (h:Bool->Yv->Option R):goK k17 g17 k19 g19 k23 g23 k44 g44 k57 g57 k136 g136 k137 g137 f Y h=(goK k17 g17 k19 g19 k23 g23 k44 g44 k57 g57 k136 g136 k137 g137 f Y prY).bind (unY h):=by
 simp only[goK,a3s,Option.bind_none,c9d k19 g19 k23 g23 k136 g136 k137 g137 f _ _ _ _ h];rfl
theorem c9e (Y:Yv) (h:Bool->Yv->Option R):c8V k17 g17 k132 g132 k45 g45 k133 g133 k134 g134 k19 g19 k135 g135 k23 g23 k44 g44 k57 g57 k136 g136 k137 g137 f Y h=(c8V k17 g17 k132 g132 k45 g45 k133 g133 k134 g134 k19 g19 k135 g135 k23 g23 k44 g44 k57 g57 k136 g136 k137 g137 f Y prY).bind (unY h):=by
 simp only[c8V,b2t,a3s,Option.bind_none,c3V k17 g17 k19 g19 k137 g137 f _ h,c9b k132 g132 k45 g45 k133 g133 k19 g19 k137 g137 f _ h,c9c k134 g134 k19 g19 k135 g135 k137 g137 f _ h,d5C k132 g132 k19 g19 k23 g23 k137 g137 f _ h,e0Z k17 g17 k19 g19 k23 g23 k44 g44 k57 g57 k136 g136 k137 g137 f _ h];rfl
end
def e1a (f:List ByteArray) (Y:Yv):Option (Bool×Yv):=c8V K17 G17 e6B e6C K45 G45 e9c e9d c9F c9G K19 G19 c8v c8w K23 G23 K44 G44 K57 G57 e6J e6K c6b c6c f Y prY
theorem f4b (x:I68.den):F68 x=(e1a x.1.2.1 (yIn x)).bind (unY fun b Y=>some (c8S b Y)):=c9e _ _ _ _ _ _ _ _ _ _ _ _ _ _ _ _ _ _ _ _ _ _ _ _ _ _ _
theorem e4n (Y:Yv) (hB:a6v Y.1) (ht:Y.tk.length<=1000) (hl:Y.lg.length<=1000):F36 ((Y,()),())=some (((c8S true Y).2.1,()),(Y.tk,Y.lg,())):=by
 obtain⟨B,t,p,h,w,s,tr,lg,_⟩:=Y;have ht:tr.length<=1000:=ht;have hl:lg.length<=1000:=hl;have k1:K85 ((tr,()),())=true:=e0X (l:=tr) ht;have k2:K86 ((lg,()),())=true:=e0X (l:=lg) hl;have g1:G85 ((tr,()),())=(((),()),(tr,())):=rfl;have g2:G86 ((lg,()),())=(((),()),(lg,())):=rfl;have h84:=f4a B hB;unfold F36 r36;dsimp only;simp only[K84,G84,h84,k1,k2,g1,g2,isSome_some,getD_some,cond_true];rfl
def a5w (f:List ByteArray):ByteArray:=⟨(c2F f { data:=#[32] }).toArray⟩
theorem f4c (Y:Yv) (s:ByteArray) (hB:a6v Y.1) (ht:Y.tk.length<=1000) (hl:Y.lg.length<=1000) {a b:Bool} {f:List ByteArray} (h14:F14 (Y,())=some (a,())) (h16:F16 (s,())=some (f,b,()))
 {d:Bool} {Z:Yv} (hd:a=true->(Y.lg.length:Int)<300->b=true->e1a f Y=some (d,Z) /\ (d=true->K60 (f,{ data:=#[32] },())=true /\ Z.lg.length<=1000)) :
 F27 (Y,s,())=some (bif a&&(decide ((Y.lg.length:Int)<300)&&(b&&d))then(Z.setLg (Z.lg++[a5w f]),true,())else(Y,false,())):=by
 have h36:=e4n Y hB ht hl;unfold F27 r27;dsimp only;simp only[K36,G36,h36,K14,G14,h14,K16,G16,h16,isSome_some,getD_some,cond_true];cases a with
 |false=>rfl
 | true =>
   simp only[Bool.not_true,cond_false,Bool.true_and];by_cases h300:(Y.lg.length:Int)<300
   ·have e1:decide (((length Y.snd.snd.snd.snd.snd.snd.snd.fst:Nat):Int) ≥ 300)=false:=decide_eq_false (by show ¬((Y.lg.length:Int) ≥ 300);omega);have e2:decide ((Y.lg.length:Int)<300)=true:=decide_eq_true h300;rw[e1,e2];simp only[cond_false,Bool.true_and];cases b with
    |false=>rfl
    | true =>
      obtain⟨h68,hj⟩:=hd rfl h300 rfl;have key:∀x:I68.den,x.1.2.1=f->yIn x=Y->K68 x=true /\ G68 x=c8S d Z:=fun x e1 e2=>by
       unfold K68 G68;rw[f4b,e1,e2,h68];exact⟨rfl,rfl⟩
      have hk:=key (((),f,()),(c8S true Y).2.1,Y.tk,Y.lg,()) rfl rfl;refine Eq.trans (?_:_=(bif K68 (((),f,()),(c8S true Y).2.1,Y.tk,Y.lg,())then
       bif !(G68 (((),f,()),(c8S true Y).2.1,Y.tk,Y.lg,())).1.1 then some (Y,false,())
       else bif K60 (f,{ data:=#[32] },())then
        bif a0D (length (G68 (((),f,()),(c8S true Y).2.1,Y.tk,Y.lg,())).2.2.2.1+1)then
         some (yIn (((),f,()),(G68 (((),f,()),(c8S true Y).2.1,Y.tk,Y.lg,())).2.1,(G68 (((),f,()),(c8S true Y).2.1,Y.tk,Y.lg,())).2.2.2.2.1,(G68 (((),f,()),(c8S true Y).2.1,Y.tk,Y.lg,())).2.2.2.1++[(G60 (f,{ data:=#[32] },())).1],()),true,())
        else none
       else none
      else none:OD R27)) ?_
      ·rfl
      ·rw[hk.1,hk.2];cases d with
       |false=>rfl
       | true =>
         obtain⟨j1,j2⟩:=hj rfl;rw[j1];have:a0D (length (c8S true Z).2.2.2.1+1)=true:=a0K (by show Z.lg.length+1<=_;omega);rw[this];rfl
   ·have e1:decide (((length Y.snd.snd.snd.snd.snd.snd.snd.fst:Nat):Int) ≥ 300)=true:=decide_eq_true (by show((Y.lg.length:Int) ≥ 300);omega);have e2:decide ((Y.lg.length:Int)<300)=false:=decide_eq_false h300;rw[e1,e2];rfl
structure YM (Y:Yv):Prop where
 boat:a6v Y.1
 tk:Y.tk.length<=1000
 lg:Y.lg.length<=1000
def c1M (Y:Yv):Bool:=decide ((Y.tk.length:Int)>0)&&decide ((sg Y.tk (Y.tk.length-1)).2.1>Y.tm)
def c1N (m:Den R19) (Y:Yv):Bool:=bif decide (Y.sl ≥ 0)then m.2.1&&a0U (at' Y.sails Y.sl.toNat) m.1 else true
def c9f (Y:Yv):Bool:=a4U Y.1&&(inB Y.tm 0 10000000&&((a1c Y.ps).2.1&&(inB Y.hd 0 359&&(a2o Y.wd&&(inB Y.sl (-1) ((Y.sails.length:Int)-1)&&(a2q Y.tk&&(!decide ((Y.lg.length:Int)>300)&&!c1M Y)))))))
def okV (m:Den R19) (Y:Yv):Bool:=c9f Y&&c1N m Y
theorem a8b {Y:Yv} (h:YM Y):Y.sails.length<=13:=h.boat.2.2.1.2
theorem e1b (Y:Yv) (h:YM Y) (m:Den R19) (hm:I64 m.1.2.1) (hs:inB Y.sl (-1) ((Y.sails.length:Int)-1)=true) :
 (bif decide (Y.sl ≥ 0)then bif m.2.1 then bif (decide (0<=Y.sl)&&decide (Y.sl<(Y.sails.length:Int)))then bif K20 (at' Y.sails Y.sl.toNat,m.1,())then some (G20 (at' Y.sails Y.sl.toNat,m.1,()))else none else none else some (false,())else some (true,()):OD R14)=some (c1N m Y,()):=by
 have hg:=h.boat.2.2.1.1.at Y.sl.toNat;have e:=d4g (at' Y.sails Y.sl.toNat,m.1,()) hg.2.1 hg.2.2 hm;have k:K20 (at' Y.sails Y.sl.toNat,m.1,())=true:=isS e;have g:G20 (at' Y.sails Y.sl.toNat,m.1,())=(a0U (at' Y.sails Y.sl.toNat) m.1,()):=gtS e;rw[k,g];unfold c1N;by_cases h0:Y.sl ≥ 0
 ·have d1:decide (Y.sl ≥ 0)=true:=decide_eq_true h0;have d2:decide (Y.sl<(Y.sails.length:Int))=true:=by
   unfold inB at hs;simp only[and_eq_true,decide_eq_true_eq]at hs ⊢;omega
  rw[d1,d2];cases m.2.1<;>rfl
 ·have d1:decide (Y.sl ≥ 0)=false:=decide_eq_false h0;rw[d1];rfl
theorem c9g (Y:Yv) (h:YM Y) (m:Den R19) (hm:I64 m.1.2.1) (hs:inB Y.sl (-1) ((Y.sails.length:Int)-1)=true) :
 (bif decide (Y.sl ≥ 0)then bif m.2.1 then bif (decide (0<=Y.sl)&&decide (Y.sl<(Y.sails.length:Int)))then bif K55 (at' Y.sails Y.sl.toNat,m.1,())then some (G55 (at' Y.sails Y.sl.toNat,m.1,()))else none else none else some (false,())else some (true,()):OD R18)=some (c1N m Y,()):=by
 have hg:=h.boat.2.2.1.1.at Y.sl.toNat;have e:=f3l (at' Y.sails Y.sl.toNat,m.1,()) hg.2.1 hg.2.2 hm;have k:K55 (at' Y.sails Y.sl.toNat,m.1,())=true:=isS e;have g:G55 (at' Y.sails Y.sl.toNat,m.1,())=(a0U (at' Y.sails Y.sl.toNat) m.1,()):=gtS e;rw[k,g];unfold c1N;by_cases h0:Y.sl ≥ 0
 ·have d1:decide (Y.sl ≥ 0)=true:=decide_eq_true h0;have d2:decide (Y.sl<(Y.sails.length:Int))=true:=by
   unfold inB at hs;simp only[and_eq_true,decide_eq_true_eq]at hs ⊢;omega
  rw[d1,d2];cases m.2.1<;>rfl
 ·have d1:decide (Y.sl ≥ 0)=false:=decide_eq_false h0;rw[d1];rfl
theorem d5D {n:Nat} (h0:(n:Int)>0) (h:n<=1000):IntKind.i64.wrap ((n:Int)-1)=((n-1:Nat):Int) /\ (decide (0<=((n-1:Nat):Int))&&decide (((n-1:Nat):Int)<(n:Int)))=true:=by
 constructor
 ·rw[w64 (by omega) (by omega)];omega
 ·simp only[and_eq_true,decide_eq_true_eq];omega
theorem f4d (Y:Yv) (h:YM Y):F14 (Y,())=some (okV (a0F Y) Y,()):=by
 have htk:=h.tk;have e1:=d5y Y.ps;have k1:K23 (Y.ps,())=true:=isS e1;have g1:G23 (Y.ps,())=a1c Y.ps:=gtS e1;have e2:=f3Z Y.1 h.boat;have k2:K42 (Y.1,())=true:=isS e2;have g2:G42 (Y.1,())=(a4U Y.1,()):=gtS e2;have e3:F43 (Y.tm,())=some (inB Y.tm 0 10000000,()):=c6k _;have k3:K43 (Y.tm,())=true:=isS e3;have g3:G43 (Y.tm,())=(inB Y.tm 0 10000000,()):=gtS e3;have e4:F44 (Y.hd,0,359,())=some (inB Y.hd 0 359,()):=a3D _;have k4:K44 (Y.hd,0,359,())=true:=isS e4;have g4:G44 (Y.hd,0,359,())=(inB Y.hd 0 359,()):=gtS e4;have e5:=a5r Y.wd;have k5:K45 (Y.wd,())=true:=isS e5;have g5:G45 (Y.wd,())=(a2o Y.wd,()):=gtS e5;have hsl:=a8b h;have w1:IntKind.i64.wrap ((Y.sails.length:Int)-1)=(Y.sails.length:Int)-1:=w64 (by omega) (by omega);have e6:F44 (Y.sl,-1,(Y.sails.length:Int)-1,())=some (inB Y.sl (-1) ((Y.sails.length:Int)-1),()):=a3D _;have k6:K44 (Y.sl,-1,(Y.sails.length:Int)-1,())=true:=isS e6;have g6:G44 (Y.sl,-1,(Y.sails.length:Int)-1,())=(inB Y.sl (-1) ((Y.sails.length:Int)-1),()):=gtS e6;have e7:F46 (Y.tk,())=some (a2q Y.tk,()):=f3r Y.tk (by omega);have k7:K46 (Y.tk,())=true:=isS e7;have g7:G46 (Y.tk,())=(a2q Y.tk,()):=gtS e7;have e8:=c6K Y;have k8:K19 (Y,())=true:=isS e8;have g8:G19 (Y,())=a0F Y:=gtS e8;unfold F14 r14;show(bif K23 (Y.ps,())then bif K42 (Y.1,())then bif !(G42 (Y.1,())).1 then some (false,())else bif K43 (Y.tm,())then bif !(G43 (Y.tm,())).1 then some (false,())else
  bif !(G23 (Y.ps,())).2.1 then some (false,())else bif K44 (Y.hd,0,359,())then bif !(G44 (Y.hd,0,359,())).1 then some (false,())else
  bif K45 (Y.wd,())then bif !(G45 (Y.wd,())).1 then some (false,())else
  bif K44 (Y.sl,-1,IntKind.i64.wrap ((Y.sails.length:Int)-1),())then bif !(G44 (Y.sl,-1,IntKind.i64.wrap ((Y.sails.length:Int)-1),())).1 then some (false,())else
  bif K46 (Y.tk,())then bif !(G46 (Y.tk,())).1 then some (false,())else
  bif decide ((Y.lg.length:Int)>300)then some (false,())else
  bif decide ((Y.tk.length:Int)>0)then bif (decide (0<=IntKind.i64.wrap ((Y.tk.length:Int)-1))&&decide (IntKind.i64.wrap ((Y.tk.length:Int)-1)<(Y.tk.length:Int)))then
   bif decide ((sg Y.tk (IntKind.i64.wrap ((Y.tk.length:Int)-1)).toNat).2.1>Y.tm)then some (false,())else
   (bif decide (Y.sl ≥ 0)then bif K19 (Y,())then bif (G19 (Y,())).2.1 then bif (decide (0<=Y.sl)&&decide (Y.sl<(Y.sails.length:Int)))then bif K20 (at' Y.sails Y.sl.toNat,(G19 (Y,())).1,())then some (G20 (at' Y.sails Y.sl.toNat,(G19 (Y,())).1,()))else none else none else some (false,())else none else some (true,()))
   else none
  else(bif decide (Y.sl ≥ 0)then bif K19 (Y,())then bif (G19 (Y,())).2.1 then bif (decide (0<=Y.sl)&&decide (Y.sl<(Y.sails.length:Int)))then bif K20 (at' Y.sails Y.sl.toNat,(G19 (Y,())).1,())then some (G20 (at' Y.sails Y.sl.toNat,(G19 (Y,())).1,()))else none else none else some (false,())else none else some (true,()))
  else none else none else none else none else none else none else none:OD R14)=_
 rw[w1,k1,g1,k2,g2,k3,g3,k4,g4,k5,g5,k6,g6,k7,g7,k8,g8];simp only[cond_true];unfold okV c9f;cases c1:a4U Y.1
 ·rfl
 cases c2:inB Y.tm 0 10000000
 ·rfl
 cases c3:(a1c Y.ps).2.1
 ·rfl
 cases c4:inB Y.hd 0 359
 ·rfl
 cases c5:a2o Y.wd
 ·rfl
 cases c6:inB Y.sl (-1) ((Y.sails.length:Int)-1)
 ·rfl
 cases c7:a2q Y.tk
 ·rfl
 cases c8:decide ((Y.lg.length:Int)>300)
 ·have ht:=e1b Y h (a0F Y) (b1T Y) c6;unfold c1M;by_cases h0:(Y.tk.length:Int)>0
  ·obtain⟨i1,i2⟩:=d5D h0 htk;have d1:decide ((Y.tk.length:Int)>0)=true:=decide_eq_true h0;rw[d1,i1,i2,toNat_natCast];cases decide ((sg Y.tk (Y.tk.length-1)).2.1>Y.tm)
   ·exact ht
   ·rfl
  ·have d1:decide ((Y.tk.length:Int)>0)=false:=decide_eq_false h0;rw[d1];exact ht
 ·rfl
theorem f4e (Y:Yv) (h:YM Y):F18 (Y,())=some (okV (b7Y Y) Y,()):=by
 have htk:=h.tk;have e1:=e4i Y.ps;have k1:K49 (Y.ps,())=true:=isS e1;have g1:G49 (Y.ps,())=a1c Y.ps:=gtS e1;have e2:=e4m Y.1 h.boat;have k2:K50 (Y.1,())=true:=isS e2;have g2:G50 (Y.1,())=(a4U Y.1,()):=gtS e2;have e3:F51 (Y.tm,0,10000000,())=some (inB Y.tm 0 10000000,()):=a2Y _;have k3:K51 (Y.tm,0,10000000,())=true:=isS e3;have g3:G51 (Y.tm,0,10000000,())=(inB Y.tm 0 10000000,()):=gtS e3;have e4:F51 (Y.hd,0,359,())=some (inB Y.hd 0 359,()):=a2Y _;have k4:K51 (Y.hd,0,359,())=true:=isS e4;have g4:G51 (Y.hd,0,359,())=(inB Y.hd 0 359,()):=gtS e4;have e5:=b3t Y.wd;have k5:K52 (Y.wd,())=true:=isS e5;have g5:G52 (Y.wd,())=(a2o Y.wd,()):=gtS e5;have hsl:=a8b h;have w1:IntKind.i64.wrap ((Y.sails.length:Int)-1)=(Y.sails.length:Int)-1:=w64 (by omega) (by omega);have e6:F51 (Y.sl,-1,(Y.sails.length:Int)-1,())=some (inB Y.sl (-1) ((Y.sails.length:Int)-1),()):=a2Y _;have k6:K51 (Y.sl,-1,(Y.sails.length:Int)-1,())=true:=isS e6;have g6:G51 (Y.sl,-1,(Y.sails.length:Int)-1,())=(inB Y.sl (-1) ((Y.sails.length:Int)-1),()):=gtS e6;have e7:F53 (Y.tk,())=some (a2q Y.tk,()):=f3q Y.tk (by omega);have k7:K53 (Y.tk,())=true:=isS e7;have g7:G53 (Y.tk,())=(a2q Y.tk,()):=gtS e7;have e8:=f3M Y;have k8:K54 (Y,())=true:=isS e8;have g8:G54 (Y,())=b7Y Y:=gtS e8;unfold F18 r18;show(bif K49 (Y.ps,())then bif K50 (Y.1,())then bif !(G50 (Y.1,())).1 then some (false,())else bif K51 (Y.tm,0,10000000,())then bif !(G51 (Y.tm,0,10000000,())).1 then some (false,())else
  bif !(G49 (Y.ps,())).2.1 then some (false,())else bif K51 (Y.hd,0,359,())then bif !(G51 (Y.hd,0,359,())).1 then some (false,())else
  bif K52 (Y.wd,())then bif !(G52 (Y.wd,())).1 then some (false,())else
  bif K51 (Y.sl,-1,IntKind.i64.wrap ((Y.sails.length:Int)-1),())then bif !(G51 (Y.sl,-1,IntKind.i64.wrap ((Y.sails.length:Int)-1),())).1 then some (false,())else
  bif K53 (Y.tk,())then bif !(G53 (Y.tk,())).1 then some (false,())else
  bif decide ((Y.tk.length:Int)>0)then bif (decide (0<=IntKind.i64.wrap ((Y.tk.length:Int)-1))&&decide (IntKind.i64.wrap ((Y.tk.length:Int)-1)<(Y.tk.length:Int)))then
   bif decide ((sg Y.tk (IntKind.i64.wrap ((Y.tk.length:Int)-1)).toNat).2.1>Y.tm)then some (false,())else
   bif decide ((Y.lg.length:Int)>300)then some (false,())else
   (bif decide (Y.sl ≥ 0)then bif K54 (Y,())then bif (G54 (Y,())).2.1 then bif (decide (0<=Y.sl)&&decide (Y.sl<(Y.sails.length:Int)))then bif K55 (at' Y.sails Y.sl.toNat,(G54 (Y,())).1,())then some (G55 (at' Y.sails Y.sl.toNat,(G54 (Y,())).1,()))else none else none else some (false,())else none else some (true,()))
   else none
  else bif decide ((Y.lg.length:Int)>300)then some (false,())else(bif decide (Y.sl ≥ 0)then bif K54 (Y,())then bif (G54 (Y,())).2.1 then bif (decide (0<=Y.sl)&&decide (Y.sl<(Y.sails.length:Int)))then bif K55 (at' Y.sails Y.sl.toNat,(G54 (Y,())).1,())then some (G55 (at' Y.sails Y.sl.toNat,(G54 (Y,())).1,()))else none else none else some (false,())else none else some (true,()))
  else none else none else none else none else none else none else none:OD R18)=_
 rw[w1,k1,g1,k2,g2,k3,g3,k4,g4,k5,g5,k6,g6,k7,g7,k8,g8];simp only[cond_true];unfold okV c9f;cases c1:a4U Y.1
 ·rfl
 cases c2:inB Y.tm 0 10000000
 ·rfl
 cases c3:(a1c Y.ps).2.1
 ·rfl
 cases c4:inB Y.hd 0 359
 ·rfl
 cases c5:a2o Y.wd
 ·rfl
 cases c6:inB Y.sl (-1) ((Y.sails.length:Int)-1)
 ·rfl
 cases c7:a2q Y.tk
 ·rfl
 have ht:=c9g Y h (b7Y Y) (d5q Y) c6;unfold c1M;by_cases h0:(Y.tk.length:Int)>0
 ·obtain⟨i1,i2⟩:=d5D h0 htk;have d1:decide ((Y.tk.length:Int)>0)=true:=decide_eq_true h0;rw[d1,i1,i2,toNat_natCast];cases decide ((sg Y.tk (Y.tk.length-1)).2.1>Y.tm)
  ·cases c8:decide ((Y.lg.length:Int)>300)
   ·exact ht
   ·rfl
  ·cases c8:decide ((Y.lg.length:Int)>300)<;>rfl
 ·have d1:decide ((Y.tk.length:Int)>0)=false:=decide_eq_false h0;rw[d1];cases c8:decide ((Y.lg.length:Int)>300)
  ·exact ht
  ·rfl
def d5E (g:Den a3Y):Bool:=a3K g.2.1&&a0I g.2.2.1 0 100000
theorem e8j (g:Den a3Y):f6p (g,())=some (d5E g,()):=by
 have e1:=c3G g.2.1;have e2:=a2Z g.2.2.1 0 100000;unfold f6p g2f d5E;dsimp only;simp only[d6P,d6Q,e1,K44,G44,e2,isSome_some,getD_some,cond_true];cases a3K g.2.1<;>rfl
theorem e1c (g:Den a3Y):f6q ([g],())=some (d5E g,()):=by
 have e1:=e8j g;have k1:d9V (g,())=true:=isS e1;have g1:d9W (g,())=(d5E g,()):=gtS e1;have hl:b3n (([g],[g],(1:Int),(0:Int),()),())=some (bif d5E g then .inl (([g],()),())else .inr ((false,()),())):=by
  have hb:d3J (([g],[g],(1:Int),(0:Int),()),())=1003:=rfl;unfold b3n;rw[hb];show c0U d9V d9W _ _=_;unfold c0U;show(bif d9V (g,())then bif !(d9W (g,())).1 then _ else a1t (c0U d9V d9W) 1002 (([g],[g],(1:Int),(1:Int),()),())else none)=_;rw[k1,g1];cases d5E g
  ·rfl
  ·rfl
 unfold f6q g2h;show(bif b1E (([g],[g],(1:Int),(0:Int),()),())then bif b1F (([g],[g],(1:Int),(0:Int),()),())then some (b1H (([g],[g],(1:Int),(0:Int),()),())).1 else some (decide (((b1G (([g],[g],(1:Int),(0:Int),()),())).1.1.length:Int)<=50),())else none)=_;unfold b1E b1F b1H b1G;rw[hl];cases d5E g<;>rfl
def e4o (v s:Nat×Nat):Nat×Nat:=(a0g .add .f32 v.1 s.1,a0g .add .f32 v.2 s.2)
def a8V (k:Int) (sp:Nat) (s:Nat×Nat):(Nat×Nat)×Bool×Unit:=bif !(a9x k sp).2.1 then((0,0),false,())else bif !a2o s then((0,0),false,())else(e4o (a9x k sp).1 s,true,())
theorem e8k (k:Int) (sp:Nat) (s:Nat×Nat):f6D (k,sp,s,())=some (a8V k sp s):=by
 have e1:=e4g k sp;have e2:=a5r s;have e3:g2E ((a9x k sp).1,s,())=some (e4o (a9x k sp).1 s,()):=rfl;unfold f6D g2G a8V;dsimp only;simp only[K56,G56,e1,K45,G45,e2,f6B,f6C,e3,isSome_some,getD_some,cond_true];cases (a9x k sp).2.1
 ·rfl
 ·cases a2o s<;>rfl
def onV (p v:Nat×Nat) (n:Int):Nat×Nat:=(a0g .add .f64 p.1 (a0g .mul .f64 (a0N .f32 .f64 v.1).2 (nearest .f64 n)),a0g .add .f64 p.2 (a0g .mul .f64 (a0N .f32 .f64 v.2).2 (nearest .f64 n)))
def e8l (p v:Nat×Nat) (n:Int):(Nat×Nat)×Bool×Unit:=
 bif !a4u p then((0,0),false,())else bif !a2o v then((0,0),false,())else bif !a0I n 0 100000 then((0,0),false,())else bif !a4u (onV p v n)then((0,0),false,())else(onV p v n,true,())
theorem e8m (p v:Nat×Nat) (n:Int):f6G (p,v,n,())=some (e8l p v n):=by
 have e1:=a9v p;have e2:=a5r v;have e3:=a2Z n 0 100000;have e4:=a9v (onV p v n);unfold onV at e4;unfold f6G g2J e8l onV;dsimp only;simp only[K61,G61,e1,K45,G45,e2,K44,G44,e3,e4,isSome_some,getD_some,cond_true];cases a4u p
 ·rfl
 cases a2o v
 ·rfl
 cases a0I n 0 100000
 ·rfl
 cases a4u (a0g .add .f64 p.1 (a0g .mul .f64 (a0N .f32 .f64 v.1).2 (nearest .f64 n)),a0g .add .f64 p.2 (a0g .mul .f64 (a0N .f32 .f64 v.2).2 (nearest .f64 n)))<;>rfl
def a7e (p:Nat×Nat) (g:Den a3Y) (n:Int) (s:Nat×Nat):(Nat×Nat)×Bool×Unit:=bif !(a8V g.1 g.2.1 s).2.1 then((0,0),false,())else e8l p (a8V g.1 g.2.1 s).1 n
theorem e8n (p:Nat×Nat) (g:Den a3Y) (n:Int) (s:Nat×Nat):f6J (p,g,n,s,())=some (a7e p g n s):=by
 have e1:=e8k g.1 g.2.1 s;have e2:=e8m p (a8V g.1 g.2.1 s).1 n;unfold f6J g2M a7e;dsimp only;simp only[f6E,f6F,e1,f6H,f6I,e2,isSome_some,getD_some,cond_true];cases (a8V g.1 g.2.1 s).2.1<;>rfl
def b1Z (td:Den S30) (g:Den a3Y):Nat->Nat×Nat->Int->Int->Option ((Nat×Nat)×Int×Int)
 |0,p,t,l=>some (p,t,l)
 |f+1,p,t,l=>bif decide (l>0)then bif !(a2M td p t).2.1 then none else bif !(a7e p g (a4x l 600) (a2M td p t).1).2.1 then none else b1Z td g f (a7e p g (a4x l 600) (a2M td p t).1).1 (t+a4x l 600) (l-a4x l 600)else some (p,t,l)
def b8d (g:Den a3Y):Int:=g.2.2.1
def g3P (p:Nat×Nat) (t:Int) (g:Den a3Y) (td:Den S30):(Nat×Nat)×Bool×Unit:=
 bif !a4u p then((0,0),false,())else bif !d5E g then((0,0),false,())else match b1Z td g 7 p t (b8d g)with|some r=>(r.1,true,())|none=>((0,0),false,())
theorem e1d {l:Int} (h:0<l):0<a4x l 600 /\ a4x l 600<=l /\ a4x l 600<=600 /\ (a4x l 600=l∨a4x l 600=600):=by
 unfold a4x;split<;>omega
abbrev e8o:Type:=List (Den (a3Y))×Int×Int×Unit
theorem c9h (td:Den S30) (h:a7O td) (g:Den a3Y) (rest:e8o):∀(f N:Nat) (p:Nat×Nat) (t l:Int),(l<=(f:Int)*600)->(f<N)->0<=t->t+l<=9223372036854775807->0<=l ->
 ∃t':Int,a1t (c0Z K61 G61 c8y c8z c8B c2h c8D c5Z) N ((p,t,(),(),l,rest),td,g,())=some (match b1Z td g f p t l with|some r => .inl ((r.1,t',(),rest),td,())|none => .inr (((0,0),false,()),())):=by
 intro f
 induction f with
 | zero =>
   intro N p t l hl hN ht htl hl0;obtain⟨N,rfl⟩:∃M,N=M+1:=⟨N-1,by omega⟩;have h0:l=0:=by omega
   subst h0;exact⟨t,rfl⟩
 | succ f ih =>
   intro N p t l hl hN ht htl hl0;obtain⟨N,rfl⟩:∃M,N=M+1:=⟨N-1,by omega⟩;by_cases h1:l>0
   ·have d1:decide (l>0)=true:=decide_eq_true h1;obtain⟨m1,m2,m3,m4⟩:=e1d h1;have e1:=e7X td p t h;have e2:=e8n p g (a4x l 600) (a2M td p t).1;have k1:c8B (td,p,t,())=true:=isS e1;have g1:c2h (td,p,t,())=a2M td p t:=gtS e1;have k2:c8D (p,g,a4x l 600,(a2M td p t).1,())=true:=isS e2;have g2:c5Z (p,g,a4x l 600,(a2M td p t).1,())=a7e p g (a4x l 600) (a2M td p t).1:=gtS e2;have w1:IntKind.i64.wrap (t+a4x l 600)=t+a4x l 600:=w64 (by omega) (by omega);have w2:IntKind.i64.wrap (l-a4x l 600)=l-a4x l 600:=w64 (by omega) (by omega);have ih':=ih N (a7e p g (a4x l 600) (a2M td p t).1).1 (t+a4x l 600) (l-a4x l 600) (by omega) (by omega) (by omega) (by omega) (by omega);have step:a1t (c0Z K61 G61 c8y c8z c8B c2h c8D c5Z) (N+1) ((p,t,(),(),l,rest),td,g,()) =
     bif decide (l>0)then bif c8B (td,p,t,())then bif !(c2h (td,p,t,())).2.1 then some (.inr (((0,0),false,()),()))
      else bif c8D (p,g,a4x l 600,(c2h (td,p,t,())).1,())then bif !(c5Z (p,g,a4x l 600,(c2h (td,p,t,())).1,())).2.1 then some (.inr (((0,0),false,()),()))
       else a1t (c0Z K61 G61 c8y c8z c8B c2h c8D c5Z) N (((c5Z (p,g,a4x l 600,(c2h (td,p,t,())).1,())).1,IntKind.i64.wrap (t+a4x l 600),(),(),IntKind.i64.wrap (l-a4x l 600),rest),td,g,())
      else none else none
     else some (.inl ((p,t,(),rest),td,())):=rfl
    rw[step,d1,k1,g1];simp only[cond_true,k2,g2,w1,w2];unfold b1Z;rw[d1,cond_true];cases (a2M td p t).2.1
    ·exact⟨0,rfl⟩
    ·cases (a7e p g (a4x l 600) (a2M td p t).1).2.1
     ·exact⟨0,rfl⟩
     ·exact ih'
   ·have h0:l=0:=by omega
    subst h0;exact⟨t,rfl⟩
theorem e8p (p:Nat×Nat) (t:Int) (g:Den a3Y) (td:Den S30) (h:a7O td) (ht:0<=t) (ht':t<=1000000000000) (hg:b8d g<=3600):e6I (p,t,[g],td,())=some (g3P p t g td):=by
 have e1:=a9v p;have e2:=e1c g;have k1:K61 (p,())=true:=isS e1;have g1:G61 (p,())=(a4u p,()):=gtS e1;have k2:c8y ([g],())=true:=isS e2;have g2:c8z ([g],())=(d5E g,()):=gtS e2;unfold e6I g2O g3P;show(bif K61 (p,())then bif !(G61 (p,())).1 then _ else bif c8y ([g],())then bif !(c8z ([g],())).1 then _ else
  bif a8J ((p,t,(),[g],(1:Int),(0:Int),()),td,())then bif a8K ((p,t,(),[g],(1:Int),(0:Int),()),td,())then some (a8M ((p,t,(),[g],(1:Int),(0:Int),()),td,())).1
   else some ((a8L ((p,t,(),[g],(1:Int),(0:Int),()),td,())).1.1,true,())else none else none else none)=_
 rw[k1,g1,k2,g2];cases hp:a4u p
 ·rfl
 cases hg':d5E g
 ·rfl
 simp only[Bool.not_true,cond_true,cond_false];have hg2:0<=b8d g:=by
  unfold d5E a0I at hg';simp only[and_eq_true,decide_eq_true_eq]at hg';exact hg'.2.1
 obtain⟨t',hl⟩:=c9h td h g ([g],(1:Int),(0:Int),()) 7 (c6a ((p,t,(),(),b8d g,([g],(1:Int),(0:Int),())),td,g,())) p t (b8d g) (by omega) (by unfold c6a;dsimp only;omega) ht (by omega) hg2;have hl7:c1a ((p,t,(),(),b8d g,([g],(1:Int),(0:Int),())),td,g,())=_:=hl;have hl4:b3s ((p,t,(),[g],(1:Int),(0:Int),()),td,())=some (match b1Z td g 7 p t (b8d g)with|some r => .inl ((r.1,()),())|none => .inr (((0,0),false,()),())):=by
  unfold b3s;have hb:∃M,c1b ((p,t,(),[g],(1:Int),(0:Int),()),td,())=M+2:=⟨c1b ((p,t,(),[g],(1:Int),(0:Int),()),td,())-2,by unfold c1b;dsimp only;omega⟩;obtain⟨M,hM⟩:=hb;rw[hM];show(bif a5L ((p,t,(),(),b8d g,([g],(1:Int),(0:Int),())),td,g,())then bif a5M ((p,t,(),(),b8d g,([g],(1:Int),(0:Int),())),td,g,())then(some (Sum.inr (a5N ((p,t,(),(),b8d g,([g],(1:Int),(0:Int),())),td,g,()))):Option (b3o⊕b3p))else _ else none)=_;unfold a5L a5M a5N;rw[hl7];cases hpv:b1Z td g 7 p t (b8d g)with
  |none=>rfl
  | some r =>
    have hx:a2C ((p,t,(),(),b8d g,([g],(1:Int),(0:Int),())),td,g,())=((r.1,t',(),([g],(1:Int),(0:Int),())),td,()):=by
     unfold a2C;rw[hl7,hpv];rfl
    show a1t (d3U K61 G61 c8y c8z c8B c2h c8D c5Z a5L a2C a5M a5N) (M+1) (((a2C ((p,t,(),(),b8d g,([g],(1:Int),(0:Int),())),td,g,())).1.1,(a2C ((p,t,(),(),b8d g,([g],(1:Int),(0:Int),())),td,g,())).1.2.1,(),(a2C ((p,t,(),(),b8d g,([g],(1:Int),(0:Int),())),td,g,())).1.2.2.2.1,(a2C ((p,t,(),(),b8d g,([g],(1:Int),(0:Int),())),td,g,())).1.2.2.2.2.1,IntKind.i64.wrap ((a2C ((p,t,(),(),b8d g,([g],(1:Int),(0:Int),())),td,g,())).1.2.2.2.2.2.1+1),()),(a2C ((p,t,(),(),b8d g,([g],(1:Int),(0:Int),())),td,g,())).2)=_;rw[hx];rfl
 unfold a8J a8K a8M a8L;rw[hl4];cases b1Z td g 7 p t (b8d g)with
 |none=>rfl
 |some r=>rfl
def d5F (s:ByteArray) (i:Nat):Bool:=!decide (a1z s (i:Int)<32)&&!decide (a1z s (i:Int)>126)
def d5G (s:ByteArray):Bool:=a0r (d5F s) 0 s.size
def spB:ByteArray:={ data:=#[32] }
def d5H (s:ByteArray):Bool:=!a2F s { data:=#[] }
def a1s (s:ByteArray):List ByteArray:=(a4m s spB).filter d5H
theorem e1e (s:ByteArray) (h:s.size<=1000):d4f ((s,(0:Int),()),())=some (bif d5G s then .inl ((s,()),())else .inr (((),false,()),())):=by
 refine(a0Z (q:=d4e K48 G48) (fun k=>((s,(k:Int),()),())) s.size (d5F s) _ _ ?_ ?_ _ ?_:_)
 ·intro k f hk;have e1:decide ((k:Int)<(s.size:Int))=true:=by simpa using hk
  have e2:decide (0<=(k:Int))=true:=by simp
  unfold d4e d5F;simp only[a3I k (by omega),e1,e2,Bool.and_self,cond_true];cases decide (a1z s (k:Int)<32)
  ·cases decide (a1z s (k:Int)>126)<;>rfl
  ·rfl
 ·intro f;simp[d4e]
 ·simp only[e6M];omega
theorem c9i (l:List ByteArray) (h:l.length<=1000):d4d (((),l,(l.length:Int),(0:Int),()),[],())=some (((),()),l.filter d5H,()):=by
 refine a0V (q:=c6g K48 G48) (fun v=>∃k:Nat,k<=l.length /\ v=(((),l,(l.length:Int),(k:Int),()),(l.take k).filter d5H,()))
  (fun _ r=>r=some (((),()),l.filter d5H,())) (fun v=>l.length-v.1.2.2.2.1.toNat) ?_ _ _ ⟨0,zero_le _,rfl⟩ (by show l.length-toNat 0<c6h _;unfold c6h;dsimp only;omega)
 rintro v f ⟨k,hk,rfl⟩ ih;unfold c6g;dsimp only;by_cases hlt:k<l.length
 ·have e1:decide ((k:Int)<(l.length:Int))=true:=by simpa using hlt
  have e2:decide (0<=(k:Int))=true:=by simp
  have hrow:getD l (toNat (k:Int)) (zero Ty.str)=l[k]:=by rw[toNat_natCast,a5E _ _ _ hlt]
  have ew:IntKind.i64.wrap ((k:Int)+1)=((k+1:Nat):Int):=a3I k (by omega);have e3:set (replicate 1 (zero Ty.str)) 0 l[k]=[l[k]]:=rfl;have htk:List.take (k+1) l=List.take k l++[l[k]]:=List.take_succ_eq_append_getElem hlt;have hmu:l.length-((k+1:Nat):Int).toNat<l.length-((k:Nat):Int).toNat:=by omega
  rw[e1,e2,hrow,ew,e3];simp only[Bool.and_self,cond_true];cases hb:!a2F l[k] { data:=#[] }with
  | true =>
    have hcap:a0D (length (List.filter d5H (List.take k l))+length [l[k]])=true:=a0K (by
     have:=List.length_filter_le d5H (List.take k l);rw[List.length_take]at this;rw[List.length_singleton];omega)
    rw[hcap];simp only[cond_true];refine ih _ ⟨k+1,hlt,?_⟩ hmu;rw[htk,List.filter_append,List.filter_cons_of_pos (show d5H l[k]=true from hb),List.filter_nil]
  | false =>
    simp only[cond_false];refine ih _ ⟨k+1,hlt,?_⟩ hmu;rw[htk,List.filter_append,List.filter_cons_of_neg (by show ¬(d5H l[k]=true);rw[show d5H l[k]=false from hb];simp),List.filter_nil,List.append_nil]
 ·have e1:decide ((k:Int)<(l.length:Int))=false:=by simpa using hlt
  rw[e1,cond_false,List.take_of_length_le (by omega)]
theorem d5I (s:ByteArray):(a4m s spB).length<=s.size+1:=by
 have h1:=Lib.splitB_all spB (by decide) 0 _ s rfl;unfold a4m;rw[h1];have:=Lib.countB_le spB (by decide) s.size s (le_refl _);omega
theorem d5J (s:ByteArray):F16 (s,())=some (bif decide ((s.size:Int)>600)then([],false,())else bif !d5G s then([],false,())else bif decide (((a1s s).length:Int)>24)then([],false,())else(a1s s,true,())):=by
 unfold F16 r16;dsimp only;cases h6:decide (((ByteArray.size s:Nat):Int)>600)with
 |true=>rfl
 | false =>
   have hs:s.size<=600:=by
    have:=of_decide_eq_false h6;omega
   have hl:=e1e s (by omega);have hsl:=d5I s;have k48:K48 (s,{ data:=#[32] },())=true:=by
    unfold K48;rw[decide_eq_true (show(s:ByteArray).size<4294967281 by omega),decide_eq_true (show 1<=ByteArray.size { data:=#[32] }by decide)];rfl
   have g48:G48 (s,{ data:=#[32] },())=(a4m s spB,()):=rfl;have hq:=c9i (a4m s spB) (by omega);simp only[cond_false,c1i,c1j,c1k,c1l,hl,isSome_some,cond_true];cases d5G s with
   |false=>rfl
   | true =>
     simp only[cond_true,isR,xOf,cond_false,k48,g48,b1I,b1J,hq,isSome_some,getD_some,Bool.not_true];show(bif decide (((length (a1s s):Nat):Int)>24)then some ([],false,())else some (a1s s,true,()))=_;cases decide (((length (a1s s):Nat):Int)>24)<;>rfl
def pcs:List UInt8->List (List UInt8)
 |[]=>[[]]
 | b::r=>if b=32 then[]::pcs r else match pcs r with
   |[]=>[[b]]
   |p::ps=>(b::p)::ps
theorem c6T:∀l,pcs l≠[]
 |[]=>by simp[pcs]
 | b::r=>by
   unfold pcs;split
   ·simp
   ·split<;>simp
theorem b3H (b:UInt8) (l:List UInt8):Lib.index (b::l) [32]=if b=32 then 0 else if Lib.index l [32] == -1 then -1 else Lib.index l [32]+1:=by
 rw[Lib.index];by_cases h:b=32
 ·subst h;simp
 ·have:([32]:List UInt8).isPrefixOf (b::l)=false:=by
   simp[List.isPrefixOf];exact fun e=>h e.symm
  rw[this,if_neg h];simp
theorem c1O:∀l:List UInt8,Lib.splitK [32] 0 (Lib.count l [32]) l=pcs l
 |[]=>rfl
 | b::r=>by
   have ih:=c1O r;by_cases h:b=32
   ·subst h;rw[Lib.count_cons_eq,Nat.add_comm];unfold Lib.splitK pcs;rw[b3H,if_pos rfl,if_neg (by decide),if_pos rfl];simp[ih]
   ·rw [Lib.count_cons_ne b 32 r h];unfold pcs;rw[if_neg h];cases hc:Lib.count r [32]with
    | zero =>
      rw[hc]at ih;rw[<- ih];rfl
    | succ k =>
      rw[hc]at ih;have hne:¬(Lib.index r [32] == -1)=true:=fun e=>by
       have:=Lib.count_miss (s:=r) (sub:=[32]) (beq_iff_eq.1 e);omega
      have hge:=Lib.index_ge r [32];have hne':Lib.index r [32] ≠ -1:=fun e=>hne (beq_iff_eq.2 e)
      unfold Lib.splitK at ih ⊢;rw[if_neg hne]at ih;rw[b3H,if_neg h,if_neg hne,if_neg (by intro e;have:=beq_iff_eq.1 e;omega),<- ih];have e1:(Lib.index r [32]+1).toNat=(Lib.index r [32]).toNat+1:=by omega
      rw[e1];simp[Nat.add_assoc]
theorem c9j (s:ByteArray):(a4m s spB).map (·.data.toList)=pcs s.data.toList:=by
 unfold a4m;rw[Lib.splitB_data];exact c1O _
theorem c3W:∀(x l:List UInt8),32 ∉ x->pcs (x++l)=(match pcs l with
 |[]=>[x]
 |p::ps=>(x++p)::ps)
 | [],l,_=>by
   have:=c6T l;cases h:pcs l with
   |nil=>exact absurd h this
   |cons p ps=>simp[h]
 | b::x,l,hx=>by
   have hb:b≠32:=fun e=>hx (by rw[e];exact List.mem_cons_self ..)
   have ih:=c3W x l (fun e=>hx (List.mem_cons_of_mem _ e));rw[List.cons_append]
   conv=>lhs;unfold pcs
   rw[if_neg hb,ih];cases h:pcs l with
   |nil=>exact absurd h (c6T l)
   |cons p ps=>rfl
def a8c (f:List (List UInt8)):List UInt8:=Lib.join f [32]
theorem a8d (x:List UInt8):a8c [x]=x:=Lib.join_one x [32]
theorem a6k (x y:List UInt8) (r:List (List UInt8)):a8c (x::y::r)=x++32::a8c (y::r):=by
 unfold a8c;rw[Lib.join_cons,Lib.join_cons];simp[Lib.joinTail]
theorem c6U:∀(f:List (List UInt8)),(∀x∈f,32 ∉ x)->f≠[]->pcs (a8c f)=f
 |[],_,h=>absurd rfl h
 | [x],h,_=>by
   rw[a8d];have:=c3W x [] (h x (List.mem_cons_self ..));rw[List.append_nil]at this;rw[this];simp[pcs]
 | x::y::r,h,_=>by
   rw[a6k,c3W x _ (h x (List.mem_cons_self ..))];have ih:=c6U (y::r) (fun z hz=>h z (List.mem_cons_of_mem _ hz)) (by simp);have:pcs (32::a8c (y::r))=[]::(y::r):=by
    conv=>lhs;unfold pcs
    rw[if_pos rfl,ih]
   rw[this];simp
theorem e4p:∀(l:List UInt8),∀p∈pcs l,32 ∉ p /\ ∀b∈p,b∈l
 | [],p,hp=>by
   have:p=[]:=by simpa[pcs]using hp
   subst this;exact⟨by simp,fun b hb=>by cases hb⟩
 | b :: r,p,hp=>by
   have ih:=e4p r;unfold pcs at hp;split at hp
   ·rcases List.mem_cons.1 hp with h|h
    ·subst h;exact⟨by simp,fun b hb=>by cases hb⟩
    ·exact⟨(ih p h).1,fun c hc=>List.mem_cons_of_mem _ ((ih p h).2 c hc)⟩
   ·rename_i hb;split at hp
    ·rename_i h0;exact absurd h0 (c6T r)
    ·rename_i q qs hq;have hq':=ih q (by rw[hq];exact List.mem_cons_self ..);rcases List.mem_cons.1 hp with h|h
     ·subst h;refine⟨fun e=>?_,fun c hc=>?_⟩
      ·rcases List.mem_cons.1 e with e|e
       ·exact hb e.symm
       ·exact hq'.1 e
      ·rcases List.mem_cons.1 hc with e|e
       ·rw[e];exact List.mem_cons_self ..
       ·exact List.mem_cons_of_mem _ (hq'.2 c e)
     ·have:=ih p (by rw[hq];exact List.mem_cons_of_mem _ h);exact⟨this.1,fun c hc=>List.mem_cons_of_mem _ (this.2 c hc)⟩
def wt:List (List UInt8)->Nat
 |[]=>0
 |p::ps=>p.length+1+wt ps
theorem e4q:∀l,wt (pcs l)=l.length+1
 |[]=>rfl
 | b :: r=>by
   have ih:=e4q r;unfold pcs;split
   ·simp[wt,ih];omega
   ·split
    ·rename_i h0;exact absurd h0 (c6T r)
    ·rename_i q qs hq;rw[hq]at ih;simp[wt]at ih ⊢;omega
theorem c1P (g:List UInt8->Bool):∀l,wt (l.filter g)<=wt l
 |[]=>le_refl _
 | p::ps=>by
   have:=c1P g ps;rw[List.filter_cons];split<;>simp only[wt]<;>omega
theorem d5K:∀f,(a8c f).length<=wt f /\ (f≠[]->(a8c f).length+1=wt f)
 |[]=>⟨le_refl _,fun h=>absurd rfl h⟩
 |[x]=>by rw[a8d];simp[wt]
 | x::y::r=>by
   have:=(d5K (y::r)).2 (by simp);rw[a6k];simp only[length_append,List.length_cons,wt]at this ⊢;exact⟨by omega,fun _=>by omega⟩
def fl (l:List UInt8):List (List UInt8):=(pcs l).filter (·≠[])
theorem e8q (l:List UInt8):∀p∈fl l,p≠[] /\ 32 ∉ p /\ ∀b∈p,b∈l:=fun p hp=>by
 have h:=List.mem_filter.1 hp;exact⟨by simpa using h.2,e4p l p h.1⟩
theorem e8r (l:List UInt8):fl (a8c (fl l))=fl l:=by
 by_cases h:fl l=[]
 ·rw[h];rfl
 ·show(pcs (a8c (fl l))).filter _=fl l;rw[c6U (fl l) (fun x hx=>(e8q l x hx).2.1) h];exact List.filter_eq_self.2 fun x hx=>by simpa using(e8q l x hx).1
theorem f4f (l:List UInt8):(a8c (fl l)).length<=l.length:=by
 by_cases h:fl l=[]
 ·rw[h];exact zero_le _
 ·have h1:=(d5K (fl l)).2 h;have h2:=c1P (fun p=>decide (p≠[])) (pcs l);rw[e4q]at h2;have h3:wt (fl l)<=l.length+1:=h2;omega
theorem d5L {a b:ByteArray} (h:a.data.toList=b.data.toList):a=b:=by
 apply ByteArray.ext;exact Array.ext' h
theorem d5M:∀{l m:List ByteArray},l.map (·.data.toList)=m.map (·.data.toList)->l=m
 |[],[],_=>rfl
 | a::l,b::m,h=>by
   simp only[List.map_cons,List.cons.injEq]at h;rw[d5L h.1,d5M h.2]
 |[],_::_,h=>by simp at h
 |_::_,[],h=>by simp at h
theorem c1Q (bs:ByteArray):∀(n i:Nat) (r:List UInt8),bs.size-i<=n->ByteArray.toList.loop bs i r=r.reverse++bs.data.toList.drop i
 | 0,i,r,h=>by
   unfold ByteArray.toList.loop;rw[if_neg (by omega)];have:bs.data.toList.length<=i:=by rw[Array.length_toList];exact Nat.le_of_sub_eq_zero (Nat.le_zero.1 h)
   rw[List.drop_of_length_le this,List.append_nil]
 | n+1,i,r,h=>by
   unfold ByteArray.toList.loop;by_cases hi:i<bs.size
   ·rw[if_pos hi,c1Q bs n (i+1) _ (by omega),List.reverse_cons,List.append_assoc];have hl:i<bs.data.toList.length:=by rw[Array.length_toList];exact hi
    rw[List.drop_eq_getElem_cons hl];congr 1;rw[List.singleton_append];congr 1;rw[Array.getElem_toList];show bs.get! i=_;unfold ByteArray.get!;exact getElem!_pos bs.data i hi
   ·rw[if_neg hi];have:bs.data.toList.length<=i:=by rw[Array.length_toList];exact Nat.not_lt.1 hi
    rw[List.drop_of_length_le this,List.append_nil]
theorem a8e (bs:ByteArray):bs.toList=bs.data.toList:=by
 unfold ByteArray.toList;rw[c1Q bs bs.size 0 [] (by omega)];simp
theorem e1f (s:ByteArray):d5H s=decide (s.data.toList≠[]):=by
 unfold d5H a2F;rw[a8e,a8e];cases h:s.data.toList with
 |nil=>rfl
 |cons a l=>rfl
theorem a4V (s:ByteArray):(a1s s).map (·.data.toList)=fl s.data.toList:=by
 unfold a1s fl;rw[<- c9j,List.filter_map];congr 1;apply List.filter_congr;intro x _;exact e1f x
theorem a6l (f:List ByteArray):(a5w f).data.toList=a8c (f.map (·.data.toList)):=rfl
theorem c3X (s:ByteArray):a1s (a5w (a1s s))=a1s s:=by
 apply d5M;rw[a4V,a6l,a4V,e8r]
theorem a8W (s:ByteArray):(a5w (a1s s)).size<=s.size:=by
 have h:=f4f s.data.toList;rw[<- a4V,<- a6l]at h;have e:∀b:ByteArray,b.size=b.data.toList.length:=fun b=>by rw[Array.length_toList];rfl
 rw[e,e];exact h
theorem b8e (a b:ByteArray):a2F a b=true↔a=b:=by
 unfold a2F;rw[a8e,a8e,beq_iff_eq];exact⟨d5L,fun h=>by rw[h]⟩
theorem c1R (s:ByteArray) (i:Nat):d5F s i=true↔32<=(s.data.toList.getD i 0).toNat /\ (s.data.toList.getD i 0).toNat<=126:=by
 unfold d5F a1z;rw[toNat_natCast];generalize (s.data.toList.getD i 0).toNat=n;simp only[and_eq_true,Bool.not_eq_true',decide_eq_false_iff_not];omega
theorem b0p:∀(n k:Nat) (g:Nat->Bool),a0r g k n=true↔∀i,k<=i->i<k+n->g i=true
 | 0,k,g=>by
   constructor
   ·intro _ i h1 h2;omega
   ·intro _;rfl
 | n+1,k,g=>by
   unfold a0r;have ih:=b0p n (k+1) g;constructor
   ·intro h i h1 h2;cases hg:g k with
    |false=>rw[hg]at h;exact absurd h (by simp)
    | true =>
      rw[hg]at h;by_cases he:i=k
      ·rw[he];exact hg
      ·exact ih.1 (by simpa using h) i (by omega) (by omega)
   ·intro h;rw[h k (le_refl _) (by omega)];have:=ih.2 fun i h1 h2=>h i (by omega) (by omega)
    simpa using this
theorem e1g (s:ByteArray):d5G s=true↔∀b∈s.data.toList,32<=b.toNat /\ b.toNat<=126:=by
 unfold d5G;rw[b0p];have hlen:s.size=s.data.toList.length:=by rw[Array.length_toList];rfl
 constructor
 ·intro h b hb;obtain⟨i,hi,rfl⟩:=List.getElem_of_mem hb;have:=(c1R s i).1 (h i (zero_le _) (by omega));rw[a5E _ _ _ hi]at this;exact this
 ·intro h i _ hi;have hi':i<s.data.toList.length:=by omega
  rw[c1R,a5E _ _ _ hi'];exact h _ (List.getElem_mem _)
theorem c1S:∀(f:List (List UInt8)) (b:UInt8),b∈a8c f->b=32∨∃p∈f,b∈p
 |[],b,h=>by cases h
 |[x],b,h=>by rw[a8d]at h;exact .inr ⟨x,List.mem_cons_self ..,h⟩
 | x :: y::r,b,h=>by
   rw[a6k]at h;rcases List.mem_append.1 h with h|h
   ·exact .inr ⟨x,List.mem_cons_self ..,h⟩
   ·rcases List.mem_cons.1 h with h|h
    ·exact .inl h
    ·rcases c1S (y::r) b h with h|⟨p,hp,hb⟩
     ·exact .inl h
     ·exact .inr ⟨p,List.mem_cons_of_mem _ hp,hb⟩
theorem e1h (s:ByteArray) (h:d5G s=true):d5G (a5w (a1s s))=true:=by
 rw[e1g]at h ⊢;intro b hb;rw[a6l,a4V]at hb;rcases c1S _ b hb with rfl|⟨p,hp,hb⟩
 ·decide
 ·exact h b ((e8q _ p hp).2.2 b hb)
theorem c6V {s:ByteArray} {f:List ByteArray} (h:F16 (s,())=some (f,true,())):s.size<=600 /\ d5G s=true /\ f=a1s s /\ f.length<=24:=by
 rw[d5J]at h;cases h6:decide ((s.size:Int)>600)with
 |true=>rw[h6]at h;simp at h
 | false =>
   rw[h6]at h;cases hv:d5G s with
   |false=>rw[hv]at h;simp at h
   | true =>
     rw[hv]at h;cases hl:decide (((a1s s).length:Int)>24)with
     |true=>rw[hl]at h;simp at h
     | false =>
       rw[hl]at h;simp only[cond_false,Bool.not_true,injEq,Prod.mk.injEq,and_true]at h;have h1:=of_decide_eq_false h6;have h2:=of_decide_eq_false hl;exact⟨by omega,rfl,h.symm,by rw[<- h];omega⟩
theorem e1i {s:ByteArray} {f:List ByteArray} (h:F16 (s,())=some (f,true,())):F16 (a5w f,())=some (f,true,()):=by
 obtain⟨h1,h2,rfl,h4⟩:=c6V h;have h5:=a8W s;rw[d5J,e1h s h2,c3X,decide_eq_false (by omega),decide_eq_false (by omega)];rfl
theorem d5N (n:Int) (h:I64 n):F25 (n,())=some (bOf (Lib.itoa n),()):=by
 have k:K65 (n,())=true:=by
  unfold K65;unfold I64 at h;rw[decide_eq_true (show(-9223372036854775808:Int)<=n by omega),decide_eq_true (show n<=(9223372036854775807:Int)by omega)];rfl
 unfold F25 r25
 try dsimp only
 rw[k];rfl
theorem d5O (s:ByteArray) (hs:s.size<=1000):∃y,c3t ((s,(0:Int),(0:Int),()),())=some y /\ ∀z,y = .inl z->z.1.1=s /\ I64 z.1.2.1:=by
 refine a0V (q:=c8q K25 G25) (fun v=>v.1.1=s /\ I64 v.1.2.1 /\ (0<=(v.1.2.2.1:Int)) /\ (v.1.2.2.1:Int)<=s.size) (fun _ r=>∃y,r=some y /\ ∀z,y = .inl z->z.1.1=s /\ I64 z.1.2.1)
  (fun v=>((s.size:Int)-v.1.2.2.1).toNat) ?_ _ _ ⟨rfl,by show I64 0;unfold I64;omega,by show(0:Int)<=0;omega,by show(0:Int)<=_;omega⟩ (by show((s.size:Int)-0).toNat<c8r _;unfold c8r;dsimp only;omega)
 rintro⟨⟨t,n,i,_⟩,_⟩ f ⟨h1,h2,h3,h4⟩ ih;dsimp only at h1 h2 h3 h4 ih;subst h1;unfold c8q;dsimp only;by_cases hi:i<(t.size:Int)
 ·have e1:decide (i<(t.size:Int))=true:=decide_eq_true hi;have e2:decide (0<=i)=true:=decide_eq_true h3;rw[e1,e2];simp only[Bool.and_self,cond_true];cases decide (a1z t i<48)
  ·cases decide (a1z t i>57)
   ·have e:IntKind.i64.wrap (i+1)=i+1:=w64 (by omega) (by omega);simp only[cond_false,e];refine ih _ ⟨rfl,d4q _,?_,?_⟩ ?_
    ·show 0<=i+1;omega
    ·show i+1<=t.size;omega
    ·show((t.size:Int)-(i+1)).toNat<((t.size:Int)-i).toNat;omega
   ·exact⟨_,rfl,fun z hz=>by cases hz⟩
  ·exact⟨_,rfl,fun z hz=>by cases hz⟩
 ·have e1:decide (i<(t.size:Int))=false:=decide_eq_false hi;rw[e1];exact⟨_,rfl,fun z hz=>by cases hz;exact⟨rfl,h2⟩⟩
theorem f4g (s:ByteArray):∃n b,F17 (s,())=some (n,b,()):=by
 unfold F17 r17;dsimp only;cases ((s.size:Int)==0)
 ·cases h10:decide ((s.size:Int)>10)
  ·have h:s.size<=10:=by
    have:=of_decide_eq_false h10;omega
   obtain⟨y,hy,hz⟩:=d5O s (by omega);simp only[cond_false,a9o,a9p,b3l,b3m,hy,isSome_some,cond_true];cases y with
   |inr y=>exact⟨_,_,rfl⟩
   | inl z =>
     obtain⟨_,hI⟩:=hz z rfl;obtain⟨⟨t,n,_⟩,_⟩:=z;simp only[isR,cond_false,xOf];have hk:K25 (n,())=true:=by unfold K25;rw[d5N n hI];rfl
     have key:∀c d:Bool,∃(m:Int) (b:Bool),(bif c then some (0,false,())else bif d then some (0,false,())else some (n,true,()):OD R17)=some (m,b,()):=fun c d=>by
      cases c
      ·cases d
       ·exact⟨_,_,rfl⟩
       ·exact⟨_,_,rfl⟩
      ·exact⟨_,_,rfl⟩
     rw[show K25 (n,_)=true from hk];exact key _ _
  ·exact⟨_,_,rfl⟩
 ·exact⟨_,_,rfl⟩
def d5P (l:List UInt8):List UInt8:=if l.length<3 then(if l.length<2 then(if l.length<1 then 48::48::48::l else 48::48::l)else 48::l)else l
theorem c6W {u:Nat} (h:u<10):Lib.decDigits u=[dg u]:=by rw[Lib.decDigits,dif_pos h];rfl
theorem b3I {u:Nat} (h:¬u<10):Lib.decDigits u=Lib.decDigits (u/10)++[dg (u%10)]:=by rw[Lib.decDigits,dif_neg h];rfl
theorem d5Q (m:Nat) (h:m<1000):d5P (Lib.decDigits m)=(Lib.decDigits (1000+m)).drop 1:=by
 have e0:dg 0=48:=rfl;have a1:Lib.decDigits (1000+m)=[dg 1,dg (m/100),dg (m/10%10),dg (m%10)]:=by
  rw[b3I (by omega),b3I (by omega),b3I (by omega),c6W (by omega)];have x1:(1000+m)/10/10/10=1:=by omega
  have x2:(1000+m)/10/10%10=m/100:=by omega
  have x3:(1000+m)/10%10=m/10%10:=by omega
  have x4:(1000+m)%10=m%10:=by omega
  rw[x1,x2,x3,x4];rfl
 rw[a1];by_cases h1:m<10
 ·rw[c6W h1];have y1:m/100=0:=by omega
  have y2:m/10%10=0:=by omega
  have y3:m%10=m:=by omega
  rw[y1,y2,y3,e0];rfl
 ·by_cases h2:m<100
  ·rw[b3I h1,c6W (by omega)];have y1:m/100=0:=by omega
   have y2:m/10%10=m/10:=by omega
   rw[y1,y2,e0];rfl
  ·rw[b3I h1,b3I (by omega),c6W (by omega)];have y1:m/10/10=m/100:=by omega
   rw[y1];rfl
theorem e1j (n:Int) (sg l:List UInt8) (hl:1<=l.length) (hl':l.length<=100):d3E ((n,bOf sg,bOf l,()),())=some ((n,bOf sg,bOf (d5P l),()),()):=by
 have e48:({ data:=#[48] }:ByteArray)=bOf [48]:=rfl;refine a0V (q:=c5X d6W d6X K25 G25) (fun v=>∃l:List UInt8,v=((n,bOf sg,bOf l,()),()) /\ 1<=l.length /\ l.length<=100) (fun v r=>∀l:List UInt8,v=((n,bOf sg,bOf l,()),())->1<=l.length->r=some ((n,bOf sg,bOf (d5P l),()),()))
  (fun v=>3-v.1.2.2.1.size) ?_ _ _ ⟨l,rfl,hl,hl'⟩ (by unfold d3D;dsimp only;omega) l rfl hl
 rintro v f ⟨l,rfl,h1,h1'⟩ ih l' he _;have he2:bOf l=bOf l':=congrArg (fun v=>v.1.2.2.1) he;have he3:l=l':=by
  have:=congrArg (fun b=>b.data.toList) he2;simpa[bOf]using this
 subst he3;unfold c5X;dsimp only;rw[a2P];by_cases h3:l.length<3
 ·have e1:decide (((l.length:Nat):Int)<3)=true:=decide_eq_true (by omega);have e2:decide (ByteArray.size { data:=#[48] }+l.length<=9223372036854775807)=true:=decide_eq_true (by show 1+_<=_;omega);rw[e1,e2,cond_true,cond_true,e48,a8U];refine(ih _ ⟨[48]++l,rfl,by simp,by simp;omega⟩ ?_ ([48]++l) rfl (by simp)).trans ?_
  ·show 3-(bOf ([48]++l)).size<3-(bOf l).size;rw[a2P,a2P];simp;omega
  ·have:d5P ([48]++l)=d5P l:=by
    match l,h1,h3 with
    |[a],_,_=>rfl
    |[a,b],_,_=>rfl
    |_::_::_::_,_,h=>simp at h;omega
   rw[this]
 ·have e1:decide (((l.length:Nat):Int)<3)=false:=decide_eq_false (by omega);rw[e1,cond_false];unfold d5P;rw[if_neg h3]
theorem d5R (n:Int):f6g (n,())=some (decide ((-1000000000:Int)<=n)&&decide (n<=1000000000),()):=by
 have k:F44 (n,-1000000000,1000000000,())=some (decide ((-1000000000:Int)<=n)&&decide (n<=1000000000),()):=c1m _;unfold f6g g1G;dsimp only;unfold K44 G44;rw[k];rfl
theorem c1T (m:Nat) (sg:List UInt8) (n:Int) (hm:m<=1000000000) (hs:sg.length<=1) (hn:n=(m:Int)) :
 (bif K25 (((m%1000:Nat):Int),())then
  bif a8I ((n,bOf sg,G25 (((m%1000:Nat):Int),())),())then
   bif K25 (wrap IntKind.i64 (Int.tdiv (a2f ((n,bOf sg,G25 (((m%1000:Nat):Int),())),())).fst.fst 1000),())then
    bif decide (ByteArray.size (a2f ((n,bOf sg,G25 (((m%1000:Nat):Int),())),())).fst.snd.fst+ByteArray.size (G25 (wrap IntKind.i64 (Int.tdiv (a2f ((n,bOf sg,G25 (((m%1000:Nat):Int),())),())).fst.fst 1000),())).fst<=9223372036854775807)then
     bif decide (ByteArray.size ((a2f ((n,bOf sg,G25 (((m%1000:Nat):Int),())),())).fst.snd.fst++(G25 (wrap IntKind.i64 (Int.tdiv (a2f ((n,bOf sg,G25 (((m%1000:Nat):Int),())),())).fst.fst 1000),())).fst)+ByteArray.size { data:=#[46] }<=9223372036854775807)then
      bif decide (ByteArray.size ((a2f ((n,bOf sg,G25 (((m%1000:Nat):Int),())),())).fst.snd.fst++(G25 (wrap IntKind.i64 (Int.tdiv (a2f ((n,bOf sg,G25 (((m%1000:Nat):Int),())),())).fst.fst 1000),())).fst++{ data:=#[46] })+ByteArray.size (a2f ((n,bOf sg,G25 (((m%1000:Nat):Int),())),())).fst.snd.snd.fst<=9223372036854775807)then
       some ((a2f ((n,bOf sg,G25 (((m%1000:Nat):Int),())),())).fst.snd.fst++(G25 (wrap IntKind.i64 (Int.tdiv (a2f ((n,bOf sg,G25 (((m%1000:Nat):Int),())),())).fst.fst 1000),())).fst++{ data:=#[46] }++(a2f ((n,bOf sg,G25 (((m%1000:Nat):Int),())),())).fst.snd.snd.fst,())
      else none
     else none
    else none
   else none
  else none
 else none:OD d6Y)=some (bOf (sg++Lib.itoa ((m/1000:Nat):Int)++[46]++(Lib.itoa ((1000+m%1000:Nat):Int)).drop 1),()):=by
 have i1:I64 ((m%1000:Nat):Int):=by unfold I64;omega
 have i2:I64 ((m/1000:Nat):Int):=by unfold I64;omega
 have f1:=d5N _ i1;have f2:=d5N _ i2;have k1:K25 (((m%1000:Nat):Int),())=true:=isS f1;have g1:G25 (((m%1000:Nat):Int),())=(bOf (Lib.itoa ((m%1000:Nat):Int)),()):=gtS f1;have k2:K25 (((m/1000:Nat):Int),())=true:=isS f2;have g2:G25 (((m/1000:Nat):Int),())=(bOf (Lib.itoa ((m/1000:Nat):Int)),()):=gtS f2;obtain⟨l1,u1⟩:=a4T ((m%1000:Nat):Int) (by omega);obtain⟨l2,u2⟩:=a4T ((m/1000:Nat):Int) (by omega);have hl:=e1j n sg (Lib.itoa ((m%1000:Nat):Int)) l1 (by omega);have ew:IntKind.i64.wrap (Int.tdiv n 1000)=((m/1000:Nat):Int):=by
  rw[hn,Int.tdiv_eq_ediv_of_nonneg (by omega),w64 (by omega) (by omega)];omega
 have dot:({ data:=#[46] }:ByteArray)=bOf [46]:=rfl;have et:(Lib.itoa ((1000+m%1000:Nat):Int)).drop 1=d5P (Lib.itoa ((m%1000:Nat):Int)):=by
  have e1:Lib.itoa ((1000+m%1000:Nat):Int)=Lib.decDigits (1000+m%1000):=by unfold Lib.itoa;rw[if_neg (by omega),toNat_natCast]
  have e2:Lib.itoa ((m%1000:Nat):Int)=Lib.decDigits (m%1000):=by unfold Lib.itoa;rw[if_neg (by omega),toNat_natCast]
  rw[e1,e2,d5Q _ (by omega)]
 rw[k1,g1,cond_true,et];generalize Lib.itoa ((m%1000:Nat):Int)=A at *;have hp:(d5P A).length<=30:=by
  unfold d5P;split
  ·split
   ·split<;>simp<;>omega
   ·simp;omega
  ·omega
 have hk:a8I ((n,bOf sg,bOf A,()),())=true:=by unfold a8I;rw[hl];rfl
 have hx:a2f ((n,bOf sg,bOf A,()),())=((n,bOf sg,bOf (d5P A),()),()):=by unfold a2f;rw[hl];rfl
 rw[hk,hx];dsimp only;rw[ew,k2,g2];generalize Lib.itoa ((m/1000:Nat):Int)=B at *;dsimp only;simp only[cond_true,dot,a8U,a2P,length_append,List.length_singleton];rw[decide_eq_true (show sg.length+B.length<=9223372036854775807 by omega),decide_eq_true (show sg.length+B.length+1<=9223372036854775807 by omega),decide_eq_true (show sg.length+B.length+1+(d5P A).length<=9223372036854775807 by omega)];rfl
theorem e8s (n:Int):f6h (n,())=some (bOf (e9m n),()):=by
 unfold f6h g1I e9m;dsimp only;unfold d6W d6X;rw[d5R];simp only[isSome_some,getD_some,cond_true];by_cases hin:(-1000000000:Int)<=n /\ n<=1000000000
 ·have e0:(decide ((-1000000000:Int)<=n)&&decide (n<=1000000000))=true:=by rw[decide_eq_true hin.1,decide_eq_true hin.2];rfl
  rw[e0,Bool.not_true,cond_false,if_pos hin];by_cases hneg:n<0
  ·have e1:decide (n<0)=true:=decide_eq_true hneg;have e2:IntKind.i64.wrap (0-n)=((n.natAbs:Nat):Int):=by rw[w64 (by omega) (by omega)];omega
   have e3:Int.tmod ((n.natAbs:Nat):Int) 1000=((n.natAbs%1000:Nat):Int):=by rw[Int.tmod_eq_emod_of_nonneg (by omega)];omega
   rw[e1,cond_true,e2,e3,if_pos hneg];exact c1T n.natAbs [45] _ (by omega) (by simp) rfl
  ·have e1:decide (n<0)=false:=decide_eq_false hneg;have e3:Int.tmod n 1000=((n.natAbs%1000:Nat):Int):=by rw[Int.tmod_eq_emod_of_nonneg (by omega)];omega
   rw[e1,cond_false,e3,if_neg hneg];exact c1T n.natAbs [] n (by omega) (by simp) (by omega)
 ·have e0:(decide ((-1000000000:Int)<=n)&&decide (n<=1000000000))=false:=by
   rw[Bool.and_eq_false_iff,decide_eq_false_iff_not,decide_eq_false_iff_not];omega
  rw[e0,Bool.not_false,cond_true,if_neg hin];rfl
theorem c9k (s t:ByteArray) (sg d:Int) (hs:t.size<=1000):∃y,b1D ((s,t,sg,d,(0:Int),(0:Int),()),())=some y:=by
 refine a0V (q:=b6Y e5j b2O d9O e6y) (fun v=>v.1.2.1=t /\ (0<=(v.1.2.2.2.2.2.1:Int)) /\ (v.1.2.2.2.2.2.1:Int)<=t.size) (fun _ r=>∃y,r=some y)
  (fun v=>((t.size:Int)-v.1.2.2.2.2.2.1).toNat) ?_ _ _ ⟨rfl,by show(0:Int)<=0;omega,by show(0:Int)<=_;omega⟩ (by show((t.size:Int)-0).toNat<b6Z _;unfold b6Z;dsimp only;omega)
 rintro⟨⟨s,u,sg,d,n,i,_⟩,_⟩ f ⟨h1,h3,h4⟩ ih;dsimp only at h1 h3 h4 ih;subst h1;unfold b6Y;dsimp only;by_cases hi:i<(u.size:Int)
 ·have e1:decide (i<(u.size:Int))=true:=decide_eq_true hi;have e2:decide (0<=i)=true:=decide_eq_true h3;have e:IntKind.i64.wrap (i+1)=i+1:=w64 (by omega) (by omega);have go:∀m:Int,∃y,f ((s,u,sg,d,m,i+1,()),())=some y:=fun m=>by
   refine ih _ ⟨rfl,?_,?_⟩ ?_
   ·show 0<=i+1;omega
   ·show i+1<=u.size;omega
   ·show((u.size:Int)-(i+1)).toNat<((u.size:Int)-i).toNat;omega
  rw[e1,e2,e];simp only[Bool.and_self,cond_true];cases (i==d)
  ·simp only[cond_false];cases decide (a1z u i<48)
   ·cases decide (a1z u i>57)
    ·exact go _
    ·exact⟨_,rfl⟩
   ·exact⟨_,rfl⟩
  ·exact go _
 ·have e1:decide (i<(u.size:Int))=false:=decide_eq_false hi;rw[e1];exact⟨_,rfl⟩
theorem f4h (n:Int):d9O (n,())=true:=by unfold d9O;rw[e8s];rfl
theorem d5S (s t:ByteArray) (sg:Int) (ht:t.size<=1000):∃n b,(bif decide ((b2O (t,46,())).fst<1)then some (0,false,())
 else bif (((t.size:Nat):Int) != wrap IntKind.i64 ((b2O (t,46,())).fst+4))then some (0,false,())
 else bif decide ((b2O (t,46,())).fst>7)then some (0,false,())
 else bif a6f ((s,t,sg,(b2O (t,46,())).fst,0,0,()),())then
  bif a7L ((s,t,sg,(b2O (t,46,())).fst,0,0,()),())then some (b0i ((s,t,sg,(b2O (t,46,())).fst,0,0,()),())).fst
  else bif d9O (wrap IntKind.i64 ((a2N ((s,t,sg,(b2O (t,46,())).fst,0,0,()),())).fst.snd.snd.fst*(a2N ((s,t,sg,(b2O (t,46,())).fst,0,0,()),())).fst.snd.fst),())then
   bif !a2F (e6y (wrap IntKind.i64 ((a2N ((s,t,sg,(b2O (t,46,())).fst,0,0,()),())).fst.snd.snd.fst*(a2N ((s,t,sg,(b2O (t,46,())).fst,0,0,()),())).fst.snd.fst),())).fst (a2N ((s,t,sg,(b2O (t,46,())).fst,0,0,()),())).fst.fst then some (0,false,())
   else some (wrap IntKind.i64 ((a2N ((s,t,sg,(b2O (t,46,())).fst,0,0,()),())).fst.snd.snd.fst*(a2N ((s,t,sg,(b2O (t,46,())).fst,0,0,()),())).fst.snd.fst),true,())
  else none
 else none:OD d6Z)=some (n,b,()):=by
 have two:∀(c:Bool) (n:Int) (b:Bool) (m:Int),∃(n':Int) (b':Bool),(bif c then some (n,b,())else some (m,true,()):OD d6Z)=some (n',b',()):=fun c n b m=>by cases c<;>exact⟨_,_,rfl⟩
 generalize (b2O (t,46,())).fst=d;obtain⟨y,hy⟩:=c9k s t sg d ht;have hk:a6f ((s,t,sg,d,0,0,()),())=true:=by unfold a6f;rw[hy];rfl
 rw[hk,f4h];simp only[cond_true];cases decide (d<1)
 ·cases (((t.size:Nat):Int) != wrap IntKind.i64 (d+4))
  ·cases decide (d>7)
   ·cases a7L ((s,t,sg,d,0,0,()),())
    ·exact two _ _ _ _
    ·exact⟨_,_,rfl⟩
   ·exact⟨_,_,rfl⟩
  ·exact⟨_,_,rfl⟩
 ·exact⟨_,_,rfl⟩
theorem e8t (s:ByteArray) (hs:s.size<=1000):∃n b,f2C (s,())=some (n,b,()):=by
 unfold f2C g1K;dsimp only;have k235:∀t:ByteArray,e5j (t,46,())=true:=fun _=>rfl
 have plain:=d5S s s 1 hs;cases hb:a2F s { data:=#[] }with
 | true =>
   simp only[Bool.not_true,cond_false,k235,cond_true];exact plain
 | false =>
   have hpos:0<s.size:=by
    apply Nat.pos_of_ne_zero;intro h0;have:s={ data:=#[] }:=d5L (by
     have:s.data.toList.length=0:=by rw[Array.length_toList];exact h0
     rw[List.length_eq_zero_iff.1 this])
    rw[(b8e _ _).2 this]at hb;cases hb
   have e1:(decide (0<=0)&&decide (0<((ByteArray.size s:Nat):Int)))=true:=by simp;omega
   have e2:(decide (0<=1)&&decide (1<=((ByteArray.size s:Nat):Int))&&decide (((ByteArray.size s:Nat):Int)<=((ByteArray.size s:Nat):Int)))=true:=by simp;omega
   rw[e1,e2];simp only[Bool.not_false,cond_true];cases (a1z s 0==45)
   ·simp only[cond_false,k235,cond_true];exact plain
   ·simp only[cond_true,k235];refine d5S s _ (-1) ?_;rw[ByteArray.size_extract];omega
def b8f (l:List (Den S68)) (m:Den S63):Int:=bif a3k l then(match a0L (fun i=>a5O (at' l i) m) 0 l.length with|some j=>(j:Int)|none=>-1)else -1
theorem e8u (l:List (Den S68)) (m:Den S63) (h:d4j l):f6K (l,m,())=some (b8f l m,()):=by
 have hlen:=h.len;have hl:c1f (((),l,(l.length:Int),(0:Int),()),(m.1,m.2.1,()),())=some (match a0L (fun i=>a5O (at' l i) m) 0 l.length with|some j => .inr (((j:Int),()),())|none => .inl ((),())):=by
  refine(a7C (q:=c1e K92 G92 c8v c8w) (fun k=>(((),l,(l.length:Int),(k:Int),()),(m.1,m.2.1,()),())) l.length (fun i=>a5O (at' l i) m) _ (fun j => .inr (((j:Int),()),())) ?_ ?_ _ ?_:_)
  ·intro k f hk;unfold c1e;have e1:decide ((k:Int)<(l.length:Int))=true:=by simpa using hk
   have e2:decide (0<=(k:Int))=true:=by simp
   have ha:getD l k (zero S68)=at' l k:=rfl;simp only[a3I k (by omega),e1,e2,Bool.and_self,cond_true,toNat_natCast,ha,c8v,c8w,c3x,isSome_some,getD_some]
  ·intro f;simp[c1e]
  ·simp only[d3W];omega
 unfold f6K g2Q b8f;simp only[K92,G92,d4k l h,isSome_some,getD_some,cond_true,b7v,b7w,b7x,hl];cases a3k l
 ·rfl
 ·cases a0L (fun i=>a5O (at' l i) m) 0 l.length<;>rfl
def a3Z (l:List (Den S68)) (k:Int) (m:Den S63):Int:=
 bif !a3k l then -1 else bif inB k 0 ((l.length:Int)-1)&&a0U (at' l k.toNat) m then k else b8f l m
theorem e8v (l:List (Den S68)) (k:Int) (m:Den S63) (h:d4j l) (hl:l.length<=13) (hm:I64 m.2.1):f6L (l,k,m,())=some (a3Z l k m,()):=by
 have e1:=d4k l h;have k1:K92 (l,())=true:=isS e1;have g1:G92 (l,())=(a3k l,()):=gtS e1;have w1:IntKind.i64.wrap ((l.length:Int)-1)=(l.length:Int)-1:=w64 (by omega) (by omega);have e2:F44 (k,0,(l.length:Int)-1,())=some (inB k 0 ((l.length:Int)-1),()):=a3D _;have k2:K44 (k,0,(l.length:Int)-1,())=true:=isS e2;have g2:G44 (k,0,(l.length:Int)-1,())=(inB k 0 ((l.length:Int)-1),()):=gtS e2;have hg:=h.rng k.toNat;have e3:=d4g (at' l k.toNat,m,()) hg.1 hg.2 hm;have k3:K20 (at' l k.toNat,m,())=true:=isS e3;have g3:G20 (at' l k.toNat,m,())=(a0U (at' l k.toNat) m,()):=gtS e3;have e4:=e8u l m h;have k4:e9f (l,m,())=true:=isS e4;have g4:e9g (l,m,())=(b8f l m,()):=gtS e4;unfold f6L g2T a3Z;show(bif K92 (l,())then bif !(G92 (l,())).1 then some (-1,())else bif K44 (k,0,IntKind.i64.wrap ((l.length:Int)-1),())then bif (G44 (k,0,IntKind.i64.wrap ((l.length:Int)-1),())).1 then
  bif (decide (0<=k)&&decide (k<(l.length:Int)))then bif K20 (at' l k.toNat,m,())then bif (G20 (at' l k.toNat,m,())).1 then some (k,())else bif e9f (l,m,())then some (e9g (l,m,()))else none else none else none
  else bif e9f (l,m,())then some (e9g (l,m,()))else none else none else none:OD d3X)=_
 rw[w1,k1,g1,k2,g2,k3,g3,k4,g4];cases a3k l
 ·rfl
 ·cases hin:inB k 0 ((l.length:Int)-1)with
  |false=>rfl
  | true =>
    have d2:(decide (0<=k)&&decide (k<(l.length:Int)))=true:=by
     unfold inB at hin;simp only[and_eq_true,decide_eq_true_eq]at hin ⊢;omega
    rw[d2];cases a0U (at' l k.toNat) m<;>rfl
def a1g (l:List (Den S68)) (s:ByteArray):Int:=match a0L (fun i=>a2F (at' l i).1 s) 0 l.length with|some j=>(j:Int)|none=>-1
def daV (a b:Nat):Nat:=a0g .add .f32 a (a0g .mul .f32 (a0g .sub .f32 b a) 1056964608)
def a3b (w x:Nat×Nat):(Nat×Nat)×Bool×Unit:=bif !a2o w then((0,0),false,())else bif !a2o x then((0,0),false,())else((daV w.1 x.1,daV w.2 x.2),true,())
theorem e8w (w x:Nat×Nat):f6n (w,x,1056964608,())=some (a3b w x):=by
 have e1:=a5r w;have e2:=a5r x;have e3:g1U (1056964608,())=some (true,()):=by decide +kernel
 have e4:∀a b:Nat,g1X (a,b,1056964608,())=some (daV a b,()):=fun _ _=>rfl
 unfold f6n g1Z a3b;dsimp only;simp only[K45,G45,e1,e2,f6j,f6k,e3,f6l,f6m,e4,isSome_some,getD_some,cond_true];cases a2o w
 ·rfl
 ·cases a2o x<;>rfl
def uI (s:ByteArray):Int:=(G17 (s,())).1
def uB (s:ByteArray):Bool:=(G17 (s,())).2.1
theorem d5T (s:ByteArray):F17 (s,())=some (uI s,uB s,()):=by
 obtain⟨n,b,h⟩:=f4g s;unfold uI uB G17;rw[h];rfl
def xI (s:ByteArray):Int:=(c2g (s,())).1
def xB (s:ByteArray):Bool:=(c2g (s,())).2.1
theorem d5U (s:ByteArray) (hs:s.size<=1000):f2C (s,())=some (xI s,xB s,()):=by
 obtain⟨n,b,h⟩:=e8t s hs;unfold xI xB c2g;rw[h];rfl
def b8g (n:Int):Nat:=bif decide ((-1000000000:Int)<=n)&&decide (n<=1000000000)then a0g .quo .f64 (nearest .f64 n) 4652007308841189376 else 0
theorem d5V (n:Int):f6i (n,())=some (b8g n,()):=by
 unfold f6i g1N b8g;dsimp only;unfold d6W d6X;rw[d5R];simp only[isSome_some,getD_some,cond_true];cases (decide ((-1000000000:Int)<=n)&&decide (n<=1000000000))<;>rfl
def b2v (a b:ByteArray):Nat×Nat×Bool×Unit:=(b8g (xI a),b8g (xI b),xB a&&xB b,())
theorem e8x (a b:ByteArray) (ha:a.size<=1000) (hb:b.size<=1000):e9b ([a,b],())=some (b2v a b):=by
 have e1:=d5U a ha;have e2:=d5U b hb;have e3:=d5V (xI a);have e4:=d5V (xI b);have k1:e6z (a,())=true:=isS e1;have g1:c2g (a,())=(xI a,xB a,()):=gtS e1;have k2:e6z (b,())=true:=isS e2;have g2:c2g (b,())=(xI b,xB b,()):=gtS e2;have k3:e6A (xI a,())=true:=isS e3;have g3:d9R (xI a,())=(b8g (xI a),()):=gtS e3;have k4:e6A (xI b,())=true:=isS e4;have g4:d9R (xI b,())=(b8g (xI b),()):=gtS e4;unfold e9b g1Q b2v;show(bif e6z (a,())then bif e6z (b,())then bif e6A ((c2g (a,())).1,())then bif e6A ((c2g (b,())).1,())then bif (c2g (a,())).2.1 then some ((d9R ((c2g (a,())).1,())).1,(d9R ((c2g (b,())).1,())).1,(c2g (b,())).2)else some ((d9R ((c2g (a,())).1,())).1,(d9R ((c2g (b,())).1,())).1,false,())else none else none else none else none:OD d3G)=_;rw[k1,g1,k2,g2];dsimp only;rw[k3,g3,k4,g4];cases xB a<;>rfl
theorem d5W:IsR 4652007308841189376 1000:=c3H false 8796093022208000 (-43) (by decide +kernel) (by decide) (by decide +kernel)
theorem d5X (n:Int):∃r,IsR (b8g n) r /\ Abs r 2000000:=by
 unfold b8g;by_cases h:(-1000000000:Int)<=n /\ n<=1000000000
 ·rw[decide_eq_true h.1,decide_eq_true h.2];have hn:=f3R n (by omega);have h1:((-1000000000:Int):Rat)<=((n:Int):Rat):=Rat.intCast_le_intCast.2 h.1;have h2:((n:Int):Rat)<=((1000000000:Int):Rat):=Rat.intCast_le_intCast.2 h.2;have e1:((-1000000000:Int):Rat)=-1000000000:=by decide +kernel
  have e2:((1000000000:Int):Rat)=1000000000:=by decide +kernel
  rw[e1]at h1;rw[e2]at h2;obtain⟨r,r1,r2,r3⟩:=g6V (q:=((n:Int):Rat)/1000) (A:=1000000) (ε:=1) hn d5W (by decide +kernel) (by rw[Rat.div_def,Rat.mul_assoc,show((1000:Rat)⁻¹*1000)=1 by decide +kernel,Rat.mul_one]) 20 (by
   rw[Rat.div_def];have e3:(1000:Rat)⁻¹=1/1000:=by decide +kernel
   rw[e3];constructor<;>grind) (by decide +kernel) (by decide +kernel) (by decide) (by decide)
  refine⟨r,r1,?_⟩;rw[Rat.div_def]at r2 r3;have e3:(1000:Rat)⁻¹=1/1000:=by decide +kernel
  rw[e3]at r2 r3;constructor<;>grind
 ·have:(decide ((-1000000000:Int)<=n)&&decide (n<=1000000000))=false:=by
   rw[Bool.and_eq_false_iff,decide_eq_false_iff_not,decide_eq_false_iff_not];omega
  rw[this];exact⟨0,e7w,by constructor<;>decide +kernel⟩
theorem a9y (n:Int):(a0N .f64 .f32 (b8g n)).1=true:=by
 obtain⟨r,h1,h2⟩:=d5X n;exact a7Y h1 (h2.mono (by decide +kernel))
def kpV (Y:Yv):Yv:=bif decide (Y.sl ≥ 0)then Y.setSl (bif (a0F Y).2.1 then a3Z Y.sails Y.sl (a0F Y).1 else -1)else Y
def a5S (f:List ByteArray) (Y:Yv):Bool×Yv:=
 bif uB (fAt f 1)&&!decide (uI (fAt f 1)>359)then(true,kpV (Y.setHd (uI (fAt f 1))))else(false,Y)
def a3T (w:Nat×Nat):Bool:=feq .f32 w.1 0&&feq .f32 w.2 0
def a1J (f:List ByteArray):Nat×Nat:=d7k (b2v (fAt f 1) (fAt f 2))
def b2w (f:List ByteArray) (Y:Yv):Bool×Yv:=
 bif (b2v (fAt f 1) (fAt f 2)).2.2.1&&a2o (a1J f)then
  bif a3T Y.wd then(true,kpV (Y.setWd (a1J f)))
  else bif (a3b Y.wd (a1J f)).2.1&&a2o (a3b Y.wd (a1J f)).1 then(true,kpV (Y.setWd (a3b Y.wd (a1J f)).1))else(false,Y)
 else(false,Y)
def b2x (f:List ByteArray) (Y:Yv):Bool×Yv:=
 bif a2F (fAt f 1) c8R then(true,Y.setSl (-1))
 else bif !decide (a1g Y.sails (fAt f 1)<0)&&((a0F Y).2.1&&a5O (at' Y.sails (a1g Y.sails (fAt f 1)).toNat) (a0F Y).1)then(true,Y.setSl (a1g Y.sails (fAt f 1)))else(false,Y)
def c9l (f:List ByteArray):Nat×Nat:=((b2v (fAt f 1) (fAt f 2)).1,(b2v (fAt f 1) (fAt f 2)).2.1)
def d7l (f:List ByteArray) (Y:Yv):Bool×Yv:=
 bif (b2v (fAt f 1) (fAt f 2)).2.2.1&&(a1c (c9l f)).2.1 then(true,Y.setPs (c9l f))else(false,Y)
def goS (Y:Yv):Nat:=bif decide (Y.sl ≥ 0)then a2j Y else 0
def goR (n:Int) (Y:Yv):(Nat×Nat)×Bool×Unit:=g3P Y.ps Y.tm (Y.hd,goS Y,n,()) Y.1.2.1
def goV (n:Int) (Y:Yv):Bool×Yv:=
 bif inB n 1 3600&&(!decide (Y.tm+n>10000000)&&!decide ((Y.tk.length:Int) ≥ 200))then
  bif (goR n Y).2.1&&(a1c (goR n Y).1).2.1 then(true,Y.setGo (Y.tm+n) (goR n Y).1 (Y.tk++[((a1c (goR n Y).1).1,Y.tm+n,())]))else(false,Y)
 else(false,Y)
def goW (f:List ByteArray) (Y:Yv):Bool×Yv:=bif uB (fAt f 1)then goV (uI (fAt f 1)) Y else(false,Y)
def isC (f:List ByteArray) (n:Nat) (s:ByteArray):Bool:=decide (f.length=n)&&a2F (fAt f 0) s
def a3g (f:List ByteArray) (Y:Yv):Bool×Yv:=
 bif isC f 2 a5R then a5S f Y else bif isC f 3 b2s then b2w f Y else bif isC f 2 c1G then b2x f Y else bif isC f 3 e4e then d7l f Y else bif isC f 2 sGo then goW f Y else(false,Y)
theorem g3Q (Y:Yv) (h:YM Y):kpK K19 G19 c6b c6c Y prY=some (true,kpV Y):=by
 have e8:=c6K Y;have k8:K19 (Y,())=true:=isS e8;have g8:G19 (Y,())=a0F Y:=gtS e8;have hl:=a8b h;have e1:=e8v Y.sails Y.sl (a0F Y).1 (h.boat.2.2.1.1.good hl) hl (b1T Y);have k1:c6b (Y.sails,Y.sl,(a0F Y).1,())=true:=isS e1;have g1:c6c (Y.sails,Y.sl,(a0F Y).1,())=(a3Z Y.sails Y.sl (a0F Y).1,()):=gtS e1;unfold kpK kpV;rw[k8,g8,k1,g1];cases decide (Y.sl ≥ 0)
 ·rfl
 ·cases (a0F Y).2.1<;>rfl
theorem d5Y (f:List ByteArray) (Y:Yv) (h:YM Y) (hf:0<f.length) (hs:a2F (fAt f 0) a5R=true∨a2F (fAt f 0) b2s=true):a8R K19 G19 c6b c6c f Y prY=some (true,kpV Y):=by
 have d:ixB f 0=true:=decide_eq_true (by omega);unfold a8R;rw[d,g3Q Y h];rcases hs with hs|hs
 ·rw[hs];rfl
 ·rw[hs];cases a2F (fAt f 0) a5R<;>rfl
theorem d5Z (f:List ByteArray) (Y:Yv) (hf:0<f.length) (s:ByteArray) (hs:a2F (fAt f 0) s=true) (h1:a2F s a5R=false) (h2:a2F s b2s=false):a8R K19 G19 c6b c6c f Y prY=some (true,Y):=by
 have d:ixB f 0=true:=decide_eq_true (by omega);have e:=(b8e _ _).1 hs;unfold a8R;rw[d,e,h1,h2];rfl
theorem d6a (f:List ByteArray) (n:Nat) (hn:0<n) (s:ByteArray) (a b:Option (Bool×Yv)):b2t f (n:Int) s a b=bif isC f n s then a else b:=by
 unfold b2t isC;by_cases h:f.length=n
 ·have e1:((f.length:Int)==(n:Int))=true:=by rw[beq_iff_eq];omega
  have d:ixB f 0=true:=decide_eq_true (by omega);rw[e1,d,decide_eq_true h];rfl
 ·have e1:((f.length:Int)==(n:Int))=false:=by rw[beq_eq_false_iff_ne];omega
  rw[e1,decide_eq_false h];rfl
theorem c9m {f:List ByteArray} {n:Nat} {s:ByteArray} (h:isC f n s=true):f.length=n /\ a2F (fAt f 0) s=true:=by
 unfold isC at h;simpa using h
theorem YM.hd' {Y:Yv} (h:YM Y) (k:Int):YM (Y.setHd k):=⟨h.boat,h.tk,h.lg⟩
theorem YM.wd' {Y:Yv} (h:YM Y) (w:Nat×Nat):YM (Y.setWd w):=⟨h.boat,h.tk,h.lg⟩
theorem ix1 {f:List ByteArray} (h:2<=f.length):ixB f 1=true:=decide_eq_true (by omega)
theorem uK (s:ByteArray):K17 (s,())=true:=by unfold K17;rw[d5T];rfl
theorem uG (s:ByteArray):G17 (s,())=(uI s,uB s,()):=by unfold G17;rw[d5T];rfl
theorem e1k (f:List ByteArray) (Y:Yv) (h:YM Y) (hc:isC f 2 a5R=true):b3z K17 G17 K19 G19 c6b c6c f Y prY=some (a5S f Y):=by
 obtain⟨hl,hs⟩:=c9m hc;have he:=d5Y f (Y.setHd (uI (fAt f 1))) (h.hd' _) (by omega) (.inl hs);unfold b3z a5S;rw[ix1 (by omega),uK,uG];dsimp only;rw[he];cases uB (fAt f 1)
 ·rfl
 ·cases decide (uI (fAt f 1)>359)<;>rfl
theorem e4r {f:List ByteArray} (hl:f.length=3) (hz:∀k,(fAt f k).size<=1000):slB f=true /\ e6B (b2e f,())=true /\ e6C (b2e f,())=b2v (fAt f 1) (fAt f 2):=by
 obtain⟨a,b,c,rfl⟩:∃a b c,f=[a,b,c]:=by
  match f,hl with
  |[a,b,c],_=>exact⟨a,b,c,rfl⟩
 have e:=e8x b c (hz 1) (hz 2);refine⟨rfl,?_,?_⟩
 ·show(e9b ([b,c],())).isSome=true;rw[e];rfl
 ·show(e9b ([b,c],())).getD _=_;rw[e];rfl
theorem e8y (f:List ByteArray) (Y:Yv) (h:YM Y) (hc:isC f 3 b2s=true) (hz:∀k,(fAt f k).size<=1000):c8T e6B e6C K45 G45 e9c e9d K19 G19 c6b c6c f Y prY=some (b2w f Y):=by
 obtain⟨hl,hs⟩:=c9m hc;obtain⟨t1,t2,t3⟩:=e4r hl hz;have n1:(a0N .f64 .f32 (b2v (fAt f 1) (fAt f 2)).1).1=true:=a9y _;have n2:(a0N .f64 .f32 (b2v (fAt f 1) (fAt f 2)).2.1).1=true:=a9y _;have e1:=a5r (a1J f);have k1:K45 (a1J f,())=true:=isS e1;have g1:G45 (a1J f,())=(a2o (a1J f),()):=gtS e1;have e2:=e8w Y.wd (a1J f);have k2:e9c (Y.wd,a1J f,1056964608,())=true:=isS e2;have g2:e9d (Y.wd,a1J f,1056964608,())=a3b Y.wd (a1J f):=gtS e2;have e3:=a5r (a3b Y.wd (a1J f)).1;have k3:K45 ((a3b Y.wd (a1J f)).1,())=true:=isS e3;have g3:G45 ((a3b Y.wd (a1J f)).1,())=(a2o (a3b Y.wd (a1J f)).1,()):=gtS e3;have he1:=d5Y f (Y.setWd (a1J f)) (h.wd' _) (by omega) (.inr hs);have he2:=d5Y f (Y.setWd (a3b Y.wd (a1J f)).1) (h.wd' _) (by omega) (.inr hs);unfold c8T b2w;rw[t1,t2,t3,n1,n2];have hx:d7k (b2v (fAt f 1) (fAt f 2))=a1J f:=rfl;rw[hx,k1,g1,k2,g2,k3,g3,he1,he2];have hcalm:(feq FloatKind.f32 Y.wd.1 0&&feq FloatKind.f32 Y.wd.2 0)=a3T Y.wd:=rfl;rw[hcalm];cases (b2v (fAt f 1) (fAt f 2)).2.2.1
 ·rfl
 ·cases a2o (a1J f)
  ·rfl
  ·cases a3T Y.wd
   ·cases (a3b Y.wd (a1J f)).2.1
    ·rfl
    ·cases a2o (a3b Y.wd (a1J f)).1<;>rfl
   ·rfl
theorem e8z (f:List ByteArray) (Y:Yv) (h:YM Y) (hc:isC f 2 c1G=true):c8U c9F c9G K19 G19 c8v c8w c6b c6c f Y prY=some (b2x f Y):=by
 obtain⟨hl,hs⟩:=c9m hc;have hlen:=a8b h;have e8:=c6K Y;have k8:K19 (Y,())=true:=isS e8;have g8:G19 (Y,())=a0F Y:=gtS e8;have e1:f1Q (Y.sails,fAt f 1,())=some (a1g Y.sails (fAt f 1),()):=d4i Y.sails (fAt f 1) (by omega);have k1:c9F (Y.sails,fAt f 1,())=true:=isS e1;have g1:c9G (Y.sails,fAt f 1,())=(a1g Y.sails (fAt f 1),()):=gtS e1;have k2:c8v (at' Y.sails (a1g Y.sails (fAt f 1)).toNat,(a0F Y).1,())=true:=by unfold c8v;rw[c3x];rfl
 have g2:c8w (at' Y.sails (a1g Y.sails (fAt f 1)).toNat,(a0F Y).1,())=(a5O (at' Y.sails (a1g Y.sails (fAt f 1)).toNat) (a0F Y).1,()):=by unfold c8w;rw[c3x];rfl
 have he:=d5Z f (Y.setSl (a1g Y.sails (fAt f 1))) (by omega) c1G hs (by decide +kernel) (by decide +kernel);have hlt:a1g Y.sails (fAt f 1)<(Y.sails.length:Int):=by
  unfold a1g;cases hf:a0L (fun i=>a2F (at' Y.sails i).1 (fAt f 1)) 0 Y.sails.length with
  |none=>show(-1:Int)<_;omega
  |some j=>have:=(a1B hf).2.1;show(j:Int)<_;omega
 have ha:∀k,getD Y.sails k (zero S68)=at' Y.sails k:=fun _=>rfl
 unfold c8U b2x;rw[ix1 (by omega),k1,k8,g1,g8];dsimp only;rw[ha,k2,g2,he];cases a2F (fAt f 1) c8R
 ·by_cases h0:a1g Y.sails (fAt f 1)<0
  ·rw[decide_eq_true h0];rfl
  ·have d1:decide (0<=a1g Y.sails (fAt f 1))=true:=decide_eq_true (by omega);rw[decide_eq_false h0,d1,decide_eq_true hlt];cases (a0F Y).2.1
   ·rfl
   ·cases a5O (at' Y.sails (a1g Y.sails (fAt f 1)).toNat) (a0F Y).1<;>rfl
 ·rfl
theorem f4i (f:List ByteArray) (Y:Yv) (hc:isC f 3 e4e=true) (hz:∀k,(fAt f k).size<=1000):e9l e6B e6C K19 G19 K23 G23 c6b c6c f Y prY=some (d7l f Y):=by
 obtain⟨hl,hs⟩:=c9m hc;obtain⟨t1,t2,t3⟩:=e4r hl hz;have e1:=d5y (c9l f);have k1:K23 (c9l f,())=true:=isS e1;have g1:G23 (c9l f,())=a1c (c9l f):=gtS e1;have he:=d5Z f (Y.setPs (c9l f)) (by omega) e4e hs (by decide +kernel) (by decide +kernel);unfold e9l d7l;rw[t1,t2,t3];have hx:((b2v (fAt f 1) (fAt f 2)).1,(b2v (fAt f 1) (fAt f 2)).2.1)=c9l f:=rfl;rw[hx,k1,g1,he];cases (b2v (fAt f 1) (fAt f 2)).2.2.1
 ·rfl
 ·cases (a1c (c9l f)).2.1<;>rfl
theorem e4s (f:List ByteArray) (Y:Yv) (h:YM Y) (n:Int) (s:Nat) (hn:n<=3600) (ht:0<=Y.tm /\ Y.tm<=10000000) (hl:f.length=2) (hs:a2F (fAt f 0) sGo=true) (hsp:goS Y=s) (t:Int) (het:t=Y.tm+n) :
 c3N K19 G19 K23 G23 e6J e6K c6b c6c f Y n t s prY=some (bif (goR n Y).2.1&&(a1c (goR n Y).1).2.1 then(true,Y.setGo t (goR n Y).1 (Y.tk++[((a1c (goR n Y).1).1,t,())]))else(false,Y)):=by
 have e1:e6I (Y.ps,Y.tm,[((Y.hd,s,n,()):Den a3Y)],Y.1.2.1,())=some (goR n Y):=by
  unfold goR;rw[hsp];exact e8p Y.ps Y.tm (Y.hd,s,n,()) Y.1.2.1 h.boat.2.1 ht.1 (by omega) hn
 have k1:e6J (Y.ps,Y.tm,set (replicate 1 (zero a3Y)) 0 (Y.hd,s,n,()),Y.1.2.1,())=true:=by
  show(e6I (Y.ps,Y.tm,[((Y.hd,s,n,()):Den a3Y)],Y.1.2.1,())).isSome=true;rw[e1];rfl
 have g1:e6K (Y.ps,Y.tm,set (replicate 1 (zero a3Y)) 0 (Y.hd,s,n,()),Y.1.2.1,())=goR n Y:=by
  show(e6I (Y.ps,Y.tm,[((Y.hd,s,n,()):Den a3Y)],Y.1.2.1,())).getD _=_;rw[e1];rfl
 have e2:=d5y (goR n Y).1;have k2:K23 ((goR n Y).1,())=true:=isS e2;have g2:G23 ((goR n Y).1,())=a1c (goR n Y).1:=gtS e2;have hcap:a0D (length Y.tk+1)=true:=a0K (by have:=h.tk;omega);have he:=d5Z f (Y.setGo t (goR n Y).1 (Y.tk++[((a1c (goR n Y).1).1,t,())])) (by omega) sGo hs (by decide +kernel) (by decide +kernel);unfold c3N;rw[k1,g1,k2,g2,hcap,he];cases (goR n Y).2.1
 ·rfl
 ·cases (a1c (goR n Y).1).2.1<;>rfl
theorem g3R (f:List ByteArray) (Y:Yv) (h:YM Y) (hc:isC f 2 sGo=true) (ht:0<=Y.tm /\ Y.tm<=10000000):goK K17 G17 K19 G19 K23 G23 K44 G44 K57 G57 e6J e6K c6b c6c f Y prY=some (goW f Y):=by
 obtain⟨hl,hs⟩:=c9m hc;unfold goK goW;rw[ix1 (by omega),uK,uG];dsimp only;generalize uI (fAt f 1)=n;have e2:F44 (n,1,3600,())=some (inB n 1 3600,()):=a3D _;have k2:K44 (n,1,3600,())=true:=isS e2;have g2:G44 (n,1,3600,())=(inB n 1 3600,()):=gtS e2;have e3:=e4f Y;have k3:K57 (Y,())=true:=isS e3;have g3:G57 (Y,())=(a2j Y,()):=gtS e3;rw[k2,g2,k3,g3];unfold goV;cases uB (fAt f 1)
 ·rfl
 cases hin:inB n 1 3600 with
 |false=>rfl
 | true =>
   have hin':=hin;unfold inB at hin';simp only[and_eq_true,decide_eq_true_eq]at hin';have w1:IntKind.i64.wrap (Y.tm+n)=Y.tm+n:=w64 (by omega) (by omega);rw[w1];cases decide (Y.tm+n>10000000)
   ·cases decide ((Y.tk.length:Int) ≥ 200)
    ·cases hsl:decide (Y.sl ≥ 0)with
     |false=>exact e4s f Y h n 0 hin'.2 ht hl hs (by unfold goS;rw[hsl];rfl) _ rfl
     |true=>exact e4s f Y h n (a2j Y) hin'.2 ht hl hs (by unfold goS;rw[hsl];rfl) _ rfl
    ·rfl
   ·rfl
theorem e1l (f:List ByteArray) (Y:Yv) (h:YM Y) (hz:∀k,(fAt f k).size<=1000) (ht:0<=Y.tm /\ Y.tm<=10000000):e1a f Y=some (a3g f Y):=by
 unfold e1a c8V a3g;have c2:∀(s:ByteArray) (a b:Option (Bool×Yv)),b2t f 2 s a b=bif isC f 2 s then a else b:=fun s a b=>d6a f 2 (by decide) s a b
 have c3:∀(s:ByteArray) (a b:Option (Bool×Yv)),b2t f 3 s a b=bif isC f 3 s then a else b:=fun s a b=>d6a f 3 (by decide) s a b
 rw[c2,c3,c2,c3,c2];cases c1:isC f 2 a5R with
 |true=>exact e1k f Y h c1
 |false=>
 cases c1:isC f 3 b2s with
 |true=>exact e8y f Y h c1 hz
 |false=>
 cases c1:isC f 2 c1G with
 |true=>exact e8z f Y h c1
 |false=>
 cases c1:isC f 3 e4e with
 |true=>exact f4i f Y c1 hz
 |false=>
 cases c1:isC f 2 sGo with
 |true=>exact g3R f Y h c1 ht
 |false=>rfl
theorem c6X {w:Nat} {s:Bool} {m:Nat} {e:Int} (h:Ieee.single.read w = .number s m e):∃q,IsS w q:=⟨_,s,m,e,h,c3M h,rfl⟩
theorem e1m {lo hi z w:Nat} {x y:Rat} (hz:IsS z x) (hw:IsS w y) (h1:fge lo z=true) (h2:fgt .f32 hi lo=true) (h3:fle hi w=true):(∃v,IsS lo v) /\ ∃v,IsS hi v:=by
 obtain⟨s,m,c,e1,_⟩:=hz;obtain⟨t,n,d,e2,_⟩:=hw;have o1:FloatKind.f32.format.order lo z=(Ieee.single.read lo).order (Ieee.single.read z):=rfl;have o2:FloatKind.f32.format.order hi lo=(Ieee.single.read hi).order (Ieee.single.read lo):=rfl;have o3:FloatKind.f32.format.order hi w=(Ieee.single.read hi).order (Ieee.single.read w):=rfl;unfold fge fgt feq at h1;unfold fgt at h2;unfold fle flt feq at h3;rw[o1,e1]at h1;rw[o2]at h2;rw[o3,e2]at h3;cases hl:Ieee.single.read lo with
 |nan a b=>rw[hl]at h1;simp[Ieee.Datum.order]at h1
 | infinity a =>
   rw[hl]at h1 h2;cases hh:Ieee.single.read hi with
   |nan p q=>rw[hh]at h2;simp[Ieee.Datum.order]at h2
   | infinity p =>
     rw[hh]at h2 h3;cases a<;>cases p<;>simp[Ieee.Datum.order]at h1 h2 h3
     all_goals exact absurd h2 (by decide)
   | number p q r =>
     rw[hh]at h2;cases a<;>simp[Ieee.Datum.order]at h1 h2
 | number p q r =>
   refine⟨c6X hl,?_⟩;rw[hl]at h2;cases hh:Ieee.single.read hi with
   |nan a b=>rw[hh]at h2;simp[Ieee.Datum.order]at h2
   | infinity a =>
     rw[hh]at h2 h3;cases a<;>simp[Ieee.Datum.order]at h2 h3
   |number a b c=>exact c6X hh
theorem c3Y {a lo hi:Nat} {x y:Rat} (hlo:IsS lo x) (hhi:IsS hi y) (h1:fge a lo=true) (h2:fle a hi=true):∃v,IsS a v:=by
 obtain⟨s,m,e,hr,_,_⟩:=hlo;obtain⟨t,n,f,hr2,_,_⟩:=hhi;have o1:FloatKind.f32.format.order a lo=(Ieee.single.read a).order (Ieee.single.read lo):=rfl;have o2:FloatKind.f32.format.order a hi=(Ieee.single.read a).order (Ieee.single.read hi):=rfl;unfold fge fle fgt feq flt at *;rw[o1,hr]at h1;rw[o2,hr2]at h2;cases hz:Ieee.single.read a with
 |number a b p=>exact c6X hz
 |nan a b=>rw[hz]at h2;simp[Ieee.Datum.order]at h2
 | infinity a =>
   rw[hz]at h1 h2;cases a<;>simp[Ieee.Datum.order]at h1 h2
theorem g4Y:IsS 1065353216 1:=e7H false 8388608 (-23) (by decide +kernel) (by decide) (by decide +kernel)
theorem g4Z:IsS 1128792064 200:=e7H false 13107200 (-16) (by decide +kernel) (by decide) (by decide +kernel)
theorem c1U {s:Den S68} {m:Den S63} (hs:a2l s=true) (h:a5O s m=true):a0U s m=true:=by
 unfold a2l at hs;unfold a5O at h;unfold a0U;rw[and_eq_true,and_eq_true,and_eq_true,and_eq_true]at hs;rw[and_eq_true,and_eq_true,and_eq_true]at h;obtain⟨_,a1,a2,a3,_⟩:=hs;obtain⟨⟨b1,b2⟩,b3,b4⟩:=h;have a1:fge s.2.1 0=true:=a1;have a3:fle s.2.2.1 1128792064=true:=a3;have b1:fge m.1 s.2.1=true:=b1;have b2:fle m.1 s.2.2.1=true:=b2;obtain⟨⟨x,hx⟩,y,hy⟩:=e1m e0K g4Z a1 a2 a3;obtain⟨v,hv⟩:=c3Y hx hy b1 b2;have c1:(0:Rat)<=x:=by rw[g3A hx e0K]at a1;simpa using a1
 have c2:x<y:=by rw[g6Z hy hx]at a2;simpa using a2
 have c3:y<=200:=by rw[g3z hy g4Z]at a3;simpa using a3
 have c4:x<=v:=by rw[g3A hv hx]at b1;simpa using b1
 have c5:v<=y:=by rw[g3z hv hy]at b2;simpa using b2
 obtain⟨r,r1,r2,r3⟩:=g3C hx g4Y 8 (A:=300) (ε:=1/2) (by constructor<;>grind) (by decide +kernel) (by decide +kernel) (by decide) (by decide);obtain⟨t,t1,t2,t3⟩:=g3B hy g4Y 8 (A:=300) (ε:=1/2) (by constructor<;>grind) (by decide +kernel) (by decide +kernel) (by decide) (by decide);have d1:fge m.1 (a0g .sub .f32 s.2.1 1065353216)=true:=by rw[g3A hv r1];simp only[decide_eq_true_eq];grind
 have d2:fle m.1 (a0g .add .f32 s.2.2.1 1065353216)=true:=by rw[g3z hv t1];simp only[decide_eq_true_eq];grind
 have d1:(fgt .f32 m.1 (a0g .sub .f32 s.2.1 1065353216)||feq .f32 m.1 (a0g .sub .f32 s.2.1 1065353216))=true:=d1;have d2:(flt .f32 m.1 (a0g .add .f32 s.2.2.1 1065353216)||feq .f32 m.1 (a0g .add .f32 s.2.2.1 1065353216))=true:=d2;rw[d1,d2,b3,b4];rfl
theorem c6Y (a:Nat):IsS (a0g .mul .f32 a 0) 0∨a0g .mul .f32 a 0=qn .f32:=by
 have e1:a0g .mul .f32 a 0=(((Ieee.single.read a).product (Ieee.single.read 0)).map Ieee.single.write).getD (qn .f32):=rfl;have e0:Ieee.single.read 0 = .number false 0 (-149):=by decide
 rw[e1,e0];cases Ieee.single.read a with
 | number s m e =>
   left;show IsS (Ieee.single.nearest (s ^^ false) (m*0) (e + -149)) 0;rw[Nat.mul_zero];unfold Ieee.Format.nearest;rw[if_pos rfl];exact a4S _
 |infinity s=>exact .inr rfl
 |nan s t=>exact .inr rfl
theorem c9n (u:Nat×Nat) (h:a2o (a2E u 0)=true):IsS (a2E u 0).1 0 /\ IsS (a2E u 0).2 0:=by
 unfold a2o at h;rw[and_eq_true]at h;have hq:b7Q (qn .f32)=false:=by decide +kernel
 obtain⟨h1,h2⟩:=h;constructor
 ·rcases c6Y (a0N .f64 .f32 u.1).2 with h|h
  ·exact h
  ·have:(a2E u 0).1=qn .f32:=h;rw[this,hq]at h1;cases h1
 ·rcases c6Y (a0N .f64 .f32 u.2).2 with h|h
  ·exact h
  ·have:(a2E u 0).2=qn .f32:=h;rw[this,hq]at h2;cases h2
theorem b2a {s:Bool} {m:Nat} {e:Int} (h:RV s m e=0):m=0:=by
 unfold RV at h;have hp:=a1f e;apply Classical.byContradiction;intro hm;have h1:(1:Rat)<=(m:Rat):=by
  have:=a0R (show 1<=m by omega);exact this
 have h2:=Rat.mul_pos (show(0:Rat)<(m:Rat)by grind) hp;cases s
 ·have:sgR false=1:=rfl;rw[this]at h;grind
 ·have:sgR true=-1:=rfl;rw[this]at h;grind
theorem c6Z {a b:Nat} (ha:IsS a 0) (hb:IsS b 0):IsS (a0g .sub .f32 a b) 0:=by
 obtain⟨s,m,e,hr,_,h1⟩:=ha;obtain⟨t,n,f,hr',_,h2⟩:=hb;obtain rfl:=b2a h1.symm;obtain rfl:=b2a h2.symm;have e1:a0g .sub .f32 a b=(((Ieee.single.read a).sum (Ieee.single.read b).opposite).map Ieee.single.write).getD (qn .f32):=rfl;rw[e1,hr,hr'];have hz:∀(s:Bool) (k:Nat),Ieee.signed s 0 k=0:=by
  intro s k;unfold Ieee.signed;rw[Nat.zero_shiftLeft];cases s<;>rfl
 show IsS (Ieee.single.nearest (if Ieee.signed s 0 (e-min e f).toNat+Ieee.signed (!t) 0 (f-min e f).toNat=0 then s&&!t else decide (Ieee.signed s 0 (e-min e f).toNat+Ieee.signed (!t) 0 (f-min e f).toNat<0)) (Ieee.signed s 0 (e-min e f).toNat+Ieee.signed (!t) 0 (f-min e f).toNat).natAbs (min e f)) 0;rw[hz,hz];show IsS (Ieee.single.nearest (s&&!t) 0 (min e f)) 0;unfold Ieee.Format.nearest;rw[if_pos rfl];exact a4S _
theorem c7a {a:Nat} (h:feq .f32 a 0=true):IsS a 0:=by
 have o1:FloatKind.f32.format.order a 0=(Ieee.single.read a).order (Ieee.single.read 0):=rfl;have e0:Ieee.single.read 0 = .number false 0 (-149):=by decide
 have hn:∃q,IsS a q:=by
  unfold feq at h;rw[o1,e0]at h;cases hz:Ieee.single.read a with
  |number s b p=>exact c6X hz
  |nan s b=>rw[hz]at h;simp[Ieee.Datum.order]at h
  | infinity s =>
    rw[hz]at h;cases s<;>simp[Ieee.Datum.order]at h
 obtain⟨q,hq⟩:=hn;unfold feq at h;rw[f3K hq e0K]at h;by_cases h1:q<0
 ·simp[h1]at h
 ·by_cases h2:(0:Rat)<q
  ·simp[h1,h2]at h
  ·have:q=0:=by grind
   rw[this]at hq;exact hq
theorem c7b {a:Nat} (h:IsS a 0):feq .f32 a 0=true:=by
 unfold feq;rw[f3K h e0K];simp
theorem b3J {w:Nat×Nat} (h:a3T w=true):a1G w=-1:=by
 unfold a1G;have h:(feq .f32 w.1 0&&feq .f32 w.2 0)=true:=h;rw[h];cases a2o w<;>rfl
theorem c9o {Y:Yv} (h:a3T Y.wd=true):(a0F Y).2.1=false:=by
 have hf:=b3J h;have hp:a2j Y=0:=by
  unfold a2j;rw[hf];rfl
 have hb:a3K 0=true:=by decide +kernel
 unfold a0F;rw[hp];have hv:a9x Y.hd 0=(a2E (a0X (md Y.hd)) 0,true,()):=by
  unfold a9x;rw[hb];rfl
 rw[hv];show(c9N Y.wd (a2E (a0X (md Y.hd)) 0) Y.hd).2.1=false;unfold c9N;cases h1:a2o Y.wd with
 | false =>
   have:apV Y.wd (a2E (a0X (md Y.hd)) 0)=((0,0),false,()):=by unfold apV;rw[h1];rfl
   rw[this];rfl
 | true =>
   cases h2:a2o (a2E (a0X (md Y.hd)) 0)with
   | false =>
     have:apV Y.wd (a2E (a0X (md Y.hd)) 0)=((0,0),false,()):=by unfold apV;rw[h1,h2];rfl
     rw[this];rfl
   | true =>
     obtain⟨z1,z2⟩:=c9n _ h2;have hw:feq .f32 Y.wd.1 0=true /\ feq .f32 Y.wd.2 0=true:=by
      unfold a3T at h;simpa using h
     have q1:=c7b (c6Z (c7a hw.1) z1);have q2:=c7b (c6Z (c7a hw.2) z2);have ha:apV Y.wd (a2E (a0X (md Y.hd)) 0)=((a0g .sub .f32 Y.wd.1 (a2E (a0X (md Y.hd)) 0).1,a0g .sub .f32 Y.wd.2 (a2E (a0X (md Y.hd)) 0).2),true,()):=by unfold apV;rw[h1,h2];rfl
     rw[ha];have hs:a3T (a0g .sub .f32 Y.wd.1 (a2E (a0X (md Y.hd)) 0).1,a0g .sub .f32 Y.wd.2 (a2E (a0X (md Y.hd)) 0).2)=true:=by
      unfold a3T;rw[q1,q2];rfl
     show(bif !true then _ else bif decide (a1G (a0g .sub .f32 Y.wd.1 (a2E (a0X (md Y.hd)) 0).1,a0g .sub .f32 Y.wd.2 (a2E (a0X (md Y.hd)) 0).2)<0)then _ else _:Den R58).2.1=false;rw[b3J hs];rfl
def spF (s:ByteArray):List ByteArray:=(G16 (s,())).1
def spO (s:ByteArray):Bool:=(G16 (s,())).2.1
theorem c7c (s:ByteArray):F16 (s,())=some (spF s,spO s,()):=by
 unfold spF spO G16;rw[d5J];cases decide ((s.size:Int)>600)
 ·cases d5G s
  ·rfl
  ·cases decide (((a1s s).length:Int)>24)<;>rfl
 ·rfl
theorem d6b {s:ByteArray} (h:spO s=true):s.size<=600 /\ d5G s=true /\ spF s=a1s s /\ (spF s).length<=24:=by
 have e:=c7c s;rw[h]at e;exact c6V e
theorem e8A {s:ByteArray} (h:spO s=true):spF (a5w (spF s))=spF s /\ spO (a5w (spF s))=true:=by
 have e:=c7c s;rw[h]at e;have e2:=e1i e;rw[c7c]at e2;simp only[injEq,Prod.mk.injEq,and_true]at e2;exact e2
theorem c1V:∀(f:List (List UInt8)) (x:List UInt8),x∈f->x.length<=(a8c f).length
 | [y],x,h=>by
   rw[List.mem_singleton.1 h,a8d];exact le_refl _
 | y::z::r,x,h=>by
   rw[a6k];simp only[length_append,List.length_cons];rcases List.mem_cons.1 h with h|h
   ·rw[h];omega
   ·have:=c1V (z::r) x h;omega
theorem d6c (b:ByteArray):b.size=b.data.toList.length:=by rw[Array.length_toList];rfl
theorem e1n {s:ByteArray} (h:spO s=true) (k:Int):(fAt (spF s) k).size<=600:=by
 obtain⟨h1,_,h3,_⟩:=d6b h;have hj:=a8W s;unfold fAt;rw[h3,List.getD_eq_getElem?_getD];cases hx:(a1s s)[k.toNat]? with
 |none=>exact zero_le _
 | some x =>
   have hm:x∈a1s s:=List.mem_of_getElem? hx;have:=c1V ((a1s s).map (·.data.toList)) x.data.toList (List.mem_map.2 ⟨x,hm,rfl⟩);rw[<- a6l,<- d6c,<- d6c]at this;show x.size<=600;omega
theorem d6d (f:List ByteArray):(c2F f { data:=#[32] }).length=(a5w f).size:=by
 unfold a5w;show _=Array.size _;rw[List.size_toArray]
theorem e8B {s:ByteArray} (h:spO s=true):K60 (spF s,{ data:=#[32] },())=true:=by
 obtain⟨h1,_,h3,h4⟩:=d6b h;have hj:=a8W s;unfold K60;show(decide ((spF s).length<=140737488355328)&&decide ((c2F (spF s) { data:=#[32] }).length<=140737488355328))=true;rw[d6d,h3];rw[h3]at h4;simp only[and_eq_true,decide_eq_true_eq];omega
structure Left (Y Z:Yv):Prop where
 boat:Z.1=Y.1
 lg:Z.lg=Y.lg
 tk:Z.tk=Y.tk∨∃s,Z.tk=Y.tk++[s]
theorem Left.refl (Y:Yv):Left Y Y:=⟨rfl,rfl,.inl rfl⟩
theorem c3Z (Y:Yv) (k:Int):Left Y (Y.setSl k):=⟨rfl,rfl,.inl rfl⟩
theorem a4W (Y:Yv):Left Y (kpV Y):=by
 unfold kpV;cases decide (Y.sl ≥ 0)
 ·exact .refl Y
 ·exact c3Z _ _
theorem a8f (f:List ByteArray) (Y:Yv):Left Y (a3g f Y).2:=by
 unfold a3g;cases isC f 2 a5R
 ·cases isC f 3 b2s
  ·cases isC f 2 c1G
   ·cases isC f 3 e4e
    ·cases isC f 2 sGo
     ·exact .refl Y
     ·show Left Y (goW f Y).2;unfold goW goV;cases uB (fAt f 1)
      ·exact .refl Y
      ·cases (inB (uI (fAt f 1)) 1 3600&&(!decide (Y.tm+uI (fAt f 1)>10000000)&&!decide ((Y.tk.length:Int) ≥ 200)))
       ·exact .refl Y
       ·cases ((goR (uI (fAt f 1)) Y).2.1&&(a1c (goR (uI (fAt f 1)) Y).1).2.1)
        ·exact .refl Y
        ·exact⟨rfl,rfl,.inr ⟨_,rfl⟩⟩
    ·show Left Y (d7l f Y).2;unfold d7l;cases ((b2v (fAt f 1) (fAt f 2)).2.2.1&&(a1c (c9l f)).2.1)
     ·exact .refl Y
     ·exact⟨rfl,rfl,.inl rfl⟩
   ·show Left Y (b2x f Y).2;unfold b2x;cases a2F (fAt f 1) c8R
    ·cases (!decide (a1g Y.sails (fAt f 1)<0)&&((a0F Y).2.1&&a5O (at' Y.sails (a1g Y.sails (fAt f 1)).toNat) (a0F Y).1))
     ·exact .refl Y
     ·exact c3Z _ _
    ·exact c3Z _ _
  ·show Left Y (b2w f Y).2;unfold b2w;cases ((b2v (fAt f 1) (fAt f 2)).2.2.1&&a2o (a1J f))
   ·exact .refl Y
   ·cases a3T Y.wd
    ·cases ((a3b Y.wd (a1J f)).2.1&&a2o (a3b Y.wd (a1J f)).1)
     ·exact .refl Y
     ·exact⟨(a4W (Y.setWd _)).boat,(a4W (Y.setWd _)).lg,(a4W (Y.setWd _)).tk⟩
    ·exact⟨(a4W (Y.setWd _)).boat,(a4W (Y.setWd _)).lg,(a4W (Y.setWd _)).tk⟩
 ·show Left Y (a5S f Y).2;unfold a5S;cases (uB (fAt f 1)&&!decide (uI (fAt f 1)>359))
  ·exact .refl Y
  ·exact⟨(a4W (Y.setHd _)).boat,(a4W (Y.setHd _)).lg,(a4W (Y.setHd _)).tk⟩
def doB (Y:Yv) (s:ByteArray):Bool:=okV (a0F Y) Y&&(decide ((Y.lg.length:Int)<300)&&(spO s&&(a3g (spF s) Y).1))
def doZ (Y:Yv) (s:ByteArray):Yv:=(a3g (spF s) Y).2.setLg ((a3g (spF s) Y).2.lg++[a5w (spF s)])
def doV (Y:Yv) (s:ByteArray):Yv×Bool×Unit:=bif doB Y s then(doZ Y s,true,())else(Y,false,())
theorem a4w {m:Den R19} {Y:Yv} (h:okV m Y=true):a4U Y.1=true /\ (0<=Y.tm /\ Y.tm<=10000000) /\ (a1c Y.ps).2.1=true /\ (0<=Y.hd /\ Y.hd<=359) /\ a2o Y.wd=true /\ (-1<=Y.sl /\ Y.sl<=(Y.sails.length:Int)-1) /\ a2q Y.tk=true /\ Y.lg.length<=300 /\ c1M Y=false /\ c1N m Y=true:=by
 unfold okV c9f inB at h;simp only[and_eq_true,decide_eq_true_eq,Bool.not_eq_true',decide_eq_false_iff_not]at h;obtain⟨⟨h1,h2,h3,h4,h5,h6,h7,h8,h9⟩,h10⟩:=h;exact⟨h1,h2,h3,h4,h5,h6,h7,by omega,h9,h10⟩
theorem d6e {t:List (Den S97)} (h:a2q t=true):t.length<=200:=by
 unfold a2q at h;simp only[and_eq_true,decide_eq_true_eq]at h;omega
theorem e8C (Y:Yv) (s:ByteArray) (h:YM Y):F27 (Y,s,())=some (doV Y s):=by
 have key:=f4c Y s h.boat h.tk h.lg (f4d Y h) (c7c s) (d:=(a3g (spF s) Y).1) (Z:=(a3g (spF s) Y).2) (fun ho hl hb=>by
  obtain⟨_,ht,_⟩:=a4w ho;refine⟨e1l (spF s) Y h (fun k=>Nat.le_trans (e1n hb k) (by decide)) ht,fun hd=>⟨e8B hb,?_⟩⟩;rw[(a8f (spF s) Y).lg];exact h.lg)
 rw[key];unfold doV doB doZ;rfl
theorem YM.doV {Y:Yv} (h:YM Y) (s:ByteArray):YM (doV Y s).1:=by
 unfold AM.doV;cases hd:doB Y s with
 |false=>exact h
 | true =>
   show YM (doZ Y s);unfold doB at hd;simp only[and_eq_true,decide_eq_true_eq]at hd;obtain⟨ho,hl,_,_⟩:=hd;obtain⟨_,_,_,_,_,_,ht,_,_,_⟩:=a4w ho;have htl:=d6e ht;have L:=a8f (spF s) Y;refine⟨?_,?_,?_⟩
   ·show a6v (a3g (spF s) Y).2.1;rw[L.boat];exact h.boat
   ·show((a3g (spF s) Y).2.tk).length<=1000;rcases L.tk with e|⟨x,e⟩
    ·rw[e];exact h.tk
    ·rw[e,length_append,List.length_singleton];omega
   ·show((a3g (spF s) Y).2.lg++[a5w (spF s)]).length<=1000;rw[L.lg,length_append,List.length_singleton];omega
def a8X (Y:Yv) (ls:List ByteArray):Nat->Yv×List Bool
 |0=>(Y,[])
 |k+1=>((doV (a8X Y ls k).1 (ls.getD k (zero Ty.str))).1,(a8X Y ls k).2++[(doV (a8X Y ls k).1 (ls.getD k (zero Ty.str))).2.1])
theorem c4a (Y:Yv) (ls:List ByteArray) (h:YM Y):∀k,YM (a8X Y ls k).1
 |0=>h
 |k+1=>(c4a Y ls h k).doV _
theorem c7d (Y:Yv) (ls:List ByteArray):∀k,(a8X Y ls k).2.length=k
 |0=>rfl
 | k+1=>by
   show((a8X Y ls k).2++[_]).length=_;rw[length_append,c7d Y ls k];rfl
abbrev J10:Type:=Unit×Unit×Unit×Unit×Unit×Unit×Int×Int×Int×Int×Unit×Int×Int×Int×Int×Int×(Nat×Nat)×Int×(Nat×Nat)×Int×Unit×Unit×Unit
def jn0:J10:=((),(),(),(),(),(),0,0,0,0,(),0,0,0,0,0,(0,0),0,(0,0),0,(),(),())
abbrev g5a:Type:=(((List (Den (.flt .f32)))×((List (Den (.int .i64)))×((List (Den (.slice (.flt .f32))))×((List (Den (a0Y)))×((List (Den (.int .i64)))×((List (Den (S68)))×(Int×(Int×(Int×(Int×((List (Den (a1U)))×(Int×(Int×(Int×(Int×(Int×((Nat×Nat)×(Int×((Nat×Nat)×(Int×((List (Den (S97)))×((List (Den (.str)))×Unit)))))))))))))))))))))))
def flY (Y:Yv):g5a:=(Y.1.1.1,Y.1.1.2.1,Y.1.1.2.2.1,Y.1.2.1.1,Y.1.2.1.2.1,Y.1.2.2.1,Y.1.2.2.2.1.1.1.1,Y.1.2.2.2.1.1.1.2.1,Y.1.2.2.2.1.1.2.1.1,Y.1.2.2.2.1.1.2.1.2.1,Y.1.2.2.2.1.2.1,Y.1.2.2.2.1.2.2.1.1.1,Y.1.2.2.2.1.2.2.1.1.2.1,Y.1.2.2.2.1.2.2.1.2.1.1,Y.1.2.2.2.1.2.2.1.2.1.2.1,Y.2)
theorem f4j (v:b2u):v.1.2.2.2.1.length<e0P v:=by
 unfold e0P;refine Nat.lt_of_le_of_lt ?_ (Nat.lt_add_of_pos_right (by decide))
 repeat (first|exact le_refl _|refine Nat.le_trans ?_ (Nat.le_add_right _ _))
theorem e8D (Y:Yv) (ls:List ByteArray) (k:Nat) (hk:k<ls.length) (hl:ls.length<=1000) (bs:List Bool) (hb:bs.length<=1000) (h:YM Y) (f:b2u->Option c3Q) :
 c8Z K36 G36 K27 G27 f (((),(),(),ls,(ls.length:Int),(k:Int),()),flY Y,jn0,bs,())=f (((),(),(),ls,(ls.length:Int),((k+1:Nat):Int),()),flY (doV Y (ls.getD k (zero Ty.str))).1,jn0,bs++[(doV Y (ls.getD k (zero Ty.str))).2.1],()):=by
 have e1:decide ((k:Int)<(ls.length:Int))=true:=by simpa using hk
 have e2:decide (0<=(k:Int))=true:=by simp
 have e:=e8C Y (ls.getD k (zero Ty.str)) h;have k1:K27 (Y,ls.getD k (zero Ty.str),())=true:=isS e;have g1:G27 (Y,ls.getD k (zero Ty.str),())=doV Y (ls.getD k (zero Ty.str)):=gtS e;have hc:a0D (bs.length+1)=true:=a0K (by omega);have ew:IntKind.i64.wrap ((k:Int)+1)=((k+1:Nat):Int):=a3I k (by omega);unfold c8Z;show(bif decide ((k:Int)<(ls.length:Int))then bif (decide (0<=(k:Int))&&decide ((k:Int)<(ls.length:Int)))then bif K27 (Y,ls.getD k (zero Ty.str),())then bif a0D (bs.length+1)then
  f (((),(),(),ls,(ls.length:Int),IntKind.i64.wrap ((k:Int)+1),()),flY (G27 (Y,ls.getD k (zero Ty.str),())).1,jn0,bs++[(G27 (Y,ls.getD k (zero Ty.str),())).2.1],())else none else none else none else _)=_
 rw[e1,e2,k1,g1,hc,ew];rfl
def g7m (v3:c3Q):Den R10:=((((v3.snd.fst.1,v3.snd.fst.snd.1,v3.snd.fst.snd.snd.1,()),(v3.snd.fst.snd.snd.snd.1,v3.snd.fst.snd.snd.snd.snd.1,()),v3.snd.fst.snd.snd.snd.snd.snd.1,(((v3.snd.fst.snd.snd.snd.snd.snd.snd.1,v3.snd.fst.snd.snd.snd.snd.snd.snd.snd.1,()),(v3.snd.fst.snd.snd.snd.snd.snd.snd.snd.snd.1,v3.snd.fst.snd.snd.snd.snd.snd.snd.snd.snd.snd.1,()),()),v3.snd.fst.snd.snd.snd.snd.snd.snd.snd.snd.snd.snd.1,((v3.snd.fst.snd.snd.snd.snd.snd.snd.snd.snd.snd.snd.snd.1,v3.snd.fst.snd.snd.snd.snd.snd.snd.snd.snd.snd.snd.snd.snd.1,()),(v3.snd.fst.snd.snd.snd.snd.snd.snd.snd.snd.snd.snd.snd.snd.snd.1,v3.snd.fst.snd.snd.snd.snd.snd.snd.snd.snd.snd.snd.snd.snd.snd.snd.1,()),()),()),()),v3.snd.fst.snd.snd.snd.snd.snd.snd.snd.snd.snd.snd.snd.snd.snd.snd.snd),v3.snd.snd.snd)
theorem f4k (Y:Yv) (ls:List ByteArray) (h:YM Y) (hl:ls.length<=1000):F10 (Y,ls,())=some ((a8X Y ls ls.length).1,(a8X Y ls ls.length).2,()):=by
 have h36:=e4n Y h.boat h.tk h.lg;have k36:K36 ((Y,()),())=true:=isS h36;have g36:G36 ((Y,()),())=(((c8S true Y).2.1,()),(Y.tk,Y.lg,())):=gtS h36;have hloop:e8e (((),(),(),ls,(ls.length:Int),(0:Int),()),flY Y,jn0,[],())=some (((),(),(),()),flY (a8X Y ls ls.length).1,jn0,(a8X Y ls ls.length).2,()):=by
  refine a2z (q:=c8Z K36 G36 K27 G27) (fun k=>(((),(),(),ls,(ls.length:Int),(k:Int),()),flY (a8X Y ls k).1,jn0,(a8X Y ls k).2,())) ls.length _ ?_ ?_ _ ?_
  ·intro k f hk;exact e8D (a8X Y ls k).1 ls k hk hl (a8X Y ls k).2 (by rw[c7d];omega) (c4a Y ls h k) f
  ·intro f;have e1:decide ((ls.length:Int)<(ls.length:Int))=false:=by simp
   unfold c8Z;show(bif decide ((ls.length:Int)<(ls.length:Int))then _ else _)=_;rw[e1];rfl
  ·exact f4j (((),(),(),ls,(ls.length:Int),(0:Int),()),flY Y,jn0,[],())
 have hk:b3E (((),(),(),ls,(ls.length:Int),(0:Int),()),flY Y,jn0,[],())=true:=by unfold b3E;rw[hloop];rfl
 have hx:b3F (((),(),(),ls,(ls.length:Int),(0:Int),()),flY Y,jn0,[],())=(((),(),(),()),flY (a8X Y ls ls.length).1,jn0,(a8X Y ls ls.length).2,()):=by unfold b3F;rw[hloop];rfl
 let fl2 (g:O36.den):g5a:=(g.1.1.1,g.1.1.2.1,g.1.1.2.2.1,g.1.1.2.2.2.1,g.1.1.2.2.2.2.1,g.1.1.2.2.2.2.2.1,g.1.1.2.2.2.2.2.2.1,g.1.1.2.2.2.2.2.2.2.1,g.1.1.2.2.2.2.2.2.2.2.1,g.1.1.2.2.2.2.2.2.2.2.2.1,g.1.1.2.2.2.2.2.2.2.2.2.2.1,g.1.1.2.2.2.2.2.2.2.2.2.2.2.1,g.1.1.2.2.2.2.2.2.2.2.2.2.2.2.1,g.1.1.2.2.2.2.2.2.2.2.2.2.2.2.2.1,g.1.1.2.2.2.2.2.2.2.2.2.2.2.2.2.2.1,g.1.1.2.2.2.2.2.2.2.2.2.2.2.2.2.2.2.1,g.1.1.2.2.2.2.2.2.2.2.2.2.2.2.2.2.2.2.1,g.1.1.2.2.2.2.2.2.2.2.2.2.2.2.2.2.2.2.2.1,g.1.1.2.2.2.2.2.2.2.2.2.2.2.2.2.2.2.2.2.2.1,g.1.1.2.2.2.2.2.2.2.2.2.2.2.2.2.2.2.2.2.2.2.1,g.2)
 have hf:fl2 (G36 ((Y,()),()))=flY Y:=by rw[g36];rfl
 unfold F10 r10;show(bif K36 ((Y,()),())then bif b3E (((),(),(),ls,(ls.length:Int),(0:Int),()),fl2 (G36 ((Y,()),())),jn0,[],())then some (g7m (b3F (((),(),(),ls,(ls.length:Int),(0:Int),()),fl2 (G36 ((Y,()),())),jn0,[],())))else none else none)=_;rw[hf,k36,hk,hx];rfl
theorem f4l (s:ByteArray) (h10:s.size<=10):∀y,c3t ((s,(0:Int),(0:Int),()),())=some y->(∀z,y = .inl z->0<=z.1.2.1) /\ (∀z,y = .inr z->z.1.2.1=false):=by
 refine a0V (q:=c8q K25 G25) (fun v=>∃(n i:Nat),v=((s,(n:Int),(i:Int),()),()) /\ n<10^i /\ i<=s.size) (fun _ r=>∀y,r=some y->(∀z,y = .inl z->0<=z.1.2.1) /\ (∀z,y = .inr z->z.1.2.1=false))
  (fun v=>((s.size:Int)-v.1.2.2.1).toNat) ?_ _ _ ⟨0,0,rfl,by decide,zero_le _⟩ (by show((s.size:Int)-0).toNat<c8r _;unfold c8r;dsimp only;omega)
 rintro v f ⟨n,i,rfl,h1,h2⟩ ih;unfold c8q;dsimp only;by_cases hi:i<s.size
 ·have e1:decide ((i:Int)<(s.size:Int))=true:=by simpa using hi
  have e2:decide (0<=(i:Int))=true:=by simp
  have ew:IntKind.i64.wrap ((i:Int)+1)=((i+1:Nat):Int):=a3I i (by omega);rw[e1,e2,ew];simp only[Bool.and_self,cond_true];by_cases h3:a1z s (i:Int)<48
  ·rw[decide_eq_true h3];intro y hy;cases hy;exact⟨fun z hz=>(by cases hz),fun z hz=>(by cases hz;rfl)⟩
  ·rw[decide_eq_false h3];by_cases h4:a1z s (i:Int)>57
   ·rw[decide_eq_true h4];intro y hy;cases hy;exact⟨fun z hz=>(by cases hz),fun z hz=>(by cases hz;rfl)⟩
   ·rw[decide_eq_false h4];have hp:10^i<=10^9:=Nat.pow_le_pow_right (by decide) (by omega);have hp2:10^(i+1)=10*10^i:=by rw[Nat.pow_succ,Nat.mul_comm]
    have w1:IntKind.i64.wrap ((n:Int)*10)=((n*10:Nat):Int):=by rw[w64 (by omega) (by omega)];omega
    obtain⟨c,hc⟩:∃c:Nat,a1z s (i:Int)=(c:Int)+48 /\ c<=9:=⟨(a1z s (i:Int)-48).toNat,by omega,by omega⟩;have w2:IntKind.u8.wrap (a1z s (i:Int)-48)=(c:Int):=by rw[hc.1,IntKind.wrap_u8];omega
    have w3:IntKind.i64.wrap (c:Int)=(c:Int):=w64 (by omega) (by omega);have w4:IntKind.i64.wrap (((n*10:Nat):Int)+(c:Int))=((n*10+c:Nat):Int):=by rw[w64 (by omega) (by omega)];omega
    simp only[cond_false,w1,w2,w3,w4];refine ih _ ⟨n*10+c,i+1,rfl,?_,hi⟩ ?_
    ·rw[hp2];omega
    ·show((s.size:Int)-((i+1:Nat):Int)).toNat<((s.size:Int)-(i:Int)).toNat;omega
 ·have e1:decide ((i:Int)<(s.size:Int))=false:=by simpa using hi
  rw[e1];intro y hy;cases hy;exact⟨fun z hz=>(by cases hz;exact Int.natCast_nonneg n),fun z hz=>(by cases hz)⟩
theorem g3S {s:ByteArray} (h:uB s=true):0<=uI s /\ uI s<=1000000000:=by
 have e:=d5T s;rw[h]at e;generalize uI s=m at *;unfold F17 r17 at e;dsimp only at e;cases h0:((s.size:Int)==0)with
 |true=>rw[h0]at e;simp at e
 | false =>
   rw[h0]at e;cases h10:decide ((s.size:Int)>10)with
   |true=>rw[h10]at e;simp at e
   | false =>
     rw[h10]at e;have hs:s.size<=10:=by
      have:=of_decide_eq_false h10;omega
     cases hl:c3t ((s,(0:Int),(0:Int),()),())with
     | none =>
       have:a9o ((s,(0:Int),(0:Int),()),())=false:=by unfold a9o;rw[hl];rfl
       rw[this]at e;simp at e
     | some y =>
       obtain⟨y1,y2⟩:=f4l s hs y hl;have hk:a9o ((s,(0:Int),(0:Int),()),())=true:=by unfold a9o;rw[hl];rfl
       rw[hk]at e;cases y with
       | inr z =>
         have ht:a9p ((s,(0:Int),(0:Int),()),())=true:=by unfold a9p;rw[hl];rfl
         have hy:b3m ((s,(0:Int),(0:Int),()),())=z:=by unfold b3m;rw[hl];rfl
         rw[ht,hy]at e;have:=y2 z rfl;simp only[cond_false,cond_true,injEq]at e;rw[e]at this;cases this
       | inl z =>
         have ht:a9p ((s,(0:Int),(0:Int),()),())=false:=by unfold a9p;rw[hl];rfl
         have hx:b3l ((s,(0:Int),(0:Int),()),())=z:=by unfold b3l;rw[hl];rfl
         rw[ht,hx]at e;have hz:=y1 z rfl;obtain⟨⟨t,n,_⟩,_⟩:=z;have hz:(0:Int)<=n:=hz;simp only[cond_false]at e;by_cases hb:n>1000000000
         ·rw[decide_eq_true hb]at e;simp at e
         ·rw [decide_eq_false hb]at e;simp only[cond_false]at e;cases hkk:K25 (n,())with
          | false =>
            have:K25 (n,PUnit.unit)=false:=hkk;rw[this]at e;simp at e
          | true =>
            have:K25 (n,PUnit.unit)=true:=hkk;rw[this]at e;simp only[cond_true]at e;cases hbs:!a2F (G25 (n,PUnit.unit)).fst t with
            |true=>rw[hbs]at e;simp at e
            | false =>
              rw[hbs]at e;simp only[cond_false,injEq,Prod.mk.injEq]at e;obtain⟨rfl,_⟩:=e;omega
theorem a8g {m:Den R19} {Z:Yv} (a1:a4U Z.1=true) (a2:0<=Z.tm /\ Z.tm<=10000000) (a3:(a1c Z.ps).2.1=true) (a4:0<=Z.hd /\ Z.hd<=359) (a5:a2o Z.wd=true) (a6:-1<=Z.sl /\ Z.sl<=(Z.sails.length:Int)-1)
 (a7:a2q Z.tk=true) (a8:Z.lg.length<=300) (a9:c1M Z=false) (a10:c1N m Z=true):okV m Z=true:=by
 unfold okV c9f inB;simp only[and_eq_true,decide_eq_true_eq,Bool.not_eq_true',decide_eq_false_iff_not];exact⟨⟨a1,a2,a3,a4,a5,a6,a7,by omega,a9⟩,a10⟩
theorem b3K {b:Den S40} (h:a4U b=true):a3k b.2.2.1=true:=by
 unfold a4U at h;simp only[and_eq_true]at h;exact h.2.2.1
theorem c7e {l:List (Den S68)} (h:a3k l=true) {j:Nat} (hj:j<l.length):a2l (at' l j)=true:=by
 unfold a3k at h;rw[and_eq_true]at h;have:=(b0p _ _ _).1 h.1 j (zero_le _) (by omega);rw[and_eq_true]at this;exact this.1
theorem e8E {l:List (Den S68)} (hs:a3k l=true) (a:Int) (m:Den S63):a3Z l a m=-1∨(0<=a3Z l a m /\ a3Z l a m<=(l.length:Int)-1 /\ a0U (at' l (a3Z l a m).toNat) m=true):=by
 unfold a3Z;rw[hs];cases hc:(inB a 0 ((l.length:Int)-1)&&a0U (at' l a.toNat) m)with
 | true =>
   right;rw[and_eq_true]at hc;obtain⟨h1,h2⟩:=hc;unfold inB at h1;simp only[and_eq_true,decide_eq_true_eq]at h1;exact⟨h1.1,h1.2,h2⟩
 | false =>
   show b8f l m=-1∨(0<=b8f l m /\ b8f l m<=(l.length:Int)-1 /\ a0U (at' l (b8f l m).toNat) m=true);unfold b8f;rw[hs];cases hf:a0L (fun i=>a5O (at' l i) m) 0 l.length with
   |none=>exact .inl rfl
   | some j =>
     right;obtain⟨_,h2,h3,_⟩:=a1B hf;have hj:j<l.length:=by omega
     refine⟨Int.natCast_nonneg j,?_,?_⟩
     ·show(j:Int)<=_;omega
     ·exact c1U (c7e hs hj) h3
structure b8h (Y:Yv):Prop where
 ship:a4U Y.1=true
 tm:0<=Y.tm /\ Y.tm<=10000000
 ps:(a1c Y.ps).2.1=true
 hd:0<=Y.hd /\ Y.hd<=359
 wd:a2o Y.wd=true
 sl:-1<=Y.sl /\ Y.sl<=(Y.sails.length:Int)-1
 tk:a2q Y.tk=true
 lg:Y.lg.length<=300
 late:c1M Y=false
theorem b8h.of {m:Den R19} {Y:Yv} (h:okV m Y=true):b8h Y:=by
 obtain⟨a,b,c,d,e,f,g,i,j,_⟩:=a4w h;exact⟨a,b,c,d,e,f,g,i,j⟩
theorem b8h.ok {Y:Yv} (h:b8h Y) {m:Den R19} (hs:c1N m Y=true):okV m Y=true:=a8g h.ship h.tm h.ps h.hd h.wd h.sl h.tk h.lg h.late hs
theorem e8F {Y:Yv} (h:b8h Y):okV (a0F (kpV Y)) (kpV Y)=true:=by
 unfold kpV;by_cases h0:Y.sl ≥ 0
 ·rw [decide_eq_true h0];show okV (a0F (Y.setSl (bif (a0F Y).2.1 then a3Z Y.sails Y.sl (a0F Y).1 else -1))) (Y.setSl (bif (a0F Y).2.1 then a3Z Y.sails Y.sl (a0F Y).1 else -1))=true;have hlen:0<=(Y.sails.length:Int):=Int.natCast_nonneg _;have minus:okV (a0F (Y.setSl (-1))) (Y.setSl (-1))=true:=a8g (Z:=Y.setSl (-1)) h.ship h.tm h.ps h.hd h.wd ⟨by show(-1:Int) <= -1;omega,by show(-1:Int)<=(Y.sails.length:Int)-1;omega⟩ h.tk h.lg h.late rfl;cases hf:(a0F Y).2.1 with
  |false=>exact minus
  | true =>
    show okV (a0F (Y.setSl (a3Z Y.sails Y.sl (a0F Y).1))) (Y.setSl (a3Z Y.sails Y.sl (a0F Y).1))=true;rcases e8E (b3K h.ship) Y.sl (a0F Y).1 with hk|⟨k1,k2,k3⟩
    ·have hk:a3Z Y.sails Y.sl (a0F Y).1=-1:=hk;rw[hk];exact minus
    ·refine a8g (Z:=Y.setSl (a3Z Y.sails Y.sl (a0F Y).1)) h.ship h.tm h.ps h.hd h.wd ⟨by show -1<=a3Z Y.sails Y.sl (a0F Y).1;have:0<=a3Z Y.sails Y.sl (a0F Y).1:=k1;omega,k2⟩ h.tk h.lg h.late ?_;unfold c1N;show(bif decide (a3Z Y.sails Y.sl (a0F Y).1 ≥ 0)then(a0F Y).2.1&&a0U (at' Y.sails (a3Z Y.sails Y.sl (a0F Y).1).toNat) (a0F Y).1 else true)=true;have k3:a0U (at' Y.sails (a3Z Y.sails Y.sl (a0F Y).1).toNat) (a0F Y).1=true:=k3;rw[hf,k3];cases decide (a3Z Y.sails Y.sl (a0F Y).1 ≥ 0)<;>rfl
 ·rw[decide_eq_false h0];refine h.ok ?_;unfold c1N;show(bif decide (Y.sl ≥ 0)then _ else true)=true;rw[decide_eq_false h0];rfl
theorem d6f {p:Nat×Nat} (h:(a1c p).2.1=true):a1V (a1c p).1=true:=by
 unfold a1c at h ⊢;cases hv:a4u p with
 |false=>rw[hv]at h;cases h
 | true =>
   rw[hv]at h;cases hp:a1V (rnd p.1,rnd p.2,())with
   |false=>rw[hp]at h;cases h
   |true=>exact hp
theorem d6g {t:List (Den S97)} {s:Den S97} {k:Nat} (h:k<t.length):sg (t++[s]) k=sg t k:=by
 unfold sg;rw[List.getD_eq_getElem?_getD,List.getD_eq_getElem?_getD,List.getElem?_append_left h]
theorem d6h (t:List (Den S97)) (s:Den S97):sg (t++[s]) t.length=s:=by
 unfold sg;rw[List.getD_eq_getElem?_getD,List.getElem?_append_right (le_refl _)];simp
theorem d6i {t:List (Den S97)} {s:Den S97} (ht:a2q t=true) (hl:t.length<200) (h1:a1V s.1=true) (h2:inB s.2.1 0 10000000=true) (h3:0<t.length->(sg t (t.length-1)).2.1<s.2.1):a2q (t++[s])=true:=by
 unfold a2q at ht ⊢;rw[and_eq_true]at ht ⊢;obtain⟨ha,_⟩:=ht;refine⟨?_,by rw[decide_eq_true_eq,length_append,List.length_singleton];omega⟩;rw[b0p]at ha ⊢;intro i _ hi;rw[length_append,List.length_singleton]at hi;by_cases hlt:i<t.length
 ·have:=ha i (zero_le _) (by omega);unfold a5P at this ⊢;rw[d6g hlt,d6g (show i-1<t.length by omega)];exact this
 ·have:i=t.length:=by omega
  subst this;unfold a5P;rw[d6h,h1,h2];by_cases h0:0<t.length
  ·rw[d6g (show t.length-1<t.length by omega)];have:=h3 h0;have e:decide ((s.2.1:Int)<=(sg t (t.length-1)).2.1)=false:=decide_eq_false (Int.not_le.2 this);rw[e,Bool.and_false];rfl
  ·rw[decide_eq_false h0];rfl
theorem g3T {Y:Yv} (h:b8h Y) (hs:c1N (a0F Y) Y=true) (n:Int) (hd:(goV n Y).1=true):okV (a0F (goV n Y).2) (goV n Y).2=true:=by
 unfold goV at hd ⊢;cases ha:(inB n 1 3600&&(!decide (Y.tm+n>10000000)&&!decide ((Y.tk.length:Int) ≥ 200)))with
 |false=>rw[ha]at hd;cases hd
 | true =>
   rw[ha]at hd;cases hb:((goR n Y).2.1&&(a1c (goR n Y).1).2.1)with
   |false=>rw[hb]at hd;cases hd
   | true =>
     unfold inB at ha;simp only[and_eq_true,decide_eq_true_eq,Bool.not_eq_true',decide_eq_false_iff_not]at ha;rw[and_eq_true]at hb;obtain⟨⟨n1,n2⟩,n3,n4⟩:=ha;have ht:=h.tm;have hlt:Y.tk.length<200:=by omega
     have hin:inB (Y.tm+n) 0 10000000=true:=by
      unfold inB;simp only[and_eq_true,decide_eq_true_eq];omega
     have hlast:0<Y.tk.length->(sg Y.tk (Y.tk.length-1)).2.1<Y.tm+n:=by
      intro h0;have hl:=h.late;unfold c1M at hl;rw[decide_eq_true (show(Y.tk.length:Int)>0 by omega),Bool.true_and]at hl;have:=of_decide_eq_false hl;exact Int.lt_of_le_of_lt (Int.not_lt.1 this) (by omega)
     show okV (a0F (Y.setGo (Y.tm+n) (goR n Y).1 (Y.tk++[((a1c (goR n Y).1).1,Y.tm+n,())]))) (Y.setGo (Y.tm+n) (goR n Y).1 (Y.tk++[((a1c (goR n Y).1).1,Y.tm+n,())]))=true;refine a8g (Z:=Y.setGo (Y.tm+n) (goR n Y).1 (Y.tk++[((a1c (goR n Y).1).1,Y.tm+n,())])) h.ship ⟨by show 0<=Y.tm+n;omega,by show Y.tm+n<=_;omega⟩ hb.2 h.hd h.wd h.sl ?_ h.lg ?_ hs
     ·exact d6i h.tk hlt (d6f hb.2) hin hlast
     ·unfold c1M;show(decide (((Y.tk++[((a1c (goR n Y).1).1,Y.tm+n,())]).length:Int)>0)&&decide ((sg (Y.tk++[((a1c (goR n Y).1).1,Y.tm+n,())]) ((Y.tk++[((a1c (goR n Y).1).1,Y.tm+n,())]).length-1)).2.1>Y.tm+n))=false;have e:(Y.tk++[(((a1c (goR n Y).1).1,Y.tm+n,()):Den S97)]).length-1=Y.tk.length:=by rw[length_append,List.length_singleton];omega
      rw[e,d6h];have:decide ((Y.tm+n:Int)>Y.tm+n)=false:=decide_eq_false (Int.lt_irrefl _);show(_&&decide ((Y.tm+n:Int)>Y.tm+n))=false;rw[this,Bool.and_false]
theorem e8G (f:List ByteArray) {Y:Yv} (ho:okV (a0F Y) Y=true) (hd:(a3g f Y).1=true):okV (a0F (a3g f Y).2) (a3g f Y).2=true:=by
 have h:=b8h.of ho;have hs:c1N (a0F Y) Y=true:=(a4w ho).2.2.2.2.2.2.2.2.2;have hlen:0<=(Y.sails.length:Int):=Int.natCast_nonneg _;have minus:okV (a0F (Y.setSl (-1))) (Y.setSl (-1))=true:=a8g (Z:=Y.setSl (-1)) h.ship h.tm h.ps h.hd h.wd ⟨by show(-1:Int) <= -1;omega,by show(-1:Int)<=(Y.sails.length:Int)-1;omega⟩ h.tk h.lg h.late rfl;unfold a3g at hd ⊢;cases c1:isC f 2 a5R with
 | true =>
   rw[c1]at hd;have hd:(a5S f Y).1=true:=hd;show okV (a0F (a5S f Y).2) (a5S f Y).2=true;unfold a5S at hd ⊢;cases hu:(uB (fAt f 1)&&!decide (uI (fAt f 1)>359))with
   |false=>exact ho
   | true =>
     rw[and_eq_true,Bool.not_eq_true',decide_eq_false_iff_not]at hu;have:=(g3S hu.1).1;exact e8F (Y:=Y.setHd (uI (fAt f 1))) ⟨h.ship,h.tm,h.ps,⟨this,by show uI (fAt f 1)<=359;omega⟩,h.wd,h.sl,h.tk,h.lg,h.late⟩
 |false=>
 rw[c1]at hd;cases c2:isC f 3 b2s with
 | true =>
   show okV (a0F (b2w f Y).2) (b2w f Y).2=true;unfold b2w;cases hw:((b2v (fAt f 1) (fAt f 2)).2.2.1&&a2o (a1J f))with
   |false=>exact ho
   | true =>
     rw[and_eq_true]at hw;cases a3T Y.wd with
     |true=>exact e8F (Y:=Y.setWd (a1J f)) ⟨h.ship,h.tm,h.ps,h.hd,hw.2,h.sl,h.tk,h.lg,h.late⟩
     | false =>
       show okV (a0F (bif ((a3b Y.wd (a1J f)).2.1&&a2o (a3b Y.wd (a1J f)).1)then(true,kpV (Y.setWd (a3b Y.wd (a1J f)).1))else(false,Y)).2) (bif ((a3b Y.wd (a1J f)).2.1&&a2o (a3b Y.wd (a1J f)).1)then(true,kpV (Y.setWd (a3b Y.wd (a1J f)).1))else(false,Y)).2=true;cases hdm:((a3b Y.wd (a1J f)).2.1&&a2o (a3b Y.wd (a1J f)).1)with
       |false=>exact ho
       | true =>
         rw[and_eq_true]at hdm;exact e8F (Y:=Y.setWd (a3b Y.wd (a1J f)).1) ⟨h.ship,h.tm,h.ps,h.hd,hdm.2,h.sl,h.tk,h.lg,h.late⟩
 |false=>
 rw[c2]at hd;cases c3:isC f 2 c1G with
 | true =>
   show okV (a0F (b2x f Y).2) (b2x f Y).2=true;unfold b2x;cases a2F (fAt f 1) c8R with
   |true=>exact minus
   | false =>
     show okV (a0F (bif !decide (a1g Y.sails (fAt f 1)<0)&&((a0F Y).2.1&&a5O (at' Y.sails (a1g Y.sails (fAt f 1)).toNat) (a0F Y).1)then(true,Y.setSl (a1g Y.sails (fAt f 1)))else(false,Y)).2) (bif !decide (a1g Y.sails (fAt f 1)<0)&&((a0F Y).2.1&&a5O (at' Y.sails (a1g Y.sails (fAt f 1)).toNat) (a0F Y).1)then(true,Y.setSl (a1g Y.sails (fAt f 1)))else(false,Y)).2=true;cases hf:(!decide (a1g Y.sails (fAt f 1)<0)&&((a0F Y).2.1&&a5O (at' Y.sails (a1g Y.sails (fAt f 1)).toNat) (a0F Y).1))with
     |false=>exact ho
     | true =>
       rw[and_eq_true,and_eq_true,Bool.not_eq_true',decide_eq_false_iff_not]at hf;obtain⟨f1,f2,f3⟩:=hf;have hlt:a1g Y.sails (fAt f 1)<(Y.sails.length:Int):=by
        unfold a1g;cases hff:a0L (fun i=>a2F (at' Y.sails i).1 (fAt f 1)) 0 Y.sails.length with
        |none=>show(-1:Int)<_;omega
        |some j=>have:=(a1B hff).2.1;show(j:Int)<_;omega
       show okV (a0F (Y.setSl (a1g Y.sails (fAt f 1)))) (Y.setSl (a1g Y.sails (fAt f 1)))=true;have hw:a0U (at' Y.sails (a1g Y.sails (fAt f 1)).toNat) (a0F Y).1=true:=c1U (c7e (b3K h.ship) (by show(a1g Y.sails (fAt f 1)).toNat<Y.sails.length;omega)) f3;refine a8g (Z:=Y.setSl (a1g Y.sails (fAt f 1))) h.ship h.tm h.ps h.hd h.wd ⟨by show -1<=a1g Y.sails (fAt f 1);omega,by show a1g Y.sails (fAt f 1)<=(Y.sails.length:Int)-1;omega⟩ h.tk h.lg h.late ?_;unfold c1N;show(bif decide (a1g Y.sails (fAt f 1) ≥ 0)then(a0F Y).2.1&&a0U (at' Y.sails (a1g Y.sails (fAt f 1)).toNat) (a0F Y).1 else true)=true;rw[f2,hw];cases decide (a1g Y.sails (fAt f 1) ≥ 0)<;>rfl
 |false=>
 rw[c3]at hd;cases c4:isC f 3 e4e with
 | true =>
   show okV (a0F (d7l f Y).2) (d7l f Y).2=true;unfold d7l;cases hp:((b2v (fAt f 1) (fAt f 2)).2.2.1&&(a1c (c9l f)).2.1)with
   |false=>exact ho
   | true =>
     rw[and_eq_true]at hp;exact a8g (Z:=Y.setPs (c9l f)) h.ship h.tm hp.2 h.hd h.wd h.sl h.tk h.lg h.late hs
 |false=>
 rw[c4]at hd;cases c5:isC f 2 sGo with
 | true =>
   rw[c5]at hd;have hd:(goW f Y).1=true:=hd;show okV (a0F (goW f Y).2) (goW f Y).2=true;unfold goW at hd ⊢;cases hu:uB (fAt f 1)with
   |false=>exact ho
   | true =>
     rw[hu]at hd;exact g3T h hs _ hd
 |false=>exact ho
theorem f4m {Z:Yv} (h:okV (a0F Z) Z=true) (l:List ByteArray) (hl:l.length<=300):okV (a0F (Z.setLg l)) (Z.setLg l)=true:=by
 have hR:=b8h.of h;have hset:c1N (a0F Z) Z=true:=(a4w h).2.2.2.2.2.2.2.2.2;exact a8g (Z:=Z.setLg l) hR.ship hR.tm hR.ps hR.hd hR.wd hR.sl hR.tk hl hR.late hset
theorem f4n {Y:Yv} (s:ByteArray) (hd:doB Y s=true):okV (a0F (doZ Y s)) (doZ Y s)=true:=by
 unfold doB at hd;simp only[and_eq_true,decide_eq_true_eq]at hd;obtain⟨ho,hl,hs,hdn⟩:=hd;have h:=e8G (spF s) ho hdn;have L:=(a8f (spF s) Y).lg;unfold doZ;generalize (a3g (spF s) Y).2=D at *;refine f4m h _ ?_;rw[L,length_append,List.length_singleton];omega
theorem e4t {Y:Yv} (ls:List ByteArray) (h:okV (a0F Y) Y=true):∀k,okV (a0F (a8X Y ls k).1) (a8X Y ls k).1=true
 |0=>h
 | k+1=>by
   show okV (a0F (doV (a8X Y ls k).1 (ls.getD k (zero Ty.str))).1) (doV (a8X Y ls k).1 (ls.getD k (zero Ty.str))).1=true;unfold doV;cases hd:doB (a8X Y ls k).1 (ls.getD k (zero Ty.str))with
   |false=>exact e4t ls h k
   |true=>exact f4n _ hd
theorem c7f {Y:Yv} (ls:List ByteArray) (h:okV (a0F Y) Y=false):∀k,(a8X Y ls k).1=Y
 |0=>rfl
 | k+1=>by
   show(doV (a8X Y ls k).1 (ls.getD k (zero Ty.str))).1=Y;rw[c7f ls h k];unfold doV;have:doB Y (ls.getD k (zero Ty.str))=false:=by unfold doB;rw[h];rfl
   rw[this];rfl
abbrev g7n:Type:=(List (Den (.flt .f32)))×(List (Den (.int .i64)))×(List (Den (.slice (.flt .f32))))×(List (Den (a0Y)))×(List (Den (.int .i64)))×(List (Den (S68)))×Int×Int×Int×Int×(List (Den (a1U)))×Int×Int×Int×Int×Unit
abbrev g5b:Type:=Unit×Unit×Unit×Unit×Unit×Unit×Int×Int×Int×Int×Unit×Int×Int×Int×Int×Unit
def flB (b:Den S40):g7n:=(b.1.1,b.1.2.1,b.1.2.2.1,b.2.1.1,b.2.1.2.1,b.2.2.1,b.2.2.2.1.1.1.1,b.2.2.2.1.1.1.2.1,b.2.2.2.1.1.2.1.1,b.2.2.2.1.1.2.1.2.1,b.2.2.2.1.2.1,b.2.2.2.1.2.2.1.1.1,b.2.2.2.1.2.2.1.1.2.1,b.2.2.2.1.2.2.1.2.1)
def jb0:g5b:=((),(),(),(),(),(),0,0,0,0,(),0,0,0,0,())
def jbB (b:Den S40):g5b:=((),(),(),(),(),(),b.2.2.2.1.1.1.1,b.2.2.2.1.1.1.2.1,b.2.2.2.1.1.2.1.1,b.2.2.2.1.1.2.1.2.1,(),b.2.2.2.1.2.2.1.1.1,b.2.2.2.1.2.2.1.1.2.1,b.2.2.2.1.2.2.1.2.1)
theorem f4o (v:b5c):v.2.1.2.2.1.length<d8s v:=by
 unfold d8s;refine Nat.lt_of_le_of_lt ?_ (Nat.lt_add_of_pos_right (by decide))
 repeat (first|exact Nat.le_add_left _ _|refine Nat.le_trans ?_ (Nat.le_add_right _ _))
theorem f4p (b:Den S40) (h:b.1.2.2.1.length<=1000) (hr:∀r∈b.1.2.2.1,r.length<=1000) (w:List Nat) (a:List Int) :
 d8t (((),(),(),(0:Int),()),flB b,jb0,jbB b,w,a,[],())=some (((),(),(),()),flB b,jb0,jbB b,w,a,b.1.2.2.1,()):=by
 have key:d8t (((),(),(),(0:Int),()),flB b,jb0,jbB b,w,a,[],())=some (((),(),(),()),flB b,jb0,jbB b,w,a,b.1.2.2.1.take b.1.2.2.1.length,()):=by
  refine a2z (q:=d1v) (fun k=>(((),(),(),(k:Int),()),flB b,jb0,jbB b,w,a,b.1.2.2.1.take k,())) b.1.2.2.1.length _ ?_ ?_ _ (f4o (((),(),(),(0:Int),()),flB b,jb0,jbB b,w,a,[],()))
  ·intro k f hk;have e1:decide ((k:Int)<(b.1.2.2.1.length:Int))=true:=by simpa using hk
   have e2:decide (0<=(k:Int))=true:=by simp
   have hrow:getD b.1.2.2.1 k (zero (Ty.slice (Ty.flt FloatKind.f32)))=b.1.2.2.1[k]:=a5E _ _ _ hk;have c1:a0D (0+(b.1.2.2.1[k]).length)=true:=a0K (by have:=hr _ (List.getElem_mem hk);omega);have c2:a0D ((b.1.2.2.1.take k).length+1)=true:=a0K (by rw[List.length_take];omega);have ew:IntKind.i64.wrap ((k:Int)+1)=((k+1:Nat):Int):=a3I k (by omega);have htk:List.take (k+1) b.1.2.2.1=List.take k b.1.2.2.1++[b.1.2.2.1[k]]:=List.take_succ_eq_append_getElem hk;unfold d1v;show(bif decide ((k:Int)<(b.1.2.2.1.length:Int))then bif (decide (0<=(k:Int))&&decide ((k:Int)<(b.1.2.2.1.length:Int)))then bif a0D (0+(getD b.1.2.2.1 k (zero (Ty.slice (Ty.flt FloatKind.f32)))).length)then bif a0D ((b.1.2.2.1.take k).length+1)then
    f (((),(),(),IntKind.i64.wrap ((k:Int)+1),()),flB b,jb0,jbB b,w,a,b.1.2.2.1.take k++[getD b.1.2.2.1 k (zero (Ty.slice (Ty.flt FloatKind.f32)))],())else none else none else none else _)=_
   rw[e1,e2,hrow,c1,c2,ew,htk];rfl
  ·intro f;have e1:decide ((b.1.2.2.1.length:Int)<(b.1.2.2.1.length:Int))=false:=by simp
   unfold d1v;show(bif decide ((b.1.2.2.1.length:Int)<(b.1.2.2.1.length:Int))then _ else _)=_;rw[e1];rfl
 rw[key,List.take_length]
def o80 (b:Den S40):O80.den:=((jbB b,()),b.1.1,b.1.2.1,b.1.2.2.1,b.2.1.1,b.2.1.2.1,b.2.2.1,b.2.2.2.1.2.1,())
theorem f4q (b:Den S40) (h:a6v b):F80 ((b,()),())=some (o80 b):=by
 obtain⟨⟨hw,ha,hs,hr⟩,⟨ht1,ht2⟩,⟨hS,hl⟩,hC⟩:=h;have hloop:=f4p b (by omega) (fun r h=>by have:=hr r h;omega) b.1.1 b.1.2.1;have hk:b2X (((),(),(),(0:Int),()),flB b,jb0,jbB b,b.1.1,b.1.2.1,[],())=true:=by unfold b2X;rw[hloop];rfl
 have hx:b2Y (((),(),(),(0:Int),()),flB b,jb0,jbB b,b.1.1,b.1.2.1,[],())=(((),(),(),()),flB b,jb0,jbB b,b.1.1,b.1.2.1,b.1.2.2.1,()):=by unfold b2Y;rw[hloop];rfl
 have cap:∀{α:Type} (l:List α),l.length<=1000->a0D (0+l.length)=true:=fun l hl=>e0X hl
 unfold F80 r80;show(bif a0D (0+b.1.1.length)then bif a0D (0+b.1.2.1.length)then bif b2X (((),(),(),(0:Int),()),flB b,jb0,jbB b,b.1.1,b.1.2.1,[],())then
  (fun v3:c7V=>(bif a0D (0+v3.2.1.2.2.2.1.length)then bif a0D (0+v3.2.1.2.2.2.2.1.length)then bif a0D (0+v3.2.1.2.2.2.2.2.1.length)then bif a0D (0+v3.2.1.2.2.2.2.2.2.2.2.2.2.1.length)then
   some ((v3.2.2.2.1,()),v3.2.2.2.2.1,v3.2.2.2.2.2.1,v3.2.2.2.2.2.2.1,v3.2.1.2.2.2.1,v3.2.1.2.2.2.2.1,v3.2.1.2.2.2.2.2.1,v3.2.1.2.2.2.2.2.2.2.2.2.2.1,())else none else none else none else none:Option O80.den)) (b2Y (((),(),(),(0:Int),()),flB b,jb0,jbB b,b.1.1,b.1.2.1,[],()))
  else none else none else none)=_
 rw[hk,hx,cap b.1.1 (by omega),cap b.1.2.1 (by omega)];show(bif a0D (0+b.2.1.1.length)then bif a0D (0+b.2.1.2.1.length)then bif a0D (0+b.2.2.1.length)then bif a0D (0+b.2.2.2.1.2.1.length)then _ else none else none else none else none)=_;rw[cap b.2.1.1 (by omega),cap b.2.1.2.1 (by omega),cap b.2.2.1 (by omega),cap b.2.2.2.1.2.1 (by omega)];rfl
def yO (v10:O32.den):Yv:=(((v10.snd.1,v10.snd.snd.1,v10.snd.snd.snd.1,()),(v10.snd.snd.snd.snd.1,v10.snd.snd.snd.snd.snd.1,()),v10.snd.snd.snd.snd.snd.snd.1,(((v10.fst.fst.snd.snd.snd.snd.snd.snd.1,v10.fst.fst.snd.snd.snd.snd.snd.snd.snd.1,()),(v10.fst.fst.snd.snd.snd.snd.snd.snd.snd.snd.1,v10.fst.fst.snd.snd.snd.snd.snd.snd.snd.snd.snd.1,()),()),v10.snd.snd.snd.snd.snd.snd.snd.1,((v10.fst.fst.snd.snd.snd.snd.snd.snd.snd.snd.snd.snd.snd.1,v10.fst.fst.snd.snd.snd.snd.snd.snd.snd.snd.snd.snd.snd.snd.1,()),(v10.fst.fst.snd.snd.snd.snd.snd.snd.snd.snd.snd.snd.snd.snd.snd.1,v10.fst.fst.snd.snd.snd.snd.snd.snd.snd.snd.snd.snd.snd.snd.snd.snd.1,()),()),()),()),v10.fst.fst.snd.snd.snd.snd.snd.snd.snd.snd.snd.snd.snd.snd.snd.snd.snd)
def e8H:Yv:=((([],[],[],()),([],[],()),[],(((0,0,()),(0,0,()),()),[],((0,0,()),(0,0,()),()),()),()),0,(0,0),0,(0,0),0,[],[],())
def e1o (b:Den S40) (p:Nat×Nat) (t:Int):Bool:=a4U b&&((a1c p).2.1&&inB t 0 10000000)
def c9O (b:Den S40) (p:Nat×Nat) (t:Int):Yv:=bif e1o b p t then(b,t,p,0,(0,0),-1,[],[],())else e8H
theorem f4r (b:Den S40) (p:Nat×Nat) (t:Int) (h:a6v b):∃o:O32.den,F32 ((b,p,t,()),())=some o /\ yO o=c9O b p t /\ o.1.2.1=e1o b p t:=by
 have e1:=e4i p;have k1:K49 (p,())=true:=isS e1;have g1:G49 (p,())=a1c p:=gtS e1;have e2:=e4m b h;have k2:K50 (b,())=true:=isS e2;have g2:G50 (b,())=(a4U b,()):=gtS e2;have e3:F51 (t,0,10000000,())=some (inB t 0 10000000,()):=a2Y _;have k3:K51 (t,0,10000000,())=true:=isS e3;have g3:G51 (t,0,10000000,())=(inB t 0 10000000,()):=gtS e3;have e4:=f4q b h;have k4:K80 ((b,()),())=true:=isS e4;have g4:G80 ((b,()),())=o80 b:=gtS e4;unfold F32 r32 c9O e1o;dsimp only;rw[k1,g1,k2,g2,k3,g3,k4,g4];cases a4U b
 ·exact⟨_,rfl,rfl,rfl⟩
 ·cases (a1c p).2.1
  ·exact⟨_,rfl,rfl,rfl⟩
  ·cases inB t 0 10000000
   ·exact⟨_,rfl,rfl,rfl⟩
   ·exact⟨_,rfl,rfl,rfl⟩
theorem d6j (b:Den S40) (p:Nat×Nat) (t:Int) (h:a6v b):YM (c9O b p t):=by
 unfold c9O;cases e1o b p t
 ·refine⟨⟨⟨?_,?_,?_,?_⟩,⟨?_,?_⟩,⟨?_,?_⟩,?_⟩,?_,?_⟩<;>first|exact zero_le _|(intro r hr;cases hr)
 ·exact⟨h,zero_le _,zero_le _⟩
def e4u (l:List Int):Bool:=decide (l.length<=1048576)
def g3U (y:Den R9):Prop:=(∃b p t,a6v b /\ y.1=c9O b p t) /\ a8a y.2.1
def pT9 (x:Den A9):Bool:=e4u x.1
def QT9 (x:Den A9) (y:Den R9):Prop:=g3U y
theorem e1p:a6v e8H.1:=(d6j (zero S40) (0,0) (-1) ⟨⟨zero_le _,zero_le _,zero_le _,fun _ h=>by cases h⟩,⟨zero_le _,zero_le _⟩,⟨(fun _ h=>by cases h),zero_le _⟩,zero_le _⟩).boat |> fun h=>by
 unfold c9O at h;cases hb:e1o (zero S40) (0,0) (-1)with
 | true =>
   unfold e1o at hb;have:inB (-1) 0 10000000=false:=by decide
   rw[this]at hb;simp at hb
 |false=>rw[hb]at h;exact h
theorem eT9:Nonempty (ChT A9 R9 pT9 QT9):=⟨⟨fun _=>(c9O e8H.1 (0,0) 0,[],()),fun _ _=>⟨⟨e8H.1,(0,0),0,e1p,rfl⟩,zero_le _,fun _ h=>by cases h⟩⟩⟩
theorem g7o:a2V Tryz.prog 9 (c7M A9 R9 pT9 QT9 eT9):=e9L g4W (N:=N9 p31 Q31 e31) (a2W ⟨g3O,trivial⟩) is9 a1C fun x hx k hk=>by
 have hk:∀y:Den R9,g3U y->k y=some ():=hk;have h:x.1.length<=1048576:=by simpa[pT9,e4u]using hx
 refine Eq.trans (g7l _ _ _ _ _ _ _ _ _ _ _ _ _ _ _ k x) ?_;unfold rN9;dsimp only;have c0:=d2u (x,()) h
 haveI:=e31
 refine a0G (e2S (x,()) h) ?_;refine a0B fun g=>?_
 have hp:p31 (((),()),(G30 (x,())).snd)=true:=a1y.2 c0;obtain⟨q1,q2⟩:=g.2 _ hp;refine a0G hp ?_;generalize g.val (((),()),(G30 (x,())).snd)=A at *;refine a0G (e3Q _ q1) ?_;have c1:a0h (G33 (((),60,()),A.snd)).2.1:=a0Q _ q1;generalize G33 (((),60,()),A.snd)=B at *;refine a0G (a0C _ c1) ?_;have c2:a0h (G34 (((),3000,()),B.snd)).2.1:=a0d _ c1;generalize G34 (((),3000,()),B.snd)=C at *;obtain⟨o,e1,e2,_⟩:=f4r A.fst.fst B.fst.fst C.fst.1 q2;have k32:K32 ((A.fst.fst,B.fst.fst,C.fst),())=true:=by
  show(F32 ((A.fst.fst,B.fst.fst,C.fst.1,()),())).isSome=true;rw[e1];rfl
 have g32:G32 ((A.fst.fst,B.fst.fst,C.fst),())=o:=by
  show(F32 ((A.fst.fst,B.fst.fst,C.fst.1,()),())).getD _=o;rw[e1];rfl
 refine a0G k32 ?_;have hs:a0W A.fst.fst.2.2.1 /\ A.fst.fst.2.2.1.length<=13:=q2.2.2.1;refine a0G (f3X (((),A.fst),C.snd) c2 hs.1 hs.2) ?_;obtain⟨_,q5⟩:=f3Y (((),A.fst),C.snd) c2 hs.1 hs.2;generalize G35 (((),A.fst),C.snd)=D at *;rw[g32];exact hk (yO o,D.snd.snd) ⟨⟨_,_,_,q2,e2⟩,q5⟩
def f4s (s:ByteArray):Bool:=isC (spF s) 2 sGo
def c4b (s:ByteArray):Int:=bif f4s s then uI (fAt (spF s) 1)else 0
def c4c (s:ByteArray):Nat:=bif f4s s then 1 else 0
def e1q (l:List ByteArray):Nat->Int
 |0=>0
 |k+1=>e1q l k+c4b (l.getD k (zero Ty.str))
def e1r (l:List ByteArray):Nat->Nat
 |0=>0
 |k+1=>e1r l k+c4c (l.getD k (zero Ty.str))
def GL (s:ByteArray):Prop:=f4s s=true->uB (fAt (spF s) 1)=true /\ 1<=uI (fAt (spF s) 1) /\ uI (fAt (spF s) 1)<=3600
theorem e1s {α:Type} (l:List α) (x d:α) (k:Nat) (h:k<l.length):(l++[x]).getD k d=l.getD k d:=by
 rw[List.getD_eq_getElem?_getD,List.getD_eq_getElem?_getD,List.getElem?_append_left h]
theorem d6k {α:Type} (l:List α) (x d:α):(l++[x]).getD l.length d=x:=by
 rw[List.getD_eq_getElem?_getD,List.getElem?_append_right (le_refl _)];simp
theorem d6l (l:List ByteArray) (s:ByteArray):∀k,k<=l.length->e1q (l++[s]) k=e1q l k /\ e1r (l++[s]) k=e1r l k
 |0,_=>⟨rfl,rfl⟩
 | k+1,h=>by
   obtain⟨h1,h2⟩:=d6l l s k (by omega);have e:=e1s l s (zero Ty.str) k (by omega);constructor
   ·show e1q (l++[s]) k+c4b ((l++[s]).getD k _)=e1q l k+c4b (l.getD k _);rw[h1,e]
   ·show e1r (l++[s]) k+c4c ((l++[s]).getD k _)=e1r l k+c4c (l.getD k _);rw[h2,e]
theorem e1t (l:List ByteArray) (s:ByteArray):e1q (l++[s]) (l++[s]).length=e1q l l.length+c4b s /\ e1r (l++[s]) (l++[s]).length=e1r l l.length+c4c s:=by
 obtain⟨h1,h2⟩:=d6l l s l.length (le_refl _);have e:=d6k l s (zero Ty.str);rw[length_append];constructor
 ·show e1q (l++[s]) l.length+c4b ((l++[s]).getD l.length _)=_;rw[h1,e]
 ·show e1r (l++[s]) l.length+c4c ((l++[s]).getD l.length _)=_;rw[h2,e]
theorem c7g {f:List ByteArray} {n m:Nat} {s t:ByteArray} (h:isC f n s=true) (hst:a2F s t=false):isC f m t=false:=by
 obtain⟨_,h2⟩:=c9m h;have e:=(b8e _ _).1 h2;unfold isC;rw[e,hst,Bool.and_false]
structure c1W (Y Z:Yv):Prop where
 tm:Z.tm=Y.tm
 tk:Z.tk=Y.tk
theorem c1W.refl (Y:Yv):c1W Y Y:=⟨rfl,rfl⟩
theorem a8Y (Y:Yv):c1W Y (kpV Y):=by
 unfold kpV;cases decide (Y.sl ≥ 0)
 ·exact .refl Y
 ·exact⟨rfl,rfl⟩
theorem d6m (f:List ByteArray) (Y:Yv) (h:(a3g f Y).1=true) :
 (isC f 2 sGo=true /\ uB (fAt f 1)=true /\ 1<=uI (fAt f 1) /\ uI (fAt f 1)<=3600 /\ (a3g f Y).2.tm=Y.tm+uI (fAt f 1) /\ (a3g f Y).2.tk.length=Y.tk.length+1)∨(isC f 2 sGo=false /\ c1W Y (a3g f Y).2):=by
 unfold a3g at h ⊢;cases c1:isC f 2 a5R with
 | true =>
   right;refine⟨c7g c1 (by decide +kernel),?_⟩;show c1W Y (a5S f Y).2;unfold a5S;cases (uB (fAt f 1)&&!decide (uI (fAt f 1)>359))
   ·exact .refl Y
   ·exact⟨(a8Y (Y.setHd _)).tm,(a8Y (Y.setHd _)).tk⟩
 |false=>
 cases c2:isC f 3 b2s with
 | true =>
   right;refine⟨c7g c2 (by decide +kernel),?_⟩;show c1W Y (b2w f Y).2;unfold b2w;cases ((b2v (fAt f 1) (fAt f 2)).2.2.1&&a2o (a1J f))
   ·exact .refl Y
   ·cases a3T Y.wd
    ·cases ((a3b Y.wd (a1J f)).2.1&&a2o (a3b Y.wd (a1J f)).1)
     ·exact .refl Y
     ·exact⟨(a8Y (Y.setWd _)).tm,(a8Y (Y.setWd _)).tk⟩
    ·exact⟨(a8Y (Y.setWd _)).tm,(a8Y (Y.setWd _)).tk⟩
 |false=>
 cases c3:isC f 2 c1G with
 | true =>
   right;refine⟨c7g c3 (by decide +kernel),?_⟩;show c1W Y (b2x f Y).2;unfold b2x;cases a2F (fAt f 1) c8R
   ·cases (!decide (a1g Y.sails (fAt f 1)<0)&&((a0F Y).2.1&&a5O (at' Y.sails (a1g Y.sails (fAt f 1)).toNat) (a0F Y).1))
    ·exact .refl Y
    ·exact⟨rfl,rfl⟩
   ·exact⟨rfl,rfl⟩
 |false=>
 cases c4:isC f 3 e4e with
 | true =>
   right;refine⟨c7g c4 (by decide +kernel),?_⟩;show c1W Y (d7l f Y).2;unfold d7l;cases ((b2v (fAt f 1) (fAt f 2)).2.2.1&&(a1c (c9l f)).2.1)
   ·exact .refl Y
   ·exact⟨rfl,rfl⟩
 |false=>
 cases c5:isC f 2 sGo with
 | true =>
   left;rw[c1,c2,c3,c4,c5]at h;have h:(goW f Y).1=true:=h;refine⟨rfl,?_⟩;show uB (fAt f 1)=true /\ 1<=uI (fAt f 1) /\ uI (fAt f 1)<=3600 /\ (goW f Y).2.tm=Y.tm+uI (fAt f 1) /\ (goW f Y).2.tk.length=Y.tk.length+1;unfold goW at h ⊢;cases hu:uB (fAt f 1)with
   |false=>rw[hu]at h;cases h
   | true =>
     rw[hu]at h;have h:(goV (uI (fAt f 1)) Y).1=true:=h;show _ /\ _ /\ _ /\ (goV (uI (fAt f 1)) Y).2.tm=_ /\ (goV (uI (fAt f 1)) Y).2.tk.length=_;unfold goV at h ⊢;cases ha:(inB (uI (fAt f 1)) 1 3600&&(!decide (Y.tm+uI (fAt f 1)>10000000)&&!decide ((Y.tk.length:Int) ≥ 200)))with
     |false=>rw[ha]at h;cases h
     | true =>
       rw[ha]at h;cases hb:((goR (uI (fAt f 1)) Y).2.1&&(a1c (goR (uI (fAt f 1)) Y).1).2.1)with
       |false=>rw[hb]at h;cases h
       | true =>
         unfold inB at ha;simp only[and_eq_true,decide_eq_true_eq]at ha;refine⟨rfl,ha.1.1,ha.1.2,rfl,?_⟩;show(Y.tk++[_]).length=_;rw[length_append];rfl
 |false=>exact .inr ⟨rfl,.refl Y⟩
structure e1u (t0:Int) (Y:Yv):Prop where
 gl:∀s∈Y.lg,GL s
 sum:Y.tm=t0+e1q Y.lg Y.lg.length
 cnt:Y.tk.length=e1r Y.lg Y.lg.length
theorem e1u.doV {t0:Int} {Y:Yv} (h:e1u t0 Y) (s:ByteArray):e1u t0 (doV Y s).1:=by
 unfold AM.doV;cases hd:doB Y s with
 |false=>exact h
 | true =>
   show e1u t0 (doZ Y s);unfold doB at hd;simp only[and_eq_true,decide_eq_true_eq]at hd;obtain⟨ho,hl,hs,hdn⟩:=hd;obtain⟨hn,_⟩:=e8A hs;have L:=(a8f (spF s) Y).lg;have hlg:(doZ Y s).lg=Y.lg++[a5w (spF s)]:=by
    show(a3g (spF s) Y).2.lg++[a5w (spF s)]=_;rw[L]
   have htm:(doZ Y s).tm=(a3g (spF s) Y).2.tm:=rfl;have htk:(doZ Y s).tk=(a3g (spF s) Y).2.tk:=rfl;obtain⟨e1,e2⟩:=e1t Y.lg (a5w (spF s));have hg:f4s (a5w (spF s))=isC (spF s) 2 sGo:=by unfold f4s;rw[hn]
   have hN:c4b (a5w (spF s))=bif isC (spF s) 2 sGo then uI (fAt (spF s) 1)else 0:=by unfold c4b;rw[hg,hn]
   have hC:c4c (a5w (spF s))=bif isC (spF s) 2 sGo then 1 else 0:=by unfold c4c;rw[hg]
   rcases d6m (spF s) Y hdn with⟨d1,d2,d3,d4,d5,d6⟩|⟨d1,d2⟩
   ·refine⟨?_,?_,?_⟩
    ·rw[hlg];intro u hu;rcases List.mem_append.1 hu with hu|hu
     ·exact h.gl u hu
     ·rw[List.mem_singleton.1 hu];intro _;rw[hn];exact⟨d2,d3,d4⟩
    ·rw[htm,d5,hlg,e1,hN,d1,h.sum,cond_true];omega
    ·rw[htk,d6,hlg,e2,hC,d1,h.cnt];rfl
   ·refine⟨?_,?_,?_⟩
    ·rw[hlg];intro u hu;rcases List.mem_append.1 hu with hu|hu
     ·exact h.gl u hu
     ·rw[List.mem_singleton.1 hu];intro hgo;rw[hg,d1]at hgo;cases hgo
    ·rw[htm,d2.tm,hlg,e1,hN,d1,h.sum,cond_false];omega
    ·rw[htk,d2.tk,hlg,e2,hC,d1,h.cnt];rfl
def b8i (y:Den (.cons .bool .nil)):Option Unit:=bif y.1 then some ()else none
theorem e1v:∀y,b8i y=some ()->y=(true,()):=by
 rintro⟨b,⟨⟩⟩ h;cases b
 ·cases h
 ·rfl
theorem g7p (x:Den A8):F8 x=some (decide ((x.1.length:Int)>1048576),()):=rfl
set_option maxHeartbeats 0
abbrev A5:Ty:=.cons (.slice (.int .u8)) (.nil)
abbrev R5:Ty:=.cons (.bool) (.nil)
noncomputable def Γ5 (j k l m a b c d e g h i) :=a0m tab eqs [(8,a0a A8 R8 j k),(9,a0a A9 R9 l m),(10,a0a A10 R10 a b),(18,a0a A18 R18 c d),(19,a0a A19 R19 e g),(20,a0a A20 R20 h i)] 69 [.tmp 2] [] [] [] [] []
theorem g7q:a1F Tryz.prog (Γ5 K8 G8 K9 G9 K10 G10 K18 G18 K19 G19 K20 G20):=a0v mixed a0x a0w (.cons g6c (.cons g7i (.cons g3L (.cons f9s (.cons e6v (.cons e6w .nil))))))
theorem is5:a6z Tryz.prog 5 (Γ5 K8 G8 K9 G9 K10 G10 K18 G18 K19 G19 K20 G20) (a0b Tryz.f5):=a1H Tryz.func5 rfl rfl rfl (by kernel_rfl) (a0O (by kernel_rfl))
noncomputable def N5 (pT9:KA A9) (QT9:Den A9->Den R9->Prop) (eT9:Nonempty (ChT A9 R9 pT9 QT9)):a9F:=mkN [(9,c7M A9 R9 pT9 QT9 eT9)] []
noncomputable def rN5 (q:KA A8) (r:GA A8 R8) (s:KA A9) (t:GA A9 R9) (g:KA A10) (c:GA A10 R10) (i:KA A18) (j:GA A18 R18) (k:KA A19) (l:GA A19 R19) (m:KA A20) (n:GA A20 R20) (pT9:KA A9) (QT9:Den A9->Den R9->Prop) (eT9:Nonempty (ChT A9 R9 pT9 QT9)) (h:Den R5->Option Unit) (x:Den A5):Option Unit:=bif q x then bif (r x).1 then h ((true,()))else a3z fun(b:ChT A9 R9 pT9 QT9)=>bif pT9 x then let d:=b.val x;bif g d then bif i (d.1,()) then bif !(j (d.1,())).1 then let a:=c d;bif decide (a.1.2.2.2.2.2.1 ≥ -1) then h ((decide (a.1.2.2.2.2.2.1<=0),()))else h ((false,()))else let a:=c d;bif decide (a.1.2.2.2.2.2.1<0) then bif decide (a.1.2.2.2.2.2.1 ≥ -1) then h ((decide (a.1.2.2.2.2.2.1<=0),()))else h ((false,()))else bif k (a.1,()) then let o:=l (a.1,());bif o.2.1 then let p:=a.1.2.2.2.2.2.1<(length a.1.1.2.2.1:Int);bif decide p then bif decide (0<=a.1.2.2.2.2.2.1)&&decide p then let e:=getD a.1.1.2.2.1 (toNat a.1.2.2.2.2.2.1) (zero S68);bif m (e,o.1,()) then bif (n (e,o.1,())).1 then h ((!(feq .f32 a.1.2.2.2.2.1.1 0&&feq .f32 a.1.2.2.2.2.1.2 0),()))else h ((false,()))else none else none else h ((false,()))else h ((false,()))else none else none else none else none else none
theorem g7r (k l m n a b c d e g i j pT9 QT9 eT9 h x) :a6p (Γ5 k l m n a b c d e g i j) (N5 pT9 QT9 eT9) (a0b Tryz.f5) (a6q R5 h) (a0M A5 x) []=rN5 k l m n a b c d e g i j pT9 QT9 eT9 h x:=by kernel_rfl
theorem g7s:NOK Tryz.prog (N5 pT9 QT9 eT9):=a2W ⟨g7o,trivial⟩
theorem d6n {b:Den S40} {p:Nat×Nat} {t:Int} (h:e1o b p t=true) (m:Den R19):okV m (c9O b p t)=true:=by
 have h2:=h;unfold e1o inB at h2;simp only[and_eq_true,decide_eq_true_eq]at h2;obtain⟨h1,h3,h4⟩:=h2;have hpos:0<(b.2.2.1.length:Int):=by
  unfold a4U at h1;simp only[and_eq_true,decide_eq_true_eq]at h1;exact h1.2.2.2.1
 have e:c9O b p t=(b,t,p,0,(0,0),-1,[],[],()):=by unfold c9O;rw[h];rfl
 rw[e];exact a8g (Z:=(b,t,p,0,(0,0),-1,[],[],())) h1 h4 h3 ⟨by show(0:Int)<=0;decide,by show(0:Int)<=359;decide⟩ (by show a2o (0,0)=true;decide +kernel) ⟨by show(-1:Int) <= -1;decide,by show(-1:Int)<=(b.2.2.1.length:Int)-1;omega⟩ (by show a2q []=true;rfl) (zero_le _) rfl rfl
theorem e1w:a4U e8H.1=false:=by decide +kernel
theorem d6o (m:Den R19):okV m e8H=false:=by
 unfold okV c9f;rw[e1w];rfl
theorem c9p {m:Den R19} {Z:Yv} (h:c1N m Z=true) (h0:0<=Z.sl):m.2.1=true /\ a0U (at' Z.sails Z.sl.toNat) m.1=true:=by
 unfold c1N at h;rw[decide_eq_true (show Z.sl ≥ 0 from h0)]at h;have h:(m.2.1&&a0U (at' Z.sails Z.sl.toNat) m.1)=true:=h;rw[and_eq_true]at h;exact h
theorem e8I (x:Den A5) (w:Wf A5 x):a6p (Γ5 K8 G8 K9 G9 K10 G10 K18 G18 K19 G19 K20 G20) (N5 pT9 QT9 eT9) (a0b Tryz.f5) (a6q R5 b8i) (a0M A5 x) []=some ():=by
 refine Eq.trans (g7r _ _ _ _ _ _ _ _ _ _ _ _ _ _ _ b8i x) ?_;unfold rN5;simp only[K8,G8,g7p,isSome_some,getD_some,cond_true];by_cases h0:(x.1.length:Int)>1048576
 ·simp only[h0,decide_true,cond_true];rfl
 simp only[h0,decide_false,cond_false]
 haveI:=eT9
 refine a0B fun g=>?_
 have hp:pT9 x=true:=by show decide (x.1.length<=1048576)=true;simp;omega
 have hq:g3U (g.val x):=g.2 _ hp;refine a0G hp ?_;generalize g.val x=d at *;obtain⟨Y,ls,_⟩:=d;change Yv at Y;change List ByteArray at ls;obtain⟨⟨b,p,t,hb,hY⟩,hls,_⟩:=hq;have hY:Y=c9O b p t:=hY;have hls:ls.length<=30:=hls;have hYM:YM Y:=by rw[hY];exact d6j b p t hb
 have h10:=f4k Y ls hYM (by omega);have k10:K10 (Y,ls,())=true:=isS h10;have g10:G10 (Y,ls,())=((a8X Y ls ls.length).1,(a8X Y ls ls.length).2,()):=gtS h10;have e18:=f4e Y hYM;have k18:K18 (Y,())=true:=isS e18;have g18:G18 (Y,())=(okV (b7Y Y) Y,()):=gtS e18;have hZM:=c4a Y ls hYM ls.length;refine a0G k10 (a0G k18 ?_);rw[g10,g18];cases hn:e1o b p t with
 | false =>
   have hYn:Y=e8H:=by rw[hY];unfold c9O;rw[hn];rfl
   have hst:=c7f (Y:=Y) ls (by rw[hYn];exact d6o _) ls.length;have ho:okV (b7Y Y) Y=false:=by rw[hYn];exact d6o _
   rw[ho,hst];subst hYn;rfl
 | true =>
   have ho:okV (b7Y Y) Y=true:=by rw[hY];exact d6n hn _
   have ho2:okV (a0F Y) Y=true:=by rw[hY];exact d6n hn _
   have hZ:=e4t ls ho2 ls.length;rw[ho];generalize (a8X Y ls ls.length).1=Z at *;generalize (a8X Y ls ls.length).2=B at *;have hR:=b8h.of hZ;have hset:c1N (a0F Z) Z=true:=(a4w hZ).2.2.2.2.2.2.2.2.2;have hsl:=hR.sl;show(bif decide (Z.sl<0)then bif decide (Z.sl ≥ -1)then b8i (decide (Z.sl<=0),())else b8i (false,())else
    bif K19 (Z,())then bif (G19 (Z,())).2.1 then bif decide (Z.sl<(Z.sails.length:Int))then bif (decide (0<=Z.sl)&&decide (Z.sl<(Z.sails.length:Int)))then
     bif K20 (at' Z.sails Z.sl.toNat,(G19 (Z,())).1,())then bif (G20 (at' Z.sails Z.sl.toNat,(G19 (Z,())).1,())).1 then b8i (!a3T Z.wd,())else b8i (false,())else none else none else b8i (false,())else b8i (false,())else none)=some ()
   by_cases h1:Z.sl<0
   ·rw[decide_eq_true h1,decide_eq_true (show Z.sl ≥ -1 from hsl.1),decide_eq_true (show Z.sl<=0 by omega)];rfl
   ·rw[decide_eq_false h1];obtain⟨s1,s2⟩:=c9p hset (by omega);have e19:=c6K Z;have k19:K19 (Z,())=true:=isS e19;have g19:G19 (Z,())=a0F Z:=gtS e19;have hg:=hZM.boat.2.2.1.1.at Z.sl.toNat;have e20:=d4g (at' Z.sails Z.sl.toNat,(a0F Z).1,()) hg.2.1 hg.2.2 (b1T Z);have k20:K20 (at' Z.sails Z.sl.toNat,(a0F Z).1,())=true:=isS e20;have g20:G20 (at' Z.sails Z.sl.toNat,(a0F Z).1,())=(a0U (at' Z.sails Z.sl.toNat) (a0F Z).1,()):=gtS e20;have hst:a3T Z.wd=false:=by
     cases hs:a3T Z.wd with
     |false=>rfl
     |true=>rw[c9o hs]at s1;cases s1
    rw[k19,g19,s1,k20,g20,s2,hst,decide_eq_true (show Z.sl<(Z.sails.length:Int)by omega),decide_eq_true (show 0<=Z.sl by omega)];rfl
end Go.Proofs.YtjomnmoekchfeaaGreatDoor.AM
