/- Texts of one proof, joined: an abstract machine for the program, its functions evaluated, plain lemmas. Conditions: those that each lemma names. -/
import Derived.Test.YtjomnmoekchfeaaGreatDoorM3
import Derived.Test.YtjomnmoekchfeaaGreatDoorM2
set_option linter.unusedVariables false
set_option linter.unusedSimpArgs false
namespace Go.Proofs.YtjomnmoekchfeaaGreatDoor.AM
open IntKind (wrap)
open List (length replicate getD set length_append length_replicate length_set)
open Int (toNat toNat_natCast)
open Option (getD_some isSome_some)
open Bool (and_eq_true)
open FloatKind (nearest)
open Nat (beq zero_le)
open Go Go.Proofs
def Pst {α:Type} (o:Option α) (P:α->Prop):Prop:=∃y,o=some y /\ P y
theorem a0h {α:Type} {y:α} {P:α->Prop} (h:P y):Pst (some y) P:=⟨y,rfl,h⟩
theorem a0e {α:Type} {c:Bool} {a b:Option α} {P:α->Prop} (hc:c=true) (h:Pst a P):Pst (bif c then a else b) P:=by rw[hc];exact h
theorem a0W {α:Type} {c:Bool} {a b:Option α} {P:α->Prop} (h1:c=true->Pst a P) (h2:c=false->Pst b P):Pst (bif c then a else b) P:=by
 cases c
 ·exact h2 rfl
 ·exact h1 rfl
theorem a1V {α:Type} {o:Option α} {P:α->Prop} (h:Pst o P):o.isSome=true:=by obtain⟨y,e,_⟩:=h;rw[e];rfl
theorem a2j {α:Type} {o:Option α} {P:α->Prop} (z:α) (h:Pst o P):P (o.getD z):=by obtain⟨y,e,h⟩:=h;rw[e];exact h
theorem a0q {c:Bool} {a b:Option Unit} (hc:c=true) (h:a=some ()):(bif c then a else b)=some ():=by rw[hc];exact h
theorem a1q {c:Bool} {a b:Option Unit} (h1:c=true->a=some ()) (h2:c=false->b=some ()):(bif c then a else b)=some ():=by
 cases c
 ·exact h2 rfl
 ·exact h1 rfl
theorem d8X (x:e8U.den) (h:a0c x.2.1):Pst (f5j x) fun y=>a0c y.2.1:=by
 unfold f5j;dsimp only
 (repeat' (with_reducible first|refine a0h ?_|refine a0e (a0k _ cu) ?_|refine a0e (a1y _ cu) ?_|refine a0W (fun _=>?_) (fun _=>?_)))<;>(repeat ((try dsimp only);first|assumption|(with_reducible first|apply a0G|apply a1i)))
theorem a7q (x:e8U.den) (h:a0c x.2.1):d6S x=true:=a1V (d8X x h)
theorem G146_cur (x:e8U.den) (h:a0c x.2.1):a0c (d6T x).2.1:=a2j _ (d8X x h)
theorem c7S (x:I81.den) (h:a0c x.2.1):Pst (F81 x) fun y=>a0c y.2.1:=by
 unfold F81;dsimp only;refine a0e (a1y _ cu) ?_;refine a0W (fun _=>?_) (fun _=>?_)
 ·refine a0e (a7q _ cu) ?_;exact a0h cu
 ·(repeat' (with_reducible first|refine a0h ?_|refine a0e (a0k _ cu) ?_|refine a0e (a1y _ cu) ?_|refine a0W (fun _=>?_) (fun _=>?_)))<;>(repeat ((try dsimp only);first|assumption|(with_reducible first|apply G146_cur|apply a0G|apply a1i)))
theorem c7T (x:I81.den) (h:a0c x.2.1):K81 x=true:=a1V (c7S x h)
theorem G81_cur (x:I81.den) (h:a0c x.2.1):a0c (G81 x).2.1:=a2j _ (c7S x h)
theorem b4y (x:e8Z.den) (h:a0c x.2.1):Pst (f5k x) fun y=>a0c y.2.1:=by
 unfold f5k;dsimp only;refine a0e (a0k _ cu) ?_;refine a0W (fun _=>?_) (fun _=>?_)
 ·refine a0e (a5W _ cu (by simp)) ?_;exact a0h (a4v _ cu (by simp))
 ·(repeat' (with_reducible first|refine a0h ?_|refine a0e (a0k _ cu) ?_|refine a0e (a1y _ cu) ?_|refine a0W (fun _=>?_) (fun _=>?_)))<;>(repeat ((try dsimp only);first|assumption|(with_reducible first|apply G81_cur|apply G146_cur|apply a0G|apply a1i)))
theorem a7r (x:e8Z.den) (h:a0c x.2.1):d6U x=true:=a1V (b4y x h)
theorem G142_cur (x:e8Z.den) (h:a0c x.2.1):a0c (d6V x).2.1:=a2j _ (b4y x h)
theorem c0d (x:e8K.den) (h:a0c x.2.1) (hl:0<x.2.2.1.length):Pst (f5i x) fun y=>a0c y.2.1 /\ y.1.1∈x.2.2.1:=by
 obtain⟨m,c1,he,h1,h2,h3⟩:=a8i (x.2.2.1.length:Int) x.2.1 h;unfold f5i;have he':F34 (((),(↑(length x.snd.snd.fst):Int),()),x.snd.fst,())=some ((m,()),(c1,())):=he;have e1:decide (0<=m)=true:=decide_eq_true h2;have h4:m<(x.2.2.1.length:Int):=h3 (by omega);have e2:decide (m<(x.2.2.1.length:Int))=true:=decide_eq_true h4;simp only[K34,G34,he',isSome_some,getD_some,cond_true,e1,e2,Bool.and_self];refine a0h ⟨h1,?_⟩;show x.2.2.1.getD m.toNat _∈x.2.2.1;rw[a3q _ _ _ (by omega)];exact List.getElem_mem _
theorem c7U (x:e8K.den) (h:a0c x.2.1) (hl:0<x.2.2.1.length):e8L x=true:=a1V (c0d x h hl)
theorem c7V (x:e8K.den) (h:a0c x.2.1) (hl:0<x.2.2.1.length):a0c (e1W x).2.1 /\ (e1W x).1.1∈x.2.2.1:=a2j _ (c0d x h hl)
theorem c2q (n:Int):I64 (IntKind.i64.wrap n):=by
 unfold I64;rw[IntKind.wrap_i64];omega
def d0U (c:List Int×Int×Int×Unit):Bool:=decide (0<=c.2.1)&&decide (c.1.length<=1048576)
theorem a0T {c:List Int×Int×Int×Unit}:d0U c=true↔a0c c:=by unfold d0U a0c;simp
def d3z:List Int×Int×Int×Unit:=([],0,0,())
theorem a4Z:a0c d3z:=⟨Int.le_refl 0,zero_le _⟩
def p141 (x:a5n.den):Bool:=d0U x.2.1
def Q141 (x:a5n.den) (y:a7o.den):Prop:=a0c y.2.1
theorem e141:Nonempty (Ch a5n a7o p141 Q141):=⟨⟨fun _=>((0,()),(d3z,())),fun _ _=>a4Z⟩⟩
theorem c7W:a2i Tryz.prog 141 (a2K true a5n a7o p141 Q141 e141):=b0r e8W (N:=g6q) (a2m trivial) f9S a1d fun x hx k hk=>by
 have h:a0c x.2.1:=a0T.1 hx;refine Eq.trans (e9x k x) ?_;unfold e9w;dsimp only;refine a0q (c7T _ cu) ?_;refine a1q (fun hb=>?_) (fun _=>?_)
 ·refine a0q hb ?_;exact hk _ (by show a0c _;exact cu)
 ·exact a0l fun z=>hk _ (by show a0c _;exact cu)
theorem a8j:I64 0:=by unfold I64;decide
theorem e2U:I64 180:=by unfold I64;decide
theorem a0M (n:Int) (c:List Int×Int×Int×Unit) (h:a0c c) (hn:0<n):0<=((G34 (((),n,()),c,())).1.1:Int) /\ ((G34 (((),n,()),c,())).1.1:Int)<n:=by
 obtain⟨_,h1,h2⟩:=d7h (((),n,()),c,()) h;exact⟨h1,h2 hn⟩
def b6F (s:Den S68):Prop:=s.1.size<=1000 /\ I64 s.2.2.2.1 /\ I64 s.2.2.2.2.1
def a0F (l:List (Den S68)):Prop:=∀s∈l,b6F s
theorem c2r:b6F (zero S68):=⟨zero_le _,a8j,a8j⟩
theorem a0F.at {l:List (Den S68)} (h:a0F l) (i:Nat):b6F (at' l i):=by
 rcases f1u (l:=l) (i:=i)with h1|h1
 ·exact h _ h1
 ·rw[h1];exact c2r
theorem a0F.app {l:List (Den S68)} {s:Den S68} (h:a0F l) (hs:b6F s):a0F (l++[s]):=by
 intro t ht;rcases List.mem_append.1 ht with h1|h1
 ·exact h t h1
 ·rw[List.mem_singleton.1 h1];exact hs
theorem a0F.set {l:List (Den S68)} {i:Nat} {s:Den S68} (h:a0F l) (hs:b6F s):a0F (l.set i s):=by
 intro t ht;rcases List.mem_or_eq_of_mem_set ht with h1|h1
 ·exact h t h1
 ·rw[h1];exact hs
theorem a0F.good {l:List (Den S68)} (h:a0F l) (hl:l.length<=13):b6E l:=
 ⟨by omega,fun i=>by have:=(h.at i).1;omega,fun i=>⟨(h.at i).2.1,(h.at i).2.2⟩⟩
theorem g7Q {α:Type} (z x:α):(replicate 1 z).set 0 x=[x]:=rfl
theorem c0e (v:c2i) (h:a0c v.2.1) (hn:∀s∈v.2.2.1,s.size<=1000) (hn6:v.2.2.1.length=6) (h0:0<=v.1.2.2.2.1) (h1:(v.2.2.2.1.length:Int)+v.1.2.2.2.1<=5) (h2:1<=(v.2.2.2.1.length:Int)+v.1.2.2.2.1) (hg:a0F v.2.2.2.1) :
 Pst (d2K v) fun y=>a0c y.2.1 /\ a0F y.2.2.1 /\ y.2.2.1.length<=5 /\ 1<=y.2.2.1.length:=by
 refine a0E (q:=d2J) (fun v=>a0c v.2.1 /\ (∀s∈v.2.2.1,s.size<=1000) /\ v.2.2.1.length=6 /\ 0<=v.1.2.2.2.1 /\ (v.2.2.2.1.length:Int)+v.1.2.2.2.1<=5 /\ 1<=(v.2.2.2.1.length:Int)+v.1.2.2.2.1 /\ a0F v.2.2.2.1)
  (fun _ r=>Pst r fun y=>a0c y.2.1 /\ a0F y.2.2.1 /\ y.2.2.1.length<=5 /\ 1<=y.2.2.1.length) (fun v=>v.1.2.2.2.1.toNat) ?_ _ _ ⟨h,hn,hn6,h0,h1,h2,hg⟩ (Nat.lt_of_lt_of_le (m:=1000) (by omega) (Nat.le_add_left _ _))
 clear h hn hn6 h0 h1 h2 hg v;rintro⟨⟨_,_,_,k,_⟩,c,ns,l,_⟩ f ⟨g0,g1,g2,g3,g4,g5,g6⟩ ih;simp only at g0 g1 g2 g3 g4 g5 g6 ih;unfold d2J;dsimp only;by_cases hk:k>0
 ·refine a0e (by simpa using hk) ?_;refine a0e (a0k _ cu) ?_;refine a0e (a0k _ cu) ?_;have c1:a0c (G34 (((),16,()),c,())).snd.fst:=cu;have b1:0<=((G34 (((),100,()),(G34 (((),16,()),c,())).snd)).fst.fst:Int) /\ ((G34 (((),100,()),(G34 (((),16,()),c,())).snd)).fst.fst:Int)<100:=a0M 100 _ c1 (by decide);have c2:a0c (G34 (((),100,()),(G34 (((),16,()),c,())).snd)).snd.fst:=cu;generalize G34 (((),100,()),(G34 (((),16,()),c,())).snd)=A at *;generalize G34 (((),16,()),c,())=B at *;have i1:∀z:Int,z=A.fst.fst->I64 z:=fun z e=>by have h1:0<=z:=e ▸ b1.1;have h2:z<100:=e ▸ b1.2;unfold I64;omega
  refine a0e ?_ ?_
  ·simp;omega
  refine a0e (a0k _ cu) ?_;refine a0e (a0k _ cu) ?_;refine a0e (a1y _ cu) ?_;have e:IntKind.i64.wrap (k-1)=k-1:=w64 (by omega) (by omega);have hname:(ns.getD (toNat (l.length:Int)) (zero Ty.str)).size<=1000:=by
   rw[toNat_natCast,a3q _ _ _ (by omega)];exact g1 _ (List.getElem_mem _)
  simp only[g7Q,List.length_singleton];refine a0W (fun _=>?_) (fun _=>?_)
  ·refine a0e (a0r (by omega)) ?_;refine ih _ ⟨cu,g1,g2,?_,?_,?_,g6.app ⟨hname,a8j,e2U⟩⟩ ?_<;>simp only[e,length_append,List.length_singleton]<;>omega
  ·refine a0e (a0r (by omega)) ?_;refine ih _ ⟨cu,g1,g2,?_,?_,?_,g6.app ⟨hname,i1 _ rfl,c2q _⟩⟩ ?_<;>simp only[e,length_append,List.length_singleton]<;>omega
 ·have:decide (k>0)=false:=by simpa using hk
  rw[this];exact a0h ⟨g0,g6,by show l.length<=5;omega,by show 1<=l.length;omega⟩
theorem b4z (v:b0y) (h:a0c v.2.1) (h1:v.2.2.1.length<=13) (h2:1<=v.2.2.1.length) (hg:a0F v.2.2.1):Pst (b9e v) fun y=>a0c y.2.1 /\ a0F y.2.2.1 /\ y.2.2.1.length<=13:=by
 refine a0E (q:=b9d) (fun v=>a0c v.2.1 /\ v.2.2.1.length<=13 /\ 1<=v.2.2.1.length /\ a0F v.2.2.1)
  (fun _ r=>Pst r fun y=>a0c y.2.1 /\ a0F y.2.2.1 /\ y.2.2.1.length<=13) (fun v=>13-v.2.2.1.length) ?_ _ _ ⟨h,h1,h2,hg⟩ (Nat.lt_of_lt_of_le (m:=1000) (by omega) (Nat.le_add_left _ _))
 clear h h1 h2 hg v;rintro⟨⟨_,_,_⟩,c,l,_⟩ f ⟨g0,g1,g2,g3⟩ ih;simp only at g0 g1 g2 g3 ih;unfold b9d;dsimp only;refine a0e (a0k _ cu) ?_;have b2:0<=((G34 (((),2,()),c,())).fst.fst:Int) /\ ((G34 (((),2,()),c,())).fst.fst:Int)<2:=a0M 2 c g0 (by decide);have c2:a0c (G34 (((),2,()),c,())).snd.fst:=cu;generalize G34 (((),2,()),c,())=D at *;have bd:∀z:Int,z=D.fst.fst->IntKind.i64.wrap (12+z)<=13:=fun z e=>by
  have h1:0<=z:=e ▸ b2.1;have h2:z<2:=e ▸ b2.2;rw[w64 (by omega) (by omega)];omega
 have bd':=bd _ rfl;by_cases hl:(l.length:Int)<IntKind.i64.wrap (12+D.fst.fst)
 ·refine a0e (by simpa using hl) ?_;have hl':(l.length:Int)<13:=Int.lt_of_lt_of_le hl bd';refine a0e ?_ ?_
  ·have:decide (0<(l.length:Int))=true:=by simp;omega
   rw[this];rfl
  simp only[g7Q,List.length_singleton];refine a0e (a0r (by omega)) ?_;refine ih _ ⟨c2,?_,?_,g3.app ⟨?_,(g3.at 0).2.1,(g3.at 0).2.2⟩⟩ ?_
  ·simp only[length_append,List.length_singleton];omega
  ·simp only[length_append,List.length_singleton];omega
  ·have hb:∀z:Int,(a7C [z]).size=1:=fun _=>rfl
   simp only[ByteArray.size_append,hb];show 1+1<=1000
   decide
  ·simp only[length_append,List.length_singleton];omega
 ·have:decide ((l.length:Int)<IntKind.i64.wrap (12+D.fst.fst))=false:=by simpa using hl
  rw[this];exact a0h ⟨c2,g3,g1⟩
theorem g3c (v:c2i) (h:a0c v.2.1) (hn:∀s∈v.2.2.1,s.size<=1000) (hn6:v.2.2.1.length=6) (h0:0<=v.1.2.2.2.1) (h1:(v.2.2.2.1.length:Int)+v.1.2.2.2.1<=5) (h2:1<=(v.2.2.2.1.length:Int)+v.1.2.2.2.1) (hg:a0F v.2.2.2.1) :
 d6Z v=true /\ a0c (b0z v).2.1 /\ a0F (b0z v).2.2.1 /\ (b0z v).2.2.1.length<=5 /\ 1<=(b0z v).2.2.1.length:=⟨a1V (c0e v h hn hn6 h0 h1 h2 hg),a2j _ (c0e v h hn hn6 h0 h1 h2 hg)⟩
theorem f1A (v:b0y) (h:a0c v.2.1) (h1:v.2.2.1.length<=13) (h2:1<=v.2.2.1.length) (hg:a0F v.2.2.1):c6f v=true /\ a0c (b1X v).2.1 /\ a0F (b1X v).2.2.1 /\ (b1X v).2.2.1.length<=13:=⟨a1V (b4z v h h1 h2 hg),a2j _ (b4z v h h1 h2 hg)⟩
def p75 (x:I75.den):Bool:=d0U x.2.1
def Q75 (x:I75.den) (y:O75.den):Prop:=a0c y.2.1 /\ a0F y.2.2.1 /\ y.2.2.1.length<=13
theorem e75:Nonempty (Ch I75 O75 p75 Q75):=⟨⟨fun _=>(((),()),(d3z,([],()))),fun _ _=>⟨a4Z,(fun _ h=>by cases h),zero_le _⟩⟩⟩
def b4A:List ByteArray:=(((((replicate 6 (zero Ty.str)).set 0 { data:=#[109,97,105,110] }).set 1 { data:=#[106,105,98] }).set 2 { data:=#[103,101,110,111,97] }).set 3 { data:=#[115,116,111,114,109] }).set 4 { data:=#[99,111,100,101] } |>.set 5 { data:=#[107,105,116,101] }
theorem b4B:(∀s∈b4A,s.size<=1000) /\ b4A.length=6:=by
 have h:(b4A.all fun s=>Nat.ble s.size 1000)=true:=rfl;exact⟨fun s hs=>Nat.le_of_ble_eq_true (List.all_eq_true.1 h s hs),rfl⟩
def c0f (s:ByteArray):List ByteArray:=((((replicate 5 (zero Ty.str)).set 0 { data:=#[] }).set 1 { data:=#[74,105,98] }).set 2 { data:=#[97,98,99,100,101,102,103,104,105,106,107,108,109,110,111,112,113] }).set 3 { data:=#[97,98,99,100,101,102,103,104,105,106,107,108,109,110,111,112] } |>.set 4 s
theorem c7X {s:ByteArray} (h:s.size<=1000):∀t∈c0f s,t.size<=1000:=by
 intro t ht;have h0:((((replicate 5 (zero Ty.str)).set 0 { data:=#[] }).set 1 { data:=#[74,105,98] }).set 2 { data:=#[97,98,99,100,101,102,103,104,105,106,107,108,109,110,111,112,113] } |>.set 3 { data:=#[97,98,99,100,101,102,103,104,105,106,107,108,109,110,111,112] }).all (fun s:ByteArray=>Nat.ble s.size 1000)=true:=rfl;rcases List.mem_or_eq_of_mem_set ht with h1|h1
 ·exact Nat.le_of_ble_eq_true (List.all_eq_true.1 h0 t h1)
 ·rw[h1];exact h
theorem g3d:a2i Tryz.prog 75 (a2K true I75 O75 p75 Q75 e75):=b0r f9W (N:=N75 p141 Q141 e141) (a2m ⟨c7W,trivial⟩) g9F a1d fun x hx k hk=>by
 have h:a0c x.2.1:=a0T.1 hx;refine Eq.trans (g0j _ _ _ k x) ?_;unfold g6s;dsimp only;refine a0q (a0k _ cu) ?_;have b5:0<=((G34 (((),5,()),x.snd)).fst.fst:Int) /\ ((G34 (((),5,()),x.snd)).fst.fst:Int)<5:=a0M 5 x.2.1 h (by decide);have c5:a0c (G34 (((),5,()),x.snd)).snd.fst:=cu;generalize G34 (((),5,()),x.snd)=D at *;have bd:∀z:Int,z=D.fst.fst->1<=IntKind.i64.wrap (1+z) /\ IntKind.i64.wrap (1+z)<=5:=fun z e=>by
  have h1:0<=z:=e ▸ b5.1;have h2:z<5:=e ▸ b5.2;rw[w64 (by omega) (by omega)];omega
 obtain⟨w1,w2⟩:=bd _ rfl;obtain⟨k1,cy,gy,ly,ly1⟩:=g3c (((),(),(),IntKind.i64.wrap (1+D.fst.fst),()),D.snd.fst,b4A,[],()) c5 b4B.1 b4B.2 (by show 0<=IntKind.i64.wrap (1+D.fst.fst);omega) (by simpa using w2) (by simpa using w1) (fun _ h=>by cases h);refine a0q k1 ?_;have hz:replicate 0 (zero S68)=[]:=rfl;unfold b4A at cy gy ly ly1;rw[hz];generalize b0z _=y at *;refine a0q (a0k _ cu) ?_;have b12:0<=((G34 (((),(y.2.2.1.length:Int),()),y.snd.fst,())).fst.fst:Int) /\ ((G34 (((),(y.2.2.1.length:Int),()),y.snd.fst,())).fst.fst:Int)<(y.2.2.1.length:Int):=a0M _ y.2.1 cy (by omega);have c12:a0c (G34 (((),(y.2.2.1.length:Int),()),y.snd.fst,())).snd.fst:=cu;generalize G34 (((),(y.2.2.1.length:Int),()),y.snd.fst,())=I at *;refine a0q (a0k _ cu) ?_;have c14:a0c (G34 (((),24,()),I.snd)).snd.fst:=cu;generalize G34 (((),24,()),I.snd)=M at *;have hidx:(decide (0<=I.fst.fst)&&decide (I.fst.fst<((y.snd.snd.fst.length:Nat):Int)))=true:=by
  rw[decide_eq_true b12.1,decide_eq_true b12.2];rfl
 have hat:∀i,b6F (getD y.snd.snd.fst i (zero S68)):=fun i=>gy.at i
 refine a1q (fun _=>?_) (fun _=>?_)
 ·refine a0q ?_ ?_
  ·have:decide (0<((y.snd.snd.fst.length:Nat):Int))=true:=by simp;omega
   rw[this];rfl
  obtain⟨nm,hnm⟩:∃nm,nm=c0f (getD y.snd.snd.fst (toNat 0) (zero S68)).fst:=⟨_,rfl⟩;have h5:∀t∈nm,t.size<=1000:=by rw[hnm];exact c7X (hat _).1
  have h5l:0<nm.length:=by rw[hnm];simp[c0f]
  unfold c0f at hnm;rw[<- hnm];refine a0q (c7U (((),(),()),M.snd.fst,nm,()) c14 h5l) ?_;obtain⟨c22,m22⟩:=c7V (((),(),()),M.snd.fst,nm,()) c14 h5l;refine a0q hidx ?_;exact hk _ ⟨c22,gy.set ⟨h5 _ m22,(hat _).2⟩,by simp only[length_set];omega⟩
 refine a1q (fun _=>?_) (fun _=>?_)
 ·haveI:=e141
  refine a0l fun g=>?_
  have hp:p141 (((),300,()),M.snd)=true:=a0T.2 c14;refine a0q hp ?_;refine a0q hidx ?_;exact hk _ ⟨g.2 _ hp,gy.set (hat _),by simp only[length_set];omega⟩
 refine a1q (fun _=>?_) (fun _=>?_)
 ·haveI:=e141
  refine a0l fun g=>?_
  have hp:p141 (((),300,()),M.snd)=true:=a0T.2 c14;refine a0q hp ?_;refine a0q hidx ?_;exact hk _ ⟨g.2 _ hp,gy.set (hat _),by simp only[length_set];omega⟩
 refine a1q (fun _=>?_) (fun _=>?_)
 ·refine a0q (a7r _ cu) ?_;refine a0q hidx ?_;exact hk _ ⟨cu,gy.set ⟨(hat _).1,(hat _).2.1,c2q _⟩,by simp only[length_set];omega⟩
 refine a1q (fun _=>?_) (fun _=>?_)
 ·refine a0q (a7r _ cu) ?_;refine a0q hidx ?_;exact hk _ ⟨cu,gy.set ⟨(hat _).1,c2q _,(hat _).2.2⟩,by simp only[length_set];omega⟩
 refine a1q (fun _=>?_) (fun _=>?_)
 ·exact hk _ ⟨c14,(fun _ h=>by cases h),zero_le _⟩
 refine a1q (fun _=>?_) (fun _=>?_)
 ·obtain⟨k2,c16,g16,l16⟩:=f1A (((),(),()),M.snd.fst,y.snd.snd) c14 (by show y.2.2.1.length<=13;omega) ly1 gy;refine a0q k2 ?_;exact hk _ ⟨c16,g16,l16⟩
 ·exact hk _ ⟨c14,gy,by show y.2.2.1.length<=13;omega⟩
def p128 (x:a9K.den):Bool:=d0U x.2.1
def Q128 (x:a9K.den) (y:b2E.den):Prop:=a0c y.2.1
theorem e128:Nonempty (Ch a9K b2E p128 Q128):=⟨⟨fun _=>(((0,0),()),(d3z,())),fun _ _=>a4Z⟩⟩
theorem d8Y:a2i Tryz.prog 128 (a2K true a9K b2E p128 Q128 e128):=b0r e9r (N:=g6r p141 Q141 e141) (a2m ⟨c7W,trivial⟩) g0g a1d fun x hx k hk=>by
 have hk:∀y:b2E.den,a0c y.2.1->k y=some ():=hk;have h:a0c x.2.1:=a0T.1 hx;refine Eq.trans (e9z _ _ _ k x) ?_;unfold e9y;dsimp only
 haveI:=e141
 refine a0q (a1y _ cu) ?_;refine a1q (fun _=>?_) (fun _=>?_)
 ·refine a0q (a7q _ cu) ?_;refine a1q (fun h1=>?_) (fun _=>?_)
  ·refine a0q h1 ?_;refine a0q (a7q _ cu) ?_;refine a1q (fun h2=>?_) (fun _=>?_)
   ·refine a0q h2 ?_;exact hk _ cu
   ·exact a0l fun z=>hk _ cu
  ·refine a0l fun z=>?_
   refine a0q (a7q _ cu) ?_;refine a1q (fun h2=>?_) (fun _=>?_)
   ·refine a0q h2 ?_;exact hk _ cu
   ·exact a0l fun z=>hk _ cu
 ·refine a0q (a1y _ cu) ?_;have c3:a0c (G77 (((),20,()),(G77 (((),30,()),x.snd)).snd)).snd.fst:=cu;generalize G77 (((),20,()),(G77 (((),30,()),x.snd)).snd)=A at *;refine a1q (fun _=>?_) (fun _=>?_)
  ·refine a0q (a5W _ c3 (by simp)) ?_;have c9:=a4v (((),(),()),A.snd.fst,((((replicate 4 (zero (Ty.int IntKind.i64))).set 0 100).set 1 (-100)).set 2 101).set 3 0,()) c3 (by simp);refine a0l fun g=>?_
   have hp:p141 (((),100,()),(b6k (((),(),()),A.snd.fst,((((replicate 4 (zero (Ty.int IntKind.i64))).set 0 100).set 1 (-100)).set 2 101).set 3 0,())).snd.fst,())=true:=a0T.2 c9;refine a0q hp ?_;exact hk _ (g.2 _ hp)
  ·refine a0l fun g=>?_
   have hp:p141 (((),15,()),A.snd)=true:=a0T.2 c3;refine a0q hp ?_;refine a0l fun g2=>?_
   have hp2:p141 (((),15,()),(g.val (((),15,()),A.snd)).snd)=true:=a0T.2 (g.2 _ hp);refine a0q hp2 ?_;exact hk _ (g2.2 _ hp2)
theorem b2e (x:e9i.den) (h:a0c x.2.1):e2f x=true /\ a0c (d7a x).2.1:=by
 unfold e2f d7a f9Z;have k1:=a1y (((),40,()),x.2) h;have c1:=a1i (((),40,()),x.2) h;simp only[k1,cond_true];generalize G77 (((),40,()),x.2)=g1 at *;cases g1.1.1
 ·simp only[cond_false];have k2:=a5W (((),(),()),g1.2.1,(((replicate 3 (zero (Ty.int IntKind.i64))).set 0 4).set 1 20).set 2 400,()) c1 (by simp);have c2:=a4v (((),(),()),g1.2.1,(((replicate 3 (zero (Ty.int IntKind.i64))).set 0 4).set 1 20).set 2 400,()) c1 (by simp);simp only[k2,cond_true];generalize b6k (((),(),()),g1.2.1,(((replicate 3 (zero (Ty.int IntKind.i64))).set 0 4).set 1 20).set 2 400,())=g2 at *;generalize IntKind.i64.wrap (IntKind.i64.wrap (2*g2.1.1)+1)=n;have k3:=a0k (((),n,()),g2.2.1,()) c2;have c3:=a0G (((),n,()),g2.2.1,()) c2;simp only[k3,cond_true];have k4:=a0k (((),n,()),(G34 (((),n,()),g2.2.1,())).2) c3;have c4:=a0G (((),n,()),(G34 (((),n,()),g2.2.1,())).2) c3;simp only[k4,cond_true,isSome_some,getD_some];exact⟨trivial,c4⟩
 ·simp only[cond_true];have k2:=a5W (((),(),()),g1.2.1,((((replicate 4 (zero (Ty.int IntKind.i64))).set 0 10000).set 1 (-10000)).set 2 10001).set 3 9223372036854775807,()) c1 (by simp);have c2:=a4v (((),(),()),g1.2.1,((((replicate 4 (zero (Ty.int IntKind.i64))).set 0 10000).set 1 (-10000)).set 2 10001).set 3 9223372036854775807,()) c1 (by simp);simp only[k2,cond_true];generalize b6k (((),(),()),g1.2.1,((((replicate 4 (zero (Ty.int IntKind.i64))).set 0 10000).set 1 (-10000)).set 2 10001).set 3 9223372036854775807,())=g2 at *;have k3:=a5W (((),(),()),g2.2.1,(((replicate 3 (zero (Ty.int IntKind.i64))).set 0 10000).set 1 0).set 2 (-10001),()) c2 (by simp);have c3:=a4v (((),(),()),g2.2.1,(((replicate 3 (zero (Ty.int IntKind.i64))).set 0 10000).set 1 0).set 2 (-10001),()) c2 (by simp);simp only[k3,cond_true,isSome_some,getD_some];exact⟨trivial,c3⟩
set_option maxRecDepth 100000
set_option maxHeartbeats 0
abbrev g3e:Ty:=.cons (S68) (.cons (S63) (.nil))
abbrev g3f:Ty:=.cons (.bool) (.nil)
def f6s (x:Den g3e):OD g3f:=bif fgt .f32 x.2.1.1 x.1.2.1||feq .f32 x.2.1.1 x.1.2.1 then bif flt .f32 x.2.1.1 x.1.2.2.1||feq .f32 x.2.1.1 x.1.2.2.1 then bif decide (x.2.1.2.1 ≥ x.1.2.2.2.1) then some (decide (x.2.1.2.1<=x.1.2.2.2.2.1),())else some (false,())else some (false,())else some (false,())
def e6s (x):=(f6s x).isSome
def e6t (x):=(f6s x).getD (zero g3f)
def g3g:=(206,a0b g3e g3f e6s e6t)
theorem d8Z:a0d Tryz.prog g3g:=fnE nS Tryz.func206
abbrev g7R:Ty:=.cons (.slice (S68)) (.cons (S63) (.nil))
abbrev g3h:Ty:=.cons (.int .i64) (.nil)
abbrev c0g:Type:=(b1P×b1Q)×d0Q×Unit
abbrev d9a:Type:=a4i
abbrev d9b:Type:=c4G
def d9c:LR:=⟨[0,3,5],[],0,[],[],⟨[(0,om7),(3,om1),(5,om0)],[(0,f7W)],1,0⟩,⟨[],[],0,0⟩,⟨[(4,om0)],[],0,0⟩⟩
def a7J (f:c0g->Option (d9a⊕d9b)) (v:c0g):Option (d9a⊕d9b):=bif decide (v.1.2.2.1<(length v.1.1:Int)) then bif d6f (v.1.1,()) then bif (d6g (v.1.1,())).1 then bif decide (0<=v.1.2.2.1)&&decide (v.1.2.2.1<(length v.1.1:Int)) then let a:=getD v.1.1 (toNat v.1.2.2.1) (zero S68);bif e6s (a,v.2) then bif (e6t (a,v.2)).1 then some (Sum.inr (v.1.2.2,()))else f (((v.1.1,(),wrap .i64 (v.1.2.2.1+1),()),v.2))else none else none else some (Sum.inl ((),()))else none else some (Sum.inl ((),()))
def c7Y (v:c0g):Nat:=v.1.1.length+v.1.2.2.1.natAbs+v.2.1.2.1.natAbs+1000
def b0M (v:c0g):=a0C a7J (c7Y v) v
def c7Z (v):=(b0M v).isSome
def c8a (v):=isR (b0M v)
def g3i (v):=xOf default (b0M v)
def c8b (v):=yOf default (b0M v)
def f1B (x:Den g7R):OD g3h:=bif c7Z ((x.1,(),0,()),x.2) then bif c8a ((x.1,(),0,()),x.2) then some (c8b ((x.1,(),0,()),x.2)).1 else some (-1,())else none
def f6t (x):=(f1B x).isSome
def f6u (x):=(f1B x).getD (zero g3h)
def h0w:=(244,a0b g7R g3h f6t f6u)
noncomputable def g3j:=gE [g5E,g3g] Tryz.f244 (lps:=[(2,lmR d9c b0M)])
theorem d3A:EvR g3j (lp Tryz.f244 0) d9c a7J:=fun _ _=>by kernel_rfl
theorem f1C:a0d Tryz.prog h0w:=a0w (a0z (s2 c5u d8Z)) (a1n Tryz.func244 rfl rfl rfl (by kernel_rfl) (a0f (by kernel_rfl) (s1 (lR d3A c7Y)))) fun _=>by kernel_rfl
abbrev g7S:Ty:=.cons (.slice (S68)) (.cons (.int .i64) (.cons (S63) (.nil)))
abbrev g3k:Ty:=.cons (.int .i64) (.nil)
def f6v (x:Den g7S):OD g3k:=bif d6f (x.1,()) then bif !(d6g (x.1,())).1 then some (-1,())else let a:=wrap .i64 ((length x.1:Int)-1);bif K51 (x.2.1,0,a,()) then bif (G51 (x.2.1,0,a,())).1 then bif decide (0<=x.2.1)&&decide (x.2.1<(length x.1:Int)) then let b:=getD x.1 (toNat x.2.1) (zero S68);bif K55 (b,x.2.2) then bif (G55 (b,x.2.2)).1 then some (x.2.1,())else bif f6t (x.1,x.2.2) then some (f6u (x.1,x.2.2))else none else none else none else bif f6t (x.1,x.2.2) then some (f6u (x.1,x.2.2))else none else none else none
def f6w (x):=(f6v x).isSome
def f6x (x):=(f6v x).getD (zero g3k)
def h0x:=(204,a0b g7S g3k f6w f6x)
theorem f1D:a0d Tryz.prog h0x:=fnE (s4 c5u a4u e8F f1C) Tryz.func204
abbrev g7T:Ty:=.cons (.flt .f32) (.nil)
abbrev g3l:Ty:=.cons (.bool) (.nil)
def g3m (x:Den g7T):OD g3l:=bif fgt .f32 x.1 0||feq .f32 x.1 0 then some (flt .f32 x.1 1065353216||feq .f32 x.1 1065353216,())else some (false,())
def g3n (x):=(g3m x).isSome
def g3o (x):=(g3m x).getD (zero g3l)
def h0y:=(245,a0b g7T g3l g3n g3o)
theorem f1E:a0d Tryz.prog h0y:=fnE nS Tryz.func245
abbrev g7U:Ty:=.cons (.flt .f32) (.cons (.flt .f32) (.cons (.flt .f32) (.nil)))
abbrev g3p:Ty:=.cons (.flt .f32) (.nil)
def g3q (x:Den g7U):OD g3p:=some (a0a .add .f32 x.1 (a0a .mul .f32 (a0a .sub .f32 x.2.1 x.1) x.2.2.1),())
def f6y (x):=(g3q x).isSome
def f6z (x):=(g3q x).getD (zero g3p)
def h0z:=(246,a0b g7U g3p f6y f6z)
theorem f1F:a0d Tryz.prog h0z:=fnE nS Tryz.func246
abbrev g7V:Ty:=.cons (.cpx .f32) (.cons (.cpx .f32) (.cons (.flt .f32) (.nil)))
abbrev g3r:Ty:=.cons (.cpx .f32) (.cons (.bool) (.nil))
def f6A (x:Den g7V):OD g3r:=bif K52 (x.1,()) then bif !(G52 (x.1,())).1 then some ((0,0),false,())else bif K52 (x.2.1,()) then bif !(G52 (x.2.1,())).1 then some ((0,0),false,())else bif g3n x.2.2 then bif !(g3o x.2.2).1 then some ((0,0),false,())else bif f6y (x.1.1,x.2.1.1,x.2.2) then bif f6y (x.1.2,x.2.1.2,x.2.2) then some (((f6z (x.1.1,x.2.1.1,x.2.2)).1,(f6z (x.1.2,x.2.1.2,x.2.2)).1),true,())else none else none else none else none else none
def f6B (x):=(f6A x).isSome
def d9d (x):=(f6A x).getD (zero g3r)
def h0A:=(205,a0b g7V g3r f6B d9d)
theorem f1G:a0d Tryz.prog h0A:=fnE (s3 b1T f1E f1F) Tryz.func205
abbrev g7W:Ty:=.cons (.str) (.nil)
abbrev g3s:Ty:=.cons (.int .i64) (.cons (.bool) (.nil))
abbrev c0h:Type:=(b3z×a5w)×Unit
abbrev d9e:Type:=e7i
abbrev d9f:Type:=(Int×d1Y)×Unit
def d9g:LR:=⟨[0,4,5],[],0,[0,4],[],⟨[(0,om5),(4,om0),(5,om0)],[],0,0⟩,⟨[(0,om5),(4,om0)],[],0,0⟩,⟨[(2,om0),(3,om2)],[],0,0⟩⟩
def b0N (f:c0h->Option (d9e⊕d9f)) (v:c0h):Option (d9e⊕d9f):=let b:=v.1.2.2.1<(ByteArray.size v.1.1:Int);bif decide b then let a:=decide (0<=v.1.2.2.1)&&decide b;bif a then bif decide (a0o v.1.1 v.1.2.2.1<48) then some (Sum.inr ((0,false,()),()))else bif a then bif decide (a0o v.1.1 v.1.2.2.1>57) then some (Sum.inr ((0,false,()),()))else bif a then f (((v.1.1,wrap .i64 ((wrap .i64 ((wrap .i64 (10*v.1.2.1))+(wrap .i64 (a0o v.1.1 v.1.2.2.1))))-48),wrap .i64 (v.1.2.2.1+1),()),()))else none else none else none else some (Sum.inl ((v.1.1,v.1.2.1,()),()))
def d9h (v:c0h):Nat:=v.1.1.size+v.1.2.1.natAbs+v.1.2.2.1.natAbs+1000
def b0O (v:c0h):=a0C b0N (d9h v) v
def c8c (v):=(b0O v).isSome
def c8d (v):=isR (b0O v)
def c8e (v):=xOf default (b0O v)
def c8f (v):=yOf default (b0O v)
def f6C (x:Den g7W):OD g3s:=bif decide ((ByteArray.size x.1:Int)>10) then some (0,false,())else bif c8c ((x.1,0,0,()),()) then bif c8d ((x.1,0,0,()),()) then some (c8f ((x.1,0,0,()),())).1 else let a:=c8e ((x.1,0,0,()),());bif decide (a.1.2.1>1000000000) then some (0,false,())else bif b3L a.1.2 then bif !a0O (a7m a.1.2).1 a.1.1 then some (0,false,())else some (a.1.2.1,true,())else none else none
def f6D (x):=(f6C x).isSome
def f1H (x):=(f6C x).getD (zero g3s)
def h0B:=(203,a0b g7W g3s f6D f1H)
noncomputable def g3t:=gE [g5M] Tryz.f203 (lps:=[(5,lmR d9g b0O)])
theorem d3B:EvR g3t (lp Tryz.f203 0) d9g b0N:=fun _ _=>by kernel_rfl
theorem f1I:a0d Tryz.prog h0B:=a0w (a0z (s1 c5F)) (a1n Tryz.func203 rfl rfl rfl (by kernel_rfl) (a0f (by kernel_rfl) (s1 (lR d3B d9h)))) fun _=>by kernel_rfl
abbrev g7X:Ty:=.cons (.str) (.nil)
abbrev f1J:Ty:=.cons (.int .i64) (.cons (.bool) (.nil))
abbrev c0i:Type:=(b3z×b3z×a5w)×Unit
abbrev d9i:Type:=(b3z×b3z×ty6)×Unit
abbrev d9j:Type:=(Int×d1Y)×Unit
def d9k:LR:=⟨[0,4,5,6],[],0,[0,4,5],[],⟨[(0,om5),(4,om5),(5,om0),(6,om0)],[],0,0⟩,⟨[(0,om5),(4,om5),(5,om0)],[],0,0⟩,⟨[(2,om0),(3,om2)],[],0,0⟩⟩
def a7K (f:c0i->Option (d9i⊕d9j)) (v:c0i):Option (d9i⊕d9j):=bif decide (v.1.2.2.2.1<(ByteArray.size v.1.2.1:Int)) then bif v.1.2.2.2.1==(wrap .i64 ((ByteArray.size v.1.2.1:Int)-4)) then f (((v.1.1,v.1.2.1,v.1.2.2.1,wrap .i64 (v.1.2.2.2.1+1),()),()))else bif decide (0<=v.1.2.2.2.1)&&decide (v.1.2.2.2.1<(ByteArray.size v.1.2.1:Int)) then bif decide (a0o v.1.2.1 v.1.2.2.2.1<48) then some (Sum.inr ((0,false,()),()))else bif decide (0<=v.1.2.2.2.1)&&decide (v.1.2.2.2.1<(ByteArray.size v.1.2.1:Int)) then bif decide (a0o v.1.2.1 v.1.2.2.2.1>57) then some (Sum.inr ((0,false,()),()))else bif decide (0<=v.1.2.2.2.1)&&decide (v.1.2.2.2.1<(ByteArray.size v.1.2.1:Int)) then f (((v.1.1,v.1.2.1,wrap .i64 ((wrap .i64 (v.1.2.2.1*10))+(wrap .i64 (wrap .u8 (a0o v.1.2.1 v.1.2.2.2.1-48)))),wrap .i64 (v.1.2.2.2.1+1),()),()))else none else none else none else some (Sum.inl ((v.1.1,v.1.2.1,v.1.2.2.1,()),()))
def c0j (v:c0i):Nat:=v.1.1.size+v.1.2.1.size+v.1.2.2.1.natAbs+v.1.2.2.2.1.natAbs+1000
def b0P (v:c0i):=a0C a7K (c0j v) v
def a9i (v):=(b0P v).isSome
def a9j (v):=isR (b0P v)
def a2e (v):=xOf default (b0P v)
def a9k (v):=yOf default (b0P v)
def f1K (x:Den g7X):OD f1J:=let b:=(ByteArray.size x.1:Int);bif decide (b>0) then bif decide (0<=0)&&decide (0<b) then bif a0o x.1 0==45 then bif decide (0<=1)&&decide (1<=b)&&decide (b<=b) then let h:=ByteArray.extract x.1 (toNat 1) (toNat b);let e:=(ByteArray.size h:Int);bif decide (e<5) then some (0,false,())else bif decide (e>12) then some (0,false,())else let c:=wrap .i64 (e-4);bif decide (0<=c)&&decide (c<e) then bif a0o h c != 46 then some (0,false,())else let g:=((x.1,ByteArray.extract x.1 (toNat 1) (toNat b),0,0,()),());bif a9i g then bif a9j g then some (a9k g).1 else let a:=a2e g;bif decide ((ByteArray.size a.1.2.1:Int)<(ByteArray.size a.1.1:Int)) then let d:=wrap .i64 (0-a.1.2.2.1);bif K83 (d,()) then bif !a0O (G83 (d,())).1 a.1.1 then some (0,false,())else some (d,true,())else none else bif K83 a.1.2.2 then bif !a0O (G83 a.1.2.2).1 a.1.1 then some (0,false,())else some (a.1.2.2.1,true,())else none else none else none else none else bif decide (b<5) then some (0,false,())else bif decide (b>12) then some (0,false,())else let c:=wrap .i64 (b-4);bif decide (0<=c)&&decide (c<b) then bif a0o x.1 c != 46 then some (0,false,())else bif a9i ((x.1,x.1,0,0,()),()) then bif a9j ((x.1,x.1,0,0,()),()) then some (a9k ((x.1,x.1,0,0,()),())).1 else let a:=a2e ((x.1,x.1,0,0,()),());bif decide ((ByteArray.size a.1.2.1:Int)<(ByteArray.size a.1.1:Int)) then let d:=wrap .i64 (0-a.1.2.2.1);bif K83 (d,()) then bif !a0O (G83 (d,())).1 a.1.1 then some (0,false,())else some (d,true,())else none else bif K83 a.1.2.2 then bif !a0O (G83 a.1.2.2).1 a.1.1 then some (0,false,())else some (a.1.2.2.1,true,())else none else none else none else none else bif decide (b<5) then some (0,false,())else bif decide (b>12) then some (0,false,())else let c:=wrap .i64 (b-4);bif decide (0<=c)&&decide (c<b) then bif a0o x.1 c != 46 then some (0,false,())else bif a9i ((x.1,x.1,0,0,()),()) then bif a9j ((x.1,x.1,0,0,()),()) then some (a9k ((x.1,x.1,0,0,()),())).1 else let a:=a2e ((x.1,x.1,0,0,()),());bif decide ((ByteArray.size a.1.2.1:Int)<(ByteArray.size a.1.1:Int)) then let d:=wrap .i64 (0-a.1.2.2.1);bif K83 (d,()) then bif !a0O (G83 (d,())).1 a.1.1 then some (0,false,())else some (d,true,())else none else bif K83 a.1.2.2 then bif !a0O (G83 a.1.2.2).1 a.1.1 then some (0,false,())else some (a.1.2.2.1,true,())else none else none else none
def e2V (x):=(f1K x).isSome
def c2s (x):=(f1K x).getD (zero f1J)
def h0C:=(207,a0b g7X f1J e2V c2s)
noncomputable def g3u:=gE [m83] Tryz.f207 (lps:=[(8,lmR d9k b0P)])
theorem d3C:EvR g3u (lp Tryz.f207 0) d9k a7K:=fun _ _=>by kernel_rfl
theorem f1L:a0d Tryz.prog h0C:=a0w (a0z (s1 e1K)) (a1n Tryz.func207 rfl rfl rfl (by kernel_rfl) (a0f (by kernel_rfl) (s1 (lR d3C c0j)))) fun _=>by kernel_rfl
abbrev g7Y:Ty:=.cons (.int .i64) (.nil)
abbrev g3v:Ty:=.cons (.flt .f64) (.nil)
def f6E (x:Den g7Y):OD g3v:=let a:=(x.1,-1000000000,1000000000,());bif K51 a then bif !(G51 a).1 then some (0,())else some (a0a .quo .f64 (nearest .f64 x.1) 4652007308841189376,())else none
def e2W (x):=(f6E x).isSome
def c8g (x):=(f6E x).getD (zero g3v)
def h0D:=(208,a0b g7Y g3v e2W c8g)
theorem f1M:a0d Tryz.prog h0D:=fnE (s1 a4u) Tryz.func208
abbrev g7Z:Ty:=.cons (.slice (.str)) (.nil)
abbrev f6F:Ty:=.cons (.flt .f64) (.cons (.flt .f64) (.cons (.bool) (.nil)))
def e6u (x:Den g7Z):OD f6F:=let c:=(length x.1:Int);bif c != 3 then some (0,0,false,())else bif decide (0<=1)&&decide (1<c) then let d:=getD x.1 (toNat 1) (zero Ty.str);bif e2V (d,()) then bif decide (0<=2)&&decide (2<c) then let e:=getD x.1 (toNat 2) (zero Ty.str);bif e2V (e,()) then let a:=c2s (d,());bif e2W (a.1,()) then let b:=c2s (e,());bif e2W (b.1,()) then bif a.2.1 then some ((c8g (a.1,())).1,(c8g (b.1,())).1,b.2)else some ((c8g (a.1,())).1,(c8g (b.1,())).1,false,())else none else none else none else none else none else none
def e2X (x):=(e6u x).isSome
def a6X (x):=(e6u x).getD (zero f6F)
def h0E:=(155,a0b g7Z f6F e2X a6X)
theorem d9l:a0d Tryz.prog h0E:=fnE (s2 f1L f1M) Tryz.func155
abbrev g8a:Ty:=.cons (.slice (.str)) (.nil)
abbrev f6G:Ty:=.cons (.int .i64) (.nil)
def f6H (x:Den g8a):OD f6G:=bif (length x.1:Int) != 2 then some (-1,())else bif decide (0<=1)&&decide (1<(length x.1:Int)) then let a:=getD x.1 (toNat 1) (zero Ty.str);bif f6D (a,()) then let b:=f1H (a,());bif !b.2.1 then some (-1,())else some (b.1,())else none else none
def e6v (x):=(f6H x).isSome
def d0V (x):=(f6H x).getD (zero f6G)
def h0F:=(151,a0b g8a f6G e6v d0V)
theorem f1N:a0d Tryz.prog h0F:=fnE (s1 f1I) Tryz.func151
abbrev g8b:Ty:=.cons (.int .i64) (.cons (.int .i64) (.cons (.int .i64) (.nil)))
abbrev g3w:Ty:=.cons (.int .i64) (.nil)
def e2Y (x:Den g8b):OD g3w:=bif decide (x.2.2.1<x.2.1) then some (x.2.1,())else bif decide (x.1<x.2.1) then some (x.2.1,())else bif decide (x.1>x.2.2.1) then some (x.2.2)else some (x.1,())
def e6w (x):=(e2Y x).isSome
def d0W (x):=(e2Y x).getD (zero g3w)
def g8c:=(182,a0b g8b g3w e6w d0W)
theorem d9m:a0d Tryz.prog g8c:=fnE nS Tryz.func182
abbrev g8d:Ty:=.cons (S30) (.cons (.cpx .f64) (.nil))
abbrev g3x:Ty:=.cons (.int .i64) (.nil)
abbrev c0k:Type:=(a4L×Unit×Int×d0Q)×b3A
abbrev d9n:Type:=c4G
def d9o:LX:=⟨[1,2,5,6,7],[],0,[5],[],⟨[(1,om6),(2,om1),(5,om0),(6,d1Z),(7,om0)],c2e,1,0⟩,⟨[(5,om0)],[],0,0⟩⟩
def b4C (f:c0k->Option (d9n)) (v:c0k):Option (d9n):=bif decide (v.1.2.2.2.2.1<(length v.2.1.1:Int)) then bif decide (0<=v.1.2.2.2.2.1)&&decide (v.1.2.2.2.2.1<(length v.2.1.1:Int)) then let c:=getD v.2.1.1 (toNat v.1.2.2.2.2.1) (zero a1m);let a:=a0a .sub .f64 c.1.1 v.1.1.1;let b:=a0a .sub .f64 c.1.2 v.1.1.2;bif d2s ((a,b),(a,b),()) then bif decide (v.1.2.2.1<0) then f (((v.1.1,(),v.1.2.2.2.2.1,(d0R ((a,b),(a,b),())).1,wrap .i64 (v.1.2.2.2.2.1+1),()),v.2))else let d:=d0R ((a,b),(a,b),());bif flt .f64 d.1 v.1.2.2.2.1 then f (((v.1.1,(),v.1.2.2.2.2.1,d.1,wrap .i64 (v.1.2.2.2.2.1+1),()),v.2))else f (((v.1.1,(),v.1.2.2.1,v.1.2.2.2.1,wrap .i64 (v.1.2.2.2.2.1+1),()),v.2))else none else none else some ((v.1.2.2.1,()),())
def c8h (v:c0k):Nat:=v.1.2.2.1.natAbs+v.1.2.2.2.2.1.natAbs+v.2.1.1.length+v.2.1.2.1.length+1000
def c0l (v:c0k):=a0C b4C (c8h v) v
def c8i (v):=(c0l v).isSome
def c8j (v):=(c0l v).getD default
def f1O (x:Den g8d):OD g3x:=bif e1G (x.1,()) then bif !(e1H (x.1,())).1 then some (-1,())else bif K96 x.2 then bif !(G96 x.2).1 then some (-1,())else let a:=((x.2.1,(),-1,0,0,()),x.1,());bif c8i a then some (c8j a).1 else none else none else none
def g3y (x):=(f1O x).isSome
def g3z (x):=(f1O x).getD (zero g3x)
def h0G:=(268,a0b g8d g3x g3y g3z)
noncomputable def g3A:=gE [f8E,m96,f9b] Tryz.f268 (lps:=[(6,lmX d9o c0l)])
theorem d3D:EvX g3A (lp Tryz.f268 0) d9o b4C:=fun _ _=>by kernel_rfl
theorem f1P:a0d Tryz.prog h0G:=a0w (a0z (s3 c5e b6e c5H)) (a1n Tryz.func268 rfl rfl rfl (by kernel_rfl) (a0f (by kernel_rfl) (s1 (lX d3D c8h)))) fun _=>by kernel_rfl
abbrev g8e:Ty:=.cons (.int .i64) (.cons (.int .i64) (.nil))
abbrev g3B:Ty:=.cons (.int .i64) (.nil)
def f6I (x:Den g8e):OD g3B:=bif decide (x.1>x.2.1) then some (wrap .i64 (x.1-x.2.1),())else some (wrap .i64 (x.2.1-x.1),())
def f6J (x):=(f6I x).isSome
def f6K (x):=(f6I x).getD (zero g3B)
def g8f:=(275,a0b g8e g3B f6J f6K)
theorem f1Q:a0d Tryz.prog g8f:=fnE nS Tryz.func275
abbrev g8g:Ty:=.cons (S30) (.cons (.int .i64) (.nil))
abbrev g3C:Ty:=.cons (.int .i64) (.nil)
abbrev c0m:Type:=(Int×d5A)×b3A
abbrev d9p:Type:=c4G
def d9q:LX:=⟨[1,2,5,6],[],0,[5],[],⟨[(1,om0),(2,om1),(5,om0),(6,om0)],c2e,1,0⟩,⟨[(5,om0)],[],0,0⟩⟩
def b4D (f:c0m->Option (d9p)) (v:c0m):Option (d9p):=bif decide (v.1.2.2.2.1<(length v.2.1.2.1:Int)) then bif decide (0<=v.1.2.2.2.1)&&decide (v.1.2.2.2.1<(length v.2.1.2.1:Int)) then let a:=getD v.2.1.2.1 (toNat v.1.2.2.2.1) (zero (Ty.int IntKind.i64));bif f6J (a,v.1.1,()) then bif decide (0<=v.1.2.2.1)&&decide (v.1.2.2.1<(length v.2.1.2.1:Int)) then let b:=getD v.2.1.2.1 (toNat v.1.2.2.1) (zero (Ty.int IntKind.i64));bif f6J (b,v.1.1,()) then bif decide ((f6K (a,v.1.1,())).1<(f6K (b,v.1.1,())).1) then f (((v.1.1,(),v.1.2.2.2.1,wrap .i64 (v.1.2.2.2.1+1),()),v.2))else f (((v.1.1,(),v.1.2.2.1,wrap .i64 (v.1.2.2.2.1+1),()),v.2))else none else none else none else none else some ((v.1.2.2.1,()),())
def c8k (v:c0m):Nat:=v.1.1.natAbs+v.1.2.2.1.natAbs+v.1.2.2.2.1.natAbs+v.2.1.1.length+v.2.1.2.1.length+1000
def c0n (v:c0m):=a0C b4D (c8k v) v
def c8l (v):=(c0n v).isSome
def c8m (v):=(c0n v).getD default
def f1R (x:Den g8g):OD g3C:=bif e1G (x.1,()) then bif !(e1H (x.1,())).1 then some (-1,())else bif K51 (x.2.1,0,10000000,()) then bif !(G51 (x.2.1,0,10000000,())).1 then some (-1,())else let a:=((x.2.1,(),0,1,()),x.1,());bif c8l a then some (c8m a).1 else none else none else none
def g3D (x):=(f1R x).isSome
def g3E (x):=(f1R x).getD (zero g3C)
def h0H:=(269,a0b g8g g3C g3D g3E)
noncomputable def g3F:=gE [f8E,m51,g8f] Tryz.f269 (lps:=[(5,lmX d9q c0n)])
theorem d3E:EvX g3F (lp Tryz.f269 0) d9q b4D:=fun _ _=>by kernel_rfl
theorem f1S:a0d Tryz.prog h0H:=a0w (a0z (s3 c5e a4u f1Q)) (a1n Tryz.func269 rfl rfl rfl (by kernel_rfl) (a0f (by kernel_rfl) (s1 (lX d3E c8k)))) fun _=>by kernel_rfl
abbrev g8h:Ty:=.cons (a1m) (.cons (.int .i64) (.nil))
abbrev g3G:Ty:=.cons (.cpx .f32) (.cons (.bool) (.nil))
def f6L (x:Den g8h):OD g3G:=bif e7S (x.1,()) then bif !(e7T (x.1,())).1 then some ((0,0),false,())else bif e6w (x.2.1,-21600,21600,()) then let b:=wrap .i64 ((d0W (x.2.1,-21600,21600,())).1+21600);bif Int.tmod b 3600==0 then let a:=wrap .i64 (Int.tdiv b 3600);bif decide (0<=a)&&decide (a<(↑13:Int)) then some (getD [x.1.2.1.1,x.1.2.1.2.1,x.1.2.1.2.2.1,x.1.2.1.2.2.2.1,x.1.2.1.2.2.2.2.1,x.1.2.1.2.2.2.2.2.1,x.1.2.1.2.2.2.2.2.2.1,x.1.2.1.2.2.2.2.2.2.2.1,x.1.2.1.2.2.2.2.2.2.2.2.1,x.1.2.1.2.2.2.2.2.2.2.2.2.1,x.1.2.1.2.2.2.2.2.2.2.2.2.2.1,x.1.2.1.2.2.2.2.2.2.2.2.2.2.2.1,x.1.2.1.2.2.2.2.2.2.2.2.2.2.2.2.1] (toNat a) (0,0),true,())else none else let a:=wrap .i64 (Int.tdiv b 3600);bif decide (0<=a)&&decide (a<(↑13:Int)) then let g:=wrap .i64 (a+1);bif decide (0<=g)&&decide (g<(↑13:Int)) then let c:=getD [x.1.2.1.1,x.1.2.1.2.1,x.1.2.1.2.2.1,x.1.2.1.2.2.2.1,x.1.2.1.2.2.2.2.1,x.1.2.1.2.2.2.2.2.1,x.1.2.1.2.2.2.2.2.2.1,x.1.2.1.2.2.2.2.2.2.2.1,x.1.2.1.2.2.2.2.2.2.2.2.1,x.1.2.1.2.2.2.2.2.2.2.2.2.1,x.1.2.1.2.2.2.2.2.2.2.2.2.2.1,x.1.2.1.2.2.2.2.2.2.2.2.2.2.2.1,x.1.2.1.2.2.2.2.2.2.2.2.2.2.2.2.1] (toNat a) (0,0);let d:=getD [x.1.2.1.1,x.1.2.1.2.1,x.1.2.1.2.2.1,x.1.2.1.2.2.2.1,x.1.2.1.2.2.2.2.1,x.1.2.1.2.2.2.2.2.1,x.1.2.1.2.2.2.2.2.2.1,x.1.2.1.2.2.2.2.2.2.2.1,x.1.2.1.2.2.2.2.2.2.2.2.1,x.1.2.1.2.2.2.2.2.2.2.2.2.1,x.1.2.1.2.2.2.2.2.2.2.2.2.2.1,x.1.2.1.2.2.2.2.2.2.2.2.2.2.2.1,x.1.2.1.2.2.2.2.2.2.2.2.2.2.2.2.1] (toNat g) (0,0);let e:=a0a .quo .f32 (nearest .f32 (Int.tmod b 3600)) 1163984896;bif e5Z (c.1,d.1,e,()) then bif e5Z (c.2,d.2,e,()) then some (((e6a (c.1,d.1,e,())).1,(e6a (c.2,d.2,e,())).1),true,())else none else none else none else none else none else none
def g3H (x):=(f6L x).isSome
def g3I (x):=(f6L x).getD (zero g3G)
def h0I:=(270,a0b g8h g3G g3H g3I)
theorem f1T:a0d Tryz.prog h0I:=fnE (s3 d5P d9m c5K) Tryz.func270
abbrev g8i:Ty:=.cons (S30) (.cons (.cpx .f64) (.cons (.int .i64) (.nil)))
abbrev g3J:Ty:=.cons (.cpx .f32) (.cons (.bool) (.nil))
def f6M (x:Den g8i):OD g3J:=bif g3y (x.1,x.2.1,()) then bif g3D (x.1,x.2.2) then let a:=g3z (x.1,x.2.1,());bif decide (a.1<0) then some ((0,0),false,())else let b:=g3E (x.1,x.2.2);bif decide (b.1<0) then some ((0,0),false,())else bif decide (0<=a.1)&&decide (a.1<(length x.1.1:Int)) then bif decide (0<=b.1)&&decide (b.1<(length x.1.2.1:Int)) then let c:=getD x.1.1 (toNat a.1) (zero a1m);let d:=wrap .i64 (x.2.2.1-(getD x.1.2.1 (toNat b.1) (zero (Ty.int IntKind.i64))));bif g3H (c,d,()) then some (g3I (c,d,()))else none else none else none else none else none
def f6N (x):=(f6M x).isSome
def d3F (x):=(f6M x).getD (zero g3J)
def g8j:=(248,a0b g8i g3J f6N d3F)
theorem f1U:a0d Tryz.prog g8j:=fnE (s3 f1P f1S f1T) Tryz.func248
abbrev g8k:Ty:=.cons (.int .i64) (.cons (.flt .f32) (.cons (.cpx .f32) (.nil)))
abbrev g3K:Ty:=.cons (.cpx .f32) (.cons (.bool) (.nil))
def f6O (x:Den g8k):OD g3K:=bif e6e (x.1,x.2.1,()) then let a:=e1S (x.1,x.2.1,());bif !a.2.1 then some ((0,0),false,())else bif K52 x.2.2 then bif !(G52 x.2.2).1 then some ((0,0),false,())else some ((a0a .add .f32 a.1.1 x.2.2.1.1,a0a .add .f32 a.1.2 x.2.2.1.2),true,())else none else none
def f6P (x):=(f6O x).isSome
def e2Z (x):=(f6O x).getD (zero g3K)
def g8l:=(249,a0b g8k g3K f6P e2Z)
theorem f1V:a0d Tryz.prog g8l:=fnE (s2 d6I b1T) Tryz.func249
abbrev g8m:Ty:=.cons (.cpx .f64) (.cons (.cpx .f32) (.cons (.int .i64) (.nil)))
abbrev g3L:Ty:=.cons (.cpx .f64) (.cons (.bool) (.nil))
def f6Q (x:Den g8m):OD g3L:=bif K96 (x.1,()) then bif !(G96 (x.1,())).1 then some ((0,0),false,())else bif K52 (x.2.1,()) then bif !(G52 (x.2.1,())).1 then some ((0,0),false,())else bif K51 (x.2.2.1,0,100000,()) then bif !(G51 (x.2.2.1,0,100000,())).1 then some ((0,0),false,())else let c:=nearest .f64 x.2.2.1;let a:=a0a .add .f64 x.1.1 (a0a .mul .f64 (a0u .f32 .f64 x.2.1.1).2 c);let b:=a0a .add .f64 x.1.2 (a0a .mul .f64 (a0u .f32 .f64 x.2.1.2).2 c);bif K96 ((a,b),()) then bif !(G96 ((a,b),())).1 then some ((0,0),false,())else some ((a,b),true,())else none else none else none else none
def f6R (x):=(f6Q x).isSome
def f1W (x):=(f6Q x).getD (zero g3L)
def g8n:=(250,a0b g8m g3L f6R f1W)
theorem f1X:a0d Tryz.prog g8n:=fnE (s3 b6e b1T a4u) Tryz.func250
abbrev g8o:Ty:=.cons (a2z) (.nil)
abbrev g3M:Ty:=.cons (.bool) (.nil)
def f6S (x:Den g8o):OD g3M:=bif fgt .f32 x.1.2.1 0||feq .f32 x.1.2.1 0 then bif flt .f32 x.1.2.1 1112014848||feq .f32 x.1.2.1 1112014848 then bif K51 (x.1.2.2.1,0,100000,()) then some (G51 (x.1.2.2.1,0,100000,()))else none else some (false,())else some (false,())
def f6T (x):=(f6S x).isSome
def f6U (x):=(f6S x).getD (zero g3M)
def g8p:=(267,a0b g8o g3M f6T f6U)
theorem f1Y:a0d Tryz.prog g8p:=fnE (s1 a4u) Tryz.func267
abbrev g8q:Ty:=.cons (.slice (a2z)) (.nil)
abbrev g3N:Ty:=.cons (.bool) (.nil)
abbrev c0o:Type:=(c4F×ty6)×Unit
abbrev d9r:Type:=(c4F×Unit)×Unit
abbrev d9s:Type:=a5I
def d9t:LR:=⟨[0,3],[],0,[0],[],⟨[(0,om8),(3,om0)],[],0,0⟩,⟨[(0,om8)],[],0,0⟩,⟨a8Y,[],0,0⟩⟩
def b4E (f:c0o->Option (d9r⊕d9s)) (v:c0o):Option (d9r⊕d9s):=let a:=v.1.2.1<(length v.1.1:Int);bif decide a then bif decide (0<=v.1.2.1)&&decide a then let b:=getD v.1.1 (toNat v.1.2.1) (zero a2z);bif f6T (b,()) then bif !(f6U (b,())).1 then some (Sum.inr ((false,()),()))else f (((v.1.1,wrap .i64 (v.1.2.1+1),()),()))else none else none else some (Sum.inl ((v.1.1,()),()))
def c8n (v:c0o):Nat:=v.1.1.length+v.1.2.1.natAbs+1000
def a9l (v:c0o):=a0C b4E (c8n v) v
def b6G (v):=(a9l v).isSome
def b6H (v):=isR (a9l v)
def b6I (v):=xOf default (a9l v)
def b6J (v):=yOf default (a9l v)
def f6V (x:Den g8q):OD g3N:=bif b6G ((x.1,0,()),()) then bif b6H ((x.1,0,()),()) then some (b6J ((x.1,0,()),())).1 else some (decide ((↑(length (b6I ((x.1,0,()),())).1.1):Int)<=50),())else none
def f6W (x):=(f6V x).isSome
def f6X (x):=(f6V x).getD (zero g3N)
def g8r:=(247,a0b g8q g3N f6W f6X)
noncomputable def g3O:=gE [g8p] Tryz.f247 (lps:=[(2,lmR d9t a9l)])
theorem d3G:EvR g3O (lp Tryz.f247 0) d9t b4E:=fun _ _=>by kernel_rfl
theorem f1Z:a0d Tryz.prog g8r:=a0w (a0z (s1 f1Y)) (a1n Tryz.func247 rfl rfl rfl (by kernel_rfl) (a0f (by kernel_rfl) (s1 (lR d3G c8n)))) fun _=>by kernel_rfl
abbrev g8s:Ty:=.cons (.cpx .f64) (.cons (.int .i64) (.cons (.slice (a2z)) (.cons (S30) (.nil))))
abbrev g3P:Ty:=.cons (.cpx .f64) (.cons (.bool) (.nil))
abbrev c0p:Type:=(a4L×Int×c4F×d5A)×b3A
abbrev d9u:Type:=(a4L×Int×c4F×b1Q)×b3A
abbrev d9v:Type:=f4A
def d9w:LR:=⟨[0,1,2,7,10,11],[],2,[0,1,2,7,10],[],⟨[(0,om6),(1,om0),(2,om8),(7,om1),(10,om0),(11,om0)],c2e,1,0⟩,⟨[(0,om6),(1,om0),(2,om8),(7,om1),(10,om0)],c2e,1,0⟩,⟨[(8,om6),(9,om2)],[],0,0⟩⟩
def b4F (f:c0p->Option (d9u⊕d9v)) (v:c0p):Option (d9u⊕d9v):=bif decide (v.1.2.2.2.2.2.1>0) then let e:=(v.1.2.2.2.2.2.1,0,600,());bif e6w e then bif f6N (v.2.1,v.1.1,v.1.2.1,()) then let c:=d3F (v.2.1,v.1.1,v.1.2.1,());bif !c.2.1 then some (Sum.inr (((0,0),false,()),()))else let g:=decide (0<=v.1.2.2.2.2.1)&&decide (v.1.2.2.2.2.1<(length v.1.2.2.1:Int));bif g then bif g then let a:=getD v.1.2.2.1 (toNat v.1.2.2.2.2.1) (zero a2z);bif f6P (a.1,a.2.1,c.1,()) then let d:=e2Z (a.1,a.2.1,c.1,());bif !d.2.1 then some (Sum.inr (((0,0),false,()),()))else let b:=d0W e;bif f6R (v.1.1,d.1,b) then let h:=f1W (v.1.1,d.1,b);bif !h.2.1 then some (Sum.inr (((0,0),false,()),()))else f (((h.1,wrap .i64 (v.1.2.1+b.1),v.1.2.2.1,(),v.1.2.2.2.2.1,wrap .i64 (v.1.2.2.2.2.2.1-b.1),()),v.2))else none else none else none else none else none else none else some (Sum.inl ((v.1.1,v.1.2.1,v.1.2.2.1,(),v.1.2.2.2.2.1,()),v.2))
def c0q (v:c0p):Nat:=v.1.2.1.natAbs+v.1.2.2.1.length+v.1.2.2.2.2.1.natAbs+v.1.2.2.2.2.2.1.natAbs+v.2.1.1.length+v.2.1.2.1.length+1000
def b0Q (v:c0p):=a0C b4F (c0q v) v
def b6K (v):=(b0Q v).isSome
def b6L (v):=isR (b0Q v)
def a5a (v):=xOf default (b0Q v)
def b6M (v):=yOf default (b0Q v)
abbrev c0r:Type:=(a4L×Int×c4F×b1Q)×b3A
abbrev c8o:Type:=f4B
abbrev c8p:Type:=f4A
def d9x:LR:=⟨[0,1,2,7,10],[],0,[0],[],⟨[(0,om6),(1,om0),(2,om8),(7,om1),(10,om0)],c2e,1,0⟩,⟨[(0,om6)],[],0,0⟩,⟨[(8,om6),(9,om2)],[],0,0⟩⟩
def c8q (f:c0r->Option (c8o⊕c8p)) (v:c0r):Option (c8o⊕c8p):=let c:=v.1.2.2.2.2.1<(length v.1.2.2.1:Int);bif decide c then bif decide (0<=v.1.2.2.2.2.1)&&decide c then let d:=getD v.1.2.2.1 (toNat v.1.2.2.2.2.1) (zero a2z);let b:=((v.1.1,v.1.2.1,v.1.2.2.1,(),v.1.2.2.2.2.1,d.2.2),v.2);bif b6K b then bif b6L b then some (Sum.inr (b6M b))else let a:=a5a b;f (((a.1.1,a.1.2.1,a.1.2.2.1,(),wrap .i64 (a.1.2.2.2.2.1+1),()),a.2))else none else none else some (Sum.inl ((v.1.1,()),()))
def b4G (v:c0r):Nat:=v.1.2.1.natAbs+v.1.2.2.1.length+v.1.2.2.2.2.1.natAbs+v.2.1.1.length+v.2.1.2.1.length+1000
def a9m (v:c0r):=a0C c8q (b4G v) v
def b6N (v):=(a9m v).isSome
def b6O (v):=isR (a9m v)
def b6P (v):=xOf default (a9m v)
def b6Q (v):=yOf default (a9m v)
def f2a (x:Den g8s):OD g3P:=bif K96 (x.1,()) then bif !(G96 (x.1,())).1 then some ((0,0),false,())else bif f6W (x.2.2.1,()) then bif !(f6X (x.2.2.1,())).1 then some ((0,0),false,())else let a:=((x.1,x.2.1,x.2.2.1,(),0,()),x.2.2.2);bif b6N a then bif b6O a then some (b6Q a).1 else some ((b6P a).1.1,true,())else none else none else none
def f2b (x):=(f2a x).isSome
def d3H (x):=(f2a x).getD (zero g3P)
def h0J:=(209,a0b g8s g3P f2b d3H)
noncomputable def f2c:=gE [m96,g8r,g8c,g8j,g8l,g8n] Tryz.f209 (lps:=[(4,lmR d9x a9m),(7,lmR d9w b0Q)])
theorem d3I:EvR f2c (lp Tryz.f209 0) d9x c8q:=fun _ _=>by kernel_rfl
theorem d3J:EvR f2c (lp Tryz.f209 1) d9w b4F:=fun _ _=>by kernel_rfl
theorem f2d:a0d Tryz.prog h0J:=a0w (a0z (s6 b6e f1Z d9m f1U f1V f1X)) (a1n Tryz.func209 rfl rfl rfl (by kernel_rfl) (a0f (by kernel_rfl) (s2 (lR d3I b4G) (lR d3J c0q)))) fun _=>by kernel_rfl
abbrev g8t:Ty:=.cons (S46) (.nil)
abbrev f6Y:Ty:=.cons (S46) (.nil)
def f6Z (x:Den g8t):OD f6Y:=bif decide (x.1.2.2.2.2.2.1<0) then some (x)else bif K54 x then let a:=G54 x;bif !a.2.1 then some ((x.1.1,x.1.2.1,x.1.2.2.1,x.1.2.2.2.1,x.1.2.2.2.2.1,-1,x.1.2.2.2.2.2.2),())else let b:=(x.1.1.2.2.1,x.1.2.2.2.2.2.1,a.1,());bif f6w b then some ((x.1.1,x.1.2.1,x.1.2.2.1,x.1.2.2.2.1,x.1.2.2.2.2.1,(f6x b).1,x.1.2.2.2.2.2.2),())else none else none
def d0X (x):=(f6Z x).isSome
def d0Y (x):=(f6Z x).getD (zero f6Y)
def h0K:=(152,a0b g8t f6Y d0X d0Y)
theorem d9y:a0d Tryz.prog h0K:=fnE (s2 e1T f1D) Tryz.func152
abbrev A87:Ty:=.cons (.str) (.nil)
abbrev R87:Ty:=.cons (.slice (.str)) (.cons (.bool) (.nil))
abbrev d3K:Type:=(b3z×d5A)×d5y
abbrev f2e:Type:=a4i×d5y
abbrev f2f:Type:=(d1X×d1Y)×Unit
def f2g:LR:=⟨[0,4,5,6],[],0,[4],[],⟨[(0,om5),(4,on0),(5,om0),(6,om0)],[(0,.arr (.str))],1,0⟩,⟨[(4,on0)],[(0,.arr (.str))],1,0⟩,⟨[(2,e1q),(3,om2)],[],0,0⟩⟩
def a5Z (f:d3K->Option (f2e⊕f2f)) (v:d3K):Option (f2e⊕f2f):=bif decide (v.1.2.2.2.1<=(ByteArray.size v.1.1:Int)) then bif decide (v.1.2.2.2.1<(ByteArray.size v.1.1:Int)) then bif decide (0<=v.1.2.2.2.1)&&decide (v.1.2.2.2.1<(ByteArray.size v.1.1:Int)) then bif decide (a0o v.1.1 v.1.2.2.2.1<32) then some (Sum.inr ((replicate 0 (zero Ty.str),false,()),()))else bif decide (0<=v.1.2.2.2.1)&&decide (v.1.2.2.2.1<(ByteArray.size v.1.1:Int)) then bif decide (a0o v.1.1 v.1.2.2.2.1>126) then some (Sum.inr ((replicate 0 (zero Ty.str),false,()),()))else bif decide (v.1.2.2.2.1<(ByteArray.size v.1.1:Int)) then bif decide (0<=v.1.2.2.2.1)&&decide (v.1.2.2.2.1<(ByteArray.size v.1.1:Int)) then bif a0o v.1.1 v.1.2.2.2.1 != 32 then f (((v.1.1,(),v.1.2.2.1,wrap .i64 (v.1.2.2.2.1+1),()),v.2))else bif decide (v.1.2.2.1<v.1.2.2.2.1) then bif decide (0<=v.1.2.2.1)&&decide (v.1.2.2.1<=v.1.2.2.2.1)&&decide (v.1.2.2.2.1<=(ByteArray.size v.1.1:Int)) then let a:=set (replicate 1 (zero Ty.str)) 0 (ByteArray.extract v.1.1 (toNat v.1.2.2.1) (toNat v.1.2.2.2.1));bif a0j (length v.2.1+length a) then let b:=wrap .i64 (v.1.2.2.2.1+1);f (((v.1.1,(),b,b,()),v.2.1++a,()))else none else none else let a:=wrap .i64 (v.1.2.2.2.1+1);f (((v.1.1,(),a,a,()),v.2))else none else bif decide (v.1.2.2.1<v.1.2.2.2.1) then bif decide (0<=v.1.2.2.1)&&decide (v.1.2.2.1<=v.1.2.2.2.1)&&decide (v.1.2.2.2.1<=(ByteArray.size v.1.1:Int)) then let a:=set (replicate 1 (zero Ty.str)) 0 (ByteArray.extract v.1.1 (toNat v.1.2.2.1) (toNat v.1.2.2.2.1));bif a0j (length v.2.1+length a) then let b:=wrap .i64 (v.1.2.2.2.1+1);f (((v.1.1,(),b,b,()),v.2.1++a,()))else none else none else let a:=wrap .i64 (v.1.2.2.2.1+1);f (((v.1.1,(),a,a,()),v.2))else none else none else bif decide (v.1.2.2.2.1<(ByteArray.size v.1.1:Int)) then bif decide (0<=v.1.2.2.2.1)&&decide (v.1.2.2.2.1<(ByteArray.size v.1.1:Int)) then bif a0o v.1.1 v.1.2.2.2.1 != 32 then f (((v.1.1,(),v.1.2.2.1,wrap .i64 (v.1.2.2.2.1+1),()),v.2))else bif decide (v.1.2.2.1<v.1.2.2.2.1) then bif decide (0<=v.1.2.2.1)&&decide (v.1.2.2.1<=v.1.2.2.2.1)&&decide (v.1.2.2.2.1<=(ByteArray.size v.1.1:Int)) then let a:=set (replicate 1 (zero Ty.str)) 0 (ByteArray.extract v.1.1 (toNat v.1.2.2.1) (toNat v.1.2.2.2.1));bif a0j (length v.2.1+length a) then let b:=wrap .i64 (v.1.2.2.2.1+1);f (((v.1.1,(),b,b,()),v.2.1++a,()))else none else none else let a:=wrap .i64 (v.1.2.2.2.1+1);f (((v.1.1,(),a,a,()),v.2))else none else bif decide (v.1.2.2.1<v.1.2.2.2.1) then bif decide (0<=v.1.2.2.1)&&decide (v.1.2.2.1<=v.1.2.2.2.1)&&decide (v.1.2.2.2.1<=(ByteArray.size v.1.1:Int)) then let a:=set (replicate 1 (zero Ty.str)) 0 (ByteArray.extract v.1.1 (toNat v.1.2.2.1) (toNat v.1.2.2.2.1));bif a0j (length v.2.1+length a) then let b:=wrap .i64 (v.1.2.2.2.1+1);f (((v.1.1,(),b,b,()),v.2.1++a,()))else none else none else let a:=wrap .i64 (v.1.2.2.2.1+1);f (((v.1.1,(),a,a,()),v.2))else some (Sum.inl (((),()),v.2))
def d3L (v:d3K):Nat:=v.1.1.size+v.1.2.2.1.natAbs+v.1.2.2.2.1.natAbs+v.2.1.length+1000
def c2t (v:d3K):=a0C a5Z (d3L v) v
def d9z (v):=(c2t v).isSome
def d9A (v):=isR (c2t v)
def d9B (v):=xOf default (c2t v)
def d9C (v):=yOf default (c2t v)
def F87 (x:Den A87):OD R87:=bif decide ((ByteArray.size x.1:Int)>600) then some (replicate 0 (zero Ty.str),false,())else let a:=((x.1,(),0,0,()),replicate 0 (zero Ty.str),());bif d9z a then bif d9A a then some (d9C a).1 else let b:=d9B a;bif decide ((length b.2.1:Int)>24) then some (replicate 0 (zero Ty.str),false,())else some (b.2.1,true,())else none
def K87 (x):=(F87 x).isSome
def G87 (x):=(F87 x).getD (zero R87)
def m87:=(87,a0b A87 R87 K87 G87)
noncomputable def h0L:=gE [] Tryz.f87 (lps:=[(6,lmR f2g c2t)]) (rown:=[.frz 2])
theorem e3a:EvR h0L (lp Tryz.f87 0) f2g a5Z:=fun _ _=>by kernel_rfl
theorem g3Q:a0d Tryz.prog m87:=a0w (a0z nS) (a1n Tryz.func87 rfl rfl rfl (by kernel_rfl) (a0f (by kernel_rfl) (s1 (lR e3a d3L)))) fun _=>by kernel_rfl
abbrev g8u:Ty:=.cons (S46) (.cons (.slice (.str)) (.nil))
abbrev f7a:Ty:=.cons (S46) (.cons (.bool) (.nil))
def f7b (x:Den g8u):OD f7a:=bif e2X x.2 then let a:=a6X x.2;let d:=a0u .f64 .f32 a.1;bif d.1 then let e:=a0u .f64 .f32 a.2.1;bif e.1 then bif !a.2.2.1 then some (x.1,false,())else let b:=(d.2,e.2);let g:=K52 (b,());bif g then let h:=G52 (b,());bif !h.1 then some (x.1,false,())else bif !(feq .f32 x.1.2.2.2.2.1.1 0&&feq .f32 x.1.2.2.2.2.1.2 0) then let i:=(x.1.2.2.2.2.1,b,1056964608,());bif f6B i then let c:=d9d i;bif !c.2.1 then some (x.1,false,())else bif K52 (c.1,()) then bif !(G52 (c.1,())).1 then some (x.1,false,())else let j:=((x.1.1,x.1.2.1,x.1.2.2.1,x.1.2.2.2.1,c.1,x.1.2.2.2.2.2),());bif d0X j then some ((d0Y j).1,true,())else none else none else none else bif !a.2.2.1 then some (x.1,false,())else bif g then bif !h.1 then some (x.1,false,())else let k:=((x.1.1,x.1.2.1,x.1.2.2.1,x.1.2.2.2.1,b,x.1.2.2.2.2.2),());bif d0X k then some ((d0Y k).1,true,())else none else none else none else none else none else none
def f7c (x):=(f7b x).isSome
def f7d (x):=(f7b x).getD (zero f7a)
def h0M:=(153,a0b g8u f7a f7c f7d)
theorem f2h:a0d Tryz.prog h0M:=fnE (s4 d9l b1T f1G d9y) Tryz.func153
abbrev g8v:Ty:=.cons (S46) (.cons (.slice (.str)) (.nil))
abbrev e6x:Ty:=.cons (S46) (.cons (.bool) (.nil))
abbrev c0s:Type:=(d1X×Unit×Unit×Unit×Bool×ty6)×ty1×ty4×d0Q×Unit
abbrev c8r:Type:=ty5×ty1×ty4×Unit
abbrev c8s:Type:=(Unit×d1Y)×ty1×Unit
def d9D:LR:=⟨[1,2,4,6,7,8],[],0,[2,4],[],⟨[(1,e1q),(2,om1),(4,om3),(6,om4),(7,om2),(8,om0)],[(0,bx8),(1,bx5),(2,f7W)],3,0⟩,⟨[(2,om1),(4,om3)],[(0,bx8),(1,bx5)],2,0⟩,⟨[(4,om1),(5,om2)],[(0,bx8)],1,0⟩⟩
def b4H (f:c0s->Option (c8r⊕c8s)) (v:c0s):Option (c8r⊕c8s):=let b:=v.1.2.2.2.2.2.1<(length v.2.1.2.2.2.2.2.1:Int);bif decide b then let c:=decide (0<=v.1.2.2.2.2.2.1)&&decide b;bif c then bif decide (0<=1)&&decide (1<(length v.1.1:Int)) then let a:=getD v.2.1.2.2.2.2.2.1 (toNat v.1.2.2.2.2.2.1) (zero S68);bif a0O a.1 (getD v.1.1 (toNat 1) (zero Ty.str)) then bif v.1.2.2.2.2.1 then bif c then bif e6s (a,v.2.2.2) then bif (e6t (a,v.2.2.2)).1 then some (Sum.inr (((),true,()),(v.2.1.1,v.2.1.2.1,v.2.1.2.2.1,v.2.1.2.2.2.1,v.2.1.2.2.2.2.1,v.2.1.2.2.2.2.2.1,v.2.1.2.2.2.2.2.2.1,v.2.1.2.2.2.2.2.2.2.1,v.2.1.2.2.2.2.2.2.2.2.1,v.2.1.2.2.2.2.2.2.2.2.2.1,v.2.1.2.2.2.2.2.2.2.2.2.2.1,v.2.1.2.2.2.2.2.2.2.2.2.2.2.1,v.2.1.2.2.2.2.2.2.2.2.2.2.2.2.1,v.2.1.2.2.2.2.2.2.2.2.2.2.2.2.2.1,v.2.1.2.2.2.2.2.2.2.2.2.2.2.2.2.2.1,v.2.1.2.2.2.2.2.2.2.2.2.2.2.2.2.2.2.1,v.2.1.2.2.2.2.2.2.2.2.2.2.2.2.2.2.2.2.1,v.2.1.2.2.2.2.2.2.2.2.2.2.2.2.2.2.2.2.2.1,v.2.1.2.2.2.2.2.2.2.2.2.2.2.2.2.2.2.2.2.2.1,v.1.2.2.2.2.2.1,v.2.1.2.2.2.2.2.2.2.2.2.2.2.2.2.2.2.2.2.2.2.2),()))else f (((v.1.1,(),(),(),v.1.2.2.2.2.1,wrap .i64 (v.1.2.2.2.2.2.1+1),()),v.2.1,((),(),(),(),(),(),v.2.2.1.2.2.2.2.2.2.1,v.2.2.1.2.2.2.2.2.2.2.1,v.2.2.1.2.2.2.2.2.2.2.2.1,v.2.2.1.2.2.2.2.2.2.2.2.2.1,(),v.2.2.1.2.2.2.2.2.2.2.2.2.2.2.1,v.2.2.1.2.2.2.2.2.2.2.2.2.2.2.2.1,v.2.2.1.2.2.2.2.2.2.2.2.2.2.2.2.2.1,v.2.2.1.2.2.2.2.2.2.2.2.2.2.2.2.2.2.1,v.2.2.1.2.2.2.2.2.2.2.2.2.2.2.2.2.2.2.1,v.2.2.1.2.2.2.2.2.2.2.2.2.2.2.2.2.2.2.2.1,v.2.2.1.2.2.2.2.2.2.2.2.2.2.2.2.2.2.2.2.2.1,v.2.2.1.2.2.2.2.2.2.2.2.2.2.2.2.2.2.2.2.2.2.1,v.2.2.1.2.2.2.2.2.2.2.2.2.2.2.2.2.2.2.2.2.2.2.1,(),(),()),v.2.2.2))else none else none else f (((v.1.1,(),(),(),v.1.2.2.2.2.1,wrap .i64 (v.1.2.2.2.2.2.1+1),()),v.2.1,((),(),(),(),(),(),v.2.2.1.2.2.2.2.2.2.1,v.2.2.1.2.2.2.2.2.2.2.1,v.2.2.1.2.2.2.2.2.2.2.2.1,v.2.2.1.2.2.2.2.2.2.2.2.2.1,(),v.2.2.1.2.2.2.2.2.2.2.2.2.2.2.1,v.2.2.1.2.2.2.2.2.2.2.2.2.2.2.2.1,v.2.2.1.2.2.2.2.2.2.2.2.2.2.2.2.2.1,v.2.2.1.2.2.2.2.2.2.2.2.2.2.2.2.2.2.1,v.2.2.1.2.2.2.2.2.2.2.2.2.2.2.2.2.2.2.1,v.2.2.1.2.2.2.2.2.2.2.2.2.2.2.2.2.2.2.2.1,v.2.2.1.2.2.2.2.2.2.2.2.2.2.2.2.2.2.2.2.2.1,v.2.2.1.2.2.2.2.2.2.2.2.2.2.2.2.2.2.2.2.2.2.1,v.2.2.1.2.2.2.2.2.2.2.2.2.2.2.2.2.2.2.2.2.2.2.1,(),(),()),v.2.2.2))else f (((v.1.1,(),(),(),v.1.2.2.2.2.1,wrap .i64 (v.1.2.2.2.2.2.1+1),()),v.2.1,((),(),(),(),(),(),v.2.2.1.2.2.2.2.2.2.1,v.2.2.1.2.2.2.2.2.2.2.1,v.2.2.1.2.2.2.2.2.2.2.2.1,v.2.2.1.2.2.2.2.2.2.2.2.2.1,(),v.2.2.1.2.2.2.2.2.2.2.2.2.2.2.1,v.2.2.1.2.2.2.2.2.2.2.2.2.2.2.2.1,v.2.2.1.2.2.2.2.2.2.2.2.2.2.2.2.2.1,v.2.2.1.2.2.2.2.2.2.2.2.2.2.2.2.2.2.1,v.2.2.1.2.2.2.2.2.2.2.2.2.2.2.2.2.2.2.1,v.2.2.1.2.2.2.2.2.2.2.2.2.2.2.2.2.2.2.2.1,v.2.2.1.2.2.2.2.2.2.2.2.2.2.2.2.2.2.2.2.2.1,v.2.2.1.2.2.2.2.2.2.2.2.2.2.2.2.2.2.2.2.2.2.1,v.2.2.1.2.2.2.2.2.2.2.2.2.2.2.2.2.2.2.2.2.2.2.1,(),(),()),v.2.2.2))else none else none else some (Sum.inl (((),(),()),v.2.1,((),(),(),(),(),(),v.2.2.1.2.2.2.2.2.2.1,v.2.2.1.2.2.2.2.2.2.2.1,v.2.2.1.2.2.2.2.2.2.2.2.1,v.2.2.1.2.2.2.2.2.2.2.2.2.1,(),v.2.2.1.2.2.2.2.2.2.2.2.2.2.2.1,v.2.2.1.2.2.2.2.2.2.2.2.2.2.2.2.1,v.2.2.1.2.2.2.2.2.2.2.2.2.2.2.2.2.1,v.2.2.1.2.2.2.2.2.2.2.2.2.2.2.2.2.2.1,v.2.2.1.2.2.2.2.2.2.2.2.2.2.2.2.2.2.2.1,v.2.2.1.2.2.2.2.2.2.2.2.2.2.2.2.2.2.2.2.1,v.2.2.1.2.2.2.2.2.2.2.2.2.2.2.2.2.2.2.2.2.1,v.2.2.1.2.2.2.2.2.2.2.2.2.2.2.2.2.2.2.2.2.2.1,v.2.2.1.2.2.2.2.2.2.2.2.2.2.2.2.2.2.2.2.2.2.2.1,(),(),()),()))
def c0t (v:c0s):Nat:=v.1.1.length+v.1.2.2.2.2.2.1.natAbs+v.2.1.1.length+v.2.1.2.1.length+v.2.1.2.2.1.length+v.2.1.2.2.2.1.length+v.2.1.2.2.2.2.1.length+v.2.1.2.2.2.2.2.1.length+v.2.1.2.2.2.2.2.2.1.natAbs+v.2.1.2.2.2.2.2.2.2.1.natAbs+v.2.1.2.2.2.2.2.2.2.2.1.natAbs+v.2.1.2.2.2.2.2.2.2.2.2.1.natAbs+v.2.1.2.2.2.2.2.2.2.2.2.2.1.length+v.2.1.2.2.2.2.2.2.2.2.2.2.2.1.natAbs+v.2.1.2.2.2.2.2.2.2.2.2.2.2.2.1.natAbs+v.2.1.2.2.2.2.2.2.2.2.2.2.2.2.2.1.natAbs+v.2.1.2.2.2.2.2.2.2.2.2.2.2.2.2.2.1.natAbs+v.2.1.2.2.2.2.2.2.2.2.2.2.2.2.2.2.2.1.natAbs+v.2.1.2.2.2.2.2.2.2.2.2.2.2.2.2.2.2.2.2.1.natAbs+v.2.1.2.2.2.2.2.2.2.2.2.2.2.2.2.2.2.2.2.2.2.1.natAbs+v.2.1.2.2.2.2.2.2.2.2.2.2.2.2.2.2.2.2.2.2.2.2.1.length+v.2.1.2.2.2.2.2.2.2.2.2.2.2.2.2.2.2.2.2.2.2.2.2.1.length+v.2.2.1.2.2.2.2.2.2.1.natAbs+v.2.2.1.2.2.2.2.2.2.2.1.natAbs+v.2.2.1.2.2.2.2.2.2.2.2.1.natAbs+v.2.2.1.2.2.2.2.2.2.2.2.2.1.natAbs+v.2.2.1.2.2.2.2.2.2.2.2.2.2.2.1.natAbs+v.2.2.1.2.2.2.2.2.2.2.2.2.2.2.2.1.natAbs+v.2.2.1.2.2.2.2.2.2.2.2.2.2.2.2.2.1.natAbs+v.2.2.1.2.2.2.2.2.2.2.2.2.2.2.2.2.2.1.natAbs+v.2.2.1.2.2.2.2.2.2.2.2.2.2.2.2.2.2.2.1.natAbs+v.2.2.1.2.2.2.2.2.2.2.2.2.2.2.2.2.2.2.2.2.1.natAbs+v.2.2.1.2.2.2.2.2.2.2.2.2.2.2.2.2.2.2.2.2.2.2.1.natAbs+v.2.2.2.1.2.1.natAbs+1000
def b0R (v:c0s):=a0C b4H (c0t v) v
def b6R (v):=(b0R v).isSome
def b6S (v):=isR (b0R v)
def b6T (v):=xOf (((),((),())),(([],([],([],([],([],([],(0,(0,(0,(0,([],(0,(0,(0,(0,(0,((0,0),(0,((0,0),(0,([],([],())))))))))))))))))))))),(((),((),((),((),((),((),(0,(0,(0,(0,((),(0,(0,(0,(0,(0,((0,0),(0,((0,0),(0,((),((),())))))))))))))))))))))),()))) (b0R v)
def b6U (v):=yOf default (b0R v)
def f7e (x:Den g8v):OD e6x:=bif (length x.2.1:Int) != 2 then some (x.1,false,())else bif decide (0<=1)&&decide (1<(length x.2.1:Int)) then bif a0O (getD x.2.1 (toNat 1) (zero Ty.str)) { data:=#[110,111,110,101] } then some ((x.1.1,x.1.2.1,x.1.2.2.1,x.1.2.2.2.1,x.1.2.2.2.2.1,-1,x.1.2.2.2.2.2.2),true,())else bif K54 (x.1,()) then let b:=G54 (x.1,());bif b6R ((x.2.1,(),(),(),b.2.1,0,()),(x.1.1.1.1,x.1.1.1.2.1,x.1.1.1.2.2.1,x.1.1.2.1.1,x.1.1.2.1.2.1,x.1.1.2.2.1,x.1.1.2.2.2.1.1.1.1,x.1.1.2.2.2.1.1.1.2.1,x.1.1.2.2.2.1.1.2.1.1,x.1.1.2.2.2.1.1.2.1.2.1,x.1.1.2.2.2.1.2.1,x.1.1.2.2.2.1.2.2.1.1.1,x.1.1.2.2.2.1.2.2.1.1.2.1,x.1.1.2.2.2.1.2.2.1.2.1.1,x.1.1.2.2.2.1.2.2.1.2.1.2.1,x.1.2),((),(),(),(),(),(),0,0,0,0,(),0,0,0,0,0,(0,0),0,(0,0),0,(),(),()),b.1,()) then bif b6S ((x.2.1,(),(),(),b.2.1,0,()),(x.1.1.1.1,x.1.1.1.2.1,x.1.1.1.2.2.1,x.1.1.2.1.1,x.1.1.2.1.2.1,x.1.1.2.2.1,x.1.1.2.2.2.1.1.1.1,x.1.1.2.2.2.1.1.1.2.1,x.1.1.2.2.2.1.1.2.1.1,x.1.1.2.2.2.1.1.2.1.2.1,x.1.1.2.2.2.1.2.1,x.1.1.2.2.2.1.2.2.1.1.1,x.1.1.2.2.2.1.2.2.1.1.2.1,x.1.1.2.2.2.1.2.2.1.2.1.1,x.1.1.2.2.2.1.2.2.1.2.1.2.1,x.1.2),((),(),(),(),(),(),0,0,0,0,(),0,0,0,0,0,(0,0),0,(0,0),0,(),(),()),b.1,()) then let a:=b6U ((x.2.1,(),(),(),b.2.1,0,()),(x.1.1.1.1,x.1.1.1.2.1,x.1.1.1.2.2.1,x.1.1.2.1.1,x.1.1.2.1.2.1,x.1.1.2.2.1,x.1.1.2.2.2.1.1.1.1,x.1.1.2.2.2.1.1.1.2.1,x.1.1.2.2.2.1.1.2.1.1,x.1.1.2.2.2.1.1.2.1.2.1,x.1.1.2.2.2.1.2.1,x.1.1.2.2.2.1.2.2.1.1.1,x.1.1.2.2.2.1.2.2.1.1.2.1,x.1.1.2.2.2.1.2.2.1.2.1.1,x.1.1.2.2.2.1.2.2.1.2.1.2.1,x.1.2),((),(),(),(),(),(),0,0,0,0,(),0,0,0,0,0,(0,0),0,(0,0),0,(),(),()),b.1,());some ((((a.2.1.1,a.2.1.2.1,a.2.1.2.2.1,()),(a.2.1.2.2.2.1,a.2.1.2.2.2.2.1,()),a.2.1.2.2.2.2.2.1,(((a.2.1.2.2.2.2.2.2.1,a.2.1.2.2.2.2.2.2.2.1,()),(a.2.1.2.2.2.2.2.2.2.2.1,a.2.1.2.2.2.2.2.2.2.2.2.1,()),()),a.2.1.2.2.2.2.2.2.2.2.2.2.1,((a.2.1.2.2.2.2.2.2.2.2.2.2.2.1,a.2.1.2.2.2.2.2.2.2.2.2.2.2.2.1,()),(a.2.1.2.2.2.2.2.2.2.2.2.2.2.2.2.1,a.2.1.2.2.2.2.2.2.2.2.2.2.2.2.2.2.1,()),()),()),()),a.2.1.2.2.2.2.2.2.2.2.2.2.2.2.2.2.2),a.1.2)else let a:=b6T ((x.2.1,(),(),(),b.2.1,0,()),(x.1.1.1.1,x.1.1.1.2.1,x.1.1.1.2.2.1,x.1.1.2.1.1,x.1.1.2.1.2.1,x.1.1.2.2.1,x.1.1.2.2.2.1.1.1.1,x.1.1.2.2.2.1.1.1.2.1,x.1.1.2.2.2.1.1.2.1.1,x.1.1.2.2.2.1.1.2.1.2.1,x.1.1.2.2.2.1.2.1,x.1.1.2.2.2.1.2.2.1.1.1,x.1.1.2.2.2.1.2.2.1.1.2.1,x.1.1.2.2.2.1.2.2.1.2.1.1,x.1.1.2.2.2.1.2.2.1.2.1.2.1,x.1.2),((),(),(),(),(),(),0,0,0,0,(),0,0,0,0,0,(0,0),0,(0,0),0,(),(),()),b.1,());some ((((a.2.1.1,a.2.1.2.1,a.2.1.2.2.1,()),(a.2.1.2.2.2.1,a.2.1.2.2.2.2.1,()),a.2.1.2.2.2.2.2.1,(((a.2.1.2.2.2.2.2.2.1,a.2.1.2.2.2.2.2.2.2.1,()),(a.2.1.2.2.2.2.2.2.2.2.1,a.2.1.2.2.2.2.2.2.2.2.2.1,()),()),a.2.1.2.2.2.2.2.2.2.2.2.2.1,((a.2.1.2.2.2.2.2.2.2.2.2.2.2.1,a.2.1.2.2.2.2.2.2.2.2.2.2.2.2.1,()),(a.2.1.2.2.2.2.2.2.2.2.2.2.2.2.2.1,a.2.1.2.2.2.2.2.2.2.2.2.2.2.2.2.2.1,()),()),()),()),a.2.1.2.2.2.2.2.2.2.2.2.2.2.2.2.2.2),false,())else none else none else none
def f7f (x):=(f7e x).isSome
def f7g (x):=(f7e x).getD (zero e6x)
def h0N:=(154,a0b g8v e6x f7f f7g)
noncomputable def g3R:=gE [m54,g3g] Tryz.f154 (lps:=[(8,lmR d9D b0R)])
theorem d3M:EvR g3R (lp Tryz.f154 0) d9D b4H:=fun _ _=>by kernel_rfl
theorem f2j:a0d Tryz.prog h0N:=a0w (a0z (s2 e1T d8Z)) (a1n Tryz.func154 rfl rfl rfl (by kernel_rfl) (a0f (by kernel_rfl) (s1 (lR d3M c0t)))) fun _=>by kernel_rfl
abbrev g8w:Ty:=.cons (S46) (.cons (.int .i64) (.nil))
abbrev f7h:Ty:=.cons (S46) (.cons (.bool) (.nil))
def f7i (x:Den g8w):OD f7h:=bif K51 (x.2.1,1,3600,()) then bif !(G51 (x.2.1,1,3600,())).1 then some (x.1,false,())else let c:=wrap .i64 (x.1.2.1+x.2.1);bif decide (c>10000000) then some (x.1,false,())else bif decide ((length x.1.2.2.2.2.2.2.1:Int) ≥ 200) then some (x.1,false,())else bif decide (x.1.2.2.2.2.2.1 ≥ 0) then bif e6d (x.1,()) then let b:=set (replicate 1 (zero a2z)) 0 (x.1.2.2.2.1,(d6E (x.1,())).1,x.2);let h:=(x.1.2.2.1,x.1.2.1,b,x.1.1.2.1,());bif f2b h then let a:=d3H h;bif K49 (a.1,()) then bif !a.2.1 then some (x.1,false,())else let d:=G49 (a.1,());bif !d.2.1 then some (x.1,false,())else bif a0j (length (replicate 0 (zero S97))+length x.1.2.2.2.2.2.2.1) then let e:=replicate 0 (zero S97)++x.1.2.2.2.2.2.2.1;let g:=set (replicate 1 (zero S97)) 0 (d.1,c,());bif a0j (length e+length g) then some ((x.1.1,c,a.1,x.1.2.2.2.1,x.1.2.2.2.2.1,x.1.2.2.2.2.2.1,e++g,x.1.2.2.2.2.2.2.2),true,())else none else none else none else none else none else let k:=set (replicate 1 (zero a2z)) 0 (x.1.2.2.2.1,0,x.2);let i:=(x.1.2.2.1,x.1.2.1,k,x.1.1.2.1,());bif f2b i then let b:=d3H i;bif K49 (b.1,()) then bif !b.2.1 then some (x.1,false,())else let a:=G49 (b.1,());bif !a.2.1 then some (x.1,false,())else bif a0j (length (replicate 0 (zero S97))+length x.1.2.2.2.2.2.2.1) then let j:=replicate 0 (zero S97)++x.1.2.2.2.2.2.2.1;let d:=set (replicate 1 (zero S97)) 0 (a.1,c,());bif a0j (length j+length d) then some ((x.1.1,c,b.1,x.1.2.2.2.1,x.1.2.2.2.2.1,x.1.2.2.2.2.2.1,j++d,x.1.2.2.2.2.2.2.2),true,())else none else none else none else none else none
def f7j (x):=(f7i x).isSome
def f7k (x):=(f7i x).getD (zero f7h)
def h0O:=(156,a0b g8w f7h f7j f7k)
theorem f2k:a0d Tryz.prog h0O:=fnE (s4 a4u d6F f2d d2e) Tryz.func156 (rown:=[.frzBox 4])
abbrev I37:Sg:=⟨[.val (S46)],[]⟩
abbrev O37:Sg:=⟨[.mix [.ref (.flt .f32) 0,.ref (.int .i64) 1,.ref (.slice (.flt .f32)) 2,.ref (a1m) 3,.ref (.int .i64) 4,.ref (S68) 5,.int .i64,.int .i64,.int .i64,.int .i64,.ref (a2n) 6,.int .i64,.int .i64,.int .i64,.int .i64,.int .i64,.cpx .f64,.int .i64,.cpx .f32,.int .i64,.ref (S97) 7,.ref (.str) 8]],[.arr (.flt .f32),.arr (.int .i64),.arr (.slice (.flt .f32)),.arr (a1m),.arr (.int .i64),.arr (S68),.arr (a2n),.arr (S97),.arr (.str)]⟩
def F37 (x:I37.den):Option (O37.den):=bif K80 ((x.1.1.1,()),()) then bif a0j (length (replicate 0 (zero S97))+length x.1.1.2.2.2.2.2.2.1) then bif a0j (length (replicate 0 (zero Ty.str))+length x.1.1.2.2.2.2.2.2.2.1) then let a:=G80 ((x.1.1.1,()),());some ((((),(),(),(),(),(),a.1.1.2.2.2.2.2.2.1,a.1.1.2.2.2.2.2.2.2.1,a.1.1.2.2.2.2.2.2.2.2.1,a.1.1.2.2.2.2.2.2.2.2.2.1,(),a.1.1.2.2.2.2.2.2.2.2.2.2.2.1,a.1.1.2.2.2.2.2.2.2.2.2.2.2.2.1,a.1.1.2.2.2.2.2.2.2.2.2.2.2.2.2.1,a.1.1.2.2.2.2.2.2.2.2.2.2.2.2.2.2.1,x.1.1.2.1,x.1.1.2.2.1,x.1.1.2.2.2.1,x.1.1.2.2.2.2.1,x.1.1.2.2.2.2.2.1,(),(),()),()),a.2.1,a.2.2.1,a.2.2.2.1,a.2.2.2.2.1,a.2.2.2.2.2.1,a.2.2.2.2.2.2.1,a.2.2.2.2.2.2.2.1,replicate 0 (zero S97)++x.1.1.2.2.2.2.2.2.1,replicate 0 (zero Ty.str)++x.1.1.2.2.2.2.2.2.2.1,())else none else none else none
def K37 (x):=(F37 x).isSome
def G37 (x):=(F37 x).getD (a0R O37)
def m37:=(37,a0y false I37 O37 K37 G37)
theorem f2l:a0d Tryz.prog m37:=sgE false (s1 e8c) Tryz.func37
abbrev A88:Ty:=.cons (S46) (.cons (.slice (.str)) (.nil))
abbrev R88:Ty:=.cons (S46) (.cons (.bool) (.nil))
def F88 (x:Den A88):OD R88:=bif decide (0<=0)&&decide (0<(length x.2.1:Int)) then let b:=getD x.2.1 (toNat 0) (zero Ty.str);bif a0O b { data:=#[115,116,101,101,114] } then bif e6v x.2 then let a:=d0V x.2;bif K51 (a.1,0,359,()) then bif !(G51 (a.1,0,359,())).1 then some (x.1,false,())else let c:=((x.1.1,x.1.2.1,x.1.2.2.1,a.1,x.1.2.2.2.2),());bif d0X c then some ((d0Y c).1,true,())else none else none else none else bif a0O b { data:=#[119,105,110,100] } then bif f7c x then some (f7d x)else none else bif a0O b { data:=#[115,97,105,108] } then bif f7f x then some (f7g x)else none else bif a0O b { data:=#[102,105,120] } then bif e2X x.2 then let a:=a6X x.2;bif K49 ((a.1,a.2.1),()) then bif !a.2.2.1 then some (x.1,false,())else bif !(G49 ((a.1,a.2.1),())).2.1 then some (x.1,false,())else some ((x.1.1,x.1.2.1,(a.1,a.2.1),x.1.2.2.2),true,())else none else none else bif a0O b { data:=#[103,111] } then bif e6v x.2 then let a:=d0V x.2;bif f7j (x.1,a) then some (f7k (x.1,a))else none else none else some (x.1,false,())else none
def K88 (x):=(F88 x).isSome
def G88 (x):=(F88 x).getD (zero R88)
def m88:=(88,a0b A88 R88 K88 G88)
theorem g3S:a0d Tryz.prog m88:=fnE (s7c f1N a4u d9y f2h f2j d9l d2e (s1 f2k)) Tryz.func88
abbrev I38:Sg:=⟨[.val (S46),.val (.str)],[]⟩
abbrev O38:Sg:=⟨[.mix [.sl (.flt .f32),.sl (.int .i64),.sl (.slice (.flt .f32)),.sl (a1m),.sl (.int .i64),.sl (S68),.int .i64,.int .i64,.int .i64,.int .i64,.sl (a2n),.int .i64,.int .i64,.int .i64,.int .i64,.int .i64,.cpx .f64,.int .i64,.cpx .f32,.int .i64,.sl (S97),.ref (.str) 0],.val (.bool)],[.arr (.str)]⟩
abbrev d3N:Type:=(Unit×Unit×d1X×Unit×b3z×ty6)×ty1×ty4×ty1×Unit
abbrev e3b:Type:=(Unit×Unit×Unit×d5B)×ty1×ty4×ty1×Unit
def f2m:LX:=⟨[2,4,6,8,10,11],[],0,[2,4,8,10],[],⟨[(2,om1),(4,om3),(6,e1q),(8,om4),(10,om5),(11,om0)],[(0,bx8),(1,bx5),(2,bx8)],3,0⟩,⟨[(2,om1),(4,om3),(8,om4),(10,om5)],[(0,bx8),(1,bx5),(2,bx8)],3,0⟩⟩
def c8t (f:d3N->Option (e3b)) (v:d3N):Option (e3b):=let a:=v.1.2.2.2.2.2.1<(length v.1.2.2.1:Int);bif decide a then bif decide (ByteArray.size v.1.2.2.2.2.1+ByteArray.size { data:=#[32] }<=9223372036854775807) then bif decide (0<=v.1.2.2.2.2.2.1)&&decide a then let b:=v.1.2.2.2.2.1++{ data:=#[32] };let c:=getD v.1.2.2.1 (toNat v.1.2.2.2.2.2.1) (zero Ty.str);bif decide (ByteArray.size b+ByteArray.size c<=9223372036854775807) then f ((((),(),v.1.2.2.1,(),b++c,wrap .i64 (v.1.2.2.2.2.2.1+1),()),v.2.1,((),(),(),(),(),(),v.2.2.1.2.2.2.2.2.2.1,v.2.2.1.2.2.2.2.2.2.2.1,v.2.2.1.2.2.2.2.2.2.2.2.1,v.2.2.1.2.2.2.2.2.2.2.2.2.1,(),v.2.2.1.2.2.2.2.2.2.2.2.2.2.2.1,v.2.2.1.2.2.2.2.2.2.2.2.2.2.2.2.1,v.2.2.1.2.2.2.2.2.2.2.2.2.2.2.2.2.1,v.2.2.1.2.2.2.2.2.2.2.2.2.2.2.2.2.2.1,v.2.2.1.2.2.2.2.2.2.2.2.2.2.2.2.2.2.2.1,v.2.2.1.2.2.2.2.2.2.2.2.2.2.2.2.2.2.2.2.1,v.2.2.1.2.2.2.2.2.2.2.2.2.2.2.2.2.2.2.2.2.1,v.2.2.1.2.2.2.2.2.2.2.2.2.2.2.2.2.2.2.2.2.2.1,v.2.2.1.2.2.2.2.2.2.2.2.2.2.2.2.2.2.2.2.2.2.2.1,(),(),()),v.2.2.2))else none else none else none else some (((),(),(),v.1.2.2.2.2.1,()),v.2.1,((),(),(),(),(),(),v.2.2.1.2.2.2.2.2.2.1,v.2.2.1.2.2.2.2.2.2.2.1,v.2.2.1.2.2.2.2.2.2.2.2.1,v.2.2.1.2.2.2.2.2.2.2.2.2.1,(),v.2.2.1.2.2.2.2.2.2.2.2.2.2.2.1,v.2.2.1.2.2.2.2.2.2.2.2.2.2.2.2.1,v.2.2.1.2.2.2.2.2.2.2.2.2.2.2.2.2.1,v.2.2.1.2.2.2.2.2.2.2.2.2.2.2.2.2.2.1,v.2.2.1.2.2.2.2.2.2.2.2.2.2.2.2.2.2.2.1,v.2.2.1.2.2.2.2.2.2.2.2.2.2.2.2.2.2.2.2.1,v.2.2.1.2.2.2.2.2.2.2.2.2.2.2.2.2.2.2.2.2.1,v.2.2.1.2.2.2.2.2.2.2.2.2.2.2.2.2.2.2.2.2.2.1,v.2.2.1.2.2.2.2.2.2.2.2.2.2.2.2.2.2.2.2.2.2.2.1,(),(),()),v.2.2.2)
def d3O (v:d3N):Nat:=v.1.2.2.1.length+v.1.2.2.2.2.1.size+v.1.2.2.2.2.2.1.natAbs+v.2.1.1.length+v.2.1.2.1.length+v.2.1.2.2.1.length+v.2.1.2.2.2.1.length+v.2.1.2.2.2.2.1.length+v.2.1.2.2.2.2.2.1.length+v.2.1.2.2.2.2.2.2.1.natAbs+v.2.1.2.2.2.2.2.2.2.1.natAbs+v.2.1.2.2.2.2.2.2.2.2.1.natAbs+v.2.1.2.2.2.2.2.2.2.2.2.1.natAbs+v.2.1.2.2.2.2.2.2.2.2.2.2.1.length+v.2.1.2.2.2.2.2.2.2.2.2.2.2.1.natAbs+v.2.1.2.2.2.2.2.2.2.2.2.2.2.2.1.natAbs+v.2.1.2.2.2.2.2.2.2.2.2.2.2.2.2.1.natAbs+v.2.1.2.2.2.2.2.2.2.2.2.2.2.2.2.2.1.natAbs+v.2.1.2.2.2.2.2.2.2.2.2.2.2.2.2.2.2.1.natAbs+v.2.1.2.2.2.2.2.2.2.2.2.2.2.2.2.2.2.2.2.1.natAbs+v.2.1.2.2.2.2.2.2.2.2.2.2.2.2.2.2.2.2.2.2.2.1.natAbs+v.2.1.2.2.2.2.2.2.2.2.2.2.2.2.2.2.2.2.2.2.2.2.1.length+v.2.1.2.2.2.2.2.2.2.2.2.2.2.2.2.2.2.2.2.2.2.2.2.1.length+v.2.2.1.2.2.2.2.2.2.1.natAbs+v.2.2.1.2.2.2.2.2.2.2.1.natAbs+v.2.2.1.2.2.2.2.2.2.2.2.1.natAbs+v.2.2.1.2.2.2.2.2.2.2.2.2.1.natAbs+v.2.2.1.2.2.2.2.2.2.2.2.2.2.2.1.natAbs+v.2.2.1.2.2.2.2.2.2.2.2.2.2.2.2.1.natAbs+v.2.2.1.2.2.2.2.2.2.2.2.2.2.2.2.2.1.natAbs+v.2.2.1.2.2.2.2.2.2.2.2.2.2.2.2.2.2.1.natAbs+v.2.2.1.2.2.2.2.2.2.2.2.2.2.2.2.2.2.2.1.natAbs+v.2.2.1.2.2.2.2.2.2.2.2.2.2.2.2.2.2.2.2.2.1.natAbs+v.2.2.1.2.2.2.2.2.2.2.2.2.2.2.2.2.2.2.2.2.2.2.1.natAbs+v.2.2.2.1.1.length+v.2.2.2.1.2.1.length+v.2.2.2.1.2.2.1.length+v.2.2.2.1.2.2.2.1.length+v.2.2.2.1.2.2.2.2.1.length+v.2.2.2.1.2.2.2.2.2.1.length+v.2.2.2.1.2.2.2.2.2.2.1.natAbs+v.2.2.2.1.2.2.2.2.2.2.2.1.natAbs+v.2.2.2.1.2.2.2.2.2.2.2.2.1.natAbs+v.2.2.2.1.2.2.2.2.2.2.2.2.2.1.natAbs+v.2.2.2.1.2.2.2.2.2.2.2.2.2.2.1.length+v.2.2.2.1.2.2.2.2.2.2.2.2.2.2.2.1.natAbs+v.2.2.2.1.2.2.2.2.2.2.2.2.2.2.2.2.1.natAbs+v.2.2.2.1.2.2.2.2.2.2.2.2.2.2.2.2.2.1.natAbs+v.2.2.2.1.2.2.2.2.2.2.2.2.2.2.2.2.2.2.1.natAbs+v.2.2.2.1.2.2.2.2.2.2.2.2.2.2.2.2.2.2.2.1.natAbs+v.2.2.2.1.2.2.2.2.2.2.2.2.2.2.2.2.2.2.2.2.2.1.natAbs+v.2.2.2.1.2.2.2.2.2.2.2.2.2.2.2.2.2.2.2.2.2.2.2.1.natAbs+v.2.2.2.1.2.2.2.2.2.2.2.2.2.2.2.2.2.2.2.2.2.2.2.2.1.length+v.2.2.2.1.2.2.2.2.2.2.2.2.2.2.2.2.2.2.2.2.2.2.2.2.2.1.length+1000
def c8u (v:d3N):=a0C c8t (d3O v) v
def c0u (v):=(c8u v).isSome
def c0v (v):=(c8u v).getD (((),((),((),(ByteArray.empty,())))),(([],([],([],([],([],([],(0,(0,(0,(0,([],(0,(0,(0,(0,(0,((0,0),(0,((0,0),(0,([],([],())))))))))))))))))))))),(((),((),((),((),((),((),(0,(0,(0,(0,((),(0,(0,(0,(0,(0,((0,0),(0,((0,0),(0,((),((),())))))))))))))))))))))),(([],([],([],([],([],([],(0,(0,(0,(0,([],(0,(0,(0,(0,(0,((0,0),(0,((0,0),(0,([],([],())))))))))))))))))))))),()))))
def F38 (x:I38.den):Option (O38.den):=bif K87 x.1.2 then let e:=G87 x.1.2;bif !e.2.1 then bif K37 ((x.1.1,()),()) then let c:=G37 ((x.1.1,()),());some (((c.2.1,c.2.2.1,c.2.2.2.1,c.2.2.2.2.1,c.2.2.2.2.2.1,c.2.2.2.2.2.2.1,c.1.1.2.2.2.2.2.2.1,c.1.1.2.2.2.2.2.2.2.1,c.1.1.2.2.2.2.2.2.2.2.1,c.1.1.2.2.2.2.2.2.2.2.2.1,c.2.2.2.2.2.2.2.1,c.1.1.2.2.2.2.2.2.2.2.2.2.2.1,c.1.1.2.2.2.2.2.2.2.2.2.2.2.2.1,c.1.1.2.2.2.2.2.2.2.2.2.2.2.2.2.1,c.1.1.2.2.2.2.2.2.2.2.2.2.2.2.2.2.1,c.1.1.2.2.2.2.2.2.2.2.2.2.2.2.2.2.2.1,c.1.1.2.2.2.2.2.2.2.2.2.2.2.2.2.2.2.2.1,c.1.1.2.2.2.2.2.2.2.2.2.2.2.2.2.2.2.2.2.1,c.1.1.2.2.2.2.2.2.2.2.2.2.2.2.2.2.2.2.2.2.1,c.1.1.2.2.2.2.2.2.2.2.2.2.2.2.2.2.2.2.2.2.2.1,c.2.2.2.2.2.2.2.2.1,(),()),false,()),c.2.2.2.2.2.2.2.2.2)else none else bif (length e.1:Int)==0 then bif K37 ((x.1.1,()),()) then let c:=G37 ((x.1.1,()),());some (((c.2.1,c.2.2.1,c.2.2.2.1,c.2.2.2.2.1,c.2.2.2.2.2.1,c.2.2.2.2.2.2.1,c.1.1.2.2.2.2.2.2.1,c.1.1.2.2.2.2.2.2.2.1,c.1.1.2.2.2.2.2.2.2.2.1,c.1.1.2.2.2.2.2.2.2.2.2.1,c.2.2.2.2.2.2.2.1,c.1.1.2.2.2.2.2.2.2.2.2.2.2.1,c.1.1.2.2.2.2.2.2.2.2.2.2.2.2.1,c.1.1.2.2.2.2.2.2.2.2.2.2.2.2.2.1,c.1.1.2.2.2.2.2.2.2.2.2.2.2.2.2.2.1,c.1.1.2.2.2.2.2.2.2.2.2.2.2.2.2.2.2.1,c.1.1.2.2.2.2.2.2.2.2.2.2.2.2.2.2.2.2.1,c.1.1.2.2.2.2.2.2.2.2.2.2.2.2.2.2.2.2.2.1,c.1.1.2.2.2.2.2.2.2.2.2.2.2.2.2.2.2.2.2.2.1,c.1.1.2.2.2.2.2.2.2.2.2.2.2.2.2.2.2.2.2.2.2.1,c.2.2.2.2.2.2.2.2.1,(),()),false,()),c.2.2.2.2.2.2.2.2.2)else none else bif K18 (x.1.1,()) then bif !(G18 (x.1.1,())).1 then bif K37 ((x.1.1,()),()) then let a:=G37 ((x.1.1,()),());some (((a.2.1,a.2.2.1,a.2.2.2.1,a.2.2.2.2.1,a.2.2.2.2.2.1,a.2.2.2.2.2.2.1,a.1.1.2.2.2.2.2.2.1,a.1.1.2.2.2.2.2.2.2.1,a.1.1.2.2.2.2.2.2.2.2.1,a.1.1.2.2.2.2.2.2.2.2.2.1,a.2.2.2.2.2.2.2.1,a.1.1.2.2.2.2.2.2.2.2.2.2.2.1,a.1.1.2.2.2.2.2.2.2.2.2.2.2.2.1,a.1.1.2.2.2.2.2.2.2.2.2.2.2.2.2.1,a.1.1.2.2.2.2.2.2.2.2.2.2.2.2.2.2.1,a.1.1.2.2.2.2.2.2.2.2.2.2.2.2.2.2.2.1,a.1.1.2.2.2.2.2.2.2.2.2.2.2.2.2.2.2.2.1,a.1.1.2.2.2.2.2.2.2.2.2.2.2.2.2.2.2.2.2.1,a.1.1.2.2.2.2.2.2.2.2.2.2.2.2.2.2.2.2.2.2.1,a.1.1.2.2.2.2.2.2.2.2.2.2.2.2.2.2.2.2.2.2.2.1,a.2.2.2.2.2.2.2.2.1,(),()),false,()),a.2.2.2.2.2.2.2.2.2)else none else bif decide ((length x.1.1.2.2.2.2.2.2.2.1:Int) ≥ 300) then bif K37 ((x.1.1,()),()) then let a:=G37 ((x.1.1,()),());some (((a.2.1,a.2.2.1,a.2.2.2.1,a.2.2.2.2.1,a.2.2.2.2.2.1,a.2.2.2.2.2.2.1,a.1.1.2.2.2.2.2.2.1,a.1.1.2.2.2.2.2.2.2.1,a.1.1.2.2.2.2.2.2.2.2.1,a.1.1.2.2.2.2.2.2.2.2.2.1,a.2.2.2.2.2.2.2.1,a.1.1.2.2.2.2.2.2.2.2.2.2.2.1,a.1.1.2.2.2.2.2.2.2.2.2.2.2.2.1,a.1.1.2.2.2.2.2.2.2.2.2.2.2.2.2.1,a.1.1.2.2.2.2.2.2.2.2.2.2.2.2.2.2.1,a.1.1.2.2.2.2.2.2.2.2.2.2.2.2.2.2.2.1,a.1.1.2.2.2.2.2.2.2.2.2.2.2.2.2.2.2.2.1,a.1.1.2.2.2.2.2.2.2.2.2.2.2.2.2.2.2.2.2.1,a.1.1.2.2.2.2.2.2.2.2.2.2.2.2.2.2.2.2.2.2.1,a.1.1.2.2.2.2.2.2.2.2.2.2.2.2.2.2.2.2.2.2.2.1,a.2.2.2.2.2.2.2.2.1,(),()),false,()),a.2.2.2.2.2.2.2.2.2)else none else let i:=K37 ((x.1.1,()),());bif i then let a:=G37 ((x.1.1,()),());let j:=((((a.2.1,a.2.2.1,a.2.2.2.1,()),(a.2.2.2.2.1,a.2.2.2.2.2.1,()),a.2.2.2.2.2.2.1,(((a.1.1.2.2.2.2.2.2.1,a.1.1.2.2.2.2.2.2.2.1,()),(a.1.1.2.2.2.2.2.2.2.2.1,a.1.1.2.2.2.2.2.2.2.2.2.1,()),()),a.2.2.2.2.2.2.2.1,((a.1.1.2.2.2.2.2.2.2.2.2.2.2.1,a.1.1.2.2.2.2.2.2.2.2.2.2.2.2.1,()),(a.1.1.2.2.2.2.2.2.2.2.2.2.2.2.2.1,a.1.1.2.2.2.2.2.2.2.2.2.2.2.2.2.2.1,()),()),()),()),a.1.1.2.2.2.2.2.2.2.2.2.2.2.2.2.2.2.1,a.1.1.2.2.2.2.2.2.2.2.2.2.2.2.2.2.2.2.1,a.1.1.2.2.2.2.2.2.2.2.2.2.2.2.2.2.2.2.2.1,a.1.1.2.2.2.2.2.2.2.2.2.2.2.2.2.2.2.2.2.2.1,a.1.1.2.2.2.2.2.2.2.2.2.2.2.2.2.2.2.2.2.2.2.1,a.2.2.2.2.2.2.2.2),e.1,());bif K88 j then let d:=G88 j;bif !d.2.1 then bif i then some (((a.2.1,a.2.2.1,a.2.2.2.1,a.2.2.2.2.1,a.2.2.2.2.2.1,a.2.2.2.2.2.2.1,a.1.1.2.2.2.2.2.2.1,a.1.1.2.2.2.2.2.2.2.1,a.1.1.2.2.2.2.2.2.2.2.1,a.1.1.2.2.2.2.2.2.2.2.2.1,a.2.2.2.2.2.2.2.1,a.1.1.2.2.2.2.2.2.2.2.2.2.2.1,a.1.1.2.2.2.2.2.2.2.2.2.2.2.2.1,a.1.1.2.2.2.2.2.2.2.2.2.2.2.2.2.1,a.1.1.2.2.2.2.2.2.2.2.2.2.2.2.2.2.1,a.1.1.2.2.2.2.2.2.2.2.2.2.2.2.2.2.2.1,a.1.1.2.2.2.2.2.2.2.2.2.2.2.2.2.2.2.2.1,a.1.1.2.2.2.2.2.2.2.2.2.2.2.2.2.2.2.2.2.1,a.1.1.2.2.2.2.2.2.2.2.2.2.2.2.2.2.2.2.2.2.1,a.1.1.2.2.2.2.2.2.2.2.2.2.2.2.2.2.2.2.2.2.2.1,a.2.2.2.2.2.2.2.2.1,(),()),false,()),a.2.2.2.2.2.2.2.2.2)else none else bif decide (0<=0)&&decide (0<(length e.1:Int)) then let l:=getD e.1 (toNat 0) (zero Ty.str);let k:=(((),(),e.1,(),l,1,()),(x.1.1.1.1.1,x.1.1.1.1.2.1,x.1.1.1.1.2.2.1,x.1.1.1.2.1.1,x.1.1.1.2.1.2.1,x.1.1.1.2.2.1,x.1.1.1.2.2.2.1.1.1.1,x.1.1.1.2.2.2.1.1.1.2.1,x.1.1.1.2.2.2.1.1.2.1.1,x.1.1.1.2.2.2.1.1.2.1.2.1,x.1.1.1.2.2.2.1.2.1,x.1.1.1.2.2.2.1.2.2.1.1.1,x.1.1.1.2.2.2.1.2.2.1.1.2.1,x.1.1.1.2.2.2.1.2.2.1.2.1.1,x.1.1.1.2.2.2.1.2.2.1.2.1.2.1,x.1.1.2),((),(),(),(),(),(),0,0,0,0,(),0,0,0,0,0,(0,0),0,(0,0),0,(),(),()),(d.1.1.1.1,d.1.1.1.2.1,d.1.1.1.2.2.1,d.1.1.2.1.1,d.1.1.2.1.2.1,d.1.1.2.2.1,d.1.1.2.2.2.1.1.1.1,d.1.1.2.2.2.1.1.1.2.1,d.1.1.2.2.2.1.1.2.1.1,d.1.1.2.2.2.1.1.2.1.2.1,d.1.1.2.2.2.1.2.1,d.1.1.2.2.2.1.2.2.1.1.1,d.1.1.2.2.2.1.2.2.1.1.2.1,d.1.1.2.2.2.1.2.2.1.2.1.1,d.1.1.2.2.2.1.2.2.1.2.1.2.1,d.1.2),());bif c0u k then let b:=c0v k;bif a0j (length (replicate 0 (zero Ty.str))+length b.2.1.2.2.2.2.2.2.2.2.2.2.2.2.2.2.2.2.2.2.2.2.2.1) then let g:=replicate 0 (zero Ty.str)++b.2.1.2.2.2.2.2.2.2.2.2.2.2.2.2.2.2.2.2.2.2.2.2.1;let h:=set (replicate 1 (zero Ty.str)) 0 b.1.2.2.2.1;bif a0j (length g+length h) then some (((b.2.2.2.1.1,b.2.2.2.1.2.1,b.2.2.2.1.2.2.1,b.2.2.2.1.2.2.2.1,b.2.2.2.1.2.2.2.2.1,b.2.2.2.1.2.2.2.2.2.1,b.2.2.2.1.2.2.2.2.2.2.1,b.2.2.2.1.2.2.2.2.2.2.2.1,b.2.2.2.1.2.2.2.2.2.2.2.2.1,b.2.2.2.1.2.2.2.2.2.2.2.2.2.1,b.2.2.2.1.2.2.2.2.2.2.2.2.2.2.1,b.2.2.2.1.2.2.2.2.2.2.2.2.2.2.2.1,b.2.2.2.1.2.2.2.2.2.2.2.2.2.2.2.2.1,b.2.2.2.1.2.2.2.2.2.2.2.2.2.2.2.2.2.1,b.2.2.2.1.2.2.2.2.2.2.2.2.2.2.2.2.2.2.1,b.2.2.2.1.2.2.2.2.2.2.2.2.2.2.2.2.2.2.2.1,b.2.2.2.1.2.2.2.2.2.2.2.2.2.2.2.2.2.2.2.2.1,b.2.2.2.1.2.2.2.2.2.2.2.2.2.2.2.2.2.2.2.2.2.1,b.2.2.2.1.2.2.2.2.2.2.2.2.2.2.2.2.2.2.2.2.2.2.1,b.2.2.2.1.2.2.2.2.2.2.2.2.2.2.2.2.2.2.2.2.2.2.2.1,b.2.2.2.1.2.2.2.2.2.2.2.2.2.2.2.2.2.2.2.2.2.2.2.2.1,(),()),true,()),g++h,())else none else none else none else none else none else none else none else none
def K38 (x):=(F38 x).isSome
def G38 (x):=(F38 x).getD (a0R O38)
def m38:=(38,a0y false I38 O38 K38 G38)
noncomputable def h0P:=gE [m87,m18,m37,m88] Tryz.f38 (lps:=[(9,lmX f2m c8u)]) (frz:=[39]) (rown:=[.frzCell 4 0,.frzCell 4 1,.frzCell 4 2,.frzCell 4 3,.frzCell 4 4,.frzCell 4 5,.frzCell 4 10,.frzCell 4 20])
theorem e3c:EvX h0P (lp Tryz.f38 0) f2m c8t:=fun _ _=>by kernel_rfl
theorem g3T:a0d Tryz.prog m38:=a4a (a0z (s4 g3Q f9M f2l g3S)) (a1n Tryz.func38 rfl rfl rfl (by kernel_rfl) (a0f (by kernel_rfl) (s1 (lX e3c d3O)))) false fun _=>by kernel_rfl
abbrev I11:Sg:=⟨[.val (S46),.val (.slice (.str))],[]⟩
abbrev O11:Sg:=⟨[.mix [.sl (.flt .f32),.sl (.int .i64),.sl (.slice (.flt .f32)),.sl (a1m),.sl (.int .i64),.sl (S68),.int .i64,.int .i64,.int .i64,.int .i64,.sl (a2n),.int .i64,.int .i64,.int .i64,.int .i64,.int .i64,.cpx .f64,.int .i64,.cpx .f32,.int .i64,.sl (S97),.ref (.str) 0],.val (.slice (.bool))],[.arr (.str)]⟩
abbrev c2u:Type:=(d1X×d5z)×ty4×List (Den .bool)×ty7
abbrev d3P:Type:=a7l×ty4×List (Den .bool)×ty7
def f2n:LX:=⟨[1,4,6,7,8],[.frzCell 7 0,.frzCell 7 1,.frzCell 7 2,.frzCell 7 3,.frzCell 7 4,.frzCell 7 5,.frzCell 7 10,.frzCell 7 20],0,[4,6,7],[],⟨[(1,e1q),(4,om1),(6,.one (.ref (.bool) 1)),(7,om4),(8,om0)],[(0,bx5),(1,.arr (.bool)),(2,bx9),(3,.arr (.str))],4,0⟩,⟨[(4,om1),(6,.one (.ref (.bool) 1)),(7,om4)],[(0,bx5),(1,.arr (.bool)),(2,bx9),(3,.arr (.str))],4,0⟩⟩
def c2v (f:c2u->Option (d3P)) (v:c2u):Option (d3P):=let b:=v.1.2.2.2.2.1<(length v.1.1:Int);bif decide b then bif decide (0<=v.1.2.2.2.2.1)&&decide b then let e:=getD v.1.1 (toNat v.1.2.2.2.2.1) (zero Ty.str);let c:=(((((v.2.2.2.1.1,v.2.2.2.1.2.1,v.2.2.2.1.2.2.1,()),(v.2.2.2.1.2.2.2.1,v.2.2.2.1.2.2.2.2.1,()),v.2.2.2.1.2.2.2.2.2.1,(((v.2.2.2.1.2.2.2.2.2.2.1,v.2.2.2.1.2.2.2.2.2.2.2.1,()),(v.2.2.2.1.2.2.2.2.2.2.2.2.1,v.2.2.2.1.2.2.2.2.2.2.2.2.2.1,()),()),v.2.2.2.1.2.2.2.2.2.2.2.2.2.2.1,((v.2.2.2.1.2.2.2.2.2.2.2.2.2.2.2.1,v.2.2.2.1.2.2.2.2.2.2.2.2.2.2.2.2.1,()),(v.2.2.2.1.2.2.2.2.2.2.2.2.2.2.2.2.2.1,v.2.2.2.1.2.2.2.2.2.2.2.2.2.2.2.2.2.2.1,()),()),()),()),v.2.2.2.1.2.2.2.2.2.2.2.2.2.2.2.2.2.2.2.1,v.2.2.2.1.2.2.2.2.2.2.2.2.2.2.2.2.2.2.2.2.1,v.2.2.2.1.2.2.2.2.2.2.2.2.2.2.2.2.2.2.2.2.2.1,v.2.2.2.1.2.2.2.2.2.2.2.2.2.2.2.2.2.2.2.2.2.2.1,v.2.2.2.1.2.2.2.2.2.2.2.2.2.2.2.2.2.2.2.2.2.2.2.1,v.2.2.2.1.2.2.2.2.2.2.2.2.2.2.2.2.2.2.2.2.2.2.2.2.1,v.2.2.2.2),e,()),());bif K38 c then let a:=G38 c;let d:=set (replicate 1 (zero Ty.bool)) 0 a.1.2.1;bif a0j (length v.2.2.1+length d) then f (((v.1.1,(),(),(),wrap .i64 (v.1.2.2.2.2.1+1),()),((),(),(),(),(),(),v.2.1.2.2.2.2.2.2.1,v.2.1.2.2.2.2.2.2.2.1,v.2.1.2.2.2.2.2.2.2.2.1,v.2.1.2.2.2.2.2.2.2.2.2.1,(),v.2.1.2.2.2.2.2.2.2.2.2.2.2.1,v.2.1.2.2.2.2.2.2.2.2.2.2.2.2.1,v.2.1.2.2.2.2.2.2.2.2.2.2.2.2.2.1,v.2.1.2.2.2.2.2.2.2.2.2.2.2.2.2.2.1,v.2.1.2.2.2.2.2.2.2.2.2.2.2.2.2.2.2.1,v.2.1.2.2.2.2.2.2.2.2.2.2.2.2.2.2.2.2.1,v.2.1.2.2.2.2.2.2.2.2.2.2.2.2.2.2.2.2.2.1,v.2.1.2.2.2.2.2.2.2.2.2.2.2.2.2.2.2.2.2.2.1,v.2.1.2.2.2.2.2.2.2.2.2.2.2.2.2.2.2.2.2.2.2.1,(),(),()),v.2.2.1++d,(a.1.1.1,a.1.1.2.1,a.1.1.2.2.1,a.1.1.2.2.2.1,a.1.1.2.2.2.2.1,a.1.1.2.2.2.2.2.1,a.1.1.2.2.2.2.2.2.1,a.1.1.2.2.2.2.2.2.2.1,a.1.1.2.2.2.2.2.2.2.2.1,a.1.1.2.2.2.2.2.2.2.2.2.1,a.1.1.2.2.2.2.2.2.2.2.2.2.1,a.1.1.2.2.2.2.2.2.2.2.2.2.2.1,a.1.1.2.2.2.2.2.2.2.2.2.2.2.2.1,a.1.1.2.2.2.2.2.2.2.2.2.2.2.2.2.1,a.1.1.2.2.2.2.2.2.2.2.2.2.2.2.2.2.1,a.1.1.2.2.2.2.2.2.2.2.2.2.2.2.2.2.2.1,a.1.1.2.2.2.2.2.2.2.2.2.2.2.2.2.2.2.2.1,a.1.1.2.2.2.2.2.2.2.2.2.2.2.2.2.2.2.2.2.1,a.1.1.2.2.2.2.2.2.2.2.2.2.2.2.2.2.2.2.2.2.1,a.1.1.2.2.2.2.2.2.2.2.2.2.2.2.2.2.2.2.2.2.2.1,a.1.1.2.2.2.2.2.2.2.2.2.2.2.2.2.2.2.2.2.2.2.2.1,(),()),a.2))else none else none else none else some (((),(),(),()),((),(),(),(),(),(),v.2.1.2.2.2.2.2.2.1,v.2.1.2.2.2.2.2.2.2.1,v.2.1.2.2.2.2.2.2.2.2.1,v.2.1.2.2.2.2.2.2.2.2.2.1,(),v.2.1.2.2.2.2.2.2.2.2.2.2.2.1,v.2.1.2.2.2.2.2.2.2.2.2.2.2.2.1,v.2.1.2.2.2.2.2.2.2.2.2.2.2.2.2.1,v.2.1.2.2.2.2.2.2.2.2.2.2.2.2.2.2.1,v.2.1.2.2.2.2.2.2.2.2.2.2.2.2.2.2.2.1,v.2.1.2.2.2.2.2.2.2.2.2.2.2.2.2.2.2.2.1,v.2.1.2.2.2.2.2.2.2.2.2.2.2.2.2.2.2.2.2.1,v.2.1.2.2.2.2.2.2.2.2.2.2.2.2.2.2.2.2.2.2.1,v.2.1.2.2.2.2.2.2.2.2.2.2.2.2.2.2.2.2.2.2.2.1,(),(),()),v.2.2.1,(v.2.2.2.1.1,v.2.2.2.1.2.1,v.2.2.2.1.2.2.1,v.2.2.2.1.2.2.2.1,v.2.2.2.1.2.2.2.2.1,v.2.2.2.1.2.2.2.2.2.1,v.2.2.2.1.2.2.2.2.2.2.1,v.2.2.2.1.2.2.2.2.2.2.2.1,v.2.2.2.1.2.2.2.2.2.2.2.2.1,v.2.2.2.1.2.2.2.2.2.2.2.2.2.1,v.2.2.2.1.2.2.2.2.2.2.2.2.2.2.1,v.2.2.2.1.2.2.2.2.2.2.2.2.2.2.2.1,v.2.2.2.1.2.2.2.2.2.2.2.2.2.2.2.2.1,v.2.2.2.1.2.2.2.2.2.2.2.2.2.2.2.2.2.1,v.2.2.2.1.2.2.2.2.2.2.2.2.2.2.2.2.2.2.1,v.2.2.2.1.2.2.2.2.2.2.2.2.2.2.2.2.2.2.2.1,v.2.2.2.1.2.2.2.2.2.2.2.2.2.2.2.2.2.2.2.2.1,v.2.2.2.1.2.2.2.2.2.2.2.2.2.2.2.2.2.2.2.2.2.1,v.2.2.2.1.2.2.2.2.2.2.2.2.2.2.2.2.2.2.2.2.2.2.1,v.2.2.2.1.2.2.2.2.2.2.2.2.2.2.2.2.2.2.2.2.2.2.2.1,v.2.2.2.1.2.2.2.2.2.2.2.2.2.2.2.2.2.2.2.2.2.2.2.2.1,(),()),v.2.2.2.2)
def d3Q (v:c2u):Nat:=v.1.1.length+v.1.2.2.2.2.1.natAbs+v.2.1.2.2.2.2.2.2.1.natAbs+v.2.1.2.2.2.2.2.2.2.1.natAbs+v.2.1.2.2.2.2.2.2.2.2.1.natAbs+v.2.1.2.2.2.2.2.2.2.2.2.1.natAbs+v.2.1.2.2.2.2.2.2.2.2.2.2.2.1.natAbs+v.2.1.2.2.2.2.2.2.2.2.2.2.2.2.1.natAbs+v.2.1.2.2.2.2.2.2.2.2.2.2.2.2.2.1.natAbs+v.2.1.2.2.2.2.2.2.2.2.2.2.2.2.2.2.1.natAbs+v.2.1.2.2.2.2.2.2.2.2.2.2.2.2.2.2.2.1.natAbs+v.2.1.2.2.2.2.2.2.2.2.2.2.2.2.2.2.2.2.2.1.natAbs+v.2.1.2.2.2.2.2.2.2.2.2.2.2.2.2.2.2.2.2.2.2.1.natAbs+v.2.2.1.length+v.2.2.2.1.1.length+v.2.2.2.1.2.1.length+v.2.2.2.1.2.2.1.length+v.2.2.2.1.2.2.2.1.length+v.2.2.2.1.2.2.2.2.1.length+v.2.2.2.1.2.2.2.2.2.1.length+v.2.2.2.1.2.2.2.2.2.2.1.natAbs+v.2.2.2.1.2.2.2.2.2.2.2.1.natAbs+v.2.2.2.1.2.2.2.2.2.2.2.2.1.natAbs+v.2.2.2.1.2.2.2.2.2.2.2.2.2.1.natAbs+v.2.2.2.1.2.2.2.2.2.2.2.2.2.2.1.length+v.2.2.2.1.2.2.2.2.2.2.2.2.2.2.2.1.natAbs+v.2.2.2.1.2.2.2.2.2.2.2.2.2.2.2.2.1.natAbs+v.2.2.2.1.2.2.2.2.2.2.2.2.2.2.2.2.2.1.natAbs+v.2.2.2.1.2.2.2.2.2.2.2.2.2.2.2.2.2.2.1.natAbs+v.2.2.2.1.2.2.2.2.2.2.2.2.2.2.2.2.2.2.2.1.natAbs+v.2.2.2.1.2.2.2.2.2.2.2.2.2.2.2.2.2.2.2.2.2.1.natAbs+v.2.2.2.1.2.2.2.2.2.2.2.2.2.2.2.2.2.2.2.2.2.2.2.1.natAbs+v.2.2.2.1.2.2.2.2.2.2.2.2.2.2.2.2.2.2.2.2.2.2.2.2.1.length+v.2.2.2.2.1.length+1000
def d3R (v:c2u):=a0C c2v (d3Q v) v
def c0w (v):=(d3R v).isSome
def c0x (v):=(d3R v).getD (((),((),((),()))),(((),((),((),((),((),((),(0,(0,(0,(0,((),(0,(0,(0,(0,(0,((0,0),(0,((0,0),(0,((),((),())))))))))))))))))))))),([],(([],([],([],([],([],([],(0,(0,(0,(0,([],(0,(0,(0,(0,(0,((0,0),(0,((0,0),(0,([],((),())))))))))))))))))))))),([],())))))
def F11 (x:I11.den):Option (O11.den):=bif K37 ((x.1.1,()),()) then let b:=G37 ((x.1.1,()),());let c:=((x.1.2.1,(),(),(),0,()),((),(),(),(),(),(),0,0,0,0,(),0,0,0,0,0,(0,0),0,(0,0),0,(),(),()),replicate 0 (zero Ty.bool),(b.2.1,b.2.2.1,b.2.2.2.1,b.2.2.2.2.1,b.2.2.2.2.2.1,b.2.2.2.2.2.2.1,b.1.1.2.2.2.2.2.2.1,b.1.1.2.2.2.2.2.2.2.1,b.1.1.2.2.2.2.2.2.2.2.1,b.1.1.2.2.2.2.2.2.2.2.2.1,b.2.2.2.2.2.2.2.1,b.1.1.2.2.2.2.2.2.2.2.2.2.2.1,b.1.1.2.2.2.2.2.2.2.2.2.2.2.2.1,b.1.1.2.2.2.2.2.2.2.2.2.2.2.2.2.1,b.1.1.2.2.2.2.2.2.2.2.2.2.2.2.2.2.1,b.1.1.2.2.2.2.2.2.2.2.2.2.2.2.2.2.2.1,b.1.1.2.2.2.2.2.2.2.2.2.2.2.2.2.2.2.2.1,b.1.1.2.2.2.2.2.2.2.2.2.2.2.2.2.2.2.2.2.1,b.1.1.2.2.2.2.2.2.2.2.2.2.2.2.2.2.2.2.2.2.1,b.1.1.2.2.2.2.2.2.2.2.2.2.2.2.2.2.2.2.2.2.2.1,b.2.2.2.2.2.2.2.2.1,(),()),b.2.2.2.2.2.2.2.2.2);bif c0w c then let a:=c0x c;some (((a.2.2.2.1.1,a.2.2.2.1.2.1,a.2.2.2.1.2.2.1,a.2.2.2.1.2.2.2.1,a.2.2.2.1.2.2.2.2.1,a.2.2.2.1.2.2.2.2.2.1,a.2.2.2.1.2.2.2.2.2.2.1,a.2.2.2.1.2.2.2.2.2.2.2.1,a.2.2.2.1.2.2.2.2.2.2.2.2.1,a.2.2.2.1.2.2.2.2.2.2.2.2.2.1,a.2.2.2.1.2.2.2.2.2.2.2.2.2.2.1,a.2.2.2.1.2.2.2.2.2.2.2.2.2.2.2.1,a.2.2.2.1.2.2.2.2.2.2.2.2.2.2.2.2.1,a.2.2.2.1.2.2.2.2.2.2.2.2.2.2.2.2.2.1,a.2.2.2.1.2.2.2.2.2.2.2.2.2.2.2.2.2.2.1,a.2.2.2.1.2.2.2.2.2.2.2.2.2.2.2.2.2.2.2.1,a.2.2.2.1.2.2.2.2.2.2.2.2.2.2.2.2.2.2.2.2.1,a.2.2.2.1.2.2.2.2.2.2.2.2.2.2.2.2.2.2.2.2.2.1,a.2.2.2.1.2.2.2.2.2.2.2.2.2.2.2.2.2.2.2.2.2.2.1,a.2.2.2.1.2.2.2.2.2.2.2.2.2.2.2.2.2.2.2.2.2.2.2.1,a.2.2.2.1.2.2.2.2.2.2.2.2.2.2.2.2.2.2.2.2.2.2.2.2.1,(),()),a.2.2.1,()),a.2.2.2.2)else none else none
def K11 (x):=(F11 x).isSome
def G11 (x):=(F11 x).getD (a0R O11)
def m11:=(11,a0y false I11 O11 K11 G11)
noncomputable def h0Q:=gE [m37,fzE m38] Tryz.f11 (lps:=[(4,lmX f2n d3R)]) (rown:=[.frz 5])
theorem e3d:EvX h0Q (lp Tryz.f11 0) f2n c2v:=fun _ _=>by kernel_rfl
theorem g3U:a0d Tryz.prog m11:=a4a (a0z (s2 f2l (d5v g3T))) (a1n Tryz.func11 rfl rfl rfl (by kernel_rfl) (a0f (by kernel_rfl) (s1 (lX e3d d3Q)))) false fun _=>by kernel_rfl
abbrev A89:Ty:=.cons (.flt .f64) (.cons (.flt .f64) (.nil))
abbrev R89:Ty:=.cons (.bool) (.nil)
def F89 (x:Den A89):OD R89:=let a:=!feq .f64 x.1 x.1;bif a then bif a then some (!feq .f64 x.2.1 x.2.1,())else some (false,())else bif !feq .f64 x.2.1 x.2.1 then bif a then some (!feq .f64 x.2.1 x.2.1,())else some (false,())else bif feq .f64 x.1 x.2.1 then bif !feq .f64 x.1 0 then some (true,())else some (feq .f64 (a0a .quo .f64 4607182418800017408 x.1) (a0a .quo .f64 4607182418800017408 x.2.1),())else some (false,())
def K89 (x):=(F89 x).isSome
def G89 (x):=(F89 x).getD (zero R89)
def m89:=(89,a0b A89 R89 K89 G89)
theorem f2o:a0d Tryz.prog m89:=fnE nS Tryz.func89
abbrev g8x:Ty:=.cons (.flt .f32) (.cons (.flt .f32) (.nil))
abbrev g3V:Ty:=.cons (.bool) (.nil)
def f7l (x:Den g8x):OD g3V:=let a:=((a0u .f32 .f64 x.1).2,(a0u .f32 .f64 x.2.1).2,());bif K89 a then some (G89 a)else none
def e6y (x):=(f7l x).isSome
def e6z (x):=(f7l x).getD (zero g3V)
def g3W:=(140,a0b g8x g3V e6y e6z)
theorem d9E:a0d Tryz.prog g3W:=fnE (s1 f2o) Tryz.func140
abbrev g8y:Ty:=.cons (.slice (.flt .f32)) (.cons (.slice (.flt .f32)) (.nil))
abbrev f2p:Ty:=.cons (.bool) (.nil)
abbrev c0y:Type:=(a9V×a9V×ty6)×Unit
abbrev d9F:Type:=a4i
abbrev d9G:Type:=a5I
def d9H:LR:=⟨[0,1,5],[],0,[],[],⟨[(0,e1r),(1,e1r),(5,om0)],[],0,0⟩,⟨[],[],0,0⟩,⟨[(4,om2)],[],0,0⟩⟩
def b4I (f:c0y->Option (d9F⊕d9G)) (v:c0y):Option (d9F⊕d9G):=let a:=v.1.2.2.1<(length v.1.1:Int);bif decide a then bif decide (0<=v.1.2.2.1)&&decide a then bif decide (0<=v.1.2.2.1)&&decide (v.1.2.2.1<(length v.1.2.1:Int)) then let b:=zero (Ty.flt .f32);let c:=getD v.1.1 (toNat v.1.2.2.1) b;let d:=getD v.1.2.1 (toNat v.1.2.2.1) b;bif e6y (c,d,()) then bif !(e6z (c,d,())).1 then some (Sum.inr ((false,()),()))else f (((v.1.1,v.1.2.1,wrap .i64 (v.1.2.2.1+1),()),()))else none else none else none else some (Sum.inl ((),()))
def c8v (v:c0y):Nat:=v.1.1.length+v.1.2.1.length+v.1.2.2.1.natAbs+1000
def b0S (v:c0y):=a0C b4I (c8v v) v
def b6V (v):=(b0S v).isSome
def b6W (v):=isR (b0S v)
def g3X (v):=xOf default (b0S v)
def e3e (v):=yOf default (b0S v)
def e6A (x:Den g8y):OD f2p:=bif (length x.1:Int) != (length x.2.1:Int) then some (false,())else bif b6V ((x.1,x.2.1,0,()),()) then bif b6W ((x.1,x.2.1,0,()),()) then some (e3e ((x.1,x.2.1,0,()),())).1 else some (true,())else none
def f2q (x):=(e6A x).isSome
def f2r (x):=(e6A x).getD (zero f2p)
def g8z:=(138,a0b g8y f2p f2q f2r)
noncomputable def g3Y:=gE [g3W] Tryz.f138 (lps:=[(4,lmR d9H b0S)])
theorem d3S:EvR g3Y (lp Tryz.f138 0) d9H b4I:=fun _ _=>by kernel_rfl
theorem f2s:a0d Tryz.prog g8z:=a0w (a0z (s1 d9E)) (a1n Tryz.func138 rfl rfl rfl (by kernel_rfl) (a0f (by kernel_rfl) (s1 (lR d3S c8v)))) fun _=>by kernel_rfl
abbrev g8A:Ty:=.cons (.slice (.int .i64)) (.cons (.slice (.int .i64)) (.nil))
abbrev f2t:Ty:=.cons (.bool) (.nil)
abbrev c0z:Type:=(ty0×ty0×ty6)×Unit
abbrev d9I:Type:=a4i
abbrev d9J:Type:=a5I
def d9K:LR:=⟨[0,1,5],[],0,[],[],⟨[(0,e1s),(1,e1s),(5,om0)],[],0,0⟩,⟨[],[],0,0⟩,⟨[(4,om2)],[],0,0⟩⟩
def b4J (f:c0z->Option (d9I⊕d9J)) (v:c0z):Option (d9I⊕d9J):=let a:=v.1.2.2.1<(length v.1.1:Int);bif decide a then bif decide (0<=v.1.2.2.1)&&decide a then bif decide (0<=v.1.2.2.1)&&decide (v.1.2.2.1<(length v.1.2.1:Int)) then let b:=zero (Ty.int IntKind.i64);bif (getD v.1.1 (toNat v.1.2.2.1) b) != (getD v.1.2.1 (toNat v.1.2.2.1) b) then some (Sum.inr ((false,()),()))else f (((v.1.1,v.1.2.1,wrap .i64 (v.1.2.2.1+1),()),()))else none else none else some (Sum.inl ((),()))
def c8w (v:c0z):Nat:=v.1.1.length+v.1.2.1.length+v.1.2.2.1.natAbs+1000
def b0T (v:c0z):=a0C b4J (c8w v) v
def b6X (v):=(b0T v).isSome
def b6Y (v):=isR (b0T v)
def g3Z (v):=xOf default (b0T v)
def e3f (v):=yOf default (b0T v)
def e6B (x:Den g8A):OD f2t:=bif (length x.1:Int) != (length x.2.1:Int) then some (false,())else bif b6X ((x.1,x.2.1,0,()),()) then bif b6Y ((x.1,x.2.1,0,()),()) then some (e3f ((x.1,x.2.1,0,()),())).1 else some (true,())else none
def f2u (x):=(e6B x).isSome
def f2v (x):=(e6B x).getD (zero f2t)
def g4a:=(139,a0b g8A f2t f2u f2v)
noncomputable def g4b:=gE [] Tryz.f139 (lps:=[(4,lmR d9K b0T)])
theorem d3T:EvR g4b (lp Tryz.f139 0) d9K b4J:=fun _ _=>by kernel_rfl
theorem d9L:a0d Tryz.prog g4a:=a0w (a0z nS) (a1n Tryz.func139 rfl rfl rfl (by kernel_rfl) (a0f (by kernel_rfl) (s1 (lR d3T c8w)))) fun _=>by kernel_rfl
abbrev A39:Ty:=.cons (.cpx .f64) (.cons (.cpx .f64) (.nil))
abbrev R39:Ty:=.cons (.bool) (.nil)
def F39 (x:Den A39):OD R39:=bif K89 (x.1.1,x.2.1.1,()) then bif (G89 (x.1.1,x.2.1.1,())).1 then bif K89 (x.1.2,x.2.1.2,()) then some (G89 (x.1.2,x.2.1.2,()))else none else some (false,())else none
def K39 (x):=(F39 x).isSome
def G39 (x):=(F39 x).getD (zero R39)
def m39:=(39,a0b A39 R39 K39 G39)
theorem e3g:a0d Tryz.prog m39:=fnE (s1 f2o) Tryz.func39
abbrev A40:Ty:=.cons (.cpx .f32) (.cons (.cpx .f32) (.nil))
abbrev R40:Ty:=.cons (.bool) (.nil)
def F40 (x:Den A40):OD R40:=let a:=(((a0u .f32 .f64 x.1.1).2,(a0u .f32 .f64 x.1.2).2),((a0u .f32 .f64 x.2.1.1).2,(a0u .f32 .f64 x.2.1.2).2),());bif K39 a then some (G39 a)else none
def K40 (x):=(F40 x).isSome
def G40 (x):=(F40 x).getD (zero R40)
def m40:=(40,a0b A40 R40 K40 G40)
theorem f2w:a0d Tryz.prog m40:=fnE (s1 e3g) Tryz.func40
abbrev A69:Ty:=.cons (S27) (.cons (S27) (.nil))
abbrev R69:Ty:=.cons (.bool) (.nil)
abbrev d3U:Type:=(Unit×b1Q)×ty2×b8t
abbrev f2x:Type:=a4i
abbrev f2y:Type:=a5I
def f2z:LR:=⟨[2,3,5],[],0,[],[],⟨[(2,om1),(3,om3),(5,om0)],[(0,bx2),(1,bx2)],2,0⟩,⟨[],[],0,0⟩,⟨[(4,om2)],[],0,0⟩⟩
def c8x (f:d3U->Option (f2x⊕f2y)) (v:d3U):Option (f2x⊕f2y):=let a:=v.1.2.2.1<(length v.2.1.2.2.1:Int);bif decide a then bif decide (0<=v.1.2.2.1)&&decide a then bif decide (0<=v.1.2.2.1)&&decide (v.1.2.2.1<(length v.2.2.1.2.2.1:Int)) then let b:=zero (Ty.slice (Ty.flt .f32));let c:=getD v.2.1.2.2.1 (toNat v.1.2.2.1) b;let d:=getD v.2.2.1.2.2.1 (toNat v.1.2.2.1) b;bif f2q (c,d,()) then bif !(f2r (c,d,())).1 then some (Sum.inr ((false,()),()))else f ((((),(),wrap .i64 (v.1.2.2.1+1),()),v.2))else none else none else none else some (Sum.inl ((),()))
def e3h (v:d3U):Nat:=v.1.2.2.1.natAbs+v.2.1.1.length+v.2.1.2.1.length+v.2.1.2.2.1.length+v.2.2.1.1.length+v.2.2.1.2.1.length+v.2.2.1.2.2.1.length+1000
def c2w (v:d3U):=a0C c8x (e3h v) v
def c8y (v):=(c2w v).isSome
def c8z (v):=isR (c2w v)
def g8B (v):=xOf default (c2w v)
def f2A (v):=yOf default (c2w v)
def F69 (x:Den A69):OD R69:=bif f2q (x.1.1,x.2.1.1,()) then bif !(f2r (x.1.1,x.2.1.1,())).1 then some (false,())else bif f2u (x.1.2.1,x.2.1.2.1,()) then bif !(f2v (x.1.2.1,x.2.1.2.1,())).1 then some (false,())else bif (length x.1.2.2.1:Int) != (length x.2.1.2.2.1:Int) then some (false,())else bif c8y (((),(),0,()),x) then bif c8z (((),(),0,()),x) then some (f2A (((),(),0,()),x)).1 else some (true,())else none else none else none
def K69 (x):=(F69 x).isSome
def G69 (x):=(F69 x).getD (zero R69)
def m69:=(69,a0b A69 R69 K69 G69)
noncomputable def h0R:=gE [g8z,g4a] Tryz.f69 (lps:=[(4,lmR f2z c2w)])
theorem e3i:EvR h0R (lp Tryz.f69 0) f2z c8x:=fun _ _=>by kernel_rfl
theorem g4c:a0d Tryz.prog m69:=a0w (a0z (s2 f2s d9L)) (a1n Tryz.func69 rfl rfl rfl (by kernel_rfl) (a0f (by kernel_rfl) (s1 (lR e3i e3h)))) fun _=>by kernel_rfl
abbrev A70:Ty:=.cons (S30) (.cons (S30) (.nil))
abbrev R70:Ty:=.cons (.bool) (.nil)
abbrev d3V:Type:=(Unit×d5A)×ty8×b3A
abbrev f2B:Type:=(Unit×b1Q)×ty8×b3A
abbrev f2C:Type:=a5I
def f2D:LR:=⟨[2,3,5,6],[],2,[2,3,5],[],⟨[(2,om1),(3,om3),(5,om0),(6,om0)],[(0,bx1),(1,bx1)],2,0⟩,⟨[(2,om1),(3,om3),(5,om0)],[(0,bx1),(1,bx1)],2,0⟩,⟨[(4,om2)],[],0,0⟩⟩
def d3W (f:d3V->Option (f2B⊕f2C)) (v:d3V):Option (f2B⊕f2C):=bif decide (v.1.2.2.2.1<13) then bif decide (0<=v.1.2.2.1)&&decide (v.1.2.2.1<(length v.2.1.1:Int)) then let c:=decide (0<=v.1.2.2.2.1)&&decide (v.1.2.2.2.1<(↑13:Int));bif c then bif decide (0<=v.1.2.2.1)&&decide (v.1.2.2.1<(length v.2.2.1.1:Int)) then bif c then let a:=getD v.2.1.1 (toNat v.1.2.2.1) (zero a1m);let d:=getD [a.2.1.1,a.2.1.2.1,a.2.1.2.2.1,a.2.1.2.2.2.1,a.2.1.2.2.2.2.1,a.2.1.2.2.2.2.2.1,a.2.1.2.2.2.2.2.2.1,a.2.1.2.2.2.2.2.2.2.1,a.2.1.2.2.2.2.2.2.2.2.1,a.2.1.2.2.2.2.2.2.2.2.2.1,a.2.1.2.2.2.2.2.2.2.2.2.2.1,a.2.1.2.2.2.2.2.2.2.2.2.2.2.1,a.2.1.2.2.2.2.2.2.2.2.2.2.2.2.1] (toNat v.1.2.2.2.1) (0,0);let b:=getD v.2.2.1.1 (toNat v.1.2.2.1) (zero a1m);let e:=getD [b.2.1.1,b.2.1.2.1,b.2.1.2.2.1,b.2.1.2.2.2.1,b.2.1.2.2.2.2.1,b.2.1.2.2.2.2.2.1,b.2.1.2.2.2.2.2.2.1,b.2.1.2.2.2.2.2.2.2.1,b.2.1.2.2.2.2.2.2.2.2.1,b.2.1.2.2.2.2.2.2.2.2.2.1,b.2.1.2.2.2.2.2.2.2.2.2.2.1,b.2.1.2.2.2.2.2.2.2.2.2.2.2.1,b.2.1.2.2.2.2.2.2.2.2.2.2.2.2.1] (toNat v.1.2.2.2.1) (0,0);bif K40 (d,e,()) then bif !(G40 (d,e,())).1 then some (Sum.inr ((false,()),()))else f ((((),(),v.1.2.2.1,wrap .i64 (v.1.2.2.2.1+1),()),v.2))else none else none else none else none else none else some (Sum.inl (((),(),v.1.2.2.1,()),v.2))
def e3j (v:d3V):Nat:=v.1.2.2.1.natAbs+v.1.2.2.2.1.natAbs+v.2.1.1.length+v.2.1.2.1.length+v.2.2.1.1.length+v.2.2.1.2.1.length+1000
def c2x (v:d3V):=a0C d3W (e3j v) v
def c8A (v):=(c2x v).isSome
def c8B (v):=isR (c2x v)
def c8C (v):=xOf default (c2x v)
def f2E (v):=yOf default (c2x v)
abbrev d3X:Type:=(Unit×b1Q)×ty8×b3A
abbrev f2F:Type:=a4i
abbrev f2G:Type:=a5I
def f2H:LR:=⟨[2,3,5],[],0,[],[],⟨[(2,om1),(3,om3),(5,om0)],[(0,bx1),(1,bx1)],2,0⟩,⟨[],[],0,0⟩,⟨[(4,om2)],[],0,0⟩⟩
def c8D (f:d3X->Option (f2F⊕f2G)) (v:d3X):Option (f2F⊕f2G):=let b:=v.1.2.2.1<(length v.2.1.1:Int);bif decide b then bif decide (0<=v.1.2.2.1)&&decide b then bif decide (0<=v.1.2.2.1)&&decide (v.1.2.2.1<(length v.2.2.1.1:Int)) then let c:=getD v.2.1.1 (toNat v.1.2.2.1) (zero a1m);let d:=getD v.2.2.1.1 (toNat v.1.2.2.1) (zero a1m);bif K39 (c.1,d.1,()) then bif !(G39 (c.1,d.1,())).1 then some (Sum.inr ((false,()),()))else let a:=(((),(),v.1.2.2.1,0,()),v.2);bif c8A a then bif c8B a then some (Sum.inr (f2E a))else let e:=c8C a;f ((((),(),wrap .i64 (e.1.2.2.1+1),()),e.2))else none else none else none else none else some (Sum.inl ((),()))
def e3k (v:d3X):Nat:=v.1.2.2.1.natAbs+v.2.1.1.length+v.2.1.2.1.length+v.2.2.1.1.length+v.2.2.1.2.1.length+1000
def c2y (v:d3X):=a0C c8D (e3k v) v
def c8E (v):=(c2y v).isSome
def c8F (v):=isR (c2y v)
def g8C (v):=xOf default (c2y v)
def f2I (v):=yOf default (c2y v)
def F70 (x:Den A70):OD R70:=bif f2u (x.1.2.1,x.2.1.2) then bif !(f2v (x.1.2.1,x.2.1.2)).1 then some (false,())else bif (length x.1.1:Int) != (length x.2.1.1:Int) then some (false,())else bif c8E (((),(),0,()),x) then bif c8F (((),(),0,()),x) then some (f2I (((),(),0,()),x)).1 else some (true,())else none else none
def K70 (x):=(F70 x).isSome
def G70 (x):=(F70 x).getD (zero R70)
def m70:=(70,a0b A70 R70 K70 G70)
noncomputable def g8D:=gE [g4a,m39,m40] Tryz.f70 (lps:=[(4,lmR f2H c2y),(9,lmR f2D c2x)])
theorem e3l:EvR g8D (lp Tryz.f70 0) f2H c8D:=fun _ _=>by kernel_rfl
theorem e3m:EvR g8D (lp Tryz.f70 1) f2D d3W:=fun _ _=>by kernel_rfl
theorem g4d:a0d Tryz.prog m70:=a0w (a0z (s3 d9L e3g f2w)) (a1n Tryz.func70 rfl rfl rfl (by kernel_rfl) (a0f (by kernel_rfl) (s2 (lR e3l e3k) (lR e3m e3j)))) fun _=>by kernel_rfl
abbrev A71:Ty:=.cons (.slice (S68)) (.cons (.slice (S68)) (.nil))
abbrev R71:Ty:=.cons (.bool) (.nil)
abbrev d3Y:Type:=(b1P×b1P×Int×a4i)×Unit
abbrev f2J:Type:=a4i
abbrev f2K:Type:=a5I
def f2L:LR:=⟨[0,1,5,81],[.forget 81],0,[],[],⟨[(0,om7),(1,om7),(5,om0),(81,.one (.pois))],[],0,0⟩,⟨[],[],0,0⟩,⟨[(4,om2)],[],0,0⟩⟩
def c8G (f:d3Y->Option (f2J⊕f2K)) (v:d3Y):Option (f2J⊕f2K):=let e:=v.1.2.2.1<(length v.1.1:Int);bif decide e then let c:=decide (0<=v.1.2.2.1)&&decide e;bif c then let d:=decide (0<=v.1.2.2.1)&&decide (v.1.2.2.1<(length v.1.2.1:Int));bif d then let a:=getD v.1.1 (toNat v.1.2.2.1) (zero S68);let b:=getD v.1.2.1 (toNat v.1.2.2.1) (zero S68);bif !a0O a.1 b.1 then some (Sum.inr ((false,()),()))else bif c then bif d then bif e6y (a.2.1,b.2.1,()) then bif !(e6z (a.2.1,b.2.1,())).1 then some (Sum.inr ((false,()),()))else bif c then bif d then bif e6y (a.2.2.1,b.2.2.1,()) then bif !(e6z (a.2.2.1,b.2.2.1,())).1 then some (Sum.inr ((false,()),()))else bif c then bif d then bif a.2.2.2.1 != b.2.2.2.1 then some (Sum.inr ((false,()),()))else bif c then bif d then bif a.2.2.2.2.1 != b.2.2.2.2.1 then some (Sum.inr ((false,()),()))else f (((v.1.1,v.1.2.1,wrap .i64 (v.1.2.2.1+1),(),()),()))else none else none else none else none else none else none else none else none else none else none else none else none else some (Sum.inl ((),()))
def e3n (v:d3Y):Nat:=v.1.1.length+v.1.2.1.length+v.1.2.2.1.natAbs+1000
def c2z (v:d3Y):=a0C c8G (e3n v) v
def c8H (v):=(c2z v).isSome
def c8I (v):=isR (c2z v)
def g8E (v):=xOf default (c2z v)
def f2M (v):=yOf default (c2z v)
def F71 (x:Den A71):OD R71:=bif (length x.1:Int) != (length x.2.1:Int) then some (false,())else let a:=((x.1,x.2.1,0,(),()),());bif c8H a then bif c8I a then some (f2M a).1 else some (true,())else none
def K71 (x):=(F71 x).isSome
def G71 (x):=(F71 x).getD (zero R71)
def m71:=(71,a0b A71 R71 K71 G71)
noncomputable def h0S:=gE [g3W] Tryz.f71 (lps:=[(4,lmR f2L c2z)])
theorem e3o:EvR h0S (lp Tryz.f71 0) f2L c8G:=fun _ _=>by kernel_rfl
theorem g4e:a0d Tryz.prog m71:=a0w (a0z (s1 d9E)) (a1n Tryz.func71 rfl rfl rfl (by kernel_rfl) (a0f (by kernel_rfl) (s1 (lR e3o e3n)))) fun _=>by kernel_rfl
abbrev A72:Ty:=.cons (.slice (a2n)) (.cons (.slice (a2n)) (.nil))
abbrev R72:Ty:=.cons (.bool) (.nil)
abbrev d3Z:Type:=(e1p×e1p×ty6)×Unit
abbrev f2N:Type:=a4i
abbrev f2O:Type:=a5I
def f2P:LR:=⟨[0,1,5],[],0,[],[],⟨[(0,.one (.sl (a2n))),(1,.one (.sl (a2n))),(5,om0)],[],0,0⟩,⟨[],[],0,0⟩,⟨[(4,om2)],[],0,0⟩⟩
def c8J (f:d3Z->Option (f2N⊕f2O)) (v:d3Z):Option (f2N⊕f2O):=let c:=v.1.2.2.1<(length v.1.1:Int);bif decide c then bif decide (0<=v.1.2.2.1)&&decide c then bif decide (0<=v.1.2.2.1)&&decide (v.1.2.2.1<(length v.1.2.1:Int)) then let a:=getD v.1.1 (toNat v.1.2.2.1) (zero a2n);let b:=getD v.1.2.1 (toNat v.1.2.2.1) (zero a2n);bif !(a.1.1==b.1.1&&(a.1.2.1==b.1.2.1&&a.2.1==b.2.1)) then some (Sum.inr ((false,()),()))else f (((v.1.1,v.1.2.1,wrap .i64 (v.1.2.2.1+1),()),()))else none else none else some (Sum.inl ((),()))
def e3p (v:d3Z):Nat:=v.1.1.length+v.1.2.1.length+v.1.2.2.1.natAbs+1000
def c2A (v:d3Z):=a0C c8J (e3p v) v
def c8K (v):=(c2A v).isSome
def c8L (v):=isR (c2A v)
def g8F (v):=xOf default (c2A v)
def f2Q (v):=yOf default (c2A v)
def F72 (x:Den A72):OD R72:=bif (length x.1:Int) != (length x.2.1:Int) then some (false,())else bif c8K ((x.1,x.2.1,0,()),()) then bif c8L ((x.1,x.2.1,0,()),()) then some (f2Q ((x.1,x.2.1,0,()),())).1 else some (true,())else none
def K72 (x):=(F72 x).isSome
def G72 (x):=(F72 x).getD (zero R72)
def m72:=(72,a0b A72 R72 K72 G72)
noncomputable def h0T:=gE [] Tryz.f72 (lps:=[(4,lmR f2P c2A)])
theorem e3q:EvR h0T (lp Tryz.f72 0) f2P c8J:=fun _ _=>by kernel_rfl
theorem g4f:a0d Tryz.prog m72:=a0w (a0z nS) (a1n Tryz.func72 rfl rfl rfl (by kernel_rfl) (a0f (by kernel_rfl) (s1 (lR e3q e3p)))) fun _=>by kernel_rfl
abbrev A29:Ty:=.cons (S40) (.cons (S40) (.nil))
abbrev R29:Ty:=.cons (.bool) (.nil)
def F29 (x:Den A29):OD R29:=bif K69 (x.1.1,x.2.1.1,()) then bif (G69 (x.1.1,x.2.1.1,())).1 then bif K70 (x.1.2.1,x.2.1.2.1,()) then bif (G70 (x.1.2.1,x.2.1.2.1,())).1 then let a:=(x.1.2.2.1,x.2.1.2.2.1,());bif K71 a then bif (G71 a).1 then bif x.1.2.2.2.1.1.1.1==x.2.1.2.2.2.1.1.1.1&&(x.1.2.2.2.1.1.1.2.1==x.2.1.2.2.2.1.1.1.2.1&&(x.1.2.2.2.1.1.2.1.1==x.2.1.2.2.2.1.1.2.1.1&&x.1.2.2.2.1.1.2.1.2.1==x.2.1.2.2.2.1.1.2.1.2.1)) then bif x.1.2.2.2.1.2.2.1.1.1==x.2.1.2.2.2.1.2.2.1.1.1&&(x.1.2.2.2.1.2.2.1.1.2.1==x.2.1.2.2.2.1.2.2.1.1.2.1&&(x.1.2.2.2.1.2.2.1.2.1.1==x.2.1.2.2.2.1.2.2.1.2.1.1&&x.1.2.2.2.1.2.2.1.2.1.2.1==x.2.1.2.2.2.1.2.2.1.2.1.2.1)) then let b:=(x.1.2.2.2.1.2.1,x.2.1.2.2.2.1.2.1,());bif K72 b then some (G72 b)else none else some (false,())else some (false,())else some (false,())else none else some (false,())else none else some (false,())else none
def K29 (x):=(F29 x).isSome
def G29 (x):=(F29 x).getD (zero R29)
def m29:=(29,a0b A29 R29 K29 G29)
theorem f2R:a0d Tryz.prog m29:=fnE (s4 g4c g4d g4e g4f) Tryz.func29
abbrev A28:Ty:=.cons (.slice (.str)) (.cons (.slice (.str)) (.nil))
abbrev R28:Ty:=.cons (.bool) (.nil)
abbrev d4a:Type:=(d1X×d1X×ty6)×Unit
abbrev f2S:Type:=a4i
abbrev f2T:Type:=a5I
def f2U:LR:=⟨[0,1,5],[],0,[],[],⟨[(0,e1q),(1,e1q),(5,om0)],[],0,0⟩,⟨[],[],0,0⟩,⟨[(4,om2)],[],0,0⟩⟩
def c8M (f:d4a->Option (f2S⊕f2T)) (v:d4a):Option (f2S⊕f2T):=let a:=v.1.2.2.1<(length v.1.1:Int);bif decide a then bif decide (0<=v.1.2.2.1)&&decide a then bif decide (0<=v.1.2.2.1)&&decide (v.1.2.2.1<(length v.1.2.1:Int)) then bif !a0O (getD v.1.1 (toNat v.1.2.2.1) (zero Ty.str)) (getD v.1.2.1 (toNat v.1.2.2.1) (zero Ty.str)) then some (Sum.inr ((false,()),()))else f (((v.1.1,v.1.2.1,wrap .i64 (v.1.2.2.1+1),()),()))else none else none else some (Sum.inl ((),()))
def e3r (v:d4a):Nat:=v.1.1.length+v.1.2.1.length+v.1.2.2.1.natAbs+1000
def c2B (v:d4a):=a0C c8M (e3r v) v
def c8N (v):=(c2B v).isSome
def c8O (v):=isR (c2B v)
def g8G (v):=xOf default (c2B v)
def f2V (v):=yOf default (c2B v)
def F28 (x:Den A28):OD R28:=bif (length x.1:Int) != (length x.2.1:Int) then some (false,())else bif c8N ((x.1,x.2.1,0,()),()) then bif c8O ((x.1,x.2.1,0,()),()) then some (f2V ((x.1,x.2.1,0,()),())).1 else some (true,())else none
def K28 (x):=(F28 x).isSome
def G28 (x):=(F28 x).getD (zero R28)
def m28:=(28,a0b A28 R28 K28 G28)
noncomputable def h0U:=gE [] Tryz.f28 (lps:=[(4,lmR f2U c2B)])
theorem e3s:EvR h0U (lp Tryz.f28 0) f2U c8M:=fun _ _=>by kernel_rfl
theorem f2W:a0d Tryz.prog m28:=a0w (a0z nS) (a1n Tryz.func28 rfl rfl rfl (by kernel_rfl) (a0f (by kernel_rfl) (s1 (lR e3s e3r)))) fun _=>by kernel_rfl
abbrev A41:Ty:=.cons (.slice (S97)) (.cons (.slice (S97)) (.nil))
abbrev R41:Ty:=.cons (.bool) (.nil)
abbrev d4b:Type:=(d0P×d0P×ty6)×Unit
abbrev f2X:Type:=a4i
abbrev f2Y:Type:=a5I
def f2Z:LR:=⟨[0,1,5],[],0,[],[],⟨[(0,e5F),(1,e5F),(5,om0)],[],0,0⟩,⟨[],[],0,0⟩,⟨[(4,om2)],[],0,0⟩⟩
def c8P (f:d4b->Option (f2X⊕f2Y)) (v:d4b):Option (f2X⊕f2Y):=let c:=v.1.2.2.1<(length v.1.1:Int);bif decide c then bif decide (0<=v.1.2.2.1)&&decide c then bif decide (0<=v.1.2.2.1)&&decide (v.1.2.2.1<(length v.1.2.1:Int)) then let a:=getD v.1.1 (toNat v.1.2.2.1) (zero S97);let b:=getD v.1.2.1 (toNat v.1.2.2.1) (zero S97);bif !(a.1.1==b.1.1&&(a.1.2.1==b.1.2.1&&a.2.1==b.2.1)) then some (Sum.inr ((false,()),()))else f (((v.1.1,v.1.2.1,wrap .i64 (v.1.2.2.1+1),()),()))else none else none else some (Sum.inl ((),()))
def e3t (v:d4b):Nat:=v.1.1.length+v.1.2.1.length+v.1.2.2.1.natAbs+1000
def c2C (v:d4b):=a0C c8P (e3t v) v
def c8Q (v):=(c2C v).isSome
def c8R (v):=isR (c2C v)
def g8H (v):=xOf default (c2C v)
def f3a (v):=yOf default (c2C v)
def F41 (x:Den A41):OD R41:=bif (length x.1:Int) != (length x.2.1:Int) then some (false,())else bif c8Q ((x.1,x.2.1,0,()),()) then bif c8R ((x.1,x.2.1,0,()),()) then some (f3a ((x.1,x.2.1,0,()),())).1 else some (true,())else none
def K41 (x):=(F41 x).isSome
def G41 (x):=(F41 x).getD (zero R41)
def m41:=(41,a0b A41 R41 K41 G41)
noncomputable def h0V:=gE [] Tryz.f41 (lps:=[(4,lmR f2Z c2C)])
theorem e3u:EvR h0V (lp Tryz.f41 0) f2Z c8P:=fun _ _=>by kernel_rfl
theorem g4g:a0d Tryz.prog m41:=a0w (a0z nS) (a1n Tryz.func41 rfl rfl rfl (by kernel_rfl) (a0f (by kernel_rfl) (s1 (lR e3u e3t)))) fun _=>by kernel_rfl
abbrev A12:Ty:=.cons (S46) (.cons (S46) (.nil))
abbrev R12:Ty:=.cons (.bool) (.nil)
def F12 (x:Den A12):OD R12:=bif K29 (x.1.1,x.2.1.1,()) then bif (G29 (x.1.1,x.2.1.1,())).1 then bif x.1.2.1==x.2.1.2.1 then let a:=(x.1.2.2.1,x.2.1.2.2.1,());bif K39 a then bif (G39 a).1 then bif x.1.2.2.2.1==x.2.1.2.2.2.1 then let b:=(x.1.2.2.2.2.1,x.2.1.2.2.2.2.1,());bif K40 b then bif (G40 b).1 then bif x.1.2.2.2.2.2.1==x.2.1.2.2.2.2.2.1 then let c:=(x.1.2.2.2.2.2.2.1,x.2.1.2.2.2.2.2.2.1,());bif K41 c then bif (G41 c).1 then let d:=(x.1.2.2.2.2.2.2.2.1,x.2.1.2.2.2.2.2.2.2);bif K28 d then some (G28 d)else none else some (false,())else none else some (false,())else some (false,())else none else some (false,())else some (false,())else none else some (false,())else some (false,())else none
def K12 (x):=(F12 x).isSome
def G12 (x):=(F12 x).getD (zero R12)
def m12:=(12,a0b A12 R12 K12 G12)
theorem g4h:a0d Tryz.prog m12:=fnE (s5 f2R e3g f2w g4g f2W) Tryz.func12
abbrev g4i:Sg:=⟨[.ptr 0],[.box (a1U)]⟩
abbrev g4j:Sg:=⟨[.val (.int .i64)],[.box (a1U)]⟩
def f7m (x:g4i.den):Option (g4j.den):=bif K77 (((),12,()),x.2) then let a:=G77 (((),12,()),x.2);bif a.1.1 then bif d6U (((),()),a.2) then let b:=d6V (((),()),a.2);some ((wrap .i64 ((wrap .i64 (Int.tdiv b.1.1 2))-200),()),b.2)else none else bif K34 (((),360,()),a.2) then some (G34 (((),360,()),a.2))else none else none
def g4k (x):=(f7m x).isSome
def g4l (x):=(f7m x).getD (a0R g4j)
def g8I:=(126,a0y true g4i g4j g4k g4l)
theorem f3b:a0d Tryz.prog g8I:=sgE true (s3 a7n b3W a3y) Tryz.func126
abbrev g4m:Sg:=⟨[.ptr 0,.val (.int .i64)],[.box (a1U)]⟩
abbrev g4n:Sg:=⟨[.val (.int .i64)],[.box (a1U)]⟩
def f7n (x:g4m.den):Option (g4n.den):=bif K77 (((),15,()),x.2) then let a:=G77 (((),15,()),x.2);bif a.1.1 then let b:=set (set (set (set (set (replicate 5 (zero (Ty.int IntKind.i64))) 0 (-1)) 1 x.1.2.1) 2 (wrap .i64 (x.1.2.1+1))) 3 9223372036854775807) 4 (-9223372036854775808);bif d0S (((),(),()),a.2.1,b,()) then let c:=b6k (((),(),()),a.2.1,b,());some (c.1,c.2.1,())else none else bif K34 (((),x.1.2),a.2) then some (G34 (((),x.1.2),a.2))else none else none
def g4o (x):=(f7n x).isSome
def g4p (x):=(f7n x).getD (a0R g4n)
def g8J:=(127,a0y true g4m g4n g4o g4p)
theorem f3c:a0d Tryz.prog g8J:=sgE true (s3 a7n b3V a3y) Tryz.func127
abbrev f3d:Sg:=⟨[.ptr 0],[.box (a1U)]⟩
abbrev f7o:Sg:=⟨[.own (S97) 1],[.box (a1U),.arr (S97)]⟩
abbrev b4K:Type:=(Unit×d5A)×ty3×d0P×Unit
abbrev d9M:Type:=a4i×ty3×d0P×Unit
def d9N:LX:=⟨[0,3,4,5],[],0,[3],[],⟨[(0,om1),(3,.one (.ref (S97) 1)),(4,om0),(5,om0)],[(0,bx0),(1,.arr (S97))],2,1⟩,⟨[(3,.one (.ref (S97) 1))],[(0,bx0),(1,.arr (S97))],2,1⟩⟩
def c0A (f:b4K->Option (d9M)) (v:b4K):Option (d9M):=bif decide (v.1.2.2.1>0) then bif e2f (((),()),v.2.1,()) then let b:=d7a (((),()),v.2.1,());let c:=set (replicate 1 (zero S97)) 0 (b.1.1,v.1.2.2.2);bif a0j (length v.2.2.1+length c) then bif K34 (((),40,()),b.2) then let d:=G34 (((),40,()),b.2);bif K77 (((),60,()),d.2) then let a:=G77 (((),60,()),d.2);bif a.1.1 then bif d6U (((),()),a.2) then let e:=d6V (((),()),a.2);f ((((),(),wrap .i64 (v.1.2.2.1-1),e.1),e.2.1,v.2.2.1++c,()))else none else f ((((),(),wrap .i64 (v.1.2.2.1-1),wrap .i64 ((wrap .i64 (v.1.2.2.2.1+1))+d.1.1),()),a.2.1,v.2.2.1++c,()))else none else none else none else none else some (((),()),v.2)
def c8S (v:b4K):Nat:=v.1.2.2.1.natAbs+v.1.2.2.2.1.natAbs+v.2.1.1.length+v.2.1.2.1.natAbs+v.2.1.2.2.1.natAbs+v.2.2.1.length+1000
def c0B (v:b4K):=a0C c0A (c8S v) v
def a9n (v):=(c0B v).isSome
def a9o (v):=(c0B v).getD default
def f7p (x:f3d.den):Option (f7o.den):=bif K34 (((),9,()),x.2) then let c:=G34 (((),9,()),x.2);bif K77 (((),40,()),c.2) then let b:=G77 (((),40,()),c.2);bif b.1.1 then bif K34 (((),2,()),b.2) then let a:=G34 (((),2,()),b.2);bif K34 (((),300,()),a.2) then let h:=wrap .i64 (200+a.1.1);let d:=G34 (((),300,()),a.2);let e:=(((),(),h,d.1),d.2.1,replicate 0 (zero S97),());bif a9n e then some (((),()),(a9o e).2)else none else none else none else bif K34 (((),300,()),b.2) then let a:=G34 (((),300,()),b.2);let g:=(((),(),c.1.1,a.1),a.2.1,replicate 0 (zero S97),());bif a9n g then some (((),()),(a9o g).2)else none else none else none else none
def g4q (x):=(f7p x).isSome
def f7q (x):=(f7p x).getD (a0R f7o)
def g8K:=(129,a0y true f3d f7o g4q f7q)
noncomputable def g4r:=gE [m34,m77,g6l,e9a] Tryz.f129 (lps:=[(6,lmX d9N c0B)])
theorem d4c:EvX g4r (lp Tryz.f129 0) d9N c0A:=fun _ _=>by kernel_rfl
theorem f3e:a0d Tryz.prog g8K:=a4a (a0z (s4 a3y a7n d7b b3W)) (a1n Tryz.func129 rfl rfl rfl (by kernel_rfl) (a0f (by kernel_rfl) (s1 (lX d4c c8S)))) true fun _=>by kernel_rfl
theorem d9O (x:g4i.den) (h:a0c x.2.1):g4k x=true /\ a0c (g4l x).2.1:=by
 have p:Pst (f7m x) fun y=>a0c y.2.1:=by
  unfold f7m;dsimp only;refine a0e (a1y _ h) (a0W (fun _=>?_) (fun _=>?_))
  ·refine a0e (a7r _ (a1i _ h)) (a0h (G142_cur _ (a1i _ h)))
  ·refine a0e (a0k _ (a1i _ h)) (a0h (a0G _ (a1i _ h)))
 exact⟨a1V p,a2j _ p⟩
theorem c8T (x:g4m.den) (h:a0c x.2.1):g4o x=true /\ a0c (g4p x).2.1:=by
 have p:Pst (f7n x) fun y=>a0c y.2.1:=by
  unfold f7n;dsimp only;refine a0e (a1y _ h) (a0W (fun _=>?_) (fun _=>?_))
  ·refine a0e (a5W _ (a1i _ h) (by simp)) (a0h (a4v _ (a1i _ h) (by simp)))
  ·refine a0e (a0k _ (a1i _ h)) (a0h (a0G _ (a1i _ h)))
 exact⟨a1V p,a2j _ p⟩
theorem d4d (v:b4K) (h:a0c v.2.1) (h0:0<=v.1.2.2.1) (h1:(v.2.2.1.length:Int)+v.1.2.2.1<=300):Pst (c0B v) fun y=>a0c y.2.1 /\ y.2.2.1.length<=300:=by
 refine a0E (q:=c0A) (fun u=>a0c u.2.1 /\ 0<=u.1.2.2.1 /\ (u.2.2.1.length:Int)+u.1.2.2.1<=300)
  (fun _ r=>Pst r fun y=>a0c y.2.1 /\ y.2.2.1.length<=300) (fun u=>u.1.2.2.1.toNat) ?_ _ _ ⟨h,h0,h1⟩ ?_
 ·rintro⟨⟨_,_,n,t,_⟩,c,l,_⟩ f ⟨g0,g1,g2⟩ ih;dsimp only at g0 g1 g2 ih;unfold c0A;dsimp only;by_cases hk:n>0
  ·refine a0e (by simpa using hk) ?_;obtain⟨k1,c1⟩:=b2e (((),()),c,()) g0;refine a0e k1 (a0e (a0r (by simp only[length_set,length_replicate];omega)) (a0e (a0k _ c1) (a0e (a1y _ (a0G _ c1)) ?_)));have e:IntKind.i64.wrap (n-1)=n-1:=w64 (by omega) (by omega);have c3:=a1i (((),60,()),(G34 (((),40,()),(d7a (((),()),c,())).snd)).snd) (a0G _ c1);refine a0W (fun _=>a0e (a7r _ c3) ?_) (fun _=>?_)
   ·refine ih _ ⟨G142_cur _ c3,?_,?_⟩ ?_
    ·show 0<=IntKind.i64.wrap (n-1);omega
    ·simp only[e,length_append,length_set,length_replicate];omega
    ·show(IntKind.i64.wrap (n-1)).toNat<n.toNat;omega
   ·refine ih _ ⟨c3,?_,?_⟩ ?_
    ·show 0<=IntKind.i64.wrap (n-1);omega
    ·simp only[e,length_append,length_set,length_replicate];omega
    ·show(IntKind.i64.wrap (n-1)).toNat<n.toNat;omega
  ·have hd:decide (n>0)=false:=by simpa using hk
   rw[hd];exact a0h ⟨g0,by show l.length<=300;omega⟩
 ·unfold c8S;have:=h0;omega
theorem c0C (x:f3d.den) (h:a0c x.2.1):Pst (f7p x) fun y=>a0c y.2.1 /\ y.2.2.1.length<=300:=by
 have run:∀(n t:Int) (c:List Int×Int×Int×Unit),a0c c->0<=n->n<=300->Pst (bif a9n (((),(),n,t,()),c,[],())then some ((((),()),(a9o (((),(),n,t,()),c,[],())).snd):f7o.den)else none) fun y=>a0c y.2.1 /\ y.2.2.1.length<=300:=by
  intro n t c hc h0 h1;obtain⟨y,hy,q1,q2⟩:=d4d (((),(),n,t,()),c,[],()) hc h0 (by show(0:Int)+n<=300;omega);have e1:a9n (((),(),n,t,()),c,[],())=true:=by unfold a9n;rw[hy];rfl
  have e2:a9o (((),(),n,t,()),c,[],())=y:=by unfold a9o;rw[hy];rfl
  refine a0e e1 ?_;rw[e2];exact a0h ⟨q1,q2⟩
 have k2:∀c:Int,0<=c /\ c<2->0<=IntKind.i64.wrap (200+c) /\ IntKind.i64.wrap (200+c)<=300:=fun c h=>by rw[w64 (by omega) (by omega)];omega
 have k9:∀c:Int,0<=c /\ c<9->0<=c /\ c<=300:=fun c h=>by omega
 unfold f7p;dsimp only;have b0:=a0M 9 x.2.1 h (by decide);have c0:a0c (G34 (((),9,()),x.snd)).2.1:=a0G _ h;have b0:(0:Int)<=((G34 (((),9,()),x.snd)).1.1:Int) /\ ((G34 (((),9,()),x.snd)).1.1:Int)<(9:Int):=b0;refine a0e (a0k _ h) (a0e (a1y _ c0) ?_);generalize G34 (((),9,()),x.snd)=A at *;have b0:=k9 A.1.1 b0;have c1:=a1i (((),40,()),A.snd) c0;generalize G77 (((),40,()),A.snd)=B at *;refine a0W (fun _=>?_) (fun _=>?_)
 ·have b2:=a0M 2 B.2.1 c1 (by decide);have c2:a0c (G34 (((),2,()),B.snd)).2.1:=a0G _ c1;have b2:(0:Int)<=((G34 (((),2,()),B.snd)).1.1:Int) /\ ((G34 (((),2,()),B.snd)).1.1:Int)<(2:Int):=b2;refine a0e (a0k _ c1) (a0e (a0k _ c2) ?_);generalize G34 (((),2,()),B.snd)=C at *;have c3:=a0G (((),300,()),C.snd) c2;generalize G34 (((),300,()),C.snd)=E at *;have b2:=k2 C.1.1 b2;exact run _ _ _ c3 b2.1 b2.2
 ·have c3:=a0G (((),300,()),B.snd) c1;refine a0e (a0k _ c1) ?_;generalize G34 (((),300,()),B.snd)=E at *;exact run _ _ _ c3 b0.1 b0.2
theorem e3v (x:f3d.den) (h:a0c x.2.1):g4q x=true:=a1V (c0C x h)
theorem e3w (x:f3d.den) (h:a0c x.2.1):a0c (f7q x).2.1 /\ (f7q x).2.2.1.length<=300:=a2j _ (c0C x h)
theorem c8U (x:e9i.den) (h:a0c x.2.1):e2f x=true:=(b2e x h).1
theorem G189_cur (x:e9i.den) (h:a0c x.2.1):a0c (d7a x).2.1:=(b2e x h).2
theorem c8V (x:e9j.den) (h:a0c x.2.1):Pst (f5m x) fun y=>a0c y.2.1:=by
 unfold f5m;dsimp only
 (repeat' (with_reducible first|refine a0h ?_|refine a0e (a0k _ cu) ?_|refine a0e (a1y _ cu) ?_|refine a0e (c8U _ cu) ?_|refine a0W (fun _=>?_) (fun _=>?_)))<;>(repeat ((try dsimp only);first|assumption|(with_reducible first|apply G142_cur|apply a0G|apply a1i|apply G189_cur)))
theorem e3x (x:e9j.den) (h:a0c x.2.1):g0b x=true:=a1V (c8V x h)
theorem G144_cur (x:e9j.den) (h:a0c x.2.1):a0c (g0c x).2.1:=a2j _ (c8V x h)
theorem c8W (x:e9f.den) (h:a0c x.2.1):Pst (f5l x) fun y=>a0c y.2.1:=by
 unfold f5l;dsimp only
 (repeat' (with_reducible first|refine a0h ?_|refine a0e (a0k _ cu) ?_|refine a0e (a1y _ cu) ?_|refine a0e (c8U _ cu) ?_|refine a0W (fun _=>?_) (fun _=>?_)))<;>(repeat ((try dsimp only);first|assumption|(with_reducible first|apply G144_cur|apply G142_cur|apply a0G|apply a1i|apply G189_cur)))
theorem b6Z (x:e9f.den) (h:a0c x.2.1):e9g x=true:=a1V (c8W x h)
theorem G143_cur (x:e9f.den) (h:a0c x.2.1):a0c (d2M x).2.1:=a2j _ (c8W x h)
theorem d4e (v:c6h) (h:a0c v.2.1) (h0:0<=v.1.2.2.2.1) (h1:(v.2.2.2.2.1.length:Int)+v.1.2.2.2.1<=3) (h2:1<=(v.2.2.2.2.1.length:Int)+v.1.2.2.2.1):Pst (d2O v) fun y=>a0c y.2.1 /\ y.2.2.2.2.1.length<=3 /\ 1<=y.2.2.2.2.1.length:=by
 refine a0E (q:=d2N) (fun v=>a0c v.2.1 /\ 0<=v.1.2.2.2.1 /\ (v.2.2.2.2.1.length:Int)+v.1.2.2.2.1<=3 /\ 1<=(v.2.2.2.2.1.length:Int)+v.1.2.2.2.1) (fun _ r=>Pst r fun y=>a0c y.2.1 /\ y.2.2.2.2.1.length<=3 /\ 1<=y.2.2.2.2.1.length)
  (fun v=>v.1.2.2.2.1.toNat) ?_ _ _ ⟨h,h0,h1,h2⟩ (Nat.lt_of_lt_of_le (m:=1000) (by omega) (Nat.le_add_left _ _))
 clear h h0 h1 h2 v;rintro⟨⟨_,_,_,k,_⟩,c,b1,b2,l,_⟩ f ⟨g0,g1,g2,g3⟩ ih;simp only at g0 g1 g2 g3 ih;unfold d2N;dsimp only;by_cases hk:k>0
 ·refine a0e (by simpa using hk) ?_;refine a0e (b6Z _ cu) ?_;refine a0e (a1y _ cu) ?_;refine a0e ?_ ?_
  ·refine a0r ?_;simp only[length_set,length_replicate];omega
  have e:IntKind.i64.wrap (k-1)=k-1:=w64 (by omega) (by omega);refine ih _ ⟨cu,?_,?_,?_⟩ ?_<;>simp only[e,length_append,length_set,length_replicate]<;>omega
 ·have:decide (k>0)=false:=by simpa using hk
  rw[this];exact a0h ⟨g0,by show l.length<=3;omega,by show 1<=l.length;omega⟩
theorem c0D (v:a9d) (h:a0c v.2.1) (h1:v.2.2.2.2.1.length<=22):Pst (b9g v) fun y=>a0c y.2.1 /\ y.2.2.2.2.1.length<=22:=by
 refine a0E (q:=b9f) (fun v=>a0c v.2.1 /\ v.2.2.2.2.1.length<=22) (fun _ r=>Pst r fun y=>a0c y.2.1 /\ y.2.2.2.2.1.length<=22)
  (fun v=>22-v.2.2.2.2.1.length) ?_ _ _ ⟨h,h1⟩ (Nat.lt_of_lt_of_le (m:=1000) (by omega) (Nat.le_add_left _ _))
 clear h h1 v;rintro⟨⟨_,_,_,_⟩,c,b1,b2,l,_⟩ f ⟨g0,g2⟩ ih;simp only at g0 g2 ih;unfold b9f;dsimp only;refine a0e (a0k _ cu) ?_;have b2':0<=((G34 (((),2,()),c,())).fst.fst:Int) /\ ((G34 (((),2,()),c,())).fst.fst:Int)<2:=a0M 2 c g0 (by decide);have c2:a0c (G34 (((),2,()),c,())).snd.fst:=cu;generalize G34 (((),2,()),c,())=D at *;have bd:∀z:Int,z=D.fst.fst->IntKind.i64.wrap (20+z)<=21:=fun z e=>by
  have h1:0<=z:=e ▸ b2'.1;have h2:z<2:=e ▸ b2'.2;rw[w64 (by omega) (by omega)];omega
 have bd':=bd _ rfl;by_cases hl:(l.length:Int)<IntKind.i64.wrap (20+D.fst.fst)
 ·refine a0e (by simpa using hl) ?_;refine a0e ?_ ?_
  ·refine a0r ?_;simp only[length_set,length_replicate];omega
  have hl':(l.length:Int)<21:=Int.lt_of_lt_of_le hl bd';refine ih _ ⟨c2,?_⟩ ?_<;>simp only[length_append,length_set,length_replicate]<;>omega
 ·have:decide ((l.length:Int)<IntKind.i64.wrap (20+D.fst.fst))=false:=by simpa using hl
  rw[this];exact a0h ⟨c2,g2⟩
theorem g4s (v:a9d) (h:a0c v.2.1) (h1:v.2.2.2.2.1.length<=22):c6g v=true:=a1V (c0D v h h1)
theorem g4t (v:a9d) (h:a0c v.2.1) (h1:v.2.2.2.2.1.length<=22):a0c (b6l v).2.1 /\ (b6l v).2.2.2.2.1.length<=22:=a2j _ (c0D v h h1)
theorem b4L (x:I76.den) (h:a0c x.2.1):Pst (F76 x) fun y=>a0c y.2.1 /\ y.1.1.2.1.length<=22:=by
 unfold F76;dsimp only;refine a0e (a0k _ cu) ?_;refine a0e (a0k _ cu) ?_;have c9:a0c (G34 (((),9,()),x.snd)).snd.fst:=cu;have b3:0<=((G34 (((),3,()),(G34 (((),9,()),x.snd)).snd)).fst.fst:Int) /\ ((G34 (((),3,()),(G34 (((),9,()),x.snd)).snd)).fst.fst:Int)<3:=a0M 3 (G34 (((),9,()),x.snd)).2.1 c9 (by decide);have c3:a0c (G34 (((),3,()),(G34 (((),9,()),x.snd)).snd)).snd.fst:=cu;generalize G34 (((),3,()),(G34 (((),9,()),x.snd)).snd)=D at *;generalize G34 (((),9,()),x.snd)=B at *;have bd:∀z:Int,z=D.fst.fst->1<=IntKind.i64.wrap (1+z) /\ IntKind.i64.wrap (1+z)<=3:=fun z e=>by
  have h1:0<=z:=e ▸ b3.1;have h2:z<3:=e ▸ b3.2;rw[w64 (by omega) (by omega)];omega
 have p:=d4e (((),(),(),IntKind.i64.wrap (1+D.fst.fst),()),D.snd.fst,(0,0,0,0,(),0,0,0,0,()),(0,-20,IntKind.i64.wrap (B.fst.fst-4),20,(),0,0,0,0,()),[],()) c3 (Int.le_trans (by decide) (bd _ rfl).1) (by simpa using(bd _ rfl).2) (by simpa using(bd _ rfl).1);refine a0e (a1V p) ?_;obtain⟨y,ey,hy⟩:=p;have ex:c6i (((),(),(),IntKind.i64.wrap (1+D.fst.fst),()),D.snd.fst,(0,0,0,0,(),0,0,0,0,()),(0,-20,IntKind.i64.wrap (B.fst.fst-4),20,(),0,0,0,0,()),[],())=y:=by unfold c6i;rw[ey];rfl
 rw[ex];obtain⟨cy,ly,ly1⟩:=hy;refine a0e (b6Z _ cu) ?_;refine a0e (b6Z _ cu) ?_;refine a0e (a0k _ cu) ?_;have cA:a0c (G34 (((),20,()),(d2M (((),(50,20,()),20,()),(d2M (((),(50,-20,()),20,()),y.snd.fst,())).snd)).snd)).snd.fst:=cu;generalize G34 (((),20,()),(d2M (((),(50,20,()),20,()),(d2M (((),(50,-20,()),20,()),y.snd.fst,())).snd)).snd)=A at *;have l3:y.2.2.2.2.1.length<=22:=by omega
 refine a0W (fun _=>?_) (fun _=>?_)
 ·exact a0h ⟨cA,by simp⟩
 refine a0W (fun _=>?_) (fun _=>?_)
 ·refine a0e ?_ ?_
  ·have:decide (0<((y.snd.snd.snd.snd.fst.length:Nat):Int))=true:=by simp;omega
   rw[this];rfl
  exact a0h ⟨cA,by simp only[length_set];exact l3⟩
 refine a0W (fun _=>?_) (fun _=>?_)
 ·refine a0e (e3x _ cu) ?_;exact a0h ⟨cu,l3⟩
 refine a0W (fun _=>?_) (fun _=>?_)
 ·exact a0h ⟨cA,l3⟩
 refine a0W (fun _=>?_) (fun _=>?_)
 ·refine a0e (g4s _ cA l3) ?_;exact a0h (g4t _ cA l3)
 ·exact a0h ⟨cA,l3⟩
theorem f3f (x:I76.den) (h:a0c x.2.1):K76 x=true:=a1V (b4L x h)
theorem b4M (x:I33.den) (h:a0c x.2.1):Pst (F33 x) fun y=>a0c y.2.1:=by
 unfold F33;dsimp only;refine a0e (c7T _ cu) ?_;refine a0e (c7T _ cu) ?_;exact a0h cu
theorem c8X (x:I33.den) (h:a0c x.2.1):K33 x=true:=a1V (b4M x h)
theorem G33_cur (x:I33.den) (h:a0c x.2.1):a0c (G33 x).2.1:=a2j _ (b4M x h)
theorem d4f (x:Den f5n) (h:x.1.length<=1048576):Pst (f5o x) fun _=>True:=by
 have c0:=c6l (x,()) h;unfold f5o;dsimp only;refine a0e (d7j (x,()) h) ?_;generalize G30 (x,())=A at *;refine a0e (c8X _ cu) ?_;refine a0e (a0k _ cu) ?_;refine a0W (fun _=>a0h trivial) (fun _=>?_);refine a0W (fun _=>a0h trivial) (fun _=>?_);refine a0W (fun _=>?_) (fun _=>a0h trivial);refine a0e (a7q _ cu) ?_;refine a0e (a7q _ cu) ?_;exact a0h trivial
theorem e3y (x:Den f5n) (h:x.1.length<=1048576):g0f x=true:=a1V (d4f x h)
theorem c8Y (v:c5Y) (h:a0c v.2.1) (h0:0<=v.1.2.2.2.2.2.1):Pst (d2F v) fun y=>a0c y.2.1 /\ y.1.2.2.2.1=v.1.2.2.2.1 /\ y.2.2.2.2.1=v.2.2.2.2.1:=by
 refine a0E (q:=d2E) (fun u=>a0c u.2.1 /\ u.1.2.2.2.1=v.1.2.2.2.1 /\ u.2.2.2.2.1=v.2.2.2.2.1 /\ 0<=u.1.2.2.2.2.2.1)
  (fun _ r=>Pst r fun y=>a0c y.2.1 /\ y.1.2.2.2.1=v.1.2.2.2.1 /\ y.2.2.2.2.1=v.2.2.2.2.1) (fun u=>(13-u.1.2.2.2.2.2.1).toNat) ?_ _ _ ⟨h,rfl,rfl,h0⟩ ?_
 ·rintro⟨⟨_,_,_,n,_,i,_⟩,⟨c0,c1,c2,_⟩,_,_,l,st,_⟩ f ⟨g0,g1,g2,g3⟩ ih;dsimp only at g0 g1 g2 g3 ih;unfold d2E;dsimp only;by_cases hk:i<13
  ·refine a0e (by simpa using hk) ?_;refine a0e (a0k _ cu) ?_;refine a0e (a0k _ cu) ?_;refine a0e (by simp;omega) ?_;have e:IntKind.i64.wrap (i+1)=i+1:=w64 (by omega) (by omega);refine ih _ ⟨cu,g1,g2,?_⟩ ?_
   ·show 0<=IntKind.i64.wrap (i+1);omega
   ·show(13-IntKind.i64.wrap (i+1)).toNat<(13-i).toNat;omega
  ·have hd:decide (i<13)=false:=by simpa using hk
   rw[hd];exact a0h ⟨g0,g1,g2⟩
 ·exact Nat.lt_of_lt_of_le (m:=1000) (by omega) (Nat.le_add_left _ _)
theorem b2f (v:c6b) (h:a0c v.2.1) (h0:0<=v.1.2.2.2.1) (h1:(v.2.2.2.2.1.length:Int)+v.1.2.2.2.1<=3) (h2:1<=(v.2.2.2.2.1.length:Int)+v.1.2.2.2.1):Pst (d2H v) fun y=>a0c y.2.1 /\ 1<=y.2.2.2.2.1.length /\ y.2.2.2.2.1.length<=3:=by
 refine a0E (q:=d2G) (fun u=>a0c u.2.1 /\ 0<=u.1.2.2.2.1 /\ (u.2.2.2.2.1.length:Int)+u.1.2.2.2.1<=3 /\ 1<=(u.2.2.2.2.1.length:Int)+u.1.2.2.2.1)
  (fun _ r=>Pst r fun y=>a0c y.2.1 /\ 1<=y.2.2.2.2.1.length /\ y.2.2.2.2.1.length<=3) (fun u=>u.1.2.2.2.1.toNat) ?_ _ _ ⟨h,h0,h1,h2⟩ ?_
 ·rintro⟨⟨_,_,_,n,_⟩,⟨c0,c1,c2,_⟩,_,_,l,_⟩ f ⟨g0,g1,g2,g3⟩ ih;dsimp only at g0 g1 g2 g3 ih;unfold d2G;dsimp only;by_cases hk:n>0
  ·refine a0e (by simpa using hk) ?_;refine a0e (a0k _ cu) ?_;refine a0e (a0k _ cu) ?_;have c5:a0c (G34 (((),8001,()),(G34 (((),8001,()),(c0,c1,c2,()),())).snd)).snd.fst:=cu;generalize hA:G34 (((),8001,()),(c0,c1,c2,()),())=A at *;generalize hB:G34 (((),8001,()),A.snd)=B at *;generalize (nearest FloatKind.f64 (wrap IntKind.i64 (A.fst.fst-4000)),nearest FloatKind.f64 (wrap IntKind.i64 (B.fst.fst-4000)))=at0;have hl:=c8Y (((),(),(),n,(),0,()),B.snd.fst,((),(),()),((),(),()),l,(at0,(0,0),(0,0),(0,0),(0,0),(0,0),(0,0),(0,0),(0,0),(0,0),(0,0),(0,0),(0,0),(0,0),()),()) c5 (Int.le_refl 0);obtain⟨y,hy,q1,q2,q3⟩:=hl;have e1:c5Z (((),(),(),n,(),0,()),B.snd.fst,((),(),()),((),(),()),l,(at0,(0,0),(0,0),(0,0),(0,0),(0,0),(0,0),(0,0),(0,0),(0,0),(0,0),(0,0),(0,0),(0,0),()),())=true:=by unfold c5Z;rw[hy];rfl
   have e2:c6a (((),(),(),n,(),0,()),B.snd.fst,((),(),()),((),(),()),l,(at0,(0,0),(0,0),(0,0),(0,0),(0,0),(0,0),(0,0),(0,0),(0,0),(0,0),(0,0),(0,0),(0,0),()),())=y:=by unfold c6a;rw[hy];rfl
   refine a0e e1 ?_;rw[e2];obtain⟨⟨_,_,_,n',_,_⟩,c,_,_,l',st,_⟩:=y;dsimp only at q1 q2 q3;subst q2 q3;dsimp only;have e:IntKind.i64.wrap (n'-1)=n'-1:=w64 (by omega) (by omega);refine a0e (a1y _ cu) ?_;refine a0W (fun _=>?_) (fun _=>?_)
   all_goals
    refine a0e (a0r (by simp only[length_set,length_replicate];omega)) ?_;refine ih _ ⟨cu,?_,?_,?_⟩ ?_
    ·show 0<=IntKind.i64.wrap (n'-1);omega
    ·simp only[e,length_append,length_set,length_replicate];omega
    ·simp only[e,length_append,length_set,length_replicate];omega
    ·show(IntKind.i64.wrap (n'-1)).toNat<n'.toNat;omega
  ·have hd:decide (n>0)=false:=by simpa using hk
   rw[hd];exact a0h ⟨g0,by show 1<=l.length;omega,by show l.length<=3;omega⟩
 ·unfold e2a;have:=h0;omega
theorem c2D (v:b3U) (h:a0c v.2.1) (h0:0<=v.1.2.2.2.2.1) (h1:(v.2.2.2.2.2.1.length:Int)+v.1.2.2.2.2.1<=5) (h2:1<=(v.2.2.2.2.2.1.length:Int)+v.1.2.2.2.2.1):Pst (b9c v) fun y=>a0c y.2.1 /\ y.2.2.2.2.1=v.2.2.2.2.1 /\ 1<=y.2.2.2.2.2.1.length /\ y.2.2.2.2.2.1.length<=5:=by
 refine a0E (q:=b9b) (fun u=>a0c u.2.1 /\ u.2.2.2.2.1=v.2.2.2.2.1 /\ 0<=u.1.2.2.2.2.1 /\ (u.2.2.2.2.2.1.length:Int)+u.1.2.2.2.2.1<=5 /\ 1<=(u.2.2.2.2.2.1.length:Int)+u.1.2.2.2.2.1)
  (fun _ r=>Pst r fun y=>a0c y.2.1 /\ y.2.2.2.2.1=v.2.2.2.2.1 /\ 1<=y.2.2.2.2.2.1.length /\ y.2.2.2.2.2.1.length<=5) (fun u=>u.1.2.2.2.2.1.toNat) ?_ _ _ ⟨h,rfl,h0,h1,h2⟩ ?_
 ·rintro⟨⟨_,_,_,t,n,_⟩,⟨c0,c1,c2,_⟩,_,_,l,hs,_⟩ f ⟨g0,g1,g2,g3,g4⟩ ih;dsimp only at g0 g1 g2 g3 g4 ih;unfold b9b;dsimp only;by_cases hk:n>0
  ·refine a0e (by simpa using hk) ?_;refine a0e (a0r (by simp only[length_set,length_replicate];omega)) ?_;refine a0e (a0k _ cu) ?_;refine a0e (a0k _ cu) ?_;have e:IntKind.i64.wrap (n-1)=n-1:=w64 (by omega) (by omega);refine ih _ ⟨cu,g1,?_,?_,?_⟩ ?_
   ·show 0<=IntKind.i64.wrap (n-1);omega
   ·simp only[e,length_append,length_set,length_replicate];omega
   ·simp only[e,length_append,length_set,length_replicate];omega
   ·show(IntKind.i64.wrap (n-1)).toNat<n.toNat;omega
  ·have hd:decide (n>0)=false:=by simpa using hk
   rw[hd];exact a0h ⟨g0,g1,by show 1<=hs.length;omega,by show hs.length<=5;omega⟩
 ·unfold c5X;have:=h0;omega
theorem c0E (d n:Int) (hd:0<=d /\ d<n) (hn:n<=100):1<=IntKind.i64.wrap (1+d) /\ IntKind.i64.wrap (1+d)<=n:=by
 rw[w64 (by omega) (by omega)];omega
theorem c8Z (x:I74.den) (h:a0c x.2.1):Pst (F74 x) fun y=>a0c y.2.1 /\ (1<=y.2.2.1.length /\ y.2.2.1.length<=3) /\ 1<=y.2.2.2.1.length /\ y.2.2.2.1.length<=5:=by
 unfold F74;dsimp only;refine a0e (a0k _ cu) ?_;have b1:=c0E _ 3 (a0M 3 x.2.1 h (by decide)) (by decide);have c1:a0c (G34 (((),3,()),x.snd)).snd.fst:=cu;have b1:1<=IntKind.i64.wrap (1+(G34 (((),3,()),x.snd)).fst.fst) /\ IntKind.i64.wrap (1+(G34 (((),3,()),x.snd)).fst.fst)<=3:=b1;generalize G34 (((),3,()),x.snd)=A at *;generalize IntKind.i64.wrap (1+A.fst.fst)=n at *;obtain⟨y,hy,q1,q2,q3⟩:=b2f (((),(),(),n,()),A.snd.fst,((),(),()),((),(),()),[],()) c1 (by show 0<=n;omega) (by show(0:Int)+n<=3;omega) (by show 1<=(0:Int)+n;omega);have e1:c6c (((),(),(),n,()),A.snd.fst,((),(),()),((),(),()),[],())=true:=by unfold c6c;rw[hy];rfl
 have e2:c6d (((),(),(),n,()),A.snd.fst,((),(),()),((),(),()),[],())=y:=by unfold c6d;rw[hy];rfl
 refine a0e e1 ?_;rw[e2];obtain⟨_,c,_,_,l,_⟩:=y;dsimp only at q1 q2 q3 ⊢;refine a0e (a0k _ cu) ?_;have c2:a0c (G34 (((),30000,()),c,())).snd.fst:=cu;generalize G34 (((),30000,()),c,())=B at *;refine a0e (a0k _ cu) ?_;have b2:=c0E _ 5 (a0M 5 B.2.1 c2 (by decide)) (by decide);have c3:a0c (G34 (((),5,()),B.snd)).snd.fst:=cu;have b2:1<=IntKind.i64.wrap (1+(G34 (((),5,()),B.snd)).fst.fst) /\ IntKind.i64.wrap (1+(G34 (((),5,()),B.snd)).fst.fst)<=5:=b2;generalize G34 (((),5,()),B.snd)=C at *;generalize IntKind.i64.wrap (1+C.fst.fst)=m at *;obtain⟨y,hy,r1,r2,r3,r4⟩:=c2D (((),(),(),B.fst.fst,m,()),C.snd.fst,((),(),()),((),(),()),l,[],()) c3 (by show 0<=m;omega) (by show(0:Int)+m<=5;omega) (by show 1<=(0:Int)+m;omega);have e3:b6i (((),(),(),B.fst.fst,m,()),C.snd.fst,((),(),()),((),(),()),l,[],())=true:=by unfold b6i;rw[hy];rfl
 have e4:b6j (((),(),(),B.fst.fst,m,()),C.snd.fst,((),(),()),((),(),()),l,[],())=y:=by unfold b6j;rw[hy];rfl
 refine a0e e3 ?_;rw[e4];obtain⟨_,c',_,_,l',hs,_⟩:=y;dsimp only at r1 r2 r3 r4 ⊢;subst r2;exact a0h ⟨r1,⟨q2,q3⟩,r3,r4⟩
theorem d9P (x:I74.den) (h:a0c x.2.1):K74 x=true:=a1V (c8Z x h)
theorem d9Q (x:I74.den) (h:a0c x.2.1):a0c (G74 x).2.1 /\ (1<=(G74 x).2.2.1.length /\ (G74 x).2.2.1.length<=3) /\ 1<=(G74 x).2.2.2.1.length /\ (G74 x).2.2.2.1.length<=5:=a2j _ (c8Z x h)
theorem f3g (d:Int) (h:0<=d /\ d<2):IntKind.i64.wrap (20+d)<=21:=by
 rw[w64 (by omega) (by omega)];omega
theorem b7a (v:b3X) (h:a0c v.2.1) (h1:1<=v.2.2.2.2.1.length) (h2:v.2.2.2.2.1.length<=21):Pst (b9i v) fun y=>a0c y.2.1 /\ y.2.2.2.2.1.length<=21 /\ y.2.2.2.2.2.1=v.2.2.2.2.2.1:=by
 refine a0E (q:=b9h) (fun u=>a0c u.2.1 /\ 1<=u.2.2.2.2.1.length /\ u.2.2.2.2.1.length<=21 /\ u.2.2.2.2.2.1=v.2.2.2.2.2.1)
  (fun _ r=>Pst r fun y=>a0c y.2.1 /\ y.2.2.2.2.1.length<=21 /\ y.2.2.2.2.2.1=v.2.2.2.2.2.1) (fun u=>21-u.2.2.2.2.1.length) ?_ _ _ ⟨h,h1,h2,rfl⟩ ?_
 ·rintro⟨_,⟨c0,c1,c2,_⟩,_,_,l,hs,_⟩ f ⟨g0,g1,g2,g3⟩ ih;dsimp only at g0 g1 g2 g3 ih;unfold b9h;dsimp only;refine a0e (a0k _ cu) ?_;have b2:=a0M 2 (c0,c1,c2,()) g0 (by decide);have e:IntKind.i64.wrap (20+(G34 (((),2,()),(c0,c1,c2,()),())).fst.fst)<=21:=f3g _ b2;refine a0W (fun hb=>?_) (fun _=>a0h ⟨cu,g2,g3⟩);have hb:(l.length:Int)<IntKind.i64.wrap (20+(G34 (((),2,()),(c0,c1,c2,()),())).fst.fst):=by simpa using hb
  refine a0e (by simp;omega) ?_;refine a0e (a0r (by simp only[length_set,length_replicate];omega)) ?_;refine ih _ ⟨cu,?_,?_,g3⟩ ?_<;>simp only[length_append,length_set,length_replicate]<;>omega
 ·unfold c6j;omega
def p79 (x:I79.den):Bool:=d0U x.2.1
def a4y (t:Den S30):Prop:=t.1.length<=21 /\ t.2.1.length<=6
def Q79 (x:I79.den) (y:O79.den):Prop:=a0c y.2.1 /\ a4y y.1.1
theorem e79:Nonempty (Ch I79 O79 p79 Q79):=⟨⟨fun _=>((([],[],()),()),(d3z,())),fun _ _=>⟨a4Z,by show 0<=21;decide,by show 0<=6;decide⟩⟩⟩
theorem g4u:a2i Tryz.prog 79 (a2K true I79 O79 p79 Q79 e79):=b0r g0h (N:=N79 p128 Q128 e128) (a2m ⟨d8Y,trivial⟩) g9G a1d fun x hx k hk=>by
 have hk:∀y:O79.den,a0c y.2.1->y.1.1.1.length<=21->y.1.1.2.1.length<=6->k y=some ():=fun y h1 h2 h3=>hk y ⟨h1,h2,h3⟩
 have h:a0c x.2.1:=a0T.1 hx;refine Eq.trans (g0k _ _ _ k x) ?_;unfold g6t;dsimp only
 haveI:=e128
 have t0:=d9Q (((),()),x.snd) h;refine a0q (d9P _ h) ?_;generalize G74 (((),()),x.snd)=T at *;obtain⟨_,c,l,hs,_⟩:=T;dsimp only at t0 ⊢;obtain⟨t1,⟨t2,t3⟩,t4,t5⟩:=t0;refine a0q (a0k _ cu) ?_;have b1:=a0M (l.length:Int) c t1 (by omega);have c1:a0c (G34 (((),(l.length:Int),()),c,())).snd.fst:=cu;generalize G34 (((),(l.length:Int),()),c,())=A at *;obtain⟨⟨i,_⟩,cA,_⟩:=A;dsimp only at b1 c1 ⊢;refine a0q (a0k _ cu) ?_;have c2:a0c (G34 (((),24,()),cA,())).snd.fst:=cu;generalize G34 (((),24,()),cA,())=B at *;have din:(decide (0<=i)&&decide (i<(l.length:Int)))=true:=by simp only[and_eq_true,decide_eq_true_eq];exact b1
 refine a1q (fun _=>?_) (fun _=>?_)
 ·refine a0q (b4a _ c2) ?_;have c3:=e2j (((),()),B.snd) c2;generalize G82 (((),()),B.snd)=C at *;refine a0q (e3y _ (by simp)) ?_;refine a0q din ?_;exact hk _ c3 (by simp only[length_set];omega) (by show hs.length<=6;omega)
 refine a1q (fun _=>?_) (fun _=>?_)
 ·refine a0l fun g=>?_
  refine a0q (a0k _ cu) ?_;have b4:=a0M 13 B.2.1 c2 (by decide);have b4:0<=(G34 (((),13,()),B.snd)).fst.fst /\ (G34 (((),13,()),B.snd)).fst.fst<13:=b4;have c4:a0c (G34 (((),13,()),B.snd)).snd.fst:=cu;generalize G34 (((),13,()),B.snd)=D at *;have hp:p128 (((),()),D.snd)=true:=a0T.2 c4;have q1:a0c (g.val (((),()),D.snd)).2.1:=g.2 _ hp;refine a0q hp ?_;generalize g.val (((),()),D.snd)=C at *;refine a0q din ?_;refine a0q (by simp only[and_eq_true,decide_eq_true_eq];exact b4) ?_;exact hk _ q1 (by simp only[length_set];omega) (by show hs.length<=6;omega)
 refine a1q (fun _=>?_) (fun _=>?_)
 ·refine a0q (a0k _ cu) ?_;have b5:=a0M (hs.length:Int) B.2.1 c2 (by omega);have b5:0<=(G34 (((),(hs.length:Int),()),B.snd)).fst.fst /\ (G34 (((),(hs.length:Int),()),B.snd)).fst.fst<(hs.length:Int):=b5;have c5:a0c (G34 (((),(hs.length:Int),()),B.snd)).snd.fst:=cu;generalize G34 (((),(hs.length:Int),()),B.snd)=D at *;refine a0q (a7r _ cu) ?_;refine a0q (by simp only[and_eq_true,decide_eq_true_eq];exact b5) ?_;exact hk _ cu (by show l.length<=21;omega) (by simp only[length_set];omega)
 refine a1q (fun _=>hk _ c2 (by show l.length<=21;omega) (by show 0<=6;decide)) (fun _=>?_);refine a1q (fun _=>hk _ c2 (by show 0<=21;decide) (by show hs.length<=6;omega)) (fun _=>?_);refine a1q (fun _=>?_) (fun _=>?_)
 ·obtain⟨y,hy,r1,r2,r3⟩:=b7a (((),(),(),()),B.snd.fst,((),(),()),((),(),()),l,hs,()) c2 t2 (by show l.length<=21;omega);have e3:b6m (((),(),(),()),B.snd.fst,((),(),()),((),(),()),l,hs,())=true:=by unfold b6m;rw[hy];rfl
  have e4:b6n (((),(),(),()),B.snd.fst,((),(),()),((),(),()),l,hs,())=y:=by unfold b6n;rw[hy];rfl
  refine a0q e3 ?_;rw[e4];obtain⟨_,c',_,_,l',hs',_⟩:=y;dsimp only at r1 r2 r3 ⊢;subst r3;exact hk _ r1 r2 (by show hs'.length<=6;omega)
 refine a1q (fun _=>?_) (fun _=>hk _ c2 (by show l.length<=21;omega) (by show hs.length<=6;omega));have e5:IntKind.i64.wrap ((hs.length:Int)-1)=(hs.length:Int)-1:=w64 (by omega) (by omega);rw[e5];refine a0q (by simp only[and_eq_true,decide_eq_true_eq];omega) ?_;refine a0q (a0r (by simp only[length_set,length_replicate];omega)) ?_;exact hk _ c2 (by show l.length<=21;omega) (by simp only[length_append,length_set,length_replicate];omega)
def f7r:List (Nat×TI):=[
 (1,⟨1,8,false,.nil,[.pois],[],0,.other⟩),
 (2,⟨1,8,false,.int .i64,[.int .i64 0],[],0,.int .i64⟩),
 (3,⟨1,8,false,.int .i64,[.int .i64 0],[],0,.int .i64⟩),
 (4,⟨1,1,false,.bool,[.bool false],[],0,.bool⟩),
 (5,⟨1,1,false,.int .u8,[.int .u8 0],[],0,.int .u8⟩),
 (9,⟨1,16,false,.str,[.str ByteArray.empty],[],0,.string⟩),
 (10,⟨1,16,false,.str,[.str ByteArray.empty],[],0,.string⟩),
 (22,⟨1,24,false,.slice (.int .u8),[.nil (.int .u8)],[],5,.slice⟩),
 (24,⟨1,24,false,.slice .jnk,[.nil (.flt .f32)],[],62,.slice⟩),
 (25,⟨1,24,false,.slice (.int .i64),[.nil (.int .i64)],[],3,.slice⟩),
 (26,⟨1,24,false,.slice (.slice .jnk),[.nil (.slice .jnk)],[],24,.slice⟩),
 (28,⟨3,72,true,S27,[.nil (.flt .f32),.nil (.int .i64),.nil (.slice .jnk)],[(0,1,false),(1,1,false),(2,1,false)],0,.struct⟩),
 (50,⟨1,24,false,.slice (.bool),[.nil (.bool)],[],4,.slice⟩),
 (62,⟨1,4,false,.flt .f32,[.flt .f32 0],[],0,.float .f32⟩),
 (104,⟨1,8,false,.int .u64,[.int .u64 0],[],0,.int .u64⟩),
 (109,⟨1,8,false,.flt .f64,[.flt .f64 0],[],0,.float .f64⟩),
 (122,⟨3,40,true,a1U,[.nil (.int .u8),.int .i64 0,.int .i64 0],[(0,1,false),(1,1,false),(2,1,false)],0,.struct⟩),
 (142,⟨1,8,false,.nil,[.pois],[],0,.other⟩),
 (208,⟨1,8,false,.nil,[.pois],[],0,.other⟩),
 (240,⟨1,8,false,.nil,[.pois],[],0,.other⟩)]
theorem e3z:f4m Tryz.prog f7r=true:=by kernel_rfl
theorem d9R {sems fn lps frz cut past rown} (hs:a6W (a0d Tryz.prog) sems):a1g Tryz.prog (gE sems fn lps frz cut past rown f7r):=a4E mixed e3z a4F hs
abbrev c9a:Sg:=⟨[.ptr 0],[.box (a1U)]⟩
abbrev d4g:Sg:=⟨[.mix [.ref (.flt .f32) 1,.ref (.int .i64) 2,.ref (.slice (.jnk)) 3]],[.box (a1U),.arr (.flt .f32),.arr (.int .i64),.arr (.slice (.jnk))]⟩
abbrev a6I:Type:=(Unit×Unit×Unit×Nat×Int×b1Q)×ty3×a7l×a7l×a9V×ty0×List (Den (.slice (.jnk)))×a9V×Unit
abbrev c0F:Type:=(Unit×Unit×Unit×Nat×Int×List (Den (.jnk))×Unit)×ty9
def c0G:LX:=⟨[0,2,3,6,7,8,9],[],4,[0,2,3,6,7,8],[.jnk 8],⟨li5,[(0,bx0),(1,bx3),(2,bx6),(3,.arr (.flt .f32)),(4,.arr (.int .i64)),(5,.arr (.slice (.jnk))),(6,.arr (.flt .f32))],7,1⟩,⟨[(0,om1),(2,om3),(3,om4),(6,om9),(7,om0),(8,.one (.sl (.jnk)))],li3,6,1⟩⟩
def a8k (f:a6I->Option (c0F)) (v:a6I):Option (c0F):=bif decide (v.1.2.2.2.2.2.2.1<(length v.2.2.2.2.2.1:Int)) then bif K34 (((),57,()),v.2.1,()) then bif v.1.2.2.2.2.2.2.1==0 then let a:=G34 (((),57,()),v.2.1,());bif K77 (((),8,()),a.2) then let b:=G77 (((),8,()),a.2);bif !b.1.1 then bif fgt .f32 v.1.2.2.2.1 1084227584 then bif K34 (((),40,()),b.2) then let c:=G34 (((),40,()),b.2);let d:=set (replicate 1 (zero (Ty.flt .f32))) 0 (a0a .add .f32 0 (a0a .quo .f32 (nearest .f32 c.1.1) 1098907648));bif a0j (length v.2.2.2.2.2.2.2.1+length d) then f ((((),(),(),v.1.2.2.2.1,v.1.2.2.2.2.1,(),wrap .i64 (v.1.2.2.2.2.2.2.1+1),()),c.2.1,((),(),(),()),((),(),(),()),v.2.2.2.2.1,v.2.2.2.2.2.1,v.2.2.2.2.2.2.1,v.2.2.2.2.2.2.2.1++d,()))else none else none else let e:=set (replicate 1 (zero (Ty.flt .f32))) 0 0;bif a0j (length v.2.2.2.2.2.2.2.1+length e) then f ((((),(),(),v.1.2.2.2.1,v.1.2.2.2.2.1,(),wrap .i64 (v.1.2.2.2.2.2.2.1+1),()),b.2.1,((),(),(),()),((),(),(),()),v.2.2.2.2.1,v.2.2.2.2.2.1,v.2.2.2.2.2.2.1,v.2.2.2.2.2.2.2.1++e,()))else none else bif fgt .f32 v.1.2.2.2.1 1084227584 then bif K34 (((),40,()),b.2) then let h:=G34 (((),40,()),b.2);let g:=set (replicate 1 (zero (Ty.flt .f32))) 0 (a0a .add .f32 (a0a .quo .f32 (nearest .f32 (wrap .i64 (8+a.1.1))) 1098907648) (a0a .quo .f32 (nearest .f32 h.1.1) 1098907648));bif a0j (length v.2.2.2.2.2.2.2.1+length g) then f ((((),(),(),v.1.2.2.2.1,v.1.2.2.2.2.1,(),wrap .i64 (v.1.2.2.2.2.2.2.1+1),()),h.2.1,((),(),(),()),((),(),(),()),v.2.2.2.2.1,v.2.2.2.2.2.1,v.2.2.2.2.2.2.1,v.2.2.2.2.2.2.2.1++g,()))else none else none else let i:=set (replicate 1 (zero (Ty.flt .f32))) 0 (a0a .quo .f32 (nearest .f32 (wrap .i64 (8+a.1.1))) 1098907648);bif a0j (length v.2.2.2.2.2.2.2.1+length i) then f ((((),(),(),v.1.2.2.2.1,v.1.2.2.2.2.1,(),wrap .i64 (v.1.2.2.2.2.2.2.1+1),()),b.2.1,((),(),(),()),((),(),(),()),v.2.2.2.2.1,v.2.2.2.2.2.1,v.2.2.2.2.2.2.1,v.2.2.2.2.2.2.2.1++i,()))else none else none else bif fgt .f32 v.1.2.2.2.1 1084227584 then let a:=G34 (((),57,()),v.2.1,());bif K34 (((),40,()),a.2) then let c:=G34 (((),40,()),a.2);let d:=set (replicate 1 (zero (Ty.flt .f32))) 0 (a0a .add .f32 (a0a .quo .f32 (nearest .f32 (wrap .i64 (8+a.1.1))) 1098907648) (a0a .quo .f32 (nearest .f32 c.1.1) 1098907648));bif a0j (length v.2.2.2.2.2.2.2.1+length d) then f ((((),(),(),v.1.2.2.2.1,v.1.2.2.2.2.1,(),wrap .i64 (v.1.2.2.2.2.2.2.1+1),()),c.2.1,((),(),(),()),((),(),(),()),v.2.2.2.2.1,v.2.2.2.2.2.1,v.2.2.2.2.2.2.1,v.2.2.2.2.2.2.2.1++d,()))else none else none else let a:=G34 (((),57,()),v.2.1,());let e:=set (replicate 1 (zero (Ty.flt .f32))) 0 (a0a .quo .f32 (nearest .f32 (wrap .i64 (8+a.1.1))) 1098907648);bif a0j (length v.2.2.2.2.2.2.2.1+length e) then f ((((),(),(),v.1.2.2.2.1,v.1.2.2.2.2.1,(),wrap .i64 (v.1.2.2.2.2.2.2.1+1),()),a.2.1,((),(),(),()),((),(),(),()),v.2.2.2.2.1,v.2.2.2.2.2.1,v.2.2.2.2.2.2.1,v.2.2.2.2.2.2.2.1++e,()))else none else none else some (((),(),(),v.1.2.2.2.1,v.1.2.2.2.2.1,List.map (fun x=>()) v.2.2.2.2.2.2.2.1,()),v.2.1,((),(),(),()),((),(),(),()),v.2.2.2.2.1,v.2.2.2.2.2.1,v.2.2.2.2.2.2.1,())
def b2g (v:a6I):Nat:=v.1.2.2.2.2.1.natAbs+v.1.2.2.2.2.2.2.1.natAbs+v.2.1.1.length+v.2.1.2.1.natAbs+v.2.1.2.2.1.natAbs+v.2.2.2.2.1.length+v.2.2.2.2.2.1.length+v.2.2.2.2.2.2.1.length+v.2.2.2.2.2.2.2.1.length+1000
def a6J (v:a6I):=a0C a8k (b2g v) v
def c9b (v):=(a6J v).isSome
def a2L (v):=(a6J v).getD default
abbrev a6K:Type:=(Unit×Unit×Unit×d0Q)×ty9
abbrev c0H:Type:=ty5×ty9
def c0I:LX:=⟨[0,2,3,6,7],[.boxNil 3 0,.boxNil 3 2],2,[2,3],[],⟨[(0,om1),(2,om3),(3,om4),(6,om9),(7,om0)],li3,6,1⟩,⟨li8,li3,6,1⟩⟩
def a8l (f:a6K->Option (c0H)) (v:a6K):Option (c0H):=bif decide (v.1.2.2.2.2.1>0) then let b:=zero (Ty.flt .f32);let c:=set (replicate 1 b) 0 v.1.2.2.2.1;bif a0j (length v.2.2.2.2.1+length c) then let h:=v.2.2.2.2.1++c;let d:=(((),(),(),v.1.2.2.2.1,v.1.2.2.2.2.1,(),0,()),v.2.1,((),(),(),()),((),(),(),()),h,v.2.2.2.2.2.1,v.2.2.2.2.2.2.1,replicate 0 b,());bif c9b d then let a:=a2L d;let e:=set (replicate 1 (zero (Ty.slice Ty.jnk))) 0 a.1.2.2.2.2.2.1;bif a0j (length a.2.2.2.2.2.2.1+length e) then bif K34 (((),40,()),a.2.1,()) then let g:=G34 (((),40,()),a.2.1,());f ((((),(),(),a0a .add .f32 a.1.2.2.2.1 (a0a .quo .f32 (nearest .f32 (wrap .i64 (1+g.1.1))) 1090519040),wrap .i64 (a.1.2.2.2.2.1-1),()),g.2.1,((),(),(),()),((),(),(),()),a.2.2.2.2.1,a.2.2.2.2.2.1,a.2.2.2.2.2.2.1++e,()))else none else none else none else none else some (((),(),()),v.2.1,((),(),(),()),((),(),(),()),v.2.2.2.2)
def b2h (v:a6K):Nat:=v.1.2.2.2.2.1.natAbs+v.2.1.1.length+v.2.1.2.1.natAbs+v.2.1.2.2.1.natAbs+v.2.2.2.2.1.length+v.2.2.2.2.2.1.length+v.2.2.2.2.2.2.1.length+1000
def a6L (v:a6K):=a0C a8l (b2h v) v
def a9p (v):=(a6L v).isSome
def a2M (v):=(a6L v).getD default
abbrev a9q:Type:=d5z×f4y
abbrev c9c:Type:=a7l×f4y
def c9d:LX:=⟨[0,2,3,5],[],0,[0,2,3],[],⟨[(0,om1),(2,om3),(3,om4),(5,om0)],[(0,bx0),(1,bx3),(2,g5t),(3,.arr (.int .i64))],4,1⟩,⟨li7,[(0,bx0),(1,bx3),(2,g5t),(3,.arr (.int .i64))],4,1⟩⟩
def b2i (f:a9q->Option (c9c)) (v:a9q):Option (c9c):=bif decide (v.1.2.2.2.1>0) then bif decide (v.1.2.2.2.1<180) then bif decide ((length v.2.2.2.2.1:Int)<20) then let a:=set (replicate 1 (zero (Ty.int IntKind.i64))) 0 v.1.2.2.2.1;bif a0j (length v.2.2.2.2.1+length a) then bif K34 (((),50,()),v.2.1,()) then let b:=G34 (((),50,()),v.2.1,());f ((((),(),(),wrap .i64 ((wrap .i64 (v.1.2.2.2.1+5))+b.1.1),()),b.2.1,((),(),(),()),((),(),(),()),v.2.2.2.2.1++a,()))else none else none else some (((),(),(),()),v.2.1,((),(),(),()),((),(),(),()),v.2.2.2.2)else some (((),(),(),()),v.2.1,((),(),(),()),((),(),(),()),v.2.2.2.2)else some (((),(),(),()),v.2.1,((),(),(),()),((),(),(),()),v.2.2.2.2)
def b7b (v:a9q):Nat:=v.1.2.2.2.1.natAbs+v.2.1.1.length+v.2.1.2.1.natAbs+v.2.1.2.2.1.natAbs+v.2.2.2.2.1.length+1000
def a9r (v:a9q):=a0C b2i (b7b v) v
def b2j (v):=(a9r v).isSome
def a4z (v):=(a9r v).getD default
def d4h (x:c9a.den):Option (d4g.den):=bif K34 (((),25,()),x.2) then let j:=G34 (((),25,()),x.2);bif K77 (((),6,()),j.2) then let k:=G77 (((),6,()),j.2);bif k.1.1 then let p:=replicate 1 (zero (Ty.int IntKind.i64));let l:=set p 0 0;let q:=(((),(),(),0,()),k.2.1,((),(),(),()),((),(),(),()),l,());bif b2j q then let i:=a4z q;let c:=set p 0 180;bif a0j (length i.2.2.2.2.1+length c) then bif K34 (((),4,()),i.2.1,()) then let m:=G34 (((),4,()),i.2.1,());bif K34 (((),4,()),m.2) then let n:=wrap .i64 (1+m.1.1);let a:=G34 (((),4,()),m.2);let b:=wrap .i64 (1+a.1.1);let d:=i.2.2.2.2.1++c;let r:=(((),(),(),nearest .f32 n,b,()),a.2.1,((),(),(),()),((),(),(),()),[],d,[],());bif a9p r then let g:=a2M r;some ((((),(),(),()),()),g.2.1,g.2.2.2.2)else none else none else none else none else none else let l:=wrap .i64 (20+j.1.1);let s:=replicate 1 (zero (Ty.int IntKind.i64));let y:=set s 0 0;let t:=(((),(),(),l,()),k.2.1,((),(),(),()),((),(),(),()),y,());bif b2j t then let c:=a4z t;let u:=set s 0 180;bif a0j (length c.2.2.2.2.1+length u) then bif K34 (((),4,()),c.2.1,()) then let e:=G34 (((),4,()),c.2.1,());bif K34 (((),4,()),e.2) then let a:=wrap .i64 (1+e.1.1);let b:=G34 (((),4,()),e.2);let d:=wrap .i64 (1+b.1.1);let o:=c.2.2.2.2.1++u;let w:=(((),(),(),nearest .f32 a,d,()),b.2.1,((),(),(),()),((),(),(),()),[],o,[],());bif a9p w then let h:=a2M w;some ((((),(),(),()),()),h.2.1,h.2.2.2.2)else none else none else none else none else none else none else none
def e3A (x):=(d4h x).isSome
def b7c (x):=(d4h x).getD (a0R d4g)
def f3h:=(73,a0y true c9a d4g e3A b7c)
noncomputable def c9e:=gE [m34,m77] Tryz.f73 (lps:=[(6,lmX c9d a9r),(12,lmX c0I a6L),(17,lmX c0G a6J)]) (tb:=f7r)
theorem c9f:EvX c9e (lp Tryz.f73 0) c9d b2i:=fun _ _=>by kernel_rfl
theorem c2E:EvX c9e (lp Tryz.f73 1) c0I a8l:=fun _ _=>by kernel_rfl
theorem c2F:EvX c9e (lp Tryz.f73 2) c0G a8k:=fun _ _=>by kernel_rfl
theorem e3B:a0d Tryz.prog f3h:=a4a (d9R (s2 a3y a7n)) (a1n Tryz.func73 rfl rfl rfl (by kernel_rfl) (a0f (by kernel_rfl) (s3 (lX c9f b7b) (lX c2E b2h) (lX c2F b2g)))) true fun _=>by kernel_rfl
abbrev I78:Sg:=⟨[.ptr 0],[.box (a1U)]⟩
abbrev O78:Sg:=⟨[.val (.cons (.slice (.flt .f32)) (.cons (.slice (.int .i64)) (.cons (.slice (.slice .jnk)) (.nil))))],[.box (a1U)]⟩
abbrev b4N:Type:=(Unit×Unit×Int×a5w)×ty9
abbrev d9S:Type:=ty5×ty9
def d9T:LX:=⟨[2,3,4,117,118],[],3,[2,3],[],⟨[(2,om3),(3,om4),(4,om0),(117,om0),(118,om0)],li3,6,1⟩,⟨li8,li3,6,1⟩⟩
def c0J (f:b4N->Option (d9S)) (v:b4N):Option (d9S):=bif decide (v.1.2.2.2.2.1<v.1.2.2.2.1) then bif decide (0<=v.1.2.2.1)&&decide (v.1.2.2.1<(length v.2.2.2.2.2.2.1:Int)) then bif decide (0<=v.1.2.2.2.2.1)&&decide (v.1.2.2.2.2.1<(↑(length (getD v.2.2.2.2.2.2.1 (toNat v.1.2.2.1) (zero (Ty.slice Ty.jnk)))):Int)) then f ((((),(),v.1.2.2.1,v.1.2.2.2.1,wrap .i64 (v.1.2.2.2.2.1+1),()),v.2.1,((),(),(),()),((),(),(),()),v.2.2.2.2))else none else none else some (((),(),()),v.2.1,((),(),(),()),((),(),(),()),v.2.2.2.2)
def c9g (v:b4N):Nat:=v.1.2.2.1.natAbs+v.1.2.2.2.1.natAbs+v.1.2.2.2.2.1.natAbs+v.2.1.1.length+v.2.1.2.1.natAbs+v.2.1.2.2.1.natAbs+v.2.2.2.2.1.length+v.2.2.2.2.2.1.length+v.2.2.2.2.2.2.1.length+1000
def b4O (v:b4N):=a0C c0J (c9g v) v
def e3C (v):=(b4O v).isSome
def b7d (v):=(b4O v).getD default
abbrev b4P:Type:=a7l×ty9
abbrev d9U:Type:=ty5×ty9
def d9V:LX:=⟨[0,2,3],[],1,[2,3],[],⟨li7,li3,6,1⟩,⟨li8,li3,6,1⟩⟩
def c0K (f:b4P->Option (d9U)) (v:b4P):Option (d9U):=bif K34 (((),2,()),v.2.1,()) then let a:=G34 (((),2,()),v.2.1,());let b:=(length v.2.2.2.2.1:Int);bif decide (b<(wrap .i64 (12+a.1.1))) then let c:=wrap .i64 (b-1);bif decide (0<=c)&&decide (c<b) then let d:=zero (Ty.flt .f32);let e:=set (replicate 1 d) 0 (a0a .add .f32 (getD v.2.2.2.2.1 (toNat c) d) 1065353216);bif a0j (length v.2.2.2.2.1+length e) then bif decide (0<=0)&&decide (0<(length v.2.2.2.2.2.2.1:Int)) then let g:=set (replicate 1 (zero (Ty.slice Ty.jnk))) 0 (getD v.2.2.2.2.2.2.1 (toNat 0) (zero (Ty.slice Ty.jnk)));bif a0j (length v.2.2.2.2.2.2.1+length g) then f ((((),(),(),()),a.2.1,((),(),(),()),((),(),(),()),v.2.2.2.2.1++e,v.2.2.2.2.2.1,v.2.2.2.2.2.2.1++g,()))else none else none else none else none else some (((),(),()),a.2.1,((),(),(),()),((),(),(),()),v.2.2.2.2)else none
def c9h (v:b4P):Nat:=v.2.1.1.length+v.2.1.2.1.natAbs+v.2.1.2.2.1.natAbs+v.2.2.2.2.1.length+v.2.2.2.2.2.1.length+v.2.2.2.2.2.2.1.length+1000
def b4Q (v:b4P):=a0C c0K (c9h v) v
def e3D (v):=(b4Q v).isSome
def a9s (v):=(b4Q v).getD default
noncomputable def e6C:=gE [f3h,m34,e9a] Tryz.f78 (lps:=[(18,lmX d9V b4Q),(25,lmX d9T b4O)]) (rown:=[.frzBox 2]) (tb:=f7r)
theorem d4i:EvX e6C (lp Tryz.f78 0) d9V c0K:=fun _ _=>by kernel_rfl
theorem d4j:EvX e6C (lp Tryz.f78 1) d9T c0J:=fun _ _=>by kernel_rfl
theorem g4v:a1g Tryz.prog e6C:=d9R (s3 e3B a3y b3W)
theorem h0W:a5s Tryz.prog 78 e6C (a0x Tryz.f78):=a1n Tryz.func78 rfl rfl rfl (by kernel_rfl) (a0f (by kernel_rfl) (s2 (lX d4i c9h) (lX d4j c9g)))
noncomputable def N78 (p141:KI a5n) (Q141:QI a5n a7o) (e141:Nonempty (Ch a5n a7o p141 Q141)):a7H:=mkN [(141,a2K true a5n a7o p141 Q141 e141)] []
noncomputable def g8L (p141:KI a5n) (Q141:QI a5n a7o) (e141:Nonempty (Ch a5n a7o p141 Q141)) (h:O78.den->Option Unit) (x:I78.den):Option Unit:=bif e3A (((),()),x.2) then let a:=b7c (((),()),x.2);let l:=(length a.2.2.1:Int);bif K34 (((),l,()),a.2.1,()) then let c:=G34 (((),l,()),a.2.1,());let m:=(length a.2.2.2.1:Int);bif K34 (((),m,()),c.2) then let d:=G34 (((),m,()),c.2);bif K34 (((),24,()),d.2) then let b:=G34 (((),24,()),d.2);bif b.1.1==0 then a3a fun(c141_12:Ch a5n a7o p141 Q141)=>bif p141 (((),120,()),b.2) then bif decide (0<=c.1.1)&&decide (c.1.1<l) then let e:=c141_12.val (((),120,()),b.2);h ((((set a.2.2.1 (toNat c.1.1) e.1.1,a.2.2.2),()),e.2))else none else none else bif b.1.1==1 then bif d6U (((),()),b.2) then bif decide (0<=d.1.1)&&decide (d.1.1<m) then let e:=d6V (((),()),b.2);h ((((a.2.2.1,set a.2.2.2.1 (toNat d.1.1) e.1.1,a.2.2.2.2),()),e.2))else none else none else bif b.1.1==2 then a3a fun(c141_16:Ch a5n a7o p141 Q141)=>bif decide (0<=c.1.1)&&decide (c.1.1<(length a.2.2.2.2.1:Int)) then bif p141 (((),60,()),b.2) then bif decide (0<=d.1.1)&&decide (d.1.1<(↑(length (getD a.2.2.2.2.1 (toNat c.1.1) (zero (Ty.slice Ty.jnk)))):Int)) then h (((a.2.2,()),(c141_16.val (((),60,()),b.2)).2))else none else none else none else bif b.1.1==3 then let n:=decide (0<=c.1.1)&&decide (c.1.1<(length a.2.2.2.2.1:Int));bif n then let i:=getD a.2.2.2.2.1 (toNat c.1.1) (zero (Ty.slice Ty.jnk));let j:=(length i:Int);bif decide (0<=1)&&decide (1<=j)&&decide (j<=j) then bif n then h ((((a.2.2.1,a.2.2.2.1,set a.2.2.2.2.1 (toNat c.1.1) (List.drop (toNat 1) (List.take (toNat j) i)),()),()),b.2))else none else none else none else bif b.1.1==4 then let k:=(length a.2.2.2.2.1:Int);bif decide (0<=1)&&decide (1<=k)&&decide (k<=k) then h ((((a.2.2.1,a.2.2.2.1,List.drop (toNat 1) (List.take (toNat k) a.2.2.2.2.1),()),()),b.2))else none else bif b.1.1==5 then h (((([],[],[],()),()),b.2))else bif b.1.1==6 then let o:=(((),(),(),()),b.2.1,((),(),(),()),((),(),(),()),a.2.2);bif e3D o then let e:=a9s o;h (((e.2.2.2.2,()),e.2.1,()))else none else bif b.1.1==7 then bif decide (0<=c.1.1)&&decide (c.1.1<(length a.2.2.2.2.1:Int)) then bif decide (0<=d.1.1)&&decide (d.1.1<(↑(length (getD a.2.2.2.2.1 (toNat c.1.1) (zero (Ty.slice Ty.jnk)))):Int)) then h (((a.2.2,()),b.2))else none else none else bif b.1.1==8 then bif decide (0<=c.1.1)&&decide (c.1.1<(length a.2.2.2.2.1:Int)) then let i:=getD a.2.2.2.2.1 (toNat c.1.1) (zero (Ty.slice Ty.jnk));let p:=(((),(),c.1.1,(length i:Int),0,()),b.2.1,((),(),(),()),((),(),(),()),a.2.2);bif e3C p then let g:=b7d p;h (((g.2.2.2.2,()),g.2.1,()))else none else none else h (((a.2.2,()),b.2))else none else none else none else none
theorem g4w (p141 Q141 e141 h x) :a2T (e6C) (N78 p141 Q141 e141) (a0x Tryz.f78) I78 O78 h x=g8L p141 Q141 e141 h x:=by kernel_rfl
theorem d4k (v:a6I) (hc:a0c v.2.1) (hk:v.1.2.2.2.2.2.2.1=0) (hr:v.2.2.2.2.2.2.2.1=[]) (ha:v.2.2.2.2.2.1.length<=30) :
 Pst (a6J v) fun y=>a0c y.2.1 /\ y.1.2.2.2.2.1=v.1.2.2.2.2.1 /\ y.2.2.2.2.1=v.2.2.2.2.1 /\ y.2.2.2.2.2.1=v.2.2.2.2.2.1 /\ y.2.2.2.2.2.2.1=v.2.2.2.2.2.2.1 /\ y.1.2.2.2.2.2.1.length=v.2.2.2.2.2.1.length:=by
 unfold a6J;refine a0E (q:=a8k)
  (fun u=>a0c u.2.1 /\ u.1.2.2.2.2.1=v.1.2.2.2.2.1 /\ u.2.2.2.2.1=v.2.2.2.2.1 /\ u.2.2.2.2.2.1=v.2.2.2.2.2.1 /\ u.2.2.2.2.2.2.1=v.2.2.2.2.2.2.1 /\ 0<=(u.1.2.2.2.2.2.2.1:Int) /\ (u.1.2.2.2.2.2.2.1:Int)<=(v.2.2.2.2.2.1.length:Int) /\ (u.2.2.2.2.2.2.2.1.length:Int)=u.1.2.2.2.2.2.2.1)
  (fun _ r=>Pst r fun y=>a0c y.2.1 /\ y.1.2.2.2.2.1=v.1.2.2.2.2.1 /\ y.2.2.2.2.1=v.2.2.2.2.1 /\ y.2.2.2.2.2.1=v.2.2.2.2.2.1 /\ y.2.2.2.2.2.2.1=v.2.2.2.2.2.2.1 /\ y.1.2.2.2.2.2.1.length=v.2.2.2.2.2.1.length)
  (fun u=>(30-(u.1.2.2.2.2.2.2.1:Int)).toNat) ?_ _ _ ⟨hc,rfl,rfl,rfl,rfl,by rw[hk];exact Int.le_refl 0,by rw[hk];exact Int.natCast_nonneg _,by rw[hr,hk];rfl⟩ (by unfold b2g;omega)
 clear hk hr hc;rintro⟨⟨_,_,_,w,n,_,i,_⟩,⟨c0,c1,c2,_⟩,_,_,ws,as_,sp,row,_⟩ f ⟨g0,g1,g2,g3,g4,g5,g6,g7⟩ ih;dsimp only at g0 g1 g2 g3 g4 g5 g6 g7 ih;subst g1 g2 g4;have ea:as_.length=v.2.2.2.2.2.1.length:=by rw[g3]
 unfold a8k;dsimp only;by_cases hk:i<(as_.length:Int)
 ·refine a0e (by simpa using hk) ?_;have e:IntKind.i64.wrap (i+1)=i+1:=w64 (by omega) (by omega);rw[e];have fin:∀(x:Nat) (c:List Int×Int×Int×Unit),a0c c->Pst (bif (a0j (length row+length (set (replicate 1 (zero (Ty.flt FloatKind.f32))) 0 x)))then f (((),((),((),((w),((v.1.2.2.2.2.1),((),((i+1),()))))))),(((c.1),((c.2.1),((c.2.2.1),()))),(((),((),((),()))),(((),((),((),()))),((v.2.2.2.2.1),((as_),((v.2.2.2.2.2.2.1),((row++set (replicate 1 (zero (Ty.flt FloatKind.f32))) 0 x),()))))))))else none)
   fun y=>a0c y.2.1 /\ y.1.2.2.2.2.1=v.1.2.2.2.2.1 /\ y.2.2.2.2.1=v.2.2.2.2.1 /\ y.2.2.2.2.2.1=v.2.2.2.2.2.1 /\ y.2.2.2.2.2.2.1=v.2.2.2.2.2.2.1 /\ y.1.2.2.2.2.2.1.length=v.2.2.2.2.2.1.length:=by
   intro x c h;refine a0e (a0r (by simp only[length_set,length_replicate];omega)) ?_;refine ih _ ⟨h,rfl,rfl,g3,rfl,?_,?_,?_⟩ ?_<;>simp only[length_append,length_set,length_replicate]<;>omega
  refine a0e (a0k _ cu) ?_;refine a0W (fun _=>?_) (fun _=>?_)
  ·refine a0e (a1y _ cu) ?_;refine a0W (fun _=>?_) (fun _=>?_)
   ·refine a0W (fun _=>?_) (fun _=>?_)
    ·refine a0e (a0k _ cu) ?_;exact fin _ _ cu
    ·exact fin _ _ cu
   ·refine a0W (fun _=>?_) (fun _=>?_)
    ·refine a0e (a0k _ cu) ?_;exact fin _ _ cu
    ·exact fin _ _ cu
  ·refine a0W (fun _=>?_) (fun _=>?_)
   ·refine a0e (a0k _ cu) ?_;exact fin _ _ cu
   ·exact fin _ _ cu
 ·have hd:decide (i<(as_.length:Int))=false:=by simpa using hk
  rw[hd];exact a0h ⟨g0,rfl,rfl,g3,rfl,by show(row.map fun _=>()).length=_;rw[List.length_map];omega⟩
def Rows (n:Nat) (a:Nat) (ws:List Nat) (sp:List (List Unit)):Prop:=ws.length=n /\ sp.length=n /\ ∀r∈sp,r.length=a
theorem c9i (v:a6K) (hc:a0c v.2.1) (hn:0<=(v.1.2.2.2.2.1:Int) /\ (v.1.2.2.2.2.1:Int)<=8) (hw:v.2.2.2.2.1=[]) (hs:v.2.2.2.2.2.2.1=[]) (ha:v.2.2.2.2.2.1.length<=30) :
 Pst (a6L v) fun y=>a0c y.2.1 /\ y.2.2.2.2.2.1=v.2.2.2.2.2.1 /\ Rows (v.1.2.2.2.2.1:Int).toNat v.2.2.2.2.2.1.length y.2.2.2.2.1 y.2.2.2.2.2.2.1:=by
 unfold a6L;refine a0E (q:=a8l)
  (fun u=>a0c u.2.1 /\ u.2.2.2.2.2.1=v.2.2.2.2.2.1 /\ 0<=(u.1.2.2.2.2.1:Int) /\ (u.2.2.2.2.1.length:Int)+u.1.2.2.2.2.1=v.1.2.2.2.2.1 /\ Rows u.2.2.2.2.1.length v.2.2.2.2.2.1.length u.2.2.2.2.1 u.2.2.2.2.2.2.1)
  (fun _ r=>Pst r fun y=>a0c y.2.1 /\ y.2.2.2.2.2.1=v.2.2.2.2.2.1 /\ Rows (v.1.2.2.2.2.1:Int).toNat v.2.2.2.2.2.1.length y.2.2.2.2.1 y.2.2.2.2.2.2.1)
  (fun u=>(u.1.2.2.2.2.1:Int).toNat) ?_ _ _ ⟨hc,rfl,hn.1,by rw[hw];exact Int.zero_add _,by rw[hw,hs];exact⟨rfl,rfl,fun _ h=>by cases h⟩⟩ (by unfold b2h;omega)
 clear hc hw hs;rintro⟨⟨_,_,_,w,n,_⟩,⟨c0,c1,c2,_⟩,_,_,ws,as_,sp,_⟩ f ⟨g0,g1,g2,g3,g4⟩ ih;dsimp only at g0 g1 g2 g3 g4 ih;obtain⟨g4,g5,g6⟩:=g4;have ea:as_.length=v.2.2.2.2.2.1.length:=by rw[g1]
 unfold a8l;dsimp only;by_cases hk:n>0
 ·refine a0e (by simpa using hk) ?_;refine a0e (a0r (by simp only[length_set,length_replicate];omega)) ?_;have hr:=d4k (((),(),(),w,n,(),0,()),(c0,c1,c2,()),((),(),(),()),((),(),(),()),ws++(replicate 1 (zero (Ty.flt FloatKind.f32))).set 0 w,as_,sp,replicate 0 (zero (Ty.flt FloatKind.f32)),()) g0 rfl rfl (by show as_.length<=30;omega);refine a0e (a1V hr) ?_;have hx:=a2j (((),((),((),(0,(0,([],())))))),(([],(0,(0,()))),(((),((),((),()))),(((),((),((),()))),([],([],([],()))))))) hr;change a0c (a2L _).2.1 /\ (a2L _).1.2.2.2.2.1=n /\ (a2L _).2.2.2.2.1=_ /\ (a2L _).2.2.2.2.2.1=as_ /\ (a2L _).2.2.2.2.2.2.1=sp /\ (a2L _).1.2.2.2.2.2.1.length=as_.length at hx;generalize a2L (((),(),(),w,n,(),0,()),(c0,c1,c2,()),((),(),(),()),((),(),(),()),ws++(replicate 1 (zero (Ty.flt FloatKind.f32))).set 0 w,as_,sp,replicate 0 (zero (Ty.flt FloatKind.f32)),())=y at *;obtain⟨⟨_,_,_,w',n',row,_⟩,c',_,_,ws',as',sp',_⟩:=y;dsimp only at hx;obtain⟨h1,h2,h3,h4,h5,h6⟩:=hx;subst h2 h3 h4 h5;refine a0e (a0r (by simp only[length_set,length_replicate];omega)) ?_;refine a0e (a0k _ cu) ?_;have e:IntKind.i64.wrap (n'-1)=n'-1:=w64 (by omega) (by omega);dsimp only;rw[e];refine ih _ ⟨cu,g1,?_,?_,?_,?_,?_⟩ ?_
  ·show 0<=n'-1;omega
  ·simp only[length_append,length_set,length_replicate];omega
  ·rfl
  ·simp only[length_append,length_set,length_replicate];omega
  ·intro r hr;rcases List.mem_append.1 hr with hr|hr
   ·exact g6 r hr
   ·rw[show r=row from List.mem_singleton.1 hr,h6,ea]
  ·show(n'-1).toNat<n'.toNat;omega
 ·have hd:decide (n>0)=false:=by simpa using hk
  rw[hd];refine a0h ⟨g0,g1,?_,?_,g6⟩
  ·show ws.length=_;omega
  ·show sp.length=_;omega
theorem g4x (a b:Int) (h1:a>0) (h2:a<180) (h:0<=b /\ b<50):IntKind.i64.wrap (IntKind.i64.wrap (a+5)+b)<=1000:=by
 rw[w64 (x:=a+5) (by omega) (by omega),w64 (by omega) (by omega)];omega
theorem g4y (b:Int) (h:0<=b /\ b<4):0<=IntKind.i64.wrap (1+b) /\ IntKind.i64.wrap (1+b)<=8 /\ 1<=(IntKind.i64.wrap (1+b)).toNat /\ (IntKind.i64.wrap (1+b)).toNat<=4:=by
 rw[w64 (by omega) (by omega)];omega
theorem g4z (b:Int) (h:0<=b /\ b<25):IntKind.i64.wrap (20+b)<=1000:=by
 rw[w64 (by omega) (by omega)];omega
theorem b7e (v:a9q) (hc:a0c v.2.1) (hn:(v.1.2.2.2.1:Int)<=1000) (hw:v.2.2.2.2.1.length=1) :
 Pst (a9r v) fun y=>a0c y.2.1 /\ 1<=y.2.2.2.2.1.length /\ y.2.2.2.2.1.length<=21:=by
 unfold a9r;refine a0E (q:=b2i)
  (fun u=>a0c u.2.1 /\ (u.1.2.2.2.1:Int)<=1000 /\ 1<=u.2.2.2.2.1.length /\ u.2.2.2.2.1.length<=21)
  (fun _ r=>Pst r fun y=>a0c y.2.1 /\ 1<=y.2.2.2.2.1.length /\ y.2.2.2.2.1.length<=21)
  (fun u=>21-u.2.2.2.2.1.length) ?_ _ _ ⟨hc,hn,by omega,by omega⟩ (by unfold b7b;omega)
 rintro⟨⟨_,_,_,a,_⟩,⟨c0,c1,c2,_⟩,_,_,as_,_⟩ f ⟨g0,g1,g2,g3⟩ ih;dsimp only at g0 g1 g2 g3 ih;unfold b2i;dsimp only;refine a0W (fun h1=>?_) (fun _=>a0h ⟨g0,g2,g3⟩);refine a0W (fun h2=>?_) (fun _=>a0h ⟨g0,g2,g3⟩);refine a0W (fun h3=>?_) (fun _=>a0h ⟨g0,g2,g3⟩);have h1:a>0:=by simpa using h1
 have h2:a<180:=by simpa using h2
 have h3 : as_.length < 20 := by have:(as_.length:Int)<20:=by simpa using h3
                                 omega
 refine a0e (a0r (by simp only[length_set,length_replicate];omega)) ?_;refine a0e (a0k _ cu) ?_;have hb:=a0M 50 (c0,c1,c2,()) g0 (by decide);refine ih _ ⟨cu,g4x _ _ h1 h2 hb,?_,?_⟩ ?_
 all_goals simp only[length_append,length_set,length_replicate];omega
def f3i (ws:List Nat) (as_:List Int) (sp:List (List Unit)):Prop:=2<=as_.length /\ as_.length<=22 /\ 1<=ws.length /\ ws.length<=4 /\ Rows ws.length as_.length ws sp
theorem c0L (x:c9a.den) (h:a0c x.2.1):Pst (d4h x) fun y=>a0c y.2.1 /\ f3i y.2.2.1 y.2.2.2.1 y.2.2.2.2.1:=by
 unfold d4h;dsimp only;have a2a:∀(n:Int) (c:List Int×Int×Int×Unit),a0c c->0<n->0<=((G34 (((),n,()),c,())).1.1:Int) /\ ((G34 (((),n,()),c,())).1.1:Int)<n:=fun n c h hn=>a0M n c h hn
 refine a0e (a0k _ cu) ?_;have b1:0<=((G34 (((),25,()),x.snd)).1.1:Int) /\ ((G34 (((),25,()),x.snd)).1.1:Int)<25:=a2a 25 x.2.1 h (by decide);have c1:a0c (G34 (((),25,()),x.snd)).2.1:=cu;generalize G34 (((),25,()),x.snd)=A at *;refine a0e (a1y _ cu) ?_;have c2:a0c (G77 (((),6,()),A.snd)).2.1:=cu;generalize G77 (((),6,()),A.snd)=B at *;have main:∀a:Int,a<=1000->Pst (
  let v5:=set (replicate 1 (zero (Ty.int IntKind.i64))) 0 0
  let v6:=(b2j (((),(),(),a,()),B.snd.fst,((),(),(),()),((),(),(),()),v5,()))
  bif (v6)then
   let v7:=(a4z (((),(),(),a,()),B.snd.fst,((),(),(),()),((),(),(),()),v5,()))
   let v8:=(set (replicate 1 (zero (Ty.int IntKind.i64))) 0 180)
   bif (a0j (length v7.snd.snd.snd.snd.fst+length v8))then
    let v9:=(K34 (((),4,()),v7.snd.fst,()))
    bif (v9)then
     let v10:=(G34 (((),4,()),v7.snd.fst,()))
     let v11:=(K34 (((),4,()),v10.snd))
     bif (v11)then
      let v12:=(wrap IntKind.i64 (1+v10.fst.fst))
      let v13:=(G34 (((),4,()),v10.snd))
      let v14:=(wrap IntKind.i64 (1+v13.fst.fst))
      let v15:=(v7.snd.snd.snd.snd.fst++v8)
      let v16:=(a9p (((),(),(),nearest FloatKind.f32 v12,v14,()),v13.snd.fst,((),(),(),()),((),(),(),()),[],v15,[],()))
      bif (v16)then
       let v17:=(a2M (((),(),(),nearest FloatKind.f32 v12,v14,()),v13.snd.fst,((),(),(),()),((),(),(),()),[],v15,[],()))
       (some ((((),((),((),()))),()),(((v17.snd.fst.1),((v17.snd.fst.snd.1),((v17.snd.fst.snd.snd.1),()))),((v17.snd.snd.snd.snd.1),((v17.snd.snd.snd.snd.snd.1),((v17.snd.snd.snd.snd.snd.snd.1),()))))):Option d4g.den)
      else none
     else none
    else none
   else none
  else none) fun y=>a0c y.2.1 /\ f3i y.2.2.1 y.2.2.2.1 y.2.2.2.2.1:=by
  intro a ha;dsimp only;have hr:=b7e (((),(),(),a,()),B.snd.fst,((),(),(),()),((),(),(),()),set (replicate 1 (zero (Ty.int IntKind.i64))) 0 0,()) c2 ha rfl;refine a0e (a1V hr) ?_;have hx:=a2j (((),((),((),()))),(([],(0,(0,()))),(((),((),((),()))),(((),((),((),()))),([],()))))) hr;change a0c (a4z _).2.1 /\ 1<=(a4z _).2.2.2.2.1.length /\ (a4z _).2.2.2.2.1.length<=21 at hx;generalize a4z (((),(),(),a,()),B.snd.fst,((),(),(),()),((),(),(),()),set (replicate 1 (zero (Ty.int IntKind.i64))) 0 0,())=y at *;obtain⟨_,c,_,_,as_,_⟩:=y;dsimp only at hx ⊢;obtain⟨h1,h2,h3⟩:=hx;refine a0e (a0r (by simp only[length_set,length_replicate];omega)) ?_;refine a0e (a0k _ cu) ?_;have c3:a0c (G34 (((),4,()),c,())).2.1:=cu;generalize G34 (((),4,()),c,())=D at *;refine a0e (a0k _ cu) ?_;have b4:0<=((G34 (((),4,()),D.snd)).1.1:Int) /\ ((G34 (((),4,()),D.snd)).1.1:Int)<4:=a2a 4 D.2.1 c3 (by decide);have c4:a0c (G34 (((),4,()),D.snd)).2.1:=cu;generalize G34 (((),4,()),D.snd)=E at *;have hn:0<=IntKind.i64.wrap (1+E.fst.fst) /\ IntKind.i64.wrap (1+E.fst.fst)<=8 /\ 1<=(IntKind.i64.wrap (1+E.fst.fst)).toNat /\ (IntKind.i64.wrap (1+E.fst.fst)).toNat<=4:=g4y _ b4;generalize IntKind.i64.wrap (1+E.fst.fst)=nn at *;generalize nearest FloatKind.f32 (wrap IntKind.i64 (1+D.fst.fst))=w;have hq:=c9i (((),(),(),w,nn,()),E.snd.fst,((),(),(),()),((),(),(),()),[],as_++set (replicate 1 (zero (Ty.int IntKind.i64))) 0 180,[],()) c4 ⟨hn.1,hn.2.1⟩ rfl rfl (by simp only[length_append,length_set,length_replicate];omega);refine a0e (a1V hq) ?_;have hx:=a2j (((),((),())),(([],(0,(0,()))),(((),((),((),()))),(((),((),((),()))),([],([],([],()))))))) hq;change a0c (a2M _).2.1 /\ (a2M _).2.2.2.2.2.1=_ /\ Rows nn.toNat _ (a2M _).2.2.2.2.1 (a2M _).2.2.2.2.2.2.1 at hx;generalize a2M (((),(),(),w,nn,()),E.snd.fst,((),(),(),()),((),(),(),()),[],as_++set (replicate 1 (zero (Ty.int IntKind.i64))) 0 180,[],())=y at *;obtain⟨_,c',_,_,ws',as',sp',_⟩:=y;dsimp only at hx;obtain⟨k1,k2,k3,k4,k5⟩:=hx;subst k2;refine a0h ⟨k1,?_⟩;dsimp only;have el:(as_++set (replicate 1 (zero (Ty.int IntKind.i64))) 0 180).length=as_.length+1:=by simp only[length_append,length_set,length_replicate]
  refine⟨by rw[el];omega,by rw[el];omega,by rw[k3];exact hn.2.2.1,by rw[k3];exact hn.2.2.2,rfl,by rw[k3,k4],k5⟩
 refine a0W (fun _=>?_) (fun _=>?_)
 ·exact main 0 (by decide)
 ·exact main _ (g4z _ b1)
theorem d4l (x:c9a.den) (h:a0c x.2.1):e3A x=true:=a1V (c0L x h)
theorem d4m (x:c9a.den) (h:a0c x.2.1):a0c (b7c x).2.1 /\ f3i (b7c x).2.2.1 (b7c x).2.2.2.1 (b7c x).2.2.2.2.1:=a2j _ (c0L x h)
def d0Z (ws:List Nat) (as_:List Int) (sp:List (List Unit)):Prop:=ws.length<=14 /\ as_.length<=22 /\ sp.length<=14 /\ ∀r∈sp,r.length<=22
theorem f3i.some {ws:List Nat} {as_:List Int} {sp:List (List Unit)} (h:f3i ws as_ sp):d0Z ws as_ sp:=by
 obtain⟨h1,h2,h3,h4,h5,h6,h7⟩:=h;exact⟨by omega,h2,by omega,fun r hr=>by rw[h7 r hr];exact h2⟩
theorem d0Z.nil:d0Z [] [] []:=⟨zero_le _,zero_le _,zero_le _,fun _ h=>by cases h⟩
theorem w12 (a:Int) (h:0<=a /\ a<2):12<=IntKind.i64.wrap (12+a) /\ IntKind.i64.wrap (12+a)<=13:=by
 rw[w64 (by omega) (by omega)];omega
theorem g4A (a:Int) (n:Nat) (h:0<=a /\ a<(n:Int)):a.toNat<n:=by omega
theorem c9j (v:b4P) (hc:a0c v.2.1) (hw:1<=v.2.2.2.2.1.length /\ v.2.2.2.2.1.length<=4) (hs:v.2.2.2.2.2.2.1.length=v.2.2.2.2.1.length) (hr:∀r∈v.2.2.2.2.2.2.1,length r<=22) :
 Pst (b4Q v) fun y=>a0c y.2.1 /\ y.2.2.2.2.2.1=v.2.2.2.2.2.1 /\ y.2.2.2.2.1.length<=14 /\ y.2.2.2.2.2.2.1.length<=14 /\ ∀r∈y.2.2.2.2.2.2.1,length r<=22:=by
 unfold b4Q;refine a0E (q:=c0K)
  (fun u=>a0c u.2.1 /\ u.2.2.2.2.2.1=v.2.2.2.2.2.1 /\ 1<=u.2.2.2.2.1.length /\ u.2.2.2.2.1.length<=13 /\ u.2.2.2.2.2.2.1.length=u.2.2.2.2.1.length /\ ∀r∈u.2.2.2.2.2.2.1,length r<=22)
  (fun _ r=>Pst r fun y=>a0c y.2.1 /\ y.2.2.2.2.2.1=v.2.2.2.2.2.1 /\ y.2.2.2.2.1.length<=14 /\ y.2.2.2.2.2.2.1.length<=14 /\ ∀r∈y.2.2.2.2.2.2.1,length r<=22)
  (fun u=>14-u.2.2.2.2.1.length) ?_ _ _ ⟨hc,rfl,hw.1,by omega,hs,hr⟩ (by unfold c9h;omega)
 clear hc hw hs hr;rintro⟨_,⟨c0,c1,c2,_⟩,_,_,ws,as_,sp,_⟩ f ⟨g0,g1,g2,g3,g4,g5⟩ ih;dsimp only at g0 g1 g2 g3 g4 g5 ih;unfold c0K;dsimp only;refine a0e (a0k _ cu) ?_;have b1:=w12 _ (a0M 2 (c0,c1,c2,()) g0 (by decide));have c5:a0c (G34 (((),2,()),(c0,c1,c2,()),())).2.1:=cu;generalize G34 (((),2,()),(c0,c1,c2,()),())=A at *;generalize IntKind.i64.wrap (12+A.fst.fst)=n at *;have e:IntKind.i64.wrap ((ws.length:Int)-1)=((ws.length-1:Nat):Int):=by rw[w64 (by omega) (by omega)];omega
 rw[e];by_cases hk:(ws.length:Int)<n
 ·refine a0e (by simpa using hk) ?_;refine a0e (by simp;omega) ?_;refine a0e (a0r (by simp only[length_set,length_replicate];omega)) ?_;refine a0e (by simp;omega) ?_;refine a0e (a0r (by simp only[length_set,length_replicate];omega)) ?_;have hm:getD sp (toNat 0) (zero (Ty.slice Ty.jnk))∈sp:=by
   have h0:0<sp.length:=by omega
   show sp.getD 0 _∈sp;rw[List.getD_eq_getElem?_getD,List.getElem?_eq_getElem h0];exact List.getElem_mem h0
  refine ih _ ⟨c5,g1,?_,?_,?_,?_⟩ ?_
  ·simp only[length_append,length_set,length_replicate];omega
  ·simp only[length_append,length_set,length_replicate];omega
  ·simp only[length_append,length_set,length_replicate];omega
  ·intro r hr;rcases List.mem_append.1 hr with hr|hr
   ·exact g5 r hr
   ·rw[show r=_ from List.mem_singleton.1 hr];exact g5 _ hm
  ·simp only[length_append,length_set,length_replicate];omega
 ·have hd:decide ((ws.length:Int)<n)=false:=by simpa using hk
  rw[hd];exact a0h ⟨c5,g1,by show ws.length<=14;omega,by show sp.length<=14;omega,g5⟩
theorem c9k (v:b4N) (hc:a0c v.2.1) (hi:0<=(v.1.2.2.1:Int) /\ (v.1.2.2.1:Int)<(v.2.2.2.2.2.2.1.length:Int)) (hn:(v.1.2.2.2.1:Int)=((getD v.2.2.2.2.2.2.1 (v.1.2.2.1:Int).toNat (zero (Ty.slice Ty.jnk))).length:Int)) (hs:(v.1.2.2.2.1:Int)<=22) (hk:v.1.2.2.2.2.1=0) :
 Pst (b4O v) fun y=>a0c y.2.1 /\ y.2.2.2.2=v.2.2.2.2:=by
 unfold b4O;refine a0E (q:=c0J)
  (fun u=>a0c u.2.1 /\ u.2.2.2.2=v.2.2.2.2 /\ u.1.2.2.1=v.1.2.2.1 /\ u.1.2.2.2.1=v.1.2.2.2.1 /\ 0<=(u.1.2.2.2.2.1:Int) /\ (u.1.2.2.2.2.1:Int)<=v.1.2.2.2.1)
  (fun _ r=>Pst r fun y=>a0c y.2.1 /\ y.2.2.2.2=v.2.2.2.2)
  (fun u=>(v.1.2.2.2.1-u.1.2.2.2.2.1:Int).toNat) ?_ _ _ ⟨hc,rfl,rfl,rfl,by rw[hk];exact Int.le_refl 0,by rw[hk,hn];exact Int.natCast_nonneg _⟩ (by rw[hk];unfold c9g;omega)
 clear hc hk;rintro⟨⟨_,_,i,n,k,_⟩,⟨c0,c1,c2,_⟩,_,_,ws,as_,sp,_⟩ f ⟨g0,g1,g2,g3,g4,g5⟩ ih;dsimp only at g0 g1 g2 g3 g4 g5 ih;have es:sp=v.2.2.2.2.2.2.1:=congrArg (·.2.2.1) g1;rw[<- g2,<- es]at hi;rw[<- g2,<- g3,<- es]at hn;rw[<- g3]at hs g5;unfold c0J;dsimp only;by_cases hk:k<n
 ·refine a0e (by simpa using hk) ?_;refine a0e (by simp;omega) ?_;rw[<- hn];refine a0e (by simp;omega) ?_;have e:IntKind.i64.wrap (k+1)=k+1:=w64 (by omega) (by omega);rw[e];refine ih _ ⟨g0,g1,g2,g3,?_,?_⟩ ?_
  ·show 0<=k+1;omega
  ·show k+1<=v.1.2.2.2.1;rw[<- g3];omega
  ·show(v.1.2.2.2.1-(k+1):Int).toNat<(v.1.2.2.2.1-k:Int).toNat;rw[<- g3];omega
 ·have hd:decide (k<n)=false:=by simpa using hk
  rw[hd];exact a0h ⟨g0,g1⟩
def p78 (x:I78.den):Bool:=d0U x.2.1
def Q78 (x:I78.den) (y:O78.den):Prop:=a0c y.2.1 /\ d0Z y.1.1.1 y.1.1.2.1 y.1.1.2.2.1
theorem f3j (x:I78.den) (hx:p78 x=true) (k:O78.den->Option Unit) (hk:∀y,Q78 x y->k y=some ()) :
 a2T (e6C) (N78 p141 Q141 e141) (a0x Tryz.f78) I78 O78 k x=some ():=by
 have hk:∀y:O78.den,a0c y.2.1 /\ d0Z y.1.1.1 y.1.1.2.1 y.1.1.2.2.1->k y=some ():=hk;have h:a0c x.2.1:=a0T.1 hx;refine Eq.trans (g4w _ _ _ k x) ?_;unfold g8L;dsimp only
 haveI:=e141
 have a2a:∀(n:Int) (c:List Int×Int×Int×Unit),a0c c->0<n->0<=((G34 (((),n,()),c,())).1.1:Int) /\ ((G34 (((),n,()),c,())).1.1:Int)<n:=fun n c h hn=>a0M n c h hn
 refine a0q (d4l (((),()),x.snd) h) ?_;obtain⟨c1,hP⟩:=d4m (((),()),x.snd) h;generalize b7c (((),()),x.snd)=A at *;obtain⟨_,c,ws,as_,sp,_⟩:=A;dsimp only at c1 hP ⊢;have hL:=hP.some;obtain⟨p1,p2,p3,p4,-,p5,p6⟩:=hP;refine a0q (a0k _ cu) ?_;have b2:0<=((G34 (((),(ws.length:Int),()),c,())).1.1:Int) /\ ((G34 (((),(ws.length:Int),()),c,())).1.1:Int)<(ws.length:Int):=a2a _ c c1 (by omega);have c2:a0c (G34 (((),(ws.length:Int),()),c,())).2.1:=cu;generalize G34 (((),(ws.length:Int),()),c,())=B at *;refine a0q (a0k _ cu) ?_;have b3:0<=((G34 (((),(as_.length:Int),()),B.snd)).1.1:Int) /\ ((G34 (((),(as_.length:Int),()),B.snd)).1.1:Int)<(as_.length:Int):=a2a _ B.2.1 c2 (by omega);have c3:a0c (G34 (((),(as_.length:Int),()),B.snd)).2.1:=cu;generalize G34 (((),(as_.length:Int),()),B.snd)=C at *;refine a0q (a0k _ cu) ?_;have c4:a0c (G34 (((),24,()),C.snd)).2.1:=cu;generalize G34 (((),24,()),C.snd)=D at *;have i1:(decide (0<=(B.fst.fst:Int))&&decide ((B.fst.fst:Int)<(ws.length:Int)))=true:=by simp[b2]
 have i2:(decide (0<=(B.fst.fst:Int))&&decide ((B.fst.fst:Int)<(sp.length:Int)))=true:=by rw[p5];exact i1
 have i3:(decide (0<=(C.fst.fst:Int))&&decide ((C.fst.fst:Int)<(as_.length:Int)))=true:=by simp[b3]
 have hlt:(B.fst.fst:Int).toNat<sp.length:=by
  rw[p5];exact g4A _ _ b2
 have hm:getD sp (toNat B.fst.fst) (zero (Ty.slice Ty.jnk))∈sp:=by
  rw[List.getD_eq_getElem?_getD,List.getElem?_eq_getElem hlt];exact List.getElem_mem hlt
 have hml:(getD sp (toNat B.fst.fst) (zero (Ty.slice Ty.jnk))).length=as_.length:=p6 _ hm;have i4:(decide (0<=(C.fst.fst:Int))&&decide ((C.fst.fst:Int)<((getD sp (toNat B.fst.fst) (zero (Ty.slice Ty.jnk))).length:Int)))=true:=by rw[hml];exact i3
 have hset:∀(i:Nat) (r:List Unit),r.length<=22->d0Z ws as_ (sp.set i r):=fun i r hr=>⟨hL.1,hL.2.1,by rw[length_set];exact hL.2.2.1,fun u hu=>by
  rcases List.mem_or_eq_of_mem_set hu with h1|h1
  ·exact hL.2.2.2 u h1
  ·rw[h1];exact hr⟩
 refine a1q (fun _=>?_) (fun _=>?_)
 ·refine a0l fun g=>?_
  have hp:p141 (((),120,()),D.snd)=true:=a0T.2 c4;refine a0q hp ?_;refine a0q i1 ?_;exact hk _ ⟨g.2 _ hp,by show(set ws _ _).length<=14;rw[length_set];exact hL.1,hL.2⟩
 refine a1q (fun _=>?_) (fun _=>?_)
 ·refine a0q (a7r _ cu) ?_;refine a0q i3 ?_;exact hk _ ⟨cu,hL.1,by show(set as_ _ _).length<=22;rw[length_set];exact hL.2.1,hL.2.2⟩
 refine a1q (fun _=>?_) (fun _=>?_)
 ·refine a0l fun g=>?_
  refine a0q i2 ?_;have hp:p141 (((),60,()),D.snd)=true:=a0T.2 c4;refine a0q hp ?_;refine a0q i4 ?_;exact hk _ ⟨g.2 _ hp,hL⟩
 refine a1q (fun _=>?_) (fun _=>?_)
 ·refine a0q i2 ?_;refine a0q (by rw[hml];simp;omega) ?_;refine a0q i2 ?_;refine hk _ ⟨c4,hset _ _ ?_⟩;simp only[List.length_drop,List.length_take];rw[hml];omega
 refine a1q (fun _=>?_) (fun _=>?_)
 ·refine a0q (by simp;omega) ?_;refine hk _ ⟨c4,hL.1,hL.2.1,?_,fun r hr=>?_⟩
  ·simp only[List.length_drop,List.length_take];have:=hL.2.2.1;omega
  ·exact hL.2.2.2 r (List.mem_of_mem_take (List.mem_of_mem_drop hr))
 refine a1q (fun _=>hk _ ⟨c4,d0Z.nil⟩) (fun _=>?_);refine a1q (fun _=>?_) (fun _=>?_)
 ·have hr:=c9j (((),(),(),()),D.snd.fst,((),(),(),()),((),(),(),()),ws,as_,sp,()) c4 ⟨p3,p4⟩ p5 hL.2.2.2;refine a0q (a1V hr) ?_;have hx:=a2j (((),((),())),(([],(0,(0,()))),(((),((),((),()))),(((),((),((),()))),([],([],([],()))))))) hr;change a0c (a9s _).2.1 /\ (a9s _).2.2.2.2.2.1=as_ /\ (a9s _).2.2.2.2.1.length<=14 /\ (a9s _).2.2.2.2.2.2.1.length<=14 /\ _ at hx;refine hk _ ⟨hx.1,hx.2.2.1,?_,hx.2.2.2.1,hx.2.2.2.2⟩;refine Nat.le_trans (Nat.le_of_eq ?_) hL.2.1;exact congrArg length hx.2.1
 refine a1q (fun _=>?_) (fun _=>?_)
 ·refine a0q i2 ?_;refine a0q i4 ?_;exact hk _ ⟨c4,hL⟩
 refine a1q (fun _=>?_) (fun _=>hk _ ⟨c4,hL⟩);refine a0q i2 ?_;have hr:=c9k (((),(),B.fst.fst,((getD sp (toNat B.fst.fst) (zero (Ty.slice Ty.jnk))).length:Int),0,()),D.snd.fst,((),(),(),()),((),(),(),()),ws,as_,sp,()) c4
  (by show 0<=(B.fst.fst:Int) /\ (B.fst.fst:Int)<(sp.length:Int);rw[p5];exact b2) rfl (by show((getD sp (toNat B.fst.fst) (zero (Ty.slice Ty.jnk))).length:Int)<=22;rw[hml];omega) rfl
 refine a0q (a1V hr) ?_;have hx:=a2j (((),((),())),(([],(0,(0,()))),(((),((),((),()))),(((),((),((),()))),([],([],([],()))))))) hr;change a0c (b7d _).2.1 /\ (b7d _).2.2.2.2=(ws,as_,sp,())at hx;have e1:=congrArg (·.1) hx.2;have e2:=congrArg (·.2.1) hx.2;have e3:=congrArg (·.2.2.1) hx.2;dsimp only at e1 e2 e3;refine hk _ ⟨hx.1,?_⟩;dsimp only;rw[e1,e2,e3];exact hL
theorem f3k:Nonempty (Ch I78 (unO O78) p78 fun x y=>Q78 x (e7f O78 y)):=⟨⟨fun _=>((([],[],[],()),()),(d3z,())),fun _ _=>⟨a4Z,d0Z.nil⟩⟩⟩
theorem g4B:a2i Tryz.prog 78 (a2K true I78 (unO O78) p78 (fun x y=>Q78 x (e7f O78 y)) f3k):=
 e7h g4v (N:=N78 p141 Q141 e141) (a2m ⟨c7W,trivial⟩) h0W a1d rfl (fun _=>rfl) (fun _=>rfl) (fun _=>rfl) f3j
abbrev a6a:Sg:=⟨[.ptr 0],[.box (a1U)]⟩
abbrev a6M:Sg:=⟨[.val (S27)],[.box (a1U)]⟩
def a4e (x:a6a.den):Bool:=d0U x.2.1
def d4n (p:List Nat×List Int×List (List Nat)×Unit):Prop:=p.1.length<=14 /\ p.2.1.length<=22 /\ p.2.2.1.length<=14 /\ ∀r∈p.2.2.1,r.length<=22
def a5y (x:a6a.den) (y:a6M.den):Prop:=a0c y.2.1 /\ d4n y.1.1
theorem b2k:Nonempty (Ch a6a a6M a4e a5y):=⟨⟨fun _=>((([],[],[],()),()),(d3z,())),fun _ _=>⟨a4Z,zero_le _,zero_le _,zero_le _,fun _ h=>by cases h⟩⟩⟩
theorem e3E (x:I78.den) (y:a6M.den):Q78 x (e7f O78 y)↔a5y x y:=by
 obtain⟨⟨⟨ws,as_,sp,_⟩,_⟩,c,_⟩:=y;have e2:∀r:List Nat,length (shp (.slice .jnk) r)=r.length:=fun r=>List.length_map _
 show a0c c /\ d0Z (List.map (shp (.flt .f32)) ws) (List.map (shp (.int .i64)) as_) (List.map (shp (.slice .jnk)) sp)↔a0c c /\ (ws.length<=14 /\ as_.length<=22 /\ sp.length<=14 /\ ∀r∈sp,r.length<=22);unfold d0Z;simp only[List.length_map,List.mem_map,forall_exists_index,and_imp,forall_apply_eq_imp_iff₂,e2]
theorem c9l {P:Program} {f:Nat} {own:Bool} {I O:Sg} {ok:I.den->Bool} {Q Q':I.den->O.den->Prop} (e:∀x y,Q x y↔Q' x y) {hne:Nonempty (Ch I O ok Q)} {hne':Nonempty (Ch I O ok Q')} (h:a2i P f (a2K own I O ok Q hne)):a2i P f (a2K own I O ok Q' hne'):=by
 have e:Q=Q':=funext fun x=>funext fun y=>propext (e x y)
 subst e;exact h
theorem e3F:a2i Tryz.prog 78 (a2K true a6a a6M a4e a5y b2k):=c9l (O:=a6M) e3E g4B
def amt (s:Nat):Nat:=bif flt .f32 s 0 then a3v .f32 s else s
theorem d9W (s:Nat):F94 (s,())=some (amt s,()):=by
 unfold F94 amt;cases flt .f32 s 0<;>rfl
theorem c9m (s:Nat):e5R (s,())=some (amt s,()):=by
 unfold e5R amt;cases flt .f32 s 0<;>rfl
def b4R (s:Nat):Bool:=flt .f32 (amt s) 1120403456||feq .f32 (amt s) 1120403456
def a1K (c:Nat×Nat):Bool:=b4R c.1&&b4R c.2
theorem a4G (c:Nat×Nat):F45 (c,())=some (a1K c,()):=by
 unfold F45 a1K;have e1:F94 (c.1,())=some (amt c.1,()):=d9W c.1;have e2:F94 (c.2,())=some (amt c.2,()):=d9W c.2;simp only[K94,G94,e1,e2,isSome_some,getD_some,cond_true];show(bif b4R c.1 then some (b4R c.2,())else some (false,()))=_;cases b4R c.1<;>rfl
theorem a4H (c:Nat×Nat):F52 (c,())=some (a1K c,()):=by
 unfold F52 a1K;have e1:e5R (c.1,())=some (amt c.1,()):=c9m c.1;have e2:e5R (c.2,())=some (amt c.2,()):=c9m c.2;simp only[f4N,f4O,e1,e2,isSome_some,getD_some,cond_true];show(bif b4R c.1 then some (b4R c.2,())else some (false,()))=_;cases b4R c.1<;>rfl
def atV (l:List (Nat×Nat)) (i:Nat):Nat×Nat:=l.getD i (0,0)
def a5z (l:List (Nat×Nat)):Bool:=a0i (fun i=>a1K (atV l i)) 0 l.length
def a0n (x a b:Int):Bool:=decide (a<=x)&&decide (x<=b)
theorem a2N (x a b:Int):F44 (x,a,b,())=some (a0n x a b,()):=by
 unfold F44 a0n;show(bif decide (x ≥ a)then some (decide (x<=b),())else some (false,()))=_;show(bif decide (a<=x)then some (decide (x<=b),())else some (false,()))=_;cases decide (a<=x)<;>rfl
theorem a1F (x a b:Int):F51 (x,a,b,())=some (a0n x a b,()):=a2N x a b
theorem e6D:Ieee.double.signWeight=2^63:=by decide
theorem b7f:Ieee.double.infRung=2047*2^52:=by decide
theorem b7g:Ieee.double.binade=2^52:=by decide
theorem e3G:Ieee.double.leastPlace=-1074:=by decide
theorem g4C:Ieee.double.fractionBits=52:=by decide
theorem a5p (neg:Bool) (K e:Nat) (h1:e*2^52+K<2047*2^52) (h2:(e=0 /\ K<=2^53)∨(2^52<=K /\ K<=2^53)) :
 ∃(m:Nat) (c:Nat),Ieee.double.read (Ieee.double.word neg (e*2^52+K)) = .number neg m ((c:Int)-1074) /\ m*2^c=K*2^e:=by
 have hr:Ieee.double.word neg (e*2^52+K)%Ieee.double.signWeight=e*2^52+K:=by
  unfold Ieee.Format.word;rw[e6D];split<;>omega
 have hn:(Ieee.double.word neg (e*2^52+K)/Ieee.double.signWeight%2==1)=neg:=by
  unfold Ieee.Format.word;rw[e6D];cases neg
  ·rw[if_neg (by decide)];have:(e*2^52+K)/2^63=0:=Nat.div_eq_of_lt (by omega);rw[this];rfl
  ·rw[if_pos rfl];have:(2^63+(e*2^52+K))/2^63=1:=by omega
   rw[this];rfl
 unfold Ieee.Format.read;dsimp only;rw[hr,hn,b7g,b7f,e3G];by_cases c1:e*2^52+K<2^52
 ·rw[if_pos c1];have:e=0:=by omega
  subst this;exact⟨K,0,by simp,by simp⟩
 ·rw[if_neg c1,if_pos h1];by_cases c2:K<2^52
  ·exfalso;omega
  by_cases c3:K=2^53
  ·have e1:(e*2^52+K)/2^52=e+2:=by omega
   have e2:(e*2^52+K)%2^52=0:=by omega
   rw[e1,e2];refine⟨2^52,e+1,?_,?_⟩
   ·rw[show((-1074:Int)+((e+2-1:Nat):Int))=((e+1:Nat):Int)-1074 by omega,Nat.add_zero]
   ·rw[c3,<- Nat.pow_add,<- Nat.pow_add];congr 1;omega
  ·have e1:(e*2^52+K)/2^52=e+1:=by omega
   have e2:(e*2^52+K)%2^52=K-2^52:=by omega
   rw[e1,e2];refine⟨K,e,?_,rfl⟩;rw[show((-1074:Int)+((e+1-1:Nat):Int))=((e:Nat):Int)-1074 by omega,show 2^52+(K-2^52)=K by omega]
def VU (s:Bool) (m c:Nat):Int:=if s then -((m*2^c:Nat):Int)else((m*2^c:Nat):Int)
def isD (b:Nat) (v:Int):Prop:=∃(s:Bool) (m c:Nat),Ieee.double.read b = .number s m ((c:Int)-1074) /\ v=VU s m c
theorem c0M (s:Bool) (m c d:Nat) (h:d<=c):Ieee.signed s m (c-d)*((2^d:Nat):Int)=VU s m c:=by
 have e:m*2^(c-d)*2^d=m*2^c:=by rw[Nat.mul_assoc,<- Nat.pow_add];congr 2;omega
 unfold Ieee.signed VU;rw[Nat.shiftLeft_eq];split
 ·rw[Int.neg_mul,<- Int.natCast_mul,e]
 ·rw[<- Int.natCast_mul,e]
theorem e3H (a b k:Int) (hk:0<k):compare (a*k) (b*k)=compare a b:=by
 have h1:a*k<b*k↔a<b:=Int.mul_lt_mul_right hk;have h2:b*k<a*k↔b<a:=Int.mul_lt_mul_right hk;rw[Int.compare_eq_ite_lt,Int.compare_eq_ite_lt];simp only[h1,h2]
theorem e3I (s t:Bool) (m n c d:Nat):Ieee.Datum.order (.number s m ((c:Int)-1074)) (.number t n ((d:Int)-1074))=some (compare (VU s m c) (VU t n d)):=by
 unfold Ieee.Datum.order;dsimp only;have e1:(((c:Int)-1074)-min ((c:Int)-1074) ((d:Int)-1074)).toNat=c-min c d:=by omega
 have e2:(((d:Int)-1074)-min ((c:Int)-1074) ((d:Int)-1074)).toNat=d-min c d:=by omega
 rw[e1,e2,<- c0M s m c (min c d) (Nat.min_le_left _ _),<- c0M t n d (min c d) (Nat.min_le_right _ _),e3H];exact Int.natCast_pos.2 (Nat.two_pow_pos _)
theorem h0X {a b:Nat} {x y:Int} (ha:isD a x) (hb:isD b y):FloatKind.f64.format.order a b=some (compare x y):=by
 obtain⟨s,m,c,h1,rfl⟩:=ha;obtain⟨t,n,d,h2,rfl⟩:=hb;show(Ieee.double.read a).order (Ieee.double.read b)=_;rw[h1,h2];exact e3I s t m n c d
set_option exponentiation.threshold 2000
theorem d4o (neg:Bool) (M c v:Nat) (h0:0<M) (h:M*2^c=v*2^1074) (hv53:v<2^53) :
 ∃K e:Nat,Ieee.double.nearest neg M ((c:Int)-1074)=Ieee.double.word neg (e*2^52+K) /\ e*2^52+K<2047*2^52 /\ ((e=0 /\ K<=2^53)∨(2^52<=K /\ K<=2^53)) /\ K*2^e=M*2^c:=by
 have l1:2^M.log2<=M:=Nat.log2_self_le (by omega);have l2:M<2^(M.log2+1):=Nat.lt_log2_self;have hlc:M.log2+c<1127:=by
  have h1:2^(M.log2+c)<=M*2^c:=by rw[Nat.pow_add];exact Nat.mul_le_mul_right _ l1
  have h2:v*2^1074<2^(53+1074):=by
   rw[Nat.pow_add 2 53 1074];exact Nat.mul_lt_mul_of_pos_right hv53 (Nat.two_pow_pos _)
  rw[<- h]at h2;exact(Nat.pow_lt_pow_iff_right (a:=2) (by decide)).1 (Nat.lt_of_le_of_lt h1 h2)
 unfold Ieee.Format.nearest;rw[if_neg (by omega),g4C,e3G,b7g,b7f];dsimp only;generalize hL:M.log2=L at *;by_cases hs:L<=52
 ·
  by_cases hd:L+c<52
  ·have hlast:max ((c:Int)-1074+(L:Int)-(52:Nat)) (-1074)=-1074:=by omega
   rw[hlast];have e1:((c:Int)-1074 - -1074).toNat=c:=by omega
   have e2:(-1074-((c:Int)-1074)).toNat=0:=by omega
   have e3:((-1074:Int) - -1074).toNat=0:=by decide
   rw[e1,e2,e3,a5c,Nat.shiftLeft_eq];have hk:M*2^c<2^53:=by
    calc M*2^c<2^(L+1)*2^c:=Nat.mul_lt_mul_of_pos_right l2 (Nat.two_pow_pos _)
     _=2^(L+1+c):=by rw[<- Nat.pow_add]
     _<=2^53:=Nat.pow_le_pow_right (by decide) (by omega)
   have hx:0*2^52+M*2^c<2047*2^52:=by rw[Nat.zero_mul,Nat.zero_add];exact Nat.lt_trans hk (by decide)
   refine⟨M*2^c,0,?_,hx,.inl ⟨Eq.refl 0,Nat.le_of_lt hk⟩,?_⟩
   ·rw[Nat.min_eq_left (Nat.le_of_lt hx)]
   ·rw[Nat.pow_zero,Nat.mul_one]
  ·have hlast:max ((c:Int)-1074+(L:Int)-(52:Nat)) (-1074)=(c:Int)-1074+(L:Int)-52:=by omega
   rw[hlast];have e1:((c:Int)-1074-((c:Int)-1074+(L:Int)-52)).toNat=52-L:=by omega
   have e2:(((c:Int)-1074+(L:Int)-52)-((c:Int)-1074)).toNat=0:=by omega
   have e3:(((c:Int)-1074+(L:Int)-52) - -1074).toNat=c+L-52:=by omega
   rw[e1,e2,e3,a5c,Nat.shiftLeft_eq];have hk1:M*2^(52-L)<2^53:=by
    calc M*2^(52-L)<2^(L+1)*2^(52-L):=Nat.mul_lt_mul_of_pos_right l2 (Nat.two_pow_pos _)
     _=2^(L+1+(52-L)):=by rw[<- Nat.pow_add]
     _=2^53:=by congr 1;omega
   have hk2:2^52<=M*2^(52-L):=by
    calc 2^52=2^(L+(52-L)):=by congr 1;omega
     _=2^L*2^(52-L):=by rw[<- Nat.pow_add]
     _<=M*2^(52-L):=Nat.mul_le_mul_right _ l1
   have hv:M*2^(52-L)*2^(c+L-52)=M*2^c:=by
    rw[Nat.mul_assoc,<- Nat.pow_add];congr 2;omega
   refine⟨M*2^(52-L),c+L-52,?_,by generalize M*2^(52-L)=q at *;clear l1 l2;omega,.inr ⟨hk2,Nat.le_of_lt hk1⟩,hv⟩;rw[Nat.min_eq_left (by omega)]
 ·
  have hlast:max ((c:Int)-1074+(L:Int)-(52:Nat)) (-1074)=(c:Int)-1074+(L:Int)-52:=by omega
  rw[hlast];have e1:((c:Int)-1074-((c:Int)-1074+(L:Int)-52)).toNat=0:=by omega
  have e2:(((c:Int)-1074+(L:Int)-52)-((c:Int)-1074)).toNat=L-52:=by omega
  have e3:(((c:Int)-1074+(L:Int)-52) - -1074).toNat=c+L-52:=by omega
  rw[e1,e2,e3,Nat.shiftLeft_zero];have hdvd:2^(L-52) ∣ M:=by
   have h1:2^(L-52)*2^c ∣ M*2^c:=by
    rw[h,<- Nat.pow_add];exact Nat.dvd_trans (Nat.pow_dvd_pow 2 (by omega)) (Nat.dvd_mul_left _ _)
   exact Nat.dvd_of_mul_dvd_mul_right (Nat.two_pow_pos c) h1
  have hm0:M%2^(L-52)=0:=Nat.mod_eq_zero_of_dvd hdvd;have hg:0<2^(L-52):=Nat.two_pow_pos _;have hcut:Ieee.Toward.even.cut neg M (L-52)=M/2^(L-52):=by
   unfold Ieee.Toward.cut;dsimp only;rw[hL,Nat.min_eq_left (by omega),Nat.one_shiftLeft,hm0];simp
  rw[hcut];have hq1:M/2^(L-52)<2^53:=by
   rw[Nat.div_lt_iff_lt_mul hg,<- Nat.pow_add];have:53+(L-52)=L+1:=by omega
   rw[this];exact l2
  have hq2:2^52<=M/2^(L-52):=by
   rw[Nat.le_div_iff_mul_le hg,<- Nat.pow_add];have:52+(L-52)=L:=by omega
   rw[this];exact l1
  have hdm:=Nat.div_add_mod M (2^(L-52));rw[hm0,Nat.add_zero]at hdm;generalize M/2^(L-52)=q at *;have hp:2^(c+L-52)=2^(L-52)*2^c:=by
   rw[<- Nat.pow_add];congr 1;omega
  refine⟨q,c+L-52,?_,by omega,.inr ⟨by omega,by omega⟩,?_⟩
  ·rw[Nat.min_eq_left (by omega)]
  ·rw[hp,<- Nat.mul_assoc,Nat.mul_comm q,hdm]
theorem g8M:Ieee.single.signWeight=2^31:=by decide
theorem f3l:Ieee.single.infRung=255*2^23:=by decide
theorem f3m:Ieee.single.binade=2^23:=by decide
theorem g8N:Ieee.single.leastPlace=-149:=by decide
theorem h0Y:Ieee.single.fractionBits=23:=by decide
def Sz (b:Nat) (N:Int):Prop:=∃s m e,Ieee.single.read b = .number s m e /\ (m.log2:Int)+e<=N /\ -149<=e
theorem Sz.mono {b:Nat} {N M:Int} (h:Sz b N) (hM:N<=M):Sz b M:=by
 obtain⟨s,m,e,h1,h2,h3⟩:=h;exact⟨s,m,e,h1,by omega,h3⟩
theorem c9n {M k:Nat} (h:M<2^(k+1)):M.log2<=k:=by
 rcases Nat.eq_zero_or_pos M with h0|h0
 ·subst h0;simp
 ·have:=Nat.log2_self_le (n:=M) (by omega);have h2:=Nat.lt_of_le_of_lt this h;have:=(Nat.pow_lt_pow_iff_right (a:=2) (by decide)).1 h2;omega
theorem d9X (neg:Bool) (M d k:Nat) (h:M<2^(k+d)):Ieee.Toward.even.cut neg M d<=2^k:=by
 unfold Ieee.Toward.cut;dsimp only;rw[Nat.one_shiftLeft];by_cases hd:d<=M.log2+2
 ·rw[Nat.min_eq_left hd];have h1:M/2^d<2^k:=by rw[Nat.div_lt_iff_lt_mul (Nat.two_pow_pos _),<- Nat.pow_add];exact h
  generalize (decide (2^d<2*(M%2^d))||(2^d==2*(M%2^d)&&M/2^d%2==1))=b;cases b<;>simp<;>omega
 ·rw[Nat.min_eq_right (by omega)];have h0:M<2^(M.log2+2):=Nat.lt_trans Nat.lt_log2_self (Nat.pow_lt_pow_right (by decide) (by omega));have h1:M/2^(M.log2+2)=0:=Nat.div_eq_of_lt h0;rw[h1];have hk:=Nat.two_pow_pos k;generalize (decide (2^(M.log2+2)<2*(M%2^(M.log2+2)))||(2^(M.log2+2)==2*(M%2^(M.log2+2))&&0%2==1))=b;cases b<;>simp<;>omega
theorem c9o (neg:Bool) (r:Nat) (h:r<255*2^23):Ieee.single.read (Ieee.single.word neg r)=if r<2^23 then .number neg r (-149)else .number neg (2^23+r%2^23) (-149+((r/2^23-1:Nat):Int)):=by
 have hr:Ieee.single.word neg r%Ieee.single.signWeight=r:=by
  unfold Ieee.Format.word;rw[g8M];split<;>omega
 have hn:(Ieee.single.word neg r/Ieee.single.signWeight%2==1)=neg:=by
  unfold Ieee.Format.word;rw[g8M];cases neg
  ·rw[if_neg (by decide)];have:r/2^31=0:=Nat.div_eq_of_lt (by omega);rw[this];rfl
  ·rw[if_pos rfl];have:(2^31+r)/2^31=1:=by omega
   rw[this];rfl
 unfold Ieee.Format.read;dsimp only;rw[hr,hn,f3m,f3l,g8N];by_cases c:r<2^23
 ·rw[if_pos c,if_pos c]
 ·rw[if_neg c,if_neg c,if_pos h]
theorem e3J (neg:Bool) (M:Nat) (p N:Int) (h:(M.log2:Int)+p<=N) (hN:N<=126) (hN2:-126<=N):Sz (Ieee.single.nearest neg M p) (N+1):=by
 have fin:∀r:Nat,(r:Int)<=(N+126)*2^23+2^24->Sz (Ieee.single.word neg r) (N+1):=by
  intro r hr;have hlt:r<255*2^23:=by omega
  have:=c9o neg r hlt;by_cases c:r<2^23
  ·rw[if_pos c]at this;refine⟨_,_,_,this,?_,Int.le_refl _⟩;have:=c9n (k:=22) c;omega
  ·rw[if_neg c]at this;refine⟨_,_,_,this,?_,by omega⟩;have h1:(2^23+r%2^23).log2<=23:=c9n (k:=23) (by have:=Nat.mod_lt r (show 2^23>0 by decide);omega);have h2:((r/2^23:Nat):Int)<=N+128:=by omega
   omega
 unfold Ieee.Format.nearest;by_cases h0:M=0
 ·rw[if_pos h0];exact fin 0 (by omega)
 ·rw[if_neg h0,h0Y,g8N,f3m,f3l];dsimp only;have l2:M<2^(M.log2+1):=Nat.lt_log2_self;generalize hL:M.log2=L at *;obtain⟨last,hlast⟩:∃last,last=max (p+(L:Int)-(23:Nat)) (-149):=⟨_,rfl⟩;rw[<- hlast];have hl1:p+(L:Int)-23<=last:=by omega
  have hl2:-149<=last:=by omega
  have hl3:last<=N-23:=by omega
  have hcut:Ieee.Toward.even.cut neg (M <<< (p-last).toNat) (last-p).toNat<=2^24:=by
   refine d9X _ _ _ 24 ?_;rw[Nat.shiftLeft_eq];have h1:M*2^(p-last).toNat<2^(L+1+(p-last).toNat):=by rw[Nat.pow_add];exact Nat.mul_lt_mul_of_pos_right l2 (Nat.two_pow_pos _)
   exact Nat.lt_of_lt_of_le h1 (Nat.pow_le_pow_right (by decide) (by omega))
  generalize Ieee.Toward.even.cut neg (M <<< (p-last).toNat) (last-p).toNat=K at hcut;have hk:(((last - -149).toNat*2^23+K:Nat):Int)<=(N+126)*2^23+2^24:=by omega
  exact fin _ (Int.le_trans (Int.ofNat_le.2 (Nat.min_le_left _ _)) hk)
theorem c9p:Ieee.double.read 0 = .number false 0 (-1074):=by decide
def g8O (d:Ieee.Datum):Ieee.Datum:=match d with
 |.number _ m e => .number false m e
 |.infinity _ => .infinity false
 |.nan _ f => .nan false f
theorem c0N (a:Nat):Ieee.double.read (a%2^63)=g8O (Ieee.double.read a):=by
 unfold Ieee.Format.read;dsimp only;rw[e6D];have e1:a%2^63%2^63=a%2^63:=Nat.mod_mod _ _;have e2:(a%2^63/2^63%2==1)=false:=by
  have:a%2^63/2^63=0:=Nat.div_eq_of_lt (Nat.mod_lt _ (by decide));rw[this];rfl
 rw[e1,e2];split
 ·rfl
 ·split
  ·rfl
  ·split<;>rfl
theorem c0O (a:Nat):Ieee.double.read (a3v .f64 a)=(Ieee.double.read a).opposite:=by
 have hf:a3v .f64 a=a ^^^ 2^63:=rfl;rw[hf];unfold Ieee.Format.read;dsimp only;rw[e6D];have e1:(a ^^^ 2^63)%2^63=a%2^63:=by rw[Nat.xor_mod_two_pow,Nat.mod_self,Nat.xor_zero]
 have e2:((a ^^^ 2^63)/2^63%2==1)=!(a/2^63%2==1):=by
  rw[Nat.xor_div_two_pow,Nat.div_self (by decide)];have h1:(a/2^63 ^^^ 1)%2=(a/2^63%2) ^^^ 1:=by
   have:=Nat.xor_mod_two_pow (a:=a/2^63) (b:=1) (n:=1);simpa using this
  rw[h1];rcases Nat.mod_two_eq_zero_or_one (a/2^63)with h|h<;>rw[h]<;>rfl
 rw[e1,e2];split
 ·rfl
 ·split
  ·rfl
  ·split<;>rfl
def d1a (a:Nat):Nat:=bif flt .f64 a 0 then a3v .f64 a else a
theorem c9q (a c:Nat):FloatKind.f64.format.order (d1a a) c=FloatKind.f64.format.order (a%2^63) c:=by
 show(Ieee.double.read (d1a a)).order (Ieee.double.read c)=(Ieee.double.read (a%2^63)).order (Ieee.double.read c);rw[c0N];have h0:flt .f64 a 0=((Ieee.double.read a).order (Ieee.double.read 0)==some .lt):=rfl;unfold d1a;rw[h0,c9p];generalize Ieee.double.read c=d;cases hr:Ieee.double.read a with
 | nan s f =>
   have:((Ieee.Datum.nan s f).order (.number false 0 (-1074))==some Ordering.lt)=false:=rfl;rw[this,cond_false,hr];cases d<;>rfl
 | infinity s =>
   cases s with
   | true =>
     have:((Ieee.Datum.infinity true).order (.number false 0 (-1074))==some Ordering.lt)=true:=rfl;rw[this,cond_true,c0O,hr];rfl
   | false =>
     have:((Ieee.Datum.infinity false).order (.number false 0 (-1074))==some Ordering.lt)=false:=rfl;rw[this,cond_false,hr];rfl
 | number s m e =>
   cases s with
   | false =>
     have h1:((Ieee.Datum.number false m e).order (.number false 0 (-1074))==some Ordering.lt)=false:=by
      unfold Ieee.Datum.order Ieee.signed;simp only[Bool.false_eq_true,if_false,Nat.zero_shiftLeft];have:∀x:Nat,(some (compare ((x:Nat):Int) ((0:Nat):Int))==some Ordering.lt)=false:=by
       intro x;rw[Int.compare_eq_ite_lt,if_neg (by omega)];split<;>rfl
      exact this _
     rw[h1,cond_false,hr];rfl
   | true =>
     cases h1:((Ieee.Datum.number true m e).order (.number false 0 (-1074))==some Ordering.lt)with
     |true=>rw[cond_true,c0O,hr];rfl
     | false =>
       rw[cond_false,hr];have hm:m=0:=by
        unfold Ieee.Datum.order Ieee.signed at h1;simp only[if_true,Bool.false_eq_true,if_false,Nat.zero_shiftLeft,Nat.shiftLeft_eq]at h1;rcases Nat.eq_zero_or_pos m with h|h
        ·exact h
        ·exfalso;have hp:=Nat.mul_pos h (Nat.two_pow_pos (e-min e (-1074)).toNat);rw[Int.compare_eq_ite_lt,if_pos (by omega)]at h1;cases h1
       subst hm;unfold g8O;cases d with
       | number t n j =>
         unfold Ieee.Datum.order Ieee.signed;simp
       |infinity t=>rfl
       |nan t f=>rfl
def le8 (a:Nat):Bool:=flt .f64 a 4726483295884279808||feq .f64 a 4726483295884279808
theorem c9r (a:Nat):le8 (d1a a)=le8 (a%2^63):=by
 unfold le8 flt feq;rw[c9q]
def a3d (z:Nat×Nat):Bool:=le8 (z.1%2^63)&&le8 (z.2%2^63)
theorem a7L (z:Nat×Nat):F61 (z,())=some (a3d z,()):=by
 unfold F61 a3d;simp only[e7l,e7m,cond_true];show(bif le8 (z.1%2^63)then some (le8 (z.2%2^63),())else some (false,()))=_;cases le8 (z.1%2^63)<;>rfl
theorem c9s (a:Nat):e5Q (a,())=some (d1a a,()):=by
 unfold e5Q d1a;cases flt .f64 a 0<;>rfl
theorem a7M (z:Nat×Nat):F96 (z,())=some (a3d z,()):=by
 unfold F96 a3d;have e1:e5Q (z.1,())=some (d1a z.1,()):=c9s z.1;have e2:e5Q (z.2,())=some (d1a z.2,()):=c9s z.2;simp only[f4L,f4M,e1,e2,isSome_some,getD_some,cond_true];show(bif le8 (d1a z.1)then some (le8 (d1a z.2),())else some (false,()))=_;rw[c9r,c9r];cases le8 (z.1%2^63)<;>rfl
def p2 (e:Int):Rat:=(2:Rat)^e
theorem a0Z (e:Int):0<p2 e:=Rat.zpow_pos (by decide)
theorem a1B (a b:Int):p2 (a+b)=p2 a*p2 b:=Rat.zpow_add (by decide) a b
theorem a1O (n:Nat):p2 (n:Int)=((2^n:Nat):Rat):=by
 unfold p2;rw[Rat.zpow_natCast,Rat.natCast_pow];rfl
theorem c2G (n:Nat):1<=p2 (n:Int):=by
 rw[a1O];have:1<=2^n:=Nat.one_le_two_pow
 exact_mod_cast this
theorem b7h {a b:Int} (h:a<=b):p2 a<=p2 b:=by
 have e:b=a+((b-a).toNat:Int):=by omega
 rw[e,a1B];have h1:=c2G (b-a).toNat;have h2:=a0Z a;generalize p2 ((b-a).toNat:Int)=y at *;generalize p2 a=x at *;have:=Rat.mul_nonneg (Rat.le_of_lt h2) (show 0<=y-1 by grind);grind
theorem b4S {a b:Int} (h:p2 a<p2 b):a<b:=by
 apply Classical.byContradiction;intro hn;have:=b7h (show b<=a by omega);grind
theorem a6b (a:Int):p2 (a+1)=2*p2 a:=by
 rw[a1B];have:p2 1=2:=by unfold p2;rw[Rat.zpow_one]
 rw[this];grind
theorem a0V {a b:Nat} (h:a<=b):(a:Rat)<=(b:Rat):=Rat.natCast_le_natCast.2 h
theorem a1f {a b c:Rat} (h:a<=b) (hc:0<=c):a*c<=b*c:=Rat.mul_le_mul_of_nonneg_right h hc
theorem a2v (a:Nat):(0:Rat)<=(a:Rat):=by
 have:=a0V (zero_le a);simpa using this
def sgR (s:Bool):Rat:=if s then -1 else 1
def RV (s:Bool) (m:Nat) (e:Int):Rat:=sgR s*(m:Rat)*p2 e
def IsR (w:Nat) (q:Rat):Prop:=∃(s:Bool) (m:Nat) (e:Int),Ieee.double.read w = .number s m e /\ -1074<=e /\ q=RV s m e
def c2H (a b ε:Rat):Prop:=a<=b+ε /\ b<=a+ε
theorem d4p (neg:Bool) (N d:Nat):2*(Ieee.Toward.even.cut neg N d*2^d)<=2*N+2^d /\ 2*N<=2*(Ieee.Toward.even.cut neg N d*2^d)+2^d:=by
 unfold Ieee.Toward.cut;dsimp only;rw[Nat.one_shiftLeft];by_cases hd:d<=N.log2+2
 ·rw[Nat.min_eq_left hd];have h1:=Nat.div_add_mod N (2^d);have h2:=Nat.mod_lt N (Nat.two_pow_pos d);generalize hb:(decide (2^d<2*(N%2^d))||(2^d==2*(N%2^d)&&N/2^d%2==1))=b;have hg:b=true->2^d<=2*(N%2^d):=by
   intro h;rw[h]at hb;simp only[Bool.or_eq_true,decide_eq_true_eq,and_eq_true,beq_iff_eq]at hb;omega
  have hl:b=false->2*(N%2^d)<=2^d:=by
   intro h;rw[h]at hb;simp only[Bool.or_eq_false_iff,decide_eq_false_iff_not]at hb;omega
  generalize 2^d=g at *;generalize N/g=q at *;generalize N%g=r at *;have e1:q*g=g*q:=Nat.mul_comm _ _;cases b
  ·have:=hl rfl;simp only[Bool.toNat_false,Nat.add_zero];omega
  ·have:=hg rfl;simp only[Bool.toNat_true,Nat.add_mul,Nat.one_mul];omega
 ·rw[Nat.min_eq_right (by omega)];have h0:N<2^(N.log2+1):=Nat.lt_log2_self;have h00:2^(N.log2+2)=2*2^(N.log2+1):=by rw[Nat.pow_succ];omega
  have h1:N/2^(N.log2+2)=0:=Nat.div_eq_of_lt (by omega);have h2:N%2^(N.log2+2)=N:=Nat.mod_eq_of_lt (by omega);have h3:2^(N.log2+2)<=2^d:=Nat.pow_le_pow_right (by decide) (by omega);rw[h1,h2];have:(decide (2^(N.log2+2)<2*N)||(2^(N.log2+2)==2*N&&0%2==1))=false:=by
   simp only[Bool.or_eq_false_iff,decide_eq_false_iff_not,Bool.and_eq_false_iff];exact⟨by omega,.inr rfl⟩
  rw[this];simp only[Bool.toNat_false,Nat.add_zero,Nat.zero_mul];omega
theorem f3n (neg:Bool) (N d k:Nat) (h:2^(k+d)<=N):2^k<=Ieee.Toward.even.cut neg N d:=by
 unfold Ieee.Toward.cut;dsimp only;rw[Nat.one_shiftLeft];have hd:d<=N.log2+2:=by
  have h1:N<2^(N.log2+1):=Nat.lt_log2_self;have:=(Nat.pow_lt_pow_iff_right (a:=2) (by decide)).1 (Nat.lt_of_le_of_lt h h1);omega
 rw[Nat.min_eq_left hd];have h1:2^k<=N/2^d:=by rw[Nat.le_div_iff_mul_le (Nat.two_pow_pos _),<- Nat.pow_add];exact h
 exact Nat.le_trans h1 (Nat.le_add_right _ _)
theorem a6N (neg:Bool):IsR (Ieee.double.word neg 0) 0:=by
 refine⟨neg,0,-1074,?_,Int.le_refl _,?_⟩
 ·cases neg<;>decide
 ·unfold RV;grind
theorem d4q (neg:Bool) (M:Nat) (p B:Int) (h0:M≠0) (hB:(M.log2:Int)+p<=B) (h1:-1022<=B) (h2:B<=1022) :
 ∃r,IsR (Ieee.double.nearest neg M p) r /\ c2H r (RV neg M p) (p2 (B-53)):=by
 unfold Ieee.Format.nearest;rw[if_neg h0,g4C,e3G,b7g,b7f];dsimp only;have l1:2^M.log2<=M:=Nat.log2_self_le h0;have l2:M<2^(M.log2+1):=Nat.lt_log2_self;generalize hL:M.log2=L at *;obtain⟨last,hlast⟩:∃last,last=max (p+(L:Int)-(52:Nat)) (-1074):=⟨_,rfl⟩;rw[<- hlast];have hl1:p+(L:Int)-52<=last:=by omega
 have hl2:-1074<=last:=by omega
 have hl3:last<=B-52:=by omega
 have hl4:last=p+(L:Int)-52∨last=-1074:=by omega
 obtain⟨up,hup⟩:∃up,up=(p-last).toNat:=⟨_,rfl⟩;obtain⟨d,hd⟩:∃d,d=(last-p).toNat:=⟨_,rfl⟩;rw[<- hup,<- hd,Nat.shiftLeft_eq];have hle:Ieee.Toward.even.cut neg (M*2^up) d<=2^53:=by
  refine d9X _ _ _ 53 ?_;have:M*2^up<2^(L+1+up):=by rw[Nat.pow_add];exact Nat.mul_lt_mul_of_pos_right l2 (Nat.two_pow_pos _)
  exact Nat.lt_of_lt_of_le this (Nat.pow_le_pow_right (by decide) (by omega))
 have hge:last ≠ -1074->2^52<=Ieee.Toward.even.cut neg (M*2^up) d:=by
  intro hne;refine f3n _ _ _ 52 ?_;have:2^(L+up)<=M*2^up:=by rw[Nat.pow_add];exact Nat.mul_le_mul_right _ l1
  exact Nat.le_trans (Nat.pow_le_pow_right (by decide) (by omega)) this
 have hnear:=d4p neg (M*2^up) d;have hexact:d=0->Ieee.Toward.even.cut neg (M*2^up) d=M*2^up:=fun e=>by rw[e,a5c]
 generalize Ieee.Toward.even.cut neg (M*2^up) d=K at *;obtain⟨e,he⟩:∃e,e=(last - -1074).toNat:=⟨_,rfl⟩;rw[<- he];have hrung:e*2^52+K<2047*2^52:=by omega
 rw[Nat.min_eq_left (Nat.le_of_lt hrung)];obtain⟨m,c,hr,hm⟩:=a5p neg K e hrung (by
  by_cases h:last=-1074
  ·exact .inl ⟨by omega,hle⟩
  ·exact .inr ⟨hge h,hle⟩)
 refine⟨RV neg m ((c:Int)-1074),⟨neg,m,_,hr,by omega,rfl⟩,?_⟩;have hv:RV neg m ((c:Int)-1074)=sgR neg*(K:Rat)*p2 last:=by
  have e1:(m:Rat)*p2 (c:Int)=(K:Rat)*p2 (e:Int):=by
   rw[a1O,a1O]
   exact_mod_cast congrArg (fun n:Nat=>(n:Rat)) hm
  have e2:last=(e:Int) + -1074:=by omega
  unfold RV;rw[e2,Int.sub_eq_add_neg,a1B,a1B];grind
 rw[hv];by_cases hc:last<=p
 ·have hd0:d=0:=by omega
  have hK:=hexact hd0;have e1:RV neg M p=sgR neg*(K:Rat)*p2 last:=by
   unfold RV;have e2:p=(up:Int)+last:=by omega
   rw[hK,e2,a1B,a1O,Rat.natCast_mul];grind
  rw[e1];have:=a0Z (B-53);constructor<;>grind
 ·have hu0:up=0:=by omega
  rw[hu0,Nat.pow_zero,Nat.mul_one]at hnear;have e1:p2 last=((2^d:Nat):Rat)*p2 p:=by
   have:last=(d:Int)+p:=by omega
   rw[this,a1B,a1O]
  have hp:=a0Z p;have n1:2*((K:Rat)*((2^d:Nat):Rat))<=2*(M:Rat)+((2^d:Nat):Rat):=by exact_mod_cast a0V hnear.1
  have n2:2*(M:Rat)<=2*((K:Rat)*((2^d:Nat):Rat))+((2^d:Nat):Rat):=by exact_mod_cast a0V hnear.2
  have m1:=a1f n1 (Rat.le_of_lt hp);have m2:=a1f n2 (Rat.le_of_lt hp);have hle2:p2 last<=2*p2 (B-53):=by
   rw[<- a6b];exact b7h (by omega)
  unfold RV;rw[e1]at *;generalize ((2^d:Nat):Rat)=g at *;generalize (K:Rat)=k at *;generalize (M:Rat)=mm at *;generalize p2 (B-53)=ε at *;generalize p2 p=t at *;cases neg
  ·have:sgR false=1:=rfl;rw[this];constructor<;>grind
  ·have:sgR true=-1:=rfl;rw[this];constructor<;>grind
theorem a6c (s:Bool) (e:Int):RV s 0 e=0:=by unfold RV;grind
theorem d9Y (s:Bool) (m:Nat) (e:Int) {b:Rat} (h1:RV s m e<b) (h2:-b<RV s m e):(m:Rat)*p2 e<b:=by
 unfold RV at h1 h2;cases s
 ·have:sgR false=1:=rfl;rw[this]at h1;grind
 ·have:sgR true=-1:=rfl;rw[this]at h2;grind
theorem b2l (neg:Bool) (M:Nat) (p:Int) (B:Int) (h1:-1022<=B) (h2:B<=1022) (hlt:RV neg M p<p2 (B+1)) (hgt:-p2 (B+1)<RV neg M p) :
 ∃r,IsR (Ieee.double.nearest neg M p) r /\ c2H r (RV neg M p) (p2 (B-53)):=by
 by_cases h0:M=0
 ·subst h0;refine⟨0,?_,?_⟩
  ·unfold Ieee.Format.nearest;rw[if_pos rfl];exact a6N neg
  ·rw[a6c];have:=a0Z (B-53);constructor<;>grind
 ·refine d4q neg M p B h0 ?_ h1 h2;have hm:=d9Y neg M p hlt hgt;have l1:((2^M.log2:Nat):Rat)<=(M:Rat):=a0V (Nat.log2_self_le h0);have l2:=a1f l1 (Rat.le_of_lt (a0Z p));have:p2 ((M.log2:Int)+p)<p2 (B+1):=by
   rw[a1B,a1O];grind
  have:=b4S this;omega
theorem e3K (s t:Bool):sgR (s ^^ t)=sgR s*sgR t:=by cases s<;>cases t<;>decide +kernel
theorem e3L (s:Bool):sgR (!s)=-sgR s:=by cases s<;>decide +kernel
theorem a8m (s:Bool) (m:Nat) (e base:Int) (h:base<=e):((Ieee.signed s m (e-base).toNat:Int):Rat)*p2 base=RV s m e:=by
 unfold Ieee.signed RV;have e1:e=((e-base).toNat:Int)+base:=by omega
 rw[Nat.shiftLeft_eq];have e2:p2 e=((2^(e-base).toNat:Nat):Rat)*p2 base:=by
  have:=a1B ((e-base).toNat:Int) base;rw[<- e1,a1O]at this;exact this
 rw[e2];cases s
 ·have:sgR false=1:=rfl;rw[this,if_neg (by decide),Rat.intCast_natCast,Rat.natCast_mul];grind
 ·have:sgR true=-1:=rfl;rw[this,if_pos rfl,Rat.intCast_neg,Rat.intCast_natCast,Rat.natCast_mul];grind
theorem h0Z (s t:Bool) (m n:Nat) (e f:Int) (B:Int) (h1:-1022<=B) (h2:B<=1022) (hlt:RV s m e+RV t n f<p2 (B+1)) (hgt:-p2 (B+1)<RV s m e+RV t n f) :
 ∃w r,(Ieee.Datum.sum (.number s m e) (.number t n f)).map Ieee.double.write=some w /\ IsR w r /\ c2H r (RV s m e+RV t n f) (p2 (B-53)):=by
 unfold Ieee.Datum.sum;dsimp only;have hs:=a8m s m e (min e f) (by omega);have ht:=a8m t n f (min e f) (by omega);generalize hT:Ieee.signed s m (e-min e f).toNat+Ieee.signed t n (f-min e f).toNat=T;have hT2:((T:Int):Rat)*p2 (min e f)=RV s m e+RV t n f:=by
  rw[<- hT,Rat.intCast_add,<- hs,<- ht];grind
 have hV:RV (if T=0 then s&&t else decide (T<0)) T.natAbs (min e f)=RV s m e+RV t n f:=by
  rw[<- hT2];unfold RV;by_cases c0:T=0
  ·subst c0;simp[Rat.mul_zero,Rat.zero_mul]
  ·rw[if_neg c0];by_cases c1:T<0
   ·have e1:((T:Int):Rat)=-((T.natAbs:Nat):Rat):=by
     rw[<- Rat.intCast_natCast,<- Rat.intCast_neg];congr 1;omega
    rw[e1];simp only[c1,decide_true];have:sgR true=-1:=rfl;rw[this];grind
   ·have e1:((T:Int):Rat)=((T.natAbs:Nat):Rat):=by
     rw[<- Rat.intCast_natCast];congr 1;omega
    rw[e1];simp only[c1,decide_false];have:sgR false=1:=rfl;rw[this];grind
 rw[<- hV]at hlt hgt;obtain⟨r,h3,h4⟩:=b2l _ _ _ B h1 h2 hlt hgt;rw[hV]at h4;exact⟨_,r,rfl,h3,h4⟩
theorem h1a {a b:Nat} {x y:Rat} (ha:IsR a x) (hb:IsR b y) (B:Int) (h1:-1022<=B) (h2:B<=1022) (hlt:x+y<p2 (B+1)) (hgt:-p2 (B+1)<x+y) :
 ∃r,IsR (a0a .add .f64 a b) r /\ c2H r (x+y) (p2 (B-53)):=by
 obtain⟨s,m,e,hr,he,rfl⟩:=ha;obtain⟨t,n,f,hr',hf,rfl⟩:=hb;obtain⟨w,r,h3,h4,h5⟩:=h0Z s t m n e f B h1 h2 hlt hgt;have e1:a0a .add .f64 a b=(((Ieee.double.read a).sum (Ieee.double.read b)).map Ieee.double.write).getD (qn .f64):=rfl;rw[e1,hr,hr',h3];exact⟨r,h4,h5⟩
theorem f3o (s:Bool) (m:Nat) (e:Int):RV (!s) m e=-RV s m e:=by
 unfold RV;rw[e3L];grind
theorem c9t {w:Nat} {q:Rat} (h:IsR w q):∃v:Int,isD w v /\ q=(v:Rat)*p2 (-1074):=by
 obtain⟨s,m,e,hr,he,rfl⟩:=h;obtain⟨c,hc⟩:∃c:Nat,e=(c:Int)-1074:=⟨(e+1074).toNat,by omega⟩;subst hc;refine⟨VU s m c,⟨s,m,c,hr,rfl⟩,?_⟩;unfold RV VU;rw[Int.sub_eq_add_neg,a1B,a1O];cases s
 ·have:sgR false=1:=rfl;rw[this,if_neg (by decide),Rat.intCast_natCast,Rat.natCast_mul];grind
 ·have:sgR true=-1:=rfl;rw[this,if_pos rfl,Rat.intCast_neg,Rat.intCast_natCast,Rat.natCast_mul];grind
theorem e3M {v w:Int}:(v:Rat)*p2 (-1074)<(w:Rat)*p2 (-1074)↔v<w:=by
 have hp:=a0Z (-1074);constructor
 ·intro h;apply Classical.byContradiction;intro hn;have:(w:Rat)<=(v:Rat):=Rat.intCast_le_intCast.2 (by omega);have:=a1f this (Rat.le_of_lt hp);grind
 ·intro h;have:(v:Rat)<(w:Rat):=Rat.intCast_lt_intCast.2 h;exact Rat.mul_lt_mul_of_pos_right this hp
theorem f3p {a b:Nat} {x y:Rat} (ha:IsR a x) (hb:IsR b y):FloatKind.f64.format.order a b=some (if x<y then .lt else if y<x then .gt else .eq):=by
 obtain⟨v,h1,rfl⟩:=c9t ha;obtain⟨w,h2,rfl⟩:=c9t hb;rw[h0X h1 h2];simp only[e3M];congr 1;rw[Int.compare_eq_ite_lt]
theorem f7s {a b:Nat} {x y:Rat} (ha:IsR a x) (hb:IsR b y):flt .f64 a b=decide (x<y):=by
 unfold flt;rw[f3p ha hb];by_cases h:x<y
 ·simp[h]
 ·by_cases h2:y<x<;>simp[h,h2]
theorem g4D {a b:Nat} {x y:Rat} (ha:IsR a x) (hb:IsR b y):fgt .f64 a b=decide (y<x):=by
 unfold fgt;rw[f3p ha hb];by_cases h:x<y
 ·have:¬y<x:=by grind
  simp[h,this]
 ·by_cases h2:y<x<;>simp[h,h2]
theorem e6E {a b:Nat} {x y:Rat} (ha:IsR a x) (hb:IsR b y):feq .f64 a b=decide (x=y):=by
 unfold feq;rw[f3p ha hb];by_cases h:x<y
 ·have:¬x=y:=by grind
  simp[h,this]
 ·by_cases h2:y<x
  ·have:¬x=y:=by grind
   simp[h,h2,this]
  ·have:x=y:=by grind
   simp[this]
abbrev a6O:Type:=List Nat×List Int×List (List Nat)×Unit
def wAt (p:a6O) (i:Nat):Nat:=p.1.getD i 0
def aAt (p:a6O) (i:Nat):Int:=p.2.1.getD i 0
def rAt (p:a6O) (i:Nat):List Nat:=p.2.2.1.getD i []
def fle (x c:Nat):Bool:=flt .f32 x c||feq .f32 x c
def fge (x c:Nat):Bool:=fgt .f32 x c||feq .f32 x c
def a3z (x:Nat):Bool:=fge x 0&&fle x 1112014848
def a7N (l:List Nat):Bool:=a0i (fun j=>a3z (l.getD j 0)) 0 l.length
def a3A (p:a6O) (i:Nat):Bool:=fgt .f32 (wAt p i) 0&&fle (wAt p i) 1120403456&&(decide (i=0)||fgt .f32 (wAt p i) (wAt p (i-1)))
def c3s (p:a6O) (i:Nat):Bool:=decide (i=0)||decide (aAt p (i-1)<aAt p i)
def d1b (p:a6O) (i:Nat):Bool:=decide ((rAt p i).length=p.2.1.length)&&a7N (rAt p i)
def a2O (p:a6O):Bool:=a0n (p.1.length:Int) 1 12&&(a0n (p.2.1.length:Int) 2 24&&(decide (p.2.2.1.length=p.1.length)&&(a0i (a3A p) 0 p.1.length &&
 (a0i (c3s p) 0 p.2.1.length&&(aAt p 0==0&&(aAt p (p.2.1.length-1)==180&&a0i (d1b p) 0 p.2.2.1.length))))))
theorem b7i (x:Nat):e9A (x,())=some (a3z x,()):=by
 unfold e9A a3z;show(bif fge x 0 then some (fle x 1112014848,())else some (false,()))=_;cases fge x 0<;>rfl
theorem e3N (x:Nat):e9B (x,())=some (!a3z x,()):=by
 unfold e9B;have e:e9A (x,())=some (a3z x,()):=b7i x;simp only[e2l,e2m,e,isSome_some,getD_some,cond_true]
theorem d1c (k:Nat) (h0:0<k) (h:k<9223372036854775807):wrap IntKind.i64 ((k:Int)-1)=((k-1:Nat):Int):=by rw[w64 (by omega) (by omega)];omega
theorem e3O (l:List Nat) (h:l.length<=1000):e9D ((l,(),()),())=some ((!a7N l,()),()):=by
 have hl:b0B ((l,(),(l.length:Int),(0:Int),()),())=some (match a0s (fun j=>!a3z (l.getD j 0)) 0 l.length with|some j => .inr (((j:Int),()),())|none => .inl ((),())):=by
  refine(a4b (q:=b4c) (fun k=>((l,(),(l.length:Int),(k:Int),()),())) l.length (fun j=>!a3z (l.getD j 0)) (.inl ((),())) (fun j => .inr (((j:Int),()),())) ?_ ?_ (b9l ((l,(),(l.length:Int),(0:Int),()),())) ?_:_)
  ·intro k f hk;unfold b4c;have e1:decide ((k:Int)<(l.length:Int))=true:=by simpa using hk
   have e2:decide (0<=(k:Int))=true:=by simp
   have ha:getD l k (zero (Ty.flt FloatKind.f32))=l.getD k 0:=rfl;have e3:e9B (l.getD k 0,())=some (!a3z (l.getD k 0),()):=e3N _;simp only[a2h k (by omega),e1,e2,Bool.and_self,cond_true,toNat_natCast,ha,g0n,g0o,e3,isSome_some,getD_some]
  ·intro f;unfold b4c;simp
  ·simp only[b9l];omega
 have h55:f5q ((l,(),()),())=some ((match a0s (fun j=>!a3z (l.getD j 0)) 0 l.length with|none=>(-1:Int)|some j=>(j:Int),()),()):=by
  unfold f5q;simp only[c6n,c6o,c6p,hl,isSome_some,cond_true];cases a0s (fun j=>!a3z (l.getD j 0)) 0 l.length<;>rfl
 unfold e9D;simp only[g0r,g0s,h55,isSome_some,getD_some,cond_true];unfold a7N;cases hf:a0s (fun j=>!a3z (l.getD j 0)) 0 l.length with
 | none =>
   have h1:a0i (fun j=>a3z (l.getD j 0)) 0 l.length=true:=a0t.2 fun j h0 hj=>by
    have:=a2c.1 hf j h0 hj;simpa using this
   rw[h1];rfl
 | some j =>
   obtain⟨h1,h2,h3,_⟩:=a1I hf;have h4:a0i (fun j=>a3z (l.getD j 0)) 0 l.length=false:=by
    rw[Bool.eq_false_iff];intro ht;have:=a0t.1 ht j h1 h2;have h3':(!a3z (l.getD j 0))=true:=h3;rw[this]at h3';cases h3'
   rw[h4];have:decide ((j:Int) ≥ 0)=true:=by simp
   exact congrArg (fun b:Bool=>some ((b,()),())) this
theorem d9Z (p:a6O):F90 (p,())=some (a2O p,()):=by
 unfold F90 a2O;have i1:F44 ((p.1.length:Int),1,12,())=some (a0n (p.1.length:Int) 1 12,()):=a2N _ _ _;have i2:F44 ((p.2.1.length:Int),2,24,())=some (a0n (p.2.1.length:Int) 2 24,()):=a2N _ _ _;simp only[K44,G44,i1,i2,isSome_some,getD_some,cond_true];cases h1:a0n (p.1.length:Int) 1 12
 ·rfl
 cases h2:a0n (p.2.1.length:Int) 2 24
 ·rfl
 simp only[a0n,and_eq_true,decide_eq_true_eq]at h1 h2;by_cases h3:p.2.2.1.length=p.1.length
 rotate_left
 ·have e1:((p.2.2.1.length:Int) != (p.1.length:Int))=true:=by simp;omega
  have e2:decide (p.2.2.1.length=p.1.length)=false:=by simpa using h3
  rw[e1,e2];rfl
 have e1:((p.2.2.1.length:Int) != (p.1.length:Int))=false:=by simp;omega
 have e2:decide (p.2.2.1.length=p.1.length)=true:=by simpa using h3
 rw[e1,e2];have hl4:c2j (((),p.1,(p.1.length:Int),(0:Int),()),(p,()))=some (bif a0i (a3A p) 0 p.1.length then .inl (((),()),(p,()))else .inr ((false,()),())):=by
  refine(a0H (q:=c6z) (fun k=>(((),p.1,(p.1.length:Int),(k:Int),()),(p,()))) p.1.length (a3A p) _ _ ?_ ?_ _ ?_:_)
  ·intro k f hk;unfold c6z a3A;have e1:decide ((k:Int)<(p.1.length:Int))=true:=by simpa using hk
   have e2:decide (0<=(k:Int))=true:=by simp
   have ha:getD p.1 k (zero (Ty.flt FloatKind.f32))=wAt p k:=rfl;simp only[a2h k (by omega),e1,e2,Bool.and_self,cond_true,toNat_natCast,ha];show(bif fgt .f32 (wAt p k) 0 then bif !fle (wAt p k) 1120403456 then _ else _ else _)=_;cases fgt .f32 (wAt p k) 0
   ·rfl
   cases fle (wAt p k) 1120403456
   ·rfl
   simp only[Bool.not_true,cond_false,cond_true,Bool.true_and];by_cases h0:k=0
   ·subst h0;simp
   ·have e3:decide ((k:Int)>0)=true:=by simp;omega
    have e4:decide (0<=((k-1:Nat):Int))=true:=by simp
    have e5:decide (((k-1:Nat):Int)<(p.1.length:Int))=true:=by simp;omega
    have e6:decide (k=0)=false:=by simpa using h0
    have hb:getD p.1 (k-1) (zero (Ty.flt FloatKind.f32))=wAt p (k-1):=rfl;simp only[e3,d1c k (by omega) (by omega),e4,e5,Bool.and_self,cond_true,toNat_natCast,hb,e6,Bool.false_or];cases fgt .f32 (wAt p k) (wAt p (k-1))<;>rfl
  ·intro f;unfold c6z;simp
  ·simp only[e2n];omega
 simp only[d7u,d7v,d7x,d7w,hl4,isSome_some,cond_true,cond_false,Bool.true_and];cases a0i (a3A p) 0 p.1.length
 ·rfl
 simp only[cond_true,isR,xOf,cond_false,Bool.true_and];have hl10:b0D (((),p.2.1,(p.2.1.length:Int),(0:Int),()),(p,()))=some (bif a0i (c3s p) 0 p.2.1.length then .inl (((),()),(p,()))else .inr ((false,()),())):=by
  refine(a0H (q:=b4e) (fun k=>(((),p.2.1,(p.2.1.length:Int),(k:Int),()),(p,()))) p.2.1.length (c3s p) _ _ ?_ ?_ _ ?_:_)
  ·intro k f hk;unfold b4e c3s;have e1:decide ((k:Int)<(p.2.1.length:Int))=true:=by simpa using hk
   have e2:decide (0<=(k:Int))=true:=by simp
   have ha:getD p.2.1 k (zero (Ty.int IntKind.i64))=aAt p k:=rfl;simp only[a2h k (by omega),e1,e2,Bool.and_self,cond_true,toNat_natCast,ha];by_cases h0:k=0
   ·subst h0;simp
   ·have e3:decide ((k:Int)>0)=true:=by simp;omega
    have e4:decide (0<=((k-1:Nat):Int))=true:=by simp
    have e5:decide (((k-1:Nat):Int)<(p.2.1.length:Int))=true:=by simp;omega
    have e6:decide (k=0)=false:=by simpa using h0
    have hb:getD p.2.1 (k-1) (zero (Ty.int IntKind.i64))=aAt p (k-1):=rfl;simp only[e3,d1c k (by omega) (by omega),e4,e5,Bool.and_self,cond_true,toNat_natCast,hb,e6,Bool.false_or];have e7:decide (aAt p k<=aAt p (k-1))=!decide (aAt p (k-1)<aAt p k):=by
     by_cases h:aAt p (k-1)<aAt p k
     ·simp[h]
     ·simp[h];omega
    rw[e7];cases decide (aAt p (k-1)<aAt p k)<;>rfl
  ·intro f;unfold b4e;simp
  ·simp only[c6u];omega
 simp only[c6v,c6w,c6y,c6x,hl10,isSome_some,cond_true,cond_false];cases a0i (c3s p) 0 p.2.1.length
 ·rfl
 simp only[cond_true,isR,xOf,cond_false,Bool.true_and];have g1:(decide (0<=0)&&decide ((0:Int)<(length (α:=Den (Ty.int IntKind.i64)) p.2.1:Int)))=true:=by
  have:(0:Int)<(p.2.1.length:Int):=by omega
  exact(decide_eq_true this:_)
 have g2:wrap IntKind.i64 ((length (α:=Den (Ty.int IntKind.i64)) p.2.1:Int)-1)=((length (α:=Den (Ty.int IntKind.i64)) p.2.1-1:Nat):Int):=d1c _ (by omega) (by omega);have g3:decide (((length (α:=Den (Ty.int IntKind.i64)) p.2.1-1:Nat):Int)<(length (α:=Den (Ty.int IntKind.i64)) p.2.1:Int))=true:=by simp;omega
 have g4:decide (0<=((length (α:=Den (Ty.int IntKind.i64)) p.2.1-1:Nat):Int))=true:=by simp
 have ha:getD p.2.1 0 (zero (Ty.int IntKind.i64))=aAt p 0:=rfl;have hb:getD p.2.1 (p.2.1.length-1) (zero (Ty.int IntKind.i64))=aAt p (p.2.1.length-1):=rfl
 erw [g1]
 simp only[g2,g3,g4,toNat_natCast,Int.toNat_zero,ha,hb,Bool.and_self,Bool.not_true,cond_false,cond_true];by_cases h5:aAt p 0=0
 rotate_left
 ·have e5:(aAt p 0 != 0)=true:=by simpa using h5
  have e6:(aAt p 0==0)=false:=by simpa using h5
  rw[e5,e6];rfl
 have e5:(aAt p 0 != 0)=false:=by simpa using h5
 have e6:(aAt p 0==0)=true:=by simpa using h5
 rw[e5,e6];by_cases h7:aAt p (p.2.1.length-1)=180
 rotate_left
 ·have e7:(aAt p (p.2.1.length-1) != 180)=true:=by simpa using h7
  have e8:(aAt p (p.2.1.length-1)==180)=false:=by simpa using h7
  rw[e7,e8];rfl
 have e7:(aAt p (p.2.1.length-1) != 180)=false:=by simpa using h7
 have e8:(aAt p (p.2.1.length-1)==180)=true:=by simpa using h7
 rw[e7,e8];have hl18:b0C (((),p.2.2.1,(p.2.2.1.length:Int),(0:Int),()),(p,()))=some (bif a0i (d1b p) 0 p.2.2.1.length then .inl ((),())else .inr ((false,()),())):=by
  refine(a0H (q:=b4d) (fun k=>(((),p.2.2.1,(p.2.2.1.length:Int),(k:Int),()),(p,()))) p.2.2.1.length (d1b p) _ _ ?_ ?_ _ ?_:_)
  ·intro k f hk;unfold b4d d1b;have e1:decide ((k:Int)<(p.2.2.1.length:Int))=true:=by simpa using hk
   have e2:decide (0<=(k:Int))=true:=by simp
   have ha:getD p.2.2.1 k (zero (Ty.slice (Ty.flt FloatKind.f32)))=rAt p k:=rfl;simp only[a2h k (by omega),e1,e2,Bool.and_self,cond_true,toNat_natCast,ha];by_cases h9:(rAt p k).length=p.2.1.length
   ·have e3:(((rAt p k).length:Int) != (p.2.1.length:Int))=false:=by simp;omega
    have e4:decide ((rAt p k).length=p.2.1.length)=true:=by simpa using h9
    have e9:e9D ((rAt p k,(),()),())=some ((!a7N (rAt p k),()),()):=e3O _ (by omega);rw[e3,e4];simp only[cond_false,g0v,g0w,e9,isSome_some,getD_some,cond_true,Bool.true_and];cases a7N (rAt p k)<;>rfl
   ·have e3:(((rAt p k).length:Int) != (p.2.1.length:Int))=true:=by simp;omega
    have e4:decide ((rAt p k).length=p.2.1.length)=false:=by simpa using h9
    rw[e3,e4];rfl
  ·intro f;unfold b4d;simp
  ·simp only[c6q];omega
 simp only[c6r,c6s,c6t,hl18,isSome_some,cond_true,cond_false,Bool.true_and];cases a0i (d1b p) 0 p.2.2.1.length<;>rfl
theorem c2I {x y:Nat} (hx:fgt .f32 x 0=true) (hx2:fle x 1120403456=true) (hy:fgt .f32 y 0=true) (hy2:fle y 1120403456=true):fle x y=!fgt .f32 x y:=by
 unfold fle flt feq fgt at *;have num:∀z:Nat,(FloatKind.f32.format.order z 0==some .gt)=true->((FloatKind.f32.format.order z 1120403456==some .lt)||(FloatKind.f32.format.order z 1120403456==some .eq))=true->∃s m e,Ieee.single.read z = .number s m e:=by
  intro z h1 h2;have o1:FloatKind.f32.format.order z 1120403456=(Ieee.single.read z).order (Ieee.single.read 1120403456):=rfl;have r1:∃s m e,Ieee.single.read 1120403456 = .number s m e:=⟨false,13107200,-17,by decide +kernel⟩;have o2:FloatKind.f32.format.order z 0=(Ieee.single.read z).order (Ieee.single.read 0):=rfl;have r2:∃s m e,Ieee.single.read 0 = .number s m e:=⟨false,0,-149,by decide +kernel⟩;obtain⟨s,m,e,hr⟩:=r1;obtain⟨s2,m2,e2,hr2⟩:=r2;rw[o1,hr]at h2;rw[o2,hr2]at h1;cases hz:Ieee.single.read z with
  |number a b c=>exact⟨a,b,c,rfl⟩
  |nan a b=>rw[hz]at h2;simp[Ieee.Datum.order]at h2
  | infinity a =>
    rw[hz]at h1 h2;cases a<;>simp[Ieee.Datum.order]at h1 h2
 obtain⟨s,m,e,h1⟩:=num x hx hx2;obtain⟨t,n,f,h2⟩:=num y hy hy2;have o:FloatKind.f32.format.order x y=(Ieee.single.read x).order (Ieee.single.read y):=rfl;rw[o,h1,h2];unfold Ieee.Datum.order;dsimp only;generalize compare (α:=Int) _ _=c;cases c<;>rfl
def a5A (p:a6O) (i:Nat):Bool:=a3A p i&&d1b p i
theorem e0a (p:a6O):F99 (p,())=some (a2O p,()):=by
 unfold F99;have i1:F51 ((p.1.length:Int),1,12,())=some (a0n (p.1.length:Int) 1 12,()):=a1F _ _ _;have i2:F51 ((p.2.1.length:Int),2,24,())=some (a0n (p.2.1.length:Int) 2 24,()):=a1F _ _ _;simp only[K51,G51,i1,i2,isSome_some,getD_some,cond_true];unfold a2O;cases h1:a0n (p.1.length:Int) 1 12
 ·rfl
 cases h2:a0n (p.2.1.length:Int) 2 24
 ·rfl
 simp only[a0n,and_eq_true,decide_eq_true_eq]at h1 h2;by_cases h3:p.2.2.1.length=p.1.length
 rotate_left
 ·have e1:((p.2.2.1.length:Int) != (p.1.length:Int))=true:=by simp;omega
  have e2:decide (p.2.2.1.length=p.1.length)=false:=by simpa using h3
  rw[e1,e2];rfl
 have e1:((p.2.2.1.length:Int) != (p.1.length:Int))=false:=by simp;omega
 have e2:decide (p.2.2.1.length=p.1.length)=true:=by simpa using h3
 rw[e1,e2];have hl9:∀k,k<p.1.length->(rAt p k).length<=24->c2f (((),(k:Int),(0:Int),()),(p,()))=some (bif a7N (rAt p k)then .inl (((),(k:Int),()),(p,()))else .inr ((false,()),())):=by
  intro k hk h24;refine(a0H (q:=c4Q) (fun j=>(((),(k:Int),(j:Int),()),(p,()))) (rAt p k).length (fun j=>a3z ((rAt p k).getD j 0)) _ _ ?_ ?_ _ ?_:_)
  ·intro j f hj;unfold c4Q a3z;have e1:decide ((k:Int)<(p.2.2.1.length:Int))=true:=by simp;omega
   have e2:decide (0<=(k:Int))=true:=by simp
   have e3:decide ((j:Int)<((rAt p k).length:Int))=true:=by simpa using hj
   have e4:decide (0<=(j:Int))=true:=by simp
   have ha:getD p.2.2.1 k (zero (Ty.slice (Ty.flt FloatKind.f32)))=rAt p k:=rfl;have hb:getD (rAt p k) j (zero (Ty.flt FloatKind.f32))=(rAt p k).getD j 0:=rfl;simp only[a2h j (by omega),e1,e2,Bool.and_self,cond_true,toNat_natCast,ha,e3,e4,hb];show(bif fge ((rAt p k).getD j 0) 0 then bif !fle ((rAt p k).getD j 0) 1112014848 then _ else _ else _)=_;cases fge ((rAt p k).getD j 0) 0
   ·rfl
   cases fle ((rAt p k).getD j 0) 1112014848<;>rfl
  ·intro f;unfold c4Q;have e1:decide ((k:Int)<(p.2.2.1.length:Int))=true:=by simp;omega
   have e2:decide (0<=(k:Int))=true:=by simp
   have ha:getD p.2.2.1 k (zero (Ty.slice (Ty.flt FloatKind.f32)))=rAt p k:=rfl;simp only[e1,e2,Bool.and_self,cond_true,toNat_natCast,ha,Int.lt_irrefl,decide_false,cond_false]
  ·simp only[e1A];have:(rAt p k).length<=24:=h24;omega
 have hl4 : c2g (((),(0:Int),()),(p,()))=some (bif a0i (a5A p) 0 p.1.length then .inl (((),()),(p,()))else .inr ((false,()),())):=by
  have key:∀(n k:Nat),k+n=p.1.length->a0i (a3A p) 0 k=true->∀m,n<m->a0C (b1S) m (((),(k:Int),()),(p,()))=some (bif a0i (a5A p) k n then .inl (((),()),(p,()))else .inr ((false,()),())):=by
   intro n
   induction n with
   | zero =>
     intro k hk _ m hm;cases m with
     |zero=>omega
     | succ m =>
       show b1S _ _=_;have:k=p.1.length:=by omega
       unfold b1S;simp only[this,Int.lt_irrefl,decide_false,cond_false];rfl
   | succ n ih =>
     intro k hk hw m hm;cases m with
     |zero=>omega
     | succ m =>
       show b1S (a0C (b1S) m) _=_;have e1:decide ((k:Int)<(p.1.length:Int))=true:=by simp;omega
       have e1':decide ((k:Int)<(p.2.2.1.length:Int))=true:=by simp;omega
       have e2:decide (0<=(k:Int))=true:=by simp
       have ha:getD p.1 k (zero (Ty.flt FloatKind.f32))=wAt p k:=rfl;have hr:getD p.2.2.1 k (zero (Ty.slice (Ty.flt FloatKind.f32)))=rAt p k:=rfl;have hcons:a0i (a5A p) k (n+1)=bif a5A p k then a0i (a5A p) (k+1) n else false:=by
        show(a5A p k&&a0i (a5A p) (k+1) n)=_;cases a5A p k<;>rfl
       have hnext:a3A p k=true->a0i (a3A p) 0 (k+1)=true:=by
        intro h;refine a0t.2 fun j h0 hj=>?_
        by_cases c:j=k
        ·rw[c];exact h
        ·exact a0t.1 hw j h0 (by omega)
       have tail:a3A p k=true->(bif (((rAt p k).length:Int) != (p.2.1.length:Int))then some (Sum.inr ((false,()),()))else
        bif b8w (((),(k:Int),0,()),(p,()))then bif b8x (((),(k:Int),0,()),(p,()))then some (Sum.inr (((b8y (((),(k:Int),0,()),(p,()))).1.1,()),()))
        else a0C (b1S) m (((),wrap IntKind.i64 ((b3D (((),(k:Int),0,()),(p,()))).1.2.1+1),()),((b3D (((),(k:Int),0,()),(p,()))).2.1,()))else none) =
        some (bif a0i (a5A p) k (n+1)then .inl (((),()),(p,()))else .inr ((false,()),())):=by
        intro hwk;rw[hcons];unfold a5A d1b;rw[hwk];by_cases h9:(rAt p k).length=p.2.1.length
        ·have e3:(((rAt p k).length:Int) != (p.2.1.length:Int))=false:=by simp;omega
         have e4:decide ((rAt p k).length=p.2.1.length)=true:=by simpa using h9
         have h99:=hl9 k (by omega) (by omega);rw[e3,e4];simp only[cond_false,b8w,b8x,b3D,b8y,h99,isSome_some,cond_true,Bool.true_and];cases a7N (rAt p k)
         ·rfl
         ·simp only[cond_true,isR,xOf,cond_false,a2h k (by omega)];exact ih (k+1) (by omega) (hnext hwk) m (by omega)
        ·have e3:(((rAt p k).length:Int) != (p.2.1.length:Int))=true:=by simp;omega
         have e4:decide ((rAt p k).length=p.2.1.length)=false:=by simpa using h9
         rw[e3,e4];rfl
       have hno:a3A p k=false->some (Sum.inr ((false,()),()))=(some (bif a0i (a5A p) k (n+1)then .inl (((),()),(p,()))else .inr ((false,()),())):Option (e1B⊕e1C)):=by
        intro h;rw[hcons];unfold a5A;rw[h];rfl
       unfold b1S;simp only[e1,e1',e2,Bool.and_self,cond_true,toNat_natCast,ha,hr];show(bif fgt .f32 (wAt p k) 0 then bif !fle (wAt p k) 1120403456 then _ else _ else _)=_;cases c1:fgt .f32 (wAt p k) 0
       ·exact hno (by unfold a3A;rw[c1];rfl)
       cases c2:fle (wAt p k) 1120403456
       ·exact hno (by unfold a3A;rw[c1,c2];rfl)
       simp only[Bool.not_true,cond_false,cond_true];by_cases h0:k=0
       ·have e3:decide ((k:Int)>0)=false:=by simp;omega
        rw[e3];exact tail (by unfold a3A;rw[c1,c2,h0];rfl)
       ·have e3:decide ((k:Int)>0)=true:=by simp;omega
        have e4:decide (0<=((k-1:Nat):Int))=true:=by simp
        have e5:decide (((k-1:Nat):Int)<(p.1.length:Int))=true:=by simp;omega
        have e6:decide (k=0)=false:=by simpa using h0
        have hb:getD p.1 (k-1) (zero (Ty.flt FloatKind.f32))=wAt p (k-1):=rfl;have hwp:a3A p (k-1)=true:=a0t.1 hw (k-1) (zero_le _) (by omega);have hwp':fgt .f32 (wAt p (k-1)) 0=true /\ fle (wAt p (k-1)) 1120403456=true:=by
         unfold a3A at hwp;simp only[and_eq_true]at hwp;exact hwp.1
        have hfl:=c2I c1 c2 hwp'.1 hwp'.2;simp only[e3,d1c k (by omega) (by omega),e4,e5,Bool.and_self,cond_true,toNat_natCast,hb];show(bif fle (wAt p k) (wAt p (k-1))then _ else _)=_;rw[hfl];cases c3:fgt .f32 (wAt p k) (wAt p (k-1))
        ·exact hno (by unfold a3A;rw[c1,c2,c3,e6];rfl)
        ·exact tail (by unfold a3A;rw[c1,c2,c3,e6];rfl)
  exact key p.1.length 0 (by omega) rfl _ (by simp only[e1D];omega)
 have hrows:a0i (a5A p) 0 p.1.length=(a0i (a3A p) 0 p.1.length&&a0i (d1b p) 0 p.1.length):=by
  rw[Bool.eq_iff_iff];simp only[and_eq_true];constructor
  ·intro h;exact⟨a0t.2 fun j h0 hj=>by have:=a0t.1 h j h0 hj;unfold a5A at this;simp only[and_eq_true]at this;exact this.1,
    a0t.2 fun j h0 hj=>by have:=a0t.1 h j h0 hj;unfold a5A at this;simp only[and_eq_true]at this;exact this.2⟩
  ·rintro⟨h,h'⟩;exact a0t.2 fun j h0 hj=>by unfold a5A;rw[a0t.1 h j h0 hj,a0t.1 h' j h0 hj];rfl
 simp only[d5I,d5J,d5L,d5K,hl4,isSome_some,cond_true,cond_false,Bool.true_and];rw[h3,hrows];cases hwb:a0i (a3A p) 0 p.1.length
 ·rfl
 cases hrb:a0i (d1b p) 0 p.1.length
 ·simp only[Bool.and_false,Bool.and_self,isR,yOf,cond_true,cond_false];rfl
 simp only[Bool.and_self,cond_true,isR,xOf,cond_false,Bool.true_and,Bool.and_true];have hl14:b0s (((),(1:Int),()),(p,()))=some (bif a0i (c3s p) 0 p.2.1.length then .inl (((),()),(p,()))else .inr ((false,()),())):=by
  have h0:a0i (c3s p) 0 p.2.1.length=a0i (fun j=>c3s p (j+1)) 0 (p.2.1.length-1):=by
   rw[Bool.eq_iff_iff,a0t,a0t];constructor
   ·intro h j _ hj;exact h (j+1) (by omega) (by omega)
   ·intro h j _ hj;by_cases c:j=0
    ·subst c;rfl
    ·have:=h (j-1) (zero_le _) (by omega)
     rwa [show j-1+1=j by omega]at this
  rw[h0];refine(a0H (q:=b3C) (fun k=>(((),((k+1:Nat):Int),()),(p,()))) (p.2.1.length-1) (fun j=>c3s p (j+1)) _ _ ?_ ?_ _ ?_:_)
  ·intro k f hk;unfold b3C c3s;have e1:decide (((k+1:Nat):Int)<(p.2.1.length:Int))=true:=by simp;omega
   have e2:decide (0<=((k+1:Nat):Int))=true:=by simp;omega
   have ha:getD p.2.1 (k+1) (zero (Ty.int IntKind.i64))=aAt p (k+1):=rfl;have e4:decide (0<=((k+1-1:Nat):Int))=true:=by simp
   have e5:decide (((k+1-1:Nat):Int)<(p.2.1.length:Int))=true:=by simp;omega
   have hb:getD p.2.1 (k+1-1) (zero (Ty.int IntKind.i64))=aAt p (k+1-1):=rfl;simp only[a2h (k+1) (by omega),e1,e2,Bool.and_self,cond_true,toNat_natCast,ha,d1c (k+1) (by omega) (by omega),e4,e5,hb];have e6:decide (k+1=0)=false:=by simp
   have e7:decide (aAt p (k+1)<=aAt p (k+1-1))=!decide (aAt p (k+1-1)<aAt p (k+1)):=by
    by_cases h:aAt p (k+1-1)<aAt p (k+1)
    ·have:¬aAt p (k+1)<=aAt p (k+1-1):=by omega
     rw[decide_eq_false this,decide_eq_true h];rfl
    ·have:aAt p (k+1)<=aAt p (k+1-1):=by omega
     rw[decide_eq_true this,decide_eq_false h];rfl
   rw[e6,e7];cases decide (aAt p (k+1-1)<aAt p (k+1))<;>rfl
  ·intro f;unfold b3C;have:decide (((p.2.1.length-1+1:Nat):Int)<(p.2.1.length:Int))=false:=by simp;omega
   simp only[this,cond_false]
  ·simp only[c4L];omega
 simp only[c4M,c4N,c4P,c4O,hl14,isSome_some,cond_true];cases a0i (c3s p) 0 p.2.1.length
 ·rfl
 simp only[cond_true,isR,xOf,cond_false,Bool.true_and];have g1:(decide (0<=0)&&decide ((0:Int)<(length (α:=Den (Ty.int IntKind.i64)) p.2.1:Int)))=true:=by
  have:(0:Int)<(p.2.1.length:Int):=by omega
  exact(decide_eq_true this:_)
 have g2:wrap IntKind.i64 ((length (α:=Den (Ty.int IntKind.i64)) p.2.1:Int)-1)=((length (α:=Den (Ty.int IntKind.i64)) p.2.1-1:Nat):Int):=d1c _ (by omega) (by omega);have g3:decide (((length (α:=Den (Ty.int IntKind.i64)) p.2.1-1:Nat):Int)<(length (α:=Den (Ty.int IntKind.i64)) p.2.1:Int))=true:=by simp;omega
 have g4:decide (0<=((length (α:=Den (Ty.int IntKind.i64)) p.2.1-1:Nat):Int))=true:=by simp
 have ha:getD p.2.1 0 (zero (Ty.int IntKind.i64))=aAt p 0:=rfl;have hb:getD p.2.1 (p.2.1.length-1) (zero (Ty.int IntKind.i64))=aAt p (p.2.1.length-1):=rfl
 erw [g1]
 simp only[g2,g3,g4,toNat_natCast,Int.toNat_zero,ha,hb,Bool.and_self,Bool.not_true,cond_false,cond_true];cases (aAt p 0==0)
 ·rfl
 cases (aAt p (p.2.1.length-1)==180)<;>rfl
def a2f (s:Den a1m):List (Nat×Nat):=[s.snd.fst.fst,s.snd.fst.snd.fst,s.snd.fst.snd.snd.fst,s.snd.fst.snd.snd.snd.fst,s.snd.fst.snd.snd.snd.snd.fst,s.snd.fst.snd.snd.snd.snd.snd.fst,s.snd.fst.snd.snd.snd.snd.snd.snd.fst,s.snd.fst.snd.snd.snd.snd.snd.snd.snd.fst,s.snd.fst.snd.snd.snd.snd.snd.snd.snd.snd.fst,s.snd.fst.snd.snd.snd.snd.snd.snd.snd.snd.snd.fst,s.snd.fst.snd.snd.snd.snd.snd.snd.snd.snd.snd.snd.fst,s.snd.fst.snd.snd.snd.snd.snd.snd.snd.snd.snd.snd.snd.fst,s.snd.fst.snd.snd.snd.snd.snd.snd.snd.snd.snd.snd.snd.snd.fst]
theorem b4T (s:Den a1m):(a2f s).length=13:=rfl
theorem c0P (l:List (Nat×Nat)) (h:l.length<=13):e6f (l,())=some (a5z l,()):=by
 have hl:b0E ((l,(l.length:Int),(0:Int),()),())=some (bif a5z l then .inl ((),())else .inr ((false,()),())):=by
  refine(a0H (q:=b4f) (fun k=>((l,(l.length:Int),(k:Int),()),())) l.length (fun i=>a1K (atV l i)) _ _ ?_ ?_ _ ?_:_)
  ·intro k f hk;unfold b4f;have e1:decide ((k:Int)<(l.length:Int))=true:=by simpa using hk
   have e2:decide (0<=(k:Int))=true:=by simp
   have ha:getD l k (zero (Ty.cpx FloatKind.f32))=atV l k:=rfl;have e3:F45 (atV l k,())=some (a1K (atV l k),()):=a4G _;simp only[a2h k (by omega),e1,e2,Bool.and_self,cond_true,toNat_natCast,ha,K45,G45,e3,isSome_some,getD_some];cases a1K (atV l k)<;>rfl
  ·intro f;simp[b4f]
  ·simp only[c6A];omega
 unfold e6f;simp only[c6B,c6C,c6D,hl,isSome_some,cond_true];cases a5z l<;>rfl
theorem c9u (s:Den a1m):e5S (s,())=some (a5z (a2f s),()):=by
 have hl:b0t (((),0,()),(s.fst,s.snd.fst),())=some (bif a5z (a2f s)then .inl ((),())else .inr ((false,()),())):=by
  refine(a0H (q:=b8A) (fun k=>(((),(k:Int),()),(s.fst,s.snd.fst),())) 13 (fun i=>a1K (atV (a2f s) i)) _ _ ?_ ?_ _ ?_:_)
  ·intro k f hk;unfold b8A;have e1:decide ((k:Int)<13)=true:=by simp;omega
   have e2:decide (0<=(k:Int))=true:=by simp
   have e3:F52 ((a2f s).getD k (0,0),())=some (a1K (atV (a2f s) k),()):=a4H _;generalize a1K (atV (a2f s) k)=b at e3 ⊢;simp only[a2h k (by omega),e1,e2,Bool.and_self,cond_true,toNat_natCast];unfold a2f at e3;simp only[K52,G52,e3,isSome_some,getD_some,cond_true];cases b<;>rfl
  ·intro f;rfl
  ·simp only[c4R];omega
 unfold e5S;simp only[c4S,c4T,c4U,hl,isSome_some,cond_true];cases a5z (a2f s)<;>rfl
def a3B (l:List (Den a1m)) (i:Nat):Den a1m:=l.getD i (zero a1m)
def a3e (l:List Int) (i:Nat):Int:=l.getD i 0
def b2m (s:Den a1m):Bool:=a3d s.fst&&a5z (a2f s)
def a9Y (hs:List Int) (k:Nat):Bool:=a0n (a3e hs k) 0 10000000&&(decide (k=0)||!decide (a3e hs k<IntKind.i64.wrap (a3e hs (k-1)+21600)))
def a3s (t:Den S30):Bool:=a0n (t.1.length:Int) 1 20&&(a0n (t.2.1.length:Int) 1 60&&(a0i (fun i=>b2m (a3B t.1 i)) 0 t.1.length&&a0i (a9Y t.2.1) 0 t.2.1.length))
theorem c9v (t:Den S30) (h:a4y t):F91 (t,())=some (a3s t,()):=by
 obtain⟨st,hs,_⟩:=t;obtain⟨h1,h2⟩:=h;have h1:st.length<=21:=h1;have h2:hs.length<=6:=h2;have hl:c2k (((),st,(st.length:Int),0,()),(st,hs,()),())=some (bif a0i (fun i=>b2m (a3B st i)) 0 st.length then .inl (((),()),(st,hs,()),())else .inr ((false,()),())):=by
  refine(a0H (q:=c6I) (fun k=>(((),st,(st.length:Int),(k:Int),()),(st,hs,()),())) st.length (fun i=>b2m (a3B st i)) _ _ ?_ ?_ _ ?_:_)
  ·intro k f hk;unfold c6I;have e1:decide ((k:Int)<(st.length:Int))=true:=by simpa using hk
   have e2:decide (0<=(k:Int))=true:=by simp
   have ha:getD st k (zero a1m)=a3B st k:=rfl;have e3:F61 ((a3B st k).fst,())=some (a3d (a3B st k).fst,()):=a7L _;have e4:e6f (a2f (a3B st k),())=some (a5z (a2f (a3B st k)),()):=c0P _ (by rw[b4T];decide);unfold b2m;simp only[a2h k (by omega),e1,e2,Bool.and_self,cond_true,toNat_natCast,ha,K61,G61,e3,isSome_some,getD_some];unfold a2f at e4 ⊢;simp only[e9J,e9K,e4,isSome_some,getD_some];cases a3d (a3B st k).fst
   ·rfl
   ·cases a5z _<;>rfl
  ·intro f;simp[c6I]
  ·simp only[e2p];omega
 have hl2:b0F (((),hs,(hs.length:Int),0,()),(st,hs,()),())=some (bif a0i (a9Y hs) 0 hs.length then .inl ((),())else .inr ((false,()),())):=by
  refine(a0H (q:=b4g) (fun k=>(((),hs,(hs.length:Int),(k:Int),()),(st,hs,()),())) hs.length (a9Y hs) _ _ ?_ ?_ _ ?_:_)
  ·intro k f hk;unfold b4g;have e1:decide ((k:Int)<(hs.length:Int))=true:=by simpa using hk
   have e2:decide (0<=(k:Int))=true:=by simp
   have ha:∀i,getD hs i (zero (Ty.int IntKind.i64))=a3e hs i:=fun _=>rfl
   have e3:F43 (a3e hs k,())=some (a0n (a3e hs k) 0 10000000,()):=c0c _;unfold a9Y;simp only[a2h k (by omega),e1,e2,Bool.and_self,cond_true,toNat_natCast,ha,K43,G43,e3,isSome_some,getD_some];cases a0n (a3e hs k) 0 10000000
   ·rfl
   ·cases k with
    |zero=>rfl
    | succ k =>
      have e5:IntKind.i64.wrap (((k+1:Nat):Int)-1)=(k:Int):=by rw[w64 (by omega) (by omega)];omega
      have e6:decide (((k+1:Nat):Int)>0)=true:=decide_eq_true (by omega);have e7:(decide (0<=(k:Int))&&decide ((k:Int)<(hs.length:Int)))=true:=by simp only[and_eq_true,decide_eq_true_eq];omega
      simp only[e5,e6,e7,cond_true,toNat_natCast,Bool.not_true,cond_false,Nat.add_sub_cancel,Bool.true_and];have e8:decide (k+1=0)=false:=by simp
      rw[e8,Bool.false_or];cases decide (a3e hs (k+1)<IntKind.i64.wrap (a3e hs k+21600))<;>rfl
  ·intro f;simp[b4g]
  ·simp only[c6E];omega
 have i1:F44 ((st.length:Int),1,20,())=some (a0n (st.length:Int) 1 20,()):=a2N _ _ _;have i2:F44 ((hs.length:Int),1,60,())=some (a0n (hs.length:Int) 1 60,()):=a2N _ _ _;unfold F91 a3s;simp only[K44,G44,i1,i2,isSome_some,getD_some,cond_true,d7F,d7G,d7H,d7I,hl];cases a0n (st.length:Int) 1 20
 ·rfl
 cases a0n (hs.length:Int) 1 60
 ·rfl
 cases a0i (fun i=>b2m (a3B st i)) 0 st.length
 ·rfl
 simp only[cond_true,isR,xOf,Bool.not_true,cond_false,c6F,c6G,c6H,hl2,isSome_some];cases a0i (a9Y hs) 0 hs.length<;>rfl
theorem b7j (t:Den S30) (h:a4y t):e5T (t,())=some (a3s t,()):=by
 obtain⟨st,hs,_⟩:=t;obtain⟨h1,h2⟩:=h;have h1:st.length<=21:=h1;have h2:hs.length<=6:=h2;have hl:b0v (((),0,()),(st,hs,()),())=some (bif a0i (fun i=>b2m (a3B st i)) 0 st.length then .inl (((),()),(st,hs,()),())else .inr ((false,()),())):=by
  refine(a0H (q:=b3F) (fun k=>(((),(k:Int),()),(st,hs,()),())) st.length (fun i=>b2m (a3B st i)) _ _ ?_ ?_ _ ?_:_)
  ·intro k f hk;unfold b3F;have e1:decide ((k:Int)<(st.length:Int))=true:=by simpa using hk
   have e2:decide (0<=(k:Int))=true:=by simp
   have ha:getD st k (zero a1m)=a3B st k:=rfl;have e3:F96 ((a3B st k).fst,())=some (a3d (a3B st k).fst,()):=a7M _;have e4:e5S (a3B st k,())=some (a5z (a2f (a3B st k)),()):=c9u _;unfold b2m;simp only[a2h k (by omega),e1,e2,Bool.and_self,cond_true,toNat_natCast,ha,K96,G96,e3,e7S,e7T,e4,isSome_some,getD_some];cases a3d (a3B st k).fst
   ·rfl
   ·cases a5z _<;>rfl
  ·intro f;simp[b3F]
  ·simp only[c4Z];omega
 have hl2:b0u (((),0,()),(st,hs,()),())=some (bif a0i (a9Y hs) 0 hs.length then .inl ((),())else .inr ((false,()),())):=by
  refine(a0H (q:=b3E) (fun k=>(((),(k:Int),()),(st,hs,()),())) hs.length (a9Y hs) _ _ ?_ ?_ _ ?_:_)
  ·intro k f hk;unfold b3E;have e1:decide ((k:Int)<(hs.length:Int))=true:=by simpa using hk
   have e2:decide (0<=(k:Int))=true:=by simp
   have ha:∀i,getD hs i (zero (Ty.int IntKind.i64))=a3e hs i:=fun _=>rfl
   have e3:F51 (a3e hs k,0,10000000,())=some (a0n (a3e hs k) 0 10000000,()):=a1F _ _ _;unfold a9Y;simp only[a2h k (by omega),e1,e2,Bool.and_self,cond_true,toNat_natCast,ha,K51,G51,e3,isSome_some,getD_some];cases a0n (a3e hs k) 0 10000000
   ·rfl
   ·cases k with
    |zero=>rfl
    | succ k =>
      have e5:IntKind.i64.wrap (((k+1:Nat):Int)-1)=(k:Int):=by rw[w64 (by omega) (by omega)];omega
      have e6:decide (((k+1:Nat):Int)>0)=true:=decide_eq_true (by omega);have e7:(decide (0<=(k:Int))&&decide ((k:Int)<(hs.length:Int)))=true:=by simp only[and_eq_true,decide_eq_true_eq];omega
      simp only[e5,e6,e7,cond_true,toNat_natCast,Bool.not_true,cond_false,Nat.add_sub_cancel,Bool.true_and];have e8:decide (k+1=0)=false:=by simp
      rw[e8,Bool.false_or];cases decide (a3e hs (k+1)<IntKind.i64.wrap (a3e hs k+21600))<;>rfl
  ·intro f;simp[b3E]
  ·simp only[c4V];omega
 have i1:F51 ((st.length:Int),1,20,())=some (a0n (st.length:Int) 1 20,()):=a1F _ _ _;have i2:F51 ((hs.length:Int),1,60,())=some (a0n (hs.length:Int) 1 60,()):=a1F _ _ _;unfold e5T a3s;simp only[K51,G51,i1,i2,isSome_some,getD_some,cond_true,c5a,c5b,c5c,c5d,hl];cases a0n (st.length:Int) 1 20
 ·rfl
 cases a0n (hs.length:Int) 1 60
 ·rfl
 cases a0i (fun i=>b2m (a3B st i)) 0 st.length
 ·rfl
 simp only[cond_true,isR,xOf,Bool.not_true,cond_false,c4W,c4X,c4Y,hl2,isSome_some];cases a0i (a9Y hs) 0 hs.length<;>rfl
theorem c9w (m n:Nat) (hn:0<n) (more:Nat):∀Q,Q=2*(m <<< more/n)+(m <<< more%n != 0).toNat->Q*n<=2*(m*2^more)+n /\ 2*(m*2^more)<=Q*n+n:=by
 intro Q hQ;rw[Nat.shiftLeft_eq]at hQ;have h1:=Nat.div_add_mod (m*2^more) n;have h2:=Nat.mod_lt (m*2^more) hn;generalize m*2^more=x at *;have h3:2*(x/n)*n=2*(n*(x/n)):=by rw[Nat.mul_assoc,Nat.mul_comm (x/n)]
 subst hQ;rw[Nat.add_mul,h3];generalize n*(x/n)=y at *;by_cases c:x%n=0
 ·rw[c];simp only[bne_self_eq_false,Bool.toNat_false,Nat.zero_mul];omega
 ·have:(x%n != 0)=true:=by simpa using c
  rw[this];simp only[Bool.toNat_true,Nat.one_mul];omega
theorem c9x (m n:Nat) (hm:m≠0) (hn:0<n):2^54*n<=m*2^(54+n.log2-m.log2)*2:=by
 have l1:2^m.log2<=m:=Nat.log2_self_le hm;have l2:n<2^(n.log2+1):=Nat.lt_log2_self;have h1:2^(54+n.log2)<=m*2^(54+n.log2-m.log2):=by
  have:2^m.log2*2^(54+n.log2-m.log2)<=m*2^(54+n.log2-m.log2):=Nat.mul_le_mul_right _ l1;rw[<- Nat.pow_add]at this;exact Nat.le_trans (Nat.pow_le_pow_right (by decide) (by omega)) this
 have h2:2^54*n<=2^54*2^(n.log2+1):=Nat.mul_le_mul_left _ (Nat.le_of_lt l2);rw[<- Nat.pow_add]at h2;have h3:2^(54+(n.log2+1))=2^(54+n.log2)*2:=by rw[<- Nat.pow_succ];congr 1
 omega
theorem g8P {a b:Nat} {x y q:Rat} (ha:IsR a x) (hb:IsR b y) (hy:y≠0) (hq:q*y=x) (B:Int) (h1:-1022<=B) (h2:B<=1022) (hle:q<=p2 B) (hge:-p2 B<=q) :
 ∃r,IsR (a0a .quo .f64 a b) r /\ c2H r q (p2 (B-52)):=by
 obtain⟨s,m,e,hr,he,rfl⟩:=ha;obtain⟨t,n,f,hr',hf,rfl⟩:=hb;have e1:a0a .quo .f64 a b=(((Ieee.double.read a).quotient 54 (Ieee.double.read b)).map Ieee.double.write).getD (qn .f64):=rfl;have hn0:n≠0:=fun h=>hy (by rw[h,a6c])
 have hn:0<n:=Nat.pos_of_ne_zero hn0;rw[e1,hr,hr'];unfold Ieee.Datum.quotient;dsimp only;rw[if_neg hn0];show ∃r,IsR (Ieee.double.nearest (s ^^ t) (2*(m <<< (54+n.log2-m.log2)/n)+(m <<< (54+n.log2-m.log2)%n != 0).toNat) (e-f-((54+n.log2-m.log2:Nat):Int)-1)) r /\ _;have hN:=c9w m n hn (54+n.log2-m.log2) _ rfl;have hzero:m=0->2*(m <<< (54+n.log2-m.log2)/n)+(m <<< (54+n.log2-m.log2)%n != 0).toNat=0:=by
  intro h;subst h;simp[Nat.shiftLeft_eq]
 have hplace:m≠0->_:=fun h=>c9x m n h hn
 generalize hQ:2*(m <<< (54+n.log2-m.log2)/n)+(m <<< (54+n.log2-m.log2)%n != 0).toNat=Q at *;generalize hM:54+n.log2-m.log2=more at *;obtain⟨pl,hpl⟩:∃pl:Int,pl=e-f-(more:Int)-1:=⟨_,rfl⟩;rw[<- hpl];have hnR:(0:Rat)<(n:Rat):=by
  have:(0:Rat)<((n:Nat):Rat):=by exact_mod_cast Rat.natCast_lt_natCast.2 hn
  exact this
 have hqv:q*(n:Rat)=sgR (s ^^ t)*(2*((m:Rat)*((2^more:Nat):Rat)))*p2 pl:=by
  have e2:e=f+(more:Int)+1+pl:=by omega
  have hx:RV s m e=sgR s*(2*((m:Rat)*((2^more:Nat):Rat)))*p2 pl*p2 f:=by
   unfold RV;rw[e2,a1B,a6b,a1B,a1O];grind
  have hf:=a0Z f;have hy2:RV t n f=sgR t*(n:Rat)*p2 f:=rfl;rw[hx,hy2]at hq;have hs:sgR t*sgR t=1:=by cases t<;>decide +kernel
  have h3:(q*(n:Rat)-sgR (s ^^ t)*(2*((m:Rat)*((2^more:Nat):Rat)))*p2 pl)*p2 f=0:=by
   rw[e3K];have:q*(sgR t*(n:Rat)*p2 f)*sgR t=sgR s*(2*((m:Rat)*((2^more:Nat):Rat)))*p2 pl*p2 f*sgR t:=by rw[hq]
   grind
  rcases Rat.mul_eq_zero.1 h3 with h4|h4
  ·grind
  ·grind
 have hp:=a0Z pl;have n1:(Q:Rat)*(n:Rat)<=2*((m:Rat)*((2^more:Nat):Rat))+(n:Rat):=by exact_mod_cast a0V hN.1
 have n2:2*((m:Rat)*((2^more:Nat):Rat))<=(Q:Rat)*(n:Rat)+(n:Rat):=by exact_mod_cast a0V hN.2
 have m1:=a1f n1 (Rat.le_of_lt hp);have m2:=a1f n2 (Rat.le_of_lt hp);have hnear:c2H (RV (s ^^ t) Q pl) q (p2 pl):=by
  unfold RV;have g1:(sgR (s ^^ t)*(Q:Rat)*p2 pl-q-p2 pl)*(n:Rat)<=0:=by
   have:sgR (s ^^ t)*(Q:Rat)*p2 pl*(n:Rat)-q*(n:Rat)-p2 pl*(n:Rat)<=0:=by
    rw[hqv];cases (s ^^ t)
    ·have:sgR false=1:=rfl;rw[this];grind
    ·have:sgR true=-1:=rfl;rw[this];grind
   grind
  have g2:(q-sgR (s ^^ t)*(Q:Rat)*p2 pl-p2 pl)*(n:Rat)<=0:=by
   have:q*(n:Rat)-sgR (s ^^ t)*(Q:Rat)*p2 pl*(n:Rat)-p2 pl*(n:Rat)<=0:=by
    rw[hqv];cases (s ^^ t)
    ·have:sgR false=1:=rfl;rw[this];grind
    ·have:sgR true=-1:=rfl;rw[this];grind
   grind
  have neg_of:∀z:Rat,z*(n:Rat)<=0->z<=0:=by
   intro z hz;apply Classical.byContradiction;intro hc;have:=Rat.mul_pos (show 0<z by grind) hnR;grind
  have k1:=neg_of _ g1;have k2:=neg_of _ g2;constructor<;>grind
 by_cases hm0:m=0
 ·have hq0:=hzero hm0;subst hm0;rw[hq0]at hnear ⊢;have hqz:q=0:=by
   have:q*(n:Rat)=0:=by
    rw[hqv];have:((0:Nat):Rat)=0:=by simp
    rw[this];grind
   rcases Rat.mul_eq_zero.1 this with h|h
   ·exact h
   ·grind
  obtain⟨r,h3,h4⟩:=b2l (s ^^ t) 0 pl B h1 h2 (by rw[a6c];exact a0Z _) (by rw[a6c];have:=a0Z (B+1);grind);rw[a6c]at h4;have hle2:p2 (B-53)<=p2 (B-52):=b7h (by omega);refine⟨r,h3,?_⟩;rw[hqz];exact⟨by have:=h4.1;grind,by have:=h4.2;grind⟩
 ·have hpp:=hplace hm0;have h54:p2 (54+pl)<=p2 B:=by
   have e3:p2 (54+pl)=((2^54:Nat):Rat)*p2 pl:=by rw[a1B,show(54:Int)=((54:Nat):Int)from rfl,a1O]
   have n3:((2^54:Nat):Rat)*(n:Rat)<=(m:Rat)*((2^more:Nat):Rat)*2:=by exact_mod_cast a0V hpp
   have m3:=a1f n3 (Rat.le_of_lt hp);have h5:(p2 (54+pl)-p2 B)*(n:Rat)<=0:=by
    have hle':=a1f hle (Rat.le_of_lt hnR);have hge':=a1f hge (Rat.le_of_lt hnR);rw[hqv]at hle' hge';rw[e3];generalize (s ^^ t)=u at *;cases u
    ·have:sgR false=1:=rfl;rw[this]at hle';grind
    ·have:sgR true=-1:=rfl;rw[this]at hge';grind
   apply Classical.byContradiction;intro hc;have:=Rat.mul_pos (show 0<p2 (54+pl)-p2 B by grind) hnR;grind
  have hplB:54+pl<=B:=by
   apply Classical.byContradiction;intro hc;have h6:=b7h (show B+1<=54+pl by omega);have h7:=a6b B;have:=a0Z B;grind
  have hsm:p2 pl<=p2 (B-54):=b7h (by omega);have e5:p2 (B-53)=2*p2 (B-54):=by rw[<- a6b];congr 1;omega
  have e6:p2 (B-52)=2*p2 (B-53):=by rw[<- a6b];congr 1;omega
  have e7:p2 (B+1)=2*p2 B:=a6b B;have hB0:p2 (B-54)<p2 B:=by
   have h8:p2 (B-54+1)<=p2 B:=b7h (by omega);rw[a6b]at h8;have:=a0Z (B-54);grind
  obtain⟨r,h3,h4⟩:=b2l (s ^^ t) Q pl B h1 h2 (by have:=hnear.1;grind) (by have:=hnear.2;grind);refine⟨r,h3,?_⟩;have:=a0Z (B-54);exact⟨by have:=h4.1;have:=hnear.1;grind,by have:=h4.2;have:=hnear.2;grind⟩
def c0Q (z w:Nat×Nat):Nat×Nat:=(a0a .sub .f64 (a0a .mul .f64 z.1 w.1) (a0a .mul .f64 z.2 w.2),a0a .add .f64 (a0a .mul .f64 z.1 w.2) (a0a .mul .f64 z.2 w.1))
def c2J:Nat×Nat:=(4607181046959943561,4580687535080594718)
def a0U:Nat->Nat×Nat
 |0=>(4607182418800017408,0)
 |n+1=>c0Q (a0U n) c2J
structure TE where
 k:Nat
 a:Nat
 b:Nat
 c:Nat
 s:Nat
def b0U (w C:Nat):Bool:=match Ieee.double.read w with
 | .number s m e=>decide (e <= -40)&&decide (-1074<=e)&&Nat.ble C 2199023255552 &&
   decide ((if s then -(m:Int)else(m:Int))<=((C:Int)-1099511627776)*(2^(-40-e).toNat:Nat)+(2^(-40-e).toNat:Nat)) &&
   decide (((C:Int)-1099511627776)*(2^(-40-e).toNat:Nat)<=(if s then -(m:Int)else(m:Int))+(2^(-40-e).toNat:Nat))
 |_=>false
def b4U:Nat->Nat×Nat->List TE->Bool
 |k,_,[]=>beq k 360
 |k,z,t::r=>beq t.k k&&beq t.a z.1&&beq t.b z.2&&b0U t.a t.c&&b0U t.b t.s&&b4U (k+1) (c0Q (t.a,t.b) c2J) r
def e3P:List TE:=[
 ⟨0,4607182418800017408,0,2199023255552,1099511627776⟩,
 ⟨1,4607181046959943561,4580687535080594718,2198855794605,1118700751586⟩,
 ⟨2,4607176931857597797,4585190368566828071,2198353462776,1137884030204⟩,
 ⟨3,4607170074746480155,4587703227212876044,2197516413079,1157055620216⟩,
 ⟨4,4607160477715333107,4589690904329736486,2196344900488,1176209681770⟩,
 ⟨5,4607148143687505309,4590944653792149759,2194839281857,1195340380355⟩,
 ⟨6,4607133076420061121,4592196490234713959,2193000015811,1214441888572⟩,
 ⟨7,4607115280502636166,4593446032335921868,2190827662610,1233508387919⟩,
 ⟨8,4607094761356039284,4594182259695525397,2188322883973,1252534070555⟩,
 ⟨9,4607071525230601301,4594804165878240112,2185486442879,1271513141073⟩,
 ⟨10,4607045579204271120,4595424355236410244,2182319203337,1290439818263⟩,
 ⟨11,4607016931180459706,4596042638854349385,2178822130118,1309308336877⟩,
 ⟨12,4606985589885632631,4596658828396878062,2174996288464,1328112949381⟩,
 ⟨13,4606951564866651910,4597272736166692460,2170842843764,1346847927708⟩,
 ⟨14,4606914866487867932,4597884175161538835,2166363061198,1365507565001⟩,
 ⟨15,4606875505927962379,4598334089338226315,2161558305350,1384086177356⟩,
 ⟨16,4606833495176543093,4598637061089693219,2156430039796,1402578105546⟩,
 ⟨17,4606788847030491924,4598938520319677888,2150979826655,1420977716751⟩,
 ⟨18,4606741575090066675,4599238375200778568,2145209326115,1439279406272⟩,
 ⟨19,4606691693754758334,4599536534394293715,2139120295926,1457477599235⟩,
 ⟨20,4606639218218904846,4599832907078044652,2132714590865,1475566752296⟩,
 ⟨21,4606584164467062775,4600127402974040882,2125994162174,1493541355323⟩,
 ⟨22,4606526549269138249,4600419932375979638,2118961056958,1511395933078⟩,
 ⟨23,4606466390175278687,4600710406176571294,2111617417571,1529125046884⟩,
 ⟨24,4606403705510526853,4600998735894682307,2103965480956,1546723296280⟩,
 ⟨25,4606338514369238870,4601284833702287428,2096007577967,1564185320670⟩,
 ⟨26,4606270836609267896,4601568612451222968,2087746132658,1581505800952⟩,
 ⟨27,4606200692845915227,4601849985699732975,2079183661545,1598679461139⟩,
 ⟨28,4606128104445650677,4602128867738800229,2070322772841,1615701069969⟩,
 ⟨29,4606053093519604147,4602405173618254039,2061166165658,1632565442495⟩,
 ⟨30,4605975682916830359,4602678819172646889,2051716629186,1649267441664⟩,
 ⟨31,4605895896217348810,4602814270109769479,2041977041847,1665801979887⟩,
 ⟨32,4605813757724961074,4602948307947150621,2031950370413,1682164020583⟩,
 ⟨33,4605729292459847624,4603080891855566606,2021639669105,1698348579716⟩,
 ⟨34,4605642526150946448,4603211981448674563,2011048078663,1714350727312⟩,
 ⟨35,4605553485228115762,4603341536795314536,2000178825388,1730165588962⟩,
 ⟨36,4605462196814083219,4603469518431672908,1989035220160,1745788347307⟩,
 ⟨37,4605368688716184063,4603595887373303459,1977620657428,1761214243502⟩,
 ⟨38,4605272989417890748,4603720605127002405,1965938614179,1776438578670⟩,
 ⟨39,4605175128070136594,4603843633702533800,1953992648877,1791456715332⟩,
 ⟨40,4605075134482436131,4603964935624201734,1941786400379,1806264078817⟩,
 ⟨41,4604973039113804833,4604084473942265789,1929323586825,1820856158658⟩,
 ⟨42,4604868873063481004,4604202212244196288,1916608004510,1835228509968⟩,
 ⟨43,4604762668061452652,4604318114665765906,1903643526723,1849376754789⟩,
 ⟨44,4604654456458792226,4604432145901974262,1890434102570,1863296583428⟩,
 ⟨45,4604544271217802166,4604544271217802161,1876983755770,1876983755770⟩,
 ⟨46,4604432145901974265,4604654456458792220,1863296583428,1890434102570⟩,
 ⟨47,4604318114665765908,4604762668061452644,1849376754789,1903643526723⟩,
 ⟨48,4604202212244196288,4604868873063480994,1835228509968,1916608004510⟩,
 ⟨49,4604084473942265788,4604973039113804822,1820856158658,1929323586825⟩,
 ⟨50,4603964935624201733,4605075134482436119,1806264078817,1941786400379⟩,
 ⟨51,4603843633702533798,4605175128070136581,1791456715332,1953992648877⟩,
 ⟨52,4603720605127002402,4605272989417890734,1776438578670,1965938614179⟩,
 ⟨53,4603595887373303455,4605368688716184048,1761214243502,1977620657428⟩,
 ⟨54,4603469518431672903,4605462196814083203,1745788347307,1989035220160⟩,
 ⟨55,4603341536795314530,4605553485228115745,1730165588962,2000178825388⟩,
 ⟨56,4603211981448674556,4605642526150946430,1714350727312,2011048078663⟩,
 ⟨57,4603080891855566599,4605729292459847604,1698348579716,2021639669105⟩,
 ⟨58,4602948307947150613,4605813757724961052,1682164020583,2031950370413⟩,
 ⟨59,4602814270109769470,4605895896217348788,1665801979887,2041977041847⟩,
 ⟨60,4602678819172646869,4605975682916830336,1649267441664,2051716629186⟩,
 ⟨61,4602405173618254018,4606053093519604123,1632565442495,2061166165658⟩,
 ⟨62,4602128867738800207,4606128104445650651,1615701069969,2070322772841⟩,
 ⟨63,4601849985699732952,4606200692845915199,1598679461139,2079183661545⟩,
 ⟨64,4601568612451222944,4606270836609267867,1581505800952,2087746132658⟩,
 ⟨65,4601284833702287404,4606338514369238840,1564185320670,2096007577967⟩,
 ⟨66,4600998735894682283,4606403705510526821,1546723296280,2103965480956⟩,
 ⟨67,4600710406176571270,4606466390175278653,1529125046884,2111617417571⟩,
 ⟨68,4600419932375979614,4606526549269138213,1511395933078,2118961056958⟩,
 ⟨69,4600127402974040858,4606584164467062737,1493541355323,2125994162174⟩,
 ⟨70,4599832907078044629,4606639218218904807,1475566752296,2132714590865⟩,
 ⟨71,4599536534394293692,4606691693754758294,1457477599235,2139120295926⟩,
 ⟨72,4599238375200778546,4606741575090066634,1439279406272,2145209326115⟩,
 ⟨73,4598938520319677867,4606788847030491881,1420977716751,2150979826655⟩,
 ⟨74,4598637061089693199,4606833495176543048,1402578105546,2156430039796⟩,
 ⟨75,4598334089338226296,4606875505927962332,1384086177356,2161558305350⟩,
 ⟨76,4597884175161538799,4606914866487867883,1365507565001,2166363061198⟩,
 ⟨77,4597272736166692426,4606951564866651860,1346847927708,2170842843764⟩,
 ⟨78,4596658828396878031,4606985589885632580,1328112949381,2174996288464⟩,
 ⟨79,4596042638854349356,4607016931180459653,1309308336877,2178822130118⟩,
 ⟨80,4595424355236410218,4607045579204271066,1290439818263,2182319203337⟩,
 ⟨81,4594804165878240089,4607071525230601246,1271513141073,2185486442879⟩,
 ⟨82,4594182259695525377,4607094761356039227,1252534070555,2188322883973⟩,
 ⟨83,4593446032335921836,4607115280502636108,1233508387919,2190827662610⟩,
 ⟨84,4592196490234713933,4607133076420061062,1214441888572,2193000015811⟩,
 ⟨85,4590944653792149740,4607148143687505249,1195340380355,2194839281857⟩,
 ⟨86,4589690904329736474,4607160477715333045,1176209681770,2196344900488⟩,
 ⟨87,4587703227212876035,4607170074746480091,1157055620216,2197516413079⟩,
 ⟨88,4585190368566828078,4607176931857597732,1137884030204,2198353462776⟩,
 ⟨89,4580687535080594769,4607181046959943494,1118700751586,2198855794605⟩,
 ⟨90,4374754456781193216,4607182418800017340,1099511627776,2199023255552⟩,
 ⟨91,13804059571935370399,4607181046959943493,1080322503966,2198855794605⟩,
 ⟨92,13808562405421603796,4607176931857597729,1061139225348,2198353462776⟩,
 ⟨93,13811075264067651750,4607170074746480087,1041967635336,2197516413079⟩,
 ⟨94,13813062941184512234,4607160477715333040,1022813573782,2196344900488⟩,
 ⟨95,13814316690646925498,4607148143687505242,1003682875197,2194839281857⟩,
 ⟨96,13815568527089489689,4607133076420061054,984581366980,2193000015811⟩,
 ⟨97,13816818069190697589,4607115280502636099,965514867633,2190827662610⟩,
 ⟨98,13817554296550301156,4607094761356039217,946489184997,2188322883973⟩,
 ⟨99,13818176202733015866,4607071525230601234,927510114479,2185486442879⟩,
 ⟨100,13818796392091185993,4607045579204271053,908583437289,2182319203337⟩,
 ⟨101,13819414675709125129,4607016931180459639,889714918675,2178822130118⟩,
 ⟨102,13820030865251653802,4606985589885632564,870910306171,2174996288464⟩,
 ⟨103,13820644773021468196,4606951564866651843,852175327844,2170842843764⟩,
 ⟨104,13821256212016314566,4606914866487867865,833515690551,2166363061198⟩,
 ⟨105,13821706126193002082,4606875505927962312,814937078196,2161558305350⟩,
 ⟨106,13822009097944468984,4606833495176543027,796445150006,2156430039796⟩,
 ⟨107,13822310557174453651,4606788847030491859,778045538801,2150979826655⟩,
 ⟨108,13822610412055554328,4606741575090066610,759743849280,2145209326115⟩,
 ⟨109,13822908571249069472,4606691693754758269,741545656317,2139120295926⟩,
 ⟨110,13823204943932820407,4606639218218904782,723456503256,2132714590865⟩,
 ⟨111,13823499439828816635,4606584164467062712,705481900229,2125994162174⟩,
 ⟨112,13823791969230755389,4606526549269138187,687627322474,2118961056958⟩,
 ⟨113,13824082443031347043,4606466390175278625,669898208668,2111617417571⟩,
 ⟨114,13824370772749458054,4606403705510526791,652299959272,2103965480956⟩,
 ⟨115,13824656870557063172,4606338514369238809,634837934882,2096007577967⟩,
 ⟨116,13824940649305998710,4606270836609267836,617517454600,2087746132658⟩,
 ⟨117,13825222022554508715,4606200692845915167,600343794413,2079183661545⟩,
 ⟨118,13825500904593575967,4606128104445650618,583322185583,2070322772841⟩,
 ⟨119,13825777210473029775,4606053093519604089,566457813057,2061166165658⟩,
 ⟨120,13826050856027422623,4605975682916830301,549755813888,2051716629186⟩,
 ⟨121,13826186306964545249,4605895896217348752,533221275665,2041977041847⟩,
 ⟨122,13826320344801926390,4605813757724961016,516859234969,2031950370413⟩,
 ⟨123,13826452928710342374,4605729292459847567,500674675836,2021639669105⟩,
 ⟨124,13826584018303450330,4605642526150946392,484672528240,2011048078663⟩,
 ⟨125,13826713573650090302,4605553485228115707,468857666590,2000178825388⟩,
 ⟨126,13826841555286448673,4605462196814083165,453234908245,1989035220160⟩,
 ⟨127,13826967924228079224,4605368688716184010,437809012050,1977620657428⟩,
 ⟨128,13827092641981778169,4605272989417890696,422584676882,1965938614179⟩,
 ⟨129,13827215670557309564,4605175128070136543,407566540220,1953992648877⟩,
 ⟨130,13827336972478977498,4605075134482436081,392759176735,1941786400378⟩,
 ⟨131,13827456510797041552,4604973039113804784,378167096894,1929323586825⟩,
 ⟨132,13827574249098972050,4604868873063480956,363794745584,1916608004510⟩,
 ⟨133,13827690151520541667,4604762668061452605,349646500763,1903643526723⟩,
 ⟨134,13827804182756750022,4604654456458792180,335726672124,1890434102570⟩,
 ⟨135,13827916308072577920,4604544271217802120,322039499782,1876983755770⟩,
 ⟨136,13828026493313567978,4604432145901974220,308589152982,1863296583428⟩,
 ⟨137,13828134704916228402,4604318114665765864,295379728829,1849376754789⟩,
 ⟨138,13828240909918256752,4604202212244196245,282415251042,1835228509968⟩,
 ⟨139,13828345075968580579,4604084473942265746,269699668727,1820856158658⟩,
 ⟨140,13828447171337211875,4603964935624201692,257236855174,1806264078817⟩,
 ⟨141,13828547164924912336,4603843633702533758,245030606675,1791456715332⟩,
 ⟨142,13828645026272666488,4603720605127002363,233084641373,1776438578670⟩,
 ⟨143,13828740725570959801,4603595887373303418,221402598124,1761214243502⟩,
 ⟨144,13828834233668858955,4603469518431672867,209988035392,1745788347307⟩,
 ⟨145,13828925522082891496,4603341536795314495,198844430164,1730165588962⟩,
 ⟨146,13829014563005722180,4603211981448674522,187975176889,1714350727312⟩,
 ⟨147,13829101329314623353,4603080891855566566,177383586447,1698348579716⟩,
 ⟨148,13829185794579736800,4602948307947150581,167072885139,1682164020583⟩,
 ⟨149,13829267933072124535,4602814270109769439,157046213705,1665801979887⟩,
 ⟨150,13829347719771606083,4602678819172646809,147306626366,1649267441664⟩,
 ⟨151,13829425130374379870,4602405173618253960,137857089894,1632565442495⟩,
 ⟨152,13829500141300426398,4602128867738800151,128700482711,1615701069969⟩,
 ⟨153,13829572729700690945,4601849985699732898,119839594007,1598679461139⟩,
 ⟨154,13829642873464043612,4601568612451222893,111277122894,1581505800952⟩,
 ⟨155,13829710551224014584,4601284833702287355,103015677585,1564185320670⟩,
 ⟨156,13829775742365302565,4600998735894682236,95057774596,1546723296280⟩,
 ⟨157,13829838427030054397,4600710406176571225,87405837981,1529125046884⟩,
 ⟨158,13829898586123913957,4600419932375979571,80062198594,1511395933078⟩,
 ⟨159,13829956201321838481,4600127402974040817,73029093378,1493541355323⟩,
 ⟨160,13830011255073680550,4599832907078044590,66308664687,1475566752296⟩,
 ⟨161,13830063730609534036,4599536534394293656,59902959626,1457477599235⟩,
 ⟨162,13830113611944842375,4599238375200778512,53813929437,1439279406272⟩,
 ⟨163,13830160883885267622,4598938520319677835,48043428897,1420977716751⟩,
 ⟨164,13830205532031318789,4598637061089693169,42593215756,1402578105546⟩,
 ⟨165,13830247542782738073,4598334089338226268,37464950202,1384086177356⟩,
 ⟨166,13830286903342643624,4597884175161538748,32660194354,1365507565001⟩,
 ⟨167,13830323601721427601,4597272736166692380,28180411788,1346847927708⟩,
 ⟨168,13830357626740408321,4596658828396877989,24026967088,1328112949381⟩,
 ⟨169,13830388968035235394,4596042638854349319,20201125434,1309308336877⟩,
 ⟨170,13830417616059046807,4595424355236410186,16704052215,1290439818263⟩,
 ⟨171,13830443562085376987,4594804165878240062,13536812673,1271513141073⟩,
 ⟨172,13830466798210814968,4594182259695525355,10700371579,1252534070555⟩,
 ⟨173,13830487317357411849,4593446032335921801,8195592942,1233508387919⟩,
 ⟨174,13830505113274836803,4592196490234713907,6023239741,1214441888572⟩,
 ⟨175,13830520180542280990,4590944653792149723,4183973695,1195340380355⟩,
 ⟨176,13830532514570108786,4589690904329736466,2678355064,1176209681770⟩,
 ⟨177,13830542111601255832,4587703227212876038,1506842473,1157055620216⟩,
 ⟨178,13830548968712373473,4585190368566828100,669792776,1137884030204⟩,
 ⟨179,13830553083814719235,4580687535080594850,167460947,1118700751586⟩,
 ⟨180,13830554455654793081,4380278403199139840,0,1099511627776⟩,
 ⟨181,13830553083814719234,13804059571935370244,167460947,1080322503966⟩,
 ⟨182,13830548968712373471,13808562405421603700,669792776,1061139225348⟩,
 ⟨183,13830542111601255829,13811075264067651636,1506842473,1041967635336⟩,
 ⟨184,13830532514570108782,13813062941184512168,2678355064,1022813573782⟩,
 ⟨185,13830520180542280985,13814316690646925423,4183973695,1003682875197⟩,
 ⟨186,13830505113274836797,13815568527089489605,6023239741,984581366980⟩,
 ⟨187,13830487317357411842,13816818069190697496,8195592942,965514867633⟩,
 ⟨188,13830466798210814960,13817554296550301106,10700371579,946489184997⟩,
 ⟨189,13830443562085376978,13818176202733015812,13536812673,927510114479⟩,
 ⟨190,13830417616059046797,13818796392091185934,16704052215,908583437289⟩,
 ⟨191,13830388968035235384,13819414675709125066,20201125434,889714918675⟩,
 ⟨192,13830357626740408310,13820030865251653734,24026967088,870910306171⟩,
 ⟨193,13830323601721427589,13820644773021468123,28180411788,852175327844⟩,
 ⟨194,13830286903342643611,13821256212016314489,32660194354,833515690551⟩,
 ⟨195,13830247542782738059,13821706126193002041,37464950202,814937078196⟩,
 ⟨196,13830205532031318774,13822009097944468941,42593215756,796445150006⟩,
 ⟨197,13830160883885267606,13822310557174453606,48043428897,778045538801⟩,
 ⟨198,13830113611944842358,13822610412055554281,53813929437,759743849280⟩,
 ⟨199,13830063730609534018,13822908571249069423,59902959626,741545656317⟩,
 ⟨200,13830011255073680531,13823204943932820356,66308664687,723456503256⟩,
 ⟨201,13829956201321838461,13823499439828816582,73029093378,705481900229⟩,
 ⟨202,13829898586123913936,13823791969230755334,80062198594,687627322474⟩,
 ⟨203,13829838427030054375,13824082443031346987,87405837981,669898208668⟩,
 ⟨204,13829775742365302542,13824370772749457996,95057774596,652299959272⟩,
 ⟨205,13829710551224014560,13824656870557063112,103015677585,634837934882⟩,
 ⟨206,13829642873464043587,13824940649305998648,111277122894,617517454600⟩,
 ⟨207,13829572729700690919,13825222022554508651,119839594007,600343794413⟩,
 ⟨208,13829500141300426370,13825500904593575901,128700482711,583322185583⟩,
 ⟨209,13829425130374379841,13825777210473029707,137857089894,566457813057⟩,
 ⟨210,13829347719771606054,13826050856027422553,147306626366,549755813888⟩,
 ⟨211,13829267933072124506,13826186306964545213,157046213705,533221275665⟩,
 ⟨212,13829185794579736771,13826320344801926353,167072885139,516859234969⟩,
 ⟨213,13829101329314623323,13826452928710342336,177383586447,500674675836⟩,
 ⟨214,13829014563005722148,13826584018303450291,187975176889,484672528240⟩,
 ⟨215,13828925522082891463,13826713573650090262,198844430164,468857666590⟩,
 ⟨216,13828834233668858921,13826841555286448633,209988035392,453234908245⟩,
 ⟨217,13828740725570959766,13826967924228079183,221402598124,437809012050⟩,
 ⟨218,13828645026272666453,13827092641981778127,233084641373,422584676882⟩,
 ⟨219,13828547164924912301,13827215670557309522,245030606675,407566540220⟩,
 ⟨220,13828447171337211840,13827336972478977455,257236855174,392759176735⟩,
 ⟨221,13828345075968580543,13827456510797041508,269699668727,378167096894⟩,
 ⟨222,13828240909918256715,13827574249098972005,282415251042,363794745584⟩,
 ⟨223,13828134704916228365,13827690151520541621,295379728829,349646500763⟩,
 ⟨224,13828026493313567940,13827804182756749975,308589152982,335726672124⟩,
 ⟨225,13827916308072577881,13827916308072577873,322039499782,322039499782⟩,
 ⟨226,13827804182756749982,13828026493313567930,335726672124,308589152982⟩,
 ⟨227,13827690151520541627,13828134704916228353,349646500763,295379728829⟩,
 ⟨228,13827574249098972009,13828240909918256703,363794745584,282415251042⟩,
 ⟨229,13827456510797041511,13828345075968580529,378167096894,269699668727⟩,
 ⟨230,13827336972478977458,13828447171337211825,392759176735,257236855174⟩,
 ⟨231,13827215670557309525,13828547164924912286,407566540220,245030606675⟩,
 ⟨232,13827092641981778131,13828645026272666437,422584676882,233084641373⟩,
 ⟨233,13826967924228079187,13828740725570959749,437809012050,221402598124⟩,
 ⟨234,13826841555286448637,13828834233668858902,453234908245,209988035392⟩,
 ⟨235,13826713573650090266,13828925522082891443,468857666590,198844430164⟩,
 ⟨236,13826584018303450294,13829014563005722127,484672528240,187975176889⟩,
 ⟨237,13826452928710342339,13829101329314623300,500674675836,177383586447⟩,
 ⟨238,13826320344801926355,13829185794579736747,516859234969,167072885139⟩,
 ⟨239,13826186306964545214,13829267933072124481,533221275665,157046213705⟩,
 ⟨240,13826050856027422553,13829347719771606028,549755813888,147306626366⟩,
 ⟨241,13825777210473029706,13829425130374379814,566457813057,137857089894⟩,
 ⟨242,13825500904593575899,13829500141300426341,583322185583,128700482711⟩,
 ⟨243,13825222022554508648,13829572729700690888,600343794413,119839594007⟩,
 ⟨244,13824940649305998645,13829642873464043555,617517454600,111277122894⟩,
 ⟨245,13824656870557063109,13829710551224014527,634837934882,103015677585⟩,
 ⟨246,13824370772749457992,13829775742365302508,652299959272,95057774596⟩,
 ⟨247,13824082443031346983,13829838427030054339,669898208668,87405837981⟩,
 ⟨248,13823791969230755331,13829898586123913898,687627322474,80062198594⟩,
 ⟨249,13823499439828816580,13829956201321838421,705481900229,73029093378⟩,
 ⟨250,13823204943932820355,13830011255073680490,723456503256,66308664687⟩,
 ⟨251,13822908571249069423,13830063730609533976,741545656317,59902959626⟩,
 ⟨252,13822610412055554281,13830113611944842315,759743849280,53813929437⟩,
 ⟨253,13822310557174453606,13830160883885267561,778045538801,48043428897⟩,
 ⟨254,13822009097944468942,13830205532031318727,796445150006,42593215756⟩,
 ⟨255,13821706126193002043,13830247542782738011,814937078196,37464950202⟩,
 ⟨256,13821256212016314494,13830286903342643562,833515690551,32660194354⟩,
 ⟨257,13820644773021468130,13830323601721427538,852175327844,28180411788⟩,
 ⟨258,13820030865251653744,13830357626740408258,870910306171,24026967088⟩,
 ⟨259,13819414675709125078,13830388968035235331,889714918675,20201125434⟩,
 ⟨260,13818796392091185949,13830417616059046743,908583437289,16704052215⟩,
 ⟨261,13818176202733015829,13830443562085376922,927510114479,13536812673⟩,
 ⟨262,13817554296550301126,13830466798210814903,946489184997,10700371579⟩,
 ⟨263,13816818069190697544,13830487317357411784,965514867633,8195592942⟩,
 ⟨264,13815568527089489659,13830505113274836738,984581366980,6023239741⟩,
 ⟨265,13814316690646925484,13830520180542280925,1003682875197,4183973695⟩,
 ⟨266,13813062941184512236,13830532514570108721,1022813573782,2678355064⟩,
 ⟨267,13811075264067651788,13830542111601255767,1041967635336,1506842473⟩,
 ⟨268,13808562405421603868,13830548968712373408,1061139225348,669792776⟩,
 ⟨269,13804059571935370615,13830553083814719170,1080322503966,167460947⟩,
 ⟨270,13603439333821382656,13830554455654793016,1099511627776,0⟩,
 ⟨271,4580687535080594405,13830553083814719169,1118700751586,167460947⟩,
 ⟨272,4585190368566827858,13830548968712373406,1137884030204,669792776⟩,
 ⟨273,4587703227212875776,13830542111601255764,1157055620216,1506842473⟩,
 ⟨274,4589690904329736324,13830532514570108717,1176209681770,2678355064⟩,
 ⟨275,4590944653792149570,13830520180542280920,1195340380355,4183973695⟩,
 ⟨276,4592196490234713743,13830505113274836732,1214441888572,6023239741⟩,
 ⟨277,4593446032335921625,13830487317357411777,1233508387919,8195592942⟩,
 ⟨278,4594182259695525261,13830466798210814895,1252534070555,10700371579⟩,
 ⟨279,4594804165878239962,13830443562085376913,1271513141073,13536812673⟩,
 ⟨280,4595424355236410080,13830417616059046733,1290439818263,16704052215⟩,
 ⟨281,4596042638854349207,13830388968035235320,1309308336877,20201125434⟩,
 ⟨282,4596658828396877871,13830357626740408246,1328112949381,24026967088⟩,
 ⟨283,4597272736166692256,13830323601721427525,1346847927708,28180411788⟩,
 ⟨284,4597884175161538617,13830286903342643548,1365507565001,32660194354⟩,
 ⟨285,4598334089338226199,13830247542782737996,1384086177356,37464950202⟩,
 ⟨286,4598637061089693096,13830205532031318711,1402578105546,42593215756⟩,
 ⟨287,4598938520319677758,13830160883885267543,1420977716751,48043428897⟩,
 ⟨288,4599238375200778431,13830113611944842295,1439279406272,53813929437⟩,
 ⟨289,4599536534394293571,13830063730609533955,1457477599235,59902959626⟩,
 ⟨290,4599832907078044502,13830011255073680468,1475566752296,66308664687⟩,
 ⟨291,4600127402974040725,13829956201321838399,1493541355323,73029093378⟩,
 ⟨292,4600419932375979475,13829898586123913875,1511395933078,80062198594⟩,
 ⟨293,4600710406176571125,13829838427030054314,1529125046884,87405837981⟩,
 ⟨294,4600998735894682132,13829775742365302481,1546723296280,95057774596⟩,
 ⟨295,4601284833702287246,13829710551224014500,1564185320670,103015677585⟩,
 ⟨296,4601568612451222780,13829642873464043528,1581505800952,111277122894⟩,
 ⟨297,4601849985699732781,13829572729700690860,1598679461139,119839594007⟩,
 ⟨298,4602128867738800029,13829500141300426312,1615701069969,128700482711⟩,
 ⟨299,4602405173618253834,13829425130374379784,1632565442495,137857089894⟩,
 ⟨300,4602678819172646678,13829347719771605997,1649267441664,147306626366⟩,
 ⟨301,4602814270109769371,13829267933072124450,1665801979887,157046213705⟩,
 ⟨302,4602948307947150510,13829185794579736715,1682164020583,167072885139⟩,
 ⟨303,4603080891855566492,13829101329314623267,1698348579716,177383586447⟩,
 ⟨304,4603211981448674446,13829014563005722093,1714350727312,187975176889⟩,
 ⟨305,4603341536795314417,13828925522082891409,1730165588962,198844430164⟩,
 ⟨306,4603469518431672787,13828834233668858868,1745788347307,209988035392⟩,
 ⟨307,4603595887373303336,13828740725570959714,1761214243502,221402598124⟩,
 ⟨308,4603720605127002279,13828645026272666401,1776438578670,233084641373⟩,
 ⟨309,4603843633702533673,13828547164924912249,1791456715332,245030606675⟩,
 ⟨310,4603964935624201605,13828447171337211788,1806264078817,257236855174⟩,
 ⟨311,4604084473942265657,13828345075968580492,1820856158658,269699668727⟩,
 ⟨312,4604202212244196154,13828240909918256665,1835228509968,282415251042⟩,
 ⟨313,4604318114665765770,13828134704916228315,1849376754789,295379728829⟩,
 ⟨314,4604432145901974123,13828026493313567892,1863296583428,308589152982⟩,
 ⟨315,4604544271217802020,13827916308072577834,1876983755770,322039499782⟩,
 ⟨316,4604654456458792076,13827804182756749936,1890434102570,335726672124⟩,
 ⟨317,4604762668061452498,13827690151520541581,1903643526723,349646500763⟩,
 ⟨318,4604868873063480847,13827574249098971964,1916608004510,363794745584⟩,
 ⟨319,4604973039113804673,13827456510797041467,1929323586825,378167096894⟩,
 ⟨320,4605075134482435968,13827336972478977415,1941786400378,392759176735⟩,
 ⟨321,4605175128070136428,13827215670557309483,1953992648877,407566540220⟩,
 ⟨322,4605272989417890579,13827092641981778089,1965938614179,422584676882⟩,
 ⟨323,4605368688716183891,13826967924228079146,1977620657428,437809012050⟩,
 ⟨324,4605462196814083044,13826841555286448597,1989035220160,453234908245⟩,
 ⟨325,4605553485228115584,13826713573650090227,2000178825388,468857666590⟩,
 ⟨326,4605642526150946267,13826584018303450256,2011048078663,484672528240⟩,
 ⟨327,4605729292459847439,13826452928710342302,2021639669105,500674675836⟩,
 ⟨328,4605813757724960885,13826320344801926319,2031950370413,516859234969⟩,
 ⟨329,4605895896217348619,13826186306964545179,2041977041847,533221275665⟩,
 ⟨330,4605975682916830166,13826050856027422485,2051716629186,549755813888⟩,
 ⟨331,4606053093519603951,13825777210473029640,2061166165658,566457813057⟩,
 ⟨332,4606128104445650478,13825500904593575835,2070322772841,583322185583⟩,
 ⟨333,4606200692845915024,13825222022554508587,2079183661545,600343794413⟩,
 ⟨334,4606270836609267690,13824940649305998586,2087746132658,617517454600⟩,
 ⟨335,4606338514369238661,13824656870557063052,2096007577967,634837934882⟩,
 ⟨336,4606403705510526641,13824370772749457937,2103965480956,652299959272⟩,
 ⟨337,4606466390175278472,13824082443031346930,2111617417571,669898208668⟩,
 ⟨338,4606526549269138031,13823791969230755280,2118961056958,687627322474⟩,
 ⟨339,4606584164467062554,13823499439828816531,2125994162174,705481900229⟩,
 ⟨340,4606639218218904622,13823204943932820308,2132714590865,723456503256⟩,
 ⟨341,4606691693754758107,13822908571249069378,2139120295926,741545656317⟩,
 ⟨342,4606741575090066446,13822610412055554238,2145209326115,759743849280⟩,
 ⟨343,4606788847030491692,13822310557174453565,2150979826655,778045538801⟩,
 ⟨344,4606833495176542858,13822009097944468903,2156430039796,796445150006⟩,
 ⟨345,4606875505927962142,13821706126193002006,2161558305350,814937078196⟩,
 ⟨346,4606914866487867693,13821256212016314424,2166363061198,833515690551⟩,
 ⟨347,4606951564866651669,13820644773021468064,2170842843764,852175327844⟩,
 ⟨348,4606985589885632388,13820030865251653682,2174996288464,870910306171⟩,
 ⟨349,4607016931180459461,13819414675709125021,2178822130118,889714918675⟩,
 ⟨350,4607045579204270873,13818796392091185897,2182319203337,908583437289⟩,
 ⟨351,4607071525230601052,13818176202733015782,2185486442879,927510114479⟩,
 ⟨352,4607094761356039032,13817554296550301084,2188322883973,946489184997⟩,
 ⟨353,4607115280502635912,13816818069190697469,2190827662610,965514867633⟩,
 ⟨354,4607133076420060866,13815568527089489593,2193000015811,984581366980⟩,
 ⟨355,4607148143687505053,13814316690646925427,2194839281857,1003682875197⟩,
 ⟨356,4607160477715332849,13813062941184512188,2196344900488,1022813573782⟩,
 ⟨357,4607170074746479895,13811075264067651710,2197516413079,1041967635336⟩,
 ⟨358,4607176931857597536,13808562405421603808,2198353462776,1061139225348⟩,
 ⟨359,4607181046959943298,13804059571935370530,2198855794605,1080322503966⟩]
theorem d4r:b4U 0 (a0U 0) e3P=true:=by decide +kernel
theorem b4V:∀(l:List TE) (k:Nat),b4U k (a0U k) l=true->∀j,k<=j->j<360->∃t∈l,t.k=j /\ (t.a,t.b)=a0U j /\ b0U t.a t.c=true /\ b0U t.b t.s=true
 | [],k,h,j,h1,h2=>by
   simp only[b4U]at h;have:=a0g h;omega
 | t::r,k,h,j,h1,h2=>by
   simp only[b4U,and_eq_true]at h;obtain⟨⟨⟨⟨⟨a1,a2⟩,a3⟩,a4⟩,a5⟩,a6⟩:=h;have e:(t.a,t.b)=a0U k:=by rw[a0g a2,a0g a3]
   by_cases c:j=k
   ·subst c;exact⟨t,List.mem_cons_self,a0g a1,e,a4,a5⟩
   ·rw[e]at a6;obtain⟨t',h3,h4⟩:=b4V r (k+1) a6 j (by omega) h2;exact⟨t',List.mem_cons_of_mem _ h3,h4⟩
def Abs (x A:Rat):Prop := -A<=x /\ x<=A
theorem Abs.mono {x A B:Rat} (h:Abs x A) (hAB:A<=B):Abs x B:=⟨by have:=h.1;grind,by have:=h.2;grind⟩
theorem Abs.nn {x A:Rat} (h:Abs x A):0<=A:=by have:=h.1;have:=h.2;grind
theorem Abs.mul {x y A B:Rat} (hx:Abs x A) (hy:Abs y B):Abs (x*y) (A*B):=by
 obtain⟨h1,h2⟩:=hx;obtain⟨h3,h4⟩:=hy;have p1:=Rat.mul_nonneg (show 0<=A-x by grind) (show 0<=B-y by grind);have p2:=Rat.mul_nonneg (show 0<=A+x by grind) (show 0<=B+y by grind);have p3:=Rat.mul_nonneg (show 0<=A-x by grind) (show 0<=B+y by grind);have p4:=Rat.mul_nonneg (show 0<=A+x by grind) (show 0<=B-y by grind);constructor<;>grind
theorem Abs.near {x y e:Rat} (h:Abs (x-y) e):c2H x y e:=⟨by have:=h.2;grind,by have:=h.1;grind⟩
def e6F (w:Nat):Rat:=match Ieee.double.read w with
 |.number s m e=>RV s m e
 |_=>0
theorem IsR.val {w:Nat} {q:Rat} (h:IsR w q):q=e6F w:=by
 obtain⟨s,m,e,hr,_,rfl⟩:=h;unfold e6F;rw[hr]
def hh:Rat:=1/1099511627776
theorem p40:p2 (-40)=hh:=by
 have h1:p2 ((40:Int) + -40)=p2 40*p2 (-40):=a1B _ _;have h2:p2 ((40:Int) + -40)=1:=by
  have:((40:Int) + -40)=((0:Nat):Int):=by decide
  rw[this,a1O];rfl
 have h3:p2 40=1099511627776:=by
  have:(40:Int)=((40:Nat):Int):=rfl;rw[this,a1O];rfl
 rw[h2,h3]at h1;unfold hh;grind
theorem c0R {w C:Nat} (h:b0U w C=true):IsR w (e6F w) /\ C<=2199023255552 /\ c2H (e6F w) (((C:Rat)-1099511627776)*hh) hh:=by
 unfold b0U at h;split at h
 ·rename_i s m e hr;simp only[and_eq_true,decide_eq_true_eq]at h;obtain⟨⟨⟨⟨h1,h2⟩,h3⟩,h4⟩,h5⟩:=h;have hR:IsR w (RV s m e):=⟨s,m,e,hr,h2,rfl⟩;rw[<- hR.val];refine⟨hR,by simpa using h3,?_⟩;have hv:RV s m e=(((if s then -(m:Int)else(m:Int)):Int):Rat)*p2 e:=by
   unfold RV;cases s
   ·have:sgR false=1:=rfl;rw[this,if_neg (by decide),Rat.intCast_natCast];grind
   ·have:sgR true=-1:=rfl;rw[this,if_pos rfl,Rat.intCast_neg,Rat.intCast_natCast];grind
  rw[hv,<- p40];have e1:p2 (-40)=((2^(-40-e).toNat:Nat):Rat)*p2 e:=by
   have:(-40:Int)=((-40-e).toNat:Int)+e:=by omega
   have h6:=a1B ((-40-e).toNat:Int) e;rw[<- this,a1O]at h6;exact h6
  rw[e1];have hp:=a0Z e;have r1:(((if s then -(m:Int)else(m:Int)):Int):Rat)<=((C:Rat)-1099511627776)*((2^(-40-e).toNat:Nat):Rat)+((2^(-40-e).toNat:Nat):Rat):=by
   have:=Rat.intCast_le_intCast.2 h4;simpa[Rat.intCast_natCast]using this
  have r2:((C:Rat)-1099511627776)*((2^(-40-e).toNat:Nat):Rat)<=(((if s then -(m:Int)else(m:Int)):Int):Rat)+((2^(-40-e).toNat:Nat):Rat):=by
   have:=Rat.intCast_le_intCast.2 h5;simpa[Rat.intCast_natCast]using this
  generalize ((2^(-40-e).toNat:Nat):Rat)=g at *;generalize (((if s then -(m:Int)else(m:Int)):Int):Rat)=v at *;generalize p2 e=t at *;have m1:=a1f r1 (Rat.le_of_lt hp);have m2:=a1f r2 (Rat.le_of_lt hp);constructor<;>grind
 ·cases h
def tc (j:Nat):Rat:=e6F (a0U j).1
def ts (j:Nat):Rat:=e6F (a0U j).2
theorem e3Q (j:Nat) (hj:j<360):∃t∈e3P,t.k=j /\ IsR (a0U j).1 (tc j) /\ IsR (a0U j).2 (ts j) /\ t.c<=2199023255552 /\ t.s<=2199023255552 /\ c2H (tc j) (((t.c:Rat)-1099511627776)*hh) hh /\ c2H (ts j) (((t.s:Rat)-1099511627776)*hh) hh:=by
 obtain⟨t,h1,h2,h3,h4,h5⟩:=b4V e3P 0 d4r j (zero_le _) hj;have e1:t.a=(a0U j).1:=congrArg Prod.fst h3;have e2:t.b=(a0U j).2:=congrArg Prod.snd h3;rw[e1]at h4;rw[e2]at h5;obtain⟨a1,a2,a3⟩:=c0R h4;obtain⟨b1,b2,b3⟩:=c0R h5;exact⟨t,h1,h2,a1,b1,a2,b2,a3,b3⟩
theorem tcR {j:Nat} (hj:j<360):IsR (a0U j).1 (tc j):=let ⟨_,_,_,h,_⟩:=e3Q j hj;h
theorem tsR {j:Nat} (hj:j<360):IsR (a0U j).2 (ts j):=let ⟨_,_,_,_,h,_⟩:=e3Q j hj;h
theorem c0S {C:Nat} (h:C<=2199023255552):Abs (((C:Rat)-1099511627776)*hh) 1:=by
 have h1:=a2v C;have h2:(C:Rat)<=2199023255552:=by exact_mod_cast a0V h
 unfold hh;constructor<;>grind
theorem g4E {j:Nat} (hj:j<360):Abs (tc j) (1+hh) /\ Abs (ts j) (1+hh):=by
 obtain⟨t,_,_,_,_,h1,h2,h3,h4⟩:=e3Q j hj;have a:=c0S h1;have b:=c0S h2;obtain⟨a1,a2⟩:=a;obtain⟨b1,b2⟩:=b;obtain⟨c1,c2⟩:=h3;obtain⟨d1,d2⟩:=h4;exact⟨⟨by grind,by grind⟩,by grind,by grind⟩
theorem c0T (n:Int):-360<Int.tmod n 360 /\ Int.tmod n 360<360:=⟨Int.lt_tmod_of_pos n (by decide),Int.tmod_lt_of_pos n (by decide)⟩
theorem c2K {x:Int} (h1:-360<x) (h2:x<360):Int.tmod x 360=x:=by
 by_cases h:0<=x
 ·exact Int.tmod_eq_of_lt h h2
 ·have e:x=-(-x):=by omega
  rw[e,Int.neg_tmod,Int.tmod_eq_of_lt (by omega) (by omega)]
def md (n:Int):Nat:=(Int.tmod (Int.tmod n 360+360) 360).toNat
theorem c9y (n:Int):(md n:Int)=(Int.tmod n 360+360)%360:=by
 unfold md;have:=c0T n;rw[Int.tmod_eq_emod_of_nonneg (by omega)];omega
theorem a8a (n:Int):md n<360:=by
 have:=c9y n;omega
theorem d4s {x:Int} (h1:-360<x) (h2:x<360):(md x:Int)=(x+360)%360:=by rw[c9y,c2K h1 h2]
theorem f3q (n:Int):Int.tmod (wrap IntKind.i64 (Int.tmod n 360+360)) 360=(md n:Int):=by
 have:=c0T n;rw[w64 (by omega) (by omega),c9y,Int.tmod_eq_emod_of_nonneg (by omega)]
theorem a7s (n:Int):d3l (n,())=some ((md n:Int),()):=by
 unfold d3l;exact congrArg (fun z:Int=>some (z,())) (f3q n)
theorem b2n (n:Int):e1O (n,())=some ((md n:Int),()):=a7s n
def btw (ka kb:Int):Int:=let v:Int:=(md ((md kb:Int)-(md ka:Int)):Int);if v>360-v then 360-v else v
theorem c9z (ka kb:Int):f0r (ka,kb,())=some (btw ka kb,()):=by
 unfold f0r;have h1:=a8a ka;have h2:=a8a kb;have e1:d3l (kb,())=some ((md kb:Int),()):=a7s kb;have e2:d3l (ka,())=some ((md ka:Int),()):=a7s ka;have e3:d3l ((md kb:Int)-(md ka:Int),())=some ((md ((md kb:Int)-(md ka:Int)):Int),()):=a7s _;have h3:=a8a ((md kb:Int)-(md ka:Int));simp only[d8h,d8i,e1,e2,isSome_some,getD_some,cond_true];rw[w64 (by omega) (by omega)];simp only[e3,isSome_some,getD_some,cond_true];have e5:wrap IntKind.i64 (0-(md ((md kb:Int)-(md ka:Int)):Int))=-(md ((md kb:Int)-(md ka:Int)):Int):=by rw[w64 (by omega) (by omega)];omega
 rw[e5];have e4:d3l (-(md ((md kb:Int)-(md ka:Int)):Int),())=some ((md (-(md ((md kb:Int)-(md ka:Int)):Int)):Int),()):=a7s _;simp only[e4,isSome_some,getD_some,cond_true];have h6:=d4s (x := -(md ((md kb:Int)-(md ka:Int)):Int)) (by omega) (by omega);have key:a2l (md ((md kb:Int)-(md ka:Int)):Int) (md (-(md ((md kb:Int)-(md ka:Int)):Int)):Int)=btw ka kb:=by
  unfold btw a2l;generalize md ((md kb:Int)-(md ka:Int))=v at *;rw[h6];dsimp only;split<;>split<;>omega
 exact congrArg (fun z:Int=>some (z,())) key
theorem c9A (ka kb:Int):e8y (ka,kb,())=some (btw ka kb,()):=by
 unfold e8y;have h1:=a8a ka;have h2:=a8a kb;have e1:e1O (kb,())=some ((md kb:Int),()):=b2n kb;have e2:e1O (ka,())=some ((md ka:Int),()):=b2n ka;have e3:e1O ((md kb:Int)-(md ka:Int),())=some ((md ((md kb:Int)-(md ka:Int)):Int),()):=b2n _;have h3:=a8a ((md kb:Int)-(md ka:Int));simp only[e1P,e1Q,e1,e2,isSome_some,getD_some,cond_true];rw[w64 (by omega) (by omega)];simp only[e3,isSome_some,getD_some,cond_true];have e5:wrap IntKind.i64 (360-(md ((md kb:Int)-(md ka:Int)):Int))=360-(md ((md kb:Int)-(md ka:Int)):Int):=w64 (by omega) (by omega);rw[e5];unfold btw;generalize md ((md kb:Int)-(md ka:Int))=v at *;dsimp only;by_cases c:(v:Int)>360-(v:Int)
 ·have:decide ((v:Int)>360-(v:Int))=true:=by simpa using c
  rw[this,if_pos c];rfl
 ·have:decide ((v:Int)>360-(v:Int))=false:=by simpa using c
  rw[this,if_neg c];rfl
theorem c9B (z w:Nat×Nat):f0e (z,w,())=some (c0Q z w,()):=rfl
theorem c9C (z w:Nat×Nat):e8n (z,w,())=some (c0Q z w,()):=rfl
theorem e3R (n:Int):f5C (n,())=some (a0U (md n),()):=by
 have hlt:=a8a n;have e1:d3l (n,())=some ((md n:Int),()):=a7s n;have hl:b9F (((4607182418800017408,0),(md n:Int),()),())=some ((a0U (md n),()),()):=by
  have:=a1k (q:=b4n) (fun k=>((a0U k,((md n-k:Nat):Int),()),())) (md n) ((a0U (md n),()),()) ?_ ?_ (b9E (((4607182418800017408,0),(md n:Int),()),())) ?_
  ·exact this
  ·intro k f hk;unfold b4n;have e2:decide (((md n-k:Nat):Int)>0)=true:=by simp;omega
   have e3:wrap IntKind.i64 (((md n-k:Nat):Int)-1)=((md n-(k+1):Nat):Int):=by rw[w64 (by omega) (by omega)];omega
   have e4:f0e (a0U k,(4607181046959943561,4580687535080594718),())=some (a0U (k+1),()):=c9B _ _;simp only[e2,e3,f0f,f0g,e4,isSome_some,getD_some,cond_true]
  ·intro f;unfold b4n;simp
  ·simp only[b9E];omega
 unfold f5C;simp only[d8h,d8i,e1,c7h,c7i,hl,isSome_some,getD_some,cond_true]
theorem e3S (n:Int):f5d (n,())=some (a0U (md n),()):=by
 have hlt:=a8a n;have e1:e1O (n,())=some ((md n:Int),()):=b2n n;have hl:b8Y (((4607182418800017408,0),(md n:Int),()),())=some ((a0U (md n),()),()):=by
  have:=a1k (q:=b3P) (fun k=>((a0U k,((md n-k:Nat):Int),()),())) (md n) ((a0U (md n),()),()) ?_ ?_ (b8X (((4607182418800017408,0),(md n:Int),()),())) ?_
  ·exact this
  ·intro k f hk;unfold b3P;have e2:decide (((md n-k:Nat):Int)>0)=true:=by simp;omega
   have e3:wrap IntKind.i64 (((md n-k:Nat):Int)-1)=((md n-(k+1):Nat):Int):=by rw[w64 (by omega) (by omega)];omega
   have e4:e8n (a0U k,c2J,())=some (a0U (k+1),()):=c9C _ _;have e5:f4Y ()=some (c2J,()):=rfl;simp only[e2,e3,e8l,e8m,e5,e8o,e8p,e4,isSome_some,getD_some,cond_true]
  ·intro f;unfold b3P;simp
  ·simp only[b8X];omega
 unfold f5d;simp only[e1P,e1Q,e1,c5Q,c5R,hl,isSome_some,getD_some,cond_true]
def a9Z (z w:Nat×Nat):Nat:=a0a .add .f64 (a0a .mul .f64 z.1 w.1) (a0a .mul .f64 z.2 w.2)
def bm (z:Nat×Nat):Nat->Int×Nat
 |0=>(0,0)
 |k+1=>bif (k:Int)==0 then((k:Int),a9Z z (a0U k))else bif fgt .f64 (a9Z z (a0U k)) (bm z k).2 then((k:Int),a9Z z (a0U k))else bm z k
theorem e3T (z:Nat×Nat) (k:Nat):f5x (((k:Int),a0U k,(),(),(),()),(z,(bm z k).2,(bm z k).1,()))=some ((),(z,(bm z (k+1)).2,(bm z (k+1)).1,())):=by
 unfold f5x;have e1:f0d (z,a0U k,())=some (a9Z z (a0U k),()):=rfl;simp only[e2z,d3h,e1,isSome_some,getD_some,cond_true,bm];cases (k:Int)==0
 ·simp only[cond_false];cases fgt .f64 (a9Z z (a0U k)) (bm z k).2<;>rfl
 ·rfl
theorem e3U (z:Nat×Nat):f5y (((),()),z,0,0,())=some ((),(z,(bm z 360).2,(bm z 360).1,())):=by
 have hl:b9u (((),(4607182418800017408,0),0,()),(z,()),(0,()),(0,()),())=some ((),(z,()),((bm z 360).2,()),((bm z 360).1,()),()):=by
  have:=a1k (q:=b4j) (fun k=>(((),a0U k,(k:Int),()),(z,()),((bm z k).2,()),((bm z k).1,()),())) 360 ((),(z,()),((bm z 360).2,()),((bm z 360).1,()),()) ?_ ?_ (b9t (((),(4607182418800017408,0),0,()),(z,()),(0,()),(0,()),())) ?_
  ·exact this
  ·intro k f hk;unfold b4j;have e2:decide ((k:Int)<360)=true:=by simp;omega
   have e4:f0e (a0U k,(4607181046959943561,4580687535080594718),())=some (a0U (k+1),()):=c9B _ _;have e5:=e3T z k;simp only[e2,a2h k (by omega),f0f,f0g,e4,g0U,g0V,e5,isSome_some,getD_some,cond_true]
  ·intro f;unfold b4j;simp
  ·simp[b9t]
 unfold f5y;simp only[c6X,c6Y,hl,isSome_some,getD_some,cond_true]
def c9D (z:Nat×Nat):Bool:=feq .f64 z.1 0&&feq .f64 z.2 0
def b2o (z:Nat×Nat):Int:=bif !a3d z then -1 else bif c9D z then -1 else(bm z 360).1
theorem e3V (z:Nat×Nat):f0i (z,())=some (b2o z,()):=by
 unfold f0i b2o;have e1:F61 (z,())=some (a3d z,()):=a7L z;have e2:=e3U z;simp only[K61,G61,e1,g0Z,g1a,e2,isSome_some,getD_some,cond_true];show(bif !a3d z then some (-1,())else bif c9D z then some (-1,())else some ((bm z 360).1,()))=_;cases a3d z<;>cases c9D z<;>rfl
def bs (z:Nat×Nat):Nat->Int×Nat
 |0=>(0,a9Z z (a0U 0))
 |k+1=>bif fgt .f64 (a9Z z (a0U (k+1))) (bs z k).2 then(((k+1:Nat):Int),a9Z z (a0U (k+1)))else bs z k
def gk (x g:Nat):Nat->Nat
 |0=>g
 |k+1=>a0a .quo .f64 (a0a .add .f64 (gk x g k) (a0a .quo .f64 x (gk x g k))) 4611686018427387904
def b2p (x:Nat):Nat:=bif (fgt .f64 x 4427486594234968593||feq .f64 x 4427486594234968593)then(bif !(flt .f64 x 4861130398305394688||feq .f64 x 4861130398305394688)then 0 else gk x (b2F .f64 x 4607182418800017408) 60)else 0
set_option maxRecDepth 100000 in
theorem e3W (x:Nat):f0m (x,())=some (b2p x,()):=by
 have hl:b9x ((x,b2F .f64 x 4607182418800017408,0,()),())=some ((gk x (b2F .f64 x 4607182418800017408) 60,()),()):=by
  have:=a1k (q:=b4k) (fun k=>((x,gk x (b2F .f64 x 4607182418800017408) k,(k:Int),()),())) 60 ((gk x (b2F .f64 x 4607182418800017408) 60,()),()) ?_ ?_ (b9w ((x,b2F .f64 x 4607182418800017408,0,()),())) ?_
  ·exact this
  ·intro k f hk;unfold b4k;have e2:decide ((k:Int)<60)=true:=by simp;omega
   simp only[e2,a2h k (by omega),cond_true];rfl
  ·intro f;unfold b4k;simp
  ·simp[b9w]
 unfold f0m b2p;simp only[c6Z,c7a,hl,isSome_some,getD_some,cond_true];generalize gk x (b2F .f64 x 4607182418800017408) 60=g;cases (fgt .f64 x 4427486594234968593||feq .f64 x 4427486594234968593)<;>cases (flt .f64 x 4861130398305394688||feq .f64 x 4861130398305394688)<;>rfl
def d1d (z:Nat×Nat):Nat:=bif !a3d z then 0 else b2p (a9Z z z)
theorem e3X (z:Nat×Nat):f0o (z,())=some (d1d z,()):=by
 unfold f0o d1d;have e1:F61 (z,())=some (a3d z,()):=a7L z;have e2:f0d (z,z,())=some (a9Z z z,()):=rfl;have e3:f0m (a9Z z z,())=some (b2p (a9Z z z),()):=e3W _;simp only[K61,G61,e1,e2z,d3h,e2,g1l,g1m,e3,isSome_some,getD_some,cond_true];cases a3d z<;>rfl
theorem h1b {a b:Nat} {x y q A ε:Rat} (ha:IsR a x) (hb:IsR b y) (hy:y≠0) (hq:q*y=x) (B:Int) (h:Abs q A) (hA:A<=p2 B) (hε:p2 (B-52)<=ε) (h1:-1022<=B) (h2:B<=1022) :
 ∃r,IsR (a0a .quo .f64 a b) r /\ c2H r q ε:=by
 obtain⟨k1,k2⟩:=h;obtain⟨r,h3,h4,h5⟩:=g8P ha hb hy hq B h1 h2 (by grind) (by grind);exact⟨r,h3,by grind,by grind⟩
theorem Abs.add {x y A B:Rat} (hx:Abs x A) (hy:Abs y B):Abs (x+y) (A+B):=⟨by have:=hx.1;have:=hy.1;grind,by have:=hx.2;have:=hy.2;grind⟩
theorem Abs.sub {x y A B:Rat} (hx:Abs x A) (hy:Abs y B):Abs (x-y) (A+B):=⟨by have:=hx.1;have:=hy.2;grind,by have:=hx.2;have:=hy.1;grind⟩
theorem b7k {w:Nat} (s:Bool) (m:Nat) (e:Int) (h:Ieee.double.read w = .number s m e) (he:-1074<=e) {q:Rat} (hq:RV s m e=q):IsR w q:=⟨s,m,e,h,he,hq.symm⟩
theorem e3Y:IsR 0 0:=b7k false 0 (-1074) (by decide +kernel) (by decide) (a6c _ _)
theorem f3r:IsR 4607182418800017408 1:=b7k false 4503599627370496 (-52) (by decide +kernel) (by decide) (by decide +kernel)
theorem h1c:IsR 4611686018427387904 2:=b7k false 4503599627370496 (-51) (by decide +kernel) (by decide) (by decide +kernel)
theorem c9E:IsR 4726483295884279808 100000000:=b7k false 6710886400000000 (-26) (by decide +kernel) (by decide) (by decide +kernel)
theorem b0V {w:Nat} {s:Bool} {m:Nat} {e:Int} (h:Ieee.double.read w = .number s m e):-1074<=e:=by
 unfold Ieee.Format.read at h;dsimp only at h;rw[e3G]at h;split at h
 ·cases h;exact Int.le_refl _
 ·split at h
  ·cases h;omega
  ·split at h<;>cases h
theorem e3Z {s:Bool} {m:Nat} {e:Int} {A:Rat} (h:RV false m e<=A):Abs (RV s m e) A:=by
 have h0:0<=(m:Rat)*p2 e:=Rat.mul_nonneg (a2v m) (Rat.le_of_lt (a0Z e));have e1:RV false m e=(m:Rat)*p2 e:=by
  unfold RV;have:sgR false=1:=rfl;rw[this];grind
 cases s
 ·rw[e1]at h ⊢;constructor<;>grind
 ·have e2:RV true m e=-((m:Rat)*p2 e):=by
   unfold RV;have:sgR true=-1:=rfl;rw[this];grind
  rw[e1]at h;rw[e2];constructor<;>grind
theorem g4F {w:Nat} (h:le8 (w%2^63)=true):∃x,IsR w x /\ Abs x 100000000:=by
 have hr:=c0N w;cases hw:Ieee.double.read w with
 | number s m e =>
   rw[hw]at hr;have he:=b0V hw;have hI:IsR (w%2^63) (RV false m e):=⟨false,m,e,hr,he,rfl⟩;unfold le8 at h;rw[f7s hI c9E,e6E hI c9E]at h;simp only[Bool.or_eq_true,decide_eq_true_eq]at h;exact⟨_,⟨s,m,e,hw,he,rfl⟩,e3Z (by grind)⟩
 | infinity s =>
   rw[hw]at hr;exfalso;obtain⟨t,n,f,h1,_,_⟩:=c9E;unfold le8 flt feq at h;have:FloatKind.f64.format.order (w%2^63) 4726483295884279808=some .gt:=by
    show(Ieee.double.read (w%2^63)).order (Ieee.double.read _)=_;rw[hr,h1];rfl
   rw[this]at h;cases h
 | nan s t =>
   rw[hw]at hr;exfalso;unfold le8 flt feq at h;have:FloatKind.f64.format.order (w%2^63) 4726483295884279808=none:=by
    show(Ieee.double.read (w%2^63)).order (Ieee.double.read _)=_;rw[hr];rfl
   rw[this]at h;cases h
theorem e0b {j:Nat} (hj:j<360):Abs (tc j) (1000001/1000000) /\ Abs (ts j) (1000001/1000000):=by
 have h:=g4E hj;have e:1+hh<=1000001/1000000:=by decide +kernel
 exact⟨h.1.mono e,h.2.mono e⟩
end Go.Proofs.YtjomnmoekchfeaaGreatDoor.AM
